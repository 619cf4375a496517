/- Calls that write through what they are handed: the call. -/
import Derived.Test.YtmcaghldcabnnaaRvFortyOne
namespace Go.V
open Go.RowKit

variable {α : Type}

def zero2 (i j : Nat) : Bool := and (Nat.beq i 0) (Nat.beq j 0)

theorem zero2_eq {i j : Nat} (h : zero2 i j = true) : i = 0 ∧ j = 0 := by
  simp only [zero2, Bool.and_eq_true] at h
  exact ⟨Nat.eq_of_beq_eq_true h.1, Nat.eq_of_beq_eq_true h.2⟩

/-- The root of a box, if that is what is pointed to. -/
def boxPath : Path → Bool
  | [] => false
  | e :: l => match l with
    | [] => zero2 e.1 e.2
    | _ :: _ => false

theorem boxPath_eq {p : Path} (h : boxPath p = true) : p = [(0, 0)] := by
  unfold boxPath at h
  split at h
  · cases h
  · rename_i e l
    split at h
    · obtain ⟨i, j⟩ := e
      have := zero2_eq h
      simp only at this
      rw [this.1, this.2]
    · cases h

def ptC : D → Option (Nat × (Nat × Nat))
  | .v (.c (.pt r p i j _)) => match boxPath p with
    | true => some (r, (i, j))
    | false => none
  | _ => none

def ptRoot (d : D) : Option Nat := (ptC d).bind fun t => match zero2 t.2.1 t.2.2 with
  | true => some t.1
  | false => none

theorem ptC_some {d : D} {t : Nat × (Nat × Nat)} (h : ptC d = some t) : ∃ sz, d = .v (.c (.pt t.1 [(0, 0)] t.2.1 t.2.2 sz)) := by
  unfold ptC at h
  split at h
  · rename_i r p i j sz
    split at h
    · rename_i hb
      simp only [Option.some.injEq] at h
      subst h
      rw [boxPath_eq hb]
      exact ⟨sz, rfl⟩
    · cases h
  · cases h

theorem ptRoot_some {d : D} {r : Nat} (h : ptRoot d = some r) : ∃ sz, d = .v (.c (.pt r [(0, 0)] 0 0 sz)) := by
  unfold ptRoot at h
  obtain ⟨t, h1, h2⟩ := Option.bind_eq_some_iff.mp h
  split at h2
  · rename_i hz
    simp only [Option.some.injEq] at h2
    subst h2
    obtain ⟨sz, h3⟩ := ptC_some h1
    have := zero2_eq hz
    rw [this.1, this.2] at h3
    exact ⟨sz, h3⟩
  · cases h2

/-- The boxes handed on: which parameter, and which root. -/
def mutPr (cx : Ctx) (x : X) : Nat → List PS → List Operand → Option (List (Nat × Nat))
  | _, [], _ => some []
  | j, p :: l, os => match os with
    | [] => none
    | o :: os => match isMut p with
      | true => ((evalD cx x o).bind ptRoot).bind fun r => (mutPr cx x (j + 1) l os).map fun rs => (j, r) :: rs
      | false => mutPr cx x (j + 1) l os

def ptHint : Ty → Option Ty
  | .ptr e => some e
  | _ => none

/-- A box as one datum. -/
def fixT (h : Option Ty) (t : T) : Option T := match h with
  | some e => match t with
    | .pp .own cs => (packAll .own e cs).map fun d => .pt .own e d
    | t => some t
  | none => some t

theorem fixT_rep {w : World} {S : Fl → Nat → Prop} {h : Option Ty} {t t' : T} {v : Value} {φ : Lay} (he : fixT h t = some t') (hr : RepO w S t v φ) : RepO w S t' v φ := by
  unfold fixT at he
  split at he
  · split at he
    · rename_i e cs
      obtain ⟨d, h1, rfl⟩ := Option.map_eq_some_iff.mp he
      have h1 := packAll_some h1
      cases hr with
      | sh _ _ _ ht => simp [T.isSh] at ht
      | box _ cs' ht b arr el vs φ hb hsz hc hr h0 hn =>
        simp only [T.box?, Option.some.injEq] at ht
        subst ht
        subst h1
        exact .box _ _ rfl b arr el vs φ hb hsz hc hr h0 hn
    · simp only [Option.some.injEq] at he; subst he; exact hr
  · simp only [Option.some.injEq] at he; subst he; exact hr

/-- What is in a box that is handed on. -/
def mdat (x : X) (r : Nat) (p : PS) : Option (den p.e) := (look x.roots r).bind fun row => match row with
  | [] => none
  | t :: l => match l with
    | [] => (fixT (ptHint p.e) t).bind fun t' => match t' with
      | .pt .own e d => packAll .own p.e [.pt .own e d]
      | _ => none
    | _ :: _ => none

def argMK (cx : Ctx) (x0 x : X) (p : PS) (o : Operand) (K : den p.e → Option α) : Option α := match isMut p with
  | true => ((evalD cx x o).bind ptRoot).bind fun r => (mdat x r p).bind K
  | false => argK cx x0 p o K

def argsMK (cx : Ctx) (x0 x : X) : (l : List PS) → List Operand → (den (argTy l) → Option α) → Option α
  | [], os, K => match os with
    | [] => K ()
    | _ :: _ => none
  | [p], os, K => (one? os).bind fun o => argMK cx x0 x p o K
  | p :: q :: l, os, K => match os with
    | o :: os => argMK cx x0 x p o fun d => argsMK cx x0 x (q :: l) os fun e => K (d, e)
    | [] => none

def noDup : List Nat → Bool
  | [] => true
  | r :: l => and (!(mem l r)) (noDup l)

/-- The boxes are hung where they were. -/
def giveBackK (k : Nat) : Nat → List Nat → X → (X → Option α) → Option α
  | _, [], x, K => K x
  | n, r :: rs, x, K => takeCK x none (.pt k [(0, n)] 0 0 0) fun t x1 => match t with
    | .pt .own _ _ => (x1.hang r [unT t]).bind fun x2 => giveBackK k (n + 1) rs x2 K
    | _ => none

/-- Who points to a box that was handed on does so again. -/
def ptsE (env : List (Nat × D)) (rs : List Nat) (k : Nat) : List (Nat × D) → List (Nat × D)
  | [] => []
  | e :: l => match Nat.beq e.1 k with
    | true => ptsE env rs k l
    | false => match look env e.1 with
      | some d => match ptC d with
        | some t => match mem rs t.1 with
          | true => (e.1, d) :: ptsE env rs k l
          | false => ptsE env rs k l
        | none => ptsE env rs k l
      | none => ptsE env rs k l

def callRsK (cx : Ctx) (nt : Fr) (F : Fn) (x : X) (rs : List Nat) (args : List Operand) (k : Nat) (K : X → Option α) : Option α :=
  match and (noDup rs) (and (allB (fun r => lockOk x r []) rs) (!(mem rs k))) with
    | true => argsMK cx (x.hide rs) x F.sg.ps args fun d => (F.sem d).bind fun r => ((x.hide rs).hang k (resRow F.sg.rs r)).bind fun x1 => putK nt x1 k (resDM k F.sg r) fun x2 =>
        giveBackK k (offM F.sg) rs x2 fun x3 => K { x3 with env := app (ptsE x.env rs k x.env) x3.env }
    | false => none

def callMK (cx : Ctx) (nt : Fr) (F : Fn) (x : X) (args : List Operand) (k : Nat) (K : X → Option α) : Option α :=
  (mutPr cx x 0 F.sg.ps args).bind fun pr => callRsK cx nt F x (mapL Prod.snd pr) args k K

def callAK (cx : Ctx) (nt : Fr) (Δ : List (Nat × Fn)) (x : X) (f : FuncId) (args : List Operand) (k : Nat) (K : X → Option α) : Option α :=
  (look Δ f).bind fun F => match hasMut F.sg.ps with
    | true => callMK cx nt F x args k K
    | false => callK cx nt F x args k K

theorem ptsE_some {env : List (Nat × D)} {rs : List Nat} {k : Nat} : ∀ {l : List (Nat × D)} {j : Nat} {d : D}, look (ptsE env rs k l) j = some d →
    look env j = some d ∧ j ≠ k ∧ ∃ r i i' sz, d = .v (.c (.pt r [(0, 0)] i i' sz)) ∧ r ∈ rs
  | [], j, d, h => by cases h
  | e :: l, j, d, h => by
    unfold ptsE at h
    split at h
    · exact ptsE_some h
    rename_i hk
    split at h
    rotate_left
    · exact ptsE_some h
    rename_i d0 hd0
    split at h
    rotate_left
    · exact ptsE_some h
    rename_i t ht
    split at h
    rotate_left
    · exact ptsE_some h
    rename_i hm
    rw [look_cons] at h
    by_cases ej : j = e.1
    · rw [if_pos ej, Option.some.injEq] at h
      subst h
      obtain ⟨sz, hd⟩ := ptC_some ht
      exact ⟨by rw [ej]; exact hd0, by rw [ej]; exact Nat.ne_of_beq_eq_false hk, t.1, t.2.1, t.2.2, sz, hd, (mem_iff _ _).1 hm⟩
    · rw [if_neg ej] at h
      exact ptsE_some h

theorem noDup_spec : ∀ {l : List Nat}, noDup l = true → l.Nodup
  | [], _ => List.nodup_nil
  | r :: l, h => by
    simp only [noDup, Bool.and_eq_true, Bool.not_eq_true'] at h
    refine List.nodup_cons.2 ⟨fun hm => ?_, noDup_spec h.2⟩
    rw [(mem_iff _ _).2 hm] at h; exact absurd h.1 (by decide)

section
variable {c : Ctx} {B : Base} {s : Sit} {x : X} {a : Act} {w : World} {nt : Fr}

theorem box_lay {w : World} {S : Fl → Nat → Prop} {t : T} {v : Value} {φ : Lay} {cs : List T} (h : RepO w S t v φ) (hb : t.box? = some cs) : φ [] = some v ∧ ∃ b, v = .pointer (some ⟨b, 0, none⟩) := by
  cases h with
  | sh _ _ _ ht =>
    cases t with
    | pp f _ => cases f <;> simp [T.box?, T.isSh] at hb ht
    | pt f _ _ => cases f <;> simp [T.box?, T.isSh] at hb ht
    | po => simp [T.isSh] at ht
    | _ => simp [T.box?] at hb
  | nil => simp [T.box?] at hb
  | sl => simp [T.box?] at hb
  | slo => simp [T.box?] at hb
  | box _ _ _ b arr el vs φ hb hsz hc hr h0 hn => exact ⟨h0, b, rfl⟩
  | vr => simp [T.box?] at hb

def oneLay (ψ : Lay) : Lay := fun p => match p with
  | [] => none
  | (i, j) :: q => if i = 0 ∧ j = 0 then ψ q else none

theorem oneLay_some {ψ : Lay} {q : Path} {y : Value} (h : oneLay ψ q = some y) : ∃ q', q = (0, 0) :: q' ∧ ψ q' = some y := by
  unfold oneLay at h
  split at h
  · cases h
  · rename_i i j q'
    split at h
    · rename_i e
      rw [e.1, e.2]
      exact ⟨q', rfl, h⟩
    · cases h

theorem oneLay_rep {w : World} {S : Fl → Nat → Prop} {t : T} {v : Value} {ψ : Lay} (h : RepO w S t v ψ) : RepO w S (.vr [t]) .nilIface (oneLay ψ) := by
  refine .vr _ _ (fun _ => v) _ (fun j t' e => ?_) rfl (fun i j hij => ?_)
  · cases j with
    | zero =>
      simp only [List.getElem?_cons_zero, Option.some.injEq] at e
      subst e
      exact h
    | succ j => simp at e
  · funext q
    have hno : ¬ (i = 0 ∧ j = 0) := by
      rintro ⟨e1, e2⟩
      subst e1 e2
      rcases hij with hij | hij
      · exact hij rfl
      · simp at hij
    simp [Lay.at, oneLay, hno, noLay]

theorem oneLay_out {ψ : Lay} (h : OwnOut B s w ψ) : OwnOut B s w (oneLay ψ) where
  inj := fun p y p' y' b e1 e2 e3 e4 => by
    obtain ⟨q, rfl, g1⟩ := oneLay_some e1
    obtain ⟨q', rfl, g2⟩ := oneLay_some e3
    rw [h.inj _ _ _ _ _ g1 e2 g2 e4]
  own := fun q y b e1 e2 => by
    obtain ⟨q', rfl, g1⟩ := oneLay_some e1
    exact h.own _ _ _ g1 e2
  out := fun q y b e1 e2 => by
    obtain ⟨q', rfl, g1⟩ := oneLay_some e1
    exact h.out _ _ _ g1 e2

theorem kill_pt {k n r m i j sz : Nat} (h : r ≠ k ∨ m ≠ n) : C.kill k [n] (.pt r [(0, m)] i j sz) = .pt r [(0, m)] i j sz := by
  have : hits k [n] (.pt r [(0, m)] i j sz) = false := by
    unfold hits
    simp only [C.ats, anyL]
    cases e : Nat.beq r k with
    | false => rfl
    | true =>
      have e1 := Nat.eq_of_beq_eq_true e
      have hmn : m ≠ n := by
        rcases h with h | h
        · exact absurd e1 h
        · exact h
      simp only [jp, pre]
      cases e2 : Nat.beq n m with
      | false => rfl
      | true => exact absurd (Nat.eq_of_beq_eq_true e2).symm hmn
  unfold C.kill
  rw [this]

/-- The boxes are where they were. -/
theorem giveBack_sound {k : Nat} : ∀ (rs : List Nat) (us : List Value) {n : Nat} {s : Sit} {x : X} {K : X → Option α} {q : α}, RelW B s x a w → rs.Nodup → k ∉ rs → us.length = rs.length →
    (∀ (i : Nat) (u : Value), us[i]? = some u → RepC w s (.pt k [(0, n + i)] 0 0 0) u) → giveBackK k n rs x K = some q →
    ∃ (s' : Sit) (x' : X), K x' = some q ∧ RelW B s' x' a w ∧ (∀ (i r : Nat) (u : Value), rs[i]? = some r → us[i]? = some u → ∃ b, u = .pointer (some ⟨b, 0, none⟩) ∧ ∀ i' j' sz, RepC w s' (.pt r [(0, 0)] i' j' sz) (.pointer (some ⟨b, i' * sz + j', none⟩))) ∧
      (∀ r i' j' sz v, r ∉ rs → r ≠ k → RepC w s (.pt r [(0, 0)] i' j' sz) v → RepC w s' (.pt r [(0, 0)] i' j' sz) v)
  | [], us, n, s, x, K, q, h, _, _, _, _, he => ⟨s, x, he, h, fun i r u e => by simp at e, fun r i' j' sz v _ _ hr => hr⟩
  | r :: rs, us, n, s, x, K, q, h, hnd, hk, hlen, hrep, he => by
    cases us with
    | nil => simp at hlen
    | cons u us =>
      have hnd' := List.nodup_cons.1 hnd
      have hkr : k ≠ r := fun e => hk (by rw [e]; exact List.mem_cons_self)
      have hkrs : k ∉ rs := fun e => hk (List.mem_cons_of_mem _ e)
      unfold giveBackK at he
      obtain ⟨t, x1, s1, ψ, he1, ht⟩ := takeC_sound h (hrep 0 u rfl) he
      split at he1
      rotate_left
      · cases he1
      rename_i e d
      obtain ⟨x2, hx2, he2⟩ := Option.bind_eq_some_iff.mp he1
      obtain ⟨hψ, b, hb⟩ := box_lay ht.rep (t := .pt .own e d) rfl
      subst hb
      have hh := ht.rel.hang (row := [unT (.pt .own e d)]) (by rw [ht.S]; exact oneLay_rep (unT_rep ht.rep)) (oneLay_out ht.out) hx2
      have hpre : ∀ {z : C} {v : Value}, RepC w s z v → z.kill k [n] = z → (∀ rp ∈ z.ats, rp.1 ≠ r) → RepC w (setΦ s1 r (oneLay ψ)) z v := by
        intro z v hz hkz hat
        have h1 := ht.live z v hz
        have : killBy (.pt k [(0, n + 0)] 0 0 0) z = z := hkz
        rw [this] at h1
        exact h1.mono (fun _ _ _ => rfl) (fun _ _ h => h) rfl (fun rp hrp => by rw [setΦ_ne s1 _ (hat rp hrp)])
      obtain ⟨s', x', k1, k2, k3, k4⟩ := giveBack_sound rs us hh hnd'.2 hkrs (by simpa using hlen) (fun i u1 e1 => by
        have := hrep (i + 1) u1 (by simpa using e1)
        refine hpre (by rw [show n + 1 + i = n + (i + 1) by omega]; exact this) (kill_pt (.inr (by omega))) (fun rp hrp => ?_)
        simp only [C.ats, List.mem_singleton] at hrp
        rw [hrp]; exact hkr) he2
      refine ⟨s', x', k1, k2, fun i r1 u1 e1 e2 => ?_, fun r1 i' j' sz v hr1 hr2 hrep1 => ?_⟩
      · cases i with
        | succ i => exact k3 i r1 u1 (by simpa using e1) (by simpa using e2)
        | zero =>
          simp only [List.getElem?_cons_zero, Option.some.injEq] at e1 e2
          subst e1 e2
          refine ⟨b, rfl, fun i' j' sz => k4 r i' j' sz _ hnd'.1 (fun e => hkr e.symm) ?_⟩
          have := RepC.pt (w := w) (s := setΦ s1 r (oneLay ψ)) r [(0, 0)] i' j' sz (.pointer (some ⟨b, 0, none⟩)) b (by rw [setΦ_same]; exact hψ) rfl
          simpa [offOf] using this
      · refine k4 r1 i' j' sz v (fun e => hr1 (List.mem_cons_of_mem _ e)) hr2 (hpre hrep1 (kill_pt (.inl hr2)) (fun rp hrp => ?_))
        simp only [C.ats, List.mem_singleton] at hrp
        rw [hrp]
        exact fun e => hr1 (by have e : r1 = r := e; rw [e]; exact List.mem_cons_self)

theorem RepD.lentAny {s0 : Sit} {d : D} {v : Value} (h : RepD w (lentSit s0) d v) {sc : Sit} (hS : sc.S = lent s0) (hF : sc.F = s0.F) : RepD w sc d v :=
  h.mono (fun _ _ _ => rfl) (fun f b hb => by rw [hS]; exact hb) hF (fun rp hrp => by
    obtain ⟨z, hz⟩ := h.somewhere rp hrp
    cases hz)

theorem mdat_sound (h : RelW B s x a w) {r : Nat} {p : PS} {d : den p.e} (he : mdat x r p = some d) : (∃ y, RepO w s.S (.vr (mapL unT (cells .own p.e d))) y (s.Φ r)) ∧ ∃ b, s.Φ r [(0, 0)] = some (.pointer (some ⟨b, 0, none⟩)) := by
  unfold mdat at he
  obtain ⟨row, h1, he⟩ := Option.bind_eq_some_iff.mp he
  split at he
  · cases he
  rename_i t l
  split at he
  rotate_left
  · cases he
  obtain ⟨t', h2, he⟩ := Option.bind_eq_some_iff.mp he
  split at he
  rotate_left
  · cases he
  rename_i e0 d0
  have h3 := packAll_some he
  obtain ⟨y, hy⟩ := h.roots r _ h1
  rw [← h3]
  generalize s.Φ r = φ at hy
  cases hy with
  | sh _ _ _ ht => simp [T.isSh] at ht
  | box _ _ ht => simp [T.box?] at ht
  | vr _ _ vs _ hr h0 hn =>
    have hc := fixT_rep h2 (hr 0 t rfl)
    refine ⟨⟨y, .vr _ _ vs _ (fun j t1 e => ?_) h0 (fun i j hij => hn i j ?_)⟩, ?_⟩
    · cases j with
      | zero =>
        simp only [mapL, List.getElem?_cons_zero, Option.some.injEq] at e
        subst e
        exact unT_rep hc
      | succ j => simp [mapL] at e
    · rcases hij with hij | hij
      · exact .inl hij
      · refine .inr ?_
        cases j with
        | zero => simp [mapL] at hij
        | succ j => simp
    · obtain ⟨g1, b, g2⟩ := box_lay hc (t := .pt .own e0 d0) rfl
      rw [g2] at g1
      exact ⟨b, g1⟩

structure MArg (w : World) (s s0 : Sit) (a : Act) (m : Nat) (js : List Nat) (n : Nat) (os : List Operand) (pr : List (Nat × Nat)) (Ds : List D) (rows : List (Nat × List T)) : Prop where
  len : os.length = n
  hjs : mapL Prod.fst pr = js
  env : ∀ (j : Nat) D, Ds[j]? = some D → ∃ v, (os.map a.eval)[j]? = some v ∧ ∀ sc : Sit, sc.S = lent s0 → sc.F = s0.F → (∀ j r, (j, r) ∈ pr → sc.Φ j = s.Φ r) → RepD w sc D v
  hrows : ∀ j row, look rows j = some row → ∃ r, (j, r) ∈ pr ∧ ∃ y, RepO w s.S (.vr row) y (s.Φ r)
  hpr : ∀ j r, (j, r) ∈ pr → m ≤ j ∧ look rows j ≠ none ∧ ∃ b, s.Φ r [(0, 0)] = some (.pointer (some ⟨b, 0, none⟩)) ∧ (os.map a.eval)[j - m]? = some (.pointer (some ⟨b, 0, none⟩))

theorem look_appL {β : Type} (l m : List (Nat × β)) (k : Nat) : look (app l m) k = match look l k with | some x => some x | none => look m k := look_app l m k

theorem MArg.skip {s0 : Sit} {m n : Nat} {js : List Nat} {os : List Operand} {pr : List (Nat × Nat)} {Ds : List D} {rows : List (Nat × List T)} (h : MArg w s s0 a (m + 1) js n os pr Ds rows) {o : Operand} {D0 : D} (h0 : RepD w (lentSit s0) D0 (a.eval o)) :
    MArg w s s0 a m js (n + 1) (o :: os) pr (D0 :: Ds) rows where
  len := by simp [h.len]
  hjs := h.hjs
  env := fun j D e => by
    cases j with
    | zero =>
      simp only [List.getElem?_cons_zero, Option.some.injEq] at e
      subst e
      exact ⟨_, rfl, fun sc hS hF _ => h0.lentAny hS hF⟩
    | succ j =>
      obtain ⟨v, g1, g2⟩ := h.env j D (by simpa using e)
      exact ⟨v, by simpa using g1, g2⟩
  hrows := h.hrows
  hpr := fun j r e => by
    obtain ⟨g1, g2, b, g3, g4⟩ := h.hpr j r e
    refine ⟨by omega, g2, b, g3, ?_⟩
    rw [show j - m = (j - (m + 1)) + 1 by omega]
    simpa using g4

theorem MArg.push {s0 : Sit} {m n : Nat} {js : List Nat} {os : List Operand} {pr : List (Nat × Nat)} {Ds : List D} {rows : List (Nat × List T)} (h : MArg w s s0 a (m + 1) js n os pr Ds rows) {o : Operand} {r b : Nat} {row : List T}
    (h1 : ∃ y, RepO w s.S (.vr row) y (s.Φ r)) (h2 : s.Φ r [(0, 0)] = some (.pointer (some ⟨b, 0, none⟩))) (h3 : a.eval o = .pointer (some ⟨b, 0, none⟩)) :
    MArg w s s0 a m (m :: js) (n + 1) (o :: os) ((m, r) :: pr) (.v (.c (.pt m [(0, 0)] 0 0 0)) :: Ds) ((m, row) :: rows) where
  len := by simp [h.len]
  hjs := by simp only [mapL, h.hjs]
  env := fun j D e => by
    cases j with
    | zero =>
      simp only [List.getElem?_cons_zero, Option.some.injEq] at e
      subst e
      refine ⟨_, rfl, fun sc hS hF hΦ => ?_⟩
      rw [h3]
      have := RepC.pt (w := w) (s := sc) m [(0, 0)] 0 0 0 (.pointer (some ⟨b, 0, none⟩)) b (by rw [hΦ m r List.mem_cons_self]; exact h2) rfl
      exact .v _ _ (.c _ _ (by simpa [offOf] using this))
    | succ j =>
      obtain ⟨v, g1, g2⟩ := h.env j D (by simpa using e)
      exact ⟨v, by simpa using g1, fun sc hS hF hΦ => g2 sc hS hF (fun j r hm => hΦ j r (List.mem_cons_of_mem _ hm))⟩
  hrows := fun j row' e => by
    rw [look_cons] at e
    split at e
    · rename_i ej
      simp only [Option.some.injEq] at e
      subst e ej
      exact ⟨r, List.mem_cons_self, h1⟩
    · obtain ⟨r', g1, g2⟩ := h.hrows j row' e
      exact ⟨r', List.mem_cons_of_mem _ g1, g2⟩
  hpr := fun j r' e => by
    rcases List.mem_cons.1 e with e | e
    · simp only [Prod.mk.injEq] at e
      obtain ⟨rfl, rfl⟩ := e
      refine ⟨Nat.le_refl _, by rw [look_cons, if_pos rfl]; simp, b, h2, ?_⟩
      rw [Nat.sub_self]
      simp [h3]
    · obtain ⟨g1, g2, b', g3, g4⟩ := h.hpr j r' e
      refine ⟨by omega, ?_, b', g3, ?_⟩
      · rw [look_cons, if_neg (by omega)]; exact g2
      · rw [show j - m = (j - (m + 1)) + 1 by omega]
        simpa using g4

theorem argM_one {x0 : X} {s0 : Sit} (hG : Fit B c) (h : RelW B s x a w) (h0 : RelW B s0 x0 a w) {m : Nat} {p : PS} {l : List PS} {o : Operand} {os : List Operand} {pr : List (Nat × Nat)} {K : den p.e → Option α} {q : α}
    (hp : mutPr c x m (p :: l) (o :: os) = some pr) (he : argMK c x0 x p o K = some q) :
    ∃ d1 pr', K d1 = some q ∧ mutPr c x (m + 1) l os = some pr' ∧ ∀ n Ds rows, MArg w s s0 a (m + 1) (mutJs (m + 1) l) n os pr' Ds rows → MArg w s s0 a m (mutJs m (p :: l)) (n + 1) (o :: os) pr (mparD m p d1 :: Ds) (app (mrow m p d1) rows) := by
  unfold mutPr at hp
  unfold argMK at he
  simp only at hp
  cases hm : isMut p with
  | true =>
    rw [hm] at hp he
    simp only at hp he
    obtain ⟨r, h1, h2⟩ := Option.bind_eq_some_iff.mp hp
    obtain ⟨pr', h3, rfl⟩ := Option.map_eq_some_iff.mp h2
    rw [h1, Option.bind_some] at he
    obtain ⟨d1, h4, h5⟩ := Option.bind_eq_some_iff.mp he
    obtain ⟨d0, h6, h7⟩ := Option.bind_eq_some_iff.mp h1
    obtain ⟨sz, rfl⟩ := ptRoot_some h7
    obtain ⟨g1, b, g2⟩ := mdat_sound h h4
    have hv := evalD_sound hG h h6
    have hev : a.eval o = .pointer (some ⟨b, 0, none⟩) := by
      generalize a.eval o = v at hv
      cases hv with
      | v _ _ hv => cases hv with
        | c _ _ hv => cases hv with
          | pt _ _ _ _ _ z b' hΦ hb =>
            rw [g2, Option.some.injEq] at hΦ
            subst hΦ
            simp only [blkOf, Option.some.injEq] at hb
            subst hb
            simp [offOf]
    refine ⟨d1, pr', h5, h3, fun n Ds rows hM => ?_⟩
    have := hM.push (o := o) g1 g2 hev
    simp only [mutJs, hm, mparD, mrow, app]
    exact this
  | false =>
    rw [hm] at hp he
    simp only at hp he
    obtain ⟨d1, h5, h6⟩ := arg_sound hG h0 he
    refine ⟨d1, pr, h5, hp, fun n Ds rows hM => ?_⟩
    have := hM.skip (o := o) h6
    simp only [mutJs, hm, mparD, mrow, app]
    exact this

theorem argsM_sound {x0 : X} {s0 : Sit} (hG : Fit B c) (h : RelW B s x a w) (h0 : RelW B s0 x0 a w) : ∀ (l : List PS) {m : Nat} {os : List Operand} {pr : List (Nat × Nat)} {K : den (argTy l) → Option α} {q : α},
    mutPr c x m l os = some pr → argsMK c x0 x l os K = some q → ∃ d, K d = some q ∧ MArg w s s0 a m (mutJs m l) l.length os pr (mparsD m l d) (mrows m l d)
  | [], m, os, pr, K, q, hp, he => by
    cases os with
    | cons => cases he
    | nil =>
      simp only [mutPr, Option.some.injEq] at hp
      subst hp
      exact ⟨(), he, rfl, rfl, fun j D e => by simp [mparsD] at e, fun j row e => by simp [mrows, look] at e, fun j r e => by simp at e⟩
  | [p], m, os, pr, K, q, hp, he => by
    obtain ⟨o, h1, he⟩ := Option.bind_eq_some_iff.mp he
    have h1 := one?_some h1
    subst h1
    obtain ⟨d1, pr', k1, k2, k3⟩ := argM_one hG h h0 hp he
    simp only [mutPr, Option.some.injEq] at k2
    subst k2
    have := k3 0 [] [] ⟨rfl, rfl, fun j D e => by simp at e, fun j row e => by simp [look] at e, fun j r e => by simp at e⟩
    refine ⟨d1, k1, ?_⟩
    rw [app_eq, List.append_nil] at this
    exact this
  | p :: q' :: l, m, os, pr, K, q, hp, he => by
    cases os with
    | nil => cases he
    | cons o os =>
      obtain ⟨d1, pr', k1, k2, k3⟩ := argM_one (K := fun d => argsMK c x0 x (q' :: l) os fun e => K (d, e)) hG h h0 hp he
      obtain ⟨e, m1, m2⟩ := argsM_sound hG h h0 (q' :: l) k2 k1
      exact ⟨(d1, e), m1, k3 _ _ _ m2⟩

theorem mem_mapL {β γ : Type} {g : β → γ} {l : List β} {y : γ} : y ∈ mapL g l ↔ ∃ x ∈ l, g x = y := by rw [mapL_eq]; exact List.mem_map

theorem callM_sound (hG : Fit B c) (hnt : B.nt = nt) (h : RelW B s x a w) {f : FuncId} {F : Fn} (hF : SoundM c.P c.G f F.sg F.sem) {args : Array Operand} {k : Nat} {K : X → Option α} {q : α}
    (he : callMK c nt F x args.toList k K = some q) {Kp : Act → World → Prop} (hK : ∀ x' s' v w', K x' = some q → RelW B s' x' (a.gput B k v) w' → Kp (a.gput B k v) w') :
    Calls c.P f (args.map a.eval) w fun e w' => match e with
      | .returned v => Kp (a.gput B k v) w'
      | _ => False := by
  unfold callMK at he
  obtain ⟨pr, hpr, he⟩ := Option.bind_eq_some_iff.mp he
  generalize hrs : mapL Prod.snd pr = rs at he
  unfold callRsK at he
  split at he
  rotate_left
  · cases he
  rename_i hb
  simp only [Bool.and_eq_true, Bool.not_eq_true'] at hb
  obtain ⟨b1, b2, b3⟩ := hb
  have b3 : k ∉ rs := fun e => by rw [(mem_iff _ _).2 e] at b3; cases b3
  have hnd := noDup_spec b1
  have h0 := h.hide b2
  obtain ⟨d, he1, hM⟩ := argsM_sound hG h h0 F.sg.ps hpr he
  obtain ⟨r, h5, he2⟩ := Option.bind_eq_some_iff.mp he1
  obtain ⟨x1, h7, he3⟩ := Option.bind_eq_some_iff.mp he2
  -- who is called sees
  have hfn : ∀ j r r', (j, r) ∈ pr → (j, r') ∈ pr → r = r' := by
    have hjs : (mapL Prod.fst pr).Nodup := by
      rw [hM.hjs]
      have key : ∀ (l : List PS) (m : Nat), (mutJs m l).Nodup ∧ ∀ j ∈ mutJs m l, m ≤ j := by
        intro l
        induction l with
        | nil => intro m; exact ⟨List.nodup_nil, fun j hj => by simp [mutJs] at hj⟩
        | cons p l ih =>
          intro m
          obtain ⟨i1, i2⟩ := ih (m + 1)
          unfold mutJs
          split
          · refine ⟨List.nodup_cons.2 ⟨fun e => by have := i2 m e; omega, i1⟩, fun j hj => ?_⟩
            rcases List.mem_cons.1 hj with e | e
            · omega
            · have := i2 j e; omega
          · exact ⟨i1, fun j hj => by have := i2 j hj; omega⟩
      exact (key _ 0).1
    intro j r r' h1 h2
    rw [mapL_eq] at hjs
    have key : ∀ (l : List (Nat × Nat)), (l.map Prod.fst).Nodup → (j, r) ∈ l → (j, r') ∈ l → r = r' := by
      intro l
      induction l with
      | nil => intro _ h; simp at h
      | cons e l ih =>
        intro hnd h1 h2
        rw [List.map_cons, List.nodup_cons] at hnd
        rcases List.mem_cons.1 h1 with e1 | e1 <;> rcases List.mem_cons.1 h2 with e2 | e2
        · rw [← e1] at e2; simp only [Prod.mk.injEq] at e2; exact e2.2.symm
        · exact absurd (List.mem_map.2 ⟨_, e2, by rw [← e1]⟩) hnd.1
        · exact absurd (List.mem_map.2 ⟨_, e1, by rw [← e2]⟩) hnd.1
        · exact ih hnd.2 e1 e2
    exact key pr hjs h1 h2
  have hfn' : ∀ j j' r, (j, r) ∈ pr → (j', r) ∈ pr → j = j' := by
    intro j j' r h1 h2
    rw [← hrs, mapL_eq] at hnd
    have key : ∀ (l : List (Nat × Nat)), (l.map Prod.snd).Nodup → (j, r) ∈ l → (j', r) ∈ l → j = j' := by
      intro l
      induction l with
      | nil => intro _ h; simp at h
      | cons e l ih =>
        intro hnd h1 h2
        rw [List.map_cons, List.nodup_cons] at hnd
        rcases List.mem_cons.1 h1 with e1 | e1 <;> rcases List.mem_cons.1 h2 with e2 | e2
        · rw [← e1] at e2; simp only [Prod.mk.injEq] at e2; exact e2.1.symm
        · exact absurd (List.mem_map.2 ⟨_, e2, by rw [← e1]⟩) hnd.1
        · exact absurd (List.mem_map.2 ⟨_, e1, by rw [← e2]⟩) hnd.1
        · exact ih hnd.2 e1 e2
    exact key pr hnd h1 h2
  let sc : Sit := { S := lent (hideS s (x.hide rs).roots), Φ := fun j => match look pr j with | some r => s.Φ r | none => noLay, F := s.F }
  have hin : ∀ j r, (j, r) ∈ pr → look pr j = some r := by
    intro j r hm
    have key : ∀ (l : List (Nat × Nat)), (j, r) ∈ l → ∃ r', look l j = some r' ∧ (j, r') ∈ l := by
      intro l
      induction l with
      | nil => intro h; simp at h
      | cons e l ih =>
        intro h
        obtain ⟨j0, r0⟩ := e
        rw [look_cons]
        by_cases e1 : j = j0
        · subst e1; exact ⟨r0, by rw [if_pos rfl], List.mem_cons_self⟩
        · rcases List.mem_cons.1 h with e2 | e2
          · simp only [Prod.mk.injEq] at e2; exact absurd e2.1 e1
          · obtain ⟨r', g1, g2⟩ := ih e2
            exact ⟨r', by rw [if_neg e1]; exact g1, List.mem_cons_of_mem _ g2⟩
    obtain ⟨r', g1, g2⟩ := key pr hm
    rw [g1, hfn j r r' hm g2]
  have hlk : ∀ j r, look pr j = some r → (j, r) ∈ pr := by
    intro j r
    have key : ∀ (l : List (Nat × Nat)), look l j = some r → (j, r) ∈ l := by
      intro l
      induction l with
      | nil => intro h; cases h
      | cons e l ih =>
        obtain ⟨j0, r0⟩ := e
        intro h
        rw [look_cons] at h
        split at h
        · rename_i e1; simp only [Option.some.injEq] at h; subst e1 h; exact List.mem_cons_self
        · exact List.mem_cons_of_mem _ (ih h)
    exact key pr
  have hrsm : ∀ j r, (j, r) ∈ pr → r ∈ rs := fun j r hm => by rw [← hrs]; exact mem_mapL.2 ⟨_, hm, rfl⟩
  have hscΦ : ∀ j p z, sc.Φ j p = some z → ∃ r, (j, r) ∈ pr ∧ s.Φ r p = some z := by
    intro j p z hz
    have hz : (match look pr j with | some r => s.Φ r | none => noLay) p = some z := hz
    cases hr : look pr j with
    | some r => rw [hr] at hz; exact ⟨r, hlk j r hr, hz⟩
    | none => rw [hr] at hz; cases hz
  have hscin : ∀ j r, (j, r) ∈ pr → sc.Φ j = s.Φ r := fun j r hm => by simp only [sc, hin j r hm]
  have hdis : ∀ r p y, (hideS s (x.hide rs).roots).Φ r p = some y → r ∉ rs ∧ s.Φ r p = some y := by
    intro r p y hy
    obtain ⟨g1, g2⟩ := hide_some hy
    refine ⟨fun e => ?_, g2⟩
    rw [look_hide, if_pos e] at g1; cases g1
  have hO : ∀ b, Handed sc b → (∀ f, ¬ (hideS s (x.hide rs).roots).S f b) ∧ (∀ r p y, (hideS s (x.hide rs).roots).Φ r p = some y → blkOf y ≠ some b) ∧ (B.O0 b ∨ B.w0.heap.size ≤ b) := by
    rintro b ⟨j, p, y, e1, e2⟩
    obtain ⟨r, g1, g2⟩ := hscΦ j p y e1
    have g3 := h.own r p y b g2 e2
    refine ⟨g3.1, fun r' p' y' f1 f2 => ?_, g3.2.2⟩
    obtain ⟨f3, f4⟩ := hdis r' p' y' f1
    obtain ⟨rfl, -⟩ := h.inj _ _ _ _ _ _ _ g2 e2 f4 f2
    exact f3 (hrsm j r g1)
  have hgiven : Given c.G w sc (mrows 0 F.sg.ps d) := {
    rootn := fun j hj => by
      show (match look pr j with | some r => s.Φ r | none => noLay) = noLay
      cases hr : look pr j with
      | some r => exact absurd hj (hM.hpr j r (hlk j r hr)).2.1
      | none => rfl
    roots := fun j row hj => by
      obtain ⟨r, g1, y, g2⟩ := hM.hrows j row hj
      exact ⟨y, by rw [hscin j r g1]; exact g2.mono (fun _ _ _ => rfl) (fun f b hS => .inl hS) (fun _ _ _ _ _ => rfl)⟩
    inj := fun j p y j' p' y' b e1 e2 e3 e4 => by
      obtain ⟨r, g1, g2⟩ := hscΦ j p y e1
      obtain ⟨r', g3, g4⟩ := hscΦ j' p' y' e3
      obtain ⟨rfl, hp⟩ := h.inj _ _ _ _ _ _ _ g2 e2 g4 e4
      exact ⟨hfn' j j' r g1 g3, hp⟩
    own := fun j p y b e1 e2 => by
      obtain ⟨r, g1, g2⟩ := hscΦ j p y e1
      have g3 := h.own r p y b g2 e2
      refine ⟨fun f hS => ?_, g3.2.1⟩
      rcases hS with hS | ⟨-, r', p', y', f1, f2⟩
      · exact g3.1 f hS
      · exact (hO b ⟨j, p, y, e1, e2⟩).2.1 r' p' y' f1 f2
    slt := fun f b hS => by
      rcases hS with hS | ⟨_, r, p, y, e1, e2⟩
      · exact h.slt f b hS
      · exact (h.own r p y b (hide_some e1).2 e2).2.1
    sown := fun b hS => by
      rcases hS with hS | ⟨e, _⟩
      · exact h.sown b hS
      · cases e
    srb := lent_rb h0
    glob := fun g t hg => (h.glob g t (by rw [hG.g]; exact hg)).mono (fun _ _ _ => rfl) (fun f b hS => .inl hS) }
  have hcall := hF w sc (args.toList.map a.eval) d r hgiven (by simpa using hM.len) (fun j D e => by
    obtain ⟨v, g1, g2⟩ := hM.env j D e
    exact ⟨v, g1, g2 sc rfl rfl hscin⟩) h5
  have harr : (args.toList.map a.eval).toArray = args.map a.eval := by apply Array.ext'; simp
  rw [harr] at hcall
  refine hcall.mono (fun e w' he => ?_)
  obtain ⟨v, ro, φ, rfl, hl, hid, hrep⟩ := he
  obtain ⟨s', g1, g2, g3⟩ := h0.calledM (sc := sc) rfl hO hl h7
  have hrep' := hrep { s' with S := roS ro } k rfl g2
  obtain ⟨x2, k1, k2⟩ := put_sound hnt g1 he3 (hrep'.mono (s' := s') (fun _ _ _ => rfl) g3 rfl (fun _ _ => rfl))
  -- the values of the boxes
  have hus : ∀ (i j r' : Nat), pr[i]? = some (j, r') → ∃ b, s.Φ r' [(0, 0)] = some (.pointer (some ⟨b, 0, none⟩)) ∧ φ [(0, offM F.sg + i)] = some (.pointer (some ⟨b, 0, none⟩)) := by
    intro i j r' hi
    obtain ⟨-, -, b, f1, f2⟩ := hM.hpr j r' (List.mem_of_getElem? hi)
    have hj : (mutJs 0 F.sg.ps)[i]? = some j := by rw [← hM.hjs, mapL_eq, List.getElem?_map, hi]; rfl
    obtain ⟨u, f3, f4⟩ := hid i j hj
    rw [Nat.sub_zero, f3, Option.some.injEq] at f2
    exact ⟨b, f1, by rw [f4, f2]⟩
  let us : List Value := pr.map fun e => ((s.Φ e.2 [(0, 0)]).getD .nilIface)
  obtain ⟨s2, x3, m1, m2, m3, -⟩ := giveBack_sound (k := k) rs us k2 hnd b3 (by rw [← hrs, mapL_eq]; simp [us]) (fun i u hi => by
    simp only [us, List.getElem?_map] at hi
    obtain ⟨⟨j, r'⟩, e1, rfl⟩ := Option.map_eq_some_iff.mp hi
    obtain ⟨b, f1, f2⟩ := hus i j r' e1
    simp only [f1, Option.getD_some]
    have := RepC.pt (w := w') (s := s') k [(0, offM F.sg + i)] 0 0 0 (.pointer (some ⟨b, 0, none⟩)) b (by rw [g2]; exact f2) rfl
    simpa [offOf] using this) k1
  refine hK _ s2 v w' m1 { m2 with
    env := fun t dt ht => by
      have ht : look (app (ptsE x.env rs k x.env) x3.env) t = some dt := ht
      rw [look_app] at ht
      cases hd' : look (ptsE x.env rs k x.env) t with
      | some d' =>
        rw [hd'] at ht
        simp only [Option.some.injEq] at ht
        subst ht
        obtain ⟨f1, f2, r', i, i', sz, rfl, f3⟩ := ptsE_some hd'
        obtain ⟨u, f4, f5⟩ := h.env t _ f1
        refine ⟨u, by rw [tv_put_ne (by rw [hnt]; exact putK_in he3) f2]; exact f4, ?_⟩
        rw [← hrs] at f3
        obtain ⟨⟨j, r1⟩, f6, rfl⟩ := mem_mapL.1 f3
        obtain ⟨n, hn⟩ := List.getElem?_of_mem f6
        obtain ⟨b, f7, f8⟩ := hus n j r1 hn
        obtain ⟨b', f9, f10⟩ := m3 n r1 (.pointer (some ⟨b, 0, none⟩)) (by rw [← hrs, mapL_eq, List.getElem?_map, hn]; rfl) (by simp only [us, List.getElem?_map, hn, Option.map_some]; rw [f7]; rfl)
        simp only [Value.pointer.injEq, Option.some.injEq, Addr.mk.injEq, and_true] at f9
        subst f9
        cases f5 with
        | v _ _ f5 => cases f5 with
          | c _ _ f5 => cases f5 with
            | pt _ _ _ _ _ z b2 hΦ hb2 =>
              simp only at hΦ
              rw [f7, Option.some.injEq] at hΦ
              subst hΦ
              simp only [blkOf, Option.some.injEq] at hb2
              subst hb2
              have := f10 i i' sz
              refine .v _ _ (.c _ _ ?_)
              simpa [offOf] using this
      | none => rw [hd'] at ht; exact m2.env t dt ht }

end

theorem SoundA.ofF {P : Program} {G : List (Nat × T)} {f : FuncId} {sg : Sig} {sem : den (argTy sg.ps) → Option (den (resTy sg.rs))} (h : SoundF P G f sg sem) (hm : hasMut sg.ps = false) : SoundA P G f sg sem := by
  unfold SoundA; rw [hm]; exact h
theorem SoundA.ofM {P : Program} {G : List (Nat × T)} {f : FuncId} {sg : Sig} {sem : den (argTy sg.ps) → Option (den (resTy sg.rs))} (h : SoundM P G f sg sem) (hm : hasMut sg.ps = true) : SoundA P G f sg sem := by
  unfold SoundA; rw [hm]; exact h

/-- What is known of functions holds. -/
def Known (P : Program) (G : List (Nat × T)) (Δ : List (Nat × Fn)) : Prop := ∀ f F, look Δ f = some F → SoundA P G f F.sg F.sem ∧
  ∃ fn, P.funcs[f]? = some fn ∧ fn.body.isSome = true ∧ (fn.name == "runtime.NumGoroutine") = false

theorem callA_sound {c : Ctx} {B : Base} {s : Sit} {x : X} {a : Act} {w : World} {nt : Fr} {Δ : List (Nat × Fn)} (hΔ : Known c.P c.G Δ) (hG : Fit B c) (hnt : B.nt = nt) (h : RelW B s x a w) {f : FuncId} {args : Array Operand} {k : Nat} {K : X → Option α} {q : α}
    (he : callAK c nt Δ x f args.toList k K = some q) {Kp : Act → World → Prop} (hK : ∀ x' s' v w', K x' = some q → RelW B s' x' (a.gput B k v) w' → Kp (a.gput B k v) w') :
    Calls c.P f (args.map a.eval) w fun e w' => match e with
      | .returned v => Kp (a.gput B k v) w'
      | _ => False := by
  unfold callAK at he
  obtain ⟨F, h1, he⟩ := Option.bind_eq_some_iff.mp he
  have hF := (hΔ f F h1).1
  unfold SoundA at hF
  cases hm : hasMut F.sg.ps with
  | true => rw [hm] at he hF; exact callM_sound hG hnt h hF he hK
  | false => rw [hm] at he hF; exact call_sound hG hnt h hF he hK

end Go.V
