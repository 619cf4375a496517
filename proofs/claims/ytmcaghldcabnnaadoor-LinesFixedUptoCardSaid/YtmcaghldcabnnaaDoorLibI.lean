/- A library of typed data in memory: What slices.Delete and slices.Insert come to. A function that deletes, as one that takes a slice in and hands one back. What slices.Insert comes to: the steps in memory. A function that inserts, as one that takes a slice in and hands one back. A function that inserts is sound. For walks through functions that delete and insert. Functions run in the caller's place: entering and leaving. No conditions. -/
import Derived.Test.YtmcaghldcabnnaaDoorLibH
import Derived.Test.YtmcaghldcabnnaaDoorLibE
import Derived.Test.YtmcaghldcabnnaaDoorLibG
import Derived.Laws.Externs
/-! What slices.Delete and slices.Insert come to. -/
namespace Go.V
open Go.RowKit
/-- Only this block has turned. -/
structure Turned (w w' : World) (b : Nat) (el : TypeId) (L' : List Value) : Prop where
  heap : w'.heap[b]? = some (.cells L'.toArray el (0, 0))
  other : ∀ k, k ≠ b → w'.heap[k]? = w.heap[k]?
  size : w'.heap.size = w.heap.size
  os : w'.os = w.os
  tape : w'.tape = w.tape
  output : w'.output = w.output
theorem Turned.of {w : World} {b : Nat} {el : TypeId} {L : List Value} (h : Blk w b el L) (L' : List Value) : Turned w (w.setRow b L'.toArray) b el L' :=
  ⟨setRow_heap w b _ _ el (0, 0) h, fun k hk => setRow_other w b k _ hk, setRow_size _ _ _, rfl, rfl, rfl⟩
end Go.V
/-! A function that deletes, as one that takes a slice in and hands one back. -/
namespace Go.V
open Go.RowKit
section
variable {P : Program}
theorem LeftD.same {w : World} {S : Fl → Nat → Prop} {ψ : Lay} {e : Ty} {r : List (den e)} {v : Value} (h : RepO w S (.sl .own e r) v ψ) (h0 : ψ [] = some v) (hi : Inj ψ) (ho : ∀ q y b, ψ q = some y → blkOf y = some b → b < w.heap.size) : LeftD w S ψ w e r v ψ :=
  ⟨rfl, rfl, rfl, Nat.le_refl _, fun _ _ _ => rfl, h, h0, hi, fun q y b e1 e2 => ⟨ho q y b e1 e2, .inr ⟨q, y, e1, e2⟩⟩⟩
end
end Go.V
/-! What slices.Insert comes to: the steps in memory. -/
namespace Go.V
open Go.RowKit
section
variable {P : Program} {w : World} {t e : TypeId} {i ei : TyInfo}
end
end Go.V
/-! A function that inserts, as one that takes a slice in and hands one back. -/
namespace Go.V
open Go.RowKit
section
variable {c : Ctx} {w : World}
end
end Go.V
/-! A function that inserts is sound. -/
namespace Go.V
open Go.RowKit
section
variable {c : Ctx}
end
end Go.V
/-! For walks through functions that delete and insert. -/
namespace Go.V
open Go.RowKit
theorem wpList_val {P : Program} {ops : Array Oper} {Q : Exit → Act → World → Prop} {o : Oper} {l : List Oper} {a : Act} {w w' : World} {v : Value} (hg : o.guard = none) (hr : (execOp a.eval o).run P w = .ok (.value v) w') (h : wpList P ops Q l (a.put o.dst v) w') :
    wpList P ops Q (o :: l) a w := by
  refine wpList_plain hg (fun K hK => ?_)
  unfold Oper.wp
  rw [hr]
  exact hK _ _ h
end Go.V
/-! Functions run in the caller's place: entering and leaving. -/
namespace Go.V
open Go.RowKit
variable {α : Type}
def fnD : D → Option (FuncId × List (Nat × Path))
  | .v (.c (.fnp f caps)) => some (f, caps)
  | _ => none
theorem fnD_some {d : D} {fc : FuncId × List (Nat × Path)} (h : fnD d = some fc) : d = .v (.c (.fnp fc.1 fc.2)) := by
  unfold fnD at h
  split at h
  · simp only [Option.some.injEq] at h; subst h; rfl
  · cases h
def capD (e : Nat × Path) : D := .v (.c (.pt e.1 e.2 0 0 0))
def evalDs (cx : Ctx) (x : X) : List Operand → Option (List D)
  | [] => some []
  | o :: l => (evalD cx x o).bind fun d => (evalDs cx x l).map fun ds => d :: ds
section
variable {c : Ctx} {w : World}
def readVar (tmps : Array Value) : ResultVar → Sem Value
  | .tmp t => pure (tmps.getD t undef)
  | .cell a t => do loadVar t (← asAddr (tmps.getD a undef))
def ReadsTo (P : Program) (w : World) (tmps : Array Value) : List ResultVar → List Value → Prop
  | [], L => L = []
  | r :: l, L => ∃ v L', L = v :: L' ∧ (readVar tmps r).run P w = .ok v w ∧ ReadsTo P w tmps l L'
theorem ReadsTo.mapM {P : Program} {w : World} {tmps : Array Value} : ∀ {l : List ResultVar} {L : List Value}, ReadsTo P w tmps l L → (l.mapM (readVar tmps)).run P w = .ok L w
  | [], L, h => by have h : L = [] := h; subst h; simp
  | r :: l, L, h => by
    obtain ⟨v, L', rfl, h1, h2⟩ := h
    simp [List.mapM_cons, h1, h2.mapM]
theorem ReadsTo.split {P : Program} {w : World} {tmps : Array Value} : ∀ {l m : List ResultVar} {L : List Value}, ReadsTo P w tmps (l ++ m) L → ∃ L1 L2, L = L1 ++ L2 ∧ L1.length = l.length ∧ ReadsTo P w tmps l L1 ∧ ReadsTo P w tmps m L2
  | [], m, L, h => ⟨[], L, rfl, rfl, rfl, h⟩
  | r :: l, m, L, h => by
    obtain ⟨v, L', rfl, h1, h2⟩ := h
    obtain ⟨L1, L2, rfl, g0, g1, g2⟩ := h2.split
    exact ⟨v :: L1, L2, rfl, by simp [g0], ⟨v, L1, rfl, h1, g1⟩, g2⟩
def lstV (l : List Value) : Value := match l with | [v] => v | _ => .tuple l.toArray
theorem results_list (fn : Func) (tmps : Array Value) {l : List Value} (h : (fn.results.toList.mapM (readVar tmps)).run c.P w = .ok l w) :
    (results fn tmps).run c.P w = .ok (lstV l) w := by
  unfold lstV
  have e : results fn tmps = (do let vs ← fn.results.mapM (readVar tmps); pure (if h : vs.size = 1 then vs[0] else .tuple vs)) := rfl
  rw [e, Array.mapM_eq_mapM_toList]
  simp only [Sem.run_bind, Sem.run_map, h, Result.andThen_ok]
  match l with
  | [v] => simp
  | [] => simp
  | a :: b :: l => simp
/-! ### functions -/
def startEnv : Nat → List D → List (Nat × D)
  | _, [] => []
  | k, d :: l => (k, d) :: startEnv (k + 1) l
def X.start (ds : List D) : X := { env := startEnv 0 ds, roots := [], lock := [], pin := [], dirt := [] }
theorem startEnv_some : ∀ {l : List D} {m k : Nat} {d : D}, look (startEnv m l) k = some d → m ≤ k ∧ l[k - m]? = some d
  | [], m, k, d, h => by cases h
  | d0 :: l, m, k, d, h => by
    unfold startEnv at h
    rw [look_cons] at h
    by_cases e : k = m
    · rw [if_pos e, Option.some.injEq] at h
      subst e h
      exact ⟨Nat.le_refl _, by simp⟩
    · rw [if_neg e] at h
      obtain ⟨h1, h2⟩ := startEnv_some h
      refine ⟨by omega, ?_⟩
      have : k - m = (k - (m + 1)) + 1 := by omega
      rw [this]; simpa using h2
end
/-- Only what stands below. -/
def belowE (n : Nat) : List (Nat × D) → List (Nat × D)
  | [] => []
  | e :: l => match Nat.blt e.1 n with
    | true => e :: belowE n l
    | false => belowE n l
def argE (off : Nat) : List D → List (Nat × D)
  | [] => []
  | d :: l => (off, d) :: argE (off + 1) l
/-- The state in which a function is entered. -/
def X.into (x : X) (off : Nat) (ds : List D) : X := { x with env := app (argE off ds) (belowE off x.env) }
def X.outof (x : X) (off : Nat) : X := { x with env := belowE off x.env }
def pinB (x : X) (off : Nat) : Bool := allB (fun k => Nat.blt k off) x.pin
def calleeD (cx : Ctx) (x : X) (o : Oper) : Option (List Operand × (FuncId × List (Nat × Path))) := match o.op with
  | .call cl => match cl.callee with
    | .value f => (evalD cx x f).bind fun d => (fnD d).map fun fc => (cl.args.toList, fc)
    | _ => none
  | _ => none
def oneV (d : D) : Option V := match d with
  | .v x => some x
  | _ => none
/-- What is handed back. -/
def resVsK (cx : Ctx) (x : X) : List ResultVar → (List V → Option α) → Option α
  | [], K => K []
  | rv :: rvs, K => (match rv with
    | .tmp t => look x.env (cx.off + t)
    | .cell ad t => (look x.env (cx.off + ad)).bind fun d => loadK cx x t d some).bind fun d => (oneV d).bind fun v => resVsK cx x rvs fun vs => K (v :: vs)
def tupD : List V → D
  | [v] => .v v
  | l => .tup l
def putOK (nt : Fr) (x : X) (dst : Option Nat) (d : D) (K : X → Option α) : Option α := match dst with
  | some k => putK nt x (nt.off + k) d K
  | none => K x
/-- With a guard. -/
def guardedK (nt : Fr) (all : List Oper) (x : X) (o : Oper) (run skip : X → Option α) : Option α := match o.guard with
  | none => run x
  | some (j, want) => (guardD nt all x j).bind fun kd => match asB kd.2 with
    | some b => cond (eqB b want) (run (known x kd.1 want)) (skip (known x kd.1 (!want)))
    | none => match isUndef kd.2 with
      | true => skip x
      | false => none
/-- A call that is run in its place. -/
def enterK (cx : Ctx) (nt : Fr) (off : Nat) (x : X) (o : Oper) (body : Ctx → Fr → Code → X → (Exit → X → Option α) → Option α) (K : X → Option α) : Option α :=
  (calleeD cx x o).bind fun af => (evalDs cx x af.1).bind fun ds => (look cx.I af.2.1).bind fun fn => (fn.body).bind fun code =>
    match and (pinB x off) (Nat.ble (app ds (mapL capD af.2.2)).length fn.ntmps) with
    | true => body { cx with off := off } ⟨off, fn.ntmps⟩ code (x.into off (app ds (mapL capD af.2.2))) fun e x2 => match (match e with | .normal => true | .ret => true | _ => false) with
      | true => resVsK { cx with off := off } x2 fn.results.toList fun vs => match pinB x2 off with
        | true => putOK nt (x2.outof off) o.dst (tupD vs) K
        | false => none
      | false => none
    | false => none
theorem belowE_look {n : Nat} : ∀ {l : List (Nat × D)} {k : Nat} {d : D}, look (belowE n l) k = some d → k < n ∧ look l k = some d
  | [], k, d, h => by cases h
  | e :: l, k, d, h => by
    obtain ⟨k0, d0⟩ := e
    unfold belowE at h
    split at h
    · rename_i hb
      have hb : k0 < n := by simpa [Nat.blt_eq] using hb
      rw [look_cons] at h ⊢
      by_cases e : k = k0
      · rw [if_pos e] at h ⊢; exact ⟨by omega, h⟩
      · rw [if_neg e] at h ⊢; exact belowE_look h
    · rename_i hb
      have hb : ¬ k0 < n := by
        intro hlt
        have : Nat.blt k0 n = true := by simpa [Nat.blt_eq] using hlt
        simp only [this] at hb
        cases hb
      have := belowE_look h
      rw [look_cons, if_neg (by omega)]
      exact this
theorem argE_look : ∀ {ds : List D} {off k : Nat} {d : D}, look (argE off ds) k = some d → off ≤ k ∧ ds[k - off]? = some d
  | [], off, k, d, h => by cases h
  | d0 :: l, off, k, d, h => by
    unfold argE at h
    rw [look_cons] at h
    by_cases e : k = off
    · rw [if_pos e] at h
      subst e
      exact ⟨Nat.le_refl _, by simpa using h⟩
    · rw [if_neg e] at h
      obtain ⟨h1, h2⟩ := argE_look h
      refine ⟨by omega, ?_⟩
      rw [show k - off = (k - (off + 1)) + 1 by omega]
      simpa using h2
section
variable {c : Ctx} {B : Base} {s : Sit} {x : X} {a : Act} {w : World} {nt : Fr}
/-- What is handed on to a function that is entered. -/
def Base.into (B : Base) (a : Act) (off n : Nat) : Base := { B with nt := ⟨off, n⟩, out := B.tv a }
theorem into_tv {a2 : Act} {off n k : Nat} (h : k < off) : (B.into a off n).tv a2 k = B.tv a k := by
  unfold Base.tv Base.into
  simp only
  rw [if_pos h]
  rfl
theorem into_fit (hG : Fit B c) {off n : Nat} : Fit (B.into a off n) { c with off := off } := ⟨hG.g, rfl⟩
theorem evalDs_sound (hG : Fit B c) (h : RelW B s x a w) : ∀ {os : List Operand} {ds : List D}, evalDs c x os = some ds → ds.length = os.length ∧ ∀ (j : Nat) d, ds[j]? = some d → ∃ v, (os.map a.eval)[j]? = some v ∧ RepD w s d v
  | [], ds, e => by
    simp only [evalDs, Option.some.injEq] at e
    subst e
    exact ⟨rfl, fun j d e => by simp at e⟩
  | o :: l, ds, e => by
    obtain ⟨d0, h1, h2⟩ := Option.bind_eq_some_iff.mp e
    obtain ⟨ds', h3, rfl⟩ := Option.map_eq_some_iff.mp h2
    obtain ⟨k1, k2⟩ := evalDs_sound hG h h3
    refine ⟨by simp [k1], fun j d e => ?_⟩
    cases j with
    | zero =>
      simp only [List.getElem?_cons_zero, Option.some.injEq] at e
      subst e
      exact ⟨_, rfl, evalD_sound hG h h1⟩
    | succ j => simpa using k2 j d (by simpa using e)
theorem into_sound (h : RelW B s x a w) {off n : Nat} (hp : pinB x off = true) {ds : List D} {vs : List Value} (hn : ds.length ≤ n) (hl : vs.length = ds.length)
    (hv : ∀ (j : Nat) d, ds[j]? = some d → ∃ v, vs[j]? = some v ∧ RepD w s d v) :
    RelW (B.into a off n) s (x.into off ds) { tmps := vs.toArray ++ Array.replicate (n - vs.toArray.size) undef, defers := [] } w :=
  { h with
    defers := rfl
    size := by simp only [Base.into]; simp; omega
    env := fun k d hd => by
      simp only [X.into, look_app] at hd
      split at hd
      · rename_i d' hd'
        simp only [Option.some.injEq] at hd
        subst hd
        obtain ⟨h1, h2⟩ := argE_look hd'
        obtain ⟨v, h3, h4⟩ := hv _ _ h2
        refine ⟨v, ?_, h4⟩
        have hlt : k - off < vs.length := (List.getElem?_eq_some_iff.mp h3).1
        unfold Base.tv Base.into
        simp only
        rw [if_neg (by omega), Array.getElem?_append_left (by simpa using hlt)]
        simpa using h3
      · obtain ⟨h1, h2⟩ := belowE_look hd
        obtain ⟨v, h3, h4⟩ := h.env k d h2
        exact ⟨v, by rw [into_tv h1]; exact h3, h4⟩
    pins := fun k hk => by
      have : k < off := by
        have := (allB_iff _ _).1 hp k hk
        simpa [Nat.blt_eq] using this
      rw [into_tv this]
      exact h.pins k hk }
theorem outof_sound (h : RelW B s x a w) {off n : Nat} {s2 : Sit} {x2 : X} {a2 : Act} {w2 : World} (h2 : RelW (B.into a off n) s2 x2 a2 w2) (hp : pinB x2 off = true) : RelW B s2 (x2.outof off) a w2 :=
  { h2 with
    defers := h.defers
    size := h.size
    env := fun k d hd => by
      obtain ⟨h1, h3⟩ := belowE_look hd
      obtain ⟨v, h4, h5⟩ := h2.env k d h3
      rw [into_tv h1] at h4
      exact ⟨v, h4, h5⟩
    pins := fun k hk => by
      have : k < off := by
        have := (allB_iff _ _).1 hp k hk
        simpa [Nat.blt_eq] using this
      have h3 := h2.pins k hk
      rw [into_tv this] at h3
      exact h3 }
theorem capD_sound {f : FuncId} {caps : List (Nat × Path)} {v : Value} (h : RepD w s (.v (.c (.fnp f caps))) v) : ∃ cap : Array Value, v = .func (.func f) #[] cap ∧ cap.size = caps.length ∧
    ∀ (j : Nat) d, (mapL capD caps)[j]? = some d → ∃ u, cap[j]? = some u ∧ RepD w s d u := by
  cases h with
  | v _ _ h => cases h with
    | c _ _ h => cases h with
      | fnp _ _ cap hs hc =>
        refine ⟨cap, rfl, hs, fun j d e => ?_⟩
        rw [mapL_eq, List.getElem?_map] at e
        obtain ⟨⟨r, p⟩, e1, rfl⟩ := Option.map_eq_some_iff.mp e
        obtain ⟨b, h1, h2⟩ := hc j r p e1
        refine ⟨_, h2, .v _ _ (.c _ _ ?_)⟩
        have := RepC.pt (w := w) (s := s) r p 0 0 0 _ b h1 rfl
        simpa [offOf] using this
theorem resVs_sound (h : RelW B s x a w) (hG : Fit B c) : ∀ (rvs : List ResultVar) {K : List V → Option α} {q : α}, resVsK c x rvs K = some q →
    ∃ vs L, K vs = some q ∧ L.length = vs.length ∧ ReadsTo c.P w a.tmps rvs L ∧ ∀ (j : Nat) V, vs[j]? = some V → ∃ v, L[j]? = some v ∧ RepV w s V v
  | [], K, q, he => ⟨[], [], he, rfl, rfl, fun j V e => by simp at e⟩
  | rv :: rvs, K, q, he => by
    obtain ⟨d, h1, he1⟩ := Option.bind_eq_some_iff.mp he
    obtain ⟨V0, h2, h3⟩ := Option.bind_eq_some_iff.mp he1
    obtain ⟨vs, L, k1, k2, k3, k4⟩ := resVs_sound h hG rvs h3
    have hd : d = .v V0 := by
      unfold oneV at h2
      split at h2
      · simp only [Option.some.injEq] at h2; subst h2; rfl
      · cases h2
    have hrv : ∃ v, (readVar a.tmps rv).run c.P w = .ok v w ∧ RepD w s d v := by
      cases rv with
      | tmp t =>
        obtain ⟨v, g1, g2⟩ := h.env _ d h1
        rw [← hG.off, tv_local] at g1
        exact ⟨v, by simp [readVar, g1], g2⟩
      | cell ad t =>
        obtain ⟨d0, h4, h5⟩ := Option.bind_eq_some_iff.mp h1
        obtain ⟨v, g1, g2⟩ := h.env _ _ h4
        rw [← hG.off, tv_local] at g1
        obtain ⟨e, u, m1, m2, m3⟩ := load_sound h g2 h5
        simp only [Option.some.injEq] at m1
        subst m1
        refine ⟨u, ?_, m3⟩
        have hv : a.tmps.getD ad undef = v := by simp [g1]
        simp only [readVar, hv]
        cases v with
        | pointer ad => cases ad with
          | some ad => rw [← m2]; rfl
          | none => simp [Instr.loadAt, Instr.sureAddr] at m2
        | _ => simp [Instr.loadAt, Instr.sureAddr] at m2
    obtain ⟨v, g1, g2⟩ := hrv
    subst hd
    refine ⟨V0 :: vs, v :: L, k1, by simp [k2], ⟨v, L, rfl, g1, k3⟩, fun j V e => ?_⟩
    cases j with
    | zero =>
      simp only [List.getElem?_cons_zero, Option.some.injEq] at e
      subst e
      cases g2 with
      | v _ _ g2 => exact ⟨v, rfl, g2⟩
    | succ j => simpa using k4 j V (by simpa using e)
theorem tupD_rep {vs : List V} {L : List Value} (hl : L.length = vs.length) (h : ∀ (j : Nat) V, vs[j]? = some V → ∃ v, L[j]? = some v ∧ RepV w s V v) :
    RepD w s (tupD vs) (lstV L) := by
  match vs, L, hl with
  | [], [], _ => exact .tup _ _ rfl (fun j V e => by simp at e)
  | [V], [v], _ =>
    obtain ⟨v', f1, f2⟩ := h 0 V rfl
    simp only [List.getElem?_cons_zero, Option.some.injEq] at f1
    subst f1
    exact .v _ _ f2
  | V1 :: V2 :: Vs, v1 :: v2 :: L, hl => exact .tup _ _ (by simpa using hl) (fun j V e => by
        obtain ⟨v', f1, f2⟩ := h j V e
        exact ⟨v', by simpa using f1, f2⟩)
/-- With its guard. -/
theorem guarded_sound (hnt : B.nt = nt) {ops : Array Oper} (h : RelW B s x a w) {o : Oper} {run skip : X → Option α} {q : α} (he : guardedK nt ops.toList x o run skip = some q) :
    ∃ x', RelW B s x' a w ∧ ((Region.wanted o (yielded ops a.tmps) = true ∧ run x' = some q) ∨ (Region.wanted o (yielded ops a.tmps) = false ∧ skip x' = some q)) := by
  unfold guardedK at he
  split at he
  · rename_i hg
    exact ⟨x, h, .inl ⟨by simp [Region.wanted, hg], he⟩⟩
  · rename_i j want hg
    obtain ⟨⟨k, d⟩, h1, he1⟩ := Option.bind_eq_some_iff.mp he
    obtain ⟨k', h2, h3⟩ := Option.bind_eq_some_iff.mp h1
    obtain ⟨d', h4, h5⟩ := Option.map_eq_some_iff.mp h3
    simp only [Prod.mk.injEq] at h5
    obtain ⟨rfl, rfl⟩ := h5
    obtain ⟨v, h6', h7⟩ := h.env _ _ h4
    rw [← hnt] at h2
    obtain ⟨k0, h2', h6⟩ := gd_tv h2 h6'
    have hk' : (ops[j]?).bind (·.dst) = some k0 := by rw [nth_eq] at h2'; simpa using h2'
    split at he1
    · rename_i b hb
      have hv := asB_sound h7 hb
      subst hv
      have hy : yielded ops a.tmps j = some b := by simp [yielded, hk', h6]
      have hkn : ∀ b', b' = b → RelW B s (known x k' b') a w := fun b' e => by subst e; exact h.reput h6' (scal_rep _ rfl)
      rcases cond_some he1 with ⟨hbw, he2⟩ | ⟨hbw, he2⟩
      · have hbe : want = b := by cases want <;> cases b <;> simp [eqB] at hbw ⊢
        exact ⟨_, hkn want hbe, .inl ⟨by simp [Region.wanted, hg, hy, hbe], he2⟩⟩
      · have hbe : (!want) = b := by cases want <;> cases b <;> simp [eqB] at hbw ⊢
        exact ⟨_, hkn _ hbe, .inr ⟨by subst hbe; cases want <;> simp [Region.wanted, hg, hy], he2⟩⟩
    · split at he1
      · rename_i hu
        have hd := isUndef_eq hu
        simp only at hd
        subst hd
        have hv : v = .tuple #[] := by
          cases h7 with
          | tup _ arr hs _ => have : arr = #[] := by apply Array.eq_empty_of_size_eq_zero; simpa using hs
                              rw [this]
        subst hv
        have hy : yielded ops a.tmps j = none := by simp [yielded, hk', h6]
        exact ⟨x, h, .inr ⟨by simp [Region.wanted, hg, hy], he1⟩⟩
      · cases he1
/-- A call that is run in its place. -/
theorem enter_sound (hG : Fit B c) (hnt : B.nt = nt) (h : RelW B s x a w) {off : Nat} {o : Oper} {body : Ctx → Fr → Code → X → (Exit → X → Option α) → Option α} {K : X → Option α} {q : α}
    (he : enterK c nt off x o body K = some q) {Kp : Act → World → Prop} {Q : Exit → Act → World → Prop}
    (hbody : ∀ (code : Code) (n : Nat) (x' : X) (a' : Act) (K' : Exit → X → Option α) (Q' : Exit → Act → World → Prop), RelW (B.into a off n) s x' a' w → body { c with off := off } ⟨off, n⟩ code x' K' = some q →
      (∀ e x2 s2 a2 w2, RelW (B.into a off n) s2 x2 a2 w2 → K' e x2 = some q → Q' e a2 w2) → code.wp c.P Q' a' w)
    (hK : ∀ x' s' a' w', K x' = some q → RelW B s' x' a' w' → Kp a' w') : o.wp c.P a w Kp Q := by
  unfold enterK at he
  obtain ⟨⟨args, f, caps⟩, h1, he1⟩ := Option.bind_eq_some_iff.mp he
  obtain ⟨ds, h2, he2⟩ := Option.bind_eq_some_iff.mp he1
  obtain ⟨fn, h3, he3⟩ := Option.bind_eq_some_iff.mp he2
  obtain ⟨code, h4, he4⟩ := Option.bind_eq_some_iff.mp he3
  simp only at h2 h3 he4
  split at he4
  rotate_left
  · cases he4
  rename_i hb
  simp only [Bool.and_eq_true] at hb
  obtain ⟨hp, hn⟩ := hb
  have hn := Nat.le_of_ble_eq_true hn
  obtain ⟨hf, hname⟩ := c.hI f fn h3
  obtain ⟨l1, l2⟩ := evalDs_sound hG h h2
  -- what is called
  have hcall : ∃ cl cap, o.op = .call cl ∧ cl.args.toList = args ∧ cap.size = caps.length ∧ (∀ (j : Nat) d, (mapL capD caps)[j]? = some d → ∃ u, cap[j]? = some u ∧ RepD w s d u) ∧
      (execOp a.eval o).run c.P w = .ok (.enter f (cl.args.map a.eval ++ cap)) w := by
    unfold calleeD at h1
    split at h1
    · rename_i cl hop
      split at h1
      · rename_i fo hcal
        obtain ⟨d, e1, e2⟩ := Option.bind_eq_some_iff.mp h1
        obtain ⟨fc, e3, e4⟩ := Option.map_eq_some_iff.mp e2
        simp only [Prod.mk.injEq] at e4
        obtain ⟨rfl, rfl⟩ := e4
        have e3 := fnD_some e3
        subst e3
        obtain ⟨cap, g1, g2, g3⟩ := capD_sound (evalD_sound hG h e1)
        refine ⟨cl, cap, hop, rfl, g2, g3, ?_⟩
        have hbn : ¬ fn.body = none := by rw [h4]; simp
        have hname' : ¬ fn.name = "runtime.NumGoroutine" := by simpa using hname
        obtain ⟨callee, args, ats⟩ := cl
        simp only at hcal
        subst hcal
        simp [execOp, hop, resolve, g1, Deferred.ofValue, invoke, callFunc, hf, hname', hbn]
      · cases h1
    · cases h1
  obtain ⟨cl, cap, hop, hargs, hcs, hcap, hrun⟩ := hcall
  unfold Oper.wp
  rw [hrun, Oper.upon_enter]
  have hvs : ∀ (j : Nat) d, (app ds (mapL capD caps))[j]? = some d → ∃ v, ((args.map a.eval) ++ cap.toList)[j]? = some v ∧ RepD w s d v := by
    intro j d e
    rw [app_eq] at e
    by_cases hj : j < ds.length
    · rw [List.getElem?_append_left hj] at e
      obtain ⟨v, g1, g2⟩ := l2 j d e
      exact ⟨v, by rw [List.getElem?_append_left (by simp; omega)]; exact g1, g2⟩
    · rw [List.getElem?_append_right (by omega)] at e
      obtain ⟨v, g1, g2⟩ := hcap _ d e
      exact ⟨v, by rw [List.getElem?_append_right (by simp; omega)]; simp only [List.length_map]; rw [← l1]; simpa using g1, g2⟩
  have hlen : ((args.map a.eval) ++ cap.toList).length = (app ds (mapL capD caps)).length := by rw [app_eq, mapL_eq]; simp [l1, hcs]
  have hin := into_sound h (off := off) (n := fn.ntmps) hp hn hlen hvs
  have harr : ((args.map a.eval) ++ cap.toList).toArray = cl.args.map a.eval ++ cap := by
    apply Array.ext'
    simp [← hargs]
  rw [harr] at hin
  refine calls_of_wp hf h4 (hbody code fn.ntmps _ _ _ _ hin he4 (fun e x2 s2 a2 w2 hr hq => ?_))
  split at hq
  rotate_left
  · cases hq
  rename_i hex
  have hG2 : Fit (B.into a off fn.ntmps) { c with off := off } := into_fit hG
  obtain ⟨vs, L, k1, k2, k3, k4⟩ := resVs_sound (c := { c with off := off }) hr hG2 fn.results.toList hq
  split at k1
  rotate_left
  · cases k1
  rename_i hp2
  have hout := outof_sound h hr hp2
  have hres := results_list (c := { c with off := off }) fn a2.tmps k3.mapM
  have hrep := tupD_rep (w := w2) (s := s2) k2 k4
  generalize lstV L = R at hres hrep
  have hfin : Kp (a.put o.dst R) w2 := by
    unfold putOK at k1
    split at k1
    · rename_i k hk
      obtain ⟨x', m1, m2⟩ := put_sound hnt hout k1 hrep
      rw [← hnt, gput_local] at m2
      rw [hk]
      exact hK _ _ _ _ m1 m2
    · rename_i hk
      rw [hk]
      exact hK _ _ _ _ k1 hout
  cases e with
  | normal => exact ⟨hr.defers, _, hres, hfin⟩
  | ret => exact ⟨hr.defers, _, hres, hfin⟩
  | _ => cases hex
end
end Go.V
