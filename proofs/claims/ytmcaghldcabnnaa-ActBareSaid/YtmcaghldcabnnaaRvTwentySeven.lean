/- Functions: what a body computes is what a call hands back. -/
import Derived.Test.YtmcaghldcabnnaaRvThirtyThree
namespace Go.V
open Go.RowKit

variable {α : Type}

/-! ### what is handed back speaks of nothing that was lent -/
def T.clean : T → Bool
  | .v _ => true
  | .dead => true
  | .sl .own _ _ => true
  | .sl .ro _ _ => true
  | .pt .own _ _ => true
  | .pt .ro _ _ => true
  | _ => false

theorem cells_clean {g : Fl} (hg : g ≠ .bo) : ∀ (e : Ty) (d : den e), ∀ t ∈ cells g e d, t.clean = true := by
  intro e
  induction e with
  | pair a b iha ihb =>
    intro d t ht
    simp only [cells, app_eq, List.mem_append] at ht
    rcases ht with ht | ht
    · exact iha _ t ht
    · exact ihb _ t ht
  | int | bool | str | rsl => intro d t ht; simp only [cells, List.mem_singleton] at ht; subst ht; rfl
  | sl e => intro d t ht; simp only [cells, List.mem_singleton] at ht; subst ht; cases g <;> first | rfl | exact absurd rfl hg
  | ptr e => intro d t ht; simp only [cells, List.mem_singleton] at ht; subst ht; cases g <;> first | rfl | exact absurd rfl hg
  | _ => intro d t ht; simp [cells] at ht

theorem rows_clean {g : Fl} (hg : g ≠ .bo) {e : Ty} {xs : List (den e)} {i j : Nat} {t : T} (h : cellOf (rows g e xs) i j = some t) : t.clean = true := by
  rw [cellOf_rows] at h
  obtain ⟨d, _, h2⟩ := Option.bind_eq_some_iff.mp h
  rw [nth_eq] at h2
  exact cells_clean hg e d t (List.mem_of_getElem? h2)

section
variable {c : Ctx} {B : Base} {s : Sit} {x : X} {a : Act} {w : World} {nt : Fr}

theorem clean_rep {S : Fl → Nat → Prop} (hown : ∀ b, ¬ S .own b) {t : T} {v : Value} (h : RepR w S t v) : t.clean = true → RepR w (roS (S .ro)) t v := by
  induction h with
  | v x h1 => intro _; exact .v x h1
  | dead x => intro _; exact .dead x
  | nil f e ad cap => intro _; exact .nil f e ad cap
  | sl f e xs b off cap vs hR hcap hc hr ih =>
    intro hcl
    cases f with
    | own => exact absurd hR (hown b)
    | bo => cases hcl
    | ro => exact .sl .ro e xs b off cap vs ⟨.inl rfl, hR⟩ hcap hc (fun i j t e' => ih i j t e' (rows_clean (g := .ro) (by decide) e'))
  | box t f cs hb b off vs hR hc hr ih =>
    intro hcl
    cases t with
    | pt f' e d =>
      cases f' with
      | own => cases hb
      | bo => cases hcl
      | ro =>
        simp only [T.shBox?, Option.some.injEq, Prod.mk.injEq] at hb
        obtain ⟨rfl, rfl⟩ := hb
        exact .box _ .ro _ rfl b off vs ⟨.inl rfl, hR⟩ hc (fun j t e' => ih j t e' (cells_clean (g := .ro) (by decide) e d t (List.mem_of_getElem? e')))
    | _ => first | (simp [T.shBox?] at hb; done) | cases hcl
  | ga e xs b off vs hR hc hr ih => intro hcl; cases hcl

theorem clean_repO {S : Fl → Nat → Prop} (hown : ∀ b, ¬ S .own b) {t : T} {v : Value} {φ : Lay} (h : RepO w S t v φ) : t.clean = true → RepO w (roS (S .ro)) t v φ := by
  induction h with
  | sh t x h ht => intro hcl; exact .sh t x (clean_rep hown h hcl) ht
  | nil e ad φ h0 hn => intro _; exact .nil e ad φ h0 hn
  | sl e xs b off cap arr el vs φ hb hcap hsz hc hr h0 hn ih =>
    intro _
    exact .sl e xs b off cap arr el vs φ hb hcap hsz hc (fun i j t e' => ih i j t e' (rows_clean (g := .own) (by decide) e')) h0 hn
  | box t cs ht b arr el vs φ hb hsz hc hr h0 hn ih =>
    intro hcl
    cases t with
    | pt f' e d =>
      cases f' with
      | own =>
        simp only [T.box?, Option.some.injEq] at ht
        subst ht
        exact .box _ _ rfl b arr el vs φ hb hsz hc (fun j t e' => ih j t e' (cells_clean (g := .own) (by decide) e d t (List.mem_of_getElem? e'))) h0 hn
      | _ => simp [T.box?] at ht
    | _ => first | (simp [T.box?] at ht; done) | cases hcl
  | slo => intro hcl; cases hcl
  | vr cs x vs φ hr h0 hn ih => intro hcl; cases hcl

/-! ### results -/
def resFrz : List RS → List (Option Ty)
  | [] => []
  | r :: l => app (frzOf r.g r.e) (resFrz l)

def resHints : List RS → List (Option Ty)
  | [] => []
  | r :: l => app (hintsOf r.e) (resHints l)

def packRs : (l : List RS) → List T → Option (den (resTy l))
  | [], ts => match ts with
    | [] => some ()
    | _ :: _ => none
  | [r], ts => packAll r.g r.e ts
  | r :: q :: l, ts => (pack r.g r.e ts).bind fun p => (packRs (q :: l) p.2).map fun e => (p.1, e)

theorem packRs_some : ∀ (l : List RS) {ts : List T} {d : den (resTy l)}, packRs l ts = some d → ts = resRow l d
  | [], ts, d, h => by
    cases ts with
    | nil => rfl
    | cons => cases h
  | [r], ts, d, h => packAll_some h
  | r :: q :: l, ts, d, h => by
    obtain ⟨⟨d1, ts'⟩, h1, h2⟩ := Option.bind_eq_some_iff.mp h
    obtain ⟨e, h3, h4⟩ := Option.map_eq_some_iff.mp h2
    cases h4
    have h5 := pack_some _ _ h1
    have h6 := packRs_some (q :: l) h3
    simp only at h6
    show ts = app (cells r.g r.e d1) (resRow (q :: l) e)
    rw [h5, h6, app_eq]

def resVarK (cx : Ctx) (x : X) (rv : ResultVar) (K : D → Option α) : Option α := match rv with
  | .tmp t => (look x.env (cx.off + t)).bind K
  | .cell ad t => (look x.env (cx.off + ad)).bind fun d => loadK cx x t d K

def resCsK (cx : Ctx) (x : X) : List ResultVar → List RS → (List C → Option α) → Option α
  | [], rs, K => match rs with
    | [] => K []
    | _ :: _ => none
  | rv :: rvs, rs, K => match rs with
    | [] => none
    | r :: rs => resVarK cx x rv fun d => (cellsOf r.agg d).bind fun ys => match and (Nat.beq ys.length r.e.size) (match r.agg with | true => true | false => Nat.beq r.e.size 1) with
      | true => resCsK cx x rvs rs fun zs => K (app ys zs)
      | false => none

def finK (cx : Ctx) (x : X) (rvs : List ResultVar) (rs : List RS) : Option (den (resTy rs)) :=
  resCsK cx x rvs rs fun ys => prepK (resFrz rs) [] ys x fun ys x1 => takeCsK (resHints rs) ys ys.length x1 fun ts _ => match allB T.clean ts with
    | true => packRs rs ts
    | false => none

theorem resVar_sound (hG : Fit B c) (h : RelW B s x a w) {rv : ResultVar} {K : D → Option α} {q : α} (he : resVarK c x rv K = some q) : ∃ d v, K d = some q ∧ (readVar a.tmps rv).run c.P w = .ok v w ∧ RepD w s d v := by
  cases rv with
  | tmp t =>
    obtain ⟨d, h1, h2⟩ := Option.bind_eq_some_iff.mp he
    obtain ⟨v, g1, g2⟩ := h.env _ d h1
    rw [← hG.off, tv_local] at g1
    exact ⟨d, v, h2, by simp [readVar, g1], g2⟩
  | cell ad t =>
    obtain ⟨d0, h1, h2⟩ := Option.bind_eq_some_iff.mp he
    obtain ⟨v, g1, g2⟩ := h.env _ _ h1
    rw [← hG.off, tv_local] at g1
    obtain ⟨e, u, k1, k2, k3⟩ := load_sound h g2 h2
    refine ⟨e, u, k1, ?_, k3⟩
    have hv : a.tmps.getD ad undef = v := by simp [g1]
    simp only [readVar, hv]
    cases v with
    | pointer ad => cases ad with
      | some ad => rw [← k2]; rfl
      | none => simp [Instr.loadAt, Instr.sureAddr] at k2
    | _ => simp [Instr.loadAt, Instr.sureAddr] at k2

/-- How result values are made of cells. -/
def Shapes (us : List Value) : Nat → List RS → List Value → Prop
  | _, [], L => L = []
  | off, r :: l, L => ∃ v L', L = v :: L' ∧ (match r.agg with
    | true => ∃ arr : Array Value, v = .agg arr ∧ arr.size = r.e.size ∧ ∀ j, j < r.e.size → ∃ u, arr[j]? = some u ∧ us[off + j]? = some u
    | false => r.e.size = 1 ∧ us[off]? = some v) ∧ Shapes us (off + r.e.size) l L'

theorem Shapes.app {pre us : List Value} : ∀ {l : List RS} {off : Nat} {L : List Value}, Shapes us off l L → Shapes (pre ++ us) (pre.length + off) l L
  | [], off, L, h => h
  | r :: l, off, L, h => by
    obtain ⟨v, L', h1, h2, h3⟩ := h
    refine ⟨v, L', h1, ?_, by have := Shapes.app (pre := pre) h3; rwa [← Nat.add_assoc] at this⟩
    have hget : ∀ j, (pre ++ us)[pre.length + off + j]? = us[off + j]? := fun j => by
      rw [List.getElem?_append_right (by omega)]; congr 1; omega
    cases hagg : r.agg with
    | true =>
      rw [hagg] at h2
      obtain ⟨arr, g1, g2, g3⟩ := h2
      exact ⟨arr, g1, g2, fun j hj => by obtain ⟨u, k1, k2⟩ := g3 j hj; exact ⟨u, k1, by rw [hget]; exact k2⟩⟩
    | false =>
      rw [hagg] at h2
      refine ⟨h2.1, ?_⟩
      have := hget 0
      rw [Nat.add_zero, Nat.add_zero] at this
      rw [this]; exact h2.2

theorem resCs_sound (hG : Fit B c) (h : RelW B s x a w) : ∀ (rvs : List ResultVar) (rs : List RS) {K : List C → Option α} {q : α}, resCsK c x rvs rs K = some q →
    ∃ ys us L, K ys = some q ∧ us.length = ys.length ∧ (∀ (j : Nat) y, ys[j]? = some y → ∃ u, us[j]? = some u ∧ RepC w s y u) ∧ ReadsTo c.P w a.tmps rvs L ∧ Shapes us 0 rs L
  | [], rs, K, q, he => by
    cases rs with
    | nil => exact ⟨[], [], [], he, rfl, fun j y e => by simp at e, rfl, rfl⟩
    | cons => cases he
  | rv :: rvs, [], K, q, he => by cases he
  | rv :: rvs, r :: rs, K, q, he => by
    obtain ⟨d, v, h1, h2, h3⟩ := resVar_sound hG h (K := fun d => (cellsOf r.agg d).bind fun ys => match and (Nat.beq ys.length r.e.size) (match r.agg with | true => true | false => Nat.beq r.e.size 1) with
      | true => resCsK c x rvs rs fun zs => K (V.app ys zs)
      | false => none) he
    obtain ⟨ys, h4, h5⟩ := Option.bind_eq_some_iff.mp h1
    split at h5
    rotate_left
    · cases h5
    rename_i hb
    simp only [Bool.and_eq_true] at hb
    have hb1 := Nat.eq_of_beq_eq_true hb.1
    obtain ⟨zs, us, L, k1, k2, k3, k4, k5⟩ := resCs_sound hG h rvs rs h5
    have hcell : ∃ us0 : List Value, us0.length = ys.length ∧ (∀ (j : Nat) y, ys[j]? = some y → ∃ u, us0[j]? = some u ∧ RepC w s y u) ∧ (match r.agg with
        | true => ∃ arr : Array Value, v = .agg arr ∧ arr.size = r.e.size ∧ ∀ j, j < r.e.size → ∃ u, arr[j]? = some u ∧ us0[j]? = some u
        | false => r.e.size = 1 ∧ us0[0]? = some v) := by
      unfold cellsOf at h4
      cases hagg : r.agg with
      | true =>
        rw [hagg] at h4
        have h4 := D.agg?_some h4
        subst h4
        cases h3 with
        | v _ _ h3 => cases h3 with
          | ag _ arr hs hc =>
            exact ⟨arr.toList, by simpa using hs, fun j y e => by obtain ⟨u, g1, g2⟩ := hc j y e; exact ⟨u, by simpa using g1, g2⟩, arr, rfl, by omega, fun j hj => ⟨arr[j]'(by omega), by simp, by simp⟩⟩
      | false =>
        rw [hagg] at h4 hb
        obtain ⟨y, h6, rfl⟩ := Option.map_eq_some_iff.mp h4
        have h6 := D.one_some h6
        subst h6
        cases h3 with
        | v _ _ h3 => cases h3 with
          | c _ _ h3 =>
            exact ⟨[v], rfl, fun j y' e => by
              cases j with
              | zero => simp only [List.getElem?_cons_zero, Option.some.injEq] at e; subst e; exact ⟨v, rfl, h3⟩
              | succ j => simp at e, Nat.eq_of_beq_eq_true hb.2, rfl⟩
    obtain ⟨us0, m1, m2, m3⟩ := hcell
    refine ⟨_, us0 ++ us, v :: L, k1, by rw [app_eq]; simp [m1, k2], fun j y e => ?_, ⟨v, L, rfl, h2, k4⟩, v, L, rfl, ?_, ?_⟩
    · rw [app_eq] at e
      by_cases hj : j < ys.length
      · rw [List.getElem?_append_left hj] at e
        obtain ⟨u, g1, g2⟩ := m2 j y e
        exact ⟨u, by rw [List.getElem?_append_left (by omega)]; exact g1, g2⟩
      · rw [List.getElem?_append_right (by omega)] at e
        obtain ⟨u, g1, g2⟩ := k3 _ y e
        exact ⟨u, by rw [List.getElem?_append_right (by omega), m1]; exact g1, g2⟩
    · cases hagg : r.agg with
      | true =>
        rw [hagg] at m3
        obtain ⟨arr, g1, g2, g3⟩ := m3
        refine ⟨arr, g1, g2, fun j hj => ?_⟩
        obtain ⟨u, f1, f2⟩ := g3 j hj
        exact ⟨u, f1, by rw [Nat.zero_add, List.getElem?_append_left (by omega)]; exact f2⟩
      | false =>
        rw [hagg] at m3
        exact ⟨m3.1, by rw [List.getElem?_append_left (by omega)]; exact m3.2⟩
    · have := Shapes.app (pre := us0) k5
      rw [m1, hb1, Nat.add_zero] at this
      rw [Nat.zero_add]; exact this

theorem views_rep {S' : Fl → Nat → Prop} {φ : Lay} {s' : Sit} {k : Nat} (hS : s'.S = S') (hΦ : s'.Φ k = φ) {us : List Value} :
    ∀ (l : List RS) (d : den (resTy l)) (off : Nat) (L : List Value), (∀ (j : Nat) t, (resRow l d)[j]? = some t → ∃ u, us[off + j]? = some u ∧ RepO w S' t u (φ.at 0 (off + j))) → Shapes us off l L →
    L.length = (resViews k off l d).length ∧ ∀ (j : Nat) V, (resViews k off l d)[j]? = some V → ∃ v, L[j]? = some v ∧ RepV w s' V v := by
  have one : ∀ (r : RS) (d : den r.e) (off : Nat) (v : Value), (∀ (j : Nat) t, (cells r.g r.e d)[j]? = some t → ∃ u, us[off + j]? = some u ∧ RepO w S' t u (φ.at 0 (off + j))) →
      (match r.agg with
        | true => ∃ arr : Array Value, v = .agg arr ∧ arr.size = r.e.size ∧ ∀ j, j < r.e.size → ∃ u, arr[j]? = some u ∧ us[off + j]? = some u
        | false => r.e.size = 1 ∧ us[off]? = some v) → RepV w s' (viewV k off r.agg (cells r.g r.e d)) v := by
    intro r d off v hrow hsh
    unfold viewV
    cases hagg : r.agg with
    | true =>
      rw [hagg] at hsh
      obtain ⟨arr, rfl, h1, h2⟩ := hsh
      refine .ag _ arr (by rw [length_viewsFrom, length_cells, h1]) (fun j y e => ?_)
      rw [get_viewsFrom] at e
      obtain ⟨t, e1, rfl⟩ := Option.map_eq_some_iff.mp e
      obtain ⟨u, g1, g2⟩ := hrow j t e1
      have hj : j < r.e.size := by have := (List.getElem?_eq_some_iff.mp e1).1; rwa [length_cells] at this
      obtain ⟨u', f1, f2⟩ := h2 j hj
      rw [g1, Option.some.injEq] at f2
      subst f2
      rw [← hS] at g2
      exact ⟨u, f1, view_own g2 (by rw [hΦ]; rfl)⟩
    | false =>
      rw [hagg] at hsh
      have hl := length_cells r.g r.e d
      rw [hsh.1] at hl
      match hc : cells r.g r.e d, hl with
      | [t], _ =>
        obtain ⟨u, g1, g2⟩ := hrow 0 t (by rw [hc]; rfl)
        rw [Nat.add_zero, hsh.2, Option.some.injEq] at g1
        subst g1
        rw [← hS] at g2
        exact .c _ _ (view_own g2 (by rw [hΦ]; rfl))
  intro l
  induction l with
  | nil =>
    intro d off L _ hsh
    have : L = [] := hsh
    subst this
    exact ⟨rfl, fun j V e => by simp [resViews] at e⟩
  | cons r l ih =>
    intro d off L hrow hsh
    obtain ⟨v, L', rfl, h1, h2⟩ := hsh
    cases l with
    | nil =>
      have : L' = [] := h2
      subst this
      have hv := one r d off v hrow h1
      refine ⟨rfl, fun j V e => ?_⟩
      have e : [viewV k off r.agg (cells r.g r.e d)][j]? = some V := e
      cases j with
      | zero => simp only [List.getElem?_cons_zero, Option.some.injEq] at e; subst e; exact ⟨v, rfl, hv⟩
      | succ j => simp at e
    | cons q l =>
      have hrow' : ∀ (j : Nat) t, (cells r.g r.e d.1 ++ resRow (q :: l) d.2)[j]? = some t → ∃ u, us[off + j]? = some u ∧ RepO w S' t u (φ.at 0 (off + j)) := by
        intro j t e
        refine hrow j t ?_
        show (app (cells r.g r.e d.1) (resRow (q :: l) d.2))[j]? = some t
        rw [app_eq]; exact e
      have hv := one r d.1 off v (fun j t e => hrow' j t (by rw [List.getElem?_append_left (List.getElem?_eq_some_iff.mp e).1]; exact e)) h1
      obtain ⟨g1, g2⟩ := ih d.2 (off + r.e.size) L' (fun j t e => by
        have := hrow' (r.e.size + j) t (by rw [List.getElem?_append_right (by rw [length_cells]; omega), length_cells]; simpa using e)
        rwa [← Nat.add_assoc] at this) h2
      refine ⟨by show _ = (viewV k off r.agg (cells r.g r.e d.1) :: resViews k (off + r.e.size) (q :: l) d.2).length; simp [g1], fun j V e => ?_⟩
      have e : (viewV k off r.agg (cells r.g r.e d.1) :: resViews k (off + r.e.size) (q :: l) d.2)[j]? = some V := e
      cases j with
      | zero => simp only [List.getElem?_cons_zero, Option.some.injEq] at e; subst e; exact ⟨v, rfl, hv⟩
      | succ j =>
        obtain ⟨v', f1, f2⟩ := g2 j V (by simpa using e)
        exact ⟨v', by simpa using f1, f2⟩

/-- What a function computes. -/
noncomputable def denF (cx : Ctx) (Δ : List (Nat × Fn)) (an : Ann) (nt : Nat) (code : Code) (rvs : List ResultVar) (sg : Sig) (d : den (argTy sg.ps)) : Option (den (resTy sg.rs)) :=
  denC Δ an (den (resTy sg.rs)) cx ⟨0, nt⟩ [] (.code code) (X.start (paramsD sg.ps d)) fun e x => match e with
    | .normal => finK cx x rvs sg.rs
    | .ret => finK cx x rvs sg.rs
    | _ => none

theorem length_paramsD : ∀ (l : List PS) (d : den (argTy l)), (paramsD l d).length = l.length
  | [], _ => rfl
  | [_], _ => rfl
  | p :: q :: l, d => by show (_ :: paramsD (q :: l) d.2).length = _; simp [length_paramsD (q :: l) d.2]

theorem fin_sound (hG : Fit B c) (h : RelW B s x a w) {fn : Func} {rs : List RS} {r : den (resTy rs)} (he : finK c x fn.results.toList rs = some r) :
    ∃ v ro φ, (results fn a.tmps).run c.P w = .ok v w ∧ (∀ b, ro b → B.R0 b ∨ B.O0 b ∨ B.w0.heap.size ≤ b) ∧ (∀ b, ro b → b < w.heap.size) ∧ (∀ b, B.R0 b → ro b) ∧ (∃ u, RepO w (roS ro) (.vr (resRow rs r)) u φ) ∧ Inj φ ∧
      (∀ q y b, φ q = some y → blkOf y = some b → (B.O0 b ∨ B.w0.heap.size ≤ b) ∧ b < w.heap.size ∧ ¬ ro b) ∧ ∀ s' k, s'.S = roS ro → s'.Φ k = φ → RepD w s' (resD k rs r) v := by
  unfold finK at he
  obtain ⟨ys, us, L, h1, h2, h3, h4, h5⟩ := resCs_sound hG h fn.results.toList rs he
  obtain ⟨zs, x0, s0, k1, k2, k3, k4⟩ := prep_sound (resFrz rs) [] ys (vals := us) h (fun j y e => h3 j y (by simpa using e)) h1
  simp only [List.length_nil, Nat.zero_add] at k3
  obtain ⟨ts, x1, s1, us1, φ, hK, hrel, htk, hS, hF, hsub, -, hlen, hvals⟩ := takeCs_sound zs.length (resHints rs) zs (vals := us) k2.rel (Taken.empty (fun _ => .nilIface)) k4 rfl k1
  simp only [List.nil_append, List.length_nil, Nat.zero_add] at htk hvals
  split at hK
  rotate_left
  · cases hK
  rename_i hcl
  have hrow := packRs_some rs hK
  have hown : ∀ b, ¬ s1.S .own b := hrel.sown
  have hget : ∀ (j : Nat) t, (resRow rs r)[j]? = some t → ∃ u, us[0 + j]? = some u ∧ RepO w (roS (s1.S .ro)) t u (φ.at 0 (0 + j)) := by
    intro j t e
    rw [← hrow] at e
    have hj : j < zs.length := by have := (List.getElem?_eq_some_iff.mp e).1; omega
    rw [Nat.zero_add]
    exact ⟨us1 j, hvals j hj, clean_repO hown (htk.get j t e) ((allB_iff _ _).1 hcl t (List.mem_of_getElem? e))⟩
  refine ⟨_, s1.S .ro, φ, results_list fn a.tmps h4.mapM, hrel.srn, fun b hb => hrel.slt .ro b hb, hrel.sro, ⟨.nilIface, ?_⟩, htk.own.inj, fun q y b e1 e2 => ?_, fun s' k hS' hΦ => ?_⟩
  · refine .vr _ _ us1 _ (fun j t e => ?_) htk.nil (fun i j hij => ?_)
    · rw [← hrow] at e
      exact clean_repO hown (htk.get j t e) ((allB_iff _ _).1 hcl t (List.mem_of_getElem? e))
    · rw [← hrow] at hij
      exact htk.out i j hij
  · have := htk.own.own _ _ _ e1 e2
    exact ⟨this.2.2, this.2.1, this.1 .ro⟩
  · obtain ⟨g1, g2⟩ := views_rep (w := w) hS' hΦ (us := us) rs r 0 L hget h5
    unfold resD
    generalize resViews k 0 rs r = Vs at g1 g2
    match Vs, L with
    | [V], [v] =>
      obtain ⟨v', f1, f2⟩ := g2 0 V rfl
      simp only [List.getElem?_cons_zero, Option.some.injEq] at f1
      subst f1
      exact .v _ _ f2
    | [], [] => exact .tup _ _ rfl (fun j V e => by simp at e)
    | V1 :: V2 :: Vs, v1 :: v2 :: L => exact .tup _ _ (by simpa using g1) (fun j V e => by
        obtain ⟨v', f1, f2⟩ := g2 j V e
        exact ⟨v', by simpa using f1, f2⟩)
    | [], _ :: _ => simp at g1
    | [_], [] => simp at g1
    | [_], _ :: _ :: _ => simp at g1
    | _ :: _ :: _, [] => simp at g1
    | _ :: _ :: _, [_] => simp at g1

theorem sound_of_den {Δ : List (Nat × Fn)} (hΔ : Known c.P c.G Δ) {f : FuncId} {fn : Func} {code : Code} {sg : Sig} {an : Ann} (hf : c.P.funcs[f]? = some fn) (hb : fn.body = some code) (hn : sg.ps.length ≤ fn.ntmps) (h0 : c.off = 0) :
    SoundF c.P c.G f sg (denF c Δ an fn.ntmps code fn.results.toList sg) := by
  intro w s vs d r hΦ0 hlt hown hrb hglob hlen hargs hsem
  let B : Base := { nt := ⟨0, fn.ntmps⟩, out := fun _ => none, w0 := w, O0 := fun _ => False, R0 := s.S .ro, B0 := s.S .bo, G := c.G, F := s.F, muts := [], Φ0 := fun _ => noLay, LC := fun _ _ => none, LΦ := fun _ _ => noLay, PV := fun _ => .nilIface }
  have hstart : RelW B s (X.start (paramsD sg.ps d)) { tmps := vs.toArray ++ Array.replicate (fn.ntmps - vs.toArray.size) undef, defers := [] } w := {
    defers := rfl
    size := by show _ = fn.ntmps; simp; omega
    env := fun k D hD => by
      obtain ⟨-, h2⟩ := startEnv_some hD
      rw [Nat.sub_zero] at h2
      obtain ⟨v, g1, g2⟩ := hargs k D h2
      have hk : k < vs.length := (List.getElem?_eq_some_iff.mp g1).1
      exact ⟨v, by rw [tv_zero rfl]; simp [Array.getElem?_append, hk]; exact (List.getElem?_eq_some_iff.mp g1).2, g2⟩
    roots := fun r row e => by simp [X.start, look] at e
    rootn := fun r _ => hΦ0 r
    inj := fun r p y r' p' y' b e => by rw [hΦ0] at e; cases e
    own := fun r p y b e => by rw [hΦ0] at e; cases e
    slt := hlt
    sown := hown
    sro := fun b hb => hb
    srn := fun b hb => .inl hb
    sbo := fun b hb => hb
    srb := hrb
    sbn := fun b hb => .inl hb
    F := rfl
    os := rfl
    tape := rfl
    output := rfl
    grow := Nat.le_refl _
    kept := fun _ _ _ => rfl
    glob := hglob
    pins := fun k hk => by simp [X.start] at hk
    locks := fun r d hd => by simp [X.start] at hd
    dirt := fun r hr => by simp [B] at hr }
  refine calls_of_wp hf hb (denC_sound hΔ an _ c ⟨0, fn.ntmps⟩ [] (.code code) (B := B) rfl rfl ⟨rfl, h0.symm⟩ rfl rfl (fun e x s1 a w' hr hq => ?_) hstart hsem)
  have hfin : (e = .normal ∨ e = .ret) ∧ finK c x fn.results.toList sg.rs = some r := by
    cases e <;> first | exact ⟨.inl rfl, hq⟩ | exact ⟨.inr rfl, hq⟩ | cases hq
  obtain ⟨v, ro, φ, g1, g2, g3, g4, g5, g6, g7, g8⟩ := fin_sound (B := B) ⟨rfl, h0.symm⟩ hr hfin.2
  have hpost : a.defers = [] ∧ ∃ v, (results fn a.tmps).run c.P w' = .ok v w' ∧ ∃ v_1 ro φ, Ending.returned v = .returned v_1 ∧ Below w.heap.size w w' ∧ Left w.heap.size s w' ro (resRow sg.rs r) φ ∧
      ∀ s' k, s'.S = roS ro → s'.Φ k = φ → RepD w' s' (resD k sg.rs r) v_1 := by
    refine ⟨hr.defers, v, g1, v, ro, φ, rfl, ⟨hr.os, hr.tape, hr.output, hr.grow, fun b hb => hr.kept b hb (fun e => e)⟩, ⟨g4, fun b hb => ?_, g5, g6, fun q y b e1 e2 => ?_⟩, g8⟩
    · rcases g2 b hb with h1 | h1 | h1
      · exact .inl h1
      · exact h1.elim
      · exact .inr ⟨h1, g3 b hb⟩
    · obtain ⟨h1, h2, h3⟩ := g7 q y b e1 e2
      rcases h1 with h1 | h1
      · exact h1.elim
      · exact ⟨h1, h2, h3⟩
  rcases hfin.1 with rfl | rfl <;> exact hpost

end
end Go.V
