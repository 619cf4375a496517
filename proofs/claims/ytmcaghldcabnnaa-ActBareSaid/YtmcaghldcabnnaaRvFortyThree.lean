/- Functions that write through what they are handed: what a body computes. -/
import Derived.Test.YtmcaghldcabnnaaRvTwentySeven
namespace Go.V
open Go.RowKit

variable {α : Type}

def hintP : Ty → List (Option Ty)
  | .pair a b => app (hintP a) (hintP b)
  | .unit => []
  | .ptr e => [some e]
  | _ => [none]

def ptHs : List RS → List (Option Ty)
  | [] => []
  | r :: l => app (hintP r.e) (ptHs l)

def fixTs : List (Option Ty) → List T → Option (List T)
  | [], ts => some ts
  | h :: hs, ts => match ts with
    | [] => some []
    | t :: ts => (fixT h t).bind fun t' => (fixTs hs ts).map fun l => t' :: l

theorem fixTs_get : ∀ {hs : List (Option Ty)} {ts ts' : List T}, fixTs hs ts = some ts' → ts'.length = ts.length ∧ ∀ (j : Nat) t', ts'[j]? = some t' → ∃ t h, ts[j]? = some t ∧ fixT h t = some t'
  | [], ts, ts', h => by
    simp only [fixTs, Option.some.injEq] at h
    subst h
    exact ⟨rfl, fun j t' e => ⟨t', none, e, rfl⟩⟩
  | h0 :: hs, ts, ts', h => by
    cases ts with
    | nil =>
      simp only [fixTs, Option.some.injEq] at h
      subst h
      exact ⟨rfl, fun j t' e => by simp at e⟩
    | cons t ts =>
      obtain ⟨t1, h1, h2⟩ := Option.bind_eq_some_iff.mp h
      obtain ⟨l, h3, rfl⟩ := Option.map_eq_some_iff.mp h2
      obtain ⟨g1, g2⟩ := fixTs_get h3
      refine ⟨by simp [g1], fun j t' e => ?_⟩
      cases j with
      | zero =>
        simp only [List.getElem?_cons_zero, Option.some.injEq] at e
        subst e
        exact ⟨t, h0, rfl, h1⟩
      | succ j =>
        obtain ⟨u, h, f1, f2⟩ := g2 j t' (by simpa using e)
        exact ⟨u, h, by simpa using f1, f2⟩

def isPtT : T → Bool
  | .pt .own _ _ => true
  | _ => false

def finMK (cx : Ctx) (x : X) (rvs : List ResultVar) (sg : Sig) : Option (den (resTy sg.rs)) :=
  match and (allB (fun j => mem x.pin j) (mutJs 0 sg.ps)) (allB (fun r => !r.agg) (dropN (Nat.sub sg.rs.length (mutJs 0 sg.ps).length) sg.rs)) with
  | true => resCsK cx x (app rvs (mapL ResultVar.tmp (mutJs 0 sg.ps))) sg.rs fun ys => prepK (resFrz sg.rs) [] ys x fun ys x1 => takeCsK (resHints sg.rs) ys ys.length x1 fun ts0 _ => (fixTs (ptHs sg.rs) ts0).bind fun ts =>
      match and (allB T.clean ts) (allB isPtT (dropN (offM sg) ts)) with
      | true => packRs sg.rs ts
      | false => none
  | false => none

def X.startM (ds : List D) (rows : List (Nat × List T)) (js : List Nat) : X := { env := startEnv 0 ds, roots := rows, lock := [], pin := js, dirt := [] }

/-- What a function computes, with what is in the boxes then. -/
noncomputable def denM (cx : Ctx) (Δ : List (Nat × Fn)) (an : Ann) (nt : Nat) (code : Code) (rvs : List ResultVar) (sg : Sig) (d : den (argTy sg.ps)) : Option (den (resTy sg.rs)) :=
  denC Δ an (den (resTy sg.rs)) cx ⟨0, nt⟩ [] (.code code) (X.startM (mparsD 0 sg.ps d) (mrows 0 sg.ps d) (mutJs 0 sg.ps)) fun e x => match e with
    | .normal => finMK cx x rvs sg
    | .ret => finMK cx x rvs sg
    | _ => none

section
variable {c : Ctx} {B : Base} {s : Sit} {x : X} {a : Act} {w : World} {nt : Fr}

theorem Shapes.length {us : List Value} : ∀ {l : List RS} {off : Nat} {L : List Value}, Shapes us off l L → L.length = l.length
  | [], off, L, h => by have h : L = [] := h; subst h; rfl
  | r :: l, off, L, h => by
    obtain ⟨v, L', rfl, -, h3⟩ := h
    simp [h3.length]

theorem Shapes.tail {us : List Value} : ∀ {l : List RS} {off n : Nat} {L : List Value}, Shapes us off l L → (∀ r ∈ l.drop n, r.agg = false) → n ≤ l.length → szRs l = szRs (l.take n) + (l.length - n) ∧
    ∀ i v, L[n + i]? = some v → us[off + szRs (l.take n) + i]? = some v
  | [], off, n, L, h, _, hn => by
    have h : L = [] := h
    subst h
    exact ⟨by simp at hn; subst hn; rfl, fun i v e => by simp at e⟩
  | r :: l, off, 0, L, h, ha, hn => by
    obtain ⟨v0, L', rfl, h1, h2⟩ := h
    have hr : r.agg = false := ha r (by simp)
    rw [hr] at h1
    obtain ⟨g1, g2⟩ := Shapes.tail (n := 0) h2 (fun r' hr' => ha r' (by simp only [List.drop_zero] at hr' ⊢; exact List.mem_cons_of_mem _ hr')) (Nat.zero_le _)
    simp only [List.take_zero, szRs, Nat.zero_add, Nat.sub_zero, Nat.add_zero] at g1 g2 ⊢
    refine ⟨by rw [g1, h1.1]; simp; omega, fun i v e => ?_⟩
    cases i with
    | zero =>
      simp only [List.getElem?_cons_zero, Option.some.injEq] at e
      subst e
      exact h1.2
    | succ i =>
      have := g2 i v (by simpa using e)
      rw [h1.1] at this
      rw [← this]; congr 1; omega
  | r :: l, off, n + 1, L, h, ha, hn => by
    obtain ⟨v0, L', rfl, h1, h2⟩ := h
    obtain ⟨g1, g2⟩ := Shapes.tail (n := n) h2 (fun r' hr' => ha r' (by simpa using hr')) (by simpa using hn)
    refine ⟨by simp only [szRs, List.take_succ_cons]; rw [g1]; simp; omega, fun i v e => ?_⟩
    have := g2 i v (by rw [show n + 1 + i = (n + i) + 1 by omega] at e; simpa using e)
    simp only [szRs, List.take_succ_cons]
    rw [← this]; congr 1; omega

theorem mutJs_lt : ∀ (l : List PS) (m : Nat), ∀ j ∈ mutJs m l, m ≤ j ∧ j < m + l.length
  | [], m, j, hj => by simp [mutJs] at hj
  | p :: l, m, j, hj => by
    unfold mutJs at hj
    split at hj
    · rcases List.mem_cons.1 hj with e | e
      · simp; omega
      · have := mutJs_lt l (m + 1) j e; simp; omega
    · have := mutJs_lt l (m + 1) j hj; simp; omega

theorem finM_sound (hG : Fit B c) (h0 : c.off = 0) (h : RelW B s x a w) {fn : Func} {sg : Sig} {r : den (resTy sg.rs)} (he : finMK c x fn.results.toList sg = some r) :
    ∃ v ro φ, (results fn a.tmps).run c.P w = .ok v w ∧ (∀ b, ro b → B.R0 b ∨ B.O0 b ∨ B.w0.heap.size ≤ b) ∧ (∀ b, ro b → b < w.heap.size) ∧ (∀ b, B.R0 b → ro b) ∧ (∃ u, RepO w (roS ro) (.vr (resRow sg.rs r)) u φ) ∧ Inj φ ∧
      (∀ q y b, φ q = some y → blkOf y = some b → (B.O0 b ∨ B.w0.heap.size ≤ b) ∧ b < w.heap.size ∧ ¬ ro b) ∧ (∀ (i j : Nat), (mutJs 0 sg.ps)[i]? = some j → φ [(0, offM sg + i)] = some (B.PV j)) ∧
      ∀ s' k, s'.S = roS ro → s'.Φ k = φ → RepD w s' (resDM k sg r) v := by
  unfold finMK at he
  split at he
  rotate_left
  · cases he
  rename_i hb
  simp only [Bool.and_eq_true] at hb
  obtain ⟨b1, b2⟩ := hb
  rw [app_eq] at he
  obtain ⟨ys, us, L, h1, h2, h3, h4, h5⟩ := resCs_sound hG h _ sg.rs he
  obtain ⟨zs, x0, s0, k1, k2, k3, k4⟩ := prep_sound (resFrz sg.rs) [] ys (vals := us) h (fun j y e => h3 j y (by simpa using e)) h1
  simp only [List.length_nil, Nat.zero_add] at k3
  obtain ⟨ts0, x1, s1, us1, φ, hK, hrel, htk, hS, hF, hsub, -, hlen, hvals⟩ := takeCs_sound zs.length (resHints sg.rs) zs (vals := us) k2.rel (Taken.empty (fun _ => .nilIface)) k4 rfl k1
  simp only [List.nil_append, List.length_nil, Nat.zero_add] at htk hvals
  obtain ⟨ts, hfix, hK⟩ := Option.bind_eq_some_iff.mp hK
  obtain ⟨hfl, hfg⟩ := fixTs_get hfix
  split at hK
  rotate_left
  · cases hK
  rename_i hcl
  simp only [Bool.and_eq_true] at hcl
  have hrow := packRs_some sg.rs hK
  have hown : ∀ b, ¬ s1.S .own b := hrel.sown
  have hget0 : ∀ (j : Nat) t, ts[j]? = some t → RepO w (roS (s1.S .ro)) t (us1 j) (φ.at 0 j) := by
    intro j t e
    obtain ⟨t0, h0, f1, f2⟩ := hfg j t e
    exact clean_repO hown (fixT_rep f2 (htk.get j t0 f1)) ((allB_iff _ _).1 hcl.1 t (List.mem_of_getElem? e))
  have hget : ∀ (j : Nat) t, (resRow sg.rs r)[j]? = some t → ∃ u, us[0 + j]? = some u ∧ RepO w (roS (s1.S .ro)) t u (φ.at 0 (0 + j)) := by
    intro j t e
    rw [← hrow] at e
    have hj : j < zs.length := by have := (List.getElem?_eq_some_iff.mp e).1; omega
    rw [Nat.zero_add]
    exact ⟨us1 j, hvals j hj, hget0 j t e⟩
  obtain ⟨L1, L2, rfl, hL1, hr1, hr2⟩ := h4.split
  have hLlen := h5.length
  have hjl : L2.length = (mutJs 0 sg.ps).length := by
    have : ∀ {l : List ResultVar} {L : List Value}, ReadsTo c.P w a.tmps l L → L.length = l.length := by
      intro l
      induction l with
      | nil => intro L h; have h : L = [] := h; subst h; rfl
      | cons r l ih => intro L h; obtain ⟨v, L', rfl, -, h2⟩ := h; simp [ih h2]
    rw [this hr2, mapL_eq, List.length_map]
  have hnR : Nat.sub sg.rs.length (mutJs 0 sg.ps).length = L1.length := by
    have h6 : L1.length + L2.length = sg.rs.length := by rw [← List.length_append]; exact hLlen
    show sg.rs.length - (mutJs 0 sg.ps).length = L1.length
    omega
  have htail := h5.tail (n := L1.length) (fun r' hr' => by
    have := (allB_iff _ _).1 b2 r' (by rw [dropN_eq, hnR]; exact hr')
    simpa using this) (by rw [← hLlen]; simp)
  have hoff : offM sg = szRs (sg.rs.take L1.length) := by
    show szRs sg.rs - (mutJs 0 sg.ps).length = _
    have h6 : L1.length + L2.length = sg.rs.length := by rw [← List.length_append]; exact hLlen
    omega
  refine ⟨_, s1.S .ro, φ, results_list fn a.tmps hr1.mapM, hrel.srn, fun b hb => hrel.slt .ro b hb, hrel.sro, ⟨.nilIface, ?_⟩, htk.own.inj, fun q y b e1 e2 => ?_, fun i j hij => ?_, fun s' k hS' hΦ => ?_⟩
  · refine .vr _ _ us1 _ (fun j t e => ?_) htk.nil (fun i j hij => ?_)
    · rw [← hrow] at e
      exact hget0 j t e
    · rw [← hrow] at hij
      refine htk.out i j ?_
      rcases hij with hij | hij
      · exact .inl hij
      · refine .inr ?_
        rw [List.getElem?_eq_none_iff] at hij ⊢
        omega
  · have := htk.own.own _ _ _ e1 e2
    exact ⟨this.2.2, this.2.1, this.1 .ro⟩
  · have hi : i < (mutJs 0 sg.ps).length := (List.getElem?_eq_some_iff.mp hij).1
    have hread : ∀ (js : List Nat) (L2 : List Value), ReadsTo c.P w a.tmps (js.map ResultVar.tmp) L2 → ∀ (i j : Nat), js[i]? = some j → L2[i]? = some (a.tmps.getD j undef) := by
      intro js
      induction js with
      | nil => intro L2 _ i j e; simp at e
      | cons j0 js ih =>
        intro L2 hL i j e
        obtain ⟨v, L', rfl, g1, g2⟩ := hL
        cases i with
        | zero =>
          simp only [List.getElem?_cons_zero, Option.some.injEq] at e
          subst e
          have g1 : Result.ok (a.tmps.getD j0 undef) w = .ok v w := by rw [← g1]; rfl
          simp only [Result.ok.injEq, and_true] at g1
          simp [g1]
        | succ i => exact ih L' g2 i j (by simpa using e)
    rw [mapL_eq] at hr2
    have hv := hread _ _ hr2 i j hij
    have hpin := h.pins j ((mem_iff _ _).1 ((allB_iff _ _).1 b1 j (List.mem_of_getElem? hij)))
    rw [tv_zero (by rw [hG.off, h0])] at hpin
    have hval : a.tmps.getD j undef = B.PV j := by simp [hpin]
    rw [hval] at hv
    have hus := htail.2 i (B.PV j) (by rw [List.getElem?_append_right (by omega)]; rw [show L1.length + i - L1.length = i by omega]; exact hv)
    rw [Nat.zero_add, ← hoff] at hus
    -- the cell there is a box
    have hlt : offM sg + i < ts.length := by
      have h7 : ts.length = szRs sg.rs := by rw [hrow, length_resRow]
      have h8 := htail.1
      have h9 : L1.length + L2.length = sg.rs.length := by rw [← List.length_append]; exact hLlen
      omega
    have hpt := (allB_iff _ _).1 hcl.2 ts[offM sg + i] (by
      rw [dropN_eq, List.mem_drop_iff_getElem]
      exact ⟨i, by omega, rfl⟩)
    have hrep := hget0 (offM sg + i) _ (List.getElem?_eq_getElem hlt)
    have hz : zs.length = us.length := by omega
    have hvl := hvals (offM sg + i) (by omega)
    rw [hus, Option.some.injEq] at hvl
    generalize ts[offM sg + i] = t at hpt hrep
    unfold isPtT at hpt
    split at hpt
    · rename_i e d
      have := (box_lay hrep (t := .pt .own e d) rfl).1
      rw [hvl]; exact this
    · cases hpt
  · obtain ⟨g1, g2⟩ := views_rep (w := w) hS' hΦ (us := us) sg.rs r 0 (L1 ++ L2) hget h5
    unfold resDM
    rw [hnR]
    generalize hVs : (resViews k 0 sg.rs r).take L1.length = Vs
    have hVl : Vs.length = L1.length := by rw [← hVs, List.length_take, ← g1]; simp
    have g2' : ∀ (j : Nat) V, Vs[j]? = some V → ∃ v, L1[j]? = some v ∧ RepV w s' V v := by
      intro j V e
      have hj : j < L1.length := by have := (List.getElem?_eq_some_iff.mp e).1; omega
      rw [← hVs, List.getElem?_take, if_pos hj] at e
      obtain ⟨v, f1, f2⟩ := g2 j V e
      rw [List.getElem?_append_left hj] at f1
      exact ⟨v, f1, f2⟩
    match Vs, L1 with
    | [V], [v] =>
      obtain ⟨v', f1, f2⟩ := g2' 0 V rfl
      simp only [List.getElem?_cons_zero, Option.some.injEq] at f1
      subst f1
      exact .v _ _ f2
    | [], [] => exact .tup _ _ rfl (fun j V e => by simp at e)
    | V1 :: V2 :: Vs, v1 :: v2 :: L => exact .tup _ _ (by simpa using hVl.symm) (fun j V e => by
        obtain ⟨v', f1, f2⟩ := g2' j V e
        exact ⟨v', by simpa using f1, f2⟩)
    | [], _ :: _ => simp at hVl
    | [_], [] => simp at hVl
    | [_], _ :: _ :: _ => simp at hVl
    | _ :: _ :: _, [] => simp at hVl
    | _ :: _ :: _, [_] => simp at hVl

theorem length_mparsD : ∀ (l : List PS) (m : Nat) (d : den (argTy l)), (mparsD m l d).length = l.length
  | [], _, _ => rfl
  | [_], _, _ => rfl
  | p :: q :: l, m, d => by show (_ :: mparsD (m + 1) (q :: l) d.2).length = _; simp [length_mparsD (q :: l) (m + 1) d.2]

theorem sound_of_denM {Δ : List (Nat × Fn)} (hΔ : Known c.P c.G Δ) {f : FuncId} {fn : Func} {code : Code} {sg : Sig} {an : Ann} (hf : c.P.funcs[f]? = some fn) (hb : fn.body = some code) (hn : sg.ps.length ≤ fn.ntmps) (h0 : c.off = 0) :
    SoundM c.P c.G f sg (denM c Δ an fn.ntmps code fn.results.toList sg) := by
  intro w s vs d r hg hlen hargs hsem
  let B : Base := { nt := ⟨0, fn.ntmps⟩, out := fun _ => none, w0 := w, O0 := Handed s, R0 := s.S .ro, B0 := s.S .bo, G := c.G, F := s.F, muts := [], Φ0 := fun _ => noLay, LC := fun _ _ => none, LΦ := fun _ _ => noLay, PV := fun k => (vs[k]?).getD .nilIface }
  have hstart : RelW B s (X.startM (mparsD 0 sg.ps d) (mrows 0 sg.ps d) (mutJs 0 sg.ps)) { tmps := vs.toArray ++ Array.replicate (fn.ntmps - vs.toArray.size) undef, defers := [] } w := {
    defers := rfl
    size := by show _ = fn.ntmps; simp; omega
    env := fun k D hD => by
      obtain ⟨-, h2⟩ := startEnv_some hD
      rw [Nat.sub_zero] at h2
      obtain ⟨v, g1, g2⟩ := hargs k D h2
      have hk : k < vs.length := (List.getElem?_eq_some_iff.mp g1).1
      exact ⟨v, by rw [tv_zero rfl]; simp [Array.getElem?_append, hk]; exact (List.getElem?_eq_some_iff.mp g1).2, g2⟩
    roots := hg.roots
    rootn := hg.rootn
    inj := hg.inj
    own := fun r p y b e1 e2 => by
      have := hg.own r p y b e1 e2
      exact ⟨this.1, this.2, .inl ⟨r, p, y, e1, e2⟩⟩
    slt := hg.slt
    sown := hg.sown
    sro := fun b hb => hb
    srn := fun b hb => .inl hb
    sbo := fun b hb => hb
    srb := hg.srb
    sbn := fun b hb => .inl hb
    F := rfl
    os := rfl
    tape := rfl
    output := rfl
    grow := Nat.le_refl _
    kept := fun _ _ _ => rfl
    glob := hg.glob
    pins := fun k hk => by
      have hlt := (mutJs_lt sg.ps 0 k hk).2
      have hk : k < vs.length := by omega
      rw [tv_zero rfl]
      simp [Array.getElem?_append, hk, B]
    locks := fun r d hd => by simp [X.startM] at hd
    dirt := fun r hr => by simp [B] at hr }
  refine calls_of_wp hf hb (denC_sound hΔ an _ c ⟨0, fn.ntmps⟩ [] (.code code) (B := B) rfl rfl ⟨rfl, h0.symm⟩ rfl rfl (fun e x s1 a w' hr hq => ?_) hstart hsem)
  have hfin : (e = .normal ∨ e = .ret) ∧ finMK c x fn.results.toList sg = some r := by
    cases e <;> first | exact ⟨.inl rfl, hq⟩ | exact ⟨.inr rfl, hq⟩ | cases hq
  obtain ⟨v, ro, φ, g1, g2, g3, g4, g5, g6, g7, g8, g9⟩ := finM_sound (B := B) ⟨rfl, h0.symm⟩ h0 hr hfin.2
  have hpost : a.defers = [] ∧ ∃ v, (results fn a.tmps).run c.P w' = .ok v w' ∧ ∃ v_1 ro φ, Ending.returned v = .returned v_1 ∧ LeftM w s w' ro (resRow sg.rs r) φ ∧
      (∀ i j, (mutJs 0 sg.ps)[i]? = some j → ∃ v, vs[j]? = some v ∧ φ [(0, offM sg + i)] = some v) ∧ ∀ s' k, s'.S = roS ro → s'.Φ k = φ → RepD w' s' (resDM k sg r) v_1 := by
    refine ⟨hr.defers, v, g1, v, ro, φ, rfl, ⟨hr.os, hr.tape, hr.output, hr.grow, hr.kept, g4, g2, g3, g5, g6, g7⟩, fun i j hij => ?_, g9⟩
    have hlt := (mutJs_lt sg.ps 0 j (List.mem_of_getElem? hij)).2
    have hj : j < vs.length := by omega
    have := g8 i j hij
    simp only [B, List.getElem?_eq_getElem hj, Option.getD_some] at this
    exact ⟨vs[j], List.getElem?_eq_getElem hj, this⟩
  rcases hfin.1 with rfl | rfl <;> exact hpost

end
end Go.V
