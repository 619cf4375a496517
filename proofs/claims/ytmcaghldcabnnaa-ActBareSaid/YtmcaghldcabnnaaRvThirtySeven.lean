/- From a function's meaning to a law's row. -/
import Derived.Test.YtmcaghldcabnnaaRvThirtySix
import Derived.OpenShut
import Derived.ChangeCalls
namespace Go.V
open Go.RowKit Go.ChangeShapes

/-- The parameters are these. -/
def fitsAll (P : Program) : List TypeId → List PS → Bool
  | [], [] => true
  | t :: ts, p :: ps => and (fitsB P 64 t p.e) (and (isBo p.f) (and (match P.underlying t with
    | some (.struct _) => p.agg
    | some (.int _) => !p.agg
    | some .bool => !p.agg
    | some .string => !p.agg
    | some (.slice _) => !p.agg
    | _ => false) (fitsAll P ts ps)))
  | _, _ => false

def okA : (l : List PS) → den (argTy l) → Prop
  | [], _ => True
  | [p], d => okD p.e d
  | p :: q :: l, d => okD p.e d.1 ∧ okA (q :: l) d.2

/-- Slices of a size that may be reached. -/
def okZ : List Bool → (l : List PS) → den (argTy l) → Prop
  | _, [], _ => True
  | bs, [p], d => bs.headD false = true → lenD p.e d ≤ reachBytes
  | bs, p :: q :: l, d => (bs.headD false = true → lenD p.e d.1 ≤ reachBytes) ∧ okZ bs.tail (q :: l) d.2

section
variable {H : Type} {enc : TypeId × Value → H} {P : Program} {w : World} {base : Nat} {spare : Nat → Bool} {held : Bool}

def oldSit (w : World) : Sit := { S := oldS w, Φ := fun _ => noLay, F := fun _ _ _ _ => False }

theorem param_rep {b0 : Nat} {t : TypeId} {p : PS} {v : Value} {d0 : DataW H} {ps : List MemPlace} (hfit : fitsB P 64 t p.e = true) (hbo : isBo p.f = true)
    (hagg : (match P.underlying t with
      | some (.struct _) => p.agg
      | some (.int _) => !p.agg
      | some .bool => !p.agg
      | some .string => !p.agg
      | some (.slice _) => !p.agg
      | _ => false) = true) (hval : Value.okWide P w .any b0 t v) (hd : DataW.Trod enc P w base spare held t v d0 ps) : ∃ d, (okD p.e d ∧ RepD w (oldSit w) (paramD p d) v) ∧ (isSl P t = true → (∀ n ∈ d0.weights P t, n ≤ reachBytes) → lenD p.e d ≤ reachBytes) := by
  obtain ⟨fuel, hf⟩ := hd
  obtain ⟨-, hlen, d, ⟨hd1, hd2⟩, hz⟩ := trod_has 64 t p.e hfit fuel _ _ hf
  have hpf : p.f = .bo := by
    cases hp : p.f <;> rw [hp] at hbo <;> first | rfl | cases hbo
  refine ⟨d, ⟨hd1, ?_⟩, hz⟩
  unfold paramD
  rw [hpf]
  have scalar : p.agg = false → v.cells = #[v] → RepD w (oldSit w) (.v (.c (.k (oneT (cells .bo p.e d))))) v := by
    intro _ hv
    rw [hv] at hlen hd2
    have hl := length_cells .bo p.e d
    rw [← hlen] at hl
    match hc : cells .bo p.e d, hl with
    | [t0], _ =>
      obtain ⟨u, h1, h2⟩ := hd2 0 t0 (by rw [hc]; rfl)
      simp only [List.getElem?_cons_zero, Option.some.injEq] at h1
      subst h1
      exact .v _ _ (.c _ _ (.k _ _ h2))
  have noagg : (∀ fs, P.underlying t ≠ some (.struct fs)) → (∀ n e, P.underlying t ≠ some (.array n e)) → (∀ ms, P.underlying t ≠ some (.interface ms)) → (∀ k e, P.underlying t ≠ some (.map k e)) → Cell.okWide P w .any b0 t v → v.cells = #[v] := by
    intro h1 h2 h3 h4 hv
    cases v with
    | agg cs =>
      unfold Cell.okWide at hv
      split at hv <;> rename_i e1 e2 <;> first | (cases e2; done) | (unfold Cell.ok at hv; split at hv <;> first | (rename_i e2 e3; cases e3; done) | exact hv.elim)
    | _ => rfl
  cases hu : P.underlying t with
  | none => rw [hu] at hagg; cases hagg
  | some td =>
    rw [hu] at hagg
    have ns : (∀ fs, td ≠ .struct fs) → (∀ n e, td ≠ .array n e) → (∀ ms, td ≠ .interface ms) → (∀ k e, td ≠ .map k e) → v.cells = #[v] := by
      intro h1 h2 h3 h4
      refine noagg (fun fs e => h1 fs (by rw [hu] at e; exact Option.some.inj e)) (fun n t e => h2 n t (by rw [hu] at e; exact Option.some.inj e)) (fun n e => h3 n (by rw [hu] at e; exact Option.some.inj e)) (fun n t e => h4 n t (by rw [hu] at e; exact Option.some.inj e)) ?_
      unfold Value.okWide at hval
      rw [hu] at hval
      split at hval
      · rename_i e; exact absurd (Option.some.inj e) (h1 _)
      · rename_i e; exact absurd (Option.some.inj e) (h2 _ _)
      · exact hval
    cases td with
    | struct fs =>
      simp only at hagg
      rw [hagg]
      unfold Value.okWide at hval
      rw [hu] at hval
      obtain ⟨cs, rfl, hs, -⟩ := hval
      refine .v _ _ (.ag _ cs ?_ (fun j y e => ?_))
      · rw [mapL_eq, List.length_map, length_cells]
        simpa [Value.cells] using hlen
      · rw [mapL_eq, List.getElem?_map] at e
        obtain ⟨t0, e1, rfl⟩ := Option.map_eq_some_iff.mp e
        obtain ⟨u, h1, h2⟩ := hd2 j t0 e1
        exact ⟨u, by simpa [Value.cells] using h1, .k _ _ h2⟩
    | int k => simp only [Bool.not_eq_true'] at hagg; rw [hagg]; exact scalar hagg (ns (fun _ h => by cases h) (fun _ _ h => by cases h) (fun _ h => by cases h) (fun _ _ h => by cases h))
    | bool => simp only [Bool.not_eq_true'] at hagg; rw [hagg]; exact scalar hagg (ns (fun _ h => by cases h) (fun _ _ h => by cases h) (fun _ h => by cases h) (fun _ _ h => by cases h))
    | string => simp only [Bool.not_eq_true'] at hagg; rw [hagg]; exact scalar hagg (ns (fun _ h => by cases h) (fun _ _ h => by cases h) (fun _ h => by cases h) (fun _ _ h => by cases h))
    | slice e => simp only [Bool.not_eq_true'] at hagg; rw [hagg]; exact scalar hagg (ns (fun _ h => by cases h) (fun _ _ h => by cases h) (fun _ h => by cases h) (fun _ _ h => by cases h))
    | _ => cases hagg

theorem params_rep {b0 : Nat} : ∀ (ts : List TypeId) (l : List PS) (vs : List Value) (ds : List (DataW H)) (ps : List MemPlace), fitsAll P ts l = true → DataW.TrodAll enc P w base spare held ts vs ds ps →
    (∀ (j : Nat) t v, ts[j]? = some t → vs[j]? = some v → Value.okWide P w .any b0 t v) →
    ∃ d : den (argTy l), okA l d ∧ vs.length = l.length ∧ (∀ (j : Nat) D, (paramsD l d)[j]? = some D → ∃ v, vs[j]? = some v ∧ RepD w (oldSit w) D v) ∧
      ((∀ (j : Nat) t d, ts[j]? = some t → ds[j]? = some d → ∀ n ∈ d.weights P t, n ≤ reachBytes) → okZ (ts.map (isSl P)) l d)
  | [], [], vs, ds, ps, _, h, _ => by
    obtain ⟨rfl, -, -⟩ := trodAll_nil h
    exact ⟨(), trivial, rfl, fun j D e => by simp [paramsD] at e, fun _ => trivial⟩
  | t :: ts, p :: l, vs, ds, ps, hfit, h, hval => by
    simp only [fitsAll, Bool.and_eq_true] at hfit
    obtain ⟨f1, f2, f3, f4⟩ := hfit
    obtain ⟨v, vs', d0, ds', p0, q0, rfl, rfl, rfl, h0, hr⟩ := trodAll_cons h
    obtain ⟨d, ⟨o1, o2⟩, oz⟩ := param_rep f1 f2 f3 (hval 0 t v rfl rfl) h0
    obtain ⟨e, m1, m2, m3, mz⟩ := params_rep ts l vs' ds' q0 f4 hr (fun j t v h1 h2 => hval (j + 1) t v (by simpa using h1) (by simpa using h2))
    cases l with
    | nil =>
      refine ⟨d, o1, by simpa using m2, fun j D hD => ?_, fun hz hb => oz hb (hz 0 t d0 rfl rfl)⟩
      have hD : [paramD p d][j]? = some D := hD
      cases j with
      | zero => simp only [List.getElem?_cons_zero, Option.some.injEq] at hD; subst hD; exact ⟨_, rfl, o2⟩
      | succ j => simp at hD
    | cons q l =>
      refine ⟨(d, e), ⟨o1, m1⟩, by simpa using m2, fun j D hD => ?_, fun hz => ⟨fun hb => oz hb (hz 0 t d0 rfl rfl), mz fun j t d h1 h2 => hz (j + 1) t d (by simpa using h1) (by simpa using h2)⟩⟩
      have hD : (paramD p d :: paramsD (q :: l) e)[j]? = some D := hD
      cases j with
      | zero => simp only [List.getElem?_cons_zero, Option.some.injEq] at hD; subst hD; exact ⟨_, rfl, o2⟩
      | succ j =>
        obtain ⟨v, g1, g2⟩ := m3 j D (by simpa using hD)
        exact ⟨v, by simpa using g1, g2⟩
  | [], _ :: _, _, _, _, hfit, _, _ => by cases hfit
  | _ :: _, [], _, _, _, hfit, _, _ => by cases hfit

/-- What a law is asked, called at old data: its answer. -/
theorem law_calls {f : FuncId} {ps : List PS} {sem : den (argTy ps) → Option Bool} (hs : SoundF P [] f ⟨ps, [⟨false, .own, .bool⟩]⟩ sem) {ts : List TypeId} (hfit : fitsAll P ts ps = true) (hlaw : ∀ d, okA ps d → sem d = some true)
    {args : Array Value} {ds : List (DataW H)} {p : List MemPlace} {b0 : Nat} (hA : DataW.TrodAll enc P w base spare held ts args.toList ds p) (hval : ∀ (j : Nat) t v, ts[j]? = some t → args[j]? = some v → Value.okWide P w .any b0 t v) :
    Calls P f args w fun e w' => e = .returned (.bool true) ∧ Below w.heap.size w w' := by
  obtain ⟨d, h1, h2, h3, -⟩ := params_rep ts ps args.toList ds p hfit hA (fun j t v e1 e2 => hval j t v e1 (by simpa using e2))
  have hc := hs w (oldSit w) args.toList d true (fun _ => rfl) (fun f b hb => hb.2) (fun b hb => by cases hb.1) (fun b hb => by cases hb.1) (fun g t hg => by cases hg) h2 h3 (hlaw d h1)
  have harr : args.toList.toArray = args := by simp
  rw [harr] at hc
  refine hc.mono (fun e w' he => ?_)
  obtain ⟨v, ro, φ, rfl, hb, -, hr⟩ := he
  refine ⟨?_, hb⟩
  have := hr { S := roS ro, Φ := fun _ => φ, F := fun _ _ _ _ => False } 0 rfl rfl
  cases this with
  | v _ _ hv => cases hv with
    | c _ _ hc => cases hc with
      | k _ _ hk => cases hk with
        | v _ _ => rfl
        | box _ _ _ hb => cases hb

/-- Arguments that lie below read as they did. -/
theorem args_stay (hl : laidOutB P = true) {w' : World} (hb : Below w.heap.size w w') : ∀ {ts : List TypeId} {vs : List Value} {ds : List (DataW H)} {ps : List MemPlace},
    ts.all (fun t => and (P.readableRec t) (decide (t < P.types.size))) = true → DataW.TrodAll enc P w 0 (fun _ => true) true ts vs ds ps → DataW.TrodAll enc P w' 0 (fun b => decide (b < w.heap.size)) true ts vs ds ps := by
  intro ts
  induction ts with
  | nil =>
    intro vs ds ps _ h
    obtain ⟨rfl, rfl, rfl⟩ := trodAll_nil h
    exact trodAll_mk0
  | cons t ts ih =>
    intro vs ds ps hr h
    have hlt := h.lt
    obtain ⟨v, vs', d0, ds', p0, q0, rfl, rfl, rfl, h0, hrest⟩ := trodAll_cons h
    simp only [List.all_cons, Bool.and_eq_true, decide_eq_true_eq] at hr
    exact trodAll_cons_mk (hb.trod hl hr.1.1 hr.1.2 h0 (fun x hx => hlt x (List.mem_append.2 (.inl hx)))) (ih hr.2 hrest)

end

/-- A row whose law is true, whatever the input. -/
theorem law_holds {C : Checked} {os : Os} {f : FuncId} {fn : Func} {s : ChangeSpec} {H : Type} {enc : TypeId × Value → H} {a : Assume}
    (own : ownKnob C.prog.godebug = none) (started : os.Started) (noInit : C.prog.inits.idxOf? f = none) (hfn : C.prog.funcs[f]? = some fn)
    (witness : ∃ (w : World) (tape : Tape) (i : Input), w.os = os ∧ (w.forCall tape i).Shaped C.prog ∧ i.vars = [] ∧ Input.okWide C.prog (w.forCall tape i) .any w.heap.size f i ∧
      s.pre6 enc C.prog fn [] false (w.forCall tape i).memory i.args ∧ a.holds C.prog (lone (Frame.enter C.prog f i.args .normal) [] (w.forCall tape i)))
    (hvars : s.vars = []) {ps : List PS} {sem : den (argTy ps) → Option Bool} (hs : SoundF C.prog [] f ⟨ps, [⟨false, .own, .bool⟩]⟩ sem) (hfit : fitsAll C.prog fn.params.toList ps = true) (hlaw : ∀ d, okA ps d → sem d = some true)
    (hl : laidOutB C.prog = true) (hrow : fn.params.toList.all (fun t => and (C.prog.readableRec t) (decide (t < C.prog.types.size))) = true) {tb : TypeId} (hres : fn.resultTypes = #[tb]) (htb : C.prog.underlying tb = some .bool)
    (hspec : ∀ ds : List (DataW H), ds.length = fn.params.toList.length → (s.fn H ds).results = [.lit (.bool true)] ∧ (s.fn H ds).args = ds ∧ (s.fn H ds).vars = []) :
    ReturnsInHanded a C os f .any (s.pre6 enc C.prog fn [] false) (s.post enc C.prog fn false true false false) := by
  refine returnsInHanded_of_change_sized own started noInit hfn witness ?_
  intro W base args ds gs before hval hW hcnd hsz _
  have hW' := hW
  obtain ⟨p, q, hA, hV, rfl, hfz, hnd⟩ := hW
  rw [hvars] at hV
  obtain ⟨rfl, rfl⟩ := trodVars_none hV
  refine (law_calls hs hfit hlaw hA (fun j t v e1 e2 => hval j t v (by simpa using e1) e2)).mono fun e W' ⟨he, bel⟩ => ?_
  subst he
  obtain ⟨s1, s2, s3⟩ := hspec ds (by exact (trodAll_length hA).2)
  refine ⟨_, rfl, ds, [], _, [], p, [], hW', ?_, ?_, ?_, bel.frame _, fun h => by cases h⟩
  · rw [hres, List.append_nil, s1]
    exact trodAll_mk1 (shut_bool htb _)
  · rw [List.append_nil, s2]
    exact args_stay hl bel hrow hA
  · rw [hvars, List.append_nil, s3]
    exact rfl

/-! ### what is known -/
theorem Known.nil {P : Program} {G : List (Nat × T)} : Known P G [] := fun f F h => by cases h

theorem Known.cons {P : Program} {G : List (Nat × T)} {f : FuncId} {F : Fn} {Δ : List (Nat × Fn)} {fn : Func} (h : SoundA P G f F.sg F.sem) (hf : P.funcs[f]? = some fn) (hb : fn.body.isSome = true) (hn : (fn.name == "runtime.NumGoroutine") = false)
    (hk : Known P G Δ) : Known P G ((f, F) :: Δ) := by
  intro f' F' h'
  rw [look_cons] at h'
  split at h'
  · rename_i e
    simp only [Option.some.injEq] at h'
    subst e h'
    exact ⟨h, fn, hf, hb, hn⟩
  · exact hk f' F' h'

theorem SoundF.none {P : Program} {G : List (Nat × T)} {f : FuncId} {sg : Sig} : SoundF P G f sg fun _ => Option.none := by
  intro w s vs d r _ _ _ _ _ _ _ h
  cases h

open Classical in
/-- What a function that calls itself comes to, after however many rounds. -/
noncomputable def limR {α β : Type} (r : Nat → α → Option β) (a : α) : Option β := if h : ∃ n, (r n a).isSome = true then r (Classical.choose h) a else Option.none

theorem limR_some {α β : Type} {r : Nat → α → Option β} {a : α} {b : β} (h : limR r a = some b) : ∃ n, r n a = some b := by
  unfold limR at h
  split at h
  · exact ⟨_, h⟩
  · cases h

/-- Where all rounds that end come to the same. -/
theorem limR_eq {α β : Type} {r : Nat → α → Option β} {a : α} {b : β} {n : Nat} (hn : r n a = some b) (h : ∀ m c, r m a = some c → c = b) : limR r a = some b := by
  have hh : ∃ n, (r n a).isSome = true := ⟨n, by rw [hn]; rfl⟩
  unfold limR
  rw [dif_pos hh]
  have := Classical.choose_spec hh
  cases e : r (Classical.choose hh) a with
  | none => rw [e] at this; cases this
  | some c => rw [h _ c e]

theorem SoundF.lim {P : Program} {G : List (Nat × T)} {f : FuncId} {sg : Sig} {r : Nat → den (argTy sg.ps) → Option (den (resTy sg.rs))} (h : ∀ n, SoundF P G f sg (r n)) : SoundF P G f sg (limR r) := by
  intro w s vs d q h1 h2 h3 h4 h5 h6 h7 h8
  obtain ⟨n, hn⟩ := limR_some h8
  exact h n w s vs d q h1 h2 h3 h4 h5 h6 h7 hn

theorem SoundM.none {P : Program} {G : List (Nat × T)} {f : FuncId} {sg : Sig} : SoundM P G f sg fun _ => Option.none := by
  intro w s vs d r _ _ _ h
  cases h

theorem SoundM.lim {P : Program} {G : List (Nat × T)} {f : FuncId} {sg : Sig} {r : Nat → den (argTy sg.ps) → Option (den (resTy sg.rs))} (h : ∀ n, SoundM P G f sg (r n)) : SoundM P G f sg (limR r) := by
  intro w s vs d q h1 h2 h3 h4
  obtain ⟨n, hn⟩ := limR_some h4
  exact h n w s vs d q h1 h2 h3 hn

theorem inlOk_of {P : Program} {I : List (Nat × Func)} (h : ∀ e ∈ I, P.funcs[e.1]? = some e.2 ∧ (e.2.name == "runtime.NumGoroutine") = false) :
    ∀ f fn, look I f = some fn → P.funcs[f]? = some fn ∧ (fn.name == "runtime.NumGoroutine") = false := by
  intro f fn hf
  induction I with
  | nil => cases hf
  | cons e l ih =>
    rw [look_cons] at hf
    by_cases ht : f = e.1
    · rw [if_pos ht, Option.some.injEq] at hf
      subst ht hf
      exact h e List.mem_cons_self
    · rw [if_neg ht] at hf
      exact ih (fun e he => h e (List.mem_cons_of_mem _ he)) hf

theorem tyOk_of {P : Program} {Ty : List (Nat × TyInfo)} (h : ∀ e ∈ Ty, TyOk1 P e.1 e.2) : TyOk P Ty := by
  intro t i hi
  induction Ty with
  | nil => cases hi
  | cons e l ih =>
    rw [look_cons] at hi
    by_cases ht : t = e.1
    · rw [if_pos ht, Option.some.injEq] at hi
      subst ht hi
      exact h e List.mem_cons_self
    · rw [if_neg ht] at hi
      exact ih (fun e he => h e (List.mem_cons_of_mem _ he)) hi

end Go.V
