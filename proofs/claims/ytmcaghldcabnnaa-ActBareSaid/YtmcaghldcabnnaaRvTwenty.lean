/- One operation. -/
import Derived.Test.YtmcaghldcabnnaaRvNineteen
namespace Go.V
open Go.RowKit

variable {α : Type}

/-- One of two values; of two plain ones a plain one. -/
def pickV (b : Bool) (p q : D) : Option D := match p.val with
  | some (.bool y) => match q.val with
    | some (.bool z) => some (scal (.bool (cond b y z)))
    | _ => none
  | some (.int k y) => match q.val with
    | some (.int k' z) => match kindEq k k' with
      | true => some (scal (.int k (cond b y z)))
      | false => none
    | _ => none
  | _ => none

def pickK (b : Bool) (p q : Option D) (K : D → Option α) : Option α := match p with
  | none => cond b none (q.bind K)
  | some p => match q with
    | none => cond b (K p) none
    | some q => match pickV b p q with
      | some d => K d
      | none => cond b (K p) (K q)

theorem pickK_sound {b : Bool} {p q : Option D} {K : D → Option α} {r : α} (h : pickK b p q K = some r) : ∃ d, K d = some r ∧ ((b = true ∧ p = some d) ∨ (b = false ∧ q = some d)) := by
  unfold pickK at h
  split at h
  · rcases cond_some h with ⟨_, h⟩ | ⟨hb, h⟩
    · cases h
    · obtain ⟨d, h1, h2⟩ := Option.bind_eq_some_iff.mp h
      exact ⟨d, h2, .inr ⟨hb, h1⟩⟩
  · rename_i p
    split at h
    · rcases cond_some h with ⟨hb, h⟩ | ⟨_, h⟩
      · exact ⟨p, h, .inl ⟨hb, rfl⟩⟩
      · cases h
    · rename_i q
      have hval : ∀ {d : D} {v : Value}, d.val = some v → d = scal v := by
        intro d v hd
        unfold D.val at hd
        split at hd
        · simp only [Option.some.injEq] at hd; subst hd; rfl
        · cases hd
      split at h
      · rename_i d hd
        refine ⟨d, h, ?_⟩
        unfold pickV at hd
        split at hd
        · rename_i y hy
          split at hd
          · rename_i z hz
            simp only [Option.some.injEq] at hd
            subst hd
            cases b with
            | true => exact .inl ⟨rfl, by rw [hval hy]; rfl⟩
            | false => exact .inr ⟨rfl, by rw [hval hz]; rfl⟩
          · cases hd
        · rename_i k y hy
          split at hd
          · rename_i k' z hz
            split at hd
            · rename_i hk
              have hk := kindEq_eq hk
              subst hk
              simp only [Option.some.injEq] at hd
              subst hd
              cases b with
              | true => exact .inl ⟨rfl, by rw [hval hy]; rfl⟩
              | false => exact .inr ⟨rfl, by rw [hval hz]; rfl⟩
            · cases hd
          · cases hd
        · cases hd
      · rcases cond_some h with ⟨hb, h⟩ | ⟨hb, h⟩
        · exact ⟨p, h, .inl ⟨hb, rfl⟩⟩
        · exact ⟨q, h, .inr ⟨hb, rfl⟩⟩

theorem Lawful.pick (b : Bool) (p q : Option D) : Lawful fun _ K => pickK b p q K := by
  unfold pickK
  split
  · exact .cond _ .none (.bind _ fun d => .pure _)
  · split
    · exact .cond _ (.pure _) .none
    · split
      · exact .pure _
      · exact .cond _ (.pure _) (.pure _)

def two (args : Array Operand) : Option (Operand × Operand) := match args.toList with
  | [p, q] => some (p, q)
  | _ => none

def lenB (cx : Ctx) (x : X) (args : List Operand) (ats : List TypeId) (K : D → Option α) : Option α := match args with
  | [p] => match ats with
    | [t] => (evalD cx x p).bind fun d => lenK cx x t d K
    | _ => none
  | _ => none

/-- The room of a nil slice. -/
def capB (cx : Ctx) (x : X) (args : List Operand) (ats : List TypeId) (K : D → Option α) : Option α := match args with
  | [p] => match ats with
    | [t] => (look cx.Ty t).bind fun i => match i.d with
      | .sl _ => (evalD cx x p).bind fun d => match d with
        | .v (.c .nil) => K (scal (.int .i64 0))
        | _ => none
      | _ => none
    | _ => none
  | _ => none

/-- What a function value has hold of: whole boxes. -/
def capsK (cx : Ctx) (x : X) : List Operand → (List (Nat × Path) → Option α) → Option α
  | [], K => K []
  | o :: l, K => (evalD cx x o).bind fun d => match d with
    | .v (.c (.pt r p i j _)) => match and (Nat.beq i 0) (Nat.beq j 0) with
      | true => atK x r p fun t => match t with
        | .pp .own _ => capsK cx x l fun cs => K ((r, p) :: cs)
        | .pt .own _ _ => capsK cx x l fun cs => K ((r, p) :: cs)
        | _ => none
      | false => none
    | _ => none

def fnId (fn : Go.Fn) : Option FuncId := match fn with
  | .func f => some f
  | _ => none

/-- What only looks. -/
def readK (cx : Ctx) (x : X) (op : Op) (K : D → Option α) : Option α := match op with
  | .move e => (evalD cx x e).bind K
  | .assign e => (evalD cx x e).bind K
  | .pick p q r => ((evalD cx x p).bind D.val).bind fun v => match v with
    | .bool b => pickK b (evalD cx x q) (evalD cx x r) K
    | _ => none
  | .build t ps => (buildD cx x t ps).bind K
  | .load t e => (evalD cx x e).bind fun d => loadK cx x t d K
  | .nilCheck e => ((evalD cx x e).bind nilD).bind K
  | .binOp op t p q _ => (evalD cx x p).bind fun d => (evalD cx x q).bind fun d' => binK cx op t d d' K
  | .unOp op _ p => ((evalD cx x p).bind D.val).bind fun v => scalU op v fun u => K (scal u)
  | .convert s t p => (evalD cx x p).bind fun d => convK cx s t d K
  | .fieldAddr t p f => (evalD cx x p).bind fun d => (fieldAddrD cx t f d).bind K
  | .field t p f => (evalD cx x p).bind fun d => (fieldD cx t f d).bind K
  | .indexAddr t p i => (evalD cx x p).bind fun d => (evalD cx x i).bind fun d' => indexAddrK cx x t d d' K
  | .index t p i => (look cx.Ty t).bind fun ti => match ti.d with
    | .str => (evalD cx x p).bind fun d => (evalD cx x i).bind fun d' => byteK d d' K
    | _ => none
  | .extract p j => (evalD cx x p).bind fun d => (extractD d j).bind K
  | .slice t p lo hi mx => (evalD cx x p).bind fun d => sliceK cx x t d lo hi mx K
  | .makeFunc fn first caps => match first.toList with
    | [] => (fnId fn).bind fun f => capsK cx x caps.toList fun cs => K (.v (.c (.fnp f cs)))
    | _ :: _ => none
  | .call cl => match cl.callee with
    | .builtin .len => lenB cx x cl.args.toList cl.argTypes.toList K
    | .builtin .min => (two cl.args).bind fun pq => (evalD cx x pq.1).bind fun d => (evalD cx x pq.2).bind fun d' => (minMax false d d').bind K
    | .builtin .max => (two cl.args).bind fun pq => (evalD cx x pq.1).bind fun d => (evalD cx x pq.2).bind fun d' => (minMax true d d').bind K
    | .builtin .cap => capB cx x cl.args.toList cl.argTypes.toList K
    | _ => none
  | _ => none

/-- What makes new roots or turns old ones. -/
def growK (cx : Ctx) (nt : Fr) (x : X) (op : Op) (k : Nat) (K : X → Option α) : Option α := match op with
  | .alloc t => allocK cx nt x t k K
  | .box t v => (evalD cx x v).bind fun d => boxK cx nt x t d k K
  | .buildSlice t n ps => buildSliceK cx nt x t n ps k K
  | .makeSlice t l c => (evalD cx x l).bind fun d => (evalD cx x c).bind fun d' => makeSliceK cx nt x t d d' k K
  | .call cl => match cl.callee with
    | .builtin .append => (two cl.args).bind fun pq => (evalD cx x pq.1).bind fun d => (evalD cx x pq.2).bind fun d' => appendK cx nt x cl.argTypes d d' k K
    | _ => none
  | _ => none

def isGrow (op : Op) : Bool := match op with
  | .alloc _ | .box _ _ | .buildSlice _ _ _ | .makeSlice _ _ _ => true
  | .call cl => match cl.callee with
    | .builtin .append => true
    | _ => false
  | _ => false

def oneK (cx : Ctx) (nt : Fr) (x : X) (o : Oper) (K : X → Option α) : Option α := match o.op with
  | .store t p v => match o.dst with
    | none => (evalD cx x p).bind fun d => (evalD cx x v).bind fun d' => storeK cx x t d d' K
    | some _ => none
  | op => match o.dst with
    | none => none
    | some k => match isGrow op with
      | true => growK cx nt x op (nt.off + k) K
      | false => readK cx x op fun d => putK nt x (nt.off + k) d K

section
variable {c : Ctx} {B : Base} {s : Sit} {x : X} {a : Act} {w : World} {nt : Fr}

theorem two_some {args : Array Operand} {pq : Operand × Operand} (h : two args = some pq) : args = #[pq.1, pq.2] := by
  unfold two at h
  split at h
  · rename_i p q e
    simp only [Option.some.injEq] at h
    subst h
    exact Array.ext' e
  · cases h

theorem caps_sound (hG : Fit B c) (h : RelW B s x a w) : ∀ (l : List Operand) {K : List (Nat × Path) → Option α} {q : α}, capsK c x l K = some q → ∃ cs, K cs = some q ∧ ∀ f, RepC w s (.fnp f cs) (.func (.func f) #[] (l.map a.eval).toArray)
  | [], K, q, he => ⟨[], he, fun f => .fnp f [] _ (by simp) (fun m r p e => by simp at e)⟩
  | o :: l, K, q, he => by
    obtain ⟨d, h1, he1⟩ := Option.bind_eq_some_iff.mp he
    have hr := evalD_sound hG h h1
    split at he1
    rotate_left
    · cases he1
    rename_i r p i j sz
    split at he1
    rotate_left
    · cases he1
    rename_i hz
    simp only [Bool.and_eq_true] at hz
    have hi := Nat.eq_of_beq_eq_true hz.1
    have hj := Nat.eq_of_beq_eq_true hz.2
    subst hi hj
    obtain ⟨t, h2, he2⟩ := atK_some he1
    have hbox : (∃ cs, t.box? = some cs) ∧ capsK c x l (fun cs => K ((r, p) :: cs)) = some q := by
      split at he2
      · exact ⟨⟨_, rfl⟩, he2⟩
      · exact ⟨⟨_, rfl⟩, he2⟩
      · cases he2
    obtain ⟨⟨cs0, hb⟩, he3⟩ := hbox
    obtain ⟨cs, k1, k2⟩ := caps_sound hG h l he3
    refine ⟨_, k1, fun f => ?_⟩
    -- the box
    obtain ⟨row, g1, g2⟩ := Option.bind_eq_some_iff.mp h2
    obtain ⟨y0, hy0⟩ := h.roots r row g1
    obtain ⟨y, hy⟩ := getT_own p hy0 g2
    have hlay : ∃ b, s.Φ r p = some (.pointer (some ⟨b, 0, none⟩)) := by
      rw [← Lay.under_apply_nil (s.Φ r) p]
      generalize (s.Φ r).under p = ψ at hy
      cases hy with
      | sh _ _ _ ht => cases t with
        | pp f0 cs' => cases f0 <;> simp [T.box?, T.isSh] at hb ht
        | pt f0 e d => cases f0 <;> simp [T.box?, T.isSh] at hb ht
        | po => simp [T.isSh] at ht
        | _ => simp [T.box?] at hb
      | box _ cs1 ht b arr el vs φ hbb hsz hc hrr h0 hn => exact ⟨b, h0⟩
      | nil => simp [T.box?] at hb
      | sl => simp [T.box?] at hb
      | slo => simp [T.box?] at hb
      | vr => simp [T.box?] at hb
    obtain ⟨b, hb2⟩ := hlay
    have hval : a.eval o = .pointer (some ⟨b, 0, none⟩) := by
      generalize a.eval o = u at hr
      cases hr with
      | v _ _ hr => cases hr with
        | c _ _ hr => cases hr with
          | pt _ _ _ _ _ z b' hΦ hbb =>
            rw [hb2, Option.some.injEq] at hΦ
            subst hΦ
            simp only [blkOf, Option.some.injEq] at hbb
            subst hbb
            simp [offOf]
    cases k2 f with
    | fnp _ _ cap hs hc =>
      refine .fnp f _ _ (by simpa using hs) (fun m r' p' e => ?_)
      cases m with
      | zero =>
        simp only [List.getElem?_cons_zero, Option.some.injEq, Prod.mk.injEq] at e
        obtain ⟨rfl, rfl⟩ := e
        exact ⟨b, hb2, by simp [hval]⟩
      | succ m =>
        obtain ⟨b', e1, e2⟩ := hc m r' p' (by simpa using e)
        exact ⟨b', e1, by simpa using e2⟩

theorem read_sound (hG : Fit B c) (h : RelW B s x a w) {o : Oper} {K : D → Option α} {r : α} (he : readK c x o.op K = some r) :
    ∃ e v, K e = some r ∧ (execOp a.eval o).run c.P w = .ok (.value v) w ∧ RepD w s e v := by
  obtain ⟨dst, op, type, pos, after, guard⟩ := o
  simp only at he
  unfold readK at he
  split at he
  · obtain ⟨d, hd, he⟩ := Option.bind_eq_some_iff.mp he
    exact ⟨d, _, he, rfl, evalD_sound hG h hd⟩
  · obtain ⟨d, hd, he⟩ := Option.bind_eq_some_iff.mp he
    exact ⟨d, _, he, rfl, evalD_sound hG h hd⟩
  · obtain ⟨v, hv, he⟩ := Option.bind_eq_some_iff.mp he
    obtain ⟨d0, h0, h1⟩ := Option.bind_eq_some_iff.mp hv
    obtain ⟨e0, -⟩ := D.val_sound (evalD_sound hG h h0) h1
    split at he
    · rename_i b
      obtain ⟨d, hK, hcase⟩ := pickK_sound he
      rcases hcase with ⟨rfl, hp⟩ | ⟨rfl, hp⟩
      · exact ⟨d, _, hK, by simp [execOp, e0, asBool], evalD_sound hG h hp⟩
      · exact ⟨d, _, hK, by simp [execOp, e0, asBool], evalD_sound hG h hp⟩
    · cases he
  · obtain ⟨d, hd, he⟩ := Option.bind_eq_some_iff.mp he
    obtain ⟨u, h1, h2⟩ := buildD_sound hG h hd
    exact ⟨d, u, he, by simp only [execOp, Sem.run_bind]; rw [h1]; rfl, h2⟩
  · obtain ⟨d, hd, he⟩ := Option.bind_eq_some_iff.mp he
    obtain ⟨e, u, hK, h1, h2⟩ := load_sound h (evalD_sound hG h hd) he
    exact ⟨e, u, hK, by simp only [execOp, Sem.run_bind]; rw [h1]; rfl, h2⟩
  · obtain ⟨d, hd, he⟩ := Option.bind_eq_some_iff.mp he
    obtain ⟨d0, h0, h1⟩ := Option.bind_eq_some_iff.mp hd
    have hr := evalD_sound hG h h0
    obtain ⟨rfl, ad, h2⟩ := nilD_sound hr h1
    rename_i e1 _
    have h2 : a.eval e1 = .pointer (some ad) := h2
    refine ⟨d, _, he, ?_, hr⟩
    simp only [execOp, h2]
    rfl
  · obtain ⟨d, hd, he⟩ := Option.bind_eq_some_iff.mp he
    obtain ⟨d', hd', he⟩ := Option.bind_eq_some_iff.mp he
    rename_i bop bt p q yt _ _
    obtain ⟨e, z, hK, h1, h2⟩ := bin_sound (p := p) (q := q) (evalD_sound hG h hd) (evalD_sound hG h hd') he
    exact ⟨e, z, hK, by simp only [execOp]; rw [Sem.run_bind, h1 w]; rfl, h2⟩
  · obtain ⟨v, hv, he⟩ := Option.bind_eq_some_iff.mp he
    obtain ⟨d0, h0, h1⟩ := Option.bind_eq_some_iff.mp hv
    obtain ⟨e0, -⟩ := D.val_sound (evalD_sound hG h h0) h1
    obtain ⟨u, hK, h2, h3⟩ := scalU_sound he
    exact ⟨_, u, hK, by simp only [execOp]; rw [Sem.run_bind, e0, h3]; rfl, scal_rep u h2⟩
  · obtain ⟨d, hd, he⟩ := Option.bind_eq_some_iff.mp he
    obtain ⟨e, z, hK, h1, h2⟩ := conv_sound (evalD_sound hG h hd) he
    exact ⟨e, z, hK, by simp only [execOp]; rw [Sem.run_bind, h1 w]; rfl, h2⟩
  · obtain ⟨d, hd, he⟩ := Option.bind_eq_some_iff.mp he
    obtain ⟨e, h4, he⟩ := Option.bind_eq_some_iff.mp he
    obtain ⟨z, h1, h2⟩ := fieldAddr_sound (evalD_sound hG h hd) h4
    exact ⟨e, z, he, by simp only [execOp]; rw [Sem.run_bind, h1 w]; rfl, h2⟩
  · obtain ⟨d, hd, he⟩ := Option.bind_eq_some_iff.mp he
    obtain ⟨e, h4, he⟩ := Option.bind_eq_some_iff.mp he
    obtain ⟨z, h1, h2⟩ := field_sound (evalD_sound hG h hd) h4
    exact ⟨e, z, he, by simp only [execOp]; rw [Sem.run_bind, h1 w]; rfl, h2⟩
  · obtain ⟨d, hd, he⟩ := Option.bind_eq_some_iff.mp he
    obtain ⟨d', hd', he⟩ := Option.bind_eq_some_iff.mp he
    obtain ⟨e, z, hK, h1, h2⟩ := indexAddr_sound h (evalD_sound hG h hd) (evalD_sound hG h hd') he
    exact ⟨e, z, hK, by simp only [execOp]; rw [Sem.run_bind, h1 w]; rfl, h2⟩
  · obtain ⟨ti, hti, he⟩ := Option.bind_eq_some_iff.mp he
    split at he
    · rename_i hstr
      obtain ⟨d, hd, he⟩ := Option.bind_eq_some_iff.mp he
      obtain ⟨d', hd', he⟩ := Option.bind_eq_some_iff.mp he
      obtain ⟨e, z, hK, h1, h2⟩ := byte_sound (evalD_sound hG h hd) (evalD_sound hG h hd') ⟨ti, hti, hstr⟩ he
      exact ⟨e, z, hK, by simp only [execOp]; rw [Sem.run_bind, h1 w]; rfl, h2⟩
    · cases he
  · obtain ⟨d, hd, he⟩ := Option.bind_eq_some_iff.mp he
    obtain ⟨e, h4, he⟩ := Option.bind_eq_some_iff.mp he
    obtain ⟨z, h1, h2⟩ := extract_sound (c := c) (evalD_sound hG h hd) h4
    exact ⟨e, z, he, by simp only [execOp]; rw [Sem.run_bind, h1 w]; rfl, h2⟩
  · obtain ⟨d, hd, he⟩ := Option.bind_eq_some_iff.mp he
    obtain ⟨e, z, hK, h1, h2⟩ := slice_sound hG h (evalD_sound hG h hd) he
    exact ⟨e, z, hK, by simp only [execOp]; rw [Sem.run_bind, h1 w]; rfl, h2⟩
  · rename_i fn first caps
    split at he
    · rename_i hfirst
      obtain ⟨f, hf, he⟩ := Option.bind_eq_some_iff.mp he
      obtain ⟨cs, k1, k2⟩ := caps_sound hG h caps.toList he
      have hfn : fn = .func f := by
        unfold fnId at hf
        split at hf
        · simp only [Option.some.injEq] at hf; subst hf; rfl
        · cases hf
      subst hfn
      have hfe : first = #[] := Array.ext' hfirst
      subst hfe
      refine ⟨_, .func (.func f) #[] (caps.map a.eval), k1, by simp [execOp, Instr.makeFunc], .v _ _ (.c _ _ ?_)⟩
      have e : (List.map a.eval caps.toList).toArray = caps.map a.eval := by apply Array.ext'; simp
      have := k2 f
      rwa [e] at this
    · cases he
  · rename_i cl
    obtain ⟨callee, args, ats⟩ := cl
    simp only at he
    split at he
    · skip
      unfold lenB at he
      split at he
      · rename_i p e1
        split at he
        · rename_i t e2
          obtain rfl : args = #[p] := Array.ext' e1
          obtain rfl : ats = #[t] := Array.ext' e2
          obtain ⟨d, hd, he⟩ := Option.bind_eq_some_iff.mp he
          obtain ⟨e, z, hK, h1, h2⟩ := len_sound (ty := type) h (evalD_sound hG h hd) he
          exact ⟨e, z, hK, by simp [execOp, resolve, invoke, builtin, h1 w], h2⟩
        · cases he
      · cases he
    · skip
      obtain ⟨pq, e1, he1⟩ := Option.bind_eq_some_iff.mp he
      have e2 := two_some e1
      subst e2
      obtain ⟨d, hd, he2⟩ := Option.bind_eq_some_iff.mp he1
      obtain ⟨d', hd', he3⟩ := Option.bind_eq_some_iff.mp he2
      obtain ⟨e, h4, he4⟩ := Option.bind_eq_some_iff.mp he3
      obtain ⟨z, h1, h2⟩ := minMax_sound (c := c) (b := false) (ats := ats) (ty := type) (evalD_sound hG h hd) (evalD_sound hG h hd') h4
      have h1 := h1 w
      exact ⟨e, z, he4, by simp only [Bool.false_eq_true, if_false, if_true] at h1; simp [execOp, resolve, invoke, builtin, h1], h2⟩
    · skip
      obtain ⟨pq, e1, he1⟩ := Option.bind_eq_some_iff.mp he
      have e2 := two_some e1
      subst e2
      obtain ⟨d, hd, he2⟩ := Option.bind_eq_some_iff.mp he1
      obtain ⟨d', hd', he3⟩ := Option.bind_eq_some_iff.mp he2
      obtain ⟨e, h4, he4⟩ := Option.bind_eq_some_iff.mp he3
      obtain ⟨z, h1, h2⟩ := minMax_sound (c := c) (b := true) (ats := ats) (ty := type) (evalD_sound hG h hd) (evalD_sound hG h hd') h4
      have h1 := h1 w
      exact ⟨e, z, he4, by simp only [Bool.false_eq_true, if_false, if_true] at h1; simp [execOp, resolve, invoke, builtin, h1], h2⟩
    · skip
      unfold capB at he
      split at he
      · rename_i p e1
        split at he
        · rename_i t e2
          obtain rfl : args = #[p] := Array.ext' e1
          obtain rfl : ats = #[t] := Array.ext' e2
          obtain ⟨i, hi, he⟩ := Option.bind_eq_some_iff.mp he
          have hok := c.hTy t i hi
          split at he
          · rename_i el hel
            have hu := hok.slice hel
            obtain ⟨d, hd, he⟩ := Option.bind_eq_some_iff.mp he
            split at he
            · have hv := evalD_sound hG h hd
              generalize hav : a.eval p = v at hv
              cases hv with
              | v _ _ hv => cases hv with
                | c _ _ hv => cases hv with
                  | nil ad => exact ⟨_, .int .i64 0, he, by simp [execOp, resolve, invoke, builtin, hav, Builtin.cap_, run_underlying hu, goInt], scal_rep _ rfl⟩
            · cases he
          · cases he
        · cases he
      · cases he
    · cases he
  · cases he

theorem grow_sound (hG : Fit B c) (hnt : B.nt = nt) (h : RelW B s x a w) {o : Oper} {k : Nat} {K : X → Option α} {q : α} (he : growK c nt x o.op k K = some q) :
    ∃ x' s' v w', K x' = some q ∧ (execOp a.eval o).run c.P w = .ok (.value v) w' ∧ RelW B s' x' (a.gput B k v) w' := by
  obtain ⟨dst, op, type, pos, after, guard⟩ := o
  simp only at he
  unfold growK at he
  split at he
  · obtain ⟨x', s', u, w', k1, k2, k3⟩ := alloc_sound hnt h he
    exact ⟨x', s', u, w', k1, by simp [execOp, k2], k3⟩
  · obtain ⟨d, hd, he⟩ := Option.bind_eq_some_iff.mp he
    obtain ⟨x', s', u, w', k1, k2, k3⟩ := box_sound hnt h (evalD_sound hG h hd) he
    exact ⟨x', s', u, w', k1, by simp [execOp, k2], k3⟩
  · obtain ⟨x', s', u, w', k1, k2, k3⟩ := buildSlice_sound hG hnt h he
    exact ⟨x', s', u, w', k1, by simp only [execOp, Sem.run_bind]; rw [k2]; rfl, k3⟩
  · obtain ⟨d, hd, he⟩ := Option.bind_eq_some_iff.mp he
    obtain ⟨d', hd', he⟩ := Option.bind_eq_some_iff.mp he
    obtain ⟨x', s', u, w', k1, k2, k3⟩ := makeSlice_sound hnt h (evalD_sound hG h hd) (evalD_sound hG h hd') he
    exact ⟨x', s', u, w', k1, by simp only [execOp, Sem.run_bind]; rw [k2]; rfl, k3⟩
  · rename_i cl
    obtain ⟨callee, args, ats⟩ := cl
    simp only at he
    split at he
    · skip
      obtain ⟨pq, e1, he1⟩ := Option.bind_eq_some_iff.mp he
      have e2 := two_some e1
      subst e2
      obtain ⟨d, hd, he2⟩ := Option.bind_eq_some_iff.mp he1
      obtain ⟨d', hd', he3⟩ := Option.bind_eq_some_iff.mp he2
      obtain ⟨x', s', u, w', k1, k2, k3⟩ := append_sound (ty := type) hnt h (evalD_sound hG h hd) (evalD_sound hG h hd') he3
      exact ⟨x', s', u, w', k1, by simp [execOp, resolve, invoke, builtin, k2], k3⟩
    · cases he
  · cases he

/-- What an operation comes to, in the machine. -/
def Good (c : Ctx) (B : Base) (s' : Sit) (x' : X) (o : Oper) (a : Act) (w : World) : Prop :=
  ∃ n w', (execOp a.eval o).run c.P w = .ok n w' ∧ ((∃ v, n = .value v ∧ RelW B s' x' (a.put o.dst v) w') ∨ (n = .skip ∧ RelW B s' x' (a.put o.dst undef) w'))

theorem one_sound (hG : Fit B c) (hnt : B.nt = nt) (h : RelW B s x a w) {o : Oper} {K : X → Option α} {q : α} (he : oneK c nt x o K = some q) :
    ∃ x' s', K x' = some q ∧ Good c B s' x' o a w := by
  unfold oneK at he
  split at he
  · rename_i t p v hop
    split at he
    · rename_i hdst
      obtain ⟨d, hd, he⟩ := Option.bind_eq_some_iff.mp he
      obtain ⟨d', hd', he⟩ := Option.bind_eq_some_iff.mp he
      obtain ⟨x', s', w', k1, k2, k3⟩ := store_sound h (evalD_sound hG h hd) (evalD_sound hG h hd') he
      refine ⟨x', s', k1, .skip, w', by simp only [execOp, hop, Sem.run_bind]; rw [k2]; rfl, .inr ⟨rfl, ?_⟩⟩
      rw [hdst]
      exact k3
    · cases he
  · split at he
    · cases he
    · rename_i k hk
      split at he
      · obtain ⟨x', s', v, w', k1, k2, k3⟩ := grow_sound hG hnt h he
        rw [← hnt, gput_local] at k3
        exact ⟨x', s', k1, _, w', k2, .inl ⟨v, rfl, by rw [hk]; exact k3⟩⟩
      · obtain ⟨e, v, k1, k2, k3⟩ := read_sound hG h he
        obtain ⟨x', k4, k5⟩ := put_sound hnt h k1 k3
        rw [← hnt, gput_local] at k5
        exact ⟨x', s, k4, _, w, k2, .inl ⟨v, rfl, by rw [hk]; exact k5⟩⟩

end
end Go.V
