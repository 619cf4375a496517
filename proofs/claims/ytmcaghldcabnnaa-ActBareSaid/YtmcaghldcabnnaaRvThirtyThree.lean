/- Code: what it computes. -/
import Derived.Test.YtmcaghldcabnnaaRvFortyFour
namespace Go.V
open Go.RowKit

variable {α : Type}

/-! ### code -/
inductive Ann where
  | leaf
  | draw (m : Nat)
  | drawT (l fl : List Nat)
  | one (a : Ann)
  | two (a b : Ann)
  | loop (kt kr : List Nat) (ad : List (Nat × Ty)) (sh : List Slot) (outs : List Out) (a : Ann)
  | join (kt kr : List Nat) (outs : List Out) (a : Ann)
  | frz (l : List (Nat × Path)) (a : Ann)
  | segs (l : List (Nat × (List Nat × (List Nat × List Slot))))
  | no
  | inl (n off : Nat) (a b : Ann)

/-- What is run: a text, or what is left of a region. -/
inductive Tgt where
  | code (p : Code)
  | ops (all : Array Oper) (rest : List Oper)

def Tgt.wp (P : Program) (t : Tgt) (Q : Exit → Act → World → Prop) (a : Act) (w : World) : Prop := match t with
  | .code p => p.wp P Q a w
  | .ops all l => wpList P all Q l a w

def Tgt.code? (t : Tgt) : Option Code := match t with
  | .code p => some p
  | .ops _ _ => none

/-- Operations in their order. -/
def Tgt.ops? (t : Tgt) : Option (Array Oper × List Oper) := match t with
  | .code p => match p with
    | .region _ os draw => match draw with
      | false => some (os, os.toList)
      | true => none
    | _ => none
  | .ops all l => some (all, l)

theorem code?_some {t : Tgt} {p : Code} (h : t.code? = some p) : t = .code p := by
  cases t with
  | code p' => simp only [Tgt.code?, Option.some.injEq] at h; subst h; rfl
  | ops _ _ => simp [Tgt.code?] at h

theorem ops?_wp {t : Tgt} {al : Array Oper × List Oper} (h : t.ops? = some al) {P : Program} {Q : Exit → Act → World → Prop} {a : Act} {w : World} (hw : wpList P al.1 Q al.2 a w) : t.wp P Q a w := by
  unfold Tgt.ops? at h
  split at h
  · split at h
    · split at h
      · simp only [Option.some.injEq] at h; subst h; exact wp_region_list hw
      · cases h
    · cases h
  · simp only [Option.some.injEq] at h; subst h; exact hw

def iterR {σ ρ : Type} (body : σ → Option (σ ⊕ ρ)) : Nat → σ → Option ρ
  | 0, _ => none
  | n + 1, d => (body d).bind fun r => match r with
    | .inl d' => iterR body n d'
    | .inr r => some r

open Classical in
/-- What a loop comes to, after however many rounds. -/
noncomputable def loopR {σ ρ : Type} (body : σ → Option (σ ⊕ ρ)) (d : σ) : Option ρ := if h : ∃ n r, iterR body n d = some r then some (Classical.choose (Classical.choose_spec h)) else none

theorem iterR_mono {σ ρ : Type} {body : σ → Option (σ ⊕ ρ)} : ∀ {n m : Nat} {d : σ} {r : ρ}, n ≤ m → iterR body n d = some r → iterR body m d = some r
  | 0, m, d, r, _, h => by cases h
  | n + 1, 0, d, r, hm, h => by omega
  | n + 1, m + 1, d, r, hm, h => by
    simp only [iterR] at h ⊢
    obtain ⟨y, h1, h2⟩ := Option.bind_eq_some_iff.mp h
    rw [h1, Option.bind_some]
    cases y with
    | inl d' => exact iterR_mono (by omega) h2
    | inr r' => exact h2

theorem loopR_iff {σ ρ : Type} {body : σ → Option (σ ⊕ ρ)} {d : σ} {r : ρ} : loopR body d = some r ↔ ∃ n, iterR body n d = some r := by
  constructor
  · intro h
    unfold loopR at h
    split at h
    · rename_i hh
      simp only [Option.some.injEq] at h
      have := Classical.choose_spec (Classical.choose_spec hh)
      rw [h] at this
      exact ⟨_, this⟩
    · cases h
  · rintro ⟨n, hn⟩
    have hh : ∃ n r, iterR body n d = some r := ⟨n, r, hn⟩
    unfold loopR
    rw [dif_pos hh]
    have h2 := Classical.choose_spec (Classical.choose_spec hh)
    congr 1
    have h3 := iterR_mono (Nat.le_max_left n (Classical.choose hh)) hn
    have h4 := iterR_mono (Nat.le_max_right n (Classical.choose hh)) h2
    rw [h3] at h4
    exact (Option.some.inj h4).symm

theorem loopR_step {σ ρ : Type} (body : σ → Option (σ ⊕ ρ)) (d : σ) : loopR body d = (body d).bind fun r => match r with
    | .inl d' => loopR body d'
    | .inr r => some r := by
  apply Option.ext
  intro r
  rw [loopR_iff]
  constructor
  · rintro ⟨n, hn⟩
    cases n with
    | zero => cases hn
    | succ n =>
      simp only [iterR] at hn
      obtain ⟨y, h1, h2⟩ := Option.bind_eq_some_iff.mp hn
      rw [h1, Option.bind_some]
      cases y with
      | inl d' => exact loopR_iff.2 ⟨n, h2⟩
      | inr r' => exact h2
  · intro h
    obtain ⟨y, h1, h2⟩ := Option.bind_eq_some_iff.mp h
    cases y with
    | inl d' =>
      obtain ⟨n, hn⟩ := loopR_iff.1 h2
      exact ⟨n + 1, by simp only [iterR, h1, Option.bind_some]; exact hn⟩
    | inr r' => exact ⟨1, by simp only [iterR, h1, Option.bind_some]; exact h2⟩

/-- A state at the head of a loop. -/
def X.head (x : X) (mu kt kr : List Nat) (sh : List Slot) (d : den (shTy sh)) : X := (x.leave mu kt kr (fillE sh d) (fillR sh d)).enter kt kr

def kOk (x : X) (kt : List Nat) : Bool := allB (fun k => isSomeB (look x.env k)) kt

/-- A region in parts: behind each only some of what it made is known. -/
noncomputable def segsK (cx : Ctx) (nt : Fr) (Δ : List (Nat × Fn)) (mu : List Nat) (all : List Oper) : List (Nat × (List Nat × (List Nat × List Slot))) → List Oper → X → (X → Option α) → Option α
  | [], ops, x, K => opsK cx nt Δ all ops x K
  | g :: l, ops, x, K => match kOk x g.2.1 with
    | true => (takeN g.1 ops).bind fun o1 => (opsK cx nt Δ all o1 (x.enter g.2.1 g.2.2.1) (pack1 x g.2.1 g.2.2.1 ⟨.normal, [], g.2.2.2⟩ .normal)).bind fun d =>
      segsK cx nt Δ mu all l (dropN g.1 ops) (x.leave mu g.2.1 g.2.2.1 (fillE g.2.2.2 d) (fillR g.2.2.2 d)) K
    | false => none

noncomputable def denC (Δ : List (Nat × Fn)) : Ann → (α : Type) → Ctx → Fr → List Nat → Tgt → X → (Exit → X → Option α) → Option α
  | .leaf, _, cx, nt, _, t, x, K => match t with
    | .code p => match p with
      | .skip => K .normal x
      | .region _ ops draw => match draw with
        | false => opsK cx nt Δ ops.toList ops.toList x (K .normal)
        | true => none
      | .exit id => K (.exit id) x
      | .label _ => K .normal x
      | .ret => K .ret x
      | _ => none
    | .ops all l => opsK cx nt Δ all.toList l x (K .normal)
  | .no, _, _, _, _, _, _, _ => none
  | .draw m, _, cx, nt, _, t, x, K => match t with
    | .code p => match p with
      | .region _ ops draw => match draw with
        | true => drawK cx nt Δ ops m x (K .normal)
        | false => none
      | _ => none
    | .ops _ _ => none
  | .drawT l fl, _, cx, nt, _, t, x, K => match t with
    | .code p => match p with
      | .region _ ops draw => match draw with
        | true => drawTK cx nt Δ ops l fl x (K .normal)
        | false => none
      | _ => none
    | .ops _ _ => none
  | .one a, α, cx, nt, mu, t, x, K => match t with
    | .code p => match p with
      | .block id p => denC Δ a α cx nt mu (.code p) x fun e x' => match e with
        | .exit id' => match Nat.beq id' id with
          | true => K .normal x'
          | false => K (.exit id') x'
        | e => K e x'
      | _ => none
    | .ops _ _ => none
  | .two a b, α, cx, nt, mu, t, x, K => match t with
    | .code p => match p with
      | .seq p q => denC Δ a α cx nt mu (.code p) x fun e x' => match e with
        | .normal => denC Δ b α cx nt mu (.code q) x' K
        | e => K e x'
      | .cond o p q => ((evalD cx x o).bind asB).bind fun v => cond v (denC Δ a α cx nt mu (.code p) x K) (denC Δ b α cx nt mu (.code q) x K)
      | _ => none
    | .ops _ _ => none
  | .loop kt kr ad sh outs a, α, cx, nt, mu, t, x, K => match t with
    | .code p => match p with
      | .loop p => match kOk x kt with
        | true => (pack1 x kt kr ⟨.normal, ad, sh⟩ .normal (x.enter kt kr)).bind fun d0 =>
          (loopR (fun d : den (shTy sh) => denC Δ a (den (shTy sh) ⊕ den (outTy outs)) cx nt [] (.code p) (x.head mu kt kr sh d) fun e x2 => match e with
            | .normal => (pack1 x kt kr ⟨.normal, ad, sh⟩ .normal x2).map Sum.inl
            | e => (packK x kt kr outs e x2).map Sum.inr) d0).bind fun r => unpackK x mu kt kr outs r K
        | false => none
      | _ => none
    | .ops _ _ => none
  | .join kt kr outs a, _, cx, nt, mu, t, x, K => match kOk x kt with
    | true => (denC Δ a (den (outTy outs)) cx nt [] t (x.enter kt kr) (packK x kt kr outs)).bind fun d => unpackK x mu kt kr outs d K
    | false => none
  | .segs l, _, cx, nt, mu, t, x, K => (t.ops?).bind fun al => segsK cx nt Δ mu al.1.toList l al.2 x (K .normal)
  | .frz l a, α, cx, nt, mu, t, x, K => freezesK l x fun x1 => denC Δ a α cx nt mu t x1 K
  | .inl n off a b, α, cx, nt, mu, t, x, K => (t.ops?).bind fun al => (takeN n al.2).bind fun l1 => opsK cx nt Δ al.1.toList l1 x fun x1 =>
      (nth al.2 n).bind fun o => guardedK nt al.1.toList x1 o
        (fun x2 => enterK cx nt off x2 o (fun cx' nt' code x' K' => denC Δ a α cx' nt' mu (.code code) x' K') fun x3 => denC Δ b α cx nt mu (.ops al.1 (dropN (Nat.succ n) al.2)) x3 K)
        (fun x2 => skipK nt x2 o fun x3 => denC Δ b α cx nt mu (.ops al.1 (dropN (Nat.succ n) al.2)) x3 K)

section
variable {c : Ctx} {nt : Fr} {Δ : List (Nat × Fn)}

theorem segs_sound (hΔ : Known c.P c.G Δ) {B : Base} (hG : Fit B c) (hnt : B.nt = nt) {mu : List Nat} (hmu : B.muts = mu) {ops : Array Oper} {Q : Exit → Act → World → Prop} {K : X → Option α} {q : α}
    (hK : ∀ x s a w, RelW B s x a w → K x = some q → Q .normal a w) : ∀ (l : List (Nat × (List Nat × (List Nat × List Slot)))) (os : List Oper) (x : X) (s : Sit) (a : Act) (w : World), RelW B s x a w → segsK c nt Δ mu ops.toList l os x K = some q → wpList c.P ops Q os a w
  | [], os, x, s, a, w, h, he => ops_sound hΔ hG hnt hK os x s a w h he
  | g :: l, os, x, s, a, w, h, he => by
    unfold segsK at he
    split at he
    rotate_left
    · cases he
    rename_i hk
    obtain ⟨o1, h1, he1⟩ := Option.bind_eq_some_iff.mp he
    obtain ⟨d, h2, he2⟩ := Option.bind_eq_some_iff.mp he1
    obtain ⟨e1, -⟩ := takeN_some h1
    have hcut : os = o1 ++ dropN g.1 os := by rw [e1, dropN_eq, List.take_append_drop]
    rw [hcut]
    refine ops_sound_to hΔ (B := B.inner s x a w) ⟨hG.g, hG.off⟩ hnt (fun x2 s2 a2 w2 hr2 hq => ?_) o1 _ s a w (h.enter (kr := g.2.2.1) hk) h2
    obtain ⟨-, s', hs', -⟩ := pack1_sound h hmu hr2 hq
    exact segs_sound hΔ hG hnt hmu hK l _ _ s' a2 w2 hs' he2

theorem denC_sound (hΔ : Known c.P c.G Δ) : ∀ (an : Ann) (α : Type) (c' : Ctx) (nt : Fr) (mu : List Nat) (t : Tgt) {B : Base} {s : Sit} {x : X} {a : Act} {w : World} {K : Exit → X → Option α} {q : α} {Q : Exit → Act → World → Prop}, c'.P = c.P → c'.G = c.G → Fit B c' → B.nt = nt → B.muts = mu →
    (∀ e x s a w, RelW B s x a w → K e x = some q → Q e a w) → RelW B s x a w → denC Δ an α c' nt mu t x K = some q → t.wp c.P Q a w := by
  intro an
  induction an with
  | leaf =>
    intro α c' nt mu t B s x a w K q Q hP hGG hG hnt hmu hQ h he
    have hΔ' : Known c'.P c'.G Δ := by rw [hP, hGG]; exact hΔ
    rw [← hP]
    unfold denC at he
    split at he
    · split at he
      · exact wp_skip (hQ _ _ _ _ _ h he)
      · split at he
        · exact wp_region_list (ops_sound hΔ' hG hnt (fun x s a w hr hk => hQ _ _ _ _ _ hr hk) _ x s a w h he)
        · cases he
      · exact wp_exit (hQ _ _ _ _ _ h he)
      · exact wp_label (hQ _ _ _ _ _ h he)
      · exact wp_ret (hQ _ _ _ _ _ h he)
      · cases he
    · exact ops_sound hΔ' hG hnt (fun x s a w hr hk => hQ _ _ _ _ _ hr hk) _ x s a w h he
  | no =>
    intro α c' nt mu t B s x a w K q Q hP hGG hG hnt hmu hQ h he
    unfold denC at he
    cases he
  | draw m =>
    intro α c' nt mu t B s x a w K q Q hP hGG hG hnt hmu hQ h he
    have hΔ' : Known c'.P c'.G Δ := by rw [hP, hGG]; exact hΔ
    rw [← hP]
    unfold denC at he
    split at he
    · split at he
      · split at he
        · exact draw_sound hΔ' hG hnt (fun x s a w hr hk => hQ _ _ _ _ _ hr hk) h he
        · cases he
      · cases he
    · cases he
  | drawT l fl =>
    intro α c' nt mu t B s x a w K q Q hP hGG hG hnt hmu hQ h he
    have hΔ' : Known c'.P c'.G Δ := by rw [hP, hGG]; exact hΔ
    rw [← hP]
    unfold denC at he
    split at he
    · split at he
      · split at he
        · exact drawT_sound hΔ' hG hnt (fun x s a w hr hk => hQ _ _ _ _ _ hr hk) h he
        · cases he
      · cases he
    · cases he
  | one a ih =>
    intro α c' nt mu t B s x a' w K q Q hP hGG hG hnt hmu hQ h he
    unfold denC at he
    split at he
    rotate_left
    · cases he
    split at he
    · rename_i id p
      refine wp_block (ih α c' nt mu (.code p) hP hGG hG hnt hmu (fun e x s a w hr hq => ?_) h he)
      cases e with
      | exit id' =>
        simp only at hq
        show (if id' = id then Q .normal a w else Q (.exit id') a w)
        split at hq
        · rename_i e; rw [if_pos (Nat.eq_of_beq_eq_true e)]; exact hQ _ _ _ _ _ hr hq
        · rename_i e; rw [if_neg (Nat.ne_of_beq_eq_false e)]; exact hQ _ _ _ _ _ hr hq
      | _ => exact hQ _ _ _ _ _ hr hq
    · cases he
  | two a b iha ihb =>
    intro α c' nt mu t B s x a' w K q Q hP hGG hG hnt hmu hQ h he
    unfold denC at he
    split at he
    rotate_left
    · cases he
    split at he
    · rename_i p p'
      refine wp_seq (iha α c' nt mu (.code p) hP hGG hG hnt hmu (fun e x s a w hr hq => ?_) h he)
      cases e <;> first | exact ihb α c' nt mu (.code p') hP hGG hG hnt hmu hQ hr hq | exact hQ _ _ _ _ _ hr hq
    · rename_i o p p'
      obtain ⟨v, h1, he1⟩ := Option.bind_eq_some_iff.mp he
      obtain ⟨d, hd, hv⟩ := Option.bind_eq_some_iff.mp h1
      have e0 := asB_sound (evalD_sound hG h hd) hv
      refine wp_cond e0 ?_
      rcases cond_some he1 with ⟨hb, he2⟩ | ⟨hb, he2⟩
      · rw [if_pos hb]; exact iha α c' nt mu (.code p) hP hGG hG hnt hmu hQ h he2
      · rw [if_neg (by rw [hb]; decide)]; exact ihb α c' nt mu (.code p') hP hGG hG hnt hmu hQ h he2
    · cases he
  | loop kt kr ad sh outs a ih =>
    intro α c' nt mu t B s x a' w K q Q hP hGG hG hnt hmu hQ h he
    unfold denC at he
    split at he
    rotate_left
    · cases he
    split at he
    rotate_left
    · cases he
    rename_i p
    split at he
    rotate_left
    · cases he
    rename_i hk
    obtain ⟨d0, h1, he1⟩ := Option.bind_eq_some_iff.mp he
    obtain ⟨r0, h2, he2⟩ := Option.bind_eq_some_iff.mp he1
    obtain ⟨n0, hn0⟩ := loopR_iff.1 h2
    have hent := h.enter (kr := kr) hk
    obtain ⟨-, s0, -, hs0⟩ := pack1_sound h hmu hent h1
    generalize hbody : (fun d : den (shTy sh) => denC Δ a (den (shTy sh) ⊕ den (outTy outs)) c' nt [] (.code p) (x.head mu kt kr sh d) fun e x2 => match e with
          | .normal => (pack1 x kt kr ⟨.normal, ad, sh⟩ .normal x2).map Sum.inl
          | e => (packK x kt kr outs e x2).map Sum.inr) = body at h2 hn0
    let I : Nat → Act → World → Prop := fun n a1 w1 => ∃ d s1, RelW (B.inner s x a' w) s1 (x.head mu kt kr sh d) a1 w1 ∧ iterR body n d = some r0
    have hI0 : ∃ n, I n a' w := ⟨n0, d0, s0, hs0, hn0⟩
    have hmin : ∀ (p : Nat → Prop), (∃ n, p n) → ∃ n, p n ∧ ∀ m, p m → n ≤ m := by
      intro p ⟨n, hn⟩
      induction n using Nat.strongRecOn with
      | _ n ih =>
        by_cases hm : ∃ m, m < n ∧ p m
        · obtain ⟨m, h1, h2⟩ := hm; exact ih m h1 h2
        · refine ⟨n, hn, fun m hpm => ?_⟩
          by_cases hlt : m < n
          · exact absurd ⟨m, hlt, hpm⟩ hm
          · omega
    classical
    refine wp_loop (fun a w => ∃ n, I n a w) (fun a w => if hh : ∃ n, I n a w then Classical.choose (hmin _ hh) else 0) hI0 (fun a1 w1 hI => ?_)
    have hspec := (Classical.choose_spec (hmin _ hI)).1
    have hμ : (if hh : ∃ n, I n a1 w1 then Classical.choose (hmin _ hh) else 0) = Classical.choose (hmin _ hI) := by rw [dif_pos hI]
    rw [hμ]
    generalize hkk : Classical.choose (hmin _ hI) = k at hspec
    obtain ⟨d, s1, hr1, hl1⟩ := hspec
    cases k with
    | zero => cases hl1
    | succ k =>
      simp only [iterR] at hl1
      obtain ⟨y, hy, hl2⟩ := Option.bind_eq_some_iff.mp hl1
      rw [← hbody] at hy
      refine ih _ c' nt [] (.code p) (B := B.inner s x a' w) hP hGG ⟨hG.g, hG.off⟩ hnt rfl (fun e x2 s2 a2 w2 hr2 hq => ?_) hr1 hy
      cases e with
      | normal =>
        simp only at hq
        obtain ⟨d', h3, h4⟩ := Option.map_eq_some_iff.mp hq
        subst h4
        obtain ⟨-, s3, -, hs3⟩ := pack1_sound h hmu hr2 h3
        have hI' : ∃ n, I n a2 w2 := ⟨k, d', s3, hs3, hl2⟩
        refine ⟨hI', ?_⟩
        rw [dif_pos hI']
        exact Nat.lt_succ_of_le ((Classical.choose_spec (hmin _ hI')).2 _ ⟨d', s3, hs3, hl2⟩)
      | _ =>
        simp only at hq
        obtain ⟨r', h3, h4⟩ := Option.map_eq_some_iff.mp hq
        subst h4
        simp only [Option.some.injEq] at hl2
        subst hl2
        obtain ⟨x', s', k1, k2⟩ := out_sound h hmu hr2 outs h3 he2
        exact hQ _ _ _ _ _ k2 k1
  | join kt kr outs a ih =>
    intro α c' nt mu t B s x a' w K q Q hP hGG hG hnt hmu hQ h he
    unfold denC at he
    split at he
    rotate_left
    · cases he
    rename_i hk
    obtain ⟨d, h1, he1⟩ := Option.bind_eq_some_iff.mp he
    refine ih _ c' nt [] t (B := B.inner s x a' w) hP hGG ⟨hG.g, hG.off⟩ hnt rfl (fun e x2 s2 a2 w2 hr2 hq => ?_) (h.enter (kr := kr) hk) h1
    obtain ⟨x', s', k1, k2⟩ := out_sound h hmu hr2 outs hq he1
    exact hQ _ _ _ _ _ k2 k1
  | segs l =>
    intro α c' nt mu t B s x a w K q Q hP hGG hG hnt hmu hQ h he
    have hΔ' : Known c'.P c'.G Δ := by rw [hP, hGG]; exact hΔ
    rw [← hP]
    unfold denC at he
    obtain ⟨al, h1, he1⟩ := Option.bind_eq_some_iff.mp he
    exact ops?_wp h1 (segs_sound hΔ' hG hnt hmu (fun x s a w hr hk => hQ _ _ _ _ _ hr hk) l _ x s a w h he1)
  | frz l a ih =>
    intro α c' nt mu t B s x a' w K q Q hP hGG hG hnt hmu hQ h he
    unfold denC at he
    obtain ⟨x1, s1, h1, h2⟩ := freezes_sound l h he
    exact ih α c' nt mu t hP hGG hG hnt hmu hQ h2 h1
  | inl n off a b iha ihb =>
    intro α c' nt mu t B s x a' w K q Q hP hGG hG hnt hmu hQ h he
    have hΔ' : Known c'.P c'.G Δ := by rw [hP, hGG]; exact hΔ
    unfold denC at he
    obtain ⟨⟨all, l⟩, h1, he1⟩ := Option.bind_eq_some_iff.mp he
    obtain ⟨l1, h2, he2⟩ := Option.bind_eq_some_iff.mp he1
    refine ops?_wp h1 ?_
    obtain ⟨e1, -⟩ := takeN_some h2
    simp only at he2 e1 ⊢
    have hcut : l = l1 ++ dropN n l := by rw [e1, dropN_eq, List.take_append_drop]
    have hops := ops_sound_to hΔ' hG hnt (ops := all) (Q := Q) (l2 := dropN n l) (fun x1 s1 a1 w1 hr1 hk1 => by
      obtain ⟨o, h3, he3⟩ := Option.bind_eq_some_iff.mp hk1
      have hd : dropN n l = o :: dropN (Nat.succ n) l := by
        rw [nth_eq] at h3
        obtain ⟨hlt, hget⟩ := List.getElem?_eq_some_iff.mp h3
        rw [dropN_eq, dropN_eq, List.drop_eq_getElem_cons hlt, hget]
      rw [hd]
      refine wpList_step (fun K' hK' => ?_)
      have hnext : ∀ x3 s3 a3 w3, denC Δ b α c' nt mu (.ops all (dropN (Nat.succ n) l)) x3 K = some q → RelW B s3 x3 a3 w3 → K' a3 w3 := fun x3 s3 a3 w3 e2 hr3 =>
        hK' _ _ (by rw [hP]; exact ihb α c' nt mu (.ops all (dropN (Nat.succ n) l)) hP hGG hG hnt hmu hQ hr3 e2)
      obtain ⟨x2, hr2, hcase⟩ := guarded_sound hnt hr1 he3
      rcases hcase with ⟨hw, he4⟩ | ⟨hw, he4⟩
      · rw [if_pos hw]
        refine enter_sound hG hnt hr2 he4 (fun code m x' act K'' Q'' hr' hb hq'' => ?_) hnext
        have := iha α { c' with off := off } ⟨off, m⟩ mu (.code code) (B := B.into a1 off m) hP hGG (into_fit hG) rfl hmu hq'' hr' hb
        rw [hP]
        exact this
      · rw [if_neg (by rw [hw]; decide)]
        obtain ⟨x3, k1, k2⟩ := skip_sound hnt hr2 he4
        exact hnext _ _ _ _ k1 k2) l1 x s a' w h he2
    rw [← hP, hcut]
    exact hops

end
end Go.V
