/- Storing. -/
import Derived.Test.YtmcaghldcabnnaaRvFifteen
namespace Go.V
open Go.RowKit

variable {α : Type}

/-- A node of a root, and how it is put back. -/
def nodeK : Path → T → (T → (T → Option T) → Option α) → Option α
  | [], t, K => K t some
  | e :: p, t, K => stepK t e.1 e.2 fun c up => nodeK p c fun n up' => K n fun n' => (up' n').bind up

theorem nodeK_some : ∀ {p : Path} {t : T} {K : T → (T → Option T) → Option α} {q : α}, nodeK p t K = some q → ∃ n, getT p t = some n ∧ K n (fun n' => setT p t n') = some q
  | [], t, K, q, h => ⟨t, rfl, by simp only [nodeK] at h; exact h⟩
  | (i, j) :: p, t, K, q, h => by
    obtain ⟨c, hc, h1⟩ := stepK_some h
    obtain ⟨n, hn, h2⟩ := nodeK_some h1
    refine ⟨n, by simp only [getT, hc, Option.bind_some]; exact hn, ?_⟩
    have e : (fun n' => setT ((i, j) :: p) t n') = fun n' => (setT p c n').bind fun c' => putChild t i j c' := by
      funext n'
      simp only [setT, hc, Option.bind_some]
    rw [e]
    exact h2

theorem setRow_of : ∀ {p : Path} {t n n' t' : T} {i : Nat} {cs : List T}, getT p t = some n → putRowT n i cs = some n' → setT p t n' = some t' → setRowT p t i cs = some t'
  | [], t, n, n', t', i, cs, h1, h2, h3 => by
    simp only [getT, Option.some.injEq] at h1
    simp only [setT, Option.some.injEq] at h3
    subst h1 h3
    exact h2
  | (k, l) :: p, t, n, n', t', i, cs, h1, h2, h3 => by
    simp only [getT] at h1
    obtain ⟨c, hc, h1⟩ := Option.bind_eq_some_iff.mp h1
    simp only [setT, hc, Option.bind_some] at h3
    obtain ⟨c', hc', h3⟩ := Option.bind_eq_some_iff.mp h3
    simp only [setRowT, hc, Option.bind_some, setRow_of h1 h2 hc']
    exact h3

def dsOf (l : List Nat) : Nat → List T → List T → List (List Nat)
  | j, o :: os, n :: ns => match and o.isSh n.isSh with
    | true => dsOf l (j + 1) os ns
    | false => app l [j] :: dsOf l (j + 1) os ns
  | _, _, _ => []

theorem dsOf_spec {l : List Nat} : ∀ {ns os : List T} {j k : Nat} {o n : T}, os[k]? = some o → ns[k]? = some n → (o.isSh = true ∧ n.isSh = true) ∨ (l ++ [j + k]) ∈ dsOf l j os ns
  | [], os, j, k, o, n, h1, h2 => by simp at h2
  | n0 :: ns, [], j, k, o, n, h1, h2 => by simp at h1
  | n0 :: ns, o0 :: os, j, k, o, n, h1, h2 => by
    cases k with
    | zero =>
      simp only [List.getElem?_cons_zero, Option.some.injEq] at h1 h2
      subst h1 h2
      unfold dsOf
      cases h : and o0.isSh n0.isSh with
      | true => exact .inl (by simpa using h)
      | false => exact .inr (by simp [app_eq])
    | succ k =>
      simp only [List.getElem?_cons_succ] at h1 h2
      rcases dsOf_spec (l := l) (j := j + 1) h1 h2 with h | h
      · exact .inl h
      · refine .inr ?_
        have e : j + (k + 1) = j + 1 + k := by omega
        rw [e]
        unfold dsOf
        split
        · exact h
        · exact List.mem_cons_of_mem _ h

def locksOk (x : X) (r : Nat) (l : List Nat) : Nat → List T → Bool
  | _, [] => true
  | j, _ :: ts => match lockOk x r (app l [j]) with
    | true => locksOk x r l (j + 1) ts
    | false => false

theorem locksOk_spec {x : X} {r : Nat} {l : List Nat} : ∀ {ts : List T} {j k : Nat}, locksOk x r l j ts = true → k < ts.length → lockOk x r (l ++ [j + k]) = true
  | [], j, k, h, hk => by simp at hk
  | t :: ts, j, k, h, hk => by
    unfold locksOk at h
    split at h
    · rename_i h1
      cases k with
      | zero => simpa [app_eq] using h1
      | succ k =>
        have := locksOk_spec h (k := k) (by simpa using hk)
        rwa [show j + (k + 1) = j + 1 + k by omega]
    · cases h

/-- Some cells of a node's row get new content. -/
def putRowK (x : X) (r : Nat) (p : Path) (i j sz : Nat) (ts : List T) (K : X → Option α) : Option α :=
  (look x.roots r).bind fun row => nodeK p (.vr row) fun n up => rowK n i sz fun cs =>
    match and (Nat.ble (j + ts.length) cs.length) (and (Nat.ble 1 ts.length) (locksOk x r (jp p) j ts)) with
    | false => none
    | true => (putRowT n i (setFrom cs j ts)).bind fun n' => (up n').bind fun t' => match t' with
      | .vr row' => K (x.turnedL r (dsOf (jp p) j (dropN j cs) ts) row')
      | _ => none

section
variable {c : Ctx} {B : Base} {s : Sit} {x : X} {a : Act} {w : World}

theorem rowOf_get {t : T} {i sz : Nat} {cs : List T} (h : rowOf t i sz = some cs) : getRowT t i = some cs ∧ (∀ cs, t ≠ .vr cs) := by
  unfold rowOf rowK at h
  split at h
  · split at h
    · obtain ⟨y, hy, h⟩ := Option.bind_eq_some_iff.mp h
      simp only [Option.some.injEq] at h
      subst h
      simp only [idxN] at hy
      exact ⟨by simp [getRowT, hy], nofun⟩
    · cases h
  · split at h
    · simp only [Option.some.injEq] at h; subst h; exact ⟨rfl, nofun⟩
    · cases h
  · split at h
    · simp only [Option.some.injEq] at h; subst h; exact ⟨rfl, nofun⟩
    · cases h
  · split at h
    · rename_i hb
      simp only [Bool.and_eq_true] at hb
      obtain ⟨y, hy, h⟩ := Option.bind_eq_some_iff.mp h
      rcases cond_some h with ⟨hb2, h3⟩ | ⟨_, h3⟩
      · simp only [Option.some.injEq] at h3
        subst h3
        simp only [idxN] at hy
        exact ⟨by simp only [getRowT, hy, Option.bind_some, hb2, hb.2]; rfl, nofun⟩
      · cases h3
    · cases h
  · split at h
    · simp only [Option.some.injEq] at h; subst h; exact ⟨rfl, nofun⟩
    · cases h
  · cases h

/-- A node that has rows has a block, and all of the row's cells lie there. -/
theorem node_block (h : RelW B s x a w) {r : Nat} {p : Path} {t : T} {i sz : Nat} {cs : List T} (hp : x.at r p = some t) (hr : rowOf t i sz = some cs) (hne : cs ≠ []) :
    ∃ y b, s.Φ r p = some y ∧ blkOf y = some b ∧ (∀ j, t.idx (s.Φ r p) i j = offOf y + (i * sz + j)) := by
  obtain ⟨hg, hnv⟩ := rowOf_get hr
  cases cs with
  | nil => exact absurd rfl hne
  | cons u us =>
    obtain ⟨v, -, -, h3⟩ := own_cell h hp (rowOf_child hr 0 u rfl)
    rcases h3 with ⟨cs', e⟩ | ⟨b, arr, el, g1, g2, g3⟩
    · exact absurd e (hnv cs')
    · obtain ⟨y, hy, hb⟩ := Option.bind_eq_some_iff.mp g1
      refine ⟨y, b, hy, hb, fun j => ?_⟩
      rw [hy]
      exact (rowOf_idx hr j y (fun hns hns2 => by
        have hp' := hp
        unfold X.at at hp'
        obtain ⟨rw0, g1, g2⟩ := Option.bind_eq_some_iff.mp hp'
        obtain ⟨y0, hy0⟩ := h.roots r rw0 g1
        obtain ⟨x', hx'⟩ := getT_own p hy0 g2
        have hy' : ((s.Φ r).under p) [] = some y := by rw [Lay.under_apply_nil]; exact hy
        generalize (s.Φ r).under p = φ at hx' hy'
        cases hx' with
        | sh => simp [noLay] at hy'
        | nil => exact absurd rfl (hns _ _ _)
        | sl => exact absurd rfl (hns _ _ _)
        | slo => exact absurd rfl (hns2 _ _ _ _)
        | box _ cs ht b arr el vs φ hb hsz hc hr h0 => rw [h0, Option.some.injEq] at hy'; subst hy'; rfl
        | vr cs _ vs φ hr h0 => rw [h0] at hy'; cases hy')).1

theorem putRow_sound {s1 : Sit} (h : RelW B s1 x a w) {r : Nat} {p : Path} {i j sz : Nat} {ts : List T} {K : X → Option α} {q : α} (he : putRowK x r p i j sz ts K = some q)
    {us : Nat → Value} {φ : Lay} (ht : Taken B s1 w ts us φ) :
    ∃ x' s' y b arr el, K x' = some q ∧ s1.Φ r p = some y ∧ blkOf y = some b ∧ w.heap[b]? = some (.cells arr el (0, 0)) ∧ offOf y + (i * sz + j) + ts.length ≤ arr.size ∧
      ∀ vs : List Value, vs.length = ts.length → (∀ m, m < ts.length → vs[m]? = some (us m)) →
      RelW B s' x' a (w.setRow b (arr.toList.take (offOf y + (i * sz + j)) ++ vs ++ arr.toList.drop (offOf y + (i * sz + j) + ts.length)).toArray) := by
  unfold putRowK at he
  obtain ⟨row, h1, he⟩ := Option.bind_eq_some_iff.mp he
  obtain ⟨n, h2, he⟩ := nodeK_some he
  rw [rowK_eq] at he
  obtain ⟨cs, h3, he⟩ := Option.bind_eq_some_iff.mp he
  split at he
  · cases he
  rename_i hb
  simp only [Bool.and_eq_true] at hb
  obtain ⟨hb1, hb2, hb3⟩ := hb
  have hb1 := Nat.le_of_ble_eq_true hb1
  have hb2 := Nat.le_of_ble_eq_true hb2
  obtain ⟨n', h4, he⟩ := Option.bind_eq_some_iff.mp he
  obtain ⟨t', h5, he⟩ := Option.bind_eq_some_iff.mp he
  split at he
  rotate_left
  · cases he
  rename_i row'
  have hat : x.at r p = some n := by simp only [X.at, h1, Option.bind_some]; exact h2
  obtain ⟨hget, hnv⟩ := rowOf_get h3
  have hcne : cs ≠ [] := by intro e; subst e; simp only [List.length_nil] at hb1; omega
  obtain ⟨y, b, hy, hbk, hidx⟩ := node_block h hat h3 hcne
  have hcell : ∀ k, k < cs.length → ∃ v arr el, w.heap[b]? = some (.cells arr el (0, 0)) ∧ arr[offOf y + (i * sz + k)]? = some v := fun k hk => by
    obtain ⟨v, arr, el, g1, g2, _⟩ := own_row h hat h3 hy hbk (List.getElem?_eq_getElem hk)
    exact ⟨v, arr, el, g1, g2⟩
  obtain ⟨v0, arr, el, hheap, hv0⟩ := hcell (j + ts.length - 1) (by omega)
  have hfit : offOf y + (i * sz + j) + ts.length ≤ arr.size := by
    have := (Array.getElem?_eq_some_iff.mp hv0).1
    omega
  let ys : Nat → Option Value := fun k => if j ≤ k ∧ k < j + ts.length then some (us (k - j)) else none
  let ch : Nat → Bool := fun k => (ys k).isSome
  let ψ : Lay := fun q => match q with
    | (0, l) :: q => if j ≤ l ∧ l < j + ts.length then φ ((0, l - j) :: q) else none
    | _ => none
  have hψ : ∀ q z, ψ q = some z → ∃ q', φ q' = some z ∧ (∃ l q0, q = (0, l) :: q0 ∧ q' = (0, l - j) :: q0 ∧ j ≤ l) := by
    intro q z hz
    match q with
    | [] => cases hz
    | (k + 1, l) :: q => cases hz
    | (0, l) :: q =>
      simp only [ψ] at hz
      split at hz
      · rename_i hl; exact ⟨_, hz, l, q, rfl, rfl, hl.1⟩
      · cases hz
  have hψat : ∀ k, k < ts.length → ψ.at 0 (j + k) = φ.at 0 k := by
    intro k hk
    funext q
    simp only [Lay.at, ψ]
    rw [if_pos (by omega), show j + k - j = k by omega]
  refine ⟨_, setΦ s1 r ((s1.Φ r).rowGraft p i ch ψ), y, b, arr, el, he, hy, hbk, hheap, hfit, fun vs hvl hvs => ?_⟩
  have hother : ∀ b', b' ≠ b → (w.setRow b (arr.toList.take (offOf y + (i * sz + j)) ++ vs ++ arr.toList.drop (offOf y + (i * sz + j) + ts.length)).toArray).heap[b']? = w.heap[b']? := fun b' hb' => setRow_other _ _ _ _ hb'
  have hSb : ∀ f b', s1.S f b' → b' ≠ b := fun f b' hS e => (h.own r p y b hy hbk).1 f (e ▸ hS)
  have hφb : ∀ q z b', φ q = some z → blkOf z = some b' → b' ≠ b := fun q z b' e1 e2 e => ht.own.out q z b' e1 e2 r p y hy (by rw [hbk, e])
  refine h.setRow h1 h2 hget (setFrom_length _ _ _) (setRow_of h2 h4 h5) (fun k => rfl) (fun k hk => ?_) (fun k u hk => ?_) (fun k o nw hc ho hn => ?_) (fun k hk => ?_) ⟨j, ?_⟩ ?_ ⟨rfl, rfl, rfl, by simp⟩ (fun b' hb' => hother b' (fun e => hb' (by rw [hy, Option.bind_some, hbk, e]))) ?_
  · have := List.getElem?_eq_none_iff.mp hk
    show (if _ then _ else _) = _
    rw [if_neg (by omega)]
  · rw [setFrom_get] at hk
    by_cases hjk : j ≤ k ∧ k < j + ts.length
    · rw [if_pos ⟨hjk.1, hjk.2, by omega⟩] at hk
      refine .inl ⟨us (k - j), by show (if _ then _ else _) = _; rw [if_pos hjk], ?_⟩
      have e : k = j + (k - j) := by omega
      have := hψat (k - j) (by omega)
      rw [← e] at this
      rw [this]
      exact (ht.get _ _ hk).mono (fun f b' hS => hother b' (hSb f b' hS)) (fun _ _ h => h) (fun q z b' e1 e2 => hother b' (hφb _ _ _ e1 e2))
    · rw [if_neg (by omega)] at hk
      exact .inr ⟨by show (if _ then _ else _) = _; rw [if_neg hjk], hk⟩
  · have hjk : j ≤ k ∧ k < j + ts.length := by
      simp only [ch, ys] at hc
      split at hc
      · assumption
      · cases hc
    rw [setFrom_get, if_pos ⟨hjk.1, hjk.2, by omega⟩] at hn
    have := dsOf_spec (l := jp p) (j := j) (k := k - j) (os := dropN j cs) (ns := ts) (o := o) (n := nw) (by rw [dropN_eq, List.getElem?_drop, show j + (k - j) = k by omega]; exact ho) hn
    rw [show j + (k - j) = k by omega] at this
    exact this
  · have hjk : j ≤ k ∧ k < j + ts.length := by
      simp only [ch, ys] at hk
      split at hk
      · assumption
      · cases hk
    have := locksOk_spec hb3 (k := k - j) (by omega)
    rwa [show j + (k - j) = k by omega] at this
  · simp only [ch, ys]
    rw [if_pos (by omega)]; rfl
  · refine ⟨fun q z q' z' b' e1 e2 e3 e4 => ?_, fun q z b' e1 e2 => ?_, fun q z b' e1 e2 r' p' z' e3 => ?_⟩
    · obtain ⟨q1, f1, l1, q0, rfl, rfl, g1⟩ := hψ q z e1
      obtain ⟨q2, f2, l2, q3, rfl, rfl, g2⟩ := hψ q' z' e3
      have := ht.own.inj _ _ _ _ _ f1 e2 f2 e4
      simp only [List.cons.injEq, Prod.mk.injEq, true_and] at this
      rw [this.2, show l1 = l2 by omega]
    · obtain ⟨q1, f1, -⟩ := hψ q z e1
      have := ht.own.own _ _ _ f1 e2
      exact ⟨this.1, by rw [setRow_size]; exact this.2.1, this.2.2⟩
    · obtain ⟨q1, f1, -⟩ := hψ q z e1
      exact ht.own.out _ _ _ f1 e2 _ _ _ e3
  · have key : ∃ b0, (s1.Φ r p).bind blkOf = some b0 ∧ ∀ arr0 el0, w.heap[b0]? = some (.cells arr0 el0 (0, 0)) → ∃ arr', (w.setRow b (arr.toList.take (offOf y + (i * sz + j)) ++ vs ++ arr.toList.drop (offOf y + (i * sz + j) + ts.length)).toArray).heap[b0]? = some (.cells arr' el0 (0, 0)) ∧ arr'.size = arr0.size ∧
        (∀ k z, ys k = some z → arr'[n.idx (s1.Φ r p) i k]? = some z) ∧ (∀ m, (∀ k z, ys k = some z → m ≠ n.idx (s1.Φ r p) i k) → arr'[m]? = arr0[m]?) := by
      refine ⟨b, by rw [hy, Option.bind_some, hbk], fun arr0 el0 h0 => ?_⟩
      rw [hheap] at h0
      simp only [Option.some.injEq, Obj.cells.injEq, and_true] at h0
      obtain ⟨rfl, rfl⟩ := h0
      have hl1 : (arr.toList.take (offOf y + (i * sz + j))).length = offOf y + (i * sz + j) := by simp; omega
      refine ⟨_, setRow_heap _ _ _ _ _ _ hheap, by simp; omega, fun k z hk => ?_, fun m hm => ?_⟩
      · have hjk : j ≤ k ∧ k < j + ts.length := by
          simp only [ys] at hk
          split at hk
          · assumption
          · cases hk
        simp only [ys] at hk
        rw [if_pos hjk] at hk
        rw [hidx, ← hk]
        simp only [List.getElem?_toArray]
        rw [List.append_assoc, List.getElem?_append_right (by omega), hl1, List.getElem?_append_left (by omega)]
        rw [show offOf y + (i * sz + k) - (offOf y + (i * sz + j)) = k - j by omega]
        exact hvs _ (by omega)
      · simp only [List.getElem?_toArray]
        by_cases hlt : m < offOf y + (i * sz + j)
        · rw [List.append_assoc, List.getElem?_append_left (by omega), List.getElem?_take, if_pos hlt]; simp
        · have hge : offOf y + (i * sz + j) + ts.length ≤ m := by
            refine Nat.le_of_not_lt fun hlt2 => ?_
            refine hm (m - (offOf y + i * sz)) (us (m - (offOf y + (i * sz + j)))) ?_ ?_
            · show (if _ then _ else _) = _
              rw [if_pos (by omega)]
              congr 2; omega
            · rw [hidx]; omega
          rw [List.getElem?_append_right (by simp; omega), List.getElem?_drop]
          simp only [List.length_append, hl1, hvl]
          rw [show offOf y + (i * sz + j) + ts.length + (m - (offOf y + (i * sz + j) + ts.length)) = m by omega]
          simp
    cases n with
    | vr => exact absurd rfl (hnv _)
    | _ => exact key

/-- A variable is given a value. -/
def storeK (cx : Ctx) (x : X) (t : TypeId) (pd vd : D) (K : X → Option α) : Option α := (look cx.Ty t).bind fun i => match pd with
  | .v (.c (.pt r p ip j sz)) => takeAllK i vd x fun ts x1 => putRowK x1 r p ip j sz ts K
  | _ => none

theorem store_sound (h : RelW B s x a w) {t : TypeId} {pd vd : D} {pv vv : Value} (hp : RepD w s pd pv) (hv : RepD w s vd vv) {K : X → Option α} {q : α} (he : storeK c x t pd vd K = some q) :
    ∃ x' s' w', K x' = some q ∧ (Instr.storeAt t pv vv).run c.P w = .ok () w' ∧ RelW B s' x' a w' := by
  unfold storeK at he
  obtain ⟨i, e1, he⟩ := Option.bind_eq_some_iff.mp he
  have hok := c.hTy t i e1
  split at he
  rotate_left
  · cases he
  rename_i r p ip j sz _
  obtain ⟨ts, x1, s1, us, φ, hK, tk⟩ := takeAll_sound h hv he
  obtain ⟨x', s', y, b, arr, el, k1, k2, k3, k4, k5, k6⟩ := putRow_sound tk.rel hK tk.tk
  cases hp with
  | v _ _ hp => cases hp with
    | c _ _ hp => cases hp with
      | pt _ _ _ _ _ y' b' g1 g2 =>
        have e2 := tk.sub _ _ _ k2
        rw [g1, Option.some.injEq] at e2
        subst e2
        rw [k3, Option.some.injEq] at g2
        subst g2
        have hlen := tk.len
        have hsize := tk.size
        refine ⟨x', s', _, k1, ?_, k6 vv.cells.toList (by rw [Array.length_toList, hsize, hlen]) (fun m hm => by rw [Array.getElem?_toList]; exact tk.vals m (by omega))⟩
        have hsz : ¬ (vv.cells.size ≠ i.size) := by rw [hsize]; simp
        have hst := run_storeCells_at c.P b (offOf y' + (ip * sz + j)) el vv.cells.toList 0 arr w k4 (by
          rw [Array.length_toList, hsize, ← hlen]; omega) tk.one
        simp only [Instr.storeAt, Instr.sureAddr, storeVar, Sem.run_bind, Sem.run_pure, Result.andThen_ok, hok.run_sizeOf, Sem.run_ite, if_neg hsz, hst]
        rw [Nat.add_zero, Array.length_toList, hsize, ← hlen]

end
end Go.V
