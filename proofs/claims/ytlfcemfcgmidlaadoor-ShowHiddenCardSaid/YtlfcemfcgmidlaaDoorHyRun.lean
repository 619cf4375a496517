/- What some transactions do with a store. -/
import Derived.Test.YtlfcemfcgmidlaaDoorHyOver
namespace Go.Hy
open Go.RowKit Go.Proofs Go.V
theorem alone_iff {l : List Lock} : (∀ (i j : Nat) x y, i < j → l[i]? = some x → l[j]? = some y → x.2.1 = y.2.1 → x.1 ≠ y.1 ∧ x.2.2.1 = false ∧ y.2.2.1 = false) ↔ l.Pairwise fun x y => x.2.1 = y.2.1 → x.1 ≠ y.1 ∧ x.2.2.1 = false ∧ y.2.2.1 = false := by
  rw [List.pairwise_iff_getElem]
  constructor
  · intro h i j hi hj hij
    exact h i j _ _ hij (List.getElem?_eq_getElem hi) (List.getElem?_eq_getElem hj)
  · intro h i j x y hij hx hy
    obtain ⟨hi, rfl⟩ := List.getElem?_eq_some_iff.mp hx
    obtain ⟨hj, rfl⟩ := List.getElem?_eq_some_iff.mp hy
    exact h i j hi hj hij
theorem once_iff {l : List Doubt} : (∀ (i j : Nat) x y, i < j → l[i]? = some x → l[j]? = some y → x.1 ≠ y.1) ↔ l.Pairwise fun x y => x.1 ≠ y.1 := by
  rw [List.pairwise_iff_getElem]
  constructor
  · intro h i j hi hj hij
    exact h i j _ _ hij (List.getElem?_eq_getElem hi) (List.getElem?_eq_getElem hj)
  · intro h i j x y hij hx hy
    obtain ⟨hi, rfl⟩ := List.getElem?_eq_some_iff.mp hx
    obtain ⟨hj, rfl⟩ := List.getElem?_eq_some_iff.mp hy
    exact h i j hi hj hij
theorem overWith_mem {l : List Txn} {t u : Txn} : u ∈ overWith l t ↔ u ∈ l ∨ u = t := by
  unfold overWith
  split
  · rename_i h
    rw [List.any_eq_true] at h
    obtain ⟨y, y1, y2⟩ := h
    have : t = y := of_decide_eq_true y2
    subst this
    constructor
    · exact .inl
    · rintro (h | h)
      · exact h
      · rw [h]; exact y1
  · simp
theorem overWith_nodup {l : List Txn} (h : l.Nodup) (t : Txn) : (overWith l t).Nodup := by
  unfold overWith
  split
  · exact h
  · rename_i hc
    rw [List.nodup_append]
    refine ⟨h, by simp, fun a ha b hb => ?_⟩
    simp only [List.mem_singleton] at hb
    subst hb
    intro e
    subst e
    apply hc
    rw [List.any_eq_true]
    exact ⟨a, ha, by simp⟩
theorem overWith_len (l : List Txn) (t : Txn) : (overWith l t).length ≤ l.length + 1 := by
  unfold overWith
  split <;> simp
/-- A store of which some is taken away is a good one. -/
theorem cut_ok {s : Sto} (h : StoreOk s) {p : Lock → Bool} {q : Doubt → Bool} {its : List Item} {ov : List Txn} {g : Doubt → Doubt}
    (hi : ItemsOk its 1048576) (hg : ∀ d, (g d).1 = d.1 ∧ ((g d).2 = d.2 ∨ (g d).2 = 0)) (hpq : ∀ x ∈ s.2.1, ∀ d ∈ s.2.2.1, d.1 = x.1 → p x = true → q d = true) (hqp : ∀ d ∈ s.2.2.1, q d = true → ∃ x ∈ s.2.1, x.1 = d.1 ∧ p x = true)
    (hov : ∀ t ∈ ov, txnB t = true) (hnd : ov.Nodup) (hno : ∀ d ∈ s.2.2.1, q d = true → d.1 ∉ ov) (hol : ov.length ≤ 1000000) : StoreOk (its, s.2.1.filter p, (s.2.2.1.filter q).map g, ov) where
  short := ⟨by have := hi.len; simp only; omega, Nat.le_trans (List.length_filter_le _ _) h.short.locks, by rw [List.length_map]; exact Nat.le_trans (List.length_filter_le _ _) h.short.doubts, hol⟩
  sorted := hi.sorted
  item := hi.item
  lock := fun x hx => h.lock x (List.mem_filter.1 hx).1
  handed := fun x hx => by
    obtain ⟨h1, h2⟩ := List.mem_filter.1 hx
    obtain ⟨d, d1, d2⟩ := h.handed x h1
    exact ⟨g d, List.mem_map.2 ⟨d, List.mem_filter.2 ⟨d1, hpq x h1 d d1 d2 h2⟩, rfl⟩, by rw [(hg d).1, d2]⟩
  alone := alone_iff.2 ((alone_iff.1 h.alone).filter p)
  room := Nat.le_trans (List.length_filter_le _ _) h.room
  doubt := fun d hd => by
    obtain ⟨c, h1, rfl⟩ := List.mem_map.1 hd
    obtain ⟨h2, h3⟩ := List.mem_filter.1 h1
    obtain ⟨a1, a2, a3, a4⟩ := h.doubt c h2
    obtain ⟨g1, g2⟩ := hg c
    rw [g1]
    refine ⟨a1, ?_, ?_, hno c h2 h3⟩ <;> rcases g2 with g2 | g2 <;> rw [g2] <;> first | assumption | simp
  why := fun d hd => by
    obtain ⟨c, h1, rfl⟩ := List.mem_map.1 hd
    obtain ⟨h2, h3⟩ := List.mem_filter.1 h1
    obtain ⟨x, x1, x2, x3⟩ := hqp c h2 h3
    exact ⟨x, List.mem_filter.2 ⟨x1, x3⟩, by rw [(hg c).1, x2]⟩
  once := once_iff.2 (by
    rw [List.pairwise_map]
    exact ((once_iff.1 h.once).filter q).imp fun hab => by rw [(hg _).1, (hg _).1]; exact hab)
  over := hov
  ends := hnd
theorem end_keep {s : Sto} (h : StoreOk s) {t : Txn} (ht : txnB t = true) {yes : Bool} (hi : ItemsOk (endItems s t yes) 1048576) (ho : s.2.2.2.length < 1000000) : StoreOk (endR s t yes) := by
  have := cut_ok h (p := fun x => !isT t x) (q := fun x => !isD t x) (g := id) (ov := overWith s.2.2.2 t) hi (fun d => ⟨rfl, .inl rfl⟩) (fun x hx d hd e hp => by unfold isT at hp; unfold isD; rw [e]; exact hp) (fun d hd hq => by
      obtain ⟨x, x1, x2⟩ := h.why d hd
      exact ⟨x, x1, x2, by unfold isT; unfold isD at hq; rw [x2]; exact hq⟩) (fun u hu => by
      rcases overWith_mem.1 hu with e | e
      · exact h.over u e
      · rw [e]; exact ht) (overWith_nodup h.ends t) (fun d hd hq hm => by
      rcases overWith_mem.1 hm with e | e
      · exact (h.doubt d hd).2.2.2 e
      · unfold isD at hq; rw [e] at hq; simp at hq) (by have := overWith_len s.2.2.2 t; omega)
  rw [List.map_id] at this
  exact this
/-! ### what raw numbers make of a store -/
abbrev Raw := Int × (Int × (Int × (Int × (Int × Int))))
/-- A store of the transactions of two sites, behind so many rounds. -/
structure Made (n : Nat) (s : Sto) : Prop where
  ok : StoreOk s
  items : ItemsOk s.1 (24 * n)
  low : ∀ x ∈ s.1, x.1 < 5
  locks : ∀ x ∈ s.2.1, 0 ≤ x.1.1 ∧ x.1.1 < 2 ∧ 1 ≤ x.1.2 ∧ x.1.2 ≤ 2 ∧ x.2.1 < 5
  doubts : s.2.2.1.length ≤ n
  over : s.2.2.2.length ≤ n
  overs : ∀ t ∈ s.2.2.2, t.1 < 2 ∧ t.2 ≤ 2
  young : ∀ d ∈ s.2.2.1, d.2 = 0
theorem Made.few {n : Nat} {s : Sto} (h : Made n s) : s.2.1.length ≤ 20 := by
  have hnd : (s.2.1.map fun x => (x.1.1 * 2 + (x.1.2 - 1)) * 5 + x.2.1).Nodup := by
    rw [List.Nodup, List.pairwise_map]
    have h1 := alone_iff.1 h.ok.alone
    refine List.Pairwise.imp_of_mem (fun {x y} hx hy hxy e => ?_) h1
    obtain ⟨a1, a2, a3, a4, a5⟩ := h.locks x hx
    obtain ⟨b1, b2, b3, b4, b5⟩ := h.locks y hy
    have a6 := (h.ok.lock x hx).1
    have b6 := (h.ok.lock y hy).1
    obtain ⟨g1, -⟩ := hxy (by omega)
    apply g1
    exact Prod.ext (by omega) (by omega)
  have := nodup_len 20 hnd (fun z hz => by
    obtain ⟨x, hx, rfl⟩ := List.mem_map.1 hz
    obtain ⟨a1, a2, a3, a4, a5⟩ := h.locks x hx
    have a6 := (h.ok.lock x hx).1
    omega)
  rwa [List.length_map] at this
theorem Made.more {n m : Nat} {s : Sto} (h : Made n s) (hm : n ≤ m) : Made m s :=
  ⟨h.ok, ⟨h.items.sorted, fun x hx => by have := h.items.item x hx; omega⟩, h.low, h.locks, by have := h.doubts; omega, by have := h.over; omega, h.overs, h.young⟩
theorem made_nil : Made 0 ([], [], [], []) :=
  ⟨⟨⟨by simp, by simp, by simp, by simp⟩, fun i j x y _ h => by simp at h, by simp, by simp, by simp, fun i j x y _ h => by simp at h, by simp, by simp, by simp, fun i j x y _ h => by simp at h, by simp, by simp⟩, ⟨fun i j x y _ h => by simp at h, by simp⟩, by simp, by simp, by simp, by simp, by simp, by simp⟩
/-- A transaction of the two sites. -/
def small (t : Txn) : Prop := 0 ≤ t.1 ∧ t.1 < 2 ∧ 1 ≤ t.2 ∧ t.2 ≤ 2
theorem small_txn {t : Txn} (h : small t) : txnB t = true := by
  unfold small at h
  unfold txnB
  simp; omega
theorem made_read {n : Nat} {s : Sto} (h : Made n s) (hn : n ≤ 1000) {t : Txn} (ht : small t) {k : Int} (k0 : 0 ≤ k) (k1 : k < 5) (he : (readR s t k).2.2.2 = 0) : Made (n + 1) (readR s t k).1 := by
  have hd := h.doubts
  have hk := read_keep h.ok (small_txn ht) k0 (by omega) (by omega) he
  have hov := h.over
  have h' := h.more (Nat.le_succ n)
  unfold small at ht
  revert hk
  unfold readR at he ⊢
  cases e : s.2.1.findIdx? (lockB t k) with
  | some i =>
    have hi := (List.findIdx?_eq_some_iff_getElem.1 e).1
    have hx : s.2.1[i]? = some s.2.1[i] := List.getElem?_eq_getElem hi
    simp only [hx]
    intro _
    exact h'
  | none =>
    simp only [e] at he ⊢
    by_cases c1 : (s.2.2.2.any fun y => decide (t = y)) = true
    · simp only [c1, if_true] at he; cases he
    · by_cases c2 : s.2.1.any (busyB t k false) = true
      · simp only [c1, c2, if_true, if_false] at he; cases he
      · by_cases c3 : s.2.1.length = 24
        · simp only [c1, c2, c3, if_true, if_false] at he; cases he
        · simp only [c1, c2, c3, Bool.false_eq_true, if_false]
          intro hk
          refine ⟨hk, h'.items, h.low, fun x hx => ?_, Nat.le_trans (doubtsWith_len s.2.2.1 t) (by omega), Nat.le_trans h.over (by omega), h.overs, fun d hd => (doubtsWith_mem hd).elim (h.young d) (fun e => by rw [e])⟩
          rcases List.mem_append.1 hx with e1 | e1
          · exact h.locks x e1
          · simp only [List.mem_singleton] at e1
            subst e1
            simp only
            omega
theorem made_write {n : Nat} {s : Sto} (h : Made n s) (hn : n ≤ 1000) {t : Txn} (ht : small t) {k v ask : Int} (k0 : 0 ≤ k) (k1 : k < 5) (v0 : 0 ≤ v) (v1 : v ≤ 1073741824) (a0 : 0 ≤ ask) (a1 : ask ≤ 1048576) (he : (writeR s t k v ask).2 = 0) : Made (n + 1) (writeR s t k v ask).1 := by
  have hd := h.doubts
  have hk := write_keep h.ok (small_txn ht) k0 (by omega) v0 v1 a0 a1 (by omega) he
  have hov := h.over
  have h' := h.more (Nat.le_succ n)
  unfold small at ht
  revert hk
  unfold writeR at he ⊢
  by_cases c1 : (s.2.2.2.any fun y => decide (t = y)) = true
  · simp only [c1, if_true] at he; cases he
  cases e : s.2.1.findIdx? (lockB t k) with
  | some i =>
    have hi := (List.findIdx?_eq_some_iff_getElem.1 e).1
    have hx : s.2.1[i]? = some s.2.1[i] := List.getElem?_eq_getElem hi
    simp only [c1, e, hx] at he ⊢
    by_cases c2 : ask < s.2.1[i].2.2.2.2
    · simp only [c2, if_true] at he; cases he
    by_cases c3 : s.2.1.any (busyB t k true) = true
    · simp only [c2, c3, if_true, if_false] at he; cases he
    by_cases c4 : (itemOf s.1 k).2.2 = 1048576
    · simp only [c2, c3, c4, if_true, if_false] at he; cases he
    simp only [c2, c3, c4, Bool.false_eq_true, if_false]
    intro hk
    refine ⟨hk, h'.items, h.low, fun x hx => ?_, Nat.le_trans (doubtsWith_len s.2.2.1 t) (by omega), Nat.le_trans h.over (by omega), h.overs, fun d hd => (doubtsWith_mem hd).elim (h.young d) (fun e => by rw [e])⟩
    rcases List.mem_or_eq_of_mem_set hx with e1 | e1
    · exact h.locks x e1
    · subst e1
      simp only
      omega
  | none =>
    simp only [c1, e] at he ⊢
    by_cases c3 : s.2.1.any (busyB t k true) = true
    · simp only [c3, if_true] at he; cases he
    by_cases c2 : s.2.1.length = 24
    · simp only [c2, c3, if_true, if_false] at he; cases he
    by_cases c4 : (itemOf s.1 k).2.2 = 1048576
    · simp only [c2, c3, c4, if_true, if_false] at he; cases he
    simp only [c2, c3, c4, Bool.false_eq_true, if_false]
    intro hk
    refine ⟨hk, h'.items, h.low, fun x hx => ?_, Nat.le_trans (doubtsWith_len s.2.2.1 t) (by omega), Nat.le_trans h.over (by omega), h.overs, fun d hd => (doubtsWith_mem hd).elim (h.young d) (fun e => by rw [e])⟩
    rcases List.mem_append.1 hx with e1 | e1
    · exact h.locks x e1
    · simp only [List.mem_singleton] at e1
      subst e1
      simp only
      omega
theorem foldl_low {t : Txn} {yes : Bool} (c : Int) : ∀ (bs : List Lock) (l : List Item), (∀ x ∈ l, x.1 < c) → (∀ b ∈ bs, b.2.1 < c) → ∀ x ∈ bs.foldl (stepI t yes) l, x.1 < c
  | [], l, hl, _ => hl
  | b :: bs, l, hl, hb => by
    rw [List.foldl_cons]
    refine foldl_low c bs _ (fun x hx => ?_) fun y hy => hb y (List.mem_cons_of_mem _ hy)
    unfold stepI at hx
    split at hx
    · rcases putItem_mem hx with e | ⟨e, -⟩
      · exact hl x e
      · rw [e]; exact hb b List.mem_cons_self
    · exact hl x hx
theorem made_ends {n : Nat} {s : Sto} (h : Made n s) (hn : n ≤ 1000) (t : Txn) (yes : Bool) : ItemsOk (endItems s t yes) (24 * (n + 1 : Nat)) := by
  have h1 := (endItems_is (a := (s, t, yes)) h.ok (m := 24 * n) (by omega) (by omega) h.items).2
  have hr := h.ok.room
  exact ⟨h1.sorted, fun x hx => by have := h1.item x hx; simp only at this; omega⟩
theorem made_end_is {n : Nat} {s : Sto} (h : Made n s) (hn : n ≤ 1000) {t : Txn} (ht : txnB t = true) (yes : Bool) : r56 (s, t, yes) = some (endR s t yes, 0) :=
  end_is h.ok (m := 24 * n) (by omega) (by omega) h.items ht yes (by have := h.over; omega)
theorem made_end_ok {n : Nat} {s : Sto} (h : Made n s) (hn : n ≤ 1000) {t : Txn} (ht : txnB t = true) (yes : Bool) : StoreOk (endR s t yes) := by
  have h1 := made_ends h hn t yes
  exact end_keep h.ok ht ⟨h1.sorted, fun x hx => by have := h1.item x hx; omega⟩ (by have := h.over; omega)
theorem made_end {n : Nat} {s : Sto} (h : Made n s) (hn : n ≤ 1000) {t : Txn} (ht : small t) (yes : Bool) : Made (n + 1) (endR s t yes) where
  ok := made_end_ok h hn (small_txn ht) yes
  items := made_ends h hn t yes
  low := foldl_low 5 _ _ h.low fun b hb => (h.locks b hb).2.2.2.2
  locks := fun x hx => h.locks x (List.mem_filter.1 hx).1
  doubts := Nat.le_trans (List.length_filter_le _ _) (by have := h.doubts; omega)
  over := Nat.le_trans (overWith_len _ _) (by have := h.over; omega)
  overs := fun u hu => by
    unfold small at ht
    rcases overWith_mem.1 hu with e | e
    · exact h.overs u e
    · rw [e]; exact ⟨ht.2.1, ht.2.2.2⟩
  young := fun d hd => h.young d (List.mem_filter.1 hd).1
theorem picked_is (a n : Int) (ha : i64 a) (hn : 0 < n) : ∃ q, r15 (a, n) = some q ∧ 0 ≤ q ∧ q < n := by
  unfold i64 at ha
  have hn0 : ¬ n = 0 := by omega
  by_cases h : a < 0
  · have e1 : Go.IntKind.wrap .i64 (a + 1) = a + 1 := wrap_i64 (by unfold i64; omega)
    have e2 : Go.IntKind.wrap .i64 (0 - (a + 1)) = 0 - (a + 1) := wrap_i64 (by unfold i64; omega)
    have e2' : Go.IntKind.wrap .i64 (-(a + 1)) = 0 - (a + 1) := by rw [← e2]; congr 1; omega
    refine ⟨Int.tmod (0 - (a + 1)) n, by simp [r15, h, e1, e2', hn0], Int.tmod_nonneg _ (by omega), Int.tmod_lt_of_pos _ hn⟩
  · refine ⟨Int.tmod a n, by simp [r15, h, hn0], Int.tmod_nonneg _ (by omega), Int.tmod_lt_of_pos _ hn⟩
def rawOk (r : Raw) : Prop := i64 r.1 ∧ i64 r.2.1 ∧ i64 r.2.2.1 ∧ i64 r.2.2.2.1 ∧ i64 r.2.2.2.2.1 ∧ i64 r.2.2.2.2.2
theorem store_is {l : List Raw} (hl : l.length ≤ 9223372036854775807) (hr : ∀ r ∈ l, rawOk r) {m : Nat} (hm : m ≤ 40) : ∃ s, r25 (l, (m : Int)) = some s ∧ Made m s := by
  obtain ⟨q, h1, s, rfl, h2⟩ := loop_rule (body := r25_L0 (l, (m : Int))) (fun d => ∃ i : Nat, d.2.1 = i ∧ i ≤ m ∧ Made i d.2.2) (fun d => m - d.2.1.toNat) (fun r => ∃ s, r = ((), s) ∧ Made m s) (fun d hd => by
    obtain ⟨⟨⟩, j, s⟩ := d
    obtain ⟨i, hi, him, hM⟩ := hd
    simp only at hi hM
    subst hi
    by_cases g : i < l.length
    · by_cases g2 : i < m
      · left
        have hx : l[i]? = some l[i] := List.getElem?_eq_getElem g
        obtain ⟨n1, n2, -⟩ := in_len hx
        obtain ⟨o1, o2, o3, o4, o5, o6⟩ := hr _ (List.mem_of_getElem? hx)
        obtain ⟨a, pa, a0, a1⟩ := picked_is l[i].2.1 2 o2 (by omega)
        obtain ⟨b, pb, b0, b1⟩ := picked_is l[i].2.2.1 2 o3 (by omega)
        obtain ⟨c, pc, c0, c1⟩ := picked_is l[i].2.2.2.1 5 o4 (by omega)
        obtain ⟨k, pk, k0, k1⟩ := picked_is l[i].1 5 o1 (by omega)
        obtain ⟨v, pv, v0, v1⟩ := picked_is l[i].2.2.2.2.1 100 o5 (by omega)
        obtain ⟨w, pw, w0, w1⟩ := picked_is l[i].2.2.2.2.2 5 o6 (by omega)
        obtain ⟨y, py, y0, y1⟩ := picked_is l[i].2.2.2.2.1 2 o5 (by omega)
        have hw1 : Go.IntKind.wrap .i64 ((1 : Int) + b) = 1 + b := wrap_i64 (by unfold i64; omega)
        have hw2 : Go.IntKind.wrap .i64 ((i : Int) + 1) = ((i + 1 : Nat) : Int) := wrap_i64 (by unfold i64; omega)
        have hs : small (a, 1 + b) := ⟨a0, a1, by simp only; omega, by simp only; omega⟩
        have ht := small_txn hs
        have hstay : ∃ d', some (Sum.inl ((), (((i + 1 : Nat) : Int), s)) : (Unit × (Int × Sto)) ⊕ (Unit × Sto)) = some (Sum.inl d') ∧ (∃ i' : Nat, d'.2.1 = i' ∧ i' ≤ m ∧ Made i' d'.2.2) ∧ m - d'.2.1.toNat < m - (i : Int).toNat :=
          ⟨_, rfl, ⟨i + 1, rfl, g2, hM.more (Nat.le_succ i)⟩, by simp only; omega⟩
        have hgo : ∀ s', Made (i + 1) s' → ∃ d', some (Sum.inl ((), (((i + 1 : Nat) : Int), s')) : (Unit × (Int × Sto)) ⊕ (Unit × Sto)) = some (Sum.inl d') ∧ (∃ i' : Nat, d'.2.1 = i' ∧ i' ≤ m ∧ Made i' d'.2.2) ∧ m - d'.2.1.toNat < m - (i : Int).toNat := fun s' h' =>
          ⟨_, rfl, ⟨i + 1, rfl, g2, h'⟩, by simp only; omega⟩
        unfold r25_L0
        simp only [n1, n2, cond_true, Option.bind_some, pa, pb, pc, pk, pv, pw, py, hw1, hw2, decide_eq_true (show (i : Int) < (m : Int) by omega), bif_some]
        by_cases q1 : k = 0 ∨ k = 1
        · have : (bif decide (k = 0) then decide (k = 0) else decide (k = 1)) = true := by
            rcases q1 with e | e <;> subst e <;> rfl
          simp only [this, cond_true, read_is hM.ok ht c0 (show c < 8 by omega), Option.bind_some]
          by_cases e : (readR s (a, 1 + b) c).2.2.2 = 0
          · simp only [decide_eq_true e, cond_true]
            exact hgo _ (made_read hM (by omega) hs c0 c1 e)
          · simp only [decide_eq_false e, cond_false]
            exact hstay
        · have : (bif decide (k = 0) then decide (k = 0) else decide (k = 1)) = false := by
            rw [decide_eq_false (fun e => q1 (.inl e)), decide_eq_false (fun e => q1 (.inr e))]; rfl
          simp only [this, cond_false]
          by_cases q2 : k = 2 ∨ k = 3
          · have : (bif decide (k = 2) then decide (k = 2) else decide (k = 3)) = true := by
              rcases q2 with e | e <;> subst e <;> rfl
            simp only [this, cond_true, write_is hM.ok ht c0 (show c < 8 by omega) v0 (show v ≤ 1073741824 by omega) w0 (show w ≤ 1048576 by omega), Option.bind_some]
            by_cases e : (writeR s (a, 1 + b) c v w).2 = 0
            · simp only [decide_eq_true e, cond_true]
              exact hgo _ (made_write hM (by omega) hs c0 c1 v0 (by omega) w0 (by omega) e)
            · simp only [decide_eq_false e, cond_false]
              exact hstay
          · have : (bif decide (k = 2) then decide (k = 2) else decide (k = 3)) = false := by
              rw [decide_eq_false (fun e => q2 (.inl e)), decide_eq_false (fun e => q2 (.inr e))]; rfl
            simp only [this, cond_false, made_end_is hM (by omega) ht, Option.bind_some, decide_true, cond_true]
            exact hgo _ (made_end hM (by omega) hs _)
      · right
        have : i = m := by omega
        subst this
        refine ⟨((), s), ?_, s, rfl, hM⟩
        unfold r25_L0
        simp only [decide_eq_true (show (i : Int) < (l.length : Int) by omega), show decide ((i : Int) < (i : Int)) = false from decide_eq_false (by omega), cond_true, cond_false, Option.bind_some]
    · right
      refine ⟨((), s), ?_, s, rfl, hM.more him⟩
      unfold r25_L0
      simp only [decide_eq_false (show ¬ (i : Int) < (l.length : Int) by omega), cond_false, Option.bind_some]) ((), (0, ([], [], [], []))) ⟨0, rfl, by omega, made_nil⟩
  refine ⟨s, ?_, h2⟩
  unfold r25
  rw [h1]
  rfl
end Go.Hy
