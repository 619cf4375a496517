/- A store: what its parts compute. -/
import Derived.Test.YtlfcemfcgmidlaaDoorHyOne
import Derived.Test.YtlfcemfcgmidlaaDoorHaRun
namespace Go.Hy
open Go.RowKit Go.Proofs Go.V
abbrev Txn := Int × Int
abbrev Item := Int × (Int × Int)
abbrev Lock := Txn × (Int × (Bool × (Int × Int)))
abbrev Doubt := Txn × Int
abbrev Sto := List Item × (List Lock × (List Doubt × List Txn))
/-- Lists no longer than memory bears. -/
structure Short (s : Sto) : Prop where
  items : s.1.length ≤ 1000000
  locks : s.2.1.length ≤ 1000000
  doubts : s.2.2.1.length ≤ 1000000
  over : s.2.2.2.length ≤ 1000000
theorem own_is {s : Sto} (h : Short s) : r87 s = some s := by
  have h1 := h.items; have h2 := h.locks; have h3 := h.doubts; have h4 := h.over
  unfold r87
  rw [show r113 s.1 = some s.1 from nilR_clone (by omega), show r114 s.2.1 = some s.2.1 from nilR_clone (by omega), show r115 s.2.2.1 = some s.2.2.1 from nilR_clone (by omega), show r116 s.2.2.2 = some s.2.2.2 from nilR_clone (by omega)]
  rfl
def txnB (t : Txn) : Bool := ((decide (0 ≤ t.1) && decide (t.1 < 4)) && decide (1 ≤ t.2)) && decide (t.2 ≤ 1048576)
theorem txn_is (t : Txn) : r97 t = some (txnB t) := by
  unfold r97 txnB
  simp only [bif_some, and_bif, Option.bind_some]
theorem contains_is {xs : List Txn} (h : xs.length ≤ 1000000) (t : Txn) : r88 (xs, t) = some (xs.any fun x => decide (t = x)) := by
  unfold r88 r117
  rw [find_is (xs := xs) (p := fun x => decide (t = x)) (by omega) (fun i x hx => ?_) ?_]
  · simp only [Option.bind_some, idxOr_any]
  · unfold r117_L0
    simp only [at_len, cond_false]
  · obtain ⟨h1, h2, -⟩ := in_len hx
    unfold r117_L0
    simp only [h1, h2, cond_true, Option.bind_some, pair_dec, bif_some]
theorem doubted_is {s : Sto} (h : Short s) (t : Txn) : r108 (s, t) = some (s.2.2.1.any fun d => decide (d.1 = t)) := by
  have := h.doubts
  unfold r108
  rw [find_is (xs := s.2.2.1) (p := fun d => decide (d.1 = t)) (by omega) (fun i x hx => ?_) ?_]
  · simp only [Option.bind_some, idxOr_any]
  · unfold r108_L0
    simp only [at_len, cond_false]
  · obtain ⟨h1, h2, -⟩ := in_len hx
    unfold r108_L0
    simp only [h1, h2, cond_true, Option.bind_some, pair_dec, bif_some]
def lockB (t : Txn) (k : Int) (x : Lock) : Bool := decide (x.1 = t) && decide (x.2.1 = k)
theorem lock_is {s : Sto} (h : Short s) (t : Txn) (k : Int) : r86 (s, t, k) = some (idxOr (s.2.1.findIdx? (lockB t k))) := by
  have := h.locks
  unfold r86
  rw [find_is (xs := s.2.1) (p := lockB t k) (by omega) (fun i x hx => ?_) ?_]
  · simp only [Option.bind_some]
  · unfold r86_L0
    simp only [at_len, cond_false]
  · obtain ⟨h1, h2, -⟩ := in_len hx
    unfold r86_L0 lockB
    simp only [h1, h2, cond_true, Option.bind_some, pair_dec, bif_some, and_bif]
def busyB (t : Txn) (k : Int) (all : Bool) (x : Lock) : Bool := (decide (x.2.1 = k) && !decide (x.1 = t)) && (all || x.2.2.1)
theorem busy_is {s : Sto} (h : Short s) (t : Txn) (k : Int) (all : Bool) : r89 (s, t, k, all) = some (s.2.1.any (busyB t k all)) := by
  have := h.locks
  unfold r89
  rw [find_is (xs := s.2.1) (p := busyB t k all) (by omega) (fun i x hx => ?_) ?_]
  · simp only [Option.bind_some, idxOr_any]
  · unfold r89_L0
    simp only [at_len, cond_false]
  · obtain ⟨h1, h2, -⟩ := in_len hx
    unfold r89_L0 busyB
    simp only [h1, h2, cond_true, Option.bind_some, pair_dec, bif_some, and_bif, or_bif]
/-! ### where a key's item is -/
theorem cmp_is (a b : Int) : r121 (a, b) = some (if a < b then -1 else if b < a then 1 else 0) := by
  unfold r121 r131
  simp only [decide_true, Bool.not_true, Option.bind_some, cond_false]
  by_cases h : a < b
  · simp [h]
  · by_cases h2 : b < a <;> simp [h, h2]
def Sorted (l : List Item) : Prop := ∀ (i j : Nat) x y, i < j → l[i]? = some x → l[j]? = some y → x.1 < y.1
theorem mid_is {i j : Int} (h0 : 0 ≤ i) (h1 : i ≤ j) (h2 : j ≤ 1000000) : Go.IntKind.wrap .i64 (Int.fdiv (Go.IntKind.wrap .u64 (Go.IntKind.wrap .i64 (i + j))) (2 ^ 1)) = (i + j) / 2 := by
  have e1 : Go.IntKind.wrap .i64 (i + j) = i + j := wrap_i64 (by unfold i64; omega)
  have e2 : Go.IntKind.wrap .u64 (i + j) = i + j := by
    unfold IntKind.wrap
    simp [IntKind.signed, IntKind.bits]
    omega
  have e3 : Int.fdiv (i + j) (2 ^ 1) = (i + j) / 2 := by
    rw [Int.fdiv_eq_ediv_of_nonneg _ (by decide)]; rfl
  rw [e1, e2, e3, wrap_i64 (by unfold i64; omega)]
theorem at_is {l : List Item} (hs : Sorted l) (hl : l.length ≤ 1000000) (k : Int) : ∃ n : Nat, n ≤ l.length ∧ (∀ (m : Nat) x, m < n → l[m]? = some x → x.1 < k) ∧ (∀ (m : Nat) x, n ≤ m → l[m]? = some x → k ≤ x.1) ∧
    r91 (l, k) = some ((n : Int), match l[n]? with | some x => decide (x.1 = k) | none => false) := by
  obtain ⟨r, h1, n, h2, h3, h4, h5⟩ := loop_rule (body := r91_L0 (l, k)) (fun d => 0 ≤ d.1 ∧ d.1 ≤ d.2 ∧ d.2 ≤ l.length ∧ (∀ (m : Nat) x, (m : Int) < d.1 → l[m]? = some x → x.1 < k) ∧ ∀ (m : Nat) x, d.2 ≤ (m : Int) → l[m]? = some x → k ≤ x.1) (fun d => (d.2 - d.1).toNat)
    (fun r => ∃ n : Nat, r = n ∧ n ≤ l.length ∧ (∀ (m : Nat) x, m < n → l[m]? = some x → x.1 < k) ∧ ∀ (m : Nat) x, n ≤ m → l[m]? = some x → k ≤ x.1) (fun d hd => by
    obtain ⟨i, j⟩ := d
    obtain ⟨d0, d1, d2, d3, d4⟩ := hd
    simp only at d0 d1 d2 d3 d4
    unfold r91_L0
    simp only
    by_cases g : i < j
    · rw [mid_is d0 d1 (by omega), decide_eq_true g]
      generalize hmid : (i + j) / 2 = c
      have c0 : i ≤ c := by omega
      have c1 : c < j := by omega
      obtain ⟨x, e1, e2⟩ := idxI_is (xs := l) (n := c) (by omega) (by omega)
      have hw : Go.IntKind.wrap .i64 (c + 1) = c + 1 := wrap_i64 (by unfold i64; omega)
      simp only [cond_true, e1, Option.bind_some, cmp_is, hw]
      by_cases q : x.1 < k
      · simp only [q, if_true, decide_true, cond_true, show ((-1 : Int) < 0) from by decide]
        refine .inl ⟨_, rfl, ⟨by simp only; omega, by simp only; omega, d2, fun m y hm hy => ?_, d4⟩, by simp only; omega⟩
        simp only at hm
        by_cases e : (m : Int) = c
        · have : m = c.toNat := by omega
          rw [this, e2] at hy
          cases hy; exact q
        · have := hs m c.toNat y x (by omega) hy e2
          omega
      · have hnn : ¬ ((if x.1 < k then (-1 : Int) else if k < x.1 then 1 else 0) < 0) := by
          rw [if_neg q]; split <;> omega
        simp only [decide_eq_false hnn, cond_false]
        refine .inl ⟨_, rfl, ⟨d0, by simp only; omega, by simp only; omega, d3, fun m y hm hy => ?_⟩, by simp only; omega⟩
        simp only at hm
        by_cases e : (m : Int) = c
        · have : m = c.toNat := by omega
          rw [this, e2] at hy
          cases hy; omega
        · have := hs c.toNat m x y (by omega) e2 hy
          omega
    · rw [decide_eq_false g]
      have : i = j := by omega
      subst this
      refine .inr ⟨_, rfl, i.toNat, by omega, by omega, fun m y hm hy => d3 m y (by omega) hy, fun m y hm hy => d4 m y (by omega) hy⟩) (0, (l.length : Int)) ⟨by simp, by simp, by simp, fun m x hm => by simp only at hm; omega, fun m x hm hx => by
      have := (List.getElem?_eq_some_iff.mp hx).1
      simp only at hm
      omega⟩
  subst h2
  refine ⟨n, h3, h4, h5, ?_⟩
  unfold r91
  rw [h1]
  simp only [Option.bind_some]
  by_cases g : n < l.length
  · have e : l[n]? = some l[n] := List.getElem?_eq_getElem g
    obtain ⟨e1, e2, -⟩ := in_len e
    have h6 := h5 n _ (Nat.le_refl _) e
    rw [e]
    simp only [e1, e2, cond_true, Option.bind_some, cmp_is]
    congr 2
    rw [Bool.eq_iff_iff, decide_eq_true_eq, decide_eq_true_eq]
    rw [if_neg (by omega)]
    split <;> omega
  · have e : l[n]? = none := List.getElem?_eq_none (by omega)
    rw [e, decide_eq_false (by omega)]
    rfl
/-! ### what a store may be -/
structure StoreOk (s : Sto) : Prop where
  short : Short s
  sorted : Sorted s.1
  item : ∀ x ∈ s.1, 0 ≤ x.1 ∧ x.1 < 8 ∧ 0 ≤ x.2.1 ∧ x.2.1 ≤ 1073741824 ∧ 1 ≤ x.2.2 ∧ x.2.2 ≤ 1048576
  lock : ∀ x ∈ s.2.1, 0 ≤ x.2.1 ∧ x.2.1 < 8 ∧ 0 ≤ x.2.2.2.1 ∧ x.2.2.2.1 ≤ 1073741824 ∧ 0 ≤ x.2.2.2.2 ∧ x.2.2.2.2 ≤ 1048576 ∧ (x.2.2.1 = false → x.2.2.2.1 = 0 ∧ x.2.2.2.2 = 0)
  handed : ∀ x ∈ s.2.1, ∃ d ∈ s.2.2.1, d.1 = x.1
  alone : ∀ (i j : Nat) x y, i < j → s.2.1[i]? = some x → s.2.1[j]? = some y → x.2.1 = y.2.1 → x.1 ≠ y.1 ∧ x.2.2.1 = false ∧ y.2.2.1 = false
  room : s.2.1.length ≤ 24
  doubt : ∀ d ∈ s.2.2.1, txnB d.1 = true ∧ 0 ≤ d.2 ∧ d.2 ≤ 1048576 ∧ d.1 ∉ s.2.2.2
  why : ∀ d ∈ s.2.2.1, ∃ x ∈ s.2.1, x.1 = d.1
  once : ∀ (i j : Nat) x y, i < j → s.2.2.1[i]? = some x → s.2.2.1[j]? = some y → x.1 ≠ y.1
  over : ∀ t ∈ s.2.2.2, txnB t = true
  ends : s.2.2.2.Nodup
theorem okB_upto {i n : Nat} (h : i ≤ n) : okB none (some (i : Int)) none n = true := by
  unfold okB
  simp only
  rw [decide_eq_true (show (0 : Int) ≤ (i : Int) by omega), decide_eq_true (show (i : Int) ≤ (n : Int) by omega)]; rfl
theorem items_ok {s : Sto} (h : StoreOk s) : r78 s.1 = some true := by
  have hl := h.short.items
  unfold r78
  rw [all_loop (xs := s.1) (by omega) (fun i x hx => ?_) ?_]
  · rfl
  · unfold r78_L0
    simp only [at_len, cond_false]
  · obtain ⟨h1, h2, -⟩ := in_len hx
    obtain ⟨b1, b2, b3, b4, b5, b6⟩ := h.item x (List.mem_of_getElem? hx)
    unfold r78_L0
    simp only [h1, h2, cond_true, Option.bind_some, bif_some, or_bif]
    rw [decide_eq_false (by omega : ¬ x.1 < 0), decide_eq_false (by omega : ¬ (8 : Int) ≤ x.1), decide_eq_false (by omega : ¬ x.2.1 < 0), decide_eq_false (by omega : ¬ (1073741824 : Int) < x.2.1), decide_eq_false (by omega : ¬ x.2.2 < 1), decide_eq_false (by omega : ¬ (1048576 : Int) < x.2.2)]
    simp only [Bool.or_self, cond_false]
    by_cases g : i = 0
    · subst g
      simp only [show decide ((0 : Int) < ((0 : Nat) : Int)) = false from rfl, cond_false, Option.bind_some]
    · have hlt := (List.getElem?_eq_some_iff.mp hx).1
      have hw : Go.IntKind.wrap .i64 ((i : Int) - 1) = ((i - 1 : Nat) : Int) := by rw [wrap_i64 (by unfold i64; omega)]; omega
      have hp : s.1[i - 1]? = some (s.1[i - 1]'(by omega)) := List.getElem?_eq_getElem _
      obtain ⟨-, p2, -⟩ := in_len hp
      have hs := h.sorted (i - 1) i _ _ (by omega) hp hx
      simp only [decide_eq_true (show (0 : Int) < (i : Int) by omega), cond_true, hw, p2, Option.bind_some, decide_eq_false (show ¬ x.1 ≤ (s.1[i - 1]'(by omega)).1 by omega), cond_false]
theorem take_at {β : Type} {xs : List β} {i j : Nat} {y : β} (h : (xs.take i)[j]? = some y) : j < i ∧ xs[j]? = some y := by
  rw [List.getElem?_take] at h
  split at h
  · exact ⟨by assumption, h⟩
  · cases h
theorem doubts_ok {s : Sto} (h : StoreOk s) : r79 s = some true := by
  have hl := h.short.doubts
  have hlo := h.short.over
  have hlk := h.short.locks
  have hover : loopR (r79_L3 s) (0 : Int) = some (.inl ()) := by
    refine all_loop (xs := s.2.2.2) (by omega) (fun i x hx => ?_) ?_
    · obtain ⟨h1, h2, -⟩ := in_len hx
      have hlt := (List.getElem?_eq_some_iff.mp hx).1
      have hany : ((s.2.2.2.take i).any fun y => decide (x = y)) = false := by
        rw [List.any_eq_false]
        intro y hy
        rw [decide_eq_true_eq]
        intro e
        have hnd := h.ends
        rw [← List.take_append_drop i s.2.2.2, List.nodup_append] at hnd
        exact hnd.2.2 y hy x (List.mem_of_getElem? (i := 0) (by rw [List.getElem?_drop]; exact hx)) e.symm
      unfold r79_L3
      simp only [h1, h2, cond_true, Option.bind_some, txn_is, h.over x (List.mem_of_getElem? hx), Bool.not_true, Bool.not_false, okB_upto (Nat.le_of_lt hlt), Int.toNat_natCast, contains_is (show (s.2.2.2.take i).length ≤ 1000000 by rw [List.length_take]; omega), hany, cond_false]
    · unfold r79_L3
      simp only [at_len, cond_false]
  unfold r79
  rw [all_loop (xs := s.2.2.1) (by omega) (fun i d hd => ?_) ?_]
  · simp only [Option.bind_some, Sum.elim_inl, hover]
  · unfold r79_L2
    simp only [at_len, cond_false]
  · obtain ⟨h1, h2, -⟩ := in_len hd
    have hdm := List.mem_of_getElem? hd
    have hlt := (List.getElem?_eq_some_iff.mp hd).1
    obtain ⟨b1, b2, b3, b4⟩ := h.doubt d hdm
    have hno : (s.2.2.2.any fun y => decide (d.1 = y)) = false := by
      rw [List.any_eq_false]
      intro y hy
      rw [decide_eq_true_eq]
      intro e; rw [e] at b4; exact b4 hy
    have hfind : (Option.bind (loopR (r79_L0 s d) (0 : Int)) fun (q : (Unit ⊕ Int)) => Sum.elim (fun (_ : Unit) => some (-1 : Int)) (fun (v : Int) => some v) q) = some (idxOr (s.2.1.findIdx? fun x => decide (x.1 = d.1))) := by
      refine find_is (xs := s.2.1) (p := fun x => decide (x.1 = d.1)) (by omega) (fun i x hx => ?_) ?_
      · obtain ⟨g1, g2, -⟩ := in_len hx
        unfold r79_L0
        simp only [g1, g2, cond_true, Option.bind_some, pair_dec, bif_some]
      · unfold r79_L0
        simp only [at_len, cond_false]
    have hsome : decide (0 ≤ idxOr (s.2.1.findIdx? fun x => decide (x.1 = d.1))) = true := by
      rw [idxOr_any, List.any_eq_true]
      obtain ⟨x, g1, g2⟩ := h.why d hdm
      exact ⟨x, g1, by rw [decide_eq_true_eq]; exact g2⟩
    have honce : loopR (r79_L1 (i : Int) s d) (0 : Int) = some (.inl ()) := by
      refine all_loop (xs := s.2.2.1.take i) (by rw [List.length_take]; omega) (fun j y hy => ?_) ?_
      · obtain ⟨g1, g2, -⟩ := in_len hy
        obtain ⟨j1, j2⟩ := take_at hy
        have hne := h.once j i y d j1 j2 hd
        unfold r79_L1
        simp only [Int.toNat_natCast, g1, g2, cond_true, Option.bind_some, pair_dec, decide_eq_false hne, cond_false]
      · unfold r79_L1
        simp only [Int.toNat_natCast, at_len, cond_false]
    unfold r79_L2
    simp only [h1, h2, cond_true, Option.bind_some, txn_is, b1, Bool.not_true, Bool.not_false, decide_eq_false (show ¬ d.2 < 0 by omega), decide_eq_false (show ¬ (1048576 : Int) < d.2 by omega), contains_is hlo, hno, cond_false, hfind, hsome, okB_upto (Nat.le_of_lt hlt), honce, Sum.elim_inl]
theorem locks_ok {s : Sto} (h : StoreOk s) : r80 s = some true := by
  have hl := h.short.locks
  have hr := h.room
  unfold r80
  rw [all_loop (xs := s.2.1) (by omega) (fun i x hx => ?_) ?_]
  · simp only [Option.bind_some, Sum.elim_inl]
    rw [decide_eq_true (by omega)]
  · unfold r80_L1
    simp only [at_len, cond_false]
  · obtain ⟨h1, h2, -⟩ := in_len hx
    have hxm := List.mem_of_getElem? hx
    have hlt := (List.getElem?_eq_some_iff.mp hx).1
    obtain ⟨b1, b2, b3, b4, b5, b6, b7⟩ := h.lock x hxm
    have hd : (s.2.2.1.any fun d => decide (d.1 = x.1)) = true := by
      rw [List.any_eq_true]
      obtain ⟨d, g1, g2⟩ := h.handed x hxm
      exact ⟨d, g1, by rw [decide_eq_true_eq]; exact g2⟩
    have hz : (bif !(x.2.2.1) then some (!(decide ((Go.IntKind.wrap .i64 (x.2.2.2.1 + x.2.2.2.2)) = (0 : Int)))) else some false) = some false := by
      cases hw : x.2.2.1 with
      | true => rfl
      | false =>
        obtain ⟨z1, z2⟩ := b7 hw
        rw [z1, z2]; rfl
    have hal : loopR (r80_L0 (i : Int) s x) (0 : Int) = some (.inl ()) := by
      refine all_loop (xs := s.2.1.take i) (by rw [List.length_take]; omega) (fun j y hy => ?_) ?_
      · obtain ⟨g1, g2, -⟩ := in_len hy
        obtain ⟨j1, j2⟩ := take_at hy
        unfold r80_L0
        simp only [Int.toNat_natCast, g1, g2, cond_true, Option.bind_some, pair_dec]
        by_cases hk : y.2.1 = x.2.1
        · obtain ⟨a1, a2, a3⟩ := h.alone j i y x j1 j2 hx hk
          simp only [decide_eq_true hk, cond_true, decide_eq_false a1, Bool.not_false, a2, a3, Option.bind_some, cond_false]
        · simp only [decide_eq_false hk, cond_false, Option.bind_some]
      · unfold r80_L0
        simp only [Int.toNat_natCast, at_len, cond_false]
    unfold r80_L1
    simp only [h1, h2, cond_true, Option.bind_some, doubted_is h.short, hd, Bool.not_true, Bool.not_false, decide_eq_false (show ¬ x.2.1 < 0 by omega), decide_eq_false (show ¬ (8 : Int) ≤ x.2.1 by omega), decide_eq_false (show ¬ x.2.2.2.1 < 0 by omega), decide_eq_false (show ¬ (1073741824 : Int) < x.2.2.2.1 by omega), decide_eq_false (show ¬ x.2.2.2.2 < 0 by omega),
      decide_eq_false (show ¬ (1048576 : Int) < x.2.2.2.2 by omega), hz, cond_false, okB_upto (Nat.le_of_lt hlt), hal, Sum.elim_inl]
theorem storeCheck_is {s : Sto} (h : StoreOk s) : r47 s = some 0 := by
  unfold r47
  simp only [items_ok h, doubts_ok h, locks_ok h, Option.bind_some, Bool.not_true, Bool.not_false, cond_true, cond_false]
end Go.Hy
