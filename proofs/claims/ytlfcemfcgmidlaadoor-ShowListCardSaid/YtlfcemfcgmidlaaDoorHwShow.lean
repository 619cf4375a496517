/- What a console shows of a store: the law on lists. -/
import Derived.Test.YtlfcemfcgmidlaaDoorHwLaws
import Derived.Test.YtlfcemfcgmidlaaDoorHaWords
import Derived.Lib.ItoaLen
namespace Go.Hw
open Go.RowKit Go.Proofs Go.V Go.Lib

abbrev Lone : Int × (List (Int × Int) × Int) := (1, ([(0, 0)], 3))

theorem lone_check : r29 Lone = some 0 := by
  have h1 : r58 ((0 : Int), (0 : Int)) = some true := by decide
  have h0 : loopR (r29_L0 0 Lone (0, 0)) (0 : Int) = some (.inl ()) := by
    rw [loopR_go]
    have : r29_L0 0 Lone (0, 0) (0 : Int) = some (.inr (.inl ())) := rfl
    rw [this, goL_inr]
  have s0 : r29_L1 Lone (0 : Int) = some (.inl (1 : Int)) := by
    unfold r29_L1
    have e : idxI Lone.2.1 (0 : Int) = some (0, 0) := rfl
    have k : okB none (some (0 : Int)) none Lone.2.1.length = true := rfl
    simp only [e, Option.bind_some, h1, Bool.not_true, cond_false, k, cond_true, h0, Sum.elim_inl]
    rfl
  have s1 : r29_L1 Lone (1 : Int) = some (.inr (.inl ())) := rfl
  have hl : loopR (r29_L1 Lone) (0 : Int) = some (.inl ()) := by
    rw [loopR_go, s0, goL_inl, loopR_go, s1, goL_inr]
  unfold r29
  rw [hl]
  rfl

theorem itoa_is {n : Int} (h0 : 0 ≤ n) (h1 : n ≤ 1000000000) : r82 n = some (itoa n) ∧ (itoa n).length ≤ 21 ∧ (itoa n).count 10 = 0 := by
  obtain ⟨u, rfl⟩ : ∃ u : Nat, n = (u : Int) := ⟨n.toNat, by omega⟩
  have h2 : -9223372036854775808 ≤ (u : Int) := by omega
  have h3 : (u : Int) ≤ 9223372036854775807 := by omega
  refine ⟨?_, itoa_length_le _ h2 h3, ?_⟩
  · show itoaR _ = _
    unfold itoaR
    rw [decide_eq_true h2, decide_eq_true h3]; rfl
  · rw [itoa_nat]; exact List.count_eq_zero.2 (dec_no (by decide))

theorem wstr {bs s : Txt} (h : bs.length + s.length ≤ 1000000000) : r52 (bs, s) = some ((s.length : Int), (true, bs ++ s)) := by
  show (wrS (bs, s)).map _ = _
  unfold wrS
  rw [roomOk_true (by simp only; omega)]; rfl

/-- What a transaction's line is. -/
def lineD (d : Doubt) : Txt := (((((itoa 0 ++ [32]) ++ itoa d.1.1) ++ [32]) ++ itoa d.1.2) ++ [32]) ++ itoa d.2 ++ [10]
def prepB (s : Sto) (d : Doubt) : Bool := decide ((0 : Int) < (s.2.1.countP (wrote d.1) : Int))
def listT (s : Sto) (l : List Doubt) : Txt := l.flatMap fun d => bif prepB s d then lineD d else []

structure DoubtNum (d : Doubt) : Prop where
  a : 0 ≤ d.1.1
  a' : d.1.1 ≤ 1000000000
  b : 0 ≤ d.1.2
  b' : d.1.2 ≤ 1000000000
  c : 0 ≤ d.2
  c' : d.2 ≤ 1000000000

theorem doubt_num {s : Sto} (h : StoreOk s) {d : Doubt} (hd : d ∈ s.2.2.1) : DoubtNum d := by
  obtain ⟨h1, h2, h3, -⟩ := h.doubt d hd
  unfold txnB at h1
  simp only [Bool.and_eq_true, decide_eq_true_eq] at h1
  constructor <;> omega

theorem lineD_len {d : Doubt} (h : DoubtNum d) : (lineD d).length ≤ 100 := by
  have := (itoa_is (n := 0) (by omega) (by omega)).2.1; have := (itoa_is h.a h.a').2.1; have := (itoa_is h.b h.b').2.1; have := (itoa_is h.c h.c').2.1
  unfold lineD
  simp only [List.length_append, List.length_cons, List.length_nil]
  omega

theorem lineD_count {d : Doubt} (h : DoubtNum d) : (lineD d).count 10 = 1 := by
  have q0 := (itoa_is (n := 0) (by omega) (by omega)).2.2; have q1 := (itoa_is h.a h.a').2.2; have q2 := (itoa_is h.b h.b').2.2; have q3 := (itoa_is h.c h.c').2.2
  unfold lineD
  simp only [List.count_append, q0, q1, q2, q3]
  decide

theorem prepared_is {s : Sto} (h : StoreOk s) {d : Doubt} (hd : d ∈ s.2.2.1) : r51 (s, d.1) = some (prepB s d) := by
  unfold r51
  rw [writes_is h (h.doubt d hd).1]
  simp only [Option.bind_some, decide_true, cond_true]
  rfl

theorem list_step {s : Sto} (h : StoreOk s) {i : Nat} {d : Doubt} (hd : s.2.2.1[i]? = some d) (hi : i < 100000) {bs : Txt} (hb : bs.length ≤ 10000000) :
    r49_L0 (([] : Txt), ((0 : Int), s)) ((), ((i : Int), bs)) = some (.inl ((), (((i + 1 : Nat) : Int), bs ++ (bif prepB s d then lineD d else [])))) := by
  have hlt : i < s.2.2.1.length := (List.getElem?_eq_some_iff.mp hd).1
  have hm := List.mem_of_getElem? hd
  have hn := doubt_num h hm
  have e0 : idxI s.2.2.1 (i : Int) = some d := by rw [idxI_nn]; exact hd
  have hw : Go.IntKind.wrap .i64 ((i : Int) + 1) = ((i + 1 : Nat) : Int) := by rw [wrap_i64 (by unfold i64; omega)]; omega
  obtain ⟨z1, z2, -⟩ := itoa_is (n := 0) (by omega) (by omega)
  obtain ⟨a1, a2, -⟩ := itoa_is hn.a hn.a'
  obtain ⟨b1, b2, -⟩ := itoa_is hn.b hn.b'
  obtain ⟨c1, c2, -⟩ := itoa_is hn.c hn.c'
  have ok : ∀ {l m : Txt}, l.length ≤ 1000 → m.length ≤ 1000 → decide (l.length + m.length ≤ 9223372036854775807) = true := fun p q => decide_eq_true (by omega)
  have k1 := ok (l := itoa 0) (m := [32]) (by omega) (by decide)
  have k2 := ok (l := itoa 0 ++ [32]) (m := itoa d.1.1) (by simp only [List.length_append, List.length_cons, List.length_nil]; omega) (by omega)
  have k3 := ok (l := (itoa 0 ++ [32]) ++ itoa d.1.1) (m := [32]) (by simp only [List.length_append, List.length_cons, List.length_nil]; omega) (by decide)
  have k4 := ok (l := ((itoa 0 ++ [32]) ++ itoa d.1.1) ++ [32]) (m := itoa d.1.2) (by simp only [List.length_append, List.length_cons, List.length_nil]; omega) (by omega)
  have k5 := ok (l := (((itoa 0 ++ [32]) ++ itoa d.1.1) ++ [32]) ++ itoa d.1.2) (m := [32]) (by simp only [List.length_append, List.length_cons, List.length_nil]; omega) (by decide)
  have k6 := ok (l := ((((itoa 0 ++ [32]) ++ itoa d.1.1) ++ [32]) ++ itoa d.1.2) ++ [32]) (m := itoa d.2) (by simp only [List.length_append, List.length_cons, List.length_nil]; omega) (by omega)
  have k7 := ok (l := (((((itoa 0 ++ [32]) ++ itoa d.1.1) ++ [32]) ++ itoa d.1.2) ++ [32]) ++ itoa d.2) (m := [10]) (by simp only [List.length_append, List.length_cons, List.length_nil]; omega) (by decide)
  have hwords : r81 ((0 : Int), d.1) = some ((((itoa 0 ++ [32]) ++ itoa d.1.1) ++ [32]) ++ itoa d.1.2) := by
    unfold r81
    simp only [z1, a1, b1, Option.bind_some, k1, k2, k3, k4, cond_true]
  have hwr := wstr (bs := bs) (s := lineD d) (by have := lineD_len hn; omega)
  unfold lineD at hwr
  unfold r49_L0
  simp only [bif_t (decide_eq_true (show (i : Int) < (s.2.2.1.length : Int) by omega)), e0, Option.bind_some, prepared_is h hm, hw]
  cases prepB s d with
  | false => simp only [cond_false, Option.bind_some, List.append_nil]
  | true => simp only [cond_true, hwords, Option.bind_some, k5, c1, k6, k7, hwr]; rfl

theorem list_loop {s : Sto} (h : StoreOk s) (hl : s.2.2.1.length ≤ 1000) : ∀ (n i : Nat) (bs : Txt), i + n = s.2.2.1.length → bs.length ≤ 100 * i →
    loopR (r49_L0 (([] : Txt), ((0 : Int), s))) ((), ((i : Int), bs)) = some ((), bs ++ listT s (s.2.2.1.drop i)) := by
  intro n
  induction n with
  | zero =>
    intro i bs hi hb
    rw [loopR_go]
    unfold r49_L0
    rw [bif_f (decide_eq_false (by simp only; omega)), goL_inr, List.drop_of_length_le (by omega)]
    simp [listT]
  | succ n ih =>
    intro i bs hi hb
    obtain ⟨d, e1, e2⟩ := idxN_is (xs := s.2.2.1) (n := i) (by omega)
    have hn := lineD_len (doubt_num h (List.mem_of_getElem? e2))
    have hd : s.2.2.1.drop i = d :: s.2.2.1.drop (i + 1) := by
      obtain ⟨p1, p2⟩ := List.getElem?_eq_some_iff.mp e2
      rw [List.drop_eq_getElem_cons p1, p2]
    rw [loopR_go, list_step h e2 (by omega) (by omega), goL_inl, ih (i + 1) _ (by omega) (by
      rw [List.length_append]
      cases prepB s d with
      | true => simp only [cond_true]; omega
      | false => simp only [cond_false, List.length_nil]; omega), hd]
    simp [listT]

theorem listT_count {s : Sto} : ∀ (l : List Doubt), (∀ d ∈ l, DoubtNum d) → (listT s l).count 10 = l.countP (prepB s) ∧ (listT s l).length ≤ 100 * l.length
  | [], _ => by simp [listT]
  | d :: l, h => by
    obtain ⟨h1, h2⟩ := listT_count l fun x hx => h x (List.mem_cons_of_mem _ hx)
    have hd := h d List.mem_cons_self
    have c := lineD_count hd
    have e := lineD_len hd
    unfold listT at h1 h2 ⊢
    rw [List.flatMap_cons, List.count_append, List.countP_cons, h1, List.length_append, List.length_cons]
    cases hp : prepB s d with
    | true => simp only [cond_true, if_true, c]; omega
    | false => simp only [cond_false, List.count_nil, List.length_nil, Bool.false_eq_true, if_false]; omega

/-- What every showing begins with. -/
theorem stores_loop {s : Sto} (h : StoreOk s) {x} : loopR (r24_L0 (Lone, ((0 : Int), ([s], ([[]], x))))) (0 : Int) = some (.inl ()) := by
  have s0 : r24_L0 (Lone, ((0 : Int), ([s], ([[]], x)))) (0 : Int) = some (.inl (1 : Int)) := by
    unfold r24_L0
    have e : idxI [s] (0 : Int) = some s := rfl
    simp only [e, Option.bind_some, storeCheck_is h, decide_true, Bool.not_true, cond_false]
    rfl
  have s1 : r24_L0 (Lone, ((0 : Int), ([s], ([[]], x)))) (1 : Int) = some (.inr (.inl ())) := rfl
  rw [loopR_go, s0, goL_inl, loopR_go, s1, goL_inr]
theorem notes_loop {s : Sto} {x} : loopR (r24_L2 (Lone, ((0 : Int), ([s], ([[]], x))))) (0 : Int) = some (.inl ()) := by
  have i0 : loopR (r24_L1 []) (0 : Int) = some (.inl ()) := by
    have : r24_L1 [] (0 : Int) = some (.inr (.inl ())) := rfl
    rw [loopR_go, this, goL_inr]
  have s0 : r24_L2 (Lone, ((0 : Int), ([s], ([[]], x)))) (0 : Int) = some (.inl (1 : Int)) := by
    unfold r24_L2
    have e : idxI ([[]] : List (List (Txn × (Bool × Bool)))) (0 : Int) = some [] := rfl
    simp only [e, Option.bind_some, i0, Sum.elim_inl]
    rfl
  have s1 : r24_L2 (Lone, ((0 : Int), ([s], ([[]], x)))) (1 : Int) = some (.inr (.inl ())) := rfl
  rw [loopR_go, s0, goL_inl, loopR_go, s1, goL_inr]

theorem above_zero : r48 (((0 : Int), (0 : Int)), ((0 : Int), (0 : Int))) = some true := by decide

theorem show_list {s : Sto} (h : StoreOk s) (hl : s.2.2.1.length ≤ 1000) : r24 (Lone, ((0 : Int), ([s], ([[]], ((1 : Int), ((0 : Int), (((0 : Int), (0 : Int)), false))))))) = some (listT s s.2.2.1, 0) := by
  have hl0 := list_loop h hl s.2.2.1.length 0 [] (by omega) (by simp)
  have hlist : r49 (([] : Txt), ((0 : Int), s)) = some (listT s s.2.2.1) := by
    unfold r49
    have h' : loopR (r49_L0 (([] : Txt), ((0 : Int), s))) ((), ((0 : Int), ([] : Txt))) = some ((), listT s s.2.2.1) := hl0
    rw [h']; rfl
  have s0 : r24_L3 (Lone, ((0 : Int), ([s], ([[]], ((1 : Int), ((0 : Int), (((0 : Int), (0 : Int)), false))))))) ((), ((0 : Int), ([] : Txt))) = some (.inl ((), ((1 : Int), listT s s.2.2.1))) := by
    unfold r24_L3
    have e : idxI Lone.2.1 (0 : Int) = some (0, 0) := rfl
    have e' : idxI [s] (0 : Int) = some s := rfl
    have hd : decide ((0 : Int) < ((Lone.2.1.length : Nat) : Int)) = true := rfl
    simp only [hd, e, e', Option.bind_some, above_zero, Bool.not_true, cond_false, cond_true, decide_true, hlist]
    rfl
  have s1 : r24_L3 (Lone, ((0 : Int), ([s], ([[]], ((1 : Int), ((0 : Int), (((0 : Int), (0 : Int)), false))))))) ((), ((1 : Int), listT s s.2.2.1)) = some (.inr ((), listT s s.2.2.1)) := rfl
  have hloop : loopR (r24_L3 (Lone, ((0 : Int), ([s], ([[]], ((1 : Int), ((0 : Int), (((0 : Int), (0 : Int)), false)))))))) ((), ((0 : Int), ([] : Txt))) = some ((), listT s s.2.2.1) := by
    rw [loopR_go, s0, goL_inl, loopR_go, s1, goL_inr]
  have d2 : (bif !(decide ((0 : Int) < (0 : Int))) then some (decide ((↑Lone.2.1.length : Int) ≤ (0 : Int))) else some true) = some false := rfl
  have d3 : (bif !(!(decide ((([s].length : Nat) : Int) = ((Lone.2.1.length : Nat) : Int)))) then some (!(decide (((([[]] : List (List (Txn × (Bool × Bool)))).length : Nat) : Int) = ((Lone.2.1.length : Nat) : Int)))) else some true) = some false := rfl
  unfold r24
  simp only [lone_check, Option.bind_some, decide_true, Bool.not_true, cond_false, cond_true, d2, d3, stores_loop h, notes_loop, Sum.elim_inl, hloop]
  rfl

theorem show_status {s : Sto} (h : StoreOk s) {d : Doubt} (hd : d ∈ s.2.2.1) : r24 (Lone, ((0 : Int), ([s], ([[]], ((2 : Int), ((0 : Int), (d.1, false))))))) = some (bif prepB s d then [112, 114, 101, 112, 97, 114, 101, 100, 10] else [117, 110, 107, 110, 111, 119, 110, 10], 0) := by
  have d2 : (bif !(decide ((0 : Int) < (0 : Int))) then some (decide ((↑Lone.2.1.length : Int) ≤ (0 : Int))) else some true) = some false := rfl
  have d3 : (bif !(!(decide ((([s].length : Nat) : Int) = ((Lone.2.1.length : Nat) : Int)))) then some (!(decide (((([[]] : List (List (Txn × (Bool × Bool)))).length : Nat) : Int) = ((Lone.2.1.length : Nat) : Int)))) else some true) = some false := rfl
  have e : idxI Lone.2.1 (0 : Int) = some (0, 0) := rfl
  have e' : idxI [s] (0 : Int) = some s := rfl
  have hd0 : decide ((0 : Int) < ((Lone.2.1.length : Nat) : Int)) = true := rfl
  have w1 := wstr (bs := []) (s := [112, 114, 101, 112, 97, 114, 101, 100, 10]) (by decide)
  have w2 := wstr (bs := []) (s := [117, 110, 107, 110, 111, 119, 110, 10]) (by decide)
  have hle : decide ((0 : Int) ≤ 0) = true := rfl
  unfold r24
  simp only [lone_check, Option.bind_some, decide_true, Bool.not_true, cond_false, cond_true, d2, d3, stores_loop h, notes_loop, Sum.elim_inl, Int.reduceEq, decide_false, hle, hd0, e, e', above_zero, prepared_is h hd, w1, w2]
  cases prepB s d <;> rfl

theorem show_force {s : Sto} (h : StoreOk s) : r24 (Lone, ((0 : Int), ([s], ([[]], ((3 : Int), ((0 : Int), (((0 : Int), (0 : Int)), false))))))) = some ([], 3) := by
  have d2 : (bif !(decide ((0 : Int) < (0 : Int))) then some (decide ((↑Lone.2.1.length : Int) ≤ (0 : Int))) else some true) = some false := rfl
  have d3 : (bif !(!(decide ((([s].length : Nat) : Int) = ((Lone.2.1.length : Nat) : Int)))) then some (!(decide (((([[]] : List (List (Txn × (Bool × Bool)))).length : Nat) : Int) = ((Lone.2.1.length : Nat) : Int)))) else some true) = some false := rfl
  unfold r24
  simp only [lone_check, Option.bind_some, decide_true, Bool.not_true, cond_false, d2, d3, stores_loop h, notes_loop, Sum.elim_inl, Sum.elim_inr, Int.reduceEq, decide_false]

theorem count_loop {s : Sto} (h : StoreOk s) (hl : s.2.2.1.length ≤ 1000) : ∀ (n i : Nat) (k : Nat), i + n = s.2.2.1.length → k ≤ i →
    loopR (r12_L0 s Lone) ((k : Int), (i : Int)) = some (.inl ((k + (s.2.2.1.drop i).countP (prepB s) : Nat) : Int)) := by
  intro n
  induction n with
  | zero =>
    intro i k hi hk
    rw [loopR_go]
    unfold r12_L0
    rw [bif_f (decide_eq_false (by simp only; omega)), goL_inr, List.drop_of_length_le (by omega)]
    simp
  | succ n ih =>
    intro i k hi hk
    obtain ⟨d, e1, e2⟩ := idxN_is (xs := s.2.2.1) (n := i) (by omega)
    have hm := List.mem_of_getElem? e2
    have e0 : idxI s.2.2.1 (i : Int) = some d := by rw [idxI_nn]; exact e2
    have hw : Go.IntKind.wrap .i64 ((i : Int) + 1) = ((i + 1 : Nat) : Int) := by rw [wrap_i64 (by unfold i64; omega)]; omega
    have hw2 : Go.IntKind.wrap .i64 ((k : Int) + 1) = ((k + 1 : Nat) : Int) := by rw [wrap_i64 (by unfold i64; omega)]; omega
    have hd : s.2.2.1.drop i = d :: s.2.2.1.drop (i + 1) := by
      obtain ⟨p1, p2⟩ := List.getElem?_eq_some_iff.mp e2
      rw [List.drop_eq_getElem_cons p1, p2]
    have hstep : r12_L0 s Lone ((k : Int), (i : Int)) = some (.inl (((k + (if prepB s d = true then 1 else 0) : Nat) : Int), ((i + 1 : Nat) : Int))) := by
      unfold r12_L0
      simp only [bif_t (decide_eq_true (show (i : Int) < (s.2.2.1.length : Int) by omega)), e0, Option.bind_some, writes_is h (h.doubt d hm).1, decide_true, Bool.not_true, cond_false, show_status h hm, Bool.not_false, cond_true, hw, hw2]
      have hp : decide ((0 : Int) < (s.2.1.countP (wrote d.1) : Int)) = prepB s d := rfl
      simp only [hp]
      cases prepB s d <;> simp
    rw [loopR_go, hstep, goL_inl, ih (i + 1) _ (by omega) (by split <;> omega), hd, List.countP_cons]
    congr 3
    omega

theorem down_loop {t : Txt × Int} (hl : t.1.length ≤ 1000000) : ∀ (n i : Nat) (k : Int), i + n = t.1.length → -1000000 ≤ k → k ≤ 1000000 → (((t.1.drop i).count 10 : Nat) : Int) - 2000000 ≤ k - 1000000 + 1000000 →
    -1000000 ≤ k - ((t.1.drop i).count 10 : Nat) → loopR (r12_L1 t) (k, (i : Int)) = some (k - ((t.1.drop i).count 10 : Nat)) := by
  intro n
  induction n with
  | zero =>
    intro i k hi _ _ _ _
    rw [loopR_go]
    unfold r12_L1
    rw [bif_f (decide_eq_false (by simp only; omega)), goL_inr, List.drop_of_length_le (by omega)]
    simp
  | succ n ih =>
    intro i k hi k0 k1 k2 k3
    obtain ⟨b, e1, e2⟩ := idxN_is (xs := t.1) (n := i) (by omega)
    have e0 : idxI t.1 (i : Int) = some b := by rw [idxI_nn]; exact e2
    have hw : Go.IntKind.wrap .i64 ((i : Int) + 1) = ((i + 1 : Nat) : Int) := by rw [wrap_i64 (by unfold i64; omega)]; omega
    have hw2 : Go.IntKind.wrap .i64 (k - 1) = k - 1 := wrap_i64 (by unfold i64; omega)
    have hd : t.1.drop i = b :: t.1.drop (i + 1) := by
      obtain ⟨p1, p2⟩ := List.getElem?_eq_some_iff.mp e2
      rw [List.drop_eq_getElem_cons p1, p2]
    rw [hd] at k2 k3
    by_cases c : b = 10
    · subst c
      rw [List.count_cons_self] at k2 k3
      have hs : r12_L1 t (k, (i : Int)) = some (.inl (k - 1, ((i + 1 : Nat) : Int))) := by
        unfold r12_L1
        have h10 : decide ((↑(UInt8.toNat 10) : Int) = 10) = true := by decide
        simp only [bif_t (decide_eq_true (show (i : Int) < (t.1.length : Int) by omega)), e0, Option.bind_some, h10, cond_true, hw, hw2]
      rw [loopR_go, hs, goL_inl, ih (i + 1) _ (by omega) (by omega) (by omega) (by omega) (by omega), hd, List.count_cons_self]
      congr 1; omega
    · rw [List.count_cons_of_ne c] at k2 k3
      have hs : r12_L1 t (k, (i : Int)) = some (.inl (k, ((i + 1 : Nat) : Int))) := by
        unfold r12_L1
        have h10 : decide ((↑(UInt8.toNat b) : Int) = 10) = false := decide_eq_false (fun e => c (UInt8.toNat_inj.1 (by have h : b.toNat = 10 := (by omega); exact h)))
        simp only [bif_t (decide_eq_true (show (i : Int) < (t.1.length : Int) by omega)), e0, Option.bind_some, h10, cond_false, hw]
      rw [loopR_go, hs, goL_inl, ih (i + 1) _ (by omega) (by omega) (by omega) (by omega) (by omega), hd, List.count_cons_of_ne c]

theorem showList {l : List Raw} (hl : l.length ≤ 9223372036854775807) (hr : ∀ r ∈ l, rawOk r) : r12 l = some true := by
  obtain ⟨s, e1, hm⟩ := store_is hl hr (m := 25) (by omega)
  have h := hm.ok
  have hdl := hm.doubts
  have e1' : r25 (l, (25 : Int)) = some s := e1
  obtain ⟨c1, c2⟩ := listT_count (s := s) s.2.2.1 fun d hd => doubt_num h hd
  have hcl := List.countP_le_length (p := prepB s) (l := s.2.2.1)
  have l0 := count_loop h (by omega) s.2.2.1.length 0 0 (by omega) (by omega)
  have l0' : loopR (r12_L0 s Lone) ((0 : Int), (0 : Int)) = some (.inl ((s.2.2.1.countP (prepB s) : Nat) : Int)) := by
    have := l0; simpa using this
  have l1 := down_loop (t := (listT s s.2.2.1, 0)) (by simp only; omega) (listT s s.2.2.1).length 0 ((s.2.2.1.countP (prepB s) : Nat) : Int) (by simp) (by omega) (by omega) (by simp only [List.drop_zero]; omega) (by simp only [List.drop_zero]; omega)
  have l1' : loopR (r12_L1 (listT s s.2.2.1, 0)) (((s.2.2.1.countP (prepB s) : Nat) : Int), (0 : Int)) = some 0 := by
    refine Eq.trans l1 ?_
    simp only [List.drop_zero, c1]
    congr 1; omega
  have hlone : r26 () = some Lone := rfl
  unfold r12
  simp only [hlone, e1', Option.bind_some, show_list h (by omega), l0', Sum.elim_inl, l1', show_force h, decide_true, cond_true]

end Go.Hw
