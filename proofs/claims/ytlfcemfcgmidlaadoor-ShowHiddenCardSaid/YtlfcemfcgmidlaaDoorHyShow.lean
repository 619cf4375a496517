/- Of what is not dominated nothing is told. -/
import Derived.Test.YtlfcemfcgmidlaaDoorHyLaws
import Derived.Test.YtlfcemfcgmidlaaDoorHaWords
import Derived.Lib.ItoaLen
namespace Go.Hy
open Go.RowKit Go.Proofs Go.V Go.Lib
theorem itoa_is {n : Int} (h0 : 0 ≤ n) (h1 : n ≤ 1000000000) : r82 n = some (itoa n) ∧ (itoa n).length ≤ 21 ∧ (itoa n).count 10 = 0 := by
  obtain ⟨u, rfl⟩ : ∃ u : Nat, n = (u : Int) := ⟨n.toNat, by omega⟩
  have h2 : -9223372036854775808 ≤ (u : Int) := by omega
  have h3 : (u : Int) ≤ 9223372036854775807 := by omega
  refine ⟨?_, itoa_length_le _ h2 h3, ?_⟩
  · show itoaR _ = _
    unfold itoaR
    rw [decide_eq_true h2, decide_eq_true h3]; rfl
  · rw [itoa_nat]; exact List.count_eq_zero.2 (dec_no (by decide))
theorem wstr {bs s : Txt} (h : bs.length + s.length ≤ 1000000000) : r52 (bs, s) = some ((s.length : Int), (true, bs ++ s)) := by
  show (wrS (bs, s)).map _ = _
  unfold wrS
  rw [roomOk_true (by simp only; omega)]; rfl
/-- What a transaction's line is. -/
def lineD (d : Doubt) : Txt := (((((itoa 0 ++ [32]) ++ itoa d.1.1) ++ [32]) ++ itoa d.1.2) ++ [32]) ++ itoa d.2 ++ [10]
def prepB (s : Sto) (d : Doubt) : Bool := decide ((0 : Int) < (s.2.1.countP (wrote d.1) : Int))
def listT (s : Sto) (l : List Doubt) : Txt := l.flatMap fun d => bif prepB s d then lineD d else []
structure DoubtNum (d : Doubt) : Prop where
  a : 0 ≤ d.1.1
  a' : d.1.1 ≤ 1000000000
  b : 0 ≤ d.1.2
  b' : d.1.2 ≤ 1000000000
  c : 0 ≤ d.2
  c' : d.2 ≤ 1000000000
theorem doubt_num {s : Sto} (h : StoreOk s) {d : Doubt} (hd : d ∈ s.2.2.1) : DoubtNum d := by
  obtain ⟨h1, h2, h3, -⟩ := h.doubt d hd
  unfold txnB at h1
  simp only [Bool.and_eq_true, decide_eq_true_eq] at h1
  constructor <;> omega
theorem lineD_len {d : Doubt} (h : DoubtNum d) : (lineD d).length ≤ 100 := by
  have := (itoa_is (n := 0) (by omega) (by omega)).2.1; have := (itoa_is h.a h.a').2.1; have := (itoa_is h.b h.b').2.1; have := (itoa_is h.c h.c').2.1
  unfold lineD
  simp only [List.length_append, List.length_cons, List.length_nil]
  omega
theorem prepared_any {s : Sto} (h : StoreOk s) {t : Txn} (ht : txnB t = true) : r51 (s, t) = some (prepB s (t, 0)) := by
  unfold r51
  rw [writes_is h ht]
  simp only [Option.bind_some, decide_true, cond_true]
  rfl
theorem prepared_is {s : Sto} (h : StoreOk s) {d : Doubt} (hd : d ∈ s.2.2.1) : r51 (s, d.1) = some (prepB s d) := by
  unfold r51
  rw [writes_is h (h.doubt d hd).1]
  simp only [Option.bind_some, decide_true, cond_true]
  rfl
theorem list_step {s : Sto} (h : StoreOk s) {i : Nat} {d : Doubt} (hd : s.2.2.1[i]? = some d) (hi : i < 100000) {bs : Txt} (hb : bs.length ≤ 10000000) :
    r49_L0 (([] : Txt), ((0 : Int), s)) ((), ((i : Int), bs)) = some (.inl ((), (((i + 1 : Nat) : Int), bs ++ (bif prepB s d then lineD d else [])))) := by
  have hlt : i < s.2.2.1.length := (List.getElem?_eq_some_iff.mp hd).1
  have hm := List.mem_of_getElem? hd
  have hn := doubt_num h hm
  have e0 : idxI s.2.2.1 (i : Int) = some d := by rw [idxI_nn]; exact hd
  have hw : Go.IntKind.wrap .i64 ((i : Int) + 1) = ((i + 1 : Nat) : Int) := by rw [wrap_i64 (by unfold i64; omega)]; omega
  obtain ⟨z1, z2, -⟩ := itoa_is (n := 0) (by omega) (by omega)
  obtain ⟨a1, a2, -⟩ := itoa_is hn.a hn.a'
  obtain ⟨b1, b2, -⟩ := itoa_is hn.b hn.b'
  obtain ⟨c1, c2, -⟩ := itoa_is hn.c hn.c'
  have ok : ∀ {l m : Txt}, l.length ≤ 1000 → m.length ≤ 1000 → decide (l.length + m.length ≤ 9223372036854775807) = true := fun p q => decide_eq_true (by omega)
  have k1 := ok (l := itoa 0) (m := [32]) (by omega) (by decide)
  have k2 := ok (l := itoa 0 ++ [32]) (m := itoa d.1.1) (by simp only [List.length_append, List.length_cons, List.length_nil]; omega) (by omega)
  have k3 := ok (l := (itoa 0 ++ [32]) ++ itoa d.1.1) (m := [32]) (by simp only [List.length_append, List.length_cons, List.length_nil]; omega) (by decide)
  have k4 := ok (l := ((itoa 0 ++ [32]) ++ itoa d.1.1) ++ [32]) (m := itoa d.1.2) (by simp only [List.length_append, List.length_cons, List.length_nil]; omega) (by omega)
  have k5 := ok (l := (((itoa 0 ++ [32]) ++ itoa d.1.1) ++ [32]) ++ itoa d.1.2) (m := [32]) (by simp only [List.length_append, List.length_cons, List.length_nil]; omega) (by decide)
  have k6 := ok (l := ((((itoa 0 ++ [32]) ++ itoa d.1.1) ++ [32]) ++ itoa d.1.2) ++ [32]) (m := itoa d.2) (by simp only [List.length_append, List.length_cons, List.length_nil]; omega) (by omega)
  have k7 := ok (l := (((((itoa 0 ++ [32]) ++ itoa d.1.1) ++ [32]) ++ itoa d.1.2) ++ [32]) ++ itoa d.2) (m := [10]) (by simp only [List.length_append, List.length_cons, List.length_nil]; omega) (by decide)
  have hwords : r81 ((0 : Int), d.1) = some ((((itoa 0 ++ [32]) ++ itoa d.1.1) ++ [32]) ++ itoa d.1.2) := by
    unfold r81
    simp only [z1, a1, b1, Option.bind_some, k1, k2, k3, k4, cond_true]
  have hwr := wstr (bs := bs) (s := lineD d) (by have := lineD_len hn; omega)
  unfold lineD at hwr
  unfold r49_L0
  simp only [bif_t (decide_eq_true (show (i : Int) < (s.2.2.1.length : Int) by omega)), e0, Option.bind_some, prepared_is h hm, hw]
  cases prepB s d with
  | false => simp only [cond_false, Option.bind_some, List.append_nil]
  | true => simp only [cond_true, hwords, Option.bind_some, k5, c1, k6, k7, hwr]; rfl
theorem list_loop {s : Sto} (h : StoreOk s) (hl : s.2.2.1.length ≤ 1000) : ∀ (n i : Nat) (bs : Txt), i + n = s.2.2.1.length → bs.length ≤ 100 * i →
    loopR (r49_L0 (([] : Txt), ((0 : Int), s))) ((), ((i : Int), bs)) = some ((), bs ++ listT s (s.2.2.1.drop i)) := by
  intro n
  induction n with
  | zero =>
    intro i bs hi hb
    rw [loopR_go]
    unfold r49_L0
    rw [bif_f (decide_eq_false (by simp only; omega)), goL_inr, List.drop_of_length_le (by omega)]
    simp [listT]
  | succ n ih =>
    intro i bs hi hb
    obtain ⟨d, e1, e2⟩ := idxN_is (xs := s.2.2.1) (n := i) (by omega)
    have hn := lineD_len (doubt_num h (List.mem_of_getElem? e2))
    have hd : s.2.2.1.drop i = d :: s.2.2.1.drop (i + 1) := by
      obtain ⟨p1, p2⟩ := List.getElem?_eq_some_iff.mp e2
      rw [List.drop_eq_getElem_cons p1, p2]
    rw [loopR_go, list_step h e2 (by omega) (by omega), goL_inl, ih (i + 1) _ (by omega) (by
      rw [List.length_append]
      cases prepB s d with
      | true => simp only [cond_true]; omega
      | false => simp only [cond_false, List.length_nil]; omega), hd]
    simp [listT]
theorem store_zero : StoreOk (([], ([], ([], []))) : Sto) := by
  exact ⟨⟨by simp, by simp, by simp, by simp⟩, fun i j x y _ h => by simp at h, by simp, by simp, by simp, fun i j x y _ h => by simp at h, by simp, by simp, by simp, fun i j x y _ h => by simp at h, by simp, List.nodup_nil⟩
abbrev Two : Int × (List (Int × Int) × Int) := (1, ([(0, 0), (1, 0)], 3))
theorem two_zero : r13 (0 : Int) = some Two := rfl
theorem two_check : r29 Two = some 0 := by
  have h1 : r58 ((0 : Int), (0 : Int)) = some true := by decide
  have h2 : r58 ((1 : Int), (0 : Int)) = some true := by decide
  have h0 : loopR (r29_L0 0 Two (0, 0)) (0 : Int) = some (.inl ()) := by
    rw [loopR_go]
    have : r29_L0 0 Two (0, 0) (0 : Int) = some (.inr (.inl ())) := rfl
    rw [this, goL_inr]
  have h3 : loopR (r29_L0 1 Two (1, 0)) (0 : Int) = some (.inl ()) := by
    have a0 : r29_L0 1 Two (1, 0) (0 : Int) = some (.inl (1 : Int)) := by decide
    have a1 : r29_L0 1 Two (1, 0) (1 : Int) = some (.inr (.inl ())) := by decide
    rw [loopR_go, a0, goL_inl, loopR_go, a1, goL_inr]
  have s0 : r29_L1 Two (0 : Int) = some (.inl (1 : Int)) := by
    unfold r29_L1
    have e : idxI Two.2.1 (0 : Int) = some (0, 0) := rfl
    have k : okB none (some (0 : Int)) none Two.2.1.length = true := rfl
    simp only [e, Option.bind_some, h1, Bool.not_true, cond_false, k, cond_true, h0, Sum.elim_inl]
    rfl
  have s1 : r29_L1 Two (1 : Int) = some (.inl (2 : Int)) := by
    unfold r29_L1
    have e : idxI Two.2.1 (1 : Int) = some (1, 0) := rfl
    have k : okB none (some (1 : Int)) none Two.2.1.length = true := rfl
    simp only [e, Option.bind_some, h2, Bool.not_true, cond_false, k, cond_true, h3, Sum.elim_inl]
    rfl
  have s2 : r29_L1 Two (2 : Int) = some (.inr (.inl ())) := rfl
  have hl : loopR (r29_L1 Two) (0 : Int) = some (.inl ()) := by
    rw [loopR_go, s0, goL_inl, loopR_go, s1, goL_inl, loopR_go, s2, goL_inr]
  unfold r29
  rw [hl]
  rfl
abbrev Note := (Int × Int) × (Bool × Bool)
abbrev Cmd := Int × (Int × ((Int × Int) × Bool))
section
variable {l : Int} {s0 s1 : Sto} {n0 n1 : List Note} {x : Cmd}
theorem stores_two (h0 : StoreOk s0) (h1 : StoreOk s1) : loopR (r24_L0 (Two, (l, ([s0, s1], ([n0, n1], x))))) (0 : Int) = some (.inl ()) := by
  have a0 : r24_L0 (Two, (l, ([s0, s1], ([n0, n1], x)))) (0 : Int) = some (.inl (1 : Int)) := by
    unfold r24_L0
    have e : idxI [s0, s1] (0 : Int) = some s0 := rfl
    simp only [e, Option.bind_some, storeCheck_is h0, decide_true, Bool.not_true, cond_false]
    rfl
  have a1 : r24_L0 (Two, (l, ([s0, s1], ([n0, n1], x)))) (1 : Int) = some (.inl (2 : Int)) := by
    unfold r24_L0
    have e : idxI [s0, s1] (1 : Int) = some s1 := rfl
    simp only [e, Option.bind_some, storeCheck_is h1, decide_true, Bool.not_true, cond_false]
    rfl
  have a2 : r24_L0 (Two, (l, ([s0, s1], ([n0, n1], x)))) (2 : Int) = some (.inr (.inl ())) := rfl
  rw [loopR_go, a0, goL_inl, loopR_go, a1, goL_inl, loopR_go, a2, goL_inr]
theorem notes_two (h0 : loopR (r24_L1 n0) (0 : Int) = some (.inl ())) (h1 : loopR (r24_L1 n1) (0 : Int) = some (.inl ())) : loopR (r24_L2 (Two, (l, ([s0, s1], ([n0, n1], x))))) (0 : Int) = some (.inl ()) := by
  have a0 : r24_L2 (Two, (l, ([s0, s1], ([n0, n1], x)))) (0 : Int) = some (.inl (1 : Int)) := by
    unfold r24_L2
    have e : idxI [n0, n1] (0 : Int) = some n0 := rfl
    simp only [e, Option.bind_some, h0, Sum.elim_inl]
    rfl
  have a1 : r24_L2 (Two, (l, ([s0, s1], ([n0, n1], x)))) (1 : Int) = some (.inl (2 : Int)) := by
    unfold r24_L2
    have e : idxI [n0, n1] (1 : Int) = some n1 := rfl
    simp only [e, Option.bind_some, h1, Sum.elim_inl]
    rfl
  have a2 : r24_L2 (Two, (l, ([s0, s1], ([n0, n1], x)))) (2 : Int) = some (.inr (.inl ())) := rfl
  rw [loopR_go, a0, goL_inl, loopR_go, a1, goL_inl, loopR_go, a2, goL_inr]
end
theorem row_none : loopR (r24_L1 ([] : List Note)) (0 : Int) = some (.inl ()) := by
  have : r24_L1 ([] : List Note) (0 : Int) = some (.inr (.inl ())) := rfl
  rw [loopR_go, this, goL_inr]
theorem row_one {n : Note} (hn : txnB n.1 = true) : loopR (r24_L1 [n]) (0 : Int) = some (.inl ()) := by
  have hw := writes_is store_zero hn
  have a0 : r24_L1 [n] (0 : Int) = some (.inl (1 : Int)) := by
    unfold r24_L1
    have e : idxI [n] (0 : Int) = some n := rfl
    simp only [e, Option.bind_some, hw, decide_true, Bool.not_true, cond_false]
    rfl
  have a1 : r24_L1 [n] (1 : Int) = some (.inr (.inl ())) := rfl
  rw [loopR_go, a0, goL_inl, loopR_go, a1, goL_inr]
theorem above00 : r48 (((0 : Int), (0 : Int)), ((0 : Int), (0 : Int))) = some true := by decide
theorem above01 : r48 (((0 : Int), (0 : Int)), ((1 : Int), (0 : Int))) = some false := by decide
theorem above10 : r48 (((1 : Int), (0 : Int)), ((0 : Int), (0 : Int))) = some true := by decide
theorem above11 : r48 (((1 : Int), (0 : Int)), ((1 : Int), (0 : Int))) = some true := by decide
theorem lab0 : idxI Two.2.1 (0 : Int) = some (0, 0) := rfl
theorem lab1 : idxI Two.2.1 (1 : Int) = some (1, 0) := rfl
theorem len2 : (([((0 : Int), (0 : Int)), (1, 0)].length : Nat) : Int) = 2 := rfl
theorem list_is {s : Sto} (h : StoreOk s) (hl : s.2.2.1.length ≤ 1000) : r49 (([] : Txt), ((0 : Int), s)) = some (listT s s.2.2.1) := by
  have hl0 := list_loop h hl s.2.2.1.length 0 [] (by omega) (by simp)
  unfold r49
  have h' : loopR (r49_L0 (([] : Txt), ((0 : Int), s))) ((), ((0 : Int), ([] : Txt))) = some ((), listT s s.2.2.1) := hl0
  rw [h']; rfl
def noteT (k : Int) (n : Note) : Txt := ((((((itoa k ++ [32]) ++ itoa n.1.1) ++ [32]) ++ itoa n.1.2) ++ (bif n.2.1 then [32, 99, 111, 109, 109, 105, 116] else [32, 97, 98, 111, 114, 116])) ++ (bif n.2.2 then [32, 100, 97, 109, 97, 103, 101] else [])) ++ [10]
theorem byte_ten : byte8 (10 : Int) = (10 : UInt8) := by decide
theorem audit_one {k : Int} {n : Note} {bs : Txt} (hb : bs.length ≤ 100000) (k0 : 0 ≤ k) (k1 : k ≤ 1000) (a0 : 0 ≤ n.1.1) (a1 : n.1.1 ≤ 1000000000) (b0 : 0 ≤ n.1.2) (b1 : n.1.2 ≤ 1000000000) : r50 (bs, (k, [n])) = some (bs ++ noteT k n) := by
  obtain ⟨z1, z2, -⟩ := itoa_is k0 (by omega)
  obtain ⟨c1, c2, -⟩ := itoa_is a0 a1
  obtain ⟨d1, d2, -⟩ := itoa_is b0 b1
  have ok : ∀ {l m : Txt}, l.length ≤ 1000 → m.length ≤ 1000 → decide (l.length + m.length ≤ 9223372036854775807) = true := fun p q => decide_eq_true (by omega)
  have k1 := ok (l := itoa k) (m := [32]) (by omega) (by decide)
  have k2 := ok (l := itoa k ++ [32]) (m := itoa n.1.1) (by simp only [List.length_append, List.length_cons, List.length_nil]; omega) (by omega)
  have k3 := ok (l := (itoa k ++ [32]) ++ itoa n.1.1) (m := [32]) (by simp only [List.length_append, List.length_cons, List.length_nil]; omega) (by decide)
  have k4 := ok (l := ((itoa k ++ [32]) ++ itoa n.1.1) ++ [32]) (m := itoa n.1.2) (by simp only [List.length_append, List.length_cons, List.length_nil]; omega) (by omega)
  have hwords : r81 (k, n.1) = some ((((itoa k ++ [32]) ++ itoa n.1.1) ++ [32]) ++ itoa n.1.2) := by
    unfold r81
    simp only [z1, c1, d1, Option.bind_some, k1, k2, k3, k4, cond_true]
  have hlen : ((((itoa k ++ [32]) ++ itoa n.1.1) ++ [32]) ++ itoa n.1.2).length ≤ 1000 := by simp only [List.length_append, List.length_cons, List.length_nil]; omega
  unfold noteT
  generalize (((itoa k ++ [32]) ++ itoa n.1.1) ++ [32]) ++ itoa n.1.2 = W at hwords hlen ⊢
  have w1 := wstr (bs := bs) (s := W) (by omega)
  have w2 := wstr (bs := bs ++ W) (s := [32, 99, 111, 109, 109, 105, 116]) (by simp only [List.length_append, List.length_cons, List.length_nil]; omega)
  have w3 := wstr (bs := bs ++ W) (s := [32, 97, 98, 111, 114, 116]) (by simp only [List.length_append, List.length_cons, List.length_nil]; omega)
  have w4 : ∀ {q : Txt}, q.length ≤ 110000 → r52 (q, [32, 100, 97, 109, 97, 103, 101]) = some (((([32, 100, 97, 109, 97, 103, 101] : Txt).length : Nat) : Int), (true, q ++ [32, 100, 97, 109, 97, 103, 101])) := fun hq => wstr (by simp only [List.length_cons, List.length_nil]; omega)
  have w5 : ∀ {q : Txt}, q.length ≤ 120000 → r83 (q, (10 : Int)) = some (true, q ++ [10]) := fun hq => by
    show (wrB _).map _ = _
    unfold wrB
    rw [roomOk_true (by simp only; omega)]
    simp only [byte_ten]
    rfl
  have s0 : r50_L0 (bs, (k, [n])) ((), ((0 : Int), bs)) = some (.inl ((), ((1 : Int), (((bs ++ W) ++ (bif n.2.1 then [32, 99, 111, 109, 109, 105, 116] else [32, 97, 98, 111, 114, 116])) ++ (bif n.2.2 then [32, 100, 97, 109, 97, 103, 101] else [])) ++ [10]))) := by
    unfold r50_L0
    have e : idxI [n] (0 : Int) = some n := rfl
    have hd : decide ((0 : Int) < ((([n] : List Note).length : Nat) : Int)) = true := rfl
    simp only [hd, cond_true, e, Option.bind_some, hwords, w1]
    cases n.2.1 with
    | true =>
      simp only [cond_true, w2, Option.bind_some]
      cases n.2.2 with
      | true => simp only [cond_true, w4 (show (bs ++ W ++ [32, 99, 111, 109, 109, 105, 116]).length ≤ 110000 by simp only [List.length_append, List.length_cons, List.length_nil]; omega), w5 (show (bs ++ W ++ [32, 99, 111, 109, 109, 105, 116] ++ [32, 100, 97, 109, 97, 103, 101]).length ≤ 120000 by simp only [List.length_append, List.length_cons, List.length_nil]; omega), Option.bind_some]; rfl
      | false => simp only [cond_false, w5 (show (bs ++ W ++ [32, 99, 111, 109, 109, 105, 116]).length ≤ 120000 by simp only [List.length_append, List.length_cons, List.length_nil]; omega), Option.bind_some, List.append_nil]; rfl
    | false =>
      simp only [cond_false, w3, Option.bind_some]
      cases n.2.2 with
      | true => simp only [cond_true, w4 (show (bs ++ W ++ [32, 97, 98, 111, 114, 116]).length ≤ 110000 by simp only [List.length_append, List.length_cons, List.length_nil]; omega), w5 (show (bs ++ W ++ [32, 97, 98, 111, 114, 116] ++ [32, 100, 97, 109, 97, 103, 101]).length ≤ 120000 by simp only [List.length_append, List.length_cons, List.length_nil]; omega), Option.bind_some]; rfl
      | false => simp only [cond_false, w5 (show (bs ++ W ++ [32, 97, 98, 111, 114, 116]).length ≤ 120000 by simp only [List.length_append, List.length_cons, List.length_nil]; omega), Option.bind_some, List.append_nil]; rfl
  have s1 : ∀ q : Txt, r50_L0 (bs, (k, [n])) ((), ((1 : Int), q)) = some (.inr ((), q)) := fun q => rfl
  unfold r50
  rw [loopR_go, s0, goL_inl, loopR_go, s1, goL_inr]
  simp only [Option.bind_some, List.append_assoc]
section
variable {s0 s1 : Sto} {n0 n1 : List Note}
theorem show_pre {l : Int} (l0 : 0 ≤ l) (l1 : l < 2) (h0 : StoreOk s0) (h1 : StoreOk s1) (g0 : loopR (r24_L1 n0) (0 : Int) = some (.inl ())) (g1 : loopR (r24_L1 n1) (0 : Int) = some (.inl ())) {k : Int} {x : Int × ((Int × Int) × Bool)} {t : Txt} (hk : k = 1 ∨ k = 4)
    (hl : loopR (r24_L3 (Two, (l, ([s0, s1], ([n0, n1], (k, x)))))) ((), ((0 : Int), ([] : Txt))) = some ((), t)) : r24 (Two, (l, ([s0, s1], ([n0, n1], (k, x))))) = some (t, 0) := by
  have d3 : (bif !(!(decide ((([s0, s1].length : Nat) : Int) = ((Two.2.1.length : Nat) : Int)))) then some (!(decide ((([n0, n1].length : Nat) : Int) = ((Two.2.1.length : Nat) : Int)))) else some true) = some false := rfl
  unfold r24
  simp only [two_check, Option.bind_some, decide_true, Bool.not_true, Bool.not_false, cond_false, cond_true, decide_eq_false (show ¬ l < 0 by omega), len2, decide_eq_false (show ¬ (2 : Int) ≤ l by omega), d3, stores_two h0 h1, notes_two g0 g1, Sum.elim_inl, hl]
  rcases hk with rfl | rfl <;> rfl
theorem show_low (h0 : StoreOk s0) (h1 : StoreOk s1) (hd : s0.2.2.1.length ≤ 1000) (g0 : loopR (r24_L1 n0) (0 : Int) = some (.inl ())) (g1 : loopR (r24_L1 n1) (0 : Int) = some (.inl ())) {x : Int × ((Int × Int) × Bool)} :
    r24 (Two, ((0 : Int), ([s0, s1], ([n0, n1], ((1 : Int), x))))) = some (listT s0 s0.2.2.1, 0) := by
  refine show_pre (by omega) (by omega) h0 h1 g0 g1 (.inl rfl) ?_
  have a0 : r24_L3 (Two, ((0 : Int), ([s0, s1], ([n0, n1], ((1 : Int), x))))) ((), ((0 : Int), ([] : Txt))) = some (.inl ((), ((1 : Int), listT s0 s0.2.2.1))) := by
    unfold r24_L3
    have e' : idxI [s0, s1] (0 : Int) = some s0 := rfl
    have hd : decide ((0 : Int) < ((Two.2.1.length : Nat) : Int)) = true := rfl
    simp only [hd, lab0, e', Option.bind_some, above00, Bool.not_true, cond_false, cond_true, decide_true, list_is h0 (by assumption)]
    rfl
  have a1 : ∀ q : Txt, r24_L3 (Two, ((0 : Int), ([s0, s1], ([n0, n1], ((1 : Int), x))))) ((), ((1 : Int), q)) = some (.inl ((), ((2 : Int), q))) := fun q => by
    unfold r24_L3
    have hd : decide ((1 : Int) < ((Two.2.1.length : Nat) : Int)) = true := rfl
    simp only [hd, lab0, lab1, Option.bind_some, above01, Bool.not_false, cond_true]
    rfl
  have a2 : ∀ q : Txt, r24_L3 (Two, ((0 : Int), ([s0, s1], ([n0, n1], ((1 : Int), x))))) ((), ((2 : Int), q)) = some (.inr ((), q)) := fun q => rfl
  rw [loopR_go, a0, goL_inl, loopR_go, a1, goL_inl, loopR_go, a2, goL_inr]
theorem show_audit_low {n : Note} (hn : txnB n.1 = true) (h0 : StoreOk s0) (h1 : StoreOk s1) (g1 : loopR (r24_L1 n1) (0 : Int) = some (.inl ())) {x : Int × ((Int × Int) × Bool)} :
    r24 (Two, ((0 : Int), ([s0, s1], ([[n], n1], ((4 : Int), x))))) = some (noteT 0 n, 0) := by
  have hb : 0 ≤ n.1.1 ∧ n.1.1 < 4 ∧ 1 ≤ n.1.2 ∧ n.1.2 ≤ 1048576 := by unfold txnB at hn; simp only [Bool.and_eq_true, decide_eq_true_eq] at hn; omega
  refine show_pre (by omega) (by omega) h0 h1 (row_one hn) g1 (.inr rfl) ?_
  have ha := audit_one (k := 0) (n := n) (bs := []) (by simp) (by omega) (by omega) hb.1 (by omega) (by omega) (by omega)
  rw [List.nil_append] at ha
  have a0 : r24_L3 (Two, ((0 : Int), ([s0, s1], ([[n], n1], ((4 : Int), x))))) ((), ((0 : Int), ([] : Txt))) = some (.inl ((), ((1 : Int), noteT 0 n))) := by
    unfold r24_L3
    have e' : idxI [[n], n1] (0 : Int) = some [n] := rfl
    have hd : decide ((0 : Int) < ((Two.2.1.length : Nat) : Int)) = true := rfl
    have h4 : decide ((4 : Int) = 1) = false := rfl
    simp only [hd, lab0, e', Option.bind_some, above00, Bool.not_true, cond_false, cond_true, h4, ha]
    rfl
  have a1 : ∀ q : Txt, r24_L3 (Two, ((0 : Int), ([s0, s1], ([[n], n1], ((4 : Int), x))))) ((), ((1 : Int), q)) = some (.inl ((), ((2 : Int), q))) := fun q => by
    unfold r24_L3
    have hd : decide ((1 : Int) < ((Two.2.1.length : Nat) : Int)) = true := rfl
    simp only [hd, lab0, lab1, Option.bind_some, above01, Bool.not_false, cond_true]
    rfl
  have a2 : ∀ q : Txt, r24_L3 (Two, ((0 : Int), ([s0, s1], ([[n], n1], ((4 : Int), x))))) ((), ((2 : Int), q)) = some (.inr ((), q)) := fun q => rfl
  rw [loopR_go, a0, goL_inl, loopR_go, a1, goL_inl, loopR_go, a2, goL_inr]
theorem show_audit_high {n m : Note} (hn : txnB n.1 = true) (hm : txnB m.1 = true) (h0 : StoreOk s0) (h1 : StoreOk s1) {x : Int × ((Int × Int) × Bool)} :
    r24 (Two, ((1 : Int), ([s0, s1], ([[n], [m]], ((4 : Int), x))))) = some (noteT 0 n ++ noteT 1 m, 0) := by
  have hb : 0 ≤ n.1.1 ∧ n.1.1 < 4 ∧ 1 ≤ n.1.2 ∧ n.1.2 ≤ 1048576 := by unfold txnB at hn; simp only [Bool.and_eq_true, decide_eq_true_eq] at hn; omega
  have hc : 0 ≤ m.1.1 ∧ m.1.1 < 4 ∧ 1 ≤ m.1.2 ∧ m.1.2 ≤ 1048576 := by unfold txnB at hm; simp only [Bool.and_eq_true, decide_eq_true_eq] at hm; omega
  refine show_pre (by omega) (by omega) h0 h1 (row_one hn) (row_one hm) (.inr rfl) ?_
  have ha := audit_one (k := 0) (n := n) (bs := []) (by simp) (by omega) (by omega) hb.1 (by omega) (by omega) (by omega)
  rw [List.nil_append] at ha
  have hlen : (noteT 0 n).length ≤ 100000 := by
    have := (itoa_is (n := 0) (by omega) (by omega)).2.1; have := (itoa_is hb.1 (by omega)).2.1; have := (itoa_is (n := n.1.2) (by omega) (by omega)).2.1
    unfold noteT
    cases n.2.1 <;> cases n.2.2 <;> simp only [List.length_append, List.length_cons, List.length_nil, cond_true, cond_false] <;> omega
  have hq := audit_one (k := 1) (n := m) (bs := noteT 0 n) hlen (by omega) (by omega) hc.1 (by omega) (by omega) (by omega)
  have h4 : decide ((4 : Int) = 1) = false := rfl
  have a0 : r24_L3 (Two, ((1 : Int), ([s0, s1], ([[n], [m]], ((4 : Int), x))))) ((), ((0 : Int), ([] : Txt))) = some (.inl ((), ((1 : Int), noteT 0 n))) := by
    unfold r24_L3
    have e' : idxI [[n], [m]] (0 : Int) = some [n] := rfl
    have hd : decide ((0 : Int) < ((Two.2.1.length : Nat) : Int)) = true := rfl
    simp only [hd, lab0, lab1, e', Option.bind_some, above10, Bool.not_true, cond_false, cond_true, h4, ha]
    rfl
  have a1 : r24_L3 (Two, ((1 : Int), ([s0, s1], ([[n], [m]], ((4 : Int), x))))) ((), ((1 : Int), noteT 0 n)) = some (.inl ((), ((2 : Int), noteT 0 n ++ noteT 1 m))) := by
    unfold r24_L3
    have e' : idxI [[n], [m]] (1 : Int) = some [m] := rfl
    have hd : decide ((1 : Int) < ((Two.2.1.length : Nat) : Int)) = true := rfl
    simp only [hd, lab1, e', Option.bind_some, above11, Bool.not_true, cond_false, cond_true, h4, hq]
    rfl
  have a2 : ∀ q : Txt, r24_L3 (Two, ((1 : Int), ([s0, s1], ([[n], [m]], ((4 : Int), x))))) ((), ((2 : Int), q)) = some (.inr ((), q)) := fun q => rfl
  rw [loopR_go, a0, goL_inl, loopR_go, a1, goL_inl, loopR_go, a2, goL_inr]
theorem show_status_low {k : Int} {t : Int × Int} {b : Bool} (hk : k = 0 ∨ k = 1) (ht : txnB t = true) (h0 : StoreOk s0) (h1 : StoreOk s1) (g0 : loopR (r24_L1 n0) (0 : Int) = some (.inl ())) (g1 : loopR (r24_L1 n1) (0 : Int) = some (.inl ())) :
    r24 (Two, ((0 : Int), ([s0, s1], ([n0, n1], ((2 : Int), (k, (t, b))))))) = some (bif decide (k = 0) && prepB s0 (t, 0) then [112, 114, 101, 112, 97, 114, 101, 100, 10] else [117, 110, 107, 110, 111, 119, 110, 10], 0) := by
  have d3 : (bif !(!(decide ((([s0, s1].length : Nat) : Int) = ((Two.2.1.length : Nat) : Int)))) then some (!(decide ((([n0, n1].length : Nat) : Int) = ((Two.2.1.length : Nat) : Int)))) else some true) = some false := rfl
  have w1 := wstr (bs := []) (s := [112, 114, 101, 112, 97, 114, 101, 100, 10]) (by decide)
  have w2 := wstr (bs := []) (s := [117, 110, 107, 110, 111, 119, 110, 10]) (by decide)
  have e0 : idxI [s0, s1] (0 : Int) = some s0 := rfl
  have h21 : decide ((2 : Int) = 1) = false := rfl
  have h24 : decide ((2 : Int) = 4) = false := rfl
  have hp := prepared_any h0 ht
  unfold r24
  simp only [two_check, Option.bind_some, decide_true, Bool.not_true, Bool.not_false, cond_false, cond_true, decide_eq_false (show ¬ (0 : Int) < 0 by omega), len2, decide_eq_false (show ¬ (2 : Int) ≤ 0 by omega), d3, stores_two h0 h1, notes_two g0 g1, Sum.elim_inl, h21, h24, w1, w2]
  rcases hk with rfl | rfl
  · simp only [decide_eq_true (show (0 : Int) ≤ 0 by omega), decide_eq_true (show (0 : Int) < 2 by omega), cond_true, lab0, Option.bind_some, above00, e0, hp, decide_true, Bool.true_and]
    cases prepB s0 (t, 0) <;> rfl
  · simp only [decide_eq_true (show (0 : Int) ≤ 1 by omega), decide_eq_true (show (1 : Int) < 2 by omega), cond_true, lab0, lab1, Option.bind_some, above01, cond_false, decide_eq_false (show ¬ (1 : Int) = 0 by omega), Bool.false_and]
    rfl
end
theorem notes_text : noteT 0 ((0, 1), (false, false)) ++ noteT 1 ((0, 2), (true, false)) = [48, 32, 48, 32, 49, 32, 97, 98, 111, 114, 116, 10, 49, 32, 48, 32, 50, 32, 99, 111, 109, 109, 105, 116, 10] := by decide +kernel
theorem showHidden {a : List Raw × (List Raw × (List Raw × (Int × (Int × (Int × Int)))))} (h1 : ∀ r ∈ a.1, rawOk r) (h2 : ∀ r ∈ a.2.1, rawOk r) (h3 : ∀ r ∈ a.2.2.1, rawOk r) (l1 : a.1.length ≤ 9223372036854775807) (l2 : a.2.1.length ≤ 9223372036854775807) (l3 : a.2.2.1.length ≤ 9223372036854775807)
    (h4 : i64 a.2.2.2.1) (h5 : i64 a.2.2.2.2.1) (h6 : i64 a.2.2.2.2.2.1) (h7 : i64 a.2.2.2.2.2.2) : r11 a = some true := by
  obtain ⟨s0, e0, m0⟩ := store_is l1 h1 (m := 20) (by omega)
  obtain ⟨s1, e1, m1⟩ := store_is l2 h2 (m := 20) (by omega)
  obtain ⟨s2, e2, m2⟩ := store_is l3 h3 (m := 20) (by omega)
  have e0' : r25 (a.1, (20 : Int)) = some s0 := e0
  have e1' : r25 (a.2.1, (20 : Int)) = some s1 := e1
  have e2' : r25 (a.2.2.1, (20 : Int)) = some s2 := e2
  have hd := m0.doubts
  obtain ⟨k, p1, k0, k1⟩ := picked_is a.2.2.2.1 3 h4 (by omega)
  obtain ⟨u, p2, u0, u1⟩ := picked_is a.2.2.2.2.1 2 h5 (by omega)
  obtain ⟨v, p3, v0, v1⟩ := picked_is a.2.2.2.2.2.1 2 h6 (by omega)
  obtain ⟨w, p4, w0, w1⟩ := picked_is a.2.2.2.2.2.2 3 h7 (by omega)
  have t1 : txnB ((0, 1) : Int × Int) = true := rfl
  have t2 : txnB ((0, 2) : Int × Int) = true := rfl
  have R1 := row_one (n := ((0, 1), (false, false))) t1
  have R2 := row_one (n := ((0, 2), (true, false))) t2
  have hall := fun x => show_audit_high (x := x) (n := ((0, 1), (false, false))) (m := ((0, 2), (true, false))) t1 t2 m0.ok m1.ok
  rw [notes_text] at hall
  have hw : Go.IntKind.wrap .i64 (1 + w) = 1 + w := wrap_i64 (by unfold i64; omega)
  have ht : txnB ((v, 1 + w) : Int × Int) = true := by
    unfold txnB
    rw [decide_eq_true v0, decide_eq_true (show v < 4 by omega), decide_eq_true (show 1 ≤ 1 + w by omega), decide_eq_true (show 1 + w ≤ 1048576 by omega)]; rfl
  have hk : k = 0 ∨ k = 1 ∨ k = 2 := by omega
  have i0 : idxI [[(((0 : Int), (1 : Int)), (false, false))], [(((0 : Int), (2 : Int)), (true, false))]] 0 = some [((0, 1), (false, false))] := rfl
  have i0' : idxN [[(((0 : Int), (1 : Int)), (false, false))], [(((0 : Int), (2 : Int)), (true, false))]] 0 = some [((0, 1), (false, false))] := rfl
  have in2 : inB (0 : Int) ([[(((0 : Int), (1 : Int)), (false, false))], [(((0 : Int), (2 : Int)), (true, false))]].length) = true := rfl
  have hu : u = 0 ∨ u = 1 := by omega
  unfold r11
  simp only [two_zero, Option.bind_some, p1, e0', e1', e2', in2, i0', cond_true]
  rcases hk with rfl | rfl | rfl
  · have q1 : inB (0 : Int) ([(1 : Int), (2 : Int), (4 : Int)].length) = true := rfl
    have q2 : idxN [(1 : Int), (2 : Int), (4 : Int)] (Int.toNat 0) = some 1 := rfl
    have q3 : decide ((1 : Int) = 2) = false := rfl
    simp only [q1, q2, q3, cond_true, cond_false, Option.bind_some, show_low m0.ok m1.ok (by omega) R1 R2, show_low m0.ok m2.ok (by omega) R1 row_none, hall, decide_true]
  · have q1 : inB (1 : Int) ([(1 : Int), (2 : Int), (4 : Int)].length) = true := rfl
    have q2 : idxN [(1 : Int), (2 : Int), (4 : Int)] (Int.toNat 1) = some 2 := rfl
    simp only [q1, q2, decide_true, cond_true, cond_false, Option.bind_some, p2, p3, p4, hw, show_status_low hu ht m0.ok m1.ok R1 R2, show_status_low hu ht m0.ok m2.ok R1 row_none, hall]
  · have q1 : inB (2 : Int) ([(1 : Int), (2 : Int), (4 : Int)].length) = true := rfl
    have q2 : idxN [(1 : Int), (2 : Int), (4 : Int)] (Int.toNat 2) = some 4 := rfl
    have q3 : decide ((4 : Int) = 2) = false := rfl
    simp only [q1, q2, q3, cond_true, cond_false, Option.bind_some, show_audit_low (n := ((0, 1), (false, false))) t1 m0.ok m1.ok R2, show_audit_low (n := ((0, 1), (false, false))) t1 m0.ok m2.ok row_none, hall, decide_true]
end Go.Hy
