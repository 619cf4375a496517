/- The laws of a store: a transaction's end, a crash. -/
import Derived.Test.YtiheccjebnamcaaHsLaws
namespace Go.Hs
open Go.RowKit Go.Proofs Go.V

theorem fold_none {t : Txn} {yes : Bool} : ∀ (bs : List Lock) (l : List Item), (∀ b ∈ bs, b.1 ≠ t) → bs.foldl (stepI t yes) l = l
  | [], l, _ => rfl
  | b :: bs, l, h => by
    rw [List.foldl_cons]
    have : stepI t yes l b = l := by
      unfold stepI
      rw [decide_eq_false (h b List.mem_cons_self)]; rfl
    rw [this]
    exact fold_none bs l fun y hy => h y (List.mem_cons_of_mem _ hy)

theorem filter_none {l : List Lock} {t : Txn} (h : ∀ b ∈ l, b.1 ≠ t) : l.filter (fun x => !isT t x) = l := by
  rw [List.filter_eq_self]
  intro x hx
  unfold isT
  rw [decide_eq_false (h x hx)]; rfl

theorem storeTells_is : r19 () = some true := by
  have h0 : StoreOk ([], [], [], []) := made_nil.ok
  have hx : Fresh (3, 9) := ⟨by decide, by decide, by decide, by decide⟩
  have hr := made_nil.read hx (k := 7)
  unfold r19
  simp only [read_is h0 hx.txn (k := 7) (by omega) (by omega), hr, Option.bind_some]
  rfl

theorem endApplies {l : List Raw} (hl : l.length ≤ 9223372036854775807) (hr : ∀ r ∈ l, rawOk r) {a key value : Int} (ha : i64 a) (hk : i64 key) (hv : i64 value) (yes : Bool) : r7 (l, a, key, value, yes) = some true := by
  obtain ⟨s, h1, hM⟩ := store_is hl hr (m := 30) (by omega)
  obtain ⟨a, pa, a0, a1⟩ := picked_is a 9 ha (by omega)
  obtain ⟨k, pk, k0, k1⟩ := picked_is key 8 hk (by omega)
  obtain ⟨v, pv, v0, v1⟩ := picked_is value 99 hv (by omega)
  have hx : Fresh (2, 1 + a) := ⟨by simp, by simp, by simp only; omega, by simp only; omega⟩
  rw [show ((30 : Nat) : Int) = (30 : Int) from rfl] at h1
  unfold r7
  simp only [h1, pa, pk, pv, one_add a0 (by omega), Option.bind_some, peek_is hM.ok k0 k1, peek_written hM.ok, write_is hM.ok hx.txn k0 k1 v0 (show v ≤ 1073741824 by omega) (show (0 : Int) ≤ 0 by omega) (show (0 : Int) ≤ 1048576 by omega), hM.write (by omega) hx, storeCheck_is hM.ok, decide_true, Bool.not_true, cond_false]
  by_cases hbu : s.2.1.any (held k) = true
  · rw [if_pos hbu]; rfl
  · have hu := hM.addW (by omega) hx (k := k) (v := v) (a := 0) k0 k1 v0 (by omega) (by omega) (by omega) hbu
    have hnw : ¬ s.2.1.any (written k) = true := by
      rw [Bool.not_eq_true, List.any_eq_false]
      intro y hy
      have := any_false hbu y hy
      unfold held at this
      unfold written
      rw [this]; simp
    have hver := itemOf_ver hM.items (by omega) k
    rw [if_neg hbu, if_neg hnw]
    have hends : endItems (addL s ((2, 1 + a), k, true, v, 0)) (2, 1 + a) yes = if yes = true then putItem s.1 k v else s.1 := by
      show (s.2.1 ++ [_]).foldl _ s.1 = _
      rw [List.foldl_append, fold_none _ _ (hM.other hx)]
      unfold stepI
      simp
    have hit : ItemsOk (if yes = true then putItem s.1 k v else s.1) (24 * 30 + 1) := by
      have := stepI_ok hM.items (by omega) (t := (2, 1 + a)) (yes := yes) (b := ((2, 1 + a), k, true, v, 0)) ⟨k0, k1, v0, by simp only; omega, by simp, by simp, by simp⟩
      unfold stepI at this
      simpa using this
    have hend := end_is hu (m := 24 * 30) (by omega) (by omega) hM.items hx.txn yes (by have := hM.over; show s.2.2.2.length < _; omega)
    have hw : StoreOk (endR (addL s ((2, 1 + a), k, true, v, 0)) (2, 1 + a) yes) := end_keep hu hx.txn (by
      rw [hends]
      exact ⟨hit.sorted, fun x hx => by have := hit.item x hx; omega⟩) (by have := hM.over; show s.2.2.2.length < _; omega)
    have hlk : (endR (addL s ((2, 1 + a), k, true, v, 0)) (2, 1 + a) yes).2.1 = s.2.1 := by
      show (s.2.1 ++ [_]).filter _ = _
      rw [List.filter_append, filter_none (hM.other hx)]
      simp [isT]
    have hi1 : (endR (addL s ((2, 1 + a), k, true, v, 0)) (2, 1 + a) yes).1 = if yes = true then putItem s.1 k v else s.1 := hends
    have hpk : peekR (endR (addL s ((2, 1 + a), k, true, v, 0)) (2, 1 + a) yes) k = if yes = true then (v, (itemOf s.1 k).2.2 + 1, 0) else ((itemOf s.1 k).2.1, (itemOf s.1 k).2.2, 0) := by
      rw [peek_written hw, hlk, if_neg hnw, hi1]
      cases yes with
      | true => simp only [if_true, itemOf_put_eq hM.items.sorted]
      | false => rfl
    have hwr : Go.IntKind.wrap .i64 ((itemOf s.1 k).2.2 + 1) = (itemOf s.1 k).2.2 + 1 := wrap_i64 (by unfold i64; omega)
    simp only [decide_true, Bool.not_true, Bool.not_false, cond_true, cond_false, hend, Option.bind_some, peek_is hw k0 k1, hpk, storeCheck_is hw, hwr]
    cases yes with
    | true => simp
    | false => simp

theorem end_again {s : Sto} {t : Txn} {yes : Bool} (b : Bool) : endR (endR s t yes) t b = endR s t yes := by
  have h1 : ∀ y ∈ (endR s t yes).2.1, y.1 ≠ t := fun y hy e => by
    have := (List.mem_filter.1 hy).2
    unfold isT at this
    rw [decide_eq_true e] at this
    cases this
  have h2 : endItems (endR s t yes) t b = (endR s t yes).1 := fold_none _ _ h1
  have h3 : (endR s t yes).2.2.1.filter (fun x => !isD t x) = (endR s t yes).2.2.1 := by
    show (List.filter _ (List.filter _ _)) = _
    rw [List.filter_filter]
    simp only [Bool.and_self]
    rfl
  have h4 : overWith (endR s t yes).2.2.2 t = (endR s t yes).2.2.2 := by
    have : t ∈ (endR s t yes).2.2.2 := overWith_mem.2 (.inr rfl)
    unfold overWith
    rw [over_any' this]; rfl
  show (endItems (endR s t yes) t b, (endR s t yes).2.1.filter _, (endR s t yes).2.2.1.filter _, overWith (endR s t yes).2.2.2 t) = _
  rw [h2, h3, h4, filter_none h1]

theorem endAll {l : List Raw} (hl : l.length ≤ 9223372036854775807) (hr : ∀ r ∈ l, rawOk r) {a b : Int} (ha : i64 a) (hb : i64 b) (yes : Bool) : r9 (l, a, b, yes) = some true := by
  obtain ⟨s, h1, hM⟩ := store_is hl hr (m := 30) (by omega)
  obtain ⟨a, pa, a0, a1⟩ := picked_is a 2 ha (by omega)
  obtain ⟨b, pb, b0, b1⟩ := picked_is b 5 hb (by omega)
  have ht : txnB (a, 1 + b) = true := by unfold txnB; simp; omega
  have hw1 := one_add b0 (show b < 1000 by omega)
  have hend := made_end_is hM (by omega) ht yes
  have hu := made_end_ok hM (by omega) ht yes
  have hit := made_ends hM (by omega) (a, 1 + b) yes
  have hend2 : r20 (endR s (a, 1 + b) yes, (a, 1 + b), !yes) = some (endR s (a, 1 + b) yes, 0) := by
    have := end_is hu (m := 24 * (30 + 1 : Nat)) (by omega) (by omega) hit ht (!yes) (by have := hM.over; have := overWith_len s.2.2.2 (a, 1 + b); show (overWith _ _).length < _; omega)
    rw [end_again] at this
    exact this
  have hno : ∀ y ∈ (endR s (a, 1 + b) yes).2.1, y.1 ≠ (a, 1 + b) := fun y hy e => by
    have := (List.mem_filter.1 hy).2
    unfold isT at this
    rw [decide_eq_true e] at this
    cases this
  have hov : (a, 1 + b) ∈ (endR s (a, 1 + b) yes).2.2.2 := overWith_mem.2 (.inr rfl)
  have r1 : (readR (endR s (a, 1 + b) yes) (a, 1 + b) 7).2.2.2 = 13 := by
    unfold readR
    rw [find_no hno, over_any' hov]; rfl
  have r2 : (writeR (endR s (a, 1 + b) yes) (a, 1 + b) 7 1 1).2 = 13 := by
    unfold writeR
    rw [over_any' hov]; rfl
  have hll := hu.short.locks
  have hlp : loopR (r9_L0 (endR s (a, 1 + b) yes, 0) a b) (0 : Int) = some (.inl ()) := by
    refine all_loop (xs := (endR s (a, 1 + b) yes).2.1) (by omega) (fun i x hx => ?_) ?_
    · obtain ⟨e1, e2, e3, e4⟩ := in_len hx
      unfold r9_L0
      have := hno x (List.mem_of_getElem? hx)
      simp only [e1, e3, e4, cond_true, Option.bind_some, Int.toNat_natCast, hw1]
      rw [pair_dec x.1 (a, 1 + b), decide_eq_false this]; rfl
    · unfold r9_L0
      simp only [at_len, cond_false]
  rw [show ((30 : Nat) : Int) = (30 : Int) from rfl] at h1
  unfold r9
  simp only [h1, pa, pb, hw1, Option.bind_some, hend, hend2, read_is hu ht (k := 7) (by omega) (by omega), write_is hu ht (k := 7) (v := 1) (ask := 1) (by omega) (by omega) (by omega) (by omega) (by omega) (by omega), writes_is hu ht, r1, r2, wrote_none hno, hlp, Sum.elim_inl, decide_true, cond_true, same_is hu.short, storeCheck_is hu]
  rfl

theorem lock_dec (x y : Lock) : ((decide (x.1.1 = y.1.1) && (decide (x.1.2 = y.1.2) && true)) && (decide (x.2.1 = y.2.1) && (decide (x.2.2.1 = y.2.2.1) && (decide (x.2.2.2.1 = y.2.2.2.1) && (decide (x.2.2.2.2 = y.2.2.2.2) && true))))) = decide (x = y) := by
  rw [Bool.eq_iff_iff]
  simp [Prod.ext_iff, and_assoc]

theorem endOthers {l : List Raw} (hl : l.length ≤ 9223372036854775807) (hr : ∀ r ∈ l, rawOk r) {a b : Int} (ha : i64 a) (hb : i64 b) (yes : Bool) : r6 (l, a, b, yes) = some true := by
  obtain ⟨s, h1, hM⟩ := store_is hl hr (m := 30) (by omega)
  obtain ⟨a, pa, a0, a1⟩ := picked_is a 2 ha (by omega)
  obtain ⟨b, pb, b0, b1⟩ := picked_is b 5 hb (by omega)
  have ht : txnB (a, 1 + b) = true := by unfold txnB; simp; omega
  have hw1 := one_add b0 (show b < 1000 by omega)
  have hend := made_end_is hM (by omega) ht yes
  have hll := hM.ok.short.locks
  have hf := hM.few
  have hlp := fold_loop (body := r6_L0 s a b) (xs := s.2.1) (emb := fun j (l : List Lock) => ((), (j, l))) (out := fun l => ((), l)) (fun l x => if isT (a, 1 + b) x = true then l else l ++ [x]) (fun i l => i ≤ s.2.1.length ∧ l = (s.2.1.take i).filter fun x => !isT (a, 1 + b) x) (by omega) (fun i x l hx hI => by
    obtain ⟨hi, hI⟩ := hI
    obtain ⟨e1, e2, e3, e4⟩ := in_len hx
    have hlt := (List.getElem?_eq_some_iff.mp hx).1
    have hlen : l.length ≤ 20 := by rw [hI]; exact Nat.le_trans (List.length_filter_le _ _) (by rw [List.length_take]; omega)
    refine ⟨?_, by omega, ?_⟩
    · unfold r6_L0
      have hdec := pair_dec x.1 (a, 1 + b)
      simp only at hdec
      simp only [e1, e3, e4, cond_true, Option.bind_some, Int.toNat_natCast, hw1, hdec, roomOk_true (show (2 * (l.length + 1) + 192) * 48 ≤ 281474976710656 by omega), app_eq]
      unfold isT
      cases decide (x.1 = (a, 1 + b)) <;> rfl
    · rw [List.take_add_one, hx, List.filter_append, ← hI]
      cases h : isT (a, 1 + b) x <;> simp [h]) (fun l hI => by
    unfold r6_L0
    simp only [at_len, cond_false]) (s0 := []) ⟨by omega, by simp⟩
  obtain ⟨e1, -, e2⟩ := hlp
  rw [List.take_length] at e2
  rw [e2] at e1
  have hlocks : (endR s (a, 1 + b) yes).2.1 = s.2.1.filter fun x => !isT (a, 1 + b) x := rfl
  rw [show ((30 : Nat) : Int) = (30 : Int) from rfl] at h1
  unfold r6
  simp only [storeTells_is, Option.bind_some, Bool.not_true, Bool.not_false, cond_false, cond_true, h1, pa, pb, hw1, hend, e1, decide_true, hlocks]
  rw [all_loop (xs := s.2.1.filter fun x => !isT (a, 1 + b) x) (Nat.le_trans (List.length_filter_le _ _) (by omega)) (fun i x hx => ?_) ?_]
  · rfl
  · unfold r6_L1
    simp only [at_len, cond_false]
  · obtain ⟨e1, e2, e3, e4⟩ := in_len hx
    unfold r6_L1
    simp only [e1, hlocks, e3, e4, cond_true, Option.bind_some, Int.toNat_natCast, lock_dec, decide_true, Bool.not_true, cond_false]

theorem peekNothing {l : List Raw} (hl : l.length ≤ 9223372036854775807) (hr : ∀ r ∈ l, rawOk r) {a key : Int} (ha : i64 a) (hk : i64 key) : r8 (l, a, key) = some true := by
  obtain ⟨s, h1, hM⟩ := store_is hl hr (m := 30) (by omega)
  obtain ⟨a, pa, a0, a1⟩ := picked_is a 9 ha (by omega)
  obtain ⟨k, pk, k0, k1⟩ := picked_is key 8 hk (by omega)
  have hx : Fresh (3, 1 + a) := ⟨by simp, by simp, by simp only; omega, by simp only; omega⟩
  rw [show ((30 : Nat) : Int) = (30 : Int) from rfl] at h1
  unfold r8
  simp only [storeTells_is, h1, pa, pk, one_add a0 (by omega), Option.bind_some, read_is hM.ok hx.txn k0 k1, peek_is hM.ok k0 k1, hM.read hx, peek_written hM.ok, storeCheck_is hM.ok, decide_true, Bool.not_true, cond_false]
  by_cases hb : s.2.1.any (written k) = true
  · rw [if_pos hb, if_pos hb]; rfl
  · have hu := hM.addR (by omega) hx k0 k1 hb
    rw [if_neg hb, if_neg hb]
    have hb2 : ¬ (addL s ((3, 1 + a), k, false, 0, 0)).2.1.any (written k) = true := by
      show ¬ (s.2.1 ++ [_]).any _ = true
      rw [List.any_append]
      rw [Bool.not_eq_true] at hb
      simp [hb, written]
    have hi1 : (addL s ((3, 1 + a), k, false, 0, 0)).1 = s.1 := rfl
    simp only [decide_true, Bool.not_true, cond_false, peek_is hu k0 k1, peek_written hu, if_neg hb2, hi1, Option.bind_some, cond_true]

/-! ### a crash -/
def hasL (l : List Lock) (d : Doubt) : Bool := l.any fun x => decide (x.1 = d.1)
def young (d : Doubt) : Doubt := (d.1, 0)

/-- What a crash leaves. -/
def forgetR (s : Sto) : Sto := (s.1, s.2.1.filter (fun x => x.2.2.1), (s.2.2.1.filter (hasL (s.2.1.filter fun x => x.2.2.1))).map young, s.2.2.2)

def noW (x : Lock) : Bool := !x.2.2.1

theorem forget_find (s : Sto) (hl : s.2.1.length ≤ 1000000) :
    (Option.bind (loopR (r24_L0 s) (0 : Int)) fun (q : (Unit ⊕ Int)) => Sum.elim (fun (_ : Unit) => some (-1 : Int)) (fun (v : Int) => some v) q) = some (idxOr (s.2.1.findIdx? noW)) := by
  refine find_is (xs := s.2.1) (p := noW) (by omega) (fun i x hx => ?_) ?_
  · obtain ⟨h1, h2, h3, h4⟩ := in_len hx
    unfold r24_L0 noW
    simp only [h1, h3, h4, cond_true, Option.bind_some, Int.toNat_natCast, bif_some]
  · unfold r24_L0
    simp only [at_len, cond_false]

theorem forget_del (s : Sto) (hl : s.2.1.length ≤ 1000000) {i : Nat} (h : s.2.1.findIdx? noW = some i) :
    ∃ (n : Nat) (ys : List Lock), loopR r24_L1 ((), ((), ((i : Int), ((Go.IntKind.wrap .i64 ((i : Int) + 1)), s)))) = some ((), ((), ((n : Int), (s.1, (ys, s.2.2))))) ∧ n ≤ ys.length ∧ ys.take n = s.2.1.filter (fun x => !noW x) := by
  obtain ⟨hi, ht⟩ := find_split h
  obtain ⟨n, ys, e1, e2, e3, e4⟩ := del_loop (body := r24_L1) (emb := fun i j xs => ((), ((), (i, (j, ((s.1, (xs, s.2.2)) : Sto)))))) (out := fun i xs => ((), ((), (i, ((s.1, (xs, s.2.2)) : Sto))))) (p := noW) (xs0 := s.2.1) hl (fun i j xs x hij hxl hx => by
    have hjl := (List.getElem?_eq_some_iff.mp hx).1
    obtain ⟨h1, h2, h3, h4⟩ := in_len hx
    have hxi : xs[i]? = some xs[i] := List.getElem?_eq_getElem (by omega)
    obtain ⟨g1, g2, g3, g4⟩ := in_len hxi
    have hw : Go.IntKind.wrap .i64 ((j : Int) + 1) = ((j + 1 : Nat) : Int) := wrap_i64 (by unfold i64; omega)
    have hw2 : Go.IntKind.wrap .i64 ((i : Int) + 1) = ((i + 1 : Nat) : Int) := wrap_i64 (by unfold i64; omega)
    unfold r24_L1 noW
    simp only [h1, h3, h4, g3, g4, cond_true, Option.bind_some, Int.toNat_natCast, hw, hw2]
    cases x.2.2.1 <;> rfl) (fun i xs hxl => by
    unfold r24_L1
    simp only [hxl, at_len, cond_false]) (s.2.1.length - (i + 1)) i (i + 1) s.2.1 rfl (by omega) (by omega) rfl ht rfl
  have hw : Go.IntKind.wrap .i64 ((i : Int) + 1) = ((i + 1 : Nat) : Int) := wrap_i64 (by unfold i64; omega)
  exact ⟨n, ys, by rw [hw]; exact e1, by omega, e4⟩

abbrev Half := Unit × (Unit × ((List Item × (Unit × (List Doubt × List Txn))) × List Lock))

theorem forget_has2 (d : Half) (x : Doubt) (hl : d.2.2.2.length ≤ 1000000) :
    (Option.bind (loopR (r24_L2 d x) (0 : Int)) fun (q : (Unit ⊕ Int)) => Sum.elim (fun (_ : Unit) => some (-1 : Int)) (fun (v : Int) => some v) q) = some (idxOr (d.2.2.2.findIdx? fun y => decide (y.1 = x.1))) := by
  refine find_is (xs := d.2.2.2) (p := fun y => decide (y.1 = x.1)) (by omega) (fun i y hy => ?_) ?_
  · obtain ⟨h1, h2, h3, h4⟩ := in_len hy
    unfold r24_L2
    simp only [h1, h3, h4, cond_true, Option.bind_some, Int.toNat_natCast, pair_dec, bif_some]
  · unfold r24_L2
    simp only [at_len, cond_false]

theorem forget_has4 (d : Unit × (Unit × (Unit × (Int × (Int × Sto))))) (x : Doubt) (hl : d.2.2.2.2.2.2.1.length ≤ 1000000) :
    (Option.bind (loopR (r24_L4 d x) (0 : Int)) fun (q : (Unit ⊕ Int)) => Sum.elim (fun (_ : Unit) => some (-1 : Int)) (fun (v : Int) => some v) q) = some (idxOr (d.2.2.2.2.2.2.1.findIdx? fun y => decide (y.1 = x.1))) := by
  refine find_is (xs := d.2.2.2.2.2.2.1) (p := fun y => decide (y.1 = x.1)) (by omega) (fun i y hy => ?_) ?_
  · obtain ⟨h1, h2, h3, h4⟩ := in_len hy
    unfold r24_L4
    simp only [h1, h3, h4, cond_true, Option.bind_some, Int.toNat_natCast, pair_dec, bif_some]
  · unfold r24_L4
    simp only [at_len, cond_false]

def noL (l : List Lock) (d : Doubt) : Bool := !hasL l d

theorem forget_find2 (d : Half) (hl : d.2.2.2.length ≤ 1000000) (hd : d.2.2.1.2.2.1.length ≤ 1000000) :
    (Option.bind (loopR (r24_L3 d) (0 : Int)) fun (q : (Unit ⊕ Int)) => Sum.elim (fun (_ : Unit) => some (-1 : Int)) (fun (v : Int) => some v) q) = some (idxOr (d.2.2.1.2.2.1.findIdx? (noL d.2.2.2))) := by
  refine find_is (xs := d.2.2.1.2.2.1) (p := noL d.2.2.2) (by omega) (fun i x hx => ?_) ?_
  · obtain ⟨h1, h2, h3, h4⟩ := in_len hx
    unfold r24_L3 noL hasL
    simp only [h1, h3, h4, cond_true, Option.bind_some, Int.toNat_natCast, forget_has2 d x hl, idxOr_any, bif_some]
  · unfold r24_L3
    simp only [at_len, cond_false]

theorem forget_del2 (s : Sto) (hl : s.2.1.length ≤ 1000000) (hd : s.2.2.1.length ≤ 1000000) {i : Nat} (h : s.2.2.1.findIdx? (noL s.2.1) = some i) :
    ∃ (n : Nat) (ys : List Doubt), loopR r24_L5 ((), ((), ((), ((i : Int), ((Go.IntKind.wrap .i64 ((i : Int) + 1)), s))))) = some ((), ((), ((n : Int), (s.1, (s.2.1, (ys, s.2.2.2)))))) ∧ n ≤ ys.length ∧ ys.take n = s.2.2.1.filter (fun x => !noL s.2.1 x) := by
  obtain ⟨hi, ht⟩ := find_split h
  obtain ⟨n, ys, e1, e2, e3, e4⟩ := del_loop (body := r24_L5) (emb := fun i j xs => ((), ((), ((), (i, (j, ((s.1, (s.2.1, (xs, s.2.2.2))) : Sto))))))) (out := fun i xs => ((), ((), (i, ((s.1, (s.2.1, (xs, s.2.2.2))) : Sto))))) (p := noL s.2.1) (xs0 := s.2.2.1) hd (fun i j xs x hij hxl hx => by
    have hjl := (List.getElem?_eq_some_iff.mp hx).1
    obtain ⟨h1, h2, h3, h4⟩ := in_len hx
    have hxi : xs[i]? = some xs[i] := List.getElem?_eq_getElem (by omega)
    obtain ⟨g1, g2, g3, g4⟩ := in_len hxi
    have hw : Go.IntKind.wrap .i64 ((j : Int) + 1) = ((j + 1 : Nat) : Int) := wrap_i64 (by unfold i64; omega)
    have hw2 : Go.IntKind.wrap .i64 ((i : Int) + 1) = ((i + 1 : Nat) : Int) := wrap_i64 (by unfold i64; omega)
    unfold r24_L5 noL hasL
    simp only [h1, h3, h4, g3, g4, cond_true, Option.bind_some, Int.toNat_natCast, hw, hw2]
    rw [forget_has4 ((), (), (), i, j, s.1, s.2.1, xs, s.2.2.2) x hl]
    simp only [Option.bind_some, idxOr_any]
    cases s.2.1.any fun y => decide (y.1 = x.1) <;> rfl) (fun i xs hxl => by
    unfold r24_L5
    simp only [hxl, at_len, cond_false]) (s.2.2.1.length - (i + 1)) i (i + 1) s.2.2.1 rfl (by omega) (by omega) rfl ht rfl
  have hw : Go.IntKind.wrap .i64 ((i : Int) + 1) = ((i + 1 : Nat) : Int) := wrap_i64 (by unfold i64; omega)
  exact ⟨n, ys, by rw [hw]; exact e1, by omega, e4⟩

theorem not_noW (l : List Lock) : l.filter (fun x => !noW x) = l.filter (fun x => x.2.2.1) := by
  congr 1
  funext x
  unfold noW
  rw [Bool.not_not]

theorem not_noL (ls : List Lock) (l : List Doubt) : l.filter (fun x => !noL ls x) = l.filter (hasL ls) := by
  congr 1
  funext x
  unfold noL
  rw [Bool.not_not]

theorem forget_is {s : Sto} (h : StoreOk s) : r24 s = some (forgetR s, 0) := by
  have hd := h.short.doubts
  have hl := h.short.locks
  unfold r24
  simp only [storeCheck_is h, Option.bind_some, decide_true, Bool.not_true, cond_false, own_is h.short]
  rw [forget_find s hl]
  simp only [Option.bind_some]
  generalize hG : (bif decide (idxOr (s.2.1.findIdx? noW) = (-1 : Int)) then _ else _ : Option Half) = G
  have hG2 : G = some ((), ((), ((s.1, ((), s.2.2)), s.2.1.filter (fun x => x.2.2.1)))) := by
    rw [← hG]
    cases e : s.2.1.findIdx? noW with
    | none => rw [← not_noW, find_all e]; rfl
    | some i =>
      obtain ⟨n, ys, e1, e2, e3⟩ := forget_del s hl e
      obtain ⟨c1, c2, c3⟩ := cut_is e2 (((0 : Int), (0 : Int)), ((0 : Int), (false, ((0 : Int), (0 : Int)))))
      simp only [idxOr, e1, Option.bind_some, c1, c2, c3, cond_true, e3, not_noW]
      exact bif_f (decide_eq_false (by omega))
  rw [hG2]
  simp only [Option.bind_some]
  have hfl : (s.2.1.filter fun x => x.2.2.1).length ≤ 1000000 := Nat.le_trans (List.length_filter_le _ _) hl
  rw [forget_find2 _ hfl hd]
  simp only [Option.bind_some]
  generalize hH : (bif decide (idxOr (s.2.2.1.findIdx? (noL (s.2.1.filter fun x => x.2.2.1))) = (-1 : Int)) then _ else _ : Option (Unit × (Unit × ((List Item × (List Lock × (Unit × List Txn))) × List Doubt)))) = H
  have hH2 : H = some ((), ((), ((s.1, (s.2.1.filter (fun x => x.2.2.1), ((), s.2.2.2))), s.2.2.1.filter (hasL (s.2.1.filter fun x => x.2.2.1))))) := by
    rw [← hH]
    cases e : s.2.2.1.findIdx? (noL (s.2.1.filter fun x => x.2.2.1)) with
    | none => rw [← not_noL, find_all e]; rfl
    | some i =>
      obtain ⟨n, ys, e1, e2, e3⟩ := forget_del2 (s.1, s.2.1.filter (fun x => x.2.2.1), s.2.2) hfl hd e
      obtain ⟨c1, c2, c3⟩ := cut_is e2 (((0 : Int), (0 : Int)), (0 : Int))
      simp only [idxOr, e1, Option.bind_some, c1, c2, c3, cond_true, e3, not_noL]
      exact bif_f (decide_eq_false (by omega))
  rw [hH2]
  simp only [Option.bind_some]
  have hdl : (s.2.2.1.filter (hasL (s.2.1.filter fun x => x.2.2.1))).length ≤ 1000000 := Nat.le_trans (List.length_filter_le _ _) hd
  rw [map_loop (body := r24_L6 _) (emb := fun j ds => ((), (j, ((s.1, (s.2.1.filter (fun x => x.2.2.1), (ds, s.2.2.2))) : Sto)))) (out := fun ds => ((), ((s.1, (s.2.1.filter (fun x => x.2.2.1), (ds, s.2.2.2))) : Sto))) young (by omega) (fun i xs x hxl hx => by
    obtain ⟨e1, e2, e3, e4⟩ := in_len hx
    unfold r24_L6 young
    simp only [← hxl, e1, e3, e4, cond_true, Option.bind_some, Int.toNat_natCast]) (fun xs hxl => by
    unfold r24_L6
    simp only [at_len, cond_false])]
  rfl

theorem forget_ok {s : Sto} (h : StoreOk s) : StoreOk (forgetR s) := by
  refine cut_ok h ⟨h.sorted, fun x hx => by have := h.item x hx; omega⟩ (fun d => ⟨rfl, .inr rfl⟩) (fun x hx d hd e hp => ?_) (fun d hd hq => ?_) h.over h.ends (fun d hd _ => (h.doubt d hd).2.2.2) h.short.over
  · unfold hasL
    rw [List.any_eq_true]
    exact ⟨x, List.mem_filter.2 ⟨hx, hp⟩, decide_eq_true e.symm⟩
  · unfold hasL at hq
    rw [List.any_eq_true] at hq
    obtain ⟨x, x1, x2⟩ := hq
    obtain ⟨x3, x4⟩ := List.mem_filter.1 x1
    exact ⟨x, x3, of_decide_eq_true x2, x4⟩

theorem forget_bad : r24 ([], [((0, 0), 0, false, 0, 0)], [], []) = some (noSto, 9) := by
  have hi : r33 [] = some true := by
    unfold r33
    rw [loopR_go]
    unfold r33_L0
    rfl
  have hd : r34 ([], [((0, 0), 0, false, 0, 0)], [], []) = some true := by
    unfold r34
    rw [loopR_go]
    unfold r34_L2
    simp only [List.length_nil, show decide ((0 : Int) < ((0 : Nat) : Int)) = false from rfl, cond_false, goL_inr, Option.bind_some, Sum.elim_inl]
    rw [loopR_go]
    unfold r34_L3
    rfl
  have hdb : r55 (([], [((0, 0), 0, false, 0, 0)], [], []), ((0, 0) : Txn)) = some false := doubted_is ⟨by simp, by simp, by simp, by simp⟩ _
  have hl : r35 ([], [((0, 0), 0, false, 0, 0)], [], []) = some false := by
    unfold r35
    rw [loopR_go]
    unfold r35_L1
    simp only [List.length_cons, List.length_nil, show decide ((0 : Int) < ((0 + 1 : Nat) : Int)) = true from rfl, cond_true, show idxI [(((0, 0), 0, false, 0, 0) : Lock)] 0 = some ((0, 0), 0, false, 0, 0) from rfl, Option.bind_some, hdb, Bool.not_false, Bool.not_true, cond_false]
    rfl
  have hc : r18 ([], [((0, 0), 0, false, 0, 0)], [], []) = some 9 := by
    unfold r18
    simp only [hi, hd, hl, Option.bind_some, Bool.not_true, Bool.not_false, cond_true]
  unfold r24
  simp only [hc, Option.bind_some]
  rfl

theorem filter_upto {l : List Lock} {p : Lock → Bool} {i : Nat} {x : Lock} (hx : l[i]? = some x) (hp : p x = true) : (l.filter p)[((l.take i).filter p).length]? = some x := by
  have hlt := (List.getElem?_eq_some_iff.mp hx).1
  have hd : l.drop i = x :: l.drop (i + 1) := by rw [List.drop_eq_getElem_cons hlt, (List.getElem?_eq_some_iff.mp hx).2]
  conv => lhs; rw [← List.take_append_drop i l]
  rw [List.take_append_drop i l]
  have : l.filter p = (l.take i).filter p ++ x :: (l.drop (i + 1)).filter p := by
    conv => lhs; rw [← List.take_append_drop i l, List.filter_append, hd, List.filter_cons, if_pos hp]
  rw [this, List.getElem?_append_right (Nat.le_refl _), Nat.sub_self]; rfl

theorem forgetReads {l : List Raw} (hl : l.length ≤ 9223372036854775807) (hr : ∀ r ∈ l, rawOk r) : r10 l = some true := by
  obtain ⟨s, h1, hM⟩ := store_is hl hr (m := 40) (by omega)
  have hf := hM.few
  have hu := forget_ok hM.ok
  have hlp : loopR (r10_L0 s (forgetR s, 0)) ((0 : Int), (0 : Int)) = some (.inl ((s.2.1.filter fun x => x.2.2.1).length : Int)) := by
    obtain ⟨r, e1, e2⟩ := loop_rule (body := r10_L0 s (forgetR s, 0)) (fun d => ∃ i : Nat, i ≤ s.2.1.length ∧ d = ((((s.2.1.take i).filter fun x => x.2.2.1).length : Int), (i : Int))) (fun d => s.2.1.length - d.2.toNat) (fun r => r = .inl ((s.2.1.filter fun x => x.2.2.1).length : Int)) (fun d hd => by
      obtain ⟨i, hi, rfl⟩ := hd
      by_cases g : i < s.2.1.length
      · left
        have hx : s.2.1[i]? = some s.2.1[i] := List.getElem?_eq_getElem g
        obtain ⟨e1, e2, e3, e4⟩ := in_len hx
        have hw2 : Go.IntKind.wrap .i64 ((i : Int) + 1) = ((i + 1 : Nat) : Int) := wrap_i64 (by unfold i64; omega)
        have hle : ((s.2.1.take i).filter fun x => x.2.2.1).length ≤ 20 := Nat.le_trans (List.length_filter_le _ _) (by rw [List.length_take]; omega)
        refine ⟨_, ?_, ⟨i + 1, g, rfl⟩, by simp only; omega⟩
        rw [List.take_add_one, hx, List.filter_append]
        unfold r10_L0
        cases hp : s.2.1[i].2.2.1 with
        | false =>
          simp only [e1, e3, e4, hw2, hp, cond_true, cond_false, Option.bind_some, Int.toNat_natCast, Sum.elim_inl]
          simp [hp]
        | true =>
          have hup := filter_upto (p := fun x => x.2.2.1) hx hp
          have hul := (List.getElem?_eq_some_iff.mp hup).1
          obtain ⟨f1, f2, f3, f4⟩ := in_len hup
          have hw3 : Go.IntKind.wrap .i64 ((((s.2.1.take i).filter fun x => x.2.2.1).length : Int) + 1) = (((s.2.1.take i).filter fun x => x.2.2.1).length : Int) + 1 := wrap_i64 (by unfold i64; omega)
          have hne : decide ((((s.2.1.take i).filter fun x => x.2.2.1).length : Int) = (((forgetR s).2.1).length : Int)) = false := decide_eq_false (fun e => Nat.ne_of_lt hul (Int.ofNat.inj e))
          have f3' : inB (((s.2.1.take i).filter fun x => x.2.2.1).length : Int) (forgetR s).2.1.length = true := f3
          have f4' : idxN (forgetR s).2.1 ((s.2.1.take i).filter fun x => x.2.2.1).length = some s.2.1[i] := f4
          simp only [e1, e3, e4, hw2, hw3, hp, hne, f3', f4', cond_true, Bool.not_false, Int.toNat_natCast, Option.bind_some, lock_dec, decide_true, Bool.not_true, cond_false, Sum.elim_inl]
          simp [hp]
      · right
        have : i = s.2.1.length := by omega
        subst this
        refine ⟨_, ?_, rfl⟩
        rw [List.take_length]
        unfold r10_L0
        simp only [at_len, cond_false]) (0, 0) ⟨0, by omega, by simp⟩
    rw [e1, e2]
  rw [show ((40 : Nat) : Int) = (40 : Int) from rfl] at h1
  unfold r10
  simp only [h1, Option.bind_some, forget_is hM.ok, decide_true, Bool.not_true, Bool.not_false, cond_true, storeCheck_is hu]
  have hlen1 : (forgetR s).1 = s.1 := rfl
  have hlen2 : (forgetR s).2.1 = s.2.1.filter fun x => x.2.2.1 := rfl
  simp only [hlen1, decide_true, Bool.not_true, cond_false, hlp, Option.bind_some, Sum.elim_inl, forget_bad, hlen2, cond_true]

end Go.Hs
