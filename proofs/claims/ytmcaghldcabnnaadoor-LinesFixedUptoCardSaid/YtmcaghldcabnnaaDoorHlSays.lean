/- What is read of any line. -/
import Derived.Test.YtmcaghldcabnnaaDoorHlBad
namespace Go.Hl
open Go.RowKit Go.Proofs Go.V Go.Lib
def AllLen (L : List Txt) : Prop := ∀ w ∈ L, w.length ≤ 1099511627776
def nextW (L : List Txt) : Txt := L.headD []
def nextB (L : List Txt) (b : Bool) : Bool := bif L.isEmpty then true else b
theorem AllLen.tail {L : List Txt} (h : AllLen L) : AllLen L.tail := fun w hw => h w (List.mem_of_mem_tail hw)
theorem AllLen.next {L : List Txt} (h : AllLen L) : (nextW L).length ≤ 1099511627776 := by
  cases L with
  | nil => simp [nextW]
  | cons w r => exact h w List.mem_cons_self
section steps
variable {α : Type} (L : List Txt) (b : Bool)
theorem next1 (F : Unit × (Txt × (List Txt × Bool)) → Option α) :
    Option.bind (bif decide (((L.length : Nat) : Int) = 0) then some ((), (([] : Txt), (L, true))) else bif inB (0 : Int) L.length then Option.bind (idxN L 0) fun x => bif okB (some (1 : Int)) none none L.length then some ((), (x, (midL L 1 (L.length - 1), b))) else none else none) F = F ((), (nextW L, (L.tail, nextB L b))) := by
  cases L with
  | nil => rfl
  | cons w r => simp only [c_len, c_in, c_idx, c_ok, c_mid, cond_true, cond_false, Option.bind_some]; rfl
theorem next2 (F : Unit × (Unit × (Txt × (List Txt × Bool))) → Option α) :
    Option.bind (bif decide (((L.length : Nat) : Int) = 0) then some ((), ((), (([] : Txt), (L, true)))) else bif inB (0 : Int) L.length then Option.bind (idxN L 0) fun x => bif okB (some (1 : Int)) none none L.length then some ((), ((), (x, (midL L 1 (L.length - 1), b)))) else none else none) F = F ((), ((), (nextW L, (L.tail, nextB L b)))) := by
  cases L with
  | nil => rfl
  | cons w r => simp only [c_len, c_in, c_idx, c_ok, c_mid, cond_true, cond_false, Option.bind_some]; rfl
theorem next3 (F : Unit × (Unit × (Unit × (Txt × (List Txt × Bool)))) → Option α) :
    Option.bind (bif decide (((L.length : Nat) : Int) = 0) then some ((), ((), ((), (([] : Txt), (L, true))))) else bif inB (0 : Int) L.length then Option.bind (idxN L 0) fun x => bif okB (some (1 : Int)) none none L.length then some ((), ((), ((), (x, (midL L 1 (L.length - 1), b))))) else none else none) F = F ((), ((), ((), (nextW L, (L.tail, nextB L b))))) := by
  cases L with
  | nil => rfl
  | cons w r => simp only [c_len, c_in, c_idx, c_ok, c_mid, cond_true, cond_false, Option.bind_some]; rfl
end steps
theorem bif_or1 (b x : Bool) : (bif !b then some ((), x) else some ((), true)) = some ((), b || x) := by cases b <;> rfl
theorem bif_or0 (b x : Bool) : (bif !b then some x else some true) = some (b || x) := by cases b <;> rfl
theorem atoi_i64 (s : Txt) : i64 (atoiV s).1 := by
  unfold atoiV i64
  cases h : atoiAll s with
  | ok v =>
    simp only
    unfold atoiAll at h
    cases s with
    | nil => cases h
    | cons c r =>
      simp only at h
      generalize parseMag (if c.toNat = 43 ∨ c.toNat = 45 then r else c :: r) = e at h
      cases e with
      | ok u =>
        simp only at h
        split at h
        · cases h
        · split at h
          · cases h
          · cases h
            split <;> omega
      | _ => cases h
  | range =>
    simp only
    unfold atoiSat
    split <;> simp
  | _ => exact ⟨by simp, by simp⟩
theorem atoi_all {L : List Txt} (h : AllLen L) : r49 (nextW L) = some (atoiV (nextW L)) := by
  show atoiR _ = _
  unfold atoiR
  rw [decide_eq_true (by have := h.next; omega)]; rfl
theorem itoa_all (w : Txt) : r24 (atoiV w).1 = some (itoa (atoiV w).1) := (itoa_is (atoi_i64 w)).1
/-- A number was no good. -/
def numBad (L : List Txt) (b : Bool) : Bool := (nextB L b || !(atoiV (nextW L)).2) || !decide (itoa (atoiV (nextW L)).1 = nextW L)
theorem numBad_no {L : List Txt} {b : Bool} (h : numBad L b = false) : b = false ∧ ∃ w r, L = w :: r ∧ itoa (atoiV w).1 = w := by
  unfold numBad at h
  simp only [Bool.or_eq_false_iff, Bool.not_eq_false', decide_eq_true_eq] at h
  obtain ⟨⟨h1, h2⟩, h3⟩ := h
  cases L with
  | nil => simp [nextB] at h1
  | cons w r => exact ⟨by simpa [nextB] using h1, w, r, rfl, h3⟩
theorem findI_word {xs : List Txt} {w : Txt} : ∀ {i : Int}, 0 ≤ i → findI xs w i = -1 ∨ (i ≤ findI xs w i ∧ findI xs w i < i + xs.length ∧ xs[(findI xs w i - i).toNat]? = some w) := by
  induction xs with
  | nil => intro i _; exact .inl rfl
  | cons x xs ih =>
    intro i hi
    unfold findI
    split
    · rename_i h; subst h; exact .inr ⟨by omega, by simp only [List.length_cons]; omega, by simp⟩
    · rcases ih (i := i + 1) (by omega) with h | ⟨h1, h2, h3⟩
      · exact .inl h
      · refine .inr ⟨by omega, by simp only [List.length_cons]; omega, ?_⟩
        rw [show (findI xs w (i + 1) - i).toNat = (findI xs w (i + 1) - (i + 1)).toNat + 1 by omega, List.getElem?_cons_succ]
        exact h3
/-- The word of an act's kind, or none. -/
theorem find_kind (w : Txt) : ∃ k : Int, r43 (List.drop 1 tab0, w) = some (k - 1) ∧ (k = 0 ∨ (1 ≤ k ∧ k ≤ 8 ∧ w = wordOf k)) := by
  rw [find_is _ (by decide)]
  refine ⟨findI (List.drop 1 tab0) w 0 + 1, by congr 1; omega, ?_⟩
  rcases findI_word (xs := List.drop 1 tab0) (w := w) (i := 0) (by omega) with h | ⟨h1, h2, h3⟩
  · exact .inl (by omega)
  · refine .inr ⟨by omega, ?_, ?_⟩
    · have : (List.drop 1 tab0).length = 8 := rfl
      omega
    · generalize findI (List.drop 1 tab0) w 0 = n at *
      have hn : n = 0 ∨ n = 1 ∨ n = 2 ∨ n = 3 ∨ n = 4 ∨ n = 5 ∨ n = 6 ∨ n = 7 := by
        have : (List.drop 1 tab0).length = 8 := rfl
        omega
      rcases hn with rfl | rfl | rfl | rfl | rfl | rfl | rfl | rfl <;> exact (Option.some.inj h3).symm
theorem find_callw (w : Txt) : ∃ k : Int, r43 (List.drop 1 tab1, w) = some (k - 1) ∧ (k = 0 ∨ (1 ≤ k ∧ k ≤ 5 ∧ w = callOf k)) := by
  rw [find_is _ (by decide)]
  refine ⟨findI (List.drop 1 tab1) w 0 + 1, by congr 1; omega, ?_⟩
  rcases findI_word (xs := List.drop 1 tab1) (w := w) (i := 0) (by omega) with h | ⟨h1, h2, h3⟩
  · exact .inl (by omega)
  · refine .inr ⟨by omega, ?_, ?_⟩
    · have : (List.drop 1 tab1).length = 5 := rfl
      omega
    · generalize findI (List.drop 1 tab1) w 0 = n at *
      have hn : n = 0 ∨ n = 1 ∨ n = 2 ∨ n = 3 ∨ n = 4 := by
        have : (List.drop 1 tab1).length = 5 := rfl
        omega
      rcases hn with rfl | rfl | rfl | rfl | rfl <;> exact (Option.some.inj h3).symm
/-- What a line says: if it says yes, its words are its act's. -/
structure Says (ws : List Txt) (a : Act) : Prop where
  words : ws = wordsOf a
  s : i64 a.2.1
  t : i64 a.2.2.1
  l : i64 a.2.2.2.1
  p : i64 a.2.2.2.2.1
  ke : ∀ n ∈ a.2.2.2.2.2.1, i64 n
  c1 : i64 a.2.2.2.2.2.2.1.2.1
  c2 : i64 a.2.2.2.2.2.2.1.2.2.1
  c3 : i64 a.2.2.2.2.2.2.1.2.2.2.1
  c4 : i64 a.2.2.2.2.2.2.1.2.2.2.2
  kl : a.2.2.2.2.2.1.length ≤ 1000000000
theorem i64_zero : i64 0 := by unfold i64; omega
theorem numBad_def (L : List Txt) (b : Bool) : ((nextB L b || !(atoiV (nextW L)).2) || !decide (itoa (atoiV (nextW L)).1 = nextW L)) = numBad L b := rfl
theorem len_nil {L : List Txt} (h : decide (((L.length : Nat) : Int) = 0) = true) : L = [] := List.length_eq_zero_iff.mp (by have := of_decide_eq_true h; omega)
/-- One more number, of a line that says yes. -/
theorem num_more {L : List Txt} {b : Bool} (h : numBad L b = false) : b = false ∧ L = itoa (atoiV (nextW L)).1 :: L.tail := by
  obtain ⟨h1, w, r, rfl, h2⟩ := numBad_no h
  exact ⟨h1, by show w :: r = _; rw [show nextW (w :: r) = w from rfl, h2]; rfl⟩
theorem says_path {s : Txt} {ws : List Txt} {k : Int} (hk : k = 2 ∨ k = 3 ∨ k = 4) (hs : r33 (s, [32]) = some (wordOf k :: ws)) (hL : AllLen ws) : ∃ a ok, r31 s = some (a, ok) ∧ (ok = true → Says (wordOf k :: ws) a) := by
  have hf := find_word (k := k) (by omega) (by omega)
  have hw : Go.IntKind.wrap .i64 (k - 1 + 1) = k := by rw [wrap_i64 (by unfold i64; omega)]; omega
  have fin : ∀ {k : Int}, k = 2 ∨ k = 3 ∨ k = 4 → numBad ws.tail.tail.tail (numBad ws.tail.tail (numBad ws.tail (numBad ws false))) = false → decide (((ws.tail.tail.tail.tail.length : Nat) : Int) = 0) = true →
      Says (wordOf k :: ws) (k, ((atoiV (nextW ws)).1, ((atoiV (nextW ws.tail)).1, ((atoiV (nextW ws.tail.tail)).1, ((atoiV (nextW ws.tail.tail.tail)).1, ([], ((0, (0, (0, (0, 0)))), []))))))) := by
    intro k hk hB hz
    obtain ⟨hB, q4⟩ := num_more hB
    obtain ⟨hB, q3⟩ := num_more hB
    obtain ⟨hB, q2⟩ := num_more hB
    obtain ⟨-, q1⟩ := num_more hB
    have hz := len_nil hz
    refine ⟨?_, atoi_i64 _, atoi_i64 _, atoi_i64 _, atoi_i64 _, by simp, i64_zero, i64_zero, i64_zero, i64_zero, by simp⟩
    have hws : ws = [itoa (atoiV (nextW ws)).1, itoa (atoiV (nextW ws.tail)).1, itoa (atoiV (nextW ws.tail.tail)).1, itoa (atoiV (nextW ws.tail.tail.tail)).1] := by
      rw [← hz, ← q4, ← q3, ← q2, ← q1]
    rcases hk with rfl | rfl | rfl <;> exact congrArg _ hws
  unfold r31
  simp only [hs, Option.bind_some, c_len, c_in, c_idx, c_ok, c_mid, hf, hw, cond_true, cond_false]
  rcases hk with rfl | rfl | rfl <;>
  · simp only [Int.reduceEq, decide_true, decide_false, cond_true, cond_false, Option.bind_some, Bool.not_true, Bool.not_false, next2, next1, next3, atoi_all hL, atoi_all hL.tail, atoi_all hL.tail.tail, atoi_all hL.tail.tail.tail, itoa_all, bif_or1, bif_or0, numBad_def]
    cases hB : numBad ws.tail.tail.tail (numBad ws.tail.tail (numBad ws.tail (numBad ws false))) with
    | true => exact ⟨_, false, rfl, fun h => by cases h⟩
    | false =>
      cases hz : decide (((ws.tail.tail.tail.tail.length : Nat) : Int) = 0) with
      | false => exact ⟨_, false, rfl, fun h => by cases h⟩
      | true => exact ⟨_, true, rfl, fun _ => fin (by decide) hB hz⟩
theorem says_tick {s : Txt} {ws : List Txt} (hs : r33 (s, [32]) = some (wordOf 5 :: ws)) : ∃ a ok, r31 s = some (a, ok) ∧ (ok = true → Says (wordOf 5 :: ws) a) := by
  have hf := find_word (k := 5) (by omega) (by omega)
  have hw : Go.IntKind.wrap .i64 (5 - 1 + 1) = 5 := by decide
  unfold r31
  simp only [hs, Option.bind_some, c_len, c_in, c_idx, c_ok, c_mid, hf, hw, cond_true, cond_false, decide_true, Bool.not_true, Bool.not_false, Int.reduceEq, decide_false]
  cases hz : decide (((ws.length : Nat) : Int) = 0) with
  | false => exact ⟨_, false, rfl, fun h => by cases h⟩
  | true =>
    refine ⟨_, true, rfl, fun _ => ⟨?_, i64_zero, i64_zero, i64_zero, i64_zero, by simp, i64_zero, i64_zero, i64_zero, i64_zero, by simp⟩⟩
    rw [len_nil hz]; rfl
theorem says_none {s w : Txt} {ws : List Txt} (hs : r33 (s, [32]) = some (w :: ws)) (hf : r43 (List.drop 1 tab0, w) = some (0 - 1)) : ∃ a, r31 s = some (a, false) := by
  have hw : Go.IntKind.wrap .i64 (0 - 1 + 1) = 0 := by decide
  unfold r31
  simp only [hs, Option.bind_some, c_len, c_in, c_idx, c_ok, c_mid, hf, hw, cond_true, cond_false, decide_true]
  exact ⟨_, rfl⟩
theorem says_start {s : Txt} {ws : List Txt} (hs : r33 (s, [32]) = some (wordOf 7 :: ws)) (hL : AllLen ws) : ∃ a ok, r31 s = some (a, ok) ∧ (ok = true → Says (wordOf 7 :: ws) a) := by
  have hf := find_word (k := 7) (by omega) (by omega)
  have hw : Go.IntKind.wrap .i64 (7 - 1 + 1) = 7 := by decide
  unfold r31
  simp only [hs, Option.bind_some, c_len, c_in, c_idx, c_ok, c_mid, hf, hw, cond_true, cond_false]
  simp only [Option.bind_some, cond_true, cond_false, decide_true, Bool.not_true, Bool.not_false, Int.reduceEq, decide_false, next2, atoi_all hL, itoa_all, bif_or1, bif_or0, numBad_def]
  cases hB : numBad ws false with
  | true => exact ⟨_, false, rfl, fun h => by cases h⟩
  | false =>
    cases hz : decide (((ws.tail.length : Nat) : Int) = 0) with
    | false => exact ⟨_, false, rfl, fun h => by cases h⟩
    | true =>
      obtain ⟨-, q1⟩ := num_more hB
      refine ⟨_, true, rfl, fun _ => ⟨?_, atoi_i64 _, i64_zero, i64_zero, i64_zero, by simp, i64_zero, i64_zero, i64_zero, i64_zero, by simp⟩⟩
      have hws : ws = [itoa (atoiV (nextW ws)).1] := by rw [← len_nil hz, ← q1]
      exact congrArg _ hws
theorem crash_all : ∀ {ws : List Txt}, AllLen ws → ∀ {k s t l p : Int} {keep : List Int} {c}, keep.length + ws.length ≤ 1000000000000 → (∀ n ∈ keep, i64 n) →
    ∃ L b ns, loopR r31_L0 ((), ((), ((ws, false), (k, (s, (t, (l, (p, (keep, c))))))))) = some ((), ((), ((L, b), (k, (s, (t, (l, (p, (ns, c))))))))) ∧ (∀ n ∈ ns, i64 n) ∧ (b = false → L = [] ∧ ∃ ms, ns = keep ++ ms ∧ ws = ms.map itoa) := by
  intro ws
  induction ws with
  | nil =>
    intro _ k s t l p keep c _ hk
    refine ⟨[], false, keep, ?_, hk, fun _ => ⟨rfl, [], by simp, rfl⟩⟩
    rw [loopR_go]
    unfold r31_L0
    simp only [e_pos, cond_false, Option.bind_some, goL_inr]
  | cons w ws ih =>
    intro hL k s t l p keep c hl hk
    have hr : roomOk false keep.length 1 8 = true := roomOk_true (by omega)
    have hs : r31_L0 ((), ((), ((w :: ws, false), (k, (s, (t, (l, (p, (keep, c))))))))) = some (.inl ((), ((), ((ws, numBad (w :: ws) false), (k, (s, (t, (l, (p, (keep ++ [(atoiV w).1], c)))))))))) := by
      unfold r31_L0
      simp only [c_pos, cond_true, cond_false, Option.bind_some, Bool.not_true, Bool.not_false]
      simp only [next2, atoi_all hL, itoa_all, bif_or1, bif_or0, numBad_def, Option.bind_some, hr, cond_true, app_eq]
      rfl
    have hk' : ∀ n ∈ keep ++ [(atoiV w).1], i64 n := fun n hn => by
      rcases List.mem_append.1 hn with hn | hn
      · exact hk n hn
      · rw [List.mem_singleton] at hn; rw [hn]; exact atoi_i64 w
    cases hB : numBad (w :: ws) false with
    | true =>
      refine ⟨ws, true, _, ?_, hk', fun h => by cases h⟩
      rw [loopR_go, hs, goL_inl, hB]
      exact crash_none
    | false =>
      obtain ⟨-, q1⟩ := num_more hB
      obtain ⟨L, b, ns, h1, h2, h3⟩ := ih hL.tail (k := k) (s := s) (t := t) (l := l) (p := p) (keep := keep ++ [(atoiV w).1]) (c := c) (by simp only [List.length_append, List.length_cons, List.length_nil] at hl ⊢; omega) hk'
      refine ⟨L, b, ns, ?_, h2, fun hb => ?_⟩
      · rw [loopR_go, hs, goL_inl, hB, h1]
      · obtain ⟨hl0, ms, hm1, hm2⟩ := h3 hb
        refine ⟨hl0, (atoiV w).1 :: ms, by rw [hm1]; simp, ?_⟩
        have q2 : w = itoa (atoiV w).1 := (List.cons.inj q1).1
        rw [List.map_cons, ← hm2, ← q2]
theorem says_crash {s : Txt} {ws : List Txt} (hs : r33 (s, [32]) = some (wordOf 6 :: ws)) (hL : AllLen ws) (hn : ws.length ≤ 1000000000) : ∃ a ok, r31 s = some (a, ok) ∧ (ok = true → Says (wordOf 6 :: ws) a) := by
  have hf := find_word (k := 6) (by omega) (by omega)
  have hw : Go.IntKind.wrap .i64 (6 - 1 + 1) = 6 := by decide
  unfold r31
  simp only [hs, Option.bind_some, c_len, c_in, c_idx, c_ok, c_mid, hf, hw, cond_true, cond_false]
  simp only [Option.bind_some, cond_true, cond_false, decide_true, Bool.not_true, Bool.not_false, Int.reduceEq, decide_false, next2, atoi_all hL, itoa_all, bif_or1, bif_or0, numBad_def]
  cases hB : numBad ws false with
  | true => rw [crash_none]; exact ⟨_, false, rfl, fun h => by cases h⟩
  | false =>
    obtain ⟨-, q1⟩ := num_more hB
    obtain ⟨L, b, ns, h1, h2, h3⟩ := crash_all hL.tail (k := 6) (s := (atoiV (nextW ws)).1) (t := 0) (l := 0) (p := 0) (keep := []) (c := (0, (0, (0, (0, (0, ([] : Txt))))))) (by have := List.length_tail (l := ws); simp only [List.length_nil]; omega) (by simp)
    rw [h1]
    cases b with
    | true => exact ⟨_, false, rfl, fun h => by cases h⟩
    | false =>
      obtain ⟨rfl, ms, hm1, hm2⟩ := h3 rfl
      rw [List.nil_append] at hm1
      subst hm1
      refine ⟨_, true, rfl, fun _ => ⟨?_, atoi_i64 _, i64_zero, i64_zero, i64_zero, h2, i64_zero, i64_zero, i64_zero, i64_zero, by have h := congrArg List.length hm2; rw [List.length_map, List.length_tail] at h; simp only; omega⟩⟩
      have hws : ws = itoa (atoiV (nextW ws)).1 :: ns.map itoa := by rw [← hm2, ← q1]
      have : wordsOf ((6, ((atoiV (nextW ws)).1, (0, (0, (0, (ns, ((0, (0, (0, (0, 0)))), []))))))) : Act) = wordOf 6 :: itoa (atoiV (nextW ws)).1 :: ns.map itoa := by simp [wordsOf, valuesOf, tailW]
      rw [this]
      exact congrArg _ hws
theorem nextB_no {L : List Txt} {b : Bool} (h : nextB L b = false) : b = false ∧ L = nextW L :: L.tail := by
  cases L with
  | nil => simp [nextB] at h
  | cons w r => exact ⟨by simpa [nextB] using h, rfl⟩
theorem says_ask {s : Txt} {ws : List Txt} (hs : r33 (s, [32]) = some (wordOf 1 :: ws)) (hL : AllLen ws) : ∃ a ok, r31 s = some (a, ok) ∧ (ok = true → Says (wordOf 1 :: ws) a) := by
  have hf := find_word (k := 1) (by omega) (by omega)
  have hw : Go.IntKind.wrap .i64 (1 - 1 + 1) = 1 := by decide
  obtain ⟨ck, hg, hck⟩ := find_callw (nextW ws.tail.tail)
  have hw2 : Go.IntKind.wrap .i64 (ck - 1 + 1) = ck := by rw [wrap_i64 (by unfold i64; omega)]; omega
  have A := fun (a : Act) (h : wordsOf a = wordOf 1 :: ws) => h.symm
  unfold r31
  simp only [hs, Option.bind_some, c_len, c_in, c_idx, c_ok, c_mid, hf, hw, cond_true, cond_false]
  simp only [Option.bind_some, cond_true, cond_false, decide_true, Bool.not_true, Bool.not_false, Int.reduceEq, decide_false, next1, next2, next3, atoi_all hL, atoi_all hL.tail, itoa_all, bif_or1, bif_or0, numBad_def, hg, hw2]
  have two : ∀ {b : Bool}, nextB ws.tail.tail (numBad ws.tail (numBad ws false)) = false → ws = itoa (atoiV (nextW ws)).1 :: itoa (atoiV (nextW ws.tail)).1 :: nextW ws.tail.tail :: ws.tail.tail.tail := by
    intro _ h
    obtain ⟨h, q3⟩ := nextB_no h
    obtain ⟨h, q2⟩ := num_more h
    obtain ⟨-, q1⟩ := num_more h
    rw [← q3, ← q2, ← q1]
  rcases hck with rfl | ⟨k0, k1, hword⟩
  · simp only [decide_true, cond_true, cond_false, Option.bind_some, Bool.not_true, decide_eq_false (show ¬ (1 : Int) < 0 by omega)]
    exact ⟨_, false, rfl, fun h => by cases h⟩
  have hcks : ck = 1 ∨ ck = 2 ∨ ck = 3 ∨ ck = 4 ∨ ck = 5 := by omega
  rcases hcks with rfl | rfl | rfl | rfl | rfl
  · simp only [Int.reduceEq, Int.reduceLT, decide_true, decide_false, cond_true, cond_false, Option.bind_some]
    cases hB : nextB ws.tail.tail (numBad ws.tail (numBad ws false)) with
    | true => exact ⟨_, false, rfl, fun h => by cases h⟩
    | false =>
      cases hz : decide (((ws.tail.tail.tail.length : Nat) : Int) = 0) with
      | false => exact ⟨_, false, by simp only [Bool.not_false, cond_true, hz]; rfl, fun h => by cases h⟩
      | true =>
        refine ⟨_, true, by simp only [Bool.not_false, cond_true, hz]; rfl, fun _ => ⟨?_, atoi_i64 _, i64_zero, atoi_i64 _, i64_zero, by simp, i64_zero, i64_zero, i64_zero, i64_zero, by simp⟩⟩
        have h := two (b := true) hB
        rw [len_nil hz, hword] at h
        exact congrArg _ h
  · simp only [Int.reduceEq, Int.reduceLT, decide_true, decide_false, cond_true, cond_false, Option.bind_some, atoi_all hL.tail.tail.tail, atoi_all hL.tail.tail.tail.tail, atoi_all hL.tail.tail.tail.tail.tail, itoa_all, bif_or1, bif_or0, numBad_def]
    cases hB : numBad ws.tail.tail.tail.tail.tail (numBad ws.tail.tail.tail.tail (numBad ws.tail.tail.tail (nextB ws.tail.tail (numBad ws.tail (numBad ws false))))) with
    | true => exact ⟨_, false, rfl, fun h => by cases h⟩
    | false =>
      cases hz : decide (((ws.tail.tail.tail.tail.tail.tail.length : Nat) : Int) = 0) with
      | false => exact ⟨_, false, by simp only [Bool.not_false, cond_true, hz]; rfl, fun h => by cases h⟩
      | true =>
        refine ⟨_, true, by simp only [Bool.not_false, cond_true, hz]; rfl, fun _ => ⟨?_, atoi_i64 _, i64_zero, atoi_i64 _, i64_zero, by simp, atoi_i64 _, atoi_i64 _, atoi_i64 _, i64_zero, by simp⟩⟩
        obtain ⟨hB, q6⟩ := num_more hB
        obtain ⟨hB, q5⟩ := num_more hB
        obtain ⟨hB, q4⟩ := num_more hB
        have h := two (b := true) hB
        rw [q4, q5, q6, len_nil hz, hword] at h
        exact congrArg _ h
  · simp only [Int.reduceEq, Int.reduceLT, decide_true, decide_false, cond_true, cond_false, Option.bind_some, atoi_all hL.tail.tail.tail, atoi_all hL.tail.tail.tail.tail, atoi_all hL.tail.tail.tail.tail.tail, itoa_all, bif_or1, bif_or0, numBad_def]
    cases hB : numBad ws.tail.tail.tail.tail.tail (numBad ws.tail.tail.tail.tail (numBad ws.tail.tail.tail (nextB ws.tail.tail (numBad ws.tail (numBad ws false))))) with
    | true => exact ⟨_, false, rfl, fun h => by cases h⟩
    | false =>
      cases hz : decide (((ws.tail.tail.tail.tail.tail.tail.length : Nat) : Int) = 0) with
      | false => exact ⟨_, false, by simp only [Bool.not_false, cond_true, hz]; rfl, fun h => by cases h⟩
      | true =>
        refine ⟨_, true, by simp only [Bool.not_false, cond_true, hz]; rfl, fun _ => ⟨?_, atoi_i64 _, i64_zero, atoi_i64 _, i64_zero, by simp, atoi_i64 _, i64_zero, atoi_i64 _, atoi_i64 _, by simp⟩⟩
        obtain ⟨hB, q6⟩ := num_more hB
        obtain ⟨hB, q5⟩ := num_more hB
        obtain ⟨hB, q4⟩ := num_more hB
        have h := two (b := true) hB
        rw [q4, q5, q6, len_nil hz, hword] at h
        exact congrArg _ h
  · simp only [Int.reduceEq, Int.reduceLT, decide_true, decide_false, cond_true, cond_false, Option.bind_some, atoi_all hL.tail.tail.tail, itoa_all, bif_or1, bif_or0, numBad_def]
    cases hB : numBad ws.tail.tail.tail (nextB ws.tail.tail (numBad ws.tail (numBad ws false))) with
    | true => exact ⟨_, false, rfl, fun h => by cases h⟩
    | false =>
      cases hz : decide (((ws.tail.tail.tail.tail.length : Nat) : Int) = 0) with
      | false => exact ⟨_, false, by simp only [Bool.not_false, cond_true, hz]; rfl, fun h => by cases h⟩
      | true =>
        refine ⟨_, true, by simp only [Bool.not_false, cond_true, hz]; rfl, fun _ => ⟨?_, atoi_i64 _, i64_zero, atoi_i64 _, i64_zero, by simp, atoi_i64 _, i64_zero, i64_zero, i64_zero, by simp⟩⟩
        obtain ⟨hB, q4⟩ := num_more hB
        have h := two (b := true) hB
        rw [q4, len_nil hz, hword] at h
        exact congrArg _ h
  · simp only [Int.reduceEq, Int.reduceLT, decide_true, decide_false, cond_true, cond_false, Option.bind_some, atoi_all hL.tail.tail.tail, itoa_all, bif_or1, bif_or0, numBad_def]
    cases hB : numBad ws.tail.tail.tail (nextB ws.tail.tail (numBad ws.tail (numBad ws false))) with
    | true => exact ⟨_, false, rfl, fun h => by cases h⟩
    | false =>
      cases hz : decide (((ws.tail.tail.tail.tail.length : Nat) : Int) = 0) with
      | false => exact ⟨_, false, by simp only [Bool.not_false, cond_true, hz]; rfl, fun h => by cases h⟩
      | true =>
        refine ⟨_, true, by simp only [Bool.not_false, cond_true, hz]; rfl, fun _ => ⟨?_, atoi_i64 _, i64_zero, atoi_i64 _, i64_zero, by simp, atoi_i64 _, i64_zero, i64_zero, i64_zero, by simp⟩⟩
        obtain ⟨hB, q4⟩ := num_more hB
        have h := two (b := true) hB
        rw [q4, len_nil hz, hword] at h
        exact congrArg _ h
theorem hex_any : ∀ n : Nat, n < 256 → ¬ indexByte hexT (((n : Nat) : Int).toNat.toUInt8) < 0 → ∃ h : Nat, h < 16 ∧ indexByte hexT (((n : Nat) : Int).toNat.toUInt8) = (h : Int) ∧ (hexd h).toNat = n := by decide +kernel
theorem pair_byte : ∀ h l : Nat, h < 16 → l < 16 → ∃ b : Nat, b < 256 ∧ b / 16 = h ∧ b % 16 = l := fun h l h1 h2 => ⟨16 * h + l, by omega, by omega, by omega⟩
/-- Text out of any word. -/
theorem txt_all {D : T_5} (hs : D.2.2.1.length ≤ 1000000000) (ho : D.2.2.1.length % 2 = 1) : ∀ (n i : Nat) (out : Txt), D.2.2.1.length = i + 2 * n → out.length ≤ i → ∀ T : List Txt × Bool,
    (∃ m, loopR (r31_L1 D) ((), ((), ((), ((i : Int), (T, out.map fun b => (b.toNat : Int)))))) = some (.inl ((), ((), (T, (out ++ m).map fun b => (b.toNat : Int))))) ∧ D.2.2.1.drop i = hexOf m) ∨
      loopR (r31_L1 D) ((), ((), ((), ((i : Int), (T, out.map fun b => (b.toNat : Int)))))) = some (.inr ((), ([], (T.1, true)))) := by
  intro n
  induction n with
  | zero =>
    intro i out hi _ T
    refine .inl ⟨[], ?_, by rw [List.drop_of_length_le (by omega)]; rfl⟩
    rw [loopR_go]
    unfold r31_L1
    rw [bif_f (decide_eq_false (by simp only; omega)), goL_inr, List.append_nil]
  | succ n ih =>
    intro i out hi hout T
    obtain ⟨x, -, g0⟩ := idxN_is (xs := D.2.2.1) (n := i) (by omega)
    obtain ⟨y, -, g1⟩ := idxN_is (xs := D.2.2.1) (n := i + 1) (by omega)
    have hw : Go.IntKind.wrap .i64 ((i : Int) + 1) = ((i + 1 : Nat) : Int) := by rw [wrap_i64 (by unfold i64; omega)]; omega
    have hw2 : Go.IntKind.wrap .i64 ((i : Int) + 2) = ((i + 2 : Nat) : Int) := by rw [wrap_i64 (by unfold i64; omega)]; omega
    have hr : roomOk false (out.map fun b => (b.toNat : Int)).length 1 1 = true := roomOk_true (by rw [List.length_map]; omega)
    have r1 : r55 (hexT, ((x.toNat : Nat) : Int)) = some (indexByte hexT (((x.toNat : Nat) : Int).toNat.toUInt8)) := rfl
    have r2 : r55 (hexT, ((y.toNat : Nat) : Int)) = some (indexByte hexT (((y.toNat : Nat) : Int).toNat.toUInt8)) := rfl
    have c1 := hex_any x.toNat x.toNat_lt
    have c2 := hex_any y.toNat y.toNat_lt
    generalize indexByte hexT (((x.toNat : Nat) : Int).toNat.toUInt8) = u at r1 c1
    generalize indexByte hexT (((y.toNat : Nat) : Int).toNat.toUInt8) = v at r2 c2
    unfold hexT at r1 r2
    by_cases hu : u < 0
    · right
      rw [loopR_go]
      unfold r31_L1
      simp only [bif_t (decide_eq_true (show (i : Int) < (D.2.2.1.length : Int) by omega)), hw, idxI_nn, g0, g1, Option.bind_some, r1, r2, decide_eq_true hu, Bool.not_true, cond_true, cond_false, goL_inr]
    by_cases hv : v < 0
    · right
      rw [loopR_go]
      unfold r31_L1
      simp only [bif_t (decide_eq_true (show (i : Int) < (D.2.2.1.length : Int) by omega)), hw, idxI_nn, g0, g1, Option.bind_some, r1, r2, decide_eq_false hu, decide_eq_true hv, Bool.not_false, cond_true, goL_inr]
    obtain ⟨a, a1, rfl, a3⟩ := c1 hu
    obtain ⟨b, b1, rfl, b3⟩ := c2 hv
    obtain ⟨z, z1, z2, z3⟩ := pair_byte a b a1 b1
    have q3 := byte_back z z1
    rw [z2, z3] at q3
    have hz : (UInt8.ofNat z).toNat = z := by simp; omega
    have hstep : r31_L1 D ((), ((), ((), ((i : Int), (T, out.map fun b => (b.toNat : Int)))))) = some (.inl ((), ((), ((), (((i + 2 : Nat) : Int), (T, (out ++ [UInt8.ofNat z]).map fun b => (b.toNat : Int))))))) := by
      unfold r31_L1
      simp only [bif_t (decide_eq_true (show (i : Int) < (D.2.2.1.length : Int) by omega)), hw, idxI_nn, g0, g1, Option.bind_some, r1, r2, decide_eq_false hu, decide_eq_false hv, Bool.not_false, cond_true, cond_false, hr, hw2, q3, app_eq]
      simp [hz]
    have hdrop : D.2.2.1.drop i = x :: y :: D.2.2.1.drop (i + 2) := by
      rw [drop_cons g0, drop_cons g1]
    rcases ih (i + 2) (out ++ [UInt8.ofNat z]) (by omega) (by simp only [List.length_append, List.length_cons, List.length_nil]; omega) T with ⟨m, h1, h2⟩ | h1
    · refine .inl ⟨UInt8.ofNat z :: m, ?_, ?_⟩
      · rw [loopR_go, hstep, goL_inl, h1]; simp
      · rw [hdrop, h2]
        have e1 : hexd (z / 16) = x := UInt8.toNat_inj.1 (by rw [z2]; exact a3)
        have e2 : hexd (z % 16) = y := UInt8.toNat_inj.1 (by rw [z3]; exact b3)
        show x :: y :: hexOf m = hexOf (UInt8.ofNat z :: m)
        simp only [hexOf, List.flatMap_cons, hz, e1, e2]
        rfl
    · right
      rw [loopR_go, hstep, goL_inl, h1]
theorem says_type {s : Txt} {ws : List Txt} (hs : r33 (s, [32]) = some (wordOf 8 :: ws)) (hL : AllLen ws) (hlen : (nextW ws.tail.tail).length ≤ 1000000000) : ∃ a ok, r31 s = some (a, ok) ∧ (ok = true → Says (wordOf 8 :: ws) a) := by
  have hf := find_word (k := 8) (by omega) (by omega)
  have hw : Go.IntKind.wrap .i64 (8 - 1 + 1) = 8 := by decide
  have two : nextB ws.tail.tail (numBad ws.tail (numBad ws false)) = false → ws = itoa (atoiV (nextW ws)).1 :: itoa (atoiV (nextW ws.tail)).1 :: nextW ws.tail.tail :: ws.tail.tail.tail := by
    intro h
    obtain ⟨h, q3⟩ := nextB_no h
    obtain ⟨h, q2⟩ := num_more h
    obtain ⟨-, q1⟩ := num_more h
    rw [← q3, ← q2, ← q1]
  unfold r31
  simp only [hs, Option.bind_some, c_len, c_in, c_idx, c_ok, c_mid, hf, hw, cond_true, cond_false]
  simp only [Option.bind_some, cond_true, cond_false, decide_true, Bool.not_true, Bool.not_false, Int.reduceEq, decide_false, next1, next2, next3, atoi_all hL, atoi_all hL.tail, itoa_all, bif_or1, bif_or0, numBad_def]
  generalize nextB ws.tail.tail (numBad ws.tail (numBad ws false)) = B at two ⊢
  generalize hwd : nextW ws.tail.tail = w at two hlen ⊢
  cases hpar : decide (Int.tmod ((w.length : Nat) : Int) 2 = 1) with
  | false => exact ⟨_, false, by simp only [Bool.not_false, Bool.not_true, cond_false, cond_true, Option.bind_some]; rfl, fun h => by cases h⟩
  | true =>
    have hodd : w.length % 2 = 1 := by
      have h := of_decide_eq_true hpar
      rw [Int.tmod_eq_emod_of_nonneg (by omega)] at h
      omega
    cases w with
    | nil => simp at hodd
    | cons x r =>
      have e0 : idxI (x :: r) (0 : Int) = some x := rfl
      simp only [Bool.not_false, Bool.not_true, cond_true, cond_false, Option.bind_some, e0]
      cases h46 : decide ((↑(UInt8.toNat x) : Int) = 46) with
      | false => exact ⟨_, false, by simp only [Bool.not_false, cond_true, Option.bind_some, Bool.not_true, cond_false]; rfl, fun h => by cases h⟩
      | true =>
        have hx : x = 46 := UInt8.toNat_inj.1 (by have h := of_decide_eq_true h46; have h2 : x.toNat = 46 := (by omega); exact h2)
        simp only [Bool.not_true, cond_false]
        have ht := txt_all (D := ((), ((), (x :: r, (ws.tail.tail.tail, B))))) hlen hodd (r.length / 2) 1 [] (by simp only [List.length_cons] at hodd ⊢; omega) (by simp) (ws.tail.tail.tail, B)
        rcases ht with ⟨m, h1, h2⟩ | h1
        · have h1' : loopR (r31_L1 ((), ((), (x :: r, (ws.tail.tail.tail, B))))) ((), ((), ((), ((1 : Int), ((ws.tail.tail.tail, B), ([] : List Int)))))) = _ := h1
          rw [h1']
          simp only [Option.bind_some, Sum.elim_inl, List.nil_append, bytes_back]
          cases B with
          | true => exact ⟨_, false, rfl, fun h => by cases h⟩
          | false =>
            cases hz : decide (((ws.tail.tail.tail.length : Nat) : Int) = 0) with
            | false => exact ⟨_, false, by simp only [Bool.not_false, cond_true, hz]; rfl, fun h => by cases h⟩
            | true =>
              refine ⟨_, true, by simp only [Bool.not_false, cond_true, hz]; rfl, fun _ => ⟨?_, atoi_i64 _, i64_zero, atoi_i64 _, i64_zero, by simp, i64_zero, i64_zero, i64_zero, i64_zero, by simp⟩⟩
              have h := two rfl
              have hr : x :: r = 46 :: hexOf m := by rw [hx]; exact congrArg _ h2
              rw [hr, len_nil hz] at h
              exact congrArg _ h
        · have h1' : loopR (r31_L1 ((), ((), (x :: r, (ws.tail.tail.tail, B))))) ((), ((), ((), ((1 : Int), ((ws.tail.tail.tail, B), ([] : List Int)))))) = _ := h1
          rw [h1']
          exact ⟨_, false, rfl, fun h => by cases h⟩
theorem one_says (s : Txt) (hl : s.length ≤ 100000000) : ∃ a ok, r31 s = some (a, ok) ∧ (ok = true → Says (splitC 32 s) a) := by
  have hs := Sp.split_is 32 (s := s) (by omega)
  have hall : ∀ w ∈ splitC 32 s, w.length ≤ s.length := fun w hw => by
    have h := joinC_split 32 s
    have : ∀ {ws : List Txt} {w : Txt}, w ∈ ws → w.length ≤ (joinC 32 ws).length := by
      intro ws
      induction ws with
      | nil => intro w h; cases h
      | cons v ws ih =>
        intro w h
        rw [join_cons, List.length_append]
        rcases List.mem_cons.1 h with rfl | h
        · omega
        · have : w.length ≤ (ws.flatMap fun x => (32 : UInt8) :: x).length := by
            clear ih
            induction ws with
            | nil => cases h
            | cons u ws ih2 =>
              rw [List.flatMap_cons, List.length_append, List.length_cons]
              rcases List.mem_cons.1 h with rfl | h
              · omega
              · have := ih2 (List.mem_cons_of_mem _ h) h; omega
          omega
    have h2 := this hw
    rw [h] at h2; exact h2
  have hcount : (splitC 32 s).length ≤ 100000001 := by rw [splitC_length]; have := List.count_le_length (a := (32 : UInt8)) (l := s); omega
  cases hsp : splitC 32 s with
  | nil => exact absurd hsp (splitC_ne 32 s)
  | cons w ws =>
    rw [hsp] at hs hall hcount
    have hL : AllLen ws := fun v hv => by have := hall v (List.mem_cons_of_mem _ hv); omega
    obtain ⟨k, hf, hk⟩ := find_kind w
    rcases hk with rfl | ⟨k0, k1, rfl⟩
    · obtain ⟨a, h⟩ := says_none hs hf
      exact ⟨a, false, h, fun h => by cases h⟩
    have hks : k = 1 ∨ (k = 2 ∨ k = 3 ∨ k = 4) ∨ k = 5 ∨ k = 6 ∨ k = 7 ∨ k = 8 := by omega
    rcases hks with rfl | hp | rfl | rfl | rfl | rfl
    · exact says_ask hs hL
    · exact says_path hp hs hL
    · exact says_tick hs
    · exact says_crash hs hL (by simp only [List.length_cons] at hcount; omega)
    · exact says_start hs hL
    · refine says_type hs hL ?_
      cases h : ws.tail.tail with
      | nil => simp [nextW]
      | cons v r =>
        have := hall v (List.mem_cons_of_mem _ (List.mem_of_mem_tail (List.mem_of_mem_tail (by rw [h]; exact List.mem_cons_self))))
        show v.length ≤ _
        omega
end Go.Hl
