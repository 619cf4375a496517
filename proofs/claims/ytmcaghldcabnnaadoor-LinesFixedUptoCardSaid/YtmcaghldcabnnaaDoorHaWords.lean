/- Texts: words between blanks, numbers as digits. -/
import Derived.Test.YtmcaghldcabnnaaDoorHaRun
import Derived.Test.YtmcaghldcabnnaaDoorLibK
namespace Go.V
open Go.Lib
abbrev Txt := List UInt8
/-! ### words -/
def splitC (c : UInt8) : Txt → List Txt
  | [] => [[]]
  | b :: l => if b = c then [] :: splitC c l else match splitC c l with
    | [] => [[b]]
    | w :: ws => (b :: w) :: ws
def joinC (c : UInt8) : List Txt → Txt
  | [] => []
  | [w] => w
  | w :: v :: ws => w ++ c :: joinC c (v :: ws)
theorem splitC_ne (c : UInt8) : ∀ l, splitC c l ≠ []
  | [] => by simp [splitC]
  | b :: l => by
    unfold splitC
    split
    · simp
    · split <;> simp
theorem splitC_one {c : UInt8} : ∀ {w : Txt}, c ∉ w → splitC c w = [w]
  | [], _ => rfl
  | b :: l, h => by
    have h1 : ¬ b = c := fun e => h (by rw [e]; exact List.mem_cons_self)
    have h2 := splitC_one (w := l) (fun e => h (List.mem_cons_of_mem _ e))
    simp only [splitC, if_neg h1, h2]
theorem splitC_app {c : UInt8} : ∀ {w : Txt} (r : Txt), c ∉ w → splitC c (w ++ c :: r) = w :: splitC c r
  | [], r, _ => by simp [splitC]
  | b :: l, r, h => by
    have h1 : ¬ b = c := fun e => h (by rw [e]; exact List.mem_cons_self)
    have h2 := splitC_app (w := l) r (fun e => h (List.mem_cons_of_mem _ e))
    simp only [List.cons_append, splitC, if_neg h1, h2]
theorem splitC_length (c : UInt8) : ∀ l, (splitC c l).length = l.count c + 1
  | [] => rfl
  | b :: l => by
    unfold splitC
    split
    · rename_i h
      subst h
      rw [List.length_cons, splitC_length b l, List.count_cons_self]
    · rename_i h
      have h2 := splitC_length c l
      rw [List.count_cons_of_ne (fun e => h e)]
      cases e : splitC c l with
      | nil => exact absurd e (splitC_ne c l)
      | cons w ws => rw [e] at h2; simpa using h2
theorem joinC_split (c : UInt8) : ∀ l, joinC c (splitC c l) = l
  | [] => rfl
  | b :: l => by
    have ih := joinC_split c l
    unfold splitC
    cases e : splitC c l with
    | nil => exact absurd e (splitC_ne c l)
    | cons v vs =>
      rw [e] at ih
      split
      · rename_i hb
        show [] ++ c :: joinC c (v :: vs) = b :: l
        rw [ih, hb]; rfl
      · cases vs with
        | nil =>
          show b :: v = b :: l
          rw [show v = l from ih]
        | cons u us =>
          show (b :: v) ++ c :: joinC c (u :: us) = b :: l
          have ih : v ++ c :: joinC c (u :: us) = l := ih
          rw [List.cons_append, ih]
theorem splitC_join {c : UInt8} : ∀ {ws : List Txt}, ws ≠ [] → (∀ w ∈ ws, c ∉ w) → splitC c (joinC c ws) = ws
  | [], h, _ => absurd rfl h
  | [w], _, h => splitC_one (h w (by simp))
  | w :: v :: ws, _, h => by
    show splitC c (w ++ c :: joinC c (v :: ws)) = _
    rw [splitC_app _ (h w (by simp)), splitC_join (ws := v :: ws) (by simp) (fun u hu => h u (List.mem_cons_of_mem _ hu))]
/-! ### where a byte is -/
theorem indexByte_no {c : UInt8} : ∀ {l : Txt}, c ∉ l → indexByte l c = -1
  | [], _ => rfl
  | b :: l, h => by
    have h1 : ¬ b = c := fun e => h (by rw [e]; exact List.mem_cons_self)
    have h2 := indexByte_no (l := l) (fun e => h (List.mem_cons_of_mem _ e))
    unfold indexByte
    rw [if_neg (by simpa using h1), h2]; rfl
theorem indexByte_app {c : UInt8} : ∀ {w : Txt} (r : Txt), c ∉ w → indexByte (w ++ c :: r) c = w.length
  | [], r, _ => by simp [indexByte]
  | b :: l, r, h => by
    have h1 : ¬ b = c := fun e => h (by rw [e]; exact List.mem_cons_self)
    have h2 := indexByte_app (w := l) r (fun e => h (List.mem_cons_of_mem _ e))
    unfold indexByte
    simp only [List.cons_append]
    rw [if_neg (by simpa using h1), h2, if_neg (by simp)]
    simp
theorem split_at_byte {c : UInt8} : ∀ {l : Txt}, c ∈ l → ∃ w r, l = w ++ c :: r ∧ c ∉ w
  | [], h => by simp at h
  | b :: l, h => by
    by_cases hb : b = c
    · subst hb; exact ⟨[], l, rfl, by simp⟩
    · have h : c ∈ l := by
        rcases List.mem_cons.1 h with h | h
        · exact absurd h.symm hb
        · exact h
      obtain ⟨w, r, e, hw⟩ := split_at_byte h
      refine ⟨b :: w, r, by rw [e]; rfl, fun hm => ?_⟩
      rcases List.mem_cons.1 hm with hm | hm
      · exact hb hm.symm
      · exact hw hm
/-! ### numbers as digits -/
theorem digit_toNat {d : Nat} (h : d < 10) : (UInt8.ofNat (48 + d)).toNat = 48 + d := by
  simp [UInt8.toNat_ofNat']; omega
theorem decDigits_digit (u : Nat) : ∀ b ∈ decDigits u, 48 ≤ b.toNat ∧ b.toNat ≤ 57 := by
  induction u using Nat.strongRecOn with
  | ind u ih =>
    intro b hb
    by_cases h : u < 10
    · rw [decDigits_one h, List.mem_singleton] at hb
      subst hb
      rw [digit_toNat h]; omega
    · rw [decDigits, dif_neg h, List.mem_append, List.mem_singleton] at hb
      rcases hb with hb | hb
      · exact ih (u / 10) (by omega) b hb
      · subst hb
        rw [digit_toNat (by omega)]; omega
theorem decDigits_ne (u : Nat) : decDigits u ≠ [] := by
  rw [decDigits]
  split <;> simp
theorem parse_app : ∀ (l : Txt) (acc : Nat) (b : UInt8), parseUint10 acc (l ++ [b]) = match parseUint10 acc l with | .ok u => parseUint10 u [b] | e => e
  | [], acc, b => rfl
  | c :: l, acc, b => by
    simp only [List.cons_append, parseUint10]
    split
    · split
      · rfl
      · split
        · rfl
        · exact parse_app l _ b
    · rfl
theorem parse_dec (u : Nat) (h : u < 18446744073709551616) : parseUint10 0 (decDigits u) = .ok u := by
  induction u using Nat.strongRecOn with
  | ind u ih =>
    by_cases hu : u < 10
    · rw [decDigits_one hu]
      simp only [parseUint10, digit_toNat hu]
      rw [if_pos (by omega), if_neg (by omega), if_neg (by omega)]
      congr 1; omega
    · rw [decDigits, dif_neg hu, parse_app, ih (u / 10) (by omega) (by omega)]
      simp only [parseUint10, digit_toNat (show u % 10 < 10 by omega)]
      rw [if_pos (by omega), if_neg (by omega), if_neg (by omega)]
      congr 1; omega
theorem atoi_dec {u : Nat} (h : u < 9223372036854775808) : atoiV (decDigits u) = ((u : Int), true) := by
  unfold atoiV atoiAll
  cases e : decDigits u with
  | nil => exact absurd e (decDigits_ne u)
  | cons c r =>
    have hc := decDigits_digit u c (by rw [e]; exact List.mem_cons_self)
    have h1 : ¬ (c.toNat = 43 ∨ c.toNat = 45) := by omega
    have h2 : ¬ c.toNat = 45 := by omega
    simp only [if_neg h1]
    rw [← e]
    unfold parseMag
    rw [if_neg (decDigits_ne u), parse_dec u (by omega)]
    simp only [h2, false_and, if_false, not_false_eq_true, true_and]
    rw [if_neg (by omega)]
theorem itoa_nat (u : Nat) : itoa (u : Int) = decDigits u := by
  unfold itoa
  rw [if_neg (by omega)]; rfl
theorem dec_no {u : Nat} {c : UInt8} (h : c.toNat < 48 ∨ 57 < c.toNat) : c ∉ decDigits u := fun hm => by
  have := decDigits_digit u c hm
  omega
end Go.V
