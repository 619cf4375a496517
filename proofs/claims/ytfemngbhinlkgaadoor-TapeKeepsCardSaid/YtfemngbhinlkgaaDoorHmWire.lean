/- Bytes written and read: what the writer puts, the reader takes. -/
import Derived.Test.YtfemngbhinlkgaaDoorHmRec
namespace Go.Hm
open Go.RowKit Go.Proofs Go.V

/-! ### numbers of bytes -/
def nval (l : List Int) : Int := l.foldl (fun a x => a * 256 + x) 0

def Byt (l : List Int) : Prop := ∀ x ∈ l, 0 ≤ x ∧ x < 256

theorem nval_snoc (l : List Int) (x : Int) : nval (l ++ [x]) = nval l * 256 + x := by simp [nval]

theorem nval_bound : ∀ (n : Nat) {l : List Int}, l.length = n → Byt l → 0 ≤ nval l ∧ nval l < 256 ^ n
  | 0, l, hl, _ => by
    have : l = [] := List.length_eq_zero_iff.mp hl
    subst this
    simp [nval]
  | n + 1, l, hl, hb => by
    have hne : l ≠ [] := by intro e; subst e; simp at hl
    have e := (List.dropLast_concat_getLast hne).symm
    have h1 := nval_bound n (l := l.dropLast) (by simp [hl]) (fun x hx => hb x (List.dropLast_subset l hx))
    have h2 := hb _ (List.getLast_mem hne)
    rw [e, nval_snoc, Int.pow_succ]
    omega

theorem or_byte {a x : Int} (h0 : 0 ≤ a) (h1 : a < 281474976710656) (h2 : 0 ≤ x) (h3 : x < 256) : Go.bits .or .i64 (Go.IntKind.wrap .i64 (a * 2 ^ 8)) (Go.IntKind.wrap .i64 x) = a * 256 + x := by
  rw [wrap_i64 (n := a * 2 ^ 8) (by unfold i64; omega), wrap_i64 (n := x) (by unfold i64; omega)]
  obtain ⟨m, rfl⟩ := Int.eq_ofNat_of_zero_le h0
  obtain ⟨k, rfl⟩ := Int.eq_ofNat_of_zero_le h2
  show Go.IntKind.wrap .i64 ((BitVec.ofInt 64 ((m : Int) * 2 ^ 8) ||| BitVec.ofInt 64 (k : Int)).toNat : Int) = _
  have e1 : BitVec.ofInt 64 ((m : Int) * 2 ^ 8) = BitVec.ofNat 64 (2 ^ 8 * m) := by
    rw [show (m : Int) * 2 ^ 8 = ((2 ^ 8 * m : Nat) : Int) by omega]
    exact BitVec.ofInt_natCast 64 _
  have e2 : BitVec.ofInt 64 (k : Int) = BitVec.ofNat 64 k := BitVec.ofInt_natCast 64 _
  have e3 : (BitVec.ofNat 64 (2 ^ 8 * m) ||| BitVec.ofNat 64 k).toNat = 2 ^ 8 * m + k := by
    rw [BitVec.toNat_or, BitVec.toNat_ofNat, BitVec.toNat_ofNat, Nat.mod_eq_of_lt (by omega), Nat.mod_eq_of_lt (by omega)]
    exact (Nat.two_pow_add_eq_or_of_lt (i := 8) (by omega) m).symm
  rw [e1, e2, e3, wrap_i64 (by unfold i64; omega)]
  omega

/-! ### the reader -/
/-- Where the reader is: behind c bytes of the first w. -/
def sta (full : List Int) (w c : Nat) : List Int × Int := if c ≤ w then ((full.take w).drop c, 0) else ([], 5)

def tv (full : List Int) (w c k : Nat) : Int := if c + k ≤ w then nval ((full.drop c).take k) else 0

theorem take_loop {rest : List Int} {f : Int} {k : Nat} (hk : k ≤ 4) (hl : k ≤ rest.length) (hb : Byt rest) : loopR (r56_L0 ((rest, f), (k : Int))) (0, 0) = some (nval (rest.take k)) := by
  obtain ⟨r, h1, h2⟩ := loop_rule (body := r56_L0 ((rest, f), (k : Int))) (fun d => 0 ≤ d.2 ∧ d.2 ≤ k ∧ d.1 = nval (rest.take d.2.toNat)) (fun d => k - d.2.toNat) (fun r => r = nval (rest.take k)) (fun d hd => by
    obtain ⟨d1, d2⟩ := d
    obtain ⟨g0, g1, g2⟩ := hd
    simp only at g0 g1 g2
    obtain ⟨i, rfl⟩ := Int.eq_ofNat_of_zero_le g0
    simp only [Int.toNat_natCast] at g2
    unfold r56_L0
    simp only [Int.toNat_natCast]
    by_cases hi : i < k
    · refine .inl ⟨(nval (rest.take (i + 1)), ((i : Int) + 1)), ?_, ?_, ?_⟩
      · obtain ⟨x, hx1, hx2⟩ := idxN_is (xs := rest) (n := 0 + i) (by omega)
        rw [Nat.zero_add] at hx2
        have hbx := hb x (List.mem_of_getElem? hx2)
        have hnb := nval_bound i (l := rest.take i) (by simp; omega) (fun y hy => hb y (List.mem_of_mem_take hy))
        have hp : (256 : Int) ^ i ≤ 256 ^ 3 := by
          have : i = 0 ∨ i = 1 ∨ i = 2 ∨ i = 3 := by omega
          rcases this with rfl | rfl | rfl | rfl <;> decide
        rw [decide_eq_true (by omega : (i : Int) < (k : Int)), inB_true (by omega) (by omega), hx1]
        simp only [cond_true, Option.bind_some]
        rw [g2, or_byte hnb.1 (by have h9 : (256 : Int) ^ 3 = 16777216 := by decide
                                  omega) hbx.1 hbx.2, wrap_i64 (n := (i : Int) + 1) (by unfold i64; omega)]
        have : rest.take (i + 1) = rest.take i ++ [x] := by
          rw [List.take_add_one, hx2]; rfl
        rw [this, nval_snoc]
      · refine ⟨by simp only; omega, by simp only; omega, ?_⟩
        simp only
        rw [show ((i : Int) + 1).toNat = i + 1 by omega]
      · simp only
        rw [show ((i : Int) + 1).toNat = i + 1 by omega]
        omega
    · refine .inr ⟨d1, ?_, ?_⟩
      · rw [decide_eq_false (by omega : ¬ (i : Int) < (k : Int))]; rfl
      · rw [g2, show i = k by omega]) (0, 0) ⟨by simp, by simp, by simp [nval]⟩
  rw [h1, h2]

theorem take_sta {full : List Int} {w c k : Nat} (hk : k ≤ 4) (hk1 : 1 ≤ k) (hb : Byt full) (hw : w ≤ full.length) : r56 (sta full w c, (k : Int)) = some (tv full w c k, sta full w (c + k)) := by
  unfold r56 sta tv
  by_cases h1 : c ≤ w
  · rw [if_pos h1]
    have hlen : ((full.take w).drop c).length = w - c := by simp; omega
    by_cases h2 : c + k ≤ w
    · rw [if_pos h2, if_pos h2]
      simp only [hlen]
      rw [decide_eq_false (by omega : ¬ ((w - c : Nat) : Int) < (k : Int))]
      have ok1 : okB none (some (k : Int)) none (w - c) = true := by
        simp only [okB, Bool.and_eq_true]
        exact ⟨decide_eq_true (by omega), decide_eq_true (by omega)⟩
      have ok2 : okB (some (k : Int)) none none (w - c) = true := by
        simp only [okB, Bool.and_eq_true]
        exact ⟨decide_eq_true (by omega), decide_eq_true (by omega)⟩
      have hbr : Byt ((full.take w).drop c) := fun x hx => hb x (List.mem_of_mem_take (List.mem_of_mem_drop hx))
      rw [ok1, ok2, take_loop hk (by rw [hlen]; omega) hbr]
      simp only [cond_false, cond_true, Option.bind_some, midL, Int.toNat_natCast]
      have e1 : ((full.take w).drop c).take k = (full.drop c).take k := by
        rw [List.drop_take, List.take_take, Nat.min_eq_left (by omega)]
      have e2 : (((full.take w).drop c).drop k).take (w - c - k) = (full.take w).drop (c + k) := by
        rw [List.drop_drop, List.take_of_length_le (by simp; omega)]
      rw [e1, e2]
    · rw [if_neg h2, if_neg h2]
      simp only [hlen]
      rw [decide_eq_true (by omega : ((w - c : Nat) : Int) < (k : Int))]
      rfl
  · rw [if_neg h1, if_neg (by omega : ¬ c + k ≤ w), if_neg (by omega : ¬ c + k ≤ w)]
    simp only [List.length_nil]
    rw [decide_eq_true (by omega : ((0 : Nat) : Int) < (k : Int))]
    rfl

/-! ### the writer -/
def be (k : Nat) (n : Int) : List Int := match k with
  | 0 => []
  | k + 1 => (n / 256 ^ k % 256) :: be k n

theorem put_step {a : List Int × (Int × Int)} {i : Nat} {bs : List Int} (hi : i ≤ 3) (hl : bs.length ≤ 1000) : r38_L0 a ((), ((i : Int), bs)) = some (.inl ((), ((i : Int) - 1, bs ++ [a.2.1 / 256 ^ i % 256]))) := by
  unfold r38_L0
  simp only
  rw [decide_eq_true (by omega : (0 : Int) ≤ (i : Int)), wrap_i64 (n := 8 * (i : Int)) (by unfold i64; omega), decide_eq_false (by omega : ¬ 8 * (i : Int) < 0), roomOk_true (by omega), wrap_i64 (n := (i : Int) - 1) (by unfold i64; omega), app_eq]
  simp only [cond_true, cond_false]
  have : i = 0 ∨ i = 1 ∨ i = 2 ∨ i = 3 := by omega
  have hw : ∀ n : Int, Go.IntKind.wrap .u8 n = n % 256 := fun n => rfl
  have hp : (2 : Int) ^ (min (Int.toNat (8 * (i : Int))) (Go.IntKind.bits .i64)) = 256 ^ i := by
    rcases this with rfl | rfl | rfl | rfl <;> decide
  rw [hw, Int.fdiv_eq_ediv_of_nonneg _ (by rw [hp]; exact Int.pow_nonneg (by decide)), hp]
  rfl

theorem put_end {a : List Int × (Int × Int)} {bs : List Int} : r38_L0 a ((), (-1, bs)) = some (.inr ((), bs)) := by
  unfold r38_L0; rfl

theorem put_loop {a : List Int × (Int × Int)} : ∀ (k : Nat) {bs : List Int}, k ≤ 4 → bs.length + k ≤ 1000 → loopR (r38_L0 a) ((), ((k : Int) - 1, bs)) = some ((), bs ++ be k a.2.1)
  | 0, bs, _, _ => by
    rw [loopR_step]
    rw [show ((0 : Nat) : Int) - 1 = -1 by omega, put_end]
    simp [be]
  | k + 1, bs, hk, hl => by
    rw [loopR_step, show ((k + 1 : Nat) : Int) - 1 = (k : Int) by omega, put_step (by omega) (by omega)]
    simp only [Option.bind_some]
    rw [put_loop k (by omega) (by simp; omega)]
    simp [be]

theorem put_is {b : List Int} {n : Int} {k : Nat} (hk : k ≤ 4) (hl : b.length ≤ 900) : r38 (b, (n, (k : Int))) = some (b ++ be k n) := by
  unfold r38
  simp only
  rw [wrap_i64 (n := (k : Int) - 1) (by unfold i64; omega), put_loop k hk (by omega)]
  rfl

theorem length_be : ∀ (k : Nat) (n : Int), (be k n).length = k
  | 0, _ => rfl
  | k + 1, n => by simp [be, length_be k n]

theorem byt_be : ∀ (k : Nat) (n : Int), Byt (be k n)
  | 0, _ => fun x hx => by simp [be] at hx
  | k + 1, n => fun x hx => by
    rcases List.mem_cons.1 hx with e | e
    · rw [e]; omega
    · exact byt_be k n x e

theorem nval_be {n : Int} {k : Nat} (hk : k = 1 ∨ k = 3 ∨ k = 4) (h0 : 0 ≤ n) (h1 : n < 256 ^ k) : nval (be k n) = n := by
  rcases hk with rfl | rfl | rfl
  · have h9 : (256 : Int) ^ 1 = 256 := by decide
    simp [be, nval]; omega
  · have h9 : (256 : Int) ^ 3 = 16777216 := by decide
    simp [be, nval]; omega
  · have h9 : (256 : Int) ^ 4 = 4294967296 := by decide
    simp [be, nval]; omega

end Go.Hm
