/- No message has two forms: whatever bytes there are, what is read of them is written as they were. -/
import Derived.Test.YtohfplomliampaaDoorHfWireBack
namespace Go.Hf
open Go.RowKit Go.Proofs Go.V

theorem be_nval : ∀ (k : Nat) {l : List Int}, l.length = k → Byt l → be k (nval l) = l
  | 0, l, hl, _ => by
    have : l = [] := List.length_eq_zero_iff.mp hl
    subst this; rfl
  | k + 1, l, hl, hb => by
    have key : ∀ (n : Nat) (l : List Int) (a : Int), l.length = n → Byt l → be n (l.foldl (fun a x => a * 256 + x) a) = l ∧ (l.foldl (fun a x => a * 256 + x) a) / 256 ^ n = a := by
      intro n
      induction n with
      | zero =>
        intro l a hl _
        have : l = [] := List.length_eq_zero_iff.mp hl
        subst this
        exact ⟨rfl, by simp⟩
      | succ n ih =>
        intro l a hl hb
        cases l with
        | nil => simp at hl
        | cons x l =>
          have hx := hb x List.mem_cons_self
          obtain ⟨h1, h2⟩ := ih l (a * 256 + x) (by simpa using hl) (fun y hy => hb y (List.mem_cons_of_mem _ hy))
          simp only [List.foldl_cons]
          refine ⟨?_, ?_⟩
          · simp only [be]
            rw [h1, h2]
            congr 1
            omega
          · rw [Int.pow_succ, ← Int.ediv_ediv_of_nonneg (Int.pow_nonneg (by decide)), h2]
            omega
    exact (key (k + 1) l 0 hl hb).1

theorem be_tv {b : List Int} (hb : Byt b) {c k : Nat} (h : c + k ≤ b.length) : be k (tv b b.length c k) = (b.drop c).take k := by
  unfold tv
  rw [if_pos h]
  exact be_nval k (by simp; omega) (fun x hx => hb x (List.mem_of_mem_drop (List.mem_of_mem_take hx)))

theorem opt_piece {b : List Int} (hb : Byt b) {o : Bool} {c k : Nat} (h : c + on o k ≤ b.length) : opt o (be k (ov o (tv b b.length c k))) = opt o ((b.drop c).take k) := by
  cases o with
  | false => rfl
  | true => exact be_tv hb h

theorem opt_tele (b : List Int) (o : Bool) (c k : Nat) : opt o ((b.drop c).take k) ++ b.drop (c + on o k) = b.drop c := by
  cases o with
  | false => rfl
  | true =>
    show (b.drop c).take k ++ b.drop (c + k) = b.drop c
    rw [← List.drop_drop, List.take_append_drop]

theorem take_tele (b : List Int) (c k : Nat) : (b.drop c).take k ++ b.drop (c + k) = b.drop c := by
  rw [← List.drop_drop, List.take_append_drop]

/-- What is read of just so many bytes is written so. -/
theorem enc_dec {b : List Int} (hb : Byt b) {p : Parts} (hw : b.length = tot p) (hbit : p.2.2.2.2.2.1 = true → tv b b.length (cbit p) 1 ≤ 1) {f : MsgF} (hf : f = msgD p b b.length (tv b b.length 0 1)) :
    encM p (f.1, f.2.1, f.2.2.1, (f.2.2.2.1, f.2.2.2.2.1), f.2.2.2.2.2) = b := by
  subst hf
  have hbitp : opt p.2.2.2.2.2.1 (be 1 (bitN (p.2.2.2.2.2.1 && decide (tv b b.length (cbit p) 1 = 1)))) = opt p.2.2.2.2.2.1 ((b.drop (cbit p)).take 1) := by
    cases ho : p.2.2.2.2.2.1 with
    | false => rfl
    | true =>
      have h1 := hbit ho
      have hlt : cbit p + 1 ≤ b.length := by rw [hw]; unfold tot cbit; rw [ho]; simp only [on, cond_true]; omega
      have h2 := be_tv hb hlt
      have h0 : 0 ≤ tv b b.length (cbit p) 1 := by
        unfold tv
        rw [if_pos hlt]
        exact (nval_bound 1 (by simp; omega) (fun x hx => hb x (List.mem_of_mem_drop (List.mem_of_mem_take hx)))).1
      have h3 : bitN (true && decide (tv b b.length (cbit p) 1 = 1)) = tv b b.length (cbit p) 1 := by
        by_cases e : tv b b.length (cbit p) 1 = 1
        · rw [decide_eq_true e, e]; rfl
        · rw [decide_eq_false e]; show (0 : Int) = _; omega
      rw [h3]
      exact h2
  have hd : b.drop (tot p) = [] := by rw [← hw]; exact List.drop_length
  have ht := hw
  unfold tot at ht
  unfold encM msgD
  simp only
  rw [hbitp, be_tv hb (by omega : 0 + 1 ≤ b.length), be_tv hb (by omega : 1 + 1 ≤ b.length), be_tv hb (by omega : 2 + 1 ≤ b.length), be_tv hb (by omega : 3 + 1 ≤ b.length), be_tv hb (by omega : 4 + 3 ≤ b.length)]
  rw [opt_piece hb (by omega), opt_piece hb (by omega), opt_piece hb (by omega), opt_piece hb (by omega), opt_piece hb (by omega), opt_piece hb (by unfold cbit; omega)]
  have e7 := opt_tele b p.2.2.2.2.2.2.1 (cbit p + on p.2.2.2.2.2.1 1) 1
  have e6 := opt_tele b p.2.2.2.2.2.1 (cbit p) 1
  have e5 := opt_tele b p.2.2.2.2.1 (7 + on p.1 1 + on p.2.1 1 + on p.2.2.1 4 + on p.2.2.2.1 3) 3
  have e4 := opt_tele b p.2.2.2.1 (7 + on p.1 1 + on p.2.1 1 + on p.2.2.1 4) 3
  have e3 := opt_tele b p.2.2.1 (7 + on p.1 1 + on p.2.1 1) 4
  have e2 := opt_tele b p.2.1 (7 + on p.1 1) 1
  have e1 := opt_tele b p.1 7 1
  have ht7 : b.drop (cbit p + on p.2.2.2.2.2.1 1 + on p.2.2.2.2.2.2.1 1) = [] := hd
  rw [ht7, List.append_nil] at e7
  rw [← e7] at e6
  have e5 : opt p.2.2.2.2.1 ((b.drop (7 + on p.1 1 + on p.2.1 1 + on p.2.2.1 4 + on p.2.2.2.1 3)).take 3) ++ b.drop (cbit p) = b.drop (7 + on p.1 1 + on p.2.1 1 + on p.2.2.1 4 + on p.2.2.2.1 3) := e5
  rw [← e6] at e5
  rw [← e5] at e4
  rw [← e4] at e3
  rw [← e3] at e2
  rw [← e2] at e1
  have d5 := take_tele b 4 3
  have d4 := take_tele b 3 1
  have d3 := take_tele b 2 1
  have d2 := take_tele b 1 1
  have d1 := take_tele b 0 1
  simp only [Nat.reduceAdd, List.drop_zero] at d1 d2 d3 d4 d5
  rw [← e1] at d5
  rw [← d5] at d4
  rw [← d4] at d3
  rw [← d3] at d2
  rw [← d2] at d1
  simp only [List.drop_zero, List.append_assoc]
  exact d1

end Go.Hf
