/- Messages: read as they were written. -/
import Derived.Test.YtohfplomliampaaDoorHfWireMsg
namespace Go.Hf
open Go.RowKit Go.Proofs Go.V

def opt (b : Bool) (l : List Int) : List Int := bif b then l else []

theorem opt_len {b : Bool} {k : Nat} {n : Int} : (opt b (be k n)).length = on b k := by cases b <;> simp [opt, on, length_be]

def bitN (b : Bool) : Int := bif b then 1 else 0

/-- A message as bytes. -/
def encM (p : Parts) (m : Msg) : List Int :=
  be 1 m.1 ++ be 1 m.2.1 ++ be 1 m.2.2.1 ++ be 1 m.2.2.2.1.1 ++ be 3 m.2.2.2.1.2 ++ opt p.1 (be 1 m.2.2.2.2.1) ++ opt p.2.1 (be 1 m.2.2.2.2.2.1) ++ opt p.2.2.1 (be 4 m.2.2.2.2.2.2.1) ++ opt p.2.2.2.1 (be 3 m.2.2.2.2.2.2.2.1) ++
    opt p.2.2.2.2.1 (be 3 m.2.2.2.2.2.2.2.2.1) ++ opt p.2.2.2.2.2.1 (be 1 (bitN m.2.2.2.2.2.2.2.2.2.1)) ++ opt p.2.2.2.2.2.2.1 (be 1 m.2.2.2.2.2.2.2.2.2.2)

theorem put1 {b : List Int} {n : Int} (hl : b.length ≤ 900) : r44 (b, (n, 1)) = some (b ++ be 1 n) := put_is (k := 1) (by omega) hl
theorem put3 {b : List Int} {n : Int} (hl : b.length ≤ 900) : r44 (b, (n, 3)) = some (b ++ be 3 n) := put_is (k := 3) (by omega) hl
theorem put4 {b : List Int} {n : Int} (hl : b.length ≤ 900) : r44 (b, (n, 4)) = some (b ++ be 4 n) := put_is (k := 4) (by omega) hl

theorem putBit {b : List Int} {v : Bool} (hl : b.length ≤ 900) : r46 (b, v) = some (b ++ be 1 (bitN v)) := by
  unfold r46
  cases v
  · simp only [cond_false, Option.bind_some]; rw [put1 hl]; rfl
  · simp only [cond_true, Option.bind_some]; rw [put1 hl]; rfl

theorem putTxn {b : List Int} {t : Int × Int} (hl : b.length ≤ 800) : r45 (b, t) = some (b ++ be 1 t.1 ++ be 3 t.2) := by
  unfold r45
  simp only
  rw [put1 (by omega)]
  simp only [Option.bind_some]
  rw [put3 (by simp [length_be]; omega)]
  rfl

theorem optPut {b : List Int} {o : Bool} {k : Nat} {n : Int} {g : Option (List Int)} (h : g = some (b ++ be k n)) : (bif o then Option.bind g fun y => some ((), y) else some ((), b)) = some ((), b ++ opt o (be k n)) := by
  cases o
  · simp [opt]
  · simp [opt, h]

theorem enc_of {c : Cfg} {m : Msg} (hm : r33 (c, m) = some 0) {p : Parts} (hp : idxI tab1 m.1 = some p) : r31 (c, m) = some (encM p m, 0) := by
  have lo : ∀ (b : Bool) (k : Nat), on b k ≤ k := fun b k => by cases b <;> simp [on]
  have l1 := lo p.1 1
  have l2 := lo p.2.1 1
  have l3 := lo p.2.2.1 4
  have l4 := lo p.2.2.2.1 3
  have l5 := lo p.2.2.2.2.1 3
  have l6 := lo p.2.2.2.2.2.1 1
  unfold r31
  simp only [hm, Option.bind_some, hp]
  rw [bif_f (by rfl)]
  rw [put1 (by simp), Option.bind_some, put1 (by simp [length_be]), Option.bind_some, put1 (by simp [length_be]), Option.bind_some, putTxn (by simp [length_be]), Option.bind_some]
  rw [optPut (put1 (by simp [length_be])), Option.bind_some]
  simp only
  rw [optPut (put1 (by simp [length_be, opt_len]; omega)), Option.bind_some]
  simp only
  rw [optPut (put4 (by simp [length_be, opt_len]; omega)), Option.bind_some]
  simp only
  rw [optPut (put3 (by simp [length_be, opt_len]; omega)), Option.bind_some]
  simp only
  rw [optPut (put3 (by simp [length_be, opt_len]; omega)), Option.bind_some]
  simp only
  rw [optPut (putBit (by simp [length_be, opt_len]; omega)), Option.bind_some]
  simp only
  rw [optPut (put1 (by simp [length_be, opt_len]; omega)), Option.bind_some]
  rfl

theorem enc_is {c : Cfg} (hc : CfgOk c) {m : Msg} (hm : MsgOk c m) {p : Parts} (hp : idxI tab1 m.1 = some p) : r31 (c, m) = some (encM p m, 0) := enc_of (msg_ok hc hm) hp

theorem enc_len (p : Parts) (m : Msg) : (encM p m).length = tot p := by
  unfold encM tot
  simp only [List.length_append, opt_len, length_be]

theorem tot_le (p : Parts) : tot p ≤ 21 := by
  have lo : ∀ (b : Bool) (k : Nat), on b k ≤ k := fun b k => by cases b <;> simp [on]
  have l1 := lo p.1 1
  have l2 := lo p.2.1 1
  have l3 := lo p.2.2.1 4
  have l4 := lo p.2.2.2.1 3
  have l5 := lo p.2.2.2.2.1 3
  have l6 := lo p.2.2.2.2.2.1 1
  have l7 := lo p.2.2.2.2.2.2.1 1
  unfold tot
  omega

theorem byt_app {l m : List Int} (h1 : Byt l) (h2 : Byt m) : Byt (l ++ m) := fun x hx => (List.mem_append.1 hx).elim (h1 x) (h2 x)
theorem byt_opt {b : Bool} {k : Nat} {n : Int} : Byt (opt b (be k n)) := by
  cases b
  · intro x hx; simp [opt] at hx
  · exact byt_be k n

theorem enc_byt (p : Parts) (m : Msg) : Byt (encM p m) := by
  unfold encM
  exact byt_app (byt_app (byt_app (byt_app (byt_app (byt_app (byt_app (byt_app (byt_app (byt_app (byt_app (byt_be _ _) (byt_be _ _)) (byt_be _ _)) (byt_be _ _)) (byt_be _ _)) byt_opt) byt_opt) byt_opt) byt_opt) byt_opt) byt_opt) byt_opt

theorem tv_be {full : List Int} {w c k : Nat} {n : Int} (h : (full.drop c).take k = be k n) (hw : c + k ≤ w) (hk : k = 1 ∨ k = 3 ∨ k = 4) (h0 : 0 ≤ n) (h1 : n < 256 ^ k) : tv full w c k = n := by
  unfold tv
  rw [if_pos hw, h, nval_be hk h0 h1]

theorem tv_le {full : List Int} {w c k : Nat} {n : Int} (h : (full.drop c).take k = be k n) (hk : k = 1 ∨ k = 3 ∨ k = 4) (h0 : 0 ≤ n) (h1 : n < 256 ^ k) : tv full w c k ≤ n := by
  by_cases hw : c + k ≤ w
  · rw [tv_be h hw hk h0 h1]; omega
  · unfold tv; rw [if_neg hw]; exact h0

def zeroM : Msg := ((0 : Int), ((0 : Int), ((0 : Int), (((0 : Int), (0 : Int)), ((0 : Int), ((0 : Int), ((0 : Int), ((0 : Int), ((0 : Int), (false, (0 : Int)))))))))))

theorem fin_bad {c : Cfg} {f : MsgF} : finD c ((), ((), (([], 5), f))) = some (zeroM, 5) := by
  unfold finD
  have : r54 ([], 5) = some ([], 5) := by unfold r54; rfl
  rw [this]
  rfl

theorem fin_more {c : Cfg} {f : MsgF} {t : Int} : finD c ((), ((), (([t], 0), f))) = some (zeroM, 4) := by
  unfold finD
  have : r54 ([t], 0) = some ([t], 4) := by unfold r54; rfl
  rw [this]
  rfl

theorem fin_ok {c : Cfg} {f : MsgF} (h : r33 (c, (f.1, f.2.1, f.2.2.1, (f.2.2.2.1, f.2.2.2.2.1), f.2.2.2.2.2)) = some 0) : finD c ((), ((), (([], 0), f))) = some ((f.1, f.2.1, f.2.2.1, (f.2.2.2.1, f.2.2.2.2.1), f.2.2.2.2.2), 0) := by
  unfold finD
  have : r54 ([], 0) = some ([], 0) := by unfold r54; rfl
  rw [this]
  simp only [Option.bind_some, decide_true, cond_true, h]
  rfl

end Go.Hf
