/- Records as bytes. -/
import Derived.Test.YtfemngbhinlkgaaDoorHmWire
namespace Go.Hm
open Go.RowKit Go.Proofs Go.V

theorem clone_is {l : List Int} (h : l.length ≤ 140737488351232) : r52 l = some l := by
  unfold r52
  refine nilR_eq (fun e => by rw [e]; rfl) ?_
  rw [roomOk_true (by omega)]
  rfl

def on (b : Bool) (k : Nat) : Nat := bif b then k else 0
def ov (b : Bool) (n : Int) : Int := bif b then n else 0

def opt (b : Bool) (l : List Int) : List Int := bif b then l else []

theorem opt_len {b : Bool} {k : Nat} {n : Int} : (opt b (be k n)).length = on b k := by cases b <;> simp [opt, on, length_be]

def bitN (b : Bool) : Int := bif b then 1 else 0

theorem put1 {b : List Int} {n : Int} (hl : b.length ≤ 900) : r38 (b, (n, 1)) = some (b ++ be 1 n) := put_is (k := 1) (by omega) hl
theorem put3 {b : List Int} {n : Int} (hl : b.length ≤ 900) : r38 (b, (n, 3)) = some (b ++ be 3 n) := put_is (k := 3) (by omega) hl
theorem put4 {b : List Int} {n : Int} (hl : b.length ≤ 900) : r38 (b, (n, 4)) = some (b ++ be 4 n) := put_is (k := 4) (by omega) hl

theorem putBit {b : List Int} {v : Bool} (hl : b.length ≤ 900) : r40 (b, v) = some (b ++ be 1 (bitN v)) := by
  unfold r40
  cases v
  · simp only [cond_false, Option.bind_some]; rw [put1 hl]; rfl
  · simp only [cond_true, Option.bind_some]; rw [put1 hl]; rfl

theorem putTxn {b : List Int} {t : Int × Int} (hl : b.length ≤ 800) : r39 (b, t) = some (b ++ be 1 t.1 ++ be 3 t.2) := by
  unfold r39
  simp only
  rw [put1 (by omega)]
  simp only [Option.bind_some]
  rw [put3 (by simp [length_be]; omega)]
  rfl

theorem optPut {b : List Int} {o : Bool} {k : Nat} {n : Int} {g : Option (List Int)} (h : g = some (b ++ be k n)) : (bif o then Option.bind g fun y => some ((), y) else some ((), b)) = some ((), b ++ opt o (be k n)) := by
  cases o
  · simp [opt]
  · simp [opt, h]

theorem byt_app {l m : List Int} (h1 : Byt l) (h2 : Byt m) : Byt (l ++ m) := fun x hx => (List.mem_append.1 hx).elim (h1 x) (h2 x)
theorem byt_opt {b : Bool} {k : Nat} {n : Int} : Byt (opt b (be k n)) := by
  cases b
  · intro x hx; simp [opt] at hx
  · exact byt_be k n

theorem tv_be {full : List Int} {w c k : Nat} {n : Int} (h : (full.drop c).take k = be k n) (hw : c + k ≤ w) (hk : k = 1 ∨ k = 3 ∨ k = 4) (h0 : 0 ≤ n) (h1 : n < 256 ^ k) : tv full w c k = n := by
  unfold tv
  rw [if_pos hw, h, nval_be hk h0 h1]

theorem tv_le {full : List Int} {w c k : Nat} {n : Int} (h : (full.drop c).take k = be k n) (hk : k = 1 ∨ k = 3 ∨ k = 4) (h0 : 0 ≤ n) (h1 : n < 256 ^ k) : tv full w c k ≤ n := by
  by_cases hw : c + k ≤ w
  · rw [tv_be h hw hk h0 h1]; omega
  · unfold tv; rw [if_neg hw]; exact h0

theorem tv1 {full : List Int} {w c : Nat} {n : Int} (h : (full.drop c).take 1 = be 1 n) (hw : c + 1 ≤ w) (h0 : 0 ≤ n) (h1 : n < 256) : tv full w c 1 = n := tv_be h hw (.inl rfl) h0 (by rw [show (256 : Int) ^ 1 = 256 by decide]; exact h1)
theorem tv3 {full : List Int} {w c : Nat} {n : Int} (h : (full.drop c).take 3 = be 3 n) (hw : c + 3 ≤ w) (h0 : 0 ≤ n) (h1 : n < 16777216) : tv full w c 3 = n := tv_be h hw (.inr (.inl rfl)) h0 (by rw [show (256 : Int) ^ 3 = 16777216 by decide]; exact h1)
theorem tv4 {full : List Int} {w c : Nat} {n : Int} (h : (full.drop c).take 4 = be 4 n) (hw : c + 4 ≤ w) (h0 : 0 ≤ n) (h1 : n < 4294967296) : tv full w c 4 = n := tv_be h hw (.inr (.inr rfl)) h0 (by rw [show (256 : Int) ^ 4 = 4294967296 by decide]; exact h1)
theorem tvB {full : List Int} {w c : Nat} {v : Bool} (h : (full.drop c).take 1 = be 1 (bitN v)) (hw : c + 1 ≤ w) : decide (tv full w c 1 = 1) = v := by
  rw [tv1 h hw (by cases v <;> decide) (by cases v <;> decide)]
  cases v <;> rfl

noncomputable def finR (c : Cfg) (d : (Unit × (Unit × ((List Int × Int) × (Int × (Int × (Int × (Int × (Int × (Int × (Bool × List Int))))))))))) : Option (Rec × Int) :=
  Option.bind (r58 d.2.2.1) fun (y47 : (List Int × Int)) =>
                          Option.bind (
                            bif decide (y47.2 = (0 : Int)) then
                              Option.bind (r37 (c, (d.2.2.2.1, ((d.2.2.2.2.1, d.2.2.2.2.2.1), d.2.2.2.2.2.2)))) fun (y50 : Int) =>
                                some ((), (y47.1, y50))
                            else
                              some ((), y47)) fun (d51 : (Unit × (List Int × Int))) =>
                            bif !(decide (d51.2.2 = (0 : Int))) then
                              Option.bind (
                                
                                  some ((), (d51.2.2, ((0 : Int), ((0 : Int), ((0 : Int), ((0 : Int), ((0 : Int), ((0 : Int), (false, [])))))))))) fun (d52 : (Unit × (Int × (Int × (Int × (Int × (Int × (Int × (Int × (Bool × List Int)))))))))) =>
                                some ((d52.2.2.1, ((d52.2.2.2.1, d52.2.2.2.2.1), d52.2.2.2.2.2)), d52.2.1)
                            else
                              some ((d.2.2.2.1, ((d.2.2.2.2.1, d.2.2.2.2.2.1), d.2.2.2.2.2.2)), (0 : Int))

theorem bit_sta {full : List Int} {w c : Nat} (hb : Byt full) (hw : w ≤ full.length) (h : tv full w c 1 ≤ 1) : r57 (sta full w c) = some (decide (tv full w c 1 = 1), sta full w (c + 1)) := by
  have h1 := take_sta (c := c) (k := 1) (by omega) (by omega) hb hw
  unfold r57
  have h1 : r56 (sta full w c, (1 : Int)) = some (tv full w c 1, sta full w (c + 1)) := h1
  rw [h1]
  simp only [Option.bind_some]
  rw [decide_eq_false (by omega : ¬ (1 : Int) < tv full w c 1)]
  rfl

theorem kind_sta {full : List Int} {w : Nat} (hb : Byt full) (hw : w ≤ full.length) (h1 : 1 ≤ w) (k0 : 1 ≤ tv full w 0 1) (k1 : tv full w 0 1 ≤ 6) : r54 (sta full w 0, 6) = some (tv full w 0 1, sta full w 1) := by
  have h2 : r56 (sta full w 0, (1 : Int)) = some (tv full w 0 1, sta full w 1) := take_sta (c := 0) (k := 1) (by omega) (by omega) hb hw
  unfold r54
  simp only
  rw [h2]
  simp only [Option.bind_some]
  rw [decide_eq_false (by omega : ¬ tv full w 0 1 < 1), decide_eq_false (by omega : ¬ (6 : Int) < tv full w 0 1)]
  have h3 : (sta full w 1).2 = 0 := by unfold sta; rw [if_pos h1]
  simp [h3]


/-! ### writing -/
def encR (p : Parts) (r : Rec) : List Int :=
  be 1 r.1 ++ be 1 r.2.1.1 ++ be 3 r.2.1.2 ++ opt p.2.1 (be 1 r.2.2.1) ++ opt p.2.2.1 (be 4 r.2.2.2.1) ++ opt p.2.2.2.2.1 (be 3 r.2.2.2.2.1) ++ opt p.2.2.2.2.2.1 (be 1 (bitN r.2.2.2.2.2.1)) ++ opt p.2.2.2.2.2.2.2 (be 1 r.2.2.2.2.2.2.length ++ r.2.2.2.2.2.2)

def tot (p : Parts) (r : Rec) : Nat := 5 + on p.2.1 1 + on p.2.2.1 4 + on p.2.2.2.2.1 3 + on p.2.2.2.2.2.1 1 + on p.2.2.2.2.2.2.2 (1 + r.2.2.2.2.2.2.length)

theorem enc_len (p : Parts) (r : Rec) : (encR p r).length = tot p r := by
  have ho : ∀ (b : Bool) (l : List Int), (opt b l).length = on b l.length := fun b l => by cases b <;> simp [opt, on]
  unfold encR tot
  simp only [List.length_append, ho, length_be]

theorem tot_le {c : Cfg} {r : Rec} (h : RecOk c r) (p : Parts) : 5 ≤ tot p r ∧ tot p r ≤ 20 := by
  have lo : ∀ (b : Bool) (k : Nat), on b k ≤ k := fun b k => by cases b <;> simp [on]
  have l1 := lo p.2.1 1
  have l2 := lo p.2.2.1 4
  have l3 := lo p.2.2.2.2.1 3
  have l4 := lo p.2.2.2.2.2.1 1
  have l5 := lo p.2.2.2.2.2.2.2 (1 + r.2.2.2.2.2.2.length)
  have := h.sl
  unfold tot
  omega

theorem sites_byt {c : Cfg} (hc : CfgOk c) {r : Rec} (h : RecOk c r) : Byt r.2.2.2.2.2.2 := fun x hx => by
  have := h.s x hx
  have := hc.s1
  omega

theorem enc_byt {c : Cfg} (hc : CfgOk c) {r : Rec} (h : RecOk c r) (p : Parts) : Byt (encR p r) := by
  unfold encR
  refine byt_app (byt_app (byt_app (byt_app (byt_app (byt_app (byt_app (byt_be _ _) (byt_be _ _)) (byt_be _ _)) byt_opt) byt_opt) byt_opt) byt_opt) ?_
  cases p.2.2.2.2.2.2.2
  · intro x hx; simp [opt] at hx
  · exact byt_app (byt_be _ _) (sites_byt hc h)

theorem put_sites {c : Cfg} {r : Rec} (hby : Byt r.2.2.2.2.2.2) (hs : r.2.2.2.2.2.2.length ≤ 300) {b : List Int} (hb : b.length ≤ 100) : loopR (r21_L0 (c, r)) ((), ((0 : Int), b)) = some ((), b ++ r.2.2.2.2.2.2) := by
  obtain ⟨q, h1, h2⟩ := loop_rule (body := r21_L0 (c, r)) (fun d => 0 ≤ d.2.1 ∧ d.2.1 ≤ r.2.2.2.2.2.2.length ∧ d.2.2 = b ++ r.2.2.2.2.2.2.take d.2.1.toNat) (fun d => r.2.2.2.2.2.2.length - d.2.1.toNat) (fun q => q = ((), b ++ r.2.2.2.2.2.2)) (fun d hd => by
    obtain ⟨u, i, bs⟩ := d
    obtain ⟨g0, g1, g2⟩ := hd
    simp only at g0 g1 g2
    subst g2
    unfold r21_L0
    simp only
    by_cases hlt : i < r.2.2.2.2.2.2.length
    · obtain ⟨x, e1, e2⟩ := idxI_is (xs := r.2.2.2.2.2.2) g0 hlt
      have hx := hby x (List.mem_of_getElem? e2)
      have hbx : be 1 x = [x] := by simp [be]; omega
      rw [decide_eq_true hlt, e1]
      simp only [cond_true, Option.bind_some]
      rw [put1 (by simp; omega), wrap_i64 (n := i + 1) (by unfold i64; omega), hbx]
      refine .inl ⟨((), (i + 1, b ++ r.2.2.2.2.2.2.take (i + 1).toNat)), ?_, ⟨by simp only; omega, by simp only; omega, rfl⟩, by simp only; omega⟩
      rw [show (i + 1).toNat = i.toNat + 1 by omega, List.take_add_one, e2, Option.bind_some, List.append_assoc]
      rfl
    · refine .inr ⟨_, by rw [decide_eq_false hlt]; rfl, ?_⟩
      rw [show i.toNat = r.2.2.2.2.2.2.length by omega, List.take_length]) ((), ((0 : Int), b)) ⟨by simp, by simp, by simp⟩
  rw [h1, h2]

theorem enc_of {c : Cfg} {r : Rec} (hck : r37 (c, r) = some 0) (hby : Byt r.2.2.2.2.2.2) (hs : r.2.2.2.2.2.2.length ≤ 300) {p : Parts} (hp : idxI tab0 r.1 = some p) : r21 (c, r) = some (encR p r, 0) := by
  have lo : ∀ (b : Bool) (k : Nat), on b k ≤ k := fun b k => by cases b <;> simp [on]
  have l1 := lo p.2.1 1
  have l2 := lo p.2.2.1 4
  have l3 := lo p.2.2.2.2.1 3
  have l4 := lo p.2.2.2.2.2.1 1
  unfold r21
  simp only [hck, Option.bind_some, hp]
  rw [bif_f (by rfl)]
  rw [put1 (by simp), Option.bind_some, putTxn (by simp [length_be]), Option.bind_some]
  rw [optPut (put1 (by simp [length_be])), Option.bind_some]
  simp only
  rw [optPut (put4 (by simp [length_be, opt_len]; omega)), Option.bind_some]
  simp only
  rw [optPut (put3 (by simp [length_be, opt_len]; omega)), Option.bind_some]
  simp only
  rw [optPut (putBit (by simp [length_be, opt_len]; omega)), Option.bind_some]
  simp only
  unfold encR
  cases p.2.2.2.2.2.2.2 with
  | false => simp [opt]
  | true =>
    simp only [cond_true]
    rw [put1 (by simp [length_be, opt_len]; omega), Option.bind_some, put_sites hby hs (by simp [length_be, opt_len]; omega)]
    simp [opt]

theorem enc_is {c : Cfg} (hc : CfgOk c) {r : Rec} (h : RecOk c r) {p : Parts} (hp : idxI tab0 r.1 = some p) : r21 (c, r) = some (encR p r, 0) := enc_of (rec_ok hc h) (sites_byt hc h) (by have := h.sl; omega) hp

end Go.Hm
