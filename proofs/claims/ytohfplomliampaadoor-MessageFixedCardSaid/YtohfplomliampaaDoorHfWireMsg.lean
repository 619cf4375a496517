/- Messages as bytes. -/
import Derived.Test.YtohfplomliampaaDoorHfWire
namespace Go.Hf
open Go.RowKit Go.Proofs Go.V

theorem clone_is {l : List Int} (h : l.length ≤ 140737488351232) : r49 l = some l := by
  unfold r49
  refine nilR_eq (fun e => by rw [e]; rfl) ?_
  rw [roomOk_true (by omega)]
  rfl

def on (b : Bool) (k : Nat) : Nat := bif b then k else 0
def ov (b : Bool) (n : Int) : Int := bif b then n else 0

def tot (p : Parts) : Nat := 7 + on p.1 1 + on p.2.1 1 + on p.2.2.1 4 + on p.2.2.2.1 3 + on p.2.2.2.2.1 3 + on p.2.2.2.2.2.1 1 + on p.2.2.2.2.2.2.1 1
def cbit (p : Parts) : Nat := 7 + on p.1 1 + on p.2.1 1 + on p.2.2.1 4 + on p.2.2.2.1 3 + on p.2.2.2.2.1 3

abbrev MsgF := Int × (Int × (Int × (Int × (Int × (Int × (Int × (Int × (Int × (Int × (Bool × Int))))))))))

def msgD (p : Parts) (full : List Int) (w : Nat) (k : Int) : MsgF :=
  (k, tv full w 1 1, tv full w 2 1, tv full w 3 1, tv full w 4 3, ov p.1 (tv full w 7 1), ov p.2.1 (tv full w (7 + on p.1 1) 1), ov p.2.2.1 (tv full w (7 + on p.1 1 + on p.2.1 1) 4),
    ov p.2.2.2.1 (tv full w (7 + on p.1 1 + on p.2.1 1 + on p.2.2.1 4) 3), ov p.2.2.2.2.1 (tv full w (7 + on p.1 1 + on p.2.1 1 + on p.2.2.1 4 + on p.2.2.2.1 3) 3),
    p.2.2.2.2.2.1 && decide (tv full w (cbit p) 1 = 1), ov p.2.2.2.2.2.2.1 (tv full w (cbit p + on p.2.2.2.2.2.1 1) 1))

noncomputable def finD (c : Cfg) (d : (Unit × (Unit × ((List Int × Int) × (Int × (Int × (Int × (Int × (Int × (Int × (Int × (Int × (Int × (Int × (Bool × Int))))))))))))))) : Option (Msg × Int) :=
  Option.bind (r54 d.2.2.1) fun (y36 : (List Int × Int)) =>
                                  Option.bind (
                                    bif decide (y36.2 = (0 : Int)) then
                                      Option.bind (r33 (c, (d.2.2.2.1, (d.2.2.2.2.1, (d.2.2.2.2.2.1, ((d.2.2.2.2.2.2.1, d.2.2.2.2.2.2.2.1), d.2.2.2.2.2.2.2.2)))))) fun (y39 : Int) =>
                                        some ((), (y36.1, y39))
                                    else
                                      some ((), y36)) fun (d40 : (Unit × (List Int × Int))) =>
                                    bif !(decide (d40.2.2 = (0 : Int))) then
                                      Option.bind (
                                        
                                          some ((), (d40.2.2, ((0 : Int), ((0 : Int), ((0 : Int), ((0 : Int), ((0 : Int), ((0 : Int), ((0 : Int), ((0 : Int), ((0 : Int), ((0 : Int), (false, (0 : Int))))))))))))))) fun (d41 : (Unit × (Int × (Int × (Int × (Int × (Int × (Int × (Int × (Int × (Int × (Int × (Int × (Bool × Int)))))))))))))) =>
                                        some ((d41.2.2.1, (d41.2.2.2.1, (d41.2.2.2.2.1, ((d41.2.2.2.2.2.1, d41.2.2.2.2.2.2.1), d41.2.2.2.2.2.2.2)))), d41.2.1)
                                    else
                                      some ((d.2.2.2.1, (d.2.2.2.2.1, (d.2.2.2.2.2.1, ((d.2.2.2.2.2.2.1, d.2.2.2.2.2.2.2.1), d.2.2.2.2.2.2.2.2)))), (0 : Int))

theorem bit_sta {full : List Int} {w c : Nat} (hb : Byt full) (hw : w ≤ full.length) (h : tv full w c 1 ≤ 1) : r53 (sta full w c) = some (decide (tv full w c 1 = 1), sta full w (c + 1)) := by
  have h1 := take_sta (c := c) (k := 1) (by omega) (by omega) hb hw
  unfold r53
  have h1 : r52 (sta full w c, (1 : Int)) = some (tv full w c 1, sta full w (c + 1)) := h1
  rw [h1]
  simp only [Option.bind_some]
  rw [decide_eq_false (by omega : ¬ (1 : Int) < tv full w c 1)]
  rfl

theorem kind_sta {full : List Int} {w : Nat} (hb : Byt full) (hw : w ≤ full.length) (h1 : 1 ≤ w) (k0 : 1 ≤ tv full w 0 1) (k1 : tv full w 0 1 ≤ 9) : r50 (sta full w 0, 9) = some (tv full w 0 1, sta full w 1) := by
  have h2 : r52 (sta full w 0, (1 : Int)) = some (tv full w 0 1, sta full w 1) := take_sta (c := 0) (k := 1) (by omega) (by omega) hb hw
  unfold r50
  simp only
  rw [h2]
  simp only [Option.bind_some]
  rw [decide_eq_false (by omega : ¬ tv full w 0 1 < 1), decide_eq_false (by omega : ¬ (9 : Int) < tv full w 0 1)]
  have h3 : (sta full w 1).2 = 0 := by unfold sta; rw [if_pos h1]
  simp [h3]

theorem dec_gen {c : Cfg} (hc : CfgOk c) {full : List Int} {w : Nat} (hb : Byt full) (hw : w ≤ full.length) (hl : full.length ≤ 140737488351232) (h1 : 1 ≤ w) {k : Int} (hk : tv full w 0 1 = k) (k0 : 1 ≤ k) (k1 : k ≤ 9) {p : Parts} (hp : idxI tab1 k = some p)
    (hbit : p.2.2.2.2.2.1 = true → tv full w (cbit p) 1 ≤ 1) : r32 (c, full.take w) = finD c ((), ((), (sta full w (tot p), msgD p full w k))) := by
  have t1 : ∀ c, r52 (sta full w c, (1 : Int)) = some (tv full w c 1, sta full w (c + 1)) := fun c => take_sta (k := 1) (by omega) (by omega) hb hw
  have t3 : ∀ c, r52 (sta full w c, (3 : Int)) = some (tv full w c 3, sta full w (c + 3)) := fun c => take_sta (k := 3) (by omega) (by omega) hb hw
  have t4 : ∀ c, r52 (sta full w c, (4 : Int)) = some (tv full w c 4, sta full w (c + 4)) := fun c => take_sta (k := 4) (by omega) (by omega) hb hw
  have tx : ∀ c, r51 (sta full w c) = some ((tv full w c 1, tv full w (c + 1) 3), sta full w (c + 4)) := fun c => by
    unfold r51
    simp only [t1, t3, Option.bind_some]
  have tk := kind_sta hb hw h1 (by omega) (by omega)
  rw [hk] at tk
  have h0 : (full.take w, (0 : Int)) = sta full w 0 := by unfold sta; rw [if_pos (Nat.zero_le _), List.drop_zero]
  unfold r32
  simp only [check_ok hc, Option.bind_some, clone_is (show (full.take w).length ≤ 140737488351232 by simp; omega)]
  rw [h0, tk]
  simp only [Option.bind_some, hp, t1, tx, Nat.reduceAdd]
  rw [bif_f (by rfl)]
  have hk9 : k = 1 ∨ k = 2 ∨ k = 3 ∨ k = 4 ∨ k = 5 ∨ k = 6 ∨ k = 7 ∨ k = 8 ∨ k = 9 := by omega
  clear h0 hk tk tx k0 k1
  rcases hk9 with rfl | rfl | rfl | rfl | rfl | rfl | rfl | rfl | rfl
  all_goals
    have hp := Option.some.inj hp
    subst hp
  · simp only [cond_true, cond_false, t1, t3, t4, Option.bind_some, Nat.reduceAdd]; rfl
  · simp only [cond_true, cond_false, t1, t3, t4, Option.bind_some, Nat.reduceAdd]; rfl
  · simp only [cond_true, cond_false, t1, t3, t4, Option.bind_some, Nat.reduceAdd]; rfl
  · have tb : r53 (sta full w 7) = some (decide (tv full w 7 1 = 1), sta full w 8) := bit_sta hb hw (hbit rfl)
    simp only [cond_true, cond_false, t1, t3, t4, tb, Option.bind_some, Nat.reduceAdd]; rfl
  · simp only [cond_true, cond_false, t1, t3, t4, Option.bind_some, Nat.reduceAdd]; rfl
  · simp only [cond_true, cond_false, t1, t3, t4, Option.bind_some, Nat.reduceAdd]; rfl
  · have tb : r53 (sta full w 12) = some (decide (tv full w 12 1 = 1), sta full w 13) := bit_sta hb hw (hbit rfl)
    simp only [cond_true, cond_false, t1, t3, t4, tb, Option.bind_some, Nat.reduceAdd]; rfl
  · simp only [cond_true, cond_false, t1, t3, t4, Option.bind_some, Nat.reduceAdd]; rfl
  · simp only [cond_true, cond_false, t1, t3, t4, Option.bind_some, Nat.reduceAdd]; rfl

end Go.Hf
