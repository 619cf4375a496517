/- A message has what its kind has. -/
import Derived.Test.YtgiceldgkonbbaaDoorHdMsg
namespace Go.Hd
open Go.RowKit Go.Proofs Go.V

theorem range_left {c : Cfg} {m : Msg} (h : m.2.1 = c.1) : rangeBad c m = true := by
  unfold rangeBad
  rw [decide_eq_true (by omega : c.1 ≤ m.2.1)]
  simp

theorem messageBare {a : Int × (List Int × (Raw × Int))} (h1 : i64 a.1) (h2 : ∀ n ∈ a.2.1, i64 n) (hl : a.2.1.length ≤ 9223372036854775807) (hr : RawOk a.2.2.1) (h3 : i64 a.2.2.2) : r3 a = some true := by
  obtain ⟨c, e1, hc⟩ := cfg_is (a := (a.1, a.2.1, 1)) h1 h2 hl (by unfold i64; simp only; omega)
  obtain ⟨m, e2, hm⟩ := msg_is hc hr
  obtain ⟨w, e3, f3, g3⟩ := picked_is (m := 4) h3 (by omega)
  have s0 := hc.s0
  have l0 := hc.l0
  have hok := msg_ok hc hm
  have k0 := hm.k0
  have k1 := hm.k1
  unfold r3
  simp only [e1, e2, e3, Option.bind_some]
  have hw : w = 0 ∨ w = 1 ∨ w = 2 ∨ w = 3 := by omega
  rcases hw with rfl | rfl | rfl | rfl
  · have hx : r9 (c, ((8 : Int), (0 : Int), (0 : Int), ((0 : Int), (1 : Int)), (0 : Int), (0 : Int), (0 : Int), (0 : Int), (0 : Int), true, (0 : Int))) = some 4 := by
      rw [checkMsg_is hc]
      have hr : rangeBad c ((8 : Int), (0 : Int), (0 : Int), ((0 : Int), (1 : Int)), (0 : Int), (0 : Int), (0 : Int), (0 : Int), (0 : Int), true, (0 : Int)) = false := by
        unfold rangeBad txnOk
        rw [decide_eq_false (by omega : ¬ c.1 ≤ (0 : Int)), decide_eq_true (by omega : (0 : Int) < c.1), decide_eq_false (by omega : ¬ (c.2.1.length : Int) ≤ 0)]
        rfl
      rw [hr]
      rfl
    simp only [hok, Option.bind_some]
    simp [hx]
  · have hx : r9 (c, ((6 : Int), (0 : Int), (0 : Int), ((0 : Int), (1 : Int)), (0 : Int), (0 : Int), (1 : Int), (0 : Int), (0 : Int), false, (0 : Int))) = some 4 := by
      rw [checkMsg_is hc]
      have hr : rangeBad c ((6 : Int), (0 : Int), (0 : Int), ((0 : Int), (1 : Int)), (0 : Int), (0 : Int), (1 : Int), (0 : Int), (0 : Int), false, (0 : Int)) = false := by
        unfold rangeBad txnOk
        rw [decide_eq_false (by omega : ¬ c.1 ≤ (0 : Int)), decide_eq_true (by omega : (0 : Int) < c.1), decide_eq_false (by omega : ¬ (c.2.1.length : Int) ≤ 0)]
        rfl
      rw [hr]
      rfl
    simp only [hok, Option.bind_some]
    simp [hx]
  · have hx : r9 (c, ((10 : Int), m.2)) = some 3 := by
      rw [checkMsg_is hc]
      rfl
    have hx' : r9 (c, ((10 : Int), m.2.1, m.2.2.1, (m.2.2.2.1.1, m.2.2.2.1.2), m.2.2.2.2)) = some 3 := hx
    simp only [hok, Option.bind_some]
    simp [hx']
  · have hx : r9 (c, (m.1, c.1, m.2.2)) = some 2 := by
      rw [checkMsg_is hc, range_left rfl, decide_eq_false (by omega : ¬ m.1 < 1), decide_eq_false (by omega : ¬ 9 < m.1)]
      rfl
    have hx' : r9 (c, (m.1, c.1, m.2.2.1, (m.2.2.2.1.1, m.2.2.2.1.2), m.2.2.2.2)) = some 2 := hx
    simp only [hok, Option.bind_some]
    simp [hx']

end Go.Hd
