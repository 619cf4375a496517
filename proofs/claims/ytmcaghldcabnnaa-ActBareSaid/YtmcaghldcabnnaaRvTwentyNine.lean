/- Reading operations: the same in a state that says more; and what is done with the answer hangs on it alone. -/
import Derived.Test.YtmcaghldcabnnaaRvTwentyEight
namespace Go.V
open Go.RowKit

variable {α : Type}

section
variable {c : Ctx} {x : X}

theorem Lawful.scalU (op : UnOp) (v : Value) : Lawful fun _ K => scalU op v K := by
  unfold V.scalU
  split
  · split
    · exact .pure _
    · exact .none
  · split
    · exact .pure _
    · exact .none
  · exact .none

theorem Lawful.lenB (cx : Ctx) (x : X) (args : List Operand) (ats : List TypeId) : Lawful fun _ K => lenB cx x args ats K := by
  unfold V.lenB
  split
  · split
    · exact .bind _ fun d => .len _ _ _ _
    · exact .none
  · exact .none

theorem Lawful.capB (cx : Ctx) (x : X) (args : List Operand) (ats : List TypeId) : Lawful fun _ K => capB cx x args ats K := by
  unfold V.capB
  split
  · split
    · refine .bind _ fun i => ?_
      split
      · refine .bind _ fun d => ?_
        split
        · exact .pure _
        · exact .none
      · exact .none
    · exact .none
  · exact .none

theorem Lawful.caps (cx : Ctx) (x : X) : ∀ l : List Operand, Lawful fun _ K => capsK cx x l K
  | [] => .pure _
  | o :: l => by
    unfold capsK
    refine .bind _ fun d => ?_
    split
    · split
      · refine .comp (.at _ _ _) fun t => ?_
        split
        · exact .comp (.caps cx x l) fun cs => .pure _
        · exact .comp (.caps cx x l) fun cs => .pure _
        · exact .none
      · exact .none
    · exact .none

theorem Lawful.read (cx : Ctx) (x : X) (op : Op) : Lawful fun _ K => readK cx x op K := by
  unfold readK
  split
  · exact .bind _ fun d => .pure _
  · exact .bind _ fun d => .pure _
  · refine .bind _ fun v => ?_
    split
    · exact .pick _ _ _
    · exact .none
  · exact .bind _ fun d => .pure _
  · exact .bind _ fun d => .load _ _ _ _
  · exact .bind _ fun d => .pure _
  · exact .bind _ fun d => .bind _ fun d' => .bin _ _ _ _ _
  · exact .bind _ fun v => .comp (.scalU _ _) fun u => .pure _
  · exact .bind _ fun d => .conv _ _ _ _
  · exact .bind _ fun d => .bind _ fun e => .pure _
  · exact .bind _ fun d => .bind _ fun e => .pure _
  · exact .bind _ fun d => .bind _ fun d' => .indexAddr _ _ _ _ _
  · refine .bind _ fun ti => ?_
    split
    · exact .bind _ fun d => .bind _ fun d' => .byte _ _
    · exact .none
  · exact .bind _ fun d => .bind _ fun e => .pure _
  · exact .bind _ fun d => .slice _ _ _ _ _ _ _
  · split
    · exact .bind _ fun f => .comp (.caps _ _ _) fun cs => .pure _
    · exact .none
  · split
    · exact .lenB _ _ _ _
    · exact .bind _ fun pq => .bind _ fun d => .bind _ fun d' => .bind _ fun e => .pure _
    · exact .bind _ fun pq => .bind _ fun d => .bind _ fun d' => .bind _ fun e => .pure _
    · exact .capB _ _ _ _
    · exact .none
  · exact .none

/-- A reading has one answer. -/
theorem read_some {op : Op} {K : D → Option α} {q : α} (h : readK c x op K = some q) : ∃ d, readK c x op some = some d ∧ K d = some q := by
  have e : readK c x op K = (readK c x op some).bind K := Lawful.read c x op α K
  rw [e] at h
  exact Option.bind_eq_some_iff.mp h

end
end Go.V
