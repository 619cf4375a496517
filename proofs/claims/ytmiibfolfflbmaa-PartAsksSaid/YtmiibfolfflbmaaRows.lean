/-
  No cell of these rows narrows 'for every input' (looked for: loops, veiled, ifaces, maps, wideKeys, modest, calm, conditions, laid).
  DERIVED. THE GIVEN ROWS OF THIS SEAT. 2 by the template 'for every input the law returns true; each argument reads behind the call as it read before'; 0 by the template 'total and deterministic' (their statements: YtmiibfolfflbmaaTotals.lean).
  GIVEN WITH THE SEED: the statements are not yours to turn. If you find one false, say at which input.
  Laid BY PROGRAM, IN A SANDBOX (cutbox-rows.mjs): the forced cells as the released guide's own fill.sh prints them over the translation 0d64b65459810fb8… (all of the seat's roots in one cut). By AI agents, Wed Nov 11 2026. No macro, syntax, notation, axiom, sorry.
-/
import Derived.Test.YtmiibfolfflbmaaChecked
import GoSem.Claim
import GoSem.ClaimJoined
import GoSem.ClaimMapViews
import Derived.JoinedTies
import Derived.KernelRfl
namespace Go.Proofs.Ytmiibfolfflbmaa
/- THE CELL 'sum', in the pinned program and in every row, IS THE sha256 OF THE DUMP (.gsa) THAT YtmiibfolfflbmaaProg.lean LOADS. Nothing in Lean hashes anything: it is a label: what it is worth is what the hold of that sum in a sandbox is worth. -/
noncomputable def Try.pinned : Pinned := { name := "ytmiibfolfflbmaa", sum := "0d64b65459810fb82f9da0c994a22d5b8726b0144e1aa6706b31e78f46d32992", checked := Try.checked }
namespace Rows
def none {H : Type} : Left H := { results := [], args := [] }

/-- 'reredoskeep.ForceOnce': WHATEVER THE INPUT: true; the input reads as it did. -/
def forceOnceSpec : ChangeSpec := { name := "forceOnce", fn := fun _ => fun
  | [d1, d2, d3] => { results := [.lit (.bool true)], args := [d1, d2, d3] }
  | _ => none }
def forceOnceRow : OpenClaim := { program := "ytmiibfolfflbmaa", sum := "0d64b65459810fb82f9da0c994a22d5b8726b0144e1aa6706b31e78f46d32992", func := "reredos/reredoskeep.ForceOnce", spec := "forceOnce", inPlace := ["slices.overlaps[reredos/api.Item]"], unfollowed := true, recurses := true, apart := false }
def ForceOnceSaid : Prop := forceOnceRow.holds Try.pinned (OpenSpec.ofChange forceOnceSpec)

/-- ITS FALSE NEIGHBOUR: 'it returns false'. Refute it at one input. -/
def forceOnceWrong : ChangeSpec := { name := "forceOnce", fn := fun _ => fun
  | [d1, d2, d3] => { results := [.lit (.bool false)], args := [d1, d2, d3] }
  | _ => none }
def ForceOnceWrongFalsely : Prop := forceOnceRow.holds Try.pinned (OpenSpec.ofChange forceOnceWrong)

/-- 'reredoskeep.PartAsks': WHATEVER THE INPUT: true; the input reads as it did. -/
def partAsksSpec : ChangeSpec := { name := "partAsks", fn := fun _ => fun
  | [d1, d2, d3] => { results := [.lit (.bool true)], args := [d1, d2, d3] }
  | _ => none }
def partAsksRow : OpenClaim := { program := "ytmiibfolfflbmaa", sum := "0d64b65459810fb82f9da0c994a22d5b8726b0144e1aa6706b31e78f46d32992", func := "reredos/reredoskeep.PartAsks", spec := "partAsks", inPlace := ["slices.overlaps[reredos/api.Item]"], unfollowed := true, recurses := true, apart := false }
def PartAsksSaid : Prop := partAsksRow.holds Try.pinned (OpenSpec.ofChange partAsksSpec)

/-- ITS FALSE NEIGHBOUR: 'it returns false'. Refute it at one input. -/
def partAsksWrong : ChangeSpec := { name := "partAsks", fn := fun _ => fun
  | [d1, d2, d3] => { results := [.lit (.bool false)], args := [d1, d2, d3] }
  | _ => none }
def PartAsksWrongFalsely : Prop := partAsksRow.holds Try.pinned (OpenSpec.ofChange partAsksWrong)

/- THE SECOND FORM. 'bulk': how many values and letters a reading holds, each counted each time it is reached (what is shared counts as often as it is met; a slice's spare places count too). A statement '..UptoSaid' is the law's where the arguments, and the package variables that the reading takes, are together of bulk at most 1048576: NARROWER than '..Said'. Prove '..Said' where nothing that the law and all that it calls make is longer than what came in: it says more and counts as full. Else prove '..UptoSaid'. A law counts once. -/
mutual
def uptoBulk {H : Type} : DataW H → Nat
  | .lit (.string bytes) => bytes.length + 1
  | .lit _ => 1
  | .nil => 1
  | .ptr d => uptoBulk d + 1
  | .slice elems spare => uptoBulkAll elems + uptoBulkAll spare + 1
  | .agg parts => uptoBulkAll parts + 1
  | .iface _ d => uptoBulk d + 1
  | .map entries => uptoBulkEntries entries + 1
  | .held _ => 1
def uptoBulkAll {H : Type} : List (DataW H) → Nat
  | [] => 0
  | d :: r => uptoBulk d + uptoBulkAll r
def uptoBulkEntries {H : Type} : List (Lit × DataW H) → Nat
  | [] => 0
  | x :: r => uptoBulkEntry x + uptoBulkEntries r
def uptoBulkEntry {H : Type} : Lit × DataW H → Nat
  | (.string bytes, d) => bytes.length + uptoBulk d + 1
  | (_, d) => uptoBulk d + 1
 end
def uptoSmall : (H : Type) → List (DataW H) → Bool := fun _ ds => decide (uptoBulkAll ds ≤ 1048576)
def OpenSpec.upto (s : _root_.Go.ChangeSpec) : _root_.Go.OpenSpec := { _root_.Go.OpenSpec.ofChange s with cond := some uptoSmall }

/-- 'reredoskeep.ForceOnce', WHERE WHAT IT READS IS OF BULK AT MOST 1048576: true; the input reads as it did. -/
def forceOnceUptoRow : OpenClaim := { program := "ytmiibfolfflbmaa", sum := "0d64b65459810fb82f9da0c994a22d5b8726b0144e1aa6706b31e78f46d32992", func := "reredos/reredoskeep.ForceOnce", spec := "forceOnce", inPlace := ["slices.overlaps[reredos/api.Item]"], unfollowed := true, recurses := true, apart := false, narrowed := true }
def ForceOnceUptoSaid : Prop := forceOnceUptoRow.holds Try.pinned (OpenSpec.upto forceOnceSpec)

/-- 'reredoskeep.PartAsks', WHERE WHAT IT READS IS OF BULK AT MOST 1048576: true; the input reads as it did. -/
def partAsksUptoRow : OpenClaim := { program := "ytmiibfolfflbmaa", sum := "0d64b65459810fb82f9da0c994a22d5b8726b0144e1aa6706b31e78f46d32992", func := "reredos/reredoskeep.PartAsks", spec := "partAsks", inPlace := ["slices.overlaps[reredos/api.Item]"], unfollowed := true, recurses := true, apart := false, narrowed := true }
def PartAsksUptoSaid : Prop := partAsksUptoRow.holds Try.pinned (OpenSpec.upto partAsksSpec)

end Rows
end Go.Proofs.Ytmiibfolfflbmaa
