/-
  DERIVED. GIVEN WITH THE SEED: THE CARDS: each row of YtmcaghldcabnnaaDoorRows.lean that lists a variable, with what it lists TIED to the program's text (the seventh form; the later family's looks); each row that meets fmt, with fmt's text TOLD by the authors' own Lean function (tested against real Go, not proved from fmt's source: count such statements apart). THE CARD IS WHAT COUNTS. Prove the row's statement (the work); the ties are given (YtmcaghldcabnnaaDoorTie.lean); close each card by the builder's one call (the guide's Derived/Test/ToyasCard.lean, 'card_holds'). Laid BY PROGRAM, IN A SANDBOX (cutbox-door.mjs). By AI agents, Wed Nov 11 2026. No macro, syntax, notation, axiom, sorry.
-/
import Derived.Test.YtmcaghldcabnnaaDoorRows
import GoSem.ClaimSeven
namespace Go.Proofs.YtmcaghldcabnnaaDoor
namespace Rows

/-- THE TIED CARD OF 'reredoskeep.LinesJoin'. -/
def linesJoinCard : Claim7 := { stood := { row := linesJoinRow, standIns := [], harness := (true, "d3e51b284788b828e9e02f0ee81df1e27d00836cd062787ac0981b564a137727"), looks := true }, kinds := [], alts := [], laidByText := true, laidKinds := [.data, .data, .data, .widerDeep, .widerDeep], laidTests := true, laidLooks := .later }
def LinesJoinCardSaid : Prop := Claim7.holds Tryd.pinned (.plain (OpenSpec.ofChange linesJoinSpec)) linesJoinCard

/-- THE TIED CARD OF 'reredoskeep.LinesBack'. -/
def linesBackCard : Claim7 := { stood := { row := linesBackRow, standIns := [], harness := (true, "d3e51b284788b828e9e02f0ee81df1e27d00836cd062787ac0981b564a137727"), looks := true }, kinds := [], alts := [], laidByText := true, laidKinds := [.data, .data, .data, .data, .sentinel, .sentinel, .widerDeep, .widerDeep, .pinned], laidTests := true, laidLooks := .later }
def LinesBackCardSaid : Prop := Claim7.holds Tryd.pinned (.plain (OpenSpec.ofChange linesBackSpec)) linesBackCard

/-- THE TIED CARD OF 'reredoskeep.LinesFixed'. -/
def linesFixedCard : Claim7 := { stood := { row := linesFixedRow, standIns := [], harness := (true, "d3e51b284788b828e9e02f0ee81df1e27d00836cd062787ac0981b564a137727"), looks := true }, kinds := [], alts := [], laidByText := true, laidKinds := [.data, .data, .data, .data, .sentinel, .sentinel, .widerDeep, .widerDeep, .pinned], laidTests := true, laidLooks := .later }
def LinesFixedCardSaid : Prop := Claim7.holds Tryd.pinned (.plain (OpenSpec.ofChange linesFixedSpec)) linesFixedCard

/-- THE TIED CARD OF 'reredoskeep.LinesBad'. -/
def linesBadCard : Claim7 := { stood := { row := linesBadRow, standIns := [], harness := (true, "d3e51b284788b828e9e02f0ee81df1e27d00836cd062787ac0981b564a137727"), looks := true }, kinds := [], alts := [], laidByText := true, laidKinds := [.data, .data, .data, .data, .sentinel, .sentinel, .widerDeep, .widerDeep, .pinned], laidTests := true, laidLooks := .later }
def LinesBadCardSaid : Prop := Claim7.holds Tryd.pinned (.plain (OpenSpec.ofChange linesBadSpec)) linesBadCard

/-- THE TIED CARD OF 'reredoskeep.ConsoleBack'. -/
def consoleBackCard : Claim7 := { stood := { row := consoleBackRow, standIns := [], harness := (true, "d3e51b284788b828e9e02f0ee81df1e27d00836cd062787ac0981b564a137727"), looks := true }, kinds := [], alts := [], laidByText := true, laidKinds := [.data, .data, .data, .data, .sentinel, .sentinel, .pinned], laidTests := true, laidLooks := .later }
def ConsoleBackCardSaid : Prop := Claim7.holds Tryd.pinned (.plain (OpenSpec.ofChange consoleBackSpec)) consoleBackCard

/-- THE TIED CARD OF 'reredoskeep.ConsoleBad'. -/
def consoleBadCard : Claim7 := { stood := { row := consoleBadRow, standIns := [], harness := (true, "d3e51b284788b828e9e02f0ee81df1e27d00836cd062787ac0981b564a137727"), looks := true }, kinds := [], alts := [], laidByText := true, laidKinds := [.data, .data, .data, .data, .sentinel, .sentinel, .pinned], laidTests := true, laidLooks := .later }
def ConsoleBadCardSaid : Prop := Claim7.holds Tryd.pinned (.plain (OpenSpec.ofChange consoleBadSpec)) consoleBadCard

/-- THE SECOND FORM's CARD OF 'reredoskeep.LinesJoin'. -/
def linesJoinUptoCard : Claim7 := { stood := { row := linesJoinUptoRow, standIns := [], harness := (true, "d3e51b284788b828e9e02f0ee81df1e27d00836cd062787ac0981b564a137727"), looks := true }, kinds := [], alts := [], laidByText := true, laidKinds := [.data, .data, .data, .widerDeep, .widerDeep], laidTests := true, laidLooks := .later }
def LinesJoinUptoCardSaid : Prop := Claim7.holds Tryd.pinned (.plain (OpenSpec.upto linesJoinSpec)) linesJoinUptoCard

/-- THE SECOND FORM's CARD OF 'reredoskeep.LinesBack'. -/
def linesBackUptoCard : Claim7 := { stood := { row := linesBackUptoRow, standIns := [], harness := (true, "d3e51b284788b828e9e02f0ee81df1e27d00836cd062787ac0981b564a137727"), looks := true }, kinds := [], alts := [], laidByText := true, laidKinds := [.data, .data, .data, .data, .sentinel, .sentinel, .widerDeep, .widerDeep, .pinned], laidTests := true, laidLooks := .later }
def LinesBackUptoCardSaid : Prop := Claim7.holds Tryd.pinned (.plain (OpenSpec.upto linesBackSpec)) linesBackUptoCard

/-- THE SECOND FORM's CARD OF 'reredoskeep.LinesFixed'. -/
def linesFixedUptoCard : Claim7 := { stood := { row := linesFixedUptoRow, standIns := [], harness := (true, "d3e51b284788b828e9e02f0ee81df1e27d00836cd062787ac0981b564a137727"), looks := true }, kinds := [], alts := [], laidByText := true, laidKinds := [.data, .data, .data, .data, .sentinel, .sentinel, .widerDeep, .widerDeep, .pinned], laidTests := true, laidLooks := .later }
def LinesFixedUptoCardSaid : Prop := Claim7.holds Tryd.pinned (.plain (OpenSpec.upto linesFixedSpec)) linesFixedUptoCard

/-- THE SECOND FORM's CARD OF 'reredoskeep.LinesBad'. -/
def linesBadUptoCard : Claim7 := { stood := { row := linesBadUptoRow, standIns := [], harness := (true, "d3e51b284788b828e9e02f0ee81df1e27d00836cd062787ac0981b564a137727"), looks := true }, kinds := [], alts := [], laidByText := true, laidKinds := [.data, .data, .data, .data, .sentinel, .sentinel, .widerDeep, .widerDeep, .pinned], laidTests := true, laidLooks := .later }
def LinesBadUptoCardSaid : Prop := Claim7.holds Tryd.pinned (.plain (OpenSpec.upto linesBadSpec)) linesBadUptoCard

/-- THE SECOND FORM's CARD OF 'reredoskeep.ConsoleBack'. -/
def consoleBackUptoCard : Claim7 := { stood := { row := consoleBackUptoRow, standIns := [], harness := (true, "d3e51b284788b828e9e02f0ee81df1e27d00836cd062787ac0981b564a137727"), looks := true }, kinds := [], alts := [], laidByText := true, laidKinds := [.data, .data, .data, .data, .sentinel, .sentinel, .pinned], laidTests := true, laidLooks := .later }
def ConsoleBackUptoCardSaid : Prop := Claim7.holds Tryd.pinned (.plain (OpenSpec.upto consoleBackSpec)) consoleBackUptoCard

/-- THE SECOND FORM's CARD OF 'reredoskeep.ConsoleBad'. -/
def consoleBadUptoCard : Claim7 := { stood := { row := consoleBadUptoRow, standIns := [], harness := (true, "d3e51b284788b828e9e02f0ee81df1e27d00836cd062787ac0981b564a137727"), looks := true }, kinds := [], alts := [], laidByText := true, laidKinds := [.data, .data, .data, .data, .sentinel, .sentinel, .pinned], laidTests := true, laidLooks := .later }
def ConsoleBadUptoCardSaid : Prop := Claim7.holds Tryd.pinned (.plain (OpenSpec.upto consoleBadSpec)) consoleBadUptoCard
end Rows
end Go.Proofs.YtmcaghldcabnnaaDoor
