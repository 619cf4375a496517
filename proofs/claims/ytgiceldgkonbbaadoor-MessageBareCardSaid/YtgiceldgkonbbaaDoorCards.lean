/-
  DERIVED. GIVEN WITH THE SEED: THE CARDS: each row of YtgiceldgkonbbaaDoorRows.lean that lists a variable, with what it lists TIED to the program's text (the seventh form; the later family's looks); each row that meets fmt, with fmt's text TOLD by the authors' own Lean function (tested against real Go, not proved from fmt's source: count such statements apart). THE CARD IS WHAT COUNTS. Prove the row's statement (the work); the ties are given (YtgiceldgkonbbaaDoorTie.lean); close each card by the builder's one call (the guide's Derived/Test/ToyasCard.lean, 'card_holds'). Laid BY PROGRAM, IN A SANDBOX (cutbox-door.mjs). By AI agents, Wed Nov 11 2026. No macro, syntax, notation, axiom, sorry.
-/
import Derived.Test.YtgiceldgkonbbaaDoorRows
import GoSem.ClaimSeven
namespace Go.Proofs.YtgiceldgkonbbaaDoor
namespace Rows

/-- THE TIED CARD OF 'reredoskeep.MessageBare'. -/
def messageBareCard : Claim7 := { stood := { row := messageBareRow, standIns := [], harness := (true, "813f7cc3c384fe80b1756a518b025f8b8e927134d6cb76aa982c0aa5b7688bd7"), looks := false }, kinds := [], alts := [], laidByText := true, laidKinds := [.data], laidTests := true, laidLooks := .later }
def MessageBareCardSaid : Prop := Claim7.holds Tryd.pinned (.plain (OpenSpec.ofChange messageBareSpec)) messageBareCard

/-- THE TIED CARD OF 'reredoskeep.SendAll'. -/
def sendAllCard : Claim7 := { stood := { row := sendAllRow, standIns := [], harness := (true, "813f7cc3c384fe80b1756a518b025f8b8e927134d6cb76aa982c0aa5b7688bd7"), looks := false }, kinds := [], alts := [], laidByText := true, laidKinds := [.data], laidTests := true, laidLooks := .later }
def SendAllCardSaid : Prop := Claim7.holds Tryd.pinned (.plain (OpenSpec.ofChange sendAllSpec)) sendAllCard

/-- THE TIED CARD OF 'reredoskeep.SendFull'. -/
def sendFullCard : Claim7 := { stood := { row := sendFullRow, standIns := [], harness := (true, "813f7cc3c384fe80b1756a518b025f8b8e927134d6cb76aa982c0aa5b7688bd7"), looks := false }, kinds := [], alts := [], laidByText := true, laidKinds := [.data], laidTests := true, laidLooks := .later }
def SendFullCardSaid : Prop := Claim7.holds Tryd.pinned (.plain (OpenSpec.ofChange sendFullSpec)) sendFullCard

/-- THE SECOND FORM's CARD OF 'reredoskeep.MessageBare'. -/
def messageBareUptoCard : Claim7 := { stood := { row := messageBareUptoRow, standIns := [], harness := (true, "813f7cc3c384fe80b1756a518b025f8b8e927134d6cb76aa982c0aa5b7688bd7"), looks := false }, kinds := [], alts := [], laidByText := true, laidKinds := [.data], laidTests := true, laidLooks := .later }
def MessageBareUptoCardSaid : Prop := Claim7.holds Tryd.pinned (.plain (OpenSpec.upto messageBareSpec)) messageBareUptoCard

/-- THE SECOND FORM's CARD OF 'reredoskeep.SendAll'. -/
def sendAllUptoCard : Claim7 := { stood := { row := sendAllUptoRow, standIns := [], harness := (true, "813f7cc3c384fe80b1756a518b025f8b8e927134d6cb76aa982c0aa5b7688bd7"), looks := false }, kinds := [], alts := [], laidByText := true, laidKinds := [.data], laidTests := true, laidLooks := .later }
def SendAllUptoCardSaid : Prop := Claim7.holds Tryd.pinned (.plain (OpenSpec.upto sendAllSpec)) sendAllUptoCard

/-- THE SECOND FORM's CARD OF 'reredoskeep.SendFull'. -/
def sendFullUptoCard : Claim7 := { stood := { row := sendFullUptoRow, standIns := [], harness := (true, "813f7cc3c384fe80b1756a518b025f8b8e927134d6cb76aa982c0aa5b7688bd7"), looks := false }, kinds := [], alts := [], laidByText := true, laidKinds := [.data], laidTests := true, laidLooks := .later }
def SendFullUptoCardSaid : Prop := Claim7.holds Tryd.pinned (.plain (OpenSpec.upto sendFullSpec)) sendFullUptoCard
end Rows
end Go.Proofs.YtgiceldgkonbbaaDoor
