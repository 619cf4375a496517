/-
  DERIVED. GIVEN WITH THE SEED: THE CARDS: each row of YtohfplomliampaaDoorRows.lean that lists a variable, with what it lists TIED to the program's text (the seventh form; the later family's looks); each row that meets fmt, with fmt's text TOLD by the authors' own Lean function (tested against real Go, not proved from fmt's source: count such statements apart). THE CARD IS WHAT COUNTS. Prove the row's statement (the work); the ties are given (YtohfplomliampaaDoorTie.lean); close each card by the builder's one call (the guide's Derived/Test/ToyasCard.lean, 'card_holds'). Laid BY PROGRAM, IN A SANDBOX (cutbox-door.mjs). By AI agents, Wed Nov 11 2026. No macro, syntax, notation, axiom, sorry.
-/
import Derived.Test.YtohfplomliampaaDoorRows
import GoSem.ClaimSeven
namespace Go.Proofs.YtohfplomliampaaDoor
namespace Rows

/-- THE TIED CARD OF 'reredoskeep.TakeOne'. -/
def takeOneCard : Claim7 := { stood := { row := takeOneRow, standIns := [], harness := (true, "8cf7c21fe82f8b2a794d51d5d88a5f982d2bd3a7c02c86f774719219ee1c593e"), looks := false }, kinds := [], alts := [], laidByText := true, laidKinds := [.data], laidTests := true, laidLooks := .later }
def TakeOneCardSaid : Prop := Claim7.holds Tryd.pinned (.plain (OpenSpec.ofChange takeOneSpec)) takeOneCard

/-- THE TIED CARD OF 'reredoskeep.TapeRoom'. -/
def tapeRoomCard : Claim7 := { stood := { row := tapeRoomRow, standIns := [], harness := (true, "8cf7c21fe82f8b2a794d51d5d88a5f982d2bd3a7c02c86f774719219ee1c593e"), looks := false }, kinds := [], alts := [], laidByText := true, laidKinds := [.data], laidTests := true, laidLooks := .later }
def TapeRoomCardSaid : Prop := Claim7.holds Tryd.pinned (.plain (OpenSpec.ofChange tapeRoomSpec)) tapeRoomCard

/-- THE TIED CARD OF 'reredoskeep.CrashJust'. -/
def crashJustCard : Claim7 := { stood := { row := crashJustRow, standIns := [], harness := (true, "8cf7c21fe82f8b2a794d51d5d88a5f982d2bd3a7c02c86f774719219ee1c593e"), looks := false }, kinds := [], alts := [], laidByText := true, laidKinds := [.data], laidTests := true, laidLooks := .later }
def CrashJustCardSaid : Prop := Claim7.holds Tryd.pinned (.plain (OpenSpec.ofChange crashJustSpec)) crashJustCard

/-- THE TIED CARD OF 'reredoskeep.RecordBack'. -/
def recordBackCard : Claim7 := { stood := { row := recordBackRow, standIns := [], harness := (true, "8cf7c21fe82f8b2a794d51d5d88a5f982d2bd3a7c02c86f774719219ee1c593e"), looks := false }, kinds := [], alts := [], laidByText := true, laidKinds := [.data], laidTests := true, laidLooks := .later }
def RecordBackCardSaid : Prop := Claim7.holds Tryd.pinned (.plain (OpenSpec.ofChange recordBackSpec)) recordBackCard

/-- THE TIED CARD OF 'reredoskeep.RecordFixed'. -/
def recordFixedCard : Claim7 := { stood := { row := recordFixedRow, standIns := [], harness := (true, "8cf7c21fe82f8b2a794d51d5d88a5f982d2bd3a7c02c86f774719219ee1c593e"), looks := false }, kinds := [], alts := [], laidByText := true, laidKinds := [.data], laidTests := true, laidLooks := .later }
def RecordFixedCardSaid : Prop := Claim7.holds Tryd.pinned (.plain (OpenSpec.ofChange recordFixedSpec)) recordFixedCard

/-- THE TIED CARD OF 'reredoskeep.MessageBack'. -/
def messageBackCard : Claim7 := { stood := { row := messageBackRow, standIns := [], harness := (true, "8cf7c21fe82f8b2a794d51d5d88a5f982d2bd3a7c02c86f774719219ee1c593e"), looks := false }, kinds := [], alts := [], laidByText := true, laidKinds := [.data], laidTests := true, laidLooks := .later }
def MessageBackCardSaid : Prop := Claim7.holds Tryd.pinned (.plain (OpenSpec.ofChange messageBackSpec)) messageBackCard

/-- THE TIED CARD OF 'reredoskeep.MessageFixed'. -/
def messageFixedCard : Claim7 := { stood := { row := messageFixedRow, standIns := [], harness := (true, "8cf7c21fe82f8b2a794d51d5d88a5f982d2bd3a7c02c86f774719219ee1c593e"), looks := false }, kinds := [], alts := [], laidByText := true, laidKinds := [.data], laidTests := true, laidLooks := .later }
def MessageFixedCardSaid : Prop := Claim7.holds Tryd.pinned (.plain (OpenSpec.ofChange messageFixedSpec)) messageFixedCard

/-- THE TIED CARD OF 'reredoskeep.MessageTorn'. -/
def messageTornCard : Claim7 := { stood := { row := messageTornRow, standIns := [], harness := (true, "8cf7c21fe82f8b2a794d51d5d88a5f982d2bd3a7c02c86f774719219ee1c593e"), looks := false }, kinds := [], alts := [], laidByText := true, laidKinds := [.data], laidTests := true, laidLooks := .later }
def MessageTornCardSaid : Prop := Claim7.holds Tryd.pinned (.plain (OpenSpec.ofChange messageTornSpec)) messageTornCard

/-- THE TIED CARD OF 'reredoskeep.TapeTorn'. -/
def tapeTornCard : Claim7 := { stood := { row := tapeTornRow, standIns := [], harness := (true, "8cf7c21fe82f8b2a794d51d5d88a5f982d2bd3a7c02c86f774719219ee1c593e"), looks := false }, kinds := [], alts := [], laidByText := true, laidKinds := [.data], laidTests := true, laidLooks := .later }
def TapeTornCardSaid : Prop := Claim7.holds Tryd.pinned (.plain (OpenSpec.ofChange tapeTornSpec)) tapeTornCard

/-- THE TIED CARD OF 'reredoskeep.TapeOn'. -/
def tapeOnCard : Claim7 := { stood := { row := tapeOnRow, standIns := [], harness := (true, "8cf7c21fe82f8b2a794d51d5d88a5f982d2bd3a7c02c86f774719219ee1c593e"), looks := false }, kinds := [], alts := [], laidByText := true, laidKinds := [.data], laidTests := true, laidLooks := .later }
def TapeOnCardSaid : Prop := Claim7.holds Tryd.pinned (.plain (OpenSpec.ofChange tapeOnSpec)) tapeOnCard

/-- THE TIED CARD OF 'reredoskeep.TapeKeeps'. -/
def tapeKeepsCard : Claim7 := { stood := { row := tapeKeepsRow, standIns := [], harness := (true, "8cf7c21fe82f8b2a794d51d5d88a5f982d2bd3a7c02c86f774719219ee1c593e"), looks := false }, kinds := [], alts := [], laidByText := true, laidKinds := [.data], laidTests := true, laidLooks := .later }
def TapeKeepsCardSaid : Prop := Claim7.holds Tryd.pinned (.plain (OpenSpec.ofChange tapeKeepsSpec)) tapeKeepsCard

/-- THE SECOND FORM's CARD OF 'reredoskeep.TakeOne'. -/
def takeOneUptoCard : Claim7 := { stood := { row := takeOneUptoRow, standIns := [], harness := (true, "8cf7c21fe82f8b2a794d51d5d88a5f982d2bd3a7c02c86f774719219ee1c593e"), looks := false }, kinds := [], alts := [], laidByText := true, laidKinds := [.data], laidTests := true, laidLooks := .later }
def TakeOneUptoCardSaid : Prop := Claim7.holds Tryd.pinned (.plain (OpenSpec.upto takeOneSpec)) takeOneUptoCard

/-- THE SECOND FORM's CARD OF 'reredoskeep.TapeRoom'. -/
def tapeRoomUptoCard : Claim7 := { stood := { row := tapeRoomUptoRow, standIns := [], harness := (true, "8cf7c21fe82f8b2a794d51d5d88a5f982d2bd3a7c02c86f774719219ee1c593e"), looks := false }, kinds := [], alts := [], laidByText := true, laidKinds := [.data], laidTests := true, laidLooks := .later }
def TapeRoomUptoCardSaid : Prop := Claim7.holds Tryd.pinned (.plain (OpenSpec.upto tapeRoomSpec)) tapeRoomUptoCard

/-- THE SECOND FORM's CARD OF 'reredoskeep.CrashJust'. -/
def crashJustUptoCard : Claim7 := { stood := { row := crashJustUptoRow, standIns := [], harness := (true, "8cf7c21fe82f8b2a794d51d5d88a5f982d2bd3a7c02c86f774719219ee1c593e"), looks := false }, kinds := [], alts := [], laidByText := true, laidKinds := [.data], laidTests := true, laidLooks := .later }
def CrashJustUptoCardSaid : Prop := Claim7.holds Tryd.pinned (.plain (OpenSpec.upto crashJustSpec)) crashJustUptoCard

/-- THE SECOND FORM's CARD OF 'reredoskeep.RecordBack'. -/
def recordBackUptoCard : Claim7 := { stood := { row := recordBackUptoRow, standIns := [], harness := (true, "8cf7c21fe82f8b2a794d51d5d88a5f982d2bd3a7c02c86f774719219ee1c593e"), looks := false }, kinds := [], alts := [], laidByText := true, laidKinds := [.data], laidTests := true, laidLooks := .later }
def RecordBackUptoCardSaid : Prop := Claim7.holds Tryd.pinned (.plain (OpenSpec.upto recordBackSpec)) recordBackUptoCard

/-- THE SECOND FORM's CARD OF 'reredoskeep.RecordFixed'. -/
def recordFixedUptoCard : Claim7 := { stood := { row := recordFixedUptoRow, standIns := [], harness := (true, "8cf7c21fe82f8b2a794d51d5d88a5f982d2bd3a7c02c86f774719219ee1c593e"), looks := false }, kinds := [], alts := [], laidByText := true, laidKinds := [.data], laidTests := true, laidLooks := .later }
def RecordFixedUptoCardSaid : Prop := Claim7.holds Tryd.pinned (.plain (OpenSpec.upto recordFixedSpec)) recordFixedUptoCard

/-- THE SECOND FORM's CARD OF 'reredoskeep.MessageBack'. -/
def messageBackUptoCard : Claim7 := { stood := { row := messageBackUptoRow, standIns := [], harness := (true, "8cf7c21fe82f8b2a794d51d5d88a5f982d2bd3a7c02c86f774719219ee1c593e"), looks := false }, kinds := [], alts := [], laidByText := true, laidKinds := [.data], laidTests := true, laidLooks := .later }
def MessageBackUptoCardSaid : Prop := Claim7.holds Tryd.pinned (.plain (OpenSpec.upto messageBackSpec)) messageBackUptoCard

/-- THE SECOND FORM's CARD OF 'reredoskeep.MessageFixed'. -/
def messageFixedUptoCard : Claim7 := { stood := { row := messageFixedUptoRow, standIns := [], harness := (true, "8cf7c21fe82f8b2a794d51d5d88a5f982d2bd3a7c02c86f774719219ee1c593e"), looks := false }, kinds := [], alts := [], laidByText := true, laidKinds := [.data], laidTests := true, laidLooks := .later }
def MessageFixedUptoCardSaid : Prop := Claim7.holds Tryd.pinned (.plain (OpenSpec.upto messageFixedSpec)) messageFixedUptoCard

/-- THE SECOND FORM's CARD OF 'reredoskeep.MessageTorn'. -/
def messageTornUptoCard : Claim7 := { stood := { row := messageTornUptoRow, standIns := [], harness := (true, "8cf7c21fe82f8b2a794d51d5d88a5f982d2bd3a7c02c86f774719219ee1c593e"), looks := false }, kinds := [], alts := [], laidByText := true, laidKinds := [.data], laidTests := true, laidLooks := .later }
def MessageTornUptoCardSaid : Prop := Claim7.holds Tryd.pinned (.plain (OpenSpec.upto messageTornSpec)) messageTornUptoCard

/-- THE SECOND FORM's CARD OF 'reredoskeep.TapeTorn'. -/
def tapeTornUptoCard : Claim7 := { stood := { row := tapeTornUptoRow, standIns := [], harness := (true, "8cf7c21fe82f8b2a794d51d5d88a5f982d2bd3a7c02c86f774719219ee1c593e"), looks := false }, kinds := [], alts := [], laidByText := true, laidKinds := [.data], laidTests := true, laidLooks := .later }
def TapeTornUptoCardSaid : Prop := Claim7.holds Tryd.pinned (.plain (OpenSpec.upto tapeTornSpec)) tapeTornUptoCard

/-- THE SECOND FORM's CARD OF 'reredoskeep.TapeOn'. -/
def tapeOnUptoCard : Claim7 := { stood := { row := tapeOnUptoRow, standIns := [], harness := (true, "8cf7c21fe82f8b2a794d51d5d88a5f982d2bd3a7c02c86f774719219ee1c593e"), looks := false }, kinds := [], alts := [], laidByText := true, laidKinds := [.data], laidTests := true, laidLooks := .later }
def TapeOnUptoCardSaid : Prop := Claim7.holds Tryd.pinned (.plain (OpenSpec.upto tapeOnSpec)) tapeOnUptoCard

/-- THE SECOND FORM's CARD OF 'reredoskeep.TapeKeeps'. -/
def tapeKeepsUptoCard : Claim7 := { stood := { row := tapeKeepsUptoRow, standIns := [], harness := (true, "8cf7c21fe82f8b2a794d51d5d88a5f982d2bd3a7c02c86f774719219ee1c593e"), looks := false }, kinds := [], alts := [], laidByText := true, laidKinds := [.data], laidTests := true, laidLooks := .later }
def TapeKeepsUptoCardSaid : Prop := Claim7.holds Tryd.pinned (.plain (OpenSpec.upto tapeKeepsSpec)) tapeKeepsUptoCard
end Rows
end Go.Proofs.YtohfplomliampaaDoor
