/-
  DERIVED. GIVEN WITH THE SEED: THE CARDS: each row of YtfemngbhinlkgaaDoorRows.lean that lists a variable, with what it lists TIED to the program's text (the seventh form; the later family's looks); each row that meets fmt, with fmt's text TOLD by the authors' own Lean function (tested against real Go, not proved from fmt's source: count such statements apart). THE CARD IS WHAT COUNTS. Prove the row's statement (the work); the ties are given (YtfemngbhinlkgaaDoorTie.lean); close each card by the builder's one call (the guide's Derived/Test/ToyasCard.lean, 'card_holds'). Laid BY PROGRAM, IN A SANDBOX (cutbox-door.mjs). By AI agents, Wed Nov 11 2026. No macro, syntax, notation, axiom, sorry.
-/
import Derived.Test.YtfemngbhinlkgaaDoorRows
import GoSem.ClaimSeven
namespace Go.Proofs.YtfemngbhinlkgaaDoor
namespace Rows

/-- THE TIED CARD OF 'reredoskeep.SendAll'. -/
def sendAllCard : Claim7 := { stood := { row := sendAllRow, standIns := [], harness := (true, "d724b77771e799c860b4efcfe1ed71c1915f6650dc5352ac3f7d926539828dd6"), looks := false }, kinds := [], alts := [], laidByText := true, laidKinds := [.data], laidTests := true, laidLooks := .later }
def SendAllCardSaid : Prop := Claim7.holds Tryd.pinned (.plain (OpenSpec.ofChange sendAllSpec)) sendAllCard

/-- THE TIED CARD OF 'reredoskeep.SendFull'. -/
def sendFullCard : Claim7 := { stood := { row := sendFullRow, standIns := [], harness := (true, "d724b77771e799c860b4efcfe1ed71c1915f6650dc5352ac3f7d926539828dd6"), looks := false }, kinds := [], alts := [], laidByText := true, laidKinds := [.data], laidTests := true, laidLooks := .later }
def SendFullCardSaid : Prop := Claim7.holds Tryd.pinned (.plain (OpenSpec.ofChange sendFullSpec)) sendFullCard

/-- THE TIED CARD OF 'reredoskeep.TakeOne'. -/
def takeOneCard : Claim7 := { stood := { row := takeOneRow, standIns := [], harness := (true, "d724b77771e799c860b4efcfe1ed71c1915f6650dc5352ac3f7d926539828dd6"), looks := false }, kinds := [], alts := [], laidByText := true, laidKinds := [.data], laidTests := true, laidLooks := .later }
def TakeOneCardSaid : Prop := Claim7.holds Tryd.pinned (.plain (OpenSpec.ofChange takeOneSpec)) takeOneCard

/-- THE TIED CARD OF 'reredoskeep.TapeRoom'. -/
def tapeRoomCard : Claim7 := { stood := { row := tapeRoomRow, standIns := [], harness := (true, "d724b77771e799c860b4efcfe1ed71c1915f6650dc5352ac3f7d926539828dd6"), looks := false }, kinds := [], alts := [], laidByText := true, laidKinds := [.data], laidTests := true, laidLooks := .later }
def TapeRoomCardSaid : Prop := Claim7.holds Tryd.pinned (.plain (OpenSpec.ofChange tapeRoomSpec)) tapeRoomCard

/-- THE TIED CARD OF 'reredoskeep.CrashJust'. -/
def crashJustCard : Claim7 := { stood := { row := crashJustRow, standIns := [], harness := (true, "d724b77771e799c860b4efcfe1ed71c1915f6650dc5352ac3f7d926539828dd6"), looks := false }, kinds := [], alts := [], laidByText := true, laidKinds := [.data], laidTests := true, laidLooks := .later }
def CrashJustCardSaid : Prop := Claim7.holds Tryd.pinned (.plain (OpenSpec.ofChange crashJustSpec)) crashJustCard

/-- THE TIED CARD OF 'reredoskeep.TapeTorn'. -/
def tapeTornCard : Claim7 := { stood := { row := tapeTornRow, standIns := [], harness := (true, "d724b77771e799c860b4efcfe1ed71c1915f6650dc5352ac3f7d926539828dd6"), looks := false }, kinds := [], alts := [], laidByText := true, laidKinds := [.data], laidTests := true, laidLooks := .later }
def TapeTornCardSaid : Prop := Claim7.holds Tryd.pinned (.plain (OpenSpec.ofChange tapeTornSpec)) tapeTornCard

/-- THE TIED CARD OF 'reredoskeep.TapeOn'. -/
def tapeOnCard : Claim7 := { stood := { row := tapeOnRow, standIns := [], harness := (true, "d724b77771e799c860b4efcfe1ed71c1915f6650dc5352ac3f7d926539828dd6"), looks := false }, kinds := [], alts := [], laidByText := true, laidKinds := [.data], laidTests := true, laidLooks := .later }
def TapeOnCardSaid : Prop := Claim7.holds Tryd.pinned (.plain (OpenSpec.ofChange tapeOnSpec)) tapeOnCard

/-- THE TIED CARD OF 'reredoskeep.TapeKeeps'. -/
def tapeKeepsCard : Claim7 := { stood := { row := tapeKeepsRow, standIns := [], harness := (true, "d724b77771e799c860b4efcfe1ed71c1915f6650dc5352ac3f7d926539828dd6"), looks := false }, kinds := [], alts := [], laidByText := true, laidKinds := [.data], laidTests := true, laidLooks := .later }
def TapeKeepsCardSaid : Prop := Claim7.holds Tryd.pinned (.plain (OpenSpec.ofChange tapeKeepsSpec)) tapeKeepsCard

/-- THE SECOND FORM's CARD OF 'reredoskeep.SendAll'. -/
def sendAllUptoCard : Claim7 := { stood := { row := sendAllUptoRow, standIns := [], harness := (true, "d724b77771e799c860b4efcfe1ed71c1915f6650dc5352ac3f7d926539828dd6"), looks := false }, kinds := [], alts := [], laidByText := true, laidKinds := [.data], laidTests := true, laidLooks := .later }
def SendAllUptoCardSaid : Prop := Claim7.holds Tryd.pinned (.plain (OpenSpec.upto sendAllSpec)) sendAllUptoCard

/-- THE SECOND FORM's CARD OF 'reredoskeep.SendFull'. -/
def sendFullUptoCard : Claim7 := { stood := { row := sendFullUptoRow, standIns := [], harness := (true, "d724b77771e799c860b4efcfe1ed71c1915f6650dc5352ac3f7d926539828dd6"), looks := false }, kinds := [], alts := [], laidByText := true, laidKinds := [.data], laidTests := true, laidLooks := .later }
def SendFullUptoCardSaid : Prop := Claim7.holds Tryd.pinned (.plain (OpenSpec.upto sendFullSpec)) sendFullUptoCard

/-- THE SECOND FORM's CARD OF 'reredoskeep.TakeOne'. -/
def takeOneUptoCard : Claim7 := { stood := { row := takeOneUptoRow, standIns := [], harness := (true, "d724b77771e799c860b4efcfe1ed71c1915f6650dc5352ac3f7d926539828dd6"), looks := false }, kinds := [], alts := [], laidByText := true, laidKinds := [.data], laidTests := true, laidLooks := .later }
def TakeOneUptoCardSaid : Prop := Claim7.holds Tryd.pinned (.plain (OpenSpec.upto takeOneSpec)) takeOneUptoCard

/-- THE SECOND FORM's CARD OF 'reredoskeep.TapeRoom'. -/
def tapeRoomUptoCard : Claim7 := { stood := { row := tapeRoomUptoRow, standIns := [], harness := (true, "d724b77771e799c860b4efcfe1ed71c1915f6650dc5352ac3f7d926539828dd6"), looks := false }, kinds := [], alts := [], laidByText := true, laidKinds := [.data], laidTests := true, laidLooks := .later }
def TapeRoomUptoCardSaid : Prop := Claim7.holds Tryd.pinned (.plain (OpenSpec.upto tapeRoomSpec)) tapeRoomUptoCard

/-- THE SECOND FORM's CARD OF 'reredoskeep.CrashJust'. -/
def crashJustUptoCard : Claim7 := { stood := { row := crashJustUptoRow, standIns := [], harness := (true, "d724b77771e799c860b4efcfe1ed71c1915f6650dc5352ac3f7d926539828dd6"), looks := false }, kinds := [], alts := [], laidByText := true, laidKinds := [.data], laidTests := true, laidLooks := .later }
def CrashJustUptoCardSaid : Prop := Claim7.holds Tryd.pinned (.plain (OpenSpec.upto crashJustSpec)) crashJustUptoCard

/-- THE SECOND FORM's CARD OF 'reredoskeep.TapeTorn'. -/
def tapeTornUptoCard : Claim7 := { stood := { row := tapeTornUptoRow, standIns := [], harness := (true, "d724b77771e799c860b4efcfe1ed71c1915f6650dc5352ac3f7d926539828dd6"), looks := false }, kinds := [], alts := [], laidByText := true, laidKinds := [.data], laidTests := true, laidLooks := .later }
def TapeTornUptoCardSaid : Prop := Claim7.holds Tryd.pinned (.plain (OpenSpec.upto tapeTornSpec)) tapeTornUptoCard

/-- THE SECOND FORM's CARD OF 'reredoskeep.TapeOn'. -/
def tapeOnUptoCard : Claim7 := { stood := { row := tapeOnUptoRow, standIns := [], harness := (true, "d724b77771e799c860b4efcfe1ed71c1915f6650dc5352ac3f7d926539828dd6"), looks := false }, kinds := [], alts := [], laidByText := true, laidKinds := [.data], laidTests := true, laidLooks := .later }
def TapeOnUptoCardSaid : Prop := Claim7.holds Tryd.pinned (.plain (OpenSpec.upto tapeOnSpec)) tapeOnUptoCard

/-- THE SECOND FORM's CARD OF 'reredoskeep.TapeKeeps'. -/
def tapeKeepsUptoCard : Claim7 := { stood := { row := tapeKeepsUptoRow, standIns := [], harness := (true, "d724b77771e799c860b4efcfe1ed71c1915f6650dc5352ac3f7d926539828dd6"), looks := false }, kinds := [], alts := [], laidByText := true, laidKinds := [.data], laidTests := true, laidLooks := .later }
def TapeKeepsUptoCardSaid : Prop := Claim7.holds Tryd.pinned (.plain (OpenSpec.upto tapeKeepsSpec)) tapeKeepsUptoCard
end Rows
end Go.Proofs.YtfemngbhinlkgaaDoor
