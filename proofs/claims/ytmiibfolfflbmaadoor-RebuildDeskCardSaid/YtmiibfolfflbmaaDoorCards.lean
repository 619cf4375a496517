/-
  DERIVED. GIVEN WITH THE SEED: THE CARDS: each row of YtmiibfolfflbmaaDoorRows.lean that lists a variable, with what it lists TIED to the program's text (the seventh form; the later family's looks); each row that meets fmt, with fmt's text TOLD by the authors' own Lean function (tested against real Go, not proved from fmt's source: count such statements apart). THE CARD IS WHAT COUNTS. Prove the row's statement (the work); the ties are given (YtmiibfolfflbmaaDoorTie.lean); close each card by the builder's one call (the guide's Derived/Test/ToyasCard.lean, 'card_holds'). Laid BY PROGRAM, IN A SANDBOX (cutbox-door.mjs). By AI agents, Wed Nov 11 2026. No macro, syntax, notation, axiom, sorry.
-/
import Derived.Test.YtmiibfolfflbmaaDoorRows
import GoSem.ClaimSeven
namespace Go.Proofs.YtmiibfolfflbmaaDoor
namespace Rows

/-- THE TIED CARD OF 'reredoskeep.RebuildOn'. -/
def rebuildOnCard : Claim7 := { stood := { row := rebuildOnRow, standIns := [], harness := (true, "b8e50a0e2bbe27f43a49cf1e2e438a5d2996db91305e1737c2b2e77c7e376509"), looks := false }, kinds := [], alts := [], laidByText := true, laidKinds := [.data], laidTests := true, laidLooks := .later }
def RebuildOnCardSaid : Prop := Claim7.holds Tryd.pinned (.plain (OpenSpec.ofChange rebuildOnSpec)) rebuildOnCard

/-- THE TIED CARD OF 'reredoskeep.RebuildStore'. -/
def rebuildStoreCard : Claim7 := { stood := { row := rebuildStoreRow, standIns := [], harness := (true, "b8e50a0e2bbe27f43a49cf1e2e438a5d2996db91305e1737c2b2e77c7e376509"), looks := false }, kinds := [], alts := [], laidByText := true, laidKinds := [.data], laidTests := true, laidLooks := .later }
def RebuildStoreCardSaid : Prop := Claim7.holds Tryd.pinned (.plain (OpenSpec.ofChange rebuildStoreSpec)) rebuildStoreCard

/-- THE TIED CARD OF 'reredoskeep.RebuildDesk'. -/
def rebuildDeskCard : Claim7 := { stood := { row := rebuildDeskRow, standIns := [], harness := (true, "b8e50a0e2bbe27f43a49cf1e2e438a5d2996db91305e1737c2b2e77c7e376509"), looks := false }, kinds := [], alts := [], laidByText := true, laidKinds := [.data], laidTests := true, laidLooks := .later }
def RebuildDeskCardSaid : Prop := Claim7.holds Tryd.pinned (.plain (OpenSpec.ofChange rebuildDeskSpec)) rebuildDeskCard

/-- THE TIED CARD OF 'reredoskeep.RebuildGood'. -/
def rebuildGoodCard : Claim7 := { stood := { row := rebuildGoodRow, standIns := [], harness := (true, "b8e50a0e2bbe27f43a49cf1e2e438a5d2996db91305e1737c2b2e77c7e376509"), looks := false }, kinds := [], alts := [], laidByText := true, laidKinds := [.data], laidTests := true, laidLooks := .later }
def RebuildGoodCardSaid : Prop := Claim7.holds Tryd.pinned (.plain (OpenSpec.ofChange rebuildGoodSpec)) rebuildGoodCard

/-- THE TIED CARD OF 'reredoskeep.HearKind'. -/
def hearKindCard : Claim7 := { stood := { row := hearKindRow, standIns := [], harness := (true, "b8e50a0e2bbe27f43a49cf1e2e438a5d2996db91305e1737c2b2e77c7e376509"), looks := false }, kinds := [], alts := [], laidByText := true, laidKinds := [.data], laidTests := true, laidLooks := .later }
def HearKindCardSaid : Prop := Claim7.holds Tryd.pinned (.plain (OpenSpec.ofChange hearKindSpec)) hearKindCard

/-- THE TIED CARD OF 'reredoskeep.HearDown'. -/
def hearDownCard : Claim7 := { stood := { row := hearDownRow, standIns := [], harness := (true, "b8e50a0e2bbe27f43a49cf1e2e438a5d2996db91305e1737c2b2e77c7e376509"), looks := false }, kinds := [], alts := [], laidByText := true, laidKinds := [.data], laidTests := true, laidLooks := .later }
def HearDownCardSaid : Prop := Claim7.holds Tryd.pinned (.plain (OpenSpec.ofChange hearDownSpec)) hearDownCard

/-- THE TIED CARD OF 'reredoskeep.HearSure'. -/
def hearSureCard : Claim7 := { stood := { row := hearSureRow, standIns := [], harness := (true, "b8e50a0e2bbe27f43a49cf1e2e438a5d2996db91305e1737c2b2e77c7e376509"), looks := false }, kinds := [], alts := [], laidByText := true, laidKinds := [.data], laidTests := true, laidLooks := .later }
def HearSureCardSaid : Prop := Claim7.holds Tryd.pinned (.plain (OpenSpec.ofChange hearSureSpec)) hearSureCard

/-- THE TIED CARD OF 'reredoskeep.HearWrite'. -/
def hearWriteCard : Claim7 := { stood := { row := hearWriteRow, standIns := [], harness := (true, "b8e50a0e2bbe27f43a49cf1e2e438a5d2996db91305e1737c2b2e77c7e376509"), looks := false }, kinds := [], alts := [], laidByText := true, laidKinds := [.data], laidTests := true, laidLooks := .later }
def HearWriteCardSaid : Prop := Claim7.holds Tryd.pinned (.plain (OpenSpec.ofChange hearWriteSpec)) hearWriteCard

/-- THE TIED CARD OF 'reredoskeep.HearDecide'. -/
def hearDecideCard : Claim7 := { stood := { row := hearDecideRow, standIns := [], harness := (true, "b8e50a0e2bbe27f43a49cf1e2e438a5d2996db91305e1737c2b2e77c7e376509"), looks := false }, kinds := [], alts := [], laidByText := true, laidKinds := [.data], laidTests := true, laidLooks := .later }
def HearDecideCardSaid : Prop := Claim7.holds Tryd.pinned (.plain (OpenSpec.ofChange hearDecideSpec)) hearDecideCard

/-- THE TIED CARD OF 'reredoskeep.ForceDamage'. -/
def forceDamageCard : Claim7 := { stood := { row := forceDamageRow, standIns := [], harness := (true, "b8e50a0e2bbe27f43a49cf1e2e438a5d2996db91305e1737c2b2e77c7e376509"), looks := false }, kinds := [], alts := [], laidByText := true, laidKinds := [.data], laidTests := true, laidLooks := .later }
def ForceDamageCardSaid : Prop := Claim7.holds Tryd.pinned (.plain (OpenSpec.ofChange forceDamageSpec)) forceDamageCard

/-- THE SECOND FORM's CARD OF 'reredoskeep.RebuildOn'. -/
def rebuildOnUptoCard : Claim7 := { stood := { row := rebuildOnUptoRow, standIns := [], harness := (true, "b8e50a0e2bbe27f43a49cf1e2e438a5d2996db91305e1737c2b2e77c7e376509"), looks := false }, kinds := [], alts := [], laidByText := true, laidKinds := [.data], laidTests := true, laidLooks := .later }
def RebuildOnUptoCardSaid : Prop := Claim7.holds Tryd.pinned (.plain (OpenSpec.upto rebuildOnSpec)) rebuildOnUptoCard

/-- THE SECOND FORM's CARD OF 'reredoskeep.RebuildStore'. -/
def rebuildStoreUptoCard : Claim7 := { stood := { row := rebuildStoreUptoRow, standIns := [], harness := (true, "b8e50a0e2bbe27f43a49cf1e2e438a5d2996db91305e1737c2b2e77c7e376509"), looks := false }, kinds := [], alts := [], laidByText := true, laidKinds := [.data], laidTests := true, laidLooks := .later }
def RebuildStoreUptoCardSaid : Prop := Claim7.holds Tryd.pinned (.plain (OpenSpec.upto rebuildStoreSpec)) rebuildStoreUptoCard

/-- THE SECOND FORM's CARD OF 'reredoskeep.RebuildDesk'. -/
def rebuildDeskUptoCard : Claim7 := { stood := { row := rebuildDeskUptoRow, standIns := [], harness := (true, "b8e50a0e2bbe27f43a49cf1e2e438a5d2996db91305e1737c2b2e77c7e376509"), looks := false }, kinds := [], alts := [], laidByText := true, laidKinds := [.data], laidTests := true, laidLooks := .later }
def RebuildDeskUptoCardSaid : Prop := Claim7.holds Tryd.pinned (.plain (OpenSpec.upto rebuildDeskSpec)) rebuildDeskUptoCard

/-- THE SECOND FORM's CARD OF 'reredoskeep.RebuildGood'. -/
def rebuildGoodUptoCard : Claim7 := { stood := { row := rebuildGoodUptoRow, standIns := [], harness := (true, "b8e50a0e2bbe27f43a49cf1e2e438a5d2996db91305e1737c2b2e77c7e376509"), looks := false }, kinds := [], alts := [], laidByText := true, laidKinds := [.data], laidTests := true, laidLooks := .later }
def RebuildGoodUptoCardSaid : Prop := Claim7.holds Tryd.pinned (.plain (OpenSpec.upto rebuildGoodSpec)) rebuildGoodUptoCard

/-- THE SECOND FORM's CARD OF 'reredoskeep.HearKind'. -/
def hearKindUptoCard : Claim7 := { stood := { row := hearKindUptoRow, standIns := [], harness := (true, "b8e50a0e2bbe27f43a49cf1e2e438a5d2996db91305e1737c2b2e77c7e376509"), looks := false }, kinds := [], alts := [], laidByText := true, laidKinds := [.data], laidTests := true, laidLooks := .later }
def HearKindUptoCardSaid : Prop := Claim7.holds Tryd.pinned (.plain (OpenSpec.upto hearKindSpec)) hearKindUptoCard

/-- THE SECOND FORM's CARD OF 'reredoskeep.HearDown'. -/
def hearDownUptoCard : Claim7 := { stood := { row := hearDownUptoRow, standIns := [], harness := (true, "b8e50a0e2bbe27f43a49cf1e2e438a5d2996db91305e1737c2b2e77c7e376509"), looks := false }, kinds := [], alts := [], laidByText := true, laidKinds := [.data], laidTests := true, laidLooks := .later }
def HearDownUptoCardSaid : Prop := Claim7.holds Tryd.pinned (.plain (OpenSpec.upto hearDownSpec)) hearDownUptoCard

/-- THE SECOND FORM's CARD OF 'reredoskeep.HearSure'. -/
def hearSureUptoCard : Claim7 := { stood := { row := hearSureUptoRow, standIns := [], harness := (true, "b8e50a0e2bbe27f43a49cf1e2e438a5d2996db91305e1737c2b2e77c7e376509"), looks := false }, kinds := [], alts := [], laidByText := true, laidKinds := [.data], laidTests := true, laidLooks := .later }
def HearSureUptoCardSaid : Prop := Claim7.holds Tryd.pinned (.plain (OpenSpec.upto hearSureSpec)) hearSureUptoCard

/-- THE SECOND FORM's CARD OF 'reredoskeep.HearWrite'. -/
def hearWriteUptoCard : Claim7 := { stood := { row := hearWriteUptoRow, standIns := [], harness := (true, "b8e50a0e2bbe27f43a49cf1e2e438a5d2996db91305e1737c2b2e77c7e376509"), looks := false }, kinds := [], alts := [], laidByText := true, laidKinds := [.data], laidTests := true, laidLooks := .later }
def HearWriteUptoCardSaid : Prop := Claim7.holds Tryd.pinned (.plain (OpenSpec.upto hearWriteSpec)) hearWriteUptoCard

/-- THE SECOND FORM's CARD OF 'reredoskeep.HearDecide'. -/
def hearDecideUptoCard : Claim7 := { stood := { row := hearDecideUptoRow, standIns := [], harness := (true, "b8e50a0e2bbe27f43a49cf1e2e438a5d2996db91305e1737c2b2e77c7e376509"), looks := false }, kinds := [], alts := [], laidByText := true, laidKinds := [.data], laidTests := true, laidLooks := .later }
def HearDecideUptoCardSaid : Prop := Claim7.holds Tryd.pinned (.plain (OpenSpec.upto hearDecideSpec)) hearDecideUptoCard

/-- THE SECOND FORM's CARD OF 'reredoskeep.ForceDamage'. -/
def forceDamageUptoCard : Claim7 := { stood := { row := forceDamageUptoRow, standIns := [], harness := (true, "b8e50a0e2bbe27f43a49cf1e2e438a5d2996db91305e1737c2b2e77c7e376509"), looks := false }, kinds := [], alts := [], laidByText := true, laidKinds := [.data], laidTests := true, laidLooks := .later }
def ForceDamageUptoCardSaid : Prop := Claim7.holds Tryd.pinned (.plain (OpenSpec.upto forceDamageSpec)) forceDamageUptoCard
end Rows
end Go.Proofs.YtmiibfolfflbmaaDoor
