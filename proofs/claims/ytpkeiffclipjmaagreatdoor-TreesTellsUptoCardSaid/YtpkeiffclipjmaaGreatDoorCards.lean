/-
  DERIVED. GIVEN WITH THE SEED: THE CARDS: each row of YtpkeiffclipjmaaGreatDoorRows.lean that lists a variable, with what it lists TIED to the program's text (the seventh form; the later family's looks); each row that meets fmt, with fmt's text TOLD by the authors' own Lean function (tested against real Go, not proved from fmt's source: count such statements apart). THE CARD IS WHAT COUNTS. Prove the row's statement (the work); the ties are given (YtpkeiffclipjmaaGreatDoorTie.lean); close each card by the builder's one call (the guide's Derived/Test/ToyasCard.lean, 'card_holds'). Laid BY PROGRAM, IN A SANDBOX (cutbox-door.mjs). By AI agents, Wed Nov 11 2026. No macro, syntax, notation, axiom, sorry.
-/
import Derived.Test.YtpkeiffclipjmaaGreatDoorRows
import GoSem.ClaimSeven
namespace Go.Proofs.YtpkeiffclipjmaaGreatDoor
namespace Rows

/-- THE TIED CARD OF 'collatorlaw02.TreesTells'. -/
def treesTellsCard : Claim7 := { stood := { row := treesTellsRow, standIns := [], harness := (true, "21c1175e366a0c0dd76cb5e877b2ade81fc628ecf82a9dfa58ebb43484a24d45"), looks := true }, kinds := [], alts := [], laidByText := true, laidKinds := [.data, .handle, .pinned], laidTests := true, laidLooks := .later }
def TreesTellsCardSaid : Prop := Claim7.holds Tryz.pinned (.plain (OpenSpec.ofChange treesTellsSpec)) treesTellsCard

/-- THE TIED CARD OF 'collatorlaw02.TreesOrder'. -/
def treesOrderCard : Claim7 := { stood := { row := treesOrderRow, standIns := [], harness := (true, "21c1175e366a0c0dd76cb5e877b2ade81fc628ecf82a9dfa58ebb43484a24d45"), looks := true }, kinds := [], alts := [], laidByText := true, laidKinds := [.data, .handle, .pinned], laidTests := true, laidLooks := .later }
def TreesOrderCardSaid : Prop := Claim7.holds Tryz.pinned (.plain (OpenSpec.ofChange treesOrderSpec)) treesOrderCard

/-- THE TIED CARD OF 'collatorlaw02.TreesLeast'. -/
def treesLeastCard : Claim7 := { stood := { row := treesLeastRow, standIns := [], harness := (true, "21c1175e366a0c0dd76cb5e877b2ade81fc628ecf82a9dfa58ebb43484a24d45"), looks := true }, kinds := [], alts := [], laidByText := true, laidKinds := [.data, .handle, .pinned], laidTests := true, laidLooks := .later }
def TreesLeastCardSaid : Prop := Claim7.holds Tryz.pinned (.plain (OpenSpec.ofChange treesLeastSpec)) treesLeastCard

/-- THE TIED CARD OF 'collatorlaw02.TreesLimits'. -/
def treesLimitsCard : Claim7 := { stood := { row := treesLimitsRow, standIns := [], harness := (true, "21c1175e366a0c0dd76cb5e877b2ade81fc628ecf82a9dfa58ebb43484a24d45"), looks := true }, kinds := [], alts := [], laidByText := true, laidKinds := [.data, .handle, .pinned], laidTests := true, laidLooks := .later }
def TreesLimitsCardSaid : Prop := Claim7.holds Tryz.pinned (.plain (OpenSpec.ofChange treesLimitsSpec)) treesLimitsCard

/-- THE TIED CARD OF 'collatorlaw02.TreesList'. -/
def treesListCard : Claim7 := { stood := { row := treesListRow, standIns := [], harness := (true, "21c1175e366a0c0dd76cb5e877b2ade81fc628ecf82a9dfa58ebb43484a24d45"), looks := true }, kinds := [], alts := [], laidByText := true, laidKinds := [.data, .handle, .pinned], laidTests := true, laidLooks := .later }
def TreesListCardSaid : Prop := Claim7.holds Tryz.pinned (.plain (OpenSpec.ofChange treesListSpec)) treesListCard

/-- THE TIED CARD OF 'collatorlaw02.TreesLeaf'. -/
def treesLeafCard : Claim7 := { stood := { row := treesLeafRow, standIns := [], harness := (true, "21c1175e366a0c0dd76cb5e877b2ade81fc628ecf82a9dfa58ebb43484a24d45"), looks := true }, kinds := [], alts := [], laidByText := true, laidKinds := [.data, .handle, .pinned], laidTests := true, laidLooks := .later }
def TreesLeafCardSaid : Prop := Claim7.holds Tryz.pinned (.plain (OpenSpec.ofChange treesLeafSpec)) treesLeafCard

/-- THE TIED CARD OF 'collatorlaw02.TreesUnder'. -/
def treesUnderCard : Claim7 := { stood := { row := treesUnderRow, standIns := [], harness := (true, "21c1175e366a0c0dd76cb5e877b2ade81fc628ecf82a9dfa58ebb43484a24d45"), looks := true }, kinds := [], alts := [], laidByText := true, laidKinds := [.data, .handle, .pinned], laidTests := true, laidLooks := .later }
def TreesUnderCardSaid : Prop := Claim7.holds Tryz.pinned (.plain (OpenSpec.ofChange treesUnderSpec)) treesUnderCard

/-- THE SECOND FORM's CARD OF 'collatorlaw02.TreesTells'. -/
def treesTellsUptoCard : Claim7 := { stood := { row := treesTellsUptoRow, standIns := [], harness := (true, "21c1175e366a0c0dd76cb5e877b2ade81fc628ecf82a9dfa58ebb43484a24d45"), looks := true }, kinds := [], alts := [], laidByText := true, laidKinds := [.data, .handle, .pinned], laidTests := true, laidLooks := .later }
def TreesTellsUptoCardSaid : Prop := Claim7.holds Tryz.pinned (.plain (OpenSpec.upto treesTellsSpec)) treesTellsUptoCard

/-- THE SECOND FORM's CARD OF 'collatorlaw02.TreesOrder'. -/
def treesOrderUptoCard : Claim7 := { stood := { row := treesOrderUptoRow, standIns := [], harness := (true, "21c1175e366a0c0dd76cb5e877b2ade81fc628ecf82a9dfa58ebb43484a24d45"), looks := true }, kinds := [], alts := [], laidByText := true, laidKinds := [.data, .handle, .pinned], laidTests := true, laidLooks := .later }
def TreesOrderUptoCardSaid : Prop := Claim7.holds Tryz.pinned (.plain (OpenSpec.upto treesOrderSpec)) treesOrderUptoCard

/-- THE SECOND FORM's CARD OF 'collatorlaw02.TreesLeast'. -/
def treesLeastUptoCard : Claim7 := { stood := { row := treesLeastUptoRow, standIns := [], harness := (true, "21c1175e366a0c0dd76cb5e877b2ade81fc628ecf82a9dfa58ebb43484a24d45"), looks := true }, kinds := [], alts := [], laidByText := true, laidKinds := [.data, .handle, .pinned], laidTests := true, laidLooks := .later }
def TreesLeastUptoCardSaid : Prop := Claim7.holds Tryz.pinned (.plain (OpenSpec.upto treesLeastSpec)) treesLeastUptoCard

/-- THE SECOND FORM's CARD OF 'collatorlaw02.TreesLimits'. -/
def treesLimitsUptoCard : Claim7 := { stood := { row := treesLimitsUptoRow, standIns := [], harness := (true, "21c1175e366a0c0dd76cb5e877b2ade81fc628ecf82a9dfa58ebb43484a24d45"), looks := true }, kinds := [], alts := [], laidByText := true, laidKinds := [.data, .handle, .pinned], laidTests := true, laidLooks := .later }
def TreesLimitsUptoCardSaid : Prop := Claim7.holds Tryz.pinned (.plain (OpenSpec.upto treesLimitsSpec)) treesLimitsUptoCard

/-- THE SECOND FORM's CARD OF 'collatorlaw02.TreesList'. -/
def treesListUptoCard : Claim7 := { stood := { row := treesListUptoRow, standIns := [], harness := (true, "21c1175e366a0c0dd76cb5e877b2ade81fc628ecf82a9dfa58ebb43484a24d45"), looks := true }, kinds := [], alts := [], laidByText := true, laidKinds := [.data, .handle, .pinned], laidTests := true, laidLooks := .later }
def TreesListUptoCardSaid : Prop := Claim7.holds Tryz.pinned (.plain (OpenSpec.upto treesListSpec)) treesListUptoCard

/-- THE SECOND FORM's CARD OF 'collatorlaw02.TreesLeaf'. -/
def treesLeafUptoCard : Claim7 := { stood := { row := treesLeafUptoRow, standIns := [], harness := (true, "21c1175e366a0c0dd76cb5e877b2ade81fc628ecf82a9dfa58ebb43484a24d45"), looks := true }, kinds := [], alts := [], laidByText := true, laidKinds := [.data, .handle, .pinned], laidTests := true, laidLooks := .later }
def TreesLeafUptoCardSaid : Prop := Claim7.holds Tryz.pinned (.plain (OpenSpec.upto treesLeafSpec)) treesLeafUptoCard

/-- THE SECOND FORM's CARD OF 'collatorlaw02.TreesUnder'. -/
def treesUnderUptoCard : Claim7 := { stood := { row := treesUnderUptoRow, standIns := [], harness := (true, "21c1175e366a0c0dd76cb5e877b2ade81fc628ecf82a9dfa58ebb43484a24d45"), looks := true }, kinds := [], alts := [], laidByText := true, laidKinds := [.data, .handle, .pinned], laidTests := true, laidLooks := .later }
def TreesUnderUptoCardSaid : Prop := Claim7.holds Tryz.pinned (.plain (OpenSpec.upto treesUnderSpec)) treesUnderUptoCard
end Rows
end Go.Proofs.YtpkeiffclipjmaaGreatDoor
