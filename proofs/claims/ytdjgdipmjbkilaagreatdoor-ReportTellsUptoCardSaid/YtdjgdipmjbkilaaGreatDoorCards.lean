/-
  DERIVED. GIVEN WITH THE SEED: THE CARDS: each row of YtdjgdipmjbkilaaGreatDoorRows.lean that lists a variable, with what it lists TIED to the program's text (the seventh form; the later family's looks); each row that meets fmt, with fmt's text TOLD by the authors' own Lean function (tested against real Go, not proved from fmt's source: count such statements apart). THE CARD IS WHAT COUNTS. Prove the row's statement (the work); the ties are given (YtdjgdipmjbkilaaGreatDoorTie.lean); close each card by the builder's one call (the guide's Derived/Test/ToyasCard.lean, 'card_holds'). Laid BY PROGRAM, IN A SANDBOX (cutbox-door.mjs). By AI agents, Wed Nov 11 2026. No macro, syntax, notation, axiom, sorry.
-/
import Derived.Test.YtdjgdipmjbkilaaGreatDoorRows
import GoSem.ClaimSeven
namespace Go.Proofs.YtdjgdipmjbkilaaGreatDoor
namespace Rows

/-- THE TIED CARD OF 'collatorlaw12.ReportTells'. -/
def reportTellsCard : Claim7 := { stood := { row := reportTellsRow, standIns := [], harness := (true, "cf9badb0a2dcb654efc687b405efb216c3d1c337f0aeea079c5a568dda46da80"), looks := true }, kinds := [], alts := [], laidByText := true, laidKinds := [.data, .data, .data, .sentinel, .sentinel], laidTests := true, laidLooks := .later }
def ReportTellsCardSaid : Prop := Claim7.holds Tryz.pinned (.plain (OpenSpec.ofChange reportTellsSpec)) reportTellsCard

/-- THE TIED CARD OF 'collatorlaw12.ReportBack'. -/
def reportBackCard : Claim7 := { stood := { row := reportBackRow, standIns := [], harness := (true, "cf9badb0a2dcb654efc687b405efb216c3d1c337f0aeea079c5a568dda46da80"), looks := true }, kinds := [], alts := [], laidByText := true, laidKinds := [.data, .data, .data, .sentinel, .sentinel], laidTests := true, laidLooks := .later }
def ReportBackCardSaid : Prop := Claim7.holds Tryz.pinned (.plain (OpenSpec.ofChange reportBackSpec)) reportBackCard

/-- THE TIED CARD OF 'collatorlaw12.ReportForms'. -/
def reportFormsCard : Claim7 := { stood := { row := reportFormsRow, standIns := [], harness := (true, "cf9badb0a2dcb654efc687b405efb216c3d1c337f0aeea079c5a568dda46da80"), looks := true }, kinds := [], alts := [], laidByText := true, laidKinds := [.data, .data, .data, .sentinel, .sentinel], laidTests := true, laidLooks := .later }
def ReportFormsCardSaid : Prop := Claim7.holds Tryz.pinned (.plain (OpenSpec.ofChange reportFormsSpec)) reportFormsCard

/-- THE TIED CARD OF 'collatorlaw12.ReportParts'. -/
def reportPartsCard : Claim7 := { stood := { row := reportPartsRow, standIns := [], harness := (true, "cf9badb0a2dcb654efc687b405efb216c3d1c337f0aeea079c5a568dda46da80"), looks := true }, kinds := [], alts := [], laidByText := true, laidKinds := [.data, .data, .data, .sentinel, .sentinel], laidTests := true, laidLooks := .later }
def ReportPartsCardSaid : Prop := Claim7.holds Tryz.pinned (.plain (OpenSpec.ofChange reportPartsSpec)) reportPartsCard

/-- THE TIED CARD OF 'collatorlaw12.ReportCuts'. -/
def reportCutsCard : Claim7 := { stood := { row := reportCutsRow, standIns := [], harness := (true, "cf9badb0a2dcb654efc687b405efb216c3d1c337f0aeea079c5a568dda46da80"), looks := true }, kinds := [], alts := [], laidByText := true, laidKinds := [.data, .data, .data, .sentinel, .sentinel], laidTests := true, laidLooks := .later }
def ReportCutsCardSaid : Prop := Claim7.holds Tryz.pinned (.plain (OpenSpec.ofChange reportCutsSpec)) reportCutsCard

/-- THE SECOND FORM's CARD OF 'collatorlaw12.ReportTells'. -/
def reportTellsUptoCard : Claim7 := { stood := { row := reportTellsUptoRow, standIns := [], harness := (true, "cf9badb0a2dcb654efc687b405efb216c3d1c337f0aeea079c5a568dda46da80"), looks := true }, kinds := [], alts := [], laidByText := true, laidKinds := [.data, .data, .data, .sentinel, .sentinel], laidTests := true, laidLooks := .later }
def ReportTellsUptoCardSaid : Prop := Claim7.holds Tryz.pinned (.plain (OpenSpec.upto reportTellsSpec)) reportTellsUptoCard

/-- THE SECOND FORM's CARD OF 'collatorlaw12.ReportBack'. -/
def reportBackUptoCard : Claim7 := { stood := { row := reportBackUptoRow, standIns := [], harness := (true, "cf9badb0a2dcb654efc687b405efb216c3d1c337f0aeea079c5a568dda46da80"), looks := true }, kinds := [], alts := [], laidByText := true, laidKinds := [.data, .data, .data, .sentinel, .sentinel], laidTests := true, laidLooks := .later }
def ReportBackUptoCardSaid : Prop := Claim7.holds Tryz.pinned (.plain (OpenSpec.upto reportBackSpec)) reportBackUptoCard

/-- THE SECOND FORM's CARD OF 'collatorlaw12.ReportForms'. -/
def reportFormsUptoCard : Claim7 := { stood := { row := reportFormsUptoRow, standIns := [], harness := (true, "cf9badb0a2dcb654efc687b405efb216c3d1c337f0aeea079c5a568dda46da80"), looks := true }, kinds := [], alts := [], laidByText := true, laidKinds := [.data, .data, .data, .sentinel, .sentinel], laidTests := true, laidLooks := .later }
def ReportFormsUptoCardSaid : Prop := Claim7.holds Tryz.pinned (.plain (OpenSpec.upto reportFormsSpec)) reportFormsUptoCard

/-- THE SECOND FORM's CARD OF 'collatorlaw12.ReportParts'. -/
def reportPartsUptoCard : Claim7 := { stood := { row := reportPartsUptoRow, standIns := [], harness := (true, "cf9badb0a2dcb654efc687b405efb216c3d1c337f0aeea079c5a568dda46da80"), looks := true }, kinds := [], alts := [], laidByText := true, laidKinds := [.data, .data, .data, .sentinel, .sentinel], laidTests := true, laidLooks := .later }
def ReportPartsUptoCardSaid : Prop := Claim7.holds Tryz.pinned (.plain (OpenSpec.upto reportPartsSpec)) reportPartsUptoCard

/-- THE SECOND FORM's CARD OF 'collatorlaw12.ReportCuts'. -/
def reportCutsUptoCard : Claim7 := { stood := { row := reportCutsUptoRow, standIns := [], harness := (true, "cf9badb0a2dcb654efc687b405efb216c3d1c337f0aeea079c5a568dda46da80"), looks := true }, kinds := [], alts := [], laidByText := true, laidKinds := [.data, .data, .data, .sentinel, .sentinel], laidTests := true, laidLooks := .later }
def ReportCutsUptoCardSaid : Prop := Claim7.holds Tryz.pinned (.plain (OpenSpec.upto reportCutsSpec)) reportCutsUptoCard
end Rows
end Go.Proofs.YtdjgdipmjbkilaaGreatDoor
