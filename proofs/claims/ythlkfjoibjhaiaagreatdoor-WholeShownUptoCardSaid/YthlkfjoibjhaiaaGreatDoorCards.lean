/-
  DERIVED. GIVEN WITH THE SEED: THE CARDS: each row of YthlkfjoibjhaiaaGreatDoorRows.lean that lists a variable, with what it lists TIED to the program's text (the seventh form; the later family's looks); each row that meets fmt, with fmt's text TOLD by the authors' own Lean function (tested against real Go, not proved from fmt's source: count such statements apart). THE CARD IS WHAT COUNTS. Prove the row's statement (the work); the ties are given (YthlkfjoibjhaiaaGreatDoorTie.lean); close each card by the builder's one call (the guide's Derived/Test/ToyasCard.lean, 'card_holds'). Laid BY PROGRAM, IN A SANDBOX (cutbox-door.mjs). By AI agents, Wed Nov 11 2026. No macro, syntax, notation, axiom, sorry.
-/
import Derived.Test.YthlkfjoibjhaiaaGreatDoorRows
import GoSem.ClaimSeven
namespace Go.Proofs.YthlkfjoibjhaiaaGreatDoor
namespace Rows

/-- THE TIED CARD OF 'notarylaw16.HcheckKeeps'. -/
def hcheckKeepsCard : Claim7 := { stood := { row := hcheckKeepsRow, standIns := [], harness := (true, "b849336d3f70bacf085ce9cec4ca126a4ac648ed514e2aa3c43863c951103c29"), looks := true }, kinds := [], alts := [], laidByText := true, laidKinds := [.data], laidTests := true, laidLooks := .later }
def HcheckKeepsCardSaid : Prop := Claim7.holds Tryz.pinned (.plain (OpenSpec.ofChange hcheckKeepsSpec)) hcheckKeepsCard

/-- THE TIED CARD OF 'notarylaw15.HproofKeeps'. -/
def hproofKeepsCard : Claim7 := { stood := { row := hproofKeepsRow, standIns := [], harness := (true, "b849336d3f70bacf085ce9cec4ca126a4ac648ed514e2aa3c43863c951103c29"), looks := true }, kinds := [], alts := [], laidByText := true, laidKinds := [.data], laidTests := true, laidLooks := .later }
def HproofKeepsCardSaid : Prop := Claim7.holds Tryz.pinned (.plain (OpenSpec.ofChange hproofKeepsSpec)) hproofKeepsCard

/-- THE TIED CARD OF 'notarylaw14.HamtMemory'. -/
def hamtMemoryCard : Claim7 := { stood := { row := hamtMemoryRow, standIns := [], harness := (true, "b849336d3f70bacf085ce9cec4ca126a4ac648ed514e2aa3c43863c951103c29"), looks := true }, kinds := [], alts := [], laidByText := true, laidKinds := [.data], laidTests := true, laidLooks := .later }
def HamtMemoryCardSaid : Prop := Claim7.holds Tryz.pinned (.plain (OpenSpec.ofChange hamtMemorySpec)) hamtMemoryCard

/-- THE TIED CARD OF 'notarytop.WholeShown'. -/
def wholeShownCard : Claim7 := { stood := { row := wholeShownRow, standIns := [], harness := (true, "b849336d3f70bacf085ce9cec4ca126a4ac648ed514e2aa3c43863c951103c29"), looks := true }, kinds := [], alts := [], laidByText := true, laidKinds := [.data], laidTests := true, laidLooks := .later }
def WholeShownCardSaid : Prop := Claim7.holds Tryz.pinned (.plain (OpenSpec.ofChange wholeShownSpec)) wholeShownCard

/-- THE TIED CARD OF 'notarylaw19.SnapWalks'. -/
def snapWalksCard : Claim7 := { stood := { row := snapWalksRow, standIns := [], harness := (true, "b849336d3f70bacf085ce9cec4ca126a4ac648ed514e2aa3c43863c951103c29"), looks := true }, kinds := [], alts := [], laidByText := true, laidKinds := [.data], laidTests := true, laidLooks := .later }
def SnapWalksCardSaid : Prop := Claim7.holds Tryz.pinned (.plain (OpenSpec.ofChange snapWalksSpec)) snapWalksCard

/-- THE TIED CARD OF 'notarylaw19.SnapRoots'. -/
def snapRootsCard : Claim7 := { stood := { row := snapRootsRow, standIns := [], harness := (true, "b849336d3f70bacf085ce9cec4ca126a4ac648ed514e2aa3c43863c951103c29"), looks := true }, kinds := [], alts := [], laidByText := true, laidKinds := [.data], laidTests := true, laidLooks := .later }
def SnapRootsCardSaid : Prop := Claim7.holds Tryz.pinned (.plain (OpenSpec.ofChange snapRootsSpec)) snapRootsCard

/-- THE TIED CARD OF 'notarylaw19.SnapGrows'. -/
def snapGrowsCard : Claim7 := { stood := { row := snapGrowsRow, standIns := [], harness := (true, "b849336d3f70bacf085ce9cec4ca126a4ac648ed514e2aa3c43863c951103c29"), looks := true }, kinds := [], alts := [], laidByText := true, laidKinds := [.data], laidTests := true, laidLooks := .later }
def SnapGrowsCardSaid : Prop := Claim7.holds Tryz.pinned (.plain (OpenSpec.ofChange snapGrowsSpec)) snapGrowsCard

/-- THE TIED CARD OF 'notarylaw19.SnapReads'. -/
def snapReadsCard : Claim7 := { stood := { row := snapReadsRow, standIns := [], harness := (true, "b849336d3f70bacf085ce9cec4ca126a4ac648ed514e2aa3c43863c951103c29"), looks := true }, kinds := [], alts := [], laidByText := true, laidKinds := [.data], laidTests := true, laidLooks := .later }
def SnapReadsCardSaid : Prop := Claim7.holds Tryz.pinned (.plain (OpenSpec.ofChange snapReadsSpec)) snapReadsCard

/-- THE TIED CARD OF 'notarylaw17.ProofEncodes'. -/
def proofEncodesCard : Claim7 := { stood := { row := proofEncodesRow, standIns := [], harness := (true, "b849336d3f70bacf085ce9cec4ca126a4ac648ed514e2aa3c43863c951103c29"), looks := true }, kinds := [], alts := [], laidByText := true, laidKinds := [.data], laidTests := true, laidLooks := .later }
def ProofEncodesCardSaid : Prop := Claim7.holds Tryz.pinned (.plain (OpenSpec.ofChange proofEncodesSpec)) proofEncodesCard

/-- THE TIED CARD OF 'notarylaw17.ProofVerifies'. -/
def proofVerifiesCard : Claim7 := { stood := { row := proofVerifiesRow, standIns := [], harness := (true, "b849336d3f70bacf085ce9cec4ca126a4ac648ed514e2aa3c43863c951103c29"), looks := true }, kinds := [], alts := [], laidByText := true, laidKinds := [.data], laidTests := true, laidLooks := .later }
def ProofVerifiesCardSaid : Prop := Claim7.holds Tryz.pinned (.plain (OpenSpec.ofChange proofVerifiesSpec)) proofVerifiesCard

/-- THE TIED CARD OF 'notarylaw17.ProofForms'. -/
def proofFormsCard : Claim7 := { stood := { row := proofFormsRow, standIns := [], harness := (true, "b849336d3f70bacf085ce9cec4ca126a4ac648ed514e2aa3c43863c951103c29"), looks := true }, kinds := [], alts := [], laidByText := true, laidKinds := [.data], laidTests := true, laidLooks := .later }
def ProofFormsCardSaid : Prop := Claim7.holds Tryz.pinned (.plain (OpenSpec.ofChange proofFormsSpec)) proofFormsCard

/-- THE TIED CARD OF 'notarylaw17.ProofFixed'. -/
def proofFixedCard : Claim7 := { stood := { row := proofFixedRow, standIns := [], harness := (true, "b849336d3f70bacf085ce9cec4ca126a4ac648ed514e2aa3c43863c951103c29"), looks := true }, kinds := [], alts := [], laidByText := true, laidKinds := [.data], laidTests := true, laidLooks := .later }
def ProofFixedCardSaid : Prop := Claim7.holds Tryz.pinned (.plain (OpenSpec.ofChange proofFixedSpec)) proofFixedCard

/-- THE SECOND FORM's CARD OF 'notarylaw16.HcheckKeeps'. -/
def hcheckKeepsUptoCard : Claim7 := { stood := { row := hcheckKeepsUptoRow, standIns := [], harness := (true, "b849336d3f70bacf085ce9cec4ca126a4ac648ed514e2aa3c43863c951103c29"), looks := true }, kinds := [], alts := [], laidByText := true, laidKinds := [.data], laidTests := true, laidLooks := .later }
def HcheckKeepsUptoCardSaid : Prop := Claim7.holds Tryz.pinned (.plain (OpenSpec.upto hcheckKeepsSpec)) hcheckKeepsUptoCard

/-- THE SECOND FORM's CARD OF 'notarylaw15.HproofKeeps'. -/
def hproofKeepsUptoCard : Claim7 := { stood := { row := hproofKeepsUptoRow, standIns := [], harness := (true, "b849336d3f70bacf085ce9cec4ca126a4ac648ed514e2aa3c43863c951103c29"), looks := true }, kinds := [], alts := [], laidByText := true, laidKinds := [.data], laidTests := true, laidLooks := .later }
def HproofKeepsUptoCardSaid : Prop := Claim7.holds Tryz.pinned (.plain (OpenSpec.upto hproofKeepsSpec)) hproofKeepsUptoCard

/-- THE SECOND FORM's CARD OF 'notarylaw14.HamtMemory'. -/
def hamtMemoryUptoCard : Claim7 := { stood := { row := hamtMemoryUptoRow, standIns := [], harness := (true, "b849336d3f70bacf085ce9cec4ca126a4ac648ed514e2aa3c43863c951103c29"), looks := true }, kinds := [], alts := [], laidByText := true, laidKinds := [.data], laidTests := true, laidLooks := .later }
def HamtMemoryUptoCardSaid : Prop := Claim7.holds Tryz.pinned (.plain (OpenSpec.upto hamtMemorySpec)) hamtMemoryUptoCard

/-- THE SECOND FORM's CARD OF 'notarytop.WholeShown'. -/
def wholeShownUptoCard : Claim7 := { stood := { row := wholeShownUptoRow, standIns := [], harness := (true, "b849336d3f70bacf085ce9cec4ca126a4ac648ed514e2aa3c43863c951103c29"), looks := true }, kinds := [], alts := [], laidByText := true, laidKinds := [.data], laidTests := true, laidLooks := .later }
def WholeShownUptoCardSaid : Prop := Claim7.holds Tryz.pinned (.plain (OpenSpec.upto wholeShownSpec)) wholeShownUptoCard

/-- THE SECOND FORM's CARD OF 'notarylaw19.SnapWalks'. -/
def snapWalksUptoCard : Claim7 := { stood := { row := snapWalksUptoRow, standIns := [], harness := (true, "b849336d3f70bacf085ce9cec4ca126a4ac648ed514e2aa3c43863c951103c29"), looks := true }, kinds := [], alts := [], laidByText := true, laidKinds := [.data], laidTests := true, laidLooks := .later }
def SnapWalksUptoCardSaid : Prop := Claim7.holds Tryz.pinned (.plain (OpenSpec.upto snapWalksSpec)) snapWalksUptoCard

/-- THE SECOND FORM's CARD OF 'notarylaw19.SnapRoots'. -/
def snapRootsUptoCard : Claim7 := { stood := { row := snapRootsUptoRow, standIns := [], harness := (true, "b849336d3f70bacf085ce9cec4ca126a4ac648ed514e2aa3c43863c951103c29"), looks := true }, kinds := [], alts := [], laidByText := true, laidKinds := [.data], laidTests := true, laidLooks := .later }
def SnapRootsUptoCardSaid : Prop := Claim7.holds Tryz.pinned (.plain (OpenSpec.upto snapRootsSpec)) snapRootsUptoCard

/-- THE SECOND FORM's CARD OF 'notarylaw19.SnapGrows'. -/
def snapGrowsUptoCard : Claim7 := { stood := { row := snapGrowsUptoRow, standIns := [], harness := (true, "b849336d3f70bacf085ce9cec4ca126a4ac648ed514e2aa3c43863c951103c29"), looks := true }, kinds := [], alts := [], laidByText := true, laidKinds := [.data], laidTests := true, laidLooks := .later }
def SnapGrowsUptoCardSaid : Prop := Claim7.holds Tryz.pinned (.plain (OpenSpec.upto snapGrowsSpec)) snapGrowsUptoCard

/-- THE SECOND FORM's CARD OF 'notarylaw19.SnapReads'. -/
def snapReadsUptoCard : Claim7 := { stood := { row := snapReadsUptoRow, standIns := [], harness := (true, "b849336d3f70bacf085ce9cec4ca126a4ac648ed514e2aa3c43863c951103c29"), looks := true }, kinds := [], alts := [], laidByText := true, laidKinds := [.data], laidTests := true, laidLooks := .later }
def SnapReadsUptoCardSaid : Prop := Claim7.holds Tryz.pinned (.plain (OpenSpec.upto snapReadsSpec)) snapReadsUptoCard

/-- THE SECOND FORM's CARD OF 'notarylaw17.ProofEncodes'. -/
def proofEncodesUptoCard : Claim7 := { stood := { row := proofEncodesUptoRow, standIns := [], harness := (true, "b849336d3f70bacf085ce9cec4ca126a4ac648ed514e2aa3c43863c951103c29"), looks := true }, kinds := [], alts := [], laidByText := true, laidKinds := [.data], laidTests := true, laidLooks := .later }
def ProofEncodesUptoCardSaid : Prop := Claim7.holds Tryz.pinned (.plain (OpenSpec.upto proofEncodesSpec)) proofEncodesUptoCard

/-- THE SECOND FORM's CARD OF 'notarylaw17.ProofVerifies'. -/
def proofVerifiesUptoCard : Claim7 := { stood := { row := proofVerifiesUptoRow, standIns := [], harness := (true, "b849336d3f70bacf085ce9cec4ca126a4ac648ed514e2aa3c43863c951103c29"), looks := true }, kinds := [], alts := [], laidByText := true, laidKinds := [.data], laidTests := true, laidLooks := .later }
def ProofVerifiesUptoCardSaid : Prop := Claim7.holds Tryz.pinned (.plain (OpenSpec.upto proofVerifiesSpec)) proofVerifiesUptoCard

/-- THE SECOND FORM's CARD OF 'notarylaw17.ProofForms'. -/
def proofFormsUptoCard : Claim7 := { stood := { row := proofFormsUptoRow, standIns := [], harness := (true, "b849336d3f70bacf085ce9cec4ca126a4ac648ed514e2aa3c43863c951103c29"), looks := true }, kinds := [], alts := [], laidByText := true, laidKinds := [.data], laidTests := true, laidLooks := .later }
def ProofFormsUptoCardSaid : Prop := Claim7.holds Tryz.pinned (.plain (OpenSpec.upto proofFormsSpec)) proofFormsUptoCard

/-- THE SECOND FORM's CARD OF 'notarylaw17.ProofFixed'. -/
def proofFixedUptoCard : Claim7 := { stood := { row := proofFixedUptoRow, standIns := [], harness := (true, "b849336d3f70bacf085ce9cec4ca126a4ac648ed514e2aa3c43863c951103c29"), looks := true }, kinds := [], alts := [], laidByText := true, laidKinds := [.data], laidTests := true, laidLooks := .later }
def ProofFixedUptoCardSaid : Prop := Claim7.holds Tryz.pinned (.plain (OpenSpec.upto proofFixedSpec)) proofFixedUptoCard
end Rows
end Go.Proofs.YthlkfjoibjhaiaaGreatDoor
