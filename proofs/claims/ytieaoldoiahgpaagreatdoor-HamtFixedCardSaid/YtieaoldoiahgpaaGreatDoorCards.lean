/-
  DERIVED. GIVEN WITH THE SEED: THE CARDS: each row of YtieaoldoiahgpaaGreatDoorRows.lean that lists a variable, with what it lists TIED to the program's text (the seventh form; the later family's looks); each row that meets fmt, with fmt's text TOLD by the authors' own Lean function (tested against real Go, not proved from fmt's source: count such statements apart). THE CARD IS WHAT COUNTS. Prove the row's statement (the work); the ties are given (YtieaoldoiahgpaaGreatDoorTie.lean); close each card by the builder's one call (the guide's Derived/Test/ToyasCard.lean, 'card_holds'). Laid BY PROGRAM, IN A SANDBOX (cutbox-door.mjs). By AI agents, Wed Nov 11 2026. No macro, syntax, notation, axiom, sorry.
-/
import Derived.Test.YtieaoldoiahgpaaGreatDoorRows
import GoSem.ClaimSeven
namespace Go.Proofs.YtieaoldoiahgpaaGreatDoor
namespace Rows

/-- THE TIED CARD OF 'notarylaw14.HamtFolds'. -/
def hamtFoldsCard : Claim7 := { stood := { row := hamtFoldsRow, standIns := [], harness := (true, "807b6d5441ed0e482032c7c304b00c0022b93e1247d9cb1f9d2d07884bb34b4c"), looks := true }, kinds := [], alts := [], laidByText := true, laidKinds := [.data], laidTests := true, laidLooks := .later }
def HamtFoldsCardSaid : Prop := Claim7.holds Tryz.pinned (.plain (OpenSpec.ofChange hamtFoldsSpec)) hamtFoldsCard

/-- THE TIED CARD OF 'notarylaw14.HamtShape'. -/
def hamtShapeCard : Claim7 := { stood := { row := hamtShapeRow, standIns := [], harness := (true, "807b6d5441ed0e482032c7c304b00c0022b93e1247d9cb1f9d2d07884bb34b4c"), looks := true }, kinds := [], alts := [], laidByText := true, laidKinds := [.data], laidTests := true, laidLooks := .later }
def HamtShapeCardSaid : Prop := Claim7.holds Tryz.pinned (.plain (OpenSpec.ofChange hamtShapeSpec)) hamtShapeCard

/-- THE TIED CARD OF 'notarylaw14.HamtWalks'. -/
def hamtWalksCard : Claim7 := { stood := { row := hamtWalksRow, standIns := [], harness := (true, "807b6d5441ed0e482032c7c304b00c0022b93e1247d9cb1f9d2d07884bb34b4c"), looks := true }, kinds := [], alts := [], laidByText := true, laidKinds := [.data], laidTests := true, laidLooks := .later }
def HamtWalksCardSaid : Prop := Claim7.holds Tryz.pinned (.plain (OpenSpec.ofChange hamtWalksSpec)) hamtWalksCard

/-- THE TIED CARD OF 'notarylaw14.HamtMemory'. -/
def hamtMemoryCard : Claim7 := { stood := { row := hamtMemoryRow, standIns := [], harness := (true, "807b6d5441ed0e482032c7c304b00c0022b93e1247d9cb1f9d2d07884bb34b4c"), looks := true }, kinds := [], alts := [], laidByText := true, laidKinds := [.data], laidTests := true, laidLooks := .later }
def HamtMemoryCardSaid : Prop := Claim7.holds Tryz.pinned (.plain (OpenSpec.ofChange hamtMemorySpec)) hamtMemoryCard

/-- THE TIED CARD OF 'notarylaw14.HamtPlays'. -/
def hamtPlaysCard : Claim7 := { stood := { row := hamtPlaysRow, standIns := [], harness := (true, "807b6d5441ed0e482032c7c304b00c0022b93e1247d9cb1f9d2d07884bb34b4c"), looks := true }, kinds := [], alts := [], laidByText := true, laidKinds := [.data], laidTests := true, laidLooks := .later }
def HamtPlaysCardSaid : Prop := Claim7.holds Tryz.pinned (.plain (OpenSpec.ofChange hamtPlaysSpec)) hamtPlaysCard

/-- THE TIED CARD OF 'notarylaw14.HamtHistory'. -/
def hamtHistoryCard : Claim7 := { stood := { row := hamtHistoryRow, standIns := [], harness := (true, "807b6d5441ed0e482032c7c304b00c0022b93e1247d9cb1f9d2d07884bb34b4c"), looks := true }, kinds := [], alts := [], laidByText := true, laidKinds := [.data], laidTests := true, laidLooks := .later }
def HamtHistoryCardSaid : Prop := Claim7.holds Tryz.pinned (.plain (OpenSpec.ofChange hamtHistorySpec)) hamtHistoryCard

/-- THE TIED CARD OF 'notarylaw14.HamtUndoes'. -/
def hamtUndoesCard : Claim7 := { stood := { row := hamtUndoesRow, standIns := [], harness := (true, "807b6d5441ed0e482032c7c304b00c0022b93e1247d9cb1f9d2d07884bb34b4c"), looks := true }, kinds := [], alts := [], laidByText := true, laidKinds := [.data], laidTests := true, laidLooks := .later }
def HamtUndoesCardSaid : Prop := Claim7.holds Tryz.pinned (.plain (OpenSpec.ofChange hamtUndoesSpec)) hamtUndoesCard

/-- THE TIED CARD OF 'notarylaw14.HamtFixed'. -/
def hamtFixedCard : Claim7 := { stood := { row := hamtFixedRow, standIns := [], harness := (true, "807b6d5441ed0e482032c7c304b00c0022b93e1247d9cb1f9d2d07884bb34b4c"), looks := true }, kinds := [], alts := [], laidByText := true, laidKinds := [.data], laidTests := true, laidLooks := .later }
def HamtFixedCardSaid : Prop := Claim7.holds Tryz.pinned (.plain (OpenSpec.ofChange hamtFixedSpec)) hamtFixedCard

/-- THE SECOND FORM's CARD OF 'notarylaw14.HamtFolds'. -/
def hamtFoldsUptoCard : Claim7 := { stood := { row := hamtFoldsUptoRow, standIns := [], harness := (true, "807b6d5441ed0e482032c7c304b00c0022b93e1247d9cb1f9d2d07884bb34b4c"), looks := true }, kinds := [], alts := [], laidByText := true, laidKinds := [.data], laidTests := true, laidLooks := .later }
def HamtFoldsUptoCardSaid : Prop := Claim7.holds Tryz.pinned (.plain (OpenSpec.upto hamtFoldsSpec)) hamtFoldsUptoCard

/-- THE SECOND FORM's CARD OF 'notarylaw14.HamtShape'. -/
def hamtShapeUptoCard : Claim7 := { stood := { row := hamtShapeUptoRow, standIns := [], harness := (true, "807b6d5441ed0e482032c7c304b00c0022b93e1247d9cb1f9d2d07884bb34b4c"), looks := true }, kinds := [], alts := [], laidByText := true, laidKinds := [.data], laidTests := true, laidLooks := .later }
def HamtShapeUptoCardSaid : Prop := Claim7.holds Tryz.pinned (.plain (OpenSpec.upto hamtShapeSpec)) hamtShapeUptoCard

/-- THE SECOND FORM's CARD OF 'notarylaw14.HamtWalks'. -/
def hamtWalksUptoCard : Claim7 := { stood := { row := hamtWalksUptoRow, standIns := [], harness := (true, "807b6d5441ed0e482032c7c304b00c0022b93e1247d9cb1f9d2d07884bb34b4c"), looks := true }, kinds := [], alts := [], laidByText := true, laidKinds := [.data], laidTests := true, laidLooks := .later }
def HamtWalksUptoCardSaid : Prop := Claim7.holds Tryz.pinned (.plain (OpenSpec.upto hamtWalksSpec)) hamtWalksUptoCard

/-- THE SECOND FORM's CARD OF 'notarylaw14.HamtMemory'. -/
def hamtMemoryUptoCard : Claim7 := { stood := { row := hamtMemoryUptoRow, standIns := [], harness := (true, "807b6d5441ed0e482032c7c304b00c0022b93e1247d9cb1f9d2d07884bb34b4c"), looks := true }, kinds := [], alts := [], laidByText := true, laidKinds := [.data], laidTests := true, laidLooks := .later }
def HamtMemoryUptoCardSaid : Prop := Claim7.holds Tryz.pinned (.plain (OpenSpec.upto hamtMemorySpec)) hamtMemoryUptoCard

/-- THE SECOND FORM's CARD OF 'notarylaw14.HamtPlays'. -/
def hamtPlaysUptoCard : Claim7 := { stood := { row := hamtPlaysUptoRow, standIns := [], harness := (true, "807b6d5441ed0e482032c7c304b00c0022b93e1247d9cb1f9d2d07884bb34b4c"), looks := true }, kinds := [], alts := [], laidByText := true, laidKinds := [.data], laidTests := true, laidLooks := .later }
def HamtPlaysUptoCardSaid : Prop := Claim7.holds Tryz.pinned (.plain (OpenSpec.upto hamtPlaysSpec)) hamtPlaysUptoCard

/-- THE SECOND FORM's CARD OF 'notarylaw14.HamtHistory'. -/
def hamtHistoryUptoCard : Claim7 := { stood := { row := hamtHistoryUptoRow, standIns := [], harness := (true, "807b6d5441ed0e482032c7c304b00c0022b93e1247d9cb1f9d2d07884bb34b4c"), looks := true }, kinds := [], alts := [], laidByText := true, laidKinds := [.data], laidTests := true, laidLooks := .later }
def HamtHistoryUptoCardSaid : Prop := Claim7.holds Tryz.pinned (.plain (OpenSpec.upto hamtHistorySpec)) hamtHistoryUptoCard

/-- THE SECOND FORM's CARD OF 'notarylaw14.HamtUndoes'. -/
def hamtUndoesUptoCard : Claim7 := { stood := { row := hamtUndoesUptoRow, standIns := [], harness := (true, "807b6d5441ed0e482032c7c304b00c0022b93e1247d9cb1f9d2d07884bb34b4c"), looks := true }, kinds := [], alts := [], laidByText := true, laidKinds := [.data], laidTests := true, laidLooks := .later }
def HamtUndoesUptoCardSaid : Prop := Claim7.holds Tryz.pinned (.plain (OpenSpec.upto hamtUndoesSpec)) hamtUndoesUptoCard

/-- THE SECOND FORM's CARD OF 'notarylaw14.HamtFixed'. -/
def hamtFixedUptoCard : Claim7 := { stood := { row := hamtFixedUptoRow, standIns := [], harness := (true, "807b6d5441ed0e482032c7c304b00c0022b93e1247d9cb1f9d2d07884bb34b4c"), looks := true }, kinds := [], alts := [], laidByText := true, laidKinds := [.data], laidTests := true, laidLooks := .later }
def HamtFixedUptoCardSaid : Prop := Claim7.holds Tryz.pinned (.plain (OpenSpec.upto hamtFixedSpec)) hamtFixedUptoCard
end Rows
end Go.Proofs.YtieaoldoiahgpaaGreatDoor
