/-
  DERIVED. GIVEN WITH THE SEED: THE CARDS: each row of YtebbgninkbghlaaGreatDoorRows.lean that lists a variable, with what it lists TIED to the program's text (the seventh form; the later family's looks); each row that meets fmt, with fmt's text TOLD by the authors' own Lean function (tested against real Go, not proved from fmt's source: count such statements apart). THE CARD IS WHAT COUNTS. Prove the row's statement (the work); the ties are given (YtebbgninkbghlaaGreatDoorTie.lean); close each card by the builder's one call (the guide's Derived/Test/ToyasCard.lean, 'card_holds'). Laid BY PROGRAM, IN A SANDBOX (cutbox-door.mjs). By AI agents, Wed Nov 11 2026. No macro, syntax, notation, axiom, sorry.
-/
import Derived.Test.YtebbgninkbghlaaGreatDoorRows
import GoSem.ClaimSeven
namespace Go.Proofs.YtebbgninkbghlaaGreatDoor
namespace Rows

/-- THE TIED CARD OF 'notarylaw16.HcheckKeeps'. -/
def hcheckKeepsCard : Claim7 := { stood := { row := hcheckKeepsRow, standIns := [], harness := (true, "638f48b13df4b8fa815dd03aa514c22b161a7fa855ce5da8274695c416bc0a0e"), looks := true }, kinds := [], alts := [], laidByText := true, laidKinds := [.data], laidTests := true, laidLooks := .later }
def HcheckKeepsCardSaid : Prop := Claim7.holds Tryz.pinned (.plain (OpenSpec.ofChange hcheckKeepsSpec)) hcheckKeepsCard

/-- THE TIED CARD OF 'notarylaw15.HproofProves'. -/
def hproofProvesCard : Claim7 := { stood := { row := hproofProvesRow, standIns := [], harness := (true, "638f48b13df4b8fa815dd03aa514c22b161a7fa855ce5da8274695c416bc0a0e"), looks := true }, kinds := [], alts := [], laidByText := true, laidKinds := [.data], laidTests := true, laidLooks := .later }
def HproofProvesCardSaid : Prop := Claim7.holds Tryz.pinned (.plain (OpenSpec.ofChange hproofProvesSpec)) hproofProvesCard

/-- THE TIED CARD OF 'notarylaw15.HproofSizes'. -/
def hproofSizesCard : Claim7 := { stood := { row := hproofSizesRow, standIns := [], harness := (true, "638f48b13df4b8fa815dd03aa514c22b161a7fa855ce5da8274695c416bc0a0e"), looks := true }, kinds := [], alts := [], laidByText := true, laidKinds := [.data], laidTests := true, laidLooks := .later }
def HproofSizesCardSaid : Prop := Claim7.holds Tryz.pinned (.plain (OpenSpec.ofChange hproofSizesSpec)) hproofSizesCard

/-- THE TIED CARD OF 'notarylaw15.HproofNil'. -/
def hproofNilCard : Claim7 := { stood := { row := hproofNilRow, standIns := [], harness := (true, "638f48b13df4b8fa815dd03aa514c22b161a7fa855ce5da8274695c416bc0a0e"), looks := true }, kinds := [], alts := [], laidByText := true, laidKinds := [.data], laidTests := true, laidLooks := .later }
def HproofNilCardSaid : Prop := Claim7.holds Tryz.pinned (.plain (OpenSpec.ofChange hproofNilSpec)) hproofNilCard

/-- THE TIED CARD OF 'notarylaw15.HproofKeeps'. -/
def hproofKeepsCard : Claim7 := { stood := { row := hproofKeepsRow, standIns := [], harness := (true, "638f48b13df4b8fa815dd03aa514c22b161a7fa855ce5da8274695c416bc0a0e"), looks := true }, kinds := [], alts := [], laidByText := true, laidKinds := [.data], laidTests := true, laidLooks := .later }
def HproofKeepsCardSaid : Prop := Claim7.holds Tryz.pinned (.plain (OpenSpec.ofChange hproofKeepsSpec)) hproofKeepsCard

/-- THE TIED CARD OF 'notarylaw15.HproofWalks'. -/
def hproofWalksCard : Claim7 := { stood := { row := hproofWalksRow, standIns := [], harness := (true, "638f48b13df4b8fa815dd03aa514c22b161a7fa855ce5da8274695c416bc0a0e"), looks := true }, kinds := [], alts := [], laidByText := true, laidKinds := [.data], laidTests := true, laidLooks := .later }
def HproofWalksCardSaid : Prop := Claim7.holds Tryz.pinned (.plain (OpenSpec.ofChange hproofWalksSpec)) hproofWalksCard

/-- THE TIED CARD OF 'notarylaw14.HamtMemory'. -/
def hamtMemoryCard : Claim7 := { stood := { row := hamtMemoryRow, standIns := [], harness := (true, "638f48b13df4b8fa815dd03aa514c22b161a7fa855ce5da8274695c416bc0a0e"), looks := true }, kinds := [], alts := [], laidByText := true, laidKinds := [.data], laidTests := true, laidLooks := .later }
def HamtMemoryCardSaid : Prop := Claim7.holds Tryz.pinned (.plain (OpenSpec.ofChange hamtMemorySpec)) hamtMemoryCard

/-- THE TIED CARD OF 'notarylaw15.HproofOneSet'. -/
def hproofOneSetCard : Claim7 := { stood := { row := hproofOneSetRow, standIns := [], harness := (true, "638f48b13df4b8fa815dd03aa514c22b161a7fa855ce5da8274695c416bc0a0e"), looks := true }, kinds := [], alts := [], laidByText := true, laidKinds := [.data], laidTests := true, laidLooks := .later }
def HproofOneSetCardSaid : Prop := Claim7.holds Tryz.pinned (.plain (OpenSpec.ofChange hproofOneSetSpec)) hproofOneSetCard

/-- THE TIED CARD OF 'notarytop.WholeShown'. -/
def wholeShownCard : Claim7 := { stood := { row := wholeShownRow, standIns := [], harness := (true, "638f48b13df4b8fa815dd03aa514c22b161a7fa855ce5da8274695c416bc0a0e"), looks := true }, kinds := [], alts := [], laidByText := true, laidKinds := [.data], laidTests := true, laidLooks := .later }
def WholeShownCardSaid : Prop := Claim7.holds Tryz.pinned (.plain (OpenSpec.ofChange wholeShownSpec)) wholeShownCard

/-- THE TIED CARD OF 'notarylaw16.HcheckHonest'. -/
def hcheckHonestCard : Claim7 := { stood := { row := hcheckHonestRow, standIns := [], harness := (true, "638f48b13df4b8fa815dd03aa514c22b161a7fa855ce5da8274695c416bc0a0e"), looks := true }, kinds := [], alts := [], laidByText := true, laidKinds := [.data], laidTests := true, laidLooks := .later }
def HcheckHonestCardSaid : Prop := Claim7.holds Tryz.pinned (.plain (OpenSpec.ofChange hcheckHonestSpec)) hcheckHonestCard

/-- THE TIED CARD OF 'notarylaw15.HproofAccepted'. -/
def hproofAcceptedCard : Claim7 := { stood := { row := hproofAcceptedRow, standIns := [], harness := (true, "638f48b13df4b8fa815dd03aa514c22b161a7fa855ce5da8274695c416bc0a0e"), looks := true }, kinds := [], alts := [], laidByText := true, laidKinds := [.data], laidTests := true, laidLooks := .later }
def HproofAcceptedCardSaid : Prop := Claim7.holds Tryz.pinned (.plain (OpenSpec.ofChange hproofAcceptedSpec)) hproofAcceptedCard

/-- THE SECOND FORM's CARD OF 'notarylaw16.HcheckKeeps'. -/
def hcheckKeepsUptoCard : Claim7 := { stood := { row := hcheckKeepsUptoRow, standIns := [], harness := (true, "638f48b13df4b8fa815dd03aa514c22b161a7fa855ce5da8274695c416bc0a0e"), looks := true }, kinds := [], alts := [], laidByText := true, laidKinds := [.data], laidTests := true, laidLooks := .later }
def HcheckKeepsUptoCardSaid : Prop := Claim7.holds Tryz.pinned (.plain (OpenSpec.upto hcheckKeepsSpec)) hcheckKeepsUptoCard

/-- THE SECOND FORM's CARD OF 'notarylaw15.HproofProves'. -/
def hproofProvesUptoCard : Claim7 := { stood := { row := hproofProvesUptoRow, standIns := [], harness := (true, "638f48b13df4b8fa815dd03aa514c22b161a7fa855ce5da8274695c416bc0a0e"), looks := true }, kinds := [], alts := [], laidByText := true, laidKinds := [.data], laidTests := true, laidLooks := .later }
def HproofProvesUptoCardSaid : Prop := Claim7.holds Tryz.pinned (.plain (OpenSpec.upto hproofProvesSpec)) hproofProvesUptoCard

/-- THE SECOND FORM's CARD OF 'notarylaw15.HproofSizes'. -/
def hproofSizesUptoCard : Claim7 := { stood := { row := hproofSizesUptoRow, standIns := [], harness := (true, "638f48b13df4b8fa815dd03aa514c22b161a7fa855ce5da8274695c416bc0a0e"), looks := true }, kinds := [], alts := [], laidByText := true, laidKinds := [.data], laidTests := true, laidLooks := .later }
def HproofSizesUptoCardSaid : Prop := Claim7.holds Tryz.pinned (.plain (OpenSpec.upto hproofSizesSpec)) hproofSizesUptoCard

/-- THE SECOND FORM's CARD OF 'notarylaw15.HproofNil'. -/
def hproofNilUptoCard : Claim7 := { stood := { row := hproofNilUptoRow, standIns := [], harness := (true, "638f48b13df4b8fa815dd03aa514c22b161a7fa855ce5da8274695c416bc0a0e"), looks := true }, kinds := [], alts := [], laidByText := true, laidKinds := [.data], laidTests := true, laidLooks := .later }
def HproofNilUptoCardSaid : Prop := Claim7.holds Tryz.pinned (.plain (OpenSpec.upto hproofNilSpec)) hproofNilUptoCard

/-- THE SECOND FORM's CARD OF 'notarylaw15.HproofKeeps'. -/
def hproofKeepsUptoCard : Claim7 := { stood := { row := hproofKeepsUptoRow, standIns := [], harness := (true, "638f48b13df4b8fa815dd03aa514c22b161a7fa855ce5da8274695c416bc0a0e"), looks := true }, kinds := [], alts := [], laidByText := true, laidKinds := [.data], laidTests := true, laidLooks := .later }
def HproofKeepsUptoCardSaid : Prop := Claim7.holds Tryz.pinned (.plain (OpenSpec.upto hproofKeepsSpec)) hproofKeepsUptoCard

/-- THE SECOND FORM's CARD OF 'notarylaw15.HproofWalks'. -/
def hproofWalksUptoCard : Claim7 := { stood := { row := hproofWalksUptoRow, standIns := [], harness := (true, "638f48b13df4b8fa815dd03aa514c22b161a7fa855ce5da8274695c416bc0a0e"), looks := true }, kinds := [], alts := [], laidByText := true, laidKinds := [.data], laidTests := true, laidLooks := .later }
def HproofWalksUptoCardSaid : Prop := Claim7.holds Tryz.pinned (.plain (OpenSpec.upto hproofWalksSpec)) hproofWalksUptoCard

/-- THE SECOND FORM's CARD OF 'notarylaw14.HamtMemory'. -/
def hamtMemoryUptoCard : Claim7 := { stood := { row := hamtMemoryUptoRow, standIns := [], harness := (true, "638f48b13df4b8fa815dd03aa514c22b161a7fa855ce5da8274695c416bc0a0e"), looks := true }, kinds := [], alts := [], laidByText := true, laidKinds := [.data], laidTests := true, laidLooks := .later }
def HamtMemoryUptoCardSaid : Prop := Claim7.holds Tryz.pinned (.plain (OpenSpec.upto hamtMemorySpec)) hamtMemoryUptoCard

/-- THE SECOND FORM's CARD OF 'notarylaw15.HproofOneSet'. -/
def hproofOneSetUptoCard : Claim7 := { stood := { row := hproofOneSetUptoRow, standIns := [], harness := (true, "638f48b13df4b8fa815dd03aa514c22b161a7fa855ce5da8274695c416bc0a0e"), looks := true }, kinds := [], alts := [], laidByText := true, laidKinds := [.data], laidTests := true, laidLooks := .later }
def HproofOneSetUptoCardSaid : Prop := Claim7.holds Tryz.pinned (.plain (OpenSpec.upto hproofOneSetSpec)) hproofOneSetUptoCard

/-- THE SECOND FORM's CARD OF 'notarytop.WholeShown'. -/
def wholeShownUptoCard : Claim7 := { stood := { row := wholeShownUptoRow, standIns := [], harness := (true, "638f48b13df4b8fa815dd03aa514c22b161a7fa855ce5da8274695c416bc0a0e"), looks := true }, kinds := [], alts := [], laidByText := true, laidKinds := [.data], laidTests := true, laidLooks := .later }
def WholeShownUptoCardSaid : Prop := Claim7.holds Tryz.pinned (.plain (OpenSpec.upto wholeShownSpec)) wholeShownUptoCard

/-- THE SECOND FORM's CARD OF 'notarylaw16.HcheckHonest'. -/
def hcheckHonestUptoCard : Claim7 := { stood := { row := hcheckHonestUptoRow, standIns := [], harness := (true, "638f48b13df4b8fa815dd03aa514c22b161a7fa855ce5da8274695c416bc0a0e"), looks := true }, kinds := [], alts := [], laidByText := true, laidKinds := [.data], laidTests := true, laidLooks := .later }
def HcheckHonestUptoCardSaid : Prop := Claim7.holds Tryz.pinned (.plain (OpenSpec.upto hcheckHonestSpec)) hcheckHonestUptoCard

/-- THE SECOND FORM's CARD OF 'notarylaw15.HproofAccepted'. -/
def hproofAcceptedUptoCard : Claim7 := { stood := { row := hproofAcceptedUptoRow, standIns := [], harness := (true, "638f48b13df4b8fa815dd03aa514c22b161a7fa855ce5da8274695c416bc0a0e"), looks := true }, kinds := [], alts := [], laidByText := true, laidKinds := [.data], laidTests := true, laidLooks := .later }
def HproofAcceptedUptoCardSaid : Prop := Claim7.holds Tryz.pinned (.plain (OpenSpec.upto hproofAcceptedSpec)) hproofAcceptedUptoCard
end Rows
end Go.Proofs.YtebbgninkbghlaaGreatDoor
