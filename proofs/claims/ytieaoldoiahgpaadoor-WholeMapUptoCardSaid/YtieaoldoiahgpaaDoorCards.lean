/-
  DERIVED. GIVEN WITH THE SEED: THE CARDS: each row of YtieaoldoiahgpaaDoorRows.lean that lists a variable, with what it lists TIED to the program's text (the seventh form; the later family's looks); each row that meets fmt, with fmt's text TOLD by the authors' own Lean function (tested against real Go, not proved from fmt's source: count such statements apart). THE CARD IS WHAT COUNTS. Prove the row's statement (the work); the ties are given (YtieaoldoiahgpaaDoorTie.lean); close each card by the builder's one call (the guide's Derived/Test/ToyasCard.lean, 'card_holds'). Laid BY PROGRAM, IN A SANDBOX (cutbox-door.mjs). By AI agents, Wed Nov 11 2026. No macro, syntax, notation, axiom, sorry.
-/
import Derived.Test.YtieaoldoiahgpaaDoorRows
import GoSem.ClaimSeven
namespace Go.Proofs.YtieaoldoiahgpaaDoor
namespace Rows

/-- THE TIED CARD OF 'notarytop.WholeMap'. -/
def wholeMapCard : Claim7 := { stood := { row := wholeMapRow, standIns := [], harness := (true, "835d4bb4aaa4485eab71d2e60f50f1c0cc6e2a55418361e72e8d3a51f4edddcc"), looks := true }, kinds := [], alts := [], laidByText := true, laidKinds := [.data], laidTests := true, laidLooks := .later }
def WholeMapCardSaid : Prop := Claim7.holds Tryd.pinned (.plain (OpenSpec.ofChange wholeMapSpec)) wholeMapCard

/-- THE SECOND FORM's CARD OF 'notarytop.WholeMap'. -/
def wholeMapUptoCard : Claim7 := { stood := { row := wholeMapUptoRow, standIns := [], harness := (true, "835d4bb4aaa4485eab71d2e60f50f1c0cc6e2a55418361e72e8d3a51f4edddcc"), looks := true }, kinds := [], alts := [], laidByText := true, laidKinds := [.data], laidTests := true, laidLooks := .later }
def WholeMapUptoCardSaid : Prop := Claim7.holds Tryd.pinned (.plain (OpenSpec.upto wholeMapSpec)) wholeMapUptoCard
end Rows
end Go.Proofs.YtieaoldoiahgpaaDoor
