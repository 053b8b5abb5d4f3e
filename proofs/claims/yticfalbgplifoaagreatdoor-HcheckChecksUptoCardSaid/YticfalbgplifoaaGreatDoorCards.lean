/-
  DERIVED. GIVEN WITH THE SEED: THE CARDS: each row of YticfalbgplifoaaGreatDoorRows.lean that lists a variable, with what it lists TIED to the program's text (the seventh form; the later family's looks); each row that meets fmt, with fmt's text TOLD by the authors' own Lean function (tested against real Go, not proved from fmt's source: count such statements apart). THE CARD IS WHAT COUNTS. Prove the row's statement (the work); the ties are given (YticfalbgplifoaaGreatDoorTie.lean); close each card by the builder's one call (the guide's Derived/Test/ToyasCard.lean, 'card_holds'). Laid BY PROGRAM, IN A SANDBOX (cutbox-door.mjs). By AI agents, Wed Nov 11 2026. No macro, syntax, notation, axiom, sorry.
-/
import Derived.Test.YticfalbgplifoaaGreatDoorRows
import GoSem.ClaimSeven
namespace Go.Proofs.YticfalbgplifoaaGreatDoor
namespace Rows

/-- THE TIED CARD OF 'notarylaw16.HcheckRoots'. -/
def hcheckRootsCard : Claim7 := { stood := { row := hcheckRootsRow, standIns := [], harness := (true, "24facc91c833f61010613251948a51c414268d9d4216f9360abb5a2dbe9b935f"), looks := false }, kinds := [], alts := [], laidByText := true, laidKinds := [.data], laidTests := true, laidLooks := .later }
def HcheckRootsCardSaid : Prop := Claim7.holds Tryz.pinned (.plain (OpenSpec.ofChange hcheckRootsSpec)) hcheckRootsCard

/-- THE TIED CARD OF 'notarylaw16.HcheckChecks'. -/
def hcheckChecksCard : Claim7 := { stood := { row := hcheckChecksRow, standIns := [], harness := (true, "24facc91c833f61010613251948a51c414268d9d4216f9360abb5a2dbe9b935f"), looks := false }, kinds := [], alts := [], laidByText := true, laidKinds := [.data], laidTests := true, laidLooks := .later }
def HcheckChecksCardSaid : Prop := Claim7.holds Tryz.pinned (.plain (OpenSpec.ofChange hcheckChecksSpec)) hcheckChecksCard

/-- THE TIED CARD OF 'notarylaw16.HcheckKeeps'. -/
def hcheckKeepsCard : Claim7 := { stood := { row := hcheckKeepsRow, standIns := [], harness := (true, "24facc91c833f61010613251948a51c414268d9d4216f9360abb5a2dbe9b935f"), looks := false }, kinds := [], alts := [], laidByText := true, laidKinds := [.data], laidTests := true, laidLooks := .later }
def HcheckKeepsCardSaid : Prop := Claim7.holds Tryz.pinned (.plain (OpenSpec.ofChange hcheckKeepsSpec)) hcheckKeepsCard

/-- THE SECOND FORM's CARD OF 'notarylaw16.HcheckRoots'. -/
def hcheckRootsUptoCard : Claim7 := { stood := { row := hcheckRootsUptoRow, standIns := [], harness := (true, "24facc91c833f61010613251948a51c414268d9d4216f9360abb5a2dbe9b935f"), looks := false }, kinds := [], alts := [], laidByText := true, laidKinds := [.data], laidTests := true, laidLooks := .later }
def HcheckRootsUptoCardSaid : Prop := Claim7.holds Tryz.pinned (.plain (OpenSpec.upto hcheckRootsSpec)) hcheckRootsUptoCard

/-- THE SECOND FORM's CARD OF 'notarylaw16.HcheckChecks'. -/
def hcheckChecksUptoCard : Claim7 := { stood := { row := hcheckChecksUptoRow, standIns := [], harness := (true, "24facc91c833f61010613251948a51c414268d9d4216f9360abb5a2dbe9b935f"), looks := false }, kinds := [], alts := [], laidByText := true, laidKinds := [.data], laidTests := true, laidLooks := .later }
def HcheckChecksUptoCardSaid : Prop := Claim7.holds Tryz.pinned (.plain (OpenSpec.upto hcheckChecksSpec)) hcheckChecksUptoCard

/-- THE SECOND FORM's CARD OF 'notarylaw16.HcheckKeeps'. -/
def hcheckKeepsUptoCard : Claim7 := { stood := { row := hcheckKeepsUptoRow, standIns := [], harness := (true, "24facc91c833f61010613251948a51c414268d9d4216f9360abb5a2dbe9b935f"), looks := false }, kinds := [], alts := [], laidByText := true, laidKinds := [.data], laidTests := true, laidLooks := .later }
def HcheckKeepsUptoCardSaid : Prop := Claim7.holds Tryz.pinned (.plain (OpenSpec.upto hcheckKeepsSpec)) hcheckKeepsUptoCard
end Rows
end Go.Proofs.YticfalbgplifoaaGreatDoor
