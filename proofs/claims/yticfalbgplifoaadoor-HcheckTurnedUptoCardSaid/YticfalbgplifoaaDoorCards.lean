/-
  DERIVED. GIVEN WITH THE SEED: THE CARDS: each row of YticfalbgplifoaaDoorRows.lean that lists a variable, with what it lists TIED to the program's text (the seventh form; the later family's looks); each row that meets fmt, with fmt's text TOLD by the authors' own Lean function (tested against real Go, not proved from fmt's source: count such statements apart). THE CARD IS WHAT COUNTS. Prove the row's statement (the work); the ties are given (YticfalbgplifoaaDoorTie.lean); close each card by the builder's one call (the guide's Derived/Test/ToyasCard.lean, 'card_holds'). Laid BY PROGRAM, IN A SANDBOX (cutbox-door.mjs). By AI agents, Wed Nov 11 2026. No macro, syntax, notation, axiom, sorry.
-/
import Derived.Test.YticfalbgplifoaaDoorRows
import GoSem.ClaimSeven
namespace Go.Proofs.YticfalbgplifoaaDoor
namespace Rows

/-- THE TIED CARD OF 'notarylaw16.HcheckAgrees'. -/
def hcheckAgreesCard : Claim7 := { stood := { row := hcheckAgreesRow, standIns := [], harness := (true, "e05143dd24412d0c507326ae17707a311297dcbdefe624ce77f4ee1ae189a740"), looks := false }, kinds := [], alts := [], laidByText := true, laidKinds := [.data], laidTests := true, laidLooks := .later }
def HcheckAgreesCardSaid : Prop := Claim7.holds Tryd.pinned (.plain (OpenSpec.ofChange hcheckAgreesSpec)) hcheckAgreesCard

/-- THE TIED CARD OF 'notarylaw16.HcheckBinds'. -/
def hcheckBindsCard : Claim7 := { stood := { row := hcheckBindsRow, standIns := [], harness := (true, "e05143dd24412d0c507326ae17707a311297dcbdefe624ce77f4ee1ae189a740"), looks := false }, kinds := [], alts := [], laidByText := true, laidKinds := [.data], laidTests := true, laidLooks := .later }
def HcheckBindsCardSaid : Prop := Claim7.holds Tryd.pinned (.plain (OpenSpec.ofChange hcheckBindsSpec)) hcheckBindsCard

/-- THE TIED CARD OF 'notarylaw16.HcheckTurned'. -/
def hcheckTurnedCard : Claim7 := { stood := { row := hcheckTurnedRow, standIns := [], harness := (true, "e05143dd24412d0c507326ae17707a311297dcbdefe624ce77f4ee1ae189a740"), looks := false }, kinds := [], alts := [], laidByText := true, laidKinds := [.data], laidTests := true, laidLooks := .later }
def HcheckTurnedCardSaid : Prop := Claim7.holds Tryd.pinned (.plain (OpenSpec.ofChange hcheckTurnedSpec)) hcheckTurnedCard

/-- THE TIED CARD OF 'notarylaw16.HcheckOther'. -/
def hcheckOtherCard : Claim7 := { stood := { row := hcheckOtherRow, standIns := [], harness := (true, "e05143dd24412d0c507326ae17707a311297dcbdefe624ce77f4ee1ae189a740"), looks := false }, kinds := [], alts := [], laidByText := true, laidKinds := [.data], laidTests := true, laidLooks := .later }
def HcheckOtherCardSaid : Prop := Claim7.holds Tryd.pinned (.plain (OpenSpec.ofChange hcheckOtherSpec)) hcheckOtherCard

/-- THE SECOND FORM's CARD OF 'notarylaw16.HcheckAgrees'. -/
def hcheckAgreesUptoCard : Claim7 := { stood := { row := hcheckAgreesUptoRow, standIns := [], harness := (true, "e05143dd24412d0c507326ae17707a311297dcbdefe624ce77f4ee1ae189a740"), looks := false }, kinds := [], alts := [], laidByText := true, laidKinds := [.data], laidTests := true, laidLooks := .later }
def HcheckAgreesUptoCardSaid : Prop := Claim7.holds Tryd.pinned (.plain (OpenSpec.upto hcheckAgreesSpec)) hcheckAgreesUptoCard

/-- THE SECOND FORM's CARD OF 'notarylaw16.HcheckBinds'. -/
def hcheckBindsUptoCard : Claim7 := { stood := { row := hcheckBindsUptoRow, standIns := [], harness := (true, "e05143dd24412d0c507326ae17707a311297dcbdefe624ce77f4ee1ae189a740"), looks := false }, kinds := [], alts := [], laidByText := true, laidKinds := [.data], laidTests := true, laidLooks := .later }
def HcheckBindsUptoCardSaid : Prop := Claim7.holds Tryd.pinned (.plain (OpenSpec.upto hcheckBindsSpec)) hcheckBindsUptoCard

/-- THE SECOND FORM's CARD OF 'notarylaw16.HcheckTurned'. -/
def hcheckTurnedUptoCard : Claim7 := { stood := { row := hcheckTurnedUptoRow, standIns := [], harness := (true, "e05143dd24412d0c507326ae17707a311297dcbdefe624ce77f4ee1ae189a740"), looks := false }, kinds := [], alts := [], laidByText := true, laidKinds := [.data], laidTests := true, laidLooks := .later }
def HcheckTurnedUptoCardSaid : Prop := Claim7.holds Tryd.pinned (.plain (OpenSpec.upto hcheckTurnedSpec)) hcheckTurnedUptoCard

/-- THE SECOND FORM's CARD OF 'notarylaw16.HcheckOther'. -/
def hcheckOtherUptoCard : Claim7 := { stood := { row := hcheckOtherUptoRow, standIns := [], harness := (true, "e05143dd24412d0c507326ae17707a311297dcbdefe624ce77f4ee1ae189a740"), looks := false }, kinds := [], alts := [], laidByText := true, laidKinds := [.data], laidTests := true, laidLooks := .later }
def HcheckOtherUptoCardSaid : Prop := Claim7.holds Tryd.pinned (.plain (OpenSpec.upto hcheckOtherSpec)) hcheckOtherUptoCard
end Rows
end Go.Proofs.YticfalbgplifoaaDoor
