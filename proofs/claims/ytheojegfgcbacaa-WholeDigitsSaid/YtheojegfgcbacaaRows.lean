/-
  No cell of these rows narrows 'for every input' (looked for: loops, veiled, ifaces, maps, wideKeys, modest, calm, conditions, laid).
  DERIVED. THE GIVEN ROWS OF THIS SEAT. 8 by the template 'for every input the law returns true; each argument reads behind the call as it read before'; 0 by the template 'total and deterministic' (their statements: YtheojegfgcbacaaTotals.lean).
  GIVEN WITH THE SEED: the statements are not yours to turn. If you find one false, say at which input.
  Laid BY PROGRAM, IN A SANDBOX (cutbox-rows.mjs): the forced cells as the released guide's own fill.sh prints them over the translation 218b7e17f7963206… (all of the seat's roots in one cut). By AI agents, Wed Nov 11 2026. No macro, syntax, notation, axiom, sorry.
-/
import Derived.Test.YtheojegfgcbacaaChecked
import GoSem.Claim
import GoSem.ClaimJoined
import GoSem.ClaimMapViews
import Derived.JoinedTies
import Derived.KernelRfl
namespace Go.Proofs.Ytheojegfgcbacaa
/- THE CELL 'sum', in the pinned program and in every row, IS THE sha256 OF THE DUMP (.gsa) THAT YtheojegfgcbacaaProg.lean LOADS. Nothing in Lean hashes anything: it is a label: what it is worth is what the hold of that sum in a sandbox is worth. -/
noncomputable def Try.pinned : Pinned := { name := "ytheojegfgcbacaa", sum := "218b7e17f7963206767f8fb1beaeb64cf36203c07bafd44d05126c2aca31ff51", checked := Try.checked }
namespace Rows
def none {H : Type} : Left H := { results := [], args := [] }

/-- 'notarylaw13.NibbleAts': WHATEVER THE INPUT: true; the input reads as it did. -/
def nibbleAtsSpec : ChangeSpec := { name := "nibbleAts", fn := fun _ => fun
  | [d1, d2, d3] => { results := [.lit (.bool true)], args := [d1, d2, d3] }
  | _ => none }
def nibbleAtsRow : OpenClaim := { program := "ytheojegfgcbacaa", sum := "218b7e17f7963206767f8fb1beaeb64cf36203c07bafd44d05126c2aca31ff51", func := "notary/notarylaw13.NibbleAts", spec := "nibbleAts", apart := false }
def NibbleAtsSaid : Prop := nibbleAtsRow.holds Try.pinned (OpenSpec.ofChange nibbleAtsSpec)

/-- ITS FALSE NEIGHBOUR: 'it returns false'. Refute it at one input. -/
def nibbleAtsWrong : ChangeSpec := { name := "nibbleAts", fn := fun _ => fun
  | [d1, d2, d3] => { results := [.lit (.bool false)], args := [d1, d2, d3] }
  | _ => none }
def NibbleAtsWrongFalsely : Prop := nibbleAtsRow.holds Try.pinned (OpenSpec.ofChange nibbleAtsWrong)

/-- 'notarylaw13.NibbleCommons': WHATEVER THE INPUT: true; the input reads as it did. -/
def nibbleCommonsSpec : ChangeSpec := { name := "nibbleCommons", fn := fun _ => fun
  | [d1, d2, d3] => { results := [.lit (.bool true)], args := [d1, d2, d3] }
  | _ => none }
def nibbleCommonsRow : OpenClaim := { program := "ytheojegfgcbacaa", sum := "218b7e17f7963206767f8fb1beaeb64cf36203c07bafd44d05126c2aca31ff51", func := "notary/notarylaw13.NibbleCommons", spec := "nibbleCommons", apart := false }
def NibbleCommonsSaid : Prop := nibbleCommonsRow.holds Try.pinned (OpenSpec.ofChange nibbleCommonsSpec)

/-- ITS FALSE NEIGHBOUR: 'it returns false'. Refute it at one input. -/
def nibbleCommonsWrong : ChangeSpec := { name := "nibbleCommons", fn := fun _ => fun
  | [d1, d2, d3] => { results := [.lit (.bool false)], args := [d1, d2, d3] }
  | _ => none }
def NibbleCommonsWrongFalsely : Prop := nibbleCommonsRow.holds Try.pinned (OpenSpec.ofChange nibbleCommonsWrong)

/-- 'notarylaw13.NibbleSets': WHATEVER THE INPUT: true; the input reads as it did. -/
def nibbleSetsSpec : ChangeSpec := { name := "nibbleSets", fn := fun _ => fun
  | [d1, d2] => { results := [.lit (.bool true)], args := [d1, d2] }
  | _ => none }
def nibbleSetsRow : OpenClaim := { program := "ytheojegfgcbacaa", sum := "218b7e17f7963206767f8fb1beaeb64cf36203c07bafd44d05126c2aca31ff51", func := "notary/notarylaw13.NibbleSets", spec := "nibbleSets", apart := false }
def NibbleSetsSaid : Prop := nibbleSetsRow.holds Try.pinned (OpenSpec.ofChange nibbleSetsSpec)

/-- ITS FALSE NEIGHBOUR: 'it returns false'. Refute it at one input. -/
def nibbleSetsWrong : ChangeSpec := { name := "nibbleSets", fn := fun _ => fun
  | [d1, d2] => { results := [.lit (.bool false)], args := [d1, d2] }
  | _ => none }
def NibbleSetsWrongFalsely : Prop := nibbleSetsRow.holds Try.pinned (OpenSpec.ofChange nibbleSetsWrong)

/-- 'notarylaw13.NibbleDigits': WHATEVER THE INPUT: true; the input reads as it did. -/
def nibbleDigitsSpec : ChangeSpec := { name := "nibbleDigits", fn := fun _ => fun
  | [d1, d2] => { results := [.lit (.bool true)], args := [d1, d2] }
  | _ => none }
def nibbleDigitsRow : OpenClaim := { program := "ytheojegfgcbacaa", sum := "218b7e17f7963206767f8fb1beaeb64cf36203c07bafd44d05126c2aca31ff51", func := "notary/notarylaw13.NibbleDigits", spec := "nibbleDigits", apart := false }
def NibbleDigitsSaid : Prop := nibbleDigitsRow.holds Try.pinned (OpenSpec.ofChange nibbleDigitsSpec)

/-- ITS FALSE NEIGHBOUR: 'it returns false'. Refute it at one input. -/
def nibbleDigitsWrong : ChangeSpec := { name := "nibbleDigits", fn := fun _ => fun
  | [d1, d2] => { results := [.lit (.bool false)], args := [d1, d2] }
  | _ => none }
def NibbleDigitsWrongFalsely : Prop := nibbleDigitsRow.holds Try.pinned (OpenSpec.ofChange nibbleDigitsWrong)

/-- 'notarylaw13.NibbleOrders': WHATEVER THE INPUT: true; the input reads as it did. -/
def nibbleOrdersSpec : ChangeSpec := { name := "nibbleOrders", fn := fun _ => fun
  | [d1, d2, d3] => { results := [.lit (.bool true)], args := [d1, d2, d3] }
  | _ => none }
def nibbleOrdersRow : OpenClaim := { program := "ytheojegfgcbacaa", sum := "218b7e17f7963206767f8fb1beaeb64cf36203c07bafd44d05126c2aca31ff51", func := "notary/notarylaw13.NibbleOrders", spec := "nibbleOrders", apart := false }
def NibbleOrdersSaid : Prop := nibbleOrdersRow.holds Try.pinned (OpenSpec.ofChange nibbleOrdersSpec)

/-- ITS FALSE NEIGHBOUR: 'it returns false'. Refute it at one input. -/
def nibbleOrdersWrong : ChangeSpec := { name := "nibbleOrders", fn := fun _ => fun
  | [d1, d2, d3] => { results := [.lit (.bool false)], args := [d1, d2, d3] }
  | _ => none }
def NibbleOrdersWrongFalsely : Prop := nibbleOrdersRow.holds Try.pinned (OpenSpec.ofChange nibbleOrdersWrong)

/-- 'notarylaw13.NibbleClosest': WHATEVER THE INPUT: true; the input reads as it did. -/
def nibbleClosestSpec : ChangeSpec := { name := "nibbleClosest", fn := fun _ => fun
  | [d1, d2] => { results := [.lit (.bool true)], args := [d1, d2] }
  | _ => none }
def nibbleClosestRow : OpenClaim := { program := "ytheojegfgcbacaa", sum := "218b7e17f7963206767f8fb1beaeb64cf36203c07bafd44d05126c2aca31ff51", func := "notary/notarylaw13.NibbleClosest", spec := "nibbleClosest", apart := false }
def NibbleClosestSaid : Prop := nibbleClosestRow.holds Try.pinned (OpenSpec.ofChange nibbleClosestSpec)

/-- ITS FALSE NEIGHBOUR: 'it returns false'. Refute it at one input. -/
def nibbleClosestWrong : ChangeSpec := { name := "nibbleClosest", fn := fun _ => fun
  | [d1, d2] => { results := [.lit (.bool false)], args := [d1, d2] }
  | _ => none }
def NibbleClosestWrongFalsely : Prop := nibbleClosestRow.holds Try.pinned (OpenSpec.ofChange nibbleClosestWrong)

/-- 'notarylaw13.NibbleRanks': WHATEVER THE INPUT: true; the input reads as it did. -/
def nibbleRanksSpec : ChangeSpec := { name := "nibbleRanks", fn := fun _ => fun
  | [d1, d2] => { results := [.lit (.bool true)], args := [d1, d2] }
  | _ => none }
def nibbleRanksRow : OpenClaim := { program := "ytheojegfgcbacaa", sum := "218b7e17f7963206767f8fb1beaeb64cf36203c07bafd44d05126c2aca31ff51", func := "notary/notarylaw13.NibbleRanks", spec := "nibbleRanks", apart := false }
def NibbleRanksSaid : Prop := nibbleRanksRow.holds Try.pinned (OpenSpec.ofChange nibbleRanksSpec)

/-- ITS FALSE NEIGHBOUR: 'it returns false'. Refute it at one input. -/
def nibbleRanksWrong : ChangeSpec := { name := "nibbleRanks", fn := fun _ => fun
  | [d1, d2] => { results := [.lit (.bool false)], args := [d1, d2] }
  | _ => none }
def NibbleRanksWrongFalsely : Prop := nibbleRanksRow.holds Try.pinned (OpenSpec.ofChange nibbleRanksWrong)

/-- 'notarytop.WholeDigits': WHATEVER THE INPUT: true; the input reads as it did. -/
def wholeDigitsSpec : ChangeSpec := { name := "wholeDigits", fn := fun _ => fun
  | [d1, d2, d3, d4] => { results := [.lit (.bool true)], args := [d1, d2, d3, d4] }
  | _ => none }
def wholeDigitsRow : OpenClaim := { program := "ytheojegfgcbacaa", sum := "218b7e17f7963206767f8fb1beaeb64cf36203c07bafd44d05126c2aca31ff51", func := "notary/notarytop.WholeDigits", spec := "wholeDigits", apart := false }
def WholeDigitsSaid : Prop := wholeDigitsRow.holds Try.pinned (OpenSpec.ofChange wholeDigitsSpec)

/-- ITS FALSE NEIGHBOUR: 'it returns false'. Refute it at one input. -/
def wholeDigitsWrong : ChangeSpec := { name := "wholeDigits", fn := fun _ => fun
  | [d1, d2, d3, d4] => { results := [.lit (.bool false)], args := [d1, d2, d3, d4] }
  | _ => none }
def WholeDigitsWrongFalsely : Prop := wholeDigitsRow.holds Try.pinned (OpenSpec.ofChange wholeDigitsWrong)

/- THE SECOND FORM. 'bulk': how many values and letters a reading holds, each counted each time it is reached (what is shared counts as often as it is met; a slice's spare places count too). A statement '..UptoSaid' is the law's where the arguments, and the package variables that the reading takes, are together of bulk at most 1048576: NARROWER than '..Said'. Prove '..Said' where nothing that the law and all that it calls make is longer than what came in: it says more and counts as full. Else prove '..UptoSaid'. A law counts once. -/
mutual
def uptoBulk {H : Type} : DataW H → Nat
  | .lit (.string bytes) => bytes.length + 1
  | .lit _ => 1
  | .nil => 1
  | .ptr d => uptoBulk d + 1
  | .slice elems spare => uptoBulkAll elems + uptoBulkAll spare + 1
  | .agg parts => uptoBulkAll parts + 1
  | .iface _ d => uptoBulk d + 1
  | .map entries => uptoBulkEntries entries + 1
  | .held _ => 1
def uptoBulkAll {H : Type} : List (DataW H) → Nat
  | [] => 0
  | d :: r => uptoBulk d + uptoBulkAll r
def uptoBulkEntries {H : Type} : List (Lit × DataW H) → Nat
  | [] => 0
  | x :: r => uptoBulkEntry x + uptoBulkEntries r
def uptoBulkEntry {H : Type} : Lit × DataW H → Nat
  | (.string bytes, d) => bytes.length + uptoBulk d + 1
  | (_, d) => uptoBulk d + 1
 end
def uptoSmall : (H : Type) → List (DataW H) → Bool := fun _ ds => decide (uptoBulkAll ds ≤ 1048576)
def OpenSpec.upto (s : _root_.Go.ChangeSpec) : _root_.Go.OpenSpec := { _root_.Go.OpenSpec.ofChange s with cond := some uptoSmall }

/-- 'notarylaw13.NibbleAts', WHERE WHAT IT READS IS OF BULK AT MOST 1048576: true; the input reads as it did. -/
def nibbleAtsUptoRow : OpenClaim := { program := "ytheojegfgcbacaa", sum := "218b7e17f7963206767f8fb1beaeb64cf36203c07bafd44d05126c2aca31ff51", func := "notary/notarylaw13.NibbleAts", spec := "nibbleAts", apart := false, narrowed := true }
def NibbleAtsUptoSaid : Prop := nibbleAtsUptoRow.holds Try.pinned (OpenSpec.upto nibbleAtsSpec)

/-- 'notarylaw13.NibbleCommons', WHERE WHAT IT READS IS OF BULK AT MOST 1048576: true; the input reads as it did. -/
def nibbleCommonsUptoRow : OpenClaim := { program := "ytheojegfgcbacaa", sum := "218b7e17f7963206767f8fb1beaeb64cf36203c07bafd44d05126c2aca31ff51", func := "notary/notarylaw13.NibbleCommons", spec := "nibbleCommons", apart := false, narrowed := true }
def NibbleCommonsUptoSaid : Prop := nibbleCommonsUptoRow.holds Try.pinned (OpenSpec.upto nibbleCommonsSpec)

/-- 'notarylaw13.NibbleSets', WHERE WHAT IT READS IS OF BULK AT MOST 1048576: true; the input reads as it did. -/
def nibbleSetsUptoRow : OpenClaim := { program := "ytheojegfgcbacaa", sum := "218b7e17f7963206767f8fb1beaeb64cf36203c07bafd44d05126c2aca31ff51", func := "notary/notarylaw13.NibbleSets", spec := "nibbleSets", apart := false, narrowed := true }
def NibbleSetsUptoSaid : Prop := nibbleSetsUptoRow.holds Try.pinned (OpenSpec.upto nibbleSetsSpec)

/-- 'notarylaw13.NibbleDigits', WHERE WHAT IT READS IS OF BULK AT MOST 1048576: true; the input reads as it did. -/
def nibbleDigitsUptoRow : OpenClaim := { program := "ytheojegfgcbacaa", sum := "218b7e17f7963206767f8fb1beaeb64cf36203c07bafd44d05126c2aca31ff51", func := "notary/notarylaw13.NibbleDigits", spec := "nibbleDigits", apart := false, narrowed := true }
def NibbleDigitsUptoSaid : Prop := nibbleDigitsUptoRow.holds Try.pinned (OpenSpec.upto nibbleDigitsSpec)

/-- 'notarylaw13.NibbleOrders', WHERE WHAT IT READS IS OF BULK AT MOST 1048576: true; the input reads as it did. -/
def nibbleOrdersUptoRow : OpenClaim := { program := "ytheojegfgcbacaa", sum := "218b7e17f7963206767f8fb1beaeb64cf36203c07bafd44d05126c2aca31ff51", func := "notary/notarylaw13.NibbleOrders", spec := "nibbleOrders", apart := false, narrowed := true }
def NibbleOrdersUptoSaid : Prop := nibbleOrdersUptoRow.holds Try.pinned (OpenSpec.upto nibbleOrdersSpec)

/-- 'notarylaw13.NibbleClosest', WHERE WHAT IT READS IS OF BULK AT MOST 1048576: true; the input reads as it did. -/
def nibbleClosestUptoRow : OpenClaim := { program := "ytheojegfgcbacaa", sum := "218b7e17f7963206767f8fb1beaeb64cf36203c07bafd44d05126c2aca31ff51", func := "notary/notarylaw13.NibbleClosest", spec := "nibbleClosest", apart := false, narrowed := true }
def NibbleClosestUptoSaid : Prop := nibbleClosestUptoRow.holds Try.pinned (OpenSpec.upto nibbleClosestSpec)

/-- 'notarylaw13.NibbleRanks', WHERE WHAT IT READS IS OF BULK AT MOST 1048576: true; the input reads as it did. -/
def nibbleRanksUptoRow : OpenClaim := { program := "ytheojegfgcbacaa", sum := "218b7e17f7963206767f8fb1beaeb64cf36203c07bafd44d05126c2aca31ff51", func := "notary/notarylaw13.NibbleRanks", spec := "nibbleRanks", apart := false, narrowed := true }
def NibbleRanksUptoSaid : Prop := nibbleRanksUptoRow.holds Try.pinned (OpenSpec.upto nibbleRanksSpec)

/-- 'notarytop.WholeDigits', WHERE WHAT IT READS IS OF BULK AT MOST 1048576: true; the input reads as it did. -/
def wholeDigitsUptoRow : OpenClaim := { program := "ytheojegfgcbacaa", sum := "218b7e17f7963206767f8fb1beaeb64cf36203c07bafd44d05126c2aca31ff51", func := "notary/notarytop.WholeDigits", spec := "wholeDigits", apart := false, narrowed := true }
def WholeDigitsUptoSaid : Prop := wholeDigitsUptoRow.holds Try.pinned (OpenSpec.upto wholeDigitsSpec)

end Rows
end Go.Proofs.Ytheojegfgcbacaa
