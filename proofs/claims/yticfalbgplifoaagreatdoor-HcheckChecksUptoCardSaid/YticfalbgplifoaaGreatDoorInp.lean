/-
  The statements' helpers child, inputs and clash (package notarylaw16). Conditions: as stated in each theorem.
-/
import Derived.Test.YticfalbgplifoaaGreatDoorPlD
namespace Go.Proofs.YticfalbgplifoaaGreatDoor
set_option maxRecDepth 100000
open Go Go.RowKit
set_option linter.unusedVariables false
set_option linter.unusedSimpArgs false

/-! ### Lists of byte lists -/
def LLAt (w : World) (v : Value) (ps : List BR) : Prop := SlC w v ps.length (ps.map (·.v)) ∧ ∀ p ∈ ps, SlB w p.v p.b
theorem LLAt.ext {w w' : World} {v : Value} {ps : List BR} (h : LLAt w v ps) (e : Ext w w') : LLAt w' v ps := ⟨h.1.ext e, fun p hp => (h.2 p hp).ext e⟩

end Go.Proofs.YticfalbgplifoaaGreatDoor
