/-
  HcheckAgrees: the walk. Conditions: as stated in each theorem.
-/
import Derived.Test.YticfalbgplifoaaGreatDoorLawA
namespace Go.Proofs.YticfalbgplifoaaGreatDoor
set_option maxRecDepth 100000
open Go Go.RowKit
set_option linter.unusedVariables false
set_option linter.unusedSimpArgs false

theorem form_zero (n : Int) (hn : widB n = true) : formB n (List.replicate 32 0) = true := by
  have hw := (widB_iff n).1 hn
  obtain ⟨m, rfl⟩ : ∃ m : Nat, n = m := ⟨n.toNat, by omega⟩
  unfold formB
  rw [hn]
  simp only [Bool.true_and, decide_eq_true_eq, cutP, List.take_replicate, Int.toNat_natCast, List.replicate_append_replicate]
  congr 1
  omega
theorem form_brD (n : Int) (hn : widB n = true) (bm : Nat) (ds : List (List UInt8)) : formB n (brD n bm ds) = true := by
  unfold brD
  split
  · exact form_sumR n _ hn
  · exact form_zero n hn
theorem form_upF (n : Int) (hn : widB n = true) (k : List UInt8) : ∀ (l : List (Nat × SR)) (d : List UInt8), formB n d = true → formB n (upF n k l d) = true
  | [], d, h => h
  | x :: l, d, h => form_upF n hn k l _ (form_brD n hn _ _)
theorem form_outD (e : Nat) (n : Int) (hn : widB n = true) (key : List UInt8) (ss : List SR) (ps : List PR) : formB n (outD e n key ss ps) = true := by
  unfold outD
  split
  · refine form_upF n hn _ _ _ ?_
    unfold up0
    split <;> exact form_sumR n _ hn
  · exact form_zero n hn
theorem checkE_ne {n : Int} {root d : List UInt8} {e : Nat} (h : e ≠ 0) : checkE n root d e ≠ 0 := by
  unfold checkE
  split
  · exact h
  · split
    · decide
    · rw [if_neg (fun g => h g.1)]
      exact h

/-- What the laws take for granted of a question: it may be read, and its lists are short enough for the machine. -/
structure AskAt (w : World) (key : List UInt8) (ss : List SR) (ps : List PR) (kv sv pv : Value) : Prop where
  kat : SlB w kv key
  keyl : key.length + 1 ≤ 140737488355328
  steps : StepsAt w sv ss
  pairs : PairsAt w pv ps
  pk : ∀ p ∈ ps, p.k.length + 1 ≤ 140737488355328
  pn : ps.length ≤ 400000000000
theorem AskAt.ext {w w' : World} {key : List UInt8} {ss : List SR} {ps : List PR} {kv sv pv : Value} (h : AskAt w key ss ps kv sv pv) (e : Ext w w') : AskAt w' key ss ps kv sv pv :=
  ⟨h.kat.ext e, h.keyl, h.steps.ext e, h.pairs.ext e, h.pk, h.pn⟩
theorem AskAt.rootOf {w : World} {key : List UInt8} {ss : List SR} {ps : List PR} {kv sv pv : Value} (h : AskAt w key ss ps kv sv pv) (n : Int) (hW : WordsAt w 1) :
    CallK Tryz.prog 7 [.int .i64 n, kv, .agg [sv, pv].toArray].toArray w fun r w' => ∃ e v, r = .tuple [.agg (vbs (outD e n key ss ps)).toArray, v, .bool (outT e key ps), .int .i64 e].toArray ∧ RootE n key ss ps e ∧
      Own w' w.heap.size 5 1 v (outV e key ps).length (vbs (outV e key ps)) ∧ Ext w w' := RootOf_ok n key kv sv pv ss ps w hW h.kat h.keyl h.steps h.pairs h.pk h.pn
theorem AskAt.check {w : World} {key : List UInt8} {ss : List SR} {ps : List PR} {kv sv pv : Value} (h : AskAt w key ss ps kv sv pv) (n : Int) (root : List UInt8) (hr : root.length = 32) (hW : WordsAt w 1) :
    CallK Tryz.prog 12 [.int .i64 n, .agg (vbs root).toArray, kv, .agg [sv, pv].toArray].toArray w fun r w' => ∃ e f v, r = .tuple [v, .bool (outT f key ps), .int .i64 (f : Nat)].toArray ∧ RootE n key ss ps e ∧ f = checkE n root (outD e n key ss ps) e ∧
      Own w' w.heap.size 5 1 v (outV f key ps).length (vbs (outV f key ps)) ∧ Ext w w' := Check_ok n root key hr kv sv pv ss ps w hW h.kat h.keyl h.steps h.pairs h.pk h.pn

end Go.Proofs.YticfalbgplifoaaGreatDoor
