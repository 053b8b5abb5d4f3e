/-
  The laws of layer 13 on digests. Conditions: as stated in each theorem.
-/
import Derived.Test.YtheojegfgcbacaaL13
import Derived.Test.YtheojegfgcbacaaNibQ
namespace Go.Proofs.Ytheojegfgcbacaa
open Go Go.RowKit
set_option linter.unusedVariables false
set_option linter.unusedSimpArgs false

theorem chk_b (n : Int) (l : List (List UInt8)) : 0 ≤ chkP n l ∧ chkP n l ≤ 3 := by
  unfold chkP; split
  · omega
  · split <;> omega
theorem at_b (n : Int) (d : List UInt8) (i : Int) : 0 ≤ (atP n d i).2 ∧ (atP n d i).2 ≤ 3 := by
  unfold atP; split
  · simp
  · split <;> simp
theorem com_b (n : Int) (a b : List UInt8) : 0 ≤ (comPP n a b).2 ∧ (comPP n a b).2 ≤ 3 := by
  have := chk_b n [a, b]
  unfold comPP; split
  · simp
  · exact this
theorem ord_b (n : Int) (a b : List UInt8) : 0 ≤ (ordP n a b).2 ∧ (ordP n a b).2 ≤ 3 := by
  have := chk_b n [a, b]
  unfold ordP; split
  · simp
  · exact this

/-- A whole digest out of its block. -/
theorem ldD {w : World} {b : Nat} {d : List UInt8} {K : Value → Prop} (hb : Blk w b 23 (vbs d)) (hd : d.length = 32) (hK : K (.agg (vbs d).toArray)) : vcLoad Try.prog 23 w b 0 K :=
  ldA Try.underlying23 rfl hb (by rw [vbs_len, hd, c23]) hK

theorem NibbleAts_ok (n : Int) (d : List UInt8) (hd : d.length = 32) (i : Int) (w : World) :
    CallK Try.prog 3 [.int .i64 n, .agg (vbs d).toArray, .int .i64 i].toArray w fun v w' => v = .bool true ∧ Ext w w' := by
  refine enterT Try.func3 rfl Try.ntmps3 Try.results3 rfl (by decide) ?_
  simp only [↓VD, VP, VT, isAggD, reduceCtorEq, Int.reduceEq, Int.reduceNe, Int.reduceLT, Int.reduceLE, implies_true, Nat.reduceEqDiff, reduceIte, ite_true, ite_false, eq_self, Nat.reduceLT, Nat.reduceLeDiff, Nat.reduceAdd, Nat.reduceMul, Nat.reduceSub, intOf]
  intro w0 hN
  refine (awake_ok w0).mono ?_
  rintro _ w1 ⟨rfl, hE1⟩
  simp only [↓VD, VP, VT, isAggD, reduceCtorEq, Int.reduceEq, Int.reduceNe, Int.reduceLT, Int.reduceLE, implies_true, Nat.reduceEqDiff, reduceIte, ite_true, ite_false, eq_self, Nat.reduceLT, Nat.reduceLeDiff, Nat.reduceAdd, Nat.reduceMul, Nat.reduceSub, intOf]
  refine ldD (hN.blk.ext hE1) hd ?_
  simp only [↓VD, VP, VT, isAggD, reduceCtorEq, Int.reduceEq, Int.reduceNe, Int.reduceLT, Int.reduceLE, implies_true, Nat.reduceEqDiff, reduceIte, ite_true, ite_false, eq_self, Nat.reduceLT, Nat.reduceLeDiff, Nat.reduceAdd, Nat.reduceMul, Nat.reduceSub, intOf]
  refine (At_ok n d hd i w1).mono ?_
  rintro _ w2 ⟨rfl, hE2⟩
  simp only [↓VD, VP, VT, isAggD, reduceCtorEq, Int.reduceEq, Int.reduceNe, Int.reduceLT, Int.reduceLE, implies_true, Nat.reduceEqDiff, reduceIte, ite_true, ite_false, eq_self, Nat.reduceLT, Nat.reduceLeDiff, Nat.reduceAdd, Nat.reduceMul, Nat.reduceSub, intOf]
  refine ldD ((hN.blk.ext hE1).ext hE2) hd ?_
  simp only [↓VD, VP, VT, isAggD, reduceCtorEq, Int.reduceEq, Int.reduceNe, Int.reduceLT, Int.reduceLE, implies_true, Nat.reduceEqDiff, reduceIte, ite_true, ite_false, eq_self, Nat.reduceLT, Nat.reduceLeDiff, Nat.reduceAdd, Nat.reduceMul, Nat.reduceSub, intOf]
  refine (DocAt_ok n d hd i w2).mono ?_
  rintro _ w3 ⟨rfl, hE3⟩
  have hb := at_b n d i
  have e1 := w64 (n := (atP n d i).2) (by omega) (by omega)
  simp only [↓VD, VP, VT, isAggD, reduceCtorEq, Int.reduceEq, Int.reduceNe, Int.reduceLT, Int.reduceLE, implies_true, Nat.reduceEqDiff, reduceIte, ite_true, ite_false, eq_self, Nat.reduceLT, Nat.reduceLeDiff, Nat.reduceAdd, Nat.reduceMul, Nat.reduceSub, intOf, e1]
  exact hN.ext.trans' (hE1.trans' (hE2.trans' hE3))

theorem NibbleCommons_ok (n : Int) (a b : List UInt8) (ha : a.length = 32) (hb : b.length = 32) (w : World) :
    CallK Try.prog 4 [.int .i64 n, .agg (vbs a).toArray, .agg (vbs b).toArray].toArray w fun v w' => v = .bool true ∧ Ext w w' := by
  refine enterT Try.func4 rfl Try.ntmps4 Try.results4 rfl (by decide) ?_
  simp only [↓VD, VP, VT, isAggD, reduceCtorEq, Int.reduceEq, Int.reduceNe, Int.reduceLT, Int.reduceLE, implies_true, Nat.reduceEqDiff, reduceIte, ite_true, ite_false, eq_self, Nat.reduceLT, Nat.reduceLeDiff, Nat.reduceAdd, Nat.reduceMul, Nat.reduceSub, intOf]
  intro w0 hN0 w0' hN0'
  have hA := hN0'.keep hN0.blk
  have hB := hN0'.blk
  refine (awake_ok w0').mono ?_
  rintro _ w1 ⟨rfl, hE1⟩
  simp only [↓VD, VP, VT, isAggD, reduceCtorEq, Int.reduceEq, Int.reduceNe, Int.reduceLT, Int.reduceLE, implies_true, Nat.reduceEqDiff, reduceIte, ite_true, ite_false, eq_self, Nat.reduceLT, Nat.reduceLeDiff, Nat.reduceAdd, Nat.reduceMul, Nat.reduceSub, intOf]
  refine ldD (hA.ext hE1) ha ?_
  simp only [↓VD, VP, VT, isAggD, reduceCtorEq, Int.reduceEq, Int.reduceNe, Int.reduceLT, Int.reduceLE, implies_true, Nat.reduceEqDiff, reduceIte, ite_true, ite_false, eq_self, Nat.reduceLT, Nat.reduceLeDiff, Nat.reduceAdd, Nat.reduceMul, Nat.reduceSub, intOf]
  refine ldD (hB.ext hE1) hb ?_
  simp only [↓VD, VP, VT, isAggD, reduceCtorEq, Int.reduceEq, Int.reduceNe, Int.reduceLT, Int.reduceLE, implies_true, Nat.reduceEqDiff, reduceIte, ite_true, ite_false, eq_self, Nat.reduceLT, Nat.reduceLeDiff, Nat.reduceAdd, Nat.reduceMul, Nat.reduceSub, intOf]
  refine (Common_ok n a b ha hb w1).mono ?_
  rintro _ w2 ⟨rfl, hE2⟩
  simp only [↓VD, VP, VT, isAggD, reduceCtorEq, Int.reduceEq, Int.reduceNe, Int.reduceLT, Int.reduceLE, implies_true, Nat.reduceEqDiff, reduceIte, ite_true, ite_false, eq_self, Nat.reduceLT, Nat.reduceLeDiff, Nat.reduceAdd, Nat.reduceMul, Nat.reduceSub, intOf]
  have hE2' := hE1.trans' hE2
  refine ldD (hA.ext hE2') ha ?_
  simp only [↓VD, VP, VT, isAggD, reduceCtorEq, Int.reduceEq, Int.reduceNe, Int.reduceLT, Int.reduceLE, implies_true, Nat.reduceEqDiff, reduceIte, ite_true, ite_false, eq_self, Nat.reduceLT, Nat.reduceLeDiff, Nat.reduceAdd, Nat.reduceMul, Nat.reduceSub, intOf]
  refine ldD (hB.ext hE2') hb ?_
  simp only [↓VD, VP, VT, isAggD, reduceCtorEq, Int.reduceEq, Int.reduceNe, Int.reduceLT, Int.reduceLE, implies_true, Nat.reduceEqDiff, reduceIte, ite_true, ite_false, eq_self, Nat.reduceLT, Nat.reduceLeDiff, Nat.reduceAdd, Nat.reduceMul, Nat.reduceSub, intOf]
  refine (DocCommon_ok n a b ha hb w2).mono ?_
  rintro _ w3 ⟨rfl, hE3⟩
  simp only [↓VD, VP, VT, isAggD, reduceCtorEq, Int.reduceEq, Int.reduceNe, Int.reduceLT, Int.reduceLE, implies_true, Nat.reduceEqDiff, reduceIte, ite_true, ite_false, eq_self, Nat.reduceLT, Nat.reduceLeDiff, Nat.reduceAdd, Nat.reduceMul, Nat.reduceSub, intOf]
  have hE3' := hE2'.trans' hE3
  refine ldD (hA.ext hE3') ha ?_
  simp only [↓VD, VP, VT, isAggD, reduceCtorEq, Int.reduceEq, Int.reduceNe, Int.reduceLT, Int.reduceLE, implies_true, Nat.reduceEqDiff, reduceIte, ite_true, ite_false, eq_self, Nat.reduceLT, Nat.reduceLeDiff, Nat.reduceAdd, Nat.reduceMul, Nat.reduceSub, intOf]
  refine ldD (hB.ext hE3') hb ?_
  simp only [↓VD, VP, VT, isAggD, reduceCtorEq, Int.reduceEq, Int.reduceNe, Int.reduceLT, Int.reduceLE, implies_true, Nat.reduceEqDiff, reduceIte, ite_true, ite_false, eq_self, Nat.reduceLT, Nat.reduceLeDiff, Nat.reduceAdd, Nat.reduceMul, Nat.reduceSub, intOf]
  refine (Order_ok n a b ha hb w3).mono ?_
  rintro _ w4 ⟨rfl, hE4⟩
  simp only [↓VD, VP, VT, isAggD, reduceCtorEq, Int.reduceEq, Int.reduceNe, Int.reduceLT, Int.reduceLE, implies_true, Nat.reduceEqDiff, reduceIte, ite_true, ite_false, eq_self, Nat.reduceLT, Nat.reduceLeDiff, Nat.reduceAdd, Nat.reduceMul, Nat.reduceSub, intOf]
  have hE4' := hE3'.trans' hE4
  refine ldD (hA.ext hE4') ha ?_
  simp only [↓VD, VP, VT, isAggD, reduceCtorEq, Int.reduceEq, Int.reduceNe, Int.reduceLT, Int.reduceLE, implies_true, Nat.reduceEqDiff, reduceIte, ite_true, ite_false, eq_self, Nat.reduceLT, Nat.reduceLeDiff, Nat.reduceAdd, Nat.reduceMul, Nat.reduceSub, intOf]
  refine ldD (hB.ext hE4') hb ?_
  simp only [↓VD, VP, VT, isAggD, reduceCtorEq, Int.reduceEq, Int.reduceNe, Int.reduceLT, Int.reduceLE, implies_true, Nat.reduceEqDiff, reduceIte, ite_true, ite_false, eq_self, Nat.reduceLT, Nat.reduceLeDiff, Nat.reduceAdd, Nat.reduceMul, Nat.reduceSub, intOf]
  refine (DocOrder_ok n a b ha hb w4).mono ?_
  rintro _ w5 ⟨rfl, hE5⟩
  have h1 := com_b n a b
  have h2 := ord_b n a b
  have e1 := w64 (n := (comPP n a b).2) (by omega) (by omega)
  have e2 := w64 (n := (ordP n a b).2) (by omega) (by omega)
  simp only [↓VD, VP, VT, isAggD, reduceCtorEq, Int.reduceEq, Int.reduceNe, Int.reduceLT, Int.reduceLE, implies_true, Nat.reduceEqDiff, reduceIte, ite_true, ite_false, eq_self, Nat.reduceLT, Nat.reduceLeDiff, Nat.reduceAdd, Nat.reduceMul, Nat.reduceSub, intOf, e1, e2]
  exact hN0.ext.trans' (hN0'.ext.trans' (hE4'.trans' hE5))

end Go.Proofs.Ytheojegfgcbacaa
