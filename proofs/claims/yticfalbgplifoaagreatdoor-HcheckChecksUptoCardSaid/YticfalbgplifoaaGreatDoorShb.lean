/-
  The walks of the hash (package sha), first part: turning words, the first words, padding. Conditions: as stated in each theorem.
-/
import Derived.Test.YticfalbgplifoaaGreatDoorSha
namespace Go.Proofs.YticfalbgplifoaaGreatDoor
set_option maxRecDepth 100000
open Go Go.RowKit
set_option linter.unusedVariables false
set_option linter.unusedSimpArgs false

theorem rot_ok (x : W32) (k : Nat) (h0 : 0 < k) (h : k < 32) (w : World) :
    CallK Tryz.prog 115 [vw x, .int .i64 (IntKind.i64.wrap (0 - (k : Int)))].toArray w fun v w' => v = vw (rotr x k) ∧ w' = w := by
  unfold vw
  refine enterT Tryz.func115 rfl Tryz.ntmps115 Tryz.results115 rfl (by decide) ?_
  simp only [↓VD, VP, VT, isAggD, reduceCtorEq, Int.reduceEq, Int.reduceNe, Int.reduceLT, Int.reduceLE, implies_true, Nat.reduceEqDiff, reduceIte, ite_true, ite_false, eq_self, Nat.reduceLT, Nat.reduceLeDiff, Nat.reduceAdd, Nat.reduceMul, Nat.reduceSub, intOf]
  have hs : ibits .and .u64 (IntKind.u64.wrap (IntKind.i64.wrap (0 - (k : Int)))) 31 = ((32 - k : Nat) : Int) := by
    have key : ∀ j : Fin 32, 0 < j.val → ibits .and .u64 (IntKind.u64.wrap (IntKind.i64.wrap (0 - ((j.val : Nat) : Int)))) 31 = ((32 - j.val : Nat) : Int) := by decide +kernel
    exact key ⟨k, h⟩ h0
  rw [hs]
  have hk : IntKind.u64.wrap (32 - ((32 - k : Nat) : Int)) = (k : Int) := by rw [wu64 (by omega) (by omega)]; omega
  rw [hk]
  refine ⟨by omega, by omega, ?_⟩
  have e1 := bshl x (32 - k) (by omega)
  have e2 := bshr x k (by omega)
  simp only [Int.toNat_natCast]
  show ibits .or .u32 (IntKind.u32.wrap ((x.toNat : Int) * 2 ^ min (32 - k) 32)) ((x.toNat : Int).fdiv (2 ^ min k 32)) = _
  rw [e1, e2, bor]
  rfl

theorem right_ok (x : W32) (k : Nat) (h0 : 0 < k) (h : k < 32) (w : World) :
    CallK Tryz.prog 109 [vw x, .int .i64 k].toArray w fun v w' => v = vw (rotr x k) ∧ w' = w := by
  unfold vw
  refine enterT Tryz.func109 rfl Tryz.ntmps109 Tryz.results109 rfl (by decide) ?_
  simp only [↓VD, VP, VT, isAggD, reduceCtorEq, Int.reduceEq, Int.reduceNe, Int.reduceLT, Int.reduceLE, implies_true, Nat.reduceEqDiff, reduceIte, ite_true, ite_false, eq_self, Nat.reduceLT, Nat.reduceLeDiff, Nat.reduceAdd, Nat.reduceMul, Nat.reduceSub, intOf]
  refine (rot_ok x k h0 h w).mono ?_
  rintro _ w2 ⟨rfl, rfl⟩
  simp only [↓VD, VP, VT, isAggD, reduceCtorEq, Int.reduceEq, Int.reduceNe, Int.reduceLT, Int.reduceLE, implies_true, Nat.reduceEqDiff, reduceIte, ite_true, ite_false, eq_self, Nat.reduceLT, Nat.reduceLeDiff, Nat.reduceAdd, Nat.reduceMul, Nat.reduceSub, intOf]
  rfl

theorem turn_ok (x : W32) (k : Nat) (h0 : 0 < k) (h : k < 32) (w : World) :
    CallK Tryz.prog 107 [vw x, .int .i64 k].toArray w fun v w' => v = vw (rotr x k) ∧ Ext w w' := by
  unfold vw
  refine enterT Tryz.func107 rfl Tryz.ntmps107 Tryz.results107 rfl (by decide) ?_
  simp only [↓VD, VP, VT, isAggD, reduceCtorEq, Int.reduceEq, Int.reduceNe, Int.reduceLT, Int.reduceLE, implies_true, Nat.reduceEqDiff, reduceIte, ite_true, ite_false, eq_self, Nat.reduceLT, Nat.reduceLeDiff, Nat.reduceAdd, Nat.reduceMul, Nat.reduceSub, intOf]
  refine drawT mixed (by decide +kernel) ?_
  simp only [↓VD, VP, VT, isAggD, reduceCtorEq, Int.reduceEq, Int.reduceNe, Int.reduceLT, Int.reduceLE, implies_true, Nat.reduceEqDiff, reduceIte, ite_true, ite_false, eq_self, Nat.reduceLT, Nat.reduceLeDiff, Nat.reduceAdd, Nat.reduceMul, Nat.reduceSub, intOf]
  have hk : IntKind.i64.wrap (32 - (k : Int)) = ((32 - k : Nat) : Int) := by rw [w64 (by omega) (by omega)]; omega
  rw [hk]
  refine ⟨by omega, by omega, fun w' hE => ⟨?_, hE⟩⟩
  have e1 := bshl x (32 - k) (by omega)
  have e2 := bshr x k (by omega)
  simp only [Int.toNat_natCast]
  show IntKind.u32.wrap ((x.toNat : Int).fdiv (2 ^ min k 32) + IntKind.u32.wrap ((x.toNat : Int) * 2 ^ min (32 - k) 32)) = _
  rw [e1, e2, badd, rotr_add x k h0 h]

set_option maxRecDepth 100000 in
theorem first_ok (w : World) : CallK Tryz.prog 108 [].toArray w fun v w' => v = .agg (vws H0W).toArray ∧ Ext w w' := by
  refine enterT Tryz.func108 rfl Tryz.ntmps108 Tryz.results108 rfl (by decide) ?_
  simp only [↓VD, VP, VT, isAggD, reduceCtorEq, Int.reduceEq, Int.reduceNe, Int.reduceLT, Int.reduceLE, implies_true, Nat.reduceEqDiff, reduceIte, ite_true, ite_false, eq_self, Nat.reduceLT, Nat.reduceLeDiff, Nat.reduceAdd, Nat.reduceMul, Nat.reduceSub, intOf]
  intro w1 hN
  refine bldC (vws H0W) (by kernel_rfl) ?_
  simp only [↓VD, VP, VT, isAggD, reduceCtorEq, Int.reduceEq, Int.reduceNe, Int.reduceLT, Int.reduceLE, implies_true, Nat.reduceEqDiff, reduceIte, ite_true, ite_false, eq_self, Nat.reduceLT, Nat.reduceLeDiff, Nat.reduceAdd, Nat.reduceMul, Nat.reduceSub, intOf]
  refine stAll hN.blk rfl (by rw [c120]; omega) (by rw [c120]; rfl) (by rw [c120]; rfl) (vws_one _) (fun w2 hP => ?_)
  simp only [↓VD, VP, VT, isAggD, reduceCtorEq, Int.reduceEq, Int.reduceNe, Int.reduceLT, Int.reduceLE, implies_true, Nat.reduceEqDiff, reduceIte, ite_true, ite_false, eq_self, Nat.reduceLT, Nat.reduceLeDiff, Nat.reduceAdd, Nat.reduceMul, Nat.reduceSub, intOf]
  refine ldA Tryz.underlying120 rfl hP.blk (by rw [c120]; rfl) ?_
  exact ⟨rfl, hN.ext.trans (hP.below (Nat.le_refl _))⟩
set_option maxRecDepth 100000 in
theorem First_ok (w : World) : CallK Tryz.prog 89 [].toArray w fun v w' => v = .agg (vws H0W).toArray ∧ Ext w w' := by
  refine enterT Tryz.func89 rfl Tryz.ntmps89 Tryz.results89 rfl (by decide) ?_
  simp only [↓VD, VP, VT, isAggD, reduceCtorEq, Int.reduceEq, Int.reduceNe, Int.reduceLT, Int.reduceLE, implies_true, Nat.reduceEqDiff, reduceIte, ite_true, ite_false, eq_self, Nat.reduceLT, Nat.reduceLeDiff, Nat.reduceAdd, Nat.reduceMul, Nat.reduceSub, intOf]
  intro w1 hN
  refine bldC (vws H0W) (by kernel_rfl) ?_
  simp only [↓VD, VP, VT, isAggD, reduceCtorEq, Int.reduceEq, Int.reduceNe, Int.reduceLT, Int.reduceLE, implies_true, Nat.reduceEqDiff, reduceIte, ite_true, ite_false, eq_self, Nat.reduceLT, Nat.reduceLeDiff, Nat.reduceAdd, Nat.reduceMul, Nat.reduceSub, intOf]
  refine stAll hN.blk rfl (by rw [c120]; omega) (by rw [c120]; rfl) (by rw [c120]; rfl) (vws_one _) (fun w2 hP => ?_)
  simp only [↓VD, VP, VT, isAggD, reduceCtorEq, Int.reduceEq, Int.reduceNe, Int.reduceLT, Int.reduceLE, implies_true, Nat.reduceEqDiff, reduceIte, ite_true, ite_false, eq_self, Nat.reduceLT, Nat.reduceLeDiff, Nat.reduceAdd, Nat.reduceMul, Nat.reduceSub, intOf]
  refine ldA Tryz.underlying120 rfl hP.blk (by rw [c120]; rfl) ?_
  exact ⟨rfl, hN.ext.trans (hP.below (Nat.le_refl _))⟩
set_option maxRecDepth 100000 in
theorem words_ok (w : World) : CallK Tryz.prog 106 [].toArray w fun v w' => v = .agg (vws KW).toArray ∧ Ext w w' := by
  refine enterT Tryz.func106 rfl Tryz.ntmps106 Tryz.results106 rfl (by decide) ?_
  simp only [↓VD, VP, VT, isAggD, reduceCtorEq, Int.reduceEq, Int.reduceNe, Int.reduceLT, Int.reduceLE, implies_true, Nat.reduceEqDiff, reduceIte, ite_true, ite_false, eq_self, Nat.reduceLT, Nat.reduceLeDiff, Nat.reduceAdd, Nat.reduceMul, Nat.reduceSub, intOf]
  intro w1 hN
  refine bldC (vws KW) (by kernel_rfl) ?_
  simp only [↓VD, VP, VT, isAggD, reduceCtorEq, Int.reduceEq, Int.reduceNe, Int.reduceLT, Int.reduceLE, implies_true, Nat.reduceEqDiff, reduceIte, ite_true, ite_false, eq_self, Nat.reduceLT, Nat.reduceLeDiff, Nat.reduceAdd, Nat.reduceMul, Nat.reduceSub, intOf]
  refine stAll hN.blk rfl (by rw [c136]; omega) (by rw [c136]; rfl) (by rw [c136]; rfl) (vws_one _) (fun w2 hP => ?_)
  simp only [↓VD, VP, VT, isAggD, reduceCtorEq, Int.reduceEq, Int.reduceNe, Int.reduceLT, Int.reduceLE, implies_true, Nat.reduceEqDiff, reduceIte, ite_true, ite_false, eq_self, Nat.reduceLT, Nat.reduceLeDiff, Nat.reduceAdd, Nat.reduceMul, Nat.reduceSub, intOf]
  refine ldA Tryz.underlying136 rfl hP.blk (by rw [c136]; rfl) ?_
  exact ⟨rfl, hN.ext.trans (hP.below (Nat.le_refl _))⟩

set_option maxRecDepth 100000 in
theorem big_ok (l : List UInt8) (i : Nat) (hi : i + 4 ≤ l.length) (v : Value) (w : World) (hv : SlC w v l.length (vbs l)) :
    CallK Tryz.prog 114 [v, .int .i64 i].toArray w fun v w' => v = vw (beW (l.getD i 0) (l.getD (i + 1) 0) (l.getD (i + 2) 0) (l.getD (i + 3) 0)) ∧ Ext w w' := by
  obtain ⟨a, c, rfl, hnc, hcm, hc⟩ := hv
  refine enterT Tryz.func114 rfl Tryz.ntmps114 Tryz.results114 rfl (by decide) ?_
  simp only [↓VD, VP, VT, isAggD, reduceCtorEq, Int.reduceEq, Int.reduceNe, Int.reduceLT, Int.reduceLE, implies_true, Nat.reduceEqDiff, reduceIte, ite_true, ite_false, eq_self, Nat.reduceLT, Nat.reduceLeDiff, Nat.reduceAdd, Nat.reduceMul, Nat.reduceSub, intOf]
  refine drawT mixed (by decide +kernel) ?_
  rcases hc with hc | ⟨b, o, rfl, hc⟩
  · have : l = [] := by simpa [vbs] using hc
    simp [this] at hi
  simp only [↓VD, VP, VT, isAggD, reduceCtorEq, Int.reduceEq, Int.reduceNe, Int.reduceLT, Int.reduceLE, implies_true, Nat.reduceEqDiff, reduceIte, ite_true, ite_false, eq_self, Nat.reduceLT, Nat.reduceLeDiff, Nat.reduceAdd, Nat.reduceMul, Nat.reduceSub, intOf]
  refine ⟨by omega, by omega, ldS Tryz.underlying5 hc (by omega) ?_⟩
  simp only [↓VD, VP, VT, isAggD, reduceCtorEq, Int.reduceEq, Int.reduceNe, Int.reduceLT, Int.reduceLE, implies_true, Nat.reduceEqDiff, reduceIte, ite_true, ite_false, eq_self, Nat.reduceLT, Nat.reduceLeDiff, Nat.reduceAdd, Nat.reduceMul, Nat.reduceSub, intOf, (show IntKind.i64.wrap ((i : Int) + 1) = ((i + 1 : Nat) : Int) from by rw [w64 (by omega) (by omega)] <;> omega), wb_conv]
  refine ⟨by omega, by omega, ldS Tryz.underlying5 hc (by omega) ?_⟩
  simp only [↓VD, VP, VT, isAggD, reduceCtorEq, Int.reduceEq, Int.reduceNe, Int.reduceLT, Int.reduceLE, implies_true, Nat.reduceEqDiff, reduceIte, ite_true, ite_false, eq_self, Nat.reduceLT, Nat.reduceLeDiff, Nat.reduceAdd, Nat.reduceMul, Nat.reduceSub, intOf, (show IntKind.i64.wrap ((i : Int) + 2) = ((i + 2 : Nat) : Int) from by rw [w64 (by omega) (by omega)] <;> omega), wb_conv]
  refine ⟨by omega, by omega, ldS Tryz.underlying5 hc (by omega) ?_⟩
  simp only [↓VD, VP, VT, isAggD, reduceCtorEq, Int.reduceEq, Int.reduceNe, Int.reduceLT, Int.reduceLE, implies_true, Nat.reduceEqDiff, reduceIte, ite_true, ite_false, eq_self, Nat.reduceLT, Nat.reduceLeDiff, Nat.reduceAdd, Nat.reduceMul, Nat.reduceSub, intOf, (show IntKind.i64.wrap ((i : Int) + 3) = ((i + 3 : Nat) : Int) from by rw [w64 (by omega) (by omega)] <;> omega), wb_conv]
  refine ⟨by omega, by omega, ldS Tryz.underlying5 hc (by omega) ?_⟩
  simp only [↓VD, VP, VT, isAggD, reduceCtorEq, Int.reduceEq, Int.reduceNe, Int.reduceLT, Int.reduceLE, implies_true, Nat.reduceEqDiff, reduceIte, ite_true, ite_false, eq_self, Nat.reduceLT, Nat.reduceLeDiff, Nat.reduceAdd, Nat.reduceMul, Nat.reduceSub, intOf, wb_conv]
  intro w' hE
  simp (disch := decide) only [bshlL, badd]
  refine ⟨?_, hE⟩
  rw [← beW_add]
  rfl

end Go.Proofs.YticfalbgplifoaaGreatDoor
