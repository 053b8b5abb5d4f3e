/-
  The walks of the reference's hash (package notaryref02), first part: the words of a block. Conditions: as stated in each theorem.
-/
import Derived.Test.YticfalbgplifoaaGreatDoorShf
namespace Go.Proofs.YticfalbgplifoaaGreatDoor
set_option maxRecDepth 100000
open Go Go.RowKit
set_option linter.unusedVariables false
set_option linter.unusedSimpArgs false

theorem spread_ok (l : List UInt8) (hl : l.length = 64) (v : Value) (w : World) (hv : SlC w v l.length (vbs l)) :
    CallK Tryz.prog 105 [v].toArray w fun v w' => v = .agg (vws (schedW l 64)).toArray ∧ Ext w w' := by
  refine enterT Tryz.func105 rfl Tryz.ntmps105 Tryz.results105 rfl (by decide) ?_
  simp only [↓VD, VP, VT, isAggD, reduceCtorEq, Int.reduceEq, Int.reduceNe, Int.reduceLT, Int.reduceLE, implies_true, Nat.reduceEqDiff, reduceIte, ite_true, ite_false, eq_self, Nat.reduceLT, Nat.reduceLeDiff, Nat.reduceAdd, Nat.reduceMul, Nat.reduceSub, intOf]
  intro w1 hN1 w2 hN2
  have s1 := hN1.size
  have s2 := hN2.size
  rw [vws_rep] at hN1 hN2
  refine loopT (fun s' w' => Ext w w' ∧ ∃ k : Nat, k ≤ 64 ∧ s' 0 = v ∧ s' 2 = .pointer (some ⟨w.heap.size, 0, none⟩) ∧ s' 3 = .pointer (some ⟨w1.heap.size, 0, none⟩) ∧ s' 4 = .int .i64 k ∧
      Blk w' w.heap.size 136 (vws (List.replicate 64 0)) ∧ Blk w' w1.heap.size 136 (vws (schedW l k ++ List.replicate (64 - k) 0)))
      (fun s' _ => 64 - (intOf (s' 4)).toNat) ?_ ?_
  · simp only [↓VD, VP, VT, isAggD, reduceCtorEq, Int.reduceEq, Int.reduceNe, Int.reduceLT, Int.reduceLE, implies_true, Nat.reduceEqDiff, reduceIte, ite_true, ite_false, eq_self, Nat.reduceLT, Nat.reduceLeDiff, Nat.reduceAdd, Nat.reduceMul, Nat.reduceSub, intOf]
    exact ⟨hN1.ext.trans' hN2.ext, 0, by omega, rfl, hN1.blk.ext hN2.ext, hN2.blk⟩
  · rintro s3 w3 ⟨hE, k, hk, h0, h2, h3, h4, hBr, hB⟩
    have hsl := schedW_len l k
    have ll : (schedW l k ++ List.replicate (64 - k) 0).length = 64 := by simp [hsl]; omega
    simp only [↓VD, VP, VT, isAggD, reduceCtorEq, Int.reduceEq, Int.reduceNe, Int.reduceLT, Int.reduceLE, implies_true, Nat.reduceEqDiff, reduceIte, ite_true, ite_false, eq_self, Nat.reduceLT, Nat.reduceLeDiff, Nat.reduceAdd, Nat.reduceMul, Nat.reduceSub, intOf, h0, h2, h3, h4]
    refine ⟨fun hlt => ⟨fun h16 => ?_, fun h16 => ?_⟩, fun hge => ?_⟩
    · have hk16 : k < 16 := by omega
      simp only [↓VD, VP, VT, isAggD, reduceCtorEq, Int.reduceEq, Int.reduceNe, Int.reduceLT, Int.reduceLE, implies_true, Nat.reduceEqDiff, reduceIte, ite_true, ite_false, eq_self, Nat.reduceLT, Nat.reduceLeDiff, Nat.reduceAdd, Nat.reduceMul, Nat.reduceSub, intOf, (show IntKind.i64.wrap (4 * (k : Int)) = ((4 * k : Nat) : Int) from by rw [w64 (by omega) (by omega)] <;> omega)]
      refine (big_ok l (4 * k) (by omega) v w3 (hv.ext hE)).mono ?_
      rintro _ w4 ⟨rfl, hE4⟩
      simp only [↓VD, VP, VT, isAggD, reduceCtorEq, Int.reduceEq, Int.reduceNe, Int.reduceLT, Int.reduceLE, implies_true, Nat.reduceEqDiff, reduceIte, ite_true, ite_false, eq_self, Nat.reduceLT, Nat.reduceLeDiff, Nat.reduceAdd, Nat.reduceMul, Nat.reduceSub, intOf, h0, h2, h3, h4, vw]
      refine ⟨by omega, by omega, stV c119 (hB.ext hE4) rfl rfl (by rw [vws_len]; omega) (fun w5 hP => ?_)⟩
      rw [vws_set, set_tail hsl (by omega), ← sched_lo l k hk16] at hP
      simp only [↓VD, VP, VT, isAggD, reduceCtorEq, Int.reduceEq, Int.reduceNe, Int.reduceLT, Int.reduceLE, implies_true, Nat.reduceEqDiff, reduceIte, ite_true, ite_false, eq_self, Nat.reduceLT, Nat.reduceLeDiff, Nat.reduceAdd, Nat.reduceMul, Nat.reduceSub, intOf, h0, h2, h3, h4]
      refine ⟨⟨(hE.trans' hE4).trans (hP.below (by omega)), k + 1, by omega, ?_, hP.keep (hBr.ext hE4) (by omega), hP.blk⟩, ?_⟩
      · rw [w64 (by omega) (by omega)]; rfl
      · rw [w64 (by omega) (by omega)]; omega
    · have hk16 : 16 ≤ k := by omega
      have hk64 : k < 64 := by omega
      have e15 : IntKind.i64.wrap ((k : Int) - 15) = ((k - 15 : Nat) : Int) := by rw [w64 (by omega) (by omega)]; omega
      have e2 : IntKind.i64.wrap ((k : Int) - 2) = ((k - 2 : Nat) : Int) := by rw [w64 (by omega) (by omega)]; omega
      have e16 : IntKind.i64.wrap ((k : Int) - 16) = ((k - 16 : Nat) : Int) := by rw [w64 (by omega) (by omega)]; omega
      have e7 : IntKind.i64.wrap ((k : Int) - 7) = ((k - 7 : Nat) : Int) := by rw [w64 (by omega) (by omega)]; omega
      refine drawT mixed (by decide +kernel) ?_
      simp only [↓VD, VP, VT, isAggD, reduceCtorEq, Int.reduceEq, Int.reduceNe, Int.reduceLT, Int.reduceLE, implies_true, Nat.reduceEqDiff, reduceIte, ite_true, ite_false, eq_self, Nat.reduceLT, Nat.reduceLeDiff, Nat.reduceAdd, Nat.reduceMul, Nat.reduceSub, intOf, h0, h2, h3, h4, e15]
      refine ⟨by omega, by omega, ldW (o := k - 15) Tryz.underlying119 hB (by omega) ?_⟩
      rw [getD_app (by omega)]
      simp only [↓VD, VP, VT, isAggD, reduceCtorEq, Int.reduceEq, Int.reduceNe, Int.reduceLT, Int.reduceLE, implies_true, Nat.reduceEqDiff, reduceIte, ite_true, ite_false, eq_self, Nat.reduceLT, Nat.reduceLeDiff, Nat.reduceAdd, Nat.reduceMul, Nat.reduceSub, intOf, h0, h2, h3, h4, e2]
      refine ⟨by omega, by omega, ldW (o := k - 2) Tryz.underlying119 hB (by omega) ?_⟩
      rw [getD_app (by omega)]
      simp only [↓VD, VP, VT, isAggD, reduceCtorEq, Int.reduceEq, Int.reduceNe, Int.reduceLT, Int.reduceLE, implies_true, Nat.reduceEqDiff, reduceIte, ite_true, ite_false, eq_self, Nat.reduceLT, Nat.reduceLeDiff, Nat.reduceAdd, Nat.reduceMul, Nat.reduceSub, intOf, h0, h2, h3, h4]
      intro w4 hE4
      have hB4 := hB.ext hE4
      have hcl : ∀ x, Blk x w1.heap.size 136 (vws (schedW l k ++ List.replicate (64 - k) 0)) → ∀ j, j < k → x.cell? ⟨w1.heap.size, j, none⟩ = some (.int .u32 ((schedW l k).getD j 0).toNat) := fun x hx j hj => by
        rw [hx.cell, vws_get (by omega), getD_app (by omega)]; rfl
      refine drawH (fun x => ∀ j, j < k → x.cell? ⟨w1.heap.size, j, none⟩ = some (.int .u32 ((schedW l k).getD j 0).toNat)) [0, 1, 2, 3, 4, 5, 6, 7, 8, 9, 10, 12, 15, 16, 19, 21, 24, 25, 11, 13, 14, 17, 18, 20, 22, 23, 26, 27, 28, 29] mixed (by decide +kernel) (fun w5 hE5 hh => ⟨hcl _ (hB4.ext hE5), ?_⟩)
      have hB5 := hB4.ext hE5
      simp only [↓VD, VP, VT, isAggD, reduceCtorEq, Int.reduceEq, Int.reduceNe, Int.reduceLT, Int.reduceLE, implies_true, Nat.reduceEqDiff, reduceIte, ite_true, ite_false, eq_self, Nat.reduceLT, Nat.reduceLeDiff, Nat.reduceAdd, Nat.reduceMul, Nat.reduceSub, intOf, h0, h2, h3, h4, e16]
      refine ⟨by omega, by omega, loadS_of _ (fun x hx => ld1 Tryz.underlying119 rfl (hx (k - 16) (by omega)) rfl) ?_⟩
      simp only [↓VD, VP, VT, isAggD, reduceCtorEq, Int.reduceEq, Int.reduceNe, Int.reduceLT, Int.reduceLE, implies_true, Nat.reduceEqDiff, reduceIte, ite_true, ite_false, eq_self, Nat.reduceLT, Nat.reduceLeDiff, Nat.reduceAdd, Nat.reduceMul, Nat.reduceSub, intOf, h0, h2, h3, h4, e7]
      refine ⟨by omega, by omega, loadS_of _ (fun x hx => ld1 Tryz.underlying119 rfl (hx (k - 7) (by omega)) rfl) ?_⟩
      simp only [↓VD, VP, VT, isAggD, reduceCtorEq, Int.reduceEq, Int.reduceNe, Int.reduceLT, Int.reduceLE, implies_true, Nat.reduceEqDiff, reduceIte, ite_true, ite_false, eq_self, Nat.reduceLT, Nat.reduceLeDiff, Nat.reduceAdd, Nat.reduceMul, Nat.reduceSub, intOf, h0, h2, h3, h4]
      refine (turn_ok _ 7 (by decide) (by decide) _).mono ?_
      rintro _ w6 ⟨rfl, hE6⟩
      have hB6 := hB5.ext hE6
      refine told (fun _ => True) (hcl _ hB6) trivial ?_
      simp only [↓VD, VP, VT, isAggD, reduceCtorEq, Int.reduceEq, Int.reduceNe, Int.reduceLT, Int.reduceLE, implies_true, Nat.reduceEqDiff, reduceIte, ite_true, ite_false, eq_self, Nat.reduceLT, Nat.reduceLeDiff, Nat.reduceAdd, Nat.reduceMul, Nat.reduceSub, intOf, h0, h2, h3, h4, vw]
      refine (turn_ok _ 18 (by decide) (by decide) _).mono ?_
      rintro _ w7 ⟨rfl, hE7⟩
      have hB7 := hB6.ext hE7
      refine told (fun _ => True) (hcl _ hB7) trivial ?_
      simp only [↓VD, VP, VT, isAggD, reduceCtorEq, Int.reduceEq, Int.reduceNe, Int.reduceLT, Int.reduceLE, implies_true, Nat.reduceEqDiff, reduceIte, ite_true, ite_false, eq_self, Nat.reduceLT, Nat.reduceLeDiff, Nat.reduceAdd, Nat.reduceMul, Nat.reduceSub, intOf, h0, h2, h3, h4, vw]
      refine (turn_ok _ 17 (by decide) (by decide) _).mono ?_
      rintro _ w8 ⟨rfl, hE8⟩
      have hB8 := hB7.ext hE8
      refine told (fun _ => True) (hcl _ hB8) trivial ?_
      simp only [↓VD, VP, VT, isAggD, reduceCtorEq, Int.reduceEq, Int.reduceNe, Int.reduceLT, Int.reduceLE, implies_true, Nat.reduceEqDiff, reduceIte, ite_true, ite_false, eq_self, Nat.reduceLT, Nat.reduceLeDiff, Nat.reduceAdd, Nat.reduceMul, Nat.reduceSub, intOf, h0, h2, h3, h4, vw]
      refine (turn_ok _ 19 (by decide) (by decide) _).mono ?_
      rintro _ w9 ⟨rfl, hE9⟩
      have hB9 := hB8.ext hE9
      refine told (fun _ => True) (hcl _ hB9) trivial ?_
      simp only [↓VD, VP, VT, isAggD, reduceCtorEq, Int.reduceEq, Int.reduceNe, Int.reduceLT, Int.reduceLE, implies_true, Nat.reduceEqDiff, reduceIte, ite_true, ite_false, eq_self, Nat.reduceLT, Nat.reduceLeDiff, Nat.reduceAdd, Nat.reduceMul, Nat.reduceSub, intOf, h0, h2, h3, h4, vw]
      simp (disch := decide) only [bshlN, bshrN, badd, bxor, band, bor, bnot, Int.reduceToNat]
      have hs : schedW l (k + 1) = _ := sched_hi l k hk16
      simp only [sg0, sg1] at hs
      have hcomm : ∀ a b c d : W32, a + b + c + d = a + c + b + d := fun a b c d => by rw [BitVec.add_assoc a b c, BitVec.add_comm b c, ← BitVec.add_assoc]
      rw [hcomm]
      refine ⟨by omega, by omega, stV c119 hB9 rfl rfl (by rw [vws_len]; omega) (fun w10 hP => ?_)⟩
      rw [vws_set, set_tail hsl hk64, ← hs] at hP
      refine toldL (by unfold LastP; decide +kernel) ?_
      simp only [↓VD, VP, VT, isAggD, reduceCtorEq, Int.reduceEq, Int.reduceNe, Int.reduceLT, Int.reduceLE, implies_true, Nat.reduceEqDiff, reduceIte, ite_true, ite_false, eq_self, Nat.reduceLT, Nat.reduceLeDiff, Nat.reduceAdd, Nat.reduceMul, Nat.reduceSub, intOf, h0, h2, h3, h4]
      have hE' : Ext w w9 := (((((hE.trans' hE4).trans' hE5).trans' hE6).trans' hE7).trans' hE8).trans' hE9
      refine ⟨⟨hE'.trans (hP.below (by omega)), k + 1, by omega, ?_, hP.keep ((((((hBr.ext hE4).ext hE5).ext hE6).ext hE7).ext hE8).ext hE9) (by omega), hP.blk⟩, ?_⟩
      · rw [w64 (by omega) (by omega)]; rfl
      · rw [w64 (by omega) (by omega)]; omega
    · have hk64 : k = 64 := by omega
      subst hk64
      simp only [Nat.sub_self, List.replicate_zero, List.append_nil] at hB
      refine ldA Tryz.underlying136 rfl hB (by rw [c136, vws_len, hsl]) ?_
      simp only [↓VD, VP, VT, isAggD, reduceCtorEq, Int.reduceEq, Int.reduceNe, Int.reduceLT, Int.reduceLE, implies_true, Nat.reduceEqDiff, reduceIte, ite_true, ite_false, eq_self, Nat.reduceLT, Nat.reduceLeDiff, Nat.reduceAdd, Nat.reduceMul, Nat.reduceSub, intOf, h0, h2, h3, h4]
      refine stAll hBr rfl (by rw [c136]; omega) (by rw [c136, vws_len, hsl]) (by rw [c136]; rfl) (vws_one _) (fun w10 hP => ?_)
      simp only [↓VD, VP, VT, isAggD, reduceCtorEq, Int.reduceEq, Int.reduceNe, Int.reduceLT, Int.reduceLE, implies_true, Nat.reduceEqDiff, reduceIte, ite_true, ite_false, eq_self, Nat.reduceLT, Nat.reduceLeDiff, Nat.reduceAdd, Nat.reduceMul, Nat.reduceSub, intOf, h0, h2, h3, h4]
      refine ldA Tryz.underlying136 rfl hP.blk (by rw [c136, vws_len, hsl]) ?_
      exact ⟨rfl, hE.trans (hP.below (by omega))⟩

end Go.Proofs.YticfalbgplifoaaGreatDoor
