/-
  The walk of one block's compression (package sha). Conditions: as stated in the theorem.
-/
import Derived.Test.YticfalbgplifoaaGreatDoorShb
namespace Go.Proofs.YticfalbgplifoaaGreatDoor
set_option maxRecDepth 100000
open Go Go.RowKit
set_option linter.unusedVariables false
set_option linter.unusedSimpArgs false

set_option maxRecDepth 100000 in
theorem Compress_ok (h : List W32) (blk : List UInt8) (hh : h.length = 8) (hb : blk.length = 64) (w : World) (hW : WordsAt w 1) :
    CallK Tryz.prog 93 [.agg (vws h).toArray, .agg (vbs blk).toArray].toArray w fun v w' => v = .agg (vws (compW h blk)).toArray ∧ Ext w w' := by
  refine enterT Tryz.func93 rfl Tryz.ntmps93 Tryz.results93 rfl (by decide) ?_
  simp only [↓VD, VP, VT, isAggD, reduceCtorEq, Int.reduceEq, Int.reduceNe, Int.reduceLT, Int.reduceLE, implies_true, Nat.reduceEqDiff, reduceIte, ite_true, ite_false, eq_self, Nat.reduceLT, Nat.reduceLeDiff, Nat.reduceAdd, Nat.reduceMul, Nat.reduceSub, intOf]
  intro w1 hN1 w2 hN2 w3 hN3 w4 hN4
  have s1 := hN1.size
  have s2 := hN2.size
  have s3 := hN3.size
  have s4 := hN4.size
  rw [vws_rep] at hN3 hN4
  refine loopT (fun s' w' => Ext w w' ∧ ∃ k : Nat, k ≤ 16 ∧ s' 2 = .pointer (some ⟨w.heap.size, 0, none⟩) ∧ s' 3 = .pointer (some ⟨w1.heap.size, 0, none⟩) ∧ s' 4 = .pointer (some ⟨w2.heap.size, 0, none⟩) ∧ s' 5 = .pointer (some ⟨w3.heap.size, 0, none⟩) ∧
      s' 25 = .int .i64 k ∧ Blk w' w.heap.size 120 (vws h) ∧ Blk w' w1.heap.size 123 (vbs blk) ∧ Blk w' w2.heap.size 120 (vws (List.replicate 8 0)) ∧ Blk w' w3.heap.size 136 (vws (schedW blk k ++ List.replicate (64 - k) 0)))
      (fun s' _ => 16 - (intOf (s' 25)).toNat) ?_ ?_
  · simp only [↓VD, VP, VT, isAggD, reduceCtorEq, Int.reduceEq, Int.reduceNe, Int.reduceLT, Int.reduceLE, implies_true, Nat.reduceEqDiff, reduceIte, ite_true, ite_false, eq_self, Nat.reduceLT, Nat.reduceLeDiff, Nat.reduceAdd, Nat.reduceMul, Nat.reduceSub, intOf]
    refine ⟨((hN1.ext.trans' hN2.ext).trans' hN3.ext).trans' hN4.ext, 0, by omega, rfl, ?_, ?_, ?_, ?_⟩
    · exact ((hN1.blk.ext hN2.ext).ext hN3.ext).ext hN4.ext
    · exact (hN2.blk.ext hN3.ext).ext hN4.ext
    · exact hN3.blk.ext hN4.ext
    · exact hN4.blk
  · rintro s5 w5 ⟨hE, k, hk, h2, h3, h4, h5, h25, b1, b2, b3, b4⟩
    simp only [↓VD, VP, VT, isAggD, reduceCtorEq, Int.reduceEq, Int.reduceNe, Int.reduceLT, Int.reduceLE, implies_true, Nat.reduceEqDiff, reduceIte, ite_true, ite_false, eq_self, Nat.reduceLT, Nat.reduceLeDiff, Nat.reduceAdd, Nat.reduceMul, Nat.reduceSub, intOf, h2, h3, h4, h5, h25]
    refine ⟨fun hlt => ?_, fun hge => ?_⟩
    · have hk16 : k < 16 := by omega
      refine drawH (fun x => Blk x w1.heap.size 123 (vbs blk)) [0, 1, 2, 3, 4, 5, 6, 7, 8, 9, 10, 11, 12, 13, 14, 15, 16, 17, 18, 19, 20, 21, 22, 23, 24, 25, 26, 27, 28, 29, 30, 31] mixed (by decide +kernel) (fun w6 hE6 hh => ⟨b2.ext hE6, ?_⟩)
      simp only [↓VD, VP, VT, isAggD, reduceCtorEq, Int.reduceEq, Int.reduceNe, Int.reduceLT, Int.reduceLE, implies_true, Nat.reduceEqDiff, reduceIte, ite_true, ite_false, eq_self, Nat.reduceLT, Nat.reduceLeDiff, Nat.reduceAdd, Nat.reduceMul, Nat.reduceSub, intOf, h2, h3, h4, h5, h25, (show IntKind.i64.wrap (4 * (k : Int)) = ((4 * k : Nat) : Int) from by rw [w64 (by omega) (by omega)] <;> omega)]
      refine ⟨by omega, by omega, loadS_of _ (fun x hx => ldB (o := 4 * k) Tryz.underlying5 hx (by omega) rfl) ?_⟩
      simp only [↓VD, VP, VT, isAggD, reduceCtorEq, Int.reduceEq, Int.reduceNe, Int.reduceLT, Int.reduceLE, implies_true, Nat.reduceEqDiff, reduceIte, ite_true, ite_false, eq_self, Nat.reduceLT, Nat.reduceLeDiff, Nat.reduceAdd, Nat.reduceMul, Nat.reduceSub, intOf, h2, h3, h4, h5, h25, wb_conv, (show IntKind.i64.wrap (4 * (k : Int)) = ((4 * k : Nat) : Int) from by rw [w64 (by omega) (by omega)] <;> omega), (show IntKind.i64.wrap (((4 * k : Nat) : Int) + 1) = ((4 * k + 1 : Nat) : Int) from by rw [w64 (by omega) (by omega)] <;> omega)]
      refine ⟨by omega, by omega, loadS_of _ (fun x hx => ldB (o := 4 * k + 1) Tryz.underlying5 hx (by omega) rfl) ?_⟩
      simp only [↓VD, VP, VT, isAggD, reduceCtorEq, Int.reduceEq, Int.reduceNe, Int.reduceLT, Int.reduceLE, implies_true, Nat.reduceEqDiff, reduceIte, ite_true, ite_false, eq_self, Nat.reduceLT, Nat.reduceLeDiff, Nat.reduceAdd, Nat.reduceMul, Nat.reduceSub, intOf, h2, h3, h4, h5, h25, wb_conv, (show IntKind.i64.wrap (4 * (k : Int)) = ((4 * k : Nat) : Int) from by rw [w64 (by omega) (by omega)] <;> omega), (show IntKind.i64.wrap (((4 * k : Nat) : Int) + 2) = ((4 * k + 2 : Nat) : Int) from by rw [w64 (by omega) (by omega)] <;> omega)]
      refine ⟨by omega, by omega, loadS_of _ (fun x hx => ldB (o := 4 * k + 2) Tryz.underlying5 hx (by omega) rfl) ?_⟩
      simp only [↓VD, VP, VT, isAggD, reduceCtorEq, Int.reduceEq, Int.reduceNe, Int.reduceLT, Int.reduceLE, implies_true, Nat.reduceEqDiff, reduceIte, ite_true, ite_false, eq_self, Nat.reduceLT, Nat.reduceLeDiff, Nat.reduceAdd, Nat.reduceMul, Nat.reduceSub, intOf, h2, h3, h4, h5, h25, wb_conv, (show IntKind.i64.wrap (4 * (k : Int)) = ((4 * k : Nat) : Int) from by rw [w64 (by omega) (by omega)] <;> omega), (show IntKind.i64.wrap (((4 * k : Nat) : Int) + 3) = ((4 * k + 3 : Nat) : Int) from by rw [w64 (by omega) (by omega)] <;> omega)]
      refine ⟨by omega, by omega, loadS_of _ (fun x hx => ldB (o := 4 * k + 3) Tryz.underlying5 hx (by omega) rfl) ?_⟩
      simp only [↓VD, VP, VT, isAggD, reduceCtorEq, Int.reduceEq, Int.reduceNe, Int.reduceLT, Int.reduceLE, implies_true, Nat.reduceEqDiff, reduceIte, ite_true, ite_false, eq_self, Nat.reduceLT, Nat.reduceLeDiff, Nat.reduceAdd, Nat.reduceMul, Nat.reduceSub, intOf, h2, h3, h4, h5, h25, wb_conv]
      simp (disch := decide) only [bshlN, bshrN, badd, bxor, band, bor, bnot, Int.reduceToNat]
      rw [beW_or]
      refine ⟨by omega, by omega, stV c119 (b4.ext hE6) rfl rfl (by simp [vws_len, schedW_len]; omega) (fun w7 hP => ?_)⟩
      refine told (fun _ => True) (hP.keep (b2.ext hE6) (by omega)) trivial ?_
      rw [vws_set, set_tail (schedW_len blk k) (by omega), ← sched_lo blk k hk16] at hP
      simp only [↓VD, VP, VT, isAggD, reduceCtorEq, Int.reduceEq, Int.reduceNe, Int.reduceLT, Int.reduceLE, implies_true, Nat.reduceEqDiff, reduceIte, ite_true, ite_false, eq_self, Nat.reduceLT, Nat.reduceLeDiff, Nat.reduceAdd, Nat.reduceMul, Nat.reduceSub, intOf, h2, h3, h4, h5, h25]
      refine ⟨⟨(hE.trans' hE6).trans (hP.below (by omega)), k + 1, by omega, ?_, hP.keep (b1.ext hE6) (by omega), hP.keep (b2.ext hE6) (by omega), hP.keep (b3.ext hE6) (by omega), hP.blk⟩, ?_⟩
      · rw [w64 (by omega) (by omega)]; rfl
      · rw [w64 (by omega) (by omega)]; omega
    · have hk16 : k = 16 := by omega
      subst hk16
      clear h25 hge
      refine loopT (fun s' w' => Ext w w' ∧ ∃ k : Nat, 16 ≤ k ∧ k ≤ 64 ∧ s' 2 = .pointer (some ⟨w.heap.size, 0, none⟩) ∧ s' 4 = .pointer (some ⟨w2.heap.size, 0, none⟩) ∧ s' 5 = .pointer (some ⟨w3.heap.size, 0, none⟩) ∧
        s' 7 = .int .i64 k ∧ Blk w' w.heap.size 120 (vws h) ∧ Blk w' w2.heap.size 120 (vws (List.replicate 8 0)) ∧ Blk w' w3.heap.size 136 (vws (schedW blk k ++ List.replicate (64 - k) 0)))
        (fun s' _ => 64 - (intOf (s' 7)).toNat) ?_ ?_
      · simp only [↓VD, VP, VT, isAggD, reduceCtorEq, Int.reduceEq, Int.reduceNe, Int.reduceLT, Int.reduceLE, implies_true, Nat.reduceEqDiff, reduceIte, ite_true, ite_false, eq_self, Nat.reduceLT, Nat.reduceLeDiff, Nat.reduceAdd, Nat.reduceMul, Nat.reduceSub, intOf, h2, h3, h4, h5]
        exact ⟨hE, 16, by omega, by omega, rfl, b1, b3, b4⟩
      · clear h2 h3 h4 h5 b1 b2 b3 b4 hE
        rintro s6 w6 ⟨hE, k, hk0, hk, h2, h4, h5, h7, b1, b3, b4⟩
        simp only [↓VD, VP, VT, isAggD, reduceCtorEq, Int.reduceEq, Int.reduceNe, Int.reduceLT, Int.reduceLE, implies_true, Nat.reduceEqDiff, reduceIte, ite_true, ite_false, eq_self, Nat.reduceLT, Nat.reduceLeDiff, Nat.reduceAdd, Nat.reduceMul, Nat.reduceSub, intOf, h2, h4, h5, h7]
        have hl := schedW_len blk k
        refine ⟨fun hlt => ?_, fun hge => ?_⟩
        · have hk64 : k < 64 := by omega
          refine drawT mixed (by decide +kernel) ?_
          have e15 : IntKind.i64.wrap ((k : Int) - 15) = ((k - 15 : Nat) : Int) := by rw [w64 (by omega) (by omega)]; omega
          have e2 : IntKind.i64.wrap ((k : Int) - 2) = ((k - 2 : Nat) : Int) := by rw [w64 (by omega) (by omega)]; omega
          have e16 : IntKind.i64.wrap ((k : Int) - 16) = ((k - 16 : Nat) : Int) := by rw [w64 (by omega) (by omega)]; omega
          have e7 : IntKind.i64.wrap ((k : Int) - 7) = ((k - 7 : Nat) : Int) := by rw [w64 (by omega) (by omega)]; omega
          have ll : (schedW blk k ++ List.replicate (64 - k) 0).length = 64 := by simp [hl]; omega
          simp only [↓VD, VP, VT, isAggD, reduceCtorEq, Int.reduceEq, Int.reduceNe, Int.reduceLT, Int.reduceLE, implies_true, Nat.reduceEqDiff, reduceIte, ite_true, ite_false, eq_self, Nat.reduceLT, Nat.reduceLeDiff, Nat.reduceAdd, Nat.reduceMul, Nat.reduceSub, intOf, h2, h4, h5, h7, e15]
          refine ⟨by omega, by omega, ldW (o := k - 15) Tryz.underlying119 b4 (by omega) ?_⟩
          rw [getD_app (by omega)]
          simp only [↓VD, VP, VT, isAggD, reduceCtorEq, Int.reduceEq, Int.reduceNe, Int.reduceLT, Int.reduceLE, implies_true, Nat.reduceEqDiff, reduceIte, ite_true, ite_false, eq_self, Nat.reduceLT, Nat.reduceLeDiff, Nat.reduceAdd, Nat.reduceMul, Nat.reduceSub, intOf, h2, h4, h5, h7, e15]
          refine qcall (vw (rotr ((schedW blk k).getD (k - 15) 0) 7)) (fun w' _ => (right_ok _ 7 (by decide) (by decide) w').mono ?_) ?_
          · rintro _ _ ⟨rfl, rfl⟩; exact ⟨rfl, Ext.rfl' _⟩
          simp only [↓VD, VP, VT, isAggD, reduceCtorEq, Int.reduceEq, Int.reduceNe, Int.reduceLT, Int.reduceLE, implies_true, Nat.reduceEqDiff, reduceIte, ite_true, ite_false, eq_self, Nat.reduceLT, Nat.reduceLeDiff, Nat.reduceAdd, Nat.reduceMul, Nat.reduceSub, intOf, h2, h4, h5, h7, e15]
          refine ⟨by omega, by omega, ldW (o := k - 15) Tryz.underlying119 b4 (by omega) ?_⟩
          rw [getD_app (by omega)]
          simp only [↓VD, VP, VT, isAggD, reduceCtorEq, Int.reduceEq, Int.reduceNe, Int.reduceLT, Int.reduceLE, implies_true, Nat.reduceEqDiff, reduceIte, ite_true, ite_false, eq_self, Nat.reduceLT, Nat.reduceLeDiff, Nat.reduceAdd, Nat.reduceMul, Nat.reduceSub, intOf, h2, h4, h5, h7, e15]
          refine qcall (vw (rotr ((schedW blk k).getD (k - 15) 0) 18)) (fun w' _ => (right_ok _ 18 (by decide) (by decide) w').mono ?_) ?_
          · rintro _ _ ⟨rfl, rfl⟩; exact ⟨rfl, Ext.rfl' _⟩
          simp only [↓VD, VP, VT, isAggD, reduceCtorEq, Int.reduceEq, Int.reduceNe, Int.reduceLT, Int.reduceLE, implies_true, Nat.reduceEqDiff, reduceIte, ite_true, ite_false, eq_self, Nat.reduceLT, Nat.reduceLeDiff, Nat.reduceAdd, Nat.reduceMul, Nat.reduceSub, intOf, h2, h4, h5, h7, e15, vw]
          refine ⟨by omega, by omega, ldW (o := k - 15) Tryz.underlying119 b4 (by omega) ?_⟩
          rw [getD_app (by omega)]
          simp only [↓VD, VP, VT, isAggD, reduceCtorEq, Int.reduceEq, Int.reduceNe, Int.reduceLT, Int.reduceLE, implies_true, Nat.reduceEqDiff, reduceIte, ite_true, ite_false, eq_self, Nat.reduceLT, Nat.reduceLeDiff, Nat.reduceAdd, Nat.reduceMul, Nat.reduceSub, intOf, h2, h4, h5, h7]
          simp (disch := decide) only [bshlN, bshrN, badd, bxor, band, bor, bnot, Int.reduceToNat]
          intro w7 hE7
          refine drawT mixed (by decide +kernel) ?_
          simp only [↓VD, VP, VT, isAggD, reduceCtorEq, Int.reduceEq, Int.reduceNe, Int.reduceLT, Int.reduceLE, implies_true, Nat.reduceEqDiff, reduceIte, ite_true, ite_false, eq_self, Nat.reduceLT, Nat.reduceLeDiff, Nat.reduceAdd, Nat.reduceMul, Nat.reduceSub, intOf, h2, h4, h5, h7, e2]
          refine ⟨by omega, by omega, ldW (o := k - 2) Tryz.underlying119 (b4.ext hE7) (by omega) ?_⟩
          rw [getD_app (by omega)]
          simp only [↓VD, VP, VT, isAggD, reduceCtorEq, Int.reduceEq, Int.reduceNe, Int.reduceLT, Int.reduceLE, implies_true, Nat.reduceEqDiff, reduceIte, ite_true, ite_false, eq_self, Nat.reduceLT, Nat.reduceLeDiff, Nat.reduceAdd, Nat.reduceMul, Nat.reduceSub, intOf, h2, h4, h5, h7, e2, vw]
          refine qcall (vw (rotr ((schedW blk k).getD (k - 2) 0) 17)) (fun w' _ => (right_ok _ 17 (by decide) (by decide) w').mono ?_) ?_
          · rintro _ _ ⟨rfl, rfl⟩; exact ⟨rfl, Ext.rfl' _⟩
          simp only [↓VD, VP, VT, isAggD, reduceCtorEq, Int.reduceEq, Int.reduceNe, Int.reduceLT, Int.reduceLE, implies_true, Nat.reduceEqDiff, reduceIte, ite_true, ite_false, eq_self, Nat.reduceLT, Nat.reduceLeDiff, Nat.reduceAdd, Nat.reduceMul, Nat.reduceSub, intOf, h2, h4, h5, h7, e2, vw]
          refine ⟨by omega, by omega, ldW (o := k - 2) Tryz.underlying119 (b4.ext hE7) (by omega) ?_⟩
          rw [getD_app (by omega)]
          simp only [↓VD, VP, VT, isAggD, reduceCtorEq, Int.reduceEq, Int.reduceNe, Int.reduceLT, Int.reduceLE, implies_true, Nat.reduceEqDiff, reduceIte, ite_true, ite_false, eq_self, Nat.reduceLT, Nat.reduceLeDiff, Nat.reduceAdd, Nat.reduceMul, Nat.reduceSub, intOf, h2, h4, h5, h7, e2, vw]
          refine qcall (vw (rotr ((schedW blk k).getD (k - 2) 0) 19)) (fun w' _ => (right_ok _ 19 (by decide) (by decide) w').mono ?_) ?_
          · rintro _ _ ⟨rfl, rfl⟩; exact ⟨rfl, Ext.rfl' _⟩
          simp only [↓VD, VP, VT, isAggD, reduceCtorEq, Int.reduceEq, Int.reduceNe, Int.reduceLT, Int.reduceLE, implies_true, Nat.reduceEqDiff, reduceIte, ite_true, ite_false, eq_self, Nat.reduceLT, Nat.reduceLeDiff, Nat.reduceAdd, Nat.reduceMul, Nat.reduceSub, intOf, h2, h4, h5, h7, e2, vw]
          refine ⟨by omega, by omega, ldW (o := k - 2) Tryz.underlying119 (b4.ext hE7) (by omega) ?_⟩
          rw [getD_app (by omega)]
          simp only [↓VD, VP, VT, isAggD, reduceCtorEq, Int.reduceEq, Int.reduceNe, Int.reduceLT, Int.reduceLE, implies_true, Nat.reduceEqDiff, reduceIte, ite_true, ite_false, eq_self, Nat.reduceLT, Nat.reduceLeDiff, Nat.reduceAdd, Nat.reduceMul, Nat.reduceSub, intOf, h2, h4, h5, h7, e2, vw]
          simp (disch := decide) only [bshlN, bshrN, badd, bxor, band, bor, bnot, Int.reduceToNat]
          intro w8 hE8
          have b4' := (b4.ext hE7).ext hE8
          refine drawH (fun x => ∀ j, j < k → x.cell? ⟨w3.heap.size, j, none⟩ = some (.int .u32 ((schedW blk k).getD j 0).toNat)) [0, 1, 2, 3, 4, 5, 6, 7, 8, 9, 10, 11, 12, 13, 14, 15] mixed (by decide +kernel) (fun w9 hE9 hh => ⟨fun j hj => ?_, ?_⟩)
          · rw [(b4'.ext hE9).cell, vws_get (by omega), getD_app (by omega)]; rfl
          simp only [↓VD, VP, VT, isAggD, reduceCtorEq, Int.reduceEq, Int.reduceNe, Int.reduceLT, Int.reduceLE, implies_true, Nat.reduceEqDiff, reduceIte, ite_true, ite_false, eq_self, Nat.reduceLT, Nat.reduceLeDiff, Nat.reduceAdd, Nat.reduceMul, Nat.reduceSub, intOf, h2, h4, h5, h7, e16]
          refine ⟨by omega, by omega, loadS_of _ (fun x hx => ld1 Tryz.underlying119 rfl (hx (k - 16) (by omega)) rfl) ?_⟩
          simp only [↓VD, VP, VT, isAggD, reduceCtorEq, Int.reduceEq, Int.reduceNe, Int.reduceLT, Int.reduceLE, implies_true, Nat.reduceEqDiff, reduceIte, ite_true, ite_false, eq_self, Nat.reduceLT, Nat.reduceLeDiff, Nat.reduceAdd, Nat.reduceMul, Nat.reduceSub, intOf, h2, h4, h5, h7, e7]
          refine ⟨by omega, by omega, loadS_of _ (fun x hx => ld1 Tryz.underlying119 rfl (hx (k - 7) (by omega)) rfl) ?_⟩
          simp only [↓VD, VP, VT, isAggD, reduceCtorEq, Int.reduceEq, Int.reduceNe, Int.reduceLT, Int.reduceLE, implies_true, Nat.reduceEqDiff, reduceIte, ite_true, ite_false, eq_self, Nat.reduceLT, Nat.reduceLeDiff, Nat.reduceAdd, Nat.reduceMul, Nat.reduceSub, intOf, h2, h4, h5, h7]
          simp (disch := decide) only [bshlN, bshrN, badd, bxor, band, bor, bnot, Int.reduceToNat]
          refine ⟨by omega, by omega, stV c119 (b4'.ext hE9) rfl rfl (by rw [vws_len]; omega) (fun w10 hP => ?_)⟩
          rw [vws_set, set_tail hl hk64] at hP
          have hs : schedW blk (k + 1) = _ := sched_hi blk k hk0
          simp only [sg0, sg1] at hs
          rw [← hs] at hP
          refine told (fun _ => True) (fun j hj => ?_) trivial ?_
          · rw [hP.blk.cell, vws_get (by simp [schedW_len]; omega), getD_app (by rw [schedW_len]; omega), schedW_get blk j (k + 1) k (by omega) hj]; rfl
          simp only [↓VD, VP, VT, isAggD, reduceCtorEq, Int.reduceEq, Int.reduceNe, Int.reduceLT, Int.reduceLE, implies_true, Nat.reduceEqDiff, reduceIte, ite_true, ite_false, eq_self, Nat.reduceLT, Nat.reduceLeDiff, Nat.reduceAdd, Nat.reduceMul, Nat.reduceSub, intOf, h2, h4, h5, h7]
          have hE' : Ext w w9 := ((hE.trans' hE7).trans' hE8).trans' hE9
          refine ⟨⟨hE'.trans (hP.below (by omega)), k + 1, by omega, by omega, ?_, hP.keep (((b1.ext hE7).ext hE8).ext hE9) (by omega), hP.keep (((b3.ext hE7).ext hE8).ext hE9) (by omega), hP.blk⟩, ?_⟩
          · rw [w64 (by omega) (by omega)]; rfl
          · rw [w64 (by omega) (by omega)]; omega
        · have hk64 : k = 64 := by omega
          subst hk64
          clear h7 hge
          simp only [Nat.sub_self, List.replicate_zero, List.append_nil] at b4
          refine drawT mixed (by decide +kernel) ?_
          simp only [↓VD, VP, VT, isAggD, reduceCtorEq, Int.reduceEq, Int.reduceNe, Int.reduceLT, Int.reduceLE, implies_true, Nat.reduceEqDiff, reduceIte, ite_true, ite_false, eq_self, Nat.reduceLT, Nat.reduceLeDiff, Nat.reduceAdd, Nat.reduceMul, Nat.reduceSub, intOf, h2, h4, h5]
          refine ldW (o := 0) Tryz.underlying119 b1 (by omega) ?_
          simp only [↓VD, VP, VT, isAggD, reduceCtorEq, Int.reduceEq, Int.reduceNe, Int.reduceLT, Int.reduceLE, implies_true, Nat.reduceEqDiff, reduceIte, ite_true, ite_false, eq_self, Nat.reduceLT, Nat.reduceLeDiff, Nat.reduceAdd, Nat.reduceMul, Nat.reduceSub, intOf, h2, h4, h5]
          refine ldW (o := 1) Tryz.underlying119 b1 (by omega) ?_
          simp only [↓VD, VP, VT, isAggD, reduceCtorEq, Int.reduceEq, Int.reduceNe, Int.reduceLT, Int.reduceLE, implies_true, Nat.reduceEqDiff, reduceIte, ite_true, ite_false, eq_self, Nat.reduceLT, Nat.reduceLeDiff, Nat.reduceAdd, Nat.reduceMul, Nat.reduceSub, intOf, h2, h4, h5]
          refine ldW (o := 2) Tryz.underlying119 b1 (by omega) ?_
          simp only [↓VD, VP, VT, isAggD, reduceCtorEq, Int.reduceEq, Int.reduceNe, Int.reduceLT, Int.reduceLE, implies_true, Nat.reduceEqDiff, reduceIte, ite_true, ite_false, eq_self, Nat.reduceLT, Nat.reduceLeDiff, Nat.reduceAdd, Nat.reduceMul, Nat.reduceSub, intOf, h2, h4, h5]
          refine ldW (o := 3) Tryz.underlying119 b1 (by omega) ?_
          simp only [↓VD, VP, VT, isAggD, reduceCtorEq, Int.reduceEq, Int.reduceNe, Int.reduceLT, Int.reduceLE, implies_true, Nat.reduceEqDiff, reduceIte, ite_true, ite_false, eq_self, Nat.reduceLT, Nat.reduceLeDiff, Nat.reduceAdd, Nat.reduceMul, Nat.reduceSub, intOf, h2, h4, h5]
          refine ldW (o := 4) Tryz.underlying119 b1 (by omega) ?_
          simp only [↓VD, VP, VT, isAggD, reduceCtorEq, Int.reduceEq, Int.reduceNe, Int.reduceLT, Int.reduceLE, implies_true, Nat.reduceEqDiff, reduceIte, ite_true, ite_false, eq_self, Nat.reduceLT, Nat.reduceLeDiff, Nat.reduceAdd, Nat.reduceMul, Nat.reduceSub, intOf, h2, h4, h5]
          refine ldW (o := 5) Tryz.underlying119 b1 (by omega) ?_
          simp only [↓VD, VP, VT, isAggD, reduceCtorEq, Int.reduceEq, Int.reduceNe, Int.reduceLT, Int.reduceLE, implies_true, Nat.reduceEqDiff, reduceIte, ite_true, ite_false, eq_self, Nat.reduceLT, Nat.reduceLeDiff, Nat.reduceAdd, Nat.reduceMul, Nat.reduceSub, intOf, h2, h4, h5]
          refine ldW (o := 6) Tryz.underlying119 b1 (by omega) ?_
          simp only [↓VD, VP, VT, isAggD, reduceCtorEq, Int.reduceEq, Int.reduceNe, Int.reduceLT, Int.reduceLE, implies_true, Nat.reduceEqDiff, reduceIte, ite_true, ite_false, eq_self, Nat.reduceLT, Nat.reduceLeDiff, Nat.reduceAdd, Nat.reduceMul, Nat.reduceSub, intOf, h2, h4, h5]
          refine ldW (o := 7) Tryz.underlying119 b1 (by omega) ?_
          simp only [↓VD, VP, VT, isAggD, reduceCtorEq, Int.reduceEq, Int.reduceNe, Int.reduceLT, Int.reduceLE, implies_true, Nat.reduceEqDiff, reduceIte, ite_true, ite_false, eq_self, Nat.reduceLT, Nat.reduceLeDiff, Nat.reduceAdd, Nat.reduceMul, Nat.reduceSub, intOf, h2, h4, h5]
          intro w7 hE7
          refine loopT (fun s' w' => Ext w w' ∧ ∃ k : Nat, k ≤ 64 ∧ s' 2 = .pointer (some ⟨w.heap.size, 0, none⟩) ∧ s' 4 = .pointer (some ⟨w2.heap.size, 0, none⟩) ∧ s' 5 = .pointer (some ⟨w3.heap.size, 0, none⟩) ∧
            s' 129 = .int .i64 k ∧ Blk w' w.heap.size 120 (vws h) ∧ Blk w' w2.heap.size 120 (vws (List.replicate 8 0)) ∧ Blk w' w3.heap.size 136 (vws (schedW blk 64)) ∧
            ∃ r : R8, r = roundsW (R8.of h) (schedW blk 64) k ∧ s' 10 = .int .u32 r.a.toNat ∧ s' 11 = .int .u32 r.b.toNat ∧ s' 12 = .int .u32 r.c.toNat ∧ s' 13 = .int .u32 r.d.toNat ∧ s' 14 = .int .u32 r.e.toNat ∧ s' 15 = .int .u32 r.f.toNat ∧ s' 16 = .int .u32 r.g.toNat ∧ s' 17 = .int .u32 r.k.toNat)
            (fun s' _ => 64 - (intOf (s' 129)).toNat) ?_ ?_
          · simp only [↓VD, VP, VT, isAggD, reduceCtorEq, Int.reduceEq, Int.reduceNe, Int.reduceLT, Int.reduceLE, implies_true, Nat.reduceEqDiff, reduceIte, ite_true, ite_false, eq_self, Nat.reduceLT, Nat.reduceLeDiff, Nat.reduceAdd, Nat.reduceMul, Nat.reduceSub, intOf, h2, h4, h5]
            exact ⟨hE.trans' hE7, 0, by omega, rfl, b1.ext hE7, b3.ext hE7, b4.ext hE7, R8.of h, rfl, rfl, rfl, rfl, rfl, rfl, rfl, rfl, rfl⟩
          · clear h2 h4 h5 b1 b3 b4 hE hE7
            rintro s8 w8 ⟨hE, k, hk, h2, h4, h5, h129, b1, b3, b4, r, hr, g10, g11, g12, g13, g14, g15, g16, g17⟩
            simp only [↓VD, VP, VT, isAggD, reduceCtorEq, Int.reduceEq, Int.reduceNe, Int.reduceLT, Int.reduceLE, implies_true, Nat.reduceEqDiff, reduceIte, ite_true, ite_false, eq_self, Nat.reduceLT, Nat.reduceLeDiff, Nat.reduceAdd, Nat.reduceMul, Nat.reduceSub, intOf, h2, h4, h5, h129]
            refine ⟨fun hlt => ?_, fun hge => ?_⟩
            · have hk64 : k < 64 := by omega
              simp only [↓VD, VP, VT, isAggD, reduceCtorEq, Int.reduceEq, Int.reduceNe, Int.reduceLT, Int.reduceLE, implies_true, Nat.reduceEqDiff, reduceIte, ite_true, ite_false, eq_self, Nat.reduceLT, Nat.reduceLeDiff, Nat.reduceAdd, Nat.reduceMul, Nat.reduceSub, intOf, h2, h4, h5, h129, g10, g11, g12, g13, g14, g15, g16, g17]
              refine (right_ok r.e 6 (by decide) (by decide) _).mono ?_
              rintro _ _ ⟨rfl, rfl⟩
              simp only [↓VD, VP, VT, isAggD, reduceCtorEq, Int.reduceEq, Int.reduceNe, Int.reduceLT, Int.reduceLE, implies_true, Nat.reduceEqDiff, reduceIte, ite_true, ite_false, eq_self, Nat.reduceLT, Nat.reduceLeDiff, Nat.reduceAdd, Nat.reduceMul, Nat.reduceSub, intOf, h2, h4, h5, h129, g10, g11, g12, g13, g14, g15, g16, g17, vw]
              refine (right_ok r.e 11 (by decide) (by decide) _).mono ?_
              rintro _ _ ⟨rfl, rfl⟩
              simp only [↓VD, VP, VT, isAggD, reduceCtorEq, Int.reduceEq, Int.reduceNe, Int.reduceLT, Int.reduceLE, implies_true, Nat.reduceEqDiff, reduceIte, ite_true, ite_false, eq_self, Nat.reduceLT, Nat.reduceLeDiff, Nat.reduceAdd, Nat.reduceMul, Nat.reduceSub, intOf, h2, h4, h5, h129, g10, g11, g12, g13, g14, g15, g16, g17, vw]
              refine (right_ok r.e 25 (by decide) (by decide) _).mono ?_
              rintro _ _ ⟨rfl, rfl⟩
              simp only [↓VD, VP, VT, isAggD, reduceCtorEq, Int.reduceEq, Int.reduceNe, Int.reduceLT, Int.reduceLE, implies_true, Nat.reduceEqDiff, reduceIte, ite_true, ite_false, eq_self, Nat.reduceLT, Nat.reduceLeDiff, Nat.reduceAdd, Nat.reduceMul, Nat.reduceSub, intOf, h2, h4, h5, h129, g10, g11, g12, g13, g14, g15, g16, g17, vw]
              refine drawT mixed (by decide +kernel) ?_
              simp only [↓VD, VP, VT, isAggD, reduceCtorEq, Int.reduceEq, Int.reduceNe, Int.reduceLT, Int.reduceLE, implies_true, Nat.reduceEqDiff, reduceIte, ite_true, ite_false, eq_self, Nat.reduceLT, Nat.reduceLeDiff, Nat.reduceAdd, Nat.reduceMul, Nat.reduceSub, intOf, h2, h4, h5, h129, g10, g11, g12, g13, g14, g15, g16, g17]
              refine ⟨by omega, by omega, ld1 Tryz.underlying119 rfl ((hW.ext hE) k (by omega)) ?_⟩
              simp only [↓VD, VP, VT, isAggD, reduceCtorEq, Int.reduceEq, Int.reduceNe, Int.reduceLT, Int.reduceLE, implies_true, Nat.reduceEqDiff, reduceIte, ite_true, ite_false, eq_self, Nat.reduceLT, Nat.reduceLeDiff, Nat.reduceAdd, Nat.reduceMul, Nat.reduceSub, intOf, h2, h4, h5, h129, g10, g11, g12, g13, g14, g15, g16, g17, vw]
              refine ⟨by omega, by omega, ldW (o := k) Tryz.underlying119 b4 (by omega) ?_⟩
              simp only [↓VD, VP, VT, isAggD, reduceCtorEq, Int.reduceEq, Int.reduceNe, Int.reduceLT, Int.reduceLE, implies_true, Nat.reduceEqDiff, reduceIte, ite_true, ite_false, eq_self, Nat.reduceLT, Nat.reduceLeDiff, Nat.reduceAdd, Nat.reduceMul, Nat.reduceSub, intOf, h2, h4, h5, h129, g10, g11, g12, g13, g14, g15, g16, g17]
              intro w9 hE9
              refine (right_ok r.a 2 (by decide) (by decide) _).mono ?_
              rintro _ _ ⟨rfl, rfl⟩
              simp only [↓VD, VP, VT, isAggD, reduceCtorEq, Int.reduceEq, Int.reduceNe, Int.reduceLT, Int.reduceLE, implies_true, Nat.reduceEqDiff, reduceIte, ite_true, ite_false, eq_self, Nat.reduceLT, Nat.reduceLeDiff, Nat.reduceAdd, Nat.reduceMul, Nat.reduceSub, intOf, h2, h4, h5, h129, g10, g11, g12, g13, g14, g15, g16, g17, vw]
              refine (right_ok r.a 13 (by decide) (by decide) _).mono ?_
              rintro _ _ ⟨rfl, rfl⟩
              simp only [↓VD, VP, VT, isAggD, reduceCtorEq, Int.reduceEq, Int.reduceNe, Int.reduceLT, Int.reduceLE, implies_true, Nat.reduceEqDiff, reduceIte, ite_true, ite_false, eq_self, Nat.reduceLT, Nat.reduceLeDiff, Nat.reduceAdd, Nat.reduceMul, Nat.reduceSub, intOf, h2, h4, h5, h129, g10, g11, g12, g13, g14, g15, g16, g17, vw]
              refine (right_ok r.a 22 (by decide) (by decide) _).mono ?_
              rintro _ _ ⟨rfl, rfl⟩
              simp only [↓VD, VP, VT, isAggD, reduceCtorEq, Int.reduceEq, Int.reduceNe, Int.reduceLT, Int.reduceLE, implies_true, Nat.reduceEqDiff, reduceIte, ite_true, ite_false, eq_self, Nat.reduceLT, Nat.reduceLeDiff, Nat.reduceAdd, Nat.reduceMul, Nat.reduceSub, intOf, h2, h4, h5, h129, g10, g11, g12, g13, g14, g15, g16, g17, vw]
              simp (disch := decide) only [bshlN, bshrN, badd, bxor, band, bor, bnot, Int.reduceToNat]
              have hstep : roundsW (R8.of h) (schedW blk 64) (k + 1) = r.step (KW.getD k 0) ((schedW blk 64).getD k 0) := by rw [roundsW, ← hr]
              refine ⟨⟨hE.trans' hE9, k + 1, by omega, ?_, b1.ext hE9, b3.ext hE9, b4.ext hE9, _, hstep.symm, ?_⟩, ?_⟩
              · rw [w64 (by omega) (by omega)]; rfl
              · exact ⟨rfl, rfl, rfl, rfl, rfl, rfl, rfl, rfl⟩
              · rw [w64 (by omega) (by omega)]; omega
            · have hk64 : k = 64 := by omega
              subst hk64
              clear h129 hge
              simp only [↓VD, VP, VT, isAggD, reduceCtorEq, Int.reduceEq, Int.reduceNe, Int.reduceLT, Int.reduceLE, implies_true, Nat.reduceEqDiff, reduceIte, ite_true, ite_false, eq_self, Nat.reduceLT, Nat.reduceLeDiff, Nat.reduceAdd, Nat.reduceMul, Nat.reduceSub, intOf, h2, h4, h5, g10, g11, g12, g13, g14, g15, g16, g17]
              refine bldC (vws r.l) (by kernel_rfl) ?_
              simp only [↓VD, VP, VT, isAggD, reduceCtorEq, Int.reduceEq, Int.reduceNe, Int.reduceLT, Int.reduceLE, implies_true, Nat.reduceEqDiff, reduceIte, ite_true, ite_false, eq_self, Nat.reduceLT, Nat.reduceLeDiff, Nat.reduceAdd, Nat.reduceMul, Nat.reduceSub, intOf, h2, h4, h5]
              refine loopT (fun s' w' => Ext w w' ∧ ∃ k : Nat, k ≤ 8 ∧ s' 2 = .pointer (some ⟨w.heap.size, 0, none⟩) ∧ s' 4 = .pointer (some ⟨w2.heap.size, 0, none⟩) ∧
                s' 203 = .int .i64 k ∧ s' 202 = .agg (vws r.l).toArray ∧ Blk w' w2.heap.size 120 (vws (List.replicate 8 0)) ∧
                Blk w' w.heap.size 120 (vws ((List.zipWith (· + ·) h r.l).take k ++ h.drop k)))
                (fun s' _ => 8 - (intOf (s' 203)).toNat) ?_ ?_
              · simp only [↓VD, VP, VT, isAggD, reduceCtorEq, Int.reduceEq, Int.reduceNe, Int.reduceLT, Int.reduceLE, implies_true, Nat.reduceEqDiff, reduceIte, ite_true, ite_false, eq_self, Nat.reduceLT, Nat.reduceLeDiff, Nat.reduceAdd, Nat.reduceMul, Nat.reduceSub, intOf, h2, h4, h5]
                exact ⟨hE, 0, by omega, rfl, b3, b1⟩
              · clear h2 h4 h5 b1 b3 b4 hE g10 g11 g12 g13 g14 g15 g16 g17
                rintro s9 w9 ⟨hE, k, hk, h2, h4, h203, h202, b3, b1⟩
                simp only [↓VD, VP, VT, isAggD, reduceCtorEq, Int.reduceEq, Int.reduceNe, Int.reduceLT, Int.reduceLE, implies_true, Nat.reduceEqDiff, reduceIte, ite_true, ite_false, eq_self, Nat.reduceLT, Nat.reduceLeDiff, Nat.reduceAdd, Nat.reduceMul, Nat.reduceSub, intOf, h2, h4, h203, h202]
                refine ⟨fun hlt => ?_, fun hge => ?_⟩
                · have hk8 : k < 8 := by omega
                  have hzl : (List.zipWith (· + ·) h r.l).length = h.length := by simp [hh, R8.l_len]
                  have hL := upto_len (zs := List.zipWith (· + ·) h r.l) (h := h) k hzl (by omega)
                  refine ⟨by omega, by omega, _, vws_get (l := r.l) hk8, by omega, by omega, ldW (o := k) Tryz.underlying119 b1 (by omega) ?_⟩
                  rw [upto_get hzl (by omega)]
                  simp only [↓VD, VP, VT, isAggD, reduceCtorEq, Int.reduceEq, Int.reduceNe, Int.reduceLT, Int.reduceLE, implies_true, Nat.reduceEqDiff, reduceIte, ite_true, ite_false, eq_self, Nat.reduceLT, Nat.reduceLeDiff, Nat.reduceAdd, Nat.reduceMul, Nat.reduceSub, intOf, h2, h4, h203, h202, vw]
                  simp (disch := decide) only [bshlN, bshrN, badd, bxor, band, bor, bnot, Int.reduceToNat]
                  rw [← zip_get h r.l k (by omega) (by rw [R8.l_len]; omega)]
                  refine ⟨by omega, by omega, stV c119 b1 rfl rfl (by rw [vws_len]; omega) (fun w10 hP => ?_)⟩
                  rw [vws_set, upto_set hzl (by omega)] at hP
                  simp only [↓VD, VP, VT, isAggD, reduceCtorEq, Int.reduceEq, Int.reduceNe, Int.reduceLT, Int.reduceLE, implies_true, Nat.reduceEqDiff, reduceIte, ite_true, ite_false, eq_self, Nat.reduceLT, Nat.reduceLeDiff, Nat.reduceAdd, Nat.reduceMul, Nat.reduceSub, intOf, h2, h4, h203, h202]
                  refine ⟨⟨hE.trans (hP.below (by omega)), k + 1, by omega, ?_, hP.keep b3 (by omega), hP.blk⟩, ?_⟩
                  · rw [w64 (by omega) (by omega)]; rfl
                  · rw [w64 (by omega) (by omega)]; omega
                · have hk8 : k = 8 := by omega
                  subst hk8
                  have e1 : (List.zipWith (· + ·) h r.l).take 8 ++ h.drop 8 = compW h blk := by
                    rw [List.take_of_length_le (by simp [hh, R8.l_len]), List.drop_eq_nil_of_le (by omega), List.append_nil, compW, ← hr]
                  rw [e1] at b1
                  have hcl := compW_len h blk hh
                  refine ldA Tryz.underlying120 rfl b1 (by rw [c120, vws_len, hcl]) ?_
                  simp only [↓VD, VP, VT, isAggD, reduceCtorEq, Int.reduceEq, Int.reduceNe, Int.reduceLT, Int.reduceLE, implies_true, Nat.reduceEqDiff, reduceIte, ite_true, ite_false, eq_self, Nat.reduceLT, Nat.reduceLeDiff, Nat.reduceAdd, Nat.reduceMul, Nat.reduceSub, intOf, h2, h4, h203, h202]
                  refine stAll b3 rfl (by rw [c120]; omega) (by rw [c120, vws_len, hcl]) (by rw [c120]; rfl) (vws_one _) (fun w10 hP => ?_)
                  simp only [↓VD, VP, VT, isAggD, reduceCtorEq, Int.reduceEq, Int.reduceNe, Int.reduceLT, Int.reduceLE, implies_true, Nat.reduceEqDiff, reduceIte, ite_true, ite_false, eq_self, Nat.reduceLT, Nat.reduceLeDiff, Nat.reduceAdd, Nat.reduceMul, Nat.reduceSub, intOf, h2, h4, h203, h202]
                  refine ldA Tryz.underlying120 rfl hP.blk (by rw [c120, vws_len, hcl]) ?_
                  exact ⟨rfl, hE.trans (hP.below (by omega))⟩

end Go.Proofs.YticfalbgplifoaaGreatDoor
