/-
  The walks of the reference's hash (package notaryref02), second part: one block's compression. Conditions: as stated in each theorem.
-/
import Derived.Test.YticfalbgplifoaaGreatDoorRefA
namespace Go.Proofs.YticfalbgplifoaaGreatDoor
set_option maxRecDepth 100000
open Go Go.RowKit
set_option linter.unusedVariables false
set_option linter.unusedSimpArgs false

theorem getD_set (l : List W32) (p q : Nat) (v : W32) (hp : p < l.length) : (l.set p v).getD q 0 = if p = q then v else l.getD q 0 := by
  simp only [List.getD_eq_getElem?_getD, List.getElem?_set]
  split
  · rename_i h; subst h; simp [hp]
  · rfl
theorem rot_step (rl : List W32) (h8 : rl.length = 8) (i : Nat) (hi : i < 64) (r : R8) (hr : ∀ j, j < 8 → rl.getD ((64 - i + j) % 8) 0 = r.at j) (k w : W32) :
    ∀ j, j < 8 → ((rl.set ((64 - i + 3) % 8) (r.d + t1W r k w)).set ((64 - i + 7) % 8) (t1W r k w + t2W r)).getD ((64 - (i + 1) + j) % 8) 0 = (r.step k w).at j := by
  intro j hj
  rw [getD_set _ _ _ _ (by rw [List.length_set]; omega), getD_set _ _ _ _ (by omega)]
  match j, hj with
  | 0, _ => rw [if_pos (by omega)]; rfl
  | 1, _ => rw [if_neg (by omega), if_neg (by omega), show (64 - (i + 1) + 1) % 8 = (64 - i + 0) % 8 from by omega, hr 0 (by decide)]; rfl
  | 2, _ => rw [if_neg (by omega), if_neg (by omega), show (64 - (i + 1) + 2) % 8 = (64 - i + 1) % 8 from by omega, hr 1 (by decide)]; rfl
  | 3, _ => rw [if_neg (by omega), if_neg (by omega), show (64 - (i + 1) + 3) % 8 = (64 - i + 2) % 8 from by omega, hr 2 (by decide)]; rfl
  | 4, _ => rw [if_neg (by omega), if_pos (by omega)]; rfl
  | 5, _ => rw [if_neg (by omega), if_neg (by omega), show (64 - (i + 1) + 5) % 8 = (64 - i + 4) % 8 from by omega, hr 4 (by decide)]; rfl
  | 6, _ => rw [if_neg (by omega), if_neg (by omega), show (64 - (i + 1) + 6) % 8 = (64 - i + 5) % 8 from by omega, hr 5 (by decide)]; rfl
  | 7, _ => rw [if_neg (by omega), if_neg (by omega), show (64 - (i + 1) + 7) % 8 = (64 - i + 6) % 8 from by omega, hr 6 (by decide)]; rfl

theorem Rcompress_ok (h : List W32) (l : List UInt8) (hh : h.length = 8) (hl : l.length = 64) (v : Value) (w : World) (hv : SlC w v l.length (vbs l)) :
    CallK Tryz.prog 90 [.agg (vws h).toArray, v].toArray w fun v w' => v = .agg (vws (compW h l)).toArray ∧ Ext w w' := by
  refine enterT Tryz.func90 rfl Tryz.ntmps90 Tryz.results90 rfl (by decide) ?_
  simp only [↓VD, VP, VT, isAggD, reduceCtorEq, Int.reduceEq, Int.reduceNe, Int.reduceLT, Int.reduceLE, implies_true, Nat.reduceEqDiff, reduceIte, ite_true, ite_false, eq_self, Nat.reduceLT, Nat.reduceLeDiff, Nat.reduceAdd, Nat.reduceMul, Nat.reduceSub, intOf]
  intro w1 hN1 w2 hN2
  have s1 := hN1.size
  have s2 := hN2.size
  rw [vws_rep] at hN2
  refine (spread_ok l hl v w2 ((hv.ext hN1.ext).ext hN2.ext)).mono ?_
  rintro _ w3 ⟨rfl, hE3⟩
  have s3 := hE3.size
  have hsl := schedW_len l 64
  simp only [↓VD, VP, VT, isAggD, reduceCtorEq, Int.reduceEq, Int.reduceNe, Int.reduceLT, Int.reduceLE, implies_true, Nat.reduceEqDiff, reduceIte, ite_true, ite_false, eq_self, Nat.reduceLT, Nat.reduceLeDiff, Nat.reduceAdd, Nat.reduceMul, Nat.reduceSub, intOf]
  intro w4 hN4
  have s4 := hN4.size
  refine stAll hN4.blk rfl (by rw [c136]; omega) (by rw [c136, vws_len, hsl]) (by rw [c136]; rfl) (vws_one _) (fun w5 hP5 => ?_)
  have s5 := hP5.size
  simp only [↓VD, VP, VT, isAggD, reduceCtorEq, Int.reduceEq, Int.reduceNe, Int.reduceLT, Int.reduceLE, implies_true, Nat.reduceEqDiff, reduceIte, ite_true, ite_false, eq_self, Nat.reduceLT, Nat.reduceLeDiff, Nat.reduceAdd, Nat.reduceMul, Nat.reduceSub, intOf]
  refine (words_ok w5).mono ?_
  rintro _ w6 ⟨rfl, hE6⟩
  have s6 := hE6.size
  simp only [↓VD, VP, VT, isAggD, reduceCtorEq, Int.reduceEq, Int.reduceNe, Int.reduceLT, Int.reduceLE, implies_true, Nat.reduceEqDiff, reduceIte, ite_true, ite_false, eq_self, Nat.reduceLT, Nat.reduceLeDiff, Nat.reduceAdd, Nat.reduceMul, Nat.reduceSub, intOf]
  intro w7 hN7
  have s7 := hN7.size
  refine stAll hN7.blk rfl (by rw [c136]; omega) (by rw [c136, vws_len, KW_len]) (by rw [c136]; rfl) (vws_one _) (fun w8 hP8 => ?_)
  have s8 := hP8.size
  have b2 : Blk w8 w.heap.size 120 (vws h) := hP8.keep (((hP5.keep (((hN1.blk.ext hN2.ext).ext hE3).ext hN4.ext) (by omega)).ext hE6).ext hN7.ext) (by omega)
  have b4 : Blk w8 w1.heap.size 120 (vws (List.replicate 8 0)) := hP8.keep (((hP5.keep ((hN2.blk.ext hE3).ext hN4.ext) (by omega)).ext hE6).ext hN7.ext) (by omega)
  have b5 : Blk w8 w3.heap.size 136 (vws (schedW l 64)) := hP8.keep ((hP5.blk.ext hE6).ext hN7.ext) (by omega)
  have hE5 : Ext w w5 := (((hN1.ext.trans' hN2.ext).trans' hE3).trans' hN4.ext).trans (hP5.below (by omega))
  have hE8 : Ext w w8 := ((hE5.trans' hE6).trans' hN7.ext).trans (hP8.below (by omega))
  simp only [↓VD, VP, VT, isAggD, reduceCtorEq, Int.reduceEq, Int.reduceNe, Int.reduceLT, Int.reduceLE, implies_true, Nat.reduceEqDiff, reduceIte, ite_true, ite_false, eq_self, Nat.reduceLT, Nat.reduceLeDiff, Nat.reduceAdd, Nat.reduceMul, Nat.reduceSub, intOf]
  refine ldA Tryz.underlying120 rfl b2 (by rw [c120, vws_len, hh]) ?_
  simp only [↓VD, VP, VT, isAggD, reduceCtorEq, Int.reduceEq, Int.reduceNe, Int.reduceLT, Int.reduceLE, implies_true, Nat.reduceEqDiff, reduceIte, ite_true, ite_false, eq_self, Nat.reduceLT, Nat.reduceLeDiff, Nat.reduceAdd, Nat.reduceMul, Nat.reduceSub, intOf]
  intro w9 hN9
  have s9 := hN9.size
  refine stAll hN9.blk rfl (by rw [c120]; omega) (by rw [c120, vws_len, hh]) (by rw [c120]; rfl) (vws_one _) (fun w10 hP10 => ?_)
  have hE10 : Ext w w10 := (hE8.trans' hN9.ext).trans (hP10.below (by omega))
  have c2 := hP10.keep (b2.ext hN9.ext) (by omega)
  have c4 := hP10.keep (b4.ext hN9.ext) (by omega)
  have c5 := hP10.keep (b5.ext hN9.ext) (by omega)
  have c6 := hP10.keep (hP8.blk.ext hN9.ext) (by omega)
  simp only [↓VD, VP, VT, isAggD, reduceCtorEq, Int.reduceEq, Int.reduceNe, Int.reduceLT, Int.reduceLE, implies_true, Nat.reduceEqDiff, reduceIte, ite_true, ite_false, eq_self, Nat.reduceLT, Nat.reduceLeDiff, Nat.reduceAdd, Nat.reduceMul, Nat.reduceSub, intOf]
  refine loopT (fun s' w' => Ext w w' ∧ ∃ i : Nat, i ≤ 64 ∧ s' 2 = .pointer (some ⟨w.heap.size, 0, none⟩) ∧ s' 4 = .pointer (some ⟨w1.heap.size, 0, none⟩) ∧ s' 5 = .pointer (some ⟨w3.heap.size, 0, none⟩) ∧ s' 6 = .pointer (some ⟨w6.heap.size, 0, none⟩) ∧ s' 7 = .pointer (some ⟨w8.heap.size, 0, none⟩) ∧
      s' 8 = .int .i64 i ∧ Blk w' w.heap.size 120 (vws h) ∧ Blk w' w1.heap.size 120 (vws (List.replicate 8 0)) ∧ Blk w' w3.heap.size 136 (vws (schedW l 64)) ∧ Blk w' w6.heap.size 136 (vws KW) ∧
      ∃ rl r, Blk w' w8.heap.size 120 (vws rl) ∧ rl.length = 8 ∧ r = roundsW (R8.of h) (schedW l 64) i ∧ ∀ j, j < 8 → rl.getD ((64 - i + j) % 8) 0 = r.at j)
      (fun s' _ => 64 - (intOf (s' 8)).toNat) ?_ ?_
  · simp only [↓VD, VP, VT, isAggD, reduceCtorEq, Int.reduceEq, Int.reduceNe, Int.reduceLT, Int.reduceLE, implies_true, Nat.reduceEqDiff, reduceIte, ite_true, ite_false, eq_self, Nat.reduceLT, Nat.reduceLeDiff, Nat.reduceAdd, Nat.reduceMul, Nat.reduceSub, intOf]
    refine ⟨hE10, 0, by omega, rfl, c2, c4, c5, c6, h, R8.of h, hP10.blk, hh, rfl, fun j hj => ?_⟩
    rw [R8.at_of h j hj, show (64 - 0 + j) % 8 = j from by omega]
  · rintro s11 w11 ⟨hE, i, hi, h2, h4, h5, h6, h7, h8, b2, b4, b5, b6, rl, r, b7, hrl, hr, hat⟩
    simp only [↓VD, VP, VT, isAggD, reduceCtorEq, Int.reduceEq, Int.reduceNe, Int.reduceLT, Int.reduceLE, implies_true, Nat.reduceEqDiff, reduceIte, ite_true, ite_false, eq_self, Nat.reduceLT, Nat.reduceLeDiff, Nat.reduceAdd, Nat.reduceMul, Nat.reduceSub, intOf, h2, h4, h5, h6, h7, h8]
    refine ⟨fun hlt => ?_, fun hge => ?_⟩
    · have hi64 : i < 64 := by omega
      have hat0 := hat 0 (by decide)
      rw [Nat.add_zero] at hat0
      have eo : IntKind.i64.wrap (64 - (i : Int)) = ((64 - i : Nat) : Int) := by rw [w64 (by omega) (by omega)]; omega
      have e0 : ((64 - i : Nat) : Int).tmod 8 = (((64 - i) % 8 : Nat) : Int) := tmodN _ 8
      refine drawT mixed (by decide +kernel) ?_
      simp only [↓VD, VP, VT, isAggD, reduceCtorEq, Int.reduceEq, Int.reduceNe, Int.reduceLT, Int.reduceLE, implies_true, Nat.reduceEqDiff, reduceIte, ite_true, ite_false, eq_self, Nat.reduceLT, Nat.reduceLeDiff, Nat.reduceAdd, Nat.reduceMul, Nat.reduceSub, intOf, h2, h4, h5, h6, h7, h8, eo, e0]
      refine ⟨by omega, by omega, ldW (o := (64 - i) % 8) Tryz.underlying119 b7 (by omega) ?_⟩
      rw [hat0]
      simp only [↓VD, VP, VT, isAggD, reduceCtorEq, Int.reduceEq, Int.reduceNe, Int.reduceLT, Int.reduceLE, implies_true, Nat.reduceEqDiff, reduceIte, ite_true, ite_false, eq_self, Nat.reduceLT, Nat.reduceLeDiff, Nat.reduceAdd, Nat.reduceMul, Nat.reduceSub, intOf, h2, h4, h5, h6, h7, h8, eo, (show IntKind.i64.wrap (((64 - i : Nat) : Int) + 1) = ((64 - i + 1 : Nat) : Int) from by rw [w64 (by omega) (by omega)] <;> omega), show ((64 - i + 1 : Nat) : Int).tmod 8 = (((64 - i + 1) % 8 : Nat) : Int) from tmodN _ 8]
      refine ⟨by omega, by omega, ldW (o := (64 - i + 1) % 8) Tryz.underlying119 b7 (by omega) ?_⟩
      rw [hat 1 (by decide)]
      simp only [↓VD, VP, VT, isAggD, reduceCtorEq, Int.reduceEq, Int.reduceNe, Int.reduceLT, Int.reduceLE, implies_true, Nat.reduceEqDiff, reduceIte, ite_true, ite_false, eq_self, Nat.reduceLT, Nat.reduceLeDiff, Nat.reduceAdd, Nat.reduceMul, Nat.reduceSub, intOf, h2, h4, h5, h6, h7, h8, eo, (show IntKind.i64.wrap (((64 - i : Nat) : Int) + 2) = ((64 - i + 2 : Nat) : Int) from by rw [w64 (by omega) (by omega)] <;> omega), show ((64 - i + 2 : Nat) : Int).tmod 8 = (((64 - i + 2) % 8 : Nat) : Int) from tmodN _ 8]
      refine ⟨by omega, by omega, ldW (o := (64 - i + 2) % 8) Tryz.underlying119 b7 (by omega) ?_⟩
      rw [hat 2 (by decide)]
      simp only [↓VD, VP, VT, isAggD, reduceCtorEq, Int.reduceEq, Int.reduceNe, Int.reduceLT, Int.reduceLE, implies_true, Nat.reduceEqDiff, reduceIte, ite_true, ite_false, eq_self, Nat.reduceLT, Nat.reduceLeDiff, Nat.reduceAdd, Nat.reduceMul, Nat.reduceSub, intOf, h2, h4, h5, h6, h7, h8, eo]
      intro w12 hE12
      replace b7 := b7.ext hE12
      refine drawT mixed (by decide +kernel) ?_
      simp only [↓VD, VP, VT, isAggD, reduceCtorEq, Int.reduceEq, Int.reduceNe, Int.reduceLT, Int.reduceLE, implies_true, Nat.reduceEqDiff, reduceIte, ite_true, ite_false, eq_self, Nat.reduceLT, Nat.reduceLeDiff, Nat.reduceAdd, Nat.reduceMul, Nat.reduceSub, intOf, h2, h4, h5, h6, h7, h8, eo, (show IntKind.i64.wrap (((64 - i : Nat) : Int) + 4) = ((64 - i + 4 : Nat) : Int) from by rw [w64 (by omega) (by omega)] <;> omega), show ((64 - i + 4 : Nat) : Int).tmod 8 = (((64 - i + 4) % 8 : Nat) : Int) from tmodN _ 8]
      refine ⟨by omega, by omega, ldW (o := (64 - i + 4) % 8) Tryz.underlying119 b7 (by omega) ?_⟩
      rw [hat 4 (by decide)]
      simp only [↓VD, VP, VT, isAggD, reduceCtorEq, Int.reduceEq, Int.reduceNe, Int.reduceLT, Int.reduceLE, implies_true, Nat.reduceEqDiff, reduceIte, ite_true, ite_false, eq_self, Nat.reduceLT, Nat.reduceLeDiff, Nat.reduceAdd, Nat.reduceMul, Nat.reduceSub, intOf, h2, h4, h5, h6, h7, h8, eo, (show IntKind.i64.wrap (((64 - i : Nat) : Int) + 5) = ((64 - i + 5 : Nat) : Int) from by rw [w64 (by omega) (by omega)] <;> omega), show ((64 - i + 5 : Nat) : Int).tmod 8 = (((64 - i + 5) % 8 : Nat) : Int) from tmodN _ 8]
      refine ⟨by omega, by omega, ldW (o := (64 - i + 5) % 8) Tryz.underlying119 b7 (by omega) ?_⟩
      rw [hat 5 (by decide)]
      simp only [↓VD, VP, VT, isAggD, reduceCtorEq, Int.reduceEq, Int.reduceNe, Int.reduceLT, Int.reduceLE, implies_true, Nat.reduceEqDiff, reduceIte, ite_true, ite_false, eq_self, Nat.reduceLT, Nat.reduceLeDiff, Nat.reduceAdd, Nat.reduceMul, Nat.reduceSub, intOf, h2, h4, h5, h6, h7, h8, eo, (show IntKind.i64.wrap (((64 - i : Nat) : Int) + 6) = ((64 - i + 6 : Nat) : Int) from by rw [w64 (by omega) (by omega)] <;> omega), show ((64 - i + 6 : Nat) : Int).tmod 8 = (((64 - i + 6) % 8 : Nat) : Int) from tmodN _ 8]
      refine ⟨by omega, by omega, ldW (o := (64 - i + 6) % 8) Tryz.underlying119 b7 (by omega) ?_⟩
      rw [hat 6 (by decide)]
      simp only [↓VD, VP, VT, isAggD, reduceCtorEq, Int.reduceEq, Int.reduceNe, Int.reduceLT, Int.reduceLE, implies_true, Nat.reduceEqDiff, reduceIte, ite_true, ite_false, eq_self, Nat.reduceLT, Nat.reduceLeDiff, Nat.reduceAdd, Nat.reduceMul, Nat.reduceSub, intOf, h2, h4, h5, h6, h7, h8, eo]
      intro w13 hE13
      replace b7 := b7.ext hE13
      replace b5 := (b5.ext hE12).ext hE13
      replace b6 := (b6.ext hE12).ext hE13
      refine drawT mixed (by decide +kernel) ?_
      simp only [↓VD, VP, VT, isAggD, reduceCtorEq, Int.reduceEq, Int.reduceNe, Int.reduceLT, Int.reduceLE, implies_true, Nat.reduceEqDiff, reduceIte, ite_true, ite_false, eq_self, Nat.reduceLT, Nat.reduceLeDiff, Nat.reduceAdd, Nat.reduceMul, Nat.reduceSub, intOf, h2, h4, h5, h6, h7, h8, eo, (show IntKind.i64.wrap (((64 - i : Nat) : Int) + 7) = ((64 - i + 7 : Nat) : Int) from by rw [w64 (by omega) (by omega)] <;> omega), show ((64 - i + 7 : Nat) : Int).tmod 8 = (((64 - i + 7) % 8 : Nat) : Int) from tmodN _ 8]
      refine ⟨by omega, by omega, ldW (o := (64 - i + 7) % 8) Tryz.underlying119 b7 (by omega) ?_⟩
      rw [hat 7 (by decide)]
      simp only [↓VD, VP, VT, isAggD, reduceCtorEq, Int.reduceEq, Int.reduceNe, Int.reduceLT, Int.reduceLE, implies_true, Nat.reduceEqDiff, reduceIte, ite_true, ite_false, eq_self, Nat.reduceLT, Nat.reduceLeDiff, Nat.reduceAdd, Nat.reduceMul, Nat.reduceSub, intOf, h2, h4, h5, h6, h7, h8]
      refine qcall (vw (rotr r.e 6)) (fun w' _ => turn_ok _ 6 (by decide) (by decide) w') ?_
      simp only [↓VD, VP, VT, isAggD, reduceCtorEq, Int.reduceEq, Int.reduceNe, Int.reduceLT, Int.reduceLE, implies_true, Nat.reduceEqDiff, reduceIte, ite_true, ite_false, eq_self, Nat.reduceLT, Nat.reduceLeDiff, Nat.reduceAdd, Nat.reduceMul, Nat.reduceSub, intOf, h2, h4, h5, h6, h7, h8, vw]
      refine qcall (vw (rotr r.e 11)) (fun w' _ => turn_ok _ 11 (by decide) (by decide) w') ?_
      simp only [↓VD, VP, VT, isAggD, reduceCtorEq, Int.reduceEq, Int.reduceNe, Int.reduceLT, Int.reduceLE, implies_true, Nat.reduceEqDiff, reduceIte, ite_true, ite_false, eq_self, Nat.reduceLT, Nat.reduceLeDiff, Nat.reduceAdd, Nat.reduceMul, Nat.reduceSub, intOf, h2, h4, h5, h6, h7, h8, vw]
      refine qcall (vw (rotr r.e 25)) (fun w' _ => turn_ok _ 25 (by decide) (by decide) w') ?_
      simp only [↓VD, VP, VT, isAggD, reduceCtorEq, Int.reduceEq, Int.reduceNe, Int.reduceLT, Int.reduceLE, implies_true, Nat.reduceEqDiff, reduceIte, ite_true, ite_false, eq_self, Nat.reduceLT, Nat.reduceLeDiff, Nat.reduceAdd, Nat.reduceMul, Nat.reduceSub, intOf, h2, h4, h5, h6, h7, h8, vw]
      refine ⟨by omega, by omega, ldW (o := i) Tryz.underlying119 b6 (by rw [KW_len]; exact hi64) ?_⟩
      simp only [↓VD, VP, VT, isAggD, reduceCtorEq, Int.reduceEq, Int.reduceNe, Int.reduceLT, Int.reduceLE, implies_true, Nat.reduceEqDiff, reduceIte, ite_true, ite_false, eq_self, Nat.reduceLT, Nat.reduceLeDiff, Nat.reduceAdd, Nat.reduceMul, Nat.reduceSub, intOf, h2, h4, h5, h6, h7, h8]
      refine ⟨by omega, by omega, ldW (o := i) Tryz.underlying119 b5 (by omega) ?_⟩
      simp only [↓VD, VP, VT, isAggD, reduceCtorEq, Int.reduceEq, Int.reduceNe, Int.reduceLT, Int.reduceLE, implies_true, Nat.reduceEqDiff, reduceIte, ite_true, ite_false, eq_self, Nat.reduceLT, Nat.reduceLeDiff, Nat.reduceAdd, Nat.reduceMul, Nat.reduceSub, intOf, h2, h4, h5, h6, h7, h8]
      intro w14 hE14
      replace b7 := b7.ext hE14
      replace b5 := b5.ext hE14
      replace b6 := b6.ext hE14
      replace b2 := ((b2.ext hE12).ext hE13).ext hE14
      replace b4 := ((b4.ext hE12).ext hE13).ext hE14
      replace hE := ((hE.trans' hE12).trans' hE13).trans' hE14
      simp only [↓VD, VP, VT, isAggD, reduceCtorEq, Int.reduceEq, Int.reduceNe, Int.reduceLT, Int.reduceLE, implies_true, Nat.reduceEqDiff, reduceIte, ite_true, ite_false, eq_self, Nat.reduceLT, Nat.reduceLeDiff, Nat.reduceAdd, Nat.reduceMul, Nat.reduceSub, intOf, h2, h4, h5, h6, h7, h8, eo, (show IntKind.i64.wrap (((64 - i : Nat) : Int) + 3) = ((64 - i + 3 : Nat) : Int) from by rw [w64 (by omega) (by omega)] <;> omega), show ((64 - i + 3 : Nat) : Int).tmod 8 = (((64 - i + 3) % 8 : Nat) : Int) from tmodN _ 8]
      refine ⟨by omega, by omega, ldW (o := (64 - i + 3) % 8) Tryz.underlying119 b7 (by omega) ?_⟩
      rw [hat 3 (by decide)]
      simp only [↓VD, VP, VT, isAggD, reduceCtorEq, Int.reduceEq, Int.reduceNe, Int.reduceLT, Int.reduceLE, implies_true, Nat.reduceEqDiff, reduceIte, ite_true, ite_false, eq_self, Nat.reduceLT, Nat.reduceLeDiff, Nat.reduceAdd, Nat.reduceMul, Nat.reduceSub, intOf, h2, h4, h5, h6, h7, h8, eo, (show IntKind.i64.wrap (((64 - i : Nat) : Int) + 3) = ((64 - i + 3 : Nat) : Int) from by rw [w64 (by omega) (by omega)] <;> omega), show ((64 - i + 3 : Nat) : Int).tmod 8 = (((64 - i + 3) % 8 : Nat) : Int) from tmodN _ 8]
      simp (disch := decide) only [bshlN, bshrN, badd, bxor, band, bor, bnot, Int.reduceToNat]
      rw [chW_ref]
      refine ⟨by omega, by omega, stV c119 b7 rfl rfl (by rw [vws_len]; omega) (fun w15 hP15 => ?_)⟩
      rw [vws_set] at hP15
      simp only [↓VD, VP, VT, isAggD, reduceCtorEq, Int.reduceEq, Int.reduceNe, Int.reduceLT, Int.reduceLE, implies_true, Nat.reduceEqDiff, reduceIte, ite_true, ite_false, eq_self, Nat.reduceLT, Nat.reduceLeDiff, Nat.reduceAdd, Nat.reduceMul, Nat.reduceSub, intOf, h2, h4, h5, h6, h7, h8, eo, (show IntKind.i64.wrap (((64 - i : Nat) : Int) + 7) = ((64 - i + 7 : Nat) : Int) from by rw [w64 (by omega) (by omega)] <;> omega), show ((64 - i + 7 : Nat) : Int).tmod 8 = (((64 - i + 7) % 8 : Nat) : Int) from tmodN _ 8]
      refine (turn_ok r.a 2 (by decide) (by decide) _).mono ?_
      rintro _ w16 ⟨rfl, hE16⟩
      simp only [↓VD, VP, VT, isAggD, reduceCtorEq, Int.reduceEq, Int.reduceNe, Int.reduceLT, Int.reduceLE, implies_true, Nat.reduceEqDiff, reduceIte, ite_true, ite_false, eq_self, Nat.reduceLT, Nat.reduceLeDiff, Nat.reduceAdd, Nat.reduceMul, Nat.reduceSub, intOf, h2, h4, h5, h6, h7, h8, vw, eo, (show IntKind.i64.wrap (((64 - i : Nat) : Int) + 7) = ((64 - i + 7 : Nat) : Int) from by rw [w64 (by omega) (by omega)] <;> omega), show ((64 - i + 7 : Nat) : Int).tmod 8 = (((64 - i + 7) % 8 : Nat) : Int) from tmodN _ 8]
      refine (turn_ok r.a 13 (by decide) (by decide) _).mono ?_
      rintro _ w17 ⟨rfl, hE17⟩
      simp only [↓VD, VP, VT, isAggD, reduceCtorEq, Int.reduceEq, Int.reduceNe, Int.reduceLT, Int.reduceLE, implies_true, Nat.reduceEqDiff, reduceIte, ite_true, ite_false, eq_self, Nat.reduceLT, Nat.reduceLeDiff, Nat.reduceAdd, Nat.reduceMul, Nat.reduceSub, intOf, h2, h4, h5, h6, h7, h8, vw, eo, (show IntKind.i64.wrap (((64 - i : Nat) : Int) + 7) = ((64 - i + 7 : Nat) : Int) from by rw [w64 (by omega) (by omega)] <;> omega), show ((64 - i + 7 : Nat) : Int).tmod 8 = (((64 - i + 7) % 8 : Nat) : Int) from tmodN _ 8]
      refine (turn_ok r.a 22 (by decide) (by decide) _).mono ?_
      rintro _ w18 ⟨rfl, hE18⟩
      simp only [↓VD, VP, VT, isAggD, reduceCtorEq, Int.reduceEq, Int.reduceNe, Int.reduceLT, Int.reduceLE, implies_true, Nat.reduceEqDiff, reduceIte, ite_true, ite_false, eq_self, Nat.reduceLT, Nat.reduceLeDiff, Nat.reduceAdd, Nat.reduceMul, Nat.reduceSub, intOf, h2, h4, h5, h6, h7, h8, vw, eo, (show IntKind.i64.wrap (((64 - i : Nat) : Int) + 7) = ((64 - i + 7 : Nat) : Int) from by rw [w64 (by omega) (by omega)] <;> omega), show ((64 - i + 7 : Nat) : Int).tmod 8 = (((64 - i + 7) % 8 : Nat) : Int) from tmodN _ 8]
      simp (disch := decide) only [bshlN, bshrN, badd, bxor, band, bor, bnot, Int.reduceToNat]
      have et : r.at 7 + (rotr r.e 6 ^^^ rotr r.e 11 ^^^ rotr r.e 25) + chW (r.at 4) (r.at 5) (r.at 6) + KW.getD i 0 + (schedW l 64).getD i 0 = t1W r (KW.getD i 0) ((schedW l 64).getD i 0) := rfl
      have et2 : t1W r (KW.getD i 0) ((schedW l 64).getD i 0) + (rotr r.a 2 ^^^ rotr r.a 13 ^^^ rotr r.a 22) + mjW (r.at 0) (r.at 1) (r.at 2) = t1W r (KW.getD i 0) ((schedW l 64).getD i 0) + t2W r := by
        rw [BitVec.add_assoc]; rfl
      rw [chW_ref, mjW_ref, et, et2]
      rw [et] at hP15
      have b7' := ((hP15.blk.ext hE16).ext hE17).ext hE18
      refine ⟨by omega, by omega, stV c119 b7' rfl rfl (by rw [vws_len, List.length_set]; omega) (fun w19 hP19 => ?_)⟩
      rw [vws_set] at hP19
      have hE15 : Ext w w15 := hE.trans (hP15.below (by omega))
      have hE' : Ext w w18 := ((hE15.trans' hE16).trans' hE17).trans' hE18
      have keep : ∀ {c T : Nat} {m : List Value}, Blk w14 c T m → c ≠ w8.heap.size → Blk w19 c T m := fun hb hc => hP19.keep ((((hP15.keep hb hc).ext hE16).ext hE17).ext hE18) hc
      have hstep : roundsW (R8.of h) (schedW l 64) (i + 1) = r.step (KW.getD i 0) ((schedW l 64).getD i 0) := by rw [roundsW, ← hr]
      simp only [↓VD, VP, VT, isAggD, reduceCtorEq, Int.reduceEq, Int.reduceNe, Int.reduceLT, Int.reduceLE, implies_true, Nat.reduceEqDiff, reduceIte, ite_true, ite_false, eq_self, Nat.reduceLT, Nat.reduceLeDiff, Nat.reduceAdd, Nat.reduceMul, Nat.reduceSub, intOf, h2, h4, h5, h6, h7, h8]
      refine ⟨⟨hE'.trans (hP19.below (by omega)), i + 1, by omega, ?_, keep b2 (by omega), keep b4 (by omega), keep b5 (by omega), keep b6 (by omega), _, _, hP19.blk, by simp [hrl], hstep.symm, ?_⟩, ?_⟩
      · rw [w64 (by omega) (by omega)]; rfl
      · exact rot_step rl hrl i hi64 r hat _ _
      · rw [w64 (by omega) (by omega)]; omega
    · have hi64 : i = 64 := by omega
      subst hi64
      have hrll : rl = r.l := by
        apply List.ext_getElem?
        intro j
        by_cases hj : j < 8
        · have := hat j hj
          rw [show (64 - 64 + j) % 8 = j from by omega, List.getD_eq_getElem?_getD, List.getElem?_eq_getElem (by omega)] at this
          rw [r.l_get j hj, List.getElem?_eq_getElem (by omega), ← this]; rfl
        · rw [List.getElem?_eq_none (by omega), List.getElem?_eq_none (by rw [R8.l_len]; omega)]
      subst hrll
      clear h5 h6 h8 hge b5 b6 hat
      refine loopT (fun s' w' => Ext w w' ∧ ∃ k : Nat, k ≤ 8 ∧ s' 2 = .pointer (some ⟨w.heap.size, 0, none⟩) ∧ s' 4 = .pointer (some ⟨w1.heap.size, 0, none⟩) ∧ s' 7 = .pointer (some ⟨w8.heap.size, 0, none⟩) ∧
        s' 19 = .int .i64 k ∧ Blk w' w1.heap.size 120 (vws (List.replicate 8 0)) ∧ Blk w' w8.heap.size 120 (vws r.l) ∧
        Blk w' w.heap.size 120 (vws ((List.zipWith (· + ·) h r.l).take k ++ h.drop k)))
        (fun s' _ => 8 - (intOf (s' 19)).toNat) ?_ ?_
      · simp only [↓VD, VP, VT, isAggD, reduceCtorEq, Int.reduceEq, Int.reduceNe, Int.reduceLT, Int.reduceLE, implies_true, Nat.reduceEqDiff, reduceIte, ite_true, ite_false, eq_self, Nat.reduceLT, Nat.reduceLeDiff, Nat.reduceAdd, Nat.reduceMul, Nat.reduceSub, intOf, h2, h4, h7]
        exact ⟨hE, 0, by omega, rfl, b4, b7, b2⟩
      · clear h2 h4 h7 b2 b4 b7 hE
        rintro s12 w12 ⟨hE, k, hk, h2, h4, h7, h19, b4, b7, b2⟩
        simp only [↓VD, VP, VT, isAggD, reduceCtorEq, Int.reduceEq, Int.reduceNe, Int.reduceLT, Int.reduceLE, implies_true, Nat.reduceEqDiff, reduceIte, ite_true, ite_false, eq_self, Nat.reduceLT, Nat.reduceLeDiff, Nat.reduceAdd, Nat.reduceMul, Nat.reduceSub, intOf, h2, h4, h7, h19]
        refine ⟨fun hlt => ?_, fun hge => ?_⟩
        · have hk8 : k < 8 := by omega
          have hzl : (List.zipWith (· + ·) h r.l).length = h.length := by simp [hh, R8.l_len]
          have hL := upto_len (zs := List.zipWith (· + ·) h r.l) (h := h) k hzl (by omega)
          refine drawH (fun x => Blk x w.heap.size 120 (vws ((List.zipWith (· + ·) h r.l).take k ++ h.drop k)) ∧ Blk x w8.heap.size 120 (vws r.l)) [0, 1, 2, 3, 4, 5, 6, 7, 8] mixed (by decide +kernel) (fun w13 hE13 hx => ⟨⟨b2.ext hE13, b7.ext hE13⟩, ?_⟩)
          simp only [↓VD, VP, VT, isAggD, reduceCtorEq, Int.reduceEq, Int.reduceNe, Int.reduceLT, Int.reduceLE, implies_true, Nat.reduceEqDiff, reduceIte, ite_true, ite_false, eq_self, Nat.reduceLT, Nat.reduceLeDiff, Nat.reduceAdd, Nat.reduceMul, Nat.reduceSub, intOf, h2, h4, h7, h19]
          refine ⟨by omega, by omega, loadS_of _ (fun x hx => ldW (o := k) Tryz.underlying119 hx.1 (by omega) rfl) ?_⟩
          rw [upto_get hzl (by omega)]
          simp only [↓VD, VP, VT, isAggD, reduceCtorEq, Int.reduceEq, Int.reduceNe, Int.reduceLT, Int.reduceLE, implies_true, Nat.reduceEqDiff, reduceIte, ite_true, ite_false, eq_self, Nat.reduceLT, Nat.reduceLeDiff, Nat.reduceAdd, Nat.reduceMul, Nat.reduceSub, intOf, h2, h4, h7, h19]
          refine ⟨by omega, by omega, loadS_of _ (fun x hx => ldW (o := k) Tryz.underlying119 hx.2 (by rw [R8.l_len]; omega) rfl) ?_⟩
          simp only [↓VD, VP, VT, isAggD, reduceCtorEq, Int.reduceEq, Int.reduceNe, Int.reduceLT, Int.reduceLE, implies_true, Nat.reduceEqDiff, reduceIte, ite_true, ite_false, eq_self, Nat.reduceLT, Nat.reduceLeDiff, Nat.reduceAdd, Nat.reduceMul, Nat.reduceSub, intOf, h2, h4, h7, h19]
          simp (disch := decide) only [bshlN, bshrN, badd, bxor, band, bor, bnot, Int.reduceToNat]
          rw [← zip_get h r.l k (by omega) (by rw [R8.l_len]; omega)]
          refine ⟨by omega, by omega, stV c119 (b2.ext hE13) rfl rfl (by rw [vws_len]; omega) (fun w14 hP => ?_)⟩
          rw [vws_set, upto_set hzl (by omega)] at hP
          refine toldL (by unfold LastP; decide +kernel) ?_
          simp only [↓VD, VP, VT, isAggD, reduceCtorEq, Int.reduceEq, Int.reduceNe, Int.reduceLT, Int.reduceLE, implies_true, Nat.reduceEqDiff, reduceIte, ite_true, ite_false, eq_self, Nat.reduceLT, Nat.reduceLeDiff, Nat.reduceAdd, Nat.reduceMul, Nat.reduceSub, intOf, h2, h4, h7, h19]
          refine ⟨⟨(hE.trans' hE13).trans (hP.below (by omega)), k + 1, by omega, ?_, hP.keep (b4.ext hE13) (by omega), hP.keep (b7.ext hE13) (by omega), hP.blk⟩, ?_⟩
          · rw [w64 (by omega) (by omega)]; rfl
          · rw [w64 (by omega) (by omega)]; omega
        · have hk8 : k = 8 := by omega
          subst hk8
          have e1 : (List.zipWith (· + ·) h r.l).take 8 ++ h.drop 8 = compW h l := by
            rw [List.take_of_length_le (by simp [hh, R8.l_len]), List.drop_eq_nil_of_le (by omega), List.append_nil, compW, ← hr]
          rw [e1] at b2
          have hcl := compW_len h l hh
          refine ldA Tryz.underlying120 rfl b2 (by rw [c120, vws_len, hcl]) ?_
          simp only [↓VD, VP, VT, isAggD, reduceCtorEq, Int.reduceEq, Int.reduceNe, Int.reduceLT, Int.reduceLE, implies_true, Nat.reduceEqDiff, reduceIte, ite_true, ite_false, eq_self, Nat.reduceLT, Nat.reduceLeDiff, Nat.reduceAdd, Nat.reduceMul, Nat.reduceSub, intOf, h2, h4, h7, h19]
          refine stAll b4 rfl (by rw [c120]; omega) (by rw [c120, vws_len, hcl]) (by rw [c120]; rfl) (vws_one _) (fun w10 hP => ?_)
          simp only [↓VD, VP, VT, isAggD, reduceCtorEq, Int.reduceEq, Int.reduceNe, Int.reduceLT, Int.reduceLE, implies_true, Nat.reduceEqDiff, reduceIte, ite_true, ite_false, eq_self, Nat.reduceLT, Nat.reduceLeDiff, Nat.reduceAdd, Nat.reduceMul, Nat.reduceSub, intOf, h2, h4, h7, h19]
          refine ldA Tryz.underlying120 rfl hP.blk (by rw [c120, vws_len, hcl]) ?_
          exact ⟨rfl, hE.trans (hP.below (by omega))⟩

end Go.Proofs.YticfalbgplifoaaGreatDoor
