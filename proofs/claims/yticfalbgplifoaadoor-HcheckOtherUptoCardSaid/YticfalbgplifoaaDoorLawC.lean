/-
  HcheckOther: the walk. Conditions: as stated in each theorem.
-/
import Derived.Test.YticfalbgplifoaaDoorPlC
namespace Go.Proofs.YticfalbgplifoaaDoor
set_option maxRecDepth 100000
open Go Go.RowKit
set_option linter.unusedVariables false
set_option linter.unusedSimpArgs false

theorem Other_ok (n : Int) (root key : List UInt8) (hrt : root.length = 32) (kv sv pv : Value) (ss : List SR) (ps : List PR) (other : List UInt8) (ov : Value) (w : World) (hW : WordsAt w 1) (hA : AskAt w key ss ps kv sv pv) (hov : SlB w ov other) (hol : other.length ≤ 2000000) :
    CallK Tryd.prog 6 [.agg ([.int .i64 n, kv, sv, pv] ++ vbs root).toArray, ov].toArray w fun v w' => v = .bool true ∧ Ext w w' := by
  obtain ⟨ak, ck, rfl⟩ := slv_of hA.kat
  obtain ⟨ao, co, rfl⟩ := slv_of hov
  obtain ⟨sa, cs, hse⟩ := slv_of hA.steps.1
  obtain ⟨pa, cp, hpe⟩ := slv_of hA.pairs.1
  subst hse hpe
  refine enterT Tryd.func6 rfl Tryd.ntmps6 Tryd.results6 rfl (by decide) ?_
  simp only [↓VD, VP, VT, isAggD, reduceCtorEq, Int.reduceEq, Int.reduceNe, Int.reduceLT, Int.reduceLE, implies_true, Nat.reduceEqDiff, reduceIte, ite_true, ite_false, eq_self, Nat.reduceLT, Nat.reduceLeDiff, Nat.reduceAdd, Nat.reduceMul, Nat.reduceSub, intOf]
  intro w1 hN1
  refine (awake_ok w1 (hW.ext hN1.ext)).mono ?_
  rintro _ w2 ⟨rfl, hE2⟩
  have hB2 := hN1.blk.ext hE2
  have hE2' : Ext w w2 := hN1.ext.trans' hE2
  have lB2 := hB2.lt
  simp only [↓VD, VP, VT, isAggD, reduceCtorEq, Int.reduceEq, Int.reduceNe, Int.reduceLT, Int.reduceLE, implies_true, Nat.reduceEqDiff, reduceIte, ite_true, ite_false, eq_self, Nat.reduceLT, Nat.reduceLeDiff, Nat.reduceAdd, Nat.reduceMul, Nat.reduceSub, intOf]
  refine ldAt (pre := []) (post := [.slice ak key.length ck, .slice sa ss.length cs, .slice pa ps.length cp] ++ vbs root) Tryd.underlying3 rfl hB2 rfl ?_
  simp only [↓VD, VP, VT, isAggD, reduceCtorEq, Int.reduceEq, Int.reduceNe, Int.reduceLT, Int.reduceLE, implies_true, Nat.reduceEqDiff, reduceIte, ite_true, ite_false, eq_self, Nat.reduceLT, Nat.reduceLeDiff, Nat.reduceAdd, Nat.reduceMul, Nat.reduceSub, intOf]
  refine ldAt (pre := [.int .i64 n]) (post := [.slice sa ss.length cs, .slice pa ps.length cp] ++ vbs root) Tryd.underlying22 rfl hB2 rfl ?_
  simp only [↓VD, VP, VT, isAggD, reduceCtorEq, Int.reduceEq, Int.reduceNe, Int.reduceLT, Int.reduceLE, implies_true, Nat.reduceEqDiff, reduceIte, ite_true, ite_false, eq_self, Nat.reduceLT, Nat.reduceLeDiff, Nat.reduceAdd, Nat.reduceMul, Nat.reduceSub, intOf]
  refine ldSeg (pre := [.int .i64 n, .slice ak key.length ck]) (mid := [.slice sa ss.length cs, .slice pa ps.length cp]) (post := vbs root) Tryd.underlying26 rfl hB2 rfl (by rw [c26]; rfl) ?_
  simp only [↓VD, VP, VT, isAggD, reduceCtorEq, Int.reduceEq, Int.reduceNe, Int.reduceLT, Int.reduceLE, implies_true, Nat.reduceEqDiff, reduceIte, ite_true, ite_false, eq_self, Nat.reduceLT, Nat.reduceLeDiff, Nat.reduceAdd, Nat.reduceMul, Nat.reduceSub, intOf]
  refine ((hA.ext hE2').rootOf n (hW.ext hE2')).mono ?_
  rintro _ w3 ⟨e, v, rfl, hR, hO3, hE3⟩
  have lod := outD_len e n key ss ps
  have z2 := hE2.size
  have z3 := hE3.size
  simp only [↓VD, VP, VT, isAggD, reduceCtorEq, Int.reduceEq, Int.reduceNe, Int.reduceLT, Int.reduceLE, implies_true, Nat.reduceEqDiff, reduceIte, ite_true, ite_false, eq_self, Nat.reduceLT, Nat.reduceLeDiff, Nat.reduceAdd, Nat.reduceMul, Nat.reduceSub, intOf]
  intro w4 hN4
  have z4 := hN4.size
  refine stAll hN4.blk rfl (by rw [c28]; decide) (by rw [c28, vbs_len, lod]) (by rw [c28]; simp) (vbs_one _) (fun w5 hP5 => ?_)
  have hE35 : Ext w3 w5 := hN4.ext.trans (hP5.below (Nat.le_refl _))
  have hB5 := hP5.blk
  have hB25 := hB2.ext (hE3.trans' hE35)
  have hE5 := hE2'.trans' (hE3.trans' hE35)
  generalize w3.heap.size = b5 at *
  by_cases he : e = 0
  · subst he
    have f1 : ((((0 : Nat) : Int)) = 0) = True := eq_true rfl
    simp only [↓VD, VP, VT, isAggD, reduceCtorEq, Int.reduceEq, Int.reduceNe, Int.reduceLT, Int.reduceLE, implies_true, Nat.reduceEqDiff, reduceIte, ite_true, ite_false, eq_self, Nat.reduceLT, Nat.reduceLeDiff, Nat.reduceAdd, Nat.reduceMul, Nat.reduceSub, intOf, f1]
    refine ldAt (pre := [.int .i64 n, .slice ak key.length ck, .slice sa ss.length cs]) (post := vbs root) Tryd.underlying24 rfl hB25 rfl ?_
    by_cases hp0 : ps.length = 0
    · have f2 : ((ps.length : Int) = 0) = True := eq_true (by omega)
      simp only [↓VD, VP, VT, isAggD, reduceCtorEq, Int.reduceEq, Int.reduceNe, Int.reduceLT, Int.reduceLE, implies_true, Nat.reduceEqDiff, reduceIte, ite_true, ite_false, eq_self, Nat.reduceLT, Nat.reduceLeDiff, Nat.reduceAdd, Nat.reduceMul, Nat.reduceSub, intOf, f1, f2]
      exact hE5
    have f2 : ((ps.length : Int) = 0) = False := eq_false (by omega)
    by_cases ho1 : 64 < other.length
    · have f3 : (64 < (other.length : Int)) = True := eq_true (by omega)
      simp only [↓VD, VP, VT, isAggD, reduceCtorEq, Int.reduceEq, Int.reduceNe, Int.reduceLT, Int.reduceLE, implies_true, Nat.reduceEqDiff, reduceIte, ite_true, ite_false, eq_self, Nat.reduceLT, Nat.reduceLeDiff, Nat.reduceAdd, Nat.reduceMul, Nat.reduceSub, intOf, f1, f2, f3]
      exact hE5
    have f3 : (64 < (other.length : Int)) = False := eq_false (by omega)
    simp only [↓VD, VP, VT, isAggD, reduceCtorEq, Int.reduceEq, Int.reduceNe, Int.reduceLT, Int.reduceLE, implies_true, Nat.reduceEqDiff, reduceIte, ite_true, ite_false, eq_self, Nat.reduceLT, Nat.reduceLeDiff, Nat.reduceAdd, Nat.reduceMul, Nat.reduceSub, intOf, f1, f2, f3]
    obtain ⟨hn, _⟩ := hR.ok
    have hse : sumE n = 0 := by simp [sumE, hn]
    have hAo : AskAt w other ss ps (.slice ao other.length co) (.slice sa ss.length cs) (.slice pa ps.length cp) := ⟨hov, by omega, hA.steps, hA.pairs, hA.pk, hA.pn⟩
    refine ldAt (pre := []) (post := [.slice ak key.length ck, .slice sa ss.length cs, .slice pa ps.length cp] ++ vbs root) Tryd.underlying3 rfl hB25 rfl ?_
    simp only [↓VD, VP, VT, isAggD, reduceCtorEq, Int.reduceEq, Int.reduceNe, Int.reduceLT, Int.reduceLE, implies_true, Nat.reduceEqDiff, reduceIte, ite_true, ite_false, eq_self, Nat.reduceLT, Nat.reduceLeDiff, Nat.reduceAdd, Nat.reduceMul, Nat.reduceSub, intOf]
    refine ldAt (pre := [.int .i64 n]) (post := [.slice sa ss.length cs, .slice pa ps.length cp] ++ vbs root) Tryd.underlying22 rfl hB25 rfl ?_
    simp only [↓VD, VP, VT, isAggD, reduceCtorEq, Int.reduceEq, Int.reduceNe, Int.reduceLT, Int.reduceLE, implies_true, Nat.reduceEqDiff, reduceIte, ite_true, ite_false, eq_self, Nat.reduceLT, Nat.reduceLeDiff, Nat.reduceAdd, Nat.reduceMul, Nat.reduceSub, intOf]
    refine (Key_ok n key _ w5 (hW.ext hE5) (hA.kat.ext hE5) hA.keyl).mono ?_
    rintro _ w6 ⟨rfl, hE6⟩
    rw [hse]
    have lk1 := sumR_len n (2 :: key)
    have lk2 := sumR_len n (2 :: other)
    have z6 := hE6.size
    simp only [↓VD, VP, VT, isAggD, reduceCtorEq, Int.reduceEq, Int.reduceNe, Int.reduceLT, Int.reduceLE, implies_true, Nat.reduceEqDiff, reduceIte, ite_true, ite_false, eq_self, Nat.reduceLT, Nat.reduceLeDiff, Nat.reduceAdd, Nat.reduceMul, Nat.reduceSub, intOf]
    intro w7 hN7
    have z7 := hN7.size
    refine stAll hN7.blk rfl (by rw [c28]; decide) (by rw [c28, vbs_len, lk1]) (by rw [c28]; simp) (vbs_one _) (fun w8 hP8 => ?_)
    have hE58 : Ext w5 w8 := hE6.trans' (hN7.ext.trans (hP8.below (Nat.le_refl _)))
    have hB9 := hP8.blk
    have z8 := hP8.size
    have hE8 := hE5.trans' hE58
    have hB28 := hB25.ext hE58
    have hB58 := hB5.ext hE58
    generalize w6.heap.size = b9 at *
    simp only [↓VD, VP, VT, isAggD, reduceCtorEq, Int.reduceEq, Int.reduceNe, Int.reduceLT, Int.reduceLE, implies_true, Nat.reduceEqDiff, reduceIte, ite_true, ite_false, eq_self, Nat.reduceLT, Nat.reduceLeDiff, Nat.reduceAdd, Nat.reduceMul, Nat.reduceSub, intOf]
    refine ldAt (pre := []) (post := [.slice ak key.length ck, .slice sa ss.length cs, .slice pa ps.length cp] ++ vbs root) Tryd.underlying3 rfl hB28 rfl ?_
    simp only [↓VD, VP, VT, isAggD, reduceCtorEq, Int.reduceEq, Int.reduceNe, Int.reduceLT, Int.reduceLE, implies_true, Nat.reduceEqDiff, reduceIte, ite_true, ite_false, eq_self, Nat.reduceLT, Nat.reduceLeDiff, Nat.reduceAdd, Nat.reduceMul, Nat.reduceSub, intOf]
    refine (Key_ok n other _ w8 (hW.ext hE8) (hov.ext hE8) (by omega)).mono ?_
    rintro _ w9 ⟨rfl, hE9⟩
    rw [hse]
    have z9 := hE9.size
    simp only [↓VD, VP, VT, isAggD, reduceCtorEq, Int.reduceEq, Int.reduceNe, Int.reduceLT, Int.reduceLE, implies_true, Nat.reduceEqDiff, reduceIte, ite_true, ite_false, eq_self, Nat.reduceLT, Nat.reduceLeDiff, Nat.reduceAdd, Nat.reduceMul, Nat.reduceSub, intOf]
    intro w10 hN10
    have z10 := hN10.size
    refine stAll hN10.blk rfl (by rw [c28]; decide) (by rw [c28, vbs_len, lk2]) (by rw [c28]; simp) (vbs_one _) (fun w11 hP11 => ?_)
    have hE811 : Ext w8 w11 := hE9.trans' (hN10.ext.trans (hP11.below (Nat.le_refl _)))
    have hB11 := hP11.blk
    have z11 := hP11.size
    have hE11 := hE8.trans' hE811
    have hB211 := hB28.ext hE811
    have hB511 := hB58.ext hE811
    have hB911 := hB9.ext hE811
    generalize w9.heap.size = b11 at *
    simp only [↓VD, VP, VT, isAggD, reduceCtorEq, Int.reduceEq, Int.reduceNe, Int.reduceLT, Int.reduceLE, implies_true, Nat.reduceEqDiff, reduceIte, ite_true, ite_false, eq_self, Nat.reduceLT, Nat.reduceLeDiff, Nat.reduceAdd, Nat.reduceMul, Nat.reduceSub, intOf]
    refine ldAt (pre := []) (post := [.slice ak key.length ck, .slice sa ss.length cs, .slice pa ps.length cp] ++ vbs root) Tryd.underlying3 rfl hB211 rfl ?_
    simp only [↓VD, VP, VT, isAggD, reduceCtorEq, Int.reduceEq, Int.reduceNe, Int.reduceLT, Int.reduceLE, implies_true, Nat.reduceEqDiff, reduceIte, ite_true, ite_false, eq_self, Nat.reduceLT, Nat.reduceLeDiff, Nat.reduceAdd, Nat.reduceMul, Nat.reduceSub, intOf]
    refine ldA Tryd.underlying28 rfl hB911 (by rw [vbs_len, lk1, c28]) ?_
    simp only [↓VD, VP, VT, isAggD, reduceCtorEq, Int.reduceEq, Int.reduceNe, Int.reduceLT, Int.reduceLE, implies_true, Nat.reduceEqDiff, reduceIte, ite_true, ite_false, eq_self, Nat.reduceLT, Nat.reduceLeDiff, Nat.reduceAdd, Nat.reduceMul, Nat.reduceSub, intOf]
    refine ldA Tryd.underlying28 rfl hB11 (by rw [vbs_len, lk2, c28]) ?_
    simp only [↓VD, VP, VT, isAggD, reduceCtorEq, Int.reduceEq, Int.reduceNe, Int.reduceLT, Int.reduceLE, implies_true, Nat.reduceEqDiff, reduceIte, ite_true, ite_false, eq_self, Nat.reduceLT, Nat.reduceLeDiff, Nat.reduceAdd, Nat.reduceMul, Nat.reduceSub, intOf]
    refine (Common_ok n _ _ lk1 lk2 w11).mono ?_
    rintro _ w12 ⟨rfl, hE12⟩
    have hcom := comPP_sum hn (2 :: key) (2 :: other)
    rw [hcom]
    have hE12' := hE11.trans' hE12
    have hB212 := hB211.ext hE12
    have hB512 := hB511.ext hE12
    simp only [↓VD, VP, VT, isAggD, reduceCtorEq, Int.reduceEq, Int.reduceNe, Int.reduceLT, Int.reduceLE, implies_true, Nat.reduceEqDiff, reduceIte, ite_true, ite_false, eq_self, Nat.reduceLT, Nat.reduceLeDiff, Nat.reduceAdd, Nat.reduceMul, Nat.reduceSub, intOf]
    refine ldAt (pre := []) (post := [.slice ak key.length ck, .slice sa ss.length cs, .slice pa ps.length cp] ++ vbs root) Tryd.underlying3 rfl hB212 rfl ?_
    simp only [↓VD, VP, VT, isAggD, reduceCtorEq, Int.reduceEq, Int.reduceNe, Int.reduceLT, Int.reduceLE, implies_true, Nat.reduceEqDiff, reduceIte, ite_true, ite_false, eq_self, Nat.reduceLT, Nat.reduceLeDiff, Nat.reduceAdd, Nat.reduceMul, Nat.reduceSub, intOf]
    refine ldSeg (pre := [.int .i64 n, .slice ak key.length ck]) (mid := [.slice sa ss.length cs, .slice pa ps.length cp]) (post := vbs root) Tryd.underlying26 rfl hB212 rfl (by rw [c26]; rfl) ?_
    simp only [↓VD, VP, VT, isAggD, reduceCtorEq, Int.reduceEq, Int.reduceNe, Int.reduceLT, Int.reduceLE, implies_true, Nat.reduceEqDiff, reduceIte, ite_true, ite_false, eq_self, Nat.reduceLT, Nat.reduceLeDiff, Nat.reduceAdd, Nat.reduceMul, Nat.reduceSub, intOf]
    refine ((hAo.ext hE12').rootOf n (hW.ext hE12')).mono ?_
    rintro _ w13 ⟨e', u, rfl, hR', hO13, hE13⟩
    have lod' := outD_len e' n other ss ps
    have z12 := hE12.size
    have z13 := hE13.size
    simp only [↓VD, VP, VT, isAggD, reduceCtorEq, Int.reduceEq, Int.reduceNe, Int.reduceLT, Int.reduceLE, implies_true, Nat.reduceEqDiff, reduceIte, ite_true, ite_false, eq_self, Nat.reduceLT, Nat.reduceLeDiff, Nat.reduceAdd, Nat.reduceMul, Nat.reduceSub, intOf]
    intro w14 hN14
    have z14 := hN14.size
    refine stAll hN14.blk rfl (by rw [c28]; decide) (by rw [c28, vbs_len, lod']) (by rw [c28]; simp) (vbs_one _) (fun w15 hP15 => ?_)
    have hE1315 : Ext w13 w15 := hN14.ext.trans (hP15.below (Nat.le_refl _))
    have hB15 := hP15.blk
    have hE1215 := hE13.trans' hE1315
    have hE15 := hE12'.trans' hE1215
    have hB215 := hB212.ext hE1215
    have hB515 := hB512.ext hE1215
    have hu := (SlC.of_own hO13).ext hE1315
    obtain ⟨au, cu, hue⟩ := slv_of hu
    subst hue
    clear hO13
    generalize w13.heap.size = b15 at *
    simp only [↓VD, VP, VT, isAggD, reduceCtorEq, Int.reduceEq, Int.reduceNe, Int.reduceLT, Int.reduceLE, implies_true, Nat.reduceEqDiff, reduceIte, ite_true, ite_false, eq_self, Nat.reduceLT, Nat.reduceLeDiff, Nat.reduceAdd, Nat.reduceMul, Nat.reduceSub, intOf]
    refine ldAt (pre := [.int .i64 n, .slice ak key.length ck]) (post := [.slice pa ps.length cp] ++ vbs root) Tryd.underlying23 rfl hB215 rfl ?_
    by_cases hcl : comP (sumR n (2 :: key)) (sumR n (2 :: other)) (2 * n.toNat) < ss.length
    · have f4 : (((comP (sumR n (2 :: key)) (sumR n (2 :: other)) (2 * n.toNat) : Nat) : Int) < (ss.length : Int)) = True := eq_true (by omega)
      simp only [↓VD, VP, VT, isAggD, reduceCtorEq, Int.reduceEq, Int.reduceNe, Int.reduceLT, Int.reduceLE, implies_true, Nat.reduceEqDiff, reduceIte, ite_true, ite_false, eq_self, Nat.reduceLT, Nat.reduceLeDiff, Nat.reduceAdd, Nat.reduceMul, Nat.reduceSub, intOf, f4]
      exact hE15
    have f4 : (((comP (sumR n (2 :: key)) (sumR n (2 :: other)) (2 * n.toNat) : Nat) : Int) < (ss.length : Int)) = False := eq_false (by omega)
    simp only [↓VD, VP, VT, isAggD, reduceCtorEq, Int.reduceEq, Int.reduceNe, Int.reduceLT, Int.reduceLE, implies_true, Nat.reduceEqDiff, reduceIte, ite_true, ite_false, eq_self, Nat.reduceLT, Nat.reduceLeDiff, Nat.reduceAdd, Nat.reduceMul, Nat.reduceSub, intOf, f4]
    obtain ⟨hR0, hDD⟩ := other_plain hR (by omega) (show (ss.length : Int) ≤ (comPP n (keyD n key) (keyD n other)).1 by unfold keyD; rw [hcom]; simp only; omega)
    obtain rfl : e' = 0 := hR'.uniq hR0
    rw [hDD] at hB15
    have hps := hA.pairs
    obtain ⟨⟨_, _, hcells, hnc, hcm, hc⟩, hpp⟩ := hps
    cases hcells
    refine ldAt (pre := [.int .i64 n, .slice ak key.length ck, .slice sa ss.length cs]) (post := vbs root) Tryd.underlying24 rfl hB215 rfl ?_
    simp only [↓VD, VP, VT, isAggD, reduceCtorEq, Int.reduceEq, Int.reduceNe, Int.reduceLT, Int.reduceLE, implies_true, Nat.reduceEqDiff, reduceIte, ite_true, ite_false, eq_self, Nat.reduceLT, Nat.reduceLeDiff, Nat.reduceAdd, Nat.reduceMul, Nat.reduceSub, intOf]
    refine loopT (fun s' W' => Ext w15 W' ∧ ∃ i : Nat, i ≤ ps.length ∧ s' 1 = .slice ao other.length co ∧ s' 5 = .pointer (some ⟨b5, 0, none⟩) ∧ s' 15 = .pointer (some ⟨b15, 0, none⟩) ∧ s' 16 = .slice au (outV 0 other ps).length cu ∧ s' 17 = .bool (outT 0 other ps) ∧ s' 18 = .int .i64 0 ∧ s' 101 = .slice pa ps.length cp ∧ s' 102 = .int .i64 ps.length ∧ s' 103 = .int .i64 i ∧
        ∀ p ∈ ps.take i, ¬ p.k = other) (fun s' _ => ps.length - (intOf (s' 103)).toNat) ?_ ?_
    · simp only [↓VD, VP, VT, isAggD, reduceCtorEq, Int.reduceEq, Int.reduceNe, Int.reduceLT, Int.reduceLE, implies_true, Nat.reduceEqDiff, reduceIte, ite_true, ite_false, eq_self, Nat.reduceLT, Nat.reduceLeDiff, Nat.reduceAdd, Nat.reduceMul, Nat.reduceSub, intOf]
      exact ⟨Ext.rfl' _, 0, by omega, rfl, by simp⟩
    · rintro s16 w16 ⟨hE16, i, hi, g1, g5, g15, g16, g17, g18, g101, g102, g103, hz⟩
      replace hB15 := hB15.ext hE16
      replace hB515 := hB515.ext hE16
      replace hu := hu.ext hE16
      have hE16' := hE15.trans' hE16
      simp only [↓VD, VP, VT, isAggD, reduceCtorEq, Int.reduceEq, Int.reduceNe, Int.reduceLT, Int.reduceLE, implies_true, Nat.reduceEqDiff, reduceIte, ite_true, ite_false, eq_self, Nat.reduceLT, Nat.reduceLeDiff, Nat.reduceAdd, Nat.reduceMul, Nat.reduceSub, intOf, g1, g5, g15, g16, g17, g18, g101, g102, g103]
      refine ⟨fun hlt => ?_, fun hge => ?_⟩
      · have hlt' : i < ps.length := by omega
        rcases hc with hc | ⟨b, o, rfl, hc⟩
        · exfalso
          cases ps with
          | nil => simp at hlt'
          | cons d ds => simp [PR.cells] at hc
        obtain ⟨x, hx⟩ : ∃ x, ps[i]? = some x := ⟨_, List.getElem?_eq_getElem hlt'⟩
        obtain ⟨hxk, hxv⟩ := hpp x (List.mem_of_getElem? hx)
        have hc1 : ∀ j u, (ps.flatMap PR.cells)[j]? = some u → w16.cell? ⟨b, o + j, none⟩ = some u := fun j u hj => by rw [hE16'.cell (block_lt_of_cell (hc j u hj))]; exact hc j u hj
        simp only [↓VD, VP, VT, isAggD, reduceCtorEq, Int.reduceEq, Int.reduceNe, Int.reduceLT, Int.reduceLE, implies_true, Nat.reduceEqDiff, reduceIte, ite_true, ite_false, eq_self, Nat.reduceLT, Nat.reduceLeDiff, Nat.reduceAdd, Nat.reduceMul, Nat.reduceSub, intOf]
        refine ⟨by omega, by omega, ldE (f := PR.cells) c55 Tryd.underlying55 rfl (fun d h => rfl) hc1 hx ?_⟩
        simp only [↓VD, VP, VT, isAggD, reduceCtorEq, Int.reduceEq, Int.reduceNe, Int.reduceLT, Int.reduceLE, implies_true, Nat.reduceEqDiff, reduceIte, ite_true, ite_false, eq_self, Nat.reduceLT, Nat.reduceLeDiff, Nat.reduceAdd, Nat.reduceMul, Nat.reduceSub, intOf]
        intro w17 hN17
        obtain ⟨kk, ckk, hkk⟩ := slv_of hxk
        obtain ⟨vv, cvv, hvv⟩ := slv_of hxv
        refine stAll hN17.blk (vs := x.cells) rfl (by rw [c55]; decide) (by rw [c55]; rfl) (by rw [c55]; rfl) (by rw [PR.cells, hkk, hvv]; simp [oneCellV]) (fun w18 hP18 => ?_)
        have hE18 : Ext w16 w18 := hN17.ext.trans (hP18.below (Nat.le_refl _))
        have hE18' := hE16'.trans' hE18
        obtain ⟨xkv, xvv, xk, xv⟩ := x
        simp only at hkk hvv hxk hxv
        subst hkk hvv
        have hB20 : Blk w18 w16.heap.size 55 [.slice kk xk.length ckk, .slice vv xv.length cvv] := hP18.blk
        generalize w16.heap.size = b20 at *
        simp only [↓VD, VP, VT, isAggD, reduceCtorEq, Int.reduceEq, Int.reduceNe, Int.reduceLT, Int.reduceLE, implies_true, Nat.reduceEqDiff, reduceIte, ite_true, ite_false, eq_self, Nat.reduceLT, Nat.reduceLeDiff, Nat.reduceAdd, Nat.reduceMul, Nat.reduceSub, intOf, g1, g5, g15, g16, g17, g18, g101, g102, g103]
        refine ldAt (pre := []) (post := [.slice vv xv.length cvv]) Tryd.underlying22 rfl hB20 rfl ?_
        simp only [↓VD, VP, VT, isAggD, reduceCtorEq, Int.reduceEq, Int.reduceNe, Int.reduceLT, Int.reduceLE, implies_true, Nat.reduceEqDiff, reduceIte, ite_true, ite_false, eq_self, Nat.reduceLT, Nat.reduceLeDiff, Nat.reduceAdd, Nat.reduceMul, Nat.reduceSub, intOf, g1, g5, g15, g16, g17, g18, g101, g102, g103]
        refine (Same_ok xk other _ _ w18 (hxk.ext hE18') (hov.ext hE18')).mono ?_
        rintro _ w19 ⟨rfl, hE19⟩
        have hE19' := hE18'.trans' hE19
        by_cases hkey : xk = other
        · have f5 : (xk = other) = True := eq_true hkey
          have hval : valOf ps other = some xv := by
            have h1 : ps = ps.take i ++ (⟨.slice kk xk.length ckk, .slice vv xv.length cvv, xk, xv⟩ :: ps.drop (i + 1)) := by
              obtain ⟨hil, he⟩ := List.getElem?_eq_some_iff.1 hx
              rw [← he]
              simp
            unfold valOf
            rw [h1, List.find?_append, List.find?_eq_none.2 (fun p hp' => by simpa using hz p hp')]
            simp [hkey]
          have hT : outT 0 other ps = true := by simp [outT, hval]
          have hV : outV 0 other ps = xv := by simp [outV, hval]
          rw [hV] at hu g16
          rw [hT] at g17
          simp only [↓VD, VP, VT, isAggD, reduceCtorEq, Int.reduceEq, Int.reduceNe, Int.reduceLT, Int.reduceLE, implies_true, Nat.reduceEqDiff, reduceIte, ite_true, ite_false, eq_self, Nat.reduceLT, Nat.reduceLeDiff, Nat.reduceAdd, Nat.reduceMul, Nat.reduceSub, intOf, g1, g5, g15, g16, g17, g18, g101, g102, g103, f5]
          refine ldA Tryd.underlying28 rfl ((hB15.ext hE18).ext hE19) (by rw [vbs_len, lod, c28]) ?_
          simp only [↓VD, VP, VT, isAggD, reduceCtorEq, Int.reduceEq, Int.reduceNe, Int.reduceLT, Int.reduceLE, implies_true, Nat.reduceEqDiff, reduceIte, ite_true, ite_false, eq_self, Nat.reduceLT, Nat.reduceLeDiff, Nat.reduceAdd, Nat.reduceMul, Nat.reduceSub, intOf, g1, g5, g15, g16, g17, g18, g101, g102, g103]
          refine ldA Tryd.underlying28 rfl ((hB515.ext hE18).ext hE19) (by rw [vbs_len, lod, c28]) ?_
          simp only [↓VD, VP, VT, isAggD, reduceCtorEq, Int.reduceEq, Int.reduceNe, Int.reduceLT, Int.reduceLE, implies_true, Nat.reduceEqDiff, reduceIte, ite_true, ite_false, eq_self, Nat.reduceLT, Nat.reduceLeDiff, Nat.reduceAdd, Nat.reduceMul, Nat.reduceSub, intOf, g1, g5, g15, g16, g17, g18, g101, g102, g103]
          refine eqd_lit _ _ _ _ _ _ Tryd.underlying5 c5 lod lod ?_
          simp only [↓VD, VP, VT, isAggD, reduceCtorEq, Int.reduceEq, Int.reduceNe, Int.reduceLT, Int.reduceLE, implies_true, Nat.reduceEqDiff, reduceIte, ite_true, ite_false, eq_self, Nat.reduceLT, Nat.reduceLeDiff, Nat.reduceAdd, Nat.reduceMul, Nat.reduceSub, intOf, g1, g5, g15, g16, g17, g18, g101, g102, g103]
          refine ldAt (pre := [.slice kk xk.length ckk]) (post := []) Tryd.underlying22 rfl (hB20.ext hE19) rfl ?_
          simp only [↓VD, VP, VT, isAggD, reduceCtorEq, Int.reduceEq, Int.reduceNe, Int.reduceLT, Int.reduceLE, implies_true, Nat.reduceEqDiff, reduceIte, ite_true, ite_false, eq_self, Nat.reduceLT, Nat.reduceLeDiff, Nat.reduceAdd, Nat.reduceMul, Nat.reduceSub, intOf, g1, g5, g15, g16, g17, g18, g101, g102, g103]
          refine (Same_ok xv xv _ _ w19 ((hu.ext hE18).ext hE19) (hxv.ext hE19')).mono ?_
          rintro _ w20 ⟨rfl, hE20⟩
          simp only [↓VD, VP, VT, isAggD, reduceCtorEq, Int.reduceEq, Int.reduceNe, Int.reduceLT, Int.reduceLE, implies_true, Nat.reduceEqDiff, reduceIte, ite_true, ite_false, eq_self, Nat.reduceLT, Nat.reduceLeDiff, Nat.reduceAdd, Nat.reduceMul, Nat.reduceSub, intOf, g1, g5, g15, g16, g17, g18, g101, g102, g103]
          exact hE19'.trans' hE20
        · have f5 : (xk = other) = False := eq_false hkey
          simp only [↓VD, VP, VT, isAggD, reduceCtorEq, Int.reduceEq, Int.reduceNe, Int.reduceLT, Int.reduceLE, implies_true, Nat.reduceEqDiff, reduceIte, ite_true, ite_false, eq_self, Nat.reduceLT, Nat.reduceLeDiff, Nat.reduceAdd, Nat.reduceMul, Nat.reduceSub, intOf, g1, g5, g15, g16, g17, g18, g101, g102, g103, f5]
          refine ⟨⟨hE16.trans' (hE18.trans' hE19), i + 1, by omega, ?_, (take_all_succ (p := fun p => ¬ p.k = other) hx).2 ⟨hz, hkey⟩⟩, ?_⟩
          · rw [w64 (by omega) (by omega)]; rfl
          · rw [w64 (by omega) (by omega)]; omega
      · rw [List.take_of_length_le (by omega)] at hz
        have hval : valOf ps other = none := by
          unfold valOf
          rw [List.find?_eq_none.2 (fun p hp' => by simpa using hz p hp')]
          rfl
        have hT : outT 0 other ps = false := by simp [outT, hval]
        have hV : outV 0 other ps = [] := by simp [outV, hval]
        rw [hV] at hu g16
        rw [hT] at g17
        have f6 : (((([] : List UInt8).length : Nat) : Int) = 0) = True := eq_true rfl
        refine ldA Tryd.underlying28 rfl hB15 (by rw [vbs_len, lod, c28]) ?_
        simp only [↓VD, VP, VT, isAggD, reduceCtorEq, Int.reduceEq, Int.reduceNe, Int.reduceLT, Int.reduceLE, implies_true, Nat.reduceEqDiff, reduceIte, ite_true, ite_false, eq_self, Nat.reduceLT, Nat.reduceLeDiff, Nat.reduceAdd, Nat.reduceMul, Nat.reduceSub, intOf, g1, g5, g15, g16, g17, g18, g101, g102, g103]
        refine ldA Tryd.underlying28 rfl hB515 (by rw [vbs_len, lod, c28]) ?_
        simp only [↓VD, VP, VT, isAggD, reduceCtorEq, Int.reduceEq, Int.reduceNe, Int.reduceLT, Int.reduceLE, implies_true, Nat.reduceEqDiff, reduceIte, ite_true, ite_false, eq_self, Nat.reduceLT, Nat.reduceLeDiff, Nat.reduceAdd, Nat.reduceMul, Nat.reduceSub, intOf, g1, g5, g15, g16, g17, g18, g101, g102, g103]
        refine eqd_lit _ _ _ _ _ _ Tryd.underlying5 c5 lod lod ?_
        simp only [↓VD, VP, VT, isAggD, reduceCtorEq, Int.reduceEq, Int.reduceNe, Int.reduceLT, Int.reduceLE, implies_true, Nat.reduceEqDiff, reduceIte, ite_true, ite_false, eq_self, Nat.reduceLT, Nat.reduceLeDiff, Nat.reduceAdd, Nat.reduceMul, Nat.reduceSub, intOf, g1, g5, g15, g16, g17, g18, g101, g102, g103, f6]
        exact hE16'
  · have f1 : ((e : Int) = 0) = False := eq_false (by omega)
    simp only [↓VD, VP, VT, isAggD, reduceCtorEq, Int.reduceEq, Int.reduceNe, Int.reduceLT, Int.reduceLE, implies_true, Nat.reduceEqDiff, reduceIte, ite_true, ite_false, eq_self, Nat.reduceLT, Nat.reduceLeDiff, Nat.reduceAdd, Nat.reduceMul, Nat.reduceSub, intOf, f1]
    exact hE5

end Go.Proofs.YticfalbgplifoaaDoor
