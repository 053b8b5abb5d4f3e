/-
  HcheckBinds: the walk. Conditions: as stated in each theorem.
-/
import Derived.Test.YticfalbgplifoaaDoorInq
import Derived.Test.YticfalbgplifoaaDoorRowU
namespace Go.Proofs.YticfalbgplifoaaDoor
set_option maxRecDepth 100000
open Go Go.RowKit
set_option linter.unusedVariables false
set_option linter.unusedSimpArgs false

/-- Where two paths of one root part, two unlike inputs have one digest. -/
theorem part_clash {n : Int} {key : List UInt8} {ss tt : List SR} {ps qs : List PR} (h32 : ∀ s ∈ ss, ∀ d ∈ s.ks, d.length = 32) (g32 : ∀ s ∈ tt, ∀ d ∈ s.ks, d.length = 32) (hbm : ∀ s ∈ ss, s.bm < 65536) (gbm : ∀ s ∈ tt, s.bm < 65536) (hR : RootE n key ss ps 0) (gR : RootE n key tt qs 0)
    (h0 : outD 0 n key ss ps = outD 0 n key tt qs) (hne : ¬ ∀ j, j < inLen ss ps → j < inLen tt qs → inAt n (keyD n key) ss ps j = inAt n (keyD n key) tt qs j) :
    ∃ i, i < inLen ss ps ∧ i < inLen tt qs ∧ inAt n (keyD n key) ss ps i ≠ inAt n (keyD n key) tt qs i ∧ (∀ j, j < i → inAt n (keyD n key) ss ps j = inAt n (keyD n key) tt qs j) ∧ sumR n (inAt n (keyD n key) ss ps i) = sumR n (inAt n (keyD n key) tt qs i) := by
  have hex : ∃ i, i < min (inLen ss ps) (inLen tt qs) ∧ inAt n (keyD n key) ss ps i ≠ inAt n (keyD n key) tt qs i := by
    refine Classical.byContradiction fun hno => hne fun j h1 h2 => Classical.byContradiction fun h3 => hno ⟨j, by omega, h3⟩
  obtain ⟨i, hi, h1, h2⟩ := first_unlike _ _ _ hex
  exact ⟨i, by omega, by omega, h1, h2, clash_at h32 g32 hbm gbm hR gR h0 (by omega) (by omega) h2⟩

theorem clash_inputs (n : Int) (key : List UInt8) (kv sv pv tv qv : Value) (ss tt : List SR) (ps qs : List PR) (av bv : Value) (la lb : List BR) (w : World) (hW : WordsAt w 1) (hA : AskAt w key ss ps kv sv pv) (hB : AskAt w key tt qs kv tv qv) (hR : RootE n key ss ps 0) (gR : RootE n key tt qs 0)
    (h0 : outD 0 n key ss ps = outD 0 n key tt qs) (hne : ¬ ∀ j, j < inLen ss ps → j < inLen tt qs → inAt n (keyD n key) ss ps j = inAt n (keyD n key) tt qs j)
    (ha : LLAt w av la) (hb : LLAt w bv lb) (hla : la.length = inLen ss ps) (hlb : lb.length = inLen tt qs) (hai : ∀ (i : Nat) (p : BR), la[i]? = some p → p.b = inAt n (keyD n key) ss ps i) (hbi : ∀ (i : Nat) (p : BR), lb[i]? = some p → p.b = inAt n (keyD n key) tt qs i) :
    CallK Tryd.prog 12 [.int .i64 n, av, bv].toArray w fun v w' => v = .bool true ∧ Ext w w' := by
  obtain ⟨i, h1, h2, h3, h4, h5⟩ := part_clash (fun s h => (hA.steps.2 s h).2.1) (fun s h => (hB.steps.2 s h).2.1) (fun s h => (hA.steps.2 s h).1) (fun s h => (hB.steps.2 s h).1) hR gR h0 hne
  obtain ⟨x, hx⟩ : ∃ x, la[i]? = some x := ⟨_, List.getElem?_eq_getElem (by omega)⟩
  obtain ⟨y, hy⟩ : ∃ y, lb[i]? = some y := ⟨_, List.getElem?_eq_getElem (by omega)⟩
  refine clash_ok n hR.ok.1 av bv la lb i x y hx hy (by rw [hai i x hx, hbi i y hy]; exact h3) (by rw [hai i x hx, hbi i y hy]; exact h5) (fun j p q hj hp hq => by rw [hai j p hp, hbi j q hq]; exact h4 j hj) w hW ha hb

theorem Binds_ok (n : Int) (key : List UInt8) (kv sv pv tv qv : Value) (ss tt : List SR) (ps qs : List PR) (w : World) (hW : WordsAt w 1) (hA : AskAt w key ss ps kv sv pv) (hB : AskAt w key tt qs kv tv qv) :
    CallK Tryd.prog 4 [.int .i64 n, kv, .agg [sv, pv].toArray, .agg [tv, qv].toArray].toArray w fun v w' => v = .bool true ∧ Ext w w' := by
  obtain ⟨ak, ck, rfl⟩ := slv_of hA.kat
  obtain ⟨sa, cs, hse⟩ := slv_of hA.steps.1
  obtain ⟨pa, cp, hpe⟩ := slv_of hA.pairs.1
  obtain ⟨ta, ct, hte⟩ := slv_of hB.steps.1
  obtain ⟨qa, cq, hqe⟩ := slv_of hB.pairs.1
  subst hse hpe hte hqe
  refine enterT Tryd.func4 rfl Tryd.ntmps4 Tryd.results4 rfl (by decide) ?_
  simp only [↓VD, VP, VT, isAggD, reduceCtorEq, Int.reduceEq, Int.reduceNe, Int.reduceLT, Int.reduceLE, implies_true, Nat.reduceEqDiff, reduceIte, ite_true, ite_false, eq_self, Nat.reduceLT, Nat.reduceLeDiff, Nat.reduceAdd, Nat.reduceMul, Nat.reduceSub, intOf]
  intro w1 hN1 w2 hN2
  have z1 := hN1.size
  have z2 := hN2.size
  have hE2 : Ext w w2 := hN1.ext.trans' hN2.ext
  have hB6 := hN1.blk.ext hN2.ext
  have hB7 := hN2.blk
  generalize w1.heap.size = b7 at *
  refine (awake_ok w2 (hW.ext hE2)).mono ?_
  rintro _ w3 ⟨rfl, hE3⟩
  have hE3' := hE2.trans' hE3
  replace hB6 := hB6.ext hE3
  replace hB7 := hB7.ext hE3
  simp only [↓VD, VP, VT, isAggD, reduceCtorEq, Int.reduceEq, Int.reduceNe, Int.reduceLT, Int.reduceLE, implies_true, Nat.reduceEqDiff, reduceIte, ite_true, ite_false, eq_self, Nat.reduceLT, Nat.reduceLeDiff, Nat.reduceAdd, Nat.reduceMul, Nat.reduceSub, intOf]
  refine ldA Tryd.underlying26 rfl hB6 (by rw [c26]; rfl) ?_
  simp only [↓VD, VP, VT, isAggD, reduceCtorEq, Int.reduceEq, Int.reduceNe, Int.reduceLT, Int.reduceLE, implies_true, Nat.reduceEqDiff, reduceIte, ite_true, ite_false, eq_self, Nat.reduceLT, Nat.reduceLeDiff, Nat.reduceAdd, Nat.reduceMul, Nat.reduceSub, intOf]
  refine ((hA.ext hE3').rootOf n (hW.ext hE3')).mono ?_
  rintro _ w4 ⟨e, v, rfl, hR, hO4, hE4⟩
  have lod := outD_len e n key ss ps
  have z3 := hE3.size
  have z4 := hE4.size
  simp only [↓VD, VP, VT, isAggD, reduceCtorEq, Int.reduceEq, Int.reduceNe, Int.reduceLT, Int.reduceLE, implies_true, Nat.reduceEqDiff, reduceIte, ite_true, ite_false, eq_self, Nat.reduceLT, Nat.reduceLeDiff, Nat.reduceAdd, Nat.reduceMul, Nat.reduceSub, intOf]
  intro w5 hN5
  refine stAll hN5.blk rfl (by rw [c28]; decide) (by rw [c28, vbs_len, lod]) (by rw [c28]; simp) (vbs_one _) (fun w6 hP6 => ?_)
  have hE46 : Ext w4 w6 := hN5.ext.trans (hP6.below (Nat.le_refl _))
  have hE36 := hE4.trans' hE46
  have hB9 := hP6.blk
  have hE6 := hE3'.trans' hE36
  replace hB6 := hB6.ext hE36
  replace hB7 := hB7.ext hE36
  have hv := (SlC.of_own hO4).ext hE46
  obtain ⟨av, cv, hve⟩ := slv_of hv
  subst hve
  clear hO4
  generalize w4.heap.size = b9 at *
  simp only [↓VD, VP, VT, isAggD, reduceCtorEq, Int.reduceEq, Int.reduceNe, Int.reduceLT, Int.reduceLE, implies_true, Nat.reduceEqDiff, reduceIte, ite_true, ite_false, eq_self, Nat.reduceLT, Nat.reduceLeDiff, Nat.reduceAdd, Nat.reduceMul, Nat.reduceSub, intOf]
  refine ldA Tryd.underlying26 rfl hB7 (by rw [c26]; rfl) ?_
  simp only [↓VD, VP, VT, isAggD, reduceCtorEq, Int.reduceEq, Int.reduceNe, Int.reduceLT, Int.reduceLE, implies_true, Nat.reduceEqDiff, reduceIte, ite_true, ite_false, eq_self, Nat.reduceLT, Nat.reduceLeDiff, Nat.reduceAdd, Nat.reduceMul, Nat.reduceSub, intOf]
  refine ((hB.ext hE6).rootOf n (hW.ext hE6)).mono ?_
  rintro _ w7 ⟨f, u, rfl, gR, hO7, hE7⟩
  have lof := outD_len f n key tt qs
  have z7 := hE7.size
  simp only [↓VD, VP, VT, isAggD, reduceCtorEq, Int.reduceEq, Int.reduceNe, Int.reduceLT, Int.reduceLE, implies_true, Nat.reduceEqDiff, reduceIte, ite_true, ite_false, eq_self, Nat.reduceLT, Nat.reduceLeDiff, Nat.reduceAdd, Nat.reduceMul, Nat.reduceSub, intOf]
  intro w8 hN8
  refine stAll hN8.blk rfl (by rw [c28]; decide) (by rw [c28, vbs_len, lof]) (by rw [c28]; simp) (vbs_one _) (fun w9 hP9 => ?_)
  have hE79 : Ext w7 w9 := hN8.ext.trans (hP9.below (Nat.le_refl _))
  have hE69 := hE7.trans' hE79
  have hB13 := hP9.blk
  have hE9 := hE6.trans' hE69
  replace hB6 := hB6.ext hE69
  replace hB7 := hB7.ext hE69
  replace hB9 := hB9.ext hE69
  replace hv := hv.ext hE69
  have hu := (SlC.of_own hO7).ext hE79
  obtain ⟨au, cu, hue⟩ := slv_of hu
  subst hue
  clear hO7
  generalize w7.heap.size = b13 at *
  by_cases he : e = 0
  · subst he
    have f0 : ((((0 : Nat) : Int)) = 0) = True := eq_true rfl
    by_cases hf : f = 0
    · subst hf
      simp only [↓VD, VP, VT, isAggD, reduceCtorEq, Int.reduceEq, Int.reduceNe, Int.reduceLT, Int.reduceLE, implies_true, Nat.reduceEqDiff, reduceIte, ite_true, ite_false, eq_self, Nat.reduceLT, Nat.reduceLeDiff, Nat.reduceAdd, Nat.reduceMul, Nat.reduceSub, intOf, f0]
      refine ldA Tryd.underlying28 rfl hB13 (by rw [vbs_len, lof, c28]) ?_
      simp only [↓VD, VP, VT, isAggD, reduceCtorEq, Int.reduceEq, Int.reduceNe, Int.reduceLT, Int.reduceLE, implies_true, Nat.reduceEqDiff, reduceIte, ite_true, ite_false, eq_self, Nat.reduceLT, Nat.reduceLeDiff, Nat.reduceAdd, Nat.reduceMul, Nat.reduceSub, intOf, f0]
      refine ldA Tryd.underlying28 rfl hB9 (by rw [vbs_len, lod, c28]) ?_
      simp only [↓VD, VP, VT, isAggD, reduceCtorEq, Int.reduceEq, Int.reduceNe, Int.reduceLT, Int.reduceLE, implies_true, Nat.reduceEqDiff, reduceIte, ite_true, ite_false, eq_self, Nat.reduceLT, Nat.reduceLeDiff, Nat.reduceAdd, Nat.reduceMul, Nat.reduceSub, intOf, f0]
      refine eqd_lit _ _ _ _ _ _ Tryd.underlying5 c5 lof lod ?_
      by_cases hd : outD 0 n key tt qs = outD 0 n key ss ps
      · have f1 : (outD 0 n key tt qs = outD 0 n key ss ps) = True := eq_true hd
        simp only [↓VQ, VP, VT, isAggD, reduceCtorEq, Int.reduceEq, Int.reduceNe, Int.reduceLT, Int.reduceLE, implies_true, Nat.reduceEqDiff, reduceIte, ite_true, ite_false, eq_self, Nat.reduceLT, Nat.reduceLeDiff, Nat.reduceAdd, Nat.reduceMul, Nat.reduceSub, intOf, f0, f1]
        rw [v_seq]
        refine joinT (fun s' W => Ext w9 W ∧ s' 0 = .int .i64 n ∧ s' 1 = .slice ak key.length ck ∧ s' 6 = .pointer (some ⟨w.heap.size, 0, none⟩) ∧ s' 7 = .pointer (some ⟨b7, 0, none⟩) ∧ ¬ (outT 0 key ps = outT 0 key qs ∧ outV 0 key qs = outV 0 key ps)) ?_ ?_
        · simp only [↓VD, VP, VT, isAggD, reduceCtorEq, Int.reduceEq, Int.reduceNe, Int.reduceLT, Int.reduceLE, implies_true, Nat.reduceEqDiff, reduceIte, ite_true, ite_false, eq_self, Nat.reduceLT, Nat.reduceLeDiff, Nat.reduceAdd, Nat.reduceMul, Nat.reduceSub, intOf]
          refine ⟨fun hT => ?_, fun hT => ⟨Ext.rfl' _, fun h => hT h.1⟩⟩
          refine (Same_ok _ _ _ _ w9 hu hv).mono ?_
          rintro _ w10 ⟨rfl, hE10⟩
          by_cases hV : outV 0 key qs = outV 0 key ps
          · have f2 : (outV 0 key qs = outV 0 key ps) = True := eq_true hV
            simp only [↓VD, VP, VT, isAggD, reduceCtorEq, Int.reduceEq, Int.reduceNe, Int.reduceLT, Int.reduceLE, implies_true, Nat.reduceEqDiff, reduceIte, ite_true, ite_false, eq_self, Nat.reduceLT, Nat.reduceLeDiff, Nat.reduceAdd, Nat.reduceMul, Nat.reduceSub, intOf, f2]
            exact hE9.trans' hE10
          · have f2 : (outV 0 key qs = outV 0 key ps) = False := eq_false hV
            simp only [↓VD, VP, VT, isAggD, reduceCtorEq, Int.reduceEq, Int.reduceNe, Int.reduceLT, Int.reduceLE, implies_true, Nat.reduceEqDiff, reduceIte, ite_true, ite_false, eq_self, Nat.reduceLT, Nat.reduceLeDiff, Nat.reduceAdd, Nat.reduceMul, Nat.reduceSub, intOf, f2]
            exact ⟨hE10, fun h => h.2.elim⟩
        · rintro s10 w10 ⟨hE10, g0, g1, g6, g7, hns⟩
          have hne : ¬ ∀ j, j < inLen ss ps → j < inLen tt qs → inAt n (keyD n key) ss ps j = inAt n (keyD n key) tt qs j := by
            intro hall
            have hvo := alike hR gR (fun s h => (hA.steps.2 s h).1) (fun s h => (hB.steps.2 s h).1) hall
            exact hns ⟨by simp only [outT, hvo], by simp only [outV, hvo]⟩
          have hE10' := hE9.trans' hE10
          simp only [↓VD, VP, VT, isAggD, reduceCtorEq, Int.reduceEq, Int.reduceNe, Int.reduceLT, Int.reduceLE, implies_true, Nat.reduceEqDiff, reduceIte, ite_true, ite_false, eq_self, Nat.reduceLT, Nat.reduceLeDiff, Nat.reduceAdd, Nat.reduceMul, Nat.reduceSub, intOf, g0, g1, g6, g7]
          refine drawH (fun W => Blk W w.heap.size 26 [.slice sa ss.length cs, .slice pa ps.length cp] ∧ Blk W b7 26 [.slice ta tt.length ct, .slice qa qs.length cq]) [0, 1, 2, 3, 5, 6, 7, 4, 8, 9, 10] mixed (by decide +kernel) (fun w11 hE11 hh => ⟨⟨(hB6.ext hE10).ext hE11, (hB7.ext hE10).ext hE11⟩, ?_⟩)
          have hE11' := hE10'.trans' hE11
          simp only [↓VD, VP, VT, isAggD, reduceCtorEq, Int.reduceEq, Int.reduceNe, Int.reduceLT, Int.reduceLE, implies_true, Nat.reduceEqDiff, reduceIte, ite_true, ite_false, eq_self, Nat.reduceLT, Nat.reduceLeDiff, Nat.reduceAdd, Nat.reduceMul, Nat.reduceSub, intOf, g0, g1, g6, g7]
          refine loadS_of _ (fun w' h => ldA Tryd.underlying26 rfl h.1 (by rw [c26]; rfl) rfl) ?_
          simp only [↓VD, VP, VT, isAggD, reduceCtorEq, Int.reduceEq, Int.reduceNe, Int.reduceLT, Int.reduceLE, implies_true, Nat.reduceEqDiff, reduceIte, ite_true, ite_false, eq_self, Nat.reduceLT, Nat.reduceLeDiff, Nat.reduceAdd, Nat.reduceMul, Nat.reduceSub, intOf, g0, g1, g6, g7]
          refine loadS_of _ (fun w' h => ldA Tryd.underlying26 rfl h.2 (by rw [c26]; rfl) rfl) ?_
          simp only [↓VD, VP, VT, isAggD, reduceCtorEq, Int.reduceEq, Int.reduceNe, Int.reduceLT, Int.reduceLE, implies_true, Nat.reduceEqDiff, reduceIte, ite_true, ite_false, eq_self, Nat.reduceLT, Nat.reduceLeDiff, Nat.reduceAdd, Nat.reduceMul, Nat.reduceSub, intOf, g0, g1, g6, g7]
          refine (inputs_ok n key _ _ _ ss ps w11 (hW.ext hE11') (hA.ext hE11') hR).mono ?_
          rintro va w12 ⟨la, hla, hll, hli, hE12⟩
          obtain ⟨aa, ca, hae⟩ := slv_of hla.1
          refine told (fun _ => True) ⟨((hB6.ext hE10).ext hE11).ext hE12, ((hB7.ext hE10).ext hE11).ext hE12⟩ trivial ?_
          simp only [↓VD, VP, VT, isAggD, reduceCtorEq, Int.reduceEq, Int.reduceNe, Int.reduceLT, Int.reduceLE, implies_true, Nat.reduceEqDiff, reduceIte, ite_true, ite_false, eq_self, Nat.reduceLT, Nat.reduceLeDiff, Nat.reduceAdd, Nat.reduceMul, Nat.reduceSub, intOf, g0, g1, g6, g7]
          refine (inputs_ok n key _ _ _ tt qs w12 (hW.ext (hE11'.trans' hE12)) (hB.ext (hE11'.trans' hE12)) gR).mono ?_
          rintro vb w13 ⟨lb, hlb, hml, hmi, hE13⟩
          refine told (fun _ => True) ⟨(((hB6.ext hE10).ext hE11).ext hE12).ext hE13, (((hB7.ext hE10).ext hE11).ext hE12).ext hE13⟩ trivial ?_
          simp only [↓VD, VP, VT, isAggD, reduceCtorEq, Int.reduceEq, Int.reduceNe, Int.reduceLT, Int.reduceLE, implies_true, Nat.reduceEqDiff, reduceIte, ite_true, ite_false, eq_self, Nat.reduceLT, Nat.reduceLeDiff, Nat.reduceAdd, Nat.reduceMul, Nat.reduceSub, intOf, g0, g1, g6, g7]
          have hE13' := (hE11'.trans' hE12).trans' hE13
          refine (clash_inputs n key _ _ _ _ _ ss tt ps qs va vb la lb w13 (hW.ext hE13') (hA.ext hE13') (hB.ext hE13') hR gR hd.symm hne (hla.ext hE13) hlb hll hml hli hmi).mono ?_
          rintro _ w14 ⟨rfl, hE14⟩
          refine told (fun _ => True) ⟨((((hB6.ext hE10).ext hE11).ext hE12).ext hE13).ext hE14, ((((hB7.ext hE10).ext hE11).ext hE12).ext hE13).ext hE14⟩ trivial ?_
          simp only [↓VD, VP, VT, isAggD, reduceCtorEq, Int.reduceEq, Int.reduceNe, Int.reduceLT, Int.reduceLE, implies_true, Nat.reduceEqDiff, reduceIte, ite_true, ite_false, eq_self, Nat.reduceLT, Nat.reduceLeDiff, Nat.reduceAdd, Nat.reduceMul, Nat.reduceSub, intOf, g0, g1, g6, g7]
          exact hE13'.trans' hE14
      · have f1 : (outD 0 n key tt qs = outD 0 n key ss ps) = False := eq_false hd
        simp only [↓VD, VP, VT, isAggD, reduceCtorEq, Int.reduceEq, Int.reduceNe, Int.reduceLT, Int.reduceLE, implies_true, Nat.reduceEqDiff, reduceIte, ite_true, ite_false, eq_self, Nat.reduceLT, Nat.reduceLeDiff, Nat.reduceAdd, Nat.reduceMul, Nat.reduceSub, intOf, f0, f1]
        exact hE9
    · have f1 : ((f : Int) = 0) = False := eq_false (by omega)
      simp only [↓VD, VP, VT, isAggD, reduceCtorEq, Int.reduceEq, Int.reduceNe, Int.reduceLT, Int.reduceLE, implies_true, Nat.reduceEqDiff, reduceIte, ite_true, ite_false, eq_self, Nat.reduceLT, Nat.reduceLeDiff, Nat.reduceAdd, Nat.reduceMul, Nat.reduceSub, intOf, f0, f1]
      exact hE9
  · have f1 : ((e : Int) = 0) = False := eq_false (by omega)
    simp only [↓VD, VP, VT, isAggD, reduceCtorEq, Int.reduceEq, Int.reduceNe, Int.reduceLT, Int.reduceLE, implies_true, Nat.reduceEqDiff, reduceIte, ite_true, ite_false, eq_self, Nat.reduceLT, Nat.reduceLeDiff, Nat.reduceAdd, Nat.reduceMul, Nat.reduceSub, intOf, f1]
    exact hE9

end Go.Proofs.YticfalbgplifoaaDoor
