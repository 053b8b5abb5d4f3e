/-
  HcheckAgrees: the walk. Conditions: as stated in each theorem.
-/
import Derived.Test.YticfalbgplifoaaDoorLawA
namespace Go.Proofs.YticfalbgplifoaaDoor
set_option maxRecDepth 100000
open Go Go.RowKit
set_option linter.unusedVariables false
set_option linter.unusedSimpArgs false

theorem form_zero (n : Int) (hn : widB n = true) : formB n (List.replicate 32 0) = true := by
  have hw := (widB_iff n).1 hn
  obtain ⟨m, rfl⟩ : ∃ m : Nat, n = m := ⟨n.toNat, by omega⟩
  unfold formB
  rw [hn]
  simp only [Bool.true_and, decide_eq_true_eq, cutP, List.take_replicate, Int.toNat_natCast, List.replicate_append_replicate]
  congr 1
  omega
theorem form_brD (n : Int) (hn : widB n = true) (bm : Nat) (ds : List (List UInt8)) : formB n (brD n bm ds) = true := by
  unfold brD
  split
  · exact form_sumR n _ hn
  · exact form_zero n hn
theorem form_upF (n : Int) (hn : widB n = true) (k : List UInt8) : ∀ (l : List (Nat × SR)) (d : List UInt8), formB n d = true → formB n (upF n k l d) = true
  | [], d, h => h
  | x :: l, d, h => form_upF n hn k l _ (form_brD n hn _ _)
theorem form_outD (e : Nat) (n : Int) (hn : widB n = true) (key : List UInt8) (ss : List SR) (ps : List PR) : formB n (outD e n key ss ps) = true := by
  unfold outD
  split
  · refine form_upF n hn _ _ _ ?_
    unfold up0
    split <;> exact form_sumR n _ hn
  · exact form_zero n hn
theorem checkE_ne {n : Int} {root d : List UInt8} {e : Nat} (h : e ≠ 0) : checkE n root d e ≠ 0 := by
  unfold checkE
  split
  · exact h
  · split
    · decide
    · rw [if_neg (fun g => h g.1)]
      exact h

/-- What the laws take for granted of a question: it may be read, and its lists are short enough for the machine. -/
structure AskAt (w : World) (key : List UInt8) (ss : List SR) (ps : List PR) (kv sv pv : Value) : Prop where
  kat : SlB w kv key
  keyl : key.length + 1 ≤ 140737488355328
  steps : StepsAt w sv ss
  pairs : PairsAt w pv ps
  pk : ∀ p ∈ ps, p.k.length + 1 ≤ 140737488355328
  pn : ps.length ≤ 400000000000
theorem AskAt.ext {w w' : World} {key : List UInt8} {ss : List SR} {ps : List PR} {kv sv pv : Value} (h : AskAt w key ss ps kv sv pv) (e : Ext w w') : AskAt w' key ss ps kv sv pv :=
  ⟨h.kat.ext e, h.keyl, h.steps.ext e, h.pairs.ext e, h.pk, h.pn⟩
theorem AskAt.rootOf {w : World} {key : List UInt8} {ss : List SR} {ps : List PR} {kv sv pv : Value} (h : AskAt w key ss ps kv sv pv) (n : Int) (hW : WordsAt w 1) :
    CallK Tryd.prog 8 [.int .i64 n, kv, .agg [sv, pv].toArray].toArray w fun r w' => ∃ e v, r = .tuple [.agg (vbs (outD e n key ss ps)).toArray, v, .bool (outT e key ps), .int .i64 e].toArray ∧ RootE n key ss ps e ∧
      Own w' w.heap.size 5 1 v (outV e key ps).length (vbs (outV e key ps)) ∧ Ext w w' := RootOf_ok n key kv sv pv ss ps w hW h.kat h.keyl h.steps h.pairs h.pk h.pn
theorem AskAt.check {w : World} {key : List UInt8} {ss : List SR} {ps : List PR} {kv sv pv : Value} (h : AskAt w key ss ps kv sv pv) (n : Int) (root : List UInt8) (hr : root.length = 32) (hW : WordsAt w 1) :
    CallK Tryd.prog 9 [.int .i64 n, .agg (vbs root).toArray, kv, .agg [sv, pv].toArray].toArray w fun r w' => ∃ e f v, r = .tuple [v, .bool (outT f key ps), .int .i64 (f : Nat)].toArray ∧ RootE n key ss ps e ∧ f = checkE n root (outD e n key ss ps) e ∧
      Own w' w.heap.size 5 1 v (outV f key ps).length (vbs (outV f key ps)) ∧ Ext w w' := Check_ok n root key hr kv sv pv ss ps w hW h.kat h.keyl h.steps h.pairs h.pk h.pn

theorem Agrees_ok (n : Int) (root key : List UInt8) (hrt : root.length = 32) (kv sv pv : Value) (ss : List SR) (ps : List PR) (w : World) (hW : WordsAt w 1) (hA : AskAt w key ss ps kv sv pv) :
    CallK Tryd.prog 3 [.agg ([.int .i64 n, kv, sv, pv] ++ vbs root).toArray].toArray w fun v w' => v = .bool true ∧ Ext w w' := by
  have hkv : kv.cells = #[kv] := by obtain ⟨a, c, e⟩ := slv_of hA.kat; rw [e]; rfl
  refine enterT Tryd.func3 rfl Tryd.ntmps3 Tryd.results3 rfl (by decide) ?_
  simp only [↓VD, VP, VT, isAggD, reduceCtorEq, Int.reduceEq, Int.reduceNe, Int.reduceLT, Int.reduceLE, implies_true, Nat.reduceEqDiff, reduceIte, ite_true, ite_false, eq_self, Nat.reduceLT, Nat.reduceLeDiff, Nat.reduceAdd, Nat.reduceMul, Nat.reduceSub, intOf]
  intro w1 hN1
  refine (awake_ok w1 (hW.ext hN1.ext)).mono ?_
  rintro _ w2 ⟨rfl, hE2⟩
  have hB1 := hN1.blk.ext hE2
  have hE2' : Ext w w2 := hN1.ext.trans' hE2
  simp only [↓VD, VP, VT, isAggD, reduceCtorEq, Int.reduceEq, Int.reduceNe, Int.reduceLT, Int.reduceLE, implies_true, Nat.reduceEqDiff, reduceIte, ite_true, ite_false, eq_self, Nat.reduceLT, Nat.reduceLeDiff, Nat.reduceAdd, Nat.reduceMul, Nat.reduceSub, intOf]
  refine ldAt (pre := []) (post := [kv, sv, pv] ++ vbs root) Tryd.underlying3 rfl hB1 rfl ?_
  simp only [↓VD, VP, VT, isAggD, reduceCtorEq, Int.reduceEq, Int.reduceNe, Int.reduceLT, Int.reduceLE, implies_true, Nat.reduceEqDiff, reduceIte, ite_true, ite_false, eq_self, Nat.reduceLT, Nat.reduceLeDiff, Nat.reduceAdd, Nat.reduceMul, Nat.reduceSub, intOf]
  refine ldAt (pre := [.int .i64 n]) (post := [sv, pv] ++ vbs root) Tryd.underlying22 rfl hB1 rfl ?_
  simp only [↓VD, VP, VT, isAggD, reduceCtorEq, Int.reduceEq, Int.reduceNe, Int.reduceLT, Int.reduceLE, implies_true, Nat.reduceEqDiff, reduceIte, ite_true, ite_false, eq_self, Nat.reduceLT, Nat.reduceLeDiff, Nat.reduceAdd, Nat.reduceMul, Nat.reduceSub, intOf]
  refine ldSeg (pre := [.int .i64 n, kv]) (mid := [sv, pv]) (post := vbs root) Tryd.underlying26 rfl hB1 rfl (by rw [c26]; rfl) ?_
  simp only [↓VD, VP, VT, isAggD, reduceCtorEq, Int.reduceEq, Int.reduceNe, Int.reduceLT, Int.reduceLE, implies_true, Nat.reduceEqDiff, reduceIte, ite_true, ite_false, eq_self, Nat.reduceLT, Nat.reduceLeDiff, Nat.reduceAdd, Nat.reduceMul, Nat.reduceSub, intOf]
  refine ((hA.ext hE2').rootOf n (hW.ext hE2')).mono ?_
  rintro _ w3 ⟨e, v, rfl, hR, hO3, hE3⟩
  have lod := outD_len e n key ss ps
  have s2 := hE2.size
  have s3 := hE3.size
  have lB1 := hB1.lt
  simp only [↓VD, VP, VT, isAggD, reduceCtorEq, Int.reduceEq, Int.reduceNe, Int.reduceLT, Int.reduceLE, implies_true, Nat.reduceEqDiff, reduceIte, ite_true, ite_false, eq_self, Nat.reduceLT, Nat.reduceLeDiff, Nat.reduceAdd, Nat.reduceMul, Nat.reduceSub, intOf]
  intro w4 hN4
  have s4 := hN4.size
  refine stAll hN4.blk rfl (by rw [c28]; decide) (by rw [c28, vbs_len, lod]) (by rw [c28]; simp) (vbs_one _) (fun w5 hP5 => ?_)
  have hE35 : Ext w3 w5 := hN4.ext.trans (hP5.below (Nat.le_refl _))
  have hB3 := hP5.blk
  have hB15 := hB1.ext (hE3.trans' hE35)
  have hE5 := hE2'.trans' (hE3.trans' hE35)
  have hO5 := hO3.ext hE35
  generalize w3.heap.size = b3 at *
  simp only [↓VD, VP, VT, isAggD, reduceCtorEq, Int.reduceEq, Int.reduceNe, Int.reduceLT, Int.reduceLE, implies_true, Nat.reduceEqDiff, reduceIte, ite_true, ite_false, eq_self, Nat.reduceLT, Nat.reduceLeDiff, Nat.reduceAdd, Nat.reduceMul, Nat.reduceSub, intOf]
  refine ldAt (pre := []) (post := [kv, sv, pv] ++ vbs root) Tryd.underlying3 rfl hB15 rfl ?_
  simp only [↓VD, VP, VT, isAggD, reduceCtorEq, Int.reduceEq, Int.reduceNe, Int.reduceLT, Int.reduceLE, implies_true, Nat.reduceEqDiff, reduceIte, ite_true, ite_false, eq_self, Nat.reduceLT, Nat.reduceLeDiff, Nat.reduceAdd, Nat.reduceMul, Nat.reduceSub, intOf]
  refine ldSeg (pre := [.int .i64 n, kv, sv, pv]) (mid := vbs root) (post := []) Tryd.underlying28 rfl (by rw [List.append_nil]; exact hB15) rfl (by rw [vbs_len, hrt, c28]) ?_
  simp only [↓VD, VP, VT, isAggD, reduceCtorEq, Int.reduceEq, Int.reduceNe, Int.reduceLT, Int.reduceLE, implies_true, Nat.reduceEqDiff, reduceIte, ite_true, ite_false, eq_self, Nat.reduceLT, Nat.reduceLeDiff, Nat.reduceAdd, Nat.reduceMul, Nat.reduceSub, intOf]
  refine ldAt (pre := [.int .i64 n]) (post := [sv, pv] ++ vbs root) Tryd.underlying22 rfl hB15 rfl ?_
  simp only [↓VD, VP, VT, isAggD, reduceCtorEq, Int.reduceEq, Int.reduceNe, Int.reduceLT, Int.reduceLE, implies_true, Nat.reduceEqDiff, reduceIte, ite_true, ite_false, eq_self, Nat.reduceLT, Nat.reduceLeDiff, Nat.reduceAdd, Nat.reduceMul, Nat.reduceSub, intOf]
  refine ldSeg (pre := [.int .i64 n, kv]) (mid := [sv, pv]) (post := vbs root) Tryd.underlying26 rfl hB15 rfl (by rw [c26]; rfl) ?_
  simp only [↓VD, VP, VT, isAggD, reduceCtorEq, Int.reduceEq, Int.reduceNe, Int.reduceLT, Int.reduceLE, implies_true, Nat.reduceEqDiff, reduceIte, ite_true, ite_false, eq_self, Nat.reduceLT, Nat.reduceLeDiff, Nat.reduceAdd, Nat.reduceMul, Nat.reduceSub, intOf]
  refine ((hA.ext hE5).check n root hrt (hW.ext hE5)).mono ?_
  rintro _ w6 ⟨e', f, u, rfl, hR', hf, hO6, hE6⟩
  obtain rfl : e = e' := hR.uniq hR'
  have hB16 := hB15.ext hE6
  have hB36 := hB3.ext hE6
  have hE6' := hE5.trans' hE6
  simp only [↓VD, VP, VT, isAggD, reduceCtorEq, Int.reduceEq, Int.reduceNe, Int.reduceLT, Int.reduceLE, implies_true, Nat.reduceEqDiff, reduceIte, ite_true, ite_false, eq_self, Nat.reduceLT, Nat.reduceLeDiff, Nat.reduceAdd, Nat.reduceMul, Nat.reduceSub, intOf]
  refine ldAt (pre := []) (post := [kv, sv, pv] ++ vbs root) Tryd.underlying3 rfl hB16 rfl ?_
  simp only [↓VD, VP, VT, isAggD, reduceCtorEq, Int.reduceEq, Int.reduceNe, Int.reduceLT, Int.reduceLE, implies_true, Nat.reduceEqDiff, reduceIte, ite_true, ite_false, eq_self, Nat.reduceLT, Nat.reduceLeDiff, Nat.reduceAdd, Nat.reduceMul, Nat.reduceSub, intOf]
  refine ldA Tryd.underlying28 rfl hB36 (by rw [vbs_len, lod, c28]) ?_
  simp only [↓VD, VP, VT, isAggD, reduceCtorEq, Int.reduceEq, Int.reduceNe, Int.reduceLT, Int.reduceLE, implies_true, Nat.reduceEqDiff, reduceIte, ite_true, ite_false, eq_self, Nat.reduceLT, Nat.reduceLeDiff, Nat.reduceAdd, Nat.reduceMul, Nat.reduceSub, intOf]
  refine ldAt (pre := [.int .i64 n]) (post := [sv, pv] ++ vbs root) Tryd.underlying22 rfl hB16 rfl ?_
  simp only [↓VD, VP, VT, isAggD, reduceCtorEq, Int.reduceEq, Int.reduceNe, Int.reduceLT, Int.reduceLE, implies_true, Nat.reduceEqDiff, reduceIte, ite_true, ite_false, eq_self, Nat.reduceLT, Nat.reduceLeDiff, Nat.reduceAdd, Nat.reduceMul, Nat.reduceSub, intOf]
  refine ldSeg (pre := [.int .i64 n, kv]) (mid := [sv, pv]) (post := vbs root) Tryd.underlying26 rfl hB16 rfl (by rw [c26]; rfl) ?_
  simp only [↓VD, VP, VT, isAggD, reduceCtorEq, Int.reduceEq, Int.reduceNe, Int.reduceLT, Int.reduceLE, implies_true, Nat.reduceEqDiff, reduceIte, ite_true, ite_false, eq_self, Nat.reduceLT, Nat.reduceLeDiff, Nat.reduceAdd, Nat.reduceMul, Nat.reduceSub, intOf]
  refine ((hA.ext hE6').check n (outD e n key ss ps) lod (hW.ext hE6')).mono ?_
  rintro _ w7 ⟨e'', h, x, rfl, hR'', hh, hO7, hE7⟩
  obtain rfl : e = e'' := hR.uniq hR''
  have hB17 := hB16.ext hE7
  have hB37 := hB36.ext hE7
  have hE7' := hE6'.trans' hE7
  have hv := (SlC.of_own hO5).ext (hE6.trans' hE7)
  have hu := (SlC.of_own hO6).ext hE7
  have hx := SlC.of_own hO7
  clear hO3 hO5 hO6 hO7
  obtain ⟨av, cv, hve⟩ := slv_of hv
  obtain ⟨au, cu, hue⟩ := slv_of hu
  obtain ⟨ax, cx, hxe⟩ := slv_of hx
  subst hve hue hxe
  have f0 : (((([] : List UInt8).length : Nat) : Int) = 0) = True := eq_true rfl
  by_cases he : e = 0
  · subst he
    obtain ⟨hwid, _⟩ := hR.ok
    have hfd := form_outD 0 n hwid key ss ps
    have hh0 : h = 0 := by rw [hh]; simp [checkE, hfd]
    subst hh0
    simp only [↓VD, VP, VT, isAggD, reduceCtorEq, Int.reduceEq, Int.reduceNe, Int.reduceLT, Int.reduceLE, implies_true, Nat.reduceEqDiff, reduceIte, ite_true, ite_false, eq_self, Nat.reduceLT, Nat.reduceLeDiff, Nat.reduceAdd, Nat.reduceMul, Nat.reduceSub, intOf]
    refine (Same_ok _ _ _ _ w7 hx hv).mono ?_
    rintro _ w8 ⟨rfl, hE8⟩
    simp only [↓VD, VP, VT, isAggD, reduceCtorEq, Int.reduceEq, Int.reduceNe, Int.reduceLT, Int.reduceLE, implies_true, Nat.reduceEqDiff, reduceIte, ite_true, ite_false, eq_self, Nat.reduceLT, Nat.reduceLeDiff, Nat.reduceAdd, Nat.reduceMul, Nat.reduceSub, intOf]
    have hE8' := hE7'.trans' hE8
    have hB18 := hB17.ext hE8
    refine ldSeg (pre := [.int .i64 n, kv, sv, pv]) (mid := vbs root) (post := []) Tryd.underlying28 rfl (by rw [List.append_nil]; exact hB18) rfl (by rw [vbs_len, hrt, c28]) ?_
    simp only [↓VD, VP, VT, isAggD, reduceCtorEq, Int.reduceEq, Int.reduceNe, Int.reduceLT, Int.reduceLE, implies_true, Nat.reduceEqDiff, reduceIte, ite_true, ite_false, eq_self, Nat.reduceLT, Nat.reduceLeDiff, Nat.reduceAdd, Nat.reduceMul, Nat.reduceSub, intOf]
    refine ldA Tryd.underlying28 rfl (hB37.ext hE8) (by rw [vbs_len, lod, c28]) ?_
    simp only [↓VD, VP, VT, isAggD, reduceCtorEq, Int.reduceEq, Int.reduceNe, Int.reduceLT, Int.reduceLE, implies_true, Nat.reduceEqDiff, reduceIte, ite_true, ite_false, eq_self, Nat.reduceLT, Nat.reduceLeDiff, Nat.reduceAdd, Nat.reduceMul, Nat.reduceSub, intOf]
    refine eqd_lit _ _ _ _ _ _ Tryd.underlying5 c5 hrt lod ?_
    by_cases hrd : root = outD 0 n key ss ps
    · have hf0 : f = 0 := by rw [hf, ← hrd]; simp [checkE, hrd, hfd]
      subst hf0
      have f1 : (root = outD 0 n key ss ps) = True := eq_true hrd
      simp only [↓VD, VP, VT, isAggD, reduceCtorEq, Int.reduceEq, Int.reduceNe, Int.reduceLT, Int.reduceLE, implies_true, Nat.reduceEqDiff, reduceIte, ite_true, ite_false, eq_self, Nat.reduceLT, Nat.reduceLeDiff, Nat.reduceAdd, Nat.reduceMul, Nat.reduceSub, intOf, f1]
      refine (Same_ok _ _ _ _ w8 (hu.ext hE8) (hv.ext hE8)).mono ?_
      rintro _ w9 ⟨rfl, hE9⟩
      simp only [↓VD, VP, VT, isAggD, reduceCtorEq, Int.reduceEq, Int.reduceNe, Int.reduceLT, Int.reduceLE, implies_true, Nat.reduceEqDiff, reduceIte, ite_true, ite_false, eq_self, Nat.reduceLT, Nat.reduceLeDiff, Nat.reduceAdd, Nat.reduceMul, Nat.reduceSub, intOf]
      exact hE8'.trans' hE9
    · have f1 : (root = outD 0 n key ss ps) = False := eq_false hrd
      cases hfr : formB n root
      · have hf3 : f = 3 := by rw [hf]; simp [checkE, hfr]
        subst hf3
        have hv3 : outV 3 key ps = [] := rfl
        have ht3 : outT 3 key ps = false := rfl
        rw [hv3] at hu
        rw [hv3, ht3]
        simp only [↓VD, VP, VT, isAggD, reduceCtorEq, Int.reduceEq, Int.reduceNe, Int.reduceLT, Int.reduceLE, implies_true, Nat.reduceEqDiff, reduceIte, ite_true, ite_false, eq_self, Nat.reduceLT, Nat.reduceLeDiff, Nat.reduceAdd, Nat.reduceMul, Nat.reduceSub, intOf, f1, f0]
        refine ldAt (pre := []) (post := [kv, sv, pv] ++ vbs root) Tryd.underlying3 rfl hB18 rfl ?_
        simp only [↓VD, VP, VT, isAggD, reduceCtorEq, Int.reduceEq, Int.reduceNe, Int.reduceLT, Int.reduceLE, implies_true, Nat.reduceEqDiff, reduceIte, ite_true, ite_false, eq_self, Nat.reduceLT, Nat.reduceLeDiff, Nat.reduceAdd, Nat.reduceMul, Nat.reduceSub, intOf]
        refine ldSeg (pre := [.int .i64 n, kv, sv, pv]) (mid := vbs root) (post := []) Tryd.underlying28 rfl (by rw [List.append_nil]; exact hB18) rfl (by rw [vbs_len, hrt, c28]) ?_
        simp only [↓VD, VP, VT, isAggD, reduceCtorEq, Int.reduceEq, Int.reduceNe, Int.reduceLT, Int.reduceLE, implies_true, Nat.reduceEqDiff, reduceIte, ite_true, ite_false, eq_self, Nat.reduceLT, Nat.reduceLeDiff, Nat.reduceAdd, Nat.reduceMul, Nat.reduceSub, intOf]
        refine (Form_ok n root hrt w8).mono ?_
        rintro _ w9 ⟨rfl, hE9⟩
        simp only [↓VD, VP, VT, isAggD, reduceCtorEq, Int.reduceEq, Int.reduceNe, Int.reduceLT, Int.reduceLE, implies_true, Nat.reduceEqDiff, reduceIte, ite_true, ite_false, eq_self, Nat.reduceLT, Nat.reduceLeDiff, Nat.reduceAdd, Nat.reduceMul, Nat.reduceSub, intOf, hfr]
        exact hE8'.trans' hE9
      · have hf3 : f = 10 := by rw [hf]; simp [checkE, hfr, Ne.symm hrd]
        subst hf3
        have hv3 : outV 10 key ps = [] := rfl
        have ht3 : outT 10 key ps = false := rfl
        rw [hv3] at hu
        rw [hv3, ht3]
        simp only [↓VD, VP, VT, isAggD, reduceCtorEq, Int.reduceEq, Int.reduceNe, Int.reduceLT, Int.reduceLE, implies_true, Nat.reduceEqDiff, reduceIte, ite_true, ite_false, eq_self, Nat.reduceLT, Nat.reduceLeDiff, Nat.reduceAdd, Nat.reduceMul, Nat.reduceSub, intOf, f1, f0]
        refine ldAt (pre := []) (post := [kv, sv, pv] ++ vbs root) Tryd.underlying3 rfl hB18 rfl ?_
        simp only [↓VD, VP, VT, isAggD, reduceCtorEq, Int.reduceEq, Int.reduceNe, Int.reduceLT, Int.reduceLE, implies_true, Nat.reduceEqDiff, reduceIte, ite_true, ite_false, eq_self, Nat.reduceLT, Nat.reduceLeDiff, Nat.reduceAdd, Nat.reduceMul, Nat.reduceSub, intOf]
        refine ldSeg (pre := [.int .i64 n, kv, sv, pv]) (mid := vbs root) (post := []) Tryd.underlying28 rfl (by rw [List.append_nil]; exact hB18) rfl (by rw [vbs_len, hrt, c28]) ?_
        simp only [↓VD, VP, VT, isAggD, reduceCtorEq, Int.reduceEq, Int.reduceNe, Int.reduceLT, Int.reduceLE, implies_true, Nat.reduceEqDiff, reduceIte, ite_true, ite_false, eq_self, Nat.reduceLT, Nat.reduceLeDiff, Nat.reduceAdd, Nat.reduceMul, Nat.reduceSub, intOf]
        refine (Form_ok n root hrt w8).mono ?_
        rintro _ w9 ⟨rfl, hE9⟩
        simp only [↓VD, VP, VT, isAggD, reduceCtorEq, Int.reduceEq, Int.reduceNe, Int.reduceLT, Int.reduceLE, implies_true, Nat.reduceEqDiff, reduceIte, ite_true, ite_false, eq_self, Nat.reduceLT, Nat.reduceLeDiff, Nat.reduceAdd, Nat.reduceMul, Nat.reduceSub, intOf, hfr]
        exact hE8'.trans' hE9
  · have f1 : ((e : Int) = 0) = False := eq_false (by omega)
    have hde : outD e n key ss ps = List.replicate 32 0 := by simp [outD, he]
    have hve : outV e key ps = [] := by simp [outV, he]
    have hte : outT e key ps = false := by simp [outT, he]
    have hfn : f ≠ 0 := by rw [hf]; exact checkE_ne he
    have hhn : h ≠ 0 := by rw [hh]; exact checkE_ne he
    have f2 : ((f : Int) = 0) = False := eq_false (by omega)
    have f3 : ((h : Int) = 0) = False := eq_false (by omega)
    have hvf : outV f key ps = [] := by simp [outV, hfn]
    have htf : outT f key ps = false := by simp [outT, hfn]
    rw [hde] at hB37
    rw [hve, hvf, hte, htf]
    simp only [↓VD, VP, VT, isAggD, reduceCtorEq, Int.reduceEq, Int.reduceNe, Int.reduceLT, Int.reduceLE, implies_true, Nat.reduceEqDiff, reduceIte, ite_true, ite_false, eq_self, Nat.reduceLT, Nat.reduceLeDiff, Nat.reduceAdd, Nat.reduceMul, Nat.reduceSub, intOf, f1]
    refine ldA Tryd.underlying28 rfl hB37 (by rw [c28]; simp [vbs]) ?_
    simp only [↓VD, VP, VT, isAggD, reduceCtorEq, Int.reduceEq, Int.reduceNe, Int.reduceLT, Int.reduceLE, implies_true, Nat.reduceEqDiff, reduceIte, ite_true, ite_false, eq_self, Nat.reduceLT, Nat.reduceLeDiff, Nat.reduceAdd, Nat.reduceMul, Nat.reduceSub, intOf, f1]
    refine bldC (List.replicate 32 (.int .u8 0)) (by kernel_rfl) ?_
    rw [vbs_rep]
    simp only [↓VD, VP, VT, isAggD, reduceCtorEq, Int.reduceEq, Int.reduceNe, Int.reduceLT, Int.reduceLE, implies_true, Nat.reduceEqDiff, reduceIte, ite_true, ite_false, eq_self, Nat.reduceLT, Nat.reduceLeDiff, Nat.reduceAdd, Nat.reduceMul, Nat.reduceSub, intOf, f1, f2, f3]
    refine eqd_lit _ _ _ _ _ _ Tryd.underlying5 c5 (by simp) (by simp) ?_
    simp only [↓VD, VP, VT, isAggD, reduceCtorEq, Int.reduceEq, Int.reduceNe, Int.reduceLT, Int.reduceLE, implies_true, Nat.reduceEqDiff, reduceIte, ite_true, ite_false, eq_self, Nat.reduceLT, Nat.reduceLeDiff, Nat.reduceAdd, Nat.reduceMul, Nat.reduceSub, intOf, f1, f2, f3, f0]
    exact hE7'

end Go.Proofs.YticfalbgplifoaaDoor
