/-
  The statements' helpers child, inputs and clash (package notarylaw16). Conditions: as stated in each theorem.
-/
import Derived.Test.YticfalbgplifoaaDoorPlD
namespace Go.Proofs.YticfalbgplifoaaDoor
set_option maxRecDepth 100000
open Go Go.RowKit
set_option linter.unusedVariables false
set_option linter.unusedSimpArgs false

theorem lchild_ok (n : Int) (key : List UInt8) (kv : Value) (i : Int) (w : World) (hW : WordsAt w 1) (hk : SlB w kv key) (hkl : key.length + 1 ≤ 140737488355328) :
    CallK Tryd.prog 31 [.int .i64 n, kv, .int .i64 i].toArray w fun v w' => v = .int .i64 (atP n (keyD n key) i).1 ∧ Ext w w' := by
  have lk := sumR_len n (2 :: key)
  refine enterT Tryd.func31 rfl Tryd.ntmps31 Tryd.results31 rfl (by decide) ?_
  simp only [↓VD, VP, VT, isAggD, reduceCtorEq, Int.reduceEq, Int.reduceNe, Int.reduceLT, Int.reduceLE, implies_true, Nat.reduceEqDiff, reduceIte, ite_true, ite_false, eq_self, Nat.reduceLT, Nat.reduceLeDiff, Nat.reduceAdd, Nat.reduceMul, Nat.reduceSub, intOf]
  refine (Key_ok n key kv w hW hk hkl).mono ?_
  rintro _ w1 ⟨rfl, hE1⟩
  simp only [↓VD, VP, VT, isAggD, reduceCtorEq, Int.reduceEq, Int.reduceNe, Int.reduceLT, Int.reduceLE, implies_true, Nat.reduceEqDiff, reduceIte, ite_true, ite_false, eq_self, Nat.reduceLT, Nat.reduceLeDiff, Nat.reduceAdd, Nat.reduceMul, Nat.reduceSub, intOf]
  intro w2 hN2
  refine stAll hN2.blk rfl (by rw [c28]; decide) (by rw [c28, vbs_len, lk]) (by rw [c28]; simp) (vbs_one _) (fun w3 hP3 => ?_)
  have hE3 : Ext w w3 := hE1.trans' (hN2.ext.trans (hP3.below (Nat.le_refl _)))
  simp only [↓VD, VP, VT, isAggD, reduceCtorEq, Int.reduceEq, Int.reduceNe, Int.reduceLT, Int.reduceLE, implies_true, Nat.reduceEqDiff, reduceIte, ite_true, ite_false, eq_self, Nat.reduceLT, Nat.reduceLeDiff, Nat.reduceAdd, Nat.reduceMul, Nat.reduceSub, intOf]
  refine ldA Tryd.underlying28 rfl hP3.blk (by rw [vbs_len, lk, c28]) ?_
  simp only [↓VD, VP, VT, isAggD, reduceCtorEq, Int.reduceEq, Int.reduceNe, Int.reduceLT, Int.reduceLE, implies_true, Nat.reduceEqDiff, reduceIte, ite_true, ite_false, eq_self, Nat.reduceLT, Nat.reduceLeDiff, Nat.reduceAdd, Nat.reduceMul, Nat.reduceSub, intOf]
  refine (At_ok n _ lk i w3).mono ?_
  rintro _ w4 ⟨rfl, hE4⟩
  simp only [↓VD, VP, VT, isAggD, reduceCtorEq, Int.reduceEq, Int.reduceNe, Int.reduceLT, Int.reduceLE, implies_true, Nat.reduceEqDiff, reduceIte, ite_true, ite_false, eq_self, Nat.reduceLT, Nat.reduceLeDiff, Nat.reduceAdd, Nat.reduceMul, Nat.reduceSub, intOf]
  exact ⟨rfl, hE3.trans' hE4⟩

/-! ### Lists of byte lists -/
def LLAt (w : World) (v : Value) (ps : List BR) : Prop := SlC w v ps.length (ps.map (·.v)) ∧ ∀ p ∈ ps, SlB w p.v p.b
theorem LLAt.ext {w w' : World} {v : Value} {ps : List BR} (h : LLAt w v ps) (e : Ext w w') : LLAt w' v ps := ⟨h.1.ext e, fun p hp => (h.2 p hp).ext e⟩

theorem clash_ok (n : Int) (hn : widB n = true) (av bv : Value) (la lb : List BR) (i : Nat) (x y : BR) (hx : la[i]? = some x) (hy : lb[i]? = some y) (hne : x.b ≠ y.b) (hsum : sumR n x.b = sumR n y.b) (hlt : ∀ j (p q : BR), j < i → la[j]? = some p → lb[j]? = some q → p.b = q.b)
    (w : World) (hW : WordsAt w 1) (ha : LLAt w av la) (hb : LLAt w bv lb) :
    CallK Tryd.prog 12 [.int .i64 n, av, bv].toArray w fun v w' => v = .bool true ∧ Ext w w' := by
  have hse : sumE n = 0 := by simp [sumE, hn]
  obtain ⟨⟨aa, ca, rfl, hna, hma, hca⟩, hpa⟩ := ha
  obtain ⟨⟨ab, cb, rfl, hnb, hmb, hcb⟩, hpb⟩ := hb
  have hia := (List.getElem?_eq_some_iff.1 hx).1
  have hib := (List.getElem?_eq_some_iff.1 hy).1
  rcases hca with hca | ⟨ba, oa, rfl, hca⟩
  · exfalso
    have := congrArg List.length hca
    rw [List.length_map, List.length_nil] at this
    omega
  rcases hcb with hcb | ⟨bb, ob, rfl, hcb⟩
  · exfalso
    have := congrArg List.length hcb
    rw [List.length_map, List.length_nil] at this
    omega
  have hld : ∀ {W : World} {T : TypeId} {d : TypeDesc} {K : Value → Prop} {bk o : Nat} {l : List BR} {j : Nat} {p : BR}, Ext w W → Tryd.prog.underlying T = some d → isAggD d = false → (∀ k u, (l.map (·.v))[k]? = some u → w.cell? ⟨bk, o + k, none⟩ = some u) → l[j]? = some p → K p.v → vcLoad Tryd.prog T W bk (o + j) K := by
    intro W T d K bk o l j p hE hu hg hc hj hK
    have := hc j p.v (by simp [hj])
    exact ld1 hu hg (by rw [hE.cell (block_lt_of_cell this)]; exact this) hK
  refine enterT Tryd.func12 rfl Tryd.ntmps12 Tryd.results12 rfl (by decide) ?_
  simp only [↓VD, VP, VT, isAggD, reduceCtorEq, Int.reduceEq, Int.reduceNe, Int.reduceLT, Int.reduceLE, implies_true, Nat.reduceEqDiff, reduceIte, ite_true, ite_false, eq_self, Nat.reduceLT, Nat.reduceLeDiff, Nat.reduceAdd, Nat.reduceMul, Nat.reduceSub, intOf]
  refine loopT (fun s' W' => Ext w W' ∧ ∃ k : Nat, k ≤ i ∧ s' 0 = .int .i64 n ∧ s' 1 = .slice (some ⟨ba, oa, none⟩) la.length ca ∧ s' 2 = .slice (some ⟨bb, ob, none⟩) lb.length cb ∧ s' 7 = .int .i64 k) (fun s' _ => i - (intOf (s' 7)).toNat) ?_ ?_
  · simp only [↓VD, VP, VT, isAggD, reduceCtorEq, Int.reduceEq, Int.reduceNe, Int.reduceLT, Int.reduceLE, implies_true, Nat.reduceEqDiff, reduceIte, ite_true, ite_false, eq_self, Nat.reduceLT, Nat.reduceLeDiff, Nat.reduceAdd, Nat.reduceMul, Nat.reduceSub, intOf]
    exact ⟨Ext.rfl' _, 0, by omega, rfl⟩
  · rintro s1 w1 ⟨hE1, k, hk, h0, h1, h2, h7⟩
    have f1 : ((k : Int) < (la.length : Int)) = True := eq_true (by omega)
    have f2 : ((k : Int) < (lb.length : Int)) = True := eq_true (by omega)
    obtain ⟨p, hp⟩ : ∃ p, la[k]? = some p := ⟨_, List.getElem?_eq_getElem (by omega)⟩
    obtain ⟨q, hq⟩ : ∃ q, lb[k]? = some q := ⟨_, List.getElem?_eq_getElem (by omega)⟩
    have hpx := hpa p (List.mem_of_getElem? hp)
    have hqx := hpb q (List.mem_of_getElem? hq)
    obtain ⟨ap, cp, hpv⟩ := slv_of hpx
    obtain ⟨aq, cq, hqv⟩ := slv_of hqx
    simp only [↓VD, VP, VT, isAggD, reduceCtorEq, Int.reduceEq, Int.reduceNe, Int.reduceLT, Int.reduceLE, implies_true, Nat.reduceEqDiff, reduceIte, ite_true, ite_false, eq_self, Nat.reduceLT, Nat.reduceLeDiff, Nat.reduceAdd, Nat.reduceMul, Nat.reduceSub, intOf, h0, h1, h2, h7, f1, f2]
    refine drawT mixed (by decide +kernel) ?_
    simp only [↓VD, VP, VT, isAggD, reduceCtorEq, Int.reduceEq, Int.reduceNe, Int.reduceLT, Int.reduceLE, implies_true, Nat.reduceEqDiff, reduceIte, ite_true, ite_false, eq_self, Nat.reduceLT, Nat.reduceLeDiff, Nat.reduceAdd, Nat.reduceMul, Nat.reduceSub, intOf, h0, h1, h2, h7, f1, f2]
    refine ⟨by omega, hld hE1 Tryd.underlying22 rfl hca hp ?_⟩
    rw [hpv]
    simp only [↓VD, VP, VT, isAggD, reduceCtorEq, Int.reduceEq, Int.reduceNe, Int.reduceLT, Int.reduceLE, implies_true, Nat.reduceEqDiff, reduceIte, ite_true, ite_false, eq_self, Nat.reduceLT, Nat.reduceLeDiff, Nat.reduceAdd, Nat.reduceMul, Nat.reduceSub, intOf, h0, h1, h2, h7, f1, f2]
    refine ⟨by omega, hld hE1 Tryd.underlying22 rfl hcb hq ?_⟩
    rw [hqv]
    simp only [↓VD, VP, VT, isAggD, reduceCtorEq, Int.reduceEq, Int.reduceNe, Int.reduceLT, Int.reduceLE, implies_true, Nat.reduceEqDiff, reduceIte, ite_true, ite_false, eq_self, Nat.reduceLT, Nat.reduceLeDiff, Nat.reduceAdd, Nat.reduceMul, Nat.reduceSub, intOf, h0, h1, h2, h7, f1, f2]
    refine qcall _ (fun w' hw' => Same_ok p.b q.b _ _ w' ((hpv ▸ hpx).ext (hE1.trans' hw')) ((hqv ▸ hqx).ext (hE1.trans' hw'))) ?_
    by_cases hpq : p.b = q.b
    · have f3 : (p.b = q.b) = True := eq_true hpq
      simp only [↓VD, VP, VT, isAggD, reduceCtorEq, Int.reduceEq, Int.reduceNe, Int.reduceLT, Int.reduceLE, implies_true, Nat.reduceEqDiff, reduceIte, ite_true, ite_false, eq_self, Nat.reduceLT, Nat.reduceLeDiff, Nat.reduceAdd, Nat.reduceMul, Nat.reduceSub, intOf, h0, h1, h2, h7, f1, f2, f3]
      intro w2 hE2
      have hki : k < i := by
        rcases Nat.lt_or_ge k i with h | h
        · exact h
        · exfalso
          obtain rfl : k = i := by omega
          rw [hp] at hx
          rw [hq] at hy
          cases hx
          cases hy
          exact hne hpq
      refine ⟨⟨hE1.trans' hE2, k + 1, by omega, ?_⟩, ?_⟩
      · rw [w64 (by omega) (by omega)]; rfl
      · rw [w64 (by omega) (by omega)]; omega
    · have f3 : (p.b = q.b) = False := eq_false hpq
      have hki : k = i := by
        rcases Nat.lt_or_ge k i with h | h
        · exact absurd (hlt k p q h hp hq) hpq
        · omega
      subst hki
      obtain rfl : p = x := by rw [hp] at hx; cases hx; rfl
      obtain rfl : q = y := by rw [hq] at hy; cases hy; rfl
      have lp := sumR_len n p.b
      have lq := sumR_len n q.b
      simp only [↓VD, VP, VT, isAggD, reduceCtorEq, Int.reduceEq, Int.reduceNe, Int.reduceLT, Int.reduceLE, implies_true, Nat.reduceEqDiff, reduceIte, ite_true, ite_false, eq_self, Nat.reduceLT, Nat.reduceLeDiff, Nat.reduceAdd, Nat.reduceMul, Nat.reduceSub, intOf, h0, h1, h2, h7, f1, f2, f3]
      intro w2 hE2
      have hE2' := hE1.trans' hE2
      refine ⟨by omega, hld hE2' Tryd.underlying22 rfl hca hp ?_⟩
      rw [hpv]
      simp only [↓VD, VP, VT, isAggD, reduceCtorEq, Int.reduceEq, Int.reduceNe, Int.reduceLT, Int.reduceLE, implies_true, Nat.reduceEqDiff, reduceIte, ite_true, ite_false, eq_self, Nat.reduceLT, Nat.reduceLeDiff, Nat.reduceAdd, Nat.reduceMul, Nat.reduceSub, intOf, h0, h1, h2, h7]
      refine ⟨rfl, rfl, fun w3 hN3 => ?_⟩
      have hpb1 : p.b.length < 18446744073709551616 := by
        obtain ⟨_, _, _, h1, h2, _⟩ := hpx
        omega
      have hqb1 : q.b.length < 18446744073709551616 := by
        obtain ⟨_, _, _, h1, h2, _⟩ := hqx
        omega
      refine (sum1 n _ p.b w2 w3 (hW.ext hE2') ((hpv ▸ hpx).ext hE2') hN3 hpb1).mono ?_
      rintro _ w4 ⟨rfl, hE4⟩
      rw [hse]
      have z4 := hE4.size
      simp only [↓VD, VP, VT, isAggD, reduceCtorEq, Int.reduceEq, Int.reduceNe, Int.reduceLT, Int.reduceLE, implies_true, Nat.reduceEqDiff, reduceIte, ite_true, ite_false, eq_self, Nat.reduceLT, Nat.reduceLeDiff, Nat.reduceAdd, Nat.reduceMul, Nat.reduceSub, intOf, h0, h1, h2, h7]
      intro w5 hN5
      refine stAll hN5.blk rfl (by rw [c28]; decide) (by rw [c28, vbs_len, lp]) (by rw [c28]; simp) (vbs_one _) (fun w6 hP6 => ?_)
      have hE6 : Ext w w6 := hE2'.trans' (hE4.trans' (hN5.ext.trans (hP6.below (Nat.le_refl _))))
      have hB8 := hP6.blk
      generalize w4.heap.size = b8 at *
      simp only [↓VD, VP, VT, isAggD, reduceCtorEq, Int.reduceEq, Int.reduceNe, Int.reduceLT, Int.reduceLE, implies_true, Nat.reduceEqDiff, reduceIte, ite_true, ite_false, eq_self, Nat.reduceLT, Nat.reduceLeDiff, Nat.reduceAdd, Nat.reduceMul, Nat.reduceSub, intOf, h0, h1, h2, h7]
      refine ⟨by omega, by omega, hld hE6 Tryd.underlying22 rfl hcb hq ?_⟩
      rw [hqv]
      simp only [↓VD, VP, VT, isAggD, reduceCtorEq, Int.reduceEq, Int.reduceNe, Int.reduceLT, Int.reduceLE, implies_true, Nat.reduceEqDiff, reduceIte, ite_true, ite_false, eq_self, Nat.reduceLT, Nat.reduceLeDiff, Nat.reduceAdd, Nat.reduceMul, Nat.reduceSub, intOf, h0, h1, h2, h7]
      refine ⟨rfl, rfl, fun w7 hN7 => ?_⟩
      refine (sum1 n _ q.b w6 w7 (hW.ext hE6) ((hqv ▸ hqx).ext hE6) hN7 hqb1).mono ?_
      rintro _ w8 ⟨rfl, hE8⟩
      rw [hse]
      simp only [↓VD, VP, VT, isAggD, reduceCtorEq, Int.reduceEq, Int.reduceNe, Int.reduceLT, Int.reduceLE, implies_true, Nat.reduceEqDiff, reduceIte, ite_true, ite_false, eq_self, Nat.reduceLT, Nat.reduceLeDiff, Nat.reduceAdd, Nat.reduceMul, Nat.reduceSub, intOf, h0, h1, h2, h7]
      intro w9 hN9
      refine stAll hN9.blk rfl (by rw [c28]; decide) (by rw [c28, vbs_len, lq]) (by rw [c28]; simp) (vbs_one _) (fun w10 hP10 => ?_)
      have hE610 : Ext w6 w10 := hE8.trans' (hN9.ext.trans (hP10.below (Nat.le_refl _)))
      have hB10 := hP10.blk
      generalize w8.heap.size = b10 at *
      simp only [↓VD, VP, VT, isAggD, reduceCtorEq, Int.reduceEq, Int.reduceNe, Int.reduceLT, Int.reduceLE, implies_true, Nat.reduceEqDiff, reduceIte, ite_true, ite_false, eq_self, Nat.reduceLT, Nat.reduceLeDiff, Nat.reduceAdd, Nat.reduceMul, Nat.reduceSub, intOf, h0, h1, h2, h7]
      refine ldA Tryd.underlying28 rfl (hB8.ext hE610) (by rw [vbs_len, lp, c28]) ?_
      simp only [↓VD, VP, VT, isAggD, reduceCtorEq, Int.reduceEq, Int.reduceNe, Int.reduceLT, Int.reduceLE, implies_true, Nat.reduceEqDiff, reduceIte, ite_true, ite_false, eq_self, Nat.reduceLT, Nat.reduceLeDiff, Nat.reduceAdd, Nat.reduceMul, Nat.reduceSub, intOf, h0, h1, h2, h7]
      refine ldA Tryd.underlying28 rfl hB10 (by rw [vbs_len, lq, c28]) ?_
      simp only [↓VD, VP, VT, isAggD, reduceCtorEq, Int.reduceEq, Int.reduceNe, Int.reduceLT, Int.reduceLE, implies_true, Nat.reduceEqDiff, reduceIte, ite_true, ite_false, eq_self, Nat.reduceLT, Nat.reduceLeDiff, Nat.reduceAdd, Nat.reduceMul, Nat.reduceSub, intOf, h0, h1, h2, h7]
      refine eqd_lit _ _ _ _ _ _ Tryd.underlying5 c5 lp lq ?_
      have f4 : (sumR n p.b = sumR n q.b) = True := eq_true hsum
      simp only [↓VD, VP, VT, isAggD, reduceCtorEq, Int.reduceEq, Int.reduceNe, Int.reduceLT, Int.reduceLE, implies_true, Nat.reduceEqDiff, reduceIte, ite_true, ite_false, eq_self, Nat.reduceLT, Nat.reduceLeDiff, Nat.reduceAdd, Nat.reduceMul, Nat.reduceSub, intOf, h0, h1, h2, h7, f4]
      exact hE6.trans' hE610

end Go.Proofs.YticfalbgplifoaaDoor
