/-
  The walks of package digest, first part: widths, forms, sums. Conditions: as stated in each theorem.
-/
import Derived.Test.YticfalbgplifoaaGreatDoorWir
namespace Go.Proofs.YticfalbgplifoaaGreatDoor
set_option maxRecDepth 100000
open Go Go.RowKit
set_option linter.unusedVariables false
set_option linter.unusedSimpArgs false

def widB (n : Int) : Bool := decide (1 ≤ n) && decide (n ≤ 32)
theorem widB_iff (n : Int) : widB n = true ↔ 1 ≤ n ∧ n ≤ 32 := by simp [widB]
theorem width_ok (n : Int) (w : World) : CallK Tryz.prog 66 [.int .i64 n].toArray w fun v w' => v = .bool (widB n) ∧ w' = w := by
  refine enterT Tryz.func66 rfl Tryz.ntmps66 Tryz.results66 rfl (by decide) ?_
  simp only [↓VD, VP, VT, isAggD, reduceCtorEq, Int.reduceEq, Int.reduceNe, Int.reduceLT, Int.reduceLE, implies_true, Nat.reduceEqDiff, reduceIte, ite_true, ite_false, eq_self, Nat.reduceLT, Nat.reduceLeDiff, Nat.reduceAdd, Nat.reduceMul, Nat.reduceSub, intOf]
  refine ⟨fun h => ?_, fun h => ?_⟩
  · simp [widB, h]
  · simp [widB, h]

theorem SlC.of_part {w : World} {b T o n c : Nat} {l m : List Value} (h : Blk w b T l) (hn : n ≤ c) (hc : c ≤ 9223372036854775807) (hm : ∀ j u, m[j]? = some u → l[o + j]? = some u) : SlC w (.slice (some ⟨b, o, none⟩) n c) n m :=
  ⟨_, c, rfl, hn, hc, Or.inr ⟨b, o, rfl, fun j u hj => by rw [h.cell]; exact hm j u hj⟩⟩
theorem cut_splice (n : Nat) (hn : n ≤ 32) (d : List UInt8) (hd : d.length = 32) : splice (vbs (List.replicate 32 0)) 0 (vbs (d.take n)) = vbs (cutP n d) := by
  have h1 : (vbs (d.take n)).length = n := by rw [vbs_len, List.length_take]; omega
  simp only [splice, cutP, List.take_zero, List.nil_append, Nat.zero_add, h1]
  simp only [vbs, List.map_append, List.map_take, List.map_replicate, List.drop_replicate]
set_option maxRecDepth 100000 in
theorem cut_ok (n : Nat) (hn : n ≤ 32) (d : List UInt8) (hd : d.length = 32) (w : World) :
    CallK Tryz.prog 67 [.int .i64 n, .agg (vbs d).toArray].toArray w fun v w' => v = .agg (vbs (cutP n d)).toArray ∧ Ext w w' := by
  refine enterT Tryz.func67 rfl Tryz.ntmps67 Tryz.results67 rfl (by decide) ?_
  simp only [↓VD, VP, VT, isAggD, reduceCtorEq, Int.reduceEq, Int.reduceNe, Int.reduceLT, Int.reduceLE, implies_true, Nat.reduceEqDiff, reduceIte, ite_true, ite_false, eq_self, Nat.reduceLT, Nat.reduceLeDiff, Nat.reduceAdd, Nat.reduceMul, Nat.reduceSub, intOf]
  intro w1 hN1 w2 hN2 w3 hN3
  have s1 := hN1.size
  have s2 := hN2.size
  rw [vbs_rep] at hN2 hN3
  refine drawH (fun _ => True) [0, 1, 2, 3, 4] mixed (by decide +kernel) (fun w4 hE4 hh => ⟨trivial, ?_⟩)
  simp only [↓VD, VP, VT, isAggD, reduceCtorEq, Int.reduceEq, Int.reduceNe, Int.reduceLT, Int.reduceLE, implies_true, Nat.reduceEqDiff, reduceIte, ite_true, ite_false, eq_self, Nat.reduceLT, Nat.reduceLeDiff, Nat.reduceAdd, Nat.reduceMul, Nat.reduceSub, intOf]
  refine ⟨by omega, by omega, fun o1 ho1 => ⟨by omega, by omega, fun o2 ho2 => ?_⟩⟩
  have ho1 : o1 = 0 := ho1
  have ho2 : o2 = 0 := ho2
  subst ho1 ho2
  rw [show ((n : Int) - 0).toNat = n from by omega]
  have hB1 := ((hN1.blk.ext hN2.ext).ext hN3.ext).ext hE4
  have hB2 := (hN2.blk.ext hN3.ext).ext hE4
  refine cpS (sz := 1) (m := n) (cells := vbs (d.take n)) Tryz.underlying22 c5 (by decide) (hN3.blk.ext hE4) (SlC.of_part (m := vbs (d.take n)) hB1 (by decide +revert) (by decide) ?_) (by rw [vbs_len, List.length_take]; omega) (vbs_one _) (by rw [vbs_len, List.length_replicate]; omega) (fun w5 hP => ?_)
  · intro j u hj
    rw [← vbs_take, List.getElem?_take] at hj
    rw [Nat.zero_add]
    split at hj
    · exact hj
    · cases hj
  rw [Nat.min_self, Nat.mul_one, List.take_of_length_le (by rw [vbs_len, List.length_take]; omega), cut_splice n hn d hd] at hP
  have hcl := cutP_len n d hd hn
  refine told (fun _ => True) trivial trivial ?_
  simp only [↓VD, VP, VT, isAggD, reduceCtorEq, Int.reduceEq, Int.reduceNe, Int.reduceLT, Int.reduceLE, implies_true, Nat.reduceEqDiff, reduceIte, ite_true, ite_false, eq_self, Nat.reduceLT, Nat.reduceLeDiff, Nat.reduceAdd, Nat.reduceMul, Nat.reduceSub, intOf]
  refine ldA Tryz.underlying28 rfl hP.blk (by rw [vbs_len, hcl, c28]) ?_
  simp only [↓VD, VP, VT, isAggD, reduceCtorEq, Int.reduceEq, Int.reduceNe, Int.reduceLT, Int.reduceLE, implies_true, Nat.reduceEqDiff, reduceIte, ite_true, ite_false, eq_self, Nat.reduceLT, Nat.reduceLeDiff, Nat.reduceAdd, Nat.reduceMul, Nat.reduceSub, intOf]
  refine stAll (hP.keep hB2 (by omega)) rfl (by rw [c28]; omega) (by rw [c28, vbs_len, hcl]) (by rw [c28]; rfl) (vbs_one _) (fun w6 hP6 => ?_)
  simp only [↓VD, VP, VT, isAggD, reduceCtorEq, Int.reduceEq, Int.reduceNe, Int.reduceLT, Int.reduceLE, implies_true, Nat.reduceEqDiff, reduceIte, ite_true, ite_false, eq_self, Nat.reduceLT, Nat.reduceLeDiff, Nat.reduceAdd, Nat.reduceMul, Nat.reduceSub, intOf]
  refine ldA Tryz.underlying28 rfl hP6.blk (by rw [vbs_len, hcl, c28]) ?_
  exact ⟨rfl, (((hN1.ext.trans' hN2.ext).trans' hN3.ext).trans' hE4).trans ((hP.below (by omega)).trans (hP6.below (by omega)))⟩

def formB (n : Int) (d : List UInt8) : Bool := widB n && decide (cutP n.toNat d = d)
set_option maxRecDepth 100000 in
theorem Form_ok (n : Int) (d : List UInt8) (hd : d.length = 32) (w : World) :
    CallK Tryz.prog 35 [.int .i64 n, .agg (vbs d).toArray].toArray w fun v w' => v = .bool (formB n d) ∧ Ext w w' := by
  refine enterT Tryz.func35 rfl Tryz.ntmps35 Tryz.results35 rfl (by decide) ?_
  simp only [↓VD, VP, VT, isAggD, reduceCtorEq, Int.reduceEq, Int.reduceNe, Int.reduceLT, Int.reduceLE, implies_true, Nat.reduceEqDiff, reduceIte, ite_true, ite_false, eq_self, Nat.reduceLT, Nat.reduceLeDiff, Nat.reduceAdd, Nat.reduceMul, Nat.reduceSub, intOf]
  intro w1 hN1
  refine drawT mixed (by decide +kernel) ?_
  simp only [↓VD, VP, VT, isAggD, reduceCtorEq, Int.reduceEq, Int.reduceNe, Int.reduceLT, Int.reduceLE, implies_true, Nat.reduceEqDiff, reduceIte, ite_true, ite_false, eq_self, Nat.reduceLT, Nat.reduceLeDiff, Nat.reduceAdd, Nat.reduceMul, Nat.reduceSub, intOf]
  refine qcall (.bool (widB n)) (fun w' _ => (width_ok n w').mono ?_) ?_
  · rintro _ _ ⟨rfl, rfl⟩; exact ⟨rfl, Ext.rfl' _⟩
  cases hw : widB n
  · simp only [↓VD, VP, VT, isAggD, reduceCtorEq, Int.reduceEq, Int.reduceNe, Int.reduceLT, Int.reduceLE, implies_true, Nat.reduceEqDiff, reduceIte, ite_true, ite_false, eq_self, Nat.reduceLT, Nat.reduceLeDiff, Nat.reduceAdd, Nat.reduceMul, Nat.reduceSub, intOf]
    intro w2 hE2
    exact ⟨by simp [formB, hw], hN1.ext.trans' hE2⟩
  · have hw' := (widB_iff n).1 hw
    obtain ⟨m, rfl⟩ : ∃ m : Nat, n = m := ⟨n.toNat, by omega⟩
    simp only [↓VD, VP, VT, isAggD, reduceCtorEq, Int.reduceEq, Int.reduceNe, Int.reduceLT, Int.reduceLE, implies_true, Nat.reduceEqDiff, reduceIte, ite_true, ite_false, eq_self, Nat.reduceLT, Nat.reduceLeDiff, Nat.reduceAdd, Nat.reduceMul, Nat.reduceSub, intOf]
    refine ldA Tryz.underlying28 rfl hN1.blk (by rw [vbs_len, hd, c28]) ?_
    simp only [↓VD, VP, VT, isAggD, reduceCtorEq, Int.reduceEq, Int.reduceNe, Int.reduceLT, Int.reduceLE, implies_true, Nat.reduceEqDiff, reduceIte, ite_true, ite_false, eq_self, Nat.reduceLT, Nat.reduceLeDiff, Nat.reduceAdd, Nat.reduceMul, Nat.reduceSub, intOf]
    refine qcall _ (fun w' _ => cut_ok m (by omega) d hd w') ?_
    simp only [↓VD, VP, VT, isAggD, reduceCtorEq, Int.reduceEq, Int.reduceNe, Int.reduceLT, Int.reduceLE, implies_true, Nat.reduceEqDiff, reduceIte, ite_true, ite_false, eq_self, Nat.reduceLT, Nat.reduceLeDiff, Nat.reduceAdd, Nat.reduceMul, Nat.reduceSub, intOf]
    refine ldA Tryz.underlying28 rfl hN1.blk (by rw [vbs_len, hd, c28]) ?_
    simp only [↓VD, VP, VT, isAggD, reduceCtorEq, Int.reduceEq, Int.reduceNe, Int.reduceLT, Int.reduceLE, implies_true, Nat.reduceEqDiff, reduceIte, ite_true, ite_false, eq_self, Nat.reduceLT, Nat.reduceLeDiff, Nat.reduceAdd, Nat.reduceMul, Nat.reduceSub, intOf]
    refine eqd_lit _ _ _ _ _ _ Tryz.underlying5 c5 (cutP_len _ _ hd (by omega)) hd ?_
    simp only [↓VD, VP, VT, isAggD, reduceCtorEq, Int.reduceEq, Int.reduceNe, Int.reduceLT, Int.reduceLE, implies_true, Nat.reduceEqDiff, reduceIte, ite_true, ite_false, eq_self, Nat.reduceLT, Nat.reduceLeDiff, Nat.reduceAdd, Nat.reduceMul, Nat.reduceSub, intOf]
    intro w2 hE2
    exact ⟨by simp [formB, hw], hN1.ext.trans' hE2⟩

/-- Digests that may be read. -/
def DigsAt (w : World) (v : Value) (ds : List (List UInt8)) : Prop := (∀ d ∈ ds, d.length = 32) ∧ SlC w v ds.length (ds.flatMap vbs)
/-- What 'check' answers. -/
def chkE (n : Int) (ds : List (List UInt8)) : Nat := if widB n = true then (if ∀ d ∈ ds, formB n d = true then 0 else 3) else 1
set_option maxRecDepth 100000 in
theorem dcheck_ok (n : Int) (v : Value) (ds : List (List UInt8)) (w : World) (hv : DigsAt w v ds) :
    CallK Tryz.prog 102 [.int .i64 n, v].toArray w fun v w' => v = .int .i64 (chkE n ds) ∧ Ext w w' := by
  obtain ⟨hd, a, c, rfl, hnc, hcm, hc⟩ := hv
  refine enterT Tryz.func102 rfl Tryz.ntmps102 Tryz.results102 rfl (by decide) ?_
  simp only [↓VD, VP, VT, isAggD, reduceCtorEq, Int.reduceEq, Int.reduceNe, Int.reduceLT, Int.reduceLE, implies_true, Nat.reduceEqDiff, reduceIte, ite_true, ite_false, eq_self, Nat.reduceLT, Nat.reduceLeDiff, Nat.reduceAdd, Nat.reduceMul, Nat.reduceSub, intOf]
  refine (width_ok n w).mono ?_
  rintro _ w1 ⟨rfl, rfl⟩
  cases hw : widB n
  · simp only [↓VD, VP, VT, isAggD, reduceCtorEq, Int.reduceEq, Int.reduceNe, Int.reduceLT, Int.reduceLE, implies_true, Nat.reduceEqDiff, reduceIte, ite_true, ite_false, eq_self, Nat.reduceLT, Nat.reduceLeDiff, Nat.reduceAdd, Nat.reduceMul, Nat.reduceSub, intOf, hw]
    exact ⟨by simp [chkE, hw], Ext.rfl' _⟩
  simp only [↓VD, VP, VT, isAggD, reduceCtorEq, Int.reduceEq, Int.reduceNe, Int.reduceLT, Int.reduceLE, implies_true, Nat.reduceEqDiff, reduceIte, ite_true, ite_false, eq_self, Nat.reduceLT, Nat.reduceLeDiff, Nat.reduceAdd, Nat.reduceMul, Nat.reduceSub, intOf, hw]
  have hchk : chkE n ds = if ∀ d ∈ ds, formB n d = true then 0 else 3 := by unfold chkE; rw [if_pos hw]
  refine loopT (fun s' w' => Ext w1 w' ∧ ∃ k : Nat, k ≤ ds.length ∧ s' 0 = .int .i64 n ∧ s' 10 = .slice a ds.length c ∧ s' 11 = .int .i64 ds.length ∧ s' 12 = .int .i64 k ∧
      ∀ d ∈ ds.take k, formB n d = true) (fun s' _ => ds.length - (intOf (s' 12)).toNat) ?_ ?_
  · simp only [↓VD, VP, VT, isAggD, reduceCtorEq, Int.reduceEq, Int.reduceNe, Int.reduceLT, Int.reduceLE, implies_true, Nat.reduceEqDiff, reduceIte, ite_true, ite_false, eq_self, Nat.reduceLT, Nat.reduceLeDiff, Nat.reduceAdd, Nat.reduceMul, Nat.reduceSub, intOf]
    exact ⟨Ext.rfl' w1, 0, by omega, rfl, by simp⟩
  · rintro s2 w2 ⟨hE, k, hk, h0, h10, h11, h12, hz⟩
    simp only [↓VD, VP, VT, isAggD, reduceCtorEq, Int.reduceEq, Int.reduceNe, Int.reduceLT, Int.reduceLE, implies_true, Nat.reduceEqDiff, reduceIte, ite_true, ite_false, eq_self, Nat.reduceLT, Nat.reduceLeDiff, Nat.reduceAdd, Nat.reduceMul, Nat.reduceSub, intOf, h0, h10, h11, h12]
    refine ⟨fun hlt => ?_, fun hge => ?_⟩
    · have hlt' : k < ds.length := by omega
      rcases hc with hc | ⟨b, o, rfl, hc⟩
      · exfalso
        cases ds with
        | nil => simp at hlt'
        | cons d ds => have := hd d (by simp); simp at hc; simp [vbs] at hc; have h3 := hc.1; simp [h3] at this
      obtain ⟨x, hx⟩ : ∃ x, ds[k]? = some x := ⟨_, List.getElem?_eq_getElem hlt'⟩
      have hxl : x.length = 32 := hd x (List.mem_of_getElem? hx)
      have hc1 : ∀ j u, (ds.flatMap vbs)[j]? = some u → w2.cell? ⟨b, o + j, none⟩ = some u := fun j u hj => by rw [hE.cell (block_lt_of_cell (hc j u hj))]; exact hc j u hj
      simp only [↓VD, VP, VT, isAggD, reduceCtorEq, Int.reduceEq, Int.reduceNe, Int.reduceLT, Int.reduceLE, implies_true, Nat.reduceEqDiff, reduceIte, ite_true, ite_false, eq_self, Nat.reduceLT, Nat.reduceLeDiff, Nat.reduceAdd, Nat.reduceMul, Nat.reduceSub, intOf]
      refine ⟨by omega, by omega, ldE c28 Tryz.underlying28 rfl (fun d h => by rw [vbs_len]; exact hd d h) hc1 hx ?_⟩
      simp only [↓VD, VP, VT, isAggD, reduceCtorEq, Int.reduceEq, Int.reduceNe, Int.reduceLT, Int.reduceLE, implies_true, Nat.reduceEqDiff, reduceIte, ite_true, ite_false, eq_self, Nat.reduceLT, Nat.reduceLeDiff, Nat.reduceAdd, Nat.reduceMul, Nat.reduceSub, intOf]
      intro w3 hN
      refine stAll hN.blk rfl (by rw [c28]; omega) (by rw [c28, vbs_len, hxl]) (by rw [c28]; simp) (vbs_one x) (fun w4 hP => ?_)
      simp only [↓VD, VP, VT, isAggD, reduceCtorEq, Int.reduceEq, Int.reduceNe, Int.reduceLT, Int.reduceLE, implies_true, Nat.reduceEqDiff, reduceIte, ite_true, ite_false, eq_self, Nat.reduceLT, Nat.reduceLeDiff, Nat.reduceAdd, Nat.reduceMul, Nat.reduceSub, intOf, h0, h10, h11, h12]
      refine ldA Tryz.underlying28 rfl hP.blk (by rw [vbs_len, hxl, c28]) ?_
      simp only [↓VD, VP, VT, isAggD, reduceCtorEq, Int.reduceEq, Int.reduceNe, Int.reduceLT, Int.reduceLE, implies_true, Nat.reduceEqDiff, reduceIte, ite_true, ite_false, eq_self, Nat.reduceLT, Nat.reduceLeDiff, Nat.reduceAdd, Nat.reduceMul, Nat.reduceSub, intOf, h0, h10, h11, h12]
      refine (Form_ok n x hxl w4).mono ?_
      rintro _ w5 ⟨rfl, hE5⟩
      have hE5' : Ext w1 w5 := (hE.trans' (hN.ext.trans (hP.below (Nat.le_refl _)))).trans' hE5
      cases hf : formB n x
      · simp only [↓VD, VP, VT, isAggD, reduceCtorEq, Int.reduceEq, Int.reduceNe, Int.reduceLT, Int.reduceLE, implies_true, Nat.reduceEqDiff, reduceIte, ite_true, ite_false, eq_self, Nat.reduceLT, Nat.reduceLeDiff, Nat.reduceAdd, Nat.reduceMul, Nat.reduceSub, intOf, h0, h10, h11, h12, hf]
        refine ⟨?_, hE5'⟩
        rw [hchk, if_neg]
        · rfl
        · intro hall
          rw [hall x (List.mem_of_getElem? hx)] at hf
          cases hf
      · simp only [↓VD, VP, VT, isAggD, reduceCtorEq, Int.reduceEq, Int.reduceNe, Int.reduceLT, Int.reduceLE, implies_true, Nat.reduceEqDiff, reduceIte, ite_true, ite_false, eq_self, Nat.reduceLT, Nat.reduceLeDiff, Nat.reduceAdd, Nat.reduceMul, Nat.reduceSub, intOf, h0, h10, h11, h12, hf]
        refine ⟨⟨hE5', k + 1, by omega, ?_, (take_all_succ hx).2 ⟨hz, hf⟩⟩, ?_⟩
        · rw [w64 (by omega) (by omega)]; rfl
        · rw [w64 (by omega) (by omega)]; omega
    · refine ⟨?_, hE⟩
      rw [List.take_of_length_le (by omega)] at hz
      rw [hchk, if_pos hz]
      rfl

end Go.Proofs.YticfalbgplifoaaGreatDoor
