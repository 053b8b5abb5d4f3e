/-
  The walks of package digest, second part: sums of parts, keys, buckets, branches. Conditions: as stated in each theorem.
-/
import Derived.Test.YticfalbgplifoaaGreatDoorDig
import Derived.Test.YticfalbgplifoaaGreatDoorNibB
namespace Go.Proofs.YticfalbgplifoaaGreatDoor
set_option maxRecDepth 100000
open Go Go.RowKit
set_option linter.unusedVariables false
set_option linter.unusedSimpArgs false

/-- A slice of bytes with what it holds. -/
structure BR where
  v : Value
  b : List UInt8
def catB (ps : List BR) : List UInt8 := ps.flatMap (·.b)
theorem catB_take {ps : List BR} {k : Nat} {x : BR} (h : ps[k]? = some x) : catB (ps.take (k + 1)) = catB (ps.take k) ++ x.b := by
  obtain ⟨hk, rfl⟩ := List.getElem?_eq_some_iff.1 h
  rw [List.take_succ_eq_append_getElem hk, catB, catB, List.flatMap_append]
  simp
theorem catB_le {ps : List BR} (k : Nat) : (catB (ps.take k)).length ≤ (catB ps).length := by
  have : catB ps = catB (ps.take k) ++ catB (ps.drop k) := by rw [catB, catB, catB, ← List.flatMap_append, List.take_append_drop]
  rw [this, List.length_append]; omega
/-- What a sum of a width answers. -/
def sumR (n : Int) (xs : List UInt8) : List UInt8 := if widB n = true then sumP n.toNat xs else List.replicate 32 0
def sumE (n : Int) : Nat := if widB n = true then 0 else 1
theorem sumR_len (n : Int) (xs : List UInt8) : (sumR n xs).length = 32 := by
  unfold sumR
  split
  · rename_i h
    have := (widB_iff n).1 h
    exact sumP_len _ _ (by omega)
  · simp

theorem dSum_ok (n : Int) (v : Value) (ps : List BR) (w : World) (hW : WordsAt w 1) (hv : SlC w v ps.length (ps.map (·.v))) (hp : ∀ p ∈ ps, SlB w p.v p.b) (hsz : (catB ps).length < 18446744073709551616) :
    CallK Tryz.prog 44 [.int .i64 n, v].toArray w fun v w' => v = .tuple [.agg (vbs (sumR n (catB ps))).toArray, .int .i64 (sumE n)].toArray ∧ Ext w w' := by
  obtain ⟨a, c, rfl, hnc, hcm, hc⟩ := hv
  have hgw := hW.lt
  refine enterT Tryz.func44 rfl Tryz.ntmps44 Tryz.results44 rfl (by decide) ?_
  simp only [↓VD, VP, VT, isAggD, reduceCtorEq, Int.reduceEq, Int.reduceNe, Int.reduceLT, Int.reduceLE, implies_true, Nat.reduceEqDiff, reduceIte, ite_true, ite_false, eq_self, Nat.reduceLT, Nat.reduceLeDiff, Nat.reduceAdd, Nat.reduceMul, Nat.reduceSub, intOf]
  intro w1 hN1
  have s1 := hN1.size
  rw [vbs_rep] at hN1
  refine (width_ok n w1).mono ?_
  rintro _ w2 ⟨rfl, rfl⟩
  cases hw : widB n
  · simp only [↓VD, VP, VT, isAggD, reduceCtorEq, Int.reduceEq, Int.reduceNe, Int.reduceLT, Int.reduceLE, implies_true, Nat.reduceEqDiff, reduceIte, ite_true, ite_false, eq_self, Nat.reduceLT, Nat.reduceLeDiff, Nat.reduceAdd, Nat.reduceMul, Nat.reduceSub, intOf, hw]
    refine bldC (vbs (List.replicate 32 0)) (by kernel_rfl) ?_
    simp only [↓VD, VP, VT, isAggD, reduceCtorEq, Int.reduceEq, Int.reduceNe, Int.reduceLT, Int.reduceLE, implies_true, Nat.reduceEqDiff, reduceIte, ite_true, ite_false, eq_self, Nat.reduceLT, Nat.reduceLeDiff, Nat.reduceAdd, Nat.reduceMul, Nat.reduceSub, intOf]
    refine stAll hN1.blk rfl (by rw [c28]; omega) (by rw [c28]; rfl) (by rw [c28]; rfl) (vbs_one _) (fun w3 hP => ?_)
    simp only [↓VD, VP, VT, isAggD, reduceCtorEq, Int.reduceEq, Int.reduceNe, Int.reduceLT, Int.reduceLE, implies_true, Nat.reduceEqDiff, reduceIte, ite_true, ite_false, eq_self, Nat.reduceLT, Nat.reduceLeDiff, Nat.reduceAdd, Nat.reduceMul, Nat.reduceSub, intOf]
    refine ldA Tryz.underlying28 rfl hP.blk (by rw [c28]; rfl) ?_
    simp only [↓VD, VP, VT, isAggD, reduceCtorEq, Int.reduceEq, Int.reduceNe, Int.reduceLT, Int.reduceLE, implies_true, Nat.reduceEqDiff, reduceIte, ite_true, ite_false, eq_self, Nat.reduceLT, Nat.reduceLeDiff, Nat.reduceAdd, Nat.reduceMul, Nat.reduceSub, intOf]
    exact ⟨by simp [sumR, sumE, hw], hN1.ext.trans (hP.below (Nat.le_refl _))⟩
  have hwn := (widB_iff n).1 hw
  obtain ⟨m, rfl⟩ : ∃ m : Nat, n = m := ⟨n.toNat, by omega⟩
  simp only [↓VD, VP, VT, isAggD, reduceCtorEq, Int.reduceEq, Int.reduceNe, Int.reduceLT, Int.reduceLE, implies_true, Nat.reduceEqDiff, reduceIte, ite_true, ite_false, eq_self, Nat.reduceLT, Nat.reduceLeDiff, Nat.reduceAdd, Nat.reduceMul, Nat.reduceSub, intOf, hw]
  refine (New_ok w2).mono ?_
  rintro _ w3 ⟨rfl, hE3, s3, hS3⟩
  simp only [↓VD, VP, VT, isAggD, reduceCtorEq, Int.reduceEq, Int.reduceNe, Int.reduceLT, Int.reduceLE, implies_true, Nat.reduceEqDiff, reduceIte, ite_true, ite_false, eq_self, Nat.reduceLT, Nat.reduceLeDiff, Nat.reduceAdd, Nat.reduceMul, Nat.reduceSub, intOf]
  refine loopT (fun s' w' => KeepB w3 w' w2.heap.size ∧ ∃ k : Nat, k ≤ ps.length ∧ s' 0 = .int .i64 m ∧ s' 4 = .pointer (some ⟨w.heap.size, 0, none⟩) ∧ s' 6 = .pointer (some ⟨w2.heap.size, 0, none⟩) ∧ s' 14 = .slice a ps.length c ∧ s' 15 = .int .i64 ps.length ∧ s' 16 = .int .i64 k ∧
      St w' w2.heap.size (catB (ps.take k))) (fun s' _ => ps.length - (intOf (s' 16)).toNat) ?_ ?_
  · simp only [↓VD, VP, VT, isAggD, reduceCtorEq, Int.reduceEq, Int.reduceNe, Int.reduceLT, Int.reduceLE, implies_true, Nat.reduceEqDiff, reduceIte, ite_true, ite_false, eq_self, Nat.reduceLT, Nat.reduceLeDiff, Nat.reduceAdd, Nat.reduceMul, Nat.reduceSub, intOf]
    exact ⟨KeepB.rfl' _ _, 0, by omega, rfl, by simpa [catB] using hS3⟩
  · rintro s4 w4 ⟨hK, k, hk, h0, h4, h6, h14, h15, h16, hS⟩
    have hE23 : Ext w w3 := hN1.ext.trans' hE3
    have hE4 : Ext w w4 := hE23.trans (hK.below (by omega) (by omega))
    simp only [↓VD, VP, VT, isAggD, reduceCtorEq, Int.reduceEq, Int.reduceNe, Int.reduceLT, Int.reduceLE, implies_true, Nat.reduceEqDiff, reduceIte, ite_true, ite_false, eq_self, Nat.reduceLT, Nat.reduceLeDiff, Nat.reduceAdd, Nat.reduceMul, Nat.reduceSub, intOf, h0, h4, h6, h14, h15, h16]
    refine ⟨fun hlt => ?_, fun hge => ?_⟩
    · have hlt' : k < ps.length := by omega
      obtain ⟨x, hx⟩ : ∃ x, ps[k]? = some x := ⟨_, List.getElem?_eq_getElem hlt'⟩
      have hxm := List.mem_of_getElem? hx
      rcases hc with hc | ⟨b, o, rfl, hc⟩
      · exfalso
        have := congrArg List.length hc
        simp at this; simp [this] at hlt'
      simp only [↓VD, VP, VT, isAggD, reduceCtorEq, Int.reduceEq, Int.reduceNe, Int.reduceLT, Int.reduceLE, implies_true, Nat.reduceEqDiff, reduceIte, ite_true, ite_false, eq_self, Nat.reduceLT, Nat.reduceLeDiff, Nat.reduceAdd, Nat.reduceMul, Nat.reduceSub, intOf]
      refine ⟨by omega, by omega, ld1 Tryz.underlying22 rfl (v := x.v) (by rw [hE4.cell (block_lt_of_cell (hc k x.v (by simp [hx])))]; exact hc k x.v (by simp [hx])) ?_⟩
      simp only [↓VD, VP, VT, isAggD, reduceCtorEq, Int.reduceEq, Int.reduceNe, Int.reduceLT, Int.reduceLE, implies_true, Nat.reduceEqDiff, reduceIte, ite_true, ite_false, eq_self, Nat.reduceLT, Nat.reduceLeDiff, Nat.reduceAdd, Nat.reduceMul, Nat.reduceSub, intOf, h0, h4, h6, h14, h15, h16]
      refine (Write_ok w2.heap.size (catB (ps.take k)) x.b x.v w4 (hW.ext hE4) (by omega) hS (SlN.of (hp x hxm) hE4 (by omega))).mono ?_
      rintro _ w5 ⟨hK5, hS5⟩
      rw [← catB_take hx] at hS5
      simp only [↓VD, VP, VT, isAggD, reduceCtorEq, Int.reduceEq, Int.reduceNe, Int.reduceLT, Int.reduceLE, implies_true, Nat.reduceEqDiff, reduceIte, ite_true, ite_false, eq_self, Nat.reduceLT, Nat.reduceLeDiff, Nat.reduceAdd, Nat.reduceMul, Nat.reduceSub, intOf, h0, h4, h6, h14, h15, h16]
      refine ⟨⟨hK.trans hK5, k + 1, by omega, ?_, hS5⟩, ?_⟩
      · rw [w64 (by omega) (by omega)]; rfl
      · rw [w64 (by omega) (by omega)]; omega
    · have hkl : k = ps.length := by omega
      subst hkl
      rw [List.take_length] at hS
      refine (shaSum_ok w2.heap.size (catB ps) w4 hsz (hW.ext hE4) hS).mono ?_
      rintro _ w5 ⟨rfl, hE5⟩
      simp only [↓VD, VP, VT, isAggD, reduceCtorEq, Int.reduceEq, Int.reduceNe, Int.reduceLT, Int.reduceLE, implies_true, Nat.reduceEqDiff, reduceIte, ite_true, ite_false, eq_self, Nat.reduceLT, Nat.reduceLeDiff, Nat.reduceAdd, Nat.reduceMul, Nat.reduceSub, intOf, h0, h4, h6, h14, h15, h16]
      refine (cut_ok m (by omega) (shaP (catB ps)) (shaP_len _) w5).mono ?_
      rintro _ w6 ⟨rfl, hE6⟩
      have hcl : (cutP m (shaP (catB ps))).length = 32 := cutP_len _ _ (shaP_len _) (by omega)
      have hB6 : Blk w6 w.heap.size 28 (vbs (List.replicate 32 0)) := ((hK.blk (hN1.blk.ext hE3) (by omega)).ext hE5).ext hE6
      simp only [↓VD, VP, VT, isAggD, reduceCtorEq, Int.reduceEq, Int.reduceNe, Int.reduceLT, Int.reduceLE, implies_true, Nat.reduceEqDiff, reduceIte, ite_true, ite_false, eq_self, Nat.reduceLT, Nat.reduceLeDiff, Nat.reduceAdd, Nat.reduceMul, Nat.reduceSub, intOf, h0, h4, h6, h14, h15, h16]
      refine stAll hB6 rfl (by rw [c28]; omega) (by rw [c28, vbs_len, hcl]) (by rw [c28]; rfl) (vbs_one _) (fun w7 hP => ?_)
      simp only [↓VD, VP, VT, isAggD, reduceCtorEq, Int.reduceEq, Int.reduceNe, Int.reduceLT, Int.reduceLE, implies_true, Nat.reduceEqDiff, reduceIte, ite_true, ite_false, eq_self, Nat.reduceLT, Nat.reduceLeDiff, Nat.reduceAdd, Nat.reduceMul, Nat.reduceSub, intOf, h0, h4, h6, h14, h15, h16]
      refine ldA Tryz.underlying28 rfl hP.blk (by rw [vbs_len, hcl, c28]) ?_
      simp only [↓VD, VP, VT, isAggD, reduceCtorEq, Int.reduceEq, Int.reduceNe, Int.reduceLT, Int.reduceLE, implies_true, Nat.reduceEqDiff, reduceIte, ite_true, ite_false, eq_self, Nat.reduceLT, Nat.reduceLeDiff, Nat.reduceAdd, Nat.reduceMul, Nat.reduceSub, intOf, h0, h4, h6, h14, h15, h16]
      exact ⟨by simp [sumR, sumE, hw, sumP], ((hE4.trans' hE5).trans' hE6).trans (hP.below (Nat.le_refl _))⟩

/-- A sum of one part, as the walks meet it. -/
theorem sum1 (n : Int) (v : Value) (xs : List UInt8) (w w1 : World) (hW : WordsAt w 1) (hv : SlB w v xs) (hN : NewB w w1 22 [v]) (hsz : xs.length < 18446744073709551616) :
    CallK Tryz.prog 44 [.int .i64 n, .slice (some ⟨w.heap.size, 0, none⟩) 1 1].toArray w1 fun v w' => v = .tuple [.agg (vbs (sumR n xs)).toArray, .int .i64 (sumE n)].toArray ∧ Ext w w' := by
  have h := dSum_ok n (.slice (some ⟨w.heap.size, 0, none⟩) 1 1) [⟨v, xs⟩] w1 (hW.ext hN.ext) (SlC.of_blk hN.blk (by decide)) (by simpa using hv.ext hN.ext) (by simpa [catB] using hsz)
  refine h.mono ?_
  rintro _ w2 ⟨rfl, hE⟩
  exact ⟨by simp [catB], hN.ext.trans' hE⟩

theorem tagged_ok (y : UInt8) (ps : List UInt8) (v : Value) (w : World) (hv : SlB w v ps) (hsz : ps.length + 1 ≤ 140737488355328) :
    CallK Tryz.prog 75 [.int .u8 y.toNat, v].toArray w fun v' w' => SlB w' v' (y :: ps) ∧ Ext w w' := by
  refine enterT Tryz.func75 rfl Tryz.ntmps75 Tryz.results75 rfl (by decide) ?_
  simp only [↓VD, VP, VT, isAggD, reduceCtorEq, Int.reduceEq, Int.reduceNe, Int.reduceLT, Int.reduceLE, implies_true, Nat.reduceEqDiff, reduceIte, ite_true, ite_false, eq_self, Nat.reduceLT, Nat.reduceLeDiff, Nat.reduceAdd, Nat.reduceMul, Nat.reduceSub, intOf]
  intro w1 hN1
  have s1 := hN1.size
  refine (U8_ok w.heap.size w.heap.size [] y w1 (by omega) ⟨_, hN1.blk, Own.nil _ _ _ _⟩ (by simp)).mono ?_
  rintro _ w2 ⟨hS2, hK2⟩
  have s2 := hK2.size
  have hE2 : Ext w w2 := hN1.ext.trans (hK2.below (Nat.le_refl _) (by omega))
  simp only [↓VD, VP, VT, isAggD, reduceCtorEq, Int.reduceEq, Int.reduceNe, Int.reduceLT, Int.reduceLE, implies_true, Nat.reduceEqDiff, reduceIte, ite_true, ite_false, eq_self, Nat.reduceLT, Nat.reduceLeDiff, Nat.reduceAdd, Nat.reduceMul, Nat.reduceSub, intOf]
  refine (Raw_ok w.heap.size w.heap.size _ ps v w2 (by omega) hS2 (hv.ext hE2) (by simp; omega)).mono ?_
  rintro _ w3 ⟨hS3, hK3⟩
  have s3 := hK3.size
  have hE3 : Ext w w3 := hE2.trans (hK3.below (Nat.le_refl _) (by omega))
  simp only [↓VD, VP, VT, isAggD, reduceCtorEq, Int.reduceEq, Int.reduceNe, Int.reduceLT, Int.reduceLE, implies_true, Nat.reduceEqDiff, reduceIte, ite_true, ite_false, eq_self, Nat.reduceLT, Nat.reduceLeDiff, Nat.reduceAdd, Nat.reduceMul, Nat.reduceSub, intOf]
  refine (Bytes_ok w.heap.size w.heap.size _ w3 hS3 (by simp; omega)).mono ?_
  rintro v' w4 ⟨hO, hE4⟩
  simp only [↓VD, VP, VT, isAggD, reduceCtorEq, Int.reduceEq, Int.reduceNe, Int.reduceLT, Int.reduceLE, implies_true, Nat.reduceEqDiff, reduceIte, ite_true, ite_false, eq_self, Nat.reduceLT, Nat.reduceLeDiff, Nat.reduceAdd, Nat.reduceMul, Nat.reduceSub, intOf]
  exact ⟨by have := SlC.of_own hO; simpa [SlB] using this, hE3.trans' hE4⟩

theorem KeyInput_ok (ps : List UInt8) (v : Value) (w : World) (hv : SlB w v ps) (hsz : ps.length + 1 ≤ 140737488355328) :
    CallK Tryz.prog 45 [v].toArray w fun v' w' => SlB w' v' (2 :: ps) ∧ Ext w w' := by
  refine enterT Tryz.func45 rfl Tryz.ntmps45 Tryz.results45 rfl (by decide) ?_
  simp only [↓VD, VP, VT, isAggD, reduceCtorEq, Int.reduceEq, Int.reduceNe, Int.reduceLT, Int.reduceLE, implies_true, Nat.reduceEqDiff, reduceIte, ite_true, ite_false, eq_self, Nat.reduceLT, Nat.reduceLeDiff, Nat.reduceAdd, Nat.reduceMul, Nat.reduceSub, intOf]
  refine (tagged_ok 2 ps v w hv hsz).mono ?_
  rintro v' w2 h
  simp only [↓VD, VP, VT, isAggD, reduceCtorEq, Int.reduceEq, Int.reduceNe, Int.reduceLT, Int.reduceLE, implies_true, Nat.reduceEqDiff, reduceIte, ite_true, ite_false, eq_self, Nat.reduceLT, Nat.reduceLeDiff, Nat.reduceAdd, Nat.reduceMul, Nat.reduceSub, intOf]
  exact h

theorem Key_ok (n : Int) (ps : List UInt8) (v : Value) (w : World) (hW : WordsAt w 1) (hv : SlB w v ps) (hsz : ps.length + 1 ≤ 140737488355328) :
    CallK Tryz.prog 21 [.int .i64 n, v].toArray w fun v w' => v = .tuple [.agg (vbs (sumR n (2 :: ps))).toArray, .int .i64 (sumE n)].toArray ∧ Ext w w' := by
  refine enterT Tryz.func21 rfl Tryz.ntmps21 Tryz.results21 rfl (by decide) ?_
  simp only [↓VD, VP, VT, isAggD, reduceCtorEq, Int.reduceEq, Int.reduceNe, Int.reduceLT, Int.reduceLE, implies_true, Nat.reduceEqDiff, reduceIte, ite_true, ite_false, eq_self, Nat.reduceLT, Nat.reduceLeDiff, Nat.reduceAdd, Nat.reduceMul, Nat.reduceSub, intOf]
  intro w1 hN1
  rw [vbs_rep] at hN1
  refine (KeyInput_ok ps v w1 (hv.ext hN1.ext) hsz).mono ?_
  rintro v' w2 ⟨hv2, hE2⟩
  have hv2' := hv2
  obtain ⟨a, c, rfl, _⟩ := hv2'
  simp only [↓VD, VP, VT, isAggD, reduceCtorEq, Int.reduceEq, Int.reduceNe, Int.reduceLT, Int.reduceLE, implies_true, Nat.reduceEqDiff, reduceIte, ite_true, ite_false, eq_self, Nat.reduceLT, Nat.reduceLeDiff, Nat.reduceAdd, Nat.reduceMul, Nat.reduceSub, intOf]
  refine ⟨rfl, rfl, fun w3 hN3 => ?_⟩
  refine (sum1 n _ (2 :: ps) w2 w3 (hW.ext (hN1.ext.trans' hE2)) hv2 hN3 (by simp; omega)).mono ?_
  rintro _ w4 ⟨rfl, hE4⟩
  simp only [↓VD, VP, VT, isAggD, reduceCtorEq, Int.reduceEq, Int.reduceNe, Int.reduceLT, Int.reduceLE, implies_true, Nat.reduceEqDiff, reduceIte, ite_true, ite_false, eq_self, Nat.reduceLT, Nat.reduceLeDiff, Nat.reduceAdd, Nat.reduceMul, Nat.reduceSub, intOf]
  refine stAll (((hN1.blk.ext hE2).ext hE4)) rfl (by rw [c28]; omega) (by rw [c28, vbs_len, sumR_len]) (by rw [c28]; rfl) (vbs_one _) (fun w5 hP => ?_)
  simp only [↓VD, VP, VT, isAggD, reduceCtorEq, Int.reduceEq, Int.reduceNe, Int.reduceLT, Int.reduceLE, implies_true, Nat.reduceEqDiff, reduceIte, ite_true, ite_false, eq_self, Nat.reduceLT, Nat.reduceLeDiff, Nat.reduceAdd, Nat.reduceMul, Nat.reduceSub, intOf]
  refine ldA Tryz.underlying28 rfl hP.blk (by rw [c28, vbs_len, sumR_len]) ?_
  exact ⟨rfl, ((hN1.ext.trans' hE2).trans' hE4).trans (hP.below (Nat.le_refl _))⟩

theorem NoMap_ok (n : Int) (w : World) (hW : WordsAt w 1) :
    CallK Tryz.prog 51 [.int .i64 n].toArray w fun v w' => v = .tuple [.agg (vbs (sumR n [5])).toArray, .int .i64 (sumE n)].toArray ∧ Ext w w' := by
  refine enterT Tryz.func51 rfl Tryz.ntmps51 Tryz.results51 rfl (by decide) ?_
  simp only [↓VD, VP, VT, isAggD, reduceCtorEq, Int.reduceEq, Int.reduceNe, Int.reduceLT, Int.reduceLE, implies_true, Nat.reduceEqDiff, reduceIte, ite_true, ite_false, eq_self, Nat.reduceLT, Nat.reduceLeDiff, Nat.reduceAdd, Nat.reduceMul, Nat.reduceSub, intOf]
  intro w1 hN1
  rw [vbs_rep] at hN1
  refine ⟨rfl, rfl, fun w2 hN2 => ⟨rfl, rfl, fun w3 hN3 => ?_⟩⟩
  have hv2 : SlB w2 (.slice (some ⟨w1.heap.size, 0, none⟩) 1 1) [5] := SlC.of_blk hN2.blk (by decide)
  refine (sum1 n _ [5] w2 w3 (hW.ext (hN1.ext.trans' hN2.ext)) hv2 hN3 (by decide)).mono ?_
  rintro _ w4 ⟨rfl, hE4⟩
  simp only [↓VD, VP, VT, isAggD, reduceCtorEq, Int.reduceEq, Int.reduceNe, Int.reduceLT, Int.reduceLE, implies_true, Nat.reduceEqDiff, reduceIte, ite_true, ite_false, eq_self, Nat.reduceLT, Nat.reduceLeDiff, Nat.reduceAdd, Nat.reduceMul, Nat.reduceSub, intOf]
  refine stAll (((hN1.blk.ext hN2.ext).ext hE4)) rfl (by rw [c28]; omega) (by rw [c28, vbs_len, sumR_len]) (by rw [c28]; rfl) (vbs_one _) (fun w5 hP => ?_)
  simp only [↓VD, VP, VT, isAggD, reduceCtorEq, Int.reduceEq, Int.reduceNe, Int.reduceLT, Int.reduceLE, implies_true, Nat.reduceEqDiff, reduceIte, ite_true, ite_false, eq_self, Nat.reduceLT, Nat.reduceLeDiff, Nat.reduceAdd, Nat.reduceMul, Nat.reduceSub, intOf]
  refine ldA Tryz.underlying28 rfl hP.blk (by rw [c28, vbs_len, sumR_len]) ?_
  exact ⟨rfl, ((hN1.ext.trans' hN2.ext).trans' hE4).trans (hP.below (Nat.le_refl _))⟩

theorem of_ok (n : Int) (v : Value) (xs : List UInt8) (e : Nat) (w : World) (hW : WordsAt w 1) (hv : e = 0 → SlB w v xs) (hsz : xs.length < 18446744073709551616) :
    CallK Tryz.prog 87 [.int .i64 n, v, .int .i64 e].toArray w fun v w' => v = .tuple [.agg (vbs (if e = 0 then sumR n xs else List.replicate 32 0)).toArray, .int .i64 (if e = 0 then sumE n else e : Nat)].toArray ∧ Ext w w' := by
  refine enterT Tryz.func87 rfl Tryz.ntmps87 Tryz.results87 rfl (by decide) ?_
  simp only [↓VD, VP, VT, isAggD, reduceCtorEq, Int.reduceEq, Int.reduceNe, Int.reduceLT, Int.reduceLE, implies_true, Nat.reduceEqDiff, reduceIte, ite_true, ite_false, eq_self, Nat.reduceLT, Nat.reduceLeDiff, Nat.reduceAdd, Nat.reduceMul, Nat.reduceSub, intOf]
  intro w1 hN1
  rw [vbs_rep] at hN1
  refine ⟨fun he => ?_, fun he => ?_⟩
  · have he0 : ¬ e = 0 := by omega
    refine bldC (vbs (List.replicate 32 0)) (by kernel_rfl) ?_
    simp only [↓VD, VP, VT, isAggD, reduceCtorEq, Int.reduceEq, Int.reduceNe, Int.reduceLT, Int.reduceLE, implies_true, Nat.reduceEqDiff, reduceIte, ite_true, ite_false, eq_self, Nat.reduceLT, Nat.reduceLeDiff, Nat.reduceAdd, Nat.reduceMul, Nat.reduceSub, intOf]
    refine stAll hN1.blk rfl (by rw [c28]; omega) (by rw [c28]; rfl) (by rw [c28]; rfl) (vbs_one _) (fun w3 hP => ?_)
    simp only [↓VD, VP, VT, isAggD, reduceCtorEq, Int.reduceEq, Int.reduceNe, Int.reduceLT, Int.reduceLE, implies_true, Nat.reduceEqDiff, reduceIte, ite_true, ite_false, eq_self, Nat.reduceLT, Nat.reduceLeDiff, Nat.reduceAdd, Nat.reduceMul, Nat.reduceSub, intOf]
    refine ldA Tryz.underlying28 rfl hP.blk (by rw [c28]; rfl) ?_
    rw [if_neg he0, if_neg he0]
    exact ⟨rfl, hN1.ext.trans (hP.below (Nat.le_refl _))⟩
  · have he0 : e = 0 := by omega
    subst he0
    have hv1 := (hv rfl).ext hN1.ext
    have hv2 := hv1
    obtain ⟨a, c, rfl, _⟩ := hv2
    simp only [↓VD, VP, VT, isAggD, reduceCtorEq, Int.reduceEq, Int.reduceNe, Int.reduceLT, Int.reduceLE, implies_true, Nat.reduceEqDiff, reduceIte, ite_true, ite_false, eq_self, Nat.reduceLT, Nat.reduceLeDiff, Nat.reduceAdd, Nat.reduceMul, Nat.reduceSub, intOf]
    refine ⟨rfl, rfl, fun w3 hN3 => ?_⟩
    refine (sum1 n _ xs w1 w3 (hW.ext hN1.ext) hv1 hN3 hsz).mono ?_
    rintro _ w4 ⟨rfl, hE4⟩
    simp only [↓VD, VP, VT, isAggD, reduceCtorEq, Int.reduceEq, Int.reduceNe, Int.reduceLT, Int.reduceLE, implies_true, Nat.reduceEqDiff, reduceIte, ite_true, ite_false, eq_self, Nat.reduceLT, Nat.reduceLeDiff, Nat.reduceAdd, Nat.reduceMul, Nat.reduceSub, intOf]
    refine stAll (hN1.blk.ext hE4) rfl (by rw [c28]; omega) (by rw [c28, vbs_len, sumR_len]) (by rw [c28]; rfl) (vbs_one _) (fun w5 hP => ?_)
    simp only [↓VD, VP, VT, isAggD, reduceCtorEq, Int.reduceEq, Int.reduceNe, Int.reduceLT, Int.reduceLE, implies_true, Nat.reduceEqDiff, reduceIte, ite_true, ite_false, eq_self, Nat.reduceLT, Nat.reduceLeDiff, Nat.reduceAdd, Nat.reduceMul, Nat.reduceSub, intOf]
    refine ldA Tryz.underlying28 rfl hP.blk (by rw [c28, vbs_len, sumR_len]) ?_
    exact ⟨rfl, (hN1.ext.trans' hE4).trans (hP.below (Nat.le_refl _))⟩

/-! ### Buckets -/
/-- A pair with what its slices hold. -/
structure PR where
  kv : Value
  vv : Value
  k : List UInt8
  v : List UInt8
def PR.cells (p : PR) : List Value := [p.kv, p.vv]
def PR.dat (p : PR) : List UInt8 × List UInt8 := (p.k, p.v)
/-- Pairs that may be read. -/
def PairsAt (w : World) (v : Value) (ps : List PR) : Prop := SlC w v ps.length (ps.flatMap PR.cells) ∧ ∀ p ∈ ps, SlB w p.kv p.k ∧ SlB w p.vv p.v
theorem PairsAt.ext {w w' : World} {v : Value} {ps : List PR} (h : PairsAt w v ps) (e : Ext w w') : PairsAt w' v ps := ⟨h.1.ext e, fun p hp => ⟨(h.2 p hp).1.ext e, (h.2 p hp).2.ext e⟩⟩
def pairsB (ps : List (List UInt8 × List UInt8)) : List UInt8 := ps.flatMap fun p => blobP p.1 ++ blobP p.2
def bucketP (ps : List (List UInt8 × List UInt8)) : List UInt8 := 3 :: (uvarP ps.length ++ pairsB ps)
theorem pairsB_take {ps : List (List UInt8 × List UInt8)} {k : Nat} {x : List UInt8 × List UInt8} (h : ps[k]? = some x) : pairsB (ps.take (k + 1)) = pairsB (ps.take k) ++ (blobP x.1 ++ blobP x.2) := by
  obtain ⟨hk, rfl⟩ := List.getElem?_eq_some_iff.1 h
  rw [List.take_succ_eq_append_getElem hk, pairsB, pairsB, List.flatMap_append]
  simp
theorem pairsB_split (ps : List (List UInt8 × List UInt8)) (k : Nat) : pairsB ps = pairsB (ps.take k) ++ pairsB (ps.drop k) := by rw [pairsB, pairsB, pairsB, ← List.flatMap_append, List.take_append_drop]

theorem BucketInput_ok (v : Value) (ps : List PR) (w : World) (hv : PairsAt w v ps) (hsz : (bucketP (ps.map PR.dat)).length + 16 ≤ 140737488355328) :
    CallK Tryz.prog 82 [v].toArray w fun v' w' => Own w' w.heap.size 5 1 v' (bucketP (ps.map PR.dat)).length (vbs (bucketP (ps.map PR.dat))) ∧ Ext w w' := by
  obtain ⟨⟨a, c, rfl, hnc, hcm, hc⟩, hp⟩ := hv
  have hlen : (bucketP (ps.map PR.dat)).length = 1 + ((uvarP ps.length).length + (pairsB (ps.map PR.dat)).length) := by simp [bucketP]; omega
  refine enterT Tryz.func82 rfl Tryz.ntmps82 Tryz.results82 rfl (by decide) ?_
  simp only [↓VD, VP, VT, isAggD, reduceCtorEq, Int.reduceEq, Int.reduceNe, Int.reduceLT, Int.reduceLE, implies_true, Nat.reduceEqDiff, reduceIte, ite_true, ite_false, eq_self, Nat.reduceLT, Nat.reduceLeDiff, Nat.reduceAdd, Nat.reduceMul, Nat.reduceSub, intOf]
  intro w1 hN1
  have s1 := hN1.size
  refine (U8_ok w.heap.size w.heap.size [] 3 w1 (by omega) ⟨_, hN1.blk, Own.nil _ _ _ _⟩ (by simp)).mono ?_
  rintro _ w2 ⟨hS2, hK2⟩
  have s2 := hK2.size
  have hE2 : Ext w w2 := hN1.ext.trans (hK2.below (Nat.le_refl _) (by omega))
  simp only [↓VD, VP, VT, isAggD, reduceCtorEq, Int.reduceEq, Int.reduceNe, Int.reduceLT, Int.reduceLE, implies_true, Nat.reduceEqDiff, reduceIte, ite_true, ite_false, eq_self, Nat.reduceLT, Nat.reduceLeDiff, Nat.reduceAdd, Nat.reduceMul, Nat.reduceSub, intOf, (show IntKind.u64.wrap ((ps.length : Int)) = ((ps.length : Nat) : Int) from by rw [wu64 (by omega) (by omega)] <;> omega)]
  refine (Uvar_ok w.heap.size w.heap.size _ ps.length (by omega) w2 (by omega) hS2 (by simp)).mono ?_
  rintro _ w3 ⟨hS3, hK3⟩
  have s3 := hK3.size
  have hE3 : Ext w w3 := hE2.trans (hK3.below (Nat.le_refl _) (by omega))
  simp only [↓VD, VP, VT, isAggD, reduceCtorEq, Int.reduceEq, Int.reduceNe, Int.reduceLT, Int.reduceLE, implies_true, Nat.reduceEqDiff, reduceIte, ite_true, ite_false, eq_self, Nat.reduceLT, Nat.reduceLeDiff, Nat.reduceAdd, Nat.reduceMul, Nat.reduceSub, intOf]
  refine loopT (fun s' w' => Ext w w' ∧ w3.heap.size ≤ w'.heap.size ∧ ∃ k : Nat, k ≤ ps.length ∧ s' 3 = .pointer (some ⟨w.heap.size, 0, none⟩) ∧ s' 11 = .slice a ps.length c ∧ s' 12 = .int .i64 ps.length ∧ s' 13 = .int .i64 k ∧
      Wr w' w.heap.size w.heap.size (3 :: (uvarP ps.length ++ pairsB ((ps.map PR.dat).take k)))) (fun s' _ => ps.length - (intOf (s' 13)).toNat) ?_ ?_
  · simp only [↓VD, VP, VT, isAggD, reduceCtorEq, Int.reduceEq, Int.reduceNe, Int.reduceLT, Int.reduceLE, implies_true, Nat.reduceEqDiff, reduceIte, ite_true, ite_false, eq_self, Nat.reduceLT, Nat.reduceLeDiff, Nat.reduceAdd, Nat.reduceMul, Nat.reduceSub, intOf]
    exact ⟨hE3, Nat.le_refl _, 0, by omega, rfl, by simpa [pairsB] using hS3⟩
  · rintro s4 w4 ⟨hE, hs4, k, hk, h3, h11, h12, h13, hS⟩
    simp only [↓VD, VP, VT, isAggD, reduceCtorEq, Int.reduceEq, Int.reduceNe, Int.reduceLT, Int.reduceLE, implies_true, Nat.reduceEqDiff, reduceIte, ite_true, ite_false, eq_self, Nat.reduceLT, Nat.reduceLeDiff, Nat.reduceAdd, Nat.reduceMul, Nat.reduceSub, intOf, h3, h11, h12, h13]
    refine ⟨fun hlt => ?_, fun hge => ?_⟩
    · have hlt' : k < ps.length := by omega
      obtain ⟨x, hx⟩ : ∃ x, ps[k]? = some x := ⟨_, List.getElem?_eq_getElem hlt'⟩
      have hxm := List.mem_of_getElem? hx
      have hxd : (ps.map PR.dat)[k]? = some x.dat := by simp [hx]
      have hsp := pairsB_split (ps.map PR.dat) (k + 1)
      have htk := pairsB_take hxd
      rw [htk] at hsp
      have hll := congrArg List.length hsp
      simp only [List.length_append, blobP, PR.dat] at hll
      rcases hc with hc | ⟨b, o, rfl, hc⟩
      · exfalso
        have := congrArg List.length hc
        cases ps with
        | nil => simp at hlt'
        | cons p ps => simp [PR.cells] at this
      have hc1 : ∀ j u, (ps.flatMap PR.cells)[j]? = some u → w4.cell? ⟨b, o + j, none⟩ = some u := fun j u hj => by rw [hE.cell (block_lt_of_cell (hc j u hj))]; exact hc j u hj
      simp only [↓VD, VP, VT, isAggD, reduceCtorEq, Int.reduceEq, Int.reduceNe, Int.reduceLT, Int.reduceLE, implies_true, Nat.reduceEqDiff, reduceIte, ite_true, ite_false, eq_self, Nat.reduceLT, Nat.reduceLeDiff, Nat.reduceAdd, Nat.reduceMul, Nat.reduceSub, intOf]
      refine ⟨by omega, by omega, ldE (f := PR.cells) c52 Tryz.underlying52 rfl (fun _ _ => rfl) hc1 hx ?_⟩
      simp only [↓VD, VP, VT, isAggD, reduceCtorEq, Int.reduceEq, Int.reduceNe, Int.reduceLT, Int.reduceLE, implies_true, Nat.reduceEqDiff, reduceIte, ite_true, ite_false, eq_self, Nat.reduceLT, Nat.reduceLeDiff, Nat.reduceAdd, Nat.reduceMul, Nat.reduceSub, intOf]
      intro w5 hN5
      have s5 := hN5.size
      obtain ⟨ka, kn, kc, hkv⟩ : ∃ a n c, x.kv = .slice a n c := by obtain ⟨a, c, h, _⟩ := (hp x hxm).1; exact ⟨_, _, _, h⟩
      obtain ⟨va, vn, vc', hvv⟩ : ∃ a n c, x.vv = .slice a n c := by obtain ⟨a, c, h, _⟩ := (hp x hxm).2; exact ⟨_, _, _, h⟩
      refine stAll (vs := x.cells) hN5.blk rfl (by rw [c52]; omega) (by rw [c52]; rfl) (by rw [c52]; rfl) (by simp [PR.cells, hkv, hvv, oneCellV]) (fun w6 hP6 => ?_)
      have s6 := hP6.size
      have hE6 : Ext w w6 := (hE.trans' hN5.ext).trans (hP6.below (by omega))
      simp only [↓VD, VP, VT, isAggD, reduceCtorEq, Int.reduceEq, Int.reduceNe, Int.reduceLT, Int.reduceLE, implies_true, Nat.reduceEqDiff, reduceIte, ite_true, ite_false, eq_self, Nat.reduceLT, Nat.reduceLeDiff, Nat.reduceAdd, Nat.reduceMul, Nat.reduceSub, intOf, h3, h11, h12, h13]
      refine ldAt (pre := []) (post := [x.vv]) Tryz.underlying22 rfl hP6.blk rfl ?_
      simp only [↓VD, VP, VT, isAggD, reduceCtorEq, Int.reduceEq, Int.reduceNe, Int.reduceLT, Int.reduceLE, implies_true, Nat.reduceEqDiff, reduceIte, ite_true, ite_false, eq_self, Nat.reduceLT, Nat.reduceLeDiff, Nat.reduceAdd, Nat.reduceMul, Nat.reduceSub, intOf, h3, h11, h12, h13]
      have hS6 : Wr w6 w.heap.size w.heap.size (3 :: (uvarP ps.length ++ pairsB ((ps.map PR.dat).take k))) := by
        obtain ⟨y, hB, hO⟩ := hS
        refine ⟨y, hP6.keep (hB.ext hN5.ext) (by have := hB.lt; omega), ?_⟩
        exact (hO.ext hN5.ext).put hN5.blk (by decide) hP6
      refine (Blob_ok w.heap.size w.heap.size _ x.k x.kv w6 w (by omega) (Nat.le_refl _) hS6 (hp x hxm).1 hE6 (Nat.le_refl _) (by simp only [List.length_cons, List.length_append]; omega)).mono ?_
      rintro _ w7 ⟨hS7, hK7⟩
      have s7 := hK7.size
      have hE7 : Ext w w7 := hE6.trans (hK7.below (Nat.le_refl _) (by omega))
      simp only [↓VD, VP, VT, isAggD, reduceCtorEq, Int.reduceEq, Int.reduceNe, Int.reduceLT, Int.reduceLE, implies_true, Nat.reduceEqDiff, reduceIte, ite_true, ite_false, eq_self, Nat.reduceLT, Nat.reduceLeDiff, Nat.reduceAdd, Nat.reduceMul, Nat.reduceSub, intOf, h3, h11, h12, h13]
      refine ldAt (pre := [x.kv]) (post := []) Tryz.underlying22 rfl (hK7.blk hP6.blk (by omega) (by decide)) rfl ?_
      simp only [↓VD, VP, VT, isAggD, reduceCtorEq, Int.reduceEq, Int.reduceNe, Int.reduceLT, Int.reduceLE, implies_true, Nat.reduceEqDiff, reduceIte, ite_true, ite_false, eq_self, Nat.reduceLT, Nat.reduceLeDiff, Nat.reduceAdd, Nat.reduceMul, Nat.reduceSub, intOf, h3, h11, h12, h13]
      refine (Blob_ok w.heap.size w.heap.size _ x.v x.vv w7 w (by omega) (Nat.le_refl _) hS7 (hp x hxm).2 hE7 (Nat.le_refl _) (by simp only [List.length_cons, List.length_append, blobP]; omega)).mono ?_
      rintro _ w8 ⟨hS8, hK8⟩
      have s8 := hK8.size
      have hE8 : Ext w w8 := hE7.trans (hK8.below (Nat.le_refl _) (by omega))
      simp only [↓VD, VP, VT, isAggD, reduceCtorEq, Int.reduceEq, Int.reduceNe, Int.reduceLT, Int.reduceLE, implies_true, Nat.reduceEqDiff, reduceIte, ite_true, ite_false, eq_self, Nat.reduceLT, Nat.reduceLeDiff, Nat.reduceAdd, Nat.reduceMul, Nat.reduceSub, intOf, h3, h11, h12, h13]
      refine ⟨⟨hE8, by omega, k + 1, by omega, ?_, ?_⟩, ?_⟩
      · rw [w64 (by omega) (by omega)]; rfl
      · rw [htk]
        simpa [PR.dat] using hS8
      · rw [w64 (by omega) (by omega)]; omega
    · have hkl : k = ps.length := by omega
      subst hkl
      rw [List.take_of_length_le (by simp)] at hS
      refine (Bytes_ok w.heap.size w.heap.size _ w4 hS (by simp only [List.length_cons, List.length_append]; omega)).mono ?_
      rintro v' w5 ⟨hO, hE5⟩
      simp only [↓VD, VP, VT, isAggD, reduceCtorEq, Int.reduceEq, Int.reduceNe, Int.reduceLT, Int.reduceLE, implies_true, Nat.reduceEqDiff, reduceIte, ite_true, ite_false, eq_self, Nat.reduceLT, Nat.reduceLeDiff, Nat.reduceAdd, Nat.reduceMul, Nat.reduceSub, intOf, h3, h11, h12, h13]
      refine ⟨?_, hE.trans' hE5⟩
      have := hO.base hE.size
      simpa [bucketP] using this

theorem Bucket_ok (n : Int) (v : Value) (ps : List PR) (w : World) (hW : WordsAt w 1) (hv : PairsAt w v ps) (hsz : (bucketP (ps.map PR.dat)).length + 16 ≤ 140737488355328) :
    CallK Tryz.prog 52 [.int .i64 n, v].toArray w fun v w' => v = .tuple [.agg (vbs (sumR n (bucketP (ps.map PR.dat)))).toArray, .int .i64 (sumE n)].toArray ∧ Ext w w' := by
  refine enterT Tryz.func52 rfl Tryz.ntmps52 Tryz.results52 rfl (by decide) ?_
  simp only [↓VD, VP, VT, isAggD, reduceCtorEq, Int.reduceEq, Int.reduceNe, Int.reduceLT, Int.reduceLE, implies_true, Nat.reduceEqDiff, reduceIte, ite_true, ite_false, eq_self, Nat.reduceLT, Nat.reduceLeDiff, Nat.reduceAdd, Nat.reduceMul, Nat.reduceSub, intOf]
  intro w1 hN1
  rw [vbs_rep] at hN1
  refine (BucketInput_ok v ps w1 (hv.ext hN1.ext) hsz).mono ?_
  rintro v' w2 ⟨hvo, hE2⟩
  have hv2 := SlC.of_own hvo
  obtain ⟨a, c, rfl⟩ := (slv_of hv2 : ∃ a c, v' = .slice a _ c)
  simp only [↓VD, VP, VT, isAggD, reduceCtorEq, Int.reduceEq, Int.reduceNe, Int.reduceLT, Int.reduceLE, implies_true, Nat.reduceEqDiff, reduceIte, ite_true, ite_false, eq_self, Nat.reduceLT, Nat.reduceLeDiff, Nat.reduceAdd, Nat.reduceMul, Nat.reduceSub, intOf]
  refine ⟨rfl, rfl, fun w3 hN3 => ?_⟩
  refine (sum1 n _ (bucketP (ps.map PR.dat)) w2 w3 (hW.ext (hN1.ext.trans' hE2)) hv2 hN3 (by omega)).mono ?_
  rintro _ w4 ⟨rfl, hE4⟩
  simp only [↓VD, VP, VT, isAggD, reduceCtorEq, Int.reduceEq, Int.reduceNe, Int.reduceLT, Int.reduceLE, implies_true, Nat.reduceEqDiff, reduceIte, ite_true, ite_false, eq_self, Nat.reduceLT, Nat.reduceLeDiff, Nat.reduceAdd, Nat.reduceMul, Nat.reduceSub, intOf]
  refine stAll (((hN1.blk.ext hE2).ext hE4)) rfl (by rw [c28]; omega) (by rw [c28, vbs_len, sumR_len]) (by rw [c28]; rfl) (vbs_one _) (fun w5 hP => ?_)
  simp only [↓VD, VP, VT, isAggD, reduceCtorEq, Int.reduceEq, Int.reduceNe, Int.reduceLT, Int.reduceLE, implies_true, Nat.reduceEqDiff, reduceIte, ite_true, ite_false, eq_self, Nat.reduceLT, Nat.reduceLeDiff, Nat.reduceAdd, Nat.reduceMul, Nat.reduceSub, intOf]
  refine ldA Tryz.underlying28 rfl hP.blk (by rw [c28, vbs_len, sumR_len]) ?_
  exact ⟨rfl, ((hN1.ext.trans' hE2).trans' hE4).trans (hP.below (Nat.le_refl _))⟩

end Go.Proofs.YticfalbgplifoaaGreatDoor
