/-
  The walks of package digest, second part: sums of parts, keys, buckets, branches. Conditions: as stated in each theorem. The walks of the reference's lists and digests (packages notaryref01, notaryref03). Conditions: as stated in each theorem. The walks of package digest, third part: branches. Conditions: as stated in each theorem.
-/
import Derived.Test.YthlkfjoibjhaiaaGreatDoorMHproofKeeps8
/-! DigB -/
namespace Go.Proofs.YthlkfjoibjhaiaaGreatDoor
set_option maxRecDepth 100000
set_option maxHeartbeats 2000000
open Go Go.RowKit
set_option linter.unusedVariables false
set_option linter.unusedSimpArgs false

/-- A slice of bytes with what it holds. -/
structure BR where
  v : Value
  b : List UInt8
def catB (ps : List BR) : List UInt8 := ps.flatMap (·.b)
theorem catB_take {ps : List BR} {k : Nat} {x : BR} (h : ps[k]? = some x) : catB (ps.take (k + 1)) = catB (ps.take k) ++ x.b := by
  obtain ⟨hk, rfl⟩ := List.getElem?_eq_some_iff.1 h
  rw [List.take_succ_eq_append_getElem hk, catB, catB, List.flatMap_append]
  simp
/-- What a sum of a width answers. -/
def sumR (n : Int) (xs : List UInt8) : List UInt8 := if widB n = true then sumP n.toNat xs else List.replicate 32 0
def sumE (n : Int) : Nat := if widB n = true then 0 else 1
theorem sumR_len (n : Int) (xs : List UInt8) : (sumR n xs).length = 32 := by
  unfold sumR
  split
  · rename_i h
    have := (widB_iff n).1 h
    exact sumP_len _ _ (by omega)
  · simp

theorem dSum_ok (n : Int) (v : Value) (ps : List BR) (w : World) (hW : WordsAt w 1) (hv : SlC w v ps.length (ps.map (·.v))) (hp : ∀ p ∈ ps, SlB w p.v p.b) (hsz : (catB ps).length < 18446744073709551616) :
    CallK Tryz.prog 153 [.int .i64 n, v].toArray w fun v w' => v = .tuple [.agg (vbs (sumR n (catB ps))).toArray, .int .i64 (sumE n)].toArray ∧ Ext w w' := by
  obtain ⟨a, c, rfl, hnc, hcm, hc⟩ := hv
  have hgw := hW.lt
  refine enterT Tryz.func153 rfl Tryz.ntmps153 Tryz.results153 rfl (by decide) ?_
  simp only [↓VD, VP, VT, isAggD, reduceCtorEq, Int.reduceEq, Int.reduceNe, Int.reduceLT, Int.reduceLE, implies_true, Nat.reduceEqDiff, reduceIte, ite_true, ite_false, eq_self, Nat.reduceLT, Nat.reduceLeDiff, Nat.reduceAdd, Nat.reduceMul, Nat.reduceSub, intOf]
  intro w1 hN1
  have s1 := hN1.size
  rw [vbs_rep] at hN1
  refine (width_ok n w1).mono ?_
  rintro _ w2 ⟨rfl, rfl⟩
  cases hw : widB n
  · simp only [↓VD, VP, VT, isAggD, reduceCtorEq, Int.reduceEq, Int.reduceNe, Int.reduceLT, Int.reduceLE, implies_true, Nat.reduceEqDiff, reduceIte, ite_true, ite_false, eq_self, Nat.reduceLT, Nat.reduceLeDiff, Nat.reduceAdd, Nat.reduceMul, Nat.reduceSub, intOf, hw]
    refine bldC (vbs (List.replicate 32 0)) (by kernel_rfl) ?_
    simp only [↓VD, VP, VT, isAggD, reduceCtorEq, Int.reduceEq, Int.reduceNe, Int.reduceLT, Int.reduceLE, implies_true, Nat.reduceEqDiff, reduceIte, ite_true, ite_false, eq_self, Nat.reduceLT, Nat.reduceLeDiff, Nat.reduceAdd, Nat.reduceMul, Nat.reduceSub, intOf]
    refine stAll hN1.blk rfl (by rw [c28]; omega) (by rw [c28]; rfl) (by rw [c28]; rfl) (vbs_one _) (fun w3 hP => ?_)
    simp only [↓VD, VP, VT, isAggD, reduceCtorEq, Int.reduceEq, Int.reduceNe, Int.reduceLT, Int.reduceLE, implies_true, Nat.reduceEqDiff, reduceIte, ite_true, ite_false, eq_self, Nat.reduceLT, Nat.reduceLeDiff, Nat.reduceAdd, Nat.reduceMul, Nat.reduceSub, intOf]
    refine ldA Tryz.underlying28 rfl hP.blk (by rw [c28]; rfl) ?_
    simp only [↓VD, VP, VT, isAggD, reduceCtorEq, Int.reduceEq, Int.reduceNe, Int.reduceLT, Int.reduceLE, implies_true, Nat.reduceEqDiff, reduceIte, ite_true, ite_false, eq_self, Nat.reduceLT, Nat.reduceLeDiff, Nat.reduceAdd, Nat.reduceMul, Nat.reduceSub, intOf]
    exact ⟨by simp [sumR, sumE, hw], hN1.ext.trans (hP.below (Nat.le_refl _))⟩
  have hwn := (widB_iff n).1 hw
  obtain ⟨m, rfl⟩ : ∃ m : Nat, n = m := ⟨n.toNat, by omega⟩
  simp only [↓VD, VP, VT, isAggD, reduceCtorEq, Int.reduceEq, Int.reduceNe, Int.reduceLT, Int.reduceLE, implies_true, Nat.reduceEqDiff, reduceIte, ite_true, ite_false, eq_self, Nat.reduceLT, Nat.reduceLeDiff, Nat.reduceAdd, Nat.reduceMul, Nat.reduceSub, intOf, hw]
  refine (New_ok w2).mono ?_
  rintro _ w3 ⟨rfl, hE3, s3, hS3⟩
  simp only [↓VD, VP, VT, isAggD, reduceCtorEq, Int.reduceEq, Int.reduceNe, Int.reduceLT, Int.reduceLE, implies_true, Nat.reduceEqDiff, reduceIte, ite_true, ite_false, eq_self, Nat.reduceLT, Nat.reduceLeDiff, Nat.reduceAdd, Nat.reduceMul, Nat.reduceSub, intOf]
  refine loopT (fun s' w' => KeepB w3 w' w2.heap.size ∧ ∃ k : Nat, k ≤ ps.length ∧ s' 0 = .int .i64 m ∧ s' 4 = .pointer (some ⟨w.heap.size, 0, none⟩) ∧ s' 6 = .pointer (some ⟨w2.heap.size, 0, none⟩) ∧ s' 14 = .slice a ps.length c ∧ s' 15 = .int .i64 ps.length ∧ s' 16 = .int .i64 k ∧
      St w' w2.heap.size (catB (ps.take k))) (fun s' _ => ps.length - (intOf (s' 16)).toNat) ?_ ?_
  · simp only [↓VD, VP, VT, isAggD, reduceCtorEq, Int.reduceEq, Int.reduceNe, Int.reduceLT, Int.reduceLE, implies_true, Nat.reduceEqDiff, reduceIte, ite_true, ite_false, eq_self, Nat.reduceLT, Nat.reduceLeDiff, Nat.reduceAdd, Nat.reduceMul, Nat.reduceSub, intOf]
    exact ⟨KeepB.rfl' _ _, 0, by omega, rfl, by simpa [catB] using hS3⟩
  · rintro s4 w4 ⟨hK, k, hk, h0, h4, h6, h14, h15, h16, hS⟩
    have hE23 : Ext w w3 := hN1.ext.trans' hE3
    have hE4 : Ext w w4 := hE23.trans (hK.below (by omega) (by omega))
    simp only [↓VD, VP, VT, isAggD, reduceCtorEq, Int.reduceEq, Int.reduceNe, Int.reduceLT, Int.reduceLE, implies_true, Nat.reduceEqDiff, reduceIte, ite_true, ite_false, eq_self, Nat.reduceLT, Nat.reduceLeDiff, Nat.reduceAdd, Nat.reduceMul, Nat.reduceSub, intOf, h0, h4, h6, h14, h15, h16]
    refine ⟨fun hlt => ?_, fun hge => ?_⟩
    · have hlt' : k < ps.length := by omega
      obtain ⟨x, hx⟩ : ∃ x, ps[k]? = some x := ⟨_, List.getElem?_eq_getElem hlt'⟩
      have hxm := List.mem_of_getElem? hx
      rcases hc with hc | ⟨b, o, rfl, hc⟩
      · exfalso
        have := congrArg List.length hc
        simp at this; simp [this] at hlt'
      simp only [↓VD, VP, VT, isAggD, reduceCtorEq, Int.reduceEq, Int.reduceNe, Int.reduceLT, Int.reduceLE, implies_true, Nat.reduceEqDiff, reduceIte, ite_true, ite_false, eq_self, Nat.reduceLT, Nat.reduceLeDiff, Nat.reduceAdd, Nat.reduceMul, Nat.reduceSub, intOf]
      refine ⟨by omega, by omega, ld1 Tryz.underlying22 rfl (v := x.v) (by rw [hE4.cell (block_lt_of_cell (hc k x.v (by simp [hx])))]; exact hc k x.v (by simp [hx])) ?_⟩
      simp only [↓VD, VP, VT, isAggD, reduceCtorEq, Int.reduceEq, Int.reduceNe, Int.reduceLT, Int.reduceLE, implies_true, Nat.reduceEqDiff, reduceIte, ite_true, ite_false, eq_self, Nat.reduceLT, Nat.reduceLeDiff, Nat.reduceAdd, Nat.reduceMul, Nat.reduceSub, intOf, h0, h4, h6, h14, h15, h16]
      refine (Write_ok w2.heap.size (catB (ps.take k)) x.b x.v w4 (hW.ext hE4) (by omega) hS (SlN.of (hp x hxm) hE4 (by omega))).mono ?_
      rintro _ w5 ⟨hK5, hS5⟩
      rw [← catB_take hx] at hS5
      simp only [↓VD, VP, VT, isAggD, reduceCtorEq, Int.reduceEq, Int.reduceNe, Int.reduceLT, Int.reduceLE, implies_true, Nat.reduceEqDiff, reduceIte, ite_true, ite_false, eq_self, Nat.reduceLT, Nat.reduceLeDiff, Nat.reduceAdd, Nat.reduceMul, Nat.reduceSub, intOf, h0, h4, h6, h14, h15, h16]
      refine ⟨⟨hK.trans hK5, k + 1, by omega, ?_, hS5⟩, ?_⟩
      · rw [w64 (by omega) (by omega)]; rfl
      · rw [w64 (by omega) (by omega)]; omega
    · have hkl : k = ps.length := by omega
      subst hkl
      rw [List.take_length] at hS
      refine (shaSum_ok w2.heap.size (catB ps) w4 hsz (hW.ext hE4) hS).mono ?_
      rintro _ w5 ⟨rfl, hE5⟩
      simp only [↓VD, VP, VT, isAggD, reduceCtorEq, Int.reduceEq, Int.reduceNe, Int.reduceLT, Int.reduceLE, implies_true, Nat.reduceEqDiff, reduceIte, ite_true, ite_false, eq_self, Nat.reduceLT, Nat.reduceLeDiff, Nat.reduceAdd, Nat.reduceMul, Nat.reduceSub, intOf, h0, h4, h6, h14, h15, h16]
      refine (cut_ok m (by omega) (shaP (catB ps)) (shaP_len _) w5).mono ?_
      rintro _ w6 ⟨rfl, hE6⟩
      have hcl : (cutP m (shaP (catB ps))).length = 32 := cutP_len _ _ (shaP_len _) (by omega)
      have hB6 : Blk w6 w.heap.size 28 (vbs (List.replicate 32 0)) := ((hK.blk (hN1.blk.ext hE3) (by omega)).ext hE5).ext hE6
      simp only [↓VD, VP, VT, isAggD, reduceCtorEq, Int.reduceEq, Int.reduceNe, Int.reduceLT, Int.reduceLE, implies_true, Nat.reduceEqDiff, reduceIte, ite_true, ite_false, eq_self, Nat.reduceLT, Nat.reduceLeDiff, Nat.reduceAdd, Nat.reduceMul, Nat.reduceSub, intOf, h0, h4, h6, h14, h15, h16]
      refine stAll hB6 rfl (by rw [c28]; omega) (by rw [c28, vbs_len, hcl]) (by rw [c28]; rfl) (vbs_one _) (fun w7 hP => ?_)
      simp only [↓VD, VP, VT, isAggD, reduceCtorEq, Int.reduceEq, Int.reduceNe, Int.reduceLT, Int.reduceLE, implies_true, Nat.reduceEqDiff, reduceIte, ite_true, ite_false, eq_self, Nat.reduceLT, Nat.reduceLeDiff, Nat.reduceAdd, Nat.reduceMul, Nat.reduceSub, intOf, h0, h4, h6, h14, h15, h16]
      refine ldA Tryz.underlying28 rfl hP.blk (by rw [vbs_len, hcl, c28]) ?_
      simp only [↓VD, VP, VT, isAggD, reduceCtorEq, Int.reduceEq, Int.reduceNe, Int.reduceLT, Int.reduceLE, implies_true, Nat.reduceEqDiff, reduceIte, ite_true, ite_false, eq_self, Nat.reduceLT, Nat.reduceLeDiff, Nat.reduceAdd, Nat.reduceMul, Nat.reduceSub, intOf, h0, h4, h6, h14, h15, h16]
      exact ⟨by simp [sumR, sumE, hw, sumP], ((hE4.trans' hE5).trans' hE6).trans (hP.below (Nat.le_refl _))⟩

/-- A sum of one part, as the walks meet it. -/
theorem sum1 (n : Int) (v : Value) (xs : List UInt8) (w w1 : World) (hW : WordsAt w 1) (hv : SlB w v xs) (hN : NewB w w1 22 [v]) (hsz : xs.length < 18446744073709551616) :
    CallK Tryz.prog 153 [.int .i64 n, .slice (some ⟨w.heap.size, 0, none⟩) 1 1].toArray w1 fun v w' => v = .tuple [.agg (vbs (sumR n xs)).toArray, .int .i64 (sumE n)].toArray ∧ Ext w w' := by
  have h := dSum_ok n (.slice (some ⟨w.heap.size, 0, none⟩) 1 1) [⟨v, xs⟩] w1 (hW.ext hN.ext) (SlC.of_blk hN.blk (by decide)) (by simpa using hv.ext hN.ext) (by simpa [catB] using hsz)
  refine h.mono ?_
  rintro _ w2 ⟨rfl, hE⟩
  exact ⟨by simp [catB], hN.ext.trans' hE⟩

theorem tagged_ok (y : UInt8) (ps : List UInt8) (v : Value) (w : World) (hv : SlB w v ps) (hsz : ps.length + 1 ≤ 140737488355328) :
    CallK Tryz.prog 264 [.int .u8 y.toNat, v].toArray w fun v' w' => SlB w' v' (y :: ps) ∧ Ext w w' := by
  refine enterT Tryz.func264 rfl Tryz.ntmps264 Tryz.results264 rfl (by decide) ?_
  simp only [↓VD, VP, VT, isAggD, reduceCtorEq, Int.reduceEq, Int.reduceNe, Int.reduceLT, Int.reduceLE, implies_true, Nat.reduceEqDiff, reduceIte, ite_true, ite_false, eq_self, Nat.reduceLT, Nat.reduceLeDiff, Nat.reduceAdd, Nat.reduceMul, Nat.reduceSub, intOf]
  intro w1 hN1
  have s1 := hN1.size
  refine (U8_ok w.heap.size w.heap.size [] y w1 (by omega) ⟨_, hN1.blk, Own.nil _ _ _ _⟩ (by simp)).mono ?_
  rintro _ w2 ⟨hS2, hK2⟩
  have s2 := hK2.size
  have hE2 : Ext w w2 := hN1.ext.trans (hK2.below (Nat.le_refl _) (by omega))
  simp only [↓VD, VP, VT, isAggD, reduceCtorEq, Int.reduceEq, Int.reduceNe, Int.reduceLT, Int.reduceLE, implies_true, Nat.reduceEqDiff, reduceIte, ite_true, ite_false, eq_self, Nat.reduceLT, Nat.reduceLeDiff, Nat.reduceAdd, Nat.reduceMul, Nat.reduceSub, intOf]
  refine (Raw_ok w.heap.size w.heap.size _ ps v w2 (by omega) hS2 (hv.ext hE2) (by simp; omega)).mono ?_
  rintro _ w3 ⟨hS3, hK3⟩
  have s3 := hK3.size
  have hE3 : Ext w w3 := hE2.trans (hK3.below (Nat.le_refl _) (by omega))
  simp only [↓VD, VP, VT, isAggD, reduceCtorEq, Int.reduceEq, Int.reduceNe, Int.reduceLT, Int.reduceLE, implies_true, Nat.reduceEqDiff, reduceIte, ite_true, ite_false, eq_self, Nat.reduceLT, Nat.reduceLeDiff, Nat.reduceAdd, Nat.reduceMul, Nat.reduceSub, intOf]
  refine (Bytes_ok w.heap.size w.heap.size _ w3 hS3 (by simp; omega)).mono ?_
  rintro v' w4 ⟨hO, hE4⟩
  simp only [↓VD, VP, VT, isAggD, reduceCtorEq, Int.reduceEq, Int.reduceNe, Int.reduceLT, Int.reduceLE, implies_true, Nat.reduceEqDiff, reduceIte, ite_true, ite_false, eq_self, Nat.reduceLT, Nat.reduceLeDiff, Nat.reduceAdd, Nat.reduceMul, Nat.reduceSub, intOf]
  exact ⟨by have := SlC.of_own hO; simpa [SlB] using this, hE3.trans' hE4⟩

theorem KeyInput_ok (ps : List UInt8) (v : Value) (w : World) (hv : SlB w v ps) (hsz : ps.length + 1 ≤ 140737488355328) :
    CallK Tryz.prog 225 [v].toArray w fun v' w' => SlB w' v' (2 :: ps) ∧ Ext w w' := by
  refine enterT Tryz.func225 rfl Tryz.ntmps225 Tryz.results225 rfl (by decide) ?_
  simp only [↓VD, VP, VT, isAggD, reduceCtorEq, Int.reduceEq, Int.reduceNe, Int.reduceLT, Int.reduceLE, implies_true, Nat.reduceEqDiff, reduceIte, ite_true, ite_false, eq_self, Nat.reduceLT, Nat.reduceLeDiff, Nat.reduceAdd, Nat.reduceMul, Nat.reduceSub, intOf]
  refine (tagged_ok 2 ps v w hv hsz).mono ?_
  rintro v' w2 h
  simp only [↓VD, VP, VT, isAggD, reduceCtorEq, Int.reduceEq, Int.reduceNe, Int.reduceLT, Int.reduceLE, implies_true, Nat.reduceEqDiff, reduceIte, ite_true, ite_false, eq_self, Nat.reduceLT, Nat.reduceLeDiff, Nat.reduceAdd, Nat.reduceMul, Nat.reduceSub, intOf]
  exact h

theorem Key_ok (n : Int) (ps : List UInt8) (v : Value) (w : World) (hW : WordsAt w 1) (hv : SlB w v ps) (hsz : ps.length + 1 ≤ 140737488355328) :
    CallK Tryz.prog 106 [.int .i64 n, v].toArray w fun v w' => v = .tuple [.agg (vbs (sumR n (2 :: ps))).toArray, .int .i64 (sumE n)].toArray ∧ Ext w w' := by
  refine enterT Tryz.func106 rfl Tryz.ntmps106 Tryz.results106 rfl (by decide) ?_
  simp only [↓VD, VP, VT, isAggD, reduceCtorEq, Int.reduceEq, Int.reduceNe, Int.reduceLT, Int.reduceLE, implies_true, Nat.reduceEqDiff, reduceIte, ite_true, ite_false, eq_self, Nat.reduceLT, Nat.reduceLeDiff, Nat.reduceAdd, Nat.reduceMul, Nat.reduceSub, intOf]
  intro w1 hN1
  rw [vbs_rep] at hN1
  refine (KeyInput_ok ps v w1 (hv.ext hN1.ext) hsz).mono ?_
  rintro v' w2 ⟨hv2, hE2⟩
  have hv2' := hv2
  obtain ⟨a, c, rfl, _⟩ := hv2'
  simp only [↓VD, VP, VT, isAggD, reduceCtorEq, Int.reduceEq, Int.reduceNe, Int.reduceLT, Int.reduceLE, implies_true, Nat.reduceEqDiff, reduceIte, ite_true, ite_false, eq_self, Nat.reduceLT, Nat.reduceLeDiff, Nat.reduceAdd, Nat.reduceMul, Nat.reduceSub, intOf]
  refine ⟨rfl, rfl, fun w3 hN3 => ?_⟩
  refine (sum1 n _ (2 :: ps) w2 w3 (hW.ext (hN1.ext.trans' hE2)) hv2 hN3 (by simp; omega)).mono ?_
  rintro _ w4 ⟨rfl, hE4⟩
  simp only [↓VD, VP, VT, isAggD, reduceCtorEq, Int.reduceEq, Int.reduceNe, Int.reduceLT, Int.reduceLE, implies_true, Nat.reduceEqDiff, reduceIte, ite_true, ite_false, eq_self, Nat.reduceLT, Nat.reduceLeDiff, Nat.reduceAdd, Nat.reduceMul, Nat.reduceSub, intOf]
  refine stAll (((hN1.blk.ext hE2).ext hE4)) rfl (by rw [c28]; omega) (by rw [c28, vbs_len, sumR_len]) (by rw [c28]; rfl) (vbs_one _) (fun w5 hP => ?_)
  simp only [↓VD, VP, VT, isAggD, reduceCtorEq, Int.reduceEq, Int.reduceNe, Int.reduceLT, Int.reduceLE, implies_true, Nat.reduceEqDiff, reduceIte, ite_true, ite_false, eq_self, Nat.reduceLT, Nat.reduceLeDiff, Nat.reduceAdd, Nat.reduceMul, Nat.reduceSub, intOf]
  refine ldA Tryz.underlying28 rfl hP.blk (by rw [c28, vbs_len, sumR_len]) ?_
  exact ⟨rfl, ((hN1.ext.trans' hE2).trans' hE4).trans (hP.below (Nat.le_refl _))⟩

theorem of_ok (n : Int) (v : Value) (xs : List UInt8) (e : Nat) (w : World) (hW : WordsAt w 1) (hv : e = 0 → SlB w v xs) (hsz : xs.length < 18446744073709551616) :
    CallK Tryz.prog 160 [.int .i64 n, v, .int .i64 e].toArray w fun v w' => v = .tuple [.agg (vbs (if e = 0 then sumR n xs else List.replicate 32 0)).toArray, .int .i64 (if e = 0 then sumE n else e : Nat)].toArray ∧ Ext w w' := by
  refine enterT Tryz.func160 rfl Tryz.ntmps160 Tryz.results160 rfl (by decide) ?_
  simp only [↓VD, VP, VT, isAggD, reduceCtorEq, Int.reduceEq, Int.reduceNe, Int.reduceLT, Int.reduceLE, implies_true, Nat.reduceEqDiff, reduceIte, ite_true, ite_false, eq_self, Nat.reduceLT, Nat.reduceLeDiff, Nat.reduceAdd, Nat.reduceMul, Nat.reduceSub, intOf]
  intro w1 hN1
  rw [vbs_rep] at hN1
  refine ⟨fun he => ?_, fun he => ?_⟩
  · have he0 : ¬ e = 0 := by omega
    refine bldC (vbs (List.replicate 32 0)) (by kernel_rfl) ?_
    simp only [↓VD, VP, VT, isAggD, reduceCtorEq, Int.reduceEq, Int.reduceNe, Int.reduceLT, Int.reduceLE, implies_true, Nat.reduceEqDiff, reduceIte, ite_true, ite_false, eq_self, Nat.reduceLT, Nat.reduceLeDiff, Nat.reduceAdd, Nat.reduceMul, Nat.reduceSub, intOf]
    refine stAll hN1.blk rfl (by rw [c28]; omega) (by rw [c28]; rfl) (by rw [c28]; rfl) (vbs_one _) (fun w3 hP => ?_)
    simp only [↓VD, VP, VT, isAggD, reduceCtorEq, Int.reduceEq, Int.reduceNe, Int.reduceLT, Int.reduceLE, implies_true, Nat.reduceEqDiff, reduceIte, ite_true, ite_false, eq_self, Nat.reduceLT, Nat.reduceLeDiff, Nat.reduceAdd, Nat.reduceMul, Nat.reduceSub, intOf]
    refine ldA Tryz.underlying28 rfl hP.blk (by rw [c28]; rfl) ?_
    rw [if_neg he0, if_neg he0]
    exact ⟨rfl, hN1.ext.trans (hP.below (Nat.le_refl _))⟩
  · have he0 : e = 0 := by omega
    subst he0
    have hv1 := (hv rfl).ext hN1.ext
    have hv2 := hv1
    obtain ⟨a, c, rfl, _⟩ := hv2
    simp only [↓VD, VP, VT, isAggD, reduceCtorEq, Int.reduceEq, Int.reduceNe, Int.reduceLT, Int.reduceLE, implies_true, Nat.reduceEqDiff, reduceIte, ite_true, ite_false, eq_self, Nat.reduceLT, Nat.reduceLeDiff, Nat.reduceAdd, Nat.reduceMul, Nat.reduceSub, intOf]
    refine ⟨rfl, rfl, fun w3 hN3 => ?_⟩
    refine (sum1 n _ xs w1 w3 (hW.ext hN1.ext) hv1 hN3 hsz).mono ?_
    rintro _ w4 ⟨rfl, hE4⟩
    simp only [↓VD, VP, VT, isAggD, reduceCtorEq, Int.reduceEq, Int.reduceNe, Int.reduceLT, Int.reduceLE, implies_true, Nat.reduceEqDiff, reduceIte, ite_true, ite_false, eq_self, Nat.reduceLT, Nat.reduceLeDiff, Nat.reduceAdd, Nat.reduceMul, Nat.reduceSub, intOf]
    refine stAll (hN1.blk.ext hE4) rfl (by rw [c28]; omega) (by rw [c28, vbs_len, sumR_len]) (by rw [c28]; rfl) (vbs_one _) (fun w5 hP => ?_)
    simp only [↓VD, VP, VT, isAggD, reduceCtorEq, Int.reduceEq, Int.reduceNe, Int.reduceLT, Int.reduceLE, implies_true, Nat.reduceEqDiff, reduceIte, ite_true, ite_false, eq_self, Nat.reduceLT, Nat.reduceLeDiff, Nat.reduceAdd, Nat.reduceMul, Nat.reduceSub, intOf]
    refine ldA Tryz.underlying28 rfl hP.blk (by rw [c28, vbs_len, sumR_len]) ?_
    exact ⟨rfl, (hN1.ext.trans' hE4).trans (hP.below (Nat.le_refl _))⟩

/-! ### Buckets -/
/-- A pair with what its slices hold. -/
structure PR where
  kv : Value
  vv : Value
  k : List UInt8
  v : List UInt8
def PR.cells (p : PR) : List Value := [p.kv, p.vv]
def PR.dat (p : PR) : List UInt8 × List UInt8 := (p.k, p.v)
/-- Pairs that may be read. -/
def PairsAt (w : World) (v : Value) (ps : List PR) : Prop := SlC w v ps.length (ps.flatMap PR.cells) ∧ ∀ p ∈ ps, SlB w p.kv p.k ∧ SlB w p.vv p.v
theorem PairsAt.ext {w w' : World} {v : Value} {ps : List PR} (h : PairsAt w v ps) (e : Ext w w') : PairsAt w' v ps := ⟨h.1.ext e, fun p hp => ⟨(h.2 p hp).1.ext e, (h.2 p hp).2.ext e⟩⟩
def pairsB (ps : List (List UInt8 × List UInt8)) : List UInt8 := ps.flatMap fun p => blobP p.1 ++ blobP p.2
def bucketP (ps : List (List UInt8 × List UInt8)) : List UInt8 := 3 :: (uvarP ps.length ++ pairsB ps)
theorem pairsB_take {ps : List (List UInt8 × List UInt8)} {k : Nat} {x : List UInt8 × List UInt8} (h : ps[k]? = some x) : pairsB (ps.take (k + 1)) = pairsB (ps.take k) ++ (blobP x.1 ++ blobP x.2) := by
  obtain ⟨hk, rfl⟩ := List.getElem?_eq_some_iff.1 h
  rw [List.take_succ_eq_append_getElem hk, pairsB, pairsB, List.flatMap_append]
  simp
theorem pairsB_split (ps : List (List UInt8 × List UInt8)) (k : Nat) : pairsB ps = pairsB (ps.take k) ++ pairsB (ps.drop k) := by rw [pairsB, pairsB, pairsB, ← List.flatMap_append, List.take_append_drop]

theorem BucketInput_ok (v : Value) (ps : List PR) (w : World) (hv : PairsAt w v ps) (hsz : (bucketP (ps.map PR.dat)).length + 16 ≤ 140737488355328) :
    CallK Tryz.prog 321 [v].toArray w fun v' w' => Own w' w.heap.size 5 1 v' (bucketP (ps.map PR.dat)).length (vbs (bucketP (ps.map PR.dat))) ∧ Ext w w' := by
  obtain ⟨⟨a, c, rfl, hnc, hcm, hc⟩, hp⟩ := hv
  have hlen : (bucketP (ps.map PR.dat)).length = 1 + ((uvarP ps.length).length + (pairsB (ps.map PR.dat)).length) := by simp [bucketP]; omega
  refine enterT Tryz.func321 rfl Tryz.ntmps321 Tryz.results321 rfl (by decide) ?_
  simp only [↓VD, VP, VT, isAggD, reduceCtorEq, Int.reduceEq, Int.reduceNe, Int.reduceLT, Int.reduceLE, implies_true, Nat.reduceEqDiff, reduceIte, ite_true, ite_false, eq_self, Nat.reduceLT, Nat.reduceLeDiff, Nat.reduceAdd, Nat.reduceMul, Nat.reduceSub, intOf]
  intro w1 hN1
  have s1 := hN1.size
  refine (U8_ok w.heap.size w.heap.size [] 3 w1 (by omega) ⟨_, hN1.blk, Own.nil _ _ _ _⟩ (by simp)).mono ?_
  rintro _ w2 ⟨hS2, hK2⟩
  have s2 := hK2.size
  have hE2 : Ext w w2 := hN1.ext.trans (hK2.below (Nat.le_refl _) (by omega))
  simp only [↓VD, VP, VT, isAggD, reduceCtorEq, Int.reduceEq, Int.reduceNe, Int.reduceLT, Int.reduceLE, implies_true, Nat.reduceEqDiff, reduceIte, ite_true, ite_false, eq_self, Nat.reduceLT, Nat.reduceLeDiff, Nat.reduceAdd, Nat.reduceMul, Nat.reduceSub, intOf, (show IntKind.u64.wrap ((ps.length : Int)) = ((ps.length : Nat) : Int) from by rw [wu64 (by omega) (by omega)] <;> omega)]
  refine (Uvar_ok w.heap.size w.heap.size _ ps.length (by omega) w2 (by omega) hS2 (by simp)).mono ?_
  rintro _ w3 ⟨hS3, hK3⟩
  have s3 := hK3.size
  have hE3 : Ext w w3 := hE2.trans (hK3.below (Nat.le_refl _) (by omega))
  simp only [↓VD, VP, VT, isAggD, reduceCtorEq, Int.reduceEq, Int.reduceNe, Int.reduceLT, Int.reduceLE, implies_true, Nat.reduceEqDiff, reduceIte, ite_true, ite_false, eq_self, Nat.reduceLT, Nat.reduceLeDiff, Nat.reduceAdd, Nat.reduceMul, Nat.reduceSub, intOf]
  refine loopT (fun s' w' => Ext w w' ∧ w3.heap.size ≤ w'.heap.size ∧ ∃ k : Nat, k ≤ ps.length ∧ s' 3 = .pointer (some ⟨w.heap.size, 0, none⟩) ∧ s' 11 = .slice a ps.length c ∧ s' 12 = .int .i64 ps.length ∧ s' 13 = .int .i64 k ∧
      Wr w' w.heap.size w.heap.size (3 :: (uvarP ps.length ++ pairsB ((ps.map PR.dat).take k)))) (fun s' _ => ps.length - (intOf (s' 13)).toNat) ?_ ?_
  · simp only [↓VD, VP, VT, isAggD, reduceCtorEq, Int.reduceEq, Int.reduceNe, Int.reduceLT, Int.reduceLE, implies_true, Nat.reduceEqDiff, reduceIte, ite_true, ite_false, eq_self, Nat.reduceLT, Nat.reduceLeDiff, Nat.reduceAdd, Nat.reduceMul, Nat.reduceSub, intOf]
    exact ⟨hE3, Nat.le_refl _, 0, by omega, rfl, by simpa [pairsB] using hS3⟩
  · rintro s4 w4 ⟨hE, hs4, k, hk, h3, h11, h12, h13, hS⟩
    simp only [↓VD, VP, VT, isAggD, reduceCtorEq, Int.reduceEq, Int.reduceNe, Int.reduceLT, Int.reduceLE, implies_true, Nat.reduceEqDiff, reduceIte, ite_true, ite_false, eq_self, Nat.reduceLT, Nat.reduceLeDiff, Nat.reduceAdd, Nat.reduceMul, Nat.reduceSub, intOf, h3, h11, h12, h13]
    refine ⟨fun hlt => ?_, fun hge => ?_⟩
    · have hlt' : k < ps.length := by omega
      obtain ⟨x, hx⟩ : ∃ x, ps[k]? = some x := ⟨_, List.getElem?_eq_getElem hlt'⟩
      have hxm := List.mem_of_getElem? hx
      have hxd : (ps.map PR.dat)[k]? = some x.dat := by simp [hx]
      have hsp := pairsB_split (ps.map PR.dat) (k + 1)
      have htk := pairsB_take hxd
      rw [htk] at hsp
      have hll := congrArg List.length hsp
      simp only [List.length_append, blobP, PR.dat] at hll
      rcases hc with hc | ⟨b, o, rfl, hc⟩
      · exfalso
        have := congrArg List.length hc
        cases ps with
        | nil => simp at hlt'
        | cons p ps => simp [PR.cells] at this
      have hc1 : ∀ j u, (ps.flatMap PR.cells)[j]? = some u → w4.cell? ⟨b, o + j, none⟩ = some u := fun j u hj => by rw [hE.cell (block_lt_of_cell (hc j u hj))]; exact hc j u hj
      simp only [↓VD, VP, VT, isAggD, reduceCtorEq, Int.reduceEq, Int.reduceNe, Int.reduceLT, Int.reduceLE, implies_true, Nat.reduceEqDiff, reduceIte, ite_true, ite_false, eq_self, Nat.reduceLT, Nat.reduceLeDiff, Nat.reduceAdd, Nat.reduceMul, Nat.reduceSub, intOf]
      refine ⟨by omega, by omega, ldE (f := PR.cells) c47 Tryz.underlying47 rfl (fun _ _ => rfl) hc1 hx ?_⟩
      simp only [↓VD, VP, VT, isAggD, reduceCtorEq, Int.reduceEq, Int.reduceNe, Int.reduceLT, Int.reduceLE, implies_true, Nat.reduceEqDiff, reduceIte, ite_true, ite_false, eq_self, Nat.reduceLT, Nat.reduceLeDiff, Nat.reduceAdd, Nat.reduceMul, Nat.reduceSub, intOf]
      intro w5 hN5
      have s5 := hN5.size
      obtain ⟨ka, kn, kc, hkv⟩ : ∃ a n c, x.kv = .slice a n c := by obtain ⟨a, c, h, _⟩ := (hp x hxm).1; exact ⟨_, _, _, h⟩
      obtain ⟨va, vn, vc', hvv⟩ : ∃ a n c, x.vv = .slice a n c := by obtain ⟨a, c, h, _⟩ := (hp x hxm).2; exact ⟨_, _, _, h⟩
      refine stAll (vs := x.cells) hN5.blk rfl (by rw [c47]; omega) (by rw [c47]; rfl) (by rw [c47]; rfl) (by simp [PR.cells, hkv, hvv, oneCellV]) (fun w6 hP6 => ?_)
      have s6 := hP6.size
      have hE6 : Ext w w6 := (hE.trans' hN5.ext).trans (hP6.below (by omega))
      simp only [↓VD, VP, VT, isAggD, reduceCtorEq, Int.reduceEq, Int.reduceNe, Int.reduceLT, Int.reduceLE, implies_true, Nat.reduceEqDiff, reduceIte, ite_true, ite_false, eq_self, Nat.reduceLT, Nat.reduceLeDiff, Nat.reduceAdd, Nat.reduceMul, Nat.reduceSub, intOf, h3, h11, h12, h13]
      refine ldAt (pre := []) (post := [x.vv]) Tryz.underlying22 rfl hP6.blk rfl ?_
      simp only [↓VD, VP, VT, isAggD, reduceCtorEq, Int.reduceEq, Int.reduceNe, Int.reduceLT, Int.reduceLE, implies_true, Nat.reduceEqDiff, reduceIte, ite_true, ite_false, eq_self, Nat.reduceLT, Nat.reduceLeDiff, Nat.reduceAdd, Nat.reduceMul, Nat.reduceSub, intOf, h3, h11, h12, h13]
      have hS6 : Wr w6 w.heap.size w.heap.size (3 :: (uvarP ps.length ++ pairsB ((ps.map PR.dat).take k))) := by
        obtain ⟨y, hB, hO⟩ := hS
        refine ⟨y, hP6.keep (hB.ext hN5.ext) (by have := hB.lt; omega), ?_⟩
        exact (hO.ext hN5.ext).put hN5.blk (by decide) hP6
      refine (Blob_ok w.heap.size w.heap.size _ x.k x.kv w6 w (by omega) (Nat.le_refl _) hS6 (hp x hxm).1 hE6 (Nat.le_refl _) (by simp only [List.length_cons, List.length_append]; omega)).mono ?_
      rintro _ w7 ⟨hS7, hK7⟩
      have s7 := hK7.size
      have hE7 : Ext w w7 := hE6.trans (hK7.below (Nat.le_refl _) (by omega))
      simp only [↓VD, VP, VT, isAggD, reduceCtorEq, Int.reduceEq, Int.reduceNe, Int.reduceLT, Int.reduceLE, implies_true, Nat.reduceEqDiff, reduceIte, ite_true, ite_false, eq_self, Nat.reduceLT, Nat.reduceLeDiff, Nat.reduceAdd, Nat.reduceMul, Nat.reduceSub, intOf, h3, h11, h12, h13]
      refine ldAt (pre := [x.kv]) (post := []) Tryz.underlying22 rfl (hK7.blk hP6.blk (by omega) (by decide)) rfl ?_
      simp only [↓VD, VP, VT, isAggD, reduceCtorEq, Int.reduceEq, Int.reduceNe, Int.reduceLT, Int.reduceLE, implies_true, Nat.reduceEqDiff, reduceIte, ite_true, ite_false, eq_self, Nat.reduceLT, Nat.reduceLeDiff, Nat.reduceAdd, Nat.reduceMul, Nat.reduceSub, intOf, h3, h11, h12, h13]
      refine (Blob_ok w.heap.size w.heap.size _ x.v x.vv w7 w (by omega) (Nat.le_refl _) hS7 (hp x hxm).2 hE7 (Nat.le_refl _) (by simp only [List.length_cons, List.length_append, blobP]; omega)).mono ?_
      rintro _ w8 ⟨hS8, hK8⟩
      have s8 := hK8.size
      have hE8 : Ext w w8 := hE7.trans (hK8.below (Nat.le_refl _) (by omega))
      simp only [↓VD, VP, VT, isAggD, reduceCtorEq, Int.reduceEq, Int.reduceNe, Int.reduceLT, Int.reduceLE, implies_true, Nat.reduceEqDiff, reduceIte, ite_true, ite_false, eq_self, Nat.reduceLT, Nat.reduceLeDiff, Nat.reduceAdd, Nat.reduceMul, Nat.reduceSub, intOf, h3, h11, h12, h13]
      refine ⟨⟨hE8, by omega, k + 1, by omega, ?_, ?_⟩, ?_⟩
      · rw [w64 (by omega) (by omega)]; rfl
      · rw [htk]
        simpa [PR.dat] using hS8
      · rw [w64 (by omega) (by omega)]; omega
    · have hkl : k = ps.length := by omega
      subst hkl
      rw [List.take_of_length_le (by simp)] at hS
      refine (Bytes_ok w.heap.size w.heap.size _ w4 hS (by simp only [List.length_cons, List.length_append]; omega)).mono ?_
      rintro v' w5 ⟨hO, hE5⟩
      simp only [↓VD, VP, VT, isAggD, reduceCtorEq, Int.reduceEq, Int.reduceNe, Int.reduceLT, Int.reduceLE, implies_true, Nat.reduceEqDiff, reduceIte, ite_true, ite_false, eq_self, Nat.reduceLT, Nat.reduceLeDiff, Nat.reduceAdd, Nat.reduceMul, Nat.reduceSub, intOf, h3, h11, h12, h13]
      refine ⟨?_, hE.trans' hE5⟩
      have := hO.base hE.size
      simpa [bucketP] using this

theorem Bucket_ok (n : Int) (v : Value) (ps : List PR) (w : World) (hW : WordsAt w 1) (hv : PairsAt w v ps) (hsz : (bucketP (ps.map PR.dat)).length + 16 ≤ 140737488355328) :
    CallK Tryz.prog 230 [.int .i64 n, v].toArray w fun v w' => v = .tuple [.agg (vbs (sumR n (bucketP (ps.map PR.dat)))).toArray, .int .i64 (sumE n)].toArray ∧ Ext w w' := by
  refine enterT Tryz.func230 rfl Tryz.ntmps230 Tryz.results230 rfl (by decide) ?_
  simp only [↓VD, VP, VT, isAggD, reduceCtorEq, Int.reduceEq, Int.reduceNe, Int.reduceLT, Int.reduceLE, implies_true, Nat.reduceEqDiff, reduceIte, ite_true, ite_false, eq_self, Nat.reduceLT, Nat.reduceLeDiff, Nat.reduceAdd, Nat.reduceMul, Nat.reduceSub, intOf]
  intro w1 hN1
  rw [vbs_rep] at hN1
  refine (BucketInput_ok v ps w1 (hv.ext hN1.ext) hsz).mono ?_
  rintro v' w2 ⟨hvo, hE2⟩
  have hv2 := SlC.of_own hvo
  obtain ⟨a, c, rfl⟩ := (slv_of hv2 : ∃ a c, v' = .slice a _ c)
  simp only [↓VD, VP, VT, isAggD, reduceCtorEq, Int.reduceEq, Int.reduceNe, Int.reduceLT, Int.reduceLE, implies_true, Nat.reduceEqDiff, reduceIte, ite_true, ite_false, eq_self, Nat.reduceLT, Nat.reduceLeDiff, Nat.reduceAdd, Nat.reduceMul, Nat.reduceSub, intOf]
  refine ⟨rfl, rfl, fun w3 hN3 => ?_⟩
  refine (sum1 n _ (bucketP (ps.map PR.dat)) w2 w3 (hW.ext (hN1.ext.trans' hE2)) hv2 hN3 (by omega)).mono ?_
  rintro _ w4 ⟨rfl, hE4⟩
  simp only [↓VD, VP, VT, isAggD, reduceCtorEq, Int.reduceEq, Int.reduceNe, Int.reduceLT, Int.reduceLE, implies_true, Nat.reduceEqDiff, reduceIte, ite_true, ite_false, eq_self, Nat.reduceLT, Nat.reduceLeDiff, Nat.reduceAdd, Nat.reduceMul, Nat.reduceSub, intOf]
  refine stAll (((hN1.blk.ext hE2).ext hE4)) rfl (by rw [c28]; omega) (by rw [c28, vbs_len, sumR_len]) (by rw [c28]; rfl) (vbs_one _) (fun w5 hP => ?_)
  simp only [↓VD, VP, VT, isAggD, reduceCtorEq, Int.reduceEq, Int.reduceNe, Int.reduceLT, Int.reduceLE, implies_true, Nat.reduceEqDiff, reduceIte, ite_true, ite_false, eq_self, Nat.reduceLT, Nat.reduceLeDiff, Nat.reduceAdd, Nat.reduceMul, Nat.reduceSub, intOf]
  refine ldA Tryz.underlying28 rfl hP.blk (by rw [c28, vbs_len, sumR_len]) ?_
  exact ⟨rfl, ((hN1.ext.trans' hE2).trans' hE4).trans (hP.below (Nat.le_refl _))⟩

end Go.Proofs.YthlkfjoibjhaiaaGreatDoor

/-! RefD -/
namespace Go.Proofs.YthlkfjoibjhaiaaGreatDoor
set_option maxRecDepth 100000
set_option maxHeartbeats 2000000
open Go Go.RowKit
set_option linter.unusedVariables false
set_option linter.unusedSimpArgs false

/-- An append of bytes to a slice of the call's own, as the walks meet it. -/
theorem apOwn {w : World} {base : Nat} {x y : Value} {xs ys : List UInt8} {K : Value → World → Prop} (hO : Own w base 5 1 x xs.length (vbs xs)) (hb : base ≤ w.heap.size) (hy : SlB w y ys) (hsz : xs.length + ys.length ≤ 140737488355328)
    (hK : ∀ a c w', Own w' base 5 1 (.slice a (xs ++ ys).length c) (xs ++ ys).length (vbs (xs ++ ys)) → w.grownBy w' x.ownBlock → Below base w w' → K (.slice a (xs ++ ys).length c) w') : vcAppend Tryz.prog 22 x y w K := by
  refine apS (n := xs.length) (m := ys.length) Tryz.underlying22 z5 c5 rfl (by decide) hO hb hy (by rw [vbs_len, Nat.mul_one]) (vbs_one _) (by omega) (by rw [by5]; omega) (fun v' w' hO' hg => ?_)
  have hB := below_of_grown hO hb hg
  have hO2 : Own w' base 5 1 v' (xs ++ ys).length (vbs (xs ++ ys)) := by
    rw [List.length_append]
    simpa [vbs] using hO'
  obtain ⟨a, c, rfl⟩ := own_slice hO2
  exact hK a c w' hO2 hg hB
theorem Own.room {w : World} {base e cap b : Nat} {l : List Value} (hB : Blk w b e l) (hb : base ≤ b) (hl : l.length = cap) (hn : cap ≤ 9223372036854775807) : Own w base e 1 (.slice (some ⟨b, 0, none⟩) 0 cap) 0 [] :=
  ⟨rfl, .inr ⟨b, cap, l.toArray, rfl, hb, hB.out, Nat.zero_le _, by rw [maxLen_eq]; exact hn, by simpa using hl, by simp⟩⟩

theorem Join_ok (xs ys : List UInt8) (u v : Value) (w : World) (hu : SlB w u xs) (hv : SlB w v ys) (hsz : xs.length + ys.length ≤ 140737488355328) :
    CallK Tryz.prog 190 [u, v].toArray w fun v' w' => Own w' w.heap.size 5 1 v' (xs ++ ys).length (vbs (xs ++ ys)) ∧ Ext w w' := by
  obtain ⟨au, cu, rfl⟩ := slv_of hu
  obtain ⟨av, cv, rfl⟩ := slv_of hv
  refine enterT Tryz.func190 rfl Tryz.ntmps190 Tryz.results190 rfl (by decide) ?_
  simp only [↓VD, VP, VT, isAggD, reduceCtorEq, Int.reduceEq, Int.reduceNe, Int.reduceLT, Int.reduceLE, implies_true, Nat.reduceEqDiff, reduceIte, ite_true, ite_false, eq_self, Nat.reduceLT, Nat.reduceLeDiff, Nat.reduceAdd, Nat.reduceMul, Nat.reduceSub, intOf, (show IntKind.i64.wrap ((xs.length : Int) + (ys.length : Int)) = ((xs.length + ys.length : Nat) : Int) from by rw [w64 (by omega) (by omega)] <;> omega)]
  refine mkS (l := 0) (c := xs.length + ys.length) Tryz.underlying22 z5 rfl c5 (Nat.zero_le _) (by rw [by5]; omega) (by omega) (fun w1 hN1 => ?_)
  have s1 := hN1.size
  simp only [↓VD, VP, VT, isAggD, reduceCtorEq, Int.reduceEq, Int.reduceNe, Int.reduceLT, Int.reduceLE, implies_true, Nat.reduceEqDiff, reduceIte, ite_true, ite_false, eq_self, Nat.reduceLT, Nat.reduceLeDiff, Nat.reduceAdd, Nat.reduceMul, Nat.reduceSub, intOf]
  refine apOwn (xs := []) (ys := xs) (Own.room hN1.blk (Nat.le_refl _) (by simp) (by omega)) (by omega) (hu.ext hN1.ext) (by simp; omega) (fun a2 c2 w2 hO2 hg2 hB2 => ?_)
  have s2 := hg2.size
  simp only [↓VD, VP, VT, isAggD, reduceCtorEq, Int.reduceEq, Int.reduceNe, Int.reduceLT, Int.reduceLE, implies_true, Nat.reduceEqDiff, reduceIte, ite_true, ite_false, eq_self, Nat.reduceLT, Nat.reduceLeDiff, Nat.reduceAdd, Nat.reduceMul, Nat.reduceSub, intOf]
  refine apOwn (xs := xs) (ys := ys) hO2 (by omega) (hv.ext (hN1.ext.trans hB2)) hsz (fun a3 c3 w3 hO3 hg3 hB3 => ?_)
  simp only [↓VD, VP, VT, isAggD, reduceCtorEq, Int.reduceEq, Int.reduceNe, Int.reduceLT, Int.reduceLE, implies_true, Nat.reduceEqDiff, reduceIte, ite_true, ite_false, eq_self, Nat.reduceLT, Nat.reduceLeDiff, Nat.reduceAdd, Nat.reduceMul, Nat.reduceSub, intOf]
  exact ⟨hO3, (hN1.ext.trans hB2).trans hB3⟩

theorem add128 (n : Nat) : IntKind.u8.wrap (IntKind.u8.wrap ((n % 128 : Nat) : Int) + 128) = ((UInt8.ofNat (n % 128 + 128)).toNat : Int) := by
  rw [w8 (n := ((n % 128 : Nat) : Int)) (by omega) (by omega), w8 (by omega) (by omega)]
  simp; omega
theorem RUvar_ok (n : Nat) (hn : n < 18446744073709551616) (w : World) :
    CallK Tryz.prog 191 [.int .u64 n].toArray w fun v w' => Own w' w.heap.size 5 1 v (uvarP n).length (vbs (uvarP n)) ∧ Ext w w' := by
  have hlen := uvarP_len10 hn
  refine enterT Tryz.func191 rfl Tryz.ntmps191 Tryz.results191 rfl (by decide) ?_
  simp only [↓VD, VP, VT, isAggD, reduceCtorEq, Int.reduceEq, Int.reduceNe, Int.reduceLT, Int.reduceLE, implies_true, Nat.reduceEqDiff, reduceIte, ite_true, ite_false, eq_self, Nat.reduceLT, Nat.reduceLeDiff, Nat.reduceAdd, Nat.reduceMul, Nat.reduceSub, intOf]
  refine loopT (fun s' w' => Ext w w' ∧ w.heap.size ≤ w'.heap.size ∧ ∃ m pre a c, s' 0 = .int .u64 (m : Nat) ∧ m ≤ n ∧ uvarP n = pre ++ uvarP m ∧ s' 3 = .slice a pre.length c ∧ Own w' w.heap.size 5 1 (.slice a pre.length c) pre.length (vbs pre)) (fun s' _ => (intOf (s' 0)).toNat) ?_ ?_
  · simp only [↓VD, VP, VT, isAggD, reduceCtorEq, Int.reduceEq, Int.reduceNe, Int.reduceLT, Int.reduceLE, implies_true, Nat.reduceEqDiff, reduceIte, ite_true, ite_false, eq_self, Nat.reduceLT, Nat.reduceLeDiff, Nat.reduceAdd, Nat.reduceMul, Nat.reduceSub, intOf]
    exact ⟨Ext.rfl' w, Nat.le_refl _, n, [], none, 0, rfl, Nat.le_refl _, rfl, rfl, Own.nil _ _ _ _⟩
  · rintro s1 w1 ⟨hE, hs1, m, pre, a, c, h0, hmn, hp, h3, hO⟩
    have hpl : pre.length + (uvarP m).length ≤ 10 := by rw [← List.length_append, ← hp]; exact hlen
    have hul : 1 ≤ (uvarP m).length := by
      by_cases h : m < 128
      · rw [uvarP_lo h]; simp
      · rw [uvarP_hi h]; simp
    simp only [↓VD, VP, VT, isAggD, reduceCtorEq, Int.reduceEq, Int.reduceNe, Int.reduceLT, Int.reduceLE, implies_true, Nat.reduceEqDiff, reduceIte, ite_true, ite_false, eq_self, Nat.reduceLT, Nat.reduceLeDiff, Nat.reduceAdd, Nat.reduceMul, Nat.reduceSub, intOf, h0, h3]
    refine ⟨fun hge => ?_, fun hlt => ?_⟩
    · have h2 : ¬ m < 128 := by omega
      simp only [↓VD, VP, VT, isAggD, reduceCtorEq, Int.reduceEq, Int.reduceNe, Int.reduceLT, Int.reduceLE, implies_true, Nat.reduceEqDiff, reduceIte, ite_true, ite_false, eq_self, Nat.reduceLT, Nat.reduceLeDiff, Nat.reduceAdd, Nat.reduceMul, Nat.reduceSub, intOf, h0, h3, show (m : Int).tmod 128 = ((m % 128 : Nat) : Int) from tmodN m 128, add128]
      refine ⟨rfl, rfl, fun w2 hN => ?_⟩
      have s2 := hN.size
      refine apOwn (xs := pre) (ys := [UInt8.ofNat (m % 128 + 128)]) (hO.ext hN.ext) (by omega) (SlC.of_blk (n := 1) hN.blk (by decide)) (by simp; omega) (fun a3 c3 w3 hO3 hg3 hB3 => ?_)
      have s3 := hg3.size
      have ed : IntKind.u64.wrap ((m : Int).tdiv 128) = ((m / 128 : Nat) : Int) := by rw [Int.tdiv_eq_ediv_of_nonneg (by omega), wu64 (by omega) (by omega)]; omega
      simp only [↓VD, VP, VT, isAggD, reduceCtorEq, Int.reduceEq, Int.reduceNe, Int.reduceLT, Int.reduceLE, implies_true, Nat.reduceEqDiff, reduceIte, ite_true, ite_false, eq_self, Nat.reduceLT, Nat.reduceLeDiff, Nat.reduceAdd, Nat.reduceMul, Nat.reduceSub, intOf, h0, h3, ed]
      refine ⟨⟨(hE.trans' hN.ext).trans hB3, by omega, m / 128, _, _, _, rfl, by omega, ?_, rfl, hO3⟩, by omega⟩
      rw [hp, uvarP_hi h2]; simp
    · have h2 : m < 128 := by omega
      simp only [↓VD, VP, VT, isAggD, reduceCtorEq, Int.reduceEq, Int.reduceNe, Int.reduceLT, Int.reduceLE, implies_true, Nat.reduceEqDiff, reduceIte, ite_true, ite_false, eq_self, Nat.reduceLT, Nat.reduceLeDiff, Nat.reduceAdd, Nat.reduceMul, Nat.reduceSub, intOf, h0, h3, wr8]
      refine ⟨rfl, rfl, fun w2 hN => ?_⟩
      have s2 := hN.size
      refine apOwn (xs := pre) (ys := [UInt8.ofNat m]) (hO.ext hN.ext) (by omega) (SlC.of_blk (n := 1) hN.blk (by decide)) (by simp; omega) (fun a3 c3 w3 hO3 hg3 hB3 => ?_)
      simp only [↓VD, VP, VT, isAggD, reduceCtorEq, Int.reduceEq, Int.reduceNe, Int.reduceLT, Int.reduceLE, implies_true, Nat.reduceEqDiff, reduceIte, ite_true, ite_false, eq_self, Nat.reduceLT, Nat.reduceLeDiff, Nat.reduceAdd, Nat.reduceMul, Nat.reduceSub, intOf, h0, h3]
      rw [hp, uvarP_lo h2]
      exact ⟨hO3, (hE.trans' hN.ext).trans hB3⟩

theorem RBlob_ok (xs : List UInt8) (v : Value) (w : World) (hv : SlB w v xs) (hsz : xs.length + 10 ≤ 140737488355328) :
    CallK Tryz.prog 192 [v].toArray w fun v' w' => SlB w' v' (blobP xs) ∧ Ext w w' := by
  obtain ⟨a, c, rfl⟩ := slv_of hv
  have hul := uvarP_len10 (n := xs.length) (by omega)
  refine enterT Tryz.func192 rfl Tryz.ntmps192 Tryz.results192 rfl (by decide) ?_
  simp only [↓VD, VP, VT, isAggD, reduceCtorEq, Int.reduceEq, Int.reduceNe, Int.reduceLT, Int.reduceLE, implies_true, Nat.reduceEqDiff, reduceIte, ite_true, ite_false, eq_self, Nat.reduceLT, Nat.reduceLeDiff, Nat.reduceAdd, Nat.reduceMul, Nat.reduceSub, intOf, (show IntKind.u64.wrap ((xs.length : Int)) = ((xs.length : Nat) : Int) from by rw [wu64 (by omega) (by omega)] <;> omega)]
  refine (RUvar_ok xs.length (by omega) w).mono ?_
  rintro u w1 ⟨hO1, hE1⟩
  simp only [↓VD, VP, VT, isAggD, reduceCtorEq, Int.reduceEq, Int.reduceNe, Int.reduceLT, Int.reduceLE, implies_true, Nat.reduceEqDiff, reduceIte, ite_true, ite_false, eq_self, Nat.reduceLT, Nat.reduceLeDiff, Nat.reduceAdd, Nat.reduceMul, Nat.reduceSub, intOf]
  refine (Join_ok (uvarP xs.length) xs u _ w1 (SlC.of_own hO1) (hv.ext hE1) (by omega)).mono ?_
  rintro v' w2 ⟨hO2, hE2⟩
  simp only [↓VD, VP, VT, isAggD, reduceCtorEq, Int.reduceEq, Int.reduceNe, Int.reduceLT, Int.reduceLE, implies_true, Nat.reduceEqDiff, reduceIte, ite_true, ite_false, eq_self, Nat.reduceLT, Nat.reduceLeDiff, Nat.reduceAdd, Nat.reduceMul, Nat.reduceSub, intOf]
  exact ⟨SlC.of_own hO2, hE1.trans' hE2⟩

theorem Twin_ok (xs : List UInt8) (v : Value) (w : World) (hv : SlB w v xs) (hsz : xs.length ≤ 140737488355328) :
    CallK Tryz.prog 46 [v].toArray w fun v' w' => ∃ g, w.heap.size ≤ g ∧ v' = .slice (some ⟨g, 0, none⟩) xs.length xs.length ∧ Blk w' g 5 (vbs xs) ∧ Ext w w' := by
  obtain ⟨a, c, rfl⟩ := slv_of hv
  refine enterT Tryz.func46 rfl Tryz.ntmps46 Tryz.results46 rfl (by decide) ?_
  simp only [↓VD, VP, VT, isAggD, reduceCtorEq, Int.reduceEq, Int.reduceNe, Int.reduceLT, Int.reduceLE, implies_true, Nat.reduceEqDiff, reduceIte, ite_true, ite_false, eq_self, Nat.reduceLT, Nat.reduceLeDiff, Nat.reduceAdd, Nat.reduceMul, Nat.reduceSub, intOf]
  refine mkS (l := xs.length) (c := xs.length) Tryz.underlying22 z5 rfl c5 (Nat.le_refl _) (by rw [by5]; omega) (by omega) (fun w1 hN1 => ?_)
  simp only [↓VD, VP, VT, isAggD, reduceCtorEq, Int.reduceEq, Int.reduceNe, Int.reduceLT, Int.reduceLE, implies_true, Nat.reduceEqDiff, reduceIte, ite_true, ite_false, eq_self, Nat.reduceLT, Nat.reduceLeDiff, Nat.reduceAdd, Nat.reduceMul, Nat.reduceSub, intOf]
  refine cpS (sz := 1) Tryz.underlying22 c5 (by decide) hN1.blk (hv.ext hN1.ext) (by rw [vbs_len]; omega) (vbs_one _) (by simp) (fun w2 hP => ?_)
  rw [Nat.min_self, Nat.mul_one, List.take_of_length_le (by rw [vbs_len]; omega), splice_all (by simp [vbs_len])] at hP
  simp only [↓VD, VP, VT, isAggD, reduceCtorEq, Int.reduceEq, Int.reduceNe, Int.reduceLT, Int.reduceLE, implies_true, Nat.reduceEqDiff, reduceIte, ite_true, ite_false, eq_self, Nat.reduceLT, Nat.reduceLeDiff, Nat.reduceAdd, Nat.reduceMul, Nat.reduceSub, intOf]
  exact ⟨w.heap.size, Nat.le_refl _, rfl, hP.blk, hN1.ext.trans (hP.below (Nat.le_refl _))⟩

theorem Same_ok (xs ys : List UInt8) (u v : Value) (w : World) (hu : SlB w u xs) (hv : SlB w v ys) :
    CallK Tryz.prog 21 [u, v].toArray w fun r w' => r = .bool (decide (xs = ys)) ∧ Ext w w' := by
  obtain ⟨au, cu, rfl, hnu, hmu, hcu⟩ := hu
  obtain ⟨av, cv, rfl, hnv, hmv, hcv⟩ := hv
  refine enterT Tryz.func21 rfl Tryz.ntmps21 Tryz.results21 rfl (by decide) ?_
  simp only [↓VD, VP, VT, isAggD, reduceCtorEq, Int.reduceEq, Int.reduceNe, Int.reduceLT, Int.reduceLE, implies_true, Nat.reduceEqDiff, reduceIte, ite_true, ite_false, eq_self, Nat.reduceLT, Nat.reduceLeDiff, Nat.reduceAdd, Nat.reduceMul, Nat.reduceSub, intOf]
  refine ⟨fun hne => ?_, fun heq => ?_⟩
  · refine ⟨?_, Ext.rfl' w⟩
    rw [decide_eq_false]
    rintro rfl
    exact hne rfl
  · have hl : xs.length = ys.length := by omega
    refine loopT (fun s' w' => Ext w w' ∧ ∃ k : Nat, k ≤ xs.length ∧ s' 0 = .slice au xs.length cu ∧ s' 1 = .slice av ys.length cv ∧ s' 12 = .int .i64 xs.length ∧ s' 13 = .int .i64 k ∧ xs.take k = ys.take k) (fun s' _ => xs.length - (intOf (s' 13)).toNat) ?_ ?_
    · simp only [↓VD, VP, VT, isAggD, reduceCtorEq, Int.reduceEq, Int.reduceNe, Int.reduceLT, Int.reduceLE, implies_true, Nat.reduceEqDiff, reduceIte, ite_true, ite_false, eq_self, Nat.reduceLT, Nat.reduceLeDiff, Nat.reduceAdd, Nat.reduceMul, Nat.reduceSub, intOf]
      exact ⟨Ext.rfl' w, 0, by omega, rfl, by simp⟩
    · rintro s1 w1 ⟨hE, k, hk, h0, h1, h12, h13, ht⟩
      simp only [↓VD, VP, VT, isAggD, reduceCtorEq, Int.reduceEq, Int.reduceNe, Int.reduceLT, Int.reduceLE, implies_true, Nat.reduceEqDiff, reduceIte, ite_true, ite_false, eq_self, Nat.reduceLT, Nat.reduceLeDiff, Nat.reduceAdd, Nat.reduceMul, Nat.reduceSub, intOf, h0, h1, h12, h13]
      refine ⟨fun hlt => ?_, fun hge => ?_⟩
      · have hk1 : k < xs.length := by omega
        refine drawT mixed (by decide +kernel) ?_
        have hcu' : ∃ b o, au = some ⟨b, o, none⟩ ∧ ∀ j u, (vbs xs)[j]? = some u → w1.cell? ⟨b, o + j, none⟩ = some u := by
          rcases hcu with h | ⟨b, o, rfl, h⟩
          · have : xs = [] := by simpa [vbs] using h
            rw [this] at hk1; simp at hk1
          · exact ⟨b, o, rfl, fun j u hj => by rw [hE.cell (block_lt_of_cell (h j u hj))]; exact h j u hj⟩
        have hcv' : ∃ b o, av = some ⟨b, o, none⟩ ∧ ∀ j u, (vbs ys)[j]? = some u → w1.cell? ⟨b, o + j, none⟩ = some u := by
          rcases hcv with h | ⟨b, o, rfl, h⟩
          · have : ys = [] := by simpa [vbs] using h
            rw [this] at hl; rw [hl] at hk1; simp at hk1
          · exact ⟨b, o, rfl, fun j u hj => by rw [hE.cell (block_lt_of_cell (h j u hj))]; exact h j u hj⟩
        obtain ⟨bu, ou, rfl, hcu'⟩ := hcu'
        obtain ⟨bv, ov, rfl, hcv'⟩ := hcv'
        simp only [↓VD, VP, VT, isAggD, reduceCtorEq, Int.reduceEq, Int.reduceNe, Int.reduceLT, Int.reduceLE, implies_true, Nat.reduceEqDiff, reduceIte, ite_true, ite_false, eq_self, Nat.reduceLT, Nat.reduceLeDiff, Nat.reduceAdd, Nat.reduceMul, Nat.reduceSub, intOf, h0, h1, h12, h13]
        refine ⟨by omega, by omega, ldS Tryz.underlying5 hcu' hk1 ?_⟩
        simp only [↓VD, VP, VT, isAggD, reduceCtorEq, Int.reduceEq, Int.reduceNe, Int.reduceLT, Int.reduceLE, implies_true, Nat.reduceEqDiff, reduceIte, ite_true, ite_false, eq_self, Nat.reduceLT, Nat.reduceLeDiff, Nat.reduceAdd, Nat.reduceMul, Nat.reduceSub, intOf, h0, h1, h12, h13]
        refine ⟨by omega, by omega, ldS Tryz.underlying5 hcv' (by omega) ?_⟩
        simp only [↓VD, VP, VT, isAggD, reduceCtorEq, Int.reduceEq, Int.reduceNe, Int.reduceLT, Int.reduceLE, implies_true, Nat.reduceEqDiff, reduceIte, ite_true, ite_false, eq_self, Nat.reduceLT, Nat.reduceLeDiff, Nat.reduceAdd, Nat.reduceMul, Nat.reduceSub, intOf, h0, h1, h12, h13]
        intro w2 hE2
        have hx : xs.take (k + 1) = xs.take k ++ [xs.getD k 0] := by rw [List.take_succ_eq_append_getElem hk1, List.getD_eq_getElem?_getD, List.getElem?_eq_getElem hk1]; rfl
        have hy : ys.take (k + 1) = ys.take k ++ [ys.getD k 0] := by rw [List.take_succ_eq_append_getElem (by omega), List.getD_eq_getElem?_getD, List.getElem?_eq_getElem (by omega)]; rfl
        refine ⟨fun hd => ?_, fun hd => ?_⟩
        · refine ⟨?_, hE.trans' hE2⟩
          rw [decide_eq_false]
          rintro rfl
          exact hd rfl
        · have hd' : xs.getD k 0 = ys.getD k 0 := (toNat_inj _ _).1 (by simpa using hd)
          refine ⟨⟨hE.trans' hE2, k + 1, by omega, ?_, by rw [hx, hy, ht, hd']⟩, ?_⟩
          · rw [w64 (by omega) (by omega)]; rfl
          · rw [w64 (by omega) (by omega)]; omega
      · refine ⟨?_, hE⟩
        rw [List.take_of_length_le (by omega), List.take_of_length_le (by omega)] at ht
        rw [decide_eq_true ht]

theorem Cut_ok (n : Nat) (hn : n ≤ 32) (xs : List UInt8) (v : Value) (w : World) (hv : SlB w v xs) (hsz : xs.length + 200 ≤ 140737488355328) :
    CallK Tryz.prog 214 [.int .i64 n, v].toArray w fun v w' => v = .agg (vbs (sumP n xs)).toArray ∧ Ext w w' := by
  refine enterT Tryz.func214 rfl Tryz.ntmps214 Tryz.results214 rfl (by decide) ?_
  simp only [↓VD, VP, VT, isAggD, reduceCtorEq, Int.reduceEq, Int.reduceNe, Int.reduceLT, Int.reduceLE, implies_true, Nat.reduceEqDiff, reduceIte, ite_true, ite_false, eq_self, Nat.reduceLT, Nat.reduceLeDiff, Nat.reduceAdd, Nat.reduceMul, Nat.reduceSub, intOf]
  intro w1 hN1
  have s1 := hN1.size
  rw [vbs_rep] at hN1
  refine (Rsum_ok xs v w1 (hv.ext hN1.ext) hsz).mono ?_
  rintro _ w2 ⟨rfl, hE2⟩
  have s2 := hE2.size
  have hsl := shaP_len xs
  obtain ⟨d, hd⟩ : ∃ d, shaP xs = d := ⟨_, rfl⟩
  rw [hd] at hsl
  rw [hd]
  simp only [↓VD, VP, VT, isAggD, reduceCtorEq, Int.reduceEq, Int.reduceNe, Int.reduceLT, Int.reduceLE, implies_true, Nat.reduceEqDiff, reduceIte, ite_true, ite_false, eq_self, Nat.reduceLT, Nat.reduceLeDiff, Nat.reduceAdd, Nat.reduceMul, Nat.reduceSub, intOf]
  intro w3 hN3
  have s3 := hN3.size
  refine stAll hN3.blk rfl (by rw [c27]; omega) (by rw [c27, vbs_len, hsl]) (by rw [c27]; rfl) (vbs_one _) (fun w4 hP4 => ?_)
  have hE4 : Ext w w4 := ((hN1.ext.trans' hE2).trans' hN3.ext).trans (hP4.below (by omega))
  have hB1 := hP4.keep ((hN1.blk.ext hE2).ext hN3.ext) (by omega)
  simp only [↓VD, VP, VT, isAggD, reduceCtorEq, Int.reduceEq, Int.reduceNe, Int.reduceLT, Int.reduceLE, implies_true, Nat.reduceEqDiff, reduceIte, ite_true, ite_false, eq_self, Nat.reduceLT, Nat.reduceLeDiff, Nat.reduceAdd, Nat.reduceMul, Nat.reduceSub, intOf]
  refine loopT (fun s' w' => Ext w w' ∧ ∃ i : Nat, n ≤ i ∧ i ≤ 32 ∧ s' 4 = .pointer (some ⟨w.heap.size, 0, none⟩) ∧ s' 5 = .pointer (some ⟨w2.heap.size, 0, none⟩) ∧ s' 6 = .int .i64 i ∧
      Blk w' w.heap.size 28 (vbs (List.replicate 32 0)) ∧ Blk w' w2.heap.size 27 (vbs ((d.take n ++ List.replicate (i - n) 0) ++ d.drop i))) (fun s' _ => 32 - (intOf (s' 6)).toNat) ?_ ?_
  · simp only [↓VD, VP, VT, isAggD, reduceCtorEq, Int.reduceEq, Int.reduceNe, Int.reduceLT, Int.reduceLE, implies_true, Nat.reduceEqDiff, reduceIte, ite_true, ite_false, eq_self, Nat.reduceLT, Nat.reduceLeDiff, Nat.reduceAdd, Nat.reduceMul, Nat.reduceSub, intOf]
    refine ⟨hE4, n, Nat.le_refl _, hn, rfl, hB1, ?_⟩
    rw [Nat.sub_self, List.replicate_zero, List.append_nil, List.take_append_drop]
    exact hP4.blk
  · rintro s5 w5 ⟨hE, i, hni, hi, h4, h5, h6, hB1, hB2⟩
    have hll : ((d.take n ++ List.replicate (i - n) 0) ++ d.drop i).length = 32 := by simp [hsl]; omega
    simp only [↓VD, VP, VT, isAggD, reduceCtorEq, Int.reduceEq, Int.reduceNe, Int.reduceLT, Int.reduceLE, implies_true, Nat.reduceEqDiff, reduceIte, ite_true, ite_false, eq_self, Nat.reduceLT, Nat.reduceLeDiff, Nat.reduceAdd, Nat.reduceMul, Nat.reduceSub, intOf, h4, h5, h6]
    refine ⟨fun hlt => ?_, fun hge => ?_⟩
    · have hi32 : i < 32 := by omega
      refine ⟨by omega, by omega, stV c5 hB2 rfl rfl (by rw [vbs_len]; omega) (fun w6 hP => ?_)⟩
      have hset : ((d.take n ++ List.replicate (i - n) 0) ++ d.drop i).set i 0 = (d.take n ++ List.replicate (i + 1 - n) 0) ++ d.drop (i + 1) := by
        have hpl : (d.take n ++ List.replicate (i - n) (0 : UInt8)).length = i := by simp [hsl]; omega
        rw [List.set_append_right _ _ (by omega), hpl, Nat.sub_self, List.drop_eq_getElem_cons (by omega), List.set_cons_zero, show i + 1 - n = (i - n) + 1 from by omega, List.replicate_succ']
        simp
      have h00 : Value.int .u8 0 = .int .u8 (0 : UInt8).toNat := rfl
      rw [h00, vbs_set, hset] at hP
      simp only [↓VD, VP, VT, isAggD, reduceCtorEq, Int.reduceEq, Int.reduceNe, Int.reduceLT, Int.reduceLE, implies_true, Nat.reduceEqDiff, reduceIte, ite_true, ite_false, eq_self, Nat.reduceLT, Nat.reduceLeDiff, Nat.reduceAdd, Nat.reduceMul, Nat.reduceSub, intOf, h4, h5, h6]
      refine ⟨⟨hE.trans (hP.below (by omega)), i + 1, by omega, by omega, ?_, hP.keep hB1 (by omega), hP.blk⟩, ?_⟩
      · rw [w64 (by omega) (by omega)]; rfl
      · rw [w64 (by omega) (by omega)]; omega
    · have hi32 : i = 32 := by omega
      subst hi32
      have e1 : (d.take n ++ List.replicate (32 - n) 0) ++ d.drop 32 = sumP n xs := by
        rw [List.drop_eq_nil_of_le (by omega), List.append_nil, sumP, hd]; rfl
      rw [e1] at hB2
      have hcl := sumP_len n xs hn
      refine ldA Tryz.underlying27 rfl hB2 (by rw [vbs_len, hcl, c27]) ?_
      simp only [↓VD, VP, VT, isAggD, reduceCtorEq, Int.reduceEq, Int.reduceNe, Int.reduceLT, Int.reduceLE, implies_true, Nat.reduceEqDiff, reduceIte, ite_true, ite_false, eq_self, Nat.reduceLT, Nat.reduceLeDiff, Nat.reduceAdd, Nat.reduceMul, Nat.reduceSub, intOf, h4, h5, h6]
      refine stAll hB1 rfl (by rw [c28]; omega) (by rw [c28, vbs_len, hcl]) (by rw [c28]; rfl) (vbs_one _) (fun w6 hP => ?_)
      simp only [↓VD, VP, VT, isAggD, reduceCtorEq, Int.reduceEq, Int.reduceNe, Int.reduceLT, Int.reduceLE, implies_true, Nat.reduceEqDiff, reduceIte, ite_true, ite_false, eq_self, Nat.reduceLT, Nat.reduceLeDiff, Nat.reduceAdd, Nat.reduceMul, Nat.reduceSub, intOf, h4, h5, h6]
      refine ldA Tryz.underlying28 rfl hP.blk (by rw [vbs_len, hcl, c28]) ?_
      exact ⟨rfl, hE.trans (hP.below (by omega))⟩

theorem RBucketInput_ok (v : Value) (ps : List PR) (w : World) (hv : PairsAt w v ps) (hsz : (bucketP (ps.map PR.dat)).length + 16 ≤ 140737488355328) :
    CallK Tryz.prog 216 [v].toArray w fun v' w' => SlB w' v' (bucketP (ps.map PR.dat)) ∧ Ext w w' := by
  obtain ⟨⟨a, c, rfl, hnc, hcm, hc⟩, hp⟩ := hv
  have hlen : (bucketP (ps.map PR.dat)).length = 1 + ((uvarP ps.length).length + (pairsB (ps.map PR.dat)).length) := by simp [bucketP]; omega
  have hul := uvarP_len10 (n := ps.length) (by omega)
  refine enterT Tryz.func216 rfl Tryz.ntmps216 Tryz.results216 rfl (by decide) ?_
  simp only [↓VD, VP, VT, isAggD, reduceCtorEq, Int.reduceEq, Int.reduceNe, Int.reduceLT, Int.reduceLE, implies_true, Nat.reduceEqDiff, reduceIte, ite_true, ite_false, eq_self, Nat.reduceLT, Nat.reduceLeDiff, Nat.reduceAdd, Nat.reduceMul, Nat.reduceSub, intOf, (show IntKind.u64.wrap ((ps.length : Int)) = ((ps.length : Nat) : Int) from by rw [wu64 (by omega) (by omega)] <;> omega)]
  refine ⟨rfl, rfl, fun w1 hN1 => ?_⟩
  have s1 := hN1.size
  refine (RUvar_ok ps.length (by omega) w1).mono ?_
  rintro u w2 ⟨hO2, hE2⟩
  have s2 := hE2.size
  simp only [↓VD, VP, VT, isAggD, reduceCtorEq, Int.reduceEq, Int.reduceNe, Int.reduceLT, Int.reduceLE, implies_true, Nat.reduceEqDiff, reduceIte, ite_true, ite_false, eq_self, Nat.reduceLT, Nat.reduceLeDiff, Nat.reduceAdd, Nat.reduceMul, Nat.reduceSub, intOf]
  have h3 : SlB w2 (.slice (some ⟨w.heap.size, 0, none⟩) 1 1) [3] := SlC.of_blk (n := 1) (hN1.blk.ext hE2) (by decide)
  refine (Join_ok [3] (uvarP ps.length) _ u w2 h3 (SlC.of_own hO2) (by simp; omega)).mono ?_
  rintro v3 w3 ⟨hO3, hE3⟩
  have s3 := hE3.size
  obtain ⟨a3, c3, rfl⟩ := own_slice hO3
  have hE3' : Ext w w3 := (hN1.ext.trans' hE2).trans' hE3
  simp only [↓VD, VP, VT, isAggD, reduceCtorEq, Int.reduceEq, Int.reduceNe, Int.reduceLT, Int.reduceLE, implies_true, Nat.reduceEqDiff, reduceIte, ite_true, ite_false, eq_self, Nat.reduceLT, Nat.reduceLeDiff, Nat.reduceAdd, Nat.reduceMul, Nat.reduceSub, intOf]
  refine loopT (fun s' w' => Ext w w' ∧ w3.heap.size ≤ w'.heap.size ∧ ∃ (k : Nat) (pre : List UInt8) (b : Option Addr) (d : Nat), k ≤ ps.length ∧ s' 3 = .slice b pre.length d ∧ s' 12 = .slice a ps.length c ∧ s' 13 = .int .i64 ps.length ∧ s' 14 = .int .i64 k ∧
      pre = 3 :: (uvarP ps.length ++ pairsB ((ps.map PR.dat).take k)) ∧ Own w' w2.heap.size 5 1 (.slice b pre.length d) pre.length (vbs pre)) (fun s' _ => ps.length - (intOf (s' 14)).toNat) ?_ ?_
  · simp only [↓VD, VP, VT, isAggD, reduceCtorEq, Int.reduceEq, Int.reduceNe, Int.reduceLT, Int.reduceLE, implies_true, Nat.reduceEqDiff, reduceIte, ite_true, ite_false, eq_self, Nat.reduceLT, Nat.reduceLeDiff, Nat.reduceAdd, Nat.reduceMul, Nat.reduceSub, intOf]
    exact ⟨hE3', Nat.le_refl _, 0, _, a3, c3, by omega, rfl, rfl, by simp [pairsB], hO3⟩
  · rintro s4 w4 ⟨hE, hs4, k, pre, b3, d3, hk, g3, h12, h13, h14, hpre, hO⟩
    simp only [↓VD, VP, VT, isAggD, reduceCtorEq, Int.reduceEq, Int.reduceNe, Int.reduceLT, Int.reduceLE, implies_true, Nat.reduceEqDiff, reduceIte, ite_true, ite_false, eq_self, Nat.reduceLT, Nat.reduceLeDiff, Nat.reduceAdd, Nat.reduceMul, Nat.reduceSub, intOf, g3, h12, h13, h14]
    refine ⟨fun hlt => ?_, fun hge => ?_⟩
    · have hlt' : k < ps.length := by omega
      obtain ⟨x, hx⟩ : ∃ x, ps[k]? = some x := ⟨_, List.getElem?_eq_getElem hlt'⟩
      have hxm := List.mem_of_getElem? hx
      have hxd : (ps.map PR.dat)[k]? = some x.dat := by simp [hx]
      have hsp := pairsB_split (ps.map PR.dat) (k + 1)
      have htk := pairsB_take hxd
      rw [htk] at hsp
      have hll := congrArg List.length hsp
      simp only [List.length_append, PR.dat] at hll
      have hprel : pre.length = 1 + ((uvarP ps.length).length + (pairsB ((ps.map PR.dat).take k)).length) := by rw [hpre]; simp; omega
      have hb1 : (blobP x.k).length = (uvarP x.k.length).length + x.k.length := by simp [blobP]
      have hb2 : (blobP x.v).length = (uvarP x.v.length).length + x.v.length := by simp [blobP]
      rcases hc with hc | ⟨b, o, rfl, hc⟩
      · exfalso
        have := congrArg List.length hc
        cases ps with
        | nil => simp at hlt'
        | cons p ps => simp [PR.cells] at this
      have hc1 : ∀ j u, (ps.flatMap PR.cells)[j]? = some u → w4.cell? ⟨b, o + j, none⟩ = some u := fun j u hj => by rw [hE.cell (block_lt_of_cell (hc j u hj))]; exact hc j u hj
      simp only [↓VD, VP, VT, isAggD, reduceCtorEq, Int.reduceEq, Int.reduceNe, Int.reduceLT, Int.reduceLE, implies_true, Nat.reduceEqDiff, reduceIte, ite_true, ite_false, eq_self, Nat.reduceLT, Nat.reduceLeDiff, Nat.reduceAdd, Nat.reduceMul, Nat.reduceSub, intOf]
      refine ⟨by omega, by omega, ldE (f := PR.cells) c47 Tryz.underlying47 rfl (fun _ _ => rfl) hc1 hx ?_⟩
      simp only [↓VD, VP, VT, isAggD, reduceCtorEq, Int.reduceEq, Int.reduceNe, Int.reduceLT, Int.reduceLE, implies_true, Nat.reduceEqDiff, reduceIte, ite_true, ite_false, eq_self, Nat.reduceLT, Nat.reduceLeDiff, Nat.reduceAdd, Nat.reduceMul, Nat.reduceSub, intOf]
      intro w5 hN5
      have s5 := hN5.size
      obtain ⟨ka, kc, hkv⟩ := slv_of (hp x hxm).1
      obtain ⟨va, vc', hvv⟩ := slv_of (hp x hxm).2
      refine stAll (vs := x.cells) hN5.blk rfl (by rw [c47]; omega) (by rw [c47]; rfl) (by rw [c47]; rfl) (by simp [PR.cells, hkv, hvv, oneCellV]) (fun w6 hP6 => ?_)
      have s6 := hP6.size
      have hE6 : Ext w w6 := (hE.trans' hN5.ext).trans (hP6.below (by omega))
      have hO6 := (hO.ext hN5.ext).put hN5.blk (by decide) hP6
      simp only [↓VD, VP, VT, isAggD, reduceCtorEq, Int.reduceEq, Int.reduceNe, Int.reduceLT, Int.reduceLE, implies_true, Nat.reduceEqDiff, reduceIte, ite_true, ite_false, eq_self, Nat.reduceLT, Nat.reduceLeDiff, Nat.reduceAdd, Nat.reduceMul, Nat.reduceSub, intOf, g3, h12, h13, h14]
      refine ldAt (pre := []) (post := [x.vv]) Tryz.underlying22 rfl hP6.blk rfl ?_
      simp only [↓VD, VP, VT, isAggD, reduceCtorEq, Int.reduceEq, Int.reduceNe, Int.reduceLT, Int.reduceLE, implies_true, Nat.reduceEqDiff, reduceIte, ite_true, ite_false, eq_self, Nat.reduceLT, Nat.reduceLeDiff, Nat.reduceAdd, Nat.reduceMul, Nat.reduceSub, intOf, g3, h12, h13, h14]
      refine (RBlob_ok x.k x.kv w6 ((hp x hxm).1.ext hE6) (by omega)).mono ?_
      rintro kb w7 ⟨hkb, hE7⟩
      have s7 := hE7.size
      simp only [↓VD, VP, VT, isAggD, reduceCtorEq, Int.reduceEq, Int.reduceNe, Int.reduceLT, Int.reduceLE, implies_true, Nat.reduceEqDiff, reduceIte, ite_true, ite_false, eq_self, Nat.reduceLT, Nat.reduceLeDiff, Nat.reduceAdd, Nat.reduceMul, Nat.reduceSub, intOf, g3, h12, h13, h14]
      refine apOwn (xs := pre) (ys := blobP x.k) (hO6.ext hE7) (by omega) hkb (by omega) (fun a8 c8 w8 hO8 hg8 hB8 => ?_)
      have s8 := hg8.size
      have hB8' := (hO6.ext hE7).blk (hP6.blk.ext hE7) (by decide) hg8
      simp only [↓VD, VP, VT, isAggD, reduceCtorEq, Int.reduceEq, Int.reduceNe, Int.reduceLT, Int.reduceLE, implies_true, Nat.reduceEqDiff, reduceIte, ite_true, ite_false, eq_self, Nat.reduceLT, Nat.reduceLeDiff, Nat.reduceAdd, Nat.reduceMul, Nat.reduceSub, intOf, g3, h12, h13, h14]
      refine ldAt (pre := [x.kv]) (post := []) Tryz.underlying22 rfl hB8' rfl ?_
      simp only [↓VD, VP, VT, isAggD, reduceCtorEq, Int.reduceEq, Int.reduceNe, Int.reduceLT, Int.reduceLE, implies_true, Nat.reduceEqDiff, reduceIte, ite_true, ite_false, eq_self, Nat.reduceLT, Nat.reduceLeDiff, Nat.reduceAdd, Nat.reduceMul, Nat.reduceSub, intOf, g3, h12, h13, h14]
      have hE8 : Ext w w8 := (hE6.trans' hE7).trans (hB8.mono (by omega))
      refine (RBlob_ok x.v x.vv w8 ((hp x hxm).2.ext hE8) (by omega)).mono ?_
      rintro vb' w9 ⟨hvb, hE9⟩
      have s9 := hE9.size
      simp only [↓VD, VP, VT, isAggD, reduceCtorEq, Int.reduceEq, Int.reduceNe, Int.reduceLT, Int.reduceLE, implies_true, Nat.reduceEqDiff, reduceIte, ite_true, ite_false, eq_self, Nat.reduceLT, Nat.reduceLeDiff, Nat.reduceAdd, Nat.reduceMul, Nat.reduceSub, intOf, g3, h12, h13, h14]
      refine apOwn (xs := pre ++ blobP x.k) (ys := blobP x.v) (hO8.ext hE9) (by omega) hvb (by rw [List.length_append]; omega) (fun a10 c10 w10 hO10 hg10 hB10 => ?_)
      have s10 := hg10.size
      simp only [↓VD, VP, VT, isAggD, reduceCtorEq, Int.reduceEq, Int.reduceNe, Int.reduceLT, Int.reduceLE, implies_true, Nat.reduceEqDiff, reduceIte, ite_true, ite_false, eq_self, Nat.reduceLT, Nat.reduceLeDiff, Nat.reduceAdd, Nat.reduceMul, Nat.reduceSub, intOf, g3, h12, h13, h14]
      have hE9' : Ext w w9 := hE8.trans' hE9
      refine ⟨⟨hE9'.trans (hB10.mono (by omega)), by omega, k + 1, _, a10, c10, by omega, rfl, ?_, ?_, hO10⟩, ?_⟩
      · rw [w64 (by omega) (by omega)]; rfl
      · rw [htk, hpre]; simp [PR.dat]
      · rw [w64 (by omega) (by omega)]; omega
    · have hkl : k = ps.length := by omega
      subst hkl
      rw [List.take_of_length_le (by simp)] at hpre
      refine ⟨?_, hE⟩
      have := SlC.of_own hO
      rw [hpre] at this ⊢
      simpa [SlB, bucketP] using this

theorem RBucket_ok (n : Nat) (hn : n ≤ 32) (v : Value) (ps : List PR) (w : World) (hv : PairsAt w v ps) (hsz : (bucketP (ps.map PR.dat)).length + 200 ≤ 140737488355328) :
    CallK Tryz.prog 98 [.int .i64 n, v].toArray w fun v w' => v = .agg (vbs (sumP n (bucketP (ps.map PR.dat)))).toArray ∧ Ext w w' := by
  refine enterT Tryz.func98 rfl Tryz.ntmps98 Tryz.results98 rfl (by decide) ?_
  simp only [↓VD, VP, VT, isAggD, reduceCtorEq, Int.reduceEq, Int.reduceNe, Int.reduceLT, Int.reduceLE, implies_true, Nat.reduceEqDiff, reduceIte, ite_true, ite_false, eq_self, Nat.reduceLT, Nat.reduceLeDiff, Nat.reduceAdd, Nat.reduceMul, Nat.reduceSub, intOf]
  intro w1 hN1
  rw [vbs_rep] at hN1
  refine (RBucketInput_ok v ps w1 (hv.ext hN1.ext) (by omega)).mono ?_
  rintro v' w2 ⟨hv2, hE2⟩
  simp only [↓VD, VP, VT, isAggD, reduceCtorEq, Int.reduceEq, Int.reduceNe, Int.reduceLT, Int.reduceLE, implies_true, Nat.reduceEqDiff, reduceIte, ite_true, ite_false, eq_self, Nat.reduceLT, Nat.reduceLeDiff, Nat.reduceAdd, Nat.reduceMul, Nat.reduceSub, intOf]
  refine (Cut_ok n hn _ v' w2 hv2 hsz).mono ?_
  rintro _ w3 ⟨rfl, hE3⟩
  have hcl := sumP_len n (bucketP (ps.map PR.dat)) hn
  simp only [↓VD, VP, VT, isAggD, reduceCtorEq, Int.reduceEq, Int.reduceNe, Int.reduceLT, Int.reduceLE, implies_true, Nat.reduceEqDiff, reduceIte, ite_true, ite_false, eq_self, Nat.reduceLT, Nat.reduceLeDiff, Nat.reduceAdd, Nat.reduceMul, Nat.reduceSub, intOf]
  refine stAll ((hN1.blk.ext hE2).ext hE3) rfl (by rw [c28]; omega) (by rw [c28, vbs_len, hcl]) (by rw [c28]; rfl) (vbs_one _) (fun w6 hP => ?_)
  simp only [↓VD, VP, VT, isAggD, reduceCtorEq, Int.reduceEq, Int.reduceNe, Int.reduceLT, Int.reduceLE, implies_true, Nat.reduceEqDiff, reduceIte, ite_true, ite_false, eq_self, Nat.reduceLT, Nat.reduceLeDiff, Nat.reduceAdd, Nat.reduceMul, Nat.reduceSub, intOf]
  refine ldA Tryz.underlying28 rfl hP.blk (by rw [vbs_len, hcl, c28]) ?_
  exact ⟨rfl, ((hN1.ext.trans' hE2).trans' hE3).trans (hP.below (Nat.le_refl _))⟩

end Go.Proofs.YthlkfjoibjhaiaaGreatDoor

/-! DigC -/
namespace Go.Proofs.YthlkfjoibjhaiaaGreatDoor
set_option maxRecDepth 100000
set_option maxHeartbeats 2000000
open Go Go.RowKit
set_option linter.unusedVariables false
set_option linter.unusedSimpArgs false

def cutsB (n : Nat) (ds : List (List UInt8)) : List UInt8 := ds.flatMap (·.take n)
def branchP (n bm : Nat) (ds : List (List UInt8)) : List UInt8 := 4 :: (wideP bm 2 ++ cutsB n ds)
theorem cutsB_take {n : Nat} {ds : List (List UInt8)} {k : Nat} {x : List UInt8} (h : ds[k]? = some x) : cutsB n (ds.take (k + 1)) = cutsB n (ds.take k) ++ x.take n := by
  obtain ⟨hk, rfl⟩ := List.getElem?_eq_some_iff.1 h
  rw [List.take_succ_eq_append_getElem hk, cutsB, cutsB, List.flatMap_append]
  simp
theorem cutsB_split (n : Nat) (ds : List (List UInt8)) (k : Nat) : cutsB n ds = cutsB n (ds.take k) ++ cutsB n (ds.drop k) := by rw [cutsB, cutsB, cutsB, ← List.flatMap_append, List.take_append_drop]
theorem cutsB_len (n : Nat) (hn : n ≤ 32) : ∀ (ds : List (List UInt8)), (∀ d ∈ ds, d.length = 32) → (cutsB n ds).length = ds.length * n
  | [], _ => by simp [cutsB]
  | d :: ds, h => by
    have ih := cutsB_len n hn ds (fun x hx => h x (by simp [hx]))
    have hd := h d (by simp)
    simp only [cutsB, List.flatMap_cons, List.length_append, List.length_take, List.length_cons] at ih ⊢
    rw [ih, hd, Nat.add_mul]; omega
/-- What a branch's input answers. -/
def brE (n : Int) (bm : Nat) (ds : List (List UInt8)) : Nat := if chkE n ds ≠ 0 then chkE n ds else if bm = 0 ∨ cntB bm ≠ ds.length then 3 else 0

theorem BranchInput_ok (n : Int) (bm : Nat) (hb : bm < 65536) (v : Value) (ds : List (List UInt8)) (w : World) (hv : DigsAt w v ds) (hsz : ds.length ≤ 4000000000) :
    CallK Tryz.prog 325 [.int .i64 n, .int .u16 bm, v].toArray w fun v w' => ∃ a m c, v = .tuple [.slice a m c, .int .i64 (brE n bm ds)].toArray ∧ (brE n bm ds = 0 → Own w' w.heap.size 5 1 (.slice a m c) (branchP n.toNat bm ds).length (vbs (branchP n.toNat bm ds))) ∧ (brE n bm ds ≠ 0 → Value.slice a m c = .slice none 0 0) ∧ Ext w w' := by
  have hv' := hv
  obtain ⟨hd, a, c, rfl, hnc, hcm, hc⟩ := hv'
  refine enterT Tryz.func325 rfl Tryz.ntmps325 Tryz.results325 rfl (by decide) ?_
  simp only [↓VD, VP, VT, isAggD, reduceCtorEq, Int.reduceEq, Int.reduceNe, Int.reduceLT, Int.reduceLE, implies_true, Nat.reduceEqDiff, reduceIte, ite_true, ite_false, eq_self, Nat.reduceLT, Nat.reduceLeDiff, Nat.reduceAdd, Nat.reduceMul, Nat.reduceSub, intOf]
  refine (dcheck_ok n _ ds w hv).mono ?_
  rintro _ w1 ⟨rfl, hE1⟩
  simp only [↓VD, VP, VT, isAggD, reduceCtorEq, Int.reduceEq, Int.reduceNe, Int.reduceLT, Int.reduceLE, implies_true, Nat.reduceEqDiff, reduceIte, ite_true, ite_false, eq_self, Nat.reduceLT, Nat.reduceLeDiff, Nat.reduceAdd, Nat.reduceMul, Nat.reduceSub, intOf]
  refine ⟨fun he => ?_, fun he => ?_⟩
  · have he' : chkE n ds ≠ 0 := by omega
    have e : brE n bm ds = chkE n ds := by unfold brE; rw [if_pos he']
    rw [e]
    exact ⟨none, 0, 0, rfl, fun h => absurd h he', fun _ => rfl, hE1⟩
  · have he' : chkE n ds = 0 := by omega
    have hbr : brE n bm ds = if bm = 0 ∨ cntB bm ≠ ds.length then 3 else 0 := by unfold brE; rw [if_neg (by simp [he'])]
    have hwn : widB n = true := by
      unfold chkE at he'
      cases h : widB n
      · simp [h] at he'
      · rfl
    have hwn' := (widB_iff n).1 hwn
    obtain ⟨m, rfl⟩ : ∃ m : Nat, n = m := ⟨n.toNat, by omega⟩
    refine ⟨fun h0 => ?_, fun h0 => ?_⟩
    · have e : brE m bm ds = 3 := by rw [hbr, if_pos (Or.inl (by omega))]
      rw [e]
      exact ⟨none, 0, 0, rfl, fun h => (by cases h), fun _ => rfl, hE1⟩
    · refine (OnesCount16_ok bm hb w1).mono ?_
      rintro _ w2 ⟨rfl, hE2⟩
      simp only [↓VD, VP, VT, isAggD, reduceCtorEq, Int.reduceEq, Int.reduceNe, Int.reduceLT, Int.reduceLE, implies_true, Nat.reduceEqDiff, reduceIte, ite_true, ite_false, eq_self, Nat.reduceLT, Nat.reduceLeDiff, Nat.reduceAdd, Nat.reduceMul, Nat.reduceSub, intOf]
      refine ⟨fun h1 => ?_, fun h1 => ?_⟩
      · have e : brE m bm ds = 3 := by rw [hbr, if_pos (Or.inr (by omega))]
        rw [e]
        exact ⟨none, 0, 0, rfl, fun h => (by cases h), fun _ => rfl, hE1.trans' hE2⟩
      · have e : brE m bm ds = 0 := by rw [hbr, if_neg (by omega)]
        rw [e]
        have hE2' := hE1.trans' hE2
        intro w3 hN3
        have s3 := hN3.size
        have hwl : w.heap.size ≤ w2.heap.size := hE2'.size
        refine (U8_ok w2.heap.size w2.heap.size [] 4 w3 (by omega) ⟨_, hN3.blk, Own.nil _ _ _ _⟩ (by simp)).mono ?_
        rintro _ w4 ⟨hS4, hK4⟩
        have s4 := hK4.size
        simp only [↓VD, VP, VT, isAggD, reduceCtorEq, Int.reduceEq, Int.reduceNe, Int.reduceLT, Int.reduceLE, implies_true, Nat.reduceEqDiff, reduceIte, ite_true, ite_false, eq_self, Nat.reduceLT, Nat.reduceLeDiff, Nat.reduceAdd, Nat.reduceMul, Nat.reduceSub, intOf]
        refine (U16_ok w2.heap.size w2.heap.size _ bm hb w4 (by omega) hS4 (by simp)).mono ?_
        rintro _ w5 ⟨hS5, hK5⟩
        have s5 := hK5.size
        have hE5 : Ext w2 w5 := hN3.ext.trans ((hK4.trans hK5).below (Nat.le_refl _) (by omega))
        simp only [↓VD, VP, VT, isAggD, reduceCtorEq, Int.reduceEq, Int.reduceNe, Int.reduceLT, Int.reduceLE, implies_true, Nat.reduceEqDiff, reduceIte, ite_true, ite_false, eq_self, Nat.reduceLT, Nat.reduceLeDiff, Nat.reduceAdd, Nat.reduceMul, Nat.reduceSub, intOf]
        have hcl := cutsB_len m (by omega) ds hd
        have hwl2 := wideP_len bm 2
        refine loopT (fun s' w' => Ext w2 w' ∧ w5.heap.size ≤ w'.heap.size ∧ ∃ k : Nat, k ≤ ds.length ∧ s' 0 = .int .i64 m ∧ s' 9 = .pointer (some ⟨w2.heap.size, 0, none⟩) ∧ s' 30 = .slice a ds.length c ∧ s' 31 = .int .i64 ds.length ∧ s' 32 = .int .i64 k ∧
            Wr w' w2.heap.size w2.heap.size (4 :: (wideP bm 2 ++ cutsB m (ds.take k)))) (fun s' _ => ds.length - (intOf (s' 32)).toNat) ?_ ?_
        · simp only [↓VD, VP, VT, isAggD, reduceCtorEq, Int.reduceEq, Int.reduceNe, Int.reduceLT, Int.reduceLE, implies_true, Nat.reduceEqDiff, reduceIte, ite_true, ite_false, eq_self, Nat.reduceLT, Nat.reduceLeDiff, Nat.reduceAdd, Nat.reduceMul, Nat.reduceSub, intOf]
          exact ⟨hE5, Nat.le_refl _, 0, by omega, rfl, by simpa [cutsB] using hS5⟩
        · rintro s6 w6 ⟨hE, hs6, k, hk, h0', h9, h30, h31, h32, hS⟩
          simp only [↓VD, VP, VT, isAggD, reduceCtorEq, Int.reduceEq, Int.reduceNe, Int.reduceLT, Int.reduceLE, implies_true, Nat.reduceEqDiff, reduceIte, ite_true, ite_false, eq_self, Nat.reduceLT, Nat.reduceLeDiff, Nat.reduceAdd, Nat.reduceMul, Nat.reduceSub, intOf, h0', h9, h30, h31, h32]
          refine ⟨fun hlt => ?_, fun hge => ?_⟩
          · have hlt' : k < ds.length := by omega
            rcases hc with hc | ⟨b, o, rfl, hc⟩
            · exfalso
              cases ds with
              | nil => simp at hlt'
              | cons d ds => have := hd d (by simp); simp at hc; simp [vbs] at hc; have h3 := hc.1; simp [h3] at this
            obtain ⟨x, hx⟩ : ∃ x, ds[k]? = some x := ⟨_, List.getElem?_eq_getElem hlt'⟩
            have hxl : x.length = 32 := hd x (List.mem_of_getElem? hx)
            have htk := cutsB_take (n := m) hx
            have hsp := congrArg List.length (cutsB_split m ds (k + 1))
            rw [htk] at hsp
            simp only [List.length_append, List.length_take, hxl] at hsp
            have hEw : Ext w w6 := hE2'.trans' hE
            have hmul : ds.length * m ≤ 4000000000 * 32 := Nat.mul_le_mul hsz (by omega)
            have hc1 : ∀ j u, (ds.flatMap vbs)[j]? = some u → w6.cell? ⟨b, o + j, none⟩ = some u := fun j u hj => by rw [hEw.cell (block_lt_of_cell (hc j u hj))]; exact hc j u hj
            simp only [↓VD, VP, VT, isAggD, reduceCtorEq, Int.reduceEq, Int.reduceNe, Int.reduceLT, Int.reduceLE, implies_true, Nat.reduceEqDiff, reduceIte, ite_true, ite_false, eq_self, Nat.reduceLT, Nat.reduceLeDiff, Nat.reduceAdd, Nat.reduceMul, Nat.reduceSub, intOf]
            refine ⟨by omega, by omega, ldE c28 Tryz.underlying28 rfl (fun d h => by rw [vbs_len]; exact hd d h) hc1 hx ?_⟩
            simp only [↓VD, VP, VT, isAggD, reduceCtorEq, Int.reduceEq, Int.reduceNe, Int.reduceLT, Int.reduceLE, implies_true, Nat.reduceEqDiff, reduceIte, ite_true, ite_false, eq_self, Nat.reduceLT, Nat.reduceLeDiff, Nat.reduceAdd, Nat.reduceMul, Nat.reduceSub, intOf]
            intro w7 hN7
            have s7 := hN7.size
            refine stAll hN7.blk rfl (by rw [c28]; omega) (by rw [c28, vbs_len, hxl]) (by rw [c28]; simp) (vbs_one x) (fun w8 hP => ?_)
            have s8 := hP.size
            simp only [↓VD, VP, VT, isAggD, reduceCtorEq, Int.reduceEq, Int.reduceNe, Int.reduceLT, Int.reduceLE, implies_true, Nat.reduceEqDiff, reduceIte, ite_true, ite_false, eq_self, Nat.reduceLT, Nat.reduceLeDiff, Nat.reduceAdd, Nat.reduceMul, Nat.reduceSub, intOf, h0', h9, h30, h31, h32]
            refine ⟨by omega, by omega, fun o' ho' => ?_⟩
            have ho' : o' = 0 := ho'
            subst ho'
            rw [show ((m : Int) - 0).toNat = m from by omega]
            have hS8 : Wr w8 w2.heap.size w2.heap.size (4 :: (wideP bm 2 ++ cutsB m (ds.take k))) := by
              obtain ⟨y, hB, hO⟩ := hS
              exact ⟨y, hP.keep (hB.ext hN7.ext) (by omega), (hO.ext hN7.ext).put hN7.blk (by decide) hP⟩
            have htl : (x.take m).length = m := by rw [List.length_take]; omega
            have hE8 : Ext w2 w8 := (hE.trans' hN7.ext).trans (hP.below (by omega))
            have hvk : SlB w8 (.slice (some ⟨w6.heap.size, 0, none⟩) m 32) (x.take m) := by
              have := SlC.of_part (n := m) (c := 32) (o := 0) (m := vbs (x.take m)) hP.blk (by omega) (by decide) (fun j u hj => by
                rw [← vbs_take, List.getElem?_take] at hj
                rw [Nat.zero_add]
                split at hj
                · exact hj
                · cases hj)
              rw [SlB, htl]; exact this
            refine (Raw_ok w2.heap.size w2.heap.size _ (x.take m) _ w8 (by omega) hS8 hvk (by simp only [List.length_cons, List.length_append]; omega)).mono ?_
            rintro _ w9 ⟨hS9, hK9⟩
            have s9 := hK9.size
            simp only [↓VD, VP, VT, isAggD, reduceCtorEq, Int.reduceEq, Int.reduceNe, Int.reduceLT, Int.reduceLE, implies_true, Nat.reduceEqDiff, reduceIte, ite_true, ite_false, eq_self, Nat.reduceLT, Nat.reduceLeDiff, Nat.reduceAdd, Nat.reduceMul, Nat.reduceSub, intOf, h0', h9, h30, h31, h32]
            refine ⟨⟨hE8.trans (hK9.below (Nat.le_refl _) (by omega)), by omega, k + 1, by omega, ?_, ?_⟩, ?_⟩
            · rw [w64 (by omega) (by omega)]; rfl
            · rw [htk]
              simpa using hS9
            · rw [w64 (by omega) (by omega)]; omega
          · have hkl : k = ds.length := by omega
            subst hkl
            rw [List.take_length] at hS
            refine (Bytes_ok w2.heap.size w2.heap.size _ w6 hS ?_).mono ?_
            · have hmul : ds.length * m ≤ 4000000000 * 32 := Nat.mul_le_mul hsz (by omega)
              simp only [List.length_cons, List.length_append]; omega
            rintro v' w7 ⟨hO, hE7⟩
            have hv7 := SlC.of_own hO
            obtain ⟨a', c', rfl⟩ := slv_of hv7
            simp only [↓VD, VP, VT, isAggD, reduceCtorEq, Int.reduceEq, Int.reduceNe, Int.reduceLT, Int.reduceLE, implies_true, Nat.reduceEqDiff, reduceIte, ite_true, ite_false, eq_self, Nat.reduceLT, Nat.reduceLeDiff, Nat.reduceAdd, Nat.reduceMul, Nat.reduceSub, intOf, h0', h9, h30, h31, h32]
            refine ⟨a', _, c', rfl, ?_, (hE2'.trans' hE).trans' hE7⟩
            rw [branchP]
            exact hO.base (by have := hE2'.size; have := hE.size; omega)

theorem own_len {w : World} {base e sz m n : Nat} {a : Option Addr} {c : Nat} {xs : List Value} (h : Own w base e sz (.slice a m c) n xs) : m = n := by
  rcases h.2 with ⟨h1, h2⟩ | ⟨g, cap, cur, h1, _⟩
  · cases h1; exact h2.symm
  · cases h1; rfl
theorem Branch_ok (n : Int) (bm : Nat) (hb : bm < 65536) (v : Value) (ds : List (List UInt8)) (w : World) (hW : WordsAt w 1) (hv : DigsAt w v ds) (hsz : ds.length ≤ 4000000000) :
    CallK Tryz.prog 234 [.int .i64 n, .int .u16 bm, v].toArray w fun v w' => v = .tuple [.agg (vbs (if brE n bm ds = 0 then sumR n (branchP n.toNat bm ds) else List.replicate 32 0)).toArray, .int .i64 (if brE n bm ds = 0 then sumE n else brE n bm ds : Nat)].toArray ∧ Ext w w' := by
  refine enterT Tryz.func234 rfl Tryz.ntmps234 Tryz.results234 rfl (by decide) ?_
  simp only [↓VD, VP, VT, isAggD, reduceCtorEq, Int.reduceEq, Int.reduceNe, Int.reduceLT, Int.reduceLE, implies_true, Nat.reduceEqDiff, reduceIte, ite_true, ite_false, eq_self, Nat.reduceLT, Nat.reduceLeDiff, Nat.reduceAdd, Nat.reduceMul, Nat.reduceSub, intOf]
  intro w1 hN1
  rw [vbs_rep] at hN1
  refine (BranchInput_ok n bm hb v ds w1 ⟨hv.1, hv.2.ext hN1.ext⟩ hsz).mono ?_
  rintro _ w2 ⟨a, m, c, rfl, h0, h1, hE2⟩
  simp only [↓VD, VP, VT, isAggD, reduceCtorEq, Int.reduceEq, Int.reduceNe, Int.reduceLT, Int.reduceLE, implies_true, Nat.reduceEqDiff, reduceIte, ite_true, ite_false, eq_self, Nat.reduceLT, Nat.reduceLeDiff, Nat.reduceAdd, Nat.reduceMul, Nat.reduceSub, intOf]
  have hlen : (branchP n.toNat bm ds).length < 18446744073709551616 ∨ brE n bm ds ≠ 0 := by
    by_cases he : brE n bm ds = 0
    · left
      have hwn : widB n = true := by
        unfold brE chkE at he
        cases h : widB n
        · simp [h] at he
        · rfl
      have hwn' := (widB_iff n).1 hwn
      have hcl := cutsB_len n.toNat (by omega) ds hv.1
      have hmul : ds.length * n.toNat ≤ 4000000000 * 32 := Nat.mul_le_mul hsz (by omega)
      simp only [branchP, List.length_cons, List.length_append, wideP_len]
      omega
    · exact Or.inr he
  refine (of_ok n _ (if brE n bm ds = 0 then branchP n.toNat bm ds else []) (brE n bm ds) w2 (hW.ext (hN1.ext.trans' hE2)) (fun h => by rw [if_pos h]; obtain rfl := own_len (h0 h); exact SlC.of_own (h0 h)) (by
    split
    · rename_i h; exact hlen.resolve_right (fun h' => h' h)
    · simp)).mono ?_
  rintro _ w3 ⟨rfl, hE3⟩
  have hdl : (if brE n bm ds = 0 then sumR n (if brE n bm ds = 0 then branchP n.toNat bm ds else []) else List.replicate 32 0).length = 32 := by
    split
    · exact sumR_len _ _
    · simp
  simp only [↓VD, VP, VT, isAggD, reduceCtorEq, Int.reduceEq, Int.reduceNe, Int.reduceLT, Int.reduceLE, implies_true, Nat.reduceEqDiff, reduceIte, ite_true, ite_false, eq_self, Nat.reduceLT, Nat.reduceLeDiff, Nat.reduceAdd, Nat.reduceMul, Nat.reduceSub, intOf]
  refine stAll ((hN1.blk.ext hE2).ext hE3) rfl (by rw [c28]; omega) (by rw [c28, vbs_len, hdl]) (by rw [c28]; rfl) (vbs_one _) (fun w5 hP => ?_)
  simp only [↓VD, VP, VT, isAggD, reduceCtorEq, Int.reduceEq, Int.reduceNe, Int.reduceLT, Int.reduceLE, implies_true, Nat.reduceEqDiff, reduceIte, ite_true, ite_false, eq_self, Nat.reduceLT, Nat.reduceLeDiff, Nat.reduceAdd, Nat.reduceMul, Nat.reduceSub, intOf]
  refine ldA Tryz.underlying28 rfl hP.blk (by rw [c28, vbs_len, hdl]) ?_
  simp only [↓VD, VP, VT, isAggD, reduceCtorEq, Int.reduceEq, Int.reduceNe, Int.reduceLT, Int.reduceLE, implies_true, Nat.reduceEqDiff, reduceIte, ite_true, ite_false, eq_self, Nat.reduceLT, Nat.reduceLeDiff, Nat.reduceAdd, Nat.reduceMul, Nat.reduceSub, intOf]
  refine ⟨?_, ((hN1.ext.trans' hE2).trans' hE3).trans (hP.below (Nat.le_refl _))⟩
  by_cases he : brE n bm ds = 0
  · simp [he]
  · simp [he]

end Go.Proofs.YthlkfjoibjhaiaaGreatDoor
