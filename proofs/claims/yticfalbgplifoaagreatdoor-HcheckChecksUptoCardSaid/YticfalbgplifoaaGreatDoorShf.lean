/-
  The walks of the hash (package sha), fourth part: the sum. Conditions: as stated in each theorem.
-/
import Derived.Test.YticfalbgplifoaaGreatDoorShe
namespace Go.Proofs.YticfalbgplifoaaGreatDoor
set_option maxRecDepth 100000
open Go Go.RowKit
set_option linter.unusedVariables false
set_option linter.unusedSimpArgs false

theorem outW_take (h : List W32) (m : Nat) (hm : m < 32) : (outW h).take m ++ [UInt8.ofNat ((h.getD (m / 4) 0).toNat / 2 ^ (24 - 8 * (m % 4)))] = (outW h).take (m + 1) := by
  have hl : m < (outW h).length := by rw [outW_len]; exact hm
  rw [List.take_succ_eq_append_getElem hl]
  simp [outW]
theorem WordsAt.keep {w w' : World} {g B : Nat} (h : WordsAt w g) (e : Below B w w') (hg : g < B) : WordsAt w' g := fun j hj => by
  have hc := h j hj
  rw [← hc]
  simp only [World.cell?, e.block g hg]
theorem WordsAt.lt {w : World} {g : Nat} (h : WordsAt w g) : g < w.heap.size := block_lt_of_cell (h 0 (by decide))

set_option maxRecDepth 100000 in
theorem shaSum_ok (b : Nat) (xs : List UInt8) (w : World) (hx : xs.length < 18446744073709551616) (hW : WordsAt w 1) (hS : St w b xs) :
    CallK Tryz.prog 74 [.pointer (some ⟨b, 0, none⟩)].toArray w fun v w' => v = .agg (vbs (shaP xs)).toArray ∧ Ext w w' := by
  obtain ⟨h, t, bk, n, hB, hP⟩ := hS
  have hl := hP.hl
  have hbl := hP.bl
  have hn : n = xs.length := by rw [hP.nn, Nat.mod_eq_of_lt hx]
  subst hn
  have hgw := hW.lt
  refine enterT Tryz.func74 rfl Tryz.ntmps74 Tryz.results74 rfl (by decide) ?_
  simp only [↓VD, VP, VT, isAggD, reduceCtorEq, Int.reduceEq, Int.reduceNe, Int.reduceLT, Int.reduceLE, implies_true, Nat.reduceEqDiff, reduceIte, ite_true, ite_false, eq_self, Nat.reduceLT, Nat.reduceLeDiff, Nat.reduceAdd, Nat.reduceMul, Nat.reduceSub, intOf]
  intro w1 hN1 w2 hN2
  have s1 := hN1.size
  have s2 := hN2.size
  rw [vbs_rep] at hN1 hN2
  have hB2 := (hB.ext hN1.ext).ext hN2.ext
  refine ldA Tryz.underlying125 rfl hB2 (by rw [stL_len _ _ _ _ hl hbl, c125]) ?_
  simp only [↓VD, VP, VT, isAggD, reduceCtorEq, Int.reduceEq, Int.reduceNe, Int.reduceLT, Int.reduceLE, implies_true, Nat.reduceEqDiff, reduceIte, ite_true, ite_false, eq_self, Nat.reduceLT, Nat.reduceLeDiff, Nat.reduceAdd, Nat.reduceMul, Nat.reduceSub, intOf]
  intro w3 hN3
  have s3 := hN3.size
  refine stAll hN3.blk rfl (by rw [c125]; omega) (by rw [stL_len _ _ _ _ hl hbl, c125]) (by rw [c125]; rfl) ?_ (fun w4 hP4 => ?_)
  · intro v hv
    simp only [stL, List.mem_append, List.mem_cons, List.mem_singleton] at hv
    rcases hv with hv | rfl | hv | rfl | hv
    · exact vws_one _ v hv
    · rfl
    · exact vbs_one _ v hv
    · rfl
    · cases hv
  have s4 := hP4.size
  have hB4 := hP4.keep (hB2.ext hN3.ext) (by have := hB.lt; omega)
  have hE4 : Ext w w4 := ((hN1.ext.trans' hN2.ext).trans' hN3.ext).trans (hP4.below (by omega))
  simp only [↓VD, VP, VT, isAggD, reduceCtorEq, Int.reduceEq, Int.reduceNe, Int.reduceLT, Int.reduceLE, implies_true, Nat.reduceEqDiff, reduceIte, ite_true, ite_false, eq_self, Nat.reduceLT, Nat.reduceLeDiff, Nat.reduceAdd, Nat.reduceMul, Nat.reduceSub, intOf]
  refine ldAt (post := []) Tryz.underlying103 rfl (by rw [stL_n] at hB4; exact hB4) (by simp [vws_len, vbs_len, hl, hbl]) ?_
  simp only [↓VD, VP, VT, isAggD, reduceCtorEq, Int.reduceEq, Int.reduceNe, Int.reduceLT, Int.reduceLE, implies_true, Nat.reduceEqDiff, reduceIte, ite_true, ite_false, eq_self, Nat.reduceLT, Nat.reduceLeDiff, Nat.reduceAdd, Nat.reduceMul, Nat.reduceSub, intOf]
  refine (Padding_ok xs.length hx w4).mono ?_
  rintro _ w5 ⟨g, hg, rfl, hBg, hE5⟩
  have s5 := hE5.size
  have hpl := padW_len xs.length
  have hz : zerosN xs.length < 64 := by unfold zerosN; omega
  simp only [↓VD, VP, VT, isAggD, reduceCtorEq, Int.reduceEq, Int.reduceNe, Int.reduceLT, Int.reduceLE, implies_true, Nat.reduceEqDiff, reduceIte, ite_true, ite_false, eq_self, Nat.reduceLT, Nat.reduceLeDiff, Nat.reduceAdd, Nat.reduceMul, Nat.reduceSub, intOf]
  refine (Write_ok w2.heap.size xs (padW xs.length) _ w5 (hW.ext (hE4.trans' hE5)) (by omega) ⟨h, t, bk, _, hP4.blk.ext hE5, hP⟩ (SlN.of_blk hBg (by omega) (by omega))).mono ?_
  rintro _ w6 ⟨hK6, h', t', bk', n', hB6, hP6⟩
  have s6 := hK6.size
  have hE6 : Ext w w6 := (hE4.trans' hE5).trans (hK6.below (by omega) (by omega))
  have hl' := hP6.hl
  simp only [↓VD, VP, VT, isAggD, reduceCtorEq, Int.reduceEq, Int.reduceNe, Int.reduceLT, Int.reduceLE, implies_true, Nat.reduceEqDiff, reduceIte, ite_true, ite_false, eq_self, Nat.reduceLT, Nat.reduceLeDiff, Nat.reduceAdd, Nat.reduceMul, Nat.reduceSub, intOf]
  refine ldSeg (pre := []) (mid := vws h') Tryz.underlying120 rfl hB6 rfl (by rw [vws_len, hl', c120]) ?_
  simp only [↓VD, VP, VT, isAggD, reduceCtorEq, Int.reduceEq, Int.reduceNe, Int.reduceLT, Int.reduceLE, implies_true, Nat.reduceEqDiff, reduceIte, ite_true, ite_false, eq_self, Nat.reduceLT, Nat.reduceLeDiff, Nat.reduceAdd, Nat.reduceMul, Nat.reduceSub, intOf]
  have hh' : outW h' = shaP xs := by
    have ht : t' = true := by
      cases t'
      · have := hP6.none rfl
        have h0 := congrArg List.length this
        simp [hpl] at h0
      · rfl
    rw [shaP, ← hP6.hh ht]
  have hBo : Blk w6 w1.heap.size 27 (vbs (List.replicate 32 0)) := hK6.blk ((hP4.keep (hN2.blk.ext hN3.ext) (by omega)).ext hE5) (by omega)
  have hBr : Blk w6 w.heap.size 27 (vbs (List.replicate 32 0)) := hK6.blk ((hP4.keep ((hN1.blk.ext hN2.ext).ext hN3.ext) (by omega)).ext hE5) (by omega)
  refine loopT (fun s' w' => Ext w w' ∧ ∃ i : Nat, i ≤ 8 ∧ s' 2 = .pointer (some ⟨w.heap.size, 0, none⟩) ∧ s' 3 = .pointer (some ⟨w1.heap.size, 0, none⟩) ∧ s' 21 = .agg (vws h').toArray ∧ s' 22 = .int .i64 i ∧
      Blk w' w.heap.size 27 (vbs (List.replicate 32 0)) ∧ Blk w' w1.heap.size 27 (vbs ((outW h').take (4 * i) ++ List.replicate (32 - 4 * i) 0)))
      (fun s' _ => 8 - (intOf (s' 22)).toNat) ?_ ?_
  · simp only [↓VD, VP, VT, isAggD, reduceCtorEq, Int.reduceEq, Int.reduceNe, Int.reduceLT, Int.reduceLE, implies_true, Nat.reduceEqDiff, reduceIte, ite_true, ite_false, eq_self, Nat.reduceLT, Nat.reduceLeDiff, Nat.reduceAdd, Nat.reduceMul, Nat.reduceSub, intOf]
    exact ⟨hE6, 0, by omega, rfl, hBr, hBo⟩
  · clear hBo hBr hE6
    rintro s7 w7 ⟨hE, i, hi, h2, h3, h21, h22, hBr, hBo⟩
    simp only [↓VD, VP, VT, isAggD, reduceCtorEq, Int.reduceEq, Int.reduceNe, Int.reduceLT, Int.reduceLE, implies_true, Nat.reduceEqDiff, reduceIte, ite_true, ite_false, eq_self, Nat.reduceLT, Nat.reduceLeDiff, Nat.reduceAdd, Nat.reduceMul, Nat.reduceSub, intOf, h2, h3, h21, h22]
    refine ⟨fun hlt => ?_, fun hge => ?_⟩
    · have hi8 : i < 8 := by omega
      refine ⟨by omega, by omega, _, vws_get (l := h') (by omega), ?_⟩
      simp only [↓VD, VP, VT, isAggD, reduceCtorEq, Int.reduceEq, Int.reduceNe, Int.reduceLT, Int.reduceLE, implies_true, Nat.reduceEqDiff, reduceIte, ite_true, ite_false, eq_self, Nat.reduceLT, Nat.reduceLeDiff, Nat.reduceAdd, Nat.reduceMul, Nat.reduceSub, intOf, h2, h3, h21, h22, vw]
      refine loopT (fun s' w' => Ext w w' ∧ ∃ j : Nat, j ≤ 4 ∧ s' 2 = .pointer (some ⟨w.heap.size, 0, none⟩) ∧ s' 3 = .pointer (some ⟨w1.heap.size, 0, none⟩) ∧ s' 21 = .agg (vws h').toArray ∧ s' 22 = .int .i64 i ∧
        s' 5 = .int .i64 i ∧ s' 6 = .int .u32 (h'.getD i 0).toNat ∧ s' 26 = .int .i64 j ∧
        Blk w' w.heap.size 27 (vbs (List.replicate 32 0)) ∧ Blk w' w1.heap.size 27 (vbs ((outW h').take (4 * i + j) ++ List.replicate (32 - (4 * i + j)) 0)))
        (fun s' _ => 4 - (intOf (s' 26)).toNat) ?_ ?_
      · simp only [↓VD, VP, VT, isAggD, reduceCtorEq, Int.reduceEq, Int.reduceNe, Int.reduceLT, Int.reduceLE, implies_true, Nat.reduceEqDiff, reduceIte, ite_true, ite_false, eq_self, Nat.reduceLT, Nat.reduceLeDiff, Nat.reduceAdd, Nat.reduceMul, Nat.reduceSub, intOf, h2, h3, h21, h22]
        exact ⟨hE, 0, by omega, rfl, hBr, hBo⟩
      · have hmu := h22
        clear h2 h3 h21 h22 hBr hBo hE
        rintro s8 w8 ⟨hE, j, hj, h2, h3, h21, h22, h5, h6, h26, hBr, hBo⟩
        simp only [↓VD, VP, VT, isAggD, reduceCtorEq, Int.reduceEq, Int.reduceNe, Int.reduceLT, Int.reduceLE, implies_true, Nat.reduceEqDiff, reduceIte, ite_true, ite_false, eq_self, Nat.reduceLT, Nat.reduceLeDiff, Nat.reduceAdd, Nat.reduceMul, Nat.reduceSub, intOf, h2, h3, h21, h22, h5, h6, h26]
        refine ⟨fun hlt2 => ?_, fun hge2 => ?_⟩
        · have hj4 : j < 4 := by omega
          simp only [↓VD, VP, VT, isAggD, reduceCtorEq, Int.reduceEq, Int.reduceNe, Int.reduceLT, Int.reduceLE, implies_true, Nat.reduceEqDiff, reduceIte, ite_true, ite_false, eq_self, Nat.reduceLT, Nat.reduceLeDiff, Nat.reduceAdd, Nat.reduceMul, Nat.reduceSub, intOf, h2, h3, h21, h22, h5, h6, h26, (show IntKind.i64.wrap (4 * (i : Int)) = ((4 * i : Nat) : Int) from by rw [w64 (by omega) (by omega)] <;> omega), (show IntKind.i64.wrap (((4 * i : Nat) : Int) + (j : Int)) = ((4 * i + j : Nat) : Int) from by rw [w64 (by omega) (by omega)] <;> omega), (show IntKind.i64.wrap (8 * (j : Int)) = ((8 * j : Nat) : Int) from by rw [w64 (by omega) (by omega)] <;> omega), (show IntKind.i64.wrap (24 - ((8 * j : Nat) : Int)) = ((24 - 8 * j : Nat) : Int) from by rw [w64 (by omega) (by omega)] <;> omega), show ((h'.getD i 0).toNat : Int).fdiv (2 ^ min (24 - 8 * j) IntKind.u32.bits) = (((h'.getD i 0).toNat / 2 ^ (24 - 8 * j) : Nat) : Int) from fdivN _ (24 - 8 * j) 32 (by omega), wr8]
          refine ⟨by omega, by omega, by omega, stV c5 hBo rfl rfl (by rw [vbs_len]; simp [outW_len]; omega) (fun w9 hP => ?_)⟩
          have ht := outW_take h' (4 * i + j) (by omega)
          rw [show (4 * i + j) / 4 = i from by omega, show (4 * i + j) % 4 = j from by omega] at ht
          rw [vbs_set, set_tail (by simp [outW_len]; omega) (by omega), ht] at hP
          simp only [↓VD, VP, VT, isAggD, reduceCtorEq, Int.reduceEq, Int.reduceNe, Int.reduceLT, Int.reduceLE, implies_true, Nat.reduceEqDiff, reduceIte, ite_true, ite_false, eq_self, Nat.reduceLT, Nat.reduceLeDiff, Nat.reduceAdd, Nat.reduceMul, Nat.reduceSub, intOf, h2, h3, h21, h22, h5, h6, h26]
          refine ⟨⟨hE.trans (hP.below (by omega)), j + 1, by omega, ?_, hP.keep hBr (by omega), hP.blk⟩, ?_⟩
          · rw [w64 (by omega) (by omega)]; rfl
          · rw [w64 (by omega) (by omega)]; omega
        · have hj4 : j = 4 := by omega
          subst hj4
          simp only [hmu, intOf]
          refine ⟨⟨hE, i + 1, by omega, ?_, hBr, hBo⟩, ?_⟩
          · rw [w64 (by omega) (by omega)]; rfl
          · rw [w64 (by omega) (by omega)]; omega
    · have hi8 : i = 8 := by omega
      subst hi8
      have e1 : (outW h').take (4 * 8) ++ List.replicate (32 - 4 * 8) 0 = shaP xs := by
        rw [← hh', List.take_of_length_le (by rw [outW_len]; omega), show 32 - 4 * 8 = 0 from rfl, List.replicate_zero, List.append_nil]
      rw [e1] at hBo
      have hsl := shaP_len xs
      refine ldA Tryz.underlying27 rfl hBo (by rw [vbs_len, hsl, c27]) ?_
      simp only [↓VD, VP, VT, isAggD, reduceCtorEq, Int.reduceEq, Int.reduceNe, Int.reduceLT, Int.reduceLE, implies_true, Nat.reduceEqDiff, reduceIte, ite_true, ite_false, eq_self, Nat.reduceLT, Nat.reduceLeDiff, Nat.reduceAdd, Nat.reduceMul, Nat.reduceSub, intOf, h2, h3, h21, h22]
      refine stAll hBr rfl (by rw [c27]; omega) (by rw [c27, vbs_len, hsl]) (by rw [c27]; rfl) (vbs_one _) (fun w9 hP => ?_)
      simp only [↓VD, VP, VT, isAggD, reduceCtorEq, Int.reduceEq, Int.reduceNe, Int.reduceLT, Int.reduceLE, implies_true, Nat.reduceEqDiff, reduceIte, ite_true, ite_false, eq_self, Nat.reduceLT, Nat.reduceLeDiff, Nat.reduceAdd, Nat.reduceMul, Nat.reduceSub, intOf, h2, h3, h21, h22]
      refine ldA Tryz.underlying27 rfl hP.blk (by rw [c27, vbs_len, hsl]) ?_
      exact ⟨rfl, hE.trans (hP.below (by omega))⟩

end Go.Proofs.YticfalbgplifoaaGreatDoor
