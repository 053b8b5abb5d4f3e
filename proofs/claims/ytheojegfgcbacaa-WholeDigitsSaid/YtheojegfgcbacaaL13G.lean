/-
  The law WholeDigits (notarytop), and notarytop's width and cut. Conditions: as stated in each theorem.
-/
import Derived.Test.YtheojegfgcbacaaL13E
namespace Go.Proofs.Ytheojegfgcbacaa
open Go Go.RowKit
set_option linter.unusedVariables false
set_option linter.unusedSimpArgs false

theorem width_ok (m : Nat) (h : m < 256) (w : World) : CallK Try.prog 29 [.int .u8 m].toArray w fun v w' => v = .int .i64 (1 + m % 32 : Nat) ∧ Ext w w' := by
  refine enterT Try.func29 rfl Try.ntmps29 Try.results29 rfl (by decide) ?_
  simp only [↓VD, VP, VT, isAggD, reduceCtorEq, Int.reduceEq, Int.reduceNe, Int.reduceLT, Int.reduceLE, implies_true, Nat.reduceEqDiff, reduceIte, ite_true, ite_false, eq_self, Nat.reduceLT, Nat.reduceLeDiff, Nat.reduceAdd, Nat.reduceMul, Nat.reduceSub, intOf]
  have e1 : IntKind.i64.wrap (m : Int) = m := w64 (by omega) (by omega)
  have e2 : (m : Int).tmod 32 = ((m % 32 : Nat) : Int) := by rw [Int.tmod_eq_emod_of_nonneg (by omega)]; rfl
  rw [e1, e2, w64 (by omega) (by omega)]
  exact ⟨by omega, Ext.rfl' w⟩

def cutK (n k : Nat) (d : List UInt8) : List UInt8 := (List.range 32).map fun j => if n ≤ j ∧ j < k then 0 else d.getD j 0
def cutP (n : Nat) (d : List UInt8) : List UInt8 := cutK n 32 d
theorem cutK_len (n k : Nat) (d : List UInt8) : (cutK n k d).length = 32 := by simp [cutK]
theorem cutP_len (n : Nat) (d : List UInt8) : (cutP n d).length = 32 := cutK_len ..
theorem cutK_zero {n : Nat} {d : List UInt8} (hd : d.length = 32) : cutK n n d = d := by
  apply List.ext_getElem (by rw [cutK_len, hd])
  intro j h1 h2
  simp only [cutK, List.getElem_map, List.getElem_range, List.getD_eq_getElem?_getD, List.getElem?_eq_getElem h2, Option.getD_some]
  rw [if_neg (by omega)]
theorem cutK_succ {n k : Nat} {d : List UInt8} (h : n ≤ k) (hk : k < 32) : cutK n (k + 1) d = (cutK n k d).set k 0 := by
  apply List.ext_getElem (by simp [cutK])
  intro j h1 h2
  rw [List.getElem_set]
  split
  · rename_i e; subst e; simp [cutK, h]
  · rename_i e
    simp only [cutK, List.getElem_map, List.getElem_range]
    by_cases e1 : n ≤ j ∧ j < k
    · rw [if_pos (by omega), if_pos e1]
    · rw [if_neg (by omega), if_neg e1]
theorem cutP_form {n : Nat} (hn : 1 ≤ n ∧ n ≤ 32) (d : List UInt8) : formP n (cutP n d) = true := by
  simp only [formP, widthP, Bool.and_eq_true, decide_eq_true_eq, Int.toNat_natCast]
  refine ⟨by omega, fun b hb => ?_⟩
  obtain ⟨j, hj⟩ := List.getElem?_of_mem hb
  rw [List.getElem?_drop] at hj
  obtain ⟨h1, h2⟩ := List.getElem?_eq_some_iff.1 hj
  rw [← h2]
  have h3 : n + j < 32 := by rw [← cutP_len n d]; exact h1
  simp only [cutP, cutK, List.getElem_map, List.getElem_range]
  rw [if_pos (by omega)]

theorem cut_ok (n : Nat) (hn : 1 ≤ n ∧ n ≤ 32) (d : List UInt8) (hd : d.length = 32) (w : World) :
    CallK Try.prog 30 [.int .i64 n, .agg (vbs d).toArray].toArray w fun v w' => v = .agg (vbs (cutP n d)).toArray ∧ Ext w w' := by
  refine enterT Try.func30 rfl Try.ntmps30 Try.results30 rfl (by decide) ?_
  simp only [↓VD, VP, VT, isAggD, reduceCtorEq, Int.reduceEq, Int.reduceNe, Int.reduceLT, Int.reduceLE, implies_true, Nat.reduceEqDiff, reduceIte, ite_true, ite_false, eq_self, Nat.reduceLT, Nat.reduceLeDiff, Nat.reduceAdd, Nat.reduceMul, Nat.reduceSub, intOf]
  intro w1 hN1 w2 hN2
  have q := hN1.size
  refine loopT (fun s' w' => Ext w w' ∧ ∃ k : Nat, n ≤ k ∧ k ≤ 32 ∧ s' 3 = .pointer (some ⟨w.heap.size, 0, none⟩) ∧ s' 4 = .pointer (some ⟨w1.heap.size, 0, none⟩) ∧ s' 5 = .int .i64 k ∧ Blk w' w.heap.size 23 (vbs (cutK n k d)) ∧ Blk w' w1.heap.size 23 (List.replicate 32 (.int .u8 0))) (fun s' _ => 32 - (intOf (s' 5)).toNat) ?_ ?_
  · simp only [↓VD, VP, VT, isAggD, reduceCtorEq, Int.reduceEq, Int.reduceNe, Int.reduceLT, Int.reduceLE, implies_true, Nat.reduceEqDiff, reduceIte, ite_true, ite_false, eq_self, Nat.reduceLT, Nat.reduceLeDiff, Nat.reduceAdd, Nat.reduceMul, Nat.reduceSub, intOf]
    exact ⟨hN1.ext.trans' hN2.ext, n, by omega, by omega, rfl, by rw [cutK_zero hd]; exact hN2.keep hN1.blk, hN2.blk⟩
  · rintro s1 w3 ⟨hE, k, hk0, hk, h3, h4, h5, hB, hC⟩
    simp only [↓VD, VP, VT, isAggD, reduceCtorEq, Int.reduceEq, Int.reduceNe, Int.reduceLT, Int.reduceLE, implies_true, Nat.reduceEqDiff, reduceIte, ite_true, ite_false, eq_self, Nat.reduceLT, Nat.reduceLeDiff, Nat.reduceAdd, Nat.reduceMul, Nat.reduceSub, intOf, h3, h4, h5]
    refine ⟨fun hlt => ?_, fun hge => ?_⟩
    · refine ⟨by omega, by omega, ?_⟩
      rw [show (0 : Int) = (((0 : UInt8).toNat : Nat) : Int) from rfl]
      refine stB c5 hB (by rw [cutK_len]; omega) (fun w4 hP => ?_)
      rw [← cutK_succ hk0 (by omega)] at hP
      simp only [↓VD, VP, VT, isAggD, reduceCtorEq, Int.reduceEq, Int.reduceNe, Int.reduceLT, Int.reduceLE, implies_true, Nat.reduceEqDiff, reduceIte, ite_true, ite_false, eq_self, Nat.reduceLT, Nat.reduceLeDiff, Nat.reduceAdd, Nat.reduceMul, Nat.reduceSub, intOf, h3, h4, h5]
      refine ⟨⟨hE.trans (hP.below (Nat.le_refl _)), k + 1, by omega, by omega, by rw [w64 (by omega) (by omega)]; rfl, hP.blk, hP.keep hC (by omega)⟩, ?_⟩
      rw [w64 (by omega) (by omega)]; omega
    · have ek : k = 32 := by omega
      subst ek
      refine ldD hB (cutK_len ..) ?_
      simp only [↓VD, VP, VT, isAggD, reduceCtorEq, Int.reduceEq, Int.reduceNe, Int.reduceLT, Int.reduceLE, implies_true, Nat.reduceEqDiff, reduceIte, ite_true, ite_false, eq_self, Nat.reduceLT, Nat.reduceLeDiff, Nat.reduceAdd, Nat.reduceMul, Nat.reduceSub, intOf, h3, h4, h5]
      refine stAll hC rfl (by rw [c23]; omega) (by rw [c23, vbs_len, cutK_len]) (by rw [c23]; simp) (vbs_one _) (fun w4 hP => ?_)
      simp only [↓VD, VP, VT, isAggD, reduceCtorEq, Int.reduceEq, Int.reduceNe, Int.reduceLT, Int.reduceLE, implies_true, Nat.reduceEqDiff, reduceIte, ite_true, ite_false, eq_self, Nat.reduceLT, Nat.reduceLeDiff, Nat.reduceAdd, Nat.reduceMul, Nat.reduceSub, intOf, h3, h4, h5]
      exact ldD hP.blk (cutK_len ..) ⟨rfl, hE.trans (hP.below (by omega))⟩

set_option maxRecDepth 100000 in
theorem WholeDigits_ok (m8 : Nat) (h8 : m8 < 256) (a b : List UInt8) (ha : a.length = 32) (hb : b.length = 32) (v : Value) (l : List UInt8) (w : World) (hv : SlC w v l.length (vbs l)) :
    CallK Try.prog 10 [.int .u8 m8, .agg (vbs a).toArray, .agg (vbs b).toArray, v].toArray w fun v w' => v = .bool true ∧ Ext w w' := by
  obtain ⟨al, cl, rfl, hnc, hcm, hc⟩ := hv
  refine enterT Try.func10 rfl Try.ntmps10 Try.results10 rfl (by decide) ?_
  simp only [↓VD, VP, VT, isAggD, reduceCtorEq, Int.reduceEq, Int.reduceNe, Int.reduceLT, Int.reduceLE, implies_true, Nat.reduceEqDiff, reduceIte, ite_true, ite_false, eq_self, Nat.reduceLT, Nat.reduceLeDiff, Nat.reduceAdd, Nat.reduceMul, Nat.reduceSub, intOf]
  intro w1 hN1 w2 hN2
  have z1 := hN1.size
  have z2 := hN2.size
  refine (width_ok m8 h8 w2).mono ?_
  rintro _ w3 ⟨rfl, hE3⟩
  have hn : 1 ≤ 1 + m8 % 32 ∧ 1 + m8 % 32 ≤ 32 := by omega
  generalize 1 + m8 % 32 = n at hn
  have hA3 := (hN2.keep hN1.blk).ext hE3
  have hB3 := hN2.blk.ext hE3
  simp only [↓VD, VP, VT, isAggD, reduceCtorEq, Int.reduceEq, Int.reduceNe, Int.reduceLT, Int.reduceLE, implies_true, Nat.reduceEqDiff, reduceIte, ite_true, ite_false, eq_self, Nat.reduceLT, Nat.reduceLeDiff, Nat.reduceAdd, Nat.reduceMul, Nat.reduceSub, intOf]
  refine ldD hA3 ha ?_
  simp only [↓VD, VP, VT, isAggD, reduceCtorEq, Int.reduceEq, Int.reduceNe, Int.reduceLT, Int.reduceLE, implies_true, Nat.reduceEqDiff, reduceIte, ite_true, ite_false, eq_self, Nat.reduceLT, Nat.reduceLeDiff, Nat.reduceAdd, Nat.reduceMul, Nat.reduceSub, intOf]
  refine (cut_ok n hn a ha w3).mono ?_
  rintro _ w4 ⟨rfl, hE4⟩
  have hB4 := hB3.ext hE4
  have hx := cutP_len n a
  have fx := cutP_form hn a
  generalize cutP n a = x at *
  simp only [↓VD, VP, VT, isAggD, reduceCtorEq, Int.reduceEq, Int.reduceNe, Int.reduceLT, Int.reduceLE, implies_true, Nat.reduceEqDiff, reduceIte, ite_true, ite_false, eq_self, Nat.reduceLT, Nat.reduceLeDiff, Nat.reduceAdd, Nat.reduceMul, Nat.reduceSub, intOf]
  intro w5 hN5
  refine stAll hN5.blk rfl (by rw [c23]; omega) (by rw [c23, vbs_len, hx]) (by rw [c23]; simp) (vbs_one _) (fun w6 hP6 => ?_)
  have hE6 : Ext w4 w6 := hN5.ext.trans (hP6.below (Nat.le_refl _))
  have hX6 := hP6.blk
  have hB6 := hB4.ext hE6
  have hw : Ext w w6 := hN1.ext.trans' (hN2.ext.trans' (hE3.trans' (hE4.trans' hE6)))
  simp only [↓VD, VP, VT, isAggD, reduceCtorEq, Int.reduceEq, Int.reduceNe, Int.reduceLT, Int.reduceLE, implies_true, Nat.reduceEqDiff, reduceIte, ite_true, ite_false, eq_self, Nat.reduceLT, Nat.reduceLeDiff, Nat.reduceAdd, Nat.reduceMul, Nat.reduceSub, intOf]
  refine ldD hB6 hb ?_
  simp only [↓VD, VP, VT, isAggD, reduceCtorEq, Int.reduceEq, Int.reduceNe, Int.reduceLT, Int.reduceLE, implies_true, Nat.reduceEqDiff, reduceIte, ite_true, ite_false, eq_self, Nat.reduceLT, Nat.reduceLeDiff, Nat.reduceAdd, Nat.reduceMul, Nat.reduceSub, intOf]
  refine (cut_ok n hn b hb w6).mono ?_
  rintro _ w7 ⟨rfl, hE7⟩
  have hX7 := hX6.ext hE7
  have hy := cutP_len n b
  have fy := cutP_form hn b
  generalize cutP n b = y at *
  simp only [↓VD, VP, VT, isAggD, reduceCtorEq, Int.reduceEq, Int.reduceNe, Int.reduceLT, Int.reduceLE, implies_true, Nat.reduceEqDiff, reduceIte, ite_true, ite_false, eq_self, Nat.reduceLT, Nat.reduceLeDiff, Nat.reduceAdd, Nat.reduceMul, Nat.reduceSub, intOf]
  intro w8 hN8
  refine stAll hN8.blk rfl (by rw [c23]; omega) (by rw [c23, vbs_len, hy]) (by rw [c23]; simp) (vbs_one _) (fun w9 hP9 => ?_)
  have hE9 : Ext w7 w9 := hN8.ext.trans (hP9.below (Nat.le_refl _))
  have hX9 := hX7.ext hE9
  have hY9 := hP9.blk
  have hw9 : Ext w w9 := hw.trans' (hE7.trans' hE9)
  generalize w4.heap.size = bx at *
  generalize w7.heap.size = byy at *
  clear hP9 hN8 hX7 hB6 hX6 hP6 hN5 hB4 hA3 hB3 hN1 hN2 z1 z2 hE3 hE4 hE6 hE7 hE9 hw
  obtain ⟨o, eo1, eo2, hob, ho0, ho1⟩ := ord_facts hn hx hy fx fy
  have ec := comPP_fit hn fx fy
  have hcl := comP_le x y (2 * n)
  have hcb := comP_below x y (2 * n)
  have hca := comP_at x y (2 * n)
  have hcall := com_all hx hy fx fy
  generalize hcd : comP x y (2 * n) = c at *
  simp only [↓VD, VP, VT, isAggD, reduceCtorEq, Int.reduceEq, Int.reduceNe, Int.reduceLT, Int.reduceLE, implies_true, Nat.reduceEqDiff, reduceIte, ite_true, ite_false, eq_self, Nat.reduceLT, Nat.reduceLeDiff, Nat.reduceAdd, Nat.reduceMul, Nat.reduceSub, intOf]
  refine ldD hX9 hx ?_
  simp only [↓VD, VP, VT, isAggD, reduceCtorEq, Int.reduceEq, Int.reduceNe, Int.reduceLT, Int.reduceLE, implies_true, Nat.reduceEqDiff, reduceIte, ite_true, ite_false, eq_self, Nat.reduceLT, Nat.reduceLeDiff, Nat.reduceAdd, Nat.reduceMul, Nat.reduceSub, intOf]
  refine ldD hY9 hy ?_
  simp only [↓VD, VP, VT, isAggD, reduceCtorEq, Int.reduceEq, Int.reduceNe, Int.reduceLT, Int.reduceLE, implies_true, Nat.reduceEqDiff, reduceIte, ite_true, ite_false, eq_self, Nat.reduceLT, Nat.reduceLeDiff, Nat.reduceAdd, Nat.reduceMul, Nat.reduceSub, intOf]
  refine (Common_ok n x y hx hy w9).mono ?_
  rintro _ w10 ⟨rfl, hE10⟩
  rw [ec]
  have hX10 := hX9.ext hE10
  have hY10 := hY9.ext hE10
  simp only [↓VD, VP, VT, isAggD, reduceCtorEq, Int.reduceEq, Int.reduceNe, Int.reduceLT, Int.reduceLE, implies_true, Nat.reduceEqDiff, reduceIte, ite_true, ite_false, eq_self, Nat.reduceLT, Nat.reduceLeDiff, Nat.reduceAdd, Nat.reduceMul, Nat.reduceSub, intOf]
  refine ldD hX10 hx ?_
  simp only [↓VD, VP, VT, isAggD, reduceCtorEq, Int.reduceEq, Int.reduceNe, Int.reduceLT, Int.reduceLE, implies_true, Nat.reduceEqDiff, reduceIte, ite_true, ite_false, eq_self, Nat.reduceLT, Nat.reduceLeDiff, Nat.reduceAdd, Nat.reduceMul, Nat.reduceSub, intOf]
  refine ldD hY10 hy ?_
  simp only [↓VD, VP, VT, isAggD, reduceCtorEq, Int.reduceEq, Int.reduceNe, Int.reduceLT, Int.reduceLE, implies_true, Nat.reduceEqDiff, reduceIte, ite_true, ite_false, eq_self, Nat.reduceLT, Nat.reduceLeDiff, Nat.reduceAdd, Nat.reduceMul, Nat.reduceSub, intOf]
  refine (Order_ok n x y hx hy w10).mono ?_
  rintro _ w11 ⟨rfl, hE11⟩
  rw [eo1]
  have hX11 := hX10.ext hE11
  have hY11 := hY10.ext hE11
  have h11 := hw9.trans' (hE10.trans' hE11)
  have ed : decide (o = 0) = decide (x = y) := by simp only [ho0]
  have q1 : ((c : Int) < 0) = False := eq_false (by omega)
  have q2 : IntKind.i64.wrap (2 * (n : Int)) = 2 * n := w64 (by omega) (by omega)
  have q3 : (2 * (n : Int) < c) = False := eq_false (by omega)
  have ed2 : decide ((c : Int) = 2 * (n : Int)) = decide (x = y) := by
    rw [decide_eq_decide, ← hcall]; omega
  simp only [↓VD, VP, VT, isAggD, reduceCtorEq, Int.reduceEq, Int.reduceNe, Int.reduceLT, Int.reduceLE, implies_true, Nat.reduceEqDiff, reduceIte, ite_true, ite_false, eq_self, Nat.reduceLT, Nat.reduceLeDiff, Nat.reduceAdd, Nat.reduceMul, Nat.reduceSub, intOf, q1, q2, q3]
  refine ldD hX11 hx ?_
  simp only [↓VD, VP, VT, isAggD, reduceCtorEq, Int.reduceEq, Int.reduceNe, Int.reduceLT, Int.reduceLE, implies_true, Nat.reduceEqDiff, reduceIte, ite_true, ite_false, eq_self, Nat.reduceLT, Nat.reduceLeDiff, Nat.reduceAdd, Nat.reduceMul, Nat.reduceSub, intOf]
  refine ldD hY11 hy ?_
  simp only [↓VD, VP, VT, isAggD, reduceCtorEq, Int.reduceEq, Int.reduceNe, Int.reduceLT, Int.reduceLE, implies_true, Nat.reduceEqDiff, reduceIte, ite_true, ite_false, eq_self, Nat.reduceLT, Nat.reduceLeDiff, Nat.reduceAdd, Nat.reduceMul, Nat.reduceSub, intOf]
  refine eqd_lit _ _ 32 x y _ Try.underlying5 c5 hx hy ?_
  simp only [↓VD, VP, VT, isAggD, reduceCtorEq, Int.reduceEq, Int.reduceNe, Int.reduceLT, Int.reduceLE, implies_true, Nat.reduceEqDiff, reduceIte, ite_true, ite_false, eq_self, Nat.reduceLT, Nat.reduceLeDiff, Nat.reduceAdd, Nat.reduceMul, Nat.reduceSub, intOf, ed2, q2]
  refine ldD hX11 hx ?_
  simp only [↓VD, VP, VT, isAggD, reduceCtorEq, Int.reduceEq, Int.reduceNe, Int.reduceLT, Int.reduceLE, implies_true, Nat.reduceEqDiff, reduceIte, ite_true, ite_false, eq_self, Nat.reduceLT, Nat.reduceLeDiff, Nat.reduceAdd, Nat.reduceMul, Nat.reduceSub, intOf]
  refine ldD hY11 hy ?_
  simp only [↓VD, VP, VT, isAggD, reduceCtorEq, Int.reduceEq, Int.reduceNe, Int.reduceLT, Int.reduceLE, implies_true, Nat.reduceEqDiff, reduceIte, ite_true, ite_false, eq_self, Nat.reduceLT, Nat.reduceLeDiff, Nat.reduceAdd, Nat.reduceMul, Nat.reduceSub, intOf]
  refine eqd_lit _ _ 32 x y _ Try.underlying5 c5 hx hy ?_
  simp only [↓VD, VP, VT, isAggD, reduceCtorEq, Int.reduceEq, Int.reduceNe, Int.reduceLT, Int.reduceLE, implies_true, Nat.reduceEqDiff, reduceIte, ite_true, ite_false, eq_self, Nat.reduceLT, Nat.reduceLeDiff, Nat.reduceAdd, Nat.reduceMul, Nat.reduceSub, intOf, ed]
  refine loopJ 0 (fun s' w' => Ext w11 w' ∧ s' 3 = .slice al l.length cl ∧ s' 9 = .int .i64 n ∧ s' 10 = .pointer (some ⟨bx, 0, none⟩) ∧ s' 11 = .pointer (some ⟨byy, 0, none⟩) ∧ s' 12 = .int .i64 c ∧ s' 14 = .int .i64 o)
      (fun s' w' => Ext w11 w' ∧ ∃ k : Nat, k ≤ c ∧ s' 3 = .slice al l.length cl ∧ s' 9 = .int .i64 n ∧ s' 10 = .pointer (some ⟨bx, 0, none⟩) ∧ s' 11 = .pointer (some ⟨byy, 0, none⟩) ∧ s' 12 = .int .i64 c ∧ s' 14 = .int .i64 o ∧ s' 16 = .int .i64 k) (fun s' _ => c - (intOf (s' 16)).toNat) ?_ ?_ ?_
  · simp only [↓VD, VP, VT, isAggD, reduceCtorEq, Int.reduceEq, Int.reduceNe, Int.reduceLT, Int.reduceLE, implies_true, Nat.reduceEqDiff, reduceIte, ite_true, ite_false, eq_self, Nat.reduceLT, Nat.reduceLeDiff, Nat.reduceAdd, Nat.reduceMul, Nat.reduceSub, intOf]
    exact ⟨Ext.rfl' w11, 0, by omega, rfl⟩
  · rintro s1 w12 ⟨hE12, g3, g9, g10, g11, g12, g14⟩
    simp only [↓VD, VP, VT, isAggD, reduceCtorEq, Int.reduceEq, Int.reduceNe, Int.reduceLT, Int.reduceLE, implies_true, Nat.reduceEqDiff, reduceIte, ite_true, ite_false, eq_self, Nat.reduceLT, Nat.reduceLeDiff, Nat.reduceAdd, Nat.reduceMul, Nat.reduceSub, intOf, g3, g9, g10, g11, g12, g14, q2]
    have hX12 := hX11.ext hE12
    have hY12 := hY11.ext hE12
    have hcb' : ∀ k, k < l.length → ∃ bl ol, al = some ⟨bl, ol, none⟩ ∧ ∀ w', Ext w w' → w'.cell? ⟨bl, ol + k, none⟩ = some (.int .u8 (l.getD k 0).toNat) := by
      intro k hk
      rcases hc with hc | ⟨bl, ol, rfl, hc⟩
      · have : l = [] := by simpa [vbs] using hc
        simp [this] at hk
      · exact ⟨bl, ol, rfl, fun w' hE => cell_ext hE (hc k _ (vbs_get hk))⟩
    refine ⟨fun hlt => ?ja, fun hge => ?jb⟩
    case' ja =>
      refine ldD hX12 hx ?_
      simp only [↓VD, VP, VT, isAggD, reduceCtorEq, Int.reduceEq, Int.reduceNe, Int.reduceLT, Int.reduceLE, implies_true, Nat.reduceEqDiff, reduceIte, ite_true, ite_false, eq_self, Nat.reduceLT, Nat.reduceLeDiff, Nat.reduceAdd, Nat.reduceMul, Nat.reduceSub, intOf, g3, g9, g10, g11, g12, g14]
      refine (At_ok n x hx c w12).mono ?_
      rintro _ w13 ⟨rfl, hE13⟩
      rw [at_in hn fx (by omega)]
      simp only [↓VD, VP, VT, isAggD, reduceCtorEq, Int.reduceEq, Int.reduceNe, Int.reduceLT, Int.reduceLE, implies_true, Nat.reduceEqDiff, reduceIte, ite_true, ite_false, eq_self, Nat.reduceLT, Nat.reduceLeDiff, Nat.reduceAdd, Nat.reduceMul, Nat.reduceSub, intOf, g3, g9, g10, g11, g12, g14]
      refine ldD (hY12.ext hE13) hy ?_
      simp only [↓VD, VP, VT, isAggD, reduceCtorEq, Int.reduceEq, Int.reduceNe, Int.reduceLT, Int.reduceLE, implies_true, Nat.reduceEqDiff, reduceIte, ite_true, ite_false, eq_self, Nat.reduceLT, Nat.reduceLeDiff, Nat.reduceAdd, Nat.reduceMul, Nat.reduceSub, intOf, g3, g9, g10, g11, g12, g14]
      refine (At_ok n y hy c w13).mono ?_
      rintro _ wj ⟨rfl, hEjj⟩
      rw [at_in hn fy (by omega)]
      have d1 := hca (by omega)
      have d2 := ho1 (by omega)
      have r1 : ((digP x c : Int) = (digP y c : Int)) = False := eq_false (by omega)
      have r2 : decide ((digP x c : Int) < (digP y c : Int)) = decide (o < 0) := by rw [decide_eq_decide]; omega
      simp only [↓VD, VP, VT, isAggD, reduceCtorEq, Int.reduceEq, Int.reduceNe, Int.reduceLT, Int.reduceLE, implies_true, Nat.reduceEqDiff, reduceIte, ite_true, ite_false, eq_self, Nat.reduceLT, Nat.reduceLeDiff, Nat.reduceAdd, Nat.reduceMul, Nat.reduceSub, intOf, g3, g9, g10, g11, g12, g14, r1, r2]
      have hEj : Ext w11 wj := hE12.trans' (hE13.trans' hEjj)
    case' jb =>
      obtain ⟨wj, hwj, hEj⟩ : ∃ x, x = w12 ∧ Ext w11 x := ⟨_, rfl, hE12⟩
      rw [← hwj]
    all_goals
      refine (With_ok 0 (by decide) 3 wj).mono ?_
      rintro _ w15 ⟨rfl, hE15⟩
      rw [show withB 0 3 = 8 from by decide +kernel]
      simp only [↓VD, VP, VT, isAggD, reduceCtorEq, Int.reduceEq, Int.reduceNe, Int.reduceLT, Int.reduceLE, implies_true, Nat.reduceEqDiff, reduceIte, ite_true, ite_false, eq_self, Nat.reduceLT, Nat.reduceLeDiff, Nat.reduceAdd, Nat.reduceMul, Nat.reduceSub, intOf]
      refine (Count_ok 8 (by decide) w15).mono ?_
      rintro _ w16 ⟨rfl, hE16⟩
      rw [show cntB 8 = 1 from by decide +kernel]
      simp only [↓VD, VP, VT, isAggD, reduceCtorEq, Int.reduceEq, Int.reduceNe, Int.reduceLT, Int.reduceLE, implies_true, Nat.reduceEqDiff, reduceIte, ite_true, ite_false, eq_self, Nat.reduceLT, Nat.reduceLeDiff, Nat.reduceAdd, Nat.reduceMul, Nat.reduceSub, intOf]
      refine (Has_ok 8 (by decide) 4 w16).mono ?_
      rintro _ w17 ⟨rfl, hE17⟩
      rw [show hasB 8 4 = false from by decide +kernel]
      have h17 : Ext w w17 := h11.trans' (hEj.trans' (hE15.trans' (hE16.trans' hE17)))
      simp only [↓VD, VP, VT, isAggD, reduceCtorEq, Int.reduceEq, Int.reduceNe, Int.reduceLT, Int.reduceLE, implies_true, Nat.reduceEqDiff, reduceIte, ite_true, ite_false, eq_self, Nat.reduceLT, Nat.reduceLeDiff, Nat.reduceAdd, Nat.reduceMul, Nat.reduceSub, intOf]
      refine loopT (fun s' w' => Ext w w' ∧ ∃ k M : Nat, k ≤ l.length ∧ M < 65536 ∧ s' 3 = .slice al l.length cl ∧ s' 25 = .int .u16 M ∧ s' 26 = .int .i64 k) (fun s' _ => l.length - (intOf (s' 26)).toNat) ?_ ?_
      · simp only [↓VD, VP, VT, isAggD, reduceCtorEq, Int.reduceEq, Int.reduceNe, Int.reduceLT, Int.reduceLE, implies_true, Nat.reduceEqDiff, reduceIte, ite_true, ite_false, eq_self, Nat.reduceLT, Nat.reduceLeDiff, Nat.reduceAdd, Nat.reduceMul, Nat.reduceSub, intOf, g3]
        exact ⟨h17, 0, 8, by omega, by omega, rfl, rfl⟩
      · rintro s2 w18 ⟨hE18, k, M, hk, hM, f3, f25, f26⟩
        simp only [↓VD, VP, VT, isAggD, reduceCtorEq, Int.reduceEq, Int.reduceNe, Int.reduceLT, Int.reduceLE, implies_true, Nat.reduceEqDiff, reduceIte, ite_true, ite_false, eq_self, Nat.reduceLT, Nat.reduceLeDiff, Nat.reduceAdd, Nat.reduceMul, Nat.reduceSub, intOf, f3, f25, f26]
        refine ⟨fun hl2 => ?_, fun hg2 => ?_⟩
        · obtain ⟨bl, ol, rfl, hcell⟩ := hcb' k (by omega)
          simp only [↓VD, VP, VT, isAggD, reduceCtorEq, Int.reduceEq, Int.reduceNe, Int.reduceLT, Int.reduceLE, implies_true, Nat.reduceEqDiff, reduceIte, ite_true, ite_false, eq_self, Nat.reduceLT, Nat.reduceLeDiff, Nat.reduceAdd, Nat.reduceMul, Nat.reduceSub, intOf, f3, f25, f26]
          refine ⟨by omega, by omega, ld1 Try.underlying5 rfl (hcell w18 hE18) ?_⟩
          generalize l.getD k 0 = yb
          have hyb := yb.toNat_lt
          simp only [↓VD, VP, VT, isAggD, reduceCtorEq, Int.reduceEq, Int.reduceNe, Int.reduceLT, Int.reduceLE, implies_true, Nat.reduceEqDiff, reduceIte, ite_true, ite_false, eq_self, Nat.reduceLT, Nat.reduceLeDiff, Nat.reduceAdd, Nat.reduceMul, Nat.reduceSub, intOf, f3, f25, f26]
          have e1 : IntKind.i64.wrap (yb.toNat : Int) = yb.toNat := w64 (by omega) (by omega)
          have e2 : (yb.toNat : Int).tmod 16 = ((yb.toNat % 16 : Nat) : Int) := by rw [Int.tmod_eq_emod_of_nonneg (by omega)]; rfl
          have hin : inB ((yb.toNat % 16 : Nat) : Int) = true := (inB_iff _).2 (by omega)
          rw [e1, e2]
          generalize ((yb.toNat % 16 : Nat) : Int) = ci at *
          have hwl := withB_lt hM ci
          have k1 := has_with (m := M) hin
          have k2 := without_with hM hin
          have k3 := cnt_with hM hin
          have k4 := eq_with (m := M) hin
          have k5 := eq_without hM hin
          have kc := cnt_le (withoutB M ci)
          have kc2 := cnt_le M
          refine (Count_ok M hM w18).mono ?_
          rintro _ w19 ⟨rfl, hE19⟩
          simp only [↓VD, VP, VT, isAggD, reduceCtorEq, Int.reduceEq, Int.reduceNe, Int.reduceLT, Int.reduceLE, implies_true, Nat.reduceEqDiff, reduceIte, ite_true, ite_false, eq_self, Nat.reduceLT, Nat.reduceLeDiff, Nat.reduceAdd, Nat.reduceMul, Nat.reduceSub, intOf, f3, f25, f26]
          refine (Has_ok M hM ci w19).mono ?_
          rintro _ w20 ⟨rfl, hE20⟩
          simp only [↓VD, VP, VT, isAggD, reduceCtorEq, Int.reduceEq, Int.reduceNe, Int.reduceLT, Int.reduceLE, implies_true, Nat.reduceEqDiff, reduceIte, ite_true, ite_false, eq_self, Nat.reduceLT, Nat.reduceLeDiff, Nat.reduceAdd, Nat.reduceMul, Nat.reduceSub, intOf, f3, f25, f26]
          refine (With_ok M hM ci w20).mono ?_
          rintro _ w21 ⟨rfl, hE21⟩
          simp only [↓VD, VP, VT, isAggD, reduceCtorEq, Int.reduceEq, Int.reduceNe, Int.reduceLT, Int.reduceLE, implies_true, Nat.reduceEqDiff, reduceIte, ite_true, ite_false, eq_self, Nat.reduceLT, Nat.reduceLeDiff, Nat.reduceAdd, Nat.reduceMul, Nat.reduceSub, intOf, f3, f25, f26]
          refine (Has_ok (withB M ci) hwl ci w21).mono ?_
          rintro _ w22 ⟨rfl, hE22⟩
          rw [k1]
          simp only [↓VD, VP, VT, isAggD, reduceCtorEq, Int.reduceEq, Int.reduceNe, Int.reduceLT, Int.reduceLE, implies_true, Nat.reduceEqDiff, reduceIte, ite_true, ite_false, eq_self, Nat.reduceLT, Nat.reduceLeDiff, Nat.reduceAdd, Nat.reduceMul, Nat.reduceSub, intOf, f3, f25, f26]
          refine (Count_ok (withB M ci) hwl w22).mono ?_
          rintro _ w23 ⟨rfl, hE23⟩
          have hnot : decide (IntKind.i64.wrap ((cntB (withB M ci) : Int) - (cntB M : Int)) = 1) = !hasB M ci := by
            rw [w64 (by omega) (by omega)]
            cases hh : hasB M ci
            · have := k5.2 hh
              have e : cntB M = cntB (withoutB M ci) := by rw [← this]
              rw [show ((!false) = true) from rfl, decide_eq_true_eq]; omega
            · have := k4.2 hh
              have e : cntB M = cntB (withB M ci) := by rw [← this]
              rw [show ((!true) = false) from rfl, decide_eq_false_iff_not]; omega
          simp only [↓VD, VP, VT, isAggD, reduceCtorEq, Int.reduceEq, Int.reduceNe, Int.reduceLT, Int.reduceLE, implies_true, Nat.reduceEqDiff, reduceIte, ite_true, ite_false, eq_self, Nat.reduceLT, Nat.reduceLeDiff, Nat.reduceAdd, Nat.reduceMul, Nat.reduceSub, intOf, f3, f25, f26, hnot]
          refine ⟨fun h => by cases hh : hasB M ci <;> simp [hh] at h, fun _ => ?_⟩
          refine (Without_ok (withB M ci) hwl ci w23).mono ?_
          rintro _ w24 ⟨rfl, hE24⟩
          rw [k2]
          simp only [↓VD, VP, VT, isAggD, reduceCtorEq, Int.reduceEq, Int.reduceNe, Int.reduceLT, Int.reduceLE, implies_true, Nat.reduceEqDiff, reduceIte, ite_true, ite_false, eq_self, Nat.reduceLT, Nat.reduceLeDiff, Nat.reduceAdd, Nat.reduceMul, Nat.reduceSub, intOf, f3, f25, f26]
          refine (Count_ok (withoutB M ci) (withoutB_lt hM ci) w24).mono ?_
          rintro _ w25 ⟨rfl, hE25⟩
          simp only [↓VD, VP, VT, isAggD, reduceCtorEq, Int.reduceEq, Int.reduceNe, Int.reduceLT, Int.reduceLE, implies_true, Nat.reduceEqDiff, reduceIte, ite_true, ite_false, eq_self, Nat.reduceLT, Nat.reduceLeDiff, Nat.reduceAdd, Nat.reduceMul, Nat.reduceSub, intOf, f3, f25, f26]
          refine (Count_ok (withB M ci) hwl w25).mono ?_
          rintro _ w26 ⟨rfl, hE26⟩
          have r4 : ((cntB (withoutB M ci) : Int) = IntKind.i64.wrap ((cntB (withB M ci) : Int) - 1)) = True := by
            rw [w64 (by omega) (by omega)]; exact eq_true (by omega)
          simp only [↓VD, VP, VT, isAggD, reduceCtorEq, Int.reduceEq, Int.reduceNe, Int.reduceLT, Int.reduceLE, implies_true, Nat.reduceEqDiff, reduceIte, ite_true, ite_false, eq_self, Nat.reduceLT, Nat.reduceLeDiff, Nat.reduceAdd, Nat.reduceMul, Nat.reduceSub, intOf, f3, f25, f26, r4]
          refine ⟨⟨hE18.trans' (hE19.trans' (hE20.trans' (hE21.trans' (hE22.trans' (hE23.trans' (hE24.trans' (hE25.trans' hE26))))))), k + 1, withB M ci, by omega, hwl, rfl, by rw [w64 (by omega) (by omega)]; rfl⟩, ?_⟩
          rw [w64 (by omega) (by omega)]; omega
        · refine loopT (fun s' w' => Ext w w' ∧ ∃ j : Nat, j ≤ 16 ∧ s' 25 = .int .u16 M ∧ s' 30 = .int .i64 (rankB M j) ∧ s' 31 = .int .i64 j) (fun s' _ => 16 - (intOf (s' 31)).toNat) ?_ ?_
          · simp only [↓VD, VP, VT, isAggD, reduceCtorEq, Int.reduceEq, Int.reduceNe, Int.reduceLT, Int.reduceLE, implies_true, Nat.reduceEqDiff, reduceIte, ite_true, ite_false, eq_self, Nat.reduceLT, Nat.reduceLeDiff, Nat.reduceAdd, Nat.reduceMul, Nat.reduceSub, intOf, f25]
            exact ⟨hE18, 0, by omega, by rw [show rankB M ((0 : Nat) : Int) = 0 from by rw [rankB, List.length_eq_zero_iff, List.filter_eq_nil_iff]; intro t _; simp]; rfl, rfl⟩
          · rintro s3 w19 ⟨hE19, j, hj, e25, e30, e31⟩
            simp only [↓VD, VP, VT, isAggD, reduceCtorEq, Int.reduceEq, Int.reduceNe, Int.reduceLT, Int.reduceLE, implies_true, Nat.reduceEqDiff, reduceIte, ite_true, ite_false, eq_self, Nat.reduceLT, Nat.reduceLeDiff, Nat.reduceAdd, Nat.reduceMul, Nat.reduceSub, intOf, e25, e30, e31]
            have hcj : rankB M j ≤ 16 := Nat.le_trans (List.length_filter_le _ _) (cnt_le M)
            have hsuc := rank_succ M j
            refine ⟨fun hl3 => ?_, fun hg3 => ?_⟩
            · refine (Rank_ok M hM j w19).mono ?_
              rintro _ w20 ⟨rfl, hE20⟩
              simp only [↓VD, VP, VT, isAggD, reduceCtorEq, Int.reduceEq, Int.reduceNe, Int.reduceLT, Int.reduceLE, implies_true, Nat.reduceEqDiff, reduceIte, ite_true, ite_false, eq_self, Nat.reduceLT, Nat.reduceLeDiff, Nat.reduceAdd, Nat.reduceMul, Nat.reduceSub, intOf, e25, e30, e31]
              refine (Has_ok M hM j w20).mono ?_
              rintro _ w21 ⟨rfl, hE21⟩
              simp only [↓VD, VP, VT, isAggD, reduceCtorEq, Int.reduceEq, Int.reduceNe, Int.reduceLT, Int.reduceLE, implies_true, Nat.reduceEqDiff, reduceIte, ite_true, ite_false, eq_self, Nat.reduceLT, Nat.reduceLeDiff, Nat.reduceAdd, Nat.reduceMul, Nat.reduceSub, intOf, e25, e30, e31]
              have hE21' := hE19.trans' (hE20.trans' hE21)
              refine bsplit_i (fun hi => ?_) (fun hi => ?_)
              · simp only [↓VD, VP, VT, isAggD, reduceCtorEq, Int.reduceEq, Int.reduceNe, Int.reduceLT, Int.reduceLE, implies_true, Nat.reduceEqDiff, reduceIte, ite_true, ite_false, eq_self, Nat.reduceLT, Nat.reduceLeDiff, Nat.reduceAdd, Nat.reduceMul, Nat.reduceSub, intOf, e25, e30, e31]
                rw [hi, if_pos rfl] at hsuc
                refine ⟨⟨hE21', j + 1, by omega, ?_, by rw [w64 (by omega) (by omega)]; rfl⟩, ?_⟩
                · rw [w64 (by omega) (by omega), show ((j + 1 : Nat) : Int) = (j : Int) + 1 from rfl]; omega
                · rw [w64 (by omega) (by omega)]; omega
              · simp only [↓VD, VP, VT, isAggD, reduceCtorEq, Int.reduceEq, Int.reduceNe, Int.reduceLT, Int.reduceLE, implies_true, Nat.reduceEqDiff, reduceIte, ite_true, ite_false, eq_self, Nat.reduceLT, Nat.reduceLeDiff, Nat.reduceAdd, Nat.reduceMul, Nat.reduceSub, intOf, e25, e30, e31]
                rw [hi, if_neg (by decide)] at hsuc
                refine ⟨⟨hE21', j + 1, by omega, ?_, by rw [w64 (by omega) (by omega)]; rfl⟩, ?_⟩
                · rw [show ((j + 1 : Nat) : Int) = (j : Int) + 1 from rfl]; omega
                · rw [w64 (by omega) (by omega)]; omega
            · have ej : j = 16 := by omega
              subst ej
              rw [rank_big (by omega)] at e30
              refine (Count_ok M hM w19).mono ?_
              rintro _ w20 ⟨rfl, hE20⟩
              simp only [↓VD, VP, VT, isAggD, reduceCtorEq, Int.reduceEq, Int.reduceNe, Int.reduceLT, Int.reduceLE, implies_true, Nat.reduceEqDiff, reduceIte, ite_true, ite_false, eq_self, Nat.reduceLT, Nat.reduceLeDiff, Nat.reduceAdd, Nat.reduceMul, Nat.reduceSub, intOf, e25, e30, e31]
              exact hE19.trans' hE20
  · rintro s1 w12 ⟨hE12, k, hk, g3, g9, g10, g11, g12, g14, g16⟩
    have hX12 := hX11.ext hE12
    have hY12 := hY11.ext hE12
    simp only [↓VD, VP, VT, isAggD, reduceCtorEq, Int.reduceEq, Int.reduceNe, Int.reduceLT, Int.reduceLE, implies_true, Nat.reduceEqDiff, reduceIte, ite_true, ite_false, eq_self, Nat.reduceLT, Nat.reduceLeDiff, Nat.reduceAdd, Nat.reduceMul, Nat.reduceSub, intOf, g3, g9, g10, g11, g12, g14, g16]
    refine ⟨fun hlt => ?_, fun hge => hE12⟩
    refine ldD hX12 hx ?_
    simp only [↓VD, VP, VT, isAggD, reduceCtorEq, Int.reduceEq, Int.reduceNe, Int.reduceLT, Int.reduceLE, implies_true, Nat.reduceEqDiff, reduceIte, ite_true, ite_false, eq_self, Nat.reduceLT, Nat.reduceLeDiff, Nat.reduceAdd, Nat.reduceMul, Nat.reduceSub, intOf, g3, g9, g10, g11, g12, g14, g16]
    refine (At_ok n x hx k w12).mono ?_
    rintro _ w13 ⟨rfl, hE13⟩
    rw [at_in hn fx (by omega)]
    simp only [↓VD, VP, VT, isAggD, reduceCtorEq, Int.reduceEq, Int.reduceNe, Int.reduceLT, Int.reduceLE, implies_true, Nat.reduceEqDiff, reduceIte, ite_true, ite_false, eq_self, Nat.reduceLT, Nat.reduceLeDiff, Nat.reduceAdd, Nat.reduceMul, Nat.reduceSub, intOf, g3, g9, g10, g11, g12, g14, g16]
    refine ldD (hY12.ext hE13) hy ?_
    simp only [↓VD, VP, VT, isAggD, reduceCtorEq, Int.reduceEq, Int.reduceNe, Int.reduceLT, Int.reduceLE, implies_true, Nat.reduceEqDiff, reduceIte, ite_true, ite_false, eq_self, Nat.reduceLT, Nat.reduceLeDiff, Nat.reduceAdd, Nat.reduceMul, Nat.reduceSub, intOf, g3, g9, g10, g11, g12, g14, g16]
    refine (At_ok n y hy k w13).mono ?_
    rintro _ w14 ⟨rfl, hE14⟩
    rw [at_in hn fy (by omega)]
    have d1 := dig_le x k
    have d2 := hcb k (by omega)
    have r1 : ((digP x k : Int) = (digP y k : Int)) = True := eq_true (by omega)
    have r2 : ((digP x k : Int) < 0) = False := eq_false (by omega)
    have r3 : ((15 : Int) < (digP x k : Int)) = False := eq_false (by omega)
    simp only [↓VD, VP, VT, isAggD, reduceCtorEq, Int.reduceEq, Int.reduceNe, Int.reduceLT, Int.reduceLE, implies_true, Nat.reduceEqDiff, reduceIte, ite_true, ite_false, eq_self, Nat.reduceLT, Nat.reduceLeDiff, Nat.reduceAdd, Nat.reduceMul, Nat.reduceSub, intOf, g3, g9, g10, g11, g12, g14, g16, r1, r2, r3]
    refine ⟨⟨hE12.trans' (hE13.trans' hE14), k + 1, by omega, by rw [w64 (by omega) (by omega)]; rfl⟩, ?_⟩
    rw [w64 (by omega) (by omega)]; omega

end Go.Proofs.Ytheojegfgcbacaa
