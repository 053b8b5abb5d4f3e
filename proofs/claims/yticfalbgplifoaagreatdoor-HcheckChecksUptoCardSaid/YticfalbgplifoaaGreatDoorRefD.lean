/-
  The walks of the reference's lists and digests (packages notaryref01, notaryref03). Conditions: as stated in each theorem.
-/
import Derived.Test.YticfalbgplifoaaGreatDoorRefC
import Derived.Test.YticfalbgplifoaaGreatDoorDigB
namespace Go.Proofs.YticfalbgplifoaaGreatDoor
set_option maxRecDepth 100000
open Go Go.RowKit
set_option linter.unusedVariables false
set_option linter.unusedSimpArgs false

/-- An append of bytes to a slice of the call's own, as the walks meet it. -/
theorem apOwn {w : World} {base : Nat} {x y : Value} {xs ys : List UInt8} {K : Value → World → Prop} (hO : Own w base 5 1 x xs.length (vbs xs)) (hb : base ≤ w.heap.size) (hy : SlB w y ys) (hsz : xs.length + ys.length ≤ 140737488355328)
    (hK : ∀ a c w', Own w' base 5 1 (.slice a (xs ++ ys).length c) (xs ++ ys).length (vbs (xs ++ ys)) → w.grownBy w' x.ownBlock → Below base w w' → K (.slice a (xs ++ ys).length c) w') : vcAppend Tryz.prog 22 x y w K := by
  refine apS (n := xs.length) (m := ys.length) Tryz.underlying22 z5 c5 rfl (by decide) hO hb hy (by rw [vbs_len, Nat.mul_one]) (vbs_one _) (by omega) (by rw [by5]; omega) (fun v' w' hO' hg => ?_)
  have hB := below_of_grown hO hb hg
  have hO2 : Own w' base 5 1 v' (xs ++ ys).length (vbs (xs ++ ys)) := by
    rw [List.length_append]
    simpa [vbs] using hO'
  obtain ⟨a, c, rfl⟩ := own_slice hO2
  exact hK a c w' hO2 hg hB
theorem Own.room {w : World} {base e cap b : Nat} {l : List Value} (hB : Blk w b e l) (hb : base ≤ b) (hl : l.length = cap) (hn : cap ≤ 9223372036854775807) : Own w base e 1 (.slice (some ⟨b, 0, none⟩) 0 cap) 0 [] :=
  ⟨rfl, .inr ⟨b, cap, l.toArray, rfl, hb, hB.out, Nat.zero_le _, by rw [maxLen_eq]; exact hn, by simpa using hl, by simp⟩⟩

theorem Join_ok (xs ys : List UInt8) (u v : Value) (w : World) (hu : SlB w u xs) (hv : SlB w v ys) (hsz : xs.length + ys.length ≤ 140737488355328) :
    CallK Tryz.prog 69 [u, v].toArray w fun v' w' => Own w' w.heap.size 5 1 v' (xs ++ ys).length (vbs (xs ++ ys)) ∧ Ext w w' := by
  obtain ⟨au, cu, rfl⟩ := slv_of hu
  obtain ⟨av, cv, rfl⟩ := slv_of hv
  refine enterT Tryz.func69 rfl Tryz.ntmps69 Tryz.results69 rfl (by decide) ?_
  simp only [↓VD, VP, VT, isAggD, reduceCtorEq, Int.reduceEq, Int.reduceNe, Int.reduceLT, Int.reduceLE, implies_true, Nat.reduceEqDiff, reduceIte, ite_true, ite_false, eq_self, Nat.reduceLT, Nat.reduceLeDiff, Nat.reduceAdd, Nat.reduceMul, Nat.reduceSub, intOf, (show IntKind.i64.wrap ((xs.length : Int) + (ys.length : Int)) = ((xs.length + ys.length : Nat) : Int) from by rw [w64 (by omega) (by omega)] <;> omega)]
  refine mkS (l := 0) (c := xs.length + ys.length) Tryz.underlying22 z5 rfl c5 (Nat.zero_le _) (by rw [by5]; omega) (by omega) (fun w1 hN1 => ?_)
  have s1 := hN1.size
  simp only [↓VD, VP, VT, isAggD, reduceCtorEq, Int.reduceEq, Int.reduceNe, Int.reduceLT, Int.reduceLE, implies_true, Nat.reduceEqDiff, reduceIte, ite_true, ite_false, eq_self, Nat.reduceLT, Nat.reduceLeDiff, Nat.reduceAdd, Nat.reduceMul, Nat.reduceSub, intOf]
  refine apOwn (xs := []) (ys := xs) (Own.room hN1.blk (Nat.le_refl _) (by simp) (by omega)) (by omega) (hu.ext hN1.ext) (by simp; omega) (fun a2 c2 w2 hO2 hg2 hB2 => ?_)
  have s2 := hg2.size
  simp only [↓VD, VP, VT, isAggD, reduceCtorEq, Int.reduceEq, Int.reduceNe, Int.reduceLT, Int.reduceLE, implies_true, Nat.reduceEqDiff, reduceIte, ite_true, ite_false, eq_self, Nat.reduceLT, Nat.reduceLeDiff, Nat.reduceAdd, Nat.reduceMul, Nat.reduceSub, intOf]
  refine apOwn (xs := xs) (ys := ys) hO2 (by omega) (hv.ext (hN1.ext.trans hB2)) hsz (fun a3 c3 w3 hO3 hg3 hB3 => ?_)
  simp only [↓VD, VP, VT, isAggD, reduceCtorEq, Int.reduceEq, Int.reduceNe, Int.reduceLT, Int.reduceLE, implies_true, Nat.reduceEqDiff, reduceIte, ite_true, ite_false, eq_self, Nat.reduceLT, Nat.reduceLeDiff, Nat.reduceAdd, Nat.reduceMul, Nat.reduceSub, intOf]
  exact ⟨hO3, (hN1.ext.trans hB2).trans hB3⟩

theorem add128 (n : Nat) : IntKind.u8.wrap (IntKind.u8.wrap ((n % 128 : Nat) : Int) + 128) = ((UInt8.ofNat (n % 128 + 128)).toNat : Int) := by
  rw [w8 (n := ((n % 128 : Nat) : Int)) (by omega) (by omega), w8 (by omega) (by omega)]
  simp; omega
theorem RUvar_ok (n : Nat) (hn : n < 18446744073709551616) (w : World) :
    CallK Tryz.prog 70 [.int .u64 n].toArray w fun v w' => Own w' w.heap.size 5 1 v (uvarP n).length (vbs (uvarP n)) ∧ Ext w w' := by
  have hlen := uvarP_len10 hn
  refine enterT Tryz.func70 rfl Tryz.ntmps70 Tryz.results70 rfl (by decide) ?_
  simp only [↓VD, VP, VT, isAggD, reduceCtorEq, Int.reduceEq, Int.reduceNe, Int.reduceLT, Int.reduceLE, implies_true, Nat.reduceEqDiff, reduceIte, ite_true, ite_false, eq_self, Nat.reduceLT, Nat.reduceLeDiff, Nat.reduceAdd, Nat.reduceMul, Nat.reduceSub, intOf]
  refine loopT (fun s' w' => Ext w w' ∧ w.heap.size ≤ w'.heap.size ∧ ∃ m pre a c, s' 0 = .int .u64 (m : Nat) ∧ m ≤ n ∧ uvarP n = pre ++ uvarP m ∧ s' 3 = .slice a pre.length c ∧ Own w' w.heap.size 5 1 (.slice a pre.length c) pre.length (vbs pre)) (fun s' _ => (intOf (s' 0)).toNat) ?_ ?_
  · simp only [↓VD, VP, VT, isAggD, reduceCtorEq, Int.reduceEq, Int.reduceNe, Int.reduceLT, Int.reduceLE, implies_true, Nat.reduceEqDiff, reduceIte, ite_true, ite_false, eq_self, Nat.reduceLT, Nat.reduceLeDiff, Nat.reduceAdd, Nat.reduceMul, Nat.reduceSub, intOf]
    exact ⟨Ext.rfl' w, Nat.le_refl _, n, [], none, 0, rfl, Nat.le_refl _, rfl, rfl, Own.nil _ _ _ _⟩
  · rintro s1 w1 ⟨hE, hs1, m, pre, a, c, h0, hmn, hp, h3, hO⟩
    have hpl : pre.length + (uvarP m).length ≤ 10 := by rw [← List.length_append, ← hp]; exact hlen
    have hul : 1 ≤ (uvarP m).length := by
      by_cases h : m < 128
      · rw [uvarP_lo h]; simp
      · rw [uvarP_hi h]; simp
    simp only [↓VD, VP, VT, isAggD, reduceCtorEq, Int.reduceEq, Int.reduceNe, Int.reduceLT, Int.reduceLE, implies_true, Nat.reduceEqDiff, reduceIte, ite_true, ite_false, eq_self, Nat.reduceLT, Nat.reduceLeDiff, Nat.reduceAdd, Nat.reduceMul, Nat.reduceSub, intOf, h0, h3]
    refine ⟨fun hge => ?_, fun hlt => ?_⟩
    · have h2 : ¬ m < 128 := by omega
      simp only [↓VD, VP, VT, isAggD, reduceCtorEq, Int.reduceEq, Int.reduceNe, Int.reduceLT, Int.reduceLE, implies_true, Nat.reduceEqDiff, reduceIte, ite_true, ite_false, eq_self, Nat.reduceLT, Nat.reduceLeDiff, Nat.reduceAdd, Nat.reduceMul, Nat.reduceSub, intOf, h0, h3, show (m : Int).tmod 128 = ((m % 128 : Nat) : Int) from tmodN m 128, add128]
      refine ⟨rfl, rfl, fun w2 hN => ?_⟩
      have s2 := hN.size
      refine apOwn (xs := pre) (ys := [UInt8.ofNat (m % 128 + 128)]) (hO.ext hN.ext) (by omega) (SlC.of_blk (n := 1) hN.blk (by decide)) (by simp; omega) (fun a3 c3 w3 hO3 hg3 hB3 => ?_)
      have s3 := hg3.size
      have ed : IntKind.u64.wrap ((m : Int).tdiv 128) = ((m / 128 : Nat) : Int) := by rw [Int.tdiv_eq_ediv_of_nonneg (by omega), wu64 (by omega) (by omega)]; omega
      simp only [↓VD, VP, VT, isAggD, reduceCtorEq, Int.reduceEq, Int.reduceNe, Int.reduceLT, Int.reduceLE, implies_true, Nat.reduceEqDiff, reduceIte, ite_true, ite_false, eq_self, Nat.reduceLT, Nat.reduceLeDiff, Nat.reduceAdd, Nat.reduceMul, Nat.reduceSub, intOf, h0, h3, ed]
      refine ⟨⟨(hE.trans' hN.ext).trans hB3, by omega, m / 128, _, _, _, rfl, by omega, ?_, rfl, hO3⟩, by omega⟩
      rw [hp, uvarP_hi h2]; simp
    · have h2 : m < 128 := by omega
      simp only [↓VD, VP, VT, isAggD, reduceCtorEq, Int.reduceEq, Int.reduceNe, Int.reduceLT, Int.reduceLE, implies_true, Nat.reduceEqDiff, reduceIte, ite_true, ite_false, eq_self, Nat.reduceLT, Nat.reduceLeDiff, Nat.reduceAdd, Nat.reduceMul, Nat.reduceSub, intOf, h0, h3, wr8]
      refine ⟨rfl, rfl, fun w2 hN => ?_⟩
      have s2 := hN.size
      refine apOwn (xs := pre) (ys := [UInt8.ofNat m]) (hO.ext hN.ext) (by omega) (SlC.of_blk (n := 1) hN.blk (by decide)) (by simp; omega) (fun a3 c3 w3 hO3 hg3 hB3 => ?_)
      simp only [↓VD, VP, VT, isAggD, reduceCtorEq, Int.reduceEq, Int.reduceNe, Int.reduceLT, Int.reduceLE, implies_true, Nat.reduceEqDiff, reduceIte, ite_true, ite_false, eq_self, Nat.reduceLT, Nat.reduceLeDiff, Nat.reduceAdd, Nat.reduceMul, Nat.reduceSub, intOf, h0, h3]
      rw [hp, uvarP_lo h2]
      exact ⟨hO3, (hE.trans' hN.ext).trans hB3⟩

theorem RBlob_ok (xs : List UInt8) (v : Value) (w : World) (hv : SlB w v xs) (hsz : xs.length + 10 ≤ 140737488355328) :
    CallK Tryz.prog 71 [v].toArray w fun v' w' => SlB w' v' (blobP xs) ∧ Ext w w' := by
  obtain ⟨a, c, rfl⟩ := slv_of hv
  have hul := uvarP_len10 (n := xs.length) (by omega)
  refine enterT Tryz.func71 rfl Tryz.ntmps71 Tryz.results71 rfl (by decide) ?_
  simp only [↓VD, VP, VT, isAggD, reduceCtorEq, Int.reduceEq, Int.reduceNe, Int.reduceLT, Int.reduceLE, implies_true, Nat.reduceEqDiff, reduceIte, ite_true, ite_false, eq_self, Nat.reduceLT, Nat.reduceLeDiff, Nat.reduceAdd, Nat.reduceMul, Nat.reduceSub, intOf, (show IntKind.u64.wrap ((xs.length : Int)) = ((xs.length : Nat) : Int) from by rw [wu64 (by omega) (by omega)] <;> omega)]
  refine (RUvar_ok xs.length (by omega) w).mono ?_
  rintro u w1 ⟨hO1, hE1⟩
  simp only [↓VD, VP, VT, isAggD, reduceCtorEq, Int.reduceEq, Int.reduceNe, Int.reduceLT, Int.reduceLE, implies_true, Nat.reduceEqDiff, reduceIte, ite_true, ite_false, eq_self, Nat.reduceLT, Nat.reduceLeDiff, Nat.reduceAdd, Nat.reduceMul, Nat.reduceSub, intOf]
  refine (Join_ok (uvarP xs.length) xs u _ w1 (SlC.of_own hO1) (hv.ext hE1) (by omega)).mono ?_
  rintro v' w2 ⟨hO2, hE2⟩
  simp only [↓VD, VP, VT, isAggD, reduceCtorEq, Int.reduceEq, Int.reduceNe, Int.reduceLT, Int.reduceLE, implies_true, Nat.reduceEqDiff, reduceIte, ite_true, ite_false, eq_self, Nat.reduceLT, Nat.reduceLeDiff, Nat.reduceAdd, Nat.reduceMul, Nat.reduceSub, intOf]
  exact ⟨SlC.of_own hO2, hE1.trans' hE2⟩

theorem Twin_ok (xs : List UInt8) (v : Value) (w : World) (hv : SlB w v xs) (hsz : xs.length ≤ 140737488355328) :
    CallK Tryz.prog 8 [v].toArray w fun v' w' => ∃ g, w.heap.size ≤ g ∧ v' = .slice (some ⟨g, 0, none⟩) xs.length xs.length ∧ Blk w' g 5 (vbs xs) ∧ Ext w w' := by
  obtain ⟨a, c, rfl⟩ := slv_of hv
  refine enterT Tryz.func8 rfl Tryz.ntmps8 Tryz.results8 rfl (by decide) ?_
  simp only [↓VD, VP, VT, isAggD, reduceCtorEq, Int.reduceEq, Int.reduceNe, Int.reduceLT, Int.reduceLE, implies_true, Nat.reduceEqDiff, reduceIte, ite_true, ite_false, eq_self, Nat.reduceLT, Nat.reduceLeDiff, Nat.reduceAdd, Nat.reduceMul, Nat.reduceSub, intOf]
  refine mkS (l := xs.length) (c := xs.length) Tryz.underlying22 z5 rfl c5 (Nat.le_refl _) (by rw [by5]; omega) (by omega) (fun w1 hN1 => ?_)
  simp only [↓VD, VP, VT, isAggD, reduceCtorEq, Int.reduceEq, Int.reduceNe, Int.reduceLT, Int.reduceLE, implies_true, Nat.reduceEqDiff, reduceIte, ite_true, ite_false, eq_self, Nat.reduceLT, Nat.reduceLeDiff, Nat.reduceAdd, Nat.reduceMul, Nat.reduceSub, intOf]
  refine cpS (sz := 1) Tryz.underlying22 c5 (by decide) hN1.blk (hv.ext hN1.ext) (by rw [vbs_len]; omega) (vbs_one _) (by simp) (fun w2 hP => ?_)
  rw [Nat.min_self, Nat.mul_one, List.take_of_length_le (by rw [vbs_len]; omega), splice_all (by simp [vbs_len])] at hP
  simp only [↓VD, VP, VT, isAggD, reduceCtorEq, Int.reduceEq, Int.reduceNe, Int.reduceLT, Int.reduceLE, implies_true, Nat.reduceEqDiff, reduceIte, ite_true, ite_false, eq_self, Nat.reduceLT, Nat.reduceLeDiff, Nat.reduceAdd, Nat.reduceMul, Nat.reduceSub, intOf]
  exact ⟨w.heap.size, Nat.le_refl _, rfl, hP.blk, hN1.ext.trans (hP.below (Nat.le_refl _))⟩

theorem Same_ok (xs ys : List UInt8) (u v : Value) (w : World) (hu : SlB w u xs) (hv : SlB w v ys) :
    CallK Tryz.prog 11 [u, v].toArray w fun r w' => r = .bool (decide (xs = ys)) ∧ Ext w w' := by
  obtain ⟨au, cu, rfl, hnu, hmu, hcu⟩ := hu
  obtain ⟨av, cv, rfl, hnv, hmv, hcv⟩ := hv
  refine enterT Tryz.func11 rfl Tryz.ntmps11 Tryz.results11 rfl (by decide) ?_
  simp only [↓VD, VP, VT, isAggD, reduceCtorEq, Int.reduceEq, Int.reduceNe, Int.reduceLT, Int.reduceLE, implies_true, Nat.reduceEqDiff, reduceIte, ite_true, ite_false, eq_self, Nat.reduceLT, Nat.reduceLeDiff, Nat.reduceAdd, Nat.reduceMul, Nat.reduceSub, intOf]
  refine ⟨fun hne => ?_, fun heq => ?_⟩
  · refine ⟨?_, Ext.rfl' w⟩
    rw [decide_eq_false]
    rintro rfl
    exact hne rfl
  · have hl : xs.length = ys.length := by omega
    refine loopT (fun s' w' => Ext w w' ∧ ∃ k : Nat, k ≤ xs.length ∧ s' 0 = .slice au xs.length cu ∧ s' 1 = .slice av ys.length cv ∧ s' 12 = .int .i64 xs.length ∧ s' 13 = .int .i64 k ∧ xs.take k = ys.take k) (fun s' _ => xs.length - (intOf (s' 13)).toNat) ?_ ?_
    · simp only [↓VD, VP, VT, isAggD, reduceCtorEq, Int.reduceEq, Int.reduceNe, Int.reduceLT, Int.reduceLE, implies_true, Nat.reduceEqDiff, reduceIte, ite_true, ite_false, eq_self, Nat.reduceLT, Nat.reduceLeDiff, Nat.reduceAdd, Nat.reduceMul, Nat.reduceSub, intOf]
      exact ⟨Ext.rfl' w, 0, by omega, rfl, by simp⟩
    · rintro s1 w1 ⟨hE, k, hk, h0, h1, h12, h13, ht⟩
      simp only [↓VD, VP, VT, isAggD, reduceCtorEq, Int.reduceEq, Int.reduceNe, Int.reduceLT, Int.reduceLE, implies_true, Nat.reduceEqDiff, reduceIte, ite_true, ite_false, eq_self, Nat.reduceLT, Nat.reduceLeDiff, Nat.reduceAdd, Nat.reduceMul, Nat.reduceSub, intOf, h0, h1, h12, h13]
      refine ⟨fun hlt => ?_, fun hge => ?_⟩
      · have hk1 : k < xs.length := by omega
        refine drawT mixed (by decide +kernel) ?_
        have hcu' : ∃ b o, au = some ⟨b, o, none⟩ ∧ ∀ j u, (vbs xs)[j]? = some u → w1.cell? ⟨b, o + j, none⟩ = some u := by
          rcases hcu with h | ⟨b, o, rfl, h⟩
          · have : xs = [] := by simpa [vbs] using h
            rw [this] at hk1; simp at hk1
          · exact ⟨b, o, rfl, fun j u hj => by rw [hE.cell (block_lt_of_cell (h j u hj))]; exact h j u hj⟩
        have hcv' : ∃ b o, av = some ⟨b, o, none⟩ ∧ ∀ j u, (vbs ys)[j]? = some u → w1.cell? ⟨b, o + j, none⟩ = some u := by
          rcases hcv with h | ⟨b, o, rfl, h⟩
          · have : ys = [] := by simpa [vbs] using h
            rw [this] at hl; rw [hl] at hk1; simp at hk1
          · exact ⟨b, o, rfl, fun j u hj => by rw [hE.cell (block_lt_of_cell (h j u hj))]; exact h j u hj⟩
        obtain ⟨bu, ou, rfl, hcu'⟩ := hcu'
        obtain ⟨bv, ov, rfl, hcv'⟩ := hcv'
        simp only [↓VD, VP, VT, isAggD, reduceCtorEq, Int.reduceEq, Int.reduceNe, Int.reduceLT, Int.reduceLE, implies_true, Nat.reduceEqDiff, reduceIte, ite_true, ite_false, eq_self, Nat.reduceLT, Nat.reduceLeDiff, Nat.reduceAdd, Nat.reduceMul, Nat.reduceSub, intOf, h0, h1, h12, h13]
        refine ⟨by omega, by omega, ldS Tryz.underlying5 hcu' hk1 ?_⟩
        simp only [↓VD, VP, VT, isAggD, reduceCtorEq, Int.reduceEq, Int.reduceNe, Int.reduceLT, Int.reduceLE, implies_true, Nat.reduceEqDiff, reduceIte, ite_true, ite_false, eq_self, Nat.reduceLT, Nat.reduceLeDiff, Nat.reduceAdd, Nat.reduceMul, Nat.reduceSub, intOf, h0, h1, h12, h13]
        refine ⟨by omega, by omega, ldS Tryz.underlying5 hcv' (by omega) ?_⟩
        simp only [↓VD, VP, VT, isAggD, reduceCtorEq, Int.reduceEq, Int.reduceNe, Int.reduceLT, Int.reduceLE, implies_true, Nat.reduceEqDiff, reduceIte, ite_true, ite_false, eq_self, Nat.reduceLT, Nat.reduceLeDiff, Nat.reduceAdd, Nat.reduceMul, Nat.reduceSub, intOf, h0, h1, h12, h13]
        intro w2 hE2
        have hx : xs.take (k + 1) = xs.take k ++ [xs.getD k 0] := by rw [List.take_succ_eq_append_getElem hk1, List.getD_eq_getElem?_getD, List.getElem?_eq_getElem hk1]; rfl
        have hy : ys.take (k + 1) = ys.take k ++ [ys.getD k 0] := by rw [List.take_succ_eq_append_getElem (by omega), List.getD_eq_getElem?_getD, List.getElem?_eq_getElem (by omega)]; rfl
        refine ⟨fun hd => ?_, fun hd => ?_⟩
        · refine ⟨?_, hE.trans' hE2⟩
          rw [decide_eq_false]
          rintro rfl
          exact hd rfl
        · have hd' : xs.getD k 0 = ys.getD k 0 := (toNat_inj _ _).1 (by simpa using hd)
          refine ⟨⟨hE.trans' hE2, k + 1, by omega, ?_, by rw [hx, hy, ht, hd']⟩, ?_⟩
          · rw [w64 (by omega) (by omega)]; rfl
          · rw [w64 (by omega) (by omega)]; omega
      · refine ⟨?_, hE⟩
        rw [List.take_of_length_le (by omega), List.take_of_length_le (by omega)] at ht
        rw [decide_eq_true ht]

theorem Cut_ok (n : Nat) (hn : n ≤ 32) (xs : List UInt8) (v : Value) (w : World) (hv : SlB w v xs) (hsz : xs.length + 200 ≤ 140737488355328) :
    CallK Tryz.prog 42 [.int .i64 n, v].toArray w fun v w' => v = .agg (vbs (sumP n xs)).toArray ∧ Ext w w' := by
  refine enterT Tryz.func42 rfl Tryz.ntmps42 Tryz.results42 rfl (by decide) ?_
  simp only [↓VD, VP, VT, isAggD, reduceCtorEq, Int.reduceEq, Int.reduceNe, Int.reduceLT, Int.reduceLE, implies_true, Nat.reduceEqDiff, reduceIte, ite_true, ite_false, eq_self, Nat.reduceLT, Nat.reduceLeDiff, Nat.reduceAdd, Nat.reduceMul, Nat.reduceSub, intOf]
  intro w1 hN1
  have s1 := hN1.size
  rw [vbs_rep] at hN1
  refine (Rsum_ok xs v w1 (hv.ext hN1.ext) hsz).mono ?_
  rintro _ w2 ⟨rfl, hE2⟩
  have s2 := hE2.size
  have hsl := shaP_len xs
  obtain ⟨d, hd⟩ : ∃ d, shaP xs = d := ⟨_, rfl⟩
  rw [hd] at hsl
  rw [hd]
  simp only [↓VD, VP, VT, isAggD, reduceCtorEq, Int.reduceEq, Int.reduceNe, Int.reduceLT, Int.reduceLE, implies_true, Nat.reduceEqDiff, reduceIte, ite_true, ite_false, eq_self, Nat.reduceLT, Nat.reduceLeDiff, Nat.reduceAdd, Nat.reduceMul, Nat.reduceSub, intOf]
  intro w3 hN3
  have s3 := hN3.size
  refine stAll hN3.blk rfl (by rw [c27]; omega) (by rw [c27, vbs_len, hsl]) (by rw [c27]; rfl) (vbs_one _) (fun w4 hP4 => ?_)
  have hE4 : Ext w w4 := ((hN1.ext.trans' hE2).trans' hN3.ext).trans (hP4.below (by omega))
  have hB1 := hP4.keep ((hN1.blk.ext hE2).ext hN3.ext) (by omega)
  simp only [↓VD, VP, VT, isAggD, reduceCtorEq, Int.reduceEq, Int.reduceNe, Int.reduceLT, Int.reduceLE, implies_true, Nat.reduceEqDiff, reduceIte, ite_true, ite_false, eq_self, Nat.reduceLT, Nat.reduceLeDiff, Nat.reduceAdd, Nat.reduceMul, Nat.reduceSub, intOf]
  refine loopT (fun s' w' => Ext w w' ∧ ∃ i : Nat, n ≤ i ∧ i ≤ 32 ∧ s' 4 = .pointer (some ⟨w.heap.size, 0, none⟩) ∧ s' 5 = .pointer (some ⟨w2.heap.size, 0, none⟩) ∧ s' 6 = .int .i64 i ∧
      Blk w' w.heap.size 28 (vbs (List.replicate 32 0)) ∧ Blk w' w2.heap.size 27 (vbs ((d.take n ++ List.replicate (i - n) 0) ++ d.drop i))) (fun s' _ => 32 - (intOf (s' 6)).toNat) ?_ ?_
  · simp only [↓VD, VP, VT, isAggD, reduceCtorEq, Int.reduceEq, Int.reduceNe, Int.reduceLT, Int.reduceLE, implies_true, Nat.reduceEqDiff, reduceIte, ite_true, ite_false, eq_self, Nat.reduceLT, Nat.reduceLeDiff, Nat.reduceAdd, Nat.reduceMul, Nat.reduceSub, intOf]
    refine ⟨hE4, n, Nat.le_refl _, hn, rfl, hB1, ?_⟩
    rw [Nat.sub_self, List.replicate_zero, List.append_nil, List.take_append_drop]
    exact hP4.blk
  · rintro s5 w5 ⟨hE, i, hni, hi, h4, h5, h6, hB1, hB2⟩
    have hll : ((d.take n ++ List.replicate (i - n) 0) ++ d.drop i).length = 32 := by simp [hsl]; omega
    simp only [↓VD, VP, VT, isAggD, reduceCtorEq, Int.reduceEq, Int.reduceNe, Int.reduceLT, Int.reduceLE, implies_true, Nat.reduceEqDiff, reduceIte, ite_true, ite_false, eq_self, Nat.reduceLT, Nat.reduceLeDiff, Nat.reduceAdd, Nat.reduceMul, Nat.reduceSub, intOf, h4, h5, h6]
    refine ⟨fun hlt => ?_, fun hge => ?_⟩
    · have hi32 : i < 32 := by omega
      refine ⟨by omega, by omega, stV c5 hB2 rfl rfl (by rw [vbs_len]; omega) (fun w6 hP => ?_)⟩
      have hset : ((d.take n ++ List.replicate (i - n) 0) ++ d.drop i).set i 0 = (d.take n ++ List.replicate (i + 1 - n) 0) ++ d.drop (i + 1) := by
        have hpl : (d.take n ++ List.replicate (i - n) (0 : UInt8)).length = i := by simp [hsl]; omega
        rw [List.set_append_right _ _ (by omega), hpl, Nat.sub_self, List.drop_eq_getElem_cons (by omega), List.set_cons_zero, show i + 1 - n = (i - n) + 1 from by omega, List.replicate_succ']
        simp
      have h00 : Value.int .u8 0 = .int .u8 (0 : UInt8).toNat := rfl
      rw [h00, vbs_set, hset] at hP
      simp only [↓VD, VP, VT, isAggD, reduceCtorEq, Int.reduceEq, Int.reduceNe, Int.reduceLT, Int.reduceLE, implies_true, Nat.reduceEqDiff, reduceIte, ite_true, ite_false, eq_self, Nat.reduceLT, Nat.reduceLeDiff, Nat.reduceAdd, Nat.reduceMul, Nat.reduceSub, intOf, h4, h5, h6]
      refine ⟨⟨hE.trans (hP.below (by omega)), i + 1, by omega, by omega, ?_, hP.keep hB1 (by omega), hP.blk⟩, ?_⟩
      · rw [w64 (by omega) (by omega)]; rfl
      · rw [w64 (by omega) (by omega)]; omega
    · have hi32 : i = 32 := by omega
      subst hi32
      have e1 : (d.take n ++ List.replicate (32 - n) 0) ++ d.drop 32 = sumP n xs := by
        rw [List.drop_eq_nil_of_le (by omega), List.append_nil, sumP, hd]; rfl
      rw [e1] at hB2
      have hcl := sumP_len n xs hn
      refine ldA Tryz.underlying27 rfl hB2 (by rw [vbs_len, hcl, c27]) ?_
      simp only [↓VD, VP, VT, isAggD, reduceCtorEq, Int.reduceEq, Int.reduceNe, Int.reduceLT, Int.reduceLE, implies_true, Nat.reduceEqDiff, reduceIte, ite_true, ite_false, eq_self, Nat.reduceLT, Nat.reduceLeDiff, Nat.reduceAdd, Nat.reduceMul, Nat.reduceSub, intOf, h4, h5, h6]
      refine stAll hB1 rfl (by rw [c28]; omega) (by rw [c28, vbs_len, hcl]) (by rw [c28]; rfl) (vbs_one _) (fun w6 hP => ?_)
      simp only [↓VD, VP, VT, isAggD, reduceCtorEq, Int.reduceEq, Int.reduceNe, Int.reduceLT, Int.reduceLE, implies_true, Nat.reduceEqDiff, reduceIte, ite_true, ite_false, eq_self, Nat.reduceLT, Nat.reduceLeDiff, Nat.reduceAdd, Nat.reduceMul, Nat.reduceSub, intOf, h4, h5, h6]
      refine ldA Tryz.underlying28 rfl hP.blk (by rw [vbs_len, hcl, c28]) ?_
      exact ⟨rfl, hE.trans (hP.below (by omega))⟩

theorem RBucketInput_ok (v : Value) (ps : List PR) (w : World) (hv : PairsAt w v ps) (hsz : (bucketP (ps.map PR.dat)).length + 16 ≤ 140737488355328) :
    CallK Tryz.prog 43 [v].toArray w fun v' w' => SlB w' v' (bucketP (ps.map PR.dat)) ∧ Ext w w' := by
  obtain ⟨⟨a, c, rfl, hnc, hcm, hc⟩, hp⟩ := hv
  have hlen : (bucketP (ps.map PR.dat)).length = 1 + ((uvarP ps.length).length + (pairsB (ps.map PR.dat)).length) := by simp [bucketP]; omega
  have hul := uvarP_len10 (n := ps.length) (by omega)
  refine enterT Tryz.func43 rfl Tryz.ntmps43 Tryz.results43 rfl (by decide) ?_
  simp only [↓VD, VP, VT, isAggD, reduceCtorEq, Int.reduceEq, Int.reduceNe, Int.reduceLT, Int.reduceLE, implies_true, Nat.reduceEqDiff, reduceIte, ite_true, ite_false, eq_self, Nat.reduceLT, Nat.reduceLeDiff, Nat.reduceAdd, Nat.reduceMul, Nat.reduceSub, intOf, (show IntKind.u64.wrap ((ps.length : Int)) = ((ps.length : Nat) : Int) from by rw [wu64 (by omega) (by omega)] <;> omega)]
  refine ⟨rfl, rfl, fun w1 hN1 => ?_⟩
  have s1 := hN1.size
  refine (RUvar_ok ps.length (by omega) w1).mono ?_
  rintro u w2 ⟨hO2, hE2⟩
  have s2 := hE2.size
  simp only [↓VD, VP, VT, isAggD, reduceCtorEq, Int.reduceEq, Int.reduceNe, Int.reduceLT, Int.reduceLE, implies_true, Nat.reduceEqDiff, reduceIte, ite_true, ite_false, eq_self, Nat.reduceLT, Nat.reduceLeDiff, Nat.reduceAdd, Nat.reduceMul, Nat.reduceSub, intOf]
  have h3 : SlB w2 (.slice (some ⟨w.heap.size, 0, none⟩) 1 1) [3] := SlC.of_blk (n := 1) (hN1.blk.ext hE2) (by decide)
  refine (Join_ok [3] (uvarP ps.length) _ u w2 h3 (SlC.of_own hO2) (by simp; omega)).mono ?_
  rintro v3 w3 ⟨hO3, hE3⟩
  have s3 := hE3.size
  obtain ⟨a3, c3, rfl⟩ := own_slice hO3
  have hE3' : Ext w w3 := (hN1.ext.trans' hE2).trans' hE3
  simp only [↓VD, VP, VT, isAggD, reduceCtorEq, Int.reduceEq, Int.reduceNe, Int.reduceLT, Int.reduceLE, implies_true, Nat.reduceEqDiff, reduceIte, ite_true, ite_false, eq_self, Nat.reduceLT, Nat.reduceLeDiff, Nat.reduceAdd, Nat.reduceMul, Nat.reduceSub, intOf]
  refine loopT (fun s' w' => Ext w w' ∧ w3.heap.size ≤ w'.heap.size ∧ ∃ (k : Nat) (pre : List UInt8) (b : Option Addr) (d : Nat), k ≤ ps.length ∧ s' 3 = .slice b pre.length d ∧ s' 12 = .slice a ps.length c ∧ s' 13 = .int .i64 ps.length ∧ s' 14 = .int .i64 k ∧
      pre = 3 :: (uvarP ps.length ++ pairsB ((ps.map PR.dat).take k)) ∧ Own w' w2.heap.size 5 1 (.slice b pre.length d) pre.length (vbs pre)) (fun s' _ => ps.length - (intOf (s' 14)).toNat) ?_ ?_
  · simp only [↓VD, VP, VT, isAggD, reduceCtorEq, Int.reduceEq, Int.reduceNe, Int.reduceLT, Int.reduceLE, implies_true, Nat.reduceEqDiff, reduceIte, ite_true, ite_false, eq_self, Nat.reduceLT, Nat.reduceLeDiff, Nat.reduceAdd, Nat.reduceMul, Nat.reduceSub, intOf]
    exact ⟨hE3', Nat.le_refl _, 0, _, a3, c3, by omega, rfl, rfl, by simp [pairsB], hO3⟩
  · rintro s4 w4 ⟨hE, hs4, k, pre, b3, d3, hk, g3, h12, h13, h14, hpre, hO⟩
    simp only [↓VD, VP, VT, isAggD, reduceCtorEq, Int.reduceEq, Int.reduceNe, Int.reduceLT, Int.reduceLE, implies_true, Nat.reduceEqDiff, reduceIte, ite_true, ite_false, eq_self, Nat.reduceLT, Nat.reduceLeDiff, Nat.reduceAdd, Nat.reduceMul, Nat.reduceSub, intOf, g3, h12, h13, h14]
    refine ⟨fun hlt => ?_, fun hge => ?_⟩
    · have hlt' : k < ps.length := by omega
      obtain ⟨x, hx⟩ : ∃ x, ps[k]? = some x := ⟨_, List.getElem?_eq_getElem hlt'⟩
      have hxm := List.mem_of_getElem? hx
      have hxd : (ps.map PR.dat)[k]? = some x.dat := by simp [hx]
      have hsp := pairsB_split (ps.map PR.dat) (k + 1)
      have htk := pairsB_take hxd
      rw [htk] at hsp
      have hll := congrArg List.length hsp
      simp only [List.length_append, PR.dat] at hll
      have hprel : pre.length = 1 + ((uvarP ps.length).length + (pairsB ((ps.map PR.dat).take k)).length) := by rw [hpre]; simp; omega
      have hb1 : (blobP x.k).length = (uvarP x.k.length).length + x.k.length := by simp [blobP]
      have hb2 : (blobP x.v).length = (uvarP x.v.length).length + x.v.length := by simp [blobP]
      rcases hc with hc | ⟨b, o, rfl, hc⟩
      · exfalso
        have := congrArg List.length hc
        cases ps with
        | nil => simp at hlt'
        | cons p ps => simp [PR.cells] at this
      have hc1 : ∀ j u, (ps.flatMap PR.cells)[j]? = some u → w4.cell? ⟨b, o + j, none⟩ = some u := fun j u hj => by rw [hE.cell (block_lt_of_cell (hc j u hj))]; exact hc j u hj
      simp only [↓VD, VP, VT, isAggD, reduceCtorEq, Int.reduceEq, Int.reduceNe, Int.reduceLT, Int.reduceLE, implies_true, Nat.reduceEqDiff, reduceIte, ite_true, ite_false, eq_self, Nat.reduceLT, Nat.reduceLeDiff, Nat.reduceAdd, Nat.reduceMul, Nat.reduceSub, intOf]
      refine ⟨by omega, by omega, ldE (f := PR.cells) c52 Tryz.underlying52 rfl (fun _ _ => rfl) hc1 hx ?_⟩
      simp only [↓VD, VP, VT, isAggD, reduceCtorEq, Int.reduceEq, Int.reduceNe, Int.reduceLT, Int.reduceLE, implies_true, Nat.reduceEqDiff, reduceIte, ite_true, ite_false, eq_self, Nat.reduceLT, Nat.reduceLeDiff, Nat.reduceAdd, Nat.reduceMul, Nat.reduceSub, intOf]
      intro w5 hN5
      have s5 := hN5.size
      obtain ⟨ka, kc, hkv⟩ := slv_of (hp x hxm).1
      obtain ⟨va, vc', hvv⟩ := slv_of (hp x hxm).2
      refine stAll (vs := x.cells) hN5.blk rfl (by rw [c52]; omega) (by rw [c52]; rfl) (by rw [c52]; rfl) (by simp [PR.cells, hkv, hvv, oneCellV]) (fun w6 hP6 => ?_)
      have s6 := hP6.size
      have hE6 : Ext w w6 := (hE.trans' hN5.ext).trans (hP6.below (by omega))
      have hO6 := (hO.ext hN5.ext).put hN5.blk (by decide) hP6
      simp only [↓VD, VP, VT, isAggD, reduceCtorEq, Int.reduceEq, Int.reduceNe, Int.reduceLT, Int.reduceLE, implies_true, Nat.reduceEqDiff, reduceIte, ite_true, ite_false, eq_self, Nat.reduceLT, Nat.reduceLeDiff, Nat.reduceAdd, Nat.reduceMul, Nat.reduceSub, intOf, g3, h12, h13, h14]
      refine ldAt (pre := []) (post := [x.vv]) Tryz.underlying22 rfl hP6.blk rfl ?_
      simp only [↓VD, VP, VT, isAggD, reduceCtorEq, Int.reduceEq, Int.reduceNe, Int.reduceLT, Int.reduceLE, implies_true, Nat.reduceEqDiff, reduceIte, ite_true, ite_false, eq_self, Nat.reduceLT, Nat.reduceLeDiff, Nat.reduceAdd, Nat.reduceMul, Nat.reduceSub, intOf, g3, h12, h13, h14]
      refine (RBlob_ok x.k x.kv w6 ((hp x hxm).1.ext hE6) (by omega)).mono ?_
      rintro kb w7 ⟨hkb, hE7⟩
      have s7 := hE7.size
      simp only [↓VD, VP, VT, isAggD, reduceCtorEq, Int.reduceEq, Int.reduceNe, Int.reduceLT, Int.reduceLE, implies_true, Nat.reduceEqDiff, reduceIte, ite_true, ite_false, eq_self, Nat.reduceLT, Nat.reduceLeDiff, Nat.reduceAdd, Nat.reduceMul, Nat.reduceSub, intOf, g3, h12, h13, h14]
      refine apOwn (xs := pre) (ys := blobP x.k) (hO6.ext hE7) (by omega) hkb (by omega) (fun a8 c8 w8 hO8 hg8 hB8 => ?_)
      have s8 := hg8.size
      have hB8' := (hO6.ext hE7).blk (hP6.blk.ext hE7) (by decide) hg8
      simp only [↓VD, VP, VT, isAggD, reduceCtorEq, Int.reduceEq, Int.reduceNe, Int.reduceLT, Int.reduceLE, implies_true, Nat.reduceEqDiff, reduceIte, ite_true, ite_false, eq_self, Nat.reduceLT, Nat.reduceLeDiff, Nat.reduceAdd, Nat.reduceMul, Nat.reduceSub, intOf, g3, h12, h13, h14]
      refine ldAt (pre := [x.kv]) (post := []) Tryz.underlying22 rfl hB8' rfl ?_
      simp only [↓VD, VP, VT, isAggD, reduceCtorEq, Int.reduceEq, Int.reduceNe, Int.reduceLT, Int.reduceLE, implies_true, Nat.reduceEqDiff, reduceIte, ite_true, ite_false, eq_self, Nat.reduceLT, Nat.reduceLeDiff, Nat.reduceAdd, Nat.reduceMul, Nat.reduceSub, intOf, g3, h12, h13, h14]
      have hE8 : Ext w w8 := (hE6.trans' hE7).trans (hB8.mono (by omega))
      refine (RBlob_ok x.v x.vv w8 ((hp x hxm).2.ext hE8) (by omega)).mono ?_
      rintro vb' w9 ⟨hvb, hE9⟩
      have s9 := hE9.size
      simp only [↓VD, VP, VT, isAggD, reduceCtorEq, Int.reduceEq, Int.reduceNe, Int.reduceLT, Int.reduceLE, implies_true, Nat.reduceEqDiff, reduceIte, ite_true, ite_false, eq_self, Nat.reduceLT, Nat.reduceLeDiff, Nat.reduceAdd, Nat.reduceMul, Nat.reduceSub, intOf, g3, h12, h13, h14]
      refine apOwn (xs := pre ++ blobP x.k) (ys := blobP x.v) (hO8.ext hE9) (by omega) hvb (by rw [List.length_append]; omega) (fun a10 c10 w10 hO10 hg10 hB10 => ?_)
      have s10 := hg10.size
      simp only [↓VD, VP, VT, isAggD, reduceCtorEq, Int.reduceEq, Int.reduceNe, Int.reduceLT, Int.reduceLE, implies_true, Nat.reduceEqDiff, reduceIte, ite_true, ite_false, eq_self, Nat.reduceLT, Nat.reduceLeDiff, Nat.reduceAdd, Nat.reduceMul, Nat.reduceSub, intOf, g3, h12, h13, h14]
      have hE9' : Ext w w9 := hE8.trans' hE9
      refine ⟨⟨hE9'.trans (hB10.mono (by omega)), by omega, k + 1, _, a10, c10, by omega, rfl, ?_, ?_, hO10⟩, ?_⟩
      · rw [w64 (by omega) (by omega)]; rfl
      · rw [htk, hpre]; simp [PR.dat]
      · rw [w64 (by omega) (by omega)]; omega
    · have hkl : k = ps.length := by omega
      subst hkl
      rw [List.take_of_length_le (by simp)] at hpre
      refine ⟨?_, hE⟩
      have := SlC.of_own hO
      rw [hpre] at this ⊢
      simpa [SlB, bucketP] using this

theorem RBucket_ok (n : Nat) (hn : n ≤ 32) (v : Value) (ps : List PR) (w : World) (hv : PairsAt w v ps) (hsz : (bucketP (ps.map PR.dat)).length + 200 ≤ 140737488355328) :
    CallK Tryz.prog 20 [.int .i64 n, v].toArray w fun v w' => v = .agg (vbs (sumP n (bucketP (ps.map PR.dat)))).toArray ∧ Ext w w' := by
  refine enterT Tryz.func20 rfl Tryz.ntmps20 Tryz.results20 rfl (by decide) ?_
  simp only [↓VD, VP, VT, isAggD, reduceCtorEq, Int.reduceEq, Int.reduceNe, Int.reduceLT, Int.reduceLE, implies_true, Nat.reduceEqDiff, reduceIte, ite_true, ite_false, eq_self, Nat.reduceLT, Nat.reduceLeDiff, Nat.reduceAdd, Nat.reduceMul, Nat.reduceSub, intOf]
  intro w1 hN1
  rw [vbs_rep] at hN1
  refine (RBucketInput_ok v ps w1 (hv.ext hN1.ext) (by omega)).mono ?_
  rintro v' w2 ⟨hv2, hE2⟩
  simp only [↓VD, VP, VT, isAggD, reduceCtorEq, Int.reduceEq, Int.reduceNe, Int.reduceLT, Int.reduceLE, implies_true, Nat.reduceEqDiff, reduceIte, ite_true, ite_false, eq_self, Nat.reduceLT, Nat.reduceLeDiff, Nat.reduceAdd, Nat.reduceMul, Nat.reduceSub, intOf]
  refine (Cut_ok n hn _ v' w2 hv2 hsz).mono ?_
  rintro _ w3 ⟨rfl, hE3⟩
  have hcl := sumP_len n (bucketP (ps.map PR.dat)) hn
  simp only [↓VD, VP, VT, isAggD, reduceCtorEq, Int.reduceEq, Int.reduceNe, Int.reduceLT, Int.reduceLE, implies_true, Nat.reduceEqDiff, reduceIte, ite_true, ite_false, eq_self, Nat.reduceLT, Nat.reduceLeDiff, Nat.reduceAdd, Nat.reduceMul, Nat.reduceSub, intOf]
  refine stAll ((hN1.blk.ext hE2).ext hE3) rfl (by rw [c28]; omega) (by rw [c28, vbs_len, hcl]) (by rw [c28]; rfl) (vbs_one _) (fun w6 hP => ?_)
  simp only [↓VD, VP, VT, isAggD, reduceCtorEq, Int.reduceEq, Int.reduceNe, Int.reduceLT, Int.reduceLE, implies_true, Nat.reduceEqDiff, reduceIte, ite_true, ite_false, eq_self, Nat.reduceLT, Nat.reduceLeDiff, Nat.reduceAdd, Nat.reduceMul, Nat.reduceSub, intOf]
  refine ldA Tryz.underlying28 rfl hP.blk (by rw [vbs_len, hcl, c28]) ?_
  exact ⟨rfl, ((hN1.ext.trans' hE2).trans' hE3).trans (hP.below (Nat.le_refl _))⟩

end Go.Proofs.YticfalbgplifoaaGreatDoor
