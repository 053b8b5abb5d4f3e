/-
  Walks of layer 13's reference on digests (notaryref13: Digits, check, DocAt, DocCommon, DocOrder) and of notaryref03's Width and DocForm. Conditions: as stated in each theorem.
-/
import Derived.Test.YtheojegfgcbacaaNib
namespace Go.Proofs.Ytheojegfgcbacaa
open Go Go.RowKit
set_option linter.unusedVariables false
set_option linter.unusedSimpArgs false

def widthP (n : Int) : Bool := decide (1 ≤ n ∧ n ≤ 32)
def formP (n : Int) (d : List UInt8) : Bool := widthP n && decide (∀ b ∈ d.drop n.toNat, b = 0)

theorem Width_ok (n : Int) (w : World) : CallK Try.prog 33 [.int .i64 n].toArray w fun v w' => v = .bool (widthP n) ∧ Ext w w' := by
  refine enterT Try.func33 rfl Try.ntmps33 Try.results33 rfl (by decide) ?_
  simp only [↓VD, VP, VT, isAggD, reduceCtorEq, Int.reduceEq, Int.reduceNe, Int.reduceLT, Int.reduceLE, implies_true, Nat.reduceEqDiff, reduceIte, ite_true, ite_false, eq_self, Nat.reduceLT, Nat.reduceLeDiff, Nat.reduceAdd, Nat.reduceMul, Nat.reduceSub, intOf]
  have hE := Ext.rfl' w
  refine ⟨fun h => ⟨?_, hE⟩, fun h => ⟨?_, hE⟩⟩
  · simp [widthP, h]
  · simp [widthP, h]

theorem DocForm_ok (n : Int) (d : List UInt8) (hd : d.length = 32) (w : World) :
    CallK Try.prog 39 [.int .i64 n, .agg (vbs d).toArray].toArray w fun v w' => v = .bool (formP n d) ∧ Ext w w' := by
  refine enterT Try.func39 rfl Try.ntmps39 Try.results39 rfl (by decide) ?_
  simp only [↓VD, VP, VT, isAggD, reduceCtorEq, Int.reduceEq, Int.reduceNe, Int.reduceLT, Int.reduceLE, implies_true, Nat.reduceEqDiff, reduceIte, ite_true, ite_false, eq_self, Nat.reduceLT, Nat.reduceLeDiff, Nat.reduceAdd, Nat.reduceMul, Nat.reduceSub, intOf]
  intro w1 hN
  refine (Width_ok n w1).mono ?_
  rintro _ w2 ⟨rfl, hE2⟩
  have hE : Ext w w2 := hN.ext.trans' hE2
  have hB : Blk w2 w.heap.size 23 (vbs d) := hN.blk.ext hE2
  simp only [↓VD, VP, VT, isAggD, reduceCtorEq, Int.reduceEq, Int.reduceNe, Int.reduceLT, Int.reduceLE, implies_true, Nat.reduceEqDiff, reduceIte, ite_true, ite_false, eq_self, Nat.reduceLT, Nat.reduceLeDiff, Nat.reduceAdd, Nat.reduceMul, Nat.reduceSub, intOf]
  refine bsplit_i (fun hi => ?_) (fun hi => ?_)
  · have hn : 1 ≤ n ∧ n ≤ 32 := by simpa [widthP] using hi
    simp only [↓VD, VP, VT, isAggD, reduceCtorEq, Int.reduceEq, Int.reduceNe, Int.reduceLT, Int.reduceLE, implies_true, Nat.reduceEqDiff, reduceIte, ite_true, ite_false, eq_self, Nat.reduceLT, Nat.reduceLeDiff, Nat.reduceAdd, Nat.reduceMul, Nat.reduceSub, intOf]
    have hf : formP n d = decide (∀ b ∈ d.drop n.toNat, b = 0) := by rw [formP, hi, Bool.true_and]
    refine loopT (fun s' w' => w' = w2 ∧ ∃ k : Nat, n.toNat + k ≤ 32 ∧ s' 3 = .pointer (some ⟨w.heap.size, 0, none⟩) ∧ s' 5 = .int .i64 (n.toNat + k : Nat) ∧ ∀ b ∈ (d.drop n.toNat).take k, b = 0) (fun s' _ => 32 - (intOf (s' 5)).toNat) ?_ ?_
    · simp only [↓VD, VP, VT, isAggD, reduceCtorEq, Int.reduceEq, Int.reduceNe, Int.reduceLT, Int.reduceLE, implies_true, Nat.reduceEqDiff, reduceIte, ite_true, ite_false, eq_self, Nat.reduceLT, Nat.reduceLeDiff, Nat.reduceAdd, Nat.reduceMul, Nat.reduceSub, intOf]
      exact ⟨0, by omega, by omega, by simp⟩
    · rintro s1 w3 ⟨rfl, k, hk, h3, h5, hz⟩
      simp only [↓VD, VP, VT, isAggD, reduceCtorEq, Int.reduceEq, Int.reduceNe, Int.reduceLT, Int.reduceLE, implies_true, Nat.reduceEqDiff, reduceIte, ite_true, ite_false, eq_self, Nat.reduceLT, Nat.reduceLeDiff, Nat.reduceAdd, Nat.reduceMul, Nat.reduceSub, intOf, h3, h5]
      refine ⟨fun hlt => ?_, fun hge => ?_⟩
      · have hlk : (d.drop n.toNat)[k]? = some (d.getD (n.toNat + k) 0) := by
          rw [List.getElem?_drop, List.getD_eq_getElem?_getD, List.getElem?_eq_getElem (by omega)]; rfl
        refine ⟨by omega, by omega, ldB Try.underlying5 hB (by omega) ?_⟩
        generalize d.getD (n.toNat + k) 0 = y at *
        simp only [↓VD, VP, VT, isAggD, reduceCtorEq, Int.reduceEq, Int.reduceNe, Int.reduceLT, Int.reduceLE, implies_true, Nat.reduceEqDiff, reduceIte, ite_true, ite_false, eq_self, Nat.reduceLT, Nat.reduceLeDiff, Nat.reduceAdd, Nat.reduceMul, Nat.reduceSub, intOf, h3, h5]
        have hy : (y.toNat : Int) = 0 ↔ y = 0 := by rw [← toNat_inj]; rfl
        refine ⟨fun h3 => ⟨?_, hE⟩, fun h3 => ⟨⟨k + 1, by omega, ?_, ?_⟩, ?_⟩⟩
        · rw [hf, eq_comm, decide_eq_false_iff_not]
          intro hall
          exact h3 (hy.2 (hall y (List.mem_of_getElem? hlk)))
        · rw [w64 (by omega) (by omega)]; rfl
        · exact (take_all_succ hlk).2 ⟨hz, hy.1 h3⟩
        · rw [w64 (by omega) (by omega)]; omega
      · refine ⟨?_, hE⟩
        rw [List.take_of_length_le (by simp; omega)] at hz
        rw [hf, eq_comm, decide_eq_true_eq]
        exact hz
  · simp only [↓VD, VP, VT, isAggD, reduceCtorEq, Int.reduceEq, Int.reduceNe, Int.reduceLT, Int.reduceLE, implies_true, Nat.reduceEqDiff, reduceIte, ite_true, ite_false, eq_self, Nat.reduceLT, Nat.reduceLeDiff, Nat.reduceAdd, Nat.reduceMul, Nat.reduceSub, intOf]
    exact ⟨by simp [formP, hi], hE⟩

def digsI (d : List UInt8) (k : Nat) : List Int := (List.range (2 * k)).map fun j => (digP d j : Int)
theorem digsI_succ (d : List UInt8) (k : Nat) : digsI d (k + 1) = digsI d k ++ [((d.getD k 0).toNat : Int) / 16, ((d.getD k 0).toNat : Int) % 16] := by
  unfold digsI
  rw [show 2 * (k + 1) = 2 * k + 1 + 1 from by omega, List.range_succ, List.range_succ, List.map_append, List.map_append, List.append_assoc]
  congr 1
  simp only [List.map_cons, List.map_nil, List.cons_append, List.nil_append, digP]
  rw [if_pos (by omega), if_neg (by omega), show 2 * k / 2 = k from by omega, show (2 * k + 1) / 2 = k from by omega]
  rfl
theorem digsI_len (d : List UInt8) (k : Nat) : (digsI d k).length = 2 * k := by simp [digsI]

theorem Digits_ok (n : Nat) (hn : n ≤ 32) (d : List UInt8) (hd : d.length = 32) (w : World) :
    CallK Try.prog 35 [.int .i64 n, .agg (vbs d).toArray].toArray w fun v w' => OwnI w' w.heap.size 3 v (digsI d n) ∧ Ext w w' := by
  refine enterT Try.func35 rfl Try.ntmps35 Try.results35 rfl (by decide) ?_
  simp only [↓VD, VP, VT, isAggD, reduceCtorEq, Int.reduceEq, Int.reduceNe, Int.reduceLT, Int.reduceLE, implies_true, Nat.reduceEqDiff, reduceIte, ite_true, ite_false, eq_self, Nat.reduceLT, Nat.reduceLeDiff, Nat.reduceAdd, Nat.reduceMul, Nat.reduceSub, intOf]
  intro w1 hN
  refine loopT (fun s' w' => Ext w w' ∧ Blk w' w.heap.size 23 (vbs d) ∧ ∃ k : Nat, k ≤ n ∧ s' 0 = .int .i64 n ∧ s' 3 = .pointer (some ⟨w.heap.size, 0, none⟩) ∧ s' 6 = .int .i64 k ∧ Own w' (w.heap.size + 1) 3 1 (s' 5) (2 * k) (ints .i64 (digsI d k))) (fun s' _ => n - (intOf (s' 6)).toNat) ?_ ?_
  · simp only [↓VD, VP, VT, isAggD, reduceCtorEq, Int.reduceEq, Int.reduceNe, Int.reduceLT, Int.reduceLE, implies_true, Nat.reduceEqDiff, reduceIte, ite_true, ite_false, eq_self, Nat.reduceLT, Nat.reduceLeDiff, Nat.reduceAdd, Nat.reduceMul, Nat.reduceSub, intOf]
    exact ⟨hN.ext, hN.blk, 0, by omega, rfl, Own.nil _ _ _ _⟩
  · rintro s1 w2 ⟨hE, hB, k, hk, h0, h3, h6, ho⟩
    simp only [↓VD, VP, VT, isAggD, reduceCtorEq, Int.reduceEq, Int.reduceNe, Int.reduceLT, Int.reduceLE, implies_true, Nat.reduceEqDiff, reduceIte, ite_true, ite_false, eq_self, Nat.reduceLT, Nat.reduceLeDiff, Nat.reduceAdd, Nat.reduceMul, Nat.reduceSub, intOf, h0, h3, h6]
    refine ⟨fun hlt => ?_, fun hge => ?_⟩
    · have hbl := hB.lt
      refine drawH (fun x => Blk x w.heap.size 23 (vbs d)) [0, 1, 2, 3, 4, 5, 6, 7, 8, 9, 10, 11, 12, 13] mixed (by decide +kernel) (fun w3 hE3 hh => ⟨hB.ext hE3, ?_⟩)
      have ho3 := ho.ext hE3
      simp only [↓VD, VP, VT, isAggD, reduceCtorEq, Int.reduceEq, Int.reduceNe, Int.reduceLT, Int.reduceLE, implies_true, Nat.reduceEqDiff, reduceIte, ite_true, ite_false, eq_self, Nat.reduceLT, Nat.reduceLeDiff, Nat.reduceAdd, Nat.reduceMul, Nat.reduceSub, intOf, h0, h3, h6]
      have hk32 : k < (d.length) := by omega
      refine ⟨by omega, by omega, loadS_of _ (fun x hx => ldB (o := k) Try.underlying5 hx (by omega) rfl) ?_⟩
      simp only [↓VD, VP, VT, isAggD, reduceCtorEq, Int.reduceEq, Int.reduceNe, Int.reduceLT, Int.reduceLE, implies_true, Nat.reduceEqDiff, reduceIte, ite_true, ite_false, eq_self, Nat.reduceLT, Nat.reduceLeDiff, Nat.reduceAdd, Nat.reduceMul, Nat.reduceSub, intOf, h0, h3, h6]
      refine ⟨by omega, by omega, loadS_of _ (fun x hx => ldB (o := k) Try.underlying5 hx (by omega) rfl) ?_⟩
      simp only [↓VD, VP, VT, isAggD, reduceCtorEq, Int.reduceEq, Int.reduceNe, Int.reduceLT, Int.reduceLE, implies_true, Nat.reduceEqDiff, reduceIte, ite_true, ite_false, eq_self, Nat.reduceLT, Nat.reduceLeDiff, Nat.reduceAdd, Nat.reduceMul, Nat.reduceSub, intOf, h0, h3, h6]
      have hs := digsI_succ d k
      generalize d.getD k 0 = y at *
      have hy := y.toNat_lt
      have e1 : IntKind.i64.wrap ((IntKind.i64.wrap (y.toNat : Int)).tdiv 16) = (y.toNat : Int) / 16 := by
        rw [w64 (n := (y.toNat : Int)) (by omega) (by omega), Int.tdiv_eq_ediv_of_nonneg (by omega), w64 (by omega) (by omega)]
      have e2 : (IntKind.i64.wrap (y.toNat : Int)).tmod 16 = (y.toNat : Int) % 16 := by
        rw [w64 (n := (y.toNat : Int)) (by omega) (by omega), Int.tmod_eq_emod_of_nonneg (by omega)]
      rw [e1, e2]
      have hB3 := hB.ext hE3
      have hw3 := hE3.size
      refine ⟨rfl, ⟨rfl, rfl⟩, fun w4 hN4 => told (fun _ => True) (hN4.keep hB3) trivial ?_⟩
      simp only [↓VD, VP, VT, isAggD, reduceCtorEq, Int.reduceEq, Int.reduceNe, Int.reduceLT, Int.reduceLE, implies_true, Nat.reduceEqDiff, reduceIte, ite_true, ite_false, eq_self, Nat.reduceLT, Nat.reduceLeDiff, Nat.reduceAdd, Nat.reduceMul, Nat.reduceSub, intOf, h0, h3, h6]
      have hw4 := hN4.ext.size
      refine apB Try.underlying38 z3 c3 rfl (by decide) (ho3.ext hN4.ext) (by omega) hN4.blk rfl (by simp [oneCellV]) (by omega) (by rw [by3]; omega) (fun v w5 ho5 hB5 => ?_)
      refine told (fun _ => True) ((hN4.keep hB3).below hB5 (Nat.lt_succ_self _)) trivial ?_
      simp only [↓VD, VP, VT, isAggD, reduceCtorEq, Int.reduceEq, Int.reduceNe, Int.reduceLT, Int.reduceLE, implies_true, Nat.reduceEqDiff, reduceIte, ite_true, ite_false, eq_self, Nat.reduceLT, Nat.reduceLeDiff, Nat.reduceAdd, Nat.reduceMul, Nat.reduceSub, intOf, h0, h3, h6]
      refine ⟨⟨(hE.trans' hE3).trans ((hN4.ext.mono (by omega)).trans (hB5.mono (by omega))), (hN4.keep hB3).below hB5 (Nat.lt_succ_self _), k + 1, by omega, by rw [w64 (by omega) (by omega)]; rfl, ?_⟩, ?_⟩
      · rw [hs, show 2 * (k + 1) = 2 * k + 2 from by omega]
        simpa [ints] using ho5
      · rw [w64 (by omega) (by omega)]; omega
    · have e : k = n := by omega
      subst e
      refine ⟨?_, hE⟩
      rw [OwnI, digsI_len]
      exact ho.base (Nat.le_succ _)

theorem form_chk {n : Int} (h : 1 ≤ n ∧ n ≤ 32) (l : List (List UInt8)) : chkP n l = if ∀ d ∈ l, formP n d = true then 0 else 3 := by
  unfold chkP
  rw [if_neg (by omega)]
  have hw : widthP n = true := by simp [widthP, h]
  have : (∀ d ∈ l, formP n d = true) ↔ ∀ d ∈ l, ∀ b ∈ d.drop n.toNat, b = 0 := by simp [formP, hw]
  simp only [this]

theorem Rcheck_ok (n : Int) (v : Value) (ds : List (List UInt8)) (hd : ∀ d ∈ ds, d.length = 32) (w : World) (hv : SlC w v ds.length (ds.flatMap vbs)) :
    CallK Try.prog 34 [.int .i64 n, v].toArray w fun v w' => v = .int .i64 (chkP n ds) ∧ Ext w w' := by
  obtain ⟨a, c, rfl, hnc, hcm, hc⟩ := hv
  refine enterT Try.func34 rfl Try.ntmps34 Try.results34 rfl (by decide) ?_
  simp only [↓VD, VP, VT, isAggD, reduceCtorEq, Int.reduceEq, Int.reduceNe, Int.reduceLT, Int.reduceLE, implies_true, Nat.reduceEqDiff, reduceIte, ite_true, ite_false, eq_self, Nat.reduceLT, Nat.reduceLeDiff, Nat.reduceAdd, Nat.reduceMul, Nat.reduceSub, intOf]
  refine (Width_ok n w).mono ?_
  rintro _ w1 ⟨rfl, hE1⟩
  simp only [↓VD, VP, VT, isAggD, reduceCtorEq, Int.reduceEq, Int.reduceNe, Int.reduceLT, Int.reduceLE, implies_true, Nat.reduceEqDiff, reduceIte, ite_true, ite_false, eq_self, Nat.reduceLT, Nat.reduceLeDiff, Nat.reduceAdd, Nat.reduceMul, Nat.reduceSub, intOf]
  refine bsplit_i (fun hi => ?_) (fun hi => ?_)
  · have hn : 1 ≤ n ∧ n ≤ 32 := by simpa [widthP] using hi
    simp only [↓VD, VP, VT, isAggD, reduceCtorEq, Int.reduceEq, Int.reduceNe, Int.reduceLT, Int.reduceLE, implies_true, Nat.reduceEqDiff, reduceIte, ite_true, ite_false, eq_self, Nat.reduceLT, Nat.reduceLeDiff, Nat.reduceAdd, Nat.reduceMul, Nat.reduceSub, intOf]
    refine loopT (fun s' w' => Ext w w' ∧ ∃ k : Nat, k ≤ ds.length ∧ s' 0 = .int .i64 n ∧ s' 10 = .slice a ds.length c ∧ s' 11 = .int .i64 ds.length ∧ s' 12 = .int .i64 k ∧ ∀ d ∈ ds.take k, formP n d = true) (fun s' _ => ds.length - (intOf (s' 12)).toNat) ?_ ?_
    · simp only [↓VD, VP, VT, isAggD, reduceCtorEq, Int.reduceEq, Int.reduceNe, Int.reduceLT, Int.reduceLE, implies_true, Nat.reduceEqDiff, reduceIte, ite_true, ite_false, eq_self, Nat.reduceLT, Nat.reduceLeDiff, Nat.reduceAdd, Nat.reduceMul, Nat.reduceSub, intOf]
      exact ⟨hE1, 0, by omega, rfl, by simp⟩
    · rintro s1 w2 ⟨hE, k, hk, h0, h10, h11, h12, hz⟩
      simp only [↓VD, VP, VT, isAggD, reduceCtorEq, Int.reduceEq, Int.reduceNe, Int.reduceLT, Int.reduceLE, implies_true, Nat.reduceEqDiff, reduceIte, ite_true, ite_false, eq_self, Nat.reduceLT, Nat.reduceLeDiff, Nat.reduceAdd, Nat.reduceMul, Nat.reduceSub, intOf, h0, h10, h11, h12]
      refine ⟨fun hlt => ?_, fun hge => ?_⟩
      · have hlt' : k < ds.length := by omega
        rcases hc with hc | ⟨b, o, rfl, hc⟩
        · have : ds = [] := by
            cases ds with
            | nil => rfl
            | cons d ds => have := hd d (by simp); simp at hc; simp [vbs] at hc; have h3 := hc.1; simp [h3] at this
          simp [this] at hlt'
        obtain ⟨x, hx⟩ : ∃ x, ds[k]? = some x := ⟨_, List.getElem?_eq_getElem hlt'⟩
        have hxl : x.length = 32 := hd x (List.mem_of_getElem? hx)
        have hc1 : ∀ j u, (ds.flatMap vbs)[j]? = some u → w2.cell? ⟨b, o + j, none⟩ = some u := fun j u hj => by rw [hE.cell (block_lt_of_cell (hc j u hj))]; exact hc j u hj
        simp only [↓VD, VP, VT, isAggD, reduceCtorEq, Int.reduceEq, Int.reduceNe, Int.reduceLT, Int.reduceLE, implies_true, Nat.reduceEqDiff, reduceIte, ite_true, ite_false, eq_self, Nat.reduceLT, Nat.reduceLeDiff, Nat.reduceAdd, Nat.reduceMul, Nat.reduceSub, intOf]
        refine ⟨by omega, by omega, ldE c23 Try.underlying23 rfl (fun d h => by rw [vbs_len]; exact hd d h) hc1 hx ?_⟩
        simp only [↓VD, VP, VT, isAggD, reduceCtorEq, Int.reduceEq, Int.reduceNe, Int.reduceLT, Int.reduceLE, implies_true, Nat.reduceEqDiff, reduceIte, ite_true, ite_false, eq_self, Nat.reduceLT, Nat.reduceLeDiff, Nat.reduceAdd, Nat.reduceMul, Nat.reduceSub, intOf]
        intro w3 hN
        refine stAll hN.blk rfl (by rw [c23]; omega) (by rw [c23, vbs_len, hxl]) (by rw [c23]; simp) (vbs_one x) (fun w4 hP => ?_)
        simp only [↓VD, VP, VT, isAggD, reduceCtorEq, Int.reduceEq, Int.reduceNe, Int.reduceLT, Int.reduceLE, implies_true, Nat.reduceEqDiff, reduceIte, ite_true, ite_false, eq_self, Nat.reduceLT, Nat.reduceLeDiff, Nat.reduceAdd, Nat.reduceMul, Nat.reduceSub, intOf, h0, h10, h11, h12]
        have hE4 : Ext w2 w4 := hN.ext.trans (hP.below (Nat.le_refl _))
        refine ldA Try.underlying23 rfl hP.blk (by rw [vbs_len, hxl, c23]) ?_
        simp only [↓VD, VP, VT, isAggD, reduceCtorEq, Int.reduceEq, Int.reduceNe, Int.reduceLT, Int.reduceLE, implies_true, Nat.reduceEqDiff, reduceIte, ite_true, ite_false, eq_self, Nat.reduceLT, Nat.reduceLeDiff, Nat.reduceAdd, Nat.reduceMul, Nat.reduceSub, intOf, h0, h10, h11, h12]
        refine (DocForm_ok n x hxl w4).mono ?_
        rintro _ w5 ⟨rfl, hE5⟩
        have hE5' : Ext w w5 := hE.trans' (hE4.trans' hE5)
        simp only [↓VD, VP, VT, isAggD, reduceCtorEq, Int.reduceEq, Int.reduceNe, Int.reduceLT, Int.reduceLE, implies_true, Nat.reduceEqDiff, reduceIte, ite_true, ite_false, eq_self, Nat.reduceLT, Nat.reduceLeDiff, Nat.reduceAdd, Nat.reduceMul, Nat.reduceSub, intOf, h0, h10, h11, h12]
        refine bsplit_i (fun hf => ?_) (fun hf => ?_)
        · simp only [↓VD, VP, VT, isAggD, reduceCtorEq, Int.reduceEq, Int.reduceNe, Int.reduceLT, Int.reduceLE, implies_true, Nat.reduceEqDiff, reduceIte, ite_true, ite_false, eq_self, Nat.reduceLT, Nat.reduceLeDiff, Nat.reduceAdd, Nat.reduceMul, Nat.reduceSub, intOf, h0, h10, h11, h12]
          refine ⟨⟨hE5', k + 1, by omega, by rw [w64 (by omega) (by omega)]; rfl, (take_all_succ hx).2 ⟨hz, hf⟩⟩, ?_⟩
          rw [w64 (by omega) (by omega)]; omega
        · simp only [↓VD, VP, VT, isAggD, reduceCtorEq, Int.reduceEq, Int.reduceNe, Int.reduceLT, Int.reduceLE, implies_true, Nat.reduceEqDiff, reduceIte, ite_true, ite_false, eq_self, Nat.reduceLT, Nat.reduceLeDiff, Nat.reduceAdd, Nat.reduceMul, Nat.reduceSub, intOf, h0, h10, h11, h12]
          refine ⟨?_, hE5'⟩
          rw [form_chk hn, if_neg]
          intro hall
          have := hall x (List.mem_of_getElem? hx)
          rw [hf] at this; cases this
      · refine ⟨?_, hE⟩
        rw [List.take_of_length_le (by omega)] at hz
        rw [form_chk hn, if_pos hz]
  · have hn : ¬ (1 ≤ n ∧ n ≤ 32) := by simpa [widthP] using hi
    simp only [↓VD, VP, VT, isAggD, reduceCtorEq, Int.reduceEq, Int.reduceNe, Int.reduceLT, Int.reduceLE, implies_true, Nat.reduceEqDiff, reduceIte, ite_true, ite_false, eq_self, Nat.reduceLT, Nat.reduceLeDiff, Nat.reduceAdd, Nat.reduceMul, Nat.reduceSub, intOf]
    exact ⟨by rw [chkP, if_pos (by omega)], hE1⟩

theorem digsI_get (d : List UInt8) (k j : Nat) (h : j < 2 * k) : (digsI d k).getD j 0 = digP d j := by
  simp [digsI, h]

theorem cell_ext {w w' : World} {b o : Nat} {v : Value} (e : Ext w w') (h : w.cell? ⟨b, o, none⟩ = some v) : w'.cell? ⟨b, o, none⟩ = some v := by
  rw [e.cell (block_lt_of_cell h)]; exact h
theorem digs_open {w : World} {base e m : Nat} {v : Value} {d : List UInt8} (h : OwnI w base e v (digsI d m)) (hm : 0 < m) :
    ∃ b o c, v = .slice (some ⟨b, o, none⟩) (2 * m) c ∧ 2 * m ≤ c ∧ c ≤ 9223372036854775807 ∧ ∀ i, i < 2 * m → w.cell? ⟨b, o + i, none⟩ = some (.int .i64 (digP d i)) := by
  have hl := digsI_len d m
  obtain ⟨a, c, rfl, hnc, hcm, hc⟩ := (SlC.of_own h).openI
  rcases hc with hc | ⟨b, o, rfl, hc⟩
  · rw [hc] at hl; simp at hl; omega
  · rw [hl] at hnc
    refine ⟨b, o, c, by rw [hl], hnc, hcm, fun i hi => ?_⟩
    rw [← digsI_get d m i hi]
    exact hc i (by rw [hl]; exact hi)

theorem DocAt_ok (n : Int) (d : List UInt8) (hd : d.length = 32) (i : Int) (w : World) :
    CallK Try.prog 13 [.int .i64 n, .agg (vbs d).toArray, .int .i64 i].toArray w fun v w' => v = .tuple [.int .i64 (atP n d i).1, .int .i64 (atP n d i).2].toArray ∧ Ext w w' := by
  refine enterT Try.func13 rfl Try.ntmps13 Try.results13 rfl (by decide) ?_
  simp only [↓VD, VP, VT, isAggD, reduceCtorEq, Int.reduceEq, Int.reduceNe, Int.reduceLT, Int.reduceLE, implies_true, Nat.reduceEqDiff, reduceIte, ite_true, ite_false, eq_self, Nat.reduceLT, Nat.reduceLeDiff, Nat.reduceAdd, Nat.reduceMul, Nat.reduceSub, intOf]
  intro w1 hN
  refine (Width_ok n w1).mono ?_
  rintro _ w2 ⟨rfl, hE2⟩
  have hE : Ext w w2 := hN.ext.trans' hE2
  have hB : Blk w2 w.heap.size 23 (vbs d) := hN.blk.ext hE2
  simp only [↓VD, VP, VT, isAggD, reduceCtorEq, Int.reduceEq, Int.reduceNe, Int.reduceLT, Int.reduceLE, implies_true, Nat.reduceEqDiff, reduceIte, ite_true, ite_false, eq_self, Nat.reduceLT, Nat.reduceLeDiff, Nat.reduceAdd, Nat.reduceMul, Nat.reduceSub, intOf]
  refine bsplit_i (fun hi => ?_) (fun hi => ?_)
  · have hn : 1 ≤ n ∧ n ≤ 32 := by simpa [widthP] using hi
    simp only [↓VD, VP, VT, isAggD, reduceCtorEq, Int.reduceEq, Int.reduceNe, Int.reduceLT, Int.reduceLE, implies_true, Nat.reduceEqDiff, reduceIte, ite_true, ite_false, eq_self, Nat.reduceLT, Nat.reduceLeDiff, Nat.reduceAdd, Nat.reduceMul, Nat.reduceSub, intOf]
    rw [w64 (by omega) (by omega)]
    refine ⟨fun h1 => ?_, fun h1 => ⟨fun h2 => ?_, fun h2 => ?_⟩⟩
    · rw [show atP n d i = (0, 1) from by rw [atP, if_pos (by omega)]]; exact ⟨rfl, hE⟩
    · rw [show atP n d i = (0, 1) from by rw [atP, if_pos (by omega)]]; exact ⟨rfl, hE⟩
    have e : atP n d i = if chkP n [d] = 0 then ((digP d i.toNat : Int), 0) else (0, 3) := by rw [atP, if_neg (by omega)]
    refine ldA Try.underlying23 rfl hB (by rw [vbs_len, hd, c23]) ?_
    simp only [↓VD, VP, VT, isAggD, reduceCtorEq, Int.reduceEq, Int.reduceNe, Int.reduceLT, Int.reduceLE, implies_true, Nat.reduceEqDiff, reduceIte, ite_true, ite_false, eq_self, Nat.reduceLT, Nat.reduceLeDiff, Nat.reduceAdd, Nat.reduceMul, Nat.reduceSub, intOf]
    refine ⟨by rw [vbs_len, hd], fun w3 hN3 => (Rcheck_ok n _ [d] (by simp [hd]) w3 ?_).mono ?_⟩
    · simpa using SlC.of_blk hN3.blk (n := 1) (by decide)
    rintro _ w4 ⟨rfl, hE4⟩
    have hE4' : Ext w w4 := hE.trans' (hN3.ext.trans' hE4)
    have hB4 : Blk w4 w.heap.size 23 (vbs d) := hB.ext (hN3.ext.trans' hE4)
    simp only [↓VD, VP, VT, isAggD, reduceCtorEq, Int.reduceEq, Int.reduceNe, Int.reduceLT, Int.reduceLE, implies_true, Nat.reduceEqDiff, reduceIte, ite_true, ite_false, eq_self, Nat.reduceLT, Nat.reduceLeDiff, Nat.reduceAdd, Nat.reduceMul, Nat.reduceSub, intOf]
    refine ⟨fun h3 => ?_, fun h3 => ?_⟩
    · have e3 : chkP n [d] = 3 := by rw [form_chk hn] at h3 ⊢; split at h3 <;> simp_all
      rw [e, if_neg h3, e3]
      exact ⟨rfl, hE4'⟩
    · rw [e, if_pos h3]
      obtain ⟨m, rfl⟩ : ∃ m : Nat, n = m := ⟨n.toNat, by omega⟩
      refine ldA Try.underlying23 rfl hB4 (by rw [vbs_len, hd, c23]) ?_
      simp only [↓VD, VP, VT, isAggD, reduceCtorEq, Int.reduceEq, Int.reduceNe, Int.reduceLT, Int.reduceLE, implies_true, Nat.reduceEqDiff, reduceIte, ite_true, ite_false, eq_self, Nat.reduceLT, Nat.reduceLeDiff, Nat.reduceAdd, Nat.reduceMul, Nat.reduceSub, intOf]
      refine (Digits_ok m (by omega) d hd w4).mono ?_
      rintro v w5 ⟨ho, hE5⟩
      obtain ⟨b, o, c, rfl, hnc, hcm, hc⟩ := digs_open ho (by omega)
      simp only [↓VD, VP, VT, isAggD, reduceCtorEq, Int.reduceEq, Int.reduceNe, Int.reduceLT, Int.reduceLE, implies_true, Nat.reduceEqDiff, reduceIte, ite_true, ite_false, eq_self, Nat.reduceLT, Nat.reduceLeDiff, Nat.reduceAdd, Nat.reduceMul, Nat.reduceSub, intOf]
      refine ⟨by omega, by omega, ld1 Try.underlying3 rfl (hc i.toNat (by omega)) ?_⟩
      simp only [↓VD, VP, VT, isAggD, reduceCtorEq, Int.reduceEq, Int.reduceNe, Int.reduceLT, Int.reduceLE, implies_true, Nat.reduceEqDiff, reduceIte, ite_true, ite_false, eq_self, Nat.reduceLT, Nat.reduceLeDiff, Nat.reduceAdd, Nat.reduceMul, Nat.reduceSub, intOf]
      exact hE4'.trans' hE5
  · have hn : ¬ (1 ≤ n ∧ n ≤ 32) := by simpa [widthP] using hi
    have e : atP n d i = (0, 1) := by rw [atP, if_pos (by omega)]
    rw [e]
    simp only [↓VD, VP, VT, isAggD, reduceCtorEq, Int.reduceEq, Int.reduceNe, Int.reduceLT, Int.reduceLE, implies_true, Nat.reduceEqDiff, reduceIte, ite_true, ite_false, eq_self, Nat.reduceLT, Nat.reduceLeDiff, Nat.reduceAdd, Nat.reduceMul, Nat.reduceSub, intOf]
    exact hE

theorem comP_eq (a b : List UInt8) (m k : Nat) (hs : ∀ j, j < k → digP a j = digP b j) (hk : k < m) (hd : digP a k ≠ digP b k) : comP a b m = k := comP_part a b k hs hd m hk

theorem DocCommon_ok (n : Int) (a b : List UInt8) (ha : a.length = 32) (hb : b.length = 32) (w : World) :
    CallK Try.prog 15 [.int .i64 n, .agg (vbs a).toArray, .agg (vbs b).toArray].toArray w fun v w' => v = .tuple [.int .i64 (comPP n a b).1, .int .i64 (comPP n a b).2].toArray ∧ Ext w w' := by
  refine enterT Try.func15 rfl Try.ntmps15 Try.results15 rfl (by decide) ?_
  simp only [↓VD, VP, VT, isAggD, reduceCtorEq, Int.reduceEq, Int.reduceNe, Int.reduceLT, Int.reduceLE, implies_true, Nat.reduceEqDiff, reduceIte, ite_true, ite_false, eq_self, Nat.reduceLT, Nat.reduceLeDiff, Nat.reduceAdd, Nat.reduceMul, Nat.reduceSub, intOf]
  intro w1 hN1 w2 hN2
  have hA : Blk w2 w.heap.size 23 (vbs a) := hN2.keep hN1.blk
  refine ldA Try.underlying23 rfl hA (by rw [vbs_len, ha, c23]) ?_
  simp only [↓VD, VP, VT, isAggD, reduceCtorEq, Int.reduceEq, Int.reduceNe, Int.reduceLT, Int.reduceLE, implies_true, Nat.reduceEqDiff, reduceIte, ite_true, ite_false, eq_self, Nat.reduceLT, Nat.reduceLeDiff, Nat.reduceAdd, Nat.reduceMul, Nat.reduceSub, intOf]
  refine ldA Try.underlying23 rfl hN2.blk (by rw [vbs_len, hb, c23]) ?_
  simp only [↓VD, VP, VT, isAggD, reduceCtorEq, Int.reduceEq, Int.reduceNe, Int.reduceLT, Int.reduceLE, implies_true, Nat.reduceEqDiff, reduceIte, ite_true, ite_false, eq_self, Nat.reduceLT, Nat.reduceLeDiff, Nat.reduceAdd, Nat.reduceMul, Nat.reduceSub, intOf]
  refine ⟨⟨by rw [vbs_len, ha], by rw [vbs_len, hb]⟩, fun w3 hN3 => (Rcheck_ok n _ [a, b] (by simp [ha, hb]) w3 ?_).mono ?_⟩
  · simpa using SlC.of_blk hN3.blk (n := 2) (by decide)
  rintro _ w4 ⟨rfl, hE⟩
  have hE4 : Ext w2 w4 := hN3.ext.trans' hE
  have hEx : Ext w w4 := hN1.ext.trans' (hN2.ext.trans' hE4)
  simp only [↓VD, VP, VT, isAggD, reduceCtorEq, Int.reduceEq, Int.reduceNe, Int.reduceLT, Int.reduceLE, implies_true, Nat.reduceEqDiff, reduceIte, ite_true, ite_false, eq_self, Nat.reduceLT, Nat.reduceLeDiff, Nat.reduceAdd, Nat.reduceMul, Nat.reduceSub, intOf]
  refine ⟨fun h => ?_, fun h => ?_⟩
  · have e : comPP n a b = (0, chkP n [a, b]) := by unfold comPP; rw [if_neg h]
    rw [e]; exact ⟨rfl, hEx⟩
  · have e : comPP n a b = ((comP a b (2 * n.toNat) : Int), 0) := by unfold comPP; rw [if_pos h]
    have hn := chk_ok h
    rw [e]
    obtain ⟨m, rfl⟩ : ∃ m : Nat, n = m := ⟨n.toNat, by omega⟩
    have hA4 : Blk w4 w.heap.size 23 (vbs a) := hA.ext hE4
    have hB4 : Blk w4 w1.heap.size 23 (vbs b) := hN2.blk.ext hE4
    refine drawH (fun x => Blk x w.heap.size 23 (vbs a) ∧ Blk x w1.heap.size 23 (vbs b)) [0, 1, 3, 4, 2, 5, 6, 7] mixed (by decide +kernel) (fun w5 hE5 hh => ⟨⟨hA4.ext hE5, hB4.ext hE5⟩, ?_⟩)
    simp only [↓VD, VP, VT, isAggD, reduceCtorEq, Int.reduceEq, Int.reduceNe, Int.reduceLT, Int.reduceLE, implies_true, Nat.reduceEqDiff, reduceIte, ite_true, ite_false, eq_self, Nat.reduceLT, Nat.reduceLeDiff, Nat.reduceAdd, Nat.reduceMul, Nat.reduceSub, intOf]
    refine loadS_of _ (fun x hx => ldA Try.underlying23 rfl hx.1 (by rw [vbs_len, ha, c23]) rfl) ?_
    simp only [↓VD, VP, VT, isAggD, reduceCtorEq, Int.reduceEq, Int.reduceNe, Int.reduceLT, Int.reduceLE, implies_true, Nat.reduceEqDiff, reduceIte, ite_true, ite_false, eq_self, Nat.reduceLT, Nat.reduceLeDiff, Nat.reduceAdd, Nat.reduceMul, Nat.reduceSub, intOf]
    refine loadS_of _ (fun x hx => ldA Try.underlying23 rfl hx.2 (by rw [vbs_len, hb, c23]) rfl) ?_
    simp only [↓VD, VP, VT, isAggD, reduceCtorEq, Int.reduceEq, Int.reduceNe, Int.reduceLT, Int.reduceLE, implies_true, Nat.reduceEqDiff, reduceIte, ite_true, ite_false, eq_self, Nat.reduceLT, Nat.reduceLeDiff, Nat.reduceAdd, Nat.reduceMul, Nat.reduceSub, intOf]
    refine (Digits_ok m (by omega) a ha w5).mono ?_
    rintro va w6 ⟨hoa, hE6⟩
    refine told (fun _ => True) ⟨(hA4.ext hE5).ext hE6, (hB4.ext hE5).ext hE6⟩ trivial ?_
    simp only [↓VD, VP, VT, isAggD, reduceCtorEq, Int.reduceEq, Int.reduceNe, Int.reduceLT, Int.reduceLE, implies_true, Nat.reduceEqDiff, reduceIte, ite_true, ite_false, eq_self, Nat.reduceLT, Nat.reduceLeDiff, Nat.reduceAdd, Nat.reduceMul, Nat.reduceSub, intOf]
    refine (Digits_ok m (by omega) b hb w6).mono ?_
    rintro vb w7 ⟨hob, hE7⟩
    refine told (fun _ => True) ⟨((hA4.ext hE5).ext hE6).ext hE7, ((hB4.ext hE5).ext hE6).ext hE7⟩ trivial ?_
    have hE7' : Ext w w7 := hEx.trans' (hE5.trans' (hE6.trans' hE7))
    obtain ⟨xa, oa, ca, rfl, hnca, hcma, hca⟩ := digs_open (hoa.ext hE7) (by omega)
    obtain ⟨xb, ob, cb, rfl, hncb, hcmb, hcb⟩ := digs_open hob (by omega)
    simp only [Int.toNat_natCast]
    simp only [↓VD, VP, VT, isAggD, reduceCtorEq, Int.reduceEq, Int.reduceNe, Int.reduceLT, Int.reduceLE, implies_true, Nat.reduceEqDiff, reduceIte, ite_true, ite_false, eq_self, Nat.reduceLT, Nat.reduceLeDiff, Nat.reduceAdd, Nat.reduceMul, Nat.reduceSub, intOf]
    refine loopT (fun s' w' => Ext w7 w' ∧ ∃ k : Nat, k ≤ 2 * m ∧ s' 0 = .int .i64 m ∧ s' 9 = .slice (some ⟨xa, oa, none⟩) (2 * m) ca ∧ s' 10 = .slice (some ⟨xb, ob, none⟩) (2 * m) cb ∧ s' 27 = .int .i64 (2 * m : Nat) ∧ s' 28 = .int .i64 k ∧ ∀ j, j < k → digP a j = digP b j) (fun s' _ => 2 * m - (intOf (s' 28)).toNat) ?_ ?_
    · simp only [↓VD, VP, VT, isAggD, reduceCtorEq, Int.reduceEq, Int.reduceNe, Int.reduceLT, Int.reduceLE, implies_true, Nat.reduceEqDiff, reduceIte, ite_true, ite_false, eq_self, Nat.reduceLT, Nat.reduceLeDiff, Nat.reduceAdd, Nat.reduceMul, Nat.reduceSub, intOf]
      exact ⟨Ext.rfl' w7, 0, by omega, rfl, by simp⟩
    · rintro s1 w8 ⟨hE8, k, hk, h0, h9, h10, h27, h28, hs⟩
      simp only [↓VD, VP, VT, isAggD, reduceCtorEq, Int.reduceEq, Int.reduceNe, Int.reduceLT, Int.reduceLE, implies_true, Nat.reduceEqDiff, reduceIte, ite_true, ite_false, eq_self, Nat.reduceLT, Nat.reduceLeDiff, Nat.reduceAdd, Nat.reduceMul, Nat.reduceSub, intOf, h0, h9, h10, h27, h28]
      refine ⟨fun hlt => ?_, fun hge => ?_⟩
      · refine drawT mixed (by decide +kernel) ?_
        simp only [↓VD, VP, VT, isAggD, reduceCtorEq, Int.reduceEq, Int.reduceNe, Int.reduceLT, Int.reduceLE, implies_true, Nat.reduceEqDiff, reduceIte, ite_true, ite_false, eq_self, Nat.reduceLT, Nat.reduceLeDiff, Nat.reduceAdd, Nat.reduceMul, Nat.reduceSub, intOf, h0, h9, h10, h27, h28]
        have hk' : k < 2 * m := by omega
        refine ⟨by omega, by omega, ld1 Try.underlying3 rfl (cell_ext hE8 (hca k hk')) ?_⟩
        simp only [↓VD, VP, VT, isAggD, reduceCtorEq, Int.reduceEq, Int.reduceNe, Int.reduceLT, Int.reduceLE, implies_true, Nat.reduceEqDiff, reduceIte, ite_true, ite_false, eq_self, Nat.reduceLT, Nat.reduceLeDiff, Nat.reduceAdd, Nat.reduceMul, Nat.reduceSub, intOf, h0, h9, h10, h27, h28]
        refine ⟨by omega, by omega, ld1 Try.underlying3 rfl (cell_ext hE8 (hcb k hk')) ?_⟩
        simp only [↓VD, VP, VT, isAggD, reduceCtorEq, Int.reduceEq, Int.reduceNe, Int.reduceLT, Int.reduceLE, implies_true, Nat.reduceEqDiff, reduceIte, ite_true, ite_false, eq_self, Nat.reduceLT, Nat.reduceLeDiff, Nat.reduceAdd, Nat.reduceMul, Nat.reduceSub, intOf, h0, h9, h10, h27, h28]
        intro w9 hE9
        refine ⟨fun hne => ⟨?_, hE7'.trans' (hE8.trans' hE9)⟩, fun heq => ?_⟩
        · rw [comP_eq a b (2 * m) k hs hk' (by omega)]
        · refine ⟨⟨hE8.trans' hE9, k + 1, by omega, by rw [w64 (by omega) (by omega)]; rfl, fun j hj => ?_⟩, ?_⟩
          · by_cases e : j = k
            · subst e; omega
            · exact hs j (by omega)
          · rw [w64 (by omega) (by omega)]; omega
      · have ek : k = 2 * m := by omega
        subst ek
        rw [comP_same a b _ hs, w64 (by omega) (by omega)]
        exact ⟨by simp, hE7'.trans' hE8⟩

theorem DocOrder_ok (n : Int) (a b : List UInt8) (ha : a.length = 32) (hb : b.length = 32) (w : World) :
    CallK Try.prog 17 [.int .i64 n, .agg (vbs a).toArray, .agg (vbs b).toArray].toArray w fun v w' => v = .tuple [.int .i64 (ordP n a b).1, .int .i64 (ordP n a b).2].toArray ∧ Ext w w' := by
  refine enterT Try.func17 rfl Try.ntmps17 Try.results17 rfl (by decide) ?_
  simp only [↓VD, VP, VT, isAggD, reduceCtorEq, Int.reduceEq, Int.reduceNe, Int.reduceLT, Int.reduceLE, implies_true, Nat.reduceEqDiff, reduceIte, ite_true, ite_false, eq_self, Nat.reduceLT, Nat.reduceLeDiff, Nat.reduceAdd, Nat.reduceMul, Nat.reduceSub, intOf]
  intro w1 hN1 w2 hN2
  have hA : Blk w2 w.heap.size 23 (vbs a) := hN2.keep hN1.blk
  refine ldA Try.underlying23 rfl hA (by rw [vbs_len, ha, c23]) ?_
  simp only [↓VD, VP, VT, isAggD, reduceCtorEq, Int.reduceEq, Int.reduceNe, Int.reduceLT, Int.reduceLE, implies_true, Nat.reduceEqDiff, reduceIte, ite_true, ite_false, eq_self, Nat.reduceLT, Nat.reduceLeDiff, Nat.reduceAdd, Nat.reduceMul, Nat.reduceSub, intOf]
  refine ldA Try.underlying23 rfl hN2.blk (by rw [vbs_len, hb, c23]) ?_
  simp only [↓VD, VP, VT, isAggD, reduceCtorEq, Int.reduceEq, Int.reduceNe, Int.reduceLT, Int.reduceLE, implies_true, Nat.reduceEqDiff, reduceIte, ite_true, ite_false, eq_self, Nat.reduceLT, Nat.reduceLeDiff, Nat.reduceAdd, Nat.reduceMul, Nat.reduceSub, intOf]
  refine (DocCommon_ok n a b ha hb w2).mono ?_
  rintro _ w4 ⟨rfl, hE4⟩
  have hEx : Ext w w4 := hN1.ext.trans' (hN2.ext.trans' hE4)
  simp only [↓VD, VP, VT, isAggD, reduceCtorEq, Int.reduceEq, Int.reduceNe, Int.reduceLT, Int.reduceLE, implies_true, Nat.reduceEqDiff, reduceIte, ite_true, ite_false, eq_self, Nat.reduceLT, Nat.reduceLeDiff, Nat.reduceAdd, Nat.reduceMul, Nat.reduceSub, intOf]
  refine ⟨fun h => ?_, fun h => ?_⟩
  · have hc : ¬ chkP n [a, b] = 0 := by unfold comPP at h; split at h <;> simp_all
    have e1 : comPP n a b = (0, chkP n [a, b]) := by unfold comPP; rw [if_neg hc]
    have e : ordP n a b = (0, chkP n [a, b]) := by unfold ordP; rw [if_neg hc]
    rw [e, e1]; exact ⟨rfl, hEx⟩
  · have hc : chkP n [a, b] = 0 := by
      unfold comPP at h; split at h
      · assumption
      · exact h
    have hn := chk_ok hc
    have e1 : comPP n a b = ((comP a b (2 * n.toNat) : Int), 0) := by unfold comPP; rw [if_pos hc]
    have e : ordP n a b = (if comP a b (2 * n.toNat) = 2 * n.toNat then 0 else if digP a (comP a b (2 * n.toNat)) < digP b (comP a b (2 * n.toNat)) then -1 else 1, 0) := by unfold ordP; rw [if_pos hc]
    rw [e, e1]
    obtain ⟨m, rfl⟩ : ∃ m : Nat, n = m := ⟨n.toNat, by omega⟩
    have hcl := comP_le a b (2 * m)
    have hA4 : Blk w4 w.heap.size 23 (vbs a) := hA.ext hE4
    have hB4 : Blk w4 w1.heap.size 23 (vbs b) := hN2.blk.ext hE4
    rw [w64 (by omega) (by omega)]
    simp only [Int.toNat_natCast]
    refine ⟨fun h1 => ?_, fun h1 => ?_⟩
    · rw [if_pos (by omega)]; exact ⟨rfl, hEx⟩
    · rw [if_neg (by omega)]
      refine drawH (fun x => Blk x w.heap.size 23 (vbs a) ∧ Blk x w1.heap.size 23 (vbs b)) [0, 1, 3, 6, 7, 9, 2, 4, 5, 8, 10, 11, 12, 13] mixed (by decide +kernel) (fun w5 hE5 hh => ⟨⟨hA4.ext hE5, hB4.ext hE5⟩, ?_⟩)
      have hlt : comP a b (2 * m) < 2 * m := by omega
      simp only [↓VD, VP, VT, isAggD, reduceCtorEq, Int.reduceEq, Int.reduceNe, Int.reduceLT, Int.reduceLE, implies_true, Nat.reduceEqDiff, reduceIte, ite_true, ite_false, eq_self, Nat.reduceLT, Nat.reduceLeDiff, Nat.reduceAdd, Nat.reduceMul, Nat.reduceSub, intOf]
      refine loadS_of _ (fun x hx => ldA Try.underlying23 rfl hx.1 (by rw [vbs_len, ha, c23]) rfl) ?_
      simp only [↓VD, VP, VT, isAggD, reduceCtorEq, Int.reduceEq, Int.reduceNe, Int.reduceLT, Int.reduceLE, implies_true, Nat.reduceEqDiff, reduceIte, ite_true, ite_false, eq_self, Nat.reduceLT, Nat.reduceLeDiff, Nat.reduceAdd, Nat.reduceMul, Nat.reduceSub, intOf]
      refine loadS_of _ (fun x hx => ldA Try.underlying23 rfl hx.2 (by rw [vbs_len, hb, c23]) rfl) ?_
      simp only [↓VD, VP, VT, isAggD, reduceCtorEq, Int.reduceEq, Int.reduceNe, Int.reduceLT, Int.reduceLE, implies_true, Nat.reduceEqDiff, reduceIte, ite_true, ite_false, eq_self, Nat.reduceLT, Nat.reduceLeDiff, Nat.reduceAdd, Nat.reduceMul, Nat.reduceSub, intOf]
      refine (Digits_ok m (by omega) a ha w5).mono ?_
      rintro va w6 ⟨hoa, hE6⟩
      refine told (fun x => Ext w6 x) ⟨(hA4.ext hE5).ext hE6, (hB4.ext hE5).ext hE6⟩ (Ext.rfl' w6) ?_
      obtain ⟨xa, oa, ca, rfl, hnca, hcma, hca⟩ := digs_open hoa (by omega)
      simp only [↓VD, VP, VT, isAggD, reduceCtorEq, Int.reduceEq, Int.reduceNe, Int.reduceLT, Int.reduceLE, implies_true, Nat.reduceEqDiff, reduceIte, ite_true, ite_false, eq_self, Nat.reduceLT, Nat.reduceLeDiff, Nat.reduceAdd, Nat.reduceMul, Nat.reduceSub, intOf]
      refine ⟨by omega, by omega, loadS_of _ (fun x hx => ld1 Try.underlying3 rfl (cell_ext hx.2 (hca _ hlt)) rfl) ?_⟩
      simp only [↓VD, VP, VT, isAggD, reduceCtorEq, Int.reduceEq, Int.reduceNe, Int.reduceLT, Int.reduceLE, implies_true, Nat.reduceEqDiff, reduceIte, ite_true, ite_false, eq_self, Nat.reduceLT, Nat.reduceLeDiff, Nat.reduceAdd, Nat.reduceMul, Nat.reduceSub, intOf]
      refine (Digits_ok m (by omega) b hb w6).mono ?_
      rintro vb w7 ⟨hob, hE7⟩
      refine told (fun x => Ext w7 x) ⟨⟨((hA4.ext hE5).ext hE6).ext hE7, ((hB4.ext hE5).ext hE6).ext hE7⟩, hE7⟩ (Ext.rfl' w7) ?_
      obtain ⟨xb, ob, cb, rfl, hncb, hcmb, hcb⟩ := digs_open hob (by omega)
      simp only [↓VD, VP, VT, isAggD, reduceCtorEq, Int.reduceEq, Int.reduceNe, Int.reduceLT, Int.reduceLE, implies_true, Nat.reduceEqDiff, reduceIte, ite_true, ite_false, eq_self, Nat.reduceLT, Nat.reduceLeDiff, Nat.reduceAdd, Nat.reduceMul, Nat.reduceSub, intOf]
      refine ⟨by omega, by omega, loadS_of _ (fun x hx => ld1 Try.underlying3 rfl (cell_ext hx.2 (hcb _ hlt)) rfl) ?_⟩
      simp only [↓VD, VP, VT, isAggD, reduceCtorEq, Int.reduceEq, Int.reduceNe, Int.reduceLT, Int.reduceLE, implies_true, Nat.reduceEqDiff, reduceIte, ite_true, ite_false, eq_self, Nat.reduceLT, Nat.reduceLeDiff, Nat.reduceAdd, Nat.reduceMul, Nat.reduceSub, intOf]
      have hE7' : Ext w w7 := hEx.trans' (hE5.trans' (hE6.trans' hE7))
      refine ⟨fun h2 => ?_, fun h2 => ?_⟩
      · rw [if_pos (by omega)]; exact ⟨rfl, hE7'⟩
      · rw [if_neg (by omega)]; exact ⟨rfl, hE7'⟩

end Go.Proofs.Ytheojegfgcbacaa
