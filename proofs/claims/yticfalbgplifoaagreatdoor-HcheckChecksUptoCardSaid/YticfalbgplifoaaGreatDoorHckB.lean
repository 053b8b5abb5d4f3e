/-
  hcheck.branches. Conditions: as stated in each theorem.
-/
import Derived.Test.YticfalbgplifoaaGreatDoorHck
namespace Go.Proofs.YticfalbgplifoaaGreatDoor
set_option maxRecDepth 100000
open Go Go.RowKit
set_option linter.unusedVariables false
set_option linter.unusedSimpArgs false

def stepOk (n : Int) (k : List UInt8) (i : Nat) (last : Prop) (np bm nk : Nat) : Prop :=
  cntB bm ≠ 0 ∧ (hasB bm (atP n k i).1 = true → nk + 1 = cntB bm ∧ ¬ (last ∧ np = 0)) ∧ (hasB bm (atP n k i).1 = false → last ∧ nk = cntB bm ∧ np = 0) ∧ ¬ (last ∧ 0 < np ∧ cntB bm = 1)
def branchesP (n : Int) (k : List UInt8) (ss : List SR) (np : Nat) : Prop := (ss.length : Int) ≤ 2 * n ∧ ∀ i s, ss[i]? = some s → stepOk n k i (i + 1 = ss.length) np s.bm s.ks.length

theorem branches_ok (n : Int) (hn : widB n = true) (k : List UInt8) (hk : k.length = 32) (sv pv : Value) (ss : List SR) (ps : List PR) (w : World) (hs : StepsAt w sv ss) (hp : PairsAt w pv ps) :
    CallK Tryz.prog 23 [.int .i64 n, .agg (vbs k).toArray, .agg [sv, pv].toArray].toArray w fun v w' => ∃ t, v = .bool t ∧ (t = true ↔ branchesP n k ss ps.length) ∧ Ext w w' := by
  have hw := (widB_iff n).1 hn
  obtain ⟨⟨a, c, rfl, hnc, hcm, hc⟩, hss⟩ := hs
  obtain ⟨ap, cp, rfl⟩ := slv_of hp.1
  have hpc : ps.length ≤ cp ∧ cp ≤ 9223372036854775807 := by
    obtain ⟨_, _, e, h1, h2, _⟩ := hp.1
    cases e
    exact ⟨h1, h2⟩
  have h2n : IntKind.i64.wrap (2 * n) = 2 * n := w64 (by omega) (by omega)
  refine enterT Tryz.func23 rfl Tryz.ntmps23 Tryz.results23 rfl (by decide) ?_
  simp only [↓VD, VP, VT, isAggD, reduceCtorEq, Int.reduceEq, Int.reduceNe, Int.reduceLT, Int.reduceLE, implies_true, Nat.reduceEqDiff, reduceIte, ite_true, ite_false, eq_self, Nat.reduceLT, Nat.reduceLeDiff, Nat.reduceAdd, Nat.reduceMul, Nat.reduceSub, intOf]
  intro w1 hN1 w2 hN2
  have s1 := hN1.size
  have s2 := hN2.size
  have hB4 := hN1.blk.ext hN2.ext
  have hB5 := hN2.blk
  have hE2 : Ext w w2 := hN1.ext.trans' hN2.ext
  generalize w1.heap.size = b5 at *
  refine ldAt (pre := []) (post := [.slice ap ps.length cp]) Tryz.underlying23 rfl hB5 rfl ?_
  simp only [↓VD, VP, VT, isAggD, reduceCtorEq, Int.reduceEq, Int.reduceNe, Int.reduceLT, Int.reduceLE, implies_true, Nat.reduceEqDiff, reduceIte, ite_true, ite_false, eq_self, Nat.reduceLT, Nat.reduceLeDiff, Nat.reduceAdd, Nat.reduceMul, Nat.reduceSub, intOf, h2n]
  refine ⟨fun hgt => ?_, fun hle => ?_⟩
  · exact ⟨⟨False.elim, fun h => by have := h.1; omega⟩, hE2⟩
  refine ldAt (pre := []) (post := [.slice ap ps.length cp]) Tryz.underlying23 rfl hB5 rfl ?_
  simp only [↓VD, VP, VT, isAggD, reduceCtorEq, Int.reduceEq, Int.reduceNe, Int.reduceLT, Int.reduceLE, implies_true, Nat.reduceEqDiff, reduceIte, ite_true, ite_false, eq_self, Nat.reduceLT, Nat.reduceLeDiff, Nat.reduceAdd, Nat.reduceMul, Nat.reduceSub, intOf]
  refine loopT (fun s' w' => Ext w2 w' ∧ ∃ i : Nat, i ≤ ss.length ∧ s' 0 = .int .i64 n ∧ s' 4 = .pointer (some ⟨w.heap.size, 0, none⟩) ∧ s' 5 = .pointer (some ⟨b5, 0, none⟩) ∧ s' 19 = .slice a ss.length c ∧ s' 20 = .int .i64 ss.length ∧ s' 21 = .int .i64 i ∧
      ∀ j s, j < i → ss[j]? = some s → stepOk n k j (j + 1 = ss.length) ps.length s.bm s.ks.length) (fun s' _ => ss.length - (intOf (s' 21)).toNat) ?_ ?_
  · simp only [↓VD, VP, VT, isAggD, reduceCtorEq, Int.reduceEq, Int.reduceNe, Int.reduceLT, Int.reduceLE, implies_true, Nat.reduceEqDiff, reduceIte, ite_true, ite_false, eq_self, Nat.reduceLT, Nat.reduceLeDiff, Nat.reduceAdd, Nat.reduceMul, Nat.reduceSub, intOf]
    exact ⟨Ext.rfl' w2, 0, by omega, rfl, fun j s h => by omega⟩
  · rintro s3 w3 ⟨hE3, i, hi, h0, h4, h5, h19, h20, h21, hz⟩
    simp only [↓VD, VP, VT, isAggD, reduceCtorEq, Int.reduceEq, Int.reduceNe, Int.reduceLT, Int.reduceLE, implies_true, Nat.reduceEqDiff, reduceIte, ite_true, ite_false, eq_self, Nat.reduceLT, Nat.reduceLeDiff, Nat.reduceAdd, Nat.reduceMul, Nat.reduceSub, intOf, h0, h4, h5, h19, h20, h21]
    refine ⟨fun hlt => ?_, fun hge => ?_⟩
    · have hlt' : i < ss.length := by omega
      rcases hc with hc | ⟨b, o, rfl, hc⟩
      · exfalso
        cases ss with
        | nil => simp at hlt'
        | cons d ds => simp [SR.cells] at hc
      obtain ⟨x, hx⟩ : ∃ x, ss[i]? = some x := ⟨_, List.getElem?_eq_getElem hlt'⟩
      obtain ⟨hbm, hdk⟩ := hss x (List.mem_of_getElem? hx)
      have hc1 : ∀ j u, (ss.flatMap SR.cells)[j]? = some u → w3.cell? ⟨b, o + j, none⟩ = some u := fun j u hj => by rw [hE3.cell (block_lt_of_cell (hE2.cell (block_lt_of_cell (hc j u hj)) ▸ hc j u hj)), hE2.cell (block_lt_of_cell (hc j u hj))]; exact hc j u hj
      simp only [↓VD, VP, VT, isAggD, reduceCtorEq, Int.reduceEq, Int.reduceNe, Int.reduceLT, Int.reduceLE, implies_true, Nat.reduceEqDiff, reduceIte, ite_true, ite_false, eq_self, Nat.reduceLT, Nat.reduceLeDiff, Nat.reduceAdd, Nat.reduceMul, Nat.reduceSub, intOf]
      refine ⟨by omega, by omega, ldE (f := SR.cells) c56 Tryz.underlying56 rfl (fun d h => rfl) hc1 hx ?_⟩
      simp only [↓VD, VP, VT, isAggD, reduceCtorEq, Int.reduceEq, Int.reduceNe, Int.reduceLT, Int.reduceLE, implies_true, Nat.reduceEqDiff, reduceIte, ite_true, ite_false, eq_self, Nat.reduceLT, Nat.reduceLeDiff, Nat.reduceAdd, Nat.reduceMul, Nat.reduceSub, intOf]
      intro w4 hN4
      obtain ⟨ak, ck, hkv⟩ := slv_of hdk.2
      refine stAll hN4.blk (vs := x.cells) rfl (by rw [c56]; decide) (by rw [c56]; rfl) (by rw [c56]; rfl) (by rw [SR.cells, hkv]; simp [oneCellV]) (fun w5 hP5 => ?_)
      simp only [↓VD, VP, VT, isAggD, reduceCtorEq, Int.reduceEq, Int.reduceNe, Int.reduceLT, Int.reduceLE, implies_true, Nat.reduceEqDiff, reduceIte, ite_true, ite_false, eq_self, Nat.reduceLT, Nat.reduceLeDiff, Nat.reduceAdd, Nat.reduceMul, Nat.reduceSub, intOf, h0, h4, h5, h19, h20, h21]
      have hE5 : Ext w2 w5 := hE3.trans' (hN4.ext.trans (hP5.below (Nat.le_refl _)))
      have hE5' : Ext w w5 := hE2.trans' hE5
      obtain ⟨kv, bm, ks⟩ := x
      simp only at hkv hdk hbm
      subst hkv
      have hkl : ks.length ≤ 9223372036854775807 := by
        obtain ⟨_, _, _, e, h1, h2, _⟩ := hdk
        cases e
        omega
      have hB8 : Blk w5 w3.heap.size 56 [.int .u16 bm, .slice ak ks.length ck] := hP5.blk
      replace hB4 := hB4.ext hE5
      replace hB5 := hB5.ext hE5
      have s3 := hE3.size
      generalize w3.heap.size = b8 at *
      refine ldAt (pre := []) (post := [.slice ak ks.length ck]) Tryz.underlying53 rfl hB8 rfl ?_
      simp only [↓VD, VP, VT, isAggD, reduceCtorEq, Int.reduceEq, Int.reduceNe, Int.reduceLT, Int.reduceLE, implies_true, Nat.reduceEqDiff, reduceIte, ite_true, ite_false, eq_self, Nat.reduceLT, Nat.reduceLeDiff, Nat.reduceAdd, Nat.reduceMul, Nat.reduceSub, intOf, h0, h4, h5, h19, h20, h21]
      refine (Count_ok bm hbm w5).mono ?_
      rintro _ w6 ⟨rfl, hE6⟩
      simp only [↓VD, VP, VT, isAggD, reduceCtorEq, Int.reduceEq, Int.reduceNe, Int.reduceLT, Int.reduceLE, implies_true, Nat.reduceEqDiff, reduceIte, ite_true, ite_false, eq_self, Nat.reduceLT, Nat.reduceLeDiff, Nat.reduceAdd, Nat.reduceMul, Nat.reduceSub, intOf, h0, h4, h5, h19, h20, h21]
      refine ldAt (pre := []) (post := [.slice ap ps.length cp]) Tryz.underlying23 rfl (hB5.ext hE6) rfl ?_
      have hl1 : IntKind.i64.wrap ((ss.length : Int) - 1) = ((ss.length - 1 : Nat) : Int) := by rw [w64 (by omega) (by omega)]; omega
      simp only [↓VD, VP, VT, isAggD, reduceCtorEq, Int.reduceEq, Int.reduceNe, Int.reduceLT, Int.reduceLE, implies_true, Nat.reduceEqDiff, reduceIte, ite_true, ite_false, eq_self, Nat.reduceLT, Nat.reduceLeDiff, Nat.reduceAdd, Nat.reduceMul, Nat.reduceSub, intOf, h0, h4, h5, h19, h20, h21, hl1]
      refine drawT mixed (by decide +kernel) ?_
      simp only [↓VD, VP, VT, isAggD, reduceCtorEq, Int.reduceEq, Int.reduceNe, Int.reduceLT, Int.reduceLE, implies_true, Nat.reduceEqDiff, reduceIte, ite_true, ite_false, eq_self, Nat.reduceLT, Nat.reduceLeDiff, Nat.reduceAdd, Nat.reduceMul, Nat.reduceSub, intOf, h0, h4, h5, h19, h20, h21]
      refine ldAt (pre := []) (post := [.slice ak ks.length ck]) Tryz.underlying53 rfl (hB8.ext hE6) rfl ?_
      simp only [↓VD, VP, VT, isAggD, reduceCtorEq, Int.reduceEq, Int.reduceNe, Int.reduceLT, Int.reduceLE, implies_true, Nat.reduceEqDiff, reduceIte, ite_true, ite_false, eq_self, Nat.reduceLT, Nat.reduceLeDiff, Nat.reduceAdd, Nat.reduceMul, Nat.reduceSub, intOf, h0, h4, h5, h19, h20, h21]
      refine ldA Tryz.underlying28 rfl (hB4.ext hE6) (by rw [vbs_len, hk, c28]) ?_
      simp only [↓VD, VP, VT, isAggD, reduceCtorEq, Int.reduceEq, Int.reduceNe, Int.reduceLT, Int.reduceLE, implies_true, Nat.reduceEqDiff, reduceIte, ite_true, ite_false, eq_self, Nat.reduceLT, Nat.reduceLeDiff, Nat.reduceAdd, Nat.reduceMul, Nat.reduceSub, intOf, h0, h4, h5, h19, h20, h21]
      refine qcall _ (fun w' _ => child_ok n k hk i w') ?_
      simp only [↓VD, VP, VT, isAggD, reduceCtorEq, Int.reduceEq, Int.reduceNe, Int.reduceLT, Int.reduceLE, implies_true, Nat.reduceEqDiff, reduceIte, ite_true, ite_false, eq_self, Nat.reduceLT, Nat.reduceLeDiff, Nat.reduceAdd, Nat.reduceMul, Nat.reduceSub, intOf, h0, h4, h5, h19, h20, h21]
      refine qcall _ (fun w' _ => Has_ok bm hbm (atP n k i).1 w') ?_
      simp only [↓VD, VP, VT, isAggD, reduceCtorEq, Int.reduceEq, Int.reduceNe, Int.reduceLT, Int.reduceLE, implies_true, Nat.reduceEqDiff, reduceIte, ite_true, ite_false, eq_self, Nat.reduceLT, Nat.reduceLeDiff, Nat.reduceAdd, Nat.reduceMul, Nat.reduceSub, intOf, h0, h4, h5, h19, h20, h21]
      intro w7 hE7
      have hA8 := (hB8.ext hE6).ext hE7
      have hA5 := (hB5.ext hE6).ext hE7
      have hc16 : cntB bm ≤ 16 := by have := List.length_filter_le (fun j => bm.testBit j) (List.range 16); simpa [cntB, setB] using this
      refine ⟨fun h0c => ?_, fun hcn => ?_⟩
      · refine ⟨⟨False.elim, fun hP => ?_⟩, hE5'.trans' (hE6.trans' hE7)⟩
        have hq := hP.2 i _ hx
        exact hq.1 (show cntB bm = 0 from by omega)
      have hcw : IntKind.i64.wrap ((cntB bm : Int) - 1) = ((cntB bm - 1 : Nat) : Int) := by rw [w64 (by omega) (by omega)]; omega
      have hcn' : cntB bm ≠ 0 := fun h => hcn (by omega)
      cases hh : hasB bm (atP n k i).1
      · by_cases hl : i + 1 = ss.length
        · have hli : ((i : Int) = ((ss.length - 1 : Nat) : Int)) = True := eq_true (by omega)
          simp only [↓VD, VP, VT, isAggD, reduceCtorEq, Int.reduceEq, Int.reduceNe, Int.reduceLT, Int.reduceLE, implies_true, Nat.reduceEqDiff, reduceIte, ite_true, ite_false, eq_self, Nat.reduceLT, Nat.reduceLeDiff, Nat.reduceAdd, Nat.reduceMul, Nat.reduceSub, intOf, h0, h4, h5, h19, h20, h21, hh, hli, hcw]
          refine ldAt (pre := [.int .u16 bm]) (post := []) Tryz.underlying54 rfl hA8 rfl ?_
          by_cases hkc : ks.length = cntB bm
          · have hk1 : ((ks.length : Int) = (cntB bm : Int)) = True := eq_true (by omega)
            simp only [↓VD, VP, VT, isAggD, reduceCtorEq, Int.reduceEq, Int.reduceNe, Int.reduceLT, Int.reduceLE, implies_true, Nat.reduceEqDiff, reduceIte, ite_true, ite_false, eq_self, Nat.reduceLT, Nat.reduceLeDiff, Nat.reduceAdd, Nat.reduceMul, Nat.reduceSub, intOf, h0, h4, h5, h19, h20, h21, hh, hli, hcw, hk1]
            refine ldAt (pre := [.slice (some ⟨b, o, none⟩) ss.length c]) (post := []) Tryz.underlying24 rfl hA5 rfl ?_
            by_cases hnp : ps.length = 0
            · have hp1 : (0 < (ps.length : Int)) = False := eq_false (by omega)
              simp only [↓VD, VP, VT, isAggD, reduceCtorEq, Int.reduceEq, Int.reduceNe, Int.reduceLT, Int.reduceLE, implies_true, Nat.reduceEqDiff, reduceIte, ite_true, ite_false, eq_self, Nat.reduceLT, Nat.reduceLeDiff, Nat.reduceAdd, Nat.reduceMul, Nat.reduceSub, intOf, h0, h4, h5, h19, h20, h21, hh, hli, hcw, hk1, hp1]
              refine ldAt (pre := [.slice (some ⟨b, o, none⟩) ss.length c]) (post := []) Tryz.underlying24 rfl hA5 rfl ?_
              simp only [↓VD, VP, VT, isAggD, reduceCtorEq, Int.reduceEq, Int.reduceNe, Int.reduceLT, Int.reduceLE, implies_true, Nat.reduceEqDiff, reduceIte, ite_true, ite_false, eq_self, Nat.reduceLT, Nat.reduceLeDiff, Nat.reduceAdd, Nat.reduceMul, Nat.reduceSub, intOf, h0, h4, h5, h19, h20, h21, hh, hli, hcw, hk1, hp1]
              refine ⟨⟨hE5.trans' (hE6.trans' hE7), i + 1, by omega, ?_, fun j s hj hs' => ?_⟩, ?_⟩
              · rw [w64 (by omega) (by omega)]; rfl
              · by_cases hji : j < i
                · exact hz j s hji hs'
                · obtain rfl : j = i := by omega
                  rw [hx] at hs'
                  cases hs'
                  exact ⟨hcn', fun h => by simp [hh] at h, fun _ => ⟨hl, hkc, hnp⟩, fun h => by omega⟩
              · rw [w64 (by omega) (by omega)]; omega
            · have hp1 : (0 < (ps.length : Int)) = True := eq_true (by omega)
              simp only [↓VD, VP, VT, isAggD, reduceCtorEq, Int.reduceEq, Int.reduceNe, Int.reduceLT, Int.reduceLE, implies_true, Nat.reduceEqDiff, reduceIte, ite_true, ite_false, eq_self, Nat.reduceLT, Nat.reduceLeDiff, Nat.reduceAdd, Nat.reduceMul, Nat.reduceSub, intOf, h0, h4, h5, h19, h20, h21, hh, hli, hcw, hk1, hp1]
              refine ⟨⟨False.elim, fun hP => ?_⟩, hE5'.trans' (hE6.trans' hE7)⟩
              have hq := hP.2 i _ hx
              exact hnp (hq.2.2.1 hh).2.2
          · have hk1 : ((ks.length : Int) = (cntB bm : Int)) = False := eq_false (by omega)
            simp only [↓VD, VP, VT, isAggD, reduceCtorEq, Int.reduceEq, Int.reduceNe, Int.reduceLT, Int.reduceLE, implies_true, Nat.reduceEqDiff, reduceIte, ite_true, ite_false, eq_self, Nat.reduceLT, Nat.reduceLeDiff, Nat.reduceAdd, Nat.reduceMul, Nat.reduceSub, intOf, h0, h4, h5, h19, h20, h21, hh, hli, hcw, hk1]
            refine ⟨⟨False.elim, fun hP => ?_⟩, hE5'.trans' (hE6.trans' hE7)⟩
            have hq := hP.2 i _ hx
            exact hkc (hq.2.2.1 hh).2.1
        · have hli : ((i : Int) = ((ss.length - 1 : Nat) : Int)) = False := eq_false (by omega)
          simp only [↓VD, VP, VT, isAggD, reduceCtorEq, Int.reduceEq, Int.reduceNe, Int.reduceLT, Int.reduceLE, implies_true, Nat.reduceEqDiff, reduceIte, ite_true, ite_false, eq_self, Nat.reduceLT, Nat.reduceLeDiff, Nat.reduceAdd, Nat.reduceMul, Nat.reduceSub, intOf, h0, h4, h5, h19, h20, h21, hh, hli, hcw]
          refine ⟨⟨False.elim, fun hP => ?_⟩, hE5'.trans' (hE6.trans' hE7)⟩
          have hq := hP.2 i _ hx
          exact hl (hq.2.2.1 hh).1
      · simp only [↓VD, VP, VT, isAggD, reduceCtorEq, Int.reduceEq, Int.reduceNe, Int.reduceLT, Int.reduceLE, implies_true, Nat.reduceEqDiff, reduceIte, ite_true, ite_false, eq_self, Nat.reduceLT, Nat.reduceLeDiff, Nat.reduceAdd, Nat.reduceMul, Nat.reduceSub, intOf, h0, h4, h5, h19, h20, h21, hh, hcw]
        refine ldAt (pre := [.int .u16 bm]) (post := []) Tryz.underlying54 rfl hA8 rfl ?_
        by_cases hkc : ks.length + 1 = cntB bm
        · have hk1 : ((ks.length : Int) = ((cntB bm - 1 : Nat) : Int)) = True := eq_true (by omega)
          by_cases hl : i + 1 = ss.length
          · have hli : ((i : Int) = ((ss.length - 1 : Nat) : Int)) = True := eq_true (by omega)
            simp only [↓VD, VP, VT, isAggD, reduceCtorEq, Int.reduceEq, Int.reduceNe, Int.reduceLT, Int.reduceLE, implies_true, Nat.reduceEqDiff, reduceIte, ite_true, ite_false, eq_self, Nat.reduceLT, Nat.reduceLeDiff, Nat.reduceAdd, Nat.reduceMul, Nat.reduceSub, intOf, h0, h4, h5, h19, h20, h21, hh, hli, hcw, hk1]
            refine ldAt (pre := [.slice (some ⟨b, o, none⟩) ss.length c]) (post := []) Tryz.underlying24 rfl hA5 rfl ?_
            by_cases hnp : ps.length = 0
            · have hp1 : ((ps.length : Int) = 0) = True := eq_true (by omega)
              simp only [↓VD, VP, VT, isAggD, reduceCtorEq, Int.reduceEq, Int.reduceNe, Int.reduceLT, Int.reduceLE, implies_true, Nat.reduceEqDiff, reduceIte, ite_true, ite_false, eq_self, Nat.reduceLT, Nat.reduceLeDiff, Nat.reduceAdd, Nat.reduceMul, Nat.reduceSub, intOf, h0, h4, h5, h19, h20, h21, hh, hli, hcw, hk1, hp1]
              refine ⟨⟨False.elim, fun hP => ?_⟩, hE5'.trans' (hE6.trans' hE7)⟩
              have hq := hP.2 i _ hx
              exact (hq.2.1 hh).2 ⟨hl, hnp⟩
            · have hp1 : ((ps.length : Int) = 0) = False := eq_false (by omega)
              have hp2 : (0 < (ps.length : Int)) = True := eq_true (by omega)
              simp only [↓VD, VP, VT, isAggD, reduceCtorEq, Int.reduceEq, Int.reduceNe, Int.reduceLT, Int.reduceLE, implies_true, Nat.reduceEqDiff, reduceIte, ite_true, ite_false, eq_self, Nat.reduceLT, Nat.reduceLeDiff, Nat.reduceAdd, Nat.reduceMul, Nat.reduceSub, intOf, h0, h4, h5, h19, h20, h21, hh, hli, hcw, hk1, hp1]
              refine ldAt (pre := [.slice (some ⟨b, o, none⟩) ss.length c]) (post := []) Tryz.underlying24 rfl hA5 rfl ?_
              by_cases hc1' : cntB bm = 1
              · have hp3 : ((cntB bm : Int) = 1) = True := eq_true (by omega)
                simp only [↓VD, VP, VT, isAggD, reduceCtorEq, Int.reduceEq, Int.reduceNe, Int.reduceLT, Int.reduceLE, implies_true, Nat.reduceEqDiff, reduceIte, ite_true, ite_false, eq_self, Nat.reduceLT, Nat.reduceLeDiff, Nat.reduceAdd, Nat.reduceMul, Nat.reduceSub, intOf, h0, h4, h5, h19, h20, h21, hh, hli, hcw, hk1, hp1, hp2, hp3]
                refine ⟨⟨False.elim, fun hP => ?_⟩, hE5'.trans' (hE6.trans' hE7)⟩
                have hq := hP.2 i _ hx
                exact hq.2.2.2 ⟨hl, by omega, hc1'⟩
              · have hp3 : ((cntB bm : Int) = 1) = False := eq_false (by omega)
                simp only [↓VD, VP, VT, isAggD, reduceCtorEq, Int.reduceEq, Int.reduceNe, Int.reduceLT, Int.reduceLE, implies_true, Nat.reduceEqDiff, reduceIte, ite_true, ite_false, eq_self, Nat.reduceLT, Nat.reduceLeDiff, Nat.reduceAdd, Nat.reduceMul, Nat.reduceSub, intOf, h0, h4, h5, h19, h20, h21, hh, hli, hcw, hk1, hp1, hp2, hp3]
                refine ⟨⟨hE5.trans' (hE6.trans' hE7), i + 1, by omega, ?_, fun j s hj hs' => ?_⟩, ?_⟩
                · rw [w64 (by omega) (by omega)]; rfl
                · by_cases hji : j < i
                  · exact hz j s hji hs'
                  · obtain rfl : j = i := by omega
                    rw [hx] at hs'
                    cases hs'
                    exact ⟨hcn', fun _ => ⟨hkc, fun h => hnp h.2⟩, fun h => by simp [hh] at h, fun h => hc1' h.2.2⟩
                · rw [w64 (by omega) (by omega)]; omega
          · have hli : ((i : Int) = ((ss.length - 1 : Nat) : Int)) = False := eq_false (by omega)
            simp only [↓VD, VP, VT, isAggD, reduceCtorEq, Int.reduceEq, Int.reduceNe, Int.reduceLT, Int.reduceLE, implies_true, Nat.reduceEqDiff, reduceIte, ite_true, ite_false, eq_self, Nat.reduceLT, Nat.reduceLeDiff, Nat.reduceAdd, Nat.reduceMul, Nat.reduceSub, intOf, h0, h4, h5, h19, h20, h21, hh, hli, hcw, hk1]
            refine ⟨⟨hE5.trans' (hE6.trans' hE7), i + 1, by omega, ?_, fun j s hj hs' => ?_⟩, ?_⟩
            · rw [w64 (by omega) (by omega)]; rfl
            · by_cases hji : j < i
              · exact hz j s hji hs'
              · obtain rfl : j = i := by omega
                rw [hx] at hs'
                cases hs'
                exact ⟨hcn', fun _ => ⟨hkc, fun h => hl h.1⟩, fun h => by simp [hh] at h, fun h => hl h.1⟩
            · rw [w64 (by omega) (by omega)]; omega
        · have hk1 : ((ks.length : Int) = ((cntB bm - 1 : Nat) : Int)) = False := eq_false (by omega)
          simp only [↓VD, VP, VT, isAggD, reduceCtorEq, Int.reduceEq, Int.reduceNe, Int.reduceLT, Int.reduceLE, implies_true, Nat.reduceEqDiff, reduceIte, ite_true, ite_false, eq_self, Nat.reduceLT, Nat.reduceLeDiff, Nat.reduceAdd, Nat.reduceMul, Nat.reduceSub, intOf, h0, h4, h5, h19, h20, h21, hh, hcw, hk1]
          refine ⟨⟨False.elim, fun hP => ?_⟩, hE5'.trans' (hE6.trans' hE7)⟩
          have hq := hP.2 i _ hx
          exact hkc (hq.2.1 hh).1
    · refine ⟨⟨fun _ => ⟨by omega, fun j s hs' => hz j s ?_ hs'⟩, fun _ => trivial⟩, hE2.trans' hE3⟩
      have := (List.getElem?_eq_some_iff.1 hs').1
      omega
    

end Go.Proofs.YticfalbgplifoaaGreatDoor
