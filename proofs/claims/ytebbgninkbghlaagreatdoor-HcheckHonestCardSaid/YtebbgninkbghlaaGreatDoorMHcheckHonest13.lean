/-
  hcheck.branches. Conditions: as stated in each theorem. hcheck.bucket. Conditions: as stated in each theorem. hcheck.RootOf and hcheck.Check. Conditions: as stated in each theorem. hcheck.Check. Conditions: as stated in each theorem. The statements' helpers bucket and awake (package notarylaw16). Conditions: as stated in each theorem. HcheckAgrees: the walk. Conditions: as stated in each theorem. Plain facts on digests' digits, and: a path that ends in a bucket serves each key with the same digits. Conditions: as stated in each theorem. What a map's own path says: RootOf takes it, it leads to the map's digest, and it says of the key what the map says. Conditions: as stated in each theorem. HcheckHonest: the walk. Conditions: as stated in each theorem. The frame of the rows: a law's row out of its walk, whatever its parameters; digests and numbers opened. Conditions: none; plain lemmas. The frame of rows that list the table and bound the bulk: questions (structs with lists of structs) opened, with their sizes; the table out of the row's list. Conditions: none; plain lemmas. The frame of rows: parameters opened; the table of SHA-256. Conditions: none; plain lemmas.
-/
import Derived.Test.YtebbgninkbghlaaGreatDoorMHcheckHonest12
import Derived.Test.YtebbgninkbghlaaGreatDoorMHcheckHonest11
import Derived.Test.YtebbgninkbghlaaGreatDoorMHcheckHonest10
import Derived.Test.YtebbgninkbghlaaGreatDoorMHcheckHonest9
import Derived.Test.YtebbgninkbghlaaGreatDoorMHcheckHonest7
import Derived.Deep.Slices
import Derived.Lib.LaidTab
import Derived.Lib.SmallJoins
import Derived.Test.YtebbgninkbghlaaGreatDoorMHcheckHonest8
/-! HckB -/
namespace Go.Proofs.YtebbgninkbghlaaGreatDoor
set_option maxRecDepth 100000
open Go Go.RowKit
set_option linter.unusedVariables false
set_option linter.unusedSimpArgs false

def stepOk (n : Int) (k : List UInt8) (i : Nat) (last : Prop) (np bm nk : Nat) : Prop :=
  cntB bm ≠ 0 ∧ (hasB bm (atP n k i).1 = true → nk + 1 = cntB bm ∧ ¬ (last ∧ np = 0)) ∧ (hasB bm (atP n k i).1 = false → last ∧ nk = cntB bm ∧ np = 0) ∧ ¬ (last ∧ 0 < np ∧ cntB bm = 1)
def branchesP (n : Int) (k : List UInt8) (ss : List SR) (np : Nat) : Prop := (ss.length : Int) ≤ 2 * n ∧ ∀ i s, ss[i]? = some s → stepOk n k i (i + 1 = ss.length) np s.bm s.ks.length

theorem branches_ok (n : Int) (hn : widB n = true) (k : List UInt8) (hk : k.length = 32) (sv pv : Value) (ss : List SR) (ps : List PR) (w : World) (hs : StepsAt w sv ss) (hp : PairsAt w pv ps) :
    CallK Tryz.prog 74 [.int .i64 n, .agg (vbs k).toArray, .agg [sv, pv].toArray].toArray w fun v w' => ∃ t, v = .bool t ∧ (t = true ↔ branchesP n k ss ps.length) ∧ Ext w w' := by
  have hw := (widB_iff n).1 hn
  obtain ⟨⟨a, c, rfl, hnc, hcm, hc⟩, hss⟩ := hs
  obtain ⟨ap, cp, rfl⟩ := slv_of hp.1
  have hpc : ps.length ≤ cp ∧ cp ≤ 9223372036854775807 := by
    obtain ⟨_, _, e, h1, h2, _⟩ := hp.1
    cases e
    exact ⟨h1, h2⟩
  have h2n : IntKind.i64.wrap (2 * n) = 2 * n := w64 (by omega) (by omega)
  refine enterT Tryz.func74 rfl Tryz.ntmps74 Tryz.results74 rfl (by decide) ?_
  simp only [↓VD, VP, VT, isAggD, reduceCtorEq, Int.reduceEq, Int.reduceNe, Int.reduceLT, Int.reduceLE, implies_true, Nat.reduceEqDiff, reduceIte, ite_true, ite_false, eq_self, Nat.reduceLT, Nat.reduceLeDiff, Nat.reduceAdd, Nat.reduceMul, Nat.reduceSub, intOf]
  intro w1 hN1 w2 hN2
  have s1 := hN1.size
  have s2 := hN2.size
  have hB4 := hN1.blk.ext hN2.ext
  have hB5 := hN2.blk
  have hE2 : Ext w w2 := hN1.ext.trans' hN2.ext
  generalize w1.heap.size = b5 at *
  refine ldAt (pre := []) (post := [.slice ap ps.length cp]) Tryz.underlying23 rfl hB5 rfl ?_
  simp only [↓VD, VP, VT, isAggD, reduceCtorEq, Int.reduceEq, Int.reduceNe, Int.reduceLT, Int.reduceLE, implies_true, Nat.reduceEqDiff, reduceIte, ite_true, ite_false, eq_self, Nat.reduceLT, Nat.reduceLeDiff, Nat.reduceAdd, Nat.reduceMul, Nat.reduceSub, intOf, h2n]
  refine ⟨fun hgt => ?_, fun hle => ?_⟩
  · exact ⟨⟨False.elim, fun h => by have := h.1; omega⟩, hE2⟩
  refine ldAt (pre := []) (post := [.slice ap ps.length cp]) Tryz.underlying23 rfl hB5 rfl ?_
  simp only [↓VD, VP, VT, isAggD, reduceCtorEq, Int.reduceEq, Int.reduceNe, Int.reduceLT, Int.reduceLE, implies_true, Nat.reduceEqDiff, reduceIte, ite_true, ite_false, eq_self, Nat.reduceLT, Nat.reduceLeDiff, Nat.reduceAdd, Nat.reduceMul, Nat.reduceSub, intOf]
  refine loopT (fun s' w' => Ext w2 w' ∧ ∃ i : Nat, i ≤ ss.length ∧ s' 0 = .int .i64 n ∧ s' 4 = .pointer (some ⟨w.heap.size, 0, none⟩) ∧ s' 5 = .pointer (some ⟨b5, 0, none⟩) ∧ s' 19 = .slice a ss.length c ∧ s' 20 = .int .i64 ss.length ∧ s' 21 = .int .i64 i ∧
      ∀ j s, j < i → ss[j]? = some s → stepOk n k j (j + 1 = ss.length) ps.length s.bm s.ks.length) (fun s' _ => ss.length - (intOf (s' 21)).toNat) ?_ ?_
  · simp only [↓VD, VP, VT, isAggD, reduceCtorEq, Int.reduceEq, Int.reduceNe, Int.reduceLT, Int.reduceLE, implies_true, Nat.reduceEqDiff, reduceIte, ite_true, ite_false, eq_self, Nat.reduceLT, Nat.reduceLeDiff, Nat.reduceAdd, Nat.reduceMul, Nat.reduceSub, intOf]
    exact ⟨Ext.rfl' w2, 0, by omega, rfl, fun j s h => by omega⟩
  · rintro s3 w3 ⟨hE3, i, hi, h0, h4, h5, h19, h20, h21, hz⟩
    simp only [↓VD, VP, VT, isAggD, reduceCtorEq, Int.reduceEq, Int.reduceNe, Int.reduceLT, Int.reduceLE, implies_true, Nat.reduceEqDiff, reduceIte, ite_true, ite_false, eq_self, Nat.reduceLT, Nat.reduceLeDiff, Nat.reduceAdd, Nat.reduceMul, Nat.reduceSub, intOf, h0, h4, h5, h19, h20, h21]
    refine ⟨fun hlt => ?_, fun hge => ?_⟩
    · have hlt' : i < ss.length := by omega
      rcases hc with hc | ⟨b, o, rfl, hc⟩
      · exfalso
        cases ss with
        | nil => simp at hlt'
        | cons d ds => simp [SR.cells] at hc
      obtain ⟨x, hx⟩ : ∃ x, ss[i]? = some x := ⟨_, List.getElem?_eq_getElem hlt'⟩
      obtain ⟨hbm, hdk⟩ := hss x (List.mem_of_getElem? hx)
      have hc1 : ∀ j u, (ss.flatMap SR.cells)[j]? = some u → w3.cell? ⟨b, o + j, none⟩ = some u := fun j u hj => by rw [hE3.cell (block_lt_of_cell (hE2.cell (block_lt_of_cell (hc j u hj)) ▸ hc j u hj)), hE2.cell (block_lt_of_cell (hc j u hj))]; exact hc j u hj
      simp only [↓VD, VP, VT, isAggD, reduceCtorEq, Int.reduceEq, Int.reduceNe, Int.reduceLT, Int.reduceLE, implies_true, Nat.reduceEqDiff, reduceIte, ite_true, ite_false, eq_self, Nat.reduceLT, Nat.reduceLeDiff, Nat.reduceAdd, Nat.reduceMul, Nat.reduceSub, intOf]
      refine ⟨by omega, by omega, ldE (f := SR.cells) c51 Tryz.underlying51 rfl (fun d h => rfl) hc1 hx ?_⟩
      simp only [↓VD, VP, VT, isAggD, reduceCtorEq, Int.reduceEq, Int.reduceNe, Int.reduceLT, Int.reduceLE, implies_true, Nat.reduceEqDiff, reduceIte, ite_true, ite_false, eq_self, Nat.reduceLT, Nat.reduceLeDiff, Nat.reduceAdd, Nat.reduceMul, Nat.reduceSub, intOf]
      intro w4 hN4
      obtain ⟨ak, ck, hkv⟩ := slv_of hdk.2
      refine stAll hN4.blk (vs := x.cells) rfl (by rw [c51]; decide) (by rw [c51]; rfl) (by rw [c51]; rfl) (by rw [SR.cells, hkv]; simp [oneCellV]) (fun w5 hP5 => ?_)
      simp only [↓VD, VP, VT, isAggD, reduceCtorEq, Int.reduceEq, Int.reduceNe, Int.reduceLT, Int.reduceLE, implies_true, Nat.reduceEqDiff, reduceIte, ite_true, ite_false, eq_self, Nat.reduceLT, Nat.reduceLeDiff, Nat.reduceAdd, Nat.reduceMul, Nat.reduceSub, intOf, h0, h4, h5, h19, h20, h21]
      have hE5 : Ext w2 w5 := hE3.trans' (hN4.ext.trans (hP5.below (Nat.le_refl _)))
      have hE5' : Ext w w5 := hE2.trans' hE5
      obtain ⟨kv, bm, ks⟩ := x
      simp only at hkv hdk hbm
      subst hkv
      have hkl : ks.length ≤ 9223372036854775807 := by
        obtain ⟨_, _, _, e, h1, h2, _⟩ := hdk
        cases e
        omega
      have hB8 : Blk w5 w3.heap.size 51 [.int .u16 bm, .slice ak ks.length ck] := hP5.blk
      replace hB4 := hB4.ext hE5
      replace hB5 := hB5.ext hE5
      have s3 := hE3.size
      generalize w3.heap.size = b8 at *
      refine ldAt (pre := []) (post := [.slice ak ks.length ck]) Tryz.underlying48 rfl hB8 rfl ?_
      simp only [↓VD, VP, VT, isAggD, reduceCtorEq, Int.reduceEq, Int.reduceNe, Int.reduceLT, Int.reduceLE, implies_true, Nat.reduceEqDiff, reduceIte, ite_true, ite_false, eq_self, Nat.reduceLT, Nat.reduceLeDiff, Nat.reduceAdd, Nat.reduceMul, Nat.reduceSub, intOf, h0, h4, h5, h19, h20, h21]
      refine (Count_ok bm hbm w5).mono ?_
      rintro _ w6 ⟨rfl, hE6⟩
      simp only [↓VD, VP, VT, isAggD, reduceCtorEq, Int.reduceEq, Int.reduceNe, Int.reduceLT, Int.reduceLE, implies_true, Nat.reduceEqDiff, reduceIte, ite_true, ite_false, eq_self, Nat.reduceLT, Nat.reduceLeDiff, Nat.reduceAdd, Nat.reduceMul, Nat.reduceSub, intOf, h0, h4, h5, h19, h20, h21]
      refine ldAt (pre := []) (post := [.slice ap ps.length cp]) Tryz.underlying23 rfl (hB5.ext hE6) rfl ?_
      have hl1 : IntKind.i64.wrap ((ss.length : Int) - 1) = ((ss.length - 1 : Nat) : Int) := by rw [w64 (by omega) (by omega)]; omega
      simp only [↓VD, VP, VT, isAggD, reduceCtorEq, Int.reduceEq, Int.reduceNe, Int.reduceLT, Int.reduceLE, implies_true, Nat.reduceEqDiff, reduceIte, ite_true, ite_false, eq_self, Nat.reduceLT, Nat.reduceLeDiff, Nat.reduceAdd, Nat.reduceMul, Nat.reduceSub, intOf, h0, h4, h5, h19, h20, h21, hl1]
      refine drawT mixed (by decide +kernel) ?_
      simp only [↓VD, VP, VT, isAggD, reduceCtorEq, Int.reduceEq, Int.reduceNe, Int.reduceLT, Int.reduceLE, implies_true, Nat.reduceEqDiff, reduceIte, ite_true, ite_false, eq_self, Nat.reduceLT, Nat.reduceLeDiff, Nat.reduceAdd, Nat.reduceMul, Nat.reduceSub, intOf, h0, h4, h5, h19, h20, h21]
      refine ldAt (pre := []) (post := [.slice ak ks.length ck]) Tryz.underlying48 rfl (hB8.ext hE6) rfl ?_
      simp only [↓VD, VP, VT, isAggD, reduceCtorEq, Int.reduceEq, Int.reduceNe, Int.reduceLT, Int.reduceLE, implies_true, Nat.reduceEqDiff, reduceIte, ite_true, ite_false, eq_self, Nat.reduceLT, Nat.reduceLeDiff, Nat.reduceAdd, Nat.reduceMul, Nat.reduceSub, intOf, h0, h4, h5, h19, h20, h21]
      refine ldA Tryz.underlying28 rfl (hB4.ext hE6) (by rw [vbs_len, hk, c28]) ?_
      simp only [↓VD, VP, VT, isAggD, reduceCtorEq, Int.reduceEq, Int.reduceNe, Int.reduceLT, Int.reduceLE, implies_true, Nat.reduceEqDiff, reduceIte, ite_true, ite_false, eq_self, Nat.reduceLT, Nat.reduceLeDiff, Nat.reduceAdd, Nat.reduceMul, Nat.reduceSub, intOf, h0, h4, h5, h19, h20, h21]
      refine qcall _ (fun w' _ => child_ok n k hk i w') ?_
      simp only [↓VD, VP, VT, isAggD, reduceCtorEq, Int.reduceEq, Int.reduceNe, Int.reduceLT, Int.reduceLE, implies_true, Nat.reduceEqDiff, reduceIte, ite_true, ite_false, eq_self, Nat.reduceLT, Nat.reduceLeDiff, Nat.reduceAdd, Nat.reduceMul, Nat.reduceSub, intOf, h0, h4, h5, h19, h20, h21]
      refine qcall _ (fun w' _ => Has_ok bm hbm (atP n k i).1 w') ?_
      simp only [↓VD, VP, VT, isAggD, reduceCtorEq, Int.reduceEq, Int.reduceNe, Int.reduceLT, Int.reduceLE, implies_true, Nat.reduceEqDiff, reduceIte, ite_true, ite_false, eq_self, Nat.reduceLT, Nat.reduceLeDiff, Nat.reduceAdd, Nat.reduceMul, Nat.reduceSub, intOf, h0, h4, h5, h19, h20, h21]
      intro w7 hE7
      have hA8 := (hB8.ext hE6).ext hE7
      have hA5 := (hB5.ext hE6).ext hE7
      have hc16 : cntB bm ≤ 16 := by have := List.length_filter_le (fun j => bm.testBit j) (List.range 16); simpa [cntB, setB] using this
      refine ⟨fun h0c => ?_, fun hcn => ?_⟩
      · refine ⟨⟨False.elim, fun hP => ?_⟩, hE5'.trans' (hE6.trans' hE7)⟩
        have hq := hP.2 i _ hx
        exact hq.1 (show cntB bm = 0 from by omega)
      have hcw : IntKind.i64.wrap ((cntB bm : Int) - 1) = ((cntB bm - 1 : Nat) : Int) := by rw [w64 (by omega) (by omega)]; omega
      have hcn' : cntB bm ≠ 0 := fun h => hcn (by omega)
      cases hh : hasB bm (atP n k i).1
      · by_cases hl : i + 1 = ss.length
        · have hli : ((i : Int) = ((ss.length - 1 : Nat) : Int)) = True := eq_true (by omega)
          simp only [↓VD, VP, VT, isAggD, reduceCtorEq, Int.reduceEq, Int.reduceNe, Int.reduceLT, Int.reduceLE, implies_true, Nat.reduceEqDiff, reduceIte, ite_true, ite_false, eq_self, Nat.reduceLT, Nat.reduceLeDiff, Nat.reduceAdd, Nat.reduceMul, Nat.reduceSub, intOf, h0, h4, h5, h19, h20, h21, hh, hli, hcw]
          refine ldAt (pre := [.int .u16 bm]) (post := []) Tryz.underlying49 rfl hA8 rfl ?_
          by_cases hkc : ks.length = cntB bm
          · have hk1 : ((ks.length : Int) = (cntB bm : Int)) = True := eq_true (by omega)
            simp only [↓VD, VP, VT, isAggD, reduceCtorEq, Int.reduceEq, Int.reduceNe, Int.reduceLT, Int.reduceLE, implies_true, Nat.reduceEqDiff, reduceIte, ite_true, ite_false, eq_self, Nat.reduceLT, Nat.reduceLeDiff, Nat.reduceAdd, Nat.reduceMul, Nat.reduceSub, intOf, h0, h4, h5, h19, h20, h21, hh, hli, hcw, hk1]
            refine ldAt (pre := [.slice (some ⟨b, o, none⟩) ss.length c]) (post := []) Tryz.underlying24 rfl hA5 rfl ?_
            by_cases hnp : ps.length = 0
            · have hp1 : (0 < (ps.length : Int)) = False := eq_false (by omega)
              simp only [↓VD, VP, VT, isAggD, reduceCtorEq, Int.reduceEq, Int.reduceNe, Int.reduceLT, Int.reduceLE, implies_true, Nat.reduceEqDiff, reduceIte, ite_true, ite_false, eq_self, Nat.reduceLT, Nat.reduceLeDiff, Nat.reduceAdd, Nat.reduceMul, Nat.reduceSub, intOf, h0, h4, h5, h19, h20, h21, hh, hli, hcw, hk1, hp1]
              refine ldAt (pre := [.slice (some ⟨b, o, none⟩) ss.length c]) (post := []) Tryz.underlying24 rfl hA5 rfl ?_
              simp only [↓VD, VP, VT, isAggD, reduceCtorEq, Int.reduceEq, Int.reduceNe, Int.reduceLT, Int.reduceLE, implies_true, Nat.reduceEqDiff, reduceIte, ite_true, ite_false, eq_self, Nat.reduceLT, Nat.reduceLeDiff, Nat.reduceAdd, Nat.reduceMul, Nat.reduceSub, intOf, h0, h4, h5, h19, h20, h21, hh, hli, hcw, hk1, hp1]
              refine ⟨⟨hE5.trans' (hE6.trans' hE7), i + 1, by omega, ?_, fun j s hj hs' => ?_⟩, ?_⟩
              · rw [w64 (by omega) (by omega)]; rfl
              · by_cases hji : j < i
                · exact hz j s hji hs'
                · obtain rfl : j = i := by omega
                  rw [hx] at hs'
                  cases hs'
                  exact ⟨hcn', fun h => by simp [hh] at h, fun _ => ⟨hl, hkc, hnp⟩, fun h => by omega⟩
              · rw [w64 (by omega) (by omega)]; omega
            · have hp1 : (0 < (ps.length : Int)) = True := eq_true (by omega)
              simp only [↓VD, VP, VT, isAggD, reduceCtorEq, Int.reduceEq, Int.reduceNe, Int.reduceLT, Int.reduceLE, implies_true, Nat.reduceEqDiff, reduceIte, ite_true, ite_false, eq_self, Nat.reduceLT, Nat.reduceLeDiff, Nat.reduceAdd, Nat.reduceMul, Nat.reduceSub, intOf, h0, h4, h5, h19, h20, h21, hh, hli, hcw, hk1, hp1]
              refine ⟨⟨False.elim, fun hP => ?_⟩, hE5'.trans' (hE6.trans' hE7)⟩
              have hq := hP.2 i _ hx
              exact hnp (hq.2.2.1 hh).2.2
          · have hk1 : ((ks.length : Int) = (cntB bm : Int)) = False := eq_false (by omega)
            simp only [↓VD, VP, VT, isAggD, reduceCtorEq, Int.reduceEq, Int.reduceNe, Int.reduceLT, Int.reduceLE, implies_true, Nat.reduceEqDiff, reduceIte, ite_true, ite_false, eq_self, Nat.reduceLT, Nat.reduceLeDiff, Nat.reduceAdd, Nat.reduceMul, Nat.reduceSub, intOf, h0, h4, h5, h19, h20, h21, hh, hli, hcw, hk1]
            refine ⟨⟨False.elim, fun hP => ?_⟩, hE5'.trans' (hE6.trans' hE7)⟩
            have hq := hP.2 i _ hx
            exact hkc (hq.2.2.1 hh).2.1
        · have hli : ((i : Int) = ((ss.length - 1 : Nat) : Int)) = False := eq_false (by omega)
          simp only [↓VD, VP, VT, isAggD, reduceCtorEq, Int.reduceEq, Int.reduceNe, Int.reduceLT, Int.reduceLE, implies_true, Nat.reduceEqDiff, reduceIte, ite_true, ite_false, eq_self, Nat.reduceLT, Nat.reduceLeDiff, Nat.reduceAdd, Nat.reduceMul, Nat.reduceSub, intOf, h0, h4, h5, h19, h20, h21, hh, hli, hcw]
          refine ⟨⟨False.elim, fun hP => ?_⟩, hE5'.trans' (hE6.trans' hE7)⟩
          have hq := hP.2 i _ hx
          exact hl (hq.2.2.1 hh).1
      · simp only [↓VD, VP, VT, isAggD, reduceCtorEq, Int.reduceEq, Int.reduceNe, Int.reduceLT, Int.reduceLE, implies_true, Nat.reduceEqDiff, reduceIte, ite_true, ite_false, eq_self, Nat.reduceLT, Nat.reduceLeDiff, Nat.reduceAdd, Nat.reduceMul, Nat.reduceSub, intOf, h0, h4, h5, h19, h20, h21, hh, hcw]
        refine ldAt (pre := [.int .u16 bm]) (post := []) Tryz.underlying49 rfl hA8 rfl ?_
        by_cases hkc : ks.length + 1 = cntB bm
        · have hk1 : ((ks.length : Int) = ((cntB bm - 1 : Nat) : Int)) = True := eq_true (by omega)
          by_cases hl : i + 1 = ss.length
          · have hli : ((i : Int) = ((ss.length - 1 : Nat) : Int)) = True := eq_true (by omega)
            simp only [↓VD, VP, VT, isAggD, reduceCtorEq, Int.reduceEq, Int.reduceNe, Int.reduceLT, Int.reduceLE, implies_true, Nat.reduceEqDiff, reduceIte, ite_true, ite_false, eq_self, Nat.reduceLT, Nat.reduceLeDiff, Nat.reduceAdd, Nat.reduceMul, Nat.reduceSub, intOf, h0, h4, h5, h19, h20, h21, hh, hli, hcw, hk1]
            refine ldAt (pre := [.slice (some ⟨b, o, none⟩) ss.length c]) (post := []) Tryz.underlying24 rfl hA5 rfl ?_
            by_cases hnp : ps.length = 0
            · have hp1 : ((ps.length : Int) = 0) = True := eq_true (by omega)
              simp only [↓VD, VP, VT, isAggD, reduceCtorEq, Int.reduceEq, Int.reduceNe, Int.reduceLT, Int.reduceLE, implies_true, Nat.reduceEqDiff, reduceIte, ite_true, ite_false, eq_self, Nat.reduceLT, Nat.reduceLeDiff, Nat.reduceAdd, Nat.reduceMul, Nat.reduceSub, intOf, h0, h4, h5, h19, h20, h21, hh, hli, hcw, hk1, hp1]
              refine ⟨⟨False.elim, fun hP => ?_⟩, hE5'.trans' (hE6.trans' hE7)⟩
              have hq := hP.2 i _ hx
              exact (hq.2.1 hh).2 ⟨hl, hnp⟩
            · have hp1 : ((ps.length : Int) = 0) = False := eq_false (by omega)
              have hp2 : (0 < (ps.length : Int)) = True := eq_true (by omega)
              simp only [↓VD, VP, VT, isAggD, reduceCtorEq, Int.reduceEq, Int.reduceNe, Int.reduceLT, Int.reduceLE, implies_true, Nat.reduceEqDiff, reduceIte, ite_true, ite_false, eq_self, Nat.reduceLT, Nat.reduceLeDiff, Nat.reduceAdd, Nat.reduceMul, Nat.reduceSub, intOf, h0, h4, h5, h19, h20, h21, hh, hli, hcw, hk1, hp1]
              refine ldAt (pre := [.slice (some ⟨b, o, none⟩) ss.length c]) (post := []) Tryz.underlying24 rfl hA5 rfl ?_
              by_cases hc1' : cntB bm = 1
              · have hp3 : ((cntB bm : Int) = 1) = True := eq_true (by omega)
                simp only [↓VD, VP, VT, isAggD, reduceCtorEq, Int.reduceEq, Int.reduceNe, Int.reduceLT, Int.reduceLE, implies_true, Nat.reduceEqDiff, reduceIte, ite_true, ite_false, eq_self, Nat.reduceLT, Nat.reduceLeDiff, Nat.reduceAdd, Nat.reduceMul, Nat.reduceSub, intOf, h0, h4, h5, h19, h20, h21, hh, hli, hcw, hk1, hp1, hp2, hp3]
                refine ⟨⟨False.elim, fun hP => ?_⟩, hE5'.trans' (hE6.trans' hE7)⟩
                have hq := hP.2 i _ hx
                exact hq.2.2.2 ⟨hl, by omega, hc1'⟩
              · have hp3 : ((cntB bm : Int) = 1) = False := eq_false (by omega)
                simp only [↓VD, VP, VT, isAggD, reduceCtorEq, Int.reduceEq, Int.reduceNe, Int.reduceLT, Int.reduceLE, implies_true, Nat.reduceEqDiff, reduceIte, ite_true, ite_false, eq_self, Nat.reduceLT, Nat.reduceLeDiff, Nat.reduceAdd, Nat.reduceMul, Nat.reduceSub, intOf, h0, h4, h5, h19, h20, h21, hh, hli, hcw, hk1, hp1, hp2, hp3]
                refine ⟨⟨hE5.trans' (hE6.trans' hE7), i + 1, by omega, ?_, fun j s hj hs' => ?_⟩, ?_⟩
                · rw [w64 (by omega) (by omega)]; rfl
                · by_cases hji : j < i
                  · exact hz j s hji hs'
                  · obtain rfl : j = i := by omega
                    rw [hx] at hs'
                    cases hs'
                    exact ⟨hcn', fun _ => ⟨hkc, fun h => hnp h.2⟩, fun h => by simp [hh] at h, fun h => hc1' h.2.2⟩
                · rw [w64 (by omega) (by omega)]; omega
          · have hli : ((i : Int) = ((ss.length - 1 : Nat) : Int)) = False := eq_false (by omega)
            simp only [↓VD, VP, VT, isAggD, reduceCtorEq, Int.reduceEq, Int.reduceNe, Int.reduceLT, Int.reduceLE, implies_true, Nat.reduceEqDiff, reduceIte, ite_true, ite_false, eq_self, Nat.reduceLT, Nat.reduceLeDiff, Nat.reduceAdd, Nat.reduceMul, Nat.reduceSub, intOf, h0, h4, h5, h19, h20, h21, hh, hli, hcw, hk1]
            refine ⟨⟨hE5.trans' (hE6.trans' hE7), i + 1, by omega, ?_, fun j s hj hs' => ?_⟩, ?_⟩
            · rw [w64 (by omega) (by omega)]; rfl
            · by_cases hji : j < i
              · exact hz j s hji hs'
              · obtain rfl : j = i := by omega
                rw [hx] at hs'
                cases hs'
                exact ⟨hcn', fun _ => ⟨hkc, fun h => hl h.1⟩, fun h => by simp [hh] at h, fun h => hl h.1⟩
            · rw [w64 (by omega) (by omega)]; omega
        · have hk1 : ((ks.length : Int) = ((cntB bm - 1 : Nat) : Int)) = False := eq_false (by omega)
          simp only [↓VD, VP, VT, isAggD, reduceCtorEq, Int.reduceEq, Int.reduceNe, Int.reduceLT, Int.reduceLE, implies_true, Nat.reduceEqDiff, reduceIte, ite_true, ite_false, eq_self, Nat.reduceLT, Nat.reduceLeDiff, Nat.reduceAdd, Nat.reduceMul, Nat.reduceSub, intOf, h0, h4, h5, h19, h20, h21, hh, hcw, hk1]
          refine ⟨⟨False.elim, fun hP => ?_⟩, hE5'.trans' (hE6.trans' hE7)⟩
          have hq := hP.2 i _ hx
          exact hkc (hq.2.1 hh).1
    · refine ⟨⟨fun _ => ⟨by omega, fun j s hs' => hz j s ?_ hs'⟩, fun _ => trivial⟩, hE2.trans' hE3⟩
      have := (List.getElem?_eq_some_iff.1 hs').1
      omega
    

end Go.Proofs.YtebbgninkbghlaaGreatDoor

/-! HckC -/
namespace Go.Proofs.YtebbgninkbghlaaGreatDoor
set_option maxRecDepth 100000
open Go Go.RowKit
set_option linter.unusedVariables false
set_option linter.unusedSimpArgs false


/-- A field of an element of a slice. -/
theorem ldF {α : Type} {f : α → List Value} {P : Program} {T : TypeId} {w : World} {b o i j sz q : Nat} {K : Value → Prop} {ds : List α} {x : α} {d : TypeDesc} {v : Value} (hu : P.underlying T = some d) (ha : isAggD d = false)
    (hs : ∀ d ∈ ds, (f d).length = sz) (hc : ∀ j u, (ds.flatMap f)[j]? = some u → w.cell? ⟨b, o + j, none⟩ = some u) (hi : ds[i]? = some x) (hj : (f x)[j]? = some v) (hq : q = o + (i * sz + j)) (hK : K v) : vcLoad P T w b q K := by
  subst hq
  exact ld1 hu ha (hc _ _ (flat_get ds i x hs hi j v hj)) hK
def pairOk (n : Int) (k : List UInt8) (nst : Nat) (ps : List PR) (i : Nat) (a : PR) : Prop :=
  a.k.length ≤ 64 ∧ a.v.length ≤ 256 ∧ (∀ p, 0 < i → ps[i - 1]? = some p → Lib.compareBytes p.k a.k < 0) ∧ (∀ p, ps[0]? = some p → keyD n a.k = keyD n p.k) ∧ (nst : Int) ≤ (comPP n k (keyD n a.k)).1
def pairsP (n : Int) (k : List UInt8) (nst : Nat) (ps : List PR) : Prop := ∀ i a, ps[i]? = some a → pairOk n k nst ps i a

theorem bucket_ok (n : Int) (k : List UInt8) (hk : k.length = 32) (sv pv : Value) (ss : List SR) (ps : List PR) (w : World) (hW : WordsAt w 1) (hs : StepsAt w sv ss) (hp : PairsAt w pv ps) (hpl : ∀ p ∈ ps, p.k.length + 1 ≤ 140737488355328) :
    CallK Tryz.prog 75 [.int .i64 n, .agg (vbs k).toArray, .agg [sv, pv].toArray].toArray w fun v w' => ∃ t, v = .bool t ∧ (t = true ↔ pairsP n k ss.length ps) ∧ Ext w w' := by
  obtain ⟨⟨a, c, rfl, hnc, hcm, hc⟩, hpp⟩ := hp
  obtain ⟨sa, cs, rfl⟩ := slv_of hs.1
  have hsc : ss.length ≤ cs ∧ cs ≤ 9223372036854775807 := by
    obtain ⟨_, _, e, h1, h2, _⟩ := hs.1
    cases e
    exact ⟨h1, h2⟩
  refine enterT Tryz.func75 rfl Tryz.ntmps75 Tryz.results75 rfl (by decide) ?_
  simp only [↓VD, VP, VT, isAggD, reduceCtorEq, Int.reduceEq, Int.reduceNe, Int.reduceLT, Int.reduceLE, implies_true, Nat.reduceEqDiff, reduceIte, ite_true, ite_false, eq_self, Nat.reduceLT, Nat.reduceLeDiff, Nat.reduceAdd, Nat.reduceMul, Nat.reduceSub, intOf]
  intro w1 hN1 w2 hN2
  have s1 := hN1.size
  have s2 := hN2.size
  have hB4 := hN1.blk.ext hN2.ext
  have hB5 := hN2.blk
  have hE2 : Ext w w2 := hN1.ext.trans' hN2.ext
  generalize w1.heap.size = b5 at *
  refine ldAt (pre := [.slice sa ss.length cs]) (post := []) Tryz.underlying24 rfl hB5 rfl ?_
  simp only [↓VD, VP, VT, isAggD, reduceCtorEq, Int.reduceEq, Int.reduceNe, Int.reduceLT, Int.reduceLE, implies_true, Nat.reduceEqDiff, reduceIte, ite_true, ite_false, eq_self, Nat.reduceLT, Nat.reduceLeDiff, Nat.reduceAdd, Nat.reduceMul, Nat.reduceSub, intOf]
  refine loopT (fun s' w' => Ext w2 w' ∧ ∃ i : Nat, i ≤ ps.length ∧ s' 0 = .int .i64 n ∧ s' 4 = .pointer (some ⟨w.heap.size, 0, none⟩) ∧ s' 5 = .pointer (some ⟨b5, 0, none⟩) ∧ s' 16 = .slice a ps.length c ∧ s' 17 = .int .i64 ps.length ∧ s' 18 = .int .i64 i ∧
      ∀ j s, j < i → ps[j]? = some s → pairOk n k ss.length ps j s) (fun s' _ => ps.length - (intOf (s' 18)).toNat) ?_ ?_
  · simp only [↓VD, VP, VT, isAggD, reduceCtorEq, Int.reduceEq, Int.reduceNe, Int.reduceLT, Int.reduceLE, implies_true, Nat.reduceEqDiff, reduceIte, ite_true, ite_false, eq_self, Nat.reduceLT, Nat.reduceLeDiff, Nat.reduceAdd, Nat.reduceMul, Nat.reduceSub, intOf]
    exact ⟨Ext.rfl' w2, 0, by omega, rfl, fun j s h => by omega⟩
  · rintro s3 w3 ⟨hE3, i, hi, h0, h4, h5, h16, h17, h18, hz⟩
    simp only [↓VD, VP, VT, isAggD, reduceCtorEq, Int.reduceEq, Int.reduceNe, Int.reduceLT, Int.reduceLE, implies_true, Nat.reduceEqDiff, reduceIte, ite_true, ite_false, eq_self, Nat.reduceLT, Nat.reduceLeDiff, Nat.reduceAdd, Nat.reduceMul, Nat.reduceSub, intOf, h0, h4, h5, h16, h17, h18]
    refine ⟨fun hlt => ?_, fun hge => ?_⟩
    · have hlt' : i < ps.length := by omega
      rcases hc with hc | ⟨b, o, rfl, hc⟩
      · exfalso
        cases ps with
        | nil => simp at hlt'
        | cons d ds => simp [PR.cells] at hc
      obtain ⟨x, hx⟩ : ∃ x, ps[i]? = some x := ⟨_, List.getElem?_eq_getElem hlt'⟩
      obtain ⟨hxk, hxv⟩ := hpp x (List.mem_of_getElem? hx)
      have hcW : ∀ {W : World}, Ext w2 W → ∀ j u, (ps.flatMap PR.cells)[j]? = some u → W.cell? ⟨b, o + j, none⟩ = some u := fun hE j u hj => by rw [(hE2.trans' hE).cell (block_lt_of_cell (hc j u hj))]; exact hc j u hj
      simp only [↓VD, VP, VT, isAggD, reduceCtorEq, Int.reduceEq, Int.reduceNe, Int.reduceLT, Int.reduceLE, implies_true, Nat.reduceEqDiff, reduceIte, ite_true, ite_false, eq_self, Nat.reduceLT, Nat.reduceLeDiff, Nat.reduceAdd, Nat.reduceMul, Nat.reduceSub, intOf]
      refine ⟨by omega, by omega, ldE (f := PR.cells) c47 Tryz.underlying47 rfl (fun d h => rfl) (hcW hE3) hx ?_⟩
      simp only [↓VD, VP, VT, isAggD, reduceCtorEq, Int.reduceEq, Int.reduceNe, Int.reduceLT, Int.reduceLE, implies_true, Nat.reduceEqDiff, reduceIte, ite_true, ite_false, eq_self, Nat.reduceLT, Nat.reduceLeDiff, Nat.reduceAdd, Nat.reduceMul, Nat.reduceSub, intOf]
      intro w4 hN4
      obtain ⟨ak, ck, hkv⟩ := slv_of hxk
      obtain ⟨av, cv, hvv⟩ := slv_of hxv
      refine stAll hN4.blk (vs := x.cells) rfl (by rw [c47]; decide) (by rw [c47]; rfl) (by rw [c47]; rfl) (by rw [PR.cells, hkv, hvv]; simp [oneCellV]) (fun w5 hP5 => ?_)
      simp only [↓VQ, VP, VT, isAggD, reduceCtorEq, Int.reduceEq, Int.reduceNe, Int.reduceLT, Int.reduceLE, implies_true, Nat.reduceEqDiff, reduceIte, ite_true, ite_false, eq_self, Nat.reduceLT, Nat.reduceLeDiff, Nat.reduceAdd, Nat.reduceMul, Nat.reduceSub, intOf, h0, h4, h5, h16, h17, h18]
      have hE5 : Ext w2 w5 := hE3.trans' (hN4.ext.trans (hP5.below (Nat.le_refl _)))
      have hE5' : Ext w w5 := hE2.trans' hE5
      obtain ⟨kv, vv, xk, xv⟩ := x
      simp only at hkv hvv hxk hxv
      subst hkv hvv
      have hB8 : Blk w5 w3.heap.size 47 [.slice ak xk.length ck, .slice av xv.length cv] := hP5.blk
      replace hB4 := hB4.ext hE5
      replace hB5 := hB5.ext hE5
      have s3 := hE3.size
      generalize w3.heap.size = b8 at *
      have hxl : xk.length ≤ 9223372036854775807 := by
        obtain ⟨_, _, e, h1, h2, _⟩ := hxk
        cases e
        omega
      rw [v_seq]
      refine joinT (fun s' W' => Ext w5 W' ∧ s' 0 = .int .i64 n ∧ s' 4 = .pointer (some ⟨w.heap.size, 0, none⟩) ∧ s' 5 = .pointer (some ⟨b5, 0, none⟩) ∧ s' 8 = .pointer (some ⟨b8, 0, none⟩) ∧ s' 16 = .slice (some ⟨b, o, none⟩) ps.length c ∧ s' 17 = .int .i64 ps.length ∧ s' 18 = .int .i64 i ∧
        xk.length ≤ 64 ∧ xv.length ≤ 256 ∧ ∀ p, 0 < i → ps[i - 1]? = some p → Lib.compareBytes p.k xk < 0) ?_ ?_
      · simp only [↓VD, VP, VT, isAggD, reduceCtorEq, Int.reduceEq, Int.reduceNe, Int.reduceLT, Int.reduceLE, implies_true, Nat.reduceEqDiff, reduceIte, ite_true, ite_false, eq_self, Nat.reduceLT, Nat.reduceLeDiff, Nat.reduceAdd, Nat.reduceMul, Nat.reduceSub, intOf, h0, h4, h5, h16, h17, h18]
        refine drawT mixed (by decide +kernel) ?_
        simp only [↓VD, VP, VT, isAggD, reduceCtorEq, Int.reduceEq, Int.reduceNe, Int.reduceLT, Int.reduceLE, implies_true, Nat.reduceEqDiff, reduceIte, ite_true, ite_false, eq_self, Nat.reduceLT, Nat.reduceLeDiff, Nat.reduceAdd, Nat.reduceMul, Nat.reduceSub, intOf, h0, h4, h5, h16, h17, h18]
        refine ldAt (pre := []) (post := [.slice av xv.length cv]) Tryz.underlying22 rfl hB8 rfl ?_
        by_cases hk1 : 64 < xk.length
        · have f1 : (64 < (xk.length : Int)) = True := eq_true (by omega)
          simp only [↓VD, VP, VT, isAggD, reduceCtorEq, Int.reduceEq, Int.reduceNe, Int.reduceLT, Int.reduceLE, implies_true, Nat.reduceEqDiff, reduceIte, ite_true, ite_false, eq_self, Nat.reduceLT, Nat.reduceLeDiff, Nat.reduceAdd, Nat.reduceMul, Nat.reduceSub, intOf, h0, h4, h5, h16, h17, h18, f1]
          intro w6 hE6
          refine ⟨⟨False.elim, fun hP => ?_⟩, hE5'.trans' hE6⟩
          have := (hP i _ hx).1
          simp only at this
          omega
        · have f1 : (64 < (xk.length : Int)) = False := eq_false (by omega)
          simp only [↓VD, VP, VT, isAggD, reduceCtorEq, Int.reduceEq, Int.reduceNe, Int.reduceLT, Int.reduceLE, implies_true, Nat.reduceEqDiff, reduceIte, ite_true, ite_false, eq_self, Nat.reduceLT, Nat.reduceLeDiff, Nat.reduceAdd, Nat.reduceMul, Nat.reduceSub, intOf, h0, h4, h5, h16, h17, h18, f1]
          refine ldAt (pre := [.slice ak xk.length ck]) (post := []) Tryz.underlying22 rfl hB8 rfl ?_
          by_cases hv1 : 256 < xv.length
          · have f2 : (256 < (xv.length : Int)) = True := eq_true (by omega)
            simp only [↓VD, VP, VT, isAggD, reduceCtorEq, Int.reduceEq, Int.reduceNe, Int.reduceLT, Int.reduceLE, implies_true, Nat.reduceEqDiff, reduceIte, ite_true, ite_false, eq_self, Nat.reduceLT, Nat.reduceLeDiff, Nat.reduceAdd, Nat.reduceMul, Nat.reduceSub, intOf, h0, h4, h5, h16, h17, h18, f1, f2]
            intro w6 hE6
            refine ⟨⟨False.elim, fun hP => ?_⟩, hE5'.trans' hE6⟩
            have := (hP i _ hx).2.1
            simp only at this
            omega
          · have f2 : (256 < (xv.length : Int)) = False := eq_false (by omega)
            by_cases hi0 : i = 0
            · have f3 : (0 < (i : Int)) = False := eq_false (by omega)
              simp only [↓VD, VP, VT, isAggD, reduceCtorEq, Int.reduceEq, Int.reduceNe, Int.reduceLT, Int.reduceLE, implies_true, Nat.reduceEqDiff, reduceIte, ite_true, ite_false, eq_self, Nat.reduceLT, Nat.reduceLeDiff, Nat.reduceAdd, Nat.reduceMul, Nat.reduceSub, intOf, h0, h4, h5, h16, h17, h18, f1, f2, f3]
              intro w6 hE6
              exact ⟨hE6, by omega, by omega, fun p h => by omega⟩
            · have f3 : (0 < (i : Int)) = True := eq_true (by omega)
              have f4 : IntKind.i64.wrap ((i : Int) - 1) = ((i - 1 : Nat) : Int) := by rw [w64 (by omega) (by omega)]; omega
              obtain ⟨y, hy⟩ : ∃ y, ps[i - 1]? = some y := ⟨_, List.getElem?_eq_getElem (by omega)⟩
              obtain ⟨hyk, hyv⟩ := hpp y (List.mem_of_getElem? hy)
              simp only [↓VD, VP, VT, isAggD, reduceCtorEq, Int.reduceEq, Int.reduceNe, Int.reduceLT, Int.reduceLE, implies_true, Nat.reduceEqDiff, reduceIte, ite_true, ite_false, eq_self, Nat.reduceLT, Nat.reduceLeDiff, Nat.reduceAdd, Nat.reduceMul, Nat.reduceSub, intOf, h0, h4, h5, h16, h17, h18, f1, f2, f3]
              refine ldAt (pre := [.slice sa ss.length cs]) (post := []) Tryz.underlying24 rfl hB5 rfl ?_
              simp only [↓VD, VP, VT, isAggD, reduceCtorEq, Int.reduceEq, Int.reduceNe, Int.reduceLT, Int.reduceLE, implies_true, Nat.reduceEqDiff, reduceIte, ite_true, ite_false, eq_self, Nat.reduceLT, Nat.reduceLeDiff, Nat.reduceAdd, Nat.reduceMul, Nat.reduceSub, intOf, h0, h4, h5, h16, h17, h18, f1, f2, f3, f4]
              refine ⟨by omega, by omega, ldF (f := PR.cells) (sz := 2) (j := 0) Tryz.underlying22 rfl (fun d h => rfl) (hcW hE5) hy rfl (by omega) ?_⟩
              simp only [↓VD, VP, VT, isAggD, reduceCtorEq, Int.reduceEq, Int.reduceNe, Int.reduceLT, Int.reduceLE, implies_true, Nat.reduceEqDiff, reduceIte, ite_true, ite_false, eq_self, Nat.reduceLT, Nat.reduceLeDiff, Nat.reduceAdd, Nat.reduceMul, Nat.reduceSub, intOf, h0, h4, h5, h16, h17, h18, f1, f2, f3, f4]
              refine ldAt (pre := []) (post := [.slice av xv.length cv]) Tryz.underlying22 rfl hB8 rfl ?_
              obtain ⟨ay, cy, hye⟩ := slv_of hyk
              simp only [↓VD, VP, VT, isAggD, reduceCtorEq, Int.reduceEq, Int.reduceNe, Int.reduceLT, Int.reduceLE, implies_true, Nat.reduceEqDiff, reduceIte, ite_true, ite_false, eq_self, Nat.reduceLT, Nat.reduceLeDiff, Nat.reduceAdd, Nat.reduceMul, Nat.reduceSub, intOf, h0, h4, h5, h16, h17, h18, f1, f2, f3, f4, hye]
              refine qcall _ (fun w' hw' => (BCompare_ok y.k xk _ _ w' ((hye ▸ hyk).ext (hE5'.trans' hw')) (hxk.ext (hE5'.trans' hw'))).mono fun r w'' h => ⟨h.1, h.2 ▸ Ext.rfl' _⟩) ?_
              by_cases hcm1 : 0 ≤ Lib.compareBytes y.k xk
              · have f5 : (0 ≤ Lib.compareBytes y.k xk) = True := eq_true hcm1
                simp only [↓VD, VP, VT, isAggD, reduceCtorEq, Int.reduceEq, Int.reduceNe, Int.reduceLT, Int.reduceLE, implies_true, Nat.reduceEqDiff, reduceIte, ite_true, ite_false, eq_self, Nat.reduceLT, Nat.reduceLeDiff, Nat.reduceAdd, Nat.reduceMul, Nat.reduceSub, intOf, h0, h4, h5, h16, h17, h18, f1, f2, f3, f4, f5]
                intro w6 hE6
                refine ⟨⟨False.elim, fun hP => ?_⟩, hE5'.trans' hE6⟩
                have := (hP i _ hx).2.2.1 y (by omega) hy
                simp only at this
                omega
              · have f5 : (0 ≤ Lib.compareBytes y.k xk) = False := eq_false hcm1
                simp only [↓VD, VP, VT, isAggD, reduceCtorEq, Int.reduceEq, Int.reduceNe, Int.reduceLT, Int.reduceLE, implies_true, Nat.reduceEqDiff, reduceIte, ite_true, ite_false, eq_self, Nat.reduceLT, Nat.reduceLeDiff, Nat.reduceAdd, Nat.reduceMul, Nat.reduceSub, intOf, h0, h4, h5, h16, h17, h18, f1, f2, f3, f4, f5]
                intro w6 hE6
                refine ⟨hE6, by omega, by omega, fun p _ hp => ?_⟩
                rw [hy] at hp
                cases hp
                omega
      · rintro s6 w6 ⟨hE6, g0, g4, g5, g8, g16, g17, g18, hkl, hvl, hcmp⟩
        obtain ⟨y, hy⟩ : ∃ y, ps[0]? = some y := ⟨_, List.getElem?_eq_getElem (by omega)⟩
        obtain ⟨hyk, hyv⟩ := hpp y (List.mem_of_getElem? hy)
        have hyl := hpl y (List.mem_of_getElem? hy)
        have hE6' := hE5'.trans' hE6
        have hE26 := hE5.trans' hE6
        replace hB4 := hB4.ext hE6
        replace hB5 := hB5.ext hE6
        replace hB8 := hB8.ext hE6
        have z4 := hB4.lt
        simp only [↓VD, VP, VT, isAggD, reduceCtorEq, Int.reduceEq, Int.reduceNe, Int.reduceLT, Int.reduceLE, implies_true, Nat.reduceEqDiff, reduceIte, ite_true, ite_false, eq_self, Nat.reduceLT, Nat.reduceLeDiff, Nat.reduceAdd, Nat.reduceMul, Nat.reduceSub, intOf, g0, g4, g5, g8, g16, g17, g18]
        refine ldAt (pre := []) (post := [.slice av xv.length cv]) Tryz.underlying22 rfl hB8 rfl ?_
        simp only [↓VD, VP, VT, isAggD, reduceCtorEq, Int.reduceEq, Int.reduceNe, Int.reduceLT, Int.reduceLE, implies_true, Nat.reduceEqDiff, reduceIte, ite_true, ite_false, eq_self, Nat.reduceLT, Nat.reduceLeDiff, Nat.reduceAdd, Nat.reduceMul, Nat.reduceSub, intOf, g0, g4, g5, g8, g16, g17, g18]
        refine (Key_ok n xk _ w6 (hW.ext hE6') (hxk.ext hE6') (by omega)).mono ?_
        rintro _ w7 ⟨rfl, hE7⟩
        simp only [↓VD, VP, VT, isAggD, reduceCtorEq, Int.reduceEq, Int.reduceNe, Int.reduceLT, Int.reduceLE, implies_true, Nat.reduceEqDiff, reduceIte, ite_true, ite_false, eq_self, Nat.reduceLT, Nat.reduceLeDiff, Nat.reduceAdd, Nat.reduceMul, Nat.reduceSub, intOf, g0, g4, g5, g8, g16, g17, g18]
        intro w8 hN8
        have z7 := hE7.size
        have z8 := hN8.size
        refine stAll hN8.blk rfl (by rw [c28]; decide) (by rw [c28, vbs_len, sumR_len]) (by rw [c28]; simp) (vbs_one _) (fun w9 hP9 => ?_)
        have hE9 : Ext w6 w9 := hE7.trans' (hN8.ext.trans (hP9.below (Nat.le_refl _)))
        have hB9 := hP9.blk
        have z9 := hP9.size
        generalize w7.heap.size = b9 at *
        simp only [↓VD, VP, VT, isAggD, reduceCtorEq, Int.reduceEq, Int.reduceNe, Int.reduceLT, Int.reduceLE, implies_true, Nat.reduceEqDiff, reduceIte, ite_true, ite_false, eq_self, Nat.reduceLT, Nat.reduceLeDiff, Nat.reduceAdd, Nat.reduceMul, Nat.reduceSub, intOf, g0, g4, g5, g8, g16, g17, g18]
        refine ldAt (pre := [.slice sa ss.length cs]) (post := []) Tryz.underlying24 rfl (hB5.ext hE9) rfl ?_
        simp only [↓VD, VP, VT, isAggD, reduceCtorEq, Int.reduceEq, Int.reduceNe, Int.reduceLT, Int.reduceLE, implies_true, Nat.reduceEqDiff, reduceIte, ite_true, ite_false, eq_self, Nat.reduceLT, Nat.reduceLeDiff, Nat.reduceAdd, Nat.reduceMul, Nat.reduceSub, intOf, g0, g4, g5, g8, g16, g17, g18]
        refine ⟨by omega, ldF (f := PR.cells) (sz := 2) (i := 0) (j := 0) Tryz.underlying22 rfl (fun d h => rfl) (hcW (hE26.trans' hE9)) hy rfl (by simp) ?_⟩
        obtain ⟨ay, cy, hye⟩ := slv_of hyk
        simp only [↓VD, VP, VT, isAggD, reduceCtorEq, Int.reduceEq, Int.reduceNe, Int.reduceLT, Int.reduceLE, implies_true, Nat.reduceEqDiff, reduceIte, ite_true, ite_false, eq_self, Nat.reduceLT, Nat.reduceLeDiff, Nat.reduceAdd, Nat.reduceMul, Nat.reduceSub, intOf, g0, g4, g5, g8, g16, g17, g18]
        refine (Key_ok n y.k _ w9 (hW.ext (hE6'.trans' hE9)) (hyk.ext (hE6'.trans' hE9)) hyl).mono ?_
        rintro _ w10 ⟨rfl, hE10⟩
        simp only [↓VD, VP, VT, isAggD, reduceCtorEq, Int.reduceEq, Int.reduceNe, Int.reduceLT, Int.reduceLE, implies_true, Nat.reduceEqDiff, reduceIte, ite_true, ite_false, eq_self, Nat.reduceLT, Nat.reduceLeDiff, Nat.reduceAdd, Nat.reduceMul, Nat.reduceSub, intOf, g0, g4, g5, g8, g16, g17, g18]
        intro w11 hN11
        have z10 := hE10.size
        have z11 := hN11.size
        refine stAll hN11.blk rfl (by rw [c28]; decide) (by rw [c28, vbs_len, sumR_len]) (by rw [c28]; simp) (vbs_one _) (fun w12 hP12 => ?_)
        have hE12 : Ext w9 w12 := hE10.trans' (hN11.ext.trans (hP12.below (Nat.le_refl _)))
        have hB11 := hP12.blk
        have hB9' := hB9.ext hE12
        have hE69 := hE9.trans' hE12
        have hB4' := hB4.ext hE69
        have hB5' := hB5.ext hE69
        generalize w10.heap.size = b11 at *
        have lk1 := sumR_len n (2 :: xk)
        have lk2 := sumR_len n (2 :: y.k)
        simp only [↓VD, VP, VT, isAggD, reduceCtorEq, Int.reduceEq, Int.reduceNe, Int.reduceLT, Int.reduceLE, implies_true, Nat.reduceEqDiff, reduceIte, ite_true, ite_false, eq_self, Nat.reduceLT, Nat.reduceLeDiff, Nat.reduceAdd, Nat.reduceMul, Nat.reduceSub, intOf, g0, g4, g5, g8, g16, g17, g18]
        refine ldA Tryz.underlying28 rfl hB4' (by rw [vbs_len, hk, c28]) ?_
        simp only [↓VD, VP, VT, isAggD, reduceCtorEq, Int.reduceEq, Int.reduceNe, Int.reduceLT, Int.reduceLE, implies_true, Nat.reduceEqDiff, reduceIte, ite_true, ite_false, eq_self, Nat.reduceLT, Nat.reduceLeDiff, Nat.reduceAdd, Nat.reduceMul, Nat.reduceSub, intOf, g0, g4, g5, g8, g16, g17, g18]
        refine ldA Tryz.underlying28 rfl hB9' (by rw [vbs_len, lk1, c28]) ?_
        simp only [↓VD, VP, VT, isAggD, reduceCtorEq, Int.reduceEq, Int.reduceNe, Int.reduceLT, Int.reduceLE, implies_true, Nat.reduceEqDiff, reduceIte, ite_true, ite_false, eq_self, Nat.reduceLT, Nat.reduceLeDiff, Nat.reduceAdd, Nat.reduceMul, Nat.reduceSub, intOf, g0, g4, g5, g8, g16, g17, g18]
        refine (Common_ok n k (sumR n (2 :: xk)) hk lk1 w12).mono ?_
        rintro _ w13 ⟨rfl, hE13⟩
        have hEZ : Ext w2 w13 := hE26.trans' (hE69.trans' hE13)
        simp only [↓VD, VP, VT, isAggD, reduceCtorEq, Int.reduceEq, Int.reduceNe, Int.reduceLT, Int.reduceLE, implies_true, Nat.reduceEqDiff, reduceIte, ite_true, ite_false, eq_self, Nat.reduceLT, Nat.reduceLeDiff, Nat.reduceAdd, Nat.reduceMul, Nat.reduceSub, intOf, g0, g4, g5, g8, g16, g17, g18]
        refine ldA Tryz.underlying28 rfl (hB9'.ext hE13) (by rw [vbs_len, lk1, c28]) ?_
        simp only [↓VD, VP, VT, isAggD, reduceCtorEq, Int.reduceEq, Int.reduceNe, Int.reduceLT, Int.reduceLE, implies_true, Nat.reduceEqDiff, reduceIte, ite_true, ite_false, eq_self, Nat.reduceLT, Nat.reduceLeDiff, Nat.reduceAdd, Nat.reduceMul, Nat.reduceSub, intOf, g0, g4, g5, g8, g16, g17, g18]
        refine ldA Tryz.underlying28 rfl (hB11.ext hE13) (by rw [vbs_len, lk2, c28]) ?_
        simp only [↓VD, VP, VT, isAggD, reduceCtorEq, Int.reduceEq, Int.reduceNe, Int.reduceLT, Int.reduceLE, implies_true, Nat.reduceEqDiff, reduceIte, ite_true, ite_false, eq_self, Nat.reduceLT, Nat.reduceLeDiff, Nat.reduceAdd, Nat.reduceMul, Nat.reduceSub, intOf, g0, g4, g5, g8, g16, g17, g18]
        refine eqd_lit _ _ _ _ _ _ Tryz.underlying5 c5 lk1 lk2 ?_
        by_cases hkk : sumR n (2 :: xk) = sumR n (2 :: y.k)
        · have f6 : (sumR n (2 :: xk) = sumR n (2 :: y.k)) = True := eq_true hkk
          simp only [↓VD, VP, VT, isAggD, reduceCtorEq, Int.reduceEq, Int.reduceNe, Int.reduceLT, Int.reduceLE, implies_true, Nat.reduceEqDiff, reduceIte, ite_true, ite_false, eq_self, Nat.reduceLT, Nat.reduceLeDiff, Nat.reduceAdd, Nat.reduceMul, Nat.reduceSub, intOf, g0, g4, g5, g8, g16, g17, g18, f6]
          refine ldAt (pre := []) (post := [.slice (some ⟨b, o, none⟩) ps.length c]) Tryz.underlying23 rfl (hB5'.ext hE13) rfl ?_
          simp only [↓VD, VP, VT, isAggD, reduceCtorEq, Int.reduceEq, Int.reduceNe, Int.reduceLT, Int.reduceLE, implies_true, Nat.reduceEqDiff, reduceIte, ite_true, ite_false, eq_self, Nat.reduceLT, Nat.reduceLeDiff, Nat.reduceAdd, Nat.reduceMul, Nat.reduceSub, intOf, g0, g4, g5, g8, g16, g17, g18, f6]
          refine ⟨fun hlt9 => ⟨⟨False.elim, fun hP => ?_⟩, hE2.trans' hEZ⟩, fun hge9 => ⟨⟨hEZ, i + 1, by omega, by rw [w64 (by omega) (by omega)]; rfl, fun j s hj hs' => ?_⟩, by rw [w64 (by omega) (by omega), h18]; simp only [intOf]; omega⟩⟩
          · have := (hP i _ hx).2.2.2.2
            simp only [keyD] at this
            omega
          · by_cases hji : j < i
            · exact hz j s hji hs'
            · obtain rfl : j = i := by omega
              rw [hx] at hs'
              cases hs'
              refine ⟨hkl, hvl, hcmp, fun p hp => ?_, by simp only [keyD]; omega⟩
              rw [hy] at hp
              cases hp
              exact hkk
        · have f6 : (sumR n (2 :: xk) = sumR n (2 :: y.k)) = False := eq_false hkk
          simp only [↓VD, VP, VT, isAggD, reduceCtorEq, Int.reduceEq, Int.reduceNe, Int.reduceLT, Int.reduceLE, implies_true, Nat.reduceEqDiff, reduceIte, ite_true, ite_false, eq_self, Nat.reduceLT, Nat.reduceLeDiff, Nat.reduceAdd, Nat.reduceMul, Nat.reduceSub, intOf, g0, g4, g5, g8, g16, g17, g18, f6]
          refine ⟨⟨False.elim, fun hP => hkk ((hP i _ hx).2.2.2.1 y hy)⟩, hE2.trans' hEZ⟩
    · refine ⟨⟨fun _ => fun j s hs' => hz j s ?_ hs', fun _ => trivial⟩, hE2.trans' hE3⟩
      have := (List.getElem?_eq_some_iff.1 hs').1
      omega

end Go.Proofs.YtebbgninkbghlaaGreatDoor

/-! HckD -/
namespace Go.Proofs.YtebbgninkbghlaaGreatDoor
set_option maxRecDepth 100000
open Go Go.RowKit
set_option linter.unusedVariables false
set_option linter.unusedSimpArgs false

/-! ### What RootOf answers -/
def RootE (n : Int) (key : List UInt8) (ss : List SR) (ps : List PR) (e : Nat) : Prop :=
  (widB n = false → e = 1) ∧ (widB n = true → 64 < key.length → e = 2) ∧ (widB n = true → key.length ≤ 64 → ¬ kidsP n ss → e = 3) ∧
  (widB n = true → key.length ≤ 64 → kidsP n ss → ¬ (branchesP n (keyD n key) ss ps.length ∧ pairsP n (keyD n key) ss.length ps) → e = 10) ∧
  (widB n = true → key.length ≤ 64 → kidsP n ss → branchesP n (keyD n key) ss ps.length → pairsP n (keyD n key) ss.length ps → e = 0)
theorem RootE.uniq {n : Int} {key : List UInt8} {ss : List SR} {ps : List PR} {e f : Nat} (h : RootE n key ss ps e) (g : RootE n key ss ps f) : e = f := by
  obtain ⟨h1, h2, h3, h4, h5⟩ := h
  obtain ⟨g1, g2, g3, g4, g5⟩ := g
  cases hw : widB n
  · rw [h1 hw, g1 hw]
  by_cases hk : 64 < key.length
  · rw [h2 hw hk, g2 hw hk]
  have hk : key.length ≤ 64 := by omega
  by_cases hq : kidsP n ss
  · by_cases hb : branchesP n (keyD n key) ss ps.length ∧ pairsP n (keyD n key) ss.length ps
    · rw [h5 hw hk hq hb.1 hb.2, g5 hw hk hq hb.1 hb.2]
    · rw [h4 hw hk hq hb, g4 hw hk hq hb]
  · rw [h3 hw hk hq, g3 hw hk hq]
theorem RootE.ok {n : Int} {key : List UInt8} {ss : List SR} {ps : List PR} (h : RootE n key ss ps 0) : widB n = true ∧ key.length ≤ 64 ∧ kidsP n ss ∧ branchesP n (keyD n key) ss ps.length ∧ pairsP n (keyD n key) ss.length ps := by
  obtain ⟨h1, h2, h3, h4, h5⟩ := h
  cases hw : widB n
  · cases h1 hw
  by_cases hk : 64 < key.length
  · cases h2 hw hk
  have hk : key.length ≤ 64 := by omega
  by_cases hq : kidsP n ss
  · by_cases hb : branchesP n (keyD n key) ss ps.length ∧ pairsP n (keyD n key) ss.length ps
    · exact ⟨rfl, hk, hq, hb.1, hb.2⟩
    · cases h4 hw hk hq hb
  · cases h3 hw hk hq
theorem RootE.mk (n : Int) (key : List UInt8) (ss : List SR) (ps : List PR) (hw : widB n = true) (hk : key.length ≤ 64) (hq : kidsP n ss) (hb : branchesP n (keyD n key) ss ps.length) (hp : pairsP n (keyD n key) ss.length ps) : RootE n key ss ps 0 :=
  ⟨fun h => (by rw [hw] at h; cases h), fun _ h => (by omega), fun _ _ h => absurd hq h, fun _ _ _ h => absurd ⟨hb, hp⟩ h, fun _ _ _ _ _ => rfl⟩
def valOf (ps : List PR) (key : List UInt8) : Option (List UInt8) := (ps.find? fun p => decide (p.k = key)).map (·.v)
def outD (e : Nat) (n : Int) (key : List UInt8) (ss : List SR) (ps : List PR) : List UInt8 := if e = 0 then upF n (keyD n key) (backL ss) (up0 n (ps.map PR.dat)) else List.replicate 32 0
def outV (e : Nat) (key : List UInt8) (ps : List PR) : List UInt8 := if e = 0 then (valOf ps key).getD [] else []
def outT (e : Nat) (key : List UInt8) (ps : List PR) : Bool := decide (e = 0) && (valOf ps key).isSome
theorem outD_len (e : Nat) (n : Int) (key : List UInt8) (ss : List SR) (ps : List PR) : (outD e n key ss ps).length = 32 := by
  unfold outD
  split
  · exact upF_len _ _ _ _ (up0_len _ _)
  · simp

/-! ### Sizes -/
theorem rank_lt1 {bm : Nat} {c : Int} (h : hasB bm c = true) : rankB bm c + 1 ≤ cntB bm := by
  unfold rankB cntB
  refine List.length_filter_lt_length_iff_exists.2 ⟨c.toNat, ?_, ?_⟩
  · simp only [hasB, inB, Bool.and_eq_true, decide_eq_true_eq] at h
    simp only [setB, List.mem_filter, List.mem_range]
    exact ⟨by omega, h.2⟩
  · simp only [hasB, inB, Bool.and_eq_true, decide_eq_true_eq] at h
    simp only [decide_eq_true_eq]
    omega
theorem pairsB_le : ∀ (ps : List (List UInt8 × List UInt8)), (∀ p ∈ ps, p.1.length ≤ 64 ∧ p.2.length ≤ 256) → (pairsB ps).length ≤ ps.length * 340
  | [], _ => by simp [pairsB]
  | p :: ps, h => by
    have ih := pairsB_le ps (fun q hq => h q (by simp [hq]))
    have h1 := h p (by simp)
    have u1 := uvarP_len10 (n := p.1.length) (by omega)
    have u2 := uvarP_len10 (n := p.2.length) (by omega)
    have e : pairsB (p :: ps) = (blobP p.1 ++ blobP p.2) ++ pairsB ps := by simp [pairsB]
    rw [e]
    simp only [List.length_append, blobP, List.length_cons]
    omega
theorem bucketP_le (ps : List (List UInt8 × List UInt8)) (h : ∀ p ∈ ps, p.1.length ≤ 64 ∧ p.2.length ≤ 256) (hl : ps.length ≤ 400000000000) : (bucketP ps).length + 16 ≤ 140737488355328 := by
  have h1 := pairsB_le ps h
  have u1 := uvarP_len10 (n := ps.length) (by omega)
  simp only [bucketP, List.length_cons, List.length_append]
  omega
theorem RootE.sizes {n : Int} {key : List UInt8} {ss : List SR} {ps : List PR} (h : RootE n key ss ps 0) (hpn : ps.length ≤ 400000000000) :
    (bucketP (ps.map PR.dat)).length + 16 ≤ 140737488355328 ∧ (∀ s ∈ ss, s.ks.length + 1 ≤ 4000000000) ∧ ∀ (i : Nat) (s : SR), ss[i]? = some s → hasB s.bm (atP n (keyD n key) i).1 = true → rankB s.bm (atP n (keyD n key) i).1 ≤ s.ks.length := by
  obtain ⟨hw, hk, hq, hb, hp⟩ := h.ok
  refine ⟨bucketP_le _ ?_ (by rw [List.length_map]; exact hpn), ?_, ?_⟩
  · intro p hpm
    obtain ⟨q, hq', rfl⟩ := List.mem_map.1 hpm
    obtain ⟨i, hi⟩ := List.getElem?_of_mem hq'
    exact ⟨(hp i q hi).1, (hp i q hi).2.1⟩
  · intro s hs
    obtain ⟨i, hi⟩ := List.getElem?_of_mem hs
    have h1 := hb.2 i s hi
    have hc := cnt_le s.bm
    cases hh : hasB s.bm (atP n (keyD n key) i).1
    · have := (h1.2.2.1 hh).2.1; omega
    · have := (h1.2.1 hh).1; omega
  · intro i s hi hh
    have h1 := ((hb.2 i s hi).2.1 hh).1
    have h2 := rank_lt1 hh
    omega

theorem RootOf_ok (n : Int) (key : List UInt8) (kv sv pv : Value) (ss : List SR) (ps : List PR) (w : World) (hW : WordsAt w 1) (hkv : SlB w kv key) (hkl : key.length + 1 ≤ 140737488355328) (hs : StepsAt w sv ss) (hp : PairsAt w pv ps)
    (hpl : ∀ p ∈ ps, p.k.length + 1 ≤ 140737488355328) (hpn : ps.length ≤ 400000000000) :
    CallK Tryz.prog 18 [.int .i64 n, kv, .agg [sv, pv].toArray].toArray w fun r w' => ∃ e v, r = .tuple [.agg (vbs (outD e n key ss ps)).toArray, v, .bool (outT e key ps), .int .i64 e].toArray ∧ RootE n key ss ps e ∧
      Own w' w.heap.size 5 1 v (outV e key ps).length (vbs (outV e key ps)) ∧ Ext w w' := by
  obtain ⟨ak, ck, rfl⟩ := slv_of hkv
  obtain ⟨sa, cs, rfl⟩ := slv_of hs.1
  obtain ⟨pa, cp, rfl⟩ := slv_of hp.1
  refine enterT Tryz.func18 rfl Tryz.ntmps18 Tryz.results18 rfl (by decide) ?_
  simp only [↓VD, VP, VT, isAggD, reduceCtorEq, Int.reduceEq, Int.reduceNe, Int.reduceLT, Int.reduceLE, implies_true, Nat.reduceEqDiff, reduceIte, ite_true, ite_false, eq_self, Nat.reduceLT, Nat.reduceLeDiff, Nat.reduceAdd, Nat.reduceMul, Nat.reduceSub, intOf]
  intro w1 hN1 w2 hN2
  rw [vbs_rep] at hN2
  have s1 := hN1.size
  have s2 := hN2.size
  have hB5 := hN1.blk.ext hN2.ext
  have hB6 := hN2.blk
  have hE2 : Ext w w2 := hN1.ext.trans' hN2.ext
  generalize w1.heap.size = b6 at *
  refine (Key_ok n key _ w2 (hW.ext hE2) (hkv.ext hE2) hkl).mono ?_
  rintro _ w3 ⟨rfl, hE3⟩
  simp only [↓VD, VP, VT, isAggD, reduceCtorEq, Int.reduceEq, Int.reduceNe, Int.reduceLT, Int.reduceLE, implies_true, Nat.reduceEqDiff, reduceIte, ite_true, ite_false, eq_self, Nat.reduceLT, Nat.reduceLeDiff, Nat.reduceAdd, Nat.reduceMul, Nat.reduceSub, intOf]
  intro w4 hN4
  have s3 := hE3.size
  have s4 := hN4.size
  have lkd := sumR_len n (2 :: key)
  refine stAll hN4.blk rfl (by rw [c28]; decide) (by rw [c28, vbs_len, sumR_len]) (by rw [c28]; simp) (vbs_one _) (fun w5 hP5 => ?_)
  have hE5 : Ext w2 w5 := hE3.trans' (hN4.ext.trans (hP5.below (Nat.le_refl _)))
  have hB10 := hP5.blk
  have s5 := hP5.size
  generalize w3.heap.size = b10 at *
  replace hB5 := hB5.ext hE5
  replace hB6 := hB6.ext hE5
  have hE5' := hE2.trans' hE5
  simp only [↓VQ, VP, VT, isAggD, reduceCtorEq, Int.reduceEq, Int.reduceNe, Int.reduceLT, Int.reduceLE, implies_true, Nat.reduceEqDiff, reduceIte, ite_true, ite_false, eq_self, Nat.reduceLT, Nat.reduceLeDiff, Nat.reduceAdd, Nat.reduceMul, Nat.reduceSub, intOf]
  rw [v_seq]
  refine joinT (fun s' W' => Ext w5 W' ∧ s' 0 = .int .i64 n ∧ s' 1 = .slice ak key.length ck ∧ s' 5 = .pointer (some ⟨w.heap.size, 0, none⟩) ∧ s' 6 = .pointer (some ⟨b6, 0, none⟩) ∧ s' 10 = .pointer (some ⟨b10, 0, none⟩) ∧ ∃ e : Nat, s' 11 = .int .i64 e ∧ RootE n key ss ps e) ?_ ?_
  · simp only [↓VD, VP, VT, isAggD, reduceCtorEq, Int.reduceEq, Int.reduceNe, Int.reduceLT, Int.reduceLE, implies_true, Nat.reduceEqDiff, reduceIte, ite_true, ite_false, eq_self, Nat.reduceLT, Nat.reduceLeDiff, Nat.reduceAdd, Nat.reduceMul, Nat.reduceSub, intOf]
    refine ⟨fun hne => ?_, fun heq => ⟨fun hl => ?_, fun hl => ?_⟩⟩
    · have hwf : widB n = false := by
        cases hw : widB n
        · rfl
        · exfalso; apply hne; simp [sumE, hw]
      exact ⟨Ext.rfl' _, sumE n, rfl, fun _ => by simp [sumE, hwf], fun h => by simp [hwf] at h, fun h => by simp [hwf] at h, fun h => by simp [hwf] at h, fun h => by simp [hwf] at h⟩
    · have hwt : widB n = true := by
        cases hw : widB n
        · exfalso; simp [sumE, hw] at heq
        · rfl
      exact ⟨Ext.rfl' _, 2, rfl, fun h => by simp [hwt] at h, fun _ _ => rfl, fun _ h => by omega, fun _ h => by omega, fun _ h => by omega⟩
    have hwt : widB n = true := by
      cases hw : widB n
      · exfalso; simp [sumE, hw] at heq
      · rfl
    have hl : key.length ≤ 64 := by omega
    refine ldAt (pre := []) (post := [.slice pa ps.length cp]) Tryz.underlying23 rfl hB5 rfl ?_
    simp only [↓VD, VP, VT, isAggD, reduceCtorEq, Int.reduceEq, Int.reduceNe, Int.reduceLT, Int.reduceLE, implies_true, Nat.reduceEqDiff, reduceIte, ite_true, ite_false, eq_self, Nat.reduceLT, Nat.reduceLeDiff, Nat.reduceAdd, Nat.reduceMul, Nat.reduceSub, intOf]
    refine (kids_ok n _ ss w5 (hs.ext hE5')).mono ?_
    rintro _ w6 ⟨rfl, hE6⟩
    by_cases hq : kidsP n ss
    · have f1 : decide (kidsP n ss) = true := decide_eq_true hq
      simp only [↓VD, VP, VT, isAggD, reduceCtorEq, Int.reduceEq, Int.reduceNe, Int.reduceLT, Int.reduceLE, implies_true, Nat.reduceEqDiff, reduceIte, ite_true, ite_false, eq_self, Nat.reduceLT, Nat.reduceLeDiff, Nat.reduceAdd, Nat.reduceMul, Nat.reduceSub, intOf, f1]
      refine ldA Tryz.underlying28 rfl (hB10.ext hE6) (by rw [vbs_len, lkd, c28]) ?_
      simp only [↓VD, VP, VT, isAggD, reduceCtorEq, Int.reduceEq, Int.reduceNe, Int.reduceLT, Int.reduceLE, implies_true, Nat.reduceEqDiff, reduceIte, ite_true, ite_false, eq_self, Nat.reduceLT, Nat.reduceLeDiff, Nat.reduceAdd, Nat.reduceMul, Nat.reduceSub, intOf]
      refine ldA Tryz.underlying26 rfl (hB5.ext hE6) (by rw [c26]; rfl) ?_
      simp only [↓VD, VP, VT, isAggD, reduceCtorEq, Int.reduceEq, Int.reduceNe, Int.reduceLT, Int.reduceLE, implies_true, Nat.reduceEqDiff, reduceIte, ite_true, ite_false, eq_self, Nat.reduceLT, Nat.reduceLeDiff, Nat.reduceAdd, Nat.reduceMul, Nat.reduceSub, intOf]
      refine (branches_ok n hwt (sumR n (2 :: key)) lkd _ _ ss ps w6 (hs.ext (hE5'.trans' hE6)) (hp.ext (hE5'.trans' hE6))).mono ?_
      rintro _ w7 ⟨t, rfl, ht, hE7⟩
      cases t
      · simp only [↓VD, VP, VT, isAggD, reduceCtorEq, Int.reduceEq, Int.reduceNe, Int.reduceLT, Int.reduceLE, implies_true, Nat.reduceEqDiff, reduceIte, ite_true, ite_false, eq_self, Nat.reduceLT, Nat.reduceLeDiff, Nat.reduceAdd, Nat.reduceMul, Nat.reduceSub, intOf]
        have hnb : ¬ branchesP n (sumR n (2 :: key)) ss ps.length := fun h => by cases ht.2 h
        exact ⟨hE6.trans' hE7, 10, rfl, fun h => by simp [hwt] at h, fun _ h => by omega, fun _ _ h => absurd hq h, fun _ _ _ _ => rfl, fun _ _ _ h => absurd h hnb⟩
      · simp only [↓VD, VP, VT, isAggD, reduceCtorEq, Int.reduceEq, Int.reduceNe, Int.reduceLT, Int.reduceLE, implies_true, Nat.reduceEqDiff, reduceIte, ite_true, ite_false, eq_self, Nat.reduceLT, Nat.reduceLeDiff, Nat.reduceAdd, Nat.reduceMul, Nat.reduceSub, intOf]
        have hbr : branchesP n (sumR n (2 :: key)) ss ps.length := ht.1 rfl
        have hE67 := hE6.trans' hE7
        refine ldA Tryz.underlying28 rfl (hB10.ext hE67) (by rw [vbs_len, lkd, c28]) ?_
        simp only [↓VD, VP, VT, isAggD, reduceCtorEq, Int.reduceEq, Int.reduceNe, Int.reduceLT, Int.reduceLE, implies_true, Nat.reduceEqDiff, reduceIte, ite_true, ite_false, eq_self, Nat.reduceLT, Nat.reduceLeDiff, Nat.reduceAdd, Nat.reduceMul, Nat.reduceSub, intOf]
        refine ldA Tryz.underlying26 rfl (hB5.ext hE67) (by rw [c26]; rfl) ?_
        simp only [↓VD, VP, VT, isAggD, reduceCtorEq, Int.reduceEq, Int.reduceNe, Int.reduceLT, Int.reduceLE, implies_true, Nat.reduceEqDiff, reduceIte, ite_true, ite_false, eq_self, Nat.reduceLT, Nat.reduceLeDiff, Nat.reduceAdd, Nat.reduceMul, Nat.reduceSub, intOf]
        refine (bucket_ok n (sumR n (2 :: key)) lkd _ _ ss ps w7 (hW.ext (hE5'.trans' hE67)) (hs.ext (hE5'.trans' hE67)) (hp.ext (hE5'.trans' hE67)) hpl).mono ?_
        rintro _ w8 ⟨t, rfl, ht, hE8⟩
        cases t
        · simp only [↓VD, VP, VT, isAggD, reduceCtorEq, Int.reduceEq, Int.reduceNe, Int.reduceLT, Int.reduceLE, implies_true, Nat.reduceEqDiff, reduceIte, ite_true, ite_false, eq_self, Nat.reduceLT, Nat.reduceLeDiff, Nat.reduceAdd, Nat.reduceMul, Nat.reduceSub, intOf]
          have hnb : ¬ pairsP n (sumR n (2 :: key)) ss.length ps := fun h => by cases ht.2 h
          exact ⟨hE67.trans' hE8, 10, rfl, fun h => by simp [hwt] at h, fun _ h => by omega, fun _ _ h => absurd hq h, fun _ _ _ _ => rfl, fun _ _ _ _ h => absurd h hnb⟩
        · simp only [↓VD, VP, VT, isAggD, reduceCtorEq, Int.reduceEq, Int.reduceNe, Int.reduceLT, Int.reduceLE, implies_true, Nat.reduceEqDiff, reduceIte, ite_true, ite_false, eq_self, Nat.reduceLT, Nat.reduceLeDiff, Nat.reduceAdd, Nat.reduceMul, Nat.reduceSub, intOf]
          exact ⟨hE67.trans' hE8, 0, by simpa using heq, RootE.mk n key ss ps hwt hl hq hbr (ht.1 rfl)⟩
    · have f1 : decide (kidsP n ss) = false := decide_eq_false hq
      simp only [↓VD, VP, VT, isAggD, reduceCtorEq, Int.reduceEq, Int.reduceNe, Int.reduceLT, Int.reduceLE, implies_true, Nat.reduceEqDiff, reduceIte, ite_true, ite_false, eq_self, Nat.reduceLT, Nat.reduceLeDiff, Nat.reduceAdd, Nat.reduceMul, Nat.reduceSub, intOf, f1]
      exact ⟨hE6, 3, rfl, fun h => by simp [hwt] at h, fun _ h => by omega, fun _ _ _ => rfl, fun _ _ h => absurd h hq, fun _ _ h => absurd h hq⟩
  · rintro s6 w6 ⟨hE6, h0, h1, h5, h6, h10, e, h11, hR⟩
    replace hB5 := hB5.ext hE6
    replace hB6 := hB6.ext hE6
    replace hB10 := hB10.ext hE6
    have hE6' := hE5'.trans' hE6
    simp only [↓VD, VP, VT, isAggD, reduceCtorEq, Int.reduceEq, Int.reduceNe, Int.reduceLT, Int.reduceLE, implies_true, Nat.reduceEqDiff, reduceIte, ite_true, ite_false, eq_self, Nat.reduceLT, Nat.reduceLeDiff, Nat.reduceAdd, Nat.reduceMul, Nat.reduceSub, intOf, h0, h1, h5, h6, h10, h11]
    refine ⟨fun hne => ?_, fun heq => ?_⟩
    · refine bldC (List.replicate 32 (.int .u8 0)) (by kernel_rfl) ?_
      rw [vbs_rep]
      simp only [↓VD, VP, VT, isAggD, reduceCtorEq, Int.reduceEq, Int.reduceNe, Int.reduceLT, Int.reduceLE, implies_true, Nat.reduceEqDiff, reduceIte, ite_true, ite_false, eq_self, Nat.reduceLT, Nat.reduceLeDiff, Nat.reduceAdd, Nat.reduceMul, Nat.reduceSub, intOf, h0, h1, h5, h6, h10, h11]
      refine stAll hB6 (vs := vbs (List.replicate 32 0)) rfl (by rw [c28]; decide) (by rw [c28]; simp [vbs]) (by rw [c28]; simp [vbs]) (vbs_one _) (fun w7 hP7 => ?_)
      simp only [↓VD, VP, VT, isAggD, reduceCtorEq, Int.reduceEq, Int.reduceNe, Int.reduceLT, Int.reduceLE, implies_true, Nat.reduceEqDiff, reduceIte, ite_true, ite_false, eq_self, Nat.reduceLT, Nat.reduceLeDiff, Nat.reduceAdd, Nat.reduceMul, Nat.reduceSub, intOf, h0, h1, h5, h6, h10, h11]
      refine ldA Tryz.underlying28 rfl hP7.blk (by rw [c28]; simp [vbs]) ?_
      have he0 : ¬ e = 0 := by omega
      simp only [↓VD, VP, VT, isAggD, reduceCtorEq, Int.reduceEq, Int.reduceNe, Int.reduceLT, Int.reduceLE, implies_true, Nat.reduceEqDiff, reduceIte, ite_true, ite_false, eq_self, Nat.reduceLT, Nat.reduceLeDiff, Nat.reduceAdd, Nat.reduceMul, Nat.reduceSub, intOf, h0, h1, h5, h6, h10, h11]
      refine ⟨e, .slice none 0 0, ?_, hR, ?_, hE6'.trans (hP7.below (by omega))⟩
      · simp [outD, outT, he0]
      · simp only [outV, if_neg he0]
        exact Own.nil _ _ _ _
    · have he0 : e = 0 := by omega
      subst he0
      obtain ⟨hsz, hss, hrk⟩ := hR.sizes hpn
      have hps := hp
      obtain ⟨⟨_, _, hcells, hnc, hcm, hc⟩, hpp⟩ := hps
      cases hcells
      have hud : (outD 0 n key ss ps).length = 32 := outD_len _ _ _ _ _
      have hue : outD 0 n key ss ps = upF n (sumR n (2 :: key)) (backL ss) (up0 n (ps.map PR.dat)) := rfl
      refine ldAt (pre := [.slice sa ss.length cs]) (post := []) Tryz.underlying24 rfl hB5 rfl ?_
      simp only [↓VD, VP, VT, isAggD, reduceCtorEq, Int.reduceEq, Int.reduceNe, Int.reduceLT, Int.reduceLE, implies_true, Nat.reduceEqDiff, reduceIte, ite_true, ite_false, eq_self, Nat.reduceLT, Nat.reduceLeDiff, Nat.reduceAdd, Nat.reduceMul, Nat.reduceSub, intOf, h0, h1, h5, h6, h10, h11]
      refine loopT (fun s' W' => Ext w6 W' ∧ ∃ i : Nat, i ≤ ps.length ∧ s' 0 = .int .i64 n ∧ s' 1 = .slice ak key.length ck ∧ s' 5 = .pointer (some ⟨w.heap.size, 0, none⟩) ∧ s' 6 = .pointer (some ⟨b6, 0, none⟩) ∧ s' 10 = .pointer (some ⟨b10, 0, none⟩) ∧ s' 51 = .slice pa ps.length cp ∧ s' 52 = .int .i64 ps.length ∧ s' 53 = .int .i64 i ∧
        ∀ p ∈ ps.take i, ¬ p.k = key) (fun s' _ => ps.length - (intOf (s' 53)).toNat) ?_ ?_
      · simp only [↓VD, VP, VT, isAggD, reduceCtorEq, Int.reduceEq, Int.reduceNe, Int.reduceLT, Int.reduceLE, implies_true, Nat.reduceEqDiff, reduceIte, ite_true, ite_false, eq_self, Nat.reduceLT, Nat.reduceLeDiff, Nat.reduceAdd, Nat.reduceMul, Nat.reduceSub, intOf, h0, h1, h5, h6, h10, h11]
        exact ⟨Ext.rfl' _, 0, by omega, rfl, by simp⟩
      · rintro s7 w7 ⟨hE7, i, hi, g0, g1, g5, g6, g10, g51, g52, g53, hz⟩
        replace hB5 := hB5.ext hE7
        replace hB6 := hB6.ext hE7
        replace hB10 := hB10.ext hE7
        have hE7' := hE6'.trans' hE7
        simp only [↓VD, VP, VT, isAggD, reduceCtorEq, Int.reduceEq, Int.reduceNe, Int.reduceLT, Int.reduceLE, implies_true, Nat.reduceEqDiff, reduceIte, ite_true, ite_false, eq_self, Nat.reduceLT, Nat.reduceLeDiff, Nat.reduceAdd, Nat.reduceMul, Nat.reduceSub, intOf, g0, g1, g5, g6, g10, g51, g52, g53]
        refine ⟨fun hlt => ?_, fun hge => ?_⟩
        · have hlt' : i < ps.length := by omega
          rcases hc with hc | ⟨b, o, rfl, hc⟩
          · exfalso
            cases ps with
            | nil => simp at hlt'
            | cons d ds => simp [PR.cells] at hc
          obtain ⟨x, hx⟩ : ∃ x, ps[i]? = some x := ⟨_, List.getElem?_eq_getElem hlt'⟩
          obtain ⟨hxk, hxv⟩ := hpp x (List.mem_of_getElem? hx)
          have hc1 : ∀ j u, (ps.flatMap PR.cells)[j]? = some u → w7.cell? ⟨b, o + j, none⟩ = some u := fun j u hj => by rw [hE7'.cell (block_lt_of_cell (hc j u hj))]; exact hc j u hj
          simp only [↓VD, VP, VT, isAggD, reduceCtorEq, Int.reduceEq, Int.reduceNe, Int.reduceLT, Int.reduceLE, implies_true, Nat.reduceEqDiff, reduceIte, ite_true, ite_false, eq_self, Nat.reduceLT, Nat.reduceLeDiff, Nat.reduceAdd, Nat.reduceMul, Nat.reduceSub, intOf]
          refine ⟨by omega, by omega, ldE (f := PR.cells) c47 Tryz.underlying47 rfl (fun d h => rfl) hc1 hx ?_⟩
          simp only [↓VD, VP, VT, isAggD, reduceCtorEq, Int.reduceEq, Int.reduceNe, Int.reduceLT, Int.reduceLE, implies_true, Nat.reduceEqDiff, reduceIte, ite_true, ite_false, eq_self, Nat.reduceLT, Nat.reduceLeDiff, Nat.reduceAdd, Nat.reduceMul, Nat.reduceSub, intOf]
          intro w8 hN8
          obtain ⟨kk, ckk, hkk⟩ := slv_of hxk
          obtain ⟨vv, cvv, hvv⟩ := slv_of hxv
          refine stAll hN8.blk (vs := x.cells) rfl (by rw [c47]; decide) (by rw [c47]; rfl) (by rw [c47]; rfl) (by rw [PR.cells, hkk, hvv]; simp [oneCellV]) (fun w9 hP9 => ?_)
          have s7' := hE7.size
          have s6' := hB6.lt
          have s10' := hB10.lt
          have hE9 : Ext w7 w9 := hN8.ext.trans (hP9.below (Nat.le_refl _))
          have hE9' := hE7'.trans' hE9
          have hvl : x.v.length ≤ 256 := (hR.ok.2.2.2.2 i x hx).2.1
          obtain ⟨xkv, xvv, xk, xv⟩ := x
          simp only at hkk hvv hxk hxv hvl
          subst hkk hvv
          have hB13 : Blk w9 w7.heap.size 47 [.slice kk xk.length ckk, .slice vv xv.length cvv] := hP9.blk
          generalize w7.heap.size = b13 at *
          simp only [↓VD, VP, VT, isAggD, reduceCtorEq, Int.reduceEq, Int.reduceNe, Int.reduceLT, Int.reduceLE, implies_true, Nat.reduceEqDiff, reduceIte, ite_true, ite_false, eq_self, Nat.reduceLT, Nat.reduceLeDiff, Nat.reduceAdd, Nat.reduceMul, Nat.reduceSub, intOf, g0, g1, g5, g6, g10, g51, g52, g53]
          refine ldAt (pre := []) (post := [.slice vv xv.length cvv]) Tryz.underlying22 rfl hB13 rfl ?_
          simp only [↓VD, VP, VT, isAggD, reduceCtorEq, Int.reduceEq, Int.reduceNe, Int.reduceLT, Int.reduceLE, implies_true, Nat.reduceEqDiff, reduceIte, ite_true, ite_false, eq_self, Nat.reduceLT, Nat.reduceLeDiff, Nat.reduceAdd, Nat.reduceMul, Nat.reduceSub, intOf, g0, g1, g5, g6, g10, g51, g52, g53]
          refine (BEqual_ok xk key _ _ w9 (hxk.ext hE9') (hkv.ext hE9')).mono ?_
          rintro _ _ ⟨rfl, rfl⟩
          by_cases hkey : xk = key
          · have f1 : (xk = key) = True := eq_true hkey
            simp only [↓VD, VP, VT, isAggD, reduceCtorEq, Int.reduceEq, Int.reduceNe, Int.reduceLT, Int.reduceLE, implies_true, Nat.reduceEqDiff, reduceIte, ite_true, ite_false, eq_self, Nat.reduceLT, Nat.reduceLeDiff, Nat.reduceAdd, Nat.reduceMul, Nat.reduceSub, intOf, g0, g1, g5, g6, g10, g51, g52, g53, f1]
            have hval : valOf ps key = some xv := by
              have h1 : ps = ps.take i ++ (⟨.slice kk xk.length ckk, .slice vv xv.length cvv, xk, xv⟩ :: ps.drop (i + 1)) := by
                obtain ⟨hil, he⟩ := List.getElem?_eq_some_iff.1 hx
                rw [← he]
                simp
              unfold valOf
              rw [h1, List.find?_append, List.find?_eq_none.2 (fun p hp' => by simpa using hz p hp')]
              simp [hkey]
            have hxl : xv.length ≤ 140737488355328 := by omega
            refine drawH (fun W' => Blk W' b10 28 (vbs (sumR n (2 :: key))) ∧ Blk W' w.heap.size 26 [.slice sa ss.length cs, .slice (some ⟨b, o, none⟩) ps.length cp] ∧ Blk W' b13 47 [.slice kk xk.length ckk, .slice vv xv.length cvv]) [0, 1, 2, 4, 5, 3, 6, 7, 8, 9, 10] mixed (by decide +kernel) (fun w10 hE10 hh => ⟨⟨(hB10.ext hE9).ext hE10, (hB5.ext hE9).ext hE10, hB13.ext hE10⟩, ?_⟩)
            have hE10' := hE9'.trans' hE10
            simp only [↓VD, VP, VT, isAggD, reduceCtorEq, Int.reduceEq, Int.reduceNe, Int.reduceLT, Int.reduceLE, implies_true, Nat.reduceEqDiff, reduceIte, ite_true, ite_false, eq_self, Nat.reduceLT, Nat.reduceLeDiff, Nat.reduceAdd, Nat.reduceMul, Nat.reduceSub, intOf, g0, g1, g5, g6, g10, g51, g52, g53]
            refine loadS_of _ (fun w' h => ldA Tryz.underlying28 rfl h.1 (by rw [vbs_len, lkd, c28]) rfl) ?_
            simp only [↓VD, VP, VT, isAggD, reduceCtorEq, Int.reduceEq, Int.reduceNe, Int.reduceLT, Int.reduceLE, implies_true, Nat.reduceEqDiff, reduceIte, ite_true, ite_false, eq_self, Nat.reduceLT, Nat.reduceLeDiff, Nat.reduceAdd, Nat.reduceMul, Nat.reduceSub, intOf, g0, g1, g5, g6, g10, g51, g52, g53]
            refine loadS_of _ (fun w' h => ldA Tryz.underlying26 rfl h.2.1 (by rw [c26]; rfl) rfl) ?_
            simp only [↓VD, VP, VT, isAggD, reduceCtorEq, Int.reduceEq, Int.reduceNe, Int.reduceLT, Int.reduceLE, implies_true, Nat.reduceEqDiff, reduceIte, ite_true, ite_false, eq_self, Nat.reduceLT, Nat.reduceLeDiff, Nat.reduceAdd, Nat.reduceMul, Nat.reduceSub, intOf, g0, g1, g5, g6, g10, g51, g52, g53]
            refine loadS_of _ (fun w' h => ldAt (pre := [.slice kk xk.length ckk]) (post := []) Tryz.underlying22 rfl h.2.2 rfl rfl) ?_
            simp only [↓VD, VP, VT, isAggD, reduceCtorEq, Int.reduceEq, Int.reduceNe, Int.reduceLT, Int.reduceLE, implies_true, Nat.reduceEqDiff, reduceIte, ite_true, ite_false, eq_self, Nat.reduceLT, Nat.reduceLeDiff, Nat.reduceAdd, Nat.reduceMul, Nat.reduceSub, intOf, g0, g1, g5, g6, g10, g51, g52, g53]
            refine (up_ok n (sumR n (2 :: key)) lkd _ _ ss ps w10 (hW.ext hE10') (hs.ext hE10') (hp.ext hE10') hsz hss hrk).mono ?_
            rintro _ w11 ⟨rfl, hE11⟩
            refine told (fun _ => True) ⟨((hB10.ext hE9).ext hE10).ext hE11, ((hB5.ext hE9).ext hE10).ext hE11, (hB13.ext hE10).ext hE11⟩ trivial ?_
            simp only [↓VD, VP, VT, isAggD, reduceCtorEq, Int.reduceEq, Int.reduceNe, Int.reduceLT, Int.reduceLE, implies_true, Nat.reduceEqDiff, reduceIte, ite_true, ite_false, eq_self, Nat.reduceLT, Nat.reduceLeDiff, Nat.reduceAdd, Nat.reduceMul, Nat.reduceSub, intOf, g0, g1, g5, g6, g10, g51, g52, g53]
            refine (BClone_ok xv _ w11 (hxv.ext (hE10'.trans' hE11)) hxl).mono ?_
            rintro v' w12 ⟨hO12, hE12⟩
            refine told (fun _ => True) ⟨(((hB10.ext hE9).ext hE10).ext hE11).ext hE12, (((hB5.ext hE9).ext hE10).ext hE11).ext hE12, ((hB13.ext hE10).ext hE11).ext hE12⟩ trivial ?_
            simp only [↓VD, VP, VT, isAggD, reduceCtorEq, Int.reduceEq, Int.reduceNe, Int.reduceLT, Int.reduceLE, implies_true, Nat.reduceEqDiff, reduceIte, ite_true, ite_false, eq_self, Nat.reduceLT, Nat.reduceLeDiff, Nat.reduceAdd, Nat.reduceMul, Nat.reduceSub, intOf, g0, g1, g5, g6, g10, g51, g52, g53]
            have hE912 : Ext w7 w12 := ((hE9.trans' hE10).trans' hE11).trans' hE12
            rw [← hue]
            refine stAll (hB6.ext hE912) rfl (by rw [c28]; decide) (by rw [c28, vbs_len, hud]) (by rw [c28]; simp [vbs]) (vbs_one _) (fun w13 hP13 => ?_)
            refine told (fun _ => True) ⟨hP13.keep ((((hB10.ext hE9).ext hE10).ext hE11).ext hE12) (by omega), hP13.keep ((((hB5.ext hE9).ext hE10).ext hE11).ext hE12) (by omega), hP13.keep (((hB13.ext hE10).ext hE11).ext hE12) (by omega)⟩ trivial ?_
            simp only [↓VD, VP, VT, isAggD, reduceCtorEq, Int.reduceEq, Int.reduceNe, Int.reduceLT, Int.reduceLE, implies_true, Nat.reduceEqDiff, reduceIte, ite_true, ite_false, eq_self, Nat.reduceLT, Nat.reduceLeDiff, Nat.reduceAdd, Nat.reduceMul, Nat.reduceSub, intOf, g0, g1, g5, g6, g10, g51, g52, g53]
            refine ldA Tryz.underlying28 rfl hP13.blk (by rw [vbs_len, hud, c28]) ?_
            simp only [↓VD, VP, VT, isAggD, reduceCtorEq, Int.reduceEq, Int.reduceNe, Int.reduceLT, Int.reduceLE, implies_true, Nat.reduceEqDiff, reduceIte, ite_true, ite_false, eq_self, Nat.reduceLT, Nat.reduceLeDiff, Nat.reduceAdd, Nat.reduceMul, Nat.reduceSub, intOf, g0, g1, g5, g6, g10, g51, g52, g53]
            refine ⟨0, v', ?_, hR, ?_, (hE7'.trans' hE912).trans (hP13.below (by omega))⟩
            · simp [outT, hval]
            · simp only [outV, hval, if_true, Option.getD_some]
              have h1 := hE10'.size
              have h2 := hE11.size
              exact (Own.put hO12 (hB6.ext hE912) (by decide) hP13).base (by omega)
          · have f1 : (xk = key) = False := eq_false hkey
            simp only [↓VD, VP, VT, isAggD, reduceCtorEq, Int.reduceEq, Int.reduceNe, Int.reduceLT, Int.reduceLE, implies_true, Nat.reduceEqDiff, reduceIte, ite_true, ite_false, eq_self, Nat.reduceLT, Nat.reduceLeDiff, Nat.reduceAdd, Nat.reduceMul, Nat.reduceSub, intOf, g0, g1, g5, g6, g10, g51, g52, g53, f1]
            refine ⟨⟨hE7.trans' hE9, i + 1, by omega, ?_, (take_all_succ (p := fun p => ¬ p.k = key) hx).2 ⟨hz, hkey⟩⟩, ?_⟩
            · rw [w64 (by omega) (by omega)]; rfl
            · rw [w64 (by omega) (by omega)]; omega
        · rw [List.take_of_length_le (by omega)] at hz
          have hval : valOf ps key = none := by
            unfold valOf
            rw [List.find?_eq_none.2 (fun p hp' => by simpa using hz p hp')]
            rfl
          refine ldA Tryz.underlying28 rfl hB10 (by rw [vbs_len, lkd, c28]) ?_
          simp only [↓VD, VP, VT, isAggD, reduceCtorEq, Int.reduceEq, Int.reduceNe, Int.reduceLT, Int.reduceLE, implies_true, Nat.reduceEqDiff, reduceIte, ite_true, ite_false, eq_self, Nat.reduceLT, Nat.reduceLeDiff, Nat.reduceAdd, Nat.reduceMul, Nat.reduceSub, intOf, g0, g1, g5, g6, g10, g51, g52, g53]
          refine ldA Tryz.underlying26 rfl hB5 (by rw [c26]; rfl) ?_
          simp only [↓VD, VP, VT, isAggD, reduceCtorEq, Int.reduceEq, Int.reduceNe, Int.reduceLT, Int.reduceLE, implies_true, Nat.reduceEqDiff, reduceIte, ite_true, ite_false, eq_self, Nat.reduceLT, Nat.reduceLeDiff, Nat.reduceAdd, Nat.reduceMul, Nat.reduceSub, intOf, g0, g1, g5, g6, g10, g51, g52, g53]
          refine (up_ok n (sumR n (2 :: key)) lkd _ _ ss ps w7 (hW.ext hE7') (hs.ext hE7') (hp.ext hE7') hsz hss hrk).mono ?_
          rintro _ w11 ⟨rfl, hE11⟩
          simp only [↓VD, VP, VT, isAggD, reduceCtorEq, Int.reduceEq, Int.reduceNe, Int.reduceLT, Int.reduceLE, implies_true, Nat.reduceEqDiff, reduceIte, ite_true, ite_false, eq_self, Nat.reduceLT, Nat.reduceLeDiff, Nat.reduceAdd, Nat.reduceMul, Nat.reduceSub, intOf, g0, g1, g5, g6, g10, g51, g52, g53]
          rw [← hue]
          refine stAll (hB6.ext hE11) rfl (by rw [c28]; decide) (by rw [c28, vbs_len, hud]) (by rw [c28]; simp [vbs]) (vbs_one _) (fun w13 hP13 => ?_)
          simp only [↓VD, VP, VT, isAggD, reduceCtorEq, Int.reduceEq, Int.reduceNe, Int.reduceLT, Int.reduceLE, implies_true, Nat.reduceEqDiff, reduceIte, ite_true, ite_false, eq_self, Nat.reduceLT, Nat.reduceLeDiff, Nat.reduceAdd, Nat.reduceMul, Nat.reduceSub, intOf, g0, g1, g5, g6, g10, g51, g52, g53]
          refine ldA Tryz.underlying28 rfl hP13.blk (by rw [vbs_len, hud, c28]) ?_
          simp only [↓VD, VP, VT, isAggD, reduceCtorEq, Int.reduceEq, Int.reduceNe, Int.reduceLT, Int.reduceLE, implies_true, Nat.reduceEqDiff, reduceIte, ite_true, ite_false, eq_self, Nat.reduceLT, Nat.reduceLeDiff, Nat.reduceAdd, Nat.reduceMul, Nat.reduceSub, intOf, g0, g1, g5, g6, g10, g51, g52, g53]
          refine ⟨0, .slice none 0 0, ?_, hR, ?_, (hE7'.trans' hE11).trans (hP13.below (by omega))⟩
          · simp [outT, hval]
          · simp only [outV, hval, if_true, Option.getD_none]
            exact Own.nil _ _ _ _

end Go.Proofs.YtebbgninkbghlaaGreatDoor

/-! HckE -/
namespace Go.Proofs.YtebbgninkbghlaaGreatDoor
set_option maxRecDepth 100000
open Go Go.RowKit
set_option linter.unusedVariables false
set_option linter.unusedSimpArgs false

def checkE (n : Int) (root d : List UInt8) (e : Nat) : Nat := if e = 1 ∨ e = 2 then e else if formB n root = false then 3 else if e = 0 ∧ d ≠ root then 10 else e
def checkV (f : Nat) (key : List UInt8) (ps : List PR) : List UInt8 := outV f key ps

theorem Check_ok (n : Int) (root key : List UInt8) (hrt : root.length = 32) (kv sv pv : Value) (ss : List SR) (ps : List PR) (w : World) (hW : WordsAt w 1) (hkv : SlB w kv key) (hkl : key.length + 1 ≤ 140737488355328) (hs : StepsAt w sv ss) (hp : PairsAt w pv ps)
    (hpl : ∀ p ∈ ps, p.k.length + 1 ≤ 140737488355328) (hpn : ps.length ≤ 400000000000) :
    CallK Tryz.prog 19 [.int .i64 n, .agg (vbs root).toArray, kv, .agg [sv, pv].toArray].toArray w fun r w' => ∃ e f v, r = .tuple [v, .bool (outT f key ps), .int .i64 (f : Nat)].toArray ∧ RootE n key ss ps e ∧ f = checkE n root (outD e n key ss ps) e ∧
      Own w' w.heap.size 5 1 v (outV f key ps).length (vbs (outV f key ps)) ∧ Ext w w' := by
  obtain ⟨sa, cs, hse⟩ := slv_of hs.1
  obtain ⟨pa, cp, hpe⟩ := slv_of hp.1
  subst hse hpe
  refine enterT Tryz.func19 rfl Tryz.ntmps19 Tryz.results19 rfl (by decide) ?_
  simp only [↓VD, VP, VT, isAggD, reduceCtorEq, Int.reduceEq, Int.reduceNe, Int.reduceLT, Int.reduceLE, implies_true, Nat.reduceEqDiff, reduceIte, ite_true, ite_false, eq_self, Nat.reduceLT, Nat.reduceLeDiff, Nat.reduceAdd, Nat.reduceMul, Nat.reduceSub, intOf]
  intro w1 hN1 w2 hN2
  have s1 := hN1.size
  have s2 := hN2.size
  have hB5 := hN1.blk.ext hN2.ext
  have hB7 := hN2.blk
  have hE2 : Ext w w2 := hN1.ext.trans' hN2.ext
  generalize w1.heap.size = b7 at *
  refine ldA Tryz.underlying26 rfl hB7 (by rw [c26]; rfl) ?_
  simp only [↓VD, VP, VT, isAggD, reduceCtorEq, Int.reduceEq, Int.reduceNe, Int.reduceLT, Int.reduceLE, implies_true, Nat.reduceEqDiff, reduceIte, ite_true, ite_false, eq_self, Nat.reduceLT, Nat.reduceLeDiff, Nat.reduceAdd, Nat.reduceMul, Nat.reduceSub, intOf]
  refine (RootOf_ok n key kv _ _ ss ps w2 (hW.ext hE2) (hkv.ext hE2) hkl (hs.ext hE2) (hp.ext hE2) hpl hpn).mono ?_
  rintro _ w3 ⟨e, v, rfl, hR, hO, hE3⟩
  have lod := outD_len e n key ss ps
  simp only [↓VD, VP, VT, isAggD, reduceCtorEq, Int.reduceEq, Int.reduceNe, Int.reduceLT, Int.reduceLE, implies_true, Nat.reduceEqDiff, reduceIte, ite_true, ite_false, eq_self, Nat.reduceLT, Nat.reduceLeDiff, Nat.reduceAdd, Nat.reduceMul, Nat.reduceSub, intOf]
  intro w4 hN4
  have s3 := hE3.size
  have s4 := hN4.size
  refine stAll hN4.blk rfl (by rw [c28]; decide) (by rw [c28, vbs_len, lod]) (by rw [c28]; simp) (vbs_one _) (fun w5 hP5 => ?_)
  have hE35 : Ext w3 w5 := hN4.ext.trans (hP5.below (Nat.le_refl _))
  have hE5 : Ext w2 w5 := hE3.trans' hE35
  have hB11 := hP5.blk
  generalize w3.heap.size = b11 at *
  replace hB5 := hB5.ext hE5
  replace hO := (hO.ext hE35).base (show w.heap.size ≤ w2.heap.size by omega)
  have hE5' := hE2.trans' hE5
  have hlast : ∀ (f : Nat) (W : World), Ext w5 W → f = checkE n root (outD e n key ss ps) e → (f = 0 → ∃ e' f' v', (.tuple #[v, .bool (outT e key ps), .int .i64 0] : Value) = .tuple [v', .bool (outT f' key ps), .int .i64 (f' : Nat)].toArray ∧ RootE n key ss ps e' ∧ f' = checkE n root (outD e' n key ss ps) e' ∧ Own W w.heap.size 5 1 v' (outV f' key ps).length (vbs (outV f' key ps)) ∧ Ext w W) ∧
      (f ≠ 0 → ∃ e' f' v', (.tuple #[.slice none 0 0, .bool false, .int .i64 f] : Value) = .tuple [v', .bool (outT f' key ps), .int .i64 (f' : Nat)].toArray ∧ RootE n key ss ps e' ∧ f' = checkE n root (outD e' n key ss ps) e' ∧ Own W w.heap.size 5 1 v' (outV f' key ps).length (vbs (outV f' key ps)) ∧ Ext w W) := by
    intro f W hEW hf
    refine ⟨fun h0 => ?_, fun hne => ?_⟩
    · have he : e = 0 := by
        rw [h0] at hf
        unfold checkE at hf
        by_cases h1 : e = 1 ∨ e = 2
        · rw [if_pos h1] at hf; omega
        · rw [if_neg h1] at hf
          by_cases h2 : formB n root = false
          · rw [if_pos h2] at hf; omega
          · rw [if_neg h2] at hf
            by_cases h3 : e = 0 ∧ outD e n key ss ps ≠ root
            · exact h3.1
            · rw [if_neg h3] at hf; omega
      subst he
      subst h0
      exact ⟨0, 0, v, rfl, hR, hf, hO.ext hEW, hE5'.trans' hEW⟩
    · refine ⟨e, f, .slice none 0 0, ?_, hR, hf, ?_, hE5'.trans' hEW⟩
      · simp [outT, hne]
      · simp only [outV, if_neg hne]
        exact Own.nil _ _ _ _
  simp only [↓VQ, VP, VT, isAggD, reduceCtorEq, Int.reduceEq, Int.reduceNe, Int.reduceLT, Int.reduceLE, implies_true, Nat.reduceEqDiff, reduceIte, ite_true, ite_false, eq_self, Nat.reduceLT, Nat.reduceLeDiff, Nat.reduceAdd, Nat.reduceMul, Nat.reduceSub, intOf]
  rw [v_seq]
  refine joinT (fun s' W' => Ext w5 W' ∧ s' 12 = v ∧ s' 13 = .bool (outT e key ps) ∧ ∃ f : Nat, s' 14 = .int .i64 f ∧ f = checkE n root (outD e n key ss ps) e) ?_ ?_
  · by_cases h1 : e = 1
    · have f1 : ((e : Int) = 1) = True := eq_true (by omega)
      simp only [↓VD, VP, VT, isAggD, reduceCtorEq, Int.reduceEq, Int.reduceNe, Int.reduceLT, Int.reduceLE, implies_true, Nat.reduceEqDiff, reduceIte, ite_true, ite_false, eq_self, Nat.reduceLT, Nat.reduceLeDiff, Nat.reduceAdd, Nat.reduceMul, Nat.reduceSub, intOf, f1]
      exact ⟨Ext.rfl' _, e, rfl, by simp [checkE, h1]⟩
    have f1 : ((e : Int) = 1) = False := eq_false (by omega)
    by_cases h2 : e = 2
    · have f2 : ((e : Int) = 2) = True := eq_true (by omega)
      simp only [↓VD, VP, VT, isAggD, reduceCtorEq, Int.reduceEq, Int.reduceNe, Int.reduceLT, Int.reduceLE, implies_true, Nat.reduceEqDiff, reduceIte, ite_true, ite_false, eq_self, Nat.reduceLT, Nat.reduceLeDiff, Nat.reduceAdd, Nat.reduceMul, Nat.reduceSub, intOf, f1, f2]
      exact ⟨Ext.rfl' _, e, rfl, by simp [checkE, h2]⟩
    have f2 : ((e : Int) = 2) = False := eq_false (by omega)
    have h12 : ¬ (e = 1 ∨ e = 2) := by omega
    simp only [↓VD, VP, VT, isAggD, reduceCtorEq, Int.reduceEq, Int.reduceNe, Int.reduceLT, Int.reduceLE, implies_true, Nat.reduceEqDiff, reduceIte, ite_true, ite_false, eq_self, Nat.reduceLT, Nat.reduceLeDiff, Nat.reduceAdd, Nat.reduceMul, Nat.reduceSub, intOf, f1, f2]
    refine ldA Tryz.underlying28 rfl hB5 (by rw [vbs_len, hrt, c28]) ?_
    simp only [↓VD, VP, VT, isAggD, reduceCtorEq, Int.reduceEq, Int.reduceNe, Int.reduceLT, Int.reduceLE, implies_true, Nat.reduceEqDiff, reduceIte, ite_true, ite_false, eq_self, Nat.reduceLT, Nat.reduceLeDiff, Nat.reduceAdd, Nat.reduceMul, Nat.reduceSub, intOf, f1, f2]
    refine (Form_ok n root hrt w5).mono ?_
    rintro _ w6 ⟨rfl, hE6⟩
    cases hf : formB n root
    · simp only [↓VD, VP, VT, isAggD, reduceCtorEq, Int.reduceEq, Int.reduceNe, Int.reduceLT, Int.reduceLE, implies_true, Nat.reduceEqDiff, reduceIte, ite_true, ite_false, eq_self, Nat.reduceLT, Nat.reduceLeDiff, Nat.reduceAdd, Nat.reduceMul, Nat.reduceSub, intOf, f1, f2, hf]
      exact ⟨hE6, 3, rfl, by simp [checkE, h12, hf]⟩
    · by_cases h0 : e = 0
      · subst h0
        simp only [↓VD, VP, VT, isAggD, reduceCtorEq, Int.reduceEq, Int.reduceNe, Int.reduceLT, Int.reduceLE, implies_true, Nat.reduceEqDiff, reduceIte, ite_true, ite_false, eq_self, Nat.reduceLT, Nat.reduceLeDiff, Nat.reduceAdd, Nat.reduceMul, Nat.reduceSub, intOf, f1, f2, hf]
        refine ldA Tryz.underlying28 rfl (hB11.ext hE6) (by rw [vbs_len, lod, c28]) ?_
        simp only [↓VD, VP, VT, isAggD, reduceCtorEq, Int.reduceEq, Int.reduceNe, Int.reduceLT, Int.reduceLE, implies_true, Nat.reduceEqDiff, reduceIte, ite_true, ite_false, eq_self, Nat.reduceLT, Nat.reduceLeDiff, Nat.reduceAdd, Nat.reduceMul, Nat.reduceSub, intOf, f1, f2, hf]
        refine ldA Tryz.underlying28 rfl (hB5.ext hE6) (by rw [vbs_len, hrt, c28]) ?_
        simp only [↓VD, VP, VT, isAggD, reduceCtorEq, Int.reduceEq, Int.reduceNe, Int.reduceLT, Int.reduceLE, implies_true, Nat.reduceEqDiff, reduceIte, ite_true, ite_false, eq_self, Nat.reduceLT, Nat.reduceLeDiff, Nat.reduceAdd, Nat.reduceMul, Nat.reduceSub, intOf, f1, f2, hf]
        refine eqd_lit _ _ _ _ _ _ Tryz.underlying5 c5 lod hrt ?_
        by_cases hd : outD 0 n key ss ps = root
        · have f3 : (outD 0 n key ss ps = root) = True := eq_true hd
          simp only [↓VD, VP, VT, isAggD, reduceCtorEq, Int.reduceEq, Int.reduceNe, Int.reduceLT, Int.reduceLE, implies_true, Nat.reduceEqDiff, reduceIte, ite_true, ite_false, eq_self, Nat.reduceLT, Nat.reduceLeDiff, Nat.reduceAdd, Nat.reduceMul, Nat.reduceSub, intOf, f1, f2, hf, f3]
          exact ⟨hE6, 0, rfl, by simp [checkE, hf, hd]⟩
        · have f3 : (outD 0 n key ss ps = root) = False := eq_false hd
          simp only [↓VD, VP, VT, isAggD, reduceCtorEq, Int.reduceEq, Int.reduceNe, Int.reduceLT, Int.reduceLE, implies_true, Nat.reduceEqDiff, reduceIte, ite_true, ite_false, eq_self, Nat.reduceLT, Nat.reduceLeDiff, Nat.reduceAdd, Nat.reduceMul, Nat.reduceSub, intOf, f1, f2, hf, f3]
          exact ⟨hE6, 10, rfl, by simp [checkE, hf, hd]⟩
      · have f3 : ((e : Int) = 0) = False := eq_false (by omega)
        simp only [↓VD, VP, VT, isAggD, reduceCtorEq, Int.reduceEq, Int.reduceNe, Int.reduceLT, Int.reduceLE, implies_true, Nat.reduceEqDiff, reduceIte, ite_true, ite_false, eq_self, Nat.reduceLT, Nat.reduceLeDiff, Nat.reduceAdd, Nat.reduceMul, Nat.reduceSub, intOf, f1, f2, hf, f3]
        exact ⟨hE6, e, rfl, by simp [checkE, h12, hf, h0]⟩
  · rintro s6 w6 ⟨hE6, h12, h13, f, h14, hf⟩
    simp only [↓VD, VP, VT, isAggD, reduceCtorEq, Int.reduceEq, Int.reduceNe, Int.reduceLT, Int.reduceLE, implies_true, Nat.reduceEqDiff, reduceIte, ite_true, ite_false, eq_self, Nat.reduceLT, Nat.reduceLeDiff, Nat.reduceAdd, Nat.reduceMul, Nat.reduceSub, intOf, h12, h13, h14]
    refine ⟨fun hne => (hlast f w6 hE6 hf).2 (by omega), fun heq => (hlast f w6 hE6 hf).1 (by omega)⟩

end Go.Proofs.YtebbgninkbghlaaGreatDoor

/-! LawA -/
namespace Go.Proofs.YtebbgninkbghlaaGreatDoor
set_option maxRecDepth 100000
open Go Go.RowKit
set_option linter.unusedVariables false
set_option linter.unusedSimpArgs false

/-! ### Conversions -/
theorem convB {w : World} {s : ByteArray} {xs : List UInt8} {K : Value → World → Prop} (hs : s.data.toList = xs) (hl : xs.length ≤ 9223372036854775807)
    (hK : ∀ c w', SlB w' (.slice (some ⟨w.heap.size, 0, none⟩) xs.length c) xs → Ext w w' → K (.slice (some ⟨w.heap.size, 0, none⟩) xs.length c) w') : RawConv Tryz.prog 9 22 (.string s) w K := by
  subst hs
  have hsz : s.size = s.data.toList.length := by rw [Array.length_toList]; rfl
  refine ⟨⟨_, _, Lib.run_convert_string_bytes w 9 22 5 s Tryz.underlying9 Tryz.underlying22 Tryz.underlying5, ?_⟩⟩
  rw [hsz]
  refine hK _ _ ⟨_, _, rfl, grownCap_ge _ _ _ _, ?_, Or.inr ⟨w.heap.size, 0, rfl, fun j u hj => ?_⟩⟩ ⟨rfl, rfl, rfl, by rw [Lib.bytesWorld_size]; omega, fun k hk => Lib.bytesWorld_at_old w _ s k hk⟩
  · have := grownCap_le_maxLen w s.data.toList.length 0 5 (by rw [maxLen_eq]; exact hl)
    rwa [maxLen_eq] at this
  · have hj' : j < s.data.toList.length := by have := (List.getElem?_eq_some_iff.1 hj).1; rwa [vbs_len] at this
    rw [Nat.zero_add, Lib.bytesWorld_cell w _ s j (by rw [hsz]; exact hj')]
    rw [vbs_get hj'] at hj
    exact hj
theorem SlN.of_addr {w : World} {k o n c b : Nat} {cells : List Value} (h : SlC w (.slice (some ⟨k, o, none⟩) n c) n cells) (hk : k ≠ b) : SlN w (.slice (some ⟨k, o, none⟩) n c) n cells b := by
  obtain ⟨a, c', he, h1, h2, h3⟩ := h
  cases he
  refine ⟨_, _, rfl, h1, h2, ?_⟩
  rcases h3 with h3 | ⟨k', o', he, h3⟩
  · exact Or.inl h3
  · cases he
    exact Or.inr ⟨k, o, rfl, hk, h3⟩
theorem lbucket_ok (s t : ByteArray) (xs ys : List UInt8) (hs : s.data.toList = xs) (ht : t.data.toList = ys) (hsl : xs.length ≤ 9223372036854775807) (htl : ys.length ≤ 9223372036854775807) (w : World) :
    CallK Tryz.prog 64 [.string s, .string t].toArray w fun v w' => ∃ pv kv vv, v = .agg [.slice none 0 0, pv].toArray ∧ PairsAt w' pv [⟨kv, vv, xs, ys⟩] ∧ Ext w w' := by
  refine enterT Tryz.func64 rfl Tryz.ntmps64 Tryz.results64 rfl (by decide) ?_
  simp only [↓VD, VP, VT, isAggD, reduceCtorEq, Int.reduceEq, Int.reduceNe, Int.reduceLT, Int.reduceLE, implies_true, Nat.reduceEqDiff, reduceIte, ite_true, ite_false, eq_self, Nat.reduceLT, Nat.reduceLeDiff, Nat.reduceAdd, Nat.reduceMul, Nat.reduceSub, intOf]
  intro w1 hN1
  refine convB hs hsl (fun c2 w2 hS2 hE2 => ?_)
  simp only [↓VD, VP, VT, isAggD, reduceCtorEq, Int.reduceEq, Int.reduceNe, Int.reduceLT, Int.reduceLE, implies_true, Nat.reduceEqDiff, reduceIte, ite_true, ite_false, eq_self, Nat.reduceLT, Nat.reduceLeDiff, Nat.reduceAdd, Nat.reduceMul, Nat.reduceSub, intOf]
  refine convB ht htl (fun c3 w3 hS3 hE3 => ?_)
  simp only [↓VD, VP, VT, isAggD, reduceCtorEq, Int.reduceEq, Int.reduceNe, Int.reduceLT, Int.reduceLE, implies_true, Nat.reduceEqDiff, reduceIte, ite_true, ite_false, eq_self, Nat.reduceLT, Nat.reduceLeDiff, Nat.reduceAdd, Nat.reduceMul, Nat.reduceSub, intOf]
  refine bldC [.slice (some ⟨w1.heap.size, 0, none⟩) xs.length c2, .slice (some ⟨w2.heap.size, 0, none⟩) ys.length c3] (by kernel_rfl) ?_
  simp only [↓VD, VP, VT, isAggD, reduceCtorEq, Int.reduceEq, Int.reduceNe, Int.reduceLT, Int.reduceLE, implies_true, Nat.reduceEqDiff, reduceIte, ite_true, ite_false, eq_self, Nat.reduceLT, Nat.reduceLeDiff, Nat.reduceAdd, Nat.reduceMul, Nat.reduceSub, intOf]
  refine ⟨rfl, rfl, fun w4 hN4 => ?_⟩
  refine bldC [.slice none 0 0, .slice (some ⟨w3.heap.size, 0, none⟩) 1 1] (by kernel_rfl) ?_
  simp only [↓VD, VP, VT, isAggD, reduceCtorEq, Int.reduceEq, Int.reduceNe, Int.reduceLT, Int.reduceLE, implies_true, Nat.reduceEqDiff, reduceIte, ite_true, ite_false, eq_self, Nat.reduceLT, Nat.reduceLeDiff, Nat.reduceAdd, Nat.reduceMul, Nat.reduceSub, intOf]
  have s1 := hN1.size
  have s2 := hE2.size
  have s3 := hE3.size
  have s4 := hN4.size
  have hE14 : Ext w1 w4 := (hE2.trans' hE3).trans' hN4.ext
  refine stAll (hN1.blk.ext hE14) (vs := [.slice none 0 0, .slice (some ⟨w3.heap.size, 0, none⟩) 1 1]) rfl (by rw [c26]; decide) (by rw [c26]; rfl) (by rw [c26]; rfl) (by simp [oneCellV]) (fun w5 hP5 => ?_)
  simp only [↓VD, VP, VT, isAggD, reduceCtorEq, Int.reduceEq, Int.reduceNe, Int.reduceLT, Int.reduceLE, implies_true, Nat.reduceEqDiff, reduceIte, ite_true, ite_false, eq_self, Nat.reduceLT, Nat.reduceLeDiff, Nat.reduceAdd, Nat.reduceMul, Nat.reduceSub, intOf]
  refine ldA Tryz.underlying26 rfl hP5.blk (by rw [c26]; rfl) ?_
  have hE5 : Ext w w5 := (hN1.ext.trans' hE14).trans (hP5.below (Nat.le_refl _))
  have hB4 := hP5.keep hN4.blk (by omega)
  refine ⟨_, _, _, rfl, ⟨SlC.of_blk hB4 (by decide), fun p hp => ?_⟩, hE5⟩
  obtain rfl : p = _ := by simpa using hp
  exact ⟨(((SlN.of_addr hS2 (b := w.heap.size) (by omega)).ext (hE3.trans' hN4.ext)).put hP5).sl, (((SlN.of_addr hS3 (b := w.heap.size) (by omega)).ext hN4.ext).put hP5).sl⟩

/-! ### awake, plainly -/
theorem comPP_nonneg (n : Int) (a b : List UInt8) : 0 ≤ (comPP n a b).1 := by
  unfold comPP
  split
  · exact Int.natCast_nonneg _
  · exact Int.le_refl _
theorem one_ok (n : Int) (key : List UInt8) (p : PR) (hn : widB n = true) (hk : key.length ≤ 64) (h1 : p.k.length ≤ 64) (h2 : p.v.length ≤ 256) : RootE n key [] [p] 0 := by
  have hw := (widB_iff n).1 hn
  refine RootE.mk n key [] [p] hn hk (fun s hs => by cases hs) ⟨by simp; omega, fun i s hs => by simp at hs⟩ ?_
  intro i a ha
  have hi : i = 0 := by
    have := (List.getElem?_eq_some_iff.1 ha).1
    simp at this
    exact this
  subst hi
  obtain rfl : p = a := by simpa using ha
  refine ⟨h1, h2, fun q h => by omega, fun q hq => ?_, comPP_nonneg _ _ _⟩
  obtain rfl : p = q := by simpa using hq
  rfl
theorem outD_one (n : Int) (key : List UInt8) (p : PR) : outD 0 n key [] [p] = sumR n (bucketP [p.dat]) := rfl
theorem steps_nil (w : World) : StepsAt w (.slice none 0 0) [] := ⟨⟨none, 0, rfl, Nat.le_refl _, by decide, Or.inl rfl⟩, fun s h => by cases h⟩

theorem awake_ok (w : World) (hW : WordsAt w 1) :
    CallK Tryz.prog 14 [].toArray w fun v w' => v = .bool true ∧ Ext w w' := by
  have hw2 : widB 2 = true := rfl
  have hsR : sumR 2 (bucketP [([97], [49])]) = sumP 2 (bucketP [([97], [49])]) := by unfold sumR; rw [if_pos hw2]; rfl
  have hbl : (bucketP [([97], [49])]).length + 200 ≤ 140737488355328 := by
    have h := bucketP_le [(([97] : List UInt8), ([49] : List UInt8))] (by simp) (by simp)
    have h1 := pairsB_le [(([97] : List UInt8), ([49] : List UInt8))] (by simp)
    have u1 := uvarP_len10 (n := 1) (by omega)
    simp only [bucketP, List.length_cons, List.length_append, List.length_nil, Nat.zero_add] at h1 ⊢
    omega
  have hfm : formB 2 (sumP 2 (bucketP [([97], [49])])) = true := by rw [← hsR]; exact form_sumR 2 _ hw2
  have hRl : (sumP 2 (bucketP [([97], [49])])).length = 32 := sumP_len _ _ (by decide)
  refine enterT Tryz.func14 rfl Tryz.ntmps14 Tryz.results14 rfl (by decide) ?_
  simp only [↓VD, VP, VT, isAggD, reduceCtorEq, Int.reduceEq, Int.reduceNe, Int.reduceLT, Int.reduceLE, implies_true, Nat.reduceEqDiff, reduceIte, ite_true, ite_false, eq_self, Nat.reduceLT, Nat.reduceLeDiff, Nat.reduceAdd, Nat.reduceMul, Nat.reduceSub, intOf]
  refine (lbucket_ok _ _ [97] [49] rfl rfl (by decide) (by decide) w).mono ?_
  rintro _ w1 ⟨pv, kv, vv, rfl, hp1, hE1⟩
  have hps : ∀ {W : World}, Ext w1 W → PairsAt W pv [⟨kv, vv, [97], [49]⟩] := fun h => hp1.ext h
  obtain ⟨pa, pc, hpe⟩ := slv_of hp1.1
  simp only [List.length_cons, List.length_nil, Nat.zero_add] at hpe
  subst hpe
  simp only [↓VD, VP, VT, isAggD, reduceCtorEq, Int.reduceEq, Int.reduceNe, Int.reduceLT, Int.reduceLE, implies_true, Nat.reduceEqDiff, reduceIte, ite_true, ite_false, eq_self, Nat.reduceLT, Nat.reduceLeDiff, Nat.reduceAdd, Nat.reduceMul, Nat.reduceSub, intOf]
  intro w2 hN2
  have s1 := hE1.size
  have s2 := hN2.size
  refine stAll hN2.blk (vs := [.slice none 0 0, .slice pa 1 pc]) rfl (by rw [c26]; decide) (by rw [c26]; rfl) (by rw [c26]; rfl) (by simp [oneCellV]) (fun w3 hP3 => ?_)
  have hE3 : Ext w1 w3 := hN2.ext.trans (hP3.below (Nat.le_refl _))
  have hB1 := hP3.blk
  have s3 := hP3.size
  generalize w1.heap.size = b1 at *
  simp only [↓VD, VP, VT, isAggD, reduceCtorEq, Int.reduceEq, Int.reduceNe, Int.reduceLT, Int.reduceLE, implies_true, Nat.reduceEqDiff, reduceIte, ite_true, ite_false, eq_self, Nat.reduceLT, Nat.reduceLeDiff, Nat.reduceAdd, Nat.reduceMul, Nat.reduceSub, intOf]
  refine ⟨rfl, rfl, fun w4 hN4 => ?_⟩
  have s4 := hN4.size
  refine convM (xs := [97]) hN4.blk rfl (by decide) (by decide) (fun w5 hS5 hK5 => ?_)
  have hE5 : Ext w3 w5 := hN4.ext.trans (hK5.below (Nat.le_refl _) (by omega))
  generalize w3.heap.size = b11 at *
  simp only [↓VD, VP, VT, isAggD, reduceCtorEq, Int.reduceEq, Int.reduceNe, Int.reduceLT, Int.reduceLE, implies_true, Nat.reduceEqDiff, reduceIte, ite_true, ite_false, eq_self, Nat.reduceLT, Nat.reduceLeDiff, Nat.reduceAdd, Nat.reduceMul, Nat.reduceSub, intOf]
  refine ldA Tryz.underlying26 rfl (hB1.ext hE5) (by rw [c26]; rfl) ?_
  simp only [↓VD, VP, VT, isAggD, reduceCtorEq, Int.reduceEq, Int.reduceNe, Int.reduceLT, Int.reduceLE, implies_true, Nat.reduceEqDiff, reduceIte, ite_true, ite_false, eq_self, Nat.reduceLT, Nat.reduceLeDiff, Nat.reduceAdd, Nat.reduceMul, Nat.reduceSub, intOf]
  have hE5' : Ext w w5 := hE1.trans' (hE3.trans' hE5)
  refine (RootOf_ok 2 [97] _ _ _ [] [⟨kv, vv, [97], [49]⟩] w5 (hW.ext hE5') hS5 (by decide) (steps_nil _) (hps (hE3.trans' hE5)) (by simp) (by simp)).mono ?_
  rintro _ w6 ⟨e, v, rfl, hR, hO, hE6⟩
  obtain rfl : e = 0 := hR.uniq (one_ok 2 [97] ⟨kv, vv, [97], [49]⟩ hw2 (by decide) (by show ([97] : List UInt8).length ≤ 64; decide) (by show ([49] : List UInt8).length ≤ 256; decide))
  have hv0 : outV 0 [97] [⟨kv, vv, [97], [49]⟩] = [49] := by simp [outV, valOf]
  have ht0 : outT 0 [97] [⟨kv, vv, [97], [49]⟩] = true := by simp [outT, valOf]
  rw [outD_one, show PR.dat ⟨kv, vv, [97], [49]⟩ = ([97], [49]) from rfl, hsR, ht0]
  rw [hv0] at hO
  generalize hRR : sumP 2 (bucketP [([97], [49])]) = R at *
  simp only [↓VD, VP, VT, isAggD, reduceCtorEq, Int.reduceEq, Int.reduceNe, Int.reduceLT, Int.reduceLE, implies_true, Nat.reduceEqDiff, reduceIte, ite_true, ite_false, eq_self, Nat.reduceLT, Nat.reduceLeDiff, Nat.reduceAdd, Nat.reduceMul, Nat.reduceSub, intOf]
  intro w7 hN7
  have s6 := hE6.size
  have s7 := hN7.size
  refine stAll hN7.blk rfl (by rw [c28]; decide) (by rw [c28, vbs_len, hRl]) (by rw [c28]; simp) (vbs_one _) (fun w8 hP8 => ?_)
  have hE8 : Ext w6 w8 := hN7.ext.trans (hP8.below (Nat.le_refl _))
  have hB2 := hP8.blk
  have hO8 := hO.ext hE8
  have hE38 : Ext w3 w8 := hE5.trans' (hE6.trans' hE8)
  replace hB1 := hB1.ext hE38
  generalize w6.heap.size = b2 at *
  simp only [↓VQ, VP, VT, isAggD, reduceCtorEq, Int.reduceEq, Int.reduceNe, Int.reduceLT, Int.reduceLE, implies_true, Nat.reduceEqDiff, reduceIte, ite_true, ite_false, eq_self, Nat.reduceLT, Nat.reduceLeDiff, Nat.reduceAdd, Nat.reduceMul, Nat.reduceSub, intOf]
  rw [v_seq]
  have hbuc : ∀ W, Ext w1 W → CallK Tryz.prog 65 [.int .i64 2, .slice pa 1 pc].toArray W fun v w' => v = .agg (vbs R).toArray ∧ Ext W w' := by
    intro W hE
    have h := RBucket_ok 2 (by decide) (.slice pa 1 pc) [⟨kv, vv, [97], [49]⟩] W (hps hE) hbl
    rwa [show ([⟨kv, vv, [97], [49]⟩] : List PR).map PR.dat = [([97], [49])] from rfl, hRR] at h
  have hchk : ∀ (u : Value) W, Ext w1 W → SlB W u [98] → CallK Tryz.prog 19 [.int .i64 2, .agg (vbs R).toArray, u, .agg [.slice none 0 0, .slice pa 1 pc].toArray].toArray W fun r w' => (∃ a c, r = .tuple [.slice a 0 c, .bool false, .int .i64 0].toArray) ∧ Ext W w' := by
    intro u W hE hu
    refine (Check_ok 2 R [98] hRl u _ _ [] [⟨kv, vv, [97], [49]⟩] W (hW.ext (hE1.trans' hE)) hu (by decide) (steps_nil _) (hps hE) (by simp) (by simp)).mono ?_
    rintro _ w' ⟨e, f, v', rfl, hR', hf, hO', hE'⟩
    obtain rfl : e = 0 := hR'.uniq (one_ok 2 [98] ⟨kv, vv, [97], [49]⟩ hw2 (by decide) (by show ([97] : List UInt8).length ≤ 64; decide) (by show ([49] : List UInt8).length ≤ 256; decide))
    rw [outD_one, show PR.dat ⟨kv, vv, [97], [49]⟩ = ([97], [49]) from rfl, hsR] at hf
    have hf0 : f = 0 := by rw [hf]; simp [checkE, hfm]
    subst hf0
    have hv1 : outV 0 [98] [⟨kv, vv, [97], [49]⟩] = [] := by simp [outV, valOf]
    have ht1 : outT 0 [98] [⟨kv, vv, [97], [49]⟩] = false := by simp [outT, valOf]
    rw [hv1] at hO'
    obtain ⟨a, c, rfl⟩ := own_slice hO'
    exact ⟨⟨a, c, by rw [ht1]; rfl⟩, hE'⟩
  refine joinT (fun s' W' => Ext w8 W' ∧ s' 1 = .pointer (some ⟨b1, 0, none⟩) ∧ s' 2 = .pointer (some ⟨b2, 0, none⟩) ∧ s' 3 = v ∧ s' 4 = .bool true ∧ s' 5 = .int .i64 0 ∧ (∃ a c, s' 6 = .slice a 0 c) ∧ s' 7 = .bool false ∧ s' 8 = .int .i64 0) ?_ ?_
  · simp only [↓VD, VP, VT, isAggD, reduceCtorEq, Int.reduceEq, Int.reduceNe, Int.reduceLT, Int.reduceLE, implies_true, Nat.reduceEqDiff, reduceIte, ite_true, ite_false, eq_self, Nat.reduceLT, Nat.reduceLeDiff, Nat.reduceAdd, Nat.reduceMul, Nat.reduceSub, intOf]
    refine drawO (fun W' => Blk W' b1 26 [.slice none 0 0, .slice pa 1 pc]) (Ord.pre [0, 1, 5] (.two 2 3 (Ord.of [3, 4, 6, 7, 8, 9, 10, 11, 12, 13]) (Ord.pre [] (.two 2 4 (Ord.of [4, 6, 7, 8, 9, 10, 11, 12, 13]) (Ord.of [2, 6, 7, 8, 9, 10, 11, 12, 13]))))) mixed (by decide +kernel) (fun w9 hE9 hh => ⟨hB1.ext hE9, ?_⟩)
    simp only [↓VD, VP, VT, isAggD, reduceCtorEq, Int.reduceEq, Int.reduceNe, Int.reduceLT, Int.reduceLE, implies_true, Nat.reduceEqDiff, reduceIte, ite_true, ite_false, eq_self, Nat.reduceLT, Nat.reduceLeDiff, Nat.reduceAdd, Nat.reduceMul, Nat.reduceSub, intOf]
    refine loadS_of _ (fun w' h => ldAt (pre := [.slice none 0 0]) (post := []) Tryz.underlying24 rfl h rfl rfl) ?_
    simp only [↓VD, VP, VT, isAggD, reduceCtorEq, Int.reduceEq, Int.reduceNe, Int.reduceLT, Int.reduceLE, implies_true, Nat.reduceEqDiff, reduceIte, ite_true, ite_false, eq_self, Nat.reduceLT, Nat.reduceLeDiff, Nat.reduceAdd, Nat.reduceMul, Nat.reduceSub, intOf]
    refine loadS_of _ (fun w' h => ldA Tryz.underlying26 rfl h (by rw [c26]; rfl) rfl) ?_
    simp only [↓VD, VP, VT, isAggD, reduceCtorEq, Int.reduceEq, Int.reduceNe, Int.reduceLT, Int.reduceLE, implies_true, Nat.reduceEqDiff, reduceIte, ite_true, ite_false, eq_self, Nat.reduceLT, Nat.reduceLeDiff, Nat.reduceAdd, Nat.reduceMul, Nat.reduceSub, intOf]
    have hE9' : Ext w1 w9 := hE3.trans' (hE38.trans' hE9)
    have hB19 := hB1.ext hE9
    refine ⟨?_, ?_⟩
    · refine (hbuc w9 hE9').mono ?_
      rintro _ w10 ⟨rfl, hE10⟩
      refine told (fun _ => True) (hB19.ext hE10) trivial ?_
      simp only [↓VD, VP, VT, isAggD, reduceCtorEq, Int.reduceEq, Int.reduceNe, Int.reduceLT, Int.reduceLE, implies_true, Nat.reduceEqDiff, reduceIte, ite_true, ite_false, eq_self, Nat.reduceLT, Nat.reduceLeDiff, Nat.reduceAdd, Nat.reduceMul, Nat.reduceSub, intOf]
      refine ⟨rfl, rfl, fun w11 hN11 => ?_⟩
      have z9 := hE9.size
      have z10 := hE10.size
      have z11 := hN11.size
      refine told (fun _ => True) ((hB19.ext hE10).ext hN11.ext) trivial ?_
      simp only [↓VD, VP, VT, isAggD, reduceCtorEq, Int.reduceEq, Int.reduceNe, Int.reduceLT, Int.reduceLE, implies_true, Nat.reduceEqDiff, reduceIte, ite_true, ite_false, eq_self, Nat.reduceLT, Nat.reduceLeDiff, Nat.reduceAdd, Nat.reduceMul, Nat.reduceSub, intOf]
      refine convM (xs := [98]) hN11.blk rfl (by decide) (by decide) (fun w12 hS12 hK12 => ?_)
      have hE12 : Ext w10 w12 := hN11.ext.trans (hK12.below (Nat.le_refl _) (by omega))
      refine told (fun _ => True) ((hB19.ext hE10).ext hE12) trivial ?_
      simp only [↓VD, VP, VT, isAggD, reduceCtorEq, Int.reduceEq, Int.reduceNe, Int.reduceLT, Int.reduceLE, implies_true, Nat.reduceEqDiff, reduceIte, ite_true, ite_false, eq_self, Nat.reduceLT, Nat.reduceLeDiff, Nat.reduceAdd, Nat.reduceMul, Nat.reduceSub, intOf]
      refine (hchk _ w12 (hE9'.trans' (hE10.trans' hE12)) hS12).mono ?_
      rintro _ w13 ⟨⟨a6, c6, rfl⟩, hE13⟩
      refine told (fun _ => True) (((hB19.ext hE10).ext hE12).ext hE13) trivial ?_
      simp only [↓VD, VP, VT, isAggD, reduceCtorEq, Int.reduceEq, Int.reduceNe, Int.reduceLT, Int.reduceLE, implies_true, Nat.reduceEqDiff, reduceIte, ite_true, ite_false, eq_self, Nat.reduceLT, Nat.reduceLeDiff, Nat.reduceAdd, Nat.reduceMul, Nat.reduceSub, intOf]
      exact ⟨hE9.trans' (hE10.trans' (hE12.trans' hE13)), a6, c6, rfl⟩
    · refine ⟨rfl, rfl, fun w10 hN10 => ?_⟩
      have z9 := hE9.size
      have z10 := hN10.size
      refine told (fun _ => True) (hB19.ext hN10.ext) trivial ?_
      simp only [↓VD, VP, VT, isAggD, reduceCtorEq, Int.reduceEq, Int.reduceNe, Int.reduceLT, Int.reduceLE, implies_true, Nat.reduceEqDiff, reduceIte, ite_true, ite_false, eq_self, Nat.reduceLT, Nat.reduceLeDiff, Nat.reduceAdd, Nat.reduceMul, Nat.reduceSub, intOf]
      refine ⟨?_, ?_⟩
      · refine (hbuc w10 (hE9'.trans' hN10.ext)).mono ?_
        rintro _ w11 ⟨rfl, hE11⟩
        have z11 := hE11.size
        refine told (fun _ => True) ((hB19.ext hN10.ext).ext hE11) trivial ?_
        simp only [↓VD, VP, VT, isAggD, reduceCtorEq, Int.reduceEq, Int.reduceNe, Int.reduceLT, Int.reduceLE, implies_true, Nat.reduceEqDiff, reduceIte, ite_true, ite_false, eq_self, Nat.reduceLT, Nat.reduceLeDiff, Nat.reduceAdd, Nat.reduceMul, Nat.reduceSub, intOf]
        refine convM (xs := [98]) (hN10.blk.ext hE11) rfl (by decide) (by decide) (fun w12 hS12 hK12 => ?_)
        have hE12 : Ext w9 w12 := (hN10.ext.trans' hE11).trans (hK12.below (Nat.le_refl _) (by omega))
        refine told (fun _ => True) (hB19.ext hE12) trivial ?_
        simp only [↓VD, VP, VT, isAggD, reduceCtorEq, Int.reduceEq, Int.reduceNe, Int.reduceLT, Int.reduceLE, implies_true, Nat.reduceEqDiff, reduceIte, ite_true, ite_false, eq_self, Nat.reduceLT, Nat.reduceLeDiff, Nat.reduceAdd, Nat.reduceMul, Nat.reduceSub, intOf]
        refine (hchk _ w12 (hE9'.trans' hE12) hS12).mono ?_
        rintro _ w13 ⟨⟨a6, c6, rfl⟩, hE13⟩
        refine told (fun _ => True) ((hB19.ext hE12).ext hE13) trivial ?_
        simp only [↓VD, VP, VT, isAggD, reduceCtorEq, Int.reduceEq, Int.reduceNe, Int.reduceLT, Int.reduceLE, implies_true, Nat.reduceEqDiff, reduceIte, ite_true, ite_false, eq_self, Nat.reduceLT, Nat.reduceLeDiff, Nat.reduceAdd, Nat.reduceMul, Nat.reduceSub, intOf]
        exact ⟨hE9.trans' (hE12.trans' hE13), a6, c6, rfl⟩
      · refine convM (xs := [98]) hN10.blk rfl (by decide) (by decide) (fun w11 hS11 hK11 => ?_)
        have hE11 : Ext w9 w11 := hN10.ext.trans (hK11.below (Nat.le_refl _) (by omega))
        refine told (fun _ => True) (hB19.ext hE11) trivial ?_
        simp only [↓VD, VP, VT, isAggD, reduceCtorEq, Int.reduceEq, Int.reduceNe, Int.reduceLT, Int.reduceLE, implies_true, Nat.reduceEqDiff, reduceIte, ite_true, ite_false, eq_self, Nat.reduceLT, Nat.reduceLeDiff, Nat.reduceAdd, Nat.reduceMul, Nat.reduceSub, intOf]
        refine (hbuc w11 (hE9'.trans' hE11)).mono ?_
        rintro _ w12 ⟨rfl, hE12⟩
        refine told (fun _ => True) ((hB19.ext hE11).ext hE12) trivial ?_
        simp only [↓VD, VP, VT, isAggD, reduceCtorEq, Int.reduceEq, Int.reduceNe, Int.reduceLT, Int.reduceLE, implies_true, Nat.reduceEqDiff, reduceIte, ite_true, ite_false, eq_self, Nat.reduceLT, Nat.reduceLeDiff, Nat.reduceAdd, Nat.reduceMul, Nat.reduceSub, intOf]
        refine (hchk _ w12 (hE9'.trans' (hE11.trans' hE12)) (hS11.ext hE12)).mono ?_
        rintro _ w13 ⟨⟨a6, c6, rfl⟩, hE13⟩
        refine told (fun _ => True) (((hB19.ext hE11).ext hE12).ext hE13) trivial ?_
        simp only [↓VD, VP, VT, isAggD, reduceCtorEq, Int.reduceEq, Int.reduceNe, Int.reduceLT, Int.reduceLE, implies_true, Nat.reduceEqDiff, reduceIte, ite_true, ite_false, eq_self, Nat.reduceLT, Nat.reduceLeDiff, Nat.reduceAdd, Nat.reduceMul, Nat.reduceSub, intOf]
        exact ⟨hE9.trans' (hE11.trans' (hE12.trans' hE13)), a6, c6, rfl⟩
  · rintro s9 w9 ⟨hE9, g1, g2, g3, g4, g5, ⟨a6, c6, g6⟩, g7, g8⟩
    obtain ⟨av, cv, hve⟩ := slv_of (SlC.of_own hO8)
    subst hve
    have hS9 : SlB w9 (.slice av ([49] : List UInt8).length cv) [49] := (SlC.of_own hO8).ext hE9
    simp only [↓VD, VP, VT, isAggD, reduceCtorEq, Int.reduceEq, Int.reduceNe, Int.reduceLT, Int.reduceLE, implies_true, Nat.reduceEqDiff, reduceIte, ite_true, ite_false, eq_self, Nat.reduceLT, Nat.reduceLeDiff, Nat.reduceAdd, Nat.reduceMul, Nat.reduceSub, intOf, g1, g2, g3, g4, g5, g6, g7, g8]
    refine drawT mixed (by decide +kernel) ?_
    simp only [↓VD, VP, VT, isAggD, reduceCtorEq, Int.reduceEq, Int.reduceNe, Int.reduceLT, Int.reduceLE, implies_true, Nat.reduceEqDiff, reduceIte, ite_true, ite_false, eq_self, Nat.reduceLT, Nat.reduceLeDiff, Nat.reduceAdd, Nat.reduceMul, Nat.reduceSub, intOf, g1, g2, g3, g4, g5, g6, g7, g8]
    refine convSQ hS9 ?_
    simp only [↓VD, VP, VT, isAggD, reduceCtorEq, Int.reduceEq, Int.reduceNe, Int.reduceLT, Int.reduceLE, implies_true, Nat.reduceEqDiff, reduceIte, ite_true, ite_false, eq_self, Nat.reduceLT, Nat.reduceLeDiff, Nat.reduceAdd, Nat.reduceMul, Nat.reduceSub, intOf, g1, g2, g3, g4, g5, g6, g7, g8]
    refine ⟨_, _, rfl, rfl, ?_⟩
    simp only [↓VD, VP, VT, isAggD, reduceCtorEq, Int.reduceEq, Int.reduceNe, Int.reduceLT, Int.reduceLE, implies_true, Nat.reduceEqDiff, reduceIte, ite_true, ite_false, eq_self, Nat.reduceLT, Nat.reduceLeDiff, Nat.reduceAdd, Nat.reduceMul, Nat.reduceSub, intOf, g1, g2, g3, g4, g5, g6, g7, g8]
    refine ldA Tryz.underlying28 rfl (hB2.ext hE9) (by rw [vbs_len, hRl, c28]) ?_
    simp only [↓VD, VP, VT, isAggD, reduceCtorEq, Int.reduceEq, Int.reduceNe, Int.reduceLT, Int.reduceLE, implies_true, Nat.reduceEqDiff, reduceIte, ite_true, ite_false, eq_self, Nat.reduceLT, Nat.reduceLeDiff, Nat.reduceAdd, Nat.reduceMul, Nat.reduceSub, intOf, g1, g2, g3, g4, g5, g6, g7, g8]
    refine ldAt (pre := [.slice none 0 0]) (post := []) Tryz.underlying24 rfl (hB1.ext hE9) rfl ?_
    simp only [↓VD, VP, VT, isAggD, reduceCtorEq, Int.reduceEq, Int.reduceNe, Int.reduceLT, Int.reduceLE, implies_true, Nat.reduceEqDiff, reduceIte, ite_true, ite_false, eq_self, Nat.reduceLT, Nat.reduceLeDiff, Nat.reduceAdd, Nat.reduceMul, Nat.reduceSub, intOf, g1, g2, g3, g4, g5, g6, g7, g8]
    refine qcall _ (fun w' hw' => hbuc w' (hE3.trans' (hE38.trans' (hE9.trans' hw')))) ?_
    simp only [↓VD, VP, VT, isAggD, reduceCtorEq, Int.reduceEq, Int.reduceNe, Int.reduceLT, Int.reduceLE, implies_true, Nat.reduceEqDiff, reduceIte, ite_true, ite_false, eq_self, Nat.reduceLT, Nat.reduceLeDiff, Nat.reduceAdd, Nat.reduceMul, Nat.reduceSub, intOf, g1, g2, g3, g4, g5, g6, g7, g8]
    refine eqd_lit _ _ _ _ _ _ Tryz.underlying5 c5 hRl hRl ?_
    simp only [↓VD, VP, VT, isAggD, reduceCtorEq, Int.reduceEq, Int.reduceNe, Int.reduceLT, Int.reduceLE, implies_true, Nat.reduceEqDiff, reduceIte, ite_true, ite_false, eq_self, Nat.reduceLT, Nat.reduceLeDiff, Nat.reduceAdd, Nat.reduceMul, Nat.reduceSub, intOf, g1, g2, g3, g4, g5, g6, g7, g8]
    intro w10 hE10
    exact hE1.trans' (hE3.trans' (hE38.trans' (hE9.trans' hE10)))

end Go.Proofs.YtebbgninkbghlaaGreatDoor

/-! LawB -/
namespace Go.Proofs.YtebbgninkbghlaaGreatDoor
set_option maxRecDepth 100000
open Go Go.RowKit
set_option linter.unusedVariables false
set_option linter.unusedSimpArgs false

/-- What the laws take for granted of a question: it may be read, and its lists are short enough for the machine. -/
structure AskAt (w : World) (key : List UInt8) (ss : List SR) (ps : List PR) (kv sv pv : Value) : Prop where
  kat : SlB w kv key
  keyl : key.length + 1 ≤ 140737488355328
  steps : StepsAt w sv ss
  pairs : PairsAt w pv ps
  pk : ∀ p ∈ ps, p.k.length + 1 ≤ 140737488355328
  pn : ps.length ≤ 400000000000
theorem AskAt.ext {w w' : World} {key : List UInt8} {ss : List SR} {ps : List PR} {kv sv pv : Value} (h : AskAt w key ss ps kv sv pv) (e : Ext w w') : AskAt w' key ss ps kv sv pv :=
  ⟨h.kat.ext e, h.keyl, h.steps.ext e, h.pairs.ext e, h.pk, h.pn⟩
end Go.Proofs.YtebbgninkbghlaaGreatDoor

/-! PlC -/
namespace Go.Proofs.YtebbgninkbghlaaGreatDoor
set_option maxRecDepth 100000
open Go Go.RowKit
set_option linter.unusedVariables false
set_option linter.unusedSimpArgs false

theorem com_at (a b : List UInt8) : ∀ m, comP a b m < m → digP a (comP a b m) ≠ digP b (comP a b m)
  | 0, h => by simp [comP] at h
  | m + 1, h => by
    unfold comP at h ⊢
    split
    · rename_i h1; exact com_at a b m h1
    · rename_i h1
      rw [if_neg h1] at h
      split
      · rename_i h2; rw [if_pos h2] at h; omega
      · rename_i h2; exact h2
theorem com_ge {a b : List UInt8} {m t : Nat} (ht : t ≤ m) (h : ∀ j, j < t → digP a j = digP b j) : t ≤ comP a b m := by
  rcases Nat.lt_or_ge (comP a b m) t with h1 | h1
  · exact absurd (h _ h1) (com_at a b m (by omega))
  · exact h1
theorem drop_sumR {n : Int} (hn : widB n = true) (xs : List UInt8) : ∀ b ∈ (sumR n xs).drop n.toNat, b = 0 := by
  have hw := (widB_iff n).1 hn
  intro b hb
  rw [sumR, if_pos hn, sumP, cutP] at hb
  rw [List.drop_append_of_le_length (by rw [List.length_take, shaP_len]; omega)] at hb
  rw [List.drop_of_length_le (by rw [List.length_take]; omega), List.nil_append] at hb
  exact (List.mem_replicate.1 hb).2
theorem chk_two {n : Int} (hn : widB n = true) {ds : List (List UInt8)} (h : ∀ d ∈ ds, ∃ xs, d = sumR n xs) : chkP n ds = 0 := by
  have hw := (widB_iff n).1 hn
  unfold chkP
  rw [if_neg (by omega), if_pos]
  intro d hd
  obtain ⟨xs, rfl⟩ := h d hd
  exact drop_sumR hn xs
theorem comPP_sum {n : Int} (hn : widB n = true) (xs ys : List UInt8) : comPP n (sumR n xs) (sumR n ys) = (((comP (sumR n xs) (sumR n ys) (2 * n.toNat) : Nat) : Int), (0 : Int)) := by
  unfold comPP
  rw [if_pos (chk_two hn (by intro d hd; simp only [List.mem_cons, List.not_mem_nil, or_false] at hd; rcases hd with rfl | rfl <;> exact ⟨_, rfl⟩))]
end Go.Proofs.YtebbgninkbghlaaGreatDoor

/-! Hon -/
namespace Go.Proofs.YtebbgninkbghlaaGreatDoor
set_option maxRecDepth 100000
open Go Go.RowKit
set_option linter.unusedVariables false
set_option linter.unusedSimpArgs false
set_option maxHeartbeats 4000000
attribute [local irreducible] vcT opsT qT vcOp Q1 vcPure vcLoad vcStore ldC ldN ldD grdT grdQ vc vcOps vcQ hT
attribute [local irreducible] sumR sumP shaP keyD bucketP branchP

theorem insP_erase {ks : List (List UInt8)} {r : Nat} {x : List UInt8} (h : ks[r]? = some x) : insP (ks.eraseIdx r) r x = ks := by
  obtain ⟨hr, rfl⟩ := List.getElem?_eq_some_iff.1 h
  unfold insP
  rw [List.eraseIdx_eq_take_drop_succ, List.take_append_of_le_length (by rw [List.length_take]; omega), List.take_take, Nat.min_self, List.drop_append_of_le_length (by rw [List.length_take]; omega), List.drop_of_length_le (by rw [List.length_take]; omega), List.nil_append, ← List.drop_eq_getElem_cons hr, List.take_append_drop]
theorem stepD_cut {n : Nat} (hw : widB n = true) {K : List UInt8} (hK : K.length = 32) (hf : formB n K = true) {f d : Nat} {m : List It} (hs : singleB m = false) (hO : OkI n m) (hP : Pre d m) (x : List UInt8)
    (hx : hasI m d (digP K d) = true → x = nodeD n f (d + 1) (childI m d (digP K d))) : stepD n K x d (bmI m d) (cutK (bmI m d) (digP K d) (kidsI n f d m)) = nodeD n (f + 1) d m := by
  have hwn := (widB_iff n).1 hw
  have hdn := br_depth hs hP (hO.form hw)
  have hat := atP_dig (m := n) (by omega) (by omega) hK hf hdn
  unfold stepD
  rw [hat, nodeD_br n f d hs]
  cases hh : hasI m d (digP K d)
  · have hb : hasB (bmI m d) (digP K d : Int) = false := by rw [bmI_has, hh, Bool.and_false]
    rw [if_neg (by rw [hb]; decide), cutK, if_neg (by rw [hb]; decide)]
  · have hb := hasB_of hh
    obtain ⟨h1, h2, h3⟩ := kids_at (n := n) (f := f) (child_ne hh) (digP_lt K d)
    rw [if_pos hb, cutK, if_pos hb, hx hh, insP_erase h3]
/-- The digests of a key's path, from its end up. -/
theorem fold_walk {n : Nat} (hw : widB n = true) {K : List UInt8} (hK : K.length = 32) (hf : formB n K = true) : ∀ (f d : Nat) (m : List It), OkI n m → Pre d m → d + f = 64 → m ≠ [] → ∀ (ss : List SR), ss.map SR.dt = cutS K d (walkI n K f d m).1 →
    ∀ z, ((walkI n K f d m).2 ≠ [] → z = bkD n (walkI n K f d m).2) → (ss.zipIdx d).foldr (fun (p : SR × Nat) x => stepD n K x p.2 p.1.bm p.1.ks) z = nodeD n f d m := by
  have hwn := (widB_iff n).1 hw
  intro f
  induction f with
  | zero =>
    intro d m hO hP hdf hne ss hss z hz
    have e : ss = [] := by simpa [walkI, cutS] using hss
    subst e
    exact hz hne
  | succ f ih =>
    intro d m hO hP hdf hne ss hss z hz
    cases hs : singleB m
    · rw [walkI, if_neg (by simp [hs])] at hss hz
      cases hh : hasI m d (digP K d)
      · rw [hh, if_neg (by decide)] at hss hz
        obtain ⟨s, rfl⟩ : ∃ s, ss = [s] := by
          have := congrArg List.length hss
          rw [cutS_len, List.length_map] at this
          exact List.length_eq_one_iff.1 this
        have h1 : s.bm = bmI m d ∧ s.ks = cutK (bmI m d) (digP K d) (kidsI n f d m) := by simpa [cutS, SR.dt] using hss
        show stepD n K z d s.bm s.ks = _
        rw [h1.1, h1.2]
        exact stepD_cut hw hK hf hs hO hP z (fun h => by rw [hh] at h; cases h)
      · rw [hh, if_pos rfl] at hss hz
        cases ss with
        | nil => simp [cutS] at hss
        | cons s r =>
          have h1 : s.bm = bmI m d ∧ s.ks = cutK (bmI m d) (digP K d) (kidsI n f d m) := by
            have := congrArg (·.head?) hss
            simpa [cutS, SR.dt] using this
          have h2 : r.map SR.dt = cutS K (d + 1) (walkI n K f (d + 1) (childI m d (digP K d))).1 := by
            have := congrArg List.tail hss
            simpa [cutS] using this
          have h3 := ih (d + 1) _ (hO.child _ _) (hP.child _) (by omega) (child_ne hh) r h2 z hz
          rw [List.zipIdx_cons, List.foldr_cons, h3]
          show stepD n K _ d s.bm s.ks = _
          rw [h1.1, h1.2]
          exact stepD_cut hw hK hf hs hO hP _ (fun _ => rfl)
    · rw [walkI_single _ _ _ _ hs] at hss hz
      have e : ss = [] := by simpa [cutS] using hss
      subst e
      rw [nodeD_single n _ _ hs]
      exact hz hne
theorem upF_back (n : Int) (K : List UInt8) (ss : List SR) (z : List UInt8) : upF n K (backL ss) z = (ss.zipIdx 0).foldr (fun (p : SR × Nat) x => stepD n K x p.2 p.1.bm p.1.ks) z := by
  unfold upF backL
  rw [List.foldl_reverse, List.foldr_map]
/-- What a map's own path is: its steps are the key's way down without one digest each, its pairs the bucket there. -/
structure PathI (n : Int) (m : List It) (key : List UInt8) (ss : List SR) (ps : List PR) : Prop where
  steps : ss.map SR.dt = cutS (keyD n key) 0 (walkI n (keyD n key) 64 0 m).1
  pairs : ps.map PR.dat = (walkI n (keyD n key) 64 0 m).2.map It.pr
theorem PathI.root {n : Nat} (hw : widB n = true) {m : List It} (hO : OkI n m) {key : List UInt8} {ss : List SR} {ps : List PR} (h : PathI n m key ss ps) : outD 0 n key ss ps = rootD n m := by
  have hK := keyD_len n key
  have hf : formB n (keyD n key) = true := by unfold keyD; exact form_sumR n _ hw
  obtain ⟨h1, h2⟩ := h
  unfold outD
  rw [if_pos rfl, upF_back, h2]
  by_cases hm : m = []
  · subst hm
    have e : walkI n (keyD n key) 64 0 ([] : List It) = ([], []) := walkI_single _ _ _ _ rfl
    rw [e] at h1 ⊢
    have e : ss = [] := by simpa [cutS] using h1
    subst e
    rfl
  · rw [rootD, if_neg hm]
    refine fold_walk hw hK hf 64 0 m hO hO.pre rfl hm ss h1 _ (fun hne => ?_)
    unfold up0
    rw [if_neg (by simpa using hne)]
    rfl
theorem PathI.ok {n : Nat} (hw : widB n = true) {m : List It} (hO : OkI n m) {key : List UInt8} (hkl : key.length ≤ 64) {ss : List SR} {ps : List PR} (h : PathI n m key ss ps) {e : Nat} (hR : RootE n key ss ps e) : e = 0 := by
  have hwn := (widB_iff n).1 hw
  have hK := keyD_len n key
  have hf : formB n (keyD n key) = true := by unfold keyD; exact form_sumR n _ hw
  obtain ⟨hst, hend, hsg⟩ := walk_spec hw (keyD n key) 64 0 m hO hO.pre rfl
  obtain ⟨h1, h2⟩ := h
  have hL : (walkI n (keyD n key) 64 0 m).1.length = ss.length := by have := congrArg List.length h1; rw [List.length_map, cutS_len] at this; exact this.symm
  rw [hL] at hst hend hsg
  rw [hend] at h2
  have hpl : ps.length = (wmI (keyD n key) ss.length 0 m).length := by have := congrArg List.length h2; simpa using this
  have hat : ∀ i (s : SR), ss[i]? = some s → s.bm = bmI (wmI (keyD n key) i 0 m) i ∧ s.ks = cutK (bmI (wmI (keyD n key) i 0 m) i) (digP (keyD n key) i) (kidsI n (64 - 1 - i) i (wmI (keyD n key) i 0 m)) ∧ singleB (wmI (keyD n key) i 0 m) = false ∧ i < 2 * n := by
    intro i s hi
    obtain ⟨q1, q2⟩ := hst i (List.getElem?_eq_some_iff.1 hi).1
    have h3 := congrArg (·[i]?) h1
    simp only [List.getElem?_map, hi, cutS_get, q1, Nat.zero_add, Option.map_some, Option.some.injEq, SR.dt, Prod.mk.injEq] at h3
    obtain ⟨a1, a2⟩ := wmI_ok (n := n) (keyD n key) i 0 hO hO.pre
    rw [Nat.zero_add] at a2
    exact ⟨h3.1, h3.2, q2, br_depth q2 a2 (a1.form hw)⟩
  obtain ⟨hOE, hPE⟩ := wmI_ok (n := n) (keyD n key) ss.length 0 hO hO.pre
  refine hR.2.2.2.2 hw hkl ?_ ⟨?_, ?_⟩ ?_
  · intro s hs d hd
    obtain ⟨i, hi⟩ := List.getElem?_of_mem hs
    obtain ⟨q1, q2, q3, q4⟩ := hat i s hi
    rw [q2] at hd
    have hd' := cutK_mem d hd
    unfold kidsI at hd'
    obtain ⟨c, _, rfl⟩ := List.mem_map.1 hd'
    exact form_node n hw _ _ _
  · by_cases h0 : ss.length = 0
    · omega
    · obtain ⟨_, _, _, q4⟩ := hat (ss.length - 1) _ (List.getElem?_eq_getElem (by omega))
      omega
  · intro i s hi
    obtain ⟨q1, q2, q3, q4⟩ := hat i s hi
    have hil := (List.getElem?_eq_some_iff.1 hi).1
    have hatP := atP_dig (m := n) (by omega) (by omega) hK hf q4
    have hstep := wmI_step (keyD n key) i 0 m
    rw [Nat.zero_add] at hstep
    have hd16 := digP_lt (keyD n key) i
    have hkl2 := kidsI_len n (64 - 1 - i) i (wmI (keyD n key) i 0 m)
    have hlast : hasI (wmI (keyD n key) i 0 m) i (digP (keyD n key) i) = false → i + 1 = ss.length ∧ ps.length = 0 := by
      intro hh
      have e0 : wmI (keyD n key) (i + 1) 0 m = [] := by rw [hstep]; unfold hasI at hh; simpa using hh
      have e1 : i + 1 = ss.length := by
        refine Classical.byContradiction fun hne => ?_
        have := (hst (i + 1) (by omega)).2
        rw [e0] at this
        cases this
      exact ⟨e1, by rw [hpl, ← e1, e0]; rfl⟩
    have hpos : cntB (bmI (wmI (keyD n key) i 0 m) i) ≠ 0 := by
      obtain ⟨y, hy⟩ := List.exists_mem_of_ne_nil _ (ne_of_not_single q3)
      have := rank_lt (hasB_of (has_iff.2 ⟨y, hy, rfl⟩ : hasI (wmI (keyD n key) i 0 m) i (digP y.D i) = true))
      omega
    unfold stepOk
    rw [hatP, q1, q2]
    refine ⟨hpos, fun hb => ?_, fun hb => ?_, ?_⟩
    · rw [bmI_has, decide_eq_true hd16, Bool.true_and] at hb
      obtain ⟨r1, r2, r3⟩ := kids_at (n := n) (f := 64 - 1 - i) (child_ne hb) hd16
      refine ⟨?_, ?_⟩
      · rw [cutK, if_pos r1, List.length_eraseIdx, if_pos r2, hkl2]
        omega
      · rintro ⟨e1, e2⟩
        have : wmI (keyD n key) (i + 1) 0 m = [] := by rw [e1]; exact List.length_eq_zero_iff.1 (by omega)
        rw [hstep] at this
        exact child_ne hb this
    · have hb' := hb
      rw [bmI_has, decide_eq_true hd16, Bool.true_and] at hb
      obtain ⟨e1, e2⟩ := hlast hb
      refine ⟨e1, ?_, e2⟩
      rw [cutK, if_neg (by rw [hb']; decide), hkl2]
    · rintro ⟨e1, e2, e3⟩
      have hne : childI (wmI (keyD n key) i 0 m) i (digP (keyD n key) i) ≠ [] := by
        rw [← hstep, e1]
        intro h0
        rw [h0] at hpl
        simp only [List.length_nil] at hpl
        omega
      have := kids_one (n := n) (f := 64 - 1 - i) q3 (by omega) (keyD n key) hne
      rw [← hstep, e1, hsg] at this
      cases this
  · intro i a hi
    have hmem : ∀ (j : Nat) (p : PR), ps[j]? = some p → ∃ y, (wmI (keyD n key) ss.length 0 m)[j]? = some y ∧ y.k = p.k ∧ y.v = p.v ∧ y.D = keyD n p.k := by
      intro j p hj
      have h3 := congrArg (·[j]?) h2
      simp only [List.getElem?_map, hj, Option.map_some] at h3
      cases hy : (wmI (keyD n key) ss.length 0 m)[j]? with
      | none => rw [hy] at h3; cases h3
      | some y =>
        rw [hy] at h3
        simp only [Option.map_some, Option.some.injEq, PR.dat, It.pr, Prod.mk.injEq] at h3
        exact ⟨y, rfl, h3.1.symm, h3.2.symm, by rw [hOE.dig y (List.mem_of_getElem? hy), h3.1]⟩
    obtain ⟨y, hy, yk, yv, yD⟩ := hmem i a hi
    have hym := List.mem_of_getElem? hy
    have hsi := singleB_iff.1 hsg
    have hsh := hOE.short y hym
    rw [yk, yv] at hsh
    refine ⟨by omega, by omega, fun p hi0 hp => ?_, fun p hp => ?_, ?_⟩
    · obtain ⟨z, hz, zk, zv, zD⟩ := hmem (i - 1) p hp
      obtain ⟨u1, u2⟩ := List.getElem?_eq_some_iff.1 hy
      obtain ⟨v1, v2⟩ := List.getElem?_eq_some_iff.1 hz
      have h3 := List.pairwise_iff_getElem.1 hOE.sorted (i - 1) i v1 u1 (by omega)
      rw [u2, v2] at h3
      have e := hsi y hym z (List.mem_of_getElem? hz)
      unfold cmpIt at h3
      rw [e, if_pos (by rw [cmpB_self])] at h3
      rw [← zk, ← yk]
      exact h3
    · obtain ⟨z, hz, zk, zv, zD⟩ := hmem 0 p hp
      rw [← yD, ← zD]
      exact hsi y hym z (List.mem_of_getElem? hz)
    · have hs2 : ss.length ≤ 2 * n := by
        by_cases h0 : ss.length = 0
        · omega
        · obtain ⟨_, _, _, q4⟩ := hat (ss.length - 1) _ (List.getElem?_eq_getElem (by omega))
          omega
      have hsub := (wmI_sub (keyD n key) ss.length 0).1 hym
      have e : comPP n (keyD n key) (keyD n a.k) = (((comP (keyD n key) (keyD n a.k) (2 * (n : Int).toNat) : Nat) : Int), 0) := by
        unfold keyD
        exact comPP_sum hw _ _
      rw [e, Int.toNat_natCast]
      have := com_ge (a := keyD n key) (b := keyD n a.k) (m := 2 * n) (t := ss.length) hs2 (fun j hj => by
        have := hsub.2 j hj
        rw [Nat.zero_add, yD] at this
        exact this.symm)
      simp only
      omega
theorem PathI.val {n : Nat} (hw : widB n = true) {m : List It} (hO : OkI n m) {key : List UInt8} {ss : List SR} {ps : List PR} (h : PathI n m key ss ps) : valOf ps key = getI m key := by
  obtain ⟨_, hend, _⟩ := walk_spec hw (keyD n key) 64 0 m hO hO.pre rfl
  have h2 := h.pairs
  rw [hend] at h2
  rw [← getI_wm hO key (walkI n (keyD n key) 64 0 m).1.length]
  generalize wmI (keyD n key) (walkI n (keyD n key) 64 0 m).1.length 0 m = l at h2
  clear hend h hO
  unfold valOf getI
  induction l generalizing ps with
  | nil =>
    have e : ps = [] := by simpa using h2
    subst e
    rfl
  | cons y l ih =>
    cases ps with
    | nil => simp at h2
    | cons p ps =>
      simp only [List.map_cons, List.cons.injEq, PR.dat, It.pr, Prod.mk.injEq] at h2
      have := ih h2.2
      by_cases hk : p.k = key
      · rw [List.find?_cons_of_pos (by simpa using hk), List.find?_cons_of_pos (by simp only [decide_eq_true_eq]; rw [← h2.1.1]; exact hk)]
        simp [h2.1.2]
      · rw [List.find?_cons_of_neg (by simpa using hk), List.find?_cons_of_neg (by simp only [decide_eq_true_eq]; rw [← h2.1.1]; exact hk)]
        exact this
end Go.Proofs.YtebbgninkbghlaaGreatDoor

/-! Hnp -/
namespace Go.Proofs.YtebbgninkbghlaaGreatDoor
set_option maxRecDepth 100000
open Go Go.RowKit
set_option linter.unusedVariables false
set_option linter.unusedSimpArgs false
set_option maxHeartbeats 1000000
attribute [local irreducible] vcT opsT qT vcOp Q1 vcPure vcLoad vcStore ldC ldN ldD grdT grdQ vc vcOps vcQ hT
attribute [local irreducible] sumR sumP shaP keyD bucketP branchP

theorem inR_ok (k v : List UInt8) (kv vv : Value) (w : World) (hk : SlB w kv k) (hv : SlB w vv v) :
    CallK Tryz.prog 62 [.agg [kv, vv].toArray].toArray w fun r w' => r = .bool (decide (¬ (64 < k.length ∨ 256 < v.length))) ∧ Ext w w' := by
  obtain ⟨ka, kc, rfl⟩ := slv_of hk
  obtain ⟨va, vc', rfl⟩ := slv_of hv
  refine enterT Tryz.func62 rfl Tryz.ntmps62 Tryz.results62 rfl (by decide) ?_
  repeat (first | exact trivial | refine stp ?_ | refine ldCg ?_ | refine ldNg ?_ | refine ldSg ?_ | refine ldSb ?_ | refine bnd ?_ | refine bnd1 ?_ | refine drawQ (by decide +kernel) mixed (by decide +kernel) ?_)
  first | refine newS ?_ | refine newZ ?_
  intro w1 hE1 hz1 hB1
  repeat (first | exact trivial | refine stp ?_ | refine ldCg ?_ | refine ldNg ?_ | refine ldSg ?_ | refine ldSb ?_ | refine bnd ?_ | refine bnd1 ?_ | refine drawQ (by decide +kernel) mixed (by decide +kernel) ?_)
  refine ⟨fun h1 => ?_, fun h1 => ?_⟩
  · repeat (first | exact trivial | refine stp ?_ | refine ldCg ?_ | refine ldNg ?_ | refine ldSg ?_ | refine ldSb ?_ | refine bnd ?_ | refine bnd1 ?_ | refine drawQ (by decide +kernel) mixed (by decide +kernel) ?_)
    refine ⟨?_, .go⟩
    by_cases h2 : v.length ≤ 256
    · rw [decide_eq_true (by omega), decide_eq_true (by omega)]
    · rw [decide_eq_false (by omega), decide_eq_false (by omega)]
  · refine ⟨?_, .go⟩
    rw [decide_eq_false (by omega)]
theorem built_ok (n : Int) (hw : widB n = true) (ps : List PR) (pv : Value) (w : World) (hW : WordsAt w 1) (hp : PairsAt w pv ps) (hpl : ps.length ≤ 1000) (hin : ∀ p ∈ ps, ¬ (64 < p.k.length ∨ 256 < p.v.length)) :
    CallK Tryz.prog 63 [.int .i64 n, pv].toArray w fun v w' => ∃ b, v = .tuple [.pointer (some ⟨b, 0, none⟩), .bool true].toArray ∧ MapAt n (fun k => w.heap.size ≤ k) w' (.pointer (some ⟨b, 0, none⟩)) (grownI n (ps.map PR.dat)) ∧ Ext w w' := by
  obtain ⟨hp1, hp2⟩ := hp
  obtain ⟨pa, cp, rfl⟩ := slv_of hp1
  have hwn := (widB_iff n).1 hw
  obtain ⟨nn, rfl⟩ : ∃ nn : Nat, n = nn := ⟨n.toNat, by omega⟩
  refine enterT Tryz.func63 rfl Tryz.ntmps63 Tryz.results63 rfl (by decide) ?_
  repeat (first | exact trivial | refine stp ?_ | refine ldCg ?_ | refine ldNg ?_ | refine ldSg ?_ | refine ldSb ?_ | refine bnd ?_ | refine bnd1 ?_ | refine drawQ (by decide +kernel) mixed (by decide +kernel) ?_)
  refine (New_hamt_ok nn w).mono ?_
  rintro _ w1 ⟨_, hN1, hE1⟩
  have hz1 := hE1.size
  obtain ⟨mv, rfl, hM1⟩ := hN1 hw
  obtain ⟨b, rfl⟩ : ∃ b, mv = .pointer (some ⟨b, 0, none⟩) := by obtain ⟨b, _, rfl, _⟩ := hM1; exact ⟨b, rfl⟩
  clear hN1
  repeat (first | exact trivial | refine stp ?_ | refine ldCg ?_ | refine ldNg ?_ | refine ldSg ?_ | refine ldSb ?_ | refine bnd ?_ | refine bnd1 ?_ | refine drawQ (by decide +kernel) mixed (by decide +kernel) ?_)
  refine loopX (ι := Nat × Nat) (fun x => [(6, .pointer (some ⟨x.2, 0, none⟩)), (7, .int .i64 0), (15, .slice pa ps.length cp), (16, .int .i64 ps.length), (17, .int .i64 x.1)])
    (fun x W => Ext w W ∧ x.1 ≤ ps.length ∧ MapAt nn (fun k => w.heap.size ≤ k) W (.pointer (some ⟨x.2, 0, none⟩)) (grownI nn ((ps.take x.1).map PR.dat))) (fun x => ps.length - x.1) (0, b) ⟨.go, Nat.zero_le _, hM1⟩ ?_ ?_
  · repeat (first | exact trivial | refine stp ?_ | refine ldCg ?_ | refine ldNg ?_ | refine ldSg ?_ | refine ldSb ?_ | refine bnd ?_ | refine bnd1 ?_ | refine drawQ (by decide +kernel) mixed (by decide +kernel) ?_)
  · rintro ⟨i, mb⟩ s2 w2 ⟨hE2, hi, hM2⟩
    simp only at hi hM2
    have hz2 := hE2.size
    repeat (first | exact trivial | refine stp ?_ | refine ldCg ?_ | refine ldNg ?_ | refine ldSg ?_ | refine ldSb ?_ | refine bnd ?_ | refine bnd1 ?_ | refine drawQ (by decide +kernel) mixed (by decide +kernel) ?_)
    refine ⟨fun hlt => ?_, fun hge => ?_⟩
    · obtain ⟨pb, po, rfl, hR⟩ := pr_row hp1 (by omega)
      obtain ⟨p, hx⟩ : ∃ x, ps[i]? = some x := ⟨_, List.getElem?_eq_getElem (by omega)⟩
      obtain ⟨hpk, hpv⟩ := hp2 _ (List.mem_of_getElem? hx)
      have hc := hin _ (List.mem_of_getElem? hx)
      have htk : grownI nn ((ps.take (i + 1)).map PR.dat) = putI (grownI nn ((ps.take i).map PR.dat)) ⟨keyD nn p.k, p.k, p.v⟩ := by
        obtain ⟨hil, he⟩ := List.getElem?_eq_some_iff.1 hx
        rw [List.take_succ_eq_append_getElem hil, he, List.map_append]
        have := grownI_snoc nn ((ps.take i).map PR.dat) p.dat
        rw [show (List.map PR.dat [p]) = [p.dat] from rfl, this, if_neg (show ¬ (64 < p.dat.1.length ∨ 256 < p.dat.2.length) from hc)]
        rfl
      have hgl := grownI_len nn ((ps.take i).map PR.dat)
      rw [List.length_map, List.length_take] at hgl
      obtain ⟨kv, vv, k, v⟩ := p
      simp only at hpk hpv hc htk
      obtain ⟨ka, kc, rfl⟩ := slv_of hpk
      obtain ⟨va, vc', rfl⟩ := slv_of hpv
      repeat (first | exact trivial | refine stp ?_ | refine ldCg ?_ | refine ldNg ?_ | refine ldSg ?_ | refine ldSb ?_ | refine bnd ?_ | refine bnd1 ?_ | refine drawQ (by decide +kernel) mixed (by decide +kernel) ?_)
      refine ldPair hx ?_
      repeat (first | exact trivial | refine stp ?_ | refine ldCg ?_ | refine ldNg ?_ | refine ldSg ?_ | refine ldSb ?_ | refine bnd ?_ | refine bnd1 ?_ | refine drawQ (by decide +kernel) mixed (by decide +kernel) ?_)
      first | refine newS ?_ | refine newZ ?_
      intro w3 hE3 hz3 hB3
      repeat (first | exact trivial | refine stp ?_ | refine ldCg ?_ | refine ldNg ?_ | refine ldSg ?_ | refine ldSb ?_ | refine bnd ?_ | refine bnd1 ?_ | refine drawQ (by decide +kernel) mixed (by decide +kernel) ?_)
      refine (Put_hamt_ok nn hw _ _ _ _ _ k v w3 (hW.ext .go) (hM2.ext .go) (grownI_ok _ _) (hpk.ext .go) (hpv.ext .go) (by omega)).mono ?_
      rintro _ w5 ⟨⟨rv, rfl, _, hM5⟩, hE5⟩
      have hz5 := hE5.size
      replace hM5 := (hM5 hc).mono (S' := fun k => w.heap.size ≤ k) (fun k h => h.elim id (fun h => by omega))
      obtain ⟨b5, rfl⟩ : ∃ b, rv = .pointer (some ⟨b, 0, none⟩) := by obtain ⟨b, _, rfl, _⟩ := hM5; exact ⟨b, rfl⟩
      rw [if_neg hc]
      repeat (first | exact trivial | refine stp ?_ | refine ldCg ?_ | refine ldNg ?_ | refine ldSg ?_ | refine ldSb ?_ | refine bnd ?_ | refine bnd1 ?_ | refine drawQ (by decide +kernel) mixed (by decide +kernel) ?_)
      refine ⟨(i + 1, b5), ⟨.go, by simp only; omega, ?_⟩, ⟨rfl, by rw [w64 (by omega) (by omega)]; rfl⟩, by simp only; omega⟩
      simp only
      rw [htk]
      exact hM5.ext .go
    · obtain rfl : i = ps.length := by omega
      rw [List.take_length] at hM2
      repeat (first | exact trivial | refine stp ?_ | refine ldCg ?_ | refine ldNg ?_ | refine ldSg ?_ | refine ldSb ?_ | refine bnd ?_ | refine bnd1 ?_ | refine drawQ (by decide +kernel) mixed (by decide +kernel) ?_)
      exact ⟨mb, rfl, hM2, hE2⟩
theorem Honest_ok (n : Int) (ps : List PR) (key : List UInt8) (pv kv : Value) (w : World) (hW : WordsAt w 1) (hp : PairsAt w pv ps) (hk : SlB w kv key) :
    CallK Tryz.prog 12 [.int .i64 n, pv, kv].toArray w fun v w' => v = .bool true ∧ Ext w w' := by
  obtain ⟨ka, kc, rfl⟩ := slv_of hk
  obtain ⟨pa, pc, rfl⟩ := slv_of hp.1
  refine enterT Tryz.func12 rfl Tryz.ntmps12 Tryz.results12 rfl (by decide) ?_
  repeat (first | exact trivial | refine stp ?_ | refine ldCg ?_ | refine ldNg ?_ | refine ldSg ?_ | refine ldSb ?_ | refine bnd ?_ | refine bnd1 ?_ | refine drawQ (by decide +kernel) mixed (by decide +kernel) ?_)
  refine (awake_ok w hW).mono ?_
  rintro _ w1 ⟨rfl, hE1⟩
  have hz1 := hE1.size
  repeat (first | exact trivial | refine stp ?_ | refine ldCg ?_ | refine ldNg ?_ | refine ldSg ?_ | refine ldSb ?_ | refine bnd ?_ | refine bnd1 ?_ | refine drawQ (by decide +kernel) mixed (by decide +kernel) ?_)
  refine ⟨fun _ => .go, fun h200 => ?_⟩
  refine loopX (ι := Nat) (fun i => [(0, .int .i64 n), (1, .slice pa ps.length pc), (2, .slice ka key.length kc), (28, .slice pa ps.length pc), (29, .int .i64 ps.length), (30, .int .i64 i)])
    (fun i W => Ext w1 W ∧ i ≤ ps.length ∧ ∀ p ∈ ps.take i, ¬ (64 < p.k.length ∨ 256 < p.v.length)) (fun i => ps.length - i) 0 ⟨.go, Nat.zero_le _, by simp⟩ ?_ ?_
  · repeat (first | exact trivial | refine stp ?_ | refine ldCg ?_ | refine ldNg ?_ | refine ldSg ?_ | refine ldSb ?_ | refine bnd ?_ | refine bnd1 ?_ | refine drawQ (by decide +kernel) mixed (by decide +kernel) ?_)
  · rintro i s2 w2 ⟨hE2, hi, hin⟩
    have hz2 := hE2.size
    repeat (first | exact trivial | refine stp ?_ | refine ldCg ?_ | refine ldNg ?_ | refine ldSg ?_ | refine ldSb ?_ | refine bnd ?_ | refine bnd1 ?_ | refine drawQ (by decide +kernel) mixed (by decide +kernel) ?_)
    refine ⟨fun hlt => ?_, fun hge => ?_⟩
    · obtain ⟨pb, po, rfl, hR⟩ := pr_row hp.1 (by omega)
      obtain ⟨p, hx⟩ : ∃ x, ps[i]? = some x := ⟨_, List.getElem?_eq_getElem (by omega)⟩
      obtain ⟨hpk, hpv⟩ := hp.2 _ (List.mem_of_getElem? hx)
      have htk : ps.take (i + 1) = ps.take i ++ [p] := by
        obtain ⟨hil, he⟩ := List.getElem?_eq_some_iff.1 hx
        rw [List.take_succ_eq_append_getElem hil, he]
      obtain ⟨kv', vv', k, v⟩ := p
      simp only at hpk hpv
      obtain ⟨ka', kc', rfl⟩ := slv_of hpk
      obtain ⟨va', vc', rfl⟩ := slv_of hpv
      repeat (first | exact trivial | refine stp ?_ | refine ldCg ?_ | refine ldNg ?_ | refine ldSg ?_ | refine ldSb ?_ | refine bnd ?_ | refine bnd1 ?_ | refine drawQ (by decide +kernel) mixed (by decide +kernel) ?_)
      refine ldPair hx ?_
      repeat (first | exact trivial | refine stp ?_ | refine ldCg ?_ | refine ldNg ?_ | refine ldSg ?_ | refine ldSb ?_ | refine bnd ?_ | refine bnd1 ?_ | refine drawQ (by decide +kernel) mixed (by decide +kernel) ?_)
      first | refine newS ?_ | refine newZ ?_
      intro w3 hE3 hz3 hB3
      repeat (first | exact trivial | refine stp ?_ | refine ldCg ?_ | refine ldNg ?_ | refine ldSg ?_ | refine ldSb ?_ | refine bnd ?_ | refine bnd1 ?_ | refine drawQ (by decide +kernel) mixed (by decide +kernel) ?_)
      refine (inR_ok k v _ _ w3 (hpk.ext .go) (hpv.ext .go)).mono ?_
      rintro _ w4 ⟨rfl, hE4⟩
      have hz4 := hE4.size
      by_cases hc : 64 < k.length ∨ 256 < v.length
      · rw [decide_eq_false (show ¬ ¬ (64 < k.length ∨ 256 < v.length) from fun h => h hc)]
        repeat (first | exact trivial | refine stp ?_ | refine ldCg ?_ | refine ldNg ?_ | refine ldSg ?_ | refine ldSb ?_ | refine bnd ?_ | refine bnd1 ?_ | refine drawQ (by decide +kernel) mixed (by decide +kernel) ?_)
        exact .go
      · rw [decide_eq_true hc]
        repeat (first | exact trivial | refine stp ?_ | refine ldCg ?_ | refine ldNg ?_ | refine ldSg ?_ | refine ldSb ?_ | refine bnd ?_ | refine bnd1 ?_ | refine drawQ (by decide +kernel) mixed (by decide +kernel) ?_)
        exact ⟨i + 1, ⟨.go, by omega, fun p hp' => by rw [htk] at hp'; rcases List.mem_append.1 hp' with h | h; exact hin p h; rw [List.mem_singleton] at h; subst h; exact hc⟩, by rw [w64 (by omega) (by omega)]; rfl, by omega⟩
    · obtain rfl : i = ps.length := by omega
      rw [List.take_length] at hin
      repeat (first | exact trivial | refine stp ?_ | refine ldCg ?_ | refine ldNg ?_ | refine ldSg ?_ | refine ldSb ?_ | refine bnd ?_ | refine bnd1 ?_ | refine drawQ (by decide +kernel) mixed (by decide +kernel) ?_)
      refine ⟨fun _ => .go, fun h1 => ⟨fun _ => .go, fun h2 => ⟨fun _ => .go, fun h64' => ?_⟩⟩⟩
      have hw : widB n = true := (widB_iff n).2 (by omega)
      obtain ⟨nn, rfl⟩ : ∃ nn : Nat, n = nn := ⟨n.toNat, by omega⟩
      have h64 : ¬ 64 < key.length := by omega
      have hO := grownI_ok nn (ps.map PR.dat)
      have hL := grownI_len nn (ps.map PR.dat)
      rw [List.length_map] at hL
      refine (built_ok nn hw ps _ w2 (hW.ext .go) (hp.ext' .go) (by omega) hin).mono ?_
      rintro _ w3 ⟨b, rfl, hM, hE3⟩
      have hz3 := hE3.size
      generalize grownI nn (ps.map PR.dat) = m at *
      repeat (first | exact trivial | refine stp ?_ | refine ldCg ?_ | refine ldNg ?_ | refine ldSg ?_ | refine ldSb ?_ | refine bnd ?_ | refine bnd1 ?_ | refine drawQ (by decide +kernel) mixed (by decide +kernel) ?_)
      refine (Prove_hproof_ok nn hw _ _ _ m key w3 (hW.ext .go) hM hO (hk.ext .go) (by omega)).mono ?_
      rintro _ w4 ⟨sv, qv, tt, qs, rfl, hOs, hRk, hOp, hRb, htd, hqd, hE4⟩
      have hz4 := hE4.size
      rw [if_neg h64] at htd hqd
      rw [if_neg h64]
      have hSt := hRk.stepsAt hOs
      have hPr := PairsAt.ofRun hOp hRb
      obtain ⟨sa, sc, rfl⟩ := own_slice hOs
      obtain ⟨qa, qc, rfl⟩ := own_slice hOp
      repeat (first | exact trivial | refine stp ?_ | refine ldCg ?_ | refine ldNg ?_ | refine ldSg ?_ | refine ldSb ?_ | refine bnd ?_ | refine bnd1 ?_ | refine drawQ (by decide +kernel) mixed (by decide +kernel) ?_)
      first | refine newS ?_ | refine newZ ?_
      intro w5 hE5 hz5 hB5
      repeat (first | exact trivial | refine stp ?_ | refine ldCg ?_ | refine ldNg ?_ | refine ldSg ?_ | refine ldSb ?_ | refine bnd ?_ | refine bnd1 ?_ | refine drawQ (by decide +kernel) mixed (by decide +kernel) ?_)
      refine (Get_hamt_ok nn hw _ _ _ m key w5 (hW.ext .go) (hM.ext .go) hO (hk.ext .go) (by omega)).mono ?_
      rintro _ w6 ⟨gv, rfl, hR6, hE6⟩
      have hz6 := hE6.size
      rw [if_neg h64] at hR6
      rw [if_neg h64]
      generalize hgv : (getI m key).getD [] = V at hR6
      have hS6 := hR6.sl
      obtain ⟨ga, gc, rfl⟩ := own_slice hR6.own
      have hPI : PathI nn m key tt qs := ⟨htd, hqd⟩
      obtain ⟨_, hend, _⟩ := walk_spec hw (keyD nn key) 64 0 m hO hO.pre rfl
      have hkb : ∀ p ∈ qs, p.k.length ≤ 64 := fun p hp => by
        obtain ⟨y, hy, he⟩ := List.mem_map.1 (hqd ▸ List.mem_map_of_mem (f := PR.dat) hp)
        rw [hend] at hy
        have := hO.short y ((wmI_sub (keyD nn key) _ 0).1 hy).1
        simp only [It.pr, PR.dat, Prod.mk.injEq] at he
        rw [he.1] at this
        omega
      have hqn : qs.length ≤ 200 := by
        have h1 := congrArg List.length hqd
        rw [List.length_map, List.length_map, hend] at h1
        have := wmI_len (keyD nn key) (walkI nn (keyD nn key) 64 0 m).1.length 0 m
        omega
      repeat (first | exact trivial | refine stp ?_ | refine ldCg ?_ | refine ldNg ?_ | refine ldSg ?_ | refine ldSb ?_ | refine bnd ?_ | refine bnd1 ?_ | refine drawQ (by decide +kernel) mixed (by decide +kernel) ?_)
      refine (RootOf_ok nn key _ _ _ tt qs w6 (hW.ext .go) (hk.ext .go) (by omega) (hSt.ext' .go) (hPr.ext' .go) (fun p hp => by have := hkb p hp; omega) (by omega)).mono ?_
      rintro _ w7 ⟨e, ov, rfl, hRE, hO7, hE7⟩
      have hz7 := hE7.size
      obtain rfl : e = 0 := hPI.ok hw hO (by omega) hRE
      have hrd := hPI.root hw hO
      have hov : outV 0 key qs = V := by unfold outV; rw [if_pos rfl, hPI.val hw hO, hgv]
      have hot : outT 0 key qs = (getI m key).isSome := by unfold outT; rw [hPI.val hw hO]; rfl
      have hrl : (rootD nn m).length = 32 := by rw [← hrd]; exact outD_len _ _ _ _ _
      have hrf : formB nn (rootD nn m) = true := by
        unfold rootD
        split
        · exact form_sumR _ _ hw
        · exact form_node _ hw _ _ _
      rw [hov] at hO7
      rw [hrd, hot]
      have hS7 := SlC.of_own hO7
      obtain ⟨oa, oc, rfl⟩ := own_slice hO7
      repeat (first | exact trivial | refine stp ?_ | refine ldCg ?_ | refine ldNg ?_ | refine ldSg ?_ | refine ldSb ?_ | refine bnd ?_ | refine bnd1 ?_ | refine drawQ (by decide +kernel) mixed (by decide +kernel) ?_)
      first | refine newS ?_ | refine newZ ?_
      intro w8 hE8 hz8 hB8
      repeat (first | exact trivial | refine stp ?_ | refine ldCg ?_ | refine ldNg ?_ | refine ldSg ?_ | refine ldSb ?_ | refine bnd ?_ | refine bnd1 ?_)
      refine drawX (.of [0, 1, 3, 4, 2, 5, 6, 7, 8, 9, 10, 11, 12]) mixed (by decide +kernel) (fun w9 hE9 hz9 => ?_)
      repeat (first | exact trivial | refine stp ?_ | refine ldCg ?_ | refine ldNg ?_ | refine ldSg ?_ | refine ldSb ?_ | refine bnd ?_ | refine bnd1 ?_ | refine drawQ (by decide +kernel) mixed (by decide +kernel) ?_)
      refine (Root_hamt_ok nn _ _ m w9 (hW.ext .go) (hM.ext .go) hO.len).mono ?_
      rintro _ w10 ⟨rfl, hE10⟩
      have hz10 := hE10.size
      refine toldX ?_
      repeat (first | exact trivial | refine stp ?_ | refine ldCg ?_ | refine ldNg ?_ | refine ldSg ?_ | refine ldSb ?_ | refine bnd ?_ | refine bnd1 ?_ | refine drawQ (by decide +kernel) mixed (by decide +kernel) ?_)
      refine (Check_ok nn (rootD nn m) key hrl _ _ _ tt qs w10 (hW.ext .go) (hk.ext .go) (by omega) (hSt.ext' .go) (hPr.ext' .go) (fun p hp => by have := hkb p hp; omega) (by omega)).mono ?_
      rintro _ w11 ⟨e, f, cv, rfl, hRE2, hf, hO11, hE11⟩
      have hz11 := hE11.size
      obtain rfl : e = 0 := hPI.ok hw hO (by omega) hRE2
      obtain rfl : f = 0 := by
        rw [hf, hrd]
        unfold checkE
        rw [if_neg (by decide), if_neg (by rw [hrf]; decide), if_neg (fun h => h.2 rfl)]
      rw [hov] at hO11
      rw [hot]
      have hS11 := SlC.of_own hO11
      obtain ⟨ca, cc, rfl⟩ := own_slice hO11
      refine toldX ?_
      repeat (first | exact trivial | refine stp ?_ | refine ldCg ?_ | refine ldNg ?_ | refine ldSg ?_ | refine ldSb ?_ | refine bnd ?_ | refine bnd1 ?_ | refine drawQ (by decide +kernel) mixed (by decide +kernel) ?_)
      repeat (first | exact trivial | refine stp ?_ | refine ldCg ?_ | refine ldNg ?_ | refine ldSg ?_ | refine ldSb ?_ | refine bnd ?_ | refine bnd1 ?_)
      refine qcall _ (fun w' hw' => Root_hamt_ok nn _ _ m w' (hW.ext .go) (hM.ext .go) hO.len) ?_
      repeat (first | exact trivial | refine stp ?_ | refine ldCg ?_ | refine ldNg ?_ | refine ldSg ?_ | refine ldSb ?_ | refine bnd ?_ | refine bnd1 ?_ | refine drawQ (by decide +kernel) mixed (by decide +kernel) ?_)
      refine eqd_lit _ _ _ _ _ _ Tryz.underlying5 c5 hrl hrl ?_
      rw [decide_eq_true (rfl : rootD nn m = rootD nn m)]
      repeat (first | exact trivial | refine stp ?_ | refine ldCg ?_ | refine ldNg ?_ | refine ldSg ?_ | refine ldSb ?_ | refine bnd ?_ | refine bnd1 ?_ | refine drawQ (by decide +kernel) mixed (by decide +kernel) ?_)
      refine qcall _ (fun w' hw' => Same_ok V V _ _ w' (hS7.ext .go) (hS6.ext .go)) ?_
      rw [decide_eq_true (rfl : V = V)]
      repeat (first | exact trivial | refine stp ?_ | refine ldCg ?_ | refine ldNg ?_ | refine ldSg ?_ | refine ldSb ?_ | refine bnd ?_ | refine bnd1 ?_ | refine drawQ (by decide +kernel) mixed (by decide +kernel) ?_)
      have hsimp : decide (key.length ≤ 64) = true := decide_eq_true (by omega)
      rw [hsimp, Bool.true_and]
      refine ⟨fun _ => ?_, fun h => absurd rfl h⟩
      refine qcall _ (fun w' hw' => Same_ok V V _ _ w' (hS11.ext .go) (hS6.ext .go)) ?_
      rw [decide_eq_true (rfl : V = V)]
      repeat (first | exact trivial | refine stp ?_ | refine ldCg ?_ | refine ldNg ?_ | refine ldSg ?_ | refine ldSb ?_ | refine bnd ?_ | refine bnd1 ?_ | refine drawQ (by decide +kernel) mixed (by decide +kernel) ?_)
      intro w12 hE12
      exact .go
end Go.Proofs.YtebbgninkbghlaaGreatDoor

/-! Row -/
namespace Go.Proofs.YtebbgninkbghlaaGreatDoor
set_option maxRecDepth 100000
open Go Go.RowKit Go.ChangeShapes Go.WideShapes Go.ChangeAt
set_option linter.unusedVariables false
set_option linter.unusedSimpArgs false

/-- Each of the types can be read and is a row of the table. -/
def rowedT (P : Program) (ts : List TypeId) : Bool := ts.all fun t => P.readableRec t && decide (t < P.types.size)

theorem below_trodAll {H : Type} {enc : TypeId × Value → H} {P : Program} (hl : laidOutB P = true) {W W' : World} (hb : Below W.heap.size W W') :
    ∀ {ts : List TypeId} {vs : List Value} {ds : List (DataW H)} {ps : List MemPlace}, rowedT P ts = true → DataW.TrodAll enc P W 0 (fun _ => true) true ts vs ds ps → (∀ x ∈ ps, x.block < W.heap.size) → DataW.TrodAll enc P W' 0 (fun b => decide (b < W.heap.size)) true ts vs ds ps
  | [], [], [], _, _, h, _ => h
  | [], _ :: _, _, _, _, h, _ => by simp [DataW.TrodAll] at h
  | [], [], _ :: _, _, _, h, _ => by simp [DataW.TrodAll] at h
  | _ :: _, [], _, _, _, h, _ => by simp [DataW.TrodAll] at h
  | _ :: _, _ :: _, [], _, _, h, _ => by simp [DataW.TrodAll] at h
  | t :: ts, v :: vs, d :: ds, ps, hr, h, hlt => by
    obtain ⟨p, q, h1, h2, rfl⟩ := h
    simp only [rowedT, List.all_cons, Bool.and_eq_true, decide_eq_true_eq] at hr
    refine ⟨p, q, Below.trod hl hr.1.1 hr.1.2 h1 hb (fun x hx => hlt x (by simp [hx])), below_trodAll hl hb (by simpa [rowedT] using hr.2) h2 (fun x hx => hlt x (by simp [hx])), rfl⟩

/-- What a law's row asks of the end, given what the walk says: true, and nothing old has turned. -/
theorem law_post {H : Type} {enc : TypeId × Value → H} {P : Program} (hl : laidOutB P = true) {f : Func} {s : ChangeSpec} {tb : TypeId} (hr : f.resultTypes = #[tb]) (hb : P.underlying tb = some .bool)
    (hp : rowedT P f.params.toList = true) (hv : s.vars = []) {W W' : World} {args : Array Value} {ds gs : List (DataW H)} {before : List MemPlace}
    (hW : DataW.Whole enc P f.params.toList s.vars false W args.toList ds gs before)
    (hfn : (s.fn H (ds ++ gs)).results = [.lit (.bool true)] ∧ (s.fn H (ds ++ gs)).args = ds ∧ (s.fn H (ds ++ gs)).vars = gs) (hE : Ext W W') :
    s.post enc P f false true false false W args (.bool true) W' := by
  have hW' := hW
  obtain ⟨p, q, hA, hV, rfl, hfz, hnd⟩ := hW
  refine ⟨ds, gs, p ++ q, [], p, q, hW', ?_, ?_, ?_, hE.frame _, fun h => by cases h⟩
  · rw [hfn.1, hr]
    exact trodAll_cons_mk (shut_bool hb _) trodAll_mk0
  · rw [hfn.2.1]
    exact below_trodAll hl hE hp hA (fun x hx => by simpa using hW'.lt x (by simp [hx]))
  · rw [hfn.2.2]
    rw [hv] at hV ⊢
    obtain ⟨rfl, rfl⟩ := trodVars_none hV
    rfl

theorem CallK.toCalls {P : Program} {f : FuncId} {args : Array Value} {w : World} (h : CallK P f args w fun v w' => v = .bool true ∧ Ext w w') (hb : callable P f = true) : Calls P f args w fun e w' => e = .returned (.bool true) ∧ Ext w w' :=
  (h.body hb).calls.mono fun e w' ⟨v, he, hv, hE⟩ => ⟨by rw [he, hv], hE⟩

/-! ### Arguments opened -/
theorem wf_bounds {k : IntKind} {n : Int} (h : (Lit.int k n).wf = true) : k.min ≤ n ∧ n ≤ k.max := by
  simpa [Lit.wf] using h
theorem cells_u8 {H : Type} {enc : TypeId × Value → H} {P : Program} {w : World} {base : Nat} {sp : Nat → Bool} {held : Bool} {fuel e : Nat} {c : List Value} {x : DataW H × List MemPlace} (he : P.underlying e = some (.int .u8))
    (h : DataW.trod enc P w base sp held fuel e c = some x) : ∃ b : UInt8, c = [vb b] := by
  obtain ⟨n, h1, hx, hw⟩ := DataW.trod_int he h
  have hb := wf_bounds hw
  simp [IntKind.min, IntKind.max, IntKind.signed, IntKind.bits] at hb
  refine ⟨UInt8.ofNat n.toNat, ?_⟩
  rw [h1]
  simp only [vb, UInt8.toNat_ofNat', List.cons.injEq, and_true]
  rw [Nat.mod_eq_of_lt (by omega), Int.toNat_of_nonneg hb.1]

theorem open_num {H : Type} {enc : TypeId × Value → H} {P : Program} {w : World} {base b0 : Nat} {r : Reach} {sp : Nat → Bool} {held : Bool} {t : Nat} {k : IntKind} {v : Value} {d : DataW H} {ps : List MemPlace} (ht : P.underlying t = some (.int k))
    (hval : Value.okWide P w r b0 t v) (hd : DataW.Trod enc P w base sp held t v d ps) : ∃ n : Int, v = .int k n ∧ k.min ≤ n ∧ n ≤ k.max := by
  obtain ⟨n, rfl, _, _, h⟩ := open_int ht hval hd
  exact ⟨n, rfl, wf_bounds h⟩

theorem list_of {α : Type} {p : Nat → α → Prop} : ∀ n, (∀ i, i < n → ∃ x, p i x) → ∃ l : List α, l.length = n ∧ ∀ i x, l[i]? = some x → p i x
  | 0, _ => ⟨[], rfl, by simp⟩
  | n + 1, h => by
    obtain ⟨l, hl, hp⟩ := list_of n (fun i hi => h i (by omega))
    obtain ⟨x, hx⟩ := h n (by omega)
    refine ⟨l ++ [x], by simp [hl], fun i y hy => ?_⟩
    by_cases hi : i < n
    · rw [List.getElem?_append_left (by omega)] at hy; exact hp i y hy
    · rw [List.getElem?_append_right (by omega)] at hy
      have : i - l.length = 0 := by
        rcases Nat.eq_zero_or_pos (i - l.length) with h0 | h0
        · exact h0
        · rw [List.getElem?_eq_none (by simp; omega)] at hy; cases hy
      have e : i = n := by omega
      rw [this] at hy
      simp at hy
      rw [e, ← hy]; exact hx
theorem flat_inv {α : Type} {f : α → List Value} {sz : Nat} (hz : 0 < sz) : ∀ (ds : List α) (j : Nat) (u : Value), (∀ d ∈ ds, (f d).length = sz) → (ds.flatMap f)[j]? = some u → ∃ d, ds[j / sz]? = some d ∧ (f d)[j % sz]? = some u
  | [], j, u, _, h => by simp at h
  | x :: ds, j, u, hs, h => by
    have hx : (f x).length = sz := hs x (by simp)
    simp only [List.flatMap_cons] at h
    by_cases hj : j < sz
    · rw [List.getElem?_append_left (by omega)] at h
      exact ⟨x, by rw [Nat.div_eq_of_lt hj]; rfl, by rw [Nat.mod_eq_of_lt hj]; exact h⟩
    · rw [List.getElem?_append_right (by omega), hx] at h
      obtain ⟨d, h1, h2⟩ := flat_inv hz ds (j - sz) u (fun d hd => hs d (by simp [hd])) h
      refine ⟨d, ?_, ?_⟩
      · rw [Nat.div_eq_sub_div hz (by omega)]; exact h1
      · rw [show j % sz = (j - sz) % sz from by rw [Nat.mod_eq_sub_mod (by omega)]]; exact h2

end Go.Proofs.YtebbgninkbghlaaGreatDoor

/-! RowU -/
namespace Go.Proofs.YtebbgninkbghlaaGreatDoor
set_option maxRecDepth 100000
open Go Go.RowKit Go.ChangeShapes Go.WideShapes Go.ChangeAt
set_option linter.unusedVariables false
set_option linter.unusedSimpArgs false

/-! ### Bulk -/
theorem bulk_one {H : Type} (d : DataW H) : 1 ≤ Rows.uptoBulk d := by
  cases d with
  | lit l => cases l <;> simp [Rows.uptoBulk]
  | nil => simp [Rows.uptoBulk]
  | ptr d => simp [Rows.uptoBulk]
  | slice elems spare => simp [Rows.uptoBulk]
  | agg parts => simp [Rows.uptoBulk]
  | iface t d => simp [Rows.uptoBulk]
  | map entries => simp [Rows.uptoBulk]
  | held h => simp [Rows.uptoBulk]
theorem bulk_mem {H : Type} {d : DataW H} {l : List (DataW H)} (h : d ∈ l) : Rows.uptoBulk d ≤ Rows.uptoBulkAll l := by
  induction l with
  | nil => cases h
  | cons x r ih =>
    simp only [Rows.uptoBulkAll]
    cases List.mem_cons.1 h with
    | inl e => subst e; omega
    | inr e => have := ih e; omega
theorem bulk_len {H : Type} (l : List (DataW H)) : l.length ≤ Rows.uptoBulkAll l := by
  induction l with
  | nil => simp [Rows.uptoBulkAll]
  | cons x r ih => have := bulk_one x; simp only [Rows.uptoBulkAll, List.length_cons]; omega
theorem bulk_agg {H : Type} {d : DataW H} {l : List (DataW H)} (h : d ∈ l) : Rows.uptoBulk d ≤ Rows.uptoBulk (.agg l) := by
  have := bulk_mem h
  simp only [Rows.uptoBulk]
  omega
/-! ### Lists opened, wherever they lie -/
section opened
variable {H : Type} {enc : TypeId × Value → H} {w : World} {sp : Nat → Bool} {fuel : Nat} {cs : List Value} {x : DataW H × List MemPlace}
theorem open_slb {α : Type} {f : α → List Value} {q : Nat → α → Prop} {P : Program} {t e sz : Nat} (ht : P.underlying t = some (.slice e)) (hsz : P.cellsOf e = sz) (hz : 0 < sz) (hq : ∀ m n a, m ≤ n → q m a → q n a)
    (hel : ∀ n cs x, DataW.trod enc P w 0 sp true n e cs = some x → ∃ a, f a = cs ∧ q (Rows.uptoBulk x.1) a) (hf : DataW.trod enc P w 0 sp true fuel t cs = some x) :
    ∃ (v : Value) (l : List α), cs = [v] ∧ (∀ a ∈ l, (f a).length = sz) ∧ SlC w v l.length (l.flatMap f) ∧ l.length ≤ Rows.uptoBulk x.1 ∧ ∀ a ∈ l, q (Rows.uptoBulk x.1) a := by
  rcases Go.Deep.open_slice ht hf with ⟨h1, h2⟩ | ⟨a, len, cap, m, n, D, Pl, h1, hb, hlc, hcm, hmm, hx, hall⟩
  · exact ⟨_, [], h1, by simp, ⟨none, 0, rfl, Nat.le_refl _, by decide, Or.inl rfl⟩, by simp, by simp⟩
  · have hlm : len ≤ m := by rw [hmm]; split <;> omega
    have hcm' : cap ≤ 9223372036854775807 := by simpa [maxLen] using hcm
    have hD : ∀ i, i < len → Rows.uptoBulk (D i) ≤ Rows.uptoBulk x.1 := by
      intro i hi
      rw [hx]
      simp only [Rows.uptoBulk]
      have := bulk_mem (d := D i) (l := (List.range len).map D) (List.mem_map.2 ⟨i, by simpa using hi, rfl⟩)
      omega
    have hlen : len ≤ Rows.uptoBulk x.1 := by
      rw [hx]
      simp only [Rows.uptoBulk]
      have := bulk_len ((List.range len).map D)
      simp at this
      omega
    by_cases h0 : len = 0
    · subst h0
      exact ⟨_, [], h1, by simp, ⟨_, cap, rfl, Nat.zero_le _, hcm', Or.inl rfl⟩, by simp, by simp⟩
    · obtain ⟨b, o, s⟩ := a
      have hspot : s = none := by
        obtain ⟨cs', hc, _⟩ := hall 0 (by omega)
        obtain ⟨_, hlen', hcell⟩ := World.cells?_some hc
        have h3 := hcell 0 (by omega)
        rw [hsz] at h3 hlen'
        cases s with
        | none => rfl
        | some s =>
          exfalso
          have h4 : w.cell? ⟨b, o, some s⟩ = cs'[0]? := by
            have : ((⟨b, o, some s⟩ : Addr).add (0 * sz)).add 0 = ⟨b, o, some s⟩ := by simp [Addr.add]
            rw [← this]
            exact h3
          rw [List.getElem?_eq_getElem (by omega)] at h4
          simp only [World.cell?] at h4
          split at h4 <;> simp at h4
      subst hspot
      obtain ⟨l, hl, hp⟩ := list_of (p := fun i (y : α) => (f y).length = sz ∧ (∀ k u, (f y)[k]? = some u → w.cell? ⟨b, o + (i * sz + k), none⟩ = some u) ∧ q (Rows.uptoBulk x.1) y) len (fun i hi => by
        obtain ⟨cs', hc, ht2⟩ := hall i (by omega)
        obtain ⟨y, rfl, hqy⟩ := hel _ _ _ ht2
        obtain ⟨_, hlen', hcell⟩ := World.cells?_some hc
        rw [hsz] at hlen' hcell
        refine ⟨y, hlen', fun k u hk => ?_, hq _ _ _ (hD i hi) hqy⟩
        have hk' : k < sz := by rw [← hlen']; exact (List.getElem?_eq_some_iff.1 hk).1
        have h5 := hcell k hk'
        rw [addr_add, addr_add, hk] at h5
        rwa [Nat.add_assoc] at h5)
      subst h1
      refine ⟨_, l, rfl, fun y hy => ?_, ⟨_, cap, by rw [hl], by omega, hcm', Or.inr ⟨b, o, rfl, fun j u hj => ?_⟩⟩, by omega, fun y hy => ?_⟩
      · obtain ⟨i, hi⟩ := List.getElem?_of_mem hy
        exact (hp i y hi).1
      · obtain ⟨y, h1, h2⟩ := flat_inv hz l j u (fun y hy => by obtain ⟨i, hi⟩ := List.getElem?_of_mem hy; exact (hp i y hi).1) hj
        have := (hp _ y h1).2.1 _ u h2
        rwa [show j / sz * sz + j % sz = j from by rw [Nat.mul_comm]; exact Nat.div_add_mod j sz] at this
      · obtain ⟨i, hi⟩ := List.getElem?_of_mem hy
        exact (hp i y hi).2.2
theorem vb_flat (l : List UInt8) : l.flatMap (fun b => [vb b]) = vbs l := by
  induction l with
  | nil => rfl
  | cons a l ih => simp only [List.flatMap_cons, ih]; rfl
theorem in_bytes (hf : DataW.trod enc Tryz.prog w 0 sp true fuel 22 cs = some x) : ∃ v xs, cs = [v] ∧ SlB w v xs ∧ xs.length ≤ Rows.uptoBulk x.1 := by
  obtain ⟨v, l, h1, _, h3, h4, _⟩ := open_slb (f := fun b => [vb b]) (q := fun _ _ => True) Tryz.underlying22 c5 (by decide) (fun _ _ _ _ h => h) (fun m cs x h => by obtain ⟨y, rfl⟩ := cells_u8 Tryz.underlying5 h; exact ⟨y, rfl, trivial⟩) hf
  rw [vb_flat] at h3
  exact ⟨v, l, h1, h3, h4⟩
theorem in_pair (hf : DataW.trod enc Tryz.prog w 0 sp true fuel 47 cs = some x) : ∃ p : PR, p.cells = cs ∧ SlB w p.kv p.k ∧ SlB w p.vv p.v ∧ p.k.length ≤ Rows.uptoBulk x.1 ∧ p.v.length ≤ Rows.uptoBulk x.1 := by
  obtain ⟨y0, y1, n, rfl, hl, h0, h1⟩ := trod_struct2 Tryz.underlying47 hf
  rw [c47] at hl
  simp only [c22] at h0 h1
  obtain ⟨u, xs, e0, hu, hb0⟩ := in_bytes h0
  obtain ⟨v, ys, e1, hv, hb1⟩ := in_bytes h1
  refine ⟨⟨u, v, xs, ys⟩, ?_, hu, hv, Nat.le_trans hb0 (bulk_agg (by simp)), Nat.le_trans hb1 (bulk_agg (by simp))⟩
  match cs, hl with
  | [a, b], _ =>
    simp at e0 e1
    simp only [PR.cells, e0, e1]
theorem in_pairs (hf : DataW.trod enc Tryz.prog w 0 sp true fuel 24 cs = some x) : ∃ v ps, cs = [v] ∧ PairsAt w v ps ∧ ps.length ≤ Rows.uptoBulk x.1 ∧ ∀ p ∈ ps, p.k.length ≤ Rows.uptoBulk x.1 ∧ p.v.length ≤ Rows.uptoBulk x.1 := by
  obtain ⟨v, l, h1, h2, h3, h4, h5⟩ := open_slb (f := PR.cells) (q := fun m p => SlB w p.kv p.k ∧ SlB w p.vv p.v ∧ p.k.length ≤ m ∧ p.v.length ≤ m) Tryz.underlying24 c47 (by decide) (fun m n a h g => ⟨g.1, g.2.1, Nat.le_trans g.2.2.1 h, Nat.le_trans g.2.2.2 h⟩) (fun m cs x h => by obtain ⟨s, e, g⟩ := in_pair h; exact ⟨s, e, g⟩) hf
  exact ⟨v, l, h1, ⟨h3, fun s hs => ⟨(h5 s hs).1, (h5 s hs).2.1⟩⟩, h4, fun s hs => (h5 s hs).2.2⟩

end opened

end Go.Proofs.YtebbgninkbghlaaGreatDoor

/-! RowW -/
namespace Go.Proofs.YtebbgninkbghlaaGreatDoor
set_option maxRecDepth 100000
open Go Go.RowKit Go.ChangeShapes Go.WideShapes Go.ChangeAt
set_option linter.unusedVariables false
set_option linter.unusedSimpArgs false

section opened
variable {H : Type} {enc : TypeId × Value → H} {w : World} {sp : Nat → Bool} {r : Reach} {b0 : Nat} {v : Value} {d : DataW H} {p : List MemPlace}
theorem open_bsb (hval : Value.okWide Tryz.prog w r b0 22 v) (hd : DataW.Trod enc Tryz.prog w 0 sp true 22 v d p) : ∃ xs, SlB w v xs ∧ xs.length ≤ Rows.uptoBulk d := by
  obtain ⟨a0, len0, cap0, rfl⟩ := okWide_slice Tryz.underlying22 hval
  obtain ⟨fuel, hf⟩ := hd
  obtain ⟨u, xs, h1, h2, h3⟩ := in_bytes hf
  simp [Value.cells] at h1
  subst h1
  exact ⟨xs, h2, h3⟩
theorem open_prs (hval : Value.okWide Tryz.prog w r b0 24 v) (hd : DataW.Trod enc Tryz.prog w 0 sp true 24 v d p) : ∃ ps, PairsAt w v ps ∧ ps.length ≤ Rows.uptoBulk d ∧ ∀ q ∈ ps, q.k.length ≤ Rows.uptoBulk d ∧ q.v.length ≤ Rows.uptoBulk d := by
  obtain ⟨a0, len0, cap0, rfl⟩ := okWide_slice Tryz.underlying24 hval
  obtain ⟨fuel, hf⟩ := hd
  obtain ⟨u, ps, h1, h2, h3⟩ := in_pairs hf
  simp [Value.cells] at h1
  subst h1
  exact ⟨ps, h2, h3⟩
end opened

/-! ### The table -/
theorem gTab : Tryz.prog.globalNamed "notary/sha.words" = some 1 := by kernel_rfl
theorem gTabType : (Tryz.prog.globals[1]?).map (·.type) = some 241 := by kernel_rfl
theorem tab_eq {H : Type} : (Rows.laid_notary_sha_words : DataW H) = Lib.tabData .u32 (KW.map fun x => (x.toNat : Int)) := by kernel_rfl
theorem words_of {W : World} (h : laidMetH Tryz.prog [("notary/sha.words", Rows.laid_notary_sha_words)] W) : WordsAt W 1 := by
  have h' : laidMetH Tryz.prog [("notary/sha.words", Lib.tabData .u32 (KW.map fun x => (x.toNat : Int)))] W := by
    rw [← tab_eq]
    exact h
  have ht := Lib.tabIs_of_head (rest := []) gTab gTabType Tryz.underlying241 Tryz.underlying221 c221 c241 h'
  intro j hj
  have hc := ht.cell gTab j (by rw [List.length_map]; exact hj)
  rw [hc]
  have hl : j < KW.length := hj
  simp only [vw, List.getD_eq_getElem?_getD, List.getElem?_map, List.getElem?_eq_getElem hl, Option.map_some, Option.getD_some]

end Go.Proofs.YtebbgninkbghlaaGreatDoor
