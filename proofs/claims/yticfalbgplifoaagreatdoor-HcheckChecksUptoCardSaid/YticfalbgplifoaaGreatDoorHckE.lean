/-
  hcheck.Check. Conditions: as stated in each theorem.
-/
import Derived.Test.YticfalbgplifoaaGreatDoorHckD
namespace Go.Proofs.YticfalbgplifoaaGreatDoor
set_option maxRecDepth 100000
open Go Go.RowKit
set_option linter.unusedVariables false
set_option linter.unusedSimpArgs false

def checkE (n : Int) (root d : List UInt8) (e : Nat) : Nat := if e = 1 ∨ e = 2 then e else if formB n root = false then 3 else if e = 0 ∧ d ≠ root then 10 else e
def checkV (f : Nat) (key : List UInt8) (ps : List PR) : List UInt8 := outV f key ps

theorem Check_ok (n : Int) (root key : List UInt8) (hrt : root.length = 32) (kv sv pv : Value) (ss : List SR) (ps : List PR) (w : World) (hW : WordsAt w 1) (hkv : SlB w kv key) (hkl : key.length + 1 ≤ 140737488355328) (hs : StepsAt w sv ss) (hp : PairsAt w pv ps)
    (hpl : ∀ p ∈ ps, p.k.length + 1 ≤ 140737488355328) (hpn : ps.length ≤ 400000000000) :
    CallK Tryz.prog 12 [.int .i64 n, .agg (vbs root).toArray, kv, .agg [sv, pv].toArray].toArray w fun r w' => ∃ e f v, r = .tuple [v, .bool (outT f key ps), .int .i64 (f : Nat)].toArray ∧ RootE n key ss ps e ∧ f = checkE n root (outD e n key ss ps) e ∧
      Own w' w.heap.size 5 1 v (outV f key ps).length (vbs (outV f key ps)) ∧ Ext w w' := by
  obtain ⟨sa, cs, hse⟩ := slv_of hs.1
  obtain ⟨pa, cp, hpe⟩ := slv_of hp.1
  subst hse hpe
  refine enterT Tryz.func12 rfl Tryz.ntmps12 Tryz.results12 rfl (by decide) ?_
  simp only [↓VD, VP, VT, isAggD, reduceCtorEq, Int.reduceEq, Int.reduceNe, Int.reduceLT, Int.reduceLE, implies_true, Nat.reduceEqDiff, reduceIte, ite_true, ite_false, eq_self, Nat.reduceLT, Nat.reduceLeDiff, Nat.reduceAdd, Nat.reduceMul, Nat.reduceSub, intOf]
  intro w1 hN1 w2 hN2
  have s1 := hN1.size
  have s2 := hN2.size
  have hB5 := hN1.blk.ext hN2.ext
  have hB7 := hN2.blk
  have hE2 : Ext w w2 := hN1.ext.trans' hN2.ext
  generalize w1.heap.size = b7 at *
  refine ldA Tryz.underlying26 rfl hB7 (by rw [c26]; rfl) ?_
  simp only [↓VD, VP, VT, isAggD, reduceCtorEq, Int.reduceEq, Int.reduceNe, Int.reduceLT, Int.reduceLE, implies_true, Nat.reduceEqDiff, reduceIte, ite_true, ite_false, eq_self, Nat.reduceLT, Nat.reduceLeDiff, Nat.reduceAdd, Nat.reduceMul, Nat.reduceSub, intOf]
  refine (RootOf_ok n key kv _ _ ss ps w2 (hW.ext hE2) (hkv.ext hE2) hkl (hs.ext hE2) (hp.ext hE2) hpl hpn).mono ?_
  rintro _ w3 ⟨e, v, rfl, hR, hO, hE3⟩
  have lod := outD_len e n key ss ps
  simp only [↓VD, VP, VT, isAggD, reduceCtorEq, Int.reduceEq, Int.reduceNe, Int.reduceLT, Int.reduceLE, implies_true, Nat.reduceEqDiff, reduceIte, ite_true, ite_false, eq_self, Nat.reduceLT, Nat.reduceLeDiff, Nat.reduceAdd, Nat.reduceMul, Nat.reduceSub, intOf]
  intro w4 hN4
  have s3 := hE3.size
  have s4 := hN4.size
  refine stAll hN4.blk rfl (by rw [c28]; decide) (by rw [c28, vbs_len, lod]) (by rw [c28]; simp) (vbs_one _) (fun w5 hP5 => ?_)
  have hE35 : Ext w3 w5 := hN4.ext.trans (hP5.below (Nat.le_refl _))
  have hE5 : Ext w2 w5 := hE3.trans' hE35
  have hB11 := hP5.blk
  generalize w3.heap.size = b11 at *
  replace hB5 := hB5.ext hE5
  replace hO := (hO.ext hE35).base (show w.heap.size ≤ w2.heap.size by omega)
  have hE5' := hE2.trans' hE5
  have hlast : ∀ (f : Nat) (W : World), Ext w5 W → f = checkE n root (outD e n key ss ps) e → (f = 0 → ∃ e' f' v', (.tuple #[v, .bool (outT e key ps), .int .i64 0] : Value) = .tuple [v', .bool (outT f' key ps), .int .i64 (f' : Nat)].toArray ∧ RootE n key ss ps e' ∧ f' = checkE n root (outD e' n key ss ps) e' ∧ Own W w.heap.size 5 1 v' (outV f' key ps).length (vbs (outV f' key ps)) ∧ Ext w W) ∧
      (f ≠ 0 → ∃ e' f' v', (.tuple #[.slice none 0 0, .bool false, .int .i64 f] : Value) = .tuple [v', .bool (outT f' key ps), .int .i64 (f' : Nat)].toArray ∧ RootE n key ss ps e' ∧ f' = checkE n root (outD e' n key ss ps) e' ∧ Own W w.heap.size 5 1 v' (outV f' key ps).length (vbs (outV f' key ps)) ∧ Ext w W) := by
    intro f W hEW hf
    refine ⟨fun h0 => ?_, fun hne => ?_⟩
    · have he : e = 0 := by
        rw [h0] at hf
        unfold checkE at hf
        by_cases h1 : e = 1 ∨ e = 2
        · rw [if_pos h1] at hf; omega
        · rw [if_neg h1] at hf
          by_cases h2 : formB n root = false
          · rw [if_pos h2] at hf; omega
          · rw [if_neg h2] at hf
            by_cases h3 : e = 0 ∧ outD e n key ss ps ≠ root
            · exact h3.1
            · rw [if_neg h3] at hf; omega
      subst he
      subst h0
      exact ⟨0, 0, v, rfl, hR, hf, hO.ext hEW, hE5'.trans' hEW⟩
    · refine ⟨e, f, .slice none 0 0, ?_, hR, hf, ?_, hE5'.trans' hEW⟩
      · simp [outT, hne]
      · simp only [outV, if_neg hne]
        exact Own.nil _ _ _ _
  simp only [↓VQ, VP, VT, isAggD, reduceCtorEq, Int.reduceEq, Int.reduceNe, Int.reduceLT, Int.reduceLE, implies_true, Nat.reduceEqDiff, reduceIte, ite_true, ite_false, eq_self, Nat.reduceLT, Nat.reduceLeDiff, Nat.reduceAdd, Nat.reduceMul, Nat.reduceSub, intOf]
  rw [v_seq]
  refine joinT (fun s' W' => Ext w5 W' ∧ s' 12 = v ∧ s' 13 = .bool (outT e key ps) ∧ ∃ f : Nat, s' 14 = .int .i64 f ∧ f = checkE n root (outD e n key ss ps) e) ?_ ?_
  · by_cases h1 : e = 1
    · have f1 : ((e : Int) = 1) = True := eq_true (by omega)
      simp only [↓VD, VP, VT, isAggD, reduceCtorEq, Int.reduceEq, Int.reduceNe, Int.reduceLT, Int.reduceLE, implies_true, Nat.reduceEqDiff, reduceIte, ite_true, ite_false, eq_self, Nat.reduceLT, Nat.reduceLeDiff, Nat.reduceAdd, Nat.reduceMul, Nat.reduceSub, intOf, f1]
      exact ⟨Ext.rfl' _, e, rfl, by simp [checkE, h1]⟩
    have f1 : ((e : Int) = 1) = False := eq_false (by omega)
    by_cases h2 : e = 2
    · have f2 : ((e : Int) = 2) = True := eq_true (by omega)
      simp only [↓VD, VP, VT, isAggD, reduceCtorEq, Int.reduceEq, Int.reduceNe, Int.reduceLT, Int.reduceLE, implies_true, Nat.reduceEqDiff, reduceIte, ite_true, ite_false, eq_self, Nat.reduceLT, Nat.reduceLeDiff, Nat.reduceAdd, Nat.reduceMul, Nat.reduceSub, intOf, f1, f2]
      exact ⟨Ext.rfl' _, e, rfl, by simp [checkE, h2]⟩
    have f2 : ((e : Int) = 2) = False := eq_false (by omega)
    have h12 : ¬ (e = 1 ∨ e = 2) := by omega
    simp only [↓VD, VP, VT, isAggD, reduceCtorEq, Int.reduceEq, Int.reduceNe, Int.reduceLT, Int.reduceLE, implies_true, Nat.reduceEqDiff, reduceIte, ite_true, ite_false, eq_self, Nat.reduceLT, Nat.reduceLeDiff, Nat.reduceAdd, Nat.reduceMul, Nat.reduceSub, intOf, f1, f2]
    refine ldA Tryz.underlying28 rfl hB5 (by rw [vbs_len, hrt, c28]) ?_
    simp only [↓VD, VP, VT, isAggD, reduceCtorEq, Int.reduceEq, Int.reduceNe, Int.reduceLT, Int.reduceLE, implies_true, Nat.reduceEqDiff, reduceIte, ite_true, ite_false, eq_self, Nat.reduceLT, Nat.reduceLeDiff, Nat.reduceAdd, Nat.reduceMul, Nat.reduceSub, intOf, f1, f2]
    refine (Form_ok n root hrt w5).mono ?_
    rintro _ w6 ⟨rfl, hE6⟩
    cases hf : formB n root
    · simp only [↓VD, VP, VT, isAggD, reduceCtorEq, Int.reduceEq, Int.reduceNe, Int.reduceLT, Int.reduceLE, implies_true, Nat.reduceEqDiff, reduceIte, ite_true, ite_false, eq_self, Nat.reduceLT, Nat.reduceLeDiff, Nat.reduceAdd, Nat.reduceMul, Nat.reduceSub, intOf, f1, f2, hf]
      exact ⟨hE6, 3, rfl, by simp [checkE, h12, hf]⟩
    · by_cases h0 : e = 0
      · subst h0
        simp only [↓VD, VP, VT, isAggD, reduceCtorEq, Int.reduceEq, Int.reduceNe, Int.reduceLT, Int.reduceLE, implies_true, Nat.reduceEqDiff, reduceIte, ite_true, ite_false, eq_self, Nat.reduceLT, Nat.reduceLeDiff, Nat.reduceAdd, Nat.reduceMul, Nat.reduceSub, intOf, f1, f2, hf]
        refine ldA Tryz.underlying28 rfl (hB11.ext hE6) (by rw [vbs_len, lod, c28]) ?_
        simp only [↓VD, VP, VT, isAggD, reduceCtorEq, Int.reduceEq, Int.reduceNe, Int.reduceLT, Int.reduceLE, implies_true, Nat.reduceEqDiff, reduceIte, ite_true, ite_false, eq_self, Nat.reduceLT, Nat.reduceLeDiff, Nat.reduceAdd, Nat.reduceMul, Nat.reduceSub, intOf, f1, f2, hf]
        refine ldA Tryz.underlying28 rfl (hB5.ext hE6) (by rw [vbs_len, hrt, c28]) ?_
        simp only [↓VD, VP, VT, isAggD, reduceCtorEq, Int.reduceEq, Int.reduceNe, Int.reduceLT, Int.reduceLE, implies_true, Nat.reduceEqDiff, reduceIte, ite_true, ite_false, eq_self, Nat.reduceLT, Nat.reduceLeDiff, Nat.reduceAdd, Nat.reduceMul, Nat.reduceSub, intOf, f1, f2, hf]
        refine eqd_lit _ _ _ _ _ _ Tryz.underlying5 c5 lod hrt ?_
        by_cases hd : outD 0 n key ss ps = root
        · have f3 : (outD 0 n key ss ps = root) = True := eq_true hd
          simp only [↓VD, VP, VT, isAggD, reduceCtorEq, Int.reduceEq, Int.reduceNe, Int.reduceLT, Int.reduceLE, implies_true, Nat.reduceEqDiff, reduceIte, ite_true, ite_false, eq_self, Nat.reduceLT, Nat.reduceLeDiff, Nat.reduceAdd, Nat.reduceMul, Nat.reduceSub, intOf, f1, f2, hf, f3]
          exact ⟨hE6, 0, rfl, by simp [checkE, hf, hd]⟩
        · have f3 : (outD 0 n key ss ps = root) = False := eq_false hd
          simp only [↓VD, VP, VT, isAggD, reduceCtorEq, Int.reduceEq, Int.reduceNe, Int.reduceLT, Int.reduceLE, implies_true, Nat.reduceEqDiff, reduceIte, ite_true, ite_false, eq_self, Nat.reduceLT, Nat.reduceLeDiff, Nat.reduceAdd, Nat.reduceMul, Nat.reduceSub, intOf, f1, f2, hf, f3]
          exact ⟨hE6, 10, rfl, by simp [checkE, hf, hd]⟩
      · have f3 : ((e : Int) = 0) = False := eq_false (by omega)
        simp only [↓VD, VP, VT, isAggD, reduceCtorEq, Int.reduceEq, Int.reduceNe, Int.reduceLT, Int.reduceLE, implies_true, Nat.reduceEqDiff, reduceIte, ite_true, ite_false, eq_self, Nat.reduceLT, Nat.reduceLeDiff, Nat.reduceAdd, Nat.reduceMul, Nat.reduceSub, intOf, f1, f2, hf, f3]
        exact ⟨hE6, e, rfl, by simp [checkE, h12, hf, h0]⟩
  · rintro s6 w6 ⟨hE6, h12, h13, f, h14, hf⟩
    simp only [↓VD, VP, VT, isAggD, reduceCtorEq, Int.reduceEq, Int.reduceNe, Int.reduceLT, Int.reduceLE, implies_true, Nat.reduceEqDiff, reduceIte, ite_true, ite_false, eq_self, Nat.reduceLT, Nat.reduceLeDiff, Nat.reduceAdd, Nat.reduceMul, Nat.reduceSub, intOf, h12, h13, h14]
    refine ⟨fun hne => (hlast f w6 hE6 hf).2 (by omega), fun heq => (hlast f w6 hE6 hf).1 (by omega)⟩

end Go.Proofs.YticfalbgplifoaaGreatDoor
