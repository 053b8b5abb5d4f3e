/-
  hcheck.RootOf and hcheck.Check. Conditions: as stated in each theorem.
-/
import Derived.Test.YticfalbgplifoaaGreatDoorHckC
namespace Go.Proofs.YticfalbgplifoaaGreatDoor
set_option maxRecDepth 100000
open Go Go.RowKit
set_option linter.unusedVariables false
set_option linter.unusedSimpArgs false

/-! ### What RootOf answers -/
def RootE (n : Int) (key : List UInt8) (ss : List SR) (ps : List PR) (e : Nat) : Prop :=
  (widB n = false → e = 1) ∧ (widB n = true → 64 < key.length → e = 2) ∧ (widB n = true → key.length ≤ 64 → ¬ kidsP n ss → e = 3) ∧
  (widB n = true → key.length ≤ 64 → kidsP n ss → ¬ (branchesP n (keyD n key) ss ps.length ∧ pairsP n (keyD n key) ss.length ps) → e = 10) ∧
  (widB n = true → key.length ≤ 64 → kidsP n ss → branchesP n (keyD n key) ss ps.length → pairsP n (keyD n key) ss.length ps → e = 0)
theorem RootE.uniq {n : Int} {key : List UInt8} {ss : List SR} {ps : List PR} {e f : Nat} (h : RootE n key ss ps e) (g : RootE n key ss ps f) : e = f := by
  obtain ⟨h1, h2, h3, h4, h5⟩ := h
  obtain ⟨g1, g2, g3, g4, g5⟩ := g
  cases hw : widB n
  · rw [h1 hw, g1 hw]
  by_cases hk : 64 < key.length
  · rw [h2 hw hk, g2 hw hk]
  have hk : key.length ≤ 64 := by omega
  by_cases hq : kidsP n ss
  · by_cases hb : branchesP n (keyD n key) ss ps.length ∧ pairsP n (keyD n key) ss.length ps
    · rw [h5 hw hk hq hb.1 hb.2, g5 hw hk hq hb.1 hb.2]
    · rw [h4 hw hk hq hb, g4 hw hk hq hb]
  · rw [h3 hw hk hq, g3 hw hk hq]
theorem RootE.ok {n : Int} {key : List UInt8} {ss : List SR} {ps : List PR} (h : RootE n key ss ps 0) : widB n = true ∧ key.length ≤ 64 ∧ kidsP n ss ∧ branchesP n (keyD n key) ss ps.length ∧ pairsP n (keyD n key) ss.length ps := by
  obtain ⟨h1, h2, h3, h4, h5⟩ := h
  cases hw : widB n
  · cases h1 hw
  by_cases hk : 64 < key.length
  · cases h2 hw hk
  have hk : key.length ≤ 64 := by omega
  by_cases hq : kidsP n ss
  · by_cases hb : branchesP n (keyD n key) ss ps.length ∧ pairsP n (keyD n key) ss.length ps
    · exact ⟨rfl, hk, hq, hb.1, hb.2⟩
    · cases h4 hw hk hq hb
  · cases h3 hw hk hq
theorem RootE.mk (n : Int) (key : List UInt8) (ss : List SR) (ps : List PR) (hw : widB n = true) (hk : key.length ≤ 64) (hq : kidsP n ss) (hb : branchesP n (keyD n key) ss ps.length) (hp : pairsP n (keyD n key) ss.length ps) : RootE n key ss ps 0 :=
  ⟨fun h => (by rw [hw] at h; cases h), fun _ h => (by omega), fun _ _ h => absurd hq h, fun _ _ _ h => absurd ⟨hb, hp⟩ h, fun _ _ _ _ _ => rfl⟩
def valOf (ps : List PR) (key : List UInt8) : Option (List UInt8) := (ps.find? fun p => decide (p.k = key)).map (·.v)
def outD (e : Nat) (n : Int) (key : List UInt8) (ss : List SR) (ps : List PR) : List UInt8 := if e = 0 then upF n (keyD n key) (backL ss) (up0 n (ps.map PR.dat)) else List.replicate 32 0
def outV (e : Nat) (key : List UInt8) (ps : List PR) : List UInt8 := if e = 0 then (valOf ps key).getD [] else []
def outT (e : Nat) (key : List UInt8) (ps : List PR) : Bool := decide (e = 0) && (valOf ps key).isSome
theorem outD_len (e : Nat) (n : Int) (key : List UInt8) (ss : List SR) (ps : List PR) : (outD e n key ss ps).length = 32 := by
  unfold outD
  split
  · exact upF_len _ _ _ _ (up0_len _ _)
  · simp

/-! ### Sizes -/
theorem rank_lt {bm : Nat} {c : Int} (h : hasB bm c = true) : rankB bm c + 1 ≤ cntB bm := by
  unfold rankB cntB
  refine List.length_filter_lt_length_iff_exists.2 ⟨c.toNat, ?_, ?_⟩
  · simp only [hasB, inB, Bool.and_eq_true, decide_eq_true_eq] at h
    simp only [setB, List.mem_filter, List.mem_range]
    exact ⟨by omega, h.2⟩
  · simp only [hasB, inB, Bool.and_eq_true, decide_eq_true_eq] at h
    simp only [decide_eq_true_eq]
    omega
theorem pairsB_le : ∀ (ps : List (List UInt8 × List UInt8)), (∀ p ∈ ps, p.1.length ≤ 64 ∧ p.2.length ≤ 256) → (pairsB ps).length ≤ ps.length * 340
  | [], _ => by simp [pairsB]
  | p :: ps, h => by
    have ih := pairsB_le ps (fun q hq => h q (by simp [hq]))
    have h1 := h p (by simp)
    have u1 := uvarP_len10 (n := p.1.length) (by omega)
    have u2 := uvarP_len10 (n := p.2.length) (by omega)
    have e : pairsB (p :: ps) = (blobP p.1 ++ blobP p.2) ++ pairsB ps := by simp [pairsB]
    rw [e]
    simp only [List.length_append, blobP, List.length_cons]
    omega
theorem bucketP_le (ps : List (List UInt8 × List UInt8)) (h : ∀ p ∈ ps, p.1.length ≤ 64 ∧ p.2.length ≤ 256) (hl : ps.length ≤ 400000000000) : (bucketP ps).length + 16 ≤ 140737488355328 := by
  have h1 := pairsB_le ps h
  have u1 := uvarP_len10 (n := ps.length) (by omega)
  simp only [bucketP, List.length_cons, List.length_append]
  omega
theorem RootE.sizes {n : Int} {key : List UInt8} {ss : List SR} {ps : List PR} (h : RootE n key ss ps 0) (hpn : ps.length ≤ 400000000000) :
    (bucketP (ps.map PR.dat)).length + 16 ≤ 140737488355328 ∧ (∀ s ∈ ss, s.ks.length + 1 ≤ 4000000000) ∧ ∀ (i : Nat) (s : SR), ss[i]? = some s → hasB s.bm (atP n (keyD n key) i).1 = true → rankB s.bm (atP n (keyD n key) i).1 ≤ s.ks.length := by
  obtain ⟨hw, hk, hq, hb, hp⟩ := h.ok
  refine ⟨bucketP_le _ ?_ (by rw [List.length_map]; exact hpn), ?_, ?_⟩
  · intro p hpm
    obtain ⟨q, hq', rfl⟩ := List.mem_map.1 hpm
    obtain ⟨i, hi⟩ := List.getElem?_of_mem hq'
    exact ⟨(hp i q hi).1, (hp i q hi).2.1⟩
  · intro s hs
    obtain ⟨i, hi⟩ := List.getElem?_of_mem hs
    have h1 := hb.2 i s hi
    have hc := cnt_le s.bm
    cases hh : hasB s.bm (atP n (keyD n key) i).1
    · have := (h1.2.2.1 hh).2.1; omega
    · have := (h1.2.1 hh).1; omega
  · intro i s hi hh
    have h1 := ((hb.2 i s hi).2.1 hh).1
    have h2 := rank_lt hh
    omega

theorem RootOf_ok (n : Int) (key : List UInt8) (kv sv pv : Value) (ss : List SR) (ps : List PR) (w : World) (hW : WordsAt w 1) (hkv : SlB w kv key) (hkl : key.length + 1 ≤ 140737488355328) (hs : StepsAt w sv ss) (hp : PairsAt w pv ps)
    (hpl : ∀ p ∈ ps, p.k.length + 1 ≤ 140737488355328) (hpn : ps.length ≤ 400000000000) :
    CallK Tryz.prog 7 [.int .i64 n, kv, .agg [sv, pv].toArray].toArray w fun r w' => ∃ e v, r = .tuple [.agg (vbs (outD e n key ss ps)).toArray, v, .bool (outT e key ps), .int .i64 e].toArray ∧ RootE n key ss ps e ∧
      Own w' w.heap.size 5 1 v (outV e key ps).length (vbs (outV e key ps)) ∧ Ext w w' := by
  obtain ⟨ak, ck, rfl⟩ := slv_of hkv
  obtain ⟨sa, cs, rfl⟩ := slv_of hs.1
  obtain ⟨pa, cp, rfl⟩ := slv_of hp.1
  refine enterT Tryz.func7 rfl Tryz.ntmps7 Tryz.results7 rfl (by decide) ?_
  simp only [↓VD, VP, VT, isAggD, reduceCtorEq, Int.reduceEq, Int.reduceNe, Int.reduceLT, Int.reduceLE, implies_true, Nat.reduceEqDiff, reduceIte, ite_true, ite_false, eq_self, Nat.reduceLT, Nat.reduceLeDiff, Nat.reduceAdd, Nat.reduceMul, Nat.reduceSub, intOf]
  intro w1 hN1 w2 hN2
  rw [vbs_rep] at hN2
  have s1 := hN1.size
  have s2 := hN2.size
  have hB5 := hN1.blk.ext hN2.ext
  have hB6 := hN2.blk
  have hE2 : Ext w w2 := hN1.ext.trans' hN2.ext
  generalize w1.heap.size = b6 at *
  refine (Key_ok n key _ w2 (hW.ext hE2) (hkv.ext hE2) hkl).mono ?_
  rintro _ w3 ⟨rfl, hE3⟩
  simp only [↓VD, VP, VT, isAggD, reduceCtorEq, Int.reduceEq, Int.reduceNe, Int.reduceLT, Int.reduceLE, implies_true, Nat.reduceEqDiff, reduceIte, ite_true, ite_false, eq_self, Nat.reduceLT, Nat.reduceLeDiff, Nat.reduceAdd, Nat.reduceMul, Nat.reduceSub, intOf]
  intro w4 hN4
  have s3 := hE3.size
  have s4 := hN4.size
  have lkd := sumR_len n (2 :: key)
  refine stAll hN4.blk rfl (by rw [c28]; decide) (by rw [c28, vbs_len, sumR_len]) (by rw [c28]; simp) (vbs_one _) (fun w5 hP5 => ?_)
  have hE5 : Ext w2 w5 := hE3.trans' (hN4.ext.trans (hP5.below (Nat.le_refl _)))
  have hB10 := hP5.blk
  have s5 := hP5.size
  generalize w3.heap.size = b10 at *
  replace hB5 := hB5.ext hE5
  replace hB6 := hB6.ext hE5
  have hE5' := hE2.trans' hE5
  simp only [↓VQ, VP, VT, isAggD, reduceCtorEq, Int.reduceEq, Int.reduceNe, Int.reduceLT, Int.reduceLE, implies_true, Nat.reduceEqDiff, reduceIte, ite_true, ite_false, eq_self, Nat.reduceLT, Nat.reduceLeDiff, Nat.reduceAdd, Nat.reduceMul, Nat.reduceSub, intOf]
  rw [v_seq]
  refine joinT (fun s' W' => Ext w5 W' ∧ s' 0 = .int .i64 n ∧ s' 1 = .slice ak key.length ck ∧ s' 5 = .pointer (some ⟨w.heap.size, 0, none⟩) ∧ s' 6 = .pointer (some ⟨b6, 0, none⟩) ∧ s' 10 = .pointer (some ⟨b10, 0, none⟩) ∧ ∃ e : Nat, s' 11 = .int .i64 e ∧ RootE n key ss ps e) ?_ ?_
  · simp only [↓VD, VP, VT, isAggD, reduceCtorEq, Int.reduceEq, Int.reduceNe, Int.reduceLT, Int.reduceLE, implies_true, Nat.reduceEqDiff, reduceIte, ite_true, ite_false, eq_self, Nat.reduceLT, Nat.reduceLeDiff, Nat.reduceAdd, Nat.reduceMul, Nat.reduceSub, intOf]
    refine ⟨fun hne => ?_, fun heq => ⟨fun hl => ?_, fun hl => ?_⟩⟩
    · have hwf : widB n = false := by
        cases hw : widB n
        · rfl
        · exfalso; apply hne; simp [sumE, hw]
      exact ⟨Ext.rfl' _, sumE n, rfl, fun _ => by simp [sumE, hwf], fun h => by simp [hwf] at h, fun h => by simp [hwf] at h, fun h => by simp [hwf] at h, fun h => by simp [hwf] at h⟩
    · have hwt : widB n = true := by
        cases hw : widB n
        · exfalso; simp [sumE, hw] at heq
        · rfl
      exact ⟨Ext.rfl' _, 2, rfl, fun h => by simp [hwt] at h, fun _ _ => rfl, fun _ h => by omega, fun _ h => by omega, fun _ h => by omega⟩
    have hwt : widB n = true := by
      cases hw : widB n
      · exfalso; simp [sumE, hw] at heq
      · rfl
    have hl : key.length ≤ 64 := by omega
    refine ldAt (pre := []) (post := [.slice pa ps.length cp]) Tryz.underlying23 rfl hB5 rfl ?_
    simp only [↓VD, VP, VT, isAggD, reduceCtorEq, Int.reduceEq, Int.reduceNe, Int.reduceLT, Int.reduceLE, implies_true, Nat.reduceEqDiff, reduceIte, ite_true, ite_false, eq_self, Nat.reduceLT, Nat.reduceLeDiff, Nat.reduceAdd, Nat.reduceMul, Nat.reduceSub, intOf]
    refine (kids_ok n _ ss w5 (hs.ext hE5')).mono ?_
    rintro _ w6 ⟨rfl, hE6⟩
    by_cases hq : kidsP n ss
    · have f1 : decide (kidsP n ss) = true := decide_eq_true hq
      simp only [↓VD, VP, VT, isAggD, reduceCtorEq, Int.reduceEq, Int.reduceNe, Int.reduceLT, Int.reduceLE, implies_true, Nat.reduceEqDiff, reduceIte, ite_true, ite_false, eq_self, Nat.reduceLT, Nat.reduceLeDiff, Nat.reduceAdd, Nat.reduceMul, Nat.reduceSub, intOf, f1]
      refine ldA Tryz.underlying28 rfl (hB10.ext hE6) (by rw [vbs_len, lkd, c28]) ?_
      simp only [↓VD, VP, VT, isAggD, reduceCtorEq, Int.reduceEq, Int.reduceNe, Int.reduceLT, Int.reduceLE, implies_true, Nat.reduceEqDiff, reduceIte, ite_true, ite_false, eq_self, Nat.reduceLT, Nat.reduceLeDiff, Nat.reduceAdd, Nat.reduceMul, Nat.reduceSub, intOf]
      refine ldA Tryz.underlying26 rfl (hB5.ext hE6) (by rw [c26]; rfl) ?_
      simp only [↓VD, VP, VT, isAggD, reduceCtorEq, Int.reduceEq, Int.reduceNe, Int.reduceLT, Int.reduceLE, implies_true, Nat.reduceEqDiff, reduceIte, ite_true, ite_false, eq_self, Nat.reduceLT, Nat.reduceLeDiff, Nat.reduceAdd, Nat.reduceMul, Nat.reduceSub, intOf]
      refine (branches_ok n hwt (sumR n (2 :: key)) lkd _ _ ss ps w6 (hs.ext (hE5'.trans' hE6)) (hp.ext (hE5'.trans' hE6))).mono ?_
      rintro _ w7 ⟨t, rfl, ht, hE7⟩
      cases t
      · simp only [↓VD, VP, VT, isAggD, reduceCtorEq, Int.reduceEq, Int.reduceNe, Int.reduceLT, Int.reduceLE, implies_true, Nat.reduceEqDiff, reduceIte, ite_true, ite_false, eq_self, Nat.reduceLT, Nat.reduceLeDiff, Nat.reduceAdd, Nat.reduceMul, Nat.reduceSub, intOf]
        have hnb : ¬ branchesP n (sumR n (2 :: key)) ss ps.length := fun h => by cases ht.2 h
        exact ⟨hE6.trans' hE7, 10, rfl, fun h => by simp [hwt] at h, fun _ h => by omega, fun _ _ h => absurd hq h, fun _ _ _ _ => rfl, fun _ _ _ h => absurd h hnb⟩
      · simp only [↓VD, VP, VT, isAggD, reduceCtorEq, Int.reduceEq, Int.reduceNe, Int.reduceLT, Int.reduceLE, implies_true, Nat.reduceEqDiff, reduceIte, ite_true, ite_false, eq_self, Nat.reduceLT, Nat.reduceLeDiff, Nat.reduceAdd, Nat.reduceMul, Nat.reduceSub, intOf]
        have hbr : branchesP n (sumR n (2 :: key)) ss ps.length := ht.1 rfl
        have hE67 := hE6.trans' hE7
        refine ldA Tryz.underlying28 rfl (hB10.ext hE67) (by rw [vbs_len, lkd, c28]) ?_
        simp only [↓VD, VP, VT, isAggD, reduceCtorEq, Int.reduceEq, Int.reduceNe, Int.reduceLT, Int.reduceLE, implies_true, Nat.reduceEqDiff, reduceIte, ite_true, ite_false, eq_self, Nat.reduceLT, Nat.reduceLeDiff, Nat.reduceAdd, Nat.reduceMul, Nat.reduceSub, intOf]
        refine ldA Tryz.underlying26 rfl (hB5.ext hE67) (by rw [c26]; rfl) ?_
        simp only [↓VD, VP, VT, isAggD, reduceCtorEq, Int.reduceEq, Int.reduceNe, Int.reduceLT, Int.reduceLE, implies_true, Nat.reduceEqDiff, reduceIte, ite_true, ite_false, eq_self, Nat.reduceLT, Nat.reduceLeDiff, Nat.reduceAdd, Nat.reduceMul, Nat.reduceSub, intOf]
        refine (bucket_ok n (sumR n (2 :: key)) lkd _ _ ss ps w7 (hW.ext (hE5'.trans' hE67)) (hs.ext (hE5'.trans' hE67)) (hp.ext (hE5'.trans' hE67)) hpl).mono ?_
        rintro _ w8 ⟨t, rfl, ht, hE8⟩
        cases t
        · simp only [↓VD, VP, VT, isAggD, reduceCtorEq, Int.reduceEq, Int.reduceNe, Int.reduceLT, Int.reduceLE, implies_true, Nat.reduceEqDiff, reduceIte, ite_true, ite_false, eq_self, Nat.reduceLT, Nat.reduceLeDiff, Nat.reduceAdd, Nat.reduceMul, Nat.reduceSub, intOf]
          have hnb : ¬ pairsP n (sumR n (2 :: key)) ss.length ps := fun h => by cases ht.2 h
          exact ⟨hE67.trans' hE8, 10, rfl, fun h => by simp [hwt] at h, fun _ h => by omega, fun _ _ h => absurd hq h, fun _ _ _ _ => rfl, fun _ _ _ _ h => absurd h hnb⟩
        · simp only [↓VD, VP, VT, isAggD, reduceCtorEq, Int.reduceEq, Int.reduceNe, Int.reduceLT, Int.reduceLE, implies_true, Nat.reduceEqDiff, reduceIte, ite_true, ite_false, eq_self, Nat.reduceLT, Nat.reduceLeDiff, Nat.reduceAdd, Nat.reduceMul, Nat.reduceSub, intOf]
          exact ⟨hE67.trans' hE8, 0, by simpa using heq, RootE.mk n key ss ps hwt hl hq hbr (ht.1 rfl)⟩
    · have f1 : decide (kidsP n ss) = false := decide_eq_false hq
      simp only [↓VD, VP, VT, isAggD, reduceCtorEq, Int.reduceEq, Int.reduceNe, Int.reduceLT, Int.reduceLE, implies_true, Nat.reduceEqDiff, reduceIte, ite_true, ite_false, eq_self, Nat.reduceLT, Nat.reduceLeDiff, Nat.reduceAdd, Nat.reduceMul, Nat.reduceSub, intOf, f1]
      exact ⟨hE6, 3, rfl, fun h => by simp [hwt] at h, fun _ h => by omega, fun _ _ _ => rfl, fun _ _ h => absurd h hq, fun _ _ h => absurd h hq⟩
  · rintro s6 w6 ⟨hE6, h0, h1, h5, h6, h10, e, h11, hR⟩
    replace hB5 := hB5.ext hE6
    replace hB6 := hB6.ext hE6
    replace hB10 := hB10.ext hE6
    have hE6' := hE5'.trans' hE6
    simp only [↓VD, VP, VT, isAggD, reduceCtorEq, Int.reduceEq, Int.reduceNe, Int.reduceLT, Int.reduceLE, implies_true, Nat.reduceEqDiff, reduceIte, ite_true, ite_false, eq_self, Nat.reduceLT, Nat.reduceLeDiff, Nat.reduceAdd, Nat.reduceMul, Nat.reduceSub, intOf, h0, h1, h5, h6, h10, h11]
    refine ⟨fun hne => ?_, fun heq => ?_⟩
    · refine bldC (List.replicate 32 (.int .u8 0)) (by kernel_rfl) ?_
      rw [vbs_rep]
      simp only [↓VD, VP, VT, isAggD, reduceCtorEq, Int.reduceEq, Int.reduceNe, Int.reduceLT, Int.reduceLE, implies_true, Nat.reduceEqDiff, reduceIte, ite_true, ite_false, eq_self, Nat.reduceLT, Nat.reduceLeDiff, Nat.reduceAdd, Nat.reduceMul, Nat.reduceSub, intOf, h0, h1, h5, h6, h10, h11]
      refine stAll hB6 (vs := vbs (List.replicate 32 0)) rfl (by rw [c28]; decide) (by rw [c28]; simp [vbs]) (by rw [c28]; simp [vbs]) (vbs_one _) (fun w7 hP7 => ?_)
      simp only [↓VD, VP, VT, isAggD, reduceCtorEq, Int.reduceEq, Int.reduceNe, Int.reduceLT, Int.reduceLE, implies_true, Nat.reduceEqDiff, reduceIte, ite_true, ite_false, eq_self, Nat.reduceLT, Nat.reduceLeDiff, Nat.reduceAdd, Nat.reduceMul, Nat.reduceSub, intOf, h0, h1, h5, h6, h10, h11]
      refine ldA Tryz.underlying28 rfl hP7.blk (by rw [c28]; simp [vbs]) ?_
      have he0 : ¬ e = 0 := by omega
      simp only [↓VD, VP, VT, isAggD, reduceCtorEq, Int.reduceEq, Int.reduceNe, Int.reduceLT, Int.reduceLE, implies_true, Nat.reduceEqDiff, reduceIte, ite_true, ite_false, eq_self, Nat.reduceLT, Nat.reduceLeDiff, Nat.reduceAdd, Nat.reduceMul, Nat.reduceSub, intOf, h0, h1, h5, h6, h10, h11]
      refine ⟨e, .slice none 0 0, ?_, hR, ?_, hE6'.trans (hP7.below (by omega))⟩
      · simp [outD, outT, he0]
      · simp only [outV, if_neg he0]
        exact Own.nil _ _ _ _
    · have he0 : e = 0 := by omega
      subst he0
      obtain ⟨hsz, hss, hrk⟩ := hR.sizes hpn
      have hps := hp
      obtain ⟨⟨_, _, hcells, hnc, hcm, hc⟩, hpp⟩ := hps
      cases hcells
      have hud : (outD 0 n key ss ps).length = 32 := outD_len _ _ _ _ _
      have hue : outD 0 n key ss ps = upF n (sumR n (2 :: key)) (backL ss) (up0 n (ps.map PR.dat)) := rfl
      refine ldAt (pre := [.slice sa ss.length cs]) (post := []) Tryz.underlying24 rfl hB5 rfl ?_
      simp only [↓VD, VP, VT, isAggD, reduceCtorEq, Int.reduceEq, Int.reduceNe, Int.reduceLT, Int.reduceLE, implies_true, Nat.reduceEqDiff, reduceIte, ite_true, ite_false, eq_self, Nat.reduceLT, Nat.reduceLeDiff, Nat.reduceAdd, Nat.reduceMul, Nat.reduceSub, intOf, h0, h1, h5, h6, h10, h11]
      refine loopT (fun s' W' => Ext w6 W' ∧ ∃ i : Nat, i ≤ ps.length ∧ s' 0 = .int .i64 n ∧ s' 1 = .slice ak key.length ck ∧ s' 5 = .pointer (some ⟨w.heap.size, 0, none⟩) ∧ s' 6 = .pointer (some ⟨b6, 0, none⟩) ∧ s' 10 = .pointer (some ⟨b10, 0, none⟩) ∧ s' 51 = .slice pa ps.length cp ∧ s' 52 = .int .i64 ps.length ∧ s' 53 = .int .i64 i ∧
        ∀ p ∈ ps.take i, ¬ p.k = key) (fun s' _ => ps.length - (intOf (s' 53)).toNat) ?_ ?_
      · simp only [↓VD, VP, VT, isAggD, reduceCtorEq, Int.reduceEq, Int.reduceNe, Int.reduceLT, Int.reduceLE, implies_true, Nat.reduceEqDiff, reduceIte, ite_true, ite_false, eq_self, Nat.reduceLT, Nat.reduceLeDiff, Nat.reduceAdd, Nat.reduceMul, Nat.reduceSub, intOf, h0, h1, h5, h6, h10, h11]
        exact ⟨Ext.rfl' _, 0, by omega, rfl, by simp⟩
      · rintro s7 w7 ⟨hE7, i, hi, g0, g1, g5, g6, g10, g51, g52, g53, hz⟩
        replace hB5 := hB5.ext hE7
        replace hB6 := hB6.ext hE7
        replace hB10 := hB10.ext hE7
        have hE7' := hE6'.trans' hE7
        simp only [↓VD, VP, VT, isAggD, reduceCtorEq, Int.reduceEq, Int.reduceNe, Int.reduceLT, Int.reduceLE, implies_true, Nat.reduceEqDiff, reduceIte, ite_true, ite_false, eq_self, Nat.reduceLT, Nat.reduceLeDiff, Nat.reduceAdd, Nat.reduceMul, Nat.reduceSub, intOf, g0, g1, g5, g6, g10, g51, g52, g53]
        refine ⟨fun hlt => ?_, fun hge => ?_⟩
        · have hlt' : i < ps.length := by omega
          rcases hc with hc | ⟨b, o, rfl, hc⟩
          · exfalso
            cases ps with
            | nil => simp at hlt'
            | cons d ds => simp [PR.cells] at hc
          obtain ⟨x, hx⟩ : ∃ x, ps[i]? = some x := ⟨_, List.getElem?_eq_getElem hlt'⟩
          obtain ⟨hxk, hxv⟩ := hpp x (List.mem_of_getElem? hx)
          have hc1 : ∀ j u, (ps.flatMap PR.cells)[j]? = some u → w7.cell? ⟨b, o + j, none⟩ = some u := fun j u hj => by rw [hE7'.cell (block_lt_of_cell (hc j u hj))]; exact hc j u hj
          simp only [↓VD, VP, VT, isAggD, reduceCtorEq, Int.reduceEq, Int.reduceNe, Int.reduceLT, Int.reduceLE, implies_true, Nat.reduceEqDiff, reduceIte, ite_true, ite_false, eq_self, Nat.reduceLT, Nat.reduceLeDiff, Nat.reduceAdd, Nat.reduceMul, Nat.reduceSub, intOf]
          refine ⟨by omega, by omega, ldE (f := PR.cells) c52 Tryz.underlying52 rfl (fun d h => rfl) hc1 hx ?_⟩
          simp only [↓VD, VP, VT, isAggD, reduceCtorEq, Int.reduceEq, Int.reduceNe, Int.reduceLT, Int.reduceLE, implies_true, Nat.reduceEqDiff, reduceIte, ite_true, ite_false, eq_self, Nat.reduceLT, Nat.reduceLeDiff, Nat.reduceAdd, Nat.reduceMul, Nat.reduceSub, intOf]
          intro w8 hN8
          obtain ⟨kk, ckk, hkk⟩ := slv_of hxk
          obtain ⟨vv, cvv, hvv⟩ := slv_of hxv
          refine stAll hN8.blk (vs := x.cells) rfl (by rw [c52]; decide) (by rw [c52]; rfl) (by rw [c52]; rfl) (by rw [PR.cells, hkk, hvv]; simp [oneCellV]) (fun w9 hP9 => ?_)
          have s7' := hE7.size
          have s6' := hB6.lt
          have s10' := hB10.lt
          have hE9 : Ext w7 w9 := hN8.ext.trans (hP9.below (Nat.le_refl _))
          have hE9' := hE7'.trans' hE9
          have hvl : x.v.length ≤ 256 := (hR.ok.2.2.2.2 i x hx).2.1
          obtain ⟨xkv, xvv, xk, xv⟩ := x
          simp only at hkk hvv hxk hxv hvl
          subst hkk hvv
          have hB13 : Blk w9 w7.heap.size 52 [.slice kk xk.length ckk, .slice vv xv.length cvv] := hP9.blk
          generalize w7.heap.size = b13 at *
          simp only [↓VD, VP, VT, isAggD, reduceCtorEq, Int.reduceEq, Int.reduceNe, Int.reduceLT, Int.reduceLE, implies_true, Nat.reduceEqDiff, reduceIte, ite_true, ite_false, eq_self, Nat.reduceLT, Nat.reduceLeDiff, Nat.reduceAdd, Nat.reduceMul, Nat.reduceSub, intOf, g0, g1, g5, g6, g10, g51, g52, g53]
          refine ldAt (pre := []) (post := [.slice vv xv.length cvv]) Tryz.underlying22 rfl hB13 rfl ?_
          simp only [↓VD, VP, VT, isAggD, reduceCtorEq, Int.reduceEq, Int.reduceNe, Int.reduceLT, Int.reduceLE, implies_true, Nat.reduceEqDiff, reduceIte, ite_true, ite_false, eq_self, Nat.reduceLT, Nat.reduceLeDiff, Nat.reduceAdd, Nat.reduceMul, Nat.reduceSub, intOf, g0, g1, g5, g6, g10, g51, g52, g53]
          refine (BEqual_ok xk key _ _ w9 (hxk.ext hE9') (hkv.ext hE9')).mono ?_
          rintro _ _ ⟨rfl, rfl⟩
          by_cases hkey : xk = key
          · have f1 : (xk = key) = True := eq_true hkey
            simp only [↓VD, VP, VT, isAggD, reduceCtorEq, Int.reduceEq, Int.reduceNe, Int.reduceLT, Int.reduceLE, implies_true, Nat.reduceEqDiff, reduceIte, ite_true, ite_false, eq_self, Nat.reduceLT, Nat.reduceLeDiff, Nat.reduceAdd, Nat.reduceMul, Nat.reduceSub, intOf, g0, g1, g5, g6, g10, g51, g52, g53, f1]
            have hval : valOf ps key = some xv := by
              have h1 : ps = ps.take i ++ (⟨.slice kk xk.length ckk, .slice vv xv.length cvv, xk, xv⟩ :: ps.drop (i + 1)) := by
                obtain ⟨hil, he⟩ := List.getElem?_eq_some_iff.1 hx
                rw [← he]
                simp
              unfold valOf
              rw [h1, List.find?_append, List.find?_eq_none.2 (fun p hp' => by simpa using hz p hp')]
              simp [hkey]
            have hxl : xv.length ≤ 140737488355328 := by omega
            refine drawH (fun W' => Blk W' b10 28 (vbs (sumR n (2 :: key))) ∧ Blk W' w.heap.size 26 [.slice sa ss.length cs, .slice (some ⟨b, o, none⟩) ps.length cp] ∧ Blk W' b13 52 [.slice kk xk.length ckk, .slice vv xv.length cvv]) [0, 1, 2, 4, 5, 3, 6, 7, 8, 9, 10] mixed (by decide +kernel) (fun w10 hE10 hh => ⟨⟨(hB10.ext hE9).ext hE10, (hB5.ext hE9).ext hE10, hB13.ext hE10⟩, ?_⟩)
            have hE10' := hE9'.trans' hE10
            simp only [↓VD, VP, VT, isAggD, reduceCtorEq, Int.reduceEq, Int.reduceNe, Int.reduceLT, Int.reduceLE, implies_true, Nat.reduceEqDiff, reduceIte, ite_true, ite_false, eq_self, Nat.reduceLT, Nat.reduceLeDiff, Nat.reduceAdd, Nat.reduceMul, Nat.reduceSub, intOf, g0, g1, g5, g6, g10, g51, g52, g53]
            refine loadS_of _ (fun w' h => ldA Tryz.underlying28 rfl h.1 (by rw [vbs_len, lkd, c28]) rfl) ?_
            simp only [↓VD, VP, VT, isAggD, reduceCtorEq, Int.reduceEq, Int.reduceNe, Int.reduceLT, Int.reduceLE, implies_true, Nat.reduceEqDiff, reduceIte, ite_true, ite_false, eq_self, Nat.reduceLT, Nat.reduceLeDiff, Nat.reduceAdd, Nat.reduceMul, Nat.reduceSub, intOf, g0, g1, g5, g6, g10, g51, g52, g53]
            refine loadS_of _ (fun w' h => ldA Tryz.underlying26 rfl h.2.1 (by rw [c26]; rfl) rfl) ?_
            simp only [↓VD, VP, VT, isAggD, reduceCtorEq, Int.reduceEq, Int.reduceNe, Int.reduceLT, Int.reduceLE, implies_true, Nat.reduceEqDiff, reduceIte, ite_true, ite_false, eq_self, Nat.reduceLT, Nat.reduceLeDiff, Nat.reduceAdd, Nat.reduceMul, Nat.reduceSub, intOf, g0, g1, g5, g6, g10, g51, g52, g53]
            refine loadS_of _ (fun w' h => ldAt (pre := [.slice kk xk.length ckk]) (post := []) Tryz.underlying22 rfl h.2.2 rfl rfl) ?_
            simp only [↓VD, VP, VT, isAggD, reduceCtorEq, Int.reduceEq, Int.reduceNe, Int.reduceLT, Int.reduceLE, implies_true, Nat.reduceEqDiff, reduceIte, ite_true, ite_false, eq_self, Nat.reduceLT, Nat.reduceLeDiff, Nat.reduceAdd, Nat.reduceMul, Nat.reduceSub, intOf, g0, g1, g5, g6, g10, g51, g52, g53]
            refine (up_ok n (sumR n (2 :: key)) lkd _ _ ss ps w10 (hW.ext hE10') (hs.ext hE10') (hp.ext hE10') hsz hss hrk).mono ?_
            rintro _ w11 ⟨rfl, hE11⟩
            refine told (fun _ => True) ⟨((hB10.ext hE9).ext hE10).ext hE11, ((hB5.ext hE9).ext hE10).ext hE11, (hB13.ext hE10).ext hE11⟩ trivial ?_
            simp only [↓VD, VP, VT, isAggD, reduceCtorEq, Int.reduceEq, Int.reduceNe, Int.reduceLT, Int.reduceLE, implies_true, Nat.reduceEqDiff, reduceIte, ite_true, ite_false, eq_self, Nat.reduceLT, Nat.reduceLeDiff, Nat.reduceAdd, Nat.reduceMul, Nat.reduceSub, intOf, g0, g1, g5, g6, g10, g51, g52, g53]
            refine (BClone_ok xv _ w11 (hxv.ext (hE10'.trans' hE11)) hxl).mono ?_
            rintro v' w12 ⟨hO12, hE12⟩
            refine told (fun _ => True) ⟨(((hB10.ext hE9).ext hE10).ext hE11).ext hE12, (((hB5.ext hE9).ext hE10).ext hE11).ext hE12, ((hB13.ext hE10).ext hE11).ext hE12⟩ trivial ?_
            simp only [↓VD, VP, VT, isAggD, reduceCtorEq, Int.reduceEq, Int.reduceNe, Int.reduceLT, Int.reduceLE, implies_true, Nat.reduceEqDiff, reduceIte, ite_true, ite_false, eq_self, Nat.reduceLT, Nat.reduceLeDiff, Nat.reduceAdd, Nat.reduceMul, Nat.reduceSub, intOf, g0, g1, g5, g6, g10, g51, g52, g53]
            have hE912 : Ext w7 w12 := ((hE9.trans' hE10).trans' hE11).trans' hE12
            rw [← hue]
            refine stAll (hB6.ext hE912) rfl (by rw [c28]; decide) (by rw [c28, vbs_len, hud]) (by rw [c28]; simp [vbs]) (vbs_one _) (fun w13 hP13 => ?_)
            refine told (fun _ => True) ⟨hP13.keep ((((hB10.ext hE9).ext hE10).ext hE11).ext hE12) (by omega), hP13.keep ((((hB5.ext hE9).ext hE10).ext hE11).ext hE12) (by omega), hP13.keep (((hB13.ext hE10).ext hE11).ext hE12) (by omega)⟩ trivial ?_
            simp only [↓VD, VP, VT, isAggD, reduceCtorEq, Int.reduceEq, Int.reduceNe, Int.reduceLT, Int.reduceLE, implies_true, Nat.reduceEqDiff, reduceIte, ite_true, ite_false, eq_self, Nat.reduceLT, Nat.reduceLeDiff, Nat.reduceAdd, Nat.reduceMul, Nat.reduceSub, intOf, g0, g1, g5, g6, g10, g51, g52, g53]
            refine ldA Tryz.underlying28 rfl hP13.blk (by rw [vbs_len, hud, c28]) ?_
            simp only [↓VD, VP, VT, isAggD, reduceCtorEq, Int.reduceEq, Int.reduceNe, Int.reduceLT, Int.reduceLE, implies_true, Nat.reduceEqDiff, reduceIte, ite_true, ite_false, eq_self, Nat.reduceLT, Nat.reduceLeDiff, Nat.reduceAdd, Nat.reduceMul, Nat.reduceSub, intOf, g0, g1, g5, g6, g10, g51, g52, g53]
            refine ⟨0, v', ?_, hR, ?_, (hE7'.trans' hE912).trans (hP13.below (by omega))⟩
            · simp [outT, hval]
            · simp only [outV, hval, if_true, Option.getD_some]
              have h1 := hE10'.size
              have h2 := hE11.size
              exact (Own.put hO12 (hB6.ext hE912) (by decide) hP13).base (by omega)
          · have f1 : (xk = key) = False := eq_false hkey
            simp only [↓VD, VP, VT, isAggD, reduceCtorEq, Int.reduceEq, Int.reduceNe, Int.reduceLT, Int.reduceLE, implies_true, Nat.reduceEqDiff, reduceIte, ite_true, ite_false, eq_self, Nat.reduceLT, Nat.reduceLeDiff, Nat.reduceAdd, Nat.reduceMul, Nat.reduceSub, intOf, g0, g1, g5, g6, g10, g51, g52, g53, f1]
            refine ⟨⟨hE7.trans' hE9, i + 1, by omega, ?_, (take_all_succ (p := fun p => ¬ p.k = key) hx).2 ⟨hz, hkey⟩⟩, ?_⟩
            · rw [w64 (by omega) (by omega)]; rfl
            · rw [w64 (by omega) (by omega)]; omega
        · rw [List.take_of_length_le (by omega)] at hz
          have hval : valOf ps key = none := by
            unfold valOf
            rw [List.find?_eq_none.2 (fun p hp' => by simpa using hz p hp')]
            rfl
          refine ldA Tryz.underlying28 rfl hB10 (by rw [vbs_len, lkd, c28]) ?_
          simp only [↓VD, VP, VT, isAggD, reduceCtorEq, Int.reduceEq, Int.reduceNe, Int.reduceLT, Int.reduceLE, implies_true, Nat.reduceEqDiff, reduceIte, ite_true, ite_false, eq_self, Nat.reduceLT, Nat.reduceLeDiff, Nat.reduceAdd, Nat.reduceMul, Nat.reduceSub, intOf, g0, g1, g5, g6, g10, g51, g52, g53]
          refine ldA Tryz.underlying26 rfl hB5 (by rw [c26]; rfl) ?_
          simp only [↓VD, VP, VT, isAggD, reduceCtorEq, Int.reduceEq, Int.reduceNe, Int.reduceLT, Int.reduceLE, implies_true, Nat.reduceEqDiff, reduceIte, ite_true, ite_false, eq_self, Nat.reduceLT, Nat.reduceLeDiff, Nat.reduceAdd, Nat.reduceMul, Nat.reduceSub, intOf, g0, g1, g5, g6, g10, g51, g52, g53]
          refine (up_ok n (sumR n (2 :: key)) lkd _ _ ss ps w7 (hW.ext hE7') (hs.ext hE7') (hp.ext hE7') hsz hss hrk).mono ?_
          rintro _ w11 ⟨rfl, hE11⟩
          simp only [↓VD, VP, VT, isAggD, reduceCtorEq, Int.reduceEq, Int.reduceNe, Int.reduceLT, Int.reduceLE, implies_true, Nat.reduceEqDiff, reduceIte, ite_true, ite_false, eq_self, Nat.reduceLT, Nat.reduceLeDiff, Nat.reduceAdd, Nat.reduceMul, Nat.reduceSub, intOf, g0, g1, g5, g6, g10, g51, g52, g53]
          rw [← hue]
          refine stAll (hB6.ext hE11) rfl (by rw [c28]; decide) (by rw [c28, vbs_len, hud]) (by rw [c28]; simp [vbs]) (vbs_one _) (fun w13 hP13 => ?_)
          simp only [↓VD, VP, VT, isAggD, reduceCtorEq, Int.reduceEq, Int.reduceNe, Int.reduceLT, Int.reduceLE, implies_true, Nat.reduceEqDiff, reduceIte, ite_true, ite_false, eq_self, Nat.reduceLT, Nat.reduceLeDiff, Nat.reduceAdd, Nat.reduceMul, Nat.reduceSub, intOf, g0, g1, g5, g6, g10, g51, g52, g53]
          refine ldA Tryz.underlying28 rfl hP13.blk (by rw [vbs_len, hud, c28]) ?_
          simp only [↓VD, VP, VT, isAggD, reduceCtorEq, Int.reduceEq, Int.reduceNe, Int.reduceLT, Int.reduceLE, implies_true, Nat.reduceEqDiff, reduceIte, ite_true, ite_false, eq_self, Nat.reduceLT, Nat.reduceLeDiff, Nat.reduceAdd, Nat.reduceMul, Nat.reduceSub, intOf, g0, g1, g5, g6, g10, g51, g52, g53]
          refine ⟨0, .slice none 0 0, ?_, hR, ?_, (hE7'.trans' hE11).trans (hP13.below (by omega))⟩
          · simp [outT, hval]
          · simp only [outV, hval, if_true, Option.getD_none]
            exact Own.nil _ _ _ _

end Go.Proofs.YticfalbgplifoaaGreatDoor
