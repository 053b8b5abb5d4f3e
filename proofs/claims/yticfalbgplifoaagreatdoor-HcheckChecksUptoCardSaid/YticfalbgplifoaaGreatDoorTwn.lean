/-
  The statements' helper twin (package notarylaw16): a copy of a path, in lists of its own. Conditions: as stated in each theorem.
-/
import Derived.Test.YticfalbgplifoaaGreatDoorInq
namespace Go.Proofs.YticfalbgplifoaaGreatDoor
set_option maxRecDepth 100000
open Go Go.RowKit
set_option linter.unusedVariables false
set_option linter.unusedSimpArgs false

theorem Blk.ne {w : World} {a b : Nat} {T U : TypeId} {l m : List Value} (h : Blk w a T l) (k : Blk w b U m) (hT : T ≠ U) : a ≠ b := by
  rintro rfl
  have := h.out.symm.trans k.out
  simp only [Option.some.injEq, Obj.cells.injEq] at this
  exact hT this.2.1
def SR.dat (s : SR) : Nat × List (List UInt8) := (s.bm, s.ks)
/-- A path in lists of its own, from block B on. -/
structure TwinAt (W : World) (B : Nat) (tv qv : Value) (tt : List SR) (qs : List PR) : Prop where
  steps : Own W B 56 2 tv tt.length (tt.flatMap SR.cells)
  pairs : Own W B 52 2 qv qs.length (qs.flatMap PR.cells)
  kids : ∀ (i : Nat) (t : SR), tt[i]? = some t → t.bm < 65536 ∧ (∀ d ∈ t.ks, d.length = 32) ∧ Own W B 28 32 t.kv t.ks.length (t.ks.flatMap vbs)
  apart : ∀ (i j : Nat) (s t : SR) (g : Nat), i < j → tt[i]? = some s → tt[j]? = some t → t.kv.ownBlock = some g → s.kv.ownBlock ≠ some g
  prs : ∀ p ∈ qs, ∃ g h, p.kv = .slice (some ⟨g, 0, none⟩) p.k.length p.k.length ∧ p.vv = .slice (some ⟨h, 0, none⟩) p.v.length p.v.length ∧ B ≤ g ∧ B ≤ h ∧ g ≠ h ∧ Blk W g 5 (vbs p.k) ∧ Blk W h 5 (vbs p.v) ∧ p.k.length ≤ 140737488355328 ∧ p.v.length ≤ 140737488355328
theorem TwinAt.ext {W W' : World} {B : Nat} {tv qv : Value} {tt : List SR} {qs : List PR} (h : TwinAt W B tv qv tt qs) (e : Ext W W') : TwinAt W' B tv qv tt qs :=
  ⟨h.steps.ext e, h.pairs.ext e, fun i t hi => ⟨(h.kids i t hi).1, (h.kids i t hi).2.1, (h.kids i t hi).2.2.ext e⟩, h.apart, fun p hp => by
    obtain ⟨g, k, h1, h2, h3, h4, h5, h6, h7, h8⟩ := h.prs p hp
    exact ⟨g, k, h1, h2, h3, h4, h5, h6.ext e, h7.ext e, h8⟩⟩
theorem TwinAt.stepsAt {W : World} {B : Nat} {tv qv : Value} {tt : List SR} {qs : List PR} (h : TwinAt W B tv qv tt qs) : StepsAt W tv tt :=
  ⟨SlC.of_own h.steps, fun s hs => by
    obtain ⟨i, hi⟩ := List.getElem?_of_mem hs
    exact ⟨(h.kids i s hi).1, (h.kids i s hi).2.1, SlC.of_own (h.kids i s hi).2.2⟩⟩
theorem TwinAt.pairsAt {W : World} {B : Nat} {tv qv : Value} {tt : List SR} {qs : List PR} (h : TwinAt W B tv qv tt qs) : PairsAt W qv qs :=
  ⟨SlC.of_own h.pairs, fun p hp => by
    obtain ⟨g, k, h1, h2, h3, h4, h5, h6, h7, h8, h9⟩ := h.prs p hp
    rw [h1, h2]
    exact ⟨SlC.of_blk h6 (by omega), SlC.of_blk h7 (by omega)⟩⟩
theorem own_two {w : World} {base e n : Nat} {v : Value} {xs : List Value} (h : Own w base e 2 v n xs) : ∃ a c, v = .slice a n c ∧ n ≤ c ∧ c ≤ 9223372036854775807 := by
  obtain ⟨a, c, rfl⟩ := own_slice h
  exact ⟨a, c, rfl, h.cap_le⟩

theorem twin_ok (sv pv : Value) (ss : List SR) (ps : List PR) (w : World) (hs : StepsAt w sv ss) (hp : PairsAt w pv ps) (hsl : ss.length ≤ 2000000) (hkl : ∀ s ∈ ss, s.ks.length ≤ 2000000) (hpl : ps.length ≤ 2000000) (hel : ∀ p ∈ ps, p.k.length ≤ 2000000 ∧ p.v.length ≤ 2000000) :
    CallK Tryz.prog 9 [.agg [sv, pv].toArray].toArray w fun v w' => ∃ tv qv tt qs, v = .agg [tv, qv].toArray ∧ TwinAt w' w.heap.size tv qv tt qs ∧ tt.map SR.dat = ss.map SR.dat ∧ qs.map PR.dat = ps.map PR.dat ∧ Ext w w' := by
  obtain ⟨⟨sa, cs, rfl, hsn, hsm, hsc⟩, hs2⟩ := hs
  obtain ⟨⟨pa, cp, rfl, hpn, hpm, hpc⟩, hp2⟩ := hp
  have hldS : ∀ {W : World} {j : Nat} {s : SR}, Ext w W → ss[j]? = some s → ∃ b o, sa = some ⟨b, o, none⟩ ∧ (∀ k u, (ss.flatMap SR.cells)[k]? = some u → W.cell? ⟨b, o + k, none⟩ = some u) := by
    intro W j s hE hs
    have hjl := (List.getElem?_eq_some_iff.1 hs).1
    rcases hsc with hsc | ⟨b, o, rfl, hsc⟩
    · exfalso
      cases ss with
      | nil => simp at hjl
      | cons d ds => simp [SR.cells] at hsc
    · exact ⟨b, o, rfl, fun k u hk => by rw [hE.cell (block_lt_of_cell (hsc k u hk))]; exact hsc k u hk⟩
  have hldP : ∀ {W : World} {j : Nat} {s : PR}, Ext w W → ps[j]? = some s → ∃ b o, pa = some ⟨b, o, none⟩ ∧ (∀ k u, (ps.flatMap PR.cells)[k]? = some u → W.cell? ⟨b, o + k, none⟩ = some u) := by
    intro W j s hE hs
    have hjl := (List.getElem?_eq_some_iff.1 hs).1
    rcases hpc with hpc | ⟨b, o, rfl, hpc⟩
    · exfalso
      cases ps with
      | nil => simp at hjl
      | cons d ds => simp [PR.cells] at hpc
    · exact ⟨b, o, rfl, fun k u hk => by rw [hE.cell (block_lt_of_cell (hpc k u hk))]; exact hpc k u hk⟩
  refine enterT Tryz.func9 rfl Tryz.ntmps9 Tryz.results9 rfl (by decide) ?_
  simp only [↓VD, VP, VT, isAggD, reduceCtorEq, Int.reduceEq, Int.reduceNe, Int.reduceLT, Int.reduceLE, implies_true, Nat.reduceEqDiff, reduceIte, ite_true, ite_false, eq_self, Nat.reduceLT, Nat.reduceLeDiff, Nat.reduceAdd, Nat.reduceMul, Nat.reduceSub, intOf]
  intro w1 hN1 w2 hN2 w3 hN3
  have z1 := hN1.size
  have z2 := hN2.size
  have z3 := hN3.size
  have hE3 : Ext w w3 := (hN1.ext.trans' hN2.ext).trans' hN3.ext
  have hB1 := (hN1.blk.ext hN2.ext).ext hN3.ext
  have hB2 := hN2.blk.ext hN3.ext
  have hB3 := hN3.blk
  generalize w1.heap.size = b2 at *
  generalize w2.heap.size = b3 at *
  refine ldAt (pre := []) (post := [.slice pa ps.length cp]) Tryz.underlying23 rfl hB1 rfl ?_
  simp only [↓VD, VP, VT, isAggD, reduceCtorEq, Int.reduceEq, Int.reduceNe, Int.reduceLT, Int.reduceLE, implies_true, Nat.reduceEqDiff, reduceIte, ite_true, ite_false, eq_self, Nat.reduceLT, Nat.reduceLeDiff, Nat.reduceAdd, Nat.reduceMul, Nat.reduceSub, intOf]
  refine loopJ 0 (fun s' W => Ext w W ∧ ∃ tv tt, s' 1 = .pointer (some ⟨w.heap.size, 0, none⟩) ∧ s' 2 = .pointer (some ⟨b2, 0, none⟩) ∧ s' 3 = .pointer (some ⟨b3, 0, none⟩) ∧ Blk W w.heap.size 26 [.slice sa ss.length cs, .slice pa ps.length cp] ∧ Blk W b2 26 [.slice none 0 0, .slice none 0 0] ∧ Blk W b3 26 [tv, .slice none 0 0] ∧
      TwinAt W w.heap.size tv (.slice none 0 0) tt [] ∧ tt.map SR.dat = ss.map SR.dat)
    (fun s' W => Ext w W ∧ ∃ tv tt, s' 1 = .pointer (some ⟨w.heap.size, 0, none⟩) ∧ s' 2 = .pointer (some ⟨b2, 0, none⟩) ∧ s' 3 = .pointer (some ⟨b3, 0, none⟩) ∧ Blk W w.heap.size 26 [.slice sa ss.length cs, .slice pa ps.length cp] ∧ Blk W b2 26 [.slice none 0 0, .slice none 0 0] ∧ Blk W b3 26 [tv, .slice none 0 0] ∧
      TwinAt W w.heap.size tv (.slice none 0 0) tt [] ∧ tt.length ≤ ss.length ∧ tt.map SR.dat = (ss.take tt.length).map SR.dat ∧ s' 9 = .slice sa ss.length cs ∧ s' 10 = .int .i64 ss.length ∧ s' 11 = .int .i64 tt.length)
    (fun s' _ => ss.length - (intOf (s' 11)).toNat) ?_ ?_ ?_
  · simp only [↓VD, VP, VT, isAggD, reduceCtorEq, Int.reduceEq, Int.reduceNe, Int.reduceLT, Int.reduceLE, implies_true, Nat.reduceEqDiff, reduceIte, ite_true, ite_false, eq_self, Nat.reduceLT, Nat.reduceLeDiff, Nat.reduceAdd, Nat.reduceMul, Nat.reduceSub, intOf]
    exact ⟨hE3, .slice none 0 0, [], hB1, hB2, hB3, ⟨Own.nil _ _ _ _, Own.nil _ _ _ _, fun i t h => by simp at h, fun i j s t g h1 h2 => by simp at h2, fun p h => by simp at h⟩, by simp, by simp, rfl⟩
  · rintro s4 w4 ⟨hE4, tv, tt, k1, k2, k3, hB1, hB2, hB3, hT, htt⟩
    simp only [↓VD, VP, VT, isAggD, reduceCtorEq, Int.reduceEq, Int.reduceNe, Int.reduceLT, Int.reduceLE, implies_true, Nat.reduceEqDiff, reduceIte, ite_true, ite_false, eq_self, Nat.reduceLT, Nat.reduceLeDiff, Nat.reduceAdd, Nat.reduceMul, Nat.reduceSub, intOf, k1, k2, k3]
    refine ldAt (pre := [.slice sa ss.length cs]) (post := []) Tryz.underlying24 rfl hB1 rfl ?_
    simp only [↓VD, VP, VT, isAggD, reduceCtorEq, Int.reduceEq, Int.reduceNe, Int.reduceLT, Int.reduceLE, implies_true, Nat.reduceEqDiff, reduceIte, ite_true, ite_false, eq_self, Nat.reduceLT, Nat.reduceLeDiff, Nat.reduceAdd, Nat.reduceMul, Nat.reduceSub, intOf, k1, k2, k3]
    refine loopJ 2 (fun s' W => Ext w W ∧ ∃ qv qs, s' 1 = .pointer (some ⟨w.heap.size, 0, none⟩) ∧ s' 2 = .pointer (some ⟨b2, 0, none⟩) ∧ s' 3 = .pointer (some ⟨b3, 0, none⟩) ∧ Blk W b2 26 [.slice none 0 0, .slice none 0 0] ∧ Blk W b3 26 [tv, qv] ∧
      TwinAt W w.heap.size tv qv tt qs ∧ qs.map PR.dat = ps.map PR.dat)
        (fun s' W => Ext w W ∧ ∃ qv qs, s' 1 = .pointer (some ⟨w.heap.size, 0, none⟩) ∧ s' 2 = .pointer (some ⟨b2, 0, none⟩) ∧ s' 3 = .pointer (some ⟨b3, 0, none⟩) ∧ Blk W b2 26 [.slice none 0 0, .slice none 0 0] ∧ Blk W b3 26 [tv, qv] ∧
      TwinAt W w.heap.size tv qv tt qs ∧ qs.length ≤ ps.length ∧ qs.map PR.dat = (ps.take qs.length).map PR.dat ∧ s' 29 = .slice pa ps.length cp ∧ s' 30 = .int .i64 ps.length ∧ s' 31 = .int .i64 qs.length)
        (fun s' _ => ps.length - (intOf (s' 31)).toNat) ?_ ?_ ?_
    · simp only [↓VD, VP, VT, isAggD, reduceCtorEq, Int.reduceEq, Int.reduceNe, Int.reduceLT, Int.reduceLE, implies_true, Nat.reduceEqDiff, reduceIte, ite_true, ite_false, eq_self, Nat.reduceLT, Nat.reduceLeDiff, Nat.reduceAdd, Nat.reduceMul, Nat.reduceSub, intOf, k1, k2, k3]
      exact ⟨hE4, .slice none 0 0, [], hB2, hB3, hT, by simp, by simp, rfl⟩
    · rintro s5 w5 ⟨hE5, qv, qs, g1, g2, g3, hB2, hB3, hT, hqq⟩
      obtain ⟨ta, tc, hte⟩ := own_slice hT.steps
      obtain ⟨qa, qc, hqe⟩ := own_slice hT.pairs
      have l2 := hB2.lt
      simp only [↓VD, VP, VT, isAggD, reduceCtorEq, Int.reduceEq, Int.reduceNe, Int.reduceLT, Int.reduceLE, implies_true, Nat.reduceEqDiff, reduceIte, ite_true, ite_false, eq_self, Nat.reduceLT, Nat.reduceLeDiff, Nat.reduceAdd, Nat.reduceMul, Nat.reduceSub, intOf, g1, g2, g3]
      refine ldA Tryz.underlying26 rfl hB3 (by rw [c26]; rfl) ?_
      simp only [↓VD, VP, VT, isAggD, reduceCtorEq, Int.reduceEq, Int.reduceNe, Int.reduceLT, Int.reduceLE, implies_true, Nat.reduceEqDiff, reduceIte, ite_true, ite_false, eq_self, Nat.reduceLT, Nat.reduceLeDiff, Nat.reduceAdd, Nat.reduceMul, Nat.reduceSub, intOf, g1, g2, g3]
      refine stAll hB2 (vs := [tv, qv]) rfl (by rw [c26]; decide) (by rw [c26]; rfl) (by rw [c26]; rfl) (by rw [hte, hqe]; simp [oneCellV]) (fun w6 hP6 => ?_)
      simp only [↓VD, VP, VT, isAggD, reduceCtorEq, Int.reduceEq, Int.reduceNe, Int.reduceLT, Int.reduceLE, implies_true, Nat.reduceEqDiff, reduceIte, ite_true, ite_false, eq_self, Nat.reduceLT, Nat.reduceLeDiff, Nat.reduceAdd, Nat.reduceMul, Nat.reduceSub, intOf, g1, g2, g3]
      refine ldA Tryz.underlying26 rfl hP6.blk (by rw [c26]; rfl) ?_
      refine ⟨tv, qv, tt, qs, rfl, ⟨hT.steps.put hB2 (by decide) hP6, hT.pairs.put hB2 (by decide) hP6, fun i t h => ⟨(hT.kids i t h).1, (hT.kids i t h).2.1, (hT.kids i t h).2.2.put hB2 (by decide) hP6⟩, hT.apart, fun p hp => ?_⟩, htt, hqq, hE5.trans (hP6.below (by omega))⟩
      obtain ⟨g, k, h1, h2, h3, h4, h5, h6, h7, h8⟩ := hT.prs p hp
      refine ⟨g, k, h1, h2, h3, h4, h5, hP6.keep h6 (h6.ne hB2 (by decide)), hP6.keep h7 (h7.ne hB2 (by decide)), h8⟩
    · rintro s5 w5 ⟨hE5, qv, qs, g1, g2, g3, hB2, hB3, hT, hql, hqq, g29, g30, g31⟩
      simp only [↓VD, VP, VT, isAggD, reduceCtorEq, Int.reduceEq, Int.reduceNe, Int.reduceLT, Int.reduceLE, implies_true, Nat.reduceEqDiff, reduceIte, ite_true, ite_false, eq_self, Nat.reduceLT, Nat.reduceLeDiff, Nat.reduceAdd, Nat.reduceMul, Nat.reduceSub, intOf, g1, g2, g3, g29, g30, g31]
      refine ⟨fun hlt => ?_, fun hge => ?_⟩
      · have hlt' : qs.length < ps.length := by omega
        obtain ⟨p, hp⟩ : ∃ p, ps[qs.length]? = some p := ⟨_, List.getElem?_eq_getElem hlt'⟩
        have hpm' := List.mem_of_getElem? hp
        obtain ⟨hpk, hpv⟩ := hp2 p hpm'
        obtain ⟨hlk, hlv⟩ := hel p hpm'
        obtain ⟨b, o, rfl, hcW⟩ := hldP hE5 hp
        simp only [↓VD, VP, VT, isAggD, reduceCtorEq, Int.reduceEq, Int.reduceNe, Int.reduceLT, Int.reduceLE, implies_true, Nat.reduceEqDiff, reduceIte, ite_true, ite_false, eq_self, Nat.reduceLT, Nat.reduceLeDiff, Nat.reduceAdd, Nat.reduceMul, Nat.reduceSub, intOf, g1, g2, g3, g29, g30, g31]
        refine ⟨by omega, by omega, ldE (f := PR.cells) c52 Tryz.underlying52 rfl (fun d h => rfl) hcW hp ?_⟩
        simp only [↓VD, VP, VT, isAggD, reduceCtorEq, Int.reduceEq, Int.reduceNe, Int.reduceLT, Int.reduceLE, implies_true, Nat.reduceEqDiff, reduceIte, ite_true, ite_false, eq_self, Nat.reduceLT, Nat.reduceLeDiff, Nat.reduceAdd, Nat.reduceMul, Nat.reduceSub, intOf, g1, g2, g3, g29, g30, g31]
        intro w6 hN6
        obtain ⟨pkv, pvv, pk, pvb⟩ := p
        simp only at hpk hpv hlk hlv
        obtain ⟨ka, kc, hke⟩ := slv_of hpk
        obtain ⟨va, vc, hve⟩ := slv_of hpv
        subst hke hve
        refine stAll hN6.blk (vs := [.slice ka pk.length kc, .slice va pvb.length vc]) rfl (by rw [c52]; decide) (by rw [c52]; rfl) (by rw [c52]; rfl) (by simp [oneCellV]) (fun w7 hP7 => ?_)
        have z6 := hN6.size
        have z7 := hP7.size
        have hE57 : Ext w5 w7 := hN6.ext.trans (hP7.below (Nat.le_refl _))
        have hE7 := hE5.trans' hE57
        have hB7 := hP7.blk
        have hB37 := hB3.ext hE57
        have l3 := hB3.lt
        have l2 := hB2.lt
        have l5 := hE5.size
        obtain ⟨b7, hb7⟩ : ∃ b7, b7 = w5.heap.size := ⟨_, rfl⟩
        rw [← hb7] at hB7 z6
        have lst : ∀ g, qv.ownBlock = some g → g < b7 := fun g e => by have := (hT.pairs.lt g e).2; omega
        obtain ⟨qa, qc, hqe⟩ := own_slice hT.pairs
        rw [← hb7]
        simp only [↓VD, VP, VT, isAggD, reduceCtorEq, Int.reduceEq, Int.reduceNe, Int.reduceLT, Int.reduceLE, implies_true, Nat.reduceEqDiff, reduceIte, ite_true, ite_false, eq_self, Nat.reduceLT, Nat.reduceLeDiff, Nat.reduceAdd, Nat.reduceMul, Nat.reduceSub, intOf, g1, g2, g3, g29, g30, g31]
        refine drawH (fun W => Blk W b3 26 [tv, qv] ∧ Blk W b7 52 [.slice ka pk.length kc, .slice va pvb.length vc]) [0, 1, 2, 3, 5, 6, 4, 7, 8, 9, 10, 11, 12] mixed (by decide +kernel) (fun w8 hE8 hh => ⟨⟨hB37.ext hE8, hB7.ext hE8⟩, ?_⟩)
        have z8 := hE8.size
        simp only [↓VD, VP, VT, isAggD, reduceCtorEq, Int.reduceEq, Int.reduceNe, Int.reduceLT, Int.reduceLE, implies_true, Nat.reduceEqDiff, reduceIte, ite_true, ite_false, eq_self, Nat.reduceLT, Nat.reduceLeDiff, Nat.reduceAdd, Nat.reduceMul, Nat.reduceSub, intOf, g1, g2, g3, g29, g30, g31]
        refine loadS_of _ (fun w' h => ldAt (pre := [tv]) (post := []) Tryz.underlying24 rfl h.1 rfl rfl) ?_
        simp only [↓VD, VP, VT, isAggD, reduceCtorEq, Int.reduceEq, Int.reduceNe, Int.reduceLT, Int.reduceLE, implies_true, Nat.reduceEqDiff, reduceIte, ite_true, ite_false, eq_self, Nat.reduceLT, Nat.reduceLeDiff, Nat.reduceAdd, Nat.reduceMul, Nat.reduceSub, intOf, g1, g2, g3, g29, g30, g31]
        refine loadS_of _ (fun w' h => ldAt (pre := []) (post := [.slice va pvb.length vc]) Tryz.underlying22 rfl h.2 rfl rfl) ?_
        simp only [↓VD, VP, VT, isAggD, reduceCtorEq, Int.reduceEq, Int.reduceNe, Int.reduceLT, Int.reduceLE, implies_true, Nat.reduceEqDiff, reduceIte, ite_true, ite_false, eq_self, Nat.reduceLT, Nat.reduceLeDiff, Nat.reduceAdd, Nat.reduceMul, Nat.reduceSub, intOf, g1, g2, g3, g29, g30, g31]
        refine loadS_of _ (fun w' h => ldAt (pre := [.slice ka pk.length kc]) (post := []) Tryz.underlying22 rfl h.2 rfl rfl) ?_
        simp only [↓VD, VP, VT, isAggD, reduceCtorEq, Int.reduceEq, Int.reduceNe, Int.reduceLT, Int.reduceLE, implies_true, Nat.reduceEqDiff, reduceIte, ite_true, ite_false, eq_self, Nat.reduceLT, Nat.reduceLeDiff, Nat.reduceAdd, Nat.reduceMul, Nat.reduceSub, intOf, g1, g2, g3, g29, g30, g31]
        have hE8' := hE7.trans' hE8
        refine (Twin_ok pk _ w8 (hpk.ext hE8') (by omega)).mono ?_
        rintro _ w9 ⟨g, hg, rfl, hBg, hE9⟩
        refine told (fun _ => True) ⟨hB37.ext (hE8.trans' hE9), hB7.ext (hE8.trans' hE9)⟩ trivial ?_
        simp only [↓VD, VP, VT, isAggD, reduceCtorEq, Int.reduceEq, Int.reduceNe, Int.reduceLT, Int.reduceLE, implies_true, Nat.reduceEqDiff, reduceIte, ite_true, ite_false, eq_self, Nat.reduceLT, Nat.reduceLeDiff, Nat.reduceAdd, Nat.reduceMul, Nat.reduceSub, intOf, g1, g2, g3, g29, g30, g31]
        refine (Twin_ok pvb _ w9 (hpv.ext (hE8'.trans' hE9)) (by omega)).mono ?_
        rintro _ w10 ⟨k, hk, rfl, hBk, hE10⟩
        have hE710 := (hE8.trans' hE9).trans' hE10
        have lg := hBg.lt
        have hB310 := hB37.ext hE710
        have hB710 := hB7.ext hE710
        have hT10 := (hT.ext hE57).ext hE710
        refine told (fun _ => True) ⟨hB310, hB710⟩ trivial ?_
        simp only [↓VD, VP, VT, isAggD, reduceCtorEq, Int.reduceEq, Int.reduceNe, Int.reduceLT, Int.reduceLE, implies_true, Nat.reduceEqDiff, reduceIte, ite_true, ite_false, eq_self, Nat.reduceLT, Nat.reduceLeDiff, Nat.reduceAdd, Nat.reduceMul, Nat.reduceSub, intOf, g1, g2, g3, g29, g30, g31]
        refine bldC [.slice (some ⟨g, 0, none⟩) pk.length pk.length, .slice (some ⟨k, 0, none⟩) pvb.length pvb.length] (by kernel_rfl) ?_
        simp only [↓VD, VP, VT, isAggD, reduceCtorEq, Int.reduceEq, Int.reduceNe, Int.reduceLT, Int.reduceLE, implies_true, Nat.reduceEqDiff, reduceIte, ite_true, ite_false, eq_self, Nat.reduceLT, Nat.reduceLeDiff, Nat.reduceAdd, Nat.reduceMul, Nat.reduceSub, intOf, g1, g2, g3, g29, g30, g31]
        refine ⟨rfl, rfl, fun w11 hN11 => ?_⟩
        have z9 := hE9.size
        have z10 := hE10.size
        have z11 := hN11.size
        have hT11 := hT10.ext hN11.ext
        have hB311 := hB310.ext hN11.ext
        have hB711 := hB710.ext hN11.ext
        have hBg11 := (hBg.ext hE10).ext hN11.ext
        have hBk11 := hBk.ext hN11.ext
        have lk := hBk.lt
        refine told (fun _ => True) ⟨hB311, hB711⟩ trivial ?_
        simp only [↓VD, VP, VT, isAggD, reduceCtorEq, Int.reduceEq, Int.reduceNe, Int.reduceLT, Int.reduceLE, implies_true, Nat.reduceEqDiff, reduceIte, ite_true, ite_false, eq_self, Nat.reduceLT, Nat.reduceLeDiff, Nat.reduceAdd, Nat.reduceMul, Nat.reduceSub, intOf, g1, g2, g3, g29, g30, g31]
        refine apS (sz := 2) (n := qs.length) (m := 1) Tryz.underlying24 z52 c52 rfl (by decide) hT11.pairs (by omega) (SlC.of_blk hN11.blk (by decide)) rfl (by simp [oneCellV]) (by omega) (by rw [by52]; omega) (fun qv12 w12 hO12 hg12 => ?_)
        have hbel12 : Below w.heap.size w11 w12 := below_of_grown hT11.pairs (by omega) hg12
        have hB312 : Blk w12 b3 26 [tv, qv] := hT11.pairs.blk hB311 (by decide) hg12
        have hB212 := hT11.pairs.blk (((hB2.ext hE57).ext hE710).ext hN11.ext) (by decide) hg12
        have hB712 : Blk w12 b7 52 [.slice ka pk.length kc, .slice va pvb.length vc] := ⟨by rw [hg12.block b7 hB711.lt (fun e => by have := lst b7 e.symm; omega)]; exact hB711.out⟩
        refine told (fun _ => True) ⟨hB312, hB712⟩ trivial ?_
        simp only [↓VD, VP, VT, isAggD, reduceCtorEq, Int.reduceEq, Int.reduceNe, Int.reduceLT, Int.reduceLE, implies_true, Nat.reduceEqDiff, reduceIte, ite_true, ite_false, eq_self, Nat.reduceLT, Nat.reduceLeDiff, Nat.reduceAdd, Nat.reduceMul, Nat.reduceSub, intOf, g1, g2, g3, g29, g30, g31]
        obtain ⟨qa', qc', hqe'⟩ := own_slice hO12
        refine stAt (pre := [tv]) (post := []) c24 hB312 rfl (by rw [hqe']; rfl) (by rw [hqe']; rfl) (fun w13 hP13 => ?_)
        refine toldL (by unfold LastP; decide +kernel) ?_
        simp only [↓VD, VP, VT, isAggD, reduceCtorEq, Int.reduceEq, Int.reduceNe, Int.reduceLT, Int.reduceLE, implies_true, Nat.reduceEqDiff, reduceIte, ite_true, ite_false, eq_self, Nat.reduceLT, Nat.reduceLeDiff, Nat.reduceAdd, Nat.reduceMul, Nat.reduceSub, intOf, g1, g2, g3, g29, g30, g31]
        have hE12 : Ext w w12 := (hE7.trans' (hE710.trans' hN11.ext)).trans hbel12
        have hkeep8 : ∀ {c : Nat} {l : List UInt8}, Blk w11 c 5 (vbs l) → Blk w13 c 5 (vbs l) := fun {c} {l} h => by
          have h12 := hT11.pairs.blk h (by decide) hg12
          exact hP13.keep h12 (h12.ne hB312 (by decide))
        have hqq' : (qs ++ [(⟨.slice (some ⟨g, 0, none⟩) pk.length pk.length, .slice (some ⟨k, 0, none⟩) pvb.length pvb.length, pk, pvb⟩ : PR)]).map PR.dat = (ps.take (qs.length + 1)).map PR.dat := by
          rw [List.map_append, hqq]
          obtain ⟨h1, h2⟩ := List.getElem?_eq_some_iff.1 hp
          rw [List.take_succ_eq_append_getElem h1, h2, List.map_append]
          rfl
        refine ⟨⟨hE12.trans (hP13.below (by have := hE3.size; omega)), qv12, qs ++ [⟨.slice (some ⟨g, 0, none⟩) pk.length pk.length, .slice (some ⟨k, 0, none⟩) pvb.length pvb.length, pk, pvb⟩], hP13.keep hB212 (by omega), hP13.blk, ⟨(hT11.steps.keepT hT11.pairs (by decide) hg12).put hB312 (by decide) hP13, ?_, fun i t hi => ⟨(hT11.kids i t hi).1, (hT11.kids i t hi).2.1, ((hT11.kids i t hi).2.2.keepT hT11.pairs (by decide) hg12).put hB312 (by decide) hP13⟩, hT.apart, fun x hx => ?_⟩, by simp; omega, ?_, ?_⟩, ?_⟩
        · have := hO12.put hB312 (by decide) hP13
          simpa [PR.cells] using this
        · rcases List.mem_append.1 hx with hx | hx
          · obtain ⟨g', k', h1, h2, h3, h4, h5, h6, h7, h8⟩ := hT11.prs x hx
            exact ⟨g', k', h1, h2, h3, h4, h5, hkeep8 h6, hkeep8 h7, h8⟩
          · obtain rfl : x = _ := by simpa using hx
            exact ⟨g, k, rfl, rfl, by omega, by omega, by omega, hkeep8 hBg11, hkeep8 hBk11, by simp only; omega, by simp only; omega⟩
        · rw [hqq']
          simp
        · rw [w64 (by omega) (by omega)]
          simp
        · rw [w64 (by omega) (by omega)]
          omega
      · refine ⟨hE5, qv, qs, hB2, hB3, hT, ?_⟩
        rw [hqq, List.take_of_length_le (by omega)]
  · rintro s4 w4 ⟨hE4, tv, tt, g1, g2, g3, hB1, hB2, hB3, hT, htl, htt, g9, g10, g11⟩
    simp only [↓VD, VP, VT, isAggD, reduceCtorEq, Int.reduceEq, Int.reduceNe, Int.reduceLT, Int.reduceLE, implies_true, Nat.reduceEqDiff, reduceIte, ite_true, ite_false, eq_self, Nat.reduceLT, Nat.reduceLeDiff, Nat.reduceAdd, Nat.reduceMul, Nat.reduceSub, intOf, g1, g2, g3, g9, g10, g11]
    refine ⟨fun hlt => ?_, fun hge => ?_⟩
    · have hlt' : tt.length < ss.length := by omega
      obtain ⟨s, hs⟩ : ∃ s, ss[tt.length]? = some s := ⟨_, List.getElem?_eq_getElem hlt'⟩
      have hsm' := List.mem_of_getElem? hs
      obtain ⟨hbm, hdk⟩ := hs2 s hsm'
      have hks := hkl s hsm'
      obtain ⟨b, o, rfl, hcW⟩ := hldS hE4 hs
      simp only [↓VD, VP, VT, isAggD, reduceCtorEq, Int.reduceEq, Int.reduceNe, Int.reduceLT, Int.reduceLE, implies_true, Nat.reduceEqDiff, reduceIte, ite_true, ite_false, eq_self, Nat.reduceLT, Nat.reduceLeDiff, Nat.reduceAdd, Nat.reduceMul, Nat.reduceSub, intOf, g1, g2, g3, g9, g10, g11]
      refine ⟨by omega, by omega, ldE (f := SR.cells) c56 Tryz.underlying56 rfl (fun d h => rfl) hcW hs ?_⟩
      simp only [↓VD, VP, VT, isAggD, reduceCtorEq, Int.reduceEq, Int.reduceNe, Int.reduceLT, Int.reduceLE, implies_true, Nat.reduceEqDiff, reduceIte, ite_true, ite_false, eq_self, Nat.reduceLT, Nat.reduceLeDiff, Nat.reduceAdd, Nat.reduceMul, Nat.reduceSub, intOf, g1, g2, g3, g9, g10, g11]
      intro w5 hN5
      obtain ⟨kvv, bm, ks⟩ := s
      simp only at hbm hdk hks
      obtain ⟨ka, kc, hke⟩ := slv_of hdk.2
      subst hke
      refine stAll hN5.blk (vs := [.int .u16 bm, .slice ka ks.length kc]) rfl (by rw [c56]; decide) (by rw [c56]; rfl) (by rw [c56]; rfl) (by simp [oneCellV]) (fun w6 hP6 => ?_)
      have z5 := hN5.size
      have z6 := hP6.size
      have hE46 : Ext w4 w6 := hN5.ext.trans (hP6.below (Nat.le_refl _))
      have hE6 := hE4.trans' hE46
      have hB5 := hP6.blk
      have hB36 := hB3.ext hE46
      have hT6 := hT.ext hE46
      have l3 := hB3.lt
      have l1 := hB1.lt
      have l2 := hB2.lt
      obtain ⟨b5, hb5⟩ : ∃ b5, b5 = w4.heap.size := ⟨_, rfl⟩
      rw [← hb5] at hB5 z5
      have lst : ∀ g, tv.ownBlock = some g → g < b5 := fun g e => by have := (hT.steps.lt g e).2; omega
      obtain ⟨ta, tc, hte⟩ := own_slice hT.steps
      rw [← hb5]
      simp only [↓VD, VP, VT, isAggD, reduceCtorEq, Int.reduceEq, Int.reduceNe, Int.reduceLT, Int.reduceLE, implies_true, Nat.reduceEqDiff, reduceIte, ite_true, ite_false, eq_self, Nat.reduceLT, Nat.reduceLeDiff, Nat.reduceAdd, Nat.reduceMul, Nat.reduceSub, intOf, g1, g2, g3, g9, g10, g11]
      refine drawH (fun W => Blk W b3 26 [tv, .slice none 0 0] ∧ Blk W b5 56 [.int .u16 bm, .slice ka ks.length kc]) [0, 1, 2, 3, 5, 6, 4, 7, 8, 9, 10, 11, 12] mixed (by decide +kernel) (fun w7 hE7 hh => ⟨⟨hB36.ext hE7, hB5.ext hE7⟩, ?_⟩)
      have z7 := hE7.size
      simp only [↓VD, VP, VT, isAggD, reduceCtorEq, Int.reduceEq, Int.reduceNe, Int.reduceLT, Int.reduceLE, implies_true, Nat.reduceEqDiff, reduceIte, ite_true, ite_false, eq_self, Nat.reduceLT, Nat.reduceLeDiff, Nat.reduceAdd, Nat.reduceMul, Nat.reduceSub, intOf, g1, g2, g3, g9, g10, g11]
      refine loadS_of _ (fun w' h => ldAt (pre := []) (post := [.slice none 0 0]) Tryz.underlying23 rfl h.1 rfl rfl) ?_
      simp only [↓VD, VP, VT, isAggD, reduceCtorEq, Int.reduceEq, Int.reduceNe, Int.reduceLT, Int.reduceLE, implies_true, Nat.reduceEqDiff, reduceIte, ite_true, ite_false, eq_self, Nat.reduceLT, Nat.reduceLeDiff, Nat.reduceAdd, Nat.reduceMul, Nat.reduceSub, intOf, g1, g2, g3, g9, g10, g11]
      refine loadS_of _ (fun w' h => ldAt (pre := []) (post := [.slice ka ks.length kc]) Tryz.underlying53 rfl h.2 rfl rfl) ?_
      simp only [↓VD, VP, VT, isAggD, reduceCtorEq, Int.reduceEq, Int.reduceNe, Int.reduceLT, Int.reduceLE, implies_true, Nat.reduceEqDiff, reduceIte, ite_true, ite_false, eq_self, Nat.reduceLT, Nat.reduceLeDiff, Nat.reduceAdd, Nat.reduceMul, Nat.reduceSub, intOf, g1, g2, g3, g9, g10, g11]
      refine loadS_of _ (fun w' h => ldAt (pre := [.int .u16 bm]) (post := []) Tryz.underlying54 rfl h.2 rfl rfl) ?_
      simp only [↓VD, VP, VT, isAggD, reduceCtorEq, Int.reduceEq, Int.reduceNe, Int.reduceLT, Int.reduceLE, implies_true, Nat.reduceEqDiff, reduceIte, ite_true, ite_false, eq_self, Nat.reduceLT, Nat.reduceLeDiff, Nat.reduceAdd, Nat.reduceMul, Nat.reduceSub, intOf, g1, g2, g3, g9, g10, g11]
      intro w8 hN8
      have z8 := hN8.size
      have hE48 := hE46.trans' (hE7.trans' hN8.ext)
      refine told (fun _ => True) ⟨hB36.ext (hE7.trans' hN8.ext), hB5.ext (hE7.trans' hN8.ext)⟩ trivial ?_
      simp only [↓VD, VP, VT, isAggD, reduceCtorEq, Int.reduceEq, Int.reduceNe, Int.reduceLT, Int.reduceLE, implies_true, Nat.reduceEqDiff, reduceIte, ite_true, ite_false, eq_self, Nat.reduceLT, Nat.reduceLeDiff, Nat.reduceAdd, Nat.reduceMul, Nat.reduceSub, intOf, g1, g2, g3, g9, g10, g11]
      refine apD (base := w7.heap.size) (xs := []) (ys := ks) (Own.of_blk (sz := 32) hN8.blk (Nat.le_refl _) rfl (by decide)) (by omega) (hdk.ext (hE4.trans' hE48)) (by simp; omega) (fun kv9 w9 hO9 hg9 hbel9 => ?_)
      have z9 := hbel9.size
      have hE79 : Ext w7 w9 := hN8.ext.trans hbel9
      have hE69 := hE7.trans' hE79
      have hB39 := hB36.ext hE69
      have hB59 := hB5.ext hE69
      have hT9 := hT6.ext hE69
      rw [List.nil_append] at hO9
      obtain ⟨a9, c9, hk9⟩ := own_slice hO9
      subst hk9
      refine told (fun _ => True) ⟨hB39, hB59⟩ trivial ?_
      simp only [↓VD, VP, VT, isAggD, reduceCtorEq, Int.reduceEq, Int.reduceNe, Int.reduceLT, Int.reduceLE, implies_true, Nat.reduceEqDiff, reduceIte, ite_true, ite_false, eq_self, Nat.reduceLT, Nat.reduceLeDiff, Nat.reduceAdd, Nat.reduceMul, Nat.reduceSub, intOf, g1, g2, g3, g9, g10, g11]
      refine bldC [.int .u16 bm, .slice a9 ks.length c9] (by kernel_rfl) ?_
      simp only [↓VD, VP, VT, isAggD, reduceCtorEq, Int.reduceEq, Int.reduceNe, Int.reduceLT, Int.reduceLE, implies_true, Nat.reduceEqDiff, reduceIte, ite_true, ite_false, eq_self, Nat.reduceLT, Nat.reduceLeDiff, Nat.reduceAdd, Nat.reduceMul, Nat.reduceSub, intOf, g1, g2, g3, g9, g10, g11]
      refine ⟨rfl, rfl, fun w10 hN10 => ?_⟩
      have z10 := hN10.size
      refine told (fun _ => True) ⟨hB39.ext hN10.ext, hB59.ext hN10.ext⟩ trivial ?_
      have hT10 := hT9.ext hN10.ext
      have hO10 := hO9.ext hN10.ext
      simp only [↓VD, VP, VT, isAggD, reduceCtorEq, Int.reduceEq, Int.reduceNe, Int.reduceLT, Int.reduceLE, implies_true, Nat.reduceEqDiff, reduceIte, ite_true, ite_false, eq_self, Nat.reduceLT, Nat.reduceLeDiff, Nat.reduceAdd, Nat.reduceMul, Nat.reduceSub, intOf, g1, g2, g3, g9, g10, g11]
      refine apS (sz := 2) (n := tt.length) (m := 1) Tryz.underlying23 z56 c56 rfl (by decide) hT10.steps (by omega) (SlC.of_blk hN10.blk (by decide)) rfl (by simp [oneCellV]) (by omega) (by rw [by56]; omega) (fun tv11 w11 hO11 hg11 => ?_)
      have z11 := hg11.size
      have hbel11 : Below w.heap.size w10 w11 := below_of_grown hT10.steps (by omega) hg11
      have hB311 : Blk w11 b3 26 [tv, .slice none 0 0] := hT10.steps.blk (hB39.ext hN10.ext) (by decide) hg11
      have hB111 := hT10.steps.blk (((hB1.ext hE46).ext hE69).ext hN10.ext) (by decide) hg11
      have hB211 := hT10.steps.blk (((hB2.ext hE46).ext hE69).ext hN10.ext) (by decide) hg11
      have hB511 : Blk w11 b5 56 [.int .u16 bm, .slice ka ks.length kc] := ⟨by rw [hg11.block b5 (by have := (hB59.ext hN10.ext).lt; omega) (fun e => by have := lst b5 e.symm; omega)]; exact (hB59.ext hN10.ext).out⟩
      refine told (fun _ => True) ⟨hB311, hB511⟩ trivial ?_
      simp only [↓VD, VP, VT, isAggD, reduceCtorEq, Int.reduceEq, Int.reduceNe, Int.reduceLT, Int.reduceLE, implies_true, Nat.reduceEqDiff, reduceIte, ite_true, ite_false, eq_self, Nat.reduceLT, Nat.reduceLeDiff, Nat.reduceAdd, Nat.reduceMul, Nat.reduceSub, intOf, g1, g2, g3, g9, g10, g11]
      obtain ⟨ta', tc', hte'⟩ := own_slice hO11
      refine stAt (pre := []) (post := [.slice none 0 0]) c23 hB311 rfl (by rw [hte']; rfl) (by rw [hte']; rfl) (fun w12 hP12 => ?_)
      refine toldL (by unfold LastP; decide +kernel) ?_
      simp only [↓VD, VP, VT, isAggD, reduceCtorEq, Int.reduceEq, Int.reduceNe, Int.reduceLT, Int.reduceLE, implies_true, Nat.reduceEqDiff, reduceIte, ite_true, ite_false, eq_self, Nat.reduceLT, Nat.reduceLeDiff, Nat.reduceAdd, Nat.reduceMul, Nat.reduceSub, intOf, g1, g2, g3, g9, g10, g11]
      have hE11 : Ext w w11 := (hE6.trans' (hE69.trans' hN10.ext)).trans hbel11
      have hbd : ∀ {b T : Nat} {l : List Value}, Blk w11 b T l → b ≠ b3 → Blk w12 b T l := fun h hb => hP12.keep h hb
      have hkeepD : ∀ {v : Value} {n : Nat} {xs : List Value}, Own w10 w.heap.size 28 32 v n xs → Own w12 w.heap.size 28 32 v n xs := fun h => (h.keepT hT10.steps (by decide) hg11).put hB311 (by decide) hP12
      have htt' : (tt ++ [(⟨.slice a9 ks.length c9, bm, ks⟩ : SR)]).map SR.dat = (ss.take (tt.length + 1)).map SR.dat := by
        rw [List.map_append, htt]
        obtain ⟨h1, h2⟩ := List.getElem?_eq_some_iff.1 hs
        rw [List.take_succ_eq_append_getElem h1, h2, List.map_append]
        rfl
      refine ⟨⟨hE11.trans (hP12.below (by omega)), tv11, tt ++ [⟨.slice a9 ks.length c9, bm, ks⟩], hbd hB111 (by omega), hbd hB211 (by omega), hP12.blk, ⟨?_, Own.nil _ _ _ _, ?_, ?_, fun p h => by simp at h⟩, by simp; omega, ?_, ?_⟩, ?_⟩
      · have := hO11.put hB311 (by decide) hP12
        simpa [SR.cells] using this
      · intro i t hi
        by_cases hil : i < tt.length
        · rw [List.getElem?_append_left hil] at hi
          obtain ⟨h1, h2, h3⟩ := hT10.kids i t hi
          exact ⟨h1, h2, hkeepD h3⟩
        · have hl := (List.getElem?_eq_some_iff.1 hi).1
          simp only [List.length_append, List.length_cons, List.length_nil] at hl
          obtain rfl : i = tt.length := by omega
          rw [List.getElem?_append_right (Nat.le_refl _), Nat.sub_self] at hi
          simp only [List.getElem?_cons_zero, Option.some.injEq] at hi
          subst hi
          exact ⟨hbm, hdk.1, hkeepD (hO10.base (by have := hE4.size; omega))⟩
      · intro i j x y g hij hi hj hg
        by_cases hjl : j < tt.length
        · rw [List.getElem?_append_left hjl] at hj
          rw [List.getElem?_append_left (by omega)] at hi
          exact hT10.apart i j x y g hij hi hj hg
        · have hl := (List.getElem?_eq_some_iff.1 hj).1
          simp only [List.length_append, List.length_cons, List.length_nil] at hl
          obtain rfl : j = tt.length := by omega
          rw [List.getElem?_append_left (by omega)] at hi
          rw [List.getElem?_append_right (Nat.le_refl _), Nat.sub_self] at hj
          simp only [List.getElem?_cons_zero, Option.some.injEq] at hj
          subst hj
          intro e
          have q1 := ((hT.kids i x hi).2.2.lt g e).2
          have q2 := (hO9.lt g hg).1
          omega
      · rw [htt']
        simp
      · rw [w64 (by omega) (by omega)]
        simp
      · rw [w64 (by omega) (by omega)]
        omega
    · refine ⟨hE4, tv, tt, hB1, hB2, hB3, hT, ?_⟩
      rw [htt, List.take_of_length_le (by omega)]

end Go.Proofs.YticfalbgplifoaaGreatDoor
