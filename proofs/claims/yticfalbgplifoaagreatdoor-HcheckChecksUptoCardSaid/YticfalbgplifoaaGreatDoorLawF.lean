/-
  Paths that read alike lead alike. HcheckRoots, HcheckChecks: the walks. Conditions: as stated in each theorem.
-/
import Derived.Test.YticfalbgplifoaaGreatDoorRqd
import Derived.Test.YticfalbgplifoaaGreatDoorTwn
import Derived.Test.YticfalbgplifoaaGreatDoorRowV
namespace Go.Proofs.YticfalbgplifoaaGreatDoor
set_option maxRecDepth 100000
open Go Go.RowKit
set_option linter.unusedVariables false
set_option linter.unusedSimpArgs false
attribute [local irreducible] vcT opsT qT vcOp Q1 vcPure vcLoad vcStore ldC ldN ldD grdT grdQ vc vcOps vcQ hT
attribute [local irreducible] sumR sumP shaP keyD bucketP branchP

/-! ### Alike -/
theorem dat_at {ss tt : List SR} (h : tt.map SR.dat = ss.map SR.dat) {i : Nat} {s : SR} (hs : ss[i]? = some s) : ∃ t, tt[i]? = some t ∧ t.bm = s.bm ∧ t.ks = s.ks := by
  have h1 := congrArg (·[i]?) h
  simp only [List.getElem?_map, hs, Option.map_some] at h1
  cases ht : tt[i]? with
  | none => rw [ht] at h1; simp at h1
  | some t =>
    rw [ht] at h1
    simp only [Option.map_some, Option.some.injEq, SR.dat, Prod.mk.injEq] at h1
    exact ⟨t, rfl, h1.1, h1.2⟩
theorem kidsP_dat {ss tt : List SR} (h : tt.map SR.dat = ss.map SR.dat) (n : Int) (hk : kidsP n tt) : kidsP n ss := by
  intro s hs d hd
  obtain ⟨i, hi⟩ := List.getElem?_of_mem hs
  obtain ⟨t, ht, _, h2⟩ := dat_at h hi
  exact hk t (List.mem_of_getElem? ht) d (by rw [h2]; exact hd)
theorem branchesP_dat {ss tt : List SR} (h : tt.map SR.dat = ss.map SR.dat) (n : Int) (k : List UInt8) (np : Nat) (hb : branchesP n k tt np) : branchesP n k ss np := by
  have hl : tt.length = ss.length := by have := congrArg List.length h; simpa using this
  refine ⟨by rw [← hl]; exact hb.1, fun i s hs => ?_⟩
  obtain ⟨t, ht, h1, h2⟩ := dat_at h hs
  have := hb.2 i t ht
  rwa [h1, h2, hl] at this
theorem pairsP_dat {ps qs : List PR} (h : qs.map PR.dat = ps.map PR.dat) (n : Int) (k : List UInt8) (nst : Nat) (hp : pairsP n k nst ps) : pairsP n k nst qs := by
  have hl : qs.length = ps.length := by have := congrArg List.length h; simpa using this
  have hat : ∀ (i : Nat) (q : PR), qs[i]? = some q → ∃ p, ps[i]? = some p ∧ p.k = q.k ∧ p.v = q.v := by
    intro i q hq
    have h1 := congrArg (·[i]?) h
    simp only [List.getElem?_map, hq, Option.map_some] at h1
    cases hp : ps[i]? with
    | none => rw [hp] at h1; simp at h1
    | some p =>
      rw [hp] at h1
      simp only [Option.map_some, Option.some.injEq, PR.dat, Prod.mk.injEq] at h1
      exact ⟨p, rfl, h1.1.symm, h1.2.symm⟩
  intro i a ha
  obtain ⟨p, e1, e2, e3⟩ := hat i a ha
  obtain ⟨g1, g2, g3, g4, g5⟩ := hp i p e1
  refine ⟨by rw [← e2]; exact g1, by rw [← e3]; exact g2, fun q h0 hq => ?_, fun q hq => ?_, by rw [← e2]; exact g5⟩
  · obtain ⟨p', f1, f2, f3⟩ := hat _ q hq
    rw [← e2, ← f2]
    exact g3 p' h0 f1
  · obtain ⟨p', f1, f2, f3⟩ := hat _ q hq
    rw [← e2, ← f2]
    exact g4 p' f1
theorem RootE.dat {ss tt : List SR} {ps qs : List PR} (h : tt.map SR.dat = ss.map SR.dat) (g : qs.map PR.dat = ps.map PR.dat) {n : Int} {key : List UInt8} {e : Nat} (hR : RootE n key ss ps e) : RootE n key tt qs e := by
  have hl : tt.length = ss.length := by have := congrArg List.length h; simpa using this
  have gl : qs.length = ps.length := by have := congrArg List.length g; simpa using this
  obtain ⟨h1, h2, h3, h4, h5⟩ := hR
  refine ⟨h1, h2, fun a b c => h3 a b (fun hk => c (kidsP_dat h.symm n hk)), fun a b c d => h4 a b (kidsP_dat h n c) (fun hd => d ⟨by rw [gl]; exact branchesP_dat h.symm n _ _ hd.1, by rw [hl]; exact pairsP_dat g n _ _ hd.2⟩), fun a b c d e => h5 a b (kidsP_dat h n c) (by rw [← gl]; exact branchesP_dat h n _ _ d) (by rw [← hl]; exact pairsP_dat g.symm n _ _ e)⟩
theorem upF_dat (n : Int) (k : List UInt8) (l : List (Nat × SR)) (d : List UInt8) : upF n k l d = (l.map fun x => (x.1, x.2.dat)).foldl (fun d x => stepD n k d x.1 x.2.1 x.2.2) d := by
  rw [List.foldl_map]
  rfl
theorem backL_dat {ss tt : List SR} (h : tt.map SR.dat = ss.map SR.dat) : (backL tt).map (fun x => (x.1, x.2.dat)) = (backL ss).map (fun x => (x.1, x.2.dat)) := by
  have e : ∀ l : List SR, (backL l).map (fun x => (x.1, x.2.dat)) = (((l.map SR.dat).zipIdx).map fun p => (p.2, p.1)).reverse := by
    intro l
    unfold backL
    rw [List.map_reverse, List.map_map, List.zipIdx_map, List.map_map]
    rfl
  rw [e, e, h]
theorem outD_dat {ss tt : List SR} {ps qs : List PR} (h : tt.map SR.dat = ss.map SR.dat) (g : qs.map PR.dat = ps.map PR.dat) (e : Nat) (n : Int) (key : List UInt8) : outD e n key tt qs = outD e n key ss ps := by
  unfold outD
  split
  · rw [upF_dat, upF_dat, backL_dat h, g]
  · rfl
theorem outT_dat {ps qs : List PR} (g : qs.map PR.dat = ps.map PR.dat) (e : Nat) (key : List UInt8) : outT e key qs = outT e key ps := by unfold outT; rw [valOf_dat g]
theorem outV_dat {ps qs : List PR} (g : qs.map PR.dat = ps.map PR.dat) (e : Nat) (key : List UInt8) : outV e key qs = outV e key ps := by unfold outV; rw [valOf_dat g]

theorem pk_dat {ps qs : List PR} (h : qs.map PR.dat = ps.map PR.dat) (hk : ∀ p ∈ ps, p.k.length ≤ 2000000) : ∀ p ∈ qs, p.k.length ≤ 2000000 := by
  intro q hq
  obtain ⟨p, hp, he⟩ := List.mem_map.1 (h ▸ List.mem_map_of_mem (f := PR.dat) hq)
  have := hk p hp
  simp only [PR.dat, Prod.mk.injEq] at he
  rw [← he.1]
  exact this
theorem Roots_ok (n : Int) (root key : List UInt8) (hrt : root.length = 32) (kv sv pv : Value) (ss : List SR) (ps : List PR) (w : World) (hW : WordsAt w 1) (hkv : SlB w kv key) (hkl : key.length ≤ 2000000) (hP : ProofIn w sv pv ss ps 2000000) :
    CallK Tryz.prog 3 [.agg ([.int .i64 n, kv, sv, pv] ++ vbs root).toArray].toArray w fun v w' => v = .bool true ∧ Ext w w' := by
  have hs := hP.steps
  have hp := hP.pairs
  have hsl := hP.sl
  have hksl := hP.kl
  have hpl := hP.pl
  have hel := hP.el
  obtain ⟨ka, kc, rfl⟩ := slv_of hkv
  obtain ⟨sa, cs, hse⟩ := slv_of hs.1
  obtain ⟨pa, cp, hpe⟩ := slv_of hp.1
  subst hse hpe
  refine enterT Tryz.func3 rfl Tryz.ntmps3 Tryz.results3 rfl (by decide) ?_
  repeat (first | exact trivial | refine stp ?_ | refine ldCg ?_ | refine ldNg ?_ | refine ldSg ?_ | refine ldSb ?_ | refine bnd ?_ | refine bnd1 ?_ | refine drawQ (by decide +kernel) mixed (by decide +kernel) ?_)
  first | refine newS ?_ | refine newZ ?_
  intro w1 hE1 hz1 hB1
  refine (awake_ok w1 (hW.ext .go)).mono ?_
  rintro _ w2 ⟨rfl, hE2⟩
  have hz2 := hE2.size
  repeat (first | exact trivial | refine stq ?_ | refine ldCg ?_ | refine ldNg ?_ | refine ldSg ?_ | refine ldSb ?_ | refine bnd ?_ | refine bnd1 ?_)
  rw [v_seq]
  refine joinX (κ := Nat × Value × Nat) (fun y => [(1, .pointer (some ⟨w.heap.size, 0, none⟩)), (3, .pointer (some ⟨y.1, 0, none⟩)), (4, y.2.1), (5, .bool (outT y.2.2 key ps)), (6, .int .i64 y.2.2)])
    (fun y W => Ext w2 W ∧ w2.heap.size ≤ W.heap.size ∧ Blk W y.1 28 (vbs (outD y.2.2 n key ss ps)) ∧ RootE n key ss ps y.2.2 ∧ SlB W y.2.1 (outV y.2.2 key ps)) ?_ ?_
  · repeat (first | exact trivial | refine stq ?_ | refine ldCg ?_ | refine ldNg ?_ | refine ldSg ?_ | refine ldSb ?_ | refine bnd ?_ | refine bnd1 ?_)
    refine drawX (Ord.pre [0, 1, 2, 3, 5, 6] (.two 4 14 (Ord.pre [] (.two 7 14 (Ord.pre [] (.two 8 14 (Ord.of [9, 10, 11, 12, 13, 14, 15, 16, 17, 18]) (Ord.of [8, 9, 10, 11, 12, 13, 15, 16, 17, 18]))) (Ord.of [7, 8, 9, 10, 11, 12, 13, 15, 16, 17, 18]))) (Ord.of [4, 7, 8, 9, 10, 11, 12, 13, 15, 16, 17, 18]))) mixed (by decide +kernel) (fun w5 hE5 hz5 => ?_)
    repeat (first | exact trivial | refine stp ?_ | refine ldCg ?_ | refine ldNg ?_ | refine ldSg ?_ | refine ldSb ?_ | refine bnd ?_ | refine bnd1 ?_ | refine drawQ (by decide +kernel) mixed (by decide +kernel) ?_)
    refine ⟨?_, ?_⟩
    · refine (Twin_ok key _ w5 (hkv.ext .go) (by omega)).mono ?_
      rintro _ w6 ⟨gk, hgk, rfl, hBk, hE6⟩
      have hz6 := hE6.size
      have hSk : SlB w6 (.slice (some ⟨gk, 0, none⟩) key.length key.length) key := SlC.of_blk hBk (by omega)
      refine toldK ?_
      repeat (first | exact trivial | refine stp ?_ | refine ldCg ?_ | refine ldNg ?_ | refine ldSg ?_ | refine ldSb ?_ | refine bnd ?_ | refine bnd1 ?_ | refine drawQ (by decide +kernel) mixed (by decide +kernel) ?_)
      refine ⟨?_, ?_⟩
      · refine (twin_ok _ _ ss ps w6 (hs.ext .go) (hp.ext .go) hsl hksl hpl hel).mono ?_
        rintro _ w7 ⟨tv, qv, tt, qs, rfl, hT, htt, hqq, hE7⟩
        have hz7 := hE7.size
        have hql : qs.length = ps.length := by have := congrArg List.length hqq; simpa using this
        have hqk := pk_dat hqq (fun p h => (hel p h).1)
        refine toldK ?_
        repeat (first | exact trivial | refine stp ?_ | refine ldCg ?_ | refine ldNg ?_ | refine ldSg ?_ | refine ldSb ?_ | refine bnd ?_ | refine bnd1 ?_ | refine drawQ (by decide +kernel) mixed (by decide +kernel) ?_)
        refine ⟨?_, ?_⟩
        · refine (RootOf_ok n key _ _ _ tt qs w7 (hW.ext .go) (hSk.ext .go) (by omega) (hT.stepsAt.ext .go) (hT.pairsAt.ext .go) (fun p h => by have := hqk p h; omega) (by omega)).mono ?_
          rintro _ w8 ⟨e, v, rfl, hR, hO, hE8⟩
          have hz8 := hE8.size
          have lod := outD_len e n key ss ps
          rw [outT_dat hqq, outD_dat htt hqq]
          refine toldK ?_
          repeat (first | exact trivial | refine stp ?_ | refine ldCg ?_ | refine ldNg ?_ | refine ldSg ?_ | refine ldSb ?_ | refine bnd ?_ | refine bnd1 ?_ | refine drawQ (by decide +kernel) mixed (by decide +kernel) ?_)
          refine newZ ?_
          intro w9 hE9 hz9 hB9
          refine toldK ?_
          repeat (first | exact trivial | refine stp ?_ | refine ldCg ?_ | refine ldNg ?_ | refine ldSg ?_ | refine ldSb ?_ | refine bnd ?_ | refine bnd1 ?_ | refine drawQ (by decide +kernel) mixed (by decide +kernel) ?_)
          refine stW ?_
          intro w10 hP10 hz10 hB10
          refine toldK ?_
          repeat (first | exact trivial | refine stp ?_ | refine ldCg ?_ | refine ldNg ?_ | refine ldSg ?_ | refine ldSb ?_ | refine bnd ?_ | refine bnd1 ?_ | refine drawQ (by decide +kernel) mixed (by decide +kernel) ?_)
          exact ⟨(w8.heap.size, v, e), ⟨.go, by omega, hB10, RootE.dat htt.symm hqq.symm hR, by rw [← outV_dat hqq]; exact SlC.of_own (Own.put (hO.ext .go) (hB9.ext .go) (by decide) hP10)⟩, rfl, rfl, rfl, rfl⟩
        · refine newZ ?_
          intro w8 hE8 hz8 hB8
          refine toldK ?_
          repeat (first | exact trivial | refine stp ?_ | refine ldCg ?_ | refine ldNg ?_ | refine ldSg ?_ | refine ldSb ?_ | refine bnd ?_ | refine bnd1 ?_ | refine drawQ (by decide +kernel) mixed (by decide +kernel) ?_)
          refine (RootOf_ok n key _ _ _ tt qs w8 (hW.ext .go) (hSk.ext .go) (by omega) (hT.stepsAt.ext .go) (hT.pairsAt.ext .go) (fun p h => by have := hqk p h; omega) (by omega)).mono ?_
          rintro _ w9 ⟨e, v, rfl, hR, hO, hE9⟩
          have hz9 := hE9.size
          have lod := outD_len e n key ss ps
          rw [outT_dat hqq, outD_dat htt hqq]
          refine toldK ?_
          repeat (first | exact trivial | refine stp ?_ | refine ldCg ?_ | refine ldNg ?_ | refine ldSg ?_ | refine ldSb ?_ | refine bnd ?_ | refine bnd1 ?_ | refine drawQ (by decide +kernel) mixed (by decide +kernel) ?_)
          refine stW ?_
          intro w10 hP10 hz10 hB10
          refine toldK ?_
          repeat (first | exact trivial | refine stp ?_ | refine ldCg ?_ | refine ldNg ?_ | refine ldSg ?_ | refine ldSb ?_ | refine bnd ?_ | refine bnd1 ?_ | refine drawQ (by decide +kernel) mixed (by decide +kernel) ?_)
          exact ⟨(w7.heap.size, v, e), ⟨.go, by omega, hB10, RootE.dat htt.symm hqq.symm hR, by rw [← outV_dat hqq]; exact SlC.of_own (Own.put (hO.ext .go) (hB8.ext .go) (by decide) hP10)⟩, rfl, rfl, rfl, rfl⟩
      · refine newZ ?_
        intro w7 hE7 hz7 hB7
        refine toldK ?_
        repeat (first | exact trivial | refine stp ?_ | refine ldCg ?_ | refine ldNg ?_ | refine ldSg ?_ | refine ldSb ?_ | refine bnd ?_ | refine bnd1 ?_ | refine drawQ (by decide +kernel) mixed (by decide +kernel) ?_)
        refine (twin_ok _ _ ss ps w7 (hs.ext .go) (hp.ext .go) hsl hksl hpl hel).mono ?_
        rintro _ w8 ⟨tv, qv, tt, qs, rfl, hT, htt, hqq, hE8⟩
        have hz8 := hE8.size
        have hql : qs.length = ps.length := by have := congrArg List.length hqq; simpa using this
        have hqk := pk_dat hqq (fun p h => (hel p h).1)
        refine toldK ?_
        repeat (first | exact trivial | refine stp ?_ | refine ldCg ?_ | refine ldNg ?_ | refine ldSg ?_ | refine ldSb ?_ | refine bnd ?_ | refine bnd1 ?_ | refine drawQ (by decide +kernel) mixed (by decide +kernel) ?_)
        refine (RootOf_ok n key _ _ _ tt qs w8 (hW.ext .go) (hSk.ext .go) (by omega) (hT.stepsAt.ext .go) (hT.pairsAt.ext .go) (fun p h => by have := hqk p h; omega) (by omega)).mono ?_
        rintro _ w9 ⟨e, v, rfl, hR, hO, hE9⟩
        have hz9 := hE9.size
        have lod := outD_len e n key ss ps
        rw [outT_dat hqq, outD_dat htt hqq]
        refine toldK ?_
        repeat (first | exact trivial | refine stp ?_ | refine ldCg ?_ | refine ldNg ?_ | refine ldSg ?_ | refine ldSb ?_ | refine bnd ?_ | refine bnd1 ?_ | refine drawQ (by decide +kernel) mixed (by decide +kernel) ?_)
        refine stW ?_
        intro w10 hP10 hz10 hB10
        refine toldK ?_
        repeat (first | exact trivial | refine stp ?_ | refine ldCg ?_ | refine ldNg ?_ | refine ldSg ?_ | refine ldSb ?_ | refine bnd ?_ | refine bnd1 ?_ | refine drawQ (by decide +kernel) mixed (by decide +kernel) ?_)
        exact ⟨(w6.heap.size, v, e), ⟨.go, by omega, hB10, RootE.dat htt.symm hqq.symm hR, by rw [← outV_dat hqq]; exact SlC.of_own (Own.put (hO.ext .go) (hB7.ext .go) (by decide) hP10)⟩, rfl, rfl, rfl, rfl⟩
    · refine newZ ?_
      intro w6 hE6 hz6 hB6
      refine toldK ?_
      repeat (first | exact trivial | refine stp ?_ | refine ldCg ?_ | refine ldNg ?_ | refine ldSg ?_ | refine ldSb ?_ | refine bnd ?_ | refine bnd1 ?_ | refine drawQ (by decide +kernel) mixed (by decide +kernel) ?_)
      refine (Twin_ok key _ w6 (hkv.ext .go) (by omega)).mono ?_
      rintro _ w7 ⟨gk, hgk, rfl, hBk, hE7⟩
      have hz7 := hE7.size
      have hSk : SlB w7 (.slice (some ⟨gk, 0, none⟩) key.length key.length) key := SlC.of_blk hBk (by omega)
      refine toldK ?_
      repeat (first | exact trivial | refine stp ?_ | refine ldCg ?_ | refine ldNg ?_ | refine ldSg ?_ | refine ldSb ?_ | refine bnd ?_ | refine bnd1 ?_ | refine drawQ (by decide +kernel) mixed (by decide +kernel) ?_)
      refine (twin_ok _ _ ss ps w7 (hs.ext .go) (hp.ext .go) hsl hksl hpl hel).mono ?_
      rintro _ w8 ⟨tv, qv, tt, qs, rfl, hT, htt, hqq, hE8⟩
      have hz8 := hE8.size
      have hql : qs.length = ps.length := by have := congrArg List.length hqq; simpa using this
      have hqk := pk_dat hqq (fun p h => (hel p h).1)
      refine toldK ?_
      repeat (first | exact trivial | refine stp ?_ | refine ldCg ?_ | refine ldNg ?_ | refine ldSg ?_ | refine ldSb ?_ | refine bnd ?_ | refine bnd1 ?_ | refine drawQ (by decide +kernel) mixed (by decide +kernel) ?_)
      refine (RootOf_ok n key _ _ _ tt qs w8 (hW.ext .go) (hSk.ext .go) (by omega) (hT.stepsAt.ext .go) (hT.pairsAt.ext .go) (fun p h => by have := hqk p h; omega) (by omega)).mono ?_
      rintro _ w9 ⟨e, v, rfl, hR, hO, hE9⟩
      have hz9 := hE9.size
      have lod := outD_len e n key ss ps
      rw [outT_dat hqq, outD_dat htt hqq]
      refine toldK ?_
      repeat (first | exact trivial | refine stp ?_ | refine ldCg ?_ | refine ldNg ?_ | refine ldSg ?_ | refine ldSb ?_ | refine bnd ?_ | refine bnd1 ?_ | refine drawQ (by decide +kernel) mixed (by decide +kernel) ?_)
      refine stW ?_
      intro w10 hP10 hz10 hB10
      refine toldK ?_
      repeat (first | exact trivial | refine stp ?_ | refine ldCg ?_ | refine ldNg ?_ | refine ldSg ?_ | refine ldSb ?_ | refine bnd ?_ | refine bnd1 ?_ | refine drawQ (by decide +kernel) mixed (by decide +kernel) ?_)
      exact ⟨(w5.heap.size, v, e), ⟨.go, by omega, hB10, RootE.dat htt.symm hqq.symm hR, by rw [← outV_dat hqq]; exact SlC.of_own (Own.put (hO.ext .go) (hB6.ext .go) (by decide) hP10)⟩, rfl, rfl, rfl, rfl⟩
  · rintro ⟨b3, v, e⟩ s3 w3 ⟨hE3, hz3, hB3, hR, hS⟩
    simp only at hB3 hR hS
    have lod := outD_len e n key ss ps
    repeat (first | exact trivial | refine stp ?_ | refine ldCg ?_ | refine ldNg ?_ | refine ldSg ?_ | refine ldSb ?_ | refine bnd ?_ | refine bnd1 ?_ | refine drawQ (by decide +kernel) mixed (by decide +kernel) ?_)
    refine (DocRootOf_ok n key _ _ _ ss ps w3 (hkv.ext .go) (hs.ext .go) (hp.ext .go) (by omega)).mono ?_
    rintro _ w4 ⟨e', v', rfl, hR', hO', hE4⟩
    have hz4 := hE4.size
    obtain rfl : e' = e := hR'.uniq hR
    repeat (first | exact trivial | refine stp ?_ | refine ldCg ?_ | refine ldNg ?_ | refine ldSg ?_ | refine ldSb ?_ | refine bnd ?_ | refine bnd1 ?_ | refine drawQ (by decide +kernel) mixed (by decide +kernel) ?_)
    first | refine newS ?_ | refine newZ ?_
    intro w5 hE5 hz5 hB5
    repeat (first | exact trivial | refine stp ?_ | refine ldCg ?_ | refine ldNg ?_ | refine ldSg ?_ | refine ldSb ?_ | refine bnd ?_ | refine bnd1 ?_ | refine drawQ (by decide +kernel) mixed (by decide +kernel) ?_)
    refine eqd_lit _ _ _ _ _ _ Tryz.underlying5 c5 lod lod ?_
    repeat (first | exact trivial | refine stp ?_ | refine ldCg ?_ | refine ldNg ?_ | refine ldSg ?_ | refine ldSb ?_ | refine bnd ?_ | refine bnd1 ?_ | refine drawQ (by decide +kernel) mixed (by decide +kernel) ?_)
    refine (Same_ok _ _ _ _ w5 (hS.ext .go) ((SlC.of_own hO').ext .go)).mono ?_
    rintro _ w6 ⟨rfl, hE6⟩
    have hz6 := hE6.size
    repeat (first | exact trivial | refine stp ?_ | refine ldCg ?_ | refine ldNg ?_ | refine ldSg ?_ | refine ldSb ?_ | refine bnd ?_ | refine bnd1 ?_ | refine drawQ (by decide +kernel) mixed (by decide +kernel) ?_)
    exact Ext.go

theorem Checks_ok (n : Int) (root key : List UInt8) (hrt : root.length = 32) (kv sv pv : Value) (ss : List SR) (ps : List PR) (w : World) (hW : WordsAt w 1) (hkv : SlB w kv key) (hkl : key.length ≤ 2000000) (hP : ProofIn w sv pv ss ps 2000000) :
    CallK Tryz.prog 4 [.agg ([.int .i64 n, kv, sv, pv] ++ vbs root).toArray].toArray w fun v w' => v = .bool true ∧ Ext w w' := by
  have hs := hP.steps
  have hp := hP.pairs
  have hsl := hP.sl
  have hksl := hP.kl
  have hpl := hP.pl
  have hel := hP.el
  obtain ⟨ka, kc, rfl⟩ := slv_of hkv
  obtain ⟨sa, cs, hse⟩ := slv_of hs.1
  obtain ⟨pa, cp, hpe⟩ := slv_of hp.1
  subst hse hpe
  refine enterT Tryz.func4 rfl Tryz.ntmps4 Tryz.results4 rfl (by decide) ?_
  repeat (first | exact trivial | refine stp ?_ | refine ldCg ?_ | refine ldNg ?_ | refine ldSg ?_ | refine ldSb ?_ | refine bnd ?_ | refine bnd1 ?_ | refine drawQ (by decide +kernel) mixed (by decide +kernel) ?_)
  first | refine newS ?_ | refine newZ ?_
  intro w1 hE1 hz1 hB1
  refine (awake_ok w1 (hW.ext .go)).mono ?_
  rintro _ w2 ⟨rfl, hE2⟩
  have hz2 := hE2.size
  refine stp ?_
  refine drawX (Ord.of [0, 1, 2, 3, 4, 5, 7, 8, 6, 9, 10, 11, 12, 13, 14, 15, 16, 17]) mixed (by decide +kernel) (fun w5 hE5 hz5 => ?_)
  repeat (first | exact trivial | refine stp ?_ | refine ldCg ?_ | refine ldNg ?_ | refine ldSg ?_ | refine ldSb ?_ | refine bnd ?_ | refine bnd1 ?_ | refine drawQ (by decide +kernel) mixed (by decide +kernel) ?_)
  refine (Twin_ok key _ w5 (hkv.ext .go) (by omega)).mono ?_
  rintro _ w6 ⟨gk, hgk, rfl, hBk, hE6⟩
  have hz6 := hE6.size
  have hSk : SlB w6 (.slice (some ⟨gk, 0, none⟩) key.length key.length) key := SlC.of_blk hBk (by omega)
  refine toldK ?_
  repeat (first | exact trivial | refine stp ?_ | refine ldCg ?_ | refine ldNg ?_ | refine ldSg ?_ | refine ldSb ?_ | refine bnd ?_ | refine bnd1 ?_ | refine drawQ (by decide +kernel) mixed (by decide +kernel) ?_)
  refine (twin_ok _ _ ss ps w6 (hs.ext .go) (hp.ext .go) hsl hksl hpl hel).mono ?_
  rintro _ w7 ⟨tv, qv, tt, qs, rfl, hT, htt, hqq, hE7⟩
  have hz7 := hE7.size
  have hql : qs.length = ps.length := by have := congrArg List.length hqq; simpa using this
  have hqk := pk_dat hqq (fun p h => (hel p h).1)
  refine toldK ?_
  repeat (first | exact trivial | refine stp ?_ | refine ldCg ?_ | refine ldNg ?_ | refine ldSg ?_ | refine ldSb ?_ | refine bnd ?_ | refine bnd1 ?_ | refine drawQ (by decide +kernel) mixed (by decide +kernel) ?_)
  refine (Check_ok n root key hrt _ _ _ tt qs w7 (hW.ext .go) (hSk.ext .go) (by omega) (hT.stepsAt.ext .go) (hT.pairsAt.ext .go) (fun p h => by have := hqk p h; omega) (by omega)).mono ?_
  rintro _ w8 ⟨e, f, v, rfl, hR, hf, hO, hE8⟩
  have hz8 := hE8.size
  rw [outT_dat hqq]
  rw [outV_dat hqq] at hO
  rw [outD_dat htt hqq] at hf
  replace hR := hR.dat htt.symm hqq.symm
  refine toldK ?_
  repeat (first | exact trivial | refine stp ?_ | refine ldCg ?_ | refine ldNg ?_ | refine ldSg ?_ | refine ldSb ?_ | refine bnd ?_ | refine bnd1 ?_ | refine drawQ (by decide +kernel) mixed (by decide +kernel) ?_)
  refine (DocCheck_ok n root key hrt _ _ _ ss ps w8 (hkv.ext .go) (hs.ext .go) (hp.ext .go) (by omega)).mono ?_
  rintro _ w9 ⟨e', f', v', rfl, hR', hf', hO', hE9⟩
  have hz9 := hE9.size
  obtain rfl : e' = e := hR'.uniq hR
  obtain rfl : f' = f := hf'.trans hf.symm
  repeat (first | exact trivial | refine stp ?_ | refine ldCg ?_ | refine ldNg ?_ | refine ldSg ?_ | refine ldSb ?_ | refine bnd ?_ | refine bnd1 ?_ | refine drawQ (by decide +kernel) mixed (by decide +kernel) ?_)
  refine (Same_ok _ _ _ _ w9 ((SlC.of_own hO).ext .go) ((SlC.of_own hO').ext .go)).mono ?_
  rintro _ w10 ⟨rfl, hE10⟩
  have hz10 := hE10.size
  repeat (first | exact trivial | refine stp ?_ | refine ldCg ?_ | refine ldNg ?_ | refine ldSg ?_ | refine ldSb ?_ | refine bnd ?_ | refine bnd1 ?_ | refine drawQ (by decide +kernel) mixed (by decide +kernel) ?_)
  exact Ext.go
end Go.Proofs.YticfalbgplifoaaGreatDoor
