/-
  HcheckTurned: the walk. Conditions: as stated in each theorem.
-/
import Derived.Test.YticfalbgplifoaaDoorPlE
import Derived.Test.YticfalbgplifoaaDoorRowV
namespace Go.Proofs.YticfalbgplifoaaDoor
set_option maxRecDepth 100000
open Go Go.RowKit
set_option linter.unusedVariables false
set_option linter.unusedSimpArgs false

theorem Own.put_ne {w w' : World} {base e sz n b U : Nat} {v : Value} {xs m : List Value} (h : Own w base e sz v n xs) (hb : v.ownBlock ≠ some b) (p : Put w w' b U m) : Own w' base e sz v n xs := by
  refine ⟨h.1, ?_⟩
  rcases h.2 with hn | ⟨g, cap, cur, rfl, hbg, hg, rest⟩
  · exact .inl hn
  · refine .inr ⟨g, cap, cur, rfl, hbg, ?_, rest⟩
    rw [p.other g (fun e => hb (by simp [Value.ownBlock, e]))]
    exact hg

theorem Turned_ok (n : Int) (root key : List UInt8) (hrt : root.length = 32) (kv sv pv : Value) (ss : List SR) (ps : List PR) (st kd by_ : Int) (w : World) (hW : WordsAt w 1) (hkat : SlB w kv key) (hkl : key.length ≤ 2000000) (hP : ProofIn w sv pv ss ps 2000000)
    (hst : -9223372036854775808 ≤ st ∧ st ≤ 9223372036854775807) (hkd : -9223372036854775808 ≤ kd ∧ kd ≤ 9223372036854775807) (hby : 0 ≤ by_ ∧ by_ ≤ 255) :
    CallK Tryd.prog 5 [.agg ([.int .i64 n, kv, sv, pv] ++ vbs root).toArray, .int .i64 st, .int .i64 kd, .int .u8 by_].toArray w fun v w' => v = .bool true ∧ Ext w w' := by
  have hA : AskAt w key ss ps kv sv pv := AskAt.of hkat hP hkl (Nat.le_refl _)
  obtain ⟨ak, ck, rfl⟩ := slv_of hkat
  have hsx := hP.steps
  obtain ⟨⟨sa, cs, rfl, hsn, hsm, hsc⟩, hs2⟩ := hsx
  obtain ⟨pa, cp, hpe⟩ := slv_of hP.pairs.1
  subst hpe
  have hsl := hP.sl
  refine enterT Tryd.func5 rfl Tryd.ntmps5 Tryd.results5 rfl (by decide) ?_
  simp only [↓VD, VP, VT, isAggD, reduceCtorEq, Int.reduceEq, Int.reduceNe, Int.reduceLT, Int.reduceLE, implies_true, Nat.reduceEqDiff, reduceIte, ite_true, ite_false, eq_self, Nat.reduceLT, Nat.reduceLeDiff, Nat.reduceAdd, Nat.reduceMul, Nat.reduceSub, intOf]
  intro w1 hN1
  refine (awake_ok w1 (hW.ext hN1.ext)).mono ?_
  rintro _ w2 ⟨rfl, hE2⟩
  have hB4 := hN1.blk.ext hE2
  have hE2' : Ext w w2 := hN1.ext.trans' hE2
  have z1 := hN1.size
  have z2 := hE2.size
  by_cases s1 : st < 0
  · have f1 : (st < 0) = True := eq_true s1
    simp only [↓VD, VP, VT, isAggD, reduceCtorEq, Int.reduceEq, Int.reduceNe, Int.reduceLT, Int.reduceLE, implies_true, Nat.reduceEqDiff, reduceIte, ite_true, ite_false, eq_self, Nat.reduceLT, Nat.reduceLeDiff, Nat.reduceAdd, Nat.reduceMul, Nat.reduceSub, intOf, f1]
    exact hE2'
  have f1 : (st < 0) = False := eq_false s1
  simp only [↓VD, VP, VT, isAggD, reduceCtorEq, Int.reduceEq, Int.reduceNe, Int.reduceLT, Int.reduceLE, implies_true, Nat.reduceEqDiff, reduceIte, ite_true, ite_false, eq_self, Nat.reduceLT, Nat.reduceLeDiff, Nat.reduceAdd, Nat.reduceMul, Nat.reduceSub, intOf, f1]
  refine ldAt (pre := [.int .i64 n, .slice ak key.length ck]) (post := [.slice pa ps.length cp] ++ vbs root) Tryd.underlying23 rfl hB4 rfl ?_
  by_cases s2 : (ss.length : Int) ≤ st
  · have f2 : ((ss.length : Int) ≤ st) = True := eq_true s2
    simp only [↓VD, VP, VT, isAggD, reduceCtorEq, Int.reduceEq, Int.reduceNe, Int.reduceLT, Int.reduceLE, implies_true, Nat.reduceEqDiff, reduceIte, ite_true, ite_false, eq_self, Nat.reduceLT, Nat.reduceLeDiff, Nat.reduceAdd, Nat.reduceMul, Nat.reduceSub, intOf, f1, f2]
    exact hE2'
  have f2 : ((ss.length : Int) ≤ st) = False := eq_false s2
  by_cases s3 : kd < 0
  · have f3 : (kd < 0) = True := eq_true s3
    simp only [↓VD, VP, VT, isAggD, reduceCtorEq, Int.reduceEq, Int.reduceNe, Int.reduceLT, Int.reduceLE, implies_true, Nat.reduceEqDiff, reduceIte, ite_true, ite_false, eq_self, Nat.reduceLT, Nat.reduceLeDiff, Nat.reduceAdd, Nat.reduceMul, Nat.reduceSub, intOf, f1, f2, f3]
    exact hE2'
  have f3 : (kd < 0) = False := eq_false s3
  simp only [↓VD, VP, VT, isAggD, reduceCtorEq, Int.reduceEq, Int.reduceNe, Int.reduceLT, Int.reduceLE, implies_true, Nat.reduceEqDiff, reduceIte, ite_true, ite_false, eq_self, Nat.reduceLT, Nat.reduceLeDiff, Nat.reduceAdd, Nat.reduceMul, Nat.reduceSub, intOf, f1, f2, f3]
  obtain ⟨i, rfl⟩ : ∃ i : Nat, st = i := ⟨st.toNat, by omega⟩
  obtain ⟨j, rfl⟩ : ∃ j : Nat, kd = j := ⟨kd.toNat, by omega⟩
  obtain ⟨bb, rfl⟩ : ∃ bb : Nat, by_ = bb := ⟨by_.toNat, by omega⟩
  obtain ⟨s, hs⟩ : ∃ s, ss[i]? = some s := ⟨_, List.getElem?_eq_getElem (by omega)⟩
  have hsm' := List.mem_of_getElem? hs
  obtain ⟨hbm, hdk⟩ := hs2 s hsm'
  have hks := hP.kl s hsm'
  obtain ⟨ka, kc, hke⟩ := slv_of hdk.2
  rcases hsc with hsc | ⟨b, o, rfl, hsc⟩
  · exfalso
    cases ss with
    | nil => simp at hs
    | cons d ds => simp [SR.cells] at hsc
  have hcW : ∀ {W : World}, Ext w W → ∀ k u, (ss.flatMap SR.cells)[k]? = some u → W.cell? ⟨b, o + k, none⟩ = some u := fun hE k u hk => by rw [hE.cell (block_lt_of_cell (hsc k u hk))]; exact hsc k u hk
  refine ldAt (pre := [.int .i64 n, .slice ak key.length ck]) (post := [.slice pa ps.length cp] ++ vbs root) Tryd.underlying23 rfl hB4 rfl ?_
  simp only [↓VD, VP, VT, isAggD, reduceCtorEq, Int.reduceEq, Int.reduceNe, Int.reduceLT, Int.reduceLE, implies_true, Nat.reduceEqDiff, reduceIte, ite_true, ite_false, eq_self, Nat.reduceLT, Nat.reduceLeDiff, Nat.reduceAdd, Nat.reduceMul, Nat.reduceSub, intOf, f1, f2, f3]
  refine ⟨by omega, by omega, ldF (f := SR.cells) (sz := 2) (j := 1) Tryd.underlying45 rfl (fun d h => rfl) (hcW hE2') hs rfl (by omega) ?_⟩
  rw [hke]
  by_cases s4 : s.ks.length ≤ j
  · have f4 : ((s.ks.length : Int) ≤ (j : Int)) = True := eq_true (by omega)
    simp only [↓VD, VP, VT, isAggD, reduceCtorEq, Int.reduceEq, Int.reduceNe, Int.reduceLT, Int.reduceLE, implies_true, Nat.reduceEqDiff, reduceIte, ite_true, ite_false, eq_self, Nat.reduceLT, Nat.reduceLeDiff, Nat.reduceAdd, Nat.reduceMul, Nat.reduceSub, intOf, f1, f2, f3, f4]
    exact hE2'
  have f4 : ((s.ks.length : Int) ≤ (j : Int)) = False := eq_false (by omega)
  by_cases s5 : bb = 0
  · have f5 : ((bb : Int) = 0) = True := eq_true (by omega)
    simp only [↓VD, VP, VT, isAggD, reduceCtorEq, Int.reduceEq, Int.reduceNe, Int.reduceLT, Int.reduceLE, implies_true, Nat.reduceEqDiff, reduceIte, ite_true, ite_false, eq_self, Nat.reduceLT, Nat.reduceLeDiff, Nat.reduceAdd, Nat.reduceMul, Nat.reduceSub, intOf, f1, f2, f3, f4, f5]
    exact hE2'
  have f5 : ((bb : Int) = 0) = False := eq_false (by omega)
  simp only [↓VD, VP, VT, isAggD, reduceCtorEq, Int.reduceEq, Int.reduceNe, Int.reduceLT, Int.reduceLE, implies_true, Nat.reduceEqDiff, reduceIte, ite_true, ite_false, eq_self, Nat.reduceLT, Nat.reduceLeDiff, Nat.reduceAdd, Nat.reduceMul, Nat.reduceSub, intOf, f1, f2, f3, f4, f5]
  refine ldSeg (pre := [.int .i64 n, .slice ak key.length ck]) (mid := [.slice (some ⟨b, o, none⟩) ss.length cs, .slice pa ps.length cp]) (post := vbs root) Tryd.underlying26 rfl hB4 rfl (by rw [c26]; rfl) ?_
  simp only [↓VD, VP, VT, isAggD, reduceCtorEq, Int.reduceEq, Int.reduceNe, Int.reduceLT, Int.reduceLE, implies_true, Nat.reduceEqDiff, reduceIte, ite_true, ite_false, eq_self, Nat.reduceLT, Nat.reduceLeDiff, Nat.reduceAdd, Nat.reduceMul, Nat.reduceSub, intOf]
  refine (twin_ok _ _ ss ps w2 (hA.steps.ext hE2') (hA.pairs.ext hE2') hsl hP.kl hP.pl hP.el).mono ?_
  rintro _ w3 ⟨tv, qv, tt, qs, rfl, hT3, htt, hqq, hE3⟩
  obtain ⟨ta, tc, hte⟩ := own_slice hT3.steps
  obtain ⟨qa, qc, hqe⟩ := own_slice hT3.pairs
  have z3 := hE3.size
  simp only [↓VD, VP, VT, isAggD, reduceCtorEq, Int.reduceEq, Int.reduceNe, Int.reduceLT, Int.reduceLE, implies_true, Nat.reduceEqDiff, reduceIte, ite_true, ite_false, eq_self, Nat.reduceLT, Nat.reduceLeDiff, Nat.reduceAdd, Nat.reduceMul, Nat.reduceSub, intOf]
  intro w4 hN4
  refine stAll hN4.blk (vs := [tv, qv]) rfl (by rw [c26]; decide) (by rw [c26]; rfl) (by rw [c26]; rfl) (by rw [hte, hqe]; simp [oneCellV]) (fun w5 hP5 => ?_)
  have z4 := hN4.size
  have z5 := hP5.size
  have hE35 : Ext w3 w5 := hN4.ext.trans (hP5.below (Nat.le_refl _))
  have hB9 := hP5.blk
  have hT5 := hT3.ext hE35
  have hE25 := hE3.trans' hE35
  have hE5 := hE2'.trans' hE25
  have hB45 := hB4.ext hE25
  obtain ⟨b9, hb9⟩ : ∃ b9, b9 = w3.heap.size := ⟨_, rfl⟩
  rw [← hb9] at hB9 z4 ⊢
  have htl : tt.length = ss.length := by have := congrArg List.length htt; simpa using this
  obtain ⟨t, ht⟩ : ∃ t, tt[i]? = some t := ⟨_, List.getElem?_eq_getElem (by omega)⟩
  have hdat : ∀ (k : Nat) (s t : SR), ss[k]? = some s → tt[k]? = some t → t.dat = s.dat := by
    intro k s t h1 h2
    have := congrArg (·[k]?) htt
    simp only [List.getElem?_map, h1, h2, Option.map_some, Option.some.injEq] at this
    exact this
  have hts := hdat i s t hs ht
  unfold SR.dat at hts
  simp only [Prod.mk.injEq] at hts
  obtain ⟨d, hd⟩ : ∃ d, s.ks[j]? = some d := ⟨_, List.getElem?_eq_getElem (by omega)⟩
  have hd32 : d.length = 32 := hdk.1 d (List.mem_of_getElem? hd)
  obtain ⟨y, hy1, hy2⟩ := xor_byte (d.getD 0 0).toNat bb (by have := (d.getD 0 0).toNat_lt; omega) (by omega) s5
  obtain ⟨htbm, ht32, htO⟩ := hT5.kids i t ht
  obtain ⟨tkv, tbm, tks⟩ := t
  simp only at hts htO ht32 htbm
  obtain ⟨hts1, hts2⟩ := hts
  subst hts1 hts2
  obtain ⟨hol, ⟨h0, h0'⟩ | ⟨g, cap, cur, h0, hbg, hg, hnc, hcm, hcs, hct⟩⟩ := htO
  · exfalso
    omega
  subst h0
  have hl32 := dvs_len s.ks hdk.1
  obtain ⟨rest, hrest⟩ : ∃ rest, cur.toList = s.ks.flatMap vbs ++ rest := ⟨cur.toList.drop (s.ks.length * 32), by rw [← hct, List.take_append_drop]⟩
  have hG : Blk w5 g 28 (s.ks.flatMap vbs ++ rest) := ⟨by rw [← hrest]; simpa using hg⟩
  have hcellsT : ∀ {W : World}, TwinAt W w2.heap.size tv qv tt qs → ∃ b' o', tv = .slice (some ⟨b', o', none⟩) tt.length tc ∧ ∀ k u, (tt.flatMap SR.cells)[k]? = some u → W.cell? ⟨b', o' + k, none⟩ = some u := by
    intro W hT
    obtain ⟨_, _, e, _, _, hc⟩ := SlC.of_own hT.steps
    rw [hte] at e ⊢
    cases e
    rcases hc with hc | ⟨b', o', rfl, hc⟩
    · exfalso
      have hil := (List.getElem?_eq_some_iff.1 ht).1
      cases tt with
      | nil => simp at hil
      | cons d ds => simp [SR.cells] at hc
    · exact ⟨b', o', rfl, hc⟩
  obtain ⟨b', o', hte2, hcT5⟩ := hcellsT hT5
  subst hte2
  simp only [↓VD, VP, VT, isAggD, reduceCtorEq, Int.reduceEq, Int.reduceNe, Int.reduceLT, Int.reduceLE, implies_true, Nat.reduceEqDiff, reduceIte, ite_true, ite_false, eq_self, Nat.reduceLT, Nat.reduceLeDiff, Nat.reduceAdd, Nat.reduceMul, Nat.reduceSub, intOf]
  refine drawH (fun W => Blk W b9 26 [.slice (some ⟨b', o', none⟩) tt.length tc, qv] ∧ TwinAt W w2.heap.size (.slice (some ⟨b', o', none⟩) tt.length tc) qv tt qs ∧ Blk W g 28 (s.ks.flatMap vbs ++ rest)) [0, 1, 2, 3, 4, 5, 6, 7, 8, 9, 10, 11, 12, 13, 14] mixed (by decide +kernel) (fun w6 hE6 hh => ⟨⟨hB9.ext hE6, hT5.ext hE6, hG.ext hE6⟩, ?_⟩)
  simp only [↓VD, VP, VT, isAggD, reduceCtorEq, Int.reduceEq, Int.reduceNe, Int.reduceLT, Int.reduceLE, implies_true, Nat.reduceEqDiff, reduceIte, ite_true, ite_false, eq_self, Nat.reduceLT, Nat.reduceLeDiff, Nat.reduceAdd, Nat.reduceMul, Nat.reduceSub, intOf]
  refine loadS_of _ (fun w' h => ldAt (pre := []) (post := [qv]) Tryd.underlying23 rfl h.1 rfl rfl) ?_
  simp only [↓VD, VP, VT, isAggD, reduceCtorEq, Int.reduceEq, Int.reduceNe, Int.reduceLT, Int.reduceLE, implies_true, Nat.reduceEqDiff, reduceIte, ite_true, ite_false, eq_self, Nat.reduceLT, Nat.reduceLeDiff, Nat.reduceAdd, Nat.reduceMul, Nat.reduceSub, intOf]
  refine ⟨by omega, by omega, loadS_of (.slice (some ⟨g, 0, none⟩) s.ks.length cap) (fun w' h => ?_) ?_⟩
  · obtain ⟨b2, o2, e2, hc2⟩ := hcellsT h.2.1
    cases e2
    exact ldF (f := SR.cells) (sz := 2) (j := 1) Tryd.underlying45 rfl (fun d h => rfl) hc2 ht rfl (by omega) rfl
  simp only [↓VD, VP, VT, isAggD, reduceCtorEq, Int.reduceEq, Int.reduceNe, Int.reduceLT, Int.reduceLE, implies_true, Nat.reduceEqDiff, reduceIte, ite_true, ite_false, eq_self, Nat.reduceLT, Nat.reduceLeDiff, Nat.reduceAdd, Nat.reduceMul, Nat.reduceSub, intOf]
  have hzero : (j * 32 + Int.toNat 0) = j * 32 := by simp
  rw [hzero]
  have hcell : (s.ks.flatMap vbs ++ rest)[j * 32]? = some (.int .u8 (d.getD 0 0).toNat) := by
    have h1 := flat_get (f := vbs) (sz := 32) s.ks j d (fun d h => by rw [vbs_len]; exact hdk.1 d h) hd 0 _ (vbs_get (l := d) (k := 0) (by omega))
    rw [Nat.add_zero] at h1
    rw [List.getElem?_append_left (List.getElem?_eq_some_iff.1 h1).1]
    exact h1
  refine ⟨by omega, by omega, loadS_of (.int .u8 (d.getD 0 0).toNat) (fun w' h => ld1 Tryd.underlying5 rfl (by rw [h.2.2.cell]; exact hcell) rfl) ?_⟩
  simp only [↓VD, VP, VT, isAggD, reduceCtorEq, Int.reduceEq, Int.reduceNe, Int.reduceLT, Int.reduceLE, implies_true, Nat.reduceEqDiff, reduceIte, ite_true, ite_false, eq_self, Nat.reduceLT, Nat.reduceLeDiff, Nat.reduceAdd, Nat.reduceMul, Nat.reduceSub, intOf, hy1]
  rw [hzero]
  have hjl : j * 32 < (s.ks.flatMap vbs).length := by rw [hl32]; have := (List.getElem?_eq_some_iff.1 hd).1; omega
  refine ⟨by omega, by omega, stV c5 (hG.ext hE6) rfl rfl (by rw [List.length_append]; omega) (fun w7 hP7 => ?_)⟩
  refine toldL (by unfold LastP; decide +kernel) ?_
  rw [List.set_append, if_pos hjl, show (Value.int .u8 (y.toNat : Int)) = vb y from rfl, flat_set hdk.1 hd y] at hP7
  have hG6 := hG.ext hE6
  have hT6 := hT5.ext hE6
  obtain ⟨tt', htt'⟩ : ∃ tt', tt' = tt.set i ⟨.slice (some ⟨g, 0, none⟩) s.ks.length cap, s.bm, s.ks.set j (setD d y)⟩ := ⟨_, rfl⟩
  have hil := (List.getElem?_eq_some_iff.1 ht).1
  have htl' : tt'.length = tt.length := by rw [htt', List.length_set]
  have hfl : tt'.flatMap SR.cells = tt.flatMap SR.cells := by
    have e : tt'.map SR.cells = tt.map SR.cells := by
      rw [htt', List.map_set]
      refine List.ext_getElem? fun m => ?_
      rw [List.getElem?_set]
      split
      · rename_i h
        subst h
        rw [if_pos (by rw [List.length_map]; exact hil), List.getElem?_map, ht]
        rfl
      · rfl
    rw [List.flatMap_def, List.flatMap_def, e]
  have hk32 : ∀ x ∈ s.ks.set j (setD d y), x.length = 32 := by
    intro x hx
    rcases List.mem_or_eq_of_mem_set hx with hx | rfl
    · exact hdk.1 x hx
    · rw [setD_len]; exact hd32
  have hS7 : StepsAt w7 (.slice (some ⟨b', o', none⟩) tt.length tc) tt' := by
    refine ⟨?_, fun x hx => ?_⟩
    · have := SlC.of_own (hT6.steps.put hG6 (by decide) hP7)
      rw [hfl, htl']
      exact this
    · obtain ⟨m, hm⟩ := List.getElem?_of_mem hx
      rw [htt'] at hm
      by_cases hmi : m = i
      · subst hmi
        rw [List.getElem?_set_self hil] at hm
        cases hm
        refine ⟨hbm, hk32, ?_⟩
        have hc1 : s.ks.length ≤ cap := hnc
        have hc2 : cap ≤ 9223372036854775807 := by simpa [maxLen] using hcm
        have := SlC.of_part (o := 0) (m := (s.ks.set j (setD d y)).flatMap vbs) hP7.blk hc1 hc2 (fun k u hk => by rw [Nat.zero_add, List.getElem?_append_left (List.getElem?_eq_some_iff.1 hk).1]; exact hk)
        rw [List.length_set]
        exact this
      · rw [List.getElem?_set_ne (Ne.symm hmi)] at hm
        obtain ⟨k1, k2, k3⟩ := hT6.kids m x hm
        refine ⟨k1, k2, SlC.of_own (k3.put_ne (fun e => ?_) hP7)⟩
        rcases Nat.lt_or_ge m i with hlt | hge
        · exact hT6.apart m i x _ g hlt hm ht rfl e
        · exact hT6.apart i m _ x g (by omega) ht hm e rfl
  have hQ7 : PairsAt w7 qv qs := by
    refine ⟨SlC.of_own (hT6.pairs.put hG6 (by decide) hP7), fun x hx => ?_⟩
    obtain ⟨g1, k1, e1, e2, e3, e4, e5, e6, e7, e8, e9⟩ := hT6.prs x hx
    rw [e1, e2]
    exact ⟨SlC.of_blk (hP7.keep e6 (e6.ne hG6 (by decide))) (by omega), SlC.of_blk (hP7.keep e7 (e7.ne hG6 (by decide))) (by omega)⟩
  have hgb : w2.heap.size ≤ g := hbg
  have hE7 : Ext w w7 := (hE5.trans' hE6).trans (hP7.below (by have := hE2'.size; omega))
  have hB47 := hP7.keep (hB45.ext hE6) ((hB45.ext hE6).ne hG6 (by decide))
  have hB97 := hP7.keep (hB9.ext hE6) ((hB9.ext hE6).ne hG6 (by decide))
  have hql : qs.length = ps.length := by have := congrArg List.length hqq; simpa using this
  have hTurn : TurnP ss tt' i j y := by
    refine ⟨by rw [htl', htl], ⟨s, ⟨.slice (some ⟨g, 0, none⟩) s.ks.length cap, s.bm, s.ks.set j (setD d y)⟩, d, hs, by rw [htt', List.getElem?_set_self hil], hd, ?_, rfl, rfl⟩, ?_⟩
    · intro e
      rw [e] at hy2
      exact hy2 rfl
    · intro k x z hk hx hz
      rw [htt', List.getElem?_set_ne (Ne.symm hk)] at hz
      exact hdat k x z hx hz
  have h32 : ∀ s ∈ ss, ∀ d ∈ s.ks, d.length = 32 := fun s h => (hs2 s h).2.1
  have hA7 := hA.ext hE7
  have hAq : AskAt w7 key tt' qs (.slice ak key.length ck) (.slice (some ⟨b', o', none⟩) tt.length tc) qv := ⟨hA7.kat, hA7.keyl, hS7, hQ7, fun p hp => by
    obtain ⟨m, hm⟩ := List.getElem?_of_mem hp
    have h1 := congrArg (·[m]?) hqq
    simp only [List.getElem?_map, hm, Option.map_some] at h1
    cases hpm : ps[m]? with
    | none => rw [hpm] at h1; simp at h1
    | some q =>
      rw [hpm] at h1
      simp only [Option.map_some, Option.some.injEq, PR.dat, Prod.mk.injEq] at h1
      rw [h1.1]
      exact hA.pk q (List.mem_of_getElem? hpm), by rw [hql]; exact hA.pn⟩
  clear hT3 hT5 hcellsT hS7 hQ7
  simp only [↓VD, VP, VT, isAggD, reduceCtorEq, Int.reduceEq, Int.reduceNe, Int.reduceLT, Int.reduceLE, implies_true, Nat.reduceEqDiff, reduceIte, ite_true, ite_false, eq_self, Nat.reduceLT, Nat.reduceLeDiff, Nat.reduceAdd, Nat.reduceMul, Nat.reduceSub, intOf]
  refine ldAt (pre := []) (post := [.slice ak key.length ck, .slice (some ⟨b, o, none⟩) ss.length cs, .slice pa ps.length cp] ++ vbs root) Tryd.underlying3 rfl hB47 rfl ?_
  simp only [↓VD, VP, VT, isAggD, reduceCtorEq, Int.reduceEq, Int.reduceNe, Int.reduceLT, Int.reduceLE, implies_true, Nat.reduceEqDiff, reduceIte, ite_true, ite_false, eq_self, Nat.reduceLT, Nat.reduceLeDiff, Nat.reduceAdd, Nat.reduceMul, Nat.reduceSub, intOf]
  refine ldAt (pre := [.int .i64 n]) (post := [.slice (some ⟨b, o, none⟩) ss.length cs, .slice pa ps.length cp] ++ vbs root) Tryd.underlying22 rfl hB47 rfl ?_
  simp only [↓VD, VP, VT, isAggD, reduceCtorEq, Int.reduceEq, Int.reduceNe, Int.reduceLT, Int.reduceLE, implies_true, Nat.reduceEqDiff, reduceIte, ite_true, ite_false, eq_self, Nat.reduceLT, Nat.reduceLeDiff, Nat.reduceAdd, Nat.reduceMul, Nat.reduceSub, intOf]
  refine ldSeg (pre := [.int .i64 n, .slice ak key.length ck]) (mid := [.slice (some ⟨b, o, none⟩) ss.length cs, .slice pa ps.length cp]) (post := vbs root) Tryd.underlying26 rfl hB47 rfl (by rw [c26]; rfl) ?_
  simp only [↓VD, VP, VT, isAggD, reduceCtorEq, Int.reduceEq, Int.reduceNe, Int.reduceLT, Int.reduceLE, implies_true, Nat.reduceEqDiff, reduceIte, ite_true, ite_false, eq_self, Nat.reduceLT, Nat.reduceLeDiff, Nat.reduceAdd, Nat.reduceMul, Nat.reduceSub, intOf]
  refine (hA7.rootOf n (hW.ext hE7)).mono ?_
  rintro _ w8 ⟨e, v, rfl, hR, hO8, hE8⟩
  have lod := outD_len e n key ss ps
  have z8 := hE8.size
  simp only [↓VD, VP, VT, isAggD, reduceCtorEq, Int.reduceEq, Int.reduceNe, Int.reduceLT, Int.reduceLE, implies_true, Nat.reduceEqDiff, reduceIte, ite_true, ite_false, eq_self, Nat.reduceLT, Nat.reduceLeDiff, Nat.reduceAdd, Nat.reduceMul, Nat.reduceSub, intOf]
  intro w9 hN9
  refine stAll hN9.blk rfl (by rw [c28]; decide) (by rw [c28, vbs_len, lod]) (by rw [c28]; simp) (vbs_one _) (fun w10 hP10 => ?_)
  have hE810 : Ext w8 w10 := hN9.ext.trans (hP10.below (Nat.le_refl _))
  have hE710 := hE8.trans' hE810
  have hE10 := hE7.trans' hE710
  have hB10 := hP10.blk
  have hB410 := hB47.ext hE710
  have hB910 := hB97.ext hE710
  have hv := (SlC.of_own hO8).ext hE810
  obtain ⟨av, cv, hve⟩ := slv_of hv
  subst hve
  clear hO8
  generalize w8.heap.size = b10 at *
  simp only [↓VD, VP, VT, isAggD, reduceCtorEq, Int.reduceEq, Int.reduceNe, Int.reduceLT, Int.reduceLE, implies_true, Nat.reduceEqDiff, reduceIte, ite_true, ite_false, eq_self, Nat.reduceLT, Nat.reduceLeDiff, Nat.reduceAdd, Nat.reduceMul, Nat.reduceSub, intOf]
  refine ldAt (pre := []) (post := [.slice ak key.length ck, .slice (some ⟨b, o, none⟩) ss.length cs, .slice pa ps.length cp] ++ vbs root) Tryd.underlying3 rfl hB410 rfl ?_
  simp only [↓VD, VP, VT, isAggD, reduceCtorEq, Int.reduceEq, Int.reduceNe, Int.reduceLT, Int.reduceLE, implies_true, Nat.reduceEqDiff, reduceIte, ite_true, ite_false, eq_self, Nat.reduceLT, Nat.reduceLeDiff, Nat.reduceAdd, Nat.reduceMul, Nat.reduceSub, intOf]
  refine ldAt (pre := [.int .i64 n]) (post := [.slice (some ⟨b, o, none⟩) ss.length cs, .slice pa ps.length cp] ++ vbs root) Tryd.underlying22 rfl hB410 rfl ?_
  simp only [↓VD, VP, VT, isAggD, reduceCtorEq, Int.reduceEq, Int.reduceNe, Int.reduceLT, Int.reduceLE, implies_true, Nat.reduceEqDiff, reduceIte, ite_true, ite_false, eq_self, Nat.reduceLT, Nat.reduceLeDiff, Nat.reduceAdd, Nat.reduceMul, Nat.reduceSub, intOf]
  refine ldA Tryd.underlying26 rfl hB910 (by rw [c26]; rfl) ?_
  simp only [↓VD, VP, VT, isAggD, reduceCtorEq, Int.reduceEq, Int.reduceNe, Int.reduceLT, Int.reduceLE, implies_true, Nat.reduceEqDiff, reduceIte, ite_true, ite_false, eq_self, Nat.reduceLT, Nat.reduceLeDiff, Nat.reduceAdd, Nat.reduceMul, Nat.reduceSub, intOf]
  refine ((hAq.ext hE710).rootOf n (hW.ext hE10)).mono ?_
  rintro _ w11 ⟨f, u, rfl, gR, hO11, hE11⟩
  obtain rfl : f = e := gR.uniq (hTurn.rootE h32 hqq hR)
  have lof := outD_len f n key tt' qs
  have z11 := hE11.size
  simp only [↓VD, VP, VT, isAggD, reduceCtorEq, Int.reduceEq, Int.reduceNe, Int.reduceLT, Int.reduceLE, implies_true, Nat.reduceEqDiff, reduceIte, ite_true, ite_false, eq_self, Nat.reduceLT, Nat.reduceLeDiff, Nat.reduceAdd, Nat.reduceMul, Nat.reduceSub, intOf]
  intro w12 hN12
  refine stAll hN12.blk rfl (by rw [c28]; decide) (by rw [c28, vbs_len, lof]) (by rw [c28]; simp) (vbs_one _) (fun w13 hP13 => ?_)
  have hE1113 : Ext w11 w13 := hN12.ext.trans (hP13.below (Nat.le_refl _))
  have hE1013 := hE11.trans' hE1113
  have hE13 := hE10.trans' hE1013
  have hB14 := hP13.blk
  have hB1013 := hB10.ext hE1013
  have hB413 := hB410.ext hE1013
  have hB913 := hB910.ext hE1013
  replace hv := hv.ext hE1013
  have hu := (SlC.of_own hO11).ext hE1113
  obtain ⟨au, cu, hue⟩ := slv_of hu
  subst hue
  clear hO11
  generalize w11.heap.size = b14 at *
  by_cases he : f = 0
  · subst he
    have f0 : ((((0 : Nat) : Int)) = 0) = True := eq_true rfl
    have hvo := valOf_dat hqq key
    have hV : outV 0 key qs = outV 0 key ps := by simp only [outV, hvo]
    have hTt : outT 0 key qs = outT 0 key ps := by simp only [outT, hvo]
    rw [hV] at hu
    rw [hV, hTt]
    simp only [↓VD, VP, VT, isAggD, reduceCtorEq, Int.reduceEq, Int.reduceNe, Int.reduceLT, Int.reduceLE, implies_true, Nat.reduceEqDiff, reduceIte, ite_true, ite_false, eq_self, Nat.reduceLT, Nat.reduceLeDiff, Nat.reduceAdd, Nat.reduceMul, Nat.reduceSub, intOf, f0]
    refine (Same_ok _ _ _ _ w13 hu hv).mono ?_
    rintro _ w14 ⟨rfl, hE14⟩
    have hE14' := hE13.trans' hE14
    simp only [↓VD, VP, VT, isAggD, reduceCtorEq, Int.reduceEq, Int.reduceNe, Int.reduceLT, Int.reduceLE, implies_true, Nat.reduceEqDiff, reduceIte, ite_true, ite_false, eq_self, Nat.reduceLT, Nat.reduceLeDiff, Nat.reduceAdd, Nat.reduceMul, Nat.reduceSub, intOf, f0]
    have g32 : ∀ s ∈ tt', ∀ d ∈ s.ks, d.length = 32 := fun s h => (hAq.steps.2 s h).2.1
    have hne := hTurn.unlike h32 g32 (fun s h => (hs2 s h).1) (fun s h => (hAq.steps.2 s h).1) hR gR
    have hB15 := hB14.ext hE14
    have hB16 := hB1013.ext hE14
    have hB17 := hB413.ext hE14
    have hB18 := hB913.ext hE14
    refine drawH (fun W => Blk W b14 28 (vbs (outD 0 n key tt' qs)) ∧ Blk W b10 28 (vbs (outD 0 n key ss ps)) ∧ Blk W w.heap.size 30 ([.int .i64 n, .slice ak key.length ck, .slice (some ⟨b, o, none⟩) ss.length cs, .slice pa ps.length cp] ++ vbs root) ∧ Blk W b9 26 [.slice (some ⟨b', o', none⟩) tt.length tc, qv]) [0, 1, 2, 3, 4, 5, 6, 7, 8, 9, 10, 11, 13, 14, 15, 16, 17, 12, 18, 19, 20, 21] mixed (by decide +kernel) (fun w15 hE15 hh15 => ⟨⟨hB15.ext hE15, hB16.ext hE15, hB17.ext hE15, hB18.ext hE15⟩, ?_⟩)
    have hE15' := hE14'.trans' hE15
    simp only [↓VD, VP, VT, isAggD, reduceCtorEq, Int.reduceEq, Int.reduceNe, Int.reduceLT, Int.reduceLE, implies_true, Nat.reduceEqDiff, reduceIte, ite_true, ite_false, eq_self, Nat.reduceLT, Nat.reduceLeDiff, Nat.reduceAdd, Nat.reduceMul, Nat.reduceSub, intOf, f0]
    refine loadS_of _ (fun w' h => ldA Tryd.underlying28 rfl h.1 (by rw [vbs_len, lof, c28]) rfl) ?_
    simp only [↓VD, VP, VT, isAggD, reduceCtorEq, Int.reduceEq, Int.reduceNe, Int.reduceLT, Int.reduceLE, implies_true, Nat.reduceEqDiff, reduceIte, ite_true, ite_false, eq_self, Nat.reduceLT, Nat.reduceLeDiff, Nat.reduceAdd, Nat.reduceMul, Nat.reduceSub, intOf, f0]
    refine loadS_of _ (fun w' h => ldA Tryd.underlying28 rfl h.2.1 (by rw [vbs_len, lod, c28]) rfl) ?_
    simp only [↓VD, VP, VT, isAggD, reduceCtorEq, Int.reduceEq, Int.reduceNe, Int.reduceLT, Int.reduceLE, implies_true, Nat.reduceEqDiff, reduceIte, ite_true, ite_false, eq_self, Nat.reduceLT, Nat.reduceLeDiff, Nat.reduceAdd, Nat.reduceMul, Nat.reduceSub, intOf, f0]
    refine eqd_lit _ _ _ _ _ _ Tryd.underlying5 c5 lof lod ?_
    by_cases hdd : outD 0 n key tt' qs = outD 0 n key ss ps
    · have f7 : (outD 0 n key tt' qs = outD 0 n key ss ps) = True := eq_true hdd
      simp only [↓VD, VP, VT, isAggD, reduceCtorEq, Int.reduceEq, Int.reduceNe, Int.reduceLT, Int.reduceLE, implies_true, Nat.reduceEqDiff, reduceIte, ite_true, ite_false, eq_self, Nat.reduceLT, Nat.reduceLeDiff, Nat.reduceAdd, Nat.reduceMul, Nat.reduceSub, intOf, f0, f7]
      refine loadS_of _ (fun w' h => ldAt (pre := []) (post := [.slice ak key.length ck, .slice (some ⟨b, o, none⟩) ss.length cs, .slice pa ps.length cp] ++ vbs root) Tryd.underlying3 rfl h.2.2.1 rfl rfl) ?_
      simp only [↓VD, VP, VT, isAggD, reduceCtorEq, Int.reduceEq, Int.reduceNe, Int.reduceLT, Int.reduceLE, implies_true, Nat.reduceEqDiff, reduceIte, ite_true, ite_false, eq_self, Nat.reduceLT, Nat.reduceLeDiff, Nat.reduceAdd, Nat.reduceMul, Nat.reduceSub, intOf, f0, f7]
      refine loadS_of _ (fun w' h => ldAt (pre := []) (post := [.slice ak key.length ck, .slice (some ⟨b, o, none⟩) ss.length cs, .slice pa ps.length cp] ++ vbs root) Tryd.underlying3 rfl h.2.2.1 rfl rfl) ?_
      simp only [↓VD, VP, VT, isAggD, reduceCtorEq, Int.reduceEq, Int.reduceNe, Int.reduceLT, Int.reduceLE, implies_true, Nat.reduceEqDiff, reduceIte, ite_true, ite_false, eq_self, Nat.reduceLT, Nat.reduceLeDiff, Nat.reduceAdd, Nat.reduceMul, Nat.reduceSub, intOf, f0, f7]
      refine loadS_of _ (fun w' h => ldAt (pre := [.int .i64 n]) (post := [.slice (some ⟨b, o, none⟩) ss.length cs, .slice pa ps.length cp] ++ vbs root) Tryd.underlying22 rfl h.2.2.1 rfl rfl) ?_
      simp only [↓VD, VP, VT, isAggD, reduceCtorEq, Int.reduceEq, Int.reduceNe, Int.reduceLT, Int.reduceLE, implies_true, Nat.reduceEqDiff, reduceIte, ite_true, ite_false, eq_self, Nat.reduceLT, Nat.reduceLeDiff, Nat.reduceAdd, Nat.reduceMul, Nat.reduceSub, intOf, f0, f7]
      refine loadS_of _ (fun w' h => ldSeg (pre := [.int .i64 n, .slice ak key.length ck]) (mid := [.slice (some ⟨b, o, none⟩) ss.length cs, .slice pa ps.length cp]) (post := vbs root) Tryd.underlying26 rfl h.2.2.1 rfl (by rw [c26]; rfl) rfl) ?_
      simp only [↓VD, VP, VT, isAggD, reduceCtorEq, Int.reduceEq, Int.reduceNe, Int.reduceLT, Int.reduceLE, implies_true, Nat.reduceEqDiff, reduceIte, ite_true, ite_false, eq_self, Nat.reduceLT, Nat.reduceLeDiff, Nat.reduceAdd, Nat.reduceMul, Nat.reduceSub, intOf, f0, f7]
      refine loadS_of _ (fun w' h => ldAt (pre := []) (post := [.slice ak key.length ck, .slice (some ⟨b, o, none⟩) ss.length cs, .slice pa ps.length cp] ++ vbs root) Tryd.underlying3 rfl h.2.2.1 rfl rfl) ?_
      simp only [↓VD, VP, VT, isAggD, reduceCtorEq, Int.reduceEq, Int.reduceNe, Int.reduceLT, Int.reduceLE, implies_true, Nat.reduceEqDiff, reduceIte, ite_true, ite_false, eq_self, Nat.reduceLT, Nat.reduceLeDiff, Nat.reduceAdd, Nat.reduceMul, Nat.reduceSub, intOf, f0, f7]
      refine loadS_of _ (fun w' h => ldAt (pre := [.int .i64 n]) (post := [.slice (some ⟨b, o, none⟩) ss.length cs, .slice pa ps.length cp] ++ vbs root) Tryd.underlying22 rfl h.2.2.1 rfl rfl) ?_
      simp only [↓VD, VP, VT, isAggD, reduceCtorEq, Int.reduceEq, Int.reduceNe, Int.reduceLT, Int.reduceLE, implies_true, Nat.reduceEqDiff, reduceIte, ite_true, ite_false, eq_self, Nat.reduceLT, Nat.reduceLeDiff, Nat.reduceAdd, Nat.reduceMul, Nat.reduceSub, intOf, f0, f7]
      refine loadS_of _ (fun w' h => ldA Tryd.underlying26 rfl h.2.2.2 (by rw [c26]; rfl) rfl) ?_
      simp only [↓VD, VP, VT, isAggD, reduceCtorEq, Int.reduceEq, Int.reduceNe, Int.reduceLT, Int.reduceLE, implies_true, Nat.reduceEqDiff, reduceIte, ite_true, ite_false, eq_self, Nat.reduceLT, Nat.reduceLeDiff, Nat.reduceAdd, Nat.reduceMul, Nat.reduceSub, intOf, f0, f7]
      refine (inputs_ok n key _ _ _ ss ps w15 (hW.ext hE15') (hA.ext hE15') hR).mono ?_
      rintro va w16 ⟨la, hla, hll, hli, hE16⟩
      obtain ⟨aa, ca, hae⟩ := slv_of hla.1
      refine told (fun _ => True) ⟨(hB15.ext hE15).ext hE16, (hB16.ext hE15).ext hE16, (hB17.ext hE15).ext hE16, (hB18.ext hE15).ext hE16⟩ trivial ?_
      simp only [↓VD, VP, VT, isAggD, reduceCtorEq, Int.reduceEq, Int.reduceNe, Int.reduceLT, Int.reduceLE, implies_true, Nat.reduceEqDiff, reduceIte, ite_true, ite_false, eq_self, Nat.reduceLT, Nat.reduceLeDiff, Nat.reduceAdd, Nat.reduceMul, Nat.reduceSub, intOf, f0, f7]
      have hAq16 := (((hAq.ext (hE710.trans' hE1013)).ext hE14).ext hE15).ext hE16
      have hE16' := hE15'.trans' hE16
      refine (inputs_ok n key _ _ _ tt' qs w16 (hW.ext hE16') hAq16 gR).mono ?_
      rintro vb' w17 ⟨lb, hlb, hml, hmi, hE17⟩
      refine told (fun _ => True) ⟨((hB15.ext hE15).ext hE16).ext hE17, ((hB16.ext hE15).ext hE16).ext hE17, ((hB17.ext hE15).ext hE16).ext hE17, ((hB18.ext hE15).ext hE16).ext hE17⟩ trivial ?_
      simp only [↓VD, VP, VT, isAggD, reduceCtorEq, Int.reduceEq, Int.reduceNe, Int.reduceLT, Int.reduceLE, implies_true, Nat.reduceEqDiff, reduceIte, ite_true, ite_false, eq_self, Nat.reduceLT, Nat.reduceLeDiff, Nat.reduceAdd, Nat.reduceMul, Nat.reduceSub, intOf, f0, f7]
      have hE17' := hE16'.trans' hE17
      refine (clash_inputs n key _ _ _ _ _ ss tt' ps qs va vb' la lb w17 (hW.ext hE17') (hA.ext hE17') (hAq16.ext hE17) hR gR hdd.symm hne (hla.ext hE17) hlb hll hml hli hmi).mono ?_
      rintro _ w18 ⟨rfl, hE18⟩
      refine told (fun _ => True) ⟨(((hB15.ext hE15).ext hE16).ext hE17).ext hE18, (((hB16.ext hE15).ext hE16).ext hE17).ext hE18, (((hB17.ext hE15).ext hE16).ext hE17).ext hE18, (((hB18.ext hE15).ext hE16).ext hE17).ext hE18⟩ trivial ?_
      simp only [↓VD, VP, VT, isAggD, reduceCtorEq, Int.reduceEq, Int.reduceNe, Int.reduceLT, Int.reduceLE, implies_true, Nat.reduceEqDiff, reduceIte, ite_true, ite_false, eq_self, Nat.reduceLT, Nat.reduceLeDiff, Nat.reduceAdd, Nat.reduceMul, Nat.reduceSub, intOf, f0, f7]
      exact hE17'.trans' hE18
    · have f7 : (outD 0 n key tt' qs = outD 0 n key ss ps) = False := eq_false hdd
      simp only [↓VD, VP, VT, isAggD, reduceCtorEq, Int.reduceEq, Int.reduceNe, Int.reduceLT, Int.reduceLE, implies_true, Nat.reduceEqDiff, reduceIte, ite_true, ite_false, eq_self, Nat.reduceLT, Nat.reduceLeDiff, Nat.reduceAdd, Nat.reduceMul, Nat.reduceSub, intOf, f0, f7]
      exact hE15'
  · have f6 : ((f : Int) = 0) = False := eq_false (by omega)
    simp only [↓VD, VP, VT, isAggD, reduceCtorEq, Int.reduceEq, Int.reduceNe, Int.reduceLT, Int.reduceLE, implies_true, Nat.reduceEqDiff, reduceIte, ite_true, ite_false, eq_self, Nat.reduceLT, Nat.reduceLeDiff, Nat.reduceAdd, Nat.reduceMul, Nat.reduceSub, intOf, f6]
    exact hE13

end Go.Proofs.YticfalbgplifoaaDoor
