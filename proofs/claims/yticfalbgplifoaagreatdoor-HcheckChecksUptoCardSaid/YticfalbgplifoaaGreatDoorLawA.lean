/-
  The statements' helpers bucket and awake (package notarylaw16). Conditions: as stated in each theorem.
-/
import Derived.Test.YticfalbgplifoaaGreatDoorHckE
import Derived.Test.YticfalbgplifoaaGreatDoorRefD
namespace Go.Proofs.YticfalbgplifoaaGreatDoor
set_option maxRecDepth 100000
open Go Go.RowKit
set_option linter.unusedVariables false
set_option linter.unusedSimpArgs false

/-! ### Conversions -/
theorem convB {w : World} {s : ByteArray} {xs : List UInt8} {K : Value → World → Prop} (hs : s.data.toList = xs) (hl : xs.length ≤ 9223372036854775807)
    (hK : ∀ c w', SlB w' (.slice (some ⟨w.heap.size, 0, none⟩) xs.length c) xs → Ext w w' → K (.slice (some ⟨w.heap.size, 0, none⟩) xs.length c) w') : RawConv Tryz.prog 9 22 (.string s) w K := by
  subst hs
  have hsz : s.size = s.data.toList.length := by rw [Array.length_toList]; rfl
  refine ⟨⟨_, _, Lib.run_convert_string_bytes w 9 22 5 s Tryz.underlying9 Tryz.underlying22 Tryz.underlying5, ?_⟩⟩
  rw [hsz]
  refine hK _ _ ⟨_, _, rfl, grownCap_ge _ _ _ _, ?_, Or.inr ⟨w.heap.size, 0, rfl, fun j u hj => ?_⟩⟩ ⟨rfl, rfl, rfl, by rw [Lib.bytesWorld_size]; omega, fun k hk => Lib.bytesWorld_at_old w _ s k hk⟩
  · have := grownCap_le_maxLen w s.data.toList.length 0 5 (by rw [maxLen_eq]; exact hl)
    rwa [maxLen_eq] at this
  · have hj' : j < s.data.toList.length := by have := (List.getElem?_eq_some_iff.1 hj).1; rwa [vbs_len] at this
    rw [Nat.zero_add, Lib.bytesWorld_cell w _ s j (by rw [hsz]; exact hj')]
    rw [vbs_get hj'] at hj
    exact hj
theorem convM {w : World} {b n c : Nat} {T : TypeId} {xs : List UInt8} {K : Value → World → Prop} (hB : Blk w b T (vbs xs)) (hn : n = xs.length) (hc : n ≤ c) (hm : c ≤ 9223372036854775807)
    (hK : ∀ w', SlB w' (.slice (some ⟨b, 0, none⟩) n c) xs → KeepB w w' b → K (.slice (some ⟨b, 0, none⟩) n c) w') : RawConv Tryz.prog 22 22 (.slice (some ⟨b, 0, none⟩) n c) w K := by
  subst hn
  have hsh : w.shape? b = some (T, xs.length) := by simp [World.shape?, hB.out, vbs_len]
  refine ⟨⟨.slice (some ⟨b, 0, none⟩) xs.length c, w.freeze ⟨b, xs.length, none⟩ 1, ?_, ?_⟩⟩
  · simp [convert, run_underlying Tryz.underlying22, run_underlying Tryz.underlying5, markStringish, shape, Sem.run, Result.andThen, hsh]
  · refine hK _ ⟨_, _, rfl, hc, hm, Or.inr ⟨b, 0, rfl, fun j u hj => ?_⟩⟩ ⟨rfl, rfl, rfl, by simp [World.freeze], fun k hk hkb => ?_⟩
    · rw [Nat.zero_add]
      have := hj
      simp [World.cell?, World.freeze, Array.getElem?_modify, hB.out]
      exact hj
    · simp [World.freeze, Array.getElem?_modify, Ne.symm hkb]
theorem convSQ {w : World} {v : Value} {xs : List UInt8} {K : Value → Prop} (h : SlB w v xs) (hK : K (.string ⟨xs.toArray⟩)) : RawConvQ Tryz.prog 22 9 v w K := by
  refine ⟨⟨_, fun w' hE => ?_, hK⟩⟩
  obtain ⟨v', w'', hr, he, hw⟩ := (convS (K := fun u W => u = .string ⟨xs.toArray⟩ ∧ W = w') (h.ext hE) ⟨rfl, rfl⟩).out
  subst he hw
  exact hr

theorem SlN.of_addr {w : World} {k o n c b : Nat} {cells : List Value} (h : SlC w (.slice (some ⟨k, o, none⟩) n c) n cells) (hk : k ≠ b) : SlN w (.slice (some ⟨k, o, none⟩) n c) n cells b := by
  obtain ⟨a, c', he, h1, h2, h3⟩ := h
  cases he
  refine ⟨_, _, rfl, h1, h2, ?_⟩
  rcases h3 with h3 | ⟨k', o', he, h3⟩
  · exact Or.inl h3
  · cases he
    exact Or.inr ⟨k, o, rfl, hk, h3⟩
theorem lbucket_ok (s t : ByteArray) (xs ys : List UInt8) (hs : s.data.toList = xs) (ht : t.data.toList = ys) (hsl : xs.length ≤ 9223372036854775807) (htl : ys.length ≤ 9223372036854775807) (w : World) :
    CallK Tryz.prog 19 [.string s, .string t].toArray w fun v w' => ∃ pv kv vv, v = .agg [.slice none 0 0, pv].toArray ∧ PairsAt w' pv [⟨kv, vv, xs, ys⟩] ∧ Ext w w' := by
  refine enterT Tryz.func19 rfl Tryz.ntmps19 Tryz.results19 rfl (by decide) ?_
  simp only [↓VD, VP, VT, isAggD, reduceCtorEq, Int.reduceEq, Int.reduceNe, Int.reduceLT, Int.reduceLE, implies_true, Nat.reduceEqDiff, reduceIte, ite_true, ite_false, eq_self, Nat.reduceLT, Nat.reduceLeDiff, Nat.reduceAdd, Nat.reduceMul, Nat.reduceSub, intOf]
  intro w1 hN1
  refine convB hs hsl (fun c2 w2 hS2 hE2 => ?_)
  simp only [↓VD, VP, VT, isAggD, reduceCtorEq, Int.reduceEq, Int.reduceNe, Int.reduceLT, Int.reduceLE, implies_true, Nat.reduceEqDiff, reduceIte, ite_true, ite_false, eq_self, Nat.reduceLT, Nat.reduceLeDiff, Nat.reduceAdd, Nat.reduceMul, Nat.reduceSub, intOf]
  refine convB ht htl (fun c3 w3 hS3 hE3 => ?_)
  simp only [↓VD, VP, VT, isAggD, reduceCtorEq, Int.reduceEq, Int.reduceNe, Int.reduceLT, Int.reduceLE, implies_true, Nat.reduceEqDiff, reduceIte, ite_true, ite_false, eq_self, Nat.reduceLT, Nat.reduceLeDiff, Nat.reduceAdd, Nat.reduceMul, Nat.reduceSub, intOf]
  refine bldC [.slice (some ⟨w1.heap.size, 0, none⟩) xs.length c2, .slice (some ⟨w2.heap.size, 0, none⟩) ys.length c3] (by kernel_rfl) ?_
  simp only [↓VD, VP, VT, isAggD, reduceCtorEq, Int.reduceEq, Int.reduceNe, Int.reduceLT, Int.reduceLE, implies_true, Nat.reduceEqDiff, reduceIte, ite_true, ite_false, eq_self, Nat.reduceLT, Nat.reduceLeDiff, Nat.reduceAdd, Nat.reduceMul, Nat.reduceSub, intOf]
  refine ⟨rfl, rfl, fun w4 hN4 => ?_⟩
  refine bldC [.slice none 0 0, .slice (some ⟨w3.heap.size, 0, none⟩) 1 1] (by kernel_rfl) ?_
  simp only [↓VD, VP, VT, isAggD, reduceCtorEq, Int.reduceEq, Int.reduceNe, Int.reduceLT, Int.reduceLE, implies_true, Nat.reduceEqDiff, reduceIte, ite_true, ite_false, eq_self, Nat.reduceLT, Nat.reduceLeDiff, Nat.reduceAdd, Nat.reduceMul, Nat.reduceSub, intOf]
  have s1 := hN1.size
  have s2 := hE2.size
  have s3 := hE3.size
  have s4 := hN4.size
  have hE14 : Ext w1 w4 := (hE2.trans' hE3).trans' hN4.ext
  refine stAll (hN1.blk.ext hE14) (vs := [.slice none 0 0, .slice (some ⟨w3.heap.size, 0, none⟩) 1 1]) rfl (by rw [c26]; decide) (by rw [c26]; rfl) (by rw [c26]; rfl) (by simp [oneCellV]) (fun w5 hP5 => ?_)
  simp only [↓VD, VP, VT, isAggD, reduceCtorEq, Int.reduceEq, Int.reduceNe, Int.reduceLT, Int.reduceLE, implies_true, Nat.reduceEqDiff, reduceIte, ite_true, ite_false, eq_self, Nat.reduceLT, Nat.reduceLeDiff, Nat.reduceAdd, Nat.reduceMul, Nat.reduceSub, intOf]
  refine ldA Tryz.underlying26 rfl hP5.blk (by rw [c26]; rfl) ?_
  have hE5 : Ext w w5 := (hN1.ext.trans' hE14).trans (hP5.below (Nat.le_refl _))
  have hB4 := hP5.keep hN4.blk (by omega)
  refine ⟨_, _, _, rfl, ⟨SlC.of_blk hB4 (by decide), fun p hp => ?_⟩, hE5⟩
  obtain rfl : p = _ := by simpa using hp
  exact ⟨(((SlN.of_addr hS2 (b := w.heap.size) (by omega)).ext (hE3.trans' hN4.ext)).put hP5).sl, (((SlN.of_addr hS3 (b := w.heap.size) (by omega)).ext hN4.ext).put hP5).sl⟩

/-! ### awake, plainly -/
theorem comPP_nonneg (n : Int) (a b : List UInt8) : 0 ≤ (comPP n a b).1 := by
  unfold comPP
  split
  · exact Int.natCast_nonneg _
  · exact Int.le_refl _
theorem one_ok (n : Int) (key : List UInt8) (p : PR) (hn : widB n = true) (hk : key.length ≤ 64) (h1 : p.k.length ≤ 64) (h2 : p.v.length ≤ 256) : RootE n key [] [p] 0 := by
  have hw := (widB_iff n).1 hn
  refine RootE.mk n key [] [p] hn hk (fun s hs => by cases hs) ⟨by simp; omega, fun i s hs => by simp at hs⟩ ?_
  intro i a ha
  have hi : i = 0 := by
    have := (List.getElem?_eq_some_iff.1 ha).1
    simp at this
    exact this
  subst hi
  obtain rfl : p = a := by simpa using ha
  refine ⟨h1, h2, fun q h => by omega, fun q hq => ?_, comPP_nonneg _ _ _⟩
  obtain rfl : p = q := by simpa using hq
  rfl
theorem cutP_cut (n : Nat) (hn : n ≤ 32) (l : List UInt8) (hl : l.length = 32) : cutP n (cutP n l) = cutP n l := by
  unfold cutP
  rw [List.take_append_of_le_length (by rw [List.length_take]; omega), List.take_take, Nat.min_self]
theorem form_sumR (n : Int) (xs : List UInt8) (hn : widB n = true) : formB n (sumR n xs) = true := by
  have hw := (widB_iff n).1 hn
  unfold formB sumR
  rw [hn, if_pos rfl]
  simp only [Bool.true_and, decide_eq_true_eq]
  exact cutP_cut _ (by omega) _ (shaP_len _)
theorem outD_one (n : Int) (key : List UInt8) (p : PR) : outD 0 n key [] [p] = sumR n (bucketP [p.dat]) := rfl
theorem steps_nil (w : World) : StepsAt w (.slice none 0 0) [] := ⟨⟨none, 0, rfl, Nat.le_refl _, by decide, Or.inl rfl⟩, fun s h => by cases h⟩

theorem awake_ok (w : World) (hW : WordsAt w 1) :
    CallK Tryz.prog 6 [].toArray w fun v w' => v = .bool true ∧ Ext w w' := by
  have hw2 : widB 2 = true := rfl
  have hsR : sumR 2 (bucketP [([97], [49])]) = sumP 2 (bucketP [([97], [49])]) := by unfold sumR; rw [if_pos hw2]; rfl
  have hbl : (bucketP [([97], [49])]).length + 200 ≤ 140737488355328 := by
    have h := bucketP_le [(([97] : List UInt8), ([49] : List UInt8))] (by simp) (by simp)
    have h1 := pairsB_le [(([97] : List UInt8), ([49] : List UInt8))] (by simp)
    have u1 := uvarP_len10 (n := 1) (by omega)
    simp only [bucketP, List.length_cons, List.length_append, List.length_nil, Nat.zero_add] at h1 ⊢
    omega
  have hfm : formB 2 (sumP 2 (bucketP [([97], [49])])) = true := by rw [← hsR]; exact form_sumR 2 _ hw2
  have hRl : (sumP 2 (bucketP [([97], [49])])).length = 32 := sumP_len _ _ (by decide)
  refine enterT Tryz.func6 rfl Tryz.ntmps6 Tryz.results6 rfl (by decide) ?_
  simp only [↓VD, VP, VT, isAggD, reduceCtorEq, Int.reduceEq, Int.reduceNe, Int.reduceLT, Int.reduceLE, implies_true, Nat.reduceEqDiff, reduceIte, ite_true, ite_false, eq_self, Nat.reduceLT, Nat.reduceLeDiff, Nat.reduceAdd, Nat.reduceMul, Nat.reduceSub, intOf]
  refine (lbucket_ok _ _ [97] [49] rfl rfl (by decide) (by decide) w).mono ?_
  rintro _ w1 ⟨pv, kv, vv, rfl, hp1, hE1⟩
  have hps : ∀ {W : World}, Ext w1 W → PairsAt W pv [⟨kv, vv, [97], [49]⟩] := fun h => hp1.ext h
  obtain ⟨pa, pc, hpe⟩ := slv_of hp1.1
  simp only [List.length_cons, List.length_nil, Nat.zero_add] at hpe
  subst hpe
  simp only [↓VD, VP, VT, isAggD, reduceCtorEq, Int.reduceEq, Int.reduceNe, Int.reduceLT, Int.reduceLE, implies_true, Nat.reduceEqDiff, reduceIte, ite_true, ite_false, eq_self, Nat.reduceLT, Nat.reduceLeDiff, Nat.reduceAdd, Nat.reduceMul, Nat.reduceSub, intOf]
  intro w2 hN2
  have s1 := hE1.size
  have s2 := hN2.size
  refine stAll hN2.blk (vs := [.slice none 0 0, .slice pa 1 pc]) rfl (by rw [c26]; decide) (by rw [c26]; rfl) (by rw [c26]; rfl) (by simp [oneCellV]) (fun w3 hP3 => ?_)
  have hE3 : Ext w1 w3 := hN2.ext.trans (hP3.below (Nat.le_refl _))
  have hB1 := hP3.blk
  have s3 := hP3.size
  generalize w1.heap.size = b1 at *
  simp only [↓VD, VP, VT, isAggD, reduceCtorEq, Int.reduceEq, Int.reduceNe, Int.reduceLT, Int.reduceLE, implies_true, Nat.reduceEqDiff, reduceIte, ite_true, ite_false, eq_self, Nat.reduceLT, Nat.reduceLeDiff, Nat.reduceAdd, Nat.reduceMul, Nat.reduceSub, intOf]
  refine ⟨rfl, rfl, fun w4 hN4 => ?_⟩
  have s4 := hN4.size
  refine convM (xs := [97]) hN4.blk rfl (by decide) (by decide) (fun w5 hS5 hK5 => ?_)
  have hE5 : Ext w3 w5 := hN4.ext.trans (hK5.below (Nat.le_refl _) (by omega))
  generalize w3.heap.size = b11 at *
  simp only [↓VD, VP, VT, isAggD, reduceCtorEq, Int.reduceEq, Int.reduceNe, Int.reduceLT, Int.reduceLE, implies_true, Nat.reduceEqDiff, reduceIte, ite_true, ite_false, eq_self, Nat.reduceLT, Nat.reduceLeDiff, Nat.reduceAdd, Nat.reduceMul, Nat.reduceSub, intOf]
  refine ldA Tryz.underlying26 rfl (hB1.ext hE5) (by rw [c26]; rfl) ?_
  simp only [↓VD, VP, VT, isAggD, reduceCtorEq, Int.reduceEq, Int.reduceNe, Int.reduceLT, Int.reduceLE, implies_true, Nat.reduceEqDiff, reduceIte, ite_true, ite_false, eq_self, Nat.reduceLT, Nat.reduceLeDiff, Nat.reduceAdd, Nat.reduceMul, Nat.reduceSub, intOf]
  have hE5' : Ext w w5 := hE1.trans' (hE3.trans' hE5)
  refine (RootOf_ok 2 [97] _ _ _ [] [⟨kv, vv, [97], [49]⟩] w5 (hW.ext hE5') hS5 (by decide) (steps_nil _) (hps (hE3.trans' hE5)) (by simp) (by simp)).mono ?_
  rintro _ w6 ⟨e, v, rfl, hR, hO, hE6⟩
  obtain rfl : e = 0 := hR.uniq (one_ok 2 [97] ⟨kv, vv, [97], [49]⟩ hw2 (by decide) (by show ([97] : List UInt8).length ≤ 64; decide) (by show ([49] : List UInt8).length ≤ 256; decide))
  have hv0 : outV 0 [97] [⟨kv, vv, [97], [49]⟩] = [49] := by simp [outV, valOf]
  have ht0 : outT 0 [97] [⟨kv, vv, [97], [49]⟩] = true := by simp [outT, valOf]
  rw [outD_one, show PR.dat ⟨kv, vv, [97], [49]⟩ = ([97], [49]) from rfl, hsR, ht0]
  rw [hv0] at hO
  generalize hRR : sumP 2 (bucketP [([97], [49])]) = R at *
  simp only [↓VD, VP, VT, isAggD, reduceCtorEq, Int.reduceEq, Int.reduceNe, Int.reduceLT, Int.reduceLE, implies_true, Nat.reduceEqDiff, reduceIte, ite_true, ite_false, eq_self, Nat.reduceLT, Nat.reduceLeDiff, Nat.reduceAdd, Nat.reduceMul, Nat.reduceSub, intOf]
  intro w7 hN7
  have s6 := hE6.size
  have s7 := hN7.size
  refine stAll hN7.blk rfl (by rw [c28]; decide) (by rw [c28, vbs_len, hRl]) (by rw [c28]; simp) (vbs_one _) (fun w8 hP8 => ?_)
  have hE8 : Ext w6 w8 := hN7.ext.trans (hP8.below (Nat.le_refl _))
  have hB2 := hP8.blk
  have hO8 := hO.ext hE8
  have hE38 : Ext w3 w8 := hE5.trans' (hE6.trans' hE8)
  replace hB1 := hB1.ext hE38
  generalize w6.heap.size = b2 at *
  simp only [↓VQ, VP, VT, isAggD, reduceCtorEq, Int.reduceEq, Int.reduceNe, Int.reduceLT, Int.reduceLE, implies_true, Nat.reduceEqDiff, reduceIte, ite_true, ite_false, eq_self, Nat.reduceLT, Nat.reduceLeDiff, Nat.reduceAdd, Nat.reduceMul, Nat.reduceSub, intOf]
  rw [v_seq]
  have hbuc : ∀ W, Ext w1 W → CallK Tryz.prog 20 [.int .i64 2, .slice pa 1 pc].toArray W fun v w' => v = .agg (vbs R).toArray ∧ Ext W w' := by
    intro W hE
    have h := RBucket_ok 2 (by decide) (.slice pa 1 pc) [⟨kv, vv, [97], [49]⟩] W (hps hE) hbl
    rwa [show ([⟨kv, vv, [97], [49]⟩] : List PR).map PR.dat = [([97], [49])] from rfl, hRR] at h
  have hchk : ∀ (u : Value) W, Ext w1 W → SlB W u [98] → CallK Tryz.prog 12 [.int .i64 2, .agg (vbs R).toArray, u, .agg [.slice none 0 0, .slice pa 1 pc].toArray].toArray W fun r w' => (∃ a c, r = .tuple [.slice a 0 c, .bool false, .int .i64 0].toArray) ∧ Ext W w' := by
    intro u W hE hu
    refine (Check_ok 2 R [98] hRl u _ _ [] [⟨kv, vv, [97], [49]⟩] W (hW.ext (hE1.trans' hE)) hu (by decide) (steps_nil _) (hps hE) (by simp) (by simp)).mono ?_
    rintro _ w' ⟨e, f, v', rfl, hR', hf, hO', hE'⟩
    obtain rfl : e = 0 := hR'.uniq (one_ok 2 [98] ⟨kv, vv, [97], [49]⟩ hw2 (by decide) (by show ([97] : List UInt8).length ≤ 64; decide) (by show ([49] : List UInt8).length ≤ 256; decide))
    rw [outD_one, show PR.dat ⟨kv, vv, [97], [49]⟩ = ([97], [49]) from rfl, hsR] at hf
    have hf0 : f = 0 := by rw [hf]; simp [checkE, hfm]
    subst hf0
    have hv1 : outV 0 [98] [⟨kv, vv, [97], [49]⟩] = [] := by simp [outV, valOf]
    have ht1 : outT 0 [98] [⟨kv, vv, [97], [49]⟩] = false := by simp [outT, valOf]
    rw [hv1] at hO'
    obtain ⟨a, c, rfl⟩ := own_slice hO'
    exact ⟨⟨a, c, by rw [ht1]; rfl⟩, hE'⟩
  refine joinT (fun s' W' => Ext w8 W' ∧ s' 1 = .pointer (some ⟨b1, 0, none⟩) ∧ s' 2 = .pointer (some ⟨b2, 0, none⟩) ∧ s' 3 = v ∧ s' 4 = .bool true ∧ s' 5 = .int .i64 0 ∧ (∃ a c, s' 6 = .slice a 0 c) ∧ s' 7 = .bool false ∧ s' 8 = .int .i64 0) ?_ ?_
  · simp only [↓VD, VP, VT, isAggD, reduceCtorEq, Int.reduceEq, Int.reduceNe, Int.reduceLT, Int.reduceLE, implies_true, Nat.reduceEqDiff, reduceIte, ite_true, ite_false, eq_self, Nat.reduceLT, Nat.reduceLeDiff, Nat.reduceAdd, Nat.reduceMul, Nat.reduceSub, intOf]
    refine drawO (fun W' => Blk W' b1 26 [.slice none 0 0, .slice pa 1 pc]) (Ord.pre [0, 1, 5] (.two 2 3 (Ord.of [3, 4, 6, 7, 8, 9, 10, 11, 12, 13]) (Ord.pre [] (.two 2 4 (Ord.of [4, 6, 7, 8, 9, 10, 11, 12, 13]) (Ord.of [2, 6, 7, 8, 9, 10, 11, 12, 13]))))) mixed (by decide +kernel) (fun w9 hE9 hh => ⟨hB1.ext hE9, ?_⟩)
    simp only [↓VD, VP, VT, isAggD, reduceCtorEq, Int.reduceEq, Int.reduceNe, Int.reduceLT, Int.reduceLE, implies_true, Nat.reduceEqDiff, reduceIte, ite_true, ite_false, eq_self, Nat.reduceLT, Nat.reduceLeDiff, Nat.reduceAdd, Nat.reduceMul, Nat.reduceSub, intOf]
    refine loadS_of _ (fun w' h => ldAt (pre := [.slice none 0 0]) (post := []) Tryz.underlying24 rfl h rfl rfl) ?_
    simp only [↓VD, VP, VT, isAggD, reduceCtorEq, Int.reduceEq, Int.reduceNe, Int.reduceLT, Int.reduceLE, implies_true, Nat.reduceEqDiff, reduceIte, ite_true, ite_false, eq_self, Nat.reduceLT, Nat.reduceLeDiff, Nat.reduceAdd, Nat.reduceMul, Nat.reduceSub, intOf]
    refine loadS_of _ (fun w' h => ldA Tryz.underlying26 rfl h (by rw [c26]; rfl) rfl) ?_
    simp only [↓VD, VP, VT, isAggD, reduceCtorEq, Int.reduceEq, Int.reduceNe, Int.reduceLT, Int.reduceLE, implies_true, Nat.reduceEqDiff, reduceIte, ite_true, ite_false, eq_self, Nat.reduceLT, Nat.reduceLeDiff, Nat.reduceAdd, Nat.reduceMul, Nat.reduceSub, intOf]
    have hE9' : Ext w1 w9 := hE3.trans' (hE38.trans' hE9)
    have hB19 := hB1.ext hE9
    refine ⟨?_, ?_⟩
    · refine (hbuc w9 hE9').mono ?_
      rintro _ w10 ⟨rfl, hE10⟩
      refine told (fun _ => True) (hB19.ext hE10) trivial ?_
      simp only [↓VD, VP, VT, isAggD, reduceCtorEq, Int.reduceEq, Int.reduceNe, Int.reduceLT, Int.reduceLE, implies_true, Nat.reduceEqDiff, reduceIte, ite_true, ite_false, eq_self, Nat.reduceLT, Nat.reduceLeDiff, Nat.reduceAdd, Nat.reduceMul, Nat.reduceSub, intOf]
      refine ⟨rfl, rfl, fun w11 hN11 => ?_⟩
      have z9 := hE9.size
      have z10 := hE10.size
      have z11 := hN11.size
      refine told (fun _ => True) ((hB19.ext hE10).ext hN11.ext) trivial ?_
      simp only [↓VD, VP, VT, isAggD, reduceCtorEq, Int.reduceEq, Int.reduceNe, Int.reduceLT, Int.reduceLE, implies_true, Nat.reduceEqDiff, reduceIte, ite_true, ite_false, eq_self, Nat.reduceLT, Nat.reduceLeDiff, Nat.reduceAdd, Nat.reduceMul, Nat.reduceSub, intOf]
      refine convM (xs := [98]) hN11.blk rfl (by decide) (by decide) (fun w12 hS12 hK12 => ?_)
      have hE12 : Ext w10 w12 := hN11.ext.trans (hK12.below (Nat.le_refl _) (by omega))
      refine told (fun _ => True) ((hB19.ext hE10).ext hE12) trivial ?_
      simp only [↓VD, VP, VT, isAggD, reduceCtorEq, Int.reduceEq, Int.reduceNe, Int.reduceLT, Int.reduceLE, implies_true, Nat.reduceEqDiff, reduceIte, ite_true, ite_false, eq_self, Nat.reduceLT, Nat.reduceLeDiff, Nat.reduceAdd, Nat.reduceMul, Nat.reduceSub, intOf]
      refine (hchk _ w12 (hE9'.trans' (hE10.trans' hE12)) hS12).mono ?_
      rintro _ w13 ⟨⟨a6, c6, rfl⟩, hE13⟩
      refine told (fun _ => True) (((hB19.ext hE10).ext hE12).ext hE13) trivial ?_
      simp only [↓VD, VP, VT, isAggD, reduceCtorEq, Int.reduceEq, Int.reduceNe, Int.reduceLT, Int.reduceLE, implies_true, Nat.reduceEqDiff, reduceIte, ite_true, ite_false, eq_self, Nat.reduceLT, Nat.reduceLeDiff, Nat.reduceAdd, Nat.reduceMul, Nat.reduceSub, intOf]
      exact ⟨hE9.trans' (hE10.trans' (hE12.trans' hE13)), a6, c6, rfl⟩
    · refine ⟨rfl, rfl, fun w10 hN10 => ?_⟩
      have z9 := hE9.size
      have z10 := hN10.size
      refine told (fun _ => True) (hB19.ext hN10.ext) trivial ?_
      simp only [↓VD, VP, VT, isAggD, reduceCtorEq, Int.reduceEq, Int.reduceNe, Int.reduceLT, Int.reduceLE, implies_true, Nat.reduceEqDiff, reduceIte, ite_true, ite_false, eq_self, Nat.reduceLT, Nat.reduceLeDiff, Nat.reduceAdd, Nat.reduceMul, Nat.reduceSub, intOf]
      refine ⟨?_, ?_⟩
      · refine (hbuc w10 (hE9'.trans' hN10.ext)).mono ?_
        rintro _ w11 ⟨rfl, hE11⟩
        have z11 := hE11.size
        refine told (fun _ => True) ((hB19.ext hN10.ext).ext hE11) trivial ?_
        simp only [↓VD, VP, VT, isAggD, reduceCtorEq, Int.reduceEq, Int.reduceNe, Int.reduceLT, Int.reduceLE, implies_true, Nat.reduceEqDiff, reduceIte, ite_true, ite_false, eq_self, Nat.reduceLT, Nat.reduceLeDiff, Nat.reduceAdd, Nat.reduceMul, Nat.reduceSub, intOf]
        refine convM (xs := [98]) (hN10.blk.ext hE11) rfl (by decide) (by decide) (fun w12 hS12 hK12 => ?_)
        have hE12 : Ext w9 w12 := (hN10.ext.trans' hE11).trans (hK12.below (Nat.le_refl _) (by omega))
        refine told (fun _ => True) (hB19.ext hE12) trivial ?_
        simp only [↓VD, VP, VT, isAggD, reduceCtorEq, Int.reduceEq, Int.reduceNe, Int.reduceLT, Int.reduceLE, implies_true, Nat.reduceEqDiff, reduceIte, ite_true, ite_false, eq_self, Nat.reduceLT, Nat.reduceLeDiff, Nat.reduceAdd, Nat.reduceMul, Nat.reduceSub, intOf]
        refine (hchk _ w12 (hE9'.trans' hE12) hS12).mono ?_
        rintro _ w13 ⟨⟨a6, c6, rfl⟩, hE13⟩
        refine told (fun _ => True) ((hB19.ext hE12).ext hE13) trivial ?_
        simp only [↓VD, VP, VT, isAggD, reduceCtorEq, Int.reduceEq, Int.reduceNe, Int.reduceLT, Int.reduceLE, implies_true, Nat.reduceEqDiff, reduceIte, ite_true, ite_false, eq_self, Nat.reduceLT, Nat.reduceLeDiff, Nat.reduceAdd, Nat.reduceMul, Nat.reduceSub, intOf]
        exact ⟨hE9.trans' (hE12.trans' hE13), a6, c6, rfl⟩
      · refine convM (xs := [98]) hN10.blk rfl (by decide) (by decide) (fun w11 hS11 hK11 => ?_)
        have hE11 : Ext w9 w11 := hN10.ext.trans (hK11.below (Nat.le_refl _) (by omega))
        refine told (fun _ => True) (hB19.ext hE11) trivial ?_
        simp only [↓VD, VP, VT, isAggD, reduceCtorEq, Int.reduceEq, Int.reduceNe, Int.reduceLT, Int.reduceLE, implies_true, Nat.reduceEqDiff, reduceIte, ite_true, ite_false, eq_self, Nat.reduceLT, Nat.reduceLeDiff, Nat.reduceAdd, Nat.reduceMul, Nat.reduceSub, intOf]
        refine (hbuc w11 (hE9'.trans' hE11)).mono ?_
        rintro _ w12 ⟨rfl, hE12⟩
        refine told (fun _ => True) ((hB19.ext hE11).ext hE12) trivial ?_
        simp only [↓VD, VP, VT, isAggD, reduceCtorEq, Int.reduceEq, Int.reduceNe, Int.reduceLT, Int.reduceLE, implies_true, Nat.reduceEqDiff, reduceIte, ite_true, ite_false, eq_self, Nat.reduceLT, Nat.reduceLeDiff, Nat.reduceAdd, Nat.reduceMul, Nat.reduceSub, intOf]
        refine (hchk _ w12 (hE9'.trans' (hE11.trans' hE12)) (hS11.ext hE12)).mono ?_
        rintro _ w13 ⟨⟨a6, c6, rfl⟩, hE13⟩
        refine told (fun _ => True) (((hB19.ext hE11).ext hE12).ext hE13) trivial ?_
        simp only [↓VD, VP, VT, isAggD, reduceCtorEq, Int.reduceEq, Int.reduceNe, Int.reduceLT, Int.reduceLE, implies_true, Nat.reduceEqDiff, reduceIte, ite_true, ite_false, eq_self, Nat.reduceLT, Nat.reduceLeDiff, Nat.reduceAdd, Nat.reduceMul, Nat.reduceSub, intOf]
        exact ⟨hE9.trans' (hE11.trans' (hE12.trans' hE13)), a6, c6, rfl⟩
  · rintro s9 w9 ⟨hE9, g1, g2, g3, g4, g5, ⟨a6, c6, g6⟩, g7, g8⟩
    obtain ⟨av, cv, hve⟩ := slv_of (SlC.of_own hO8)
    subst hve
    have hS9 : SlB w9 (.slice av ([49] : List UInt8).length cv) [49] := (SlC.of_own hO8).ext hE9
    simp only [↓VD, VP, VT, isAggD, reduceCtorEq, Int.reduceEq, Int.reduceNe, Int.reduceLT, Int.reduceLE, implies_true, Nat.reduceEqDiff, reduceIte, ite_true, ite_false, eq_self, Nat.reduceLT, Nat.reduceLeDiff, Nat.reduceAdd, Nat.reduceMul, Nat.reduceSub, intOf, g1, g2, g3, g4, g5, g6, g7, g8]
    refine drawT mixed (by decide +kernel) ?_
    simp only [↓VD, VP, VT, isAggD, reduceCtorEq, Int.reduceEq, Int.reduceNe, Int.reduceLT, Int.reduceLE, implies_true, Nat.reduceEqDiff, reduceIte, ite_true, ite_false, eq_self, Nat.reduceLT, Nat.reduceLeDiff, Nat.reduceAdd, Nat.reduceMul, Nat.reduceSub, intOf, g1, g2, g3, g4, g5, g6, g7, g8]
    refine convSQ hS9 ?_
    simp only [↓VD, VP, VT, isAggD, reduceCtorEq, Int.reduceEq, Int.reduceNe, Int.reduceLT, Int.reduceLE, implies_true, Nat.reduceEqDiff, reduceIte, ite_true, ite_false, eq_self, Nat.reduceLT, Nat.reduceLeDiff, Nat.reduceAdd, Nat.reduceMul, Nat.reduceSub, intOf, g1, g2, g3, g4, g5, g6, g7, g8]
    refine ⟨_, _, rfl, rfl, ?_⟩
    simp only [↓VD, VP, VT, isAggD, reduceCtorEq, Int.reduceEq, Int.reduceNe, Int.reduceLT, Int.reduceLE, implies_true, Nat.reduceEqDiff, reduceIte, ite_true, ite_false, eq_self, Nat.reduceLT, Nat.reduceLeDiff, Nat.reduceAdd, Nat.reduceMul, Nat.reduceSub, intOf, g1, g2, g3, g4, g5, g6, g7, g8]
    refine ldA Tryz.underlying28 rfl (hB2.ext hE9) (by rw [vbs_len, hRl, c28]) ?_
    simp only [↓VD, VP, VT, isAggD, reduceCtorEq, Int.reduceEq, Int.reduceNe, Int.reduceLT, Int.reduceLE, implies_true, Nat.reduceEqDiff, reduceIte, ite_true, ite_false, eq_self, Nat.reduceLT, Nat.reduceLeDiff, Nat.reduceAdd, Nat.reduceMul, Nat.reduceSub, intOf, g1, g2, g3, g4, g5, g6, g7, g8]
    refine ldAt (pre := [.slice none 0 0]) (post := []) Tryz.underlying24 rfl (hB1.ext hE9) rfl ?_
    simp only [↓VD, VP, VT, isAggD, reduceCtorEq, Int.reduceEq, Int.reduceNe, Int.reduceLT, Int.reduceLE, implies_true, Nat.reduceEqDiff, reduceIte, ite_true, ite_false, eq_self, Nat.reduceLT, Nat.reduceLeDiff, Nat.reduceAdd, Nat.reduceMul, Nat.reduceSub, intOf, g1, g2, g3, g4, g5, g6, g7, g8]
    refine qcall _ (fun w' hw' => hbuc w' (hE3.trans' (hE38.trans' (hE9.trans' hw')))) ?_
    simp only [↓VD, VP, VT, isAggD, reduceCtorEq, Int.reduceEq, Int.reduceNe, Int.reduceLT, Int.reduceLE, implies_true, Nat.reduceEqDiff, reduceIte, ite_true, ite_false, eq_self, Nat.reduceLT, Nat.reduceLeDiff, Nat.reduceAdd, Nat.reduceMul, Nat.reduceSub, intOf, g1, g2, g3, g4, g5, g6, g7, g8]
    refine eqd_lit _ _ _ _ _ _ Tryz.underlying5 c5 hRl hRl ?_
    simp only [↓VD, VP, VT, isAggD, reduceCtorEq, Int.reduceEq, Int.reduceNe, Int.reduceLT, Int.reduceLE, implies_true, Nat.reduceEqDiff, reduceIte, ite_true, ite_false, eq_self, Nat.reduceLT, Nat.reduceLeDiff, Nat.reduceAdd, Nat.reduceMul, Nat.reduceSub, intOf, g1, g2, g3, g4, g5, g6, g7, g8]
    intro w10 hE10
    exact hE1.trans' (hE3.trans' (hE38.trans' (hE9.trans' hE10)))

end Go.Proofs.YticfalbgplifoaaGreatDoor
