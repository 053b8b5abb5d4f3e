/-
  The statements' helper inputs (package notarylaw16). Conditions: as stated in each theorem.
-/
import Derived.Test.YticfalbgplifoaaDoorInp
namespace Go.Proofs.YticfalbgplifoaaDoor
set_option maxRecDepth 100000
open Go Go.RowKit
set_option linter.unusedVariables false
set_option linter.unusedSimpArgs false

theorem Own.keepT {w w' : World} {b b' e e' sz sz' n n' : Nat} {v x : Value} {xs ys : List Value} (h : Own w b e sz v n xs) (g : Own w b' e' sz' x n' ys) (hT : e ≠ e') (k : w.grownBy w' x.ownBlock) : Own w' b e sz v n xs := by
  refine ⟨h.1, ?_⟩
  rcases h.2 with hn | ⟨j, cap, cur, rfl, hbg, hg, rest⟩
  · exact .inl hn
  · refine .inr ⟨j, cap, cur, rfl, hbg, ?_, rest⟩
    rw [k.block j (Array.getElem?_eq_some_iff.1 hg).1 ?_]
    · exact hg
    · rcases g.2 with ⟨rfl, _⟩ | ⟨j', cap', cur', rfl, _, hg', _⟩
      · simp [Value.ownBlock]
      · simp only [Value.ownBlock, ne_eq, Option.some.injEq]
        rintro rfl
        rw [hg] at hg'
        cases hg'
        exact hT rfl
theorem apL {w : World} {base b : Nat} {x : Value} {us : List BR} {p : BR} {K : Value → World → Prop} (hO : Own w base 22 1 x us.length (us.map (·.v))) (hb : base ≤ w.heap.size) (hB : Blk w b 22 [p.v]) (h1 : oneCellV p.v = true) (hsz : us.length ≤ 1000000)
    (hK : ∀ v' w', Own w' base 22 1 v' (us ++ [p]).length ((us ++ [p]).map (·.v)) → w.grownBy w' x.ownBlock → Below base w w' → K v' w') : vcAppend Tryd.prog 41 x (.slice (some ⟨b, 0, none⟩) 1 1) w K := by
  refine apS (n := us.length) (m := 1) Tryd.underlying41 z22 c22 rfl (by decide) hO hb (SlC.of_blk hB (by decide)) rfl (by simpa using h1) (by omega) (by rw [by22]; omega) (fun v' w' hO' hg => ?_)
  refine hK v' w' ?_ hg (below_of_grown hO hb hg)
  simpa using hO'
theorem apD {w : World} {base : Nat} {x y : Value} {xs ys : List (List UInt8)} {K : Value → World → Prop} (hO : Own w base 28 32 x xs.length (xs.flatMap vbs)) (hb : base ≤ w.heap.size) (hy : DigsAt w y ys) (hsz : xs.length + ys.length ≤ 4000000000)
    (hK : ∀ v' w', Own w' base 28 32 v' (xs ++ ys).length ((xs ++ ys).flatMap vbs) → w.grownBy w' x.ownBlock → Below base w w' → K v' w') : vcAppend Tryd.prog 45 x y w K := by
  refine apS (n := xs.length) (m := ys.length) Tryd.underlying45 z28 c28 rfl (by decide) hO hb hy.2 (dvs_len ys hy.1) (dvs_one ys) (by omega) (by rw [by28]; omega) (fun v' w' hO' hg => ?_)
  refine hK v' w' ?_ hg (below_of_grown hO hb hg)
  simpa using hO'
theorem digs_sub {w : World} {a a' : Option Addr} {n c lo hi : Nat} {ds : List (List UInt8)} (h : DigsAt w (.slice a n c) ds) (h1 : lo ≤ hi) (h2 : hi ≤ ds.length) (hs : ∀ b o, a = some ⟨b, o, none⟩ → ∃ o', a' = some ⟨b, o', none⟩ ∧ ((lo : Int) < c → o' = o + lo * 32)) :
    DigsAt w (.slice a' (hi - lo) (c - lo)) ((ds.drop lo).take (hi - lo)) := by
  obtain ⟨hd, _, _, he, hnc, hcm, hc⟩ := h
  cases he
  have hl : ((ds.drop lo).take (hi - lo)).length = hi - lo := by rw [List.length_take, List.length_drop]; omega
  refine ⟨fun d hm => hd d (List.mem_of_mem_drop (List.mem_of_mem_take hm)), a', c - lo, by rw [hl], by omega, by omega, ?_⟩
  by_cases h0 : hi = lo
  · left
    rw [h0, Nat.sub_self, List.take_zero]
    rfl
  · rcases hc with hc | ⟨b, o, rfl, hc⟩
    · exfalso
      have := dvs_len ds hd
      rw [hc, List.length_nil] at this
      omega
    · obtain ⟨o', rfl, ho⟩ := hs b o rfl
      obtain rfl := ho (by omega)
      refine Or.inr ⟨b, o + lo * 32, rfl, fun j u hj => ?_⟩
      have e : ds.flatMap vbs = (ds.take lo).flatMap vbs ++ (((ds.drop lo).take (hi - lo)).flatMap vbs ++ ((ds.drop lo).drop (hi - lo)).flatMap vbs) := by
        rw [← List.flatMap_append, List.take_append_drop, ← List.flatMap_append, List.take_append_drop]
      have hll : ((ds.take lo).flatMap vbs).length = lo * 32 := by rw [dvs_len _ (fun d hm => hd d (List.mem_of_mem_take hm)), List.length_take, Nat.min_eq_left (by omega)]
      have := mid_get (pre := (ds.take lo).flatMap vbs) (post := ((ds.drop lo).drop (hi - lo)).flatMap vbs) hj
      rw [← e, hll] at this
      rw [Nat.add_assoc]
      exact hc _ _ this

theorem h_min (P : Program) (L : Prop) (S : World → Prop) (J : (World → Prop) → Value → World → Prop) (s : Fm) (w : World) (dst : Option Tmp) (ty : TypeId) (pos : String) (af : Array Edge) (g : Option (Nat × Bool)) (x y : Operand) (ts : Array TypeId) :
    runH P ⟨dst, .call ⟨.builtin .min, #[x, y], ts⟩, ty, pos, af, g⟩ s L S w J = (intV (ev s x) fun k a => intV (ev s y) fun _ b => Told L S w fun S' => J S' (.int k (if b < a then b else a)) w) := propext Iff.rfl
theorem inputs_ok (n : Int) (key : List UInt8) (kv sv pv : Value) (ss : List SR) (ps : List PR) (w : World) (hW : WordsAt w 1) (hA : AskAt w key ss ps kv sv pv) (hR : RootE n key ss ps 0) :
    CallK Tryd.prog 13 [.int .i64 n, kv, .agg [sv, pv].toArray].toArray w fun v w' => ∃ ls : List BR, LLAt w' v ls ∧ ls.length = inLen ss ps ∧ (∀ (i : Nat) (p : BR), ls[i]? = some p → p.b = inAt n (keyD n key) ss ps i) ∧ Ext w w' := by
  obtain ⟨hn, hkl, hq, hb, hp⟩ := hR.ok
  have hw := (widB_iff n).1 hn
  obtain ⟨hsz, hss, hrk⟩ := hR.sizes hA.pn
  obtain ⟨ak, ck, rfl⟩ := slv_of hA.kat
  have hst := hA.steps
  obtain ⟨⟨sa, cs, rfl, hsn, hsm, hsc⟩, hs2⟩ := hst
  obtain ⟨pa, cp, rfl⟩ := slv_of hA.pairs.1
  have hm64 : ss.length ≤ 64 := by have := hb.1; omega
  have hLm : inLen ss ps ≤ ss.length + 1 := by unfold inLen; split <;> omega
  have hL1 : 1 ≤ inLen ss ps := by
    unfold inLen
    split
    · rename_i h
      exact List.length_pos_iff.2 h.2
    · omega
  obtain ⟨L, hL⟩ : ∃ L, L = inLen ss ps := ⟨_, rfl⟩
  rw [← hL] at hLm hL1 ⊢
  have hld : ∀ {W : World} {j : Nat} {s : SR}, Ext w W → ss[j]? = some s → ∃ b o, sa = some ⟨b, o, none⟩ ∧ (∀ k u, (ss.flatMap SR.cells)[k]? = some u → W.cell? ⟨b, o + k, none⟩ = some u) := by
    intro W j s hE hs
    have hjl := (List.getElem?_eq_some_iff.1 hs).1
    rcases hsc with hsc | ⟨b, o, rfl, hsc⟩
    · exfalso
      cases ss with
      | nil => simp at hjl
      | cons d ds => simp [SR.cells] at hsc
    · exact ⟨b, o, rfl, fun k u hk => by rw [hE.cell (block_lt_of_cell (hsc k u hk))]; exact hsc k u hk⟩
  refine enterT Tryd.func13 rfl Tryd.ntmps13 Tryd.results13 rfl (by decide) ?_
  simp only [↓VD, VP, VT, isAggD, reduceCtorEq, Int.reduceEq, Int.reduceNe, Int.reduceLT, Int.reduceLE, implies_true, Nat.reduceEqDiff, reduceIte, ite_true, ite_false, eq_self, Nat.reduceLT, Nat.reduceLeDiff, Nat.reduceAdd, Nat.reduceMul, Nat.reduceSub, intOf]
  intro w1 hN1
  have hB5 := hN1.blk
  have hl1 : IntKind.i64.wrap ((ss.length : Int) - 1) = (ss.length : Int) - 1 := w64 (by omega) (by omega)
  refine ldAt (pre := []) (post := [.slice pa ps.length cp]) Tryd.underlying23 rfl hB5 rfl ?_
  simp only [↓VQ, VP, VT, isAggD, reduceCtorEq, Int.reduceEq, Int.reduceNe, Int.reduceLT, Int.reduceLE, implies_true, Nat.reduceEqDiff, reduceIte, ite_true, ite_false, eq_self, Nat.reduceLT, Nat.reduceLeDiff, Nat.reduceAdd, Nat.reduceMul, Nat.reduceSub, intOf, hl1]
  rw [v_seq]
  refine joinT (fun s' W => Ext w1 W ∧ s' 0 = .int .i64 n ∧ s' 1 = .slice ak key.length ck ∧ s' 5 = .pointer (some ⟨w.heap.size, 0, none⟩) ∧ s' 7 = .slice none 0 0 ∧ s' 9 = .int .i64 ((L : Int) - 2) ∧ Own W w.heap.size 5 1 (s' 8) (inAt n (keyD n key) ss ps (L - 1)).length (vbs (inAt n (keyD n key) ss ps (L - 1)))) ?_ ?_
  · simp only [↓VD, VP, VT, isAggD, reduceCtorEq, Int.reduceEq, Int.reduceNe, Int.reduceLT, Int.reduceLE, implies_true, Nat.reduceEqDiff, reduceIte, ite_true, ite_false, eq_self, Nat.reduceLT, Nat.reduceLeDiff, Nat.reduceAdd, Nat.reduceMul, Nat.reduceSub, intOf, hl1]
    refine ldAt (pre := [.slice sa ss.length cs]) (post := []) Tryd.underlying24 rfl hB5 rfl ?_
    by_cases hp0 : ps = []
    · have f1 : (0 < (ps.length : Int)) = False := eq_false (by subst hp0; simp)
      by_cases hs0 : ss = []
      · have f2 : ((ss.length : Int) - 1 < 0) = True := eq_true (by subst hs0; simp)
        simp only [↓VD, VP, VT, isAggD, reduceCtorEq, Int.reduceEq, Int.reduceNe, Int.reduceLT, Int.reduceLE, implies_true, Nat.reduceEqDiff, reduceIte, ite_true, ite_false, eq_self, Nat.reduceLT, Nat.reduceLeDiff, Nat.reduceAdd, Nat.reduceMul, Nat.reduceSub, intOf, hl1, f1, f2]
        have hin : inAt n (keyD n key) ss ps (L - 1) = [5] := by
          subst hp0 hs0
          unfold inAt
          rw [if_pos rfl, List.getElem?_nil]
        have hL2 : L = 1 := by rw [hL]; unfold inLen; rw [if_neg (fun h => h.2 hs0), hs0]; rfl
        rw [hin]
        refine ⟨rfl, rfl, fun w2 hN2 => ⟨hN2.ext, by subst hs0; simp; omega, Own.of_blk (e := 5) (l := vbs [5]) hN2.blk (by have := hN1.size; omega) rfl (by decide)⟩⟩
      · have hsl := List.length_pos_iff.2 hs0
        have f2 : ((ss.length : Int) - 1 < 0) = False := eq_false (by omega)
        have f3 : (ss.length : Int) - 1 = ((ss.length - 1 : Nat) : Int) := by omega
        have hL2 : L = ss.length := by rw [hL]; unfold inLen; rw [if_pos ⟨hp0, hs0⟩]
        obtain ⟨s, hs⟩ : ∃ s, ss[ss.length - 1]? = some s := ⟨_, List.getElem?_eq_getElem (by omega)⟩
        have hsm' := List.mem_of_getElem? hs
        obtain ⟨hbm, hdk⟩ := hs2 s hsm'
        have hnh : hasB s.bm (atP n (keyD n key) ((ss.length - 1 : Nat) : Int)).1 = false := by
          cases hh : hasB s.bm (atP n (keyD n key) ((ss.length - 1 : Nat) : Int)).1
          · rfl
          · exact absurd ⟨by omega, by rw [hp0]; rfl⟩ ((hb.2 _ s hs).2.1 hh).2
        obtain ⟨q1, q2, q3⟩ := step_facts hR hs
        have hkk : kidsOf n (keyD n key) (lev n (keyD n key) ss (up0 n (ps.map PR.dat)) (ss.length - 1 + 1)) (ss.length - 1) s = s.ks := by unfold kidsOf; rw [if_neg (by simp [hnh])]
        rw [hkk] at q1 q2
        have hin : inAt n (keyD n key) ss ps (L - 1) = branchP n.toNat s.bm s.ks := by
          unfold inAt
          rw [hL2, hs]
          simp only
          rw [hkk]
        rw [hin]
        simp only [↓VD, VP, VT, isAggD, reduceCtorEq, Int.reduceEq, Int.reduceNe, Int.reduceLT, Int.reduceLE, implies_true, Nat.reduceEqDiff, reduceIte, ite_true, ite_false, eq_self, Nat.reduceLT, Nat.reduceLeDiff, Nat.reduceAdd, Nat.reduceMul, Nat.reduceSub, intOf, hl1, f1, f2]
        refine drawH (fun W => Ext w1 W) [0, 1, 2, 3, 4, 5, 6, 7, 8, 9, 10, 11, 12, 13, 14, 15, 16, 17] mixed (by decide +kernel) (fun w2 hE2 hh => ⟨hE2, ?_⟩)
        obtain ⟨b, o, rfl, _⟩ := hld (W := w1) hN1.ext hs
        have hcW : ∀ {W : World}, Ext w1 W → ∀ k u, (ss.flatMap SR.cells)[k]? = some u → W.cell? ⟨b, o + k, none⟩ = some u := by
          intro W hE
          obtain ⟨b', o', he, hc⟩ := hld (W := W) (hN1.ext.trans' hE) hs
          cases he
          exact hc
        simp only [↓VD, VP, VT, isAggD, reduceCtorEq, Int.reduceEq, Int.reduceNe, Int.reduceLT, Int.reduceLE, implies_true, Nat.reduceEqDiff, reduceIte, ite_true, ite_false, eq_self, Nat.reduceLT, Nat.reduceLeDiff, Nat.reduceAdd, Nat.reduceMul, Nat.reduceSub, intOf, hl1, f1, f2, f3]
        refine loadS_of _ (fun w' h => ldAt (pre := []) (post := [.slice pa ps.length cp]) Tryd.underlying23 rfl (hB5.ext h) rfl rfl) ?_
        simp only [↓VD, VP, VT, isAggD, reduceCtorEq, Int.reduceEq, Int.reduceNe, Int.reduceLT, Int.reduceLE, implies_true, Nat.reduceEqDiff, reduceIte, ite_true, ite_false, eq_self, Nat.reduceLT, Nat.reduceLeDiff, Nat.reduceAdd, Nat.reduceMul, Nat.reduceSub, intOf, hl1, f1, f2, f3]
        refine ⟨by omega, by omega, loadS_of _ (fun w' h => ldF (f := SR.cells) (sz := 2) (j := 0) Tryd.underlying44 rfl (fun d h => rfl) (hcW h) hs rfl (by omega) rfl) ?_⟩
        simp only [↓VD, VP, VT, isAggD, reduceCtorEq, Int.reduceEq, Int.reduceNe, Int.reduceLT, Int.reduceLE, implies_true, Nat.reduceEqDiff, reduceIte, ite_true, ite_false, eq_self, Nat.reduceLT, Nat.reduceLeDiff, Nat.reduceAdd, Nat.reduceMul, Nat.reduceSub, intOf, hl1, f1, f2, f3]
        refine loadS_of _ (fun w' h => ldAt (pre := []) (post := [.slice pa ps.length cp]) Tryd.underlying23 rfl (hB5.ext h) rfl rfl) ?_
        simp only [↓VD, VP, VT, isAggD, reduceCtorEq, Int.reduceEq, Int.reduceNe, Int.reduceLT, Int.reduceLE, implies_true, Nat.reduceEqDiff, reduceIte, ite_true, ite_false, eq_self, Nat.reduceLT, Nat.reduceLeDiff, Nat.reduceAdd, Nat.reduceMul, Nat.reduceSub, intOf, hl1, f1, f2, f3]
        refine ⟨by omega, by omega, loadS_of _ (fun w' h => ldF (f := SR.cells) (sz := 2) (j := 1) Tryd.underlying45 rfl (fun d h => rfl) (hcW h) hs rfl (by omega) rfl) ?_⟩
        simp only [↓VD, VP, VT, isAggD, reduceCtorEq, Int.reduceEq, Int.reduceNe, Int.reduceLT, Int.reduceLE, implies_true, Nat.reduceEqDiff, reduceIte, ite_true, ite_false, eq_self, Nat.reduceLT, Nat.reduceLeDiff, Nat.reduceAdd, Nat.reduceMul, Nat.reduceSub, intOf, hl1, f1, f2, f3]
        refine (BranchInput_ok n s.bm hbm s.kv s.ks w2 ((hdk.ext hN1.ext).ext hE2) (by have := hss s hsm'; omega)).mono ?_
        rintro _ w3 ⟨a3, m3, c3, rfl, ho3, _, hE3⟩
        have ho3' := ho3 (brE_zero hn q1 q2 q3)
        refine told (fun _ => True) (hE2.trans' hE3) trivial ?_
        simp only [↓VD, VP, VT, isAggD, reduceCtorEq, Int.reduceEq, Int.reduceNe, Int.reduceLT, Int.reduceLE, implies_true, Nat.reduceEqDiff, reduceIte, ite_true, ite_false, eq_self, Nat.reduceLT, Nat.reduceLeDiff, Nat.reduceAdd, Nat.reduceMul, Nat.reduceSub, intOf, hl1, f1, f2, f3]
        refine ⟨hE2.trans' hE3, by rw [w64 (by omega) (by omega)]; omega, ho3'.base (by have := hN1.size; have := hE2.size; omega)⟩
    · have hpl := List.length_pos_iff.2 hp0
      have f1 : (0 < (ps.length : Int)) = True := eq_true (by omega)
      simp only [↓VD, VP, VT, isAggD, reduceCtorEq, Int.reduceEq, Int.reduceNe, Int.reduceLT, Int.reduceLE, implies_true, Nat.reduceEqDiff, reduceIte, ite_true, ite_false, eq_self, Nat.reduceLT, Nat.reduceLeDiff, Nat.reduceAdd, Nat.reduceMul, Nat.reduceSub, intOf, hl1, f1]
      refine ldAt (pre := [.slice sa ss.length cs]) (post := []) Tryd.underlying24 rfl hB5 rfl ?_
      simp only [↓VD, VP, VT, isAggD, reduceCtorEq, Int.reduceEq, Int.reduceNe, Int.reduceLT, Int.reduceLE, implies_true, Nat.reduceEqDiff, reduceIte, ite_true, ite_false, eq_self, Nat.reduceLT, Nat.reduceLeDiff, Nat.reduceAdd, Nat.reduceMul, Nat.reduceSub, intOf, hl1, f1]
      refine (BucketInput_ok _ ps w1 (hA.pairs.ext hN1.ext) hsz).mono ?_
      rintro v2 w2 ⟨hO2, hE2⟩
      simp only [↓VD, VP, VT, isAggD, reduceCtorEq, Int.reduceEq, Int.reduceNe, Int.reduceLT, Int.reduceLE, implies_true, Nat.reduceEqDiff, reduceIte, ite_true, ite_false, eq_self, Nat.reduceLT, Nat.reduceLeDiff, Nat.reduceAdd, Nat.reduceMul, Nat.reduceSub, intOf, hl1, f1]
      have hL2 : L = ss.length + 1 := by rw [hL]; unfold inLen; rw [if_neg (fun h => hp0 h.1)]
      have hin : inAt n (keyD n key) ss ps (L - 1) = bucketP (ps.map PR.dat) := by
        unfold inAt
        rw [hL2, Nat.add_sub_cancel, List.getElem?_eq_none (Nat.le_refl _)]
        simp only
        rw [if_neg hp0]
      rw [hin]
      exact ⟨hE2, by omega, hO2.base (by have := hN1.size; omega)⟩
  · rintro s2 w2 ⟨hE2, h0, h1, h5, h7, h9, hO2⟩
    obtain ⟨low, hlow⟩ : ∃ low, low = s2 8 := ⟨_, rfl⟩
    rw [← hlow] at hO2
    have h8 := hlow.symm
    obtain ⟨la8, lc8, hle8⟩ := own_slice hO2
    have z1 := hN1.size
    have z2 := hE2.size
    simp only [↓VD, VP, VT, isAggD, reduceCtorEq, Int.reduceEq, Int.reduceNe, Int.reduceLT, Int.reduceLE, implies_true, Nat.reduceEqDiff, reduceIte, ite_true, ite_false, eq_self, Nat.reduceLT, Nat.reduceLeDiff, Nat.reduceAdd, Nat.reduceMul, Nat.reduceSub, intOf, h0, h1, h5, h7, h9, h8]
    refine ⟨rfl, by rw [hle8]; rfl, fun w3 hN3 => ?_⟩
    have hBv : Blk w3 w2.heap.size 22 [low] := by
      have := hN3.blk
      rw [hle8] at this ⊢
      exact this
    have hO3 := hO2.ext hN3.ext
    refine apL (base := w1.heap.size) (us := []) (p := ⟨low, inAt n (keyD n key) ss ps (L - 1)⟩) (Own.nil _ _ _ _) (by have := hN3.size; omega) hBv (by rw [hle8]; rfl) (by simp) (fun v4 w4 hU4 hg4 hbel4 => ?_)
    have hO4 := hO3.keepT (Own.nil w3 w.heap.size 22 1) (by decide) hg4
    have hE14 : Ext w1 w4 := (hE2.trans' hN3.ext).trans (show Below w1.heap.size w3 w4 from ⟨hg4.os, hg4.tape, hg4.output, hg4.size, fun k hk => hg4.block k (by have := hN3.size; omega) (by simp [Value.ownBlock])⟩)
    simp only [↓VD, VP, VT, isAggD, reduceCtorEq, Int.reduceEq, Int.reduceNe, Int.reduceLT, Int.reduceLE, implies_true, Nat.reduceEqDiff, reduceIte, ite_true, ite_false, eq_self, Nat.reduceLT, Nat.reduceLeDiff, Nat.reduceAdd, Nat.reduceMul, Nat.reduceSub, intOf, h0, h1, h5, h7, h9, h8]
    refine loopJ 1 (fun s' W => Ext w1 W ∧ ∃ us : List BR, us.length = L ∧ (∀ (i : Nat) (p : BR), us[i]? = some p → p.b = inAt n (keyD n key) ss ps (L - 1 - i) ∧ SlB W p.v p.b) ∧ SlC W (s' 7) us.length (us.map (·.v)) ∧ L ≤ 65)
      (fun s' W => Ext w1 W ∧ ∃ us : List BR, 1 ≤ us.length ∧ us.length ≤ L ∧ (∀ (i : Nat) (p : BR), us[i]? = some p → p.b = inAt n (keyD n key) ss ps (L - 1 - i) ∧ Own W w.heap.size 5 1 p.v p.b.length (vbs p.b)) ∧ Own W w1.heap.size 22 1 (s' 7) us.length (us.map (·.v)) ∧
        s' 0 = .int .i64 n ∧ s' 1 = .slice ak key.length ck ∧ s' 5 = .pointer (some ⟨w.heap.size, 0, none⟩) ∧ s' 9 = .int .i64 ((L : Int) - 1 - us.length) ∧ Own W w.heap.size 5 1 (s' 8) (inAt n (keyD n key) ss ps (L - us.length)).length (vbs (inAt n (keyD n key) ss ps (L - us.length))))
      (fun s' _ => (intOf (s' 9) + 1).toNat) ?_ ?_ ?_
    · simp only [↓VD, VP, VT, isAggD, reduceCtorEq, Int.reduceEq, Int.reduceNe, Int.reduceLT, Int.reduceLE, implies_true, Nat.reduceEqDiff, reduceIte, ite_true, ite_false, eq_self, Nat.reduceLT, Nat.reduceLeDiff, Nat.reduceAdd, Nat.reduceMul, Nat.reduceSub, intOf, h0, h1, h5, h7, h9, h8]
      refine ⟨hE14, [⟨low, inAt n (keyD n key) ss ps (L - 1)⟩], Nat.le_refl _, hL1, fun i p hp => ?_, hU4, by simp; omega, hO4⟩
      obtain rfl : i = 0 := by
        have := (List.getElem?_eq_some_iff.1 hp).1
        simp at this
        exact this
      simp only [List.getElem?_cons_zero, Option.some.injEq] at hp
      subst hp
      exact ⟨rfl, hO4⟩
    · rintro s5 w5 ⟨hE5, us, hul, hus, hU5, hL65⟩
      obtain ⟨ua, uc, hue⟩ := slv_of hU5
      simp only [↓VD, VP, VT, isAggD, reduceCtorEq, Int.reduceEq, Int.reduceNe, Int.reduceLT, Int.reduceLE, implies_true, Nat.reduceEqDiff, reduceIte, ite_true, ite_false, eq_self, Nat.reduceLT, Nat.reduceLeDiff, Nat.reduceAdd, Nat.reduceMul, Nat.reduceSub, intOf, hue]
      have hl2 : IntKind.i64.wrap ((us.length : Int) - 1) = (us.length : Int) - 1 := w64 (by omega) (by omega)
      rw [hue] at hU5
      obtain ⟨_, _, hux, hun, hum, huc⟩ := hU5
      cases hux
      refine loopT (fun s' W => Ext w5 W ∧ ∃ ls : List BR, ls.length ≤ L ∧ (∀ (i : Nat) (p : BR), ls[i]? = some p → us[L - 1 - i]? = some p) ∧ Own W w5.heap.size 22 1 (s' 15) ls.length (ls.map (·.v)) ∧ s' 7 = .slice ua us.length uc ∧ s' 16 = .int .i64 ((L : Int) - 1 - ls.length)) (fun s' _ => (intOf (s' 16) + 1).toNat) ?_ ?_
      · simp only [↓VD, VP, VT, isAggD, reduceCtorEq, Int.reduceEq, Int.reduceNe, Int.reduceLT, Int.reduceLE, implies_true, Nat.reduceEqDiff, reduceIte, ite_true, ite_false, eq_self, Nat.reduceLT, Nat.reduceLeDiff, Nat.reduceAdd, Nat.reduceMul, Nat.reduceSub, intOf, hue, hl2]
        exact ⟨Ext.rfl' _, [], Nat.zero_le _, fun i p hp => by simp at hp, Own.nil _ _ _ _, by simp; omega⟩
      · rintro s6 w6 ⟨hE6, ls, hll, hls, hO6, k7, k16⟩
        obtain ⟨dn, hdn⟩ : ∃ dn, dn = s6 15 := ⟨_, rfl⟩
        rw [← hdn] at hO6
        have k15 := hdn.symm
        have z6 := hE6.size
        simp only [↓VD, VP, VT, isAggD, reduceCtorEq, Int.reduceEq, Int.reduceNe, Int.reduceLT, Int.reduceLE, implies_true, Nat.reduceEqDiff, reduceIte, ite_true, ite_false, eq_self, Nat.reduceLT, Nat.reduceLeDiff, Nat.reduceAdd, Nat.reduceMul, Nat.reduceSub, intOf, k7, k15, k16]
        refine ⟨fun hge => ?_, fun hlt => ?_⟩
        · obtain ⟨ix, hix⟩ : ∃ ix, L = ls.length + 1 + ix := ⟨L - ls.length - 1, by omega⟩
          have e5 : (L : Int) - 1 - (ls.length : Int) = ((ix : Nat) : Int) := by omega
          rw [e5] at k16
          obtain ⟨p, hp⟩ : ∃ p, us[ix]? = some p := ⟨_, List.getElem?_eq_getElem (by omega)⟩
          obtain ⟨ap, cp', hpv⟩ := slv_of (hus ix p hp).2
          rcases huc with huc | ⟨b, o, rfl, huc⟩
          · exfalso
            have := congrArg List.length huc
            rw [List.length_map, List.length_nil] at this
            omega
          have hcell := huc ix p.v (by simp [hp])
          simp only [↓VD, VP, VT, isAggD, reduceCtorEq, Int.reduceEq, Int.reduceNe, Int.reduceLT, Int.reduceLE, implies_true, Nat.reduceEqDiff, reduceIte, ite_true, ite_false, eq_self, Nat.reduceLT, Nat.reduceLeDiff, Nat.reduceAdd, Nat.reduceMul, Nat.reduceSub, intOf, k7, k15, k16, e5]
          refine ⟨by omega, by omega, ld1 Tryd.underlying22 rfl (by rw [hE6.cell (block_lt_of_cell hcell)]; exact hcell) ?_⟩
          rw [hpv]
          simp only [↓VD, VP, VT, isAggD, reduceCtorEq, Int.reduceEq, Int.reduceNe, Int.reduceLT, Int.reduceLE, implies_true, Nat.reduceEqDiff, reduceIte, ite_true, ite_false, eq_self, Nat.reduceLT, Nat.reduceLeDiff, Nat.reduceAdd, Nat.reduceMul, Nat.reduceSub, intOf, k7, k15, k16, e5]
          refine ⟨rfl, rfl, fun w7 hN7 => ?_⟩
          refine apL (us := ls) (p := p) (hO6.ext hN7.ext) (by have := hN7.size; omega) (by rw [hpv]; exact hN7.blk) (by rw [hpv]; rfl) (by omega) (fun v8 w8 hO8 _ hbel8 => ?_)
          simp only [↓VD, VP, VT, isAggD, reduceCtorEq, Int.reduceEq, Int.reduceNe, Int.reduceLT, Int.reduceLE, implies_true, Nat.reduceEqDiff, reduceIte, ite_true, ite_false, eq_self, Nat.reduceLT, Nat.reduceLeDiff, Nat.reduceAdd, Nat.reduceMul, Nat.reduceSub, intOf, k7, k15, k16, e5]
          refine ⟨⟨(hE6.trans' hN7.ext).trans hbel8, ls ++ [p], by simp; omega, fun i q hq => ?_, hO8, ?_⟩, ?_⟩
          · by_cases hi : i < ls.length
            · rw [List.getElem?_append_left hi] at hq
              exact hls i q hq
            · have hil := (List.getElem?_eq_some_iff.1 hq).1
              simp only [List.length_append, List.length_cons, List.length_nil] at hil
              obtain rfl : i = ls.length := by omega
              rw [List.getElem?_append_right (Nat.le_refl _), Nat.sub_self] at hq
              simp only [List.getElem?_cons_zero, Option.some.injEq] at hq
              subst hq
              rw [show L - 1 - ls.length = ix from by omega]
              exact hp
          · rw [w64 (by omega) (by omega)]
            simp only [List.length_append, List.length_cons, List.length_nil]
            omega
          · rw [w64 (by omega) (by omega)]
            omega
        · have hlL : ls.length = L := by omega
          refine ⟨ls, ⟨SlC.of_own hO6, fun p hp => ?_⟩, hlL, fun i p hp => ?_, (hN1.ext.trans' hE5).trans' hE6⟩
          · obtain ⟨i, hi⟩ := List.getElem?_of_mem hp
            exact (hus _ p (hls i p hi)).2.ext hE6
          · have hil := (List.getElem?_eq_some_iff.1 hp).1
            have := (hus _ p (hls i p hp)).1
            rwa [show L - 1 - (L - 1 - i) = i from by omega] at this
    · rintro s5 w5 ⟨hE5, us, hu1, hul, hus, hU5, g0, g1, g5, g9, hO5⟩
      have hE5' := hN1.ext.trans' hE5
      obtain ⟨up, hup⟩ : ∃ up, up = s5 7 := ⟨_, rfl⟩
      rw [← hup] at hU5
      have g7 := hup.symm
      obtain ⟨low5, hlow5⟩ : ∃ low, low = s5 8 := ⟨_, rfl⟩
      rw [← hlow5] at hO5
      have g8 := hlow5.symm
      obtain ⟨la, lc, hle⟩ := own_slice hO5
      have hB55 := hB5.ext hE5
      have z5 := hE5.size
      have y5 := hB55.lt
      simp only [↓VD, VP, VT, isAggD, reduceCtorEq, Int.reduceEq, Int.reduceNe, Int.reduceLT, Int.reduceLE, implies_true, Nat.reduceEqDiff, reduceIte, ite_true, ite_false, eq_self, Nat.reduceLT, Nat.reduceLeDiff, Nat.reduceAdd, Nat.reduceMul, Nat.reduceSub, intOf, g0, g1, g5, g7, g8, g9]
      refine ⟨fun hge => ?_, fun hlt => ?_⟩
      · have hcl : us.length < L := by omega
        obtain ⟨jj, hjj⟩ : ∃ jj, L = us.length + 1 + jj := ⟨L - us.length - 1, by omega⟩
        obtain ⟨s, hs, hh⟩ := has_of hR (show jj + 1 < inLen ss ps by omega)
        have hsm' := List.mem_of_getElem? hs
        have hjl := (List.getElem?_eq_some_iff.1 hs).1
        obtain ⟨hbm, hdk⟩ := hs2 s hsm'
        obtain ⟨q1, q2, q3⟩ := step_facts hR hs
        have hkk : kidsOf n (keyD n key) (lev n (keyD n key) ss (up0 n (ps.map PR.dat)) (jj + 1)) jj s = insP s.ks (rankB s.bm (atP n (keyD n key) jj).1) (lev n (keyD n key) ss (up0 n (ps.map PR.dat)) (jj + 1)) := by unfold kidsOf; rw [if_pos hh]
        have hrl : rankB s.bm (atP n (keyD n key) jj).1 ≤ s.ks.length := hrk jj s hs hh
        have hdig := inAt_dig hR (show jj + 1 < inLen ss ps by omega)
        have hinj : inAt n (keyD n key) ss ps jj = branchP n.toNat s.bm (insP s.ks (rankB s.bm (atP n (keyD n key) jj).1) (lev n (keyD n key) ss (up0 n (ps.map PR.dat)) (jj + 1))) := by
          unfold inAt
          rw [hs]
          simp only
          rw [hkk]
        rw [hkk] at q1 q2
        rw [show L - us.length = jj + 1 from by omega] at hO5
        have hlev := lev_len n (keyD n key) ss (ps.map PR.dat) (jj + 1)
        generalize hdd : lev n (keyD n key) ss (up0 n (ps.map PR.dat)) (jj + 1) = dd at *
        have hat : (L : Int) - 1 - (us.length : Int) = ((jj : Nat) : Int) := by omega
        rw [hat] at g9
        generalize hrr : rankB s.bm (atP n (keyD n key) jj).1 = r at *
        obtain ⟨kvv, bm, ks⟩ := s
        simp only at hbm hdk hh hrr hrl hinj q1 q2 q3
        obtain ⟨ka, kc, hke⟩ := slv_of hdk.2
        subst hke
        have hkn : ks.length ≤ 16 := by
          rw [ins_len] at q2
          have := cnt_le bm
          omega
        refine ⟨rfl, by rw [hle]; rfl, fun w6 hN6 => ?_⟩
        have hN6' : NewB w5 w6 22 [low5] := by
          rw [hle] at hN6 ⊢
          exact hN6
        refine (sum1 n low5 (inAt n (keyD n key) ss ps (jj + 1)) w5 w6 (hW.ext hE5') (SlC.of_own hO5) hN6' (by obtain ⟨_, _, _, h1, h2, _⟩ := SlC.of_own hO5; omega)).mono ?_
        rintro _ w7 ⟨rfl, hE7⟩
        rw [← hdig]
        have z7 := hE7.size
        simp only [↓VD, VP, VT, isAggD, reduceCtorEq, Int.reduceEq, Int.reduceNe, Int.reduceLT, Int.reduceLE, implies_true, Nat.reduceEqDiff, reduceIte, ite_true, ite_false, eq_self, Nat.reduceLT, Nat.reduceLeDiff, Nat.reduceAdd, Nat.reduceMul, Nat.reduceSub, intOf, g0, g1, g5, g7, g8, g9]
        intro w8 hN8
        refine stAll hN8.blk rfl (by rw [c28]; decide) (by rw [c28, vbs_len, hlev]) (by rw [c28]; simp) (vbs_one _) (fun w9 hP9 => ?_)
        have z8 := hN8.size
        have z9 := hP9.size
        have hE59 : Ext w5 w9 := hE7.trans' (hN8.ext.trans (hP9.below (Nat.le_refl _)))
        have hB10 := hP9.blk
        generalize w7.heap.size = b10 at *
        simp only [↓VD, VP, VT, isAggD, reduceCtorEq, Int.reduceEq, Int.reduceNe, Int.reduceLT, Int.reduceLE, implies_true, Nat.reduceEqDiff, reduceIte, ite_true, ite_false, eq_self, Nat.reduceLT, Nat.reduceLeDiff, Nat.reduceAdd, Nat.reduceMul, Nat.reduceSub, intOf, g0, g1, g5, g7, g8, g9]
        refine ldAt (pre := []) (post := [.slice pa ps.length cp]) Tryd.underlying23 rfl (hB55.ext hE59) rfl ?_
        obtain ⟨b, o, rfl, hcW⟩ := hld (W := w9) (hE5'.trans' hE59) hs
        simp only [↓VD, VP, VT, isAggD, reduceCtorEq, Int.reduceEq, Int.reduceNe, Int.reduceLT, Int.reduceLE, implies_true, Nat.reduceEqDiff, reduceIte, ite_true, ite_false, eq_self, Nat.reduceLT, Nat.reduceLeDiff, Nat.reduceAdd, Nat.reduceMul, Nat.reduceSub, intOf, g0, g1, g5, g7, g8, g9]
        refine ⟨by omega, by omega, ldE (f := SR.cells) c47 Tryd.underlying47 rfl (fun d h => rfl) hcW hs ?_⟩
        simp only [↓VD, VP, VT, isAggD, reduceCtorEq, Int.reduceEq, Int.reduceNe, Int.reduceLT, Int.reduceLE, implies_true, Nat.reduceEqDiff, reduceIte, ite_true, ite_false, eq_self, Nat.reduceLT, Nat.reduceLeDiff, Nat.reduceAdd, Nat.reduceMul, Nat.reduceSub, intOf, g0, g1, g5, g7, g8, g9]
        intro w10 hN10
        refine stAll hN10.blk (vs := [.int .u16 bm, .slice ka ks.length kc]) rfl (by rw [c47]; decide) (by rw [c47]; rfl) (by rw [c47]; rfl) (by simp [oneCellV]) (fun w11 hP11 => ?_)
        have z10 := hN10.size
        have z11 := hP11.size
        have hE911 : Ext w9 w11 := hN10.ext.trans (hP11.below (Nat.le_refl _))
        have hB12 := hP11.blk
        have hB1011 := hB10.ext hE911
        have hE511 := hE59.trans' hE911
        have hE11 := hE5'.trans' hE511
        generalize w9.heap.size = b12 at *
        simp only [↓VD, VP, VT, isAggD, reduceCtorEq, Int.reduceEq, Int.reduceNe, Int.reduceLT, Int.reduceLE, implies_true, Nat.reduceEqDiff, reduceIte, ite_true, ite_false, eq_self, Nat.reduceLT, Nat.reduceLeDiff, Nat.reduceAdd, Nat.reduceMul, Nat.reduceSub, intOf, g0, g1, g5, g7, g8, g9]
        refine drawH (fun W => Blk W b12 47 [.int .u16 bm, .slice ka ks.length kc]) [0, 1, 2, 3, 4, 7, 8, 9, 5, 6, 10, 11] mixed (by decide +kernel) (fun w12 hE12 hh12 => ⟨hB12.ext hE12, ?_⟩)
        simp only [↓VD, VP, VT, isAggD, reduceCtorEq, Int.reduceEq, Int.reduceNe, Int.reduceLT, Int.reduceLE, implies_true, Nat.reduceEqDiff, reduceIte, ite_true, ite_false, eq_self, Nat.reduceLT, Nat.reduceLeDiff, Nat.reduceAdd, Nat.reduceMul, Nat.reduceSub, intOf, g0, g1, g5, g7, g8, g9]
        refine loadS_of _ (fun w' h => ldAt (pre := []) (post := [.slice ka ks.length kc]) Tryd.underlying44 rfl h rfl rfl) ?_
        simp only [↓VD, VP, VT, isAggD, reduceCtorEq, Int.reduceEq, Int.reduceNe, Int.reduceLT, Int.reduceLE, implies_true, Nat.reduceEqDiff, reduceIte, ite_true, ite_false, eq_self, Nat.reduceLT, Nat.reduceLeDiff, Nat.reduceAdd, Nat.reduceMul, Nat.reduceSub, intOf, g0, g1, g5, g7, g8, g9]
        refine loadS_of _ (fun w' h => ldAt (pre := [.int .u16 bm]) (post := []) Tryd.underlying45 rfl h rfl rfl) ?_
        simp only [↓VD, VP, VT, isAggD, reduceCtorEq, Int.reduceEq, Int.reduceNe, Int.reduceLT, Int.reduceLE, implies_true, Nat.reduceEqDiff, reduceIte, ite_true, ite_false, eq_self, Nat.reduceLT, Nat.reduceLeDiff, Nat.reduceAdd, Nat.reduceMul, Nat.reduceSub, intOf, g0, g1, g5, g7, g8, g9]
        refine (lchild_ok n key _ jj w12 (hW.ext (hE11.trans' hE12)) (hA.kat.ext (hE11.trans' hE12)) hA.keyl).mono ?_
        rintro _ w13 ⟨rfl, hE13⟩
        refine told (fun _ => True) ((hB12.ext hE12).ext hE13) trivial ?_
        simp only [↓VD, VP, VT, isAggD, reduceCtorEq, Int.reduceEq, Int.reduceNe, Int.reduceLT, Int.reduceLE, implies_true, Nat.reduceEqDiff, reduceIte, ite_true, ite_false, eq_self, Nat.reduceLT, Nat.reduceLeDiff, Nat.reduceAdd, Nat.reduceMul, Nat.reduceSub, intOf, g0, g1, g5, g7, g8, g9]
        refine (Rank_ok bm hbm _ w13).mono ?_
        rintro _ w14 ⟨rfl, hE14'⟩
        rw [hrr]
        refine told (fun _ => True) (((hB12.ext hE12).ext hE13).ext hE14') trivial ?_
        simp only [↓VD, VP, VT, isAggD, reduceCtorEq, Int.reduceEq, Int.reduceNe, Int.reduceLT, Int.reduceLE, implies_true, Nat.reduceEqDiff, reduceIte, ite_true, ite_false, eq_self, Nat.reduceLT, Nat.reduceLeDiff, Nat.reduceAdd, Nat.reduceMul, Nat.reduceSub, intOf, g0, g1, g5, g7, g8, g9, ↓h_min]
        have fmin : (if ((ks.length : Nat) : Int) < (r : Int) then ((ks.length : Nat) : Int) else (r : Int)) = (r : Int) := if_neg (by omega)
        rw [fmin]
        refine told (fun _ => True) (((hB12.ext hE12).ext hE13).ext hE14') trivial ?_
        have z12 := hE12.size
        have z13 := hE13.size
        have z14 := hE14'.size
        have hE1114 := (hE12.trans' hE13).trans' hE14'
        have hB1214 := hB12.ext hE1114
        have hB1014 := hB1011.ext hE1114
        have hE514 := hE511.trans' hE1114
        have hE14w := hE5'.trans' hE514
        have lb12 := hB1214.lt
        have lb10 := hB1014.lt
        have hdk14 := hdk.ext hE14w
        have hkc : ks.length ≤ kc := by
          obtain ⟨_, _, _, e, h1, h2, _⟩ := hdk
          cases e
          exact h1
        have hkc2 : kc ≤ 9223372036854775807 := by
          obtain ⟨_, _, _, e, h1, h2, _⟩ := hdk
          cases e
          exact h2
        have hd32 := hdk.1
        have e1 : ((r : Int) - 0).toNat = r := by omega
        have e2 : ((kc : Int) - 0).toNat = kc := by omega
        have e3 : ((ks.length : Int) - (r : Int)).toNat = ks.length - r := by omega
        have e4 : ((kc : Int) - (r : Int)).toNat = kc - r := by omega
        simp only [↓VQ, VP, VT, isAggD, reduceCtorEq, Int.reduceEq, Int.reduceNe, Int.reduceLT, Int.reduceLE, implies_true, Nat.reduceEqDiff, reduceIte, ite_true, ite_false, eq_self, Nat.reduceLT, Nat.reduceLeDiff, Nat.reduceAdd, Nat.reduceMul, Nat.reduceSub, intOf, g0, g1, g5, g7, g8, g9]
        rw [v_seq]
        refine joinT (fun s' W => Below w14.heap.size w14 W ∧ s' 0 = .int .i64 n ∧ s' 1 = .slice ak key.length ck ∧ s' 5 = .pointer (some ⟨w.heap.size, 0, none⟩) ∧ s' 7 = up ∧ s' 9 = .int .i64 (jj : Nat) ∧ s' 12 = .pointer (some ⟨b12, 0, none⟩) ∧ DigsAt W (s' 14) (insP ks r dd)) ?_ ?_
        · simp only [↓VD, VP, VT, isAggD, reduceCtorEq, Int.reduceEq, Int.reduceNe, Int.reduceLT, Int.reduceLE, implies_true, Nat.reduceEqDiff, reduceIte, ite_true, ite_false, eq_self, Nat.reduceLT, Nat.reduceLeDiff, Nat.reduceAdd, Nat.reduceMul, Nat.reduceSub, intOf, g0, g1, g5, g7, g8, g9]
          refine drawO (fun W => Blk W b12 47 [.int .u16 bm, .slice ka ks.length kc] ∧ Blk W b10 28 (vbs dd)) (Ord.pre [1, 2, 3, 4, 6, 9, 10, 11, 12] (.two 0 7 (Ord.pre [] (.two 5 7 (Ord.of [7, 8, 13, 14]) (Ord.of [5, 8, 13, 14]))) (Ord.of [0, 5, 8, 13, 14]))) mixed (by decide +kernel) (fun w15 hE15 hh15 => ⟨⟨hB1214.ext hE15, hB1014.ext hE15⟩, ?_⟩)
          simp only [↓VD, VP, VT, isAggD, reduceCtorEq, Int.reduceEq, Int.reduceNe, Int.reduceLT, Int.reduceLE, implies_true, Nat.reduceEqDiff, reduceIte, ite_true, ite_false, eq_self, Nat.reduceLT, Nat.reduceLeDiff, Nat.reduceAdd, Nat.reduceMul, Nat.reduceSub, intOf, g0, g1, g5, g7, g8, g9]
          refine loadS_of _ (fun w' h => ldAt (pre := [.int .u16 bm]) (post := []) Tryd.underlying45 rfl h.1 rfl rfl) ?_
          simp only [↓VD, VP, VT, isAggD, reduceCtorEq, Int.reduceEq, Int.reduceNe, Int.reduceLT, Int.reduceLE, implies_true, Nat.reduceEqDiff, reduceIte, ite_true, ite_false, eq_self, Nat.reduceLT, Nat.reduceLeDiff, Nat.reduceAdd, Nat.reduceMul, Nat.reduceSub, intOf, g0, g1, g5, g7, g8, g9]
          refine ⟨by omega, by omega, fun a1 hn1 ha1 => ?_⟩
          refine loadS_of _ (fun w' h => ldA Tryd.underlying28 rfl h.2 (by rw [vbs_len, hlev, c28]) rfl) ?_
          simp only [↓VD, VP, VT, isAggD, reduceCtorEq, Int.reduceEq, Int.reduceNe, Int.reduceLT, Int.reduceLE, implies_true, Nat.reduceEqDiff, reduceIte, ite_true, ite_false, eq_self, Nat.reduceLT, Nat.reduceLeDiff, Nat.reduceAdd, Nat.reduceMul, Nat.reduceSub, intOf, g0, g1, g5, g7, g8, g9]
          refine loadS_of _ (fun w' h => ldAt (pre := [.int .u16 bm]) (post := []) Tryd.underlying45 rfl h.1 rfl rfl) ?_
          simp only [↓VD, VP, VT, isAggD, reduceCtorEq, Int.reduceEq, Int.reduceNe, Int.reduceLT, Int.reduceLE, implies_true, Nat.reduceEqDiff, reduceIte, ite_true, ite_false, eq_self, Nat.reduceLT, Nat.reduceLeDiff, Nat.reduceAdd, Nat.reduceMul, Nat.reduceSub, intOf, g0, g1, g5, g7, g8, g9]
          refine ⟨by omega, by omega, by omega, fun a2 hn2 ha2 => ?_⟩
          have hD1 : ∀ {W : World}, Ext w14 W → DigsAt W (.slice a1 r kc) (ks.take r) := by
            intro W hE
            have := digs_sub (lo := 0) (hi := r) (a' := a1) (hdk14.ext hE) (by omega) hrl (fun b o e => by
              obtain ⟨o', h1, h2⟩ := ha1 b o e
              exact ⟨o', h1, fun h => by have := h2 h; simpa using this⟩)
            simpa using this
          have hD2 : ∀ {W : World}, Ext w14 W → DigsAt W (.slice a2 (ks.length - r) (kc - r)) (ks.drop r) := by
            intro W hE
            have := digs_sub (lo := r) (hi := ks.length) (a' := a2) (hdk14.ext hE) hrl (Nat.le_refl _) (fun b o e => ha2 b o e)
            rwa [List.take_of_length_le (by rw [List.length_drop]; exact Nat.le_refl _)] at this
          have hfin : ∀ d ∈ insP ks r dd, d.length = 32 := by
            intro d hd
            rcases ins_mem hd with rfl | hd
            · exact hlev
            · exact hd32 d hd
          have hins : (ks.take r ++ [dd]) ++ ks.drop r = insP ks r dd := by simp [insP]
          have htl : (ks.take r).length = r := by rw [List.length_take, Nat.min_eq_left hrl]
          have hdl : (ks.drop r).length = ks.length - r := List.length_drop ..
          have zz15 := hE15.size
          have hend : ∀ (v1 : Value) (bx : Nat) (W : World) (K : Value → World → Prop), Below w14.heap.size w14 W → w14.heap.size ≤ W.heap.size → Own W w14.heap.size 28 32 v1 (ks.take r).length ((ks.take r).flatMap vbs) → Blk W bx 28 (vbs dd) →
              (∀ v2 W2, Below w14.heap.size w14 W2 → w14.heap.size ≤ W2.heap.size → Own W2 w14.heap.size 28 32 v2 (ks.take r ++ [dd]).length ((ks.take r ++ [dd]).flatMap vbs) → Below w14.heap.size W W2 → K v2 W2) → vcAppend Tryd.prog 45 v1 (.slice (some ⟨bx, 0, none⟩) 1 1) W K := by
            intro v1 bx W K hbel hsz hO hB hK
            refine apD (ys := [dd]) hO hsz ⟨by simpa using hlev, by simpa using SlC.of_blk (n := 1) hB (by decide)⟩ (by rw [htl]; simp; omega) (fun v2 W2 hO2 _ hbel2 => ?_)
            exact hK v2 W2 (hbel.trans hbel2) (Nat.le_trans hsz hbel2.size) hO2 hbel2
          refine ⟨?_, ?_⟩
          · intro w16 hN16
            have zz16 := hN16.size
            have hb16 : Below w14.heap.size w14 w16 := hE15.trans' hN16.ext
            refine told (fun _ => True) ⟨hB1214.below hb16 (by omega), hB1014.below hb16 (by omega)⟩ trivial ?_
            simp only [↓VD, VP, VT, isAggD, reduceCtorEq, Int.reduceEq, Int.reduceNe, Int.reduceLT, Int.reduceLE, implies_true, Nat.reduceEqDiff, reduceIte, ite_true, ite_false, eq_self, Nat.reduceLT, Nat.reduceLeDiff, Nat.reduceAdd, Nat.reduceMul, Nat.reduceSub, intOf, g0, g1, g5, g7, g8, g9, e1, e2, e3, e4]
            refine ⟨?_, ?_⟩
            · refine apD (base := w14.heap.size) (xs := []) (ys := ks.take r) (Own.of_blk (sz := 32) hN16.blk (by omega) rfl (by decide)) (by omega) (hD1 hb16) (by rw [htl]; simp; omega) (fun v17 w17 hO17 hg17 hbel17 => ?_)
              have hb17 := hb16.trans hbel17
              have zz17 := hbel17.size
              refine told (fun _ => True) ⟨hB1214.below hb17 (by omega), hB1014.below hb17 (by omega)⟩ trivial ?_
              simp only [↓VD, VP, VT, isAggD, reduceCtorEq, Int.reduceEq, Int.reduceNe, Int.reduceLT, Int.reduceLE, implies_true, Nat.reduceEqDiff, reduceIte, ite_true, ite_false, eq_self, Nat.reduceLT, Nat.reduceLeDiff, Nat.reduceAdd, Nat.reduceMul, Nat.reduceSub, intOf, g0, g1, g5, g7, g8, g9, e1, e2, e3, e4]
              refine ⟨by rw [vbs_len]; exact hlev, fun w18 hN18 => ?_⟩
              have hb18 : Below w14.heap.size w14 w18 := hb17.trans (hN18.ext.mono (by omega))
              have zz18 := hN18.size
              refine told (fun _ => True) ⟨hB1214.below hb18 (by omega), hB1014.below hb18 (by omega)⟩ trivial ?_
              simp only [↓VD, VP, VT, isAggD, reduceCtorEq, Int.reduceEq, Int.reduceNe, Int.reduceLT, Int.reduceLE, implies_true, Nat.reduceEqDiff, reduceIte, ite_true, ite_false, eq_self, Nat.reduceLT, Nat.reduceLeDiff, Nat.reduceAdd, Nat.reduceMul, Nat.reduceSub, intOf, g0, g1, g5, g7, g8, g9, e1, e2, e3, e4]
              refine hend v17 _ w18 _ hb18 (by omega) (hO17.ext hN18.ext) hN18.blk (fun v19 w19 hb19 zz19 hO19 _ => ?_)
              refine told (fun _ => True) ⟨hB1214.below hb19 (by omega), hB1014.below hb19 (by omega)⟩ trivial ?_
              simp only [↓VD, VP, VT, isAggD, reduceCtorEq, Int.reduceEq, Int.reduceNe, Int.reduceLT, Int.reduceLE, implies_true, Nat.reduceEqDiff, reduceIte, ite_true, ite_false, eq_self, Nat.reduceLT, Nat.reduceLeDiff, Nat.reduceAdd, Nat.reduceMul, Nat.reduceSub, intOf, g0, g1, g5, g7, g8, g9, e1, e2, e3, e4]
              refine apD hO19 zz19 (hD2 hb19) (by simp only [List.length_append, htl, hdl, List.length_cons, List.length_nil]; omega) (fun v20 w20 hO20 _ hbel20 => ?_)
              have hb20 := hb19.trans hbel20
              have zz20 := hbel20.size
              refine told (fun _ => True) ⟨hB1214.below hb20 (by omega), hB1014.below hb20 (by omega)⟩ trivial ?_
              simp only [↓VD, VP, VT, isAggD, reduceCtorEq, Int.reduceEq, Int.reduceNe, Int.reduceLT, Int.reduceLE, implies_true, Nat.reduceEqDiff, reduceIte, ite_true, ite_false, eq_self, Nat.reduceLT, Nat.reduceLeDiff, Nat.reduceAdd, Nat.reduceMul, Nat.reduceSub, intOf, g0, g1, g5, g7, g8, g9, e1, e2, e3, e4]
              rw [hins] at hO20
              exact ⟨hb20, hfin, SlC.of_own hO20⟩
            · refine ⟨by rw [vbs_len]; exact hlev, fun w17 hN17 => ?_⟩
              have hb17 : Below w14.heap.size w14 w17 := hb16.trans (hN17.ext.mono (by omega))
              have zz17 := hN17.size
              refine told (fun _ => True) ⟨hB1214.below hb17 (by omega), hB1014.below hb17 (by omega)⟩ trivial ?_
              simp only [↓VD, VP, VT, isAggD, reduceCtorEq, Int.reduceEq, Int.reduceNe, Int.reduceLT, Int.reduceLE, implies_true, Nat.reduceEqDiff, reduceIte, ite_true, ite_false, eq_self, Nat.reduceLT, Nat.reduceLeDiff, Nat.reduceAdd, Nat.reduceMul, Nat.reduceSub, intOf, g0, g1, g5, g7, g8, g9, e1, e2, e3, e4]
              refine apD (base := w14.heap.size) (xs := []) (ys := ks.take r) ((Own.of_blk (sz := 32) hN16.blk (by omega) rfl (by decide)).ext hN17.ext) (by omega) (hD1 hb17) (by rw [htl]; simp; omega) (fun v18 w18 hO18 hg18 hbel18 => ?_)
              have hb18 := hb17.trans hbel18
              have zz18 := hbel18.size
              have hBx : Blk w18 w16.heap.size 28 (vbs dd) := ⟨by rw [hg18.block w16.heap.size (by omega) (by simp only [Value.ownBlock, ne_eq, Option.some.injEq]; omega)]; exact hN17.blk.out⟩
              refine told (fun _ => True) ⟨hB1214.below hb18 (by omega), hB1014.below hb18 (by omega)⟩ trivial ?_
              simp only [↓VD, VP, VT, isAggD, reduceCtorEq, Int.reduceEq, Int.reduceNe, Int.reduceLT, Int.reduceLE, implies_true, Nat.reduceEqDiff, reduceIte, ite_true, ite_false, eq_self, Nat.reduceLT, Nat.reduceLeDiff, Nat.reduceAdd, Nat.reduceMul, Nat.reduceSub, intOf, g0, g1, g5, g7, g8, g9, e1, e2, e3, e4]
              refine hend v18 _ w18 _ hb18 (by omega) hO18 hBx (fun v19 w19 hb19 zz19 hO19 _ => ?_)
              refine told (fun _ => True) ⟨hB1214.below hb19 (by omega), hB1014.below hb19 (by omega)⟩ trivial ?_
              simp only [↓VD, VP, VT, isAggD, reduceCtorEq, Int.reduceEq, Int.reduceNe, Int.reduceLT, Int.reduceLE, implies_true, Nat.reduceEqDiff, reduceIte, ite_true, ite_false, eq_self, Nat.reduceLT, Nat.reduceLeDiff, Nat.reduceAdd, Nat.reduceMul, Nat.reduceSub, intOf, g0, g1, g5, g7, g8, g9, e1, e2, e3, e4]
              refine apD hO19 zz19 (hD2 hb19) (by simp only [List.length_append, htl, hdl, List.length_cons, List.length_nil]; omega) (fun v20 w20 hO20 _ hbel20 => ?_)
              have hb20 := hb19.trans hbel20
              have zz20 := hbel20.size
              refine told (fun _ => True) ⟨hB1214.below hb20 (by omega), hB1014.below hb20 (by omega)⟩ trivial ?_
              simp only [↓VD, VP, VT, isAggD, reduceCtorEq, Int.reduceEq, Int.reduceNe, Int.reduceLT, Int.reduceLE, implies_true, Nat.reduceEqDiff, reduceIte, ite_true, ite_false, eq_self, Nat.reduceLT, Nat.reduceLeDiff, Nat.reduceAdd, Nat.reduceMul, Nat.reduceSub, intOf, g0, g1, g5, g7, g8, g9, e1, e2, e3, e4]
              rw [hins] at hO20
              exact ⟨hb20, hfin, SlC.of_own hO20⟩
          · refine ⟨by rw [vbs_len]; exact hlev, fun w16 hN16 => ?_⟩
            have hb16 : Below w14.heap.size w14 w16 := hE15.trans' hN16.ext
            have zz16 := hN16.size
            refine told (fun _ => True) ⟨hB1214.below hb16 (by omega), hB1014.below hb16 (by omega)⟩ trivial ?_
            simp only [↓VD, VP, VT, isAggD, reduceCtorEq, Int.reduceEq, Int.reduceNe, Int.reduceLT, Int.reduceLE, implies_true, Nat.reduceEqDiff, reduceIte, ite_true, ite_false, eq_self, Nat.reduceLT, Nat.reduceLeDiff, Nat.reduceAdd, Nat.reduceMul, Nat.reduceSub, intOf, g0, g1, g5, g7, g8, g9, e1, e2, e3, e4]
            intro w17 hN17
            have hb17 : Below w14.heap.size w14 w17 := hb16.trans (hN17.ext.mono (by omega))
            have zz17 := hN17.size
            refine told (fun _ => True) ⟨hB1214.below hb17 (by omega), hB1014.below hb17 (by omega)⟩ trivial ?_
            simp only [↓VD, VP, VT, isAggD, reduceCtorEq, Int.reduceEq, Int.reduceNe, Int.reduceLT, Int.reduceLE, implies_true, Nat.reduceEqDiff, reduceIte, ite_true, ite_false, eq_self, Nat.reduceLT, Nat.reduceLeDiff, Nat.reduceAdd, Nat.reduceMul, Nat.reduceSub, intOf, g0, g1, g5, g7, g8, g9, e1, e2, e3, e4]
            refine apD (base := w14.heap.size) (xs := []) (ys := ks.take r) (Own.of_blk (sz := 32) hN17.blk (by omega) rfl (by decide)) (by omega) (hD1 hb17) (by rw [htl]; simp; omega) (fun v18 w18 hO18 hg18 hbel18 => ?_)
            have hb18 := hb17.trans hbel18
            have zz18 := hbel18.size
            have hBx : Blk w18 w15.heap.size 28 (vbs dd) := ⟨by rw [hg18.block w15.heap.size (by omega) (by simp only [Value.ownBlock, ne_eq, Option.some.injEq]; omega)]; exact (hN16.blk.ext hN17.ext).out⟩
            refine told (fun _ => True) ⟨hB1214.below hb18 (by omega), hB1014.below hb18 (by omega)⟩ trivial ?_
            simp only [↓VD, VP, VT, isAggD, reduceCtorEq, Int.reduceEq, Int.reduceNe, Int.reduceLT, Int.reduceLE, implies_true, Nat.reduceEqDiff, reduceIte, ite_true, ite_false, eq_self, Nat.reduceLT, Nat.reduceLeDiff, Nat.reduceAdd, Nat.reduceMul, Nat.reduceSub, intOf, g0, g1, g5, g7, g8, g9, e1, e2, e3, e4]
            refine hend v18 _ w18 _ hb18 (by omega) hO18 hBx (fun v19 w19 hb19 zz19 hO19 _ => ?_)
            refine told (fun _ => True) ⟨hB1214.below hb19 (by omega), hB1014.below hb19 (by omega)⟩ trivial ?_
            simp only [↓VD, VP, VT, isAggD, reduceCtorEq, Int.reduceEq, Int.reduceNe, Int.reduceLT, Int.reduceLE, implies_true, Nat.reduceEqDiff, reduceIte, ite_true, ite_false, eq_self, Nat.reduceLT, Nat.reduceLeDiff, Nat.reduceAdd, Nat.reduceMul, Nat.reduceSub, intOf, g0, g1, g5, g7, g8, g9, e1, e2, e3, e4]
            refine apD hO19 zz19 (hD2 hb19) (by simp only [List.length_append, htl, hdl, List.length_cons, List.length_nil]; omega) (fun v20 w20 hO20 _ hbel20 => ?_)
            have hb20 := hb19.trans hbel20
            have zz20 := hbel20.size
            refine told (fun _ => True) ⟨hB1214.below hb20 (by omega), hB1014.below hb20 (by omega)⟩ trivial ?_
            simp only [↓VD, VP, VT, isAggD, reduceCtorEq, Int.reduceEq, Int.reduceNe, Int.reduceLT, Int.reduceLE, implies_true, Nat.reduceEqDiff, reduceIte, ite_true, ite_false, eq_self, Nat.reduceLT, Nat.reduceLeDiff, Nat.reduceAdd, Nat.reduceMul, Nat.reduceSub, intOf, g0, g1, g5, g7, g8, g9, e1, e2, e3, e4]
            rw [hins] at hO20
            exact ⟨hb20, hfin, SlC.of_own hO20⟩
        · rintro s21 w21 ⟨hb21, k0, k1, k5, k7, k9, k12, hD14⟩
          obtain ⟨a14, c14, h14⟩ := slv_of hD14.2
          have hE21 := hE514.trans' hb21
          have hE21w := hE5'.trans' hE21
          simp only [↓VD, VP, VT, isAggD, reduceCtorEq, Int.reduceEq, Int.reduceNe, Int.reduceLT, Int.reduceLE, implies_true, Nat.reduceEqDiff, reduceIte, ite_true, ite_false, eq_self, Nat.reduceLT, Nat.reduceLeDiff, Nat.reduceAdd, Nat.reduceMul, Nat.reduceSub, intOf, k0, k1, k5, k7, k9, k12]
          refine ldAt (pre := []) (post := [.slice ka ks.length kc]) Tryd.underlying44 rfl (hB1214.ext hb21) rfl ?_
          simp only [↓VD, VP, VT, isAggD, reduceCtorEq, Int.reduceEq, Int.reduceNe, Int.reduceLT, Int.reduceLE, implies_true, Nat.reduceEqDiff, reduceIte, ite_true, ite_false, eq_self, Nat.reduceLT, Nat.reduceLeDiff, Nat.reduceAdd, Nat.reduceMul, Nat.reduceSub, intOf, k0, k1, k5, k7, k9, k12]
          refine (BranchInput_ok n bm hbm (s21 14) (insP ks r dd) w21 hD14 (by rw [ins_len]; omega)).mono ?_
          rintro _ w22 ⟨a22, m22, c22, rfl, ho22, _, hE22⟩
          have hO22 := ho22 (brE_zero hn q1 q2 q3)
          rw [← hinj] at hO22
          have z22 := hE22.size
          have z21 := hb21.size
          have hus22 : ∀ (i : Nat) (p : BR), us[i]? = some p → p.b = inAt n (keyD n key) ss ps (L - 1 - i) ∧ Own w22 w.heap.size 5 1 p.v p.b.length (vbs p.b) := fun i p hp => ⟨(hus i p hp).1, (hus i p hp).2.ext (hE21.trans' hE22)⟩
          have hU22 := hU5.ext (hE21.trans' hE22)
          have hO22b := hO22.base (show w.heap.size ≤ w21.heap.size by omega)
          simp only [↓VD, VP, VT, isAggD, reduceCtorEq, Int.reduceEq, Int.reduceNe, Int.reduceLT, Int.reduceLE, implies_true, Nat.reduceEqDiff, reduceIte, ite_true, ite_false, eq_self, Nat.reduceLT, Nat.reduceLeDiff, Nat.reduceAdd, Nat.reduceMul, Nat.reduceSub, intOf, k0, k1, k5, k7, k9, k12]
          refine ⟨rfl, rfl, fun w23 hN23 => ?_⟩
          refine apL (us := us) (p := ⟨.slice a22 m22 c22, inAt n (keyD n key) ss ps jj⟩) (hU22.ext hN23.ext) (by have := hN23.size; omega) hN23.blk rfl (by omega) (fun v24 w24 hU24 hg24 hbel24 => ?_)
          have hE24 : Ext w1 w24 := ((hE5.trans' (hE21.trans' hE22)).trans' hN23.ext).trans hbel24
          simp only [↓VD, VP, VT, isAggD, reduceCtorEq, Int.reduceEq, Int.reduceNe, Int.reduceLT, Int.reduceLE, implies_true, Nat.reduceEqDiff, reduceIte, ite_true, ite_false, eq_self, Nat.reduceLT, Nat.reduceLeDiff, Nat.reduceAdd, Nat.reduceMul, Nat.reduceSub, intOf, k0, k1, k5, k7, k9, k12]
          have hU23 := hU22.ext hN23.ext
          refine ⟨⟨hE24, us ++ [⟨.slice a22 m22 c22, inAt n (keyD n key) ss ps jj⟩], by simp, by simp; omega, fun i p hp => ?_, hU24, ?_, ?_⟩, ?_⟩
          · by_cases hi : i < us.length
            · rw [List.getElem?_append_left hi] at hp
              exact ⟨(hus22 i p hp).1, ((hus22 i p hp).2.ext hN23.ext).keepT hU23 (by decide) hg24⟩
            · have hil := (List.getElem?_eq_some_iff.1 hp).1
              simp only [List.length_append, List.length_cons, List.length_nil] at hil
              obtain rfl : i = us.length := by omega
              rw [List.getElem?_append_right (Nat.le_refl _), Nat.sub_self] at hp
              simp only [List.getElem?_cons_zero, Option.some.injEq] at hp
              subst hp
              refine ⟨by simp only; congr 1; omega, ?_⟩
              obtain rfl := own_len hO22b
              exact (hO22b.ext hN23.ext).keepT hU23 (by decide) hg24
          · rw [w64 (by omega) (by omega)]
            simp only [List.length_append, List.length_cons, List.length_nil]
            omega
          · rw [show L - (us ++ [(⟨.slice a22 m22 c22, inAt n (keyD n key) ss ps jj⟩ : BR)]).length = jj from by simp; omega]
            exact (hO22b.ext hN23.ext).keepT hU23 (by decide) hg24
          · rw [w64 (by omega) (by omega), g9]
            simp only
            omega
      · refine ⟨hE5, us, by omega, fun i p hp => ⟨(hus i p hp).1, SlC.of_own (hus i p hp).2⟩, SlC.of_own hU5, by omega⟩

end Go.Proofs.YticfalbgplifoaaDoor
