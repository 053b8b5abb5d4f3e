/-
  Package notaryref14: Get, Walk, SamePair, SamePairs, SameSteps. Conditions: as stated in each theorem. slices.Delete of one element, of digests. Conditions: as stated in each theorem. Written by wip/gendel.py. Steps without one digest each; lists of steps whose digests lie in blocks of their own, one of them changed. Conditions: as stated in each theorem. Package notaryref15: ahead, Without. Conditions: as stated in each theorem. Package hproof: Prove. Conditions: as stated in each theorem. Package notaryref15: Prove, DocProve, Same, DocSize; package hproof: Size. Conditions: as stated in each theorem. Package notaryref14: Delete. Conditions: as stated in each theorem. Conversions of strings and bytes. Conditions: as stated in each theorem. Package notarylaw15: made, wide, awake. Conditions: as stated in each theorem. slices.Delete of one element, of pairs and of nodes. Conditions: as stated in each theorem. Written by wip/gendel.py. Package hamt: drop, Delete. Conditions: as stated in each theorem. Package hamt: Pairs. Conditions: as stated in each theorem. Package hamt: what a nil map answers. Conditions: as stated in each theorem. A range over slices.Backward as a rule of the calculus. Conditions: as stated in each theorem. hcheck.child and hcheck.up: the digest to which a proof leads. Conditions: as stated in each theorem. Package bytes' Equal, Clone, Compare; hcheck.kids. Conditions: as stated in each theorem. hcheck.branches. Conditions: as stated in each theorem. hcheck.bucket. Conditions: as stated in each theorem.
-/
import Derived.Test.YtebbgninkbghlaaGreatDoorMHproofAccepted12
import Derived.Test.YtebbgninkbghlaaGreatDoorMHproofAccepted11
import Derived.Lib.ConvBytes
import Derived.Laws.IdiomStrings
import Derived.Lib.BytesEntry
import Derived.Laws.Externs
import Derived.Test.YtebbgninkbghlaaGreatDoorMHproofAccepted10
/-! Rfd -/
namespace Go.Proofs.YtebbgninkbghlaaGreatDoor
set_option maxRecDepth 100000
open Go Go.RowKit
set_option linter.unusedVariables false
set_option linter.unusedSimpArgs false
set_option maxHeartbeats 1000000
attribute [local irreducible] vcT opsT qT vcOp Q1 vcPure vcLoad vcStore ldC ldN ldD grdT grdQ vc vcOps vcQ hT
attribute [local irreducible] sumR sumP shaP keyD bucketP branchP

theorem ItemAt.c32 {w : World} {p : IR} (h : ItemAt w p) : p.cells[32]? = some p.kv := by
  unfold IR.cells
  rw [List.getElem?_append_right (by rw [vbs_len, h.len]; decide), vbs_len, h.len]
  rfl
theorem ItemAt.c33 {w : World} {p : IR} (h : ItemAt w p) : p.cells[33]? = some p.vv := by
  unfold IR.cells
  rw [List.getElem?_append_right (by rw [vbs_len, h.len]; decide), vbs_len, h.len]
  rfl
theorem WalkO_ok (n : Nat) (hn : 1 ≤ n) (hn2 : n ≤ 32) (is : List IR) (m : List It) (key : List UInt8) (mv kv : Value) (w : World) (hm : ItemsAt w mv is) (hy : is.map IR.y = m) (hO : OkI n m) (hk : SlB w kv key) (hkl : key.length ≤ 4000000000) (hml : is.length ≤ 90000000) :
    CallK Tryz.prog 106 [.int .i64 n, mv, kv].toArray w fun v w' => ∃ (sv pv : Value) (tt : List SR) (js : List IR), v = .tuple [sv, pv].toArray ∧ Own w' w.heap.size 51 2 sv tt.length (tt.flatMap SR.cells) ∧ RunK w' w'.heap.size w.heap.size tt ∧ Own w' w.heap.size 47 2 pv js.length ((js.map IR.pr).flatMap PR.cells) ∧ (∀ q ∈ js, q ∈ is) ∧ tt.map SR.dt = (walkI n (keyD n key) 64 0 m).1 ∧ (js.map IR.pr).map PR.dat = (walkI n (keyD n key) 64 0 m).2.map It.pr ∧ Ext w w' := by
  obtain ⟨a, c, rfl⟩ := slv_of hm.sl
  obtain ⟨ka, kc, rfl⟩ := slv_of hk
  have hw : widB n = true := (widB_iff n).2 (by omega)
  refine enterT Tryz.func106 rfl Tryz.ntmps106 Tryz.results106 rfl (by decide) ?_
  repeat (first | exact trivial | refine stp ?_ | refine ldCg ?_ | refine ldNg ?_ | refine ldSg ?_ | refine ldSb ?_ | refine bnd ?_ | refine bnd1 ?_ | refine drawQ (by decide +kernel) mixed (by decide +kernel) ?_)
  refine (RKeyD_ok n hn hn2 key _ w (hk.ext .go) (by omega)).mono ?_
  rintro _ w1 ⟨rfl, hE1⟩
  have hz1 := hE1.size
  have hKl := keyD_len n key
  repeat (first | exact trivial | refine stp ?_ | refine ldCg ?_ | refine ldNg ?_ | refine ldSg ?_ | refine ldSb ?_ | refine bnd ?_ | refine bnd1 ?_ | refine drawQ (by decide +kernel) mixed (by decide +kernel) ?_)
  first | refine newS ?_ | refine newZ ?_
  intro w2 hE2 hz2 hB2
  obtain ⟨hst, hend, hsg⟩ := walk_spec hw (keyD n key) 64 0 m hO hO.pre rfl
  generalize hLe : (walkI n (keyD n key) 64 0 m).1 = L at *
  simp only [Nat.zero_add] at hst
  repeat (first | exact trivial | refine stp ?_ | refine ldCg ?_ | refine ldNg ?_ | refine ldSg ?_ | refine ldSb ?_ | refine bnd ?_ | refine bnd1 ?_ | refine drawQ (by decide +kernel) mixed (by decide +kernel) ?_)
  refine loopX (ι := Nat × List IR × Value × List SR × Option Addr × Nat) (fun x => [(0, .int .i64 n), (1, x.2.2.1), (8, .slice x.2.2.2.2.1 x.2.2.2.1.length x.2.2.2.2.2), (9, .pointer (some ⟨w1.heap.size, 0, none⟩)), (10, .int .i64 x.1)])
    (fun x W => Ext w2 W ∧ w2.heap.size ≤ W.heap.size ∧ x.1 ≤ L.length ∧ (x.2.1 = is ∧ x.2.2.1 = .slice a is.length c ∨ Own W w2.heap.size 163 34 x.2.2.1 x.2.1.length (x.2.1.flatMap IR.cells)) ∧ (∀ q ∈ x.2.1, q ∈ is) ∧ x.2.1.map IR.y = wmI (keyD n key) x.1 0 m ∧ x.2.2.2.1.length = x.1 ∧
      Own W w2.heap.size 51 2 (.slice x.2.2.2.2.1 x.2.2.2.1.length x.2.2.2.2.2) x.2.2.2.1.length (x.2.2.2.1.flatMap SR.cells) ∧ RunK W W.heap.size w2.heap.size x.2.2.2.1 ∧ x.2.2.2.1.map SR.dt = L.take x.1) (fun x => L.length - x.1)
    (0, is, .slice a is.length c, [], none, 0) ⟨.go, Nat.le_refl _, Nat.zero_le _, Or.inl ⟨rfl, rfl⟩, fun _ h => h, hy, rfl, Own.nil _ _ _ _, Nat.le_refl _, rfl⟩ ?_ ?_
  · repeat (first | exact trivial | refine stp ?_ | refine ldCg ?_ | refine ldNg ?_ | refine ldSg ?_ | refine ldSb ?_ | refine bnd ?_ | refine bnd1 ?_ | refine drawQ (by decide +kernel) mixed (by decide +kernel) ?_)
    rfl
  · rintro ⟨d, js, v, tt, ta, tc⟩ s3 w3 ⟨hE3, hz3, hd, hrow, hjs, hjy, htl, hOs, hRs, htd⟩
    simp only at hd hrow hjs hjy htl hOs hRs htd
    have hIt : ∀ {W : World}, Ext w W → (js = is ∧ v = .slice a is.length c ∨ Own W w2.heap.size 163 34 v js.length (js.flatMap IR.cells)) → ItemsAt W v js := fun e h => by
      refine ⟨?_, fun q hq => (hm.mem q (hjs q hq)).ext e⟩
      rcases h with ⟨rfl, rfl⟩ | h
      · exact hm.sl.ext e
      · exact SlC.of_own h
    have hI3 := hIt (W := w3) .go hrow
    have hjl : js.length ≤ is.length := by
      have h1 := congrArg List.length hjy
      have h2 := congrArg List.length hy
      have h3 : (wmI (keyD n key) d 0 m).length ≤ m.length := by
        have : ∀ (i e : Nat) (l : List It), (wmI (keyD n key) i e l).length ≤ l.length := by
          intro i
          induction i with
          | zero => intro e l; exact Nat.le_refl _
          | succ i ih => intro e l; exact Nat.le_trans (ih _ _) (List.length_filter_le _ _)
        exact this d 0 m
      simp only [List.length_map] at h1 h2
      omega
    obtain ⟨hOd, hPd⟩ := wmI_ok (n := n) (keyD n key) d 0 hO hO.pre
    rw [Nat.zero_add] at hPd
    obtain ⟨va, vc, rfl⟩ := slv_of hI3.sl
    repeat (first | exact trivial | refine stp ?_ | refine ldCg ?_ | refine ldNg ?_ | refine ldSg ?_ | refine ldSb ?_ | refine bnd ?_ | refine bnd1 ?_ | refine drawQ (by decide +kernel) mixed (by decide +kernel) ?_)
    refine (singleR_ok js _ _ w3 hI3 hjy hOd.sorted (by omega)).mono ?_
    rintro _ w4 ⟨rfl, hE4⟩
    have hz4 := hE4.size
    by_cases hdl : d < L.length
    · obtain ⟨hs1, hs2⟩ := hst d hdl
      rw [hs2]
      have hdn := br_depth hs2 hPd (hOd.form hw)
      have hI4 := hIt (W := w4) .go (hrow.imp_right (·.ext .go))
      have hcn := cnt_le (bmI (wmI (keyD n key) d 0 m) d)
      have hkl := kidsI_len n (64 - 1 - d) d (wmI (keyD n key) d 0 m)
      repeat (first | exact trivial | refine stp ?_ | refine ldCg ?_ | refine ldNg ?_ | refine ldSg ?_ | refine ldSb ?_ | refine bnd ?_ | refine bnd1 ?_ | refine drawQ (by decide +kernel) mixed (by decide +kernel) ?_)
      refine (stepR_ok n hn hn2 (64 - 1 - d) (nodeR_ok n hn hn2 _) d js _ _ w4 hI4 hjy hOd hPd (by omega) (by omega)).mono ?_
      rintro _ w5 ⟨kv, rfl, hK5, hE5⟩
      have hz5 := hE5.size
      have hbm := bmI_lt (wmI (keyD n key) d 0 m) d
      have hk32 := kidsI_32 n (64 - 1 - d) d (wmI (keyD n key) d 0 m)
      generalize hKe : kidsI n (64 - 1 - d) d (wmI (keyD n key) d 0 m) = ks at *
      obtain ⟨ka5, kc5, rfl⟩ := own_slice hK5
      repeat (first | exact trivial | refine stp ?_ | refine ldCg ?_ | refine ldNg ?_ | refine ldSg ?_ | refine ldSb ?_ | refine bnd ?_ | refine bnd1 ?_ | refine drawQ (by decide +kernel) mixed (by decide +kernel) ?_)
      refine ⟨rfl, rfl, ?_⟩
      first | refine newS ?_ | refine newZ ?_
      intro w6 hE6 hz6 hB6
      refine apStep (us := tt) (p := ⟨.slice ka5 ks.length kc5, bmI (wmI (keyD n key) d 0 m) d, ks⟩) (hOs.ext .go) (by omega) hB6 rfl (by omega) (fun a8 c8 w8 hO8 hg8 hE8 => ?_)
      have hz8 := hE8.size
      have hO6 := hOs.ext (w' := w6) .go
      have hR8 : RunK w8 w8.heap.size w2.heap.size (tt ++ [⟨.slice ka5 ks.length kc5, bmI (wmI (keyD n key) d 0 m) d, ks⟩]) := by
        refine RunK.append (m := w4.heap.size) (RunK.grown hO6 (by decide) hg8 ((hRs.ext .go).top hz4)) ⟨w8.heap.size, by omega, ⟨hbm, hk32, (hK5.ext .go).grown_ne hO6 (by decide) hg8, fun g hg => ?_⟩, Nat.le_refl _⟩
        have := (hK5.ext (w' := w6) .go).top g hg
        omega
      have hdt : (tt ++ [(⟨.slice ka5 ks.length kc5, bmI (wmI (keyD n key) d 0 m) d, ks⟩ : SR)]).map SR.dt = L.take (d + 1) := by
        obtain ⟨h1, h2⟩ := List.getElem?_eq_some_iff.1 hs1
        rw [List.map_append, htd, List.take_succ_eq_append_getElem h1, h2]
        rfl
      have htl' : (tt ++ [(⟨.slice ka5 ks.length kc5, bmI (wmI (keyD n key) d 0 m) d, ks⟩ : SR)]).length = d + 1 := by rw [List.length_append, htl]; rfl
      generalize tt ++ [(⟨.slice ka5 ks.length kc5, bmI (wmI (keyD n key) d 0 m) d, ks⟩ : SR)] = tt' at *
      have hrow8 : js = is ∧ (.slice va js.length vc : Value) = .slice a is.length c ∨ Own w8 w2.heap.size 163 34 (.slice va js.length vc) js.length (js.flatMap IR.cells) := hrow.imp_right fun h => (h.ext (w' := w6) .go).grown_ne hO6 (by decide) hg8
      repeat (first | exact trivial | refine stp ?_ | refine ldCg ?_ | refine ldNg ?_ | refine ldSg ?_ | refine ldSb ?_ | refine bnd ?_ | refine bnd1 ?_ | refine drawQ (by decide +kernel) mixed (by decide +kernel) ?_)
      refine (DigitR_ok (keyD n key) hKl d (by omega) w8).mono ?_
      rintro _ w9 ⟨rfl, hE9⟩
      have hz9 := hE9.size
      have hdg := digP_lt (keyD n key) d
      have hI9 := hIt (W := w9) .go (hrow8.imp_right (·.ext .go))
      repeat (first | exact trivial | refine stp ?_ | refine ldCg ?_ | refine ldNg ?_ | refine ldSg ?_ | refine ldSb ?_ | refine bnd ?_ | refine bnd1 ?_ | refine drawQ (by decide +kernel) mixed (by decide +kernel) ?_)
      refine (childR_ok js _ d _ (by omega) hdg w9 hI9 (by omega)).mono ?_
      rintro v10 w10 ⟨⟨js', hJ', hjm', hjy'⟩, hE10⟩
      have hz10 := hE10.size
      repeat (first | exact trivial | refine stp ?_ | refine ldCg ?_ | refine ldNg ?_ | refine ldSg ?_ | refine ldSb ?_ | refine bnd ?_ | refine bnd1 ?_ | refine drawQ (by decide +kernel) mixed (by decide +kernel) ?_)
      refine ⟨(d + 1, js', v10, tt', a8, c8), ⟨.go, by omega, by simp only; omega, Or.inr (hJ'.base (by omega)), fun q hq => hjs q (hjm' q hq), ?_, htl', hO8.ext .go, (hR8.ext .go).top (by omega), hdt⟩, ⟨rfl, rfl, by rw [w64 (by omega) (by omega)]; rfl⟩, by simp only; omega⟩
      simp only
      rw [hjy', hjy, wmI_step, Nat.zero_add]
    · obtain rfl : d = L.length := by omega
      rw [hsg]
      repeat (first | exact trivial | refine stp ?_ | refine ldCg ?_ | refine ldNg ?_ | refine ldSg ?_ | refine ldSb ?_ | refine bnd ?_ | refine bnd1 ?_ | refine drawQ (by decide +kernel) mixed (by decide +kernel) ?_)
      refine (PairsO_ok js _ w4 (hIt (W := w4) .go (hrow.imp_right (·.ext .go))) (by omega)).mono ?_
      rintro v5 w5 ⟨hP5, hE5⟩
      have hz5 := hE5.size
      repeat (first | exact trivial | refine stp ?_ | refine ldCg ?_ | refine ldNg ?_ | refine ldSg ?_ | refine ldSb ?_ | refine bnd ?_ | refine bnd1 ?_ | refine drawQ (by decide +kernel) mixed (by decide +kernel) ?_)
      rw [List.take_length] at htd
      refine ⟨_, _, tt, js, rfl, (hOs.ext .go).base (by omega), RunK.append (l := []) (m := w2.heap.size) (by show w.heap.size ≤ _; omega) ((hRs.ext .go).top (by omega)), hP5.base (by omega), hjs, htd, ?_, .go⟩
      rw [pr_dat, hjy, hend]
theorem SamePair_ok (p q : PR) (w : World) (h1 : SlB w p.kv p.k) (h2 : SlB w p.vv p.v) (h3 : SlB w q.kv q.k) (h4 : SlB w q.vv q.v) :
    CallK Tryz.prog 92 [.agg [p.kv, p.vv].toArray, .agg [q.kv, q.vv].toArray].toArray w fun v w' => v = .bool (decide (p.dat = q.dat)) ∧ Ext w w' := by
  obtain ⟨kv, vv, k, v⟩ := p
  obtain ⟨kv', vv', k', v'⟩ := q
  simp only at h1 h2 h3 h4
  obtain ⟨a1, c1, rfl⟩ := slv_of h1
  obtain ⟨a2, c2, rfl⟩ := slv_of h2
  obtain ⟨a3, c3, rfl⟩ := slv_of h3
  obtain ⟨a4, c4, rfl⟩ := slv_of h4
  refine enterT Tryz.func92 rfl Tryz.ntmps92 Tryz.results92 rfl (by decide) ?_
  repeat (first | exact trivial | refine stp ?_ | refine ldCg ?_ | refine ldNg ?_ | refine ldSg ?_ | refine ldSb ?_ | refine bnd ?_ | refine bnd1 ?_ | refine drawQ (by decide +kernel) mixed (by decide +kernel) ?_)
  first | refine newS ?_ | refine newZ ?_
  intro w1 hE1 hz1 hB1
  first | refine newS ?_ | refine newZ ?_
  intro w2 hE2 hz2 hB2
  repeat (first | exact trivial | refine stp ?_ | refine ldCg ?_ | refine ldNg ?_ | refine ldSg ?_ | refine ldSb ?_ | refine bnd ?_ | refine bnd1 ?_ | refine drawQ (by decide +kernel) mixed (by decide +kernel) ?_)
  refine (Same_ok k k' _ _ w2 (h1.ext .go) (h3.ext .go)).mono ?_
  rintro _ w3 ⟨rfl, hE3⟩
  have hz3 := hE3.size
  by_cases hk : k = k'
  · rw [decide_eq_true hk]
    repeat (first | exact trivial | refine stp ?_ | refine ldCg ?_ | refine ldNg ?_ | refine ldSg ?_ | refine ldSb ?_ | refine bnd ?_ | refine bnd1 ?_ | refine drawQ (by decide +kernel) mixed (by decide +kernel) ?_)
    refine (Same_ok v v' _ _ w3 (h2.ext .go) (h4.ext .go)).mono ?_
    rintro _ w4 ⟨rfl, hE4⟩
    have hz4 := hE4.size
    repeat (first | exact trivial | refine stp ?_ | refine ldCg ?_ | refine ldNg ?_ | refine ldSg ?_ | refine ldSb ?_ | refine bnd ?_ | refine bnd1 ?_ | refine drawQ (by decide +kernel) mixed (by decide +kernel) ?_)
    refine ⟨?_, .go⟩
    simp only [PR.dat, Prod.mk.injEq, hk, true_and]
  · rw [decide_eq_false hk]
    repeat (first | exact trivial | refine stp ?_ | refine ldCg ?_ | refine ldNg ?_ | refine ldSg ?_ | refine ldSb ?_ | refine bnd ?_ | refine bnd1 ?_ | refine drawQ (by decide +kernel) mixed (by decide +kernel) ?_)
    refine ⟨?_, .go⟩
    rw [decide_eq_false]
    intro h
    exact hk (congrArg Prod.fst h)
theorem SamePairs_ok (ps qs : List PR) (pv qv : Value) (w : World) (hp : PairsAt w pv ps) (hq : PairsAt w qv qs) :
    CallK Tryz.prog 37 [pv, qv].toArray w fun v w' => v = .bool (decide (ps.map PR.dat = qs.map PR.dat)) ∧ Ext w w' := by
  have hpn : ps.length ≤ 9223372036854775807 := by obtain ⟨_, _, _, h1, h2, _⟩ := hp.1; omega
  obtain ⟨pa, pc, rfl⟩ := slv_of hp.1
  obtain ⟨qa, qc, rfl⟩ := slv_of hq.1
  refine enterT Tryz.func37 rfl Tryz.ntmps37 Tryz.results37 rfl (by decide) ?_
  repeat (first | exact trivial | refine stp ?_ | refine ldCg ?_ | refine ldNg ?_ | refine ldSg ?_ | refine ldSb ?_ | refine bnd ?_ | refine bnd1 ?_ | refine drawQ (by decide +kernel) mixed (by decide +kernel) ?_)
  refine ⟨fun hne => ⟨?_, .go⟩, fun he => ?_⟩
  · rw [decide_eq_false]
    intro h
    have := congrArg List.length h
    simp only [List.length_map] at this
    omega
  refine loopX (ι := Nat) (fun i => [(0, .slice pa ps.length pc), (1, .slice qa qs.length qc), (5, .int .i64 i)])
    (fun i W => Ext w W ∧ i ≤ ps.length ∧ (ps.take i).map PR.dat = (qs.take i).map PR.dat) (fun i => ps.length - i) 0 ⟨.go, Nat.zero_le _, rfl⟩ ?_ ?_
  · repeat (first | exact trivial | refine stp ?_ | refine ldCg ?_ | refine ldNg ?_ | refine ldSg ?_ | refine ldSb ?_ | refine bnd ?_ | refine bnd1 ?_ | refine drawQ (by decide +kernel) mixed (by decide +kernel) ?_)
  · rintro i s1 w1 ⟨hE1, hi, htk⟩
    have hz1 := hE1.size
    repeat (first | exact trivial | refine stp ?_ | refine ldCg ?_ | refine ldNg ?_ | refine ldSg ?_ | refine ldSb ?_ | refine bnd ?_ | refine bnd1 ?_ | refine drawQ (by decide +kernel) mixed (by decide +kernel) ?_)
    refine ⟨fun hlt => ?_, fun hge => ?_⟩
    · obtain ⟨b, o, rfl, hR⟩ := pr_row hp.1 (by omega)
      obtain ⟨b', o', rfl, hR'⟩ := pr_row hq.1 (by omega)
      obtain ⟨p, hx⟩ : ∃ x, ps[i]? = some x := ⟨_, List.getElem?_eq_getElem (by omega)⟩
      obtain ⟨q, hy⟩ : ∃ x, qs[i]? = some x := ⟨_, List.getElem?_eq_getElem (by omega)⟩
      obtain ⟨p1, p2⟩ := hp.2 _ (List.mem_of_getElem? hx)
      obtain ⟨q1, q2⟩ := hq.2 _ (List.mem_of_getElem? hy)
      repeat (first | exact trivial | refine stp ?_ | refine ldCg ?_ | refine ldNg ?_ | refine ldSg ?_ | refine ldSb ?_ | refine bnd ?_ | refine bnd1 ?_ | refine drawQ (by decide +kernel) mixed (by decide +kernel) ?_)
      refine ldPair hx ?_
      repeat (first | exact trivial | refine stp ?_ | refine ldCg ?_ | refine ldNg ?_ | refine ldSg ?_ | refine ldSb ?_ | refine bnd ?_ | refine bnd1 ?_ | refine drawQ (by decide +kernel) mixed (by decide +kernel) ?_)
      refine ldPair hy ?_
      repeat (first | exact trivial | refine stp ?_ | refine ldCg ?_ | refine ldNg ?_ | refine ldSg ?_ | refine ldSb ?_ | refine bnd ?_ | refine bnd1 ?_ | refine drawQ (by decide +kernel) mixed (by decide +kernel) ?_)
      refine qcall _ (fun w' hw' => SamePair_ok p q w' (p1.ext .go) (p2.ext .go) (q1.ext .go) (q2.ext .go)) ?_
      have tk1 : ps.take (i + 1) = ps.take i ++ [p] := by
        obtain ⟨hil, he⟩ := List.getElem?_eq_some_iff.1 hx
        rw [List.take_succ_eq_append_getElem hil, he]
      have tk2 : qs.take (i + 1) = qs.take i ++ [q] := by
        obtain ⟨hil, he⟩ := List.getElem?_eq_some_iff.1 hy
        rw [List.take_succ_eq_append_getElem hil, he]
      by_cases hd : p.dat = q.dat
      · rw [decide_eq_true hd]
        repeat (first | exact trivial | refine stp ?_ | refine ldCg ?_ | refine ldNg ?_ | refine ldSg ?_ | refine ldSb ?_ | refine bnd ?_ | refine bnd1 ?_ | refine drawQ (by decide +kernel) mixed (by decide +kernel) ?_)
        intro w2 hE2
        repeat (first | exact trivial | refine stp ?_ | refine ldCg ?_ | refine ldNg ?_ | refine ldSg ?_ | refine ldSb ?_ | refine bnd ?_ | refine bnd1 ?_ | refine drawQ (by decide +kernel) mixed (by decide +kernel) ?_)
        exact ⟨i + 1, ⟨.go, by omega, by rw [tk1, tk2, List.map_append, List.map_append, htk]; simp only [List.map_cons, List.map_nil, hd]⟩, by rw [w64 (by omega) (by omega)]; rfl, by omega⟩
      · rw [decide_eq_false hd]
        repeat (first | exact trivial | refine stp ?_ | refine ldCg ?_ | refine ldNg ?_ | refine ldSg ?_ | refine ldSb ?_ | refine bnd ?_ | refine bnd1 ?_ | refine drawQ (by decide +kernel) mixed (by decide +kernel) ?_)
        intro w2 hE2
        repeat (first | exact trivial | refine stp ?_ | refine ldCg ?_ | refine ldNg ?_ | refine ldSg ?_ | refine ldSb ?_ | refine bnd ?_ | refine bnd1 ?_ | refine drawQ (by decide +kernel) mixed (by decide +kernel) ?_)
        refine ⟨?_, .go⟩
        rw [decide_eq_false]
        intro h
        have h3 := congrArg (·[i]?) h
        simp only [List.getElem?_map, hx, hy, Option.map_some, Option.some.injEq] at h3
        exact hd h3
    · obtain rfl : i = ps.length := by omega
      repeat (first | exact trivial | refine stp ?_ | refine ldCg ?_ | refine ldNg ?_ | refine ldSg ?_ | refine ldSb ?_ | refine bnd ?_ | refine bnd1 ?_ | refine drawQ (by decide +kernel) mixed (by decide +kernel) ?_)
      refine ⟨?_, .go⟩
      rw [List.take_length, List.take_of_length_le (by omega)] at htk
      rw [decide_eq_true htk]
theorem SameSteps_ok (ss tt : List SR) (sv tv : Value) (w : World) (hs : StepsAt w sv ss) (ht : StepsAt w tv tt) :
    CallK Tryz.prog 35 [sv, tv].toArray w fun v w' => v = .bool (decide (ss.map SR.dt = tt.map SR.dt)) ∧ Ext w w' := by
  have hsn : ss.length ≤ 9223372036854775807 := by obtain ⟨_, _, _, h1, h2, _⟩ := hs.1; omega
  obtain ⟨sa, sc, rfl⟩ := slv_of hs.1
  obtain ⟨ta, tc, rfl⟩ := slv_of ht.1
  refine enterT Tryz.func35 rfl Tryz.ntmps35 Tryz.results35 rfl (by decide) ?_
  repeat (first | exact trivial | refine stp ?_ | refine ldCg ?_ | refine ldNg ?_ | refine ldSg ?_ | refine ldSb ?_ | refine bnd ?_ | refine bnd1 ?_ | refine drawQ (by decide +kernel) mixed (by decide +kernel) ?_)
  refine ⟨fun hne => ⟨?_, .go⟩, fun he => ?_⟩
  · rw [decide_eq_false]
    intro h
    have := congrArg List.length h
    simp only [List.length_map] at this
    omega
  refine loopX (ι := Nat) (fun i => [(0, .slice sa ss.length sc), (1, .slice ta tt.length tc), (5, .int .i64 i)])
    (fun i W => Ext w W ∧ i ≤ ss.length ∧ (ss.take i).map SR.dt = (tt.take i).map SR.dt) (fun i => ss.length - i) 0 ⟨.go, Nat.zero_le _, rfl⟩ ?_ ?_
  · repeat (first | exact trivial | refine stp ?_ | refine ldCg ?_ | refine ldNg ?_ | refine ldSg ?_ | refine ldSb ?_ | refine bnd ?_ | refine bnd1 ?_ | refine drawQ (by decide +kernel) mixed (by decide +kernel) ?_)
  · rintro i s1 w1 ⟨hE1, hi, htk⟩
    have hz1 := hE1.size
    repeat (first | exact trivial | refine stp ?_ | refine ldCg ?_ | refine ldNg ?_ | refine ldSg ?_ | refine ldSb ?_ | refine bnd ?_ | refine bnd1 ?_ | refine drawQ (by decide +kernel) mixed (by decide +kernel) ?_)
    refine ⟨fun hlt => ?_, fun hge => ?_⟩
    · obtain ⟨b, o, rfl, hR⟩ := hs.1.row (f := SR.cells) (sz := 2) (fun _ _ => rfl) (by decide) (by omega)
      obtain ⟨b', o', rfl, hR'⟩ := ht.1.row (f := SR.cells) (sz := 2) (fun _ _ => rfl) (by decide) (by omega)
      obtain ⟨p, hx⟩ : ∃ x, ss[i]? = some x := ⟨_, List.getElem?_eq_getElem (by omega)⟩
      obtain ⟨q, hy⟩ : ∃ x, tt[i]? = some x := ⟨_, List.getElem?_eq_getElem (by omega)⟩
      obtain ⟨p1, p2, p3⟩ := hs.2 _ (List.mem_of_getElem? hx)
      obtain ⟨q1, q2, q3⟩ := ht.2 _ (List.mem_of_getElem? hy)
      obtain ⟨pka, pkc, hpk⟩ := slv_of p3
      obtain ⟨qka, qkc, hqk⟩ := slv_of q3
      have ep : SR.cells p = [.int .u16 p.bm, .slice pka p.ks.length pkc] := by unfold SR.cells; rw [hpk]
      have eq : SR.cells q = [.int .u16 q.bm, .slice qka q.ks.length qkc] := by unfold SR.cells; rw [hqk]
      repeat (first | exact trivial | refine stp ?_ | refine ldCg ?_ | refine ldNg ?_ | refine ldSg ?_ | refine ldSb ?_ | refine bnd ?_ | refine bnd1 ?_ | refine drawQ (by decide +kernel) mixed (by decide +kernel) ?_)
      refine ldRowF (f := SR.cells) 0 hx ?_
      repeat (first | exact trivial | refine stp ?_ | refine ldCg ?_ | refine ldNg ?_ | refine ldSg ?_ | refine ldSb ?_ | refine bnd ?_ | refine bnd1 ?_ | refine drawQ (by decide +kernel) mixed (by decide +kernel) ?_)
      refine ldRowF (f := SR.cells) 0 hy ?_
      repeat (first | exact trivial | refine stp ?_ | refine ldCg ?_ | refine ldNg ?_ | refine ldSg ?_ | refine ldSb ?_ | refine bnd ?_ | refine bnd1 ?_ | refine drawQ (by decide +kernel) mixed (by decide +kernel) ?_)
      have hno : p.dt ≠ q.dt → decide (ss.map SR.dt = tt.map SR.dt) = false := by
        intro hd
        rw [decide_eq_false]
        intro h
        have h3 := congrArg (·[i]?) h
        simp only [List.getElem?_map, hx, hy, Option.map_some, Option.some.injEq] at h3
        exact hd h3
      refine ⟨fun hb w2 hE2 => ⟨(hno fun h => hb (by have := congrArg Prod.fst h; simp only [SR.dt] at this; omega)).symm, .go⟩, fun hb => ⟨by omega, by omega, ?_⟩⟩
      refine ldRowF (f := SR.cells) 1 hx ?_ (hv := by rw [ep]; rfl)
      repeat (first | exact trivial | refine stp ?_ | refine ldCg ?_ | refine ldNg ?_ | refine ldSg ?_ | refine ldSb ?_ | refine bnd ?_ | refine bnd1 ?_ | refine drawQ (by decide +kernel) mixed (by decide +kernel) ?_)
      refine ldRowF (f := SR.cells) 1 hy ?_ (hv := by rw [eq]; rfl)
      repeat (first | exact trivial | refine stp ?_ | refine ldCg ?_ | refine ldNg ?_ | refine ldSg ?_ | refine ldSb ?_ | refine bnd ?_ | refine bnd1 ?_ | refine drawQ (by decide +kernel) mixed (by decide +kernel) ?_)
      intro w2 hE2
      refine ⟨fun hb2 => ⟨(hno fun h => hb2 (by have := congrArg (fun x => x.2.length) h; simp only [SR.dt] at this; omega)).symm, .go⟩, fun hb2 => ?_⟩
      have hz2 := hE2.size
      have hpn2 : p.ks.length ≤ 9223372036854775807 := by obtain ⟨_, _, _, h1, h2, _⟩ := p3; omega
      repeat (first | exact trivial | refine stp ?_ | refine ldCg ?_ | refine ldNg ?_ | refine ldSg ?_ | refine ldSb ?_ | refine bnd ?_ | refine bnd1 ?_ | refine drawQ (by decide +kernel) mixed (by decide +kernel) ?_)
      refine loopX (ι := Nat) (fun j => [(0, .slice (some ⟨b, o, none⟩) ss.length sc), (1, .slice (some ⟨b', o', none⟩) tt.length tc), (5, .int .i64 i), (6, .int .i64 j)])
        (fun j W => Ext w1 W ∧ j ≤ p.ks.length ∧ p.ks.take j = q.ks.take j) (fun j => p.ks.length - j) 0 ⟨.go, Nat.zero_le _, rfl⟩ ?_ ?_
      · repeat (first | exact trivial | refine stp ?_ | refine ldCg ?_ | refine ldNg ?_ | refine ldSg ?_ | refine ldSb ?_ | refine bnd ?_ | refine bnd1 ?_ | refine drawQ (by decide +kernel) mixed (by decide +kernel) ?_)
      · rintro j s3 w3 ⟨hE3, hj, htj⟩
        have hz3 := hE3.size
        repeat (first | exact trivial | refine stp ?_ | refine ldCg ?_ | refine ldNg ?_ | refine ldSg ?_ | refine ldSb ?_ | refine bnd ?_ | refine bnd1 ?_ | refine drawQ (by decide +kernel) mixed (by decide +kernel) ?_)
        refine ldRowF (f := SR.cells) 1 hx ?_ (hv := by rw [ep]; rfl)
        repeat (first | exact trivial | refine stp ?_ | refine ldCg ?_ | refine ldNg ?_ | refine ldSg ?_ | refine ldSb ?_ | refine bnd ?_ | refine bnd1 ?_ | refine drawQ (by decide +kernel) mixed (by decide +kernel) ?_)
        refine ⟨fun hlj => ?_, fun hgj => ?_⟩
        · rw [hpk] at p3
          rw [hqk] at q3
          obtain ⟨kb, ko, rfl, hkR⟩ := dg_row p2 p3 (by omega)
          obtain ⟨kb', ko', rfl, hkR'⟩ := dg_row q2 q3 (by omega)
          obtain ⟨u, hu⟩ : ∃ x, p.ks[j]? = some x := ⟨_, List.getElem?_eq_getElem (by omega)⟩
          obtain ⟨u', hu'⟩ : ∃ x, q.ks[j]? = some x := ⟨_, List.getElem?_eq_getElem (by omega)⟩
          repeat (first | exact trivial | refine stp ?_ | refine ldCg ?_ | refine ldNg ?_ | refine ldSg ?_ | refine ldSb ?_ | refine bnd ?_ | refine bnd1 ?_ | refine drawQ (by decide +kernel) mixed (by decide +kernel) ?_)
          refine ldRowF (f := SR.cells) 1 hx ?_ (hv := by rw [ep]; rfl)
          repeat (first | exact trivial | refine stp ?_ | refine ldCg ?_ | refine ldNg ?_ | refine ldSg ?_ | refine ldSb ?_ | refine bnd ?_ | refine bnd1 ?_ | refine drawQ (by decide +kernel) mixed (by decide +kernel) ?_)
          refine ldRow (f := vbs) hu ?_
          repeat (first | exact trivial | refine stp ?_ | refine ldCg ?_ | refine ldNg ?_ | refine ldSg ?_ | refine ldSb ?_ | refine bnd ?_ | refine bnd1 ?_ | refine drawQ (by decide +kernel) mixed (by decide +kernel) ?_)
          refine ldRowF (f := SR.cells) 1 hy ?_ (hv := by rw [eq]; rfl)
          repeat (first | exact trivial | refine stp ?_ | refine ldCg ?_ | refine ldNg ?_ | refine ldSg ?_ | refine ldSb ?_ | refine bnd ?_ | refine bnd1 ?_ | refine drawQ (by decide +kernel) mixed (by decide +kernel) ?_)
          refine ldRow (f := vbs) hu' ?_
          repeat (first | exact trivial | refine stp ?_ | refine ldCg ?_ | refine ldNg ?_ | refine ldSg ?_ | refine ldSb ?_ | refine bnd ?_ | refine bnd1 ?_ | refine drawQ (by decide +kernel) mixed (by decide +kernel) ?_)
          refine eqd_lit _ _ _ _ _ _ Tryz.underlying5 c5 (p2 _ (List.mem_of_getElem? hu)) (q2 _ (List.mem_of_getElem? hu')) ?_
          by_cases hd : u = u'
          · rw [decide_eq_true hd]
            repeat (first | exact trivial | refine stp ?_ | refine ldCg ?_ | refine ldNg ?_ | refine ldSg ?_ | refine ldSb ?_ | refine bnd ?_ | refine bnd1 ?_ | refine drawQ (by decide +kernel) mixed (by decide +kernel) ?_)
            intro w4 hE4
            repeat (first | exact trivial | refine stp ?_ | refine ldCg ?_ | refine ldNg ?_ | refine ldSg ?_ | refine ldSb ?_ | refine bnd ?_ | refine bnd1 ?_ | refine drawQ (by decide +kernel) mixed (by decide +kernel) ?_)
            refine ⟨j + 1, ⟨.go, by omega, ?_⟩, by rw [w64 (by omega) (by omega)]; rfl, by omega⟩
            obtain ⟨e1, e2⟩ := List.getElem?_eq_some_iff.1 hu
            obtain ⟨e3, e4⟩ := List.getElem?_eq_some_iff.1 hu'
            rw [List.take_succ_eq_append_getElem e1, List.take_succ_eq_append_getElem e3, e2, e4, htj, hd]
          · rw [decide_eq_false hd]
            repeat (first | exact trivial | refine stp ?_ | refine ldCg ?_ | refine ldNg ?_ | refine ldSg ?_ | refine ldSb ?_ | refine bnd ?_ | refine bnd1 ?_ | refine drawQ (by decide +kernel) mixed (by decide +kernel) ?_)
            intro w4 hE4
            repeat (first | exact trivial | refine stp ?_ | refine ldCg ?_ | refine ldNg ?_ | refine ldSg ?_ | refine ldSb ?_ | refine bnd ?_ | refine bnd1 ?_ | refine drawQ (by decide +kernel) mixed (by decide +kernel) ?_)
            refine ⟨(hno fun h => ?_).symm, .go⟩
            have h3 := congrArg (fun x => x.2[j]?) h
            simp only [SR.dt, hu, hu', Option.some.injEq] at h3
            exact hd h3
        · obtain rfl : j = p.ks.length := by omega
          rw [List.take_length, List.take_of_length_le (by omega)] at htj
          have hd : p.dt = q.dt := by
            unfold SR.dt
            rw [htj, show p.bm = q.bm from by omega]
          have tk1 : ss.take (i + 1) = ss.take i ++ [p] := by
            obtain ⟨hil, he⟩ := List.getElem?_eq_some_iff.1 hx
            rw [List.take_succ_eq_append_getElem hil, he]
          have tk2 : tt.take (i + 1) = tt.take i ++ [q] := by
            obtain ⟨hil, he⟩ := List.getElem?_eq_some_iff.1 hy
            rw [List.take_succ_eq_append_getElem hil, he]
          repeat (first | exact trivial | refine stp ?_ | refine ldCg ?_ | refine ldNg ?_ | refine ldSg ?_ | refine ldSb ?_ | refine bnd ?_ | refine bnd1 ?_ | refine drawQ (by decide +kernel) mixed (by decide +kernel) ?_)
          exact ⟨i + 1, ⟨.go, by omega, by rw [tk1, tk2, List.map_append, List.map_append, htk]; simp only [List.map_cons, List.map_nil, hd]⟩, by rw [w64 (by omega) (by omega)]; rfl, by omega⟩
    · obtain rfl : i = ss.length := by omega
      repeat (first | exact trivial | refine stp ?_ | refine ldCg ?_ | refine ldNg ?_ | refine ldSg ?_ | refine ldSb ?_ | refine bnd ?_ | refine bnd1 ?_ | refine drawQ (by decide +kernel) mixed (by decide +kernel) ?_)
      refine ⟨?_, .go⟩
      rw [List.take_length, List.take_of_length_le (by omega)] at htk
      rw [decide_eq_true htk]
end Go.Proofs.YtebbgninkbghlaaGreatDoor

/-! Slg -/
namespace Go.Proofs.YtebbgninkbghlaaGreatDoor
set_option maxRecDepth 100000
open Go Go.RowKit
set_option linter.unusedVariables false
set_option linter.unusedSimpArgs false

theorem DelD_ok (A X D : List Value) (i len : Nat) (hAl : A.length = i * 32) (hXl : X.length = 32) (hDl : D.length = (len - 1 - i) * 32) (hi : i < len) (hD1 : ∀ v ∈ D, oneCellV v = true) (v : Value) (base : Nat) (w : World)
    (hO : Own w base 28 32 v len (A ++ (X ++ D))) (hbase : base ≤ w.heap.size) (hsz : len ≤ 4000000000) :
    CallK Tryz.prog 88 [v, .int .i64 i, .int .i64 (i + 1 : Nat)].toArray w fun v' w' => v'.ownBlock = v.ownBlock ∧ Own w' base 28 32 v' (len - 1) (A ++ D) ∧ Below base w w' ∧ OnlyBy v w w' := by
  obtain ⟨a, c, rfl⟩ := own_slice hO
  have hcl := hO.cap_le
  obtain ⟨_, ⟨h0, h0'⟩ | ⟨g, cap, cur, h0, hbg, hg, hnc, hcm, hcs, hct⟩⟩ := hO
  · omega
  cases h0
  obtain ⟨rest, hrest⟩ : ∃ rest, cur.toList = A ++ (X ++ (D ++ rest)) := ⟨cur.toList.drop (len * 32), by
    have := List.take_append_drop (len * 32) cur.toList
    rw [hct, List.append_assoc, List.append_assoc] at this
    exact this.symm⟩
  have hG : Blk w g 28 (A ++ (X ++ (D ++ rest))) := ⟨by rw [← hrest]; simpa using hg⟩
  have hrl : rest.length = (c - len) * 32 := by
    have := congrArg List.length hrest
    simp only [List.length_append, Array.length_toList, hcs] at this
    omega
  refine enterT Tryz.func88 rfl Tryz.ntmps88 Tryz.results88 rfl (by decide) ?_
  simp only [↓VD, VP, VT, isAggD, reduceCtorEq, Int.reduceEq, Int.reduceNe, Int.reduceLT, Int.reduceLE, implies_true, Nat.reduceEqDiff, reduceIte, ite_true, ite_false, eq_self, Nat.reduceLT, Nat.reduceLeDiff, Nat.reduceAdd, Nat.reduceMul, Nat.reduceSub, intOf]
  refine ⟨by omega, by omega, by omega, by omega, fun a' ha' => ⟨fun h => absurd h (by omega), fun _ => ?_⟩⟩
  refine drawH (fun _ => True) [0, 1, 2, 3, 4, 5, 6, 7] mixed (by decide +kernel) (fun w1 hE1 hh => ⟨trivial, ?_⟩)
  simp only [↓VD, VP, VT, isAggD, reduceCtorEq, Int.reduceEq, Int.reduceNe, Int.reduceLT, Int.reduceLE, implies_true, Nat.reduceEqDiff, reduceIte, ite_true, ite_false, eq_self, Nat.reduceLT, Nat.reduceLeDiff, Nat.reduceAdd, Nat.reduceMul, Nat.reduceSub, intOf]
  refine ⟨by omega, by omega, fun a1 ha1 => ⟨by omega, by omega, by omega, fun a2 ha2 => ?_⟩⟩
  obtain ⟨o1, rfl, ho1⟩ := ha1 g 0 rfl
  obtain rfl : o1 = 0 := by have := ho1 (by omega); simpa using this
  obtain ⟨o2, rfl, ho2⟩ := ha2 g 0 rfl
  have hG1 := hG.ext hE1
  have hD2 : SlC w1 (.slice (some ⟨g, o2, none⟩) (len - 1 - i) (c - (i + 1))) (len - 1 - i) D := by
    refine ⟨_, _, rfl, by omega, by rw [maxLen_eq] at hcm; omega, Or.inr ⟨g, o2, rfl, fun j u hj => ?_⟩⟩
    have hjl := (List.getElem?_eq_some_iff.1 hj).1
    have e2 : o2 = (i + 1) * 32 := by have := ho2 (by omega); simpa using this
    rw [hG1.cell, ← List.append_assoc, List.getElem?_append_right (by rw [List.length_append]; omega), List.length_append, List.getElem?_append_left (by omega), ← hj]
    congr 1
    omega
  have hO1 : Own w1 base 28 32 (.slice (some ⟨g, 0, none⟩) i c) i A := own_mk hG1 hbg hAl (by simp only [List.length_append]; omega) (by omega) (by rw [maxLen_eq] at hcm; omega)
  rw [show ((i : Int) - 0).toNat = i from by omega, show ((c : Int) - 0).toNat = c from by omega, show ((len : Int) - ((i + 1 : Nat) : Int)).toNat = len - 1 - i from by omega, show ((c : Int) - ((i + 1 : Nat) : Int)).toNat = c - (i + 1) from by omega]
  refine apSp (sz := 32) (n := i) (m := len - 1 - i) Tryz.underlying49 z28 c28 rfl (by decide) hO1 (by have := hE1.size; omega) hD2 hDl hD1 (by omega) (fun w2 hO2 hg2 => ?_)
  refine told (fun _ => True) trivial trivial ?_
  have hln : i + (len - 1 - i) = len - 1 := by omega
  rw [hln] at hO2
  rw [hln]
  have hE2 := below_of_grown hO1 (by have := hE1.size; omega) hg2
  obtain ⟨_, ⟨h0, h0'⟩ | ⟨g', cap', cur', h0, hbg', hg', hnc', hcm', hcs', hct'⟩⟩ := hO2
  · cases h0
  cases h0
  obtain ⟨rest', hrest'⟩ : ∃ rest', cur'.toList = (A ++ D) ++ rest' := ⟨cur'.toList.drop ((len - 1) * 32), by
    have := List.take_append_drop ((len - 1) * 32) cur'.toList
    rw [hct'] at this
    exact this.symm⟩
  have hrl' : rest'.length = (c - (len - 1)) * 32 := by
    have := congrArg List.length hrest'
    simp only [List.length_append, Array.length_toList, hcs'] at this
    omega
  obtain ⟨r1, r2, rfl, hr1⟩ : ∃ r1 r2, rest' = r1 ++ r2 ∧ r1.length = 32 := ⟨rest'.take 32, rest'.drop 32, (List.take_append_drop _ _).symm, by rw [List.length_take]; omega⟩
  have hG2 : Blk w2 g 28 ((A ++ D) ++ (r1 ++ r2)) := ⟨by rw [← hrest']; simpa using hg'⟩
  rw [List.length_append] at hrl'
  simp only [↓VD, VP, VT, isAggD, reduceCtorEq, Int.reduceEq, Int.reduceNe, Int.reduceLT, Int.reduceLE, implies_true, Nat.reduceEqDiff, reduceIte, ite_true, ite_false, eq_self, Nat.reduceLT, Nat.reduceLeDiff, Nat.reduceAdd, Nat.reduceMul, Nat.reduceSub, intOf]
  refine ⟨by omega, by omega, by omega, fun a5 ha5 => ?_⟩
  obtain ⟨o5, rfl, ho5⟩ := ha5 g 0 rfl
  obtain rfl : o5 = (len - 1) * 32 := by have := ho5 (by omega); simpa using this
  rw [show ((len : Int) - ((len - 1 : Nat) : Int)).toNat = 1 from by omega]
  refine clS (sz := 32) (T := 28) Tryz.underlying49 z28 rfl (by decide) (by decide +kernel) hG2 (by decide +kernel) (by simp only [List.length_append]; omega) (fun w3 hP3 => ?_)
  generalize hze : (Builtin.zeroCells _ 1).toList = zs at hP3
  have hzl : zs.length = 32 := by rw [← hze]; decide +kernel
  rw [splice_at (by rw [List.length_append]; omega) (by rw [hr1, hzl])] at hP3
  simp only [↓VD, VP, VT, isAggD, reduceCtorEq, Int.reduceEq, Int.reduceNe, Int.reduceLT, Int.reduceLE, implies_true, Nat.reduceEqDiff, reduceIte, ite_true, ite_false, eq_self, Nat.reduceLT, Nat.reduceLeDiff, Nat.reduceAdd, Nat.reduceMul, Nat.reduceSub, intOf]
  have hne : ∀ k : Nat, (Value.slice (some ⟨g, 0, none⟩) len c).ownBlock ≠ some k → k ≠ g := fun k hk e => hk (by simp [Value.ownBlock, e])
  refine ⟨rfl, own_mk (sz := 32) (n := len - 1) (cap := c) hP3.blk hbg (by rw [List.length_append]; omega) (by rw [List.length_append]; omega) (by omega) (by rw [maxLen_eq] at hcm; omega), (hE1.mono hbase).trans (hE2.trans (hP3.below (by omega))), fun k T l hk hBk => ?_⟩
  have h1 := hBk.ext hE1
  exact hP3.keep ⟨by rw [hg2.block k h1.lt (fun h => hne k hk (by simpa using h))]; exact h1.out⟩ (hne k hk)
end Go.Proofs.YtebbgninkbghlaaGreatDoor

/-! Cut -/
namespace Go.Proofs.YtebbgninkbghlaaGreatDoor
set_option maxRecDepth 100000
open Go Go.RowKit
set_option linter.unusedVariables false
set_option linter.unusedSimpArgs false
attribute [local irreducible] vcT opsT qT vcOp Q1 vcPure vcLoad vcStore ldC ldN ldD grdT grdQ vc vcOps vcQ hT
attribute [local irreducible] sumR sumP shaP keyD bucketP branchP

/-- The digests of a branch without that of the digit c. -/
def cutK (bm c : Nat) (ks : List (List UInt8)) : List (List UInt8) := if hasB bm (c : Int) = true then ks.eraseIdx (rankB bm (c : Int)) else ks
/-- A way down without the digests of the way of K. -/
def cutS (K : List UInt8) : Nat → List (Nat × List (List UInt8)) → List (Nat × List (List UInt8))
  | _, [] => []
  | i, s :: r => (s.1, cutK s.1 (digP K i) s.2) :: cutS K (i + 1) r
theorem cutS_len (K : List UInt8) : ∀ (i : Nat) (L : List (Nat × List (List UInt8))), (cutS K i L).length = L.length
  | _, [] => rfl
  | i, s :: r => by simp [cutS, cutS_len K (i + 1) r]
theorem cutS_snoc (K : List UInt8) : ∀ (i : Nat) (L : List (Nat × List (List UInt8))) (x : Nat × List (List UInt8)), cutS K i (L ++ [x]) = cutS K i L ++ [(x.1, cutK x.1 (digP K (i + L.length)) x.2)]
  | i, [], x => rfl
  | i, s :: r, x => by
    show (s.1, cutK s.1 (digP K i) s.2) :: cutS K (i + 1) (r ++ [x]) = _
    rw [cutS_snoc K (i + 1) r x, show i + 1 + r.length = i + (s :: r).length from by simp; omega]
    rfl
theorem cutS_get (K : List UInt8) : ∀ (i j : Nat) (L : List (Nat × List (List UInt8))), (cutS K i L)[j]? = (L[j]?).map fun s => (s.1, cutK s.1 (digP K (i + j)) s.2)
  | i, j, [] => by simp [cutS]
  | i, 0, s :: r => rfl
  | i, j + 1, s :: r => by
    show (cutS K (i + 1) r)[j]? = _
    rw [cutS_get K (i + 1) j r, show i + 1 + j = i + (j + 1) from by omega]
    rfl
theorem cutK_len (bm c : Nat) (ks : List (List UInt8)) : (cutK bm c ks).length ≤ ks.length := by
  unfold cutK
  split
  · rw [List.length_eraseIdx]; split <;> omega
  · exact Nat.le_refl _
theorem cutK_mem {bm c : Nat} {ks : List (List UInt8)} : ∀ x ∈ cutK bm c ks, x ∈ ks := by
  intro x hx
  unfold cutK at hx
  split at hx
  · exact List.mem_of_mem_eraseIdx hx
  · exact hx
theorem cutK_has {bm c : Nat} {ks : List (List UInt8)} (h : hasB bm (c : Int) = true) (hl : rankB bm (c : Int) < ks.length) : cutK bm c ks = ks.take (rankB bm (c : Int)) ++ ks.drop (rankB bm (c : Int) + 1) := by
  rw [cutK, if_pos h, List.eraseIdx_eq_take_drop_succ]
theorem cutK_not {bm c : Nat} {ks : List (List UInt8)} (h : ¬ (hasB bm (c : Int) = true ∧ rankB bm (c : Int) < ks.length)) : cutK bm c ks = ks := by
  unfold cutK
  split
  · rename_i hh
    exact List.eraseIdx_of_length_le (Nat.le_of_not_lt fun e => h ⟨hh, e⟩)
  · rfl

/-! ### Blocks -/
theorem RunK.only_lt {w w' : World} {hi : Nat} {x : Value} (k : OnlyBy x w w') : ∀ {l : List SR} {lo : Nat}, (∀ g, x.ownBlock = some g → g < lo) → RunK w hi lo l → RunK w' hi lo l
  | [], lo, _, h => h
  | t :: r, lo, hx, h => by
    obtain ⟨mid, h1, h2, h3⟩ := h
    refine ⟨mid, h1, ⟨h2.1, h2.2.1, h2.2.2.1.only (fun g hg e => ?_) k, h2.2.2.2⟩, RunK.only_lt k (fun g hg => Nat.lt_of_lt_of_le (hx g hg) h1) h3⟩
    have := hx g e
    have := h2.2.2.1.lo g hg
    omega
/-- One list of digests, written in its own block. -/
theorem RunK.set {w w' : World} {hi : Nat} {t t' : SR} {r : List SR} (k : OnlyBy t.kv w w') (hb : t'.bm < 65536) (hd : ∀ d ∈ t'.ks, d.length = 32) (ho : t'.kv.ownBlock = t.kv.ownBlock) : ∀ {l : List SR} {lo : Nat}, lo ≤ hi →
    (∀ b, Own w b 28 32 t.kv t.ks.length (t.ks.flatMap vbs) → Own w' b 28 32 t'.kv t'.ks.length (t'.ks.flatMap vbs)) → RunK w hi lo (l ++ t :: r) → RunK w' hi lo (l ++ t' :: r)
  | [], lo, _, hO, h => by
    obtain ⟨mid, h1, h2, h3⟩ := h
    exact ⟨mid, h1, ⟨hb, hd, hO _ h2.2.2.1, fun g hg => h2.2.2.2 g (by rw [← ho]; exact hg)⟩, RunK.only_lt k h2.2.2.2 h3⟩
  | s :: l, lo, hh, hO, h => by
    obtain ⟨mid, h1, h2, h3⟩ := h
    refine ⟨mid, h1, ⟨h2.1, h2.2.1, h2.2.2.1.only (fun g hg e => ?_) k, h2.2.2.2⟩, RunK.set k hb hd ho h3.le hO h3⟩
    have a1 := h2.2.2.2 g hg
    have a2 := (RunK.mem h3 t (by simp)).2.2
    have := a2.lo g e
    omega
theorem RunK.put {w w' : World} {hi b T U : Nat} {L m : List Value} (k : Blk w b T L) (hT : T ≠ 28) (p : Put w w' b U m) : ∀ {l : List SR} {lo : Nat}, RunK w hi lo l → RunK w' hi lo l
  | [], lo, h => h
  | t :: r, lo, h => by obtain ⟨mid, h1, h2, h3⟩ := h; exact ⟨mid, h1, ⟨h2.1, h2.2.1, h2.2.2.1.put k hT p, h2.2.2.2⟩, RunK.put k hT p h3⟩
theorem RunB.onlyT {w w' : World} {hi b2 e2 s2 n2 : Nat} {x : Value} {ys : List Value} (h2 : Own w b2 e2 s2 x n2 ys) (hne : 5 ≠ e2) (k : OnlyBy x w w') : ∀ {l : List (Value × List UInt8)} {lo : Nat}, RunB w hi lo l → RunB w' hi lo l
  | [], lo, h => h
  | t :: r, lo, h => by obtain ⟨mid, h1, h3, h4⟩ := h; exact ⟨mid, h1, ⟨h3.1.onlyT h2 hne k, h3.2⟩, RunB.onlyT h2 hne k h4⟩
end Go.Proofs.YtebbgninkbghlaaGreatDoor

/-! Rfp -/
namespace Go.Proofs.YtebbgninkbghlaaGreatDoor
set_option maxRecDepth 100000
open Go Go.RowKit
set_option linter.unusedVariables false
set_option linter.unusedSimpArgs false
set_option maxHeartbeats 1000000
attribute [local irreducible] vcT opsT qT vcOp Q1 vcPure vcLoad vcStore ldC ldN ldD grdT grdQ vc vcOps vcQ hT
attribute [local irreducible] sumR sumP shaP keyD bucketP branchP

theorem bitAnd (m c : Nat) (hm : m < 65536) (hc : c < 16) : ibits .and .u16 ((m : Int).fdiv (2 ^ min c IntKind.u16.bits)) 1 = ((if m.testBit c = true then 1 else 0 : Nat) : Int) := by
  have hd : m / 2 ^ c < 65536 := Nat.lt_of_le_of_lt (Nat.div_le_self _ _) hm
  rw [fdivN m c IntKind.u16.bits (by have : IntKind.u16.bits = 16 := rfl; omega), show (1 : Int) = ((1 : Nat) : Int) from rfl, (ibN .u16 rfl (m / 2 ^ c) 1 hd (by decide)).1, Nat.and_one_is_mod, Nat.testBit_eq_decide_div_mod_eq]
  by_cases h : m / 2 ^ c % 2 = 1
  · rw [if_pos (by simpa using h), h]
  · rw [if_neg (by simpa using h)]; omega
theorem ahead_ok (bm : Nat) (hb : bm < 65536) (c : Nat) (hc : c < 16) (w : World) :
    CallK Tryz.prog 173 [.int .u16 bm, .int .i64 c].toArray w fun v w' => v = .tuple [.int .i64 (rankB bm (c : Int)), .bool (hasB bm (c : Int))].toArray ∧ Ext w w' := by
  refine enterT Tryz.func173 rfl Tryz.ntmps173 Tryz.results173 rfl (by decide) ?_
  repeat (first | exact trivial | refine stp ?_ | refine ldCg ?_ | refine ldNg ?_ | refine ldSg ?_ | refine ldSb ?_ | refine bnd ?_ | refine bnd1 ?_ | refine drawQ (by decide +kernel) mixed (by decide +kernel) ?_)
  refine loopX (ι := Nat) (fun j => [(0, .int .u16 bm), (1, .int .i64 c), (6, .int .i64 (rankB bm (j : Int))), (7, .int .i64 j)]) (fun j W => Ext w W ∧ j ≤ c) (fun j => c - j) 0 ⟨.go, Nat.zero_le _⟩ ?_ ?_
  · repeat (first | exact trivial | refine stp ?_ | refine ldCg ?_ | refine ldNg ?_ | refine ldSg ?_ | refine ldSb ?_ | refine bnd ?_ | refine bnd1 ?_ | refine drawQ (by decide +kernel) mixed (by decide +kernel) ?_)
    rw [rank0]
    rfl
  · rintro j s1 w1 ⟨hE1, hj⟩
    have hz1 := hE1.size
    repeat (first | exact trivial | refine stp ?_ | refine ldCg ?_ | refine ldNg ?_ | refine ldSg ?_ | refine ldSb ?_ | refine bnd ?_ | refine bnd1 ?_ | refine drawQ (by decide +kernel) mixed (by decide +kernel) ?_)
    refine ⟨fun hlt => ?_, fun hge => ?_⟩
    · have hr := rank_le bm (j : Int)
      have hcn := cnt_le bm
      have hrs := rank_succ bm j (by omega)
      repeat (first | exact trivial | refine stp ?_ | refine ldCg ?_ | refine ldNg ?_ | refine ldSg ?_ | refine ldSb ?_ | refine bnd ?_ | refine bnd1 ?_ | refine drawQ (by decide +kernel) mixed (by decide +kernel) ?_)
      rw [bitAnd bm j hb (by omega)]
      generalize hbv : (if bm.testBit j = true then 1 else 0) = x at *
      have hx : x ≤ 1 := by rw [← hbv]; split <;> decide
      refine ⟨j + 1, ⟨.go, by omega⟩, ⟨?_, by rw [w64 (by omega) (by omega)]; rfl⟩, by omega⟩
      rw [hrs, w64 (n := (x : Int)) (by omega) (by omega), w64 (by omega) (by omega)]
      omega
    · obtain rfl : j = c := by omega
      repeat (first | exact trivial | refine stp ?_ | refine ldCg ?_ | refine ldNg ?_ | refine ldSg ?_ | refine ldSb ?_ | refine bnd ?_ | refine bnd1 ?_ | refine drawQ (by decide +kernel) mixed (by decide +kernel) ?_)
      intro w2 hE2
      rw [bitAnd bm j hb hc]
      refine ⟨?_, .go⟩
      have e : hasB bm (j : Int) = bm.testBit j := by unfold hasB inB; simp [hc]; intro; omega
      rw [e]
      cases bm.testBit j <;> rfl
theorem cutK_snoc (bm c : Nat) (ks : List (List UInt8)) (x : List UInt8) : cutK bm c (ks ++ [x]) = if hasB bm (c : Int) = true ∧ ks.length = rankB bm (c : Int) then cutK bm c ks else cutK bm c ks ++ [x] := by
  unfold cutK
  by_cases hh : hasB bm (c : Int) = true
  · rw [if_pos hh, if_pos hh]
    by_cases he : ks.length = rankB bm (c : Int)
    · rw [if_pos ⟨hh, he⟩, ← he, List.eraseIdx_append_of_length_le (Nat.le_refl _), Nat.sub_self, List.eraseIdx_of_length_le (l := ks) (Nat.le_refl _)]
      simp
    · rw [if_neg (fun h => he h.2)]
      rcases Nat.lt_or_ge (rankB bm (c : Int)) ks.length with h | h
      · rw [List.eraseIdx_append_of_lt_length h]
      · rw [List.eraseIdx_append_of_length_le h, List.eraseIdx_of_length_le (l := ks) h, List.eraseIdx_of_length_le (by simp; omega)]
  · rw [if_neg hh, if_neg hh, if_neg (fun h => hh h.1)]
theorem WithoutR_ok (bm : Nat) (hb : bm < 65536) (c : Nat) (hc : c < 16) (ks : List (List UInt8)) (kv : Value) (w : World) (hk : SlC w kv ks.length (ks.flatMap vbs)) (h32 : ∀ d ∈ ks, d.length = 32) (hl : ks.length ≤ 1000000000) :
    CallK Tryz.prog 133 [.agg [.int .u16 bm, kv].toArray, .int .i64 c].toArray w fun v w' => ∃ ov, v = .agg [.int .u16 bm, ov].toArray ∧ Own w' w.heap.size 28 32 ov (cutK bm c ks).length ((cutK bm c ks).flatMap vbs) ∧ Ext w w' := by
  obtain ⟨ka, kc, rfl⟩ := slv_of hk
  refine enterT Tryz.func133 rfl Tryz.ntmps133 Tryz.results133 rfl (by decide) ?_
  repeat (first | exact trivial | refine stp ?_ | refine ldCg ?_ | refine ldNg ?_ | refine ldSg ?_ | refine ldSb ?_ | refine bnd ?_ | refine bnd1 ?_ | refine drawQ (by decide +kernel) mixed (by decide +kernel) ?_)
  first | refine newS ?_ | refine newZ ?_
  intro w1 hE1 hz1 hB1
  repeat (first | exact trivial | refine stp ?_ | refine ldCg ?_ | refine ldNg ?_ | refine ldSg ?_ | refine ldSb ?_ | refine bnd ?_ | refine bnd1 ?_ | refine drawQ (by decide +kernel) mixed (by decide +kernel) ?_)
  first | refine newS ?_ | refine newZ ?_
  intro w2 hE2 hz2 hB2
  repeat (first | exact trivial | refine stp ?_ | refine ldCg ?_ | refine ldNg ?_ | refine ldSg ?_ | refine ldSb ?_ | refine bnd ?_ | refine bnd1 ?_ | refine drawQ (by decide +kernel) mixed (by decide +kernel) ?_)
  refine (ahead_ok bm hb c hc w2).mono ?_
  rintro _ w3 ⟨rfl, hE3⟩
  have hz3 := hE3.size
  repeat (first | exact trivial | refine stp ?_ | refine ldCg ?_ | refine ldNg ?_ | refine ldSg ?_ | refine ldSb ?_ | refine bnd ?_ | refine bnd1 ?_ | refine drawQ (by decide +kernel) mixed (by decide +kernel) ?_)
  refine bldC [.int .u16 bm, .slice none 0 0] (by kernel_rfl) ?_
  repeat (first | exact trivial | refine stp ?_ | refine ldCg ?_ | refine ldNg ?_ | refine ldSg ?_ | refine ldSb ?_ | refine bnd ?_ | refine bnd1 ?_ | refine drawQ (by decide +kernel) mixed (by decide +kernel) ?_)
  first | refine newS ?_ | refine newZ ?_
  intro w4 hE4 hz4 hB4
  repeat (first | exact trivial | refine stp ?_ | refine ldCg ?_ | refine ldNg ?_ | refine ldSg ?_ | refine ldSb ?_ | refine bnd ?_ | refine bnd1 ?_ | refine drawQ (by decide +kernel) mixed (by decide +kernel) ?_)
  refine loopX (ι := Nat × Option Addr × Nat) (fun x => [(2, .pointer (some ⟨w.heap.size, 0, none⟩)), (4, .pointer (some ⟨w1.heap.size, 0, none⟩)), (5, .int .i64 (rankB bm (c : Int))), (6, .bool (hasB bm (c : Int))), (7, .pointer (some ⟨w3.heap.size, 0, none⟩)), (21, .slice ka ks.length kc), (22, .int .i64 ks.length), (23, .int .i64 x.1)])
    (fun x W => Ext w3 W ∧ w4.heap.size ≤ W.heap.size ∧ x.1 ≤ ks.length ∧ Blk W w3.heap.size 51 [.int .u16 bm, .slice x.2.1 (cutK bm c (ks.take x.1)).length x.2.2] ∧
      Own W w4.heap.size 28 32 (.slice x.2.1 (cutK bm c (ks.take x.1)).length x.2.2) (cutK bm c (ks.take x.1)).length ((cutK bm c (ks.take x.1)).flatMap vbs)) (fun x => ks.length - x.1) (0, none, 0) ⟨.go, Nat.le_refl _, Nat.zero_le _, ?_, ?_⟩ ?_ ?_
  · simpa [cutK] using hB4
  · simpa [cutK] using Own.nil _ _ _ _
  · repeat (first | exact trivial | refine stp ?_ | refine ldCg ?_ | refine ldNg ?_ | refine ldSg ?_ | refine ldSb ?_ | refine bnd ?_ | refine bnd1 ?_ | refine drawQ (by decide +kernel) mixed (by decide +kernel) ?_)
  · rintro ⟨j, a, cc⟩ s5 w5 ⟨hE5, hz5, hj, hB5, hO5⟩
    simp only at hj hB5 hO5
    generalize hus : cutK bm c (ks.take j) = us at *
    repeat (first | exact trivial | refine stp ?_ | refine ldCg ?_ | refine ldNg ?_ | refine ldSg ?_ | refine ldSb ?_ | refine bnd ?_ | refine bnd1 ?_ | refine drawQ (by decide +kernel) mixed (by decide +kernel) ?_)
    refine ⟨fun hlt => ?_, fun hge => ?_⟩
    · obtain ⟨b, o, rfl, hR⟩ := hk.row (f := vbs) (sz := 32) (fun d hd => by rw [vbs_len]; exact h32 d hd) (by decide) (by omega)
      obtain ⟨d, hx⟩ : ∃ x, ks[j]? = some x := ⟨_, List.getElem?_eq_getElem (by omega)⟩
      have hdl := h32 d (List.mem_of_getElem? hx)
      have htk : ks.take (j + 1) = ks.take j ++ [d] := by
        obtain ⟨hil, he⟩ := List.getElem?_eq_some_iff.1 hx
        rw [List.take_succ_eq_append_getElem hil, he]
      have hlj : (ks.take j).length = j := by rw [List.length_take]; omega
      have hsn := cutK_snoc bm c (ks.take j) d
      rw [← htk, hus, hlj] at hsn
      have hul : us.length ≤ j := by rw [← hus]; exact Nat.le_trans (cutK_len _ _ _) (by omega)
      repeat (first | exact trivial | refine stp ?_ | refine ldCg ?_ | refine ldNg ?_ | refine ldSg ?_ | refine ldSb ?_ | refine bnd ?_ | refine bnd1 ?_ | refine drawQ (by decide +kernel) mixed (by decide +kernel) ?_)
      refine ldRow (f := vbs) hx ?_
      repeat (first | exact trivial | refine stp ?_ | refine ldCg ?_ | refine ldNg ?_ | refine ldSg ?_ | refine ldSb ?_ | refine bnd ?_ | refine bnd1 ?_ | refine drawQ (by decide +kernel) mixed (by decide +kernel) ?_)
      first | refine newS ?_ | refine newZ ?_
      intro w6 hE6 hz6 hB6
      repeat (first | exact trivial | refine stp ?_ | refine ldCg ?_ | refine ldNg ?_ | refine ldSg ?_ | refine ldSb ?_ | refine bnd ?_ | refine bnd1 ?_ | refine drawQ (by decide +kernel) mixed (by decide +kernel) ?_)
      by_cases hc1 : hasB bm (c : Int) = true ∧ j = rankB bm (c : Int)
      · rw [if_pos hc1] at hsn
        rw [hc1.1]
        repeat (first | exact trivial | refine stp ?_ | refine ldCg ?_ | refine ldNg ?_ | refine ldSg ?_ | refine ldSb ?_ | refine bnd ?_ | refine bnd1 ?_ | refine drawQ (by decide +kernel) mixed (by decide +kernel) ?_)
        intro _
        exact ⟨(j + 1, a, cc), ⟨.go, by omega, by simp only; omega, by simp only; rw [hsn]; exact .go, by simp only; rw [hsn]; exact hO5.ext .go⟩, by rw [w64 (by omega) (by omega)]; rfl, by simp only; omega⟩
      · rw [if_neg hc1] at hsn
        cases hh : hasB bm (c : Int)
        · repeat (first | exact trivial | refine stp ?_ | refine ldCg ?_ | refine ldNg ?_ | refine ldSg ?_ | refine ldSb ?_ | refine bnd ?_ | refine bnd1 ?_ | refine drawQ (by decide +kernel) mixed (by decide +kernel) ?_)
          refine ⟨by rw [vbs_len]; exact hdl, ?_⟩
          first | refine newS ?_ | refine newZ ?_
          intro w7 hE7 hz7 hB7
          have hO7 := hO5.ext (w' := w7) .go
          have hB57 := hB5.ext (w' := w7) .go
          refine apDg rfl hO7 (by omega) hB7 hdl (by omega) (fun a8 c8 w8 hO8 hg8 hE8 => ?_)
          have hz8 := hE8.size
          have hB8 : Blk w8 w3.heap.size 51 [.int .u16 bm, .slice a us.length cc] := ⟨by rw [hg8.block _ hB57.lt (fun e => hO7.not_blk hB57 (by decide) e.symm)]; exact hB57.out⟩
          rw [show us.length + 1 = (us ++ [d]).length from by simp, ← hsn] at hO8 ⊢
          repeat (first | exact trivial | refine stp ?_ | refine ldCg ?_ | refine ldNg ?_ | refine ldSg ?_ | refine ldSb ?_ | refine bnd ?_ | refine bnd1 ?_ | refine drawQ (by decide +kernel) mixed (by decide +kernel) ?_)
          refine stC ?_
          intro w9 hP9 hz9 hB9
          repeat (first | exact trivial | refine stp ?_ | refine ldCg ?_ | refine ldNg ?_ | refine ldSg ?_ | refine ldSb ?_ | refine bnd ?_ | refine bnd1 ?_ | refine drawQ (by decide +kernel) mixed (by decide +kernel) ?_)
          exact ⟨(j + 1, a8, c8), ⟨.go, by omega, by simp only; omega, hB9, hO8.put hB8 (by decide) hP9⟩, by rw [w64 (by omega) (by omega)]; rfl, by simp only; omega⟩
        · repeat (first | exact trivial | refine stp ?_ | refine ldCg ?_ | refine ldNg ?_ | refine ldSg ?_ | refine ldSb ?_ | refine bnd ?_ | refine bnd1 ?_ | refine drawQ (by decide +kernel) mixed (by decide +kernel) ?_)
          refine ⟨fun _ => ?_, fun he => absurd ⟨hh, by omega⟩ hc1⟩
          repeat (first | exact trivial | refine stp ?_ | refine ldCg ?_ | refine ldNg ?_ | refine ldSg ?_ | refine ldSb ?_ | refine bnd ?_ | refine bnd1 ?_ | refine drawQ (by decide +kernel) mixed (by decide +kernel) ?_)
          refine ⟨by rw [vbs_len]; exact hdl, ?_⟩
          first | refine newS ?_ | refine newZ ?_
          intro w7 hE7 hz7 hB7
          have hO7 := hO5.ext (w' := w7) .go
          have hB57 := hB5.ext (w' := w7) .go
          refine apDg rfl hO7 (by omega) hB7 hdl (by omega) (fun a8 c8 w8 hO8 hg8 hE8 => ?_)
          have hz8 := hE8.size
          have hB8 : Blk w8 w3.heap.size 51 [.int .u16 bm, .slice a us.length cc] := ⟨by rw [hg8.block _ hB57.lt (fun e => hO7.not_blk hB57 (by decide) e.symm)]; exact hB57.out⟩
          rw [show us.length + 1 = (us ++ [d]).length from by simp, ← hsn] at hO8 ⊢
          repeat (first | exact trivial | refine stp ?_ | refine ldCg ?_ | refine ldNg ?_ | refine ldSg ?_ | refine ldSb ?_ | refine bnd ?_ | refine bnd1 ?_ | refine drawQ (by decide +kernel) mixed (by decide +kernel) ?_)
          refine stC ?_
          intro w9 hP9 hz9 hB9
          repeat (first | exact trivial | refine stp ?_ | refine ldCg ?_ | refine ldNg ?_ | refine ldSg ?_ | refine ldSb ?_ | refine bnd ?_ | refine bnd1 ?_ | refine drawQ (by decide +kernel) mixed (by decide +kernel) ?_)
          exact ⟨(j + 1, a8, c8), ⟨.go, by omega, by simp only; omega, hB9, hO8.put hB8 (by decide) hP9⟩, by rw [w64 (by omega) (by omega)]; rfl, by simp only; omega⟩
    · obtain rfl : j = ks.length := by omega
      rw [List.take_length] at hus
      have hB25 : Blk w5 w1.heap.size 51 _ := .go (h := hB2)
      repeat (first | exact trivial | refine stp ?_ | refine ldCg ?_ | refine ldNg ?_ | refine ldSg ?_ | refine ldSb ?_ | refine bnd ?_ | refine bnd1 ?_ | refine drawQ (by decide +kernel) mixed (by decide +kernel) ?_)
      refine stW ?_
      intro w6 hP6 hz6 hB6
      repeat (first | exact trivial | refine stp ?_ | refine ldCg ?_ | refine ldNg ?_ | refine ldSg ?_ | refine ldSb ?_ | refine bnd ?_ | refine bnd1 ?_ | refine drawQ (by decide +kernel) mixed (by decide +kernel) ?_)
      have hO6 := hO5.put hB25 (by decide) hP6
      exact ⟨.slice a us.length cc, rfl, by rw [hus]; exact hO6.base (by omega), .go⟩
end Go.Proofs.YtebbgninkbghlaaGreatDoor

/-! Hpr -/
namespace Go.Proofs.YtebbgninkbghlaaGreatDoor
set_option maxRecDepth 100000
open Go Go.RowKit
set_option linter.unusedVariables false
set_option linter.unusedSimpArgs false
set_option maxHeartbeats 1000000
attribute [local irreducible] vcT opsT qT vcOp Q1 vcPure vcLoad vcStore ldC ldN ldD grdT grdQ vc vcOps vcQ hT
attribute [local irreducible] sumR sumP shaP keyD bucketP branchP

theorem Own.rebase {w : World} {b b' e s n : Nat} {v : Value} {xs : List Value} (h : Own w b e s v n xs) (hb : ∀ g, v.ownBlock = some g → b' ≤ g) : Own w b' e s v n xs := by
  refine ⟨h.1, ?_⟩
  rcases h.2 with hn | ⟨g, cap, cur, rfl, _, rest⟩
  · exact .inl hn
  · exact .inr ⟨g, cap, cur, rfl, hb g rfl, rest⟩
theorem cutS_upto {K : List UInt8} {L M : List (Nat × List (List UInt8))} {i : Nat} {bm : Nat} {ks : List (List UInt8)} (h : M = cutS K 0 (L.take i) ++ L.drop i) (hx : M[i]? = some (bm, ks)) : L[i]? = some (bm, ks) ∧ M.set i (bm, cutK bm (digP K i) ks) = cutS K 0 (L.take (i + 1)) ++ L.drop (i + 1) := by
  have hl : (cutS K 0 (L.take i)).length = min i L.length := by rw [cutS_len, List.length_take]
  have hil : i < L.length := by
    have := (List.getElem?_eq_some_iff.1 hx).1
    rw [h, List.length_append, hl, List.length_drop] at this
    omega
  have hi : (cutS K 0 (L.take i)).length = i := by rw [hl]; omega
  have h1 : L[i]? = some (bm, ks) := by
    rw [h, List.getElem?_append_right (by omega), hi, Nat.sub_self, List.getElem?_drop, Nat.add_zero] at hx
    exact hx
  refine ⟨h1, ?_⟩
  obtain ⟨_, he⟩ := List.getElem?_eq_some_iff.1 h1
  rw [h, List.set_append_right _ _ (by omega), hi, Nat.sub_self, List.take_succ_eq_append_getElem hil, cutS_snoc, he, List.length_take, Nat.zero_add, Nat.min_eq_left (by omega), ← List.getElem_cons_drop hil, he]
  simp

theorem RunK.lt {w : World} {hi : Nat} : ∀ {l : List SR} {lo : Nat}, RunK w hi lo l → ∀ t ∈ l, ∀ g, t.kv.ownBlock = some g → g < hi
  | [], lo, _, p, hp => by cases hp
  | t :: r, lo, h, p, hp => by
    obtain ⟨mid, h1, h2, h3⟩ := h
    rcases List.mem_cons.1 hp with rfl | hp
    · exact fun g hg => Nat.lt_of_lt_of_le (h2.2.2.2 g hg) h3.le
    · exact RunK.lt h3 p hp
theorem set_same {α : Type} {l : List α} {i : Nat} {x : α} (h : l[i]? = some x) : l.set i x = l := by
  obtain ⟨hl, rfl⟩ := List.getElem?_eq_some_iff.1 h
  exact List.set_getElem_self hl
theorem set_split {α : Type} {l : List α} {i : Nat} {x y : α} (h : l[i]? = some x) : l = l.take i ++ x :: l.drop (i + 1) ∧ l.set i y = l.take i ++ y :: l.drop (i + 1) := by
  obtain ⟨hl, rfl⟩ := List.getElem?_eq_some_iff.1 h
  refine ⟨by rw [List.getElem_cons_drop, List.take_append_drop], ?_⟩
  rw [List.set_eq_take_append_cons_drop, if_pos hl]
theorem atP_err {m : Nat} {k : List UInt8} (hm : 1 ≤ m) (hm2 : m ≤ 32) (hk : k.length = 32) (hf : formB m k = true) {i : Nat} (hi : i < 2 * m) : (atP m k i).2 = 0 := by
  have hz := formB_zero hk hf
  have hc : chkP m [k] = 0 := by
    unfold chkP
    rw [if_neg (by omega), if_pos]
    intro d hd
    obtain rfl : d = k := by simpa using hd
    simpa using hz
  unfold atP
  rw [if_neg (by omega), if_pos hc]

theorem Prove_hproof_ok (n : Int) (hw : widB n = true) (S : Nat → Prop) (mv kv : Value) (m : List It) (key : List UInt8) (w : World) (hW : WordsAt w 1) (h : MapAt n S w mv m) (hO : OkI n m) (hk : SlB w kv key) (hml : m.length ≤ 1000000000) :
    CallK Tryz.prog 28 [mv, kv].toArray w fun r w' => ∃ (sv pv : Value) (tt : List SR) (qs : List PR), r = .tuple [.agg [sv, pv].toArray, .int .i64 (if 64 < key.length then 2 else 0 : Nat)].toArray ∧
      Own w' w.heap.size 51 2 sv tt.length (tt.flatMap SR.cells) ∧ RunK w' w'.heap.size w.heap.size tt ∧ Own w' w.heap.size 47 2 pv qs.length (qs.flatMap PR.cells) ∧ RunB w' w'.heap.size w.heap.size (qs.flatMap prB) ∧
      tt.map SR.dt = (if 64 < key.length then [] else cutS (keyD n key) 0 (walkI n (keyD n key) 64 0 m).1) ∧ qs.map PR.dat = (if 64 < key.length then [] else (walkI n (keyD n key) 64 0 m).2.map It.pr) ∧ Ext w w' := by
  have hwn := (widB_iff n).1 hw
  obtain ⟨nn, rfl⟩ : ∃ nn : Nat, n = nn := ⟨n.toNat, by omega⟩
  obtain ⟨ka, kc, rfl⟩ := slv_of hk
  refine enterT Tryz.func28 rfl Tryz.ntmps28 Tryz.results28 rfl (by decide) ?_
  repeat (first | exact trivial | refine stp ?_ | refine ldCg ?_ | refine ldNg ?_ | refine ldSg ?_ | refine ldSb ?_ | refine bnd ?_ | refine bnd1 ?_ | refine drawQ (by decide +kernel) mixed (by decide +kernel) ?_)
  first | refine newS ?_ | refine newZ ?_
  intro w1 hE1 hz1 hB1
  repeat (first | exact trivial | refine stp ?_ | refine ldCg ?_ | refine ldNg ?_ | refine ldSg ?_ | refine ldSb ?_ | refine bnd ?_ | refine bnd1 ?_ | refine drawQ (by decide +kernel) mixed (by decide +kernel) ?_)
  have hKl := keyD_len nn key
  refine ⟨fun h64 => ?_, fun h64 => ?_⟩
  · refine bldC [.slice none 0 0, .slice none 0 0] (by kernel_rfl) ?_
    repeat (first | exact trivial | refine stp ?_ | refine ldCg ?_ | refine ldNg ?_ | refine ldSg ?_ | refine ldSb ?_ | refine bnd ?_ | refine bnd1 ?_ | refine drawQ (by decide +kernel) mixed (by decide +kernel) ?_)
    refine stW ?_
    intro w2 hP2 hz2 hB2
    repeat (first | exact trivial | refine stp ?_ | refine ldCg ?_ | refine ldNg ?_ | refine ldSg ?_ | refine ldSb ?_ | refine bnd ?_ | refine bnd1 ?_ | refine drawQ (by decide +kernel) mixed (by decide +kernel) ?_)
    exact ⟨.slice none 0 0, .slice none 0 0, [], [], by rw [if_pos (by omega)]; rfl, Own.nil _ _ _ _, by show w.heap.size ≤ w2.heap.size; omega, Own.nil _ _ _ _, by show w.heap.size ≤ w2.heap.size; omega, by rw [if_pos (by omega)]; rfl, by rw [if_pos (by omega)]; rfl, .go⟩
  have h64' : ¬ 64 < key.length := by omega
  repeat (first | exact trivial | refine stp ?_ | refine ldCg ?_ | refine ldNg ?_ | refine ldSg ?_ | refine ldSb ?_ | refine bnd ?_ | refine bnd1 ?_ | refine drawQ (by decide +kernel) mixed (by decide +kernel) ?_)
  refine (Walk_hamt_ok nn hw S mv _ m key w1 (hW.ext .go) (h.ext .go) hO (hk.ext .go) hml).mono ?_
  rintro _ w2 ⟨sv, pv, tt, qs, rfl, hOs, hRk, hOp, hRb, htd, hqd, hE2⟩
  have hz2 := hE2.size
  rw [if_neg h64'] at htd hqd ⊢
  generalize hLe : (walkI nn (keyD nn key) 64 0 m).1 = L at *
  have hL : tt.length = L.length := by rw [← htd, List.length_map]
  obtain ⟨sa, sc, rfl⟩ := own_slice hOs
  obtain ⟨pa, pc, rfl⟩ := own_slice hOp
  obtain ⟨hst, hend, hsg⟩ := walk_spec hw (keyD nn key) 64 0 m hO hO.pre rfl
  rw [hLe] at hst
  simp only [Nat.zero_add] at hst
  have hf : formB nn (keyD nn key) = true := by unfold keyD; exact form_sumR nn _ hw
  have hL32 : L.length ≤ 2 * nn := by
    rcases Nat.eq_zero_or_pos L.length with h0 | h0
    · omega
    · obtain ⟨_, hs2⟩ := hst (L.length - 1) (by omega)
      obtain ⟨hOd, hPd⟩ := wmI_ok (n := nn) (keyD nn key) (L.length - 1) 0 hO hO.pre
      rw [Nat.zero_add] at hPd
      have := br_depth hs2 hPd (hOd.form hw)
      omega
  repeat (first | exact trivial | refine stp ?_ | refine ldCg ?_ | refine ldNg ?_ | refine ldSg ?_ | refine ldSb ?_ | refine bnd ?_ | refine bnd1 ?_ | refine drawQ (by decide +kernel) mixed (by decide +kernel) ?_)
  refine (Width_hamt_ok nn S mv m w2 (h.ext .go)).mono ?_
  rintro _ w3 ⟨rfl, hE3⟩
  have hz3 := hE3.size
  repeat (first | exact trivial | refine stp ?_ | refine ldCg ?_ | refine ldNg ?_ | refine ldSg ?_ | refine ldSb ?_ | refine bnd ?_ | refine bnd1 ?_ | refine drawQ (by decide +kernel) mixed (by decide +kernel) ?_)
  refine (Key_ok nn key _ w3 (hW.ext .go) (hk.ext .go) (by omega)).mono ?_
  rintro _ w4 ⟨rfl, hE4⟩
  have hz4 := hE4.size
  have hkd : sumR nn (2 :: key) = keyD nn key := by unfold keyD; rfl
  have hse : sumE nn = 0 := by unfold sumE; rw [if_pos hw]
  rw [hkd, hse]
  repeat (first | exact trivial | refine stp ?_ | refine ldCg ?_ | refine ldNg ?_ | refine ldSg ?_ | refine ldSb ?_ | refine bnd ?_ | refine bnd1 ?_ | refine drawQ (by decide +kernel) mixed (by decide +kernel) ?_)
  first | refine newS ?_ | refine newZ ?_
  intro w5 hE5 hz5 hB5
  repeat (first | exact trivial | refine stp ?_ | refine ldCg ?_ | refine ldNg ?_ | refine ldSg ?_ | refine ldSb ?_ | refine bnd ?_ | refine bnd1 ?_ | refine drawQ (by decide +kernel) mixed (by decide +kernel) ?_)
  refine loopX (ι := Nat × List SR) (fun x => [(4, .pointer (some ⟨w.heap.size, 0, none⟩)), (6, .slice sa tt.length sc), (7, .slice pa qs.length pc), (9, .int .i64 nn), (10, .pointer (some ⟨w4.heap.size, 0, none⟩)), (43, .slice sa tt.length sc), (44, .int .i64 tt.length), (45, .int .i64 x.1)])
    (fun x W => Ext w1 W ∧ w5.heap.size ≤ W.heap.size ∧ x.1 ≤ L.length ∧ x.2.length = tt.length ∧ Own W w1.heap.size 51 2 (.slice sa tt.length sc) tt.length (x.2.flatMap SR.cells) ∧ RunK W w2.heap.size w1.heap.size x.2 ∧
      Own W w1.heap.size 47 2 (.slice pa qs.length pc) qs.length (qs.flatMap PR.cells) ∧ RunB W w2.heap.size w1.heap.size (qs.flatMap prB) ∧ Blk W w4.heap.size 28 (vbs (keyD nn key)) ∧ x.2.map SR.dt = cutS (keyD nn key) 0 (L.take x.1) ++ L.drop x.1) (fun x => L.length - x.1) (0, tt) ⟨.go, Nat.le_refl _, Nat.zero_le _, rfl, hOs.ext .go, (hRk.ext .go), hOp.ext .go, hRb.ext .go, hB5, by simpa [cutS] using htd⟩ ?_ ?_
  · repeat (first | exact trivial | refine stp ?_ | refine ldCg ?_ | refine ldNg ?_ | refine ldSg ?_ | refine ldSb ?_ | refine bnd ?_ | refine bnd1 ?_ | refine drawQ (by decide +kernel) mixed (by decide +kernel) ?_)
  · rintro ⟨i, ss⟩ s6 w6 ⟨hE6, hz6, hi, hsl, hO6, hR6, hP6, hRb6, hB6, hd6⟩
    simp only at hi hsl hO6 hR6 hd6
    repeat (first | exact trivial | refine stp ?_ | refine ldCg ?_ | refine ldNg ?_ | refine ldSg ?_ | refine ldSb ?_ | refine bnd ?_ | refine bnd1 ?_ | refine drawQ (by decide +kernel) mixed (by decide +kernel) ?_)
    refine ⟨fun hlt => ?_, fun hge => ?_⟩
    · obtain ⟨t, ht⟩ : ∃ x, ss[i]? = some x := ⟨_, List.getElem?_eq_getElem (by omega)⟩
      obtain ⟨hs1, hs2⟩ := hst i (by omega)
      obtain ⟨hOd, hPd⟩ := wmI_ok (n := nn) (keyD nn key) i 0 hO hO.pre
      rw [Nat.zero_add] at hPd
      have hat := atP_dig (m := nn) (by omega) (by omega) hKl hf (br_depth hs2 hPd (hOd.form hw))
      have hae := atP_err (m := nn) (by omega) (by omega) hKl hf (br_depth hs2 hPd (hOd.form hw))
      have hdg := digP_lt (keyD nn key) i
      obtain ⟨hbm, h32, hOk⟩ := hR6.mem t (List.mem_of_getElem? ht)
      obtain ⟨g, cap, rest, he, hgb, hBg, hnc, hcm, hrl⟩ := hO6.open (by omega)
      injection he with he1 _ he3
      subst he1 he3
      have hO6' : Own w6 w1.heap.size 51 2 (.slice (some ⟨g, 0, none⟩) tt.length sc) ss.length (ss.flatMap SR.cells) := by rw [hsl]; exact hO6
      obtain ⟨b', o', he, hRow⟩ := (SlC.of_own hO6').row (f := SR.cells) (sz := 2) (fun _ _ => rfl) (by decide) (by omega)
      injection he with he
      injection he with he1 he2
      subst he1 he2
      obtain ⟨kv, bm, ks⟩ := t
      simp only at hbm h32 hOk
      have hdt : (ss.map SR.dt)[i]? = some (bm, ks) := by rw [List.getElem?_map, ht]; rfl
      obtain ⟨hLi, hset⟩ := cutS_upto hd6 hdt
      have hkl : ks.length ≤ 16 := by
        rw [hs1] at hLi
        simp only [Option.some.injEq, Prod.mk.injEq] at hLi
        rw [← hLi.2, kidsI_len]
        exact cnt_le _
      obtain ⟨ka', kc', rfl⟩ := own_slice hOk
      repeat (first | exact trivial | refine stp ?_ | refine ldCg ?_ | refine ldNg ?_ | refine ldSg ?_ | refine ldSb ?_ | refine bnd ?_ | refine bnd1 ?_ | refine drawQ (by decide +kernel) mixed (by decide +kernel) ?_)
      refine (At_ok nn (keyD nn key) hKl i w6).mono ?_
      rintro _ w7 ⟨rfl, hE7⟩
      have hz7 := hE7.size
      rw [hat, hae]
      repeat (first | exact trivial | refine stp ?_ | refine ldCg ?_ | refine ldNg ?_ | refine ldSg ?_ | refine ldSb ?_ | refine bnd ?_ | refine bnd1 ?_ | refine drawQ (by decide +kernel) mixed (by decide +kernel) ?_)
      refine ldRowF (f := SR.cells) 0 ht ?_
      repeat (first | exact trivial | refine stp ?_ | refine ldCg ?_ | refine ldNg ?_ | refine ldSg ?_ | refine ldSb ?_ | refine bnd ?_ | refine bnd1 ?_ | refine drawQ (by decide +kernel) mixed (by decide +kernel) ?_)
      refine (Rank_ok bm hbm (digP (keyD nn key) i) w7).mono ?_
      rintro _ w8 ⟨rfl, hE8⟩
      have hz8 := hE8.size
      repeat (first | exact trivial | refine stp ?_ | refine ldCg ?_ | refine ldNg ?_ | refine ldSg ?_ | refine ldSb ?_ | refine bnd ?_ | refine bnd1 ?_ | refine drawQ (by decide +kernel) mixed (by decide +kernel) ?_)
      refine ldRowF (f := SR.cells) 0 ht ?_
      repeat (first | exact trivial | refine stp ?_ | refine ldCg ?_ | refine ldNg ?_ | refine ldSg ?_ | refine ldSb ?_ | refine bnd ?_ | refine bnd1 ?_ | refine drawQ (by decide +kernel) mixed (by decide +kernel) ?_)
      refine (Has_ok bm hbm (digP (keyD nn key) i) w8).mono ?_
      rintro _ w9 ⟨rfl, hE9⟩
      have hz9 := hE9.size
      by_cases hh : hasB bm (digP (keyD nn key) i : Int) = true
      · rw [hh]
        repeat (first | exact trivial | refine stp ?_ | refine ldCg ?_ | refine ldNg ?_ | refine ldSg ?_ | refine ldSb ?_ | refine bnd ?_ | refine bnd1 ?_ | refine drawQ (by decide +kernel) mixed (by decide +kernel) ?_)
        refine ldRowF (f := SR.cells) 1 ht ?_
        repeat (first | exact trivial | refine stp ?_ | refine ldCg ?_ | refine ldNg ?_ | refine ldSg ?_ | refine ldSb ?_ | refine bnd ?_ | refine bnd1 ?_ | refine drawQ (by decide +kernel) mixed (by decide +kernel) ?_)
        refine ⟨fun hlt2 => ?_, fun hge2 => ?_⟩
        · refine ldRowF (f := SR.cells) 1 ht ?_
          repeat (first | exact trivial | refine stp ?_ | refine ldCg ?_ | refine ldNg ?_ | refine ldSg ?_ | refine ldSb ?_ | refine bnd ?_ | refine bnd1 ?_ | refine drawQ (by decide +kernel) mixed (by decide +kernel) ?_)
          have hrk : rankB bm (digP (keyD nn key) i : Int) < ks.length := by omega
          generalize hre : rankB bm (digP (keyD nn key) i : Int) = r at *
          obtain ⟨hks1, _⟩ := set_split (y := ks[r]) (List.getElem?_eq_getElem hrk)
          have hkf : ks.flatMap vbs = (ks.take r).flatMap vbs ++ (vbs ks[r] ++ (ks.drop (r + 1)).flatMap vbs) := by
            conv => lhs; rw [hks1]
            rw [List.flatMap_append, List.flatMap_cons]
          have hcut : cutK bm (digP (keyD nn key) i) ks = ks.take r ++ ks.drop (r + 1) := by rw [cutK_has hh (by omega), hre]
          rw [w64 (by omega) (by omega), show ((r : Int) + 1) = ((r + 1 : Nat) : Int) from by omega]
          have hA := dvs_len (ks.take r) (fun d hd => h32 d (List.mem_of_mem_take hd))
          have hD := dvs_len (ks.drop (r + 1)) (fun d hd => h32 d (List.mem_of_mem_drop hd))
          rw [List.length_take, Nat.min_eq_left (by omega)] at hA
          rw [List.length_drop] at hD
          refine (DelD_ok ((ks.take r).flatMap vbs) (vbs ks[r]) ((ks.drop (r + 1)).flatMap vbs) r ks.length hA (by rw [vbs_len]; exact h32 _ (List.getElem_mem _)) (by rw [hD]; congr 1; omega) hrk (fun v hv => by obtain ⟨d, _, hd⟩ := List.mem_flatMap.1 hv; exact vbs_one _ _ hd) _ w1.heap.size w9 (by rw [← hkf]; exact hOk.ext .go) (by omega) (by omega)).mono ?_
          rintro v10 w10 ⟨hob, hO10, hE10, hOB⟩
          have hz10 := hE10.size
          obtain ⟨a10, c10, rfl⟩ := own_slice hO10
          have hn10 : ks.length - 1 = (cutK bm (digP (keyD nn key) i) ks).length := by rw [hcut, List.length_append, List.length_take, List.length_drop]; omega
          have hf10 : (ks.take r).flatMap vbs ++ (ks.drop (r + 1)).flatMap vbs = (cutK bm (digP (keyD nn key) i) ks).flatMap vbs := by rw [hcut, List.flatMap_append]
          rw [hn10, hf10] at hO10
          rw [hn10] at hob ⊢
          have hOk9 : Own w9 w1.heap.size 28 32 (.slice ka' ks.length kc') ks.length (ks.flatMap vbs) := hOk.ext .go
          have hBg9 : Blk w9 g 51 (ss.flatMap SR.cells ++ rest) := .go
          have hBg10 := hOB g _ _ (hOk9.not_blk hBg9 (by decide)) hBg9
          obtain ⟨hs3, hs4⟩ := set_split (y := (⟨.slice a10 (cutK bm (digP (keyD nn key) i) ks).length c10, bm, cutK bm (digP (keyD nn key) i) ks⟩ : SR)) ht
          generalize hkn : cutK bm (digP (keyD nn key) i) ks = kn at *
          have hcl : ((ss.take i).flatMap SR.cells).length = i * 2 := by
            have : ∀ l : List SR, (l.flatMap SR.cells).length = l.length * 2 := by
              intro l
              induction l with
              | nil => rfl
              | cons a l ih => rw [List.flatMap_cons, List.length_append, ih]; simp [SR.cells]; omega
            rw [this, List.length_take]
            omega
          have hcell : ss.flatMap SR.cells ++ rest = ((ss.take i).flatMap SR.cells ++ [.int .u16 bm]) ++ (.slice ka' ks.length kc' :: ((ss.drop (i + 1)).flatMap SR.cells ++ rest)) := by
            conv => lhs; rw [hs3]
            simp [SR.cells, List.flatMap_append, List.flatMap_cons, List.append_assoc]
          have hcell' : (ss.set i ⟨.slice a10 kn.length c10, bm, kn⟩).flatMap SR.cells ++ rest = ((ss.take i).flatMap SR.cells ++ [.int .u16 bm]) ++ (.slice a10 kn.length c10 :: ((ss.drop (i + 1)).flatMap SR.cells ++ rest)) := by
            rw [hs4]
            simp [SR.cells, List.flatMap_append, List.flatMap_cons, List.append_assoc]
          rw [hcell] at hBg10
          repeat (first | exact trivial | refine stp ?_ | refine ldCg ?_ | refine ldNg ?_ | refine ldSg ?_ | refine ldSb ?_ | refine bnd ?_ | refine bnd1 ?_ | refine drawQ (by decide +kernel) mixed (by decide +kernel) ?_)
          refine stAt (by decide +kernel) hBg10 (by rw [List.length_append, hcl]; rfl) rfl rfl (fun w11 hP11 => ?_)
          have hB11 := hP11.blk
          rw [← hcell'] at hB11
          have hz11 := hP11.size
          have hkb := hR6.lt _ (List.mem_of_getElem? ht)
          have hBd10 : Blk w10 w4.heap.size 28 (vbs (keyD nn key)) := hOB _ _ _ (fun he => by have := hkb _ he; omega) (.go (h := hB6))
          have hg4 : g ≠ w4.heap.size := fun he => by have h1 := hBg10.out; rw [he, hBd10.out, Option.some.injEq, Obj.cells.injEq] at h1; exact absurd h1.2 (by decide)
          have hE11 : Ext w1 w11 := .go
          have hset' : ss.set i ⟨.slice a10 kn.length c10, bm, kn⟩ = ss.take i ++ ⟨.slice a10 kn.length c10, bm, kn⟩ :: ss.drop (i + 1) := hs4
          repeat (first | exact trivial | refine stp ?_ | refine ldCg ?_ | refine ldNg ?_ | refine ldSg ?_ | refine ldSb ?_ | refine bnd ?_ | refine bnd1 ?_ | refine drawQ (by decide +kernel) mixed (by decide +kernel) ?_)
          refine ⟨(i + 1, ss.set i ⟨.slice a10 kn.length c10, bm, kn⟩), ⟨hE11, by omega, by simp only; omega, by simp only [List.length_set]; exact hsl, ?_, ?_, ?_, ?_, hP11.keep hBd10 (Ne.symm hg4), ?_⟩, by rw [w64 (by omega) (by omega)]; rfl, by simp only; omega⟩
          · have hxl : ((ss.set i ⟨.slice a10 kn.length c10, bm, kn⟩).flatMap SR.cells).length = tt.length * 2 := by
              have h1 := congrArg List.length hcell'
              have h2 := congrArg List.length hcell
              have h3 := hO6.1
              simp only [List.length_append, List.length_cons] at h1 h2
              omega
            refine own_mk (sz := 2) hB11 hgb hxl ?_ hnc hcm
            have h3 := hO6.1
            rw [List.length_append, h3] at hrl
            rw [Nat.sub_mul]
            omega
          · rw [hset']
            have hR9 : RunK w9 w2.heap.size w1.heap.size (ss.take i ++ ⟨.slice ka' ks.length kc', bm, ks⟩ :: ss.drop (i + 1)) := by rw [← hs3]; exact hR6.ext .go
            refine RunK.put hBg10 (by decide) hP11 (RunK.set (t := ⟨.slice ka' ks.length kc', bm, ks⟩) hOB hbm (fun d hd => h32 d (by rw [← hkn] at hd; exact cutK_mem d hd)) hob (by omega) (fun b hb => hO10.rebase fun g' hg' => hb.lo g' (by rw [← hob]; exact hg')) hR9)
          · exact ((hP6.ext (w' := w9) .go).onlyT hOk9 (by decide) hOB).put hBg10 (by decide) hP11
          · exact RunB.put hBg10 (by decide) hP11 (RunB.onlyT hOk9 (by decide) hOB (hRb6.ext (w' := w9) .go))
          · simp only
            rw [← hset, hset', List.map_append, List.map_cons]
            have hdt' : (ss.map SR.dt)[i]? = some (bm, ks) := hdt
            rw [(set_split (y := (bm, kn)) hdt').2, List.map_take, List.map_drop]
            rfl
        · repeat (first | exact trivial | refine stp ?_ | refine ldCg ?_ | refine ldNg ?_ | refine ldSg ?_ | refine ldSb ?_ | refine bnd ?_ | refine bnd1 ?_ | refine drawQ (by decide +kernel) mixed (by decide +kernel) ?_)
          refine ⟨(i + 1, ss), ⟨.go, by omega, by simp only; omega, hsl, hO6.ext .go, hR6.ext .go, hP6.ext .go, hRb6.ext .go, .go, ?_⟩, by rw [w64 (by omega) (by omega)]; rfl, by simp only; omega⟩
          simp only
          rw [← hset, cutK_not (fun hc => by omega), set_same hdt]
      · rw [Bool.not_eq_true] at hh
        rw [hh]
        repeat (first | exact trivial | refine stp ?_ | refine ldCg ?_ | refine ldNg ?_ | refine ldSg ?_ | refine ldSb ?_ | refine bnd ?_ | refine bnd1 ?_ | refine drawQ (by decide +kernel) mixed (by decide +kernel) ?_)
        refine ⟨(i + 1, ss), ⟨.go, by omega, by simp only; omega, hsl, hO6.ext .go, hR6.ext .go, hP6.ext .go, hRb6.ext .go, .go, ?_⟩, by rw [w64 (by omega) (by omega)]; rfl, by simp only; omega⟩
        simp only
        rw [← hset, cutK_not (fun hc => by rw [hh] at hc; exact absurd hc.1 (by decide)), set_same hdt]
    · refine bldC [.slice sa tt.length sc, .slice pa qs.length pc] (by kernel_rfl) ?_
      repeat (first | exact trivial | refine stp ?_ | refine ldCg ?_ | refine ldNg ?_ | refine ldSg ?_ | refine ldSb ?_ | refine bnd ?_ | refine bnd1 ?_ | refine drawQ (by decide +kernel) mixed (by decide +kernel) ?_)
      refine stW ?_
      intro w7 hP7 hz7 hB7
      repeat (first | exact trivial | refine stp ?_ | refine ldCg ?_ | refine ldNg ?_ | refine ldSg ?_ | refine ldSb ?_ | refine bnd ?_ | refine bnd1 ?_ | refine drawQ (by decide +kernel) mixed (by decide +kernel) ?_)
      obtain rfl : i = L.length := by omega
      rw [List.take_length, List.drop_length, List.append_nil] at hd6
      have hb0 : Blk w6 w.heap.size 26 _ := .go (h := hB1)
      refine ⟨.slice sa tt.length sc, .slice pa qs.length pc, ss, qs, rfl, ?_, ?_, ?_, ?_, ?_, ?_, ?_⟩
      · rw [hsl]; exact (hO6.base (by omega)).put hb0 (by decide) hP7
      · exact RunK.put hb0 (by decide) hP7 (RunK.top (by omega) (RunK.append (l := []) (m := w1.heap.size) (by show w.heap.size ≤ _; omega) hR6))
      · exact (hP6.base (by omega)).put hb0 (by decide) hP7
      · exact RunB.put hb0 (by decide) hP7 (RunB.top (by omega) (RunB.append (l := []) (m := w1.heap.size) (by show w.heap.size ≤ _; omega) hRb6))
      · rw [if_neg h64', hd6]
      · rw [if_neg h64', hqd]
      · exact .go
end Go.Proofs.YtebbgninkbghlaaGreatDoor

/-! Rfq -/
namespace Go.Proofs.YtebbgninkbghlaaGreatDoor
set_option maxRecDepth 100000
open Go Go.RowKit
set_option linter.unusedVariables false
set_option linter.unusedSimpArgs false
set_option maxHeartbeats 1000000
attribute [local irreducible] vcT opsT qT vcOp Q1 vcPure vcLoad vcStore ldC ldN ldD grdT grdQ vc vcOps vcQ hT
attribute [local irreducible] sumR sumP shaP keyD bucketP branchP

theorem ProveO_ok (n : Nat) (hn : 1 ≤ n) (hn2 : n ≤ 32) (is : List IR) (m : List It) (key : List UInt8) (mv kv : Value) (w : World) (hm : ItemsAt w mv is) (hy : is.map IR.y = m) (hO : OkI n m) (hk : SlB w kv key) (hkl : key.length ≤ 4000000000) (hml : is.length ≤ 90000000) :
    CallK Tryz.prog 84 [.int .i64 n, mv, kv].toArray w fun v w' => ∃ (sv pv : Value) (tt : List SR) (js : List IR), v = .agg [sv, pv].toArray ∧ Own w' w.heap.size 51 2 sv tt.length (tt.flatMap SR.cells) ∧ RunK w' w'.heap.size w.heap.size tt ∧
      Own w' w.heap.size 47 2 pv js.length ((js.map IR.pr).flatMap PR.cells) ∧ (∀ q ∈ js, q ∈ is) ∧ tt.map SR.dt = cutS (keyD n key) 0 (walkI n (keyD n key) 64 0 m).1 ∧ (js.map IR.pr).map PR.dat = (walkI n (keyD n key) 64 0 m).2.map It.pr ∧ Ext w w' := by
  have hw : widB n = true := (widB_iff n).2 (by omega)
  have hKl := keyD_len n key
  refine enterT Tryz.func84 rfl Tryz.ntmps84 Tryz.results84 rfl (by decide) ?_
  repeat (first | exact trivial | refine stp ?_ | refine ldCg ?_ | refine ldNg ?_ | refine ldSg ?_ | refine ldSb ?_ | refine bnd ?_ | refine bnd1 ?_ | refine drawQ (by decide +kernel) mixed (by decide +kernel) ?_)
  first | refine newS ?_ | refine newZ ?_
  intro w1 hE1 hz1 hB1
  repeat (first | exact trivial | refine stp ?_ | refine ldCg ?_ | refine ldNg ?_ | refine ldSg ?_ | refine ldSb ?_ | refine bnd ?_ | refine bnd1 ?_ | refine drawQ (by decide +kernel) mixed (by decide +kernel) ?_)
  refine (WalkO_ok n hn hn2 is m key mv kv w1 (hm.ext .go) hy hO (hk.ext .go) hkl hml).mono ?_
  rintro _ w2 ⟨sv, pv, tt, qs, rfl, hOs2, hRk2, hPr, hjs, htd, hqd, hE2⟩
  have hSt := hRk2.stepsAt hOs2
  have hz2 := hE2.size
  generalize hLe : (walkI n (keyD n key) 64 0 m).1 = L at *
  have hL : tt.length = L.length := by rw [← htd, List.length_map]
  obtain ⟨sa, sc, rfl⟩ := slv_of hSt.1
  obtain ⟨pa, pc, rfl⟩ := own_slice hPr
  obtain ⟨hst, hend, hsg⟩ := walk_spec hw (keyD n key) 64 0 m hO hO.pre rfl
  rw [hLe] at hst
  simp only [Nat.zero_add] at hst
  have hL32 : L.length ≤ 2 * n := by
    rcases Nat.eq_zero_or_pos L.length with h0 | h0
    · omega
    · obtain ⟨_, hs2⟩ := hst (L.length - 1) (by omega)
      obtain ⟨hOd, hPd⟩ := wmI_ok (n := n) (keyD n key) (L.length - 1) 0 hO hO.pre
      rw [Nat.zero_add] at hPd
      have := br_depth hs2 hPd (hOd.form hw)
      omega
  repeat (first | exact trivial | refine stp ?_ | refine ldCg ?_ | refine ldNg ?_ | refine ldSg ?_ | refine ldSb ?_ | refine bnd ?_ | refine bnd1 ?_ | refine drawQ (by decide +kernel) mixed (by decide +kernel) ?_)
  refine (RKeyD_ok n hn hn2 key _ w2 (hk.ext .go) (by omega)).mono ?_
  rintro _ w3 ⟨rfl, hE3⟩
  have hz3 := hE3.size
  repeat (first | exact trivial | refine stp ?_ | refine ldCg ?_ | refine ldNg ?_ | refine ldSg ?_ | refine ldSb ?_ | refine bnd ?_ | refine bnd1 ?_ | refine drawQ (by decide +kernel) mixed (by decide +kernel) ?_)
  first | refine newS ?_ | refine newZ ?_
  intro w4 hE4 hz4 hB4
  repeat (first | exact trivial | refine stp ?_ | refine ldCg ?_ | refine ldNg ?_ | refine ldSg ?_ | refine ldSb ?_ | refine bnd ?_ | refine bnd1 ?_ | refine drawQ (by decide +kernel) mixed (by decide +kernel) ?_)
  first | refine newS ?_ | refine newZ ?_
  intro w5 hE5 hz5 hB5
  repeat (first | exact trivial | refine stp ?_ | refine ldCg ?_ | refine ldNg ?_ | refine ldSg ?_ | refine ldSb ?_ | refine bnd ?_ | refine bnd1 ?_ | refine drawQ (by decide +kernel) mixed (by decide +kernel) ?_)
  refine loopX (ι := Nat × List SR × Option Addr × Nat) (fun x => [(6, .pointer (some ⟨w.heap.size, 0, none⟩)), (8, .slice pa qs.length pc), (9, .pointer (some ⟨w3.heap.size, 0, none⟩)), (10, .pointer (some ⟨w4.heap.size, 0, none⟩)), (23, .slice sa tt.length sc), (24, .int .i64 tt.length), (25, .int .i64 x.1)])
    (fun x W => Ext w4 W ∧ w5.heap.size ≤ W.heap.size ∧ x.1 ≤ L.length ∧ x.2.1.length = x.1 ∧ Blk W w4.heap.size 26 [.slice x.2.2.1 x.2.1.length x.2.2.2, .slice none 0 0] ∧
      Own W w5.heap.size 51 2 (.slice x.2.2.1 x.2.1.length x.2.2.2) x.2.1.length (x.2.1.flatMap SR.cells) ∧ RunK W W.heap.size w5.heap.size x.2.1 ∧ x.2.1.map SR.dt = cutS (keyD n key) 0 (L.take x.1)) (fun x => L.length - x.1) (0, [], none, 0) ⟨.go, Nat.le_refl _, Nat.zero_le _, rfl, hB5, Own.nil _ _ _ _, Nat.le_refl _, rfl⟩ ?_ ?_
  · repeat (first | exact trivial | refine stp ?_ | refine ldCg ?_ | refine ldNg ?_ | refine ldSg ?_ | refine ldSb ?_ | refine bnd ?_ | refine bnd1 ?_ | refine drawQ (by decide +kernel) mixed (by decide +kernel) ?_)
  · rintro ⟨i, us, a, c⟩ s6 w6 ⟨hE6, hz6, hi, hul, hB6, hO6, hR6, hd6⟩
    simp only at hi hul hB6 hO6 hR6 hd6
    repeat (first | exact trivial | refine stp ?_ | refine ldCg ?_ | refine ldNg ?_ | refine ldSg ?_ | refine ldSb ?_ | refine bnd ?_ | refine bnd1 ?_ | refine drawQ (by decide +kernel) mixed (by decide +kernel) ?_)
    refine ⟨fun hlt => ?_, fun hge => ?_⟩
    · obtain ⟨b, o, rfl, hR⟩ := hSt.1.row (f := SR.cells) (sz := 2) (fun _ _ => rfl) (by decide) (by omega)
      obtain ⟨t, ht⟩ : ∃ x, tt[i]? = some x := ⟨_, List.getElem?_eq_getElem (by omega)⟩
      have htm := hSt.2 t (List.mem_of_getElem? ht)
      have hLi : L[i]? = some t.dt := by rw [← htd, List.getElem?_map, ht]; rfl
      obtain ⟨hs1, hs2⟩ := hst i (by omega)
      have hkl2 : t.ks.length ≤ 16 := by
        rw [hs1] at hLi
        simp only [Option.some.injEq, SR.dt, Prod.mk.injEq] at hLi
        rw [← hLi.2, kidsI_len]
        exact cnt_le _
      obtain ⟨kv', bm, ks⟩ := t
      simp only [SR.dt] at htm hLi hkl2
      obtain ⟨ka', kc', rfl⟩ := slv_of htm.2.2
      have hdg := digP_lt (keyD n key) i
      repeat (first | exact trivial | refine stp ?_ | refine ldCg ?_ | refine ldNg ?_ | refine ldSg ?_ | refine ldSb ?_ | refine bnd ?_ | refine bnd1 ?_ | refine drawQ (by decide +kernel) mixed (by decide +kernel) ?_)
      refine ldStepS ht ?_
      repeat (first | exact trivial | refine stp ?_ | refine ldCg ?_ | refine ldNg ?_ | refine ldSg ?_ | refine ldSb ?_ | refine bnd ?_ | refine bnd1 ?_ | refine drawQ (by decide +kernel) mixed (by decide +kernel) ?_)
      first | refine newS ?_ | refine newZ ?_
      intro w7 hE7 hz7 hB7
      repeat (first | exact trivial | refine stp ?_ | refine ldCg ?_ | refine ldNg ?_ | refine ldSg ?_ | refine ldSb ?_ | refine bnd ?_ | refine bnd1 ?_ | refine drawQ (by decide +kernel) mixed (by decide +kernel) ?_)
      have hB67 := hB6.ext hE7
      have hB47 : Blk w7 w3.heap.size 28 (vbs (keyD n key)) := .go (h := hB4)
      refine drawH (fun W => Blk W w4.heap.size 26 [.slice a us.length c, .slice none 0 0] ∧ Blk W w6.heap.size 51 [.int .u16 bm, .slice ka' ks.length kc'] ∧ Blk W w3.heap.size 28 (vbs (keyD n key))) [0, 1, 2, 3, 4, 5, 6, 7, 8, 9, 10] mixed (by decide +kernel) (fun w8 hE8 hh => ⟨⟨hB67.ext hE8, hB7.ext hE8, hB47.ext hE8⟩, ?_⟩)
      have hz8 := hE8.size
      repeat (first | exact trivial | refine stp ?_ | refine ldCg ?_ | refine ldNg ?_ | refine ldSg ?_ | refine ldSb ?_ | refine bnd ?_ | refine bnd1 ?_ | refine drawQ (by decide +kernel) mixed (by decide +kernel) ?_)
      refine loadS_of (.slice a us.length c) (fun w' h => by refine stp ?_; exact ldCg rfl h.1) ?_
      repeat (first | exact trivial | refine stp ?_ | refine ldCg ?_ | refine ldNg ?_ | refine ldSg ?_ | refine ldSb ?_ | refine bnd ?_ | refine bnd1 ?_ | refine drawQ (by decide +kernel) mixed (by decide +kernel) ?_)
      refine loadS_of (.agg [.int .u16 bm, .slice ka' ks.length kc'].toArray) (fun w' h => by refine stp ?_; exact ldNg rfl h.2.1) ?_
      repeat (first | exact trivial | refine stp ?_ | refine ldCg ?_ | refine ldNg ?_ | refine ldSg ?_ | refine ldSb ?_ | refine bnd ?_ | refine bnd1 ?_ | refine drawQ (by decide +kernel) mixed (by decide +kernel) ?_)
      refine loadS_of (.agg (vbs (keyD n key)).toArray) (fun w' h => by refine stp ?_; exact ldNg rfl h.2.2) ?_
      repeat (first | exact trivial | refine stp ?_ | refine ldCg ?_ | refine ldNg ?_ | refine ldSg ?_ | refine ldSb ?_ | refine bnd ?_ | refine bnd1 ?_ | refine drawQ (by decide +kernel) mixed (by decide +kernel) ?_)
      refine (DigitR_ok (keyD n key) hKl i (by omega) w8).mono ?_
      rintro _ w9 ⟨rfl, hE9⟩
      have hz9 := hE9.size
      have hB69 := hB67.ext (hE8.trans' hE9)
      have hB79 := hB7.ext (hE8.trans' hE9)
      have hB49 := hB47.ext (hE8.trans' hE9)
      refine toldS ⟨hB69, hB79, hB49⟩ ?_
      repeat (first | exact trivial | refine stp ?_ | refine ldCg ?_ | refine ldNg ?_ | refine ldSg ?_ | refine ldSb ?_ | refine bnd ?_ | refine bnd1 ?_ | refine drawQ (by decide +kernel) mixed (by decide +kernel) ?_)
      refine (WithoutR_ok bm htm.1 (digP (keyD n key) i) hdg ks _ w9 (htm.2.2.ext .go) htm.2.1 (by omega)).mono ?_
      rintro _ w10 ⟨ov, rfl, hO10, hE10⟩
      have hz10 := hE10.size
      refine toldS ⟨hB69.ext hE10, hB79.ext hE10, hB49.ext hE10⟩ ?_
      obtain ⟨oa, oc, rfl⟩ := own_slice hO10
      generalize hkn : cutK bm (digP (keyD n key) i) ks = kn at *
      have hn32 : ∀ d ∈ kn, d.length = 32 := fun d hd => htm.2.1 d (by rw [← hkn] at hd; exact cutK_mem d hd)
      repeat (first | exact trivial | refine stp ?_ | refine ldCg ?_ | refine ldNg ?_ | refine ldSg ?_ | refine ldSb ?_ | refine bnd ?_ | refine bnd1 ?_ | refine drawQ (by decide +kernel) mixed (by decide +kernel) ?_)
      refine ⟨rfl, rfl, ?_⟩
      first | refine newS ?_ | refine newZ ?_
      intro w11 hE11 hz11 hB11
      refine toldS ⟨hB69.ext (hE10.trans' hE11), hB79.ext (hE10.trans' hE11), hB49.ext (hE10.trans' hE11)⟩ ?_
      repeat (first | exact trivial | refine stp ?_ | refine ldCg ?_ | refine ldNg ?_ | refine ldSg ?_ | refine ldSb ?_ | refine bnd ?_ | refine bnd1 ?_ | refine drawQ (by decide +kernel) mixed (by decide +kernel) ?_)
      have hO11 : Own w11 w5.heap.size 51 2 (.slice a us.length c) us.length (us.flatMap SR.cells) := hO6.ext .go
      have hB611 := hB69.ext (hE10.trans' hE11)
      refine apStep (us := us) (p := ⟨.slice oa kn.length oc, bm, kn⟩) hO11 (by omega) hB11 rfl (by omega) (fun a12 c12 w12 hO12 hg12 hE12 => ?_)
      have hz12 := hE12.size
      have hB12 : Blk w12 w4.heap.size 26 [.slice a us.length c, .slice none 0 0] := ⟨by rw [hg12.block _ hB611.lt (fun e => hO11.not_blk hB611 (by decide) e.symm)]; exact hB611.out⟩
      have hX : ∀ k T l, (Value.slice a us.length c).ownBlock ≠ some k → Blk w11 k T l → Blk w12 k T l := fun k T l hT hk => ⟨by rw [hg12.block _ hk.lt (fun e => hT e.symm)]; exact hk.out⟩
      have hB4x := hB49.ext (hE10.trans' hE11)
      have hR12 : RunK w12 w12.heap.size w5.heap.size (us ++ [⟨.slice oa kn.length oc, bm, kn⟩]) := by
        refine RunK.append (m := w9.heap.size) (RunK.grown hO11 (by decide) hg12 ((hR6.ext .go).top (by omega))) ⟨w12.heap.size, by omega, ⟨htm.1, hn32, (hO10.ext hE11).grown_ne hO11 (by decide) hg12, fun g hg => ?_⟩, Nat.le_refl _⟩
        have := (hO10.ext hE11).top g hg
        omega
      have hdt : (us ++ [(⟨.slice oa kn.length oc, bm, kn⟩ : SR)]).map SR.dt = cutS (keyD n key) 0 (L.take (i + 1)) := by
        obtain ⟨h1, h2⟩ := List.getElem?_eq_some_iff.1 hLi
        rw [List.map_append, hd6, List.take_succ_eq_append_getElem h1, h2, cutS_snoc, List.length_take, Nat.zero_add, Nat.min_eq_left (by omega), hkn]
        rfl
      have hul' : (us ++ [(⟨.slice oa kn.length oc, bm, kn⟩ : SR)]).length = i + 1 := by rw [List.length_append, hul]; rfl
      generalize us ++ [(⟨.slice oa kn.length oc, bm, kn⟩ : SR)] = us' at *
      refine toldS ⟨hB12, hX _ _ _ (fun e => by have := hO6.top _ e; omega) (hB79.ext (hE10.trans' hE11)), hX _ _ _ (hO11.not_blk hB4x (by decide)) hB4x⟩ ?_
      repeat (first | exact trivial | refine stp ?_ | refine ldCg ?_ | refine ldNg ?_ | refine ldSg ?_ | refine ldSb ?_ | refine bnd ?_ | refine bnd1 ?_ | refine drawQ (by decide +kernel) mixed (by decide +kernel) ?_)
      refine stC ?_
      intro w13 hP13 hz13 hB13
      refine toldZ ?_
      repeat (first | exact trivial | refine stp ?_ | refine ldCg ?_ | refine ldNg ?_ | refine ldSg ?_ | refine ldSb ?_ | refine bnd ?_ | refine bnd1 ?_ | refine drawQ (by decide +kernel) mixed (by decide +kernel) ?_)
      exact ⟨(i + 1, us', a12, c12), ⟨.go, by omega, by simp only; omega, hul', hB13, hO12.put hB12 (by decide) hP13, RunK.put hB12 (by decide) hP13 (hR12.top (by omega)), hdt⟩, by rw [w64 (by omega) (by omega)]; rfl, by simp only; omega⟩
    · have hl0 : i = L.length := by omega
      have hb1 : Blk w6 w.heap.size 26 _ := .go (h := hB1)
      repeat (first | exact trivial | refine stp ?_ | refine ldCg ?_ | refine ldNg ?_ | refine ldSg ?_ | refine ldSb ?_ | refine bnd ?_ | refine bnd1 ?_ | refine drawQ (by decide +kernel) mixed (by decide +kernel) ?_)
      refine stC ?_
      intro w7 hP7 hz7 hB7
      have hb7 := hP7.keep hb1 (by omega)
      repeat (first | exact trivial | refine stp ?_ | refine ldCg ?_ | refine ldNg ?_ | refine ldSg ?_ | refine ldSb ?_ | refine bnd ?_ | refine bnd1 ?_ | refine drawQ (by decide +kernel) mixed (by decide +kernel) ?_)
      refine stW (hb := hb7) ?_
      intro w8 hP8 hz8 hB8
      repeat (first | exact trivial | refine stp ?_ | refine ldCg ?_ | refine ldNg ?_ | refine ldSg ?_ | refine ldSb ?_ | refine bnd ?_ | refine bnd1 ?_ | refine drawQ (by decide +kernel) mixed (by decide +kernel) ?_)
      rw [hl0, List.take_length] at hd6
      have hO8 := (hO6.put hB6 (by decide) hP7).put hb7 (by decide) hP8
      have hR8 := RunK.put hb7 (by decide) hP8 (RunK.put hB6 (by decide) hP7 hR6)
      have hP6 := ((hPr.ext (w' := w6) .go).put hB6 (by decide) hP7).put hb7 (by decide) hP8
      exact ⟨.slice a us.length c, .slice pa qs.length pc, us, qs, rfl, hO8.base (by omega), RunK.append (l := []) (m := w5.heap.size) (by show w.heap.size ≤ _; omega) (hR8.top (by omega)), hP6.base (by omega), hjs, hd6, hqd, .go⟩
/-- A proof's parts. -/
structure PrfAt (w : World) (v : Value) (ss : List (Nat × List (List UInt8))) (ps : List (List UInt8 × List UInt8)) : Prop where
  out : ∃ sv pv tt qs, v = .agg [sv, pv].toArray ∧ StepsAt w sv tt ∧ PairsAt w pv qs ∧ tt.map SR.dt = ss ∧ qs.map PR.dat = ps
theorem StepsAt.ext' {w w' : World} {v : Value} {tt : List SR} (h : StepsAt w v tt) (e : Ext w w') : StepsAt w' v tt := h.ext e
theorem PairsAt.ext' {w w' : World} {v : Value} {qs : List PR} (h : PairsAt w v qs) (e : Ext w w') : PairsAt w' v qs := ⟨h.1.ext e, fun p hp => ⟨(h.2 p hp).1.ext e, (h.2 p hp).2.ext e⟩⟩
theorem PrfAt.ext {w w' : World} {v : Value} {ss : List (Nat × List (List UInt8))} {ps : List (List UInt8 × List UInt8)} (h : PrfAt w v ss ps) (e : Ext w w') : PrfAt w' v ss ps := by
  obtain ⟨sv, pv, tt, qs, h1, h2, h3, h4, h5⟩ := h.out
  exact ⟨sv, pv, tt, qs, h1, h2.ext' e, h3.ext' e, h4, h5⟩
theorem PairsAt.ofJs {w w0 : World} {lo : Nat} {pv : Value} {is js : List IR} {mv : Value} (hm : ItemsAt w0 mv is) (e : Ext w0 w) (h : Own w lo 47 2 pv js.length ((js.map IR.pr).flatMap PR.cells)) (hj : ∀ q ∈ js, q ∈ is) : PairsAt w pv (js.map IR.pr) := by
  refine ⟨by rw [List.length_map]; exact SlC.of_own h, fun p hp => ?_⟩
  obtain ⟨q, hq, rfl⟩ := List.mem_map.1 hp
  exact ⟨(hm.mem q (hj q hq)).key.ext e, (hm.mem q (hj q hq)).val.ext e⟩
theorem PairsAt.ofRun {w : World} {lo lo' hi : Nat} {pv : Value} {qs : List PR} (h : Own w lo 47 2 pv qs.length (qs.flatMap PR.cells)) (hr : RunB w hi lo' (qs.flatMap prB)) : PairsAt w pv qs :=
  ⟨SlC.of_own h, fun p hp => ⟨(hr.mem (p.kv, p.k) (List.mem_flatMap.2 ⟨p, hp, by simp [prB]⟩)).sl, (hr.mem (p.vv, p.v) (List.mem_flatMap.2 ⟨p, hp, by simp [prB]⟩)).sl⟩⟩
theorem Same15_ok (u v : Value) (ss ss' : List (Nat × List (List UInt8))) (ps ps' : List (List UInt8 × List UInt8)) (w : World) (hu : PrfAt w u ss ps) (hv : PrfAt w v ss' ps') :
    CallK Tryz.prog 30 [u, v].toArray w fun r w' => r = .bool (decide (ss = ss' ∧ ps = ps')) ∧ Ext w w' := by
  obtain ⟨sv, pv, tt, qs, rfl, h1, h2, rfl, rfl⟩ := hu.out
  obtain ⟨sv', pv', tt', qs', rfl, h1', h2', rfl, rfl⟩ := hv.out
  obtain ⟨a1, c1, rfl⟩ := slv_of h1.1
  obtain ⟨a2, c2, rfl⟩ := slv_of h2.1
  obtain ⟨a3, c3, rfl⟩ := slv_of h1'.1
  obtain ⟨a4, c4, rfl⟩ := slv_of h2'.1
  refine enterT Tryz.func30 rfl Tryz.ntmps30 Tryz.results30 rfl (by decide) ?_
  repeat (first | exact trivial | refine stp ?_ | refine ldCg ?_ | refine ldNg ?_ | refine ldSg ?_ | refine ldSb ?_ | refine bnd ?_ | refine bnd1 ?_ | refine drawQ (by decide +kernel) mixed (by decide +kernel) ?_)
  first | refine newS ?_ | refine newZ ?_
  intro w1 hE1 hz1 hB1
  first | refine newS ?_ | refine newZ ?_
  intro w2 hE2 hz2 hB2
  repeat (first | exact trivial | refine stp ?_ | refine ldCg ?_ | refine ldNg ?_ | refine ldSg ?_ | refine ldSb ?_ | refine bnd ?_ | refine bnd1 ?_ | refine drawQ (by decide +kernel) mixed (by decide +kernel) ?_)
  refine (SameSteps_ok tt tt' _ _ w2 (h1.ext .go) (h1'.ext .go)).mono ?_
  rintro _ w3 ⟨rfl, hE3⟩
  have hz3 := hE3.size
  by_cases hs : tt.map SR.dt = tt'.map SR.dt
  · rw [decide_eq_true hs]
    repeat (first | exact trivial | refine stp ?_ | refine ldCg ?_ | refine ldNg ?_ | refine ldSg ?_ | refine ldSb ?_ | refine bnd ?_ | refine bnd1 ?_ | refine drawQ (by decide +kernel) mixed (by decide +kernel) ?_)
    refine (SamePairs_ok qs qs' _ _ w3 (h2.ext' .go) (h2'.ext' .go)).mono ?_
    rintro _ w4 ⟨rfl, hE4⟩
    have hz4 := hE4.size
    repeat (first | exact trivial | refine stp ?_ | refine ldCg ?_ | refine ldNg ?_ | refine ldSg ?_ | refine ldSb ?_ | refine bnd ?_ | refine bnd1 ?_ | refine drawQ (by decide +kernel) mixed (by decide +kernel) ?_)
    refine ⟨?_, .go⟩
    simp only [hs, true_and]
  · rw [decide_eq_false hs]
    repeat (first | exact trivial | refine stp ?_ | refine ldCg ?_ | refine ldNg ?_ | refine ldSg ?_ | refine ldSb ?_ | refine bnd ?_ | refine bnd1 ?_ | refine drawQ (by decide +kernel) mixed (by decide +kernel) ?_)
    refine ⟨?_, .go⟩
    simp only [hs, false_and, decide_false]
/-- How many digests steps have, counted as the program counts. -/
def sizeW (ss : List SR) : Int := ss.foldl (fun n s => IntKind.i64.wrap (n + s.ks.length)) 0
theorem sizeW_snoc (ss : List SR) (s : SR) : sizeW (ss ++ [s]) = IntKind.i64.wrap (sizeW ss + s.ks.length) := by unfold sizeW; rw [List.foldl_append]; rfl
theorem Size_ok (ss : List SR) (qs : List PR) (sv pv : Value) (w : World) (h1 : StepsAt w sv ss) (h2 : PairsAt w pv qs) :
    CallK Tryz.prog 31 [.agg [sv, pv].toArray].toArray w fun r w' => r = .tuple [.int .i64 (sizeW ss), .int .i64 qs.length].toArray ∧ Ext w w' := by
  obtain ⟨a1, c1, rfl⟩ := slv_of h1.1
  obtain ⟨a2, c2, rfl⟩ := slv_of h2.1
  have hsn : ss.length ≤ 9223372036854775807 := by obtain ⟨_, _, _, h1, h2, _⟩ := h1.1; omega
  refine enterT Tryz.func31 rfl Tryz.ntmps31 Tryz.results31 rfl (by decide) ?_
  repeat (first | exact trivial | refine stp ?_ | refine ldCg ?_ | refine ldNg ?_ | refine ldSg ?_ | refine ldSb ?_ | refine bnd ?_ | refine bnd1 ?_ | refine drawQ (by decide +kernel) mixed (by decide +kernel) ?_)
  first | refine newS ?_ | refine newZ ?_
  intro w1 hE1 hz1 hB1
  repeat (first | exact trivial | refine stp ?_ | refine ldCg ?_ | refine ldNg ?_ | refine ldSg ?_ | refine ldSb ?_ | refine bnd ?_ | refine bnd1 ?_ | refine drawQ (by decide +kernel) mixed (by decide +kernel) ?_)
  refine loopX (ι := Nat) (fun i => [(1, .pointer (some ⟨w.heap.size, 0, none⟩)), (4, .int .i64 (sizeW (ss.take i))), (8, .slice a1 ss.length c1), (9, .int .i64 ss.length), (10, .int .i64 i)])
    (fun i W => Ext w1 W ∧ i ≤ ss.length) (fun i => ss.length - i) 0 ⟨.go, Nat.zero_le _⟩ ?_ ?_
  · repeat (first | exact trivial | refine stp ?_ | refine ldCg ?_ | refine ldNg ?_ | refine ldSg ?_ | refine ldSb ?_ | refine bnd ?_ | refine bnd1 ?_ | refine drawQ (by decide +kernel) mixed (by decide +kernel) ?_)
    rfl
  · rintro i s2 w2 ⟨hE2, hi⟩
    have hz2 := hE2.size
    repeat (first | exact trivial | refine stp ?_ | refine ldCg ?_ | refine ldNg ?_ | refine ldSg ?_ | refine ldSb ?_ | refine bnd ?_ | refine bnd1 ?_ | refine drawQ (by decide +kernel) mixed (by decide +kernel) ?_)
    refine ⟨fun hlt => ?_, fun hge => ?_⟩
    · obtain ⟨b, o, rfl, hR⟩ := h1.1.row (f := SR.cells) (sz := 2) (fun _ _ => rfl) (by decide) (by omega)
      obtain ⟨s, hs⟩ : ∃ x, ss[i]? = some x := ⟨_, List.getElem?_eq_getElem (by omega)⟩
      have hsm := h1.2 s (List.mem_of_getElem? hs)
      have htk : ss.take (i + 1) = ss.take i ++ [s] := by
        obtain ⟨hil, he⟩ := List.getElem?_eq_some_iff.1 hs
        rw [List.take_succ_eq_append_getElem hil, he]
      obtain ⟨kv, bm, ks⟩ := s
      obtain ⟨ka, kc, e⟩ := slv_of hsm.2.2
      simp only at e
      subst e
      repeat (first | exact trivial | refine stp ?_ | refine ldCg ?_ | refine ldNg ?_ | refine ldSg ?_ | refine ldSb ?_ | refine bnd ?_ | refine bnd1 ?_ | refine drawQ (by decide +kernel) mixed (by decide +kernel) ?_)
      refine ldStepS hs ?_
      repeat (first | exact trivial | refine stp ?_ | refine ldCg ?_ | refine ldNg ?_ | refine ldSg ?_ | refine ldSb ?_ | refine bnd ?_ | refine bnd1 ?_ | refine drawQ (by decide +kernel) mixed (by decide +kernel) ?_)
      first | refine newS ?_ | refine newZ ?_
      intro w3 hE3 hz3 hB3
      repeat (first | exact trivial | refine stp ?_ | refine ldCg ?_ | refine ldNg ?_ | refine ldSg ?_ | refine ldSb ?_ | refine bnd ?_ | refine bnd1 ?_ | refine drawQ (by decide +kernel) mixed (by decide +kernel) ?_)
      exact ⟨i + 1, ⟨.go, by omega⟩, ⟨by rw [htk, sizeW_snoc], by rw [w64 (by omega) (by omega)]; rfl⟩, by omega⟩
    · obtain rfl : i = ss.length := by omega
      rw [List.take_length]
      repeat (first | exact trivial | refine stp ?_ | refine ldCg ?_ | refine ldNg ?_ | refine ldSg ?_ | refine ldSb ?_ | refine bnd ?_ | refine bnd1 ?_ | refine drawQ (by decide +kernel) mixed (by decide +kernel) ?_)
      intro w3 hE3
      exact .go
end Go.Proofs.YtebbgninkbghlaaGreatDoor

/-! Rfe -/
namespace Go.Proofs.YtebbgninkbghlaaGreatDoor
set_option maxRecDepth 100000
open Go Go.RowKit
set_option linter.unusedVariables false
set_option linter.unusedSimpArgs false
set_option maxHeartbeats 1000000
attribute [local irreducible] vcT opsT qT vcOp Q1 vcPure vcLoad vcStore ldC ldN ldD grdT grdQ vc vcOps vcQ hT
attribute [local irreducible] sumR sumP shaP keyD bucketP branchP

/-- A list of items with all that it needs in blocks of S. -/
structure ItemsS (S : Nat → Prop) (w : World) (v : Value) (is : List IR) : Prop where
  row : SlS S w v is.length (is.flatMap IR.cells)
  mem : ∀ q ∈ is, q.y.D.length = 32 ∧ SlS S w q.kv q.y.k.length (vbs q.y.k) ∧ SlS S w q.vv q.y.v.length (vbs q.y.v)
theorem ItemsS.at {S : Nat → Prop} {w : World} {v : Value} {is : List IR} (h : ItemsS S w v is) : ItemsAt w v is := ⟨h.row.sl, fun q hq => ⟨(h.mem q hq).1, (h.mem q hq).2.1.sl, (h.mem q hq).2.2.sl⟩⟩
theorem ItemsS.keep {S : Nat → Prop} {w w' : World} {v : Value} {is : List IR} (h : ItemsS S w v is) (k : KeepS S w w') : ItemsS S w' v is := ⟨h.row.keep k, fun q hq => ⟨(h.mem q hq).1, (h.mem q hq).2.1.keep k, (h.mem q hq).2.2.keep k⟩⟩
theorem ItemsS.mono {S S' : Nat → Prop} {w : World} {v : Value} {is : List IR} (h : ItemsS S w v is) (hS : ∀ b, S b → S' b) : ItemsS S' w v is := ⟨h.row.mono hS, fun q hq => ⟨(h.mem q hq).1, (h.mem q hq).2.1.mono hS, (h.mem q hq).2.2.mono hS⟩⟩
theorem ItemsS.lt {S : Nat → Prop} {w : World} {v : Value} {is : List IR} (h : ItemsS S w v is) : ItemsS (SLt S w) w v is := ⟨h.row.lt, fun q hq => ⟨(h.mem q hq).1, (h.mem q hq).2.1.lt, (h.mem q hq).2.2.lt⟩⟩
theorem ItemsS.nil {S : Nat → Prop} {w : World} : ItemsS S w (.slice none 0 0) [] := ⟨⟨none, 0, rfl, Nat.le_refl _, by decide, Or.inl rfl⟩, by simp⟩
theorem ItemsS.ext {S : Nat → Prop} {w w' : World} {v : Value} {is : List IR} (h : ItemsS S w v is) (e : Ext w w') : ItemsS S w' v is := h.keep (KeepS.of_ext e)
theorem PutS_ok (n : Nat) (hn : 1 ≤ n) (hn2 : n ≤ 32) (S : Nat → Prop) (is : List IR) (m : List It) (key val : List UInt8) (mv kv vv : Value) (w : World) (hm : ItemsS S w mv is) (hy : is.map IR.y = m) (hs : SortedI m) (hk : SlB w kv key) (hv : SlB w vv val) (hkl : key.length ≤ 4000000000) (hvl : val.length ≤ 4000000000) (hml : is.length ≤ 100000000) :
    CallK Tryz.prog 86 [.int .i64 n, mv, kv, vv].toArray w fun v w' => (∃ js, ItemsS (fun b => S b ∨ w.heap.size ≤ b) w' v js ∧ js.map IR.y = putI m ⟨keyD n key, key, val⟩) ∧ Ext w w' := by
  refine (PutO_ok n hn hn2 is m key val mv kv vv w hm.at hy hs hk hv hkl hvl hml).mono ?_
  rintro v w' ⟨⟨js, p, hO, hj, hp, hpS, hjy⟩, hE⟩
  refine ⟨⟨js, ⟨SlS.of_own hO (fun b h => Or.inr h), fun r hr => ?_⟩, hjy⟩, hE⟩
  rcases hj r hr with rfl | h
  · exact ⟨hp.len, hpS.1.mono (fun b h => Or.inr h), hpS.2.mono (fun b h => Or.inr h)⟩
  · have h' := (hm.ext hE).mem r h
    exact ⟨h'.1, h'.2.1.mono (fun b h => Or.inl h), h'.2.2.mono (fun b h => Or.inl h)⟩
def noK (key : List UInt8) (q : IR) : Bool := decide (q.y.k ≠ key)
end Go.Proofs.YtebbgninkbghlaaGreatDoor

/-! Cnv -/
namespace Go.Proofs.YtebbgninkbghlaaGreatDoor
set_option maxRecDepth 100000
open Go Go.RowKit
set_option linter.unusedVariables false
set_option linter.unusedSimpArgs false

/-! ### Conversions -/
theorem convS {w : World} {v : Value} {xs : List UInt8} {K : Value → World → Prop} (h : SlB w v xs) (hK : K (.string ⟨xs.toArray⟩) w) : RawConv Tryz.prog 22 9 v w K := by
  obtain ⟨a, c, rfl, hnc, hcm, hc⟩ := h
  cases a with
  | none =>
    have hx : xs = [] := by
      rcases hc with hc | ⟨b, o, h, _⟩
      · simpa [vbs] using hc
      · cases h
    subst hx
    refine ⟨⟨.string ⟨#[]⟩, w, ?_, hK⟩⟩
    rw [run_convert_bytes_string w 22 9 5 none _ c Tryz.underlying22 Tryz.underlying5 Tryz.underlying9]
    rfl
  | some a =>
    refine ⟨⟨_, _, run_convert_bytes_back w 22 9 5 a c xs Tryz.underlying22 Tryz.underlying5 Tryz.underlying9 ?_, hK⟩⟩
    intro j hj
    rcases hc with hc | ⟨b, o, h, hc⟩
    · have : xs = [] := by simpa [vbs] using hc
      subst this
      simp at hj
    · cases h
      rw [addr_add]
      exact hc j _ (by simp [vbs, vb, hj])
theorem convM {w : World} {b n c : Nat} {T : TypeId} {xs : List UInt8} {K : Value → World → Prop} (hB : Blk w b T (vbs xs)) (hn : n = xs.length) (hc : n ≤ c) (hm : c ≤ 9223372036854775807)
    (hK : ∀ w', SlB w' (.slice (some ⟨b, 0, none⟩) n c) xs → KeepB w w' b → K (.slice (some ⟨b, 0, none⟩) n c) w') : RawConv Tryz.prog 22 22 (.slice (some ⟨b, 0, none⟩) n c) w K := by
  subst hn
  have hsh : w.shape? b = some (T, xs.length) := by simp [World.shape?, hB.out, vbs_len]
  refine ⟨⟨.slice (some ⟨b, 0, none⟩) xs.length c, w.freeze ⟨b, xs.length, none⟩ 1, ?_, ?_⟩⟩
  · simp [convert, run_underlying Tryz.underlying22, run_underlying Tryz.underlying5, markStringish, shape, Sem.run, Result.andThen, hsh]
  · refine hK _ ⟨_, _, rfl, hc, hm, Or.inr ⟨b, 0, rfl, fun j u hj => ?_⟩⟩ ⟨rfl, rfl, rfl, by simp [World.freeze], fun k hk hkb => ?_⟩
    · rw [Nat.zero_add]
      have := hj
      simp [World.cell?, World.freeze, Array.getElem?_modify, hB.out]
      exact hj
    · simp [World.freeze, Array.getElem?_modify, Ne.symm hkb]
theorem convN {w : World} {xs : List UInt8} {n : Nat} {l : List Value} {K : Value → World → Prop} (hl : l = vbs xs) (hn : n = xs.length) (hm : n ≤ 9223372036854775807)
    (hK : ∀ w', Ext w w' → w.heap.size + 1 ≤ w'.heap.size → SlB w' (.slice (some ⟨w.heap.size, 0, none⟩) n n) xs → K (.slice (some ⟨w.heap.size, 0, none⟩) n n) w') :
    ∀ w', NewB w w' 5 l → RawConv Tryz.prog 22 22 (.slice (some ⟨w.heap.size, 0, none⟩) n n) w' K := fun w' hN => by
  subst hl
  exact convM hN.blk hn (Nat.le_refl _) hm fun w'' hS hk => hK w'' (hN.ext.trans (hk.below (Nat.le_refl _) (by have := hN.size; omega))) (by have := hk.size; have := hN.size; omega) hS
/-! ### The order of strings -/
end Go.Proofs.YtebbgninkbghlaaGreatDoor

/-! Lpa -/
namespace Go.Proofs.YtebbgninkbghlaaGreatDoor
set_option maxRecDepth 100000
open Go Go.RowKit
set_option linter.unusedVariables false
set_option linter.unusedSimpArgs false
set_option maxHeartbeats 1000000
attribute [local irreducible] vcT opsT qT vcOp Q1 vcPure vcLoad vcStore ldC ldN ldD grdT grdQ vc vcOps vcQ hT
attribute [local irreducible] sumR sumP shaP keyD bucketP branchP

/-- The items of the first eighty pairs. -/
def madeI (n : Int) (ps : List (List UInt8 × List UInt8)) : List It := grownI n (ps.take 80)
theorem madeI_ok (n : Int) (l : List (List UInt8 × List UInt8)) : OkI n (madeI n l) := grownI_ok _ _
theorem madeI_len (n : Int) (l : List (List UInt8 × List UInt8)) : (madeI n l).length ≤ 80 := by
  have := grownI_len n (l.take 80)
  rw [List.length_take] at this
  unfold madeI
  omega
theorem made_ok (n : Int) (ps : List PR) (pv : Value) (w : World) (hW : WordsAt w 1) (hp : PairsAt w pv ps) :
    CallK Tryz.prog 26 [.int .i64 n, pv].toArray w fun v w' => (widB n = false → v = .tuple [.pointer none, .slice none 0 0].toArray) ∧
      (widB n = true → ∃ b lv is, v = .tuple [.pointer (some ⟨b, 0, none⟩), lv].toArray ∧ MapAt n (fun k => w.heap.size ≤ k) w' (.pointer (some ⟨b, 0, none⟩)) (madeI n (ps.map PR.dat)) ∧ ItemsS (fun k => w.heap.size ≤ k) w' lv is ∧ is.map IR.y = madeI n (ps.map PR.dat)) ∧ Ext w w' := by
  obtain ⟨hp1, hp2⟩ := hp
  have hpl : ps.length ≤ 9223372036854775807 := by obtain ⟨_, _, _, h1, h2, _⟩ := hp1; omega
  obtain ⟨pa, cp, rfl⟩ := slv_of hp1
  refine enterT Tryz.func26 rfl Tryz.ntmps26 Tryz.results26 rfl (by decide) ?_
  repeat (first | exact trivial | refine stp ?_ | refine ldCg ?_ | refine ldNg ?_ | refine ldSg ?_ | refine ldSb ?_ | refine bnd ?_ | refine bnd1 ?_ | refine drawQ (by decide +kernel) mixed (by decide +kernel) ?_)
  refine (New_hamt_ok n w).mono ?_
  rintro _ w1 ⟨hN0, hN1, hE1⟩
  have hz1 := hE1.size
  cases hw : widB n
  · obtain rfl := hN0 hw
    repeat (first | exact trivial | refine stp ?_ | refine ldCg ?_ | refine ldNg ?_ | refine ldSg ?_ | refine ldSb ?_ | refine bnd ?_ | refine bnd1 ?_ | refine drawQ (by decide +kernel) mixed (by decide +kernel) ?_)
    exact hE1
  · obtain ⟨mv, rfl, hM1⟩ := hN1 hw
    have hwn := (widB_iff n).1 hw
    obtain ⟨nn, rfl⟩ : ∃ nn : Nat, n = nn := ⟨n.toNat, by omega⟩
    obtain ⟨b, rfl⟩ : ∃ b, mv = .pointer (some ⟨b, 0, none⟩) := by obtain ⟨b, _, rfl, _⟩ := hM1; exact ⟨b, rfl⟩
    clear hN0 hN1
    repeat (first | exact trivial | refine stp ?_ | refine ldCg ?_ | refine ldNg ?_ | refine ldSg ?_ | refine ldSb ?_ | refine bnd ?_ | refine bnd1 ?_ | refine drawQ (by decide +kernel) mixed (by decide +kernel) ?_)
    refine loopX (ι := Nat × Nat × Value × List IR) (fun x => [(0, .int .i64 nn), (6, .pointer (some ⟨x.2.1, 0, none⟩)), (8, x.2.2.1), (24, .slice pa ps.length cp), (25, .int .i64 ps.length), (26, .int .i64 x.1)])
      (fun x W => Ext w W ∧ x.1 ≤ ps.length ∧ MapAt nn (fun k => w.heap.size ≤ k) W (.pointer (some ⟨x.2.1, 0, none⟩)) (madeI nn ((ps.take x.1).map PR.dat)) ∧ ItemsS (fun k => w.heap.size ≤ k) W x.2.2.1 x.2.2.2 ∧ x.2.2.2.map IR.y = madeI nn ((ps.take x.1).map PR.dat)) (fun x => ps.length - x.1) (0, b, .slice none 0 0, []) ⟨.go, Nat.zero_le _, hM1, .nil, rfl⟩ ?_ ?_
    · repeat (first | exact trivial | refine stp ?_ | refine ldCg ?_ | refine ldNg ?_ | refine ldSg ?_ | refine ldSb ?_ | refine bnd ?_ | refine bnd1 ?_ | refine drawQ (by decide +kernel) mixed (by decide +kernel) ?_)
    · rintro ⟨i, mb, lv, is⟩ s2 w2 ⟨hE2, hi, hM2, hI2, hy2⟩
      simp only at hi hM2 hI2 hy2
      have hz2 := hE2.size
      have hO2 := madeI_ok nn ((ps.take i).map PR.dat)
      have hL2 := madeI_len nn ((ps.take i).map PR.dat)
      have hil2 : is.length ≤ 80 := by rw [← hy2, List.length_map] at hL2; exact hL2
      obtain ⟨la, lc, rfl⟩ := slv_of hI2.row.sl
      repeat (first | exact trivial | refine stp ?_ | refine ldCg ?_ | refine ldNg ?_ | refine ldSg ?_ | refine ldSb ?_ | refine bnd ?_ | refine bnd1 ?_ | refine drawQ (by decide +kernel) mixed (by decide +kernel) ?_)
      refine ⟨fun hlt => ?_, fun hge => ?_⟩
      · obtain ⟨pb, po, rfl, hR⟩ := pr_row hp1 (by omega)
        obtain ⟨p, hx⟩ : ∃ x, ps[i]? = some x := ⟨_, List.getElem?_eq_getElem (by omega)⟩
        obtain ⟨hpk, hpv⟩ := hp2 _ (List.mem_of_getElem? hx)
        have htk : madeI nn ((ps.take (i + 1)).map PR.dat) = if 80 ≤ i ∨ 64 < p.k.length ∨ 256 < p.v.length then madeI nn ((ps.take i).map PR.dat) else putI (madeI nn ((ps.take i).map PR.dat)) ⟨keyD nn p.k, p.k, p.v⟩ := by
          obtain ⟨hil, he⟩ := List.getElem?_eq_some_iff.1 hx
          rw [List.take_succ_eq_append_getElem hil, he, List.map_append]
          have hll : ((ps.take i).map PR.dat).length = i := by rw [List.length_map, List.length_take]; omega
          unfold madeI
          by_cases h80 : 80 ≤ i
          · rw [if_pos (Or.inl h80), List.take_append_of_le_length (by omega)]
          · rw [List.take_of_length_le (l := _ ++ _) (by rw [List.length_append, hll]; simp; omega), List.take_of_length_le (l := List.map _ _) (by omega)]
            have := grownI_snoc nn ((ps.take i).map PR.dat) p.dat
            rw [show (List.map PR.dat [p]) = [p.dat] from rfl, this]
            by_cases hc : 64 < p.k.length ∨ 256 < p.v.length
            · rw [if_pos (show 64 < p.dat.1.length ∨ 256 < p.dat.2.length from hc), if_pos (Or.inr hc)]
            · rw [if_neg (show ¬ (64 < p.dat.1.length ∨ 256 < p.dat.2.length) from hc), if_neg (fun h => h.elim (fun h => h80 h) hc)]
              rfl
        obtain ⟨kv, vv, k, v⟩ := p
        simp only at hpk hpv htk
        obtain ⟨ka, kc, rfl⟩ := slv_of hpk
        obtain ⟨va, vc', rfl⟩ := slv_of hpv
        repeat (first | exact trivial | refine stp ?_ | refine ldCg ?_ | refine ldNg ?_ | refine ldSg ?_ | refine ldSb ?_ | refine bnd ?_ | refine bnd1 ?_ | refine drawQ (by decide +kernel) mixed (by decide +kernel) ?_)
        refine ldPair hx ?_
        repeat (first | exact trivial | refine stp ?_ | refine ldCg ?_ | refine ldNg ?_ | refine ldSg ?_ | refine ldSb ?_ | refine bnd ?_ | refine bnd1 ?_ | refine drawQ (by decide +kernel) mixed (by decide +kernel) ?_)
        first | refine newS ?_ | refine newZ ?_
        intro w3 hE3 hz3 hB3
        repeat (first | exact trivial | refine stp ?_ | refine ldCg ?_ | refine ldNg ?_ | refine ldSg ?_ | refine ldSb ?_ | refine bnd ?_ | refine bnd1 ?_ | refine drawQ (by decide +kernel) mixed (by decide +kernel) ?_)
        refine ⟨fun h80' => ?_, fun h80' => ?_⟩
        · have h80 : 80 ≤ i := by omega
          exact ⟨(i + 1, mb, .slice la is.length lc, is), ⟨.go, by simp only; omega, by simp only; rw [htk, if_pos (Or.inl h80)]; exact hM2.ext .go, hI2.ext .go, by simp only; rw [htk, if_pos (Or.inl h80)]; exact hy2⟩, ⟨rfl, rfl, by rw [w64 (by omega) (by omega)]; rfl⟩, by simp only; omega⟩
        have h80 : ¬ 80 ≤ i := by omega
        repeat (first | exact trivial | refine stp ?_ | refine ldCg ?_ | refine ldNg ?_ | refine ldSg ?_ | refine ldSb ?_ | refine bnd ?_ | refine bnd1 ?_ | refine drawQ (by decide +kernel) mixed (by decide +kernel) ?_)
        refine (CheckPairR_ok k v _ _ w3 (hpk.ext .go) (hpv.ext .go)).mono ?_
        rintro _ w4 ⟨rfl, hE4⟩
        have hz4 := hE4.size
        by_cases hc : 64 < k.length ∨ 256 < v.length
        · rw [if_pos hc]
          repeat (first | exact trivial | refine stp ?_ | refine ldCg ?_ | refine ldNg ?_ | refine ldSg ?_ | refine ldSb ?_ | refine bnd ?_ | refine bnd1 ?_ | refine drawQ (by decide +kernel) mixed (by decide +kernel) ?_)
          exact ⟨(i + 1, mb, .slice la is.length lc, is), ⟨.go, by simp only; omega, by simp only; rw [htk, if_pos (Or.inr hc)]; exact hM2.ext .go, hI2.ext .go, by simp only; rw [htk, if_pos (Or.inr hc)]; exact hy2⟩, ⟨rfl, rfl, by rw [w64 (by omega) (by omega)]; rfl⟩, by simp only; omega⟩
        · rw [if_neg hc]
          repeat (first | exact trivial | refine stp ?_ | refine ldCg ?_ | refine ldNg ?_ | refine ldSg ?_ | refine ldSb ?_ | refine bnd ?_ | refine bnd1 ?_ | refine drawQ (by decide +kernel) mixed (by decide +kernel) ?_)
          refine (Put_hamt_ok nn hw _ _ _ _ _ k v w4 (hW.ext .go) (hM2.ext .go) hO2 (hpk.ext .go) (hpv.ext .go) (by omega)).mono ?_
          rintro _ w5 ⟨⟨rv, rfl, _, hM5⟩, hE5⟩
          have hz5 := hE5.size
          rw [if_neg hc]
          replace hM5 := (hM5 hc).mono (S' := fun k => w.heap.size ≤ k) (fun k h => h.elim id (fun h => by omega))
          obtain ⟨b5, rfl⟩ : ∃ b, rv = .pointer (some ⟨b, 0, none⟩) := by obtain ⟨b, _, rfl, _⟩ := hM5; exact ⟨b, rfl⟩
          repeat (first | exact trivial | refine stp ?_ | refine ldCg ?_ | refine ldNg ?_ | refine ldSg ?_ | refine ldSb ?_ | refine bnd ?_ | refine bnd1 ?_ | refine drawQ (by decide +kernel) mixed (by decide +kernel) ?_)
          refine (PutS_ok nn (by omega) (by omega) _ is _ k v _ _ _ w5 (hI2.ext .go) hy2 hO2.sorted (hpk.ext .go) (hpv.ext .go) (by omega) (by omega) (by omega)).mono ?_
          rintro v6 w6 ⟨⟨js, hJ, hjy⟩, hE6⟩
          have hz6 := hE6.size
          repeat (first | exact trivial | refine stp ?_ | refine ldCg ?_ | refine ldNg ?_ | refine ldSg ?_ | refine ldSb ?_ | refine bnd ?_ | refine bnd1 ?_ | refine drawQ (by decide +kernel) mixed (by decide +kernel) ?_)
          refine ⟨(i + 1, b5, v6, js), ⟨.go, by simp only; omega, ?_, hJ.mono (fun b h => h.elim id (fun h => by omega)), ?_⟩, ⟨rfl, rfl, by rw [w64 (by omega) (by omega)]; rfl⟩, by simp only; omega⟩
          · simp only
            rw [htk, if_neg (fun h => h.elim (fun h => h80 h) hc)]
            exact hM5.ext .go
          · simp only
            rw [htk, if_neg (fun h => h.elim (fun h => h80 h) hc)]
            exact hjy
      · obtain rfl : i = ps.length := by omega
        rw [List.take_length] at hM2 hy2
        repeat (first | exact trivial | refine stp ?_ | refine ldCg ?_ | refine ldNg ?_ | refine ldSg ?_ | refine ldSb ?_ | refine bnd ?_ | refine bnd1 ?_ | refine drawQ (by decide +kernel) mixed (by decide +kernel) ?_)
        exact ⟨⟨mb, _, is, rfl, hM2, hI2, hy2⟩, hE2⟩
theorem wide15_ok (n : Int) (w : World) : CallK Tryz.prog 27 [.int .i64 n].toArray w fun v w' => v = .bool (widB n) ∧ Ext w w' := by
  have hi := widB_iff n
  refine enterT Tryz.func27 rfl Tryz.ntmps27 Tryz.results27 rfl (by decide) ?_
  repeat (first | exact trivial | refine stp ?_ | refine ldCg ?_ | refine ldNg ?_ | refine ldSg ?_ | refine ldSb ?_ | refine bnd ?_ | refine bnd1 ?_ | refine drawQ (by decide +kernel) mixed (by decide +kernel) ?_)
  refine ⟨fun h => ⟨?_, Ext.rfl' _⟩, fun h => ⟨?_, Ext.rfl' _⟩⟩
  · by_cases h2 : n ≤ 32
    · rw [decide_eq_true h2, hi.2 ⟨h, h2⟩]
    · rw [decide_eq_false h2]
      cases e : widB n
      · rfl
      · exact absurd (hi.1 e).2 h2
  · cases e : widB n
    · rfl
    · exact absurd (hi.1 e).1 h
/-- The three pairs of awake. -/
def awL : List (List UInt8 × List UInt8) := [([97], [49]), ([98], []), ([99], [])]
theorem awP : ((cutS (keyD 4 [97]) 0 (walkI 4 (keyD 4 [97]) 64 0 (madeI 4 awL)).1).map fun s => s.2.length) = [2] ∧ (walkI 4 (keyD 4 [97]) 64 0 (madeI 4 awL)).2.length = 1 := by decide +kernel
theorem sizeW_of {ss : List SR} {L : List (Nat × List (List UInt8))} (h : ss.map SR.dt = L) (h2 : (L.map fun s => s.2.length) = [2]) : sizeW ss = 2 := by
  have h3 : (ss.map fun s => s.ks.length) = [2] := by
    rw [← h2, ← h, List.map_map]
    rfl
  obtain ⟨s, rfl⟩ : ∃ s, ss = [s] := List.length_eq_one_iff.1 (by have := congrArg List.length h3; simpa using this)
  have : s.ks.length = 2 := by simpa using h3
  unfold sizeW
  rw [List.foldl_cons, List.foldl_nil, this]
  decide
theorem awake15_ok (w : World) (hW : WordsAt w 1) :
    CallK Tryz.prog 25 [].toArray w fun v w' => v = .bool true ∧ Ext w w' := by
  have hw4 : widB 4 = true := by decide
  refine enterT Tryz.func25 rfl Tryz.ntmps25 Tryz.results25 rfl (by decide) ?_
  repeat (first | exact trivial | refine stp ?_ | refine ldCg ?_ | refine ldNg ?_ | refine ldSg ?_ | refine ldSb ?_ | refine bnd ?_ | refine bnd1 ?_ | refine drawQ (by decide +kernel) mixed (by decide +kernel) ?_)
  refine ⟨rfl, rfl, convN (xs := [97]) rfl rfl (by decide) (fun w1 hE1 hz1 hS1 => ?_)⟩
  repeat (first | exact trivial | refine stp ?_ | refine ldCg ?_ | refine ldNg ?_ | refine ldSg ?_ | refine ldSb ?_ | refine bnd ?_ | refine bnd1 ?_ | refine drawQ (by decide +kernel) mixed (by decide +kernel) ?_)
  refine ⟨rfl, rfl, convN (xs := [49]) rfl rfl (by decide) (fun w2 hE2 hz2 hS2 => ?_)⟩
  repeat (first | exact trivial | refine stp ?_ | refine ldCg ?_ | refine ldNg ?_ | refine ldSg ?_ | refine ldSb ?_ | refine bnd ?_ | refine bnd1 ?_ | refine drawQ (by decide +kernel) mixed (by decide +kernel) ?_)
  refine bldC [.slice (some ⟨w.heap.size, 0, none⟩) 1 1, .slice (some ⟨w1.heap.size, 0, none⟩) 1 1] (by kernel_rfl) ?_
  repeat (first | exact trivial | refine stp ?_ | refine ldCg ?_ | refine ldNg ?_ | refine ldSg ?_ | refine ldSb ?_ | refine bnd ?_ | refine bnd1 ?_ | refine drawQ (by decide +kernel) mixed (by decide +kernel) ?_)
  refine ⟨rfl, rfl, convN (xs := [98]) rfl rfl (by decide) (fun w3 hE3 hz3 hS3 => ?_)⟩
  repeat (first | exact trivial | refine stp ?_ | refine ldCg ?_ | refine ldNg ?_ | refine ldSg ?_ | refine ldSb ?_ | refine bnd ?_ | refine bnd1 ?_ | refine drawQ (by decide +kernel) mixed (by decide +kernel) ?_)
  refine bldC [.slice (some ⟨w2.heap.size, 0, none⟩) 1 1, .slice none 0 0] (by kernel_rfl) ?_
  repeat (first | exact trivial | refine stp ?_ | refine ldCg ?_ | refine ldNg ?_ | refine ldSg ?_ | refine ldSb ?_ | refine bnd ?_ | refine bnd1 ?_ | refine drawQ (by decide +kernel) mixed (by decide +kernel) ?_)
  refine ⟨rfl, rfl, convN (xs := [99]) rfl rfl (by decide) (fun w4 hE4 hz4 hS4 => ?_)⟩
  repeat (first | exact trivial | refine stp ?_ | refine ldCg ?_ | refine ldNg ?_ | refine ldSg ?_ | refine ldSb ?_ | refine bnd ?_ | refine bnd1 ?_ | refine drawQ (by decide +kernel) mixed (by decide +kernel) ?_)
  refine bldC [.slice (some ⟨w3.heap.size, 0, none⟩) 1 1, .slice none 0 0] (by kernel_rfl) ?_
  repeat (first | exact trivial | refine stp ?_ | refine ldCg ?_ | refine ldNg ?_ | refine ldSg ?_ | refine ldSb ?_ | refine bnd ?_ | refine bnd1 ?_ | refine drawQ (by decide +kernel) mixed (by decide +kernel) ?_)
  refine ⟨rfl, ⟨rfl, ⟨rfl, rfl⟩⟩, ?_⟩
  first | refine newS ?_ | refine newZ ?_
  intro w5 hE5 hz5 hB5
  have hnil : ∀ W : World, SlB W (.slice none 0 0) [] := fun W => ⟨none, 0, rfl, Nat.le_refl _, by decide, Or.inl rfl⟩
  have hp5 : PairsAt w5 (.slice (some ⟨w4.heap.size, 0, none⟩) 3 3) [⟨.slice (some ⟨w.heap.size, 0, none⟩) 1 1, .slice (some ⟨w1.heap.size, 0, none⟩) 1 1, [97], [49]⟩, ⟨.slice (some ⟨w2.heap.size, 0, none⟩) 1 1, .slice none 0 0, [98], []⟩, ⟨.slice (some ⟨w3.heap.size, 0, none⟩) 1 1, .slice none 0 0, [99], []⟩] := by
    refine ⟨SlC.of_blk hB5 (by decide), fun p hp => ?_⟩
    rcases List.mem_cons.1 hp with rfl | hp
    · exact ⟨hS1.ext .go, hS2.ext .go⟩
    rcases List.mem_cons.1 hp with rfl | hp
    · exact ⟨hS3.ext .go, hnil _⟩
    · obtain rfl := List.mem_singleton.1 hp
      exact ⟨hS4.ext .go, hnil _⟩
  repeat (first | exact trivial | refine stp ?_ | refine ldCg ?_ | refine ldNg ?_ | refine ldSg ?_ | refine ldSb ?_ | refine bnd ?_ | refine bnd1 ?_ | refine drawQ (by decide +kernel) mixed (by decide +kernel) ?_)
  refine (made_ok 4 _ _ w5 (hW.ext .go) hp5).mono ?_
  rintro _ w6 ⟨_, hm6, hE6⟩
  have hz6 := hE6.size
  obtain ⟨b6, lv, is, rfl, hM6, hI6, hy6⟩ := hm6 hw4
  have hO6 := madeI_ok 4 awL
  have hL6 := madeI_len 4 awL
  obtain ⟨hP1, hP2⟩ := awP
  change MapAt 4 _ w6 _ (madeI 4 awL) at hM6
  change is.map IR.y = madeI 4 awL at hy6
  generalize madeI 4 awL = m6 at *
  have hil6 : is.length ≤ 80 := by rw [← hy6, List.length_map] at hL6; exact hL6
  obtain ⟨la, lc, rfl⟩ := slv_of hI6.row.sl
  repeat (first | exact trivial | refine stp ?_ | refine ldCg ?_ | refine ldNg ?_ | refine ldSg ?_ | refine ldSb ?_ | refine bnd ?_ | refine bnd1 ?_ | refine drawQ (by decide +kernel) mixed (by decide +kernel) ?_)
  refine ⟨rfl, rfl, convN (xs := [97]) rfl rfl (by decide) (fun w7 hE7 hz7 hS7 => ?_)⟩
  repeat (first | exact trivial | refine stp ?_ | refine ldCg ?_ | refine ldNg ?_ | refine ldSg ?_ | refine ldSb ?_ | refine bnd ?_ | refine bnd1 ?_ | refine drawQ (by decide +kernel) mixed (by decide +kernel) ?_)
  refine (Prove_hproof_ok 4 hw4 _ _ _ m6 [97] w7 (hW.ext .go) (hM6.ext .go) hO6 hS7 (by omega)).mono ?_
  rintro _ w8 ⟨sv, pv, tt, qs, rfl, hOs, hRk, hOp, hRb, htd, hqd, hE8⟩
  have hz8 := hE8.size
  rw [if_neg (by decide)] at htd hqd
  rw [if_neg (by decide)]
  have hsz := sizeW_of htd hP1
  have hql : qs.length = 1 := by have := congrArg List.length hqd; simpa [hP2] using this
  obtain ⟨sa, sc, rfl⟩ := own_slice hOs
  obtain ⟨pa, pc, rfl⟩ := own_slice hOp
  have hSt := hRk.stepsAt hOs
  have hPr := PairsAt.ofRun hOp hRb
  repeat (first | exact trivial | refine stp ?_ | refine ldCg ?_ | refine ldNg ?_ | refine ldSg ?_ | refine ldSb ?_ | refine bnd ?_ | refine bnd1 ?_ | refine drawQ (by decide +kernel) mixed (by decide +kernel) ?_)
  first | refine newS ?_ | refine newZ ?_
  intro w9 hE9 hz9 hB9
  repeat (first | exact trivial | refine stp ?_ | refine ldCg ?_ | refine ldNg ?_ | refine ldSg ?_ | refine ldSb ?_ | refine bnd ?_ | refine bnd1 ?_ | refine drawQ (by decide +kernel) mixed (by decide +kernel) ?_)
  refine (Size_ok tt qs _ _ w9 (hSt.ext' .go) (hPr.ext' .go)).mono ?_
  rintro _ w10 ⟨rfl, hE10⟩
  have hz10 := hE10.size
  rw [hsz]
  repeat (first | exact trivial | refine stp ?_ | refine ldCg ?_ | refine ldNg ?_ | refine ldSg ?_ | refine ldSb ?_ | refine bnd ?_ | refine bnd1 ?_)
  refine drawX (.of [0, 1, 2, 3, 4, 5, 6, 7, 8, 9, 10, 11, 12, 13, 14, 15, 16, 17, 18]) mixed (by decide +kernel) (fun w11 hE11 hz11 => ?_)
  repeat (first | exact trivial | refine stp ?_ | refine ldCg ?_ | refine ldNg ?_ | refine ldSg ?_ | refine ldSb ?_ | refine bnd ?_ | refine bnd1 ?_ | refine drawQ (by decide +kernel) mixed (by decide +kernel) ?_)
  refine ⟨rfl, rfl, ?_⟩
  first | refine newS ?_ | refine newZ ?_
  intro w12 hE12 hz12 hB12
  refine toldK ?_
  repeat (first | exact trivial | refine stp ?_ | refine ldCg ?_ | refine ldNg ?_ | refine ldSg ?_ | refine ldSb ?_ | refine bnd ?_ | refine bnd1 ?_ | refine drawQ (by decide +kernel) mixed (by decide +kernel) ?_)
  refine convM (xs := [97]) hB12 rfl (by decide) (by decide) (fun w13 hS13 hK13 => ?_)
  have hE13 : Ext w11 w13 := hE12.trans (hK13.below (Nat.le_refl _) (by omega))
  have hz13 := hE13.size
  clear hE12
  refine toldK ?_
  repeat (first | exact trivial | refine stp ?_ | refine ldCg ?_ | refine ldNg ?_ | refine ldSg ?_ | refine ldSb ?_ | refine bnd ?_ | refine bnd1 ?_ | refine drawQ (by decide +kernel) mixed (by decide +kernel) ?_)
  refine (ProveO_ok 4 (by decide) (by decide) is m6 [97] _ _ w13 (hI6.at.ext .go) hy6 hO6 hS13 (by decide) (by omega)).mono ?_
  rintro _ w14 ⟨sv', pv', tt', js, rfl, hOs', hRk', hOp', hjs, htd', hqd', hE14⟩
  have hz14 := hE14.size
  refine toldK ?_
  repeat (first | exact trivial | refine stp ?_ | refine ldCg ?_ | refine ldNg ?_ | refine ldSg ?_ | refine ldSb ?_ | refine bnd ?_ | refine bnd1 ?_ | refine drawQ (by decide +kernel) mixed (by decide +kernel) ?_)
  refine (Same15_ok _ _ (tt.map SR.dt) (tt.map SR.dt) (qs.map PR.dat) (qs.map PR.dat) w14 ⟨_, _, tt, qs, rfl, hSt.ext' .go, hPr.ext' .go, rfl, rfl⟩ ⟨_, _, tt', js.map IR.pr, rfl, hRk'.stepsAt hOs', PairsAt.ofJs hI6.at .go hOp' hjs, by rw [htd]; exact htd', by rw [hqd]; exact hqd'⟩).mono ?_
  rintro _ w15 ⟨rfl, hE15⟩
  have hz15 := hE15.size
  refine toldK ?_
  rw [show decide (tt.map SR.dt = tt.map SR.dt ∧ qs.map PR.dat = qs.map PR.dat) = true from decide_eq_true ⟨rfl, rfl⟩]
  repeat (first | exact trivial | refine stp ?_ | refine ldCg ?_ | refine ldNg ?_ | refine ldSg ?_ | refine ldSb ?_ | refine bnd ?_ | refine bnd1 ?_ | refine drawQ (by decide +kernel) mixed (by decide +kernel) ?_)
  exact .go
end Go.Proofs.YtebbgninkbghlaaGreatDoor

/-! Sld -/
namespace Go.Proofs.YtebbgninkbghlaaGreatDoor
set_option maxRecDepth 100000
open Go Go.RowKit
set_option linter.unusedVariables false
set_option linter.unusedSimpArgs false

end Go.Proofs.YtebbgninkbghlaaGreatDoor

/-! Hmj -/
namespace Go.Proofs.YtebbgninkbghlaaGreatDoor
set_option maxRecDepth 100000
open Go Go.RowKit
set_option linter.unusedVariables false
set_option linter.unusedSimpArgs false
set_option maxHeartbeats 2000000
attribute [local irreducible] vcT opsT qT vcOp Q1 vcPure vcLoad vcStore ldC ldN ldD grdT grdQ vc vcOps vcQ hT
attribute [local irreducible] sumR sumP shaP keyD bucketP branchP

theorem PairsS.of_own {S : Nat → Prop} {W : World} {base n : Nat} {v : Value} {qs : List PR} (hO : Own W base 47 2 v n (qs.flatMap PR.cells)) (hS : ∀ b, base ≤ b → S b)
    (ho : ∀ q ∈ qs, SlS S W q.kv q.k.length (vbs q.k) ∧ SlS S W q.vv q.v.length (vbs q.v)) : PairsS S W v qs := by
  have hn : n = qs.length := by have h1 := hO.1; have h2 := prc_len qs; omega
  subst hn
  exact ⟨SlS.of_own hO hS, ho⟩
end Go.Proofs.YtebbgninkbghlaaGreatDoor

/-! Hmi -/
namespace Go.Proofs.YtebbgninkbghlaaGreatDoor
set_option maxRecDepth 100000
open Go Go.RowKit
set_option linter.unusedVariables false
set_option linter.unusedSimpArgs false
set_option maxHeartbeats 1000000
attribute [local irreducible] vcT opsT qT vcOp Q1 vcPure vcLoad vcStore ldC ldN ldD grdT grdQ vc vcOps vcQ hT
attribute [local irreducible] sumR sumP shaP keyD bucketP branchP

/-- What a walk of all pairs has gathered: the list lies in lb, the walk itself in wb. -/
structure AccAt (W : World) (lb wb B : Nat) (qs : List PR) : Prop where
  row : ∃ a c, Blk W lb 24 [.slice a qs.length c] ∧ Own W B 47 2 (.slice a qs.length c) qs.length (qs.flatMap PR.cells)
  run : RunB W W.heap.size B (qs.flatMap prB)
  fn : Blk W wb 159 [.func (.func 105) #[] #[.pointer (some ⟨lb, 0, none⟩), .pointer (some ⟨wb, 0, none⟩)]]
  lo : lb < B ∧ wb < B ∧ lb ≠ wb ∧ B ≤ W.heap.size
end Go.Proofs.YtebbgninkbghlaaGreatDoor

/-! Hmk -/
namespace Go.Proofs.YtebbgninkbghlaaGreatDoor
set_option maxRecDepth 100000
open Go Go.RowKit
set_option linter.unusedVariables false
set_option linter.unusedSimpArgs false
set_option maxHeartbeats 1000000
attribute [local irreducible] vcT opsT qT vcOp Q1 vcPure vcLoad vcStore ldC ldN ldD grdT grdQ vc vcOps vcQ hT
attribute [local irreducible] sumR sumP shaP keyD bucketP branchP

end Go.Proofs.YtebbgninkbghlaaGreatDoor

/-! Rng -/
namespace Go.Proofs.YtebbgninkbghlaaGreatDoor
set_option maxRecDepth 100000
open Go Go.RowKit
set_option linter.unusedVariables false
set_option linter.unusedSimpArgs false

/-- All blocks below B but d stay. -/
structure KD (B d : Nat) (w w' : World) : Prop where
  os : w'.os = w.os
  tape : w'.tape = w.tape
  output : w'.output = w.output
  size : w.heap.size ≤ w'.heap.size
  other : ∀ k, k < B → k ≠ d → w'.heap[k]? = w.heap[k]?
theorem KD.rfl' (B d : Nat) (w : World) : KD B d w w := ⟨rfl, rfl, rfl, Nat.le_refl _, fun _ _ _ => rfl⟩
theorem KD.trans {B d : Nat} {a b c : World} (h : KD B d a b) (g : KD B d b c) : KD B d a c :=
  ⟨g.os.trans h.os, g.tape.trans h.tape, g.output.trans h.output, Nat.le_trans h.size g.size, fun k hk hd => (g.other k hk hd).trans (h.other k hk hd)⟩
theorem KD.of_below {B d : Nat} {w w' : World} (h : Below B w w') : KD B d w w' := ⟨h.os, h.tape, h.output, h.size, fun k hk _ => h.block k hk⟩
theorem KD.of_keepB {B d : Nat} {w w' : World} (h : KeepB w w' d) (hB : B ≤ w.heap.size) : KD B d w w' := ⟨h.os, h.tape, h.output, h.size, fun k hk hd => h.other k (by omega) hd⟩
theorem KD.blk {B d c : Nat} {T : TypeId} {l : List Value} {w w' : World} (h : KD B d w w') (k : Blk w c T l) (hc : c < B) (hd : c ≠ d) : Blk w' c T l := ⟨by rw [h.other c hc hd]; exact k.out⟩
theorem KD.ext {B d : Nat} {w0 w w' : World} (h : KD B d w w') (e : Ext w0 w) (h1 : w0.heap.size ≤ d) (h2 : w0.heap.size ≤ B) : Ext w0 w' :=
  ⟨h.os.trans e.os, h.tape.trans e.tape, h.output.trans e.output, Nat.le_trans e.size h.size, fun k hk => (h.other k (by omega) (by omega)).trans (e.block k hk)⟩
theorem keepsFrom_of {B d : Nat} {w w' : World} (h : KeepB w w' d) (hd : d < B) : KeepsFrom B w w' :=
  ⟨h.size, fun k o hB hk _ => (h.other k (Array.getElem?_eq_some_iff.1 hk).1 (by omega)).trans hk⟩
theorem blk_own {β : Type} (B b T : Nat) (l : β → List Value) : OwnFrom B (fun s W => Blk W b T (l s)) := by
  intro s W W' row hs hg hr
  have e : some b ≠ row := by
    intro e
    obtain ⟨_, o, ho, hc⟩ := hr b e.symm
    rw [hs.out] at ho
    cases ho
    cases hc
  exact ⟨by rw [hg.block b hs.lt e]; exact hs.out⟩
theorem kd_own {β : Type} {B C d : Nat} (w : World) (hC : C ≤ B) (hw : C ≤ w.heap.size) : OwnFrom B (fun (_ : β) W => KD C d w W) := by
  intro s W W' row hs hg hr
  refine ⟨hg.os.trans hs.os, hg.tape.trans hs.tape, hg.output.trans hs.output, Nat.le_trans hs.size hg.size, fun k hk hd => ?_⟩
  have e := hs.other k hk hd
  have hkw : k < W.heap.size := by have := hs.size; omega
  have hne : some k ≠ row := by
    intro e'
    have := (hr k e'.symm).1
    omega
  rw [hg.block k hkw hne]
  exact e

theorem wpIn_n {P : Program} {c : Code} {ro : Option Nat} {k m : Nat} {Q : Exit → Act → World → Prop} {a : Act} {w : World} (h : c.wpIn (FW ro) k P Q a w) : c.wpIn (FW ro) m P Q a w :=
  fun b ks cs hro hb _ => h b ks cs hro hb (fun d hd => by cases hd)

theorem rangeT {P : Program} {n : Nat} {g : Operand} {ps : Array Tmp} {assign body : Code} {R : Exit → Act → World → Prop} (gf Bs d p0 p1 : Nat) {ss : List SR} {a : Act} {s : Fm} {w : World} (hF : Fr [] a n s) (hg : ev s g = .func (.func gf) #[] #[.pointer (some ⟨Bs, 0, none⟩)]) (hc : callable P gf = true)
    (hit : ∀ (l : Nat) (J Jx : List (Nat × SR) → World → Prop) (W : World), KD w.heap.size d w W → J [] W →
      (∀ pre x W1, x ∈ backL ss → J pre W1 → KD w.heap.size d w W1 → pre.length < ss.length → YieldAt Fence.wide 0 P l #[.int .i64 (x.1 : Nat), .agg x.2.cells.toArray] W1 fun e W' =>
        (e = .returned (.bool true) ∧ J (pre ++ [x]) W' ∧ KD w.heap.size d w W') ∨ (e = .returned (.bool false) ∧ Jx (pre ++ [x]) W')) →
      CallK P gf [.func (.yield l) #[] #[], .pointer (some ⟨Bs, 0, none⟩)].toArray W fun _ W' => J (backL ss) W' ∨ ∃ pre, Jx pre W')
    (hps : ps = #[p0, p1]) (hp0 : p0 < n) (hp1 : p1 < n) (I : List (Nat × SR) → World → Prop) (hI : OwnFrom w.heap.size I) (h0 : I [] w) (A : Nat × SR → Fm → World → Prop) (hA : ∀ x s', OwnFrom w.heap.size (fun (_ : Unit) W => A x s' W))
    (hassign : ∀ l pre x W, x ∈ backL ss → I pre W → vcT P n (some l) assign (upd (upd s p0 (.int .i64 (x.1 : Nat))) p1 (.agg x.2.cells.toArray)) W (seqQ (fun s' W' => KeepsFrom w.heap.size W W' ∧ KD w.heap.size d W W' ∧ I pre W' ∧ A x s' W') (fun _ _ _ => False)))
    (hbody : ∀ l pre x s' W, x ∈ backL ss → w.heap.size ≤ W.heap.size → I pre W → A x s' W → pre.length < ss.length → vcT P n (some l) body s' W (seqQ (fun s'' W' => KeepsFrom w.heap.size W W' ∧ KD w.heap.size d W W' ∧ I (pre ++ [x]) W') (fun _ _ _ => False)))
    (hdone : ∀ (D : Nat) (W : World), w.heap.size ≤ D → I (backL ss) W → W.heap[D]? = some (.deferred (some [])) → R .normal { a with defers := { target := .collected D, args := #[] } :: a.defers } W) :
    (Code.rangeFunc g ps assign body).wpIn (FW none) 0 P R a w := by
  subst hps
  refine wpIn_n (k := 1) ?_
  refine wpIn_rangeFunc_ownH (α := { x : Nat × SR // x ∈ backL ss }) (F := FW none) (n := 1) rfl (Nat.le_refl _) (gf := gf) (lb := #[.pointer (some ⟨Bs, 0, none⟩)]) (by rw [hF.ev]; exact hg) trivial (fun args w => run_callFunc_of hc args w)
    (encs := fun x => #[.int .i64 (x.1.1 : Nat), .agg x.1.2.cells.toArray]) (Kp := KD w.heap.size d) (S := fun xs => xs.map (·.1) = backL ss) (Sp := fun _ => True) (N := ss.length) (w0 := w) ?_ (fun h k => h.trans k) ?_ (Below.refl _ _) (fun _ => rfl)
    (fun (pre : List { x : Nat × SR // x ∈ backL ss }) W => I (pre.map (·.1)) W) (fun _ _ _ => False) (fun s W W' row hs hg hr => hI (s.map (·.1)) W W' row hs hg hr) (fun _ _ _ _ _ h _ _ => h) h0 (fun x a' W => ∃ s', Fr [] a' n s' ∧ A x.1 s' W) ?_ ?_ ?_ ?_ ?_
  · intro l J Jx W hW _ _ hY hJ0
    have h := (hit l (fun pre W => ∃ pre', pre'.map (·.1) = pre ∧ J pre' W) (fun pre W => ∃ pre', pre'.map (·.1) = pre ∧ Jx pre' W) W (KD.of_below hW) ⟨[], rfl, hJ0⟩ (fun pre x W1 hx hJ1 hM1 hlen => by
      obtain ⟨pre', rfl, hJ1⟩ := hJ1
      obtain ⟨fn, tmps, assign, body, hy, hR⟩ := yield_n (k := 0 - 1) (m := 0) (hY pre' ⟨x, hx⟩ W1 hJ1 (by simpa using hlen))
      refine ⟨fn, tmps, assign, body, hy, hR.mono ?_⟩
      rintro e W' (⟨h1, h2, h3⟩ | ⟨h1, h2⟩)
      · exact Or.inl ⟨h1, ⟨_, by simp, h2⟩, hM1.trans h3⟩
      · exact Or.inr ⟨h1, ⟨_, by simp, h2⟩⟩)).body hc
    refine callsFW none 0 (h.calls.mono ?_)
    rintro e W' ⟨v, rfl, ⟨pre', hp, h⟩ | ⟨pre, pre', hp, h⟩⟩
    · exact ⟨⟨v, rfl⟩, Or.inl ⟨pre', hp, h⟩⟩
    · exact ⟨⟨v, rfl⟩, Or.inr ⟨pre', trivial, h⟩⟩
  · intro W l o o' hl hWl ho _
    exact ⟨rfl, rfl, rfl, by simp, fun k hk _ => World.putObj_heap_other (by omega)⟩
  · intro x a' _ W W' row ⟨s', hs', hAx⟩ hg hr
    exact ⟨s', hs', hA x.1 s' () W W' row hAx hg hr⟩
  · intro l pre x W K hIp hK
    have hfr : Fr [] { tmps := ((#[p0, p1] : Array Tmp).zip #[Value.int .i64 (x.1.1 : Nat), .agg x.1.2.cells.toArray]).foldl (fun t (p, v) => t.setIfInBounds p v) a.tmps, defers := [] } n (upd (upd s p0 (.int .i64 (x.1.1 : Nat))) p1 (.agg x.1.2.cells.toArray)) := by
      have h1 := (hF.put (d := some p0) hp0 (.int .i64 (x.1.1 : Nat))).put (d := some p1) hp1 (.agg x.1.2.cells.toArray)
      refine ⟨rfl, ?_, ?_⟩
      · have := h1.size; simpa [Act.put] using this
      · intro j
        have := h1.at_ j
        simpa [Act.put, updO] using this
    refine wpIn_mono (vc_sound (ro := some l) _ _ _ _ (hassign l _ x.1 W x.2 hIp) [] _ hfr) ?_
    rintro e a' W' ⟨s', hF', hq⟩
    cases e <;> simp only [seqQ] at hq
    exact hK a' W' hq.1 hq.2.1 hq.2.2.1 ⟨s', hF', hq.2.2.2⟩
  · intro l pre x a' W hl ⟨r, hr⟩ hIp ⟨s', hs', hAx⟩ hlen
    have hsz : w.heap.size ≤ W.heap.size := by
      have := (Array.getElem?_eq_some_iff.1 hr).1
      omega
    refine wpIn_mono (vc_sound (ro := some l) _ _ _ _ (hbody l _ x.1 s' W x.2 hsz hIp hAx (by simpa using hlen)) [] _ hs') ?_
    rintro e a'' W' ⟨s'', hF', hq⟩
    cases e <;> simp only [seqQ] at hq
    exact ⟨hq.1, hq.2.1, by simpa using hq.2.2⟩
  · intro D xs W hD hS hIx hW
    rw [hS] at hIx
    exact hdone D W hD hIx hW
  · intro D c pre W _ _ h
    exact h.elim
theorem keepsFrom_ext {B : Nat} {w w' : World} (h : Ext w w') : KeepsFrom B w w' := ⟨h.size, fun k o _ hk _ => (h.block k (Array.getElem?_eq_some_iff.1 hk).1).trans hk⟩

end Go.Proofs.YtebbgninkbghlaaGreatDoor

/-! Up -/
namespace Go.Proofs.YtebbgninkbghlaaGreatDoor
set_option maxRecDepth 100000
open Go Go.RowKit
set_option linter.unusedVariables false
set_option linter.unusedSimpArgs false

/-! ### A function that holds a range over a function -/
structure WpM (P : Program) (n : Nat) (c : Code) (s : Fm) (w : World) (R : Exit → Act → World → Prop) (_t : Tag (c, s, R) := ⟨⟩) : Prop where
  out : ∀ a, Fr [] a n s → c.wpIn (FW none) 0 P R a w
theorem peel {P : Program} {n : Nat} {a b : Code} {s : Fm} {w : World} {R : Exit → Act → World → Prop} (h : vcT P n none a s w (seqQ (fun s' w' => WpM P n b s' w' R) (fun _ _ _ => False))) : WpM P n (.seq a b) s w R := by
  refine ⟨fun act hF => wpIn_seq (wpIn_mono (vc_sound a s w _ h [] act hF) ?_)⟩
  rintro e a' w' ⟨s', hF', hq⟩
  cases e
  case normal => exact WpM.out hq a' hF'
  all_goals exact False.elim hq
theorem peelJ {P : Program} {n : Nat} {a b : Code} {s : Fm} {w : World} {R : Exit → Act → World → Prop} (J : Fm → World → Prop) (h : vcT P n none a s w (seqQ J (fun _ _ _ => False))) (h2 : ∀ s' w', J s' w' → WpM P n b s' w' R) : WpM P n (.seq a b) s w R := by
  refine ⟨fun act hF => wpIn_seq (wpIn_mono (vc_sound a s w _ h [] act hF) ?_)⟩
  rintro e a' w' ⟨s', hF', hq⟩
  cases e
  case normal => exact (h2 _ _ hq).out a' hF'
  all_goals exact False.elim hq
theorem peel2 {P : Program} {n : Nat} {a b : Code} {s : Fm} {w : World} {R : Exit → Act → World → Prop} (h : WpM P n a s w (Exit.then (b.wpIn (FW none) 0 P R) R)) : WpM P n (.seq a b) s w R := ⟨fun act hF => wpIn_seq (h.out act hF)⟩
theorem peelB {P : Program} {n id : Nat} {a : Code} {s : Fm} {w : World} {R : Exit → Act → World → Prop} (h : WpM P n a s w (Exit.inBlock id R)) : WpM P n (.block id a) s w R := ⟨fun act hF => wpIn_block (h.out act hF)⟩
/-- The way out behind one range: its block for deferred calls is shut. -/
def postM (P : Program) (n : Nat) (rs : Array ResultVar) (K : Value → World → Prop) : Exit → Act → World → Prop := fun e a w =>
  (e = .normal ∨ e = .ret) ∧ ∃ D s, Fr [{ target := .collected D, args := #[] }] a n s ∧ w.heap[D]? = some (.deferred (some [])) ∧ resVC P rs s (w.putObj D (.deferred none)) fun v => K v (w.putObj D (.deferred none))
theorem enterM {P : Program} {f : FuncId} {fn : Func} {c : Code} {n : Nat} {rs : Array ResultVar} {vs : List Value} {w : World} {K : Value → World → Prop} (hf : P.funcs[f]? = some fn) (hb : fn.body = some c) (hn : fn.ntmps = n)
    (hr : fn.results = rs) (hl : decide (vs.length ≤ n) = true) (hname : (fn.name != "runtime.NumGoroutine") = true) (h : WpM P n c (initFm vs 0) w (postM P n rs K)) : CallK P f vs.toArray w K := by
  refine ⟨Or.inl ⟨by simp [callable, hf, hb, hname], ?_⟩⟩
  refine (callsIn_wide (n := 0)).1 (callsIn_of_wp_marks hf hb trivial ?_)
  rw [hn]
  refine wpIn_mono (h.out _ (Fr_init vs n (of_decide_eq_true hl))) ?_
  rintro e a w' ⟨he, D, s, hF, hD, hq⟩
  obtain ⟨v, hv, hK⟩ := res_of hr hF hq
  have hL : LeavesInM Fence.wide 0 P fn a.tmps (fun e w' => ∃ v, e = .returned v ∧ K v w') a.defers .returning w' := by
    rw [hF.defers]
    exact ⟨by simp, .inl ⟨_, _, rfl, run_takeDeferred hD, v, hv, v, rfl, hK⟩⟩
  rcases he with rfl | rfl
  · exact hL
  · exact hL
/-- The rest of the function behind the range. -/
def retM (P : Program) (rs : Array ResultVar) (D : Nat) (K : Value → World → Prop) : Post := fun e s w =>
  (e = .normal ∨ e = .ret) ∧ w.heap[D]? = some (.deferred (some [])) ∧ resVC P rs s (w.putObj D (.deferred none)) fun v => K v (w.putObj D (.deferred none))
theorem retM_ret {P : Program} {rs : List ResultVar} {D : Nat} {K : Value → World → Prop} {s : Fm} {w : World} : retM P rs.toArray D K .ret s w = (w.heap[D]? = some (.deferred (some [])) ∧ resT P rs s (w.putObj D (.deferred none)) fun v => K v (w.putObj D (.deferred none))) :=
  propext ⟨fun h => h.2, fun h => ⟨Or.inr rfl, h⟩⟩
theorem tailM {P : Program} {n D : Nat} {rs : Array ResultVar} {K : Value → World → Prop} {c : Code} {s : Fm} {w : World} {a : Act} (hF : Fr [] a n s) (h : vcT P n none c s w (retM P rs D K)) :
    c.wpIn (FW none) 0 P (postM P n rs K) { a with defers := { target := .collected D, args := #[] } :: a.defers } w := by
  refine wpIn_mono (vc_sound c s w _ h [{ target := .collected D, args := #[] }] _ ⟨by rw [hF.defers], hF.size, hF.at_⟩) ?_
  rintro e a' w' ⟨s', hF', he, hD, hq⟩
  exact ⟨he, D, s', hF', hD, hq⟩

/-! ### child -/
theorem child_ok (n : Int) (k : List UInt8) (hk : k.length = 32) (i : Int) (w : World) :
    CallK Tryz.prog 123 [.int .i64 n, .agg (vbs k).toArray, .int .i64 i].toArray w fun v w' => v = .int .i64 (atP n k i).1 ∧ Ext w w' := by
  refine enterT Tryz.func123 rfl Tryz.ntmps123 Tryz.results123 rfl (by decide) ?_
  simp only [↓VD, VP, VT, isAggD, reduceCtorEq, Int.reduceEq, Int.reduceNe, Int.reduceLT, Int.reduceLE, implies_true, Nat.reduceEqDiff, reduceIte, ite_true, ite_false, eq_self, Nat.reduceLT, Nat.reduceLeDiff, Nat.reduceAdd, Nat.reduceMul, Nat.reduceSub, intOf]
  intro w1 hN
  refine ldA Tryz.underlying28 rfl hN.blk (by rw [vbs_len, hk, c28]) ?_
  simp only [↓VD, VP, VT, isAggD, reduceCtorEq, Int.reduceEq, Int.reduceNe, Int.reduceLT, Int.reduceLE, implies_true, Nat.reduceEqDiff, reduceIte, ite_true, ite_false, eq_self, Nat.reduceLT, Nat.reduceLeDiff, Nat.reduceAdd, Nat.reduceMul, Nat.reduceSub, intOf]
  refine (At_ok n k hk i w1).mono ?_
  rintro _ w2 ⟨rfl, hE⟩
  simp only [↓VD, VP, VT, isAggD, reduceCtorEq, Int.reduceEq, Int.reduceNe, Int.reduceLT, Int.reduceLE, implies_true, Nat.reduceEqDiff, reduceIte, ite_true, ite_false, eq_self, Nat.reduceLT, Nat.reduceLeDiff, Nat.reduceAdd, Nat.reduceMul, Nat.reduceSub, intOf]
  exact hN.ext.trans' hE

/-! ### up, plainly -/
def stepD (n : Int) (k d : List UInt8) (i : Nat) (bm : Nat) (ks : List (List UInt8)) : List UInt8 :=
  brD n bm (if hasB bm (atP n k i).1 = true then insP ks (rankB bm (atP n k i).1) d else ks)
def upF (n : Int) (k : List UInt8) (l : List (Nat × SR)) (d : List UInt8) : List UInt8 := l.foldl (fun d x => stepD n k d x.1 x.2.bm x.2.ks) d
def up0 (n : Int) (ps : List (List UInt8 × List UInt8)) : List UInt8 := if ps = [] then sumR n [5] else sumR n (bucketP ps)
theorem up0_len (n : Int) (ps : List (List UInt8 × List UInt8)) : (up0 n ps).length = 32 := by unfold up0; split <;> exact sumR_len _ _
theorem upF_len (n : Int) (k : List UInt8) : ∀ (l : List (Nat × SR)) (d : List UInt8), d.length = 32 → (upF n k l d).length = 32
  | [], d, h => h
  | x :: l, d, h => upF_len n k l _ (brD_len _ _ _)
theorem upF_snoc (n : Int) (k : List UInt8) (l : List (Nat × SR)) (x : Nat × SR) (d : List UInt8) : upF n k (l ++ [x]) d = stepD n k (upF n k l d) x.1 x.2.bm x.2.ks := by simp [upF]

theorem up_ok (n : Int) (k : List UInt8) (hk : k.length = 32) (sv pv : Value) (ss : List SR) (ps : List PR) (w : World) (hW : WordsAt w 1) (hs : StepsAt w sv ss) (hp : PairsAt w pv ps)
    (hps : (bucketP (ps.map PR.dat)).length + 16 ≤ 140737488355328) (hss : ∀ s ∈ ss, s.ks.length + 1 ≤ 4000000000) (hr : ∀ (i : Nat) (s : SR), ss[i]? = some s → hasB s.bm (atP n k i).1 = true → rankB s.bm (atP n k i).1 ≤ s.ks.length) :
    CallK Tryz.prog 77 [.int .i64 n, .agg (vbs k).toArray, .agg [sv, pv].toArray].toArray w fun v w' => v = .agg (vbs (upF n k (backL ss) (up0 n (ps.map PR.dat)))).toArray ∧ Ext w w' := by
  refine enterM Tryz.func77 rfl Tryz.ntmps77 Tryz.results77 rfl (by decide) ?_
  refine peel ?_
  simp only [↓VD, VP, VT, isAggD, reduceCtorEq, Int.reduceEq, Int.reduceNe, Int.reduceLT, Int.reduceLE, implies_true, Nat.reduceEqDiff, reduceIte, ite_true, ite_false, eq_self, Nat.reduceLT, Nat.reduceLeDiff, Nat.reduceAdd, Nat.reduceMul, Nat.reduceSub, intOf]
  intro w1 hN1 w2 hN2 w3 hN3 w4 hN4
  rw [vbs_rep] at hN4
  have s1 := hN1.size
  have s2 := hN2.size
  have s3 := hN3.size
  have s4 := hN4.size
  have hE4 : Ext w w4 := ((hN1.ext.trans' hN2.ext).trans' hN3.ext).trans' hN4.ext
  have hB3 := ((hN1.blk.ext hN2.ext).ext hN3.ext).ext hN4.ext
  have hB4 := (hN2.blk.ext hN3.ext).ext hN4.ext
  have hB5 := hN3.blk.ext hN4.ext
  have hB6 := hN4.blk
  generalize w1.heap.size = b4 at *
  generalize w2.heap.size = b5 at *
  generalize w3.heap.size = b6 at *
  refine peel ?_
  simp only [↓VD, VP, VT, isAggD, reduceCtorEq, Int.reduceEq, Int.reduceNe, Int.reduceLT, Int.reduceLE, implies_true, Nat.reduceEqDiff, reduceIte, ite_true, ite_false, eq_self, Nat.reduceLT, Nat.reduceLeDiff, Nat.reduceAdd, Nat.reduceMul, Nat.reduceSub, intOf]
  refine ldAt (pre := []) (post := []) Tryz.underlying3 rfl hB3 rfl ?_
  simp only [↓VD, VP, VT, isAggD, reduceCtorEq, Int.reduceEq, Int.reduceNe, Int.reduceLT, Int.reduceLE, implies_true, Nat.reduceEqDiff, reduceIte, ite_true, ite_false, eq_self, Nat.reduceLT, Nat.reduceLeDiff, Nat.reduceAdd, Nat.reduceMul, Nat.reduceSub, intOf]
  refine (NoMap_ok n w4 (hW.ext hE4)).mono ?_
  rintro _ w5 ⟨rfl, hE5⟩
  have s5 := hE5.size
  simp only [↓VD, VP, VT, isAggD, reduceCtorEq, Int.reduceEq, Int.reduceNe, Int.reduceLT, Int.reduceLE, implies_true, Nat.reduceEqDiff, reduceIte, ite_true, ite_false, eq_self, Nat.reduceLT, Nat.reduceLeDiff, Nat.reduceAdd, Nat.reduceMul, Nat.reduceSub, intOf]
  intro w6 hN6
  rw [vbs_rep] at hN6
  have s6 := hN6.size
  refine stAll hN6.blk rfl (by rw [c28]; decide) (by rw [c28, vbs_len, sumR_len]) (by rw [c28]; simp [vbs]) (vbs_one _) (fun w7 hP7 => ?_)
  have hX : ∀ {b T : Nat} {l : List Value}, Blk w4 b T l → Blk w7 b T l := fun h => hP7.keep ((h.ext hE5).ext hN6.ext) (by have := h.lt; omega)
  have hE7 : Ext w w7 := hE4.trans' ((hE5.trans' hN6.ext).trans (hP7.below (by omega)))
  replace hB3 := hX hB3
  replace hB4 := hX hB4
  replace hB5 := hX hB5
  replace hB6 := hX hB6
  have hB7 := hP7.blk
  have s7 := hP7.size
  generalize w5.heap.size = b7 at *
  simp only [↓VD, VP, VT, isAggD, reduceCtorEq, Int.reduceEq, Int.reduceNe, Int.reduceLT, Int.reduceLE, implies_true, Nat.reduceEqDiff, reduceIte, ite_true, ite_false, eq_self, Nat.reduceLT, Nat.reduceLeDiff, Nat.reduceAdd, Nat.reduceMul, Nat.reduceSub, intOf]
  refine peelJ (fun s' W => s' 3 = .pointer (some ⟨w.heap.size, 0, none⟩) ∧ s' 4 = .pointer (some ⟨b4, 0, none⟩) ∧ s' 5 = .pointer (some ⟨b5, 0, none⟩) ∧ s' 6 = .pointer (some ⟨b6, 0, none⟩) ∧ s' 7 = .pointer (some ⟨b7, 0, none⟩) ∧ Blk W w.heap.size 3 [.int .i64 n] ∧ Blk W b4 28 (vbs k) ∧ Blk W b5 26 [sv, pv] ∧ Blk W b6 28 (vbs (List.replicate 32 0)) ∧ Blk W b7 28 (vbs (up0 n (ps.map PR.dat))) ∧ Ext w W) ?_ ?_
  · simp only [↓VD, VP, VT, isAggD, reduceCtorEq, Int.reduceEq, Int.reduceNe, Int.reduceLT, Int.reduceLE, implies_true, Nat.reduceEqDiff, reduceIte, ite_true, ite_false, eq_self, Nat.reduceLT, Nat.reduceLeDiff, Nat.reduceAdd, Nat.reduceMul, Nat.reduceSub, intOf]
    refine ldAt (pre := [sv]) (post := []) Tryz.underlying24 rfl hB5 rfl ?_
    obtain ⟨av, cv, rfl⟩ := slv_of hp.1
    simp only [↓VD, VP, VT, isAggD, reduceCtorEq, Int.reduceEq, Int.reduceNe, Int.reduceLT, Int.reduceLE, implies_true, Nat.reduceEqDiff, reduceIte, ite_true, ite_false, eq_self, Nat.reduceLT, Nat.reduceLeDiff, Nat.reduceAdd, Nat.reduceMul, Nat.reduceSub, intOf]
    refine ⟨fun hgt => ?_, fun hle => ?_⟩
    · refine ldAt (pre := []) (post := []) Tryz.underlying3 rfl hB3 rfl ?_
      simp only [↓VD, VP, VT, isAggD, reduceCtorEq, Int.reduceEq, Int.reduceNe, Int.reduceLT, Int.reduceLE, implies_true, Nat.reduceEqDiff, reduceIte, ite_true, ite_false, eq_self, Nat.reduceLT, Nat.reduceLeDiff, Nat.reduceAdd, Nat.reduceMul, Nat.reduceSub, intOf]
      refine ldAt (pre := [sv]) (post := []) Tryz.underlying24 rfl hB5 rfl ?_
      simp only [↓VD, VP, VT, isAggD, reduceCtorEq, Int.reduceEq, Int.reduceNe, Int.reduceLT, Int.reduceLE, implies_true, Nat.reduceEqDiff, reduceIte, ite_true, ite_false, eq_self, Nat.reduceLT, Nat.reduceLeDiff, Nat.reduceAdd, Nat.reduceMul, Nat.reduceSub, intOf]
      refine (Bucket_ok n _ ps w7 (hW.ext hE7) (hp.ext hE7) hps).mono ?_
      rintro _ w8 ⟨rfl, hE8⟩
      simp only [↓VD, VP, VT, isAggD, reduceCtorEq, Int.reduceEq, Int.reduceNe, Int.reduceLT, Int.reduceLE, implies_true, Nat.reduceEqDiff, reduceIte, ite_true, ite_false, eq_self, Nat.reduceLT, Nat.reduceLeDiff, Nat.reduceAdd, Nat.reduceMul, Nat.reduceSub, intOf]
      refine stAll (hB7.ext hE8) rfl (by rw [c28]; decide) (by rw [c28, vbs_len, sumR_len]) (by rw [c28, vbs_len, sumR_len]) (vbs_one _) (fun w9 hP9 => ?_)
      simp only [↓VD, VP, VT, isAggD, reduceCtorEq, Int.reduceEq, Int.reduceNe, Int.reduceLT, Int.reduceLE, implies_true, Nat.reduceEqDiff, reduceIte, ite_true, ite_false, eq_self, Nat.reduceLT, Nat.reduceLeDiff, Nat.reduceAdd, Nat.reduceMul, Nat.reduceSub, intOf]
      have hne : ps.map PR.dat ≠ [] := by
        intro h
        rw [List.map_eq_nil_iff] at h
        subst h
        simp at hgt
      have hX : ∀ {b T : Nat} {l : List Value}, Blk w7 b T l → b ≠ b7 → Blk w9 b T l := fun h hb => hP9.keep (h.ext hE8) hb
      refine ⟨hX hB3 (by omega), hX hB4 (by omega), hX hB5 (by omega), hX hB6 (by omega), ?_, hE7.trans' hE8 |>.trans (hP9.below (by omega))⟩
      have := hP9.blk
      rwa [up0, if_neg hne]
    · have hz : ps = [] := List.length_eq_zero_iff.1 (by omega)
      subst hz
      exact ⟨hB3, hB4, hB5, hB6, hB7, hE7⟩
  · rintro s8 w8 ⟨g3, g4, g5, g6, g7, hB3, hB4, hB5, hB6, hB7, hE8⟩
    refine peel2 (peel ?_)
    simp only [↓VD, VP, VT, isAggD, reduceCtorEq, Int.reduceEq, Int.reduceNe, Int.reduceLT, Int.reduceLE, implies_true, Nat.reduceEqDiff, reduceIte, ite_true, ite_false, eq_self, Nat.reduceLT, Nat.reduceLeDiff, Nat.reduceAdd, Nat.reduceMul, Nat.reduceSub, intOf, g3, g4, g5, g6, g7]
    refine ldAt (pre := []) (post := [pv]) Tryz.underlying23 rfl hB5 rfl ?_
    simp only [↓VD, VP, VT, isAggD, reduceCtorEq, Int.reduceEq, Int.reduceNe, Int.reduceLT, Int.reduceLE, implies_true, Nat.reduceEqDiff, reduceIte, ite_true, ite_false, eq_self, Nat.reduceLT, Nat.reduceLeDiff, Nat.reduceAdd, Nat.reduceMul, Nat.reduceSub, intOf, g3, g4, g5, g6, g7]
    have hsv : sv.cells = #[sv] := by obtain ⟨a, c, rfl⟩ := slv_of hs.1; rfl
    refine (Backward_ok sv hsv w8).mono ?_
    rintro _ w9 ⟨rfl, hN9⟩
    simp only [↓VD, VP, VT, isAggD, reduceCtorEq, Int.reduceEq, Int.reduceNe, Int.reduceLT, Int.reduceLE, implies_true, Nat.reduceEqDiff, reduceIte, ite_true, ite_false, eq_self, Nat.reduceLT, Nat.reduceLeDiff, Nat.reduceAdd, Nat.reduceMul, Nat.reduceSub, intOf]
    refine peelB ⟨fun a hF => ?_⟩
    have z8 := hE8.size
    have z9 := hN9.size
    have zb := hB7.lt
    have zc := hB6.lt
    have hE9 := hE8.trans' hN9.ext
    have hX : ∀ {b T : Nat} {l : List Value}, Blk w8 b T l → Blk w9 b T l := fun h => h.ext hN9.ext
    have hBs := hN9.blk
    generalize w8.heap.size = Bs at *
    replace hB3 := hX hB3
    replace hB4 := hX hB4
    replace hB5 := hX hB5
    replace hB6 := hX hB6
    replace hB7 := hX hB7
    have hup0 := up0_len n (ps.map PR.dat)
    refine rangeT 168 Bs b7 32 33 (ss := ss) hF rfl (by kernel_rfl) (fun l J Jx W hKD hJ0 hY => ?_) rfl (by decide) (by decide)
      (fun pre W => KD w9.heap.size b7 w9 W ∧ Blk W b7 28 (vbs (upF n k pre (up0 n (ps.map PR.dat))))) (OwnFrom.and (kd_own w9 (Nat.le_refl _) (Nat.le_refl _)) (blk_own _ _ _ _)) ⟨KD.rfl' _ _ _, hB7⟩
      (fun x s' W => s' 3 = .pointer (some ⟨w.heap.size, 0, none⟩) ∧ s' 4 = .pointer (some ⟨b4, 0, none⟩) ∧ s' 7 = .pointer (some ⟨b7, 0, none⟩) ∧ s' 9 = .int .i64 (x.1 : Nat) ∧ ∃ b10, s' 10 = .pointer (some ⟨b10, 0, none⟩) ∧ w9.heap.size ≤ b10 ∧ Blk W b10 51 x.2.cells)
      (fun x s' u W W' row hA hg hr => ?_) ?_ ?_ ?_
    · exact iter_ok l Bs sv ss (fun s h => by obtain ⟨a, c, e⟩ := slv_of (hs.2 s h).2.2; rw [e]; rfl) J Jx (KD w9.heap.size b7 w9) (fun W' hK => ⟨(hK.blk hBs hBs.lt (by omega)).cell 0, hs.1.ext (hK.ext hE9 (by omega) (by omega))⟩) hY W hKD hJ0
    · obtain ⟨h3, h4, h7, h9, b10, h10, hb10, hB10⟩ := hA
      exact ⟨h3, h4, h7, h9, b10, h10, hb10, blk_own (β := Unit) _ _ _ (fun _ => x.2.cells) () W W' row hB10 hg hr⟩
    · intro l pre x W hx ⟨hKD, hB⟩
      have hzs := hKD.size
      obtain ⟨hbm, hdk⟩ := hs.2 x.2 (List.mem_of_getElem? (backL_mem hx))
      obtain ⟨ak, ck, hkv⟩ := slv_of hdk.2
      simp only [↓VD, VP, VT, isAggD, reduceCtorEq, Int.reduceEq, Int.reduceNe, Int.reduceLT, Int.reduceLE, implies_true, Nat.reduceEqDiff, reduceIte, ite_true, ite_false, eq_self, Nat.reduceLT, Nat.reduceLeDiff, Nat.reduceAdd, Nat.reduceMul, Nat.reduceSub, intOf, g3, g4, g5, g6, g7]
      intro w11 hN11
      refine stAll hN11.blk (vs := x.2.cells) rfl (by rw [c51]; decide) (by rw [c51]; rfl) (by rw [c51]; rfl) (by rw [SR.cells, hkv]; simp [oneCellV]) (fun w12 hP12 => ?_)
      simp only [↓VD, VP, VT, isAggD, reduceCtorEq, Int.reduceEq, Int.reduceNe, Int.reduceLT, Int.reduceLE, implies_true, Nat.reduceEqDiff, reduceIte, ite_true, ite_false, eq_self, Nat.reduceLT, Nat.reduceLeDiff, Nat.reduceAdd, Nat.reduceMul, Nat.reduceSub, intOf, g3, g4, g5, g6, g7]
      have hE12 : Ext W w12 := hN11.ext.trans (hP12.below (Nat.le_refl _))
      exact ⟨keepsFrom_ext hE12, KD.of_below (hE12.mono hzs), ⟨hKD.trans (KD.of_below (hE12.mono hzs)), hB.ext hE12⟩, ⟨W.heap.size, rfl, hzs, hP12.blk⟩⟩
    · intro l pre x s10 W hx hsz ⟨hKD, hB⟩ ⟨h3, h4, h7, h9, b10, h10, hb10, hB10⟩ hlen
      have hx2 := backL_mem hx
      have hxm := List.mem_of_getElem? hx2
      obtain ⟨hbm, hdk⟩ := hs.2 x.2 hxm
      have hEW : Ext w W := hKD.ext hE9 (by omega) (by omega)
      replace hdk := hdk.ext hEW
      have hlk := hss x.2 hxm
      have hrk := hr x.1 x.2 hx2
      obtain ⟨i, s⟩ := x
      obtain ⟨kv, bm, ks⟩ := s
      simp only at hx2 hbm hdk hlk hrk h9
      have hA3 := hKD.blk hB3 (by omega) (by omega)
      have hA4 := hKD.blk hB4 (by omega) (by omega)
      simp only [↓VD, VP, VT, isAggD, reduceCtorEq, Int.reduceEq, Int.reduceNe, Int.reduceLT, Int.reduceLE, implies_true, Nat.reduceEqDiff, reduceIte, ite_true, ite_false, eq_self, Nat.reduceLT, Nat.reduceLeDiff, Nat.reduceAdd, Nat.reduceMul, Nat.reduceSub, intOf, h3, h4, h7, h9, h10]
      refine ldAt (pre := []) (post := []) Tryz.underlying3 rfl hA3 rfl ?_
      simp only [↓VD, VP, VT, isAggD, reduceCtorEq, Int.reduceEq, Int.reduceNe, Int.reduceLT, Int.reduceLE, implies_true, Nat.reduceEqDiff, reduceIte, ite_true, ite_false, eq_self, Nat.reduceLT, Nat.reduceLeDiff, Nat.reduceAdd, Nat.reduceMul, Nat.reduceSub, intOf, h3, h4, h7, h9, h10]
      refine ldA Tryz.underlying28 rfl hA4 (by rw [vbs_len, hk, c28]) ?_
      simp only [↓VD, VP, VT, isAggD, reduceCtorEq, Int.reduceEq, Int.reduceNe, Int.reduceLT, Int.reduceLE, implies_true, Nat.reduceEqDiff, reduceIte, ite_true, ite_false, eq_self, Nat.reduceLT, Nat.reduceLeDiff, Nat.reduceAdd, Nat.reduceMul, Nat.reduceSub, intOf, h3, h4, h7, h9, h10]
      refine (child_ok n k hk i W).mono ?_
      rintro _ w11 ⟨rfl, hE11⟩
      simp only [↓VD, VP, VT, isAggD, reduceCtorEq, Int.reduceEq, Int.reduceNe, Int.reduceLT, Int.reduceLE, implies_true, Nat.reduceEqDiff, reduceIte, ite_true, ite_false, eq_self, Nat.reduceLT, Nat.reduceLeDiff, Nat.reduceAdd, Nat.reduceMul, Nat.reduceSub, intOf, h3, h4, h7, h9, h10]
      replace hB10 : Blk W b10 51 [.int .u16 bm, kv] := hB10
      refine ldAt (pre := [.int .u16 bm]) (post := []) Tryz.underlying49 rfl (hB10.ext hE11) rfl ?_
      simp only [↓VD, VP, VT, isAggD, reduceCtorEq, Int.reduceEq, Int.reduceNe, Int.reduceLT, Int.reduceLE, implies_true, Nat.reduceEqDiff, reduceIte, ite_true, ite_false, eq_self, Nat.reduceLT, Nat.reduceLeDiff, Nat.reduceAdd, Nat.reduceMul, Nat.reduceSub, intOf, h3, h4, h7, h9, h10]
      refine (CloneD_ok ks kv w11 (hdk.ext hE11) (by omega)).mono ?_
      rintro vc w12 ⟨hO12, hE12⟩
      simp only [↓VD, VP, VT, isAggD, reduceCtorEq, Int.reduceEq, Int.reduceNe, Int.reduceLT, Int.reduceLE, implies_true, Nat.reduceEqDiff, reduceIte, ite_true, ite_false, eq_self, Nat.reduceLT, Nat.reduceLeDiff, Nat.reduceAdd, Nat.reduceMul, Nat.reduceSub, intOf, h3, h4, h7, h9, h10]
      refine ldAt (pre := []) (post := [kv]) Tryz.underlying48 rfl ((hB10.ext hE11).ext hE12) rfl ?_
      simp only [↓VD, VP, VT, isAggD, reduceCtorEq, Int.reduceEq, Int.reduceNe, Int.reduceLT, Int.reduceLE, implies_true, Nat.reduceEqDiff, reduceIte, ite_true, ite_false, eq_self, Nat.reduceLT, Nat.reduceLeDiff, Nat.reduceAdd, Nat.reduceMul, Nat.reduceSub, intOf, h3, h4, h7, h9, h10]
      refine (Has_ok bm hbm (atP n k i).1 w12).mono ?_
      rintro _ w13 ⟨rfl, hE13⟩
      simp only [↓VJ, VP, VT, isAggD, reduceCtorEq, Int.reduceEq, Int.reduceNe, Int.reduceLT, Int.reduceLE, implies_true, Nat.reduceEqDiff, reduceIte, ite_true, ite_false, eq_self, Nat.reduceLT, Nat.reduceLeDiff, Nat.reduceAdd, Nat.reduceMul, Nat.reduceSub, intOf, h3, h4, h7, h9, h10]
      have z11 := hE11.size
      have z12 := hE12.size
      have z13 := hE13.size
      have hEm : Ext W w13 := (hE11.trans' hE12).trans' hE13
      have hO13 := hO12.ext hE13
      have hM10 := hB10.ext hEm
      have hM7 := hB.ext hEm
      have y10 := hB10.lt
      have y7 := hB.lt
      have hdl : (upF n k pre (up0 n (ps.map PR.dat))).length = 32 := upF_len _ _ _ _ hup0
      obtain ⟨dd, hdd⟩ : ∃ dd, dd = upF n k pre (up0 n (ps.map PR.dat)) := ⟨_, rfl⟩
      rw [← hdd] at hM7 hdl
      obtain ⟨all, hall⟩ : ∃ all, all = if hasB bm (atP n k i).1 = true then insP ks (rankB bm (atP n k i).1) dd else ks := ⟨_, rfl⟩
      refine joinT (fun s' W' => s' 3 = .pointer (some ⟨w.heap.size, 0, none⟩) ∧ s' 7 = .pointer (some ⟨b7, 0, none⟩) ∧ s' 10 = .pointer (some ⟨b10, 0, none⟩) ∧ DigsAt W' (s' 12) all ∧ Below w11.heap.size w13 W') ?_ ?_
      · simp only [↓VD, VP, VT, isAggD, reduceCtorEq, Int.reduceEq, Int.reduceNe, Int.reduceLT, Int.reduceLE, implies_true, Nat.reduceEqDiff, reduceIte, ite_true, ite_false, eq_self, Nat.reduceLT, Nat.reduceLeDiff, Nat.reduceAdd, Nat.reduceMul, Nat.reduceSub, intOf, h3, h4, h7, h9, h10]
        refine bsplit_i (fun ht => ?_) (fun hf => ?_)
        · have hrk' := hrk ht
          rw [if_pos ht] at hall
          have hal : ∀ d ∈ all, d.length = 32 := by
            intro d hd
            rw [hall, insP] at hd
            rcases List.mem_append.1 hd with h | h
            · exact hdk.1 d (List.mem_of_mem_take h)
            · rcases List.mem_cons.1 h with rfl | h
              · exact hdl
              · exact hdk.1 d (List.mem_of_mem_drop h)
          have hall2 : all.length = ks.length + 1 := by rw [hall, insP]; simp; omega
          refine drawO (fun W' => Blk W' b10 51 [.int .u16 bm, kv] ∧ Blk W' b7 28 (vbs dd)) (Ord.pre [0, 1, 2, 3, 5] (.two 4 6 (Ord.of [6, 7, 8]) (Ord.of [4, 7, 8]))) mixed (by decide +kernel) (fun w14 hE14 hh => ⟨⟨hM10.ext hE14, hM7.ext hE14⟩, ?_⟩)
          simp only [↓VD, VP, VT, isAggD, reduceCtorEq, Int.reduceEq, Int.reduceNe, Int.reduceLT, Int.reduceLE, implies_true, Nat.reduceEqDiff, reduceIte, ite_true, ite_false, eq_self, Nat.reduceLT, Nat.reduceLeDiff, Nat.reduceAdd, Nat.reduceMul, Nat.reduceSub, intOf, h3, h4, h7, h9, h10]
          refine loadS_of _ (fun w' h => ldAt (pre := []) (post := [kv]) Tryz.underlying48 rfl h.1 rfl rfl) ?_
          simp only [↓VD, VP, VT, isAggD, reduceCtorEq, Int.reduceEq, Int.reduceNe, Int.reduceLT, Int.reduceLE, implies_true, Nat.reduceEqDiff, reduceIte, ite_true, ite_false, eq_self, Nat.reduceLT, Nat.reduceLeDiff, Nat.reduceAdd, Nat.reduceMul, Nat.reduceSub, intOf, h3, h4, h7, h9, h10]
          refine loadS_of _ (fun w' h => ldA Tryz.underlying28 rfl h.2 (by rw [vbs_len, hdl, c28]) rfl) ?_
          simp only [↓VD, VP, VT, isAggD, reduceCtorEq, Int.reduceEq, Int.reduceNe, Int.reduceLT, Int.reduceLE, implies_true, Nat.reduceEqDiff, reduceIte, ite_true, ite_false, eq_self, Nat.reduceLT, Nat.reduceLeDiff, Nat.reduceAdd, Nat.reduceMul, Nat.reduceSub, intOf, h3, h4, h7, h9, h10]
          have hne : ∀ B, w14.heap.size ≤ B → vc.ownBlock ≠ some B := fun B hB e => by
            have := (hO13.ext hE14).lt B e
            omega
          have z14 := hE14.size
          refine ⟨?_, ?_⟩
          · refine (Rank_ok bm hbm (atP n k i).1 w14).mono ?_
            rintro _ w15 ⟨rfl, hE15⟩
            have z15 := hE15.size
            refine told (fun _ => True) ⟨(hM10.ext hE14).ext hE15, (hM7.ext hE14).ext hE15⟩ trivial ?_
            simp only [↓VD, VP, VT, isAggD, reduceCtorEq, Int.reduceEq, Int.reduceNe, Int.reduceLT, Int.reduceLE, implies_true, Nat.reduceEqDiff, reduceIte, ite_true, ite_false, eq_self, Nat.reduceLT, Nat.reduceLeDiff, Nat.reduceAdd, Nat.reduceMul, Nat.reduceSub, intOf, h3, h4, h7, h9, h10]
            refine ⟨by rw [vbs_len]; exact hdl, fun w16 hN16 => ?_⟩
            have z16 := hN16.size
            refine told (fun _ => True) ⟨((hM10.ext hE14).ext hE15).ext hN16.ext, ((hM7.ext hE14).ext hE15).ext hN16.ext⟩ trivial ?_
            simp only [↓VD, VP, VT, isAggD, reduceCtorEq, Int.reduceEq, Int.reduceNe, Int.reduceLT, Int.reduceLE, implies_true, Nat.reduceEqDiff, reduceIte, ite_true, ite_false, eq_self, Nat.reduceLT, Nat.reduceLeDiff, Nat.reduceAdd, Nat.reduceMul, Nat.reduceSub, intOf, h3, h4, h7, h9, h10]
            refine (Insert_ok ks hdk.1 (rankB bm (atP n k i).1) hrk' dd hdl vc w11.heap.size w15.heap.size w16 (((hO13.ext hE14).ext hE15).ext hN16.ext) (by omega) hN16.blk (hne _ (by omega)) (by omega)).mono ?_
            rintro v' w17 ⟨hO17, hB17⟩
            refine told (fun _ => True) ⟨(((hM10.ext hE14).ext hE15).ext hN16.ext).below hB17 (by omega), (((hM7.ext hE14).ext hE15).ext hN16.ext).below hB17 (by omega)⟩ trivial ?_
            simp only [↓VD, VP, VT, isAggD, reduceCtorEq, Int.reduceEq, Int.reduceNe, Int.reduceLT, Int.reduceLE, implies_true, Nat.reduceEqDiff, reduceIte, ite_true, ite_false, eq_self, Nat.reduceLT, Nat.reduceLeDiff, Nat.reduceAdd, Nat.reduceMul, Nat.reduceSub, intOf, h3, h4, h7, h9, h10]
            rw [← hall, ← hall2] at hO17
            exact ⟨⟨hal, SlC.of_own hO17⟩, (((hE14.trans' hE15).trans' hN16.ext).mono (by omega)).trans hB17⟩
          · refine ⟨by rw [vbs_len]; exact hdl, fun w15 hN15 => ?_⟩
            have z15 := hN15.size
            refine told (fun _ => True) ⟨(hM10.ext hE14).ext hN15.ext, (hM7.ext hE14).ext hN15.ext⟩ trivial ?_
            simp only [↓VD, VP, VT, isAggD, reduceCtorEq, Int.reduceEq, Int.reduceNe, Int.reduceLT, Int.reduceLE, implies_true, Nat.reduceEqDiff, reduceIte, ite_true, ite_false, eq_self, Nat.reduceLT, Nat.reduceLeDiff, Nat.reduceAdd, Nat.reduceMul, Nat.reduceSub, intOf, h3, h4, h7, h9, h10]
            refine (Rank_ok bm hbm (atP n k i).1 w15).mono ?_
            rintro _ w16 ⟨rfl, hE16⟩
            have z16 := hE16.size
            refine told (fun _ => True) ⟨((hM10.ext hE14).ext hN15.ext).ext hE16, ((hM7.ext hE14).ext hN15.ext).ext hE16⟩ trivial ?_
            simp only [↓VD, VP, VT, isAggD, reduceCtorEq, Int.reduceEq, Int.reduceNe, Int.reduceLT, Int.reduceLE, implies_true, Nat.reduceEqDiff, reduceIte, ite_true, ite_false, eq_self, Nat.reduceLT, Nat.reduceLeDiff, Nat.reduceAdd, Nat.reduceMul, Nat.reduceSub, intOf, h3, h4, h7, h9, h10]
            refine (Insert_ok ks hdk.1 (rankB bm (atP n k i).1) hrk' dd hdl vc w11.heap.size w14.heap.size w16 (((hO13.ext hE14).ext hN15.ext).ext hE16) (by omega) (hN15.blk.ext hE16) (hne _ (by omega)) (by omega)).mono ?_
            rintro v' w17 ⟨hO17, hB17⟩
            refine told (fun _ => True) ⟨(((hM10.ext hE14).ext hN15.ext).ext hE16).below hB17 (by omega), (((hM7.ext hE14).ext hN15.ext).ext hE16).below hB17 (by omega)⟩ trivial ?_
            simp only [↓VD, VP, VT, isAggD, reduceCtorEq, Int.reduceEq, Int.reduceNe, Int.reduceLT, Int.reduceLE, implies_true, Nat.reduceEqDiff, reduceIte, ite_true, ite_false, eq_self, Nat.reduceLT, Nat.reduceLeDiff, Nat.reduceAdd, Nat.reduceMul, Nat.reduceSub, intOf, h3, h4, h7, h9, h10]
            rw [← hall, ← hall2] at hO17
            exact ⟨⟨hal, SlC.of_own hO17⟩, (((hE14.trans' hN15.ext).trans' hE16).mono (by omega)).trans hB17⟩
        · rw [if_neg (by simp [hf])] at hall
          subst hall
          simp only [↓VD, VP, VT, isAggD, reduceCtorEq, Int.reduceEq, Int.reduceNe, Int.reduceLT, Int.reduceLE, implies_true, Nat.reduceEqDiff, reduceIte, ite_true, ite_false, eq_self, Nat.reduceLT, Nat.reduceLeDiff, Nat.reduceAdd, Nat.reduceMul, Nat.reduceSub, intOf, h3, h4, h7, h9, h10]
          refine ⟨⟨hdk.1, SlC.of_own hO13⟩, Below.refl _ _⟩
      · rintro s20 w20 ⟨k3, k7, k10, hDA, hBel⟩
        have hA20 : Ext W w20 := hEm.trans (hBel.mono (by omega))
        have hal2 : all.length ≤ ks.length + 1 := by
          rw [hall]
          split
          · rw [insP]; simp; omega
          · omega
        obtain ⟨a12, c12, e12⟩ := slv_of hDA.2
        simp only [↓VD, VP, VT, isAggD, reduceCtorEq, Int.reduceEq, Int.reduceNe, Int.reduceLT, Int.reduceLE, implies_true, Nat.reduceEqDiff, reduceIte, ite_true, ite_false, eq_self, Nat.reduceLT, Nat.reduceLeDiff, Nat.reduceAdd, Nat.reduceMul, Nat.reduceSub, intOf, k3, k7, k10]
        refine ldAt (pre := []) (post := []) Tryz.underlying3 rfl (hA3.ext hA20) rfl ?_
        simp only [↓VD, VP, VT, isAggD, reduceCtorEq, Int.reduceEq, Int.reduceNe, Int.reduceLT, Int.reduceLE, implies_true, Nat.reduceEqDiff, reduceIte, ite_true, ite_false, eq_self, Nat.reduceLT, Nat.reduceLeDiff, Nat.reduceAdd, Nat.reduceMul, Nat.reduceSub, intOf, k3, k7, k10]
        refine ldAt (pre := []) (post := [kv]) Tryz.underlying48 rfl (hB10.ext hA20) rfl ?_
        simp only [↓VD, VP, VT, isAggD, reduceCtorEq, Int.reduceEq, Int.reduceNe, Int.reduceLT, Int.reduceLE, implies_true, Nat.reduceEqDiff, reduceIte, ite_true, ite_false, eq_self, Nat.reduceLT, Nat.reduceLeDiff, Nat.reduceAdd, Nat.reduceMul, Nat.reduceSub, intOf, k3, k7, k10]
        refine (Branch_ok n bm hbm (s20 12) all w20 (hW.ext (hEW.trans' hA20)) hDA (by omega)).mono ?_
        rintro _ w21 ⟨rfl, hE21⟩
        simp only [↓VD, VP, VT, isAggD, reduceCtorEq, Int.reduceEq, Int.reduceNe, Int.reduceLT, Int.reduceLE, implies_true, Nat.reduceEqDiff, reduceIte, ite_true, ite_false, eq_self, Nat.reduceLT, Nat.reduceLeDiff, Nat.reduceAdd, Nat.reduceMul, Nat.reduceSub, intOf, k3, k7, k10]
        have z20 := hBel.size
        have z21 := hE21.size
        refine stAll ((hB.ext hA20).ext hE21) (vs := vbs (brD n bm all)) rfl (by rw [c28]; decide) (by rw [c28, vbs_len, brD_len]) (by rw [c28, vbs_len, ← hdd, hdl]) (vbs_one _) (fun w22 hP22 => ?_)
        simp only [↓VD, VP, VT, isAggD, reduceCtorEq, Int.reduceEq, Int.reduceNe, Int.reduceLT, Int.reduceLE, implies_true, Nat.reduceEqDiff, reduceIte, ite_true, ite_false, eq_self, Nat.reduceLT, Nat.reduceLeDiff, Nat.reduceAdd, Nat.reduceMul, Nat.reduceSub, intOf, k3, k7, k10]
        have hKB : KeepB W w22 b7 := (KeepB.of_ext (hA20.trans' hE21)).trans (KeepB.of_put hP22)
        refine ⟨keepsFrom_of hKB (by omega), KD.of_keepB hKB hsz, hKD.trans (KD.of_keepB hKB hsz), ?_⟩
        have := hP22.blk
        rw [hall, hdd] at this
        rw [upF_snoc]
        exact this
    · intro D W hD ⟨hKD, hB⟩ hWD
      refine tailM hF ?_
      simp only [↓VD, VP, VT, isAggD, reduceCtorEq, Int.reduceEq, Int.reduceNe, Int.reduceLT, Int.reduceLE, implies_true, Nat.reduceEqDiff, reduceIte, ite_true, ite_false, eq_self, Nat.reduceLT, Nat.reduceLeDiff, Nat.reduceAdd, Nat.reduceMul, Nat.reduceSub, intOf, g3, g4, g5, g6, g7, retM_ret]
      have hfl : (upF n k (backL ss) (up0 n (ps.map PR.dat))).length = 32 := upF_len _ _ _ _ hup0
      refine ldA Tryz.underlying28 rfl hB (by rw [vbs_len, hfl, c28]) ?_
      simp only [↓VD, VP, VT, isAggD, reduceCtorEq, Int.reduceEq, Int.reduceNe, Int.reduceLT, Int.reduceLE, implies_true, Nat.reduceEqDiff, reduceIte, ite_true, ite_false, eq_self, Nat.reduceLT, Nat.reduceLeDiff, Nat.reduceAdd, Nat.reduceMul, Nat.reduceSub, intOf, g3, g4, g5, g6, g7, retM_ret]
      have hA6 := hKD.blk hB6 (by omega) (by omega)
      refine stAll hA6 rfl (by rw [c28]; decide) (by rw [c28, vbs_len, hfl]) (by rw [c28]; simp [vbs]) (vbs_one _) (fun w10 hP10 => ?_)
      simp only [↓VD, VP, VT, isAggD, reduceCtorEq, Int.reduceEq, Int.reduceNe, Int.reduceLT, Int.reduceLE, implies_true, Nat.reduceEqDiff, reduceIte, ite_true, ite_false, eq_self, Nat.reduceLT, Nat.reduceLeDiff, Nat.reduceAdd, Nat.reduceMul, Nat.reduceSub, intOf, g3, g4, g5, g6, g7, retM_ret]
      have hDo : w10.heap[D]? = some (.deferred (some [])) := by rw [hP10.other D (by omega)]; exact hWD
      have hDl := (Array.getElem?_eq_some_iff.1 hDo).1
      have hPo : ∀ j, j ≠ D → (w10.putObj D (.deferred none)).heap[j]? = w10.heap[j]? := fun j hj => World.putObj_heap_other hj
      refine ⟨hDo, ldA Tryz.underlying28 rfl (⟨by rw [hPo b6 (by omega)]; exact hP10.blk.out⟩ : Blk _ b6 28 _) (by rw [vbs_len, hfl, c28]) ⟨rfl, ?_⟩⟩
      have hEW : Ext w W := hKD.ext hE9 (by omega) (by omega)
      refine (hEW.trans (hP10.below (by omega))).trans ⟨rfl, rfl, rfl, by simp, fun j hj => hPo j (by omega)⟩

end Go.Proofs.YtebbgninkbghlaaGreatDoor

/-! Hck -/
namespace Go.Proofs.YtebbgninkbghlaaGreatDoor
set_option maxRecDepth 100000
open Go Go.RowKit
set_option linter.unusedVariables false
set_option linter.unusedSimpArgs false

/-! ### Package bytes -/
theorem BEqual_ok (xs ys : List UInt8) (u v : Value) (w : World) (hu : SlB w u xs) (hv : SlB w v ys) :
    CallK Tryz.prog 76 [u, v].toArray w fun r w' => r = .bool (decide (xs = ys)) ∧ w' = w := by
  refine enterT Tryz.func76 rfl Tryz.ntmps76 Tryz.results76 rfl (by decide) ?_
  simp only [↓VD, VP, VT, isAggD, reduceCtorEq, Int.reduceEq, Int.reduceNe, Int.reduceLT, Int.reduceLE, implies_true, Nat.reduceEqDiff, reduceIte, ite_true, ite_false, eq_self, Nat.reduceLT, Nat.reduceLeDiff, Nat.reduceAdd, Nat.reduceMul, Nat.reduceSub, intOf]
  refine convS hu ?_
  simp only [↓VD, VP, VT, isAggD, reduceCtorEq, Int.reduceEq, Int.reduceNe, Int.reduceLT, Int.reduceLE, implies_true, Nat.reduceEqDiff, reduceIte, ite_true, ite_false, eq_self, Nat.reduceLT, Nat.reduceLeDiff, Nat.reduceAdd, Nat.reduceMul, Nat.reduceSub, intOf]
  refine convS hv ?_
  simp only [↓VD, VP, VT, isAggD, reduceCtorEq, Int.reduceEq, Int.reduceNe, Int.reduceLT, Int.reduceLE, implies_true, Nat.reduceEqDiff, reduceIte, ite_true, ite_false, eq_self, Nat.reduceLT, Nat.reduceLeDiff, Nat.reduceAdd, Nat.reduceMul, Nat.reduceSub, intOf]
  refine ⟨_, _, rfl, rfl, ?_⟩
  simp only [↓VD, VP, VT, isAggD, reduceCtorEq, Int.reduceEq, Int.reduceNe, Int.reduceLT, Int.reduceLE, implies_true, Nat.reduceEqDiff, reduceIte, ite_true, ite_false, eq_self, Nat.reduceLT, Nat.reduceLeDiff, Nat.reduceAdd, Nat.reduceMul, Nat.reduceSub, intOf]
  simp only [ByteArray.toList_eq]
theorem BClone_ok (xs : List UInt8) (v : Value) (w : World) (hv : SlB w v xs) (hsz : xs.length ≤ 140737488355328) :
    CallK Tryz.prog 78 [v].toArray w fun v' w' => Own w' w.heap.size 5 1 v' xs.length (vbs xs) ∧ Ext w w' := by
  have hv' := hv
  obtain ⟨a, c, rfl, hnc, hcm, hc⟩ := hv'
  refine enterT Tryz.func78 rfl Tryz.ntmps78 Tryz.results78 rfl (by decide) ?_
  simp only [↓VD, VP, VT, isAggD, reduceCtorEq, Int.reduceEq, Int.reduceNe, Int.reduceLT, Int.reduceLE, implies_true, Nat.reduceEqDiff, reduceIte, ite_true, ite_false, eq_self, Nat.reduceLT, Nat.reduceLeDiff, Nat.reduceAdd, Nat.reduceMul, Nat.reduceSub, intOf]
  refine ⟨fun ha => ?_, fun ha => ⟨rfl, fun w1 hN => ?_⟩⟩
  · have : xs = [] := by
      rcases hc with hc | ⟨b, o, rfl, _⟩
      · simpa [vbs] using hc
      · cases ha
    subst this
    exact ⟨Own.nil _ _ _ _, Ext.rfl' w⟩
  · refine apS Tryz.underlying22 z5 c5 rfl (by decide) (Own.of_blk hN.blk (Nat.le_refl _) rfl (by decide)) (by have := hN.size; omega) (hv.ext hN.ext) (by rw [vbs_len, Nat.mul_one]) (vbs_one _) (by omega) (by rw [by5]; omega) (fun v' w2 hO hg => ?_)
    simp only [↓VD, VP, VT, isAggD, reduceCtorEq, Int.reduceEq, Int.reduceNe, Int.reduceLT, Int.reduceLE, implies_true, Nat.reduceEqDiff, reduceIte, ite_true, ite_false, eq_self, Nat.reduceLT, Nat.reduceLeDiff, Nat.reduceAdd, Nat.reduceMul, Nat.reduceSub, intOf]
    refine ⟨by simpa using hO, hN.ext.trans ⟨hg.os, hg.tape, hg.output, hg.size, fun k hk => hg.block k (by have := hN.size; omega) ?_⟩⟩
    simp only [Value.ownBlock, ne_eq, Option.some.injEq]
    omega
theorem bytesX (xs : List UInt8) : Lib.bytesOf (xs.map fun b => (b.toNat : Int)) = xs := by
  induction xs with
  | nil => rfl
  | cons x xs ih => simpa [Lib.bytesOf] using ih
theorem loadX {w : World} {v : Value} {xs : List UInt8} (h : SlB w v xs) : (Extern.Bytes.bytesOf v).run Tryz.prog w = .ok ⟨xs.toArray⟩ w := by
  obtain ⟨a, c, rfl, hnc, hcm, hc⟩ := h
  rcases hc with hc | ⟨b, o, rfl, hc⟩
  · have : xs = [] := by simpa [vbs] using hc
    subst this
    cases a <;> simp [Extern.Bytes.bytesOf, Extern.Bytes.loadBytes] <;> rfl
  · have := Lib.run_loadBytesX (P := Tryz.prog) w (xs.map fun b => (b.toNat : Int)) ⟨b, o, none⟩ .empty (fun j x hj => by
      rw [addr_add]
      exact hc j _ (by rw [vbs_ints]; simp at hj ⊢; exact hj))
    rw [List.length_map, bytesX] at this
    simpa [Extern.Bytes.bytesOf] using this
theorem BCompare_ok (xs ys : List UInt8) (u v : Value) (w : World) (hu : SlB w u xs) (hv : SlB w v ys) :
    CallK Tryz.prog 124 [u, v].toArray w fun r w' => r = .int .i64 (Lib.compareBytes xs ys) ∧ w' = w := by
  refine enterT Tryz.func124 rfl Tryz.ntmps124 Tryz.results124 rfl (by decide) ?_
  simp only [↓VD, VP, VT, isAggD, reduceCtorEq, Int.reduceEq, Int.reduceNe, Int.reduceLT, Int.reduceLE, implies_true, Nat.reduceEqDiff, reduceIte, ite_true, ite_false, eq_self, Nat.reduceLT, Nat.reduceLeDiff, Nat.reduceAdd, Nat.reduceMul, Nat.reduceSub, intOf]
  refine ⟨Or.inr ⟨.int .i64 (Lib.compareBytes xs ys), w, ?_, ?_⟩⟩
  · rw [run_callFunc_extern (e := Extern.BytealgCompare.compare) Tryz.func165 rfl rfl rfl rfl]
    change (Sem.run Tryz.prog (do pure (goInt (Extern.BytealgCompare.cmp (← Extern.Bytes.bytesOf u) (← Extern.Bytes.bytesOf v)))) w).andThen _ = _
    simp only [Sem.run_bind, Sem.run_pure, loadX hu, loadX hv, Result.andThen]
    rw [Lib.cmp_eq]
    rfl
  · simp only [↓VD, VP, VT, isAggD, reduceCtorEq, Int.reduceEq, Int.reduceNe, Int.reduceLT, Int.reduceLE, implies_true, Nat.reduceEqDiff, reduceIte, ite_true, ite_false, eq_self, Nat.reduceLT, Nat.reduceLeDiff, Nat.reduceAdd, Nat.reduceMul, Nat.reduceSub, intOf]

/-! ### kids -/
def kidsP (n : Int) (ss : List SR) : Prop := ∀ s ∈ ss, ∀ d ∈ s.ks, formB n d = true
instance (n : Int) (ss : List SR) : Decidable (kidsP n ss) := by unfold kidsP; infer_instance
theorem kids_ok (n : Int) (sv : Value) (ss : List SR) (w : World) (hs : StepsAt w sv ss) :
    CallK Tryz.prog 73 [.int .i64 n, sv].toArray w fun v w' => v = .bool (decide (kidsP n ss)) ∧ Ext w w' := by
  obtain ⟨⟨a, c, rfl, hnc, hcm, hc⟩, hss⟩ := hs
  refine enterT Tryz.func73 rfl Tryz.ntmps73 Tryz.results73 rfl (by decide) ?_
  simp only [↓VD, VP, VT, isAggD, reduceCtorEq, Int.reduceEq, Int.reduceNe, Int.reduceLT, Int.reduceLE, implies_true, Nat.reduceEqDiff, reduceIte, ite_true, ite_false, eq_self, Nat.reduceLT, Nat.reduceLeDiff, Nat.reduceAdd, Nat.reduceMul, Nat.reduceSub, intOf]
  refine loopT (fun s' w' => Ext w w' ∧ ∃ k : Nat, k ≤ ss.length ∧ s' 0 = .int .i64 n ∧ s' 9 = .slice a ss.length c ∧ s' 10 = .int .i64 ss.length ∧ s' 11 = .int .i64 k ∧
      ∀ s ∈ ss.take k, ∀ d ∈ s.ks, formB n d = true) (fun s' _ => ss.length - (intOf (s' 11)).toNat) ?_ ?_
  · simp only [↓VD, VP, VT, isAggD, reduceCtorEq, Int.reduceEq, Int.reduceNe, Int.reduceLT, Int.reduceLE, implies_true, Nat.reduceEqDiff, reduceIte, ite_true, ite_false, eq_self, Nat.reduceLT, Nat.reduceLeDiff, Nat.reduceAdd, Nat.reduceMul, Nat.reduceSub, intOf]
    exact ⟨Ext.rfl' w, 0, by omega, rfl, by simp⟩
  · rintro s2 w2 ⟨hE, k, hk, h0, h9, h10, h11, hz⟩
    simp only [↓VD, VP, VT, isAggD, reduceCtorEq, Int.reduceEq, Int.reduceNe, Int.reduceLT, Int.reduceLE, implies_true, Nat.reduceEqDiff, reduceIte, ite_true, ite_false, eq_self, Nat.reduceLT, Nat.reduceLeDiff, Nat.reduceAdd, Nat.reduceMul, Nat.reduceSub, intOf, h0, h9, h10, h11]
    refine ⟨fun hlt => ?_, fun hge => ?_⟩
    · have hlt' : k < ss.length := by omega
      rcases hc with hc | ⟨b, o, rfl, hc⟩
      · exfalso
        cases ss with
        | nil => simp at hlt'
        | cons d ds => simp [SR.cells] at hc
      obtain ⟨x, hx⟩ : ∃ x, ss[k]? = some x := ⟨_, List.getElem?_eq_getElem hlt'⟩
      obtain ⟨hbm, hdk⟩ := hss x (List.mem_of_getElem? hx)
      have hc1 : ∀ j u, (ss.flatMap SR.cells)[j]? = some u → w2.cell? ⟨b, o + j, none⟩ = some u := fun j u hj => by rw [hE.cell (block_lt_of_cell (hc j u hj))]; exact hc j u hj
      simp only [↓VD, VP, VT, isAggD, reduceCtorEq, Int.reduceEq, Int.reduceNe, Int.reduceLT, Int.reduceLE, implies_true, Nat.reduceEqDiff, reduceIte, ite_true, ite_false, eq_self, Nat.reduceLT, Nat.reduceLeDiff, Nat.reduceAdd, Nat.reduceMul, Nat.reduceSub, intOf]
      refine ⟨by omega, by omega, ldE (f := SR.cells) c51 Tryz.underlying51 rfl (fun d h => rfl) hc1 hx ?_⟩
      simp only [↓VD, VP, VT, isAggD, reduceCtorEq, Int.reduceEq, Int.reduceNe, Int.reduceLT, Int.reduceLE, implies_true, Nat.reduceEqDiff, reduceIte, ite_true, ite_false, eq_self, Nat.reduceLT, Nat.reduceLeDiff, Nat.reduceAdd, Nat.reduceMul, Nat.reduceSub, intOf]
      intro w3 hN
      obtain ⟨ak, ck, hkv⟩ := slv_of hdk.2
      refine stAll hN.blk (vs := x.cells) rfl (by rw [c51]; decide) (by rw [c51]; rfl) (by rw [c51]; rfl) (by rw [SR.cells, hkv]; simp [oneCellV]) (fun w4 hP => ?_)
      simp only [↓VD, VP, VT, isAggD, reduceCtorEq, Int.reduceEq, Int.reduceNe, Int.reduceLT, Int.reduceLE, implies_true, Nat.reduceEqDiff, reduceIte, ite_true, ite_false, eq_self, Nat.reduceLT, Nat.reduceLeDiff, Nat.reduceAdd, Nat.reduceMul, Nat.reduceSub, intOf, h0, h9, h10, h11]
      have hE4 : Ext w w4 := hE.trans' (hN.ext.trans (hP.below (Nat.le_refl _)))
      obtain ⟨kv, bm, ks⟩ := x
      simp only at hkv hdk hbm
      subst hkv
      have hB : Blk w4 w2.heap.size 51 [.int .u16 bm, .slice ak ks.length ck] := hP.blk
      refine ldAt (pre := [.int .u16 bm]) (post := []) Tryz.underlying49 rfl hB rfl ?_
      simp only [↓VD, VP, VT, isAggD, reduceCtorEq, Int.reduceEq, Int.reduceNe, Int.reduceLT, Int.reduceLE, implies_true, Nat.reduceEqDiff, reduceIte, ite_true, ite_false, eq_self, Nat.reduceLT, Nat.reduceLeDiff, Nat.reduceAdd, Nat.reduceMul, Nat.reduceSub, intOf, h0, h9, h10, h11]
      obtain ⟨hd, a', c', he, hnc', hcm', hck⟩ := hdk
      cases he
      refine loopT (fun s' w' => Ext w w' ∧ ∃ i : Nat, i ≤ ks.length ∧ s' 0 = .int .i64 n ∧ s' 9 = .slice (some ⟨b, o, none⟩) ss.length c ∧ s' 10 = .int .i64 ss.length ∧ s' 11 = .int .i64 k ∧ s' 16 = .slice ak ks.length ck ∧ s' 17 = .int .i64 ks.length ∧ s' 18 = .int .i64 i ∧
        ∀ d ∈ ks.take i, formB n d = true) (fun s' _ => ks.length - (intOf (s' 18)).toNat) ?_ ?_
      · simp only [↓VD, VP, VT, isAggD, reduceCtorEq, Int.reduceEq, Int.reduceNe, Int.reduceLT, Int.reduceLE, implies_true, Nat.reduceEqDiff, reduceIte, ite_true, ite_false, eq_self, Nat.reduceLT, Nat.reduceLeDiff, Nat.reduceAdd, Nat.reduceMul, Nat.reduceSub, intOf, h0, h9, h10, h11]
        exact ⟨hE4, 0, by omega, rfl, by simp⟩
      · rintro s5 w5 ⟨hE5, i, hi, k0, k9, k10, k11, k16, k17, k18, hz5⟩
        simp only [↓VD, VP, VT, isAggD, reduceCtorEq, Int.reduceEq, Int.reduceNe, Int.reduceLT, Int.reduceLE, implies_true, Nat.reduceEqDiff, reduceIte, ite_true, ite_false, eq_self, Nat.reduceLT, Nat.reduceLeDiff, Nat.reduceAdd, Nat.reduceMul, Nat.reduceSub, intOf, k0, k9, k10, k11, k16, k17, k18]
        refine ⟨fun hlti => ?_, fun hgei => ?_⟩
        · have hlti' : i < ks.length := by omega
          rcases hck with hck | ⟨b', o', rfl, hck⟩
          · exfalso
            cases ks with
            | nil => simp at hlti'
            | cons d ds => have := hd d (by simp); simp at hck; simp [vbs] at hck; have h3 := hck.1; simp [h3] at this
          obtain ⟨y, hy⟩ : ∃ y, ks[i]? = some y := ⟨_, List.getElem?_eq_getElem hlti'⟩
          have hyl : y.length = 32 := hd y (List.mem_of_getElem? hy)
          have hc5 : ∀ j u, (ks.flatMap vbs)[j]? = some u → w5.cell? ⟨b', o' + j, none⟩ = some u := fun j u hj => by rw [hE5.cell (block_lt_of_cell (hck j u hj))]; exact hck j u hj
          simp only [↓VD, VP, VT, isAggD, reduceCtorEq, Int.reduceEq, Int.reduceNe, Int.reduceLT, Int.reduceLE, implies_true, Nat.reduceEqDiff, reduceIte, ite_true, ite_false, eq_self, Nat.reduceLT, Nat.reduceLeDiff, Nat.reduceAdd, Nat.reduceMul, Nat.reduceSub, intOf]
          refine ⟨by omega, by omega, ldE c28 Tryz.underlying28 rfl (fun d h => by rw [vbs_len]; exact hd d h) hc5 hy ?_⟩
          simp only [↓VD, VP, VT, isAggD, reduceCtorEq, Int.reduceEq, Int.reduceNe, Int.reduceLT, Int.reduceLE, implies_true, Nat.reduceEqDiff, reduceIte, ite_true, ite_false, eq_self, Nat.reduceLT, Nat.reduceLeDiff, Nat.reduceAdd, Nat.reduceMul, Nat.reduceSub, intOf]
          intro w6 hN6
          refine stAll hN6.blk rfl (by rw [c28]; omega) (by rw [c28, vbs_len, hyl]) (by rw [c28]; simp) (vbs_one y) (fun w7 hP7 => ?_)
          simp only [↓VD, VP, VT, isAggD, reduceCtorEq, Int.reduceEq, Int.reduceNe, Int.reduceLT, Int.reduceLE, implies_true, Nat.reduceEqDiff, reduceIte, ite_true, ite_false, eq_self, Nat.reduceLT, Nat.reduceLeDiff, Nat.reduceAdd, Nat.reduceMul, Nat.reduceSub, intOf, k0, k9, k10, k11, k16, k17, k18]
          refine ldA Tryz.underlying28 rfl hP7.blk (by rw [vbs_len, hyl, c28]) ?_
          simp only [↓VD, VP, VT, isAggD, reduceCtorEq, Int.reduceEq, Int.reduceNe, Int.reduceLT, Int.reduceLE, implies_true, Nat.reduceEqDiff, reduceIte, ite_true, ite_false, eq_self, Nat.reduceLT, Nat.reduceLeDiff, Nat.reduceAdd, Nat.reduceMul, Nat.reduceSub, intOf, k0, k9, k10, k11, k16, k17, k18]
          refine (Form_ok n y hyl w7).mono ?_
          rintro _ w8 ⟨rfl, hE8⟩
          have hE8' : Ext w w8 := (hE5.trans' (hN6.ext.trans (hP7.below (Nat.le_refl _)))).trans' hE8
          cases hf : formB n y
          · simp only [↓VD, VP, VT, isAggD, reduceCtorEq, Int.reduceEq, Int.reduceNe, Int.reduceLT, Int.reduceLE, implies_true, Nat.reduceEqDiff, reduceIte, ite_true, ite_false, eq_self, Nat.reduceLT, Nat.reduceLeDiff, Nat.reduceAdd, Nat.reduceMul, Nat.reduceSub, intOf, k0, k9, k10, k11, k16, k17, k18, hf]
            refine ⟨?_, hE8'⟩
            rw [decide_eq_false]
            intro hall
            rw [hall _ (List.mem_of_getElem? hx) y (List.mem_of_getElem? hy)] at hf
            cases hf
          · simp only [↓VD, VP, VT, isAggD, reduceCtorEq, Int.reduceEq, Int.reduceNe, Int.reduceLT, Int.reduceLE, implies_true, Nat.reduceEqDiff, reduceIte, ite_true, ite_false, eq_self, Nat.reduceLT, Nat.reduceLeDiff, Nat.reduceAdd, Nat.reduceMul, Nat.reduceSub, intOf, k0, k9, k10, k11, k16, k17, k18, hf]
            refine ⟨⟨hE8', i + 1, by omega, ?_, (take_all_succ hy).2 ⟨hz5, hf⟩⟩, ?_⟩
            · rw [w64 (by omega) (by omega)]; rfl
            · rw [w64 (by omega) (by omega)]; omega
        · rw [List.take_of_length_le (by omega)] at hz5
          refine ⟨⟨hE5, k + 1, by omega, ?_, (take_all_succ (p := fun s => ∀ d ∈ s.ks, formB n d = true) hx).2 ⟨hz, hz5⟩⟩, ?_⟩
          · rw [w64 (by omega) (by omega)]; rfl
          · rw [w64 (by omega) (by omega), h11]; simp only [intOf]; omega
    · rw [List.take_of_length_le (by omega)] at hz
      exact ⟨by rw [decide_eq_true (show kidsP n ss from hz)], hE⟩

end Go.Proofs.YtebbgninkbghlaaGreatDoor

/-! HckB -/
namespace Go.Proofs.YtebbgninkbghlaaGreatDoor
set_option maxRecDepth 100000
open Go Go.RowKit
set_option linter.unusedVariables false
set_option linter.unusedSimpArgs false

def stepOk (n : Int) (k : List UInt8) (i : Nat) (last : Prop) (np bm nk : Nat) : Prop :=
  cntB bm ≠ 0 ∧ (hasB bm (atP n k i).1 = true → nk + 1 = cntB bm ∧ ¬ (last ∧ np = 0)) ∧ (hasB bm (atP n k i).1 = false → last ∧ nk = cntB bm ∧ np = 0) ∧ ¬ (last ∧ 0 < np ∧ cntB bm = 1)
def branchesP (n : Int) (k : List UInt8) (ss : List SR) (np : Nat) : Prop := (ss.length : Int) ≤ 2 * n ∧ ∀ i s, ss[i]? = some s → stepOk n k i (i + 1 = ss.length) np s.bm s.ks.length

theorem branches_ok (n : Int) (hn : widB n = true) (k : List UInt8) (hk : k.length = 32) (sv pv : Value) (ss : List SR) (ps : List PR) (w : World) (hs : StepsAt w sv ss) (hp : PairsAt w pv ps) :
    CallK Tryz.prog 74 [.int .i64 n, .agg (vbs k).toArray, .agg [sv, pv].toArray].toArray w fun v w' => ∃ t, v = .bool t ∧ (t = true ↔ branchesP n k ss ps.length) ∧ Ext w w' := by
  have hw := (widB_iff n).1 hn
  obtain ⟨⟨a, c, rfl, hnc, hcm, hc⟩, hss⟩ := hs
  obtain ⟨ap, cp, rfl⟩ := slv_of hp.1
  have hpc : ps.length ≤ cp ∧ cp ≤ 9223372036854775807 := by
    obtain ⟨_, _, e, h1, h2, _⟩ := hp.1
    cases e
    exact ⟨h1, h2⟩
  have h2n : IntKind.i64.wrap (2 * n) = 2 * n := w64 (by omega) (by omega)
  refine enterT Tryz.func74 rfl Tryz.ntmps74 Tryz.results74 rfl (by decide) ?_
  simp only [↓VD, VP, VT, isAggD, reduceCtorEq, Int.reduceEq, Int.reduceNe, Int.reduceLT, Int.reduceLE, implies_true, Nat.reduceEqDiff, reduceIte, ite_true, ite_false, eq_self, Nat.reduceLT, Nat.reduceLeDiff, Nat.reduceAdd, Nat.reduceMul, Nat.reduceSub, intOf]
  intro w1 hN1 w2 hN2
  have s1 := hN1.size
  have s2 := hN2.size
  have hB4 := hN1.blk.ext hN2.ext
  have hB5 := hN2.blk
  have hE2 : Ext w w2 := hN1.ext.trans' hN2.ext
  generalize w1.heap.size = b5 at *
  refine ldAt (pre := []) (post := [.slice ap ps.length cp]) Tryz.underlying23 rfl hB5 rfl ?_
  simp only [↓VD, VP, VT, isAggD, reduceCtorEq, Int.reduceEq, Int.reduceNe, Int.reduceLT, Int.reduceLE, implies_true, Nat.reduceEqDiff, reduceIte, ite_true, ite_false, eq_self, Nat.reduceLT, Nat.reduceLeDiff, Nat.reduceAdd, Nat.reduceMul, Nat.reduceSub, intOf, h2n]
  refine ⟨fun hgt => ?_, fun hle => ?_⟩
  · exact ⟨⟨False.elim, fun h => by have := h.1; omega⟩, hE2⟩
  refine ldAt (pre := []) (post := [.slice ap ps.length cp]) Tryz.underlying23 rfl hB5 rfl ?_
  simp only [↓VD, VP, VT, isAggD, reduceCtorEq, Int.reduceEq, Int.reduceNe, Int.reduceLT, Int.reduceLE, implies_true, Nat.reduceEqDiff, reduceIte, ite_true, ite_false, eq_self, Nat.reduceLT, Nat.reduceLeDiff, Nat.reduceAdd, Nat.reduceMul, Nat.reduceSub, intOf]
  refine loopT (fun s' w' => Ext w2 w' ∧ ∃ i : Nat, i ≤ ss.length ∧ s' 0 = .int .i64 n ∧ s' 4 = .pointer (some ⟨w.heap.size, 0, none⟩) ∧ s' 5 = .pointer (some ⟨b5, 0, none⟩) ∧ s' 19 = .slice a ss.length c ∧ s' 20 = .int .i64 ss.length ∧ s' 21 = .int .i64 i ∧
      ∀ j s, j < i → ss[j]? = some s → stepOk n k j (j + 1 = ss.length) ps.length s.bm s.ks.length) (fun s' _ => ss.length - (intOf (s' 21)).toNat) ?_ ?_
  · simp only [↓VD, VP, VT, isAggD, reduceCtorEq, Int.reduceEq, Int.reduceNe, Int.reduceLT, Int.reduceLE, implies_true, Nat.reduceEqDiff, reduceIte, ite_true, ite_false, eq_self, Nat.reduceLT, Nat.reduceLeDiff, Nat.reduceAdd, Nat.reduceMul, Nat.reduceSub, intOf]
    exact ⟨Ext.rfl' w2, 0, by omega, rfl, fun j s h => by omega⟩
  · rintro s3 w3 ⟨hE3, i, hi, h0, h4, h5, h19, h20, h21, hz⟩
    simp only [↓VD, VP, VT, isAggD, reduceCtorEq, Int.reduceEq, Int.reduceNe, Int.reduceLT, Int.reduceLE, implies_true, Nat.reduceEqDiff, reduceIte, ite_true, ite_false, eq_self, Nat.reduceLT, Nat.reduceLeDiff, Nat.reduceAdd, Nat.reduceMul, Nat.reduceSub, intOf, h0, h4, h5, h19, h20, h21]
    refine ⟨fun hlt => ?_, fun hge => ?_⟩
    · have hlt' : i < ss.length := by omega
      rcases hc with hc | ⟨b, o, rfl, hc⟩
      · exfalso
        cases ss with
        | nil => simp at hlt'
        | cons d ds => simp [SR.cells] at hc
      obtain ⟨x, hx⟩ : ∃ x, ss[i]? = some x := ⟨_, List.getElem?_eq_getElem hlt'⟩
      obtain ⟨hbm, hdk⟩ := hss x (List.mem_of_getElem? hx)
      have hc1 : ∀ j u, (ss.flatMap SR.cells)[j]? = some u → w3.cell? ⟨b, o + j, none⟩ = some u := fun j u hj => by rw [hE3.cell (block_lt_of_cell (hE2.cell (block_lt_of_cell (hc j u hj)) ▸ hc j u hj)), hE2.cell (block_lt_of_cell (hc j u hj))]; exact hc j u hj
      simp only [↓VD, VP, VT, isAggD, reduceCtorEq, Int.reduceEq, Int.reduceNe, Int.reduceLT, Int.reduceLE, implies_true, Nat.reduceEqDiff, reduceIte, ite_true, ite_false, eq_self, Nat.reduceLT, Nat.reduceLeDiff, Nat.reduceAdd, Nat.reduceMul, Nat.reduceSub, intOf]
      refine ⟨by omega, by omega, ldE (f := SR.cells) c51 Tryz.underlying51 rfl (fun d h => rfl) hc1 hx ?_⟩
      simp only [↓VD, VP, VT, isAggD, reduceCtorEq, Int.reduceEq, Int.reduceNe, Int.reduceLT, Int.reduceLE, implies_true, Nat.reduceEqDiff, reduceIte, ite_true, ite_false, eq_self, Nat.reduceLT, Nat.reduceLeDiff, Nat.reduceAdd, Nat.reduceMul, Nat.reduceSub, intOf]
      intro w4 hN4
      obtain ⟨ak, ck, hkv⟩ := slv_of hdk.2
      refine stAll hN4.blk (vs := x.cells) rfl (by rw [c51]; decide) (by rw [c51]; rfl) (by rw [c51]; rfl) (by rw [SR.cells, hkv]; simp [oneCellV]) (fun w5 hP5 => ?_)
      simp only [↓VD, VP, VT, isAggD, reduceCtorEq, Int.reduceEq, Int.reduceNe, Int.reduceLT, Int.reduceLE, implies_true, Nat.reduceEqDiff, reduceIte, ite_true, ite_false, eq_self, Nat.reduceLT, Nat.reduceLeDiff, Nat.reduceAdd, Nat.reduceMul, Nat.reduceSub, intOf, h0, h4, h5, h19, h20, h21]
      have hE5 : Ext w2 w5 := hE3.trans' (hN4.ext.trans (hP5.below (Nat.le_refl _)))
      have hE5' : Ext w w5 := hE2.trans' hE5
      obtain ⟨kv, bm, ks⟩ := x
      simp only at hkv hdk hbm
      subst hkv
      have hkl : ks.length ≤ 9223372036854775807 := by
        obtain ⟨_, _, _, e, h1, h2, _⟩ := hdk
        cases e
        omega
      have hB8 : Blk w5 w3.heap.size 51 [.int .u16 bm, .slice ak ks.length ck] := hP5.blk
      replace hB4 := hB4.ext hE5
      replace hB5 := hB5.ext hE5
      have s3 := hE3.size
      generalize w3.heap.size = b8 at *
      refine ldAt (pre := []) (post := [.slice ak ks.length ck]) Tryz.underlying48 rfl hB8 rfl ?_
      simp only [↓VD, VP, VT, isAggD, reduceCtorEq, Int.reduceEq, Int.reduceNe, Int.reduceLT, Int.reduceLE, implies_true, Nat.reduceEqDiff, reduceIte, ite_true, ite_false, eq_self, Nat.reduceLT, Nat.reduceLeDiff, Nat.reduceAdd, Nat.reduceMul, Nat.reduceSub, intOf, h0, h4, h5, h19, h20, h21]
      refine (Count_ok bm hbm w5).mono ?_
      rintro _ w6 ⟨rfl, hE6⟩
      simp only [↓VD, VP, VT, isAggD, reduceCtorEq, Int.reduceEq, Int.reduceNe, Int.reduceLT, Int.reduceLE, implies_true, Nat.reduceEqDiff, reduceIte, ite_true, ite_false, eq_self, Nat.reduceLT, Nat.reduceLeDiff, Nat.reduceAdd, Nat.reduceMul, Nat.reduceSub, intOf, h0, h4, h5, h19, h20, h21]
      refine ldAt (pre := []) (post := [.slice ap ps.length cp]) Tryz.underlying23 rfl (hB5.ext hE6) rfl ?_
      have hl1 : IntKind.i64.wrap ((ss.length : Int) - 1) = ((ss.length - 1 : Nat) : Int) := by rw [w64 (by omega) (by omega)]; omega
      simp only [↓VD, VP, VT, isAggD, reduceCtorEq, Int.reduceEq, Int.reduceNe, Int.reduceLT, Int.reduceLE, implies_true, Nat.reduceEqDiff, reduceIte, ite_true, ite_false, eq_self, Nat.reduceLT, Nat.reduceLeDiff, Nat.reduceAdd, Nat.reduceMul, Nat.reduceSub, intOf, h0, h4, h5, h19, h20, h21, hl1]
      refine drawT mixed (by decide +kernel) ?_
      simp only [↓VD, VP, VT, isAggD, reduceCtorEq, Int.reduceEq, Int.reduceNe, Int.reduceLT, Int.reduceLE, implies_true, Nat.reduceEqDiff, reduceIte, ite_true, ite_false, eq_self, Nat.reduceLT, Nat.reduceLeDiff, Nat.reduceAdd, Nat.reduceMul, Nat.reduceSub, intOf, h0, h4, h5, h19, h20, h21]
      refine ldAt (pre := []) (post := [.slice ak ks.length ck]) Tryz.underlying48 rfl (hB8.ext hE6) rfl ?_
      simp only [↓VD, VP, VT, isAggD, reduceCtorEq, Int.reduceEq, Int.reduceNe, Int.reduceLT, Int.reduceLE, implies_true, Nat.reduceEqDiff, reduceIte, ite_true, ite_false, eq_self, Nat.reduceLT, Nat.reduceLeDiff, Nat.reduceAdd, Nat.reduceMul, Nat.reduceSub, intOf, h0, h4, h5, h19, h20, h21]
      refine ldA Tryz.underlying28 rfl (hB4.ext hE6) (by rw [vbs_len, hk, c28]) ?_
      simp only [↓VD, VP, VT, isAggD, reduceCtorEq, Int.reduceEq, Int.reduceNe, Int.reduceLT, Int.reduceLE, implies_true, Nat.reduceEqDiff, reduceIte, ite_true, ite_false, eq_self, Nat.reduceLT, Nat.reduceLeDiff, Nat.reduceAdd, Nat.reduceMul, Nat.reduceSub, intOf, h0, h4, h5, h19, h20, h21]
      refine qcall _ (fun w' _ => child_ok n k hk i w') ?_
      simp only [↓VD, VP, VT, isAggD, reduceCtorEq, Int.reduceEq, Int.reduceNe, Int.reduceLT, Int.reduceLE, implies_true, Nat.reduceEqDiff, reduceIte, ite_true, ite_false, eq_self, Nat.reduceLT, Nat.reduceLeDiff, Nat.reduceAdd, Nat.reduceMul, Nat.reduceSub, intOf, h0, h4, h5, h19, h20, h21]
      refine qcall _ (fun w' _ => Has_ok bm hbm (atP n k i).1 w') ?_
      simp only [↓VD, VP, VT, isAggD, reduceCtorEq, Int.reduceEq, Int.reduceNe, Int.reduceLT, Int.reduceLE, implies_true, Nat.reduceEqDiff, reduceIte, ite_true, ite_false, eq_self, Nat.reduceLT, Nat.reduceLeDiff, Nat.reduceAdd, Nat.reduceMul, Nat.reduceSub, intOf, h0, h4, h5, h19, h20, h21]
      intro w7 hE7
      have hA8 := (hB8.ext hE6).ext hE7
      have hA5 := (hB5.ext hE6).ext hE7
      have hc16 : cntB bm ≤ 16 := by have := List.length_filter_le (fun j => bm.testBit j) (List.range 16); simpa [cntB, setB] using this
      refine ⟨fun h0c => ?_, fun hcn => ?_⟩
      · refine ⟨⟨False.elim, fun hP => ?_⟩, hE5'.trans' (hE6.trans' hE7)⟩
        have hq := hP.2 i _ hx
        exact hq.1 (show cntB bm = 0 from by omega)
      have hcw : IntKind.i64.wrap ((cntB bm : Int) - 1) = ((cntB bm - 1 : Nat) : Int) := by rw [w64 (by omega) (by omega)]; omega
      have hcn' : cntB bm ≠ 0 := fun h => hcn (by omega)
      cases hh : hasB bm (atP n k i).1
      · by_cases hl : i + 1 = ss.length
        · have hli : ((i : Int) = ((ss.length - 1 : Nat) : Int)) = True := eq_true (by omega)
          simp only [↓VD, VP, VT, isAggD, reduceCtorEq, Int.reduceEq, Int.reduceNe, Int.reduceLT, Int.reduceLE, implies_true, Nat.reduceEqDiff, reduceIte, ite_true, ite_false, eq_self, Nat.reduceLT, Nat.reduceLeDiff, Nat.reduceAdd, Nat.reduceMul, Nat.reduceSub, intOf, h0, h4, h5, h19, h20, h21, hh, hli, hcw]
          refine ldAt (pre := [.int .u16 bm]) (post := []) Tryz.underlying49 rfl hA8 rfl ?_
          by_cases hkc : ks.length = cntB bm
          · have hk1 : ((ks.length : Int) = (cntB bm : Int)) = True := eq_true (by omega)
            simp only [↓VD, VP, VT, isAggD, reduceCtorEq, Int.reduceEq, Int.reduceNe, Int.reduceLT, Int.reduceLE, implies_true, Nat.reduceEqDiff, reduceIte, ite_true, ite_false, eq_self, Nat.reduceLT, Nat.reduceLeDiff, Nat.reduceAdd, Nat.reduceMul, Nat.reduceSub, intOf, h0, h4, h5, h19, h20, h21, hh, hli, hcw, hk1]
            refine ldAt (pre := [.slice (some ⟨b, o, none⟩) ss.length c]) (post := []) Tryz.underlying24 rfl hA5 rfl ?_
            by_cases hnp : ps.length = 0
            · have hp1 : (0 < (ps.length : Int)) = False := eq_false (by omega)
              simp only [↓VD, VP, VT, isAggD, reduceCtorEq, Int.reduceEq, Int.reduceNe, Int.reduceLT, Int.reduceLE, implies_true, Nat.reduceEqDiff, reduceIte, ite_true, ite_false, eq_self, Nat.reduceLT, Nat.reduceLeDiff, Nat.reduceAdd, Nat.reduceMul, Nat.reduceSub, intOf, h0, h4, h5, h19, h20, h21, hh, hli, hcw, hk1, hp1]
              refine ldAt (pre := [.slice (some ⟨b, o, none⟩) ss.length c]) (post := []) Tryz.underlying24 rfl hA5 rfl ?_
              simp only [↓VD, VP, VT, isAggD, reduceCtorEq, Int.reduceEq, Int.reduceNe, Int.reduceLT, Int.reduceLE, implies_true, Nat.reduceEqDiff, reduceIte, ite_true, ite_false, eq_self, Nat.reduceLT, Nat.reduceLeDiff, Nat.reduceAdd, Nat.reduceMul, Nat.reduceSub, intOf, h0, h4, h5, h19, h20, h21, hh, hli, hcw, hk1, hp1]
              refine ⟨⟨hE5.trans' (hE6.trans' hE7), i + 1, by omega, ?_, fun j s hj hs' => ?_⟩, ?_⟩
              · rw [w64 (by omega) (by omega)]; rfl
              · by_cases hji : j < i
                · exact hz j s hji hs'
                · obtain rfl : j = i := by omega
                  rw [hx] at hs'
                  cases hs'
                  exact ⟨hcn', fun h => by simp [hh] at h, fun _ => ⟨hl, hkc, hnp⟩, fun h => by omega⟩
              · rw [w64 (by omega) (by omega)]; omega
            · have hp1 : (0 < (ps.length : Int)) = True := eq_true (by omega)
              simp only [↓VD, VP, VT, isAggD, reduceCtorEq, Int.reduceEq, Int.reduceNe, Int.reduceLT, Int.reduceLE, implies_true, Nat.reduceEqDiff, reduceIte, ite_true, ite_false, eq_self, Nat.reduceLT, Nat.reduceLeDiff, Nat.reduceAdd, Nat.reduceMul, Nat.reduceSub, intOf, h0, h4, h5, h19, h20, h21, hh, hli, hcw, hk1, hp1]
              refine ⟨⟨False.elim, fun hP => ?_⟩, hE5'.trans' (hE6.trans' hE7)⟩
              have hq := hP.2 i _ hx
              exact hnp (hq.2.2.1 hh).2.2
          · have hk1 : ((ks.length : Int) = (cntB bm : Int)) = False := eq_false (by omega)
            simp only [↓VD, VP, VT, isAggD, reduceCtorEq, Int.reduceEq, Int.reduceNe, Int.reduceLT, Int.reduceLE, implies_true, Nat.reduceEqDiff, reduceIte, ite_true, ite_false, eq_self, Nat.reduceLT, Nat.reduceLeDiff, Nat.reduceAdd, Nat.reduceMul, Nat.reduceSub, intOf, h0, h4, h5, h19, h20, h21, hh, hli, hcw, hk1]
            refine ⟨⟨False.elim, fun hP => ?_⟩, hE5'.trans' (hE6.trans' hE7)⟩
            have hq := hP.2 i _ hx
            exact hkc (hq.2.2.1 hh).2.1
        · have hli : ((i : Int) = ((ss.length - 1 : Nat) : Int)) = False := eq_false (by omega)
          simp only [↓VD, VP, VT, isAggD, reduceCtorEq, Int.reduceEq, Int.reduceNe, Int.reduceLT, Int.reduceLE, implies_true, Nat.reduceEqDiff, reduceIte, ite_true, ite_false, eq_self, Nat.reduceLT, Nat.reduceLeDiff, Nat.reduceAdd, Nat.reduceMul, Nat.reduceSub, intOf, h0, h4, h5, h19, h20, h21, hh, hli, hcw]
          refine ⟨⟨False.elim, fun hP => ?_⟩, hE5'.trans' (hE6.trans' hE7)⟩
          have hq := hP.2 i _ hx
          exact hl (hq.2.2.1 hh).1
      · simp only [↓VD, VP, VT, isAggD, reduceCtorEq, Int.reduceEq, Int.reduceNe, Int.reduceLT, Int.reduceLE, implies_true, Nat.reduceEqDiff, reduceIte, ite_true, ite_false, eq_self, Nat.reduceLT, Nat.reduceLeDiff, Nat.reduceAdd, Nat.reduceMul, Nat.reduceSub, intOf, h0, h4, h5, h19, h20, h21, hh, hcw]
        refine ldAt (pre := [.int .u16 bm]) (post := []) Tryz.underlying49 rfl hA8 rfl ?_
        by_cases hkc : ks.length + 1 = cntB bm
        · have hk1 : ((ks.length : Int) = ((cntB bm - 1 : Nat) : Int)) = True := eq_true (by omega)
          by_cases hl : i + 1 = ss.length
          · have hli : ((i : Int) = ((ss.length - 1 : Nat) : Int)) = True := eq_true (by omega)
            simp only [↓VD, VP, VT, isAggD, reduceCtorEq, Int.reduceEq, Int.reduceNe, Int.reduceLT, Int.reduceLE, implies_true, Nat.reduceEqDiff, reduceIte, ite_true, ite_false, eq_self, Nat.reduceLT, Nat.reduceLeDiff, Nat.reduceAdd, Nat.reduceMul, Nat.reduceSub, intOf, h0, h4, h5, h19, h20, h21, hh, hli, hcw, hk1]
            refine ldAt (pre := [.slice (some ⟨b, o, none⟩) ss.length c]) (post := []) Tryz.underlying24 rfl hA5 rfl ?_
            by_cases hnp : ps.length = 0
            · have hp1 : ((ps.length : Int) = 0) = True := eq_true (by omega)
              simp only [↓VD, VP, VT, isAggD, reduceCtorEq, Int.reduceEq, Int.reduceNe, Int.reduceLT, Int.reduceLE, implies_true, Nat.reduceEqDiff, reduceIte, ite_true, ite_false, eq_self, Nat.reduceLT, Nat.reduceLeDiff, Nat.reduceAdd, Nat.reduceMul, Nat.reduceSub, intOf, h0, h4, h5, h19, h20, h21, hh, hli, hcw, hk1, hp1]
              refine ⟨⟨False.elim, fun hP => ?_⟩, hE5'.trans' (hE6.trans' hE7)⟩
              have hq := hP.2 i _ hx
              exact (hq.2.1 hh).2 ⟨hl, hnp⟩
            · have hp1 : ((ps.length : Int) = 0) = False := eq_false (by omega)
              have hp2 : (0 < (ps.length : Int)) = True := eq_true (by omega)
              simp only [↓VD, VP, VT, isAggD, reduceCtorEq, Int.reduceEq, Int.reduceNe, Int.reduceLT, Int.reduceLE, implies_true, Nat.reduceEqDiff, reduceIte, ite_true, ite_false, eq_self, Nat.reduceLT, Nat.reduceLeDiff, Nat.reduceAdd, Nat.reduceMul, Nat.reduceSub, intOf, h0, h4, h5, h19, h20, h21, hh, hli, hcw, hk1, hp1]
              refine ldAt (pre := [.slice (some ⟨b, o, none⟩) ss.length c]) (post := []) Tryz.underlying24 rfl hA5 rfl ?_
              by_cases hc1' : cntB bm = 1
              · have hp3 : ((cntB bm : Int) = 1) = True := eq_true (by omega)
                simp only [↓VD, VP, VT, isAggD, reduceCtorEq, Int.reduceEq, Int.reduceNe, Int.reduceLT, Int.reduceLE, implies_true, Nat.reduceEqDiff, reduceIte, ite_true, ite_false, eq_self, Nat.reduceLT, Nat.reduceLeDiff, Nat.reduceAdd, Nat.reduceMul, Nat.reduceSub, intOf, h0, h4, h5, h19, h20, h21, hh, hli, hcw, hk1, hp1, hp2, hp3]
                refine ⟨⟨False.elim, fun hP => ?_⟩, hE5'.trans' (hE6.trans' hE7)⟩
                have hq := hP.2 i _ hx
                exact hq.2.2.2 ⟨hl, by omega, hc1'⟩
              · have hp3 : ((cntB bm : Int) = 1) = False := eq_false (by omega)
                simp only [↓VD, VP, VT, isAggD, reduceCtorEq, Int.reduceEq, Int.reduceNe, Int.reduceLT, Int.reduceLE, implies_true, Nat.reduceEqDiff, reduceIte, ite_true, ite_false, eq_self, Nat.reduceLT, Nat.reduceLeDiff, Nat.reduceAdd, Nat.reduceMul, Nat.reduceSub, intOf, h0, h4, h5, h19, h20, h21, hh, hli, hcw, hk1, hp1, hp2, hp3]
                refine ⟨⟨hE5.trans' (hE6.trans' hE7), i + 1, by omega, ?_, fun j s hj hs' => ?_⟩, ?_⟩
                · rw [w64 (by omega) (by omega)]; rfl
                · by_cases hji : j < i
                  · exact hz j s hji hs'
                  · obtain rfl : j = i := by omega
                    rw [hx] at hs'
                    cases hs'
                    exact ⟨hcn', fun _ => ⟨hkc, fun h => hnp h.2⟩, fun h => by simp [hh] at h, fun h => hc1' h.2.2⟩
                · rw [w64 (by omega) (by omega)]; omega
          · have hli : ((i : Int) = ((ss.length - 1 : Nat) : Int)) = False := eq_false (by omega)
            simp only [↓VD, VP, VT, isAggD, reduceCtorEq, Int.reduceEq, Int.reduceNe, Int.reduceLT, Int.reduceLE, implies_true, Nat.reduceEqDiff, reduceIte, ite_true, ite_false, eq_self, Nat.reduceLT, Nat.reduceLeDiff, Nat.reduceAdd, Nat.reduceMul, Nat.reduceSub, intOf, h0, h4, h5, h19, h20, h21, hh, hli, hcw, hk1]
            refine ⟨⟨hE5.trans' (hE6.trans' hE7), i + 1, by omega, ?_, fun j s hj hs' => ?_⟩, ?_⟩
            · rw [w64 (by omega) (by omega)]; rfl
            · by_cases hji : j < i
              · exact hz j s hji hs'
              · obtain rfl : j = i := by omega
                rw [hx] at hs'
                cases hs'
                exact ⟨hcn', fun _ => ⟨hkc, fun h => hl h.1⟩, fun h => by simp [hh] at h, fun h => hl h.1⟩
            · rw [w64 (by omega) (by omega)]; omega
        · have hk1 : ((ks.length : Int) = ((cntB bm - 1 : Nat) : Int)) = False := eq_false (by omega)
          simp only [↓VD, VP, VT, isAggD, reduceCtorEq, Int.reduceEq, Int.reduceNe, Int.reduceLT, Int.reduceLE, implies_true, Nat.reduceEqDiff, reduceIte, ite_true, ite_false, eq_self, Nat.reduceLT, Nat.reduceLeDiff, Nat.reduceAdd, Nat.reduceMul, Nat.reduceSub, intOf, h0, h4, h5, h19, h20, h21, hh, hcw, hk1]
          refine ⟨⟨False.elim, fun hP => ?_⟩, hE5'.trans' (hE6.trans' hE7)⟩
          have hq := hP.2 i _ hx
          exact hkc (hq.2.1 hh).1
    · refine ⟨⟨fun _ => ⟨by omega, fun j s hs' => hz j s ?_ hs'⟩, fun _ => trivial⟩, hE2.trans' hE3⟩
      have := (List.getElem?_eq_some_iff.1 hs').1
      omega
    

end Go.Proofs.YtebbgninkbghlaaGreatDoor

/-! HckC -/
namespace Go.Proofs.YtebbgninkbghlaaGreatDoor
set_option maxRecDepth 100000
open Go Go.RowKit
set_option linter.unusedVariables false
set_option linter.unusedSimpArgs false


/-- A field of an element of a slice. -/
theorem ldF {α : Type} {f : α → List Value} {P : Program} {T : TypeId} {w : World} {b o i j sz q : Nat} {K : Value → Prop} {ds : List α} {x : α} {d : TypeDesc} {v : Value} (hu : P.underlying T = some d) (ha : isAggD d = false)
    (hs : ∀ d ∈ ds, (f d).length = sz) (hc : ∀ j u, (ds.flatMap f)[j]? = some u → w.cell? ⟨b, o + j, none⟩ = some u) (hi : ds[i]? = some x) (hj : (f x)[j]? = some v) (hq : q = o + (i * sz + j)) (hK : K v) : vcLoad P T w b q K := by
  subst hq
  exact ld1 hu ha (hc _ _ (flat_get ds i x hs hi j v hj)) hK
def pairOk (n : Int) (k : List UInt8) (nst : Nat) (ps : List PR) (i : Nat) (a : PR) : Prop :=
  a.k.length ≤ 64 ∧ a.v.length ≤ 256 ∧ (∀ p, 0 < i → ps[i - 1]? = some p → Lib.compareBytes p.k a.k < 0) ∧ (∀ p, ps[0]? = some p → keyD n a.k = keyD n p.k) ∧ (nst : Int) ≤ (comPP n k (keyD n a.k)).1
def pairsP (n : Int) (k : List UInt8) (nst : Nat) (ps : List PR) : Prop := ∀ i a, ps[i]? = some a → pairOk n k nst ps i a

theorem bucket_ok (n : Int) (k : List UInt8) (hk : k.length = 32) (sv pv : Value) (ss : List SR) (ps : List PR) (w : World) (hW : WordsAt w 1) (hs : StepsAt w sv ss) (hp : PairsAt w pv ps) (hpl : ∀ p ∈ ps, p.k.length + 1 ≤ 140737488355328) :
    CallK Tryz.prog 75 [.int .i64 n, .agg (vbs k).toArray, .agg [sv, pv].toArray].toArray w fun v w' => ∃ t, v = .bool t ∧ (t = true ↔ pairsP n k ss.length ps) ∧ Ext w w' := by
  obtain ⟨⟨a, c, rfl, hnc, hcm, hc⟩, hpp⟩ := hp
  obtain ⟨sa, cs, rfl⟩ := slv_of hs.1
  have hsc : ss.length ≤ cs ∧ cs ≤ 9223372036854775807 := by
    obtain ⟨_, _, e, h1, h2, _⟩ := hs.1
    cases e
    exact ⟨h1, h2⟩
  refine enterT Tryz.func75 rfl Tryz.ntmps75 Tryz.results75 rfl (by decide) ?_
  simp only [↓VD, VP, VT, isAggD, reduceCtorEq, Int.reduceEq, Int.reduceNe, Int.reduceLT, Int.reduceLE, implies_true, Nat.reduceEqDiff, reduceIte, ite_true, ite_false, eq_self, Nat.reduceLT, Nat.reduceLeDiff, Nat.reduceAdd, Nat.reduceMul, Nat.reduceSub, intOf]
  intro w1 hN1 w2 hN2
  have s1 := hN1.size
  have s2 := hN2.size
  have hB4 := hN1.blk.ext hN2.ext
  have hB5 := hN2.blk
  have hE2 : Ext w w2 := hN1.ext.trans' hN2.ext
  generalize w1.heap.size = b5 at *
  refine ldAt (pre := [.slice sa ss.length cs]) (post := []) Tryz.underlying24 rfl hB5 rfl ?_
  simp only [↓VD, VP, VT, isAggD, reduceCtorEq, Int.reduceEq, Int.reduceNe, Int.reduceLT, Int.reduceLE, implies_true, Nat.reduceEqDiff, reduceIte, ite_true, ite_false, eq_self, Nat.reduceLT, Nat.reduceLeDiff, Nat.reduceAdd, Nat.reduceMul, Nat.reduceSub, intOf]
  refine loopT (fun s' w' => Ext w2 w' ∧ ∃ i : Nat, i ≤ ps.length ∧ s' 0 = .int .i64 n ∧ s' 4 = .pointer (some ⟨w.heap.size, 0, none⟩) ∧ s' 5 = .pointer (some ⟨b5, 0, none⟩) ∧ s' 16 = .slice a ps.length c ∧ s' 17 = .int .i64 ps.length ∧ s' 18 = .int .i64 i ∧
      ∀ j s, j < i → ps[j]? = some s → pairOk n k ss.length ps j s) (fun s' _ => ps.length - (intOf (s' 18)).toNat) ?_ ?_
  · simp only [↓VD, VP, VT, isAggD, reduceCtorEq, Int.reduceEq, Int.reduceNe, Int.reduceLT, Int.reduceLE, implies_true, Nat.reduceEqDiff, reduceIte, ite_true, ite_false, eq_self, Nat.reduceLT, Nat.reduceLeDiff, Nat.reduceAdd, Nat.reduceMul, Nat.reduceSub, intOf]
    exact ⟨Ext.rfl' w2, 0, by omega, rfl, fun j s h => by omega⟩
  · rintro s3 w3 ⟨hE3, i, hi, h0, h4, h5, h16, h17, h18, hz⟩
    simp only [↓VD, VP, VT, isAggD, reduceCtorEq, Int.reduceEq, Int.reduceNe, Int.reduceLT, Int.reduceLE, implies_true, Nat.reduceEqDiff, reduceIte, ite_true, ite_false, eq_self, Nat.reduceLT, Nat.reduceLeDiff, Nat.reduceAdd, Nat.reduceMul, Nat.reduceSub, intOf, h0, h4, h5, h16, h17, h18]
    refine ⟨fun hlt => ?_, fun hge => ?_⟩
    · have hlt' : i < ps.length := by omega
      rcases hc with hc | ⟨b, o, rfl, hc⟩
      · exfalso
        cases ps with
        | nil => simp at hlt'
        | cons d ds => simp [PR.cells] at hc
      obtain ⟨x, hx⟩ : ∃ x, ps[i]? = some x := ⟨_, List.getElem?_eq_getElem hlt'⟩
      obtain ⟨hxk, hxv⟩ := hpp x (List.mem_of_getElem? hx)
      have hcW : ∀ {W : World}, Ext w2 W → ∀ j u, (ps.flatMap PR.cells)[j]? = some u → W.cell? ⟨b, o + j, none⟩ = some u := fun hE j u hj => by rw [(hE2.trans' hE).cell (block_lt_of_cell (hc j u hj))]; exact hc j u hj
      simp only [↓VD, VP, VT, isAggD, reduceCtorEq, Int.reduceEq, Int.reduceNe, Int.reduceLT, Int.reduceLE, implies_true, Nat.reduceEqDiff, reduceIte, ite_true, ite_false, eq_self, Nat.reduceLT, Nat.reduceLeDiff, Nat.reduceAdd, Nat.reduceMul, Nat.reduceSub, intOf]
      refine ⟨by omega, by omega, ldE (f := PR.cells) c47 Tryz.underlying47 rfl (fun d h => rfl) (hcW hE3) hx ?_⟩
      simp only [↓VD, VP, VT, isAggD, reduceCtorEq, Int.reduceEq, Int.reduceNe, Int.reduceLT, Int.reduceLE, implies_true, Nat.reduceEqDiff, reduceIte, ite_true, ite_false, eq_self, Nat.reduceLT, Nat.reduceLeDiff, Nat.reduceAdd, Nat.reduceMul, Nat.reduceSub, intOf]
      intro w4 hN4
      obtain ⟨ak, ck, hkv⟩ := slv_of hxk
      obtain ⟨av, cv, hvv⟩ := slv_of hxv
      refine stAll hN4.blk (vs := x.cells) rfl (by rw [c47]; decide) (by rw [c47]; rfl) (by rw [c47]; rfl) (by rw [PR.cells, hkv, hvv]; simp [oneCellV]) (fun w5 hP5 => ?_)
      simp only [↓VQ, VP, VT, isAggD, reduceCtorEq, Int.reduceEq, Int.reduceNe, Int.reduceLT, Int.reduceLE, implies_true, Nat.reduceEqDiff, reduceIte, ite_true, ite_false, eq_self, Nat.reduceLT, Nat.reduceLeDiff, Nat.reduceAdd, Nat.reduceMul, Nat.reduceSub, intOf, h0, h4, h5, h16, h17, h18]
      have hE5 : Ext w2 w5 := hE3.trans' (hN4.ext.trans (hP5.below (Nat.le_refl _)))
      have hE5' : Ext w w5 := hE2.trans' hE5
      obtain ⟨kv, vv, xk, xv⟩ := x
      simp only at hkv hvv hxk hxv
      subst hkv hvv
      have hB8 : Blk w5 w3.heap.size 47 [.slice ak xk.length ck, .slice av xv.length cv] := hP5.blk
      replace hB4 := hB4.ext hE5
      replace hB5 := hB5.ext hE5
      have s3 := hE3.size
      generalize w3.heap.size = b8 at *
      have hxl : xk.length ≤ 9223372036854775807 := by
        obtain ⟨_, _, e, h1, h2, _⟩ := hxk
        cases e
        omega
      rw [v_seq]
      refine joinT (fun s' W' => Ext w5 W' ∧ s' 0 = .int .i64 n ∧ s' 4 = .pointer (some ⟨w.heap.size, 0, none⟩) ∧ s' 5 = .pointer (some ⟨b5, 0, none⟩) ∧ s' 8 = .pointer (some ⟨b8, 0, none⟩) ∧ s' 16 = .slice (some ⟨b, o, none⟩) ps.length c ∧ s' 17 = .int .i64 ps.length ∧ s' 18 = .int .i64 i ∧
        xk.length ≤ 64 ∧ xv.length ≤ 256 ∧ ∀ p, 0 < i → ps[i - 1]? = some p → Lib.compareBytes p.k xk < 0) ?_ ?_
      · simp only [↓VD, VP, VT, isAggD, reduceCtorEq, Int.reduceEq, Int.reduceNe, Int.reduceLT, Int.reduceLE, implies_true, Nat.reduceEqDiff, reduceIte, ite_true, ite_false, eq_self, Nat.reduceLT, Nat.reduceLeDiff, Nat.reduceAdd, Nat.reduceMul, Nat.reduceSub, intOf, h0, h4, h5, h16, h17, h18]
        refine drawT mixed (by decide +kernel) ?_
        simp only [↓VD, VP, VT, isAggD, reduceCtorEq, Int.reduceEq, Int.reduceNe, Int.reduceLT, Int.reduceLE, implies_true, Nat.reduceEqDiff, reduceIte, ite_true, ite_false, eq_self, Nat.reduceLT, Nat.reduceLeDiff, Nat.reduceAdd, Nat.reduceMul, Nat.reduceSub, intOf, h0, h4, h5, h16, h17, h18]
        refine ldAt (pre := []) (post := [.slice av xv.length cv]) Tryz.underlying22 rfl hB8 rfl ?_
        by_cases hk1 : 64 < xk.length
        · have f1 : (64 < (xk.length : Int)) = True := eq_true (by omega)
          simp only [↓VD, VP, VT, isAggD, reduceCtorEq, Int.reduceEq, Int.reduceNe, Int.reduceLT, Int.reduceLE, implies_true, Nat.reduceEqDiff, reduceIte, ite_true, ite_false, eq_self, Nat.reduceLT, Nat.reduceLeDiff, Nat.reduceAdd, Nat.reduceMul, Nat.reduceSub, intOf, h0, h4, h5, h16, h17, h18, f1]
          intro w6 hE6
          refine ⟨⟨False.elim, fun hP => ?_⟩, hE5'.trans' hE6⟩
          have := (hP i _ hx).1
          simp only at this
          omega
        · have f1 : (64 < (xk.length : Int)) = False := eq_false (by omega)
          simp only [↓VD, VP, VT, isAggD, reduceCtorEq, Int.reduceEq, Int.reduceNe, Int.reduceLT, Int.reduceLE, implies_true, Nat.reduceEqDiff, reduceIte, ite_true, ite_false, eq_self, Nat.reduceLT, Nat.reduceLeDiff, Nat.reduceAdd, Nat.reduceMul, Nat.reduceSub, intOf, h0, h4, h5, h16, h17, h18, f1]
          refine ldAt (pre := [.slice ak xk.length ck]) (post := []) Tryz.underlying22 rfl hB8 rfl ?_
          by_cases hv1 : 256 < xv.length
          · have f2 : (256 < (xv.length : Int)) = True := eq_true (by omega)
            simp only [↓VD, VP, VT, isAggD, reduceCtorEq, Int.reduceEq, Int.reduceNe, Int.reduceLT, Int.reduceLE, implies_true, Nat.reduceEqDiff, reduceIte, ite_true, ite_false, eq_self, Nat.reduceLT, Nat.reduceLeDiff, Nat.reduceAdd, Nat.reduceMul, Nat.reduceSub, intOf, h0, h4, h5, h16, h17, h18, f1, f2]
            intro w6 hE6
            refine ⟨⟨False.elim, fun hP => ?_⟩, hE5'.trans' hE6⟩
            have := (hP i _ hx).2.1
            simp only at this
            omega
          · have f2 : (256 < (xv.length : Int)) = False := eq_false (by omega)
            by_cases hi0 : i = 0
            · have f3 : (0 < (i : Int)) = False := eq_false (by omega)
              simp only [↓VD, VP, VT, isAggD, reduceCtorEq, Int.reduceEq, Int.reduceNe, Int.reduceLT, Int.reduceLE, implies_true, Nat.reduceEqDiff, reduceIte, ite_true, ite_false, eq_self, Nat.reduceLT, Nat.reduceLeDiff, Nat.reduceAdd, Nat.reduceMul, Nat.reduceSub, intOf, h0, h4, h5, h16, h17, h18, f1, f2, f3]
              intro w6 hE6
              exact ⟨hE6, by omega, by omega, fun p h => by omega⟩
            · have f3 : (0 < (i : Int)) = True := eq_true (by omega)
              have f4 : IntKind.i64.wrap ((i : Int) - 1) = ((i - 1 : Nat) : Int) := by rw [w64 (by omega) (by omega)]; omega
              obtain ⟨y, hy⟩ : ∃ y, ps[i - 1]? = some y := ⟨_, List.getElem?_eq_getElem (by omega)⟩
              obtain ⟨hyk, hyv⟩ := hpp y (List.mem_of_getElem? hy)
              simp only [↓VD, VP, VT, isAggD, reduceCtorEq, Int.reduceEq, Int.reduceNe, Int.reduceLT, Int.reduceLE, implies_true, Nat.reduceEqDiff, reduceIte, ite_true, ite_false, eq_self, Nat.reduceLT, Nat.reduceLeDiff, Nat.reduceAdd, Nat.reduceMul, Nat.reduceSub, intOf, h0, h4, h5, h16, h17, h18, f1, f2, f3]
              refine ldAt (pre := [.slice sa ss.length cs]) (post := []) Tryz.underlying24 rfl hB5 rfl ?_
              simp only [↓VD, VP, VT, isAggD, reduceCtorEq, Int.reduceEq, Int.reduceNe, Int.reduceLT, Int.reduceLE, implies_true, Nat.reduceEqDiff, reduceIte, ite_true, ite_false, eq_self, Nat.reduceLT, Nat.reduceLeDiff, Nat.reduceAdd, Nat.reduceMul, Nat.reduceSub, intOf, h0, h4, h5, h16, h17, h18, f1, f2, f3, f4]
              refine ⟨by omega, by omega, ldF (f := PR.cells) (sz := 2) (j := 0) Tryz.underlying22 rfl (fun d h => rfl) (hcW hE5) hy rfl (by omega) ?_⟩
              simp only [↓VD, VP, VT, isAggD, reduceCtorEq, Int.reduceEq, Int.reduceNe, Int.reduceLT, Int.reduceLE, implies_true, Nat.reduceEqDiff, reduceIte, ite_true, ite_false, eq_self, Nat.reduceLT, Nat.reduceLeDiff, Nat.reduceAdd, Nat.reduceMul, Nat.reduceSub, intOf, h0, h4, h5, h16, h17, h18, f1, f2, f3, f4]
              refine ldAt (pre := []) (post := [.slice av xv.length cv]) Tryz.underlying22 rfl hB8 rfl ?_
              obtain ⟨ay, cy, hye⟩ := slv_of hyk
              simp only [↓VD, VP, VT, isAggD, reduceCtorEq, Int.reduceEq, Int.reduceNe, Int.reduceLT, Int.reduceLE, implies_true, Nat.reduceEqDiff, reduceIte, ite_true, ite_false, eq_self, Nat.reduceLT, Nat.reduceLeDiff, Nat.reduceAdd, Nat.reduceMul, Nat.reduceSub, intOf, h0, h4, h5, h16, h17, h18, f1, f2, f3, f4, hye]
              refine qcall _ (fun w' hw' => (BCompare_ok y.k xk _ _ w' ((hye ▸ hyk).ext (hE5'.trans' hw')) (hxk.ext (hE5'.trans' hw'))).mono fun r w'' h => ⟨h.1, h.2 ▸ Ext.rfl' _⟩) ?_
              by_cases hcm1 : 0 ≤ Lib.compareBytes y.k xk
              · have f5 : (0 ≤ Lib.compareBytes y.k xk) = True := eq_true hcm1
                simp only [↓VD, VP, VT, isAggD, reduceCtorEq, Int.reduceEq, Int.reduceNe, Int.reduceLT, Int.reduceLE, implies_true, Nat.reduceEqDiff, reduceIte, ite_true, ite_false, eq_self, Nat.reduceLT, Nat.reduceLeDiff, Nat.reduceAdd, Nat.reduceMul, Nat.reduceSub, intOf, h0, h4, h5, h16, h17, h18, f1, f2, f3, f4, f5]
                intro w6 hE6
                refine ⟨⟨False.elim, fun hP => ?_⟩, hE5'.trans' hE6⟩
                have := (hP i _ hx).2.2.1 y (by omega) hy
                simp only at this
                omega
              · have f5 : (0 ≤ Lib.compareBytes y.k xk) = False := eq_false hcm1
                simp only [↓VD, VP, VT, isAggD, reduceCtorEq, Int.reduceEq, Int.reduceNe, Int.reduceLT, Int.reduceLE, implies_true, Nat.reduceEqDiff, reduceIte, ite_true, ite_false, eq_self, Nat.reduceLT, Nat.reduceLeDiff, Nat.reduceAdd, Nat.reduceMul, Nat.reduceSub, intOf, h0, h4, h5, h16, h17, h18, f1, f2, f3, f4, f5]
                intro w6 hE6
                refine ⟨hE6, by omega, by omega, fun p _ hp => ?_⟩
                rw [hy] at hp
                cases hp
                omega
      · rintro s6 w6 ⟨hE6, g0, g4, g5, g8, g16, g17, g18, hkl, hvl, hcmp⟩
        obtain ⟨y, hy⟩ : ∃ y, ps[0]? = some y := ⟨_, List.getElem?_eq_getElem (by omega)⟩
        obtain ⟨hyk, hyv⟩ := hpp y (List.mem_of_getElem? hy)
        have hyl := hpl y (List.mem_of_getElem? hy)
        have hE6' := hE5'.trans' hE6
        have hE26 := hE5.trans' hE6
        replace hB4 := hB4.ext hE6
        replace hB5 := hB5.ext hE6
        replace hB8 := hB8.ext hE6
        have z4 := hB4.lt
        simp only [↓VD, VP, VT, isAggD, reduceCtorEq, Int.reduceEq, Int.reduceNe, Int.reduceLT, Int.reduceLE, implies_true, Nat.reduceEqDiff, reduceIte, ite_true, ite_false, eq_self, Nat.reduceLT, Nat.reduceLeDiff, Nat.reduceAdd, Nat.reduceMul, Nat.reduceSub, intOf, g0, g4, g5, g8, g16, g17, g18]
        refine ldAt (pre := []) (post := [.slice av xv.length cv]) Tryz.underlying22 rfl hB8 rfl ?_
        simp only [↓VD, VP, VT, isAggD, reduceCtorEq, Int.reduceEq, Int.reduceNe, Int.reduceLT, Int.reduceLE, implies_true, Nat.reduceEqDiff, reduceIte, ite_true, ite_false, eq_self, Nat.reduceLT, Nat.reduceLeDiff, Nat.reduceAdd, Nat.reduceMul, Nat.reduceSub, intOf, g0, g4, g5, g8, g16, g17, g18]
        refine (Key_ok n xk _ w6 (hW.ext hE6') (hxk.ext hE6') (by omega)).mono ?_
        rintro _ w7 ⟨rfl, hE7⟩
        simp only [↓VD, VP, VT, isAggD, reduceCtorEq, Int.reduceEq, Int.reduceNe, Int.reduceLT, Int.reduceLE, implies_true, Nat.reduceEqDiff, reduceIte, ite_true, ite_false, eq_self, Nat.reduceLT, Nat.reduceLeDiff, Nat.reduceAdd, Nat.reduceMul, Nat.reduceSub, intOf, g0, g4, g5, g8, g16, g17, g18]
        intro w8 hN8
        have z7 := hE7.size
        have z8 := hN8.size
        refine stAll hN8.blk rfl (by rw [c28]; decide) (by rw [c28, vbs_len, sumR_len]) (by rw [c28]; simp) (vbs_one _) (fun w9 hP9 => ?_)
        have hE9 : Ext w6 w9 := hE7.trans' (hN8.ext.trans (hP9.below (Nat.le_refl _)))
        have hB9 := hP9.blk
        have z9 := hP9.size
        generalize w7.heap.size = b9 at *
        simp only [↓VD, VP, VT, isAggD, reduceCtorEq, Int.reduceEq, Int.reduceNe, Int.reduceLT, Int.reduceLE, implies_true, Nat.reduceEqDiff, reduceIte, ite_true, ite_false, eq_self, Nat.reduceLT, Nat.reduceLeDiff, Nat.reduceAdd, Nat.reduceMul, Nat.reduceSub, intOf, g0, g4, g5, g8, g16, g17, g18]
        refine ldAt (pre := [.slice sa ss.length cs]) (post := []) Tryz.underlying24 rfl (hB5.ext hE9) rfl ?_
        simp only [↓VD, VP, VT, isAggD, reduceCtorEq, Int.reduceEq, Int.reduceNe, Int.reduceLT, Int.reduceLE, implies_true, Nat.reduceEqDiff, reduceIte, ite_true, ite_false, eq_self, Nat.reduceLT, Nat.reduceLeDiff, Nat.reduceAdd, Nat.reduceMul, Nat.reduceSub, intOf, g0, g4, g5, g8, g16, g17, g18]
        refine ⟨by omega, ldF (f := PR.cells) (sz := 2) (i := 0) (j := 0) Tryz.underlying22 rfl (fun d h => rfl) (hcW (hE26.trans' hE9)) hy rfl (by simp) ?_⟩
        obtain ⟨ay, cy, hye⟩ := slv_of hyk
        simp only [↓VD, VP, VT, isAggD, reduceCtorEq, Int.reduceEq, Int.reduceNe, Int.reduceLT, Int.reduceLE, implies_true, Nat.reduceEqDiff, reduceIte, ite_true, ite_false, eq_self, Nat.reduceLT, Nat.reduceLeDiff, Nat.reduceAdd, Nat.reduceMul, Nat.reduceSub, intOf, g0, g4, g5, g8, g16, g17, g18]
        refine (Key_ok n y.k _ w9 (hW.ext (hE6'.trans' hE9)) (hyk.ext (hE6'.trans' hE9)) hyl).mono ?_
        rintro _ w10 ⟨rfl, hE10⟩
        simp only [↓VD, VP, VT, isAggD, reduceCtorEq, Int.reduceEq, Int.reduceNe, Int.reduceLT, Int.reduceLE, implies_true, Nat.reduceEqDiff, reduceIte, ite_true, ite_false, eq_self, Nat.reduceLT, Nat.reduceLeDiff, Nat.reduceAdd, Nat.reduceMul, Nat.reduceSub, intOf, g0, g4, g5, g8, g16, g17, g18]
        intro w11 hN11
        have z10 := hE10.size
        have z11 := hN11.size
        refine stAll hN11.blk rfl (by rw [c28]; decide) (by rw [c28, vbs_len, sumR_len]) (by rw [c28]; simp) (vbs_one _) (fun w12 hP12 => ?_)
        have hE12 : Ext w9 w12 := hE10.trans' (hN11.ext.trans (hP12.below (Nat.le_refl _)))
        have hB11 := hP12.blk
        have hB9' := hB9.ext hE12
        have hE69 := hE9.trans' hE12
        have hB4' := hB4.ext hE69
        have hB5' := hB5.ext hE69
        generalize w10.heap.size = b11 at *
        have lk1 := sumR_len n (2 :: xk)
        have lk2 := sumR_len n (2 :: y.k)
        simp only [↓VD, VP, VT, isAggD, reduceCtorEq, Int.reduceEq, Int.reduceNe, Int.reduceLT, Int.reduceLE, implies_true, Nat.reduceEqDiff, reduceIte, ite_true, ite_false, eq_self, Nat.reduceLT, Nat.reduceLeDiff, Nat.reduceAdd, Nat.reduceMul, Nat.reduceSub, intOf, g0, g4, g5, g8, g16, g17, g18]
        refine ldA Tryz.underlying28 rfl hB4' (by rw [vbs_len, hk, c28]) ?_
        simp only [↓VD, VP, VT, isAggD, reduceCtorEq, Int.reduceEq, Int.reduceNe, Int.reduceLT, Int.reduceLE, implies_true, Nat.reduceEqDiff, reduceIte, ite_true, ite_false, eq_self, Nat.reduceLT, Nat.reduceLeDiff, Nat.reduceAdd, Nat.reduceMul, Nat.reduceSub, intOf, g0, g4, g5, g8, g16, g17, g18]
        refine ldA Tryz.underlying28 rfl hB9' (by rw [vbs_len, lk1, c28]) ?_
        simp only [↓VD, VP, VT, isAggD, reduceCtorEq, Int.reduceEq, Int.reduceNe, Int.reduceLT, Int.reduceLE, implies_true, Nat.reduceEqDiff, reduceIte, ite_true, ite_false, eq_self, Nat.reduceLT, Nat.reduceLeDiff, Nat.reduceAdd, Nat.reduceMul, Nat.reduceSub, intOf, g0, g4, g5, g8, g16, g17, g18]
        refine (Common_ok n k (sumR n (2 :: xk)) hk lk1 w12).mono ?_
        rintro _ w13 ⟨rfl, hE13⟩
        have hEZ : Ext w2 w13 := hE26.trans' (hE69.trans' hE13)
        simp only [↓VD, VP, VT, isAggD, reduceCtorEq, Int.reduceEq, Int.reduceNe, Int.reduceLT, Int.reduceLE, implies_true, Nat.reduceEqDiff, reduceIte, ite_true, ite_false, eq_self, Nat.reduceLT, Nat.reduceLeDiff, Nat.reduceAdd, Nat.reduceMul, Nat.reduceSub, intOf, g0, g4, g5, g8, g16, g17, g18]
        refine ldA Tryz.underlying28 rfl (hB9'.ext hE13) (by rw [vbs_len, lk1, c28]) ?_
        simp only [↓VD, VP, VT, isAggD, reduceCtorEq, Int.reduceEq, Int.reduceNe, Int.reduceLT, Int.reduceLE, implies_true, Nat.reduceEqDiff, reduceIte, ite_true, ite_false, eq_self, Nat.reduceLT, Nat.reduceLeDiff, Nat.reduceAdd, Nat.reduceMul, Nat.reduceSub, intOf, g0, g4, g5, g8, g16, g17, g18]
        refine ldA Tryz.underlying28 rfl (hB11.ext hE13) (by rw [vbs_len, lk2, c28]) ?_
        simp only [↓VD, VP, VT, isAggD, reduceCtorEq, Int.reduceEq, Int.reduceNe, Int.reduceLT, Int.reduceLE, implies_true, Nat.reduceEqDiff, reduceIte, ite_true, ite_false, eq_self, Nat.reduceLT, Nat.reduceLeDiff, Nat.reduceAdd, Nat.reduceMul, Nat.reduceSub, intOf, g0, g4, g5, g8, g16, g17, g18]
        refine eqd_lit _ _ _ _ _ _ Tryz.underlying5 c5 lk1 lk2 ?_
        by_cases hkk : sumR n (2 :: xk) = sumR n (2 :: y.k)
        · have f6 : (sumR n (2 :: xk) = sumR n (2 :: y.k)) = True := eq_true hkk
          simp only [↓VD, VP, VT, isAggD, reduceCtorEq, Int.reduceEq, Int.reduceNe, Int.reduceLT, Int.reduceLE, implies_true, Nat.reduceEqDiff, reduceIte, ite_true, ite_false, eq_self, Nat.reduceLT, Nat.reduceLeDiff, Nat.reduceAdd, Nat.reduceMul, Nat.reduceSub, intOf, g0, g4, g5, g8, g16, g17, g18, f6]
          refine ldAt (pre := []) (post := [.slice (some ⟨b, o, none⟩) ps.length c]) Tryz.underlying23 rfl (hB5'.ext hE13) rfl ?_
          simp only [↓VD, VP, VT, isAggD, reduceCtorEq, Int.reduceEq, Int.reduceNe, Int.reduceLT, Int.reduceLE, implies_true, Nat.reduceEqDiff, reduceIte, ite_true, ite_false, eq_self, Nat.reduceLT, Nat.reduceLeDiff, Nat.reduceAdd, Nat.reduceMul, Nat.reduceSub, intOf, g0, g4, g5, g8, g16, g17, g18, f6]
          refine ⟨fun hlt9 => ⟨⟨False.elim, fun hP => ?_⟩, hE2.trans' hEZ⟩, fun hge9 => ⟨⟨hEZ, i + 1, by omega, by rw [w64 (by omega) (by omega)]; rfl, fun j s hj hs' => ?_⟩, by rw [w64 (by omega) (by omega), h18]; simp only [intOf]; omega⟩⟩
          · have := (hP i _ hx).2.2.2.2
            simp only [keyD] at this
            omega
          · by_cases hji : j < i
            · exact hz j s hji hs'
            · obtain rfl : j = i := by omega
              rw [hx] at hs'
              cases hs'
              refine ⟨hkl, hvl, hcmp, fun p hp => ?_, by simp only [keyD]; omega⟩
              rw [hy] at hp
              cases hp
              exact hkk
        · have f6 : (sumR n (2 :: xk) = sumR n (2 :: y.k)) = False := eq_false hkk
          simp only [↓VD, VP, VT, isAggD, reduceCtorEq, Int.reduceEq, Int.reduceNe, Int.reduceLT, Int.reduceLE, implies_true, Nat.reduceEqDiff, reduceIte, ite_true, ite_false, eq_self, Nat.reduceLT, Nat.reduceLeDiff, Nat.reduceAdd, Nat.reduceMul, Nat.reduceSub, intOf, g0, g4, g5, g8, g16, g17, g18, f6]
          refine ⟨⟨False.elim, fun hP => hkk ((hP i _ hx).2.2.2.1 y hy)⟩, hE2.trans' hEZ⟩
    · refine ⟨⟨fun _ => fun j s hs' => hz j s ?_ hs', fun _ => trivial⟩, hE2.trans' hE3⟩
      have := (List.getElem?_eq_some_iff.1 hs').1
      omega

end Go.Proofs.YtebbgninkbghlaaGreatDoor
