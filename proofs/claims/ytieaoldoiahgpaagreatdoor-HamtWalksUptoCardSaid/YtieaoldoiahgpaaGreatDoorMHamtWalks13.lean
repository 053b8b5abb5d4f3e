/-
  Package notaryref14: Get, Walk, SamePair, SamePairs, SameSteps. Conditions: as stated in each theorem. Package hamt: Pairs. Conditions: as stated in each theorem. Package notarylaw14: short, tells, reads. Conditions: as stated in each theorem. HamtWalks. Conditions: as stated in each theorem. The frame of the rows: a law's row out of its walk, whatever its parameters; digests and numbers opened. Conditions: none; plain lemmas. The frame of rows that list the table and bound the bulk: questions (structs with lists of structs) opened, with their sizes; the table out of the row's list. Conditions: none; plain lemmas. The frame of rows: parameters opened; the table of SHA-256. Conditions: none; plain lemmas. The frame of rows: lists of byte lists opened. Conditions: none; plain lemmas.
-/
import Derived.Test.YtieaoldoiahgpaaGreatDoorMHamtWalks12
import Derived.Test.YtieaoldoiahgpaaGreatDoorMHamtWalks11
import Derived.Test.YtieaoldoiahgpaaGreatDoorMHamtWalks7
import Derived.Deep.Slices
import Derived.Lib.LaidTab
import Derived.Lib.SmallJoins
import Derived.Test.YtieaoldoiahgpaaGreatDoorMHamtWalks8
/-! Rfd -/
namespace Go.Proofs.YtieaoldoiahgpaaGreatDoor
set_option maxRecDepth 100000
open Go Go.RowKit
set_option linter.unusedVariables false
set_option linter.unusedSimpArgs false
set_option maxHeartbeats 1000000
attribute [local irreducible] vcT opsT qT vcOp Q1 vcPure vcLoad vcStore ldC ldN ldD grdT grdQ vc vcOps vcQ hT
attribute [local irreducible] sumR sumP shaP keyD bucketP branchP

theorem ItemAt.c32 {w : World} {p : IR} (h : ItemAt w p) : p.cells[32]? = some p.kv := by
  unfold IR.cells
  rw [List.getElem?_append_right (by rw [vbs_len, h.len]; decide), vbs_len, h.len]
  rfl
theorem ItemAt.c33 {w : World} {p : IR} (h : ItemAt w p) : p.cells[33]? = some p.vv := by
  unfold IR.cells
  rw [List.getElem?_append_right (by rw [vbs_len, h.len]; decide), vbs_len, h.len]
  rfl
theorem get_none {is : List IR} {key : List UInt8} (h : ∀ q ∈ is, q.y.k ≠ key) : getI (is.map IR.y) key = none := by
  unfold getI
  rw [List.find?_eq_none.2]
  · rfl
  · intro y hy
    obtain ⟨q, hq, rfl⟩ := List.mem_map.1 hy
    simpa using h q hq
theorem get_some {is : List IR} {key : List UInt8} : ∀ {i : Nat} {q : IR}, is[i]? = some q → q.y.k = key → (∀ p ∈ is.take i, p.y.k ≠ key) → getI (is.map IR.y) key = some q.y.v := by
  intro i q hq hk h
  unfold getI
  obtain ⟨hl, he⟩ := List.getElem?_eq_some_iff.1 hq
  have e : is = is.take i ++ q :: is.drop (i + 1) := by rw [← he, List.getElem_cons_drop, List.take_append_drop]
  rw [e, List.map_append, List.find?_append, List.find?_eq_none.2, List.map_cons, List.find?_cons_of_pos (by simpa using hk)]
  · rfl
  · intro y hy
    obtain ⟨q', hq', rfl⟩ := List.mem_map.1 hy
    simpa using h q' hq'
theorem GetR_ok (is : List IR) (m : List It) (key : List UInt8) (mv kv : Value) (w : World) (hm : ItemsAt w mv is) (hy : is.map IR.y = m) (hk : SlB w kv key) (hml : is.length ≤ 100000000) :
    CallK Tryz.prog 35 [mv, kv].toArray w fun v w' => (∃ r, v = .tuple [r, .bool (getI m key).isSome].toArray ∧ SlB w' r ((getI m key).getD [])) ∧ Ext w w' := by
  obtain ⟨a, c, rfl⟩ := slv_of hm.sl
  obtain ⟨ka, kc, rfl⟩ := slv_of hk
  refine enterT Tryz.func35 rfl Tryz.ntmps35 Tryz.results35 rfl (by decide) ?_
  repeat (first | exact trivial | refine stp ?_ | refine ldCg ?_ | refine ldNg ?_ | refine ldSg ?_ | refine ldSb ?_ | refine bnd ?_ | refine bnd1 ?_ | refine drawQ (by decide +kernel) mixed (by decide +kernel) ?_)
  refine loopX (ι := Nat) (fun i => [(1, .slice ka key.length kc), (8, .slice a is.length c), (9, .int .i64 is.length), (10, .int .i64 i)])
    (fun i W => Ext w W ∧ i ≤ is.length ∧ ∀ q ∈ is.take i, q.y.k ≠ key) (fun i => is.length - i) 0 ⟨.go, Nat.zero_le _, by simp⟩ ?_ ?_
  · repeat (first | exact trivial | refine stp ?_ | refine ldCg ?_ | refine ldNg ?_ | refine ldSg ?_ | refine ldSb ?_ | refine bnd ?_ | refine bnd1 ?_ | refine drawQ (by decide +kernel) mixed (by decide +kernel) ?_)
  · rintro i s1 w1 ⟨hE1, hi, hno⟩
    have hz1 := hE1.size
    repeat (first | exact trivial | refine stp ?_ | refine ldCg ?_ | refine ldNg ?_ | refine ldSg ?_ | refine ldSb ?_ | refine bnd ?_ | refine bnd1 ?_ | refine drawQ (by decide +kernel) mixed (by decide +kernel) ?_)
    refine ⟨fun hlt => ?_, fun hge => ?_⟩
    · obtain ⟨b, o, rfl, hR⟩ := hm.row (by omega)
      obtain ⟨q, hx⟩ : ∃ x, is[i]? = some x := ⟨_, List.getElem?_eq_getElem (by omega)⟩
      have hq := hm.mem q (List.mem_of_getElem? hx)
      have htk : is.take (i + 1) = is.take i ++ [q] := by
        obtain ⟨hil, he⟩ := List.getElem?_eq_some_iff.1 hx
        rw [List.take_succ_eq_append_getElem hil, he]
      obtain ⟨a4, c4, e4⟩ := slv_of hq.key
      obtain ⟨a5, c5, e5⟩ := slv_of hq.val
      have hqk := hq.key
      have hqv := hq.val
      have h32 := hq.c32
      have h33 := hq.c33
      rw [e4] at hqk h32
      rw [e5] at hqv h33
      repeat (first | exact trivial | refine stp ?_ | refine ldCg ?_ | refine ldNg ?_ | refine ldSg ?_ | refine ldSb ?_ | refine bnd ?_ | refine bnd1 ?_ | refine drawQ (by decide +kernel) mixed (by decide +kernel) ?_)
      refine ldRow (f := IR.cells) hx ?_
      repeat (first | exact trivial | refine stp ?_ | refine ldCg ?_ | refine ldNg ?_ | refine ldSg ?_ | refine ldSb ?_ | refine bnd ?_ | refine bnd1 ?_ | refine drawQ (by decide +kernel) mixed (by decide +kernel) ?_)
      refine newI hq ?_
      intro w2 hE2 hz2 hB2
      repeat (first | exact trivial | refine stp ?_ | refine ldCg ?_ | refine ldNg ?_ | refine ldSg ?_ | refine ldSb ?_ | refine bnd ?_ | refine bnd1 ?_ | refine drawQ (by decide +kernel) mixed (by decide +kernel) ?_)
      refine ldCg (hv := h32) ?_
      repeat (first | exact trivial | refine stp ?_ | refine ldCg ?_ | refine ldNg ?_ | refine ldSg ?_ | refine ldSb ?_ | refine bnd ?_ | refine bnd1 ?_ | refine drawQ (by decide +kernel) mixed (by decide +kernel) ?_)
      refine (Same_ok q.y.k key _ _ w2 (hqk.ext .go) (hk.ext .go)).mono ?_
      rintro _ w3 ⟨rfl, hE3⟩
      have hz3 := hE3.size
      by_cases he : q.y.k = key
      · rw [decide_eq_true he]
        repeat (first | exact trivial | refine stp ?_ | refine ldCg ?_ | refine ldNg ?_ | refine ldSg ?_ | refine ldSb ?_ | refine bnd ?_ | refine bnd1 ?_ | refine drawQ (by decide +kernel) mixed (by decide +kernel) ?_)
        refine ldCg (hv := h33) ?_
        repeat (first | exact trivial | refine stp ?_ | refine ldCg ?_ | refine ldNg ?_ | refine ldSg ?_ | refine ldSb ?_ | refine bnd ?_ | refine bnd1 ?_ | refine drawQ (by decide +kernel) mixed (by decide +kernel) ?_)
        rw [← hy, get_some hx he hno]
        exact ⟨⟨_, rfl, hqv.ext .go⟩, .go⟩
      · rw [decide_eq_false he]
        repeat (first | exact trivial | refine stp ?_ | refine ldCg ?_ | refine ldNg ?_ | refine ldSg ?_ | refine ldSb ?_ | refine bnd ?_ | refine bnd1 ?_ | refine drawQ (by decide +kernel) mixed (by decide +kernel) ?_)
        exact ⟨i + 1, ⟨.go, by omega, fun p hp => by rw [htk] at hp; rcases List.mem_append.1 hp with h | h; exact hno p h; rw [List.mem_singleton] at h; subst h; exact he⟩, by rw [w64 (by omega) (by omega)]; rfl, by omega⟩
    · obtain rfl : i = is.length := by omega
      rw [List.take_length] at hno
      repeat (first | exact trivial | refine stp ?_ | refine ldCg ?_ | refine ldNg ?_ | refine ldSg ?_ | refine ldSb ?_ | refine bnd ?_ | refine bnd1 ?_ | refine drawQ (by decide +kernel) mixed (by decide +kernel) ?_)
      rw [← hy, get_none hno]
      exact ⟨⟨_, rfl, ⟨none, 0, rfl, Nat.le_refl _, by omega, Or.inl rfl⟩⟩, .go⟩
theorem WalkR_ok (n : Nat) (hn : 1 ≤ n) (hn2 : n ≤ 32) (is : List IR) (m : List It) (key : List UInt8) (mv kv : Value) (w : World) (hm : ItemsAt w mv is) (hy : is.map IR.y = m) (hO : OkI n m) (hk : SlB w kv key) (hkl : key.length ≤ 4000000000) (hml : is.length ≤ 90000000) :
    CallK Tryz.prog 63 [.int .i64 n, mv, kv].toArray w fun v w' => ∃ sv pv tt qs, v = .tuple [sv, pv].toArray ∧ StepsAt w' sv tt ∧ PairsAt w' pv qs ∧ tt.map SR.dt = (walkI n (keyD n key) 64 0 m).1 ∧ qs.map PR.dat = (walkI n (keyD n key) 64 0 m).2.map It.pr ∧ Ext w w' := by
  obtain ⟨a, c, rfl⟩ := slv_of hm.sl
  obtain ⟨ka, kc, rfl⟩ := slv_of hk
  have hw : widB n = true := (widB_iff n).2 (by omega)
  refine enterT Tryz.func63 rfl Tryz.ntmps63 Tryz.results63 rfl (by decide) ?_
  repeat (first | exact trivial | refine stp ?_ | refine ldCg ?_ | refine ldNg ?_ | refine ldSg ?_ | refine ldSb ?_ | refine bnd ?_ | refine bnd1 ?_ | refine drawQ (by decide +kernel) mixed (by decide +kernel) ?_)
  refine (RKeyD_ok n hn hn2 key _ w (hk.ext .go) (by omega)).mono ?_
  rintro _ w1 ⟨rfl, hE1⟩
  have hz1 := hE1.size
  have hKl := keyD_len n key
  repeat (first | exact trivial | refine stp ?_ | refine ldCg ?_ | refine ldNg ?_ | refine ldSg ?_ | refine ldSb ?_ | refine bnd ?_ | refine bnd1 ?_ | refine drawQ (by decide +kernel) mixed (by decide +kernel) ?_)
  first | refine newS ?_ | refine newZ ?_
  intro w2 hE2 hz2 hB2
  obtain ⟨hst, hend, hsg⟩ := walk_spec hw (keyD n key) 64 0 m hO hO.pre rfl
  generalize hLe : (walkI n (keyD n key) 64 0 m).1 = L at *
  simp only [Nat.zero_add] at hst
  repeat (first | exact trivial | refine stp ?_ | refine ldCg ?_ | refine ldNg ?_ | refine ldSg ?_ | refine ldSb ?_ | refine bnd ?_ | refine bnd1 ?_ | refine drawQ (by decide +kernel) mixed (by decide +kernel) ?_)
  refine loopX (ι := Nat × List IR × Value × List SR × Option Addr × Nat) (fun x => [(0, .int .i64 n), (1, x.2.2.1), (8, .slice x.2.2.2.2.1 x.2.2.2.1.length x.2.2.2.2.2), (9, .pointer (some ⟨w1.heap.size, 0, none⟩)), (10, .int .i64 x.1)])
    (fun x W => Ext w2 W ∧ w2.heap.size ≤ W.heap.size ∧ x.1 ≤ L.length ∧ (x.2.1 = is ∧ x.2.2.1 = .slice a is.length c ∨ Own W w2.heap.size 122 34 x.2.2.1 x.2.1.length (x.2.1.flatMap IR.cells)) ∧ (∀ q ∈ x.2.1, q ∈ is) ∧ x.2.1.map IR.y = wmI (keyD n key) x.1 0 m ∧ x.2.2.2.1.length = x.1 ∧
      Own W w2.heap.size 41 2 (.slice x.2.2.2.2.1 x.2.2.2.1.length x.2.2.2.2.2) x.2.2.2.1.length (x.2.2.2.1.flatMap SR.cells) ∧ RunK W W.heap.size w2.heap.size x.2.2.2.1 ∧ x.2.2.2.1.map SR.dt = L.take x.1) (fun x => L.length - x.1)
    (0, is, .slice a is.length c, [], none, 0) ⟨.go, Nat.le_refl _, Nat.zero_le _, Or.inl ⟨rfl, rfl⟩, fun _ h => h, hy, rfl, Own.nil _ _ _ _, Nat.le_refl _, rfl⟩ ?_ ?_
  · repeat (first | exact trivial | refine stp ?_ | refine ldCg ?_ | refine ldNg ?_ | refine ldSg ?_ | refine ldSb ?_ | refine bnd ?_ | refine bnd1 ?_ | refine drawQ (by decide +kernel) mixed (by decide +kernel) ?_)
    rfl
  · rintro ⟨d, js, v, tt, ta, tc⟩ s3 w3 ⟨hE3, hz3, hd, hrow, hjs, hjy, htl, hOs, hRs, htd⟩
    simp only at hd hrow hjs hjy htl hOs hRs htd
    have hIt : ∀ {W : World}, Ext w W → (js = is ∧ v = .slice a is.length c ∨ Own W w2.heap.size 122 34 v js.length (js.flatMap IR.cells)) → ItemsAt W v js := fun e h => by
      refine ⟨?_, fun q hq => (hm.mem q (hjs q hq)).ext e⟩
      rcases h with ⟨rfl, rfl⟩ | h
      · exact hm.sl.ext e
      · exact SlC.of_own h
    have hI3 := hIt (W := w3) .go hrow
    have hjl : js.length ≤ is.length := by
      have h1 := congrArg List.length hjy
      have h2 := congrArg List.length hy
      have h3 : (wmI (keyD n key) d 0 m).length ≤ m.length := by
        have : ∀ (i e : Nat) (l : List It), (wmI (keyD n key) i e l).length ≤ l.length := by
          intro i
          induction i with
          | zero => intro e l; exact Nat.le_refl _
          | succ i ih => intro e l; exact Nat.le_trans (ih _ _) (List.length_filter_le _ _)
        exact this d 0 m
      simp only [List.length_map] at h1 h2
      omega
    obtain ⟨hOd, hPd⟩ := wmI_ok (n := n) (keyD n key) d 0 hO hO.pre
    rw [Nat.zero_add] at hPd
    obtain ⟨va, vc, rfl⟩ := slv_of hI3.sl
    repeat (first | exact trivial | refine stp ?_ | refine ldCg ?_ | refine ldNg ?_ | refine ldSg ?_ | refine ldSb ?_ | refine bnd ?_ | refine bnd1 ?_ | refine drawQ (by decide +kernel) mixed (by decide +kernel) ?_)
    refine (singleR_ok js _ _ w3 hI3 hjy hOd.sorted (by omega)).mono ?_
    rintro _ w4 ⟨rfl, hE4⟩
    have hz4 := hE4.size
    by_cases hdl : d < L.length
    · obtain ⟨hs1, hs2⟩ := hst d hdl
      rw [hs2]
      have hdn := br_depth hs2 hPd (hOd.form hw)
      have hI4 := hIt (W := w4) .go (hrow.imp_right (·.ext .go))
      have hcn := cnt_le (bmI (wmI (keyD n key) d 0 m) d)
      have hkl := kidsI_len n (64 - 1 - d) d (wmI (keyD n key) d 0 m)
      repeat (first | exact trivial | refine stp ?_ | refine ldCg ?_ | refine ldNg ?_ | refine ldSg ?_ | refine ldSb ?_ | refine bnd ?_ | refine bnd1 ?_ | refine drawQ (by decide +kernel) mixed (by decide +kernel) ?_)
      refine (stepR_ok n hn hn2 (64 - 1 - d) (nodeR_ok n hn hn2 _) d js _ _ w4 hI4 hjy hOd hPd (by omega) (by omega)).mono ?_
      rintro _ w5 ⟨kv, rfl, hK5, hE5⟩
      have hz5 := hE5.size
      have hbm := bmI_lt (wmI (keyD n key) d 0 m) d
      have hk32 := kidsI_32 n (64 - 1 - d) d (wmI (keyD n key) d 0 m)
      generalize hKe : kidsI n (64 - 1 - d) d (wmI (keyD n key) d 0 m) = ks at *
      obtain ⟨ka5, kc5, rfl⟩ := own_slice hK5
      repeat (first | exact trivial | refine stp ?_ | refine ldCg ?_ | refine ldNg ?_ | refine ldSg ?_ | refine ldSb ?_ | refine bnd ?_ | refine bnd1 ?_ | refine drawQ (by decide +kernel) mixed (by decide +kernel) ?_)
      refine ⟨rfl, rfl, ?_⟩
      first | refine newS ?_ | refine newZ ?_
      intro w6 hE6 hz6 hB6
      refine apStep (us := tt) (p := ⟨.slice ka5 ks.length kc5, bmI (wmI (keyD n key) d 0 m) d, ks⟩) (hOs.ext .go) (by omega) hB6 rfl (by omega) (fun a8 c8 w8 hO8 hg8 hE8 => ?_)
      have hz8 := hE8.size
      have hO6 := hOs.ext (w' := w6) .go
      have hR8 : RunK w8 w8.heap.size w2.heap.size (tt ++ [⟨.slice ka5 ks.length kc5, bmI (wmI (keyD n key) d 0 m) d, ks⟩]) := by
        refine RunK.append (m := w4.heap.size) (RunK.grown hO6 (by decide) hg8 ((hRs.ext .go).top hz4)) ⟨w8.heap.size, by omega, ⟨hbm, hk32, (hK5.ext .go).grown_ne hO6 (by decide) hg8, fun g hg => ?_⟩, Nat.le_refl _⟩
        have := (hK5.ext (w' := w6) .go).top g hg
        omega
      have hdt : (tt ++ [(⟨.slice ka5 ks.length kc5, bmI (wmI (keyD n key) d 0 m) d, ks⟩ : SR)]).map SR.dt = L.take (d + 1) := by
        obtain ⟨h1, h2⟩ := List.getElem?_eq_some_iff.1 hs1
        rw [List.map_append, htd, List.take_succ_eq_append_getElem h1, h2]
        rfl
      have htl' : (tt ++ [(⟨.slice ka5 ks.length kc5, bmI (wmI (keyD n key) d 0 m) d, ks⟩ : SR)]).length = d + 1 := by rw [List.length_append, htl]; rfl
      generalize tt ++ [(⟨.slice ka5 ks.length kc5, bmI (wmI (keyD n key) d 0 m) d, ks⟩ : SR)] = tt' at *
      have hrow8 : js = is ∧ (.slice va js.length vc : Value) = .slice a is.length c ∨ Own w8 w2.heap.size 122 34 (.slice va js.length vc) js.length (js.flatMap IR.cells) := hrow.imp_right fun h => (h.ext (w' := w6) .go).grown_ne hO6 (by decide) hg8
      repeat (first | exact trivial | refine stp ?_ | refine ldCg ?_ | refine ldNg ?_ | refine ldSg ?_ | refine ldSb ?_ | refine bnd ?_ | refine bnd1 ?_ | refine drawQ (by decide +kernel) mixed (by decide +kernel) ?_)
      refine (DigitR_ok (keyD n key) hKl d (by omega) w8).mono ?_
      rintro _ w9 ⟨rfl, hE9⟩
      have hz9 := hE9.size
      have hdg := digP_lt (keyD n key) d
      have hI9 := hIt (W := w9) .go (hrow8.imp_right (·.ext .go))
      repeat (first | exact trivial | refine stp ?_ | refine ldCg ?_ | refine ldNg ?_ | refine ldSg ?_ | refine ldSb ?_ | refine bnd ?_ | refine bnd1 ?_ | refine drawQ (by decide +kernel) mixed (by decide +kernel) ?_)
      refine (childR_ok js _ d _ (by omega) hdg w9 hI9 (by omega)).mono ?_
      rintro v10 w10 ⟨⟨js', hJ', hjm', hjy'⟩, hE10⟩
      have hz10 := hE10.size
      repeat (first | exact trivial | refine stp ?_ | refine ldCg ?_ | refine ldNg ?_ | refine ldSg ?_ | refine ldSb ?_ | refine bnd ?_ | refine bnd1 ?_ | refine drawQ (by decide +kernel) mixed (by decide +kernel) ?_)
      refine ⟨(d + 1, js', v10, tt', a8, c8), ⟨.go, by omega, by simp only; omega, Or.inr (hJ'.base (by omega)), fun q hq => hjs q (hjm' q hq), ?_, htl', hO8.ext .go, (hR8.ext .go).top (by omega), hdt⟩, ⟨rfl, rfl, by rw [w64 (by omega) (by omega)]; rfl⟩, by simp only; omega⟩
      simp only
      rw [hjy', hjy, wmI_step, Nat.zero_add]
    · obtain rfl : d = L.length := by omega
      rw [hsg]
      repeat (first | exact trivial | refine stp ?_ | refine ldCg ?_ | refine ldNg ?_ | refine ldSg ?_ | refine ldSb ?_ | refine bnd ?_ | refine bnd1 ?_ | refine drawQ (by decide +kernel) mixed (by decide +kernel) ?_)
      refine (PairsR_ok js _ w4 (hIt (W := w4) .go (hrow.imp_right (·.ext .go))) (by omega)).mono ?_
      rintro v5 w5 ⟨hP5, hE5⟩
      have hz5 := hE5.size
      repeat (first | exact trivial | refine stp ?_ | refine ldCg ?_ | refine ldNg ?_ | refine ldSg ?_ | refine ldSb ?_ | refine bnd ?_ | refine bnd1 ?_ | refine drawQ (by decide +kernel) mixed (by decide +kernel) ?_)
      rw [List.take_length] at htd
      refine ⟨_, _, tt, js.map IR.pr, rfl, (hRs.ext .go).stepsAt (hOs.ext .go), hP5, htd, ?_, .go⟩
      rw [pr_dat, hjy, hend]
theorem SamePair_ok (p q : PR) (w : World) (h1 : SlB w p.kv p.k) (h2 : SlB w p.vv p.v) (h3 : SlB w q.kv q.k) (h4 : SlB w q.vv q.v) :
    CallK Tryz.prog 100 [.agg [p.kv, p.vv].toArray, .agg [q.kv, q.vv].toArray].toArray w fun v w' => v = .bool (decide (p.dat = q.dat)) ∧ Ext w w' := by
  obtain ⟨kv, vv, k, v⟩ := p
  obtain ⟨kv', vv', k', v'⟩ := q
  simp only at h1 h2 h3 h4
  obtain ⟨a1, c1, rfl⟩ := slv_of h1
  obtain ⟨a2, c2, rfl⟩ := slv_of h2
  obtain ⟨a3, c3, rfl⟩ := slv_of h3
  obtain ⟨a4, c4, rfl⟩ := slv_of h4
  refine enterT Tryz.func100 rfl Tryz.ntmps100 Tryz.results100 rfl (by decide) ?_
  repeat (first | exact trivial | refine stp ?_ | refine ldCg ?_ | refine ldNg ?_ | refine ldSg ?_ | refine ldSb ?_ | refine bnd ?_ | refine bnd1 ?_ | refine drawQ (by decide +kernel) mixed (by decide +kernel) ?_)
  first | refine newS ?_ | refine newZ ?_
  intro w1 hE1 hz1 hB1
  first | refine newS ?_ | refine newZ ?_
  intro w2 hE2 hz2 hB2
  repeat (first | exact trivial | refine stp ?_ | refine ldCg ?_ | refine ldNg ?_ | refine ldSg ?_ | refine ldSb ?_ | refine bnd ?_ | refine bnd1 ?_ | refine drawQ (by decide +kernel) mixed (by decide +kernel) ?_)
  refine (Same_ok k k' _ _ w2 (h1.ext .go) (h3.ext .go)).mono ?_
  rintro _ w3 ⟨rfl, hE3⟩
  have hz3 := hE3.size
  by_cases hk : k = k'
  · rw [decide_eq_true hk]
    repeat (first | exact trivial | refine stp ?_ | refine ldCg ?_ | refine ldNg ?_ | refine ldSg ?_ | refine ldSb ?_ | refine bnd ?_ | refine bnd1 ?_ | refine drawQ (by decide +kernel) mixed (by decide +kernel) ?_)
    refine (Same_ok v v' _ _ w3 (h2.ext .go) (h4.ext .go)).mono ?_
    rintro _ w4 ⟨rfl, hE4⟩
    have hz4 := hE4.size
    repeat (first | exact trivial | refine stp ?_ | refine ldCg ?_ | refine ldNg ?_ | refine ldSg ?_ | refine ldSb ?_ | refine bnd ?_ | refine bnd1 ?_ | refine drawQ (by decide +kernel) mixed (by decide +kernel) ?_)
    refine ⟨?_, .go⟩
    simp only [PR.dat, Prod.mk.injEq, hk, true_and]
  · rw [decide_eq_false hk]
    repeat (first | exact trivial | refine stp ?_ | refine ldCg ?_ | refine ldNg ?_ | refine ldSg ?_ | refine ldSb ?_ | refine bnd ?_ | refine bnd1 ?_ | refine drawQ (by decide +kernel) mixed (by decide +kernel) ?_)
    refine ⟨?_, .go⟩
    rw [decide_eq_false]
    intro h
    exact hk (congrArg Prod.fst h)
theorem SamePairs_ok (ps qs : List PR) (pv qv : Value) (w : World) (hp : PairsAt w pv ps) (hq : PairsAt w qv qs) :
    CallK Tryz.prog 61 [pv, qv].toArray w fun v w' => v = .bool (decide (ps.map PR.dat = qs.map PR.dat)) ∧ Ext w w' := by
  have hpn : ps.length ≤ 9223372036854775807 := by obtain ⟨_, _, _, h1, h2, _⟩ := hp.1; omega
  obtain ⟨pa, pc, rfl⟩ := slv_of hp.1
  obtain ⟨qa, qc, rfl⟩ := slv_of hq.1
  refine enterT Tryz.func61 rfl Tryz.ntmps61 Tryz.results61 rfl (by decide) ?_
  repeat (first | exact trivial | refine stp ?_ | refine ldCg ?_ | refine ldNg ?_ | refine ldSg ?_ | refine ldSb ?_ | refine bnd ?_ | refine bnd1 ?_ | refine drawQ (by decide +kernel) mixed (by decide +kernel) ?_)
  refine ⟨fun hne => ⟨?_, .go⟩, fun he => ?_⟩
  · rw [decide_eq_false]
    intro h
    have := congrArg List.length h
    simp only [List.length_map] at this
    omega
  refine loopX (ι := Nat) (fun i => [(0, .slice pa ps.length pc), (1, .slice qa qs.length qc), (5, .int .i64 i)])
    (fun i W => Ext w W ∧ i ≤ ps.length ∧ (ps.take i).map PR.dat = (qs.take i).map PR.dat) (fun i => ps.length - i) 0 ⟨.go, Nat.zero_le _, rfl⟩ ?_ ?_
  · repeat (first | exact trivial | refine stp ?_ | refine ldCg ?_ | refine ldNg ?_ | refine ldSg ?_ | refine ldSb ?_ | refine bnd ?_ | refine bnd1 ?_ | refine drawQ (by decide +kernel) mixed (by decide +kernel) ?_)
  · rintro i s1 w1 ⟨hE1, hi, htk⟩
    have hz1 := hE1.size
    repeat (first | exact trivial | refine stp ?_ | refine ldCg ?_ | refine ldNg ?_ | refine ldSg ?_ | refine ldSb ?_ | refine bnd ?_ | refine bnd1 ?_ | refine drawQ (by decide +kernel) mixed (by decide +kernel) ?_)
    refine ⟨fun hlt => ?_, fun hge => ?_⟩
    · obtain ⟨b, o, rfl, hR⟩ := pr_row hp.1 (by omega)
      obtain ⟨b', o', rfl, hR'⟩ := pr_row hq.1 (by omega)
      obtain ⟨p, hx⟩ : ∃ x, ps[i]? = some x := ⟨_, List.getElem?_eq_getElem (by omega)⟩
      obtain ⟨q, hy⟩ : ∃ x, qs[i]? = some x := ⟨_, List.getElem?_eq_getElem (by omega)⟩
      obtain ⟨p1, p2⟩ := hp.2 _ (List.mem_of_getElem? hx)
      obtain ⟨q1, q2⟩ := hq.2 _ (List.mem_of_getElem? hy)
      repeat (first | exact trivial | refine stp ?_ | refine ldCg ?_ | refine ldNg ?_ | refine ldSg ?_ | refine ldSb ?_ | refine bnd ?_ | refine bnd1 ?_ | refine drawQ (by decide +kernel) mixed (by decide +kernel) ?_)
      refine ldPair hx ?_
      repeat (first | exact trivial | refine stp ?_ | refine ldCg ?_ | refine ldNg ?_ | refine ldSg ?_ | refine ldSb ?_ | refine bnd ?_ | refine bnd1 ?_ | refine drawQ (by decide +kernel) mixed (by decide +kernel) ?_)
      refine ldPair hy ?_
      repeat (first | exact trivial | refine stp ?_ | refine ldCg ?_ | refine ldNg ?_ | refine ldSg ?_ | refine ldSb ?_ | refine bnd ?_ | refine bnd1 ?_ | refine drawQ (by decide +kernel) mixed (by decide +kernel) ?_)
      refine qcall _ (fun w' hw' => SamePair_ok p q w' (p1.ext .go) (p2.ext .go) (q1.ext .go) (q2.ext .go)) ?_
      have tk1 : ps.take (i + 1) = ps.take i ++ [p] := by
        obtain ⟨hil, he⟩ := List.getElem?_eq_some_iff.1 hx
        rw [List.take_succ_eq_append_getElem hil, he]
      have tk2 : qs.take (i + 1) = qs.take i ++ [q] := by
        obtain ⟨hil, he⟩ := List.getElem?_eq_some_iff.1 hy
        rw [List.take_succ_eq_append_getElem hil, he]
      by_cases hd : p.dat = q.dat
      · rw [decide_eq_true hd]
        repeat (first | exact trivial | refine stp ?_ | refine ldCg ?_ | refine ldNg ?_ | refine ldSg ?_ | refine ldSb ?_ | refine bnd ?_ | refine bnd1 ?_ | refine drawQ (by decide +kernel) mixed (by decide +kernel) ?_)
        intro w2 hE2
        repeat (first | exact trivial | refine stp ?_ | refine ldCg ?_ | refine ldNg ?_ | refine ldSg ?_ | refine ldSb ?_ | refine bnd ?_ | refine bnd1 ?_ | refine drawQ (by decide +kernel) mixed (by decide +kernel) ?_)
        exact ⟨i + 1, ⟨.go, by omega, by rw [tk1, tk2, List.map_append, List.map_append, htk]; simp only [List.map_cons, List.map_nil, hd]⟩, by rw [w64 (by omega) (by omega)]; rfl, by omega⟩
      · rw [decide_eq_false hd]
        repeat (first | exact trivial | refine stp ?_ | refine ldCg ?_ | refine ldNg ?_ | refine ldSg ?_ | refine ldSb ?_ | refine bnd ?_ | refine bnd1 ?_ | refine drawQ (by decide +kernel) mixed (by decide +kernel) ?_)
        intro w2 hE2
        repeat (first | exact trivial | refine stp ?_ | refine ldCg ?_ | refine ldNg ?_ | refine ldSg ?_ | refine ldSb ?_ | refine bnd ?_ | refine bnd1 ?_ | refine drawQ (by decide +kernel) mixed (by decide +kernel) ?_)
        refine ⟨?_, .go⟩
        rw [decide_eq_false]
        intro h
        have h3 := congrArg (·[i]?) h
        simp only [List.getElem?_map, hx, hy, Option.map_some, Option.some.injEq] at h3
        exact hd h3
    · obtain rfl : i = ps.length := by omega
      repeat (first | exact trivial | refine stp ?_ | refine ldCg ?_ | refine ldNg ?_ | refine ldSg ?_ | refine ldSb ?_ | refine bnd ?_ | refine bnd1 ?_ | refine drawQ (by decide +kernel) mixed (by decide +kernel) ?_)
      refine ⟨?_, .go⟩
      rw [List.take_length, List.take_of_length_le (by omega)] at htk
      rw [decide_eq_true htk]
theorem SameSteps_ok (ss tt : List SR) (sv tv : Value) (w : World) (hs : StepsAt w sv ss) (ht : StepsAt w tv tt) :
    CallK Tryz.prog 64 [sv, tv].toArray w fun v w' => v = .bool (decide (ss.map SR.dt = tt.map SR.dt)) ∧ Ext w w' := by
  have hsn : ss.length ≤ 9223372036854775807 := by obtain ⟨_, _, _, h1, h2, _⟩ := hs.1; omega
  obtain ⟨sa, sc, rfl⟩ := slv_of hs.1
  obtain ⟨ta, tc, rfl⟩ := slv_of ht.1
  refine enterT Tryz.func64 rfl Tryz.ntmps64 Tryz.results64 rfl (by decide) ?_
  repeat (first | exact trivial | refine stp ?_ | refine ldCg ?_ | refine ldNg ?_ | refine ldSg ?_ | refine ldSb ?_ | refine bnd ?_ | refine bnd1 ?_ | refine drawQ (by decide +kernel) mixed (by decide +kernel) ?_)
  refine ⟨fun hne => ⟨?_, .go⟩, fun he => ?_⟩
  · rw [decide_eq_false]
    intro h
    have := congrArg List.length h
    simp only [List.length_map] at this
    omega
  refine loopX (ι := Nat) (fun i => [(0, .slice sa ss.length sc), (1, .slice ta tt.length tc), (5, .int .i64 i)])
    (fun i W => Ext w W ∧ i ≤ ss.length ∧ (ss.take i).map SR.dt = (tt.take i).map SR.dt) (fun i => ss.length - i) 0 ⟨.go, Nat.zero_le _, rfl⟩ ?_ ?_
  · repeat (first | exact trivial | refine stp ?_ | refine ldCg ?_ | refine ldNg ?_ | refine ldSg ?_ | refine ldSb ?_ | refine bnd ?_ | refine bnd1 ?_ | refine drawQ (by decide +kernel) mixed (by decide +kernel) ?_)
  · rintro i s1 w1 ⟨hE1, hi, htk⟩
    have hz1 := hE1.size
    repeat (first | exact trivial | refine stp ?_ | refine ldCg ?_ | refine ldNg ?_ | refine ldSg ?_ | refine ldSb ?_ | refine bnd ?_ | refine bnd1 ?_ | refine drawQ (by decide +kernel) mixed (by decide +kernel) ?_)
    refine ⟨fun hlt => ?_, fun hge => ?_⟩
    · obtain ⟨b, o, rfl, hR⟩ := hs.1.row (f := SR.cells) (sz := 2) (fun _ _ => rfl) (by decide) (by omega)
      obtain ⟨b', o', rfl, hR'⟩ := ht.1.row (f := SR.cells) (sz := 2) (fun _ _ => rfl) (by decide) (by omega)
      obtain ⟨p, hx⟩ : ∃ x, ss[i]? = some x := ⟨_, List.getElem?_eq_getElem (by omega)⟩
      obtain ⟨q, hy⟩ : ∃ x, tt[i]? = some x := ⟨_, List.getElem?_eq_getElem (by omega)⟩
      obtain ⟨p1, p2, p3⟩ := hs.2 _ (List.mem_of_getElem? hx)
      obtain ⟨q1, q2, q3⟩ := ht.2 _ (List.mem_of_getElem? hy)
      obtain ⟨pka, pkc, hpk⟩ := slv_of p3
      obtain ⟨qka, qkc, hqk⟩ := slv_of q3
      have ep : SR.cells p = [.int .u16 p.bm, .slice pka p.ks.length pkc] := by unfold SR.cells; rw [hpk]
      have eq : SR.cells q = [.int .u16 q.bm, .slice qka q.ks.length qkc] := by unfold SR.cells; rw [hqk]
      repeat (first | exact trivial | refine stp ?_ | refine ldCg ?_ | refine ldNg ?_ | refine ldSg ?_ | refine ldSb ?_ | refine bnd ?_ | refine bnd1 ?_ | refine drawQ (by decide +kernel) mixed (by decide +kernel) ?_)
      refine ldRowF (f := SR.cells) 0 hx ?_
      repeat (first | exact trivial | refine stp ?_ | refine ldCg ?_ | refine ldNg ?_ | refine ldSg ?_ | refine ldSb ?_ | refine bnd ?_ | refine bnd1 ?_ | refine drawQ (by decide +kernel) mixed (by decide +kernel) ?_)
      refine ldRowF (f := SR.cells) 0 hy ?_
      repeat (first | exact trivial | refine stp ?_ | refine ldCg ?_ | refine ldNg ?_ | refine ldSg ?_ | refine ldSb ?_ | refine bnd ?_ | refine bnd1 ?_ | refine drawQ (by decide +kernel) mixed (by decide +kernel) ?_)
      have hno : p.dt ≠ q.dt → decide (ss.map SR.dt = tt.map SR.dt) = false := by
        intro hd
        rw [decide_eq_false]
        intro h
        have h3 := congrArg (·[i]?) h
        simp only [List.getElem?_map, hx, hy, Option.map_some, Option.some.injEq] at h3
        exact hd h3
      refine ⟨fun hb w2 hE2 => ⟨(hno fun h => hb (by have := congrArg Prod.fst h; simp only [SR.dt] at this; omega)).symm, .go⟩, fun hb => ⟨by omega, by omega, ?_⟩⟩
      refine ldRowF (f := SR.cells) 1 hx ?_ (hv := by rw [ep]; rfl)
      repeat (first | exact trivial | refine stp ?_ | refine ldCg ?_ | refine ldNg ?_ | refine ldSg ?_ | refine ldSb ?_ | refine bnd ?_ | refine bnd1 ?_ | refine drawQ (by decide +kernel) mixed (by decide +kernel) ?_)
      refine ldRowF (f := SR.cells) 1 hy ?_ (hv := by rw [eq]; rfl)
      repeat (first | exact trivial | refine stp ?_ | refine ldCg ?_ | refine ldNg ?_ | refine ldSg ?_ | refine ldSb ?_ | refine bnd ?_ | refine bnd1 ?_ | refine drawQ (by decide +kernel) mixed (by decide +kernel) ?_)
      intro w2 hE2
      refine ⟨fun hb2 => ⟨(hno fun h => hb2 (by have := congrArg (fun x => x.2.length) h; simp only [SR.dt] at this; omega)).symm, .go⟩, fun hb2 => ?_⟩
      have hz2 := hE2.size
      have hpn2 : p.ks.length ≤ 9223372036854775807 := by obtain ⟨_, _, _, h1, h2, _⟩ := p3; omega
      repeat (first | exact trivial | refine stp ?_ | refine ldCg ?_ | refine ldNg ?_ | refine ldSg ?_ | refine ldSb ?_ | refine bnd ?_ | refine bnd1 ?_ | refine drawQ (by decide +kernel) mixed (by decide +kernel) ?_)
      refine loopX (ι := Nat) (fun j => [(0, .slice (some ⟨b, o, none⟩) ss.length sc), (1, .slice (some ⟨b', o', none⟩) tt.length tc), (5, .int .i64 i), (6, .int .i64 j)])
        (fun j W => Ext w1 W ∧ j ≤ p.ks.length ∧ p.ks.take j = q.ks.take j) (fun j => p.ks.length - j) 0 ⟨.go, Nat.zero_le _, rfl⟩ ?_ ?_
      · repeat (first | exact trivial | refine stp ?_ | refine ldCg ?_ | refine ldNg ?_ | refine ldSg ?_ | refine ldSb ?_ | refine bnd ?_ | refine bnd1 ?_ | refine drawQ (by decide +kernel) mixed (by decide +kernel) ?_)
      · rintro j s3 w3 ⟨hE3, hj, htj⟩
        have hz3 := hE3.size
        repeat (first | exact trivial | refine stp ?_ | refine ldCg ?_ | refine ldNg ?_ | refine ldSg ?_ | refine ldSb ?_ | refine bnd ?_ | refine bnd1 ?_ | refine drawQ (by decide +kernel) mixed (by decide +kernel) ?_)
        refine ldRowF (f := SR.cells) 1 hx ?_ (hv := by rw [ep]; rfl)
        repeat (first | exact trivial | refine stp ?_ | refine ldCg ?_ | refine ldNg ?_ | refine ldSg ?_ | refine ldSb ?_ | refine bnd ?_ | refine bnd1 ?_ | refine drawQ (by decide +kernel) mixed (by decide +kernel) ?_)
        refine ⟨fun hlj => ?_, fun hgj => ?_⟩
        · rw [hpk] at p3
          rw [hqk] at q3
          obtain ⟨kb, ko, rfl, hkR⟩ := dg_row p2 p3 (by omega)
          obtain ⟨kb', ko', rfl, hkR'⟩ := dg_row q2 q3 (by omega)
          obtain ⟨u, hu⟩ : ∃ x, p.ks[j]? = some x := ⟨_, List.getElem?_eq_getElem (by omega)⟩
          obtain ⟨u', hu'⟩ : ∃ x, q.ks[j]? = some x := ⟨_, List.getElem?_eq_getElem (by omega)⟩
          repeat (first | exact trivial | refine stp ?_ | refine ldCg ?_ | refine ldNg ?_ | refine ldSg ?_ | refine ldSb ?_ | refine bnd ?_ | refine bnd1 ?_ | refine drawQ (by decide +kernel) mixed (by decide +kernel) ?_)
          refine ldRowF (f := SR.cells) 1 hx ?_ (hv := by rw [ep]; rfl)
          repeat (first | exact trivial | refine stp ?_ | refine ldCg ?_ | refine ldNg ?_ | refine ldSg ?_ | refine ldSb ?_ | refine bnd ?_ | refine bnd1 ?_ | refine drawQ (by decide +kernel) mixed (by decide +kernel) ?_)
          refine ldRow (f := vbs) hu ?_
          repeat (first | exact trivial | refine stp ?_ | refine ldCg ?_ | refine ldNg ?_ | refine ldSg ?_ | refine ldSb ?_ | refine bnd ?_ | refine bnd1 ?_ | refine drawQ (by decide +kernel) mixed (by decide +kernel) ?_)
          refine ldRowF (f := SR.cells) 1 hy ?_ (hv := by rw [eq]; rfl)
          repeat (first | exact trivial | refine stp ?_ | refine ldCg ?_ | refine ldNg ?_ | refine ldSg ?_ | refine ldSb ?_ | refine bnd ?_ | refine bnd1 ?_ | refine drawQ (by decide +kernel) mixed (by decide +kernel) ?_)
          refine ldRow (f := vbs) hu' ?_
          repeat (first | exact trivial | refine stp ?_ | refine ldCg ?_ | refine ldNg ?_ | refine ldSg ?_ | refine ldSb ?_ | refine bnd ?_ | refine bnd1 ?_ | refine drawQ (by decide +kernel) mixed (by decide +kernel) ?_)
          refine eqd_lit _ _ _ _ _ _ Tryz.underlying5 c5 (p2 _ (List.mem_of_getElem? hu)) (q2 _ (List.mem_of_getElem? hu')) ?_
          by_cases hd : u = u'
          · rw [decide_eq_true hd]
            repeat (first | exact trivial | refine stp ?_ | refine ldCg ?_ | refine ldNg ?_ | refine ldSg ?_ | refine ldSb ?_ | refine bnd ?_ | refine bnd1 ?_ | refine drawQ (by decide +kernel) mixed (by decide +kernel) ?_)
            intro w4 hE4
            repeat (first | exact trivial | refine stp ?_ | refine ldCg ?_ | refine ldNg ?_ | refine ldSg ?_ | refine ldSb ?_ | refine bnd ?_ | refine bnd1 ?_ | refine drawQ (by decide +kernel) mixed (by decide +kernel) ?_)
            refine ⟨j + 1, ⟨.go, by omega, ?_⟩, by rw [w64 (by omega) (by omega)]; rfl, by omega⟩
            obtain ⟨e1, e2⟩ := List.getElem?_eq_some_iff.1 hu
            obtain ⟨e3, e4⟩ := List.getElem?_eq_some_iff.1 hu'
            rw [List.take_succ_eq_append_getElem e1, List.take_succ_eq_append_getElem e3, e2, e4, htj, hd]
          · rw [decide_eq_false hd]
            repeat (first | exact trivial | refine stp ?_ | refine ldCg ?_ | refine ldNg ?_ | refine ldSg ?_ | refine ldSb ?_ | refine bnd ?_ | refine bnd1 ?_ | refine drawQ (by decide +kernel) mixed (by decide +kernel) ?_)
            intro w4 hE4
            repeat (first | exact trivial | refine stp ?_ | refine ldCg ?_ | refine ldNg ?_ | refine ldSg ?_ | refine ldSb ?_ | refine bnd ?_ | refine bnd1 ?_ | refine drawQ (by decide +kernel) mixed (by decide +kernel) ?_)
            refine ⟨(hno fun h => ?_).symm, .go⟩
            have h3 := congrArg (fun x => x.2[j]?) h
            simp only [SR.dt, hu, hu', Option.some.injEq] at h3
            exact hd h3
        · obtain rfl : j = p.ks.length := by omega
          rw [List.take_length, List.take_of_length_le (by omega)] at htj
          have hd : p.dt = q.dt := by
            unfold SR.dt
            rw [htj, show p.bm = q.bm from by omega]
          have tk1 : ss.take (i + 1) = ss.take i ++ [p] := by
            obtain ⟨hil, he⟩ := List.getElem?_eq_some_iff.1 hx
            rw [List.take_succ_eq_append_getElem hil, he]
          have tk2 : tt.take (i + 1) = tt.take i ++ [q] := by
            obtain ⟨hil, he⟩ := List.getElem?_eq_some_iff.1 hy
            rw [List.take_succ_eq_append_getElem hil, he]
          repeat (first | exact trivial | refine stp ?_ | refine ldCg ?_ | refine ldNg ?_ | refine ldSg ?_ | refine ldSb ?_ | refine bnd ?_ | refine bnd1 ?_ | refine drawQ (by decide +kernel) mixed (by decide +kernel) ?_)
          exact ⟨i + 1, ⟨.go, by omega, by rw [tk1, tk2, List.map_append, List.map_append, htk]; simp only [List.map_cons, List.map_nil, hd]⟩, by rw [w64 (by omega) (by omega)]; rfl, by omega⟩
    · obtain rfl : i = ss.length := by omega
      repeat (first | exact trivial | refine stp ?_ | refine ldCg ?_ | refine ldNg ?_ | refine ldSg ?_ | refine ldSb ?_ | refine bnd ?_ | refine bnd1 ?_ | refine drawQ (by decide +kernel) mixed (by decide +kernel) ?_)
      refine ⟨?_, .go⟩
      rw [List.take_length, List.take_of_length_le (by omega)] at htk
      rw [decide_eq_true htk]
end Go.Proofs.YtieaoldoiahgpaaGreatDoor

/-! Hmi -/
namespace Go.Proofs.YtieaoldoiahgpaaGreatDoor
set_option maxRecDepth 100000
open Go Go.RowKit
set_option linter.unusedVariables false
set_option linter.unusedSimpArgs false
set_option maxHeartbeats 1000000
attribute [local irreducible] vcT opsT qT vcOp Q1 vcPure vcLoad vcStore ldC ldN ldD grdT grdQ vc vcOps vcQ hT
attribute [local irreducible] sumR sumP shaP keyD bucketP branchP

theorem dynCap {P : Program} {g : FuncId} {args caps : Array Value} {w : World} {K : Value → World → Prop} (h : CallB P g (args ++ caps) w K) : YieldVC P (.func (.func g) #[] caps) args w K := ⟨Or.inr ⟨g, #[], caps, rfl, by simpa using h⟩⟩
theorem set_flat {m : List It} {d : Nat} (hs : SortedI m) (hp : Pre d m) (hd : d < 64) : (setB (bmI m d)).flatMap (childI m d) = m := by
  refine Eq.trans ?_ (child_flat hs hp hd)
  rw [setB_bm]
  have : ∀ l : List Nat, (l.filter (hasI m d)).flatMap (childI m d) = l.flatMap (childI m d) := by
    intro l
    induction l with
    | nil => rfl
    | cons a l ih =>
      cases h : hasI m d a
      · rw [List.filter_cons_of_neg (by simp [h]), ih, List.flatMap_cons]
        have e : childI m d a = [] := by unfold hasI at h; simpa using h
        rw [e, List.nil_append]
      · rw [List.filter_cons_of_pos h, List.flatMap_cons, List.flatMap_cons, ih]
  exact this _
/-- What a walk of all pairs has gathered: the list lies in lb, the walk itself in wb. -/
structure AccAt (W : World) (lb wb B : Nat) (qs : List PR) : Prop where
  row : ∃ a c, Blk W lb 22 [.slice a qs.length c] ∧ Own W B 48 2 (.slice a qs.length c) qs.length (qs.flatMap PR.cells)
  run : RunB W W.heap.size B (qs.flatMap prB)
  fn : Blk W wb 120 [.func (.func 68) #[] #[.pointer (some ⟨lb, 0, none⟩), .pointer (some ⟨wb, 0, none⟩)]]
  lo : lb < B ∧ wb < B ∧ lb ≠ wb ∧ B ≤ W.heap.size
theorem RunB.put {w w' : World} {hi b T U : Nat} {l vs : List Value} (hB : Blk w b T l) (hne : T ≠ 5) (hP : Put w w' b U vs) : ∀ {l : List (Value × List UInt8)} {lo : Nat}, RunB w hi lo l → RunB w' hi lo l
  | [], lo, h => h
  | (v, xs) :: r, lo, h => by obtain ⟨mid, h1, h2, h3⟩ := h; exact ⟨mid, h1, ⟨h2.own.put hB hne hP, h2.top⟩, RunB.put hB hne hP h3⟩
theorem pairs1_ok (n : Int) (hw : widB n = true) (S : Nat → Prop) (w0 : World) (lb wb B : Nat) (hlb : w0.heap.size ≤ lb) (hwb : w0.heap.size ≤ wb) : ∀ (f d : Nat) (m : List It) (nv : Value) (qs : List PR) (w : World), AtN n S w0 f d m nv → OkI n m → Pre d m → d + f = 64 → Ext w0 w → AccAt w lb wb B qs → qs.length + m.length ≤ 1000000000 →
    CallK Tryz.prog 68 [nv, .pointer (some ⟨lb, 0, none⟩), .pointer (some ⟨wb, 0, none⟩)].toArray w fun v w' => ∃ qs', qs'.map PR.dat = m.map It.pr ∧ AccAt w' lb wb B (qs ++ qs') ∧ Ext w0 w' := by
  intro f
  induction f using Nat.strongRecOn with
  | ind f ih =>
    intro d m nv qs w hA hO hP hdf hE hacc hml
    have hz := hE.size
    rcases hA.cases with ⟨rfl, rfl⟩ | ⟨hne, hs, b4, pv, ps, rfl, hb⟩ | ⟨hs, f', hf', b4, kv4, vs, rfl, hb, hkids⟩
    · refine enterT Tryz.func68 rfl Tryz.ntmps68 Tryz.results68 rfl (by decide) ?_
      repeat (first | exact trivial | refine stp ?_ | refine ldCg ?_ | refine ldNg ?_ | refine ldSg ?_ | refine ldSb ?_ | refine bnd ?_ | refine bnd1 ?_ | refine drawQ (by decide +kernel) mixed (by decide +kernel) ?_)
      exact ⟨[], rfl, by rw [List.append_nil]; exact hacc, hE⟩
    · obtain ⟨⟨a, c, hBl, hOl⟩, hRl, hFn, hlo⟩ := hacc
      have hB4 := hb.blk
      have hhl : (vbs (headD m)).length = 32 := by rw [vbs_len]; exact headD_len (n := n) hne hO.len
      have hpl : ps.length = m.length := by have := congrArg List.length hb.dat; simpa using this
      have hpa := hb.prs.at
      obtain ⟨pa, cp, rfl⟩ := slv_of hpa.1
      have hel : ∀ p ∈ ps, p.k.length ≤ 4000000000 ∧ p.v.length ≤ 4000000000 := fun p hp => by
        obtain ⟨y, hy, he⟩ := List.mem_map.1 (hb.dat ▸ List.mem_map_of_mem (f := PR.dat) hp)
        have := hO.short y hy
        simp only [It.pr, PR.dat, Prod.mk.injEq] at he
        rw [he.1, he.2] at this
        omega
      have hB432 : (vbs (headD m) ++ [.slice pa ps.length cp] ++ vbs (bkD n m))[32]? = some (.slice pa ps.length cp) := by
        rw [List.append_assoc, List.getElem?_append_right (by omega), hhl]; rfl
      rw [List.append_assoc] at hB432
      refine enterT Tryz.func68 rfl Tryz.ntmps68 Tryz.results68 rfl (by decide) ?_
      repeat (first | exact trivial | refine stp ?_ | refine ldCg ?_ | refine ldNg ?_ | refine ldSg ?_ | refine ldSb ?_ | refine bnd ?_ | refine bnd1 ?_ | refine drawQ (by decide +kernel) mixed (by decide +kernel) ?_)
      refine drawH (fun W => Ext w0 W ∧ Blk W lb 22 [.slice a qs.length c]) [0, 1, 2, 3, 4, 5, 6, 7] mixed (by decide +kernel) (fun w1 hE1 hh => ⟨⟨hE.trans' hE1, hBl.ext hE1⟩, ?_⟩)
      have hz1 := hE1.size
      repeat (first | exact trivial | refine stp ?_ | refine ldCg ?_ | refine ldNg ?_ | refine ldSg ?_ | refine ldSb ?_ | refine bnd ?_ | refine bnd1 ?_ | refine drawQ (by decide +kernel) mixed (by decide +kernel) ?_)
      refine loadS_of (.slice a qs.length c) (fun w' h => by refine stp ?_; exact ldCg rfl h.2) ?_
      repeat (first | exact trivial | refine stp ?_ | refine ldCg ?_ | refine ldNg ?_ | refine ldSg ?_ | refine ldSb ?_ | refine bnd ?_ | refine bnd1 ?_ | refine drawQ (by decide +kernel) mixed (by decide +kernel) ?_)
      refine loadS_of (.slice pa ps.length cp) (fun w' h => by refine stp ?_; exact ldCg rfl (hB4.ext h.1) hB432) ?_
      repeat (first | exact trivial | refine stp ?_ | refine ldCg ?_ | refine ldNg ?_ | refine ldSg ?_ | refine ldSb ?_ | refine bnd ?_ | refine bnd1 ?_ | refine drawQ (by decide +kernel) mixed (by decide +kernel) ?_)
      refine (copies_ok ps _ w1 (hpa.ext .go) (by omega) hel).mono ?_
      rintro v2 w2 ⟨rs, hO2, hd2, hR2, hE2⟩
      have hz2 := hE2.size
      refine toldS ⟨.go, .go⟩ ?_
      repeat (first | exact trivial | refine stp ?_ | refine ldCg ?_ | refine ldNg ?_ | refine ldSg ?_ | refine ldSb ?_ | refine bnd ?_ | refine bnd1 ?_ | refine drawQ (by decide +kernel) mixed (by decide +kernel) ?_)
      have hrl : rs.length = ps.length := by have := congrArg List.length hd2; simpa using this
      have hOl2 := hOl.ext (hE1.trans' hE2)
      have hBl2 := hBl.ext (hE1.trans' hE2)
      refine apS (sz := 2) (n := qs.length) (m := rs.length) Tryz.underlying22 z48 c48 rfl (by decide) hOl2 (by omega) (SlC.of_own hO2) hO2.1 (fun u hu => ?_) (by omega) (by rw [by48]; omega) (fun v3 w3 hO3 hg3 => ?_)
      · obtain ⟨p, hp, hu⟩ := List.mem_flatMap.1 hu
        have h1 := (hR2.mem (p.kv, p.k) (List.mem_flatMap.2 ⟨p, hp, by simp [prB]⟩)).sl
        have h2 := (hR2.mem (p.vv, p.v) (List.mem_flatMap.2 ⟨p, hp, by simp [prB]⟩)).sl
        obtain ⟨a1, c1, e1⟩ := slv_of h1
        obtain ⟨a2, c2, e2⟩ := slv_of h2
        simp only at e1 e2
        simp only [PR.cells, List.mem_cons, List.not_mem_nil, or_false] at hu
        rcases hu with rfl | rfl
        · rw [e1]; rfl
        · rw [e2]; rfl
      have hE3 := below_of_grown hOl2 (by omega) hg3
      have hz3 := hE3.size
      have hBl3 : Blk w3 lb 22 [.slice a qs.length c] := ⟨by rw [hg3.block _ hBl2.lt (fun e => hOl2.not_blk hBl2 (by decide) e.symm)]; exact hBl2.out⟩
      have hR3 : RunB w3 w3.heap.size B ((qs ++ rs).flatMap prB) := by
        rw [List.flatMap_append]
        refine RunB.append (m := w.heap.size) (RunB.grown hOl2 (by decide) hg3 (hRl.ext (hE1.trans' hE2))) ?_
        exact RunB.append (l := []) (m := w1.heap.size) hz1 ((RunB.grown hOl2 (by decide) hg3 hR2).top hz3)
      have hF2 := hFn.ext (hE1.trans' hE2)
      have hF3 : Blk w3 wb 120 _ := ⟨by rw [hg3.block _ hF2.lt (fun e => hOl2.not_blk hF2 (by decide) e.symm)]; exact hF2.out⟩
      rw [← List.flatMap_append, ← List.length_append] at hO3
      have hd3 : rs.map PR.dat = m.map It.pr := by rw [hd2, hb.dat]
      obtain ⟨a3, c3, rfl⟩ := own_slice hO3
      have hE03 : Ext w0 w3 := .go
      refine toldS ⟨hE03, hBl3⟩ ?_
      repeat (first | exact trivial | refine stp ?_ | refine ldCg ?_ | refine ldNg ?_ | refine ldSg ?_ | refine ldSb ?_ | refine bnd ?_ | refine bnd1 ?_ | refine drawQ (by decide +kernel) mixed (by decide +kernel) ?_)
      refine stC ?_
      intro w4 hP4 hz4 hB4'
      refine toldZ ?_
      repeat (first | exact trivial | refine stp ?_ | refine ldCg ?_ | refine ldNg ?_ | refine ldSg ?_ | refine ldSb ?_ | refine bnd ?_ | refine bnd1 ?_ | refine drawQ (by decide +kernel) mixed (by decide +kernel) ?_)
      refine ⟨rs, hd3, ⟨⟨a3, c3, hB4', hO3.put hBl3 (by decide) hP4⟩, ?_, ?_, ?_⟩, ?_⟩
      · rw [hz4]; exact RunB.put hBl3 (by decide) hP4 hR3
      · have hne := hlo.2.2.1
        exact .go
      · omega
      · exact .go
    · obtain ⟨⟨a, c, hBl, hOl⟩, hRl, hFn, hlo⟩ := hacc
      have hB4 := hb.blk
      have hkv := hb.kids
      have hvl := hb.len
      have hc16 := cnt_le (bmI m d)
      obtain ⟨ka, kc, rfl⟩ := slv_of hkv.sl
      have hsl : (setB (bmI m d)).length = vs.length := by rw [hvl]; rfl
      refine enterT Tryz.func68 rfl Tryz.ntmps68 Tryz.results68 rfl (by decide) ?_
      repeat (first | exact trivial | refine stp ?_ | refine ldCg ?_ | refine ldNg ?_ | refine ldSg ?_ | refine ldSb ?_ | refine bnd ?_ | refine bnd1 ?_ | refine drawQ (by decide +kernel) mixed (by decide +kernel) ?_)
      refine loopX (ι := Nat × List PR) (fun x => [(2, .pointer (some ⟨wb, 0, none⟩)), (25, .slice ka vs.length kc), (26, .int .i64 vs.length), (27, .int .i64 x.1)])
        (fun x W => Ext w0 W ∧ x.1 ≤ vs.length ∧ x.2.map PR.dat = (((setB (bmI m d)).take x.1).flatMap (childI m d)).map It.pr ∧ AccAt W lb wb B (qs ++ x.2)) (fun x => vs.length - x.1) (0, []) ⟨hE, Nat.zero_le _, rfl, by rw [List.append_nil]; exact ⟨⟨a, c, hBl, hOl⟩, hRl, hFn, hlo⟩⟩ ?_ ?_
      · repeat (first | exact trivial | refine stp ?_ | refine ldCg ?_ | refine ldNg ?_ | refine ldSg ?_ | refine ldSb ?_ | refine bnd ?_ | refine bnd1 ?_ | refine drawQ (by decide +kernel) mixed (by decide +kernel) ?_)
      · rintro ⟨j, rs⟩ s1 w1 ⟨hE1, hj, hrd, hacc1⟩
        simp only at hj hrd hacc1
        have hz1 := hE1.size
        have hF1 := hacc1.fn
        repeat (first | exact trivial | refine stp ?_ | refine ldCg ?_ | refine ldNg ?_ | refine ldSg ?_ | refine ldSb ?_ | refine bnd ?_ | refine bnd1 ?_ | refine drawQ (by decide +kernel) mixed (by decide +kernel) ?_)
        refine ⟨fun hlt => ?_, fun hge => ?_⟩
        · obtain ⟨cj, hcj⟩ : ∃ cj, (setB (bmI m d))[j]? = some cj := ⟨_, List.getElem?_eq_getElem (by omega)⟩
          have hmem := mem_setB.1 (List.mem_of_getElem? hcj)
          rw [bmI_bit] at hmem
          have hhj : hasI m d cj = true := (Bool.and_eq_true_iff.1 hmem.2).2
          obtain ⟨x, hx, hNx⟩ := hkids cj hhj
          rw [rank_of hcj] at hx
          obtain ⟨b7, o7, rfl, hR7⟩ := vs_get hkv (by omega)
          repeat (first | exact trivial | refine stp ?_ | refine ldCg ?_ | refine ldNg ?_ | refine ldSg ?_ | refine ldSb ?_ | refine bnd ?_ | refine bnd1 ?_ | refine drawQ (by decide +kernel) mixed (by decide +kernel) ?_)
          refine ldRowF (f := fun v : Value => [v]) 0 hx ?_
          repeat (first | exact trivial | refine stp ?_ | refine ldCg ?_ | refine ldNg ?_ | refine ldSg ?_ | refine ldSb ?_ | refine bnd ?_ | refine bnd1 ?_ | refine drawQ (by decide +kernel) mixed (by decide +kernel) ?_)
          have htk : (setB (bmI m d)).take (j + 1) = (setB (bmI m d)).take j ++ [cj] := by
            obtain ⟨hil, he⟩ := List.getElem?_eq_some_iff.1 hcj
            rw [List.take_succ_eq_append_getElem hil, he]
          have hlen : rs.length + (childI m d cj).length ≤ m.length := by
            have h1 := congrArg List.length hrd
            have h2 := congrArg List.length (set_flat hO.sorted hP (by omega : d < 64))
            rw [← List.take_append_drop (j + 1) (setB (bmI m d)), List.flatMap_append, htk, List.flatMap_append, List.flatMap_cons, List.flatMap_nil, List.append_nil] at h2
            simp only [List.length_append, List.length_map] at h1 h2
            omega
          refine dynCap ((ih f' (by omega) (d + 1) (childI m d cj) x (qs ++ rs) w1 ⟨fun e => absurd e (child_ne hhj), fun _ => hNx⟩ (hO.child _ _) (hP.child _) (by omega) hE1 hacc1 (by rw [List.length_append]; omega)).mono ?_ |>.body (by kernel_rfl))
          rintro _ w2 ⟨rs', hrd', hacc2, hE2⟩
          have hz2 := hE2.size
          rw [List.append_assoc] at hacc2
          repeat (first | exact trivial | refine stp ?_ | refine ldCg ?_ | refine ldNg ?_ | refine ldSg ?_ | refine ldSb ?_ | refine bnd ?_ | refine bnd1 ?_ | refine drawQ (by decide +kernel) mixed (by decide +kernel) ?_)
          refine ⟨(j + 1, rs ++ rs'), ⟨hE2, by omega, ?_, hacc2⟩, by rw [w64 (by omega) (by omega)]; rfl, by simp only; omega⟩
          simp only
          rw [List.map_append, hrd, hrd', htk, List.flatMap_append, List.map_append, List.flatMap_cons, List.flatMap_nil, List.append_nil]
        · obtain rfl : j = vs.length := by omega
          rw [List.take_of_length_le (by omega), set_flat hO.sorted hP (by omega)] at hrd
          repeat (first | exact trivial | refine stp ?_ | refine ldCg ?_ | refine ldNg ?_ | refine ldSg ?_ | refine ldSb ?_ | refine bnd ?_ | refine bnd1 ?_ | refine drawQ (by decide +kernel) mixed (by decide +kernel) ?_)
          exact ⟨rs, hrd, hacc1, hE1⟩
theorem Pairs_hamt_ok (n : Int) (hw : widB n = true) (S : Nat → Prop) (mv : Value) (m : List It) (w : World) (h : MapAt n S w mv m) (hO : OkI n m) (hml : m.length ≤ 1000000000) :
    CallK Tryz.prog 33 [mv].toArray w fun v w' => ∃ qs : List PR, Own w' w.heap.size 48 2 v qs.length (qs.flatMap PR.cells) ∧ RunB w' w'.heap.size w.heap.size (qs.flatMap prB) ∧ qs.map PR.dat = m.map It.pr ∧ Ext w w' := by
  obtain ⟨b, top, rfl, hS, hB, hT1, hT2⟩ := h
  have hbl := hB.lt
  refine enterT Tryz.func33 rfl Tryz.ntmps33 Tryz.results33 rfl (by decide) ?_
  repeat (first | exact trivial | refine stp ?_ | refine ldCg ?_ | refine ldNg ?_ | refine ldSg ?_ | refine ldSb ?_ | refine bnd ?_ | refine bnd1 ?_ | refine drawQ (by decide +kernel) mixed (by decide +kernel) ?_)
  first | refine newS ?_ | refine newZ ?_
  intro w1 hE1 hz1 hB1
  first | refine newS ?_ | refine newZ ?_
  intro w2 hE2 hz2 hB2
  have hB2' : Blk w2 w1.heap.size 120 [.nilFunc] := hB2
  clear hB2
  refine stC ?_
  intro w3 hP3 hz3 hB3
  repeat (first | exact trivial | refine stp ?_ | refine ldCg ?_ | refine ldNg ?_ | refine ldSg ?_ | refine ldSb ?_ | refine bnd ?_ | refine bnd1 ?_)
  refine drawX (.of [0, 1, 2, 3, 4, 5]) mixed (by decide +kernel) (fun w4 hE4 hz4 => ?_)
  repeat (first | exact trivial | refine stp ?_ | refine ldCg ?_ | refine ldNg ?_ | refine ldSg ?_ | refine ldSb ?_ | refine bnd ?_ | refine bnd1 ?_ | refine drawQ (by decide +kernel) mixed (by decide +kernel) ?_)
  refine dynCap ((pairs1_ok n hw S w w.heap.size w1.heap.size w2.heap.size (Nat.le_refl _) (by omega) 64 0 m top [] w4 ⟨hT1, hT2⟩ hO hO.pre rfl .go ⟨⟨none, 0, .go, Own.nil _ _ _ _⟩, by show w2.heap.size ≤ w4.heap.size; omega, .go, by omega⟩ (by simp only [List.length_nil]; omega)).mono ?_ |>.body (by kernel_rfl))
  rintro _ w5 ⟨qs, hqd, ⟨⟨a, c, hB5, hO5⟩, hR5, _, hl5⟩, hE5⟩
  rw [List.nil_append] at hB5 hO5 hR5
  refine toldZ ?_
  repeat (first | exact trivial | refine stp ?_ | refine ldCg ?_ | refine ldNg ?_ | refine ldSg ?_ | refine ldSb ?_ | refine bnd ?_ | refine bnd1 ?_ | refine drawQ (by decide +kernel) mixed (by decide +kernel) ?_)
  exact ⟨qs, hO5.base (by omega), RunB.append (l := []) (m := w2.heap.size) (by show w.heap.size ≤ w2.heap.size; omega) hR5, hqd, hE5⟩
end Go.Proofs.YtieaoldoiahgpaaGreatDoor

/-! Lhd -/
namespace Go.Proofs.YtieaoldoiahgpaaGreatDoor
set_option maxRecDepth 100000
open Go Go.RowKit
set_option linter.unusedVariables false
set_option linter.unusedSimpArgs false
set_option maxHeartbeats 4000000
attribute [local irreducible] vcT opsT qT vcOp Q1 vcPure vcLoad vcStore ldC ldN ldD grdT grdQ vc vcOps vcQ hT
attribute [local irreducible] sumR sumP shaP keyD bucketP branchP

def okP (p : PR) : Bool := decide (¬ (64 < p.k.length ∨ 256 < p.v.length))
theorem short_dat (ps : List PR) : (ps.filter okP).map PR.dat = shortP (ps.map PR.dat) := by
  unfold shortP
  rw [List.filter_map]
  rfl
theorem short_ok (ps : List PR) (pv : Value) (w : World) (hp : PairsAt w pv ps) (hpl : ps.length ≤ 90000000) :
    CallK Tryz.prog 25 [pv].toArray w fun v w' => PairsAt w' v (ps.filter okP) ∧ Own w' w.heap.size 48 2 v (ps.filter okP).length ((ps.filter okP).flatMap PR.cells) ∧ Ext w w' := by
  obtain ⟨hp1, hp2⟩ := hp
  obtain ⟨pa, cp, rfl⟩ := slv_of hp1
  refine enterT Tryz.func25 rfl Tryz.ntmps25 Tryz.results25 rfl (by decide) ?_
  repeat (first | exact trivial | refine stp ?_ | refine ldCg ?_ | refine ldNg ?_ | refine ldSg ?_ | refine ldSb ?_ | refine bnd ?_ | refine bnd1 ?_ | refine drawQ (by decide +kernel) mixed (by decide +kernel) ?_)
  refine loopX (ι := Nat × Option Addr × Nat) (fun x => [(3, .slice x.2.1 ((ps.take x.1).filter okP).length x.2.2), (6, .slice pa ps.length cp), (7, .int .i64 ps.length), (8, .int .i64 x.1)])
    (fun x W => Ext w W ∧ x.1 ≤ ps.length ∧ Own W w.heap.size 48 2 (.slice x.2.1 ((ps.take x.1).filter okP).length x.2.2) ((ps.take x.1).filter okP).length (((ps.take x.1).filter okP).flatMap PR.cells)) (fun x => ps.length - x.1) (0, none, 0) ⟨.go, Nat.zero_le _, Own.nil _ _ _ _⟩ ?_ ?_
  · repeat (first | exact trivial | refine stp ?_ | refine ldCg ?_ | refine ldNg ?_ | refine ldSg ?_ | refine ldSb ?_ | refine bnd ?_ | refine bnd1 ?_ | refine drawQ (by decide +kernel) mixed (by decide +kernel) ?_)
    rfl
  · rintro ⟨i, a1, c1⟩ s1 w1 ⟨hE1, hi, hO1⟩
    simp only at hi hO1
    have hz1 := hE1.size
    repeat (first | exact trivial | refine stp ?_ | refine ldCg ?_ | refine ldNg ?_ | refine ldSg ?_ | refine ldSb ?_ | refine bnd ?_ | refine bnd1 ?_ | refine drawQ (by decide +kernel) mixed (by decide +kernel) ?_)
    refine ⟨fun hlt => ?_, fun hge => ?_⟩
    · obtain ⟨b, o, rfl, hR⟩ := pr_row hp1 (by omega)
      obtain ⟨p, hx⟩ : ∃ x, ps[i]? = some x := ⟨_, List.getElem?_eq_getElem (by omega)⟩
      obtain ⟨hpk, hpv⟩ := hp2 _ (List.mem_of_getElem? hx)
      have htk : ps.take (i + 1) = ps.take i ++ [p] := by
        obtain ⟨hil, he⟩ := List.getElem?_eq_some_iff.1 hx
        rw [List.take_succ_eq_append_getElem hil, he]
      obtain ⟨kv, vv, k, v⟩ := p
      simp only at hpk hpv
      obtain ⟨ka, kc, rfl⟩ := slv_of hpk
      obtain ⟨va, vc', rfl⟩ := slv_of hpv
      have hfl : ((ps.take i).filter okP).length ≤ i := Nat.le_trans (List.length_filter_le _ _) (by rw [List.length_take]; omega)
      repeat (first | exact trivial | refine stp ?_ | refine ldCg ?_ | refine ldNg ?_ | refine ldSg ?_ | refine ldSb ?_ | refine bnd ?_ | refine bnd1 ?_ | refine drawQ (by decide +kernel) mixed (by decide +kernel) ?_)
      refine ldPair hx ?_
      repeat (first | exact trivial | refine stp ?_ | refine ldCg ?_ | refine ldNg ?_ | refine ldSg ?_ | refine ldSb ?_ | refine bnd ?_ | refine bnd1 ?_ | refine drawQ (by decide +kernel) mixed (by decide +kernel) ?_)
      first | refine newS ?_ | refine newZ ?_
      intro w2 hE2 hz2 hB2
      repeat (first | exact trivial | refine stp ?_ | refine ldCg ?_ | refine ldNg ?_ | refine ldSg ?_ | refine ldSb ?_ | refine bnd ?_ | refine bnd1 ?_ | refine drawQ (by decide +kernel) mixed (by decide +kernel) ?_)
      refine (CheckPairR_ok k v _ _ w2 (hpk.ext .go) (hpv.ext .go)).mono ?_
      rintro _ w3 ⟨rfl, hE3⟩
      have hz3 := hE3.size
      by_cases hc : 64 < k.length ∨ 256 < v.length
      · rw [if_pos hc]
        have hfe : (ps.take (i + 1)).filter okP = (ps.take i).filter okP := by
          rw [htk, List.filter_append, List.filter_cons_of_neg (by unfold okP; rw [decide_eq_true_eq]; exact fun h => h hc), List.filter_nil, List.append_nil]
        repeat (first | exact trivial | refine stp ?_ | refine ldCg ?_ | refine ldNg ?_ | refine ldSg ?_ | refine ldSb ?_ | refine bnd ?_ | refine bnd1 ?_ | refine drawQ (by decide +kernel) mixed (by decide +kernel) ?_)
        refine ⟨(i + 1, a1, c1), ⟨.go, by simp only; omega, by simp only; rw [hfe]; exact hO1.ext .go⟩, ⟨by simp only; rw [hfe], by rw [w64 (by omega) (by omega)]; rfl⟩, by simp only; omega⟩
      · rw [if_neg hc]
        have hfe : (ps.take (i + 1)).filter okP = (ps.take i).filter okP ++ [⟨.slice ka k.length kc, .slice va v.length vc', k, v⟩] := by
          rw [htk, List.filter_append, List.filter_cons_of_pos (by unfold okP; rw [decide_eq_true_eq]; exact hc), List.filter_nil]
        repeat (first | exact trivial | refine stp ?_ | refine ldCg ?_ | refine ldNg ?_ | refine ldSg ?_ | refine ldSb ?_ | refine bnd ?_ | refine bnd1 ?_ | refine drawQ (by decide +kernel) mixed (by decide +kernel) ?_)
        refine ⟨rfl, rfl, ?_⟩
        first | refine newS ?_ | refine newZ ?_
        intro w4 hE4 hz4 hB4
        refine apPairN (p := ⟨.slice ka k.length kc, .slice va v.length vc', k, v⟩) rfl (hO1.ext .go) (by omega) hB4 rfl rfl (by omega) (fun a6 c6 w6 hO6 hg6 hE6 => ?_)
        have hz6 := hE6.size
        rw [← hfe] at hO6
        rw [show ((ps.take i).filter okP).length + 1 = ((ps.take (i + 1)).filter okP).length from by rw [hfe, List.length_append]; rfl] at hO6 ⊢
        repeat (first | exact trivial | refine stp ?_ | refine ldCg ?_ | refine ldNg ?_ | refine ldSg ?_ | refine ldSb ?_ | refine bnd ?_ | refine bnd1 ?_ | refine drawQ (by decide +kernel) mixed (by decide +kernel) ?_)
        exact ⟨(i + 1, a6, c6), ⟨.go, by simp only; omega, hO6⟩, ⟨rfl, by rw [w64 (by omega) (by omega)]; rfl⟩, by simp only; omega⟩
    · obtain rfl : i = ps.length := by omega
      rw [List.take_length] at hO1 ⊢
      repeat (first | exact trivial | refine stp ?_ | refine ldCg ?_ | refine ldNg ?_ | refine ldSg ?_ | refine ldSb ?_ | refine bnd ?_ | refine bnd1 ?_ | refine drawQ (by decide +kernel) mixed (by decide +kernel) ?_)
      exact ⟨⟨SlC.of_own hO1, fun q hq => ⟨(hp2 q (List.mem_filter.1 hq).1).1.ext hE1, (hp2 q (List.mem_filter.1 hq).1).2.ext hE1⟩⟩, hO1, hE1⟩
theorem RunB.pairsAt {w : World} {lo hi B : Nat} {v : Value} {qs : List PR} (h : RunB w hi lo (qs.flatMap prB)) (hO : Own w B 48 2 v qs.length (qs.flatMap PR.cells)) : PairsAt w v qs :=
  ⟨SlC.of_own hO, fun q hq => ⟨(h.mem (q.kv, q.k) (List.mem_flatMap.2 ⟨q, hq, by simp [prB]⟩)).sl, (h.mem (q.vv, q.v) (List.mem_flatMap.2 ⟨q, hq, by simp [prB]⟩)).sl⟩⟩
theorem tells_ok (n : Nat) (hw : widB n = true) (S : Nat → Prop) (mv lv : Value) (m : List It) (is : List IR) (w : World) (hW : WordsAt w 0) (hM : MapAt n S w mv m) (hO : OkI n m) (hI : ItemsAt w lv is) (hy : is.map IR.y = m) (hml : m.length ≤ 90000000) :
    CallK Tryz.prog 26 [.int .i64 n, mv, lv].toArray w fun v w' => v = .bool true ∧ Ext w w' := by
  have hwn := (widB_iff n).1 hw
  have hil : is.length = m.length := by rw [← hy, List.length_map]
  have hD32 : ∀ y ∈ m, y.D.length = 32 := fun y hy => by rw [hO.dig y hy]; exact keyD_len _ _
  obtain ⟨la, lc, rfl⟩ := slv_of hI.sl
  obtain ⟨b, rfl⟩ : ∃ b, mv = .pointer (some ⟨b, 0, none⟩) := by obtain ⟨b, _, rfl, _⟩ := hM; exact ⟨b, rfl⟩
  refine enterT Tryz.func26 rfl Tryz.ntmps26 Tryz.results26 rfl (by decide) ?_
  repeat (first | exact trivial | refine stp ?_ | refine ldCg ?_ | refine ldNg ?_ | refine ldSg ?_ | refine ldSb ?_ | refine bnd ?_ | refine bnd1 ?_ | refine drawQ (by decide +kernel) mixed (by decide +kernel) ?_)
  refine (Width_hamt_ok n S _ m w hM).mono ?_
  rintro _ w1 ⟨rfl, hE1⟩
  have hz1 := hE1.size
  repeat (first | exact trivial | refine stp ?_ | refine ldCg ?_ | refine ldNg ?_ | refine ldSg ?_ | refine ldSb ?_ | refine bnd ?_ | refine bnd1 ?_ | refine drawQ (by decide +kernel) mixed (by decide +kernel) ?_)
  refine (Len_hamt_ok n S _ m w1 (hM.ext .go) hD32).mono ?_
  rintro _ w2 ⟨rfl, hE2⟩
  have hz2 := hE2.size
  repeat (first | exact trivial | refine stp ?_ | refine ldCg ?_ | refine ldNg ?_ | refine ldSg ?_ | refine ldSb ?_ | refine bnd ?_ | refine bnd1 ?_ | refine drawQ (by decide +kernel) mixed (by decide +kernel) ?_)
  refine ⟨fun _ => ?_, fun h => absurd (show (m.length : Int) = is.length by omega) h⟩
  have hrl : (rootD n m).length = 32 := by unfold rootD; split; exact sumR_len _ _; exact nodeD_len _ _ _ _
  refine (Root_hamt_ok n S _ m w2 (hW.ext .go) (hM.ext .go) hD32).mono ?_
  rintro _ w3 ⟨rfl, hE3⟩
  have hz3 := hE3.size
  repeat (first | exact trivial | refine stp ?_ | refine ldCg ?_ | refine ldNg ?_ | refine ldSg ?_ | refine ldSb ?_ | refine bnd ?_ | refine bnd1 ?_ | refine drawQ (by decide +kernel) mixed (by decide +kernel) ?_)
  refine (RootR_ok n (by omega) (by omega) is m _ w3 (hI.ext .go) hy hO (by omega)).mono ?_
  rintro _ w4 ⟨rfl, hE4⟩
  have hz4 := hE4.size
  repeat (first | exact trivial | refine stp ?_ | refine ldCg ?_ | refine ldNg ?_ | refine ldSg ?_ | refine ldSb ?_ | refine bnd ?_ | refine bnd1 ?_ | refine drawQ (by decide +kernel) mixed (by decide +kernel) ?_)
  refine eqd_lit _ _ _ _ _ _ Tryz.underlying5 c5 hrl hrl ?_
  rw [decide_eq_true (rfl : rootD n m = rootD n m)]
  repeat (first | exact trivial | refine stp ?_ | refine ldCg ?_ | refine ldNg ?_ | refine ldSg ?_ | refine ldSb ?_ | refine bnd ?_ | refine bnd1 ?_ | refine drawQ (by decide +kernel) mixed (by decide +kernel) ?_)
  refine (Pairs_hamt_ok n hw S _ m w4 (hM.ext .go) hO (by omega)).mono ?_
  rintro v5 w5 ⟨qs, hO5, hR5, hd5, hE5⟩
  have hz5 := hE5.size
  obtain ⟨qa, qc, rfl⟩ := own_slice hO5
  have hP5 := hR5.pairsAt hO5
  repeat (first | exact trivial | refine stp ?_ | refine ldCg ?_ | refine ldNg ?_ | refine ldSg ?_ | refine ldSb ?_ | refine bnd ?_ | refine bnd1 ?_ | refine drawQ (by decide +kernel) mixed (by decide +kernel) ?_)
  refine (PairsR_ok is _ w5 (hI.ext .go) (by omega)).mono ?_
  rintro v6 w6 ⟨hP6, hE6⟩
  have hz6 := hE6.size
  obtain ⟨ra, rc, rfl⟩ := slv_of hP6.1
  repeat (first | exact trivial | refine stp ?_ | refine ldCg ?_ | refine ldNg ?_ | refine ldSg ?_ | refine ldSb ?_ | refine bnd ?_ | refine bnd1 ?_ | refine drawQ (by decide +kernel) mixed (by decide +kernel) ?_)
  refine (SamePairs_ok qs (is.map IR.pr) _ _ w6 (hP5.ext .go) (hP6.ext .go)).mono ?_
  rintro _ w7 ⟨rfl, hE7⟩
  have hz7 := hE7.size
  repeat (first | exact trivial | refine stp ?_ | refine ldCg ?_ | refine ldNg ?_ | refine ldSg ?_ | refine ldSb ?_ | refine bnd ?_ | refine bnd1 ?_ | refine drawQ (by decide +kernel) mixed (by decide +kernel) ?_)
  exact ⟨by rw [hd5, pr_dat, hy], .go⟩
theorem reads_ok (n : Nat) (hw : widB n = true) (S : Nat → Prop) (mv lv kv : Value) (m : List It) (is : List IR) (key : List UInt8) (w : World) (hW : WordsAt w 0) (hM : MapAt n S w mv m) (hO : OkI n m) (hI : ItemsAt w lv is) (hy : is.map IR.y = m) (hk : SlB w kv key) (hkl : key.length ≤ 4000000000) (hml : m.length ≤ 90000000) :
    CallK Tryz.prog 27 [.int .i64 n, mv, lv, kv].toArray w fun v w' => v = .bool true ∧ Ext w w' := by
  have hwn := (widB_iff n).1 hw
  have hil : is.length = m.length := by rw [← hy, List.length_map]
  obtain ⟨la, lc, rfl⟩ := slv_of hI.sl
  obtain ⟨ka, kc, rfl⟩ := slv_of hk
  obtain ⟨b, rfl⟩ : ∃ b, mv = .pointer (some ⟨b, 0, none⟩) := by obtain ⟨b, _, rfl, _⟩ := hM; exact ⟨b, rfl⟩
  refine enterT Tryz.func27 rfl Tryz.ntmps27 Tryz.results27 rfl (by decide) ?_
  repeat (first | exact trivial | refine stp ?_ | refine ldCg ?_ | refine ldNg ?_ | refine ldSg ?_ | refine ldSb ?_ | refine bnd ?_ | refine bnd1 ?_ | refine drawQ (by decide +kernel) mixed (by decide +kernel) ?_)
  refine (Twin_ok key _ w hk (by omega)).mono ?_
  rintro _ w1 ⟨g1, hg1, rfl, hB1, hE1⟩
  have hz1 := hE1.size
  repeat (first | exact trivial | refine stp ?_ | refine ldCg ?_ | refine ldNg ?_ | refine ldSg ?_ | refine ldSb ?_ | refine bnd ?_ | refine bnd1 ?_ | refine drawQ (by decide +kernel) mixed (by decide +kernel) ?_)
  refine (Get_hamt_ok n hw S _ _ m key w1 (hW.ext .go) (hM.ext .go) hO (SlC.of_blk hB1 (by omega)) (by omega)).mono ?_
  rintro _ w2 ⟨v2, rfl, hR2, hE2⟩
  have hz2 := hE2.size
  have hS2 := hR2.sl
  obtain ⟨va2, vc2, rfl⟩ := own_slice hR2.own
  repeat (first | exact trivial | refine stp ?_ | refine ldCg ?_ | refine ldNg ?_ | refine ldSg ?_ | refine ldSb ?_ | refine bnd ?_ | refine bnd1 ?_ | refine drawQ (by decide +kernel) mixed (by decide +kernel) ?_)
  refine (Twin_ok key _ w2 (hk.ext .go) (by omega)).mono ?_
  rintro _ w3 ⟨g3, hg3, rfl, hB3, hE3⟩
  have hz3 := hE3.size
  repeat (first | exact trivial | refine stp ?_ | refine ldCg ?_ | refine ldNg ?_ | refine ldSg ?_ | refine ldSb ?_ | refine bnd ?_ | refine bnd1 ?_ | refine drawQ (by decide +kernel) mixed (by decide +kernel) ?_)
  refine (Walk_hamt_ok n hw S _ _ m key w3 (hW.ext .go) (hM.ext .go) hO (SlC.of_blk hB3 (by omega)) (by omega)).mono ?_
  rintro _ w4 ⟨sv, qv, tt, qs, rfl, hOs, hRK, hOq, hRB, htt, hqq, hE4⟩
  have hz4 := hE4.size
  have hSt := hRK.stepsAt hOs
  have hPr := hRB.pairsAt hOq
  obtain ⟨sa, sc, rfl⟩ := own_slice hOs
  obtain ⟨qa, qc, rfl⟩ := own_slice hOq
  repeat (first | exact trivial | refine stp ?_ | refine ldCg ?_ | refine ldNg ?_ | refine ldSg ?_ | refine ldSb ?_ | refine bnd ?_ | refine bnd1 ?_ | refine drawQ (by decide +kernel) mixed (by decide +kernel) ?_)
  refine ⟨fun h64 => ?_, fun h64 => ?_⟩
  · have h64' : 64 < key.length := by omega
    have e1 : tt.length = 0 := by rw [if_pos h64'] at htt; have := congrArg List.length htt; simpa using this
    have e2 : qs.length = 0 := by rw [if_pos h64'] at hqq; have := congrArg List.length hqq; simpa using this
    repeat rw [if_pos h64']
    rw [e1, e2]
    refine ⟨fun _ => ⟨fun _ => ?_, fun h => absurd rfl h⟩, fun h => absurd rfl h⟩
    rw [decide_eq_false (by omega : ¬ key.length ≤ 64), Bool.false_and]
    repeat (first | exact trivial | refine stp ?_ | refine ldCg ?_ | refine ldNg ?_ | refine ldSg ?_ | refine ldSb ?_ | refine bnd ?_ | refine bnd1 ?_ | refine drawQ (by decide +kernel) mixed (by decide +kernel) ?_)
    exact ⟨fun _ => .go, fun h => absurd rfl h⟩
  · have h64' : ¬ 64 < key.length := by omega
    rw [if_neg h64'] at htt hqq hS2
    repeat rw [if_neg h64']
    refine (GetR_ok is m key _ _ w4 (hI.ext .go) hy (hk.ext .go) (by omega)).mono ?_
    rintro _ w5 ⟨⟨r5, rfl, hS5⟩, hE5⟩
    have hz5 := hE5.size
    obtain ⟨ra5, rc5, rfl⟩ := slv_of hS5
    repeat (first | exact trivial | refine stp ?_ | refine ldCg ?_ | refine ldNg ?_ | refine ldSg ?_ | refine ldSb ?_ | refine bnd ?_ | refine bnd1 ?_ | refine drawQ (by decide +kernel) mixed (by decide +kernel) ?_)
    refine (WalkR_ok n (by omega) (by omega) is m key _ _ w5 (hI.ext .go) hy hO (hk.ext .go) (by omega) (by omega)).mono ?_
    rintro _ w6 ⟨sv6, qv6, tt6, qs6, rfl, hSt6, hPr6, htt6, hqq6, hE6⟩
    have hz6 := hE6.size
    obtain ⟨sa6, sc6, rfl⟩ := slv_of hSt6.1
    obtain ⟨qa6, qc6, rfl⟩ := slv_of hPr6.1
    repeat (first | exact trivial | refine stp ?_ | refine ldCg ?_ | refine ldNg ?_ | refine ldSg ?_ | refine ldSb ?_ | refine bnd ?_ | refine bnd1 ?_ | refine drawQ (by decide +kernel) mixed (by decide +kernel) ?_)
    rw [decide_eq_true (by omega : key.length ≤ 64), Bool.true_and]
    refine ⟨fun _ => ?_, fun h => absurd rfl h⟩
    refine (Same_ok _ _ _ _ w6 (hS2.ext .go) (hS5.ext .go)).mono ?_
    rintro _ w7 ⟨rfl, hE7⟩
    have hz7 := hE7.size
    rw [decide_eq_true (rfl : (getI m key).getD [] = (getI m key).getD [])]
    repeat (first | exact trivial | refine stp ?_ | refine ldCg ?_ | refine ldNg ?_ | refine ldSg ?_ | refine ldSb ?_ | refine bnd ?_ | refine bnd1 ?_ | refine drawQ (by decide +kernel) mixed (by decide +kernel) ?_)
    refine (SameSteps_ok tt tt6 _ _ w7 (hSt.ext .go) (hSt6.ext .go)).mono ?_
    rintro _ w8 ⟨rfl, hE8⟩
    have hz8 := hE8.size
    rw [decide_eq_true (by rw [htt, htt6] : tt.map SR.dt = tt6.map SR.dt)]
    repeat (first | exact trivial | refine stp ?_ | refine ldCg ?_ | refine ldNg ?_ | refine ldSg ?_ | refine ldSb ?_ | refine bnd ?_ | refine bnd1 ?_ | refine drawQ (by decide +kernel) mixed (by decide +kernel) ?_)
    refine (SamePairs_ok qs qs6 _ _ w8 (hPr.ext .go) (hPr6.ext .go)).mono ?_
    rintro _ w9 ⟨rfl, hE9⟩
    have hz9 := hE9.size
    repeat (first | exact trivial | refine stp ?_ | refine ldCg ?_ | refine ldNg ?_ | refine ldSg ?_ | refine ldSb ?_ | refine bnd ?_ | refine bnd1 ?_ | refine drawQ (by decide +kernel) mixed (by decide +kernel) ?_)
    exact ⟨by rw [hqq, hqq6], .go⟩
end Go.Proofs.YtieaoldoiahgpaaGreatDoor

/-! Lhe -/
namespace Go.Proofs.YtieaoldoiahgpaaGreatDoor
set_option maxRecDepth 100000
open Go Go.RowKit
set_option linter.unusedVariables false
set_option linter.unusedSimpArgs false
set_option maxHeartbeats 4000000
attribute [local irreducible] vcT opsT qT vcOp Q1 vcPure vcLoad vcStore ldC ldN ldD grdT grdQ vc vcOps vcQ hT
attribute [local irreducible] sumR sumP shaP keyD bucketP branchP

/-- A list of byte lists, each with its slice. -/
def BssAt (w : World) (v : Value) (ks : List (Value × List UInt8)) : Prop := SlC w v ks.length (ks.flatMap fun k => [k.1]) ∧ ∀ k ∈ ks, SlB w k.1 k.2
theorem grownI_short (n : Int) (ps : List PR) : putAll n [] ((ps.filter okP).map PR.dat) = grownI n (ps.map PR.dat) := by rw [short_dat]; rfl
theorem Walks_ok (n : Int) (ps : List PR) (ks : List (Value × List UInt8)) (pv kv : Value) (w : World) (hW : WordsAt w 0) (hp : PairsAt w pv ps) (hk : BssAt w kv ks) (hpl : ∀ p ∈ ps, p.k.length ≤ 4000000000) (hkl : ∀ k ∈ ks, k.2.length ≤ 4000000000) :
    CallK Tryz.prog 5 [.int .i64 n, pv, kv].toArray w fun v w' => v = .bool true ∧ Ext w w' := by
  obtain ⟨pa, pc, rfl⟩ := slv_of hp.1
  obtain ⟨ka, kc, rfl⟩ := slv_of hk.1
  refine enterT Tryz.func5 rfl Tryz.ntmps5 Tryz.results5 rfl (by decide) ?_
  repeat (first | exact trivial | refine stp ?_ | refine ldCg ?_ | refine ldNg ?_ | refine ldSg ?_ | refine ldSb ?_ | refine bnd ?_ | refine bnd1 ?_ | refine drawQ (by decide +kernel) mixed (by decide +kernel) ?_)
  refine (awake14_ok w hW).mono ?_
  rintro _ w1 ⟨rfl, hE1⟩
  have hz1 := hE1.size
  repeat (first | exact trivial | refine stp ?_ | refine ldCg ?_ | refine ldNg ?_ | refine ldSg ?_ | refine ldSb ?_ | refine bnd ?_ | refine bnd1 ?_ | refine drawQ (by decide +kernel) mixed (by decide +kernel) ?_)
  refine ⟨fun _ => .go, fun h200 => ⟨fun _ => .go, fun k200 => ?_⟩⟩
  refine (Width_ok n w1).mono ?_
  rintro _ w2 ⟨rfl, hE2⟩
  have hz2 := hE2.size
  rw [widthB]
  cases hw : widB n
  · repeat (first | exact trivial | refine stp ?_ | refine ldCg ?_ | refine ldNg ?_ | refine ldSg ?_ | refine ldSb ?_ | refine bnd ?_ | refine bnd1 ?_ | refine drawQ (by decide +kernel) mixed (by decide +kernel) ?_)
    exact Ext.go
  have hwn := (widB_iff n).1 hw
  obtain ⟨nn, rfl⟩ : ∃ nn : Nat, n = nn := ⟨n.toNat, by omega⟩
  repeat (first | exact trivial | refine stp ?_ | refine ldCg ?_ | refine ldNg ?_ | refine ldSg ?_ | refine ldSb ?_ | refine bnd ?_ | refine bnd1 ?_ | refine drawQ (by decide +kernel) mixed (by decide +kernel) ?_)
  refine (grown_ok nn ps _ w2 (hW.ext .go) (hp.ext .go) (by omega) hw).mono ?_
  rintro mv w3 ⟨hM3, hE3⟩
  have hz3 := hE3.size
  obtain ⟨b3, rfl⟩ : ∃ b, mv = .pointer (some ⟨b, 0, none⟩) := by obtain ⟨b, _, rfl, _⟩ := hM3; exact ⟨b, rfl⟩
  have hO := grownI_ok nn (ps.map PR.dat)
  have hml := grownI_len nn (ps.map PR.dat)
  rw [List.length_map] at hml
  have hgs := grownI_short nn ps
  generalize grownI nn (ps.map PR.dat) = m at *
  repeat (first | exact trivial | refine stp ?_ | refine ldCg ?_ | refine ldNg ?_ | refine ldSg ?_ | refine ldSb ?_ | refine bnd ?_ | refine bnd1 ?_ | refine drawQ (by decide +kernel) mixed (by decide +kernel) ?_)
  refine (short_ok ps _ w3 (hp.ext .go) (by omega)).mono ?_
  rintro v4 w4 ⟨hP4, hO4, hE4⟩
  have hz4 := hE4.size
  have hsl : (ps.filter okP).length ≤ ps.length := List.length_filter_le _ _
  obtain ⟨a4, c4, rfl⟩ := own_slice hO4
  repeat (first | exact trivial | refine stp ?_ | refine ldCg ?_ | refine ldNg ?_ | refine ldSg ?_ | refine ldSb ?_ | refine bnd ?_ | refine bnd1 ?_ | refine drawQ (by decide +kernel) mixed (by decide +kernel) ?_)
  refine (OfR_ok nn (by omega) (by omega) (ps.filter okP) _ w4 hP4 (fun p hp => by have := (List.mem_filter.1 hp).2; unfold okP at this; rw [decide_eq_true_eq] at this; omega) (by omega)).mono ?_
  rintro v5 w5 ⟨⟨is, hI5, hy⟩, hE5⟩
  have hz5 := hE5.size
  rw [hgs] at hy
  have hil : is.length = m.length := by rw [← hy, List.length_map]
  obtain ⟨la, lc, rfl⟩ := slv_of hI5.sl
  repeat (first | exact trivial | refine stp ?_ | refine ldCg ?_ | refine ldNg ?_ | refine ldSg ?_ | refine ldSb ?_ | refine bnd ?_ | refine bnd1 ?_ | refine drawQ (by decide +kernel) mixed (by decide +kernel) ?_)
  refine (tells_ok nn hw _ _ _ m is w5 (hW.ext .go) (hM3.ext .go) hO hI5 hy (by omega)).mono ?_
  rintro _ w6 ⟨rfl, hE6⟩
  have hz6 := hE6.size
  repeat (first | exact trivial | refine stp ?_ | refine ldCg ?_ | refine ldNg ?_ | refine ldSg ?_ | refine ldSb ?_ | refine bnd ?_ | refine bnd1 ?_ | refine drawQ (by decide +kernel) mixed (by decide +kernel) ?_)
  refine loopX (ι := Nat) (fun i => [(0, .int .i64 nn), (1, .slice pa ps.length pc), (7, .pointer (some ⟨b3, 0, none⟩)), (8, .slice la is.length lc), (38, .slice ka ks.length kc), (39, .int .i64 ks.length), (40, .int .i64 i)])
    (fun i W => Ext w5 W ∧ i ≤ ks.length) (fun i => ks.length - i) 0 ⟨.go, Nat.zero_le _⟩ ?_ ?_
  · repeat (first | exact trivial | refine stp ?_ | refine ldCg ?_ | refine ldNg ?_ | refine ldSg ?_ | refine ldSb ?_ | refine bnd ?_ | refine bnd1 ?_ | refine drawQ (by decide +kernel) mixed (by decide +kernel) ?_)
  · rintro i s7 w7 ⟨hE7, hi⟩
    have hz7 := hE7.size
    repeat (first | exact trivial | refine stp ?_ | refine ldCg ?_ | refine ldNg ?_ | refine ldSg ?_ | refine ldSb ?_ | refine bnd ?_ | refine bnd1 ?_ | refine drawQ (by decide +kernel) mixed (by decide +kernel) ?_)
    refine ⟨fun hlt => ?_, fun hge => ?_⟩
    · obtain ⟨b, o, rfl, hR⟩ := hk.1.row (f := fun k : Value × List UInt8 => [k.1]) (sz := 1) (fun _ _ => rfl) (by decide) (by omega)
      obtain ⟨k, hx⟩ : ∃ x, ks[i]? = some x := ⟨_, List.getElem?_eq_getElem (by omega)⟩
      have hkm := hk.2 k (List.mem_of_getElem? hx)
      have hkl1 := hkl k (List.mem_of_getElem? hx)
      repeat (first | exact trivial | refine stp ?_ | refine ldCg ?_ | refine ldNg ?_ | refine ldSg ?_ | refine ldSb ?_ | refine bnd ?_ | refine bnd1 ?_ | refine drawQ (by decide +kernel) mixed (by decide +kernel) ?_)
      refine ldRowF (f := fun k : Value × List UInt8 => [k.1]) 0 hx ?_
      repeat (first | exact trivial | refine stp ?_ | refine ldCg ?_ | refine ldNg ?_ | refine ldSg ?_ | refine ldSb ?_ | refine bnd ?_ | refine bnd1 ?_ | refine drawQ (by decide +kernel) mixed (by decide +kernel) ?_)
      refine (reads_ok nn hw _ _ _ _ m is k.2 w7 (hW.ext .go) (hM3.ext .go) hO (hI5.ext .go) hy (hkm.ext .go) (by omega) (by omega)).mono ?_
      rintro _ w8 ⟨rfl, hE8⟩
      have hz8 := hE8.size
      repeat (first | exact trivial | refine stp ?_ | refine ldCg ?_ | refine ldNg ?_ | refine ldSg ?_ | refine ldSb ?_ | refine bnd ?_ | refine bnd1 ?_ | refine drawQ (by decide +kernel) mixed (by decide +kernel) ?_)
      exact ⟨i + 1, ⟨.go, by omega⟩, by rw [w64 (by omega) (by omega)]; rfl, by omega⟩
    · repeat (first | exact trivial | refine stp ?_ | refine ldCg ?_ | refine ldNg ?_ | refine ldSg ?_ | refine ldSb ?_ | refine bnd ?_ | refine bnd1 ?_ | refine drawQ (by decide +kernel) mixed (by decide +kernel) ?_)
      refine loopX (ι := Nat) (fun i => [(0, .int .i64 nn), (7, .pointer (some ⟨b3, 0, none⟩)), (8, .slice la is.length lc), (51, .slice pa ps.length pc), (52, .int .i64 ps.length), (53, .int .i64 i)])
        (fun i W => Ext w5 W ∧ i ≤ ps.length) (fun i => ps.length - i) 0 ⟨.go, Nat.zero_le _⟩ ?_ ?_
      · repeat (first | exact trivial | refine stp ?_ | refine ldCg ?_ | refine ldNg ?_ | refine ldSg ?_ | refine ldSb ?_ | refine bnd ?_ | refine bnd1 ?_ | refine drawQ (by decide +kernel) mixed (by decide +kernel) ?_)
      · rintro i s8 w8 ⟨hE8, hi⟩
        have hz8 := hE8.size
        repeat (first | exact trivial | refine stp ?_ | refine ldCg ?_ | refine ldNg ?_ | refine ldSg ?_ | refine ldSb ?_ | refine bnd ?_ | refine bnd1 ?_ | refine drawQ (by decide +kernel) mixed (by decide +kernel) ?_)
        refine ⟨fun hlt => ?_, fun hge => ?_⟩
        · obtain ⟨b, o, rfl, hR⟩ := pr_row hp.1 (by omega)
          obtain ⟨p, hx⟩ : ∃ x, ps[i]? = some x := ⟨_, List.getElem?_eq_getElem (by omega)⟩
          obtain ⟨hpk, hpv⟩ := hp.2 _ (List.mem_of_getElem? hx)
          have hkl1 := hpl p (List.mem_of_getElem? hx)
          obtain ⟨ka1, kc1, hke⟩ := slv_of hpk
          obtain ⟨va1, vc1, hve⟩ := slv_of hpv
          repeat (first | exact trivial | refine stp ?_ | refine ldCg ?_ | refine ldNg ?_ | refine ldSg ?_ | refine ldSb ?_ | refine bnd ?_ | refine bnd1 ?_ | refine drawQ (by decide +kernel) mixed (by decide +kernel) ?_)
          refine ldPair hx ?_
          rw [hke, hve]
          rw [hke] at hpk
          repeat (first | exact trivial | refine stp ?_ | refine ldCg ?_ | refine ldNg ?_ | refine ldSg ?_ | refine ldSb ?_ | refine bnd ?_ | refine bnd1 ?_ | refine drawQ (by decide +kernel) mixed (by decide +kernel) ?_)
          first | refine newS ?_ | refine newZ ?_
          intro w9 hE9 hz9 hB9
          repeat (first | exact trivial | refine stp ?_ | refine ldCg ?_ | refine ldNg ?_ | refine ldSg ?_ | refine ldSb ?_ | refine bnd ?_ | refine bnd1 ?_ | refine drawQ (by decide +kernel) mixed (by decide +kernel) ?_)
          refine (reads_ok nn hw _ _ _ _ m is p.k w9 (hW.ext .go) (hM3.ext .go) hO (hI5.ext .go) hy (hpk.ext .go) (by omega) (by omega)).mono ?_
          rintro _ w10 ⟨rfl, hE10⟩
          have hz10 := hE10.size
          repeat (first | exact trivial | refine stp ?_ | refine ldCg ?_ | refine ldNg ?_ | refine ldSg ?_ | refine ldSb ?_ | refine bnd ?_ | refine bnd1 ?_ | refine drawQ (by decide +kernel) mixed (by decide +kernel) ?_)
          exact ⟨i + 1, ⟨.go, by omega⟩, by rw [w64 (by omega) (by omega)]; rfl, by omega⟩
        · repeat (first | exact trivial | refine stp ?_ | refine ldCg ?_ | refine ldNg ?_ | refine ldSg ?_ | refine ldSb ?_ | refine bnd ?_ | refine bnd1 ?_ | refine drawQ (by decide +kernel) mixed (by decide +kernel) ?_)
          exact .go
end Go.Proofs.YtieaoldoiahgpaaGreatDoor

/-! Row -/
namespace Go.Proofs.YtieaoldoiahgpaaGreatDoor
set_option maxRecDepth 100000
open Go Go.RowKit Go.ChangeShapes Go.WideShapes Go.ChangeAt
set_option linter.unusedVariables false
set_option linter.unusedSimpArgs false

/-- Each of the types can be read and is a row of the table. -/
def rowedT (P : Program) (ts : List TypeId) : Bool := ts.all fun t => P.readableRec t && decide (t < P.types.size)

theorem below_trodAll {H : Type} {enc : TypeId × Value → H} {P : Program} (hl : laidOutB P = true) {W W' : World} (hb : Below W.heap.size W W') :
    ∀ {ts : List TypeId} {vs : List Value} {ds : List (DataW H)} {ps : List MemPlace}, rowedT P ts = true → DataW.TrodAll enc P W 0 (fun _ => true) true ts vs ds ps → (∀ x ∈ ps, x.block < W.heap.size) → DataW.TrodAll enc P W' 0 (fun b => decide (b < W.heap.size)) true ts vs ds ps
  | [], [], [], _, _, h, _ => h
  | [], _ :: _, _, _, _, h, _ => by simp [DataW.TrodAll] at h
  | [], [], _ :: _, _, _, h, _ => by simp [DataW.TrodAll] at h
  | _ :: _, [], _, _, _, h, _ => by simp [DataW.TrodAll] at h
  | _ :: _, _ :: _, [], _, _, h, _ => by simp [DataW.TrodAll] at h
  | t :: ts, v :: vs, d :: ds, ps, hr, h, hlt => by
    obtain ⟨p, q, h1, h2, rfl⟩ := h
    simp only [rowedT, List.all_cons, Bool.and_eq_true, decide_eq_true_eq] at hr
    refine ⟨p, q, Below.trod hl hr.1.1 hr.1.2 h1 hb (fun x hx => hlt x (by simp [hx])), below_trodAll hl hb (by simpa [rowedT] using hr.2) h2 (fun x hx => hlt x (by simp [hx])), rfl⟩

/-- What a law's row asks of the end, given what the walk says: true, and nothing old has turned. -/
theorem law_post {H : Type} {enc : TypeId × Value → H} {P : Program} (hl : laidOutB P = true) {f : Func} {s : ChangeSpec} {tb : TypeId} (hr : f.resultTypes = #[tb]) (hb : P.underlying tb = some .bool)
    (hp : rowedT P f.params.toList = true) (hv : s.vars = []) {W W' : World} {args : Array Value} {ds gs : List (DataW H)} {before : List MemPlace}
    (hW : DataW.Whole enc P f.params.toList s.vars false W args.toList ds gs before)
    (hfn : (s.fn H (ds ++ gs)).results = [.lit (.bool true)] ∧ (s.fn H (ds ++ gs)).args = ds ∧ (s.fn H (ds ++ gs)).vars = gs) (hE : Ext W W') :
    s.post enc P f false true false false W args (.bool true) W' := by
  have hW' := hW
  obtain ⟨p, q, hA, hV, rfl, hfz, hnd⟩ := hW
  refine ⟨ds, gs, p ++ q, [], p, q, hW', ?_, ?_, ?_, hE.frame _, fun h => by cases h⟩
  · rw [hfn.1, hr]
    exact trodAll_cons_mk (shut_bool hb _) trodAll_mk0
  · rw [hfn.2.1]
    exact below_trodAll hl hE hp hA (fun x hx => by simpa using hW'.lt x (by simp [hx]))
  · rw [hfn.2.2]
    rw [hv] at hV ⊢
    obtain ⟨rfl, rfl⟩ := trodVars_none hV
    rfl

theorem CallK.toCalls {P : Program} {f : FuncId} {args : Array Value} {w : World} (h : CallK P f args w fun v w' => v = .bool true ∧ Ext w w') (hb : callable P f = true) : Calls P f args w fun e w' => e = .returned (.bool true) ∧ Ext w w' :=
  (h.body hb).calls.mono fun e w' ⟨v, he, hv, hE⟩ => ⟨by rw [he, hv], hE⟩

/-! ### Arguments opened -/
theorem wf_bounds {k : IntKind} {n : Int} (h : (Lit.int k n).wf = true) : k.min ≤ n ∧ n ≤ k.max := by
  simpa [Lit.wf] using h
theorem cells_u8 {H : Type} {enc : TypeId × Value → H} {P : Program} {w : World} {base : Nat} {sp : Nat → Bool} {held : Bool} {fuel e : Nat} {c : List Value} {x : DataW H × List MemPlace} (he : P.underlying e = some (.int .u8))
    (h : DataW.trod enc P w base sp held fuel e c = some x) : ∃ b : UInt8, c = [vb b] := by
  obtain ⟨n, h1, hx, hw⟩ := DataW.trod_int he h
  have hb := wf_bounds hw
  simp [IntKind.min, IntKind.max, IntKind.signed, IntKind.bits] at hb
  refine ⟨UInt8.ofNat n.toNat, ?_⟩
  rw [h1]
  simp only [vb, UInt8.toNat_ofNat', List.cons.injEq, and_true]
  rw [Nat.mod_eq_of_lt (by omega), Int.toNat_of_nonneg hb.1]

theorem open_num {H : Type} {enc : TypeId × Value → H} {P : Program} {w : World} {base b0 : Nat} {r : Reach} {sp : Nat → Bool} {held : Bool} {t : Nat} {k : IntKind} {v : Value} {d : DataW H} {ps : List MemPlace} (ht : P.underlying t = some (.int k))
    (hval : Value.okWide P w r b0 t v) (hd : DataW.Trod enc P w base sp held t v d ps) : ∃ n : Int, v = .int k n ∧ k.min ≤ n ∧ n ≤ k.max := by
  obtain ⟨n, rfl, _, _, h⟩ := open_int ht hval hd
  exact ⟨n, rfl, wf_bounds h⟩

theorem list_of {α : Type} {p : Nat → α → Prop} : ∀ n, (∀ i, i < n → ∃ x, p i x) → ∃ l : List α, l.length = n ∧ ∀ i x, l[i]? = some x → p i x
  | 0, _ => ⟨[], rfl, by simp⟩
  | n + 1, h => by
    obtain ⟨l, hl, hp⟩ := list_of n (fun i hi => h i (by omega))
    obtain ⟨x, hx⟩ := h n (by omega)
    refine ⟨l ++ [x], by simp [hl], fun i y hy => ?_⟩
    by_cases hi : i < n
    · rw [List.getElem?_append_left (by omega)] at hy; exact hp i y hy
    · rw [List.getElem?_append_right (by omega)] at hy
      have : i - l.length = 0 := by
        rcases Nat.eq_zero_or_pos (i - l.length) with h0 | h0
        · exact h0
        · rw [List.getElem?_eq_none (by simp; omega)] at hy; cases hy
      have e : i = n := by omega
      rw [this] at hy
      simp at hy
      rw [e, ← hy]; exact hx
theorem flat_inv {α : Type} {f : α → List Value} {sz : Nat} (hz : 0 < sz) : ∀ (ds : List α) (j : Nat) (u : Value), (∀ d ∈ ds, (f d).length = sz) → (ds.flatMap f)[j]? = some u → ∃ d, ds[j / sz]? = some d ∧ (f d)[j % sz]? = some u
  | [], j, u, _, h => by simp at h
  | x :: ds, j, u, hs, h => by
    have hx : (f x).length = sz := hs x (by simp)
    simp only [List.flatMap_cons] at h
    by_cases hj : j < sz
    · rw [List.getElem?_append_left (by omega)] at h
      exact ⟨x, by rw [Nat.div_eq_of_lt hj]; rfl, by rw [Nat.mod_eq_of_lt hj]; exact h⟩
    · rw [List.getElem?_append_right (by omega), hx] at h
      obtain ⟨d, h1, h2⟩ := flat_inv hz ds (j - sz) u (fun d hd => hs d (by simp [hd])) h
      refine ⟨d, ?_, ?_⟩
      · rw [Nat.div_eq_sub_div hz (by omega)]; exact h1
      · rw [show j % sz = (j - sz) % sz from by rw [Nat.mod_eq_sub_mod (by omega)]]; exact h2

end Go.Proofs.YtieaoldoiahgpaaGreatDoor

/-! RowU -/
namespace Go.Proofs.YtieaoldoiahgpaaGreatDoor
set_option maxRecDepth 100000
open Go Go.RowKit Go.ChangeShapes Go.WideShapes Go.ChangeAt
set_option linter.unusedVariables false
set_option linter.unusedSimpArgs false

/-! ### Bulk -/
theorem bulk_one {H : Type} (d : DataW H) : 1 ≤ Rows.uptoBulk d := by
  cases d with
  | lit l => cases l <;> simp [Rows.uptoBulk]
  | nil => simp [Rows.uptoBulk]
  | ptr d => simp [Rows.uptoBulk]
  | slice elems spare => simp [Rows.uptoBulk]
  | agg parts => simp [Rows.uptoBulk]
  | iface t d => simp [Rows.uptoBulk]
  | map entries => simp [Rows.uptoBulk]
  | held h => simp [Rows.uptoBulk]
theorem bulk_mem {H : Type} {d : DataW H} {l : List (DataW H)} (h : d ∈ l) : Rows.uptoBulk d ≤ Rows.uptoBulkAll l := by
  induction l with
  | nil => cases h
  | cons x r ih =>
    simp only [Rows.uptoBulkAll]
    cases List.mem_cons.1 h with
    | inl e => subst e; omega
    | inr e => have := ih e; omega
theorem bulk_len {H : Type} (l : List (DataW H)) : l.length ≤ Rows.uptoBulkAll l := by
  induction l with
  | nil => simp [Rows.uptoBulkAll]
  | cons x r ih => have := bulk_one x; simp only [Rows.uptoBulkAll, List.length_cons]; omega
theorem bulk_agg {H : Type} {d : DataW H} {l : List (DataW H)} (h : d ∈ l) : Rows.uptoBulk d ≤ Rows.uptoBulk (.agg l) := by
  have := bulk_mem h
  simp only [Rows.uptoBulk]
  omega
theorem bulk_small {H : Type} {l : List (DataW H)} (hk : Rows.uptoSmall H l = true) : Rows.uptoBulkAll l ≤ 1048576 := by
  simpa [Rows.uptoSmall] using hk

/-! ### Lists opened, wherever they lie -/
section opened
variable {H : Type} {enc : TypeId × Value → H} {w : World} {sp : Nat → Bool} {fuel : Nat} {cs : List Value} {x : DataW H × List MemPlace}
theorem open_slb {α : Type} {f : α → List Value} {q : Nat → α → Prop} {P : Program} {t e sz : Nat} (ht : P.underlying t = some (.slice e)) (hsz : P.cellsOf e = sz) (hz : 0 < sz) (hq : ∀ m n a, m ≤ n → q m a → q n a)
    (hel : ∀ n cs x, DataW.trod enc P w 0 sp true n e cs = some x → ∃ a, f a = cs ∧ q (Rows.uptoBulk x.1) a) (hf : DataW.trod enc P w 0 sp true fuel t cs = some x) :
    ∃ (v : Value) (l : List α), cs = [v] ∧ (∀ a ∈ l, (f a).length = sz) ∧ SlC w v l.length (l.flatMap f) ∧ l.length ≤ Rows.uptoBulk x.1 ∧ ∀ a ∈ l, q (Rows.uptoBulk x.1) a := by
  rcases Go.Deep.open_slice ht hf with ⟨h1, h2⟩ | ⟨a, len, cap, m, n, D, Pl, h1, hb, hlc, hcm, hmm, hx, hall⟩
  · exact ⟨_, [], h1, by simp, ⟨none, 0, rfl, Nat.le_refl _, by decide, Or.inl rfl⟩, by simp, by simp⟩
  · have hlm : len ≤ m := by rw [hmm]; split <;> omega
    have hcm' : cap ≤ 9223372036854775807 := by simpa [maxLen] using hcm
    have hD : ∀ i, i < len → Rows.uptoBulk (D i) ≤ Rows.uptoBulk x.1 := by
      intro i hi
      rw [hx]
      simp only [Rows.uptoBulk]
      have := bulk_mem (d := D i) (l := (List.range len).map D) (List.mem_map.2 ⟨i, by simpa using hi, rfl⟩)
      omega
    have hlen : len ≤ Rows.uptoBulk x.1 := by
      rw [hx]
      simp only [Rows.uptoBulk]
      have := bulk_len ((List.range len).map D)
      simp at this
      omega
    by_cases h0 : len = 0
    · subst h0
      exact ⟨_, [], h1, by simp, ⟨_, cap, rfl, Nat.zero_le _, hcm', Or.inl rfl⟩, by simp, by simp⟩
    · obtain ⟨b, o, s⟩ := a
      have hspot : s = none := by
        obtain ⟨cs', hc, _⟩ := hall 0 (by omega)
        obtain ⟨_, hlen', hcell⟩ := World.cells?_some hc
        have h3 := hcell 0 (by omega)
        rw [hsz] at h3 hlen'
        cases s with
        | none => rfl
        | some s =>
          exfalso
          have h4 : w.cell? ⟨b, o, some s⟩ = cs'[0]? := by
            have : ((⟨b, o, some s⟩ : Addr).add (0 * sz)).add 0 = ⟨b, o, some s⟩ := by simp [Addr.add]
            rw [← this]
            exact h3
          rw [List.getElem?_eq_getElem (by omega)] at h4
          simp only [World.cell?] at h4
          split at h4 <;> simp at h4
      subst hspot
      obtain ⟨l, hl, hp⟩ := list_of (p := fun i (y : α) => (f y).length = sz ∧ (∀ k u, (f y)[k]? = some u → w.cell? ⟨b, o + (i * sz + k), none⟩ = some u) ∧ q (Rows.uptoBulk x.1) y) len (fun i hi => by
        obtain ⟨cs', hc, ht2⟩ := hall i (by omega)
        obtain ⟨y, rfl, hqy⟩ := hel _ _ _ ht2
        obtain ⟨_, hlen', hcell⟩ := World.cells?_some hc
        rw [hsz] at hlen' hcell
        refine ⟨y, hlen', fun k u hk => ?_, hq _ _ _ (hD i hi) hqy⟩
        have hk' : k < sz := by rw [← hlen']; exact (List.getElem?_eq_some_iff.1 hk).1
        have h5 := hcell k hk'
        rw [addr_add, addr_add, hk] at h5
        rwa [Nat.add_assoc] at h5)
      subst h1
      refine ⟨_, l, rfl, fun y hy => ?_, ⟨_, cap, by rw [hl], by omega, hcm', Or.inr ⟨b, o, rfl, fun j u hj => ?_⟩⟩, by omega, fun y hy => ?_⟩
      · obtain ⟨i, hi⟩ := List.getElem?_of_mem hy
        exact (hp i y hi).1
      · obtain ⟨y, h1, h2⟩ := flat_inv hz l j u (fun y hy => by obtain ⟨i, hi⟩ := List.getElem?_of_mem hy; exact (hp i y hi).1) hj
        have := (hp _ y h1).2.1 _ u h2
        rwa [show j / sz * sz + j % sz = j from by rw [Nat.mul_comm]; exact Nat.div_add_mod j sz] at this
      · obtain ⟨i, hi⟩ := List.getElem?_of_mem hy
        exact (hp i y hi).2.2
theorem vb_flat (l : List UInt8) : l.flatMap (fun b => [vb b]) = vbs l := by
  induction l with
  | nil => rfl
  | cons a l ih => simp only [List.flatMap_cons, ih]; rfl
theorem in_bytes (hf : DataW.trod enc Tryz.prog w 0 sp true fuel 23 cs = some x) : ∃ v xs, cs = [v] ∧ SlB w v xs ∧ xs.length ≤ Rows.uptoBulk x.1 := by
  obtain ⟨v, l, h1, _, h3, h4, _⟩ := open_slb (f := fun b => [vb b]) (q := fun _ _ => True) Tryz.underlying23 c5 (by decide) (fun _ _ _ _ h => h) (fun m cs x h => by obtain ⟨y, rfl⟩ := cells_u8 Tryz.underlying5 h; exact ⟨y, rfl, trivial⟩) hf
  rw [vb_flat] at h3
  exact ⟨v, l, h1, h3, h4⟩
theorem in_pair (hf : DataW.trod enc Tryz.prog w 0 sp true fuel 48 cs = some x) : ∃ p : PR, p.cells = cs ∧ SlB w p.kv p.k ∧ SlB w p.vv p.v ∧ p.k.length ≤ Rows.uptoBulk x.1 ∧ p.v.length ≤ Rows.uptoBulk x.1 := by
  obtain ⟨y0, y1, n, rfl, hl, h0, h1⟩ := trod_struct2 Tryz.underlying48 hf
  rw [c48] at hl
  simp only [c23] at h0 h1
  obtain ⟨u, xs, e0, hu, hb0⟩ := in_bytes h0
  obtain ⟨v, ys, e1, hv, hb1⟩ := in_bytes h1
  refine ⟨⟨u, v, xs, ys⟩, ?_, hu, hv, Nat.le_trans hb0 (bulk_agg (by simp)), Nat.le_trans hb1 (bulk_agg (by simp))⟩
  match cs, hl with
  | [a, b], _ =>
    simp at e0 e1
    simp only [PR.cells, e0, e1]
theorem in_pairs (hf : DataW.trod enc Tryz.prog w 0 sp true fuel 22 cs = some x) : ∃ v ps, cs = [v] ∧ PairsAt w v ps ∧ ps.length ≤ Rows.uptoBulk x.1 ∧ ∀ p ∈ ps, p.k.length ≤ Rows.uptoBulk x.1 ∧ p.v.length ≤ Rows.uptoBulk x.1 := by
  obtain ⟨v, l, h1, h2, h3, h4, h5⟩ := open_slb (f := PR.cells) (q := fun m p => SlB w p.kv p.k ∧ SlB w p.vv p.v ∧ p.k.length ≤ m ∧ p.v.length ≤ m) Tryz.underlying22 c48 (by decide) (fun m n a h g => ⟨g.1, g.2.1, Nat.le_trans g.2.2.1 h, Nat.le_trans g.2.2.2 h⟩) (fun m cs x h => by obtain ⟨s, e, g⟩ := in_pair h; exact ⟨s, e, g⟩) hf
  exact ⟨v, l, h1, ⟨h3, fun s hs => ⟨(h5 s hs).1, (h5 s hs).2.1⟩⟩, h4, fun s hs => (h5 s hs).2.2⟩

end opened

end Go.Proofs.YtieaoldoiahgpaaGreatDoor

/-! RowW -/
namespace Go.Proofs.YtieaoldoiahgpaaGreatDoor
set_option maxRecDepth 100000
open Go Go.RowKit Go.ChangeShapes Go.WideShapes Go.ChangeAt
set_option linter.unusedVariables false
set_option linter.unusedSimpArgs false

section opened
variable {H : Type} {enc : TypeId × Value → H} {w : World} {sp : Nat → Bool} {r : Reach} {b0 : Nat} {v : Value} {d : DataW H} {p : List MemPlace}
theorem open_prs (hval : Value.okWide Tryz.prog w r b0 22 v) (hd : DataW.Trod enc Tryz.prog w 0 sp true 22 v d p) : ∃ ps, PairsAt w v ps ∧ ps.length ≤ Rows.uptoBulk d ∧ ∀ q ∈ ps, q.k.length ≤ Rows.uptoBulk d ∧ q.v.length ≤ Rows.uptoBulk d := by
  obtain ⟨a0, len0, cap0, rfl⟩ := okWide_slice Tryz.underlying22 hval
  obtain ⟨fuel, hf⟩ := hd
  obtain ⟨u, ps, h1, h2, h3⟩ := in_pairs hf
  simp [Value.cells] at h1
  subst h1
  exact ⟨ps, h2, h3⟩
end opened

/-! ### The table -/
theorem gTab : Tryz.prog.globalNamed "notary/sha.words" = some 0 := by kernel_rfl
theorem gTabType : (Tryz.prog.globals[0]?).map (·.type) = some 187 := by kernel_rfl
theorem tab_eq {H : Type} : (Rows.laid_notary_sha_words : DataW H) = Lib.tabData .u32 (KW.map fun x => (x.toNat : Int)) := by kernel_rfl
theorem words_of {W : World} (h : laidMetH Tryz.prog [("notary/sha.words", Rows.laid_notary_sha_words)] W) : WordsAt W 0 := by
  have h' : laidMetH Tryz.prog [("notary/sha.words", Lib.tabData .u32 (KW.map fun x => (x.toNat : Int)))] W := by
    rw [← tab_eq]
    exact h
  have ht := Lib.tabIs_of_head (rest := []) gTab gTabType Tryz.underlying187 Tryz.underlying169 c169 c187 h'
  intro j hj
  have hc := ht.cell gTab j (by rw [List.length_map]; exact hj)
  rw [hc]
  have hl : j < KW.length := hj
  simp only [vw, List.getD_eq_getElem?_getD, List.getElem?_map, List.getElem?_eq_getElem hl, Option.map_some, Option.getD_some]

end Go.Proofs.YtieaoldoiahgpaaGreatDoor

/-! RowX -/
namespace Go.Proofs.YtieaoldoiahgpaaGreatDoor
set_option maxRecDepth 100000
open Go Go.RowKit Go.ChangeShapes Go.WideShapes Go.ChangeAt
set_option linter.unusedVariables false
set_option linter.unusedSimpArgs false

section opened
variable {H : Type} {enc : TypeId × Value → H} {w : World} {sp : Nat → Bool} {r : Reach} {b0 : Nat} {v : Value} {d : DataW H} {p : List MemPlace}
theorem open_bss (hval : Value.okWide Tryz.prog w r b0 52 v) (hd : DataW.Trod enc Tryz.prog w 0 sp true 52 v d p) : ∃ ks, BssAt w v ks ∧ ks.length ≤ Rows.uptoBulk d ∧ ∀ k ∈ ks, k.2.length ≤ Rows.uptoBulk d := by
  obtain ⟨a0, len0, cap0, rfl⟩ := okWide_slice Tryz.underlying52 hval
  obtain ⟨fuel, hf⟩ := hd
  obtain ⟨u, l, h1, h2, h3, h4, h5⟩ := open_slb (f := fun k : Value × List UInt8 => [k.1]) (q := fun m k => SlB w k.1 k.2 ∧ k.2.length ≤ m) Tryz.underlying52 c23 (by decide) (fun m n a h g => ⟨g.1, Nat.le_trans g.2 h⟩) (fun m cs x h => by obtain ⟨v, xs, e, g1, g2⟩ := in_bytes h; exact ⟨(v, xs), e.symm, g1, g2⟩) hf
  simp [Value.cells] at h1
  subst h1
  exact ⟨l, ⟨h3, fun k hk => (h5 k hk).1⟩, h4, fun k hk => (h5 k hk).2⟩
end opened
end Go.Proofs.YtieaoldoiahgpaaGreatDoor
