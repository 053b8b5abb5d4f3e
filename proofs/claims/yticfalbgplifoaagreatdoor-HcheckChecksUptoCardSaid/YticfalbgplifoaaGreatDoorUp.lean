/-
  hcheck.child and hcheck.up: the digest to which a proof leads. Conditions: as stated in each theorem.
-/
import Derived.Test.YticfalbgplifoaaGreatDoorIns
import Derived.Test.YticfalbgplifoaaGreatDoorNib
namespace Go.Proofs.YticfalbgplifoaaGreatDoor
set_option maxRecDepth 100000
open Go Go.RowKit
set_option linter.unusedVariables false
set_option linter.unusedSimpArgs false

/-! ### A function that holds a range over a function -/
structure WpM (P : Program) (n : Nat) (c : Code) (s : Fm) (w : World) (R : Exit → Act → World → Prop) (_t : Tag (c, s, R) := ⟨⟩) : Prop where
  out : ∀ a, Fr [] a n s → c.wpIn (FW none) 0 P R a w
theorem peel {P : Program} {n : Nat} {a b : Code} {s : Fm} {w : World} {R : Exit → Act → World → Prop} (h : vcT P n none a s w (seqQ (fun s' w' => WpM P n b s' w' R) (fun _ _ _ => False))) : WpM P n (.seq a b) s w R := by
  refine ⟨fun act hF => wpIn_seq (wpIn_mono (vc_sound a s w _ h [] act hF) ?_)⟩
  rintro e a' w' ⟨s', hF', hq⟩
  cases e
  case normal => exact WpM.out hq a' hF'
  all_goals exact False.elim hq
theorem peelJ {P : Program} {n : Nat} {a b : Code} {s : Fm} {w : World} {R : Exit → Act → World → Prop} (J : Fm → World → Prop) (h : vcT P n none a s w (seqQ J (fun _ _ _ => False))) (h2 : ∀ s' w', J s' w' → WpM P n b s' w' R) : WpM P n (.seq a b) s w R := by
  refine ⟨fun act hF => wpIn_seq (wpIn_mono (vc_sound a s w _ h [] act hF) ?_)⟩
  rintro e a' w' ⟨s', hF', hq⟩
  cases e
  case normal => exact (h2 _ _ hq).out a' hF'
  all_goals exact False.elim hq
theorem peel2 {P : Program} {n : Nat} {a b : Code} {s : Fm} {w : World} {R : Exit → Act → World → Prop} (h : WpM P n a s w (Exit.then (b.wpIn (FW none) 0 P R) R)) : WpM P n (.seq a b) s w R := ⟨fun act hF => wpIn_seq (h.out act hF)⟩
theorem peelB {P : Program} {n id : Nat} {a : Code} {s : Fm} {w : World} {R : Exit → Act → World → Prop} (h : WpM P n a s w (Exit.inBlock id R)) : WpM P n (.block id a) s w R := ⟨fun act hF => wpIn_block (h.out act hF)⟩
/-- The way out behind one range: its block for deferred calls is shut. -/
def postM (P : Program) (n : Nat) (rs : Array ResultVar) (K : Value → World → Prop) : Exit → Act → World → Prop := fun e a w =>
  (e = .normal ∨ e = .ret) ∧ ∃ D s, Fr [{ target := .collected D, args := #[] }] a n s ∧ w.heap[D]? = some (.deferred (some [])) ∧ resVC P rs s (w.putObj D (.deferred none)) fun v => K v (w.putObj D (.deferred none))
theorem enterM {P : Program} {f : FuncId} {fn : Func} {c : Code} {n : Nat} {rs : Array ResultVar} {vs : List Value} {w : World} {K : Value → World → Prop} (hf : P.funcs[f]? = some fn) (hb : fn.body = some c) (hn : fn.ntmps = n)
    (hr : fn.results = rs) (hl : decide (vs.length ≤ n) = true) (hname : (fn.name != "runtime.NumGoroutine") = true) (h : WpM P n c (initFm vs 0) w (postM P n rs K)) : CallK P f vs.toArray w K := by
  refine ⟨Or.inl ⟨by simp [callable, hf, hb, hname], ?_⟩⟩
  refine (callsIn_wide (n := 0)).1 (callsIn_of_wp_marks hf hb trivial ?_)
  rw [hn]
  refine wpIn_mono (h.out _ (Fr_init vs n (of_decide_eq_true hl))) ?_
  rintro e a w' ⟨he, D, s, hF, hD, hq⟩
  obtain ⟨v, hv, hK⟩ := res_of hr hF hq
  have hL : LeavesInM Fence.wide 0 P fn a.tmps (fun e w' => ∃ v, e = .returned v ∧ K v w') a.defers .returning w' := by
    rw [hF.defers]
    exact ⟨by simp, .inl ⟨_, _, rfl, run_takeDeferred hD, v, hv, v, rfl, hK⟩⟩
  rcases he with rfl | rfl
  · exact hL
  · exact hL
/-- The rest of the function behind the range. -/
def retM (P : Program) (rs : Array ResultVar) (D : Nat) (K : Value → World → Prop) : Post := fun e s w =>
  (e = .normal ∨ e = .ret) ∧ w.heap[D]? = some (.deferred (some [])) ∧ resVC P rs s (w.putObj D (.deferred none)) fun v => K v (w.putObj D (.deferred none))
theorem retM_ret {P : Program} {rs : List ResultVar} {D : Nat} {K : Value → World → Prop} {s : Fm} {w : World} : retM P rs.toArray D K .ret s w = (w.heap[D]? = some (.deferred (some [])) ∧ resT P rs s (w.putObj D (.deferred none)) fun v => K v (w.putObj D (.deferred none))) :=
  propext ⟨fun h => h.2, fun h => ⟨Or.inr rfl, h⟩⟩
theorem tailM {P : Program} {n D : Nat} {rs : Array ResultVar} {K : Value → World → Prop} {c : Code} {s : Fm} {w : World} {a : Act} (hF : Fr [] a n s) (h : vcT P n none c s w (retM P rs D K)) :
    c.wpIn (FW none) 0 P (postM P n rs K) { a with defers := { target := .collected D, args := #[] } :: a.defers } w := by
  refine wpIn_mono (vc_sound c s w _ h [{ target := .collected D, args := #[] }] _ ⟨by rw [hF.defers], hF.size, hF.at_⟩) ?_
  rintro e a' w' ⟨s', hF', he, hD, hq⟩
  exact ⟨he, D, s', hF', hD, hq⟩

/-! ### child -/
theorem child_ok (n : Int) (k : List UInt8) (hk : k.length = 32) (i : Int) (w : World) :
    CallK Tryz.prog 48 [.int .i64 n, .agg (vbs k).toArray, .int .i64 i].toArray w fun v w' => v = .int .i64 (atP n k i).1 ∧ Ext w w' := by
  refine enterT Tryz.func48 rfl Tryz.ntmps48 Tryz.results48 rfl (by decide) ?_
  simp only [↓VD, VP, VT, isAggD, reduceCtorEq, Int.reduceEq, Int.reduceNe, Int.reduceLT, Int.reduceLE, implies_true, Nat.reduceEqDiff, reduceIte, ite_true, ite_false, eq_self, Nat.reduceLT, Nat.reduceLeDiff, Nat.reduceAdd, Nat.reduceMul, Nat.reduceSub, intOf]
  intro w1 hN
  refine ldA Tryz.underlying28 rfl hN.blk (by rw [vbs_len, hk, c28]) ?_
  simp only [↓VD, VP, VT, isAggD, reduceCtorEq, Int.reduceEq, Int.reduceNe, Int.reduceLT, Int.reduceLE, implies_true, Nat.reduceEqDiff, reduceIte, ite_true, ite_false, eq_self, Nat.reduceLT, Nat.reduceLeDiff, Nat.reduceAdd, Nat.reduceMul, Nat.reduceSub, intOf]
  refine (At_ok n k hk i w1).mono ?_
  rintro _ w2 ⟨rfl, hE⟩
  simp only [↓VD, VP, VT, isAggD, reduceCtorEq, Int.reduceEq, Int.reduceNe, Int.reduceLT, Int.reduceLE, implies_true, Nat.reduceEqDiff, reduceIte, ite_true, ite_false, eq_self, Nat.reduceLT, Nat.reduceLeDiff, Nat.reduceAdd, Nat.reduceMul, Nat.reduceSub, intOf]
  exact hN.ext.trans' hE

/-! ### up, plainly -/
def brD (n : Int) (bm : Nat) (ds : List (List UInt8)) : List UInt8 := if brE n bm ds = 0 then sumR n (branchP n.toNat bm ds) else List.replicate 32 0
def stepD (n : Int) (k d : List UInt8) (i : Nat) (bm : Nat) (ks : List (List UInt8)) : List UInt8 :=
  brD n bm (if hasB bm (atP n k i).1 = true then insP ks (rankB bm (atP n k i).1) d else ks)
def upF (n : Int) (k : List UInt8) (l : List (Nat × SR)) (d : List UInt8) : List UInt8 := l.foldl (fun d x => stepD n k d x.1 x.2.bm x.2.ks) d
def up0 (n : Int) (ps : List (List UInt8 × List UInt8)) : List UInt8 := if ps = [] then sumR n [5] else sumR n (bucketP ps)
theorem brD_len (n : Int) (bm : Nat) (ds : List (List UInt8)) : (brD n bm ds).length = 32 := by unfold brD; split; exact sumR_len _ _; simp
theorem up0_len (n : Int) (ps : List (List UInt8 × List UInt8)) : (up0 n ps).length = 32 := by unfold up0; split <;> exact sumR_len _ _
theorem upF_len (n : Int) (k : List UInt8) : ∀ (l : List (Nat × SR)) (d : List UInt8), d.length = 32 → (upF n k l d).length = 32
  | [], d, h => h
  | x :: l, d, h => upF_len n k l _ (brD_len _ _ _)
theorem upF_snoc (n : Int) (k : List UInt8) (l : List (Nat × SR)) (x : Nat × SR) (d : List UInt8) : upF n k (l ++ [x]) d = stepD n k (upF n k l d) x.1 x.2.bm x.2.ks := by simp [upF]

theorem up_ok (n : Int) (k : List UInt8) (hk : k.length = 32) (sv pv : Value) (ss : List SR) (ps : List PR) (w : World) (hW : WordsAt w 1) (hs : StepsAt w sv ss) (hp : PairsAt w pv ps)
    (hps : (bucketP (ps.map PR.dat)).length + 16 ≤ 140737488355328) (hss : ∀ s ∈ ss, s.ks.length + 1 ≤ 4000000000) (hr : ∀ (i : Nat) (s : SR), ss[i]? = some s → hasB s.bm (atP n k i).1 = true → rankB s.bm (atP n k i).1 ≤ s.ks.length) :
    CallK Tryz.prog 26 [.int .i64 n, .agg (vbs k).toArray, .agg [sv, pv].toArray].toArray w fun v w' => v = .agg (vbs (upF n k (backL ss) (up0 n (ps.map PR.dat)))).toArray ∧ Ext w w' := by
  refine enterM Tryz.func26 rfl Tryz.ntmps26 Tryz.results26 rfl (by decide) ?_
  refine peel ?_
  simp only [↓VD, VP, VT, isAggD, reduceCtorEq, Int.reduceEq, Int.reduceNe, Int.reduceLT, Int.reduceLE, implies_true, Nat.reduceEqDiff, reduceIte, ite_true, ite_false, eq_self, Nat.reduceLT, Nat.reduceLeDiff, Nat.reduceAdd, Nat.reduceMul, Nat.reduceSub, intOf]
  intro w1 hN1 w2 hN2 w3 hN3 w4 hN4
  rw [vbs_rep] at hN4
  have s1 := hN1.size
  have s2 := hN2.size
  have s3 := hN3.size
  have s4 := hN4.size
  have hE4 : Ext w w4 := ((hN1.ext.trans' hN2.ext).trans' hN3.ext).trans' hN4.ext
  have hB3 := ((hN1.blk.ext hN2.ext).ext hN3.ext).ext hN4.ext
  have hB4 := (hN2.blk.ext hN3.ext).ext hN4.ext
  have hB5 := hN3.blk.ext hN4.ext
  have hB6 := hN4.blk
  generalize w1.heap.size = b4 at *
  generalize w2.heap.size = b5 at *
  generalize w3.heap.size = b6 at *
  refine peel ?_
  simp only [↓VD, VP, VT, isAggD, reduceCtorEq, Int.reduceEq, Int.reduceNe, Int.reduceLT, Int.reduceLE, implies_true, Nat.reduceEqDiff, reduceIte, ite_true, ite_false, eq_self, Nat.reduceLT, Nat.reduceLeDiff, Nat.reduceAdd, Nat.reduceMul, Nat.reduceSub, intOf]
  refine ldAt (pre := []) (post := []) Tryz.underlying3 rfl hB3 rfl ?_
  simp only [↓VD, VP, VT, isAggD, reduceCtorEq, Int.reduceEq, Int.reduceNe, Int.reduceLT, Int.reduceLE, implies_true, Nat.reduceEqDiff, reduceIte, ite_true, ite_false, eq_self, Nat.reduceLT, Nat.reduceLeDiff, Nat.reduceAdd, Nat.reduceMul, Nat.reduceSub, intOf]
  refine (NoMap_ok n w4 (hW.ext hE4)).mono ?_
  rintro _ w5 ⟨rfl, hE5⟩
  have s5 := hE5.size
  simp only [↓VD, VP, VT, isAggD, reduceCtorEq, Int.reduceEq, Int.reduceNe, Int.reduceLT, Int.reduceLE, implies_true, Nat.reduceEqDiff, reduceIte, ite_true, ite_false, eq_self, Nat.reduceLT, Nat.reduceLeDiff, Nat.reduceAdd, Nat.reduceMul, Nat.reduceSub, intOf]
  intro w6 hN6
  rw [vbs_rep] at hN6
  have s6 := hN6.size
  refine stAll hN6.blk rfl (by rw [c28]; decide) (by rw [c28, vbs_len, sumR_len]) (by rw [c28]; simp [vbs]) (vbs_one _) (fun w7 hP7 => ?_)
  have hX : ∀ {b T : Nat} {l : List Value}, Blk w4 b T l → Blk w7 b T l := fun h => hP7.keep ((h.ext hE5).ext hN6.ext) (by have := h.lt; omega)
  have hE7 : Ext w w7 := hE4.trans' ((hE5.trans' hN6.ext).trans (hP7.below (by omega)))
  replace hB3 := hX hB3
  replace hB4 := hX hB4
  replace hB5 := hX hB5
  replace hB6 := hX hB6
  have hB7 := hP7.blk
  have s7 := hP7.size
  generalize w5.heap.size = b7 at *
  simp only [↓VD, VP, VT, isAggD, reduceCtorEq, Int.reduceEq, Int.reduceNe, Int.reduceLT, Int.reduceLE, implies_true, Nat.reduceEqDiff, reduceIte, ite_true, ite_false, eq_self, Nat.reduceLT, Nat.reduceLeDiff, Nat.reduceAdd, Nat.reduceMul, Nat.reduceSub, intOf]
  refine peelJ (fun s' W => s' 3 = .pointer (some ⟨w.heap.size, 0, none⟩) ∧ s' 4 = .pointer (some ⟨b4, 0, none⟩) ∧ s' 5 = .pointer (some ⟨b5, 0, none⟩) ∧ s' 6 = .pointer (some ⟨b6, 0, none⟩) ∧ s' 7 = .pointer (some ⟨b7, 0, none⟩) ∧ Blk W w.heap.size 3 [.int .i64 n] ∧ Blk W b4 28 (vbs k) ∧ Blk W b5 26 [sv, pv] ∧ Blk W b6 28 (vbs (List.replicate 32 0)) ∧ Blk W b7 28 (vbs (up0 n (ps.map PR.dat))) ∧ Ext w W) ?_ ?_
  · simp only [↓VD, VP, VT, isAggD, reduceCtorEq, Int.reduceEq, Int.reduceNe, Int.reduceLT, Int.reduceLE, implies_true, Nat.reduceEqDiff, reduceIte, ite_true, ite_false, eq_self, Nat.reduceLT, Nat.reduceLeDiff, Nat.reduceAdd, Nat.reduceMul, Nat.reduceSub, intOf]
    refine ldAt (pre := [sv]) (post := []) Tryz.underlying24 rfl hB5 rfl ?_
    obtain ⟨av, cv, rfl⟩ := slv_of hp.1
    simp only [↓VD, VP, VT, isAggD, reduceCtorEq, Int.reduceEq, Int.reduceNe, Int.reduceLT, Int.reduceLE, implies_true, Nat.reduceEqDiff, reduceIte, ite_true, ite_false, eq_self, Nat.reduceLT, Nat.reduceLeDiff, Nat.reduceAdd, Nat.reduceMul, Nat.reduceSub, intOf]
    refine ⟨fun hgt => ?_, fun hle => ?_⟩
    · refine ldAt (pre := []) (post := []) Tryz.underlying3 rfl hB3 rfl ?_
      simp only [↓VD, VP, VT, isAggD, reduceCtorEq, Int.reduceEq, Int.reduceNe, Int.reduceLT, Int.reduceLE, implies_true, Nat.reduceEqDiff, reduceIte, ite_true, ite_false, eq_self, Nat.reduceLT, Nat.reduceLeDiff, Nat.reduceAdd, Nat.reduceMul, Nat.reduceSub, intOf]
      refine ldAt (pre := [sv]) (post := []) Tryz.underlying24 rfl hB5 rfl ?_
      simp only [↓VD, VP, VT, isAggD, reduceCtorEq, Int.reduceEq, Int.reduceNe, Int.reduceLT, Int.reduceLE, implies_true, Nat.reduceEqDiff, reduceIte, ite_true, ite_false, eq_self, Nat.reduceLT, Nat.reduceLeDiff, Nat.reduceAdd, Nat.reduceMul, Nat.reduceSub, intOf]
      refine (Bucket_ok n _ ps w7 (hW.ext hE7) (hp.ext hE7) hps).mono ?_
      rintro _ w8 ⟨rfl, hE8⟩
      simp only [↓VD, VP, VT, isAggD, reduceCtorEq, Int.reduceEq, Int.reduceNe, Int.reduceLT, Int.reduceLE, implies_true, Nat.reduceEqDiff, reduceIte, ite_true, ite_false, eq_self, Nat.reduceLT, Nat.reduceLeDiff, Nat.reduceAdd, Nat.reduceMul, Nat.reduceSub, intOf]
      refine stAll (hB7.ext hE8) rfl (by rw [c28]; decide) (by rw [c28, vbs_len, sumR_len]) (by rw [c28, vbs_len, sumR_len]) (vbs_one _) (fun w9 hP9 => ?_)
      simp only [↓VD, VP, VT, isAggD, reduceCtorEq, Int.reduceEq, Int.reduceNe, Int.reduceLT, Int.reduceLE, implies_true, Nat.reduceEqDiff, reduceIte, ite_true, ite_false, eq_self, Nat.reduceLT, Nat.reduceLeDiff, Nat.reduceAdd, Nat.reduceMul, Nat.reduceSub, intOf]
      have hne : ps.map PR.dat ≠ [] := by
        intro h
        rw [List.map_eq_nil_iff] at h
        subst h
        simp at hgt
      have hX : ∀ {b T : Nat} {l : List Value}, Blk w7 b T l → b ≠ b7 → Blk w9 b T l := fun h hb => hP9.keep (h.ext hE8) hb
      refine ⟨hX hB3 (by omega), hX hB4 (by omega), hX hB5 (by omega), hX hB6 (by omega), ?_, hE7.trans' hE8 |>.trans (hP9.below (by omega))⟩
      have := hP9.blk
      rwa [up0, if_neg hne]
    · have hz : ps = [] := List.length_eq_zero_iff.1 (by omega)
      subst hz
      exact ⟨hB3, hB4, hB5, hB6, hB7, hE7⟩
  · rintro s8 w8 ⟨g3, g4, g5, g6, g7, hB3, hB4, hB5, hB6, hB7, hE8⟩
    refine peel2 (peel ?_)
    simp only [↓VD, VP, VT, isAggD, reduceCtorEq, Int.reduceEq, Int.reduceNe, Int.reduceLT, Int.reduceLE, implies_true, Nat.reduceEqDiff, reduceIte, ite_true, ite_false, eq_self, Nat.reduceLT, Nat.reduceLeDiff, Nat.reduceAdd, Nat.reduceMul, Nat.reduceSub, intOf, g3, g4, g5, g6, g7]
    refine ldAt (pre := []) (post := [pv]) Tryz.underlying23 rfl hB5 rfl ?_
    simp only [↓VD, VP, VT, isAggD, reduceCtorEq, Int.reduceEq, Int.reduceNe, Int.reduceLT, Int.reduceLE, implies_true, Nat.reduceEqDiff, reduceIte, ite_true, ite_false, eq_self, Nat.reduceLT, Nat.reduceLeDiff, Nat.reduceAdd, Nat.reduceMul, Nat.reduceSub, intOf, g3, g4, g5, g6, g7]
    have hsv : sv.cells = #[sv] := by obtain ⟨a, c, rfl⟩ := slv_of hs.1; rfl
    refine (Backward_ok sv hsv w8).mono ?_
    rintro _ w9 ⟨rfl, hN9⟩
    simp only [↓VD, VP, VT, isAggD, reduceCtorEq, Int.reduceEq, Int.reduceNe, Int.reduceLT, Int.reduceLE, implies_true, Nat.reduceEqDiff, reduceIte, ite_true, ite_false, eq_self, Nat.reduceLT, Nat.reduceLeDiff, Nat.reduceAdd, Nat.reduceMul, Nat.reduceSub, intOf]
    refine peelB ⟨fun a hF => ?_⟩
    have z8 := hE8.size
    have z9 := hN9.size
    have zb := hB7.lt
    have zc := hB6.lt
    have hE9 := hE8.trans' hN9.ext
    have hX : ∀ {b T : Nat} {l : List Value}, Blk w8 b T l → Blk w9 b T l := fun h => h.ext hN9.ext
    have hBs := hN9.blk
    generalize w8.heap.size = Bs at *
    replace hB3 := hX hB3
    replace hB4 := hX hB4
    replace hB5 := hX hB5
    replace hB6 := hX hB6
    replace hB7 := hX hB7
    have hup0 := up0_len n (ps.map PR.dat)
    refine rangeT 83 Bs b7 32 33 (ss := ss) hF rfl (by kernel_rfl) (fun l J Jx W hKD hJ0 hY => ?_) rfl (by decide) (by decide)
      (fun pre W => KD w9.heap.size b7 w9 W ∧ Blk W b7 28 (vbs (upF n k pre (up0 n (ps.map PR.dat))))) (OwnFrom.and (kd_own w9 (Nat.le_refl _) (Nat.le_refl _)) (blk_own _ _ _ _)) ⟨KD.rfl' _ _ _, hB7⟩
      (fun x s' W => s' 3 = .pointer (some ⟨w.heap.size, 0, none⟩) ∧ s' 4 = .pointer (some ⟨b4, 0, none⟩) ∧ s' 7 = .pointer (some ⟨b7, 0, none⟩) ∧ s' 9 = .int .i64 (x.1 : Nat) ∧ ∃ b10, s' 10 = .pointer (some ⟨b10, 0, none⟩) ∧ w9.heap.size ≤ b10 ∧ Blk W b10 56 x.2.cells)
      (fun x s' u W W' row hA hg hr => ?_) ?_ ?_ ?_
    · exact iter_ok l Bs sv ss (fun s h => by obtain ⟨a, c, e⟩ := slv_of (hs.2 s h).2.2; rw [e]; rfl) J Jx (KD w9.heap.size b7 w9) (fun W' hK => ⟨(hK.blk hBs hBs.lt (by omega)).cell 0, hs.1.ext (hK.ext hE9 (by omega) (by omega))⟩) hY W hKD hJ0
    · obtain ⟨h3, h4, h7, h9, b10, h10, hb10, hB10⟩ := hA
      exact ⟨h3, h4, h7, h9, b10, h10, hb10, blk_own (β := Unit) _ _ _ (fun _ => x.2.cells) () W W' row hB10 hg hr⟩
    · intro l pre x W hx ⟨hKD, hB⟩
      have hzs := hKD.size
      obtain ⟨hbm, hdk⟩ := hs.2 x.2 (List.mem_of_getElem? (backL_mem hx))
      obtain ⟨ak, ck, hkv⟩ := slv_of hdk.2
      simp only [↓VD, VP, VT, isAggD, reduceCtorEq, Int.reduceEq, Int.reduceNe, Int.reduceLT, Int.reduceLE, implies_true, Nat.reduceEqDiff, reduceIte, ite_true, ite_false, eq_self, Nat.reduceLT, Nat.reduceLeDiff, Nat.reduceAdd, Nat.reduceMul, Nat.reduceSub, intOf, g3, g4, g5, g6, g7]
      intro w11 hN11
      refine stAll hN11.blk (vs := x.2.cells) rfl (by rw [c56]; decide) (by rw [c56]; rfl) (by rw [c56]; rfl) (by rw [SR.cells, hkv]; simp [oneCellV]) (fun w12 hP12 => ?_)
      simp only [↓VD, VP, VT, isAggD, reduceCtorEq, Int.reduceEq, Int.reduceNe, Int.reduceLT, Int.reduceLE, implies_true, Nat.reduceEqDiff, reduceIte, ite_true, ite_false, eq_self, Nat.reduceLT, Nat.reduceLeDiff, Nat.reduceAdd, Nat.reduceMul, Nat.reduceSub, intOf, g3, g4, g5, g6, g7]
      have hE12 : Ext W w12 := hN11.ext.trans (hP12.below (Nat.le_refl _))
      exact ⟨keepsFrom_ext hE12, KD.of_below (hE12.mono hzs), ⟨hKD.trans (KD.of_below (hE12.mono hzs)), hB.ext hE12⟩, ⟨W.heap.size, rfl, hzs, hP12.blk⟩⟩
    · intro l pre x s10 W hx hsz ⟨hKD, hB⟩ ⟨h3, h4, h7, h9, b10, h10, hb10, hB10⟩ hlen
      have hx2 := backL_mem hx
      have hxm := List.mem_of_getElem? hx2
      obtain ⟨hbm, hdk⟩ := hs.2 x.2 hxm
      have hEW : Ext w W := hKD.ext hE9 (by omega) (by omega)
      replace hdk := hdk.ext hEW
      have hlk := hss x.2 hxm
      have hrk := hr x.1 x.2 hx2
      obtain ⟨i, s⟩ := x
      obtain ⟨kv, bm, ks⟩ := s
      simp only at hx2 hbm hdk hlk hrk h9
      have hA3 := hKD.blk hB3 (by omega) (by omega)
      have hA4 := hKD.blk hB4 (by omega) (by omega)
      simp only [↓VD, VP, VT, isAggD, reduceCtorEq, Int.reduceEq, Int.reduceNe, Int.reduceLT, Int.reduceLE, implies_true, Nat.reduceEqDiff, reduceIte, ite_true, ite_false, eq_self, Nat.reduceLT, Nat.reduceLeDiff, Nat.reduceAdd, Nat.reduceMul, Nat.reduceSub, intOf, h3, h4, h7, h9, h10]
      refine ldAt (pre := []) (post := []) Tryz.underlying3 rfl hA3 rfl ?_
      simp only [↓VD, VP, VT, isAggD, reduceCtorEq, Int.reduceEq, Int.reduceNe, Int.reduceLT, Int.reduceLE, implies_true, Nat.reduceEqDiff, reduceIte, ite_true, ite_false, eq_self, Nat.reduceLT, Nat.reduceLeDiff, Nat.reduceAdd, Nat.reduceMul, Nat.reduceSub, intOf, h3, h4, h7, h9, h10]
      refine ldA Tryz.underlying28 rfl hA4 (by rw [vbs_len, hk, c28]) ?_
      simp only [↓VD, VP, VT, isAggD, reduceCtorEq, Int.reduceEq, Int.reduceNe, Int.reduceLT, Int.reduceLE, implies_true, Nat.reduceEqDiff, reduceIte, ite_true, ite_false, eq_self, Nat.reduceLT, Nat.reduceLeDiff, Nat.reduceAdd, Nat.reduceMul, Nat.reduceSub, intOf, h3, h4, h7, h9, h10]
      refine (child_ok n k hk i W).mono ?_
      rintro _ w11 ⟨rfl, hE11⟩
      simp only [↓VD, VP, VT, isAggD, reduceCtorEq, Int.reduceEq, Int.reduceNe, Int.reduceLT, Int.reduceLE, implies_true, Nat.reduceEqDiff, reduceIte, ite_true, ite_false, eq_self, Nat.reduceLT, Nat.reduceLeDiff, Nat.reduceAdd, Nat.reduceMul, Nat.reduceSub, intOf, h3, h4, h7, h9, h10]
      replace hB10 : Blk W b10 56 [.int .u16 bm, kv] := hB10
      refine ldAt (pre := [.int .u16 bm]) (post := []) Tryz.underlying54 rfl (hB10.ext hE11) rfl ?_
      simp only [↓VD, VP, VT, isAggD, reduceCtorEq, Int.reduceEq, Int.reduceNe, Int.reduceLT, Int.reduceLE, implies_true, Nat.reduceEqDiff, reduceIte, ite_true, ite_false, eq_self, Nat.reduceLT, Nat.reduceLeDiff, Nat.reduceAdd, Nat.reduceMul, Nat.reduceSub, intOf, h3, h4, h7, h9, h10]
      refine (CloneD_ok ks kv w11 (hdk.ext hE11) (by omega)).mono ?_
      rintro vc w12 ⟨hO12, hE12⟩
      simp only [↓VD, VP, VT, isAggD, reduceCtorEq, Int.reduceEq, Int.reduceNe, Int.reduceLT, Int.reduceLE, implies_true, Nat.reduceEqDiff, reduceIte, ite_true, ite_false, eq_self, Nat.reduceLT, Nat.reduceLeDiff, Nat.reduceAdd, Nat.reduceMul, Nat.reduceSub, intOf, h3, h4, h7, h9, h10]
      refine ldAt (pre := []) (post := [kv]) Tryz.underlying53 rfl ((hB10.ext hE11).ext hE12) rfl ?_
      simp only [↓VD, VP, VT, isAggD, reduceCtorEq, Int.reduceEq, Int.reduceNe, Int.reduceLT, Int.reduceLE, implies_true, Nat.reduceEqDiff, reduceIte, ite_true, ite_false, eq_self, Nat.reduceLT, Nat.reduceLeDiff, Nat.reduceAdd, Nat.reduceMul, Nat.reduceSub, intOf, h3, h4, h7, h9, h10]
      refine (Has_ok bm hbm (atP n k i).1 w12).mono ?_
      rintro _ w13 ⟨rfl, hE13⟩
      simp only [↓VJ, VP, VT, isAggD, reduceCtorEq, Int.reduceEq, Int.reduceNe, Int.reduceLT, Int.reduceLE, implies_true, Nat.reduceEqDiff, reduceIte, ite_true, ite_false, eq_self, Nat.reduceLT, Nat.reduceLeDiff, Nat.reduceAdd, Nat.reduceMul, Nat.reduceSub, intOf, h3, h4, h7, h9, h10]
      have z11 := hE11.size
      have z12 := hE12.size
      have z13 := hE13.size
      have hEm : Ext W w13 := (hE11.trans' hE12).trans' hE13
      have hO13 := hO12.ext hE13
      have hM10 := hB10.ext hEm
      have hM7 := hB.ext hEm
      have y10 := hB10.lt
      have y7 := hB.lt
      have hdl : (upF n k pre (up0 n (ps.map PR.dat))).length = 32 := upF_len _ _ _ _ hup0
      obtain ⟨dd, hdd⟩ : ∃ dd, dd = upF n k pre (up0 n (ps.map PR.dat)) := ⟨_, rfl⟩
      rw [← hdd] at hM7 hdl
      obtain ⟨all, hall⟩ : ∃ all, all = if hasB bm (atP n k i).1 = true then insP ks (rankB bm (atP n k i).1) dd else ks := ⟨_, rfl⟩
      refine joinT (fun s' W' => s' 3 = .pointer (some ⟨w.heap.size, 0, none⟩) ∧ s' 7 = .pointer (some ⟨b7, 0, none⟩) ∧ s' 10 = .pointer (some ⟨b10, 0, none⟩) ∧ DigsAt W' (s' 12) all ∧ Below w11.heap.size w13 W') ?_ ?_
      · simp only [↓VD, VP, VT, isAggD, reduceCtorEq, Int.reduceEq, Int.reduceNe, Int.reduceLT, Int.reduceLE, implies_true, Nat.reduceEqDiff, reduceIte, ite_true, ite_false, eq_self, Nat.reduceLT, Nat.reduceLeDiff, Nat.reduceAdd, Nat.reduceMul, Nat.reduceSub, intOf, h3, h4, h7, h9, h10]
        refine bsplit_i (fun ht => ?_) (fun hf => ?_)
        · have hrk' := hrk ht
          rw [if_pos ht] at hall
          have hal : ∀ d ∈ all, d.length = 32 := by
            intro d hd
            rw [hall, insP] at hd
            rcases List.mem_append.1 hd with h | h
            · exact hdk.1 d (List.mem_of_mem_take h)
            · rcases List.mem_cons.1 h with rfl | h
              · exact hdl
              · exact hdk.1 d (List.mem_of_mem_drop h)
          have hall2 : all.length = ks.length + 1 := by rw [hall, insP]; simp; omega
          refine drawO (fun W' => Blk W' b10 56 [.int .u16 bm, kv] ∧ Blk W' b7 28 (vbs dd)) (Ord.pre [0, 1, 2, 3, 5] (.two 4 6 (Ord.of [6, 7, 8]) (Ord.of [4, 7, 8]))) mixed (by decide +kernel) (fun w14 hE14 hh => ⟨⟨hM10.ext hE14, hM7.ext hE14⟩, ?_⟩)
          simp only [↓VD, VP, VT, isAggD, reduceCtorEq, Int.reduceEq, Int.reduceNe, Int.reduceLT, Int.reduceLE, implies_true, Nat.reduceEqDiff, reduceIte, ite_true, ite_false, eq_self, Nat.reduceLT, Nat.reduceLeDiff, Nat.reduceAdd, Nat.reduceMul, Nat.reduceSub, intOf, h3, h4, h7, h9, h10]
          refine loadS_of _ (fun w' h => ldAt (pre := []) (post := [kv]) Tryz.underlying53 rfl h.1 rfl rfl) ?_
          simp only [↓VD, VP, VT, isAggD, reduceCtorEq, Int.reduceEq, Int.reduceNe, Int.reduceLT, Int.reduceLE, implies_true, Nat.reduceEqDiff, reduceIte, ite_true, ite_false, eq_self, Nat.reduceLT, Nat.reduceLeDiff, Nat.reduceAdd, Nat.reduceMul, Nat.reduceSub, intOf, h3, h4, h7, h9, h10]
          refine loadS_of _ (fun w' h => ldA Tryz.underlying28 rfl h.2 (by rw [vbs_len, hdl, c28]) rfl) ?_
          simp only [↓VD, VP, VT, isAggD, reduceCtorEq, Int.reduceEq, Int.reduceNe, Int.reduceLT, Int.reduceLE, implies_true, Nat.reduceEqDiff, reduceIte, ite_true, ite_false, eq_self, Nat.reduceLT, Nat.reduceLeDiff, Nat.reduceAdd, Nat.reduceMul, Nat.reduceSub, intOf, h3, h4, h7, h9, h10]
          have hne : ∀ B, w14.heap.size ≤ B → vc.ownBlock ≠ some B := fun B hB e => by
            have := (hO13.ext hE14).lt B e
            omega
          have z14 := hE14.size
          refine ⟨?_, ?_⟩
          · refine (Rank_ok bm hbm (atP n k i).1 w14).mono ?_
            rintro _ w15 ⟨rfl, hE15⟩
            have z15 := hE15.size
            refine told (fun _ => True) ⟨(hM10.ext hE14).ext hE15, (hM7.ext hE14).ext hE15⟩ trivial ?_
            simp only [↓VD, VP, VT, isAggD, reduceCtorEq, Int.reduceEq, Int.reduceNe, Int.reduceLT, Int.reduceLE, implies_true, Nat.reduceEqDiff, reduceIte, ite_true, ite_false, eq_self, Nat.reduceLT, Nat.reduceLeDiff, Nat.reduceAdd, Nat.reduceMul, Nat.reduceSub, intOf, h3, h4, h7, h9, h10]
            refine ⟨by rw [vbs_len]; exact hdl, fun w16 hN16 => ?_⟩
            have z16 := hN16.size
            refine told (fun _ => True) ⟨((hM10.ext hE14).ext hE15).ext hN16.ext, ((hM7.ext hE14).ext hE15).ext hN16.ext⟩ trivial ?_
            simp only [↓VD, VP, VT, isAggD, reduceCtorEq, Int.reduceEq, Int.reduceNe, Int.reduceLT, Int.reduceLE, implies_true, Nat.reduceEqDiff, reduceIte, ite_true, ite_false, eq_self, Nat.reduceLT, Nat.reduceLeDiff, Nat.reduceAdd, Nat.reduceMul, Nat.reduceSub, intOf, h3, h4, h7, h9, h10]
            refine (Insert_ok ks hdk.1 (rankB bm (atP n k i).1) hrk' dd hdl vc w11.heap.size w15.heap.size w16 (((hO13.ext hE14).ext hE15).ext hN16.ext) (by omega) hN16.blk (hne _ (by omega)) (by omega)).mono ?_
            rintro v' w17 ⟨hO17, hB17⟩
            refine told (fun _ => True) ⟨(((hM10.ext hE14).ext hE15).ext hN16.ext).below hB17 (by omega), (((hM7.ext hE14).ext hE15).ext hN16.ext).below hB17 (by omega)⟩ trivial ?_
            simp only [↓VD, VP, VT, isAggD, reduceCtorEq, Int.reduceEq, Int.reduceNe, Int.reduceLT, Int.reduceLE, implies_true, Nat.reduceEqDiff, reduceIte, ite_true, ite_false, eq_self, Nat.reduceLT, Nat.reduceLeDiff, Nat.reduceAdd, Nat.reduceMul, Nat.reduceSub, intOf, h3, h4, h7, h9, h10]
            rw [← hall, ← hall2] at hO17
            exact ⟨⟨hal, SlC.of_own hO17⟩, (((hE14.trans' hE15).trans' hN16.ext).mono (by omega)).trans hB17⟩
          · refine ⟨by rw [vbs_len]; exact hdl, fun w15 hN15 => ?_⟩
            have z15 := hN15.size
            refine told (fun _ => True) ⟨(hM10.ext hE14).ext hN15.ext, (hM7.ext hE14).ext hN15.ext⟩ trivial ?_
            simp only [↓VD, VP, VT, isAggD, reduceCtorEq, Int.reduceEq, Int.reduceNe, Int.reduceLT, Int.reduceLE, implies_true, Nat.reduceEqDiff, reduceIte, ite_true, ite_false, eq_self, Nat.reduceLT, Nat.reduceLeDiff, Nat.reduceAdd, Nat.reduceMul, Nat.reduceSub, intOf, h3, h4, h7, h9, h10]
            refine (Rank_ok bm hbm (atP n k i).1 w15).mono ?_
            rintro _ w16 ⟨rfl, hE16⟩
            have z16 := hE16.size
            refine told (fun _ => True) ⟨((hM10.ext hE14).ext hN15.ext).ext hE16, ((hM7.ext hE14).ext hN15.ext).ext hE16⟩ trivial ?_
            simp only [↓VD, VP, VT, isAggD, reduceCtorEq, Int.reduceEq, Int.reduceNe, Int.reduceLT, Int.reduceLE, implies_true, Nat.reduceEqDiff, reduceIte, ite_true, ite_false, eq_self, Nat.reduceLT, Nat.reduceLeDiff, Nat.reduceAdd, Nat.reduceMul, Nat.reduceSub, intOf, h3, h4, h7, h9, h10]
            refine (Insert_ok ks hdk.1 (rankB bm (atP n k i).1) hrk' dd hdl vc w11.heap.size w14.heap.size w16 (((hO13.ext hE14).ext hN15.ext).ext hE16) (by omega) (hN15.blk.ext hE16) (hne _ (by omega)) (by omega)).mono ?_
            rintro v' w17 ⟨hO17, hB17⟩
            refine told (fun _ => True) ⟨(((hM10.ext hE14).ext hN15.ext).ext hE16).below hB17 (by omega), (((hM7.ext hE14).ext hN15.ext).ext hE16).below hB17 (by omega)⟩ trivial ?_
            simp only [↓VD, VP, VT, isAggD, reduceCtorEq, Int.reduceEq, Int.reduceNe, Int.reduceLT, Int.reduceLE, implies_true, Nat.reduceEqDiff, reduceIte, ite_true, ite_false, eq_self, Nat.reduceLT, Nat.reduceLeDiff, Nat.reduceAdd, Nat.reduceMul, Nat.reduceSub, intOf, h3, h4, h7, h9, h10]
            rw [← hall, ← hall2] at hO17
            exact ⟨⟨hal, SlC.of_own hO17⟩, (((hE14.trans' hN15.ext).trans' hE16).mono (by omega)).trans hB17⟩
        · rw [if_neg (by simp [hf])] at hall
          subst hall
          simp only [↓VD, VP, VT, isAggD, reduceCtorEq, Int.reduceEq, Int.reduceNe, Int.reduceLT, Int.reduceLE, implies_true, Nat.reduceEqDiff, reduceIte, ite_true, ite_false, eq_self, Nat.reduceLT, Nat.reduceLeDiff, Nat.reduceAdd, Nat.reduceMul, Nat.reduceSub, intOf, h3, h4, h7, h9, h10]
          refine ⟨⟨hdk.1, SlC.of_own hO13⟩, Below.refl _ _⟩
      · rintro s20 w20 ⟨k3, k7, k10, hDA, hBel⟩
        have hA20 : Ext W w20 := hEm.trans (hBel.mono (by omega))
        have hal2 : all.length ≤ ks.length + 1 := by
          rw [hall]
          split
          · rw [insP]; simp; omega
          · omega
        obtain ⟨a12, c12, e12⟩ := slv_of hDA.2
        simp only [↓VD, VP, VT, isAggD, reduceCtorEq, Int.reduceEq, Int.reduceNe, Int.reduceLT, Int.reduceLE, implies_true, Nat.reduceEqDiff, reduceIte, ite_true, ite_false, eq_self, Nat.reduceLT, Nat.reduceLeDiff, Nat.reduceAdd, Nat.reduceMul, Nat.reduceSub, intOf, k3, k7, k10]
        refine ldAt (pre := []) (post := []) Tryz.underlying3 rfl (hA3.ext hA20) rfl ?_
        simp only [↓VD, VP, VT, isAggD, reduceCtorEq, Int.reduceEq, Int.reduceNe, Int.reduceLT, Int.reduceLE, implies_true, Nat.reduceEqDiff, reduceIte, ite_true, ite_false, eq_self, Nat.reduceLT, Nat.reduceLeDiff, Nat.reduceAdd, Nat.reduceMul, Nat.reduceSub, intOf, k3, k7, k10]
        refine ldAt (pre := []) (post := [kv]) Tryz.underlying53 rfl (hB10.ext hA20) rfl ?_
        simp only [↓VD, VP, VT, isAggD, reduceCtorEq, Int.reduceEq, Int.reduceNe, Int.reduceLT, Int.reduceLE, implies_true, Nat.reduceEqDiff, reduceIte, ite_true, ite_false, eq_self, Nat.reduceLT, Nat.reduceLeDiff, Nat.reduceAdd, Nat.reduceMul, Nat.reduceSub, intOf, k3, k7, k10]
        refine (Branch_ok n bm hbm (s20 12) all w20 (hW.ext (hEW.trans' hA20)) hDA (by omega)).mono ?_
        rintro _ w21 ⟨rfl, hE21⟩
        simp only [↓VD, VP, VT, isAggD, reduceCtorEq, Int.reduceEq, Int.reduceNe, Int.reduceLT, Int.reduceLE, implies_true, Nat.reduceEqDiff, reduceIte, ite_true, ite_false, eq_self, Nat.reduceLT, Nat.reduceLeDiff, Nat.reduceAdd, Nat.reduceMul, Nat.reduceSub, intOf, k3, k7, k10]
        have z20 := hBel.size
        have z21 := hE21.size
        refine stAll ((hB.ext hA20).ext hE21) (vs := vbs (brD n bm all)) rfl (by rw [c28]; decide) (by rw [c28, vbs_len, brD_len]) (by rw [c28, vbs_len, ← hdd, hdl]) (vbs_one _) (fun w22 hP22 => ?_)
        simp only [↓VD, VP, VT, isAggD, reduceCtorEq, Int.reduceEq, Int.reduceNe, Int.reduceLT, Int.reduceLE, implies_true, Nat.reduceEqDiff, reduceIte, ite_true, ite_false, eq_self, Nat.reduceLT, Nat.reduceLeDiff, Nat.reduceAdd, Nat.reduceMul, Nat.reduceSub, intOf, k3, k7, k10]
        have hKB : KeepB W w22 b7 := (KeepB.of_ext (hA20.trans' hE21)).trans (KeepB.of_put hP22)
        refine ⟨keepsFrom_of hKB (by omega), KD.of_keepB hKB hsz, hKD.trans (KD.of_keepB hKB hsz), ?_⟩
        have := hP22.blk
        rw [hall, hdd] at this
        rw [upF_snoc]
        exact this
    · intro D W hD ⟨hKD, hB⟩ hWD
      refine tailM hF ?_
      simp only [↓VD, VP, VT, isAggD, reduceCtorEq, Int.reduceEq, Int.reduceNe, Int.reduceLT, Int.reduceLE, implies_true, Nat.reduceEqDiff, reduceIte, ite_true, ite_false, eq_self, Nat.reduceLT, Nat.reduceLeDiff, Nat.reduceAdd, Nat.reduceMul, Nat.reduceSub, intOf, g3, g4, g5, g6, g7, retM_ret]
      have hfl : (upF n k (backL ss) (up0 n (ps.map PR.dat))).length = 32 := upF_len _ _ _ _ hup0
      refine ldA Tryz.underlying28 rfl hB (by rw [vbs_len, hfl, c28]) ?_
      simp only [↓VD, VP, VT, isAggD, reduceCtorEq, Int.reduceEq, Int.reduceNe, Int.reduceLT, Int.reduceLE, implies_true, Nat.reduceEqDiff, reduceIte, ite_true, ite_false, eq_self, Nat.reduceLT, Nat.reduceLeDiff, Nat.reduceAdd, Nat.reduceMul, Nat.reduceSub, intOf, g3, g4, g5, g6, g7, retM_ret]
      have hA6 := hKD.blk hB6 (by omega) (by omega)
      refine stAll hA6 rfl (by rw [c28]; decide) (by rw [c28, vbs_len, hfl]) (by rw [c28]; simp [vbs]) (vbs_one _) (fun w10 hP10 => ?_)
      simp only [↓VD, VP, VT, isAggD, reduceCtorEq, Int.reduceEq, Int.reduceNe, Int.reduceLT, Int.reduceLE, implies_true, Nat.reduceEqDiff, reduceIte, ite_true, ite_false, eq_self, Nat.reduceLT, Nat.reduceLeDiff, Nat.reduceAdd, Nat.reduceMul, Nat.reduceSub, intOf, g3, g4, g5, g6, g7, retM_ret]
      have hDo : w10.heap[D]? = some (.deferred (some [])) := by rw [hP10.other D (by omega)]; exact hWD
      have hDl := (Array.getElem?_eq_some_iff.1 hDo).1
      have hPo : ∀ j, j ≠ D → (w10.putObj D (.deferred none)).heap[j]? = w10.heap[j]? := fun j hj => World.putObj_heap_other hj
      refine ⟨hDo, ldA Tryz.underlying28 rfl (⟨by rw [hPo b6 (by omega)]; exact hP10.blk.out⟩ : Blk _ b6 28 _) (by rw [vbs_len, hfl, c28]) ⟨rfl, ?_⟩⟩
      have hEW : Ext w W := hKD.ext hE9 (by omega) (by omega)
      refine (hEW.trans (hP10.below (by omega))).trans ⟨rfl, rfl, rfl, by simp, fun j hj => hPo j (by omega)⟩

end Go.Proofs.YticfalbgplifoaaGreatDoor
