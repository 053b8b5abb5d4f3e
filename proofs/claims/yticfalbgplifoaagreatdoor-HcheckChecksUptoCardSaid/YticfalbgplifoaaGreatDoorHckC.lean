/-
  hcheck.bucket. Conditions: as stated in each theorem.
-/
import Derived.Test.YticfalbgplifoaaGreatDoorHckB
namespace Go.Proofs.YticfalbgplifoaaGreatDoor
set_option maxRecDepth 100000
open Go Go.RowKit
set_option linter.unusedVariables false
set_option linter.unusedSimpArgs false

set_option maxRecDepth 100000 in
theorem VQ : type_of% (And.intro (@h_nil) (And.intro (@h_cons) (And.intro (@h_two) (And.intro (@h_load) (And.intro (@h_len) (And.intro (@h_store) (And.intro (@h_alloc) (And.intro (@h_box) (And.intro (@h_bld) (And.intro (@h_call) (And.intro (@h_app) (And.intro (@h_copy) (And.intro (@h_make) (And.intro (@h_move) (And.intro (@h_assign) (And.intro (@h_pick) (And.intro (@h_bin) (And.intro (@h_un) (And.intro (@h_conv) (And.intro (@h_nilC) (And.intro (@h_fldA) (And.intro (@h_fld) (And.intro (@h_idxA) (And.intro (@h_idx) (And.intro (@h_sl) (And.intro (@h_ext) (And.intro (@h_mkI) (And.intro (@h_mkF) (And.intro (@h_bv) (And.intro (@p_bv) (And.intro (@o_bv) (And.intro (@q_bv) (And.intro (@h_asr) (And.intro (@v_skip) (And.intro (@v_region) (And.intro (@v_draw) (And.intro (@v_cond) (And.intro (@v_block) (And.intro (@v_loop) (And.intro (@v_exit) (And.intro (@v_ret) (And.intro (@s_normal) (And.intro (@s_exit) (And.intro (@s_ret) (And.intro (@b_normal) (And.intro (@b_exit_eq) (And.intro (@b_exit_ne) (And.intro (@b_ret) (And.intro (@k_normal) (And.intro (@k_hit) (And.intro (@k_miss) (And.intro (@k_ret) (And.intro (@ops_nil) (And.intro (@ops_cons) (And.intro (@ops_grd) (And.intro (@q_nil) (And.intro (@q_cons) (And.intro (@q_grd) (And.intro (@p_move) (And.intro (@o_move) (And.intro (@q_move) (And.intro (@p_assign) (And.intro (@o_assign) (And.intro (@q_assign) (And.intro (@p_pick) (And.intro (@o_pick) (And.intro (@q_pick) (And.intro (@p_bin) (And.intro (@o_bin) (And.intro (@q_bin) (And.intro (@p_un) (And.intro (@o_un) (And.intro (@q_un) (And.intro (@p_conv) (And.intro (@o_conv) (And.intro (@q_conv) (And.intro (@p_nilC) (And.intro (@o_nilC) (And.intro (@q_nilC) (And.intro (@p_fldA) (And.intro (@o_fldA) (And.intro (@q_fldA) (And.intro (@p_fld) (And.intro (@o_fld) (And.intro (@q_fld) (And.intro (@p_idxA) (And.intro (@o_idxA) (And.intro (@q_idxA) (And.intro (@p_idx) (And.intro (@o_idx) (And.intro (@q_idx) (And.intro (@p_sl) (And.intro (@o_sl) (And.intro (@p_sl3) (And.intro (@o_sl3) (And.intro (@q_sl) (And.intro (@p_ext) (And.intro (@o_ext) (And.intro (@q_ext) (And.intro (@p_mkI) (And.intro (@o_mkI) (And.intro (@q_mkI) (And.intro (@p_mkF) (And.intro (@o_mkF) (And.intro (@q_mkF) (And.intro (@p_asr) (And.intro (@o_asr) (And.intro (@q_asr) (And.intro (@o_load) (And.intro (@o_store) (And.intro (@o_alloc) (And.intro (@o_box) (And.intro (@o_bld) (And.intro (@o_call) (And.intro (@o_len) (And.intro (@o_app) (And.intro (@o_cap) (And.intro (@v_rangeFunc) (And.intro (@o_copy) (And.intro (@o_make) (And.intro (@o_min) (And.intro (@o_max) (And.intro (@q_load) (And.intro (@q_call) (And.intro (@q_len) (And.intro (@e_tmp) (And.intro (@e_const) (And.intro (@e_func) (And.intro (@e_glob) (And.intro (@upd_eq) (And.intro (@upd_ne) (And.intro (@uO_some) (@uO_none))))))))))))))))))))))))))))))))))))))))))))))))))))))))))))))))))))))))))))))))))))))))))))))))))))))))))))))))))))))))))))))))))))) := And.intro (@h_nil) (And.intro (@h_cons) (And.intro (@h_two) (And.intro (@h_load) (And.intro (@h_len) (And.intro (@h_store) (And.intro (@h_alloc) (And.intro (@h_box) (And.intro (@h_bld) (And.intro (@h_call) (And.intro (@h_app) (And.intro (@h_copy) (And.intro (@h_make) (And.intro (@h_move) (And.intro (@h_assign) (And.intro (@h_pick) (And.intro (@h_bin) (And.intro (@h_un) (And.intro (@h_conv) (And.intro (@h_nilC) (And.intro (@h_fldA) (And.intro (@h_fld) (And.intro (@h_idxA) (And.intro (@h_idx) (And.intro (@h_sl) (And.intro (@h_ext) (And.intro (@h_mkI) (And.intro (@h_mkF) (And.intro (@h_bv) (And.intro (@p_bv) (And.intro (@o_bv) (And.intro (@q_bv) (And.intro (@h_asr) (And.intro (@v_skip) (And.intro (@v_region) (And.intro (@v_draw) (And.intro (@v_cond) (And.intro (@v_block) (And.intro (@v_loop) (And.intro (@v_exit) (And.intro (@v_ret) (And.intro (@s_normal) (And.intro (@s_exit) (And.intro (@s_ret) (And.intro (@b_normal) (And.intro (@b_exit_eq) (And.intro (@b_exit_ne) (And.intro (@b_ret) (And.intro (@k_normal) (And.intro (@k_hit) (And.intro (@k_miss) (And.intro (@k_ret) (And.intro (@ops_nil) (And.intro (@ops_cons) (And.intro (@ops_grd) (And.intro (@q_nil) (And.intro (@q_cons) (And.intro (@q_grd) (And.intro (@p_move) (And.intro (@o_move) (And.intro (@q_move) (And.intro (@p_assign) (And.intro (@o_assign) (And.intro (@q_assign) (And.intro (@p_pick) (And.intro (@o_pick) (And.intro (@q_pick) (And.intro (@p_bin) (And.intro (@o_bin) (And.intro (@q_bin) (And.intro (@p_un) (And.intro (@o_un) (And.intro (@q_un) (And.intro (@p_conv) (And.intro (@o_conv) (And.intro (@q_conv) (And.intro (@p_nilC) (And.intro (@o_nilC) (And.intro (@q_nilC) (And.intro (@p_fldA) (And.intro (@o_fldA) (And.intro (@q_fldA) (And.intro (@p_fld) (And.intro (@o_fld) (And.intro (@q_fld) (And.intro (@p_idxA) (And.intro (@o_idxA) (And.intro (@q_idxA) (And.intro (@p_idx) (And.intro (@o_idx) (And.intro (@q_idx) (And.intro (@p_sl) (And.intro (@o_sl) (And.intro (@p_sl3) (And.intro (@o_sl3) (And.intro (@q_sl) (And.intro (@p_ext) (And.intro (@o_ext) (And.intro (@q_ext) (And.intro (@p_mkI) (And.intro (@o_mkI) (And.intro (@q_mkI) (And.intro (@p_mkF) (And.intro (@o_mkF) (And.intro (@q_mkF) (And.intro (@p_asr) (And.intro (@o_asr) (And.intro (@q_asr) (And.intro (@o_load) (And.intro (@o_store) (And.intro (@o_alloc) (And.intro (@o_box) (And.intro (@o_bld) (And.intro (@o_call) (And.intro (@o_len) (And.intro (@o_app) (And.intro (@o_cap) (And.intro (@v_rangeFunc) (And.intro (@o_copy) (And.intro (@o_make) (And.intro (@o_min) (And.intro (@o_max) (And.intro (@q_load) (And.intro (@q_call) (And.intro (@q_len) (And.intro (@e_tmp) (And.intro (@e_const) (And.intro (@e_func) (And.intro (@e_glob) (And.intro (@upd_eq) (And.intro (@upd_ne) (And.intro (@uO_some) (@uO_none))))))))))))))))))))))))))))))))))))))))))))))))))))))))))))))))))))))))))))))))))))))))))))))))))))))))))))))))))))))))))))))))))))


/-- A field of an element of a slice. -/
theorem ldF {α : Type} {f : α → List Value} {P : Program} {T : TypeId} {w : World} {b o i j sz q : Nat} {K : Value → Prop} {ds : List α} {x : α} {d : TypeDesc} {v : Value} (hu : P.underlying T = some d) (ha : isAggD d = false)
    (hs : ∀ d ∈ ds, (f d).length = sz) (hc : ∀ j u, (ds.flatMap f)[j]? = some u → w.cell? ⟨b, o + j, none⟩ = some u) (hi : ds[i]? = some x) (hj : (f x)[j]? = some v) (hq : q = o + (i * sz + j)) (hK : K v) : vcLoad P T w b q K := by
  subst hq
  exact ld1 hu ha (hc _ _ (flat_get ds i x hs hi j v hj)) hK
def keyD (n : Int) (x : List UInt8) : List UInt8 := sumR n (2 :: x)
def pairOk (n : Int) (k : List UInt8) (nst : Nat) (ps : List PR) (i : Nat) (a : PR) : Prop :=
  a.k.length ≤ 64 ∧ a.v.length ≤ 256 ∧ (∀ p, 0 < i → ps[i - 1]? = some p → Lib.compareBytes p.k a.k < 0) ∧ (∀ p, ps[0]? = some p → keyD n a.k = keyD n p.k) ∧ (nst : Int) ≤ (comPP n k (keyD n a.k)).1
def pairsP (n : Int) (k : List UInt8) (nst : Nat) (ps : List PR) : Prop := ∀ i a, ps[i]? = some a → pairOk n k nst ps i a

theorem bucket_ok (n : Int) (k : List UInt8) (hk : k.length = 32) (sv pv : Value) (ss : List SR) (ps : List PR) (w : World) (hW : WordsAt w 1) (hs : StepsAt w sv ss) (hp : PairsAt w pv ps) (hpl : ∀ p ∈ ps, p.k.length + 1 ≤ 140737488355328) :
    CallK Tryz.prog 24 [.int .i64 n, .agg (vbs k).toArray, .agg [sv, pv].toArray].toArray w fun v w' => ∃ t, v = .bool t ∧ (t = true ↔ pairsP n k ss.length ps) ∧ Ext w w' := by
  obtain ⟨⟨a, c, rfl, hnc, hcm, hc⟩, hpp⟩ := hp
  obtain ⟨sa, cs, rfl⟩ := slv_of hs.1
  have hsc : ss.length ≤ cs ∧ cs ≤ 9223372036854775807 := by
    obtain ⟨_, _, e, h1, h2, _⟩ := hs.1
    cases e
    exact ⟨h1, h2⟩
  refine enterT Tryz.func24 rfl Tryz.ntmps24 Tryz.results24 rfl (by decide) ?_
  simp only [↓VD, VP, VT, isAggD, reduceCtorEq, Int.reduceEq, Int.reduceNe, Int.reduceLT, Int.reduceLE, implies_true, Nat.reduceEqDiff, reduceIte, ite_true, ite_false, eq_self, Nat.reduceLT, Nat.reduceLeDiff, Nat.reduceAdd, Nat.reduceMul, Nat.reduceSub, intOf]
  intro w1 hN1 w2 hN2
  have s1 := hN1.size
  have s2 := hN2.size
  have hB4 := hN1.blk.ext hN2.ext
  have hB5 := hN2.blk
  have hE2 : Ext w w2 := hN1.ext.trans' hN2.ext
  generalize w1.heap.size = b5 at *
  refine ldAt (pre := [.slice sa ss.length cs]) (post := []) Tryz.underlying24 rfl hB5 rfl ?_
  simp only [↓VD, VP, VT, isAggD, reduceCtorEq, Int.reduceEq, Int.reduceNe, Int.reduceLT, Int.reduceLE, implies_true, Nat.reduceEqDiff, reduceIte, ite_true, ite_false, eq_self, Nat.reduceLT, Nat.reduceLeDiff, Nat.reduceAdd, Nat.reduceMul, Nat.reduceSub, intOf]
  refine loopT (fun s' w' => Ext w2 w' ∧ ∃ i : Nat, i ≤ ps.length ∧ s' 0 = .int .i64 n ∧ s' 4 = .pointer (some ⟨w.heap.size, 0, none⟩) ∧ s' 5 = .pointer (some ⟨b5, 0, none⟩) ∧ s' 16 = .slice a ps.length c ∧ s' 17 = .int .i64 ps.length ∧ s' 18 = .int .i64 i ∧
      ∀ j s, j < i → ps[j]? = some s → pairOk n k ss.length ps j s) (fun s' _ => ps.length - (intOf (s' 18)).toNat) ?_ ?_
  · simp only [↓VD, VP, VT, isAggD, reduceCtorEq, Int.reduceEq, Int.reduceNe, Int.reduceLT, Int.reduceLE, implies_true, Nat.reduceEqDiff, reduceIte, ite_true, ite_false, eq_self, Nat.reduceLT, Nat.reduceLeDiff, Nat.reduceAdd, Nat.reduceMul, Nat.reduceSub, intOf]
    exact ⟨Ext.rfl' w2, 0, by omega, rfl, fun j s h => by omega⟩
  · rintro s3 w3 ⟨hE3, i, hi, h0, h4, h5, h16, h17, h18, hz⟩
    simp only [↓VD, VP, VT, isAggD, reduceCtorEq, Int.reduceEq, Int.reduceNe, Int.reduceLT, Int.reduceLE, implies_true, Nat.reduceEqDiff, reduceIte, ite_true, ite_false, eq_self, Nat.reduceLT, Nat.reduceLeDiff, Nat.reduceAdd, Nat.reduceMul, Nat.reduceSub, intOf, h0, h4, h5, h16, h17, h18]
    refine ⟨fun hlt => ?_, fun hge => ?_⟩
    · have hlt' : i < ps.length := by omega
      rcases hc with hc | ⟨b, o, rfl, hc⟩
      · exfalso
        cases ps with
        | nil => simp at hlt'
        | cons d ds => simp [PR.cells] at hc
      obtain ⟨x, hx⟩ : ∃ x, ps[i]? = some x := ⟨_, List.getElem?_eq_getElem hlt'⟩
      obtain ⟨hxk, hxv⟩ := hpp x (List.mem_of_getElem? hx)
      have hcW : ∀ {W : World}, Ext w2 W → ∀ j u, (ps.flatMap PR.cells)[j]? = some u → W.cell? ⟨b, o + j, none⟩ = some u := fun hE j u hj => by rw [(hE2.trans' hE).cell (block_lt_of_cell (hc j u hj))]; exact hc j u hj
      simp only [↓VD, VP, VT, isAggD, reduceCtorEq, Int.reduceEq, Int.reduceNe, Int.reduceLT, Int.reduceLE, implies_true, Nat.reduceEqDiff, reduceIte, ite_true, ite_false, eq_self, Nat.reduceLT, Nat.reduceLeDiff, Nat.reduceAdd, Nat.reduceMul, Nat.reduceSub, intOf]
      refine ⟨by omega, by omega, ldE (f := PR.cells) c52 Tryz.underlying52 rfl (fun d h => rfl) (hcW hE3) hx ?_⟩
      simp only [↓VD, VP, VT, isAggD, reduceCtorEq, Int.reduceEq, Int.reduceNe, Int.reduceLT, Int.reduceLE, implies_true, Nat.reduceEqDiff, reduceIte, ite_true, ite_false, eq_self, Nat.reduceLT, Nat.reduceLeDiff, Nat.reduceAdd, Nat.reduceMul, Nat.reduceSub, intOf]
      intro w4 hN4
      obtain ⟨ak, ck, hkv⟩ := slv_of hxk
      obtain ⟨av, cv, hvv⟩ := slv_of hxv
      refine stAll hN4.blk (vs := x.cells) rfl (by rw [c52]; decide) (by rw [c52]; rfl) (by rw [c52]; rfl) (by rw [PR.cells, hkv, hvv]; simp [oneCellV]) (fun w5 hP5 => ?_)
      simp only [↓VQ, VP, VT, isAggD, reduceCtorEq, Int.reduceEq, Int.reduceNe, Int.reduceLT, Int.reduceLE, implies_true, Nat.reduceEqDiff, reduceIte, ite_true, ite_false, eq_self, Nat.reduceLT, Nat.reduceLeDiff, Nat.reduceAdd, Nat.reduceMul, Nat.reduceSub, intOf, h0, h4, h5, h16, h17, h18]
      have hE5 : Ext w2 w5 := hE3.trans' (hN4.ext.trans (hP5.below (Nat.le_refl _)))
      have hE5' : Ext w w5 := hE2.trans' hE5
      obtain ⟨kv, vv, xk, xv⟩ := x
      simp only at hkv hvv hxk hxv
      subst hkv hvv
      have hB8 : Blk w5 w3.heap.size 52 [.slice ak xk.length ck, .slice av xv.length cv] := hP5.blk
      replace hB4 := hB4.ext hE5
      replace hB5 := hB5.ext hE5
      have s3 := hE3.size
      generalize w3.heap.size = b8 at *
      have hxl : xk.length ≤ 9223372036854775807 := by
        obtain ⟨_, _, e, h1, h2, _⟩ := hxk
        cases e
        omega
      rw [v_seq]
      refine joinT (fun s' W' => Ext w5 W' ∧ s' 0 = .int .i64 n ∧ s' 4 = .pointer (some ⟨w.heap.size, 0, none⟩) ∧ s' 5 = .pointer (some ⟨b5, 0, none⟩) ∧ s' 8 = .pointer (some ⟨b8, 0, none⟩) ∧ s' 16 = .slice (some ⟨b, o, none⟩) ps.length c ∧ s' 17 = .int .i64 ps.length ∧ s' 18 = .int .i64 i ∧
        xk.length ≤ 64 ∧ xv.length ≤ 256 ∧ ∀ p, 0 < i → ps[i - 1]? = some p → Lib.compareBytes p.k xk < 0) ?_ ?_
      · simp only [↓VD, VP, VT, isAggD, reduceCtorEq, Int.reduceEq, Int.reduceNe, Int.reduceLT, Int.reduceLE, implies_true, Nat.reduceEqDiff, reduceIte, ite_true, ite_false, eq_self, Nat.reduceLT, Nat.reduceLeDiff, Nat.reduceAdd, Nat.reduceMul, Nat.reduceSub, intOf, h0, h4, h5, h16, h17, h18]
        refine drawT mixed (by decide +kernel) ?_
        simp only [↓VD, VP, VT, isAggD, reduceCtorEq, Int.reduceEq, Int.reduceNe, Int.reduceLT, Int.reduceLE, implies_true, Nat.reduceEqDiff, reduceIte, ite_true, ite_false, eq_self, Nat.reduceLT, Nat.reduceLeDiff, Nat.reduceAdd, Nat.reduceMul, Nat.reduceSub, intOf, h0, h4, h5, h16, h17, h18]
        refine ldAt (pre := []) (post := [.slice av xv.length cv]) Tryz.underlying22 rfl hB8 rfl ?_
        by_cases hk1 : 64 < xk.length
        · have f1 : (64 < (xk.length : Int)) = True := eq_true (by omega)
          simp only [↓VD, VP, VT, isAggD, reduceCtorEq, Int.reduceEq, Int.reduceNe, Int.reduceLT, Int.reduceLE, implies_true, Nat.reduceEqDiff, reduceIte, ite_true, ite_false, eq_self, Nat.reduceLT, Nat.reduceLeDiff, Nat.reduceAdd, Nat.reduceMul, Nat.reduceSub, intOf, h0, h4, h5, h16, h17, h18, f1]
          intro w6 hE6
          refine ⟨⟨False.elim, fun hP => ?_⟩, hE5'.trans' hE6⟩
          have := (hP i _ hx).1
          simp only at this
          omega
        · have f1 : (64 < (xk.length : Int)) = False := eq_false (by omega)
          simp only [↓VD, VP, VT, isAggD, reduceCtorEq, Int.reduceEq, Int.reduceNe, Int.reduceLT, Int.reduceLE, implies_true, Nat.reduceEqDiff, reduceIte, ite_true, ite_false, eq_self, Nat.reduceLT, Nat.reduceLeDiff, Nat.reduceAdd, Nat.reduceMul, Nat.reduceSub, intOf, h0, h4, h5, h16, h17, h18, f1]
          refine ldAt (pre := [.slice ak xk.length ck]) (post := []) Tryz.underlying22 rfl hB8 rfl ?_
          by_cases hv1 : 256 < xv.length
          · have f2 : (256 < (xv.length : Int)) = True := eq_true (by omega)
            simp only [↓VD, VP, VT, isAggD, reduceCtorEq, Int.reduceEq, Int.reduceNe, Int.reduceLT, Int.reduceLE, implies_true, Nat.reduceEqDiff, reduceIte, ite_true, ite_false, eq_self, Nat.reduceLT, Nat.reduceLeDiff, Nat.reduceAdd, Nat.reduceMul, Nat.reduceSub, intOf, h0, h4, h5, h16, h17, h18, f1, f2]
            intro w6 hE6
            refine ⟨⟨False.elim, fun hP => ?_⟩, hE5'.trans' hE6⟩
            have := (hP i _ hx).2.1
            simp only at this
            omega
          · have f2 : (256 < (xv.length : Int)) = False := eq_false (by omega)
            by_cases hi0 : i = 0
            · have f3 : (0 < (i : Int)) = False := eq_false (by omega)
              simp only [↓VD, VP, VT, isAggD, reduceCtorEq, Int.reduceEq, Int.reduceNe, Int.reduceLT, Int.reduceLE, implies_true, Nat.reduceEqDiff, reduceIte, ite_true, ite_false, eq_self, Nat.reduceLT, Nat.reduceLeDiff, Nat.reduceAdd, Nat.reduceMul, Nat.reduceSub, intOf, h0, h4, h5, h16, h17, h18, f1, f2, f3]
              intro w6 hE6
              exact ⟨hE6, by omega, by omega, fun p h => by omega⟩
            · have f3 : (0 < (i : Int)) = True := eq_true (by omega)
              have f4 : IntKind.i64.wrap ((i : Int) - 1) = ((i - 1 : Nat) : Int) := by rw [w64 (by omega) (by omega)]; omega
              obtain ⟨y, hy⟩ : ∃ y, ps[i - 1]? = some y := ⟨_, List.getElem?_eq_getElem (by omega)⟩
              obtain ⟨hyk, hyv⟩ := hpp y (List.mem_of_getElem? hy)
              simp only [↓VD, VP, VT, isAggD, reduceCtorEq, Int.reduceEq, Int.reduceNe, Int.reduceLT, Int.reduceLE, implies_true, Nat.reduceEqDiff, reduceIte, ite_true, ite_false, eq_self, Nat.reduceLT, Nat.reduceLeDiff, Nat.reduceAdd, Nat.reduceMul, Nat.reduceSub, intOf, h0, h4, h5, h16, h17, h18, f1, f2, f3]
              refine ldAt (pre := [.slice sa ss.length cs]) (post := []) Tryz.underlying24 rfl hB5 rfl ?_
              simp only [↓VD, VP, VT, isAggD, reduceCtorEq, Int.reduceEq, Int.reduceNe, Int.reduceLT, Int.reduceLE, implies_true, Nat.reduceEqDiff, reduceIte, ite_true, ite_false, eq_self, Nat.reduceLT, Nat.reduceLeDiff, Nat.reduceAdd, Nat.reduceMul, Nat.reduceSub, intOf, h0, h4, h5, h16, h17, h18, f1, f2, f3, f4]
              refine ⟨by omega, by omega, ldF (f := PR.cells) (sz := 2) (j := 0) Tryz.underlying22 rfl (fun d h => rfl) (hcW hE5) hy rfl (by omega) ?_⟩
              simp only [↓VD, VP, VT, isAggD, reduceCtorEq, Int.reduceEq, Int.reduceNe, Int.reduceLT, Int.reduceLE, implies_true, Nat.reduceEqDiff, reduceIte, ite_true, ite_false, eq_self, Nat.reduceLT, Nat.reduceLeDiff, Nat.reduceAdd, Nat.reduceMul, Nat.reduceSub, intOf, h0, h4, h5, h16, h17, h18, f1, f2, f3, f4]
              refine ldAt (pre := []) (post := [.slice av xv.length cv]) Tryz.underlying22 rfl hB8 rfl ?_
              obtain ⟨ay, cy, hye⟩ := slv_of hyk
              simp only [↓VD, VP, VT, isAggD, reduceCtorEq, Int.reduceEq, Int.reduceNe, Int.reduceLT, Int.reduceLE, implies_true, Nat.reduceEqDiff, reduceIte, ite_true, ite_false, eq_self, Nat.reduceLT, Nat.reduceLeDiff, Nat.reduceAdd, Nat.reduceMul, Nat.reduceSub, intOf, h0, h4, h5, h16, h17, h18, f1, f2, f3, f4, hye]
              refine qcall _ (fun w' hw' => (BCompare_ok y.k xk _ _ w' ((hye ▸ hyk).ext (hE5'.trans' hw')) (hxk.ext (hE5'.trans' hw'))).mono fun r w'' h => ⟨h.1, h.2 ▸ Ext.rfl' _⟩) ?_
              by_cases hcm1 : 0 ≤ Lib.compareBytes y.k xk
              · have f5 : (0 ≤ Lib.compareBytes y.k xk) = True := eq_true hcm1
                simp only [↓VD, VP, VT, isAggD, reduceCtorEq, Int.reduceEq, Int.reduceNe, Int.reduceLT, Int.reduceLE, implies_true, Nat.reduceEqDiff, reduceIte, ite_true, ite_false, eq_self, Nat.reduceLT, Nat.reduceLeDiff, Nat.reduceAdd, Nat.reduceMul, Nat.reduceSub, intOf, h0, h4, h5, h16, h17, h18, f1, f2, f3, f4, f5]
                intro w6 hE6
                refine ⟨⟨False.elim, fun hP => ?_⟩, hE5'.trans' hE6⟩
                have := (hP i _ hx).2.2.1 y (by omega) hy
                simp only at this
                omega
              · have f5 : (0 ≤ Lib.compareBytes y.k xk) = False := eq_false hcm1
                simp only [↓VD, VP, VT, isAggD, reduceCtorEq, Int.reduceEq, Int.reduceNe, Int.reduceLT, Int.reduceLE, implies_true, Nat.reduceEqDiff, reduceIte, ite_true, ite_false, eq_self, Nat.reduceLT, Nat.reduceLeDiff, Nat.reduceAdd, Nat.reduceMul, Nat.reduceSub, intOf, h0, h4, h5, h16, h17, h18, f1, f2, f3, f4, f5]
                intro w6 hE6
                refine ⟨hE6, by omega, by omega, fun p _ hp => ?_⟩
                rw [hy] at hp
                cases hp
                omega
      · rintro s6 w6 ⟨hE6, g0, g4, g5, g8, g16, g17, g18, hkl, hvl, hcmp⟩
        obtain ⟨y, hy⟩ : ∃ y, ps[0]? = some y := ⟨_, List.getElem?_eq_getElem (by omega)⟩
        obtain ⟨hyk, hyv⟩ := hpp y (List.mem_of_getElem? hy)
        have hyl := hpl y (List.mem_of_getElem? hy)
        have hE6' := hE5'.trans' hE6
        have hE26 := hE5.trans' hE6
        replace hB4 := hB4.ext hE6
        replace hB5 := hB5.ext hE6
        replace hB8 := hB8.ext hE6
        have z4 := hB4.lt
        simp only [↓VD, VP, VT, isAggD, reduceCtorEq, Int.reduceEq, Int.reduceNe, Int.reduceLT, Int.reduceLE, implies_true, Nat.reduceEqDiff, reduceIte, ite_true, ite_false, eq_self, Nat.reduceLT, Nat.reduceLeDiff, Nat.reduceAdd, Nat.reduceMul, Nat.reduceSub, intOf, g0, g4, g5, g8, g16, g17, g18]
        refine ldAt (pre := []) (post := [.slice av xv.length cv]) Tryz.underlying22 rfl hB8 rfl ?_
        simp only [↓VD, VP, VT, isAggD, reduceCtorEq, Int.reduceEq, Int.reduceNe, Int.reduceLT, Int.reduceLE, implies_true, Nat.reduceEqDiff, reduceIte, ite_true, ite_false, eq_self, Nat.reduceLT, Nat.reduceLeDiff, Nat.reduceAdd, Nat.reduceMul, Nat.reduceSub, intOf, g0, g4, g5, g8, g16, g17, g18]
        refine (Key_ok n xk _ w6 (hW.ext hE6') (hxk.ext hE6') (by omega)).mono ?_
        rintro _ w7 ⟨rfl, hE7⟩
        simp only [↓VD, VP, VT, isAggD, reduceCtorEq, Int.reduceEq, Int.reduceNe, Int.reduceLT, Int.reduceLE, implies_true, Nat.reduceEqDiff, reduceIte, ite_true, ite_false, eq_self, Nat.reduceLT, Nat.reduceLeDiff, Nat.reduceAdd, Nat.reduceMul, Nat.reduceSub, intOf, g0, g4, g5, g8, g16, g17, g18]
        intro w8 hN8
        have z7 := hE7.size
        have z8 := hN8.size
        refine stAll hN8.blk rfl (by rw [c28]; decide) (by rw [c28, vbs_len, sumR_len]) (by rw [c28]; simp) (vbs_one _) (fun w9 hP9 => ?_)
        have hE9 : Ext w6 w9 := hE7.trans' (hN8.ext.trans (hP9.below (Nat.le_refl _)))
        have hB9 := hP9.blk
        have z9 := hP9.size
        generalize w7.heap.size = b9 at *
        simp only [↓VD, VP, VT, isAggD, reduceCtorEq, Int.reduceEq, Int.reduceNe, Int.reduceLT, Int.reduceLE, implies_true, Nat.reduceEqDiff, reduceIte, ite_true, ite_false, eq_self, Nat.reduceLT, Nat.reduceLeDiff, Nat.reduceAdd, Nat.reduceMul, Nat.reduceSub, intOf, g0, g4, g5, g8, g16, g17, g18]
        refine ldAt (pre := [.slice sa ss.length cs]) (post := []) Tryz.underlying24 rfl (hB5.ext hE9) rfl ?_
        simp only [↓VD, VP, VT, isAggD, reduceCtorEq, Int.reduceEq, Int.reduceNe, Int.reduceLT, Int.reduceLE, implies_true, Nat.reduceEqDiff, reduceIte, ite_true, ite_false, eq_self, Nat.reduceLT, Nat.reduceLeDiff, Nat.reduceAdd, Nat.reduceMul, Nat.reduceSub, intOf, g0, g4, g5, g8, g16, g17, g18]
        refine ⟨by omega, ldF (f := PR.cells) (sz := 2) (i := 0) (j := 0) Tryz.underlying22 rfl (fun d h => rfl) (hcW (hE26.trans' hE9)) hy rfl (by simp) ?_⟩
        obtain ⟨ay, cy, hye⟩ := slv_of hyk
        simp only [↓VD, VP, VT, isAggD, reduceCtorEq, Int.reduceEq, Int.reduceNe, Int.reduceLT, Int.reduceLE, implies_true, Nat.reduceEqDiff, reduceIte, ite_true, ite_false, eq_self, Nat.reduceLT, Nat.reduceLeDiff, Nat.reduceAdd, Nat.reduceMul, Nat.reduceSub, intOf, g0, g4, g5, g8, g16, g17, g18]
        refine (Key_ok n y.k _ w9 (hW.ext (hE6'.trans' hE9)) (hyk.ext (hE6'.trans' hE9)) hyl).mono ?_
        rintro _ w10 ⟨rfl, hE10⟩
        simp only [↓VD, VP, VT, isAggD, reduceCtorEq, Int.reduceEq, Int.reduceNe, Int.reduceLT, Int.reduceLE, implies_true, Nat.reduceEqDiff, reduceIte, ite_true, ite_false, eq_self, Nat.reduceLT, Nat.reduceLeDiff, Nat.reduceAdd, Nat.reduceMul, Nat.reduceSub, intOf, g0, g4, g5, g8, g16, g17, g18]
        intro w11 hN11
        have z10 := hE10.size
        have z11 := hN11.size
        refine stAll hN11.blk rfl (by rw [c28]; decide) (by rw [c28, vbs_len, sumR_len]) (by rw [c28]; simp) (vbs_one _) (fun w12 hP12 => ?_)
        have hE12 : Ext w9 w12 := hE10.trans' (hN11.ext.trans (hP12.below (Nat.le_refl _)))
        have hB11 := hP12.blk
        have hB9' := hB9.ext hE12
        have hE69 := hE9.trans' hE12
        have hB4' := hB4.ext hE69
        have hB5' := hB5.ext hE69
        generalize w10.heap.size = b11 at *
        have lk1 := sumR_len n (2 :: xk)
        have lk2 := sumR_len n (2 :: y.k)
        simp only [↓VD, VP, VT, isAggD, reduceCtorEq, Int.reduceEq, Int.reduceNe, Int.reduceLT, Int.reduceLE, implies_true, Nat.reduceEqDiff, reduceIte, ite_true, ite_false, eq_self, Nat.reduceLT, Nat.reduceLeDiff, Nat.reduceAdd, Nat.reduceMul, Nat.reduceSub, intOf, g0, g4, g5, g8, g16, g17, g18]
        refine ldA Tryz.underlying28 rfl hB4' (by rw [vbs_len, hk, c28]) ?_
        simp only [↓VD, VP, VT, isAggD, reduceCtorEq, Int.reduceEq, Int.reduceNe, Int.reduceLT, Int.reduceLE, implies_true, Nat.reduceEqDiff, reduceIte, ite_true, ite_false, eq_self, Nat.reduceLT, Nat.reduceLeDiff, Nat.reduceAdd, Nat.reduceMul, Nat.reduceSub, intOf, g0, g4, g5, g8, g16, g17, g18]
        refine ldA Tryz.underlying28 rfl hB9' (by rw [vbs_len, lk1, c28]) ?_
        simp only [↓VD, VP, VT, isAggD, reduceCtorEq, Int.reduceEq, Int.reduceNe, Int.reduceLT, Int.reduceLE, implies_true, Nat.reduceEqDiff, reduceIte, ite_true, ite_false, eq_self, Nat.reduceLT, Nat.reduceLeDiff, Nat.reduceAdd, Nat.reduceMul, Nat.reduceSub, intOf, g0, g4, g5, g8, g16, g17, g18]
        refine (Common_ok n k (sumR n (2 :: xk)) hk lk1 w12).mono ?_
        rintro _ w13 ⟨rfl, hE13⟩
        have hEZ : Ext w2 w13 := hE26.trans' (hE69.trans' hE13)
        simp only [↓VD, VP, VT, isAggD, reduceCtorEq, Int.reduceEq, Int.reduceNe, Int.reduceLT, Int.reduceLE, implies_true, Nat.reduceEqDiff, reduceIte, ite_true, ite_false, eq_self, Nat.reduceLT, Nat.reduceLeDiff, Nat.reduceAdd, Nat.reduceMul, Nat.reduceSub, intOf, g0, g4, g5, g8, g16, g17, g18]
        refine ldA Tryz.underlying28 rfl (hB9'.ext hE13) (by rw [vbs_len, lk1, c28]) ?_
        simp only [↓VD, VP, VT, isAggD, reduceCtorEq, Int.reduceEq, Int.reduceNe, Int.reduceLT, Int.reduceLE, implies_true, Nat.reduceEqDiff, reduceIte, ite_true, ite_false, eq_self, Nat.reduceLT, Nat.reduceLeDiff, Nat.reduceAdd, Nat.reduceMul, Nat.reduceSub, intOf, g0, g4, g5, g8, g16, g17, g18]
        refine ldA Tryz.underlying28 rfl (hB11.ext hE13) (by rw [vbs_len, lk2, c28]) ?_
        simp only [↓VD, VP, VT, isAggD, reduceCtorEq, Int.reduceEq, Int.reduceNe, Int.reduceLT, Int.reduceLE, implies_true, Nat.reduceEqDiff, reduceIte, ite_true, ite_false, eq_self, Nat.reduceLT, Nat.reduceLeDiff, Nat.reduceAdd, Nat.reduceMul, Nat.reduceSub, intOf, g0, g4, g5, g8, g16, g17, g18]
        refine eqd_lit _ _ _ _ _ _ Tryz.underlying5 c5 lk1 lk2 ?_
        by_cases hkk : sumR n (2 :: xk) = sumR n (2 :: y.k)
        · have f6 : (sumR n (2 :: xk) = sumR n (2 :: y.k)) = True := eq_true hkk
          simp only [↓VD, VP, VT, isAggD, reduceCtorEq, Int.reduceEq, Int.reduceNe, Int.reduceLT, Int.reduceLE, implies_true, Nat.reduceEqDiff, reduceIte, ite_true, ite_false, eq_self, Nat.reduceLT, Nat.reduceLeDiff, Nat.reduceAdd, Nat.reduceMul, Nat.reduceSub, intOf, g0, g4, g5, g8, g16, g17, g18, f6]
          refine ldAt (pre := []) (post := [.slice (some ⟨b, o, none⟩) ps.length c]) Tryz.underlying23 rfl (hB5'.ext hE13) rfl ?_
          simp only [↓VD, VP, VT, isAggD, reduceCtorEq, Int.reduceEq, Int.reduceNe, Int.reduceLT, Int.reduceLE, implies_true, Nat.reduceEqDiff, reduceIte, ite_true, ite_false, eq_self, Nat.reduceLT, Nat.reduceLeDiff, Nat.reduceAdd, Nat.reduceMul, Nat.reduceSub, intOf, g0, g4, g5, g8, g16, g17, g18, f6]
          refine ⟨fun hlt9 => ⟨⟨False.elim, fun hP => ?_⟩, hE2.trans' hEZ⟩, fun hge9 => ⟨⟨hEZ, i + 1, by omega, by rw [w64 (by omega) (by omega)]; rfl, fun j s hj hs' => ?_⟩, by rw [w64 (by omega) (by omega), h18]; simp only [intOf]; omega⟩⟩
          · have := (hP i _ hx).2.2.2.2
            simp only [keyD] at this
            omega
          · by_cases hji : j < i
            · exact hz j s hji hs'
            · obtain rfl : j = i := by omega
              rw [hx] at hs'
              cases hs'
              refine ⟨hkl, hvl, hcmp, fun p hp => ?_, by simp only [keyD]; omega⟩
              rw [hy] at hp
              cases hp
              exact hkk
        · have f6 : (sumR n (2 :: xk) = sumR n (2 :: y.k)) = False := eq_false hkk
          simp only [↓VD, VP, VT, isAggD, reduceCtorEq, Int.reduceEq, Int.reduceNe, Int.reduceLT, Int.reduceLE, implies_true, Nat.reduceEqDiff, reduceIte, ite_true, ite_false, eq_self, Nat.reduceLT, Nat.reduceLeDiff, Nat.reduceAdd, Nat.reduceMul, Nat.reduceSub, intOf, g0, g4, g5, g8, g16, g17, g18, f6]
          refine ⟨⟨False.elim, fun hP => hkk ((hP i _ hx).2.2.2.1 y hy)⟩, hE2.trans' hEZ⟩
    · refine ⟨⟨fun _ => fun j s hs' => hz j s ?_ hs', fun _ => trivial⟩, hE2.trans' hE3⟩
      have := (List.getElem?_eq_some_iff.1 hs').1
      omega

end Go.Proofs.YticfalbgplifoaaGreatDoor
