/-
  The laws of layer 13 without the document: NibbleDigits, NibbleOrders. Conditions: as stated in each theorem.
-/
import Derived.Test.YtheojegfgcbacaaL13D
namespace Go.Proofs.Ytheojegfgcbacaa
open Go Go.RowKit
set_option linter.unusedVariables false
set_option linter.unusedSimpArgs false

def fitP (n : Int) (a b : List UInt8) : Bool := formP n a && formP n b
theorem fit_ok (n : Int) (a b : List UInt8) (ha : a.length = 32) (hb : b.length = 32) (w : World) :
    CallK Try.prog 28 [.int .i64 n, .agg (vbs a).toArray, .agg (vbs b).toArray].toArray w fun v w' => v = .bool (fitP n a b) ∧ Ext w w' := by
  refine enterT Try.func28 rfl Try.ntmps28 Try.results28 rfl (by decide) ?_
  simp only [↓VD, VP, VT, isAggD, reduceCtorEq, Int.reduceEq, Int.reduceNe, Int.reduceLT, Int.reduceLE, implies_true, Nat.reduceEqDiff, reduceIte, ite_true, ite_false, eq_self, Nat.reduceLT, Nat.reduceLeDiff, Nat.reduceAdd, Nat.reduceMul, Nat.reduceSub, intOf]
  intro w0 hN0 w0' hN0'
  have hA := hN0'.keep hN0.blk
  have hB := hN0'.blk
  refine (Width_ok n w0').mono ?_
  rintro _ w1 ⟨rfl, hE1⟩
  simp only [↓VD, VP, VT, isAggD, reduceCtorEq, Int.reduceEq, Int.reduceNe, Int.reduceLT, Int.reduceLE, implies_true, Nat.reduceEqDiff, reduceIte, ite_true, ite_false, eq_self, Nat.reduceLT, Nat.reduceLeDiff, Nat.reduceAdd, Nat.reduceMul, Nat.reduceSub, intOf]
  have h0 : Ext w w1 := hN0.ext.trans' (hN0'.ext.trans' hE1)
  refine bsplit_i (fun hi => ?_) (fun hi => ?_)
  · simp only [↓VD, VP, VT, isAggD, reduceCtorEq, Int.reduceEq, Int.reduceNe, Int.reduceLT, Int.reduceLE, implies_true, Nat.reduceEqDiff, reduceIte, ite_true, ite_false, eq_self, Nat.reduceLT, Nat.reduceLeDiff, Nat.reduceAdd, Nat.reduceMul, Nat.reduceSub, intOf]
    refine ldD (hA.ext hE1) ha ?_
    simp only [↓VD, VP, VT, isAggD, reduceCtorEq, Int.reduceEq, Int.reduceNe, Int.reduceLT, Int.reduceLE, implies_true, Nat.reduceEqDiff, reduceIte, ite_true, ite_false, eq_self, Nat.reduceLT, Nat.reduceLeDiff, Nat.reduceAdd, Nat.reduceMul, Nat.reduceSub, intOf]
    refine (DocForm_ok n a ha w1).mono ?_
    rintro _ w2 ⟨rfl, hE2⟩
    simp only [↓VD, VP, VT, isAggD, reduceCtorEq, Int.reduceEq, Int.reduceNe, Int.reduceLT, Int.reduceLE, implies_true, Nat.reduceEqDiff, reduceIte, ite_true, ite_false, eq_self, Nat.reduceLT, Nat.reduceLeDiff, Nat.reduceAdd, Nat.reduceMul, Nat.reduceSub, intOf]
    refine bsplit_i (fun hf => ?_) (fun hf => ?_)
    · simp only [↓VD, VP, VT, isAggD, reduceCtorEq, Int.reduceEq, Int.reduceNe, Int.reduceLT, Int.reduceLE, implies_true, Nat.reduceEqDiff, reduceIte, ite_true, ite_false, eq_self, Nat.reduceLT, Nat.reduceLeDiff, Nat.reduceAdd, Nat.reduceMul, Nat.reduceSub, intOf]
      refine ldD ((hB.ext hE1).ext hE2) hb ?_
      simp only [↓VD, VP, VT, isAggD, reduceCtorEq, Int.reduceEq, Int.reduceNe, Int.reduceLT, Int.reduceLE, implies_true, Nat.reduceEqDiff, reduceIte, ite_true, ite_false, eq_self, Nat.reduceLT, Nat.reduceLeDiff, Nat.reduceAdd, Nat.reduceMul, Nat.reduceSub, intOf]
      refine (DocForm_ok n b hb w2).mono ?_
      rintro _ w3 ⟨rfl, hE3⟩
      simp only [↓VD, VP, VT, isAggD, reduceCtorEq, Int.reduceEq, Int.reduceNe, Int.reduceLT, Int.reduceLE, implies_true, Nat.reduceEqDiff, reduceIte, ite_true, ite_false, eq_self, Nat.reduceLT, Nat.reduceLeDiff, Nat.reduceAdd, Nat.reduceMul, Nat.reduceSub, intOf]
      exact ⟨by rw [fitP, hf, Bool.true_and], h0.trans' (hE2.trans' hE3)⟩
    · simp only [↓VD, VP, VT, isAggD, reduceCtorEq, Int.reduceEq, Int.reduceNe, Int.reduceLT, Int.reduceLE, implies_true, Nat.reduceEqDiff, reduceIte, ite_true, ite_false, eq_self, Nat.reduceLT, Nat.reduceLeDiff, Nat.reduceAdd, Nat.reduceMul, Nat.reduceSub, intOf]
      exact ⟨by rw [fitP, hf, Bool.false_and], h0.trans' hE2⟩
  · simp only [↓VD, VP, VT, isAggD, reduceCtorEq, Int.reduceEq, Int.reduceNe, Int.reduceLT, Int.reduceLE, implies_true, Nat.reduceEqDiff, reduceIte, ite_true, ite_false, eq_self, Nat.reduceLT, Nat.reduceLeDiff, Nat.reduceAdd, Nat.reduceMul, Nat.reduceSub, intOf]
    exact ⟨by rw [fitP, formP, hi]; rfl, h0⟩

theorem wu8 (z : Int) : IntKind.u8.wrap z = z % 256 := by simp [IntKind.wrap, IntKind.signed, IntKind.bits]
/-- Storing one byte. -/
theorem stB {P : Program} {T U : TypeId} {w : World} {b o : Nat} {l : List UInt8} {y : UInt8} {K : World → Prop} (hc : P.cellsOf T = 1) (hb : Blk w b U (vbs l)) (ho : o < l.length) (hK : ∀ w', Put w w' b U (vbs (l.set o y)) → K w') : vcStore P T w b o (.int .u8 y.toNat) K := by
  refine ⟨U, vbs l, [vb y], hb, rfl, by omega, by simp [hc], by simp [oneCellV, vb], by simp [vbs_len]; omega, fun w' hp => hK w' ?_⟩
  have : splice (vbs l) o [vb y] = vbs (l.set o y) := by
    rw [splice, vbs, vbs, List.set_eq_take_append_cons_drop, if_pos ho, List.map_append, List.map_take, List.map_cons, List.map_drop]
    simp
  rw [this] at hp
  exact hp

def pbB (d : List UInt8) (k j : Nat) : UInt8 := if 2 * j + 2 ≤ k then d.getD j 0 else if 2 * j + 1 = k then UInt8.ofNat ((d.getD j 0).toNat / 16) else 0
def pb (d : List UInt8) (k : Nat) : List UInt8 := (List.range 32).map fun j => pbB d k j
theorem pb_len (d : List UInt8) (k : Nat) : (pb d k).length = 32 := by simp [pb]
theorem pb_get {d : List UInt8} {k j : Nat} (h : j < 32) : (pb d k).getD j 0 = pbB d k j := by simp [pb, h]
theorem pb_zero (d : List UInt8) : pb d 0 = List.replicate 32 0 := by
  apply List.ext_getElem (by simp [pb])
  intro j h1 h2
  simp only [pb, List.getElem_map, List.getElem_range, List.getElem_replicate, pbB]
  rw [if_neg (by omega), if_neg (by omega)]
theorem pb_succ {d : List UInt8} {k : Nat} (h : k < 64) : pb d (k + 1) = (pb d k).set (k / 2) (pbB d (k + 1) (k / 2)) := by
  apply List.ext_getElem (by simp [pb])
  intro j h1 h2
  rw [List.getElem_set]
  split
  · rename_i e; subst e; simp [pb]
  · rename_i e
    simp only [pb, List.getElem_map, List.getElem_range, pbB]
    by_cases e1 : 2 * j + 2 ≤ k
    · rw [if_pos (by omega), if_pos e1]
    · rw [if_neg (by omega), if_neg e1, if_neg (by omega), if_neg (by omega)]
theorem pb_step (d : List UInt8) (k : Nat) (h : k < 64) : (((pbB d k (k / 2)).toNat * 16 : Nat) : Int) % 256 + (digP d k : Int) = ((pbB d (k + 1) (k / 2)).toNat : Int) := by
  have hy := (d.getD (k / 2) 0).toNat_lt
  generalize hd : d.getD (k / 2) 0 = y at *
  simp only [pbB, digP, hd]
  by_cases e : k % 2 = 0
  · rw [if_neg (by omega), if_neg (by omega), if_pos e, if_neg (by omega), if_pos (by omega), UInt8.toNat_ofNat', Nat.mod_eq_of_lt (by omega)]
    have : (0 : UInt8).toNat = 0 := rfl
    omega
  · rw [if_neg (by omega), if_pos (by omega), if_neg e, if_pos (by omega), UInt8.toNat_ofNat', Nat.mod_eq_of_lt (by omega)]
    omega
theorem form_eq {n : Nat} {d : List UInt8} (hd : d.length = 32) (hf : formP n d = true) : pb d (2 * n) = d := by
  have h1 : ∀ b ∈ d.drop n, b = 0 := by
    simp only [formP, Bool.and_eq_true, decide_eq_true_eq, Int.toNat_natCast] at hf
    exact hf.2
  apply List.ext_getElem (by rw [pb_len, hd])
  intro j h2 h3
  simp only [pb, List.getElem_map, List.getElem_range, pbB, List.getD_eq_getElem?_getD, List.getElem?_eq_getElem h3, Option.getD_some]
  split
  · rfl
  · split
    · omega
    · symm
      apply h1
      rw [List.mem_iff_getElem]
      refine ⟨j - n, by rw [List.length_drop]; omega, ?_⟩
      rw [List.getElem_drop]
      congr 1
      omega

theorem dig_le (d : List UInt8) (i : Nat) : digP d i ≤ 15 := by
  have hy := (d.getD (i / 2) 0).toNat_lt
  unfold digP; split <;> omega
theorem at_in {n : Nat} (hn : 1 ≤ n ∧ n ≤ 32) {d : List UInt8} (hf : formP n d = true) {i : Nat} (hi : i < 2 * n) : atP n d i = ((digP d i : Int), 0) := by
  rw [atP, if_neg (by omega), form_chk (by omega), if_pos (by simpa using hf)]
  simp
theorem at_out {n : Nat} (hn : 1 ≤ n ∧ n ≤ 32) {d : List UInt8} {i : Int} (hi : i < 0 ∨ 2 * n ≤ i) : atP n d i = (0, 1) := by
  rw [atP, if_pos (by omega)]

theorem NibbleDigits_ok (n : Int) (d : List UInt8) (hd : d.length = 32) (w : World) :
    CallK Try.prog 6 [.int .i64 n, .agg (vbs d).toArray].toArray w fun v w' => v = .bool true ∧ Ext w w' := by
  refine enterT Try.func6 rfl Try.ntmps6 Try.results6 rfl (by decide) ?_
  simp only [↓VD, VP, VT, isAggD, reduceCtorEq, Int.reduceEq, Int.reduceNe, Int.reduceLT, Int.reduceLE, implies_true, Nat.reduceEqDiff, reduceIte, ite_true, ite_false, eq_self, Nat.reduceLT, Nat.reduceLeDiff, Nat.reduceAdd, Nat.reduceMul, Nat.reduceSub, intOf]
  intro w0 hN
  refine (awake_ok w0).mono ?_
  rintro _ w1 ⟨rfl, hE1⟩
  simp only [↓VD, VP, VT, isAggD, reduceCtorEq, Int.reduceEq, Int.reduceNe, Int.reduceLT, Int.reduceLE, implies_true, Nat.reduceEqDiff, reduceIte, ite_true, ite_false, eq_self, Nat.reduceLT, Nat.reduceLeDiff, Nat.reduceAdd, Nat.reduceMul, Nat.reduceSub, intOf]
  have hB1 := hN.blk.ext hE1
  refine ldD hB1 hd ?_
  simp only [↓VD, VP, VT, isAggD, reduceCtorEq, Int.reduceEq, Int.reduceNe, Int.reduceLT, Int.reduceLE, implies_true, Nat.reduceEqDiff, reduceIte, ite_true, ite_false, eq_self, Nat.reduceLT, Nat.reduceLeDiff, Nat.reduceAdd, Nat.reduceMul, Nat.reduceSub, intOf]
  refine ldD hB1 hd ?_
  simp only [↓VD, VP, VT, isAggD, reduceCtorEq, Int.reduceEq, Int.reduceNe, Int.reduceLT, Int.reduceLE, implies_true, Nat.reduceEqDiff, reduceIte, ite_true, ite_false, eq_self, Nat.reduceLT, Nat.reduceLeDiff, Nat.reduceAdd, Nat.reduceMul, Nat.reduceSub, intOf]
  refine (fit_ok n d d hd hd w1).mono ?_
  rintro _ w2 ⟨rfl, hE2⟩
  simp only [↓VD, VP, VT, isAggD, reduceCtorEq, Int.reduceEq, Int.reduceNe, Int.reduceLT, Int.reduceLE, implies_true, Nat.reduceEqDiff, reduceIte, ite_true, ite_false, eq_self, Nat.reduceLT, Nat.reduceLeDiff, Nat.reduceAdd, Nat.reduceMul, Nat.reduceSub, intOf]
  have h2 : Ext w w2 := hN.ext.trans' (hE1.trans' hE2)
  refine bsplit_i (fun hi => ?_) (fun hi => ?_)
  · have hf : formP n d = true := by rw [fitP, Bool.and_self] at hi; exact hi
    have hn : 1 ≤ n ∧ n ≤ 32 := by simp only [formP, widthP, Bool.and_eq_true, decide_eq_true_eq] at hf; exact hf.1
    obtain ⟨n, rfl⟩ : ∃ m : Nat, n = m := ⟨n.toNat, by omega⟩
    have hB2 := hB1.ext hE2
    simp only [↓VD, VP, VT, isAggD, reduceCtorEq, Int.reduceEq, Int.reduceNe, Int.reduceLT, Int.reduceLE, implies_true, Nat.reduceEqDiff, reduceIte, ite_true, ite_false, eq_self, Nat.reduceLT, Nat.reduceLeDiff, Nat.reduceAdd, Nat.reduceMul, Nat.reduceSub, intOf]
    intro w3 hN3
    have hB3 := hN3.keep hB2
    have hK3 := hN3.blk
    refine loopT (fun s' w' => Ext w2 w' ∧ ∃ k : Nat, k ≤ 2 * n ∧ s' 0 = .int .i64 n ∧ s' 3 = .pointer (some ⟨w.heap.size, 0, none⟩) ∧ s' 5 = .pointer (some ⟨w2.heap.size, 0, none⟩) ∧ s' 6 = .int .i64 k ∧ Blk w' w2.heap.size 23 (vbs (pb d k))) (fun s' _ => 2 * n - (intOf (s' 6)).toNat) ?_ ?_
    · simp only [↓VD, VP, VT, isAggD, reduceCtorEq, Int.reduceEq, Int.reduceNe, Int.reduceLT, Int.reduceLE, implies_true, Nat.reduceEqDiff, reduceIte, ite_true, ite_false, eq_self, Nat.reduceLT, Nat.reduceLeDiff, Nat.reduceAdd, Nat.reduceMul, Nat.reduceSub, intOf]
      exact ⟨hN3.ext, 0, by omega, rfl, by rw [pb_zero, ← vbs_rep]; exact hK3⟩
    · rintro s1 w4 ⟨hE4, k, hk, h0, h3, h5, h6, hK⟩
      have hB4 := hB2.ext hE4
      simp only [↓VD, VP, VT, isAggD, reduceCtorEq, Int.reduceEq, Int.reduceNe, Int.reduceLT, Int.reduceLE, implies_true, Nat.reduceEqDiff, reduceIte, ite_true, ite_false, eq_self, Nat.reduceLT, Nat.reduceLeDiff, Nat.reduceAdd, Nat.reduceMul, Nat.reduceSub, intOf, h0, h3, h5, h6]
      rw [w64 (by omega) (by omega)]
      refine ⟨fun hlt => ?_, fun hge => ?_⟩
      · have hk' : k < 2 * n := by omega
        refine ldD hB4 hd ?_
        simp only [↓VD, VP, VT, isAggD, reduceCtorEq, Int.reduceEq, Int.reduceNe, Int.reduceLT, Int.reduceLE, implies_true, Nat.reduceEqDiff, reduceIte, ite_true, ite_false, eq_self, Nat.reduceLT, Nat.reduceLeDiff, Nat.reduceAdd, Nat.reduceMul, Nat.reduceSub, intOf, h0, h3, h5, h6]
        refine (At_ok n d hd k w4).mono ?_
        rintro _ w5 ⟨rfl, hE5⟩
        rw [at_in (by omega) hf hk']
        have hdl := dig_le d k
        have q1 : ((digP d k : Int) < 0) = False := eq_false (by omega)
        have q2 : ((15 : Int) < (digP d k : Int)) = False := eq_false (by omega)
        simp only [↓VD, VP, VT, isAggD, reduceCtorEq, Int.reduceEq, Int.reduceNe, Int.reduceLT, Int.reduceLE, implies_true, Nat.reduceEqDiff, reduceIte, ite_true, ite_false, eq_self, Nat.reduceLT, Nat.reduceLeDiff, Nat.reduceAdd, Nat.reduceMul, Nat.reduceSub, intOf, h0, h3, h5, h6, q1, q2]
        have ek : IntKind.i64.wrap ((k : Int).tdiv 2) = ((k / 2 : Nat) : Int) := by
          rw [Int.tdiv_eq_ediv_of_nonneg (by omega), w64 (by omega) (by omega)]; rfl
        rw [ek]
        refine ⟨by omega, by omega, ldB Try.underlying5 (hK.ext hE5) (by rw [pb_len]; omega) ?_⟩
        rw [Int.toNat_natCast, pb_get (by omega)]
        simp only [↓VD, VP, VT, isAggD, reduceCtorEq, Int.reduceEq, Int.reduceNe, Int.reduceLT, Int.reduceLE, implies_true, Nat.reduceEqDiff, reduceIte, ite_true, ite_false, eq_self, Nat.reduceLT, Nat.reduceLeDiff, Nat.reduceAdd, Nat.reduceMul, Nat.reduceSub, intOf, h0, h3, h5, h6, ek]
        have hv : IntKind.u8.wrap (IntKind.u8.wrap (((pbB d k (k / 2)).toNat : Int) * 16) + IntKind.u8.wrap (digP d k)) = ((pbB d (k + 1) (k / 2)).toNat : Int) := by
          have hs := pb_step d k (by omega)
          have hl := (pbB d (k + 1) (k / 2)).toNat_lt
          rw [w8 (n := (digP d k : Int)) (by omega) (by omega), wu8 (((pbB d k (k / 2)).toNat : Int) * 16)]
          rw [show ((pbB d k (k / 2)).toNat : Int) * 16 = (((pbB d k (k / 2)).toNat * 16 : Nat) : Int) from by omega, hs, w8 (by omega) (by omega)]
        rw [hv]
        refine ⟨by omega, by omega, stB c5 (hK.ext hE5) (by rw [pb_len]; omega) (fun w6 hP => ?_)⟩
        rw [← pb_succ (by omega)] at hP
        simp only [↓VD, VP, VT, isAggD, reduceCtorEq, Int.reduceEq, Int.reduceNe, Int.reduceLT, Int.reduceLE, implies_true, Nat.reduceEqDiff, reduceIte, ite_true, ite_false, eq_self, Nat.reduceLT, Nat.reduceLeDiff, Nat.reduceAdd, Nat.reduceMul, Nat.reduceSub, intOf, h0, h3, h5, h6]
        refine ⟨⟨(hE4.trans' hE5).trans (hP.below (Nat.le_refl _)), k + 1, by omega, by rw [w64 (by omega) (by omega)]; rfl, hP.blk⟩, ?_⟩
        rw [w64 (by omega) (by omega)]; omega
      · have ek : k = 2 * n := by omega
        subst ek
        rw [form_eq hd hf] at hK
        refine ldD hB4 hd ?_
        simp only [↓VD, VP, VT, isAggD, reduceCtorEq, Int.reduceEq, Int.reduceNe, Int.reduceLT, Int.reduceLE, implies_true, Nat.reduceEqDiff, reduceIte, ite_true, ite_false, eq_self, Nat.reduceLT, Nat.reduceLeDiff, Nat.reduceAdd, Nat.reduceMul, Nat.reduceSub, intOf, h0, h3, h5, h6]
        rw [w64 (by omega) (by omega)]
        refine (At_ok n d hd (2 * n) w4).mono ?_
        rintro _ w5 ⟨rfl, hE5⟩
        rw [at_out (by omega) (by omega)]
        simp only [↓VD, VP, VT, isAggD, reduceCtorEq, Int.reduceEq, Int.reduceNe, Int.reduceLT, Int.reduceLE, implies_true, Nat.reduceEqDiff, reduceIte, ite_true, ite_false, eq_self, Nat.reduceLT, Nat.reduceLeDiff, Nat.reduceAdd, Nat.reduceMul, Nat.reduceSub, intOf, h0, h3, h5, h6]
        refine ldD (hB4.ext hE5) hd ?_
        simp only [↓VD, VP, VT, isAggD, reduceCtorEq, Int.reduceEq, Int.reduceNe, Int.reduceLT, Int.reduceLE, implies_true, Nat.reduceEqDiff, reduceIte, ite_true, ite_false, eq_self, Nat.reduceLT, Nat.reduceLeDiff, Nat.reduceAdd, Nat.reduceMul, Nat.reduceSub, intOf, h0, h3, h5, h6]
        refine (At_ok n d hd (-1) w5).mono ?_
        rintro _ w6 ⟨rfl, hE6⟩
        rw [at_out (by omega) (by omega)]
        simp only [↓VD, VP, VT, isAggD, reduceCtorEq, Int.reduceEq, Int.reduceNe, Int.reduceLT, Int.reduceLE, implies_true, Nat.reduceEqDiff, reduceIte, ite_true, ite_false, eq_self, Nat.reduceLT, Nat.reduceLeDiff, Nat.reduceAdd, Nat.reduceMul, Nat.reduceSub, intOf, h0, h3, h5, h6]
        refine ldD ((hK.ext hE5).ext hE6) hd ?_
        simp only [↓VD, VP, VT, isAggD, reduceCtorEq, Int.reduceEq, Int.reduceNe, Int.reduceLT, Int.reduceLE, implies_true, Nat.reduceEqDiff, reduceIte, ite_true, ite_false, eq_self, Nat.reduceLT, Nat.reduceLeDiff, Nat.reduceAdd, Nat.reduceMul, Nat.reduceSub, intOf, h0, h3, h5, h6]
        refine ldD ((hB4.ext hE5).ext hE6) hd ?_
        simp only [↓VD, VP, VT, isAggD, reduceCtorEq, Int.reduceEq, Int.reduceNe, Int.reduceLT, Int.reduceLE, implies_true, Nat.reduceEqDiff, reduceIte, ite_true, ite_false, eq_self, Nat.reduceLT, Nat.reduceLeDiff, Nat.reduceAdd, Nat.reduceMul, Nat.reduceSub, intOf, h0, h3, h5, h6]
        refine eqd_lit _ _ 32 d d _ Try.underlying5 c5 hd hd ?_
        simp only [↓VD, VP, VT, isAggD, reduceCtorEq, Int.reduceEq, Int.reduceNe, Int.reduceLT, Int.reduceLE, implies_true, Nat.reduceEqDiff, reduceIte, ite_true, ite_false, eq_self, Nat.reduceLT, Nat.reduceLeDiff, Nat.reduceAdd, Nat.reduceMul, Nat.reduceSub, intOf]
        exact h2.trans' (hE4.trans' (hE5.trans' hE6))
  · simp only [↓VD, VP, VT, isAggD, reduceCtorEq, Int.reduceEq, Int.reduceNe, Int.reduceLT, Int.reduceLE, implies_true, Nat.reduceEqDiff, reduceIte, ite_true, ite_false, eq_self, Nat.reduceLT, Nat.reduceLeDiff, Nat.reduceAdd, Nat.reduceMul, Nat.reduceSub, intOf]
    exact h2

/-! ### Where two digests part -/
theorem comP_below (a b : List UInt8) : ∀ m j, j < comP a b m → digP a j = digP b j
  | 0, j, h => by simp [comP] at h
  | m + 1, j, h => by
    unfold comP at h
    split at h
    · exact comP_below a b m j h
    · rename_i h1
      have hm : comP a b m = m := by have := comP_le a b m; omega
      split at h
      · rename_i h2
        by_cases e : j = m
        · subst e; exact h2
        · exact comP_below a b m j (by omega)
      · exact comP_below a b m j (by omega)
theorem comP_at (a b : List UInt8) : ∀ m, comP a b m < m → digP a (comP a b m) ≠ digP b (comP a b m)
  | 0, h => by simp [comP] at h
  | m + 1, h => by
    unfold comP at h ⊢
    split
    · rename_i h1; exact comP_at a b m h1
    · rename_i h1
      rw [if_neg h1] at h
      split
      · rename_i h2; rw [if_pos h2] at h; omega
      · rename_i h2; exact h2
theorem comP_comm (a b : List UInt8) (m : Nat) : comP a b m = comP b a m := by
  by_cases h : comP b a m < m
  · exact comP_part a b _ (fun j hj => (comP_below b a m j hj).symm) (fun e => comP_at b a m h e.symm) m h
  · have e : comP b a m = m := by have := comP_le b a m; omega
    rw [e]
    exact comP_same a b m (fun j hj => (comP_below b a m j (by omega)).symm)
theorem byte_digs (d : List UInt8) (j : Nat) : (d.getD j 0).toNat = 16 * digP d (2 * j) + digP d (2 * j + 1) := by
  simp only [digP]
  rw [if_pos (by omega), if_neg (by omega), show 2 * j / 2 = j from by omega, show (2 * j + 1) / 2 = j from by omega]
  omega
theorem form_zero {n : Nat} {d : List UInt8} (hf : formP n d = true) {j : Nat} (hj : n ≤ j) : d.getD j 0 = 0 := by
  have h1 : ∀ b ∈ d.drop n, b = 0 := by
    simp only [formP, Bool.and_eq_true, decide_eq_true_eq, Int.toNat_natCast] at hf
    exact hf.2
  by_cases h : j < d.length
  · rw [List.getD_eq_getElem?_getD, List.getElem?_eq_getElem h, Option.getD_some]
    apply h1
    rw [List.mem_iff_getElem]
    refine ⟨j - n, by rw [List.length_drop]; omega, ?_⟩
    rw [List.getElem_drop]; congr 1; omega
  · rw [List.getD_eq_getElem?_getD, List.getElem?_eq_none (by omega)]; rfl
theorem com_all {n : Nat} {a b : List UInt8} (ha : a.length = 32) (hb : b.length = 32) (fa : formP n a = true) (fb : formP n b = true) : comP a b (2 * n) = 2 * n ↔ a = b := by
  constructor
  · intro h
    apply List.ext_getElem (by omega)
    intro j h1 h2
    have ga : a[j] = a.getD j 0 := by rw [List.getD_eq_getElem?_getD, List.getElem?_eq_getElem h1]; rfl
    have gb : b[j] = b.getD j 0 := by rw [List.getD_eq_getElem?_getD, List.getElem?_eq_getElem h2]; rfl
    rw [ga, gb]
    by_cases hj : j < n
    · have d1 := comP_below a b (2 * n) (2 * j) (by omega)
      have d2 := comP_below a b (2 * n) (2 * j + 1) (by omega)
      have e1 := byte_digs a j
      have e2 := byte_digs b j
      exact UInt8.toNat_inj.1 (by omega)
    · rw [form_zero fa (by omega), form_zero fb (by omega)]
  · rintro rfl; exact comP_same a a _ (fun _ _ => rfl)
/-- The first bytes that differ hold the first digits that differ. -/
theorem com_byte {n k : Nat} {a b : List UInt8} (hk : k < n) (hs : ∀ j, j < k → a.getD j 0 = b.getD j 0) (hd : a.getD k 0 ≠ b.getD k 0) :
    comP a b (2 * n) / 2 = k ∧ comP a b (2 * n) < 2 * n ∧ ((a.getD k 0).toNat < (b.getD k 0).toNat ↔ digP a (comP a b (2 * n)) < digP b (comP a b (2 * n))) := by
  have hlow : ∀ j, j < 2 * k → digP a j = digP b j := by
    intro j hj
    have := hs (j / 2) (by omega)
    simp only [digP, this]
  have hne : (a.getD k 0).toNat ≠ (b.getD k 0).toNat := fun e => hd (UInt8.toNat_inj.1 e)
  have e1 := byte_digs a k
  have e2 := byte_digs b k
  have l1 := dig_le a (2 * k + 1)
  have l2 := dig_le b (2 * k + 1)
  by_cases h1 : digP a (2 * k) = digP b (2 * k)
  · have hc : comP a b (2 * n) = 2 * k + 1 := by
      refine comP_part a b _ (fun j hj => ?_) (by omega) _ (by omega)
      by_cases e : j = 2 * k
      · subst e; exact h1
      · exact hlow j (by omega)
    rw [hc]; omega
  · have hc : comP a b (2 * n) = 2 * k := comP_part a b _ hlow h1 _ (by omega)
    rw [hc]; omega

theorem comPP_fit {n : Nat} (hn : 1 ≤ n ∧ n ≤ 32) {a b : List UInt8} (fa : formP n a = true) (fb : formP n b = true) : comPP n a b = ((comP a b (2 * n) : Int), 0) := by
  have : chkP n [a, b] = 0 := by rw [form_chk (by omega), if_pos (by simp [fa, fb])]
  rw [comPP, if_pos this]; rfl
theorem ordP_fit {n : Nat} (hn : 1 ≤ n ∧ n ≤ 32) {a b : List UInt8} (fa : formP n a = true) (fb : formP n b = true) :
    ordP n a b = (if comP a b (2 * n) = 2 * n then 0 else if digP a (comP a b (2 * n)) < digP b (comP a b (2 * n)) then -1 else 1, 0) := by
  have : chkP n [a, b] = 0 := by rw [form_chk (by omega), if_pos (by simp [fa, fb])]
  rw [ordP, if_pos this]; rfl

theorem ord_facts {n : Nat} (hn : 1 ≤ n ∧ n ≤ 32) {a b : List UInt8} (ha : a.length = 32) (hb : b.length = 32) (fa : formP n a = true) (fb : formP n b = true) :
    ∃ o : Int, ordP n a b = (o, 0) ∧ ordP n b a = (-o, 0) ∧ (-1 ≤ o ∧ o ≤ 1) ∧ (o = 0 ↔ a = b) ∧ (comP a b (2 * n) < 2 * n → (o = -1 ↔ digP a (comP a b (2 * n)) < digP b (comP a b (2 * n)))) := by
  have e1 := ordP_fit hn fa fb
  have e2 := ordP_fit hn fb fa
  have hc := com_all ha hb fa fb
  have hd := comP_at a b (2 * n)
  have hl := comP_le a b (2 * n)
  rw [comP_comm b a] at e2
  generalize comP a b (2 * n) = c at *
  refine ⟨_, e1, ?_, ?_, ?_, ?_⟩
  · rw [e2]
    by_cases h : c = 2 * n
    · rw [if_pos h, if_pos h]; rfl
    · have := hd (by omega)
      rw [if_neg h, if_neg h]
      by_cases h2 : digP a c < digP b c
      · rw [if_pos h2, if_neg (by omega)]; rfl
      · rw [if_neg h2, if_pos (by omega)]
  · split
    · omega
    · split <;> omega
  · rw [← hc]
    by_cases h : c = 2 * n
    · rw [if_pos h]; simp [h]
    · rw [if_neg h]
      split <;> simp [h]
  · intro h
    rw [if_neg (by omega)]
    split <;> simp [*]

set_option maxRecDepth 100000 in
theorem NibbleOrders_ok (n : Int) (a b : List UInt8) (ha : a.length = 32) (hb : b.length = 32) (w : World) :
    CallK Try.prog 7 [.int .i64 n, .agg (vbs a).toArray, .agg (vbs b).toArray].toArray w fun v w' => v = .bool true ∧ Ext w w' := by
  refine enterT Try.func7 rfl Try.ntmps7 Try.results7 rfl (by decide) ?_
  simp only [↓VD, VP, VT, isAggD, reduceCtorEq, Int.reduceEq, Int.reduceNe, Int.reduceLT, Int.reduceLE, implies_true, Nat.reduceEqDiff, reduceIte, ite_true, ite_false, eq_self, Nat.reduceLT, Nat.reduceLeDiff, Nat.reduceAdd, Nat.reduceMul, Nat.reduceSub, intOf]
  intro w0 hN0 w0' hN0'
  have hA := hN0'.keep hN0.blk
  have hB := hN0'.blk
  have q := hN0.size
  refine (awake_ok w0').mono ?_
  rintro _ w1 ⟨rfl, hE1⟩
  simp only [↓VD, VP, VT, isAggD, reduceCtorEq, Int.reduceEq, Int.reduceNe, Int.reduceLT, Int.reduceLE, implies_true, Nat.reduceEqDiff, reduceIte, ite_true, ite_false, eq_self, Nat.reduceLT, Nat.reduceLeDiff, Nat.reduceAdd, Nat.reduceMul, Nat.reduceSub, intOf]
  refine ldD (hA.ext hE1) ha ?_
  simp only [↓VD, VP, VT, isAggD, reduceCtorEq, Int.reduceEq, Int.reduceNe, Int.reduceLT, Int.reduceLE, implies_true, Nat.reduceEqDiff, reduceIte, ite_true, ite_false, eq_self, Nat.reduceLT, Nat.reduceLeDiff, Nat.reduceAdd, Nat.reduceMul, Nat.reduceSub, intOf]
  refine ldD (hB.ext hE1) hb ?_
  simp only [↓VD, VP, VT, isAggD, reduceCtorEq, Int.reduceEq, Int.reduceNe, Int.reduceLT, Int.reduceLE, implies_true, Nat.reduceEqDiff, reduceIte, ite_true, ite_false, eq_self, Nat.reduceLT, Nat.reduceLeDiff, Nat.reduceAdd, Nat.reduceMul, Nat.reduceSub, intOf]
  refine (fit_ok n a b ha hb w1).mono ?_
  rintro _ w2 ⟨rfl, hE2⟩
  simp only [↓VD, VP, VT, isAggD, reduceCtorEq, Int.reduceEq, Int.reduceNe, Int.reduceLT, Int.reduceLE, implies_true, Nat.reduceEqDiff, reduceIte, ite_true, ite_false, eq_self, Nat.reduceLT, Nat.reduceLeDiff, Nat.reduceAdd, Nat.reduceMul, Nat.reduceSub, intOf]
  have h2 : Ext w w2 := hN0.ext.trans' (hN0'.ext.trans' (hE1.trans' hE2))
  refine bsplit_i (fun hi => ?_) (fun hi => ?_)
  · have hf : formP n a = true ∧ formP n b = true := by rw [fitP, Bool.and_eq_true] at hi; exact hi
    have hn : 1 ≤ n ∧ n ≤ 32 := by have := hf.1; simp only [formP, widthP, Bool.and_eq_true, decide_eq_true_eq] at this; exact this.1
    obtain ⟨n, rfl⟩ : ∃ m : Nat, n = m := ⟨n.toNat, by omega⟩
    obtain ⟨o, eo1, eo2, hob, ho0, ho1⟩ := ord_facts (by omega) ha hb hf.1 hf.2
    have ec := comPP_fit (by omega) hf.1 hf.2
    have hA2 := (hA.ext hE1).ext hE2
    have hB2 := (hB.ext hE1).ext hE2
    have hcl := comP_le a b (2 * n)
    have hcb := comP_below a b (2 * n)
    have hca := comP_at a b (2 * n)
    have hcall := com_all ha hb hf.1 hf.2
    have hbyte := fun k h => com_byte (a := a) (b := b) (n := n) (k := k) h
    generalize hcd : comP a b (2 * n) = c at *
    simp only [↓VD, VP, VT, isAggD, reduceCtorEq, Int.reduceEq, Int.reduceNe, Int.reduceLT, Int.reduceLE, implies_true, Nat.reduceEqDiff, reduceIte, ite_true, ite_false, eq_self, Nat.reduceLT, Nat.reduceLeDiff, Nat.reduceAdd, Nat.reduceMul, Nat.reduceSub, intOf]
    refine ldD hA2 ha ?_
    simp only [↓VD, VP, VT, isAggD, reduceCtorEq, Int.reduceEq, Int.reduceNe, Int.reduceLT, Int.reduceLE, implies_true, Nat.reduceEqDiff, reduceIte, ite_true, ite_false, eq_self, Nat.reduceLT, Nat.reduceLeDiff, Nat.reduceAdd, Nat.reduceMul, Nat.reduceSub, intOf]
    refine ldD hB2 hb ?_
    simp only [↓VD, VP, VT, isAggD, reduceCtorEq, Int.reduceEq, Int.reduceNe, Int.reduceLT, Int.reduceLE, implies_true, Nat.reduceEqDiff, reduceIte, ite_true, ite_false, eq_self, Nat.reduceLT, Nat.reduceLeDiff, Nat.reduceAdd, Nat.reduceMul, Nat.reduceSub, intOf]
    refine (Order_ok n a b ha hb w2).mono ?_
    rintro _ w3 ⟨rfl, hE3⟩
    rw [eo1]
    simp only [↓VD, VP, VT, isAggD, reduceCtorEq, Int.reduceEq, Int.reduceNe, Int.reduceLT, Int.reduceLE, implies_true, Nat.reduceEqDiff, reduceIte, ite_true, ite_false, eq_self, Nat.reduceLT, Nat.reduceLeDiff, Nat.reduceAdd, Nat.reduceMul, Nat.reduceSub, intOf]
    have hA3 := hA2.ext hE3
    have hB3 := hB2.ext hE3
    refine ldD hB3 hb ?_
    simp only [↓VD, VP, VT, isAggD, reduceCtorEq, Int.reduceEq, Int.reduceNe, Int.reduceLT, Int.reduceLE, implies_true, Nat.reduceEqDiff, reduceIte, ite_true, ite_false, eq_self, Nat.reduceLT, Nat.reduceLeDiff, Nat.reduceAdd, Nat.reduceMul, Nat.reduceSub, intOf]
    refine ldD hA3 ha ?_
    simp only [↓VD, VP, VT, isAggD, reduceCtorEq, Int.reduceEq, Int.reduceNe, Int.reduceLT, Int.reduceLE, implies_true, Nat.reduceEqDiff, reduceIte, ite_true, ite_false, eq_self, Nat.reduceLT, Nat.reduceLeDiff, Nat.reduceAdd, Nat.reduceMul, Nat.reduceSub, intOf]
    refine (Order_ok n b a hb ha w3).mono ?_
    rintro _ w4 ⟨rfl, hE4⟩
    rw [eo2]
    simp only [↓VD, VP, VT, isAggD, reduceCtorEq, Int.reduceEq, Int.reduceNe, Int.reduceLT, Int.reduceLE, implies_true, Nat.reduceEqDiff, reduceIte, ite_true, ite_false, eq_self, Nat.reduceLT, Nat.reduceLeDiff, Nat.reduceAdd, Nat.reduceMul, Nat.reduceSub, intOf]
    have hA4 := hA3.ext hE4
    have hB4 := hB3.ext hE4
    refine ldD hA4 ha ?_
    simp only [↓VD, VP, VT, isAggD, reduceCtorEq, Int.reduceEq, Int.reduceNe, Int.reduceLT, Int.reduceLE, implies_true, Nat.reduceEqDiff, reduceIte, ite_true, ite_false, eq_self, Nat.reduceLT, Nat.reduceLeDiff, Nat.reduceAdd, Nat.reduceMul, Nat.reduceSub, intOf]
    refine ldD hB4 hb ?_
    simp only [↓VD, VP, VT, isAggD, reduceCtorEq, Int.reduceEq, Int.reduceNe, Int.reduceLT, Int.reduceLE, implies_true, Nat.reduceEqDiff, reduceIte, ite_true, ite_false, eq_self, Nat.reduceLT, Nat.reduceLeDiff, Nat.reduceAdd, Nat.reduceMul, Nat.reduceSub, intOf]
    refine (Common_ok n a b ha hb w4).mono ?_
    rintro _ w5 ⟨rfl, hE5⟩
    rw [ec]
    have hA5 := hA4.ext hE5
    have hB5 := hB4.ext hE5
    have h5 : Ext w w5 := h2.trans' (hE3.trans' (hE4.trans' hE5))
    simp only [↓VD, VP, VT, isAggD, reduceCtorEq, Int.reduceEq, Int.reduceNe, Int.reduceLT, Int.reduceLE, implies_true, Nat.reduceEqDiff, reduceIte, ite_true, ite_false, eq_self, Nat.reduceLT, Nat.reduceLeDiff, Nat.reduceAdd, Nat.reduceMul, Nat.reduceSub, intOf]
    have ew : IntKind.i64.wrap (0 - -o) = o := by rw [w64 (by omega) (by omega)]; omega
    rw [ew]
    refine ⟨fun h => by omega, fun _ => ?_⟩
    refine ldD hA5 ha ?_
    simp only [↓VD, VP, VT, isAggD, reduceCtorEq, Int.reduceEq, Int.reduceNe, Int.reduceLT, Int.reduceLE, implies_true, Nat.reduceEqDiff, reduceIte, ite_true, ite_false, eq_self, Nat.reduceLT, Nat.reduceLeDiff, Nat.reduceAdd, Nat.reduceMul, Nat.reduceSub, intOf]
    refine ldD hB5 hb ?_
    simp only [↓VD, VP, VT, isAggD, reduceCtorEq, Int.reduceEq, Int.reduceNe, Int.reduceLT, Int.reduceLE, implies_true, Nat.reduceEqDiff, reduceIte, ite_true, ite_false, eq_self, Nat.reduceLT, Nat.reduceLeDiff, Nat.reduceAdd, Nat.reduceMul, Nat.reduceSub, intOf]
    have ed : decide (o = 0) = decide (a = b) := by simp only [ho0]
    have q1 : ((c : Int) < 0) = False := eq_false (by omega)
    have q2 : IntKind.i64.wrap (2 * (n : Int)) = 2 * n := w64 (by omega) (by omega)
    have q3 : (2 * (n : Int) < c) = False := eq_false (by omega)
    have ed2 : decide ((c : Int) = 2 * (n : Int)) = decide (a = b) := by
      rw [decide_eq_decide, ← hcall]; omega
    refine eqd_lit _ _ 32 a b _ Try.underlying5 c5 ha hb ?_
    simp only [↓VD, VP, VT, isAggD, reduceCtorEq, Int.reduceEq, Int.reduceNe, Int.reduceLT, Int.reduceLE, implies_true, Nat.reduceEqDiff, reduceIte, ite_true, ite_false, eq_self, Nat.reduceLT, Nat.reduceLeDiff, Nat.reduceAdd, Nat.reduceMul, Nat.reduceSub, intOf, ed, q1, q2, q3]
    refine ldD hA5 ha ?_
    simp only [↓VD, VP, VT, isAggD, reduceCtorEq, Int.reduceEq, Int.reduceNe, Int.reduceLT, Int.reduceLE, implies_true, Nat.reduceEqDiff, reduceIte, ite_true, ite_false, eq_self, Nat.reduceLT, Nat.reduceLeDiff, Nat.reduceAdd, Nat.reduceMul, Nat.reduceSub, intOf]
    refine ldD hB5 hb ?_
    simp only [↓VD, VP, VT, isAggD, reduceCtorEq, Int.reduceEq, Int.reduceNe, Int.reduceLT, Int.reduceLE, implies_true, Nat.reduceEqDiff, reduceIte, ite_true, ite_false, eq_self, Nat.reduceLT, Nat.reduceLeDiff, Nat.reduceAdd, Nat.reduceMul, Nat.reduceSub, intOf]
    refine eqd_lit _ _ 32 a b _ Try.underlying5 c5 ha hb ?_
    simp only [↓VD, VP, VT, isAggD, reduceCtorEq, Int.reduceEq, Int.reduceNe, Int.reduceLT, Int.reduceLE, implies_true, Nat.reduceEqDiff, reduceIte, ite_true, ite_false, eq_self, Nat.reduceLT, Nat.reduceLeDiff, Nat.reduceAdd, Nat.reduceMul, Nat.reduceSub, intOf, ed2, q2]
    refine loopJ 0 (fun s' w' => Ext w5 w' ∧ s' 0 = .int .i64 n ∧ s' 4 = .pointer (some ⟨w.heap.size, 0, none⟩) ∧ s' 5 = .pointer (some ⟨w0.heap.size, 0, none⟩) ∧ s' 11 = .int .i64 c)
      (fun s' w' => Ext w5 w' ∧ ∃ k : Nat, k ≤ n ∧ s' 0 = .int .i64 n ∧ s' 4 = .pointer (some ⟨w.heap.size, 0, none⟩) ∧ s' 5 = .pointer (some ⟨w0.heap.size, 0, none⟩) ∧ s' 7 = .int .i64 o ∧ s' 11 = .int .i64 c ∧ s' 13 = .int .i64 k ∧ ∀ j, j < k → a.getD j 0 = b.getD j 0) (fun s' _ => n - (intOf (s' 13)).toNat) ?_ ?_ ?_
    · simp only [↓VD, VP, VT, isAggD, reduceCtorEq, Int.reduceEq, Int.reduceNe, Int.reduceLT, Int.reduceLE, implies_true, Nat.reduceEqDiff, reduceIte, ite_true, ite_false, eq_self, Nat.reduceLT, Nat.reduceLeDiff, Nat.reduceAdd, Nat.reduceMul, Nat.reduceSub, intOf]
      exact ⟨Ext.rfl' w5, 0, by omega, rfl, by simp⟩
    · rintro s1 w6 ⟨hE6, h0, h4, h5', h11⟩
      simp only [↓VD, VP, VT, isAggD, reduceCtorEq, Int.reduceEq, Int.reduceNe, Int.reduceLT, Int.reduceLE, implies_true, Nat.reduceEqDiff, reduceIte, ite_true, ite_false, eq_self, Nat.reduceLT, Nat.reduceLeDiff, Nat.reduceAdd, Nat.reduceMul, Nat.reduceSub, intOf]
      refine loopT (fun s' w' => Ext w5 w' ∧ ∃ k : Nat, k ≤ c + 1 ∧ k ≤ 2 * n ∧ s' 0 = .int .i64 n ∧ s' 4 = .pointer (some ⟨w.heap.size, 0, none⟩) ∧ s' 5 = .pointer (some ⟨w0.heap.size, 0, none⟩) ∧ s' 11 = .int .i64 c ∧ s' 14 = .int .i64 k) (fun s' _ => 2 * n - (intOf (s' 14)).toNat) ?_ ?_
      · simp only [↓VD, VP, VT, isAggD, reduceCtorEq, Int.reduceEq, Int.reduceNe, Int.reduceLT, Int.reduceLE, implies_true, Nat.reduceEqDiff, reduceIte, ite_true, ite_false, eq_self, Nat.reduceLT, Nat.reduceLeDiff, Nat.reduceAdd, Nat.reduceMul, Nat.reduceSub, intOf, h0, h4, h5', h11]
        exact ⟨hE6, 0, by omega, by omega, rfl⟩
      · rintro s2 w7 ⟨hE7, k, hk, hk2, g0, g4, g5, g11, g14⟩
        have hA7 := hA5.ext hE7
        have hB7 := hB5.ext hE7
        simp only [↓VD, VP, VT, isAggD, reduceCtorEq, Int.reduceEq, Int.reduceNe, Int.reduceLT, Int.reduceLE, implies_true, Nat.reduceEqDiff, reduceIte, ite_true, ite_false, eq_self, Nat.reduceLT, Nat.reduceLeDiff, Nat.reduceAdd, Nat.reduceMul, Nat.reduceSub, intOf, g0, g4, g5, g11, g14, q2]
        refine ⟨fun hkc => ⟨fun hk3 => ?_, fun hk3 => h5.trans' hE7⟩, fun hkc => h5.trans' hE7⟩
        refine ldD hA7 ha ?_
        simp only [↓VD, VP, VT, isAggD, reduceCtorEq, Int.reduceEq, Int.reduceNe, Int.reduceLT, Int.reduceLE, implies_true, Nat.reduceEqDiff, reduceIte, ite_true, ite_false, eq_self, Nat.reduceLT, Nat.reduceLeDiff, Nat.reduceAdd, Nat.reduceMul, Nat.reduceSub, intOf, g0, g4, g5, g11, g14]
        refine (At_ok n a ha k w7).mono ?_
        rintro _ w8 ⟨rfl, hE8⟩
        rw [at_in (by omega) hf.1 (by omega)]
        simp only [↓VD, VP, VT, isAggD, reduceCtorEq, Int.reduceEq, Int.reduceNe, Int.reduceLT, Int.reduceLE, implies_true, Nat.reduceEqDiff, reduceIte, ite_true, ite_false, eq_self, Nat.reduceLT, Nat.reduceLeDiff, Nat.reduceAdd, Nat.reduceMul, Nat.reduceSub, intOf, g0, g4, g5, g11, g14]
        refine ldD (hB7.ext hE8) hb ?_
        simp only [↓VD, VP, VT, isAggD, reduceCtorEq, Int.reduceEq, Int.reduceNe, Int.reduceLT, Int.reduceLE, implies_true, Nat.reduceEqDiff, reduceIte, ite_true, ite_false, eq_self, Nat.reduceLT, Nat.reduceLeDiff, Nat.reduceAdd, Nat.reduceMul, Nat.reduceSub, intOf, g0, g4, g5, g11, g14]
        refine (At_ok n b hb k w8).mono ?_
        rintro _ w9 ⟨rfl, hE9⟩
        rw [at_in (by omega) hf.2 (by omega)]
        have ed3 : decide ((digP a k : Int) = (digP b k : Int)) = decide ((k : Int) < (c : Int)) := by
          rw [decide_eq_decide]
          constructor
          · intro he
            by_cases e : k = c
            · subst e; exact absurd (by omega) (hca (by omega))
            · omega
          · intro hl
            have := hcb k (by omega)
            omega
        simp only [↓VD, VP, VT, isAggD, reduceCtorEq, Int.reduceEq, Int.reduceNe, Int.reduceLT, Int.reduceLE, implies_true, Nat.reduceEqDiff, reduceIte, ite_true, ite_false, eq_self, Nat.reduceLT, Nat.reduceLeDiff, Nat.reduceAdd, Nat.reduceMul, Nat.reduceSub, intOf, g0, g4, g5, g11, g14, ed3]
        refine ⟨⟨hE7.trans' (hE8.trans' hE9), k + 1, by omega, by omega, by rw [w64 (by omega) (by omega)]; rfl⟩, ?_⟩
        rw [w64 (by omega) (by omega)]; omega
    · rintro s1 w6 ⟨hE6, k, hk, h0, h4, h5', h7, h11, h13, hs⟩
      have hA6 := hA5.ext hE6
      have hB6 := hB5.ext hE6
      simp only [↓VD, VP, VT, isAggD, reduceCtorEq, Int.reduceEq, Int.reduceNe, Int.reduceLT, Int.reduceLE, implies_true, Nat.reduceEqDiff, reduceIte, ite_true, ite_false, eq_self, Nat.reduceLT, Nat.reduceLeDiff, Nat.reduceAdd, Nat.reduceMul, Nat.reduceSub, intOf, h0, h4, h5', h7, h11, h13]
      refine ⟨fun hlt => ?_, fun hge => hE6⟩
      have hk' : k < n := by omega
      refine drawT mixed (by decide +kernel) ?_
      simp only [↓VD, VP, VT, isAggD, reduceCtorEq, Int.reduceEq, Int.reduceNe, Int.reduceLT, Int.reduceLE, implies_true, Nat.reduceEqDiff, reduceIte, ite_true, ite_false, eq_self, Nat.reduceLT, Nat.reduceLeDiff, Nat.reduceAdd, Nat.reduceMul, Nat.reduceSub, intOf, h0, h4, h5', h7, h11, h13]
      refine ⟨by omega, by omega, ldB Try.underlying5 hA6 (by omega) ?_⟩
      simp only [↓VD, VP, VT, isAggD, reduceCtorEq, Int.reduceEq, Int.reduceNe, Int.reduceLT, Int.reduceLE, implies_true, Nat.reduceEqDiff, reduceIte, ite_true, ite_false, eq_self, Nat.reduceLT, Nat.reduceLeDiff, Nat.reduceAdd, Nat.reduceMul, Nat.reduceSub, intOf, h0, h4, h5', h7, h11, h13]
      refine ⟨by omega, by omega, ldB Try.underlying5 hB6 (by omega) ?_⟩
      simp only [↓VD, VP, VT, isAggD, reduceCtorEq, Int.reduceEq, Int.reduceNe, Int.reduceLT, Int.reduceLE, implies_true, Nat.reduceEqDiff, reduceIte, ite_true, ite_false, eq_self, Nat.reduceLT, Nat.reduceLeDiff, Nat.reduceAdd, Nat.reduceMul, Nat.reduceSub, intOf, h0, h4, h5', h7, h11, h13]
      intro w7 hE7
      have hA7 := hA6.ext hE7
      have hB7 := hB6.ext hE7
      refine ⟨fun hne => ?_, fun heq => ⟨⟨hE6.trans' hE7, k + 1, by omega, by rw [w64 (by omega) (by omega)]; rfl, fun j hj => ?_⟩, ?_⟩⟩
      · have hb' := hbyte k hk' hs (fun e => hne (by rw [e]))
        refine drawT mixed (by decide +kernel) ?_
        simp only [↓VD, VP, VT, isAggD, reduceCtorEq, Int.reduceEq, Int.reduceNe, Int.reduceLT, Int.reduceLE, implies_true, Nat.reduceEqDiff, reduceIte, ite_true, ite_false, eq_self, Nat.reduceLT, Nat.reduceLeDiff, Nat.reduceAdd, Nat.reduceMul, Nat.reduceSub, intOf, h0, h4, h5', h7, h11, h13]
        refine ⟨by omega, by omega, ldB Try.underlying5 hA7 (by omega) ?_⟩
        simp only [↓VD, VP, VT, isAggD, reduceCtorEq, Int.reduceEq, Int.reduceNe, Int.reduceLT, Int.reduceLE, implies_true, Nat.reduceEqDiff, reduceIte, ite_true, ite_false, eq_self, Nat.reduceLT, Nat.reduceLeDiff, Nat.reduceAdd, Nat.reduceMul, Nat.reduceSub, intOf, h0, h4, h5', h7, h11, h13]
        refine ⟨by omega, by omega, ldB Try.underlying5 hB7 (by omega) ?_⟩
        have el : decide (((a.getD k 0).toNat : Int) < ((b.getD k 0).toNat : Int)) = decide (o = -1) := by
          rw [decide_eq_decide, ho1 hb'.2.1, ← hb'.2.2]; omega
        have ek : IntKind.i64.wrap ((c : Int).tdiv 2) = (k : Int) := by
          rw [Int.tdiv_eq_ediv_of_nonneg (by omega), w64 (by omega) (by omega)]; omega
        simp only [↓VD, VP, VT, isAggD, reduceCtorEq, Int.reduceEq, Int.reduceNe, Int.reduceLT, Int.reduceLE, implies_true, Nat.reduceEqDiff, reduceIte, ite_true, ite_false, eq_self, Nat.reduceLT, Nat.reduceLeDiff, Nat.reduceAdd, Nat.reduceMul, Nat.reduceSub, intOf, h0, h4, h5', h7, h11, h13, el, ek]
        exact fun w8 hE8 => hE6.trans' (hE7.trans' hE8)
      · by_cases e : j = k
        · subst e; exact (toNat_inj _ _).1 heq
        · exact hs j (by omega)
      · rw [w64 (by omega) (by omega)]; omega
  · simp only [↓VD, VP, VT, isAggD, reduceCtorEq, Int.reduceEq, Int.reduceNe, Int.reduceLT, Int.reduceLE, implies_true, Nat.reduceEqDiff, reduceIte, ite_true, ite_false, eq_self, Nat.reduceLT, Nat.reduceLeDiff, Nat.reduceAdd, Nat.reduceMul, Nat.reduceSub, intOf]
    exact h2

end Go.Proofs.Ytheojegfgcbacaa
