/-
  The laws of layer 13: the helper awake, and the walks of the laws. Conditions: as stated in each theorem.
-/
import Derived.Test.YtheojegfgcbacaaNibR
import Derived.Test.YtheojegfgcbacaaNib
import Derived.Test.YtheojegfgcbacaaRow
namespace Go.Proofs.Ytheojegfgcbacaa
open Go Go.RowKit
set_option linter.unusedVariables false
set_option linter.unusedSimpArgs false

def dA : List UInt8 := 163 :: 79 :: List.replicate 30 0
def dB : List UInt8 := 163 :: 95 :: List.replicate 30 0
theorem awake_ok (w : World) : CallK Try.prog 11 [].toArray w fun v w' => v = .bool true ∧ Ext w w' := by
  refine enterT Try.func11 rfl Try.ntmps11 Try.results11 rfl (by decide) ?_
  simp only [↓VD, VP, VT, isAggD, reduceCtorEq, Int.reduceEq, Int.reduceNe, Int.reduceLT, Int.reduceLE, implies_true, Nat.reduceEqDiff, reduceIte, ite_true, ite_false, eq_self, Nat.reduceLT, Nat.reduceLeDiff, Nat.reduceAdd, Nat.reduceMul, Nat.reduceSub, intOf]
  refine bldC (vbs dA) (by kernel_rfl) ?_
  simp only [↓VD, VP, VT, isAggD, reduceCtorEq, Int.reduceEq, Int.reduceNe, Int.reduceLT, Int.reduceLE, implies_true, Nat.reduceEqDiff, reduceIte, ite_true, ite_false, eq_self, Nat.reduceLT, Nat.reduceLeDiff, Nat.reduceAdd, Nat.reduceMul, Nat.reduceSub, intOf]
  intro w1 hN
  refine stAll hN.blk rfl (by rw [c23]; omega) (by rw [c23, vbs_len]; rfl) (by rw [c23]; simp) (vbs_one _) (fun w2 hP => ?_)
  have hE2 : Ext w w2 := hN.ext.trans (hP.below (Nat.le_refl _))
  have hB : Blk w2 w.heap.size 23 (vbs dA) := hP.blk
  have hlA : dA.length = 32 := rfl
  have hlB : dB.length = 32 := rfl
  have e1 : atP 2 dA 0 = (10, 0) := by decide +kernel
  have e2 : atP 2 dA 3 = (15, 0) := by decide +kernel
  have e3 : comPP 2 dA dB = (2, 0) := by decide +kernel
  have e4 : ordP 2 dA dB = (-1, 0) := by decide +kernel
  simp only [↓VD, VP, VT, isAggD, reduceCtorEq, Int.reduceEq, Int.reduceNe, Int.reduceLT, Int.reduceLE, implies_true, Nat.reduceEqDiff, reduceIte, ite_true, ite_false, eq_self, Nat.reduceLT, Nat.reduceLeDiff, Nat.reduceAdd, Nat.reduceMul, Nat.reduceSub, intOf]
  refine ldA Try.underlying23 rfl hB rfl ?_
  simp only [↓VD, VP, VT, isAggD, reduceCtorEq, Int.reduceEq, Int.reduceNe, Int.reduceLT, Int.reduceLE, implies_true, Nat.reduceEqDiff, reduceIte, ite_true, ite_false, eq_self, Nat.reduceLT, Nat.reduceLeDiff, Nat.reduceAdd, Nat.reduceMul, Nat.reduceSub, intOf]
  refine (At_ok 2 dA hlA 0 w2).mono ?_
  rintro _ w3 ⟨rfl, hE3⟩
  rw [e1]
  simp only [↓VD, VP, VT, isAggD, reduceCtorEq, Int.reduceEq, Int.reduceNe, Int.reduceLT, Int.reduceLE, implies_true, Nat.reduceEqDiff, reduceIte, ite_true, ite_false, eq_self, Nat.reduceLT, Nat.reduceLeDiff, Nat.reduceAdd, Nat.reduceMul, Nat.reduceSub, intOf]
  refine ldA Try.underlying23 rfl (hB.ext hE3) rfl ?_
  simp only [↓VD, VP, VT, isAggD, reduceCtorEq, Int.reduceEq, Int.reduceNe, Int.reduceLT, Int.reduceLE, implies_true, Nat.reduceEqDiff, reduceIte, ite_true, ite_false, eq_self, Nat.reduceLT, Nat.reduceLeDiff, Nat.reduceAdd, Nat.reduceMul, Nat.reduceSub, intOf]
  refine (At_ok 2 dA hlA 3 w3).mono ?_
  rintro _ w4 ⟨rfl, hE4⟩
  rw [e2]
  simp only [↓VD, VP, VT, isAggD, reduceCtorEq, Int.reduceEq, Int.reduceNe, Int.reduceLT, Int.reduceLE, implies_true, Nat.reduceEqDiff, reduceIte, ite_true, ite_false, eq_self, Nat.reduceLT, Nat.reduceLeDiff, Nat.reduceAdd, Nat.reduceMul, Nat.reduceSub, intOf]
  refine ldA Try.underlying23 rfl ((hB.ext hE3).ext hE4) rfl ?_
  simp only [↓VD, VP, VT, isAggD, reduceCtorEq, Int.reduceEq, Int.reduceNe, Int.reduceLT, Int.reduceLE, implies_true, Nat.reduceEqDiff, reduceIte, ite_true, ite_false, eq_self, Nat.reduceLT, Nat.reduceLeDiff, Nat.reduceAdd, Nat.reduceMul, Nat.reduceSub, intOf]
  refine bldC (vbs dB) (by kernel_rfl) ?_
  simp only [↓VD, VP, VT, isAggD, reduceCtorEq, Int.reduceEq, Int.reduceNe, Int.reduceLT, Int.reduceLE, implies_true, Nat.reduceEqDiff, reduceIte, ite_true, ite_false, eq_self, Nat.reduceLT, Nat.reduceLeDiff, Nat.reduceAdd, Nat.reduceMul, Nat.reduceSub, intOf]
  refine (Common_ok 2 dA dB hlA hlB w4).mono ?_
  rintro _ w5 ⟨rfl, hE5⟩
  rw [e3]
  simp only [↓VD, VP, VT, isAggD, reduceCtorEq, Int.reduceEq, Int.reduceNe, Int.reduceLT, Int.reduceLE, implies_true, Nat.reduceEqDiff, reduceIte, ite_true, ite_false, eq_self, Nat.reduceLT, Nat.reduceLeDiff, Nat.reduceAdd, Nat.reduceMul, Nat.reduceSub, intOf]
  refine ldA Try.underlying23 rfl (((hB.ext hE3).ext hE4).ext hE5) rfl ?_
  simp only [↓VD, VP, VT, isAggD, reduceCtorEq, Int.reduceEq, Int.reduceNe, Int.reduceLT, Int.reduceLE, implies_true, Nat.reduceEqDiff, reduceIte, ite_true, ite_false, eq_self, Nat.reduceLT, Nat.reduceLeDiff, Nat.reduceAdd, Nat.reduceMul, Nat.reduceSub, intOf]
  refine bldC (vbs dB) (by kernel_rfl) ?_
  simp only [↓VD, VP, VT, isAggD, reduceCtorEq, Int.reduceEq, Int.reduceNe, Int.reduceLT, Int.reduceLE, implies_true, Nat.reduceEqDiff, reduceIte, ite_true, ite_false, eq_self, Nat.reduceLT, Nat.reduceLeDiff, Nat.reduceAdd, Nat.reduceMul, Nat.reduceSub, intOf]
  refine (Order_ok 2 dA dB hlA hlB w5).mono ?_
  rintro _ w6 ⟨rfl, hE6⟩
  rw [e4]
  simp only [↓VD, VP, VT, isAggD, reduceCtorEq, Int.reduceEq, Int.reduceNe, Int.reduceLT, Int.reduceLE, implies_true, Nat.reduceEqDiff, reduceIte, ite_true, ite_false, eq_self, Nat.reduceLT, Nat.reduceLeDiff, Nat.reduceAdd, Nat.reduceMul, Nat.reduceSub, intOf]
  refine (Has_ok 32773 (by decide) 2 w6).mono ?_
  rintro _ w7 ⟨rfl, hE7⟩
  rw [show hasB 32773 2 = true from by decide +kernel]
  simp only [↓VD, VP, VT, isAggD, reduceCtorEq, Int.reduceEq, Int.reduceNe, Int.reduceLT, Int.reduceLE, implies_true, Nat.reduceEqDiff, reduceIte, ite_true, ite_false, eq_self, Nat.reduceLT, Nat.reduceLeDiff, Nat.reduceAdd, Nat.reduceMul, Nat.reduceSub, intOf]
  refine (Rank_ok 32773 (by decide) 3 w7).mono ?_
  rintro _ w8 ⟨rfl, hE8⟩
  rw [show rankB 32773 3 = 2 from by decide +kernel]
  simp only [↓VD, VP, VT, isAggD, reduceCtorEq, Int.reduceEq, Int.reduceNe, Int.reduceLT, Int.reduceLE, implies_true, Nat.reduceEqDiff, reduceIte, ite_true, ite_false, eq_self, Nat.reduceLT, Nat.reduceLeDiff, Nat.reduceAdd, Nat.reduceMul, Nat.reduceSub, intOf]
  refine (Count_ok 32773 (by decide) w8).mono ?_
  rintro _ w9 ⟨rfl, hE9⟩
  rw [show cntB 32773 = 3 from by decide +kernel]
  simp only [↓VD, VP, VT, isAggD, reduceCtorEq, Int.reduceEq, Int.reduceNe, Int.reduceLT, Int.reduceLE, implies_true, Nat.reduceEqDiff, reduceIte, ite_true, ite_false, eq_self, Nat.reduceLT, Nat.reduceLeDiff, Nat.reduceAdd, Nat.reduceMul, Nat.reduceSub, intOf]
  refine (With_ok 32773 (by decide) 1 w9).mono ?_
  rintro _ w10 ⟨rfl, hE10⟩
  rw [show withB 32773 1 = 32775 from by decide +kernel]
  simp only [↓VD, VP, VT, isAggD, reduceCtorEq, Int.reduceEq, Int.reduceNe, Int.reduceLT, Int.reduceLE, implies_true, Nat.reduceEqDiff, reduceIte, ite_true, ite_false, eq_self, Nat.reduceLT, Nat.reduceLeDiff, Nat.reduceAdd, Nat.reduceMul, Nat.reduceSub, intOf]
  refine (Without_ok 32773 (by decide) 15 w10).mono ?_
  rintro _ w11 ⟨rfl, hE11⟩
  rw [show withoutB 32773 15 = 5 from by decide +kernel]
  simp only [↓VD, VP, VT, isAggD, reduceCtorEq, Int.reduceEq, Int.reduceNe, Int.reduceLT, Int.reduceLE, implies_true, Nat.reduceEqDiff, reduceIte, ite_true, ite_false, eq_self, Nat.reduceLT, Nat.reduceLeDiff, Nat.reduceAdd, Nat.reduceMul, Nat.reduceSub, intOf]
  exact hE2.trans' (hE3.trans' (hE4.trans' (hE5.trans' (hE6.trans' (hE7.trans' (hE8.trans' (hE9.trans' (hE10.trans' hE11))))))))

theorem NibbleSets_ok (m : Nat) (h : m < 65536) (i : Int) (w : World) :
    CallK Try.prog 5 [.int .u16 m, .int .i64 i].toArray w fun v w' => v = .bool true ∧ Ext w w' := by
  refine enterT Try.func5 rfl Try.ntmps5 Try.results5 rfl (by decide) ?_
  simp only [↓VD, VP, VT, isAggD, reduceCtorEq, Int.reduceEq, Int.reduceNe, Int.reduceLT, Int.reduceLE, implies_true, Nat.reduceEqDiff, reduceIte, ite_true, ite_false, eq_self, Nat.reduceLT, Nat.reduceLeDiff, Nat.reduceAdd, Nat.reduceMul, Nat.reduceSub, intOf]
  refine (awake_ok w).mono ?_
  rintro _ w1 ⟨rfl, hE1⟩
  simp only [↓VD, VP, VT, isAggD, reduceCtorEq, Int.reduceEq, Int.reduceNe, Int.reduceLT, Int.reduceLE, implies_true, Nat.reduceEqDiff, reduceIte, ite_true, ite_false, eq_self, Nat.reduceLT, Nat.reduceLeDiff, Nat.reduceAdd, Nat.reduceMul, Nat.reduceSub, intOf]
  refine (Has_ok m h i w1).mono ?_
  rintro _ w2 ⟨rfl, hE2⟩
  simp only [↓VD, VP, VT, isAggD, reduceCtorEq, Int.reduceEq, Int.reduceNe, Int.reduceLT, Int.reduceLE, implies_true, Nat.reduceEqDiff, reduceIte, ite_true, ite_false, eq_self, Nat.reduceLT, Nat.reduceLeDiff, Nat.reduceAdd, Nat.reduceMul, Nat.reduceSub, intOf]
  refine (RHas_ok m h i w2).mono ?_
  rintro _ w3 ⟨rfl, hE3⟩
  rw [rhas_eq]
  simp only [↓VD, VP, VT, isAggD, reduceCtorEq, Int.reduceEq, Int.reduceNe, Int.reduceLT, Int.reduceLE, implies_true, Nat.reduceEqDiff, reduceIte, ite_true, ite_false, eq_self, Nat.reduceLT, Nat.reduceLeDiff, Nat.reduceAdd, Nat.reduceMul, Nat.reduceSub, intOf]
  refine (Rank_ok m h i w3).mono ?_
  rintro _ w4 ⟨rfl, hE4⟩
  simp only [↓VD, VP, VT, isAggD, reduceCtorEq, Int.reduceEq, Int.reduceNe, Int.reduceLT, Int.reduceLE, implies_true, Nat.reduceEqDiff, reduceIte, ite_true, ite_false, eq_self, Nat.reduceLT, Nat.reduceLeDiff, Nat.reduceAdd, Nat.reduceMul, Nat.reduceSub, intOf]
  refine (RRank_ok m h i w4).mono ?_
  rintro _ w5 ⟨rfl, hE5⟩
  rw [lows_eq]
  simp only [↓VD, VP, VT, isAggD, reduceCtorEq, Int.reduceEq, Int.reduceNe, Int.reduceLT, Int.reduceLE, implies_true, Nat.reduceEqDiff, reduceIte, ite_true, ite_false, eq_self, Nat.reduceLT, Nat.reduceLeDiff, Nat.reduceAdd, Nat.reduceMul, Nat.reduceSub, intOf]
  refine (Count_ok m h w5).mono ?_
  rintro _ w6 ⟨rfl, hE6⟩
  simp only [↓VD, VP, VT, isAggD, reduceCtorEq, Int.reduceEq, Int.reduceNe, Int.reduceLT, Int.reduceLE, implies_true, Nat.reduceEqDiff, reduceIte, ite_true, ite_false, eq_self, Nat.reduceLT, Nat.reduceLeDiff, Nat.reduceAdd, Nat.reduceMul, Nat.reduceSub, intOf]
  refine (Set_ok m h w6).mono ?_
  rintro v w7 ⟨ho, hE7⟩
  obtain ⟨a, c, rfl, -⟩ := (SlC.of_own ho).openI
  rw [setI_cnt]
  simp only [↓VD, VP, VT, isAggD, reduceCtorEq, Int.reduceEq, Int.reduceNe, Int.reduceLT, Int.reduceLE, implies_true, Nat.reduceEqDiff, reduceIte, ite_true, ite_false, eq_self, Nat.reduceLT, Nat.reduceLeDiff, Nat.reduceAdd, Nat.reduceMul, Nat.reduceSub, intOf]
  refine (With_ok m h i w7).mono ?_
  rintro _ w8 ⟨rfl, hE8⟩
  simp only [↓VD, VP, VT, isAggD, reduceCtorEq, Int.reduceEq, Int.reduceNe, Int.reduceLT, Int.reduceLE, implies_true, Nat.reduceEqDiff, reduceIte, ite_true, ite_false, eq_self, Nat.reduceLT, Nat.reduceLeDiff, Nat.reduceAdd, Nat.reduceMul, Nat.reduceSub, intOf]
  refine (RWith_ok m h i w8).mono ?_
  rintro _ w9 ⟨rfl, hE9⟩
  simp only [↓VD, VP, VT, isAggD, reduceCtorEq, Int.reduceEq, Int.reduceNe, Int.reduceLT, Int.reduceLE, implies_true, Nat.reduceEqDiff, reduceIte, ite_true, ite_false, eq_self, Nat.reduceLT, Nat.reduceLeDiff, Nat.reduceAdd, Nat.reduceMul, Nat.reduceSub, intOf]
  refine (Without_ok m h i w9).mono ?_
  rintro _ w10 ⟨rfl, hE10⟩
  simp only [↓VD, VP, VT, isAggD, reduceCtorEq, Int.reduceEq, Int.reduceNe, Int.reduceLT, Int.reduceLE, implies_true, Nat.reduceEqDiff, reduceIte, ite_true, ite_false, eq_self, Nat.reduceLT, Nat.reduceLeDiff, Nat.reduceAdd, Nat.reduceMul, Nat.reduceSub, intOf]
  refine (RWithout_ok m h i w10).mono ?_
  rintro _ w11 ⟨rfl, hE11⟩
  simp only [↓VD, VP, VT, isAggD, reduceCtorEq, Int.reduceEq, Int.reduceNe, Int.reduceLT, Int.reduceLE, implies_true, Nat.reduceEqDiff, reduceIte, ite_true, ite_false, eq_self, Nat.reduceLT, Nat.reduceLeDiff, Nat.reduceAdd, Nat.reduceMul, Nat.reduceSub, intOf]
  exact hE1.trans' (hE2.trans' (hE3.trans' (hE4.trans' (hE5.trans' (hE6.trans' (hE7.trans' (hE8.trans' (hE9.trans' (hE10.trans' hE11)))))))))

/-! ### Sets, by their bits -/
theorem withB_bit {m : Nat} {i : Int} (hi : inB i = true) (j : Nat) : (withB m i).testBit j = (m.testBit j || decide (i.toNat = j)) := by
  rw [withB, if_pos hi, Nat.testBit_or, Nat.testBit_two_pow]
theorem withoutB_bit {m : Nat} (h : m < 65536) {i : Int} (hi : inB i = true) (j : Nat) : (withoutB m i).testBit j = (m.testBit j && !decide (i.toNat = j)) := by
  have hi' := (inB_iff i).1 hi
  rw [withoutB, if_pos hi, Nat.testBit_and, show 65535 - 2 ^ i.toNat = 2 ^ 16 - (2 ^ i.toNat + 1) from by omega, Nat.testBit_two_pow_sub_succ (Nat.pow_lt_pow_right (by decide) (by omega)), Nat.testBit_two_pow]
  by_cases hj : j < 16
  · simp [hj]
  · have : m.testBit j = false := Nat.testBit_lt_two_pow (Nat.lt_of_lt_of_le h (Nat.pow_le_pow_right (n := 2) (i := 16) (by decide) (by omega)))
    simp [this]
theorem has_bit {m : Nat} {i : Int} (hi : inB i = true) : hasB m i = m.testBit i.toNat := by simp [hasB, hi]
theorem has_with {m : Nat} {i : Int} (hi : inB i = true) : hasB (withB m i) i = true := by rw [has_bit hi, withB_bit hi]; simp
theorem has_without {m : Nat} (h : m < 65536) {i : Int} (hi : inB i = true) : hasB (withoutB m i) i = false := by rw [has_bit hi, withoutB_bit h hi]; simp
theorem without_with {m : Nat} (h : m < 65536) {i : Int} (hi : inB i = true) : withoutB (withB m i) i = withoutB m i := by
  apply Nat.eq_of_testBit_eq; intro j
  rw [withoutB_bit (withB_lt h i) hi, withoutB_bit h hi, withB_bit hi]
  cases m.testBit j <;> cases decide (i.toNat = j) <;> rfl
theorem with_without {m : Nat} (h : m < 65536) {i : Int} (hi : inB i = true) : withB (withoutB m i) i = withB m i := by
  apply Nat.eq_of_testBit_eq; intro j
  rw [withB_bit hi, withoutB_bit h hi, withB_bit hi]
  cases m.testBit j <;> cases decide (i.toNat = j) <;> rfl
theorem with_with {m : Nat} {i : Int} (hi : inB i = true) : withB (withB m i) i = withB m i := by
  apply Nat.eq_of_testBit_eq; intro j
  rw [withB_bit hi, withB_bit hi]
  cases m.testBit j <;> cases decide (i.toNat = j) <;> rfl
theorem without_without {m : Nat} (h : m < 65536) {i : Int} (hi : inB i = true) : withoutB (withoutB m i) i = withoutB m i := by
  apply Nat.eq_of_testBit_eq; intro j
  rw [withoutB_bit (withoutB_lt h i) hi, withoutB_bit h hi]
  cases m.testBit j <;> cases decide (i.toNat = j) <;> rfl
theorem cnt_one (q : Nat → Bool) (i : Nat) (hq : q i = false) : ∀ l : List Nat, l.Nodup → (l.filter (fun j => q j || decide (i = j))).length = (l.filter q).length + if i ∈ l then 1 else 0
  | [], _ => rfl
  | a :: l, h => by
    have ih := cnt_one q i hq l (List.nodup_cons.1 h).2
    have ha := (List.nodup_cons.1 h).1
    by_cases e : i = a
    · subst e
      rw [if_neg ha] at ih
      simp [List.filter_cons, hq, ih]
    · have e1 : (i ∈ a :: l) ↔ i ∈ l := by simp [e]
      simp only [e1, List.filter_cons, e, decide_false, Bool.or_false]
      split <;> simp_all <;> omega
theorem cnt_with {m : Nat} (h : m < 65536) {i : Int} (hi : inB i = true) : cntB (withB m i) = cntB (withoutB m i) + 1 := by
  have hi' := (inB_iff i).1 hi
  rw [← with_without h hi]
  have := cnt_one (fun j => (withoutB m i).testBit j) i.toNat (by have := has_without h hi; rwa [has_bit hi] at this) (List.range 16) List.nodup_range
  rw [if_pos (by simp; omega)] at this
  unfold cntB setB
  rw [← this]
  congr 1
  apply List.filter_congr
  intro j _
  rw [withB_bit hi]
theorem eq_with {m : Nat} {i : Int} (hi : inB i = true) : m = withB m i ↔ hasB m i = true := by
  constructor
  · intro e; rw [e]; exact has_with hi
  · intro hb
    rw [has_bit hi] at hb
    apply Nat.eq_of_testBit_eq; intro j
    rw [withB_bit hi]
    by_cases e : i.toNat = j
    · subst e; simp [hb]
    · simp [e]
theorem eq_without {m : Nat} (h : m < 65536) {i : Int} (hi : inB i = true) : m = withoutB m i ↔ hasB m i = false := by
  constructor
  · intro e; rw [e]; exact has_without h hi
  · intro hb
    rw [has_bit hi] at hb
    apply Nat.eq_of_testBit_eq; intro j
    rw [withoutB_bit h hi]
    by_cases e : i.toNat = j
    · subst e; simp [hb]
    · simp [e]
theorem rank_succ (m : Nat) (j : Int) : rankB m (j + 1) = rankB m j + if hasB m j = true then 1 else 0 := by
  have hmem : ∀ t : Nat, t ∈ setB m ↔ hasB m t = true := fun t => by
    simp only [setB, List.mem_filter, List.mem_range, hasB, inB, Bool.and_eq_true, decide_eq_true_eq, Int.toNat_natCast]
    constructor
    · rintro ⟨a, b⟩; exact ⟨by omega, b⟩
    · rintro ⟨a, b⟩; exact ⟨by omega, b⟩
  by_cases hj : 0 ≤ j
  · obtain ⟨t, rfl⟩ : ∃ t : Nat, j = t := ⟨j.toNat, by omega⟩
    have := cnt_one (fun k => decide ((k : Int) < (t : Int))) t (by simp) (setB m) (List.nodup_range.sublist List.filter_sublist)
    simp only [hmem] at this
    rw [rankB, rankB, ← this]
    congr 1
    apply List.filter_congr
    intro k _
    rw [Bool.eq_iff_iff]
    simp only [Bool.or_eq_true, decide_eq_true_eq]
    omega
  · have h1 : hasB m j = false := by
      have : inB j = false := by rw [inB, decide_eq_false_iff_not]; omega
      simp [hasB, this]
    rw [h1, rank_neg (i := j) (by omega)]
    by_cases e : j + 1 < 0
    · rw [rank_neg e]; rfl
    · have e2 : j + 1 = 0 := by omega
      rw [e2, rankB, List.length_eq_zero_iff.2]
      · rfl
      · rw [List.filter_eq_nil_iff]; intro k _; simp

theorem bit_shr (m : Nat) (h : m < 65536) (j : Nat) : ((m >>> j : Nat) : Int).tmod 2 = if m.testBit j = true then 1 else 0 := by
  rw [Int.tmod_eq_emod_of_nonneg (Int.natCast_nonneg _), show ((m >>> j : Nat) : Int) % 2 = ((m >>> j % 2 : Nat) : Int) from rfl, shr_bit]
  cases m.testBit j <;> rfl

theorem NibbleRanks_ok (m : Nat) (h : m < 65536) (i : Int) (w : World) :
    CallK Try.prog 9 [.int .u16 m, .int .i64 i].toArray w fun v w' => v = .bool true ∧ Ext w w' := by
  refine enterT Try.func9 rfl Try.ntmps9 Try.results9 rfl (by decide) ?_
  simp only [↓VD, VP, VT, isAggD, reduceCtorEq, Int.reduceEq, Int.reduceNe, Int.reduceLT, Int.reduceLE, implies_true, Nat.reduceEqDiff, reduceIte, ite_true, ite_false, eq_self, Nat.reduceLT, Nat.reduceLeDiff, Nat.reduceAdd, Nat.reduceMul, Nat.reduceSub, intOf]
  refine (awake_ok w).mono ?_
  rintro _ w1 ⟨rfl, hE1⟩
  simp only [↓VD, VP, VT, isAggD, reduceCtorEq, Int.reduceEq, Int.reduceNe, Int.reduceLT, Int.reduceLE, implies_true, Nat.reduceEqDiff, reduceIte, ite_true, ite_false, eq_self, Nat.reduceLT, Nat.reduceLeDiff, Nat.reduceAdd, Nat.reduceMul, Nat.reduceSub, intOf]
  refine loopT (fun s' w' => Ext w w' ∧ ∃ j : Int, -2 ≤ j ∧ j ≤ 19 ∧ s' 0 = .int .u16 m ∧ s' 1 = .int .i64 i ∧ s' 6 = .int .i64 j ∧ s' 5 = .int .i64 (rankB m j)) (fun s' _ => (19 - intOf (s' 6)).toNat) ?_ ?_
  · simp only [↓VD, VP, VT, isAggD, reduceCtorEq, Int.reduceEq, Int.reduceNe, Int.reduceLT, Int.reduceLE, implies_true, Nat.reduceEqDiff, reduceIte, ite_true, ite_false, eq_self, Nat.reduceLT, Nat.reduceLeDiff, Nat.reduceAdd, Nat.reduceMul, Nat.reduceSub, intOf]
    exact ⟨hE1, -2, by omega, by omega, rfl, by rw [rank_neg (by omega)]; rfl⟩
  · rintro s1 w2 ⟨hE2, j, hj0, hj, h0, h1, h6, h5⟩
    simp only [↓VD, VP, VT, isAggD, reduceCtorEq, Int.reduceEq, Int.reduceNe, Int.reduceLT, Int.reduceLE, implies_true, Nat.reduceEqDiff, reduceIte, ite_true, ite_false, eq_self, Nat.reduceLT, Nat.reduceLeDiff, Nat.reduceAdd, Nat.reduceMul, Nat.reduceSub, intOf, h0, h1, h6, h5]
    have hcj : rankB m j ≤ 16 := Nat.le_trans (List.length_filter_le _ _) (cnt_le m)
    have hsuc := rank_succ m j
    refine ⟨fun hlt => ?_, fun hge => ?_⟩
    · refine (Rank_ok m h j w2).mono ?_
      rintro _ w3 ⟨rfl, hE3⟩
      simp only [↓VD, VP, VT, isAggD, reduceCtorEq, Int.reduceEq, Int.reduceNe, Int.reduceLT, Int.reduceLE, implies_true, Nat.reduceEqDiff, reduceIte, ite_true, ite_false, eq_self, Nat.reduceLT, Nat.reduceLeDiff, Nat.reduceAdd, Nat.reduceMul, Nat.reduceSub, intOf, h0, h1, h6, h5]
      refine (Has_ok m h j w3).mono ?_
      rintro _ w4 ⟨rfl, hE4⟩
      simp only [↓VD, VP, VT, isAggD, reduceCtorEq, Int.reduceEq, Int.reduceNe, Int.reduceLT, Int.reduceLE, implies_true, Nat.reduceEqDiff, reduceIte, ite_true, ite_false, eq_self, Nat.reduceLT, Nat.reduceLeDiff, Nat.reduceAdd, Nat.reduceMul, Nat.reduceSub, intOf, h0, h1, h6, h5]
      refine bsplit_i (fun hi => ?_) (fun hi => ?_)
      · have hb : (0 ≤ j ∧ j ≤ 15) ∧ m.testBit j.toNat = true := by simpa [hasB, inB] using hi
        obtain ⟨j, rfl⟩ : ∃ t : Nat, j = t := ⟨j.toNat, by omega⟩
        simp only [↓VD, VP, VT, isAggD, reduceCtorEq, Int.reduceEq, Int.reduceNe, Int.reduceLT, Int.reduceLE, implies_true, Nat.reduceEqDiff, reduceIte, ite_true, ite_false, eq_self, Nat.reduceLT, Nat.reduceLeDiff, Nat.reduceAdd, Nat.reduceMul, Nat.reduceSub, intOf, h0, h1, h6, h5]
        refine ⟨fun hn => by omega, fun _ => ⟨fun hn => by omega, fun _ => ?_⟩⟩
        rw [show IntKind.u16.bits = 16 from rfl, shrN m j 16 (by omega), bit_shr m h, if_pos (show m.testBit j = true from hb.2)]
        refine ⟨by omega, ?_⟩
        rw [hi, if_pos rfl] at hsuc
        simp only [↓VD, VP, VT, isAggD, reduceCtorEq, Int.reduceEq, Int.reduceNe, Int.reduceLT, Int.reduceLE, implies_true, Nat.reduceEqDiff, reduceIte, ite_true, ite_false, eq_self, Nat.reduceLT, Nat.reduceLeDiff, Nat.reduceAdd, Nat.reduceMul, Nat.reduceSub, intOf]
        refine ⟨⟨hE2.trans' (hE3.trans' hE4), (j : Int) + 1, by omega, by omega, w64 (by omega) (by omega), ?_⟩, ?_⟩
        · rw [w64 (by omega) (by omega), hsuc]; rfl
        · rw [w64 (by omega) (by omega)]; omega
      · simp only [↓VD, VP, VT, isAggD, reduceCtorEq, Int.reduceEq, Int.reduceNe, Int.reduceLT, Int.reduceLE, implies_true, Nat.reduceEqDiff, reduceIte, ite_true, ite_false, eq_self, Nat.reduceLT, Nat.reduceLeDiff, Nat.reduceAdd, Nat.reduceMul, Nat.reduceSub, intOf, h0, h1, h6, h5]
        rw [hi, if_neg (by decide)] at hsuc
        refine ⟨⟨hE2.trans' (hE3.trans' hE4), j + 1, by omega, by omega, w64 (by omega) (by omega), ?_⟩, ?_⟩
        · rw [hsuc]; rfl
        · rw [w64 (by omega) (by omega)]; omega
    · have ej : j = 19 := by omega
      subst ej
      refine (Count_ok m h w2).mono ?_
      rintro _ w3 ⟨rfl, hE3⟩
      rw [rank_big (by omega)] at h5
      simp only [↓VD, VP, VT, isAggD, reduceCtorEq, Int.reduceEq, Int.reduceNe, Int.reduceLT, Int.reduceLE, implies_true, Nat.reduceEqDiff, reduceIte, ite_true, ite_false, eq_self, Nat.reduceLT, Nat.reduceLeDiff, Nat.reduceAdd, Nat.reduceMul, Nat.reduceSub, intOf, h0, h1, h6, h5]
      refine (With_ok m h i w3).mono ?_
      rintro _ w4 ⟨rfl, hE4⟩
      simp only [↓VD, VP, VT, isAggD, reduceCtorEq, Int.reduceEq, Int.reduceNe, Int.reduceLT, Int.reduceLE, implies_true, Nat.reduceEqDiff, reduceIte, ite_true, ite_false, eq_self, Nat.reduceLT, Nat.reduceLeDiff, Nat.reduceAdd, Nat.reduceMul, Nat.reduceSub, intOf, h0, h1, h6, h5]
      refine (Without_ok m h i w4).mono ?_
      rintro _ w5 ⟨rfl, hE5⟩
      simp only [↓VD, VP, VT, isAggD, reduceCtorEq, Int.reduceEq, Int.reduceNe, Int.reduceLT, Int.reduceLE, implies_true, Nat.reduceEqDiff, reduceIte, ite_true, ite_false, eq_self, Nat.reduceLT, Nat.reduceLeDiff, Nat.reduceAdd, Nat.reduceMul, Nat.reduceSub, intOf, h0, h1, h6, h5]
      have hE5' : Ext w w5 := hE2.trans' (hE3.trans' (hE4.trans' hE5))
      by_cases hin : inB i = true
      · have hin' := (inB_iff i).1 hin
        refine ⟨fun _ => by omega, fun _ => ⟨fun _ => by omega, fun _ => ?_⟩⟩
        have hwl := withB_lt h i
        have hvl := withoutB_lt h i
        have f1 := has_with (m := m) hin
        have f2 := has_without h hin
        have f3 := without_with h hin
        have f4 := with_without h hin
        have f5 := with_with (m := m) hin
        have f6 := without_without h hin
        have f7 := cnt_with h hin
        have f8 := eq_with (m := m) hin
        have f9 := eq_without h hin
        generalize withB m i = W at *
        generalize withoutB m i = V at *
        refine (Has_ok W hwl i w5).mono ?_
        rintro _ w6 ⟨rfl, hE6⟩
        rw [f1]
        simp only [↓VD, VP, VT, isAggD, reduceCtorEq, Int.reduceEq, Int.reduceNe, Int.reduceLT, Int.reduceLE, implies_true, Nat.reduceEqDiff, reduceIte, ite_true, ite_false, eq_self, Nat.reduceLT, Nat.reduceLeDiff, Nat.reduceAdd, Nat.reduceMul, Nat.reduceSub, intOf, h0, h1, h6, h5]
        refine (Has_ok V hvl i w6).mono ?_
        rintro _ w7 ⟨rfl, hE7⟩
        rw [f2]
        simp only [↓VD, VP, VT, isAggD, reduceCtorEq, Int.reduceEq, Int.reduceNe, Int.reduceLT, Int.reduceLE, implies_true, Nat.reduceEqDiff, reduceIte, ite_true, ite_false, eq_self, Nat.reduceLT, Nat.reduceLeDiff, Nat.reduceAdd, Nat.reduceMul, Nat.reduceSub, intOf, h0, h1, h6, h5]
        refine (Without_ok W hwl i w7).mono ?_
        rintro _ w8 ⟨rfl, hE8⟩
        rw [f3]
        simp only [↓VD, VP, VT, isAggD, reduceCtorEq, Int.reduceEq, Int.reduceNe, Int.reduceLT, Int.reduceLE, implies_true, Nat.reduceEqDiff, reduceIte, ite_true, ite_false, eq_self, Nat.reduceLT, Nat.reduceLeDiff, Nat.reduceAdd, Nat.reduceMul, Nat.reduceSub, intOf, h0, h1, h6, h5]
        refine (With_ok V hvl i w8).mono ?_
        rintro _ w9 ⟨rfl, hE9⟩
        rw [f4]
        simp only [↓VD, VP, VT, isAggD, reduceCtorEq, Int.reduceEq, Int.reduceNe, Int.reduceLT, Int.reduceLE, implies_true, Nat.reduceEqDiff, reduceIte, ite_true, ite_false, eq_self, Nat.reduceLT, Nat.reduceLeDiff, Nat.reduceAdd, Nat.reduceMul, Nat.reduceSub, intOf, h0, h1, h6, h5]
        refine (With_ok W hwl i w9).mono ?_
        rintro _ w10 ⟨rfl, hE10⟩
        rw [f5]
        simp only [↓VD, VP, VT, isAggD, reduceCtorEq, Int.reduceEq, Int.reduceNe, Int.reduceLT, Int.reduceLE, implies_true, Nat.reduceEqDiff, reduceIte, ite_true, ite_false, eq_self, Nat.reduceLT, Nat.reduceLeDiff, Nat.reduceAdd, Nat.reduceMul, Nat.reduceSub, intOf, h0, h1, h6, h5]
        refine (Without_ok V hvl i w10).mono ?_
        rintro _ w11 ⟨rfl, hE11⟩
        rw [f6]
        simp only [↓VD, VP, VT, isAggD, reduceCtorEq, Int.reduceEq, Int.reduceNe, Int.reduceLT, Int.reduceLE, implies_true, Nat.reduceEqDiff, reduceIte, ite_true, ite_false, eq_self, Nat.reduceLT, Nat.reduceLeDiff, Nat.reduceAdd, Nat.reduceMul, Nat.reduceSub, intOf, h0, h1, h6, h5]
        refine (Count_ok W hwl w11).mono ?_
        rintro _ w12 ⟨rfl, hE12⟩
        simp only [↓VD, VP, VT, isAggD, reduceCtorEq, Int.reduceEq, Int.reduceNe, Int.reduceLT, Int.reduceLE, implies_true, Nat.reduceEqDiff, reduceIte, ite_true, ite_false, eq_self, Nat.reduceLT, Nat.reduceLeDiff, Nat.reduceAdd, Nat.reduceMul, Nat.reduceSub, intOf, h0, h1, h6, h5]
        refine (Count_ok V hvl w12).mono ?_
        rintro _ w13 ⟨rfl, hE13⟩
        simp only [↓VD, VP, VT, isAggD, reduceCtorEq, Int.reduceEq, Int.reduceNe, Int.reduceLT, Int.reduceLE, implies_true, Nat.reduceEqDiff, reduceIte, ite_true, ite_false, eq_self, Nat.reduceLT, Nat.reduceLeDiff, Nat.reduceAdd, Nat.reduceMul, Nat.reduceSub, intOf, h0, h1, h6, h5]
        have hcv := cnt_le V
        have hE13' : Ext w w13 := hE5'.trans' (hE6.trans' (hE7.trans' (hE8.trans' (hE9.trans' (hE10.trans' (hE11.trans' (hE12.trans' hE13)))))))
        rw [w64 (by omega) (by omega)]
        refine ⟨fun _ => ?_, fun hne => by omega⟩
        refine (Has_ok m h i w13).mono ?_
        rintro _ w14 ⟨rfl, hE14⟩
        have hE14' := hE13'.trans' hE14
        clear hE13' hE6 hE7 hE8 hE9 hE10 hE11 hE12 hE13 hE5 hE4 hE3 hE2 hE1
        cases hb : hasB m i
        · have g1 : ¬ m = W := by rw [f8, hb]; decide
          have g2 : m = V := f9.2 hb
          have q1 : ((m : Int) = W) = False := eq_false (by omega)
          have q2 : ((m : Int) = V) = True := eq_true (by omega)
          simp only [↓VD, VP, VT, isAggD, reduceCtorEq, Int.reduceEq, Int.reduceNe, Int.reduceLT, Int.reduceLE, implies_true, Nat.reduceEqDiff, reduceIte, ite_true, ite_false, eq_self, Nat.reduceLT, Nat.reduceLeDiff, Nat.reduceAdd, Nat.reduceMul, Nat.reduceSub, intOf, h0, q1, q2]
          exact hE14'
        · have g1 : m = W := f8.2 hb
          have g2 : ¬ m = V := by rw [f9, hb]; decide
          have q1 : ((m : Int) = W) = True := eq_true (by omega)
          have q2 : ((m : Int) = V) = False := eq_false (by omega)
          simp only [↓VD, VP, VT, isAggD, reduceCtorEq, Int.reduceEq, Int.reduceNe, Int.reduceLT, Int.reduceLE, implies_true, Nat.reduceEqDiff, reduceIte, ite_true, ite_false, eq_self, Nat.reduceLT, Nat.reduceLeDiff, Nat.reduceAdd, Nat.reduceMul, Nat.reduceSub, intOf, h0, q1, q2]
          exact hE14'
      · have e1 : withB m i = m := by rw [withB, if_neg hin]
        have e2 : withoutB m i = m := by rw [withoutB, if_neg hin]
        have hin' : ¬ (0 ≤ i ∧ i ≤ 15) := fun h => hin ((inB_iff i).2 h)
        have e3 : hasB m i = false := by simp [hasB, hin]
        rw [e1, e2]
        refine ⟨fun _ => ?_, fun _ => ⟨fun _ => ?_, fun _ => by omega⟩⟩
        · simp only [↓VD, VP, VT, isAggD, reduceCtorEq, Int.reduceEq, Int.reduceNe, Int.reduceLT, Int.reduceLE, implies_true, Nat.reduceEqDiff, reduceIte, ite_true, ite_false, eq_self, Nat.reduceLT, Nat.reduceLeDiff, Nat.reduceAdd, Nat.reduceMul, Nat.reduceSub, intOf]
          refine (Has_ok m h i w5).mono ?_
          rintro _ w6 ⟨rfl, hE6⟩
          rw [e3]
          simp only [↓VD, VP, VT, isAggD, reduceCtorEq, Int.reduceEq, Int.reduceNe, Int.reduceLT, Int.reduceLE, implies_true, Nat.reduceEqDiff, reduceIte, ite_true, ite_false, eq_self, Nat.reduceLT, Nat.reduceLeDiff, Nat.reduceAdd, Nat.reduceMul, Nat.reduceSub, intOf]
          exact hE5'.trans' hE6
        · simp only [↓VD, VP, VT, isAggD, reduceCtorEq, Int.reduceEq, Int.reduceNe, Int.reduceLT, Int.reduceLE, implies_true, Nat.reduceEqDiff, reduceIte, ite_true, ite_false, eq_self, Nat.reduceLT, Nat.reduceLeDiff, Nat.reduceAdd, Nat.reduceMul, Nat.reduceSub, intOf]
          refine (Has_ok m h i w5).mono ?_
          rintro _ w6 ⟨rfl, hE6⟩
          rw [e3]
          simp only [↓VD, VP, VT, isAggD, reduceCtorEq, Int.reduceEq, Int.reduceNe, Int.reduceLT, Int.reduceLE, implies_true, Nat.reduceEqDiff, reduceIte, ite_true, ite_false, eq_self, Nat.reduceLT, Nat.reduceLeDiff, Nat.reduceAdd, Nat.reduceMul, Nat.reduceSub, intOf]
          exact hE5'.trans' hE6

end Go.Proofs.Ytheojegfgcbacaa
