/-
  Walks of layer 13's reference (notaryref13) and of notaryref03's forms. Conditions: as stated in each theorem.
-/
import Derived.Test.YticfalbgplifoaaGreatDoorNibB
namespace Go.Proofs.YticfalbgplifoaaGreatDoor
set_option maxRecDepth 100000
open Go Go.RowKit
set_option linter.unusedVariables false
set_option linter.unusedSimpArgs false

theorem shr_bit (m i : Nat) : (m >>> i) % 2 = if m.testBit i = true then 1 else 0 := by rw [← bit_and_one, Nat.and_one_is_mod]
def setI (m k : Nat) : List Int := ((List.range k).filter fun j => m.testBit j).map fun j : Nat => (j : Int)
theorem setI_succ (m k : Nat) : setI m (k + 1) = setI m k ++ (if m.testBit k = true then [(k : Int)] else []) := by
  unfold setI
  rw [List.range_succ, List.filter_append, List.map_append]
  congr 1
  cases h : m.testBit k <;> simp [List.filter_cons, h]
theorem setI_len (m k : Nat) : (setI m k).length ≤ k := by
  unfold setI; rw [List.length_map]; exact Nat.le_trans (List.length_filter_le _ _) (by simp)

theorem Set_ok (m : Nat) (h : m < 65536) (w : World) :
    CallK Tryz.prog 59 [.int .u16 m].toArray w fun v w' => OwnI w' w.heap.size 3 v (setI m 16) ∧ Ext w w' := by
  refine enterT Tryz.func59 rfl Tryz.ntmps59 Tryz.results59 rfl (by decide) ?_
  simp only [↓VD, VP, VT, isAggD, reduceCtorEq, Int.reduceEq, Int.reduceNe, Int.reduceLT, Int.reduceLE, implies_true, Nat.reduceEqDiff, reduceIte, ite_true, ite_false, eq_self, Nat.reduceLT, Nat.reduceLeDiff, Nat.reduceAdd, Nat.reduceMul, Nat.reduceSub, intOf]
  refine loopT (fun s' w' => Ext w w' ∧ ∃ k : Nat, k ≤ 16 ∧ s' 0 = .int .u16 m ∧ s' 4 = .int .i64 k ∧ OwnI w' w.heap.size 3 (s' 3) (setI m k)) (fun s' _ => 16 - (intOf (s' 4)).toNat) ?_ ?_
  · simp only [↓VD, VP, VT, isAggD, reduceCtorEq, Int.reduceEq, Int.reduceNe, Int.reduceLT, Int.reduceLE, implies_true, Nat.reduceEqDiff, reduceIte, ite_true, ite_false, eq_self, Nat.reduceLT, Nat.reduceLeDiff, Nat.reduceAdd, Nat.reduceMul, Nat.reduceSub, intOf]
    exact ⟨Ext.rfl' w, 0, by omega, rfl, Own.nil _ _ _ _⟩
  · rintro s1 w1 ⟨hE, k, hk, h0, h4, ho⟩
    simp only [↓VD, VP, VT, isAggD, reduceCtorEq, Int.reduceEq, Int.reduceNe, Int.reduceLT, Int.reduceLE, implies_true, Nat.reduceEqDiff, reduceIte, ite_true, ite_false, eq_self, Nat.reduceLT, Nat.reduceLeDiff, Nat.reduceAdd, Nat.reduceMul, Nat.reduceSub, intOf, h0, h4]
    refine ⟨fun hlt => ?_, fun hge => ?_⟩
    · have e2 : m >>> k < 65536 := by rw [Nat.shiftRight_eq_div_pow]; exact Nat.lt_of_le_of_lt (Nat.div_le_self _ _) h
      refine ⟨by omega, ?_⟩
      simp only [↓VD, VP, VT, isAggD, reduceCtorEq, Int.reduceEq, Int.reduceNe, Int.reduceLT, Int.reduceLE, implies_true, Nat.reduceEqDiff, reduceIte, ite_true, ite_false, eq_self, Nat.reduceLT, Nat.reduceLeDiff, Nat.reduceAdd, Nat.reduceMul, Nat.reduceSub, intOf, h0, h4, shrN m k 16 (by omega), show IntKind.u16.bits = 16 from rfl]
      have hq : ((m >>> k : Nat) : Int).tmod 2 = ((m >>> k % 2 : Nat) : Int) := by rw [Int.tmod_eq_emod_of_nonneg (Int.natCast_nonneg _)]; rfl
      have hsz := setI_len m k
      rw [hq, shr_bit]
      refine ⟨fun hb => ⟨rfl, rfl, fun w2 hN => ?_⟩, fun hb => ⟨⟨hE, k + 1, by omega, by rw [w64 (by omega) (by omega)]; rfl, ?_⟩, ?_⟩⟩
      · refine apB Tryz.underlying67 z3 c3 rfl (by decide) (Own.ext ho hN.ext) (Nat.le_trans hE.size hN.ext.size) hN.blk rfl (by simp [oneCellV]) (by omega) (by rw [by3]; omega) (fun v w3 ho3 hB => ?_)
        have hbit : m.testBit k = true := by
          cases hc : m.testBit k
          · simp [hc] at hb
          · rfl
        simp only [↓VD, VP, VT, isAggD, reduceCtorEq, Int.reduceEq, Int.reduceNe, Int.reduceLT, Int.reduceLE, implies_true, Nat.reduceEqDiff, reduceIte, ite_true, ite_false, eq_self, Nat.reduceLT, Nat.reduceLeDiff, Nat.reduceAdd, Nat.reduceMul, Nat.reduceSub, intOf, h0, h4]
        refine ⟨⟨hE.trans ((hN.ext.mono hE.size).trans hB), k + 1, by omega, by rw [w64 (by omega) (by omega)]; rfl, ?_⟩, ?_⟩
        · rw [setI_succ, if_pos hbit]
          simpa [ints, OwnI] using ho3
        · rw [w64 (by omega) (by omega)]; omega
      · have hbit : m.testBit k = false := by
          cases hc : m.testBit k
          · rfl
          · simp [hc] at hb
        rw [setI_succ, hbit]
        simpa using ho
      · rw [w64 (by omega) (by omega)]; omega
    · have e : k = 16 := by omega
      subst e
      exact ⟨ho, hE⟩

theorem mem_take_succ {l : List Int} {k : Nat} {i : Int} (h : k < l.length) : i ∈ l.take (k + 1) ↔ i ∈ l.take k ∨ i = l.getD k 0 := by
  rw [List.take_succ_eq_append_getElem h]; simp only [List.mem_append, List.mem_singleton, List.getD_eq_getElem?_getD, List.getElem?_eq_getElem h, Option.getD_some]

theorem RHas_ok (m : Nat) (h : m < 65536) (i : Int) (w : World) :
    CallK Tryz.prog 60 [.int .u16 m, .int .i64 i].toArray w fun v w' => v = .bool (decide (i ∈ setI m 16)) ∧ Ext w w' := by
  refine enterT Tryz.func60 rfl Tryz.ntmps60 Tryz.results60 rfl (by decide) ?_
  simp only [↓VD, VP, VT, isAggD, reduceCtorEq, Int.reduceEq, Int.reduceNe, Int.reduceLT, Int.reduceLE, implies_true, Nat.reduceEqDiff, reduceIte, ite_true, ite_false, eq_self, Nat.reduceLT, Nat.reduceLeDiff, Nat.reduceAdd, Nat.reduceMul, Nat.reduceSub, intOf]
  refine (Set_ok m h w).mono ?_
  rintro v w1 ⟨ho, hE⟩
  have hs := setI_len m 16
  generalize setI m 16 = l at *
  obtain ⟨a, c, rfl, hnc, hcm, hc⟩ := (SlC.of_own ho).openI
  simp only [↓VD, VP, VT, isAggD, reduceCtorEq, Int.reduceEq, Int.reduceNe, Int.reduceLT, Int.reduceLE, implies_true, Nat.reduceEqDiff, reduceIte, ite_true, ite_false, eq_self, Nat.reduceLT, Nat.reduceLeDiff, Nat.reduceAdd, Nat.reduceMul, Nat.reduceSub, intOf]
  refine loopT (fun s' w' => w' = w1 ∧ ∃ k : Nat, k ≤ l.length ∧ s' 1 = .int .i64 i ∧ s' 8 = .slice a l.length c ∧ s' 9 = .int .i64 l.length ∧ s' 10 = .int .i64 k ∧ i ∉ l.take k) (fun s' _ => l.length - (intOf (s' 10)).toNat) ?_ ?_
  · simp only [↓VD, VP, VT, isAggD, reduceCtorEq, Int.reduceEq, Int.reduceNe, Int.reduceLT, Int.reduceLE, implies_true, Nat.reduceEqDiff, reduceIte, ite_true, ite_false, eq_self, Nat.reduceLT, Nat.reduceLeDiff, Nat.reduceAdd, Nat.reduceMul, Nat.reduceSub, intOf]
    exact ⟨0, by omega, rfl, by simp⟩
  · rintro s1 w2 ⟨rfl, k, hk, h1, h8, h9, h10, hz⟩
    simp only [↓VD, VP, VT, isAggD, reduceCtorEq, Int.reduceEq, Int.reduceNe, Int.reduceLT, Int.reduceLE, implies_true, Nat.reduceEqDiff, reduceIte, ite_true, ite_false, eq_self, Nat.reduceLT, Nat.reduceLeDiff, Nat.reduceAdd, Nat.reduceMul, Nat.reduceSub, intOf, h1, h8, h9, h10]
    refine ⟨fun hlt => ?_, fun hge => ?_⟩
    · rcases hc with rfl | ⟨b, o, rfl, hc⟩
      · simp at hlt; omega
      simp only [↓VD, VP, VT, isAggD, reduceCtorEq, Int.reduceEq, Int.reduceNe, Int.reduceLT, Int.reduceLE, implies_true, Nat.reduceEqDiff, reduceIte, ite_true, ite_false, eq_self, Nat.reduceLT, Nat.reduceLeDiff, Nat.reduceAdd, Nat.reduceMul, Nat.reduceSub, intOf]
      refine ⟨by omega, by omega, ld1 Tryz.underlying3 rfl (hc k (by omega)) ?_⟩
      simp only [↓VD, VP, VT, isAggD, reduceCtorEq, Int.reduceEq, Int.reduceNe, Int.reduceLT, Int.reduceLE, implies_true, Nat.reduceEqDiff, reduceIte, ite_true, ite_false, eq_self, Nat.reduceLT, Nat.reduceLeDiff, Nat.reduceAdd, Nat.reduceMul, Nat.reduceSub, intOf, h1, h8, h9, h10]
      refine ⟨fun he => ⟨?_, hE⟩, fun he => ⟨⟨k + 1, by omega, by rw [w64 (by omega) (by omega)]; rfl, ?_⟩, ?_⟩⟩
      · have : i ∈ l.take (k + 1) := (mem_take_succ (by omega)).2 (Or.inr he.symm)
        simp [List.mem_of_mem_take this]
      · rw [mem_take_succ (by omega)]
        rintro (h | h)
        · exact hz h
        · exact he h.symm
      · rw [w64 (by omega) (by omega)]; omega
    · rw [List.take_of_length_le (by omega)] at hz
      exact ⟨by simp [hz], hE⟩

def lows (l : List Int) (i : Int) : Nat := (l.filter fun j => decide (j < i)).length
theorem lows_succ {l : List Int} {k : Nat} {i : Int} (h : k < l.length) : lows (l.take (k + 1)) i = lows (l.take k) i + if l.getD k 0 < i then 1 else 0 := by
  rw [List.take_succ_eq_append_getElem h]
  unfold lows
  rw [List.filter_append, List.length_append]
  simp only [List.getD_eq_getElem?_getD, List.getElem?_eq_getElem h, Option.getD_some]
  by_cases e : l[k] < i <;> simp [e]
theorem lows_le (l : List Int) (i : Int) : lows l i ≤ l.length := List.length_filter_le _ _

theorem RRank_ok (m : Nat) (h : m < 65536) (i : Int) (w : World) :
    CallK Tryz.prog 65 [.int .u16 m, .int .i64 i].toArray w fun v w' => v = .int .i64 (lows (setI m 16) i) ∧ Ext w w' := by
  refine enterT Tryz.func65 rfl Tryz.ntmps65 Tryz.results65 rfl (by decide) ?_
  simp only [↓VD, VP, VT, isAggD, reduceCtorEq, Int.reduceEq, Int.reduceNe, Int.reduceLT, Int.reduceLE, implies_true, Nat.reduceEqDiff, reduceIte, ite_true, ite_false, eq_self, Nat.reduceLT, Nat.reduceLeDiff, Nat.reduceAdd, Nat.reduceMul, Nat.reduceSub, intOf]
  refine (Set_ok m h w).mono ?_
  rintro v w1 ⟨ho, hE⟩
  have hs := setI_len m 16
  generalize setI m 16 = l at *
  obtain ⟨a, c, rfl, hnc, hcm, hc⟩ := (SlC.of_own ho).openI
  simp only [↓VD, VP, VT, isAggD, reduceCtorEq, Int.reduceEq, Int.reduceNe, Int.reduceLT, Int.reduceLE, implies_true, Nat.reduceEqDiff, reduceIte, ite_true, ite_false, eq_self, Nat.reduceLT, Nat.reduceLeDiff, Nat.reduceAdd, Nat.reduceMul, Nat.reduceSub, intOf]
  refine loopT (fun s' w' => w' = w1 ∧ ∃ k : Nat, k ≤ l.length ∧ s' 1 = .int .i64 i ∧ s' 9 = .slice a l.length c ∧ s' 10 = .int .i64 l.length ∧ s' 11 = .int .i64 k ∧ s' 5 = .int .i64 (lows (l.take k) i)) (fun s' _ => l.length - (intOf (s' 11)).toNat) ?_ ?_
  · simp only [↓VD, VP, VT, isAggD, reduceCtorEq, Int.reduceEq, Int.reduceNe, Int.reduceLT, Int.reduceLE, implies_true, Nat.reduceEqDiff, reduceIte, ite_true, ite_false, eq_self, Nat.reduceLT, Nat.reduceLeDiff, Nat.reduceAdd, Nat.reduceMul, Nat.reduceSub, intOf]
    exact ⟨0, by omega, rfl, by simp [lows]⟩
  · rintro s1 w2 ⟨rfl, k, hk, h1, h9, h10, h11, h5⟩
    simp only [↓VD, VP, VT, isAggD, reduceCtorEq, Int.reduceEq, Int.reduceNe, Int.reduceLT, Int.reduceLE, implies_true, Nat.reduceEqDiff, reduceIte, ite_true, ite_false, eq_self, Nat.reduceLT, Nat.reduceLeDiff, Nat.reduceAdd, Nat.reduceMul, Nat.reduceSub, intOf, h1, h9, h10, h11, h5]
    have hlo := lows_le (l.take k) i
    have htk : (l.take k).length ≤ 16 := by rw [List.length_take]; omega
    refine ⟨fun hlt => ?_, fun hge => ?_⟩
    · rcases hc with rfl | ⟨b, o, rfl, hc⟩
      · simp at hlt; omega
      simp only [↓VD, VP, VT, isAggD, reduceCtorEq, Int.reduceEq, Int.reduceNe, Int.reduceLT, Int.reduceLE, implies_true, Nat.reduceEqDiff, reduceIte, ite_true, ite_false, eq_self, Nat.reduceLT, Nat.reduceLeDiff, Nat.reduceAdd, Nat.reduceMul, Nat.reduceSub, intOf]
      refine ⟨by omega, by omega, ld1 Tryz.underlying3 rfl (hc k (by omega)) ?_⟩
      simp only [↓VD, VP, VT, isAggD, reduceCtorEq, Int.reduceEq, Int.reduceNe, Int.reduceLT, Int.reduceLE, implies_true, Nat.reduceEqDiff, reduceIte, ite_true, ite_false, eq_self, Nat.reduceLT, Nat.reduceLeDiff, Nat.reduceAdd, Nat.reduceMul, Nat.reduceSub, intOf, h1, h9, h10, h11, h5]
      have hl1 := lows_succ (l := l) (k := k) (i := i) (by omega)
      refine ⟨fun he => ⟨⟨k + 1, by omega, by rw [w64 (by omega) (by omega)]; rfl, ?_⟩, ?_⟩, fun he => ⟨⟨k + 1, by omega, by rw [w64 (by omega) (by omega)]; rfl, ?_⟩, ?_⟩⟩
      · rw [hl1, if_pos he, w64 (by omega) (by omega)]; rfl
      · rw [w64 (by omega) (by omega)]; omega
      · rw [hl1, if_neg he]; rfl
      · rw [w64 (by omega) (by omega)]; omega
    · rw [List.take_of_length_le (by omega)]
      exact ⟨rfl, hE⟩

theorem mem_setI {m : Nat} {i : Int} : i ∈ setI m 16 ↔ hasB m i = true := by
  simp only [setI, List.mem_map, List.mem_filter, List.mem_range, hasB, inB, Bool.and_eq_true, decide_eq_true_eq]
  constructor
  · rintro ⟨j, ⟨hj, hb⟩, rfl⟩
    exact ⟨by omega, by simpa using hb⟩
  · rintro ⟨h, hb⟩
    exact ⟨i.toNat, ⟨by omega, hb⟩, by omega⟩
theorem rhas_eq (m : Nat) (i : Int) : decide (i ∈ setI m 16) = hasB m i := by
  rw [Bool.eq_iff_iff, decide_eq_true_eq]; exact mem_setI
theorem lows_eq (m : Nat) (i : Int) : lows (setI m 16) i = rankB m i := by
  unfold lows rankB setI setB
  rw [List.filter_map, List.length_map]; rfl
theorem setI_cnt (m : Nat) : (setI m 16).length = cntB m := by
  unfold setI cntB setB; rw [List.length_map]

theorem or_two_pow (m i : Nat) (hm : m < 65536) (hi : i ≤ 15) (h : m.testBit i = false) : m ||| 2 ^ i = m + 2 ^ i := by
  have h0 : m &&& 2 ^ i = 0 := by
    apply Nat.eq_of_testBit_eq
    intro j
    rw [Nat.testBit_and, Nat.testBit_two_pow]
    by_cases e : i = j
    · subst e; simp [h]
    · simp [e]
  have hp : 2 ^ i ≤ 32768 := Nat.pow_le_pow_right (by decide) hi
  have := BitVec.add_eq_or_of_and_eq_zero (w := 17) (BitVec.ofNat 17 m) (BitVec.ofNat 17 (2 ^ i)) (by
    apply BitVec.eq_of_toNat_eq
    rw [BitVec.toNat_and, BitVec.toNat_ofNat, BitVec.toNat_ofNat, Nat.mod_eq_of_lt (by omega), Nat.mod_eq_of_lt (by omega), h0]; rfl)
  have h2 := congrArg BitVec.toNat this
  rw [BitVec.toNat_add, BitVec.toNat_or, BitVec.toNat_ofNat, BitVec.toNat_ofNat, Nat.mod_eq_of_lt (show m < 2 ^ 17 by omega), Nat.mod_eq_of_lt (show 2 ^ i < 2 ^ 17 by omega), Nat.mod_eq_of_lt (by omega)] at h2
  exact h2.symm
theorem bit_sub (m i : Nat) (hm : m < 65536) (hi : i ≤ 15) (h : m.testBit i = true) : m &&& (65535 - 2 ^ i) = m - 2 ^ i := by
  have h1 : (m &&& (65535 - 2 ^ i)).testBit i = false := by
    rw [Nat.testBit_and, show 65535 - 2 ^ i = 2 ^ 16 - (2 ^ i + 1) from by omega, Nat.testBit_two_pow_sub_succ (Nat.pow_lt_pow_right (by decide) (by omega)), Nat.testBit_two_pow]
    simp
  have h2 : (m &&& (65535 - 2 ^ i)) ||| 2 ^ i = m := by
    apply Nat.eq_of_testBit_eq
    intro j
    rw [Nat.testBit_or, Nat.testBit_and, show 65535 - 2 ^ i = 2 ^ 16 - (2 ^ i + 1) from by omega, Nat.testBit_two_pow_sub_succ (Nat.pow_lt_pow_right (by decide) (by omega)), Nat.testBit_two_pow]
    by_cases e : i = j
    · subst e; simp [h]
    · by_cases hj : j < 16
      · simp [e, hj]
      · have : m.testBit j = false := Nat.testBit_lt_two_pow (Nat.lt_of_lt_of_le hm (Nat.pow_le_pow_right (n := 2) (i := 16) (by decide) (by omega)))
        simp [this, e]
  rw [or_two_pow _ _ (Nat.lt_of_le_of_lt Nat.and_le_left hm) hi h1] at h2
  omega

end Go.Proofs.YticfalbgplifoaaGreatDoor
