/-
  Walks of layer 13 (nibble): bitmaps. Conditions: as stated in each theorem.
-/
import Derived.Test.YticfalbgplifoaaGreatDoorDat
namespace Go.Proofs.YticfalbgplifoaaGreatDoor
set_option maxRecDepth 100000
open Go Go.RowKit
set_option linter.unusedVariables false
set_option linter.unusedSimpArgs false

/-! ### Bits of unsigned numbers -/
theorem ibN (k : IntKind) (hk : k.signed = false) (a b : Nat) (ha : a < 2 ^ k.bits) (hb : b < 2 ^ k.bits) :
    ibits .and k a b = ((a &&& b : Nat) : Int) ∧ ibits .or k a b = ((a ||| b : Nat) : Int) ∧ ibits .xor k a b = ((a ^^^ b : Nat) : Int) ∧ ibits .andNot k a b = ((a &&& (2 ^ k.bits - 1 - b) : Nat) : Int) := by
  have w : ∀ n : Nat, n < 2 ^ k.bits → k.wrap (n : Int) = n := by
    intro n hn
    simp only [IntKind.wrap, hk, Bool.false_and, Bool.false_eq_true, if_false]
    have : ((2 : Int) ^ k.bits) = ((2 ^ k.bits : Nat) : Int) := by simp
    rw [this]
    exact Int.emod_eq_of_lt (by omega) (by omega)
  have e1 : BitVec.ofInt k.bits (a : Int) = BitVec.ofNat k.bits a := BitVec.ofInt_natCast ..
  have e2 : BitVec.ofInt k.bits (b : Int) = BitVec.ofNat k.bits b := BitVec.ofInt_natCast ..
  have h1 : a &&& b < 2 ^ k.bits := Nat.and_lt_two_pow a hb
  have h2 : a ||| b < 2 ^ k.bits := Nat.or_lt_two_pow ha hb
  have h3 : a ^^^ b < 2 ^ k.bits := Nat.xor_lt_two_pow ha hb
  have h4 : a &&& (2 ^ k.bits - 1 - b) < 2 ^ k.bits := Nat.and_lt_two_pow a (by omega)
  refine ⟨?_, ?_, ?_, ?_⟩
  · simp only [ibits, e1, e2, BitVec.toNat_and, BitVec.toNat_ofNat, Nat.mod_eq_of_lt ha, Nat.mod_eq_of_lt hb]; exact w _ h1
  · simp only [ibits, e1, e2, BitVec.toNat_or, BitVec.toNat_ofNat, Nat.mod_eq_of_lt ha, Nat.mod_eq_of_lt hb]; exact w _ h2
  · simp only [ibits, e1, e2, BitVec.toNat_xor, BitVec.toNat_ofNat, Nat.mod_eq_of_lt ha, Nat.mod_eq_of_lt hb]; exact w _ h3
  · simp only [ibits, e1, e2, BitVec.toNat_and, BitVec.toNat_not, BitVec.toNat_ofNat, Nat.mod_eq_of_lt ha, Nat.mod_eq_of_lt hb]; exact w _ h4

theorem shrN (m j n : Nat) (h : j ≤ n) : ((m : Int).fdiv (2 ^ min j n)) = ((m >>> j : Nat) : Int) := by
  rw [shrI _ _ _ h, Nat.shiftRight_eq_div_pow]; simp

/-! ### Sets of digits -/
def inB (i : Int) : Bool := decide (0 ≤ i ∧ i ≤ 15)
def hasB (m : Nat) (i : Int) : Bool := inB i && m.testBit i.toNat
def setB (m : Nat) : List Nat := (List.range 16).filter fun j => m.testBit j
def cntB (m : Nat) : Nat := (setB m).length
def rankB (m : Nat) (i : Int) : Nat := ((setB m).filter fun (j : Nat) => decide ((j : Int) < i)).length
def withB (m : Nat) (i : Int) : Nat := if inB i = true then m ||| 2 ^ i.toNat else m
def withoutB (m : Nat) (i : Int) : Nat := if inB i = true then m &&& (65535 - 2 ^ i.toNat) else m

theorem pow_le16 {i : Nat} (h : i ≤ 15) : 2 ^ i ≤ 32768 := Nat.pow_le_pow_right (by decide) h
theorem withB_lt {m : Nat} (h : m < 65536) (i : Int) : withB m i < 65536 := by
  unfold withB; split
  · rename_i hi
    have hi' : 0 ≤ i ∧ i ≤ 15 := by simpa [inB] using hi
    exact Nat.or_lt_two_pow (n := 16) h (by have := pow_le16 (i := i.toNat) (by omega); omega)
  · exact h
theorem withoutB_lt {m : Nat} (h : m < 65536) (i : Int) : withoutB m i < 65536 := by
  unfold withoutB; split
  · exact Nat.lt_of_le_of_lt Nat.and_le_left h
  · exact h

theorem cnt_halves (m : Nat) (h : m < 65536) : cntB (m >>> 8) + cntB (m &&& 255) = cntB m := by
  have e : List.range 16 = List.range 8 ++ (List.range 8).map (· + 8) := by decide
  have e1 : ∀ f : Nat → Bool, ((List.range 16).filter f).length = ((List.range 8).filter f).length + ((List.range 8).filter fun j => f (j + 8)).length := by
    intro f; rw [e, List.filter_append, List.length_append, List.filter_map, List.length_map]; rfl
  have t1 : ∀ j ∈ List.range 8, (m &&& 255).testBit j = m.testBit j := by
    intro j hj
    have : (255 : Nat).testBit j = true := by simp at hj; rw [show 255 = 2 ^ 8 - 1 from rfl, Nat.testBit_two_pow_sub_one]; simpa using hj
    simp [Nat.testBit_and, this]
  have t2 : ∀ j ∈ List.range 8, (m &&& 255).testBit (j + 8) = false := by
    intro j hj
    rw [Nat.testBit_and, show 255 = 2 ^ 8 - 1 from rfl, Nat.testBit_two_pow_sub_one]; simp
  have t3 : ∀ j ∈ List.range 8, (m >>> 8).testBit j = m.testBit (j + 8) := by
    intro j hj; rw [Nat.testBit_shiftRight, Nat.add_comm]
  have t4 : ∀ j ∈ List.range 8, (m >>> 8).testBit (j + 8) = false := by
    intro j hj; rw [Nat.testBit_shiftRight]; exact Nat.testBit_lt_two_pow (Nat.lt_of_lt_of_le h (Nat.pow_le_pow_right (n := 2) (i := 16) (by decide) (by omega)))
  unfold cntB setB
  rw [e1, e1, e1, List.filter_congr t1, List.filter_congr t2, List.filter_congr t3, List.filter_congr t4]
  have f0 : ((List.range 8).filter fun _ => false).length = 0 := rfl
  have f1 : (List.filter m.testBit (List.range 8)).length = ((List.range 8).filter fun j => m.testBit j).length := rfl
  omega

theorem cnt_le (m : Nat) : cntB m ≤ 16 := by
  unfold cntB setB
  exact Nat.le_trans (List.length_filter_le _ _) (by simp)

/-- A table of 256 counts. -/
theorem idx_tab {P : Program} {S : ByteArray} {k : IntKind} {j : Nat} {K : Value → Prop} (hS : ∀ n : Fin 256, S[n.1]? = some (UInt8.ofNat (cntB n.1))) (hj : j < 256) (hK : K (.int .u8 (cntB j))) :
    idxO P (some .string) (.string S) (.int k j) K := by
  refine ⟨S, rfl, ?_⟩
  rw [intV_lit]
  refine ⟨by omega, _, hS ⟨j, hj⟩, ?_⟩
  have h16 : cntB (⟨j, hj⟩ : Fin 256).1 ≤ 16 := cnt_le j
  rw [UInt8.toNat_ofNat', Nat.mod_eq_of_lt (by omega)]
  exact hK

theorem OnesCount16_ok (m : Nat) (h : m < 65536) (w : World) :
    CallK Tryz.prog 76 [.int .u16 m].toArray w fun v w' => v = .int .i64 (cntB m) ∧ Ext w w' := by
  refine enterT Tryz.func76 rfl Tryz.ntmps76 Tryz.results76 rfl (by decide) ?_
  simp only [↓VD, VP, VT, isAggD, reduceCtorEq, Int.reduceEq, Int.reduceNe, Int.reduceLT, Int.reduceLE, implies_true, Nat.reduceEqDiff, reduceIte, ite_true, ite_false, eq_self, Nat.reduceLT, Nat.reduceLeDiff, Nat.reduceAdd, Nat.reduceMul, Nat.reduceSub, intOf]
  refine drawT mixed (by decide +kernel) ?_
  simp only [↓VD, VP, VT, isAggD, reduceCtorEq, Int.reduceEq, Int.reduceNe, Int.reduceLT, Int.reduceLE, implies_true, Nat.reduceEqDiff, reduceIte, ite_true, ite_false, eq_self, Nat.reduceLT, Nat.reduceLeDiff, Nat.reduceAdd, Nat.reduceMul, Nat.reduceSub, intOf]
  have e1 : ((m : Int).fdiv (2 ^ min (Int.toNat 8) IntKind.u16.bits)) = ((m >>> 8 : Nat) : Int) := by
    rw [shrI _ _ _ (by decide), Nat.shiftRight_eq_div_pow]; simp
  rw [e1]
  have e2 : m >>> 8 < 256 := by rw [Nat.shiftRight_eq_div_pow]; omega
  refine idx_tab ?_ e2 ?_
  · decide +kernel
  simp only [↓VD, VP, VT, isAggD, reduceCtorEq, Int.reduceEq, Int.reduceNe, Int.reduceLT, Int.reduceLE, implies_true, Nat.reduceEqDiff, reduceIte, ite_true, ite_false, eq_self, Nat.reduceLT, Nat.reduceLeDiff, Nat.reduceAdd, Nat.reduceMul, Nat.reduceSub, intOf]
  have e3 : ibits .and .u16 m 255 = ((m &&& 255 : Nat) : Int) := (ibN .u16 rfl m 255 h (by decide)).1
  rw [e3]
  refine idx_tab ?_ (Nat.lt_of_le_of_lt Nat.and_le_right (by decide)) ?_
  · decide +kernel
  have := cnt_le (m >>> 8)
  have := cnt_le (m &&& 255)
  have hc := cnt_halves m h
  simp only [↓VD, VP, VT, isAggD, reduceCtorEq, Int.reduceEq, Int.reduceNe, Int.reduceLT, Int.reduceLE, implies_true, Nat.reduceEqDiff, reduceIte, ite_true, ite_false, eq_self, Nat.reduceLT, Nat.reduceLeDiff, Nat.reduceAdd, Nat.reduceMul, Nat.reduceSub, intOf]
  intro w' hE
  refine ⟨?_, hE⟩
  rw [w8 (by omega) (by omega), w64 (by omega) (by omega)]
  omega

theorem Count_ok (m : Nat) (h : m < 65536) (w : World) :
    CallK Tryz.prog 46 [.int .u16 m].toArray w fun v w' => v = .int .i64 (cntB m) ∧ Ext w w' := by
  refine enterT Tryz.func46 rfl Tryz.ntmps46 Tryz.results46 rfl (by decide) ?_
  simp only [↓VD, VP, VT, isAggD, reduceCtorEq, Int.reduceEq, Int.reduceNe, Int.reduceLT, Int.reduceLE, implies_true, Nat.reduceEqDiff, reduceIte, ite_true, ite_false, eq_self, Nat.reduceLT, Nat.reduceLeDiff, Nat.reduceAdd, Nat.reduceMul, Nat.reduceSub, intOf]
  refine (OnesCount16_ok m h w).mono ?_
  rintro _ w1 ⟨rfl, hE⟩
  simp only [↓VD, VP, VT, isAggD, reduceCtorEq, Int.reduceEq, Int.reduceNe, Int.reduceLT, Int.reduceLE, implies_true, Nat.reduceEqDiff, reduceIte, ite_true, ite_false, eq_self, Nat.reduceLT, Nat.reduceLeDiff, Nat.reduceAdd, Nat.reduceMul, Nat.reduceSub, intOf]
  exact hE

theorem in_ok (i : Int) (w : World) : CallK Tryz.prog 77 [.int .i64 i].toArray w fun v w' => v = .bool (inB i) ∧ Ext w w' := by
  refine enterT Tryz.func77 rfl Tryz.ntmps77 Tryz.results77 rfl (by decide) ?_
  simp only [↓VD, VP, VT, isAggD, reduceCtorEq, Int.reduceEq, Int.reduceNe, Int.reduceLT, Int.reduceLE, implies_true, Nat.reduceEqDiff, reduceIte, ite_true, ite_false, eq_self, Nat.reduceLT, Nat.reduceLeDiff, Nat.reduceAdd, Nat.reduceMul, Nat.reduceSub, intOf]
  have hE := Ext.rfl' w
  refine ⟨fun h => ⟨?_, hE⟩, fun h => ⟨?_, hE⟩⟩
  · simp [inB, h]
  · simp [inB, h]

theorem inB_iff (i : Int) : inB i = true ↔ 0 ≤ i ∧ i ≤ 15 := by simp [inB]
theorem bit_and_one (m i : Nat) : (m >>> i) &&& 1 = if m.testBit i = true then 1 else 0 := by
  rw [Nat.and_one_is_mod, Nat.testBit, Nat.and_comm, Nat.and_one_is_mod]
  have := Nat.mod_two_eq_zero_or_one (m >>> i)
  rcases this with h | h <;> simp [h]

theorem Has_ok (m : Nat) (h : m < 65536) (i : Int) (w : World) :
    CallK Tryz.prog 47 [.int .u16 m, .int .i64 i].toArray w fun v w' => v = .bool (hasB m i) ∧ Ext w w' := by
  refine enterT Tryz.func47 rfl Tryz.ntmps47 Tryz.results47 rfl (by decide) ?_
  simp only [↓VD, VP, VT, isAggD, reduceCtorEq, Int.reduceEq, Int.reduceNe, Int.reduceLT, Int.reduceLE, implies_true, Nat.reduceEqDiff, reduceIte, ite_true, ite_false, eq_self, Nat.reduceLT, Nat.reduceLeDiff, Nat.reduceAdd, Nat.reduceMul, Nat.reduceSub, intOf]
  refine (in_ok i w).mono ?_
  rintro _ w1 ⟨rfl, hE⟩
  simp only [↓VD, VP, VT, isAggD, reduceCtorEq, Int.reduceEq, Int.reduceNe, Int.reduceLT, Int.reduceLE, implies_true, Nat.reduceEqDiff, reduceIte, ite_true, ite_false, eq_self, Nat.reduceLT, Nat.reduceLeDiff, Nat.reduceAdd, Nat.reduceMul, Nat.reduceSub, intOf]
  refine bsplit_i (fun hi => ?_) (fun hi => ?_)
  · have hi' := (inB_iff i).1 hi
    simp only [↓VD, VP, VT, isAggD, reduceCtorEq, Int.reduceEq, Int.reduceNe, Int.reduceLT, Int.reduceLE, implies_true, Nat.reduceEqDiff, reduceIte, ite_true, ite_false, eq_self, Nat.reduceLT, Nat.reduceLeDiff, Nat.reduceAdd, Nat.reduceMul, Nat.reduceSub, intOf]
    refine ⟨hi'.1, ?_⟩
    obtain ⟨j, rfl⟩ : ∃ j : Nat, i = j := ⟨i.toNat, by omega⟩
    have e2 : m >>> j < 65536 := by rw [Nat.shiftRight_eq_div_pow]; exact Nat.lt_of_le_of_lt (Nat.div_le_self _ _) h
    simp only [↓VD, VP, VT, isAggD, reduceCtorEq, Int.reduceEq, Int.reduceNe, Int.reduceLT, Int.reduceLE, implies_true, Nat.reduceEqDiff, reduceIte, ite_true, ite_false, eq_self, Nat.reduceLT, Nat.reduceLeDiff, Nat.reduceAdd, Nat.reduceMul, Nat.reduceSub, intOf, shrN m j 16 (by omega), show IntKind.u16.bits = 16 from rfl]
    have e3 : ibits .and .u16 (m >>> j : Nat) 1 = ((m >>> j &&& 1 : Nat) : Int) := (ibN .u16 rfl (m >>> j) 1 e2 (by decide)).1
    rw [e3, bit_and_one]
    refine ⟨?_, hE⟩
    simp only [hasB, hi, Bool.true_and, Int.toNat_natCast]
    cases m.testBit j <;> simp
  · simp only [↓VD, VP, VT, isAggD, reduceCtorEq, Int.reduceEq, Int.reduceNe, Int.reduceLT, Int.reduceLE, implies_true, Nat.reduceEqDiff, reduceIte, ite_true, ite_false, eq_self, Nat.reduceLT, Nat.reduceLeDiff, Nat.reduceAdd, Nat.reduceMul, Nat.reduceSub, intOf]
    exact ⟨by simp [hasB, hi], hE⟩

theorem rank_neg {m : Nat} {i : Int} (h : i < 0) : rankB m i = 0 := by
  unfold rankB
  rw [List.length_eq_zero_iff, List.filter_eq_nil_iff]
  intro j _; simp; omega
theorem rank_big {m : Nat} {i : Int} (h : 15 < i) : rankB m i = cntB m := by
  unfold rankB cntB
  rw [List.filter_eq_self.2]
  intro j hj
  simp only [setB, List.mem_filter, List.mem_range] at hj
  simp; omega
theorem rank_mid {m : Nat} {j : Nat} (h : j ≤ 15) : rankB m j = cntB (m &&& (2 ^ j - 1)) := by
  unfold rankB cntB setB
  rw [List.filter_filter]
  congr 1
  apply List.filter_congr
  intro k _
  rw [Nat.testBit_and, Nat.testBit_two_pow_sub_one, Bool.and_comm]
  congr 1
  simp

theorem Rank_ok (m : Nat) (h : m < 65536) (i : Int) (w : World) :
    CallK Tryz.prog 56 [.int .u16 m, .int .i64 i].toArray w fun v w' => v = .int .i64 (rankB m i) ∧ Ext w w' := by
  refine enterT Tryz.func56 rfl Tryz.ntmps56 Tryz.results56 rfl (by decide) ?_
  simp only [↓VD, VP, VT, isAggD, reduceCtorEq, Int.reduceEq, Int.reduceNe, Int.reduceLT, Int.reduceLE, implies_true, Nat.reduceEqDiff, reduceIte, ite_true, ite_false, eq_self, Nat.reduceLT, Nat.reduceLeDiff, Nat.reduceAdd, Nat.reduceMul, Nat.reduceSub, intOf]
  refine ⟨fun h1 => ⟨by rw [rank_neg h1]; rfl, Ext.rfl' w⟩, fun h1 => ⟨fun h2 => ?_, fun h2 => ?_⟩⟩
  · refine (Count_ok m h w).mono ?_
    rintro _ w1 ⟨rfl, hE⟩
    simp only [↓VD, VP, VT, isAggD, reduceCtorEq, Int.reduceEq, Int.reduceNe, Int.reduceLT, Int.reduceLE, implies_true, Nat.reduceEqDiff, reduceIte, ite_true, ite_false, eq_self, Nat.reduceLT, Nat.reduceLeDiff, Nat.reduceAdd, Nat.reduceMul, Nat.reduceSub, intOf]
    exact ⟨by rw [rank_big h2], hE⟩
  · refine ⟨by omega, ?_⟩
    obtain ⟨j, rfl⟩ : ∃ j : Nat, i = j := ⟨i.toNat, by omega⟩
    have hp := pow_le16 (i := j) (by omega)
    have h0 : 0 < 2 ^ j := Nat.pow_pos (by decide)
    have e : (1 : Int) * 2 ^ min j IntKind.u16.bits = ((2 ^ j : Nat) : Int) := by
      rw [Nat.min_eq_left (by simp [IntKind.bits]; omega)]; simp
    simp only [↓VD, VP, VT, isAggD, reduceCtorEq, Int.reduceEq, Int.reduceNe, Int.reduceLT, Int.reduceLE, implies_true, Nat.reduceEqDiff, reduceIte, ite_true, ite_false, eq_self, Nat.reduceLT, Nat.reduceLeDiff, Nat.reduceAdd, Nat.reduceMul, Nat.reduceSub, intOf]
    rw [e, w16 (n := ((2 ^ j : Nat) : Int)) (by omega) (by omega), show ((2 ^ j : Nat) : Int) - 1 = ((2 ^ j - 1 : Nat) : Int) from by omega, w16 (n := ((2 ^ j - 1 : Nat) : Int)) (by omega) (by omega), (ibN .u16 rfl m (2 ^ j - 1) h (by simp [IntKind.bits]; omega)).1]
    refine (Count_ok _ (Nat.lt_of_le_of_lt Nat.and_le_left h) w).mono ?_
    rintro _ w1 ⟨rfl, hE⟩
    simp only [↓VD, VP, VT, isAggD, reduceCtorEq, Int.reduceEq, Int.reduceNe, Int.reduceLT, Int.reduceLE, implies_true, Nat.reduceEqDiff, reduceIte, ite_true, ite_false, eq_self, Nat.reduceLT, Nat.reduceLeDiff, Nat.reduceAdd, Nat.reduceMul, Nat.reduceSub, intOf]
    exact ⟨by rw [rank_mid (by omega)], hE⟩

end Go.Proofs.YticfalbgplifoaaGreatDoor
