/-
  Walks of layer 13 (nibble). Conditions: as stated in each theorem.
-/
import Derived.Test.YticfalbgplifoaaGreatDoorDat
namespace Go.Proofs.YticfalbgplifoaaGreatDoor
set_option maxRecDepth 100000
open Go Go.RowKit
set_option linter.unusedVariables false
set_option linter.unusedSimpArgs false

def digP (d : List UInt8) (i : Nat) : Nat := if i % 2 = 0 then (d.getD (i / 2) 0).toNat / 16 else (d.getD (i / 2) 0).toNat % 16

theorem digit_ok (d : List UInt8) (hd : d.length = 32) (i : Nat) (h1 : i < 64) (w : World) :
    CallK Tryz.prog 98 [.agg (vbs d).toArray, .int .i64 i].toArray w fun v w' => v = .int .i64 (digP d i) ∧ Ext w w' := by
  refine enterT Tryz.func98 rfl Tryz.ntmps98 Tryz.results98 rfl (by decide) ?_
  simp only [↓VD, VP, VT, isAggD, reduceCtorEq, Int.reduceEq, Int.reduceNe, Int.reduceLT, Int.reduceLE, implies_true, Nat.reduceEqDiff, reduceIte, ite_true, ite_false, eq_self, Nat.reduceLT, Nat.reduceLeDiff, Nat.reduceAdd, Nat.reduceMul, Nat.reduceSub, intOf]
  simp (disch := omega) only [IntWalk.i64_quo, IntWalk.rem_in, IntWalk.i64_in, IntWalk.u8_in, IntWalk.u16_in, IntWalk.u32_in, IntWalk.u64_in, IntWalk.u8_quo, IntWalk.u64_quo]
  intro w' hN
  refine ⟨by omega, by omega, ldB Tryz.underlying5 hN.blk (by omega) ?_⟩
  have e : ((i : Int) / 2).toNat = i / 2 := by omega
  rw [e]
  have hb := UInt8.toNat_lt (d.getD (i / 2) 0)
  simp only [↓VD, VP, VT, isAggD, reduceCtorEq, Int.reduceEq, Int.reduceNe, Int.reduceLT, Int.reduceLE, implies_true, Nat.reduceEqDiff, reduceIte, ite_true, ite_false, eq_self, Nat.reduceLT, Nat.reduceLeDiff, Nat.reduceAdd, Nat.reduceMul, Nat.reduceSub, intOf]
  simp (disch := omega) only [IntWalk.i64_quo, IntWalk.rem_in, IntWalk.i64_in, IntWalk.u8_in, IntWalk.u16_in, IntWalk.u32_in, IntWalk.u64_in, IntWalk.u8_quo, IntWalk.u64_quo]
  generalize hx : (d.getD (i / 2) 0).toNat = x at *
  refine ⟨by omega, ?_, hN.ext⟩
  rcases Nat.mod_two_eq_zero_or_one i with h | h
  · have h2 : (i : Int) % 2 = 0 := by omega
    have h3 : ((4 : Int) - (i : Int) % 2 * 4).toNat = 4 := by omega
    rw [h3, shrI _ _ _ (by decide), and15 (by omega) (by omega), IntWalk.i64_in _ (by omega)]
    simp only [digP, h, if_true, hx, Value.int.injEq, true_and]
    omega
  · have h3 : ((4 : Int) - (i : Int) % 2 * 4).toNat = 0 := by omega
    rw [h3, shrI _ _ _ (by decide), and15 (by omega) (by omega), IntWalk.i64_in _ (by omega)]
    simp only [digP, h, hx]
    simp [hx]

/-- What 'check' answers. -/
def chkP (w : Int) (ds : List (List UInt8)) : Int := if w < 1 ∨ 32 < w then 1 else if ∀ d ∈ ds, ∀ b ∈ d.drop w.toNat, b = 0 then 0 else 3

theorem check_ok (n : Int) (v : Value) (ds : List (List UInt8)) (hd : ∀ d ∈ ds, d.length = 32) (w : World) (hv : SlC w v ds.length (ds.flatMap vbs)) :
    CallK Tryz.prog 80 [.int .i64 n, v].toArray w fun v w' => v = .int .i64 (chkP n ds) ∧ Ext w w' := by
  obtain ⟨a, c, rfl, hnc, hcm, hc⟩ := hv
  refine enterT Tryz.func80 rfl Tryz.ntmps80 Tryz.results80 rfl (by decide) ?_
  simp only [↓VD, VP, VT, isAggD, reduceCtorEq, Int.reduceEq, Int.reduceNe, Int.reduceLT, Int.reduceLE, implies_true, Nat.reduceEqDiff, reduceIte, ite_true, ite_false, eq_self, Nat.reduceLT, Nat.reduceLeDiff, Nat.reduceAdd, Nat.reduceMul, Nat.reduceSub, intOf]
  refine ⟨fun h => ⟨by simp [chkP, h], Ext.rfl' w⟩, fun h => ⟨fun h2 => ⟨by simp [chkP, h2], Ext.rfl' w⟩, fun h2 => ?_⟩⟩
  have hchk : chkP n ds = if ∀ d ∈ ds, ∀ b ∈ d.drop n.toNat, b = 0 then 0 else 3 := by unfold chkP; rw [if_neg (by omega)]
  refine loopT (fun s' w' => Ext w w' ∧ ∃ k : Nat, k ≤ ds.length ∧ s' 0 = .int .i64 n ∧ s' 15 = .slice a ds.length c ∧ s' 16 = .int .i64 ds.length ∧ s' 17 = .int .i64 k ∧ s' 4 = .int .i64 0 ∧
      ∀ d ∈ ds.take k, ∀ b ∈ d.drop n.toNat, b = 0) (fun s' _ => ds.length - (intOf (s' 17)).toNat) ?_ ?_
  · simp only [↓VD, VP, VT, isAggD, reduceCtorEq, Int.reduceEq, Int.reduceNe, Int.reduceLT, Int.reduceLE, implies_true, Nat.reduceEqDiff, reduceIte, ite_true, ite_false, eq_self, Nat.reduceLT, Nat.reduceLeDiff, Nat.reduceAdd, Nat.reduceMul, Nat.reduceSub, intOf]
    exact ⟨Ext.rfl' w, 0, by omega, rfl, by simp⟩
  · rintro s1 w1 ⟨hE, k, hk, h0, h15, h16, h17, h4, hz⟩
    simp only [↓VD, VP, VT, isAggD, reduceCtorEq, Int.reduceEq, Int.reduceNe, Int.reduceLT, Int.reduceLE, implies_true, Nat.reduceEqDiff, reduceIte, ite_true, ite_false, eq_self, Nat.reduceLT, Nat.reduceLeDiff, Nat.reduceAdd, Nat.reduceMul, Nat.reduceSub, intOf, h0, h15, h16, h17, h4]
    refine ⟨fun hlt => ?_, fun hge => ?_⟩
    · have hlt' : k < ds.length := by omega
      rcases hc with hc | ⟨b, o, rfl, hc⟩
      · have : ds = [] := by
          cases ds with
          | nil => rfl
          | cons d ds => have := hd d (by simp); simp at hc; simp [vbs] at hc; have h3 := hc.1; simp [h3] at this
        simp [this] at hlt'
      obtain ⟨x, hx⟩ : ∃ x, ds[k]? = some x := ⟨_, List.getElem?_eq_getElem hlt'⟩
      have hxl : x.length = 32 := hd x (List.mem_of_getElem? hx)
      have hc1 : ∀ j u, (ds.flatMap vbs)[j]? = some u → w1.cell? ⟨b, o + j, none⟩ = some u := fun j u hj => by rw [hE.cell (block_lt_of_cell (hc j u hj))]; exact hc j u hj
      simp only [↓VD, VP, VT, isAggD, reduceCtorEq, Int.reduceEq, Int.reduceNe, Int.reduceLT, Int.reduceLE, implies_true, Nat.reduceEqDiff, reduceIte, ite_true, ite_false, eq_self, Nat.reduceLT, Nat.reduceLeDiff, Nat.reduceAdd, Nat.reduceMul, Nat.reduceSub, intOf]
      refine ⟨by omega, by omega, ldE c28 Tryz.underlying28 rfl (fun d h => by rw [vbs_len]; exact hd d h) hc1 hx ?_⟩
      simp only [↓VD, VP, VT, isAggD, reduceCtorEq, Int.reduceEq, Int.reduceNe, Int.reduceLT, Int.reduceLE, implies_true, Nat.reduceEqDiff, reduceIte, ite_true, ite_false, eq_self, Nat.reduceLT, Nat.reduceLeDiff, Nat.reduceAdd, Nat.reduceMul, Nat.reduceSub, intOf]
      intro w2 hN
      refine stAll hN.blk rfl (by rw [c28]; omega) (by rw [c28, vbs_len, hxl]) (by rw [c28]; simp) (vbs_one x) (fun w3 hP => ?_)
      simp only [↓VD, VP, VT, isAggD, reduceCtorEq, Int.reduceEq, Int.reduceNe, Int.reduceLT, Int.reduceLE, implies_true, Nat.reduceEqDiff, reduceIte, ite_true, ite_false, eq_self, Nat.reduceLT, Nat.reduceLeDiff, Nat.reduceAdd, Nat.reduceMul, Nat.reduceSub, intOf, h0, h15, h16, h17, h4]
      refine ⟨by omega, by omega, fun o' ho' => ?_⟩
      have hE3 : Ext w w3 := hE.trans' (hN.ext.trans (hP.below (Nat.le_refl _)))
      have hB : Blk w3 w1.heap.size 28 (vbs x) := hP.blk
      refine loopT (fun s' w' => w' = w3 ∧ ∃ m : Nat, m ≤ 32 - n.toNat ∧ s' 0 = .int .i64 n ∧ s' 15 = .slice (some ⟨b, o, none⟩) ds.length c ∧ s' 16 = .int .i64 ds.length ∧ s' 17 = .int .i64 k ∧ s' 4 = .int .i64 0 ∧
        s' 22 = .slice (some ⟨w1.heap.size, o', none⟩) (32 - n.toNat) (32 - n.toNat) ∧ s' 23 = .int .i64 (32 - n.toNat : Nat) ∧ s' 24 = .int .i64 m ∧ ∀ b ∈ (x.drop n.toNat).take m, b = 0) (fun s' _ => 32 - (intOf (s' 24)).toNat) ?_ ?_
      · simp only [↓VD, VP, VT, isAggD, reduceCtorEq, Int.reduceEq, Int.reduceNe, Int.reduceLT, Int.reduceLE, implies_true, Nat.reduceEqDiff, reduceIte, ite_true, ite_false, eq_self, Nat.reduceLT, Nat.reduceLeDiff, Nat.reduceAdd, Nat.reduceMul, Nat.reduceSub, intOf]
        refine ⟨0, by omega, h0, h15, h16, h17, h4, ?_, by omega, rfl, by simp⟩
        rw [show (32 : Int) - n = ((32 - n.toNat : Nat) : Int) from by omega]
        rfl
      · rintro s2 w4 ⟨rfl, m, hm, g0, g15, g16, g17, g4, g22, g23, g24, gz⟩
        simp only [↓VD, VP, VT, isAggD, reduceCtorEq, Int.reduceEq, Int.reduceNe, Int.reduceLT, Int.reduceLE, implies_true, Nat.reduceEqDiff, reduceIte, ite_true, ite_false, eq_self, Nat.reduceLT, Nat.reduceLeDiff, Nat.reduceAdd, Nat.reduceMul, Nat.reduceSub, intOf, g0, g15, g16, g17, g4, g22, g23, g24]
        refine ⟨fun hlt2 => ?_, fun hge2 => ?_⟩
        · have e1 : o' = n.toNat := ho' (by omega)
          have hml : m < (x.drop n.toNat).length := by simp; omega
          have hxm : (x.drop n.toNat)[m]? = some (x.getD (n.toNat + m) 0) := by
            rw [List.getElem?_drop, List.getD_eq_getElem?_getD, List.getElem?_eq_getElem (by omega)]; rfl
          refine ⟨by omega, by omega, ldB Tryz.underlying5 hB (by omega) ?_⟩
          subst e1
          generalize x.getD (n.toNat + m) 0 = y at *
          simp only [↓VD, VP, VT, isAggD, reduceCtorEq, Int.reduceEq, Int.reduceNe, Int.reduceLT, Int.reduceLE, implies_true, Nat.reduceEqDiff, reduceIte, ite_true, ite_false, eq_self, Nat.reduceLT, Nat.reduceLeDiff, Nat.reduceAdd, Nat.reduceMul, Nat.reduceSub, intOf, g0, g15, g16, g17, g4, g22, g23, g24]
          have hy : (y.toNat : Int) = 0 ↔ y = 0 := by rw [← toNat_inj]; rfl
          refine ⟨fun h3 => ⟨?_, hE3⟩, fun h3 => ⟨⟨m + 1, by omega, ?_, ?_⟩, ?_⟩⟩
          · rw [hchk, if_neg]
            intro hall
            exact h3 (hy.2 (hall x (List.mem_of_getElem? hx) y (List.mem_of_getElem? hxm)))
          · rw [w64 (by omega) (by omega)]; rfl
          · exact (take_all_succ hxm).2 ⟨gz, hy.1 (by simpa using h3)⟩
          · rw [w64 (by omega) (by omega)]; omega
        · have e2 : m = 32 - n.toNat := by omega
          simp only [h17, intOf]
          refine ⟨⟨hE3, k + 1, by omega, ?_, ?_⟩, ?_⟩
          · rw [w64 (by omega) (by omega)]; rfl
          · refine (take_all_succ hx).2 ⟨hz, ?_⟩
            rwa [List.take_of_length_le (by simp; omega)] at gz
          · rw [w64 (by omega) (by omega)]; omega
    · refine ⟨?_, hE⟩
      rw [hchk, if_pos]
      rw [List.take_of_length_le (by omega)] at hz
      exact hz
def atP (n : Int) (d : List UInt8) (i : Int) : Int × Int := if n < 1 ∨ 32 < n ∨ i < 0 ∨ 2 * n ≤ i then (0, 1) else if chkP n [d] = 0 then (digP d i.toNat, 0) else (0, 3)

theorem At_ok (n : Int) (d : List UInt8) (hd : d.length = 32) (i : Int) (w : World) :
    CallK Tryz.prog 78 [.int .i64 n, .agg (vbs d).toArray, .int .i64 i].toArray w fun v w' => v = .tuple [.int .i64 (atP n d i).1, .int .i64 (atP n d i).2].toArray ∧ Ext w w' := by
  refine enterT Tryz.func78 rfl Tryz.ntmps78 Tryz.results78 rfl (by decide) ?_
  simp only [↓VD, VP, VT, isAggD, reduceCtorEq, Int.reduceEq, Int.reduceNe, Int.reduceLT, Int.reduceLE, implies_true, Nat.reduceEqDiff, reduceIte, ite_true, ite_false, eq_self, Nat.reduceLT, Nat.reduceLeDiff, Nat.reduceAdd, Nat.reduceMul, Nat.reduceSub, intOf]
  intro w1 hN
  refine ldA Tryz.underlying28 rfl hN.blk (by rw [vbs_len, hd, c28]) ?_
  simp only [↓VD, VP, VT, isAggD, reduceCtorEq, Int.reduceEq, Int.reduceNe, Int.reduceLT, Int.reduceLE, implies_true, Nat.reduceEqDiff, reduceIte, ite_true, ite_false, eq_self, Nat.reduceLT, Nat.reduceLeDiff, Nat.reduceAdd, Nat.reduceMul, Nat.reduceSub, intOf]
  refine ⟨by rw [vbs_len, hd], fun w2 hN2 => (check_ok n _ [d] (by simpa using hd) w2 ?_).mono ?_⟩
  · simpa using SlC.of_blk hN2.blk (by decide)
  rintro _ w3 ⟨rfl, hE⟩
  have hEx : Ext w w3 := hN.ext.trans' (hN2.ext.trans' hE)
  simp only [↓VD, VP, VT, isAggD, reduceCtorEq, Int.reduceEq, Int.reduceNe, Int.reduceLT, Int.reduceLE, implies_true, Nat.reduceEqDiff, reduceIte, ite_true, ite_false, eq_self, Nat.reduceLT, Nat.reduceLeDiff, Nat.reduceAdd, Nat.reduceMul, Nat.reduceSub, intOf]
  have hck : chkP n [d] = 0 ∨ chkP n [d] = 3 ∨ (chkP n [d] = 1 ∧ (n < 1 ∨ 32 < n)) := by
    unfold chkP; split
    · right; right; exact ⟨rfl, by assumption⟩
    · split <;> simp
  have hck2 : n < 1 ∨ 32 < n → chkP n [d] = 1 := fun h => by unfold chkP; rw [if_pos h]
  refine ⟨fun h => ⟨fun h2 => ?_, fun h2 => ⟨fun h3 => ?_, fun h3 => ?_⟩⟩, fun h => ?_⟩
  · have e : atP n d i = (0, 1) := by unfold atP; rw [if_pos (by omega)]
    rw [e]; exact ⟨rfl, hEx⟩
  · have e : atP n d i = (0, 1) := by unfold atP; rw [w64 (by omega) (by omega)] at h3; rw [if_pos (by omega)]
    rw [e]; exact ⟨rfl, hEx⟩
  · have hn : ¬ (n < 1 ∨ 32 < n) := fun h4 => h (hck2 h4)
    rw [w64 (by omega) (by omega)] at h3
    refine ⟨fun h4 => ?_, fun h4 => ?_⟩
    · have e : atP n d i = (0, 3) := by unfold atP; rw [if_neg (by omega), if_neg h4]
      have e3 : chkP n [d] = 3 := by omega
      rw [e, e3]; exact ⟨rfl, hEx⟩
    · have e : atP n d i = ((digP d i.toNat : Int), 0) := by unfold atP; rw [if_neg (by omega), if_pos h4]
      have hB : Blk w3 w.heap.size 28 (vbs d) := hN.blk.ext (hN2.ext.trans' hE)
      refine ldA Tryz.underlying28 rfl hB (by rw [vbs_len, hd, c28]) ?_
      simp only [↓VD, VP, VT, isAggD, reduceCtorEq, Int.reduceEq, Int.reduceNe, Int.reduceLT, Int.reduceLE, implies_true, Nat.reduceEqDiff, reduceIte, ite_true, ite_false, eq_self, Nat.reduceLT, Nat.reduceLeDiff, Nat.reduceAdd, Nat.reduceMul, Nat.reduceSub, intOf]
      rw [e]
      obtain ⟨j, rfl⟩ : ∃ j : Nat, i = j := ⟨i.toNat, by omega⟩
      refine (digit_ok d hd j (by omega) w3).mono ?_
      rintro _ w4 ⟨rfl, hE4⟩
      simp only [↓VD, VP, VT, isAggD, reduceCtorEq, Int.reduceEq, Int.reduceNe, Int.reduceLT, Int.reduceLE, implies_true, Nat.reduceEqDiff, reduceIte, ite_true, ite_false, eq_self, Nat.reduceLT, Nat.reduceLeDiff, Nat.reduceAdd, Nat.reduceMul, Nat.reduceSub, intOf]
      exact hEx.trans' hE4
  · have hn : n < 1 ∨ 32 < n := by omega
    have e : atP n d i = (0, 1) := by unfold atP; rw [if_pos (by omega)]
    rw [e, h]
    exact ⟨fun _ => ⟨rfl, hEx⟩, fun h => absurd h (by decide)⟩

/-! ### common, Common, Order -/
/-- How many digits are the same, up to m. -/
def comP (a b : List UInt8) : Nat → Nat
  | 0 => 0
  | m + 1 => if comP a b m < m then comP a b m else if digP a m = digP b m then m + 1 else m
theorem comP_le (a b : List UInt8) : ∀ m, comP a b m ≤ m
  | 0 => Nat.le_refl _
  | m + 1 => by have := comP_le a b m; unfold comP; split <;> (try split) <;> omega
theorem comP_same (a b : List UInt8) : ∀ m, (∀ j, j < m → digP a j = digP b j) → comP a b m = m
  | 0, _ => rfl
  | m + 1, h => by unfold comP; rw [comP_same a b m (fun j hj => h j (by omega)), if_neg (by omega), if_pos (h m (by omega))]
theorem comP_part (a b : List UInt8) (k : Nat) (h : ∀ j, j < k → digP a j = digP b j) (hn : digP a k ≠ digP b k) : ∀ m, k < m → comP a b m = k
  | 0, hm => by omega
  | m + 1, hm => by
    unfold comP
    by_cases e : k = m
    · subst e; rw [comP_same a b k h, if_neg (by omega), if_neg hn]
    · rw [comP_part a b k h hn m (by omega), if_pos (by omega)]

theorem common_ok (n : Nat) (hn : n ≤ 32) (a b : List UInt8) (ha : a.length = 32) (hb : b.length = 32) (w : World) :
    CallK Tryz.prog 81 [.int .i64 n, .agg (vbs a).toArray, .agg (vbs b).toArray].toArray w fun v w' => v = .int .i64 (comP a b (2 * n)) ∧ Ext w w' := by
  refine enterT Tryz.func81 rfl Tryz.ntmps81 Tryz.results81 rfl (by decide) ?_
  simp only [↓VD, VP, VT, isAggD, reduceCtorEq, Int.reduceEq, Int.reduceNe, Int.reduceLT, Int.reduceLE, implies_true, Nat.reduceEqDiff, reduceIte, ite_true, ite_false, eq_self, Nat.reduceLT, Nat.reduceLeDiff, Nat.reduceAdd, Nat.reduceMul, Nat.reduceSub, intOf]
  intro w1 hN1 w2 hN2
  refine loopT (fun s' w' => Ext w2 w' ∧ ∃ k : Nat, k ≤ 2 * n ∧ s' 0 = .int .i64 n ∧ s' 4 = .pointer (some ⟨w.heap.size, 0, none⟩) ∧ s' 5 = .pointer (some ⟨w1.heap.size, 0, none⟩) ∧ s' 6 = .int .i64 0 ∧
    s' 9 = .int .i64 (2 * n : Nat) ∧ s' 10 = .int .i64 k ∧ ∀ j, j < k → digP a j = digP b j) (fun s' _ => 2 * n - (intOf (s' 10)).toNat) ?_ ?_
  · simp only [↓VD, VP, VT, isAggD, reduceCtorEq, Int.reduceEq, Int.reduceNe, Int.reduceLT, Int.reduceLE, implies_true, Nat.reduceEqDiff, reduceIte, ite_true, ite_false, eq_self, Nat.reduceLT, Nat.reduceLeDiff, Nat.reduceAdd, Nat.reduceMul, Nat.reduceSub, intOf]
    rw [w64 (by omega) (by omega)]
    exact ⟨Ext.rfl' _, 0, by omega, by simp, rfl, by simp⟩
  · rintro s1 w3 ⟨hE, k, hk, h0, h4, h5, h6, h9, h10, hs⟩
    have hA : Blk w3 w.heap.size 28 (vbs a) := (hN2.keep hN1.blk).ext hE
    have hB : Blk w3 w1.heap.size 28 (vbs b) := hN2.blk.ext hE
    have hE0 : Ext w w3 := hN1.ext.trans' (hN2.ext.trans' hE)
    simp only [↓VD, VP, VT, isAggD, reduceCtorEq, Int.reduceEq, Int.reduceNe, Int.reduceLT, Int.reduceLE, implies_true, Nat.reduceEqDiff, reduceIte, ite_true, ite_false, eq_self, Nat.reduceLT, Nat.reduceLeDiff, Nat.reduceAdd, Nat.reduceMul, Nat.reduceSub, intOf, h0, h4, h5, h6, h9, h10]
    refine ⟨fun hlt => ?_, fun hge => ?_⟩
    · refine drawT mixed (by decide +kernel) ?_
      simp only [↓VD, VP, VT, isAggD, reduceCtorEq, Int.reduceEq, Int.reduceNe, Int.reduceLT, Int.reduceLE, implies_true, Nat.reduceEqDiff, reduceIte, ite_true, ite_false, eq_self, Nat.reduceLT, Nat.reduceLeDiff, Nat.reduceAdd, Nat.reduceMul, Nat.reduceSub, intOf, h0, h4, h5, h6, h9, h10]
      refine ldA Tryz.underlying28 rfl hA (by rw [vbs_len, ha, c28]) ?_
      simp only [↓VD, VP, VT, isAggD, reduceCtorEq, Int.reduceEq, Int.reduceNe, Int.reduceLT, Int.reduceLE, implies_true, Nat.reduceEqDiff, reduceIte, ite_true, ite_false, eq_self, Nat.reduceLT, Nat.reduceLeDiff, Nat.reduceAdd, Nat.reduceMul, Nat.reduceSub, intOf, h0, h4, h5, h6, h9, h10]
      refine qcall _ (fun w' _ => digit_ok a ha k (by omega) w') ?_
      simp only [↓VD, VP, VT, isAggD, reduceCtorEq, Int.reduceEq, Int.reduceNe, Int.reduceLT, Int.reduceLE, implies_true, Nat.reduceEqDiff, reduceIte, ite_true, ite_false, eq_self, Nat.reduceLT, Nat.reduceLeDiff, Nat.reduceAdd, Nat.reduceMul, Nat.reduceSub, intOf, h0, h4, h5, h6, h9, h10]
      refine ldA Tryz.underlying28 rfl hB (by rw [vbs_len, hb, c28]) ?_
      simp only [↓VD, VP, VT, isAggD, reduceCtorEq, Int.reduceEq, Int.reduceNe, Int.reduceLT, Int.reduceLE, implies_true, Nat.reduceEqDiff, reduceIte, ite_true, ite_false, eq_self, Nat.reduceLT, Nat.reduceLeDiff, Nat.reduceAdd, Nat.reduceMul, Nat.reduceSub, intOf, h0, h4, h5, h6, h9, h10]
      refine qcall _ (fun w' _ => digit_ok b hb k (by omega) w') ?_
      simp only [↓VD, VP, VT, isAggD, reduceCtorEq, Int.reduceEq, Int.reduceNe, Int.reduceLT, Int.reduceLE, implies_true, Nat.reduceEqDiff, reduceIte, ite_true, ite_false, eq_self, Nat.reduceLT, Nat.reduceLeDiff, Nat.reduceAdd, Nat.reduceMul, Nat.reduceSub, intOf, h0, h4, h5, h6, h9, h10]
      intro w4 hE4
      refine ⟨fun hne => ⟨?_, hE0.trans' hE4⟩, fun heq => ⟨⟨hE.trans' hE4, k + 1, by omega, ?_, ?_⟩, ?_⟩⟩
      · rw [comP_part a b k hs (by omega) _ (by omega)]
      · rw [w64 (by omega) (by omega)]; rfl
      · intro j hj
        by_cases e : j = k
        · subst e; omega
        · exact hs j (by omega)
      · rw [w64 (by omega) (by omega)]; omega
    · have e : k = 2 * n := by omega
      subst e
      refine ⟨?_, hE0⟩
      rw [w64 (by omega) (by omega), comP_same a b _ hs]; rfl

def comPP (n : Int) (a b : List UInt8) : Int × Int := if chkP n [a, b] = 0 then (comP a b (2 * n.toNat), 0) else (0, chkP n [a, b])
def ordP (n : Int) (a b : List UInt8) : Int × Int :=
  if chkP n [a, b] = 0 then (if comP a b (2 * n.toNat) = 2 * n.toNat then 0 else if digP a (comP a b (2 * n.toNat)) < digP b (comP a b (2 * n.toNat)) then -1 else 1, 0) else (0, chkP n [a, b])
theorem chk_ok {n : Int} {l : List (List UInt8)} (h : chkP n l = 0) : 1 ≤ n ∧ n ≤ 32 := by
  unfold chkP at h; split at h
  · omega
  · omega

theorem Common_ok (n : Int) (a b : List UInt8) (ha : a.length = 32) (hb : b.length = 32) (w : World) :
    CallK Tryz.prog 50 [.int .i64 n, .agg (vbs a).toArray, .agg (vbs b).toArray].toArray w fun v w' => v = .tuple [.int .i64 (comPP n a b).1, .int .i64 (comPP n a b).2].toArray ∧ Ext w w' := by
  refine enterT Tryz.func50 rfl Tryz.ntmps50 Tryz.results50 rfl (by decide) ?_
  simp only [↓VD, VP, VT, isAggD, reduceCtorEq, Int.reduceEq, Int.reduceNe, Int.reduceLT, Int.reduceLE, implies_true, Nat.reduceEqDiff, reduceIte, ite_true, ite_false, eq_self, Nat.reduceLT, Nat.reduceLeDiff, Nat.reduceAdd, Nat.reduceMul, Nat.reduceSub, intOf]
  intro w1 hN1 w2 hN2
  have hA : Blk w2 w.heap.size 28 (vbs a) := hN2.keep hN1.blk
  refine ldA Tryz.underlying28 rfl hA (by rw [vbs_len, ha, c28]) ?_
  simp only [↓VD, VP, VT, isAggD, reduceCtorEq, Int.reduceEq, Int.reduceNe, Int.reduceLT, Int.reduceLE, implies_true, Nat.reduceEqDiff, reduceIte, ite_true, ite_false, eq_self, Nat.reduceLT, Nat.reduceLeDiff, Nat.reduceAdd, Nat.reduceMul, Nat.reduceSub, intOf]
  refine ldA Tryz.underlying28 rfl hN2.blk (by rw [vbs_len, hb, c28]) ?_
  simp only [↓VD, VP, VT, isAggD, reduceCtorEq, Int.reduceEq, Int.reduceNe, Int.reduceLT, Int.reduceLE, implies_true, Nat.reduceEqDiff, reduceIte, ite_true, ite_false, eq_self, Nat.reduceLT, Nat.reduceLeDiff, Nat.reduceAdd, Nat.reduceMul, Nat.reduceSub, intOf]
  refine ⟨⟨by rw [vbs_len, ha], by rw [vbs_len, hb]⟩, fun w3 hN3 => (check_ok n _ [a, b] (by simp [ha, hb]) w3 ?_).mono ?_⟩
  · simpa using SlC.of_blk hN3.blk (n := 2) (by decide)
  rintro _ w4 ⟨rfl, hE⟩
  have hE4 : Ext w2 w4 := hN3.ext.trans' hE
  have hEx : Ext w w4 := hN1.ext.trans' (hN2.ext.trans' hE4)
  simp only [↓VD, VP, VT, isAggD, reduceCtorEq, Int.reduceEq, Int.reduceNe, Int.reduceLT, Int.reduceLE, implies_true, Nat.reduceEqDiff, reduceIte, ite_true, ite_false, eq_self, Nat.reduceLT, Nat.reduceLeDiff, Nat.reduceAdd, Nat.reduceMul, Nat.reduceSub, intOf]
  refine ⟨fun h => ?_, fun h => ?_⟩
  · have e : comPP n a b = (0, chkP n [a, b]) := by unfold comPP; rw [if_neg h]
    rw [e]; exact ⟨rfl, hEx⟩
  · have e : comPP n a b = ((comP a b (2 * n.toNat) : Int), 0) := by unfold comPP; rw [if_pos h]
    have hn := chk_ok h
    refine ldA Tryz.underlying28 rfl (hA.ext hE4) (by rw [vbs_len, ha, c28]) ?_
    simp only [↓VD, VP, VT, isAggD, reduceCtorEq, Int.reduceEq, Int.reduceNe, Int.reduceLT, Int.reduceLE, implies_true, Nat.reduceEqDiff, reduceIte, ite_true, ite_false, eq_self, Nat.reduceLT, Nat.reduceLeDiff, Nat.reduceAdd, Nat.reduceMul, Nat.reduceSub, intOf]
    refine ldA Tryz.underlying28 rfl (hN2.blk.ext hE4) (by rw [vbs_len, hb, c28]) ?_
    simp only [↓VD, VP, VT, isAggD, reduceCtorEq, Int.reduceEq, Int.reduceNe, Int.reduceLT, Int.reduceLE, implies_true, Nat.reduceEqDiff, reduceIte, ite_true, ite_false, eq_self, Nat.reduceLT, Nat.reduceLeDiff, Nat.reduceAdd, Nat.reduceMul, Nat.reduceSub, intOf]
    obtain ⟨j, rfl⟩ : ∃ j : Nat, n = j := ⟨n.toNat, by omega⟩
    refine (common_ok j (by omega) a b ha hb w4).mono ?_
    rintro _ w5 ⟨rfl, hE5⟩
    simp only [↓VD, VP, VT, isAggD, reduceCtorEq, Int.reduceEq, Int.reduceNe, Int.reduceLT, Int.reduceLE, implies_true, Nat.reduceEqDiff, reduceIte, ite_true, ite_false, eq_self, Nat.reduceLT, Nat.reduceLeDiff, Nat.reduceAdd, Nat.reduceMul, Nat.reduceSub, intOf]
    rw [e]
    exact ⟨rfl, hEx.trans' hE5⟩

end Go.Proofs.YticfalbgplifoaaGreatDoor
