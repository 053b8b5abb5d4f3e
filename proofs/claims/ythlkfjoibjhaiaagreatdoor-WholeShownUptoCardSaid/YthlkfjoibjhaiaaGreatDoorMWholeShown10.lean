/-
  More of the reference's digests: notaryref03.Key, NoMap, Branch; notaryref01.Wide. Conditions: as stated in each theorem. Walks of layer 13 (nibble). Conditions: as stated in each theorem. Walks of layer 13's reference on digests (notaryref13: Digits, check, DocAt, DocCommon, DocOrder) and of notaryref03's Width and DocForm. Conditions: as stated in each theorem. Bytes, digests and pairs, plainly; the reference's key digest. Conditions: as stated in each theorem. Items of a map and their order, in plain Lean: no program in sight. Conditions: as stated in each theorem. Walks of layer 13's reference (notaryref13) and of notaryref03's forms. Conditions: as stated in each theorem. The tree of a map's items, in plain Lean: bitmaps of children, digests of nodes. Conditions: as stated in each theorem. Composite literals of structs some of whose parts are arrays. Conditions: none; plain lemmas. Package hamt: how a map lies in memory; sum, count, New, Width, Len, Root, digit, pour, twin, check. Conditions: as stated in each theorem. Package hamt: slices.Compare, find. Conditions: as stated in each theorem. slices.Clone and slices.Insert of digests. Conditions: as stated in each theorem. Slices that lie in blocks of their own: what stays of them, where one block changes. Conditions: as stated in each theorem. slices.Clone and slices.Insert of pairs and of nodes. Conditions: as stated in each theorem. Written by wip/genslc.py out of the texts for digests. Package hamt: twin, check, copies. Conditions: as stated in each theorem. Package hamt: Get. Conditions: as stated in each theorem. More of items: sorted lists with the same members; where find finds. Conditions: as stated in each theorem. slices.Backward: its iterator's contract; a range over a function in the calculus. Conditions: as stated in each theorem. Package hamt: Walk. Conditions: as stated in each theorem. Package hamt: fork. Conditions: as stated in each theorem.
-/
import Derived.Test.YthlkfjoibjhaiaaGreatDoorMWholeShown8
import Derived.Test.YthlkfjoibjhaiaaGreatDoorMWholeShown9
import Derived.Test.YthlkfjoibjhaiaaGreatDoorMWholeShown7
import Derived.Lib.Bytealg
import Derived.Lib.AppendZerosOnto
import Derived.Lib.Overlaps
import Derived.RangeFuncNested
import Derived.RangeFuncLeaves
/-! RefE -/
namespace Go.Proofs.YthlkfjoibjhaiaaGreatDoor
set_option maxRecDepth 100000
set_option maxHeartbeats 2000000
open Go Go.RowKit
set_option linter.unusedVariables false
set_option linter.unusedSimpArgs false
attribute [local irreducible] vcT opsT qT vcOp Q1 vcPure vcLoad vcStore ldC ldN ldD grdT grdQ vc vcOps vcQ hT

theorem DigsAt.up {w w' : World} {v : Value} {ds : List (List UInt8)} (h : DigsAt w v ds) (e : Ext w w') : DigsAt w' v ds := ⟨h.1, h.2.ext e⟩
end Go.Proofs.YthlkfjoibjhaiaaGreatDoor

/-! Nib -/
namespace Go.Proofs.YthlkfjoibjhaiaaGreatDoor
set_option maxRecDepth 100000
set_option maxHeartbeats 2000000
open Go Go.RowKit
set_option linter.unusedVariables false
set_option linter.unusedSimpArgs false

def digP (d : List UInt8) (i : Nat) : Nat := if i % 2 = 0 then (d.getD (i / 2) 0).toNat / 16 else (d.getD (i / 2) 0).toNat % 16

theorem digit_ok (d : List UInt8) (hd : d.length = 32) (i : Nat) (h1 : i < 64) (w : World) :
    CallK Tryz.prog 242 [.agg (vbs d).toArray, .int .i64 i].toArray w fun v w' => v = .int .i64 (digP d i) ∧ Ext w w' := by
  refine enterT Tryz.func242 rfl Tryz.ntmps242 Tryz.results242 rfl (by decide) ?_
  simp only [↓VD, VP, VT, isAggD, reduceCtorEq, Int.reduceEq, Int.reduceNe, Int.reduceLT, Int.reduceLE, implies_true, Nat.reduceEqDiff, reduceIte, ite_true, ite_false, eq_self, Nat.reduceLT, Nat.reduceLeDiff, Nat.reduceAdd, Nat.reduceMul, Nat.reduceSub, intOf]
  simp (disch := omega) only [IntWalk.i64_quo, IntWalk.rem_in, IntWalk.i64_in, IntWalk.u8_in, IntWalk.u16_in, IntWalk.u32_in, IntWalk.u64_in, IntWalk.u8_quo, IntWalk.u64_quo]
  intro w' hN
  refine ⟨by omega, by omega, ldB Tryz.underlying5 hN.blk (by omega) ?_⟩
  have e : ((i : Int) / 2).toNat = i / 2 := by omega
  rw [e]
  have hb := UInt8.toNat_lt (d.getD (i / 2) 0)
  simp only [↓VD, VP, VT, isAggD, reduceCtorEq, Int.reduceEq, Int.reduceNe, Int.reduceLT, Int.reduceLE, implies_true, Nat.reduceEqDiff, reduceIte, ite_true, ite_false, eq_self, Nat.reduceLT, Nat.reduceLeDiff, Nat.reduceAdd, Nat.reduceMul, Nat.reduceSub, intOf]
  simp (disch := omega) only [IntWalk.i64_quo, IntWalk.rem_in, IntWalk.i64_in, IntWalk.u8_in, IntWalk.u16_in, IntWalk.u32_in, IntWalk.u64_in, IntWalk.u8_quo, IntWalk.u64_quo]
  generalize hx : (d.getD (i / 2) 0).toNat = x at *
  refine ⟨by omega, ?_, hN.ext⟩
  rcases Nat.mod_two_eq_zero_or_one i with h | h
  · have h2 : (i : Int) % 2 = 0 := by omega
    have h3 : ((4 : Int) - (i : Int) % 2 * 4).toNat = 4 := by omega
    rw [h3, shrI _ _ _ (by decide), and15 (by omega) (by omega), IntWalk.i64_in _ (by omega)]
    simp only [digP, h, if_true, hx, Value.int.injEq, true_and]
    omega
  · have h3 : ((4 : Int) - (i : Int) % 2 * 4).toNat = 0 := by omega
    rw [h3, shrI _ _ _ (by decide), and15 (by omega) (by omega), IntWalk.i64_in _ (by omega)]
    simp only [digP, h, hx]
    simp [hx]

/-- What 'check' answers. -/
def chkP (w : Int) (ds : List (List UInt8)) : Int := if w < 1 ∨ 32 < w then 1 else if ∀ d ∈ ds, ∀ b ∈ d.drop w.toNat, b = 0 then 0 else 3

theorem check_ok (n : Int) (v : Value) (ds : List (List UInt8)) (hd : ∀ d ∈ ds, d.length = 32) (w : World) (hv : SlC w v ds.length (ds.flatMap vbs)) :
    CallK Tryz.prog 241 [.int .i64 n, v].toArray w fun v w' => v = .int .i64 (chkP n ds) ∧ Ext w w' := by
  obtain ⟨a, c, rfl, hnc, hcm, hc⟩ := hv
  refine enterT Tryz.func241 rfl Tryz.ntmps241 Tryz.results241 rfl (by decide) ?_
  simp only [↓VD, VP, VT, isAggD, reduceCtorEq, Int.reduceEq, Int.reduceNe, Int.reduceLT, Int.reduceLE, implies_true, Nat.reduceEqDiff, reduceIte, ite_true, ite_false, eq_self, Nat.reduceLT, Nat.reduceLeDiff, Nat.reduceAdd, Nat.reduceMul, Nat.reduceSub, intOf]
  refine ⟨fun h => ⟨by simp [chkP, h], Ext.rfl' w⟩, fun h => ⟨fun h2 => ⟨by simp [chkP, h2], Ext.rfl' w⟩, fun h2 => ?_⟩⟩
  have hchk : chkP n ds = if ∀ d ∈ ds, ∀ b ∈ d.drop n.toNat, b = 0 then 0 else 3 := by unfold chkP; rw [if_neg (by omega)]
  refine loopT (fun s' w' => Ext w w' ∧ ∃ k : Nat, k ≤ ds.length ∧ s' 0 = .int .i64 n ∧ s' 15 = .slice a ds.length c ∧ s' 16 = .int .i64 ds.length ∧ s' 17 = .int .i64 k ∧ s' 4 = .int .i64 0 ∧
      ∀ d ∈ ds.take k, ∀ b ∈ d.drop n.toNat, b = 0) (fun s' _ => ds.length - (intOf (s' 17)).toNat) ?_ ?_
  · simp only [↓VD, VP, VT, isAggD, reduceCtorEq, Int.reduceEq, Int.reduceNe, Int.reduceLT, Int.reduceLE, implies_true, Nat.reduceEqDiff, reduceIte, ite_true, ite_false, eq_self, Nat.reduceLT, Nat.reduceLeDiff, Nat.reduceAdd, Nat.reduceMul, Nat.reduceSub, intOf]
    exact ⟨Ext.rfl' w, 0, by omega, rfl, by simp⟩
  · rintro s1 w1 ⟨hE, k, hk, h0, h15, h16, h17, h4, hz⟩
    simp only [↓VD, VP, VT, isAggD, reduceCtorEq, Int.reduceEq, Int.reduceNe, Int.reduceLT, Int.reduceLE, implies_true, Nat.reduceEqDiff, reduceIte, ite_true, ite_false, eq_self, Nat.reduceLT, Nat.reduceLeDiff, Nat.reduceAdd, Nat.reduceMul, Nat.reduceSub, intOf, h0, h15, h16, h17, h4]
    refine ⟨fun hlt => ?_, fun hge => ?_⟩
    · have hlt' : k < ds.length := by omega
      rcases hc with hc | ⟨b, o, rfl, hc⟩
      · have : ds = [] := by
          cases ds with
          | nil => rfl
          | cons d ds => have := hd d (by simp); simp at hc; simp [vbs] at hc; have h3 := hc.1; simp [h3] at this
        simp [this] at hlt'
      obtain ⟨x, hx⟩ : ∃ x, ds[k]? = some x := ⟨_, List.getElem?_eq_getElem hlt'⟩
      have hxl : x.length = 32 := hd x (List.mem_of_getElem? hx)
      have hc1 : ∀ j u, (ds.flatMap vbs)[j]? = some u → w1.cell? ⟨b, o + j, none⟩ = some u := fun j u hj => by rw [hE.cell (block_lt_of_cell (hc j u hj))]; exact hc j u hj
      simp only [↓VD, VP, VT, isAggD, reduceCtorEq, Int.reduceEq, Int.reduceNe, Int.reduceLT, Int.reduceLE, implies_true, Nat.reduceEqDiff, reduceIte, ite_true, ite_false, eq_self, Nat.reduceLT, Nat.reduceLeDiff, Nat.reduceAdd, Nat.reduceMul, Nat.reduceSub, intOf]
      refine ⟨by omega, by omega, ldE c28 Tryz.underlying28 rfl (fun d h => by rw [vbs_len]; exact hd d h) hc1 hx ?_⟩
      simp only [↓VD, VP, VT, isAggD, reduceCtorEq, Int.reduceEq, Int.reduceNe, Int.reduceLT, Int.reduceLE, implies_true, Nat.reduceEqDiff, reduceIte, ite_true, ite_false, eq_self, Nat.reduceLT, Nat.reduceLeDiff, Nat.reduceAdd, Nat.reduceMul, Nat.reduceSub, intOf]
      intro w2 hN
      refine stAll hN.blk rfl (by rw [c28]; omega) (by rw [c28, vbs_len, hxl]) (by rw [c28]; simp) (vbs_one x) (fun w3 hP => ?_)
      simp only [↓VD, VP, VT, isAggD, reduceCtorEq, Int.reduceEq, Int.reduceNe, Int.reduceLT, Int.reduceLE, implies_true, Nat.reduceEqDiff, reduceIte, ite_true, ite_false, eq_self, Nat.reduceLT, Nat.reduceLeDiff, Nat.reduceAdd, Nat.reduceMul, Nat.reduceSub, intOf, h0, h15, h16, h17, h4]
      refine ⟨by omega, by omega, fun o' ho' => ?_⟩
      have hE3 : Ext w w3 := hE.trans' (hN.ext.trans (hP.below (Nat.le_refl _)))
      have hB : Blk w3 w1.heap.size 28 (vbs x) := hP.blk
      refine loopT (fun s' w' => w' = w3 ∧ ∃ m : Nat, m ≤ 32 - n.toNat ∧ s' 0 = .int .i64 n ∧ s' 15 = .slice (some ⟨b, o, none⟩) ds.length c ∧ s' 16 = .int .i64 ds.length ∧ s' 17 = .int .i64 k ∧ s' 4 = .int .i64 0 ∧
        s' 22 = .slice (some ⟨w1.heap.size, o', none⟩) (32 - n.toNat) (32 - n.toNat) ∧ s' 23 = .int .i64 (32 - n.toNat : Nat) ∧ s' 24 = .int .i64 m ∧ ∀ b ∈ (x.drop n.toNat).take m, b = 0) (fun s' _ => 32 - (intOf (s' 24)).toNat) ?_ ?_
      · simp only [↓VD, VP, VT, isAggD, reduceCtorEq, Int.reduceEq, Int.reduceNe, Int.reduceLT, Int.reduceLE, implies_true, Nat.reduceEqDiff, reduceIte, ite_true, ite_false, eq_self, Nat.reduceLT, Nat.reduceLeDiff, Nat.reduceAdd, Nat.reduceMul, Nat.reduceSub, intOf]
        refine ⟨0, by omega, h0, h15, h16, h17, h4, ?_, by omega, rfl, by simp⟩
        rw [show (32 : Int) - n = ((32 - n.toNat : Nat) : Int) from by omega]
        rfl
      · rintro s2 w4 ⟨rfl, m, hm, g0, g15, g16, g17, g4, g22, g23, g24, gz⟩
        simp only [↓VD, VP, VT, isAggD, reduceCtorEq, Int.reduceEq, Int.reduceNe, Int.reduceLT, Int.reduceLE, implies_true, Nat.reduceEqDiff, reduceIte, ite_true, ite_false, eq_self, Nat.reduceLT, Nat.reduceLeDiff, Nat.reduceAdd, Nat.reduceMul, Nat.reduceSub, intOf, g0, g15, g16, g17, g4, g22, g23, g24]
        refine ⟨fun hlt2 => ?_, fun hge2 => ?_⟩
        · have e1 : o' = n.toNat := ho' (by omega)
          have hml : m < (x.drop n.toNat).length := by simp; omega
          have hxm : (x.drop n.toNat)[m]? = some (x.getD (n.toNat + m) 0) := by
            rw [List.getElem?_drop, List.getD_eq_getElem?_getD, List.getElem?_eq_getElem (by omega)]; rfl
          refine ⟨by omega, by omega, ldB Tryz.underlying5 hB (by omega) ?_⟩
          subst e1
          generalize x.getD (n.toNat + m) 0 = y at *
          simp only [↓VD, VP, VT, isAggD, reduceCtorEq, Int.reduceEq, Int.reduceNe, Int.reduceLT, Int.reduceLE, implies_true, Nat.reduceEqDiff, reduceIte, ite_true, ite_false, eq_self, Nat.reduceLT, Nat.reduceLeDiff, Nat.reduceAdd, Nat.reduceMul, Nat.reduceSub, intOf, g0, g15, g16, g17, g4, g22, g23, g24]
          have hy : (y.toNat : Int) = 0 ↔ y = 0 := by rw [← toNat_inj]; rfl
          refine ⟨fun h3 => ⟨?_, hE3⟩, fun h3 => ⟨⟨m + 1, by omega, ?_, ?_⟩, ?_⟩⟩
          · rw [hchk, if_neg]
            intro hall
            exact h3 (hy.2 (hall x (List.mem_of_getElem? hx) y (List.mem_of_getElem? hxm)))
          · rw [w64 (by omega) (by omega)]; rfl
          · exact (take_all_succ hxm).2 ⟨gz, hy.1 (by simpa using h3)⟩
          · rw [w64 (by omega) (by omega)]; omega
        · have e2 : m = 32 - n.toNat := by omega
          simp only [h17, intOf]
          refine ⟨⟨hE3, k + 1, by omega, ?_, ?_⟩, ?_⟩
          · rw [w64 (by omega) (by omega)]; rfl
          · refine (take_all_succ hx).2 ⟨hz, ?_⟩
            rwa [List.take_of_length_le (by simp; omega)] at gz
          · rw [w64 (by omega) (by omega)]; omega
    · refine ⟨?_, hE⟩
      rw [hchk, if_pos]
      rw [List.take_of_length_le (by omega)] at hz
      exact hz
def atP (n : Int) (d : List UInt8) (i : Int) : Int × Int := if n < 1 ∨ 32 < n ∨ i < 0 ∨ 2 * n ≤ i then (0, 1) else if chkP n [d] = 0 then (digP d i.toNat, 0) else (0, 3)

theorem At_ok (n : Int) (d : List UInt8) (hd : d.length = 32) (i : Int) (w : World) :
    CallK Tryz.prog 123 [.int .i64 n, .agg (vbs d).toArray, .int .i64 i].toArray w fun v w' => v = .tuple [.int .i64 (atP n d i).1, .int .i64 (atP n d i).2].toArray ∧ Ext w w' := by
  refine enterT Tryz.func123 rfl Tryz.ntmps123 Tryz.results123 rfl (by decide) ?_
  simp only [↓VD, VP, VT, isAggD, reduceCtorEq, Int.reduceEq, Int.reduceNe, Int.reduceLT, Int.reduceLE, implies_true, Nat.reduceEqDiff, reduceIte, ite_true, ite_false, eq_self, Nat.reduceLT, Nat.reduceLeDiff, Nat.reduceAdd, Nat.reduceMul, Nat.reduceSub, intOf]
  intro w1 hN
  refine ldA Tryz.underlying28 rfl hN.blk (by rw [vbs_len, hd, c28]) ?_
  simp only [↓VD, VP, VT, isAggD, reduceCtorEq, Int.reduceEq, Int.reduceNe, Int.reduceLT, Int.reduceLE, implies_true, Nat.reduceEqDiff, reduceIte, ite_true, ite_false, eq_self, Nat.reduceLT, Nat.reduceLeDiff, Nat.reduceAdd, Nat.reduceMul, Nat.reduceSub, intOf]
  refine ⟨by rw [vbs_len, hd], fun w2 hN2 => (check_ok n _ [d] (by simpa using hd) w2 ?_).mono ?_⟩
  · simpa using SlC.of_blk hN2.blk (by decide)
  rintro _ w3 ⟨rfl, hE⟩
  have hEx : Ext w w3 := hN.ext.trans' (hN2.ext.trans' hE)
  simp only [↓VD, VP, VT, isAggD, reduceCtorEq, Int.reduceEq, Int.reduceNe, Int.reduceLT, Int.reduceLE, implies_true, Nat.reduceEqDiff, reduceIte, ite_true, ite_false, eq_self, Nat.reduceLT, Nat.reduceLeDiff, Nat.reduceAdd, Nat.reduceMul, Nat.reduceSub, intOf]
  have hck : chkP n [d] = 0 ∨ chkP n [d] = 3 ∨ (chkP n [d] = 1 ∧ (n < 1 ∨ 32 < n)) := by
    unfold chkP; split
    · right; right; exact ⟨rfl, by assumption⟩
    · split <;> simp
  have hck2 : n < 1 ∨ 32 < n → chkP n [d] = 1 := fun h => by unfold chkP; rw [if_pos h]
  refine ⟨fun h => ⟨fun h2 => ?_, fun h2 => ⟨fun h3 => ?_, fun h3 => ?_⟩⟩, fun h => ?_⟩
  · have e : atP n d i = (0, 1) := by unfold atP; rw [if_pos (by omega)]
    rw [e]; exact ⟨rfl, hEx⟩
  · have e : atP n d i = (0, 1) := by unfold atP; rw [w64 (by omega) (by omega)] at h3; rw [if_pos (by omega)]
    rw [e]; exact ⟨rfl, hEx⟩
  · have hn : ¬ (n < 1 ∨ 32 < n) := fun h4 => h (hck2 h4)
    rw [w64 (by omega) (by omega)] at h3
    refine ⟨fun h4 => ?_, fun h4 => ?_⟩
    · have e : atP n d i = (0, 3) := by unfold atP; rw [if_neg (by omega), if_neg h4]
      have e3 : chkP n [d] = 3 := by omega
      rw [e, e3]; exact ⟨rfl, hEx⟩
    · have e : atP n d i = ((digP d i.toNat : Int), 0) := by unfold atP; rw [if_neg (by omega), if_pos h4]
      have hB : Blk w3 w.heap.size 28 (vbs d) := hN.blk.ext (hN2.ext.trans' hE)
      refine ldA Tryz.underlying28 rfl hB (by rw [vbs_len, hd, c28]) ?_
      simp only [↓VD, VP, VT, isAggD, reduceCtorEq, Int.reduceEq, Int.reduceNe, Int.reduceLT, Int.reduceLE, implies_true, Nat.reduceEqDiff, reduceIte, ite_true, ite_false, eq_self, Nat.reduceLT, Nat.reduceLeDiff, Nat.reduceAdd, Nat.reduceMul, Nat.reduceSub, intOf]
      rw [e]
      obtain ⟨j, rfl⟩ : ∃ j : Nat, i = j := ⟨i.toNat, by omega⟩
      refine (digit_ok d hd j (by omega) w3).mono ?_
      rintro _ w4 ⟨rfl, hE4⟩
      simp only [↓VD, VP, VT, isAggD, reduceCtorEq, Int.reduceEq, Int.reduceNe, Int.reduceLT, Int.reduceLE, implies_true, Nat.reduceEqDiff, reduceIte, ite_true, ite_false, eq_self, Nat.reduceLT, Nat.reduceLeDiff, Nat.reduceAdd, Nat.reduceMul, Nat.reduceSub, intOf]
      exact hEx.trans' hE4
  · have hn : n < 1 ∨ 32 < n := by omega
    have e : atP n d i = (0, 1) := by unfold atP; rw [if_pos (by omega)]
    rw [e, h]
    exact ⟨fun _ => ⟨rfl, hEx⟩, fun h => absurd h (by decide)⟩

/-! ### common, Common, Order -/
/-- How many digits are the same, up to m. -/
def comP (a b : List UInt8) : Nat → Nat
  | 0 => 0
  | m + 1 => if comP a b m < m then comP a b m else if digP a m = digP b m then m + 1 else m
theorem comP_same (a b : List UInt8) : ∀ m, (∀ j, j < m → digP a j = digP b j) → comP a b m = m
  | 0, _ => rfl
  | m + 1, h => by unfold comP; rw [comP_same a b m (fun j hj => h j (by omega)), if_neg (by omega), if_pos (h m (by omega))]
theorem comP_part (a b : List UInt8) (k : Nat) (h : ∀ j, j < k → digP a j = digP b j) (hn : digP a k ≠ digP b k) : ∀ m, k < m → comP a b m = k
  | 0, hm => by omega
  | m + 1, hm => by
    unfold comP
    by_cases e : k = m
    · subst e; rw [comP_same a b k h, if_neg (by omega), if_neg hn]
    · rw [comP_part a b k h hn m (by omega), if_pos (by omega)]

theorem common_ok (n : Nat) (hn : n ≤ 32) (a b : List UInt8) (ha : a.length = 32) (hb : b.length = 32) (w : World) :
    CallK Tryz.prog 320 [.int .i64 n, .agg (vbs a).toArray, .agg (vbs b).toArray].toArray w fun v w' => v = .int .i64 (comP a b (2 * n)) ∧ Ext w w' := by
  refine enterT Tryz.func320 rfl Tryz.ntmps320 Tryz.results320 rfl (by decide) ?_
  simp only [↓VD, VP, VT, isAggD, reduceCtorEq, Int.reduceEq, Int.reduceNe, Int.reduceLT, Int.reduceLE, implies_true, Nat.reduceEqDiff, reduceIte, ite_true, ite_false, eq_self, Nat.reduceLT, Nat.reduceLeDiff, Nat.reduceAdd, Nat.reduceMul, Nat.reduceSub, intOf]
  intro w1 hN1 w2 hN2
  refine loopT (fun s' w' => Ext w2 w' ∧ ∃ k : Nat, k ≤ 2 * n ∧ s' 0 = .int .i64 n ∧ s' 4 = .pointer (some ⟨w.heap.size, 0, none⟩) ∧ s' 5 = .pointer (some ⟨w1.heap.size, 0, none⟩) ∧ s' 6 = .int .i64 0 ∧
    s' 9 = .int .i64 (2 * n : Nat) ∧ s' 10 = .int .i64 k ∧ ∀ j, j < k → digP a j = digP b j) (fun s' _ => 2 * n - (intOf (s' 10)).toNat) ?_ ?_
  · simp only [↓VD, VP, VT, isAggD, reduceCtorEq, Int.reduceEq, Int.reduceNe, Int.reduceLT, Int.reduceLE, implies_true, Nat.reduceEqDiff, reduceIte, ite_true, ite_false, eq_self, Nat.reduceLT, Nat.reduceLeDiff, Nat.reduceAdd, Nat.reduceMul, Nat.reduceSub, intOf]
    rw [w64 (by omega) (by omega)]
    exact ⟨Ext.rfl' _, 0, by omega, by simp, rfl, by simp⟩
  · rintro s1 w3 ⟨hE, k, hk, h0, h4, h5, h6, h9, h10, hs⟩
    have hA : Blk w3 w.heap.size 28 (vbs a) := (hN2.keep hN1.blk).ext hE
    have hB : Blk w3 w1.heap.size 28 (vbs b) := hN2.blk.ext hE
    have hE0 : Ext w w3 := hN1.ext.trans' (hN2.ext.trans' hE)
    simp only [↓VD, VP, VT, isAggD, reduceCtorEq, Int.reduceEq, Int.reduceNe, Int.reduceLT, Int.reduceLE, implies_true, Nat.reduceEqDiff, reduceIte, ite_true, ite_false, eq_self, Nat.reduceLT, Nat.reduceLeDiff, Nat.reduceAdd, Nat.reduceMul, Nat.reduceSub, intOf, h0, h4, h5, h6, h9, h10]
    refine ⟨fun hlt => ?_, fun hge => ?_⟩
    · refine drawT mixed (by decide +kernel) ?_
      simp only [↓VD, VP, VT, isAggD, reduceCtorEq, Int.reduceEq, Int.reduceNe, Int.reduceLT, Int.reduceLE, implies_true, Nat.reduceEqDiff, reduceIte, ite_true, ite_false, eq_self, Nat.reduceLT, Nat.reduceLeDiff, Nat.reduceAdd, Nat.reduceMul, Nat.reduceSub, intOf, h0, h4, h5, h6, h9, h10]
      refine ldA Tryz.underlying28 rfl hA (by rw [vbs_len, ha, c28]) ?_
      simp only [↓VD, VP, VT, isAggD, reduceCtorEq, Int.reduceEq, Int.reduceNe, Int.reduceLT, Int.reduceLE, implies_true, Nat.reduceEqDiff, reduceIte, ite_true, ite_false, eq_self, Nat.reduceLT, Nat.reduceLeDiff, Nat.reduceAdd, Nat.reduceMul, Nat.reduceSub, intOf, h0, h4, h5, h6, h9, h10]
      refine qcall _ (fun w' _ => digit_ok a ha k (by omega) w') ?_
      simp only [↓VD, VP, VT, isAggD, reduceCtorEq, Int.reduceEq, Int.reduceNe, Int.reduceLT, Int.reduceLE, implies_true, Nat.reduceEqDiff, reduceIte, ite_true, ite_false, eq_self, Nat.reduceLT, Nat.reduceLeDiff, Nat.reduceAdd, Nat.reduceMul, Nat.reduceSub, intOf, h0, h4, h5, h6, h9, h10]
      refine ldA Tryz.underlying28 rfl hB (by rw [vbs_len, hb, c28]) ?_
      simp only [↓VD, VP, VT, isAggD, reduceCtorEq, Int.reduceEq, Int.reduceNe, Int.reduceLT, Int.reduceLE, implies_true, Nat.reduceEqDiff, reduceIte, ite_true, ite_false, eq_self, Nat.reduceLT, Nat.reduceLeDiff, Nat.reduceAdd, Nat.reduceMul, Nat.reduceSub, intOf, h0, h4, h5, h6, h9, h10]
      refine qcall _ (fun w' _ => digit_ok b hb k (by omega) w') ?_
      simp only [↓VD, VP, VT, isAggD, reduceCtorEq, Int.reduceEq, Int.reduceNe, Int.reduceLT, Int.reduceLE, implies_true, Nat.reduceEqDiff, reduceIte, ite_true, ite_false, eq_self, Nat.reduceLT, Nat.reduceLeDiff, Nat.reduceAdd, Nat.reduceMul, Nat.reduceSub, intOf, h0, h4, h5, h6, h9, h10]
      intro w4 hE4
      refine ⟨fun hne => ⟨?_, hE0.trans' hE4⟩, fun heq => ⟨⟨hE.trans' hE4, k + 1, by omega, ?_, ?_⟩, ?_⟩⟩
      · rw [comP_part a b k hs (by omega) _ (by omega)]
      · rw [w64 (by omega) (by omega)]; rfl
      · intro j hj
        by_cases e : j = k
        · subst e; omega
        · exact hs j (by omega)
      · rw [w64 (by omega) (by omega)]; omega
    · have e : k = 2 * n := by omega
      subst e
      refine ⟨?_, hE0⟩
      rw [w64 (by omega) (by omega), comP_same a b _ hs]; rfl

def comPP (n : Int) (a b : List UInt8) : Int × Int := if chkP n [a, b] = 0 then (comP a b (2 * n.toNat), 0) else (0, chkP n [a, b])
def ordP (n : Int) (a b : List UInt8) : Int × Int :=
  if chkP n [a, b] = 0 then (if comP a b (2 * n.toNat) = 2 * n.toNat then 0 else if digP a (comP a b (2 * n.toNat)) < digP b (comP a b (2 * n.toNat)) then -1 else 1, 0) else (0, chkP n [a, b])
theorem chk_ok {n : Int} {l : List (List UInt8)} (h : chkP n l = 0) : 1 ≤ n ∧ n ≤ 32 := by
  unfold chkP at h; split at h
  · omega
  · omega

theorem Common_ok (n : Int) (a b : List UInt8) (ha : a.length = 32) (hb : b.length = 32) (w : World) :
    CallK Tryz.prog 229 [.int .i64 n, .agg (vbs a).toArray, .agg (vbs b).toArray].toArray w fun v w' => v = .tuple [.int .i64 (comPP n a b).1, .int .i64 (comPP n a b).2].toArray ∧ Ext w w' := by
  refine enterT Tryz.func229 rfl Tryz.ntmps229 Tryz.results229 rfl (by decide) ?_
  simp only [↓VD, VP, VT, isAggD, reduceCtorEq, Int.reduceEq, Int.reduceNe, Int.reduceLT, Int.reduceLE, implies_true, Nat.reduceEqDiff, reduceIte, ite_true, ite_false, eq_self, Nat.reduceLT, Nat.reduceLeDiff, Nat.reduceAdd, Nat.reduceMul, Nat.reduceSub, intOf]
  intro w1 hN1 w2 hN2
  have hA : Blk w2 w.heap.size 28 (vbs a) := hN2.keep hN1.blk
  refine ldA Tryz.underlying28 rfl hA (by rw [vbs_len, ha, c28]) ?_
  simp only [↓VD, VP, VT, isAggD, reduceCtorEq, Int.reduceEq, Int.reduceNe, Int.reduceLT, Int.reduceLE, implies_true, Nat.reduceEqDiff, reduceIte, ite_true, ite_false, eq_self, Nat.reduceLT, Nat.reduceLeDiff, Nat.reduceAdd, Nat.reduceMul, Nat.reduceSub, intOf]
  refine ldA Tryz.underlying28 rfl hN2.blk (by rw [vbs_len, hb, c28]) ?_
  simp only [↓VD, VP, VT, isAggD, reduceCtorEq, Int.reduceEq, Int.reduceNe, Int.reduceLT, Int.reduceLE, implies_true, Nat.reduceEqDiff, reduceIte, ite_true, ite_false, eq_self, Nat.reduceLT, Nat.reduceLeDiff, Nat.reduceAdd, Nat.reduceMul, Nat.reduceSub, intOf]
  refine ⟨⟨by rw [vbs_len, ha], by rw [vbs_len, hb]⟩, fun w3 hN3 => (check_ok n _ [a, b] (by simp [ha, hb]) w3 ?_).mono ?_⟩
  · simpa using SlC.of_blk hN3.blk (n := 2) (by decide)
  rintro _ w4 ⟨rfl, hE⟩
  have hE4 : Ext w2 w4 := hN3.ext.trans' hE
  have hEx : Ext w w4 := hN1.ext.trans' (hN2.ext.trans' hE4)
  simp only [↓VD, VP, VT, isAggD, reduceCtorEq, Int.reduceEq, Int.reduceNe, Int.reduceLT, Int.reduceLE, implies_true, Nat.reduceEqDiff, reduceIte, ite_true, ite_false, eq_self, Nat.reduceLT, Nat.reduceLeDiff, Nat.reduceAdd, Nat.reduceMul, Nat.reduceSub, intOf]
  refine ⟨fun h => ?_, fun h => ?_⟩
  · have e : comPP n a b = (0, chkP n [a, b]) := by unfold comPP; rw [if_neg h]
    rw [e]; exact ⟨rfl, hEx⟩
  · have e : comPP n a b = ((comP a b (2 * n.toNat) : Int), 0) := by unfold comPP; rw [if_pos h]
    have hn := chk_ok h
    refine ldA Tryz.underlying28 rfl (hA.ext hE4) (by rw [vbs_len, ha, c28]) ?_
    simp only [↓VD, VP, VT, isAggD, reduceCtorEq, Int.reduceEq, Int.reduceNe, Int.reduceLT, Int.reduceLE, implies_true, Nat.reduceEqDiff, reduceIte, ite_true, ite_false, eq_self, Nat.reduceLT, Nat.reduceLeDiff, Nat.reduceAdd, Nat.reduceMul, Nat.reduceSub, intOf]
    refine ldA Tryz.underlying28 rfl (hN2.blk.ext hE4) (by rw [vbs_len, hb, c28]) ?_
    simp only [↓VD, VP, VT, isAggD, reduceCtorEq, Int.reduceEq, Int.reduceNe, Int.reduceLT, Int.reduceLE, implies_true, Nat.reduceEqDiff, reduceIte, ite_true, ite_false, eq_self, Nat.reduceLT, Nat.reduceLeDiff, Nat.reduceAdd, Nat.reduceMul, Nat.reduceSub, intOf]
    obtain ⟨j, rfl⟩ : ∃ j : Nat, n = j := ⟨n.toNat, by omega⟩
    refine (common_ok j (by omega) a b ha hb w4).mono ?_
    rintro _ w5 ⟨rfl, hE5⟩
    simp only [↓VD, VP, VT, isAggD, reduceCtorEq, Int.reduceEq, Int.reduceNe, Int.reduceLT, Int.reduceLE, implies_true, Nat.reduceEqDiff, reduceIte, ite_true, ite_false, eq_self, Nat.reduceLT, Nat.reduceLeDiff, Nat.reduceAdd, Nat.reduceMul, Nat.reduceSub, intOf]
    rw [e]
    exact ⟨rfl, hEx.trans' hE5⟩

end Go.Proofs.YthlkfjoibjhaiaaGreatDoor

/-! NibQ -/
namespace Go.Proofs.YthlkfjoibjhaiaaGreatDoor
set_option maxRecDepth 100000
set_option maxHeartbeats 2000000
open Go Go.RowKit
set_option linter.unusedVariables false
set_option linter.unusedSimpArgs false

def widthP (n : Int) : Bool := decide (1 ≤ n ∧ n ≤ 32)
def formP (n : Int) (d : List UInt8) : Bool := widthP n && decide (∀ b ∈ d.drop n.toNat, b = 0)

def digsI (d : List UInt8) (k : Nat) : List Int := (List.range (2 * k)).map fun j => (digP d j : Int)
end Go.Proofs.YthlkfjoibjhaiaaGreatDoor

/-! Byt -/
namespace Go.Proofs.YthlkfjoibjhaiaaGreatDoor
set_option maxRecDepth 100000
set_option maxHeartbeats 2000000
open Go Go.RowKit
set_option linter.unusedVariables false
set_option linter.unusedSimpArgs false
attribute [local irreducible] vcT opsT qT vcOp Q1 vcPure vcLoad vcStore ldC ldN ldD grdT grdQ vc vcOps vcQ hT

theorem cmp_drop : ∀ (k : Nat) (xs ys : List UInt8), k ≤ xs.length → k ≤ ys.length → xs.take k = ys.take k → Lib.compareBytes xs ys = Lib.compareBytes (xs.drop k) (ys.drop k)
  | 0, xs, ys, _, _, _ => by simp
  | k + 1, [], _, h, _, _ => by simp at h
  | k + 1, _ :: _, [], _, h, _ => by simp at h
  | k + 1, x :: xs, y :: ys, h1, h2, h => by
    simp only [List.take_succ_cons, List.cons.injEq] at h
    obtain ⟨rfl, h⟩ := h
    simp only [List.length_cons, Nat.add_le_add_iff_right] at h1 h2
    have h3 : ¬ x < x := by simp
    rw [List.drop_succ_cons, List.drop_succ_cons, Lib.compareBytes, if_neg h3, if_neg h3]
    exact cmp_drop k xs ys h1 h2 h
theorem getD_drop {xs : List UInt8} {k : Nat} (h : k < xs.length) : xs.drop k = xs.getD k 0 :: xs.drop (k + 1) := by
  rw [List.drop_eq_getElem_cons h, List.getD_eq_getElem?_getD, List.getElem?_eq_getElem h]
  rfl
theorem take_getD {xs : List UInt8} {k : Nat} (h : k < xs.length) : xs.take (k + 1) = xs.take k ++ [xs.getD k 0] := by
  rw [List.take_succ_eq_append_getElem h, List.getD_eq_getElem?_getD, List.getElem?_eq_getElem h]
  rfl
theorem u8_lt (a b : UInt8) : ((a.toNat : Int) < b.toNat) ↔ a < b := by rw [UInt8.lt_iff_toNat_lt]; omega
def keyD (n : Int) (x : List UInt8) : List UInt8 := sumR n (2 :: x)
def brD (n : Int) (bm : Nat) (ds : List (List UInt8)) : List UInt8 := if brE n bm ds = 0 then sumR n (branchP n.toNat bm ds) else List.replicate 32 0
theorem brD_len (n : Int) (bm : Nat) (ds : List (List UInt8)) : (brD n bm ds).length = 32 := by unfold brD; split; exact sumR_len _ _; simp
theorem cutP_cut (n : Nat) (hn : n ≤ 32) (l : List UInt8) (hl : l.length = 32) : cutP n (cutP n l) = cutP n l := by
  unfold cutP
  rw [List.take_append_of_le_length (by rw [List.length_take]; omega), List.take_take, Nat.min_self]
theorem form_sumR (n : Int) (xs : List UInt8) (hn : widB n = true) : formB n (sumR n xs) = true := by
  have hw := (widB_iff n).1 hn
  unfold formB sumR
  rw [hn, if_pos rfl]
  simp only [Bool.true_and, decide_eq_true_eq]
  exact cutP_cut _ (by omega) _ (shaP_len _)
theorem form_zeros (n : Int) (hn : widB n = true) : formB n (List.replicate 32 0) = true := by
  have hw := (widB_iff n).1 hn
  obtain ⟨m, rfl⟩ : ∃ m : Nat, n = m := ⟨n.toNat, by omega⟩
  unfold formB
  rw [hn]
  simp only [Bool.true_and, decide_eq_true_eq, cutP, List.take_replicate, Int.toNat_natCast, List.replicate_append_replicate]
  congr 1
  omega
theorem form_brD (n : Int) (hn : widB n = true) (bm : Nat) (ds : List (List UInt8)) : formB n (brD n bm ds) = true := by
  unfold brD
  split
  · exact form_sumR n _ hn
  · exact form_zeros n hn
theorem keyD_len (n : Int) (xs : List UInt8) : (keyD n xs).length = 32 := by unfold keyD; exact sumR_len n _
theorem widthB (n : Int) : widthP n = widB n := by unfold widthP widB; by_cases h : 1 ≤ n <;> by_cases g : n ≤ 32 <;> simp [h, g]
theorem formPB (n : Int) (d : List UInt8) (hd : d.length = 32) : formP n d = formB n d := by
  unfold formP formB
  rw [widthB]
  cases hw : widB n
  · rfl
  · have hw' := (widB_iff n).1 hw
    simp only [Bool.true_and]
    congr 1
    refine propext ⟨fun h => ?_, fun h => ?_⟩
    · have e : d.drop n.toNat = List.replicate (32 - n.toNat) 0 := by
        refine List.eq_replicate_iff.2 ⟨by rw [List.length_drop, hd], h⟩
      rw [cutP, ← e, List.take_append_drop]
    · intro b hb
      have e : d.drop n.toNat = List.replicate (32 - n.toNat) 0 := by
        have := congrArg (List.drop n.toNat) h
        rw [cutP, List.drop_append, List.drop_eq_nil_of_le (by rw [List.length_take]; omega), List.length_take, Nat.min_eq_left (by omega)] at this
        simpa using this.symm
      rw [e] at hb
      exact (List.mem_replicate.1 hb).2
theorem pr_row {w : World} {a : Option Addr} {n c : Nat} {ps : List PR} (h : SlC w (.slice a n c) ps.length (ps.flatMap PR.cells)) (hd : 0 < ps.length) : ∃ b o, a = some ⟨b, o, none⟩ ∧ RowA w b o 2 PR.cells ps := h.row (fun _ _ => rfl) (by decide) hd
theorem ldPair {w : World} {b o i q : Nat} {K : Value → Prop} {ps : List PR} {x : PR} (hx : ps[i]? = some x) (hK : K (.agg [x.kv, x.vv].toArray)) (hR : RowA w b o 2 PR.cells ps := by exact RowA.go) (hq : q = o + i * 2 := by first | exact rfl | omega | simp) : ldN w 2 b q K := ldRow hx hK hR hq
theorem formB_zero {m : Nat} {k : List UInt8} (hk : k.length = 32) (hf : formB m k = true) : ∀ b ∈ k.drop m, b = 0 := by
  rw [← formPB _ _ hk] at hf
  simpa [formP] using (Bool.and_eq_true_iff.1 hf).2
theorem atP_dig {m : Nat} {k : List UInt8} (hm : 1 ≤ m) (hm2 : m ≤ 32) (hk : k.length = 32) (hf : formB m k = true) {i : Nat} (hi : i < 2 * m) : (atP m k i).1 = digP k i := by
  have hz := formB_zero hk hf
  have hc : chkP m [k] = 0 := by
    unfold chkP
    rw [if_neg (by omega), if_pos]
    intro d hd
    obtain rfl : d = k := by simpa using hd
    simpa using hz
  unfold atP
  rw [if_neg (by omega), if_pos hc, Int.toNat_natCast]

end Go.Proofs.YthlkfjoibjhaiaaGreatDoor

/-! Itm -/
namespace Go.Proofs.YthlkfjoibjhaiaaGreatDoor
set_option maxRecDepth 100000
set_option maxHeartbeats 2000000
open Go Go.RowKit
set_option linter.unusedVariables false
set_option linter.unusedSimpArgs false

/-! ### Bytes compared -/
theorem u8_asymm {x y : UInt8} (h : x < y) : ¬ y < x := by rw [UInt8.lt_iff_toNat_lt] at *; omega
theorem u8_eq {x y : UInt8} (h1 : ¬ x < y) (h2 : ¬ y < x) : x = y := by rw [UInt8.lt_iff_toNat_lt] at *; exact UInt8.toNat_inj.1 (by omega)
theorem u8_irr (x : UInt8) : ¬ x < x := by rw [UInt8.lt_iff_toNat_lt]; omega
theorem cmpB_self : ∀ a, Lib.compareBytes a a = 0
  | [] => rfl
  | x :: a => by rw [Lib.compareBytes, if_neg (u8_irr x), if_neg (u8_irr x)]; exact cmpB_self a
theorem cmpB_neg : ∀ a b, Lib.compareBytes b a = - Lib.compareBytes a b
  | [], [] => rfl
  | [], _ :: _ => rfl
  | _ :: _, [] => rfl
  | x :: a, y :: b => by
    rw [Lib.compareBytes, Lib.compareBytes]
    by_cases h1 : x < y
    · rw [if_neg (u8_asymm h1), if_pos h1, if_pos h1]; rfl
    · by_cases h2 : y < x
      · rw [if_pos h2, if_neg h1, if_pos h2]
      · rw [if_neg h2, if_neg h1, if_neg h1, if_neg h2]; exact cmpB_neg a b
theorem cmpB_eq : ∀ a b, Lib.compareBytes a b = 0 ↔ a = b
  | [], [] => by simp [Lib.compareBytes]
  | [], _ :: _ => by simp [Lib.compareBytes]
  | _ :: _, [] => by simp [Lib.compareBytes]
  | x :: a, y :: b => by
    rw [Lib.compareBytes]
    by_cases h1 : x < y
    · rw [if_pos h1]
      simp only [List.cons.injEq]
      exact ⟨fun h => (by cases h), fun h => absurd h1 (by rw [h.1]; exact u8_irr _)⟩
    · by_cases h2 : y < x
      · rw [if_neg h1, if_pos h2]
        simp only [List.cons.injEq]
        exact ⟨fun h => (by cases h), fun h => absurd h2 (by rw [h.1]; exact u8_irr _)⟩
      · rw [if_neg h1, if_neg h2, cmpB_eq a b]
        simp [u8_eq h1 h2]
theorem cmpB_trans : ∀ a b c, Lib.compareBytes a b < 0 → Lib.compareBytes b c < 0 → Lib.compareBytes a c < 0
  | [], [], _, h, _ => by simp [Lib.compareBytes] at h
  | [], _ :: _, [], _, h => by simp [Lib.compareBytes] at h
  | [], _ :: _, _ :: _, _, _ => by simp [Lib.compareBytes]
  | _ :: _, [], _, h, _ => by simp [Lib.compareBytes] at h
  | _ :: _, _ :: _, [], _, h => by simp [Lib.compareBytes] at h
  | x :: a, y :: b, z :: c, h1, h2 => by
    rw [Lib.compareBytes] at h1 h2 ⊢
    by_cases a1 : x < y
    · by_cases a2 : y < z
      · rw [if_pos (show x < z by rw [UInt8.lt_iff_toNat_lt] at *; omega)]; decide
      · by_cases a3 : z < y
        · rw [if_neg a2, if_pos a3] at h2; omega
        · obtain rfl := u8_eq a2 a3
          rw [if_pos a1]; decide
    · by_cases a4 : y < x
      · rw [if_neg a1, if_pos a4] at h1; omega
      · obtain rfl := u8_eq a1 a4
        rw [if_neg a1, if_neg a1] at h1
        by_cases a2 : x < z
        · rw [if_pos a2]; decide
        · by_cases a3 : z < x
          · rw [if_neg a2, if_pos a3] at h2; omega
          · rw [if_neg a2, if_neg a3] at h2 ⊢
            exact cmpB_trans a b c h1 h2
/-- The first digits that differ decide. -/
theorem cmp_digit {a b : List UInt8} (ha : a.length = 32) (hb : b.length = 32) {d : Nat} (hd : d < 64) (hs : ∀ j, j < d → digP a j = digP b j) (h : digP b d < digP a d) : 0 < Lib.compareBytes a b := by
  have hlt : d / 2 < 32 := by omega
  have htk : a.take (d / 2) = b.take (d / 2) := by
    refine List.ext_getElem (by simp [ha, hb]) fun j h1 h2 => ?_
    have hj : j < d / 2 := by rw [List.length_take] at h1; omega
    rw [List.getElem_take, List.getElem_take]
    have e1 := hs (2 * j) (by omega)
    have e2 := hs (2 * j + 1) (by omega)
    simp only [digP, show 2 * j % 2 = 0 from by omega, show (2 * j + 1) % 2 = 1 from by omega, show 2 * j / 2 = j from by omega, show (2 * j + 1) / 2 = j from by omega, if_true] at e1 e2
    rw [if_neg (by decide), if_neg (by decide)] at e2
    have ga : a.getD j 0 = a[j] := by rw [List.getD_eq_getElem?_getD, List.getElem?_eq_getElem (by omega)]; rfl
    have gb : b.getD j 0 = b[j] := by rw [List.getD_eq_getElem?_getD, List.getElem?_eq_getElem (by omega)]; rfl
    rw [ga, gb] at e1 e2
    exact UInt8.toNat_inj.1 (by omega)
  have hb' : (b.getD (d / 2) 0).toNat < (a.getD (d / 2) 0).toNat := by
    by_cases hp : d % 2 = 0
    · simp only [digP, hp, if_true] at h
      omega
    · have e1 := hs (d - 1) (by omega)
      simp only [digP, if_neg hp, if_pos (show (d - 1) % 2 = 0 from by omega), show (d - 1) / 2 = d / 2 from by omega] at h e1
      omega
  rw [cmp_drop (d / 2) a b (by omega) (by omega) htk, getD_drop (by omega), getD_drop (xs := b) (by omega), Lib.compareBytes, if_neg (by rw [UInt8.lt_iff_toNat_lt]; omega), if_pos (by rw [UInt8.lt_iff_toNat_lt]; omega)]
  decide

/-! ### Items -/
/-- A pair with its key's digest. -/
structure It where
  D : List UInt8
  k : List UInt8
  v : List UInt8
deriving DecidableEq
def It.pr (y : It) : List UInt8 × List UInt8 := (y.k, y.v)
def cmpIt (a b : It) : Int := if Lib.compareBytes a.D b.D = 0 then Lib.compareBytes a.k b.k else Lib.compareBytes a.D b.D
theorem cmpIt_neg (a b : It) : cmpIt b a = - cmpIt a b := by
  unfold cmpIt
  rw [cmpB_neg a.D b.D, cmpB_neg a.k b.k]
  by_cases h : Lib.compareBytes a.D b.D = 0
  · rw [if_pos h, if_pos (by omega)]
  · rw [if_neg h, if_neg (by omega)]
theorem cmpIt_eq (a b : It) : cmpIt a b = 0 ↔ a.D = b.D ∧ a.k = b.k := by
  unfold cmpIt
  by_cases h : Lib.compareBytes a.D b.D = 0
  · rw [if_pos h, cmpB_eq]
    exact ⟨fun g => ⟨(cmpB_eq _ _).1 h, g⟩, fun g => g.2⟩
  · rw [if_neg h]
    exact ⟨fun g => absurd g h, fun g => absurd ((cmpB_eq _ _).2 g.1) h⟩
theorem cmpIt_trans {a b c : It} (h1 : cmpIt a b < 0) (h2 : cmpIt b c < 0) : cmpIt a c < 0 := by
  unfold cmpIt at *
  by_cases e1 : Lib.compareBytes a.D b.D = 0
  · have e1' := (cmpB_eq _ _).1 e1
    rw [if_pos e1] at h1
    rw [e1']
    by_cases e2 : Lib.compareBytes b.D c.D = 0
    · rw [if_pos e2] at h2 ⊢
      exact cmpB_trans _ _ _ h1 h2
    · rw [if_neg e2] at h2 ⊢
      exact h2
  · rw [if_neg e1] at h1
    by_cases e2 : Lib.compareBytes b.D c.D = 0
    · rw [← (cmpB_eq _ _).1 e2, if_neg e1]
      exact h1
    · rw [if_neg e2] at h2
      have := cmpB_trans _ _ _ h1 h2
      rw [if_neg (by omega)]
      exact this
theorem cmpIt_congr {x y : It} (h : cmpIt x y = 0) (z : It) : cmpIt x z = cmpIt y z := by
  obtain ⟨h1, h2⟩ := (cmpIt_eq x y).1 h
  unfold cmpIt
  rw [h1, h2]
abbrev SortedI (m : List It) : Prop := m.Pairwise fun a b => cmpIt a b < 0
def ltP (x y : It) : Bool := decide (cmpIt y x < 0)
def eqP (x y : It) : Bool := decide (cmpIt y x = 0)
def gtP (x y : It) : Bool := decide (0 < cmpIt y x)
/-- The items with this one, in their order. -/
def putI (m : List It) (x : It) : List It := m.filter (ltP x) ++ x :: m.filter (gtP x)
/-- The items without the key's. -/
def delI (m : List It) (k : List UInt8) : List It := m.filter fun y => decide (y.k ≠ k)
/-- Those of the items whose digit number d is c. -/
def childI (m : List It) (d c : Nat) : List It := m.filter fun y => decide (digP y.D d = c)
def singleI (m : List It) : Prop := ∀ y ∈ m, ∀ z ∈ m, y.D = z.D
theorem sort_up {y x : It} {r : List It} (h : SortedI (y :: r)) (hx : ¬ cmpIt y x < 0) : ∀ z ∈ r, 0 < cmpIt z x := by
  intro z hz
  have h1 : cmpIt y z < 0 := (List.pairwise_cons.1 h).1 z hz
  rw [cmpIt_neg x z]
  by_cases h0 : cmpIt y x = 0
  · rw [cmpIt_congr h0] at h1
    omega
  · have : cmpIt x y < 0 := by rw [cmpIt_neg y x]; omega
    have := cmpIt_trans this h1
    omega
theorem sort_split (x : It) : ∀ m, SortedI m → m = m.filter (ltP x) ++ (m.filter (eqP x) ++ m.filter (gtP x))
  | [], _ => rfl
  | y :: r, h => by
    have ih := sort_split x r (List.pairwise_cons.1 h).2
    by_cases h1 : cmpIt y x < 0
    · rw [List.filter_cons_of_pos (by simpa [ltP] using h1), List.filter_cons_of_neg (by simp [eqP]; omega), List.filter_cons_of_neg (by simp [gtP]; omega), List.cons_append, ← ih]
    · have hu := sort_up h h1
      have e1 : r.filter (ltP x) = [] := List.filter_eq_nil_iff.2 fun z hz => by have := hu z hz; simp [ltP]; omega
      have e2 : r.filter (eqP x) = [] := List.filter_eq_nil_iff.2 fun z hz => by have := hu z hz; simp [eqP]; omega
      have e3 : r.filter (gtP x) = r := List.filter_eq_self.2 fun z hz => by have := hu z hz; simpa [gtP] using this
      rw [List.filter_cons_of_neg (by simpa [ltP] using h1), e1, List.nil_append]
      by_cases h2 : cmpIt y x = 0
      · rw [List.filter_cons_of_pos (by simpa [eqP] using h2), e2, List.filter_cons_of_neg (by simp [gtP]; omega), e3]
        rfl
      · rw [List.filter_cons_of_neg (by simpa [eqP] using h2), e2, List.filter_cons_of_pos (by simp [gtP]; omega), e3]
        rfl
theorem mem_putI {m : List It} {x y : It} (h : y ∈ putI m x) : y = x ∨ y ∈ m := by
  unfold putI at h
  rcases List.mem_append.1 h with h | h
  · exact Or.inr (List.mem_filter.1 h).1
  · rcases List.mem_cons.1 h with h | h
    · exact Or.inl h
    · exact Or.inr (List.mem_filter.1 h).1
theorem putI_mem_self (m : List It) (x : It) : x ∈ putI m x := by unfold putI; simp
theorem putI_mem_old {m : List It} {x y : It} (h : y ∈ m) (hne : cmpIt y x ≠ 0) : y ∈ putI m x := by
  unfold putI
  by_cases h1 : cmpIt y x < 0
  · exact List.mem_append.2 (Or.inl (List.mem_filter.2 ⟨h, by simpa [ltP] using h1⟩))
  · exact List.mem_append.2 (Or.inr (List.mem_cons_of_mem _ (List.mem_filter.2 ⟨h, by simp [gtP]; omega⟩)))
theorem putI_D {m : List It} {x y : It} (h : y ∈ m) : ∃ z ∈ putI m x, z.D = y.D := by
  by_cases h0 : cmpIt y x = 0
  · exact ⟨x, putI_mem_self m x, ((cmpIt_eq _ _).1 h0).1.symm⟩
  · exact ⟨y, putI_mem_old h h0, rfl⟩
theorem putI_sorted {m : List It} {x : It} (h : SortedI m) : SortedI (putI m x) := by
  unfold putI
  refine List.pairwise_append.2 ⟨h.filter _, List.pairwise_cons.2 ⟨fun z hz => ?_, h.filter _⟩, fun a ha b hb => ?_⟩
  · have := (List.mem_filter.1 hz).2
    simp only [gtP, decide_eq_true_eq] at this
    rw [cmpIt_neg z x]; omega
  · have h1 := (List.mem_filter.1 ha).2
    simp only [ltP, decide_eq_true_eq] at h1
    rcases List.mem_cons.1 hb with rfl | hb
    · exact h1
    · have h2 := (List.mem_filter.1 hb).2
      simp only [gtP, decide_eq_true_eq] at h2
      exact cmpIt_trans h1 (by rw [cmpIt_neg b x]; omega)
theorem delI_sorted {m : List It} {k : List UInt8} (h : SortedI m) : SortedI (delI m k) := h.filter _
theorem childI_sorted {m : List It} {d c : Nat} (h : SortedI m) : SortedI (childI m d c) := h.filter _
theorem filter_swap {α : Type} (p q : α → Bool) (l : List α) : (l.filter p).filter q = (l.filter q).filter p := by
  rw [List.filter_filter, List.filter_filter]
  congr 1
  funext a
  exact Bool.and_comm _ _
theorem child_put_same {m : List It} {x : It} {d c : Nat} (h : digP x.D d = c) : childI (putI m x) d c = putI (childI m d c) x := by
  unfold childI putI
  rw [List.filter_append, List.filter_cons_of_pos (by simpa using h), filter_swap, filter_swap (gtP x)]
theorem child_put_other {m : List It} {x : It} {d c : Nat} (hm : SortedI m) (h : digP x.D d ≠ c) : childI (putI m x) d c = childI m d c := by
  have hs := sort_split x m hm
  have e : (m.filter (eqP x)).filter (fun y => decide (digP y.D d = c)) = [] := List.filter_eq_nil_iff.2 fun z hz => by
    have h1 := (List.mem_filter.1 hz).2
    simp only [eqP, decide_eq_true_eq] at h1
    rw [((cmpIt_eq _ _).1 h1).1]
    simpa using h
  have h2 : childI m d c = (m.filter (ltP x)).filter (fun y => decide (digP y.D d = c)) ++ (m.filter (gtP x)).filter (fun y => decide (digP y.D d = c)) := by
    have h3 := congrArg (List.filter fun y => decide (digP y.D d = c)) hs
    rw [List.filter_append, List.filter_append, e, List.nil_append] at h3
    exact h3
  rw [h2]
  unfold childI putI
  rw [List.filter_append, List.filter_cons_of_neg (by simpa using h)]
theorem child_del (m : List It) (k : List UInt8) (d c : Nat) : childI (delI m k) d c = delI (childI m d c) k := filter_swap _ _ m

theorem split_le {α : Type} (f : α → Nat) (N : Nat) : ∀ (m : List α), (m.Pairwise fun a b => f a ≤ f b) → (∀ a ∈ m, f a ≤ N) → m = m.filter (fun a => decide (f a < N)) ++ m.filter (fun a => decide (f a = N))
  | [], _, _ => rfl
  | a :: m, hs, h => by
    have hs' := List.pairwise_cons.1 hs
    have ih := split_le f N m hs'.2 (fun b hb => h b (List.mem_cons_of_mem _ hb))
    by_cases ha : f a < N
    · rw [List.filter_cons_of_pos (by simpa using ha), List.filter_cons_of_neg (by simp; omega), List.cons_append, ← ih]
    · have hN : f a = N := by have := h a (by simp); omega
      have e1 : m.filter (fun a => decide (f a < N)) = [] := List.filter_eq_nil_iff.2 fun b hb => by have := hs'.1 b hb; simp; omega
      rw [e1, List.nil_append] at ih
      rw [List.filter_cons_of_neg (by simpa using ha), e1, List.nil_append, List.filter_cons_of_pos (by simpa using hN), ← ih]
/-- Items sorted by a number, taken by that number, are the items. -/
theorem flat_filter {α : Type} (f : α → Nat) : ∀ (N : Nat) (m : List α), (m.Pairwise fun a b => f a ≤ f b) → (∀ a ∈ m, f a < N) → (List.range N).flatMap (fun c => m.filter fun a => decide (f a = c)) = m
  | 0, m, _, h => by
    cases m with
    | nil => rfl
    | cons a m => have := h a (by simp); omega
  | N + 1, m, hs, h => by
    have hsp := split_le f N m hs (fun a ha => by have := h a ha; omega)
    have ih := flat_filter f N (m.filter fun a => decide (f a < N)) (hs.filter _) (fun a ha => by simpa using (List.mem_filter.1 ha).2)
    rw [List.range_succ, List.flatMap_append]
    simp only [List.flatMap_cons, List.flatMap_nil, List.append_nil]
    have e : (List.range N).flatMap (fun c => m.filter fun a => decide (f a = c)) = m.filter fun a => decide (f a < N) := by
      refine Eq.trans ?_ ih
      rw [List.flatMap_def, List.flatMap_def]
      congr 1
      refine List.map_congr_left fun c hc => ?_
      have hcN : c < N := by simpa using hc
      rw [List.filter_filter]
      congr 1
      funext a
      by_cases h1 : f a = c
      · simp [h1, hcN]
      · simp [h1]
    rw [e, ← hsp]

/-! ### Items that begin alike -/
/-- All the digests have 32 bytes, and begin with the same d digits. -/
def Pre (d : Nat) (m : List It) : Prop := (∀ y ∈ m, y.D.length = 32) ∧ ∀ y ∈ m, ∀ z ∈ m, ∀ j, j < d → digP y.D j = digP z.D j
theorem Pre.sub {d : Nat} {m l : List It} (h : Pre d m) (hl : ∀ y ∈ l, y ∈ m) : Pre d l := ⟨fun y hy => h.1 y (hl y hy), fun y hy z hz => h.2 y (hl y hy) z (hl z hz)⟩
theorem mem_child {m : List It} {d c : Nat} {y : It} : y ∈ childI m d c ↔ y ∈ m ∧ digP y.D d = c := by simp [childI]
theorem Pre.child {d : Nat} {m : List It} (h : Pre d m) (c : Nat) : Pre (d + 1) (childI m d c) := by
  refine ⟨fun y hy => h.1 y (mem_child.1 hy).1, fun y hy z hz j hj => ?_⟩
  obtain ⟨h1, h2⟩ := mem_child.1 hy
  obtain ⟨h3, h4⟩ := mem_child.1 hz
  by_cases hjd : j < d
  · exact h.2 y h1 z h3 j hjd
  · obtain rfl : j = d := by omega
    rw [h2, h4]
theorem digP_lt (a : List UInt8) (i : Nat) : digP a i < 16 := by
  have := (a.getD (i / 2) 0).toNat_lt
  unfold digP
  split <;> omega
theorem sorted_digit {m : List It} {d : Nat} (hs : SortedI m) (hp : Pre d m) (hd : d < 64) : m.Pairwise fun a b => digP a.D d ≤ digP b.D d := by
  refine List.Pairwise.imp_of_mem ?_ hs
  intro a b ha hb hab
  refine Nat.le_of_not_lt fun hlt => ?_
  have := cmp_digit (hp.1 a ha) (hp.1 b hb) hd (hp.2 a ha b hb) hlt
  unfold cmpIt at hab
  rw [if_neg (by omega)] at hab
  omega
/-- The children, one behind the other, are the items. -/
theorem child_flat {m : List It} {d : Nat} (hs : SortedI m) (hp : Pre d m) (hd : d < 64) : (List.range 16).flatMap (childI m d) = m :=
  flat_filter (fun y : It => digP y.D d) 16 m (sorted_digit hs hp hd) (fun a _ => digP_lt _ _)
end Go.Proofs.YthlkfjoibjhaiaaGreatDoor

/-! NibR -/
namespace Go.Proofs.YthlkfjoibjhaiaaGreatDoor
set_option maxRecDepth 100000
set_option maxHeartbeats 2000000
open Go Go.RowKit
set_option linter.unusedVariables false
set_option linter.unusedSimpArgs false

def setI (m k : Nat) : List Int := ((List.range k).filter fun j => m.testBit j).map fun j : Nat => (j : Int)
def lows (l : List Int) (i : Int) : Nat := (l.filter fun j => decide (j < i)).length
end Go.Proofs.YthlkfjoibjhaiaaGreatDoor

/-! Itn -/
namespace Go.Proofs.YthlkfjoibjhaiaaGreatDoor
set_option maxRecDepth 100000
set_option maxHeartbeats 2000000
open Go Go.RowKit
set_option linter.unusedVariables false
set_option linter.unusedSimpArgs false

/-! ### Bitmaps -/
def bmK (p : Nat → Bool) : Nat → Nat
  | 0 => 0
  | k + 1 => bmK p k + (if p k = true then 2 ^ k else 0)
theorem bmK_lt (p : Nat → Bool) : ∀ k, bmK p k < 2 ^ k
  | 0 => by simp [bmK]
  | k + 1 => by
    have := bmK_lt p k
    unfold bmK
    rw [Nat.pow_succ]
    split <;> omega
theorem bmK_bit (p : Nat → Bool) : ∀ k c, (bmK p k).testBit c = (decide (c < k) && p c)
  | 0, c => by simp [bmK]
  | k + 1, c => by
    have ih := bmK_bit p k c
    have hl := bmK_lt p k
    unfold bmK
    by_cases hk : p k = true
    · rw [if_pos hk, Nat.add_comm, show 2 ^ k = 2 ^ k * 1 from by simp, Nat.two_pow_add_eq_or_of_lt hl, Nat.testBit_or, ih, Nat.mul_one, Nat.testBit_two_pow]
      by_cases hc : c = k
      · subst hc; simp [hk]
      · by_cases h2 : c < k
        · simp [h2, Nat.lt_succ_of_lt h2, Ne.symm hc]
        · have : ¬ c < k + 1 := by omega
          simp [h2, this, Ne.symm hc]
    · rw [if_neg hk, Nat.add_zero, ih]
      by_cases hc : c = k
      · subst hc; simp [hk]
      · by_cases h2 : c < k
        · simp [h2, Nat.lt_succ_of_lt h2]
        · have : ¬ c < k + 1 := by omega
          simp [h2, this]
def hasI (m : List It) (d c : Nat) : Bool := !(childI m d c).isEmpty
def bmI (m : List It) (d : Nat) : Nat := bmK (hasI m d) 16
theorem bmI_lt (m : List It) (d : Nat) : bmI m d < 65536 := bmK_lt _ 16
theorem bmI_bit (m : List It) (d c : Nat) : (bmI m d).testBit c = (decide (c < 16) && hasI m d c) := bmK_bit _ 16 c
theorem hasN (bm c : Nat) : hasB bm (c : Int) = (decide (c < 16) && bm.testBit c) := by
  unfold hasB inB
  rw [Int.toNat_natCast]
  congr 1
  by_cases h : c < 16
  · rw [decide_eq_true h, decide_eq_true (by omega)]
  · rw [decide_eq_false h, decide_eq_false (by omega)]
theorem bmI_has (m : List It) (d c : Nat) : hasB (bmI m d) (c : Int) = (decide (c < 16) && hasI m d c) := by
  rw [hasN, bmI_bit]
  by_cases h : c < 16 <;> simp [h]
theorem has_iff {m : List It} {d c : Nat} : hasI m d c = true ↔ ∃ y ∈ m, digP y.D d = c := by
  unfold hasI
  rw [Bool.not_eq_true', List.isEmpty_eq_false_iff_exists_mem]
  exact ⟨fun ⟨y, hy⟩ => ⟨y, mem_child.1 hy⟩, fun ⟨y, hy⟩ => ⟨y, mem_child.2 hy⟩⟩
theorem has_lt {m : List It} {d c : Nat} (h : hasI m d c = true) : c < 16 := by
  obtain ⟨y, _, rfl⟩ := has_iff.1 h
  exact digP_lt _ _
theorem setB_bm (m : List It) (d : Nat) : setB (bmI m d) = (List.range 16).filter (hasI m d) := by
  unfold setB
  refine List.filter_congr fun c hc => ?_
  rw [bmI_bit, decide_eq_true (by simpa using hc)]
  rfl
theorem bit_ext {a b : Nat} (ha : a < 65536) (hb : b < 65536) (h : ∀ c, c < 16 → a.testBit c = b.testBit c) : a = b := by
  refine Nat.eq_of_testBit_eq fun c => ?_
  by_cases hc : c < 16
  · exact h c hc
  · have e : 65536 ≤ 2 ^ c := by
      have := Nat.pow_le_pow_right (n := 2) (by decide) (show 16 ≤ c from by omega)
      simpa using this
    rw [Nat.testBit_lt_two_pow (by omega), Nat.testBit_lt_two_pow (by omega)]
theorem pw_take {l : List Nat} (hp : l.Pairwise (· < ·)) : ∀ {i c : Nat}, l[i]? = some c → l.filter (fun j => decide (j < c)) = l.take i := by
  induction l with
  | nil => intro i c h; simp at h
  | cons a l ih =>
    intro i c h
    have hp' := List.pairwise_cons.1 hp
    cases i with
    | zero =>
      obtain rfl : a = c := by simpa using h
      rw [List.filter_cons_of_neg (by simp), List.take_zero, List.filter_eq_nil_iff.2 fun b hb => by have := hp'.1 b hb; simp; omega]
    | succ i =>
      have h' : l[i]? = some c := by simpa using h
      have : a < c := hp'.1 c (List.mem_of_getElem? h')
      rw [List.filter_cons_of_pos (by simpa using this), List.take_succ_cons, ih hp'.2 h']
theorem setB_pw (bm : Nat) : (setB bm).Pairwise (· < ·) := by unfold setB; exact List.pairwise_lt_range.filter _
theorem rank_nat (bm c : Nat) : rankB bm (c : Int) = ((setB bm).filter fun j => decide (j < c)).length := by
  unfold rankB
  congr 2
  funext j
  congr 1
  exact propext (by omega)
theorem rank_of {bm i c : Nat} (h : (setB bm)[i]? = some c) : rankB bm (c : Int) = i := by
  rw [rank_nat, pw_take (setB_pw bm) h, List.length_take]
  have := (List.getElem?_eq_some_iff.1 h).1
  omega
theorem mem_setB {bm c : Nat} : c ∈ setB bm ↔ c < 16 ∧ bm.testBit c = true := by simp [setB]
theorem rank_get {bm c : Nat} (h : hasB bm (c : Int) = true) : (setB bm)[rankB bm (c : Int)]? = some c := by
  rw [hasN] at h
  obtain ⟨h1, h2⟩ := Bool.and_eq_true_iff.1 h
  obtain ⟨i, hi⟩ := List.getElem?_of_mem (mem_setB.2 ⟨by simpa using h1, h2⟩)
  rw [rank_of hi]
  exact hi
theorem rank_lt {bm c : Nat} (h : hasB bm (c : Int) = true) : rankB bm (c : Int) < cntB bm := (List.getElem?_eq_some_iff.1 (rank_get h)).1
theorem rank_le (bm : Nat) (c : Int) : rankB bm c ≤ cntB bm := by unfold rankB cntB; exact List.length_filter_le _ _
theorem rank_inj {bm a b : Nat} (ha : hasB bm (a : Int) = true) (hb : hasB bm (b : Int) = true) (h : rankB bm (a : Int) = rankB bm (b : Int)) : a = b := by
  have h1 := rank_get ha
  rw [h, rank_get hb] at h1
  cases h1
  rfl

/-! ### One more, one less -/
theorem has_put {m : List It} (hm : SortedI m) (x : It) (d c : Nat) : hasI (putI m x) d c = (hasI m d c || decide (digP x.D d = c)) := by
  by_cases h : digP x.D d = c
  · rw [decide_eq_true h, Bool.or_true]
    exact has_iff.2 ⟨x, putI_mem_self m x, h⟩
  · rw [decide_eq_false h, Bool.or_false]
    unfold hasI
    rw [child_put_other hm h]
theorem with_put {m : List It} (hm : SortedI m) (x : It) (d : Nat) : withB (bmI m d) (digP x.D d : Int) = bmI (putI m x) d := by
  have hl := digP_lt x.D d
  have hw := withB_lt (bmI_lt m d) (digP x.D d : Int)
  refine bit_ext hw (bmI_lt _ _) fun c hc => ?_
  unfold withB
  rw [if_pos ((inB_iff _).2 (by omega)), Int.toNat_natCast, Nat.testBit_or, Nat.testBit_two_pow, bmI_bit, bmI_bit, has_put hm, decide_eq_true hc]
  rfl
theorem set_with {bm c0 : Nat} (hc : c0 < 16) (c : Nat) : (c ∈ setB (withB bm (c0 : Int))) ↔ c ∈ setB bm ∨ c = c0 := by
  rw [mem_setB, mem_setB]
  unfold withB
  rw [if_pos ((inB_iff _).2 (by omega)), Int.toNat_natCast, Nat.testBit_or, Nat.testBit_two_pow]
  constructor
  · rintro ⟨h1, h2⟩
    rcases Bool.or_eq_true_iff.1 h2 with h | h
    · exact Or.inl ⟨h1, h⟩
    · have e : c0 = c := by simpa using h
      exact Or.inr e.symm
  · rintro (⟨h1, h2⟩ | rfl)
    · exact ⟨h1, by rw [h2]; rfl⟩
    · exact ⟨hc, by simp⟩
theorem withB_same {bm c0 : Nat} (hb : bm < 65536) (h : hasB bm (c0 : Int) = true) : withB bm (c0 : Int) = bm := by
  rw [hasN] at h
  obtain ⟨h1, h2⟩ := Bool.and_eq_true_iff.1 h
  have h1' : c0 < 16 := by simpa using h1
  refine bit_ext (withB_lt hb _) hb fun c hc => ?_
  unfold withB
  rw [if_pos ((inB_iff _).2 (by omega)), Int.toNat_natCast, Nat.testBit_or, Nat.testBit_two_pow]
  by_cases e : c0 = c
  · subst e; rw [h2]; rfl
  · simp [e]
theorem cnt_lows (bm c : Nat) : rankB bm (c : Int) = ((List.range 16).filter fun j => bm.testBit j && decide (j < c)).length := by
  rw [rank_nat]
  unfold setB
  rw [List.filter_filter]
  congr 2
  funext j
  exact Bool.and_comm _ _
theorem count_or (p q : Nat → Bool) : ∀ (l : List Nat), (∀ j ∈ l, ¬ (p j = true ∧ q j = true)) → (l.filter fun j => p j || q j).length = (l.filter p).length + (l.filter q).length
  | [], _ => rfl
  | a :: l, h => by
    have ih := count_or p q l (fun j hj => h j (List.mem_cons_of_mem _ hj))
    have ha := h a (by simp)
    cases hp : p a <;> cases hq : q a <;> simp [List.filter_cons, hp, hq, ih] at * <;> omega
theorem rank_with {bm c0 : Nat} (hc : c0 < 16) (hn : hasB bm (c0 : Int) = false) (c : Nat) : rankB (withB bm (c0 : Int)) (c : Int) = rankB bm (c : Int) + (if c0 < c then 1 else 0) := by
  rw [cnt_lows, cnt_lows]
  have hb : bm.testBit c0 = false := by rw [hasN, decide_eq_true hc] at hn; simpa using hn
  have e1 : (fun j => (withB bm (c0 : Int)).testBit j && decide (j < c)) = fun j => (bm.testBit j && decide (j < c)) || (decide (j = c0) && decide (j < c)) := by
    funext j
    unfold withB
    rw [if_pos ((inB_iff _).2 (by omega)), Int.toNat_natCast, Nat.testBit_or, Nat.testBit_two_pow]
    by_cases e : c0 = j
    · subst e; simp
    · have e' : ¬ j = c0 := fun h => e h.symm
      simp [e, e']
  rw [e1, count_or]
  · congr 1
    by_cases h : c0 < c
    · rw [if_pos h]
      have : (List.range 16).filter (fun j => decide (j = c0) && decide (j < c)) = [c0] := by
        have e : (fun j => decide (j = c0) && decide (j < c)) = fun j => decide (j = c0) := by
          funext j
          by_cases e : j = c0
          · subst e; simp [h]
          · simp [e]
        rw [e]
        have hh : ∀ k : Fin 16, (List.range 16).filter (fun j => decide (j = k.1)) = [k.1] := by decide +kernel
        exact hh ⟨c0, hc⟩
      rw [this]
      rfl
    · rw [if_neg h]
      rw [List.filter_eq_nil_iff.2 fun j _ => by simp; omega]
      rfl
  · rintro j _ ⟨h1, h2⟩
    simp only [Bool.and_eq_true, decide_eq_true_eq] at h1 h2
    rw [h2.1, hb] at h1
    cases h1.1
theorem cnt_with {bm c0 : Nat} (hc : c0 < 16) (hn : hasB bm (c0 : Int) = false) : cntB (withB bm (c0 : Int)) = cntB bm + 1 := by
  have h := rank_with hc hn 16
  rw [if_pos hc] at h
  have e : ∀ b, rankB b ((16 : Nat) : Int) = cntB b := fun b => rank_big (by decide)
  rw [e, e] at h
  exact h

/-! ### Nodes -/
def singleB (m : List It) : Bool := m.all fun y => m.all fun z => decide (y.D = z.D)
theorem singleB_iff {m : List It} : singleB m = true ↔ singleI m := by
  unfold singleB singleI
  simp only [List.all_eq_true, decide_eq_true_eq]
def bkD (n : Int) (m : List It) : List UInt8 := sumR n (bucketP (m.map It.pr))
/-- The digest of the node that items make at depth d (f: how many digits there may be behind it). -/
def nodeD (n : Int) : Nat → Nat → List It → List UInt8
  | 0, _, m => bkD n m
  | f + 1, d, m => if singleB m = true then bkD n m else brD n (bmI m d) ((setB (bmI m d)).map fun c => nodeD n f (d + 1) (childI m d c))
def rootD (n : Int) (m : List It) : List UInt8 := if m = [] then sumR n [5] else nodeD n 64 0 m
theorem nodeD_len (n : Int) : ∀ f d m, (nodeD n f d m).length = 32
  | 0, _, m => sumR_len _ _
  | f + 1, d, m => by unfold nodeD; split; exact sumR_len _ _; exact brD_len _ _ _
theorem form_node (n : Int) (hn : widB n = true) : ∀ f d m, formB n (nodeD n f d m) = true
  | 0, _, m => form_sumR n _ hn
  | f + 1, d, m => by unfold nodeD; split; exact form_sumR n _ hn; exact form_brD n hn _ _
theorem nodeD_single (n : Int) (f d : Nat) {m : List It} (h : singleB m = true) : nodeD n f d m = bkD n m := by
  cases f with
  | zero => rfl
  | succ f => unfold nodeD; rw [if_pos h]

/-! ### How deep a tree is -/
theorem getD_nat {l : List UInt8} {j : Nat} (h : j < l.length) : l.getD j 0 = l[j] := by rw [List.getD_eq_getElem?_getD, List.getElem?_eq_getElem h]; rfl
/-- Digests whose digits are alike are alike. -/
theorem dig_eq {n : Nat} {a b : List UInt8} (ha : a.length = 32) (hb : b.length = 32) (fa : formB n a = true) (fb : formB n b = true) (h : ∀ j, j < 2 * n → digP a j = digP b j) : a = b := by
  have za := formB_zero ha fa
  have zb := formB_zero hb fb
  refine List.ext_getElem (by omega) fun j h1 h2 => ?_
  by_cases hj : j < n
  · have e1 := h (2 * j) (by omega)
    have e2 := h (2 * j + 1) (by omega)
    simp only [digP, show 2 * j % 2 = 0 from by omega, show (2 * j + 1) % 2 = 1 from by omega, show 2 * j / 2 = j from by omega, show (2 * j + 1) / 2 = j from by omega, if_true] at e1 e2
    rw [if_neg (by decide), if_neg (by decide)] at e2
    rw [getD_nat h1, getD_nat h2] at e1 e2
    exact UInt8.toNat_inj.1 (by omega)
  · have z : ∀ (l : List UInt8) (hl : j < l.length), (∀ x ∈ l.drop n, x = 0) → l[j] = 0 := by
      intro l hl hz
      refine hz _ ?_
      rw [List.mem_iff_getElem]
      exact ⟨j - n, by rw [List.length_drop]; omega, by rw [List.getElem_drop]; congr 1; omega⟩
    rw [z a h1 za, z b h2 zb]
theorem not_single {m : List It} (h : singleB m = false) : ∃ y ∈ m, ∃ z ∈ m, y.D ≠ z.D := by
  refine Classical.byContradiction fun hc => ?_
  have : singleB m = true := singleB_iff.2 fun y hy z hz => Classical.byContradiction fun hd => hc ⟨y, hy, z, hz, hd⟩
  rw [h] at this
  cases this
/-- A branch stands where there are digits left. -/
theorem br_depth {n d : Nat} {m : List It} (hs : singleB m = false) (hp : Pre d m) (hf : ∀ y ∈ m, formB n y.D = true) : d < 2 * n := by
  obtain ⟨y, hy, z, hz, hne⟩ := not_single hs
  refine Nat.lt_of_not_le fun hle => hne ?_
  exact dig_eq (hp.1 y hy) (hp.1 z hz) (hf y hy) (hf z hz) fun j hj => hp.2 y hy z hz j (by omega)
theorem ne_of_not_single {m : List It} (h : singleB m = false) : m ≠ [] := by rintro rfl; cases h
/-- The value of a key among items. -/
def getI (m : List It) (k : List UInt8) : Option (List UInt8) := (m.find? fun y => decide (y.k = k)).map (·.v)
theorem find_filter {α : Type} (p q : α → Bool) : ∀ (l : List α), (∀ a ∈ l, p a = true → q a = true) → (l.filter q).find? p = l.find? p
  | [], _ => rfl
  | a :: l, h => by
    have ih := find_filter p q l (fun b hb => h b (List.mem_cons_of_mem _ hb))
    cases hq : q a
    · have hp : p a = false := by
        cases hp : p a
        · rfl
        · have := h a (by simp) hp
          rw [hq] at this
          cases this
      rw [List.filter_cons_of_neg (by simp [hq]), ih, List.find?_cons, hp]
    · rw [List.filter_cons_of_pos hq, List.find?_cons, List.find?_cons, ih]
theorem getI_child {n : Int} {m : List It} {k : List UInt8} {d c : Nat} (hD : ∀ y ∈ m, y.D = keyD n y.k) (hc : digP (keyD n k) d = c) : getI (childI m d c) k = getI m k := by
  unfold getI childI
  rw [find_filter]
  intro y hy hk
  have hk' : y.k = k := by simpa using hk
  rw [hD y hy, hk']
  simpa using hc
theorem sorted_keys {m : List It} (hs : SortedI m) (h1 : singleI m) : m.Pairwise fun a b => Lib.compareBytes a.k b.k < 0 := by
  refine List.Pairwise.imp_of_mem ?_ hs
  intro a b ha hb hab
  unfold cmpIt at hab
  rw [h1 a ha b hb, if_pos (cmpB_self _)] at hab
  exact hab
end Go.Proofs.YthlkfjoibjhaiaaGreatDoor

/-! Bld -/
namespace Go.Proofs.YthlkfjoibjhaiaaGreatDoor
set_option maxRecDepth 100000
set_option maxHeartbeats 2000000
open Go Go.RowKit
set_option linter.unusedVariables false
set_option linter.unusedSimpArgs false

theorem fold_set (off : Nat) : ∀ (vs : List Value) (k : Nat) (mid pre post : List Value), vs.length = mid.length → off + k = pre.length →
    (vs.zipIdx k).foldl (fun (cs : Array Value) (p : Value × Nat) => cs.setIfInBounds (off + p.2) p.1) (pre ++ (mid ++ post)).toArray = (pre ++ (vs ++ post)).toArray
  | [], k, mid, pre, post, h, _ => by
    have : mid = [] := List.length_eq_zero_iff.1 h.symm
    subst this
    rfl
  | v :: vs, k, [], pre, post, h, _ => by simp at h
  | v :: vs, k, x :: mid, pre, post, h, hk => by
    have e : ((pre ++ (x :: mid ++ post)).toArray.setIfInBounds (off + k) v) = ((pre ++ [v]) ++ (mid ++ post)).toArray := by
      rw [List.setIfInBounds_toArray, hk, List.set_append_right _ _ (Nat.le_refl _), Nat.sub_self]
      simp
    rw [List.zipIdx_cons, List.foldl_cons]
    simp only [e]
    rw [fold_set off vs (k + 1) mid (pre ++ [v]) post (by simpa using h) (by rw [List.length_append]; simp; omega)]
    simp
theorem fill_step {place : Nat → Option (Nat × Nat)} {i : Nat} {v : Value} {rest : List (Nat × Value)} {pre mid post vs : List Value} (hp : place i = some (pre.length, mid.length)) (hv : v.cells = vs.toArray) (hl : vs.length = mid.length) :
    Instr.fill place (pre ++ (mid ++ post)).toArray ((i, v) :: rest) = Instr.fill place (pre ++ (vs ++ post)).toArray rest := by
  have h1 : ¬ ((decide (v.cells.size ≠ mid.length) || decide (pre.length + v.cells.size > (pre ++ (mid ++ post)).toArray.size)) = true) := by
    rw [hv]
    simp
    omega
  simp only [Instr.fill, hp]
  rw [if_neg h1]
  congr 1
  rw [hv]
  have := fold_set pre.length vs 0 mid pre post hl rfl
  rw [← this]
  rw [← Array.foldl_toList]
  simp
/-- A struct's literal out of its parts, in their order. -/
theorem bldP {P : Program} {T : TypeId} {vals : List (Nat × Value)} {K : Value → Prop} (res : List Value) {place : Nat → Option (Nat × Nat)} {zs : List Value} (hb : P.built T vals = Instr.fill place zs.toArray vals) (hf : Instr.fill place zs.toArray vals = some res.toArray) (hK : K (.agg res.toArray)) : bldV P T vals K := ⟨_, hb.trans hf, hK⟩
end Go.Proofs.YthlkfjoibjhaiaaGreatDoor

/-! Hmt -/
namespace Go.Proofs.YthlkfjoibjhaiaaGreatDoor
set_option maxRecDepth 100000
set_option maxHeartbeats 2000000
open Go Go.RowKit
set_option linter.unusedVariables false
set_option linter.unusedSimpArgs false
attribute [local irreducible] vcT opsT qT vcOp Q1 vcPure vcLoad vcStore ldC ldN ldD grdT grdQ vc vcOps vcQ hT
attribute [local irreducible] sumR sumP shaP keyD bucketP branchP

/-! ### Slices whose cells lie in blocks of S -/
def SlS (S : Nat → Prop) (w : World) (v : Value) (n : Nat) (cells : List Value) : Prop :=
  ∃ a c, v = .slice a n c ∧ n ≤ c ∧ c ≤ 9223372036854775807 ∧ (cells = [] ∨ ∃ b o, a = some ⟨b, o, none⟩ ∧ S b ∧ ∀ j u, cells[j]? = some u → w.cell? ⟨b, o + j, none⟩ = some u)
theorem SlS.sl {S : Nat → Prop} {w : World} {v : Value} {n : Nat} {cells : List Value} (h : SlS S w v n cells) : SlC w v n cells := by
  obtain ⟨a, c, rfl, hn, hm, h⟩ := h
  refine ⟨a, c, rfl, hn, hm, h.imp id ?_⟩
  rintro ⟨k, o, rfl, _, h⟩
  exact ⟨k, o, rfl, h⟩
/-- The blocks of S that there were are as they were. -/
def KeepS (S : Nat → Prop) (w w' : World) : Prop := ∀ b, S b → b < w.heap.size → w'.heap[b]? = w.heap[b]?
theorem KeepS.of_ext {S : Nat → Prop} {w w' : World} (e : Ext w w') : KeepS S w w' := fun b _ hb => e.block b hb
theorem KeepS.cell {S : Nat → Prop} {w w' : World} (h : KeepS S w w') {b o : Nat} (hS : S b) {v : Value} (hc : w.cell? ⟨b, o, none⟩ = some v) : w'.cell? ⟨b, o, none⟩ = some v := by
  have hb := block_lt_of_cell hc
  simp only at hb
  simp only [World.cell?, h b hS hb] at hc ⊢
  exact hc
theorem KeepS.blk {S : Nat → Prop} {w w' : World} (h : KeepS S w w') {b : Nat} (hS : S b) {T : TypeId} {l : List Value} (hB : Blk w b T l) : Blk w' b T l := ⟨by rw [h b hS hB.lt]; exact hB.out⟩
theorem SlS.keep {S : Nat → Prop} {w w' : World} {v : Value} {n : Nat} {cells : List Value} (h : SlS S w v n cells) (k : KeepS S w w') : SlS S w' v n cells := by
  obtain ⟨a, c, rfl, hn, hm, h⟩ := h
  refine ⟨a, c, rfl, hn, hm, h.imp id ?_⟩
  rintro ⟨b, o, rfl, hS, h⟩
  exact ⟨b, o, rfl, hS, fun j u hj => k.cell hS (h j u hj)⟩
theorem SlS.mono {S S' : Nat → Prop} {w : World} {v : Value} {n : Nat} {cells : List Value} (h : SlS S w v n cells) (hS : ∀ b, S b → S' b) : SlS S' w v n cells := by
  obtain ⟨a, c, rfl, hn, hm, h⟩ := h
  refine ⟨a, c, rfl, hn, hm, h.imp id ?_⟩
  rintro ⟨b, o, rfl, hb, h⟩
  exact ⟨b, o, rfl, hS b hb, h⟩
theorem SlS.of_blk {S : Nat → Prop} {w : World} {b T n : Nat} {l : List Value} (h : Blk w b T l) (hS : S b) (hn : n ≤ 9223372036854775807) : SlS S w (.slice (some ⟨b, 0, none⟩) n n) n l :=
  ⟨_, n, rfl, Nat.le_refl _, hn, Or.inr ⟨b, 0, rfl, hS, fun j u hj => by rw [h.cell, Nat.zero_add]; exact hj⟩⟩
theorem SlS.of_own {S : Nat → Prop} {w : World} {base e sz n : Nat} {v : Value} {xs : List Value} (h : Own w base e sz v n xs) (hS : ∀ b, base ≤ b → S b) : SlS S w v n xs := by
  have h' := SlC.of_own h
  rcases h.2 with ⟨rfl, rfl⟩ | ⟨g, cap, cur, rfl, hb, _⟩
  · exact ⟨none, 0, rfl, Nat.le_refl _, by omega, Or.inl (List.length_eq_zero_iff.1 (by simpa using h.1))⟩
  · obtain ⟨a, c, he, h1, h2, h3⟩ := h'
    cases he
    refine ⟨_, _, rfl, h1, h2, h3.imp id ?_⟩
    rintro ⟨b, o, he, h⟩
    cases he
    exact ⟨g, 0, rfl, hS g hb, h⟩
theorem SlS.of_sl {w : World} {v : Value} {n : Nat} {cells : List Value} (h : SlC w v n cells) : SlS (fun _ => True) w v n cells := by
  obtain ⟨a, c, rfl, hn, hm, h⟩ := h
  refine ⟨a, c, rfl, hn, hm, h.imp id ?_⟩
  rintro ⟨b, o, rfl, g⟩
  exact ⟨b, o, rfl, trivial, g⟩
/-- Pairs in blocks of S. -/
def PairsS (S : Nat → Prop) (w : World) (v : Value) (ps : List PR) : Prop := SlS S w v ps.length (ps.flatMap PR.cells) ∧ ∀ p ∈ ps, SlS S w p.kv p.k.length (vbs p.k) ∧ SlS S w p.vv p.v.length (vbs p.v)
theorem PairsS.at {S : Nat → Prop} {w : World} {v : Value} {ps : List PR} (h : PairsS S w v ps) : PairsAt w v ps := ⟨h.1.sl, fun p hp => ⟨(h.2 p hp).1.sl, (h.2 p hp).2.sl⟩⟩
theorem PairsS.keep {S : Nat → Prop} {w w' : World} {v : Value} {ps : List PR} (h : PairsS S w v ps) (k : KeepS S w w') : PairsS S w' v ps := ⟨h.1.keep k, fun p hp => ⟨(h.2 p hp).1.keep k, (h.2 p hp).2.keep k⟩⟩
theorem PairsS.mono {S S' : Nat → Prop} {w : World} {v : Value} {ps : List PR} (h : PairsS S w v ps) (hS : ∀ b, S b → S' b) : PairsS S' w v ps := ⟨h.1.mono hS, fun p hp => ⟨(h.2 p hp).1.mono hS, (h.2 p hp).2.mono hS⟩⟩

/-! ### Nodes and maps in memory -/
def headD (m : List It) : List UInt8 := match m with | [] => [] | y :: _ => y.D
abbrev bkV (b : Nat) : Value := .iface 216 (.pointer (some ⟨b, 0, none⟩))
abbrev brV (b : Nat) : Value := .iface 221 (.pointer (some ⟨b, 0, none⟩))
structure BkIn (n : Int) (S : Nat → Prop) (W : World) (m : List It) (b : Nat) (pv : Value) (ps : List PR) : Prop where
  own : S b
  blk : Blk W b 220 (vbs (headD m) ++ (pv :: vbs (bkD n m)))
  prs : PairsS S W pv ps
  dat : ps.map PR.dat = m.map It.pr
structure BrIn (n : Int) (S : Nat → Prop) (W : World) (d : Nat) (m : List It) (D : List UInt8) (b : Nat) (kv : Value) (vs : List Value) : Prop where
  own : S b
  blk : Blk W b 225 (.int .u16 (bmI m d : Nat) :: kv :: (vbs D ++ [.int .i64 m.length]))
  kids : SlS S W kv vs.length vs
  one : ∀ x ∈ vs, oneCellV x = true
  len : vs.length = cntB (bmI m d)
/-- The node at depth d of these items (one at least); f: how many digits there may be behind it. -/
def NodeAt (n : Int) (S : Nat → Prop) (W : World) : Nat → Nat → List It → Value → Prop
  | 0, _, m, v => singleB m = true ∧ ∃ b pv ps, v = bkV b ∧ BkIn n S W m b pv ps
  | f + 1, d, m, v => if singleB m = true then ∃ b pv ps, v = bkV b ∧ BkIn n S W m b pv ps else
      ∃ b kv vs, v = brV b ∧ BrIn n S W d m (nodeD n (f + 1) d m) b kv vs ∧ ∀ c, hasI m d c = true → ∃ x, vs[rankB (bmI m d) (c : Int)]? = some x ∧ NodeAt n S W f (d + 1) (childI m d c) x
theorem NodeAt.bk {n : Int} {S : Nat → Prop} {W : World} {f d : Nat} {m : List It} {v : Value} (hs : singleB m = true) : NodeAt n S W f d m v ↔ ∃ b pv ps, v = bkV b ∧ BkIn n S W m b pv ps := by
  cases f with
  | zero => unfold NodeAt; exact ⟨fun h => h.2, fun h => ⟨hs, h⟩⟩
  | succ f => unfold NodeAt; rw [if_pos hs]
theorem NodeAt.br {n : Int} {S : Nat → Prop} {W : World} {f d : Nat} {m : List It} {v : Value} (hs : singleB m = false) : NodeAt n S W (f + 1) d m v ↔ ∃ b kv vs, v = brV b ∧ BrIn n S W d m (nodeD n (f + 1) d m) b kv vs ∧ ∀ c, hasI m d c = true → ∃ x, vs[rankB (bmI m d) (c : Int)]? = some x ∧ NodeAt n S W f (d + 1) (childI m d c) x := by
  rw [NodeAt, if_neg (by simp [hs])]
theorem BkIn.keep {n : Int} {S : Nat → Prop} {W W' : World} {m : List It} {b : Nat} {pv : Value} {ps : List PR} (h : BkIn n S W m b pv ps) (k : KeepS S W W') : BkIn n S W' m b pv ps := ⟨h.own, k.blk h.own h.blk, h.prs.keep k, h.dat⟩
theorem BkIn.mono {n : Int} {S S' : Nat → Prop} {W : World} {m : List It} {b : Nat} {pv : Value} {ps : List PR} (h : BkIn n S W m b pv ps) (hS : ∀ b, S b → S' b) : BkIn n S' W m b pv ps := ⟨hS _ h.own, h.blk, h.prs.mono hS, h.dat⟩
theorem NodeAt.keep {n : Int} {S : Nat → Prop} {W W' : World} (k : KeepS S W W') : ∀ {f d : Nat} {m : List It} {v : Value}, NodeAt n S W f d m v → NodeAt n S W' f d m v
  | 0, d, m, v, h => by
    unfold NodeAt at h ⊢
    obtain ⟨hs, b, pv, ps, e, hb⟩ := h
    exact ⟨hs, b, pv, ps, e, hb.keep k⟩
  | f + 1, d, m, v, h => by
    cases hs : singleB m
    · rw [NodeAt.br hs] at h ⊢
      obtain ⟨b, kv, vs, e, hb, hk⟩ := h
      exact ⟨b, kv, vs, e, ⟨hb.own, k.blk hb.own hb.blk, hb.kids.keep k, hb.one, hb.len⟩, fun c hc => by obtain ⟨x, h1, h2⟩ := hk c hc; exact ⟨x, h1, NodeAt.keep k h2⟩⟩
    · rw [NodeAt.bk hs] at h ⊢
      obtain ⟨b, pv, ps, e, hb⟩ := h
      exact ⟨b, pv, ps, e, hb.keep k⟩
theorem NodeAt.mono {n : Int} {S S' : Nat → Prop} {W : World} (hS : ∀ b, S b → S' b) : ∀ {f d : Nat} {m : List It} {v : Value}, NodeAt n S W f d m v → NodeAt n S' W f d m v
  | 0, d, m, v, h => by
    unfold NodeAt at h ⊢
    obtain ⟨hs, b, pv, ps, e, hb⟩ := h
    exact ⟨hs, b, pv, ps, e, hb.mono hS⟩
  | f + 1, d, m, v, h => by
    cases hs : singleB m
    · rw [NodeAt.br hs] at h ⊢
      obtain ⟨b, kv, vs, e, hb, hk⟩ := h
      exact ⟨b, kv, vs, e, ⟨hS _ hb.own, hb.blk, hb.kids.mono hS, hb.one, hb.len⟩, fun c hc => by obtain ⟨x, h1, h2⟩ := hk c hc; exact ⟨x, h1, NodeAt.mono hS h2⟩⟩
    · rw [NodeAt.bk hs] at h ⊢
      obtain ⟨b, pv, ps, e, hb⟩ := h
      exact ⟨b, pv, ps, e, hb.mono hS⟩
theorem NodeAt.ext {n : Int} {S : Nat → Prop} {W W' : World} {f d : Nat} {m : List It} {v : Value} (h : NodeAt n S W f d m v) (e : Ext W W') : NodeAt n S W' f d m v := h.keep (KeepS.of_ext e)
/-- Items as a map of width n has them. -/
structure OkI (n : Int) (m : List It) : Prop where
  sorted : SortedI m
  dig : ∀ y ∈ m, y.D = keyD n y.k
  short : ∀ y ∈ m, y.k.length ≤ 64 ∧ y.v.length ≤ 256
structure MapAt (n : Int) (S : Nat → Prop) (W : World) (mv : Value) (m : List It) : Prop where
  out : ∃ b top, mv = .pointer (some ⟨b, 0, none⟩) ∧ S b ∧ Blk W b 211 [.int .i64 n, top] ∧ (m = [] → top = .nilIface) ∧ (m ≠ [] → NodeAt n S W 64 0 m top)
theorem MapAt.keep {n : Int} {S : Nat → Prop} {W W' : World} {mv : Value} {m : List It} (h : MapAt n S W mv m) (k : KeepS S W W') : MapAt n S W' mv m := by
  obtain ⟨b, top, e, hS, hB, h1, h2⟩ := h
  exact ⟨b, top, e, hS, k.blk hS hB, h1, fun hm => (h2 hm).keep k⟩
theorem MapAt.ext {n : Int} {S : Nat → Prop} {W W' : World} {mv : Value} {m : List It} (h : MapAt n S W mv m) (e : Ext W W') : MapAt n S W' mv m := h.keep (KeepS.of_ext e)
theorem MapAt.mono {n : Int} {S S' : Nat → Prop} {W : World} {mv : Value} {m : List It} (h : MapAt n S W mv m) (hS : ∀ b, S b → S' b) : MapAt n S' W mv m := by
  obtain ⟨b, top, e, hb, hB, h1, h2⟩ := h
  exact ⟨b, top, e, hS _ hb, hB, h1, fun hm => (h2 hm).mono hS⟩

/-! ### sum, count -/
theorem callSumBk (v : Value) (w : World) : (callMethod (.iface 216 v) "notary/hamt.sum" #[]).run Tryz.prog w = .ok (.enter 405 #[v]) w := by kernel_rfl
theorem callSumBr (v : Value) (w : World) : (callMethod (.iface 221 v) "notary/hamt.sum" #[]).run Tryz.prog w = .ok (.enter 407 #[v]) w := by kernel_rfl
theorem callCntBk (v : Value) (w : World) : (callMethod (.iface 216 v) "notary/hamt.count" #[]).run Tryz.prog w = .ok (.enter 404 #[v]) w := by kernel_rfl
theorem callCntBr (v : Value) (w : World) : (callMethod (.iface 221 v) "notary/hamt.count" #[]).run Tryz.prog w = .ok (.enter 406 #[v]) w := by kernel_rfl
theorem sumBk_ok (b : Nat) (o : List UInt8) (pv : Value) (d : List UInt8) (ho : o.length = 32) (hd : d.length = 32) (w : World) (hB : Blk w b 220 (vbs o ++ (pv :: vbs d))) :
    CallK Tryz.prog 405 [.pointer (some ⟨b, 0, none⟩)].toArray w fun v w' => v = .agg (vbs d).toArray ∧ Ext w w' := by
  have hl := hB.lt
  have hol : (vbs o).length = 32 := by rw [vbs_len]; exact ho
  have e1 : (vbs o ++ (pv :: vbs d)).drop 33 = vbs d := by
    rw [show vbs o ++ (pv :: vbs d) = (vbs o ++ [pv]) ++ vbs d from by simp, List.drop_append, List.drop_eq_nil_of_le (by simp; omega)]
    simp [hol]
  refine enterT Tryz.func405 rfl Tryz.ntmps405 Tryz.results405 rfl (by decide) ?_
  repeat (first | exact trivial | refine stpg ?_)
  first | refine newS ?_ | refine newZ ?_
  intro w1 hE1 hz1 hB1
  repeat (first | exact trivial | refine stpg ?_)
  refine ldNg (hm := by rw [e1, vbs_tk hd]) ?_
  repeat (first | exact trivial | refine stpg ?_)
  refine stW ?_
  intro w2 hP2 hz2 hB2
  repeat (first | exact trivial | refine stpg ?_)
  exact Ext.go
theorem sumBr_ok (b : Nat) (bm : Nat) (kv : Value) (d : List UInt8) (x : Value) (hd : d.length = 32) (w : World) (hB : Blk w b 225 (.int .u16 bm :: kv :: (vbs d ++ [x]))) :
    CallK Tryz.prog 407 [.pointer (some ⟨b, 0, none⟩)].toArray w fun v w' => v = .agg (vbs d).toArray ∧ Ext w w' := by
  have hl := hB.lt
  have hdl : (vbs d).length = 32 := by rw [vbs_len]; exact hd
  refine enterT Tryz.func407 rfl Tryz.ntmps407 Tryz.results407 rfl (by decide) ?_
  repeat (first | exact trivial | refine stpg ?_)
  first | refine newS ?_ | refine newZ ?_
  intro w1 hE1 hz1 hB1
  repeat (first | exact trivial | refine stpg ?_)
  refine ldNg (m := vbs d) (hm := by rw [List.drop_succ_cons, List.drop_succ_cons, List.drop_zero, List.take_append_of_le_length (by omega), vbs_tk hd]) ?_
  repeat (first | exact trivial | refine stpg ?_)
  refine stW ?_
  intro w2 hP2 hz2 hB2
  repeat (first | exact trivial | refine stpg ?_)
  exact Ext.go
theorem cntBk_ok (b : Nat) (o : List UInt8) (a : Option Addr) (k c : Nat) (d : List UInt8) (ho : o.length = 32) (w : World) (hB : Blk w b 220 (vbs o ++ (.slice a k c :: vbs d))) :
    CallK Tryz.prog 404 [.pointer (some ⟨b, 0, none⟩)].toArray w fun v w' => v = .int .i64 k ∧ Ext w w' := by
  have hol : (vbs o).length = 32 := by rw [vbs_len]; exact ho
  refine enterT Tryz.func404 rfl Tryz.ntmps404 Tryz.results404 rfl (by decide) ?_
  repeat (first | exact trivial | refine stpg ?_)
  refine ldCg (hv := by rw [List.getElem?_append_right (by omega), hol]; rfl) ?_
  repeat (first | exact trivial | refine stpg ?_)
  exact Ext.rfl' _
theorem cntBr_ok (b : Nat) (bm : Nat) (kv : Value) (d : List UInt8) (x : Value) (hd : d.length = 32) (w : World) (hB : Blk w b 225 (.int .u16 bm :: kv :: (vbs d ++ [x]))) :
    CallK Tryz.prog 406 [.pointer (some ⟨b, 0, none⟩)].toArray w fun v w' => v = x ∧ Ext w w' := by
  have hdl : (vbs d).length = 32 := by rw [vbs_len]; exact hd
  refine enterT Tryz.func406 rfl Tryz.ntmps406 Tryz.results406 rfl (by decide) ?_
  repeat (first | exact trivial | refine stpg ?_)
  refine ldCg (hv := by rw [show (34 : Nat) = 32 + 1 + 1 from rfl, List.getElem?_cons_succ, List.getElem?_cons_succ, List.getElem?_append_right (by omega), hdl]; rfl) ?_
  repeat (first | exact trivial | refine stpg ?_)
  exact Ext.rfl' _
theorem headD_len {n : Int} {m : List It} (hm : m ≠ []) (hl : ∀ y ∈ m, y.D.length = 32) : (headD m).length = 32 := by
  cases m with
  | nil => exact absurd rfl hm
  | cons y m => exact hl y (by simp)
theorem bkD_len (n : Int) (m : List It) : (bkD n m).length = 32 := sumR_len _ _
/-- A node's digest. -/
theorem node_sum {n : Int} {S : Nat → Prop} {w : World} {f d : Nat} {m : List It} {v : Value} (h : NodeAt n S w f d m v) (hm : m ≠ []) (hl : ∀ y ∈ m, y.D.length = 32) :
    InvK Tryz.prog v "notary/hamt.sum" #[] w fun r w' => r = .agg (vbs (nodeD n f d m)).toArray ∧ Ext w w' := by
  cases hs : singleB m
  · cases f with
    | zero => unfold NodeAt at h; rw [hs] at h; cases h.1
    | succ f =>
      rw [NodeAt.br hs] at h
      obtain ⟨b, kv, vs, rfl, hb, _⟩ := h
      exact ⟨⟨_, _, callSumBr _ w, (sumBr_ok b _ kv _ _ (nodeD_len n _ _ _) w hb.blk).body (by kernel_rfl)⟩⟩
  · rw [NodeAt.bk hs] at h
    obtain ⟨b, pv, ps, rfl, hb⟩ := h
    rw [nodeD_single n f d hs]
    exact ⟨⟨_, _, callSumBk _ w, (sumBk_ok b _ pv _ (headD_len (n := n) hm hl) (bkD_len n m) w hb.blk).body (by kernel_rfl)⟩⟩
/-- How many items a node has. -/
theorem node_count {n : Int} {S : Nat → Prop} {w : World} {f d : Nat} {m : List It} {v : Value} (h : NodeAt n S w f d m v) (hm : m ≠ []) (hl : ∀ y ∈ m, y.D.length = 32) :
    InvK Tryz.prog v "notary/hamt.count" #[] w fun r w' => r = .int .i64 m.length ∧ Ext w w' := by
  cases hs : singleB m
  · cases f with
    | zero => unfold NodeAt at h; rw [hs] at h; cases h.1
    | succ f =>
      rw [NodeAt.br hs] at h
      obtain ⟨b, kv, vs, rfl, hb, _⟩ := h
      exact ⟨⟨_, _, callCntBr _ w, (cntBr_ok b _ kv _ _ (nodeD_len n _ _ _) w hb.blk).body (by kernel_rfl)⟩⟩
  · rw [NodeAt.bk hs] at h
    obtain ⟨b, pv, ps, rfl, hb⟩ := h
    obtain ⟨a, c, he⟩ := slv_of hb.prs.1.sl
    have hl2 : ps.length = m.length := by have := congrArg List.length hb.dat; simpa using this
    have hB := hb.blk
    rw [he] at hB
    rw [← hl2]
    exact ⟨⟨_, _, callCntBk _ w, (cntBk_ok b _ a _ c _ (headD_len (n := n) hm hl) w hB).body (by kernel_rfl)⟩⟩

/-! ### New, Width, Len, Root, digit -/
theorem New_hamt_ok (n : Int) (w : World) :
    CallK Tryz.prog 38 [.int .i64 n].toArray w fun r w' => (widB n = false → r = .tuple [.pointer none, .int .i64 1].toArray) ∧ (widB n = true → ∃ mv, r = .tuple [mv, .int .i64 0].toArray ∧ MapAt n (fun b => w.heap.size ≤ b) w' mv []) ∧ Ext w w' := by
  refine enterT Tryz.func38 rfl Tryz.ntmps38 Tryz.results38 rfl (by decide) ?_
  repeat (first | exact trivial | refine stpg ?_)
  cases hw : widB n
  · have h1 : ¬ (1 ≤ n ∧ n ≤ 32) := fun h => by rw [(widB_iff n).2 h] at hw; cases hw
    refine ⟨fun h2 => ?_, fun h2 => ?_⟩
    · repeat (first | exact trivial | refine stpg ?_)
      exact Ext.go
    · repeat (first | exact trivial | refine stpg ?_)
      refine ⟨fun h3 => ?_, fun h3 => by omega⟩
      repeat (first | exact trivial | refine stpg ?_)
      exact Ext.go
  · have h1 := (widB_iff n).1 hw
    refine ⟨fun h2 => by omega, fun h2 => ?_⟩
    repeat (first | exact trivial | refine stpg ?_)
    intro h3
    refine bldC [.int .i64 n, .nilIface] (by kernel_rfl) ?_
    repeat (first | exact trivial | refine stpg ?_)
    first | refine newS ?_ | refine newZ ?_
    intro w1 hE1 hz1 hB1
    repeat (first | exact trivial | refine stpg ?_)
    exact ⟨⟨_, rfl, ⟨w.heap.size, .nilIface, rfl, Nat.le_refl _, hB1, fun _ => rfl, fun h => absurd rfl h⟩⟩, .go⟩
theorem Width_hamt_ok (n : Int) (S : Nat → Prop) (mv : Value) (m : List It) (w : World) (h : MapAt n S w mv m) :
    CallK Tryz.prog 122 [mv].toArray w fun v w' => v = .int .i64 n ∧ Ext w w' := by
  obtain ⟨b, top, rfl, hS, hB, _⟩ := h
  refine enterT Tryz.func122 rfl Tryz.ntmps122 Tryz.results122 rfl (by decide) ?_
  repeat (first | exact trivial | refine stpg ?_)
  exact Ext.rfl' _
theorem InvK.mono {P : Program} {recv : Value} {name : String} {args : Array Value} {w : World} {K K' : Value → World → Prop} (h : InvK P recv name args w K) (hk : ∀ v w', K v w' → K' v w') : InvK P recv name args w K' := by
  obtain ⟨f, vs, hr, hc⟩ := h.out
  exact ⟨⟨f, vs, hr, hc.mono hk⟩⟩
theorem NodeAt.iface {n : Int} {S : Nat → Prop} {w : World} {f d : Nat} {m : List It} {v : Value} (h : NodeAt n S w f d m v) : ∃ t u, v = .iface t u := by
  cases hs : singleB m
  · cases f with
    | zero => unfold NodeAt at h; rw [hs] at h; cases h.1
    | succ f =>
      rw [NodeAt.br hs] at h
      obtain ⟨b, kv, vs, rfl, _⟩ := h
      exact ⟨_, _, rfl⟩
  · rw [NodeAt.bk hs] at h
    obtain ⟨b, pv, ps, rfl, hb⟩ := h
    exact ⟨_, _, rfl⟩
theorem Root_hamt_ok (n : Int) (S : Nat → Prop) (mv : Value) (m : List It) (w : World) (hW : WordsAt w 1) (h : MapAt n S w mv m) (hl : ∀ y ∈ m, y.D.length = 32) :
    CallK Tryz.prog 51 [mv].toArray w fun v w' => v = .agg (vbs (rootD n m)).toArray ∧ Ext w w' := by
  obtain ⟨b, top, rfl, hS, hB, h1, h2⟩ := h
  have hb := hB.lt
  by_cases hm : m = []
  · obtain rfl := h1 hm
    subst hm
    have hsl := sumR_len n [5]
    refine enterT Tryz.func51 rfl Tryz.ntmps51 Tryz.results51 rfl (by decide) ?_
    repeat (first | exact trivial | refine stpg ?_)
    first | refine newS ?_ | refine newZ ?_
    intro w1 hE1 hz1 hB1
    repeat (first | exact trivial | refine stpg ?_)
    refine (NoMap_ok n w1 (hW.ext .go)).mono ?_
    rintro _ w2 ⟨rfl, hE2⟩
    have hz2 := hE2.size
    repeat (first | exact trivial | refine stpg ?_)
    first | refine newS ?_ | refine newZ ?_
    intro w3 hE3 hz3 hB3
    repeat (first | exact trivial | refine stpg ?_)
    refine stW ?_
    intro w4 hP4 hz4 hB4
    repeat (first | exact trivial | refine stpg ?_)
    exact ⟨rfl, .go⟩
  · have hN := h2 hm
    obtain ⟨t, u, rfl⟩ := hN.iface
    have hnl := nodeD_len n 64 0 m
    refine enterT Tryz.func51 rfl Tryz.ntmps51 Tryz.results51 rfl (by decide) ?_
    repeat (first | exact trivial | refine stpg ?_)
    first | refine newS ?_ | refine newZ ?_
    intro w1 hE1 hz1 hB1
    repeat (first | exact trivial | refine stpg ?_)
    refine (node_sum (hN.ext .go) hm hl).mono ?_
    rintro _ w2 ⟨rfl, hE2⟩
    have hz2 := hE2.size
    repeat (first | exact trivial | refine stpg ?_)
    refine stW ?_
    intro w3 hP3 hz3 hB3
    repeat (first | exact trivial | refine stpg ?_)
    exact ⟨by rw [rootD, if_neg hm], .go⟩
theorem digit_hamt_ok (n : Int) (b : Nat) (top : Value) (D : List UInt8) (hD : D.length = 32) (d : Int) (w : World) (hB : Blk w b 211 [.int .i64 n, top]) :
    CallK Tryz.prog 136 [.pointer (some ⟨b, 0, none⟩), .agg (vbs D).toArray, .int .i64 d].toArray w fun v w' => v = .int .i64 (atP n D d).1 ∧ Ext w w' := by
  have hb := hB.lt
  refine enterT Tryz.func136 rfl Tryz.ntmps136 Tryz.results136 rfl (by decide) ?_
  repeat (first | exact trivial | refine stpg ?_)
  first | refine newS ?_ | refine newZ ?_
  intro w1 hE1 hz1 hB1
  repeat (first | exact trivial | refine stpg ?_)
  refine qcall _ (fun w' _ => At_ok n D hD d w') ?_
  repeat (first | exact trivial | refine stpg ?_)
  intro w2 hE2
  repeat (first | exact trivial | refine stpg ?_)
  exact Ext.go
theorem blt_bucket (parts : List (Nat × Value)) : Tryz.prog.built 220 parts = Instr.fill (#[(0, 32), (32, 1), (33, 32)][·]?) (List.replicate 32 (.int .u8 0) ++ (.slice none 0 0 :: List.replicate 32 (.int .u8 0)) : List Value).toArray parts := by kernel_rfl
theorem bld_bucket (o d : List UInt8) (ho : o.length = 32) (hd : d.length = 32) (a : Option Addr) (k c : Nat) {K : Value → Prop} (hK : K (.agg (vbs o ++ (.slice a k c :: vbs d)).toArray)) :
    bldV Tryz.prog 220 [(0, .agg (vbs o).toArray), (1, .slice a k c), (2, .agg (vbs d).toArray)] K := by
  refine bldP _ (blt_bucket _) ?_ hK
  have e1 := fill_step (place := (#[(0, 32), (32, 1), (33, 32)][·]?)) (i := 0) (v := .agg (vbs o).toArray) (rest := [(1, .slice a k c), (2, .agg (vbs d).toArray)]) (pre := []) (mid := List.replicate 32 (.int .u8 0)) (post := .slice none 0 0 :: List.replicate 32 (.int .u8 0)) (vs := vbs o) rfl rfl (by rw [vbs_len, ho]; rfl)
  have hol : (vbs o).length = 32 := by rw [vbs_len]; exact ho
  have e2 := fill_step (place := (#[(0, 32), (32, 1), (33, 32)][·]?)) (i := 1) (v := .slice a k c) (rest := [(2, .agg (vbs d).toArray)]) (pre := vbs o) (mid := [.slice none 0 0]) (post := List.replicate 32 (.int .u8 0)) (vs := [.slice a k c]) (by rw [hol]; rfl) rfl rfl
  have e3 := fill_step (place := (#[(0, 32), (32, 1), (33, 32)][·]?)) (i := 2) (v := .agg (vbs d).toArray) (rest := []) (pre := vbs o ++ [.slice a k c]) (mid := List.replicate 32 (.int .u8 0)) (post := []) (vs := vbs d) (by rw [List.length_append, hol]; rfl) rfl (by rw [vbs_len, hd]; rfl)
  rw [List.nil_append] at e1
  rw [e1]
  simp only [List.nil_append, List.append_assoc, List.cons_append, List.append_nil] at e2 e3 ⊢
  rw [e2, e3]
  rfl
/-- pour, told of the words alone. -/
theorem pour_ok (n : Int) (b : Nat) (top : Value) (D : List UInt8) (hD : D.length = 32) (pv : Value) (ps : List PR) (w : World) (hW : WordsAt w 1) (hB : Blk w b 211 [.int .i64 n, top]) (hp : PairsAt w pv ps) (hsz : (bucketP (ps.map PR.dat)).length + 16 ≤ 140737488355328) :
    CallK Tryz.prog 247 [.pointer (some ⟨b, 0, none⟩), .agg (vbs D).toArray, pv].toArray w fun v w' => ∃ g, v = .pointer (some ⟨g, 0, none⟩) ∧ w.heap.size ≤ g ∧ Blk w' g 220 (vbs D ++ (pv :: vbs (sumR n (bucketP (ps.map PR.dat))))) ∧ Ext w w' := by
  have hb := hB.lt
  obtain ⟨a, c, rfl⟩ := slv_of hp.1
  refine enterT Tryz.func247 rfl Tryz.ntmps247 Tryz.results247 rfl (by decide) ?_
  repeat (first | exact trivial | refine stpg ?_)
  first | refine newS ?_ | refine newZ ?_
  intro w1 hE1 hz1 hB1
  repeat (first | exact trivial | refine stpg ?_)
  have hsl := sumR_len n (bucketP (ps.map PR.dat))
  refine (Bucket_ok n _ ps w1 (hW.ext .go) (hp.ext .go) hsz).mono ?_
  rintro _ w2 ⟨rfl, hE2⟩
  have hz2 := hE2.size
  repeat (first | exact trivial | refine stpg ?_)
  first | refine newS ?_ | refine newZ ?_
  intro w3 hE3 hz3 hB3
  repeat (first | exact trivial | refine stpg ?_)
  refine bld_bucket D _ hD hsl a ps.length c ?_
  repeat (first | exact trivial | refine stpg ?_)
  first | refine newS ?_ | refine newZ ?_
  intro w4 hE4 hz4 hB4
  repeat (first | exact trivial | refine stpg ?_)
  refine ⟨w3.heap.size, rfl, by omega, hB4, .go⟩
end Go.Proofs.YthlkfjoibjhaiaaGreatDoor

/-! Hmb -/
namespace Go.Proofs.YthlkfjoibjhaiaaGreatDoor
set_option maxRecDepth 100000
set_option maxHeartbeats 2000000
open Go Go.RowKit
set_option linter.unusedVariables false
set_option linter.unusedSimpArgs false
attribute [local irreducible] vcT opsT qT vcOp Q1 vcPure vcLoad vcStore ldC ldN ldD grdT grdQ vc vcOps vcQ hT
attribute [local irreducible] sumR sumP shaP keyD bucketP branchP

theorem dynCall {P : Program} {g : FuncId} {args : Array Value} {w : World} {K : Value → World → Prop} (h : CallB P g args w K) : YieldVC P (.func (.func g) #[] #[]) args w K := ⟨Or.inr ⟨g, #[], #[], rfl, by simpa using h⟩⟩
theorem isNaN_ok (x : UInt8) (w : World) : CallK Tryz.prog 366 [vb x].toArray w fun v w' => v = .bool false ∧ Ext w w' := by
  unfold vb
  refine enterT Tryz.func366 rfl Tryz.ntmps366 Tryz.results366 rfl (by decide) ?_
  repeat (first | exact trivial | refine stpg ?_)
  exact Ext.rfl' _
theorem cmpCompare_ok (x y : UInt8) (w : World) : CallK Tryz.prog 332 [vb x, vb y].toArray w fun v w' => v = .int .i64 (if x < y then -1 else if y < x then 1 else 0) ∧ Ext w w' := by
  have hx := isNaN_ok x
  have hy := isNaN_ok y
  unfold vb at *
  refine enterT Tryz.func332 rfl Tryz.ntmps332 Tryz.results332 rfl (by decide) ?_
  repeat (first | exact trivial | refine stpg ?_)
  refine (hx w).mono ?_
  rintro _ w1 ⟨rfl, hE1⟩
  have hz1 := hE1.size
  repeat (first | exact trivial | refine stpg ?_)
  refine (hy w1).mono ?_
  rintro _ w2 ⟨rfl, hE2⟩
  have hz2 := hE2.size
  repeat (first | exact trivial | refine stpg ?_)
  refine ⟨fun h1 => ?_, fun h1 => ?_⟩
  · repeat (first | exact trivial | refine stpg ?_)
    exact ⟨by rw [if_pos ((u8_lt _ _).1 h1)], .go⟩
  · repeat (first | exact trivial | refine stpg ?_)
    refine ⟨fun h2 => ?_, fun h2 => ?_⟩
    · repeat (first | exact trivial | refine stpg ?_)
      exact ⟨by rw [if_neg (fun h => h1 ((u8_lt _ _).2 h)), if_pos ((u8_lt _ _).1 h2)], .go⟩
    · repeat (first | exact trivial | refine stpg ?_)
      exact ⟨by rw [if_neg (fun h => h1 ((u8_lt _ _).2 h)), if_neg (fun h => h2 ((u8_lt _ _).2 h))], .go⟩
theorem sCompare_ok (xs ys : List UInt8) (u v : Value) (w : World) (hu : SlB w u xs) (hv : SlB w v ys) :
    CallK Tryz.prog 256 [u, v].toArray w fun r w' => r = .int .i64 (Lib.compareBytes xs ys) ∧ Ext w w' := by
  have hul : xs.length ≤ 9223372036854775807 := by obtain ⟨_, _, _, h1, h2, _⟩ := hu; omega
  obtain ⟨au, cu, rfl⟩ := slv_of hu
  obtain ⟨av, cv, rfl⟩ := slv_of hv
  refine enterT Tryz.func256 rfl Tryz.ntmps256 Tryz.results256 rfl (by decide) ?_
  repeat (first | exact trivial | refine stpg ?_)
  refine loopX (ι := Nat) (fun k => [(0, .slice au xs.length cu), (1, .slice av ys.length cv), (9, .slice au xs.length cu), (10, .int .i64 xs.length), (11, .int .i64 k)]) (fun k w' => Ext w w' ∧ k ≤ xs.length ∧ k ≤ ys.length ∧ xs.take k = ys.take k) (fun k => xs.length - k) 0 ⟨.go, Nat.zero_le _, Nat.zero_le _, by simp⟩ ?_ ?_
  · repeat (first | exact trivial | refine stpg ?_)
  · rintro k s1 w1 ⟨hE1, hk1, hk2, htk⟩
    have hcd := cmp_drop k xs ys hk1 hk2 htk
    repeat (first | exact trivial | refine stpg ?_)
    refine ⟨fun hlt => ?_, fun hge => ?_⟩
    · obtain ⟨bu, ou, rfl, hRu⟩ := hu.rowB (by omega)
      repeat (first | exact trivial | refine stpg ?_)
      refine ldByte (xs := xs) ?_
      repeat (first | exact trivial | refine stpg ?_)
      refine ⟨fun h1 => ?_, fun h1 => ?_⟩
      · have hn : ys.drop k = [] := List.drop_eq_nil_of_le (by omega)
        repeat (first | exact trivial | refine stpg ?_)
        refine ⟨?_, .go⟩
        rw [hcd, hn, getD_drop (by omega)]
        rfl
      · obtain ⟨bv, ov, rfl, hRv⟩ := hv.rowB (by omega)
        repeat (first | exact trivial | refine stpg ?_)
        refine ldByte (xs := ys) ?_
        repeat (first | exact trivial | refine stpg ?_)
        refine (cmpCompare_ok (xs.getD k 0) (ys.getD k 0) w1).mono ?_
        rintro _ w2 ⟨rfl, hE2⟩
        rw [getD_drop (xs := xs) (by omega), getD_drop (xs := ys) (by omega), Lib.compareBytes] at hcd
        by_cases h2 : xs.getD k 0 < ys.getD k 0
        · rw [if_pos h2] at hcd ⊢
          repeat (first | exact trivial | refine stpg ?_)
          exact Ext.go
        · rw [if_neg h2] at hcd ⊢
          by_cases h3 : ys.getD k 0 < xs.getD k 0
          · rw [if_pos h3] at hcd ⊢
            repeat (first | exact trivial | refine stpg ?_)
            exact Ext.go
          · rw [if_neg h3] at hcd ⊢
            repeat (first | exact trivial | refine stpg ?_)
            have hb := u8_eq h2 h3
            refine ⟨k + 1, ⟨.go, by omega, by omega, ?_⟩, by rw [w64 (by omega) (by omega)]; rfl, by omega⟩
            rw [take_getD (by omega), take_getD (xs := ys) (by omega), htk, hb]
    · have hn : xs.drop k = [] := List.drop_eq_nil_of_le (by omega)
      rw [hn] at hcd
      repeat (first | exact trivial | refine stpg ?_)
      refine ⟨fun h1 => ?_, fun h1 => ?_⟩
      · rw [getD_drop (xs := ys) (by omega)] at hcd
        repeat (first | exact trivial | refine stpg ?_)
        exact ⟨by rw [hcd]; rfl, .go⟩
      · have hn2 : ys.drop k = [] := List.drop_eq_nil_of_le (by omega)
        rw [hn2] at hcd
        repeat (first | exact trivial | refine stpg ?_)
        exact ⟨by rw [hcd]; rfl, .go⟩
theorem find1_ok (p : PR) (key : List UInt8) (kv : Value) (w : World) (hp : SlB w p.kv p.k) (hp2 : SlB w p.vv p.v) (hk : SlB w kv key) :
    CallK Tryz.prog 255 [.agg [p.kv, p.vv].toArray, kv].toArray w fun r w' => r = .int .i64 (Lib.compareBytes p.k key) ∧ Ext w w' := by
  obtain ⟨a1, c1, e1⟩ := slv_of hp
  obtain ⟨a2, c2, e2⟩ := slv_of hp2
  rw [e1] at hp
  rw [e1, e2]
  refine enterT Tryz.func255 rfl Tryz.ntmps255 Tryz.results255 rfl (by decide) ?_
  repeat (first | exact trivial | refine stpg ?_)
  first | refine newS ?_ | refine newZ ?_
  intro w1 hE1 hz1 hB1
  repeat (first | exact trivial | refine stpg ?_)
  refine (sCompare_ok p.k key _ _ w1 (hp.ext .go) (hk.ext .go)).mono ?_
  rintro _ w2 ⟨rfl, hE2⟩
  have hz2 := hE2.size
  repeat (first | exact trivial | refine stpg ?_)
  exact Ext.go

/-! ### find -/
/-- Where a key stands among pairs in their keys' order, or would. -/
structure FindP (ps : List PR) (key : List UInt8) (i : Nat) (ok : Bool) : Prop where
  le : i ≤ ps.length
  low : ∀ j p, ps[j]? = some p → j < i → Lib.compareBytes p.k key < 0
  high : ∀ j p, ps[j]? = some p → i ≤ j → 0 ≤ Lib.compareBytes p.k key
  hit : ok = true ↔ ∃ p, ps[i]? = some p ∧ p.k = key
theorem bsearch_ok (ps : List PR) (key : List UInt8) (kv pv : Value) (w : World) (hp : PairsAt w pv ps) (hk : SlB w kv key) (hs : ps.Pairwise fun a b => Lib.compareBytes a.k b.k < 0) (hpl : ps.length ≤ 4611686018427387904) :
    CallK Tryz.prog 254 [pv, kv, .func (.func 255) #[] #[]].toArray w fun r w' => ∃ i ok, r = .tuple [.int .i64 (i : Nat), .bool ok].toArray ∧ FindP ps key i ok ∧ Ext w w' := by
  obtain ⟨hp1, hp2⟩ := hp
  obtain ⟨pa, cp, rfl⟩ := slv_of hp1
  obtain ⟨ka, kc, rfl⟩ := slv_of hk
  refine enterT Tryz.func254 rfl Tryz.ntmps254 Tryz.results254 rfl (by decide) ?_
  repeat (first | exact trivial | refine stpg ?_)
  refine loopX (ι := Nat × Nat) (fun x => [(0, .slice pa ps.length cp), (1, .slice ka key.length kc), (2, .func (.func 255) #[] #[]), (8, .int .i64 ps.length), (9, .int .i64 x.1), (10, .int .i64 x.2)])
    (fun x W => Ext w W ∧ x.1 ≤ x.2 ∧ x.2 ≤ ps.length ∧ (∀ j p, ps[j]? = some p → j < x.1 → Lib.compareBytes p.k key < 0) ∧ (∀ j p, ps[j]? = some p → x.2 ≤ j → 0 ≤ Lib.compareBytes p.k key)) (fun x => x.2 - x.1) (0, ps.length) ⟨.go, Nat.zero_le _, Nat.le_refl _, fun j p _ h => by omega, fun j p h hj => by have := (List.getElem?_eq_some_iff.1 h).1; simp only at hj; omega⟩ ?_ ?_
  · repeat (first | exact trivial | refine stpg ?_)
  · rintro ⟨i, j⟩ s1 w1 ⟨hE1, hij, hjl, hlo, hhi⟩
    simp only at hij hjl hlo hhi
    repeat (first | exact trivial | refine stpg ?_)
    refine ⟨fun hlt => ?_, fun hge => ?_⟩
    · obtain ⟨b, o, rfl, hR⟩ := pr_row hp1 (by omega)
      have e1 : IntKind.i64.wrap ((i : Int) + j) = ((i + j : Nat) : Int) := by rw [w64 (by omega) (by omega)]; omega
      have e2 : IntKind.u64.wrap ((i + j : Nat) : Int) = ((i + j : Nat) : Int) := wu64 (by omega) (by omega)
      have e3 : ((i + j : Nat) : Int).fdiv (2 ^ min (Int.toNat 1) IntKind.u64.bits) = (((i + j) / 2 : Nat) : Int) := by
        show ((i + j : Nat) : Int).fdiv (2 ^ min 1 64) = _
        rw [fdivN _ 1 64 (by decide), Nat.pow_one]
      have e4 : IntKind.i64.wrap ((((i + j) / 2 : Nat) : Int)) = (((i + j) / 2 : Nat) : Int) := w64 (by omega) (by omega)
      obtain ⟨h, hh⟩ : ∃ h, h = (i + j) / 2 := ⟨_, rfl⟩
      rw [← hh] at e3 e4
      have e5 : IntKind.i64.wrap ((h : Int) + 1) = ((h + 1 : Nat) : Int) := by rw [w64 (by omega) (by omega)]; omega
      obtain ⟨p, hx⟩ : ∃ x, ps[h]? = some x := ⟨_, List.getElem?_eq_getElem (by omega)⟩
      obtain ⟨hpk, hpv⟩ := hp2 _ (List.mem_of_getElem? hx)
      rw [e1, e2]
      repeat (first | exact trivial | refine stpg ?_)
      rw [e3, e4]
      repeat (first | exact trivial | refine stpg ?_)
      refine ldPair hx ?_
      repeat (first | exact trivial | refine stpg ?_)
      refine dynCall ((find1_ok p key _ w1 (hpk.ext .go) (hpv.ext .go) (hk.ext .go)).mono ?_ |>.body (by kernel_rfl))
      rintro _ w2 ⟨rfl, hE2⟩
      have hmono : ∀ (t : Nat) (q : PR), ps[t]? = some q → t < h → Lib.compareBytes q.k p.k < 0 := fun t q hq ht => by
        obtain ⟨h1, h2⟩ := List.getElem?_eq_some_iff.1 hq
        obtain ⟨h3, h4⟩ := List.getElem?_eq_some_iff.1 hx
        have := List.pairwise_iff_getElem.1 hs t h h1 h3 ht
        rwa [h2, h4] at this
      have hmono2 : ∀ (t : Nat) (q : PR), ps[t]? = some q → h < t → Lib.compareBytes p.k q.k < 0 := fun t q hq ht => by
        obtain ⟨h1, h2⟩ := List.getElem?_eq_some_iff.1 hq
        obtain ⟨h3, h4⟩ := List.getElem?_eq_some_iff.1 hx
        have := List.pairwise_iff_getElem.1 hs h t h3 h1 ht
        rwa [h2, h4] at this
      repeat (first | exact trivial | refine stpg ?_)
      refine ⟨fun hc => ?_, fun hc => ?_⟩
      · repeat (first | exact trivial | refine stpg ?_)
        refine ⟨(h + 1, j), ⟨.go, by simp only; omega, hjl, fun t q hq ht => ?_, hhi⟩, ⟨e5, rfl⟩, by simp only; omega⟩
        by_cases hth : t = h
        · subst hth
          rw [hx] at hq
          cases hq
          exact hc
        · exact cmpB_trans _ _ _ (hmono t q hq (by simp only at ht; omega)) hc
      · repeat (first | exact trivial | refine stpg ?_)
        refine ⟨(i, h), ⟨.go, by simp only; omega, by simp only; omega, hlo, fun t q hq ht => ?_⟩, ⟨rfl, rfl⟩, by simp only; omega⟩
        by_cases hth : t = h
        · subst hth
          rw [hx] at hq
          cases hq
          omega
        · have h1 := hmono2 t q hq (by simp only at ht; omega)
          refine Int.not_lt.1 fun h2 => ?_
          have := cmpB_trans _ _ _ h1 h2
          omega
    · obtain rfl : i = j := by omega
      by_cases hi : i < ps.length
      · obtain ⟨b, o, rfl, hR⟩ := pr_row hp1 (by omega)
        obtain ⟨p, hx⟩ : ∃ x, ps[i]? = some x := ⟨_, List.getElem?_eq_getElem (by omega)⟩
        obtain ⟨hpk, hpv⟩ := hp2 _ (List.mem_of_getElem? hx)
        refine ⟨fun _ => ?_, fun h => by omega⟩
        repeat (first | exact trivial | refine stpg ?_)
        refine ldPair hx ?_
        repeat (first | exact trivial | refine stpg ?_)
        refine dynCall ((find1_ok p key _ w1 (hpk.ext .go) (hpv.ext .go) (hk.ext .go)).mono ?_ |>.body (by kernel_rfl))
        rintro _ w2 ⟨rfl, hE2⟩
        repeat (first | exact trivial | refine stpg ?_)
        refine ⟨i, _, rfl, ⟨hjl, hlo, hhi, ?_⟩, .go⟩
        rw [decide_eq_true_eq, cmpB_eq]
        exact ⟨fun h => ⟨p, hx, h⟩, fun ⟨q, hq, h⟩ => by rw [hx] at hq; cases hq; exact h⟩
      · refine ⟨fun h => by omega, fun _ => ?_⟩
        repeat (first | exact trivial | refine stpg ?_)
        refine ⟨i, false, rfl, ⟨hjl, hlo, hhi, ?_⟩, .go⟩
        refine ⟨fun h => (by cases h), fun ⟨q, hq, h⟩ => ?_⟩
        have := (List.getElem?_eq_some_iff.1 hq).1
        omega
theorem find_ok (ps : List PR) (key : List UInt8) (kv pv : Value) (w : World) (hp : PairsAt w pv ps) (hk : SlB w kv key) (hs : ps.Pairwise fun a b => Lib.compareBytes a.k b.k < 0) (hpl : ps.length ≤ 4611686018427387904) :
    CallK Tryz.prog 134 [pv, kv].toArray w fun r w' => ∃ i ok, r = .tuple [.int .i64 (i : Nat), .bool ok].toArray ∧ FindP ps key i ok ∧ Ext w w' := by
  refine enterT Tryz.func134 rfl Tryz.ntmps134 Tryz.results134 rfl (by decide) ?_
  repeat (first | exact trivial | refine stpg ?_)
  refine (bsearch_ok ps key kv pv w hp hk hs hpl).mono ?_
  rintro _ w1 ⟨i, ok, rfl, hF, hE1⟩
  repeat (first | exact trivial | refine stpg ?_)
  exact ⟨i, ok, rfl, hF, hE1⟩
end Go.Proofs.YthlkfjoibjhaiaaGreatDoor

/-! Ins -/
namespace Go.Proofs.YthlkfjoibjhaiaaGreatDoor
set_option maxRecDepth 100000
set_option maxHeartbeats 2000000
open Go Go.RowKit
set_option linter.unusedVariables false
set_option linter.unusedSimpArgs false

theorem dvs_len (ds : List (List UInt8)) (h : ∀ d ∈ ds, d.length = 32) : (ds.flatMap vbs).length = ds.length * 32 := by
  induction ds with
  | nil => rfl
  | cons d ds ih => simp only [List.flatMap_cons, List.length_append, vbs_len, List.length_cons, ih (fun d hd => h d (by simp [hd])), h d (by simp)]; omega
theorem dvs_one (ds : List (List UInt8)) : ∀ v ∈ ds.flatMap vbs, oneCellV v = true := by
  intro v hv
  obtain ⟨d, _, hd⟩ := List.mem_flatMap.1 hv
  exact vbs_one d v hd

theorem CloneD_ok (ds : List (List UInt8)) (v : Value) (w : World) (hv : DigsAt w v ds) (hsz : ds.length ≤ 4000000000) :
    CallK Tryz.prog 232 [v].toArray w fun v' w' => Own w' w.heap.size 28 32 v' ds.length (ds.flatMap vbs) ∧ Ext w w' := by
  have hv' := hv
  obtain ⟨hd, a, c, rfl, hnc, hcm, hc⟩ := hv'
  have hl := dvs_len ds hd
  refine enterT Tryz.func232 rfl Tryz.ntmps232 Tryz.results232 rfl (by decide) ?_
  simp only [↓VD, VP, VT, isAggD, reduceCtorEq, Int.reduceEq, Int.reduceNe, Int.reduceLT, Int.reduceLE, implies_true, Nat.reduceEqDiff, reduceIte, ite_true, ite_false, eq_self, Nat.reduceLT, Nat.reduceLeDiff, Nat.reduceAdd, Nat.reduceMul, Nat.reduceSub, intOf]
  refine ⟨fun ha => ?_, fun ha w1 hN => ?_⟩
  · have : ds = [] := by
      rcases hc with hc | ⟨b, o, rfl, _⟩
      · rw [hc] at hl
        exact List.length_eq_zero_iff.1 (by simp only [List.length_nil] at hl; omega)
      · cases ha
    subst this
    exact ⟨Own.nil _ _ _ _, Ext.rfl' w⟩
  · refine apS (sz := 32) Tryz.underlying49 z28 c28 rfl (by decide) (Own.of_blk (sz := 32) hN.blk (Nat.le_refl _) rfl (by decide)) (by have := hN.size; omega) (hv.2.ext hN.ext) hl (dvs_one ds) (by omega) (by rw [by28]; omega) (fun v' w2 hO hg => ?_)
    simp only [↓VD, VP, VT, isAggD, reduceCtorEq, Int.reduceEq, Int.reduceNe, Int.reduceLT, Int.reduceLE, implies_true, Nat.reduceEqDiff, reduceIte, ite_true, ite_false, eq_self, Nat.reduceLT, Nat.reduceLeDiff, Nat.reduceAdd, Nat.reduceMul, Nat.reduceSub, intOf]
    refine ⟨by simpa using hO, hN.ext.trans ⟨hg.os, hg.tape, hg.output, hg.size, fun k hk => hg.block k (by have := hN.size; omega) ?_⟩⟩
    simp only [Value.ownBlock, ne_eq, Option.some.injEq]
    omega

/-- append(s, make(S, k)...) that grows. -/
theorem apZ {P : Program} {t tn e sz g m c k : Nat} {kq kn : IntKind} {w : World} {z : Value} {xs : List Value} {K : Value → World → Prop} (hu : P.underlying t = some (.slice e)) (hun : P.underlying tn = some (.int kn)) (hz : zeroOf P e = some z) (hsz : P.cellsOf e = sz) (h0 : 0 < sz)
    (hy : ∀ j u, xs[j]? = some u → w.cell? ⟨g, j, none⟩ = some u) (hl : xs.length = m * sz) (hg : c < m + k) (hk : 0 < k) (h63 : m + k ≤ 9223372036854775807) (hby : (m + k) * P.bytesOf e ≤ 140737488355328) (hzc : z.cells.size = sz)
    (hK : ∀ c' zs w', m + k ≤ c' → c' ≤ 9223372036854775807 → zs.length = (c' - m) * sz → NewB w w' e (xs ++ zs) → K (.slice (some ⟨w.heap.size, 0, none⟩) (m + k) c') w') :
    RawApp P [t, tn] [.slice (some ⟨g, 0, none⟩) m c, .int kq k] w K := by
  subst hsz
  obtain ⟨i, hi⟩ := info_of_cells h0
  have his : i.size = P.cellsOf e := (cells_of hi).symm
  have hib : i.bytes = P.bytesOf e := by simp [Program.bytesOf, hi]
  have hiz : i.zero = some z := by simpa [zeroOf, hi] using hz
  have hne : Builtin.nextslicecap (m + k) c * i.bytes ≤ 281474976710656 := growslice_fits hg (by rw [hib]; exact hby)
  have hl' : xs.length = m * i.size := by rw [his]; exact hl
  have hold : (Builtin.firstCells i.size m (.slice (some ⟨g, 0, none⟩) m c)).run P w.drew = .ok xs.toArray w.drew :=
    run_firstCells_some (P := P) w.drew i.size m ⟨g, 0, none⟩ m c xs hl' (fun j u hj => by rw [addr_add, Nat.zero_add]; exact hy j u hj)
  have hr := Lib.run_append_grow_zeros w t tn 0 e i z kq kn hu hun hi hiz (some ⟨g, 0, none⟩) m c xs hold k hk (by omega) hg (by omega) (by rw [hib]; rw [Nat.add_mul] at hby; omega) hne
  refine ⟨⟨_, _, hr, ?_⟩⟩
  have hge := grownCap_ge w (m + k) c e
  have hle := grownCap_le_maxLen w (m + k) c e (by rw [maxLen_eq]; exact h63)
  rw [maxLen_eq] at hle
  have hzl : ∀ n, (Builtin.zeroCells z.cells n).size = n * P.cellsOf e := fun n => by simp [Builtin.zeroCells, hzc]
  refine hK _ ((Builtin.zeroCells z.cells k ++ Builtin.zeroCells z.cells (grownCap w (m + k) c e - (m + k))).toList) _ hge hle ?_ ?_
  · simp only [Array.toList_append, List.length_append, Array.length_toList, hzl]
    rw [← Nat.add_mul]
    congr 1
    omega
  · have h := NewB.alloc w.drew e (xs ++ (Builtin.zeroCells z.cells k ++ Builtin.zeroCells z.cells (grownCap w (m + k) c e - (m + k))).toList)
    rw [show (xs.toArray ++ Builtin.zeroCells z.cells k ++ Builtin.zeroCells z.cells (grownCap w (m + k) c e - (m + k))) = (xs ++ (Builtin.zeroCells z.cells k ++ Builtin.zeroCells z.cells (grownCap w (m + k) c e - (m + k))).toList).toArray from by apply Array.toList_inj.1; simp]
    exact ⟨h.os, h.tape, h.output, h.size, h.blk, h.other⟩
theorem splice_at {pre mid post vs : List Value} {o : Nat} (ho : pre.length = o) (h : vs.length = mid.length) : splice (pre ++ (mid ++ post)) o vs = pre ++ (vs ++ post) := by subst ho; exact splice_seg h
theorem own_mk {w : World} {base e sz n cap g : Nat} {xs rest : List Value} (hB : Blk w g e (xs ++ rest)) (hb : base ≤ g) (hl : xs.length = n * sz) (hr : rest.length = (cap - n) * sz) (hn : n ≤ cap) (hc : cap ≤ 9223372036854775807) : Own w base e sz (.slice (some ⟨g, 0, none⟩) n cap) n xs :=
  ⟨hl, .inr ⟨g, cap, (xs ++ rest).toArray, rfl, hb, hB.out, hn, by rw [maxLen_eq]; exact hc, by
    simp only [List.size_toArray, List.length_append, hl, hr]
    rw [← Nat.add_mul]
    congr 1
    omega, by simp [← hl]⟩⟩
theorem Own.cap_le {w : World} {base e sz n m : Nat} {a : Option Addr} {c : Nat} {xs : List Value} (h : Own w base e sz (.slice a m c) n xs) : n ≤ c ∧ c ≤ 9223372036854775807 := by
  rcases h.2 with ⟨h1, h2⟩ | ⟨g, cap, cur, h1, hbg, hg, hnc, hcm, _⟩
  · cases h1; subst h2; exact ⟨Nat.le_refl _, by omega⟩
  · cases h1; exact ⟨hnc, by simpa [maxLen] using hcm⟩
/-- x among ds at i. -/
def insP (ds : List (List UInt8)) (i : Nat) (x : List UInt8) : List (List UInt8) := ds.take i ++ x :: ds.drop i

theorem Insert_ok (ds : List (List UInt8)) (hd : ∀ d ∈ ds, d.length = 32) (i : Nat) (hi : i ≤ ds.length) (x : List UInt8) (hx : x.length = 32) (v : Value) (base b : Nat) (w : World) (hO : Own w base 28 32 v ds.length (ds.flatMap vbs)) (hbase : base ≤ w.heap.size)
    (hB : Blk w b 28 (vbs x)) (hne : v.ownBlock ≠ some b) (hsz : ds.length ≤ 4000000000) :
    CallK Tryz.prog 233 [v, .int .i64 i, .slice (some ⟨b, 0, none⟩) 1 1].toArray w fun v' w' => Own w' base 28 32 v' (ds.length + 1) ((insP ds i x).flatMap vbs) ∧ Below base w w' := by
  have hl := dvs_len ds hd
  obtain ⟨A, hA⟩ : ∃ A, A = (ds.take i).flatMap vbs := ⟨_, rfl⟩
  obtain ⟨D, hD⟩ : ∃ D, D = (ds.drop i).flatMap vbs := ⟨_, rfl⟩
  have hAl : A.length = i * 32 := by rw [hA, dvs_len _ (fun d h => hd d (List.mem_of_mem_take h)), List.length_take, Nat.min_eq_left hi]
  have hDl : D.length = (ds.length - i) * 32 := by rw [hD, dvs_len _ (fun d h => hd d (List.mem_of_mem_drop h)), List.length_drop]
  have hD1 : ∀ v ∈ D, oneCellV v = true := by rw [hD]; exact dvs_one _
  have hsp : ds.flatMap vbs = A ++ D := by rw [hA, hD, ← List.flatMap_append, List.take_append_drop]
  have hres : (insP ds i x).flatMap vbs = A ++ (vbs x ++ D) := by rw [hA, hD]; simp [insP]
  have h34 : (vbs x).length = 32 := by rw [vbs_len]; exact hx
  have hx1 := vbs_one x
  rw [hres]
  rw [hsp] at hO
  clear hA hD hsp hres hl
  generalize vbs x = X at *
  obtain ⟨a, c, rfl⟩ := own_slice hO
  have hcl := hO.cap_le
  refine enterT Tryz.func233 rfl Tryz.ntmps233 Tryz.results233 rfl (by decide) ?_
  simp only [↓VD, VP, VT, isAggD, reduceCtorEq, Int.reduceEq, Int.reduceNe, Int.reduceLT, Int.reduceLE, implies_true, Nat.reduceEqDiff, reduceIte, ite_true, ite_false, eq_self, Nat.reduceLT, Nat.reduceLeDiff, Nat.reduceAdd, Nat.reduceMul, Nat.reduceSub, intOf, (show IntKind.i64.wrap ((ds.length : Int) + 1) = ((ds.length + 1 : Nat) : Int) from by rw [w64 (by omega) (by omega)] <;> omega)]
  refine ⟨by omega, by omega, by omega, fun a' ha0 ha' => ⟨fun hin => ?_, fun hin => ?_⟩⟩
  · have hin' : i = ds.length := by omega
    subst hin'
    refine apB (sz := 32) Tryz.underlying49 z28 c28 rfl (by decide) hO hbase hB (by omega) hx1 (by omega) (by rw [by28]; omega) (fun v' w' hO' hB' => ?_)
    simp only [↓VD, VP, VT, isAggD, reduceCtorEq, Int.reduceEq, Int.reduceNe, Int.reduceLT, Int.reduceLE, implies_true, Nat.reduceEqDiff, reduceIte, ite_true, ite_false, eq_self, Nat.reduceLT, Nat.reduceLeDiff, Nat.reduceAdd, Nat.reduceMul, Nat.reduceSub, intOf]
    have hD0 : D = [] := List.length_eq_zero_iff.1 (by omega)
    subst hD0
    refine ⟨?_, hB'⟩
    simpa using hO'
  · have hin' : i < ds.length := by omega
    obtain ⟨_, ⟨h0, h0'⟩ | ⟨g, cap, cur, h0, hbg, hg, hnc, hcm, hcs, hct⟩⟩ := hO
    · omega
    cases h0
    obtain ⟨rest, hrest⟩ : ∃ rest, cur.toList = A ++ (D ++ rest) := ⟨cur.toList.drop (ds.length * 32), by rw [← List.append_assoc, ← hct, List.take_append_drop]⟩
    have hG : Blk w g 28 (A ++ (D ++ rest)) := ⟨by rw [← hrest]; simpa using hg⟩
    have hrl : rest.length = (c - ds.length) * 32 := by
      have := congrArg List.length hrest
      rw [List.length_append, List.length_append, Array.length_toList, hcs] at this
      omega
    have hgb : g ≠ b := by simpa [Value.ownBlock] using hne
    have hwi : IntKind.i64.wrap (((ds.length + 1 : Nat) : Int) - (i : Int)) = ((ds.length + 1 - i : Nat) : Int) := by rw [w64 (by omega) (by omega)]; omega
    have hm1 : min 1 (ds.length + 1 - i) = 1 := by omega
    have hm2 : min (ds.length - i) (ds.length - i) = ds.length - i := by omega
    have hm3 : min (ds.length + 1 - i) (ds.length - i) = ds.length - i := by omega
    clear hct hrest hcs hg hne
    refine ⟨fun hgrow => ?_, fun hroom => ?_⟩
    · simp only [↓VD, VP, VT, isAggD, reduceCtorEq, Int.reduceEq, Int.reduceNe, Int.reduceLT, Int.reduceLE, implies_true, Nat.reduceEqDiff, reduceIte, ite_true, ite_false, eq_self, Nat.reduceLT, Nat.reduceLeDiff, Nat.reduceAdd, Nat.reduceMul, Nat.reduceSub, intOf, (show IntKind.i64.wrap ((ds.length : Int) + 1) = ((ds.length + 1 : Nat) : Int) from by rw [w64 (by omega) (by omega)] <;> omega), hwi]
      refine ⟨by omega, by omega, fun a1 ha1 => ?_⟩
      obtain ⟨o1, rfl, ho1⟩ := ha1 g 0 rfl
      obtain rfl : o1 = 0 := by have := ho1 (by omega); simpa using this
      rw [show ((i : Int) - 0).toNat = i from by omega, show ((c : Int) - 0).toNat = c from by omega]
      refine apZ (sz := 32) (xs := A) Tryz.underlying49 Tryz.underlying3 z28 c28 (by decide) (fun j u hj => ?_) hAl (by omega) (by omega) (by omega) (by rw [by28]; omega) rfl (fun c' zs w1 h1 h2 hzs hN => ?_)
      · rw [hG.cell, List.getElem?_append_left (List.getElem?_eq_some_iff.1 hj).1]
        exact hj
      have s1 := hN.size
      obtain ⟨z1, z2, z3, rfl, hz1, hz2⟩ : ∃ z1 z2 z3, zs = z1 ++ (z2 ++ z3) ∧ z1.length = 32 ∧ z2.length = (ds.length - i) * 32 := ⟨zs.take 32, (zs.drop 32).take ((ds.length - i) * 32), (zs.drop 32).drop ((ds.length - i) * 32), by simp only [List.take_append_drop], by rw [List.length_take]; omega, by rw [List.length_take, List.length_drop]; omega⟩
      rw [List.length_append, List.length_append] at hzs
      simp only [↓VD, VP, VT, isAggD, reduceCtorEq, Int.reduceEq, Int.reduceNe, Int.reduceLT, Int.reduceLE, implies_true, Nat.reduceEqDiff, reduceIte, ite_true, ite_false, eq_self, Nat.reduceLT, Nat.reduceLeDiff, Nat.reduceAdd, Nat.reduceMul, Nat.reduceSub, intOf]
      refine ⟨by omega, by omega, by omega, fun a2 ha2 => ?_⟩
      obtain ⟨o2, rfl, ho2⟩ := ha2 w.heap.size 0 rfl
      obtain rfl : o2 = i * 32 := by have := ho2 (by omega); simpa using this
      rw [show (((i + (ds.length + 1 - i) : Nat) : Int) - (i : Int)).toNat = ds.length + 1 - i from by omega, show i + (ds.length + 1 - i) = ds.length + 1 from by omega]
      refine cpS (sz := 32) (m := 1) (cells := X) Tryz.underlying49 c28 (by decide) hN.blk (SlC.of_blk (hB.ext hN.ext) (by decide)) (by omega) hx1 (by simp only [List.length_append]; omega) (fun w2 hP => ?_)
      rw [hm1, Nat.one_mul, List.take_of_length_le (by omega), splice_at hAl (by omega)] at hP
      simp only [↓VD, VP, VT, isAggD, reduceCtorEq, Int.reduceEq, Int.reduceNe, Int.reduceLT, Int.reduceLE, implies_true, Nat.reduceEqDiff, reduceIte, ite_true, ite_false, eq_self, Nat.reduceLT, Nat.reduceLeDiff, Nat.reduceAdd, Nat.reduceMul, Nat.reduceSub, intOf]
      refine drawH (fun _ => True) [0, 1, 2, 3, 4, 5, 6, 7, 8] mixed (by decide +kernel) (fun w3 hE3 hh => ⟨trivial, ?_⟩)
      simp only [↓VD, VP, VT, isAggD, reduceCtorEq, Int.reduceEq, Int.reduceNe, Int.reduceLT, Int.reduceLE, implies_true, Nat.reduceEqDiff, reduceIte, ite_true, ite_false, eq_self, Nat.reduceLT, Nat.reduceLeDiff, Nat.reduceAdd, Nat.reduceMul, Nat.reduceSub, intOf, (show IntKind.i64.wrap ((i : Int) + 1) = ((i + 1 : Nat) : Int) from by rw [w64 (by omega) (by omega)] <;> omega)]
      refine ⟨by omega, by omega, by omega, fun a3 ha3 => ⟨by omega, by omega, by omega, fun a4 ha4 => ?_⟩⟩
      obtain ⟨o3, rfl, ho3⟩ := ha3 w.heap.size 0 rfl
      obtain ⟨o4, rfl, ho4⟩ := ha4 g 0 rfl
      obtain rfl : o4 = i * 32 := by have := ho4 (by omega); simpa using this
      obtain rfl : o3 = (i + 1) * 32 := by have := ho3 (by omega); simpa using this
      rw [show (((ds.length + 1 : Nat) : Int) - ((i + 1 : Nat) : Int)).toNat = ds.length - i from by omega, show ((ds.length : Int) - (i : Int)).toNat = ds.length - i from by omega]
      have hG2 := (hP.keep (hG.ext hN.ext) (by have := hG.lt; omega)).ext hE3
      have hN2 := hP.blk.ext hE3
      rw [← List.append_assoc] at hN2
      refine cpS (sz := 32) (m := ds.length - i) (cells := D) Tryz.underlying49 c28 (by decide) hN2 (SlC.of_part hG2 (by omega) (by omega) (fun j u hj => by rw [← hAl]; exact mid_get hj)) (by omega) hD1 (by simp only [List.length_append]; omega) (fun w4 hP4 => ?_)
      rw [hm2, List.take_of_length_le (by omega), splice_at (by rw [List.length_append]; omega) (by omega)] at hP4
      refine told (fun _ => True) trivial trivial ?_
      simp only [↓VD, VP, VT, isAggD, reduceCtorEq, Int.reduceEq, Int.reduceNe, Int.reduceLT, Int.reduceLE, implies_true, Nat.reduceEqDiff, reduceIte, ite_true, ite_false, eq_self, Nat.reduceLT, Nat.reduceLeDiff, Nat.reduceAdd, Nat.reduceMul, Nat.reduceSub, intOf]
      refine ⟨own_mk (xs := A ++ (X ++ D)) (rest := z3) (by have := hP4.blk; simpa only [List.append_assoc] using this) (by omega) (by simp only [List.length_append]; omega) (by omega) (by omega) (by omega), (hN.ext.mono hbase).trans ((hP.below (by omega)).trans ((hE3.mono (by have := hP.size; omega)).trans (hP4.below (by omega))))⟩
    · simp only [↓VD, VP, VT, isAggD, reduceCtorEq, Int.reduceEq, Int.reduceNe, Int.reduceLT, Int.reduceLE, implies_true, Nat.reduceEqDiff, reduceIte, ite_true, ite_false, eq_self, Nat.reduceLT, Nat.reduceLeDiff, Nat.reduceAdd, Nat.reduceMul, Nat.reduceSub, intOf, (show IntKind.i64.wrap ((ds.length : Int) + 1) = ((ds.length + 1 : Nat) : Int) from by rw [w64 (by omega) (by omega)] <;> omega), (show IntKind.i64.wrap ((i : Int) + 1) = ((i + 1 : Nat) : Int) from by rw [w64 (by omega) (by omega)] <;> omega)]
      refine ⟨by omega, by omega, fun a1 ha1 => ?_⟩
      obtain ⟨o1, rfl, ho1⟩ := ha1 g 0 rfl
      obtain rfl : o1 = 0 := by have := ho1 (by omega); simpa using this
      rw [show (((ds.length + 1 : Nat) : Int) - 0).toNat = ds.length + 1 from by omega, show ((c : Int) - 0).toNat = c from by omega]
      refine ⟨by omega, by omega, by omega, fun a2 _ ha2 => ?_⟩
      obtain ⟨o2, rfl, ho2⟩ := ha2 g 0 rfl
      obtain rfl : o2 = (i + 1) * 32 := by have := ho2 (by omega); simpa using this
      refine ⟨Or.inr ⟨.bool false, w, ?_, ?_⟩⟩
      · rw [run_callFunc_extern (e := Extern.SlicesOverlaps.overlaps #[49, 49] #[4]) Tryz.func323 rfl rfl rfl rfl]
        rw [Lib.run_overlaps_apart w 49 4 28 Tryz.underlying49 32 (fun w => by rw [run_sizeOf_pos (by rw [c28]; decide), c28]) ⟨b, 0, none⟩ ⟨g, (i + 1) * 32, none⟩ 1 1 _ _ (by simpa using fun e => hgb e.symm) 28 28 32 (A ++ (D ++ rest)).length (by simp [World.shape?, hB.out, h34]) (by simp [World.shape?, hG.out]) (by simp only [List.length_append]; omega) (by exact hB.frozen 0) (by exact hB.frozen 32)]
        rfl
      · simp only [↓VD, VP, VT, isAggD, reduceCtorEq, Int.reduceEq, Int.reduceNe, Int.reduceLT, Int.reduceLE, implies_true, Nat.reduceEqDiff, reduceIte, ite_true, ite_false, eq_self, Nat.reduceLT, Nat.reduceLeDiff, Nat.reduceAdd, Nat.reduceMul, Nat.reduceSub, intOf, (show IntKind.i64.wrap ((i : Int) + 1) = ((i + 1 : Nat) : Int) from by rw [w64 (by omega) (by omega)] <;> omega)]
        refine drawH (fun _ => True) [0, 1, 2, 3, 4, 5, 6, 7, 8] mixed (by decide +kernel) (fun w3 hE3 hh => ⟨trivial, ?_⟩)
        simp only [↓VD, VP, VT, isAggD, reduceCtorEq, Int.reduceEq, Int.reduceNe, Int.reduceLT, Int.reduceLE, implies_true, Nat.reduceEqDiff, reduceIte, ite_true, ite_false, eq_self, Nat.reduceLT, Nat.reduceLeDiff, Nat.reduceAdd, Nat.reduceMul, Nat.reduceSub, intOf, (show IntKind.i64.wrap ((i : Int) + 1) = ((i + 1 : Nat) : Int) from by rw [w64 (by omega) (by omega)] <;> omega)]
        refine ⟨by omega, by omega, by omega, fun a3 ha3 => ⟨by omega, by omega, by omega, fun a4 ha4 => ?_⟩⟩
        obtain ⟨o3, rfl, ho3⟩ := ha3 g 0 rfl
        obtain ⟨o4, rfl, ho4⟩ := ha4 g 0 rfl
        obtain rfl : o4 = i * 32 := by have := ho4 (by omega); simpa using this
        obtain rfl : o3 = (i + 1) * 32 := by have := ho3 (by omega); simpa using this
        rw [show (((ds.length + 1 : Nat) : Int) - ((i + 1 : Nat) : Int)).toNat = ds.length - i from by omega, show (((ds.length + 1 : Nat) : Int) - (i : Int)).toNat = ds.length + 1 - i from by omega]
        obtain ⟨d1, d2, hdd, hd1l⟩ : ∃ d1 d2, D = d1 ++ d2 ∧ d1.length = 32 := ⟨D.take 32, D.drop 32, by simp, by rw [List.length_take]; omega⟩
        obtain ⟨r1, r2, hrr, hr1l⟩ : ∃ r1 r2, rest = r1 ++ r2 ∧ r1.length = 32 := ⟨rest.take 32, rest.drop 32, by simp, by rw [List.length_take]; omega⟩
        have hll := congrArg List.length hdd
        have hrl2 := congrArg List.length hrr
        rw [List.length_append] at hll hrl2
        have hG3 := hG.ext hE3
        have hG4 : Blk w3 g 28 ((A ++ d1) ++ ((d2 ++ r1) ++ r2)) := by
          have e : A ++ (D ++ rest) = (A ++ d1) ++ ((d2 ++ r1) ++ r2) := by rw [hdd, hrr]; simp
          rw [← e]
          exact hG3
        refine cpS' (sz := 32) (m := ds.length + 1 - i) (cells := D ++ r1) Tryz.underlying49 c28 (by decide) hG4 (SlC.of_part hG3 (by omega) (by omega) (fun j u hj => ?_)) (by rw [List.length_append]; omega) ?_ (by simp only [List.length_append]; omega) (fun w4 hP4 => ?_)
        · rw [← hAl, hrr, ← List.append_assoc D]
          exact mid_get hj
        · rw [hm3, List.take_left' (by omega)]
          exact hD1
        rw [hm3, List.take_left' (by omega), splice_at (by rw [List.length_append]; omega) (by rw [List.length_append]; omega)] at hP4
        refine told (fun _ => True) trivial trivial ?_
        simp only [↓VD, VP, VT, isAggD, reduceCtorEq, Int.reduceEq, Int.reduceNe, Int.reduceLT, Int.reduceLE, implies_true, Nat.reduceEqDiff, reduceIte, ite_true, ite_false, eq_self, Nat.reduceLT, Nat.reduceLeDiff, Nat.reduceAdd, Nat.reduceMul, Nat.reduceSub, intOf]
        refine ⟨by omega, by omega, by omega, fun a5 ha5 => ?_⟩
        obtain ⟨o5, rfl, ho5⟩ := ha5 g 0 rfl
        obtain rfl : o5 = i * 32 := by have := ho5 (by omega); simpa using this
        rw [show (((ds.length + 1 : Nat) : Int) - (i : Int)).toNat = ds.length + 1 - i from by omega]
        have hB5 := hP4.keep (hB.ext hE3) (by omega)
        have hG5 : Blk w4 g 28 (A ++ (d1 ++ (D ++ r2))) := by
          have := hP4.blk
          simpa only [List.append_assoc] using this
        refine cpS (sz := 32) (m := 1) (cells := X) Tryz.underlying49 c28 (by decide) hG5 (SlC.of_blk hB5 (by decide)) (by omega) hx1 (by simp only [List.length_append]; omega) (fun w6 hP6 => ?_)
        rw [hm1, Nat.one_mul, List.take_of_length_le (by omega), splice_at hAl (by omega)] at hP6
        simp only [↓VD, VP, VT, isAggD, reduceCtorEq, Int.reduceEq, Int.reduceNe, Int.reduceLT, Int.reduceLE, implies_true, Nat.reduceEqDiff, reduceIte, ite_true, ite_false, eq_self, Nat.reduceLT, Nat.reduceLeDiff, Nat.reduceAdd, Nat.reduceMul, Nat.reduceSub, intOf]
        refine ⟨own_mk (xs := A ++ (X ++ D)) (rest := r2) (by have := hP6.blk; simpa only [List.append_assoc] using this) (by omega) (by simp only [List.length_append]; omega) (by omega) (by omega) (by omega), (hE3.mono hbase).trans ((hP4.below (by omega)).trans (hP6.below (by omega)))⟩

end Go.Proofs.YthlkfjoibjhaiaaGreatDoor

/-! Mem -/
namespace Go.Proofs.YthlkfjoibjhaiaaGreatDoor
set_option maxRecDepth 100000
set_option maxHeartbeats 2000000
open Go Go.RowKit
set_option linter.unusedVariables false
set_option linter.unusedSimpArgs false

/-- No block changes but the slice's own. -/
def OnlyBy (v : Value) (w w' : World) : Prop := ∀ k T l, v.ownBlock ≠ some k → Blk w k T l → Blk w' k T l
/-- A slice of the call's own, opened. -/
theorem Own.open {w : World} {base e sz n : Nat} {v : Value} {xs : List Value} (h : Own w base e sz v n xs) (h0 : 0 < n) : ∃ g cap rest, v = .slice (some ⟨g, 0, none⟩) n cap ∧ base ≤ g ∧ Blk w g e (xs ++ rest) ∧ n ≤ cap ∧ cap ≤ 9223372036854775807 ∧ (xs ++ rest).length = cap * sz := by
  obtain ⟨hl, ⟨rfl, rfl⟩ | ⟨g, cap, cur, rfl, hbg, hg, hnc, hcm, hcs, hct⟩⟩ := h
  · omega
  · have e1 : cur.toList = xs ++ cur.toList.drop (n * sz) := by rw [← hct, List.take_append_drop]
    refine ⟨g, cap, cur.toList.drop (n * sz), rfl, hbg, ⟨by rw [← e1]; simpa using hg⟩, hnc, by simpa [maxLen] using hcm, ?_⟩
    rw [← e1]
    simpa using hcs
theorem Own.top {w : World} {lo e sz n : Nat} {v : Value} {xs : List Value} (h : Own w lo e sz v n xs) : ∀ g, v.ownBlock = some g → g < w.heap.size := by
  intro g hg
  rcases h.2 with ⟨rfl, _⟩ | ⟨g', cap, cur, rfl, hb, hc, _⟩
  · simp [Value.ownBlock] at hg
  · simp only [Value.ownBlock, Option.some.injEq] at hg
    subst hg
    exact (Array.getElem?_eq_some_iff.1 hc).1
theorem Own.grown_ne {w w' : World} {b1 b2 e1 e2 s1 s2 n1 n2 : Nat} {v x : Value} {xs ys : List Value} (h : Own w b1 e1 s1 v n1 xs) (k : Own w b2 e2 s2 x n2 ys) (hne : e1 ≠ e2) (g : w.grownBy w' x.ownBlock) : Own w' b1 e1 s1 v n1 xs := by
  refine ⟨h.1, ?_⟩
  rcases h.2 with hn | ⟨q, cap, cur, rfl, hbg, hg, rest⟩
  · exact .inl hn
  · refine .inr ⟨q, cap, cur, rfl, hbg, ?_, rest⟩
    rw [g.block q (Array.getElem?_eq_some_iff.1 hg).1 ?_]
    · exact hg
    · intro he
      rcases k.2 with ⟨rfl, _⟩ | ⟨q', cap', cur', rfl, _, hg', _⟩
      · simp [Value.ownBlock] at he
      · simp only [Value.ownBlock, Option.some.injEq] at he
        subst he
        rw [hg] at hg'
        cases hg'
        exact hne rfl
theorem Own.lo {w : World} {base e sz n : Nat} {v : Value} {xs : List Value} (h : Own w base e sz v n xs) : ∀ g, v.ownBlock = some g → base ≤ g := by
  rcases h.2 with ⟨rfl, _⟩ | ⟨g, cap, cur, rfl, hb, _⟩
  · intro g hg; simp [Value.ownBlock] at hg
  · intro g' hg
    simp only [Value.ownBlock, Option.some.injEq] at hg
    omega
theorem Own.only {w w' : World} {b e s n : Nat} {v x : Value} {xs : List Value} (h : Own w b e s v n xs) (hne : ∀ g, v.ownBlock = some g → x.ownBlock ≠ some g) (k : OnlyBy x w w') : Own w' b e s v n xs := by
  obtain ⟨h0, ⟨rfl, h1⟩ | ⟨g, cap, cur, rfl, hbg, hg, h1, h2, h3, h4⟩⟩ := h
  · exact ⟨h0, Or.inl ⟨rfl, h1⟩⟩
  · have hB : Blk w g e cur.toList := ⟨by simpa using hg⟩
    have := (k g e cur.toList (hne g (by simp [Value.ownBlock])) hB).out
    exact ⟨h0, Or.inr ⟨g, cap, cur, rfl, hbg, by simpa using this, h1, h2, h3, h4⟩⟩
theorem Own.onlyT {w w' : World} {b e s n b2 e2 s2 n2 : Nat} {v x : Value} {xs ys : List Value} (h : Own w b e s v n xs) (h2 : Own w b2 e2 s2 x n2 ys) (hne : e ≠ e2) (k : OnlyBy x w w') : Own w' b e s v n xs := by
  refine h.only (fun g hg hx => ?_) k
  obtain ⟨_, ⟨rfl, _⟩ | ⟨g1, cap, cur, rfl, _, h1, _⟩⟩ := h
  · simp [Value.ownBlock] at hg
  obtain ⟨_, ⟨rfl, _⟩ | ⟨g2, cap2, cur2, rfl, _, h3, _⟩⟩ := h2
  · simp [Value.ownBlock] at hx
  simp only [Value.ownBlock, Option.some.injEq] at hg hx
  subst hg hx
  rw [h1] at h3
  cases h3
  exact hne rfl
theorem Own.ne_blk {w : World} {b1 e1 s1 n1 b T : Nat} {v : Value} {xs l : List Value} (h : Own w b1 e1 s1 v n1 xs) (k : Blk w b T l) (hne : T ≠ e1) : v.ownBlock ≠ some b := by
  intro he
  rcases h.2 with ⟨rfl, _⟩ | ⟨g, cap, cur, rfl, _, hg, _⟩
  · simp [Value.ownBlock] at he
  · simp only [Value.ownBlock, Option.some.injEq] at he
    subst he
    rw [k.out] at hg
    cases hg
    exact hne rfl
/-! ### Appending: what stays of the slice itself -/
theorem OnlyBy.of_grown {w w' : World} {x : Value} (g : w.grownBy w' x.ownBlock) : OnlyBy x w w' := fun k T l hk hB => ⟨by rw [g.block k hB.lt (fun e => hk e.symm)]; exact hB.out⟩
theorem ext_of_none {w w' : World} (g : w.grownBy w' none) : Ext w w' := ⟨g.os, g.tape, g.output, g.size, fun k hk => g.block k hk (by simp)⟩
/-- A row's first part is a row. -/
theorem Own.front {w : World} {base e sz n m c : Nat} {a : Option Addr} {xs ys : List Value} (h : Own w base e sz (.slice a (n + m) c) (n + m) (xs ++ ys)) (hl : xs.length = n * sz) (ha : a ≠ none) : Own w base e sz (.slice a n c) n xs := by
  obtain ⟨h0, ⟨h1, _⟩ | ⟨g, cap, cur, h1, hbg, hg, hnc, hcm, hcs, hct⟩⟩ := h
  · injection h1 with e1; exact absurd e1 ha
  · injection h1 with e1 e2 e3
    subst e1 e3
    refine ⟨hl, Or.inr ⟨g, c, cur, rfl, hbg, hg, by omega, hcm, hcs, ?_⟩⟩
    have := congrArg (List.take (n * sz)) hct
    rw [List.take_take, Nat.min_eq_left (Nat.mul_le_mul_right _ (by omega)), List.take_append_of_le_length (by rw [hl]; exact Nat.le_refl _)] at this
    rw [this, List.take_of_length_le (by rw [hl]; exact Nat.le_refl _)]
/-- How a slice stands to the one that it was grown from: in its block, or in a younger one. -/
def GrH (w0 w : World) (base e sz : Nat) (p g : Value) (n j : Nat) (xs : List Value) : Prop :=
  (∃ q cap, p = .slice (some ⟨q, 0, none⟩) n cap ∧ g = .slice (some ⟨q, 0, none⟩) (n + j) cap) ∨ (∀ q, g.ownBlock = some q → w0.heap.size ≤ q) ∧ Own w base e sz p n xs
theorem GrH.row {w0 w : World} {base e sz n j : Nat} {p g : Value} {xs ys : List Value} (h : GrH w0 w base e sz p g n j xs) (hO : Own w base e sz g (n + j) (xs ++ ys)) (hl : xs.length = n * sz) : Own w base e sz p n xs := by
  rcases h with ⟨q, cap, rfl, rfl⟩ | ⟨_, h⟩
  · exact Own.front hO hl (by simp)
  · exact h
/-- A world in between, in which all old blocks stand as they did. -/
theorem GrH.ext {w0 w w' : World} {base e sz n j : Nat} {p g : Value} {xs : List Value} (h : GrH w0 w base e sz p g n j xs) (k : Ext w w') : GrH w0 w' base e sz p g n j xs := h.imp_right fun h => ⟨h.1, h.2.ext k⟩
theorem GrH.step {w0 w w' : World} {base e sz n j m : Nat} {p g v : Value} {xs ys : List Value} (h : GrH w0 w base e sz p g n j xs) (hO : Own w base e sz g (n + j) (xs ++ ys)) (hl : xs.length = n * sz) (hp : ∀ q, p.ownBlock = some q → q < w0.heap.size) (h0 : w0.heap.size ≤ w.heap.size)
    (hg : w.grownBy w' g.ownBlock) (ha : AppHow w w' g v (n + j) m) : GrH w0 w' base e sz p v n (j + m) xs := by
  have hP := h.row hO hl
  rcases ha with ⟨q, cap, rfl, rfl⟩ | ⟨hn, hv⟩
  · rcases h with ⟨q', cap', rfl, h⟩ | ⟨hq, _⟩
    · cases h
      exact Or.inl ⟨q, cap, rfl, by rw [Nat.add_assoc]⟩
    · refine Or.inr ⟨hq, hP.only (fun r hr e => ?_) (OnlyBy.of_grown hg)⟩
      have := hq r e
      have := hp r hr
      omega
  · refine Or.inr ⟨fun q hq => ?_, hP.ext (ext_of_none hn)⟩
    rcases hv with hv | hv <;> rw [hv] at hq
    · cases hq
    · cases hq; exact h0
theorem OnlyBy.refl (x : Value) (w : World) : OnlyBy x w w := fun _ _ _ _ h => h
theorem OnlyBy.ext {x : Value} {w w1 w2 : World} (h : OnlyBy x w w1) (e : Ext w1 w2) : OnlyBy x w w2 := fun k T l hk hB => (h k T l hk hB).ext e
theorem OnlyBy.step {x g : Value} {w w1 w2 : World} (h : OnlyBy x w w1) (hg : ∀ q, g.ownBlock = some q → x.ownBlock = some q ∨ w.heap.size ≤ q) (e : w1.grownBy w2 g.ownBlock) : OnlyBy x w w2 := fun k T l hk hB =>
  OnlyBy.of_grown e k T l (fun he => by rcases hg k he with h1 | h1; exact hk h1; have := hB.lt; omega) (h k T l hk hB)
end Go.Proofs.YthlkfjoibjhaiaaGreatDoor

/-! Slc -/
namespace Go.Proofs.YthlkfjoibjhaiaaGreatDoor
set_option maxRecDepth 100000
set_option maxHeartbeats 2000000
open Go Go.RowKit
set_option linter.unusedVariables false
set_option linter.unusedSimpArgs false

theorem ClnP_ok (cells : List Value) (n : Nat) (v : Value) (w : World) (hv : SlC w v n cells) (hl : cells.length = n * 2) (h1 : ∀ x ∈ cells, oneCellV x = true) (hsz : n ≤ 4000000000) :
    CallK Tryz.prog 248 [v].toArray w fun v' w' => Own w' w.heap.size 47 2 v' n cells ∧ Ext w w' := by
  have hv' := hv
  obtain ⟨a, c, rfl, hnc, hcm, hc⟩ := hv'
  refine enterT Tryz.func248 rfl Tryz.ntmps248 Tryz.results248 rfl (by decide) ?_
  simp only [↓VD, VP, VT, isAggD, reduceCtorEq, Int.reduceEq, Int.reduceNe, Int.reduceLT, Int.reduceLE, implies_true, Nat.reduceEqDiff, reduceIte, ite_true, ite_false, eq_self, Nat.reduceLT, Nat.reduceLeDiff, Nat.reduceAdd, Nat.reduceMul, Nat.reduceSub, intOf]
  refine ⟨fun ha => ?_, fun ha => ⟨rfl, fun w1 hN => ?_⟩⟩
  · have : cells = [] := by
      rcases hc with hc | ⟨b, o, rfl, _⟩
      · exact hc
      · cases ha
    subst this
    obtain rfl : n = 0 := by simp only [List.length_nil] at hl; omega
    exact ⟨Own.nil _ _ _ _, Ext.rfl' w⟩
  · refine apS (sz := 2) Tryz.underlying24 z47 c47 rfl (by decide) (Own.of_blk (sz := 2) hN.blk (Nat.le_refl _) rfl (by decide)) (by have := hN.size; omega) (hv.ext hN.ext) hl h1 (by omega) (by rw [by47]; omega) (fun v' w2 hO hg => ?_)
    simp only [↓VD, VP, VT, isAggD, reduceCtorEq, Int.reduceEq, Int.reduceNe, Int.reduceLT, Int.reduceLE, implies_true, Nat.reduceEqDiff, reduceIte, ite_true, ite_false, eq_self, Nat.reduceLT, Nat.reduceLeDiff, Nat.reduceAdd, Nat.reduceMul, Nat.reduceSub, intOf]
    refine ⟨by simpa using hO, hN.ext.trans ⟨hg.os, hg.tape, hg.output, hg.size, fun k hk => hg.block k (by have := hN.size; omega) ?_⟩⟩
    simp only [Value.ownBlock, ne_eq, Option.some.injEq]
    omega
theorem InsP_ok (A D X : List Value) (i len : Nat) (hAl : A.length = i * 2) (hDl : D.length = (len - i) * 2) (hi : i ≤ len) (h34 : X.length = 2) (hx1 : ∀ v ∈ X, oneCellV v = true) (hD1 : ∀ v ∈ D, oneCellV v = true) (v : Value) (base b : Nat) (w : World)
    (hO : Own w base 47 2 v len (A ++ D)) (hbase : base ≤ w.heap.size) (hB : Blk w b 47 X) (hne : v.ownBlock ≠ some b) (hsz : len ≤ 4000000000) :
    CallK Tryz.prog 249 [v, .int .i64 i, .slice (some ⟨b, 0, none⟩) 1 1].toArray w fun v' w' => Own w' base 47 2 v' (len + 1) (A ++ (X ++ D)) ∧ Below base w w' ∧ OnlyBy v w w' := by
  obtain ⟨a, c, rfl⟩ := own_slice hO
  have hcl := hO.cap_le
  refine enterT Tryz.func249 rfl Tryz.ntmps249 Tryz.results249 rfl (by decide) ?_
  simp only [↓VD, VP, VT, isAggD, reduceCtorEq, Int.reduceEq, Int.reduceNe, Int.reduceLT, Int.reduceLE, implies_true, Nat.reduceEqDiff, reduceIte, ite_true, ite_false, eq_self, Nat.reduceLT, Nat.reduceLeDiff, Nat.reduceAdd, Nat.reduceMul, Nat.reduceSub, intOf, (show IntKind.i64.wrap ((len : Int) + 1) = ((len + 1 : Nat) : Int) from by rw [w64 (by omega) (by omega)] <;> omega)]
  refine ⟨by omega, by omega, by omega, fun a' ha0 ha' => ⟨fun hin => ?_, fun hin => ?_⟩⟩
  · have hin' : i = len := by omega
    subst hin'
    refine apS (sz := 2) (m := 1) Tryz.underlying24 z47 c47 rfl (by decide) hO hbase (SlC.of_blk hB (by decide)) (by omega) hx1 (by omega) (by rw [by47]; omega) (fun v' w' hO' hg => ?_)
    simp only [↓VD, VP, VT, isAggD, reduceCtorEq, Int.reduceEq, Int.reduceNe, Int.reduceLT, Int.reduceLE, implies_true, Nat.reduceEqDiff, reduceIte, ite_true, ite_false, eq_self, Nat.reduceLT, Nat.reduceLeDiff, Nat.reduceAdd, Nat.reduceMul, Nat.reduceSub, intOf]
    have hD0 : D = [] := List.length_eq_zero_iff.1 (by omega)
    subst hD0
    refine ⟨?_, below_of_grown hO hbase hg, fun k T l hk hBk => ⟨by rw [hg.block k hBk.lt (fun h => hk h.symm)]; exact hBk.out⟩⟩
    simpa using hO'
  · have hin' : i < len := by omega
    obtain ⟨_, ⟨h0, h0'⟩ | ⟨g, cap, cur, h0, hbg, hg, hnc, hcm, hcs, hct⟩⟩ := hO
    · omega
    cases h0
    obtain ⟨rest, hrest⟩ : ∃ rest, cur.toList = A ++ (D ++ rest) := ⟨cur.toList.drop (len * 2), by rw [← List.append_assoc, ← hct, List.take_append_drop]⟩
    have hG : Blk w g 47 (A ++ (D ++ rest)) := ⟨by rw [← hrest]; simpa using hg⟩
    have hrl : rest.length = (c - len) * 2 := by
      have := congrArg List.length hrest
      rw [List.length_append, List.length_append, Array.length_toList, hcs] at this
      omega
    have hgb : g ≠ b := by simpa [Value.ownBlock] using hne
    have hwi : IntKind.i64.wrap (((len + 1 : Nat) : Int) - (i : Int)) = ((len + 1 - i : Nat) : Int) := by rw [w64 (by omega) (by omega)]; omega
    have hm1 : min 1 (len + 1 - i) = 1 := by omega
    have hm2 : min (len - i) (len - i) = len - i := by omega
    have hm3 : min (len + 1 - i) (len - i) = len - i := by omega
    clear hct hrest hcs hg hne
    refine ⟨fun hgrow => ?_, fun hroom => ?_⟩
    · simp only [↓VD, VP, VT, isAggD, reduceCtorEq, Int.reduceEq, Int.reduceNe, Int.reduceLT, Int.reduceLE, implies_true, Nat.reduceEqDiff, reduceIte, ite_true, ite_false, eq_self, Nat.reduceLT, Nat.reduceLeDiff, Nat.reduceAdd, Nat.reduceMul, Nat.reduceSub, intOf, (show IntKind.i64.wrap ((len : Int) + 1) = ((len + 1 : Nat) : Int) from by rw [w64 (by omega) (by omega)] <;> omega), hwi]
      refine ⟨by omega, by omega, fun a1 ha1 => ?_⟩
      obtain ⟨o1, rfl, ho1⟩ := ha1 g 0 rfl
      obtain rfl : o1 = 0 := by have := ho1 (by omega); simpa using this
      rw [show ((i : Int) - 0).toNat = i from by omega, show ((c : Int) - 0).toNat = c from by omega]
      refine apZ (sz := 2) (xs := A) Tryz.underlying24 Tryz.underlying3 z47 c47 (by decide) (fun j u hj => ?_) hAl (by omega) (by omega) (by omega) (by rw [by47]; omega) rfl (fun c' zs w1 h1 h2 hzs hN => ?_)
      · rw [hG.cell, List.getElem?_append_left (List.getElem?_eq_some_iff.1 hj).1]
        exact hj
      have s1 := hN.size
      obtain ⟨z1, z2, z3, rfl, hz1, hz2⟩ : ∃ z1 z2 z3, zs = z1 ++ (z2 ++ z3) ∧ z1.length = 2 ∧ z2.length = (len - i) * 2 := ⟨zs.take 2, (zs.drop 2).take ((len - i) * 2), (zs.drop 2).drop ((len - i) * 2), by simp only [List.take_append_drop], by rw [List.length_take]; omega, by rw [List.length_take, List.length_drop]; omega⟩
      rw [List.length_append, List.length_append] at hzs
      simp only [↓VD, VP, VT, isAggD, reduceCtorEq, Int.reduceEq, Int.reduceNe, Int.reduceLT, Int.reduceLE, implies_true, Nat.reduceEqDiff, reduceIte, ite_true, ite_false, eq_self, Nat.reduceLT, Nat.reduceLeDiff, Nat.reduceAdd, Nat.reduceMul, Nat.reduceSub, intOf]
      refine ⟨by omega, by omega, by omega, fun a2 ha2 => ?_⟩
      obtain ⟨o2, rfl, ho2⟩ := ha2 w.heap.size 0 rfl
      obtain rfl : o2 = i * 2 := by have := ho2 (by omega); simpa using this
      rw [show (((i + (len + 1 - i) : Nat) : Int) - (i : Int)).toNat = len + 1 - i from by omega, show i + (len + 1 - i) = len + 1 from by omega]
      refine cpS (sz := 2) (m := 1) (cells := X) Tryz.underlying24 c47 (by decide) hN.blk (SlC.of_blk (hB.ext hN.ext) (by decide)) (by omega) hx1 (by simp only [List.length_append]; omega) (fun w2 hP => ?_)
      rw [hm1, Nat.one_mul, List.take_of_length_le (by omega), splice_at hAl (by omega)] at hP
      simp only [↓VD, VP, VT, isAggD, reduceCtorEq, Int.reduceEq, Int.reduceNe, Int.reduceLT, Int.reduceLE, implies_true, Nat.reduceEqDiff, reduceIte, ite_true, ite_false, eq_self, Nat.reduceLT, Nat.reduceLeDiff, Nat.reduceAdd, Nat.reduceMul, Nat.reduceSub, intOf]
      refine drawH (fun _ => True) [0, 1, 2, 3, 4, 5, 6, 7, 8] mixed (by decide +kernel) (fun w3 hE3 hh => ⟨trivial, ?_⟩)
      simp only [↓VD, VP, VT, isAggD, reduceCtorEq, Int.reduceEq, Int.reduceNe, Int.reduceLT, Int.reduceLE, implies_true, Nat.reduceEqDiff, reduceIte, ite_true, ite_false, eq_self, Nat.reduceLT, Nat.reduceLeDiff, Nat.reduceAdd, Nat.reduceMul, Nat.reduceSub, intOf, (show IntKind.i64.wrap ((i : Int) + 1) = ((i + 1 : Nat) : Int) from by rw [w64 (by omega) (by omega)] <;> omega)]
      refine ⟨by omega, by omega, by omega, fun a3 ha3 => ⟨by omega, by omega, by omega, fun a4 ha4 => ?_⟩⟩
      obtain ⟨o3, rfl, ho3⟩ := ha3 w.heap.size 0 rfl
      obtain ⟨o4, rfl, ho4⟩ := ha4 g 0 rfl
      obtain rfl : o4 = i * 2 := by have := ho4 (by omega); simpa using this
      obtain rfl : o3 = (i + 1) * 2 := by have := ho3 (by omega); simpa using this
      rw [show (((len + 1 : Nat) : Int) - ((i + 1 : Nat) : Int)).toNat = len - i from by omega, show ((len : Int) - (i : Int)).toNat = len - i from by omega]
      have hG2 := (hP.keep (hG.ext hN.ext) (by have := hG.lt; omega)).ext hE3
      have hN2 := hP.blk.ext hE3
      rw [← List.append_assoc] at hN2
      refine cpS (sz := 2) (m := len - i) (cells := D) Tryz.underlying24 c47 (by decide) hN2 (SlC.of_part hG2 (by omega) (by omega) (fun j u hj => by rw [← hAl]; exact mid_get hj)) (by omega) hD1 (by simp only [List.length_append]; omega) (fun w4 hP4 => ?_)
      rw [hm2, List.take_of_length_le (by omega), splice_at (by rw [List.length_append]; omega) (by omega)] at hP4
      refine told (fun _ => True) trivial trivial ?_
      simp only [↓VD, VP, VT, isAggD, reduceCtorEq, Int.reduceEq, Int.reduceNe, Int.reduceLT, Int.reduceLE, implies_true, Nat.reduceEqDiff, reduceIte, ite_true, ite_false, eq_self, Nat.reduceLT, Nat.reduceLeDiff, Nat.reduceAdd, Nat.reduceMul, Nat.reduceSub, intOf]
      refine ⟨own_mk (xs := A ++ (X ++ D)) (rest := z3) (by have := hP4.blk; simpa only [List.append_assoc] using this) (by omega) (by simp only [List.length_append]; omega) (by omega) (by omega) (by omega), (hN.ext.mono hbase).trans ((hP.below (by omega)).trans ((hE3.mono (by have := hP.size; omega)).trans (hP4.below (by omega)))), fun k T l hk hBk => hP4.keep ((hP.keep (hBk.ext hN.ext) (by have := hBk.lt; omega)).ext hE3) (by have := hBk.lt; omega)⟩
    · simp only [↓VD, VP, VT, isAggD, reduceCtorEq, Int.reduceEq, Int.reduceNe, Int.reduceLT, Int.reduceLE, implies_true, Nat.reduceEqDiff, reduceIte, ite_true, ite_false, eq_self, Nat.reduceLT, Nat.reduceLeDiff, Nat.reduceAdd, Nat.reduceMul, Nat.reduceSub, intOf, (show IntKind.i64.wrap ((len : Int) + 1) = ((len + 1 : Nat) : Int) from by rw [w64 (by omega) (by omega)] <;> omega), (show IntKind.i64.wrap ((i : Int) + 1) = ((i + 1 : Nat) : Int) from by rw [w64 (by omega) (by omega)] <;> omega)]
      refine ⟨by omega, by omega, fun a1 ha1 => ?_⟩
      obtain ⟨o1, rfl, ho1⟩ := ha1 g 0 rfl
      obtain rfl : o1 = 0 := by have := ho1 (by omega); simpa using this
      rw [show (((len + 1 : Nat) : Int) - 0).toNat = len + 1 from by omega, show ((c : Int) - 0).toNat = c from by omega]
      refine ⟨by omega, by omega, by omega, fun a2 _ ha2 => ?_⟩
      obtain ⟨o2, rfl, ho2⟩ := ha2 g 0 rfl
      obtain rfl : o2 = (i + 1) * 2 := by have := ho2 (by omega); simpa using this
      refine ⟨Or.inr ⟨.bool false, w, ?_, ?_⟩⟩
      · rw [run_callFunc_extern (e := Extern.SlicesOverlaps.overlaps #[24, 24] #[4]) Tryz.func328 rfl rfl rfl rfl]
        rw [Lib.run_overlaps_apart w 24 4 47 Tryz.underlying24 2 (fun w => by rw [run_sizeOf_pos (by rw [c47]; decide), c47]) ⟨b, 0, none⟩ ⟨g, (i + 1) * 2, none⟩ 1 1 _ _ (by simpa using fun e => hgb e.symm) 47 47 2 (A ++ (D ++ rest)).length (by simp [World.shape?, hB.out, h34]) (by simp [World.shape?, hG.out]) (by simp only [List.length_append]; omega) (by exact hB.frozen 0) (by exact hB.frozen 2)]
        rfl
      · simp only [↓VD, VP, VT, isAggD, reduceCtorEq, Int.reduceEq, Int.reduceNe, Int.reduceLT, Int.reduceLE, implies_true, Nat.reduceEqDiff, reduceIte, ite_true, ite_false, eq_self, Nat.reduceLT, Nat.reduceLeDiff, Nat.reduceAdd, Nat.reduceMul, Nat.reduceSub, intOf, (show IntKind.i64.wrap ((i : Int) + 1) = ((i + 1 : Nat) : Int) from by rw [w64 (by omega) (by omega)] <;> omega)]
        refine drawH (fun _ => True) [0, 1, 2, 3, 4, 5, 6, 7, 8] mixed (by decide +kernel) (fun w3 hE3 hh => ⟨trivial, ?_⟩)
        simp only [↓VD, VP, VT, isAggD, reduceCtorEq, Int.reduceEq, Int.reduceNe, Int.reduceLT, Int.reduceLE, implies_true, Nat.reduceEqDiff, reduceIte, ite_true, ite_false, eq_self, Nat.reduceLT, Nat.reduceLeDiff, Nat.reduceAdd, Nat.reduceMul, Nat.reduceSub, intOf, (show IntKind.i64.wrap ((i : Int) + 1) = ((i + 1 : Nat) : Int) from by rw [w64 (by omega) (by omega)] <;> omega)]
        refine ⟨by omega, by omega, by omega, fun a3 ha3 => ⟨by omega, by omega, by omega, fun a4 ha4 => ?_⟩⟩
        obtain ⟨o3, rfl, ho3⟩ := ha3 g 0 rfl
        obtain ⟨o4, rfl, ho4⟩ := ha4 g 0 rfl
        obtain rfl : o4 = i * 2 := by have := ho4 (by omega); simpa using this
        obtain rfl : o3 = (i + 1) * 2 := by have := ho3 (by omega); simpa using this
        rw [show (((len + 1 : Nat) : Int) - ((i + 1 : Nat) : Int)).toNat = len - i from by omega, show (((len + 1 : Nat) : Int) - (i : Int)).toNat = len + 1 - i from by omega]
        obtain ⟨d1, d2, hdd, hd1l⟩ : ∃ d1 d2, D = d1 ++ d2 ∧ d1.length = 2 := ⟨D.take 2, D.drop 2, (List.take_append_drop _ _).symm, by rw [List.length_take]; omega⟩
        obtain ⟨r1, r2, hrr, hr1l⟩ : ∃ r1 r2, rest = r1 ++ r2 ∧ r1.length = 2 := ⟨rest.take 2, rest.drop 2, (List.take_append_drop _ _).symm, by rw [List.length_take]; omega⟩
        have hll := congrArg List.length hdd
        have hrl2 := congrArg List.length hrr
        rw [List.length_append] at hll hrl2
        have hG3 := hG.ext hE3
        have hG4 : Blk w3 g 47 ((A ++ d1) ++ ((d2 ++ r1) ++ r2)) := by
          have e : A ++ (D ++ rest) = (A ++ d1) ++ ((d2 ++ r1) ++ r2) := by rw [hdd, hrr]; simp
          rw [← e]
          exact hG3
        refine cpS' (sz := 2) (m := len + 1 - i) (cells := D ++ r1) Tryz.underlying24 c47 (by decide) hG4 (SlC.of_part hG3 (by omega) (by omega) (fun j u hj => ?_)) (by rw [List.length_append]; omega) ?_ (by simp only [List.length_append]; omega) (fun w4 hP4 => ?_)
        · rw [← hAl, hrr, ← List.append_assoc D]
          exact mid_get hj
        · rw [hm3, List.take_left' (by omega)]
          exact hD1
        rw [hm3, List.take_left' (by omega), splice_at (by rw [List.length_append]; omega) (by rw [List.length_append]; omega)] at hP4
        refine told (fun _ => True) trivial trivial ?_
        simp only [↓VD, VP, VT, isAggD, reduceCtorEq, Int.reduceEq, Int.reduceNe, Int.reduceLT, Int.reduceLE, implies_true, Nat.reduceEqDiff, reduceIte, ite_true, ite_false, eq_self, Nat.reduceLT, Nat.reduceLeDiff, Nat.reduceAdd, Nat.reduceMul, Nat.reduceSub, intOf]
        refine ⟨by omega, by omega, by omega, fun a5 ha5 => ?_⟩
        obtain ⟨o5, rfl, ho5⟩ := ha5 g 0 rfl
        obtain rfl : o5 = i * 2 := by have := ho5 (by omega); simpa using this
        rw [show (((len + 1 : Nat) : Int) - (i : Int)).toNat = len + 1 - i from by omega]
        have hB5 := hP4.keep (hB.ext hE3) (by omega)
        have hG5 : Blk w4 g 47 (A ++ (d1 ++ (D ++ r2))) := by
          have := hP4.blk
          simpa only [List.append_assoc] using this
        refine cpS (sz := 2) (m := 1) (cells := X) Tryz.underlying24 c47 (by decide) hG5 (SlC.of_blk hB5 (by decide)) (by omega) hx1 (by simp only [List.length_append]; omega) (fun w6 hP6 => ?_)
        rw [hm1, Nat.one_mul, List.take_of_length_le (by omega), splice_at hAl (by omega)] at hP6
        simp only [↓VD, VP, VT, isAggD, reduceCtorEq, Int.reduceEq, Int.reduceNe, Int.reduceLT, Int.reduceLE, implies_true, Nat.reduceEqDiff, reduceIte, ite_true, ite_false, eq_self, Nat.reduceLT, Nat.reduceLeDiff, Nat.reduceAdd, Nat.reduceMul, Nat.reduceSub, intOf]
        refine ⟨own_mk (xs := A ++ (X ++ D)) (rest := r2) (by have := hP6.blk; simpa only [List.append_assoc] using this) (by omega) (by simp only [List.length_append]; omega) (by omega) (by omega) (by omega), (hE3.mono hbase).trans ((hP4.below (by omega)).trans (hP6.below (by omega))), fun k T l hk hBk => hP6.keep (hP4.keep (hBk.ext hE3) (fun e => hk (by simp [Value.ownBlock, e]))) (fun e => hk (by simp [Value.ownBlock, e]))⟩


theorem ClnN_ok (cells : List Value) (n : Nat) (v : Value) (w : World) (hv : SlC w v n cells) (hl : cells.length = n * 1) (h1 : ∀ x ∈ cells, oneCellV x = true) (hsz : n ≤ 4000000000) :
    CallK Tryz.prog 250 [v].toArray w fun v' w' => Own w' w.heap.size 209 1 v' n cells ∧ Ext w w' := by
  have hv' := hv
  obtain ⟨a, c, rfl, hnc, hcm, hc⟩ := hv'
  refine enterT Tryz.func250 rfl Tryz.ntmps250 Tryz.results250 rfl (by decide) ?_
  simp only [↓VD, VP, VT, isAggD, reduceCtorEq, Int.reduceEq, Int.reduceNe, Int.reduceLT, Int.reduceLE, implies_true, Nat.reduceEqDiff, reduceIte, ite_true, ite_false, eq_self, Nat.reduceLT, Nat.reduceLeDiff, Nat.reduceAdd, Nat.reduceMul, Nat.reduceSub, intOf]
  refine ⟨fun ha => ?_, fun ha => ⟨rfl, fun w1 hN => ?_⟩⟩
  · have : cells = [] := by
      rcases hc with hc | ⟨b, o, rfl, _⟩
      · exact hc
      · cases ha
    subst this
    obtain rfl : n = 0 := by simp only [List.length_nil] at hl; omega
    exact ⟨Own.nil _ _ _ _, Ext.rfl' w⟩
  · refine apS (sz := 1) Tryz.underlying223 z209 c209 rfl (by decide) (Own.of_blk (sz := 1) hN.blk (Nat.le_refl _) rfl (by decide)) (by have := hN.size; omega) (hv.ext hN.ext) hl h1 (by omega) (by rw [by209]; omega) (fun v' w2 hO hg => ?_)
    simp only [↓VD, VP, VT, isAggD, reduceCtorEq, Int.reduceEq, Int.reduceNe, Int.reduceLT, Int.reduceLE, implies_true, Nat.reduceEqDiff, reduceIte, ite_true, ite_false, eq_self, Nat.reduceLT, Nat.reduceLeDiff, Nat.reduceAdd, Nat.reduceMul, Nat.reduceSub, intOf]
    refine ⟨by simpa using hO, hN.ext.trans ⟨hg.os, hg.tape, hg.output, hg.size, fun k hk => hg.block k (by have := hN.size; omega) ?_⟩⟩
    simp only [Value.ownBlock, ne_eq, Option.some.injEq]
    omega
theorem InsN_ok (A D X : List Value) (i len : Nat) (hAl : A.length = i * 1) (hDl : D.length = (len - i) * 1) (hi : i ≤ len) (h34 : X.length = 1) (hx1 : ∀ v ∈ X, oneCellV v = true) (hD1 : ∀ v ∈ D, oneCellV v = true) (v : Value) (base b : Nat) (w : World)
    (hO : Own w base 209 1 v len (A ++ D)) (hbase : base ≤ w.heap.size) (hB : Blk w b 209 X) (hne : v.ownBlock ≠ some b) (hsz : len ≤ 4000000000) :
    CallK Tryz.prog 251 [v, .int .i64 i, .slice (some ⟨b, 0, none⟩) 1 1].toArray w fun v' w' => Own w' base 209 1 v' (len + 1) (A ++ (X ++ D)) ∧ Below base w w' ∧ OnlyBy v w w' := by
  obtain ⟨a, c, rfl⟩ := own_slice hO
  have hcl := hO.cap_le
  refine enterT Tryz.func251 rfl Tryz.ntmps251 Tryz.results251 rfl (by decide) ?_
  simp only [↓VD, VP, VT, isAggD, reduceCtorEq, Int.reduceEq, Int.reduceNe, Int.reduceLT, Int.reduceLE, implies_true, Nat.reduceEqDiff, reduceIte, ite_true, ite_false, eq_self, Nat.reduceLT, Nat.reduceLeDiff, Nat.reduceAdd, Nat.reduceMul, Nat.reduceSub, intOf, (show IntKind.i64.wrap ((len : Int) + 1) = ((len + 1 : Nat) : Int) from by rw [w64 (by omega) (by omega)] <;> omega)]
  refine ⟨by omega, by omega, by omega, fun a' ha0 ha' => ⟨fun hin => ?_, fun hin => ?_⟩⟩
  · have hin' : i = len := by omega
    subst hin'
    refine apS (sz := 1) (m := 1) Tryz.underlying223 z209 c209 rfl (by decide) hO hbase (SlC.of_blk hB (by decide)) (by omega) hx1 (by omega) (by rw [by209]; omega) (fun v' w' hO' hg => ?_)
    simp only [↓VD, VP, VT, isAggD, reduceCtorEq, Int.reduceEq, Int.reduceNe, Int.reduceLT, Int.reduceLE, implies_true, Nat.reduceEqDiff, reduceIte, ite_true, ite_false, eq_self, Nat.reduceLT, Nat.reduceLeDiff, Nat.reduceAdd, Nat.reduceMul, Nat.reduceSub, intOf]
    have hD0 : D = [] := List.length_eq_zero_iff.1 (by omega)
    subst hD0
    refine ⟨?_, below_of_grown hO hbase hg, fun k T l hk hBk => ⟨by rw [hg.block k hBk.lt (fun h => hk h.symm)]; exact hBk.out⟩⟩
    simpa using hO'
  · have hin' : i < len := by omega
    obtain ⟨_, ⟨h0, h0'⟩ | ⟨g, cap, cur, h0, hbg, hg, hnc, hcm, hcs, hct⟩⟩ := hO
    · omega
    cases h0
    obtain ⟨rest, hrest⟩ : ∃ rest, cur.toList = A ++ (D ++ rest) := ⟨cur.toList.drop (len * 1), by rw [← List.append_assoc, ← hct, List.take_append_drop]⟩
    have hG : Blk w g 209 (A ++ (D ++ rest)) := ⟨by rw [← hrest]; simpa using hg⟩
    have hrl : rest.length = (c - len) * 1 := by
      have := congrArg List.length hrest
      rw [List.length_append, List.length_append, Array.length_toList, hcs] at this
      omega
    have hgb : g ≠ b := by simpa [Value.ownBlock] using hne
    have hwi : IntKind.i64.wrap (((len + 1 : Nat) : Int) - (i : Int)) = ((len + 1 - i : Nat) : Int) := by rw [w64 (by omega) (by omega)]; omega
    have hm1 : min 1 (len + 1 - i) = 1 := by omega
    have hm2 : min (len - i) (len - i) = len - i := by omega
    have hm3 : min (len + 1 - i) (len - i) = len - i := by omega
    clear hct hrest hcs hg hne
    refine ⟨fun hgrow => ?_, fun hroom => ?_⟩
    · simp only [↓VD, VP, VT, isAggD, reduceCtorEq, Int.reduceEq, Int.reduceNe, Int.reduceLT, Int.reduceLE, implies_true, Nat.reduceEqDiff, reduceIte, ite_true, ite_false, eq_self, Nat.reduceLT, Nat.reduceLeDiff, Nat.reduceAdd, Nat.reduceMul, Nat.reduceSub, intOf, (show IntKind.i64.wrap ((len : Int) + 1) = ((len + 1 : Nat) : Int) from by rw [w64 (by omega) (by omega)] <;> omega), hwi]
      refine ⟨by omega, by omega, fun a1 ha1 => ?_⟩
      obtain ⟨o1, rfl, ho1⟩ := ha1 g 0 rfl
      obtain rfl : o1 = 0 := by have := ho1 (by omega); simpa using this
      rw [show ((i : Int) - 0).toNat = i from by omega, show ((c : Int) - 0).toNat = c from by omega]
      refine apZ (sz := 1) (xs := A) Tryz.underlying223 Tryz.underlying3 z209 c209 (by decide) (fun j u hj => ?_) hAl (by omega) (by omega) (by omega) (by rw [by209]; omega) rfl (fun c' zs w1 h1 h2 hzs hN => ?_)
      · rw [hG.cell, List.getElem?_append_left (List.getElem?_eq_some_iff.1 hj).1]
        exact hj
      have s1 := hN.size
      obtain ⟨z1, z2, z3, rfl, hz1, hz2⟩ : ∃ z1 z2 z3, zs = z1 ++ (z2 ++ z3) ∧ z1.length = 1 ∧ z2.length = (len - i) * 1 := ⟨zs.take 1, (zs.drop 1).take ((len - i) * 1), (zs.drop 1).drop ((len - i) * 1), by simp only [List.take_append_drop], by rw [List.length_take]; omega, by rw [List.length_take, List.length_drop]; omega⟩
      rw [List.length_append, List.length_append] at hzs
      simp only [↓VD, VP, VT, isAggD, reduceCtorEq, Int.reduceEq, Int.reduceNe, Int.reduceLT, Int.reduceLE, implies_true, Nat.reduceEqDiff, reduceIte, ite_true, ite_false, eq_self, Nat.reduceLT, Nat.reduceLeDiff, Nat.reduceAdd, Nat.reduceMul, Nat.reduceSub, intOf]
      refine ⟨by omega, by omega, by omega, fun a2 ha2 => ?_⟩
      obtain ⟨o2, rfl, ho2⟩ := ha2 w.heap.size 0 rfl
      obtain rfl : o2 = i * 1 := by have := ho2 (by omega); simpa using this
      rw [show (((i + (len + 1 - i) : Nat) : Int) - (i : Int)).toNat = len + 1 - i from by omega, show i + (len + 1 - i) = len + 1 from by omega]
      refine cpS (sz := 1) (m := 1) (cells := X) Tryz.underlying223 c209 (by decide) hN.blk (SlC.of_blk (hB.ext hN.ext) (by decide)) (by omega) hx1 (by simp only [List.length_append]; omega) (fun w2 hP => ?_)
      rw [hm1, Nat.one_mul, List.take_of_length_le (by omega), splice_at hAl (by omega)] at hP
      simp only [↓VD, VP, VT, isAggD, reduceCtorEq, Int.reduceEq, Int.reduceNe, Int.reduceLT, Int.reduceLE, implies_true, Nat.reduceEqDiff, reduceIte, ite_true, ite_false, eq_self, Nat.reduceLT, Nat.reduceLeDiff, Nat.reduceAdd, Nat.reduceMul, Nat.reduceSub, intOf]
      refine drawH (fun _ => True) [0, 1, 2, 3, 4, 5, 6, 7, 8] mixed (by decide +kernel) (fun w3 hE3 hh => ⟨trivial, ?_⟩)
      simp only [↓VD, VP, VT, isAggD, reduceCtorEq, Int.reduceEq, Int.reduceNe, Int.reduceLT, Int.reduceLE, implies_true, Nat.reduceEqDiff, reduceIte, ite_true, ite_false, eq_self, Nat.reduceLT, Nat.reduceLeDiff, Nat.reduceAdd, Nat.reduceMul, Nat.reduceSub, intOf, (show IntKind.i64.wrap ((i : Int) + 1) = ((i + 1 : Nat) : Int) from by rw [w64 (by omega) (by omega)] <;> omega)]
      refine ⟨by omega, by omega, by omega, fun a3 ha3 => ⟨by omega, by omega, by omega, fun a4 ha4 => ?_⟩⟩
      obtain ⟨o3, rfl, ho3⟩ := ha3 w.heap.size 0 rfl
      obtain ⟨o4, rfl, ho4⟩ := ha4 g 0 rfl
      obtain rfl : o4 = i * 1 := by have := ho4 (by omega); simpa using this
      obtain rfl : o3 = (i + 1) * 1 := by have := ho3 (by omega); simpa using this
      rw [show (((len + 1 : Nat) : Int) - ((i + 1 : Nat) : Int)).toNat = len - i from by omega, show ((len : Int) - (i : Int)).toNat = len - i from by omega]
      have hG2 := (hP.keep (hG.ext hN.ext) (by have := hG.lt; omega)).ext hE3
      have hN2 := hP.blk.ext hE3
      rw [← List.append_assoc] at hN2
      refine cpS (sz := 1) (m := len - i) (cells := D) Tryz.underlying223 c209 (by decide) hN2 (SlC.of_part hG2 (by omega) (by omega) (fun j u hj => by rw [← hAl]; exact mid_get hj)) (by omega) hD1 (by simp only [List.length_append]; omega) (fun w4 hP4 => ?_)
      rw [hm2, List.take_of_length_le (by omega), splice_at (by rw [List.length_append]; omega) (by omega)] at hP4
      refine told (fun _ => True) trivial trivial ?_
      simp only [↓VD, VP, VT, isAggD, reduceCtorEq, Int.reduceEq, Int.reduceNe, Int.reduceLT, Int.reduceLE, implies_true, Nat.reduceEqDiff, reduceIte, ite_true, ite_false, eq_self, Nat.reduceLT, Nat.reduceLeDiff, Nat.reduceAdd, Nat.reduceMul, Nat.reduceSub, intOf]
      refine ⟨own_mk (xs := A ++ (X ++ D)) (rest := z3) (by have := hP4.blk; simpa only [List.append_assoc] using this) (by omega) (by simp only [List.length_append]; omega) (by omega) (by omega) (by omega), (hN.ext.mono hbase).trans ((hP.below (by omega)).trans ((hE3.mono (by have := hP.size; omega)).trans (hP4.below (by omega)))), fun k T l hk hBk => hP4.keep ((hP.keep (hBk.ext hN.ext) (by have := hBk.lt; omega)).ext hE3) (by have := hBk.lt; omega)⟩
    · simp only [↓VD, VP, VT, isAggD, reduceCtorEq, Int.reduceEq, Int.reduceNe, Int.reduceLT, Int.reduceLE, implies_true, Nat.reduceEqDiff, reduceIte, ite_true, ite_false, eq_self, Nat.reduceLT, Nat.reduceLeDiff, Nat.reduceAdd, Nat.reduceMul, Nat.reduceSub, intOf, (show IntKind.i64.wrap ((len : Int) + 1) = ((len + 1 : Nat) : Int) from by rw [w64 (by omega) (by omega)] <;> omega), (show IntKind.i64.wrap ((i : Int) + 1) = ((i + 1 : Nat) : Int) from by rw [w64 (by omega) (by omega)] <;> omega)]
      refine ⟨by omega, by omega, fun a1 ha1 => ?_⟩
      obtain ⟨o1, rfl, ho1⟩ := ha1 g 0 rfl
      obtain rfl : o1 = 0 := by have := ho1 (by omega); simpa using this
      rw [show (((len + 1 : Nat) : Int) - 0).toNat = len + 1 from by omega, show ((c : Int) - 0).toNat = c from by omega]
      refine ⟨by omega, by omega, by omega, fun a2 _ ha2 => ?_⟩
      obtain ⟨o2, rfl, ho2⟩ := ha2 g 0 rfl
      obtain rfl : o2 = (i + 1) * 1 := by have := ho2 (by omega); simpa using this
      refine ⟨Or.inr ⟨.bool false, w, ?_, ?_⟩⟩
      · rw [run_callFunc_extern (e := Extern.SlicesOverlaps.overlaps #[223, 223] #[4]) Tryz.func330 rfl rfl rfl rfl]
        rw [Lib.run_overlaps_apart w 223 4 209 Tryz.underlying223 1 (fun w => by rw [run_sizeOf_pos (by rw [c209]; decide), c209]) ⟨b, 0, none⟩ ⟨g, (i + 1) * 1, none⟩ 1 1 _ _ (by simpa using fun e => hgb e.symm) 209 209 1 (A ++ (D ++ rest)).length (by simp [World.shape?, hB.out, h34]) (by simp [World.shape?, hG.out]) (by simp only [List.length_append]; omega) (by exact hB.frozen 0) (by exact hB.frozen 1)]
        rfl
      · simp only [↓VD, VP, VT, isAggD, reduceCtorEq, Int.reduceEq, Int.reduceNe, Int.reduceLT, Int.reduceLE, implies_true, Nat.reduceEqDiff, reduceIte, ite_true, ite_false, eq_self, Nat.reduceLT, Nat.reduceLeDiff, Nat.reduceAdd, Nat.reduceMul, Nat.reduceSub, intOf, (show IntKind.i64.wrap ((i : Int) + 1) = ((i + 1 : Nat) : Int) from by rw [w64 (by omega) (by omega)] <;> omega)]
        refine drawH (fun _ => True) [0, 1, 2, 3, 4, 5, 6, 7, 8] mixed (by decide +kernel) (fun w3 hE3 hh => ⟨trivial, ?_⟩)
        simp only [↓VD, VP, VT, isAggD, reduceCtorEq, Int.reduceEq, Int.reduceNe, Int.reduceLT, Int.reduceLE, implies_true, Nat.reduceEqDiff, reduceIte, ite_true, ite_false, eq_self, Nat.reduceLT, Nat.reduceLeDiff, Nat.reduceAdd, Nat.reduceMul, Nat.reduceSub, intOf, (show IntKind.i64.wrap ((i : Int) + 1) = ((i + 1 : Nat) : Int) from by rw [w64 (by omega) (by omega)] <;> omega)]
        refine ⟨by omega, by omega, by omega, fun a3 ha3 => ⟨by omega, by omega, by omega, fun a4 ha4 => ?_⟩⟩
        obtain ⟨o3, rfl, ho3⟩ := ha3 g 0 rfl
        obtain ⟨o4, rfl, ho4⟩ := ha4 g 0 rfl
        obtain rfl : o4 = i * 1 := by have := ho4 (by omega); simpa using this
        obtain rfl : o3 = (i + 1) * 1 := by have := ho3 (by omega); simpa using this
        rw [show (((len + 1 : Nat) : Int) - ((i + 1 : Nat) : Int)).toNat = len - i from by omega, show (((len + 1 : Nat) : Int) - (i : Int)).toNat = len + 1 - i from by omega]
        obtain ⟨d1, d2, hdd, hd1l⟩ : ∃ d1 d2, D = d1 ++ d2 ∧ d1.length = 1 := ⟨D.take 1, D.drop 1, (List.take_append_drop _ _).symm, by rw [List.length_take]; omega⟩
        obtain ⟨r1, r2, hrr, hr1l⟩ : ∃ r1 r2, rest = r1 ++ r2 ∧ r1.length = 1 := ⟨rest.take 1, rest.drop 1, (List.take_append_drop _ _).symm, by rw [List.length_take]; omega⟩
        have hll := congrArg List.length hdd
        have hrl2 := congrArg List.length hrr
        rw [List.length_append] at hll hrl2
        have hG3 := hG.ext hE3
        have hG4 : Blk w3 g 209 ((A ++ d1) ++ ((d2 ++ r1) ++ r2)) := by
          have e : A ++ (D ++ rest) = (A ++ d1) ++ ((d2 ++ r1) ++ r2) := by rw [hdd, hrr]; simp
          rw [← e]
          exact hG3
        refine cpS' (sz := 1) (m := len + 1 - i) (cells := D ++ r1) Tryz.underlying223 c209 (by decide) hG4 (SlC.of_part hG3 (by omega) (by omega) (fun j u hj => ?_)) (by rw [List.length_append]; omega) ?_ (by simp only [List.length_append]; omega) (fun w4 hP4 => ?_)
        · rw [← hAl, hrr, ← List.append_assoc D]
          exact mid_get hj
        · rw [hm3, List.take_left' (by omega)]
          exact hD1
        rw [hm3, List.take_left' (by omega), splice_at (by rw [List.length_append]; omega) (by rw [List.length_append]; omega)] at hP4
        refine told (fun _ => True) trivial trivial ?_
        simp only [↓VD, VP, VT, isAggD, reduceCtorEq, Int.reduceEq, Int.reduceNe, Int.reduceLT, Int.reduceLE, implies_true, Nat.reduceEqDiff, reduceIte, ite_true, ite_false, eq_self, Nat.reduceLT, Nat.reduceLeDiff, Nat.reduceAdd, Nat.reduceMul, Nat.reduceSub, intOf]
        refine ⟨by omega, by omega, by omega, fun a5 ha5 => ?_⟩
        obtain ⟨o5, rfl, ho5⟩ := ha5 g 0 rfl
        obtain rfl : o5 = i * 1 := by have := ho5 (by omega); simpa using this
        rw [show (((len + 1 : Nat) : Int) - (i : Int)).toNat = len + 1 - i from by omega]
        have hB5 := hP4.keep (hB.ext hE3) (by omega)
        have hG5 : Blk w4 g 209 (A ++ (d1 ++ (D ++ r2))) := by
          have := hP4.blk
          simpa only [List.append_assoc] using this
        refine cpS (sz := 1) (m := 1) (cells := X) Tryz.underlying223 c209 (by decide) hG5 (SlC.of_blk hB5 (by decide)) (by omega) hx1 (by simp only [List.length_append]; omega) (fun w6 hP6 => ?_)
        rw [hm1, Nat.one_mul, List.take_of_length_le (by omega), splice_at hAl (by omega)] at hP6
        simp only [↓VD, VP, VT, isAggD, reduceCtorEq, Int.reduceEq, Int.reduceNe, Int.reduceLT, Int.reduceLE, implies_true, Nat.reduceEqDiff, reduceIte, ite_true, ite_false, eq_self, Nat.reduceLT, Nat.reduceLeDiff, Nat.reduceAdd, Nat.reduceMul, Nat.reduceSub, intOf]
        refine ⟨own_mk (xs := A ++ (X ++ D)) (rest := r2) (by have := hP6.blk; simpa only [List.append_assoc] using this) (by omega) (by simp only [List.length_append]; omega) (by omega) (by omega) (by omega), (hE3.mono hbase).trans ((hP4.below (by omega)).trans (hP6.below (by omega))), fun k T l hk hBk => hP6.keep (hP4.keep (hBk.ext hE3) (fun e => hk (by simp [Value.ownBlock, e]))) (fun e => hk (by simp [Value.ownBlock, e]))⟩


end Go.Proofs.YthlkfjoibjhaiaaGreatDoor

/-! Hmc -/
namespace Go.Proofs.YthlkfjoibjhaiaaGreatDoor
set_option maxRecDepth 100000
set_option maxHeartbeats 2000000
open Go Go.RowKit
set_option linter.unusedVariables false
set_option linter.unusedSimpArgs false
attribute [local irreducible] vcT opsT qT vcOp Q1 vcPure vcLoad vcStore ldC ldN ldD grdT grdQ vc vcOps vcQ hT
attribute [local irreducible] sumR sumP shaP keyD bucketP branchP

/-! ### Lists of bytes in blocks of their own -/
/-- Bytes in a block of their own, from lo on and below hi. -/
structure OwnR (w : World) (lo hi : Nat) (v : Value) (xs : List UInt8) : Prop where
  own : Own w lo 5 1 v xs.length (vbs xs)
  top : ∀ g, v.ownBlock = some g → g < hi
theorem OwnR.ext {w w' : World} {lo hi : Nat} {v : Value} {xs : List UInt8} (h : OwnR w lo hi v xs) (e : Ext w w') : OwnR w' lo hi v xs := ⟨h.own.ext e, h.top⟩
theorem OwnR.mono {w : World} {lo hi lo' hi' : Nat} {v : Value} {xs : List UInt8} (h : OwnR w lo hi v xs) (h1 : lo' ≤ lo) (h2 : hi ≤ hi') : OwnR w lo' hi' v xs := ⟨h.own.base h1, fun g e => Nat.lt_of_lt_of_le (h.top g e) h2⟩
theorem OwnR.sl {w : World} {lo hi : Nat} {v : Value} {xs : List UInt8} (h : OwnR w lo hi v xs) : SlB w v xs := SlC.of_own h.own
/-- Lists of bytes, one behind the other from lo on and below hi, each in a block of its own. -/
def RunB (w : World) (hi : Nat) : Nat → List (Value × List UInt8) → Prop
  | lo, [] => lo ≤ hi
  | lo, (v, xs) :: r => ∃ mid, lo ≤ mid ∧ OwnR w lo mid v xs ∧ RunB w hi mid r
theorem RunB.le {w : World} {hi : Nat} : ∀ {l : List (Value × List UInt8)} {lo : Nat}, RunB w hi lo l → lo ≤ hi
  | [], lo, h => h
  | (v, xs) :: r, lo, h => by obtain ⟨mid, h1, _, h2⟩ := h; exact Nat.le_trans h1 h2.le
theorem RunB.ext {w w' : World} {hi : Nat} (e : Ext w w') : ∀ {l : List (Value × List UInt8)} {lo : Nat}, RunB w hi lo l → RunB w' hi lo l
  | [], lo, h => h
  | (v, xs) :: r, lo, h => by obtain ⟨mid, h1, h2, h3⟩ := h; exact ⟨mid, h1, h2.ext e, RunB.ext e h3⟩
theorem RunB.append {w : World} {m hi : Nat} : ∀ {l l' : List (Value × List UInt8)} {lo : Nat}, RunB w m lo l → RunB w hi m l' → RunB w hi lo (l ++ l')
  | [], l', lo, h, h' => by
    cases l' with
    | nil => exact Nat.le_trans h h'
    | cons x l' =>
      obtain ⟨mid, h1, h2, h3⟩ := h'
      exact ⟨mid, Nat.le_trans h h1, h2.mono h (Nat.le_refl _), h3⟩
  | (v, xs) :: r, l', lo, h, h' => by
    obtain ⟨mid, h1, h2, h3⟩ := h
    exact ⟨mid, h1, h2, RunB.append h3 h'⟩
theorem RunB.top {w : World} {hi hi' : Nat} (hh : hi ≤ hi') : ∀ {l : List (Value × List UInt8)} {lo : Nat}, RunB w hi lo l → RunB w hi' lo l
  | [], lo, h => Nat.le_trans h hh
  | (v, xs) :: r, lo, h => by obtain ⟨mid, h1, h2, h3⟩ := h; exact ⟨mid, h1, h2, RunB.top hh h3⟩
theorem RunB.mem {w : World} {hi : Nat} : ∀ {l : List (Value × List UInt8)} {lo : Nat}, RunB w hi lo l → ∀ p ∈ l, OwnR w lo hi p.1 p.2
  | [], lo, _, p, hp => by cases hp
  | (v, xs) :: r, lo, h, p, hp => by
    obtain ⟨mid, h1, h2, h3⟩ := h
    rcases List.mem_cons.1 hp with rfl | hp
    · exact h2.mono (Nat.le_refl _) h3.le
    · exact (RunB.mem h3 p hp).mono h1 (Nat.le_refl _)
def prB (q : PR) : List (Value × List UInt8) := [(q.kv, q.k), (q.vv, q.v)]

theorem ClnB_ok (xs : List UInt8) (v : Value) (w : World) (hv : SlB w v xs) (hsz : xs.length ≤ 4000000000) :
    CallK Tryz.prog 135 [v].toArray w fun v' w' => OwnR w' w.heap.size w'.heap.size v' xs ∧ Ext w w' := by
  have hv' := hv
  obtain ⟨a, c, rfl, hnc, hcm, hc⟩ := hv'
  refine enterT Tryz.func135 rfl Tryz.ntmps135 Tryz.results135 rfl (by decide) ?_
  simp only [↓VD, VP, VT, isAggD, reduceCtorEq, Int.reduceEq, Int.reduceNe, Int.reduceLT, Int.reduceLE, implies_true, Nat.reduceEqDiff, reduceIte, ite_true, ite_false, eq_self, Nat.reduceLT, Nat.reduceLeDiff, Nat.reduceAdd, Nat.reduceMul, Nat.reduceSub, intOf]
  refine ⟨fun ha => ?_, fun ha => ⟨rfl, fun w1 hN => ?_⟩⟩
  · have : xs = [] := by
      rcases hc with hc | ⟨b, o, rfl, _⟩
      · simpa [vbs] using hc
      · cases ha
    subst this
    exact ⟨⟨Own.nil _ _ _ _, fun g h => by simp [Value.ownBlock] at h⟩, Ext.rfl' w⟩
  · refine apS Tryz.underlying22 z5 c5 rfl (by decide) (Own.of_blk hN.blk (Nat.le_refl _) rfl (by decide)) (by have := hN.size; omega) (hv.ext hN.ext) (by rw [vbs_len, Nat.mul_one]) (vbs_one _) (by omega) (by rw [by5]; omega) (fun v' w2 hO hg => ?_)
    simp only [↓VD, VP, VT, isAggD, reduceCtorEq, Int.reduceEq, Int.reduceNe, Int.reduceLT, Int.reduceLE, implies_true, Nat.reduceEqDiff, reduceIte, ite_true, ite_false, eq_self, Nat.reduceLT, Nat.reduceLeDiff, Nat.reduceAdd, Nat.reduceMul, Nat.reduceSub, intOf]
    have hO' : Own w2 w.heap.size 5 1 v' xs.length (vbs xs) := by simpa using hO
    refine ⟨⟨hO', hO'.top⟩, hN.ext.trans ⟨hg.os, hg.tape, hg.output, hg.size, fun k hk => hg.block k (by have := hN.size; omega) ?_⟩⟩
    simp only [Value.ownBlock, ne_eq, Option.some.injEq]
    omega
theorem twin_hamt_ok (k v : List UInt8) (kv vv : Value) (w : World) (hk : SlB w kv k) (hv : SlB w vv v) (hkl : k.length ≤ 4000000000) (hvl : v.length ≤ 4000000000) :
    CallK Tryz.prog 132 [kv, vv].toArray w fun r w' => ∃ a m c a' m' c', r = .agg [.slice a m c, .slice a' m' c'].toArray ∧ RunB w' w'.heap.size w.heap.size [(.slice a m c, k), (.slice a' m' c', v)] ∧ Ext w w' := by
  refine enterT Tryz.func132 rfl Tryz.ntmps132 Tryz.results132 rfl (by decide) ?_
  repeat (first | exact trivial | refine stpg ?_)
  first | refine newS ?_ | refine newZ ?_
  intro w1 hE1 hz1 hB1
  refine (ClnB_ok k kv w1 (hk.ext .go) hkl).mono ?_
  rintro v2 w2 ⟨hO2, hE2⟩
  have hz2 := hE2.size
  obtain ⟨a2, c2, rfl⟩ := own_slice hO2.own
  repeat (first | exact trivial | refine stpg ?_)
  refine (ClnB_ok v vv w2 (hv.ext .go) hvl).mono ?_
  rintro v3 w3 ⟨hO3, hE3⟩
  have hz3 := hE3.size
  obtain ⟨a3, c3, rfl⟩ := own_slice hO3.own
  repeat (first | exact trivial | refine stpg ?_)
  refine bldC [.slice a2 k.length c2, .slice a3 v.length c3] (by kernel_rfl) ?_
  repeat (first | exact trivial | refine stpg ?_)
  refine stW ?_
  intro w4 hP4 hz4 hB4
  repeat (first | exact trivial | refine stpg ?_)
  have hb := (hB1.ext hE2).ext hE3
  exact ⟨_, _, _, _, _, _, rfl, ⟨w2.heap.size, by omega, ⟨((hO2.own.ext hE3).put hb (by decide) hP4).base (by omega), hO2.top⟩, w4.heap.size, by omega, ⟨(hO3.own.put hb (by decide) hP4).base (by omega), fun g h => by have := hO3.top g h; omega⟩, Nat.le_refl _⟩, .go⟩
theorem check_hamt_ok (n : Int) (b : Nat) (top : Value) (key : List UInt8) (kv : Value) (w : World) (hW : WordsAt w 1) (hB : Blk w b 211 [.int .i64 n, top]) (hk : SlB w kv key) (hw : widB n = true) :
    CallK Tryz.prog 130 [.pointer (some ⟨b, 0, none⟩), kv].toArray w fun r w' => ∃ D, D.length = 32 ∧ r = .tuple [.agg (vbs D).toArray, .int .i64 (if 64 < key.length then 2 else 0 : Nat)].toArray ∧ (key.length ≤ 64 → D = keyD n key) ∧ Ext w w' := by
  have hkl : key.length ≤ 9223372036854775807 := by obtain ⟨_, _, _, h1, h2, _⟩ := hk; omega
  obtain ⟨ka, kc, rfl⟩ := slv_of hk
  have hb := hB.lt
  refine enterT Tryz.func130 rfl Tryz.ntmps130 Tryz.results130 rfl (by decide) ?_
  repeat (first | exact trivial | refine stpg ?_)
  first | refine newS ?_ | refine newZ ?_
  intro w1 hE1 hz1 hB1
  rw [vbs_rep] at hB1
  repeat (first | exact trivial | refine stpg ?_)
  refine ⟨fun h1 => ?_, fun h1 => ?_⟩
  · repeat (first | exact trivial | refine stpg ?_)
    refine bldC (List.replicate 32 (.int .u8 0)) (by kernel_rfl) ?_
    rw [vbs_rep]
    repeat (first | exact trivial | refine stpg ?_)
    refine stW ?_
    intro w2 hP2 hz2 hB2
    repeat (first | exact trivial | refine stpg ?_)
    exact ⟨List.replicate 32 0, by simp, by rw [if_pos (by omega)]; rfl, fun h => by omega, .go⟩
  · repeat (first | exact trivial | refine stpg ?_)
    refine (Key_ok n key _ w1 (hW.ext .go) (hk.ext .go) (by omega)).mono ?_
    rintro _ w2 ⟨rfl, hE2⟩
    have hz2 := hE2.size
    have hl := sumR_len n (2 :: key)
    have he : sumE n = 0 := by unfold sumE; rw [if_pos hw]
    rw [he]
    repeat (first | exact trivial | refine stpg ?_)
    refine stW ?_
    intro w3 hP3 hz3 hB3
    repeat (first | exact trivial | refine stpg ?_)
    exact ⟨sumR n (2 :: key), hl, by rw [if_neg (by omega)]; rfl, fun _ => by unfold keyD; rfl, .go⟩

theorem RunB.grown {w w' : World} {hi b2 e2 s2 n2 : Nat} {x : Value} {ys : List Value} (k : Own w b2 e2 s2 x n2 ys) (hne : 5 ≠ e2) (g : w.grownBy w' x.ownBlock) : ∀ {l : List (Value × List UInt8)} {lo : Nat}, RunB w hi lo l → RunB w' hi lo l
  | [], lo, h => h
  | (v, xs) :: r, lo, h => by obtain ⟨mid, h1, h2, h3⟩ := h; exact ⟨mid, h1, ⟨h2.own.grown_ne k hne g, h2.top⟩, RunB.grown k hne g h3⟩
theorem apPair {w : World} {base b : Nat} {x : Value} {us : List PR} {p : PR} {K : Value → World → Prop} (hO : Own w base 47 2 x us.length (us.flatMap PR.cells)) (hb : base ≤ w.heap.size) (hB : Blk w b 47 [p.kv, p.vv]) (h1 : oneCellV p.kv = true) (h2 : oneCellV p.vv = true) (hsz : us.length ≤ 1000000000)
    (hK : ∀ a c w', Own w' base 47 2 (.slice a (us ++ [p]).length c) (us ++ [p]).length ((us ++ [p]).flatMap PR.cells) → w.grownBy w' x.ownBlock → Below base w w' → K (.slice a (us ++ [p]).length c) w') : vcAppend Tryz.prog 24 x (.slice (some ⟨b, 0, none⟩) 1 1) w K := by
  have hl : (us.flatMap PR.cells).length = us.length * 2 := hO.1
  refine apS (sz := 2) (n := us.length) (m := 1) Tryz.underlying24 z47 c47 rfl (by decide) hO hb (SlC.of_blk hB (by decide)) rfl (by intro u hu; rcases List.mem_cons.1 hu with rfl | hu; exact h1; rcases List.mem_cons.1 hu with rfl | hu; exact h2; cases hu) (by omega) (by rw [by47]; omega) (fun v' w' hO' hg => ?_)
  have e : us.flatMap PR.cells ++ [p.kv, p.vv] = (us ++ [p]).flatMap PR.cells := by simp [PR.cells]
  rw [e, show us.length + 1 = (us ++ [p]).length from by simp] at hO'
  obtain ⟨a, c, rfl⟩ := own_slice hO'
  exact hK a c w' hO' hg (below_of_grown hO hb hg)
theorem copies_ok (ps : List PR) (pv : Value) (w : World) (hp : PairsAt w pv ps) (hpl : ps.length ≤ 1000000000) (hel : ∀ p ∈ ps, p.k.length ≤ 4000000000 ∧ p.v.length ≤ 4000000000) :
    CallK Tryz.prog 137 [pv].toArray w fun v w' => ∃ qs : List PR, Own w' w.heap.size 47 2 v qs.length (qs.flatMap PR.cells) ∧ qs.map PR.dat = ps.map PR.dat ∧ RunB w' w'.heap.size w.heap.size (qs.flatMap prB) ∧ Ext w w' := by
  obtain ⟨hp1, hp2⟩ := hp
  obtain ⟨pa, cp, rfl⟩ := slv_of hp1
  refine enterT Tryz.func137 rfl Tryz.ntmps137 Tryz.results137 rfl (by decide) ?_
  repeat (first | exact trivial | refine stpg ?_)
  refine loopX (ι := Nat × List PR × Option Addr × Nat) (fun x => [(3, .slice x.2.2.1 x.2.1.length x.2.2.2), (6, .slice pa ps.length cp), (7, .int .i64 ps.length), (8, .int .i64 x.1)])
    (fun x W => Ext w W ∧ x.1 ≤ ps.length ∧ Own W w.heap.size 47 2 (.slice x.2.2.1 x.2.1.length x.2.2.2) x.2.1.length (x.2.1.flatMap PR.cells) ∧ x.2.1.map PR.dat = (ps.take x.1).map PR.dat ∧ RunB W W.heap.size w.heap.size (x.2.1.flatMap prB)) (fun x => ps.length - x.1) (0, [], none, 0) ⟨.go, Nat.zero_le _, Own.nil _ _ _ _, rfl, Nat.le_refl _⟩ ?_ ?_
  · repeat (first | exact trivial | refine stpg ?_)
    rfl
  · rintro ⟨i, qs, a, c⟩ s1 w1 ⟨hE1, hi, hO1, hd1, hR1⟩
    simp only at hi hO1 hd1 hR1
    have hz1 := hE1.size
    have hql : qs.length = i := by have := congrArg List.length hd1; simp at this; omega
    repeat (first | exact trivial | refine stpg ?_)
    refine ⟨fun hlt => ?_, fun hge => ?_⟩
    · obtain ⟨b, o, rfl, hR⟩ := pr_row hp1 (by omega)
      obtain ⟨p, hx⟩ : ∃ x, ps[i]? = some x := ⟨_, List.getElem?_eq_getElem (by omega)⟩
      obtain ⟨hpk, hpv⟩ := hp2 _ (List.mem_of_getElem? hx)
      obtain ⟨h64, h256⟩ := hel p (List.mem_of_getElem? hx)
      obtain ⟨kv, vv, k, v⟩ := p
      simp only at hpk hpv h64 h256
      obtain ⟨ka, kc, rfl⟩ := slv_of hpk
      obtain ⟨va, vc', rfl⟩ := slv_of hpv
      repeat (first | exact trivial | refine stpg ?_)
      refine ldPair hx ?_
      repeat (first | exact trivial | refine stpg ?_)
      first | refine newS ?_ | refine newZ ?_
      intro w2 hE2 hz2 hB2
      repeat (first | exact trivial | refine stpg ?_)
      refine (twin_hamt_ok k v _ _ w2 (hpk.ext .go) (hpv.ext .go) h64 h256).mono ?_
      rintro _ w3 ⟨a3, m3, c3, a3', m3', c3', rfl, hR3, hE3⟩
      have hz3 := hE3.size
      have hpr : ∃ q : PR, q = ⟨.slice a3 m3 c3, .slice a3' m3' c3', k, v⟩ := ⟨_, rfl⟩
      repeat (first | exact trivial | refine stpg ?_)
      refine ⟨rfl, rfl, ?_⟩
      first | refine newS ?_ | refine newZ ?_
      intro w4 hE4 hz4 hB4
      refine apPair (us := qs) (p := ⟨.slice a3 m3 c3, .slice a3' m3' c3', k, v⟩) (hO1.ext .go) (by omega) hB4 rfl rfl (by omega) (fun a5 c5 w5 hO5 hg5 hE5 => ?_)
      have hz5 := hE5.size
      have htk : ps.take (i + 1) = ps.take i ++ [⟨.slice ka k.length kc, .slice va v.length vc', k, v⟩] := by
        obtain ⟨hil, he⟩ := List.getElem?_eq_some_iff.1 hx
        rw [List.take_succ_eq_append_getElem hil, he]
      repeat (first | exact trivial | refine stpg ?_)
      refine ⟨(i + 1, qs ++ [⟨.slice a3 m3 c3, .slice a3' m3' c3', k, v⟩], a5, c5), ⟨.go, by simp only; omega, hO5, ?_, ?_⟩, ⟨rfl, by rw [w64 (by omega) (by omega)]; rfl⟩, by simp only; omega⟩
      · simp only
        rw [htk, List.map_append, List.map_append, hd1]
        rfl
      · simp only
        rw [List.flatMap_append]
        have hO4 := hO1.ext (hE2.trans' (hE3.trans' hE4))
        refine RunB.append (m := w2.heap.size) ((RunB.grown hO4 (by decide) hg5 (hR1.ext (hE2.trans' (hE3.trans' hE4)))).top (by omega)) ?_
        have := (RunB.grown hO4 (by decide) hg5 (hR3.ext hE4)).top (hi' := w5.heap.size) (by omega)
        simpa [prB] using this
    · obtain rfl : i = ps.length := by omega
      rw [List.take_length] at hd1
      repeat (first | exact trivial | refine stpg ?_)
      exact ⟨qs, hO1, hd1, hR1, hE1⟩
end Go.Proofs.YthlkfjoibjhaiaaGreatDoor

/-! Hmd -/
namespace Go.Proofs.YthlkfjoibjhaiaaGreatDoor
set_option maxRecDepth 100000
set_option maxHeartbeats 2000000
open Go Go.RowKit
set_option linter.unusedVariables false
set_option linter.unusedSimpArgs false
attribute [local irreducible] vcT opsT qT vcOp Q1 vcPure vcLoad vcStore ldC ldN ldD grdT grdQ vc vcOps vcQ hT
attribute [local irreducible] sumR sumP shaP keyD bucketP branchP

/-- A node, or none where there are no items. -/
def AtN (n : Int) (S : Nat → Prop) (W : World) (f d : Nat) (m : List It) (v : Value) : Prop := (m = [] → v = .nilIface) ∧ (m ≠ [] → NodeAt n S W f d m v)
theorem AtN.keep {n : Int} {S : Nat → Prop} {W W' : World} {f d : Nat} {m : List It} {v : Value} (h : AtN n S W f d m v) (k : KeepS S W W') : AtN n S W' f d m v := ⟨h.1, fun hm => (h.2 hm).keep k⟩
theorem AtN.ext {n : Int} {S : Nat → Prop} {W W' : World} {f d : Nat} {m : List It} {v : Value} (h : AtN n S W f d m v) (e : Ext W W') : AtN n S W' f d m v := h.keep (KeepS.of_ext e)
theorem AtN.mono {n : Int} {S S' : Nat → Prop} {W : World} {f d : Nat} {m : List It} {v : Value} (h : AtN n S W f d m v) (hS : ∀ b, S b → S' b) : AtN n S' W f d m v := ⟨h.1, fun hm => (h.2 hm).mono hS⟩
/-- What stands there: none, a bucket, a branch. -/
theorem AtN.cases {n : Int} {S : Nat → Prop} {W : World} {f d : Nat} {m : List It} {v : Value} (h : AtN n S W f d m v) :
    (m = [] ∧ v = .nilIface) ∨ (m ≠ [] ∧ singleB m = true ∧ ∃ b pv ps, v = bkV b ∧ BkIn n S W m b pv ps) ∨
    (singleB m = false ∧ ∃ f', f = f' + 1 ∧ ∃ b kv vs, v = brV b ∧ BrIn n S W d m (nodeD n f d m) b kv vs ∧ ∀ c, hasI m d c = true → ∃ x, vs[rankB (bmI m d) (c : Int)]? = some x ∧ NodeAt n S W f' (d + 1) (childI m d c) x) := by
  by_cases hm : m = []
  · exact Or.inl ⟨hm, h.1 hm⟩
  · have hN := h.2 hm
    cases hs : singleB m
    · cases f with
      | zero => unfold NodeAt at hN; rw [hs] at hN; cases hN.1
      | succ f => rw [NodeAt.br hs] at hN; exact Or.inr (Or.inr ⟨rfl, f, rfl, hN⟩)
    · rw [NodeAt.bk hs] at hN
      exact Or.inr (Or.inl ⟨hm, rfl, hN⟩)
theorem child_ne {m : List It} {d c : Nat} (h : hasI m d c = true) : childI m d c ≠ [] := by
  intro e
  unfold hasI at h
  rw [e] at h
  cases h
theorem pairs_sorted {m : List It} {ps : List PR} (hd : ps.map PR.dat = m.map It.pr) (hs : m.Pairwise fun a b => Lib.compareBytes a.k b.k < 0) : ps.Pairwise fun a b => Lib.compareBytes a.k b.k < 0 := by
  have h1 : (m.map It.pr).Pairwise fun a b => Lib.compareBytes a.1 b.1 < 0 := List.pairwise_map.2 hs
  rw [← hd] at h1
  exact List.pairwise_map.1 h1
theorem FindP.find {ps : List PR} {key : List UInt8} {i : Nat} {ok : Bool} (h : FindP ps key i ok) (hs : ps.Pairwise fun a b => Lib.compareBytes a.k b.k < 0) : (∀ p, ok = true → ps[i]? = some p → (ps.find? fun p => decide (p.k = key)) = some p) ∧ (ok = false → (ps.find? fun p => decide (p.k = key)) = none) := by
  have hlow : ∀ q ∈ ps.take i, ¬ q.k = key := by
    intro q hq hk
    obtain ⟨j, hj⟩ := List.getElem?_of_mem hq
    rw [List.getElem?_take] at hj
    split at hj
    · rename_i hlt
      have := h.low j q hj hlt
      rw [hk, cmpB_self] at this
      omega
    · cases hj
  constructor
  · intro p hok hp
    obtain ⟨q, hq, hk⟩ := h.hit.1 hok
    rw [hp] at hq
    cases hq
    obtain ⟨hil, he⟩ := List.getElem?_eq_some_iff.1 hp
    have h1 : ps = ps.take i ++ (p :: ps.drop (i + 1)) := by rw [← he]; simp
    rw [h1, List.find?_append, List.find?_eq_none.2 (fun q hq => by simpa using hlow q hq)]
    simp [hk]
  · intro hok
    refine List.find?_eq_none.2 fun q hq => ?_
    obtain ⟨j, hj⟩ := List.getElem?_of_mem hq
    intro hk
    have hk' : q.k = key := by simpa using hk
    by_cases hji : j < i
    · have := h.low j q hj hji
      rw [hk', cmpB_self] at this
      omega
    · by_cases hje : j = i
      · subst hje
        rw [h.hit.2 ⟨q, hj, hk'⟩] at hok
        cases hok
      · obtain ⟨hjl, hje'⟩ := List.getElem?_eq_some_iff.1 hj
        have h1 := List.pairwise_iff_getElem.1 hs i j (by omega) hjl (by omega)
        have h2 := h.high i _ (List.getElem?_eq_getElem (by omega)) (Nat.le_refl _)
        rw [hje', hk'] at h1
        omega

theorem OkI.len {n : Int} {m : List It} (h : OkI n m) : ∀ y ∈ m, y.D.length = 32 := fun y hy => by rw [h.dig y hy]; exact keyD_len _ _
theorem OkI.form {n : Int} {m : List It} (h : OkI n m) (hw : widB n = true) : ∀ y ∈ m, formB n y.D = true := fun y hy => by rw [h.dig y hy]; unfold keyD; exact form_sumR n _ hw
theorem OkI.child {n : Int} {m : List It} (h : OkI n m) (d c : Nat) : OkI n (childI m d c) := ⟨childI_sorted h.sorted, fun y hy => h.dig y (mem_child.1 hy).1, fun y hy => h.short y (mem_child.1 hy).1⟩
theorem OkI.pre {n : Int} {m : List It} (h : OkI n m) : Pre 0 m := ⟨h.len, fun _ _ _ _ j hj => by omega⟩
theorem vs_get {S : Nat → Prop} {W : World} {a : Option Addr} {k c : Nat} {vs : List Value} (h : SlS S W (.slice a k c) vs.length vs) (hd : 0 < vs.length) : ∃ b o, a = some ⟨b, o, none⟩ ∧ RowA W b o 1 (fun v : Value => [v]) vs := by
  obtain ⟨a', c', e, h1, h2, h3⟩ := h
  cases e
  rcases h3 with h3 | ⟨b, o, rfl, _, h3⟩
  · rw [h3] at hd; simp at hd
  · refine ⟨b, o, rfl, fun _ _ => rfl, fun j u hj => h3 j u ?_⟩
    have e : vs.flatMap (fun v : Value => [v]) = vs := by
      clear hj h3 h1 hd
      induction vs with
      | nil => rfl
      | cons x l ih => simp [ih]
    rwa [e] at hj
end Go.Proofs.YthlkfjoibjhaiaaGreatDoor

/-! Itp -/
namespace Go.Proofs.YthlkfjoibjhaiaaGreatDoor
set_option maxRecDepth 100000
set_option maxHeartbeats 2000000
open Go Go.RowKit
set_option linter.unusedVariables false
set_option linter.unusedSimpArgs false

theorem cmpIt_irr (a : It) : ¬ cmpIt a a < 0 := by have := (cmpIt_eq a a).2 ⟨rfl, rfl⟩; omega
theorem sorted_ext : ∀ {a b : List It}, SortedI a → SortedI b → (∀ y, y ∈ a ↔ y ∈ b) → a = b
  | [], [], _, _, _ => rfl
  | [], y :: b, _, _, h => by have := (h y).2 (by simp); cases this
  | x :: a, [], _, _, h => by have := (h x).1 (by simp); cases this
  | x :: a, y :: b, ha, hb, h => by
    have ha' := List.pairwise_cons.1 ha
    have hb' := List.pairwise_cons.1 hb
    have e : x = y := by
      rcases List.mem_cons.1 ((h x).1 (by simp)) with e | hx
      · exact e
      · rcases List.mem_cons.1 ((h y).2 (by simp)) with e | hy
        · exact e.symm
        · exact absurd (cmpIt_trans (ha'.1 y hy) (hb'.1 x hx)) (cmpIt_irr x)
    subst e
    congr 1
    refine sorted_ext ha'.2 hb'.2 fun z => ?_
    have hz := h z
    simp only [List.mem_cons] at hz
    constructor
    · intro hza
      rcases hz.1 (Or.inr hza) with e | h'
      · subst e; exact absurd (ha'.1 z hza) (cmpIt_irr z)
      · exact h'
    · intro hzb
      rcases hz.2 (Or.inr hzb) with e | h'
      · subst e; exact absurd (hb'.1 z hzb) (cmpIt_irr z)
      · exact h'
theorem find_ex (key : List UInt8) : ∀ {ps : List PR}, (ps.Pairwise fun a b => Lib.compareBytes a.k b.k < 0) → ∃ i ok, FindP ps key i ok
  | [], _ => ⟨0, false, Nat.le_refl _, fun j p h => by simp at h, fun j p h => by simp at h, by simp⟩
  | p :: r, h => by
    have h' := List.pairwise_cons.1 h
    by_cases hp : Lib.compareBytes p.k key < 0
    · obtain ⟨i, ok, hF⟩ := find_ex key h'.2
      refine ⟨i + 1, ok, by simp; exact hF.le, fun j q hq hj => ?_, fun j q hq hj => ?_, by simpa using hF.hit⟩
      · cases j with
        | zero => obtain rfl : p = q := by simpa using hq
                  exact hp
        | succ j => exact hF.low j q (by simpa using hq) (by omega)
      · cases j with
        | zero => omega
        | succ j => exact hF.high j q (by simpa using hq) (by omega)
    · refine ⟨0, decide (p.k = key), Nat.zero_le _, fun j q hq hj => by omega, fun j q hq _ => ?_, by simp⟩
      cases j with
      | zero => obtain rfl : p = q := by simpa using hq
                omega
      | succ j =>
        have hq' : r[j]? = some q := by simpa using hq
        have h1 := h'.1 q (List.mem_of_getElem? hq')
        refine Int.not_lt.1 fun h2 => hp ?_
        exact cmpB_trans _ _ _ h1 h2
theorem FindP.uniq {ps : List PR} {key : List UInt8} {i j : Nat} {a b : Bool} (h : FindP ps key i a) (g : FindP ps key j b) : i = j ∧ a = b := by
  have e : i = j := by
    rcases Nat.lt_trichotomy i j with hlt | he | hgt
    · have hp := List.getElem?_eq_getElem (l := ps) (i := i) (by have := g.le; omega)
      have h1 := g.low i _ hp hlt
      have h2 := h.high i _ hp (Nat.le_refl _)
      omega
    · exact he
    · have hp := List.getElem?_eq_getElem (l := ps) (i := j) (by have := h.le; omega)
      have h1 := h.low j _ hp hgt
      have h2 := g.high j _ hp (Nat.le_refl _)
      omega
  subst e
  refine ⟨rfl, ?_⟩
  have h1 := h.hit.trans g.hit.symm
  cases a <;> cases b
  · rfl
  · exact absurd (h1.2 rfl) (by decide)
  · exact absurd (h1.1 rfl) (by decide)
  · rfl
theorem headD_mem {m : List It} (h : singleB m = true) {y : It} (hy : y ∈ m) : headD m = y.D := by
  cases m with
  | nil => cases hy
  | cons x m => exact singleB_iff.1 h x (by simp) y hy
theorem flat_set {m : List It} {d : Nat} (hs : SortedI m) (hp : Pre d m) (hd : d < 64) : (setB (bmI m d)).flatMap (childI m d) = m := by
  rw [setB_bm]
  refine Eq.trans ?_ (child_flat hs hp hd)
  have h : ∀ l : List Nat, (l.filter (hasI m d)).flatMap (childI m d) = l.flatMap (childI m d) := by
    intro l
    induction l with
    | nil => rfl
    | cons c l ih =>
      cases hc : hasI m d c
      · have e : childI m d c = [] := by unfold hasI at hc; simpa using hc
        rw [List.filter_cons_of_neg (by simp [hc]), List.flatMap_cons, e, List.nil_append, ih]
      · rw [List.filter_cons_of_pos hc, List.flatMap_cons, List.flatMap_cons, ih]
  exact h _
end Go.Proofs.YthlkfjoibjhaiaaGreatDoor

/-! Iter -/
namespace Go.Proofs.YthlkfjoibjhaiaaGreatDoor
set_option maxRecDepth 100000
set_option maxHeartbeats 2000000
open Go Go.RowKit
set_option linter.unusedVariables false
set_option linter.unusedSimpArgs false

theorem DigsAt.ext {w w' : World} {v : Value} {ds : List (List UInt8)} (h : DigsAt w v ds) (e : Ext w w') : DigsAt w' v ds := ⟨h.1, h.2.ext e⟩
/-- A step with what its slice holds. -/
structure SR where
  kv : Value
  bm : Nat
  ks : List (List UInt8)
def SR.cells (s : SR) : List Value := [.int .u16 s.bm, s.kv]
/-- Steps that may be read. -/
def StepsAt (w : World) (v : Value) (ss : List SR) : Prop := SlC w v ss.length (ss.flatMap SR.cells) ∧ ∀ s ∈ ss, s.bm < 65536 ∧ DigsAt w s.kv s.ks
theorem StepsAt.ext {w w' : World} {v : Value} {ss : List SR} (h : StepsAt w v ss) (e : Ext w w') : StepsAt w' v ss := ⟨h.1.ext e, fun s hs => ⟨(h.2 s hs).1, (h.2 s hs).2.ext e⟩⟩

/-- What a range backward hands over: the last first. -/
def backL (ss : List SR) : List (Nat × SR) := (ss.zipIdx.map fun p => (p.2, p.1)).reverse
theorem backL_len (ss : List SR) : (backL ss).length = ss.length := by simp [backL]
theorem backL_get (ss : List SR) (k : Nat) (s : SR) (hk : k < ss.length) (hs : ss[ss.length - 1 - k]? = some s) : (backL ss)[k]? = some (ss.length - 1 - k, s) := by
  unfold backL
  rw [List.getElem?_reverse (by simpa using hk)]
  simp [hs]

theorem backL_mem {ss : List SR} {x : Nat × SR} (h : x ∈ backL ss) : ss[x.1]? = some x.2 := by
  unfold backL at h
  rw [List.mem_reverse, List.mem_map] at h
  obtain ⟨p, hp, rfl⟩ := h
  have := List.mem_zipIdx_iff_getElem?.1 hp
  simpa using this

theorem o_yield (P : Program) (s : Fm) (w : World) (dst : Option Tmp) (ty : TypeId) (pos : String) (af : Array Edge) (g : Option (Nat × Bool)) (K : Value → World → Prop) (t : Nat) (args : Array Operand) (ts : Array TypeId) :
    vcOp P ⟨dst, .call ⟨.value (.tmp t), args, ts⟩, ty, pos, af, g⟩ s w K = YieldVC P (s t) (args.map (ev s)) w K := propext Iff.rfl
theorem yield_n {P : Program} {k m l : Nat} {args : Array Value} {W : World} {R : Ending → World → Prop} (h : YieldAt Fence.wide k P l args W R) : YieldAt Fence.wide m P l args W R := by
  obtain ⟨fn, tmps, assign, body, hy, hR⟩ := h
  exact ⟨fn, tmps, assign, body, hy, roundFW none k m hR⟩

theorem Backward_ok (v : Value) (hv : v.cells = #[v]) (w : World) :
    CallK Tryz.prog 231 [v].toArray w fun r w' => r = .func (.func 322) #[] #[.pointer (some ⟨w.heap.size, 0, none⟩)] ∧ NewB w w' 23 [v] := by
  refine enterT Tryz.func231 rfl Tryz.ntmps231 Tryz.results231 rfl (by decide) ?_
  simp only [↓VD, VP, VT, isAggD, reduceCtorEq, Int.reduceEq, Int.reduceNe, Int.reduceLT, Int.reduceLE, implies_true, Nat.reduceEqDiff, reduceIte, ite_true, ite_false, eq_self, Nat.reduceLT, Nat.reduceLeDiff, Nat.reduceAdd, Nat.reduceMul, Nat.reduceSub, intOf]
  intro w1 hN
  rw [hv] at hN
  exact hN

theorem iter_ok (l Bs : Nat) (v : Value) (ss : List SR) (hkv : ∀ s ∈ ss, s.kv.cells = #[s.kv]) (J Jx : List (Nat × SR) → World → Prop) (M : World → Prop)
    (hM : ∀ W, M W → W.cell? ⟨Bs, 0, none⟩ = some v ∧ SlC W v ss.length (ss.flatMap SR.cells))
    (hY : ∀ pre x W1, x ∈ backL ss → J pre W1 → M W1 → pre.length < ss.length → YieldAt Fence.wide 0 Tryz.prog l #[.int .i64 (x.1 : Nat), .agg x.2.cells.toArray] W1 fun e W' =>
      (e = .returned (.bool true) ∧ J (pre ++ [x]) W' ∧ M W') ∨ (e = .returned (.bool false) ∧ Jx (pre ++ [x]) W'))
    (W : World) (hM0 : M W) (h0 : J [] W) :
    CallK Tryz.prog 322 [.func (.yield l) #[] #[], .pointer (some ⟨Bs, 0, none⟩)].toArray W fun _ W' => J (backL ss) W' ∨ ∃ pre, Jx pre W' := by
  obtain ⟨hc0, hs0⟩ := hM W hM0
  have hs0' := hs0
  obtain ⟨a, c, rfl, hnc, hcm, _⟩ := hs0'
  refine enterT Tryz.func322 rfl Tryz.ntmps322 Tryz.results322 rfl (by decide) ?_
  simp only [↓VD, VP, VT, isAggD, reduceCtorEq, Int.reduceEq, Int.reduceNe, Int.reduceLT, Int.reduceLE, implies_true, Nat.reduceEqDiff, reduceIte, ite_true, ite_false, eq_self, Nat.reduceLT, Nat.reduceLeDiff, Nat.reduceAdd, Nat.reduceMul, Nat.reduceSub, intOf]
  refine ld1 Tryz.underlying23 rfl hc0 ?_
  simp only [↓VD, VP, VT, isAggD, reduceCtorEq, Int.reduceEq, Int.reduceNe, Int.reduceLT, Int.reduceLE, implies_true, Nat.reduceEqDiff, reduceIte, ite_true, ite_false, eq_self, Nat.reduceLT, Nat.reduceLeDiff, Nat.reduceAdd, Nat.reduceMul, Nat.reduceSub, intOf]
  have hl1 : IntKind.i64.wrap ((ss.length : Int) - 1) = (ss.length : Int) - 1 := w64 (by omega) (by omega)
  refine loopT (fun s' w' => s' 0 = .func (.yield l) #[] #[] ∧ s' 1 = .pointer (some ⟨Bs, 0, none⟩) ∧ M w' ∧ ∃ k : Nat, k ≤ ss.length ∧ s' 3 = .int .i64 ((ss.length : Int) - 1 - k) ∧ J ((backL ss).take k) w') (fun s' _ => (intOf (s' 3) + 1).toNat) ?_ ?_
  · simp only [↓VD, VP, VT, isAggD, reduceCtorEq, Int.reduceEq, Int.reduceNe, Int.reduceLT, Int.reduceLE, implies_true, Nat.reduceEqDiff, reduceIte, ite_true, ite_false, eq_self, Nat.reduceLT, Nat.reduceLeDiff, Nat.reduceAdd, Nat.reduceMul, Nat.reduceSub, intOf, hl1]
    exact ⟨hM0, 0, by omega, by omega, by simpa using h0⟩
  · rintro s1 w1 ⟨g0, g1, hM1, k, hk, g3, hJ⟩
    obtain ⟨hc1, hs1⟩ := hM w1 hM1
    simp only [↓VD, VP, VT, isAggD, reduceCtorEq, Int.reduceEq, Int.reduceNe, Int.reduceLT, Int.reduceLE, implies_true, Nat.reduceEqDiff, reduceIte, ite_true, ite_false, eq_self, Nat.reduceLT, Nat.reduceLeDiff, Nat.reduceAdd, Nat.reduceMul, Nat.reduceSub, intOf, g0, g1, g3]
    refine ⟨fun hge => ?_, fun hlt => ?_⟩
    · have hkl : k < ss.length := by omega
      have e1 : (ss.length : Int) - 1 - k = ((ss.length - 1 - k : Nat) : Int) := by omega
      refine ld1 Tryz.underlying23 rfl hc1 ?_
      obtain ⟨_, _, he, _, _, hcs⟩ := hs1
      cases he
      obtain ⟨x, hx⟩ : ∃ x, ss[ss.length - 1 - k]? = some x := ⟨_, List.getElem?_eq_getElem (by omega)⟩
      rcases hcs with hcs | ⟨b, o, rfl, hcs⟩
      · exfalso
        have := congrArg List.length hcs
        cases ss with
        | nil => simp at hkl
        | cons p ps => simp [SR.cells] at this
      simp only [↓VD, VP, VT, isAggD, reduceCtorEq, Int.reduceEq, Int.reduceNe, Int.reduceLT, Int.reduceLE, implies_true, Nat.reduceEqDiff, reduceIte, ite_true, ite_false, eq_self, Nat.reduceLT, Nat.reduceLeDiff, Nat.reduceAdd, Nat.reduceMul, Nat.reduceSub, intOf, g0, g1, g3, e1]
      refine ⟨by omega, by omega, ldE (f := SR.cells) c51 Tryz.underlying51 rfl (fun _ _ => rfl) hcs hx ?_⟩
      simp only [↓VD, VP, VT, isAggD, reduceCtorEq, Int.reduceEq, Int.reduceNe, Int.reduceLT, Int.reduceLE, implies_true, Nat.reduceEqDiff, reduceIte, ite_true, ite_false, eq_self, Nat.reduceLT, Nat.reduceLeDiff, Nat.reduceAdd, Nat.reduceMul, Nat.reduceSub, intOf, g0, g1, g3, e1, ↓o_yield]
      refine ⟨Or.inl ⟨l, rfl, ?_⟩⟩
      have hget := backL_get ss k x hkl hx
      have htk : (backL ss).take (k + 1) = (backL ss).take k ++ [(ss.length - 1 - k, x)] := by
        obtain ⟨hk', he⟩ := List.getElem?_eq_some_iff.1 hget
        rw [List.take_succ_eq_append_getElem hk', he]
      obtain ⟨fn, tmps, assign, body, hy, hR⟩ := hY ((backL ss).take k) (ss.length - 1 - k, x) w1 (List.mem_of_getElem? hget) hJ hM1 (by rw [List.length_take, backL_len]; omega)
      refine ⟨fn, tmps, assign, body, hy, hR.mono ?_⟩
      rintro e W2 (⟨rfl, hJ2, hM2⟩ | ⟨rfl, hJx⟩)
      · refine ⟨_, rfl, ?_⟩
        rw [← htk] at hJ2
        simp only [↓VD, VP, VT, isAggD, reduceCtorEq, Int.reduceEq, Int.reduceNe, Int.reduceLT, Int.reduceLE, implies_true, Nat.reduceEqDiff, reduceIte, ite_true, ite_false, eq_self, Nat.reduceLT, Nat.reduceLeDiff, Nat.reduceAdd, Nat.reduceMul, Nat.reduceSub, intOf, g0, g1, g3, e1]
        refine ⟨⟨hM2, k + 1, by omega, ?_, hJ2⟩, ?_⟩
        · rw [w64 (by omega) (by omega)]; omega
        · rw [w64 (by omega) (by omega)]; omega
      · refine ⟨_, rfl, ?_⟩
        simp only [↓VD, VP, VT, isAggD, reduceCtorEq, Int.reduceEq, Int.reduceNe, Int.reduceLT, Int.reduceLE, implies_true, Nat.reduceEqDiff, reduceIte, ite_true, ite_false, eq_self, Nat.reduceLT, Nat.reduceLeDiff, Nat.reduceAdd, Nat.reduceMul, Nat.reduceSub, intOf, g0, g1, g3, e1]
        exact Or.inr ⟨_, hJx⟩
    · have hkl : k = ss.length := by omega
      subst hkl
      rw [List.take_of_length_le (by rw [backL_len]; omega)] at hJ
      exact Or.inl hJ

end Go.Proofs.YthlkfjoibjhaiaaGreatDoor

/-! Hme -/
namespace Go.Proofs.YthlkfjoibjhaiaaGreatDoor
set_option maxRecDepth 100000
set_option maxHeartbeats 2000000
open Go Go.RowKit
set_option linter.unusedVariables false
set_option linter.unusedSimpArgs false
attribute [local irreducible] vcT opsT qT vcOp Q1 vcPure vcLoad vcStore ldC ldN ldD grdT grdQ vc vcOps vcQ hT
attribute [local irreducible] sumR sumP shaP keyD bucketP branchP

def kidsI (n : Int) (f d : Nat) (m : List It) : List (List UInt8) := (setB (bmI m d)).map fun c => nodeD n f (d + 1) (childI m d c)
/-- A key's way down. -/
def walkI (n : Int) (kd : List UInt8) : Nat → Nat → List It → List (Nat × List (List UInt8)) × List It
  | 0, _, m => ([], m)
  | f + 1, d, m => if singleB m = true then ([], m) else
      if hasI m d (digP kd d) = true then ((bmI m d, kidsI n f d m) :: (walkI n kd f (d + 1) (childI m d (digP kd d))).1, (walkI n kd f (d + 1) (childI m d (digP kd d))).2) else ([(bmI m d, kidsI n f d m)], [])
theorem kidsI_len (n : Int) (f d : Nat) (m : List It) : (kidsI n f d m).length = cntB (bmI m d) := by simp [kidsI, cntB]
theorem kidsI_32 (n : Int) (f d : Nat) (m : List It) : ∀ x ∈ kidsI n f d m, x.length = 32 := by
  intro x hx
  obtain ⟨c, _, rfl⟩ := List.mem_map.1 hx
  exact nodeD_len _ _ _ _
theorem nodeD_br (n : Int) (f d : Nat) {m : List It} (hs : singleB m = false) : nodeD n (f + 1) d m = brD n (bmI m d) (kidsI n f d m) := by
  rw [nodeD, if_neg (by simp [hs])]
  rfl
theorem walkI_single (n : Int) (kd : List UInt8) (f d : Nat) {m : List It} (hs : singleB m = true) : walkI n kd f d m = ([], m) := by
  cases f with
  | zero => rfl
  | succ f => rw [walkI, if_pos hs]
def SR.dt (s : SR) : Nat × List (List UInt8) := (s.bm, s.ks)
/-- Steps whose lists lie one behind the other from lo on and below hi, each in a block of its own. -/
def RunK (w : World) (hi : Nat) : Nat → List SR → Prop
  | lo, [] => lo ≤ hi
  | lo, t :: r => ∃ mid, lo ≤ mid ∧ (t.bm < 65536 ∧ (∀ d ∈ t.ks, d.length = 32) ∧ Own w lo 28 32 t.kv t.ks.length (t.ks.flatMap vbs) ∧ ∀ g, t.kv.ownBlock = some g → g < mid) ∧ RunK w hi mid r
theorem RunK.le {w : World} {hi : Nat} : ∀ {l : List SR} {lo : Nat}, RunK w hi lo l → lo ≤ hi
  | [], lo, h => h
  | t :: r, lo, h => by obtain ⟨mid, h1, _, h2⟩ := h; exact Nat.le_trans h1 h2.le
theorem RunK.ext {w w' : World} {hi : Nat} (e : Ext w w') : ∀ {l : List SR} {lo : Nat}, RunK w hi lo l → RunK w' hi lo l
  | [], lo, h => h
  | t :: r, lo, h => by obtain ⟨mid, h1, h2, h3⟩ := h; exact ⟨mid, h1, ⟨h2.1, h2.2.1, h2.2.2.1.ext e, h2.2.2.2⟩, RunK.ext e h3⟩
theorem RunK.top {w : World} {hi hi' : Nat} (hh : hi ≤ hi') : ∀ {l : List SR} {lo : Nat}, RunK w hi lo l → RunK w hi' lo l
  | [], lo, h => Nat.le_trans h hh
  | t :: r, lo, h => by obtain ⟨mid, h1, h2, h3⟩ := h; exact ⟨mid, h1, h2, RunK.top hh h3⟩
theorem RunK.append {w : World} {m hi : Nat} : ∀ {l l' : List SR} {lo : Nat}, RunK w m lo l → RunK w hi m l' → RunK w hi lo (l ++ l')
  | [], l', lo, h, h' => by
    cases l' with
    | nil => exact Nat.le_trans h h'
    | cons x l' =>
      obtain ⟨mid, h1, h2, h3⟩ := h'
      exact ⟨mid, Nat.le_trans h h1, ⟨h2.1, h2.2.1, h2.2.2.1.base h, h2.2.2.2⟩, h3⟩
  | t :: r, l', lo, h, h' => by
    obtain ⟨mid, h1, h2, h3⟩ := h
    exact ⟨mid, h1, h2, RunK.append h3 h'⟩
theorem RunK.grown {w w' : World} {hi b2 e2 s2 n2 : Nat} {x : Value} {ys : List Value} (k : Own w b2 e2 s2 x n2 ys) (hne : 28 ≠ e2) (g : w.grownBy w' x.ownBlock) : ∀ {l : List SR} {lo : Nat}, RunK w hi lo l → RunK w' hi lo l
  | [], lo, h => h
  | t :: r, lo, h => by obtain ⟨mid, h1, h2, h3⟩ := h; exact ⟨mid, h1, ⟨h2.1, h2.2.1, h2.2.2.1.grown_ne k hne g, h2.2.2.2⟩, RunK.grown k hne g h3⟩
theorem RunB.put {w w' : World} {hi b T U : Nat} {l vs : List Value} (hB : Blk w b T l) (hne : T ≠ 5) (hP : Put w w' b U vs) : ∀ {l : List (Value × List UInt8)} {lo : Nat}, RunB w hi lo l → RunB w' hi lo l
  | [], lo, h => h
  | (v, xs) :: r, lo, h => by obtain ⟨mid, h1, h2, h3⟩ := h; exact ⟨mid, h1, ⟨h2.own.put hB hne hP, h2.top⟩, RunB.put hB hne hP h3⟩
theorem RunK.mem {w : World} {hi : Nat} : ∀ {l : List SR} {lo : Nat}, RunK w hi lo l → ∀ t ∈ l, t.bm < 65536 ∧ (∀ d ∈ t.ks, d.length = 32) ∧ Own w lo 28 32 t.kv t.ks.length (t.ks.flatMap vbs)
  | [], lo, _, p, hp => by cases hp
  | t :: r, lo, h, p, hp => by
    obtain ⟨mid, h1, h2, h3⟩ := h
    rcases List.mem_cons.1 hp with rfl | hp
    · exact ⟨h2.1, h2.2.1, h2.2.2.1⟩
    · obtain ⟨k1, k2, k3⟩ := RunK.mem h3 p hp
      exact ⟨k1, k2, k3.base h1⟩
theorem RunK.stepsAt {w : World} {lo hi B : Nat} {v : Value} {tt : List SR} (h : RunK w hi lo tt) (hv : Own w B 51 2 v tt.length (tt.flatMap SR.cells)) : StepsAt w v tt :=
  ⟨SlC.of_own hv, fun t ht => ⟨(h.mem t ht).1, (h.mem t ht).2.1, SlC.of_own (h.mem t ht).2.2⟩⟩
theorem Own.not_blk {w : World} {b1 e1 s1 n1 b T : Nat} {v : Value} {xs l : List Value} (h : Own w b1 e1 s1 v n1 xs) (k : Blk w b T l) (hne : T ≠ e1) : v.ownBlock ≠ some b := by
  intro he
  rcases h.2 with ⟨rfl, _⟩ | ⟨g, cap, cur, rfl, _, hg, _⟩
  · simp [Value.ownBlock] at he
  · simp only [Value.ownBlock, Option.some.injEq] at he
    subst he
    rw [k.out] at hg
    cases hg
    exact hne rfl
theorem apStep {w : World} {base b : Nat} {x : Value} {us : List SR} {p : SR} {K : Value → World → Prop} (hO : Own w base 51 2 x us.length (us.flatMap SR.cells)) (hb : base ≤ w.heap.size) (hB : Blk w b 51 p.cells) (h2 : oneCellV p.kv = true) (hsz : us.length ≤ 1000000000)
    (hK : ∀ a c w', Own w' base 51 2 (.slice a (us ++ [p]).length c) (us ++ [p]).length ((us ++ [p]).flatMap SR.cells) → w.grownBy w' x.ownBlock → Below base w w' → K (.slice a (us ++ [p]).length c) w') : vcAppend Tryz.prog 23 x (.slice (some ⟨b, 0, none⟩) 1 1) w K := by
  have hl : (us.flatMap SR.cells).length = us.length * 2 := hO.1
  refine apS (sz := 2) (n := us.length) (m := 1) Tryz.underlying23 z51 c51 rfl (by decide) hO hb (SlC.of_blk hB (by decide)) rfl (by intro u hu; rcases List.mem_cons.1 hu with rfl | hu; rfl; rcases List.mem_cons.1 hu with rfl | hu; exact h2; cases hu) (by omega) (by rw [by51]; omega) (fun v' w' hO' hg => ?_)
  have e : us.flatMap SR.cells ++ p.cells = (us ++ [p]).flatMap SR.cells := by simp
  rw [e, show us.length + 1 = (us ++ [p]).length from by simp] at hO'
  obtain ⟨a, c, rfl⟩ := own_slice hO'
  exact hK a c w' hO' hg (below_of_grown hO hb hg)
theorem toldS {L : Prop} {S : World → Prop} {w : World} {K : (World → Prop) → Prop} (h1 : S w) (h : K S) : Told L S w K := ⟨S, h1, Or.inl (fun _ h => h), h⟩
theorem apDg {w : World} {base b n : Nat} {x : Value} {us : List (List UInt8)} {d : List UInt8} {K : Value → World → Prop} (hn : us.length = n) (hO : Own w base 28 32 x n (us.flatMap vbs)) (hb : base ≤ w.heap.size) (hB : Blk w b 28 (vbs d)) (hd : d.length = 32) (hsz : n ≤ 1000000000)
    (hK : ∀ a c w', Own w' base 28 32 (.slice a (n + 1) c) (n + 1) ((us ++ [d]).flatMap vbs) → w.grownBy w' x.ownBlock → Below base w w' → K (.slice a (n + 1) c) w') : vcAppend Tryz.prog 49 x (.slice (some ⟨b, 0, none⟩) 1 1) w K := by
  refine apS (sz := 32) (n := n) (m := 1) Tryz.underlying49 z28 c28 rfl (by decide) hO hb (SlC.of_blk hB (by decide)) (by rw [vbs_len, hd]) (vbs_one _) (by omega) (by rw [by28]; omega) (fun v' w' hO' hg => ?_)
  have e : us.flatMap vbs ++ vbs d = (us ++ [d]).flatMap vbs := by simp
  rw [e] at hO'
  obtain ⟨a, c, rfl⟩ := own_slice hO'
  exact hK a c w' hO' hg (below_of_grown hO hb hg)

theorem Walk_hamt_ok (n : Int) (hw : widB n = true) (S : Nat → Prop) (mv kv : Value) (m : List It) (key : List UInt8) (w : World) (hW : WordsAt w 1) (h : MapAt n S w mv m) (hO : OkI n m) (hk : SlB w kv key) (hml : m.length ≤ 1000000000) :
    CallK Tryz.prog 43 [mv, kv].toArray w fun r w' => ∃ (sv pv : Value) (tt : List SR) (qs : List PR), r = .tuple [sv, pv, .int .i64 (if 64 < key.length then 2 else 0 : Nat)].toArray ∧
      Own w' w.heap.size 51 2 sv tt.length (tt.flatMap SR.cells) ∧ RunK w' w'.heap.size w.heap.size tt ∧ Own w' w.heap.size 47 2 pv qs.length (qs.flatMap PR.cells) ∧ RunB w' w'.heap.size w.heap.size (qs.flatMap prB) ∧
      tt.map SR.dt = (if 64 < key.length then [] else (walkI n (keyD n key) 64 0 m).1) ∧ qs.map PR.dat = (if 64 < key.length then [] else (walkI n (keyD n key) 64 0 m).2.map It.pr) ∧ Ext w w' := by
  obtain ⟨b, top, rfl, hS, hB, hT1, hT2⟩ := h
  have hwn := (widB_iff n).1 hw
  obtain ⟨nn, rfl⟩ : ∃ nn : Nat, n = nn := ⟨n.toNat, by omega⟩
  refine enterT Tryz.func43 rfl Tryz.ntmps43 Tryz.results43 rfl (by decide) ?_
  repeat (first | exact trivial | refine stpg ?_)
  refine (check_hamt_ok nn b top key kv w hW hB hk hw).mono ?_
  rintro _ w1 ⟨D, hDl, rfl, hD, hE1⟩
  have hz1 := hE1.size
  by_cases h64 : 64 < key.length
  · rw [if_pos h64]
    repeat (first | exact trivial | refine stpg ?_)
    first | refine newS ?_ | refine newZ ?_
    intro w2 hE2 hz2 hB2
    repeat (first | exact trivial | refine stpg ?_)
    exact ⟨.slice none 0 0, .slice none 0 0, [], [], rfl, Own.nil _ _ _ _, Nat.le_trans hz1 (by omega), Own.nil _ _ _ _, Nat.le_trans hz1 (by omega), by rw [if_pos h64]; rfl, by rw [if_pos h64]; rfl, .go⟩
  obtain rfl := hD (by omega)
  rw [if_neg h64]
  repeat (first | exact trivial | refine stpg ?_)
  first | refine newS ?_ | refine newZ ?_
  intro w2 hE2 hz2 hB2
  have hbl := hB.lt
  repeat (first | exact trivial | refine stpg ?_)
  refine loopX (ι := Nat × List It × Value × List SR × Option Addr × Nat) (fun x => [(0, .pointer (some ⟨b, 0, none⟩)), (7, .pointer (some ⟨w1.heap.size, 0, none⟩)), (9, .slice x.2.2.2.2.1 x.2.2.2.1.length x.2.2.2.2.2), (10, x.2.2.1)])
    (fun x W => Ext w2 W ∧ x.1 ≤ 64 ∧ OkI nn x.2.1 ∧ Pre x.1 x.2.1 ∧ x.2.1.length ≤ m.length ∧ AtN nn S w (64 - x.1) x.1 x.2.1 x.2.2.1 ∧ x.2.2.2.1.length = x.1 ∧ (x.2.1 = [] → x.2.2.2.1 = []) ∧
      Own W w2.heap.size 51 2 (.slice x.2.2.2.2.1 x.2.2.2.1.length x.2.2.2.2.2) x.2.2.2.1.length (x.2.2.2.1.flatMap SR.cells) ∧ RunK W W.heap.size w.heap.size x.2.2.2.1 ∧
      x.2.2.2.1.map SR.dt ++ (walkI nn (keyD nn key) (64 - x.1) x.1 x.2.1).1 = (walkI nn (keyD nn key) 64 0 m).1 ∧ (walkI nn (keyD nn key) (64 - x.1) x.1 x.2.1).2 = (walkI nn (keyD nn key) 64 0 m).2) (fun x => 64 - x.1) (0, m, top, [], none, 0) ⟨.go, Nat.zero_le _, hO, hO.pre, Nat.le_refl _, ⟨hT1, hT2⟩, rfl, fun _ => rfl, Own.nil _ _ _ _, Nat.le_trans hz1 (by omega), rfl, rfl⟩ ?_ ?_
  · repeat (first | exact trivial | refine stpg ?_)
    rfl
  · rintro ⟨d, l, at_, tt, a, c⟩ s3 w3 ⟨hE3, hd, hOl, hPl, hll, hA, htl, htn, hOs, hRs, hw1, hw2⟩
    simp only at hd hOl hPl hll hA htl htn hOs hRs hw1 hw2
    have hz3 := hE3.size
    rcases hA.cases with ⟨rfl, rfl⟩ | ⟨hne, hs, b4, pv, ps, rfl, hb⟩ | ⟨hs, f', hf', b4, kv4, vs, rfl, hb, hkids⟩
    · obtain rfl := htn rfl
      have e0 : walkI nn (keyD nn key) (64 - d) d [] = ([], []) := walkI_single _ _ _ _ rfl
      rw [e0] at hw1 hw2
      repeat (first | exact trivial | refine stpg ?_)
      exact ⟨.slice none 0 0, .slice none 0 0, [], [], rfl, Own.nil _ _ _ _, Nat.le_trans hz1 (by omega), Own.nil _ _ _ _, Nat.le_trans hz1 (by omega), by rw [if_neg h64, ← hw1]; rfl, by rw [if_neg h64, ← hw2]; rfl, .go⟩
    · have hB4 := hb.blk
      have hhl : (vbs (headD l)).length = 32 := by rw [vbs_len]; exact headD_len (n := nn) hne hOl.len
      have hpl : ps.length ≤ 1000000000 := by have := congrArg List.length hb.dat; simp at this; omega
      have hpa := hb.prs.at
      obtain ⟨pa, cp, rfl⟩ := slv_of hpa.1
      have hel : ∀ p ∈ ps, p.k.length ≤ 4000000000 ∧ p.v.length ≤ 4000000000 := fun p hp => by
        obtain ⟨y, hy, he⟩ := List.mem_map.1 (hb.dat ▸ List.mem_map_of_mem (f := PR.dat) hp)
        have := hOl.short y hy
        simp only [It.pr, PR.dat, Prod.mk.injEq] at he
        rw [he.1, he.2] at this
        omega
      rw [walkI_single _ _ _ _ hs] at hw1 hw2
      repeat (first | exact trivial | refine stpg ?_)
      refine ldCg (hv := by rw [List.getElem?_append_right (by omega), hhl]; rfl) ?_
      repeat (first | exact trivial | refine stpg ?_)
      refine (copies_ok ps _ w3 (hpa.ext .go) hpl hel).mono ?_
      rintro v5 w5 ⟨qs, hO5, hd5, hR5, hE5⟩
      have hz5 := hE5.size
      repeat (first | exact trivial | refine stpg ?_)
      refine ⟨.slice a tt.length c, v5, tt, qs, rfl, (hOs.ext hE5).base (by omega), (hRs.ext hE5).top (by omega), hO5.base (by omega), ?_, ?_, ?_, .go⟩
      · refine RunB.append (l := []) (m := w3.heap.size) (by show w.heap.size ≤ w3.heap.size; omega) hR5
      · rw [if_neg h64, ← hw1, List.append_nil]
      · rw [if_neg h64, hd5, hb.dat, ← hw2]
    · have hB4 := hb.blk
      have hb4l := hB4.lt
      have hbm := bmI_lt l d
      have hdn := br_depth hs hPl (hOl.form hw)
      have hlk := keyD_len nn key
      have hfk : formB nn (keyD nn key) = true := by unfold keyD; exact form_sumR nn _ hw
      have hat := atP_dig (by omega) (by omega) hlk hfk hdn
      have hd16 := digP_lt (keyD nn key) d
      have hkv := hb.kids
      have hvl := hb.len
      have hc16 := cnt_le (bmI l d)
      obtain ⟨ka, kc, rfl⟩ := slv_of hkv.sl
      rw [hf'] at hw1 hw2
      rw [walkI, if_neg (by simp [hs])] at hw1 hw2
      have hkl := kidsI_len nn f' d l
      repeat (first | exact trivial | refine stpg ?_)
      refine (digit_hamt_ok nn b top (keyD nn key) hlk tt.length w3 .go).mono ?_
      rintro _ w4 ⟨rfl, hE4⟩
      have hz4 := hE4.size
      rw [htl, hat]
      repeat (first | exact trivial | refine stpg ?_)
      refine bldC [.int .u16 (bmI l d : Nat), .slice none 0 0] (by kernel_rfl) ?_
      repeat (first | exact trivial | refine stpg ?_)
      first | refine newS ?_ | refine newZ ?_
      intro w5 hE5 hz5 hB5
      repeat (first | exact trivial | refine stpg ?_)
      refine loopX (ι := Nat × Option Addr × Nat) (fun x => [(0, .pointer (some ⟨b, 0, none⟩)), (7, .pointer (some ⟨w1.heap.size, 0, none⟩)), (9, .slice a tt.length c), (12, .pointer (some ⟨b4, 0, none⟩)), (13, .int .i64 (digP (keyD nn key) d)), (14, .pointer (some ⟨w4.heap.size, 0, none⟩)), (57, .slice ka vs.length kc), (58, .int .i64 vs.length), (59, .int .i64 x.1)])
        (fun x W => Ext w4 W ∧ w5.heap.size ≤ W.heap.size ∧ x.1 ≤ vs.length ∧ Blk W w4.heap.size 51 [.int .u16 (bmI l d : Nat), .slice x.2.1 x.1 x.2.2] ∧ Own W w5.heap.size 28 32 (.slice x.2.1 x.1 x.2.2) x.1 (((kidsI nn f' d l).take x.1).flatMap vbs)) (fun x => vs.length - x.1) (0, none, 0) ⟨.go, Nat.le_refl _, Nat.zero_le _, hB5, Own.nil _ _ _ _⟩ ?_ ?_
      · repeat (first | exact trivial | refine stpg ?_)
        rw [htl]
      · rintro ⟨j, a6, c6⟩ s6 w6 ⟨hE6, hz6, hj, hB6, hO6⟩
        simp only at hj hB6 hO6
        repeat (first | exact trivial | refine stpg ?_)
        refine ⟨fun hltj => ?_, fun hgej => ?_⟩
        · obtain ⟨cj, hcj⟩ : ∃ cj, (setB (bmI l d))[j]? = some cj := ⟨_, List.getElem?_eq_getElem (by unfold cntB at hvl; omega)⟩
          have hmem := mem_setB.1 (List.mem_of_getElem? hcj)
          rw [bmI_bit] at hmem
          have hhj : hasI l d cj = true := (Bool.and_eq_true_iff.1 hmem.2).2
          obtain ⟨x, hx, hNx⟩ := hkids cj hhj
          rw [rank_of hcj] at hx
          obtain ⟨b7, o7, rfl, hR7⟩ := vs_get hkv (by omega)
          have hdj : (kidsI nn f' d l)[j]? = some (nodeD nn f' (d + 1) (childI l d cj)) := by unfold kidsI; rw [List.getElem?_map, hcj]; rfl
          have hdl := nodeD_len nn f' (d + 1) (childI l d cj)
          have htk : (kidsI nn f' d l).take (j + 1) = (kidsI nn f' d l).take j ++ [nodeD nn f' (d + 1) (childI l d cj)] := by
            obtain ⟨hil, he⟩ := List.getElem?_eq_some_iff.1 hdj
            rw [List.take_succ_eq_append_getElem hil, he]
          have htkl : ((kidsI nn f' d l).take j).length = j := by rw [List.length_take]; omega
          repeat (first | exact trivial | refine stpg ?_)
          refine ldRowF (f := fun v : Value => [v]) 0 hx ?_
          refine stp ?_
          refine drawH (fun W => Blk W w4.heap.size 51 [.int .u16 (bmI l d : Nat), .slice a6 j c6]) [0, 1, 2, 3, 4, 5, 6, 7] mixed (by decide +kernel) (fun w7 hE7 hh => ⟨hB6.ext hE7, ?_⟩)
          have hz7 := hE7.size
          repeat (first | exact trivial | refine stpg ?_)
          refine loadS_of (.slice a6 j c6) (fun w' h => by refine stp ?_; exact ldCg rfl h) ?_
          repeat (first | exact trivial | refine stpg ?_)
          refine (node_sum (hNx.ext .go) (child_ne hhj) (fun y hy => hOl.len y (mem_child.1 hy).1)).mono ?_
          rintro _ w8 ⟨rfl, hE8⟩
          have hz8 := hE8.size
          refine toldS .go ?_
          repeat (first | exact trivial | refine stpg ?_)
          refine ⟨by rw [vbs_len]; exact hdl, ?_⟩
          first | refine newS ?_ | refine newZ ?_
          intro w9 hE9 hz9 hB9
          refine toldS .go ?_
          repeat (first | exact trivial | refine stpg ?_)
          have hO9 := hO6.ext (hE7.trans' (hE8.trans' hE9))
          have hB69 := hB6.ext (hE7.trans' (hE8.trans' hE9))
          refine apDg htkl hO9 (by omega) hB9 hdl (by omega) (fun a10 c10 w10 hO10 hg10 hE10 => ?_)
          have hz10 := hE10.size
          have hB610 : Blk w10 w4.heap.size 51 [.int .u16 (bmI l d : Nat), .slice a6 j c6] := ⟨by rw [hg10.block _ hB69.lt (fun e => hO9.not_blk hB69 (by decide) e.symm)]; exact hB69.out⟩
          refine toldS hB610 ?_
          rw [← htk] at hO10
          repeat (first | exact trivial | refine stpg ?_)
          refine stC ?_
          intro w11 hP11 hz11 hB11
          refine toldZ ?_
          repeat (first | exact trivial | refine stpg ?_)
          exact ⟨(j + 1, a10, c10), ⟨.go, by omega, by simp only; omega, hB11, hO10.put hB610 (by decide) hP11⟩, by rw [w64 (by omega) (by omega)]; rfl, by simp only; omega⟩
        · obtain rfl : j = vs.length := by omega
          rw [List.take_of_length_le (by omega)] at hO6
          repeat (first | exact trivial | refine stpg ?_)
          refine ⟨rfl, rfl, ?_⟩
          first | refine newS ?_ | refine newZ ?_
          intro w7 hE7 hz7 hB7
          have hlen : (kidsI nn f' d l).length = vs.length := by omega
          refine apStep (us := tt) (p := ⟨.slice a6 vs.length c6, bmI l d, kidsI nn f' d l⟩) (hOs.ext .go) (by omega) hB7 rfl (by omega) (fun a8 c8 w8 hO8 hg8 hE8 => ?_)
          have hz8 := hE8.size
          have hO7 := hOs.ext (w' := w7) .go
          have hR8 : RunK w8 w8.heap.size w.heap.size (tt ++ [⟨.slice a6 vs.length c6, bmI l d, kidsI nn f' d l⟩]) := by
            refine RunK.append (m := w3.heap.size) (RunK.grown hO7 (by decide) hg8 (hRs.ext .go)) ⟨w8.heap.size, by omega, ⟨hbm, kidsI_32 _ _ _ _, ?_, fun g hg => ?_⟩, Nat.le_refl _⟩
            · rw [hlen]
              exact ((hO6.ext hE7).grown_ne hO7 (by decide) hg8).base (by omega)
            · have := hO6.top g hg
              omega
          have hdt : (tt ++ [(⟨.slice a6 vs.length c6, bmI l d, kidsI nn f' d l⟩ : SR)]).map SR.dt = tt.map SR.dt ++ [(bmI l d, kidsI nn f' d l)] := by rw [List.map_append]; rfl
          have htl' : (tt ++ [(⟨.slice a6 vs.length c6, bmI l d, kidsI nn f' d l⟩ : SR)]).length = d + 1 := by rw [List.length_append, htl]; rfl
          generalize tt ++ [(⟨.slice a6 vs.length c6, bmI l d, kidsI nn f' d l⟩ : SR)] = tt' at *
          repeat (first | exact trivial | refine stpg ?_)
          refine (Has_ok (bmI l d) hbm (digP (keyD nn key) d) w8).mono ?_
          rintro _ w9 ⟨rfl, hE9⟩
          have hz9 := hE9.size
          rw [bmI_has, decide_eq_true hd16, Bool.true_and]
          cases hh : hasI l d (digP (keyD nn key) d)
          · rw [if_neg (by simp [hh])] at hw1 hw2
            repeat (first | exact trivial | refine stpg ?_)
            exact ⟨.slice a8 tt'.length c8, .slice none 0 0, tt', [], rfl, (hO8.ext hE9).base (by omega), (hR8.ext hE9).top hz9, Own.nil _ _ _ _, by show w.heap.size ≤ w9.heap.size; omega, by rw [if_neg h64, hdt, ← hw1], by rw [if_neg h64, ← hw2]; rfl, .go⟩
          · rw [if_pos hh] at hw1 hw2
            obtain ⟨x, hx, hNx⟩ := hkids _ hh
            have hrl := (List.getElem?_eq_some_iff.1 hx).1
            obtain ⟨b10, o10, rfl, hR10⟩ := vs_get hkv (by omega)
            repeat (first | exact trivial | refine stpg ?_)
            refine qcall _ (fun w' hw' => Rank_ok (bmI l d) hbm (digP (keyD nn key) d) w') ?_
            repeat (first | exact trivial | refine stpg ?_)
            refine ldRowF (f := fun v : Value => [v]) 0 hx ?_
            repeat (first | exact trivial | refine stpg ?_)
            intro w10 hE10
            refine ⟨(d + 1, childI l d (digP (keyD nn key) d), x, tt', a8, c8), ⟨.go, by simp only; omega, hOl.child _ _, hPl.child _, Nat.le_trans (List.length_filter_le _ _) hll, ?_, htl', fun e => absurd e (child_ne hh), hO8.ext .go, (hR8.ext .go).top (by have := hE10.size; omega), ?_, ?_⟩, ⟨rfl, rfl⟩, by simp only; omega⟩
            · refine ⟨fun e => absurd e (child_ne hh), fun _ => ?_⟩
              simp only
              rw [show 64 - (d + 1) = f' from by omega]
              exact hNx
            · simp only
              rw [hdt, ← hw1, show 64 - (d + 1) = f' from by omega]
              simp
            · simp only
              rw [← hw2, show 64 - (d + 1) = f' from by omega]
end Go.Proofs.YthlkfjoibjhaiaaGreatDoor

/-! Hmf -/
namespace Go.Proofs.YthlkfjoibjhaiaaGreatDoor
set_option maxRecDepth 100000
set_option maxHeartbeats 2000000
open Go Go.RowKit
set_option linter.unusedVariables false
set_option linter.unusedSimpArgs false
attribute [local irreducible] vcT opsT qT vcOp Q1 vcPure vcLoad vcStore ldC ldN ldD grdT grdQ vc vcOps vcQ hT
attribute [local irreducible] sumR sumP shaP keyD bucketP branchP

theorem made_rep (sz : Nat) (v : Value) (n : Nat) (h : 0 < sz) : (madeCells (List.replicate sz v).toArray n).toList = List.replicate n v := by
  apply List.ext_getElem?
  intro i
  simp only [madeCells, Array.toList_map, Array.toList_range, List.getElem?_map, List.size_toArray, List.length_replicate]
  by_cases hi : i < n
  · have h2 : i % sz < sz := Nat.mod_lt _ h
    rw [List.getElem?_replicate_of_lt hi, List.getElem?_range hi]
    simp [h2]
  · rw [List.getElem?_eq_none (by simpa using hi), List.getElem?_eq_none (by simpa using hi)]
    rfl
/-- make([]T, n), of elements of several like cells. -/
theorem mkZ {P : Program} {T e sz : Nat} {v0 : Value} {w : World} {kl kc : IntKind} {n : Nat} {K : Value → World → Prop} (hu : P.underlying T = some (.slice e)) (hz : zeroOf P e = some (.agg (List.replicate sz v0).toArray)) (hc : P.cellsOf e = sz) (h0 : 0 < sz)
    (hb : P.bytesOf e * n ≤ 281474976710656) (h63 : n ≤ 9223372036854775807) (hK : ∀ w', NewB w w' e (List.replicate (n * sz) v0) → K (.slice (some ⟨w.heap.size, 0, none⟩) n n) w') : RawMake P T (.int kl n) (.int kc n) w K := by
  obtain ⟨i, hi, hiz⟩ := Option.bind_eq_some_iff.1 hz
  have e1 : i.size = sz := by rw [← hc]; exact (cells_of hi).symm
  have e2 : i.bytes = P.bytesOf e := by simp [Program.bytesOf, hi]
  have hr := run_make (P := P) w T e i _ hu hi hiz kl kc n n (by omega) (by omega) (by rw [e2]; have : ((P.bytesOf e * n : Nat) : Int) ≤ 281474976710656 := by omega
                                                                                       rwa [Int.natCast_mul] at this) (by omega)
  refine ⟨⟨_, _, hr, ?_⟩⟩
  have hm := made_rep sz v0 (n * i.size) h0
  simp only [Int.toNat_natCast]
  refine hK _ ?_
  have h := NewB.alloc w e (madeCells (List.replicate sz v0).toArray (n * i.size)).toList
  rw [Array.toArray_toList] at h
  subst e1
  have h' : NewB w (w.alloc (.cells (madeCells (List.replicate i.size v0).toArray (n * i.size)) e)) e (List.replicate (n * i.size) v0) := by rw [← hm]; exact h
  exact h'
theorem blt_branch (parts : List (Nat × Value)) : Tryz.prog.built 225 parts = Instr.fill (#[(0, 1), (1, 1), (2, 32), (34, 1)][·]?) ([.int .u16 0, .slice none 0 0] ++ (List.replicate 32 (.int .u8 0) ++ [.int .i64 0]) : List Value).toArray parts := by kernel_rfl
theorem bld_branch (bm : Nat) (d : List UInt8) (hd : d.length = 32) (a : Option Addr) (k c : Nat) (x : Int) {K : Value → Prop} (hK : K (.agg (.int .u16 bm :: .slice a k c :: (vbs d ++ [.int .i64 x]) : List Value).toArray)) :
    bldV Tryz.prog 225 [(0, .int .u16 bm), (1, .slice a k c), (2, .agg (vbs d).toArray), (3, .int .i64 x)] K := by
  refine bldP _ (blt_branch _) ?_ hK
  have hdl : (vbs d).length = 32 := by rw [vbs_len]; exact hd
  have e1 := fill_step (place := (#[(0, 1), (1, 1), (2, 32), (34, 1)][·]?)) (i := 0) (v := .int .u16 bm) (rest := [(1, .slice a k c), (2, .agg (vbs d).toArray), (3, .int .i64 x)]) (pre := []) (mid := [.int .u16 0]) (post := .slice none 0 0 :: (List.replicate 32 (.int .u8 0) ++ [.int .i64 0])) (vs := [.int .u16 bm]) rfl rfl rfl
  have e2 := fill_step (place := (#[(0, 1), (1, 1), (2, 32), (34, 1)][·]?)) (i := 1) (v := .slice a k c) (rest := [(2, .agg (vbs d).toArray), (3, .int .i64 x)]) (pre := [.int .u16 bm]) (mid := [.slice none 0 0]) (post := List.replicate 32 (.int .u8 0) ++ [.int .i64 0]) (vs := [.slice a k c]) rfl rfl rfl
  have e3 := fill_step (place := (#[(0, 1), (1, 1), (2, 32), (34, 1)][·]?)) (i := 2) (v := .agg (vbs d).toArray) (rest := [(3, .int .i64 x)]) (pre := [.int .u16 bm, .slice a k c]) (mid := List.replicate 32 (.int .u8 0)) (post := [.int .i64 0]) (vs := vbs d) rfl rfl (by rw [hdl]; rfl)
  have e4 := fill_step (place := (#[(0, 1), (1, 1), (2, 32), (34, 1)][·]?)) (i := 3) (v := .int .i64 x) (rest := []) (pre := [.int .u16 bm, .slice a k c] ++ vbs d) (mid := [.int .i64 0]) (post := []) (vs := [.int .i64 x]) (by rw [List.length_append, hdl]; rfl) rfl rfl
  simp only [List.nil_append, List.append_assoc, List.cons_append, List.append_nil] at e1 e2 e3 e4 ⊢
  rw [e1, e2, e3, e4]
  rfl
theorem fork_ok (n : Int) (hw : widB n = true) (S : Nat → Prop) (f d b : Nat) (top : Value) (kv : Value) (vs : List Value) (M : List It) (w : World) (hW : WordsAt w 1) (hB : Blk w b 211 [.int .i64 n, top])
    (hkv : SlC w kv vs.length vs) (h1 : ∀ x ∈ vs, oneCellV x = true) (hvl : vs.length = cntB (bmI M d)) (hkids : ∀ c, hasI M d c = true → ∃ x, vs[rankB (bmI M d) (c : Int)]? = some x ∧ NodeAt n S w f (d + 1) (childI M d c) x)
    (hs : SortedI M) (hp : Pre d M) (hd : d < 64) (hml : M.length ≤ 1000000000) :
    CallK Tryz.prog 252 [.pointer (some ⟨b, 0, none⟩), .int .u16 (bmI M d : Nat), kv].toArray w fun v w' => ∃ g, v = .pointer (some ⟨g, 0, none⟩) ∧ w.heap.size ≤ g ∧
      Blk w' g 225 (.int .u16 (bmI M d : Nat) :: kv :: (vbs (brD n (bmI M d) (kidsI n f d M)) ++ [.int .i64 M.length])) ∧ Ext w w' := by
  have hbm := bmI_lt M d
  have hbl := hB.lt
  have hc16 := cnt_le (bmI M d)
  obtain ⟨ka, kc, rfl⟩ := slv_of hkv
  have hkl := kidsI_len n f d M
  have hk32 := kidsI_32 n f d M
  have hrow : 0 < vs.length → ∃ b o, ka = some ⟨b, o, none⟩ ∧ RowA w b o 1 (fun v : Value => [v]) vs := fun h0 => vs_get (S := fun _ => True) (SlS.of_sl hkv) h0
  refine enterT Tryz.func252 rfl Tryz.ntmps252 Tryz.results252 rfl (by decide) ?_
  repeat (first | exact trivial | refine stpg ?_)
  refine mkZ (sz := 32) Tryz.underlying49 z28 c28 (by decide) (by rw [by28]; omega) (by omega) (fun w1 hN1 => ?_)
  have hE1 := hN1.ext
  have hz1 := hN1.size
  have hB1 := hN1.blk
  repeat (first | exact trivial | refine stpg ?_)
  refine loopX (ι := Nat) (fun j => [(0, .pointer (some ⟨b, 0, none⟩)), (1, .int .u16 (bmI M d : Nat)), (2, .slice ka vs.length kc), (7, .slice (some ⟨w.heap.size, 0, none⟩) vs.length vs.length), (8, .int .i64 (((setB (bmI M d)).take j).flatMap (childI M d)).length), (16, .slice ka vs.length kc), (17, .int .i64 vs.length), (18, .int .i64 j)])
    (fun j W => Ext w W ∧ w1.heap.size ≤ W.heap.size ∧ j ≤ vs.length ∧ Blk W w.heap.size 28 (((kidsI n f d M).take j).flatMap vbs ++ List.replicate ((vs.length - j) * 32) (.int .u8 0))) (fun j => vs.length - j) 0 ⟨.go, Nat.le_refl _, Nat.zero_le _, by simpa using hB1⟩ ?_ ?_
  · repeat (first | exact trivial | refine stpg ?_)
    rfl
  · rintro j s2 w2 ⟨hE2, hz2, hj, hB2⟩
    repeat (first | exact trivial | refine stpg ?_)
    refine ⟨fun hltj => ?_, fun hgej => ?_⟩
    · obtain ⟨cj, hcj⟩ : ∃ cj, (setB (bmI M d))[j]? = some cj := ⟨_, List.getElem?_eq_getElem (by unfold cntB at hvl; omega)⟩
      have hmem := mem_setB.1 (List.mem_of_getElem? hcj)
      rw [bmI_bit] at hmem
      have hhj : hasI M d cj = true := (Bool.and_eq_true_iff.1 hmem.2).2
      obtain ⟨x, hx, hNx⟩ := hkids cj hhj
      rw [rank_of hcj] at hx
      obtain ⟨b7, o7, rfl, hR7⟩ := hrow (by omega)
      have hdj : (kidsI n f d M)[j]? = some (nodeD n f (d + 1) (childI M d cj)) := by unfold kidsI; rw [List.getElem?_map, hcj]; rfl
      have hdl := nodeD_len n f (d + 1) (childI M d cj)
      have htk : (kidsI n f d M).take (j + 1) = (kidsI n f d M).take j ++ [nodeD n f (d + 1) (childI M d cj)] := by
        obtain ⟨hil, he⟩ := List.getElem?_eq_some_iff.1 hdj
        rw [List.take_succ_eq_append_getElem hil, he]
      have hck : (((setB (bmI M d)).take (j + 1)).flatMap (childI M d)).length = (((setB (bmI M d)).take j).flatMap (childI M d)).length + (childI M d cj).length := by
        obtain ⟨hil, he⟩ := List.getElem?_eq_some_iff.1 hcj
        rw [List.take_succ_eq_append_getElem hil, he, List.flatMap_append, List.length_append]
        simp
      have htkl : (((kidsI n f d M).take j).flatMap vbs).length = j * 32 := by rw [dvs_len _ (fun y hy => hk32 y (List.mem_of_mem_take hy)), List.length_take]; congr 1; omega
      have hne := child_ne hhj
      have hln : ∀ y ∈ childI M d cj, y.D.length = 32 := fun y hy => hp.1 y (mem_child.1 hy).1
      have hsub : (((setB (bmI M d)).take (j + 1)).flatMap (childI M d)).length ≤ M.length := by
        have h2 := flat_set hs hp hd
        have h3 := congrArg List.length (congrArg (List.flatMap (childI M d)) (List.take_append_drop (j + 1) (setB (bmI M d))))
        rw [List.flatMap_append, List.length_append, h2] at h3
        omega
      repeat (first | exact trivial | refine stpg ?_)
      refine ldRowF (f := fun v : Value => [v]) 0 hx ?_
      repeat (first | exact trivial | refine stpg ?_)
      refine (node_sum (hNx.ext .go) hne hln).mono ?_
      rintro _ w3 ⟨rfl, hE3⟩
      have hz3 := hE3.size
      repeat (first | exact trivial | refine stpg ?_)
      have hrep : List.replicate ((vs.length - j) * 32) (Value.int .u8 0) = List.replicate 32 (.int .u8 0) ++ List.replicate ((vs.length - (j + 1)) * 32) (.int .u8 0) := by
        rw [List.replicate_append_replicate]
        congr 1
        omega
      rw [hrep] at hB2
      refine stSeg (hB2.ext hE3) htkl rfl (by rw [c28]; decide) (by rw [c28, vbs_len, hdl]) (by rw [vbs_len, hdl]; simp) (vbs_one _) (fun w4 hP4 => ?_)
      have hz4 := hP4.size
      have hB4 := hP4.blk
      rw [← List.append_assoc, show ((kidsI n f d M).take j).flatMap vbs ++ vbs (nodeD n f (d + 1) (childI M d cj)) = ((kidsI n f d M).take (j + 1)).flatMap vbs from by rw [htk]; simp] at hB4
      repeat (first | exact trivial | refine stpg ?_)
      refine (node_count (hNx.ext .go) hne hln).mono ?_
      rintro _ w5 ⟨rfl, hE5⟩
      have hz5 := hE5.size
      repeat (first | exact trivial | refine stpg ?_)
      exact ⟨j + 1, ⟨.go, by omega, by omega, hB4.ext hE5⟩, ⟨by rw [w64 (by omega) (by omega), hck]; omega, by rw [w64 (by omega) (by omega)]; rfl⟩, by omega⟩
    · obtain rfl : j = vs.length := by omega
      have e1 : (setB (bmI M d)).take vs.length = setB (bmI M d) := List.take_of_length_le (by rw [hvl]; exact Nat.le_refl _)
      have e2 : (kidsI n f d M).take vs.length = kidsI n f d M := List.take_of_length_le (by omega)
      rw [e1, flat_set hs hp hd]
      rw [e2, Nat.sub_self, Nat.zero_mul, List.replicate_zero, List.append_nil] at hB2
      repeat (first | exact trivial | refine stpg ?_)
      have hDg : DigsAt w2 (.slice (some ⟨w.heap.size, 0, none⟩) vs.length vs.length) (kidsI n f d M) := ⟨hk32, by rw [hkl, ← hvl]; exact SlC.of_blk hB2 (by omega)⟩
      refine (Branch_ok n (bmI M d) hbm _ (kidsI n f d M) w2 (hW.ext .go) hDg (by omega)).mono ?_
      rintro _ w3 ⟨rfl, hE3⟩
      have hz3 := hE3.size
      have hbd : (if brE n (bmI M d) (kidsI n f d M) = 0 then sumR n (branchP n.toNat (bmI M d) (kidsI n f d M)) else List.replicate 32 0) = brD n (bmI M d) (kidsI n f d M) := rfl
      rw [hbd]
      have hbl2 := brD_len n (bmI M d) (kidsI n f d M)
      repeat (first | exact trivial | refine stpg ?_)
      first | refine newS ?_ | refine newZ ?_
      intro w4 hE4 hz4 hB4
      repeat (first | exact trivial | refine stpg ?_)
      refine bld_branch (bmI M d) _ hbl2 _ _ _ _ ?_
      repeat (first | exact trivial | refine stpg ?_)
      first | refine newS ?_ | refine newZ ?_
      intro w5 hE5 hz5 hB5
      repeat (first | exact trivial | refine stpg ?_)
      exact ⟨w4.heap.size, rfl, by omega, hB5, .go⟩
end Go.Proofs.YthlkfjoibjhaiaaGreatDoor
