/-
  More of the reference's digests: notaryref03.Key, NoMap, Branch; notaryref01.Wide. Conditions: as stated in each theorem.
-/
import Derived.Test.YticfalbgplifoaaGreatDoorRefD
import Derived.Test.YticfalbgplifoaaGreatDoorDigC
import Derived.Test.YticfalbgplifoaaGreatDoorGo
namespace Go.Proofs.YticfalbgplifoaaGreatDoor
set_option maxRecDepth 100000
open Go Go.RowKit
set_option linter.unusedVariables false
set_option linter.unusedSimpArgs false
attribute [local irreducible] vcT opsT qT vcOp Q1 vcPure vcLoad vcStore ldC ldN ldD grdT grdQ vc vcOps vcQ hT

theorem RKeyInput_ok (xs : List UInt8) (v : Value) (w : World) (hv : SlB w v xs) (hsz : xs.length + 1 ≤ 140737488355328) :
    CallK Tryz.prog 58 [v].toArray w fun v' w' => SlB w' v' (2 :: xs) ∧ Ext w w' := by
  refine enterT Tryz.func58 rfl Tryz.ntmps58 Tryz.results58 rfl (by decide) ?_
  repeat (first | exact trivial | refine stp ?_ | refine ldCg ?_ | refine ldNg ?_ | refine ldSg ?_ | refine ldSb ?_ | refine bnd ?_ | refine bnd1 ?_ | refine drawQ (by decide +kernel) mixed (by decide +kernel) ?_)
  refine ⟨rfl, rfl, ?_⟩
  first | refine newS ?_ | refine newZ ?_
  intro w1 hE1 hz1 hB1
  refine (Join_ok [2] xs _ v w1 (SlC.of_blk hB1 (by decide)) (hv.ext .go) (by simp; omega)).mono ?_
  rintro v2 w2 ⟨hO, hE2⟩
  repeat (first | exact trivial | refine stp ?_ | refine ldCg ?_ | refine ldNg ?_ | refine ldSg ?_ | refine ldSb ?_ | refine bnd ?_ | refine bnd1 ?_ | refine drawQ (by decide +kernel) mixed (by decide +kernel) ?_)
  exact ⟨SlC.of_own hO, .go⟩
theorem RKey_ok (n : Nat) (hn : n ≤ 32) (xs : List UInt8) (v : Value) (w : World) (hv : SlB w v xs) (hsz : xs.length + 201 ≤ 140737488355328) :
    CallK Tryz.prog 31 [.int .i64 n, v].toArray w fun v w' => v = .agg (vbs (sumP n (2 :: xs))).toArray ∧ Ext w w' := by
  have hcl := sumP_len n (2 :: xs) hn
  refine enterT Tryz.func31 rfl Tryz.ntmps31 Tryz.results31 rfl (by decide) ?_
  repeat (first | exact trivial | refine stp ?_ | refine ldCg ?_ | refine ldNg ?_ | refine ldSg ?_ | refine ldSb ?_ | refine bnd ?_ | refine bnd1 ?_ | refine drawQ (by decide +kernel) mixed (by decide +kernel) ?_)
  first | refine newS ?_ | refine newZ ?_
  intro w1 hE1 hz1 hB1
  refine (RKeyInput_ok xs v w1 (hv.ext .go) (by omega)).mono ?_
  rintro v2 w2 ⟨hv2, hE2⟩
  have hz2 := hE2.size
  repeat (first | exact trivial | refine stp ?_ | refine ldCg ?_ | refine ldNg ?_ | refine ldSg ?_ | refine ldSb ?_ | refine bnd ?_ | refine bnd1 ?_ | refine drawQ (by decide +kernel) mixed (by decide +kernel) ?_)
  refine (Cut_ok n hn _ v2 w2 hv2 (by simp; omega)).mono ?_
  rintro _ w3 ⟨rfl, hE3⟩
  have hz3 := hE3.size
  repeat (first | exact trivial | refine stp ?_ | refine ldCg ?_ | refine ldNg ?_ | refine ldSg ?_ | refine ldSb ?_ | refine bnd ?_ | refine bnd1 ?_ | refine drawQ (by decide +kernel) mixed (by decide +kernel) ?_)
  refine stW ?_
  intro w4 hP4 hz4 hB4
  repeat (first | exact trivial | refine stp ?_ | refine ldCg ?_ | refine ldNg ?_ | refine ldSg ?_ | refine ldSb ?_ | refine bnd ?_ | refine bnd1 ?_ | refine drawQ (by decide +kernel) mixed (by decide +kernel) ?_)
  exact Ext.go
theorem RNoMap_ok (n : Nat) (hn : n ≤ 32) (w : World) :
    CallK Tryz.prog 62 [.int .i64 n].toArray w fun v w' => v = .agg (vbs (sumP n [5])).toArray ∧ Ext w w' := by
  have hcl := sumP_len n [5] hn
  refine enterT Tryz.func62 rfl Tryz.ntmps62 Tryz.results62 rfl (by decide) ?_
  repeat (first | exact trivial | refine stp ?_ | refine ldCg ?_ | refine ldNg ?_ | refine ldSg ?_ | refine ldSb ?_ | refine bnd ?_ | refine bnd1 ?_ | refine drawQ (by decide +kernel) mixed (by decide +kernel) ?_)
  first | refine newS ?_ | refine newZ ?_
  intro w1 hE1 hz1 hB1
  refine ⟨rfl, rfl, ?_⟩
  first | refine newS ?_ | refine newZ ?_
  intro w2 hE2 hz2 hB2
  refine (Cut_ok n hn [5] _ w2 (SlC.of_blk hB2 (by decide)) (by simp)).mono ?_
  rintro _ w3 ⟨rfl, hE3⟩
  have hz3 := hE3.size
  repeat (first | exact trivial | refine stp ?_ | refine ldCg ?_ | refine ldNg ?_ | refine ldSg ?_ | refine ldSb ?_ | refine bnd ?_ | refine bnd1 ?_ | refine drawQ (by decide +kernel) mixed (by decide +kernel) ?_)
  refine stW ?_
  intro w4 hP4 hz4 hB4
  repeat (first | exact trivial | refine stp ?_ | refine ldCg ?_ | refine ldNg ?_ | refine ldSg ?_ | refine ldSb ?_ | refine bnd ?_ | refine bnd1 ?_ | refine drawQ (by decide +kernel) mixed (by decide +kernel) ?_)
  exact Ext.go

theorem DigsAt.up {w w' : World} {v : Value} {ds : List (List UInt8)} (h : DigsAt w v ds) (e : Ext w w') : DigsAt w' v ds := ⟨h.1, h.2.ext e⟩
theorem pow256 (v j : Nat) : v / 2 ^ (8 * j) = v / 256 ^ j := by rw [Nat.pow_mul]
theorem wide_set (v k j : Nat) (h0 : 0 < j) (hj : j ≤ k) : (List.replicate j (0 : UInt8) ++ (wideP v k).drop j).set (j - 1) (UInt8.ofNat (v / 256 ^ (k - j))) = List.replicate (j - 1) 0 ++ (wideP v k).drop (j - 1) := by
  obtain ⟨i, rfl⟩ : ∃ i, j = i + 1 := ⟨j - 1, by omega⟩
  rw [Nat.add_sub_cancel, List.replicate_succ', List.append_assoc, List.set_append_right _ _ (by simp), List.length_replicate, Nat.sub_self]
  rw [List.singleton_append, List.set_cons_zero, List.drop_eq_getElem_cons (i := i) (by rw [wideP_len]; omega)]
  congr 2
  simp only [wideP, List.getElem_map, List.getElem_range, pow256, show k - 1 - i = k - (i + 1) from by omega]
theorem RWide_ok (v k : Nat) (hv : v < 18446744073709551616) (hk : k ≤ 8) (w : World) :
    CallK Tryz.prog 104 [.int .u64 v, .int .i64 k].toArray w fun v' w' => v' = .slice (some ⟨w.heap.size, 0, none⟩) k k ∧ Blk w' w.heap.size 5 (vbs (wideP v k)) ∧ Ext w w' := by
  refine enterT Tryz.func104 rfl Tryz.ntmps104 Tryz.results104 rfl (by decide) ?_
  repeat (first | exact trivial | refine stp ?_ | refine ldCg ?_ | refine ldNg ?_ | refine ldSg ?_ | refine ldSb ?_ | refine bnd ?_ | refine bnd1 ?_ | refine drawQ (by decide +kernel) mixed (by decide +kernel) ?_)
  refine mkS (l := k) (c := k) Tryz.underlying22 z5 rfl c5 (Nat.le_refl _) (by rw [by5]; omega) (by omega) (fun w1 hN1 => ?_)
  have hE1 := hN1.ext
  have hB1 := hN1.blk
  rw [vbs_rep] at hB1
  repeat (first | exact trivial | refine stp ?_ | refine ldCg ?_ | refine ldNg ?_ | refine ldSg ?_ | refine ldSb ?_ | refine bnd ?_ | refine bnd1 ?_ | refine drawQ (by decide +kernel) mixed (by decide +kernel) ?_)
  refine loopX (fun j => [(0, .int .u64 (v / 256 ^ (k - j) : Nat)), (5, .slice (some ⟨w.heap.size, 0, none⟩) k k), (6, .int .i64 ((j : Int) - 1))]) (fun j w' => Ext w w' ∧ j ≤ k ∧ Blk w' w.heap.size 5 (vbs (List.replicate j 0 ++ (wideP v k).drop j))) id k ⟨hE1, Nat.le_refl _, ?_⟩ ?_ ?_
  · rw [List.drop_eq_nil_of_le (by rw [wideP_len]; omega), List.append_nil]
    exact hB1
  · repeat (first | exact trivial | refine stp ?_ | refine ldCg ?_ | refine ldNg ?_ | refine ldSg ?_ | refine ldSb ?_ | refine bnd ?_ | refine bnd1 ?_ | refine drawQ (by decide +kernel) mixed (by decide +kernel) ?_)
    rw [w64 (by omega) (by omega)]
    simp
  · rintro j s2 w2 ⟨hE2, hj, hB2⟩
    repeat (first | exact trivial | refine stp ?_ | refine ldCg ?_ | refine ldNg ?_ | refine ldSg ?_ | refine ldSb ?_ | refine bnd ?_ | refine bnd1 ?_ | refine drawQ (by decide +kernel) mixed (by decide +kernel) ?_)
    refine ⟨fun h0 => ?_, fun h0 => ?_⟩
    · have hv' : v / 256 ^ (k - j) < 18446744073709551616 := Nat.lt_of_le_of_lt (Nat.div_le_self _ _) hv
      have e1 : IntKind.u8.wrap (((v / 256 ^ (k - j) : Nat) : Int).tmod 256) = ((UInt8.ofNat (v / 256 ^ (k - j))).toNat : Int) := by
        rw [show (256 : Int) = ((256 : Nat) : Int) from rfl, tmodN, wr8]
        simp
      have e2 : ((j : Int) - 1).toNat = j - 1 := by omega
      have e3 : (IntKind.u64.wrap (((v / 256 ^ (k - j) : Nat) : Int).tdiv 256)) = ((v / 256 ^ (k - (j - 1)) : Nat) : Int) := by
        have h1 : v / 256 ^ (k - j) / 256 = v / 256 ^ (k - (j - 1)) := by rw [Nat.div_div_eq_div_mul, ← Nat.pow_succ, show (k - j).succ = k - (j - 1) from by omega]
        rw [show (256 : Int) = ((256 : Nat) : Int) from rfl, show ((v / 256 ^ (k - j) : Nat) : Int).tdiv ((256 : Nat) : Int) = ((v / 256 ^ (k - j) / 256 : Nat) : Int) from rfl, wu64 (Int.natCast_nonneg _) (by have := Nat.div_le_self (v / 256 ^ (k - j)) 256; omega), h1]
      have e4 : IntKind.i64.wrap ((j : Int) - 1 - 1) = ((j - 1 : Nat) : Int) - 1 := by rw [w64 (by omega) (by omega)]; omega
      repeat (first | exact trivial | refine stp ?_ | refine ldCg ?_ | refine ldNg ?_ | refine ldSg ?_ | refine ldSb ?_ | refine bnd ?_ | refine bnd1 ?_ | refine drawQ (by decide +kernel) mixed (by decide +kernel) ?_)
      rw [e1, e2]
      refine stC (m := vbs (List.replicate (j - 1) 0 ++ (wideP v k).drop (j - 1))) ?_ (hm := by rw [← wide_set v k j (by omega) hj, ← vbs_set])
      intro w3 hP3 hz3 hB3
      repeat (first | exact trivial | refine stp ?_ | refine ldCg ?_ | refine ldNg ?_ | refine ldSg ?_ | refine ldSb ?_ | refine bnd ?_ | refine bnd1 ?_ | refine drawQ (by decide +kernel) mixed (by decide +kernel) ?_)
      exact ⟨j - 1, ⟨.go, by omega, hB3⟩, ⟨e3, e4⟩, by simp only [id]; omega⟩
    · obtain rfl : j = 0 := by omega
      repeat (first | exact trivial | refine stp ?_ | refine ldCg ?_ | refine ldNg ?_ | refine ldSg ?_ | refine ldSb ?_ | refine bnd ?_ | refine bnd1 ?_ | refine drawQ (by decide +kernel) mixed (by decide +kernel) ?_)
      exact ⟨hB2, hE2⟩

theorem cutsB_le (n : Nat) (ds : List (List UInt8)) (hn : n ≤ 32) : (cutsB n ds).length ≤ 32 * ds.length := by
  induction ds with
  | nil => simp [cutsB]
  | cons d ds ih => simp only [cutsB, List.flatMap_cons, List.length_append, List.length_take, List.length_cons] at ih ⊢; omega
theorem RBranchInput_ok (n bm : Nat) (hn : n ≤ 32) (hbm : bm < 65536) (v : Value) (ds : List (List UInt8)) (w : World) (hv : DigsAt w v ds) (hsz : ds.length ≤ 4000000000) :
    CallK Tryz.prog 88 [.int .i64 n, .int .u16 bm, v].toArray w fun v' w' => Own w' w.heap.size 5 1 v' (branchP n bm ds).length (vbs (branchP n bm ds)) ∧ Ext w w' := by
  obtain ⟨hd, hv⟩ := hv
  obtain ⟨a, c, rfl⟩ := slv_of hv
  have hwl := wideP_len bm 2
  refine enterT Tryz.func88 rfl Tryz.ntmps88 Tryz.results88 rfl (by decide) ?_
  repeat (first | exact trivial | refine stp ?_ | refine ldCg ?_ | refine ldNg ?_ | refine ldSg ?_ | refine ldSb ?_ | refine bnd ?_ | refine bnd1 ?_ | refine drawQ (by decide +kernel) mixed (by decide +kernel) ?_)
  refine ⟨rfl, rfl, ?_⟩
  first | refine newS ?_ | refine newZ ?_
  intro w1 hE1 hz1 hB1
  have e1 : IntKind.u64.wrap (bm : Int) = (bm : Int) := wu64 (by omega) (by omega)
  rw [e1]
  refine (RWide_ok bm 2 (by omega) (by decide) w1).mono ?_
  rintro _ w2 ⟨rfl, hB2, hE2⟩
  have hz2 := hE2.size
  repeat (first | exact trivial | refine stp ?_ | refine ldCg ?_ | refine ldNg ?_ | refine ldSg ?_ | refine ldSb ?_ | refine bnd ?_ | refine bnd1 ?_ | refine drawQ (by decide +kernel) mixed (by decide +kernel) ?_)
  refine (Join_ok [4] (wideP bm 2) _ _ w2 (SlC.of_blk .go (by decide)) (by rw [SlB, hwl]; exact SlC.of_blk hB2 (by decide)) (by simp; omega)).mono ?_
  rintro v3 w3 ⟨hO3, hE3⟩
  have hz3 := hE3.size
  obtain ⟨a3, c3, rfl⟩ := own_slice hO3
  have hdv : ∀ d ∈ ds, (vbs d).length = 32 := fun d h => by rw [vbs_len]; exact hd d h
  have hlen : ∀ k, (4 :: (wideP bm 2 ++ cutsB n (ds.take k))).length ≤ 3 + 32 * ds.length := fun k => by
    have h1 := cutsB_le n (ds.take k) hn
    have h2 : (ds.take k).length ≤ ds.length := by rw [List.length_take]; omega
    simp only [List.length_cons, List.length_append, hwl]
    omega
  repeat (first | exact trivial | refine stp ?_ | refine ldCg ?_ | refine ldNg ?_ | refine ldSg ?_ | refine ldSb ?_ | refine bnd ?_ | refine bnd1 ?_ | refine drawQ (by decide +kernel) mixed (by decide +kernel) ?_)
  refine loopX (ι := Nat × Option Addr × Nat) (fun x => [(0, .int .i64 n), (7, .slice x.2.1 (4 :: (wideP bm 2 ++ cutsB n (ds.take x.1))).length x.2.2), (15, .slice a ds.length c), (16, .int .i64 ds.length), (17, .int .i64 x.1)])
    (fun x w' => Ext w w' ∧ x.1 ≤ ds.length ∧ w3.heap.size ≤ w'.heap.size ∧ Own w' w.heap.size 5 1 (.slice x.2.1 (4 :: (wideP bm 2 ++ cutsB n (ds.take x.1))).length x.2.2) (4 :: (wideP bm 2 ++ cutsB n (ds.take x.1))).length (vbs (4 :: (wideP bm 2 ++ cutsB n (ds.take x.1))))) (fun x => ds.length - x.1) (0, a3, c3) ⟨.go, Nat.zero_le _, Nat.le_refl _, by simpa [cutsB] using hO3.base (by omega)⟩ ?_ ?_
  · repeat (first | exact trivial | refine stp ?_ | refine ldCg ?_ | refine ldNg ?_ | refine ldSg ?_ | refine ldSb ?_ | refine bnd ?_ | refine bnd1 ?_ | refine drawQ (by decide +kernel) mixed (by decide +kernel) ?_)
    simp [cutsB]
  · rintro ⟨k, a4, c4⟩ s4 w4 ⟨hE4, hk, hz4, hO4⟩
    simp only at hk hO4
    repeat (first | exact trivial | refine stp ?_ | refine ldCg ?_ | refine ldNg ?_ | refine ldSg ?_ | refine ldSb ?_ | refine bnd ?_ | refine bnd1 ?_ | refine drawQ (by decide +kernel) mixed (by decide +kernel) ?_)
    refine ⟨fun hlt => ?_, fun hge => ?_⟩
    · have hl4 := hlen k
      have hl5 := hlen (k + 1)
      obtain ⟨b, o, rfl, hR⟩ := hv.row hdv (by decide) (by omega)
      obtain ⟨d, hx⟩ : ∃ d, ds[k]? = some d := ⟨_, List.getElem?_eq_getElem (by omega)⟩
      have hdl := hd d (List.mem_of_getElem? hx)
      repeat (first | exact trivial | refine stp ?_ | refine ldCg ?_ | refine ldNg ?_ | refine ldSg ?_ | refine ldSb ?_ | refine bnd ?_ | refine bnd1 ?_ | refine drawQ (by decide +kernel) mixed (by decide +kernel) ?_)
      refine ldRow hx ?_
      repeat (first | exact trivial | refine stp ?_ | refine ldCg ?_ | refine ldNg ?_ | refine ldSg ?_ | refine ldSb ?_ | refine bnd ?_ | refine bnd1 ?_ | refine drawQ (by decide +kernel) mixed (by decide +kernel) ?_)
      first | refine newS ?_ | refine newZ ?_
      intro w5 hE5 hz5 hB5
      repeat (first | exact trivial | refine stp ?_ | refine ldCg ?_ | refine ldNg ?_ | refine ldSg ?_ | refine ldSb ?_ | refine bnd ?_ | refine bnd1 ?_ | refine drawQ (by decide +kernel) mixed (by decide +kernel) ?_)
      intro o' ho'
      obtain rfl : o' = 0 := by simpa using ho'
      repeat (first | exact trivial | refine stp ?_ | refine ldCg ?_ | refine ldNg ?_ | refine ldSg ?_ | refine ldSb ?_ | refine bnd ?_ | refine bnd1 ?_ | refine drawQ (by decide +kernel) mixed (by decide +kernel) ?_)
      have e2 : ((n : Int) - 0).toNat = (d.take n).length := by rw [List.length_take]; omega
      rw [e2]
      have hsl : SlB w5 (.slice (some ⟨w4.heap.size, 0, none⟩) (d.take n).length (32 - 0 : Int).toNat) (d.take n) := SlC.of_part (o := 0) hB5 (by rw [List.length_take]; omega) (by decide) (fun j u hj => by
        rw [Nat.zero_add]
        simp only [vbs, List.map_take, List.getElem?_take] at hj
        split at hj
        · exact hj
        · cases hj)
      rw [cutsB_take hx] at hl5
      refine apOwn (hO4.ext hE5) (by omega) hsl (by simp only [List.length_cons, List.length_append, hwl] at hl5 ⊢; omega) (fun a6 c6 w6 hO6 hg6 hE6 => ?_)
      have hz6 := hE6.size
      have e3 : (4 :: (wideP bm 2 ++ cutsB n (ds.take k))) ++ d.take n = 4 :: (wideP bm 2 ++ cutsB n (ds.take (k + 1))) := by rw [cutsB_take hx]; simp
      rw [e3] at hO6 ⊢
      repeat (first | exact trivial | refine stp ?_ | refine ldCg ?_ | refine ldNg ?_ | refine ldSg ?_ | refine ldSb ?_ | refine bnd ?_ | refine bnd1 ?_ | refine drawQ (by decide +kernel) mixed (by decide +kernel) ?_)
      exact ⟨(k + 1, a6, c6), ⟨.go, by simp only; omega, by omega, hO6⟩, ⟨rfl, by rw [w64 (by omega) (by omega)]; rfl⟩, by simp only; omega⟩
    · obtain rfl : k = ds.length := by omega
      rw [List.take_length] at hO4 ⊢
      repeat (first | exact trivial | refine stp ?_ | refine ldCg ?_ | refine ldNg ?_ | refine ldSg ?_ | refine ldSb ?_ | refine bnd ?_ | refine bnd1 ?_ | refine drawQ (by decide +kernel) mixed (by decide +kernel) ?_)
      exact ⟨hO4, hE4⟩
theorem RBranch_ok (n bm : Nat) (hn : n ≤ 32) (hbm : bm < 65536) (v : Value) (ds : List (List UInt8)) (w : World) (hv : DigsAt w v ds) (hsz : ds.length ≤ 4000000000) :
    CallK Tryz.prog 63 [.int .i64 n, .int .u16 bm, v].toArray w fun v' w' => v' = .agg (vbs (sumP n (branchP n bm ds))).toArray ∧ Ext w w' := by
  have hcl := sumP_len n (branchP n bm ds) hn
  have hcb := cutsB_le n ds hn
  have hwl := wideP_len bm 2
  refine enterT Tryz.func63 rfl Tryz.ntmps63 Tryz.results63 rfl (by decide) ?_
  repeat (first | exact trivial | refine stp ?_ | refine ldCg ?_ | refine ldNg ?_ | refine ldSg ?_ | refine ldSb ?_ | refine bnd ?_ | refine bnd1 ?_ | refine drawQ (by decide +kernel) mixed (by decide +kernel) ?_)
  first | refine newS ?_ | refine newZ ?_
  intro w1 hE1 hz1 hB1
  refine (RBranchInput_ok n bm hn hbm v ds w1 (hv.up .go) hsz).mono ?_
  rintro v2 w2 ⟨hO2, hE2⟩
  have hz2 := hE2.size
  repeat (first | exact trivial | refine stp ?_ | refine ldCg ?_ | refine ldNg ?_ | refine ldSg ?_ | refine ldSb ?_ | refine bnd ?_ | refine bnd1 ?_ | refine drawQ (by decide +kernel) mixed (by decide +kernel) ?_)
  refine (Cut_ok n hn _ v2 w2 (SlC.of_own hO2) (by simp only [branchP, List.length_cons, List.length_append, hwl]; omega)).mono ?_
  rintro _ w3 ⟨rfl, hE3⟩
  have hz3 := hE3.size
  repeat (first | exact trivial | refine stp ?_ | refine ldCg ?_ | refine ldNg ?_ | refine ldSg ?_ | refine ldSb ?_ | refine bnd ?_ | refine bnd1 ?_ | refine drawQ (by decide +kernel) mixed (by decide +kernel) ?_)
  refine stW ?_
  intro w4 hP4 hz4 hB4
  repeat (first | exact trivial | refine stp ?_ | refine ldCg ?_ | refine ldNg ?_ | refine ldSg ?_ | refine ldSb ?_ | refine bnd ?_ | refine bnd1 ?_ | refine drawQ (by decide +kernel) mixed (by decide +kernel) ?_)
  exact Ext.go
end Go.Proofs.YticfalbgplifoaaGreatDoor
