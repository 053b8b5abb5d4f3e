/-
  slices.Delete of one element, of pairs and of nodes. Conditions: as stated in each theorem. Written by wip/gendel.py. Package hamt: drop, Delete. Conditions: as stated in each theorem. Package notarylaw14: alike, change. Conditions: as stated in each theorem. Package hamt: what a nil map answers. Conditions: as stated in each theorem. HamtFixed. Conditions: as stated in each theorem. The frame of the rows: a law's row out of its walk, whatever its parameters; digests and numbers opened. Conditions: none; plain lemmas. The frame of rows that list the table and bound the bulk: questions (structs with lists of structs) opened, with their sizes; the table out of the row's list. Conditions: none; plain lemmas. The frame of rows: parameters opened; the table of SHA-256. Conditions: none; plain lemmas.
-/
import Derived.Test.YtieaoldoiahgpaaGreatDoorMHamtFixed11
import Derived.Test.YtieaoldoiahgpaaGreatDoorMHamtFixed12
import Derived.Test.YtieaoldoiahgpaaGreatDoorMHamtFixed7
import Derived.Deep.Slices
import Derived.Lib.LaidTab
import Derived.Lib.SmallJoins
import Derived.Test.YtieaoldoiahgpaaGreatDoorMHamtFixed8
/-! Sld -/
namespace Go.Proofs.YtieaoldoiahgpaaGreatDoor
set_option maxRecDepth 100000
open Go Go.RowKit
set_option linter.unusedVariables false
set_option linter.unusedSimpArgs false

theorem DelP_ok (A X D : List Value) (i len : Nat) (hAl : A.length = i * 2) (hXl : X.length = 2) (hDl : D.length = (len - 1 - i) * 2) (hi : i < len) (hD1 : ∀ v ∈ D, oneCellV v = true) (v : Value) (base : Nat) (w : World)
    (hO : Own w base 48 2 v len (A ++ (X ++ D))) (hbase : base ≤ w.heap.size) (hsz : len ≤ 4000000000) :
    CallK Tryz.prog 112 [v, .int .i64 i, .int .i64 (i + 1 : Nat)].toArray w fun v' w' => Own w' base 48 2 v' (len - 1) (A ++ D) ∧ Below base w w' ∧ OnlyBy v w w' := by
  obtain ⟨a, c, rfl⟩ := own_slice hO
  have hcl := hO.cap_le
  obtain ⟨_, ⟨h0, h0'⟩ | ⟨g, cap, cur, h0, hbg, hg, hnc, hcm, hcs, hct⟩⟩ := hO
  · omega
  cases h0
  obtain ⟨rest, hrest⟩ : ∃ rest, cur.toList = A ++ (X ++ (D ++ rest)) := ⟨cur.toList.drop (len * 2), by
    have := List.take_append_drop (len * 2) cur.toList
    rw [hct, List.append_assoc, List.append_assoc] at this
    exact this.symm⟩
  have hG : Blk w g 48 (A ++ (X ++ (D ++ rest))) := ⟨by rw [← hrest]; simpa using hg⟩
  have hrl : rest.length = (c - len) * 2 := by
    have := congrArg List.length hrest
    simp only [List.length_append, Array.length_toList, hcs] at this
    omega
  refine enterT Tryz.func112 rfl Tryz.ntmps112 Tryz.results112 rfl (by decide) ?_
  simp only [↓VD, VP, VT, isAggD, reduceCtorEq, Int.reduceEq, Int.reduceNe, Int.reduceLT, Int.reduceLE, implies_true, Nat.reduceEqDiff, reduceIte, ite_true, ite_false, eq_self, Nat.reduceLT, Nat.reduceLeDiff, Nat.reduceAdd, Nat.reduceMul, Nat.reduceSub, intOf]
  refine ⟨by omega, by omega, by omega, by omega, fun a' ha' => ⟨fun h => absurd h (by omega), fun _ => ?_⟩⟩
  refine drawH (fun _ => True) [0, 1, 2, 3, 4, 5, 6, 7] mixed (by decide +kernel) (fun w1 hE1 hh => ⟨trivial, ?_⟩)
  simp only [↓VD, VP, VT, isAggD, reduceCtorEq, Int.reduceEq, Int.reduceNe, Int.reduceLT, Int.reduceLE, implies_true, Nat.reduceEqDiff, reduceIte, ite_true, ite_false, eq_self, Nat.reduceLT, Nat.reduceLeDiff, Nat.reduceAdd, Nat.reduceMul, Nat.reduceSub, intOf]
  refine ⟨by omega, by omega, fun a1 ha1 => ⟨by omega, by omega, by omega, fun a2 ha2 => ?_⟩⟩
  obtain ⟨o1, rfl, ho1⟩ := ha1 g 0 rfl
  obtain rfl : o1 = 0 := by have := ho1 (by omega); simpa using this
  obtain ⟨o2, rfl, ho2⟩ := ha2 g 0 rfl
  have hG1 := hG.ext hE1
  have hD2 : SlC w1 (.slice (some ⟨g, o2, none⟩) (len - 1 - i) (c - (i + 1))) (len - 1 - i) D := by
    refine ⟨_, _, rfl, by omega, by rw [maxLen_eq] at hcm; omega, Or.inr ⟨g, o2, rfl, fun j u hj => ?_⟩⟩
    have hjl := (List.getElem?_eq_some_iff.1 hj).1
    have e2 : o2 = (i + 1) * 2 := by have := ho2 (by omega); simpa using this
    rw [hG1.cell, ← List.append_assoc, List.getElem?_append_right (by rw [List.length_append]; omega), List.length_append, List.getElem?_append_left (by omega), ← hj]
    congr 1
    omega
  have hO1 : Own w1 base 48 2 (.slice (some ⟨g, 0, none⟩) i c) i A := own_mk hG1 hbg hAl (by simp only [List.length_append]; omega) (by omega) (by rw [maxLen_eq] at hcm; omega)
  rw [show ((i : Int) - 0).toNat = i from by omega, show ((c : Int) - 0).toNat = c from by omega, show ((len : Int) - ((i + 1 : Nat) : Int)).toNat = len - 1 - i from by omega, show ((c : Int) - ((i + 1 : Nat) : Int)).toNat = c - (i + 1) from by omega]
  refine apSp (sz := 2) (n := i) (m := len - 1 - i) Tryz.underlying22 z48 c48 rfl (by decide) hO1 (by have := hE1.size; omega) hD2 hDl hD1 (by omega) (fun w2 hO2 hg2 => ?_)
  refine told (fun _ => True) trivial trivial ?_
  have hln : i + (len - 1 - i) = len - 1 := by omega
  rw [hln] at hO2
  rw [hln]
  have hE2 := below_of_grown hO1 (by have := hE1.size; omega) hg2
  obtain ⟨_, ⟨h0, h0'⟩ | ⟨g', cap', cur', h0, hbg', hg', hnc', hcm', hcs', hct'⟩⟩ := hO2
  · cases h0
  cases h0
  obtain ⟨rest', hrest'⟩ : ∃ rest', cur'.toList = (A ++ D) ++ rest' := ⟨cur'.toList.drop ((len - 1) * 2), by
    have := List.take_append_drop ((len - 1) * 2) cur'.toList
    rw [hct'] at this
    exact this.symm⟩
  have hrl' : rest'.length = (c - (len - 1)) * 2 := by
    have := congrArg List.length hrest'
    simp only [List.length_append, Array.length_toList, hcs'] at this
    omega
  obtain ⟨r1, r2, rfl, hr1⟩ : ∃ r1 r2, rest' = r1 ++ r2 ∧ r1.length = 2 := ⟨rest'.take 2, rest'.drop 2, (List.take_append_drop _ _).symm, by rw [List.length_take]; omega⟩
  have hG2 : Blk w2 g 48 ((A ++ D) ++ (r1 ++ r2)) := ⟨by rw [← hrest']; simpa using hg'⟩
  rw [List.length_append] at hrl'
  simp only [↓VD, VP, VT, isAggD, reduceCtorEq, Int.reduceEq, Int.reduceNe, Int.reduceLT, Int.reduceLE, implies_true, Nat.reduceEqDiff, reduceIte, ite_true, ite_false, eq_self, Nat.reduceLT, Nat.reduceLeDiff, Nat.reduceAdd, Nat.reduceMul, Nat.reduceSub, intOf]
  refine ⟨by omega, by omega, by omega, fun a5 ha5 => ?_⟩
  obtain ⟨o5, rfl, ho5⟩ := ha5 g 0 rfl
  obtain rfl : o5 = (len - 1) * 2 := by have := ho5 (by omega); simpa using this
  rw [show ((len : Int) - ((len - 1 : Nat) : Int)).toNat = 1 from by omega]
  refine clS (sz := 2) (T := 48) Tryz.underlying22 z48 rfl (by decide) (by decide +kernel) hG2 (by decide +kernel) (by simp only [List.length_append]; omega) (fun w3 hP3 => ?_)
  generalize hze : (Builtin.zeroCells _ 1).toList = zs at hP3
  have hzl : zs.length = 2 := by rw [← hze]; decide +kernel
  rw [splice_at (by rw [List.length_append]; omega) (by rw [hr1, hzl])] at hP3
  simp only [↓VD, VP, VT, isAggD, reduceCtorEq, Int.reduceEq, Int.reduceNe, Int.reduceLT, Int.reduceLE, implies_true, Nat.reduceEqDiff, reduceIte, ite_true, ite_false, eq_self, Nat.reduceLT, Nat.reduceLeDiff, Nat.reduceAdd, Nat.reduceMul, Nat.reduceSub, intOf]
  have hne : ∀ k : Nat, (Value.slice (some ⟨g, 0, none⟩) len c).ownBlock ≠ some k → k ≠ g := fun k hk e => hk (by simp [Value.ownBlock, e])
  refine ⟨own_mk (sz := 2) (n := len - 1) (cap := c) hP3.blk hbg (by rw [List.length_append]; omega) (by rw [List.length_append]; omega) (by omega) (by rw [maxLen_eq] at hcm; omega), (hE1.mono hbase).trans (hE2.trans (hP3.below (by omega))), fun k T l hk hBk => ?_⟩
  have h1 := hBk.ext hE1
  exact hP3.keep ⟨by rw [hg2.block k h1.lt (fun h => hne k hk (by simpa using h))]; exact h1.out⟩ (hne k hk)
theorem DelN_ok (A X D : List Value) (i len : Nat) (hAl : A.length = i * 1) (hXl : X.length = 1) (hDl : D.length = (len - 1 - i) * 1) (hi : i < len) (hD1 : ∀ v ∈ D, oneCellV v = true) (v : Value) (base : Nat) (w : World)
    (hO : Own w base 92 1 v len (A ++ (X ++ D))) (hbase : base ≤ w.heap.size) (hsz : len ≤ 4000000000) :
    CallK Tryz.prog 113 [v, .int .i64 i, .int .i64 (i + 1 : Nat)].toArray w fun v' w' => Own w' base 92 1 v' (len - 1) (A ++ D) ∧ Below base w w' ∧ OnlyBy v w w' := by
  obtain ⟨a, c, rfl⟩ := own_slice hO
  have hcl := hO.cap_le
  obtain ⟨_, ⟨h0, h0'⟩ | ⟨g, cap, cur, h0, hbg, hg, hnc, hcm, hcs, hct⟩⟩ := hO
  · omega
  cases h0
  obtain ⟨rest, hrest⟩ : ∃ rest, cur.toList = A ++ (X ++ (D ++ rest)) := ⟨cur.toList.drop (len * 1), by
    have := List.take_append_drop (len * 1) cur.toList
    rw [hct, List.append_assoc, List.append_assoc] at this
    exact this.symm⟩
  have hG : Blk w g 92 (A ++ (X ++ (D ++ rest))) := ⟨by rw [← hrest]; simpa using hg⟩
  have hrl : rest.length = (c - len) * 1 := by
    have := congrArg List.length hrest
    simp only [List.length_append, Array.length_toList, hcs] at this
    omega
  refine enterT Tryz.func113 rfl Tryz.ntmps113 Tryz.results113 rfl (by decide) ?_
  simp only [↓VD, VP, VT, isAggD, reduceCtorEq, Int.reduceEq, Int.reduceNe, Int.reduceLT, Int.reduceLE, implies_true, Nat.reduceEqDiff, reduceIte, ite_true, ite_false, eq_self, Nat.reduceLT, Nat.reduceLeDiff, Nat.reduceAdd, Nat.reduceMul, Nat.reduceSub, intOf]
  refine ⟨by omega, by omega, by omega, by omega, fun a' ha' => ⟨fun h => absurd h (by omega), fun _ => ?_⟩⟩
  refine drawH (fun _ => True) [0, 1, 2, 3, 4, 5, 6, 7] mixed (by decide +kernel) (fun w1 hE1 hh => ⟨trivial, ?_⟩)
  simp only [↓VD, VP, VT, isAggD, reduceCtorEq, Int.reduceEq, Int.reduceNe, Int.reduceLT, Int.reduceLE, implies_true, Nat.reduceEqDiff, reduceIte, ite_true, ite_false, eq_self, Nat.reduceLT, Nat.reduceLeDiff, Nat.reduceAdd, Nat.reduceMul, Nat.reduceSub, intOf]
  refine ⟨by omega, by omega, fun a1 ha1 => ⟨by omega, by omega, by omega, fun a2 ha2 => ?_⟩⟩
  obtain ⟨o1, rfl, ho1⟩ := ha1 g 0 rfl
  obtain rfl : o1 = 0 := by have := ho1 (by omega); simpa using this
  obtain ⟨o2, rfl, ho2⟩ := ha2 g 0 rfl
  have hG1 := hG.ext hE1
  have hD2 : SlC w1 (.slice (some ⟨g, o2, none⟩) (len - 1 - i) (c - (i + 1))) (len - 1 - i) D := by
    refine ⟨_, _, rfl, by omega, by rw [maxLen_eq] at hcm; omega, Or.inr ⟨g, o2, rfl, fun j u hj => ?_⟩⟩
    have hjl := (List.getElem?_eq_some_iff.1 hj).1
    have e2 : o2 = (i + 1) * 1 := by have := ho2 (by omega); simpa using this
    rw [hG1.cell, ← List.append_assoc, List.getElem?_append_right (by rw [List.length_append]; omega), List.length_append, List.getElem?_append_left (by omega), ← hj]
    congr 1
    omega
  have hO1 : Own w1 base 92 1 (.slice (some ⟨g, 0, none⟩) i c) i A := own_mk hG1 hbg hAl (by simp only [List.length_append]; omega) (by omega) (by rw [maxLen_eq] at hcm; omega)
  rw [show ((i : Int) - 0).toNat = i from by omega, show ((c : Int) - 0).toNat = c from by omega, show ((len : Int) - ((i + 1 : Nat) : Int)).toNat = len - 1 - i from by omega, show ((c : Int) - ((i + 1 : Nat) : Int)).toNat = c - (i + 1) from by omega]
  refine apSp (sz := 1) (n := i) (m := len - 1 - i) Tryz.underlying99 z92 c92 rfl (by decide) hO1 (by have := hE1.size; omega) hD2 hDl hD1 (by omega) (fun w2 hO2 hg2 => ?_)
  refine told (fun _ => True) trivial trivial ?_
  have hln : i + (len - 1 - i) = len - 1 := by omega
  rw [hln] at hO2
  rw [hln]
  have hE2 := below_of_grown hO1 (by have := hE1.size; omega) hg2
  obtain ⟨_, ⟨h0, h0'⟩ | ⟨g', cap', cur', h0, hbg', hg', hnc', hcm', hcs', hct'⟩⟩ := hO2
  · cases h0
  cases h0
  obtain ⟨rest', hrest'⟩ : ∃ rest', cur'.toList = (A ++ D) ++ rest' := ⟨cur'.toList.drop ((len - 1) * 1), by
    have := List.take_append_drop ((len - 1) * 1) cur'.toList
    rw [hct'] at this
    exact this.symm⟩
  have hrl' : rest'.length = (c - (len - 1)) * 1 := by
    have := congrArg List.length hrest'
    simp only [List.length_append, Array.length_toList, hcs'] at this
    omega
  obtain ⟨r1, r2, rfl, hr1⟩ : ∃ r1 r2, rest' = r1 ++ r2 ∧ r1.length = 1 := ⟨rest'.take 1, rest'.drop 1, (List.take_append_drop _ _).symm, by rw [List.length_take]; omega⟩
  have hG2 : Blk w2 g 92 ((A ++ D) ++ (r1 ++ r2)) := ⟨by rw [← hrest']; simpa using hg'⟩
  rw [List.length_append] at hrl'
  simp only [↓VD, VP, VT, isAggD, reduceCtorEq, Int.reduceEq, Int.reduceNe, Int.reduceLT, Int.reduceLE, implies_true, Nat.reduceEqDiff, reduceIte, ite_true, ite_false, eq_self, Nat.reduceLT, Nat.reduceLeDiff, Nat.reduceAdd, Nat.reduceMul, Nat.reduceSub, intOf]
  refine ⟨by omega, by omega, by omega, fun a5 ha5 => ?_⟩
  obtain ⟨o5, rfl, ho5⟩ := ha5 g 0 rfl
  obtain rfl : o5 = (len - 1) * 1 := by have := ho5 (by omega); simpa using this
  rw [show ((len : Int) - ((len - 1 : Nat) : Int)).toNat = 1 from by omega]
  refine clS (sz := 1) (T := 92) Tryz.underlying99 z92 rfl (by decide) (by decide +kernel) hG2 (by decide +kernel) (by simp only [List.length_append]; omega) (fun w3 hP3 => ?_)
  generalize hze : (Builtin.zeroCells _ 1).toList = zs at hP3
  have hzl : zs.length = 1 := by rw [← hze]; decide +kernel
  rw [splice_at (by rw [List.length_append]; omega) (by rw [hr1, hzl])] at hP3
  simp only [↓VD, VP, VT, isAggD, reduceCtorEq, Int.reduceEq, Int.reduceNe, Int.reduceLT, Int.reduceLE, implies_true, Nat.reduceEqDiff, reduceIte, ite_true, ite_false, eq_self, Nat.reduceLT, Nat.reduceLeDiff, Nat.reduceAdd, Nat.reduceMul, Nat.reduceSub, intOf]
  have hne : ∀ k : Nat, (Value.slice (some ⟨g, 0, none⟩) len c).ownBlock ≠ some k → k ≠ g := fun k hk e => hk (by simp [Value.ownBlock, e])
  refine ⟨own_mk (sz := 1) (n := len - 1) (cap := c) hP3.blk hbg (by rw [List.length_append]; omega) (by rw [List.length_append]; omega) (by omega) (by rw [maxLen_eq] at hcm; omega), (hE1.mono hbase).trans (hE2.trans (hP3.below (by omega))), fun k T l hk hBk => ?_⟩
  have h1 := hBk.ext hE1
  exact hP3.keep ⟨by rw [hg2.block k h1.lt (fun h => hne k hk (by simpa using h))]; exact h1.out⟩ (hne k hk)
end Go.Proofs.YtieaoldoiahgpaaGreatDoor

/-! Hmj -/
namespace Go.Proofs.YtieaoldoiahgpaaGreatDoor
set_option maxRecDepth 100000
open Go Go.RowKit
set_option linter.unusedVariables false
set_option linter.unusedSimpArgs false
set_option maxHeartbeats 2000000
attribute [local irreducible] vcT opsT qT vcOp Q1 vcPure vcLoad vcStore ldC ldN ldD grdT grdQ vc vcOps vcQ hT
attribute [local irreducible] sumR sumP shaP keyD bucketP branchP

theorem PairsS.of_own {S : Nat → Prop} {W : World} {base n : Nat} {v : Value} {qs : List PR} (hO : Own W base 48 2 v n (qs.flatMap PR.cells)) (hS : ∀ b, base ≤ b → S b)
    (ho : ∀ q ∈ qs, SlS S W q.kv q.k.length (vbs q.k) ∧ SlS S W q.vv q.v.length (vbs q.v)) : PairsS S W v qs := by
  have hn : n = qs.length := by have h1 := hO.1; have h2 := prc_len qs; omega
  subst hn
  exact ⟨SlS.of_own hO hS, ho⟩
theorem drop_ok (n : Int) (hw : widB n = true) (S : Nat → Prop) (b : Nat) (top : Value) (k : List UInt8) (hkl : k.length ≤ 64) :
    ∀ (f d : Nat) (m : List It) (at_ kv : Value) (w : World), WordsAt w 0 → Blk w b 94 [.int .i64 n, top] → AtN n S w f d m at_ → OkI n m → Pre d m → SlB w kv k → d + f = 64 → m.length ≤ 900000000 → (∀ k, S k → k < w.heap.size) →
    CallK Tryz.prog 73 [.pointer (some ⟨b, 0, none⟩), at_, .int .i64 d, .agg (vbs (keyD n k)).toArray, kv].toArray w fun v w' => ∃ nv, v = .tuple [nv, .bool (getI m k).isSome].toArray ∧ AtN n (fun k => S k ∨ w.heap.size ≤ k) w' f d (delI m k) nv ∧ Ext w w' := by
  have hwn := (widB_iff n).1 hw
  obtain ⟨nn, rfl⟩ : ∃ nn : Nat, n = nn := ⟨n.toNat, by omega⟩
  have hxl : (keyD nn k).length = 32 := keyD_len _ _
  intro f
  induction f using Nat.strongRecOn with
  | ind f ih =>
    intro d m at_ kv w hW hB hA hO hP hk hdf hml hSl
    have hbl := hB.lt
    have hOM := hO.del k
    have hPM := hP.del k
    have hMl := del_len m k
    obtain ⟨ka, kc, rfl⟩ := slv_of hk
    have hmiss : getI m k = none → ∀ W, Ext w W → AtN nn (fun k => S k ∨ w.heap.size ≤ k) W f d (delI m k) at_ := fun h W e => by
      rw [del_of_none h]
      exact (hA.ext e).mono (fun k h => Or.inl h)
    rcases hA.cases with ⟨rfl, rfl⟩ | ⟨hne, hs, b4, pv, ps, rfl, hb⟩ | ⟨hs, f', hf', b4, kv4, vs, rfl, hb, hkids⟩
    · refine enterT Tryz.func73 rfl Tryz.ntmps73 Tryz.results73 rfl (by decide) ?_
      repeat (first | exact trivial | refine stp ?_ | refine ldCg ?_ | refine ldNg ?_ | refine ldSg ?_ | refine ldSb ?_ | refine bnd ?_ | refine bnd1 ?_ | refine drawQ (by decide +kernel) mixed (by decide +kernel) ?_)
      first | refine newS ?_ | refine newZ ?_
      intro w1 hE1 hz1 hB1
      repeat (first | exact trivial | refine stp ?_ | refine ldCg ?_ | refine ldNg ?_ | refine ldSg ?_ | refine ldSb ?_ | refine bnd ?_ | refine bnd1 ?_ | refine drawQ (by decide +kernel) mixed (by decide +kernel) ?_)
      exact ⟨.nilIface, rfl, ⟨fun _ => rfl, fun h => absurd rfl h⟩, .go⟩
    · have hB4 := hb.blk
      have hdl := headD_len (n := nn) hne hO.len
      have hhl : (vbs (headD m)).length = 32 := by rw [vbs_len]; exact hdl
      have hpl : ps.length = m.length := by have := congrArg List.length hb.dat; simpa using this
      have hps := pairs_sorted hb.dat (sorted_keys hO.sorted (singleB_iff.1 hs))
      have hpa := hb.prs.at
      obtain ⟨pa, cp, rfl⟩ := slv_of hpa.1
      obtain ⟨i, ok, hF⟩ := find_ex k hps
      refine enterT Tryz.func73 rfl Tryz.ntmps73 Tryz.results73 rfl (by decide) ?_
      repeat (first | exact trivial | refine stp ?_ | refine ldCg ?_ | refine ldNg ?_ | refine ldSg ?_ | refine ldSb ?_ | refine bnd ?_ | refine bnd1 ?_ | refine drawQ (by decide +kernel) mixed (by decide +kernel) ?_)
      first | refine newS ?_ | refine newZ ?_
      intro w1 hE1 hz1 hB1
      repeat (first | exact trivial | refine stp ?_ | refine ldCg ?_ | refine ldNg ?_ | refine ldSg ?_ | refine ldSb ?_ | refine bnd ?_ | refine bnd1 ?_ | refine drawQ (by decide +kernel) mixed (by decide +kernel) ?_)
      refine ldCg (hv := by rw [List.getElem?_append_right (by omega), hhl]; rfl) ?_
      repeat (first | exact trivial | refine stp ?_ | refine ldCg ?_ | refine ldNg ?_ | refine ldSg ?_ | refine ldSb ?_ | refine bnd ?_ | refine bnd1 ?_ | refine drawQ (by decide +kernel) mixed (by decide +kernel) ?_)
      refine (find_ok ps k _ _ w1 (hpa.ext .go) (hk.ext .go) hps (by omega)).mono ?_
      rintro _ w2 ⟨i, ok, rfl, hF, hE2⟩
      have hz2 := hE2.size
      obtain rfl | rfl : ok = true ∨ ok = false := by cases ok <;> simp
      · obtain ⟨hdd, hil, hgn⟩ := del_bucket hb.dat hps hF
        have hgs : (getI m k).isSome = true := by cases h : getI m k with | none => exact absurd h hgn | some _ => rfl
        have hsM : singleB (delI m k) = true := singleB_iff.2 fun y hy z hz => singleB_iff.1 hs y (mem_del.1 hy).1 z (mem_del.1 hz).1
        have hpM : ps.length = (delI m k).length + 1 := by
          have := congrArg List.length hdd
          simp only [List.length_map, List.length_append, List.length_take, List.length_drop] at this
          omega
        rw [hgs]
        repeat (first | exact trivial | refine stp ?_ | refine ldCg ?_ | refine ldNg ?_ | refine ldSg ?_ | refine ldSb ?_ | refine bnd ?_ | refine bnd1 ?_ | refine drawQ (by decide +kernel) mixed (by decide +kernel) ?_)
        refine ldCg (hv := by rw [List.getElem?_append_right (by omega), hhl]; rfl) ?_
        repeat (first | exact trivial | refine stp ?_ | refine ldCg ?_ | refine ldNg ?_ | refine ldSg ?_ | refine ldSb ?_ | refine bnd ?_ | refine bnd1 ?_ | refine drawQ (by decide +kernel) mixed (by decide +kernel) ?_)
        refine ⟨fun h1 => ?_, fun h1 => ?_⟩
        · have hM0 : delI m k = [] := List.length_eq_zero_iff.1 (by omega)
          repeat (first | exact trivial | refine stp ?_ | refine ldCg ?_ | refine ldNg ?_ | refine ldSg ?_ | refine ldSb ?_ | refine bnd ?_ | refine bnd1 ?_ | refine drawQ (by decide +kernel) mixed (by decide +kernel) ?_)
          exact ⟨.nilIface, rfl, ⟨fun _ => rfl, fun h => absurd hM0 h⟩, .go⟩
        · have hMne : delI m k ≠ [] := fun h => by rw [h, List.length_nil] at hpM; omega
          have hhd : headD (delI m k) = headD m := by
            obtain ⟨y, hy⟩ := List.exists_mem_of_ne_nil _ hMne
            rw [headD_mem hsM hy, headD_mem hs (mem_del.1 hy).1]
          refine drawX (.of [0, 1, 2, 3, 4, 5, 6, 7, 8, 10, 11, 12, 9, 13, 14, 15, 16, 17]) mixed (by decide +kernel) (fun w3 hE3 hz3 => ?_)
          repeat (first | exact trivial | refine stp ?_ | refine ldCg ?_ | refine ldNg ?_ | refine ldSg ?_ | refine ldSb ?_ | refine bnd ?_ | refine bnd1 ?_ | refine drawQ (by decide +kernel) mixed (by decide +kernel) ?_)
          refine ldSg (v := .agg (vbs (headD m)).toArray) ?_ (by intro w' hw'; refine stp ?_; exact ldNg (m := vbs (headD m)) rfl (hm := by rw [List.drop_zero, List.take_append_of_le_length (by omega), vbs_tk hdl]))
          repeat (first | exact trivial | refine stp ?_ | refine ldCg ?_ | refine ldNg ?_ | refine ldSg ?_ | refine ldSb ?_ | refine bnd ?_ | refine bnd1 ?_ | refine drawQ (by decide +kernel) mixed (by decide +kernel) ?_)
          refine ldSg (v := .slice pa ps.length cp) ?_ (by intro w' hw'; refine stp ?_; exact ldCg rfl (hv := by rw [List.getElem?_append_right (by omega), hhl]; rfl))
          repeat (first | exact trivial | refine stp ?_ | refine ldCg ?_ | refine ldNg ?_ | refine ldSg ?_ | refine ldSb ?_ | refine bnd ?_ | refine bnd1 ?_ | refine drawQ (by decide +kernel) mixed (by decide +kernel) ?_)
          refine (ClnP_ok _ ps.length _ w3 (hpa.1.ext .go) (prc_len ps) hpa.one (by omega)).mono ?_
          rintro v4 w4 ⟨hO4, hE4⟩
          have hz4 := hE4.size
          obtain ⟨a4, c4, rfl⟩ := own_slice hO4
          refine toldK ?_
          rw [show IntKind.i64.wrap ((i : Int) + 1) = ((i + 1 : Nat) : Int) from by rw [w64 (by omega) (by omega)]; omega]
          obtain ⟨q, hq, hqk⟩ := hF.hit.1 rfl
          obtain ⟨_, hie⟩ := List.getElem?_eq_some_iff.1 hq
          have hsp1 : ps.flatMap PR.cells = (ps.take i).flatMap PR.cells ++ (q.cells ++ (ps.drop (i + 1)).flatMap PR.cells) := by
            have h1 : ps = ps.take i ++ (q :: ps.drop (i + 1)) := by rw [← hie]; simp
            have h2 := congrArg (List.flatMap PR.cells) h1
            rwa [List.flatMap_append, List.flatMap_cons] at h2
          have hone := hpa.one
          rw [hsp1] at hO4 hone
          repeat (first | exact trivial | refine stp ?_ | refine ldCg ?_ | refine ldNg ?_ | refine ldSg ?_ | refine ldSb ?_ | refine bnd ?_ | refine bnd1 ?_ | refine drawQ (by decide +kernel) mixed (by decide +kernel) ?_)
          refine (DelP_ok _ q.cells _ i ps.length (by rw [prc_len, List.length_take]; omega) rfl (by rw [prc_len, List.length_drop]; omega) hil (fun v hv => hone v (List.mem_append.2 (Or.inr (List.mem_append.2 (Or.inr hv))))) _ w3.heap.size w4 hO4 (by omega) (by omega)).mono ?_
          rintro v5 w5 ⟨hO5, hE5, _⟩
          have hz5 := hE5.size
          rw [← List.flatMap_append] at hO5
          have hK5 : KeepS S w w5 := KeepS.of_ext Ext.go
          have hps5 : PairsS (fun k => S k ∨ w.heap.size ≤ k) w5 v5 (ps.take i ++ ps.drop (i + 1)) := PairsS.of_own hO5 (fun k h => Or.inr (by omega)) (fun q hq => by
            have hq' : q ∈ ps := (List.mem_append.1 hq).elim List.mem_of_mem_take List.mem_of_mem_drop
            exact ⟨((hb.prs.2 q hq').1.keep hK5).mono (fun k h => Or.inl h), ((hb.prs.2 q hq').2.keep hK5).mono (fun k h => Or.inl h)⟩)
          refine toldK ?_
          obtain ⟨a5, c5, rfl⟩ := own_slice hO5
          repeat (first | exact trivial | refine stp ?_ | refine ldCg ?_ | refine ldNg ?_ | refine ldSg ?_ | refine ldSb ?_ | refine bnd ?_ | refine bnd1 ?_ | refine drawQ (by decide +kernel) mixed (by decide +kernel) ?_)
          refine (pour_ok nn b top (headD m) hdl _ _ w5 (hW.ext .go) .go hps5.at (hOM.bucket_le hdd (by omega))).mono ?_
          rintro _ w6 ⟨g6, rfl, hg6, hB6, hE6⟩
          have hz6 := hE6.size
          refine toldK ?_
          repeat (first | exact trivial | refine stp ?_ | refine ldCg ?_ | refine ldNg ?_ | refine ldSg ?_ | refine ldSb ?_ | refine bnd ?_ | refine bnd1 ?_ | refine drawQ (by decide +kernel) mixed (by decide +kernel) ?_)
          exact ⟨_, rfl, ⟨fun h => absurd h hMne, fun _ => NodeAt.mk_bk hsM (Or.inr (by omega)) hB6 hhd (hps5.keep (KeepS.of_ext hE6)) hdd⟩, .go⟩
      · have hgn := miss_bucket hb.dat hps hF
        repeat (first | exact trivial | refine stp ?_ | refine ldCg ?_ | refine ldNg ?_ | refine ldSg ?_ | refine ldSb ?_ | refine bnd ?_ | refine bnd1 ?_ | refine drawQ (by decide +kernel) mixed (by decide +kernel) ?_)
        refine ⟨bkV b4, ?_, hmiss hgn _ .go, .go⟩
        rw [hgn]
        rfl
    · have hB4 := hb.blk
      have hb4l := hB4.lt
      have hbm := bmI_lt m d
      have hdn := br_depth hs hP (hO.form hw)
      have hfx : formB nn (keyD nn k) = true := by unfold keyD; exact form_sumR nn _ hw
      have hat := atP_dig (by omega) (by omega) hxl hfx hdn
      have hd16 := digP_lt (keyD nn k) d
      have hkv := hb.kids
      obtain ⟨qa, qc, rfl⟩ := slv_of hkv.sl
      have hvl := hb.len
      have hc16 := cnt_le (bmI m d)
      have hgc : getI (childI m d (digP (keyD nn k) d)) k = getI m k := getI_child hO.dig rfl
      refine enterT Tryz.func73 rfl Tryz.ntmps73 Tryz.results73 rfl (by decide) ?_
      repeat (first | exact trivial | refine stp ?_ | refine ldCg ?_ | refine ldNg ?_ | refine ldSg ?_ | refine ldSb ?_ | refine bnd ?_ | refine bnd1 ?_ | refine drawQ (by decide +kernel) mixed (by decide +kernel) ?_)
      first | refine newS ?_ | refine newZ ?_
      intro w1 hE1 hz1 hB1
      repeat (first | exact trivial | refine stp ?_ | refine ldCg ?_ | refine ldNg ?_ | refine ldSg ?_ | refine ldSb ?_ | refine bnd ?_ | refine bnd1 ?_ | refine drawQ (by decide +kernel) mixed (by decide +kernel) ?_)
      refine (digit_hamt_ok nn b top (keyD nn k) hxl d w1 .go).mono ?_
      rintro _ w2 ⟨rfl, hE2⟩
      have hz2 := hE2.size
      rw [hat]
      repeat (first | exact trivial | refine stp ?_ | refine ldCg ?_ | refine ldNg ?_ | refine ldSg ?_ | refine ldSb ?_ | refine bnd ?_ | refine bnd1 ?_ | refine drawQ (by decide +kernel) mixed (by decide +kernel) ?_)
      refine (Has_ok (bmI m d) hbm (digP (keyD nn k) d) w2).mono ?_
      rintro _ w3 ⟨rfl, hE3⟩
      have hz3 := hE3.size
      rw [bmI_has, decide_eq_true hd16, Bool.true_and]
      cases hh : hasI m d (digP (keyD nn k) d)
      · have hgn : getI m k = none := by
          rw [← hgc]
          have e : childI m d (digP (keyD nn k) d) = [] := by unfold hasI at hh; simpa using hh
          rw [e]
          rfl
        repeat (first | exact trivial | refine stp ?_ | refine ldCg ?_ | refine ldNg ?_ | refine ldSg ?_ | refine ldSb ?_ | refine bnd ?_ | refine bnd1 ?_ | refine drawQ (by decide +kernel) mixed (by decide +kernel) ?_)
        refine ⟨brV b4, ?_, hmiss hgn _ .go, .go⟩
        rw [hgn]
        rfl
      · obtain ⟨y, hy, hNy⟩ := hkids _ hh
        have hrl := (List.getElem?_eq_some_iff.1 hy).1
        repeat (first | exact trivial | refine stp ?_ | refine ldCg ?_ | refine ldNg ?_ | refine ldSg ?_ | refine ldSb ?_ | refine bnd ?_ | refine bnd1 ?_ | refine drawQ (by decide +kernel) mixed (by decide +kernel) ?_)
        refine (Rank_ok (bmI m d) hbm (digP (keyD nn k) d) w3).mono ?_
        rintro _ w4 ⟨rfl, hE4⟩
        have hz4 := hE4.size
        obtain ⟨b5, o5, rfl, hR5⟩ := vs_get hkv (by omega)
        repeat (first | exact trivial | refine stp ?_ | refine ldCg ?_ | refine ldNg ?_ | refine ldSg ?_ | refine ldSb ?_ | refine bnd ?_ | refine bnd1 ?_)
        refine drawX (.of [0, 1, 2, 3, 4, 5, 6, 7, 8, 9, 10, 11, 12, 13, 14, 15, 16, 17]) mixed (by decide +kernel) (fun w5 hE5 hz5 => ?_)
        repeat (first | exact trivial | refine stp ?_ | refine ldCg ?_ | refine ldNg ?_ | refine ldSg ?_ | refine ldSb ?_ | refine bnd ?_ | refine bnd1 ?_ | refine drawQ (by decide +kernel) mixed (by decide +kernel) ?_)
        refine ldSg (v := y) ?_ (by intro w' hw'; refine stp ?_; exact ldRowF (f := fun v : Value => [v]) 0 hy rfl)
        repeat (first | exact trivial | refine stp ?_ | refine ldCg ?_ | refine ldNg ?_ | refine ldSg ?_ | refine ldSb ?_ | refine bnd ?_ | refine bnd1 ?_ | refine drawQ (by decide +kernel) mixed (by decide +kernel) ?_)
        rw [show IntKind.i64.wrap ((d : Int) + 1) = ((d + 1 : Nat) : Int) from by rw [w64 (by omega) (by omega)]; omega]
        have hK5 : KeepS S w w5 := KeepS.of_ext Ext.go
        have hcl : (childI m d (digP (keyD nn k) d)).length ≤ m.length := List.length_filter_le _ _
        refine (ih f' (by omega) (d + 1) (childI m d (digP (keyD nn k) d)) y _ w5 (hW.ext .go) .go ⟨fun h => absurd h (child_ne hh), fun _ => hNy.keep hK5⟩ (hO.child _ _) (hP.child _) (hk.ext .go) (by omega) (by omega) (fun k h => by have := hSl k h; omega)).mono ?_
        rintro _ w6 ⟨nv, rfl, hA6, hE6⟩
        have hz6 := hE6.size
        rw [hgc]
        refine toldX ?_
        cases hgs : (getI m k).isSome
        · have hgn : getI m k = none := by cases h : getI m k with | none => rfl | some _ => rw [h] at hgs; cases hgs
          repeat (first | exact trivial | refine stp ?_ | refine ldCg ?_ | refine ldNg ?_ | refine ldSg ?_ | refine ldSb ?_ | refine bnd ?_ | refine bnd1 ?_ | refine drawQ (by decide +kernel) mixed (by decide +kernel) ?_)
          exact ⟨brV b4, rfl, hmiss hgn _ .go, .go⟩
        · repeat (first | exact trivial | refine stp ?_ | refine ldCg ?_ | refine ldNg ?_ | refine ldSg ?_ | refine ldSb ?_ | refine bnd ?_ | refine bnd1 ?_)
          refine drawX (.of [0, 1, 2, 3, 5, 6, 7, 8, 4, 9, 10]) mixed (by decide +kernel) (fun w7 hE7 hz7 => ?_)
          repeat (first | exact trivial | refine stp ?_ | refine ldCg ?_ | refine ldNg ?_ | refine ldSg ?_ | refine ldSb ?_ | refine bnd ?_ | refine bnd1 ?_ | refine drawQ (by decide +kernel) mixed (by decide +kernel) ?_)
          refine (ClnN_ok vs vs.length _ w7 (hkv.sl.ext .go) (by omega) hb.one (by omega)).mono ?_
          rintro v8 w8 ⟨hO8, hE8⟩
          have hz8 := hE8.size
          obtain ⟨a8, c8, rfl⟩ := own_slice hO8
          refine toldX ?_
          repeat (first | exact trivial | refine stq ?_ | refine ldCg ?_ | refine ldNg ?_ | refine ldSg ?_ | refine ldSb ?_ | refine bnd ?_ | refine bnd1 ?_)
          rw [v_seq]
          refine joinX (κ := Option Addr × Nat × List Value) (fun x => [(0, .pointer (some ⟨b, 0, none⟩)), (20, .slice x.1 x.2.2.length x.2.1), (21, .int .u16 (bmI (delI m k) d : Nat))])
            (fun x W => Ext w W ∧ w8.heap.size ≤ W.heap.size ∧ x.2.2.length = cntB (bmI (delI m k) d) ∧ (∀ u ∈ x.2.2, oneCellV u = true) ∧ Own W w7.heap.size 92 1 (.slice x.1 x.2.2.length x.2.1) x.2.2.length x.2.2 ∧
              ∀ c, hasI (delI m k) d c = true → ∃ y, x.2.2[rankB (bmI (delI m k) d) (c : Int)]? = some y ∧ NodeAt nn (fun k => S k ∨ w.heap.size ≤ k) W f' (d + 1) (childI (delI m k) d c) y) ?_ ?_
          · by_cases hM : delI (childI m d (digP (keyD nn k) d)) k = []
            · obtain rfl := hA6.1 hM
              have hvs : vs = vs.take (rankB (bmI m d) (digP (keyD nn k) d : Int)) ++ ([y] ++ vs.drop (rankB (bmI m d) (digP (keyD nn k) d : Int) + 1)) := by rw [← (List.getElem?_eq_some_iff.1 hy).2]; simp
              have hO8' : Own w8 w7.heap.size 92 1 (.slice a8 vs.length c8) vs.length (vs.take (rankB (bmI m d) (digP (keyD nn k) d : Int)) ++ ([y] ++ vs.drop (rankB (bmI m d) (digP (keyD nn k) d : Int) + 1))) := by rw [← hvs]; exact hO8
              repeat (first | exact trivial | refine stp ?_ | refine ldCg ?_ | refine ldNg ?_ | refine ldSg ?_ | refine ldSb ?_ | refine bnd ?_ | refine bnd1 ?_ | refine drawQ (by decide +kernel) mixed (by decide +kernel) ?_)
              rw [show IntKind.i64.wrap ((rankB (bmI m d) (digP (keyD nn k) d : Int) : Int) + 1) = ((rankB (bmI m d) (digP (keyD nn k) d : Int) + 1 : Nat) : Int) from by rw [w64 (by omega) (by omega)]; omega]
              refine (DelN_ok _ [y] _ (rankB (bmI m d) (digP (keyD nn k) d : Int)) vs.length (by rw [List.length_take]; omega) rfl (by rw [List.length_drop]; omega) hrl (fun u hu => hb.one u (List.mem_of_mem_drop hu)) _ w7.heap.size w8 hO8' (by omega) (by omega)).mono ?_
              rintro v9 w9 ⟨hO9, hE9, _⟩
              have hz9 := hE9.size
              obtain ⟨a9, c9, rfl⟩ := own_slice hO9
              repeat (first | exact trivial | refine stp ?_ | refine ldCg ?_ | refine ldNg ?_ | refine ldSg ?_ | refine ldSb ?_ | refine bnd ?_ | refine bnd1 ?_ | refine drawQ (by decide +kernel) mixed (by decide +kernel) ?_)
              refine (Without_ok (bmI m d) hbm (digP (keyD nn k) d) w9).mono ?_
              rintro _ w10 ⟨rfl, hE10⟩
              have hz10 := hE10.size
              rw [bm_del_drop hO hM]
              have hK10 : KeepS S w w10 := KeepS.of_ext Ext.go
              obtain ⟨hcn, hkk⟩ := kids_drop (P := fun l y => NodeAt nn (fun k => S k ∨ w.heap.size ≤ k) w10 f' (d + 1) l y) hO hh hM hvl (fun c hc => by obtain ⟨y, h1, h2⟩ := hkids c hc; exact ⟨y, h1, (h2.keep hK10).mono (fun k h => Or.inl h)⟩)
              have hvs1 : (vs.take (rankB (bmI m d) (digP (keyD nn k) d : Int)) ++ vs.drop (rankB (bmI m d) (digP (keyD nn k) d : Int) + 1)).length = vs.length - 1 := by rw [List.length_append, List.length_take, List.length_drop]; omega
              have h1v : ∀ u ∈ vs.take (rankB (bmI m d) (digP (keyD nn k) d : Int)) ++ vs.drop (rankB (bmI m d) (digP (keyD nn k) d : Int) + 1), oneCellV u = true := fun u hu => (List.mem_append.1 hu).elim (fun h => hb.one u (List.mem_of_mem_take h)) (fun h => hb.one u (List.mem_of_mem_drop h))
              generalize vs.take (rankB (bmI m d) (digP (keyD nn k) d : Int)) ++ vs.drop (rankB (bmI m d) (digP (keyD nn k) d : Int) + 1) = us at *
              rw [← hvs1] at hO9 ⊢
              repeat (first | exact trivial | refine stp ?_ | refine ldCg ?_ | refine ldNg ?_ | refine ldSg ?_ | refine ldSb ?_ | refine bnd ?_ | refine bnd1 ?_ | refine drawQ (by decide +kernel) mixed (by decide +kernel) ?_)
              exact ⟨(a9, c9, us), ⟨.go, by omega, by simp only; omega, h1v, hO9.ext .go, hkk⟩, rfl⟩
            · have hN6 := hA6.2 hM
              obtain ⟨t6, u6, rfl⟩ := hN6.iface
              obtain ⟨g, cap, rest, hge, hg, hBg, hnc, hcm, hln⟩ := hO8.open (by omega)
              obtain ⟨rfl, rfl⟩ : a8 = some ⟨g, 0, none⟩ ∧ c8 = cap := by cases hge; exact ⟨rfl, rfl⟩
              have hsp : vs ++ rest = vs.take (rankB (bmI m d) (digP (keyD nn k) d : Int)) ++ (y :: (vs.drop (rankB (bmI m d) (digP (keyD nn k) d : Int) + 1) ++ rest)) := by
                have h1 := (List.getElem?_eq_some_iff.1 hy).2
                have h2 : vs = vs.take (rankB (bmI m d) (digP (keyD nn k) d : Int)) ++ (y :: vs.drop (rankB (bmI m d) (digP (keyD nn k) d : Int) + 1)) := by rw [← h1]; simp
                rw [← List.cons_append, ← List.append_assoc, ← h2]
              rw [hsp] at hBg
              repeat (first | exact trivial | refine stp ?_ | refine ldCg ?_ | refine ldNg ?_ | refine ldSg ?_ | refine ldSb ?_ | refine bnd ?_ | refine bnd1 ?_ | refine drawQ (by decide +kernel) mixed (by decide +kernel) ?_)
              refine stAt c92 hBg (by rw [List.length_take]; omega) rfl rfl (fun w9 hP9 => ?_)
              have hz9 := hP9.size
              have hB9 := hP9.blk
              have hse : vs.take (rankB (bmI m d) (digP (keyD nn k) d : Int)) ++ (.iface t6 u6 :: (vs.drop (rankB (bmI m d) (digP (keyD nn k) d : Int) + 1) ++ rest)) = vs.set (rankB (bmI m d) (digP (keyD nn k) d : Int)) (.iface t6 u6) ++ rest := by
                rw [List.set_eq_take_append_cons_drop, if_pos hrl, List.append_assoc]
                rfl
              rw [hse] at hB9
              have hK9 : KeepS S w w9 := KeepS.of_ext Ext.go
              have hK89 : KeepS (SLt (fun k => S k ∨ w5.heap.size ≤ k) w6) w8 w9 := KeepS.put hP9 (fun h => by have := h.2; omega)
              have hN9 : NodeAt nn (fun k => S k ∨ w.heap.size ≤ k) w9 f' (d + 1) (delI (childI m d (digP (keyD nn k) d)) k) (.iface t6 u6) := ((hN6.inlt.keep (KeepS.of_ext (hE7.trans' hE8))).keep hK89).mono (fun k h => h.1.imp id (fun h => by omega))
              have hkk := kids_keep (P := fun l y => NodeAt nn (fun k => S k ∨ w.heap.size ≤ k) w9 f' (d + 1) l y) hO hh hM (fun c hc => by obtain ⟨y, h1, h2⟩ := hkids c hc; exact ⟨y, h1, (h2.keep hK9).mono (fun k h => Or.inl h)⟩) hN9
              have h1v : ∀ u ∈ vs.set (rankB (bmI m d) (digP (keyD nn k) d : Int)) (.iface t6 u6), oneCellV u = true := by
                intro u hu
                rcases List.mem_or_eq_of_mem_set hu with hu | rfl
                · exact hb.one u hu
                · rfl
              have hul : (vs.set (rankB (bmI m d) (digP (keyD nn k) d : Int)) (.iface t6 u6)).length = vs.length := List.length_set
              have hO9 : Own w9 w7.heap.size 92 1 (.slice (some ⟨g, 0, none⟩) vs.length c8) vs.length (vs.set (rankB (bmI m d) (digP (keyD nn k) d : Int)) (.iface t6 u6)) := own_mk hB9 hg (by omega) (by rw [List.length_append] at hln; omega) hnc hcm
              generalize vs.set (rankB (bmI m d) (digP (keyD nn k) d : Int)) (.iface t6 u6) = us at *
              rw [← hul] at hO9 ⊢
              have hbk := bm_del_keep hO hM
              repeat (first | exact trivial | refine stp ?_ | refine ldCg ?_ | refine ldNg ?_ | refine ldSg ?_ | refine ldSb ?_ | refine bnd ?_ | refine bnd1 ?_ | refine drawQ (by decide +kernel) mixed (by decide +kernel) ?_)
              exact ⟨(some ⟨g, 0, none⟩, c8, us), ⟨.go, by omega, by simp only; rw [hbk]; omega, h1v, hO9, hkk⟩, rfl, by rw [hbk]⟩
          · rintro ⟨a9, c9, us⟩ s9 w9 ⟨hE9, hz9, hul, h1v, hO9, hkk⟩
            simp only at hul h1v hO9 hkk
            have hMne : delI m k ≠ [] := by
              obtain ⟨y, hy, z, hz, hne⟩ := not_single hs
              intro h0
              have hall : ∀ x ∈ m, x.D = keyD nn k := fun x hx => by
                by_cases hxk : x.k = k
                · rw [hO.dig x hx, hxk]
                · have := mem_del.2 ⟨hx, hxk⟩
                  rw [h0] at this
                  cases this
              exact hne (by rw [hall y hy, hall z hz])
            have hc1 : 0 < cntB (bmI (delI m k) d) := by
              obtain ⟨y, hy⟩ := List.exists_mem_of_ne_nil _ hMne
              have := rank_lt (hasB_of (has_iff.2 ⟨y, hy, rfl⟩ : hasI (delI m k) d (digP y.D d) = true))
              omega
            obtain ⟨g9, cap9, rest9, hge9, hg9, hB9, hnc9, hcm9, hln9⟩ := hO9.open (by omega)
            obtain ⟨rfl, rfl⟩ : a9 = some ⟨g9, 0, none⟩ ∧ c9 = cap9 := by cases hge9; exact ⟨rfl, rfl⟩
            repeat (first | exact trivial | refine stp ?_ | refine ldCg ?_ | refine ldNg ?_ | refine ldSg ?_ | refine ldSb ?_ | refine bnd ?_ | refine bnd1 ?_ | refine drawQ (by decide +kernel) mixed (by decide +kernel) ?_)
            refine ⟨fun h1 => ?_, fun h1 => ?_⟩
            · obtain ⟨c1, hc1, hr1, hce⟩ := one_child (m := delI m k) (d := d) (by omega)
              obtain ⟨y1, hy1, hN1⟩ := hkk c1 hc1
              rw [hr1] at hy1
              rw [hce] at hN1
              refine ⟨by omega, ?_⟩
              refine ldCg (v := y1) ?_ (hv := by rw [List.getElem?_append_left (by omega)]; exact hy1)
              cases hsM : singleB (delI m k)
              · obtain ⟨f'', rfl⟩ : ∃ j, f' = j + 1 := by
                  cases f' with
                  | zero => unfold NodeAt at hN1; rw [hsM] at hN1; cases hN1.1
                  | succ j => exact ⟨j, rfl⟩
                obtain ⟨b10, kv10, vs10, rfl, _⟩ := (NodeAt.br hsM).1 hN1
                repeat (first | exact trivial | refine stp ?_ | refine ldCg ?_ | refine ldNg ?_ | refine ldSg ?_ | refine ldSb ?_ | refine bnd ?_ | refine bnd1 ?_ | refine drawQ (by decide +kernel) mixed (by decide +kernel) ?_)
                refine (fork_ok nn hw _ (f'' + 1) d b top _ us (delI m k) w9 (hW.ext .go) .go (SlC.of_own hO9) h1v hul hkk hOM.sorted hPM (by omega) (by omega)).mono ?_
                rintro _ w10 ⟨g10, rfl, hg10, hB10, hE10⟩
                repeat (first | exact trivial | refine stp ?_ | refine ldCg ?_ | refine ldNg ?_ | refine ldSg ?_ | refine ldSb ?_ | refine bnd ?_ | refine bnd1 ?_ | refine drawQ (by decide +kernel) mixed (by decide +kernel) ?_)
                refine ⟨brV g10, rfl, ⟨fun h => absurd h hMne, fun _ => ?_⟩, .go⟩
                rw [hf']
                exact NodeAt.mk_br hsM (Or.inr (by omega)) hB10 (SlS.of_own (hO9.ext hE10) (fun k h => Or.inr (by omega))) h1v hul (fun c hc => by obtain ⟨y, h1, h2⟩ := hkk c hc; exact ⟨y, h1, h2.ext hE10⟩)
              · obtain ⟨b10, pv10, ps10, rfl, hb10⟩ := (NodeAt.bk hsM).1 hN1
                repeat (first | exact trivial | refine stp ?_ | refine ldCg ?_ | refine ldNg ?_ | refine ldSg ?_ | refine ldSb ?_ | refine bnd ?_ | refine bnd1 ?_ | refine drawQ (by decide +kernel) mixed (by decide +kernel) ?_)
                exact ⟨bkV b10, rfl, ⟨fun h => absurd h hMne, fun _ => (NodeAt.bk hsM).2 ⟨b10, pv10, ps10, rfl, hb10⟩⟩, .go⟩
            · have hsM := two_not_single (m := delI m k) (d := d) (by omega)
              refine (fork_ok nn hw _ f' d b top _ us (delI m k) w9 (hW.ext .go) .go (SlC.of_own hO9) h1v hul hkk hOM.sorted hPM (by omega) (by omega)).mono ?_
              rintro _ w10 ⟨g10, rfl, hg10, hB10, hE10⟩
              repeat (first | exact trivial | refine stp ?_ | refine ldCg ?_ | refine ldNg ?_ | refine ldSg ?_ | refine ldSb ?_ | refine bnd ?_ | refine bnd1 ?_ | refine drawQ (by decide +kernel) mixed (by decide +kernel) ?_)
              refine ⟨brV g10, rfl, ⟨fun h => absurd h hMne, fun _ => ?_⟩, .go⟩
              rw [hf']
              exact NodeAt.mk_br hsM (Or.inr (by omega)) hB10 (SlS.of_own (hO9.ext hE10) (fun k h => Or.inr (by omega))) h1v hul (fun c hc => by obtain ⟨y, h1, h2⟩ := hkk c hc; exact ⟨y, h1, h2.ext hE10⟩)
theorem Delete_hamt_ok (n : Int) (hw : widB n = true) (S : Nat → Prop) (mv kv : Value) (m : List It) (key : List UInt8) (w : World) (hW : WordsAt w 0) (h : MapAt n S w mv m) (hO : OkI n m) (hk : SlB w kv key) (hml : m.length ≤ 900000000) :
    CallK Tryz.prog 39 [mv, kv].toArray w fun r w' => (∃ rv, r = .tuple [rv, .bool (decide (key.length ≤ 64) && (getI m key).isSome), .int .i64 (if 64 < key.length then 2 else 0 : Nat)].toArray ∧
      (64 < key.length → rv = .pointer none) ∧ (¬ 64 < key.length → MapAt n (fun k => S k ∨ w.heap.size ≤ k) w' rv (delI m key))) ∧ Ext w w' := by
  have hM0 := h.inlt
  obtain ⟨b, top, rfl, hS, hB, hT1, hT2⟩ := h
  obtain ⟨b', top', hb', hS', hB', hT1', hT2'⟩ := hM0
  have hwn := (widB_iff n).1 hw
  obtain ⟨nn, rfl⟩ : ∃ nn : Nat, n = nn := ⟨n.toNat, by omega⟩
  obtain ⟨ka, kc, rfl⟩ := slv_of hk
  cases hb'
  obtain rfl : top' = top := by
    have h1 := hB.out
    rw [hB'.out] at h1
    simpa using h1
  refine enterT Tryz.func39 rfl Tryz.ntmps39 Tryz.results39 rfl (by decide) ?_
  repeat (first | exact trivial | refine stp ?_ | refine ldCg ?_ | refine ldNg ?_ | refine ldSg ?_ | refine ldSb ?_ | refine bnd ?_ | refine bnd1 ?_ | refine drawQ (by decide +kernel) mixed (by decide +kernel) ?_)
  refine (check_hamt_ok nn b _ key _ w hW hB hk hw).mono ?_
  rintro _ w1 ⟨D, hDl, rfl, hD, hE1⟩
  have hz1 := hE1.size
  have hbl := hB.lt
  by_cases h64 : 64 < key.length
  · rw [if_pos h64, decide_eq_false (by omega), Bool.false_and]
    repeat (first | exact trivial | refine stp ?_ | refine ldCg ?_ | refine ldNg ?_ | refine ldSg ?_ | refine ldSb ?_ | refine bnd ?_ | refine bnd1 ?_ | refine drawQ (by decide +kernel) mixed (by decide +kernel) ?_)
    first | refine newS ?_ | refine newZ ?_
    intro w2 hE2 hz2 hB2
    repeat (first | exact trivial | refine stp ?_ | refine ldCg ?_ | refine ldNg ?_ | refine ldSg ?_ | refine ldSb ?_ | refine bnd ?_ | refine bnd1 ?_ | refine drawQ (by decide +kernel) mixed (by decide +kernel) ?_)
    exact ⟨⟨_, rfl, fun _ => rfl, fun h => absurd h64 h⟩, .go⟩
  obtain rfl := hD (by omega)
  rw [if_neg h64, decide_eq_true (by omega), Bool.true_and]
  repeat (first | exact trivial | refine stp ?_ | refine ldCg ?_ | refine ldNg ?_ | refine ldSg ?_ | refine ldSb ?_ | refine bnd ?_ | refine bnd1 ?_ | refine drawQ (by decide +kernel) mixed (by decide +kernel) ?_)
  first | refine newS ?_ | refine newZ ?_
  intro w2 hE2 hz2 hB2
  repeat (first | exact trivial | refine stp ?_ | refine ldCg ?_ | refine ldNg ?_ | refine ldSg ?_ | refine ldSb ?_ | refine bnd ?_ | refine bnd1 ?_)
  refine drawX (.of [0, 1, 2, 3, 4, 5, 6, 7, 8, 9, 10, 11, 12]) mixed (by decide +kernel) (fun w3 hE3 hz3 => ?_)
  repeat (first | exact trivial | refine stp ?_ | refine ldCg ?_ | refine ldNg ?_ | refine ldSg ?_ | refine ldSb ?_ | refine bnd ?_ | refine bnd1 ?_ | refine drawQ (by decide +kernel) mixed (by decide +kernel) ?_)
  refine (drop_ok nn hw (SLt S w) b _ key (by omega) 64 0 m _ _ w3 (hW.ext .go) (hB.ext .go) (AtN.ext ⟨hT1', hT2'⟩ .go) hO hO.pre (hk.ext .go) rfl hml (fun k h => by have := h.2; omega)).mono ?_
  rintro _ w4 ⟨nv, rfl, hA4, hE4⟩
  have hz4 := hE4.size
  refine toldX ?_
  have hfin : ∀ {W : World} {g : Nat}, w4.heap.size ≤ g → Ext w4 W → Blk W g 94 [.int .i64 nn, nv] → MapAt nn (fun k => S k ∨ w.heap.size ≤ k) W (.pointer (some ⟨g, 0, none⟩)) (delI m key) := by
    intro W g hg e hBg
    have hA := (hA4.ext e).mono (S' := fun k => S k ∨ w.heap.size ≤ k) (fun k h => h.elim (fun h => Or.inl h.1) (fun h => Or.inr (by omega)))
    exact ⟨g, nv, rfl, Or.inr (by omega), hBg, hA.1, hA.2⟩
  rcases hA4.cases with ⟨_, rfl⟩ | ⟨_, _, b5, _, _, rfl, _⟩ | ⟨_, _, _, b5, _, _, rfl, _⟩
  · repeat (first | exact trivial | refine stp ?_ | refine ldCg ?_ | refine ldNg ?_ | refine ldSg ?_ | refine ldSb ?_ | refine bnd ?_ | refine bnd1 ?_ | refine drawQ (by decide +kernel) mixed (by decide +kernel) ?_)
    refine bldC [.int .i64 nn, .nilIface] (by kernel_rfl) ?_
    repeat (first | exact trivial | refine stp ?_ | refine ldCg ?_ | refine ldNg ?_ | refine ldSg ?_ | refine ldSb ?_ | refine bnd ?_ | refine bnd1 ?_ | refine drawQ (by decide +kernel) mixed (by decide +kernel) ?_)
    first | refine newS ?_ | refine newZ ?_
    intro w5 hE5 hz5 hB5
    repeat (first | exact trivial | refine stp ?_ | refine ldCg ?_ | refine ldNg ?_ | refine ldSg ?_ | refine ldSb ?_ | refine bnd ?_ | refine bnd1 ?_ | refine drawQ (by decide +kernel) mixed (by decide +kernel) ?_)
    exact ⟨⟨_, rfl, fun h => absurd h h64, fun _ => hfin (Nat.le_refl _) hE5 hB5⟩, .go⟩
  · repeat (first | exact trivial | refine stp ?_ | refine ldCg ?_ | refine ldNg ?_ | refine ldSg ?_ | refine ldSb ?_ | refine bnd ?_ | refine bnd1 ?_ | refine drawQ (by decide +kernel) mixed (by decide +kernel) ?_)
    refine bldC [.int .i64 nn, bkV b5] (by kernel_rfl) ?_
    repeat (first | exact trivial | refine stp ?_ | refine ldCg ?_ | refine ldNg ?_ | refine ldSg ?_ | refine ldSb ?_ | refine bnd ?_ | refine bnd1 ?_ | refine drawQ (by decide +kernel) mixed (by decide +kernel) ?_)
    first | refine newS ?_ | refine newZ ?_
    intro w5 hE5 hz5 hB5
    repeat (first | exact trivial | refine stp ?_ | refine ldCg ?_ | refine ldNg ?_ | refine ldSg ?_ | refine ldSb ?_ | refine bnd ?_ | refine bnd1 ?_ | refine drawQ (by decide +kernel) mixed (by decide +kernel) ?_)
    exact ⟨⟨_, rfl, fun h => absurd h h64, fun _ => hfin (Nat.le_refl _) hE5 hB5⟩, .go⟩
  · repeat (first | exact trivial | refine stp ?_ | refine ldCg ?_ | refine ldNg ?_ | refine ldSg ?_ | refine ldSb ?_ | refine bnd ?_ | refine bnd1 ?_ | refine drawQ (by decide +kernel) mixed (by decide +kernel) ?_)
    refine bldC [.int .i64 nn, brV b5] (by kernel_rfl) ?_
    repeat (first | exact trivial | refine stp ?_ | refine ldCg ?_ | refine ldNg ?_ | refine ldSg ?_ | refine ldSb ?_ | refine bnd ?_ | refine bnd1 ?_ | refine drawQ (by decide +kernel) mixed (by decide +kernel) ?_)
    first | refine newS ?_ | refine newZ ?_
    intro w5 hE5 hz5 hB5
    repeat (first | exact trivial | refine stp ?_ | refine ldCg ?_ | refine ldNg ?_ | refine ldSg ?_ | refine ldSb ?_ | refine bnd ?_ | refine bnd1 ?_ | refine drawQ (by decide +kernel) mixed (by decide +kernel) ?_)
    exact ⟨⟨_, rfl, fun h => absurd h h64, fun _ => hfin (Nat.le_refl _) hE5 hB5⟩, .go⟩
end Go.Proofs.YtieaoldoiahgpaaGreatDoor

/-! Lhf -/
namespace Go.Proofs.YtieaoldoiahgpaaGreatDoor
set_option maxRecDepth 100000
open Go Go.RowKit
set_option linter.unusedVariables false
set_option linter.unusedSimpArgs false
set_option maxHeartbeats 4000000
attribute [local irreducible] vcT opsT qT vcOp Q1 vcPure vcLoad vcStore ldC ldN ldD grdT grdQ vc vcOps vcQ hT
attribute [local irreducible] sumR sumP shaP keyD bucketP branchP

/-- A call of a script. -/
structure OpR where
  kind : Int
  frm : Int
  kv : Value
  vv : Value
  k : List UInt8
  v : List UInt8
def OpR.cells (o : OpR) : List Value := [.int .i64 o.kind, .int .i64 o.frm, o.kv, o.vv]
/-- What a Put or a Delete of a script leaves. -/
def chI (n : Int) (m : List It) (o : OpR) : List It := if o.kind = 1 then (if 64 < o.k.length ∨ 256 < o.v.length then m else putI m ⟨keyD n o.k, o.k, o.v⟩) else (if 64 < o.k.length then m else delI m o.k)
end Go.Proofs.YtieaoldoiahgpaaGreatDoor

/-! Hmk -/
namespace Go.Proofs.YtieaoldoiahgpaaGreatDoor
set_option maxRecDepth 100000
open Go Go.RowKit
set_option linter.unusedVariables false
set_option linter.unusedSimpArgs false
set_option maxHeartbeats 1000000
attribute [local irreducible] vcT opsT qT vcOp Q1 vcPure vcLoad vcStore ldC ldN ldD grdT grdQ vc vcOps vcQ hT
attribute [local irreducible] sumR sumP shaP keyD bucketP branchP

theorem check_nil (kv : Value) (w : World) :
    CallK Tryz.prog 46 [.pointer none, kv].toArray w fun r w' => r = .tuple [.agg (vbs (List.replicate 32 0)).toArray, .int .i64 5].toArray ∧ Ext w w' := by
  refine enterT Tryz.func46 rfl Tryz.ntmps46 Tryz.results46 rfl (by decide) ?_
  repeat (first | exact trivial | refine stp ?_ | refine ldCg ?_ | refine ldNg ?_ | refine ldSg ?_ | refine ldSb ?_ | refine bnd ?_ | refine bnd1 ?_ | refine drawQ (by decide +kernel) mixed (by decide +kernel) ?_)
  first | refine newS ?_ | refine newZ ?_
  intro w1 hE1 hz1 hB1
  refine bldC (List.replicate 32 (.int .u8 0)) (by kernel_rfl) ?_
  rw [vbs_rep]
  repeat (first | exact trivial | refine stp ?_ | refine ldCg ?_ | refine ldNg ?_ | refine ldSg ?_ | refine ldSb ?_ | refine bnd ?_ | refine bnd1 ?_ | refine drawQ (by decide +kernel) mixed (by decide +kernel) ?_)
  refine stW ?_
  intro w2 hP2 hz2 hB2
  repeat (first | exact trivial | refine stp ?_ | refine ldCg ?_ | refine ldNg ?_ | refine ldSg ?_ | refine ldSb ?_ | refine bnd ?_ | refine bnd1 ?_ | refine drawQ (by decide +kernel) mixed (by decide +kernel) ?_)
  exact ⟨by rw [vbs_tk (by simp)], .go⟩
theorem Get_nil (kv : Value) (w : World) :
    CallK Tryz.prog 22 [.pointer none, kv].toArray w fun r w' => r = .tuple [.slice none 0 0, .bool false, .int .i64 5].toArray ∧ Ext w w' := by
  refine enterT Tryz.func22 rfl Tryz.ntmps22 Tryz.results22 rfl (by decide) ?_
  repeat (first | exact trivial | refine stp ?_ | refine ldCg ?_ | refine ldNg ?_ | refine ldSg ?_ | refine ldSb ?_ | refine bnd ?_ | refine bnd1 ?_ | refine drawQ (by decide +kernel) mixed (by decide +kernel) ?_)
  refine (check_nil kv w).mono ?_
  rintro _ w1 ⟨rfl, hE1⟩
  have hz1 := hE1.size
  repeat (first | exact trivial | refine stp ?_ | refine ldCg ?_ | refine ldNg ?_ | refine ldSg ?_ | refine ldSb ?_ | refine bnd ?_ | refine bnd1 ?_ | refine drawQ (by decide +kernel) mixed (by decide +kernel) ?_)
  first | refine newS ?_ | refine newZ ?_
  intro w2 hE2 hz2 hB2
  repeat (first | exact trivial | refine stp ?_ | refine ldCg ?_ | refine ldNg ?_ | refine ldSg ?_ | refine ldSb ?_ | refine bnd ?_ | refine bnd1 ?_ | refine drawQ (by decide +kernel) mixed (by decide +kernel) ?_)
  exact .go
theorem Put_nil (kv vv : Value) (w : World) :
    CallK Tryz.prog 30 [.pointer none, kv, vv].toArray w fun r w' => r = .tuple [.pointer none, .int .i64 5].toArray ∧ Ext w w' := by
  refine enterT Tryz.func30 rfl Tryz.ntmps30 Tryz.results30 rfl (by decide) ?_
  repeat (first | exact trivial | refine stp ?_ | refine ldCg ?_ | refine ldNg ?_ | refine ldSg ?_ | refine ldSb ?_ | refine bnd ?_ | refine bnd1 ?_ | refine drawQ (by decide +kernel) mixed (by decide +kernel) ?_)
  refine (check_nil kv w).mono ?_
  rintro _ w1 ⟨rfl, hE1⟩
  have hz1 := hE1.size
  repeat (first | exact trivial | refine stp ?_ | refine ldCg ?_ | refine ldNg ?_ | refine ldSg ?_ | refine ldSb ?_ | refine bnd ?_ | refine bnd1 ?_ | refine drawQ (by decide +kernel) mixed (by decide +kernel) ?_)
  first | refine newS ?_ | refine newZ ?_
  intro w2 hE2 hz2 hB2
  repeat (first | exact trivial | refine stp ?_ | refine ldCg ?_ | refine ldNg ?_ | refine ldSg ?_ | refine ldSb ?_ | refine bnd ?_ | refine bnd1 ?_ | refine drawQ (by decide +kernel) mixed (by decide +kernel) ?_)
  exact .go
theorem Delete_nil (kv : Value) (w : World) :
    CallK Tryz.prog 39 [.pointer none, kv].toArray w fun r w' => r = .tuple [.pointer none, .bool false, .int .i64 5].toArray ∧ Ext w w' := by
  refine enterT Tryz.func39 rfl Tryz.ntmps39 Tryz.results39 rfl (by decide) ?_
  repeat (first | exact trivial | refine stp ?_ | refine ldCg ?_ | refine ldNg ?_ | refine ldSg ?_ | refine ldSb ?_ | refine bnd ?_ | refine bnd1 ?_ | refine drawQ (by decide +kernel) mixed (by decide +kernel) ?_)
  refine (check_nil kv w).mono ?_
  rintro _ w1 ⟨rfl, hE1⟩
  have hz1 := hE1.size
  repeat (first | exact trivial | refine stp ?_ | refine ldCg ?_ | refine ldNg ?_ | refine ldSg ?_ | refine ldSb ?_ | refine bnd ?_ | refine bnd1 ?_ | refine drawQ (by decide +kernel) mixed (by decide +kernel) ?_)
  first | refine newS ?_ | refine newZ ?_
  intro w2 hE2 hz2 hB2
  repeat (first | exact trivial | refine stp ?_ | refine ldCg ?_ | refine ldNg ?_ | refine ldSg ?_ | refine ldSb ?_ | refine bnd ?_ | refine bnd1 ?_ | refine drawQ (by decide +kernel) mixed (by decide +kernel) ?_)
  exact .go
theorem Walk_nil (kv : Value) (w : World) :
    CallK Tryz.prog 14 [.pointer none, kv].toArray w fun r w' => r = .tuple [.slice none 0 0, .slice none 0 0, .int .i64 5].toArray ∧ Ext w w' := by
  refine enterT Tryz.func14 rfl Tryz.ntmps14 Tryz.results14 rfl (by decide) ?_
  repeat (first | exact trivial | refine stp ?_ | refine ldCg ?_ | refine ldNg ?_ | refine ldSg ?_ | refine ldSb ?_ | refine bnd ?_ | refine bnd1 ?_ | refine drawQ (by decide +kernel) mixed (by decide +kernel) ?_)
  refine (check_nil kv w).mono ?_
  rintro _ w1 ⟨rfl, hE1⟩
  have hz1 := hE1.size
  repeat (first | exact trivial | refine stp ?_ | refine ldCg ?_ | refine ldNg ?_ | refine ldSg ?_ | refine ldSb ?_ | refine bnd ?_ | refine bnd1 ?_ | refine drawQ (by decide +kernel) mixed (by decide +kernel) ?_)
  first | refine newS ?_ | refine newZ ?_
  intro w2 hE2 hz2 hB2
  repeat (first | exact trivial | refine stp ?_ | refine ldCg ?_ | refine ldNg ?_ | refine ldSg ?_ | refine ldSb ?_ | refine bnd ?_ | refine bnd1 ?_ | refine drawQ (by decide +kernel) mixed (by decide +kernel) ?_)
  exact .go
theorem Width_nil (w : World) :
    CallK Tryz.prog 44 [.pointer none].toArray w fun r w' => r = .int .i64 0 ∧ Ext w w' := by
  refine enterT Tryz.func44 rfl Tryz.ntmps44 Tryz.results44 rfl (by decide) ?_
  repeat (first | exact trivial | refine stp ?_ | refine ldCg ?_ | refine ldNg ?_ | refine ldSg ?_ | refine ldSb ?_ | refine bnd ?_ | refine bnd1 ?_ | refine drawQ (by decide +kernel) mixed (by decide +kernel) ?_)
  exact Ext.rfl' _
theorem Len_nil (w : World) :
    CallK Tryz.prog 41 [.pointer none].toArray w fun r w' => r = .int .i64 0 ∧ Ext w w' := by
  refine enterT Tryz.func41 rfl Tryz.ntmps41 Tryz.results41 rfl (by decide) ?_
  repeat (first | exact trivial | refine stp ?_ | refine ldCg ?_ | refine ldNg ?_ | refine ldSg ?_ | refine ldSb ?_ | refine bnd ?_ | refine bnd1 ?_ | refine drawQ (by decide +kernel) mixed (by decide +kernel) ?_)
  exact Ext.rfl' _
theorem Root_nil (w : World) :
    CallK Tryz.prog 20 [.pointer none].toArray w fun r w' => r = .agg (vbs (List.replicate 32 0)).toArray ∧ Ext w w' := by
  refine enterT Tryz.func20 rfl Tryz.ntmps20 Tryz.results20 rfl (by decide) ?_
  repeat (first | exact trivial | refine stp ?_ | refine ldCg ?_ | refine ldNg ?_ | refine ldSg ?_ | refine ldSb ?_ | refine bnd ?_ | refine bnd1 ?_ | refine drawQ (by decide +kernel) mixed (by decide +kernel) ?_)
  first | refine newS ?_ | refine newZ ?_
  intro w1 hE1 hz1 hB1
  refine bldC (List.replicate 32 (.int .u8 0)) (by kernel_rfl) ?_
  rw [vbs_rep]
  repeat (first | exact trivial | refine stp ?_ | refine ldCg ?_ | refine ldNg ?_ | refine ldSg ?_ | refine ldSb ?_ | refine bnd ?_ | refine bnd1 ?_ | refine drawQ (by decide +kernel) mixed (by decide +kernel) ?_)
  refine stW ?_
  intro w2 hP2 hz2 hB2
  repeat (first | exact trivial | refine stp ?_ | refine ldCg ?_ | refine ldNg ?_ | refine ldSg ?_ | refine ldSb ?_ | refine bnd ?_ | refine bnd1 ?_ | refine drawQ (by decide +kernel) mixed (by decide +kernel) ?_)
  exact ⟨by rw [vbs_tk (by simp)], .go⟩
theorem Pairs_nil (w : World) :
    CallK Tryz.prog 33 [.pointer none].toArray w fun r w' => r = .slice none 0 0 ∧ Ext w w' := by
  refine enterT Tryz.func33 rfl Tryz.ntmps33 Tryz.results33 rfl (by decide) ?_
  repeat (first | exact trivial | refine stp ?_ | refine ldCg ?_ | refine ldNg ?_ | refine ldSg ?_ | refine ldSb ?_ | refine bnd ?_ | refine bnd1 ?_ | refine drawQ (by decide +kernel) mixed (by decide +kernel) ?_)
  first | refine newS ?_ | refine newZ ?_
  intro w1 hE1 hz1 hB1
  first | refine newS ?_ | refine newZ ?_
  intro w2 hE2 hz2 hB2
  have hB2' : Blk w2 w1.heap.size 120 [.nilFunc] := hB2
  clear hB2
  refine stC ?_
  intro w3 hP3 hz3 hB3
  repeat (first | exact trivial | refine stp ?_ | refine ldCg ?_ | refine ldNg ?_ | refine ldSg ?_ | refine ldSb ?_ | refine bnd ?_ | refine bnd1 ?_ | refine drawQ (by decide +kernel) mixed (by decide +kernel) ?_)
  exact .go
end Go.Proofs.YtieaoldoiahgpaaGreatDoor

/-! Lhj -/
namespace Go.Proofs.YtieaoldoiahgpaaGreatDoor
set_option maxRecDepth 100000
open Go Go.RowKit
set_option linter.unusedVariables false
set_option linter.unusedSimpArgs false
set_option maxHeartbeats 4000000
attribute [local irreducible] vcT opsT qT vcOp Q1 vcPure vcLoad vcStore ldC ldN ldD grdT grdQ vc vcOps vcQ hT
attribute [local irreducible] sumR sumP shaP keyD bucketP branchP

theorem mkB (n : Nat) (hn : n ≤ 100000) {w : World} {K : Value → World → Prop} (hK : ∀ w' xs, xs.length = n → Ext w w' → w'.heap.size = w.heap.size + 1 → SlB w' (.slice (some ⟨w.heap.size, 0, none⟩) n n) xs → K (.slice (some ⟨w.heap.size, 0, none⟩) n n) w') : RawMake Tryz.prog 23 (.int .i64 n) (.int .i64 n) w K := by
  obtain ⟨xs, hx, hl⟩ : ∃ xs : List UInt8, List.replicate n (Value.int .u8 0) = vbs xs ∧ xs.length = n := ⟨List.replicate n 0, vbs_rep _, by simp⟩
  refine mkS (l := n) (c := n) Tryz.underlying23 z5 rfl c5 (Nat.le_refl _) (by rw [by5]; omega) (by omega) (fun w' hN => hK w' xs hl hN.ext hN.size ?_)
  have hB := hN.blk
  rw [hx] at hB
  have := SlC.of_blk hB (n := xs.length) (by omega)
  rw [hl] at this
  show SlC w' _ xs.length (vbs xs)
  rw [hl]
  exact this
theorem Fixed_ok (w : World) (hW : WordsAt w 0) :
    CallK Tryz.prog 10 [].toArray w fun v w' => v = .bool true ∧ Ext w w' := by
  have hw1 : widB 1 = true := by decide
  have hw1' : widB ((1 : Nat) : Int) = true := by decide
  refine enterT Tryz.func10 rfl Tryz.ntmps10 Tryz.results10 rfl (by decide) ?_
  repeat (first | exact trivial | refine stp ?_ | refine ldCg ?_ | refine ldNg ?_ | refine ldSg ?_ | refine ldSb ?_ | refine bnd ?_ | refine bnd1 ?_ | refine drawQ (by decide +kernel) mixed (by decide +kernel) ?_)
  refine (awake14_ok w hW).mono ?_
  rintro _ w1 ⟨rfl, hE1⟩
  have hz1 := hE1.size
  repeat (first | exact trivial | refine stp ?_ | refine ldCg ?_ | refine ldNg ?_ | refine ldSg ?_ | refine ldSb ?_ | refine bnd ?_ | refine bnd1 ?_ | refine drawQ (by decide +kernel) mixed (by decide +kernel) ?_)
  refine ⟨rfl, ⟨rfl, rfl, rfl⟩, ?_⟩
  first | refine newS ?_ | refine newZ ?_
  intro w2 hE2 hz2 hB2
  repeat (first | exact trivial | refine stp ?_ | refine ldCg ?_ | refine ldNg ?_ | refine ldSg ?_ | refine ldSb ?_ | refine bnd ?_ | refine bnd1 ?_ | refine drawQ (by decide +kernel) mixed (by decide +kernel) ?_)
  refine loopX (ι := Nat) (fun i => [(25, .slice (some ⟨w1.heap.size, 0, none⟩) 3 3), (26, .int .i64 3), (27, .int .i64 i)]) (fun i W => Ext w2 W ∧ i ≤ 3) (fun i => 3 - i) 0 ⟨.go, Nat.zero_le _⟩ ?_ ?_
  · repeat (first | exact trivial | refine stp ?_ | refine ldCg ?_ | refine ldNg ?_ | refine ldSg ?_ | refine ldSb ?_ | refine bnd ?_ | refine bnd1 ?_ | refine drawQ (by decide +kernel) mixed (by decide +kernel) ?_)
  · rintro i s3 w3 ⟨hE3, hi⟩
    have hz3 := hE3.size
    repeat (first | exact trivial | refine stp ?_ | refine ldCg ?_ | refine ldNg ?_ | refine ldSg ?_ | refine ldSb ?_ | refine bnd ?_ | refine bnd1 ?_ | refine drawQ (by decide +kernel) mixed (by decide +kernel) ?_)
    refine ⟨fun hlt => ?_, fun hge => ?_⟩
    · repeat (first | exact trivial | refine stp ?_ | refine ldCg ?_ | refine ldNg ?_ | refine ldSg ?_ | refine ldSb ?_ | refine bnd ?_ | refine bnd1 ?_ | refine drawQ (by decide +kernel) mixed (by decide +kernel) ?_)
      have hx : ∃ x : Int, ([.int .i64 0, .int .i64 33, .int .i64 (-1)] : List Value)[i]? = some (.int .i64 x) ∧ widB x = false := by
        rcases (by omega : i = 0 ∨ i = 1 ∨ i = 2) with rfl | rfl | rfl
        · exact ⟨0, rfl, by decide⟩
        · exact ⟨33, rfl, by decide⟩
        · exact ⟨-1, rfl, by decide⟩
      obtain ⟨x, hx1, hx2⟩ := hx
      refine ldCg (v := .int .i64 x) ?_ (hv := by simpa using hx1)
      repeat (first | exact trivial | refine stp ?_ | refine ldCg ?_ | refine ldNg ?_ | refine ldSg ?_ | refine ldSb ?_ | refine bnd ?_ | refine bnd1 ?_ | refine drawQ (by decide +kernel) mixed (by decide +kernel) ?_)
      refine (New_hamt_ok x w3).mono ?_
      rintro _ w4 ⟨hN0, _, hE4⟩
      have hz4 := hE4.size
      obtain rfl := hN0 hx2
      repeat (first | exact trivial | refine stp ?_ | refine ldCg ?_ | refine ldNg ?_ | refine ldSg ?_ | refine ldSb ?_ | refine bnd ?_ | refine bnd1 ?_ | refine drawQ (by decide +kernel) mixed (by decide +kernel) ?_)
      exact ⟨i + 1, ⟨.go, by omega⟩, by rw [w64 (by omega) (by omega)]; rfl, by omega⟩
    · repeat (first | exact trivial | refine stp ?_ | refine ldCg ?_ | refine ldNg ?_ | refine ldSg ?_ | refine ldSb ?_ | refine bnd ?_ | refine bnd1 ?_ | refine drawQ (by decide +kernel) mixed (by decide +kernel) ?_)
      refine (New_hamt_ok 1 w3).mono ?_
      rintro _ w4 ⟨_, hN1, hE4⟩
      have hz4 := hE4.size
      obtain ⟨mv, rfl, hM⟩ := hN1 hw1
      obtain ⟨b4, rfl⟩ : ∃ b, mv = .pointer (some ⟨b, 0, none⟩) := by obtain ⟨b, _, rfl, _⟩ := hM; exact ⟨b, rfl⟩
      repeat (first | exact trivial | refine stp ?_ | refine ldCg ?_ | refine ldNg ?_ | refine ldSg ?_ | refine ldSb ?_ | refine bnd ?_ | refine bnd1 ?_ | refine drawQ (by decide +kernel) mixed (by decide +kernel) ?_)
      refine (Len_hamt_ok 1 _ _ [] w4 hM (by simp)).mono ?_
      rintro _ w5 ⟨rfl, hE5⟩
      have hz5 := hE5.size
      rw [show (([] : List It).length : Int) = 0 from rfl]
      repeat (first | exact trivial | refine stp ?_ | refine ldCg ?_ | refine ldNg ?_ | refine ldSg ?_ | refine ldSb ?_ | refine bnd ?_ | refine bnd1 ?_ | refine drawQ (by decide +kernel) mixed (by decide +kernel) ?_)
      refine (Root_hamt_ok 1 _ _ [] w5 (hW.ext .go) (hM.ext .go) (by simp)).mono ?_
      rintro _ w6 ⟨rfl, hE6⟩
      have hz6 := hE6.size
      repeat (first | exact trivial | refine stp ?_ | refine ldCg ?_ | refine ldNg ?_ | refine ldSg ?_ | refine ldSb ?_ | refine bnd ?_ | refine bnd1 ?_ | refine drawQ (by decide +kernel) mixed (by decide +kernel) ?_)
      refine (RNoMap_ok 1 (by decide) w6).mono ?_
      rintro _ w7 ⟨rfl, hE7⟩
      have hz7 := hE7.size
      have hr0 : rootD 1 [] = sumR 1 [5] := rfl
      have hr1 : sumP 1 [5] = sumR 1 [5] := (sumR_P (m := 1) (by decide) (by decide) [5]).symm
      have hrl := sumR_len 1 [5]
      rw [hr0, hr1]
      repeat (first | exact trivial | refine stp ?_ | refine ldCg ?_ | refine ldNg ?_ | refine ldSg ?_ | refine ldSb ?_ | refine bnd ?_ | refine bnd1 ?_ | refine drawQ (by decide +kernel) mixed (by decide +kernel) ?_)
      refine eqd_lit _ _ _ _ _ _ Tryz.underlying5 c5 hrl hrl ?_
      rw [decide_eq_true (rfl : sumR 1 [5] = sumR 1 [5])]
      repeat (first | exact trivial | refine stp ?_ | refine ldCg ?_ | refine ldNg ?_ | refine ldSg ?_ | refine ldSb ?_ | refine bnd ?_ | refine bnd1 ?_ | refine drawQ (by decide +kernel) mixed (by decide +kernel) ?_)
      refine (Pairs_hamt_ok 1 hw1 _ _ [] w7 (hM.ext .go) (OkI.nil 1) (by simp)).mono ?_
      rintro v8 w8 ⟨qs8, hO8, _, hd8, hE8⟩
      have hz8 := hE8.size
      have hq8 : qs8.length = 0 := by have := congrArg List.length hd8; simpa using this
      obtain ⟨qa8, qc8, rfl⟩ := own_slice hO8
      clear hO8
      rw [hq8]
      repeat (first | exact trivial | refine stp ?_ | refine ldCg ?_ | refine ldNg ?_ | refine ldSg ?_ | refine ldSb ?_ | refine bnd ?_ | refine bnd1 ?_ | refine drawQ (by decide +kernel) mixed (by decide +kernel) ?_)
      refine ⟨rfl, rfl, convN (xs := [120]) rfl rfl (by decide) (fun w9 hE9 hz9 hS9 => ?_)⟩
      repeat (first | exact trivial | refine stp ?_ | refine ldCg ?_ | refine ldNg ?_ | refine ldSg ?_ | refine ldSb ?_ | refine bnd ?_ | refine bnd1 ?_ | refine drawQ (by decide +kernel) mixed (by decide +kernel) ?_)
      refine (Delete_hamt_ok 1 hw1 _ _ _ [] [120] w9 (hW.ext .go) (hM.ext .go) (OkI.nil 1) hS9 (by simp)).mono ?_
      rintro _ w10 ⟨⟨rv, rfl, _, hr2⟩, hE10⟩
      have hz10 := hE10.size
      have hM10 : MapAt 1 _ w10 rv [] := hr2 (by decide)
      clear hr2
      obtain ⟨b10, rfl⟩ : ∃ b, rv = .pointer (some ⟨b, 0, none⟩) := by obtain ⟨b, _, rfl, _⟩ := hM10; exact ⟨b, rfl⟩
      rw [if_neg (by decide), show (decide (([120] : List UInt8).length ≤ 64) && (getI [] [120]).isSome) = false from rfl]
      repeat (first | exact trivial | refine stp ?_ | refine ldCg ?_ | refine ldNg ?_ | refine ldSg ?_ | refine ldSb ?_ | refine bnd ?_ | refine bnd1 ?_ | refine drawQ (by decide +kernel) mixed (by decide +kernel) ?_)
      refine ⟨rfl, rfl, convN (xs := [120]) rfl rfl (by decide) (fun w11 hE11 hz11 hS11 => ?_)⟩
      repeat (first | exact trivial | refine stp ?_ | refine ldCg ?_ | refine ldNg ?_ | refine ldSg ?_ | refine ldSb ?_ | refine bnd ?_ | refine bnd1 ?_ | refine drawQ (by decide +kernel) mixed (by decide +kernel) ?_)
      refine (Walk_hamt_ok 1 hw1 _ _ _ [] [120] w11 (hW.ext .go) (hM.ext .go) (OkI.nil 1) hS11 (by simp)).mono ?_
      rintro _ w12 ⟨sv, qv, tt, qs, rfl, hOs, _, hOq, _, htt, hqq, hE12⟩
      have hz12 := hE12.size
      rw [if_neg (by decide), walkI_single _ _ _ _ rfl] at htt hqq
      have e1 : tt.length = 0 := by have := congrArg List.length htt; simpa using this
      have e2 : qs.length = 0 := by have := congrArg List.length hqq; simpa using this
      obtain ⟨sa, sc, rfl⟩ := own_slice hOs
      obtain ⟨qa, qc, rfl⟩ := own_slice hOq
      clear hOs hOq
      rw [e1, e2, if_neg (by decide)]
      repeat (first | exact trivial | refine stp ?_ | refine ldCg ?_ | refine ldNg ?_ | refine ldSg ?_ | refine ldSb ?_ | refine bnd ?_ | refine bnd1 ?_ | refine drawQ (by decide +kernel) mixed (by decide +kernel) ?_)
      refine (Root_hamt_ok 1 _ _ [] w12 (hW.ext .go) (hM10.ext .go) (by simp)).mono ?_
      rintro _ w13 ⟨rfl, hE13⟩
      have hz13 := hE13.size
      rw [hr0]
      repeat (first | exact trivial | refine stp ?_ | refine ldCg ?_ | refine ldNg ?_ | refine ldSg ?_ | refine ldSb ?_ | refine bnd ?_ | refine bnd1 ?_ | refine drawQ (by decide +kernel) mixed (by decide +kernel) ?_)
      refine (Root_hamt_ok 1 _ _ [] w13 (hW.ext .go) (hM.ext .go) (by simp)).mono ?_
      rintro _ w14 ⟨rfl, hE14⟩
      have hz14 := hE14.size
      rw [hr0]
      repeat (first | exact trivial | refine stp ?_ | refine ldCg ?_ | refine ldNg ?_ | refine ldSg ?_ | refine ldSb ?_ | refine bnd ?_ | refine bnd1 ?_ | refine drawQ (by decide +kernel) mixed (by decide +kernel) ?_)
      refine eqd_lit _ _ _ _ _ _ Tryz.underlying5 c5 hrl hrl ?_
      rw [decide_eq_true (rfl : sumR 1 [5] = sumR 1 [5])]
      repeat (first | exact trivial | refine stp ?_ | refine ldCg ?_ | refine ldNg ?_ | refine ldSg ?_ | refine ldSb ?_ | refine bnd ?_ | refine bnd1 ?_ | refine drawQ (by decide +kernel) mixed (by decide +kernel) ?_)
      refine mkB 65 (by decide) (fun w15 x15 hx15 hE15 hz15 hS15 => ?_)
      repeat (first | exact trivial | refine stp ?_ | refine ldCg ?_ | refine ldNg ?_ | refine ldSg ?_ | refine ldSb ?_ | refine bnd ?_ | refine bnd1 ?_ | refine drawQ (by decide +kernel) mixed (by decide +kernel) ?_)
      refine (Put_hamt_ok 1 hw1 _ _ _ _ [] _ [] w15 (hW.ext .go) (hM.ext .go) (OkI.nil 1) hS15 ⟨none, 0, rfl, Nat.le_refl _, by decide, Or.inl rfl⟩ (by simp)).mono ?_
      rintro _ w16 ⟨⟨rv, rfl, _, _⟩, hE16⟩
      have hz16 := hE16.size
      rw [if_pos (Or.inl (by omega))]
      repeat (first | exact trivial | refine stp ?_ | refine ldCg ?_ | refine ldNg ?_ | refine ldSg ?_ | refine ldSb ?_ | refine bnd ?_ | refine bnd1 ?_ | refine drawQ (by decide +kernel) mixed (by decide +kernel) ?_)
      refine mkB 257 (by decide) (fun w17 x17 hx17 hE17 hz17 hS17 => ?_)
      repeat (first | exact trivial | refine stp ?_ | refine ldCg ?_ | refine ldNg ?_ | refine ldSg ?_ | refine ldSb ?_ | refine bnd ?_ | refine bnd1 ?_ | refine drawQ (by decide +kernel) mixed (by decide +kernel) ?_)
      refine (Put_hamt_ok 1 hw1 _ _ (.slice none 0 0) _ [] [] _ w17 (hW.ext .go) (hM.ext .go) (OkI.nil 1) ⟨none, 0, rfl, Nat.le_refl _, by decide, Or.inl rfl⟩ hS17 (by simp)).mono ?_
      rintro _ w18 ⟨⟨rv', rfl, _, _⟩, hE18⟩
      have hz18 := hE18.size
      rw [if_pos (Or.inr (by omega))]
      repeat (first | exact trivial | refine stq ?_ | refine ldCg ?_ | refine ldNg ?_ | refine ldSg ?_ | refine ldSb ?_ | refine bnd ?_ | refine bnd1 ?_)
      rw [v_seq]
      refine joinX (κ := Nat × List It) (fun x => [(5, .pointer (some ⟨b4, 0, none⟩)), (6, .int .i64 2), (7, .pointer (some ⟨x.1, 0, none⟩)), (11, .int .i64 2), (12, .int .i64 0)])
        (fun x W => Ext w18 W ∧ MapAt 1 (fun _ => True) W (.pointer (some ⟨x.1, 0, none⟩)) x.2 ∧ OkI 1 x.2 ∧ x.2.length = 1) ?_ ?_
      · repeat (first | exact trivial | refine stp ?_ | refine ldCg ?_ | refine ldNg ?_ | refine ldSg ?_ | refine ldSb ?_ | refine bnd ?_ | refine bnd1 ?_)
        refine drawX (Ord.pre [0] (.two 1 2 (Ord.of [2, 3, 4, 5, 6, 7, 8]) (Ord.of [1, 3, 4, 5, 6, 7, 8]))) mixed (by decide +kernel) (fun w19 hE19 hz19 => ?_)
        repeat (first | exact trivial | refine stp ?_ | refine ldCg ?_ | refine ldNg ?_ | refine ldSg ?_ | refine ldSb ?_ | refine bnd ?_ | refine bnd1 ?_ | refine drawQ (by decide +kernel) mixed (by decide +kernel) ?_)
        refine ⟨?_, ?_⟩
        · refine mkB 64 (by decide) (fun w20 xA hxA hE20 hz20 hSA => ?_)
          refine toldX ?_
          repeat (first | exact trivial | refine stp ?_ | refine ldCg ?_ | refine ldNg ?_ | refine ldSg ?_ | refine ldSb ?_ | refine bnd ?_ | refine bnd1 ?_ | refine drawQ (by decide +kernel) mixed (by decide +kernel) ?_)
          refine mkB 256 (by decide) (fun w21 xB hxB hE21 hz21 hSB => ?_)
          refine toldX ?_
          repeat (first | exact trivial | refine stp ?_ | refine ldCg ?_ | refine ldNg ?_ | refine ldSg ?_ | refine ldSb ?_ | refine bnd ?_ | refine bnd1 ?_ | refine drawQ (by decide +kernel) mixed (by decide +kernel) ?_)
          refine (Put_hamt_ok 1 hw1 _ _ _ _ [] xA xB w21 (hW.ext .go) (hM.ext .go) (OkI.nil 1) (hSA.ext .go) hSB (by simp)).mono ?_
          rintro _ w22 ⟨⟨rv, rfl, _, hr2⟩, hE22⟩
          have hz22 := hE22.size
          have hc : ¬ (64 < xA.length ∨ 256 < xB.length) := by omega
          have hM22 := hr2 hc
          obtain ⟨b22, rfl⟩ : ∃ b, rv = .pointer (some ⟨b, 0, none⟩) := by obtain ⟨b, _, rfl, _⟩ := hM22; exact ⟨b, rfl⟩
          rw [if_neg hc]
          refine toldX ?_
          repeat (first | exact trivial | refine stp ?_ | refine ldCg ?_ | refine ldNg ?_ | refine ldSg ?_ | refine ldSb ?_ | refine bnd ?_ | refine bnd1 ?_ | refine drawQ (by decide +kernel) mixed (by decide +kernel) ?_)
          exact ⟨(b22, putI [] ⟨keyD 1 xA, xA, xB⟩), ⟨.go, hM22.mono (fun _ _ => trivial), (OkI.nil 1).put rfl ⟨by simp only; omega, by simp only; omega⟩, rfl⟩, rfl⟩
        · refine mkB 256 (by decide) (fun w20 xA hxA hE20 hz20 hSA => ?_)
          refine toldX ?_
          repeat (first | exact trivial | refine stp ?_ | refine ldCg ?_ | refine ldNg ?_ | refine ldSg ?_ | refine ldSb ?_ | refine bnd ?_ | refine bnd1 ?_ | refine drawQ (by decide +kernel) mixed (by decide +kernel) ?_)
          refine mkB 64 (by decide) (fun w21 xB hxB hE21 hz21 hSB => ?_)
          refine toldX ?_
          repeat (first | exact trivial | refine stp ?_ | refine ldCg ?_ | refine ldNg ?_ | refine ldSg ?_ | refine ldSb ?_ | refine bnd ?_ | refine bnd1 ?_ | refine drawQ (by decide +kernel) mixed (by decide +kernel) ?_)
          refine (Put_hamt_ok 1 hw1 _ _ _ _ [] xB xA w21 (hW.ext .go) (hM.ext .go) (OkI.nil 1) hSB (hSA.ext .go) (by simp)).mono ?_
          rintro _ w22 ⟨⟨rv, rfl, _, hr2⟩, hE22⟩
          have hz22 := hE22.size
          have hc : ¬ (64 < xB.length ∨ 256 < xA.length) := by omega
          have hM22 := hr2 hc
          obtain ⟨b22, rfl⟩ : ∃ b, rv = .pointer (some ⟨b, 0, none⟩) := by obtain ⟨b, _, rfl, _⟩ := hM22; exact ⟨b, rfl⟩
          rw [if_neg hc]
          refine toldX ?_
          repeat (first | exact trivial | refine stp ?_ | refine ldCg ?_ | refine ldNg ?_ | refine ldSg ?_ | refine ldSb ?_ | refine bnd ?_ | refine bnd1 ?_ | refine drawQ (by decide +kernel) mixed (by decide +kernel) ?_)
          exact ⟨(b22, putI [] ⟨keyD 1 xB, xB, xA⟩), ⟨.go, hM22.mono (fun _ _ => trivial), (OkI.nil 1).put rfl ⟨by simp only; omega, by simp only; omega⟩, rfl⟩, rfl⟩
      · rintro ⟨b19, m19⟩ s19 w19 ⟨hE19, hM19, hO19, hl19⟩
        simp only at hM19 hO19 hl19
        have hz19 := hE19.size
        have hnil : ∀ W : World, SlB W (.slice none 0 0) [] := fun W => ⟨none, 0, rfl, Nat.le_refl _, by decide, Or.inl rfl⟩
        repeat (first | exact trivial | refine stp ?_ | refine ldCg ?_ | refine ldNg ?_ | refine ldSg ?_ | refine ldSb ?_ | refine bnd ?_ | refine bnd1 ?_ | refine drawQ (by decide +kernel) mixed (by decide +kernel) ?_)
        refine (Put_hamt_ok 1 hw1 _ _ (.slice none 0 0) (.slice none 0 0) [] [] [] w19 (hW.ext .go) (hM.ext .go) (OkI.nil 1) (hnil _) (hnil _) (by simp)).mono ?_
        rintro _ w20 ⟨⟨rv, rfl, _, hr2⟩, hE20⟩
        have hz20 := hE20.size
        have hM20 := hr2 (by decide)
        clear hr2
        obtain ⟨b20, rfl⟩ : ∃ b, rv = .pointer (some ⟨b, 0, none⟩) := by obtain ⟨b, _, rfl, _⟩ := hM20; exact ⟨b, rfl⟩
        have hO20 : OkI 1 (putI [] ⟨keyD 1 [], [], []⟩) := (OkI.nil 1).put rfl (by decide)
        have hg20 : getI (putI [] ⟨keyD 1 [], [], []⟩) [] = some [] := by rw [getI_put (OkI.nil 1) rfl, if_pos rfl]
        have hr20 : rootD 1 (putI [] ⟨keyD 1 [], [], []⟩) = sumR 1 (bucketP [([], [])]) := by
          have e : putI [] ⟨keyD 1 [], [], []⟩ = [(⟨keyD 1 [], [], []⟩ : It)] := rfl
          rw [e, rootD, if_neg (by simp), nodeD_single 1 64 0 (singleB_iff.2 fun y hy z hz => by rw [List.mem_singleton.1 hy, List.mem_singleton.1 hz])]
          rfl
        have hl20 : (putI [] (⟨keyD 1 [], [], []⟩ : It)).length = 1 := rfl
        have hbk := hO20.bucket_le2 (ps := [⟨.slice none 0 0, .slice none 0 0, [], []⟩]) rfl (by rw [hl20]; decide)
        generalize putI [] (⟨keyD 1 [], [], []⟩ : It) = m20 at *
        rw [if_neg (by decide)]
        repeat (first | exact trivial | refine stp ?_ | refine ldCg ?_ | refine ldNg ?_ | refine ldSg ?_ | refine ldSb ?_ | refine bnd ?_ | refine bnd1 ?_ | refine drawQ (by decide +kernel) mixed (by decide +kernel) ?_)
        refine (Len_hamt_ok 1 _ _ m19 w20 (hM19.ext .go) hO19.len).mono ?_
        rintro _ w21 ⟨rfl, hE21⟩
        have hz21 := hE21.size
        rw [hl19, show ((1 : Nat) : Int) = 1 from rfl]
        repeat (first | exact trivial | refine stp ?_ | refine ldCg ?_ | refine ldNg ?_ | refine ldSg ?_ | refine ldSb ?_ | refine bnd ?_ | refine bnd1 ?_ | refine drawQ (by decide +kernel) mixed (by decide +kernel) ?_)
        refine (Get_hamt_ok 1 hw1 _ _ (.slice none 0 0) m20 [] w21 (hW.ext .go) (hM20.ext .go) hO20 (hnil _) (by omega)).mono ?_
        rintro _ w22 ⟨v22, rfl, hR22, hE22⟩
        have hz22 := hE22.size
        obtain ⟨va22, vc22, rfl⟩ := own_slice hR22.own
        clear hR22
        rw [hg20]
        repeat rw [if_neg (show ¬ 64 < ([] : List UInt8).length by decide)]
        rw [Option.getD_some, List.length_nil, show (decide (0 ≤ 64) && (some ([] : List UInt8)).isSome) = true from rfl]
        repeat (first | exact trivial | refine stp ?_ | refine ldCg ?_ | refine ldNg ?_ | refine ldSg ?_ | refine ldSb ?_ | refine bnd ?_ | refine bnd1 ?_ | refine drawQ (by decide +kernel) mixed (by decide +kernel) ?_)
        refine (Root_hamt_ok 1 _ _ m20 w22 (hW.ext .go) (hM20.ext .go) hO20.len).mono ?_
        rintro _ w23 ⟨rfl, hE23⟩
        have hz23 := hE23.size
        rw [hr20]
        repeat (first | exact trivial | refine stp ?_ | refine ldCg ?_ | refine ldNg ?_ | refine ldSg ?_ | refine ldSb ?_ | refine bnd ?_ | refine bnd1 ?_ | refine drawQ (by decide +kernel) mixed (by decide +kernel) ?_)
        refine bldC [.slice none 0 0, .slice none 0 0] (by kernel_rfl) ?_
        repeat (first | exact trivial | refine stp ?_ | refine ldCg ?_ | refine ldNg ?_ | refine ldSg ?_ | refine ldSb ?_ | refine bnd ?_ | refine bnd1 ?_ | refine drawQ (by decide +kernel) mixed (by decide +kernel) ?_)
        refine ⟨rfl, rfl, ?_⟩
        first | refine newS ?_ | refine newZ ?_
        intro w24 hE24 hz24 hB24
        have hP24 : PairsAt w24 (.slice (some ⟨w23.heap.size, 0, none⟩) 1 1) [⟨.slice none 0 0, .slice none 0 0, [], []⟩] := ⟨SlC.of_blk hB24 (by decide), fun q hq => by rw [List.mem_singleton.1 hq]; exact ⟨hnil _, hnil _⟩⟩
        refine (RBucket_ok 1 (by decide) _ [⟨.slice none 0 0, .slice none 0 0, [], []⟩] w24 hP24 hbk).mono ?_
        rintro _ w25 ⟨rfl, hE25⟩
        have hz25 := hE25.size
        have hb25 : sumP 1 (bucketP ([(⟨.slice none 0 0, .slice none 0 0, [], []⟩ : PR)].map PR.dat)) = sumR 1 (bucketP [([], [])]) := (sumR_P (m := 1) (by decide) (by decide) _).symm
        have hbl := sumR_len 1 (bucketP [([], [])])
        rw [hb25]
        repeat (first | exact trivial | refine stp ?_ | refine ldCg ?_ | refine ldNg ?_ | refine ldSg ?_ | refine ldSb ?_ | refine bnd ?_ | refine bnd1 ?_ | refine drawQ (by decide +kernel) mixed (by decide +kernel) ?_)
        refine eqd_lit _ _ _ _ _ _ Tryz.underlying5 c5 hbl hbl ?_
        rw [decide_eq_true (rfl : sumR 1 (bucketP [([], [])]) = sumR 1 (bucketP [([], [])]))]
        repeat (first | exact trivial | refine stp ?_ | refine ldCg ?_ | refine ldNg ?_ | refine ldSg ?_ | refine ldSb ?_ | refine bnd ?_ | refine bnd1 ?_ | refine drawQ (by decide +kernel) mixed (by decide +kernel) ?_)
        refine (Get_nil (.slice none 0 0) w25).mono ?_
        rintro _ w26 ⟨rfl, hE26⟩
        have hz26 := hE26.size
        repeat (first | exact trivial | refine stp ?_ | refine ldCg ?_ | refine ldNg ?_ | refine ldSg ?_ | refine ldSb ?_ | refine bnd ?_ | refine bnd1 ?_ | refine drawQ (by decide +kernel) mixed (by decide +kernel) ?_)
        refine (Put_nil (.slice none 0 0) (.slice none 0 0) w26).mono ?_
        rintro _ w27 ⟨rfl, hE27⟩
        have hz27 := hE27.size
        repeat (first | exact trivial | refine stp ?_ | refine ldCg ?_ | refine ldNg ?_ | refine ldSg ?_ | refine ldSb ?_ | refine bnd ?_ | refine bnd1 ?_ | refine drawQ (by decide +kernel) mixed (by decide +kernel) ?_)
        refine (Delete_nil (.slice none 0 0) w27).mono ?_
        rintro _ w28 ⟨rfl, hE28⟩
        have hz28 := hE28.size
        repeat (first | exact trivial | refine stp ?_ | refine ldCg ?_ | refine ldNg ?_ | refine ldSg ?_ | refine ldSb ?_ | refine bnd ?_ | refine bnd1 ?_ | refine drawQ (by decide +kernel) mixed (by decide +kernel) ?_)
        refine (Walk_nil (.slice none 0 0) w28).mono ?_
        rintro _ w29 ⟨rfl, hE29⟩
        have hz29 := hE29.size
        repeat (first | exact trivial | refine stp ?_ | refine ldCg ?_ | refine ldNg ?_ | refine ldSg ?_ | refine ldSb ?_ | refine bnd ?_ | refine bnd1 ?_ | refine drawQ (by decide +kernel) mixed (by decide +kernel) ?_)
        refine mkB 65 (by decide) (fun w30 x30 hx30 hE30 hz30 hS30 => ?_)
        repeat (first | exact trivial | refine stp ?_ | refine ldCg ?_ | refine ldNg ?_ | refine ldSg ?_ | refine ldSb ?_ | refine bnd ?_ | refine bnd1 ?_ | refine drawQ (by decide +kernel) mixed (by decide +kernel) ?_)
        refine (Get_nil _ w30).mono ?_
        rintro _ w31 ⟨rfl, hE31⟩
        have hz31 := hE31.size
        repeat (first | exact trivial | refine stp ?_ | refine ldCg ?_ | refine ldNg ?_ | refine ldSg ?_ | refine ldSb ?_ | refine bnd ?_ | refine bnd1 ?_ | refine drawQ (by decide +kernel) mixed (by decide +kernel) ?_)
        refine (Width_nil w31).mono ?_
        rintro _ w32 ⟨rfl, hE32⟩
        have hz32 := hE32.size
        repeat (first | exact trivial | refine stp ?_ | refine ldCg ?_ | refine ldNg ?_ | refine ldSg ?_ | refine ldSb ?_ | refine bnd ?_ | refine bnd1 ?_ | refine drawQ (by decide +kernel) mixed (by decide +kernel) ?_)
        refine (Len_nil w32).mono ?_
        rintro _ w33 ⟨rfl, hE33⟩
        have hz33 := hE33.size
        repeat (first | exact trivial | refine stp ?_ | refine ldCg ?_ | refine ldNg ?_ | refine ldSg ?_ | refine ldSb ?_ | refine bnd ?_ | refine bnd1 ?_ | refine drawQ (by decide +kernel) mixed (by decide +kernel) ?_)
        refine (Root_nil w33).mono ?_
        rintro _ w34 ⟨rfl, hE34⟩
        have hz34 := hE34.size
        repeat (first | exact trivial | refine stp ?_ | refine ldCg ?_ | refine ldNg ?_ | refine ldSg ?_ | refine ldSb ?_ | refine bnd ?_ | refine bnd1 ?_ | refine drawQ (by decide +kernel) mixed (by decide +kernel) ?_)
        refine bldC (List.replicate 32 (.int .u8 0)) (by kernel_rfl) ?_
        rw [vbs_rep]
        repeat (first | exact trivial | refine stp ?_ | refine ldCg ?_ | refine ldNg ?_ | refine ldSg ?_ | refine ldSb ?_ | refine bnd ?_ | refine bnd1 ?_ | refine drawQ (by decide +kernel) mixed (by decide +kernel) ?_)
        refine eqd_lit _ _ _ (List.replicate 32 0) (List.replicate 32 0) _ Tryz.underlying5 c5 (by simp) (by simp) ?_
        rw [decide_eq_true (rfl : List.replicate 32 (0 : UInt8) = List.replicate 32 0)]
        repeat (first | exact trivial | refine stp ?_ | refine ldCg ?_ | refine ldNg ?_ | refine ldSg ?_ | refine ldSb ?_ | refine bnd ?_ | refine bnd1 ?_ | refine drawQ (by decide +kernel) mixed (by decide +kernel) ?_)
        refine (Pairs_nil w34).mono ?_
        rintro _ w35 ⟨rfl, hE35⟩
        have hz35 := hE35.size
        repeat (first | exact trivial | refine stp ?_ | refine ldCg ?_ | refine ldNg ?_ | refine ldSg ?_ | refine ldSb ?_ | refine bnd ?_ | refine bnd1 ?_ | refine drawQ (by decide +kernel) mixed (by decide +kernel) ?_)
        exact .go
end Go.Proofs.YtieaoldoiahgpaaGreatDoor

/-! Row -/
namespace Go.Proofs.YtieaoldoiahgpaaGreatDoor
set_option maxRecDepth 100000
open Go Go.RowKit Go.ChangeShapes Go.WideShapes Go.ChangeAt
set_option linter.unusedVariables false
set_option linter.unusedSimpArgs false

/-- Each of the types can be read and is a row of the table. -/
def rowedT (P : Program) (ts : List TypeId) : Bool := ts.all fun t => P.readableRec t && decide (t < P.types.size)

theorem below_trodAll {H : Type} {enc : TypeId × Value → H} {P : Program} (hl : laidOutB P = true) {W W' : World} (hb : Below W.heap.size W W') :
    ∀ {ts : List TypeId} {vs : List Value} {ds : List (DataW H)} {ps : List MemPlace}, rowedT P ts = true → DataW.TrodAll enc P W 0 (fun _ => true) true ts vs ds ps → (∀ x ∈ ps, x.block < W.heap.size) → DataW.TrodAll enc P W' 0 (fun b => decide (b < W.heap.size)) true ts vs ds ps
  | [], [], [], _, _, h, _ => h
  | [], _ :: _, _, _, _, h, _ => by simp [DataW.TrodAll] at h
  | [], [], _ :: _, _, _, h, _ => by simp [DataW.TrodAll] at h
  | _ :: _, [], _, _, _, h, _ => by simp [DataW.TrodAll] at h
  | _ :: _, _ :: _, [], _, _, h, _ => by simp [DataW.TrodAll] at h
  | t :: ts, v :: vs, d :: ds, ps, hr, h, hlt => by
    obtain ⟨p, q, h1, h2, rfl⟩ := h
    simp only [rowedT, List.all_cons, Bool.and_eq_true, decide_eq_true_eq] at hr
    refine ⟨p, q, Below.trod hl hr.1.1 hr.1.2 h1 hb (fun x hx => hlt x (by simp [hx])), below_trodAll hl hb (by simpa [rowedT] using hr.2) h2 (fun x hx => hlt x (by simp [hx])), rfl⟩

/-- What a law's row asks of the end, given what the walk says: true, and nothing old has turned. -/
theorem law_post {H : Type} {enc : TypeId × Value → H} {P : Program} (hl : laidOutB P = true) {f : Func} {s : ChangeSpec} {tb : TypeId} (hr : f.resultTypes = #[tb]) (hb : P.underlying tb = some .bool)
    (hp : rowedT P f.params.toList = true) (hv : s.vars = []) {W W' : World} {args : Array Value} {ds gs : List (DataW H)} {before : List MemPlace}
    (hW : DataW.Whole enc P f.params.toList s.vars false W args.toList ds gs before)
    (hfn : (s.fn H (ds ++ gs)).results = [.lit (.bool true)] ∧ (s.fn H (ds ++ gs)).args = ds ∧ (s.fn H (ds ++ gs)).vars = gs) (hE : Ext W W') :
    s.post enc P f false true false false W args (.bool true) W' := by
  have hW' := hW
  obtain ⟨p, q, hA, hV, rfl, hfz, hnd⟩ := hW
  refine ⟨ds, gs, p ++ q, [], p, q, hW', ?_, ?_, ?_, hE.frame _, fun h => by cases h⟩
  · rw [hfn.1, hr]
    exact trodAll_cons_mk (shut_bool hb _) trodAll_mk0
  · rw [hfn.2.1]
    exact below_trodAll hl hE hp hA (fun x hx => by simpa using hW'.lt x (by simp [hx]))
  · rw [hfn.2.2]
    rw [hv] at hV ⊢
    obtain ⟨rfl, rfl⟩ := trodVars_none hV
    rfl

theorem CallK.toCalls {P : Program} {f : FuncId} {args : Array Value} {w : World} (h : CallK P f args w fun v w' => v = .bool true ∧ Ext w w') (hb : callable P f = true) : Calls P f args w fun e w' => e = .returned (.bool true) ∧ Ext w w' :=
  (h.body hb).calls.mono fun e w' ⟨v, he, hv, hE⟩ => ⟨by rw [he, hv], hE⟩

/-! ### Arguments opened -/
end Go.Proofs.YtieaoldoiahgpaaGreatDoor

/-! RowU -/
namespace Go.Proofs.YtieaoldoiahgpaaGreatDoor
set_option maxRecDepth 100000
open Go Go.RowKit Go.ChangeShapes Go.WideShapes Go.ChangeAt
set_option linter.unusedVariables false
set_option linter.unusedSimpArgs false

/-! ### Bulk -/
/-! ### Lists opened, wherever they lie -/
section opened
variable {H : Type} {enc : TypeId × Value → H} {w : World} {sp : Nat → Bool} {fuel : Nat} {cs : List Value} {x : DataW H × List MemPlace}
end opened

end Go.Proofs.YtieaoldoiahgpaaGreatDoor

/-! RowW -/
namespace Go.Proofs.YtieaoldoiahgpaaGreatDoor
set_option maxRecDepth 100000
open Go Go.RowKit Go.ChangeShapes Go.WideShapes Go.ChangeAt
set_option linter.unusedVariables false
set_option linter.unusedSimpArgs false

section opened
variable {H : Type} {enc : TypeId × Value → H} {w : World} {sp : Nat → Bool} {r : Reach} {b0 : Nat} {v : Value} {d : DataW H} {p : List MemPlace}
end opened

/-! ### The table -/
theorem gTab : Tryz.prog.globalNamed "notary/sha.words" = some 0 := by kernel_rfl
theorem gTabType : (Tryz.prog.globals[0]?).map (·.type) = some 187 := by kernel_rfl
theorem tab_eq {H : Type} : (Rows.laid_notary_sha_words : DataW H) = Lib.tabData .u32 (KW.map fun x => (x.toNat : Int)) := by kernel_rfl
theorem words_of {W : World} (h : laidMetH Tryz.prog [("notary/sha.words", Rows.laid_notary_sha_words)] W) : WordsAt W 0 := by
  have h' : laidMetH Tryz.prog [("notary/sha.words", Lib.tabData .u32 (KW.map fun x => (x.toNat : Int)))] W := by
    rw [← tab_eq]
    exact h
  have ht := Lib.tabIs_of_head (rest := []) gTab gTabType Tryz.underlying187 Tryz.underlying169 c169 c187 h'
  intro j hj
  have hc := ht.cell gTab j (by rw [List.length_map]; exact hj)
  rw [hc]
  have hl : j < KW.length := hj
  simp only [vw, List.getD_eq_getElem?_getD, List.getElem?_map, List.getElem?_eq_getElem hl, Option.map_some, Option.getD_some]

end Go.Proofs.YtieaoldoiahgpaaGreatDoor
