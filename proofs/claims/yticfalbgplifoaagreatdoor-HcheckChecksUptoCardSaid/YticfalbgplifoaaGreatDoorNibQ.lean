/-
  Walks of layer 13's reference on digests (notaryref13: Digits, check, DocAt, DocCommon, DocOrder) and of notaryref03's Width and DocForm. Conditions: as stated in each theorem.
-/
import Derived.Test.YticfalbgplifoaaGreatDoorNib
namespace Go.Proofs.YticfalbgplifoaaGreatDoor
set_option maxRecDepth 100000
open Go Go.RowKit
set_option linter.unusedVariables false
set_option linter.unusedSimpArgs false

def widthP (n : Int) : Bool := decide (1 ≤ n ∧ n ≤ 32)
def formP (n : Int) (d : List UInt8) : Bool := widthP n && decide (∀ b ∈ d.drop n.toNat, b = 0)

theorem Width_ok (n : Int) (w : World) : CallK Tryz.prog 28 [.int .i64 n].toArray w fun v w' => v = .bool (widthP n) ∧ Ext w w' := by
  refine enterT Tryz.func28 rfl Tryz.ntmps28 Tryz.results28 rfl (by decide) ?_
  simp only [↓VD, VP, VT, isAggD, reduceCtorEq, Int.reduceEq, Int.reduceNe, Int.reduceLT, Int.reduceLE, implies_true, Nat.reduceEqDiff, reduceIte, ite_true, ite_false, eq_self, Nat.reduceLT, Nat.reduceLeDiff, Nat.reduceAdd, Nat.reduceMul, Nat.reduceSub, intOf]
  have hE := Ext.rfl' w
  refine ⟨fun h => ⟨?_, hE⟩, fun h => ⟨?_, hE⟩⟩
  · simp [widthP, h]
  · simp [widthP, h]

theorem DocForm_ok (n : Int) (d : List UInt8) (hd : d.length = 32) (w : World) :
    CallK Tryz.prog 36 [.int .i64 n, .agg (vbs d).toArray].toArray w fun v w' => v = .bool (formP n d) ∧ Ext w w' := by
  refine enterT Tryz.func36 rfl Tryz.ntmps36 Tryz.results36 rfl (by decide) ?_
  simp only [↓VD, VP, VT, isAggD, reduceCtorEq, Int.reduceEq, Int.reduceNe, Int.reduceLT, Int.reduceLE, implies_true, Nat.reduceEqDiff, reduceIte, ite_true, ite_false, eq_self, Nat.reduceLT, Nat.reduceLeDiff, Nat.reduceAdd, Nat.reduceMul, Nat.reduceSub, intOf]
  intro w1 hN
  refine (Width_ok n w1).mono ?_
  rintro _ w2 ⟨rfl, hE2⟩
  have hE : Ext w w2 := hN.ext.trans' hE2
  have hB : Blk w2 w.heap.size 28 (vbs d) := hN.blk.ext hE2
  simp only [↓VD, VP, VT, isAggD, reduceCtorEq, Int.reduceEq, Int.reduceNe, Int.reduceLT, Int.reduceLE, implies_true, Nat.reduceEqDiff, reduceIte, ite_true, ite_false, eq_self, Nat.reduceLT, Nat.reduceLeDiff, Nat.reduceAdd, Nat.reduceMul, Nat.reduceSub, intOf]
  refine bsplit_i (fun hi => ?_) (fun hi => ?_)
  · have hn : 1 ≤ n ∧ n ≤ 32 := by simpa [widthP] using hi
    simp only [↓VD, VP, VT, isAggD, reduceCtorEq, Int.reduceEq, Int.reduceNe, Int.reduceLT, Int.reduceLE, implies_true, Nat.reduceEqDiff, reduceIte, ite_true, ite_false, eq_self, Nat.reduceLT, Nat.reduceLeDiff, Nat.reduceAdd, Nat.reduceMul, Nat.reduceSub, intOf]
    have hf : formP n d = decide (∀ b ∈ d.drop n.toNat, b = 0) := by rw [formP, hi, Bool.true_and]
    refine loopT (fun s' w' => w' = w2 ∧ ∃ k : Nat, n.toNat + k ≤ 32 ∧ s' 3 = .pointer (some ⟨w.heap.size, 0, none⟩) ∧ s' 5 = .int .i64 (n.toNat + k : Nat) ∧ ∀ b ∈ (d.drop n.toNat).take k, b = 0) (fun s' _ => 32 - (intOf (s' 5)).toNat) ?_ ?_
    · simp only [↓VD, VP, VT, isAggD, reduceCtorEq, Int.reduceEq, Int.reduceNe, Int.reduceLT, Int.reduceLE, implies_true, Nat.reduceEqDiff, reduceIte, ite_true, ite_false, eq_self, Nat.reduceLT, Nat.reduceLeDiff, Nat.reduceAdd, Nat.reduceMul, Nat.reduceSub, intOf]
      exact ⟨0, by omega, by omega, by simp⟩
    · rintro s1 w3 ⟨rfl, k, hk, h3, h5, hz⟩
      simp only [↓VD, VP, VT, isAggD, reduceCtorEq, Int.reduceEq, Int.reduceNe, Int.reduceLT, Int.reduceLE, implies_true, Nat.reduceEqDiff, reduceIte, ite_true, ite_false, eq_self, Nat.reduceLT, Nat.reduceLeDiff, Nat.reduceAdd, Nat.reduceMul, Nat.reduceSub, intOf, h3, h5]
      refine ⟨fun hlt => ?_, fun hge => ?_⟩
      · have hlk : (d.drop n.toNat)[k]? = some (d.getD (n.toNat + k) 0) := by
          rw [List.getElem?_drop, List.getD_eq_getElem?_getD, List.getElem?_eq_getElem (by omega)]; rfl
        refine ⟨by omega, by omega, ldB Tryz.underlying5 hB (by omega) ?_⟩
        generalize d.getD (n.toNat + k) 0 = y at *
        simp only [↓VD, VP, VT, isAggD, reduceCtorEq, Int.reduceEq, Int.reduceNe, Int.reduceLT, Int.reduceLE, implies_true, Nat.reduceEqDiff, reduceIte, ite_true, ite_false, eq_self, Nat.reduceLT, Nat.reduceLeDiff, Nat.reduceAdd, Nat.reduceMul, Nat.reduceSub, intOf, h3, h5]
        have hy : (y.toNat : Int) = 0 ↔ y = 0 := by rw [← toNat_inj]; rfl
        refine ⟨fun h3 => ⟨?_, hE⟩, fun h3 => ⟨⟨k + 1, by omega, ?_, ?_⟩, ?_⟩⟩
        · rw [hf, eq_comm, decide_eq_false_iff_not]
          intro hall
          exact h3 (hy.2 (hall y (List.mem_of_getElem? hlk)))
        · rw [w64 (by omega) (by omega)]; rfl
        · exact (take_all_succ hlk).2 ⟨hz, hy.1 h3⟩
        · rw [w64 (by omega) (by omega)]; omega
      · refine ⟨?_, hE⟩
        rw [List.take_of_length_le (by simp; omega)] at hz
        rw [hf, eq_comm, decide_eq_true_eq]
        exact hz
  · simp only [↓VD, VP, VT, isAggD, reduceCtorEq, Int.reduceEq, Int.reduceNe, Int.reduceLT, Int.reduceLE, implies_true, Nat.reduceEqDiff, reduceIte, ite_true, ite_false, eq_self, Nat.reduceLT, Nat.reduceLeDiff, Nat.reduceAdd, Nat.reduceMul, Nat.reduceSub, intOf]
    exact ⟨by simp [formP, hi], hE⟩

def digsI (d : List UInt8) (k : Nat) : List Int := (List.range (2 * k)).map fun j => (digP d j : Int)
theorem digsI_succ (d : List UInt8) (k : Nat) : digsI d (k + 1) = digsI d k ++ [((d.getD k 0).toNat : Int) / 16, ((d.getD k 0).toNat : Int) % 16] := by
  unfold digsI
  rw [show 2 * (k + 1) = 2 * k + 1 + 1 from by omega, List.range_succ, List.range_succ, List.map_append, List.map_append, List.append_assoc]
  congr 1
  simp only [List.map_cons, List.map_nil, List.cons_append, List.nil_append, digP]
  rw [if_pos (by omega), if_neg (by omega), show 2 * k / 2 = k from by omega, show (2 * k + 1) / 2 = k from by omega]
  rfl
theorem digsI_len (d : List UInt8) (k : Nat) : (digsI d k).length = 2 * k := by simp [digsI]

theorem Digits_ok (n : Nat) (hn : n ≤ 32) (d : List UInt8) (hd : d.length = 32) (w : World) :
    CallK Tryz.prog 30 [.int .i64 n, .agg (vbs d).toArray].toArray w fun v w' => OwnI w' w.heap.size 3 v (digsI d n) ∧ Ext w w' := by
  refine enterT Tryz.func30 rfl Tryz.ntmps30 Tryz.results30 rfl (by decide) ?_
  simp only [↓VD, VP, VT, isAggD, reduceCtorEq, Int.reduceEq, Int.reduceNe, Int.reduceLT, Int.reduceLE, implies_true, Nat.reduceEqDiff, reduceIte, ite_true, ite_false, eq_self, Nat.reduceLT, Nat.reduceLeDiff, Nat.reduceAdd, Nat.reduceMul, Nat.reduceSub, intOf]
  intro w1 hN
  refine loopT (fun s' w' => Ext w w' ∧ Blk w' w.heap.size 28 (vbs d) ∧ ∃ k : Nat, k ≤ n ∧ s' 0 = .int .i64 n ∧ s' 3 = .pointer (some ⟨w.heap.size, 0, none⟩) ∧ s' 6 = .int .i64 k ∧ Own w' (w.heap.size + 1) 3 1 (s' 5) (2 * k) (ints .i64 (digsI d k))) (fun s' _ => n - (intOf (s' 6)).toNat) ?_ ?_
  · simp only [↓VD, VP, VT, isAggD, reduceCtorEq, Int.reduceEq, Int.reduceNe, Int.reduceLT, Int.reduceLE, implies_true, Nat.reduceEqDiff, reduceIte, ite_true, ite_false, eq_self, Nat.reduceLT, Nat.reduceLeDiff, Nat.reduceAdd, Nat.reduceMul, Nat.reduceSub, intOf]
    exact ⟨hN.ext, hN.blk, 0, by omega, rfl, Own.nil _ _ _ _⟩
  · rintro s1 w2 ⟨hE, hB, k, hk, h0, h3, h6, ho⟩
    simp only [↓VD, VP, VT, isAggD, reduceCtorEq, Int.reduceEq, Int.reduceNe, Int.reduceLT, Int.reduceLE, implies_true, Nat.reduceEqDiff, reduceIte, ite_true, ite_false, eq_self, Nat.reduceLT, Nat.reduceLeDiff, Nat.reduceAdd, Nat.reduceMul, Nat.reduceSub, intOf, h0, h3, h6]
    refine ⟨fun hlt => ?_, fun hge => ?_⟩
    · have hbl := hB.lt
      refine drawH (fun x => Blk x w.heap.size 28 (vbs d)) [0, 1, 2, 3, 4, 5, 6, 7, 8, 9, 10, 11, 12, 13] mixed (by decide +kernel) (fun w3 hE3 hh => ⟨hB.ext hE3, ?_⟩)
      have ho3 := ho.ext hE3
      simp only [↓VD, VP, VT, isAggD, reduceCtorEq, Int.reduceEq, Int.reduceNe, Int.reduceLT, Int.reduceLE, implies_true, Nat.reduceEqDiff, reduceIte, ite_true, ite_false, eq_self, Nat.reduceLT, Nat.reduceLeDiff, Nat.reduceAdd, Nat.reduceMul, Nat.reduceSub, intOf, h0, h3, h6]
      have hk32 : k < (d.length) := by omega
      refine ⟨by omega, by omega, loadS_of _ (fun x hx => ldB (o := k) Tryz.underlying5 hx (by omega) rfl) ?_⟩
      simp only [↓VD, VP, VT, isAggD, reduceCtorEq, Int.reduceEq, Int.reduceNe, Int.reduceLT, Int.reduceLE, implies_true, Nat.reduceEqDiff, reduceIte, ite_true, ite_false, eq_self, Nat.reduceLT, Nat.reduceLeDiff, Nat.reduceAdd, Nat.reduceMul, Nat.reduceSub, intOf, h0, h3, h6]
      refine ⟨by omega, by omega, loadS_of _ (fun x hx => ldB (o := k) Tryz.underlying5 hx (by omega) rfl) ?_⟩
      simp only [↓VD, VP, VT, isAggD, reduceCtorEq, Int.reduceEq, Int.reduceNe, Int.reduceLT, Int.reduceLE, implies_true, Nat.reduceEqDiff, reduceIte, ite_true, ite_false, eq_self, Nat.reduceLT, Nat.reduceLeDiff, Nat.reduceAdd, Nat.reduceMul, Nat.reduceSub, intOf, h0, h3, h6]
      have hs := digsI_succ d k
      generalize d.getD k 0 = y at *
      have hy := y.toNat_lt
      have e1 : IntKind.i64.wrap ((IntKind.i64.wrap (y.toNat : Int)).tdiv 16) = (y.toNat : Int) / 16 := by
        rw [w64 (n := (y.toNat : Int)) (by omega) (by omega), Int.tdiv_eq_ediv_of_nonneg (by omega), w64 (by omega) (by omega)]
      have e2 : (IntKind.i64.wrap (y.toNat : Int)).tmod 16 = (y.toNat : Int) % 16 := by
        rw [w64 (n := (y.toNat : Int)) (by omega) (by omega), Int.tmod_eq_emod_of_nonneg (by omega)]
      rw [e1, e2]
      have hB3 := hB.ext hE3
      have hw3 := hE3.size
      refine ⟨rfl, ⟨rfl, rfl⟩, fun w4 hN4 => told (fun _ => True) (hN4.keep hB3) trivial ?_⟩
      simp only [↓VD, VP, VT, isAggD, reduceCtorEq, Int.reduceEq, Int.reduceNe, Int.reduceLT, Int.reduceLE, implies_true, Nat.reduceEqDiff, reduceIte, ite_true, ite_false, eq_self, Nat.reduceLT, Nat.reduceLeDiff, Nat.reduceAdd, Nat.reduceMul, Nat.reduceSub, intOf, h0, h3, h6]
      have hw4 := hN4.ext.size
      refine apB Tryz.underlying67 z3 c3 rfl (by decide) (ho3.ext hN4.ext) (by omega) hN4.blk rfl (by simp [oneCellV]) (by omega) (by rw [by3]; omega) (fun v w5 ho5 hB5 => ?_)
      refine told (fun _ => True) ((hN4.keep hB3).below hB5 (Nat.lt_succ_self _)) trivial ?_
      simp only [↓VD, VP, VT, isAggD, reduceCtorEq, Int.reduceEq, Int.reduceNe, Int.reduceLT, Int.reduceLE, implies_true, Nat.reduceEqDiff, reduceIte, ite_true, ite_false, eq_self, Nat.reduceLT, Nat.reduceLeDiff, Nat.reduceAdd, Nat.reduceMul, Nat.reduceSub, intOf, h0, h3, h6]
      refine ⟨⟨(hE.trans' hE3).trans ((hN4.ext.mono (by omega)).trans (hB5.mono (by omega))), (hN4.keep hB3).below hB5 (Nat.lt_succ_self _), k + 1, by omega, by rw [w64 (by omega) (by omega)]; rfl, ?_⟩, ?_⟩
      · rw [hs, show 2 * (k + 1) = 2 * k + 2 from by omega]
        simpa [ints] using ho5
      · rw [w64 (by omega) (by omega)]; omega
    · have e : k = n := by omega
      subst e
      refine ⟨?_, hE⟩
      rw [OwnI, digsI_len]
      exact ho.base (Nat.le_succ _)

theorem form_chk {n : Int} (h : 1 ≤ n ∧ n ≤ 32) (l : List (List UInt8)) : chkP n l = if ∀ d ∈ l, formP n d = true then 0 else 3 := by
  unfold chkP
  rw [if_neg (by omega)]
  have hw : widthP n = true := by simp [widthP, h]
  have : (∀ d ∈ l, formP n d = true) ↔ ∀ d ∈ l, ∀ b ∈ d.drop n.toNat, b = 0 := by simp [formP, hw]
  simp only [this]

theorem digsI_get (d : List UInt8) (k j : Nat) (h : j < 2 * k) : (digsI d k).getD j 0 = digP d j := by
  simp [digsI, h]

theorem cell_ext {w w' : World} {b o : Nat} {v : Value} (e : Ext w w') (h : w.cell? ⟨b, o, none⟩ = some v) : w'.cell? ⟨b, o, none⟩ = some v := by
  rw [e.cell (block_lt_of_cell h)]; exact h
theorem digs_open {w : World} {base e m : Nat} {v : Value} {d : List UInt8} (h : OwnI w base e v (digsI d m)) (hm : 0 < m) :
    ∃ b o c, v = .slice (some ⟨b, o, none⟩) (2 * m) c ∧ 2 * m ≤ c ∧ c ≤ 9223372036854775807 ∧ ∀ i, i < 2 * m → w.cell? ⟨b, o + i, none⟩ = some (.int .i64 (digP d i)) := by
  have hl := digsI_len d m
  obtain ⟨a, c, rfl, hnc, hcm, hc⟩ := (SlC.of_own h).openI
  rcases hc with hc | ⟨b, o, rfl, hc⟩
  · rw [hc] at hl; simp at hl; omega
  · rw [hl] at hnc
    refine ⟨b, o, c, by rw [hl], hnc, hcm, fun i hi => ?_⟩
    rw [← digsI_get d m i hi]
    exact hc i (by rw [hl]; exact hi)

theorem comP_eq (a b : List UInt8) (m k : Nat) (hs : ∀ j, j < k → digP a j = digP b j) (hk : k < m) (hd : digP a k ≠ digP b k) : comP a b m = k := comP_part a b k hs hd m hk

end Go.Proofs.YticfalbgplifoaaGreatDoor
