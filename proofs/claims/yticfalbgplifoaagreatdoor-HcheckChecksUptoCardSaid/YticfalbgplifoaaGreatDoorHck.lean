/-
  Package bytes' Equal, Clone, Compare; hcheck.kids. Conditions: as stated in each theorem.
-/
import Derived.Test.YticfalbgplifoaaGreatDoorUp
import Derived.Lib.BytesEntry
import Derived.Lib.ConvBytes
import Derived.Laws.Externs
import Derived.Laws.IdiomStrings
namespace Go.Proofs.YticfalbgplifoaaGreatDoor
set_option maxRecDepth 100000
open Go Go.RowKit
set_option linter.unusedVariables false
set_option linter.unusedSimpArgs false

/-! ### Package bytes -/
theorem convS {w : World} {v : Value} {xs : List UInt8} {K : Value → World → Prop} (h : SlB w v xs) (hK : K (.string ⟨xs.toArray⟩) w) : RawConv Tryz.prog 22 9 v w K := by
  obtain ⟨a, c, rfl, hnc, hcm, hc⟩ := h
  cases a with
  | none =>
    have hx : xs = [] := by
      rcases hc with hc | ⟨b, o, h, _⟩
      · simpa [vbs] using hc
      · cases h
    subst hx
    refine ⟨⟨.string ⟨#[]⟩, w, ?_, hK⟩⟩
    rw [run_convert_bytes_string w 22 9 5 none _ c Tryz.underlying22 Tryz.underlying5 Tryz.underlying9]
    rfl
  | some a =>
    refine ⟨⟨_, _, run_convert_bytes_back w 22 9 5 a c xs Tryz.underlying22 Tryz.underlying5 Tryz.underlying9 ?_, hK⟩⟩
    intro j hj
    rcases hc with hc | ⟨b, o, h, hc⟩
    · have : xs = [] := by simpa [vbs] using hc
      subst this
      simp at hj
    · cases h
      rw [addr_add]
      exact hc j _ (by simp [vbs, vb, hj])
theorem BEqual_ok (xs ys : List UInt8) (u v : Value) (w : World) (hu : SlB w u xs) (hv : SlB w v ys) :
    CallK Tryz.prog 25 [u, v].toArray w fun r w' => r = .bool (decide (xs = ys)) ∧ w' = w := by
  refine enterT Tryz.func25 rfl Tryz.ntmps25 Tryz.results25 rfl (by decide) ?_
  simp only [↓VD, VP, VT, isAggD, reduceCtorEq, Int.reduceEq, Int.reduceNe, Int.reduceLT, Int.reduceLE, implies_true, Nat.reduceEqDiff, reduceIte, ite_true, ite_false, eq_self, Nat.reduceLT, Nat.reduceLeDiff, Nat.reduceAdd, Nat.reduceMul, Nat.reduceSub, intOf]
  refine convS hu ?_
  simp only [↓VD, VP, VT, isAggD, reduceCtorEq, Int.reduceEq, Int.reduceNe, Int.reduceLT, Int.reduceLE, implies_true, Nat.reduceEqDiff, reduceIte, ite_true, ite_false, eq_self, Nat.reduceLT, Nat.reduceLeDiff, Nat.reduceAdd, Nat.reduceMul, Nat.reduceSub, intOf]
  refine convS hv ?_
  simp only [↓VD, VP, VT, isAggD, reduceCtorEq, Int.reduceEq, Int.reduceNe, Int.reduceLT, Int.reduceLE, implies_true, Nat.reduceEqDiff, reduceIte, ite_true, ite_false, eq_self, Nat.reduceLT, Nat.reduceLeDiff, Nat.reduceAdd, Nat.reduceMul, Nat.reduceSub, intOf]
  refine ⟨_, _, rfl, rfl, ?_⟩
  simp only [↓VD, VP, VT, isAggD, reduceCtorEq, Int.reduceEq, Int.reduceNe, Int.reduceLT, Int.reduceLE, implies_true, Nat.reduceEqDiff, reduceIte, ite_true, ite_false, eq_self, Nat.reduceLT, Nat.reduceLeDiff, Nat.reduceAdd, Nat.reduceMul, Nat.reduceSub, intOf]
  simp only [ByteArray.toList_eq]
theorem BClone_ok (xs : List UInt8) (v : Value) (w : World) (hv : SlB w v xs) (hsz : xs.length ≤ 140737488355328) :
    CallK Tryz.prog 27 [v].toArray w fun v' w' => Own w' w.heap.size 5 1 v' xs.length (vbs xs) ∧ Ext w w' := by
  have hv' := hv
  obtain ⟨a, c, rfl, hnc, hcm, hc⟩ := hv'
  refine enterT Tryz.func27 rfl Tryz.ntmps27 Tryz.results27 rfl (by decide) ?_
  simp only [↓VD, VP, VT, isAggD, reduceCtorEq, Int.reduceEq, Int.reduceNe, Int.reduceLT, Int.reduceLE, implies_true, Nat.reduceEqDiff, reduceIte, ite_true, ite_false, eq_self, Nat.reduceLT, Nat.reduceLeDiff, Nat.reduceAdd, Nat.reduceMul, Nat.reduceSub, intOf]
  refine ⟨fun ha => ?_, fun ha => ⟨rfl, fun w1 hN => ?_⟩⟩
  · have : xs = [] := by
      rcases hc with hc | ⟨b, o, rfl, _⟩
      · simpa [vbs] using hc
      · cases ha
    subst this
    exact ⟨Own.nil _ _ _ _, Ext.rfl' w⟩
  · refine apS Tryz.underlying22 z5 c5 rfl (by decide) (Own.of_blk hN.blk (Nat.le_refl _) rfl (by decide)) (by have := hN.size; omega) (hv.ext hN.ext) (by rw [vbs_len, Nat.mul_one]) (vbs_one _) (by omega) (by rw [by5]; omega) (fun v' w2 hO hg => ?_)
    simp only [↓VD, VP, VT, isAggD, reduceCtorEq, Int.reduceEq, Int.reduceNe, Int.reduceLT, Int.reduceLE, implies_true, Nat.reduceEqDiff, reduceIte, ite_true, ite_false, eq_self, Nat.reduceLT, Nat.reduceLeDiff, Nat.reduceAdd, Nat.reduceMul, Nat.reduceSub, intOf]
    refine ⟨by simpa using hO, hN.ext.trans ⟨hg.os, hg.tape, hg.output, hg.size, fun k hk => hg.block k (by have := hN.size; omega) ?_⟩⟩
    simp only [Value.ownBlock, ne_eq, Option.some.injEq]
    omega
theorem bytesX (xs : List UInt8) : Lib.bytesOf (xs.map fun b => (b.toNat : Int)) = xs := by
  induction xs with
  | nil => rfl
  | cons x xs ih => simpa [Lib.bytesOf] using ih
theorem loadX {w : World} {v : Value} {xs : List UInt8} (h : SlB w v xs) : (Extern.Bytes.bytesOf v).run Tryz.prog w = .ok ⟨xs.toArray⟩ w := by
  obtain ⟨a, c, rfl, hnc, hcm, hc⟩ := h
  rcases hc with hc | ⟨b, o, rfl, hc⟩
  · have : xs = [] := by simpa [vbs] using hc
    subst this
    cases a <;> simp [Extern.Bytes.bytesOf, Extern.Bytes.loadBytes] <;> rfl
  · have := Lib.run_loadBytesX (P := Tryz.prog) w (xs.map fun b => (b.toNat : Int)) ⟨b, o, none⟩ .empty (fun j x hj => by
      rw [addr_add]
      exact hc j _ (by rw [vbs_ints]; simp at hj ⊢; exact hj))
    rw [List.length_map, bytesX] at this
    simpa [Extern.Bytes.bytesOf] using this
theorem BCompare_ok (xs ys : List UInt8) (u v : Value) (w : World) (hu : SlB w u xs) (hv : SlB w v ys) :
    CallK Tryz.prog 49 [u, v].toArray w fun r w' => r = .int .i64 (Lib.compareBytes xs ys) ∧ w' = w := by
  refine enterT Tryz.func49 rfl Tryz.ntmps49 Tryz.results49 rfl (by decide) ?_
  simp only [↓VD, VP, VT, isAggD, reduceCtorEq, Int.reduceEq, Int.reduceNe, Int.reduceLT, Int.reduceLE, implies_true, Nat.reduceEqDiff, reduceIte, ite_true, ite_false, eq_self, Nat.reduceLT, Nat.reduceLeDiff, Nat.reduceAdd, Nat.reduceMul, Nat.reduceSub, intOf]
  refine ⟨Or.inr ⟨.int .i64 (Lib.compareBytes xs ys), w, ?_, ?_⟩⟩
  · rw [run_callFunc_extern (e := Extern.BytealgCompare.compare) Tryz.func79 rfl rfl rfl rfl]
    change (Sem.run Tryz.prog (do pure (goInt (Extern.BytealgCompare.cmp (← Extern.Bytes.bytesOf u) (← Extern.Bytes.bytesOf v)))) w).andThen _ = _
    simp only [Sem.run_bind, Sem.run_pure, loadX hu, loadX hv, Result.andThen]
    rw [Lib.cmp_eq]
    rfl
  · simp only [↓VD, VP, VT, isAggD, reduceCtorEq, Int.reduceEq, Int.reduceNe, Int.reduceLT, Int.reduceLE, implies_true, Nat.reduceEqDiff, reduceIte, ite_true, ite_false, eq_self, Nat.reduceLT, Nat.reduceLeDiff, Nat.reduceAdd, Nat.reduceMul, Nat.reduceSub, intOf]

/-! ### kids -/
def kidsP (n : Int) (ss : List SR) : Prop := ∀ s ∈ ss, ∀ d ∈ s.ks, formB n d = true
instance (n : Int) (ss : List SR) : Decidable (kidsP n ss) := by unfold kidsP; infer_instance
theorem kids_ok (n : Int) (sv : Value) (ss : List SR) (w : World) (hs : StepsAt w sv ss) :
    CallK Tryz.prog 22 [.int .i64 n, sv].toArray w fun v w' => v = .bool (decide (kidsP n ss)) ∧ Ext w w' := by
  obtain ⟨⟨a, c, rfl, hnc, hcm, hc⟩, hss⟩ := hs
  refine enterT Tryz.func22 rfl Tryz.ntmps22 Tryz.results22 rfl (by decide) ?_
  simp only [↓VD, VP, VT, isAggD, reduceCtorEq, Int.reduceEq, Int.reduceNe, Int.reduceLT, Int.reduceLE, implies_true, Nat.reduceEqDiff, reduceIte, ite_true, ite_false, eq_self, Nat.reduceLT, Nat.reduceLeDiff, Nat.reduceAdd, Nat.reduceMul, Nat.reduceSub, intOf]
  refine loopT (fun s' w' => Ext w w' ∧ ∃ k : Nat, k ≤ ss.length ∧ s' 0 = .int .i64 n ∧ s' 9 = .slice a ss.length c ∧ s' 10 = .int .i64 ss.length ∧ s' 11 = .int .i64 k ∧
      ∀ s ∈ ss.take k, ∀ d ∈ s.ks, formB n d = true) (fun s' _ => ss.length - (intOf (s' 11)).toNat) ?_ ?_
  · simp only [↓VD, VP, VT, isAggD, reduceCtorEq, Int.reduceEq, Int.reduceNe, Int.reduceLT, Int.reduceLE, implies_true, Nat.reduceEqDiff, reduceIte, ite_true, ite_false, eq_self, Nat.reduceLT, Nat.reduceLeDiff, Nat.reduceAdd, Nat.reduceMul, Nat.reduceSub, intOf]
    exact ⟨Ext.rfl' w, 0, by omega, rfl, by simp⟩
  · rintro s2 w2 ⟨hE, k, hk, h0, h9, h10, h11, hz⟩
    simp only [↓VD, VP, VT, isAggD, reduceCtorEq, Int.reduceEq, Int.reduceNe, Int.reduceLT, Int.reduceLE, implies_true, Nat.reduceEqDiff, reduceIte, ite_true, ite_false, eq_self, Nat.reduceLT, Nat.reduceLeDiff, Nat.reduceAdd, Nat.reduceMul, Nat.reduceSub, intOf, h0, h9, h10, h11]
    refine ⟨fun hlt => ?_, fun hge => ?_⟩
    · have hlt' : k < ss.length := by omega
      rcases hc with hc | ⟨b, o, rfl, hc⟩
      · exfalso
        cases ss with
        | nil => simp at hlt'
        | cons d ds => simp [SR.cells] at hc
      obtain ⟨x, hx⟩ : ∃ x, ss[k]? = some x := ⟨_, List.getElem?_eq_getElem hlt'⟩
      obtain ⟨hbm, hdk⟩ := hss x (List.mem_of_getElem? hx)
      have hc1 : ∀ j u, (ss.flatMap SR.cells)[j]? = some u → w2.cell? ⟨b, o + j, none⟩ = some u := fun j u hj => by rw [hE.cell (block_lt_of_cell (hc j u hj))]; exact hc j u hj
      simp only [↓VD, VP, VT, isAggD, reduceCtorEq, Int.reduceEq, Int.reduceNe, Int.reduceLT, Int.reduceLE, implies_true, Nat.reduceEqDiff, reduceIte, ite_true, ite_false, eq_self, Nat.reduceLT, Nat.reduceLeDiff, Nat.reduceAdd, Nat.reduceMul, Nat.reduceSub, intOf]
      refine ⟨by omega, by omega, ldE (f := SR.cells) c56 Tryz.underlying56 rfl (fun d h => rfl) hc1 hx ?_⟩
      simp only [↓VD, VP, VT, isAggD, reduceCtorEq, Int.reduceEq, Int.reduceNe, Int.reduceLT, Int.reduceLE, implies_true, Nat.reduceEqDiff, reduceIte, ite_true, ite_false, eq_self, Nat.reduceLT, Nat.reduceLeDiff, Nat.reduceAdd, Nat.reduceMul, Nat.reduceSub, intOf]
      intro w3 hN
      obtain ⟨ak, ck, hkv⟩ := slv_of hdk.2
      refine stAll hN.blk (vs := x.cells) rfl (by rw [c56]; decide) (by rw [c56]; rfl) (by rw [c56]; rfl) (by rw [SR.cells, hkv]; simp [oneCellV]) (fun w4 hP => ?_)
      simp only [↓VD, VP, VT, isAggD, reduceCtorEq, Int.reduceEq, Int.reduceNe, Int.reduceLT, Int.reduceLE, implies_true, Nat.reduceEqDiff, reduceIte, ite_true, ite_false, eq_self, Nat.reduceLT, Nat.reduceLeDiff, Nat.reduceAdd, Nat.reduceMul, Nat.reduceSub, intOf, h0, h9, h10, h11]
      have hE4 : Ext w w4 := hE.trans' (hN.ext.trans (hP.below (Nat.le_refl _)))
      obtain ⟨kv, bm, ks⟩ := x
      simp only at hkv hdk hbm
      subst hkv
      have hB : Blk w4 w2.heap.size 56 [.int .u16 bm, .slice ak ks.length ck] := hP.blk
      refine ldAt (pre := [.int .u16 bm]) (post := []) Tryz.underlying54 rfl hB rfl ?_
      simp only [↓VD, VP, VT, isAggD, reduceCtorEq, Int.reduceEq, Int.reduceNe, Int.reduceLT, Int.reduceLE, implies_true, Nat.reduceEqDiff, reduceIte, ite_true, ite_false, eq_self, Nat.reduceLT, Nat.reduceLeDiff, Nat.reduceAdd, Nat.reduceMul, Nat.reduceSub, intOf, h0, h9, h10, h11]
      obtain ⟨hd, a', c', he, hnc', hcm', hck⟩ := hdk
      cases he
      refine loopT (fun s' w' => Ext w w' ∧ ∃ i : Nat, i ≤ ks.length ∧ s' 0 = .int .i64 n ∧ s' 9 = .slice (some ⟨b, o, none⟩) ss.length c ∧ s' 10 = .int .i64 ss.length ∧ s' 11 = .int .i64 k ∧ s' 16 = .slice ak ks.length ck ∧ s' 17 = .int .i64 ks.length ∧ s' 18 = .int .i64 i ∧
        ∀ d ∈ ks.take i, formB n d = true) (fun s' _ => ks.length - (intOf (s' 18)).toNat) ?_ ?_
      · simp only [↓VD, VP, VT, isAggD, reduceCtorEq, Int.reduceEq, Int.reduceNe, Int.reduceLT, Int.reduceLE, implies_true, Nat.reduceEqDiff, reduceIte, ite_true, ite_false, eq_self, Nat.reduceLT, Nat.reduceLeDiff, Nat.reduceAdd, Nat.reduceMul, Nat.reduceSub, intOf, h0, h9, h10, h11]
        exact ⟨hE4, 0, by omega, rfl, by simp⟩
      · rintro s5 w5 ⟨hE5, i, hi, k0, k9, k10, k11, k16, k17, k18, hz5⟩
        simp only [↓VD, VP, VT, isAggD, reduceCtorEq, Int.reduceEq, Int.reduceNe, Int.reduceLT, Int.reduceLE, implies_true, Nat.reduceEqDiff, reduceIte, ite_true, ite_false, eq_self, Nat.reduceLT, Nat.reduceLeDiff, Nat.reduceAdd, Nat.reduceMul, Nat.reduceSub, intOf, k0, k9, k10, k11, k16, k17, k18]
        refine ⟨fun hlti => ?_, fun hgei => ?_⟩
        · have hlti' : i < ks.length := by omega
          rcases hck with hck | ⟨b', o', rfl, hck⟩
          · exfalso
            cases ks with
            | nil => simp at hlti'
            | cons d ds => have := hd d (by simp); simp at hck; simp [vbs] at hck; have h3 := hck.1; simp [h3] at this
          obtain ⟨y, hy⟩ : ∃ y, ks[i]? = some y := ⟨_, List.getElem?_eq_getElem hlti'⟩
          have hyl : y.length = 32 := hd y (List.mem_of_getElem? hy)
          have hc5 : ∀ j u, (ks.flatMap vbs)[j]? = some u → w5.cell? ⟨b', o' + j, none⟩ = some u := fun j u hj => by rw [hE5.cell (block_lt_of_cell (hck j u hj))]; exact hck j u hj
          simp only [↓VD, VP, VT, isAggD, reduceCtorEq, Int.reduceEq, Int.reduceNe, Int.reduceLT, Int.reduceLE, implies_true, Nat.reduceEqDiff, reduceIte, ite_true, ite_false, eq_self, Nat.reduceLT, Nat.reduceLeDiff, Nat.reduceAdd, Nat.reduceMul, Nat.reduceSub, intOf]
          refine ⟨by omega, by omega, ldE c28 Tryz.underlying28 rfl (fun d h => by rw [vbs_len]; exact hd d h) hc5 hy ?_⟩
          simp only [↓VD, VP, VT, isAggD, reduceCtorEq, Int.reduceEq, Int.reduceNe, Int.reduceLT, Int.reduceLE, implies_true, Nat.reduceEqDiff, reduceIte, ite_true, ite_false, eq_self, Nat.reduceLT, Nat.reduceLeDiff, Nat.reduceAdd, Nat.reduceMul, Nat.reduceSub, intOf]
          intro w6 hN6
          refine stAll hN6.blk rfl (by rw [c28]; omega) (by rw [c28, vbs_len, hyl]) (by rw [c28]; simp) (vbs_one y) (fun w7 hP7 => ?_)
          simp only [↓VD, VP, VT, isAggD, reduceCtorEq, Int.reduceEq, Int.reduceNe, Int.reduceLT, Int.reduceLE, implies_true, Nat.reduceEqDiff, reduceIte, ite_true, ite_false, eq_self, Nat.reduceLT, Nat.reduceLeDiff, Nat.reduceAdd, Nat.reduceMul, Nat.reduceSub, intOf, k0, k9, k10, k11, k16, k17, k18]
          refine ldA Tryz.underlying28 rfl hP7.blk (by rw [vbs_len, hyl, c28]) ?_
          simp only [↓VD, VP, VT, isAggD, reduceCtorEq, Int.reduceEq, Int.reduceNe, Int.reduceLT, Int.reduceLE, implies_true, Nat.reduceEqDiff, reduceIte, ite_true, ite_false, eq_self, Nat.reduceLT, Nat.reduceLeDiff, Nat.reduceAdd, Nat.reduceMul, Nat.reduceSub, intOf, k0, k9, k10, k11, k16, k17, k18]
          refine (Form_ok n y hyl w7).mono ?_
          rintro _ w8 ⟨rfl, hE8⟩
          have hE8' : Ext w w8 := (hE5.trans' (hN6.ext.trans (hP7.below (Nat.le_refl _)))).trans' hE8
          cases hf : formB n y
          · simp only [↓VD, VP, VT, isAggD, reduceCtorEq, Int.reduceEq, Int.reduceNe, Int.reduceLT, Int.reduceLE, implies_true, Nat.reduceEqDiff, reduceIte, ite_true, ite_false, eq_self, Nat.reduceLT, Nat.reduceLeDiff, Nat.reduceAdd, Nat.reduceMul, Nat.reduceSub, intOf, k0, k9, k10, k11, k16, k17, k18, hf]
            refine ⟨?_, hE8'⟩
            rw [decide_eq_false]
            intro hall
            rw [hall _ (List.mem_of_getElem? hx) y (List.mem_of_getElem? hy)] at hf
            cases hf
          · simp only [↓VD, VP, VT, isAggD, reduceCtorEq, Int.reduceEq, Int.reduceNe, Int.reduceLT, Int.reduceLE, implies_true, Nat.reduceEqDiff, reduceIte, ite_true, ite_false, eq_self, Nat.reduceLT, Nat.reduceLeDiff, Nat.reduceAdd, Nat.reduceMul, Nat.reduceSub, intOf, k0, k9, k10, k11, k16, k17, k18, hf]
            refine ⟨⟨hE8', i + 1, by omega, ?_, (take_all_succ hy).2 ⟨hz5, hf⟩⟩, ?_⟩
            · rw [w64 (by omega) (by omega)]; rfl
            · rw [w64 (by omega) (by omega)]; omega
        · rw [List.take_of_length_le (by omega)] at hz5
          refine ⟨⟨hE5, k + 1, by omega, ?_, (take_all_succ (p := fun s => ∀ d ∈ s.ks, formB n d = true) hx).2 ⟨hz, hz5⟩⟩, ?_⟩
          · rw [w64 (by omega) (by omega)]; rfl
          · rw [w64 (by omega) (by omega), h11]; simp only [intOf]; omega
    · rw [List.take_of_length_le (by omega)] at hz
      exact ⟨by rw [decide_eq_true (show kidsP n ss from hz)], hE⟩

end Go.Proofs.YticfalbgplifoaaGreatDoor
