/-
  The walks of package digest, third part: branches. Conditions: as stated in each theorem.
-/
import Derived.Test.YticfalbgplifoaaGreatDoorDigB
namespace Go.Proofs.YticfalbgplifoaaGreatDoor
set_option maxRecDepth 100000
open Go Go.RowKit
set_option linter.unusedVariables false
set_option linter.unusedSimpArgs false

def cutsB (n : Nat) (ds : List (List UInt8)) : List UInt8 := ds.flatMap (·.take n)
def branchP (n bm : Nat) (ds : List (List UInt8)) : List UInt8 := 4 :: (wideP bm 2 ++ cutsB n ds)
theorem cutsB_take {n : Nat} {ds : List (List UInt8)} {k : Nat} {x : List UInt8} (h : ds[k]? = some x) : cutsB n (ds.take (k + 1)) = cutsB n (ds.take k) ++ x.take n := by
  obtain ⟨hk, rfl⟩ := List.getElem?_eq_some_iff.1 h
  rw [List.take_succ_eq_append_getElem hk, cutsB, cutsB, List.flatMap_append]
  simp
theorem cutsB_split (n : Nat) (ds : List (List UInt8)) (k : Nat) : cutsB n ds = cutsB n (ds.take k) ++ cutsB n (ds.drop k) := by rw [cutsB, cutsB, cutsB, ← List.flatMap_append, List.take_append_drop]
theorem cutsB_len (n : Nat) (hn : n ≤ 32) : ∀ (ds : List (List UInt8)), (∀ d ∈ ds, d.length = 32) → (cutsB n ds).length = ds.length * n
  | [], _ => by simp [cutsB]
  | d :: ds, h => by
    have ih := cutsB_len n hn ds (fun x hx => h x (by simp [hx]))
    have hd := h d (by simp)
    simp only [cutsB, List.flatMap_cons, List.length_append, List.length_take, List.length_cons] at ih ⊢
    rw [ih, hd, Nat.add_mul]; omega
/-- What a branch's input answers. -/
def brE (n : Int) (bm : Nat) (ds : List (List UInt8)) : Nat := if chkE n ds ≠ 0 then chkE n ds else if bm = 0 ∨ cntB bm ≠ ds.length then 3 else 0

theorem BranchInput_ok (n : Int) (bm : Nat) (hb : bm < 65536) (v : Value) (ds : List (List UInt8)) (w : World) (hv : DigsAt w v ds) (hsz : ds.length ≤ 4000000000) :
    CallK Tryz.prog 86 [.int .i64 n, .int .u16 bm, v].toArray w fun v w' => ∃ a m c, v = .tuple [.slice a m c, .int .i64 (brE n bm ds)].toArray ∧ (brE n bm ds = 0 → Own w' w.heap.size 5 1 (.slice a m c) (branchP n.toNat bm ds).length (vbs (branchP n.toNat bm ds))) ∧ (brE n bm ds ≠ 0 → Value.slice a m c = .slice none 0 0) ∧ Ext w w' := by
  have hv' := hv
  obtain ⟨hd, a, c, rfl, hnc, hcm, hc⟩ := hv'
  refine enterT Tryz.func86 rfl Tryz.ntmps86 Tryz.results86 rfl (by decide) ?_
  simp only [↓VD, VP, VT, isAggD, reduceCtorEq, Int.reduceEq, Int.reduceNe, Int.reduceLT, Int.reduceLE, implies_true, Nat.reduceEqDiff, reduceIte, ite_true, ite_false, eq_self, Nat.reduceLT, Nat.reduceLeDiff, Nat.reduceAdd, Nat.reduceMul, Nat.reduceSub, intOf]
  refine (dcheck_ok n _ ds w hv).mono ?_
  rintro _ w1 ⟨rfl, hE1⟩
  simp only [↓VD, VP, VT, isAggD, reduceCtorEq, Int.reduceEq, Int.reduceNe, Int.reduceLT, Int.reduceLE, implies_true, Nat.reduceEqDiff, reduceIte, ite_true, ite_false, eq_self, Nat.reduceLT, Nat.reduceLeDiff, Nat.reduceAdd, Nat.reduceMul, Nat.reduceSub, intOf]
  refine ⟨fun he => ?_, fun he => ?_⟩
  · have he' : chkE n ds ≠ 0 := by omega
    have e : brE n bm ds = chkE n ds := by unfold brE; rw [if_pos he']
    rw [e]
    exact ⟨none, 0, 0, rfl, fun h => absurd h he', fun _ => rfl, hE1⟩
  · have he' : chkE n ds = 0 := by omega
    have hbr : brE n bm ds = if bm = 0 ∨ cntB bm ≠ ds.length then 3 else 0 := by unfold brE; rw [if_neg (by simp [he'])]
    have hwn : widB n = true := by
      unfold chkE at he'
      cases h : widB n
      · simp [h] at he'
      · rfl
    have hwn' := (widB_iff n).1 hwn
    obtain ⟨m, rfl⟩ : ∃ m : Nat, n = m := ⟨n.toNat, by omega⟩
    refine ⟨fun h0 => ?_, fun h0 => ?_⟩
    · have e : brE m bm ds = 3 := by rw [hbr, if_pos (Or.inl (by omega))]
      rw [e]
      exact ⟨none, 0, 0, rfl, fun h => (by cases h), fun _ => rfl, hE1⟩
    · refine (OnesCount16_ok bm hb w1).mono ?_
      rintro _ w2 ⟨rfl, hE2⟩
      simp only [↓VD, VP, VT, isAggD, reduceCtorEq, Int.reduceEq, Int.reduceNe, Int.reduceLT, Int.reduceLE, implies_true, Nat.reduceEqDiff, reduceIte, ite_true, ite_false, eq_self, Nat.reduceLT, Nat.reduceLeDiff, Nat.reduceAdd, Nat.reduceMul, Nat.reduceSub, intOf]
      refine ⟨fun h1 => ?_, fun h1 => ?_⟩
      · have e : brE m bm ds = 3 := by rw [hbr, if_pos (Or.inr (by omega))]
        rw [e]
        exact ⟨none, 0, 0, rfl, fun h => (by cases h), fun _ => rfl, hE1.trans' hE2⟩
      · have e : brE m bm ds = 0 := by rw [hbr, if_neg (by omega)]
        rw [e]
        have hE2' := hE1.trans' hE2
        intro w3 hN3
        have s3 := hN3.size
        have hwl : w.heap.size ≤ w2.heap.size := hE2'.size
        refine (U8_ok w2.heap.size w2.heap.size [] 4 w3 (by omega) ⟨_, hN3.blk, Own.nil _ _ _ _⟩ (by simp)).mono ?_
        rintro _ w4 ⟨hS4, hK4⟩
        have s4 := hK4.size
        simp only [↓VD, VP, VT, isAggD, reduceCtorEq, Int.reduceEq, Int.reduceNe, Int.reduceLT, Int.reduceLE, implies_true, Nat.reduceEqDiff, reduceIte, ite_true, ite_false, eq_self, Nat.reduceLT, Nat.reduceLeDiff, Nat.reduceAdd, Nat.reduceMul, Nat.reduceSub, intOf]
        refine (U16_ok w2.heap.size w2.heap.size _ bm hb w4 (by omega) hS4 (by simp)).mono ?_
        rintro _ w5 ⟨hS5, hK5⟩
        have s5 := hK5.size
        have hE5 : Ext w2 w5 := hN3.ext.trans ((hK4.trans hK5).below (Nat.le_refl _) (by omega))
        simp only [↓VD, VP, VT, isAggD, reduceCtorEq, Int.reduceEq, Int.reduceNe, Int.reduceLT, Int.reduceLE, implies_true, Nat.reduceEqDiff, reduceIte, ite_true, ite_false, eq_self, Nat.reduceLT, Nat.reduceLeDiff, Nat.reduceAdd, Nat.reduceMul, Nat.reduceSub, intOf]
        have hcl := cutsB_len m (by omega) ds hd
        have hwl2 := wideP_len bm 2
        refine loopT (fun s' w' => Ext w2 w' ∧ w5.heap.size ≤ w'.heap.size ∧ ∃ k : Nat, k ≤ ds.length ∧ s' 0 = .int .i64 m ∧ s' 9 = .pointer (some ⟨w2.heap.size, 0, none⟩) ∧ s' 30 = .slice a ds.length c ∧ s' 31 = .int .i64 ds.length ∧ s' 32 = .int .i64 k ∧
            Wr w' w2.heap.size w2.heap.size (4 :: (wideP bm 2 ++ cutsB m (ds.take k)))) (fun s' _ => ds.length - (intOf (s' 32)).toNat) ?_ ?_
        · simp only [↓VD, VP, VT, isAggD, reduceCtorEq, Int.reduceEq, Int.reduceNe, Int.reduceLT, Int.reduceLE, implies_true, Nat.reduceEqDiff, reduceIte, ite_true, ite_false, eq_self, Nat.reduceLT, Nat.reduceLeDiff, Nat.reduceAdd, Nat.reduceMul, Nat.reduceSub, intOf]
          exact ⟨hE5, Nat.le_refl _, 0, by omega, rfl, by simpa [cutsB] using hS5⟩
        · rintro s6 w6 ⟨hE, hs6, k, hk, h0', h9, h30, h31, h32, hS⟩
          simp only [↓VD, VP, VT, isAggD, reduceCtorEq, Int.reduceEq, Int.reduceNe, Int.reduceLT, Int.reduceLE, implies_true, Nat.reduceEqDiff, reduceIte, ite_true, ite_false, eq_self, Nat.reduceLT, Nat.reduceLeDiff, Nat.reduceAdd, Nat.reduceMul, Nat.reduceSub, intOf, h0', h9, h30, h31, h32]
          refine ⟨fun hlt => ?_, fun hge => ?_⟩
          · have hlt' : k < ds.length := by omega
            rcases hc with hc | ⟨b, o, rfl, hc⟩
            · exfalso
              cases ds with
              | nil => simp at hlt'
              | cons d ds => have := hd d (by simp); simp at hc; simp [vbs] at hc; have h3 := hc.1; simp [h3] at this
            obtain ⟨x, hx⟩ : ∃ x, ds[k]? = some x := ⟨_, List.getElem?_eq_getElem hlt'⟩
            have hxl : x.length = 32 := hd x (List.mem_of_getElem? hx)
            have htk := cutsB_take (n := m) hx
            have hsp := congrArg List.length (cutsB_split m ds (k + 1))
            rw [htk] at hsp
            simp only [List.length_append, List.length_take, hxl] at hsp
            have hEw : Ext w w6 := hE2'.trans' hE
            have hmul : ds.length * m ≤ 4000000000 * 32 := Nat.mul_le_mul hsz (by omega)
            have hc1 : ∀ j u, (ds.flatMap vbs)[j]? = some u → w6.cell? ⟨b, o + j, none⟩ = some u := fun j u hj => by rw [hEw.cell (block_lt_of_cell (hc j u hj))]; exact hc j u hj
            simp only [↓VD, VP, VT, isAggD, reduceCtorEq, Int.reduceEq, Int.reduceNe, Int.reduceLT, Int.reduceLE, implies_true, Nat.reduceEqDiff, reduceIte, ite_true, ite_false, eq_self, Nat.reduceLT, Nat.reduceLeDiff, Nat.reduceAdd, Nat.reduceMul, Nat.reduceSub, intOf]
            refine ⟨by omega, by omega, ldE c28 Tryz.underlying28 rfl (fun d h => by rw [vbs_len]; exact hd d h) hc1 hx ?_⟩
            simp only [↓VD, VP, VT, isAggD, reduceCtorEq, Int.reduceEq, Int.reduceNe, Int.reduceLT, Int.reduceLE, implies_true, Nat.reduceEqDiff, reduceIte, ite_true, ite_false, eq_self, Nat.reduceLT, Nat.reduceLeDiff, Nat.reduceAdd, Nat.reduceMul, Nat.reduceSub, intOf]
            intro w7 hN7
            have s7 := hN7.size
            refine stAll hN7.blk rfl (by rw [c28]; omega) (by rw [c28, vbs_len, hxl]) (by rw [c28]; simp) (vbs_one x) (fun w8 hP => ?_)
            have s8 := hP.size
            simp only [↓VD, VP, VT, isAggD, reduceCtorEq, Int.reduceEq, Int.reduceNe, Int.reduceLT, Int.reduceLE, implies_true, Nat.reduceEqDiff, reduceIte, ite_true, ite_false, eq_self, Nat.reduceLT, Nat.reduceLeDiff, Nat.reduceAdd, Nat.reduceMul, Nat.reduceSub, intOf, h0', h9, h30, h31, h32]
            refine ⟨by omega, by omega, fun o' ho' => ?_⟩
            have ho' : o' = 0 := ho'
            subst ho'
            rw [show ((m : Int) - 0).toNat = m from by omega]
            have hS8 : Wr w8 w2.heap.size w2.heap.size (4 :: (wideP bm 2 ++ cutsB m (ds.take k))) := by
              obtain ⟨y, hB, hO⟩ := hS
              exact ⟨y, hP.keep (hB.ext hN7.ext) (by omega), (hO.ext hN7.ext).put hN7.blk (by decide) hP⟩
            have htl : (x.take m).length = m := by rw [List.length_take]; omega
            have hE8 : Ext w2 w8 := (hE.trans' hN7.ext).trans (hP.below (by omega))
            have hvk : SlB w8 (.slice (some ⟨w6.heap.size, 0, none⟩) m 32) (x.take m) := by
              have := SlC.of_part (n := m) (c := 32) (o := 0) (m := vbs (x.take m)) hP.blk (by omega) (by decide) (fun j u hj => by
                rw [← vbs_take, List.getElem?_take] at hj
                rw [Nat.zero_add]
                split at hj
                · exact hj
                · cases hj)
              rw [SlB, htl]; exact this
            refine (Raw_ok w2.heap.size w2.heap.size _ (x.take m) _ w8 (by omega) hS8 hvk (by simp only [List.length_cons, List.length_append]; omega)).mono ?_
            rintro _ w9 ⟨hS9, hK9⟩
            have s9 := hK9.size
            simp only [↓VD, VP, VT, isAggD, reduceCtorEq, Int.reduceEq, Int.reduceNe, Int.reduceLT, Int.reduceLE, implies_true, Nat.reduceEqDiff, reduceIte, ite_true, ite_false, eq_self, Nat.reduceLT, Nat.reduceLeDiff, Nat.reduceAdd, Nat.reduceMul, Nat.reduceSub, intOf, h0', h9, h30, h31, h32]
            refine ⟨⟨hE8.trans (hK9.below (Nat.le_refl _) (by omega)), by omega, k + 1, by omega, ?_, ?_⟩, ?_⟩
            · rw [w64 (by omega) (by omega)]; rfl
            · rw [htk]
              simpa using hS9
            · rw [w64 (by omega) (by omega)]; omega
          · have hkl : k = ds.length := by omega
            subst hkl
            rw [List.take_length] at hS
            refine (Bytes_ok w2.heap.size w2.heap.size _ w6 hS ?_).mono ?_
            · have hmul : ds.length * m ≤ 4000000000 * 32 := Nat.mul_le_mul hsz (by omega)
              simp only [List.length_cons, List.length_append]; omega
            rintro v' w7 ⟨hO, hE7⟩
            have hv7 := SlC.of_own hO
            obtain ⟨a', c', rfl⟩ := slv_of hv7
            simp only [↓VD, VP, VT, isAggD, reduceCtorEq, Int.reduceEq, Int.reduceNe, Int.reduceLT, Int.reduceLE, implies_true, Nat.reduceEqDiff, reduceIte, ite_true, ite_false, eq_self, Nat.reduceLT, Nat.reduceLeDiff, Nat.reduceAdd, Nat.reduceMul, Nat.reduceSub, intOf, h0', h9, h30, h31, h32]
            refine ⟨a', _, c', rfl, ?_, (hE2'.trans' hE).trans' hE7⟩
            rw [branchP]
            exact hO.base (by have := hE2'.size; have := hE.size; omega)

theorem own_len {w : World} {base e sz m n : Nat} {a : Option Addr} {c : Nat} {xs : List Value} (h : Own w base e sz (.slice a m c) n xs) : m = n := by
  rcases h.2 with ⟨h1, h2⟩ | ⟨g, cap, cur, h1, _⟩
  · cases h1; exact h2.symm
  · cases h1; rfl
theorem Branch_ok (n : Int) (bm : Nat) (hb : bm < 65536) (v : Value) (ds : List (List UInt8)) (w : World) (hW : WordsAt w 1) (hv : DigsAt w v ds) (hsz : ds.length ≤ 4000000000) :
    CallK Tryz.prog 57 [.int .i64 n, .int .u16 bm, v].toArray w fun v w' => v = .tuple [.agg (vbs (if brE n bm ds = 0 then sumR n (branchP n.toNat bm ds) else List.replicate 32 0)).toArray, .int .i64 (if brE n bm ds = 0 then sumE n else brE n bm ds : Nat)].toArray ∧ Ext w w' := by
  refine enterT Tryz.func57 rfl Tryz.ntmps57 Tryz.results57 rfl (by decide) ?_
  simp only [↓VD, VP, VT, isAggD, reduceCtorEq, Int.reduceEq, Int.reduceNe, Int.reduceLT, Int.reduceLE, implies_true, Nat.reduceEqDiff, reduceIte, ite_true, ite_false, eq_self, Nat.reduceLT, Nat.reduceLeDiff, Nat.reduceAdd, Nat.reduceMul, Nat.reduceSub, intOf]
  intro w1 hN1
  rw [vbs_rep] at hN1
  refine (BranchInput_ok n bm hb v ds w1 ⟨hv.1, hv.2.ext hN1.ext⟩ hsz).mono ?_
  rintro _ w2 ⟨a, m, c, rfl, h0, h1, hE2⟩
  simp only [↓VD, VP, VT, isAggD, reduceCtorEq, Int.reduceEq, Int.reduceNe, Int.reduceLT, Int.reduceLE, implies_true, Nat.reduceEqDiff, reduceIte, ite_true, ite_false, eq_self, Nat.reduceLT, Nat.reduceLeDiff, Nat.reduceAdd, Nat.reduceMul, Nat.reduceSub, intOf]
  have hlen : (branchP n.toNat bm ds).length < 18446744073709551616 ∨ brE n bm ds ≠ 0 := by
    by_cases he : brE n bm ds = 0
    · left
      have hwn : widB n = true := by
        unfold brE chkE at he
        cases h : widB n
        · simp [h] at he
        · rfl
      have hwn' := (widB_iff n).1 hwn
      have hcl := cutsB_len n.toNat (by omega) ds hv.1
      have hmul : ds.length * n.toNat ≤ 4000000000 * 32 := Nat.mul_le_mul hsz (by omega)
      simp only [branchP, List.length_cons, List.length_append, wideP_len]
      omega
    · exact Or.inr he
  refine (of_ok n _ (if brE n bm ds = 0 then branchP n.toNat bm ds else []) (brE n bm ds) w2 (hW.ext (hN1.ext.trans' hE2)) (fun h => by rw [if_pos h]; obtain rfl := own_len (h0 h); exact SlC.of_own (h0 h)) (by
    split
    · rename_i h; exact hlen.resolve_right (fun h' => h' h)
    · simp)).mono ?_
  rintro _ w3 ⟨rfl, hE3⟩
  have hdl : (if brE n bm ds = 0 then sumR n (if brE n bm ds = 0 then branchP n.toNat bm ds else []) else List.replicate 32 0).length = 32 := by
    split
    · exact sumR_len _ _
    · simp
  simp only [↓VD, VP, VT, isAggD, reduceCtorEq, Int.reduceEq, Int.reduceNe, Int.reduceLT, Int.reduceLE, implies_true, Nat.reduceEqDiff, reduceIte, ite_true, ite_false, eq_self, Nat.reduceLT, Nat.reduceLeDiff, Nat.reduceAdd, Nat.reduceMul, Nat.reduceSub, intOf]
  refine stAll ((hN1.blk.ext hE2).ext hE3) rfl (by rw [c28]; omega) (by rw [c28, vbs_len, hdl]) (by rw [c28]; rfl) (vbs_one _) (fun w5 hP => ?_)
  simp only [↓VD, VP, VT, isAggD, reduceCtorEq, Int.reduceEq, Int.reduceNe, Int.reduceLT, Int.reduceLE, implies_true, Nat.reduceEqDiff, reduceIte, ite_true, ite_false, eq_self, Nat.reduceLT, Nat.reduceLeDiff, Nat.reduceAdd, Nat.reduceMul, Nat.reduceSub, intOf]
  refine ldA Tryz.underlying28 rfl hP.blk (by rw [c28, vbs_len, hdl]) ?_
  simp only [↓VD, VP, VT, isAggD, reduceCtorEq, Int.reduceEq, Int.reduceNe, Int.reduceLT, Int.reduceLE, implies_true, Nat.reduceEqDiff, reduceIte, ite_true, ite_false, eq_self, Nat.reduceLT, Nat.reduceLeDiff, Nat.reduceAdd, Nat.reduceMul, Nat.reduceSub, intOf]
  refine ⟨?_, ((hN1.ext.trans' hE2).trans' hE3).trans (hP.below (Nat.le_refl _))⟩
  by_cases he : brE n bm ds = 0
  · simp [he]
  · simp [he]

end Go.Proofs.YticfalbgplifoaaGreatDoor
