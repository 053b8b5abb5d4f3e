/-
  The walks of the writer (package wire). Conditions: as stated in each theorem.
-/
import Derived.Test.YticfalbgplifoaaGreatDoorShf
namespace Go.Proofs.YticfalbgplifoaaGreatDoor
set_option maxRecDepth 100000
open Go Go.RowKit
set_option linter.unusedVariables false
set_option linter.unusedSimpArgs false

/-- A slice of bytes that may be read. -/
abbrev SlB (w : World) (v : Value) (xs : List UInt8) : Prop := SlC w v xs.length (vbs xs)
theorem slv_of {w : World} {v : Value} {n : Nat} {l : List Value} (h : SlC w v n l) : ∃ a c, v = .slice a n c := by obtain ⟨a, c, rfl, _⟩ := h; exact ⟨a, c, rfl⟩
/-- A writer in block b that has written xs. -/
def Wr (w : World) (base b : Nat) (xs : List UInt8) : Prop := ∃ v, Blk w b 128 [v] ∧ Own w base 5 1 v xs.length (vbs xs)
/-- Kept: all blocks but b, and but the blocks of bytes at base or above. -/
structure KeepW (w w' : World) (base b : Nat) : Prop where
  os : w'.os = w.os
  tape : w'.tape = w.tape
  output : w'.output = w.output
  size : w.heap.size ≤ w'.heap.size
  other : ∀ k, k < w.heap.size → k ≠ b → (k < base ∨ ∀ cs r, w.heap[k]? ≠ some (.cells cs 5 r)) → w'.heap[k]? = w.heap[k]?
theorem KeepW.rfl' (w : World) (base b : Nat) : KeepW w w base b := ⟨rfl, rfl, rfl, Nat.le_refl _, fun _ _ _ _ => rfl⟩
theorem KeepW.trans {a b c : World} {base k : Nat} (h : KeepW a b base k) (g : KeepW b c base k) : KeepW a c base k :=
  ⟨g.os.trans h.os, g.tape.trans h.tape, g.output.trans h.output, Nat.le_trans h.size g.size, fun j hj hk ht => by
    have e := h.other j hj hk ht
    rw [g.other j (by have := h.size; omega) hk (by rw [e]; exact ht), e]⟩
theorem KeepW.of_ext {w w' : World} {base b : Nat} (h : Ext w w') : KeepW w w' base b := ⟨h.os, h.tape, h.output, h.size, fun k hk _ _ => h.block k hk⟩
theorem KeepW.below {w w' : World} {base b : Nat} (h : KeepW w w' base b) (hB : base ≤ b) (hw : base ≤ w.heap.size) : Below base w w' := ⟨h.os, h.tape, h.output, h.size, fun k hk => h.other k (by omega) (by omega) (Or.inl hk)⟩
theorem KeepW.blk {w w' : World} {base b c : Nat} {T : TypeId} {l : List Value} (h : KeepW w w' base b) (k : Blk w c T l) (hc : c ≠ b) (hT : T ≠ 5) : Blk w' c T l :=
  ⟨by rw [h.other c k.lt hc (Or.inr fun cs r e => by rw [k.out] at e; cases e; exact hT rfl)]; exact k.out⟩
theorem Own.put {w w' : World} {base e sz n b T U : Nat} {v : Value} {xs l m : List Value} (h : Own w base e sz v n xs) (k : Blk w b T l) (hT : T ≠ e) (p : Put w w' b U m) : Own w' base e sz v n xs := by
  refine ⟨h.1, ?_⟩
  rcases h.2 with hn | ⟨g, cap, cur, rfl, hbg, hg, rest⟩
  · exact .inl hn
  · refine .inr ⟨g, cap, cur, rfl, hbg, ?_, rest⟩
    rw [p.other g]
    · exact hg
    · rintro rfl
      rw [k.out] at hg
      cases hg
      exact hT rfl
theorem Own.blk {w w' : World} {base e sz n b T : Nat} {v : Value} {xs l : List Value} (h : Own w base e sz v n xs) (k : Blk w b T l) (hT : T ≠ e) (g : w.grownBy w' v.ownBlock) : Blk w' b T l := by
  have hne : some b ≠ v.ownBlock := by
    rcases h.2 with ⟨rfl, _⟩ | ⟨j, cap, cur, rfl, hbg, hg, rest⟩
    · simp [Value.ownBlock]
    · simp only [Value.ownBlock, ne_eq, Option.some.injEq]
      rintro rfl
      rw [k.out] at hg
      cases hg
      exact hT rfl
  exact ⟨by rw [g.block b k.lt hne]; exact k.out⟩
theorem KeepW.of_grown {w w' : World} {base b n : Nat} {v : Value} {xs : List Value} (h : Own w base 5 1 v n xs) (g : w.grownBy w' v.ownBlock) : KeepW w w' base b := by
  refine ⟨g.os, g.tape, g.output, g.size, fun k hk _ ht => g.block k hk ?_⟩
  rcases h.2 with ⟨rfl, _⟩ | ⟨j, cap, cur, rfl, hbg, hg, rest⟩
  · simp [Value.ownBlock]
  · simp only [Value.ownBlock, ne_eq, Option.some.injEq]
    rintro rfl
    rcases ht with ht | ht
    · omega
    · exact ht _ _ hg
theorem Own.of_blk {w : World} {base e sz n b : Nat} {l : List Value} (hB : Blk w b e l) (hb : base ≤ b) (hl : l.length = n * sz) (hn : n ≤ 9223372036854775807) : Own w base e sz (.slice (some ⟨b, 0, none⟩) n n) n l :=
  ⟨hl, .inr ⟨b, n, l.toArray, rfl, hb, hB.out, Nat.le_refl _, by rw [maxLen_eq]; exact hn, by simpa using hl, by simp [← hl]⟩⟩
theorem KeepW.of_put {w w' : World} {base b : Nat} {T : TypeId} {l : List Value} (h : Put w w' b T l) : KeepW w w' base b := ⟨h.os, h.tape, h.output, Nat.le_of_eq h.size.symm, fun k _ hk _ => h.other k hk⟩

set_option maxRecDepth 100000 in
theorem add_ok (base b : Nat) (xs ps : List UInt8) (v : Value) (w : World) (hb : base ≤ w.heap.size) (hS : Wr w base b xs) (hv : SlB w v ps) (hsz : xs.length + ps.length ≤ 140737488355328) :
    CallK Tryz.prog 110 [.pointer (some ⟨b, 0, none⟩), v].toArray w fun _ w' => Wr w' base b (xs ++ ps) ∧ KeepW w w' base b := by
  obtain ⟨x, hB, hO⟩ := hS
  refine enterT Tryz.func110 rfl Tryz.ntmps110 Tryz.results110 rfl (by decide) ?_
  simp only [↓VD, VP, VT, isAggD, reduceCtorEq, Int.reduceEq, Int.reduceNe, Int.reduceLT, Int.reduceLE, implies_true, Nat.reduceEqDiff, reduceIte, ite_true, ite_false, eq_self, Nat.reduceLT, Nat.reduceLeDiff, Nat.reduceAdd, Nat.reduceMul, Nat.reduceSub, intOf]
  refine ldAt (pre := []) (post := []) Tryz.underlying22 rfl hB rfl ?_
  simp only [↓VD, VP, VT, isAggD, reduceCtorEq, Int.reduceEq, Int.reduceNe, Int.reduceLT, Int.reduceLE, implies_true, Nat.reduceEqDiff, reduceIte, ite_true, ite_false, eq_self, Nat.reduceLT, Nat.reduceLeDiff, Nat.reduceAdd, Nat.reduceMul, Nat.reduceSub, intOf]
  refine apS Tryz.underlying22 z5 c5 rfl (by decide) hO hb hv (by rw [vbs_len, Nat.mul_one]) (vbs_one _) (by omega) (by rw [by5]; omega) (fun v' w1 hO1 hg => ?_)
  have hB1 := hO.blk hB (by decide) hg
  simp only [↓VD, VP, VT, isAggD, reduceCtorEq, Int.reduceEq, Int.reduceNe, Int.reduceLT, Int.reduceLE, implies_true, Nat.reduceEqDiff, reduceIte, ite_true, ite_false, eq_self, Nat.reduceLT, Nat.reduceLeDiff, Nat.reduceAdd, Nat.reduceMul, Nat.reduceSub, intOf]
  obtain ⟨a1, n1, c1, rfl⟩ : ∃ a n c, v' = .slice a n c := by
    rcases hO1.2 with ⟨rfl, _⟩ | ⟨g, cap, cur, rfl, _⟩
    · exact ⟨_, _, _, rfl⟩
    · exact ⟨_, _, _, rfl⟩
  refine stAt (pre := []) (post := []) c22 hB1 rfl rfl rfl (fun w2 hP => ?_)
  simp only [↓VD, VP, VT, isAggD, reduceCtorEq, Int.reduceEq, Int.reduceNe, Int.reduceLT, Int.reduceLE, implies_true, Nat.reduceEqDiff, reduceIte, ite_true, ite_false, eq_self, Nat.reduceLT, Nat.reduceLeDiff, Nat.reduceAdd, Nat.reduceMul, Nat.reduceSub, intOf]
  refine ⟨⟨_, hP.blk, ?_⟩, (KeepW.of_grown hO hg).trans (KeepW.of_put hP)⟩
  have := hO1.put hB1 (by decide) hP
  simpa [vbs] using this

theorem u8_mk (n : Int) (h0 : 0 ≤ n) (h1 : n ≤ 255) : ∃ y : UInt8, n = y.toNat := ⟨UInt8.ofNat n.toNat, by simp; omega⟩

set_option maxRecDepth 100000 in
theorem addOne (base b : Nat) (xs : List UInt8) (y : UInt8) (w w1 : World) (hb : base ≤ w.heap.size) (hS : Wr w base b xs) (hsz : xs.length + 1 ≤ 140737488355328) (hN : NewB w w1 5 [.int .u8 y.toNat]) :
    CallK Tryz.prog 110 [.pointer (some ⟨b, 0, none⟩), .slice (some ⟨w.heap.size, 0, none⟩) 1 1].toArray w1 fun _ w' => Wr w' base b (xs ++ [y]) ∧ KeepW w w' base b := by
  obtain ⟨x, hB, hO⟩ := hS
  refine (add_ok base b xs [y] _ w1 (by have := hN.size; omega) ⟨x, hB.ext hN.ext, hO.ext hN.ext⟩ (SlC.of_blk hN.blk (by simp)) (by simpa using hsz)).mono ?_
  rintro _ w2 ⟨h1, h2⟩
  exact ⟨h1, (KeepW.of_ext hN.ext).trans h2⟩

set_option maxRecDepth 100000 in
theorem U8_ok (base b : Nat) (xs : List UInt8) (y : UInt8) (w : World) (hb : base ≤ w.heap.size) (hS : Wr w base b xs) (hsz : xs.length + 1 ≤ 140737488355328) :
    CallK Tryz.prog 95 [.pointer (some ⟨b, 0, none⟩), .int .u8 y.toNat].toArray w fun _ w' => Wr w' base b (xs ++ [y]) ∧ KeepW w w' base b := by
  refine enterT Tryz.func95 rfl Tryz.ntmps95 Tryz.results95 rfl (by decide) ?_
  simp only [↓VD, VP, VT, isAggD, reduceCtorEq, Int.reduceEq, Int.reduceNe, Int.reduceLT, Int.reduceLE, implies_true, Nat.reduceEqDiff, reduceIte, ite_true, ite_false, eq_self, Nat.reduceLT, Nat.reduceLeDiff, Nat.reduceAdd, Nat.reduceMul, Nat.reduceSub, intOf]
  refine ⟨rfl, rfl, fun w1 hN => ?_⟩
  refine (addOne base b xs y w w1 hb hS hsz hN).mono ?_
  rintro _ w2 h
  simp only [↓VD, VP, VT, isAggD, reduceCtorEq, Int.reduceEq, Int.reduceNe, Int.reduceLT, Int.reduceLE, implies_true, Nat.reduceEqDiff, reduceIte, ite_true, ite_false, eq_self, Nat.reduceLT, Nat.reduceLeDiff, Nat.reduceAdd, Nat.reduceMul, Nat.reduceSub, intOf]
  exact h

set_option maxRecDepth 100000 in
theorem Raw_ok (base b : Nat) (xs ps : List UInt8) (v : Value) (w : World) (hb : base ≤ w.heap.size) (hS : Wr w base b xs) (hv : SlB w v ps) (hsz : xs.length + ps.length ≤ 140737488355328) :
    CallK Tryz.prog 96 [.pointer (some ⟨b, 0, none⟩), v].toArray w fun _ w' => Wr w' base b (xs ++ ps) ∧ KeepW w w' base b := by
  refine enterT Tryz.func96 rfl Tryz.ntmps96 Tryz.results96 rfl (by decide) ?_
  simp only [↓VD, VP, VT, isAggD, reduceCtorEq, Int.reduceEq, Int.reduceNe, Int.reduceLT, Int.reduceLE, implies_true, Nat.reduceEqDiff, reduceIte, ite_true, ite_false, eq_self, Nat.reduceLT, Nat.reduceLeDiff, Nat.reduceAdd, Nat.reduceMul, Nat.reduceSub, intOf]
  refine (add_ok base b xs ps v w hb hS hv hsz).mono ?_
  rintro _ w2 h
  simp only [↓VD, VP, VT, isAggD, reduceCtorEq, Int.reduceEq, Int.reduceNe, Int.reduceLT, Int.reduceLE, implies_true, Nat.reduceEqDiff, reduceIte, ite_true, ite_false, eq_self, Nat.reduceLT, Nat.reduceLeDiff, Nat.reduceAdd, Nat.reduceMul, Nat.reduceSub, intOf]
  exact h

/-! ### Uvar -/
def uvarP (n : Nat) : List UInt8 := if h : n < 128 then [UInt8.ofNat n] else UInt8.ofNat (n % 128 + 128) :: uvarP (n / 128)
termination_by n
decreasing_by omega
theorem uvarP_lo {n : Nat} (h : n < 128) : uvarP n = [UInt8.ofNat n] := by rw [uvarP, dif_pos h]
theorem uvarP_hi {n : Nat} (h : ¬ n < 128) : uvarP n = UInt8.ofNat (n % 128 + 128) :: uvarP (n / 128) := by rw [uvarP, dif_neg h]
theorem uvarP_len : ∀ (k n : Nat), n < 128 ^ (k + 1) → (uvarP n).length ≤ k + 1
  | 0, n, h => by rw [uvarP_lo (by simpa using h)]; simp
  | k + 1, n, h => by
    by_cases h1 : n < 128
    · rw [uvarP_lo h1]; simp
    · rw [uvarP_hi h1, List.length_cons]
      have := uvarP_len k (n / 128) (by rw [Nat.div_lt_iff_lt_mul (by decide)]; rw [Nat.pow_succ] at h; exact h)
      omega
theorem uvarP_len10 {n : Nat} (h : n < 18446744073709551616) : (uvarP n).length ≤ 10 := uvarP_len 9 n (by omega)
theorem or128 (n : Nat) : ibits .or .u8 (IntKind.u8.wrap (n : Int)) 128 = ((UInt8.ofNat (n % 128 + 128)).toNat : Int) := by
  rw [wr8]
  have key : ∀ k : Fin 256, ibits .or .u8 ((k.val : Nat) : Int) 128 = ((k.val % 128 + 128 : Nat) : Int) := by decide +kernel
  have h := key ⟨(UInt8.ofNat n).toNat, UInt8.toNat_lt _⟩
  simp only at h
  rw [h]
  simp
  omega

set_option maxRecDepth 100000 in
theorem Uvar_ok (base b : Nat) (xs : List UInt8) (n : Nat) (hn : n < 18446744073709551616) (w : World) (hb : base ≤ w.heap.size) (hS : Wr w base b xs) (hsz : xs.length + 10 ≤ 140737488355328) :
    CallK Tryz.prog 99 [.pointer (some ⟨b, 0, none⟩), .int .u64 n].toArray w fun _ w' => Wr w' base b (xs ++ uvarP n) ∧ KeepW w w' base b := by
  have hlen := uvarP_len10 hn
  refine enterT Tryz.func99 rfl Tryz.ntmps99 Tryz.results99 rfl (by decide) ?_
  simp only [↓VD, VP, VT, isAggD, reduceCtorEq, Int.reduceEq, Int.reduceNe, Int.reduceLT, Int.reduceLE, implies_true, Nat.reduceEqDiff, reduceIte, ite_true, ite_false, eq_self, Nat.reduceLT, Nat.reduceLeDiff, Nat.reduceAdd, Nat.reduceMul, Nat.reduceSub, intOf]
  refine loopT (fun s' w' => KeepW w w' base b ∧ s' 0 = .pointer (some ⟨b, 0, none⟩) ∧ ∃ m pre, s' 1 = .int .u64 (m : Nat) ∧ m ≤ n ∧ uvarP n = pre ++ uvarP m ∧ Wr w' base b (xs ++ pre)) (fun s' _ => (intOf (s' 1)).toNat) ?_ ?_
  · simp only [↓VD, VP, VT, isAggD, reduceCtorEq, Int.reduceEq, Int.reduceNe, Int.reduceLT, Int.reduceLE, implies_true, Nat.reduceEqDiff, reduceIte, ite_true, ite_false, eq_self, Nat.reduceLT, Nat.reduceLeDiff, Nat.reduceAdd, Nat.reduceMul, Nat.reduceSub, intOf]
    exact ⟨KeepW.rfl' w base b, n, [], rfl, Nat.le_refl _, rfl, by simpa using hS⟩
  · rintro s1 w1 ⟨hK, h0, m, pre, h1, hmn, hp, hS1⟩
    have hs1 := hK.size
    have hpl : pre.length + (uvarP m).length ≤ 10 := by rw [← List.length_append, ← hp]; exact hlen
    have hul : 1 ≤ (uvarP m).length := by
      by_cases h : m < 128
      · rw [uvarP_lo h]; simp
      · rw [uvarP_hi h]; simp
    simp only [↓VD, VP, VT, isAggD, reduceCtorEq, Int.reduceEq, Int.reduceNe, Int.reduceLT, Int.reduceLE, implies_true, Nat.reduceEqDiff, reduceIte, ite_true, ite_false, eq_self, Nat.reduceLT, Nat.reduceLeDiff, Nat.reduceAdd, Nat.reduceMul, Nat.reduceSub, intOf, h0, h1]
    refine ⟨fun hge => ?_, fun hlt => ?_⟩
    · have h2 : ¬ m < 128 := by omega
      simp only [↓VD, VP, VT, isAggD, reduceCtorEq, Int.reduceEq, Int.reduceNe, Int.reduceLT, Int.reduceLE, implies_true, Nat.reduceEqDiff, reduceIte, ite_true, ite_false, eq_self, Nat.reduceLT, Nat.reduceLeDiff, Nat.reduceAdd, Nat.reduceMul, Nat.reduceSub, intOf, h0, h1, or128]
      refine ⟨rfl, rfl, fun w2 hN => ?_⟩
      refine (addOne base b (xs ++ pre) _ w1 w2 (by omega) hS1 (by rw [List.length_append]; omega) hN).mono ?_
      rintro _ w3 ⟨hS3, hK3⟩
      simp only [↓VD, VP, VT, isAggD, reduceCtorEq, Int.reduceEq, Int.reduceNe, Int.reduceLT, Int.reduceLE, implies_true, Nat.reduceEqDiff, reduceIte, ite_true, ite_false, eq_self, Nat.reduceLT, Nat.reduceLeDiff, Nat.reduceAdd, Nat.reduceMul, Nat.reduceSub, intOf, h0, h1, show (m : Int).fdiv (2 ^ min (Int.toNat 7) IntKind.u64.bits) = ((m / 2 ^ 7 : Nat) : Int) from fdivN m 7 64 (by decide)]
      refine ⟨⟨hK.trans hK3, m / 128, pre ++ [UInt8.ofNat (m % 128 + 128)], rfl, by omega, ?_, by rw [← List.append_assoc]; exact hS3⟩, by omega⟩
      rw [hp, uvarP_hi h2]; simp
    · have h2 : m < 128 := by omega
      simp only [↓VD, VP, VT, isAggD, reduceCtorEq, Int.reduceEq, Int.reduceNe, Int.reduceLT, Int.reduceLE, implies_true, Nat.reduceEqDiff, reduceIte, ite_true, ite_false, eq_self, Nat.reduceLT, Nat.reduceLeDiff, Nat.reduceAdd, Nat.reduceMul, Nat.reduceSub, intOf, h0, h1, wr8]
      refine ⟨rfl, rfl, fun w2 hN => ?_⟩
      refine (addOne base b (xs ++ pre) _ w1 w2 (by omega) hS1 (by rw [List.length_append]; omega) hN).mono ?_
      rintro _ w3 ⟨hS3, hK3⟩
      simp only [↓VD, VP, VT, isAggD, reduceCtorEq, Int.reduceEq, Int.reduceNe, Int.reduceLT, Int.reduceLE, implies_true, Nat.reduceEqDiff, reduceIte, ite_true, ite_false, eq_self, Nat.reduceLT, Nat.reduceLeDiff, Nat.reduceAdd, Nat.reduceMul, Nat.reduceSub, intOf, h0, h1]
      refine ⟨?_, hK.trans hK3⟩
      rw [hp, uvarP_lo h2, ← List.append_assoc]
      exact hS3

def blobP (ps : List UInt8) : List UInt8 := uvarP ps.length ++ ps
set_option maxRecDepth 100000 in
theorem Blob_ok (base b : Nat) (xs ps : List UInt8) (v : Value) (w w0 : World) (hb : base ≤ w.heap.size) (hbb : base ≤ b) (hS : Wr w base b xs) (hv : SlB w0 v ps) (h0 : Ext w0 w) (h1 : w0.heap.size ≤ base) (hsz : xs.length + ps.length + 10 ≤ 140737488355328) :
    CallK Tryz.prog 100 [.pointer (some ⟨b, 0, none⟩), v].toArray w fun _ w' => Wr w' base b (xs ++ blobP ps) ∧ KeepW w w' base b := by
  have hv' := hv
  obtain ⟨a, c, rfl, hnc, hcm, hc⟩ := hv'
  refine enterT Tryz.func100 rfl Tryz.ntmps100 Tryz.results100 rfl (by decide) ?_
  simp only [↓VD, VP, VT, isAggD, reduceCtorEq, Int.reduceEq, Int.reduceNe, Int.reduceLT, Int.reduceLE, implies_true, Nat.reduceEqDiff, reduceIte, ite_true, ite_false, eq_self, Nat.reduceLT, Nat.reduceLeDiff, Nat.reduceAdd, Nat.reduceMul, Nat.reduceSub, intOf, (show IntKind.u64.wrap ((ps.length : Int)) = ((ps.length : Nat) : Int) from by rw [wu64 (by omega) (by omega)] <;> omega)]
  refine (Uvar_ok base b xs ps.length (by omega) w hb hS (by omega)).mono ?_
  rintro _ w1 ⟨hS1, hK1⟩
  have hs1 := hK1.size
  have hul := uvarP_len10 (n := ps.length) (by omega)
  simp only [↓VD, VP, VT, isAggD, reduceCtorEq, Int.reduceEq, Int.reduceNe, Int.reduceLT, Int.reduceLE, implies_true, Nat.reduceEqDiff, reduceIte, ite_true, ite_false, eq_self, Nat.reduceLT, Nat.reduceLeDiff, Nat.reduceAdd, Nat.reduceMul, Nat.reduceSub, intOf]
  have hE1 : Ext w0 w1 := h0.trans ((hK1.below hbb hb).mono h1)
  refine (Raw_ok base b (xs ++ uvarP ps.length) ps _ w1 (by omega) hS1 (hv.ext hE1) (by rw [List.length_append]; omega)).mono ?_
  rintro _ w2 ⟨hS2, hK2⟩
  simp only [↓VD, VP, VT, isAggD, reduceCtorEq, Int.reduceEq, Int.reduceNe, Int.reduceLT, Int.reduceLE, implies_true, Nat.reduceEqDiff, reduceIte, ite_true, ite_false, eq_self, Nat.reduceLT, Nat.reduceLeDiff, Nat.reduceAdd, Nat.reduceMul, Nat.reduceSub, intOf]
  refine ⟨?_, hK1.trans hK2⟩
  rw [blobP, ← List.append_assoc]
  exact hS2

/-! ### wide, U16 -/
def wideP (v k : Nat) : List UInt8 := (List.range k).map fun i => UInt8.ofNat (v / 2 ^ (8 * (k - 1 - i)))
theorem wideP_len (v k : Nat) : (wideP v k).length = k := by simp [wideP]
theorem wideP_take (v k i : Nat) (hi : i < k) : (wideP v k).take i ++ [UInt8.ofNat (v / 2 ^ (8 * (k - 1 - i)))] = (wideP v k).take (i + 1) := by
  rw [List.take_succ_eq_append_getElem (by rw [wideP_len]; exact hi)]
  simp [wideP]
set_option maxRecDepth 100000 in
theorem wide_ok (base b : Nat) (xs : List UInt8) (n k : Nat) (hk : k ≤ 8) (w : World) (hb : base ≤ w.heap.size) (hS : Wr w base b xs) (hsz : xs.length + 8 ≤ 140737488355328) :
    CallK Tryz.prog 113 [.pointer (some ⟨b, 0, none⟩), .int .u64 n, .int .i64 k].toArray w fun _ w' => Wr w' base b (xs ++ wideP n k) ∧ KeepW w w' base b := by
  refine enterT Tryz.func113 rfl Tryz.ntmps113 Tryz.results113 rfl (by decide) ?_
  simp only [↓VD, VP, VT, isAggD, reduceCtorEq, Int.reduceEq, Int.reduceNe, Int.reduceLT, Int.reduceLE, implies_true, Nat.reduceEqDiff, reduceIte, ite_true, ite_false, eq_self, Nat.reduceLT, Nat.reduceLeDiff, Nat.reduceAdd, Nat.reduceMul, Nat.reduceSub, intOf]
  have hk1 : IntKind.i64.wrap ((k : Int) - 1) = (k : Int) - 1 := w64 (by omega) (by omega)
  refine loopT (fun s' w' => KeepW w w' base b ∧ s' 0 = .pointer (some ⟨b, 0, none⟩) ∧ s' 1 = .int .u64 n ∧ ∃ i : Nat, i ≤ k ∧ s' 6 = .int .i64 ((k : Int) - 1 - i) ∧ Wr w' base b (xs ++ (wideP n k).take i)) (fun s' _ => (intOf (s' 6) + 1).toNat) ?_ ?_
  · simp only [↓VD, VP, VT, isAggD, reduceCtorEq, Int.reduceEq, Int.reduceNe, Int.reduceLT, Int.reduceLE, implies_true, Nat.reduceEqDiff, reduceIte, ite_true, ite_false, eq_self, Nat.reduceLT, Nat.reduceLeDiff, Nat.reduceAdd, Nat.reduceMul, Nat.reduceSub, intOf, hk1]
    exact ⟨KeepW.rfl' w base b, 0, by omega, by omega, by simpa using hS⟩
  · rintro s1 w1 ⟨hK, h0, h1, i, hi, h6, hS1⟩
    have hs1 := hK.size
    simp only [↓VD, VP, VT, isAggD, reduceCtorEq, Int.reduceEq, Int.reduceNe, Int.reduceLT, Int.reduceLE, implies_true, Nat.reduceEqDiff, reduceIte, ite_true, ite_false, eq_self, Nat.reduceLT, Nat.reduceLeDiff, Nat.reduceAdd, Nat.reduceMul, Nat.reduceSub, intOf, h0, h1, h6]
    refine ⟨fun hge => ?_, fun hlt => ?_⟩
    · have hik : i < k := by omega
      have e1 : (k : Int) - 1 - i = ((k - 1 - i : Nat) : Int) := by omega
      simp only [↓VD, VP, VT, isAggD, reduceCtorEq, Int.reduceEq, Int.reduceNe, Int.reduceLT, Int.reduceLE, implies_true, Nat.reduceEqDiff, reduceIte, ite_true, ite_false, eq_self, Nat.reduceLT, Nat.reduceLeDiff, Nat.reduceAdd, Nat.reduceMul, Nat.reduceSub, intOf, h0, h1, h6, e1, (show IntKind.i64.wrap (8 * ((k - 1 - i : Nat) : Int)) = ((8 * (k - 1 - i) : Nat) : Int) from by rw [w64 (by omega) (by omega)] <;> omega), show (n : Int).fdiv (2 ^ min (8 * (k - 1 - i)) IntKind.u64.bits) = ((n / 2 ^ (8 * (k - 1 - i)) : Nat) : Int) from fdivN n (8 * (k - 1 - i)) 64 (by omega), wr8]
      refine ⟨by omega, rfl, rfl, fun w2 hN => ?_⟩
      refine (addOne base b _ _ w1 w2 (by omega) hS1 (by simp [wideP_len]; omega) hN).mono ?_
      rintro _ w3 ⟨hS3, hK3⟩
      rw [List.append_assoc, wideP_take n k i hik] at hS3
      simp only [↓VD, VP, VT, isAggD, reduceCtorEq, Int.reduceEq, Int.reduceNe, Int.reduceLT, Int.reduceLE, implies_true, Nat.reduceEqDiff, reduceIte, ite_true, ite_false, eq_self, Nat.reduceLT, Nat.reduceLeDiff, Nat.reduceAdd, Nat.reduceMul, Nat.reduceSub, intOf, h0, h1, h6]
      rw [w64 (by omega) (by omega)]
      exact ⟨⟨hK.trans hK3, i + 1, by omega, by omega, hS3⟩, by omega⟩
    · have hik : i = k := by omega
      subst hik
      rw [List.take_of_length_le (by rw [wideP_len]; omega)] at hS1
      exact ⟨hS1, hK⟩
set_option maxRecDepth 100000 in
theorem U16_ok (base b : Nat) (xs : List UInt8) (n : Nat) (hn : n < 65536) (w : World) (hb : base ≤ w.heap.size) (hS : Wr w base b xs) (hsz : xs.length + 8 ≤ 140737488355328) :
    CallK Tryz.prog 103 [.pointer (some ⟨b, 0, none⟩), .int .u16 n].toArray w fun _ w' => Wr w' base b (xs ++ wideP n 2) ∧ KeepW w w' base b := by
  refine enterT Tryz.func103 rfl Tryz.ntmps103 Tryz.results103 rfl (by decide) ?_
  simp only [↓VD, VP, VT, isAggD, reduceCtorEq, Int.reduceEq, Int.reduceNe, Int.reduceLT, Int.reduceLE, implies_true, Nat.reduceEqDiff, reduceIte, ite_true, ite_false, eq_self, Nat.reduceLT, Nat.reduceLeDiff, Nat.reduceAdd, Nat.reduceMul, Nat.reduceSub, intOf, (show IntKind.u64.wrap ((n : Int)) = ((n : Nat) : Int) from by rw [wu64 (by omega) (by omega)] <;> omega)]
  refine (wide_ok base b xs n 2 (by decide) w hb hS hsz).mono ?_
  rintro _ w2 h
  simp only [↓VD, VP, VT, isAggD, reduceCtorEq, Int.reduceEq, Int.reduceNe, Int.reduceLT, Int.reduceLE, implies_true, Nat.reduceEqDiff, reduceIte, ite_true, ite_false, eq_self, Nat.reduceLT, Nat.reduceLeDiff, Nat.reduceAdd, Nat.reduceMul, Nat.reduceSub, intOf]
  exact h

/-! ### Bytes -/
set_option maxRecDepth 100000 in
theorem CloneB_ok (xs : List UInt8) (v : Value) (w : World) (hv : SlB w v xs) (hsz : xs.length ≤ 140737488355328) :
    CallK Tryz.prog 111 [v].toArray w fun v' w' => Own w' w.heap.size 5 1 v' xs.length (vbs xs) ∧ Ext w w' := by
  have hv' := hv
  obtain ⟨a, c, rfl, hnc, hcm, hc⟩ := hv'
  refine enterT Tryz.func111 rfl Tryz.ntmps111 Tryz.results111 rfl (by decide) ?_
  simp only [↓VD, VP, VT, isAggD, reduceCtorEq, Int.reduceEq, Int.reduceNe, Int.reduceLT, Int.reduceLE, implies_true, Nat.reduceEqDiff, reduceIte, ite_true, ite_false, eq_self, Nat.reduceLT, Nat.reduceLeDiff, Nat.reduceAdd, Nat.reduceMul, Nat.reduceSub, intOf]
  refine ⟨fun ha => ?_, fun ha => ⟨rfl, fun w1 hN => ?_⟩⟩
  · have : xs = [] := by
      rcases hc with hc | ⟨b, o, rfl, _⟩
      · simpa [vbs] using hc
      · cases ha
    subst this
    exact ⟨Own.nil _ _ _ _, Ext.rfl' w⟩
  · refine apS Tryz.underlying22 z5 c5 rfl (by decide) (Own.of_blk hN.blk (Nat.le_refl _) rfl (by decide)) (by have := hN.size; omega) (hv.ext hN.ext) (by rw [vbs_len, Nat.mul_one]) (vbs_one _) (by omega) (by rw [by5]; omega) (fun v' w2 hO hg => ?_)
    simp only [↓VD, VP, VT, isAggD, reduceCtorEq, Int.reduceEq, Int.reduceNe, Int.reduceLT, Int.reduceLE, implies_true, Nat.reduceEqDiff, reduceIte, ite_true, ite_false, eq_self, Nat.reduceLT, Nat.reduceLeDiff, Nat.reduceAdd, Nat.reduceMul, Nat.reduceSub, intOf]
    refine ⟨by simpa using hO, hN.ext.trans ⟨hg.os, hg.tape, hg.output, hg.size, fun k hk => hg.block k (by have := hN.size; omega) ?_⟩⟩
    simp only [Value.ownBlock, ne_eq, Option.some.injEq]
    omega
set_option maxRecDepth 100000 in
theorem Bytes_ok (base b : Nat) (xs : List UInt8) (w : World) (hS : Wr w base b xs) (hsz : xs.length ≤ 140737488355328) :
    CallK Tryz.prog 97 [.pointer (some ⟨b, 0, none⟩)].toArray w fun v' w' => Own w' w.heap.size 5 1 v' xs.length (vbs xs) ∧ Ext w w' := by
  obtain ⟨x, hB, hO⟩ := hS
  refine enterT Tryz.func97 rfl Tryz.ntmps97 Tryz.results97 rfl (by decide) ?_
  simp only [↓VD, VP, VT, isAggD, reduceCtorEq, Int.reduceEq, Int.reduceNe, Int.reduceLT, Int.reduceLE, implies_true, Nat.reduceEqDiff, reduceIte, ite_true, ite_false, eq_self, Nat.reduceLT, Nat.reduceLeDiff, Nat.reduceAdd, Nat.reduceMul, Nat.reduceSub, intOf]
  refine ldAt (pre := []) (post := []) Tryz.underlying22 rfl hB rfl ?_
  simp only [↓VD, VP, VT, isAggD, reduceCtorEq, Int.reduceEq, Int.reduceNe, Int.reduceLT, Int.reduceLE, implies_true, Nat.reduceEqDiff, reduceIte, ite_true, ite_false, eq_self, Nat.reduceLT, Nat.reduceLeDiff, Nat.reduceAdd, Nat.reduceMul, Nat.reduceSub, intOf]
  refine (CloneB_ok xs x w (SlC.of_own hO) hsz).mono ?_
  rintro v' w2 h
  simp only [↓VD, VP, VT, isAggD, reduceCtorEq, Int.reduceEq, Int.reduceNe, Int.reduceLT, Int.reduceLE, implies_true, Nat.reduceEqDiff, reduceIte, ite_true, ite_false, eq_self, Nat.reduceLT, Nat.reduceLeDiff, Nat.reduceAdd, Nat.reduceMul, Nat.reduceSub, intOf]
  exact h

end Go.Proofs.YticfalbgplifoaaGreatDoor
