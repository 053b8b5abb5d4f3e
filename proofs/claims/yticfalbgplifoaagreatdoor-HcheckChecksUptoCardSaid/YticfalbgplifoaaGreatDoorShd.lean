/-
  The walks of the hash (package sha), second part: padding, a new hash, its beginning. Conditions: as stated in each theorem.
-/
import Derived.Test.YticfalbgplifoaaGreatDoorShc
namespace Go.Proofs.YticfalbgplifoaaGreatDoor
set_option maxRecDepth 100000
open Go Go.RowKit
set_option linter.unusedVariables false
set_option linter.unusedSimpArgs false

theorem be8_get (v i : Nat) (h : i < 8) : (be8 v)[7 - i]? = some (UInt8.ofNat (v / 2 ^ (8 * i))) := by
  have : 7 - i < 8 := by omega
  simp only [be8, List.getElem?_map, List.getElem?_range this, Option.map_some]
  rw [show 7 - (7 - i) = i from by omega]
theorem set_back {α : Type} {pre tl : List α} {m : Nat} {x y : α} : (pre ++ (List.replicate (m + 1) x ++ tl)).set (pre.length + m) y = pre ++ (List.replicate m x ++ (y :: tl)) := by
  rw [List.set_append_right _ _ (by omega), Nat.add_sub_cancel_left, List.set_append_left _ _ (by simp), List.replicate_succ', List.set_append_right _ _ (by simp)]
  simp
theorem vbs_set (l : List UInt8) (k : Nat) (y : UInt8) : (vbs l).set k (.int .u8 y.toNat) = vbs (l.set k y) := by simp [vbs, List.map_set, vb]

set_option maxRecDepth 100000 in
theorem Padding_ok (n : Nat) (hn : n < 18446744073709551616) (w : World) :
    CallK Tryz.prog 94 [.int .u64 n].toArray w fun v w' => ∃ g, w.heap.size ≤ g ∧ v = .slice (some ⟨g, 0, none⟩) (padW n).length (padW n).length ∧ Blk w' g 5 (vbs (padW n)) ∧ Ext w w' := by
  have hpl := padW_len n
  have hz : zerosN n < 64 := by unfold zerosN; omega
  refine enterT Tryz.func94 rfl Tryz.ntmps94 Tryz.results94 rfl (by decide) ?_
  simp only [↓VD, VP, VT, isAggD, reduceCtorEq, Int.reduceEq, Int.reduceNe, Int.reduceLT, Int.reduceLE, implies_true, Nat.reduceEqDiff, reduceIte, ite_true, ite_false, eq_self, Nat.reduceLT, Nat.reduceLeDiff, Nat.reduceAdd, Nat.reduceMul, Nat.reduceSub, intOf, show (n : Int).tmod 64 = ((n % 64 : Nat) : Int) from tmodN n 64, (show IntKind.u64.wrap (119 - ((n % 64 : Nat) : Int)) = ((119 - n % 64 : Nat) : Int) from by rw [wu64 (by omega) (by omega)] <;> omega), show ((119 - n % 64 : Nat) : Int).tmod 64 = ((zerosN n : Nat) : Int) from tmodN _ 64, (show IntKind.u64.wrap (1 + (zerosN n : Int)) = ((1 + zerosN n : Nat) : Int) from by rw [wu64 (by omega) (by omega)] <;> omega), (show IntKind.u64.wrap (((1 + zerosN n : Nat) : Int) + 8) = (((padW n).length : Nat) : Int) from by rw [wu64 (by omega) (by omega)] <;> omega)]
  refine mkS Tryz.underlying22 z5 rfl c5 (Nat.le_refl _) (by rw [by5]; omega) (by omega) (fun w1 hN => ?_)
  simp only [↓VD, VP, VT, isAggD, reduceCtorEq, Int.reduceEq, Int.reduceNe, Int.reduceLT, Int.reduceLE, implies_true, Nat.reduceEqDiff, reduceIte, ite_true, ite_false, eq_self, Nat.reduceLT, Nat.reduceLeDiff, Nat.reduceAdd, Nat.reduceMul, Nat.reduceSub, intOf]
  rw [vbs_rep] at hN
  refine ⟨by omega, stV c5 hN.blk rfl rfl (by rw [vbs_len]; simp; omega) (fun w2 hP => ?_)⟩
  simp only [↓VD, VP, VT, isAggD, reduceCtorEq, Int.reduceEq, Int.reduceNe, Int.reduceLT, Int.reduceLE, implies_true, Nat.reduceEqDiff, reduceIte, ite_true, ite_false, eq_self, Nat.reduceLT, Nat.reduceLeDiff, Nat.reduceAdd, Nat.reduceMul, Nat.reduceSub, intOf]
  have hset : (List.replicate (padW n).length (0 : UInt8)).set 0 128 = (128 :: List.replicate (zerosN n) 0) ++ (List.replicate 8 0 ++ (be8 (8 * n % 18446744073709551616)).drop 8) := by
    rw [hpl, show 9 + zerosN n = (zerosN n + 8) + 1 from by omega, List.replicate_succ, List.set_cons_zero, List.drop_eq_nil_of_le (by rw [be8_len]; omega), List.append_nil, List.cons_append, List.replicate_append_replicate]
  have hpre : (128 :: List.replicate (zerosN n) (0 : UInt8)).length = 1 + zerosN n := by simp; omega
  have h128 : Value.int .u8 128 = .int .u8 (128 : UInt8).toNat := rfl
  rw [h128, show Int.toNat 0 = 0 from rfl, vbs_set, hset] at hP
  refine loopT (fun s' w' => Ext w w' ∧ ∃ i : Nat, i ≤ 8 ∧ s' 0 = .int .u64 n ∧ s' 4 = .slice (some ⟨w.heap.size, 0, none⟩) (padW n).length (padW n).length ∧ s' 16 = .int .i64 i ∧
      Blk w' w.heap.size 5 (vbs ((128 :: List.replicate (zerosN n) 0) ++ (List.replicate (8 - i) 0 ++ (be8 (8 * n % 18446744073709551616)).drop (8 - i)))))
      (fun s' _ => 8 - (intOf (s' 16)).toNat) ?_ ?_
  · simp only [↓VD, VP, VT, isAggD, reduceCtorEq, Int.reduceEq, Int.reduceNe, Int.reduceLT, Int.reduceLE, implies_true, Nat.reduceEqDiff, reduceIte, ite_true, ite_false, eq_self, Nat.reduceLT, Nat.reduceLeDiff, Nat.reduceAdd, Nat.reduceMul, Nat.reduceSub, intOf]
    exact ⟨hN.ext.trans (hP.below (Nat.le_refl _)), 0, by omega, rfl, hP.blk⟩
  · rintro s3 w3 ⟨hE, i, hi, h0, h4, h16, hb⟩
    have hlt0 : w.heap.size < w3.heap.size := hb.lt
    generalize hV : 8 * n % 18446744073709551616 = V at *
    have hV8 : IntKind.u64.wrap (8 * (n : Int)) = (V : Int) := by
      have := wr64 (8 * n)
      rw [hV] at this
      rw [← this]; congr 1
    simp only [↓VD, VP, VT, isAggD, reduceCtorEq, Int.reduceEq, Int.reduceNe, Int.reduceLT, Int.reduceLE, implies_true, Nat.reduceEqDiff, reduceIte, ite_true, ite_false, eq_self, Nat.reduceLT, Nat.reduceLeDiff, Nat.reduceAdd, Nat.reduceMul, Nat.reduceSub, intOf, h0, h4, h16, hV8, (show IntKind.i64.wrap (((padW n).length : Int) - 1) = (((padW n).length - 1 : Nat) : Int) from by rw [w64 (by omega) (by omega)] <;> omega)]
    refine ⟨fun hlt => ?_, fun hge => ?_⟩
    · have hi8 : i < 8 := by omega
      simp only [↓VD, VP, VT, isAggD, reduceCtorEq, Int.reduceEq, Int.reduceNe, Int.reduceLT, Int.reduceLE, implies_true, Nat.reduceEqDiff, reduceIte, ite_true, ite_false, eq_self, Nat.reduceLT, Nat.reduceLeDiff, Nat.reduceAdd, Nat.reduceMul, Nat.reduceSub, intOf, h0, h4, h16, hV8, (show IntKind.i64.wrap ((((padW n).length - 1 : Nat) : Int) - (i : Int)) = (((padW n).length - 1 - i : Nat) : Int) from by rw [w64 (by omega) (by omega)] <;> omega), (show IntKind.i64.wrap (8 * (i : Int)) = ((8 * i : Nat) : Int) from by rw [w64 (by omega) (by omega)] <;> omega), show (V : Int).fdiv (2 ^ min (8 * i) IntKind.u64.bits) = ((V / 2 ^ (8 * i) : Nat) : Int) from fdivN V (8 * i) 64 (by omega), wr8]
      refine ⟨by omega, by omega, by omega, stV c5 hb rfl rfl (by rw [vbs_len]; simp [be8_len]; omega) (fun w4 hP => ?_)⟩
      have htl : UInt8.ofNat (V / 2 ^ (8 * i)) :: (be8 V).drop (8 - i) = (be8 V).drop (8 - (i + 1)) := by
        have hb7 := be8_get V i hi8
        obtain ⟨hl7, he7⟩ := List.getElem?_eq_some_iff.1 hb7
        rw [show 8 - (i + 1) = 7 - i from by omega, List.drop_eq_getElem_cons hl7, he7, show 7 - i + 1 = 8 - i from by omega]
      rw [vbs_set, show (padW n).length - 1 - i = (128 :: List.replicate (zerosN n) (0 : UInt8)).length + (7 - i) from by omega, show 8 - i = (7 - i) + 1 from by omega, set_back, show (7 - i) + 1 = 8 - i from by omega, htl] at hP
      simp only [↓VD, VP, VT, isAggD, reduceCtorEq, Int.reduceEq, Int.reduceNe, Int.reduceLT, Int.reduceLE, implies_true, Nat.reduceEqDiff, reduceIte, ite_true, ite_false, eq_self, Nat.reduceLT, Nat.reduceLeDiff, Nat.reduceAdd, Nat.reduceMul, Nat.reduceSub, intOf, h0, h4, h16]
      refine ⟨⟨hE.trans (hP.below (Nat.le_refl _)), i + 1, by omega, ?_, by have := hP.blk; rw [show 7 - i = 8 - (i + 1) from by omega] at this; exact this⟩, ?_⟩
      · rw [w64 (by omega) (by omega)]; rfl
      · rw [w64 (by omega) (by omega)]; omega
    · have hi8 : i = 8 := by omega
      subst hi8
      refine ⟨w.heap.size, Nat.le_refl _, rfl, ?_, hE⟩
      have : padW n = (128 :: List.replicate (zerosN n) 0) ++ be8 V := by rw [padW, ← hV]; rfl
      rw [this]
      simpa using hb


/-! ### A hash under way -/
/-- The cells of a hash. -/
def stL (h : List W32) (t : Bool) (bk : List UInt8) (n : Nat) : List Value := vws h ++ (.bool t :: (vbs bk ++ [.int .u64 n]))
/-- The parts of a hash into which xs went. -/
structure StP (h : List W32) (t : Bool) (bk : List UInt8) (n : Nat) (xs : List UInt8) : Prop where
  hl : h.length = 8
  bl : bk.length = 64
  nn : n = xs.length % 18446744073709551616
  none : t = false → xs = []
  hh : t = true → h = blocksW H0W xs (xs.length / 64)
  bb : t = true → bk.take (xs.length % 64) = xs.drop (64 * (xs.length / 64))
/-- A hash in block b into which xs went. -/
def St (w : World) (b : Nat) (xs : List UInt8) : Prop := ∃ h t bk n, Blk w b 125 (stL h t bk n) ∧ StP h t bk n xs
/-- All blocks but b stay. -/
structure KeepB (w w' : World) (b : Nat) : Prop where
  os : w'.os = w.os
  tape : w'.tape = w.tape
  output : w'.output = w.output
  size : w.heap.size ≤ w'.heap.size
  other : ∀ k, k < w.heap.size → k ≠ b → w'.heap[k]? = w.heap[k]?
theorem KeepB.rfl' (w : World) (b : Nat) : KeepB w w b := ⟨rfl, rfl, rfl, Nat.le_refl _, fun _ _ _ => rfl⟩
theorem KeepB.trans {a b c : World} {k : Nat} (h : KeepB a b k) (g : KeepB b c k) : KeepB a c k :=
  ⟨g.os.trans h.os, g.tape.trans h.tape, g.output.trans h.output, Nat.le_trans h.size g.size, fun j hj hk => (g.other j (by have := h.size; omega) hk).trans (h.other j hj hk)⟩
theorem KeepB.of_ext {w w' : World} {b : Nat} (h : Ext w w') : KeepB w w' b := ⟨h.os, h.tape, h.output, h.size, fun k hk _ => h.block k hk⟩
theorem KeepB.of_put {w w' : World} {b : Nat} {T : TypeId} {l : List Value} (h : Put w w' b T l) : KeepB w w' b := ⟨h.os, h.tape, h.output, Nat.le_of_eq h.size.symm, fun k _ hk => h.other k hk⟩
theorem KeepB.below {w w' : World} {b B : Nat} (h : KeepB w w' b) (hB : B ≤ b) (hw : B ≤ w.heap.size) : Below B w w' := ⟨h.os, h.tape, h.output, h.size, fun k hk => h.other k (by omega) (by omega)⟩
theorem KeepB.blk {w w' : World} {b c : Nat} {T : TypeId} {l : List Value} (h : KeepB w w' b) (k : Blk w c T l) (hc : c ≠ b) : Blk w' c T l := ⟨by rw [h.other c k.lt hc]; exact k.out⟩
theorem KeepB.ext {w w' : World} {b : Nat} (h : KeepB w w' b) (hb : w.heap.size ≤ b) : Ext w w' := h.below hb (Nat.le_refl _)
theorem SlN.keep {w w' : World} {v : Value} {n b : Nat} {cells : List Value} (h : SlN w v n cells b) (e : KeepB w w' b) : SlN w' v n cells b := by
  obtain ⟨a, c, rfl, hn, hm, h⟩ := h
  refine ⟨a, c, rfl, hn, hm, h.imp id ?_⟩
  rintro ⟨k, o, rfl, hk, h⟩
  refine ⟨k, o, rfl, hk, fun j u hj => ?_⟩
  have hc := h j u hj
  rw [← hc]
  have := block_lt_of_cell hc
  simp only [World.cell?, e.other k this hk]
theorem KeepB.wordsAt {w w' : World} {b g : Nat} (h : KeepB w w' b) (hW : WordsAt w g) (hg : g ≠ b) : WordsAt w' g := fun j hj => by
  have hc := hW j hj
  rw [← hc]
  simp only [World.cell?, h.other g (block_lt_of_cell hc) hg]

set_option maxRecDepth 100000 in
theorem New_ok (w : World) : CallK Tryz.prog 72 [].toArray w fun v w' => v = .pointer (some ⟨w.heap.size, 0, none⟩) ∧ Ext w w' ∧ w'.heap.size = w.heap.size + 1 ∧ St w' w.heap.size [] := by
  refine enterT Tryz.func72 rfl Tryz.ntmps72 Tryz.results72 rfl (by decide) ?_
  simp only [↓VD, VP, VT, isAggD, reduceCtorEq, Int.reduceEq, Int.reduceNe, Int.reduceLT, Int.reduceLE, implies_true, Nat.reduceEqDiff, reduceIte, ite_true, ite_false, eq_self, Nat.reduceLT, Nat.reduceLeDiff, Nat.reduceAdd, Nat.reduceMul, Nat.reduceSub, intOf]
  refine bldC (stL (List.replicate 8 0) false (List.replicate 64 0) 0) (by kernel_rfl) ?_
  simp only [↓VD, VP, VT, isAggD, reduceCtorEq, Int.reduceEq, Int.reduceNe, Int.reduceLT, Int.reduceLE, implies_true, Nat.reduceEqDiff, reduceIte, ite_true, ite_false, eq_self, Nat.reduceLT, Nat.reduceLeDiff, Nat.reduceAdd, Nat.reduceMul, Nat.reduceSub, intOf]
  intro w1 hN
  refine ⟨hN.ext, hN.size, _, _, _, _, hN.blk, ⟨rfl, rfl, rfl, fun _ => rfl, fun h => (by cases h), fun h => (by cases h)⟩⟩

theorem stL_t (h : List W32) (t : Bool) (bk : List UInt8) (n : Nat) : stL h t bk n = vws h ++ (.bool t :: (vbs bk ++ [.int .u64 n])) := rfl
theorem stL_h (h : List W32) (t : Bool) (bk : List UInt8) (n : Nat) : stL h t bk n = [] ++ (vws h ++ (.bool t :: (vbs bk ++ [.int .u64 n]))) := rfl
theorem stL_b (h : List W32) (t : Bool) (bk : List UInt8) (n : Nat) : stL h t bk n = (vws h ++ [.bool t]) ++ (vbs bk ++ [.int .u64 n]) := by simp [stL]
theorem stL_n (h : List W32) (t : Bool) (bk : List UInt8) (n : Nat) : stL h t bk n = (vws h ++ (.bool t :: vbs bk)) ++ (.int .u64 n :: []) := by simp [stL]

set_option maxRecDepth 100000 in
theorem begin_ok (b : Nat) (xs : List UInt8) (w : World) (hS : St w b xs) :
    CallK Tryz.prog 92 [.pointer (some ⟨b, 0, none⟩)].toArray w fun v w' => KeepB w w' b ∧ ∃ h bk n, Blk w' b 125 (stL h true bk n) ∧ StP h true bk n xs := by
  obtain ⟨h, t, bk, n, hB, hP⟩ := hS
  have hl := hP.hl
  refine enterT Tryz.func92 rfl Tryz.ntmps92 Tryz.results92 rfl (by decide) ?_
  simp only [↓VD, VP, VT, isAggD, reduceCtorEq, Int.reduceEq, Int.reduceNe, Int.reduceLT, Int.reduceLE, implies_true, Nat.reduceEqDiff, reduceIte, ite_true, ite_false, eq_self, Nat.reduceLT, Nat.reduceLeDiff, Nat.reduceAdd, Nat.reduceMul, Nat.reduceSub, intOf]
  refine ldAt (pre := vws h) Tryz.underlying4 rfl hB (by rw [vws_len]; exact hl) ?_
  simp only [↓VD, VP, VT, isAggD, reduceCtorEq, Int.reduceEq, Int.reduceNe, Int.reduceLT, Int.reduceLE, implies_true, Nat.reduceEqDiff, reduceIte, ite_true, ite_false, eq_self, Nat.reduceLT, Nat.reduceLeDiff, Nat.reduceAdd, Nat.reduceMul, Nat.reduceSub, intOf]
  cases t
  · simp only [↓VD, VP, VT, isAggD, reduceCtorEq, Int.reduceEq, Int.reduceNe, Int.reduceLT, Int.reduceLE, implies_true, Nat.reduceEqDiff, reduceIte, ite_true, ite_false, eq_self, Nat.reduceLT, Nat.reduceLeDiff, Nat.reduceAdd, Nat.reduceMul, Nat.reduceSub, intOf]
    refine (first_ok w).mono ?_
    rintro _ w1 ⟨rfl, hE⟩
    simp only [↓VD, VP, VT, isAggD, reduceCtorEq, Int.reduceEq, Int.reduceNe, Int.reduceLT, Int.reduceLE, implies_true, Nat.reduceEqDiff, reduceIte, ite_true, ite_false, eq_self, Nat.reduceLT, Nat.reduceLeDiff, Nat.reduceAdd, Nat.reduceMul, Nat.reduceSub, intOf]
    refine stSeg (pre := []) (mid := vws h) (post := .bool false :: (vbs bk ++ [.int .u64 n])) (hB.ext hE) rfl rfl (by rw [c120]; omega) (by rw [c120]; rfl) (by rw [vws_len, hl]; rfl) (vws_one _) (fun w2 hP2 => ?_)
    simp only [↓VD, VP, VT, isAggD, reduceCtorEq, Int.reduceEq, Int.reduceNe, Int.reduceLT, Int.reduceLE, implies_true, Nat.reduceEqDiff, reduceIte, ite_true, ite_false, eq_self, Nat.reduceLT, Nat.reduceLeDiff, Nat.reduceAdd, Nat.reduceMul, Nat.reduceSub, intOf]
    refine stAt (pre := vws H0W) (u := .bool false) (post := vbs bk ++ [.int .u64 n]) c4 hP2.blk rfl rfl rfl (fun w3 hP3 => ?_)
    simp only [↓VD, VP, VT, isAggD, reduceCtorEq, Int.reduceEq, Int.reduceNe, Int.reduceLT, Int.reduceLE, implies_true, Nat.reduceEqDiff, reduceIte, ite_true, ite_false, eq_self, Nat.reduceLT, Nat.reduceLeDiff, Nat.reduceAdd, Nat.reduceMul, Nat.reduceSub, intOf]
    have hx := hP.none rfl
    subst hx
    exact ⟨((KeepB.of_ext hE).trans (KeepB.of_put hP2)).trans (KeepB.of_put hP3), H0W, bk, n, hP3.blk, ⟨rfl, hP.bl, hP.nn, fun h => (by cases h), fun _ => rfl, fun _ => rfl⟩⟩
  · simp only [↓VD, VP, VT, isAggD, reduceCtorEq, Int.reduceEq, Int.reduceNe, Int.reduceLT, Int.reduceLE, implies_true, Nat.reduceEqDiff, reduceIte, ite_true, ite_false, eq_self, Nat.reduceLT, Nat.reduceLeDiff, Nat.reduceAdd, Nat.reduceMul, Nat.reduceSub, intOf]
    exact ⟨KeepB.rfl' w b, h, bk, n, hB, hP⟩

/-- What one round of Write does to the parts: cs go in, as many as fit. -/
theorem StP.step {h : List W32} {bk : List UInt8} {n : Nat} {xs cs : List UInt8} (hP : StP h true bk n xs) (hc : cs.length ≤ 64 - xs.length % 64) (bk' : List UInt8) (hb : bk' = bk.take (xs.length % 64) ++ (cs ++ bk.drop (xs.length % 64 + cs.length))) :
    (xs.length % 64 + cs.length ≠ 64 → StP h true bk' ((n + cs.length) % 18446744073709551616) (xs ++ cs)) ∧ (xs.length % 64 + cs.length = 64 → StP (compW h bk') true bk' ((n + cs.length) % 18446744073709551616) (xs ++ cs)) := by
  have hm : xs.length % 64 < 64 := Nat.mod_lt _ (by decide)
  have hbl := hP.bl
  have hbb := hP.bb rfl
  have hbl' : bk'.length = 64 := by subst hb; simp; omega
  have hn : (n + cs.length) % 18446744073709551616 = (xs ++ cs).length % 18446744073709551616 := by rw [hP.nn, List.length_append]; omega
  have hq : 64 * (xs.length / 64) ≤ xs.length := by omega
  have hdrop : (xs ++ cs).drop (64 * (xs.length / 64)) = bk.take (xs.length % 64) ++ cs := by
    rw [List.drop_append_of_le_length hq, hbb]
  constructor
  · intro hne
    have e1 : (xs ++ cs).length / 64 = xs.length / 64 := by rw [List.length_append]; omega
    have e2 : (xs ++ cs).length % 64 = xs.length % 64 + cs.length := by rw [List.length_append]; omega
    refine ⟨hP.hl, hbl', hn, fun h => (by cases h), fun _ => ?_, fun _ => ?_⟩
    · rw [e1, blocksW_app _ _ _ _ hq]; exact hP.hh rfl
    · rw [e1, e2, hdrop, hb, ← List.append_assoc, List.take_append_of_le_length (by simp; omega), List.take_of_length_le (by simp; omega)]
  · intro he
    have e1 : (xs ++ cs).length / 64 = xs.length / 64 + 1 := by rw [List.length_append]; omega
    have e2 : (xs ++ cs).length % 64 = 0 := by rw [List.length_append]; omega
    have e3 : bk' = bk.take (xs.length % 64) ++ cs := by rw [hb, he, List.drop_eq_nil_of_le (by omega), List.append_nil]
    refine ⟨compW_len _ _ hP.hl, hbl', hn, fun h => (by cases h), fun _ => ?_, fun _ => ?_⟩
    · rw [e1, blocksW, blocksW_app _ _ _ _ hq, hdrop, ← e3, List.take_of_length_le (by omega), ← hP.hh rfl]
    · rw [e2, List.take_zero, e1, List.drop_eq_nil_of_le (by rw [List.length_append]; omega)]


end Go.Proofs.YticfalbgplifoaaGreatDoor
