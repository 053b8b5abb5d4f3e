/-
  The law NibbleClosest of layer 13. Conditions: as stated in each theorem.
-/
import Derived.Test.YtheojegfgcbacaaL13E
namespace Go.Proofs.Ytheojegfgcbacaa
open Go Go.RowKit
set_option linter.unusedVariables false
set_option linter.unusedSimpArgs false

theorem com3 (a b c : List UInt8) (m : Nat) : ¬ (comP a c m < comP a b m ∧ comP a c m < comP b c m) := by
  rintro ⟨h1, h2⟩
  have h3 := comP_le a b m
  have e1 := comP_below a b m _ h1
  have e2 := comP_below b c m _ h2
  exact comP_at a c m (by omega) (e1.trans e2)
theorem min3 (a b c : List UInt8) (m : Nat) : ¬ (comP b c m < comP a b m ∧ comP b c m < comP a c m) ∧ ¬ (comP a b m < comP b c m ∧ comP a b m < comP a c m) := by
  have h1 := com3 b a c m
  have h2 := com3 a c b m
  rw [comP_comm b a] at h1
  rw [comP_comm c b] at h2
  omega

/-- Not behind: the same, or the first differing digit is less. -/
def leD (n : Nat) (a b : List UInt8) : Prop := comP a b (2 * n) = 2 * n ∨ digP a (comP a b (2 * n)) < digP b (comP a b (2 * n))
theorem between {n : Nat} {a b c : List UInt8} (h1 : leD n a b) (h2 : leD n b c) : leD n a c ∧ comP a c (2 * n) ≤ comP a b (2 * n) ∧ comP a c (2 * n) ≤ comP b c (2 * n) := by
  have lx := comP_le a b (2 * n)
  have ly := comP_le b c (2 * n)
  have lz := comP_le a c (2 * n)
  have bx := comP_below a b (2 * n)
  have by' := comP_below b c (2 * n)
  have bz := comP_below a c (2 * n)
  have ax := comP_at a b (2 * n)
  have ay := comP_at b c (2 * n)
  have az := comP_at a c (2 * n)
  have c3 := com3 a b c (2 * n)
  have m3 := min3 a b c (2 * n)
  simp only [leD] at *
  generalize comP a b (2 * n) = x at *
  generalize comP b c (2 * n) = y at *
  generalize comP a c (2 * n) = z at *
  have hx : z ≤ x := by
    rcases Nat.lt_or_ge x z with h | h
    · have e1 := bz x h
      have hy : y = x ∨ x < y := by omega
      rcases hy with rfl | hy
      · omega
      · have := by' x hy; omega
    · exact h
  have hy : z ≤ y := by
    rcases Nat.lt_or_ge y z with h | h
    · have e1 := bz y h
      have : y = x ∨ y < x := by omega
      rcases this with rfl | h'
      · omega
      · have := bx y h'; omega
    · exact h
  refine ⟨?_, hx, hy⟩
  by_cases hz : z = 2 * n
  · exact Or.inl hz
  · right
    have hz' := az (by omega)
    have q1 : z = x ∨ z < x := by omega
    have q2 : z = y ∨ z < y := by omega
    rcases q1 with rfl | q1
    · rcases q2 with rfl | q2
      · omega
      · have := by' z q2; omega
    · have e1 := bx z q1
      rcases q2 with rfl | q2
      · omega
      · have := by' z q2; omega
theorem ord_le {n : Nat} (hn : 1 ≤ n ∧ n ≤ 32) {a b : List UInt8} (fa : formP n a = true) (fb : formP n b = true) : ∃ o : Int, ordP n a b = (o, 0) ∧ (o ≤ 0 ↔ leD n a b) := by
  refine ⟨_, ordP_fit hn fa fb, ?_⟩
  unfold leD
  by_cases h : comP a b (2 * n) = 2 * n
  · rw [if_pos h]; simp [h]
  · rw [if_neg h]
    split <;> simp [*]

set_option maxRecDepth 100000 in
theorem NibbleClosest_ok (n : Int) (v : Value) (ds : List (List UInt8)) (hd : ∀ d ∈ ds, d.length = 32) (w : World) (hv : SlC w v ds.length (ds.flatMap vbs)) :
    CallK Try.prog 8 [.int .i64 n, v].toArray w fun v w' => v = .bool true ∧ Ext w w' := by
  obtain ⟨al, cl, rfl, hnc, hcm, hc⟩ := hv
  refine enterT Try.func8 rfl Try.ntmps8 Try.results8 rfl (by decide) ?_
  simp only [↓VD, VP, VT, isAggD, reduceCtorEq, Int.reduceEq, Int.reduceNe, Int.reduceLT, Int.reduceLE, implies_true, Nat.reduceEqDiff, reduceIte, ite_true, ite_false, eq_self, Nat.reduceLT, Nat.reduceLeDiff, Nat.reduceAdd, Nat.reduceMul, Nat.reduceSub, intOf]
  refine (awake_ok w).mono ?_
  rintro _ w1 ⟨rfl, hE1⟩
  by_cases h3 : ds.length < 3
  · have q1 : ((ds.length : Int) < 3) = True := eq_true (by omega)
    simp only [↓VD, VP, VT, isAggD, reduceCtorEq, Int.reduceEq, Int.reduceNe, Int.reduceLT, Int.reduceLE, implies_true, Nat.reduceEqDiff, reduceIte, ite_true, ite_false, eq_self, Nat.reduceLT, Nat.reduceLeDiff, Nat.reduceAdd, Nat.reduceMul, Nat.reduceSub, intOf]
    refine drawT mixed (by decide +kernel) ?_
    simp only [↓VD, VP, VT, isAggD, reduceCtorEq, Int.reduceEq, Int.reduceNe, Int.reduceLT, Int.reduceLE, implies_true, Nat.reduceEqDiff, reduceIte, ite_true, ite_false, eq_self, Nat.reduceLT, Nat.reduceLeDiff, Nat.reduceAdd, Nat.reduceMul, Nat.reduceSub, intOf, q1]
    exact fun w2 hE2 => hE1.trans' hE2
  · have q1 : ((ds.length : Int) < 3) = False := eq_false (by omega)
    obtain ⟨a, ha⟩ : ∃ x, ds[0]? = some x := ⟨_, List.getElem?_eq_getElem (by omega)⟩
    obtain ⟨b, hb⟩ : ∃ x, ds[1]? = some x := ⟨_, List.getElem?_eq_getElem (by omega)⟩
    obtain ⟨c, hcc⟩ : ∃ x, ds[2]? = some x := ⟨_, List.getElem?_eq_getElem (by omega)⟩
    have la := hd a (List.mem_of_getElem? ha)
    have lb := hd b (List.mem_of_getElem? hb)
    have lc := hd c (List.mem_of_getElem? hcc)
    rcases hc with hc | ⟨bl, o, rfl, hc⟩
    · exfalso
      cases ds with
      | nil => simp at h3
      | cons d ds => have := hd d (by simp); simp at hc; simp [vbs] at hc; have h3 := hc.1; simp [h3] at this
    have hc1 : ∀ w', Ext w w' → ∀ j u, (ds.flatMap vbs)[j]? = some u → w'.cell? ⟨bl, o + j, none⟩ = some u := fun w' hE j u hj => by rw [hE.cell (block_lt_of_cell (hc j u hj))]; exact hc j u hj
    have hs : ∀ d ∈ ds, (vbs d).length = 32 := fun d h => by rw [vbs_len]; exact hd d h
    have p0 : (0 : Int) < (ds.length : Int) := by omega
    have p1 : (1 : Int) < (ds.length : Int) := by omega
    have p2 : (2 : Int) < (ds.length : Int) := by omega
    simp only [↓VD, VP, VT, isAggD, reduceCtorEq, Int.reduceEq, Int.reduceNe, Int.reduceLT, Int.reduceLE, implies_true, Nat.reduceEqDiff, reduceIte, ite_true, ite_false, eq_self, Nat.reduceLT, Nat.reduceLeDiff, Nat.reduceAdd, Nat.reduceMul, Nat.reduceSub, intOf]
    refine drawT mixed (by decide +kernel) ?_
    simp only [↓VD, VP, VT, isAggD, reduceCtorEq, Int.reduceEq, Int.reduceNe, Int.reduceLT, Int.reduceLE, implies_true, Nat.reduceEqDiff, reduceIte, ite_true, ite_false, eq_self, Nat.reduceLT, Nat.reduceLeDiff, Nat.reduceAdd, Nat.reduceMul, Nat.reduceSub, intOf, q1, eq_true p0, eq_true p1, eq_true p2]
    refine ldE c23 Try.underlying23 rfl hs (hc1 w1 hE1) ha ?_
    simp only [↓VD, VP, VT, isAggD, reduceCtorEq, Int.reduceEq, Int.reduceNe, Int.reduceLT, Int.reduceLE, implies_true, Nat.reduceEqDiff, reduceIte, ite_true, ite_false, eq_self, Nat.reduceLT, Nat.reduceLeDiff, Nat.reduceAdd, Nat.reduceMul, Nat.reduceSub, intOf, q1, eq_true p0, eq_true p1, eq_true p2]
    refine ldE c23 Try.underlying23 rfl hs (hc1 w1 hE1) hb ?_
    simp only [↓VD, VP, VT, isAggD, reduceCtorEq, Int.reduceEq, Int.reduceNe, Int.reduceLT, Int.reduceLE, implies_true, Nat.reduceEqDiff, reduceIte, ite_true, ite_false, eq_self, Nat.reduceLT, Nat.reduceLeDiff, Nat.reduceAdd, Nat.reduceMul, Nat.reduceSub, intOf, q1, eq_true p0, eq_true p1, eq_true p2]
    refine qcall _ (fun w' _ => fit_ok n a b la lb w') ?_
    simp only [↓VD, VP, VT, isAggD, reduceCtorEq, Int.reduceEq, Int.reduceNe, Int.reduceLT, Int.reduceLE, implies_true, Nat.reduceEqDiff, reduceIte, ite_true, ite_false, eq_self, Nat.reduceLT, Nat.reduceLeDiff, Nat.reduceAdd, Nat.reduceMul, Nat.reduceSub, intOf, q1, eq_true p0, eq_true p1, eq_true p2]
    refine bsplit_i (fun hf1 => ?_) (fun hf1 => ?_)
    rotate_left
    · simp only [↓VD, VP, VT, isAggD, reduceCtorEq, Int.reduceEq, Int.reduceNe, Int.reduceLT, Int.reduceLE, implies_true, Nat.reduceEqDiff, reduceIte, ite_true, ite_false, eq_self, Nat.reduceLT, Nat.reduceLeDiff, Nat.reduceAdd, Nat.reduceMul, Nat.reduceSub, intOf, q1, eq_true p0, eq_true p1, eq_true p2]
      exact fun w2 hE2 => hE1.trans' hE2
    simp only [↓VD, VP, VT, isAggD, reduceCtorEq, Int.reduceEq, Int.reduceNe, Int.reduceLT, Int.reduceLE, implies_true, Nat.reduceEqDiff, reduceIte, ite_true, ite_false, eq_self, Nat.reduceLT, Nat.reduceLeDiff, Nat.reduceAdd, Nat.reduceMul, Nat.reduceSub, intOf, q1, eq_true p0, eq_true p1, eq_true p2]
    refine ldE c23 Try.underlying23 rfl hs (hc1 w1 hE1) hcc ?_
    simp only [↓VD, VP, VT, isAggD, reduceCtorEq, Int.reduceEq, Int.reduceNe, Int.reduceLT, Int.reduceLE, implies_true, Nat.reduceEqDiff, reduceIte, ite_true, ite_false, eq_self, Nat.reduceLT, Nat.reduceLeDiff, Nat.reduceAdd, Nat.reduceMul, Nat.reduceSub, intOf, q1, eq_true p0, eq_true p1, eq_true p2]
    refine ldE c23 Try.underlying23 rfl hs (hc1 w1 hE1) hcc ?_
    simp only [↓VD, VP, VT, isAggD, reduceCtorEq, Int.reduceEq, Int.reduceNe, Int.reduceLT, Int.reduceLE, implies_true, Nat.reduceEqDiff, reduceIte, ite_true, ite_false, eq_self, Nat.reduceLT, Nat.reduceLeDiff, Nat.reduceAdd, Nat.reduceMul, Nat.reduceSub, intOf, q1, eq_true p0, eq_true p1, eq_true p2]
    refine qcall _ (fun w' _ => fit_ok n c c lc lc w') ?_
    simp only [↓VD, VP, VT, isAggD, reduceCtorEq, Int.reduceEq, Int.reduceNe, Int.reduceLT, Int.reduceLE, implies_true, Nat.reduceEqDiff, reduceIte, ite_true, ite_false, eq_self, Nat.reduceLT, Nat.reduceLeDiff, Nat.reduceAdd, Nat.reduceMul, Nat.reduceSub, intOf, q1, eq_true p0, eq_true p1, eq_true p2]
    intro w2 hE2
    have h2 := hE1.trans' hE2
    refine bsplit_i (fun hf2 => ?_) (fun hf2 => ?_)
    rotate_left
    · simp only [↓VD, VP, VT, isAggD, reduceCtorEq, Int.reduceEq, Int.reduceNe, Int.reduceLT, Int.reduceLE, implies_true, Nat.reduceEqDiff, reduceIte, ite_true, ite_false, eq_self, Nat.reduceLT, Nat.reduceLeDiff, Nat.reduceAdd, Nat.reduceMul, Nat.reduceSub, intOf, q1, eq_true p0, eq_true p1, eq_true p2]
      exact h2
    have fa : formP n a = true := by rw [fitP, Bool.and_eq_true] at hf1; exact hf1.1
    have fb : formP n b = true := by rw [fitP, Bool.and_eq_true] at hf1; exact hf1.2
    have fc : formP n c = true := by rw [fitP, Bool.and_eq_true] at hf2; exact hf2.1
    have hn : 1 ≤ n ∧ n ≤ 32 := by have := fa; simp only [formP, widthP, Bool.and_eq_true, decide_eq_true_eq] at this; exact this.1
    obtain ⟨n, rfl⟩ : ∃ m : Nat, n = m := ⟨n.toNat, by omega⟩
    simp only [↓VD, VP, VT, isAggD, reduceCtorEq, Int.reduceEq, Int.reduceNe, Int.reduceLT, Int.reduceLE, implies_true, Nat.reduceEqDiff, reduceIte, ite_true, ite_false, eq_self, Nat.reduceLT, Nat.reduceLeDiff, Nat.reduceAdd, Nat.reduceMul, Nat.reduceSub, intOf, q1, eq_true p0, eq_true p1, eq_true p2]
    refine drawT mixed (by decide +kernel) ?_
    simp only [↓VD, VP, VT, isAggD, reduceCtorEq, Int.reduceEq, Int.reduceNe, Int.reduceLT, Int.reduceLE, implies_true, Nat.reduceEqDiff, reduceIte, ite_true, ite_false, eq_self, Nat.reduceLT, Nat.reduceLeDiff, Nat.reduceAdd, Nat.reduceMul, Nat.reduceSub, intOf, q1, eq_true p0, eq_true p1, eq_true p2]
    refine ldE c23 Try.underlying23 rfl hs (hc1 w2 h2) ha ?_
    simp only [↓VD, VP, VT, isAggD, reduceCtorEq, Int.reduceEq, Int.reduceNe, Int.reduceLT, Int.reduceLE, implies_true, Nat.reduceEqDiff, reduceIte, ite_true, ite_false, eq_self, Nat.reduceLT, Nat.reduceLeDiff, Nat.reduceAdd, Nat.reduceMul, Nat.reduceSub, intOf, q1, eq_true p0, eq_true p1, eq_true p2]
    refine ldE c23 Try.underlying23 rfl hs (hc1 w2 h2) hb ?_
    simp only [↓VD, VP, VT, isAggD, reduceCtorEq, Int.reduceEq, Int.reduceNe, Int.reduceLT, Int.reduceLE, implies_true, Nat.reduceEqDiff, reduceIte, ite_true, ite_false, eq_self, Nat.reduceLT, Nat.reduceLeDiff, Nat.reduceAdd, Nat.reduceMul, Nat.reduceSub, intOf, q1, eq_true p0, eq_true p1, eq_true p2]
    refine qcall _ (fun w' _ => Common_ok n a b la lb w') ?_
    rw [comPP_fit (by omega) fa fb]
    simp only [↓VD, VP, VT, isAggD, reduceCtorEq, Int.reduceEq, Int.reduceNe, Int.reduceLT, Int.reduceLE, implies_true, Nat.reduceEqDiff, reduceIte, ite_true, ite_false, eq_self, Nat.reduceLT, Nat.reduceLeDiff, Nat.reduceAdd, Nat.reduceMul, Nat.reduceSub, intOf, q1, eq_true p0, eq_true p1, eq_true p2]
    intro w3 hE3
    have h3 := h2.trans' hE3
    refine drawT mixed (by decide +kernel) ?_
    simp only [↓VD, VP, VT, isAggD, reduceCtorEq, Int.reduceEq, Int.reduceNe, Int.reduceLT, Int.reduceLE, implies_true, Nat.reduceEqDiff, reduceIte, ite_true, ite_false, eq_self, Nat.reduceLT, Nat.reduceLeDiff, Nat.reduceAdd, Nat.reduceMul, Nat.reduceSub, intOf, q1, eq_true p0, eq_true p1, eq_true p2]
    refine ldE c23 Try.underlying23 rfl hs (hc1 w3 h3) hb ?_
    simp only [↓VD, VP, VT, isAggD, reduceCtorEq, Int.reduceEq, Int.reduceNe, Int.reduceLT, Int.reduceLE, implies_true, Nat.reduceEqDiff, reduceIte, ite_true, ite_false, eq_self, Nat.reduceLT, Nat.reduceLeDiff, Nat.reduceAdd, Nat.reduceMul, Nat.reduceSub, intOf, q1, eq_true p0, eq_true p1, eq_true p2]
    refine ldE c23 Try.underlying23 rfl hs (hc1 w3 h3) hcc ?_
    simp only [↓VD, VP, VT, isAggD, reduceCtorEq, Int.reduceEq, Int.reduceNe, Int.reduceLT, Int.reduceLE, implies_true, Nat.reduceEqDiff, reduceIte, ite_true, ite_false, eq_self, Nat.reduceLT, Nat.reduceLeDiff, Nat.reduceAdd, Nat.reduceMul, Nat.reduceSub, intOf, q1, eq_true p0, eq_true p1, eq_true p2]
    refine qcall _ (fun w' _ => Common_ok n b c lb lc w') ?_
    rw [comPP_fit (by omega) fb fc]
    simp only [↓VD, VP, VT, isAggD, reduceCtorEq, Int.reduceEq, Int.reduceNe, Int.reduceLT, Int.reduceLE, implies_true, Nat.reduceEqDiff, reduceIte, ite_true, ite_false, eq_self, Nat.reduceLT, Nat.reduceLeDiff, Nat.reduceAdd, Nat.reduceMul, Nat.reduceSub, intOf, q1, eq_true p0, eq_true p1, eq_true p2]
    intro w4 hE4
    have h4 := h3.trans' hE4
    refine drawT mixed (by decide +kernel) ?_
    simp only [↓VD, VP, VT, isAggD, reduceCtorEq, Int.reduceEq, Int.reduceNe, Int.reduceLT, Int.reduceLE, implies_true, Nat.reduceEqDiff, reduceIte, ite_true, ite_false, eq_self, Nat.reduceLT, Nat.reduceLeDiff, Nat.reduceAdd, Nat.reduceMul, Nat.reduceSub, intOf, q1, eq_true p0, eq_true p1, eq_true p2]
    refine ldE c23 Try.underlying23 rfl hs (hc1 w4 h4) ha ?_
    simp only [↓VD, VP, VT, isAggD, reduceCtorEq, Int.reduceEq, Int.reduceNe, Int.reduceLT, Int.reduceLE, implies_true, Nat.reduceEqDiff, reduceIte, ite_true, ite_false, eq_self, Nat.reduceLT, Nat.reduceLeDiff, Nat.reduceAdd, Nat.reduceMul, Nat.reduceSub, intOf, q1, eq_true p0, eq_true p1, eq_true p2]
    refine ldE c23 Try.underlying23 rfl hs (hc1 w4 h4) hcc ?_
    simp only [↓VD, VP, VT, isAggD, reduceCtorEq, Int.reduceEq, Int.reduceNe, Int.reduceLT, Int.reduceLE, implies_true, Nat.reduceEqDiff, reduceIte, ite_true, ite_false, eq_self, Nat.reduceLT, Nat.reduceLeDiff, Nat.reduceAdd, Nat.reduceMul, Nat.reduceSub, intOf, q1, eq_true p0, eq_true p1, eq_true p2]
    refine qcall _ (fun w' _ => Common_ok n a c la lc w') ?_
    rw [comPP_fit (by omega) fa fc]
    simp only [↓VD, VP, VT, isAggD, reduceCtorEq, Int.reduceEq, Int.reduceNe, Int.reduceLT, Int.reduceLE, implies_true, Nat.reduceEqDiff, reduceIte, ite_true, ite_false, eq_self, Nat.reduceLT, Nat.reduceLeDiff, Nat.reduceAdd, Nat.reduceMul, Nat.reduceSub, intOf, q1, eq_true p0, eq_true p1, eq_true p2]
    intro w5 hE5
    have h5 := h4.trans' hE5
    obtain ⟨ro1, eo1, lo1⟩ := ord_le (by omega) fa fb
    refine drawT mixed (by decide +kernel) ?_
    simp only [↓VD, VP, VT, isAggD, reduceCtorEq, Int.reduceEq, Int.reduceNe, Int.reduceLT, Int.reduceLE, implies_true, Nat.reduceEqDiff, reduceIte, ite_true, ite_false, eq_self, Nat.reduceLT, Nat.reduceLeDiff, Nat.reduceAdd, Nat.reduceMul, Nat.reduceSub, intOf, q1, eq_true p0, eq_true p1, eq_true p2]
    refine ldE c23 Try.underlying23 rfl hs (hc1 w5 h5) ha ?_
    simp only [↓VD, VP, VT, isAggD, reduceCtorEq, Int.reduceEq, Int.reduceNe, Int.reduceLT, Int.reduceLE, implies_true, Nat.reduceEqDiff, reduceIte, ite_true, ite_false, eq_self, Nat.reduceLT, Nat.reduceLeDiff, Nat.reduceAdd, Nat.reduceMul, Nat.reduceSub, intOf, q1, eq_true p0, eq_true p1, eq_true p2]
    refine ldE c23 Try.underlying23 rfl hs (hc1 w5 h5) hb ?_
    simp only [↓VD, VP, VT, isAggD, reduceCtorEq, Int.reduceEq, Int.reduceNe, Int.reduceLT, Int.reduceLE, implies_true, Nat.reduceEqDiff, reduceIte, ite_true, ite_false, eq_self, Nat.reduceLT, Nat.reduceLeDiff, Nat.reduceAdd, Nat.reduceMul, Nat.reduceSub, intOf, q1, eq_true p0, eq_true p1, eq_true p2]
    refine qcall _ (fun w' _ => Order_ok n a b la lb w') ?_
    rw [eo1]
    simp only [↓VD, VP, VT, isAggD, reduceCtorEq, Int.reduceEq, Int.reduceNe, Int.reduceLT, Int.reduceLE, implies_true, Nat.reduceEqDiff, reduceIte, ite_true, ite_false, eq_self, Nat.reduceLT, Nat.reduceLeDiff, Nat.reduceAdd, Nat.reduceMul, Nat.reduceSub, intOf, q1, eq_true p0, eq_true p1, eq_true p2]
    intro w6 hE6
    have h6 := h5.trans' hE6
    obtain ⟨ro2, eo2, lo2⟩ := ord_le (by omega) fb fc
    refine drawT mixed (by decide +kernel) ?_
    simp only [↓VD, VP, VT, isAggD, reduceCtorEq, Int.reduceEq, Int.reduceNe, Int.reduceLT, Int.reduceLE, implies_true, Nat.reduceEqDiff, reduceIte, ite_true, ite_false, eq_self, Nat.reduceLT, Nat.reduceLeDiff, Nat.reduceAdd, Nat.reduceMul, Nat.reduceSub, intOf, q1, eq_true p0, eq_true p1, eq_true p2]
    refine ldE c23 Try.underlying23 rfl hs (hc1 w6 h6) hb ?_
    simp only [↓VD, VP, VT, isAggD, reduceCtorEq, Int.reduceEq, Int.reduceNe, Int.reduceLT, Int.reduceLE, implies_true, Nat.reduceEqDiff, reduceIte, ite_true, ite_false, eq_self, Nat.reduceLT, Nat.reduceLeDiff, Nat.reduceAdd, Nat.reduceMul, Nat.reduceSub, intOf, q1, eq_true p0, eq_true p1, eq_true p2]
    refine ldE c23 Try.underlying23 rfl hs (hc1 w6 h6) hcc ?_
    simp only [↓VD, VP, VT, isAggD, reduceCtorEq, Int.reduceEq, Int.reduceNe, Int.reduceLT, Int.reduceLE, implies_true, Nat.reduceEqDiff, reduceIte, ite_true, ite_false, eq_self, Nat.reduceLT, Nat.reduceLeDiff, Nat.reduceAdd, Nat.reduceMul, Nat.reduceSub, intOf, q1, eq_true p0, eq_true p1, eq_true p2]
    refine qcall _ (fun w' _ => Order_ok n b c lb lc w') ?_
    rw [eo2]
    simp only [↓VD, VP, VT, isAggD, reduceCtorEq, Int.reduceEq, Int.reduceNe, Int.reduceLT, Int.reduceLE, implies_true, Nat.reduceEqDiff, reduceIte, ite_true, ite_false, eq_self, Nat.reduceLT, Nat.reduceLeDiff, Nat.reduceAdd, Nat.reduceMul, Nat.reduceSub, intOf, q1, eq_true p0, eq_true p1, eq_true p2]
    intro w7 hE7
    have h7 := h6.trans' hE7
    obtain ⟨ro3, eo3, lo3⟩ := ord_le (by omega) fa fc
    refine drawT mixed (by decide +kernel) ?_
    simp only [↓VD, VP, VT, isAggD, reduceCtorEq, Int.reduceEq, Int.reduceNe, Int.reduceLT, Int.reduceLE, implies_true, Nat.reduceEqDiff, reduceIte, ite_true, ite_false, eq_self, Nat.reduceLT, Nat.reduceLeDiff, Nat.reduceAdd, Nat.reduceMul, Nat.reduceSub, intOf, q1, eq_true p0, eq_true p1, eq_true p2]
    refine ldE c23 Try.underlying23 rfl hs (hc1 w7 h7) ha ?_
    simp only [↓VD, VP, VT, isAggD, reduceCtorEq, Int.reduceEq, Int.reduceNe, Int.reduceLT, Int.reduceLE, implies_true, Nat.reduceEqDiff, reduceIte, ite_true, ite_false, eq_self, Nat.reduceLT, Nat.reduceLeDiff, Nat.reduceAdd, Nat.reduceMul, Nat.reduceSub, intOf, q1, eq_true p0, eq_true p1, eq_true p2]
    refine ldE c23 Try.underlying23 rfl hs (hc1 w7 h7) hcc ?_
    simp only [↓VD, VP, VT, isAggD, reduceCtorEq, Int.reduceEq, Int.reduceNe, Int.reduceLT, Int.reduceLE, implies_true, Nat.reduceEqDiff, reduceIte, ite_true, ite_false, eq_self, Nat.reduceLT, Nat.reduceLeDiff, Nat.reduceAdd, Nat.reduceMul, Nat.reduceSub, intOf, q1, eq_true p0, eq_true p1, eq_true p2]
    refine qcall _ (fun w' _ => Order_ok n a c la lc w') ?_
    rw [eo3]
    simp only [↓VD, VP, VT, isAggD, reduceCtorEq, Int.reduceEq, Int.reduceNe, Int.reduceLT, Int.reduceLE, implies_true, Nat.reduceEqDiff, reduceIte, ite_true, ite_false, eq_self, Nat.reduceLT, Nat.reduceLeDiff, Nat.reduceAdd, Nat.reduceMul, Nat.reduceSub, intOf, q1, eq_true p0, eq_true p1, eq_true p2]
    intro w8 hE8
    have h8 := h7.trans' hE8
    have m1 := com3 a b c (2 * n)
    have m2 := min3 a b c (2 * n)
    have lm : ∀ x p q : Int, (x < if q < p then q else p) ↔ (x < q ∧ x < p) := by intro x p q; split <;> omega
    simp only [lm]
    refine ⟨fun h => by omega, fun _ => ⟨fun h => by omega, fun _ => ⟨fun h => by omega, fun _ => ⟨fun g1 => ⟨fun g2 => ?_, fun _ => h8⟩, fun _ => h8⟩⟩⟩⟩
    obtain ⟨b1, b2, b3⟩ := between (lo1.1 g1) (lo2.1 g2)
    have b4 := lo3.2 b1
    exact ⟨fun _ => ⟨fun _ => ⟨by omega, h8⟩, fun h => by omega⟩, fun h => by omega⟩

end Go.Proofs.Ytheojegfgcbacaa
