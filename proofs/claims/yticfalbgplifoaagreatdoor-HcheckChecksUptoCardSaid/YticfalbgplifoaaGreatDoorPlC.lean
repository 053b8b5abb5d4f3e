/-
  Plain facts on digests' digits, and: a path that ends in a bucket serves each key with the same digits. Conditions: as stated in each theorem.
-/
import Derived.Test.YticfalbgplifoaaGreatDoorLawB
namespace Go.Proofs.YticfalbgplifoaaGreatDoor
set_option maxRecDepth 100000
open Go Go.RowKit
set_option linter.unusedVariables false
set_option linter.unusedSimpArgs false

theorem com_below (a b : List UInt8) : ∀ m j, j < comP a b m → digP a j = digP b j
  | 0, j, h => by simp [comP] at h
  | m + 1, j, h => by
    unfold comP at h
    split at h
    · exact com_below a b m j h
    · rename_i h1
      have hm : comP a b m = m := by have := comP_le a b m; omega
      split at h
      · rename_i h2
        by_cases e : j = m
        · subst e; exact h2
        · exact com_below a b m j (by omega)
      · exact com_below a b m j (by omega)
theorem com_at (a b : List UInt8) : ∀ m, comP a b m < m → digP a (comP a b m) ≠ digP b (comP a b m)
  | 0, h => by simp [comP] at h
  | m + 1, h => by
    unfold comP at h ⊢
    split
    · rename_i h1; exact com_at a b m h1
    · rename_i h1
      rw [if_neg h1] at h
      split
      · rename_i h2; rw [if_pos h2] at h; omega
      · rename_i h2; exact h2
theorem com_ge {a b : List UInt8} {m t : Nat} (ht : t ≤ m) (h : ∀ j, j < t → digP a j = digP b j) : t ≤ comP a b m := by
  rcases Nat.lt_or_ge (comP a b m) t with h1 | h1
  · exact absurd (h _ h1) (com_at a b m (by omega))
  · exact h1
theorem drop_sumR {n : Int} (hn : widB n = true) (xs : List UInt8) : ∀ b ∈ (sumR n xs).drop n.toNat, b = 0 := by
  have hw := (widB_iff n).1 hn
  intro b hb
  rw [sumR, if_pos hn, sumP, cutP] at hb
  rw [List.drop_append_of_le_length (by rw [List.length_take, shaP_len]; omega)] at hb
  rw [List.drop_of_length_le (by rw [List.length_take]; omega), List.nil_append] at hb
  exact (List.mem_replicate.1 hb).2
theorem chk_two {n : Int} (hn : widB n = true) {ds : List (List UInt8)} (h : ∀ d ∈ ds, ∃ xs, d = sumR n xs) : chkP n ds = 0 := by
  have hw := (widB_iff n).1 hn
  unfold chkP
  rw [if_neg (by omega), if_pos]
  intro d hd
  obtain ⟨xs, rfl⟩ := h d hd
  exact drop_sumR hn xs
theorem comPP_sum {n : Int} (hn : widB n = true) (xs ys : List UInt8) : comPP n (sumR n xs) (sumR n ys) = (((comP (sumR n xs) (sumR n ys) (2 * n.toNat) : Nat) : Int), (0 : Int)) := by
  unfold comPP
  rw [if_pos (chk_two hn (by intro d hd; simp only [List.mem_cons, List.not_mem_nil, or_false] at hd; rcases hd with rfl | rfl <;> exact ⟨_, rfl⟩))]
theorem atP_sum {n : Int} (hn : widB n = true) (xs : List UInt8) (i : Nat) (hi : (i : Int) < 2 * n) : atP n (sumR n xs) i = (((digP (sumR n xs) i : Nat) : Int), (0 : Int)) := by
  have hw := (widB_iff n).1 hn
  unfold atP
  rw [if_neg (by omega), if_pos (chk_two hn (by intro d hd; simp only [List.mem_cons, List.not_mem_nil, or_false] at hd; subst hd; exact ⟨_, rfl⟩))]
  simp only [Int.toNat_natCast]

/-- The same digits: the same steps. -/
theorem upF_cons (n : Int) (k : List UInt8) (x : Nat × SR) (l : List (Nat × SR)) (d : List UInt8) : upF n k (x :: l) d = upF n k l (stepD n k d x.1 x.2.bm x.2.ks) := by
  exact List.foldl_cons ..
theorem stepD_congr {n : Int} {k k' : List UInt8} {i : Nat} (h : (atP n k i).1 = (atP n k' i).1) (d : List UInt8) (bm : Nat) (ks : List (List UInt8)) : stepD n k d i bm ks = stepD n k' d i bm ks := by
  unfold stepD
  rw [h]
theorem upF_congr (n : Int) (k k' : List UInt8) (l : List (Nat × SR)) : ∀ (d : List UInt8), (∀ x ∈ l, (atP n k x.1).1 = (atP n k' x.1).1) → upF n k l d = upF n k' l d := by
  induction l with
  | nil => intro d h; exact (List.foldl_nil ..).trans (List.foldl_nil ..).symm
  | cons x l ih =>
    intro d h
    rw [upF_cons, upF_cons]
    have e := stepD_congr (h x List.mem_cons_self) d x.2.bm x.2.ks
    rw [e]
    exact ih _ (fun y hy => h y (List.mem_cons_of_mem _ hy))

theorem other_plain {n : Int} {key other : List UInt8} {ss : List SR} {ps : List PR} (hR : RootE n key ss ps 0) (hol : other.length ≤ 64) (hc : (ss.length : Int) ≤ (comPP n (keyD n key) (keyD n other)).1) :
    RootE n other ss ps 0 ∧ outD 0 n other ss ps = outD 0 n key ss ps := by
  obtain ⟨hn, hkl, hq, hb, hp⟩ := hR.ok
  have hw := (widB_iff n).1 hn
  have h2 : (ss.length : Int) ≤ 2 * n := hb.1
  unfold keyD at hc
  rw [comPP_sum hn] at hc
  simp only at hc
  have hd : ∀ j, j < ss.length → digP (keyD n key) j = digP (keyD n other) j := fun j hj => com_below _ _ (2 * n.toNat) j (by unfold keyD; omega)
  have hat : ∀ i : Nat, i < ss.length → (atP n (keyD n key) i).1 = (atP n (keyD n other) i).1 := by
    intro i hi
    have := hd i hi
    unfold keyD at this ⊢
    rw [atP_sum hn _ i (by omega), atP_sum hn _ i (by omega), this]
  refine ⟨RootE.mk n other ss ps hn hol hq ⟨h2, fun i s hs => ?_⟩ fun i a ha => ?_, ?_⟩
  · have hi := (List.getElem?_eq_some_iff.1 hs).1
    have := hb.2 i s hs
    unfold stepOk at this ⊢
    rw [← hat i hi]
    exact this
  · obtain ⟨g1, g2, g3, g4, g5⟩ := hp i a ha
    refine ⟨g1, g2, g3, g4, ?_⟩
    unfold keyD at g5 ⊢
    rw [comPP_sum hn] at g5 ⊢
    simp only at g5 ⊢
    have g6 : ss.length ≤ comP (sumR n (2 :: other)) (sumR n (2 :: a.k)) (2 * n.toNat) := by
      refine com_ge (by omega) fun j hj => ?_
      have e1 := hd j hj
      have e2 := com_below (sumR n (2 :: key)) (sumR n (2 :: a.k)) (2 * n.toNat) j (by omega)
      unfold keyD at e1
      rw [← e1, e2]
    omega
  · simp only [outD, if_true]
    refine (upF_congr n _ _ _ _ fun x hx => ?_).symm
    have := (List.getElem?_eq_some_iff.1 (backL_mem hx)).1
    exact hat x.1 this

end Go.Proofs.YticfalbgplifoaaGreatDoor
