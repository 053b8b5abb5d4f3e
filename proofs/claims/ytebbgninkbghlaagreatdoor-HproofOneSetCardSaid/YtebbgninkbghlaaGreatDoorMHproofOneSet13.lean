/-
  Steps without one digest each; lists of steps whose digests lie in blocks of their own, one of them changed. Conditions: as stated in each theorem. Package notaryref15: ahead, Without. Conditions: as stated in each theorem. Package hproof: Prove. Conditions: as stated in each theorem. Package notaryref15: Prove, DocProve, Same, DocSize; package hproof: Size. Conditions: as stated in each theorem. Package notaryref14: Delete. Conditions: as stated in each theorem. Conversions of strings and bytes. Conditions: as stated in each theorem. Package notarylaw15: made, wide, awake. Conditions: as stated in each theorem. A book of pairs, each key once, beside a tree's items, in plain Lean. Conditions: as stated in each theorem. slices.Delete of one element, of pairs and of nodes. Conditions: as stated in each theorem. Written by wip/gendel.py. Package hamt: drop, Delete. Conditions: as stated in each theorem. Package hamt: Pairs. Conditions: as stated in each theorem. HproofOneSet: the walk. Conditions: as stated in each theorem. The frame of the rows: a law's row out of its walk, whatever its parameters; digests and numbers opened. Conditions: none; plain lemmas. The frame of rows that list the table and bound the bulk: questions (structs with lists of structs) opened, with their sizes; the table out of the row's list. Conditions: none; plain lemmas. The frame of rows: parameters opened; the table of SHA-256. Conditions: none; plain lemmas.
-/
import Derived.Test.YtebbgninkbghlaaGreatDoorMHproofOneSet11
import Derived.Test.YtebbgninkbghlaaGreatDoorMHproofOneSet12
import Derived.Lib.ConvBytes
import Derived.Laws.IdiomStrings
import Derived.Test.YtebbgninkbghlaaGreatDoorMHproofOneSet7
import Derived.Deep.Slices
import Derived.Lib.LaidTab
import Derived.Lib.SmallJoins
import Derived.Test.YtebbgninkbghlaaGreatDoorMHproofOneSet8
/-! Cut -/
namespace Go.Proofs.YtebbgninkbghlaaGreatDoor
set_option maxRecDepth 100000
open Go Go.RowKit
set_option linter.unusedVariables false
set_option linter.unusedSimpArgs false
attribute [local irreducible] vcT opsT qT vcOp Q1 vcPure vcLoad vcStore ldC ldN ldD grdT grdQ vc vcOps vcQ hT
attribute [local irreducible] sumR sumP shaP keyD bucketP branchP

/-- The digests of a branch without that of the digit c. -/
def cutK (bm c : Nat) (ks : List (List UInt8)) : List (List UInt8) := if hasB bm (c : Int) = true then ks.eraseIdx (rankB bm (c : Int)) else ks
/-- A way down without the digests of the way of K. -/
def cutS (K : List UInt8) : Nat → List (Nat × List (List UInt8)) → List (Nat × List (List UInt8))
  | _, [] => []
  | i, s :: r => (s.1, cutK s.1 (digP K i) s.2) :: cutS K (i + 1) r
theorem cutS_len (K : List UInt8) : ∀ (i : Nat) (L : List (Nat × List (List UInt8))), (cutS K i L).length = L.length
  | _, [] => rfl
  | i, s :: r => by simp [cutS, cutS_len K (i + 1) r]
theorem cutS_snoc (K : List UInt8) : ∀ (i : Nat) (L : List (Nat × List (List UInt8))) (x : Nat × List (List UInt8)), cutS K i (L ++ [x]) = cutS K i L ++ [(x.1, cutK x.1 (digP K (i + L.length)) x.2)]
  | i, [], x => rfl
  | i, s :: r, x => by
    show (s.1, cutK s.1 (digP K i) s.2) :: cutS K (i + 1) (r ++ [x]) = _
    rw [cutS_snoc K (i + 1) r x, show i + 1 + r.length = i + (s :: r).length from by simp; omega]
    rfl
theorem cutK_len (bm c : Nat) (ks : List (List UInt8)) : (cutK bm c ks).length ≤ ks.length := by
  unfold cutK
  split
  · rw [List.length_eraseIdx]; split <;> omega
  · exact Nat.le_refl _
theorem cutK_mem {bm c : Nat} {ks : List (List UInt8)} : ∀ x ∈ cutK bm c ks, x ∈ ks := by
  intro x hx
  unfold cutK at hx
  split at hx
  · exact List.mem_of_mem_eraseIdx hx
  · exact hx
theorem cutK_has {bm c : Nat} {ks : List (List UInt8)} (h : hasB bm (c : Int) = true) (hl : rankB bm (c : Int) < ks.length) : cutK bm c ks = ks.take (rankB bm (c : Int)) ++ ks.drop (rankB bm (c : Int) + 1) := by
  rw [cutK, if_pos h, List.eraseIdx_eq_take_drop_succ]
theorem cutK_not {bm c : Nat} {ks : List (List UInt8)} (h : ¬ (hasB bm (c : Int) = true ∧ rankB bm (c : Int) < ks.length)) : cutK bm c ks = ks := by
  unfold cutK
  split
  · rename_i hh
    exact List.eraseIdx_of_length_le (Nat.le_of_not_lt fun e => h ⟨hh, e⟩)
  · rfl

/-! ### Blocks -/
theorem RunK.only_lt {w w' : World} {hi : Nat} {x : Value} (k : OnlyBy x w w') : ∀ {l : List SR} {lo : Nat}, (∀ g, x.ownBlock = some g → g < lo) → RunK w hi lo l → RunK w' hi lo l
  | [], lo, _, h => h
  | t :: r, lo, hx, h => by
    obtain ⟨mid, h1, h2, h3⟩ := h
    refine ⟨mid, h1, ⟨h2.1, h2.2.1, h2.2.2.1.only (fun g hg e => ?_) k, h2.2.2.2⟩, RunK.only_lt k (fun g hg => Nat.lt_of_lt_of_le (hx g hg) h1) h3⟩
    have := hx g e
    have := h2.2.2.1.lo g hg
    omega
/-- One list of digests, written in its own block. -/
theorem RunK.set {w w' : World} {hi : Nat} {t t' : SR} {r : List SR} (k : OnlyBy t.kv w w') (hb : t'.bm < 65536) (hd : ∀ d ∈ t'.ks, d.length = 32) (ho : t'.kv.ownBlock = t.kv.ownBlock) : ∀ {l : List SR} {lo : Nat}, lo ≤ hi →
    (∀ b, Own w b 28 32 t.kv t.ks.length (t.ks.flatMap vbs) → Own w' b 28 32 t'.kv t'.ks.length (t'.ks.flatMap vbs)) → RunK w hi lo (l ++ t :: r) → RunK w' hi lo (l ++ t' :: r)
  | [], lo, _, hO, h => by
    obtain ⟨mid, h1, h2, h3⟩ := h
    exact ⟨mid, h1, ⟨hb, hd, hO _ h2.2.2.1, fun g hg => h2.2.2.2 g (by rw [← ho]; exact hg)⟩, RunK.only_lt k h2.2.2.2 h3⟩
  | s :: l, lo, hh, hO, h => by
    obtain ⟨mid, h1, h2, h3⟩ := h
    refine ⟨mid, h1, ⟨h2.1, h2.2.1, h2.2.2.1.only (fun g hg e => ?_) k, h2.2.2.2⟩, RunK.set k hb hd ho h3.le hO h3⟩
    have a1 := h2.2.2.2 g hg
    have a2 := (RunK.mem h3 t (by simp)).2.2
    have := a2.lo g e
    omega
theorem RunK.put {w w' : World} {hi b T U : Nat} {L m : List Value} (k : Blk w b T L) (hT : T ≠ 28) (p : Put w w' b U m) : ∀ {l : List SR} {lo : Nat}, RunK w hi lo l → RunK w' hi lo l
  | [], lo, h => h
  | t :: r, lo, h => by obtain ⟨mid, h1, h2, h3⟩ := h; exact ⟨mid, h1, ⟨h2.1, h2.2.1, h2.2.2.1.put k hT p, h2.2.2.2⟩, RunK.put k hT p h3⟩
theorem RunB.onlyT {w w' : World} {hi b2 e2 s2 n2 : Nat} {x : Value} {ys : List Value} (h2 : Own w b2 e2 s2 x n2 ys) (hne : 5 ≠ e2) (k : OnlyBy x w w') : ∀ {l : List (Value × List UInt8)} {lo : Nat}, RunB w hi lo l → RunB w' hi lo l
  | [], lo, h => h
  | t :: r, lo, h => by obtain ⟨mid, h1, h3, h4⟩ := h; exact ⟨mid, h1, ⟨h3.1.onlyT h2 hne k, h3.2⟩, RunB.onlyT h2 hne k h4⟩
end Go.Proofs.YtebbgninkbghlaaGreatDoor

/-! Rfp -/
namespace Go.Proofs.YtebbgninkbghlaaGreatDoor
set_option maxRecDepth 100000
open Go Go.RowKit
set_option linter.unusedVariables false
set_option linter.unusedSimpArgs false
set_option maxHeartbeats 1000000
attribute [local irreducible] vcT opsT qT vcOp Q1 vcPure vcLoad vcStore ldC ldN ldD grdT grdQ vc vcOps vcQ hT
attribute [local irreducible] sumR sumP shaP keyD bucketP branchP

theorem bitAnd (m c : Nat) (hm : m < 65536) (hc : c < 16) : ibits .and .u16 ((m : Int).fdiv (2 ^ min c IntKind.u16.bits)) 1 = ((if m.testBit c = true then 1 else 0 : Nat) : Int) := by
  have hd : m / 2 ^ c < 65536 := Nat.lt_of_le_of_lt (Nat.div_le_self _ _) hm
  rw [fdivN m c IntKind.u16.bits (by have : IntKind.u16.bits = 16 := rfl; omega), show (1 : Int) = ((1 : Nat) : Int) from rfl, (ibN .u16 rfl (m / 2 ^ c) 1 hd (by decide)).1, Nat.and_one_is_mod, Nat.testBit_eq_decide_div_mod_eq]
  by_cases h : m / 2 ^ c % 2 = 1
  · rw [if_pos (by simpa using h), h]
  · rw [if_neg (by simpa using h)]; omega
theorem ahead_ok (bm : Nat) (hb : bm < 65536) (c : Nat) (hc : c < 16) (w : World) :
    CallK Tryz.prog 173 [.int .u16 bm, .int .i64 c].toArray w fun v w' => v = .tuple [.int .i64 (rankB bm (c : Int)), .bool (hasB bm (c : Int))].toArray ∧ Ext w w' := by
  refine enterT Tryz.func173 rfl Tryz.ntmps173 Tryz.results173 rfl (by decide) ?_
  repeat (first | exact trivial | refine stp ?_ | refine ldCg ?_ | refine ldNg ?_ | refine ldSg ?_ | refine ldSb ?_ | refine bnd ?_ | refine bnd1 ?_ | refine drawQ (by decide +kernel) mixed (by decide +kernel) ?_)
  refine loopX (ι := Nat) (fun j => [(0, .int .u16 bm), (1, .int .i64 c), (6, .int .i64 (rankB bm (j : Int))), (7, .int .i64 j)]) (fun j W => Ext w W ∧ j ≤ c) (fun j => c - j) 0 ⟨.go, Nat.zero_le _⟩ ?_ ?_
  · repeat (first | exact trivial | refine stp ?_ | refine ldCg ?_ | refine ldNg ?_ | refine ldSg ?_ | refine ldSb ?_ | refine bnd ?_ | refine bnd1 ?_ | refine drawQ (by decide +kernel) mixed (by decide +kernel) ?_)
    rw [rank0]
    rfl
  · rintro j s1 w1 ⟨hE1, hj⟩
    have hz1 := hE1.size
    repeat (first | exact trivial | refine stp ?_ | refine ldCg ?_ | refine ldNg ?_ | refine ldSg ?_ | refine ldSb ?_ | refine bnd ?_ | refine bnd1 ?_ | refine drawQ (by decide +kernel) mixed (by decide +kernel) ?_)
    refine ⟨fun hlt => ?_, fun hge => ?_⟩
    · have hr := rank_le bm (j : Int)
      have hcn := cnt_le bm
      have hrs := rank_succ bm j (by omega)
      repeat (first | exact trivial | refine stp ?_ | refine ldCg ?_ | refine ldNg ?_ | refine ldSg ?_ | refine ldSb ?_ | refine bnd ?_ | refine bnd1 ?_ | refine drawQ (by decide +kernel) mixed (by decide +kernel) ?_)
      rw [bitAnd bm j hb (by omega)]
      generalize hbv : (if bm.testBit j = true then 1 else 0) = x at *
      have hx : x ≤ 1 := by rw [← hbv]; split <;> decide
      refine ⟨j + 1, ⟨.go, by omega⟩, ⟨?_, by rw [w64 (by omega) (by omega)]; rfl⟩, by omega⟩
      rw [hrs, w64 (n := (x : Int)) (by omega) (by omega), w64 (by omega) (by omega)]
      omega
    · obtain rfl : j = c := by omega
      repeat (first | exact trivial | refine stp ?_ | refine ldCg ?_ | refine ldNg ?_ | refine ldSg ?_ | refine ldSb ?_ | refine bnd ?_ | refine bnd1 ?_ | refine drawQ (by decide +kernel) mixed (by decide +kernel) ?_)
      intro w2 hE2
      rw [bitAnd bm j hb hc]
      refine ⟨?_, .go⟩
      have e : hasB bm (j : Int) = bm.testBit j := by unfold hasB inB; simp [hc]; intro; omega
      rw [e]
      cases bm.testBit j <;> rfl
theorem cutK_snoc (bm c : Nat) (ks : List (List UInt8)) (x : List UInt8) : cutK bm c (ks ++ [x]) = if hasB bm (c : Int) = true ∧ ks.length = rankB bm (c : Int) then cutK bm c ks else cutK bm c ks ++ [x] := by
  unfold cutK
  by_cases hh : hasB bm (c : Int) = true
  · rw [if_pos hh, if_pos hh]
    by_cases he : ks.length = rankB bm (c : Int)
    · rw [if_pos ⟨hh, he⟩, ← he, List.eraseIdx_append_of_length_le (Nat.le_refl _), Nat.sub_self, List.eraseIdx_of_length_le (l := ks) (Nat.le_refl _)]
      simp
    · rw [if_neg (fun h => he h.2)]
      rcases Nat.lt_or_ge (rankB bm (c : Int)) ks.length with h | h
      · rw [List.eraseIdx_append_of_lt_length h]
      · rw [List.eraseIdx_append_of_length_le h, List.eraseIdx_of_length_le (l := ks) h, List.eraseIdx_of_length_le (by simp; omega)]
  · rw [if_neg hh, if_neg hh, if_neg (fun h => hh h.1)]
theorem WithoutR_ok (bm : Nat) (hb : bm < 65536) (c : Nat) (hc : c < 16) (ks : List (List UInt8)) (kv : Value) (w : World) (hk : SlC w kv ks.length (ks.flatMap vbs)) (h32 : ∀ d ∈ ks, d.length = 32) (hl : ks.length ≤ 1000000000) :
    CallK Tryz.prog 133 [.agg [.int .u16 bm, kv].toArray, .int .i64 c].toArray w fun v w' => ∃ ov, v = .agg [.int .u16 bm, ov].toArray ∧ Own w' w.heap.size 28 32 ov (cutK bm c ks).length ((cutK bm c ks).flatMap vbs) ∧ Ext w w' := by
  obtain ⟨ka, kc, rfl⟩ := slv_of hk
  refine enterT Tryz.func133 rfl Tryz.ntmps133 Tryz.results133 rfl (by decide) ?_
  repeat (first | exact trivial | refine stp ?_ | refine ldCg ?_ | refine ldNg ?_ | refine ldSg ?_ | refine ldSb ?_ | refine bnd ?_ | refine bnd1 ?_ | refine drawQ (by decide +kernel) mixed (by decide +kernel) ?_)
  first | refine newS ?_ | refine newZ ?_
  intro w1 hE1 hz1 hB1
  repeat (first | exact trivial | refine stp ?_ | refine ldCg ?_ | refine ldNg ?_ | refine ldSg ?_ | refine ldSb ?_ | refine bnd ?_ | refine bnd1 ?_ | refine drawQ (by decide +kernel) mixed (by decide +kernel) ?_)
  first | refine newS ?_ | refine newZ ?_
  intro w2 hE2 hz2 hB2
  repeat (first | exact trivial | refine stp ?_ | refine ldCg ?_ | refine ldNg ?_ | refine ldSg ?_ | refine ldSb ?_ | refine bnd ?_ | refine bnd1 ?_ | refine drawQ (by decide +kernel) mixed (by decide +kernel) ?_)
  refine (ahead_ok bm hb c hc w2).mono ?_
  rintro _ w3 ⟨rfl, hE3⟩
  have hz3 := hE3.size
  repeat (first | exact trivial | refine stp ?_ | refine ldCg ?_ | refine ldNg ?_ | refine ldSg ?_ | refine ldSb ?_ | refine bnd ?_ | refine bnd1 ?_ | refine drawQ (by decide +kernel) mixed (by decide +kernel) ?_)
  refine bldC [.int .u16 bm, .slice none 0 0] (by kernel_rfl) ?_
  repeat (first | exact trivial | refine stp ?_ | refine ldCg ?_ | refine ldNg ?_ | refine ldSg ?_ | refine ldSb ?_ | refine bnd ?_ | refine bnd1 ?_ | refine drawQ (by decide +kernel) mixed (by decide +kernel) ?_)
  first | refine newS ?_ | refine newZ ?_
  intro w4 hE4 hz4 hB4
  repeat (first | exact trivial | refine stp ?_ | refine ldCg ?_ | refine ldNg ?_ | refine ldSg ?_ | refine ldSb ?_ | refine bnd ?_ | refine bnd1 ?_ | refine drawQ (by decide +kernel) mixed (by decide +kernel) ?_)
  refine loopX (ι := Nat × Option Addr × Nat) (fun x => [(2, .pointer (some ⟨w.heap.size, 0, none⟩)), (4, .pointer (some ⟨w1.heap.size, 0, none⟩)), (5, .int .i64 (rankB bm (c : Int))), (6, .bool (hasB bm (c : Int))), (7, .pointer (some ⟨w3.heap.size, 0, none⟩)), (21, .slice ka ks.length kc), (22, .int .i64 ks.length), (23, .int .i64 x.1)])
    (fun x W => Ext w3 W ∧ w4.heap.size ≤ W.heap.size ∧ x.1 ≤ ks.length ∧ Blk W w3.heap.size 51 [.int .u16 bm, .slice x.2.1 (cutK bm c (ks.take x.1)).length x.2.2] ∧
      Own W w4.heap.size 28 32 (.slice x.2.1 (cutK bm c (ks.take x.1)).length x.2.2) (cutK bm c (ks.take x.1)).length ((cutK bm c (ks.take x.1)).flatMap vbs)) (fun x => ks.length - x.1) (0, none, 0) ⟨.go, Nat.le_refl _, Nat.zero_le _, ?_, ?_⟩ ?_ ?_
  · simpa [cutK] using hB4
  · simpa [cutK] using Own.nil _ _ _ _
  · repeat (first | exact trivial | refine stp ?_ | refine ldCg ?_ | refine ldNg ?_ | refine ldSg ?_ | refine ldSb ?_ | refine bnd ?_ | refine bnd1 ?_ | refine drawQ (by decide +kernel) mixed (by decide +kernel) ?_)
  · rintro ⟨j, a, cc⟩ s5 w5 ⟨hE5, hz5, hj, hB5, hO5⟩
    simp only at hj hB5 hO5
    generalize hus : cutK bm c (ks.take j) = us at *
    repeat (first | exact trivial | refine stp ?_ | refine ldCg ?_ | refine ldNg ?_ | refine ldSg ?_ | refine ldSb ?_ | refine bnd ?_ | refine bnd1 ?_ | refine drawQ (by decide +kernel) mixed (by decide +kernel) ?_)
    refine ⟨fun hlt => ?_, fun hge => ?_⟩
    · obtain ⟨b, o, rfl, hR⟩ := hk.row (f := vbs) (sz := 32) (fun d hd => by rw [vbs_len]; exact h32 d hd) (by decide) (by omega)
      obtain ⟨d, hx⟩ : ∃ x, ks[j]? = some x := ⟨_, List.getElem?_eq_getElem (by omega)⟩
      have hdl := h32 d (List.mem_of_getElem? hx)
      have htk : ks.take (j + 1) = ks.take j ++ [d] := by
        obtain ⟨hil, he⟩ := List.getElem?_eq_some_iff.1 hx
        rw [List.take_succ_eq_append_getElem hil, he]
      have hlj : (ks.take j).length = j := by rw [List.length_take]; omega
      have hsn := cutK_snoc bm c (ks.take j) d
      rw [← htk, hus, hlj] at hsn
      have hul : us.length ≤ j := by rw [← hus]; exact Nat.le_trans (cutK_len _ _ _) (by omega)
      repeat (first | exact trivial | refine stp ?_ | refine ldCg ?_ | refine ldNg ?_ | refine ldSg ?_ | refine ldSb ?_ | refine bnd ?_ | refine bnd1 ?_ | refine drawQ (by decide +kernel) mixed (by decide +kernel) ?_)
      refine ldRow (f := vbs) hx ?_
      repeat (first | exact trivial | refine stp ?_ | refine ldCg ?_ | refine ldNg ?_ | refine ldSg ?_ | refine ldSb ?_ | refine bnd ?_ | refine bnd1 ?_ | refine drawQ (by decide +kernel) mixed (by decide +kernel) ?_)
      first | refine newS ?_ | refine newZ ?_
      intro w6 hE6 hz6 hB6
      repeat (first | exact trivial | refine stp ?_ | refine ldCg ?_ | refine ldNg ?_ | refine ldSg ?_ | refine ldSb ?_ | refine bnd ?_ | refine bnd1 ?_ | refine drawQ (by decide +kernel) mixed (by decide +kernel) ?_)
      by_cases hc1 : hasB bm (c : Int) = true ∧ j = rankB bm (c : Int)
      · rw [if_pos hc1] at hsn
        rw [hc1.1]
        repeat (first | exact trivial | refine stp ?_ | refine ldCg ?_ | refine ldNg ?_ | refine ldSg ?_ | refine ldSb ?_ | refine bnd ?_ | refine bnd1 ?_ | refine drawQ (by decide +kernel) mixed (by decide +kernel) ?_)
        intro _
        exact ⟨(j + 1, a, cc), ⟨.go, by omega, by simp only; omega, by simp only; rw [hsn]; exact .go, by simp only; rw [hsn]; exact hO5.ext .go⟩, by rw [w64 (by omega) (by omega)]; rfl, by simp only; omega⟩
      · rw [if_neg hc1] at hsn
        cases hh : hasB bm (c : Int)
        · repeat (first | exact trivial | refine stp ?_ | refine ldCg ?_ | refine ldNg ?_ | refine ldSg ?_ | refine ldSb ?_ | refine bnd ?_ | refine bnd1 ?_ | refine drawQ (by decide +kernel) mixed (by decide +kernel) ?_)
          refine ⟨by rw [vbs_len]; exact hdl, ?_⟩
          first | refine newS ?_ | refine newZ ?_
          intro w7 hE7 hz7 hB7
          have hO7 := hO5.ext (w' := w7) .go
          have hB57 := hB5.ext (w' := w7) .go
          refine apDg rfl hO7 (by omega) hB7 hdl (by omega) (fun a8 c8 w8 hO8 hg8 hE8 => ?_)
          have hz8 := hE8.size
          have hB8 : Blk w8 w3.heap.size 51 [.int .u16 bm, .slice a us.length cc] := ⟨by rw [hg8.block _ hB57.lt (fun e => hO7.not_blk hB57 (by decide) e.symm)]; exact hB57.out⟩
          rw [show us.length + 1 = (us ++ [d]).length from by simp, ← hsn] at hO8 ⊢
          repeat (first | exact trivial | refine stp ?_ | refine ldCg ?_ | refine ldNg ?_ | refine ldSg ?_ | refine ldSb ?_ | refine bnd ?_ | refine bnd1 ?_ | refine drawQ (by decide +kernel) mixed (by decide +kernel) ?_)
          refine stC ?_
          intro w9 hP9 hz9 hB9
          repeat (first | exact trivial | refine stp ?_ | refine ldCg ?_ | refine ldNg ?_ | refine ldSg ?_ | refine ldSb ?_ | refine bnd ?_ | refine bnd1 ?_ | refine drawQ (by decide +kernel) mixed (by decide +kernel) ?_)
          exact ⟨(j + 1, a8, c8), ⟨.go, by omega, by simp only; omega, hB9, hO8.put hB8 (by decide) hP9⟩, by rw [w64 (by omega) (by omega)]; rfl, by simp only; omega⟩
        · repeat (first | exact trivial | refine stp ?_ | refine ldCg ?_ | refine ldNg ?_ | refine ldSg ?_ | refine ldSb ?_ | refine bnd ?_ | refine bnd1 ?_ | refine drawQ (by decide +kernel) mixed (by decide +kernel) ?_)
          refine ⟨fun _ => ?_, fun he => absurd ⟨hh, by omega⟩ hc1⟩
          repeat (first | exact trivial | refine stp ?_ | refine ldCg ?_ | refine ldNg ?_ | refine ldSg ?_ | refine ldSb ?_ | refine bnd ?_ | refine bnd1 ?_ | refine drawQ (by decide +kernel) mixed (by decide +kernel) ?_)
          refine ⟨by rw [vbs_len]; exact hdl, ?_⟩
          first | refine newS ?_ | refine newZ ?_
          intro w7 hE7 hz7 hB7
          have hO7 := hO5.ext (w' := w7) .go
          have hB57 := hB5.ext (w' := w7) .go
          refine apDg rfl hO7 (by omega) hB7 hdl (by omega) (fun a8 c8 w8 hO8 hg8 hE8 => ?_)
          have hz8 := hE8.size
          have hB8 : Blk w8 w3.heap.size 51 [.int .u16 bm, .slice a us.length cc] := ⟨by rw [hg8.block _ hB57.lt (fun e => hO7.not_blk hB57 (by decide) e.symm)]; exact hB57.out⟩
          rw [show us.length + 1 = (us ++ [d]).length from by simp, ← hsn] at hO8 ⊢
          repeat (first | exact trivial | refine stp ?_ | refine ldCg ?_ | refine ldNg ?_ | refine ldSg ?_ | refine ldSb ?_ | refine bnd ?_ | refine bnd1 ?_ | refine drawQ (by decide +kernel) mixed (by decide +kernel) ?_)
          refine stC ?_
          intro w9 hP9 hz9 hB9
          repeat (first | exact trivial | refine stp ?_ | refine ldCg ?_ | refine ldNg ?_ | refine ldSg ?_ | refine ldSb ?_ | refine bnd ?_ | refine bnd1 ?_ | refine drawQ (by decide +kernel) mixed (by decide +kernel) ?_)
          exact ⟨(j + 1, a8, c8), ⟨.go, by omega, by simp only; omega, hB9, hO8.put hB8 (by decide) hP9⟩, by rw [w64 (by omega) (by omega)]; rfl, by simp only; omega⟩
    · obtain rfl : j = ks.length := by omega
      rw [List.take_length] at hus
      have hB25 : Blk w5 w1.heap.size 51 _ := .go (h := hB2)
      repeat (first | exact trivial | refine stp ?_ | refine ldCg ?_ | refine ldNg ?_ | refine ldSg ?_ | refine ldSb ?_ | refine bnd ?_ | refine bnd1 ?_ | refine drawQ (by decide +kernel) mixed (by decide +kernel) ?_)
      refine stW ?_
      intro w6 hP6 hz6 hB6
      repeat (first | exact trivial | refine stp ?_ | refine ldCg ?_ | refine ldNg ?_ | refine ldSg ?_ | refine ldSb ?_ | refine bnd ?_ | refine bnd1 ?_ | refine drawQ (by decide +kernel) mixed (by decide +kernel) ?_)
      have hO6 := hO5.put hB25 (by decide) hP6
      exact ⟨.slice a us.length cc, rfl, by rw [hus]; exact hO6.base (by omega), .go⟩
end Go.Proofs.YtebbgninkbghlaaGreatDoor

/-! Hpr -/
namespace Go.Proofs.YtebbgninkbghlaaGreatDoor
set_option maxRecDepth 100000
open Go Go.RowKit
set_option linter.unusedVariables false
set_option linter.unusedSimpArgs false
set_option maxHeartbeats 1000000
attribute [local irreducible] vcT opsT qT vcOp Q1 vcPure vcLoad vcStore ldC ldN ldD grdT grdQ vc vcOps vcQ hT
attribute [local irreducible] sumR sumP shaP keyD bucketP branchP

theorem Own.rebase {w : World} {b b' e s n : Nat} {v : Value} {xs : List Value} (h : Own w b e s v n xs) (hb : ∀ g, v.ownBlock = some g → b' ≤ g) : Own w b' e s v n xs := by
  refine ⟨h.1, ?_⟩
  rcases h.2 with hn | ⟨g, cap, cur, rfl, _, rest⟩
  · exact .inl hn
  · exact .inr ⟨g, cap, cur, rfl, hb g rfl, rest⟩
theorem cutS_upto {K : List UInt8} {L M : List (Nat × List (List UInt8))} {i : Nat} {bm : Nat} {ks : List (List UInt8)} (h : M = cutS K 0 (L.take i) ++ L.drop i) (hx : M[i]? = some (bm, ks)) : L[i]? = some (bm, ks) ∧ M.set i (bm, cutK bm (digP K i) ks) = cutS K 0 (L.take (i + 1)) ++ L.drop (i + 1) := by
  have hl : (cutS K 0 (L.take i)).length = min i L.length := by rw [cutS_len, List.length_take]
  have hil : i < L.length := by
    have := (List.getElem?_eq_some_iff.1 hx).1
    rw [h, List.length_append, hl, List.length_drop] at this
    omega
  have hi : (cutS K 0 (L.take i)).length = i := by rw [hl]; omega
  have h1 : L[i]? = some (bm, ks) := by
    rw [h, List.getElem?_append_right (by omega), hi, Nat.sub_self, List.getElem?_drop, Nat.add_zero] at hx
    exact hx
  refine ⟨h1, ?_⟩
  obtain ⟨_, he⟩ := List.getElem?_eq_some_iff.1 h1
  rw [h, List.set_append_right _ _ (by omega), hi, Nat.sub_self, List.take_succ_eq_append_getElem hil, cutS_snoc, he, List.length_take, Nat.zero_add, Nat.min_eq_left (by omega), ← List.getElem_cons_drop hil, he]
  simp

theorem RunK.lt {w : World} {hi : Nat} : ∀ {l : List SR} {lo : Nat}, RunK w hi lo l → ∀ t ∈ l, ∀ g, t.kv.ownBlock = some g → g < hi
  | [], lo, _, p, hp => by cases hp
  | t :: r, lo, h, p, hp => by
    obtain ⟨mid, h1, h2, h3⟩ := h
    rcases List.mem_cons.1 hp with rfl | hp
    · exact fun g hg => Nat.lt_of_lt_of_le (h2.2.2.2 g hg) h3.le
    · exact RunK.lt h3 p hp
theorem set_same {α : Type} {l : List α} {i : Nat} {x : α} (h : l[i]? = some x) : l.set i x = l := by
  obtain ⟨hl, rfl⟩ := List.getElem?_eq_some_iff.1 h
  exact List.set_getElem_self hl
theorem set_split {α : Type} {l : List α} {i : Nat} {x y : α} (h : l[i]? = some x) : l = l.take i ++ x :: l.drop (i + 1) ∧ l.set i y = l.take i ++ y :: l.drop (i + 1) := by
  obtain ⟨hl, rfl⟩ := List.getElem?_eq_some_iff.1 h
  refine ⟨by rw [List.getElem_cons_drop, List.take_append_drop], ?_⟩
  rw [List.set_eq_take_append_cons_drop, if_pos hl]
theorem atP_err {m : Nat} {k : List UInt8} (hm : 1 ≤ m) (hm2 : m ≤ 32) (hk : k.length = 32) (hf : formB m k = true) {i : Nat} (hi : i < 2 * m) : (atP m k i).2 = 0 := by
  have hz := formB_zero hk hf
  have hc : chkP m [k] = 0 := by
    unfold chkP
    rw [if_neg (by omega), if_pos]
    intro d hd
    obtain rfl : d = k := by simpa using hd
    simpa using hz
  unfold atP
  rw [if_neg (by omega), if_pos hc]

theorem Prove_hproof_ok (n : Int) (hw : widB n = true) (S : Nat → Prop) (mv kv : Value) (m : List It) (key : List UInt8) (w : World) (hW : WordsAt w 1) (h : MapAt n S w mv m) (hO : OkI n m) (hk : SlB w kv key) (hml : m.length ≤ 1000000000) :
    CallK Tryz.prog 28 [mv, kv].toArray w fun r w' => ∃ (sv pv : Value) (tt : List SR) (qs : List PR), r = .tuple [.agg [sv, pv].toArray, .int .i64 (if 64 < key.length then 2 else 0 : Nat)].toArray ∧
      Own w' w.heap.size 51 2 sv tt.length (tt.flatMap SR.cells) ∧ RunK w' w'.heap.size w.heap.size tt ∧ Own w' w.heap.size 47 2 pv qs.length (qs.flatMap PR.cells) ∧ RunB w' w'.heap.size w.heap.size (qs.flatMap prB) ∧
      tt.map SR.dt = (if 64 < key.length then [] else cutS (keyD n key) 0 (walkI n (keyD n key) 64 0 m).1) ∧ qs.map PR.dat = (if 64 < key.length then [] else (walkI n (keyD n key) 64 0 m).2.map It.pr) ∧ Ext w w' := by
  have hwn := (widB_iff n).1 hw
  obtain ⟨nn, rfl⟩ : ∃ nn : Nat, n = nn := ⟨n.toNat, by omega⟩
  obtain ⟨ka, kc, rfl⟩ := slv_of hk
  refine enterT Tryz.func28 rfl Tryz.ntmps28 Tryz.results28 rfl (by decide) ?_
  repeat (first | exact trivial | refine stp ?_ | refine ldCg ?_ | refine ldNg ?_ | refine ldSg ?_ | refine ldSb ?_ | refine bnd ?_ | refine bnd1 ?_ | refine drawQ (by decide +kernel) mixed (by decide +kernel) ?_)
  first | refine newS ?_ | refine newZ ?_
  intro w1 hE1 hz1 hB1
  repeat (first | exact trivial | refine stp ?_ | refine ldCg ?_ | refine ldNg ?_ | refine ldSg ?_ | refine ldSb ?_ | refine bnd ?_ | refine bnd1 ?_ | refine drawQ (by decide +kernel) mixed (by decide +kernel) ?_)
  have hKl := keyD_len nn key
  refine ⟨fun h64 => ?_, fun h64 => ?_⟩
  · refine bldC [.slice none 0 0, .slice none 0 0] (by kernel_rfl) ?_
    repeat (first | exact trivial | refine stp ?_ | refine ldCg ?_ | refine ldNg ?_ | refine ldSg ?_ | refine ldSb ?_ | refine bnd ?_ | refine bnd1 ?_ | refine drawQ (by decide +kernel) mixed (by decide +kernel) ?_)
    refine stW ?_
    intro w2 hP2 hz2 hB2
    repeat (first | exact trivial | refine stp ?_ | refine ldCg ?_ | refine ldNg ?_ | refine ldSg ?_ | refine ldSb ?_ | refine bnd ?_ | refine bnd1 ?_ | refine drawQ (by decide +kernel) mixed (by decide +kernel) ?_)
    exact ⟨.slice none 0 0, .slice none 0 0, [], [], by rw [if_pos (by omega)]; rfl, Own.nil _ _ _ _, by show w.heap.size ≤ w2.heap.size; omega, Own.nil _ _ _ _, by show w.heap.size ≤ w2.heap.size; omega, by rw [if_pos (by omega)]; rfl, by rw [if_pos (by omega)]; rfl, .go⟩
  have h64' : ¬ 64 < key.length := by omega
  repeat (first | exact trivial | refine stp ?_ | refine ldCg ?_ | refine ldNg ?_ | refine ldSg ?_ | refine ldSb ?_ | refine bnd ?_ | refine bnd1 ?_ | refine drawQ (by decide +kernel) mixed (by decide +kernel) ?_)
  refine (Walk_hamt_ok nn hw S mv _ m key w1 (hW.ext .go) (h.ext .go) hO (hk.ext .go) hml).mono ?_
  rintro _ w2 ⟨sv, pv, tt, qs, rfl, hOs, hRk, hOp, hRb, htd, hqd, hE2⟩
  have hz2 := hE2.size
  rw [if_neg h64'] at htd hqd ⊢
  generalize hLe : (walkI nn (keyD nn key) 64 0 m).1 = L at *
  have hL : tt.length = L.length := by rw [← htd, List.length_map]
  obtain ⟨sa, sc, rfl⟩ := own_slice hOs
  obtain ⟨pa, pc, rfl⟩ := own_slice hOp
  obtain ⟨hst, hend, hsg⟩ := walk_spec hw (keyD nn key) 64 0 m hO hO.pre rfl
  rw [hLe] at hst
  simp only [Nat.zero_add] at hst
  have hf : formB nn (keyD nn key) = true := by unfold keyD; exact form_sumR nn _ hw
  have hL32 : L.length ≤ 2 * nn := by
    rcases Nat.eq_zero_or_pos L.length with h0 | h0
    · omega
    · obtain ⟨_, hs2⟩ := hst (L.length - 1) (by omega)
      obtain ⟨hOd, hPd⟩ := wmI_ok (n := nn) (keyD nn key) (L.length - 1) 0 hO hO.pre
      rw [Nat.zero_add] at hPd
      have := br_depth hs2 hPd (hOd.form hw)
      omega
  repeat (first | exact trivial | refine stp ?_ | refine ldCg ?_ | refine ldNg ?_ | refine ldSg ?_ | refine ldSb ?_ | refine bnd ?_ | refine bnd1 ?_ | refine drawQ (by decide +kernel) mixed (by decide +kernel) ?_)
  refine (Width_hamt_ok nn S mv m w2 (h.ext .go)).mono ?_
  rintro _ w3 ⟨rfl, hE3⟩
  have hz3 := hE3.size
  repeat (first | exact trivial | refine stp ?_ | refine ldCg ?_ | refine ldNg ?_ | refine ldSg ?_ | refine ldSb ?_ | refine bnd ?_ | refine bnd1 ?_ | refine drawQ (by decide +kernel) mixed (by decide +kernel) ?_)
  refine (Key_ok nn key _ w3 (hW.ext .go) (hk.ext .go) (by omega)).mono ?_
  rintro _ w4 ⟨rfl, hE4⟩
  have hz4 := hE4.size
  have hkd : sumR nn (2 :: key) = keyD nn key := by unfold keyD; rfl
  have hse : sumE nn = 0 := by unfold sumE; rw [if_pos hw]
  rw [hkd, hse]
  repeat (first | exact trivial | refine stp ?_ | refine ldCg ?_ | refine ldNg ?_ | refine ldSg ?_ | refine ldSb ?_ | refine bnd ?_ | refine bnd1 ?_ | refine drawQ (by decide +kernel) mixed (by decide +kernel) ?_)
  first | refine newS ?_ | refine newZ ?_
  intro w5 hE5 hz5 hB5
  repeat (first | exact trivial | refine stp ?_ | refine ldCg ?_ | refine ldNg ?_ | refine ldSg ?_ | refine ldSb ?_ | refine bnd ?_ | refine bnd1 ?_ | refine drawQ (by decide +kernel) mixed (by decide +kernel) ?_)
  refine loopX (ι := Nat × List SR) (fun x => [(4, .pointer (some ⟨w.heap.size, 0, none⟩)), (6, .slice sa tt.length sc), (7, .slice pa qs.length pc), (9, .int .i64 nn), (10, .pointer (some ⟨w4.heap.size, 0, none⟩)), (43, .slice sa tt.length sc), (44, .int .i64 tt.length), (45, .int .i64 x.1)])
    (fun x W => Ext w1 W ∧ w5.heap.size ≤ W.heap.size ∧ x.1 ≤ L.length ∧ x.2.length = tt.length ∧ Own W w1.heap.size 51 2 (.slice sa tt.length sc) tt.length (x.2.flatMap SR.cells) ∧ RunK W w2.heap.size w1.heap.size x.2 ∧
      Own W w1.heap.size 47 2 (.slice pa qs.length pc) qs.length (qs.flatMap PR.cells) ∧ RunB W w2.heap.size w1.heap.size (qs.flatMap prB) ∧ Blk W w4.heap.size 28 (vbs (keyD nn key)) ∧ x.2.map SR.dt = cutS (keyD nn key) 0 (L.take x.1) ++ L.drop x.1) (fun x => L.length - x.1) (0, tt) ⟨.go, Nat.le_refl _, Nat.zero_le _, rfl, hOs.ext .go, (hRk.ext .go), hOp.ext .go, hRb.ext .go, hB5, by simpa [cutS] using htd⟩ ?_ ?_
  · repeat (first | exact trivial | refine stp ?_ | refine ldCg ?_ | refine ldNg ?_ | refine ldSg ?_ | refine ldSb ?_ | refine bnd ?_ | refine bnd1 ?_ | refine drawQ (by decide +kernel) mixed (by decide +kernel) ?_)
  · rintro ⟨i, ss⟩ s6 w6 ⟨hE6, hz6, hi, hsl, hO6, hR6, hP6, hRb6, hB6, hd6⟩
    simp only at hi hsl hO6 hR6 hd6
    repeat (first | exact trivial | refine stp ?_ | refine ldCg ?_ | refine ldNg ?_ | refine ldSg ?_ | refine ldSb ?_ | refine bnd ?_ | refine bnd1 ?_ | refine drawQ (by decide +kernel) mixed (by decide +kernel) ?_)
    refine ⟨fun hlt => ?_, fun hge => ?_⟩
    · obtain ⟨t, ht⟩ : ∃ x, ss[i]? = some x := ⟨_, List.getElem?_eq_getElem (by omega)⟩
      obtain ⟨hs1, hs2⟩ := hst i (by omega)
      obtain ⟨hOd, hPd⟩ := wmI_ok (n := nn) (keyD nn key) i 0 hO hO.pre
      rw [Nat.zero_add] at hPd
      have hat := atP_dig (m := nn) (by omega) (by omega) hKl hf (br_depth hs2 hPd (hOd.form hw))
      have hae := atP_err (m := nn) (by omega) (by omega) hKl hf (br_depth hs2 hPd (hOd.form hw))
      have hdg := digP_lt (keyD nn key) i
      obtain ⟨hbm, h32, hOk⟩ := hR6.mem t (List.mem_of_getElem? ht)
      obtain ⟨g, cap, rest, he, hgb, hBg, hnc, hcm, hrl⟩ := hO6.open (by omega)
      injection he with he1 _ he3
      subst he1 he3
      have hO6' : Own w6 w1.heap.size 51 2 (.slice (some ⟨g, 0, none⟩) tt.length sc) ss.length (ss.flatMap SR.cells) := by rw [hsl]; exact hO6
      obtain ⟨b', o', he, hRow⟩ := (SlC.of_own hO6').row (f := SR.cells) (sz := 2) (fun _ _ => rfl) (by decide) (by omega)
      injection he with he
      injection he with he1 he2
      subst he1 he2
      obtain ⟨kv, bm, ks⟩ := t
      simp only at hbm h32 hOk
      have hdt : (ss.map SR.dt)[i]? = some (bm, ks) := by rw [List.getElem?_map, ht]; rfl
      obtain ⟨hLi, hset⟩ := cutS_upto hd6 hdt
      have hkl : ks.length ≤ 16 := by
        rw [hs1] at hLi
        simp only [Option.some.injEq, Prod.mk.injEq] at hLi
        rw [← hLi.2, kidsI_len]
        exact cnt_le _
      obtain ⟨ka', kc', rfl⟩ := own_slice hOk
      repeat (first | exact trivial | refine stp ?_ | refine ldCg ?_ | refine ldNg ?_ | refine ldSg ?_ | refine ldSb ?_ | refine bnd ?_ | refine bnd1 ?_ | refine drawQ (by decide +kernel) mixed (by decide +kernel) ?_)
      refine (At_ok nn (keyD nn key) hKl i w6).mono ?_
      rintro _ w7 ⟨rfl, hE7⟩
      have hz7 := hE7.size
      rw [hat, hae]
      repeat (first | exact trivial | refine stp ?_ | refine ldCg ?_ | refine ldNg ?_ | refine ldSg ?_ | refine ldSb ?_ | refine bnd ?_ | refine bnd1 ?_ | refine drawQ (by decide +kernel) mixed (by decide +kernel) ?_)
      refine ldRowF (f := SR.cells) 0 ht ?_
      repeat (first | exact trivial | refine stp ?_ | refine ldCg ?_ | refine ldNg ?_ | refine ldSg ?_ | refine ldSb ?_ | refine bnd ?_ | refine bnd1 ?_ | refine drawQ (by decide +kernel) mixed (by decide +kernel) ?_)
      refine (Rank_ok bm hbm (digP (keyD nn key) i) w7).mono ?_
      rintro _ w8 ⟨rfl, hE8⟩
      have hz8 := hE8.size
      repeat (first | exact trivial | refine stp ?_ | refine ldCg ?_ | refine ldNg ?_ | refine ldSg ?_ | refine ldSb ?_ | refine bnd ?_ | refine bnd1 ?_ | refine drawQ (by decide +kernel) mixed (by decide +kernel) ?_)
      refine ldRowF (f := SR.cells) 0 ht ?_
      repeat (first | exact trivial | refine stp ?_ | refine ldCg ?_ | refine ldNg ?_ | refine ldSg ?_ | refine ldSb ?_ | refine bnd ?_ | refine bnd1 ?_ | refine drawQ (by decide +kernel) mixed (by decide +kernel) ?_)
      refine (Has_ok bm hbm (digP (keyD nn key) i) w8).mono ?_
      rintro _ w9 ⟨rfl, hE9⟩
      have hz9 := hE9.size
      by_cases hh : hasB bm (digP (keyD nn key) i : Int) = true
      · rw [hh]
        repeat (first | exact trivial | refine stp ?_ | refine ldCg ?_ | refine ldNg ?_ | refine ldSg ?_ | refine ldSb ?_ | refine bnd ?_ | refine bnd1 ?_ | refine drawQ (by decide +kernel) mixed (by decide +kernel) ?_)
        refine ldRowF (f := SR.cells) 1 ht ?_
        repeat (first | exact trivial | refine stp ?_ | refine ldCg ?_ | refine ldNg ?_ | refine ldSg ?_ | refine ldSb ?_ | refine bnd ?_ | refine bnd1 ?_ | refine drawQ (by decide +kernel) mixed (by decide +kernel) ?_)
        refine ⟨fun hlt2 => ?_, fun hge2 => ?_⟩
        · refine ldRowF (f := SR.cells) 1 ht ?_
          repeat (first | exact trivial | refine stp ?_ | refine ldCg ?_ | refine ldNg ?_ | refine ldSg ?_ | refine ldSb ?_ | refine bnd ?_ | refine bnd1 ?_ | refine drawQ (by decide +kernel) mixed (by decide +kernel) ?_)
          have hrk : rankB bm (digP (keyD nn key) i : Int) < ks.length := by omega
          generalize hre : rankB bm (digP (keyD nn key) i : Int) = r at *
          obtain ⟨hks1, _⟩ := set_split (y := ks[r]) (List.getElem?_eq_getElem hrk)
          have hkf : ks.flatMap vbs = (ks.take r).flatMap vbs ++ (vbs ks[r] ++ (ks.drop (r + 1)).flatMap vbs) := by
            conv => lhs; rw [hks1]
            rw [List.flatMap_append, List.flatMap_cons]
          have hcut : cutK bm (digP (keyD nn key) i) ks = ks.take r ++ ks.drop (r + 1) := by rw [cutK_has hh (by omega), hre]
          rw [w64 (by omega) (by omega), show ((r : Int) + 1) = ((r + 1 : Nat) : Int) from by omega]
          have hA := dvs_len (ks.take r) (fun d hd => h32 d (List.mem_of_mem_take hd))
          have hD := dvs_len (ks.drop (r + 1)) (fun d hd => h32 d (List.mem_of_mem_drop hd))
          rw [List.length_take, Nat.min_eq_left (by omega)] at hA
          rw [List.length_drop] at hD
          refine (DelD_ok ((ks.take r).flatMap vbs) (vbs ks[r]) ((ks.drop (r + 1)).flatMap vbs) r ks.length hA (by rw [vbs_len]; exact h32 _ (List.getElem_mem _)) (by rw [hD]; congr 1; omega) hrk (fun v hv => by obtain ⟨d, _, hd⟩ := List.mem_flatMap.1 hv; exact vbs_one _ _ hd) _ w1.heap.size w9 (by rw [← hkf]; exact hOk.ext .go) (by omega) (by omega)).mono ?_
          rintro v10 w10 ⟨hob, hO10, hE10, hOB⟩
          have hz10 := hE10.size
          obtain ⟨a10, c10, rfl⟩ := own_slice hO10
          have hn10 : ks.length - 1 = (cutK bm (digP (keyD nn key) i) ks).length := by rw [hcut, List.length_append, List.length_take, List.length_drop]; omega
          have hf10 : (ks.take r).flatMap vbs ++ (ks.drop (r + 1)).flatMap vbs = (cutK bm (digP (keyD nn key) i) ks).flatMap vbs := by rw [hcut, List.flatMap_append]
          rw [hn10, hf10] at hO10
          rw [hn10] at hob ⊢
          have hOk9 : Own w9 w1.heap.size 28 32 (.slice ka' ks.length kc') ks.length (ks.flatMap vbs) := hOk.ext .go
          have hBg9 : Blk w9 g 51 (ss.flatMap SR.cells ++ rest) := .go
          have hBg10 := hOB g _ _ (hOk9.not_blk hBg9 (by decide)) hBg9
          obtain ⟨hs3, hs4⟩ := set_split (y := (⟨.slice a10 (cutK bm (digP (keyD nn key) i) ks).length c10, bm, cutK bm (digP (keyD nn key) i) ks⟩ : SR)) ht
          generalize hkn : cutK bm (digP (keyD nn key) i) ks = kn at *
          have hcl : ((ss.take i).flatMap SR.cells).length = i * 2 := by
            have : ∀ l : List SR, (l.flatMap SR.cells).length = l.length * 2 := by
              intro l
              induction l with
              | nil => rfl
              | cons a l ih => rw [List.flatMap_cons, List.length_append, ih]; simp [SR.cells]; omega
            rw [this, List.length_take]
            omega
          have hcell : ss.flatMap SR.cells ++ rest = ((ss.take i).flatMap SR.cells ++ [.int .u16 bm]) ++ (.slice ka' ks.length kc' :: ((ss.drop (i + 1)).flatMap SR.cells ++ rest)) := by
            conv => lhs; rw [hs3]
            simp [SR.cells, List.flatMap_append, List.flatMap_cons, List.append_assoc]
          have hcell' : (ss.set i ⟨.slice a10 kn.length c10, bm, kn⟩).flatMap SR.cells ++ rest = ((ss.take i).flatMap SR.cells ++ [.int .u16 bm]) ++ (.slice a10 kn.length c10 :: ((ss.drop (i + 1)).flatMap SR.cells ++ rest)) := by
            rw [hs4]
            simp [SR.cells, List.flatMap_append, List.flatMap_cons, List.append_assoc]
          rw [hcell] at hBg10
          repeat (first | exact trivial | refine stp ?_ | refine ldCg ?_ | refine ldNg ?_ | refine ldSg ?_ | refine ldSb ?_ | refine bnd ?_ | refine bnd1 ?_ | refine drawQ (by decide +kernel) mixed (by decide +kernel) ?_)
          refine stAt (by decide +kernel) hBg10 (by rw [List.length_append, hcl]; rfl) rfl rfl (fun w11 hP11 => ?_)
          have hB11 := hP11.blk
          rw [← hcell'] at hB11
          have hz11 := hP11.size
          have hkb := hR6.lt _ (List.mem_of_getElem? ht)
          have hBd10 : Blk w10 w4.heap.size 28 (vbs (keyD nn key)) := hOB _ _ _ (fun he => by have := hkb _ he; omega) (.go (h := hB6))
          have hg4 : g ≠ w4.heap.size := fun he => by have h1 := hBg10.out; rw [he, hBd10.out, Option.some.injEq, Obj.cells.injEq] at h1; exact absurd h1.2 (by decide)
          have hE11 : Ext w1 w11 := .go
          have hset' : ss.set i ⟨.slice a10 kn.length c10, bm, kn⟩ = ss.take i ++ ⟨.slice a10 kn.length c10, bm, kn⟩ :: ss.drop (i + 1) := hs4
          repeat (first | exact trivial | refine stp ?_ | refine ldCg ?_ | refine ldNg ?_ | refine ldSg ?_ | refine ldSb ?_ | refine bnd ?_ | refine bnd1 ?_ | refine drawQ (by decide +kernel) mixed (by decide +kernel) ?_)
          refine ⟨(i + 1, ss.set i ⟨.slice a10 kn.length c10, bm, kn⟩), ⟨hE11, by omega, by simp only; omega, by simp only [List.length_set]; exact hsl, ?_, ?_, ?_, ?_, hP11.keep hBd10 (Ne.symm hg4), ?_⟩, by rw [w64 (by omega) (by omega)]; rfl, by simp only; omega⟩
          · have hxl : ((ss.set i ⟨.slice a10 kn.length c10, bm, kn⟩).flatMap SR.cells).length = tt.length * 2 := by
              have h1 := congrArg List.length hcell'
              have h2 := congrArg List.length hcell
              have h3 := hO6.1
              simp only [List.length_append, List.length_cons] at h1 h2
              omega
            refine own_mk (sz := 2) hB11 hgb hxl ?_ hnc hcm
            have h3 := hO6.1
            rw [List.length_append, h3] at hrl
            rw [Nat.sub_mul]
            omega
          · rw [hset']
            have hR9 : RunK w9 w2.heap.size w1.heap.size (ss.take i ++ ⟨.slice ka' ks.length kc', bm, ks⟩ :: ss.drop (i + 1)) := by rw [← hs3]; exact hR6.ext .go
            refine RunK.put hBg10 (by decide) hP11 (RunK.set (t := ⟨.slice ka' ks.length kc', bm, ks⟩) hOB hbm (fun d hd => h32 d (by rw [← hkn] at hd; exact cutK_mem d hd)) hob (by omega) (fun b hb => hO10.rebase fun g' hg' => hb.lo g' (by rw [← hob]; exact hg')) hR9)
          · exact ((hP6.ext (w' := w9) .go).onlyT hOk9 (by decide) hOB).put hBg10 (by decide) hP11
          · exact RunB.put hBg10 (by decide) hP11 (RunB.onlyT hOk9 (by decide) hOB (hRb6.ext (w' := w9) .go))
          · simp only
            rw [← hset, hset', List.map_append, List.map_cons]
            have hdt' : (ss.map SR.dt)[i]? = some (bm, ks) := hdt
            rw [(set_split (y := (bm, kn)) hdt').2, List.map_take, List.map_drop]
            rfl
        · repeat (first | exact trivial | refine stp ?_ | refine ldCg ?_ | refine ldNg ?_ | refine ldSg ?_ | refine ldSb ?_ | refine bnd ?_ | refine bnd1 ?_ | refine drawQ (by decide +kernel) mixed (by decide +kernel) ?_)
          refine ⟨(i + 1, ss), ⟨.go, by omega, by simp only; omega, hsl, hO6.ext .go, hR6.ext .go, hP6.ext .go, hRb6.ext .go, .go, ?_⟩, by rw [w64 (by omega) (by omega)]; rfl, by simp only; omega⟩
          simp only
          rw [← hset, cutK_not (fun hc => by omega), set_same hdt]
      · rw [Bool.not_eq_true] at hh
        rw [hh]
        repeat (first | exact trivial | refine stp ?_ | refine ldCg ?_ | refine ldNg ?_ | refine ldSg ?_ | refine ldSb ?_ | refine bnd ?_ | refine bnd1 ?_ | refine drawQ (by decide +kernel) mixed (by decide +kernel) ?_)
        refine ⟨(i + 1, ss), ⟨.go, by omega, by simp only; omega, hsl, hO6.ext .go, hR6.ext .go, hP6.ext .go, hRb6.ext .go, .go, ?_⟩, by rw [w64 (by omega) (by omega)]; rfl, by simp only; omega⟩
        simp only
        rw [← hset, cutK_not (fun hc => by rw [hh] at hc; exact absurd hc.1 (by decide)), set_same hdt]
    · refine bldC [.slice sa tt.length sc, .slice pa qs.length pc] (by kernel_rfl) ?_
      repeat (first | exact trivial | refine stp ?_ | refine ldCg ?_ | refine ldNg ?_ | refine ldSg ?_ | refine ldSb ?_ | refine bnd ?_ | refine bnd1 ?_ | refine drawQ (by decide +kernel) mixed (by decide +kernel) ?_)
      refine stW ?_
      intro w7 hP7 hz7 hB7
      repeat (first | exact trivial | refine stp ?_ | refine ldCg ?_ | refine ldNg ?_ | refine ldSg ?_ | refine ldSb ?_ | refine bnd ?_ | refine bnd1 ?_ | refine drawQ (by decide +kernel) mixed (by decide +kernel) ?_)
      obtain rfl : i = L.length := by omega
      rw [List.take_length, List.drop_length, List.append_nil] at hd6
      have hb0 : Blk w6 w.heap.size 26 _ := .go (h := hB1)
      refine ⟨.slice sa tt.length sc, .slice pa qs.length pc, ss, qs, rfl, ?_, ?_, ?_, ?_, ?_, ?_, ?_⟩
      · rw [hsl]; exact (hO6.base (by omega)).put hb0 (by decide) hP7
      · exact RunK.put hb0 (by decide) hP7 (RunK.top (by omega) (RunK.append (l := []) (m := w1.heap.size) (by show w.heap.size ≤ _; omega) hR6))
      · exact (hP6.base (by omega)).put hb0 (by decide) hP7
      · exact RunB.put hb0 (by decide) hP7 (RunB.top (by omega) (RunB.append (l := []) (m := w1.heap.size) (by show w.heap.size ≤ _; omega) hRb6))
      · rw [if_neg h64', hd6]
      · rw [if_neg h64', hqd]
      · exact .go
end Go.Proofs.YtebbgninkbghlaaGreatDoor

/-! Rfq -/
namespace Go.Proofs.YtebbgninkbghlaaGreatDoor
set_option maxRecDepth 100000
open Go Go.RowKit
set_option linter.unusedVariables false
set_option linter.unusedSimpArgs false
set_option maxHeartbeats 1000000
attribute [local irreducible] vcT opsT qT vcOp Q1 vcPure vcLoad vcStore ldC ldN ldD grdT grdQ vc vcOps vcQ hT
attribute [local irreducible] sumR sumP shaP keyD bucketP branchP

theorem ProveO_ok (n : Nat) (hn : 1 ≤ n) (hn2 : n ≤ 32) (is : List IR) (m : List It) (key : List UInt8) (mv kv : Value) (w : World) (hm : ItemsAt w mv is) (hy : is.map IR.y = m) (hO : OkI n m) (hk : SlB w kv key) (hkl : key.length ≤ 4000000000) (hml : is.length ≤ 90000000) :
    CallK Tryz.prog 84 [.int .i64 n, mv, kv].toArray w fun v w' => ∃ (sv pv : Value) (tt : List SR) (js : List IR), v = .agg [sv, pv].toArray ∧ Own w' w.heap.size 51 2 sv tt.length (tt.flatMap SR.cells) ∧ RunK w' w'.heap.size w.heap.size tt ∧
      Own w' w.heap.size 47 2 pv js.length ((js.map IR.pr).flatMap PR.cells) ∧ (∀ q ∈ js, q ∈ is) ∧ tt.map SR.dt = cutS (keyD n key) 0 (walkI n (keyD n key) 64 0 m).1 ∧ (js.map IR.pr).map PR.dat = (walkI n (keyD n key) 64 0 m).2.map It.pr ∧ Ext w w' := by
  have hw : widB n = true := (widB_iff n).2 (by omega)
  have hKl := keyD_len n key
  refine enterT Tryz.func84 rfl Tryz.ntmps84 Tryz.results84 rfl (by decide) ?_
  repeat (first | exact trivial | refine stp ?_ | refine ldCg ?_ | refine ldNg ?_ | refine ldSg ?_ | refine ldSb ?_ | refine bnd ?_ | refine bnd1 ?_ | refine drawQ (by decide +kernel) mixed (by decide +kernel) ?_)
  first | refine newS ?_ | refine newZ ?_
  intro w1 hE1 hz1 hB1
  repeat (first | exact trivial | refine stp ?_ | refine ldCg ?_ | refine ldNg ?_ | refine ldSg ?_ | refine ldSb ?_ | refine bnd ?_ | refine bnd1 ?_ | refine drawQ (by decide +kernel) mixed (by decide +kernel) ?_)
  refine (WalkO_ok n hn hn2 is m key mv kv w1 (hm.ext .go) hy hO (hk.ext .go) hkl hml).mono ?_
  rintro _ w2 ⟨sv, pv, tt, qs, rfl, hOs2, hRk2, hPr, hjs, htd, hqd, hE2⟩
  have hSt := hRk2.stepsAt hOs2
  have hz2 := hE2.size
  generalize hLe : (walkI n (keyD n key) 64 0 m).1 = L at *
  have hL : tt.length = L.length := by rw [← htd, List.length_map]
  obtain ⟨sa, sc, rfl⟩ := slv_of hSt.1
  obtain ⟨pa, pc, rfl⟩ := own_slice hPr
  obtain ⟨hst, hend, hsg⟩ := walk_spec hw (keyD n key) 64 0 m hO hO.pre rfl
  rw [hLe] at hst
  simp only [Nat.zero_add] at hst
  have hL32 : L.length ≤ 2 * n := by
    rcases Nat.eq_zero_or_pos L.length with h0 | h0
    · omega
    · obtain ⟨_, hs2⟩ := hst (L.length - 1) (by omega)
      obtain ⟨hOd, hPd⟩ := wmI_ok (n := n) (keyD n key) (L.length - 1) 0 hO hO.pre
      rw [Nat.zero_add] at hPd
      have := br_depth hs2 hPd (hOd.form hw)
      omega
  repeat (first | exact trivial | refine stp ?_ | refine ldCg ?_ | refine ldNg ?_ | refine ldSg ?_ | refine ldSb ?_ | refine bnd ?_ | refine bnd1 ?_ | refine drawQ (by decide +kernel) mixed (by decide +kernel) ?_)
  refine (RKeyD_ok n hn hn2 key _ w2 (hk.ext .go) (by omega)).mono ?_
  rintro _ w3 ⟨rfl, hE3⟩
  have hz3 := hE3.size
  repeat (first | exact trivial | refine stp ?_ | refine ldCg ?_ | refine ldNg ?_ | refine ldSg ?_ | refine ldSb ?_ | refine bnd ?_ | refine bnd1 ?_ | refine drawQ (by decide +kernel) mixed (by decide +kernel) ?_)
  first | refine newS ?_ | refine newZ ?_
  intro w4 hE4 hz4 hB4
  repeat (first | exact trivial | refine stp ?_ | refine ldCg ?_ | refine ldNg ?_ | refine ldSg ?_ | refine ldSb ?_ | refine bnd ?_ | refine bnd1 ?_ | refine drawQ (by decide +kernel) mixed (by decide +kernel) ?_)
  first | refine newS ?_ | refine newZ ?_
  intro w5 hE5 hz5 hB5
  repeat (first | exact trivial | refine stp ?_ | refine ldCg ?_ | refine ldNg ?_ | refine ldSg ?_ | refine ldSb ?_ | refine bnd ?_ | refine bnd1 ?_ | refine drawQ (by decide +kernel) mixed (by decide +kernel) ?_)
  refine loopX (ι := Nat × List SR × Option Addr × Nat) (fun x => [(6, .pointer (some ⟨w.heap.size, 0, none⟩)), (8, .slice pa qs.length pc), (9, .pointer (some ⟨w3.heap.size, 0, none⟩)), (10, .pointer (some ⟨w4.heap.size, 0, none⟩)), (23, .slice sa tt.length sc), (24, .int .i64 tt.length), (25, .int .i64 x.1)])
    (fun x W => Ext w4 W ∧ w5.heap.size ≤ W.heap.size ∧ x.1 ≤ L.length ∧ x.2.1.length = x.1 ∧ Blk W w4.heap.size 26 [.slice x.2.2.1 x.2.1.length x.2.2.2, .slice none 0 0] ∧
      Own W w5.heap.size 51 2 (.slice x.2.2.1 x.2.1.length x.2.2.2) x.2.1.length (x.2.1.flatMap SR.cells) ∧ RunK W W.heap.size w5.heap.size x.2.1 ∧ x.2.1.map SR.dt = cutS (keyD n key) 0 (L.take x.1)) (fun x => L.length - x.1) (0, [], none, 0) ⟨.go, Nat.le_refl _, Nat.zero_le _, rfl, hB5, Own.nil _ _ _ _, Nat.le_refl _, rfl⟩ ?_ ?_
  · repeat (first | exact trivial | refine stp ?_ | refine ldCg ?_ | refine ldNg ?_ | refine ldSg ?_ | refine ldSb ?_ | refine bnd ?_ | refine bnd1 ?_ | refine drawQ (by decide +kernel) mixed (by decide +kernel) ?_)
  · rintro ⟨i, us, a, c⟩ s6 w6 ⟨hE6, hz6, hi, hul, hB6, hO6, hR6, hd6⟩
    simp only at hi hul hB6 hO6 hR6 hd6
    repeat (first | exact trivial | refine stp ?_ | refine ldCg ?_ | refine ldNg ?_ | refine ldSg ?_ | refine ldSb ?_ | refine bnd ?_ | refine bnd1 ?_ | refine drawQ (by decide +kernel) mixed (by decide +kernel) ?_)
    refine ⟨fun hlt => ?_, fun hge => ?_⟩
    · obtain ⟨b, o, rfl, hR⟩ := hSt.1.row (f := SR.cells) (sz := 2) (fun _ _ => rfl) (by decide) (by omega)
      obtain ⟨t, ht⟩ : ∃ x, tt[i]? = some x := ⟨_, List.getElem?_eq_getElem (by omega)⟩
      have htm := hSt.2 t (List.mem_of_getElem? ht)
      have hLi : L[i]? = some t.dt := by rw [← htd, List.getElem?_map, ht]; rfl
      obtain ⟨hs1, hs2⟩ := hst i (by omega)
      have hkl2 : t.ks.length ≤ 16 := by
        rw [hs1] at hLi
        simp only [Option.some.injEq, SR.dt, Prod.mk.injEq] at hLi
        rw [← hLi.2, kidsI_len]
        exact cnt_le _
      obtain ⟨kv', bm, ks⟩ := t
      simp only [SR.dt] at htm hLi hkl2
      obtain ⟨ka', kc', rfl⟩ := slv_of htm.2.2
      have hdg := digP_lt (keyD n key) i
      repeat (first | exact trivial | refine stp ?_ | refine ldCg ?_ | refine ldNg ?_ | refine ldSg ?_ | refine ldSb ?_ | refine bnd ?_ | refine bnd1 ?_ | refine drawQ (by decide +kernel) mixed (by decide +kernel) ?_)
      refine ldStepS ht ?_
      repeat (first | exact trivial | refine stp ?_ | refine ldCg ?_ | refine ldNg ?_ | refine ldSg ?_ | refine ldSb ?_ | refine bnd ?_ | refine bnd1 ?_ | refine drawQ (by decide +kernel) mixed (by decide +kernel) ?_)
      first | refine newS ?_ | refine newZ ?_
      intro w7 hE7 hz7 hB7
      repeat (first | exact trivial | refine stp ?_ | refine ldCg ?_ | refine ldNg ?_ | refine ldSg ?_ | refine ldSb ?_ | refine bnd ?_ | refine bnd1 ?_ | refine drawQ (by decide +kernel) mixed (by decide +kernel) ?_)
      have hB67 := hB6.ext hE7
      have hB47 : Blk w7 w3.heap.size 28 (vbs (keyD n key)) := .go (h := hB4)
      refine drawH (fun W => Blk W w4.heap.size 26 [.slice a us.length c, .slice none 0 0] ∧ Blk W w6.heap.size 51 [.int .u16 bm, .slice ka' ks.length kc'] ∧ Blk W w3.heap.size 28 (vbs (keyD n key))) [0, 1, 2, 3, 4, 5, 6, 7, 8, 9, 10] mixed (by decide +kernel) (fun w8 hE8 hh => ⟨⟨hB67.ext hE8, hB7.ext hE8, hB47.ext hE8⟩, ?_⟩)
      have hz8 := hE8.size
      repeat (first | exact trivial | refine stp ?_ | refine ldCg ?_ | refine ldNg ?_ | refine ldSg ?_ | refine ldSb ?_ | refine bnd ?_ | refine bnd1 ?_ | refine drawQ (by decide +kernel) mixed (by decide +kernel) ?_)
      refine loadS_of (.slice a us.length c) (fun w' h => by refine stp ?_; exact ldCg rfl h.1) ?_
      repeat (first | exact trivial | refine stp ?_ | refine ldCg ?_ | refine ldNg ?_ | refine ldSg ?_ | refine ldSb ?_ | refine bnd ?_ | refine bnd1 ?_ | refine drawQ (by decide +kernel) mixed (by decide +kernel) ?_)
      refine loadS_of (.agg [.int .u16 bm, .slice ka' ks.length kc'].toArray) (fun w' h => by refine stp ?_; exact ldNg rfl h.2.1) ?_
      repeat (first | exact trivial | refine stp ?_ | refine ldCg ?_ | refine ldNg ?_ | refine ldSg ?_ | refine ldSb ?_ | refine bnd ?_ | refine bnd1 ?_ | refine drawQ (by decide +kernel) mixed (by decide +kernel) ?_)
      refine loadS_of (.agg (vbs (keyD n key)).toArray) (fun w' h => by refine stp ?_; exact ldNg rfl h.2.2) ?_
      repeat (first | exact trivial | refine stp ?_ | refine ldCg ?_ | refine ldNg ?_ | refine ldSg ?_ | refine ldSb ?_ | refine bnd ?_ | refine bnd1 ?_ | refine drawQ (by decide +kernel) mixed (by decide +kernel) ?_)
      refine (DigitR_ok (keyD n key) hKl i (by omega) w8).mono ?_
      rintro _ w9 ⟨rfl, hE9⟩
      have hz9 := hE9.size
      have hB69 := hB67.ext (hE8.trans' hE9)
      have hB79 := hB7.ext (hE8.trans' hE9)
      have hB49 := hB47.ext (hE8.trans' hE9)
      refine toldS ⟨hB69, hB79, hB49⟩ ?_
      repeat (first | exact trivial | refine stp ?_ | refine ldCg ?_ | refine ldNg ?_ | refine ldSg ?_ | refine ldSb ?_ | refine bnd ?_ | refine bnd1 ?_ | refine drawQ (by decide +kernel) mixed (by decide +kernel) ?_)
      refine (WithoutR_ok bm htm.1 (digP (keyD n key) i) hdg ks _ w9 (htm.2.2.ext .go) htm.2.1 (by omega)).mono ?_
      rintro _ w10 ⟨ov, rfl, hO10, hE10⟩
      have hz10 := hE10.size
      refine toldS ⟨hB69.ext hE10, hB79.ext hE10, hB49.ext hE10⟩ ?_
      obtain ⟨oa, oc, rfl⟩ := own_slice hO10
      generalize hkn : cutK bm (digP (keyD n key) i) ks = kn at *
      have hn32 : ∀ d ∈ kn, d.length = 32 := fun d hd => htm.2.1 d (by rw [← hkn] at hd; exact cutK_mem d hd)
      repeat (first | exact trivial | refine stp ?_ | refine ldCg ?_ | refine ldNg ?_ | refine ldSg ?_ | refine ldSb ?_ | refine bnd ?_ | refine bnd1 ?_ | refine drawQ (by decide +kernel) mixed (by decide +kernel) ?_)
      refine ⟨rfl, rfl, ?_⟩
      first | refine newS ?_ | refine newZ ?_
      intro w11 hE11 hz11 hB11
      refine toldS ⟨hB69.ext (hE10.trans' hE11), hB79.ext (hE10.trans' hE11), hB49.ext (hE10.trans' hE11)⟩ ?_
      repeat (first | exact trivial | refine stp ?_ | refine ldCg ?_ | refine ldNg ?_ | refine ldSg ?_ | refine ldSb ?_ | refine bnd ?_ | refine bnd1 ?_ | refine drawQ (by decide +kernel) mixed (by decide +kernel) ?_)
      have hO11 : Own w11 w5.heap.size 51 2 (.slice a us.length c) us.length (us.flatMap SR.cells) := hO6.ext .go
      have hB611 := hB69.ext (hE10.trans' hE11)
      refine apStep (us := us) (p := ⟨.slice oa kn.length oc, bm, kn⟩) hO11 (by omega) hB11 rfl (by omega) (fun a12 c12 w12 hO12 hg12 hE12 => ?_)
      have hz12 := hE12.size
      have hB12 : Blk w12 w4.heap.size 26 [.slice a us.length c, .slice none 0 0] := ⟨by rw [hg12.block _ hB611.lt (fun e => hO11.not_blk hB611 (by decide) e.symm)]; exact hB611.out⟩
      have hX : ∀ k T l, (Value.slice a us.length c).ownBlock ≠ some k → Blk w11 k T l → Blk w12 k T l := fun k T l hT hk => ⟨by rw [hg12.block _ hk.lt (fun e => hT e.symm)]; exact hk.out⟩
      have hB4x := hB49.ext (hE10.trans' hE11)
      have hR12 : RunK w12 w12.heap.size w5.heap.size (us ++ [⟨.slice oa kn.length oc, bm, kn⟩]) := by
        refine RunK.append (m := w9.heap.size) (RunK.grown hO11 (by decide) hg12 ((hR6.ext .go).top (by omega))) ⟨w12.heap.size, by omega, ⟨htm.1, hn32, (hO10.ext hE11).grown_ne hO11 (by decide) hg12, fun g hg => ?_⟩, Nat.le_refl _⟩
        have := (hO10.ext hE11).top g hg
        omega
      have hdt : (us ++ [(⟨.slice oa kn.length oc, bm, kn⟩ : SR)]).map SR.dt = cutS (keyD n key) 0 (L.take (i + 1)) := by
        obtain ⟨h1, h2⟩ := List.getElem?_eq_some_iff.1 hLi
        rw [List.map_append, hd6, List.take_succ_eq_append_getElem h1, h2, cutS_snoc, List.length_take, Nat.zero_add, Nat.min_eq_left (by omega), hkn]
        rfl
      have hul' : (us ++ [(⟨.slice oa kn.length oc, bm, kn⟩ : SR)]).length = i + 1 := by rw [List.length_append, hul]; rfl
      generalize us ++ [(⟨.slice oa kn.length oc, bm, kn⟩ : SR)] = us' at *
      refine toldS ⟨hB12, hX _ _ _ (fun e => by have := hO6.top _ e; omega) (hB79.ext (hE10.trans' hE11)), hX _ _ _ (hO11.not_blk hB4x (by decide)) hB4x⟩ ?_
      repeat (first | exact trivial | refine stp ?_ | refine ldCg ?_ | refine ldNg ?_ | refine ldSg ?_ | refine ldSb ?_ | refine bnd ?_ | refine bnd1 ?_ | refine drawQ (by decide +kernel) mixed (by decide +kernel) ?_)
      refine stC ?_
      intro w13 hP13 hz13 hB13
      refine toldZ ?_
      repeat (first | exact trivial | refine stp ?_ | refine ldCg ?_ | refine ldNg ?_ | refine ldSg ?_ | refine ldSb ?_ | refine bnd ?_ | refine bnd1 ?_ | refine drawQ (by decide +kernel) mixed (by decide +kernel) ?_)
      exact ⟨(i + 1, us', a12, c12), ⟨.go, by omega, by simp only; omega, hul', hB13, hO12.put hB12 (by decide) hP13, RunK.put hB12 (by decide) hP13 (hR12.top (by omega)), hdt⟩, by rw [w64 (by omega) (by omega)]; rfl, by simp only; omega⟩
    · have hl0 : i = L.length := by omega
      have hb1 : Blk w6 w.heap.size 26 _ := .go (h := hB1)
      repeat (first | exact trivial | refine stp ?_ | refine ldCg ?_ | refine ldNg ?_ | refine ldSg ?_ | refine ldSb ?_ | refine bnd ?_ | refine bnd1 ?_ | refine drawQ (by decide +kernel) mixed (by decide +kernel) ?_)
      refine stC ?_
      intro w7 hP7 hz7 hB7
      have hb7 := hP7.keep hb1 (by omega)
      repeat (first | exact trivial | refine stp ?_ | refine ldCg ?_ | refine ldNg ?_ | refine ldSg ?_ | refine ldSb ?_ | refine bnd ?_ | refine bnd1 ?_ | refine drawQ (by decide +kernel) mixed (by decide +kernel) ?_)
      refine stW (hb := hb7) ?_
      intro w8 hP8 hz8 hB8
      repeat (first | exact trivial | refine stp ?_ | refine ldCg ?_ | refine ldNg ?_ | refine ldSg ?_ | refine ldSb ?_ | refine bnd ?_ | refine bnd1 ?_ | refine drawQ (by decide +kernel) mixed (by decide +kernel) ?_)
      rw [hl0, List.take_length] at hd6
      have hO8 := (hO6.put hB6 (by decide) hP7).put hb7 (by decide) hP8
      have hR8 := RunK.put hb7 (by decide) hP8 (RunK.put hB6 (by decide) hP7 hR6)
      have hP6 := ((hPr.ext (w' := w6) .go).put hB6 (by decide) hP7).put hb7 (by decide) hP8
      exact ⟨.slice a us.length c, .slice pa qs.length pc, us, qs, rfl, hO8.base (by omega), RunK.append (l := []) (m := w5.heap.size) (by show w.heap.size ≤ _; omega) (hR8.top (by omega)), hP6.base (by omega), hjs, hd6, hqd, .go⟩
/-- A proof's parts. -/
structure PrfAt (w : World) (v : Value) (ss : List (Nat × List (List UInt8))) (ps : List (List UInt8 × List UInt8)) : Prop where
  out : ∃ sv pv tt qs, v = .agg [sv, pv].toArray ∧ StepsAt w sv tt ∧ PairsAt w pv qs ∧ tt.map SR.dt = ss ∧ qs.map PR.dat = ps
theorem StepsAt.ext' {w w' : World} {v : Value} {tt : List SR} (h : StepsAt w v tt) (e : Ext w w') : StepsAt w' v tt := h.ext e
theorem PairsAt.ext' {w w' : World} {v : Value} {qs : List PR} (h : PairsAt w v qs) (e : Ext w w') : PairsAt w' v qs := ⟨h.1.ext e, fun p hp => ⟨(h.2 p hp).1.ext e, (h.2 p hp).2.ext e⟩⟩
theorem PrfAt.ext {w w' : World} {v : Value} {ss : List (Nat × List (List UInt8))} {ps : List (List UInt8 × List UInt8)} (h : PrfAt w v ss ps) (e : Ext w w') : PrfAt w' v ss ps := by
  obtain ⟨sv, pv, tt, qs, h1, h2, h3, h4, h5⟩ := h.out
  exact ⟨sv, pv, tt, qs, h1, h2.ext' e, h3.ext' e, h4, h5⟩
theorem PairsAt.ofJs {w w0 : World} {lo : Nat} {pv : Value} {is js : List IR} {mv : Value} (hm : ItemsAt w0 mv is) (e : Ext w0 w) (h : Own w lo 47 2 pv js.length ((js.map IR.pr).flatMap PR.cells)) (hj : ∀ q ∈ js, q ∈ is) : PairsAt w pv (js.map IR.pr) := by
  refine ⟨by rw [List.length_map]; exact SlC.of_own h, fun p hp => ?_⟩
  obtain ⟨q, hq, rfl⟩ := List.mem_map.1 hp
  exact ⟨(hm.mem q (hj q hq)).key.ext e, (hm.mem q (hj q hq)).val.ext e⟩
theorem PairsAt.ofRun {w : World} {lo lo' hi : Nat} {pv : Value} {qs : List PR} (h : Own w lo 47 2 pv qs.length (qs.flatMap PR.cells)) (hr : RunB w hi lo' (qs.flatMap prB)) : PairsAt w pv qs :=
  ⟨SlC.of_own h, fun p hp => ⟨(hr.mem (p.kv, p.k) (List.mem_flatMap.2 ⟨p, hp, by simp [prB]⟩)).sl, (hr.mem (p.vv, p.v) (List.mem_flatMap.2 ⟨p, hp, by simp [prB]⟩)).sl⟩⟩
theorem Same15_ok (u v : Value) (ss ss' : List (Nat × List (List UInt8))) (ps ps' : List (List UInt8 × List UInt8)) (w : World) (hu : PrfAt w u ss ps) (hv : PrfAt w v ss' ps') :
    CallK Tryz.prog 30 [u, v].toArray w fun r w' => r = .bool (decide (ss = ss' ∧ ps = ps')) ∧ Ext w w' := by
  obtain ⟨sv, pv, tt, qs, rfl, h1, h2, rfl, rfl⟩ := hu.out
  obtain ⟨sv', pv', tt', qs', rfl, h1', h2', rfl, rfl⟩ := hv.out
  obtain ⟨a1, c1, rfl⟩ := slv_of h1.1
  obtain ⟨a2, c2, rfl⟩ := slv_of h2.1
  obtain ⟨a3, c3, rfl⟩ := slv_of h1'.1
  obtain ⟨a4, c4, rfl⟩ := slv_of h2'.1
  refine enterT Tryz.func30 rfl Tryz.ntmps30 Tryz.results30 rfl (by decide) ?_
  repeat (first | exact trivial | refine stp ?_ | refine ldCg ?_ | refine ldNg ?_ | refine ldSg ?_ | refine ldSb ?_ | refine bnd ?_ | refine bnd1 ?_ | refine drawQ (by decide +kernel) mixed (by decide +kernel) ?_)
  first | refine newS ?_ | refine newZ ?_
  intro w1 hE1 hz1 hB1
  first | refine newS ?_ | refine newZ ?_
  intro w2 hE2 hz2 hB2
  repeat (first | exact trivial | refine stp ?_ | refine ldCg ?_ | refine ldNg ?_ | refine ldSg ?_ | refine ldSb ?_ | refine bnd ?_ | refine bnd1 ?_ | refine drawQ (by decide +kernel) mixed (by decide +kernel) ?_)
  refine (SameSteps_ok tt tt' _ _ w2 (h1.ext .go) (h1'.ext .go)).mono ?_
  rintro _ w3 ⟨rfl, hE3⟩
  have hz3 := hE3.size
  by_cases hs : tt.map SR.dt = tt'.map SR.dt
  · rw [decide_eq_true hs]
    repeat (first | exact trivial | refine stp ?_ | refine ldCg ?_ | refine ldNg ?_ | refine ldSg ?_ | refine ldSb ?_ | refine bnd ?_ | refine bnd1 ?_ | refine drawQ (by decide +kernel) mixed (by decide +kernel) ?_)
    refine (SamePairs_ok qs qs' _ _ w3 (h2.ext' .go) (h2'.ext' .go)).mono ?_
    rintro _ w4 ⟨rfl, hE4⟩
    have hz4 := hE4.size
    repeat (first | exact trivial | refine stp ?_ | refine ldCg ?_ | refine ldNg ?_ | refine ldSg ?_ | refine ldSb ?_ | refine bnd ?_ | refine bnd1 ?_ | refine drawQ (by decide +kernel) mixed (by decide +kernel) ?_)
    refine ⟨?_, .go⟩
    simp only [hs, true_and]
  · rw [decide_eq_false hs]
    repeat (first | exact trivial | refine stp ?_ | refine ldCg ?_ | refine ldNg ?_ | refine ldSg ?_ | refine ldSb ?_ | refine bnd ?_ | refine bnd1 ?_ | refine drawQ (by decide +kernel) mixed (by decide +kernel) ?_)
    refine ⟨?_, .go⟩
    simp only [hs, false_and, decide_false]
/-- How many digests steps have, counted as the program counts. -/
def sizeW (ss : List SR) : Int := ss.foldl (fun n s => IntKind.i64.wrap (n + s.ks.length)) 0
theorem sizeW_snoc (ss : List SR) (s : SR) : sizeW (ss ++ [s]) = IntKind.i64.wrap (sizeW ss + s.ks.length) := by unfold sizeW; rw [List.foldl_append]; rfl
theorem Size_ok (ss : List SR) (qs : List PR) (sv pv : Value) (w : World) (h1 : StepsAt w sv ss) (h2 : PairsAt w pv qs) :
    CallK Tryz.prog 31 [.agg [sv, pv].toArray].toArray w fun r w' => r = .tuple [.int .i64 (sizeW ss), .int .i64 qs.length].toArray ∧ Ext w w' := by
  obtain ⟨a1, c1, rfl⟩ := slv_of h1.1
  obtain ⟨a2, c2, rfl⟩ := slv_of h2.1
  have hsn : ss.length ≤ 9223372036854775807 := by obtain ⟨_, _, _, h1, h2, _⟩ := h1.1; omega
  refine enterT Tryz.func31 rfl Tryz.ntmps31 Tryz.results31 rfl (by decide) ?_
  repeat (first | exact trivial | refine stp ?_ | refine ldCg ?_ | refine ldNg ?_ | refine ldSg ?_ | refine ldSb ?_ | refine bnd ?_ | refine bnd1 ?_ | refine drawQ (by decide +kernel) mixed (by decide +kernel) ?_)
  first | refine newS ?_ | refine newZ ?_
  intro w1 hE1 hz1 hB1
  repeat (first | exact trivial | refine stp ?_ | refine ldCg ?_ | refine ldNg ?_ | refine ldSg ?_ | refine ldSb ?_ | refine bnd ?_ | refine bnd1 ?_ | refine drawQ (by decide +kernel) mixed (by decide +kernel) ?_)
  refine loopX (ι := Nat) (fun i => [(1, .pointer (some ⟨w.heap.size, 0, none⟩)), (4, .int .i64 (sizeW (ss.take i))), (8, .slice a1 ss.length c1), (9, .int .i64 ss.length), (10, .int .i64 i)])
    (fun i W => Ext w1 W ∧ i ≤ ss.length) (fun i => ss.length - i) 0 ⟨.go, Nat.zero_le _⟩ ?_ ?_
  · repeat (first | exact trivial | refine stp ?_ | refine ldCg ?_ | refine ldNg ?_ | refine ldSg ?_ | refine ldSb ?_ | refine bnd ?_ | refine bnd1 ?_ | refine drawQ (by decide +kernel) mixed (by decide +kernel) ?_)
    rfl
  · rintro i s2 w2 ⟨hE2, hi⟩
    have hz2 := hE2.size
    repeat (first | exact trivial | refine stp ?_ | refine ldCg ?_ | refine ldNg ?_ | refine ldSg ?_ | refine ldSb ?_ | refine bnd ?_ | refine bnd1 ?_ | refine drawQ (by decide +kernel) mixed (by decide +kernel) ?_)
    refine ⟨fun hlt => ?_, fun hge => ?_⟩
    · obtain ⟨b, o, rfl, hR⟩ := h1.1.row (f := SR.cells) (sz := 2) (fun _ _ => rfl) (by decide) (by omega)
      obtain ⟨s, hs⟩ : ∃ x, ss[i]? = some x := ⟨_, List.getElem?_eq_getElem (by omega)⟩
      have hsm := h1.2 s (List.mem_of_getElem? hs)
      have htk : ss.take (i + 1) = ss.take i ++ [s] := by
        obtain ⟨hil, he⟩ := List.getElem?_eq_some_iff.1 hs
        rw [List.take_succ_eq_append_getElem hil, he]
      obtain ⟨kv, bm, ks⟩ := s
      obtain ⟨ka, kc, e⟩ := slv_of hsm.2.2
      simp only at e
      subst e
      repeat (first | exact trivial | refine stp ?_ | refine ldCg ?_ | refine ldNg ?_ | refine ldSg ?_ | refine ldSb ?_ | refine bnd ?_ | refine bnd1 ?_ | refine drawQ (by decide +kernel) mixed (by decide +kernel) ?_)
      refine ldStepS hs ?_
      repeat (first | exact trivial | refine stp ?_ | refine ldCg ?_ | refine ldNg ?_ | refine ldSg ?_ | refine ldSb ?_ | refine bnd ?_ | refine bnd1 ?_ | refine drawQ (by decide +kernel) mixed (by decide +kernel) ?_)
      first | refine newS ?_ | refine newZ ?_
      intro w3 hE3 hz3 hB3
      repeat (first | exact trivial | refine stp ?_ | refine ldCg ?_ | refine ldNg ?_ | refine ldSg ?_ | refine ldSb ?_ | refine bnd ?_ | refine bnd1 ?_ | refine drawQ (by decide +kernel) mixed (by decide +kernel) ?_)
      exact ⟨i + 1, ⟨.go, by omega⟩, ⟨by rw [htk, sizeW_snoc], by rw [w64 (by omega) (by omega)]; rfl⟩, by omega⟩
    · obtain rfl : i = ss.length := by omega
      rw [List.take_length]
      repeat (first | exact trivial | refine stp ?_ | refine ldCg ?_ | refine ldNg ?_ | refine ldSg ?_ | refine ldSb ?_ | refine bnd ?_ | refine bnd1 ?_ | refine drawQ (by decide +kernel) mixed (by decide +kernel) ?_)
      intro w3 hE3
      exact .go
end Go.Proofs.YtebbgninkbghlaaGreatDoor

/-! Rfe -/
namespace Go.Proofs.YtebbgninkbghlaaGreatDoor
set_option maxRecDepth 100000
open Go Go.RowKit
set_option linter.unusedVariables false
set_option linter.unusedSimpArgs false
set_option maxHeartbeats 1000000
attribute [local irreducible] vcT opsT qT vcOp Q1 vcPure vcLoad vcStore ldC ldN ldD grdT grdQ vc vcOps vcQ hT
attribute [local irreducible] sumR sumP shaP keyD bucketP branchP

/-- A list of items with all that it needs in blocks of S. -/
structure ItemsS (S : Nat → Prop) (w : World) (v : Value) (is : List IR) : Prop where
  row : SlS S w v is.length (is.flatMap IR.cells)
  mem : ∀ q ∈ is, q.y.D.length = 32 ∧ SlS S w q.kv q.y.k.length (vbs q.y.k) ∧ SlS S w q.vv q.y.v.length (vbs q.y.v)
theorem ItemsS.at {S : Nat → Prop} {w : World} {v : Value} {is : List IR} (h : ItemsS S w v is) : ItemsAt w v is := ⟨h.row.sl, fun q hq => ⟨(h.mem q hq).1, (h.mem q hq).2.1.sl, (h.mem q hq).2.2.sl⟩⟩
theorem ItemsS.keep {S : Nat → Prop} {w w' : World} {v : Value} {is : List IR} (h : ItemsS S w v is) (k : KeepS S w w') : ItemsS S w' v is := ⟨h.row.keep k, fun q hq => ⟨(h.mem q hq).1, (h.mem q hq).2.1.keep k, (h.mem q hq).2.2.keep k⟩⟩
theorem ItemsS.mono {S S' : Nat → Prop} {w : World} {v : Value} {is : List IR} (h : ItemsS S w v is) (hS : ∀ b, S b → S' b) : ItemsS S' w v is := ⟨h.row.mono hS, fun q hq => ⟨(h.mem q hq).1, (h.mem q hq).2.1.mono hS, (h.mem q hq).2.2.mono hS⟩⟩
theorem ItemsS.lt {S : Nat → Prop} {w : World} {v : Value} {is : List IR} (h : ItemsS S w v is) : ItemsS (SLt S w) w v is := ⟨h.row.lt, fun q hq => ⟨(h.mem q hq).1, (h.mem q hq).2.1.lt, (h.mem q hq).2.2.lt⟩⟩
theorem ItemsS.nil {S : Nat → Prop} {w : World} : ItemsS S w (.slice none 0 0) [] := ⟨⟨none, 0, rfl, Nat.le_refl _, by decide, Or.inl rfl⟩, by simp⟩
theorem ItemsS.ext {S : Nat → Prop} {w w' : World} {v : Value} {is : List IR} (h : ItemsS S w v is) (e : Ext w w') : ItemsS S w' v is := h.keep (KeepS.of_ext e)
theorem PutS_ok (n : Nat) (hn : 1 ≤ n) (hn2 : n ≤ 32) (S : Nat → Prop) (is : List IR) (m : List It) (key val : List UInt8) (mv kv vv : Value) (w : World) (hm : ItemsS S w mv is) (hy : is.map IR.y = m) (hs : SortedI m) (hk : SlB w kv key) (hv : SlB w vv val) (hkl : key.length ≤ 4000000000) (hvl : val.length ≤ 4000000000) (hml : is.length ≤ 100000000) :
    CallK Tryz.prog 86 [.int .i64 n, mv, kv, vv].toArray w fun v w' => (∃ js, ItemsS (fun b => S b ∨ w.heap.size ≤ b) w' v js ∧ js.map IR.y = putI m ⟨keyD n key, key, val⟩) ∧ Ext w w' := by
  refine (PutO_ok n hn hn2 is m key val mv kv vv w hm.at hy hs hk hv hkl hvl hml).mono ?_
  rintro v w' ⟨⟨js, p, hO, hj, hp, hpS, hjy⟩, hE⟩
  refine ⟨⟨js, ⟨SlS.of_own hO (fun b h => Or.inr h), fun r hr => ?_⟩, hjy⟩, hE⟩
  rcases hj r hr with rfl | h
  · exact ⟨hp.len, hpS.1.mono (fun b h => Or.inr h), hpS.2.mono (fun b h => Or.inr h)⟩
  · have h' := (hm.ext hE).mem r h
    exact ⟨h'.1, h'.2.1.mono (fun b h => Or.inl h), h'.2.2.mono (fun b h => Or.inl h)⟩
def noK (key : List UInt8) (q : IR) : Bool := decide (q.y.k ≠ key)
end Go.Proofs.YtebbgninkbghlaaGreatDoor

/-! Cnv -/
namespace Go.Proofs.YtebbgninkbghlaaGreatDoor
set_option maxRecDepth 100000
open Go Go.RowKit
set_option linter.unusedVariables false
set_option linter.unusedSimpArgs false

/-! ### Conversions -/
theorem convM {w : World} {b n c : Nat} {T : TypeId} {xs : List UInt8} {K : Value → World → Prop} (hB : Blk w b T (vbs xs)) (hn : n = xs.length) (hc : n ≤ c) (hm : c ≤ 9223372036854775807)
    (hK : ∀ w', SlB w' (.slice (some ⟨b, 0, none⟩) n c) xs → KeepB w w' b → K (.slice (some ⟨b, 0, none⟩) n c) w') : RawConv Tryz.prog 22 22 (.slice (some ⟨b, 0, none⟩) n c) w K := by
  subst hn
  have hsh : w.shape? b = some (T, xs.length) := by simp [World.shape?, hB.out, vbs_len]
  refine ⟨⟨.slice (some ⟨b, 0, none⟩) xs.length c, w.freeze ⟨b, xs.length, none⟩ 1, ?_, ?_⟩⟩
  · simp [convert, run_underlying Tryz.underlying22, run_underlying Tryz.underlying5, markStringish, shape, Sem.run, Result.andThen, hsh]
  · refine hK _ ⟨_, _, rfl, hc, hm, Or.inr ⟨b, 0, rfl, fun j u hj => ?_⟩⟩ ⟨rfl, rfl, rfl, by simp [World.freeze], fun k hk hkb => ?_⟩
    · rw [Nat.zero_add]
      have := hj
      simp [World.cell?, World.freeze, Array.getElem?_modify, hB.out]
      exact hj
    · simp [World.freeze, Array.getElem?_modify, Ne.symm hkb]
theorem convN {w : World} {xs : List UInt8} {n : Nat} {l : List Value} {K : Value → World → Prop} (hl : l = vbs xs) (hn : n = xs.length) (hm : n ≤ 9223372036854775807)
    (hK : ∀ w', Ext w w' → w.heap.size + 1 ≤ w'.heap.size → SlB w' (.slice (some ⟨w.heap.size, 0, none⟩) n n) xs → K (.slice (some ⟨w.heap.size, 0, none⟩) n n) w') :
    ∀ w', NewB w w' 5 l → RawConv Tryz.prog 22 22 (.slice (some ⟨w.heap.size, 0, none⟩) n n) w' K := fun w' hN => by
  subst hl
  exact convM hN.blk hn (Nat.le_refl _) hm fun w'' hS hk => hK w'' (hN.ext.trans (hk.below (Nat.le_refl _) (by have := hN.size; omega))) (by have := hk.size; have := hN.size; omega) hS
/-! ### The order of strings -/
end Go.Proofs.YtebbgninkbghlaaGreatDoor

/-! Lpa -/
namespace Go.Proofs.YtebbgninkbghlaaGreatDoor
set_option maxRecDepth 100000
open Go Go.RowKit
set_option linter.unusedVariables false
set_option linter.unusedSimpArgs false
set_option maxHeartbeats 1000000
attribute [local irreducible] vcT opsT qT vcOp Q1 vcPure vcLoad vcStore ldC ldN ldD grdT grdQ vc vcOps vcQ hT
attribute [local irreducible] sumR sumP shaP keyD bucketP branchP

/-- The items of the first eighty pairs. -/
def madeI (n : Int) (ps : List (List UInt8 × List UInt8)) : List It := grownI n (ps.take 80)
theorem madeI_ok (n : Int) (l : List (List UInt8 × List UInt8)) : OkI n (madeI n l) := grownI_ok _ _
theorem madeI_len (n : Int) (l : List (List UInt8 × List UInt8)) : (madeI n l).length ≤ 80 := by
  have := grownI_len n (l.take 80)
  rw [List.length_take] at this
  unfold madeI
  omega
theorem made_ok (n : Int) (ps : List PR) (pv : Value) (w : World) (hW : WordsAt w 1) (hp : PairsAt w pv ps) :
    CallK Tryz.prog 26 [.int .i64 n, pv].toArray w fun v w' => (widB n = false → v = .tuple [.pointer none, .slice none 0 0].toArray) ∧
      (widB n = true → ∃ b lv is, v = .tuple [.pointer (some ⟨b, 0, none⟩), lv].toArray ∧ MapAt n (fun k => w.heap.size ≤ k) w' (.pointer (some ⟨b, 0, none⟩)) (madeI n (ps.map PR.dat)) ∧ ItemsS (fun k => w.heap.size ≤ k) w' lv is ∧ is.map IR.y = madeI n (ps.map PR.dat)) ∧ Ext w w' := by
  obtain ⟨hp1, hp2⟩ := hp
  have hpl : ps.length ≤ 9223372036854775807 := by obtain ⟨_, _, _, h1, h2, _⟩ := hp1; omega
  obtain ⟨pa, cp, rfl⟩ := slv_of hp1
  refine enterT Tryz.func26 rfl Tryz.ntmps26 Tryz.results26 rfl (by decide) ?_
  repeat (first | exact trivial | refine stp ?_ | refine ldCg ?_ | refine ldNg ?_ | refine ldSg ?_ | refine ldSb ?_ | refine bnd ?_ | refine bnd1 ?_ | refine drawQ (by decide +kernel) mixed (by decide +kernel) ?_)
  refine (New_hamt_ok n w).mono ?_
  rintro _ w1 ⟨hN0, hN1, hE1⟩
  have hz1 := hE1.size
  cases hw : widB n
  · obtain rfl := hN0 hw
    repeat (first | exact trivial | refine stp ?_ | refine ldCg ?_ | refine ldNg ?_ | refine ldSg ?_ | refine ldSb ?_ | refine bnd ?_ | refine bnd1 ?_ | refine drawQ (by decide +kernel) mixed (by decide +kernel) ?_)
    exact hE1
  · obtain ⟨mv, rfl, hM1⟩ := hN1 hw
    have hwn := (widB_iff n).1 hw
    obtain ⟨nn, rfl⟩ : ∃ nn : Nat, n = nn := ⟨n.toNat, by omega⟩
    obtain ⟨b, rfl⟩ : ∃ b, mv = .pointer (some ⟨b, 0, none⟩) := by obtain ⟨b, _, rfl, _⟩ := hM1; exact ⟨b, rfl⟩
    clear hN0 hN1
    repeat (first | exact trivial | refine stp ?_ | refine ldCg ?_ | refine ldNg ?_ | refine ldSg ?_ | refine ldSb ?_ | refine bnd ?_ | refine bnd1 ?_ | refine drawQ (by decide +kernel) mixed (by decide +kernel) ?_)
    refine loopX (ι := Nat × Nat × Value × List IR) (fun x => [(0, .int .i64 nn), (6, .pointer (some ⟨x.2.1, 0, none⟩)), (8, x.2.2.1), (24, .slice pa ps.length cp), (25, .int .i64 ps.length), (26, .int .i64 x.1)])
      (fun x W => Ext w W ∧ x.1 ≤ ps.length ∧ MapAt nn (fun k => w.heap.size ≤ k) W (.pointer (some ⟨x.2.1, 0, none⟩)) (madeI nn ((ps.take x.1).map PR.dat)) ∧ ItemsS (fun k => w.heap.size ≤ k) W x.2.2.1 x.2.2.2 ∧ x.2.2.2.map IR.y = madeI nn ((ps.take x.1).map PR.dat)) (fun x => ps.length - x.1) (0, b, .slice none 0 0, []) ⟨.go, Nat.zero_le _, hM1, .nil, rfl⟩ ?_ ?_
    · repeat (first | exact trivial | refine stp ?_ | refine ldCg ?_ | refine ldNg ?_ | refine ldSg ?_ | refine ldSb ?_ | refine bnd ?_ | refine bnd1 ?_ | refine drawQ (by decide +kernel) mixed (by decide +kernel) ?_)
    · rintro ⟨i, mb, lv, is⟩ s2 w2 ⟨hE2, hi, hM2, hI2, hy2⟩
      simp only at hi hM2 hI2 hy2
      have hz2 := hE2.size
      have hO2 := madeI_ok nn ((ps.take i).map PR.dat)
      have hL2 := madeI_len nn ((ps.take i).map PR.dat)
      have hil2 : is.length ≤ 80 := by rw [← hy2, List.length_map] at hL2; exact hL2
      obtain ⟨la, lc, rfl⟩ := slv_of hI2.row.sl
      repeat (first | exact trivial | refine stp ?_ | refine ldCg ?_ | refine ldNg ?_ | refine ldSg ?_ | refine ldSb ?_ | refine bnd ?_ | refine bnd1 ?_ | refine drawQ (by decide +kernel) mixed (by decide +kernel) ?_)
      refine ⟨fun hlt => ?_, fun hge => ?_⟩
      · obtain ⟨pb, po, rfl, hR⟩ := pr_row hp1 (by omega)
        obtain ⟨p, hx⟩ : ∃ x, ps[i]? = some x := ⟨_, List.getElem?_eq_getElem (by omega)⟩
        obtain ⟨hpk, hpv⟩ := hp2 _ (List.mem_of_getElem? hx)
        have htk : madeI nn ((ps.take (i + 1)).map PR.dat) = if 80 ≤ i ∨ 64 < p.k.length ∨ 256 < p.v.length then madeI nn ((ps.take i).map PR.dat) else putI (madeI nn ((ps.take i).map PR.dat)) ⟨keyD nn p.k, p.k, p.v⟩ := by
          obtain ⟨hil, he⟩ := List.getElem?_eq_some_iff.1 hx
          rw [List.take_succ_eq_append_getElem hil, he, List.map_append]
          have hll : ((ps.take i).map PR.dat).length = i := by rw [List.length_map, List.length_take]; omega
          unfold madeI
          by_cases h80 : 80 ≤ i
          · rw [if_pos (Or.inl h80), List.take_append_of_le_length (by omega)]
          · rw [List.take_of_length_le (l := _ ++ _) (by rw [List.length_append, hll]; simp; omega), List.take_of_length_le (l := List.map _ _) (by omega)]
            have := grownI_snoc nn ((ps.take i).map PR.dat) p.dat
            rw [show (List.map PR.dat [p]) = [p.dat] from rfl, this]
            by_cases hc : 64 < p.k.length ∨ 256 < p.v.length
            · rw [if_pos (show 64 < p.dat.1.length ∨ 256 < p.dat.2.length from hc), if_pos (Or.inr hc)]
            · rw [if_neg (show ¬ (64 < p.dat.1.length ∨ 256 < p.dat.2.length) from hc), if_neg (fun h => h.elim (fun h => h80 h) hc)]
              rfl
        obtain ⟨kv, vv, k, v⟩ := p
        simp only at hpk hpv htk
        obtain ⟨ka, kc, rfl⟩ := slv_of hpk
        obtain ⟨va, vc', rfl⟩ := slv_of hpv
        repeat (first | exact trivial | refine stp ?_ | refine ldCg ?_ | refine ldNg ?_ | refine ldSg ?_ | refine ldSb ?_ | refine bnd ?_ | refine bnd1 ?_ | refine drawQ (by decide +kernel) mixed (by decide +kernel) ?_)
        refine ldPair hx ?_
        repeat (first | exact trivial | refine stp ?_ | refine ldCg ?_ | refine ldNg ?_ | refine ldSg ?_ | refine ldSb ?_ | refine bnd ?_ | refine bnd1 ?_ | refine drawQ (by decide +kernel) mixed (by decide +kernel) ?_)
        first | refine newS ?_ | refine newZ ?_
        intro w3 hE3 hz3 hB3
        repeat (first | exact trivial | refine stp ?_ | refine ldCg ?_ | refine ldNg ?_ | refine ldSg ?_ | refine ldSb ?_ | refine bnd ?_ | refine bnd1 ?_ | refine drawQ (by decide +kernel) mixed (by decide +kernel) ?_)
        refine ⟨fun h80' => ?_, fun h80' => ?_⟩
        · have h80 : 80 ≤ i := by omega
          exact ⟨(i + 1, mb, .slice la is.length lc, is), ⟨.go, by simp only; omega, by simp only; rw [htk, if_pos (Or.inl h80)]; exact hM2.ext .go, hI2.ext .go, by simp only; rw [htk, if_pos (Or.inl h80)]; exact hy2⟩, ⟨rfl, rfl, by rw [w64 (by omega) (by omega)]; rfl⟩, by simp only; omega⟩
        have h80 : ¬ 80 ≤ i := by omega
        repeat (first | exact trivial | refine stp ?_ | refine ldCg ?_ | refine ldNg ?_ | refine ldSg ?_ | refine ldSb ?_ | refine bnd ?_ | refine bnd1 ?_ | refine drawQ (by decide +kernel) mixed (by decide +kernel) ?_)
        refine (CheckPairR_ok k v _ _ w3 (hpk.ext .go) (hpv.ext .go)).mono ?_
        rintro _ w4 ⟨rfl, hE4⟩
        have hz4 := hE4.size
        by_cases hc : 64 < k.length ∨ 256 < v.length
        · rw [if_pos hc]
          repeat (first | exact trivial | refine stp ?_ | refine ldCg ?_ | refine ldNg ?_ | refine ldSg ?_ | refine ldSb ?_ | refine bnd ?_ | refine bnd1 ?_ | refine drawQ (by decide +kernel) mixed (by decide +kernel) ?_)
          exact ⟨(i + 1, mb, .slice la is.length lc, is), ⟨.go, by simp only; omega, by simp only; rw [htk, if_pos (Or.inr hc)]; exact hM2.ext .go, hI2.ext .go, by simp only; rw [htk, if_pos (Or.inr hc)]; exact hy2⟩, ⟨rfl, rfl, by rw [w64 (by omega) (by omega)]; rfl⟩, by simp only; omega⟩
        · rw [if_neg hc]
          repeat (first | exact trivial | refine stp ?_ | refine ldCg ?_ | refine ldNg ?_ | refine ldSg ?_ | refine ldSb ?_ | refine bnd ?_ | refine bnd1 ?_ | refine drawQ (by decide +kernel) mixed (by decide +kernel) ?_)
          refine (Put_hamt_ok nn hw _ _ _ _ _ k v w4 (hW.ext .go) (hM2.ext .go) hO2 (hpk.ext .go) (hpv.ext .go) (by omega)).mono ?_
          rintro _ w5 ⟨⟨rv, rfl, _, hM5⟩, hE5⟩
          have hz5 := hE5.size
          rw [if_neg hc]
          replace hM5 := (hM5 hc).mono (S' := fun k => w.heap.size ≤ k) (fun k h => h.elim id (fun h => by omega))
          obtain ⟨b5, rfl⟩ : ∃ b, rv = .pointer (some ⟨b, 0, none⟩) := by obtain ⟨b, _, rfl, _⟩ := hM5; exact ⟨b, rfl⟩
          repeat (first | exact trivial | refine stp ?_ | refine ldCg ?_ | refine ldNg ?_ | refine ldSg ?_ | refine ldSb ?_ | refine bnd ?_ | refine bnd1 ?_ | refine drawQ (by decide +kernel) mixed (by decide +kernel) ?_)
          refine (PutS_ok nn (by omega) (by omega) _ is _ k v _ _ _ w5 (hI2.ext .go) hy2 hO2.sorted (hpk.ext .go) (hpv.ext .go) (by omega) (by omega) (by omega)).mono ?_
          rintro v6 w6 ⟨⟨js, hJ, hjy⟩, hE6⟩
          have hz6 := hE6.size
          repeat (first | exact trivial | refine stp ?_ | refine ldCg ?_ | refine ldNg ?_ | refine ldSg ?_ | refine ldSb ?_ | refine bnd ?_ | refine bnd1 ?_ | refine drawQ (by decide +kernel) mixed (by decide +kernel) ?_)
          refine ⟨(i + 1, b5, v6, js), ⟨.go, by simp only; omega, ?_, hJ.mono (fun b h => h.elim id (fun h => by omega)), ?_⟩, ⟨rfl, rfl, by rw [w64 (by omega) (by omega)]; rfl⟩, by simp only; omega⟩
          · simp only
            rw [htk, if_neg (fun h => h.elim (fun h => h80 h) hc)]
            exact hM5.ext .go
          · simp only
            rw [htk, if_neg (fun h => h.elim (fun h => h80 h) hc)]
            exact hjy
      · obtain rfl : i = ps.length := by omega
        rw [List.take_length] at hM2 hy2
        repeat (first | exact trivial | refine stp ?_ | refine ldCg ?_ | refine ldNg ?_ | refine ldSg ?_ | refine ldSb ?_ | refine bnd ?_ | refine bnd1 ?_ | refine drawQ (by decide +kernel) mixed (by decide +kernel) ?_)
        exact ⟨⟨mb, _, is, rfl, hM2, hI2, hy2⟩, hE2⟩
theorem wide15_ok (n : Int) (w : World) : CallK Tryz.prog 27 [.int .i64 n].toArray w fun v w' => v = .bool (widB n) ∧ Ext w w' := by
  have hi := widB_iff n
  refine enterT Tryz.func27 rfl Tryz.ntmps27 Tryz.results27 rfl (by decide) ?_
  repeat (first | exact trivial | refine stp ?_ | refine ldCg ?_ | refine ldNg ?_ | refine ldSg ?_ | refine ldSb ?_ | refine bnd ?_ | refine bnd1 ?_ | refine drawQ (by decide +kernel) mixed (by decide +kernel) ?_)
  refine ⟨fun h => ⟨?_, Ext.rfl' _⟩, fun h => ⟨?_, Ext.rfl' _⟩⟩
  · by_cases h2 : n ≤ 32
    · rw [decide_eq_true h2, hi.2 ⟨h, h2⟩]
    · rw [decide_eq_false h2]
      cases e : widB n
      · rfl
      · exact absurd (hi.1 e).2 h2
  · cases e : widB n
    · rfl
    · exact absurd (hi.1 e).1 h
/-- The three pairs of awake. -/
def awL : List (List UInt8 × List UInt8) := [([97], [49]), ([98], []), ([99], [])]
theorem awP : ((cutS (keyD 4 [97]) 0 (walkI 4 (keyD 4 [97]) 64 0 (madeI 4 awL)).1).map fun s => s.2.length) = [2] ∧ (walkI 4 (keyD 4 [97]) 64 0 (madeI 4 awL)).2.length = 1 := by decide +kernel
theorem sizeW_of {ss : List SR} {L : List (Nat × List (List UInt8))} (h : ss.map SR.dt = L) (h2 : (L.map fun s => s.2.length) = [2]) : sizeW ss = 2 := by
  have h3 : (ss.map fun s => s.ks.length) = [2] := by
    rw [← h2, ← h, List.map_map]
    rfl
  obtain ⟨s, rfl⟩ : ∃ s, ss = [s] := List.length_eq_one_iff.1 (by have := congrArg List.length h3; simpa using this)
  have : s.ks.length = 2 := by simpa using h3
  unfold sizeW
  rw [List.foldl_cons, List.foldl_nil, this]
  decide
theorem awake15_ok (w : World) (hW : WordsAt w 1) :
    CallK Tryz.prog 25 [].toArray w fun v w' => v = .bool true ∧ Ext w w' := by
  have hw4 : widB 4 = true := by decide
  refine enterT Tryz.func25 rfl Tryz.ntmps25 Tryz.results25 rfl (by decide) ?_
  repeat (first | exact trivial | refine stp ?_ | refine ldCg ?_ | refine ldNg ?_ | refine ldSg ?_ | refine ldSb ?_ | refine bnd ?_ | refine bnd1 ?_ | refine drawQ (by decide +kernel) mixed (by decide +kernel) ?_)
  refine ⟨rfl, rfl, convN (xs := [97]) rfl rfl (by decide) (fun w1 hE1 hz1 hS1 => ?_)⟩
  repeat (first | exact trivial | refine stp ?_ | refine ldCg ?_ | refine ldNg ?_ | refine ldSg ?_ | refine ldSb ?_ | refine bnd ?_ | refine bnd1 ?_ | refine drawQ (by decide +kernel) mixed (by decide +kernel) ?_)
  refine ⟨rfl, rfl, convN (xs := [49]) rfl rfl (by decide) (fun w2 hE2 hz2 hS2 => ?_)⟩
  repeat (first | exact trivial | refine stp ?_ | refine ldCg ?_ | refine ldNg ?_ | refine ldSg ?_ | refine ldSb ?_ | refine bnd ?_ | refine bnd1 ?_ | refine drawQ (by decide +kernel) mixed (by decide +kernel) ?_)
  refine bldC [.slice (some ⟨w.heap.size, 0, none⟩) 1 1, .slice (some ⟨w1.heap.size, 0, none⟩) 1 1] (by kernel_rfl) ?_
  repeat (first | exact trivial | refine stp ?_ | refine ldCg ?_ | refine ldNg ?_ | refine ldSg ?_ | refine ldSb ?_ | refine bnd ?_ | refine bnd1 ?_ | refine drawQ (by decide +kernel) mixed (by decide +kernel) ?_)
  refine ⟨rfl, rfl, convN (xs := [98]) rfl rfl (by decide) (fun w3 hE3 hz3 hS3 => ?_)⟩
  repeat (first | exact trivial | refine stp ?_ | refine ldCg ?_ | refine ldNg ?_ | refine ldSg ?_ | refine ldSb ?_ | refine bnd ?_ | refine bnd1 ?_ | refine drawQ (by decide +kernel) mixed (by decide +kernel) ?_)
  refine bldC [.slice (some ⟨w2.heap.size, 0, none⟩) 1 1, .slice none 0 0] (by kernel_rfl) ?_
  repeat (first | exact trivial | refine stp ?_ | refine ldCg ?_ | refine ldNg ?_ | refine ldSg ?_ | refine ldSb ?_ | refine bnd ?_ | refine bnd1 ?_ | refine drawQ (by decide +kernel) mixed (by decide +kernel) ?_)
  refine ⟨rfl, rfl, convN (xs := [99]) rfl rfl (by decide) (fun w4 hE4 hz4 hS4 => ?_)⟩
  repeat (first | exact trivial | refine stp ?_ | refine ldCg ?_ | refine ldNg ?_ | refine ldSg ?_ | refine ldSb ?_ | refine bnd ?_ | refine bnd1 ?_ | refine drawQ (by decide +kernel) mixed (by decide +kernel) ?_)
  refine bldC [.slice (some ⟨w3.heap.size, 0, none⟩) 1 1, .slice none 0 0] (by kernel_rfl) ?_
  repeat (first | exact trivial | refine stp ?_ | refine ldCg ?_ | refine ldNg ?_ | refine ldSg ?_ | refine ldSb ?_ | refine bnd ?_ | refine bnd1 ?_ | refine drawQ (by decide +kernel) mixed (by decide +kernel) ?_)
  refine ⟨rfl, ⟨rfl, ⟨rfl, rfl⟩⟩, ?_⟩
  first | refine newS ?_ | refine newZ ?_
  intro w5 hE5 hz5 hB5
  have hnil : ∀ W : World, SlB W (.slice none 0 0) [] := fun W => ⟨none, 0, rfl, Nat.le_refl _, by decide, Or.inl rfl⟩
  have hp5 : PairsAt w5 (.slice (some ⟨w4.heap.size, 0, none⟩) 3 3) [⟨.slice (some ⟨w.heap.size, 0, none⟩) 1 1, .slice (some ⟨w1.heap.size, 0, none⟩) 1 1, [97], [49]⟩, ⟨.slice (some ⟨w2.heap.size, 0, none⟩) 1 1, .slice none 0 0, [98], []⟩, ⟨.slice (some ⟨w3.heap.size, 0, none⟩) 1 1, .slice none 0 0, [99], []⟩] := by
    refine ⟨SlC.of_blk hB5 (by decide), fun p hp => ?_⟩
    rcases List.mem_cons.1 hp with rfl | hp
    · exact ⟨hS1.ext .go, hS2.ext .go⟩
    rcases List.mem_cons.1 hp with rfl | hp
    · exact ⟨hS3.ext .go, hnil _⟩
    · obtain rfl := List.mem_singleton.1 hp
      exact ⟨hS4.ext .go, hnil _⟩
  repeat (first | exact trivial | refine stp ?_ | refine ldCg ?_ | refine ldNg ?_ | refine ldSg ?_ | refine ldSb ?_ | refine bnd ?_ | refine bnd1 ?_ | refine drawQ (by decide +kernel) mixed (by decide +kernel) ?_)
  refine (made_ok 4 _ _ w5 (hW.ext .go) hp5).mono ?_
  rintro _ w6 ⟨_, hm6, hE6⟩
  have hz6 := hE6.size
  obtain ⟨b6, lv, is, rfl, hM6, hI6, hy6⟩ := hm6 hw4
  have hO6 := madeI_ok 4 awL
  have hL6 := madeI_len 4 awL
  obtain ⟨hP1, hP2⟩ := awP
  change MapAt 4 _ w6 _ (madeI 4 awL) at hM6
  change is.map IR.y = madeI 4 awL at hy6
  generalize madeI 4 awL = m6 at *
  have hil6 : is.length ≤ 80 := by rw [← hy6, List.length_map] at hL6; exact hL6
  obtain ⟨la, lc, rfl⟩ := slv_of hI6.row.sl
  repeat (first | exact trivial | refine stp ?_ | refine ldCg ?_ | refine ldNg ?_ | refine ldSg ?_ | refine ldSb ?_ | refine bnd ?_ | refine bnd1 ?_ | refine drawQ (by decide +kernel) mixed (by decide +kernel) ?_)
  refine ⟨rfl, rfl, convN (xs := [97]) rfl rfl (by decide) (fun w7 hE7 hz7 hS7 => ?_)⟩
  repeat (first | exact trivial | refine stp ?_ | refine ldCg ?_ | refine ldNg ?_ | refine ldSg ?_ | refine ldSb ?_ | refine bnd ?_ | refine bnd1 ?_ | refine drawQ (by decide +kernel) mixed (by decide +kernel) ?_)
  refine (Prove_hproof_ok 4 hw4 _ _ _ m6 [97] w7 (hW.ext .go) (hM6.ext .go) hO6 hS7 (by omega)).mono ?_
  rintro _ w8 ⟨sv, pv, tt, qs, rfl, hOs, hRk, hOp, hRb, htd, hqd, hE8⟩
  have hz8 := hE8.size
  rw [if_neg (by decide)] at htd hqd
  rw [if_neg (by decide)]
  have hsz := sizeW_of htd hP1
  have hql : qs.length = 1 := by have := congrArg List.length hqd; simpa [hP2] using this
  obtain ⟨sa, sc, rfl⟩ := own_slice hOs
  obtain ⟨pa, pc, rfl⟩ := own_slice hOp
  have hSt := hRk.stepsAt hOs
  have hPr := PairsAt.ofRun hOp hRb
  repeat (first | exact trivial | refine stp ?_ | refine ldCg ?_ | refine ldNg ?_ | refine ldSg ?_ | refine ldSb ?_ | refine bnd ?_ | refine bnd1 ?_ | refine drawQ (by decide +kernel) mixed (by decide +kernel) ?_)
  first | refine newS ?_ | refine newZ ?_
  intro w9 hE9 hz9 hB9
  repeat (first | exact trivial | refine stp ?_ | refine ldCg ?_ | refine ldNg ?_ | refine ldSg ?_ | refine ldSb ?_ | refine bnd ?_ | refine bnd1 ?_ | refine drawQ (by decide +kernel) mixed (by decide +kernel) ?_)
  refine (Size_ok tt qs _ _ w9 (hSt.ext' .go) (hPr.ext' .go)).mono ?_
  rintro _ w10 ⟨rfl, hE10⟩
  have hz10 := hE10.size
  rw [hsz]
  repeat (first | exact trivial | refine stp ?_ | refine ldCg ?_ | refine ldNg ?_ | refine ldSg ?_ | refine ldSb ?_ | refine bnd ?_ | refine bnd1 ?_)
  refine drawX (.of [0, 1, 2, 3, 4, 5, 6, 7, 8, 9, 10, 11, 12, 13, 14, 15, 16, 17, 18]) mixed (by decide +kernel) (fun w11 hE11 hz11 => ?_)
  repeat (first | exact trivial | refine stp ?_ | refine ldCg ?_ | refine ldNg ?_ | refine ldSg ?_ | refine ldSb ?_ | refine bnd ?_ | refine bnd1 ?_ | refine drawQ (by decide +kernel) mixed (by decide +kernel) ?_)
  refine ⟨rfl, rfl, ?_⟩
  first | refine newS ?_ | refine newZ ?_
  intro w12 hE12 hz12 hB12
  refine toldK ?_
  repeat (first | exact trivial | refine stp ?_ | refine ldCg ?_ | refine ldNg ?_ | refine ldSg ?_ | refine ldSb ?_ | refine bnd ?_ | refine bnd1 ?_ | refine drawQ (by decide +kernel) mixed (by decide +kernel) ?_)
  refine convM (xs := [97]) hB12 rfl (by decide) (by decide) (fun w13 hS13 hK13 => ?_)
  have hE13 : Ext w11 w13 := hE12.trans (hK13.below (Nat.le_refl _) (by omega))
  have hz13 := hE13.size
  clear hE12
  refine toldK ?_
  repeat (first | exact trivial | refine stp ?_ | refine ldCg ?_ | refine ldNg ?_ | refine ldSg ?_ | refine ldSb ?_ | refine bnd ?_ | refine bnd1 ?_ | refine drawQ (by decide +kernel) mixed (by decide +kernel) ?_)
  refine (ProveO_ok 4 (by decide) (by decide) is m6 [97] _ _ w13 (hI6.at.ext .go) hy6 hO6 hS13 (by decide) (by omega)).mono ?_
  rintro _ w14 ⟨sv', pv', tt', js, rfl, hOs', hRk', hOp', hjs, htd', hqd', hE14⟩
  have hz14 := hE14.size
  refine toldK ?_
  repeat (first | exact trivial | refine stp ?_ | refine ldCg ?_ | refine ldNg ?_ | refine ldSg ?_ | refine ldSb ?_ | refine bnd ?_ | refine bnd1 ?_ | refine drawQ (by decide +kernel) mixed (by decide +kernel) ?_)
  refine (Same15_ok _ _ (tt.map SR.dt) (tt.map SR.dt) (qs.map PR.dat) (qs.map PR.dat) w14 ⟨_, _, tt, qs, rfl, hSt.ext' .go, hPr.ext' .go, rfl, rfl⟩ ⟨_, _, tt', js.map IR.pr, rfl, hRk'.stepsAt hOs', PairsAt.ofJs hI6.at .go hOp' hjs, by rw [htd]; exact htd', by rw [hqd]; exact hqd'⟩).mono ?_
  rintro _ w15 ⟨rfl, hE15⟩
  have hz15 := hE15.size
  refine toldK ?_
  rw [show decide (tt.map SR.dt = tt.map SR.dt ∧ qs.map PR.dat = qs.map PR.dat) = true from decide_eq_true ⟨rfl, rfl⟩]
  repeat (first | exact trivial | refine stp ?_ | refine ldCg ?_ | refine ldNg ?_ | refine ldSg ?_ | refine ldSb ?_ | refine bnd ?_ | refine bnd1 ?_ | refine drawQ (by decide +kernel) mixed (by decide +kernel) ?_)
  exact .go
end Go.Proofs.YtebbgninkbghlaaGreatDoor

/-! Bok -/
namespace Go.Proofs.YtebbgninkbghlaaGreatDoor
set_option maxRecDepth 100000
open Go Go.RowKit
set_option linter.unusedVariables false
set_option linter.unusedSimpArgs false

theorem key_of {n : Int} {m : List It} (hS : SortedI m) (hD : ∀ y ∈ m, y.D = keyD n y.k) {y z : It} (hy : y ∈ m) (hz : z ∈ m) (h : y.k = z.k) : y = z := by
  have h0 : cmpIt y z = 0 := (cmpIt_eq y z).2 ⟨by rw [hD y hy, hD z hz, h], h⟩
  obtain ⟨i, hi⟩ := List.getElem?_of_mem hy
  obtain ⟨j, hj⟩ := List.getElem?_of_mem hz
  obtain ⟨hil, hi'⟩ := List.getElem?_eq_some_iff.1 hi
  obtain ⟨hjl, hj'⟩ := List.getElem?_eq_some_iff.1 hj
  have hp := List.pairwise_iff_getElem.1 hS
  rcases Nat.lt_trichotomy i j with h | h | h
  · have := hp i j hil hjl h; rw [hi', hj'] at this; omega
  · subst h; rw [← hi', hj']
  · have := hp j i hjl hil h; rw [hi', hj'] at this; have := cmpIt_neg z y; omega
theorem getI_some_mem {m : List It} {k v : List UInt8} (h : getI m k = some v) : ∃ y ∈ m, y.k = k ∧ y.v = v := by
  unfold getI at h
  cases hf : m.find? (fun z => decide (z.k = k)) with
  | none => rw [hf] at h; cases h
  | some z =>
    rw [hf] at h
    exact ⟨z, List.mem_of_find?_eq_some hf, by simpa using List.find?_some hf, Option.some.inj h⟩
theorem mem_put {n : Int} {m : List It} {x : It} (hO : OkI n m) (hx : x.D = keyD n x.k) {y : It} : y ∈ putI m x ↔ y = x ∨ (y ∈ m ∧ y.k ≠ x.k) := by
  constructor
  · intro h
    rcases mem_putI h with rfl | hm
    · exact Or.inl rfl
    · by_cases hk : y.k = x.k
      · exact Or.inl (key_of (n := n) (putI_sorted hO.sorted) (fun z hz => by rcases mem_putI hz with rfl | hz; exact hx; exact hO.dig z hz) h (putI_mem_self m x) hk)
      · exact Or.inr ⟨hm, hk⟩
  · rintro (rfl | ⟨h1, h2⟩)
    · exact putI_mem_self m y
    · exact putI_mem_old h1 fun h0 => h2 ((cmpIt_eq y x).1 h0).2
theorem del_put {n : Int} {m : List It} {x : It} (hO : OkI n m) (hx : x.D = keyD n x.k) : delI (putI m x) x.k = delI m x.k := by
  refine sorted_ext (delI_sorted (putI_sorted hO.sorted)) (delI_sorted hO.sorted) fun y => ?_
  rw [mem_del, mem_del, mem_put hO hx]
  constructor
  · rintro ⟨rfl | h, hk⟩
    · exact absurd rfl hk
    · exact ⟨h.1, hk⟩
  · rintro ⟨h, hk⟩
    exact ⟨Or.inr ⟨h, hk⟩, hk⟩
theorem put_del {n : Int} {m : List It} {k v : List UInt8} (hO : OkI n m) (h : getI m k = some v) : putI (delI m k) ⟨keyD n k, k, v⟩ = m := by
  obtain ⟨z, hz, hzk, hzv⟩ := getI_some_mem h
  have e : z = ⟨keyD n k, k, v⟩ := by
    cases z with
    | mk D k' v' =>
      have := hO.dig _ hz
      simp only at hzk hzv this
      rw [this, hzk, hzv]
  refine sorted_ext (putI_sorted (delI_sorted hO.sorted)) hO.sorted fun y => ?_
  rw [mem_put (hO.del k) rfl, mem_del]
  constructor
  · rintro (rfl | ⟨⟨h1, _⟩, _⟩)
    · rw [← e]; exact hz
    · exact h1
  · intro hy
    by_cases hk : y.k = k
    · left
      rw [← e]
      exact key_of (n := n) hO.sorted hO.dig hy hz (by rw [hk, hzk])
    · exact Or.inr ⟨⟨hy, hk⟩, hk⟩
theorem len_del_some {n : Int} {m : List It} {k v : List UInt8} (hO : OkI n m) (h : getI m k = some v) : m.length = (delI m k).length + 1 := by
  have h1 := congrArg List.length (put_del hO h)
  rw [putI_new (n := n) (hO.del k) rfl (fun y hy => (mem_del.1 hy).2)] at h1
  exact h1.symm
theorem put_put {n : Int} {m : List It} {x : It} (hO : OkI n m) (hx : x.D = keyD n x.k) : getI (putI m x) x.k = some x.v := by rw [getI_put hO hx, if_pos rfl]
theorem items_ext {n : Int} {a b : List It} (ha : OkI n a) (hb : OkI n b) (h : ∀ k, getI a k = getI b k) : a = b := by
  have key : ∀ {c : List It}, OkI n c → ∀ y, y ∈ c ↔ getI c y.k = some y.v ∧ y.D = keyD n y.k := by
    intro c hc y
    constructor
    · intro hy
      refine ⟨?_, hc.dig y hy⟩
      cases hg : getI c y.k with
      | none => exact absurd rfl (getI_none.1 hg y hy)
      | some v =>
        obtain ⟨z, hz, hzk, hzv⟩ := getI_some_mem hg
        rw [← key_of (n := n) hc.sorted hc.dig hz hy hzk, hzv]
    · rintro ⟨h1, h2⟩
      obtain ⟨z, hz, hzk, hzv⟩ := getI_some_mem h1
      have : z = y := by
        cases z with
        | mk D k v =>
          cases y with
          | mk D' k' v' =>
            have h3 := hc.dig _ hz
            simp only at hzk hzv h2 h3
            rw [h2, h3, hzk, hzv]
      exact this ▸ hz
  refine sorted_ext ha.sorted hb.sorted fun y => ?_
  rw [key ha, key hb, h]
theorem getI_del (m : List It) (k k' : List UInt8) : getI (delI m k) k' = if k = k' then none else getI m k' := by
  by_cases h : k = k'
  · rw [if_pos h, getI_none]
    intro y hy
    rw [← h]
    exact (mem_del.1 hy).2
  · rw [if_neg h]
    unfold getI delI
    rw [find_filter]
    intro y _ hk
    have hk' : y.k = k' := by simpa using hk
    simp only [decide_eq_true_eq]
    rw [hk']
    exact fun e => h e.symm

/-! ### Books -/
def bget (B : List PR) (k : List UInt8) : Option (List UInt8) := (B.find? fun p => decide (p.k = k)).map (·.v)
def OnceP (B : List PR) : Prop := B.Pairwise fun a b => a.k ≠ b.k
theorem bget_none {B : List PR} {k : List UInt8} : bget B k = none ↔ ∀ p ∈ B, p.k ≠ k := by
  unfold bget
  rw [Option.map_eq_none_iff, List.find?_eq_none]
  exact ⟨fun h p hp => by simpa using h p hp, fun h p hp => by simpa using h p hp⟩
theorem bget_at {B : List PR} (hB : OnceP B) {i : Nat} {p : PR} (h : B[i]? = some p) : bget B p.k = some p.v := by
  unfold bget
  obtain ⟨hl, he⟩ := List.getElem?_eq_some_iff.1 h
  have e : B = B.take i ++ p :: B.drop (i + 1) := by rw [← he, List.getElem_cons_drop, List.take_append_drop]
  have hp := hB
  unfold OnceP at hp
  rw [e] at hp
  obtain ⟨_, _, h3⟩ := List.pairwise_append.1 hp
  rw [e, List.find?_append, List.find?_eq_none.2, List.find?_cons_of_pos (by simp)]
  · rfl
  · intro q hq
    simpa using h3 q hq p (by simp)
theorem bget_mem {B : List PR} {k v : List UInt8} (h : bget B k = some v) : ∃ p ∈ B, p.k = k ∧ p.v = v := by
  unfold bget at h
  cases hf : B.find? (fun z => decide (z.k = k)) with
  | none => rw [hf] at h; cases h
  | some z =>
    rw [hf] at h
    exact ⟨z, List.mem_of_find?_eq_some hf, by simpa using List.find?_some hf, Option.some.inj h⟩
theorem bget_iff {B : List PR} (hB : OnceP B) {k v : List UInt8} : bget B k = some v ↔ ∃ p ∈ B, p.k = k ∧ p.v = v := by
  refine ⟨bget_mem, ?_⟩
  rintro ⟨p, hp, rfl, rfl⟩
  obtain ⟨i, hi⟩ := List.getElem?_of_mem hp
  exact bget_at hB hi
theorem bget_ext {B B' : List PR} (hB : OnceP B) (hB' : OnceP B') {k : List UInt8} (h : ∀ v, (∃ p ∈ B, p.k = k ∧ p.v = v) ↔ ∃ p ∈ B', p.k = k ∧ p.v = v) : bget B k = bget B' k := by
  have key : ∀ v, bget B k = some v ↔ bget B' k = some v := fun v => by rw [bget_iff hB, bget_iff hB']; exact h v
  cases h1 : bget B k with
  | some v => exact ((key v).1 h1).symm
  | none =>
    cases h2 : bget B' k with
    | none => rfl
    | some v => rw [(key v).2 h2] at h1; cases h1
theorem once_set {B : List PR} (hB : OnceP B) {i : Nat} {p q : PR} (h : B[i]? = some p) (hk : q.k = p.k) : OnceP (B.set i q) := by
  unfold OnceP
  rw [List.pairwise_iff_getElem]
  intro a b ha hb hab
  have hp := List.pairwise_iff_getElem.1 hB
  have e : ∀ (c : Nat) (hc : c < (B.set i q).length), ((B.set i q)[c]).k = (B[c]'(by simpa using hc)).k := by
    intro c hc
    rw [List.getElem_set]
    split
    · rename_i hci
      subst hci
      rw [hk]
      rw [(List.getElem?_eq_some_iff.1 h).2]
    · rfl
  rw [e a ha, e b hb]
  exact hp a b _ _ hab
theorem once_idx {B : List PR} (hB : OnceP B) {i j : Nat} {p q : PR} (hp : B[i]? = some p) (hq : B[j]? = some q) (h : p.k = q.k) : i = j := by
  obtain ⟨h1, h2⟩ := List.getElem?_eq_some_iff.1 hp
  obtain ⟨h3, h4⟩ := List.getElem?_eq_some_iff.1 hq
  have hw := List.pairwise_iff_getElem.1 hB
  rcases Nat.lt_trichotomy i j with hl | hl | hl
  · have := hw i j h1 h3 hl; rw [h2, h4] at this; exact absurd h this
  · exact hl
  · have := hw j i h3 h1 hl; rw [h2, h4] at this; exact absurd h.symm this
theorem once_of {B : List PR} (h : ∀ (i j : Nat) (p q : PR), B[i]? = some p → B[j]? = some q → p.k = q.k → i = j) : OnceP B := by
  unfold OnceP
  rw [List.pairwise_iff_getElem]
  intro a b ha hb hab hk
  have := h a b _ _ (List.getElem?_eq_getElem ha) (List.getElem?_eq_getElem hb) hk
  omega
theorem mem_set_iff {B : List PR} {i : Nat} {q p : PR} (hi : i < B.length) : p ∈ B.set i q ↔ p = q ∨ ∃ j, j ≠ i ∧ B[j]? = some p := by
  constructor
  · intro h
    obtain ⟨j, hj⟩ := List.getElem?_of_mem h
    by_cases hji : i = j
    · subst hji
      rw [List.getElem?_set_self hi] at hj
      exact Or.inl (Option.some.inj hj).symm
    · rw [List.getElem?_set_ne hji] at hj
      exact Or.inr ⟨j, fun e => hji e.symm, hj⟩
  · rintro (rfl | ⟨j, hji, hj⟩)
    · exact List.mem_of_getElem? (List.getElem?_set_self hi)
    · exact List.mem_of_getElem? (i := j) (by rw [List.getElem?_set_ne (fun e => hji e.symm)]; exact hj)
/-- A book without its place i: the last pair takes it. -/
def unsetB (B : List PR) (i : Nat) (l : PR) : List PR := (B.set i l).take (B.length - 1)
theorem unset_get {B : List PR} {i : Nat} {l : PR} (hi : i < B.length) (hl : B[B.length - 1]? = some l) (j : Nat) (p : PR) : (unsetB B i l)[j]? = some p ↔ j < B.length - 1 ∧ B[if j = i then B.length - 1 else j]? = some p := by
  unfold unsetB
  rw [List.getElem?_take]
  by_cases hj : j < B.length - 1
  · rw [if_pos hj]
    by_cases hji : j = i
    · subst hji
      rw [List.getElem?_set_self hi, if_pos rfl, hl]
      exact ⟨fun h => ⟨hj, h⟩, fun h => h.2⟩
    · rw [List.getElem?_set_ne (fun e => hji e.symm), if_neg hji]
      exact ⟨fun h => ⟨hj, h⟩, fun h => h.2⟩
  · rw [if_neg hj]
    constructor
    · intro h; cases h
    · intro h; exact absurd h.1 hj
theorem once_unset {B : List PR} (hB : OnceP B) {i : Nat} {l : PR} (hi : i < B.length) (hl : B[B.length - 1]? = some l) : OnceP (unsetB B i l) := by
  refine once_of fun a b p q hp hq hk => ?_
  obtain ⟨h1, h2⟩ := (unset_get hi hl a p).1 hp
  obtain ⟨h3, h4⟩ := (unset_get hi hl b q).1 hq
  have := once_idx hB h2 h4 hk
  split at this <;> split at this <;> omega
theorem mem_unset {B : List PR} {i : Nat} {l p : PR} (hi : i < B.length) (hl : B[B.length - 1]? = some l) : p ∈ unsetB B i l ↔ ∃ j, j ≠ i ∧ B[j]? = some p := by
  constructor
  · intro h
    obtain ⟨j, hj⟩ := List.getElem?_of_mem h
    obtain ⟨h1, h2⟩ := (unset_get hi hl j p).1 hj
    refine ⟨_, ?_, h2⟩
    split <;> omega
  · rintro ⟨j, hji, hj⟩
    have hjl := (List.getElem?_eq_some_iff.1 hj).1
    by_cases hjm : j = B.length - 1
    · refine List.mem_of_getElem? (i := i) ((unset_get hi hl i p).2 ⟨by omega, ?_⟩)
      rw [if_pos rfl, ← hjm]
      exact hj
    · refine List.mem_of_getElem? (i := j) ((unset_get hi hl j p).2 ⟨by omega, ?_⟩)
      rw [if_neg hji]
      exact hj
/-- A tree's items and a book say one thing. -/
structure RelB (n : Int) (m : List It) (B : List PR) : Prop where
  ok : OkI n m
  once : OnceP B
  all : ∀ k, getI m k = bget B k
  len : m.length = B.length
theorem RelB.nil (n : Int) : RelB n [] [] := ⟨OkI.nil n, List.Pairwise.nil, fun _ => rfl, rfl⟩
theorem RelB.set {n : Int} {m : List It} {B : List PR} (h : RelB n m B) {i : Nat} {p q : PR} (hi : B[i]? = some p) (hk : q.k = p.k) (hs : q.k.length ≤ 64 ∧ q.v.length ≤ 256) : RelB n (putI m ⟨keyD n q.k, q.k, q.v⟩) (B.set i q) := by
  have hil := (List.getElem?_eq_some_iff.1 hi).1
  have hO := h.ok.put (x := ⟨keyD n q.k, q.k, q.v⟩) rfl hs
  have hon := once_set h.once hi hk
  refine ⟨hO, hon, fun k => ?_, ?_⟩
  · rw [getI_put h.ok rfl]
    by_cases hqk : q.k = k
    · rw [if_pos hqk]
      exact ((bget_iff hon).2 ⟨q, (mem_set_iff hil).2 (Or.inl rfl), hqk, rfl⟩).symm
    · rw [if_neg hqk, h.all]
      refine bget_ext h.once hon fun v => ?_
      constructor
      · rintro ⟨y, hy, h1, h2⟩
        obtain ⟨j, hj⟩ := List.getElem?_of_mem hy
        refine ⟨y, (mem_set_iff hil).2 (Or.inr ⟨j, fun e => hqk ?_, hj⟩), h1, h2⟩
        subst e
        rw [hi] at hj
        cases hj
        rw [hk, h1]
      · rintro ⟨y, hy, h1, h2⟩
        rcases (mem_set_iff hil).1 hy with rfl | ⟨j, _, hj⟩
        · exact absurd h1 hqk
        · exact ⟨y, List.mem_of_getElem? hj, h1, h2⟩
  · rw [List.length_set, ← h.len]
    have hg : getI m q.k = some p.v := by rw [h.all, hk]; exact bget_at h.once hi
    have h1 := len_del_some hO (put_put (x := ⟨keyD n q.k, q.k, q.v⟩) h.ok rfl)
    have h2 := del_put (x := ⟨keyD n q.k, q.k, q.v⟩) h.ok rfl
    simp only at h1 h2
    rw [h1, h2]
    exact (len_del_some h.ok hg).symm
theorem RelB.add {n : Int} {m : List It} {B : List PR} (h : RelB n m B) {q : PR} (hno : ∀ p ∈ B, p.k ≠ q.k) (hs : q.k.length ≤ 64 ∧ q.v.length ≤ 256) : RelB n (putI m ⟨keyD n q.k, q.k, q.v⟩) (B ++ [q]) := by
  have hg : getI m q.k = none := by rw [h.all]; exact bget_none.2 hno
  have hon : OnceP (B ++ [q]) := by
    refine List.pairwise_append.2 ⟨h.once, List.pairwise_singleton _ _, fun a ha b hb => ?_⟩
    rw [List.mem_singleton.1 hb]
    exact hno a ha
  refine ⟨h.ok.put rfl hs, hon, fun k => ?_, ?_⟩
  · rw [getI_put h.ok rfl]
    by_cases hqk : q.k = k
    · rw [if_pos hqk]
      exact ((bget_iff hon).2 ⟨q, by simp, hqk, rfl⟩).symm
    · rw [if_neg hqk, h.all]
      refine bget_ext h.once hon fun v => ?_
      constructor
      · rintro ⟨y, hy, h1, h2⟩
        exact ⟨y, List.mem_append.2 (Or.inl hy), h1, h2⟩
      · rintro ⟨y, hy, h1, h2⟩
        rcases List.mem_append.1 hy with hy | hy
        · exact ⟨y, hy, h1, h2⟩
        · rw [List.mem_singleton.1 hy] at h1
          exact absurd h1 hqk
  · rw [putI_new h.ok rfl (getI_none.1 hg), List.length_append, h.len]
    rfl
theorem RelB.del {n : Int} {m : List It} {B : List PR} (h : RelB n m B) {i : Nat} {p l : PR} (hi : B[i]? = some p) (hl : B[B.length - 1]? = some l) : RelB n (delI m p.k) (unsetB B i l) := by
  have hil := (List.getElem?_eq_some_iff.1 hi).1
  have hon := once_unset h.once hil hl
  refine ⟨h.ok.del _, hon, fun k => ?_, ?_⟩
  · rw [getI_del]
    by_cases hpk : p.k = k
    · rw [if_pos hpk]
      symm
      refine bget_none.2 fun y hy hyk => ?_
      obtain ⟨j, hji, hj⟩ := (mem_unset hil hl).1 hy
      exact hji (once_idx h.once hj hi (by rw [hyk, hpk]))
    · rw [if_neg hpk, h.all]
      refine bget_ext h.once hon fun v => ?_
      constructor
      · rintro ⟨y, hy, h1, h2⟩
        obtain ⟨j, hj⟩ := List.getElem?_of_mem hy
        refine ⟨y, (mem_unset hil hl).2 ⟨j, fun e => hpk ?_, hj⟩, h1, h2⟩
        subst e
        rw [hi] at hj
        cases hj
        exact h1
      · rintro ⟨y, hy, h1, h2⟩
        obtain ⟨j, _, hj⟩ := (mem_unset hil hl).1 hy
        exact ⟨y, List.mem_of_getElem? hj, h1, h2⟩
  · have hg : getI m p.k = some p.v := by rw [h.all]; exact bget_at h.once hi
    have h1 := len_del_some h.ok hg
    have h2 := h.len
    unfold unsetB
    rw [List.length_take, List.length_set]
    omega
end Go.Proofs.YtebbgninkbghlaaGreatDoor

/-! Sld -/
namespace Go.Proofs.YtebbgninkbghlaaGreatDoor
set_option maxRecDepth 100000
open Go Go.RowKit
set_option linter.unusedVariables false
set_option linter.unusedSimpArgs false

theorem DelP_ok (A X D : List Value) (i len : Nat) (hAl : A.length = i * 2) (hXl : X.length = 2) (hDl : D.length = (len - 1 - i) * 2) (hi : i < len) (hD1 : ∀ v ∈ D, oneCellV v = true) (v : Value) (base : Nat) (w : World)
    (hO : Own w base 47 2 v len (A ++ (X ++ D))) (hbase : base ≤ w.heap.size) (hsz : len ≤ 4000000000) :
    CallK Tryz.prog 155 [v, .int .i64 i, .int .i64 (i + 1 : Nat)].toArray w fun v' w' => Own w' base 47 2 v' (len - 1) (A ++ D) ∧ Below base w w' ∧ OnlyBy v w w' := by
  obtain ⟨a, c, rfl⟩ := own_slice hO
  have hcl := hO.cap_le
  obtain ⟨_, ⟨h0, h0'⟩ | ⟨g, cap, cur, h0, hbg, hg, hnc, hcm, hcs, hct⟩⟩ := hO
  · omega
  cases h0
  obtain ⟨rest, hrest⟩ : ∃ rest, cur.toList = A ++ (X ++ (D ++ rest)) := ⟨cur.toList.drop (len * 2), by
    have := List.take_append_drop (len * 2) cur.toList
    rw [hct, List.append_assoc, List.append_assoc] at this
    exact this.symm⟩
  have hG : Blk w g 47 (A ++ (X ++ (D ++ rest))) := ⟨by rw [← hrest]; simpa using hg⟩
  have hrl : rest.length = (c - len) * 2 := by
    have := congrArg List.length hrest
    simp only [List.length_append, Array.length_toList, hcs] at this
    omega
  refine enterT Tryz.func155 rfl Tryz.ntmps155 Tryz.results155 rfl (by decide) ?_
  simp only [↓VD, VP, VT, isAggD, reduceCtorEq, Int.reduceEq, Int.reduceNe, Int.reduceLT, Int.reduceLE, implies_true, Nat.reduceEqDiff, reduceIte, ite_true, ite_false, eq_self, Nat.reduceLT, Nat.reduceLeDiff, Nat.reduceAdd, Nat.reduceMul, Nat.reduceSub, intOf]
  refine ⟨by omega, by omega, by omega, by omega, fun a' ha' => ⟨fun h => absurd h (by omega), fun _ => ?_⟩⟩
  refine drawH (fun _ => True) [0, 1, 2, 3, 4, 5, 6, 7] mixed (by decide +kernel) (fun w1 hE1 hh => ⟨trivial, ?_⟩)
  simp only [↓VD, VP, VT, isAggD, reduceCtorEq, Int.reduceEq, Int.reduceNe, Int.reduceLT, Int.reduceLE, implies_true, Nat.reduceEqDiff, reduceIte, ite_true, ite_false, eq_self, Nat.reduceLT, Nat.reduceLeDiff, Nat.reduceAdd, Nat.reduceMul, Nat.reduceSub, intOf]
  refine ⟨by omega, by omega, fun a1 ha1 => ⟨by omega, by omega, by omega, fun a2 ha2 => ?_⟩⟩
  obtain ⟨o1, rfl, ho1⟩ := ha1 g 0 rfl
  obtain rfl : o1 = 0 := by have := ho1 (by omega); simpa using this
  obtain ⟨o2, rfl, ho2⟩ := ha2 g 0 rfl
  have hG1 := hG.ext hE1
  have hD2 : SlC w1 (.slice (some ⟨g, o2, none⟩) (len - 1 - i) (c - (i + 1))) (len - 1 - i) D := by
    refine ⟨_, _, rfl, by omega, by rw [maxLen_eq] at hcm; omega, Or.inr ⟨g, o2, rfl, fun j u hj => ?_⟩⟩
    have hjl := (List.getElem?_eq_some_iff.1 hj).1
    have e2 : o2 = (i + 1) * 2 := by have := ho2 (by omega); simpa using this
    rw [hG1.cell, ← List.append_assoc, List.getElem?_append_right (by rw [List.length_append]; omega), List.length_append, List.getElem?_append_left (by omega), ← hj]
    congr 1
    omega
  have hO1 : Own w1 base 47 2 (.slice (some ⟨g, 0, none⟩) i c) i A := own_mk hG1 hbg hAl (by simp only [List.length_append]; omega) (by omega) (by rw [maxLen_eq] at hcm; omega)
  rw [show ((i : Int) - 0).toNat = i from by omega, show ((c : Int) - 0).toNat = c from by omega, show ((len : Int) - ((i + 1 : Nat) : Int)).toNat = len - 1 - i from by omega, show ((c : Int) - ((i + 1 : Nat) : Int)).toNat = c - (i + 1) from by omega]
  refine apSp (sz := 2) (n := i) (m := len - 1 - i) Tryz.underlying24 z47 c47 rfl (by decide) hO1 (by have := hE1.size; omega) hD2 hDl hD1 (by omega) (fun w2 hO2 hg2 => ?_)
  refine told (fun _ => True) trivial trivial ?_
  have hln : i + (len - 1 - i) = len - 1 := by omega
  rw [hln] at hO2
  rw [hln]
  have hE2 := below_of_grown hO1 (by have := hE1.size; omega) hg2
  obtain ⟨_, ⟨h0, h0'⟩ | ⟨g', cap', cur', h0, hbg', hg', hnc', hcm', hcs', hct'⟩⟩ := hO2
  · cases h0
  cases h0
  obtain ⟨rest', hrest'⟩ : ∃ rest', cur'.toList = (A ++ D) ++ rest' := ⟨cur'.toList.drop ((len - 1) * 2), by
    have := List.take_append_drop ((len - 1) * 2) cur'.toList
    rw [hct'] at this
    exact this.symm⟩
  have hrl' : rest'.length = (c - (len - 1)) * 2 := by
    have := congrArg List.length hrest'
    simp only [List.length_append, Array.length_toList, hcs'] at this
    omega
  obtain ⟨r1, r2, rfl, hr1⟩ : ∃ r1 r2, rest' = r1 ++ r2 ∧ r1.length = 2 := ⟨rest'.take 2, rest'.drop 2, (List.take_append_drop _ _).symm, by rw [List.length_take]; omega⟩
  have hG2 : Blk w2 g 47 ((A ++ D) ++ (r1 ++ r2)) := ⟨by rw [← hrest']; simpa using hg'⟩
  rw [List.length_append] at hrl'
  simp only [↓VD, VP, VT, isAggD, reduceCtorEq, Int.reduceEq, Int.reduceNe, Int.reduceLT, Int.reduceLE, implies_true, Nat.reduceEqDiff, reduceIte, ite_true, ite_false, eq_self, Nat.reduceLT, Nat.reduceLeDiff, Nat.reduceAdd, Nat.reduceMul, Nat.reduceSub, intOf]
  refine ⟨by omega, by omega, by omega, fun a5 ha5 => ?_⟩
  obtain ⟨o5, rfl, ho5⟩ := ha5 g 0 rfl
  obtain rfl : o5 = (len - 1) * 2 := by have := ho5 (by omega); simpa using this
  rw [show ((len : Int) - ((len - 1 : Nat) : Int)).toNat = 1 from by omega]
  refine clS (sz := 2) (T := 47) Tryz.underlying24 z47 rfl (by decide) (by decide +kernel) hG2 (by decide +kernel) (by simp only [List.length_append]; omega) (fun w3 hP3 => ?_)
  generalize hze : (Builtin.zeroCells _ 1).toList = zs at hP3
  have hzl : zs.length = 2 := by rw [← hze]; decide +kernel
  rw [splice_at (by rw [List.length_append]; omega) (by rw [hr1, hzl])] at hP3
  simp only [↓VD, VP, VT, isAggD, reduceCtorEq, Int.reduceEq, Int.reduceNe, Int.reduceLT, Int.reduceLE, implies_true, Nat.reduceEqDiff, reduceIte, ite_true, ite_false, eq_self, Nat.reduceLT, Nat.reduceLeDiff, Nat.reduceAdd, Nat.reduceMul, Nat.reduceSub, intOf]
  have hne : ∀ k : Nat, (Value.slice (some ⟨g, 0, none⟩) len c).ownBlock ≠ some k → k ≠ g := fun k hk e => hk (by simp [Value.ownBlock, e])
  refine ⟨own_mk (sz := 2) (n := len - 1) (cap := c) hP3.blk hbg (by rw [List.length_append]; omega) (by rw [List.length_append]; omega) (by omega) (by rw [maxLen_eq] at hcm; omega), (hE1.mono hbase).trans (hE2.trans (hP3.below (by omega))), fun k T l hk hBk => ?_⟩
  have h1 := hBk.ext hE1
  exact hP3.keep ⟨by rw [hg2.block k h1.lt (fun h => hne k hk (by simpa using h))]; exact h1.out⟩ (hne k hk)
theorem DelN_ok (A X D : List Value) (i len : Nat) (hAl : A.length = i * 1) (hXl : X.length = 1) (hDl : D.length = (len - 1 - i) * 1) (hi : i < len) (hD1 : ∀ v ∈ D, oneCellV v = true) (v : Value) (base : Nat) (w : World)
    (hO : Own w base 140 1 v len (A ++ (X ++ D))) (hbase : base ≤ w.heap.size) (hsz : len ≤ 4000000000) :
    CallK Tryz.prog 156 [v, .int .i64 i, .int .i64 (i + 1 : Nat)].toArray w fun v' w' => Own w' base 140 1 v' (len - 1) (A ++ D) ∧ Below base w w' ∧ OnlyBy v w w' := by
  obtain ⟨a, c, rfl⟩ := own_slice hO
  have hcl := hO.cap_le
  obtain ⟨_, ⟨h0, h0'⟩ | ⟨g, cap, cur, h0, hbg, hg, hnc, hcm, hcs, hct⟩⟩ := hO
  · omega
  cases h0
  obtain ⟨rest, hrest⟩ : ∃ rest, cur.toList = A ++ (X ++ (D ++ rest)) := ⟨cur.toList.drop (len * 1), by
    have := List.take_append_drop (len * 1) cur.toList
    rw [hct, List.append_assoc, List.append_assoc] at this
    exact this.symm⟩
  have hG : Blk w g 140 (A ++ (X ++ (D ++ rest))) := ⟨by rw [← hrest]; simpa using hg⟩
  have hrl : rest.length = (c - len) * 1 := by
    have := congrArg List.length hrest
    simp only [List.length_append, Array.length_toList, hcs] at this
    omega
  refine enterT Tryz.func156 rfl Tryz.ntmps156 Tryz.results156 rfl (by decide) ?_
  simp only [↓VD, VP, VT, isAggD, reduceCtorEq, Int.reduceEq, Int.reduceNe, Int.reduceLT, Int.reduceLE, implies_true, Nat.reduceEqDiff, reduceIte, ite_true, ite_false, eq_self, Nat.reduceLT, Nat.reduceLeDiff, Nat.reduceAdd, Nat.reduceMul, Nat.reduceSub, intOf]
  refine ⟨by omega, by omega, by omega, by omega, fun a' ha' => ⟨fun h => absurd h (by omega), fun _ => ?_⟩⟩
  refine drawH (fun _ => True) [0, 1, 2, 3, 4, 5, 6, 7] mixed (by decide +kernel) (fun w1 hE1 hh => ⟨trivial, ?_⟩)
  simp only [↓VD, VP, VT, isAggD, reduceCtorEq, Int.reduceEq, Int.reduceNe, Int.reduceLT, Int.reduceLE, implies_true, Nat.reduceEqDiff, reduceIte, ite_true, ite_false, eq_self, Nat.reduceLT, Nat.reduceLeDiff, Nat.reduceAdd, Nat.reduceMul, Nat.reduceSub, intOf]
  refine ⟨by omega, by omega, fun a1 ha1 => ⟨by omega, by omega, by omega, fun a2 ha2 => ?_⟩⟩
  obtain ⟨o1, rfl, ho1⟩ := ha1 g 0 rfl
  obtain rfl : o1 = 0 := by have := ho1 (by omega); simpa using this
  obtain ⟨o2, rfl, ho2⟩ := ha2 g 0 rfl
  have hG1 := hG.ext hE1
  have hD2 : SlC w1 (.slice (some ⟨g, o2, none⟩) (len - 1 - i) (c - (i + 1))) (len - 1 - i) D := by
    refine ⟨_, _, rfl, by omega, by rw [maxLen_eq] at hcm; omega, Or.inr ⟨g, o2, rfl, fun j u hj => ?_⟩⟩
    have hjl := (List.getElem?_eq_some_iff.1 hj).1
    have e2 : o2 = (i + 1) * 1 := by have := ho2 (by omega); simpa using this
    rw [hG1.cell, ← List.append_assoc, List.getElem?_append_right (by rw [List.length_append]; omega), List.length_append, List.getElem?_append_left (by omega), ← hj]
    congr 1
    omega
  have hO1 : Own w1 base 140 1 (.slice (some ⟨g, 0, none⟩) i c) i A := own_mk hG1 hbg hAl (by simp only [List.length_append]; omega) (by omega) (by rw [maxLen_eq] at hcm; omega)
  rw [show ((i : Int) - 0).toNat = i from by omega, show ((c : Int) - 0).toNat = c from by omega, show ((len : Int) - ((i + 1 : Nat) : Int)).toNat = len - 1 - i from by omega, show ((c : Int) - ((i + 1 : Nat) : Int)).toNat = c - (i + 1) from by omega]
  refine apSp (sz := 1) (n := i) (m := len - 1 - i) Tryz.underlying148 z140 c140 rfl (by decide) hO1 (by have := hE1.size; omega) hD2 hDl hD1 (by omega) (fun w2 hO2 hg2 => ?_)
  refine told (fun _ => True) trivial trivial ?_
  have hln : i + (len - 1 - i) = len - 1 := by omega
  rw [hln] at hO2
  rw [hln]
  have hE2 := below_of_grown hO1 (by have := hE1.size; omega) hg2
  obtain ⟨_, ⟨h0, h0'⟩ | ⟨g', cap', cur', h0, hbg', hg', hnc', hcm', hcs', hct'⟩⟩ := hO2
  · cases h0
  cases h0
  obtain ⟨rest', hrest'⟩ : ∃ rest', cur'.toList = (A ++ D) ++ rest' := ⟨cur'.toList.drop ((len - 1) * 1), by
    have := List.take_append_drop ((len - 1) * 1) cur'.toList
    rw [hct'] at this
    exact this.symm⟩
  have hrl' : rest'.length = (c - (len - 1)) * 1 := by
    have := congrArg List.length hrest'
    simp only [List.length_append, Array.length_toList, hcs'] at this
    omega
  obtain ⟨r1, r2, rfl, hr1⟩ : ∃ r1 r2, rest' = r1 ++ r2 ∧ r1.length = 1 := ⟨rest'.take 1, rest'.drop 1, (List.take_append_drop _ _).symm, by rw [List.length_take]; omega⟩
  have hG2 : Blk w2 g 140 ((A ++ D) ++ (r1 ++ r2)) := ⟨by rw [← hrest']; simpa using hg'⟩
  rw [List.length_append] at hrl'
  simp only [↓VD, VP, VT, isAggD, reduceCtorEq, Int.reduceEq, Int.reduceNe, Int.reduceLT, Int.reduceLE, implies_true, Nat.reduceEqDiff, reduceIte, ite_true, ite_false, eq_self, Nat.reduceLT, Nat.reduceLeDiff, Nat.reduceAdd, Nat.reduceMul, Nat.reduceSub, intOf]
  refine ⟨by omega, by omega, by omega, fun a5 ha5 => ?_⟩
  obtain ⟨o5, rfl, ho5⟩ := ha5 g 0 rfl
  obtain rfl : o5 = (len - 1) * 1 := by have := ho5 (by omega); simpa using this
  rw [show ((len : Int) - ((len - 1 : Nat) : Int)).toNat = 1 from by omega]
  refine clS (sz := 1) (T := 140) Tryz.underlying148 z140 rfl (by decide) (by decide +kernel) hG2 (by decide +kernel) (by simp only [List.length_append]; omega) (fun w3 hP3 => ?_)
  generalize hze : (Builtin.zeroCells _ 1).toList = zs at hP3
  have hzl : zs.length = 1 := by rw [← hze]; decide +kernel
  rw [splice_at (by rw [List.length_append]; omega) (by rw [hr1, hzl])] at hP3
  simp only [↓VD, VP, VT, isAggD, reduceCtorEq, Int.reduceEq, Int.reduceNe, Int.reduceLT, Int.reduceLE, implies_true, Nat.reduceEqDiff, reduceIte, ite_true, ite_false, eq_self, Nat.reduceLT, Nat.reduceLeDiff, Nat.reduceAdd, Nat.reduceMul, Nat.reduceSub, intOf]
  have hne : ∀ k : Nat, (Value.slice (some ⟨g, 0, none⟩) len c).ownBlock ≠ some k → k ≠ g := fun k hk e => hk (by simp [Value.ownBlock, e])
  refine ⟨own_mk (sz := 1) (n := len - 1) (cap := c) hP3.blk hbg (by rw [List.length_append]; omega) (by rw [List.length_append]; omega) (by omega) (by rw [maxLen_eq] at hcm; omega), (hE1.mono hbase).trans (hE2.trans (hP3.below (by omega))), fun k T l hk hBk => ?_⟩
  have h1 := hBk.ext hE1
  exact hP3.keep ⟨by rw [hg2.block k h1.lt (fun h => hne k hk (by simpa using h))]; exact h1.out⟩ (hne k hk)
end Go.Proofs.YtebbgninkbghlaaGreatDoor

/-! Hmj -/
namespace Go.Proofs.YtebbgninkbghlaaGreatDoor
set_option maxRecDepth 100000
open Go Go.RowKit
set_option linter.unusedVariables false
set_option linter.unusedSimpArgs false
set_option maxHeartbeats 2000000
attribute [local irreducible] vcT opsT qT vcOp Q1 vcPure vcLoad vcStore ldC ldN ldD grdT grdQ vc vcOps vcQ hT
attribute [local irreducible] sumR sumP shaP keyD bucketP branchP

theorem PairsS.of_own {S : Nat → Prop} {W : World} {base n : Nat} {v : Value} {qs : List PR} (hO : Own W base 47 2 v n (qs.flatMap PR.cells)) (hS : ∀ b, base ≤ b → S b)
    (ho : ∀ q ∈ qs, SlS S W q.kv q.k.length (vbs q.k) ∧ SlS S W q.vv q.v.length (vbs q.v)) : PairsS S W v qs := by
  have hn : n = qs.length := by have h1 := hO.1; have h2 := prc_len qs; omega
  subst hn
  exact ⟨SlS.of_own hO hS, ho⟩
theorem drop_ok (n : Int) (hw : widB n = true) (S : Nat → Prop) (b : Nat) (top : Value) (k : List UInt8) (hkl : k.length ≤ 64) :
    ∀ (f d : Nat) (m : List It) (at_ kv : Value) (w : World), WordsAt w 1 → Blk w b 142 [.int .i64 n, top] → AtN n S w f d m at_ → OkI n m → Pre d m → SlB w kv k → d + f = 64 → m.length ≤ 900000000 → (∀ k, S k → k < w.heap.size) →
    CallK Tryz.prog 107 [.pointer (some ⟨b, 0, none⟩), at_, .int .i64 d, .agg (vbs (keyD n k)).toArray, kv].toArray w fun v w' => ∃ nv, v = .tuple [nv, .bool (getI m k).isSome].toArray ∧ AtN n (fun k => S k ∨ w.heap.size ≤ k) w' f d (delI m k) nv ∧ Ext w w' := by
  have hwn := (widB_iff n).1 hw
  obtain ⟨nn, rfl⟩ : ∃ nn : Nat, n = nn := ⟨n.toNat, by omega⟩
  have hxl : (keyD nn k).length = 32 := keyD_len _ _
  intro f
  induction f using Nat.strongRecOn with
  | ind f ih =>
    intro d m at_ kv w hW hB hA hO hP hk hdf hml hSl
    have hbl := hB.lt
    have hOM := hO.del k
    have hPM := hP.del k
    have hMl := del_len m k
    obtain ⟨ka, kc, rfl⟩ := slv_of hk
    have hmiss : getI m k = none → ∀ W, Ext w W → AtN nn (fun k => S k ∨ w.heap.size ≤ k) W f d (delI m k) at_ := fun h W e => by
      rw [del_of_none h]
      exact (hA.ext e).mono (fun k h => Or.inl h)
    rcases hA.cases with ⟨rfl, rfl⟩ | ⟨hne, hs, b4, pv, ps, rfl, hb⟩ | ⟨hs, f', hf', b4, kv4, vs, rfl, hb, hkids⟩
    · refine enterT Tryz.func107 rfl Tryz.ntmps107 Tryz.results107 rfl (by decide) ?_
      repeat (first | exact trivial | refine stp ?_ | refine ldCg ?_ | refine ldNg ?_ | refine ldSg ?_ | refine ldSb ?_ | refine bnd ?_ | refine bnd1 ?_ | refine drawQ (by decide +kernel) mixed (by decide +kernel) ?_)
      first | refine newS ?_ | refine newZ ?_
      intro w1 hE1 hz1 hB1
      repeat (first | exact trivial | refine stp ?_ | refine ldCg ?_ | refine ldNg ?_ | refine ldSg ?_ | refine ldSb ?_ | refine bnd ?_ | refine bnd1 ?_ | refine drawQ (by decide +kernel) mixed (by decide +kernel) ?_)
      exact ⟨.nilIface, rfl, ⟨fun _ => rfl, fun h => absurd rfl h⟩, .go⟩
    · have hB4 := hb.blk
      have hdl := headD_len (n := nn) hne hO.len
      have hhl : (vbs (headD m)).length = 32 := by rw [vbs_len]; exact hdl
      have hpl : ps.length = m.length := by have := congrArg List.length hb.dat; simpa using this
      have hps := pairs_sorted hb.dat (sorted_keys hO.sorted (singleB_iff.1 hs))
      have hpa := hb.prs.at
      obtain ⟨pa, cp, rfl⟩ := slv_of hpa.1
      obtain ⟨i, ok, hF⟩ := find_ex k hps
      refine enterT Tryz.func107 rfl Tryz.ntmps107 Tryz.results107 rfl (by decide) ?_
      repeat (first | exact trivial | refine stp ?_ | refine ldCg ?_ | refine ldNg ?_ | refine ldSg ?_ | refine ldSb ?_ | refine bnd ?_ | refine bnd1 ?_ | refine drawQ (by decide +kernel) mixed (by decide +kernel) ?_)
      first | refine newS ?_ | refine newZ ?_
      intro w1 hE1 hz1 hB1
      repeat (first | exact trivial | refine stp ?_ | refine ldCg ?_ | refine ldNg ?_ | refine ldSg ?_ | refine ldSb ?_ | refine bnd ?_ | refine bnd1 ?_ | refine drawQ (by decide +kernel) mixed (by decide +kernel) ?_)
      refine ldCg (hv := by rw [List.getElem?_append_right (by omega), hhl]; rfl) ?_
      repeat (first | exact trivial | refine stp ?_ | refine ldCg ?_ | refine ldNg ?_ | refine ldSg ?_ | refine ldSb ?_ | refine bnd ?_ | refine bnd1 ?_ | refine drawQ (by decide +kernel) mixed (by decide +kernel) ?_)
      refine (find_ok ps k _ _ w1 (hpa.ext .go) (hk.ext .go) hps (by omega)).mono ?_
      rintro _ w2 ⟨i, ok, rfl, hF, hE2⟩
      have hz2 := hE2.size
      obtain rfl | rfl : ok = true ∨ ok = false := by cases ok <;> simp
      · obtain ⟨hdd, hil, hgn⟩ := del_bucket hb.dat hps hF
        have hgs : (getI m k).isSome = true := by cases h : getI m k with | none => exact absurd h hgn | some _ => rfl
        have hsM : singleB (delI m k) = true := singleB_iff.2 fun y hy z hz => singleB_iff.1 hs y (mem_del.1 hy).1 z (mem_del.1 hz).1
        have hpM : ps.length = (delI m k).length + 1 := by
          have := congrArg List.length hdd
          simp only [List.length_map, List.length_append, List.length_take, List.length_drop] at this
          omega
        rw [hgs]
        repeat (first | exact trivial | refine stp ?_ | refine ldCg ?_ | refine ldNg ?_ | refine ldSg ?_ | refine ldSb ?_ | refine bnd ?_ | refine bnd1 ?_ | refine drawQ (by decide +kernel) mixed (by decide +kernel) ?_)
        refine ldCg (hv := by rw [List.getElem?_append_right (by omega), hhl]; rfl) ?_
        repeat (first | exact trivial | refine stp ?_ | refine ldCg ?_ | refine ldNg ?_ | refine ldSg ?_ | refine ldSb ?_ | refine bnd ?_ | refine bnd1 ?_ | refine drawQ (by decide +kernel) mixed (by decide +kernel) ?_)
        refine ⟨fun h1 => ?_, fun h1 => ?_⟩
        · have hM0 : delI m k = [] := List.length_eq_zero_iff.1 (by omega)
          repeat (first | exact trivial | refine stp ?_ | refine ldCg ?_ | refine ldNg ?_ | refine ldSg ?_ | refine ldSb ?_ | refine bnd ?_ | refine bnd1 ?_ | refine drawQ (by decide +kernel) mixed (by decide +kernel) ?_)
          exact ⟨.nilIface, rfl, ⟨fun _ => rfl, fun h => absurd hM0 h⟩, .go⟩
        · have hMne : delI m k ≠ [] := fun h => by rw [h, List.length_nil] at hpM; omega
          have hhd : headD (delI m k) = headD m := by
            obtain ⟨y, hy⟩ := List.exists_mem_of_ne_nil _ hMne
            rw [headD_mem hsM hy, headD_mem hs (mem_del.1 hy).1]
          refine drawX (.of [0, 1, 2, 3, 4, 5, 6, 7, 8, 10, 11, 12, 9, 13, 14, 15, 16, 17]) mixed (by decide +kernel) (fun w3 hE3 hz3 => ?_)
          repeat (first | exact trivial | refine stp ?_ | refine ldCg ?_ | refine ldNg ?_ | refine ldSg ?_ | refine ldSb ?_ | refine bnd ?_ | refine bnd1 ?_ | refine drawQ (by decide +kernel) mixed (by decide +kernel) ?_)
          refine ldSg (v := .agg (vbs (headD m)).toArray) ?_ (by intro w' hw'; refine stp ?_; exact ldNg (m := vbs (headD m)) rfl (hm := by rw [List.drop_zero, List.take_append_of_le_length (by omega), vbs_tk hdl]))
          repeat (first | exact trivial | refine stp ?_ | refine ldCg ?_ | refine ldNg ?_ | refine ldSg ?_ | refine ldSb ?_ | refine bnd ?_ | refine bnd1 ?_ | refine drawQ (by decide +kernel) mixed (by decide +kernel) ?_)
          refine ldSg (v := .slice pa ps.length cp) ?_ (by intro w' hw'; refine stp ?_; exact ldCg rfl (hv := by rw [List.getElem?_append_right (by omega), hhl]; rfl))
          repeat (first | exact trivial | refine stp ?_ | refine ldCg ?_ | refine ldNg ?_ | refine ldSg ?_ | refine ldSb ?_ | refine bnd ?_ | refine bnd1 ?_ | refine drawQ (by decide +kernel) mixed (by decide +kernel) ?_)
          refine (ClnP_ok _ ps.length _ w3 (hpa.1.ext .go) (prc_len ps) hpa.one (by omega)).mono ?_
          rintro v4 w4 ⟨hO4, hE4⟩
          have hz4 := hE4.size
          obtain ⟨a4, c4, rfl⟩ := own_slice hO4
          refine toldK ?_
          rw [show IntKind.i64.wrap ((i : Int) + 1) = ((i + 1 : Nat) : Int) from by rw [w64 (by omega) (by omega)]; omega]
          obtain ⟨q, hq, hqk⟩ := hF.hit.1 rfl
          obtain ⟨_, hie⟩ := List.getElem?_eq_some_iff.1 hq
          have hsp1 : ps.flatMap PR.cells = (ps.take i).flatMap PR.cells ++ (q.cells ++ (ps.drop (i + 1)).flatMap PR.cells) := by
            have h1 : ps = ps.take i ++ (q :: ps.drop (i + 1)) := by rw [← hie]; simp
            have h2 := congrArg (List.flatMap PR.cells) h1
            rwa [List.flatMap_append, List.flatMap_cons] at h2
          have hone := hpa.one
          rw [hsp1] at hO4 hone
          repeat (first | exact trivial | refine stp ?_ | refine ldCg ?_ | refine ldNg ?_ | refine ldSg ?_ | refine ldSb ?_ | refine bnd ?_ | refine bnd1 ?_ | refine drawQ (by decide +kernel) mixed (by decide +kernel) ?_)
          refine (DelP_ok _ q.cells _ i ps.length (by rw [prc_len, List.length_take]; omega) rfl (by rw [prc_len, List.length_drop]; omega) hil (fun v hv => hone v (List.mem_append.2 (Or.inr (List.mem_append.2 (Or.inr hv))))) _ w3.heap.size w4 hO4 (by omega) (by omega)).mono ?_
          rintro v5 w5 ⟨hO5, hE5, _⟩
          have hz5 := hE5.size
          rw [← List.flatMap_append] at hO5
          have hK5 : KeepS S w w5 := KeepS.of_ext Ext.go
          have hps5 : PairsS (fun k => S k ∨ w.heap.size ≤ k) w5 v5 (ps.take i ++ ps.drop (i + 1)) := PairsS.of_own hO5 (fun k h => Or.inr (by omega)) (fun q hq => by
            have hq' : q ∈ ps := (List.mem_append.1 hq).elim List.mem_of_mem_take List.mem_of_mem_drop
            exact ⟨((hb.prs.2 q hq').1.keep hK5).mono (fun k h => Or.inl h), ((hb.prs.2 q hq').2.keep hK5).mono (fun k h => Or.inl h)⟩)
          refine toldK ?_
          obtain ⟨a5, c5, rfl⟩ := own_slice hO5
          repeat (first | exact trivial | refine stp ?_ | refine ldCg ?_ | refine ldNg ?_ | refine ldSg ?_ | refine ldSb ?_ | refine bnd ?_ | refine bnd1 ?_ | refine drawQ (by decide +kernel) mixed (by decide +kernel) ?_)
          refine (pour_ok nn b top (headD m) hdl _ _ w5 (hW.ext .go) .go hps5.at (hOM.bucket_le hdd (by omega))).mono ?_
          rintro _ w6 ⟨g6, rfl, hg6, hB6, hE6⟩
          have hz6 := hE6.size
          refine toldK ?_
          repeat (first | exact trivial | refine stp ?_ | refine ldCg ?_ | refine ldNg ?_ | refine ldSg ?_ | refine ldSb ?_ | refine bnd ?_ | refine bnd1 ?_ | refine drawQ (by decide +kernel) mixed (by decide +kernel) ?_)
          exact ⟨_, rfl, ⟨fun h => absurd h hMne, fun _ => NodeAt.mk_bk hsM (Or.inr (by omega)) hB6 hhd (hps5.keep (KeepS.of_ext hE6)) hdd⟩, .go⟩
      · have hgn := miss_bucket hb.dat hps hF
        repeat (first | exact trivial | refine stp ?_ | refine ldCg ?_ | refine ldNg ?_ | refine ldSg ?_ | refine ldSb ?_ | refine bnd ?_ | refine bnd1 ?_ | refine drawQ (by decide +kernel) mixed (by decide +kernel) ?_)
        refine ⟨bkV b4, ?_, hmiss hgn _ .go, .go⟩
        rw [hgn]
        rfl
    · have hB4 := hb.blk
      have hb4l := hB4.lt
      have hbm := bmI_lt m d
      have hdn := br_depth hs hP (hO.form hw)
      have hfx : formB nn (keyD nn k) = true := by unfold keyD; exact form_sumR nn _ hw
      have hat := atP_dig (by omega) (by omega) hxl hfx hdn
      have hd16 := digP_lt (keyD nn k) d
      have hkv := hb.kids
      obtain ⟨qa, qc, rfl⟩ := slv_of hkv.sl
      have hvl := hb.len
      have hc16 := cnt_le (bmI m d)
      have hgc : getI (childI m d (digP (keyD nn k) d)) k = getI m k := getI_child hO.dig rfl
      refine enterT Tryz.func107 rfl Tryz.ntmps107 Tryz.results107 rfl (by decide) ?_
      repeat (first | exact trivial | refine stp ?_ | refine ldCg ?_ | refine ldNg ?_ | refine ldSg ?_ | refine ldSb ?_ | refine bnd ?_ | refine bnd1 ?_ | refine drawQ (by decide +kernel) mixed (by decide +kernel) ?_)
      first | refine newS ?_ | refine newZ ?_
      intro w1 hE1 hz1 hB1
      repeat (first | exact trivial | refine stp ?_ | refine ldCg ?_ | refine ldNg ?_ | refine ldSg ?_ | refine ldSb ?_ | refine bnd ?_ | refine bnd1 ?_ | refine drawQ (by decide +kernel) mixed (by decide +kernel) ?_)
      refine (digit_hamt_ok nn b top (keyD nn k) hxl d w1 .go).mono ?_
      rintro _ w2 ⟨rfl, hE2⟩
      have hz2 := hE2.size
      rw [hat]
      repeat (first | exact trivial | refine stp ?_ | refine ldCg ?_ | refine ldNg ?_ | refine ldSg ?_ | refine ldSb ?_ | refine bnd ?_ | refine bnd1 ?_ | refine drawQ (by decide +kernel) mixed (by decide +kernel) ?_)
      refine (Has_ok (bmI m d) hbm (digP (keyD nn k) d) w2).mono ?_
      rintro _ w3 ⟨rfl, hE3⟩
      have hz3 := hE3.size
      rw [bmI_has, decide_eq_true hd16, Bool.true_and]
      cases hh : hasI m d (digP (keyD nn k) d)
      · have hgn : getI m k = none := by
          rw [← hgc]
          have e : childI m d (digP (keyD nn k) d) = [] := by unfold hasI at hh; simpa using hh
          rw [e]
          rfl
        repeat (first | exact trivial | refine stp ?_ | refine ldCg ?_ | refine ldNg ?_ | refine ldSg ?_ | refine ldSb ?_ | refine bnd ?_ | refine bnd1 ?_ | refine drawQ (by decide +kernel) mixed (by decide +kernel) ?_)
        refine ⟨brV b4, ?_, hmiss hgn _ .go, .go⟩
        rw [hgn]
        rfl
      · obtain ⟨y, hy, hNy⟩ := hkids _ hh
        have hrl := (List.getElem?_eq_some_iff.1 hy).1
        repeat (first | exact trivial | refine stp ?_ | refine ldCg ?_ | refine ldNg ?_ | refine ldSg ?_ | refine ldSb ?_ | refine bnd ?_ | refine bnd1 ?_ | refine drawQ (by decide +kernel) mixed (by decide +kernel) ?_)
        refine (Rank_ok (bmI m d) hbm (digP (keyD nn k) d) w3).mono ?_
        rintro _ w4 ⟨rfl, hE4⟩
        have hz4 := hE4.size
        obtain ⟨b5, o5, rfl, hR5⟩ := vs_get hkv (by omega)
        repeat (first | exact trivial | refine stp ?_ | refine ldCg ?_ | refine ldNg ?_ | refine ldSg ?_ | refine ldSb ?_ | refine bnd ?_ | refine bnd1 ?_)
        refine drawX (.of [0, 1, 2, 3, 4, 5, 6, 7, 8, 9, 10, 11, 12, 13, 14, 15, 16, 17]) mixed (by decide +kernel) (fun w5 hE5 hz5 => ?_)
        repeat (first | exact trivial | refine stp ?_ | refine ldCg ?_ | refine ldNg ?_ | refine ldSg ?_ | refine ldSb ?_ | refine bnd ?_ | refine bnd1 ?_ | refine drawQ (by decide +kernel) mixed (by decide +kernel) ?_)
        refine ldSg (v := y) ?_ (by intro w' hw'; refine stp ?_; exact ldRowF (f := fun v : Value => [v]) 0 hy rfl)
        repeat (first | exact trivial | refine stp ?_ | refine ldCg ?_ | refine ldNg ?_ | refine ldSg ?_ | refine ldSb ?_ | refine bnd ?_ | refine bnd1 ?_ | refine drawQ (by decide +kernel) mixed (by decide +kernel) ?_)
        rw [show IntKind.i64.wrap ((d : Int) + 1) = ((d + 1 : Nat) : Int) from by rw [w64 (by omega) (by omega)]; omega]
        have hK5 : KeepS S w w5 := KeepS.of_ext Ext.go
        have hcl : (childI m d (digP (keyD nn k) d)).length ≤ m.length := List.length_filter_le _ _
        refine (ih f' (by omega) (d + 1) (childI m d (digP (keyD nn k) d)) y _ w5 (hW.ext .go) .go ⟨fun h => absurd h (child_ne hh), fun _ => hNy.keep hK5⟩ (hO.child _ _) (hP.child _) (hk.ext .go) (by omega) (by omega) (fun k h => by have := hSl k h; omega)).mono ?_
        rintro _ w6 ⟨nv, rfl, hA6, hE6⟩
        have hz6 := hE6.size
        rw [hgc]
        refine toldX ?_
        cases hgs : (getI m k).isSome
        · have hgn : getI m k = none := by cases h : getI m k with | none => rfl | some _ => rw [h] at hgs; cases hgs
          repeat (first | exact trivial | refine stp ?_ | refine ldCg ?_ | refine ldNg ?_ | refine ldSg ?_ | refine ldSb ?_ | refine bnd ?_ | refine bnd1 ?_ | refine drawQ (by decide +kernel) mixed (by decide +kernel) ?_)
          exact ⟨brV b4, rfl, hmiss hgn _ .go, .go⟩
        · repeat (first | exact trivial | refine stp ?_ | refine ldCg ?_ | refine ldNg ?_ | refine ldSg ?_ | refine ldSb ?_ | refine bnd ?_ | refine bnd1 ?_)
          refine drawX (.of [0, 1, 2, 3, 5, 6, 7, 8, 4, 9, 10]) mixed (by decide +kernel) (fun w7 hE7 hz7 => ?_)
          repeat (first | exact trivial | refine stp ?_ | refine ldCg ?_ | refine ldNg ?_ | refine ldSg ?_ | refine ldSb ?_ | refine bnd ?_ | refine bnd1 ?_ | refine drawQ (by decide +kernel) mixed (by decide +kernel) ?_)
          refine (ClnN_ok vs vs.length _ w7 (hkv.sl.ext .go) (by omega) hb.one (by omega)).mono ?_
          rintro v8 w8 ⟨hO8, hE8⟩
          have hz8 := hE8.size
          obtain ⟨a8, c8, rfl⟩ := own_slice hO8
          refine toldX ?_
          repeat (first | exact trivial | refine stq ?_ | refine ldCg ?_ | refine ldNg ?_ | refine ldSg ?_ | refine ldSb ?_ | refine bnd ?_ | refine bnd1 ?_)
          rw [v_seq]
          refine joinX (κ := Option Addr × Nat × List Value) (fun x => [(0, .pointer (some ⟨b, 0, none⟩)), (20, .slice x.1 x.2.2.length x.2.1), (21, .int .u16 (bmI (delI m k) d : Nat))])
            (fun x W => Ext w W ∧ w8.heap.size ≤ W.heap.size ∧ x.2.2.length = cntB (bmI (delI m k) d) ∧ (∀ u ∈ x.2.2, oneCellV u = true) ∧ Own W w7.heap.size 140 1 (.slice x.1 x.2.2.length x.2.1) x.2.2.length x.2.2 ∧
              ∀ c, hasI (delI m k) d c = true → ∃ y, x.2.2[rankB (bmI (delI m k) d) (c : Int)]? = some y ∧ NodeAt nn (fun k => S k ∨ w.heap.size ≤ k) W f' (d + 1) (childI (delI m k) d c) y) ?_ ?_
          · by_cases hM : delI (childI m d (digP (keyD nn k) d)) k = []
            · obtain rfl := hA6.1 hM
              have hvs : vs = vs.take (rankB (bmI m d) (digP (keyD nn k) d : Int)) ++ ([y] ++ vs.drop (rankB (bmI m d) (digP (keyD nn k) d : Int) + 1)) := by rw [← (List.getElem?_eq_some_iff.1 hy).2]; simp
              have hO8' : Own w8 w7.heap.size 140 1 (.slice a8 vs.length c8) vs.length (vs.take (rankB (bmI m d) (digP (keyD nn k) d : Int)) ++ ([y] ++ vs.drop (rankB (bmI m d) (digP (keyD nn k) d : Int) + 1))) := by rw [← hvs]; exact hO8
              repeat (first | exact trivial | refine stp ?_ | refine ldCg ?_ | refine ldNg ?_ | refine ldSg ?_ | refine ldSb ?_ | refine bnd ?_ | refine bnd1 ?_ | refine drawQ (by decide +kernel) mixed (by decide +kernel) ?_)
              rw [show IntKind.i64.wrap ((rankB (bmI m d) (digP (keyD nn k) d : Int) : Int) + 1) = ((rankB (bmI m d) (digP (keyD nn k) d : Int) + 1 : Nat) : Int) from by rw [w64 (by omega) (by omega)]; omega]
              refine (DelN_ok _ [y] _ (rankB (bmI m d) (digP (keyD nn k) d : Int)) vs.length (by rw [List.length_take]; omega) rfl (by rw [List.length_drop]; omega) hrl (fun u hu => hb.one u (List.mem_of_mem_drop hu)) _ w7.heap.size w8 hO8' (by omega) (by omega)).mono ?_
              rintro v9 w9 ⟨hO9, hE9, _⟩
              have hz9 := hE9.size
              obtain ⟨a9, c9, rfl⟩ := own_slice hO9
              repeat (first | exact trivial | refine stp ?_ | refine ldCg ?_ | refine ldNg ?_ | refine ldSg ?_ | refine ldSb ?_ | refine bnd ?_ | refine bnd1 ?_ | refine drawQ (by decide +kernel) mixed (by decide +kernel) ?_)
              refine (Without_ok (bmI m d) hbm (digP (keyD nn k) d) w9).mono ?_
              rintro _ w10 ⟨rfl, hE10⟩
              have hz10 := hE10.size
              rw [bm_del_drop hO hM]
              have hK10 : KeepS S w w10 := KeepS.of_ext Ext.go
              obtain ⟨hcn, hkk⟩ := kids_drop (P := fun l y => NodeAt nn (fun k => S k ∨ w.heap.size ≤ k) w10 f' (d + 1) l y) hO hh hM hvl (fun c hc => by obtain ⟨y, h1, h2⟩ := hkids c hc; exact ⟨y, h1, (h2.keep hK10).mono (fun k h => Or.inl h)⟩)
              have hvs1 : (vs.take (rankB (bmI m d) (digP (keyD nn k) d : Int)) ++ vs.drop (rankB (bmI m d) (digP (keyD nn k) d : Int) + 1)).length = vs.length - 1 := by rw [List.length_append, List.length_take, List.length_drop]; omega
              have h1v : ∀ u ∈ vs.take (rankB (bmI m d) (digP (keyD nn k) d : Int)) ++ vs.drop (rankB (bmI m d) (digP (keyD nn k) d : Int) + 1), oneCellV u = true := fun u hu => (List.mem_append.1 hu).elim (fun h => hb.one u (List.mem_of_mem_take h)) (fun h => hb.one u (List.mem_of_mem_drop h))
              generalize vs.take (rankB (bmI m d) (digP (keyD nn k) d : Int)) ++ vs.drop (rankB (bmI m d) (digP (keyD nn k) d : Int) + 1) = us at *
              rw [← hvs1] at hO9 ⊢
              repeat (first | exact trivial | refine stp ?_ | refine ldCg ?_ | refine ldNg ?_ | refine ldSg ?_ | refine ldSb ?_ | refine bnd ?_ | refine bnd1 ?_ | refine drawQ (by decide +kernel) mixed (by decide +kernel) ?_)
              exact ⟨(a9, c9, us), ⟨.go, by omega, by simp only; omega, h1v, hO9.ext .go, hkk⟩, rfl⟩
            · have hN6 := hA6.2 hM
              obtain ⟨t6, u6, rfl⟩ := hN6.iface
              obtain ⟨g, cap, rest, hge, hg, hBg, hnc, hcm, hln⟩ := hO8.open (by omega)
              obtain ⟨rfl, rfl⟩ : a8 = some ⟨g, 0, none⟩ ∧ c8 = cap := by cases hge; exact ⟨rfl, rfl⟩
              have hsp : vs ++ rest = vs.take (rankB (bmI m d) (digP (keyD nn k) d : Int)) ++ (y :: (vs.drop (rankB (bmI m d) (digP (keyD nn k) d : Int) + 1) ++ rest)) := by
                have h1 := (List.getElem?_eq_some_iff.1 hy).2
                have h2 : vs = vs.take (rankB (bmI m d) (digP (keyD nn k) d : Int)) ++ (y :: vs.drop (rankB (bmI m d) (digP (keyD nn k) d : Int) + 1)) := by rw [← h1]; simp
                rw [← List.cons_append, ← List.append_assoc, ← h2]
              rw [hsp] at hBg
              repeat (first | exact trivial | refine stp ?_ | refine ldCg ?_ | refine ldNg ?_ | refine ldSg ?_ | refine ldSb ?_ | refine bnd ?_ | refine bnd1 ?_ | refine drawQ (by decide +kernel) mixed (by decide +kernel) ?_)
              refine stAt c140 hBg (by rw [List.length_take]; omega) rfl rfl (fun w9 hP9 => ?_)
              have hz9 := hP9.size
              have hB9 := hP9.blk
              have hse : vs.take (rankB (bmI m d) (digP (keyD nn k) d : Int)) ++ (.iface t6 u6 :: (vs.drop (rankB (bmI m d) (digP (keyD nn k) d : Int) + 1) ++ rest)) = vs.set (rankB (bmI m d) (digP (keyD nn k) d : Int)) (.iface t6 u6) ++ rest := by
                rw [List.set_eq_take_append_cons_drop, if_pos hrl, List.append_assoc]
                rfl
              rw [hse] at hB9
              have hK9 : KeepS S w w9 := KeepS.of_ext Ext.go
              have hK89 : KeepS (SLt (fun k => S k ∨ w5.heap.size ≤ k) w6) w8 w9 := KeepS.put hP9 (fun h => by have := h.2; omega)
              have hN9 : NodeAt nn (fun k => S k ∨ w.heap.size ≤ k) w9 f' (d + 1) (delI (childI m d (digP (keyD nn k) d)) k) (.iface t6 u6) := ((hN6.inlt.keep (KeepS.of_ext (hE7.trans' hE8))).keep hK89).mono (fun k h => h.1.imp id (fun h => by omega))
              have hkk := kids_keep (P := fun l y => NodeAt nn (fun k => S k ∨ w.heap.size ≤ k) w9 f' (d + 1) l y) hO hh hM (fun c hc => by obtain ⟨y, h1, h2⟩ := hkids c hc; exact ⟨y, h1, (h2.keep hK9).mono (fun k h => Or.inl h)⟩) hN9
              have h1v : ∀ u ∈ vs.set (rankB (bmI m d) (digP (keyD nn k) d : Int)) (.iface t6 u6), oneCellV u = true := by
                intro u hu
                rcases List.mem_or_eq_of_mem_set hu with hu | rfl
                · exact hb.one u hu
                · rfl
              have hul : (vs.set (rankB (bmI m d) (digP (keyD nn k) d : Int)) (.iface t6 u6)).length = vs.length := List.length_set
              have hO9 : Own w9 w7.heap.size 140 1 (.slice (some ⟨g, 0, none⟩) vs.length c8) vs.length (vs.set (rankB (bmI m d) (digP (keyD nn k) d : Int)) (.iface t6 u6)) := own_mk hB9 hg (by omega) (by rw [List.length_append] at hln; omega) hnc hcm
              generalize vs.set (rankB (bmI m d) (digP (keyD nn k) d : Int)) (.iface t6 u6) = us at *
              rw [← hul] at hO9 ⊢
              have hbk := bm_del_keep hO hM
              repeat (first | exact trivial | refine stp ?_ | refine ldCg ?_ | refine ldNg ?_ | refine ldSg ?_ | refine ldSb ?_ | refine bnd ?_ | refine bnd1 ?_ | refine drawQ (by decide +kernel) mixed (by decide +kernel) ?_)
              exact ⟨(some ⟨g, 0, none⟩, c8, us), ⟨.go, by omega, by simp only; rw [hbk]; omega, h1v, hO9, hkk⟩, rfl, by rw [hbk]⟩
          · rintro ⟨a9, c9, us⟩ s9 w9 ⟨hE9, hz9, hul, h1v, hO9, hkk⟩
            simp only at hul h1v hO9 hkk
            have hMne : delI m k ≠ [] := by
              obtain ⟨y, hy, z, hz, hne⟩ := not_single hs
              intro h0
              have hall : ∀ x ∈ m, x.D = keyD nn k := fun x hx => by
                by_cases hxk : x.k = k
                · rw [hO.dig x hx, hxk]
                · have := mem_del.2 ⟨hx, hxk⟩
                  rw [h0] at this
                  cases this
              exact hne (by rw [hall y hy, hall z hz])
            have hc1 : 0 < cntB (bmI (delI m k) d) := by
              obtain ⟨y, hy⟩ := List.exists_mem_of_ne_nil _ hMne
              have := rank_lt (hasB_of (has_iff.2 ⟨y, hy, rfl⟩ : hasI (delI m k) d (digP y.D d) = true))
              omega
            obtain ⟨g9, cap9, rest9, hge9, hg9, hB9, hnc9, hcm9, hln9⟩ := hO9.open (by omega)
            obtain ⟨rfl, rfl⟩ : a9 = some ⟨g9, 0, none⟩ ∧ c9 = cap9 := by cases hge9; exact ⟨rfl, rfl⟩
            repeat (first | exact trivial | refine stp ?_ | refine ldCg ?_ | refine ldNg ?_ | refine ldSg ?_ | refine ldSb ?_ | refine bnd ?_ | refine bnd1 ?_ | refine drawQ (by decide +kernel) mixed (by decide +kernel) ?_)
            refine ⟨fun h1 => ?_, fun h1 => ?_⟩
            · obtain ⟨c1, hc1, hr1, hce⟩ := one_child (m := delI m k) (d := d) (by omega)
              obtain ⟨y1, hy1, hN1⟩ := hkk c1 hc1
              rw [hr1] at hy1
              rw [hce] at hN1
              refine ⟨by omega, ?_⟩
              refine ldCg (v := y1) ?_ (hv := by rw [List.getElem?_append_left (by omega)]; exact hy1)
              cases hsM : singleB (delI m k)
              · obtain ⟨f'', rfl⟩ : ∃ j, f' = j + 1 := by
                  cases f' with
                  | zero => unfold NodeAt at hN1; rw [hsM] at hN1; cases hN1.1
                  | succ j => exact ⟨j, rfl⟩
                obtain ⟨b10, kv10, vs10, rfl, _⟩ := (NodeAt.br hsM).1 hN1
                repeat (first | exact trivial | refine stp ?_ | refine ldCg ?_ | refine ldNg ?_ | refine ldSg ?_ | refine ldSb ?_ | refine bnd ?_ | refine bnd1 ?_ | refine drawQ (by decide +kernel) mixed (by decide +kernel) ?_)
                refine (fork_ok nn hw _ (f'' + 1) d b top _ us (delI m k) w9 (hW.ext .go) .go (SlC.of_own hO9) h1v hul hkk hOM.sorted hPM (by omega) (by omega)).mono ?_
                rintro _ w10 ⟨g10, rfl, hg10, hB10, hE10⟩
                repeat (first | exact trivial | refine stp ?_ | refine ldCg ?_ | refine ldNg ?_ | refine ldSg ?_ | refine ldSb ?_ | refine bnd ?_ | refine bnd1 ?_ | refine drawQ (by decide +kernel) mixed (by decide +kernel) ?_)
                refine ⟨brV g10, rfl, ⟨fun h => absurd h hMne, fun _ => ?_⟩, .go⟩
                rw [hf']
                exact NodeAt.mk_br hsM (Or.inr (by omega)) hB10 (SlS.of_own (hO9.ext hE10) (fun k h => Or.inr (by omega))) h1v hul (fun c hc => by obtain ⟨y, h1, h2⟩ := hkk c hc; exact ⟨y, h1, h2.ext hE10⟩)
              · obtain ⟨b10, pv10, ps10, rfl, hb10⟩ := (NodeAt.bk hsM).1 hN1
                repeat (first | exact trivial | refine stp ?_ | refine ldCg ?_ | refine ldNg ?_ | refine ldSg ?_ | refine ldSb ?_ | refine bnd ?_ | refine bnd1 ?_ | refine drawQ (by decide +kernel) mixed (by decide +kernel) ?_)
                exact ⟨bkV b10, rfl, ⟨fun h => absurd h hMne, fun _ => (NodeAt.bk hsM).2 ⟨b10, pv10, ps10, rfl, hb10⟩⟩, .go⟩
            · have hsM := two_not_single (m := delI m k) (d := d) (by omega)
              refine (fork_ok nn hw _ f' d b top _ us (delI m k) w9 (hW.ext .go) .go (SlC.of_own hO9) h1v hul hkk hOM.sorted hPM (by omega) (by omega)).mono ?_
              rintro _ w10 ⟨g10, rfl, hg10, hB10, hE10⟩
              repeat (first | exact trivial | refine stp ?_ | refine ldCg ?_ | refine ldNg ?_ | refine ldSg ?_ | refine ldSb ?_ | refine bnd ?_ | refine bnd1 ?_ | refine drawQ (by decide +kernel) mixed (by decide +kernel) ?_)
              refine ⟨brV g10, rfl, ⟨fun h => absurd h hMne, fun _ => ?_⟩, .go⟩
              rw [hf']
              exact NodeAt.mk_br hsM (Or.inr (by omega)) hB10 (SlS.of_own (hO9.ext hE10) (fun k h => Or.inr (by omega))) h1v hul (fun c hc => by obtain ⟨y, h1, h2⟩ := hkk c hc; exact ⟨y, h1, h2.ext hE10⟩)
theorem Delete_hamt_ok (n : Int) (hw : widB n = true) (S : Nat → Prop) (mv kv : Value) (m : List It) (key : List UInt8) (w : World) (hW : WordsAt w 1) (h : MapAt n S w mv m) (hO : OkI n m) (hk : SlB w kv key) (hml : m.length ≤ 900000000) :
    CallK Tryz.prog 55 [mv, kv].toArray w fun r w' => (∃ rv, r = .tuple [rv, .bool (decide (key.length ≤ 64) && (getI m key).isSome), .int .i64 (if 64 < key.length then 2 else 0 : Nat)].toArray ∧
      (64 < key.length → rv = .pointer none) ∧ (¬ 64 < key.length → MapAt n (fun k => S k ∨ w.heap.size ≤ k) w' rv (delI m key))) ∧ Ext w w' := by
  have hM0 := h.inlt
  obtain ⟨b, top, rfl, hS, hB, hT1, hT2⟩ := h
  obtain ⟨b', top', hb', hS', hB', hT1', hT2'⟩ := hM0
  have hwn := (widB_iff n).1 hw
  obtain ⟨nn, rfl⟩ : ∃ nn : Nat, n = nn := ⟨n.toNat, by omega⟩
  obtain ⟨ka, kc, rfl⟩ := slv_of hk
  cases hb'
  obtain rfl : top' = top := by
    have h1 := hB.out
    rw [hB'.out] at h1
    simpa using h1
  refine enterT Tryz.func55 rfl Tryz.ntmps55 Tryz.results55 rfl (by decide) ?_
  repeat (first | exact trivial | refine stp ?_ | refine ldCg ?_ | refine ldNg ?_ | refine ldSg ?_ | refine ldSb ?_ | refine bnd ?_ | refine bnd1 ?_ | refine drawQ (by decide +kernel) mixed (by decide +kernel) ?_)
  refine (check_hamt_ok nn b _ key _ w hW hB hk hw).mono ?_
  rintro _ w1 ⟨D, hDl, rfl, hD, hE1⟩
  have hz1 := hE1.size
  have hbl := hB.lt
  by_cases h64 : 64 < key.length
  · rw [if_pos h64, decide_eq_false (by omega), Bool.false_and]
    repeat (first | exact trivial | refine stp ?_ | refine ldCg ?_ | refine ldNg ?_ | refine ldSg ?_ | refine ldSb ?_ | refine bnd ?_ | refine bnd1 ?_ | refine drawQ (by decide +kernel) mixed (by decide +kernel) ?_)
    first | refine newS ?_ | refine newZ ?_
    intro w2 hE2 hz2 hB2
    repeat (first | exact trivial | refine stp ?_ | refine ldCg ?_ | refine ldNg ?_ | refine ldSg ?_ | refine ldSb ?_ | refine bnd ?_ | refine bnd1 ?_ | refine drawQ (by decide +kernel) mixed (by decide +kernel) ?_)
    exact ⟨⟨_, rfl, fun _ => rfl, fun h => absurd h64 h⟩, .go⟩
  obtain rfl := hD (by omega)
  rw [if_neg h64, decide_eq_true (by omega), Bool.true_and]
  repeat (first | exact trivial | refine stp ?_ | refine ldCg ?_ | refine ldNg ?_ | refine ldSg ?_ | refine ldSb ?_ | refine bnd ?_ | refine bnd1 ?_ | refine drawQ (by decide +kernel) mixed (by decide +kernel) ?_)
  first | refine newS ?_ | refine newZ ?_
  intro w2 hE2 hz2 hB2
  repeat (first | exact trivial | refine stp ?_ | refine ldCg ?_ | refine ldNg ?_ | refine ldSg ?_ | refine ldSb ?_ | refine bnd ?_ | refine bnd1 ?_)
  refine drawX (.of [0, 1, 2, 3, 4, 5, 6, 7, 8, 9, 10, 11, 12]) mixed (by decide +kernel) (fun w3 hE3 hz3 => ?_)
  repeat (first | exact trivial | refine stp ?_ | refine ldCg ?_ | refine ldNg ?_ | refine ldSg ?_ | refine ldSb ?_ | refine bnd ?_ | refine bnd1 ?_ | refine drawQ (by decide +kernel) mixed (by decide +kernel) ?_)
  refine (drop_ok nn hw (SLt S w) b _ key (by omega) 64 0 m _ _ w3 (hW.ext .go) (hB.ext .go) (AtN.ext ⟨hT1', hT2'⟩ .go) hO hO.pre (hk.ext .go) rfl hml (fun k h => by have := h.2; omega)).mono ?_
  rintro _ w4 ⟨nv, rfl, hA4, hE4⟩
  have hz4 := hE4.size
  refine toldX ?_
  have hfin : ∀ {W : World} {g : Nat}, w4.heap.size ≤ g → Ext w4 W → Blk W g 142 [.int .i64 nn, nv] → MapAt nn (fun k => S k ∨ w.heap.size ≤ k) W (.pointer (some ⟨g, 0, none⟩)) (delI m key) := by
    intro W g hg e hBg
    have hA := (hA4.ext e).mono (S' := fun k => S k ∨ w.heap.size ≤ k) (fun k h => h.elim (fun h => Or.inl h.1) (fun h => Or.inr (by omega)))
    exact ⟨g, nv, rfl, Or.inr (by omega), hBg, hA.1, hA.2⟩
  rcases hA4.cases with ⟨_, rfl⟩ | ⟨_, _, b5, _, _, rfl, _⟩ | ⟨_, _, _, b5, _, _, rfl, _⟩
  · repeat (first | exact trivial | refine stp ?_ | refine ldCg ?_ | refine ldNg ?_ | refine ldSg ?_ | refine ldSb ?_ | refine bnd ?_ | refine bnd1 ?_ | refine drawQ (by decide +kernel) mixed (by decide +kernel) ?_)
    refine bldC [.int .i64 nn, .nilIface] (by kernel_rfl) ?_
    repeat (first | exact trivial | refine stp ?_ | refine ldCg ?_ | refine ldNg ?_ | refine ldSg ?_ | refine ldSb ?_ | refine bnd ?_ | refine bnd1 ?_ | refine drawQ (by decide +kernel) mixed (by decide +kernel) ?_)
    first | refine newS ?_ | refine newZ ?_
    intro w5 hE5 hz5 hB5
    repeat (first | exact trivial | refine stp ?_ | refine ldCg ?_ | refine ldNg ?_ | refine ldSg ?_ | refine ldSb ?_ | refine bnd ?_ | refine bnd1 ?_ | refine drawQ (by decide +kernel) mixed (by decide +kernel) ?_)
    exact ⟨⟨_, rfl, fun h => absurd h h64, fun _ => hfin (Nat.le_refl _) hE5 hB5⟩, .go⟩
  · repeat (first | exact trivial | refine stp ?_ | refine ldCg ?_ | refine ldNg ?_ | refine ldSg ?_ | refine ldSb ?_ | refine bnd ?_ | refine bnd1 ?_ | refine drawQ (by decide +kernel) mixed (by decide +kernel) ?_)
    refine bldC [.int .i64 nn, bkV b5] (by kernel_rfl) ?_
    repeat (first | exact trivial | refine stp ?_ | refine ldCg ?_ | refine ldNg ?_ | refine ldSg ?_ | refine ldSb ?_ | refine bnd ?_ | refine bnd1 ?_ | refine drawQ (by decide +kernel) mixed (by decide +kernel) ?_)
    first | refine newS ?_ | refine newZ ?_
    intro w5 hE5 hz5 hB5
    repeat (first | exact trivial | refine stp ?_ | refine ldCg ?_ | refine ldNg ?_ | refine ldSg ?_ | refine ldSb ?_ | refine bnd ?_ | refine bnd1 ?_ | refine drawQ (by decide +kernel) mixed (by decide +kernel) ?_)
    exact ⟨⟨_, rfl, fun h => absurd h h64, fun _ => hfin (Nat.le_refl _) hE5 hB5⟩, .go⟩
  · repeat (first | exact trivial | refine stp ?_ | refine ldCg ?_ | refine ldNg ?_ | refine ldSg ?_ | refine ldSb ?_ | refine bnd ?_ | refine bnd1 ?_ | refine drawQ (by decide +kernel) mixed (by decide +kernel) ?_)
    refine bldC [.int .i64 nn, brV b5] (by kernel_rfl) ?_
    repeat (first | exact trivial | refine stp ?_ | refine ldCg ?_ | refine ldNg ?_ | refine ldSg ?_ | refine ldSb ?_ | refine bnd ?_ | refine bnd1 ?_ | refine drawQ (by decide +kernel) mixed (by decide +kernel) ?_)
    first | refine newS ?_ | refine newZ ?_
    intro w5 hE5 hz5 hB5
    repeat (first | exact trivial | refine stp ?_ | refine ldCg ?_ | refine ldNg ?_ | refine ldSg ?_ | refine ldSb ?_ | refine bnd ?_ | refine bnd1 ?_ | refine drawQ (by decide +kernel) mixed (by decide +kernel) ?_)
    exact ⟨⟨_, rfl, fun h => absurd h h64, fun _ => hfin (Nat.le_refl _) hE5 hB5⟩, .go⟩
end Go.Proofs.YtebbgninkbghlaaGreatDoor

/-! Hmi -/
namespace Go.Proofs.YtebbgninkbghlaaGreatDoor
set_option maxRecDepth 100000
open Go Go.RowKit
set_option linter.unusedVariables false
set_option linter.unusedSimpArgs false
set_option maxHeartbeats 1000000
attribute [local irreducible] vcT opsT qT vcOp Q1 vcPure vcLoad vcStore ldC ldN ldD grdT grdQ vc vcOps vcQ hT
attribute [local irreducible] sumR sumP shaP keyD bucketP branchP

theorem dynCap {P : Program} {g : FuncId} {args caps : Array Value} {w : World} {K : Value → World → Prop} (h : CallB P g (args ++ caps) w K) : YieldVC P (.func (.func g) #[] caps) args w K := ⟨Or.inr ⟨g, #[], caps, rfl, by simpa using h⟩⟩
theorem set_flat {m : List It} {d : Nat} (hs : SortedI m) (hp : Pre d m) (hd : d < 64) : (setB (bmI m d)).flatMap (childI m d) = m := by
  refine Eq.trans ?_ (child_flat hs hp hd)
  rw [setB_bm]
  have : ∀ l : List Nat, (l.filter (hasI m d)).flatMap (childI m d) = l.flatMap (childI m d) := by
    intro l
    induction l with
    | nil => rfl
    | cons a l ih =>
      cases h : hasI m d a
      · rw [List.filter_cons_of_neg (by simp [h]), ih, List.flatMap_cons]
        have e : childI m d a = [] := by unfold hasI at h; simpa using h
        rw [e, List.nil_append]
      · rw [List.filter_cons_of_pos h, List.flatMap_cons, List.flatMap_cons, ih]
  exact this _
/-- What a walk of all pairs has gathered: the list lies in lb, the walk itself in wb. -/
structure AccAt (W : World) (lb wb B : Nat) (qs : List PR) : Prop where
  row : ∃ a c, Blk W lb 24 [.slice a qs.length c] ∧ Own W B 47 2 (.slice a qs.length c) qs.length (qs.flatMap PR.cells)
  run : RunB W W.heap.size B (qs.flatMap prB)
  fn : Blk W wb 159 [.func (.func 105) #[] #[.pointer (some ⟨lb, 0, none⟩), .pointer (some ⟨wb, 0, none⟩)]]
  lo : lb < B ∧ wb < B ∧ lb ≠ wb ∧ B ≤ W.heap.size
theorem pairs1_ok (n : Int) (hw : widB n = true) (S : Nat → Prop) (w0 : World) (lb wb B : Nat) (hlb : w0.heap.size ≤ lb) (hwb : w0.heap.size ≤ wb) : ∀ (f d : Nat) (m : List It) (nv : Value) (qs : List PR) (w : World), AtN n S w0 f d m nv → OkI n m → Pre d m → d + f = 64 → Ext w0 w → AccAt w lb wb B qs → qs.length + m.length ≤ 1000000000 →
    CallK Tryz.prog 105 [nv, .pointer (some ⟨lb, 0, none⟩), .pointer (some ⟨wb, 0, none⟩)].toArray w fun v w' => ∃ qs', qs'.map PR.dat = m.map It.pr ∧ AccAt w' lb wb B (qs ++ qs') ∧ Ext w0 w' := by
  intro f
  induction f using Nat.strongRecOn with
  | ind f ih =>
    intro d m nv qs w hA hO hP hdf hE hacc hml
    have hz := hE.size
    rcases hA.cases with ⟨rfl, rfl⟩ | ⟨hne, hs, b4, pv, ps, rfl, hb⟩ | ⟨hs, f', hf', b4, kv4, vs, rfl, hb, hkids⟩
    · refine enterT Tryz.func105 rfl Tryz.ntmps105 Tryz.results105 rfl (by decide) ?_
      repeat (first | exact trivial | refine stp ?_ | refine ldCg ?_ | refine ldNg ?_ | refine ldSg ?_ | refine ldSb ?_ | refine bnd ?_ | refine bnd1 ?_ | refine drawQ (by decide +kernel) mixed (by decide +kernel) ?_)
      exact ⟨[], rfl, by rw [List.append_nil]; exact hacc, hE⟩
    · obtain ⟨⟨a, c, hBl, hOl⟩, hRl, hFn, hlo⟩ := hacc
      have hB4 := hb.blk
      have hhl : (vbs (headD m)).length = 32 := by rw [vbs_len]; exact headD_len (n := n) hne hO.len
      have hpl : ps.length = m.length := by have := congrArg List.length hb.dat; simpa using this
      have hpa := hb.prs.at
      obtain ⟨pa, cp, rfl⟩ := slv_of hpa.1
      have hel : ∀ p ∈ ps, p.k.length ≤ 4000000000 ∧ p.v.length ≤ 4000000000 := fun p hp => by
        obtain ⟨y, hy, he⟩ := List.mem_map.1 (hb.dat ▸ List.mem_map_of_mem (f := PR.dat) hp)
        have := hO.short y hy
        simp only [It.pr, PR.dat, Prod.mk.injEq] at he
        rw [he.1, he.2] at this
        omega
      have hB432 : (vbs (headD m) ++ [.slice pa ps.length cp] ++ vbs (bkD n m))[32]? = some (.slice pa ps.length cp) := by
        rw [List.append_assoc, List.getElem?_append_right (by omega), hhl]; rfl
      rw [List.append_assoc] at hB432
      refine enterT Tryz.func105 rfl Tryz.ntmps105 Tryz.results105 rfl (by decide) ?_
      repeat (first | exact trivial | refine stp ?_ | refine ldCg ?_ | refine ldNg ?_ | refine ldSg ?_ | refine ldSb ?_ | refine bnd ?_ | refine bnd1 ?_ | refine drawQ (by decide +kernel) mixed (by decide +kernel) ?_)
      refine drawH (fun W => Ext w0 W ∧ Blk W lb 24 [.slice a qs.length c]) [0, 1, 2, 3, 4, 5, 6, 7] mixed (by decide +kernel) (fun w1 hE1 hh => ⟨⟨hE.trans' hE1, hBl.ext hE1⟩, ?_⟩)
      have hz1 := hE1.size
      repeat (first | exact trivial | refine stp ?_ | refine ldCg ?_ | refine ldNg ?_ | refine ldSg ?_ | refine ldSb ?_ | refine bnd ?_ | refine bnd1 ?_ | refine drawQ (by decide +kernel) mixed (by decide +kernel) ?_)
      refine loadS_of (.slice a qs.length c) (fun w' h => by refine stp ?_; exact ldCg rfl h.2) ?_
      repeat (first | exact trivial | refine stp ?_ | refine ldCg ?_ | refine ldNg ?_ | refine ldSg ?_ | refine ldSb ?_ | refine bnd ?_ | refine bnd1 ?_ | refine drawQ (by decide +kernel) mixed (by decide +kernel) ?_)
      refine loadS_of (.slice pa ps.length cp) (fun w' h => by refine stp ?_; exact ldCg rfl (hB4.ext h.1) hB432) ?_
      repeat (first | exact trivial | refine stp ?_ | refine ldCg ?_ | refine ldNg ?_ | refine ldSg ?_ | refine ldSb ?_ | refine bnd ?_ | refine bnd1 ?_ | refine drawQ (by decide +kernel) mixed (by decide +kernel) ?_)
      refine (copies_ok ps _ w1 (hpa.ext .go) (by omega) hel).mono ?_
      rintro v2 w2 ⟨rs, hO2, hd2, hR2, hE2⟩
      have hz2 := hE2.size
      refine toldS ⟨.go, .go⟩ ?_
      repeat (first | exact trivial | refine stp ?_ | refine ldCg ?_ | refine ldNg ?_ | refine ldSg ?_ | refine ldSb ?_ | refine bnd ?_ | refine bnd1 ?_ | refine drawQ (by decide +kernel) mixed (by decide +kernel) ?_)
      have hrl : rs.length = ps.length := by have := congrArg List.length hd2; simpa using this
      have hOl2 := hOl.ext (hE1.trans' hE2)
      have hBl2 := hBl.ext (hE1.trans' hE2)
      refine apS (sz := 2) (n := qs.length) (m := rs.length) Tryz.underlying24 z47 c47 rfl (by decide) hOl2 (by omega) (SlC.of_own hO2) hO2.1 (fun u hu => ?_) (by omega) (by rw [by47]; omega) (fun v3 w3 hO3 hg3 => ?_)
      · obtain ⟨p, hp, hu⟩ := List.mem_flatMap.1 hu
        have h1 := (hR2.mem (p.kv, p.k) (List.mem_flatMap.2 ⟨p, hp, by simp [prB]⟩)).sl
        have h2 := (hR2.mem (p.vv, p.v) (List.mem_flatMap.2 ⟨p, hp, by simp [prB]⟩)).sl
        obtain ⟨a1, c1, e1⟩ := slv_of h1
        obtain ⟨a2, c2, e2⟩ := slv_of h2
        simp only at e1 e2
        simp only [PR.cells, List.mem_cons, List.not_mem_nil, or_false] at hu
        rcases hu with rfl | rfl
        · rw [e1]; rfl
        · rw [e2]; rfl
      have hE3 := below_of_grown hOl2 (by omega) hg3
      have hz3 := hE3.size
      have hBl3 : Blk w3 lb 24 [.slice a qs.length c] := ⟨by rw [hg3.block _ hBl2.lt (fun e => hOl2.not_blk hBl2 (by decide) e.symm)]; exact hBl2.out⟩
      have hR3 : RunB w3 w3.heap.size B ((qs ++ rs).flatMap prB) := by
        rw [List.flatMap_append]
        refine RunB.append (m := w.heap.size) (RunB.grown hOl2 (by decide) hg3 (hRl.ext (hE1.trans' hE2))) ?_
        exact RunB.append (l := []) (m := w1.heap.size) hz1 ((RunB.grown hOl2 (by decide) hg3 hR2).top hz3)
      have hF2 := hFn.ext (hE1.trans' hE2)
      have hF3 : Blk w3 wb 159 _ := ⟨by rw [hg3.block _ hF2.lt (fun e => hOl2.not_blk hF2 (by decide) e.symm)]; exact hF2.out⟩
      rw [← List.flatMap_append, ← List.length_append] at hO3
      have hd3 : rs.map PR.dat = m.map It.pr := by rw [hd2, hb.dat]
      obtain ⟨a3, c3, rfl⟩ := own_slice hO3
      have hE03 : Ext w0 w3 := .go
      refine toldS ⟨hE03, hBl3⟩ ?_
      repeat (first | exact trivial | refine stp ?_ | refine ldCg ?_ | refine ldNg ?_ | refine ldSg ?_ | refine ldSb ?_ | refine bnd ?_ | refine bnd1 ?_ | refine drawQ (by decide +kernel) mixed (by decide +kernel) ?_)
      refine stC ?_
      intro w4 hP4 hz4 hB4'
      refine toldZ ?_
      repeat (first | exact trivial | refine stp ?_ | refine ldCg ?_ | refine ldNg ?_ | refine ldSg ?_ | refine ldSb ?_ | refine bnd ?_ | refine bnd1 ?_ | refine drawQ (by decide +kernel) mixed (by decide +kernel) ?_)
      refine ⟨rs, hd3, ⟨⟨a3, c3, hB4', hO3.put hBl3 (by decide) hP4⟩, ?_, ?_, ?_⟩, ?_⟩
      · rw [hz4]; exact RunB.put hBl3 (by decide) hP4 hR3
      · have hne := hlo.2.2.1
        exact .go
      · omega
      · exact .go
    · obtain ⟨⟨a, c, hBl, hOl⟩, hRl, hFn, hlo⟩ := hacc
      have hB4 := hb.blk
      have hkv := hb.kids
      have hvl := hb.len
      have hc16 := cnt_le (bmI m d)
      obtain ⟨ka, kc, rfl⟩ := slv_of hkv.sl
      have hsl : (setB (bmI m d)).length = vs.length := by rw [hvl]; rfl
      refine enterT Tryz.func105 rfl Tryz.ntmps105 Tryz.results105 rfl (by decide) ?_
      repeat (first | exact trivial | refine stp ?_ | refine ldCg ?_ | refine ldNg ?_ | refine ldSg ?_ | refine ldSb ?_ | refine bnd ?_ | refine bnd1 ?_ | refine drawQ (by decide +kernel) mixed (by decide +kernel) ?_)
      refine loopX (ι := Nat × List PR) (fun x => [(2, .pointer (some ⟨wb, 0, none⟩)), (25, .slice ka vs.length kc), (26, .int .i64 vs.length), (27, .int .i64 x.1)])
        (fun x W => Ext w0 W ∧ x.1 ≤ vs.length ∧ x.2.map PR.dat = (((setB (bmI m d)).take x.1).flatMap (childI m d)).map It.pr ∧ AccAt W lb wb B (qs ++ x.2)) (fun x => vs.length - x.1) (0, []) ⟨hE, Nat.zero_le _, rfl, by rw [List.append_nil]; exact ⟨⟨a, c, hBl, hOl⟩, hRl, hFn, hlo⟩⟩ ?_ ?_
      · repeat (first | exact trivial | refine stp ?_ | refine ldCg ?_ | refine ldNg ?_ | refine ldSg ?_ | refine ldSb ?_ | refine bnd ?_ | refine bnd1 ?_ | refine drawQ (by decide +kernel) mixed (by decide +kernel) ?_)
      · rintro ⟨j, rs⟩ s1 w1 ⟨hE1, hj, hrd, hacc1⟩
        simp only at hj hrd hacc1
        have hz1 := hE1.size
        have hF1 := hacc1.fn
        repeat (first | exact trivial | refine stp ?_ | refine ldCg ?_ | refine ldNg ?_ | refine ldSg ?_ | refine ldSb ?_ | refine bnd ?_ | refine bnd1 ?_ | refine drawQ (by decide +kernel) mixed (by decide +kernel) ?_)
        refine ⟨fun hlt => ?_, fun hge => ?_⟩
        · obtain ⟨cj, hcj⟩ : ∃ cj, (setB (bmI m d))[j]? = some cj := ⟨_, List.getElem?_eq_getElem (by omega)⟩
          have hmem := mem_setB.1 (List.mem_of_getElem? hcj)
          rw [bmI_bit] at hmem
          have hhj : hasI m d cj = true := (Bool.and_eq_true_iff.1 hmem.2).2
          obtain ⟨x, hx, hNx⟩ := hkids cj hhj
          rw [rank_of hcj] at hx
          obtain ⟨b7, o7, rfl, hR7⟩ := vs_get hkv (by omega)
          repeat (first | exact trivial | refine stp ?_ | refine ldCg ?_ | refine ldNg ?_ | refine ldSg ?_ | refine ldSb ?_ | refine bnd ?_ | refine bnd1 ?_ | refine drawQ (by decide +kernel) mixed (by decide +kernel) ?_)
          refine ldRowF (f := fun v : Value => [v]) 0 hx ?_
          repeat (first | exact trivial | refine stp ?_ | refine ldCg ?_ | refine ldNg ?_ | refine ldSg ?_ | refine ldSb ?_ | refine bnd ?_ | refine bnd1 ?_ | refine drawQ (by decide +kernel) mixed (by decide +kernel) ?_)
          have htk : (setB (bmI m d)).take (j + 1) = (setB (bmI m d)).take j ++ [cj] := by
            obtain ⟨hil, he⟩ := List.getElem?_eq_some_iff.1 hcj
            rw [List.take_succ_eq_append_getElem hil, he]
          have hlen : rs.length + (childI m d cj).length ≤ m.length := by
            have h1 := congrArg List.length hrd
            have h2 := congrArg List.length (set_flat hO.sorted hP (by omega : d < 64))
            rw [← List.take_append_drop (j + 1) (setB (bmI m d)), List.flatMap_append, htk, List.flatMap_append, List.flatMap_cons, List.flatMap_nil, List.append_nil] at h2
            simp only [List.length_append, List.length_map] at h1 h2
            omega
          refine dynCap ((ih f' (by omega) (d + 1) (childI m d cj) x (qs ++ rs) w1 ⟨fun e => absurd e (child_ne hhj), fun _ => hNx⟩ (hO.child _ _) (hP.child _) (by omega) hE1 hacc1 (by rw [List.length_append]; omega)).mono ?_ |>.body (by kernel_rfl))
          rintro _ w2 ⟨rs', hrd', hacc2, hE2⟩
          have hz2 := hE2.size
          rw [List.append_assoc] at hacc2
          repeat (first | exact trivial | refine stp ?_ | refine ldCg ?_ | refine ldNg ?_ | refine ldSg ?_ | refine ldSb ?_ | refine bnd ?_ | refine bnd1 ?_ | refine drawQ (by decide +kernel) mixed (by decide +kernel) ?_)
          refine ⟨(j + 1, rs ++ rs'), ⟨hE2, by omega, ?_, hacc2⟩, by rw [w64 (by omega) (by omega)]; rfl, by simp only; omega⟩
          simp only
          rw [List.map_append, hrd, hrd', htk, List.flatMap_append, List.map_append, List.flatMap_cons, List.flatMap_nil, List.append_nil]
        · obtain rfl : j = vs.length := by omega
          rw [List.take_of_length_le (by omega), set_flat hO.sorted hP (by omega)] at hrd
          repeat (first | exact trivial | refine stp ?_ | refine ldCg ?_ | refine ldNg ?_ | refine ldSg ?_ | refine ldSb ?_ | refine bnd ?_ | refine bnd1 ?_ | refine drawQ (by decide +kernel) mixed (by decide +kernel) ?_)
          exact ⟨rs, hrd, hacc1, hE1⟩
theorem Pairs_hamt_ok (n : Int) (hw : widB n = true) (S : Nat → Prop) (mv : Value) (m : List It) (w : World) (h : MapAt n S w mv m) (hO : OkI n m) (hml : m.length ≤ 1000000000) :
    CallK Tryz.prog 50 [mv].toArray w fun v w' => ∃ qs : List PR, Own w' w.heap.size 47 2 v qs.length (qs.flatMap PR.cells) ∧ RunB w' w'.heap.size w.heap.size (qs.flatMap prB) ∧ qs.map PR.dat = m.map It.pr ∧ Ext w w' := by
  obtain ⟨b, top, rfl, hS, hB, hT1, hT2⟩ := h
  have hbl := hB.lt
  refine enterT Tryz.func50 rfl Tryz.ntmps50 Tryz.results50 rfl (by decide) ?_
  repeat (first | exact trivial | refine stp ?_ | refine ldCg ?_ | refine ldNg ?_ | refine ldSg ?_ | refine ldSb ?_ | refine bnd ?_ | refine bnd1 ?_ | refine drawQ (by decide +kernel) mixed (by decide +kernel) ?_)
  first | refine newS ?_ | refine newZ ?_
  intro w1 hE1 hz1 hB1
  first | refine newS ?_ | refine newZ ?_
  intro w2 hE2 hz2 hB2
  have hB2' : Blk w2 w1.heap.size 159 [.nilFunc] := hB2
  clear hB2
  refine stC ?_
  intro w3 hP3 hz3 hB3
  repeat (first | exact trivial | refine stp ?_ | refine ldCg ?_ | refine ldNg ?_ | refine ldSg ?_ | refine ldSb ?_ | refine bnd ?_ | refine bnd1 ?_)
  refine drawX (.of [0, 1, 2, 3, 4, 5]) mixed (by decide +kernel) (fun w4 hE4 hz4 => ?_)
  repeat (first | exact trivial | refine stp ?_ | refine ldCg ?_ | refine ldNg ?_ | refine ldSg ?_ | refine ldSb ?_ | refine bnd ?_ | refine bnd1 ?_ | refine drawQ (by decide +kernel) mixed (by decide +kernel) ?_)
  refine dynCap ((pairs1_ok n hw S w w.heap.size w1.heap.size w2.heap.size (Nat.le_refl _) (by omega) 64 0 m top [] w4 ⟨hT1, hT2⟩ hO hO.pre rfl .go ⟨⟨none, 0, .go, Own.nil _ _ _ _⟩, by show w2.heap.size ≤ w4.heap.size; omega, .go, by omega⟩ (by simp only [List.length_nil]; omega)).mono ?_ |>.body (by kernel_rfl))
  rintro _ w5 ⟨qs, hqd, ⟨⟨a, c, hB5, hO5⟩, hR5, _, hl5⟩, hE5⟩
  rw [List.nil_append] at hB5 hO5 hR5
  refine toldZ ?_
  repeat (first | exact trivial | refine stp ?_ | refine ldCg ?_ | refine ldNg ?_ | refine ldSg ?_ | refine ldSb ?_ | refine bnd ?_ | refine bnd1 ?_ | refine drawQ (by decide +kernel) mixed (by decide +kernel) ?_)
  exact ⟨qs, hO5.base (by omega), RunB.append (l := []) (m := w2.heap.size) (by show w.heap.size ≤ w2.heap.size; omega) hR5, hqd, hE5⟩
end Go.Proofs.YtebbgninkbghlaaGreatDoor

/-! Lpe -/
namespace Go.Proofs.YtebbgninkbghlaaGreatDoor
set_option maxRecDepth 100000
open Go Go.RowKit
set_option linter.unusedVariables false
set_option linter.unusedSimpArgs false
set_option maxHeartbeats 1000000
attribute [local irreducible] vcT opsT qT vcOp Q1 vcPure vcLoad vcStore ldC ldN ldD grdT grdQ vc vcOps vcQ hT
attribute [local irreducible] sumR sumP shaP keyD bucketP branchP

theorem oneset_eq {n : Int} {m N N' : List It} (hm : OkI n m) (hN' : OkI n N') (h1 : ∀ y ∈ m, getI N y.k = some y.v) (h2 : ∀ k, getI N' k = if getI m k = none ∧ (∃ y ∈ N, y.k = k) then none else getI N k) : N' = m := by
  refine items_ext hN' hm fun k => ?_
  rw [h2]
  cases hg : getI m k with
  | some v =>
    obtain ⟨y, hy, rfl, rfl⟩ := getI_some_mem hg
    rw [if_neg (fun h => by cases h.1), h1 y hy]
  | none =>
    by_cases h : ∃ y ∈ N, y.k = k
    · rw [if_pos ⟨rfl, h⟩]
    · rw [if_neg (fun h' => h h'.2)]
      cases hN : getI N k with
      | none => rfl
      | some v =>
        obtain ⟨y, hy, hk, _⟩ := getI_some_mem hN
        exact absurd ⟨y, hy, hk⟩ h
theorem key_once {n : Int} {m : List It} (hO : OkI n m) {i j : Nat} {y z : It} (hy : m[i]? = some y) (hz : m[j]? = some z) (h : y.k = z.k) : i = j := by
  have e := key_of hO.sorted hO.dig (List.mem_of_getElem? hy) (List.mem_of_getElem? hz) h
  obtain ⟨h1, h2⟩ := List.getElem?_eq_some_iff.1 hy
  obtain ⟨h3, h4⟩ := List.getElem?_eq_some_iff.1 hz
  have hp := List.pairwise_iff_getElem.1 hO.sorted
  rcases Nat.lt_trichotomy i j with hl | hl | hl
  · have := hp i j h1 h3 hl
    rw [h2, h4, e, (cmpIt_eq z z).2 ⟨rfl, rfl⟩] at this
    omega
  · exact hl
  · have := hp j i h3 h1 hl
    rw [h2, h4, e, (cmpIt_eq z z).2 ⟨rfl, rfl⟩] at this
    omega
theorem OneSet15_ok (n : Int) (ps os : List PR) (key : List UInt8) (pv ov kv : Value) (w : World) (hW : WordsAt w 1) (hp : PairsAt w pv ps) (ho : PairsAt w ov os) (hk : SlB w kv key) :
    CallK Tryz.prog 10 [.int .i64 n, pv, ov, kv].toArray w fun v w' => v = .bool true ∧ Ext w w' := by
  obtain ⟨ka, kc, rfl⟩ := slv_of hk
  refine enterT Tryz.func10 rfl Tryz.ntmps10 Tryz.results10 rfl (by decide) ?_
  repeat (first | exact trivial | refine stp ?_ | refine ldCg ?_ | refine ldNg ?_ | refine ldSg ?_ | refine ldSb ?_ | refine bnd ?_ | refine bnd1 ?_ | refine drawQ (by decide +kernel) mixed (by decide +kernel) ?_)
  refine (awake15_ok w hW).mono ?_
  rintro _ w1 ⟨rfl, hE1⟩
  have hz1 := hE1.size
  repeat (first | exact trivial | refine stp ?_ | refine ldCg ?_ | refine ldNg ?_ | refine ldSg ?_ | refine ldSb ?_ | refine bnd ?_ | refine bnd1 ?_ | refine drawQ (by decide +kernel) mixed (by decide +kernel) ?_)
  refine (made_ok n ps _ w1 (hW.ext .go) (hp.ext' .go)).mono ?_
  rintro _ w2 ⟨hm0, hm1, hE2⟩
  have hz2 := hE2.size
  cases hw : widB n
  · obtain rfl := hm0 hw
    repeat (first | exact trivial | refine stp ?_ | refine ldCg ?_ | refine ldNg ?_ | refine ldSg ?_ | refine ldSb ?_ | refine bnd ?_ | refine bnd1 ?_ | refine drawQ (by decide +kernel) mixed (by decide +kernel) ?_)
    refine (wide15_ok n w2).mono ?_
    rintro _ w3 ⟨rfl, hE3⟩
    have hz3 := hE3.size
    rw [hw]
    repeat (first | exact trivial | refine stp ?_ | refine ldCg ?_ | refine ldNg ?_ | refine ldSg ?_ | refine ldSb ?_ | refine bnd ?_ | refine bnd1 ?_ | refine drawQ (by decide +kernel) mixed (by decide +kernel) ?_)
    exact .go
  obtain ⟨b, lv, is, rfl, hM, hI, hy⟩ := hm1 hw
  have hwn := (widB_iff n).1 hw
  obtain ⟨nn, rfl⟩ : ∃ nn : Nat, n = nn := ⟨n.toNat, by omega⟩
  have hO := madeI_ok nn (ps.map PR.dat)
  have hL := madeI_len nn (ps.map PR.dat)
  clear hm0 hm1
  generalize madeI nn (ps.map PR.dat) = m at *
  have hil : is.length = m.length := by rw [← hy, List.length_map]
  obtain ⟨la, lc, rfl⟩ := slv_of hI.row.sl
  repeat (first | exact trivial | refine stp ?_ | refine ldCg ?_ | refine ldNg ?_ | refine ldSg ?_ | refine ldSb ?_ | refine bnd ?_ | refine bnd1 ?_ | refine drawQ (by decide +kernel) mixed (by decide +kernel) ?_)
  refine (made_ok nn os _ w2 (hW.ext .go) (ho.ext' .go)).mono ?_
  rintro _ w3 ⟨_, hm1, hE3⟩
  have hz3 := hE3.size
  obtain ⟨b3, lv3, is3, rfl, hM3, hI3, hy3⟩ := hm1 hw
  have hO3 := madeI_ok nn (os.map PR.dat)
  have hL3 := madeI_len nn (os.map PR.dat)
  clear hm1
  generalize madeI nn (os.map PR.dat) = B at *
  repeat (first | exact trivial | refine stp ?_ | refine ldCg ?_ | refine ldNg ?_ | refine ldSg ?_ | refine ldSb ?_ | refine bnd ?_ | refine bnd1 ?_ | refine drawQ (by decide +kernel) mixed (by decide +kernel) ?_)
  refine (PairsR_ok is _ w3 (hI.at.ext .go) (by omega)).mono ?_
  rintro v4 w4 ⟨hP4, hE4⟩
  have hz4 := hE4.size
  have hd4 : (is.map IR.pr).map PR.dat = m.map It.pr := by rw [pr_dat, hy]
  have hl4 : (is.map IR.pr).length = m.length := by rw [List.length_map, hil]
  generalize is.map IR.pr = ls at *
  obtain ⟨qa, qc, rfl⟩ := slv_of hP4.1
  have hlm : ∀ (i : Nat) (p : PR), ls[i]? = some p → ∃ y, m[i]? = some y ∧ y.k = p.k ∧ y.v = p.v := fun i p hi => by
    have h3 := congrArg (·[i]?) hd4
    simp only [List.getElem?_map, hi, Option.map_some] at h3
    cases hy : m[i]? with
    | none => rw [hy] at h3; cases h3
    | some y =>
      rw [hy] at h3
      simp only [Option.map_some, Option.some.injEq, PR.dat, It.pr, Prod.mk.injEq] at h3
      exact ⟨y, rfl, h3.1.symm, h3.2.symm⟩
  repeat (first | exact trivial | refine stp ?_ | refine ldCg ?_ | refine ldNg ?_ | refine ldSg ?_ | refine ldSb ?_ | refine bnd ?_ | refine bnd1 ?_ | refine drawQ (by decide +kernel) mixed (by decide +kernel) ?_)
  refine loopX (ι := Nat × Nat × List It) (fun x => [(3, .slice ka key.length kc), (9, .pointer (some ⟨b, 0, none⟩)), (11, .pointer (some ⟨x.2.1, 0, none⟩)), (13, .slice qa ls.length qc), (53, .slice qa ls.length qc), (54, .int .i64 ls.length), (55, .int .i64 x.1)])
    (fun x W => Ext w4 W ∧ x.1 ≤ ls.length ∧ MapAt nn (fun _ => True) W (.pointer (some ⟨x.2.1, 0, none⟩)) x.2.2 ∧ OkI nn x.2.2 ∧ x.2.2.length ≤ 80 + x.1 ∧ ∀ j p, ls.length - x.1 ≤ j → ls[j]? = some p → getI x.2.2 p.k = some p.v) (fun x => ls.length - x.1) (0, b3, B) ⟨.go, Nat.zero_le _, (hM3.ext .go).mono (fun _ _ => trivial), hO3, hL3, fun j p hj hp => by have := (List.getElem?_eq_some_iff.1 hp).1; simp only at hj; omega⟩ ?_ ?_
  · repeat (first | exact trivial | refine stp ?_ | refine ldCg ?_ | refine ldNg ?_ | refine ldSg ?_ | refine ldSb ?_ | refine bnd ?_ | refine bnd1 ?_ | refine drawQ (by decide +kernel) mixed (by decide +kernel) ?_)
  · rintro ⟨i, bi, N⟩ s5 w5 ⟨hE5, hi, hM5, hO5, hL5, hg5⟩
    simp only at hi hM5 hO5 hL5 hg5
    have hz5 := hE5.size
    repeat (first | exact trivial | refine stp ?_ | refine ldCg ?_ | refine ldNg ?_ | refine ldSg ?_ | refine ldSb ?_ | refine bnd ?_ | refine bnd1 ?_ | refine drawQ (by decide +kernel) mixed (by decide +kernel) ?_)
    refine ⟨fun hlt => ?_, fun hge => ?_⟩
    · obtain ⟨pb, po, rfl, hR⟩ := pr_row hP4.1 (by omega)
      obtain ⟨p, hx⟩ : ∃ x, ls[ls.length - 1 - i]? = some x := ⟨_, List.getElem?_eq_getElem (by omega)⟩
      obtain ⟨hpk, hpv⟩ := hP4.2 _ (List.mem_of_getElem? hx)
      obtain ⟨y, hym, hyk, hyv⟩ := hlm _ _ hx
      have hsh := hO.short y (List.mem_of_getElem? hym)
      obtain ⟨kv', vv', k, v⟩ := p
      simp only at hpk hpv hyk hyv
      obtain ⟨ka', kc', rfl⟩ := slv_of hpk
      obtain ⟨va', vc', rfl⟩ := slv_of hpv
      rw [hyk, hyv] at hsh
      rw [w64 (n := (ls.length : Int) - 1) (by omega) (by omega), w64 (by omega) (by omega)]
      repeat (first | exact trivial | refine stp ?_ | refine ldCg ?_ | refine ldNg ?_ | refine ldSg ?_ | refine ldSb ?_ | refine bnd ?_ | refine bnd1 ?_ | refine drawQ (by decide +kernel) mixed (by decide +kernel) ?_)
      refine ldPair (i := ls.length - 1 - i) hx ?_ (hq := by rw [show ((ls.length : Int) - 1 - i).toNat = ls.length - 1 - i from by omega])
      repeat (first | exact trivial | refine stp ?_ | refine ldCg ?_ | refine ldNg ?_ | refine ldSg ?_ | refine ldSb ?_ | refine bnd ?_ | refine bnd1 ?_ | refine drawQ (by decide +kernel) mixed (by decide +kernel) ?_)
      first | refine newS ?_ | refine newZ ?_
      intro w6 hE6 hz6 hB6
      repeat (first | exact trivial | refine stp ?_ | refine ldCg ?_ | refine ldNg ?_ | refine ldSg ?_ | refine ldSb ?_ | refine bnd ?_ | refine bnd1 ?_ | refine drawQ (by decide +kernel) mixed (by decide +kernel) ?_)
      have hc : ¬ (64 < k.length ∨ 256 < v.length) := by omega
      refine (Put_hamt_ok nn hw _ _ _ _ N k v w6 (hW.ext .go) (hM5.ext .go) hO5 (hpk.ext .go) (hpv.ext .go) (by omega)).mono ?_
      rintro _ w7 ⟨⟨rv, rfl, _, hM7⟩, hE7⟩
      have hz7 := hE7.size
      replace hM7 := (hM7 hc).mono (S' := fun _ => True) (fun _ _ => trivial)
      obtain ⟨b7, rfl⟩ : ∃ b, rv = .pointer (some ⟨b, 0, none⟩) := by obtain ⟨b, _, rfl, _⟩ := hM7; exact ⟨b, rfl⟩
      rw [if_neg hc]
      have hO7 : OkI nn (putI N ⟨keyD nn k, k, v⟩) := hO5.put rfl ⟨hsh.1, hsh.2⟩
      have hL7 : (putI N ⟨keyD nn k, k, v⟩).length ≤ N.length + 1 := putI_len _ _
      repeat (first | exact trivial | refine stp ?_ | refine ldCg ?_ | refine ldNg ?_ | refine ldSg ?_ | refine ldSb ?_ | refine bnd ?_ | refine bnd1 ?_ | refine drawQ (by decide +kernel) mixed (by decide +kernel) ?_)
      refine ⟨(i + 1, b7, putI N ⟨keyD nn k, k, v⟩), ⟨.go, by simp only; omega, hM7, hO7, by simp only; omega, fun j p hj hp => ?_⟩, ⟨rfl, by rw [w64 (by omega) (by omega)]; rfl⟩, by simp only; omega⟩
      simp only at hj
      rw [getI_put hO5 rfl]
      by_cases hkk : k = p.k
      · rw [if_pos hkk]
        obtain ⟨z, hzm, hzk, hzv⟩ := hlm _ _ hp
        have := key_of hO.sorted hO.dig (List.mem_of_getElem? hym) (List.mem_of_getElem? hzm) (by rw [hyk, hzk, hkk])
        subst this
        rw [← hzv, ← hyv]
      · rw [if_neg hkk]
        refine hg5 j p ?_ hp
        rcases Nat.lt_or_ge j (ls.length - i) with h | h
        · obtain rfl : j = ls.length - 1 - i := by omega
          rw [hx] at hp
          cases hp
          exact absurd rfl hkk
        · exact h
    · obtain rfl : i = ls.length := by omega
      have hN1 : ∀ y ∈ m, getI N y.k = some y.v := fun y hy => by
        obtain ⟨j, hj⟩ := List.getElem?_of_mem hy
        obtain ⟨p, hp⟩ : ∃ p, ls[j]? = some p := ⟨_, List.getElem?_eq_getElem (by rw [hl4]; exact (List.getElem?_eq_some_iff.1 hj).1)⟩
        obtain ⟨z, hz, hzk, hzv⟩ := hlm j p hp
        rw [hj] at hz
        cases hz
        rw [hzk, hzv]
        exact hg5 j p (by omega) hp
      refine (Pairs_hamt_ok nn hw _ _ N w5 hM5 hO5 (by omega)).mono ?_
      rintro v6 w6 ⟨qs, hO6, hR6, hd6, hE6⟩
      have hz6 := hE6.size
      have hP6 := PairsAt.ofRun hO6 hR6
      obtain ⟨na, nc, rfl⟩ := own_slice hO6
      have hql : qs.length = N.length := by have := congrArg List.length hd6; simpa using this
      repeat (first | exact trivial | refine stp ?_ | refine ldCg ?_ | refine ldNg ?_ | refine ldSg ?_ | refine ldSb ?_ | refine bnd ?_ | refine bnd1 ?_ | refine drawQ (by decide +kernel) mixed (by decide +kernel) ?_)
      refine loopX (ι := Nat × Nat × List It) (fun x => [(3, .slice ka key.length kc), (9, .pointer (some ⟨b, 0, none⟩)), (11, .pointer (some ⟨x.2.1, 0, none⟩)), (84, .slice na qs.length nc), (85, .int .i64 qs.length), (86, .int .i64 x.1)])
        (fun x W => Ext w6 W ∧ x.1 ≤ qs.length ∧ MapAt nn (fun _ => True) W (.pointer (some ⟨x.2.1, 0, none⟩)) x.2.2 ∧ OkI nn x.2.2 ∧ x.2.2.length ≤ 160 ∧ ∀ k, getI x.2.2 k = if getI m k = none ∧ (∃ y ∈ N.take x.1, y.k = k) then none else getI N k) (fun x => qs.length - x.1) (0, bi, N) ⟨.go, Nat.zero_le _, hM5.ext .go, hO5, by simp only; omega, fun k => by simp⟩ ?_ ?_
      · repeat (first | exact trivial | refine stp ?_ | refine ldCg ?_ | refine ldNg ?_ | refine ldSg ?_ | refine ldSb ?_ | refine bnd ?_ | refine bnd1 ?_ | refine drawQ (by decide +kernel) mixed (by decide +kernel) ?_)
      · rintro ⟨j, bj, Q⟩ s7 w7 ⟨hE7, hj, hM7, hO7, hL7, hg7⟩
        simp only at hj hM7 hO7 hL7 hg7
        have hz7 := hE7.size
        repeat (first | exact trivial | refine stp ?_ | refine ldCg ?_ | refine ldNg ?_ | refine ldSg ?_ | refine ldSb ?_ | refine bnd ?_ | refine bnd1 ?_ | refine drawQ (by decide +kernel) mixed (by decide +kernel) ?_)
        refine ⟨fun hlt => ?_, fun hge2 => ?_⟩
        · obtain ⟨pb, po, rfl, hR⟩ := pr_row hP6.1 (by omega)
          obtain ⟨q, hx⟩ : ∃ x, qs[j]? = some x := ⟨_, List.getElem?_eq_getElem (by omega)⟩
          obtain ⟨hqk, hqv⟩ := hP6.2 _ (List.mem_of_getElem? hx)
          obtain ⟨y, hym, hyk⟩ : ∃ y, N[j]? = some y ∧ y.k = q.k := by
            have h3 := congrArg (·[j]?) hd6
            simp only [List.getElem?_map, hx, Option.map_some] at h3
            cases hy : N[j]? with
            | none => rw [hy] at h3; cases h3
            | some y =>
              rw [hy] at h3
              simp only [Option.map_some, Option.some.injEq, PR.dat, It.pr, Prod.mk.injEq] at h3
              exact ⟨y, rfl, h3.1.symm⟩
          have hsh := hO5.short y (List.mem_of_getElem? hym)
          have htk : N.take (j + 1) = N.take j ++ [y] := by
            obtain ⟨h1, h2⟩ := List.getElem?_eq_some_iff.1 hym
            rw [List.take_succ_eq_append_getElem h1, h2]
          have hno : ¬ ∃ z ∈ N.take j, z.k = y.k := by
            rintro ⟨z, hz, hzk⟩
            obtain ⟨i', hi'⟩ := List.getElem?_of_mem hz
            rw [List.getElem?_take] at hi'
            split at hi'
            · have := key_once hO5 hi' hym hzk
              omega
            · cases hi'
          have hgN := getI_mem hO5 (List.mem_of_getElem? hym)
          have hgQ : getI Q y.k = some y.v := by rw [hg7, if_neg (fun h => hno h.2), hgN]
          obtain ⟨kv', vv', k, v⟩ := q
          simp only at hqk hqv hyk
          obtain ⟨ka', kc', rfl⟩ := slv_of hqk
          obtain ⟨va', vc', rfl⟩ := slv_of hqv
          rw [hyk] at hsh hgQ hno
          repeat (first | exact trivial | refine stp ?_ | refine ldCg ?_ | refine ldNg ?_ | refine ldSg ?_ | refine ldSb ?_ | refine bnd ?_ | refine bnd1 ?_ | refine drawQ (by decide +kernel) mixed (by decide +kernel) ?_)
          refine ldPair hx ?_
          repeat (first | exact trivial | refine stp ?_ | refine ldCg ?_ | refine ldNg ?_ | refine ldSg ?_ | refine ldSb ?_ | refine bnd ?_ | refine bnd1 ?_ | refine drawQ (by decide +kernel) mixed (by decide +kernel) ?_)
          first | refine newS ?_ | refine newZ ?_
          intro w8 hE8 hz8 hB8
          repeat (first | exact trivial | refine stp ?_ | refine ldCg ?_ | refine ldNg ?_ | refine ldSg ?_ | refine ldSb ?_ | refine bnd ?_ | refine bnd1 ?_ | refine drawQ (by decide +kernel) mixed (by decide +kernel) ?_)
          refine (Get_hamt_ok nn hw _ _ _ m k w8 (hW.ext .go) (hM.ext .go) hO (hqk.ext .go) (by omega)).mono ?_
          rintro _ w9 ⟨gv, rfl, hR9, hE9⟩
          have hz9 := hE9.size
          have hc64 : ¬ 64 < k.length := by omega
          rw [if_neg hc64] at hR9
          obtain ⟨ga, gc, rfl⟩ := own_slice hR9.own
          rw [if_neg hc64]
          have hsimp : decide (k.length ≤ 64) = true := decide_eq_true (by omega)
          rw [hsimp, Bool.true_and]
          cases hgm : getI m k with
          | some v' =>
            rw [show (some v').isSome = true from rfl]
            repeat (first | exact trivial | refine stp ?_ | refine ldCg ?_ | refine ldNg ?_ | refine ldSg ?_ | refine ldSb ?_ | refine bnd ?_ | refine bnd1 ?_ | refine drawQ (by decide +kernel) mixed (by decide +kernel) ?_)
            refine ⟨(j + 1, bj, Q), ⟨.go, by simp only; omega, hM7.ext .go, hO7, hL7, fun k' => ?_⟩, ⟨rfl, by rw [w64 (by omega) (by omega)]; rfl⟩, by simp only; omega⟩
            simp only
            rw [hg7, htk]
            by_cases h1 : getI m k' = none ∧ ∃ z ∈ N.take j, z.k = k'
            · rw [if_pos h1, if_pos ⟨h1.1, by obtain ⟨z, hz, hzk⟩ := h1.2; exact ⟨z, List.mem_append_left _ hz, hzk⟩⟩]
            · rw [if_neg h1, if_neg]
              rintro ⟨h2, z, hz, hzk⟩
              rcases List.mem_append.1 hz with hz | hz
              · exact h1 ⟨h2, z, hz, hzk⟩
              · rw [List.mem_singleton] at hz
                subst hz
                rw [← hzk, hyk, hgm] at h2
                cases h2
          | none =>
            rw [show (none : Option (List UInt8)).isSome = false from rfl]
            repeat (first | exact trivial | refine stp ?_ | refine ldCg ?_ | refine ldNg ?_ | refine ldSg ?_ | refine ldSb ?_ | refine bnd ?_ | refine bnd1 ?_ | refine drawQ (by decide +kernel) mixed (by decide +kernel) ?_)
            refine (Delete_hamt_ok nn hw _ _ _ Q k w9 (hW.ext .go) (hM7.ext .go) hO7 (hqk.ext .go) (by omega)).mono ?_
            rintro _ w10 ⟨⟨rv, rfl, _, hr2⟩, hE10⟩
            have hz10 := hE10.size
            have hM10 := (hr2 hc64).mono (S' := fun _ => True) (fun _ _ => trivial)
            clear hr2
            obtain ⟨b10, rfl⟩ : ∃ b, rv = .pointer (some ⟨b, 0, none⟩) := by obtain ⟨b, _, rfl, _⟩ := hM10; exact ⟨b, rfl⟩
            rw [if_neg hc64, hgQ, hsimp, show (true && (some y.v).isSome) = true from rfl]
            have hLd : (delI Q k).length ≤ Q.length := List.length_filter_le _ _
            repeat (first | exact trivial | refine stp ?_ | refine ldCg ?_ | refine ldNg ?_ | refine ldSg ?_ | refine ldSb ?_ | refine bnd ?_ | refine bnd1 ?_ | refine drawQ (by decide +kernel) mixed (by decide +kernel) ?_)
            refine ⟨(j + 1, b10, delI Q k), ⟨.go, by simp only; omega, hM10, hO7.del k, by simp only; omega, fun k' => ?_⟩, ⟨rfl, by rw [w64 (by omega) (by omega)]; rfl⟩, by simp only; omega⟩
            simp only
            rw [getI_del, hg7, htk]
            by_cases hkk : k = k'
            · subst hkk
              rw [if_pos rfl, if_pos ⟨hgm, y, by simp, hyk⟩]
            · rw [if_neg hkk]
              by_cases h1 : getI m k' = none ∧ ∃ z ∈ N.take j, z.k = k'
              · rw [if_pos h1, if_pos ⟨h1.1, by obtain ⟨z, hz, hzk⟩ := h1.2; exact ⟨z, List.mem_append_left _ hz, hzk⟩⟩]
              · rw [if_neg h1, if_neg]
                rintro ⟨h2, z, hz, hzk⟩
                rcases List.mem_append.1 hz with hz | hz
                · exact h1 ⟨h2, z, hz, hzk⟩
                · rw [List.mem_singleton] at hz
                  subst hz
                  exact hkk (by rw [← hyk, hzk])
        · obtain rfl : j = qs.length := by omega
          rw [hql, List.take_length] at hg7
          obtain rfl : Q = m := oneset_eq hO hO7 hN1 hg7
          refine (Prove_hproof_ok nn hw _ _ _ Q key w7 (hW.ext .go) (hM.ext .go) hO (hk.ext .go) (by omega)).mono ?_
          rintro _ w8 ⟨sv, qv, tt, rs, rfl, hOs, hRk, hOp, hRb, htd, hqd, hE8⟩
          have hz8 := hE8.size
          have hSt := hRk.stepsAt hOs
          have hPr := PairsAt.ofRun hOp hRb
          obtain ⟨sa, sc, rfl⟩ := own_slice hOs
          obtain ⟨ra, rc, rfl⟩ := own_slice hOp
          repeat (first | exact trivial | refine stp ?_ | refine ldCg ?_ | refine ldNg ?_ | refine ldSg ?_ | refine ldSb ?_ | refine bnd ?_ | refine bnd1 ?_ | refine drawQ (by decide +kernel) mixed (by decide +kernel) ?_)
          first | refine newS ?_ | refine newZ ?_
          intro w9 hE9 hz9 hB9
          repeat (first | exact trivial | refine stp ?_ | refine ldCg ?_ | refine ldNg ?_ | refine ldSg ?_ | refine ldSb ?_ | refine bnd ?_ | refine bnd1 ?_ | refine drawQ (by decide +kernel) mixed (by decide +kernel) ?_)
          refine (Prove_hproof_ok nn hw _ _ _ Q key w9 (hW.ext .go) (hM7.ext .go) hO (hk.ext .go) (by omega)).mono ?_
          rintro _ w10 ⟨sv', qv', tt', rs', rfl, hOs', hRk', hOp', hRb', htd', hqd', hE10⟩
          have hz10 := hE10.size
          have hSt' := hRk'.stepsAt hOs'
          have hPr' := PairsAt.ofRun hOp' hRb'
          obtain ⟨sa', sc', rfl⟩ := own_slice hOs'
          obtain ⟨ra', rc', rfl⟩ := own_slice hOp'
          repeat (first | exact trivial | refine stp ?_ | refine ldCg ?_ | refine ldNg ?_ | refine ldSg ?_ | refine ldSb ?_ | refine bnd ?_ | refine bnd1 ?_ | refine drawQ (by decide +kernel) mixed (by decide +kernel) ?_)
          first | refine newS ?_ | refine newZ ?_
          intro w11 hE11 hz11 hB11
          repeat (first | exact trivial | refine stp ?_ | refine ldCg ?_ | refine ldNg ?_ | refine ldSg ?_ | refine ldSb ?_ | refine bnd ?_ | refine bnd1 ?_ | refine drawQ (by decide +kernel) mixed (by decide +kernel) ?_)
          refine (Same15_ok _ _ (tt.map SR.dt) (tt.map SR.dt) (rs.map PR.dat) (rs.map PR.dat) w11 ⟨_, _, tt, rs, rfl, hSt.ext' .go, hPr.ext' .go, rfl, rfl⟩ ⟨_, _, tt', rs', rfl, hSt'.ext' .go, hPr'.ext' .go, by rw [htd', htd], by rw [hqd', hqd]⟩).mono ?_
          rintro _ w12 ⟨rfl, hE12⟩
          have hz12 := hE12.size
          rw [show decide (tt.map SR.dt = tt.map SR.dt ∧ rs.map PR.dat = rs.map PR.dat) = true from decide_eq_true ⟨rfl, rfl⟩]
          repeat (first | exact trivial | refine stp ?_ | refine ldCg ?_ | refine ldNg ?_ | refine ldSg ?_ | refine ldSb ?_ | refine bnd ?_ | refine bnd1 ?_ | refine drawQ (by decide +kernel) mixed (by decide +kernel) ?_)
          refine (Root_hamt_ok nn _ _ Q w12 (hW.ext .go) (hM.ext .go) hO.len).mono ?_
          rintro _ w13 ⟨rfl, hE13⟩
          have hz13 := hE13.size
          repeat (first | exact trivial | refine stp ?_ | refine ldCg ?_ | refine ldNg ?_ | refine ldSg ?_ | refine ldSb ?_ | refine bnd ?_ | refine bnd1 ?_ | refine drawQ (by decide +kernel) mixed (by decide +kernel) ?_)
          refine (Root_hamt_ok nn _ _ Q w13 (hW.ext .go) (hM7.ext .go) hO.len).mono ?_
          rintro _ w14 ⟨rfl, hE14⟩
          have hz14 := hE14.size
          have hrl : (rootD nn Q).length = 32 := by unfold rootD; split; exact sumR_len _ _; exact nodeD_len _ _ _ _
          repeat (first | exact trivial | refine stp ?_ | refine ldCg ?_ | refine ldNg ?_ | refine ldSg ?_ | refine ldSb ?_ | refine bnd ?_ | refine bnd1 ?_ | refine drawQ (by decide +kernel) mixed (by decide +kernel) ?_)
          refine eqd_lit _ _ _ _ _ _ Tryz.underlying5 c5 hrl hrl ?_
          rw [decide_eq_true (rfl : rootD nn Q = rootD nn Q)]
          repeat (first | exact trivial | refine stp ?_ | refine ldCg ?_ | refine ldNg ?_ | refine ldSg ?_ | refine ldSb ?_ | refine bnd ?_ | refine bnd1 ?_ | refine drawQ (by decide +kernel) mixed (by decide +kernel) ?_)
          exact .go
end Go.Proofs.YtebbgninkbghlaaGreatDoor

/-! Row -/
namespace Go.Proofs.YtebbgninkbghlaaGreatDoor
set_option maxRecDepth 100000
open Go Go.RowKit Go.ChangeShapes Go.WideShapes Go.ChangeAt
set_option linter.unusedVariables false
set_option linter.unusedSimpArgs false

/-- Each of the types can be read and is a row of the table. -/
def rowedT (P : Program) (ts : List TypeId) : Bool := ts.all fun t => P.readableRec t && decide (t < P.types.size)

theorem below_trodAll {H : Type} {enc : TypeId × Value → H} {P : Program} (hl : laidOutB P = true) {W W' : World} (hb : Below W.heap.size W W') :
    ∀ {ts : List TypeId} {vs : List Value} {ds : List (DataW H)} {ps : List MemPlace}, rowedT P ts = true → DataW.TrodAll enc P W 0 (fun _ => true) true ts vs ds ps → (∀ x ∈ ps, x.block < W.heap.size) → DataW.TrodAll enc P W' 0 (fun b => decide (b < W.heap.size)) true ts vs ds ps
  | [], [], [], _, _, h, _ => h
  | [], _ :: _, _, _, _, h, _ => by simp [DataW.TrodAll] at h
  | [], [], _ :: _, _, _, h, _ => by simp [DataW.TrodAll] at h
  | _ :: _, [], _, _, _, h, _ => by simp [DataW.TrodAll] at h
  | _ :: _, _ :: _, [], _, _, h, _ => by simp [DataW.TrodAll] at h
  | t :: ts, v :: vs, d :: ds, ps, hr, h, hlt => by
    obtain ⟨p, q, h1, h2, rfl⟩ := h
    simp only [rowedT, List.all_cons, Bool.and_eq_true, decide_eq_true_eq] at hr
    refine ⟨p, q, Below.trod hl hr.1.1 hr.1.2 h1 hb (fun x hx => hlt x (by simp [hx])), below_trodAll hl hb (by simpa [rowedT] using hr.2) h2 (fun x hx => hlt x (by simp [hx])), rfl⟩

/-- What a law's row asks of the end, given what the walk says: true, and nothing old has turned. -/
theorem law_post {H : Type} {enc : TypeId × Value → H} {P : Program} (hl : laidOutB P = true) {f : Func} {s : ChangeSpec} {tb : TypeId} (hr : f.resultTypes = #[tb]) (hb : P.underlying tb = some .bool)
    (hp : rowedT P f.params.toList = true) (hv : s.vars = []) {W W' : World} {args : Array Value} {ds gs : List (DataW H)} {before : List MemPlace}
    (hW : DataW.Whole enc P f.params.toList s.vars false W args.toList ds gs before)
    (hfn : (s.fn H (ds ++ gs)).results = [.lit (.bool true)] ∧ (s.fn H (ds ++ gs)).args = ds ∧ (s.fn H (ds ++ gs)).vars = gs) (hE : Ext W W') :
    s.post enc P f false true false false W args (.bool true) W' := by
  have hW' := hW
  obtain ⟨p, q, hA, hV, rfl, hfz, hnd⟩ := hW
  refine ⟨ds, gs, p ++ q, [], p, q, hW', ?_, ?_, ?_, hE.frame _, fun h => by cases h⟩
  · rw [hfn.1, hr]
    exact trodAll_cons_mk (shut_bool hb _) trodAll_mk0
  · rw [hfn.2.1]
    exact below_trodAll hl hE hp hA (fun x hx => by simpa using hW'.lt x (by simp [hx]))
  · rw [hfn.2.2]
    rw [hv] at hV ⊢
    obtain ⟨rfl, rfl⟩ := trodVars_none hV
    rfl

theorem CallK.toCalls {P : Program} {f : FuncId} {args : Array Value} {w : World} (h : CallK P f args w fun v w' => v = .bool true ∧ Ext w w') (hb : callable P f = true) : Calls P f args w fun e w' => e = .returned (.bool true) ∧ Ext w w' :=
  (h.body hb).calls.mono fun e w' ⟨v, he, hv, hE⟩ => ⟨by rw [he, hv], hE⟩

/-! ### Arguments opened -/
theorem wf_bounds {k : IntKind} {n : Int} (h : (Lit.int k n).wf = true) : k.min ≤ n ∧ n ≤ k.max := by
  simpa [Lit.wf] using h
theorem cells_u8 {H : Type} {enc : TypeId × Value → H} {P : Program} {w : World} {base : Nat} {sp : Nat → Bool} {held : Bool} {fuel e : Nat} {c : List Value} {x : DataW H × List MemPlace} (he : P.underlying e = some (.int .u8))
    (h : DataW.trod enc P w base sp held fuel e c = some x) : ∃ b : UInt8, c = [vb b] := by
  obtain ⟨n, h1, hx, hw⟩ := DataW.trod_int he h
  have hb := wf_bounds hw
  simp [IntKind.min, IntKind.max, IntKind.signed, IntKind.bits] at hb
  refine ⟨UInt8.ofNat n.toNat, ?_⟩
  rw [h1]
  simp only [vb, UInt8.toNat_ofNat', List.cons.injEq, and_true]
  rw [Nat.mod_eq_of_lt (by omega), Int.toNat_of_nonneg hb.1]

theorem open_num {H : Type} {enc : TypeId × Value → H} {P : Program} {w : World} {base b0 : Nat} {r : Reach} {sp : Nat → Bool} {held : Bool} {t : Nat} {k : IntKind} {v : Value} {d : DataW H} {ps : List MemPlace} (ht : P.underlying t = some (.int k))
    (hval : Value.okWide P w r b0 t v) (hd : DataW.Trod enc P w base sp held t v d ps) : ∃ n : Int, v = .int k n ∧ k.min ≤ n ∧ n ≤ k.max := by
  obtain ⟨n, rfl, _, _, h⟩ := open_int ht hval hd
  exact ⟨n, rfl, wf_bounds h⟩

theorem list_of {α : Type} {p : Nat → α → Prop} : ∀ n, (∀ i, i < n → ∃ x, p i x) → ∃ l : List α, l.length = n ∧ ∀ i x, l[i]? = some x → p i x
  | 0, _ => ⟨[], rfl, by simp⟩
  | n + 1, h => by
    obtain ⟨l, hl, hp⟩ := list_of n (fun i hi => h i (by omega))
    obtain ⟨x, hx⟩ := h n (by omega)
    refine ⟨l ++ [x], by simp [hl], fun i y hy => ?_⟩
    by_cases hi : i < n
    · rw [List.getElem?_append_left (by omega)] at hy; exact hp i y hy
    · rw [List.getElem?_append_right (by omega)] at hy
      have : i - l.length = 0 := by
        rcases Nat.eq_zero_or_pos (i - l.length) with h0 | h0
        · exact h0
        · rw [List.getElem?_eq_none (by simp; omega)] at hy; cases hy
      have e : i = n := by omega
      rw [this] at hy
      simp at hy
      rw [e, ← hy]; exact hx
theorem flat_inv {α : Type} {f : α → List Value} {sz : Nat} (hz : 0 < sz) : ∀ (ds : List α) (j : Nat) (u : Value), (∀ d ∈ ds, (f d).length = sz) → (ds.flatMap f)[j]? = some u → ∃ d, ds[j / sz]? = some d ∧ (f d)[j % sz]? = some u
  | [], j, u, _, h => by simp at h
  | x :: ds, j, u, hs, h => by
    have hx : (f x).length = sz := hs x (by simp)
    simp only [List.flatMap_cons] at h
    by_cases hj : j < sz
    · rw [List.getElem?_append_left (by omega)] at h
      exact ⟨x, by rw [Nat.div_eq_of_lt hj]; rfl, by rw [Nat.mod_eq_of_lt hj]; exact h⟩
    · rw [List.getElem?_append_right (by omega), hx] at h
      obtain ⟨d, h1, h2⟩ := flat_inv hz ds (j - sz) u (fun d hd => hs d (by simp [hd])) h
      refine ⟨d, ?_, ?_⟩
      · rw [Nat.div_eq_sub_div hz (by omega)]; exact h1
      · rw [show j % sz = (j - sz) % sz from by rw [Nat.mod_eq_sub_mod (by omega)]]; exact h2

end Go.Proofs.YtebbgninkbghlaaGreatDoor

/-! RowU -/
namespace Go.Proofs.YtebbgninkbghlaaGreatDoor
set_option maxRecDepth 100000
open Go Go.RowKit Go.ChangeShapes Go.WideShapes Go.ChangeAt
set_option linter.unusedVariables false
set_option linter.unusedSimpArgs false

/-! ### Bulk -/
theorem bulk_one {H : Type} (d : DataW H) : 1 ≤ Rows.uptoBulk d := by
  cases d with
  | lit l => cases l <;> simp [Rows.uptoBulk]
  | nil => simp [Rows.uptoBulk]
  | ptr d => simp [Rows.uptoBulk]
  | slice elems spare => simp [Rows.uptoBulk]
  | agg parts => simp [Rows.uptoBulk]
  | iface t d => simp [Rows.uptoBulk]
  | map entries => simp [Rows.uptoBulk]
  | held h => simp [Rows.uptoBulk]
theorem bulk_mem {H : Type} {d : DataW H} {l : List (DataW H)} (h : d ∈ l) : Rows.uptoBulk d ≤ Rows.uptoBulkAll l := by
  induction l with
  | nil => cases h
  | cons x r ih =>
    simp only [Rows.uptoBulkAll]
    cases List.mem_cons.1 h with
    | inl e => subst e; omega
    | inr e => have := ih e; omega
theorem bulk_len {H : Type} (l : List (DataW H)) : l.length ≤ Rows.uptoBulkAll l := by
  induction l with
  | nil => simp [Rows.uptoBulkAll]
  | cons x r ih => have := bulk_one x; simp only [Rows.uptoBulkAll, List.length_cons]; omega
theorem bulk_agg {H : Type} {d : DataW H} {l : List (DataW H)} (h : d ∈ l) : Rows.uptoBulk d ≤ Rows.uptoBulk (.agg l) := by
  have := bulk_mem h
  simp only [Rows.uptoBulk]
  omega
/-! ### Lists opened, wherever they lie -/
section opened
variable {H : Type} {enc : TypeId × Value → H} {w : World} {sp : Nat → Bool} {fuel : Nat} {cs : List Value} {x : DataW H × List MemPlace}
theorem open_slb {α : Type} {f : α → List Value} {q : Nat → α → Prop} {P : Program} {t e sz : Nat} (ht : P.underlying t = some (.slice e)) (hsz : P.cellsOf e = sz) (hz : 0 < sz) (hq : ∀ m n a, m ≤ n → q m a → q n a)
    (hel : ∀ n cs x, DataW.trod enc P w 0 sp true n e cs = some x → ∃ a, f a = cs ∧ q (Rows.uptoBulk x.1) a) (hf : DataW.trod enc P w 0 sp true fuel t cs = some x) :
    ∃ (v : Value) (l : List α), cs = [v] ∧ (∀ a ∈ l, (f a).length = sz) ∧ SlC w v l.length (l.flatMap f) ∧ l.length ≤ Rows.uptoBulk x.1 ∧ ∀ a ∈ l, q (Rows.uptoBulk x.1) a := by
  rcases Go.Deep.open_slice ht hf with ⟨h1, h2⟩ | ⟨a, len, cap, m, n, D, Pl, h1, hb, hlc, hcm, hmm, hx, hall⟩
  · exact ⟨_, [], h1, by simp, ⟨none, 0, rfl, Nat.le_refl _, by decide, Or.inl rfl⟩, by simp, by simp⟩
  · have hlm : len ≤ m := by rw [hmm]; split <;> omega
    have hcm' : cap ≤ 9223372036854775807 := by simpa [maxLen] using hcm
    have hD : ∀ i, i < len → Rows.uptoBulk (D i) ≤ Rows.uptoBulk x.1 := by
      intro i hi
      rw [hx]
      simp only [Rows.uptoBulk]
      have := bulk_mem (d := D i) (l := (List.range len).map D) (List.mem_map.2 ⟨i, by simpa using hi, rfl⟩)
      omega
    have hlen : len ≤ Rows.uptoBulk x.1 := by
      rw [hx]
      simp only [Rows.uptoBulk]
      have := bulk_len ((List.range len).map D)
      simp at this
      omega
    by_cases h0 : len = 0
    · subst h0
      exact ⟨_, [], h1, by simp, ⟨_, cap, rfl, Nat.zero_le _, hcm', Or.inl rfl⟩, by simp, by simp⟩
    · obtain ⟨b, o, s⟩ := a
      have hspot : s = none := by
        obtain ⟨cs', hc, _⟩ := hall 0 (by omega)
        obtain ⟨_, hlen', hcell⟩ := World.cells?_some hc
        have h3 := hcell 0 (by omega)
        rw [hsz] at h3 hlen'
        cases s with
        | none => rfl
        | some s =>
          exfalso
          have h4 : w.cell? ⟨b, o, some s⟩ = cs'[0]? := by
            have : ((⟨b, o, some s⟩ : Addr).add (0 * sz)).add 0 = ⟨b, o, some s⟩ := by simp [Addr.add]
            rw [← this]
            exact h3
          rw [List.getElem?_eq_getElem (by omega)] at h4
          simp only [World.cell?] at h4
          split at h4 <;> simp at h4
      subst hspot
      obtain ⟨l, hl, hp⟩ := list_of (p := fun i (y : α) => (f y).length = sz ∧ (∀ k u, (f y)[k]? = some u → w.cell? ⟨b, o + (i * sz + k), none⟩ = some u) ∧ q (Rows.uptoBulk x.1) y) len (fun i hi => by
        obtain ⟨cs', hc, ht2⟩ := hall i (by omega)
        obtain ⟨y, rfl, hqy⟩ := hel _ _ _ ht2
        obtain ⟨_, hlen', hcell⟩ := World.cells?_some hc
        rw [hsz] at hlen' hcell
        refine ⟨y, hlen', fun k u hk => ?_, hq _ _ _ (hD i hi) hqy⟩
        have hk' : k < sz := by rw [← hlen']; exact (List.getElem?_eq_some_iff.1 hk).1
        have h5 := hcell k hk'
        rw [addr_add, addr_add, hk] at h5
        rwa [Nat.add_assoc] at h5)
      subst h1
      refine ⟨_, l, rfl, fun y hy => ?_, ⟨_, cap, by rw [hl], by omega, hcm', Or.inr ⟨b, o, rfl, fun j u hj => ?_⟩⟩, by omega, fun y hy => ?_⟩
      · obtain ⟨i, hi⟩ := List.getElem?_of_mem hy
        exact (hp i y hi).1
      · obtain ⟨y, h1, h2⟩ := flat_inv hz l j u (fun y hy => by obtain ⟨i, hi⟩ := List.getElem?_of_mem hy; exact (hp i y hi).1) hj
        have := (hp _ y h1).2.1 _ u h2
        rwa [show j / sz * sz + j % sz = j from by rw [Nat.mul_comm]; exact Nat.div_add_mod j sz] at this
      · obtain ⟨i, hi⟩ := List.getElem?_of_mem hy
        exact (hp i y hi).2.2
theorem vb_flat (l : List UInt8) : l.flatMap (fun b => [vb b]) = vbs l := by
  induction l with
  | nil => rfl
  | cons a l ih => simp only [List.flatMap_cons, ih]; rfl
theorem in_bytes (hf : DataW.trod enc Tryz.prog w 0 sp true fuel 22 cs = some x) : ∃ v xs, cs = [v] ∧ SlB w v xs ∧ xs.length ≤ Rows.uptoBulk x.1 := by
  obtain ⟨v, l, h1, _, h3, h4, _⟩ := open_slb (f := fun b => [vb b]) (q := fun _ _ => True) Tryz.underlying22 c5 (by decide) (fun _ _ _ _ h => h) (fun m cs x h => by obtain ⟨y, rfl⟩ := cells_u8 Tryz.underlying5 h; exact ⟨y, rfl, trivial⟩) hf
  rw [vb_flat] at h3
  exact ⟨v, l, h1, h3, h4⟩
theorem in_pair (hf : DataW.trod enc Tryz.prog w 0 sp true fuel 47 cs = some x) : ∃ p : PR, p.cells = cs ∧ SlB w p.kv p.k ∧ SlB w p.vv p.v ∧ p.k.length ≤ Rows.uptoBulk x.1 ∧ p.v.length ≤ Rows.uptoBulk x.1 := by
  obtain ⟨y0, y1, n, rfl, hl, h0, h1⟩ := trod_struct2 Tryz.underlying47 hf
  rw [c47] at hl
  simp only [c22] at h0 h1
  obtain ⟨u, xs, e0, hu, hb0⟩ := in_bytes h0
  obtain ⟨v, ys, e1, hv, hb1⟩ := in_bytes h1
  refine ⟨⟨u, v, xs, ys⟩, ?_, hu, hv, Nat.le_trans hb0 (bulk_agg (by simp)), Nat.le_trans hb1 (bulk_agg (by simp))⟩
  match cs, hl with
  | [a, b], _ =>
    simp at e0 e1
    simp only [PR.cells, e0, e1]
theorem in_pairs (hf : DataW.trod enc Tryz.prog w 0 sp true fuel 24 cs = some x) : ∃ v ps, cs = [v] ∧ PairsAt w v ps ∧ ps.length ≤ Rows.uptoBulk x.1 ∧ ∀ p ∈ ps, p.k.length ≤ Rows.uptoBulk x.1 ∧ p.v.length ≤ Rows.uptoBulk x.1 := by
  obtain ⟨v, l, h1, h2, h3, h4, h5⟩ := open_slb (f := PR.cells) (q := fun m p => SlB w p.kv p.k ∧ SlB w p.vv p.v ∧ p.k.length ≤ m ∧ p.v.length ≤ m) Tryz.underlying24 c47 (by decide) (fun m n a h g => ⟨g.1, g.2.1, Nat.le_trans g.2.2.1 h, Nat.le_trans g.2.2.2 h⟩) (fun m cs x h => by obtain ⟨s, e, g⟩ := in_pair h; exact ⟨s, e, g⟩) hf
  exact ⟨v, l, h1, ⟨h3, fun s hs => ⟨(h5 s hs).1, (h5 s hs).2.1⟩⟩, h4, fun s hs => (h5 s hs).2.2⟩

end opened

end Go.Proofs.YtebbgninkbghlaaGreatDoor

/-! RowW -/
namespace Go.Proofs.YtebbgninkbghlaaGreatDoor
set_option maxRecDepth 100000
open Go Go.RowKit Go.ChangeShapes Go.WideShapes Go.ChangeAt
set_option linter.unusedVariables false
set_option linter.unusedSimpArgs false

section opened
variable {H : Type} {enc : TypeId × Value → H} {w : World} {sp : Nat → Bool} {r : Reach} {b0 : Nat} {v : Value} {d : DataW H} {p : List MemPlace}
theorem open_bsb (hval : Value.okWide Tryz.prog w r b0 22 v) (hd : DataW.Trod enc Tryz.prog w 0 sp true 22 v d p) : ∃ xs, SlB w v xs ∧ xs.length ≤ Rows.uptoBulk d := by
  obtain ⟨a0, len0, cap0, rfl⟩ := okWide_slice Tryz.underlying22 hval
  obtain ⟨fuel, hf⟩ := hd
  obtain ⟨u, xs, h1, h2, h3⟩ := in_bytes hf
  simp [Value.cells] at h1
  subst h1
  exact ⟨xs, h2, h3⟩
theorem open_prs (hval : Value.okWide Tryz.prog w r b0 24 v) (hd : DataW.Trod enc Tryz.prog w 0 sp true 24 v d p) : ∃ ps, PairsAt w v ps ∧ ps.length ≤ Rows.uptoBulk d ∧ ∀ q ∈ ps, q.k.length ≤ Rows.uptoBulk d ∧ q.v.length ≤ Rows.uptoBulk d := by
  obtain ⟨a0, len0, cap0, rfl⟩ := okWide_slice Tryz.underlying24 hval
  obtain ⟨fuel, hf⟩ := hd
  obtain ⟨u, ps, h1, h2, h3⟩ := in_pairs hf
  simp [Value.cells] at h1
  subst h1
  exact ⟨ps, h2, h3⟩
end opened

/-! ### The table -/
theorem gTab : Tryz.prog.globalNamed "notary/sha.words" = some 1 := by kernel_rfl
theorem gTabType : (Tryz.prog.globals[1]?).map (·.type) = some 241 := by kernel_rfl
theorem tab_eq {H : Type} : (Rows.laid_notary_sha_words : DataW H) = Lib.tabData .u32 (KW.map fun x => (x.toNat : Int)) := by kernel_rfl
theorem words_of {W : World} (h : laidMetH Tryz.prog [("notary/sha.words", Rows.laid_notary_sha_words)] W) : WordsAt W 1 := by
  have h' : laidMetH Tryz.prog [("notary/sha.words", Lib.tabData .u32 (KW.map fun x => (x.toNat : Int)))] W := by
    rw [← tab_eq]
    exact h
  have ht := Lib.tabIs_of_head (rest := []) gTab gTabType Tryz.underlying241 Tryz.underlying221 c221 c241 h'
  intro j hj
  have hc := ht.cell gTab j (by rw [List.length_map]; exact hj)
  rw [hc]
  have hl : j < KW.length := hj
  simp only [vw, List.getD_eq_getElem?_getD, List.getElem?_map, List.getElem?_eq_getElem hl, Option.map_some, Option.getD_some]

end Go.Proofs.YtebbgninkbghlaaGreatDoor
