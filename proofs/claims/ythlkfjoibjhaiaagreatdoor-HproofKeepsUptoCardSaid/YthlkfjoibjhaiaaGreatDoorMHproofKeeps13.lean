/-
  Package notaryref01, memory.go: behind, mark, Spare, Kept, Over, grow, marked. Conditions: as stated in each theorem. Package notaryref01, memory.go: Apart. Conditions: as stated in each theorem. What stays when blocks of one type are written; Apart of lists that are known with their bytes; a row's cells around one of them. Conditions: as stated in each theorem. Lists of byte lists. Conditions: as stated in each theorem. Regions that draw their order, with forks of three. Conditions: as stated in each theorem. Package notarylaw15: bytes, HproofKeeps. Conditions: as stated in each theorem. The frame of the rows: a law's row out of its walk, whatever its parameters; digests and numbers opened. Conditions: none; plain lemmas. The frame of rows that list the table and bound the bulk: questions (structs with lists of structs) opened, with their sizes; the table out of the row's list. Conditions: none; plain lemmas. The frame of rows: parameters opened; the table of SHA-256. Conditions: none; plain lemmas.
-/
import Derived.Test.YthlkfjoibjhaiaaGreatDoorMHproofKeeps11
import Derived.Test.YthlkfjoibjhaiaaGreatDoorMHproofKeeps12
import Derived.Test.YthlkfjoibjhaiaaGreatDoorMHproofKeeps10
import Derived.Test.YthlkfjoibjhaiaaGreatDoorMHproofKeeps7
import Derived.Deep.Slices
import Derived.Lib.LaidTab
import Derived.Lib.SmallJoins
import Derived.Test.YthlkfjoibjhaiaaGreatDoorMHproofKeeps8
/-! Apa -/
namespace Go.Proofs.YthlkfjoibjhaiaaGreatDoor
set_option maxRecDepth 100000
set_option maxHeartbeats 2000000
open Go Go.RowKit
set_option linter.unusedVariables false
set_option linter.unusedSimpArgs false
set_option maxHeartbeats 1000000
attribute [local irreducible] vcT opsT qT vcOp Q1 vcPure vcLoad vcStore ldC ldN ldD grdT grdQ vc vcOps vcQ hT
attribute [local irreducible] sumR sumP shaP keyD bucketP branchP

/-- An integer, cut to a byte. -/
def u8of (x : Int) : UInt8 := UInt8.ofNat (IntKind.u8.wrap x).toNat
theorem u8of_eq (x : Int) : IntKind.u8.wrap x = ((u8of x).toNat : Int) := by
  have h : 0 ≤ IntKind.u8.wrap x ∧ IntKind.u8.wrap x < 256 := by
    have e : IntKind.u8.wrap x = x % 256 := by simp [IntKind.wrap, IntKind.signed, IntKind.bits]
    rw [e]
    exact ⟨Int.emod_nonneg _ (by decide), Int.emod_lt_of_pos _ (by decide)⟩
  unfold u8of
  rw [UInt8.toNat_ofNat', Nat.mod_eq_of_lt (by omega)]
  omega
/-- The mark of the list i at the place j. -/
def markP (r i j : Int) : UInt8 := u8of (if r = 0 then IntKind.i64.wrap (IntKind.i64.wrap (IntKind.i64.wrap (101 * i) + IntKind.i64.wrap (59 * j)) + 17) else
  IntKind.i64.wrap (IntKind.i64.wrap (IntKind.i64.wrap (IntKind.i64.wrap (IntKind.i64.wrap (IntKind.i64.wrap (i + 1) * IntKind.i64.wrap (j + 3)) * 29) + IntKind.i64.wrap (i * 7)) + IntKind.i64.wrap (j.tdiv 5)) + 3))
/-- The mark at the place j of spare room. -/
def behindP (j : Int) : UInt8 := u8of (IntKind.i64.wrap (IntKind.i64.wrap (IntKind.i64.wrap (IntKind.i64.wrap (j * j) * 3) + IntKind.i64.wrap (j * 7)) + 91))
theorem mark_ok (r i j : Int) (w : World) : CallK Tryz.prog 115 [.int .i64 r, .int .i64 i, .int .i64 j].toArray w fun v w' => v = .int .u8 (markP r i j).toNat ∧ Ext w w' := by
  refine enterT Tryz.func115 rfl Tryz.ntmps115 Tryz.results115 rfl (by decide) ?_
  repeat (first | exact trivial | refine stpg ?_)
  refine ⟨fun h => ⟨?_, Ext.rfl' _⟩, fun h => ⟨?_, Ext.rfl' _⟩⟩
  · rw [u8of_eq]; unfold markP; rw [if_pos h]
  · rw [u8of_eq]; unfold markP; rw [if_neg h]
theorem behind_ok (j : Int) (w : World) : CallK Tryz.prog 105 [.int .i64 j].toArray w fun v w' => v = .int .u8 (behindP j).toNat ∧ Ext w w' := by
  refine enterT Tryz.func105 rfl Tryz.ntmps105 Tryz.results105 rfl (by decide) ?_
  repeat (first | exact trivial | refine stpg ?_)
  exact ⟨u8of_eq _, Ext.rfl' _⟩
/-- Marks from the place a on. -/
def marksL (r i : Int) (a n : Nat) : List UInt8 := (List.range' a n).map fun j => markP r i (j : Nat)
theorem marksL_len (r i : Int) (a n : Nat) : (marksL r i a n).length = n := by simp [marksL]
theorem marksL_snoc (r i : Int) (a n : Nat) : marksL r i a (n + 1) = marksL r i a n ++ [markP r i ((a + n : Nat) : Int)] := by
  unfold marksL
  rw [List.range'_1_concat, List.map_append]
  rfl
theorem marksL_app (r i : Int) (a n m : Nat) : marksL r i a n ++ marksL r i (a + n) m = marksL r i a (n + m) := by
  unfold marksL
  rw [← List.map_append, List.range'_append_1]
theorem marksL_get (r i : Int) (a n j : Nat) (h : j < n) : (marksL r i a n)[j]? = some (markP r i ((a + j : Nat) : Int)) := by
  unfold marksL
  rw [List.getElem?_map, List.getElem?_range' h]
  simp
def behindL (n : Nat) : List UInt8 := (List.range n).map fun j => behindP (j : Nat)
theorem behindL_len (n : Nat) : (behindL n).length = n := by simp [behindL]
theorem behindL_snoc (n : Nat) : behindL (n + 1) = behindL n ++ [behindP (n : Int)] := by
  unfold behindL
  rw [List.range_succ, List.map_append]
  rfl
theorem Spare_ok (p : List UInt8) (pv : Value) (w : World) (hp : SlB w pv p) (hl : p.length ≤ 4000000000) :
    CallK Tryz.prog 17 [pv].toArray w fun v w' => ∃ g c, v = .tuple [.slice (some ⟨g, 0, none⟩) p.length c, .slice (some ⟨g, 0, none⟩) (p.length + 40) c].toArray ∧
      Own w' w.heap.size 5 1 (.slice (some ⟨g, 0, none⟩) (p.length + 40) c) (p.length + 40) (vbs (p ++ behindL 40)) ∧ Ext w w' := by
  obtain ⟨pa, pc, rfl⟩ := slv_of hp
  refine enterT Tryz.func17 rfl Tryz.ntmps17 Tryz.results17 rfl (by decide) ?_
  repeat (first | exact trivial | refine stpg ?_)
  rw [w64 (by omega) (by omega), show (p.length : Int) + 40 = ((p.length + 40 : Nat) : Int) from by omega]
  refine mkS (l := 0) (c := p.length + 40) Tryz.underlying22 z5 rfl c5 (Nat.zero_le _) (by rw [by5]; omega) (by omega) (fun w1 hN1 => ?_)
  have hE1 := hN1.ext
  have hz1 := hN1.size
  have hO1 : Own w1 w.heap.size 5 1 (.slice (some ⟨w.heap.size, 0, none⟩) 0 (p.length + 40)) 0 [] := own_mk (xs := []) hN1.blk (Nat.le_refl _) rfl (by simp) (Nat.zero_le _) (by omega)
  repeat (first | exact trivial | refine stpg ?_)
  refine apS (sz := 1) (n := 0) (m := p.length) Tryz.underlying22 z5 c5 rfl (by decide) hO1 (by omega) (hp.ext hE1) (by rw [vbs_len, Nat.mul_one]) (vbs_one _) (by omega) (by rw [by5]; omega) (fun v2 w2 hO2 hg2 => ?_)
  have hE2 := below_of_grown hO1 (by omega) hg2
  have hz2 := hE2.size
  have hE02 : Ext w w2 := hE1.trans hE2
  rw [Nat.zero_add, List.nil_append] at hO2
  obtain ⟨a2, c2, rfl⟩ := own_slice hO2
  clear hE1 hE2
  repeat (first | exact trivial | refine stpg ?_)
  refine loopX (ι := Nat × Option Addr × Nat) (fun x => [(0, .slice pa p.length pc), (4, .slice x.2.1 (p.length + x.1) x.2.2), (5, .int .i64 x.1)])
    (fun x W => Ext w W ∧ w.heap.size ≤ W.heap.size ∧ x.1 ≤ 40 ∧ Own W w.heap.size 5 1 (.slice x.2.1 (p.length + x.1) x.2.2) (p.length + x.1) (vbs (p ++ behindL x.1))) (fun x => 40 - x.1) (0, a2, c2) ⟨.go, by omega, Nat.zero_le _, by simpa [behindL] using hO2⟩ ?_ ?_
  · repeat (first | exact trivial | refine stpg ?_)
  · rintro ⟨j, a, c⟩ s3 w3 ⟨hE3, hz3, hj, hO3⟩
    simp only at hj hO3
    repeat (first | exact trivial | refine stpg ?_)
    refine ⟨fun hlt => ?_, fun hge => ?_⟩
    · refine (behind_ok j w3).mono ?_
      rintro _ w4 ⟨rfl, hE4⟩
      have hz4 := hE4.size
      repeat (first | exact trivial | refine stpg ?_)
      refine ⟨rfl, rfl, ?_⟩
      first | refine newS ?_ | refine newZ ?_
      intro w5 hE5 hz5 hB5
      have hO5 := hO3.ext (w' := w5) .go
      refine apS (sz := 1) (n := p.length + j) (m := 1) (news := vbs [behindP (j : Int)]) Tryz.underlying22 z5 c5 rfl (by decide) hO5 (by omega) (SlC.of_blk hB5 (by decide)) rfl (vbs_one _) (by omega) (by rw [by5]; omega) (fun v6 w6 hO6 hg6 => ?_)
      have hE6 := below_of_grown hO5 (by omega) hg6
      have hz6 := hE6.size
      have e : vbs (p ++ behindL j) ++ vbs [behindP (j : Int)] = vbs (p ++ behindL (j + 1)) := by rw [behindL_snoc]; simp [vbs]
      rw [e, Nat.add_assoc] at hO6
      obtain ⟨a6, c6, rfl⟩ := own_slice hO6
      repeat (first | exact trivial | refine stpg ?_)
      exact ⟨(j + 1, a6, c6), ⟨.go, by omega, by simp only; omega, hO6⟩, ⟨rfl, by rw [w64 (by omega) (by omega)]; rfl⟩, by simp only; omega⟩
    · obtain rfl : j = 40 := by omega
      obtain ⟨g, cap, rest, he, hgb, hBg, hnc, hcm, hrl⟩ := hO3.open (by omega)
      injection he with he1 _ he3
      subst he1 he3
      repeat (first | exact trivial | refine stpg ?_)
      intro a' ha
      obtain ⟨o', rfl, ho⟩ := ha g 0 rfl
      obtain rfl : o' = 0 := by have := ho (by omega); simpa using this
      exact ⟨g, c, by rw [show ((p.length : Int) - 0).toNat = p.length from by omega, show ((c : Int) - 0).toNat = c from by omega], hO3, hE3⟩
/-- The slice of the first part of one's own row. -/
theorem Own.head {w : World} {base e sz n m g c : Nat} {xs ys : List Value} (h : Own w base e sz (.slice (some ⟨g, 0, none⟩) (n + m) c) (n + m) (xs ++ ys)) (hl : xs.length = n * sz) : Own w base e sz (.slice (some ⟨g, 0, none⟩) n c) n xs := Own.front h hl (by simp)
theorem Kept_ok (full p : List UInt8) (fv pv : Value) (w : World) (hf : SlB w fv full) (hp : SlB w pv p) (hfl : full = p ++ behindL 40) (hl : p.length ≤ 4000000000) :
    CallK Tryz.prog 22 [fv, pv].toArray w fun v w' => v = .bool true ∧ Ext w w' := by
  obtain ⟨pa, pc, rfl⟩ := slv_of hp
  obtain ⟨fa, fc, rfl⟩ := slv_of hf
  have hfn : full.length = p.length + 40 := by rw [hfl, List.length_append, behindL_len]
  have htk : full.take p.length = p := by rw [hfl]; exact List.take_left
  have hgt : ∀ j, j < 40 → full.getD (p.length + j) 0 = behindP (j : Int) := by
    intro j hj
    rw [hfl, List.getD_eq_getElem?_getD, List.getElem?_append_right (by omega), Nat.add_sub_cancel_left]
    unfold behindL
    rw [List.getElem?_map, List.getElem?_range hj]
    rfl
  have hfc : full.length ≤ fc := by obtain ⟨_, _, e, h1, _⟩ := hf; cases e; exact h1
  obtain ⟨fb, fo, rfl, hR⟩ := hf.rowB (by omega)
  refine enterT Tryz.func22 rfl Tryz.ntmps22 Tryz.results22 rfl (by decide) ?_
  repeat (first | exact trivial | refine stpg ?_)
  rw [w64 (by omega) (by omega)]
  refine ⟨fun h => absurd (by omega) h, fun _ => ?_⟩
  repeat (first | exact trivial | refine stpg ?_)
  intro a' ha
  obtain ⟨o', rfl, ho⟩ := ha fb fo rfl
  rw [show ((p.length : Int) - 0).toNat = p.length from by omega, show ((fc : Int) - 0).toNat = fc from by omega]
  have hp' : SlB w (.slice (some ⟨fb, o', none⟩) p.length fc) p := by
    refine ⟨_, _, rfl, by omega, by obtain ⟨_, _, e, _, h2, _⟩ := hf; cases e; exact h2, Or.inr ⟨fb, o', rfl, fun j u hj => ?_⟩⟩
    rw [ho (by omega)]
    have hjl : j < p.length := by have := (List.getElem?_eq_some_iff.1 hj).1; rwa [vbs_len] at this
    have h1 := hR.cell j (by omega)
    have h2 : (vbs full)[j]? = (vbs p)[j]? := by rw [hfl]; simp only [vbs, List.map_append]; rw [List.getElem?_append_left (by rw [List.length_map]; exact hjl)]
    rw [← hj, ← h2, vbs_get (by omega), ← h1]
    congr 1
  refine (Same_ok p p _ _ w hp' hp).mono ?_
  rintro _ w1 ⟨rfl, hE1⟩
  have hz1 := hE1.size
  rw [decide_eq_true (rfl : p = p)]
  repeat (first | exact trivial | refine stpg ?_)
  refine loopX (ι := Nat) (fun i => [(0, .slice (some ⟨fb, fo, none⟩) full.length fc), (1, .slice pa p.length pc), (5, .int .i64 i)]) (fun i W => Ext w W ∧ i ≤ 40) (fun i => 40 - i) 0 ⟨.go, Nat.zero_le _⟩ ?_ ?_
  · repeat (first | exact trivial | refine stpg ?_)
  · rintro i s2 w2 ⟨hE2, hi⟩
    have hz2 := hE2.size
    repeat (first | exact trivial | refine stpg ?_)
    refine ⟨fun hlt => ?_, fun hge => ?_⟩
    · repeat (first | exact trivial | refine stpg ?_)
      rw [w64 (n := (p.length : Int) + i) (by omega) (by omega), show ((p.length : Int) + i).toNat = p.length + i from by omega]
      refine ⟨by omega, by omega, ?_⟩
      refine ldByte (xs := full) (i := p.length + i) ?_ .go rfl (by omega)
      rw [hgt i (by omega)]
      repeat (first | exact trivial | refine stpg ?_)
      refine qcall _ (fun w' hw' => behind_ok (i : Int) w') ?_
      repeat (first | exact trivial | refine stpg ?_)
      intro w3 hE3
      exact ⟨i + 1, ⟨.go, by omega⟩, by rw [w64 (by omega) (by omega)]; rfl, by omega⟩
    · exact .go
theorem vbs_app (a b : List UInt8) : vbs (a ++ b) = vbs a ++ vbs b := by simp [vbs]
theorem vbs_setA (us : List UInt8) (rest : List Value) (i : Nat) (y : UInt8) (h : i < us.length) : (vbs us ++ rest).set i (.int .u8 y.toNat) = vbs (us.set i y) ++ rest := by
  rw [List.set_append_left _ _ (by rw [vbs_len]; exact h)]
  unfold vbs
  rw [List.map_set]
  rfl
theorem Over_ok (xs : List UInt8) (v : Value) (base : Nat) (w : World) (hO : Own w base 5 1 v xs.length (vbs xs)) (hl : xs.length ≤ 9000000000) :
    CallK Tryz.prog 32 [v].toArray w fun r w' => r = .tuple [].toArray ∧ ∃ ys : List UInt8, ys.length = xs.length ∧ Own w' base 5 1 v xs.length (vbs ys) ∧ Below base w w' ∧ OnlyBy v w w' := by
  obtain ⟨a, c, rfl⟩ := own_slice hO
  refine enterT Tryz.func32 rfl Tryz.ntmps32 Tryz.results32 rfl (by decide) ?_
  repeat (first | exact trivial | refine stpg ?_)
  refine loopX (ι := Nat × List UInt8) (fun x => [(0, .slice a xs.length c), (4, .int .i64 xs.length), (5, .int .i64 x.1)])
    (fun x W => x.1 ≤ xs.length ∧ x.2.length = xs.length ∧ Own W base 5 1 (.slice a xs.length c) xs.length (vbs x.2) ∧ Below base w W ∧ OnlyBy (.slice a xs.length c) w W) (fun x => xs.length - x.1) (0, xs) ⟨Nat.zero_le _, rfl, hO, Below.refl _ _, OnlyBy.refl _ _⟩ ?_ ?_
  · repeat (first | exact trivial | refine stpg ?_)
  · rintro ⟨i, us⟩ s1 w1 ⟨hi, hul, hO1, hE1, hB1⟩
    simp only at hi hul hO1
    repeat (first | exact trivial | refine stpg ?_)
    refine ⟨fun hlt => ?_, fun hge => ?_⟩
    · obtain ⟨g, cap, rest, he, hgb, hBg, hnc, hcm, hrl⟩ := hO1.open (by omega)
      injection he with he1 _ he3
      subst he1 he3
      repeat (first | exact trivial | refine stpg ?_)
      refine ldCg (hv := by rw [List.getElem?_append_left (by rw [vbs_len]; omega)]; exact vbs_get (by omega)) ?_
      repeat (first | exact trivial | refine stpg ?_)
      obtain ⟨y, hy⟩ : ∃ y : UInt8, IntKind.u8.wrap (IntKind.u8.wrap (IntKind.u8.wrap (((us.getD i 0).toNat : Int) * 3) + IntKind.u8.wrap (i : Int)) + 85) = (y.toNat : Int) := ⟨_, u8of_eq _⟩
      rw [hy]
      refine stV (by rfl) hBg rfl rfl (by rw [List.length_append, vbs_len]; omega) (fun w2 hP2 => ?_)
      have hB2 := hP2.blk
      have hz2 := hP2.size
      rw [vbs_setA _ _ _ _ (by omega)] at hB2
      repeat (first | exact trivial | refine stpg ?_)
      exact ⟨(i + 1, us.set i y), ⟨by simp only; omega, by simp only [List.length_set]; exact hul, own_mk hB2 hgb (by rw [vbs_len, List.length_set, hul, Nat.mul_one]) (by rw [List.length_append, vbs_len] at hrl; omega) hnc hcm, hE1.trans (hP2.below hgb), fun k T l hk hB => hP2.keep (hB1 k T l hk hB) (fun e => hk (by simp [Value.ownBlock, e]))⟩, by rw [w64 (by omega) (by omega)]; rfl, by simp only; omega⟩
    · repeat (first | exact trivial | refine stpg ?_)
      exact ⟨us, hul, hO1, hE1, hB1⟩
/-- grow: its list still tells its bytes; what it was grown to bears marks behind them, in its block or in a younger one. -/
theorem grow_ok (r i : Int) (st : Nat) (cnt : Nat) (hst : st = 1 ∧ cnt = 24 ∨ st = 24 ∧ cnt = 24 ∨ st = 90 ∧ cnt = 90) (xs : List UInt8) (v : Value) (base : Nat) (w : World) (hO : Own w base 5 1 v xs.length (vbs xs)) (hb : base ≤ w.heap.size) (hl : xs.length ≤ 9000000000) :
    CallK Tryz.prog 116 [v, .int .i64 r, .int .i64 i, .int .i64 st].toArray w fun u w' => (∃ a c, u = .slice a (xs.length + cnt) c) ∧ Own w' base 5 1 u (xs.length + cnt) (vbs (xs ++ marksL r i xs.length cnt)) ∧ GrH w w' base 5 1 v u xs.length cnt (vbs xs) ∧ OnlyBy v w w' ∧ Below base w w' := by
  obtain ⟨a, c, rfl⟩ := own_slice hO
  have htop : ∀ q, (Value.slice a xs.length c).ownBlock = some q → q < w.heap.size := hO.top
  have hxl : (vbs xs).length = xs.length * 1 := by rw [vbs_len, Nat.mul_one]
  refine enterT Tryz.func116 rfl Tryz.ntmps116 Tryz.results116 rfl (by decide) ?_
  repeat (first | exact trivial | refine stpg ?_)
  refine ⟨fun h1 => ?_, fun h1 => ?_⟩
  · obtain ⟨rfl, rfl⟩ : st = 1 ∧ cnt = 24 := by omega
    refine loopX (ι := Nat × Option Addr × Nat) (fun x => [(0, .slice a xs.length c), (1, .int .i64 r), (2, .int .i64 i), (9, .slice x.2.1 (xs.length + x.1) x.2.2), (10, .int .i64 x.1)])
      (fun x W => x.1 ≤ 24 ∧ w.heap.size ≤ W.heap.size ∧ Own W base 5 1 (.slice x.2.1 (xs.length + x.1) x.2.2) (xs.length + x.1) (vbs (xs ++ marksL r i xs.length x.1)) ∧ GrH w W base 5 1 (.slice a xs.length c) (.slice x.2.1 (xs.length + x.1) x.2.2) xs.length x.1 (vbs xs) ∧ OnlyBy (.slice a xs.length c) w W ∧ Below base w W)
      (fun x => 24 - x.1) (0, a, c) ⟨Nat.zero_le _, Nat.le_refl _, by simpa [marksL] using hO, GrH.start hO, OnlyBy.refl _ _, Below.refl _ _⟩ ?_ ?_
    · repeat (first | exact trivial | refine stpg ?_)
    · rintro ⟨j, ga, gc⟩ s1 w1 ⟨hj, hz1, hO1, hG1, hB1, hE1⟩
      simp only at hj hO1 hG1
      repeat (first | exact trivial | refine stpg ?_)
      refine ⟨fun hlt => ?_, fun hge => ?_⟩
      · rw [w64 (n := (xs.length : Int) + j) (by omega) (by omega), show (xs.length : Int) + j = ((xs.length + j : Nat) : Int) from by omega]
        refine (mark_ok r i ((xs.length + j : Nat) : Int) w1).mono ?_
        rintro _ w2 ⟨rfl, hE2⟩
        have hz2 := hE2.size
        repeat (first | exact trivial | refine stpg ?_)
        refine ⟨rfl, rfl, ?_⟩
        first | refine newS ?_ | refine newZ ?_
        intro w3 hE3 hz3 hB3
        have hE13 : Ext w1 w3 := .go
        have hO3 := hO1.ext hE13
        refine apH (sz := 1) (n := xs.length + j) (m := 1) (news := vbs [markP r i ((xs.length + j : Nat) : Int)]) Tryz.underlying22 z5 c5 rfl (by decide) hO3 (by omega) (SlC.of_blk hB3 (by decide)) rfl (vbs_one _) (by omega) (by rw [by5]; omega) (by decide) (fun v4 w4 hO4 hg4 ha4 => ?_)
        have hz4 := hg4.size
        have hG4 := GrH.step (hG1.ext hE13) (by rw [← vbs_app]; exact hO3) hxl htop (by omega) hg4 ha4
        have hB4 := OnlyBy.step (hB1.ext hE13) hG1.far hg4
        have hE4 := (hE1.trans (hE13.mono (by omega))).trans (below_of_grown hO3 (by omega) hg4)
        rw [← vbs_app, List.append_assoc, ← marksL_snoc, Nat.add_assoc] at hO4
        obtain ⟨a4, c4, rfl⟩ := own_slice hO4
        repeat (first | exact trivial | refine stpg ?_)
        exact ⟨(j + 1, a4, c4), ⟨by simp only; omega, by omega, hO4, hG4, hB4, hE4⟩, ⟨rfl, by rw [w64 (by omega) (by omega)]; rfl⟩, by simp only; omega⟩
      · obtain rfl : j = 24 := by omega
        repeat (first | exact trivial | refine stpg ?_)
        exact ⟨⟨ga, gc, rfl⟩, hO1, hG1, hB1, hE1⟩
  · have hcs : st = cnt := by omega
    subst hcs
    refine loopX (ι := Nat × Option Addr × Nat) (fun x => [(0, .slice a xs.length c), (1, .int .i64 r), (2, .int .i64 i), (3, .int .i64 st), (9, .slice a xs.length c), (11, .slice x.2.1 x.1 x.2.2), (12, .int .i64 x.1)])
      (fun x W => x.1 ≤ st ∧ Ext w W ∧ Own W w.heap.size 5 1 (.slice x.2.1 x.1 x.2.2) x.1 (vbs (marksL r i xs.length x.1))) (fun x => st - x.1) (0, none, 0) ⟨Nat.zero_le _, .go, Own.nil _ _ _ _⟩ ?_ ?_
    · repeat (first | exact trivial | refine stpg ?_)
    · rintro ⟨j, ma, mc⟩ s1 w1 ⟨hj, hE1, hO1⟩
      simp only at hj hO1
      have hz1 := hE1.size
      repeat (first | exact trivial | refine stpg ?_)
      refine ⟨fun hlt => ?_, fun hge => ?_⟩
      · rw [w64 (n := (xs.length : Int) + j) (by omega) (by omega), show (xs.length : Int) + j = ((xs.length + j : Nat) : Int) from by omega]
        refine (mark_ok r i ((xs.length + j : Nat) : Int) w1).mono ?_
        rintro _ w2 ⟨rfl, hE2⟩
        have hz2 := hE2.size
        repeat (first | exact trivial | refine stpg ?_)
        refine ⟨rfl, rfl, ?_⟩
        first | refine newS ?_ | refine newZ ?_
        intro w3 hE3 hz3 hB3
        have hO3 := hO1.ext (w' := w3) .go
        refine apS (sz := 1) (n := j) (m := 1) (news := vbs [markP r i ((xs.length + j : Nat) : Int)]) Tryz.underlying22 z5 c5 rfl (by decide) hO3 (by omega) (SlC.of_blk hB3 (by decide)) rfl (vbs_one _) (by omega) (by rw [by5]; omega) (fun v4 w4 hO4 hg4 => ?_)
        have hE4 := below_of_grown hO3 (by omega) hg4
        have hz4 := hE4.size
        rw [← vbs_app, ← marksL_snoc] at hO4
        obtain ⟨a4, c4, rfl⟩ := own_slice hO4
        repeat (first | exact trivial | refine stpg ?_)
        exact ⟨(j + 1, a4, c4), ⟨by simp only; omega, .go, hO4⟩, ⟨rfl, by rw [w64 (by omega) (by omega)]; rfl⟩, by simp only; omega⟩
      · obtain rfl : j = st := by omega
        have hO1' := hO.ext hE1
        repeat (first | exact trivial | refine stpg ?_)
        refine apH (sz := 1) (n := xs.length) (m := j) (news := vbs (marksL r i xs.length j)) Tryz.underlying22 z5 c5 rfl (by decide) hO1' (by omega) (SlC.of_own hO1) (by rw [vbs_len, marksL_len, Nat.mul_one]) (vbs_one _) (by omega) (by rw [by5]; omega) (by omega) (fun v4 w4 hO4 hg4 ha4 => ?_)
        have hG4 := GrH.step (j := 0) (ys := []) ((GrH.start hO).ext hE1) (by rw [List.append_nil]; exact hO1') hxl htop (by omega) hg4 ha4
        have hB4 := OnlyBy.step (OnlyBy.ext (OnlyBy.refl _ _) hE1) (fun q hq => Or.inl hq) hg4
        have hE4 := (hE1.mono hb).trans (below_of_grown hO1' (by omega) hg4)
        rw [← vbs_app] at hO4
        rw [Nat.zero_add] at hG4
        obtain ⟨a4, c4, rfl⟩ := own_slice hO4
        repeat (first | exact trivial | refine stpg ?_)
        exact ⟨⟨a4, c4, rfl⟩, hO4, hG4, hB4, hE4⟩
theorem marked_ok (r i : Int) (n m : Nat) (pv gv : Value) (w : World) (hp : SlB w pv (marksL r i 0 n)) (hg : SlB w gv (marksL r i 0 m)) :
    CallK Tryz.prog 117 [pv, gv, .int .i64 r, .int .i64 i].toArray w fun u w' => u = .bool true ∧ Ext w w' := by
  have hn : n ≤ 9223372036854775807 := by obtain ⟨_, _, _, h1, h2, _⟩ := hp; rw [marksL_len] at h1; omega
  have hm : m ≤ 9223372036854775807 := by obtain ⟨_, _, _, h1, h2, _⟩ := hg; rw [marksL_len] at h1; omega
  have hgt : ∀ k j, j < k → (marksL r i 0 k).getD j 0 = markP r i (j : Int) := fun k j hj => by rw [List.getD_eq_getElem?_getD, marksL_get _ _ _ _ _ hj, Nat.zero_add]; rfl
  have hgx := fun j => hgt n j
  have hgy := fun j => hgt m j
  have hl1 := marksL_len r i 0 n
  have hl2 := marksL_len r i 0 m
  clear hgt
  generalize marksL r i 0 n = xs at *
  generalize marksL r i 0 m = ys at *
  subst hl1
  subst hl2
  obtain ⟨a, c, rfl⟩ := slv_of hp
  obtain ⟨a', c', rfl⟩ := slv_of hg
  refine enterT Tryz.func117 rfl Tryz.ntmps117 Tryz.results117 rfl (by decide) ?_
  repeat (first | exact trivial | refine stpg ?_)
  refine loopX (ι := Nat) (fun k => [(1, .slice a' ys.length c'), (0, .slice a xs.length c), (2, .int .i64 r), (3, .int .i64 i), (12, .int .i64 xs.length), (13, .int .i64 k)]) (fun k W => Ext w W ∧ k ≤ xs.length) (fun k => xs.length - k) 0 ⟨.go, Nat.zero_le _⟩ ?_ ?_
  · repeat (first | exact trivial | refine stpg ?_)
  · rintro k s1 w1 ⟨hE1, hk⟩
    have hz1 := hE1.size
    repeat (first | exact trivial | refine stpg ?_)
    refine ⟨fun hlt => ?_, fun hge => ?_⟩
    · obtain ⟨b, o, rfl, hR⟩ := hp.rowB (by omega)
      repeat (first | exact trivial | refine stpg ?_)
      refine ldByte (xs := xs) (i := k) ?_ .go rfl (by omega)
      rw [hgx k (by omega)]
      repeat (first | exact trivial | refine stpg ?_)
      refine qcall _ (fun w' hw' => mark_ok r i (k : Int) w') ?_
      repeat (first | exact trivial | refine stpg ?_)
      intro w2 hE2
      exact ⟨k + 1, ⟨.go, by omega⟩, by rw [w64 (by omega) (by omega)]; rfl, by omega⟩
    · refine loopX (ι := Nat) (fun k => [(1, .slice a' ys.length c'), (2, .int .i64 r), (3, .int .i64 i), (27, .int .i64 ys.length), (28, .int .i64 k)]) (fun k W => Ext w1 W ∧ k ≤ ys.length) (fun k => ys.length - k) 0 ⟨.go, Nat.zero_le _⟩ ?_ ?_
      · repeat (first | exact trivial | refine stpg ?_)
      · rintro k s2 w2 ⟨hE2, hk⟩
        have hz2 := hE2.size
        repeat (first | exact trivial | refine stpg ?_)
        refine ⟨fun hlt => ?_, fun hge => ?_⟩
        · obtain ⟨b, o, rfl, hR⟩ := hg.rowB (by omega)
          repeat (first | exact trivial | refine stpg ?_)
          refine ldByte (xs := ys) (i := k) ?_ .go rfl (by omega)
          rw [hgy k (by omega)]
          repeat (first | exact trivial | refine stpg ?_)
          refine qcall _ (fun w' hw' => mark_ok r i (k : Int) w') ?_
          repeat (first | exact trivial | refine stpg ?_)
          intro w3 hE3
          exact ⟨k + 1, ⟨.go, by omega⟩, by rw [w64 (by omega) (by omega)]; rfl, by omega⟩
        · exact .go
end Go.Proofs.YthlkfjoibjhaiaaGreatDoor

/-! Apb -/
namespace Go.Proofs.YthlkfjoibjhaiaaGreatDoor
set_option maxRecDepth 100000
set_option maxHeartbeats 2000000
open Go Go.RowKit
set_option linter.unusedVariables false
set_option linter.unusedSimpArgs false
set_option maxHeartbeats 1000000
attribute [local irreducible] vcT opsT qT vcOp Q1 vcPure vcLoad vcStore ldC ldN ldD grdT grdQ vc vcOps vcQ hT
attribute [local irreducible] sumR sumP shaP keyD bucketP branchP

/-- No two of the slices lie in one block. -/
def FarL (ls : List (Value × Nat)) : Prop := ls.Pairwise fun a b => ∀ g, a.1.ownBlock = some g → b.1.ownBlock ≠ some g
theorem FarL.at {ls : List (Value × Nat)} (h : FarL ls) {i j : Nat} {a b : Value × Nat} (hi : ls[i]? = some a) (hj : ls[j]? = some b) (hne : i ≠ j) : ∀ g, a.1.ownBlock = some g → b.1.ownBlock ≠ some g := by
  obtain ⟨h1, h2⟩ := List.getElem?_eq_some_iff.1 hi
  obtain ⟨h3, h4⟩ := List.getElem?_eq_some_iff.1 hj
  rcases Nat.lt_or_gt_of_ne hne with hl | hl
  · have := List.pairwise_iff_getElem.1 h i j h1 h3 hl
    rwa [h2, h4] at this
  · have := List.pairwise_iff_getElem.1 h j i h3 h1 hl
    rw [h2, h4] at this
    exact fun g hg hb => this g hb hg
/-- The lists' rows. -/
def ApS (base : Nat) (ls : List (Value × Nat)) (f : Nat → List UInt8) (W : World) : Prop := ∀ i v n, ls[i]? = some (v, n) → (f i).length = n ∧ Own W base 5 1 v n (vbs (f i))
/-- All blocks stay but the lists' own. -/
def OnlyIn (ls : List (Value × Nat)) (w W : World) : Prop := ∀ k T l, (∀ t ∈ ls, t.1.ownBlock ≠ some k) → Blk w k T l → Blk W k T l
theorem OnlyIn.refl (ls : List (Value × Nat)) (w : World) : OnlyIn ls w w := fun _ _ _ _ h => h
theorem OnlyIn.ext {ls : List (Value × Nat)} {w w1 w2 : World} (h : OnlyIn ls w w1) (e : Ext w1 w2) : OnlyIn ls w w2 := fun k T l hk hB => (h k T l hk hB).ext e
theorem OnlyIn.only {ls : List (Value × Nat)} {w w1 w2 : World} (h : OnlyIn ls w w1) {i n : Nat} {v : Value} (hi : ls[i]? = some (v, n)) (e : OnlyBy v w1 w2) : OnlyIn ls w w2 := fun k T l hk hB => e k T l (hk _ (List.mem_of_getElem? hi)) (h k T l hk hB)
/-- Appending to a younger row. -/
theorem OnlyIn.grown {ls : List (Value × Nat)} {w w1 w2 : World} {b e s n : Nat} {x : Value} {xs : List Value} (h : OnlyIn ls w w1) (k : Own w1 b e s x n xs) (hb : w.heap.size ≤ b) (g : w1.grownBy w2 x.ownBlock) : OnlyIn ls w w2 := fun q T l hk hB =>
  OnlyBy.of_grown g q T l (fun he => by have h1 := k.lo q he; have := hB.lt; omega) (h q T l hk hB)
theorem ApS.ext {base : Nat} {ls : List (Value × Nat)} {f : Nat → List UInt8} {W W' : World} (h : ApS base ls f W) (e : Ext W W') : ApS base ls f W' := fun i v n hi => ⟨(h i v n hi).1, (h i v n hi).2.ext e⟩
/-- One list is written. -/
theorem ApS.set {base : Nat} {ls : List (Value × Nat)} {f : Nat → List UInt8} {W W' : World} (h : ApS base ls f W) (hf : FarL ls) {i n : Nat} {v : Value} (hi : ls[i]? = some (v, n)) (e : OnlyBy v W W') {us : List UInt8} (hl : us.length = n) (hO : Own W' base 5 1 v n (vbs us)) :
    ApS base ls (fun k => if k = i then us else f k) W' := by
  intro k v' n' hk
  by_cases hki : k = i
  · subst hki
    rw [hi] at hk
    cases hk
    simp only [if_pos]
    exact ⟨hl, hO⟩
  · simp only [if_neg hki]
    exact ⟨(h k v' n' hk).1, (h k v' n' hk).2.only (hf.at hk hi hki) e⟩
theorem ApS.keep {base : Nat} {ls : List (Value × Nat)} {f : Nat → List UInt8} {W W' : World} (h : ApS base ls f W) (hf : FarL ls) {i n : Nat} {v : Value} (hi : ls[i]? = some (v, n)) (e : OnlyBy v W W') (hO : Own W' base 5 1 v n (vbs (f i))) : ApS base ls f W' := by
  intro k v' n' hk
  by_cases hki : k = i
  · subst hki
    rw [hi] at hk
    cases hk
    exact ⟨(h k v n hi).1, hO⟩
  · exact ⟨(h k v' n' hk).1, (h k v' n' hk).2.only (hf.at hk hi hki) e⟩
theorem ApS.grown {base b e s n : Nat} {ls : List (Value × Nat)} {f : Nat → List UInt8} {W W' : World} {x : Value} {xs : List Value} (h : ApS base ls f W) (k : Own W b e s x n xs) (hne : 5 ≠ e) (g : W.grownBy W' x.ownBlock) : ApS base ls f W' := fun i v n hi => ⟨(h i v n hi).1, (h i v n hi).2.grown_ne k hne g⟩
def updF (f : Nat → List UInt8) (i : Nat) (us : List UInt8) : Nat → List UInt8 := fun k => if k = i then us else f k
theorem updF_at (f : Nat → List UInt8) (i : Nat) (us : List UInt8) : updF f i us i = us := if_pos rfl
theorem updF_ne (f : Nat → List UInt8) {i k : Nat} (us : List UInt8) (h : k ≠ i) : updF f i us k = f k := if_neg h
theorem updF_two (f : Nat → List UInt8) (i : Nat) (us vs : List UInt8) : (fun k => if k = i then vs else updF f i us k) = updF f i vs := by
  funext k
  unfold updF
  split <;> rfl
theorem updF_same (f : Nat → List UInt8) (i : Nat) : updF f i (f i) = f := by
  funext k
  unfold updF
  split
  · rename_i h; rw [h]
  · rfl
theorem Apart_ok (ls : List (Value × Nat)) (f0 : Nat → List UInt8) (lv : Value) (lb base : Nat) (w : World) (hl : Own w lb 22 1 lv ls.length (ls.map Prod.fst)) (h0 : ApS base ls f0 w) (hf : FarL ls) (hb : base ≤ w.heap.size) (hn : ∀ t ∈ ls, t.2 ≤ 4000000040) (hll : ls.length ≤ 100000000000) :
    CallK Tryz.prog 25 [lv].toArray w fun u w' => u = .bool true ∧ OnlyIn ls w w' ∧ Below base w w' ∧ Own w' lb 22 1 lv ls.length (ls.map Prod.fst) := by
  obtain ⟨la, lc, rfl⟩ := own_slice hl
  have hcells : (ls.map Prod.fst).flatMap (fun v : Value => [v]) = ls.map Prod.fst := by
    generalize ls.map Prod.fst = vs
    induction vs with
    | nil => rfl
    | cons x l ih => simp [ih]
  have hrow : ∀ W, Own W lb 22 1 (.slice la ls.length lc) ls.length (ls.map Prod.fst) → 0 < ls.length → ∃ b o, la = some ⟨b, o, none⟩ ∧ RowA W b o 1 (fun v : Value => [v]) (ls.map Prod.fst) := fun W h hlt => by
    have h1 := SlC.of_own h
    have h2 : SlC W (.slice la ls.length lc) (ls.map Prod.fst).length ((ls.map Prod.fst).flatMap fun v : Value => [v]) := by rw [hcells, List.length_map]; exact h1
    exact h2.row (fun _ _ => rfl) (by decide) (by rw [List.length_map]; exact hlt)
  have hrow2 : ∀ W lo n a c (us : List Value), Own W lo 22 1 (.slice a n c) n us → 0 < n → ∃ b o, a = some ⟨b, o, none⟩ ∧ RowA W b o 1 (fun v : Value => [v]) us := fun W lo n a c us h hlt => by
    have h1 := SlC.of_own h
    have hul : us.length = n := by have := h.1; omega
    have e : us.flatMap (fun v : Value => [v]) = us := by
      clear h h1 hul
      induction us with
      | nil => rfl
      | cons x l ih => simp [ih]
    have h2 : SlC W (.slice a n c) us.length (us.flatMap fun v : Value => [v]) := by rw [e, hul]; exact h1
    exact h2.row (fun _ _ => rfl) (by decide) (by omega)
  refine enterT Tryz.func25 rfl Tryz.ntmps25 Tryz.results25 rfl (by decide) ?_
  repeat (first | exact trivial | refine stpg ?_)
  refine loopX (ι := Nat × (Nat → List UInt8)) (fun x => [(0, .slice la ls.length lc), (3, .int .i64 x.1)])
    (fun x W => x.1 ≤ 2 ∧ w.heap.size ≤ W.heap.size ∧ Own W lb 22 1 (.slice la ls.length lc) ls.length (ls.map Prod.fst) ∧ ApS base ls x.2 W ∧ OnlyIn ls w W ∧ Below base w W) (fun x => 2 - x.1) (0, f0) ⟨Nat.zero_le _, Nat.le_refl _, hl, h0, OnlyIn.refl _ _, Below.refl _ _⟩ ?_ ?_
  · repeat (first | exact trivial | refine stpg ?_)
  · rintro ⟨r, f⟩ s1 w1 ⟨hr, hz1, hl1, hS1, hI1, hE1⟩
    simp only at hr hS1
    repeat (first | exact trivial | refine stpg ?_)
    refine ⟨fun hlt => ?_, fun hge => ?_⟩
    · refine loopX (ι := Nat × (Nat → List UInt8)) (fun x => [(0, .slice la ls.length lc), (3, .int .i64 r), (16, .int .i64 ls.length), (17, .int .i64 x.1)])
        (fun x W => x.1 ≤ ls.length ∧ w.heap.size ≤ W.heap.size ∧ Own W lb 22 1 (.slice la ls.length lc) ls.length (ls.map Prod.fst) ∧ ApS base ls x.2 W ∧ OnlyIn ls w W ∧ Below base w W ∧ ∀ j v n, j < x.1 → ls[j]? = some (v, n) → x.2 j = marksL r j 0 n) (fun x => ls.length - x.1) (0, f) ⟨Nat.zero_le _, hz1, hl1, hS1, hI1, hE1, fun j v n hj => by simp only at hj; omega⟩ ?_ ?_
      · repeat (first | exact trivial | refine stpg ?_)
      · rintro ⟨i, f2⟩ s2 w2 ⟨hi, hz2, hl2, hS2, hI2, hE2, hm2⟩
        simp only at hi hS2 hm2
        repeat (first | exact trivial | refine stpg ?_)
        refine ⟨fun hlt2 => ?_, fun hge2 => ?_⟩
        · obtain ⟨⟨v, n⟩, hx⟩ : ∃ x, ls[i]? = some x := ⟨_, List.getElem?_eq_getElem (by omega)⟩
          have hxm : (ls.map Prod.fst)[i]? = some v := by rw [List.getElem?_map, hx]; rfl
          have hn0 := hn _ (List.mem_of_getElem? hx)
          obtain ⟨hfl, hO2⟩ := hS2 i v n hx
          obtain ⟨lbk, lo, rfl, hR⟩ := hrow w2 hl2 (by omega)
          obtain ⟨va, vc, rfl⟩ := own_slice hO2
          repeat (first | exact trivial | refine stpg ?_)
          refine ldRowF (f := fun v : Value => [v]) 0 hxm ?_
          repeat (first | exact trivial | refine stpg ?_)
          refine loopX (ι := Nat × List UInt8) (fun x => [(0, .slice (some ⟨lbk, lo, none⟩) ls.length lc), (3, .int .i64 r), (4, .int .i64 i), (16, .int .i64 ls.length), (17, .int .i64 i), (24, .int .i64 n), (25, .int .i64 x.1)])
            (fun x W => x.1 ≤ n ∧ w.heap.size ≤ W.heap.size ∧ Own W lb 22 1 (.slice (some ⟨lbk, lo, none⟩) ls.length lc) ls.length (ls.map Prod.fst) ∧ ApS base ls (updF f2 i x.2) W ∧ OnlyIn ls w W ∧ Below base w W ∧ x.2.length = n ∧ x.2.take x.1 = marksL r i 0 x.1) (fun x => n - x.1) (0, f2 i) ⟨Nat.zero_le _, hz2, hl2, by simp only; rw [updF_same]; exact hS2, hI2, hE2, hfl, by simp [marksL]⟩ ?_ ?_
          · repeat (first | exact trivial | refine stpg ?_)
          · rintro ⟨j, us⟩ s3 w3 ⟨hj, hz3, hl3, hS3, hI3, hE3, hul, htk⟩
            simp only at hj hS3 hul htk
            repeat (first | exact trivial | refine stpg ?_)
            refine ⟨fun hlt3 => ?_, fun hge3 => ?_⟩
            · obtain ⟨_, hO3⟩ := hS3 i _ n hx
              rw [updF_at] at hO3
              obtain ⟨lbk', lo', he', hR3⟩ := hrow w3 hl3 (by omega)
              cases he'
              obtain ⟨g, cap, rest, he, hgb, hBg, hnc, hcm, hrl⟩ := hO3.open (by omega)
              injection he with he1 _ he3
              subst he1 he3
              repeat (first | exact trivial | refine stp ?_ | refine ldCg ?_ | refine ldNg ?_ | refine ldSg ?_ | refine ldSb ?_ | refine bnd ?_ | refine bnd1 ?_)
              refine drawX (.of [0, 1, 2, 3, 4, 5, 6, 7, 8, 9, 10]) mixed (by decide +kernel) (fun w4 hE4 hz4 => ?_)
              repeat (first | exact trivial | refine stpg ?_)
              refine ldSg ?_ (by intro w' hw'; refine stp ?_; exact ldRowF (f := fun v : Value => [v]) 0 hxm rfl)
              repeat (first | exact trivial | refine stpg ?_)
              refine (mark_ok r i (j : Int) w4).mono ?_
              rintro _ w5 ⟨rfl, hE5⟩
              have hz5 := hE5.size
              refine toldX ?_
              repeat (first | exact trivial | refine stpg ?_)
              have hBg5 := hBg.ext (hE4.trans' hE5)
              refine stV (by rfl) hBg5 rfl rfl (by rw [List.length_append, vbs_len]; omega) (fun w6 hP6 => ?_)
              have hB6 := hP6.blk
              have hz6 := hP6.size
              rw [vbs_setA _ _ _ _ (by omega)] at hB6
              have hE36 : Below base w3 w6 := ((hE4.trans' hE5).mono (by omega)).trans (hP6.below hgb)
              have hOB : OnlyBy (.slice (some ⟨g, 0, none⟩) n vc) w3 w6 := fun k T l hk hB => hP6.keep (hB.ext (hE4.trans' hE5)) (fun e => hk (by simp [Value.ownBlock, e]))
              have hO6 : Own w6 base 5 1 (.slice (some ⟨g, 0, none⟩) n vc) n (vbs (us.set j (markP r i (j : Int)))) := own_mk hB6 hgb (by rw [vbs_len, List.length_set, hul, Nat.mul_one]) (by rw [List.length_append, vbs_len] at hrl; omega) hnc hcm
              have hS6 := hS3.set hf hx hOB (by rw [List.length_set]; exact hul) hO6
              rw [updF_two] at hS6
              refine toldZ ?_
              repeat (first | exact trivial | refine stpg ?_)
              refine ⟨(j + 1, us.set j (markP r i (j : Int))), ⟨by simp only; omega, by omega, hl3.onlyT hO3 (by decide) hOB, hS6, hI3.only hx hOB, hE3.trans hE36, by simp only [List.length_set]; exact hul, ?_⟩, by rw [w64 (by omega) (by omega)]; rfl, by simp only; omega⟩
              simp only
              rw [marksL_snoc, Nat.zero_add, ← htk, List.take_succ_eq_append_getElem (by rw [List.length_set]; omega), List.take_set_of_le (Nat.le_refl _), List.getElem_set_self]
            · obtain rfl : j = n := by omega
              rw [List.take_of_length_le (by omega)] at htk
              refine ⟨(i + 1, updF f2 i us), ⟨by simp only; omega, hz3, hl3, hS3, hI3, hE3, fun k v' n' hk hkx => ?_⟩, by rw [w64 (by omega) (by omega)]; rfl, by simp only; omega⟩
              simp only at hk ⊢
              by_cases hki : k = i
              · subst hki
                rw [hx] at hkx
                cases hkx
                rw [updF_at]
                exact htk
              · rw [updF_ne _ _ hki]
                exact hm2 k v' n' (by omega) hkx
        · obtain rfl : i = ls.length := by omega
          refine ⟨rfl, ⟨rfl, rfl, rfl⟩, ?_⟩
          first | refine newS ?_ | refine newZ ?_
          intro w3 hE3 hz3 hB3
          refine loopX (ι := Nat) (fun k => [(0, .slice la ls.length lc), (3, .int .i64 r), (40, .slice (some ⟨w2.heap.size, 0, none⟩) 3 3), (41, .int .i64 3), (42, .int .i64 k)])
            (fun k W => k ≤ 3 ∧ w3.heap.size ≤ W.heap.size ∧ Own W lb 22 1 (.slice la ls.length lc) ls.length (ls.map Prod.fst) ∧ ApS base ls f2 W ∧ OnlyIn ls w W ∧ Below base w W ∧ Blk W w2.heap.size 3 [.int .i64 1, .int .i64 24, .int .i64 90]) (fun k => 3 - k) 0
            ⟨Nat.zero_le _, Nat.le_refl _, hl2.ext hE3, hS2.ext hE3, hI2.ext hE3, hE2.trans (hE3.mono (by omega)), hB3⟩ ?_ ?_
          · repeat (first | exact trivial | refine stpg ?_)
          · rintro k s4 w4 ⟨hk, hz4, hl4, hS4, hI4, hE4, hB4⟩
            repeat (first | exact trivial | refine stpg ?_)
            refine ⟨fun hlt4 => ?_, fun hge4 => ?_⟩
            · obtain ⟨st, cnt, hst, hcell⟩ : ∃ st cnt : Nat, (st = 1 ∧ cnt = 24 ∨ st = 24 ∧ cnt = 24 ∨ st = 90 ∧ cnt = 90) ∧ ([.int .i64 1, .int .i64 24, .int .i64 90] : List Value)[k]? = some (.int .i64 (st : Nat)) := by
                rcases (by omega : k = 0 ∨ k = 1 ∨ k = 2) with rfl | rfl | rfl
                · exact ⟨1, 24, by omega, rfl⟩
                · exact ⟨24, 24, by omega, rfl⟩
                · exact ⟨90, 90, by omega, rfl⟩
              have htop : ∀ (i : Nat) (v : Value) (n : Nat), ls[i]? = some (v, n) → ∀ q, v.ownBlock = some q → q < w4.heap.size := fun i v n hi => (hS4 i v n hi).2.top
              repeat (first | exact trivial | refine stpg ?_)
              refine ldCg (hv := hcell) ?_
              repeat (first | exact trivial | refine stpg ?_)
              refine loopX (ι := Nat × List Value × Option Addr × Nat) (fun x => [(0, .slice la ls.length lc), (3, .int .i64 r), (7, .int .i64 st), (8, .slice x.2.2.1 x.1 x.2.2.2), (40, .slice (some ⟨w2.heap.size, 0, none⟩) 3 3), (41, .int .i64 3), (42, .int .i64 k), (47, .int .i64 ls.length), (48, .int .i64 x.1)])
                (fun x W => x.1 ≤ ls.length ∧ w4.heap.size ≤ W.heap.size ∧ Own W lb 22 1 (.slice la ls.length lc) ls.length (ls.map Prod.fst) ∧ ApS base ls f2 W ∧ OnlyIn ls w W ∧ Below base w W ∧ Blk W w2.heap.size 3 [.int .i64 1, .int .i64 24, .int .i64 90] ∧
                  Own W w4.heap.size 22 1 (.slice x.2.2.1 x.1 x.2.2.2) x.1 x.2.1 ∧ (∀ (j : Nat) (u v : Value) (n : Nat), x.2.1[j]? = some u → ls[j]? = some (v, n) → Own W base 5 1 u (n + cnt) (vbs (marksL r j 0 (n + cnt))) ∧ ∀ q, u.ownBlock = some q → v.ownBlock = some q ∨ w4.heap.size ≤ q))
                (fun x => ls.length - x.1) (0, [], none, 0) ⟨Nat.zero_le _, Nat.le_refl _, hl4, hS4, hI4, hE4, hB4, Own.nil _ _ _ _, fun j u v n hj => by simp at hj⟩ ?_ ?_
              · repeat (first | exact trivial | refine stpg ?_)
              · rintro ⟨i, us, ga, gc⟩ s5 w5 ⟨hi, hz5, hl5, hS5, hI5, hE5, hB5, hG5, hU5⟩
                simp only at hi hG5 hU5
                have hul : us.length = i := by have := hG5.1; omega
                repeat (first | exact trivial | refine stpg ?_)
                refine ⟨fun hlt5 => ?_, fun hge5 => ?_⟩
                · obtain ⟨⟨v, n⟩, hx⟩ : ∃ x, ls[i]? = some x := ⟨_, List.getElem?_eq_getElem (by omega)⟩
                  have hxm : (ls.map Prod.fst)[i]? = some v := by rw [List.getElem?_map, hx]; rfl
                  have hn0 := hn _ (List.mem_of_getElem? hx)
                  obtain ⟨hfl, hO5⟩ := hS5 i v n hx
                  have hfm := hm2 i v n (List.getElem?_eq_some_iff.1 hx).1 hx
                  obtain ⟨lbk, lo, rfl, hR⟩ := hrow w5 hl5 (by omega)
                  obtain ⟨va, vc, rfl⟩ := own_slice hO5
                  repeat (first | exact trivial | refine stpg ?_)
                  refine ldRowF (f := fun v : Value => [v]) 0 hxm ?_
                  repeat (first | exact trivial | refine stpg ?_)
                  simp only at hn0
                  have hgr := grow_ok r i st cnt hst (f2 i) (.slice va n vc) base w5 (by rw [hfl]; exact hO5) (by omega) (by omega)
                  rw [hfl] at hgr
                  refine hgr.mono ?_
                  rintro _ w6 ⟨⟨ua, uc, rfl⟩, hOu, hGr, hOB, hE6⟩
                  have hz6 := hE6.size
                  have hxl : (vbs (f2 i)).length = n * 1 := by rw [vbs_len, hfl, Nat.mul_one]
                  have hOv := hGr.row (by rw [← vbs_app]; exact hOu) hxl
                  rw [hfm, show marksL r i n cnt = marksL r i (0 + n) cnt from by rw [Nat.zero_add], marksL_app] at hOu
                  have hcnt : 0 < cnt := by omega
                  have hl6 := hl5.onlyT hO5 (by decide) hOB
                  have hS6 := hS5.keep hf hx hOB hOv
                  have hI6 := hI5.only hx hOB
                  have hB6 := hOB _ _ _ (hO5.ne_blk hB5 (by decide)) hB5
                  have hG6 := hG5.onlyT hO5 (by decide) hOB
                  have hU6 : ∀ (j : Nat) (u v : Value) (n : Nat), us[j]? = some u → ls[j]? = some (v, n) → Own w6 base 5 1 u (n + cnt) (vbs (marksL r j 0 (n + cnt))) ∧ ∀ q, u.ownBlock = some q → v.ownBlock = some q ∨ w4.heap.size ≤ q := fun j u v' n' hj hv => by
                    obtain ⟨h1, h2⟩ := hU5 j u v' n' hj hv
                    refine ⟨h1.only (fun q hq he => ?_) hOB, h2⟩
                    rcases h2 q hq with h3 | h3
                    · have hji : j ≠ i := by have := (List.getElem?_eq_some_iff.1 hj).1; omega
                      exact hf.at hv hx hji q h3 he
                    · have := htop i _ n hx q he
                      omega
                  repeat (first | exact trivial | refine stpg ?_)
                  refine ⟨rfl, rfl, ?_⟩
                  first | refine newS ?_ | refine newZ ?_
                  intro w7 hE7 hz7 hB7
                  have hG7 := hG6.ext hE7
                  have hB7' := hB6.ext hE7
                  refine apS (sz := 1) (n := i) (m := 1) (news := [.slice ua (n + cnt) uc]) Tryz.underlying36 z22 c22 rfl (by decide) hG7 (by omega) (SlC.of_blk hB7 (by decide)) rfl (by intro u hu; rcases List.mem_cons.1 hu with rfl | hu; rfl; cases hu) (by omega) (by rw [by22]; omega) (fun v8 w8 hO8 hg8 => ?_)
                  have hz8 := hg8.size
                  obtain ⟨a8, c8, rfl⟩ := own_slice hO8
                  have hl8 := (hl6.ext hE7).only (fun q hq he => by have h1 := hl.top q hq; have h2 := hG7.lo q he; omega) (OnlyBy.of_grown hg8)
                  have hS8 := (hS6.ext hE7).grown hG7 (by decide) hg8
                  have hI8 := (hI6.ext hE7).grown hG7 (by omega) hg8
                  have hE8 := ((hE5.trans hE6).trans (hE7.mono (by omega))).trans ((below_of_grown hG7 (by omega) hg8).mono (by omega))
                  have hB8 := OnlyBy.of_grown hg8 _ _ _ (hG7.ne_blk hB7' (by decide)) hB7'
                  have hU8 : ∀ (j : Nat) (u v : Value) (n' : Nat), (us ++ [.slice ua (n + cnt) uc])[j]? = some u → ls[j]? = some (v, n') → Own w8 base 5 1 u (n' + cnt) (vbs (marksL r j 0 (n' + cnt))) ∧ ∀ q, u.ownBlock = some q → v.ownBlock = some q ∨ w4.heap.size ≤ q := fun j u v' n' hj hv => by
                    rcases Nat.lt_or_ge j us.length with h | h
                    · rw [List.getElem?_append_left h] at hj
                      obtain ⟨h1, h2⟩ := hU6 j u v' n' hj hv
                      exact ⟨(h1.ext hE7).grown_ne hG7 (by decide) hg8, h2⟩
                    · have hji : j = i := by
                        have := (List.getElem?_eq_some_iff.1 hj).1
                        simp only [List.length_append, List.length_cons, List.length_nil] at this
                        omega
                      subst hji
                      rw [List.getElem?_append_right h, hul, Nat.sub_self] at hj
                      cases hj
                      rw [hx] at hv
                      cases hv
                      exact ⟨(hOu.ext hE7).grown_ne hG7 (by decide) hg8, fun q hq => (hGr.far q hq).imp_right fun h => by omega⟩
                  repeat (first | exact trivial | refine stpg ?_)
                  exact ⟨(i + 1, us ++ [.slice ua (n + cnt) uc], a8, c8), ⟨by simp only; omega, by omega, hl8, hS8, hI8, hE8, hB8, hO8, hU8⟩, ⟨rfl, by rw [w64 (by omega) (by omega)]; rfl⟩, by simp only; omega⟩
                · obtain rfl : i = ls.length := by omega
                  refine loopX (ι := Nat) (fun q => [(0, .slice la ls.length lc), (3, .int .i64 r), (8, .slice ga ls.length gc), (40, .slice (some ⟨w2.heap.size, 0, none⟩) 3 3), (41, .int .i64 3), (42, .int .i64 k), (64, .int .i64 ls.length), (65, .int .i64 q)])
                    (fun q W => Ext w5 W ∧ q ≤ ls.length) (fun q => ls.length - q) 0 ⟨.go, Nat.zero_le _⟩ ?_ ?_
                  · repeat (first | exact trivial | refine stpg ?_)
                  · rintro q s6 w6 ⟨hE6, hq⟩
                    have hz6 := hE6.size
                    repeat (first | exact trivial | refine stpg ?_)
                    refine ⟨fun hlt6 => ?_, fun hge6 => ?_⟩
                    · obtain ⟨⟨v, n⟩, hx⟩ : ∃ x, ls[q]? = some x := ⟨_, List.getElem?_eq_getElem (by omega)⟩
                      have hxm : (ls.map Prod.fst)[q]? = some v := by rw [List.getElem?_map, hx]; rfl
                      obtain ⟨u, hu⟩ : ∃ u, us[q]? = some u := ⟨_, List.getElem?_eq_getElem (by omega)⟩
                      obtain ⟨hfl, hO5⟩ := hS5 q v n hx
                      have hfm := hm2 q v n (List.getElem?_eq_some_iff.1 hx).1 hx
                      obtain ⟨hOu, _⟩ := hU5 q u v n hu hx
                      obtain ⟨lbk, lo, rfl, hR⟩ := hrow w5 hl5 (by omega)
                      obtain ⟨gbk, go, rfl, hR2⟩ := hrow2 w5 _ _ _ _ _ hG5 (by omega)
                      rw [hfm] at hO5
                      obtain ⟨va, vc, rfl⟩ := own_slice hO5
                      obtain ⟨ua, uc, rfl⟩ := own_slice hOu
                      repeat (first | exact trivial | refine stp ?_ | refine ldCg ?_ | refine ldNg ?_ | refine ldSg ?_ | refine ldSb ?_ | refine bnd ?_ | refine bnd1 ?_)
                      refine drawX (.of [0, 1, 2, 3, 4, 5, 6, 7, 8, 9, 10, 11]) mixed (by decide +kernel) (fun w7 hE7 hz7 => ?_)
                      repeat (first | exact trivial | refine stpg ?_)
                      refine ldSg ?_ (by intro w' hw'; refine stp ?_; exact ldRowF (f := fun v : Value => [v]) 0 hxm rfl)
                      repeat (first | exact trivial | refine stpg ?_)
                      refine ldSg ?_ (by intro w' hw'; refine stp ?_; exact ldRowF (f := fun v : Value => [v]) 0 hu rfl)
                      repeat (first | exact trivial | refine stpg ?_)
                      have hpv : SlB w7 (.slice va n vc) (marksL r q 0 n) := by
                        have h1 := SlC.of_own (hO5.ext (w' := w7) .go)
                        show SlC w7 _ (marksL r q 0 n).length _
                        rw [marksL_len]
                        exact h1
                      have hgv : SlB w7 (.slice ua (n + cnt) uc) (marksL r q 0 (n + cnt)) := by
                        have h1 := SlC.of_own (hOu.ext (w' := w7) .go)
                        show SlC w7 _ (marksL r q 0 (n + cnt)).length _
                        rw [marksL_len]
                        exact h1
                      refine (marked_ok r q n (n + cnt) _ _ w7 hpv hgv).mono ?_
                      rintro _ w8 ⟨rfl, hE8⟩
                      have hz8 := hE8.size
                      refine toldX ?_
                      repeat (first | exact trivial | refine stpg ?_)
                      exact ⟨q + 1, ⟨.go, by omega⟩, by rw [w64 (by omega) (by omega)]; rfl, by omega⟩
                    · repeat (first | exact trivial | refine stpg ?_)
                      exact ⟨k + 1, ⟨by omega, by omega, hl5.ext hE6, hS5.ext hE6, hI5.ext hE6, hE5.trans (hE6.mono (by omega)), hB5.ext hE6⟩, by rw [w64 (by omega) (by omega)]; rfl, by omega⟩
            · obtain rfl : k = 3 := by omega
              repeat (first | exact trivial | refine stpg ?_)
              exact ⟨(r + 1, f2), ⟨by simp only; omega, by omega, hl4, hS4, hI4, hE4⟩, by rw [w64 (by omega) (by omega)]; rfl, by simp only; omega⟩
    · repeat (first | exact trivial | refine stpg ?_)
      exact hl1
end Go.Proofs.YthlkfjoibjhaiaaGreatDoor

/-! Kpt -/
namespace Go.Proofs.YthlkfjoibjhaiaaGreatDoor
set_option maxRecDepth 100000
set_option maxHeartbeats 2000000
open Go Go.RowKit
set_option linter.unusedVariables false
set_option linter.unusedSimpArgs false
attribute [local irreducible] vcT opsT qT vcOp Q1 vcPure vcLoad vcStore ldC ldN ldD grdT grdQ vc vcOps vcQ hT
attribute [local irreducible] sumR sumP shaP keyD bucketP branchP
/-! ### What stays -/
theorem RunB.only_lt {w w' : World} {hi : Nat} {x : Value} (k : OnlyBy x w w') : ∀ {l : List (Value × List UInt8)} {lo : Nat}, (∀ g, x.ownBlock = some g → g < lo) → RunB w hi lo l → RunB w' hi lo l
  | [], lo, _, h => h
  | (v, xs) :: r, lo, hx, h => by
    obtain ⟨mid, h1, h2, h3⟩ := h
    refine ⟨mid, h1, ⟨h2.own.only (fun g hg e => ?_) k, h2.top⟩, RunB.only_lt k (fun g hg => Nat.lt_of_lt_of_le (hx g hg) h1) h3⟩
    have := hx g e
    have := h2.own.lo g hg
    omega
theorem RunK.onlyT {w w' : World} {hi b2 e2 s2 n2 : Nat} {x : Value} {ys : List Value} (h2 : Own w b2 e2 s2 x n2 ys) (hne : 28 ≠ e2) (k : OnlyBy x w w') : ∀ {l : List SR} {lo : Nat}, RunK w hi lo l → RunK w' hi lo l
  | [], lo, h => h
  | t :: r, lo, h => by obtain ⟨mid, h1, h3, h4⟩ := h; exact ⟨mid, h1, ⟨h3.1, h3.2.1, h3.2.2.1.onlyT h2 hne k, h3.2.2.2⟩, RunK.onlyT h2 hne k h4⟩
/-- Blocks of another type stay. -/
def KeepT (e : Nat) (w w' : World) : Prop := ∀ k T l, T ≠ e → Blk w k T l → Blk w' k T l
theorem KeepT.of_ext {e : Nat} {w w' : World} (h : Ext w w') : KeepT e w w' := fun _ _ _ _ hB => hB.ext h
theorem Own.keepY {w w' : World} {b e s n x : Nat} {v : Value} {xs : List Value} (h : Own w b e s v n xs) (hne : e ≠ x) (k : KeepT x w w') : Own w' b e s v n xs := by
  obtain ⟨h0, ⟨rfl, h1⟩ | ⟨g, cap, cur, rfl, hbg, hg, h1, h2, h3, h4⟩⟩ := h
  · exact ⟨h0, Or.inl ⟨rfl, h1⟩⟩
  · have hB : Blk w g e cur.toList := ⟨by simpa using hg⟩
    have := (k g e cur.toList hne hB).out
    exact ⟨h0, Or.inr ⟨g, cap, cur, rfl, hbg, by simpa using this, h1, h2, h3, h4⟩⟩
theorem RunK.keepT {w w' : World} {hi x : Nat} (hne : 28 ≠ x) (k : KeepT x w w') : ∀ {l : List SR} {lo : Nat}, RunK w hi lo l → RunK w' hi lo l
  | [], lo, h => h
  | t :: r, lo, h => by obtain ⟨mid, h1, h3, h4⟩ := h; exact ⟨mid, h1, ⟨h3.1, h3.2.1, h3.2.2.1.keepY hne k, h3.2.2.2⟩, RunK.keepT hne k h4⟩
theorem KeepT.of_in {ls : List (Value × Nat)} {base : Nat} {f : Nat → List UInt8} {w w' : World} (h : OnlyIn ls w w') (h0 : ApS base ls f w) : KeepT 5 w w' := fun k T l hT hB => h k T l (fun t ht => by
  obtain ⟨i, hi⟩ := List.getElem?_of_mem ht
  exact (h0 i t.1 t.2 hi).2.ne_blk hB hT) hB
/-- Rows one behind another lie in blocks of their own. -/
theorem RunB.far {w : World} {hi : Nat} : ∀ {l : List (Value × List UInt8)} {lo : Nat}, RunB w hi lo l → l.Pairwise fun a b => ∀ g, a.1.ownBlock = some g → b.1.ownBlock ≠ some g
  | [], lo, _ => List.Pairwise.nil
  | (v, xs) :: r, lo, h => by
    obtain ⟨mid, h1, h2, h3⟩ := h
    refine List.pairwise_cons.2 ⟨fun b hb g hg he => ?_, RunB.far h3⟩
    have h4 := h2.top g hg
    have h5 := (RunB.mem h3 b hb).own.lo g he
    omega
/-- Apart, of lists that are known with their bytes. -/
theorem ApartL_ok (L : List (Value × List UInt8)) (lv : Value) (lb base : Nat) (w : World) (hl : Own w lb 22 1 lv L.length (L.map Prod.fst)) (h0 : ∀ t ∈ L, Own w base 5 1 t.1 t.2.length (vbs t.2)) (hf : L.Pairwise fun a b => ∀ g, a.1.ownBlock = some g → b.1.ownBlock ≠ some g) (hb : base ≤ w.heap.size) (hn : ∀ t ∈ L, t.2.length ≤ 4000000040) (hll : L.length ≤ 100000000000) :
    CallK Tryz.prog 25 [lv].toArray w fun u w' => u = .bool true ∧ OnlyIn (L.map fun t => (t.1, t.2.length)) w w' ∧ KeepT 5 w w' ∧ Below base w w' := by
  have hA : ApS base (L.map fun t => (t.1, t.2.length)) (fun i => ((L[i]?).map Prod.snd).getD []) w := by
    intro i v n hi
    rw [List.getElem?_map] at hi
    cases hx : L[i]? with
    | none => rw [hx] at hi; cases hi
    | some t =>
      rw [hx] at hi
      simp only [Option.map_some, Option.some.injEq, Prod.mk.injEq] at hi
      obtain ⟨rfl, rfl⟩ := hi
      have e : (fun i => ((L[i]?).map Prod.snd).getD []) i = t.2 := by simp [hx]
      rw [e]
      exact ⟨rfl, h0 t (List.mem_of_getElem? hx)⟩
  refine (Apart_ok (L.map fun t => (t.1, t.2.length)) _ lv lb base w (by rw [List.length_map, List.map_map]; exact hl) hA (List.pairwise_map.2 hf) hb (fun t ht => by obtain ⟨q, hq, rfl⟩ := List.mem_map.1 ht; exact hn q hq) (by rw [List.length_map]; exact hll)).mono ?_
  rintro v w' ⟨rfl, h1, h2, _⟩
  exact ⟨rfl, h1, KeepT.of_in h1 hA, h2⟩
theorem steps_split {ss : List SR} {i : Nat} {t : SR} (h : ss[i]? = some t) (rest : List Value) : ∃ pre post : List Value, pre.length = i * 2 ∧ ss.flatMap SR.cells ++ rest = pre ++ (.int .u16 t.bm :: (t.kv :: post)) ∧ ∀ t' : SR, (ss.set i t').flatMap SR.cells ++ rest = pre ++ (.int .u16 t'.bm :: (t'.kv :: post)) := by
  obtain ⟨hl, he⟩ := List.getElem?_eq_some_iff.1 h
  refine ⟨(ss.take i).flatMap SR.cells, (ss.drop (i + 1)).flatMap SR.cells ++ rest, ?_, ?_, fun t' => ?_⟩
  · have : ∀ l : List SR, (l.flatMap SR.cells).length = l.length * 2 := by
      intro l
      induction l with
      | nil => rfl
      | cons a l ih => rw [List.flatMap_cons, List.length_append, ih]; simp [SR.cells]; omega
    rw [this, List.length_take]
    omega
  · conv => lhs; rw [(set_split (y := t) h).1]
    simp [SR.cells, List.flatMap_append, List.flatMap_cons, List.append_assoc]
  · rw [(set_split (y := t') h).2]
    simp [SR.cells, List.flatMap_append, List.flatMap_cons, List.append_assoc]
theorem RunK.rebm {w : World} {hi : Nat} {t t' : SR} {r : List SR} (hk : t'.kv = t.kv) (hs : t'.ks = t.ks) (hb : t'.bm < 65536) : ∀ {l : List SR} {lo : Nat}, RunK w hi lo (l ++ t :: r) → RunK w hi lo (l ++ t' :: r)
  | [], lo, h => by
    obtain ⟨mid, h1, h2, h3⟩ := h
    refine ⟨mid, h1, ⟨hb, ?_, ?_, ?_⟩, h3⟩
    · rw [hs]; exact h2.2.1
    · rw [hs, hk]; exact h2.2.2.1
    · rw [hk]; exact h2.2.2.2
  | s :: l, lo, h => by
    obtain ⟨mid, h1, h2, h3⟩ := h
    exact ⟨mid, h1, h2, RunK.rebm hk hs hb h3⟩
theorem Blk.neT {w : World} {a b T U : Nat} {l m : List Value} (h : Blk w a T l) (k : Blk w b U m) (hT : T ≠ U) : a ≠ b := fun e => by
  subst e
  have h1 := h.out
  rw [k.out, Option.some.injEq, Obj.cells.injEq] at h1
  exact hT h1.2.1.symm
theorem u8_succ (c : UInt8) : IntKind.u8.wrap ((c.toNat : Int) + 1) = ((c + 1).toNat : Int) := by
  have h := c.toNat_lt
  simp [IntKind.wrap, IntKind.signed, IntKind.bits, UInt8.toNat_add]
theorem flat32 (l : List (List UInt8)) (h : ∀ d ∈ l, d.length = 32) : (l.flatMap vbs).length = l.length * 32 := by
  induction l with
  | nil => rfl
  | cons a l ih =>
    rw [List.flatMap_cons, List.length_append, ih (fun d hd => h d (List.mem_cons_of_mem _ hd)), vbs_len, h a List.mem_cons_self, List.length_cons]
    omega
theorem kids_split {kx : List (List UInt8)} {j : Nat} {d : List UInt8} (h : kx[j]? = some d) (h32 : ∀ d ∈ kx, d.length = 32) (rest : List Value) : ∃ (c : UInt8) (ds : List UInt8) (pre post : List Value), ds.length = 31 ∧ pre.length = j * 32 ∧ kx.flatMap vbs ++ rest = pre ++ (.int .u8 c.toNat :: post) ∧ ∀ c' : UInt8, (kx.set j (c' :: ds)).flatMap vbs ++ rest = pre ++ (.int .u8 c'.toNat :: post) := by
  obtain ⟨hl, he⟩ := List.getElem?_eq_some_iff.1 h
  have hd := h32 d (List.mem_of_getElem? h)
  obtain ⟨c, ds, rfl⟩ : ∃ c ds, d = c :: ds := by
    cases d with
    | nil => cases hd
    | cons c ds => exact ⟨c, ds, rfl⟩
  refine ⟨c, ds, (kx.take j).flatMap vbs, vbs ds ++ ((kx.drop (j + 1)).flatMap vbs ++ rest), by simpa using hd, ?_, ?_, fun c' => ?_⟩
  · rw [flat32 _ (fun d hd => h32 d (List.mem_of_mem_take hd)), List.length_take]
    omega
  · conv => lhs; rw [(set_split (y := c :: ds) h).1]
    simp [vbs, vb, List.flatMap_append, List.flatMap_cons, List.append_assoc]
  · rw [(set_split (y := c' :: ds) h).2]
    simp [vbs, vb, List.flatMap_append, List.flatMap_cons, List.append_assoc]
end Go.Proofs.YthlkfjoibjhaiaaGreatDoor

/-! Bss -/
namespace Go.Proofs.YthlkfjoibjhaiaaGreatDoor
set_option maxRecDepth 100000
set_option maxHeartbeats 2000000
open Go Go.RowKit
set_option linter.unusedVariables false
set_option linter.unusedSimpArgs false

/-- A list of byte lists, each with its slice. -/
def BssAt (w : World) (v : Value) (ks : List (Value × List UInt8)) : Prop := SlC w v ks.length (ks.flatMap fun k => [k.1]) ∧ ∀ k ∈ ks, SlB w k.1 k.2
theorem BssAt.ext {w w' : World} {v : Value} {ks : List (Value × List UInt8)} (h : BssAt w v ks) (e : Ext w w') : BssAt w' v ks := ⟨h.1.ext e, fun k hk => (h.2 k hk).ext e⟩
/-- The first part of a slice. -/
theorem SlC.pre {w : World} {a a' : Option Addr} {n c m sz k : Nat} {cells : List Value} (h : SlC w (.slice a n c) n cells) (hm : m ≤ n) (hl : cells.length = n * sz) (ha : ∀ b o, a = some ⟨b, o, none⟩ → ∃ o', a' = some ⟨b, o', none⟩ ∧ ((0 : Int) < (c : Int) → o' = o + Int.toNat 0 * k)) : SlC w (.slice a' m c) m (cells.take (m * sz)) := by
  obtain ⟨a1, c1, e, h1, h2, h3⟩ := h
  cases e
  refine ⟨a', c, rfl, by omega, h2, ?_⟩
  rcases h3 with rfl | ⟨b, o, rfl, h3⟩
  · exact Or.inl (by simp)
  · obtain ⟨o', rfl, ho⟩ := ha b o rfl
    rcases Nat.eq_zero_or_pos c with h0 | h0
    · left
      have : n = 0 := by omega
      subst this
      rw [Nat.zero_mul] at hl
      rw [List.length_eq_zero_iff.1 hl]
      simp
    · right
      refine ⟨b, o', rfl, fun j u hj => ?_⟩
      rw [ho (by omega)]
      rw [List.getElem?_take] at hj
      split at hj
      · simpa using h3 j u hj
      · cases hj
/-- The same slice, its capacity cut to its length. -/
theorem SlC.cut {w : World} {a a' : Option Addr} {n c k : Nat} {cells : List Value} (h : SlC w (.slice a n c) n cells) (ha : ∀ b o, a = some ⟨b, o, none⟩ → ∃ o', a' = some ⟨b, o', none⟩ ∧ ((0 : Int) < (n : Int) → o' = o + Int.toNat 0 * k)) (hn : n = 0 → cells = []) : SlC w (.slice a' n n) n cells := by
  obtain ⟨a1, c1, e, h1, h2, h3⟩ := h
  cases e
  refine ⟨a', n, rfl, Nat.le_refl _, by omega, ?_⟩
  rcases h3 with h3 | ⟨b, o, rfl, h3⟩
  · exact Or.inl h3
  · obtain ⟨o', rfl, ho⟩ := ha b o rfl
    rcases Nat.eq_zero_or_pos n with h0 | h0
    · exact Or.inl (hn h0)
    · right
      refine ⟨b, o', rfl, fun j u hj => ?_⟩
      rw [ho (by omega)]
      simpa using h3 j u hj
end Go.Proofs.YthlkfjoibjhaiaaGreatDoor

/-! Vj -/
namespace Go.Proofs.YthlkfjoibjhaiaaGreatDoor
set_option maxRecDepth 100000
set_option maxHeartbeats 2000000
open Go Go.RowKit
set_option linter.unusedVariables false
set_option linter.unusedSimpArgs false
/-- An order; at a fork either of two operations may come up first. -/
inductive Or3 where
  | nil
  | one (i : Nat) (r : Or3)
  | two (i j : Nat) (p q : Or3)
  | three (i j k : Nat) (p q r : Or3)
def Or3.pre : List Nat → Or3 → Or3
  | [], o => o
  | i :: l, o => .one i (Or3.pre l o)
abbrev Or3.of (l : List Nat) : Or3 := Or3.pre l .nil
/-- May the operations come up in this order: each quiet one first of all, each other one alone (or at a fork with one other)? -/
def stepsOk3 (P : Program) (ops : Array Oper) : Or3 → Array Bool → Nat → Bool
  | .nil, listed, _ => (Region.ready .any ops listed).isEmpty
  | .one i r, listed, n + 1 =>
    (match ops[i]? with
    | some o => (if quietOp P o then (Region.ready .any ops listed).contains i && Region.free .any ops listed i else Region.ready .any ops listed == [i]) && stepsOk3 P ops r (listed.setIfInBounds i true) n
    | none => false)
  | .two i j p q, listed, n + 1 =>
    (match ops[i]?, ops[j]? with
    | some o, some u => !quietOp P o && !quietOp P u && Region.ready .any ops listed == [i, j] && stepsOk3 P ops p (listed.setIfInBounds i true) n && stepsOk3 P ops q (listed.setIfInBounds j true) n
    | _, _ => false)
  | .three i j k p q r, listed, n + 1 =>
    (match ops[i]?, ops[j]?, ops[k]? with
    | some o, some u, some v => !quietOp P o && !quietOp P u && !quietOp P v && Region.ready .any ops listed == [i, j, k] && stepsOk3 P ops p (listed.setIfInBounds i true) n && stepsOk3 P ops q (listed.setIfInBounds j true) n && stepsOk3 P ops r (listed.setIfInBounds k true) n
    | _, _, _ => false)
  | _, _, 0 => false
def orderOk3 (P : Program) (ops : Array Oper) (l : Or3) : Bool := Region.noSelect ops && noDefer ops && stepsOk3 P ops l (Array.replicate ops.size false) ops.size

section
def vcJ (P : Program) (n : Nat) (ops : List Oper) : Or3 → (World → Prop) → Fm → World → (Fm → World → Prop) → Prop
  | .nil, S, s, w, K => K s w
  | .one i r, S, s, w, K => vcH1 P n ops i S s w fun S' s' w' => vcJ P n ops r S' s' w' K
  | .two i j p q, S, s, w, K => vcH1 P n ops i S s w (fun S' s' w' => vcJ P n ops p S' s' w' K) ∧ vcH1 P n ops j S s w (fun S' s' w' => vcJ P n ops q S' s' w' K)
  | .three i j k p q r, S, s, w, K => vcH1 P n ops i S s w (fun S' s' w' => vcJ P n ops p S' s' w' K) ∧ vcH1 P n ops j S s w (fun S' s' w' => vcJ P n ops q S' s' w' K) ∧ vcH1 P n ops k S s w (fun S' s' w' => vcJ P n ops r S' s' w' K)
variable {D : List Deferred} {ro : Option Nat}
theorem vcJ_sound {P : Program} {n : Nat} {opl : List Oper} {ops : Array Oper} (hol : opl.toArray = ops) {K : Fm → World → Prop} (hs : Region.noSelect ops = true) (hnd : noDefer ops = true) :
    ∀ (l : Or3) (fuel : Nat) (S : World → Prop) (listed : Array Bool) (s : Fm) (w : World), stepsOk3 P ops l listed fuel = true → S w → vcJ P n opl l S s w K → ∀ a, Fr D a n s → wpAnyD P ro .any ops (NormQ D n K) fuel S listed a w
  | .nil, fuel, S, listed, s, w, hok, hS, h, a, hF => by
    refine wpAnyD_done ?_ ⟨rfl, s, hF, h⟩ fuel
    cases fuel <;> simpa [stepsOk3] using hok
  | .one i r, 0, S, listed, s, w, hok, hS, h, a, hF => by simp [stepsOk3] at hok
  | .two i j p q, 0, S, listed, s, w, hok, hS, h, a, hF => by simp [stepsOk3] at hok
  | .three i j k p q r, 0, S, listed, s, w, hok, hS, h, a, hF => by simp [stepsOk3] at hok
  | .one i r, fuel + 1, S, listed, s, w, hok, hS, h, a, hF => by
    have ih := fun S' => vcJ_sound (P := P) (n := n) hol (K := K) hs hnd r fuel S' (listed.setIfInBounds i true)
    simp only [stepsOk3] at hok
    simp only [vcJ] at h
    cases ho : ops[i]? with
    | none => simp [ho] at hok
    | some o =>
      simp only [ho, Bool.and_eq_true] at hok
      obtain ⟨hstep, hrest⟩ := hok
      have hQ : ∀ v c (a : Act) w, NormQ D n K (.panic c) (a.put o.dst v) w → NormQ D n K (.panic c) a w := fun v c a w h => by cases h.1
      cases hq : quietOp P o with
      | true =>
        rw [if_pos hq] at hstep
        simp only [Bool.and_eq_true] at hstep
        obtain ⟨hd, s', hF', ⟨hw, hrun⟩ | ⟨hw, hK⟩⟩ := vcH1_cases hol ho h hF
        · unfold runH at hrun
          rw [if_pos hq] at hrun
          obtain ⟨v, hv, hK⟩ := QH_runs hrun
          refine wpAnyD_take (v := v) hnd ho hs hstep.2 hstep.1 (hQ v) (Or.inl ⟨hw, fun w1 hw1 => by rw [hF'.ev]; exact hv w1 hw1⟩) hS ?_
          exact ih S _ _ hrest hS hK _ (hF'.put hd v)
        · refine wpAnyD_take (v := undef) hnd ho hs hstep.2 hstep.1 (hQ _) (Or.inr ⟨hw, rfl⟩) hS ?_
          exact ih S _ _ hrest hS hK _ (hF'.put hd undef)
      | false =>
        rw [if_neg (by simp [hq])] at hstep
        have hr : Region.ready .any ops listed = [i] := by simpa using hstep
        refine wpAnyD_all hr (by simp) ?_
        intro j hj
        have : j = i := by simpa using hj
        subst this
        exact vcH1_loud hol ho hq h hF (by rw [hr]; simp) hS (fun S' s' a' w' hF' hS' hK => ih S' s' w' hrest hS' hK a' hF')
  | .two i j p q, fuel + 1, S, listed, s, w, hok, hS, h, a, hF => by
    have ihp := fun S' => vcJ_sound (P := P) (n := n) hol (K := K) hs hnd p fuel S' (listed.setIfInBounds i true)
    have ihq := fun S' => vcJ_sound (P := P) (n := n) hol (K := K) hs hnd q fuel S' (listed.setIfInBounds j true)
    simp only [stepsOk3] at hok
    simp only [vcJ] at h
    cases ho : ops[i]? with
    | none => simp [ho] at hok
    | some o =>
      cases hu : ops[j]? with
      | none => simp [ho, hu] at hok
      | some u =>
        simp only [ho, hu, Bool.and_eq_true, Bool.not_eq_true'] at hok
        obtain ⟨⟨⟨⟨hq1, hq2⟩, hr⟩, hp⟩, hq⟩ := hok
        have hr : Region.ready .any ops listed = [i, j] := by simpa using hr
        refine wpAnyD_all hr (by simp) ?_
        intro k hk
        have hk : k = i ∨ k = j := by simpa using hk
        rcases hk with rfl | rfl
        · exact vcH1_loud hol ho hq1 h.1 hF (by rw [hr]; simp) hS (fun S' s' a' w' hF' hS' hK => ihp S' s' w' hp hS' hK a' hF')
        · exact vcH1_loud hol hu hq2 h.2 hF (by rw [hr]; simp) hS (fun S' s' a' w' hF' hS' hK => ihq S' s' w' hq hS' hK a' hF')
  | .three i j k p q r, fuel + 1, S, listed, s, w, hok, hS, h, a, hF => by
    have ihp := fun S' => vcJ_sound (P := P) (n := n) hol (K := K) hs hnd p fuel S' (listed.setIfInBounds i true)
    have ihq := fun S' => vcJ_sound (P := P) (n := n) hol (K := K) hs hnd q fuel S' (listed.setIfInBounds j true)
    have ihr := fun S' => vcJ_sound (P := P) (n := n) hol (K := K) hs hnd r fuel S' (listed.setIfInBounds k true)
    simp only [stepsOk3] at hok
    simp only [vcJ] at h
    cases ho : ops[i]? with
    | none => simp [ho] at hok
    | some o =>
      cases hu : ops[j]? with
      | none => simp [ho, hu] at hok
      | some u =>
        cases hv : ops[k]? with
        | none => simp [ho, hu, hv] at hok
        | some v =>
          simp only [ho, hu, hv, Bool.and_eq_true, Bool.not_eq_true'] at hok
          obtain ⟨⟨⟨⟨⟨⟨hq1, hq2⟩, hq3⟩, hr⟩, hp⟩, hq⟩, hrr⟩ := hok
          have hr : Region.ready .any ops listed = [i, j, k] := by simpa using hr
          refine wpAnyD_all hr (by simp) ?_
          intro x hx
          have hx : x = i ∨ x = j ∨ x = k := by simpa using hx
          rcases hx with rfl | rfl | rfl
          · exact vcH1_loud hol ho hq1 h.1 hF (by rw [hr]; simp) hS (fun S' s' a' w' hF' hS' hK => ihp S' s' w' hp hS' hK a' hF')
          · exact vcH1_loud hol hu hq2 h.2.1 hF (by rw [hr]; simp) hS (fun S' s' a' w' hF' hS' hK => ihq S' s' w' hq hS' hK a' hF')
          · exact vcH1_loud hol hv hq3 h.2.2 hF (by rw [hr]; simp) hS (fun S' s' a' w' hF' hS' hK => ihr S' s' w' hrr hS' hK a' hF')

section
variable (P : Program) (n : Nat) (S : World → Prop) (K : Fm → World → Prop)
def jT (ops : List Oper) (l : Or3) (s : Fm) (w : World) (K : Fm → World → Prop) (_t : Tag (ops, l, s, K) := ⟨⟩) : Prop := vcJ P n ops l S s w K
def jO (ops : List Oper) (i : Nat) (o : Option Oper) (l : Or3) (s : Fm) (w : World) (K : Fm → World → Prop) (_t : Tag (ops, l, s, K) := ⟨⟩) : Prop :=
  match o with
  | none => False
  | some o =>
      match o.guard with
      | none => dok n o.dst ∧ runH P o s (LastP ops i) S w fun S' v w' => jT P n S' ops l (updO s o.dst v) w' K
      | some (j, want) =>
        match (ops.toArray[j]?).bind (·.dst) with
        | some d => dok n o.dst ∧ d < n ∧ grdV (s d) want
            (runH P o (upd s d (.bool want)) (LastP ops i) S w fun S' v w' => jT P n S' ops l (updO (upd s d (.bool want)) o.dst v) w' K)
            (jT P n S ops l (updO (upd s d (.bool (!want))) o.dst undef) w K)
            (jT P n S ops l (updO s o.dst undef) w K)
        | none => False
variable (ops : List Oper) (s : Fm) (w : World) (i : Nat) (l : List Nat) (r r' : Or3) (d : Option Tmp) (op : Op) (ty : TypeId) (pos : String) (af : Array Edge)
theorem jO_vc (l : Or3) : jO P n S ops i ops[i]? l s w K = vcH1 P n ops i S s w fun S' s' w' => vcJ P n ops l S' s' w' K := by
  have e : ops.toArray[i]? = ops[i]? := List.getElem?_toArray
  rw [← e]
  exact propext Iff.rfl
theorem j_nil : jT P n S ops (Or3.pre [] .nil) s w K = K s w := propext Iff.rfl
theorem j_cons : jT P n S ops (Or3.pre (i :: l) r) s w K = jO P n S ops i ops[i]? (Or3.pre l r) s w K := (jO_vc P n S K ops s w i (Or3.pre l r)).symm
theorem j_two (j : Nat) : jT P n S ops (Or3.pre [] (.two i j r r')) s w K = (jO P n S ops i ops[i]? r s w K ∧ jO P n S ops j ops[j]? r' s w K) := by
  rw [jO_vc, jO_vc]; exact propext Iff.rfl
theorem j_three (j k : Nat) (r'' : Or3) : jT P n S ops (Or3.pre [] (.three i j k r r' r'')) s w K = (jO P n S ops i ops[i]? r s w K ∧ jO P n S ops j ops[j]? r' s w K ∧ jO P n S ops k ops[k]? r'' s w K) := by
  rw [jO_vc, jO_vc, jO_vc]; exact propext Iff.rfl
theorem jO_plain (l : Or3) : jO P n S ops i (some ⟨d, op, ty, pos, af, none⟩) l s w K = (dok n d ∧ runH P ⟨d, op, ty, pos, af, none⟩ s (LastP ops i) S w fun S' v w' => jT P n S' ops l (updO s d v) w' K) := propext Iff.rfl
def jG (i : Nat) (e : Option Tmp) (want : Bool) (o : Oper) (ops : List Oper) (l : Or3) (s : Fm) (w : World) (K : Fm → World → Prop) (_t : Tag (o, ops, l, s, K) := ⟨⟩) : Prop :=
        match e with
        | some d => dok n o.dst ∧ d < n ∧ grdV (s d) want
            (runH P o (upd s d (.bool want)) (LastP ops i) S w fun S' v w' => jT P n S' ops l (updO (upd s d (.bool want)) o.dst v) w' K)
            (jT P n S ops l (updO (upd s d (.bool (!want))) o.dst undef) w K)
            (jT P n S ops l (updO s o.dst undef) w K)
        | none => False
theorem jO_grd (j : Nat) (want : Bool) (l : Or3) : jO P n S ops i (some ⟨d, op, ty, pos, af, some (j, want)⟩) l s w K = jG P n S i ((ops[j]?).bind (·.dst)) want ⟨d, op, ty, pos, af, some (j, want)⟩ ops l s w K := by
  have e : ops.toArray[j]? = ops[j]? := List.getElem?_toArray
  rw [← e]
  exact propext Iff.rfl
theorem jG_some (e : Nat) (want : Bool) (g : Option (Nat × Bool)) (l : Or3) : jG P n S i (some e) want ⟨d, op, ty, pos, af, g⟩ ops l s w K = (dok n d ∧ e < n ∧ grdV (s e) want
            (runH P ⟨d, op, ty, pos, af, g⟩ (upd s e (.bool want)) (LastP ops i) S w fun S' v w' => jT P n S' ops l (updO (upd s e (.bool want)) d v) w' K)
            (jT P n S ops l (updO (upd s e (.bool (!want))) d undef) w K)
            (jT P n S ops l (updO s d undef) w K)) := propext Iff.rfl
end
theorem drawJ {P : Program} {n id : Nat} {ops : List Oper} {s : Fm} {w : World} {Q : Post} (S : World → Prop) (l : Or3) (hm : P.follows .mixedOrders = true) (hB : orderOk3 P ops.toArray l = true)
    (h : ∀ w1, Ext w w1 → w1.heap = w.heap → S w1 ∧ jT P n S ops l s w1 fun s' w' => Q .normal s' w') : DrawVC P n ro id ops.toArray s w Q := by
  refine ⟨fun D a hF => ?_⟩
  simp only [orderOk3, Bool.and_eq_true] at hB
  obtain ⟨⟨hB1, hB2⟩, hB3⟩ := hB
  obtain ⟨hS, hv⟩ := h { w with drawn := w.drawn + 1 } ⟨rfl, rfl, rfl, Nat.le_refl _, fun _ _ => rfl⟩ rfl
  have h1 := vcJ_sound (P := P) (ro := ro) (n := n) rfl (K := fun s' w' => Q .normal s' w') hB1 hB2 l _ S _ s _ hB3 hS hv a hF
  refine wpIn_mono (wp_region_dyn hm h1) ?_
  rintro e a' w' ⟨rfl, s', hF', hK⟩
  exact ⟨s', hF', hK⟩
end
theorem stj {p q : Prop} (hq : q) (h : p = q := by simp only [↓VD, VP, VT, isAggD, reduceCtorEq, Int.reduceEq, Int.reduceNe, Int.reduceLT, Int.reduceLE, implies_true, Nat.reduceEqDiff, reduceIte, ite_true, ite_false, eq_self, Nat.reduceLT, Nat.reduceLeDiff, Nat.reduceAdd, Nat.reduceMul, Nat.reduceSub, intOf, VG, ↓VI, ↓j_nil, ↓j_cons, ↓j_two, ↓j_three, jO_plain, jO_grd, jG_some] ; exact rfl) : p := h.mpr hq
end Go.Proofs.YthlkfjoibjhaiaaGreatDoor

/-! Lpf -/
namespace Go.Proofs.YthlkfjoibjhaiaaGreatDoor
set_option maxRecDepth 100000
set_option maxHeartbeats 2000000
open Go Go.RowKit
set_option linter.unusedVariables false
set_option linter.unusedSimpArgs false
set_option maxHeartbeats 1000000
attribute [local irreducible] vcT opsT qT vcOp Q1 vcPure vcLoad vcStore ldC ldN ldD grdT grdQ vc vcOps vcQ hT
attribute [local irreducible] sumR sumP shaP keyD bucketP branchP

theorem bytes15_ok (qs : List PR) (sa : Option Addr) (sn sc : Nat) (pv : Value) (w : World) (hp : PairsAt w pv qs) (hl : qs.length ≤ 1000) :
    CallK Tryz.prog 33 [.agg [.slice sa sn sc, pv].toArray].toArray w fun v w' => Own w' w.heap.size 22 1 v (2 * qs.length) (qs.flatMap fun q => [q.kv, q.vv]) ∧ Ext w w' := by
  obtain ⟨pa, pc, rfl⟩ := slv_of hp.1
  refine enterT Tryz.func33 rfl Tryz.ntmps33 Tryz.results33 rfl (by decide) ?_
  repeat (first | exact trivial | refine stpg ?_)
  first | refine newS ?_ | refine newZ ?_
  intro w1 hE1 hz1 hB1
  repeat (first | exact trivial | refine stpg ?_)
  refine loopX (ι := Nat × Option Addr × Nat) (fun x => [(3, .slice x.2.1 (2 * x.1) x.2.2), (7, .slice pa qs.length pc), (8, .int .i64 qs.length), (9, .int .i64 x.1)])
    (fun x W => Ext w1 W ∧ w1.heap.size ≤ W.heap.size ∧ x.1 ≤ qs.length ∧ Own W w1.heap.size 22 1 (.slice x.2.1 (2 * x.1) x.2.2) (2 * x.1) ((qs.take x.1).flatMap fun q => [q.kv, q.vv])) (fun x => qs.length - x.1) (0, none, 0) ⟨.go, Nat.le_refl _, Nat.zero_le _, Own.nil _ _ _ _⟩ ?_ ?_
  · repeat (first | exact trivial | refine stpg ?_)
  · rintro ⟨i, a, c⟩ s2 w2 ⟨hE2, hz2, hi, hO2⟩
    simp only at hi hO2
    repeat (first | exact trivial | refine stpg ?_)
    refine ⟨fun hlt => ?_, fun hge => ?_⟩
    · obtain ⟨qb, qo, rfl, hR⟩ := pr_row hp.1 (by omega)
      obtain ⟨p, hx⟩ : ∃ x, qs[i]? = some x := ⟨_, List.getElem?_eq_getElem (by omega)⟩
      obtain ⟨hpk, hpv⟩ := hp.2 _ (List.mem_of_getElem? hx)
      have htk : qs.take (i + 1) = qs.take i ++ [p] := by
        obtain ⟨hil, he⟩ := List.getElem?_eq_some_iff.1 hx
        rw [List.take_succ_eq_append_getElem hil, he]
      obtain ⟨kv, vv, k, v⟩ := p
      simp only at hpk hpv
      obtain ⟨ka', kc', rfl⟩ := slv_of hpk
      obtain ⟨va', vc', rfl⟩ := slv_of hpv
      repeat (first | exact trivial | refine stpg ?_)
      refine ldPair hx ?_
      repeat (first | exact trivial | refine stpg ?_)
      first | refine newS ?_ | refine newZ ?_
      intro w3 hE3 hz3 hB3
      repeat (first | exact trivial | refine stpg ?_)
      refine ⟨rfl, ⟨rfl, rfl⟩, ?_⟩
      first | refine newS ?_ | refine newZ ?_
      intro w4 hE4 hz4 hB4
      have hO4 := hO2.ext (w' := w4) .go
      refine apS (sz := 1) (n := 2 * i) (m := 2) Tryz.underlying36 z22 c22 rfl (by decide) hO4 (by omega) (SlC.of_blk hB4 (by decide)) rfl (by intro u hu; rcases List.mem_cons.1 hu with rfl | hu; rfl; rcases List.mem_cons.1 hu with rfl | hu; rfl; cases hu) (by omega) (by rw [by22]; omega) (fun v5 w5 hO5 hg5 => ?_)
      have hE5 := below_of_grown hO4 (by omega) hg5
      have hz5 := hE5.size
      rw [show 2 * i + 2 = 2 * (i + 1) from by omega] at hO5
      obtain ⟨a5, c5, rfl⟩ := own_slice hO5
      repeat (first | exact trivial | refine stpg ?_)
      refine ⟨(i + 1, a5, c5), ⟨.go, by omega, by simp only; omega, ?_⟩, ⟨rfl, by rw [w64 (by omega) (by omega)]; rfl⟩, by simp only; omega⟩
      simp only
      rw [htk, List.flatMap_append]
      exact hO5
    · obtain rfl : i = qs.length := by omega
      rw [List.take_length] at hO2
      repeat (first | exact trivial | refine stpg ?_)
      exact ⟨hO2.base (by omega), .go⟩
theorem steps16 {nn : Nat} (hw : widB nn = true) {m : List It} (hO : OkI nn m) {K : List UInt8} {l : List SR} {c : Prop} [Decidable c] (h : l.map SR.dt = if c then [] else cutS K 0 (walkI nn K 64 0 m).1) : ∀ t ∈ l, t.ks.length ≤ 16 := by
  intro t ht
  obtain ⟨hst, _, _⟩ := walk_spec hw K 64 0 m hO hO.pre rfl
  obtain ⟨i, hi⟩ := List.getElem?_of_mem ht
  have h1 : (l.map SR.dt)[i]? = some t.dt := by rw [List.getElem?_map, hi]; rfl
  rw [h] at h1
  split at h1
  · cases h1
  · rw [cutS_get] at h1
    cases hx : (walkI nn K 64 0 m).1[i]? with
    | none => rw [hx] at h1; cases h1
    | some x =>
      rw [hx] at h1
      obtain ⟨hl, _⟩ := List.getElem?_eq_some_iff.1 hx
      have h2 := (hst i hl).1
      rw [hx, Option.some.injEq] at h2
      simp only [Option.map_some, Option.some.injEq, SR.dt, Prod.mk.injEq] at h1
      rw [← h1.2]
      refine Nat.le_trans (cutK_len _ _ _) ?_
      rw [h2]
      simp only
      rw [kidsI_len]
      exact cnt_le _
theorem Keeps15_ok (n : Int) (ps : List PR) (key : List UInt8) (pv kv : Value) (w : World) (hW : WordsAt w 1) (hp : PairsAt w pv ps) (hk : SlB w kv key) (hkl : key.length ≤ 4000000000) :
    CallK Tryz.prog 4 [.int .i64 n, pv, kv].toArray w fun v w' => v = .bool true ∧ Ext w w' := by
  obtain ⟨ka, kc, rfl⟩ := slv_of hk
  refine enterT Tryz.func4 rfl Tryz.ntmps4 Tryz.results4 rfl (by decide) ?_
  repeat (first | exact trivial | refine stpg ?_)
  refine (awake15_ok w hW).mono ?_
  rintro _ w1 ⟨rfl, hE1⟩
  have hz1 := hE1.size
  repeat (first | exact trivial | refine stpg ?_)
  refine (made_ok n ps _ w1 (hW.ext .go) (hp.ext' .go)).mono ?_
  rintro _ w2 ⟨hm0, hm1, hE2⟩
  have hz2 := hE2.size
  cases hw : widB n
  · obtain rfl := hm0 hw
    repeat (first | exact trivial | refine stpg ?_)
    refine (wide15_ok n w2).mono ?_
    rintro _ w3 ⟨rfl, hE3⟩
    have hz3 := hE3.size
    rw [hw]
    repeat (first | exact trivial | refine stpg ?_)
    exact .go
  obtain ⟨b, lv, is, rfl, hM, hI, hy⟩ := hm1 hw
  have hwn := (widB_iff n).1 hw
  obtain ⟨nn, rfl⟩ : ∃ nn : Nat, n = nn := ⟨n.toNat, by omega⟩
  have hO := madeI_ok nn (ps.map PR.dat)
  have hL := madeI_len nn (ps.map PR.dat)
  clear hm0 hm1
  generalize madeI nn (ps.map PR.dat) = m at *
  have hil : is.length ≤ 80 := by rw [← hy, List.length_map] at hL; exact hL
  obtain ⟨la, lc, rfl⟩ := slv_of hI.row.sl
  repeat (first | exact trivial | refine stpg ?_)
  refine (DocProveO_ok nn (by omega) (by omega) is m key _ _ w2 hI.at hy hO (hk.ext .go) (by omega)).mono ?_
  rintro _ w3 ⟨sv, qv, tt, js, rfl, hOs, hRk, hOp, hjs, htd, hqd, hE3⟩
  have hz3 := hE3.size
  have hSt := hRk.stepsAt hOs
  have hPr := PairsAt.ofJs hI.at .go hOp hjs
  obtain ⟨sa, sc, rfl⟩ := own_slice hOs
  obtain ⟨qa, qc, rfl⟩ := own_slice hOp
  repeat (first | exact trivial | refine stpg ?_)
  first | refine newS ?_ | refine newZ ?_
  intro w4 hE4 hz4 hB4
  repeat (first | exact trivial | refine stpg ?_)
  refine (Spare_ok key _ w4 (hk.ext .go) hkl).mono ?_
  rintro _ w5 ⟨g, fc, rfl, hF5, hE5⟩
  have hz5 := hE5.size
  rw [vbs_app] at hF5
  have hK5 := hF5.head (by rw [vbs_len, Nat.mul_one])
  rw [← vbs_app] at hF5
  have hkS5 : SlB w5 (.slice (some ⟨g, 0, none⟩) key.length fc) key := SlC.of_own hK5
  repeat (first | exact trivial | refine stpg ?_)
  refine (Prove_hproof_ok nn hw _ _ _ m key w5 (hW.ext .go) (hM.ext .go) hO hkS5 (by omega)).mono ?_
  rintro _ w6 ⟨svA, qvA, tA, qA, rfl, hOsA, hRkA, hOpA, hRbA, htA, hqA, hE6⟩
  have hz6 := hE6.size
  have hStA := hRkA.stepsAt hOsA
  have hPrA := PairsAt.ofRun hOpA hRbA
  obtain ⟨saA, scA, rfl⟩ := own_slice hOsA
  obtain ⟨qaA, qcA, rfl⟩ := own_slice hOpA
  repeat (first | exact trivial | refine stpg ?_)
  first | refine newS ?_ | refine newZ ?_
  intro w7 hE7 hz7 hB7
  repeat (first | exact trivial | refine stpg ?_)
  refine (Prove_hproof_ok nn hw _ _ _ m key w7 (hW.ext .go) (hM.ext .go) hO (hkS5.ext .go) (by omega)).mono ?_
  rintro _ w8 ⟨svB, qvB, tB, qB, rfl, hOsB, hRkB, hOpB, hRbB, htB, hqB, hE8⟩
  have hz8 := hE8.size
  have hStB := hRkB.stepsAt hOsB
  have hPrB := PairsAt.ofRun hOpB hRbB
  obtain ⟨saB, scB, rfl⟩ := own_slice hOsB
  obtain ⟨qaB, qcB, rfl⟩ := own_slice hOpB
  repeat (first | exact trivial | refine stpg ?_)
  first | refine newS ?_ | refine newZ ?_
  intro w9 hE9 hz9 hB9
  repeat (first | exact trivial | refine stpg ?_)
  refine (Same15_ok _ _ (tA.map SR.dt) (tA.map SR.dt) (qA.map PR.dat) (qA.map PR.dat) w9 ⟨_, _, tA, qA, rfl, hStA.ext' .go, hPrA.ext' .go, rfl, rfl⟩ ⟨_, _, tt, js.map IR.pr, rfl, hSt.ext' .go, hPr.ext' .go, by rw [htd, htA], by rw [hqd, hqA]⟩).mono ?_
  rintro _ w10 ⟨rfl, hE10⟩
  have hz10 := hE10.size
  rw [show decide (tA.map SR.dt = tA.map SR.dt ∧ qA.map PR.dat = qA.map PR.dat) = true from decide_eq_true ⟨rfl, rfl⟩]
  repeat (first | exact trivial | refine stpg ?_)
  refine (Same15_ok _ _ (tB.map SR.dt) (tB.map SR.dt) (qB.map PR.dat) (qB.map PR.dat) w10 ⟨_, _, tB, qB, rfl, hStB.ext' .go, hPrB.ext' .go, rfl, rfl⟩ ⟨_, _, tt, js.map IR.pr, rfl, hSt.ext' .go, hPr.ext' .go, by rw [htd, htB], by rw [hqd, hqB]⟩).mono ?_
  rintro _ w11 ⟨rfl, hE11⟩
  have hz11 := hE11.size
  rw [show decide (tB.map SR.dt = tB.map SR.dt ∧ qB.map PR.dat = qB.map PR.dat) = true from decide_eq_true ⟨rfl, rfl⟩]
  have hfl : (key ++ behindL 40).length = key.length + 40 := by rw [List.length_append, behindL_len]
  have hF11 : Own w11 w4.heap.size 5 1 (.slice (some ⟨g, 0, none⟩) (key.length + 40) fc) (key.length + 40) (vbs (key ++ behindL 40)) := hF5.ext .go
  repeat (first | exact trivial | refine stpg ?_)
  refine (Kept_ok (key ++ behindL 40) key _ _ w11 (by show SlC w11 _ (key ++ behindL 40).length _; rw [hfl]; exact SlC.of_own hF11) (hk.ext .go) rfl hkl).mono ?_
  rintro _ w12 ⟨rfl, hE12⟩
  have hz12 := hE12.size
  repeat (first | exact trivial | refine stpg ?_)
  refine (Over_ok (key ++ behindL 40) _ w4.heap.size w12 (by rw [hfl]; exact hF11.ext hE12) (by omega)).mono ?_
  rintro _ w13 ⟨rfl, ys, hys, hF13, hE13, hOB13⟩
  have hz13 := hE13.size
  rw [hfl] at hys hF13
  have hF12 := hF11.ext hE12
  have hgl : ∀ q, (Value.slice (some ⟨g, 0, none⟩) (key.length + 40) fc).ownBlock = some q → q < w5.heap.size := hF5.top
  have hOsA13 := (hOsA.ext (w' := w12) .go).onlyT hF12 (by decide) hOB13
  have hRkA13 := RunK.onlyT hF12 (by decide) hOB13 (hRkA.ext (w' := w12) .go)
  have hOpA13 := (hOpA.ext (w' := w12) .go).onlyT hF12 (by decide) hOB13
  have hRbA13 := RunB.only_lt hOB13 hgl (hRbA.ext (w' := w12) .go)
  have hOsB13 := (hOsB.ext (w' := w12) .go).onlyT hF12 (by decide) hOB13
  have hRkB13 := RunK.onlyT hF12 (by decide) hOB13 (hRkB.ext (w' := w12) .go)
  have hOpB13 := (hOpB.ext (w' := w12) .go).onlyT hF12 (by decide) hOB13
  have hRbB13 := RunB.only_lt hOB13 (fun q hq => Nat.lt_of_lt_of_le (hgl q hq) (by omega)) (hRbB.ext (w' := w12) .go)
  have hB713 := hOB13 _ _ _ (hF12.ne_blk (hB7.ext (w' := w12) .go) (by decide)) (hB7.ext (w' := w12) .go)
  have hB913 := hOB13 _ _ _ (hF12.ne_blk (hB9.ext (w' := w12) .go) (by decide)) (hB9.ext (w' := w12) .go)
  have hB413 := hOB13 _ _ _ (hF12.ne_blk (hB4.ext (w' := w12) .go) (by decide)) (hB4.ext (w' := w12) .go)
  have hStA13 := hRkA13.stepsAt hOsA13
  have hPrA13 := PairsAt.ofRun hOpA13 hRbA13
  have hPrB13 := PairsAt.ofRun hOpB13 hRbB13
  have hqa : ∀ (q : List PR), q.map PR.dat = (if 64 < key.length then [] else (walkI nn (keyD nn key) 64 0 m).2.map It.pr) → q.length ≤ 80 ∧ ∀ p ∈ q, p.k.length ≤ 64 ∧ p.v.length ≤ 256 := fun q hq => by
    obtain ⟨_, hend, _⟩ := walk_spec hw (keyD nn key) 64 0 m hO hO.pre rfl
    split at hq
    · have : q = [] := by simpa using hq
      subst this
      exact ⟨Nat.zero_le _, by simp⟩
    · rw [hend] at hq
      have h1 := congrArg List.length hq
      rw [List.length_map, List.length_map] at h1
      have h2 := wmI_len (keyD nn key) (walkI nn (keyD nn key) 64 0 m).1.length 0 m
      refine ⟨by omega, fun p hp => ?_⟩
      obtain ⟨y, hy, he⟩ := List.mem_map.1 (hq ▸ List.mem_map_of_mem (f := PR.dat) hp)
      have := hO.short y ((wmI_sub (keyD nn key) _ 0).1 hy).1
      simp only [It.pr, PR.dat, Prod.mk.injEq] at he
      rw [he.1, he.2] at this
      exact this
  obtain ⟨hqnA, hqkA⟩ := hqa qA hqA
  obtain ⟨hqnB, hqkB⟩ := hqa qB hqB
  obtain ⟨LL, hLLe⟩ : ∃ L : List (Value × List UInt8), L = qA.flatMap prB ++ (qB.flatMap prB ++ [(.slice (some ⟨g, 0, none⟩) (key.length + 40) fc, ys)]) := ⟨_, rfl⟩
  have hprl : ∀ q : List PR, (q.flatMap prB).length = 2 * q.length := fun q => by
    induction q with
    | nil => rfl
    | cons a q ih => rw [List.flatMap_cons, List.length_append, ih]; simp [prB]; omega
  have hprm : ∀ q : List PR, (q.flatMap prB).map Prod.fst = q.flatMap fun q => [q.kv, q.vv] := fun q => by
    induction q with
    | nil => rfl
    | cons a q ih => rw [List.flatMap_cons, List.map_append, ih, List.flatMap_cons]; rfl
  have hLl : LL.length = 2 * qA.length + 2 * qB.length + 1 := by rw [hLLe, List.length_append, List.length_append, hprl, hprl]; simp; omega
  have hLn : 2 * qA.length + 2 * qB.length + 1 = LL.length := hLl.symm
  have hLm : ((qA.flatMap fun q => [q.kv, q.vv]) ++ (qB.flatMap fun q => [q.kv, q.vv])) ++ [.slice (some ⟨g, 0, none⟩) (key.length + 40) fc] = LL.map Prod.fst := by rw [hLLe, List.map_append, List.map_append, hprm, hprm, List.append_assoc]; rfl
  have hlB : (qB.flatMap fun q => [q.kv, q.vv]).length = 2 * qB.length * 1 := by rw [← hprm, List.length_map, hprl, Nat.mul_one]
  have honeB : ∀ u ∈ (qB.flatMap fun q => [q.kv, q.vv]), oneCellV u = true := fun u hu => by
    obtain ⟨p, hp, hu⟩ := List.mem_flatMap.1 hu
    obtain ⟨h1, h2⟩ := hPrB13.2 p hp
    obtain ⟨_, _, e1⟩ := slv_of h1
    obtain ⟨_, _, e2⟩ := slv_of h2
    rw [e1, e2] at hu
    simp only [List.mem_cons, List.not_mem_nil, or_false] at hu
    rcases hu with rfl | rfl <;> rfl
  have hpb : ∀ (q : List PR), (∀ p ∈ q, p.k.length ≤ 64 ∧ p.v.length ≤ 256) → ∀ t ∈ q.flatMap prB, t.2.length ≤ 4000000000 := fun q hq t ht => by
    obtain ⟨p, hp, hu⟩ := List.mem_flatMap.1 ht
    have := hq p hp
    simp only [prB, List.mem_cons, List.not_mem_nil, or_false] at hu
    rcases hu with rfl | rfl <;> simp only <;> omega
  have h0L : ∀ t ∈ LL, Own w13 w4.heap.size 5 1 t.1 t.2.length (vbs t.2) := fun t ht => by
    rw [hLLe] at ht
    rcases List.mem_append.1 ht with ht | ht
    · exact (hRbA13.mem t ht).own.base (by omega)
    rcases List.mem_append.1 ht with ht | ht
    · exact (hRbB13.mem t ht).own.base (by omega)
    · rw [List.mem_singleton] at ht
      subst ht
      simp only
      rw [hys]
      exact hF13
  have hnL : ∀ t ∈ LL, t.2.length ≤ 4000000040 := fun t ht => by
    rw [hLLe] at ht
    rcases List.mem_append.1 ht with ht | ht
    · have := hpb qA hqkA t ht; omega
    rcases List.mem_append.1 ht with ht | ht
    · have := hpb qB hqkB t ht; omega
    · rw [List.mem_singleton] at ht
      subst ht
      simp only
      omega
  have hLL : LL.length ≤ 100000000000 := by omega
  have hfar : LL.Pairwise fun a b => ∀ g, a.1.ownBlock = some g → b.1.ownBlock ≠ some g := by
    rw [hLLe]
    refine List.pairwise_append.2 ⟨hRbA13.far, List.pairwise_append.2 ⟨hRbB13.far, List.pairwise_singleton _ _, fun a ha c hc q hq he => ?_⟩, fun a ha c hc q hq he => ?_⟩
    · rw [List.mem_singleton] at hc
      subst hc
      have h1 := hgl q he
      have h2 := (hRbB13.mem a ha).own.lo q hq
      omega
    · rcases List.mem_append.1 hc with hc | hc
      · have h1 := (hRbA13.mem a ha).top q hq
        have h2 := (hRbB13.mem c hc).own.lo q he
        omega
      · rw [List.mem_singleton] at hc
        subst hc
        have h1 := hgl q he
        have h2 := (hRbA13.mem a ha).own.lo q hq
        omega
  have hSt13 := hSt.ext' (w' := w13) .go
  have hPr13 := hPr.ext' (w' := w13) .go
  repeat (first | exact trivial | refine stq ?_ | refine ldCg ?_ | refine ldNg ?_ | refine ldSg ?_ | refine ldSb ?_ | refine bnd ?_ | refine bnd1 ?_)
  rw [v_seq]
  refine joinX (κ := Unit) (fun _ => [(2, .slice ka key.length kc), (7, .pointer (some ⟨b, 0, none⟩)), (9, .pointer (some ⟨w3.heap.size, 0, none⟩)), (13, .pointer (some ⟨w6.heap.size, 0, none⟩)), (15, .pointer (some ⟨w8.heap.size, 0, none⟩))])
    (fun _ W => Below w4.heap.size w13 W ∧ KeepT 5 w13 W) ?_ ?_
  · repeat (first | exact trivial | refine stp ?_ | refine ldCg ?_ | refine ldNg ?_ | refine ldSg ?_ | refine ldSb ?_ | refine bnd ?_ | refine bnd1 ?_)
    refine drawJ (KeepT 5 w13) (Or3.pre [0, 1, 2, 3, 4, 5, 7, 10] (.two 6 11 (Or3.pre [] (.two 8 11 (Or3.pre [] (.two 9 11 (Or3.pre [11, 12, 13, 14, 15] .nil) (Or3.pre [9, 12, 13, 14, 15] .nil))) (Or3.pre [8, 9, 12, 13, 14, 15] .nil))) (Or3.pre [6, 8, 9, 12, 13, 14, 15] .nil))) mixed (by decide +kernel) (fun w14 hE14 _ => ⟨KeepT.of_ext hE14, ?_⟩)
    have hz14 := hE14.size
    repeat (first | exact trivial | refine stj ?_ | refine ldCg ?_ | refine ldNg ?_ | refine ldSg ?_ | refine ldSb ?_ | refine bnd ?_ | refine bnd1 ?_)
    refine loadS_of (.agg [.slice saA tA.length scA, .slice qaA qA.length qcA].toArray) (fun w' h => by refine stp ?_; exact ldNg rfl (h _ _ _ (by decide) hB713)) ?_
    repeat (first | exact trivial | refine stj ?_ | refine ldCg ?_ | refine ldNg ?_ | refine ldSg ?_ | refine ldSb ?_ | refine bnd ?_ | refine bnd1 ?_)
    refine loadS_of (.agg [.slice sa tt.length sc, .slice qa js.length qc].toArray) (fun w' h => by refine stp ?_; exact ldNg rfl (h _ _ _ (by decide) hB413)) ?_
    repeat (first | exact trivial | refine stj ?_ | refine ldCg ?_ | refine ldNg ?_ | refine ldSg ?_ | refine ldSb ?_ | refine bnd ?_ | refine bnd1 ?_)
    refine (Same15_ok _ _ (tA.map SR.dt) (tA.map SR.dt) (qA.map PR.dat) (qA.map PR.dat) w14 ⟨_, _, tA, qA, rfl, hStA13.ext' .go, hPrA13.ext' .go, rfl, rfl⟩ ⟨_, _, tt, js.map IR.pr, rfl, hSt13.ext' .go, hPr13.ext' .go, by rw [htd, htA], by rw [hqd, hqA]⟩).mono ?_
    rintro _ w15 ⟨rfl, hE15⟩
    have hz15 := hE15.size
    refine toldS (KeepT.of_ext (w := w13) .go) ?_
    rw [show decide (tA.map SR.dt = tA.map SR.dt ∧ qA.map PR.dat = qA.map PR.dat) = true from decide_eq_true ⟨rfl, rfl⟩]
    repeat (first | exact trivial | refine stj ?_ | refine ldCg ?_ | refine ldNg ?_ | refine ldSg ?_ | refine ldSb ?_ | refine bnd ?_ | refine bnd1 ?_)
    refine loadS_of (.agg [.slice saA tA.length scA, .slice qaA qA.length qcA].toArray) (fun w' h => by refine stp ?_; exact ldNg rfl (h _ _ _ (by decide) hB713)) ?_
    repeat (first | exact trivial | refine stj ?_ | refine ldCg ?_ | refine ldNg ?_ | refine ldSg ?_ | refine ldSb ?_ | refine bnd ?_ | refine bnd1 ?_)
    refine loadS_of (.agg [.slice saB tB.length scB, .slice qaB qB.length qcB].toArray) (fun w' h => by refine stp ?_; exact ldNg rfl (h _ _ _ (by decide) hB913)) ?_
    repeat (first | exact trivial | refine stj ?_ | refine ldCg ?_ | refine ldNg ?_ | refine ldSg ?_ | refine ldSb ?_ | refine bnd ?_ | refine bnd1 ?_)
    refine ⟨?_, ?_⟩
    · refine (bytes15_ok qA saA tA.length scA _ w15 (hPrA13.ext' .go) (by omega)).mono ?_
      rintro _ w16 ⟨hO16, hE16⟩
      have hz16 := hE16.size
      obtain ⟨a16, c16, rfl⟩ := own_slice hO16
      refine toldS (KeepT.of_ext (w := w13) .go) ?_
      repeat (first | exact trivial | refine stj ?_ | refine ldCg ?_ | refine ldNg ?_ | refine ldSg ?_ | refine ldSb ?_ | refine bnd ?_ | refine bnd1 ?_)
      refine ⟨?_, ?_⟩
      · refine (bytes15_ok qB saB tB.length scB _ w16 (hPrB13.ext' .go) (by omega)).mono ?_
        rintro _ w17 ⟨hO17, hE17⟩
        have hz17 := hE17.size
        obtain ⟨a17, c17, rfl⟩ := own_slice hO17
        refine toldS (KeepT.of_ext (w := w13) .go) ?_
        repeat (first | exact trivial | refine stj ?_ | refine ldCg ?_ | refine ldNg ?_ | refine ldSg ?_ | refine ldSb ?_ | refine bnd ?_ | refine bnd1 ?_)
        refine ⟨?_, ?_⟩
        · have hX18 := (hO16.ext (w' := w17) .go).base (base' := w13.heap.size) (by omega)
          refine apS (sz := 1) (n := 2 * qA.length) (m := 2 * qB.length) Tryz.underlying36 z22 c22 rfl (by decide) hX18 (by omega) (SlC.of_own hO17) hlB honeB (by omega) (by rw [by22]; omega) (fun v18 w18 hO18 hg18 => ?_)
          have hE18 := below_of_grown hX18 (by omega) hg18
          have hz18 := hE18.size
          obtain ⟨a18, c18, rfl⟩ := own_slice hO18
          refine toldS (KeepT.of_ext (w := w13) .go) ?_
          repeat (first | exact trivial | refine stj ?_ | refine ldCg ?_ | refine ldNg ?_ | refine ldSg ?_ | refine ldSb ?_ | refine bnd ?_ | refine bnd1 ?_)
          refine ⟨rfl, rfl, ?_⟩
          first | refine newS ?_ | refine newZ ?_
          intro w19 hE19 hz19 hB19
          refine toldS (KeepT.of_ext (w := w13) .go) ?_
          repeat (first | exact trivial | refine stj ?_ | refine ldCg ?_ | refine ldNg ?_ | refine ldSg ?_ | refine ldSb ?_ | refine bnd ?_ | refine bnd1 ?_)
          have hX20 := (hO18.ext (w' := w19) .go)
          refine apS (sz := 1) (n := 2 * qA.length + 2 * qB.length) (m := 1) Tryz.underlying36 z22 c22 rfl (by decide) hX20 (by omega) (SlC.of_blk hB19 (by decide)) rfl (by intro u hu; rcases List.mem_cons.1 hu with rfl | hu; rfl; cases hu) (by omega) (by rw [by22]; omega) (fun v20 w20 hO20 hg20 => ?_)
          have hE20 := below_of_grown hX20 (by omega) hg20
          have hz20 := hE20.size
          rw [hLn, hLm] at hO20
          obtain ⟨a20, c20, rfl⟩ := own_slice hO20
          refine toldS (KeepT.of_ext (w := w13) .go) ?_
          repeat (first | exact trivial | refine stj ?_ | refine ldCg ?_ | refine ldNg ?_ | refine ldSg ?_ | refine ldSb ?_ | refine bnd ?_ | refine bnd1 ?_)
          have hW21 : Ext w13 w20 := .go
          refine (ApartL_ok LL _ w13.heap.size w4.heap.size w20 hO20 (fun t ht => (h0L t ht).ext hW21) hfar (by omega) hnL hLL).mono ?_
          rintro _ w21 ⟨rfl, _, hKT21, hE21⟩
          have hz21 := hE21.size
          refine toldS (show KeepT 5 w13 w21 from fun q T l hT hB => hKT21 q T l hT (hB.ext hW21)) ?_
          repeat (first | exact trivial | refine stj ?_ | refine ldCg ?_ | refine ldNg ?_ | refine ldSg ?_ | refine ldSb ?_ | refine bnd ?_ | refine bnd1 ?_)
          exact ⟨(), (hW21.mono (by omega)).trans hE21, fun q T l hT hB => hKT21 q T l hT (hB.ext hW21)⟩
        · refine ⟨rfl, rfl, ?_⟩
          first | refine newS ?_ | refine newZ ?_
          intro w18 hE18 hz18 hB18
          refine toldS (KeepT.of_ext (w := w13) .go) ?_
          repeat (first | exact trivial | refine stj ?_ | refine ldCg ?_ | refine ldNg ?_ | refine ldSg ?_ | refine ldSb ?_ | refine bnd ?_ | refine bnd1 ?_)
          have hX19 := (hO16.ext (w' := w18) .go).base (base' := w13.heap.size) (by omega)
          refine apS (sz := 1) (n := 2 * qA.length) (m := 2 * qB.length) Tryz.underlying36 z22 c22 rfl (by decide) hX19 (by omega) (SlC.of_own (hO17.ext (w' := w18) .go)) hlB honeB (by omega) (by rw [by22]; omega) (fun v19 w19 hO19 hg19 => ?_)
          have hE19 := below_of_grown hX19 (by omega) hg19
          have hz19 := hE19.size
          have hF19 := OnlyBy.of_grown hg19 _ _ _ (fun e => by have h1 := hO16.top _ e; have h2 := hO16.lo _ e; omega) hB18
          obtain ⟨a19, c19, rfl⟩ := own_slice hO19
          refine toldS (KeepT.of_ext (w := w13) .go) ?_
          repeat (first | exact trivial | refine stj ?_ | refine ldCg ?_ | refine ldNg ?_ | refine ldSg ?_ | refine ldSb ?_ | refine bnd ?_ | refine bnd1 ?_)
          have hX20 := hO19
          refine apS (sz := 1) (n := 2 * qA.length + 2 * qB.length) (m := 1) Tryz.underlying36 z22 c22 rfl (by decide) hX20 (by omega) (SlC.of_blk hF19 (by decide)) rfl (by intro u hu; rcases List.mem_cons.1 hu with rfl | hu; rfl; cases hu) (by omega) (by rw [by22]; omega) (fun v20 w20 hO20 hg20 => ?_)
          have hE20 := below_of_grown hX20 (by omega) hg20
          have hz20 := hE20.size
          rw [hLn, hLm] at hO20
          obtain ⟨a20, c20, rfl⟩ := own_slice hO20
          refine toldS (KeepT.of_ext (w := w13) .go) ?_
          repeat (first | exact trivial | refine stj ?_ | refine ldCg ?_ | refine ldNg ?_ | refine ldSg ?_ | refine ldSb ?_ | refine bnd ?_ | refine bnd1 ?_)
          have hW21 : Ext w13 w20 := .go
          refine (ApartL_ok LL _ w13.heap.size w4.heap.size w20 hO20 (fun t ht => (h0L t ht).ext hW21) hfar (by omega) hnL hLL).mono ?_
          rintro _ w21 ⟨rfl, _, hKT21, hE21⟩
          have hz21 := hE21.size
          refine toldS (show KeepT 5 w13 w21 from fun q T l hT hB => hKT21 q T l hT (hB.ext hW21)) ?_
          repeat (first | exact trivial | refine stj ?_ | refine ldCg ?_ | refine ldNg ?_ | refine ldSg ?_ | refine ldSb ?_ | refine bnd ?_ | refine bnd1 ?_)
          exact ⟨(), (hW21.mono (by omega)).trans hE21, fun q T l hT hB => hKT21 q T l hT (hB.ext hW21)⟩
      · refine ⟨rfl, rfl, ?_⟩
        first | refine newS ?_ | refine newZ ?_
        intro w17 hE17 hz17 hB17
        refine toldS (KeepT.of_ext (w := w13) .go) ?_
        repeat (first | exact trivial | refine stj ?_ | refine ldCg ?_ | refine ldNg ?_ | refine ldSg ?_ | refine ldSb ?_ | refine bnd ?_ | refine bnd1 ?_)
        refine (bytes15_ok qB saB tB.length scB _ w17 (hPrB13.ext' .go) (by omega)).mono ?_
        rintro _ w18 ⟨hO18, hE18⟩
        have hz18 := hE18.size
        obtain ⟨a18, c18, rfl⟩ := own_slice hO18
        refine toldS (KeepT.of_ext (w := w13) .go) ?_
        repeat (first | exact trivial | refine stj ?_ | refine ldCg ?_ | refine ldNg ?_ | refine ldSg ?_ | refine ldSb ?_ | refine bnd ?_ | refine bnd1 ?_)
        have hX19 := (hO16.ext (w' := w18) .go).base (base' := w13.heap.size) (by omega)
        refine apS (sz := 1) (n := 2 * qA.length) (m := 2 * qB.length) Tryz.underlying36 z22 c22 rfl (by decide) hX19 (by omega) (SlC.of_own hO18) hlB honeB (by omega) (by rw [by22]; omega) (fun v19 w19 hO19 hg19 => ?_)
        have hE19 := below_of_grown hX19 (by omega) hg19
        have hz19 := hE19.size
        have hF19 := OnlyBy.of_grown hg19 _ _ _ (fun e => by have h1 := hO16.top _ e; have h2 := hO16.lo _ e; omega) (hB17.ext (w' := w18) .go)
        obtain ⟨a19, c19, rfl⟩ := own_slice hO19
        refine toldS (KeepT.of_ext (w := w13) .go) ?_
        repeat (first | exact trivial | refine stj ?_ | refine ldCg ?_ | refine ldNg ?_ | refine ldSg ?_ | refine ldSb ?_ | refine bnd ?_ | refine bnd1 ?_)
        have hX20 := hO19
        refine apS (sz := 1) (n := 2 * qA.length + 2 * qB.length) (m := 1) Tryz.underlying36 z22 c22 rfl (by decide) hX20 (by omega) (SlC.of_blk hF19 (by decide)) rfl (by intro u hu; rcases List.mem_cons.1 hu with rfl | hu; rfl; cases hu) (by omega) (by rw [by22]; omega) (fun v20 w20 hO20 hg20 => ?_)
        have hE20 := below_of_grown hX20 (by omega) hg20
        have hz20 := hE20.size
        rw [hLn, hLm] at hO20
        obtain ⟨a20, c20, rfl⟩ := own_slice hO20
        refine toldS (KeepT.of_ext (w := w13) .go) ?_
        repeat (first | exact trivial | refine stj ?_ | refine ldCg ?_ | refine ldNg ?_ | refine ldSg ?_ | refine ldSb ?_ | refine bnd ?_ | refine bnd1 ?_)
        have hW21 : Ext w13 w20 := .go
        refine (ApartL_ok LL _ w13.heap.size w4.heap.size w20 hO20 (fun t ht => (h0L t ht).ext hW21) hfar (by omega) hnL hLL).mono ?_
        rintro _ w21 ⟨rfl, _, hKT21, hE21⟩
        have hz21 := hE21.size
        refine toldS (show KeepT 5 w13 w21 from fun q T l hT hB => hKT21 q T l hT (hB.ext hW21)) ?_
        repeat (first | exact trivial | refine stj ?_ | refine ldCg ?_ | refine ldNg ?_ | refine ldSg ?_ | refine ldSb ?_ | refine bnd ?_ | refine bnd1 ?_)
        exact ⟨(), (hW21.mono (by omega)).trans hE21, fun q T l hT hB => hKT21 q T l hT (hB.ext hW21)⟩
    · refine ⟨rfl, rfl, ?_⟩
      first | refine newS ?_ | refine newZ ?_
      intro w16 hE16 hz16 hB16
      refine toldS (KeepT.of_ext (w := w13) .go) ?_
      repeat (first | exact trivial | refine stj ?_ | refine ldCg ?_ | refine ldNg ?_ | refine ldSg ?_ | refine ldSb ?_ | refine bnd ?_ | refine bnd1 ?_)
      refine (bytes15_ok qA saA tA.length scA _ w16 (hPrA13.ext' .go) (by omega)).mono ?_
      rintro _ w17 ⟨hO17, hE17⟩
      have hz17 := hE17.size
      obtain ⟨a17, c17, rfl⟩ := own_slice hO17
      refine toldS (KeepT.of_ext (w := w13) .go) ?_
      repeat (first | exact trivial | refine stj ?_ | refine ldCg ?_ | refine ldNg ?_ | refine ldSg ?_ | refine ldSb ?_ | refine bnd ?_ | refine bnd1 ?_)
      refine (bytes15_ok qB saB tB.length scB _ w17 (hPrB13.ext' .go) (by omega)).mono ?_
      rintro _ w18 ⟨hO18, hE18⟩
      have hz18 := hE18.size
      obtain ⟨a18, c18, rfl⟩ := own_slice hO18
      refine toldS (KeepT.of_ext (w := w13) .go) ?_
      repeat (first | exact trivial | refine stj ?_ | refine ldCg ?_ | refine ldNg ?_ | refine ldSg ?_ | refine ldSb ?_ | refine bnd ?_ | refine bnd1 ?_)
      have hX19 := (hO17.ext (w' := w18) .go).base (base' := w13.heap.size) (by omega)
      refine apS (sz := 1) (n := 2 * qA.length) (m := 2 * qB.length) Tryz.underlying36 z22 c22 rfl (by decide) hX19 (by omega) (SlC.of_own hO18) hlB honeB (by omega) (by rw [by22]; omega) (fun v19 w19 hO19 hg19 => ?_)
      have hE19 := below_of_grown hX19 (by omega) hg19
      have hz19 := hE19.size
      have hF19 := OnlyBy.of_grown hg19 _ _ _ (fun e => by have h1 := hO17.top _ e; have h2 := hO17.lo _ e; omega) (hB16.ext (w' := w18) .go)
      obtain ⟨a19, c19, rfl⟩ := own_slice hO19
      refine toldS (KeepT.of_ext (w := w13) .go) ?_
      repeat (first | exact trivial | refine stj ?_ | refine ldCg ?_ | refine ldNg ?_ | refine ldSg ?_ | refine ldSb ?_ | refine bnd ?_ | refine bnd1 ?_)
      have hX20 := hO19
      refine apS (sz := 1) (n := 2 * qA.length + 2 * qB.length) (m := 1) Tryz.underlying36 z22 c22 rfl (by decide) hX20 (by omega) (SlC.of_blk hF19 (by decide)) rfl (by intro u hu; rcases List.mem_cons.1 hu with rfl | hu; rfl; cases hu) (by omega) (by rw [by22]; omega) (fun v20 w20 hO20 hg20 => ?_)
      have hE20 := below_of_grown hX20 (by omega) hg20
      have hz20 := hE20.size
      rw [hLn, hLm] at hO20
      obtain ⟨a20, c20, rfl⟩ := own_slice hO20
      refine toldS (KeepT.of_ext (w := w13) .go) ?_
      repeat (first | exact trivial | refine stj ?_ | refine ldCg ?_ | refine ldNg ?_ | refine ldSg ?_ | refine ldSb ?_ | refine bnd ?_ | refine bnd1 ?_)
      have hW21 : Ext w13 w20 := .go
      refine (ApartL_ok LL _ w13.heap.size w4.heap.size w20 hO20 (fun t ht => (h0L t ht).ext hW21) hfar (by omega) hnL hLL).mono ?_
      rintro _ w21 ⟨rfl, _, hKT21, hE21⟩
      have hz21 := hE21.size
      refine toldS (show KeepT 5 w13 w21 from fun q T l hT hB => hKT21 q T l hT (hB.ext hW21)) ?_
      repeat (first | exact trivial | refine stj ?_ | refine ldCg ?_ | refine ldNg ?_ | refine ldSg ?_ | refine ldSb ?_ | refine bnd ?_ | refine bnd1 ?_)
      exact ⟨(), (hW21.mono (by omega)).trans hE21, fun q T l hT hB => hKT21 q T l hT (hB.ext hW21)⟩
  rintro ⟨⟩ s60 w60 ⟨hE60, hK60⟩
  have hz60 := hE60.size
  have hE460 : Ext w4 w60 := (show Below w4.heap.size w4 w12 from (.go : Ext w4 w12)).trans (hE13.trans hE60)
  have hB760 := hK60 _ _ _ (by decide) hB713
  have hB960 := hK60 _ _ _ (by decide) hB913
  have hOsA60 := hOsA13.keepY (by decide) hK60
  have hRkA60 := RunK.keepT (by decide) hK60 hRkA13
  have hOpA60 := hOpA13.keepY (by decide) hK60
  have hOsB60 := hOsB13.keepY (by decide) hK60
  have hRkB60 := RunK.keepT (by decide) hK60 hRkB13
  repeat (first | exact trivial | refine stpg ?_)
  refine loopX (ι := Nat × List SR) (fun x => [(2, .slice ka key.length kc), (7, .pointer (some ⟨b, 0, none⟩)), (9, .pointer (some ⟨w3.heap.size, 0, none⟩)), (13, .pointer (some ⟨w6.heap.size, 0, none⟩)), (15, .pointer (some ⟨w8.heap.size, 0, none⟩)), (100, .int .i64 tA.length), (101, .int .i64 x.1)])
    (fun x W => x.1 ≤ tA.length ∧ x.2.length = tA.length ∧ (∀ t ∈ x.2, t.ks.length ≤ 16) ∧ Below w4.heap.size w60 W ∧ Own W w5.heap.size 51 2 (.slice saA tA.length scA) tA.length (x.2.flatMap SR.cells) ∧ RunK W w6.heap.size w5.heap.size x.2 ∧ Own W w5.heap.size 47 2 (.slice qaA qA.length qcA) qA.length (qA.flatMap PR.cells) ∧
      Own W w7.heap.size 51 2 (.slice saB tB.length scB) tB.length (tB.flatMap SR.cells) ∧ RunK W w8.heap.size w7.heap.size tB ∧ Blk W w6.heap.size 26 [.slice saA tA.length scA, .slice qaA qA.length qcA] ∧ Blk W w8.heap.size 26 [.slice saB tB.length scB, .slice qaB qB.length qcB]) (fun x => tA.length - x.1) (0, tA)
    ⟨Nat.zero_le _, rfl, steps16 hw hO htA, Below.refl _ _, hOsA60, hRkA60, hOpA60, hOsB60, hRkB60, hB760, hB960⟩ ?_ ?_
  · repeat (first | exact trivial | refine stpg ?_)
  · rintro ⟨i, uA⟩ s61 w61 ⟨hi, hul, h16, hE61, hOs61, hRk61, hOp61, hOb61, hRb61, hB761, hB961⟩
    simp only at hi hul h16 hOs61 hRk61
    have hz61 := hE61.size
    repeat (first | exact trivial | refine stpg ?_)
    refine ⟨fun hlt => ?_, fun hge => ?_⟩
    · obtain ⟨t, ht⟩ : ∃ x, uA[i]? = some x := ⟨_, List.getElem?_eq_getElem (by omega)⟩
      obtain ⟨gs, cap, rest, he, hgb, hBg, hnc, hcm, hrl⟩ := hOs61.open (by omega)
      injection he with he1 _ he3
      subst he1 he3
      obtain ⟨pre, post, hpre, hcell, hcset⟩ := steps_split ht rest
      obtain ⟨hbm, h32, hOk⟩ := hRk61.mem t (List.mem_of_getElem? ht)
      have h16t := h16 t (List.mem_of_getElem? ht)
      obtain ⟨kv1, bm, ks⟩ := t
      simp only at hbm h32 hOk hcell h16t
      obtain ⟨ka1, kc1, rfl⟩ := own_slice hOk
      rw [hcell] at hBg
      have hgs7 : gs < w7.heap.size := by
        have h1 := hOs61
        have h2 := hOsA.top gs rfl
        omega
      repeat (first | exact trivial | refine stpg ?_)
      refine ldCg (v := .int .u16 bm) (hv := by rw [← hpre]; simp) ?_
      repeat (first | exact trivial | refine stpg ?_)
      obtain ⟨bm', hbm', hbe⟩ : ∃ k : Nat, k < 65536 ∧ IntKind.u16.wrap ((bm : Int) + 1) = (k : Int) := ⟨(bm + 1) % 65536, Nat.mod_lt _ (by decide), by
        have : IntKind.u16.wrap ((bm : Int) + 1) = ((bm : Int) + 1) % 65536 := by simp [IntKind.wrap, IntKind.signed, IntKind.bits]
        rw [this]; omega⟩
      rw [hbe]
      refine stAt (by rfl) hBg hpre rfl rfl (fun w62 hP62 => ?_)
      have hz62 := hP62.size
      have hB62 := hP62.blk
      have hxl : ((uA.set i ⟨.slice ka1 ks.length kc1, bm', ks⟩).flatMap SR.cells).length = tA.length * 2 := by
        have h1 := congrArg List.length (hcset ⟨.slice ka1 ks.length kc1, bm', ks⟩)
        have h2 := congrArg List.length hcell
        have h3 := hOs61.1
        simp only [List.length_append, List.length_cons] at h1 h2
        omega
      have hrl2 : rest.length = (scA - tA.length) * 2 := by
        have h3 := hOs61.1
        rw [List.length_append, h3] at hrl
        rw [Nat.sub_mul]
        omega
      have hOs62 : Own w62 w5.heap.size 51 2 (.slice (some ⟨gs, 0, none⟩) tA.length scA) tA.length ((uA.set i ⟨.slice ka1 ks.length kc1, bm', ks⟩).flatMap SR.cells) := own_mk (sz := 2) (rest := rest) (by rw [hcset ⟨.slice ka1 ks.length kc1, bm', ks⟩]; exact hB62) hgb hxl hrl2 hnc hcm
      have hRk62 : RunK w62 w6.heap.size w5.heap.size (uA.set i ⟨.slice ka1 ks.length kc1, bm', ks⟩) := by
        rw [(set_split ht).2]
        refine RunK.rebm (t := ⟨.slice ka1 ks.length kc1, bm, ks⟩) (t' := ⟨.slice ka1 ks.length kc1, bm', ks⟩) rfl rfl hbm' ?_
        rw [← (set_split (y := (⟨.slice ka1 ks.length kc1, bm, ks⟩ : SR)) ht).1]
        exact RunK.put hBg (by decide) hP62 hRk61
      have hOp62 := hOp61.put hBg (by decide) hP62
      have hRb62 := RunK.put hBg (by decide) hP62 hRb61
      have hB762 := hP62.keep hB761 (hB761.neT hBg (by decide))
      have hB962 := hP62.keep hB961 (hB961.neT hBg (by decide))
      have hOb62 : Own w62 w7.heap.size 51 2 (.slice saB tB.length scB) tB.length (tB.flatMap SR.cells) := hOb61.put_ne (fun e => by have := hOb61.lo _ e; omega) hP62
      have hE62 : Below w4.heap.size w60 w62 := hE61.trans (hP62.below (by omega))
      clear hOs62 hBg hcell
      repeat (first | exact trivial | refine stpg ?_)
      refine ldCg (v := .slice ka1 ks.length kc1) (hv := by rw [← hpre]; simp) ?_
      repeat (first | exact trivial | refine stpg ?_)
      refine loopX (ι := Nat × List (List UInt8)) (fun x => [(2, .slice ka key.length kc), (7, .pointer (some ⟨b, 0, none⟩)), (9, .pointer (some ⟨w3.heap.size, 0, none⟩)), (13, .pointer (some ⟨w6.heap.size, 0, none⟩)), (15, .pointer (some ⟨w8.heap.size, 0, none⟩)), (17, .int .i64 i), (100, .int .i64 tA.length), (101, .int .i64 i), (119, .int .i64 ks.length), (120, .int .i64 x.1)])
        (fun x W => x.1 ≤ ks.length ∧ x.2.length = ks.length ∧ Below w4.heap.size w60 W ∧ Blk W gs 51 (pre ++ (.int .u16 bm' :: .slice ka1 ks.length kc1 :: post)) ∧ RunK W w6.heap.size w5.heap.size (uA.set i ⟨.slice ka1 ks.length kc1, bm', x.2⟩) ∧ Own W w5.heap.size 47 2 (.slice qaA qA.length qcA) qA.length (qA.flatMap PR.cells) ∧
          Own W w7.heap.size 51 2 (.slice saB tB.length scB) tB.length (tB.flatMap SR.cells) ∧ RunK W w8.heap.size w7.heap.size tB ∧ Blk W w6.heap.size 26 [.slice (some ⟨gs, 0, none⟩) tA.length scA, .slice qaA qA.length qcA] ∧ Blk W w8.heap.size 26 [.slice saB tB.length scB, .slice qaB qB.length qcB]) (fun x => ks.length - x.1) (0, ks)
        ⟨Nat.zero_le _, rfl, hE62, hB62, hRk62, hOp62, hOb62, hRb62, hB762, hB962⟩ ?_ ?_
      · repeat (first | exact trivial | refine stpg ?_)
      · rintro ⟨j, kx⟩ s63 w63 ⟨hj, hkl, hE63, hBg63, hRk63, hOp63, hOb63, hRb63, hB763, hB963⟩
        simp only at hj hkl hRk63
        have hz63 := hE63.size
        have hxi : (uA.set i ⟨.slice ka1 ks.length kc1, bm', kx⟩)[i]? = some ⟨.slice ka1 ks.length kc1, bm', kx⟩ := List.getElem?_set_self (by omega)
        obtain ⟨_, hk32, hOk63⟩ := hRk63.mem _ (List.mem_of_getElem? hxi)
        simp only at hk32 hOk63
        have hOk63' := hOk63
        rw [hkl] at hOk63
        repeat (first | exact trivial | refine stpg ?_)
        refine ⟨fun hlt2 => ?_, fun hge2 => ?_⟩
        · obtain ⟨d, hd⟩ : ∃ x, kx[j]? = some x := ⟨_, List.getElem?_eq_getElem (by omega)⟩
          obtain ⟨gk, kcap, krest, he, hgkb, hBk, hknc, hkcm, hkrl⟩ := hOk63.open (by omega)
          injection he with he1 _ he3
          subst he1 he3
          have hgk6 : gk < w6.heap.size := RunK.lt hRk63 _ (List.mem_of_getElem? hxi) gk rfl
          obtain ⟨c, ds, kpre, kpost, hdl, hkpre, hkcell, hkset⟩ := kids_split hd hk32 krest
          rw [hkcell] at hBk
          repeat (first | exact trivial | refine stpg ?_)
          refine drawX (.of [0, 1, 2, 3, 4, 5, 6, 7, 8, 9, 10, 11, 12, 13]) mixed (by decide +kernel) (fun w74 hE74 hz74 => ?_)
          repeat (first | exact trivial | refine stpg ?_)
          refine ldSg ?_ (by intro w' hw'; refine stp ?_; exact ldCg (v := .slice (some ⟨gk, 0, none⟩) ks.length kc1) rfl (hv := by rw [← hpre]; simp))
          repeat (first | exact trivial | refine stpg ?_)
          refine ldSg ?_ (by intro w' hw'; refine stp ?_; exact ldCg (v := .int .u8 c.toNat) rfl (hb := Blk.go (h := hBk)) (hv := by rw [← hkpre]; simp))
          repeat (first | exact trivial | refine stpg ?_)
          have hBk74 := hBk.ext hE74
          rw [show IntKind.u8.wrap ((c.toNat : Int) + 1) = ((c + 1).toNat : Int) from by rw [u8_succ]]
          refine stAt (by rfl) hBk74 (by rw [hkpre]; simp) rfl rfl (fun w65 hP65 => ?_)
          have hz65 := hP65.size
          have hB65 := hP65.blk
          rw [← hkset (c + 1)] at hB65
          have hkk : ∀ d ∈ kx.set j ((c + 1) :: ds), d.length = 32 := fun d hd => by
            rcases List.mem_or_eq_of_mem_set hd with h | rfl
            · exact hk32 d h
            · rw [List.length_cons, hdl]
          have hOB : OnlyBy (.slice (some ⟨gk, 0, none⟩) ks.length kc1) w74 w65 := fun k T l hk hB => hP65.keep hB (fun e => hk (by simp [Value.ownBlock, e]))
          have hRk65 : RunK w65 w6.heap.size w5.heap.size (uA.set i ⟨.slice (some ⟨gk, 0, none⟩) ks.length kc1, bm', kx.set j ((c + 1) :: ds)⟩) := by
            have h1 := hRk63.ext hE74
            rw [(set_split ht).2] at h1 ⊢
            refine RunK.set (t := ⟨.slice (some ⟨gk, 0, none⟩) ks.length kc1, bm', kx⟩) (t' := ⟨.slice (some ⟨gk, 0, none⟩) ks.length kc1, bm', kx.set j ((c + 1) :: ds)⟩) hOB hbm' hkk rfl (by omega) (fun b hb => ?_) h1
            have e : (kx.set j ((c + 1) :: ds)).length = ks.length := by rw [List.length_set]; exact hkl
            show Own w65 b _ 32 (.slice _ ks.length kc1) (kx.set j ((c + 1) :: ds)).length _
            rw [e]
            refine own_mk (sz := 32) hB65 (hb.lo _ rfl) (by rw [flat32 _ hkk, e]) ?_ (by omega) hkcm
            rw [List.length_append, flat32 _ hk32] at hkrl
            rw [Nat.sub_mul]
            omega
          refine toldZ ?_
          repeat (first | exact trivial | refine stpg ?_)
          refine ⟨(j + 1, kx.set j ((c + 1) :: ds)), ⟨by simp only; omega, by simp only [List.length_set]; exact hkl, hE63.trans ((hE74.mono (by omega)).trans (hP65.below (by omega))), hP65.keep (hBg63.ext hE74) ((hBg63.ext hE74).neT hBk74 (by decide)), hRk65, (hOp63.ext hE74).put hBk74 (by decide) hP65, (hOb63.ext hE74).put hBk74 (by decide) hP65, RunK.only_lt hOB (fun g hg => by simp only [Value.ownBlock, Option.some.injEq] at hg; omega) (hRb63.ext hE74), hP65.keep (hB763.ext hE74) ((hB763.ext hE74).neT hBk74 (by decide)), hP65.keep (hB963.ext hE74) ((hB963.ext hE74).neT hBk74 (by decide))⟩, by rw [w64 (by omega) (by omega)]; rfl, by simp only; omega⟩
        · obtain rfl : j = ks.length := by omega
          repeat (first | exact trivial | refine stpg ?_)
          refine ldCg (v := .slice ka1 ks.length kc1) (hv := by rw [← hpre]; simp) ?_
          repeat (first | exact trivial | refine stpg ?_)
          refine bldC (vbs (9 :: List.replicate 31 0)) (by kernel_rfl) ?_
          repeat (first | exact trivial | refine stpg ?_)
          refine ⟨by rw [vbs_len]; rfl, ?_⟩
          first | refine newS ?_ | refine newZ ?_
          intro w66 hE66 hz66 hB66
          have hOk66 := hOk63.ext (w' := w66) .go
          refine apH (sz := 32) (n := ks.length) (m := 1) (news := vbs (9 :: List.replicate 31 0)) Tryz.underlying49 z28 c28 rfl (by decide) hOk66 (by omega) (SlC.of_blk hB66 (by decide)) (by rw [vbs_len]; rfl) (vbs_one _) (by omega) (by rw [by28]; omega) (by decide) (fun v68 w68 hO68 hg68 ha68 => ?_)
          have hE68 := below_of_grown hOk66 (by omega) hg68
          have hz68 := hE68.size
          have hOB : OnlyBy (.slice ka1 ks.length kc1) w66 w68 := OnlyBy.of_grown hg68
          have hrow := (GrH.step (j := 0) (ys := []) (GrH.start hOk66) (by rw [List.append_nil]; exact hOk66) (by rw [flat32 _ hk32, hkl]) (fun q hq => hOk66.top q hq) (Nat.le_refl _) hg68 ha68).row hO68 (by rw [flat32 _ hk32, hkl])
          have hRk68 : RunK w68 w6.heap.size w5.heap.size (uA.set i ⟨.slice ka1 ks.length kc1, bm', kx⟩) := by
            have h1 := hRk63.ext (w' := w66) .go
            rw [(set_split ht).2] at h1 ⊢
            refine RunK.set (t := ⟨.slice ka1 ks.length kc1, bm', kx⟩) (t' := ⟨.slice ka1 ks.length kc1, bm', kx⟩) hOB hbm' hk32 rfl (by omega) (fun b hb => ?_) h1
            show Own w68 b _ 32 (.slice ka1 ks.length kc1) kx.length _
            rw [hkl]
            exact hrow.rebase hb.lo
          have hBg66 := hBg63.ext (w' := w66) .go
          have hB766 := hB763.ext (w' := w66) .go
          have hB966 := hB963.ext (w' := w66) .go
          have hBg68 := hOB _ _ _ (hOk66.ne_blk hBg66 (by decide)) hBg66
          have hB768 := hOB _ _ _ (hOk66.ne_blk hB766 (by decide)) hB766
          have hB968 := hOB _ _ _ (hOk66.ne_blk hB966 (by decide)) hB966
          have hOp68 := (hOp63.ext (w' := w66) .go).onlyT hOk66 (by decide) hOB
          have hOb68 := (hOb63.ext (w' := w66) .go).onlyT hOk66 (by decide) hOB
          have hgk6 : ∀ q, (Value.slice ka1 ks.length kc1).ownBlock = some q → q < w6.heap.size := RunK.lt hRk63 _ (List.mem_of_getElem? hxi)
          have hRb68 := RunK.only_lt hOB (fun q hq => Nat.lt_of_lt_of_le (hgk6 q hq) (by omega)) (hRb63.ext (w' := w66) .go)
          have hOs68 : Own w68 w5.heap.size 51 2 (.slice (some ⟨gs, 0, none⟩) tA.length scA) tA.length ((uA.set i ⟨.slice ka1 ks.length kc1, bm', kx⟩).flatMap SR.cells) := by
            have hxl2 : ((uA.set i ⟨.slice ka1 ks.length kc1, bm', kx⟩).flatMap SR.cells).length = tA.length * 2 := by
              have h1 := congrArg List.length (hcset ⟨.slice ka1 ks.length kc1, bm', kx⟩)
              have h2 := congrArg List.length (hcset ⟨.slice ka1 ks.length kc1, bm', ks⟩)
              simp only [List.length_append, List.length_cons] at h1 h2
              omega
            exact own_mk (sz := 2) (rest := rest) (by rw [hcset ⟨.slice ka1 ks.length kc1, bm', kx⟩]; exact hBg68) hgb hxl2 hrl2 hnc hcm
          have hE6368 : Below w4.heap.size w60 w68 := hE63.trans ((show Ext w63 w66 from .go).mono (by omega) |>.trans (hE68.mono (by omega)))
          repeat (first | exact trivial | refine stpg ?_)
          refine ⟨(i + 1, uA.set i ⟨.slice ka1 ks.length kc1, bm', kx⟩), ⟨by simp only; omega, by simp only [List.length_set]; exact hul, fun t ht2 => ?_, hE6368, hOs68, hRk68, hOp68, hOb68, hRb68, hB768, hB968⟩, by rw [w64 (by omega) (by omega)]; rfl, by simp only; omega⟩
          rcases List.mem_or_eq_of_mem_set ht2 with h | rfl
          · exact h16 t h
          · show kx.length ≤ 16
            omega
    · repeat (first | exact trivial | refine stpg ?_)
      refine loopX (ι := Nat) (fun x => [(2, .slice ka key.length kc), (7, .pointer (some ⟨b, 0, none⟩)), (9, .pointer (some ⟨w3.heap.size, 0, none⟩)), (13, .pointer (some ⟨w6.heap.size, 0, none⟩)), (15, .pointer (some ⟨w8.heap.size, 0, none⟩)), (149, .int .i64 qA.length), (150, .int .i64 x)])
        (fun x W => x ≤ qA.length ∧ Below w4.heap.size w60 W ∧ (∃ xs, Own W w5.heap.size 47 2 (.slice qaA qA.length qcA) qA.length xs) ∧
          Own W w7.heap.size 51 2 (.slice saB tB.length scB) tB.length (tB.flatMap SR.cells) ∧ RunK W w8.heap.size w7.heap.size tB ∧ Blk W w6.heap.size 26 [.slice saA tA.length scA, .slice qaA qA.length qcA] ∧ Blk W w8.heap.size 26 [.slice saB tB.length scB, .slice qaB qB.length qcB]) (fun x => qA.length - x) 0
        ⟨Nat.zero_le _, hE61, ⟨_, hOp61⟩, hOb61, hRb61, hB761, hB961⟩ ?_ ?_
      · repeat (first | exact trivial | refine stpg ?_)
      · rintro j s67 w67 ⟨hj, hE67, ⟨xs, hOp67⟩, hOb67, hRb67, hB767, hB967⟩
        have hz67 := hE67.size
        repeat (first | exact trivial | refine stpg ?_)
        refine ⟨fun hlt2 => ?_, fun hge2 => ?_⟩
        · obtain ⟨gp, pcap, prest, he, hgpb, hBp, hpnc, hpcm, hprl2⟩ := hOp67.open (by omega)
          injection he with he1 _ he3
          subst he1 he3
          have hxl3 := hOp67.1
          obtain ⟨pre, u1, u2, post, hp1, hp2⟩ : ∃ (pre : List Value) (u1 u2 : Value) (post : List Value), pre.length = j * 2 ∧ xs ++ prest = pre ++ ([u1, u2] ++ post) := by
            refine ⟨(xs ++ prest).take (j * 2), (xs ++ prest)[j * 2]'(by rw [List.length_append]; omega), (xs ++ prest)[j * 2 + 1]'(by rw [List.length_append]; omega), (xs ++ prest).drop (j * 2 + 2), by rw [List.length_take, List.length_append]; omega, ?_⟩
            conv => lhs; rw [← List.take_append_drop (j * 2) (xs ++ prest)]
            congr 1
            rw [List.drop_eq_getElem_cons (by rw [List.length_append]; omega), List.drop_eq_getElem_cons (by rw [List.length_append]; omega)]
            rfl
          rw [hp2] at hBp
          repeat (first | exact trivial | refine stpg ?_)
          refine bldC [.slice none 0 0, .slice none 0 0] (by kernel_rfl) ?_
          repeat (first | exact trivial | refine stpg ?_)
          refine stSeg (mid := [u1, u2]) (vs := [.slice none 0 0, .slice none 0 0]) (post := post) hBp (by first | (rw [hp1]; done) | (rw [hp1]; simp)) rfl (by decide) rfl rfl (by intro u hu; rcases List.mem_cons.1 hu with rfl | hu; rfl; rcases List.mem_cons.1 hu with rfl | hu; rfl; cases hu) (fun w69 hP69 => ?_)
          have hz69 := hP69.size
          have hB69 := hP69.blk
          obtain ⟨zs, hzs⟩ : ∃ zs, zs = pre ++ ([.slice none 0 0, .slice none 0 0] ++ post) := ⟨_, rfl⟩
          have hzl : zs.length = qcA * 2 := by
            rw [hzs, ← hprl2, hp2]
            simp
          rw [← hzs, ← List.take_append_drop (qA.length * 2) zs] at hB69
          have hOp69 : Own w69 w5.heap.size 47 2 (.slice (some ⟨gp, 0, none⟩) qA.length qcA) qA.length (zs.take (qA.length * 2)) := own_mk (sz := 2) hB69 hgpb (by rw [List.length_take]; omega) (by rw [List.length_drop, hzl, Nat.sub_mul]) hpnc hpcm
          repeat (first | exact trivial | refine stpg ?_)
          refine ⟨j + 1, ⟨by omega, hE67.trans (hP69.below (by omega)), ⟨_, hOp69⟩, hOb67.put hBp (by decide) hP69, RunK.put hBp (by decide) hP69 hRb67, hP69.keep hB767 (hB767.neT hBp (by decide)), hP69.keep hB967 (hB967.neT hBp (by decide))⟩, by rw [w64 (by omega) (by omega)]; rfl, by omega⟩
        · obtain rfl : j = qA.length := by omega
          have hE467 : Ext w4 w67 := hE460.trans hE67
          have hE24 : Ext w2 w4 := hE3.trans' hE4
          have hEw4 : Ext w w4 := .go
          repeat (first | exact trivial | refine stpg ?_)
          refine (Prove_hproof_ok nn hw _ _ _ m key w67 (hW.ext (hEw4.trans' hE467)) (hM.ext (hE24.trans' hE467)) hO (hk.ext (hEw4.trans' hE467)) (by omega)).mono ?_
          rintro _ w68 ⟨svC, qvC, tC, qC, rfl, hOsC, hRkC, hOpC, hRbC, htC, hqC, hE68⟩
          have hz68 := hE68.size
          have hStC := hRkC.stepsAt hOsC
          have hPrC := PairsAt.ofRun hOpC hRbC
          obtain ⟨saC, scC, rfl⟩ := own_slice hOsC
          obtain ⟨qaC, qcC, rfl⟩ := own_slice hOpC
          have hE468 := hE467.trans' hE68
          have hB468 := hB4.ext hE468
          have hStb := (RunK.stepsAt hRb67 hOb67).ext' hE68
          have hStw := hSt.ext' (hE4.trans' hE468)
          have hPrw := hPr.ext' (hE4.trans' hE468)
          have hB968 := hB967.ext hE68
          have hEw68 := hEw4.trans' hE468
          repeat (first | exact trivial | refine stpg ?_)
          first | refine newS ?_ | refine newZ ?_
          intro w69 hE69 hz69 hB69
          repeat (first | exact trivial | refine stpg ?_)
          refine (SameSteps_ok tB tt _ _ w69 (hStb.ext' .go) (hStw.ext' .go)).mono ?_
          rintro _ w70 ⟨rfl, hE70⟩
          have hz70 := hE70.size
          rw [show decide (tB.map SR.dt = tt.map SR.dt) = true from decide_eq_true (by rw [htd, htB])]
          repeat (first | exact trivial | refine stpg ?_)
          refine (Same15_ok _ _ (tC.map SR.dt) (tC.map SR.dt) (qC.map PR.dat) (qC.map PR.dat) w70 ⟨_, _, tC, qC, rfl, hStC.ext' .go, hPrC.ext' .go, rfl, rfl⟩ ⟨_, _, tt, js.map IR.pr, rfl, hStw.ext' .go, hPrw.ext' .go, by rw [htd, htC], by rw [hqd, hqC]⟩).mono ?_
          rintro _ w71 ⟨rfl, hE71⟩
          have hz71 := hE71.size
          rw [show decide (tC.map SR.dt = tC.map SR.dt ∧ qC.map PR.dat = qC.map PR.dat) = true from decide_eq_true ⟨rfl, rfl⟩]
          repeat (first | exact trivial | refine stpg ?_)
          exact .go
end Go.Proofs.YthlkfjoibjhaiaaGreatDoor

/-! Row -/
namespace Go.Proofs.YthlkfjoibjhaiaaGreatDoor
set_option maxRecDepth 100000
set_option maxHeartbeats 2000000
open Go Go.RowKit Go.ChangeShapes Go.WideShapes Go.ChangeAt
set_option linter.unusedVariables false
set_option linter.unusedSimpArgs false

/-- Each of the types can be read and is a row of the table. -/
def rowedT (P : Program) (ts : List TypeId) : Bool := ts.all fun t => P.readableRec t && decide (t < P.types.size)

theorem below_trodAll {H : Type} {enc : TypeId × Value → H} {P : Program} (hl : laidOutB P = true) {W W' : World} (hb : Below W.heap.size W W') :
    ∀ {ts : List TypeId} {vs : List Value} {ds : List (DataW H)} {ps : List MemPlace}, rowedT P ts = true → DataW.TrodAll enc P W 0 (fun _ => true) true ts vs ds ps → (∀ x ∈ ps, x.block < W.heap.size) → DataW.TrodAll enc P W' 0 (fun b => decide (b < W.heap.size)) true ts vs ds ps
  | [], [], [], _, _, h, _ => h
  | [], _ :: _, _, _, _, h, _ => by simp [DataW.TrodAll] at h
  | [], [], _ :: _, _, _, h, _ => by simp [DataW.TrodAll] at h
  | _ :: _, [], _, _, _, h, _ => by simp [DataW.TrodAll] at h
  | _ :: _, _ :: _, [], _, _, h, _ => by simp [DataW.TrodAll] at h
  | t :: ts, v :: vs, d :: ds, ps, hr, h, hlt => by
    obtain ⟨p, q, h1, h2, rfl⟩ := h
    simp only [rowedT, List.all_cons, Bool.and_eq_true, decide_eq_true_eq] at hr
    refine ⟨p, q, Below.trod hl hr.1.1 hr.1.2 h1 hb (fun x hx => hlt x (by simp [hx])), below_trodAll hl hb (by simpa [rowedT] using hr.2) h2 (fun x hx => hlt x (by simp [hx])), rfl⟩

/-- What a law's row asks of the end, given what the walk says: true, and nothing old has turned. -/
theorem law_post {H : Type} {enc : TypeId × Value → H} {P : Program} (hl : laidOutB P = true) {f : Func} {s : ChangeSpec} {tb : TypeId} (hr : f.resultTypes = #[tb]) (hb : P.underlying tb = some .bool)
    (hp : rowedT P f.params.toList = true) (hv : s.vars = []) {W W' : World} {args : Array Value} {ds gs : List (DataW H)} {before : List MemPlace}
    (hW : DataW.Whole enc P f.params.toList s.vars false W args.toList ds gs before)
    (hfn : (s.fn H (ds ++ gs)).results = [.lit (.bool true)] ∧ (s.fn H (ds ++ gs)).args = ds ∧ (s.fn H (ds ++ gs)).vars = gs) (hE : Ext W W') :
    s.post enc P f false true false false W args (.bool true) W' := by
  have hW' := hW
  obtain ⟨p, q, hA, hV, rfl, hfz, hnd⟩ := hW
  refine ⟨ds, gs, p ++ q, [], p, q, hW', ?_, ?_, ?_, hE.frame _, fun h => by cases h⟩
  · rw [hfn.1, hr]
    exact trodAll_cons_mk (shut_bool hb _) trodAll_mk0
  · rw [hfn.2.1]
    exact below_trodAll hl hE hp hA (fun x hx => by simpa using hW'.lt x (by simp [hx]))
  · rw [hfn.2.2]
    rw [hv] at hV ⊢
    obtain ⟨rfl, rfl⟩ := trodVars_none hV
    rfl

theorem CallK.toCalls {P : Program} {f : FuncId} {args : Array Value} {w : World} (h : CallK P f args w fun v w' => v = .bool true ∧ Ext w w') (hb : callable P f = true) : Calls P f args w fun e w' => e = .returned (.bool true) ∧ Ext w w' :=
  (h.body hb).calls.mono fun e w' ⟨v, he, hv, hE⟩ => ⟨by rw [he, hv], hE⟩

/-! ### Arguments opened -/
theorem wf_bounds {k : IntKind} {n : Int} (h : (Lit.int k n).wf = true) : k.min ≤ n ∧ n ≤ k.max := by
  simpa [Lit.wf] using h
theorem cells_u8 {H : Type} {enc : TypeId × Value → H} {P : Program} {w : World} {base : Nat} {sp : Nat → Bool} {held : Bool} {fuel e : Nat} {c : List Value} {x : DataW H × List MemPlace} (he : P.underlying e = some (.int .u8))
    (h : DataW.trod enc P w base sp held fuel e c = some x) : ∃ b : UInt8, c = [vb b] := by
  obtain ⟨n, h1, hx, hw⟩ := DataW.trod_int he h
  have hb := wf_bounds hw
  simp [IntKind.min, IntKind.max, IntKind.signed, IntKind.bits] at hb
  refine ⟨UInt8.ofNat n.toNat, ?_⟩
  rw [h1]
  simp only [vb, UInt8.toNat_ofNat', List.cons.injEq, and_true]
  rw [Nat.mod_eq_of_lt (by omega), Int.toNat_of_nonneg hb.1]

theorem open_num {H : Type} {enc : TypeId × Value → H} {P : Program} {w : World} {base b0 : Nat} {r : Reach} {sp : Nat → Bool} {held : Bool} {t : Nat} {k : IntKind} {v : Value} {d : DataW H} {ps : List MemPlace} (ht : P.underlying t = some (.int k))
    (hval : Value.okWide P w r b0 t v) (hd : DataW.Trod enc P w base sp held t v d ps) : ∃ n : Int, v = .int k n ∧ k.min ≤ n ∧ n ≤ k.max := by
  obtain ⟨n, rfl, _, _, h⟩ := open_int ht hval hd
  exact ⟨n, rfl, wf_bounds h⟩

theorem list_of {α : Type} {p : Nat → α → Prop} : ∀ n, (∀ i, i < n → ∃ x, p i x) → ∃ l : List α, l.length = n ∧ ∀ i x, l[i]? = some x → p i x
  | 0, _ => ⟨[], rfl, by simp⟩
  | n + 1, h => by
    obtain ⟨l, hl, hp⟩ := list_of n (fun i hi => h i (by omega))
    obtain ⟨x, hx⟩ := h n (by omega)
    refine ⟨l ++ [x], by simp [hl], fun i y hy => ?_⟩
    by_cases hi : i < n
    · rw [List.getElem?_append_left (by omega)] at hy; exact hp i y hy
    · rw [List.getElem?_append_right (by omega)] at hy
      have : i - l.length = 0 := by
        rcases Nat.eq_zero_or_pos (i - l.length) with h0 | h0
        · exact h0
        · rw [List.getElem?_eq_none (by simp; omega)] at hy; cases hy
      have e : i = n := by omega
      rw [this] at hy
      simp at hy
      rw [e, ← hy]; exact hx
theorem flat_inv {α : Type} {f : α → List Value} {sz : Nat} (hz : 0 < sz) : ∀ (ds : List α) (j : Nat) (u : Value), (∀ d ∈ ds, (f d).length = sz) → (ds.flatMap f)[j]? = some u → ∃ d, ds[j / sz]? = some d ∧ (f d)[j % sz]? = some u
  | [], j, u, _, h => by simp at h
  | x :: ds, j, u, hs, h => by
    have hx : (f x).length = sz := hs x (by simp)
    simp only [List.flatMap_cons] at h
    by_cases hj : j < sz
    · rw [List.getElem?_append_left (by omega)] at h
      exact ⟨x, by rw [Nat.div_eq_of_lt hj]; rfl, by rw [Nat.mod_eq_of_lt hj]; exact h⟩
    · rw [List.getElem?_append_right (by omega), hx] at h
      obtain ⟨d, h1, h2⟩ := flat_inv hz ds (j - sz) u (fun d hd => hs d (by simp [hd])) h
      refine ⟨d, ?_, ?_⟩
      · rw [Nat.div_eq_sub_div hz (by omega)]; exact h1
      · rw [show j % sz = (j - sz) % sz from by rw [Nat.mod_eq_sub_mod (by omega)]]; exact h2

end Go.Proofs.YthlkfjoibjhaiaaGreatDoor

/-! RowU -/
namespace Go.Proofs.YthlkfjoibjhaiaaGreatDoor
set_option maxRecDepth 100000
set_option maxHeartbeats 2000000
open Go Go.RowKit Go.ChangeShapes Go.WideShapes Go.ChangeAt
set_option linter.unusedVariables false
set_option linter.unusedSimpArgs false

/-! ### Bulk -/
theorem bulk_one {H : Type} (d : DataW H) : 1 ≤ Rows.uptoBulk d := by
  cases d with
  | lit l => cases l <;> simp [Rows.uptoBulk]
  | nil => simp [Rows.uptoBulk]
  | ptr d => simp [Rows.uptoBulk]
  | slice elems spare => simp [Rows.uptoBulk]
  | agg parts => simp [Rows.uptoBulk]
  | iface t d => simp [Rows.uptoBulk]
  | map entries => simp [Rows.uptoBulk]
  | held h => simp [Rows.uptoBulk]
theorem bulk_mem {H : Type} {d : DataW H} {l : List (DataW H)} (h : d ∈ l) : Rows.uptoBulk d ≤ Rows.uptoBulkAll l := by
  induction l with
  | nil => cases h
  | cons x r ih =>
    simp only [Rows.uptoBulkAll]
    cases List.mem_cons.1 h with
    | inl e => subst e; omega
    | inr e => have := ih e; omega
theorem bulk_len {H : Type} (l : List (DataW H)) : l.length ≤ Rows.uptoBulkAll l := by
  induction l with
  | nil => simp [Rows.uptoBulkAll]
  | cons x r ih => have := bulk_one x; simp only [Rows.uptoBulkAll, List.length_cons]; omega
theorem bulk_agg {H : Type} {d : DataW H} {l : List (DataW H)} (h : d ∈ l) : Rows.uptoBulk d ≤ Rows.uptoBulk (.agg l) := by
  have := bulk_mem h
  simp only [Rows.uptoBulk]
  omega
theorem bulk_small {H : Type} {l : List (DataW H)} (hk : Rows.uptoSmall H l = true) : Rows.uptoBulkAll l ≤ 1048576 := by
  simpa [Rows.uptoSmall] using hk

/-! ### Lists opened, wherever they lie -/
section opened
variable {H : Type} {enc : TypeId × Value → H} {w : World} {sp : Nat → Bool} {fuel : Nat} {cs : List Value} {x : DataW H × List MemPlace}
theorem open_slb {α : Type} {f : α → List Value} {q : Nat → α → Prop} {P : Program} {t e sz : Nat} (ht : P.underlying t = some (.slice e)) (hsz : P.cellsOf e = sz) (hz : 0 < sz) (hq : ∀ m n a, m ≤ n → q m a → q n a)
    (hel : ∀ n cs x, DataW.trod enc P w 0 sp true n e cs = some x → ∃ a, f a = cs ∧ q (Rows.uptoBulk x.1) a) (hf : DataW.trod enc P w 0 sp true fuel t cs = some x) :
    ∃ (v : Value) (l : List α), cs = [v] ∧ (∀ a ∈ l, (f a).length = sz) ∧ SlC w v l.length (l.flatMap f) ∧ l.length ≤ Rows.uptoBulk x.1 ∧ ∀ a ∈ l, q (Rows.uptoBulk x.1) a := by
  rcases Go.Deep.open_slice ht hf with ⟨h1, h2⟩ | ⟨a, len, cap, m, n, D, Pl, h1, hb, hlc, hcm, hmm, hx, hall⟩
  · exact ⟨_, [], h1, by simp, ⟨none, 0, rfl, Nat.le_refl _, by decide, Or.inl rfl⟩, by simp, by simp⟩
  · have hlm : len ≤ m := by rw [hmm]; split <;> omega
    have hcm' : cap ≤ 9223372036854775807 := by simpa [maxLen] using hcm
    have hD : ∀ i, i < len → Rows.uptoBulk (D i) ≤ Rows.uptoBulk x.1 := by
      intro i hi
      rw [hx]
      simp only [Rows.uptoBulk]
      have := bulk_mem (d := D i) (l := (List.range len).map D) (List.mem_map.2 ⟨i, by simpa using hi, rfl⟩)
      omega
    have hlen : len ≤ Rows.uptoBulk x.1 := by
      rw [hx]
      simp only [Rows.uptoBulk]
      have := bulk_len ((List.range len).map D)
      simp at this
      omega
    by_cases h0 : len = 0
    · subst h0
      exact ⟨_, [], h1, by simp, ⟨_, cap, rfl, Nat.zero_le _, hcm', Or.inl rfl⟩, by simp, by simp⟩
    · obtain ⟨b, o, s⟩ := a
      have hspot : s = none := by
        obtain ⟨cs', hc, _⟩ := hall 0 (by omega)
        obtain ⟨_, hlen', hcell⟩ := World.cells?_some hc
        have h3 := hcell 0 (by omega)
        rw [hsz] at h3 hlen'
        cases s with
        | none => rfl
        | some s =>
          exfalso
          have h4 : w.cell? ⟨b, o, some s⟩ = cs'[0]? := by
            have : ((⟨b, o, some s⟩ : Addr).add (0 * sz)).add 0 = ⟨b, o, some s⟩ := by simp [Addr.add]
            rw [← this]
            exact h3
          rw [List.getElem?_eq_getElem (by omega)] at h4
          simp only [World.cell?] at h4
          split at h4 <;> simp at h4
      subst hspot
      obtain ⟨l, hl, hp⟩ := list_of (p := fun i (y : α) => (f y).length = sz ∧ (∀ k u, (f y)[k]? = some u → w.cell? ⟨b, o + (i * sz + k), none⟩ = some u) ∧ q (Rows.uptoBulk x.1) y) len (fun i hi => by
        obtain ⟨cs', hc, ht2⟩ := hall i (by omega)
        obtain ⟨y, rfl, hqy⟩ := hel _ _ _ ht2
        obtain ⟨_, hlen', hcell⟩ := World.cells?_some hc
        rw [hsz] at hlen' hcell
        refine ⟨y, hlen', fun k u hk => ?_, hq _ _ _ (hD i hi) hqy⟩
        have hk' : k < sz := by rw [← hlen']; exact (List.getElem?_eq_some_iff.1 hk).1
        have h5 := hcell k hk'
        rw [addr_add, addr_add, hk] at h5
        rwa [Nat.add_assoc] at h5)
      subst h1
      refine ⟨_, l, rfl, fun y hy => ?_, ⟨_, cap, by rw [hl], by omega, hcm', Or.inr ⟨b, o, rfl, fun j u hj => ?_⟩⟩, by omega, fun y hy => ?_⟩
      · obtain ⟨i, hi⟩ := List.getElem?_of_mem hy
        exact (hp i y hi).1
      · obtain ⟨y, h1, h2⟩ := flat_inv hz l j u (fun y hy => by obtain ⟨i, hi⟩ := List.getElem?_of_mem hy; exact (hp i y hi).1) hj
        have := (hp _ y h1).2.1 _ u h2
        rwa [show j / sz * sz + j % sz = j from by rw [Nat.mul_comm]; exact Nat.div_add_mod j sz] at this
      · obtain ⟨i, hi⟩ := List.getElem?_of_mem hy
        exact (hp i y hi).2.2
theorem vb_flat (l : List UInt8) : l.flatMap (fun b => [vb b]) = vbs l := by
  induction l with
  | nil => rfl
  | cons a l ih => simp only [List.flatMap_cons, ih]; rfl
theorem in_bytes (hf : DataW.trod enc Tryz.prog w 0 sp true fuel 22 cs = some x) : ∃ v xs, cs = [v] ∧ SlB w v xs ∧ xs.length ≤ Rows.uptoBulk x.1 := by
  obtain ⟨v, l, h1, _, h3, h4, _⟩ := open_slb (f := fun b => [vb b]) (q := fun _ _ => True) Tryz.underlying22 c5 (by decide) (fun _ _ _ _ h => h) (fun m cs x h => by obtain ⟨y, rfl⟩ := cells_u8 Tryz.underlying5 h; exact ⟨y, rfl, trivial⟩) hf
  rw [vb_flat] at h3
  exact ⟨v, l, h1, h3, h4⟩
theorem in_pair (hf : DataW.trod enc Tryz.prog w 0 sp true fuel 47 cs = some x) : ∃ p : PR, p.cells = cs ∧ SlB w p.kv p.k ∧ SlB w p.vv p.v ∧ p.k.length ≤ Rows.uptoBulk x.1 ∧ p.v.length ≤ Rows.uptoBulk x.1 := by
  obtain ⟨y0, y1, n, rfl, hl, h0, h1⟩ := trod_struct2 Tryz.underlying47 hf
  rw [c47] at hl
  simp only [c22] at h0 h1
  obtain ⟨u, xs, e0, hu, hb0⟩ := in_bytes h0
  obtain ⟨v, ys, e1, hv, hb1⟩ := in_bytes h1
  refine ⟨⟨u, v, xs, ys⟩, ?_, hu, hv, Nat.le_trans hb0 (bulk_agg (by simp)), Nat.le_trans hb1 (bulk_agg (by simp))⟩
  match cs, hl with
  | [a, b], _ =>
    simp at e0 e1
    simp only [PR.cells, e0, e1]
theorem in_pairs (hf : DataW.trod enc Tryz.prog w 0 sp true fuel 24 cs = some x) : ∃ v ps, cs = [v] ∧ PairsAt w v ps ∧ ps.length ≤ Rows.uptoBulk x.1 ∧ ∀ p ∈ ps, p.k.length ≤ Rows.uptoBulk x.1 ∧ p.v.length ≤ Rows.uptoBulk x.1 := by
  obtain ⟨v, l, h1, h2, h3, h4, h5⟩ := open_slb (f := PR.cells) (q := fun m p => SlB w p.kv p.k ∧ SlB w p.vv p.v ∧ p.k.length ≤ m ∧ p.v.length ≤ m) Tryz.underlying24 c47 (by decide) (fun m n a h g => ⟨g.1, g.2.1, Nat.le_trans g.2.2.1 h, Nat.le_trans g.2.2.2 h⟩) (fun m cs x h => by obtain ⟨s, e, g⟩ := in_pair h; exact ⟨s, e, g⟩) hf
  exact ⟨v, l, h1, ⟨h3, fun s hs => ⟨(h5 s hs).1, (h5 s hs).2.1⟩⟩, h4, fun s hs => (h5 s hs).2.2⟩

end opened

end Go.Proofs.YthlkfjoibjhaiaaGreatDoor

/-! RowW -/
namespace Go.Proofs.YthlkfjoibjhaiaaGreatDoor
set_option maxRecDepth 100000
set_option maxHeartbeats 2000000
open Go Go.RowKit Go.ChangeShapes Go.WideShapes Go.ChangeAt
set_option linter.unusedVariables false
set_option linter.unusedSimpArgs false

section opened
variable {H : Type} {enc : TypeId × Value → H} {w : World} {sp : Nat → Bool} {r : Reach} {b0 : Nat} {v : Value} {d : DataW H} {p : List MemPlace}
theorem open_bsb (hval : Value.okWide Tryz.prog w r b0 22 v) (hd : DataW.Trod enc Tryz.prog w 0 sp true 22 v d p) : ∃ xs, SlB w v xs ∧ xs.length ≤ Rows.uptoBulk d := by
  obtain ⟨a0, len0, cap0, rfl⟩ := okWide_slice Tryz.underlying22 hval
  obtain ⟨fuel, hf⟩ := hd
  obtain ⟨u, xs, h1, h2, h3⟩ := in_bytes hf
  simp [Value.cells] at h1
  subst h1
  exact ⟨xs, h2, h3⟩
theorem open_prs (hval : Value.okWide Tryz.prog w r b0 24 v) (hd : DataW.Trod enc Tryz.prog w 0 sp true 24 v d p) : ∃ ps, PairsAt w v ps ∧ ps.length ≤ Rows.uptoBulk d ∧ ∀ q ∈ ps, q.k.length ≤ Rows.uptoBulk d ∧ q.v.length ≤ Rows.uptoBulk d := by
  obtain ⟨a0, len0, cap0, rfl⟩ := okWide_slice Tryz.underlying24 hval
  obtain ⟨fuel, hf⟩ := hd
  obtain ⟨u, ps, h1, h2, h3⟩ := in_pairs hf
  simp [Value.cells] at h1
  subst h1
  exact ⟨ps, h2, h3⟩
end opened

/-! ### The table -/
theorem gTab : Tryz.prog.globalNamed "notary/sha.words" = some 1 := by kernel_rfl
theorem gTabType : (Tryz.prog.globals[1]?).map (·.type) = some 441 := by kernel_rfl
theorem tab_eq {H : Type} : (Rows.laid_notary_sha_words : DataW H) = Lib.tabData .u32 (KW.map fun x => (x.toNat : Int)) := by kernel_rfl
theorem words_of {W : World} (h : laidMetH Tryz.prog [("notary/sha.words", Rows.laid_notary_sha_words)] W) : WordsAt W 1 := by
  have h' : laidMetH Tryz.prog [("notary/sha.words", Lib.tabData .u32 (KW.map fun x => (x.toNat : Int)))] W := by
    rw [← tab_eq]
    exact h
  have ht := Lib.tabIs_of_head (rest := []) gTab gTabType Tryz.underlying441 Tryz.underlying406 c406 c441 h'
  intro j hj
  have hc := ht.cell gTab j (by rw [List.length_map]; exact hj)
  rw [hc]
  have hl : j < KW.length := hj
  simp only [vw, List.getD_eq_getElem?_getD, List.getElem?_map, List.getElem?_eq_getElem hl, Option.map_some, Option.getD_some]

end Go.Proofs.YthlkfjoibjhaiaaGreatDoor
