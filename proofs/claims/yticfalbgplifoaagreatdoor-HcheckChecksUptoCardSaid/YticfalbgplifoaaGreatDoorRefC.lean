/-
  The walks of the reference's hash (package notaryref02), third part: padding, the sum. Conditions: as stated in each theorem.
-/
import Derived.Test.YticfalbgplifoaaGreatDoorRefB
import Derived.Test.YticfalbgplifoaaGreatDoorWir
namespace Go.Proofs.YticfalbgplifoaaGreatDoor
set_option maxRecDepth 100000
open Go Go.RowKit
set_option linter.unusedVariables false
set_option linter.unusedSimpArgs false

theorem below_of_grown {w w' : World} {base e sz n : Nat} {v : Value} {xs : List Value} (h : Own w base e sz v n xs) (hb : base ≤ w.heap.size) (g : w.grownBy w' v.ownBlock) : Below base w w' :=
  ⟨g.os, g.tape, g.output, g.size, fun k hk => g.block k (by omega) (fun e => by have := (h.lt k e.symm).1; omega)⟩
theorem own_slice {w : World} {base e sz n : Nat} {v : Value} {xs : List Value} (h : Own w base e sz v n xs) : ∃ a c, v = .slice a n c := by
  rcases h.2 with ⟨rfl, rfl⟩ | ⟨g, cap, cur, rfl, _⟩
  · exact ⟨_, _, rfl⟩
  · exact ⟨_, _, rfl⟩
/-- A part of a slice of one-cell elements. -/
theorem SlC.sub {w : World} {a a' : Option Addr} {n c lo hi : Nat} {cells : List Value} (h : SlC w (.slice a n c) n cells) (hl : cells.length = n) (h1 : lo ≤ hi) (h2 : hi ≤ n) (h0 : a = none → a' = none)
    (hs : ∀ b o, a = some ⟨b, o, none⟩ → ∃ o', a' = some ⟨b, o', none⟩ ∧ ((lo : Int) < c → o' = o + lo)) : SlC w (.slice a' (hi - lo) (c - lo)) (hi - lo) ((cells.drop lo).take (hi - lo)) := by
  obtain ⟨_, _, h3, hn, hm, h⟩ := h
  cases h3
  refine ⟨_, _, rfl, by omega, by omega, ?_⟩
  rcases h with h | ⟨j, o, rfl, h⟩
  · exact Or.inl (by rw [h]; simp)
  · by_cases hkn : lo < n
    · obtain ⟨o', rfl, ho⟩ := hs j o rfl
      obtain rfl := ho (by omega)
      refine Or.inr ⟨j, o + lo, rfl, fun i u hi => ?_⟩
      rw [List.getElem?_take] at hi
      split at hi
      · rw [List.getElem?_drop] at hi
        rw [Nat.add_assoc]
        exact h _ _ hi
      · cases hi
    · exact Or.inl (by rw [List.drop_eq_nil_of_le (by omega)]; simp)
theorem be8_wide (v : Nat) : be8 v = wideP v 8 := rfl
theorem pad_go (n m : Nat) (h : m ≤ zerosN n) : (n % 64 + (1 + m) + 8) % 64 ≠ 0 ↔ m ≠ zerosN n := by unfold zerosN at *; omega

theorem DocPadding_ok (n : Nat) (hn : n < 18446744073709551616) (w : World) :
    CallK Tryz.prog 91 [.int .u64 n].toArray w fun v w' => Own w' w.heap.size 5 1 v (padW n).length (vbs (padW n)) ∧ Ext w w' := by
  have hz : zerosN n < 64 := by unfold zerosN; omega
  refine enterT Tryz.func91 rfl Tryz.ntmps91 Tryz.results91 rfl (by decide) ?_
  simp only [↓VD, VP, VT, isAggD, reduceCtorEq, Int.reduceEq, Int.reduceNe, Int.reduceLT, Int.reduceLE, implies_true, Nat.reduceEqDiff, reduceIte, ite_true, ite_false, eq_self, Nat.reduceLT, Nat.reduceLeDiff, Nat.reduceAdd, Nat.reduceMul, Nat.reduceSub, intOf]
  refine ⟨rfl, rfl, fun w1 hN1 => ?_⟩
  have h1 : [Value.int .u8 128] = vbs [128] := rfl
  rw [h1] at hN1
  refine loopT (fun s' w' => Ext w w' ∧ w.heap.size ≤ w'.heap.size ∧ s' 0 = .int .u64 n ∧ ∃ m v, m ≤ zerosN n ∧ s' 3 = v ∧ Own w' w.heap.size 5 1 v (1 + m) (vbs (128 :: List.replicate m 0)))
      (fun s' _ => 100 - slLen (s' 3)) ?_ ?_
  · simp only [↓VD, VP, VT, isAggD, reduceCtorEq, Int.reduceEq, Int.reduceNe, Int.reduceLT, Int.reduceLE, implies_true, Nat.reduceEqDiff, reduceIte, ite_true, ite_false, eq_self, Nat.reduceLT, Nat.reduceLeDiff, Nat.reduceAdd, Nat.reduceMul, Nat.reduceSub, intOf]
    exact ⟨hN1.ext, by have := hN1.size; omega, 0, _, by omega, rfl, Own.of_blk hN1.blk (Nat.le_refl _) rfl (by decide)⟩
  · rintro s2 w2 ⟨hE, hsz, h0, m, v, hm, h3, hO⟩
    obtain ⟨a, c, rfl⟩ := own_slice hO
    simp only [↓VD, VP, VT, isAggD, reduceCtorEq, Int.reduceEq, Int.reduceNe, Int.reduceLT, Int.reduceLE, implies_true, Nat.reduceEqDiff, reduceIte, ite_true, ite_false, eq_self, Nat.reduceLT, Nat.reduceLeDiff, Nat.reduceAdd, Nat.reduceMul, Nat.reduceSub, intOf, h0, h3, show (n : Int).tmod 64 = ((n % 64 : Nat) : Int) from tmodN n 64, (show IntKind.u64.wrap (((1 + m : Nat) : Int)) = ((1 + m : Nat) : Int) from by rw [wu64 (by omega) (by omega)] <;> omega), (show IntKind.u64.wrap (((n % 64 : Nat) : Int) + ((1 + m : Nat) : Int)) = ((n % 64 + (1 + m) : Nat) : Int) from by rw [wu64 (by omega) (by omega)] <;> omega), (show IntKind.u64.wrap (((n % 64 + (1 + m) : Nat) : Int) + 8) = ((n % 64 + (1 + m) + 8 : Nat) : Int) from by rw [wu64 (by omega) (by omega)] <;> omega), show ((n % 64 + (1 + m) + 8 : Nat) : Int).tmod 64 = (((n % 64 + (1 + m) + 8) % 64 : Nat) : Int) from tmodN _ 64]
    have hgo := pad_go n m hm
    refine ⟨fun hne => ?_, fun he => ?_⟩
    · have hmz : m < zerosN n := by omega
      refine ⟨rfl, rfl, fun w3 hN3 => ?_⟩
      have s3 := hN3.size
      have h2 : [Value.int .u8 0] = vbs [0] := rfl
      rw [h2] at hN3
      refine apS Tryz.underlying22 z5 c5 rfl (by decide) (hO.ext hN3.ext) (by omega) (SlC.of_blk (n := 1) hN3.blk (by decide)) rfl (vbs_one _) (by omega) (by rw [by5]; omega) (fun v' w4 hO4 hg => ?_)
      have hb4 := below_of_grown (hO.ext hN3.ext) (by omega) hg
      obtain ⟨a4, c4, rfl⟩ := own_slice hO4
      have s4 := hg.size
      simp only [↓VD, VP, VT, isAggD, reduceCtorEq, Int.reduceEq, Int.reduceNe, Int.reduceLT, Int.reduceLE, implies_true, Nat.reduceEqDiff, reduceIte, ite_true, ite_false, eq_self, Nat.reduceLT, Nat.reduceLeDiff, Nat.reduceAdd, Nat.reduceMul, Nat.reduceSub, intOf, h0, h3]
      refine ⟨⟨(hE.trans' hN3.ext).trans hb4, by omega, m + 1, _, by omega, rfl, ?_⟩, by simp only [slLen]; omega⟩
      rw [List.replicate_succ', ← List.cons_append]
      have := hO4
      rw [show 1 + (m + 1) = 1 + m + 1 from by omega]
      simpa [vbs] using this
    · have hmz : m = zerosN n := by omega
      subst hmz
      generalize hV : 8 * n % 18446744073709551616 = V at *
      have hV8 : IntKind.u64.wrap (8 * (n : Int)) = (V : Int) := by
        have := wr64 (8 * n)
        rw [hV] at this
        rw [← this]; congr 1
      refine loopT (fun s' w' => Ext w w' ∧ w.heap.size ≤ w'.heap.size ∧ s' 0 = .int .u64 n ∧ ∃ i v, i ≤ 8 ∧ s' 4 = .int .i64 (7 - (i : Nat)) ∧ s' 3 = v ∧ Own w' w.heap.size 5 1 v (1 + zerosN n + i) (vbs ((128 :: List.replicate (zerosN n) 0) ++ (wideP V 8).take i)))
          (fun s' _ => (intOf (s' 4) + 1).toNat) ?_ ?_
      · simp only [↓VD, VP, VT, isAggD, reduceCtorEq, Int.reduceEq, Int.reduceNe, Int.reduceLT, Int.reduceLE, implies_true, Nat.reduceEqDiff, reduceIte, ite_true, ite_false, eq_self, Nat.reduceLT, Nat.reduceLeDiff, Nat.reduceAdd, Nat.reduceMul, Nat.reduceSub, intOf, h0, h3]
        exact ⟨hE, hsz, 0, _, by omega, rfl, rfl, by simpa using hO⟩
      · clear hE hsz h0 h3 hO hgo he
        rintro s3 w3 ⟨hE, hsz, h0, i, v, hi, h4, h3, hO⟩
        obtain ⟨a3, c3, rfl⟩ := own_slice hO
        simp only [↓VD, VP, VT, isAggD, reduceCtorEq, Int.reduceEq, Int.reduceNe, Int.reduceLT, Int.reduceLE, implies_true, Nat.reduceEqDiff, reduceIte, ite_true, ite_false, eq_self, Nat.reduceLT, Nat.reduceLeDiff, Nat.reduceAdd, Nat.reduceMul, Nat.reduceSub, intOf, h0, h3, h4, hV8]
        refine ⟨fun hge => ?_, fun hlt => ?_⟩
        · have hi8 : i < 8 := by omega
          have e1 : (7 : Int) - i = ((8 - 1 - i : Nat) : Int) := by omega
          simp only [↓VD, VP, VT, isAggD, reduceCtorEq, Int.reduceEq, Int.reduceNe, Int.reduceLT, Int.reduceLE, implies_true, Nat.reduceEqDiff, reduceIte, ite_true, ite_false, eq_self, Nat.reduceLT, Nat.reduceLeDiff, Nat.reduceAdd, Nat.reduceMul, Nat.reduceSub, intOf, h0, h3, h4, hV8, e1, (show IntKind.i64.wrap (8 * ((8 - 1 - i : Nat) : Int)) = ((8 * (8 - 1 - i) : Nat) : Int) from by rw [w64 (by omega) (by omega)] <;> omega), show (V : Int).fdiv (2 ^ min (8 * (8 - 1 - i)) IntKind.u64.bits) = ((V / 2 ^ (8 * (8 - 1 - i)) : Nat) : Int) from fdivN V (8 * (8 - 1 - i)) 64 (by omega), wr8]
          refine ⟨by omega, rfl, rfl, fun w4 hN4 => ?_⟩
          have s4 := hN4.size
          have hw := wideP_take V 8 i hi8
          rw [show 8 - 1 - i = 7 - i from rfl] at hw
          generalize hy : UInt8.ofNat (V / 2 ^ (8 * (7 - i))) = y at *
          have h2 : [Value.int .u8 y.toNat] = vbs [y] := rfl
          rw [h2] at hN4
          refine apS Tryz.underlying22 z5 c5 rfl (by decide) (hO.ext hN4.ext) (by omega) (SlC.of_blk (n := 1) hN4.blk (by decide)) rfl (vbs_one _) (by omega) (by rw [by5]; omega) (fun v' w5 hO5 hg => ?_)
          have hb5 := below_of_grown (hO.ext hN4.ext) (by omega) hg
          obtain ⟨a5, c5, rfl⟩ := own_slice hO5
          have s5 := hg.size
          simp only [↓VD, VP, VT, isAggD, reduceCtorEq, Int.reduceEq, Int.reduceNe, Int.reduceLT, Int.reduceLE, implies_true, Nat.reduceEqDiff, reduceIte, ite_true, ite_false, eq_self, Nat.reduceLT, Nat.reduceLeDiff, Nat.reduceAdd, Nat.reduceMul, Nat.reduceSub, intOf, h0, h3, h4]
          rw [w64 (by omega) (by omega)]
          refine ⟨⟨(hE.trans' hN4.ext).trans hb5, by omega, i + 1, _, by omega, by omega, rfl, ?_⟩, by omega⟩
          rw [← hw]
          have := hO5
          rw [show 1 + zerosN n + (i + 1) = 1 + zerosN n + i + 1 from by omega]
          simpa [vbs] using this
        · have hi8 : i = 8 := by omega
          subst hi8
          refine ⟨?_, hE⟩
          have e : padW n = (128 :: List.replicate (zerosN n) 0) ++ (wideP V 8).take 8 := by
            rw [List.take_of_length_le (by rw [wideP_len]; omega), padW, ← hV]; rfl
          rw [← e] at hO
          have hpl := padW_len n
          rw [show (padW n).length = 1 + zerosN n + 8 from by omega]
          exact hO

theorem shaP_parts (xs : List UInt8) : shaP xs = outW (blocksW (blocksW H0W xs (xs.length / 64)) (xs.drop (64 * (xs.length / 64)) ++ padW xs.length) ((xs.drop (64 * (xs.length / 64)) ++ padW xs.length).length / 64)) := by
  have hw := padW_whole xs.length
  have hq : 64 * (xs.length / 64) ≤ xs.length := by omega
  unfold shaP
  simp only
  have e1 : (xs ++ padW xs.length).length / 64 = xs.length / 64 + (xs.drop (64 * (xs.length / 64)) ++ padW xs.length).length / 64 := by
    simp only [List.length_append, List.length_drop]; omega
  rw [e1, blocksW_add, blocksW_app _ _ _ _ hq, List.drop_append_of_le_length hq]

theorem Rsum_ok (xs : List UInt8) (v : Value) (w : World) (hv : SlB w v xs) (hsz : xs.length + 200 ≤ 140737488355328) :
    CallK Tryz.prog 68 [v].toArray w fun v w' => v = .agg (vbs (shaP xs)).toArray ∧ Ext w w' := by
  obtain ⟨a, c, rfl⟩ := slv_of hv
  obtain ⟨m, hm⟩ : ∃ m, xs.length / 64 = m := ⟨_, rfl⟩
  have hm64 : 64 * m ≤ xs.length := by omega
  have hcc : xs.length ≤ c ∧ c ≤ 9223372036854775807 := by obtain ⟨_, _, h, h1, h2, _⟩ := hv; cases h; exact ⟨h1, h2⟩
  refine enterT Tryz.func68 rfl Tryz.ntmps68 Tryz.results68 rfl (by decide) ?_
  simp only [↓VD, VP, VT, isAggD, reduceCtorEq, Int.reduceEq, Int.reduceNe, Int.reduceLT, Int.reduceLE, implies_true, Nat.reduceEqDiff, reduceIte, ite_true, ite_false, eq_self, Nat.reduceLT, Nat.reduceLeDiff, Nat.reduceAdd, Nat.reduceMul, Nat.reduceSub, intOf]
  intro w1 hN1
  have s1 := hN1.size
  rw [vbs_rep] at hN1
  refine (First_ok w1).mono ?_
  rintro _ w2 ⟨rfl, hE2⟩
  have s2 := hE2.size
  simp only [↓VD, VP, VT, isAggD, reduceCtorEq, Int.reduceEq, Int.reduceNe, Int.reduceLT, Int.reduceLE, implies_true, Nat.reduceEqDiff, reduceIte, ite_true, ite_false, eq_self, Nat.reduceLT, Nat.reduceLeDiff, Nat.reduceAdd, Nat.reduceMul, Nat.reduceSub, intOf]
  intro w3 hN3
  have s3 := hN3.size
  refine stAll hN3.blk rfl (by rw [c120]; omega) (by rw [c120]; rfl) (by rw [c120]; rfl) (vws_one _) (fun w4 hP4 => ?_)
  have s4 := hP4.size
  have hE4 : Ext w w4 := ((hN1.ext.trans' hE2).trans' hN3.ext).trans (hP4.below (by omega))
  have hB1 : Blk w4 w.heap.size 27 (vbs (List.replicate 32 0)) := hP4.keep ((hN1.blk.ext hE2).ext hN3.ext) (by omega)
  have ew : IntKind.i64.wrap ((IntKind.i64.wrap ((xs.length : Int).tdiv 64)) * 64) = ((64 * m : Nat) : Int) := by
    rw [Int.tdiv_eq_ediv_of_nonneg (by omega), w64 (n := (xs.length : Int) / 64) (by omega) (by omega), w64 (by omega) (by omega)]; omega
  simp only [↓VD, VP, VT, isAggD, reduceCtorEq, Int.reduceEq, Int.reduceNe, Int.reduceLT, Int.reduceLE, implies_true, Nat.reduceEqDiff, reduceIte, ite_true, ite_false, eq_self, Nat.reduceLT, Nat.reduceLeDiff, Nat.reduceAdd, Nat.reduceMul, Nat.reduceSub, intOf, ew]
  refine loopT (fun s' w' => Ext w w' ∧ w4.heap.size ≤ w'.heap.size ∧ ∃ k : Nat, k ≤ m ∧ s' 0 = .slice a xs.length c ∧ s' 2 = .pointer (some ⟨w.heap.size, 0, none⟩) ∧ s' 3 = .pointer (some ⟨w2.heap.size, 0, none⟩) ∧ s' 4 = .int .i64 (64 * m : Nat) ∧ s' 5 = .int .i64 (64 * k : Nat) ∧
      Blk w' w.heap.size 27 (vbs (List.replicate 32 0)) ∧ Blk w' w2.heap.size 120 (vws (blocksW H0W xs k))) (fun s' _ => 64 * m - (intOf (s' 5)).toNat) ?_ ?_
  · simp only [↓VD, VP, VT, isAggD, reduceCtorEq, Int.reduceEq, Int.reduceNe, Int.reduceLT, Int.reduceLE, implies_true, Nat.reduceEqDiff, reduceIte, ite_true, ite_false, eq_self, Nat.reduceLT, Nat.reduceLeDiff, Nat.reduceAdd, Nat.reduceMul, Nat.reduceSub, intOf]
    exact ⟨hE4, Nat.le_refl _, 0, by omega, rfl, hB1, hP4.blk⟩
  · clear hB1 hP4 hE4
    rintro s5 w5 ⟨hE, hsz5, k, hk, h0, h2, h3, h4, h5, hB1, hB3⟩
    have hbl := blocksW_len H0W xs rfl k
    simp only [↓VD, VP, VT, isAggD, reduceCtorEq, Int.reduceEq, Int.reduceNe, Int.reduceLT, Int.reduceLE, implies_true, Nat.reduceEqDiff, reduceIte, ite_true, ite_false, eq_self, Nat.reduceLT, Nat.reduceLeDiff, Nat.reduceAdd, Nat.reduceMul, Nat.reduceSub, intOf, h0, h2, h3, h4, h5]
    refine ⟨fun hlt => ?_, fun hge => ?_⟩
    · have hkm : k < m := by omega
      refine drawH (fun x => Blk x w2.heap.size 120 (vws (blocksW H0W xs k))) [0, 1, 2, 3, 4, 5, 6, 7] mixed (by decide +kernel) (fun w6 hE6 hx => ⟨hB3.ext hE6, ?_⟩)
      simp only [↓VD, VP, VT, isAggD, reduceCtorEq, Int.reduceEq, Int.reduceNe, Int.reduceLT, Int.reduceLE, implies_true, Nat.reduceEqDiff, reduceIte, ite_true, ite_false, eq_self, Nat.reduceLT, Nat.reduceLeDiff, Nat.reduceAdd, Nat.reduceMul, Nat.reduceSub, intOf, h0, h2, h3, h4, h5]
      refine loadS_of _ (fun x hx => ldA Tryz.underlying120 rfl hx (by rw [vws_len, hbl, c120]) rfl) ?_
      simp only [↓VD, VP, VT, isAggD, reduceCtorEq, Int.reduceEq, Int.reduceNe, Int.reduceLT, Int.reduceLE, implies_true, Nat.reduceEqDiff, reduceIte, ite_true, ite_false, eq_self, Nat.reduceLT, Nat.reduceLeDiff, Nat.reduceAdd, Nat.reduceMul, Nat.reduceSub, intOf, h0, h2, h3, h4, h5, (show IntKind.i64.wrap (((64 * k : Nat) : Int) + 64) = ((64 * k + 64 : Nat) : Int) from by rw [w64 (by omega) (by omega)] <;> omega)]
      refine ⟨by omega, by omega, by omega, fun a' ha1 ha2 => ?_⟩
      have hsub := ((hv.ext hE).ext hE6).sub (lo := 64 * k) (hi := 64 * k + 64) (vbs_len _) (by omega) (by omega) ha1 ha2
      rw [vbs_drop, vbs_take, Nat.add_sub_cancel_left] at hsub
      rw [show (((64 * k + 64 : Nat) : Int) - ((64 * k : Nat) : Int)).toNat = 64 from by omega, show ((c : Int) - ((64 * k : Nat) : Int)).toNat = c - 64 * k from by omega]
      have hl64 : ((xs.drop (64 * k)).take 64).length = 64 := by rw [List.length_take, List.length_drop]; omega
      refine (Rcompress_ok (blocksW H0W xs k) ((xs.drop (64 * k)).take 64) hbl hl64 _ w6 (by rw [hl64]; exact hsub)).mono ?_
      rintro _ w7 ⟨rfl, hE7⟩
      have hB7 := (hB3.ext hE6).ext hE7
      have s6 := hE6.size
      have s7 := hE7.size
      refine told (fun _ => True) hB7 trivial ?_
      simp only [↓VD, VP, VT, isAggD, reduceCtorEq, Int.reduceEq, Int.reduceNe, Int.reduceLT, Int.reduceLE, implies_true, Nat.reduceEqDiff, reduceIte, ite_true, ite_false, eq_self, Nat.reduceLT, Nat.reduceLeDiff, Nat.reduceAdd, Nat.reduceMul, Nat.reduceSub, intOf, h0, h2, h3, h4, h5]
      have hcl := compW_len _ ((xs.drop (64 * k)).take 64) hbl
      refine stAll hB7 rfl (by rw [c120]; omega) (by rw [c120, vws_len, hcl]) (by rw [c120, vws_len, hbl]) (vws_one _) (fun w8 hP8 => ?_)
      have s8 := hP8.size
      refine toldL (by unfold LastP; decide +kernel) ?_
      simp only [↓VD, VP, VT, isAggD, reduceCtorEq, Int.reduceEq, Int.reduceNe, Int.reduceLT, Int.reduceLE, implies_true, Nat.reduceEqDiff, reduceIte, ite_true, ite_false, eq_self, Nat.reduceLT, Nat.reduceLeDiff, Nat.reduceAdd, Nat.reduceMul, Nat.reduceSub, intOf, h0, h2, h3, h4, h5]
      refine ⟨⟨((hE.trans' hE6).trans' hE7).trans (hP8.below (by omega)), by omega, k + 1, by omega, ?_, hP8.keep ((hB1.ext hE6).ext hE7) (by omega), hP8.blk⟩, ?_⟩
      · rw [w64 (by omega) (by omega)]; omega
      · rw [w64 (by omega) (by omega)]; omega
    · have hkm : k = m := by omega
      subst hkm
      refine mkS (l := 0) (c := 136) Tryz.underlying22 z5 rfl c5 (by decide) (by rw [by5]; decide) (by decide) (fun w6 hN6 => ?_)
      have s6 := hN6.size
      have hO6 : Own w6 w5.heap.size 5 1 (.slice (some ⟨w5.heap.size, 0, none⟩) 0 136) 0 [] := ⟨rfl, .inr ⟨w5.heap.size, 136, _, rfl, Nat.le_refl _, hN6.blk.out, by decide, by decide, by simp, by simp⟩⟩
      simp only [↓VD, VP, VT, isAggD, reduceCtorEq, Int.reduceEq, Int.reduceNe, Int.reduceLT, Int.reduceLE, implies_true, Nat.reduceEqDiff, reduceIte, ite_true, ite_false, eq_self, Nat.reduceLT, Nat.reduceLeDiff, Nat.reduceAdd, Nat.reduceMul, Nat.reduceSub, intOf, h0, h2, h3, h4]
      refine ⟨by omega, by omega, by omega, fun a' ha1 ha2 => ?_⟩
      have hsub := ((hv.ext hE).ext hN6.ext).sub (lo := 64 * k) (hi := xs.length) (vbs_len _) (by omega) (Nat.le_refl _) ha1 ha2
      rw [vbs_drop, List.take_of_length_le (by rw [vbs_len, List.length_drop]; omega)] at hsub
      rw [show ((xs.length : Int) - ((64 * k : Nat) : Int)).toNat = xs.length - 64 * k from by omega, show ((c : Int) - ((64 * k : Nat) : Int)).toNat = c - 64 * k from by omega]
      refine apS Tryz.underlying22 z5 c5 rfl (by decide) hO6 (by omega) hsub (by rw [vbs_len, List.length_drop]; omega) (vbs_one _) (by omega) (by rw [by5]; omega) (fun v' w7 hO7 hg7 => ?_)
      have hb7 := below_of_grown hO6 (by omega) hg7
      have s7 := hg7.size
      obtain ⟨a7, c7, rfl⟩ := own_slice hO7
      have hE7 : Ext w5 w7 := hN6.ext.trans hb7
      simp only [↓VD, VP, VT, isAggD, reduceCtorEq, Int.reduceEq, Int.reduceNe, Int.reduceLT, Int.reduceLE, implies_true, Nat.reduceEqDiff, reduceIte, ite_true, ite_false, eq_self, Nat.reduceLT, Nat.reduceLeDiff, Nat.reduceAdd, Nat.reduceMul, Nat.reduceSub, intOf, h0, h2, h3, h4, (show IntKind.u64.wrap ((xs.length : Int)) = ((xs.length : Nat) : Int) from by rw [wu64 (by omega) (by omega)] <;> omega)]
      refine (DocPadding_ok xs.length (by omega) w7).mono ?_
      rintro pv w8 ⟨hOp, hE8⟩
      have s8 := hE8.size
      obtain ⟨ap, cp, rfl⟩ := own_slice hOp
      have hpl := padW_len xs.length
      have hz : zerosN xs.length < 64 := by unfold zerosN; omega
      simp only [↓VD, VP, VT, isAggD, reduceCtorEq, Int.reduceEq, Int.reduceNe, Int.reduceLT, Int.reduceLE, implies_true, Nat.reduceEqDiff, reduceIte, ite_true, ite_false, eq_self, Nat.reduceLT, Nat.reduceLeDiff, Nat.reduceAdd, Nat.reduceMul, Nat.reduceSub, intOf, h0, h2, h3, h4]
      have hO7' : Own w8 w5.heap.size 5 1 (.slice a7 (xs.length - 64 * k) c7) (xs.length - 64 * k) (vbs (xs.drop (64 * k))) := by
        have := hO7.ext hE8
        rw [Nat.zero_add] at this
        exact this
      refine apS (base := w5.heap.size) (n := xs.length - 64 * k) (m := (padW xs.length).length) Tryz.underlying22 z5 c5 rfl (by decide) hO7' (by omega) (SlC.of_own hOp) (by rw [vbs_len, Nat.mul_one]) (vbs_one _) (by omega) (by rw [by5]; omega) (fun v' w9 hO9 hg9 => ?_)
      have hb9 := below_of_grown hO7' (by omega) hg9
      have s9 := hg9.size
      have hE9 : Ext w5 w9 := (hE7.trans' hE8).trans hb9
      obtain ⟨a9, c9, rfl⟩ := own_slice hO9
      obtain ⟨R, hR⟩ : ∃ R, xs.drop (64 * k) ++ padW xs.length = R := ⟨_, rfl⟩
      have hRl : R.length = xs.length - 64 * k + (padW xs.length).length := by rw [← hR, List.length_append, List.length_drop]
      have hRw : R.length % 64 = 0 := by have := padW_whole xs.length; omega
      have hO9' : Own w9 w5.heap.size 5 1 (.slice a9 R.length c9) R.length (vbs R) := by
        rw [hRl, ← hR]
        simpa [vbs] using hO9
      rw [← hRl]
      obtain ⟨H1, hH1⟩ : ∃ H1, blocksW H0W xs k = H1 := ⟨_, rfl⟩
      rw [hH1] at hB3 hbl
      simp only [↓VD, VP, VT, isAggD, reduceCtorEq, Int.reduceEq, Int.reduceNe, Int.reduceLT, Int.reduceLE, implies_true, Nat.reduceEqDiff, reduceIte, ite_true, ite_false, eq_self, Nat.reduceLT, Nat.reduceLeDiff, Nat.reduceAdd, Nat.reduceMul, Nat.reduceSub, intOf, h0, h2, h3, h4]
      refine loopT (fun s' w' => Ext w w' ∧ w9.heap.size ≤ w'.heap.size ∧ ∃ j : Nat, j ≤ R.length / 64 ∧ s' 2 = .pointer (some ⟨w.heap.size, 0, none⟩) ∧ s' 3 = .pointer (some ⟨w2.heap.size, 0, none⟩) ∧ s' 6 = .slice a9 R.length c9 ∧ s' 7 = .int .i64 (64 * j : Nat) ∧
          Blk w' w.heap.size 27 (vbs (List.replicate 32 0)) ∧ Blk w' w2.heap.size 120 (vws (blocksW H1 R j)) ∧ Own w' w5.heap.size 5 1 (.slice a9 R.length c9) R.length (vbs R)) (fun s' _ => R.length - (intOf (s' 7)).toNat) ?_ ?_
      · simp only [↓VD, VP, VT, isAggD, reduceCtorEq, Int.reduceEq, Int.reduceNe, Int.reduceLT, Int.reduceLE, implies_true, Nat.reduceEqDiff, reduceIte, ite_true, ite_false, eq_self, Nat.reduceLT, Nat.reduceLeDiff, Nat.reduceAdd, Nat.reduceMul, Nat.reduceSub, intOf, h0, h2, h3, h4]
        exact ⟨hE.trans' hE9, Nat.le_refl _, 0, by omega, rfl, hB1.ext hE9, hB3.ext hE9, hO9'⟩
      · clear hB1 hB3 hE h0 h2 h3 h4 h5 hO9 hO9' hge
        rintro s10 w10 ⟨hE, hsz10, j, hj, h2, h3, h6, h7, hB1, hB3, hO⟩
        have hbl2 := blocksW_len H1 R hbl j
        simp only [↓VD, VP, VT, isAggD, reduceCtorEq, Int.reduceEq, Int.reduceNe, Int.reduceLT, Int.reduceLE, implies_true, Nat.reduceEqDiff, reduceIte, ite_true, ite_false, eq_self, Nat.reduceLT, Nat.reduceLeDiff, Nat.reduceAdd, Nat.reduceMul, Nat.reduceSub, intOf, h2, h3, h6, h7]
        refine ⟨fun hlt => ?_, fun hge => ?_⟩
        · have hjm : 64 * j + 64 ≤ R.length := by omega
          have hcc9 : R.length ≤ c9 ∧ c9 ≤ 9223372036854775807 := by obtain ⟨_, _, h, h1, h2, _⟩ := SlC.of_own hO; cases h; exact ⟨h1, h2⟩
          refine drawH (fun x => Blk x w2.heap.size 120 (vws (blocksW H1 R j))) [0, 1, 2, 3, 4, 5, 6, 7] mixed (by decide +kernel) (fun w11 hE11 hx => ⟨hB3.ext hE11, ?_⟩)
          simp only [↓VD, VP, VT, isAggD, reduceCtorEq, Int.reduceEq, Int.reduceNe, Int.reduceLT, Int.reduceLE, implies_true, Nat.reduceEqDiff, reduceIte, ite_true, ite_false, eq_self, Nat.reduceLT, Nat.reduceLeDiff, Nat.reduceAdd, Nat.reduceMul, Nat.reduceSub, intOf, h2, h3, h6, h7]
          refine loadS_of _ (fun x hx => ldA Tryz.underlying120 rfl hx (by rw [vws_len, hbl2, c120]) rfl) ?_
          simp only [↓VD, VP, VT, isAggD, reduceCtorEq, Int.reduceEq, Int.reduceNe, Int.reduceLT, Int.reduceLE, implies_true, Nat.reduceEqDiff, reduceIte, ite_true, ite_false, eq_self, Nat.reduceLT, Nat.reduceLeDiff, Nat.reduceAdd, Nat.reduceMul, Nat.reduceSub, intOf, h2, h3, h6, h7, (show IntKind.i64.wrap (((64 * j : Nat) : Int) + 64) = ((64 * j + 64 : Nat) : Int) from by rw [w64 (by omega) (by omega)] <;> omega)]
          refine ⟨by omega, by omega, by omega, fun a' ha1 ha2 => ?_⟩
          have hsub := ((SlC.of_own hO).ext hE11).sub (lo := 64 * j) (hi := 64 * j + 64) (vbs_len _) (by omega) (by omega) ha1 ha2
          rw [vbs_drop, vbs_take, Nat.add_sub_cancel_left] at hsub
          rw [show (((64 * j + 64 : Nat) : Int) - ((64 * j : Nat) : Int)).toNat = 64 from by omega, show ((c9 : Int) - ((64 * j : Nat) : Int)).toNat = c9 - 64 * j from by omega]
          have hl64 : ((R.drop (64 * j)).take 64).length = 64 := by rw [List.length_take, List.length_drop]; omega
          refine (Rcompress_ok (blocksW H1 R j) ((R.drop (64 * j)).take 64) hbl2 hl64 _ w11 (by rw [hl64]; exact hsub)).mono ?_
          rintro _ w12 ⟨rfl, hE12⟩
          have hB7 := (hB3.ext hE11).ext hE12
          have s11 := hE11.size
          have s12 := hE12.size
          refine told (fun _ => True) hB7 trivial ?_
          simp only [↓VD, VP, VT, isAggD, reduceCtorEq, Int.reduceEq, Int.reduceNe, Int.reduceLT, Int.reduceLE, implies_true, Nat.reduceEqDiff, reduceIte, ite_true, ite_false, eq_self, Nat.reduceLT, Nat.reduceLeDiff, Nat.reduceAdd, Nat.reduceMul, Nat.reduceSub, intOf, h2, h3, h6, h7]
          have hcl := compW_len _ ((R.drop (64 * j)).take 64) hbl2
          refine stAll hB7 rfl (by rw [c120]; omega) (by rw [c120, vws_len, hcl]) (by rw [c120, vws_len, hbl2]) (vws_one _) (fun w13 hP13 => ?_)
          have s13 := hP13.size
          refine toldL (by unfold LastP; decide +kernel) ?_
          simp only [↓VD, VP, VT, isAggD, reduceCtorEq, Int.reduceEq, Int.reduceNe, Int.reduceLT, Int.reduceLE, implies_true, Nat.reduceEqDiff, reduceIte, ite_true, ite_false, eq_self, Nat.reduceLT, Nat.reduceLeDiff, Nat.reduceAdd, Nat.reduceMul, Nat.reduceSub, intOf, h2, h3, h6, h7]
          refine ⟨⟨((hE.trans' hE11).trans' hE12).trans (hP13.below (by omega)), by omega, j + 1, by omega, ?_, hP13.keep ((hB1.ext hE11).ext hE12) (by omega), hP13.blk, ((hO.ext hE11).ext hE12).put hB7 (by decide) hP13⟩, ?_⟩
          · rw [w64 (by omega) (by omega)]; omega
          · rw [w64 (by omega) (by omega)]; omega
        · have hjm : j = R.length / 64 := by omega
          have hsha : outW (blocksW H1 R j) = shaP xs := by rw [shaP_parts, hm, hR, hH1, ← hjm]
          obtain ⟨H2, hH2⟩ : ∃ H2, blocksW H1 R j = H2 := ⟨_, rfl⟩
          rw [hH2] at hB3 hbl2 hsha
          intro w11 hN11
          have s11 := hN11.size
          rw [vbs_rep] at hN11
          refine loopT (fun s' w' => Ext w w' ∧ ∃ i : Nat, i ≤ 32 ∧ s' 2 = .pointer (some ⟨w.heap.size, 0, none⟩) ∧ s' 3 = .pointer (some ⟨w2.heap.size, 0, none⟩) ∧ s' 8 = .pointer (some ⟨w10.heap.size, 0, none⟩) ∧ s' 9 = .int .i64 i ∧
              Blk w' w.heap.size 27 (vbs (List.replicate 32 0)) ∧ Blk w' w2.heap.size 120 (vws H2) ∧ Blk w' w10.heap.size 27 (vbs ((outW H2).take i ++ List.replicate (32 - i) 0))) (fun s' _ => 32 - (intOf (s' 9)).toNat) ?_ ?_
          · simp only [↓VD, VP, VT, isAggD, reduceCtorEq, Int.reduceEq, Int.reduceNe, Int.reduceLT, Int.reduceLE, implies_true, Nat.reduceEqDiff, reduceIte, ite_true, ite_false, eq_self, Nat.reduceLT, Nat.reduceLeDiff, Nat.reduceAdd, Nat.reduceMul, Nat.reduceSub, intOf, h2, h3, h6]
            exact ⟨hE.trans' hN11.ext, 0, by omega, rfl, hB1.ext hN11.ext, hB3.ext hN11.ext, hN11.blk⟩
          · clear hB1 hB3 hE h2 h3 h6 h7 hO hge
            rintro s12 w12 ⟨hE, i, hi, h2, h3, h8, h9, hB1, hB3, hB8⟩
            simp only [↓VD, VP, VT, isAggD, reduceCtorEq, Int.reduceEq, Int.reduceNe, Int.reduceLT, Int.reduceLE, implies_true, Nat.reduceEqDiff, reduceIte, ite_true, ite_false, eq_self, Nat.reduceLT, Nat.reduceLeDiff, Nat.reduceAdd, Nat.reduceMul, Nat.reduceSub, intOf, h2, h3, h8, h9]
            refine ⟨fun hlt => ?_, fun hge => ?_⟩
            · have hi32 : i < 32 := by omega
              have eq4 : IntKind.i64.wrap ((i : Int).tdiv 4) = ((i / 4 : Nat) : Int) := by rw [Int.tdiv_eq_ediv_of_nonneg (by omega), w64 (by omega) (by omega)]; omega
              simp only [↓VD, VP, VT, isAggD, reduceCtorEq, Int.reduceEq, Int.reduceNe, Int.reduceLT, Int.reduceLE, implies_true, Nat.reduceEqDiff, reduceIte, ite_true, ite_false, eq_self, Nat.reduceLT, Nat.reduceLeDiff, Nat.reduceAdd, Nat.reduceMul, Nat.reduceSub, intOf, h2, h3, h8, h9, eq4]
              refine ⟨by omega, by omega, ldW (o := i / 4) Tryz.underlying119 hB3 (by omega) ?_⟩
              simp only [↓VD, VP, VT, isAggD, reduceCtorEq, Int.reduceEq, Int.reduceNe, Int.reduceLT, Int.reduceLE, implies_true, Nat.reduceEqDiff, reduceIte, ite_true, ite_false, eq_self, Nat.reduceLT, Nat.reduceLeDiff, Nat.reduceAdd, Nat.reduceMul, Nat.reduceSub, intOf, h2, h3, h8, h9, show (i : Int).tmod 4 = ((i % 4 : Nat) : Int) from tmodN i 4, (show IntKind.i64.wrap (8 * ((i % 4 : Nat) : Int)) = ((8 * (i % 4) : Nat) : Int) from by rw [w64 (by omega) (by omega)] <;> omega), (show IntKind.i64.wrap (24 - ((8 * (i % 4) : Nat) : Int)) = ((24 - 8 * (i % 4) : Nat) : Int) from by rw [w64 (by omega) (by omega)] <;> omega), show ((H2.getD (i / 4) 0).toNat : Int).fdiv (2 ^ min (24 - 8 * (i % 4)) IntKind.u32.bits) = (((H2.getD (i / 4) 0).toNat / 2 ^ (24 - 8 * (i % 4)) : Nat) : Int) from fdivN _ (24 - 8 * (i % 4)) 32 (by omega), wr8]
              refine ⟨by omega, by omega, by omega, stV c5 hB8 rfl rfl (by rw [vbs_len]; simp [outW_len]; omega) (fun w13 hP => ?_)⟩
              rw [vbs_set, set_tail (by simp [outW_len]; omega) (by omega), outW_take H2 i hi32] at hP
              simp only [↓VD, VP, VT, isAggD, reduceCtorEq, Int.reduceEq, Int.reduceNe, Int.reduceLT, Int.reduceLE, implies_true, Nat.reduceEqDiff, reduceIte, ite_true, ite_false, eq_self, Nat.reduceLT, Nat.reduceLeDiff, Nat.reduceAdd, Nat.reduceMul, Nat.reduceSub, intOf, h2, h3, h8, h9]
              refine ⟨⟨hE.trans (hP.below (by omega)), i + 1, by omega, ?_, hP.keep hB1 (by omega), hP.keep hB3 (by omega), hP.blk⟩, ?_⟩
              · rw [w64 (by omega) (by omega)]; rfl
              · rw [w64 (by omega) (by omega)]; omega
            · have hi32 : i = 32 := by omega
              subst hi32
              have e1 : (outW H2).take 32 ++ List.replicate (32 - 32) 0 = shaP xs := by
                rw [← hsha, List.take_of_length_le (by rw [outW_len]; omega), List.replicate_zero, List.append_nil]
              rw [e1] at hB8
              have hsl := shaP_len xs
              refine ldA Tryz.underlying27 rfl hB8 (by rw [vbs_len, hsl, c27]) ?_
              simp only [↓VD, VP, VT, isAggD, reduceCtorEq, Int.reduceEq, Int.reduceNe, Int.reduceLT, Int.reduceLE, implies_true, Nat.reduceEqDiff, reduceIte, ite_true, ite_false, eq_self, Nat.reduceLT, Nat.reduceLeDiff, Nat.reduceAdd, Nat.reduceMul, Nat.reduceSub, intOf, h2, h3, h8, h9]
              refine stAll hB1 rfl (by rw [c27]; omega) (by rw [c27, vbs_len, hsl]) (by rw [c27]; rfl) (vbs_one _) (fun w13 hP => ?_)
              simp only [↓VD, VP, VT, isAggD, reduceCtorEq, Int.reduceEq, Int.reduceNe, Int.reduceLT, Int.reduceLE, implies_true, Nat.reduceEqDiff, reduceIte, ite_true, ite_false, eq_self, Nat.reduceLT, Nat.reduceLeDiff, Nat.reduceAdd, Nat.reduceMul, Nat.reduceSub, intOf, h2, h3, h8, h9]
              refine ldA Tryz.underlying27 rfl hP.blk (by rw [c27, vbs_len, hsl]) ?_
              exact ⟨rfl, hE.trans (hP.below (by omega))⟩

end Go.Proofs.YticfalbgplifoaaGreatDoor
