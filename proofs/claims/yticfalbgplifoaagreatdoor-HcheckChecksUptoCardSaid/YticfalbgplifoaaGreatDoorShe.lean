/-
  The walks of the hash (package sha), third part: bytes go in; the sum. Conditions: as stated in each theorem.
-/
import Derived.Test.YticfalbgplifoaaGreatDoorShd
namespace Go.Proofs.YticfalbgplifoaaGreatDoor
set_option maxRecDepth 100000
open Go Go.RowKit
set_option linter.unusedVariables false
set_option linter.unusedSimpArgs false

def slLen : Value → Nat
  | .slice _ n _ => n
  | _ => 0
/-- The rest of a slice of one-cell elements. -/
theorem SlN.drop {w : World} {a a' : Option Addr} {n c k b : Nat} {cells : List Value} (h : SlN w (.slice a n c) n cells b) (hl : cells.length = n) (hk : k ≤ n) (h0 : a = none → a' = none)
    (h1 : ∀ b o, a = some ⟨b, o, none⟩ → ∃ o', a' = some ⟨b, o', none⟩ ∧ ((k : Int) < c → o' = o + k)) : SlN w (.slice a' (n - k) (c - k)) (n - k) (cells.drop k) b := by
  obtain ⟨_, _, h2, hn, hm, h⟩ := h
  cases h2
  refine ⟨_, _, rfl, by omega, by omega, ?_⟩
  rcases h with h | ⟨j, o, rfl, hj, h⟩
  · exact Or.inl (by rw [h]; simp)
  · by_cases hkn : k < n
    · obtain ⟨o', rfl, ho⟩ := h1 j o rfl
      obtain rfl := ho (by omega)
      refine Or.inr ⟨j, o + k, rfl, hj, fun i u hi => ?_⟩
      rw [List.getElem?_drop] at hi
      rw [Nat.add_assoc]
      exact h _ _ hi
    · exact Or.inl (List.drop_eq_nil_of_le (by omega))
theorem vbs_take (l : List UInt8) (k : Nat) : (vbs l).take k = vbs (l.take k) := by simp [vbs]
theorem vbs_drop (l : List UInt8) (k : Nat) : (vbs l).drop k = vbs (l.drop k) := by simp [vbs]
theorem stL_len (h : List W32) (t : Bool) (bk : List UInt8) (n : Nat) (hl : h.length = 8) (hb : bk.length = 64) : (stL h t bk n).length = 74 := by simp [stL, vws_len, vbs_len, hl, hb]
theorem stL_splice (h : List W32) (t : Bool) (bk cs : List UInt8) (n r : Nat) (hl : h.length = 8) (hb : bk.length = 64) (hr : r + cs.length ≤ 64) :
    splice (stL h t bk n) (9 + r) (vbs cs) = stL h t (bk.take r ++ (cs ++ bk.drop (r + cs.length))) n := by
  have e1 : stL h t bk n = (vws h ++ [.bool t] ++ vbs (bk.take r)) ++ (vbs ((bk.drop r).take cs.length) ++ (vbs (bk.drop (r + cs.length)) ++ [.int .u64 n])) := by
    have : bk = bk.take r ++ ((bk.drop r).take cs.length ++ bk.drop (r + cs.length)) := by
      rw [← List.drop_drop, List.take_append_drop, List.take_append_drop]
    rw [stL_b]
    conv => lhs; rw [this]
    simp [vbs]
  have e2 : (vws h ++ [Value.bool t] ++ vbs (bk.take r)).length = 9 + r := by simp [vws_len, vbs_len, hl]; omega
  rw [e1, ← e2, splice_seg (by simp [vbs_len]; omega), stL_b]
  simp [vbs]

set_option maxRecDepth 100000 in
theorem Write_ok (b : Nat) (xs ps : List UInt8) (v : Value) (w : World) (hW : WordsAt w 1) (hg : 1 ≠ b) (hS : St w b xs) (hv : SlN w v ps.length (vbs ps) b) :
    CallK Tryz.prog 73 [.pointer (some ⟨b, 0, none⟩), v].toArray w fun v w' => KeepB w w' b ∧ St w' b (xs ++ ps) := by
  refine enterT Tryz.func73 rfl Tryz.ntmps73 Tryz.results73 rfl (by decide) ?_
  simp only [↓VD, VP, VT, isAggD, reduceCtorEq, Int.reduceEq, Int.reduceNe, Int.reduceLT, Int.reduceLE, implies_true, Nat.reduceEqDiff, reduceIte, ite_true, ite_false, eq_self, Nat.reduceLT, Nat.reduceLeDiff, Nat.reduceAdd, Nat.reduceMul, Nat.reduceSub, intOf]
  refine (begin_ok b xs w hS).mono ?_
  rintro _ w1 ⟨hK1, h, bk, n, hB, hP⟩
  simp only [↓VD, VP, VT, isAggD, reduceCtorEq, Int.reduceEq, Int.reduceNe, Int.reduceLT, Int.reduceLE, implies_true, Nat.reduceEqDiff, reduceIte, ite_true, ite_false, eq_self, Nat.reduceLT, Nat.reduceLeDiff, Nat.reduceAdd, Nat.reduceMul, Nat.reduceSub, intOf]
  refine loopT (fun s' w' => KeepB w w' b ∧ s' 0 = .pointer (some ⟨b, 0, none⟩) ∧ ∃ done rest v', ps = done ++ rest ∧ s' 1 = v' ∧ SlN w' v' rest.length (vbs rest) b ∧ ∃ h bk n, Blk w' b 125 (stL h true bk n) ∧ StP h true bk n (xs ++ done))
      (fun s' _ => slLen (s' 1)) ?_ ?_
  · simp only [↓VD, VP, VT, isAggD, reduceCtorEq, Int.reduceEq, Int.reduceNe, Int.reduceLT, Int.reduceLE, implies_true, Nat.reduceEqDiff, reduceIte, ite_true, ite_false, eq_self, Nat.reduceLT, Nat.reduceLeDiff, Nat.reduceAdd, Nat.reduceMul, Nat.reduceSub, intOf]
    exact ⟨hK1, [], ps, v, rfl, rfl, hv.keep hK1, h, bk, n, hB, by simpa using hP⟩
  · clear hK1 hB hP h bk n
    rintro s2 w2 ⟨hK, h0, done, rest, v', hps, h1, hv2, h, bk, n, hB, hP⟩
    have hv3 := hv2
    obtain ⟨a, c, rfl, hnc, hcm, hc⟩ := hv3
    simp only [↓VD, VP, VT, isAggD, reduceCtorEq, Int.reduceEq, Int.reduceNe, Int.reduceLT, Int.reduceLE, implies_true, Nat.reduceEqDiff, reduceIte, ite_true, ite_false, eq_self, Nat.reduceLT, Nat.reduceLeDiff, Nat.reduceAdd, Nat.reduceMul, Nat.reduceSub, intOf, h0, h1]
    refine ⟨fun hlt => ?_, fun hge => ?_⟩
    · have hl := hP.hl
      have hbl := hP.bl
      have hn := hP.nn
      obtain ⟨r, hr⟩ : ∃ r, (xs ++ done).length % 64 = r := ⟨_, rfl⟩
      have hr64 : r < 64 := by omega
      have hnr : IntKind.i64.wrap ((n : Int).tmod 64) = (r : Int) := by
        rw [show (n : Int).tmod 64 = ((n % 64 : Nat) : Int) from tmodN n 64, w64 (by omega) (by omega)]; omega
      refine ldAt (post := []) Tryz.underlying103 rfl (by rw [stL_n] at hB; exact hB) (by simp [vws_len, vbs_len, hl, hbl]) ?_
      simp only [↓VD, VP, VT, isAggD, reduceCtorEq, Int.reduceEq, Int.reduceNe, Int.reduceLT, Int.reduceLE, implies_true, Nat.reduceEqDiff, reduceIte, ite_true, ite_false, eq_self, Nat.reduceLT, Nat.reduceLeDiff, Nat.reduceAdd, Nat.reduceMul, Nat.reduceSub, intOf, h0, h1, hnr]
      refine ⟨by omega, by omega, fun o' ho' => ?_⟩
      obtain rfl : o' = 9 + r := ho' (by omega)
      rw [show ((64 : Int) - (r : Int)).toNat = 64 - r from by omega]
      obtain ⟨c0, hc0⟩ : ∃ c0, min rest.length (64 - r) = c0 := ⟨_, rfl⟩
      refine cpS (sz := 1) Tryz.underlying22 c5 (by decide) hB hv2.sl (by rw [vbs_len]; omega) (vbs_one _) (by rw [stL_len _ _ _ _ hl hbl]; omega) (fun w3 hP3 => ?_)
      have hcs : (rest.take c0).length = c0 := by rw [List.length_take]; omega
      rw [hc0, Nat.mul_one, vbs_take, stL_splice h true bk (rest.take c0) n r hl hbl (by omega), hcs] at hP3
      rw [hc0]
      obtain ⟨bk', hbk'⟩ : ∃ bk', bk.take r ++ (rest.take c0 ++ bk.drop (r + c0)) = bk' := ⟨_, rfl⟩
      rw [hbk'] at hP3
      have hstep := hP.step (cs := rest.take c0) (by omega) bk' (by rw [hr, hcs]; exact hbk'.symm)
      rw [hr, hcs] at hstep
      have hbl' : bk'.length = 64 := by rw [← hbk']; simp; omega
      have hB3 : Blk w3 b 125 (stL h true bk' n) := hP3.blk
      simp only [↓VD, VP, VT, isAggD, reduceCtorEq, Int.reduceEq, Int.reduceNe, Int.reduceLT, Int.reduceLE, implies_true, Nat.reduceEqDiff, reduceIte, ite_true, ite_false, eq_self, Nat.reduceLT, Nat.reduceLeDiff, Nat.reduceAdd, Nat.reduceMul, Nat.reduceSub, intOf, h0, h1]
      refine ⟨by omega, by omega, by omega, fun a' ha1 ha2 => ?_⟩
      have hB3n := hB3
      rw [stL_n] at hB3n
      have h73 : (vws h ++ (Value.bool true :: vbs bk')).length = 73 := by simp [vws_len, vbs_len, hl, hbl']
      refine ldAt (post := []) Tryz.underlying103 rfl hB3n h73 ?_
      have hadd : IntKind.u64.wrap ((n : Int) + (c0 : Int)) = (((n + c0) % 18446744073709551616 : Nat) : Int) := by
        rw [← Int.natCast_add]; exact wr64 (n + c0)
      simp only [↓VD, VP, VT, isAggD, reduceCtorEq, Int.reduceEq, Int.reduceNe, Int.reduceLT, Int.reduceLE, implies_true, Nat.reduceEqDiff, reduceIte, ite_true, ite_false, eq_self, Nat.reduceLT, Nat.reduceLeDiff, Nat.reduceAdd, Nat.reduceMul, Nat.reduceSub, intOf, h0, h1, (show IntKind.u64.wrap ((c0 : Int)) = ((c0 : Nat) : Int) from by rw [wu64 (by omega) (by omega)] <;> omega), hadd]
      refine stAt c103 hB3n h73 rfl rfl (fun w4 hP4 => ?_)
      have hB4 : Blk w4 b 125 (stL h true bk' ((n + c0) % 18446744073709551616)) := by rw [stL_n]; exact hP4.blk
      have hK4 : KeepB w w4 b := (hK.trans (KeepB.of_put hP3)).trans (KeepB.of_put hP4)
      have hv4 : SlN w4 (.slice a' (rest.length - c0) (c - c0)) (rest.drop c0).length (vbs (rest.drop c0)) b := by
        have := ((hv2.put hP3).put hP4).drop (k := c0) (vbs_len _) (by omega) ha1 ha2
        rw [vbs_drop] at this
        rwa [List.length_drop]
      have hps' : ps = (done ++ rest.take c0) ++ rest.drop c0 := by rw [List.append_assoc, List.take_append_drop]; exact hps
      simp only [↓VD, VP, VT, isAggD, reduceCtorEq, Int.reduceEq, Int.reduceNe, Int.reduceLT, Int.reduceLE, implies_true, Nat.reduceEqDiff, reduceIte, ite_true, ite_false, eq_self, Nat.reduceLT, Nat.reduceLeDiff, Nat.reduceAdd, Nat.reduceMul, Nat.reduceSub, intOf, h0, h1, (show IntKind.i64.wrap ((r : Int) + (c0 : Int)) = ((r + c0 : Nat) : Int) from by rw [w64 (by omega) (by omega)] <;> omega)]
      have e1 : ((rest.length : Int) - (c0 : Int)).toNat = rest.length - c0 := by omega
      have e2 : ((c : Int) - (c0 : Int)).toNat = c - c0 := by omega
      refine ⟨fun he => ?_, fun hne => ?_⟩
      · have he' : r + c0 = 64 := by omega
        have hW4 := hK4.wordsAt hW hg
        have hs1 := hstep.2 he'
        generalize (n + c0) % 18446744073709551616 = n' at *
        refine drawH (fun x => Blk x b 125 (stL h true bk' n')) [0, 1, 2, 3, 4, 5, 6, 7, 8, 9, 10, 11, 12] mixed (by decide +kernel) (fun w5 hE5 hh => ⟨hB4.ext hE5, ?_⟩)
        simp only [↓VD, VP, VT, isAggD, reduceCtorEq, Int.reduceEq, Int.reduceNe, Int.reduceLT, Int.reduceLE, implies_true, Nat.reduceEqDiff, reduceIte, ite_true, ite_false, eq_self, Nat.reduceLT, Nat.reduceLeDiff, Nat.reduceAdd, Nat.reduceMul, Nat.reduceSub, intOf, h0, h1]
        refine loadS_of _ (fun x hx => ldSeg (pre := []) (mid := vws h) Tryz.underlying120 rfl hx rfl (by rw [vws_len, hl, c120]) rfl) ?_
        simp only [↓VD, VP, VT, isAggD, reduceCtorEq, Int.reduceEq, Int.reduceNe, Int.reduceLT, Int.reduceLE, implies_true, Nat.reduceEqDiff, reduceIte, ite_true, ite_false, eq_self, Nat.reduceLT, Nat.reduceLeDiff, Nat.reduceAdd, Nat.reduceMul, Nat.reduceSub, intOf, h0, h1]
        refine loadS_of _ (fun x hx => ldSeg (mid := vbs bk') Tryz.underlying123 rfl (by rw [stL_b] at hx; exact hx) (by simp [vws_len, hl]) (by rw [vbs_len, hbl', c123]) rfl) ?_
        simp only [↓VD, VP, VT, isAggD, reduceCtorEq, Int.reduceEq, Int.reduceNe, Int.reduceLT, Int.reduceLE, implies_true, Nat.reduceEqDiff, reduceIte, ite_true, ite_false, eq_self, Nat.reduceLT, Nat.reduceLeDiff, Nat.reduceAdd, Nat.reduceMul, Nat.reduceSub, intOf, h0, h1]
        refine (Compress_ok h bk' hl hbl' w5 (hW4.ext hE5)).mono ?_
        rintro _ w6 ⟨rfl, hE6⟩
        have hB6 := (hB4.ext hE5).ext hE6
        refine told (fun _ => True) hB6 trivial ?_
        simp only [↓VD, VP, VT, isAggD, reduceCtorEq, Int.reduceEq, Int.reduceNe, Int.reduceLT, Int.reduceLE, implies_true, Nat.reduceEqDiff, reduceIte, ite_true, ite_false, eq_self, Nat.reduceLT, Nat.reduceLeDiff, Nat.reduceAdd, Nat.reduceMul, Nat.reduceSub, intOf, h0, h1]
        refine stSeg (pre := []) (mid := vws h) (vs := vws (compW h bk')) (post := .bool true :: (vbs bk' ++ [.int .u64 n'])) hB6 rfl rfl (by rw [c120]; omega) (by rw [c120, vws_len, compW_len _ _ hl]) (by rw [vws_len, vws_len, hl, compW_len _ _ hl]) (vws_one _) (fun w7 hP7 => ?_)
        refine toldL (by unfold LastP; decide +kernel) ?_
        simp only [↓VD, VP, VT, isAggD, reduceCtorEq, Int.reduceEq, Int.reduceNe, Int.reduceLT, Int.reduceLE, implies_true, Nat.reduceEqDiff, reduceIte, ite_true, ite_false, eq_self, Nat.reduceLT, Nat.reduceLeDiff, Nat.reduceAdd, Nat.reduceMul, Nat.reduceSub, intOf, h0, h1]
        have hK7 : KeepB w4 w7 b := ((KeepB.of_ext hE5).trans (KeepB.of_ext hE6)).trans (KeepB.of_put hP7)
        refine ⟨⟨hK4.trans hK7, done ++ rest.take c0, rest.drop c0, _, hps', rfl, ?_, _, _, _, hP7.blk, by rw [← List.append_assoc]; exact hs1⟩, ?_⟩
        · have := hv4.keep hK7
          rw [List.length_drop] at this ⊢
          rw [e1, e2]
          exact this
        · simp only [slLen]; omega
      · have he' : r + c0 ≠ 64 := by omega
        refine ⟨⟨hK4, done ++ rest.take c0, rest.drop c0, _, hps', rfl, ?_, _, _, _, hB4, by rw [← List.append_assoc]; exact hstep.1 he'⟩, ?_⟩
        · rw [List.length_drop] at hv4 ⊢
          rw [e1, e2]
          exact hv4
        · simp only [slLen]; omega
    · exact ⟨hK, h, true, bk, n, hB, by
        have : rest = [] := List.eq_nil_of_length_eq_zero (by omega)
        rw [hps, this, List.append_nil]; exact hP⟩

end Go.Proofs.YticfalbgplifoaaGreatDoor
