/-
  The reference of layer 16 (package notaryref16): steps, pairs. Conditions: as stated in each theorem.
-/
import Derived.Test.YticfalbgplifoaaGreatDoorRq
import Derived.Test.YticfalbgplifoaaGreatDoorPlC
namespace Go.Proofs.YticfalbgplifoaaGreatDoor
set_option maxRecDepth 100000
open Go Go.RowKit
set_option linter.unusedVariables false
set_option linter.unusedSimpArgs false
attribute [local irreducible] vcT opsT qT vcOp Q1 vcPure vcLoad vcStore ldC ldN ldD grdT grdQ vc vcOps vcQ hT
attribute [local irreducible] sumR sumP shaP keyD bucketP branchP

theorem formB_zero {m : Nat} {k : List UInt8} (hk : k.length = 32) (hf : formB m k = true) : ∀ b ∈ k.drop m, b = 0 := by
  rw [← formPB _ _ hk] at hf
  simpa [formP] using (Bool.and_eq_true_iff.1 hf).2
theorem atP_dig {m : Nat} {k : List UInt8} (hm : 1 ≤ m) (hm2 : m ≤ 32) (hk : k.length = 32) (hf : formB m k = true) {i : Nat} (hi : i < 2 * m) : (atP m k i).1 = digP k i := by
  have hz := formB_zero hk hf
  have hc : chkP m [k] = 0 := by
    unfold chkP
    rw [if_neg (by omega), if_pos]
    intro d hd
    obtain rfl : d = k := by simpa using hd
    simpa using hz
  unfold atP
  rw [if_neg (by omega), if_pos hc, Int.toNat_natCast]
theorem digsI_getD (d : List UInt8) (k i : Nat) (hi : i < 2 * k) : (digsI d k).getD i 0 = (digP d i : Int) := by
  simp [digsI, hi]
theorem Rsteps_ok (m : Nat) (hm : 1 ≤ m) (hm2 : m ≤ 32) (k : List UInt8) (hk : k.length = 32) (hf : formB m k = true) (qv sv pv : Value) (ss : List SR) (ps : List PR) (w : World) (hq : SlI w qv (digsI k m)) (hs : StepsAt w sv ss) (hp : PairsAt w pv ps) :
    CallK Tryz.prog 32 [.int .i64 m, qv, .agg [sv, pv].toArray].toArray w fun v w' => ∃ t, v = .bool t ∧ (t = true ↔ branchesP m k ss ps.length) ∧ Ext w w' := by
  obtain ⟨hs1, hs2⟩ := hs
  obtain ⟨sa, cs, rfl⟩ := slv_of hs1
  obtain ⟨pa, cp, rfl⟩ := slv_of hp.1
  obtain ⟨qa, cq, rfl⟩ := slv_of hq
  have hsl : ss.length ≤ 9223372036854775807 := by obtain ⟨_, _, _, h1, h2, _⟩ := hs1; omega
  have hpl : ps.length ≤ 9223372036854775807 := by obtain ⟨_, _, _, h1, h2, _⟩ := hp.1; omega
  have hql := digsI_len k m
  have e1 : IntKind.i64.wrap (2 * (m : Int)) = 2 * m := w64 (by omega) (by omega)
  refine enterT Tryz.func32 rfl Tryz.ntmps32 Tryz.results32 rfl (by decide) ?_
  repeat (first | exact trivial | refine stp ?_ | refine ldCg ?_ | refine ldNg ?_ | refine ldSg ?_ | refine ldSb ?_ | refine bnd ?_ | refine bnd1 ?_ | refine drawQ (by decide +kernel) mixed (by decide +kernel) ?_)
  first | refine newS ?_ | refine newZ ?_
  intro w1 hE1 hz1 hB1
  repeat (first | exact trivial | refine stp ?_ | refine ldCg ?_ | refine ldNg ?_ | refine ldSg ?_ | refine ldSb ?_ | refine bnd ?_ | refine bnd1 ?_ | refine drawQ (by decide +kernel) mixed (by decide +kernel) ?_)
  rw [e1]
  refine ⟨fun hgt => ?_, fun hle => ?_⟩
  · repeat (first | exact trivial | refine stp ?_ | refine ldCg ?_ | refine ldNg ?_ | refine ldSg ?_ | refine ldSb ?_ | refine bnd ?_ | refine bnd1 ?_ | refine drawQ (by decide +kernel) mixed (by decide +kernel) ?_)
    exact ⟨⟨False.elim, fun hP => by have := hP.1; omega⟩, .go⟩
  repeat (first | exact trivial | refine stp ?_ | refine ldCg ?_ | refine ldNg ?_ | refine ldSg ?_ | refine ldSb ?_ | refine bnd ?_ | refine bnd1 ?_ | refine drawQ (by decide +kernel) mixed (by decide +kernel) ?_)
  refine loopX (ι := Nat) (fun i => [(0, .int .i64 m), (1, .slice qa (digsI k m).length cq), (5, .pointer (some ⟨w.heap.size, 0, none⟩)), (18, .slice sa ss.length cs), (19, .int .i64 ss.length), (20, .int .i64 i)])
    (fun i w' => Ext w1 w' ∧ i ≤ ss.length ∧ ∀ j s, j < i → ss[j]? = some s → stepOk m k j (j + 1 = ss.length) ps.length s.bm s.ks.length) (fun i => ss.length - i) 0 ⟨.go, Nat.zero_le _, fun j s h => by omega⟩ ?_ ?_
  · repeat (first | exact trivial | refine stp ?_ | refine ldCg ?_ | refine ldNg ?_ | refine ldSg ?_ | refine ldSb ?_ | refine bnd ?_ | refine bnd1 ?_ | refine drawQ (by decide +kernel) mixed (by decide +kernel) ?_)
  · rintro i s2 w2 ⟨hE2, hi, hz⟩
    repeat (first | exact trivial | refine stp ?_ | refine ldCg ?_ | refine ldNg ?_ | refine ldSg ?_ | refine ldSb ?_ | refine bnd ?_ | refine bnd1 ?_ | refine drawQ (by decide +kernel) mixed (by decide +kernel) ?_)
    refine ⟨fun hlt => ?_, fun hge => ?_⟩
    · obtain ⟨b, o, rfl, hR⟩ := sr_row hs1 (by omega)
      obtain ⟨⟨kv, bm, ks⟩, hx⟩ : ∃ x, ss[i]? = some x := ⟨_, List.getElem?_eq_getElem (by omega)⟩
      obtain ⟨hbm, hdl, hdk⟩ := hs2 _ (List.mem_of_getElem? hx)
      simp only at hbm hdl hdk
      obtain ⟨ka, kc, rfl⟩ := slv_of hdk
      have hkl : ks.length ≤ 9223372036854775807 := by obtain ⟨_, _, _, h1, h2, _⟩ := hdk; omega
      have hc16 : cntB bm ≤ 16 := by have := List.length_filter_le (fun j => bm.testBit j) (List.range 16); simpa [cntB, setB] using this
      have hat := atP_dig hm hm2 hk hf (i := i) (by omega)
      have hbad : (¬ stepOk m k i (i + 1 = ss.length) ps.length bm ks.length) → ∀ {W : World}, Ext w W → (False ↔ branchesP m k ss ps.length) ∧ Ext w W := fun h W hE => ⟨⟨False.elim, fun hP => h (hP.2 i _ hx)⟩, hE⟩
      have e2 : IntKind.i64.wrap ((ss.length : Int) - 1) = (ss.length : Int) - 1 := w64 (by omega) (by omega)
      have e3 : IntKind.i64.wrap ((cntB bm : Int) - 1) = (cntB bm : Int) - 1 := w64 (by omega) (by omega)
      have e4 : IntKind.i64.wrap ((i : Int) + 1) = ((i + 1 : Nat) : Int) := w64 (by omega) (by omega)
      have hgood : stepOk m k i (i + 1 = ss.length) ps.length bm ks.length → ∀ j s, j < i + 1 → ss[j]? = some s → stepOk m k j (j + 1 = ss.length) ps.length s.bm s.ks.length := by
        intro h j s hj hs'
        by_cases hji : j < i
        · exact hz j s hji hs'
        · obtain rfl : j = i := by omega
          rw [hx] at hs'
          cases hs'
          exact h
      have hstep : stepOk m k i (i + 1 = ss.length) ps.length bm ks.length ↔ (cntB bm ≠ 0 ∧ (hasB bm (digP k i) = true → ks.length + 1 = cntB bm ∧ ¬ (i + 1 = ss.length ∧ ps.length = 0)) ∧ (hasB bm (digP k i) = false → i + 1 = ss.length ∧ ks.length = cntB bm ∧ ps.length = 0) ∧ ¬ (i + 1 = ss.length ∧ 0 < ps.length ∧ cntB bm = 1)) := by
        unfold stepOk
        rw [hat]
      rw [hstep] at hbad hgood
      repeat (first | exact trivial | refine stp ?_ | refine ldCg ?_ | refine ldNg ?_ | refine ldSg ?_ | refine ldSb ?_ | refine bnd ?_ | refine bnd1 ?_ | refine drawQ (by decide +kernel) mixed (by decide +kernel) ?_)
      refine ldStep hx ?_
      repeat (first | exact trivial | refine stp ?_ | refine ldCg ?_ | refine ldNg ?_ | refine ldSg ?_ | refine ldSb ?_ | refine bnd ?_ | refine bnd1 ?_ | refine drawQ (by decide +kernel) mixed (by decide +kernel) ?_)
      first | refine newS ?_ | refine newZ ?_
      intro w3 hE3 hz3 hB3
      repeat (first | exact trivial | refine stp ?_ | refine ldCg ?_ | refine ldNg ?_ | refine ldSg ?_ | refine ldSb ?_ | refine bnd ?_ | refine bnd1 ?_ | refine drawQ (by decide +kernel) mixed (by decide +kernel) ?_)
      refine (Set_ok bm hbm w3).mono ?_
      rintro v4 w4 ⟨hO4, hE4⟩
      have hz4 := hE4.size
      obtain ⟨a4, c4, rfl⟩ := own_slice hO4
      rw [setI_cnt]
      repeat (first | exact trivial | refine stp ?_ | refine ldCg ?_ | refine ldNg ?_ | refine ldSg ?_ | refine ldSb ?_ | refine bnd ?_ | refine bnd1 ?_ | refine drawQ (by decide +kernel) mixed (by decide +kernel) ?_)
      rw [e2]
      refine ⟨fun h0 => ?_, fun h0 => ?_⟩
      · repeat (first | exact trivial | refine stp ?_ | refine ldCg ?_ | refine ldNg ?_ | refine ldSg ?_ | refine ldSb ?_ | refine bnd ?_ | refine bnd1 ?_ | refine drawQ (by decide +kernel) mixed (by decide +kernel) ?_)
        exact hbad (fun h => h.1 (by omega)) .go
      repeat (first | exact trivial | refine stp ?_ | refine ldCg ?_ | refine ldNg ?_ | refine ldSg ?_ | refine ldSb ?_ | refine bnd ?_ | refine bnd1 ?_ | refine drawQ (by decide +kernel) mixed (by decide +kernel) ?_)
      obtain ⟨bq, oq, rfl, hRq⟩ := hq.rowI (by omega)
      repeat (first | exact trivial | refine stp ?_ | refine ldCg ?_ | refine ldNg ?_ | refine ldSg ?_ | refine ldSb ?_ | refine bnd ?_ | refine bnd1 ?_ | refine drawQ (by decide +kernel) mixed (by decide +kernel) ?_)
      refine ldInt (xs := digsI k m) ?_
      rw [digsI_getD k m i (by omega)]
      repeat (first | exact trivial | refine stp ?_ | refine ldCg ?_ | refine ldNg ?_ | refine ldSg ?_ | refine ldSb ?_ | refine bnd ?_ | refine bnd1 ?_ | refine drawQ (by decide +kernel) mixed (by decide +kernel) ?_)
      refine qcall _ (fun w' hw' => RHas_ok bm hbm _ w') ?_
      rw [rhas_eq]
      repeat (first | exact trivial | refine stp ?_ | refine ldCg ?_ | refine ldNg ?_ | refine ldSg ?_ | refine ldSb ?_ | refine bnd ?_ | refine bnd1 ?_ | refine drawQ (by decide +kernel) mixed (by decide +kernel) ?_)
      intro w5 hE5
      cases hh : hasB bm (digP k i)
      · simp only [hh, Bool.false_eq_true, reduceCtorEq, false_implies, true_implies, true_and] at hbad hgood
        repeat (first | exact trivial | refine stp ?_ | refine ldCg ?_ | refine ldNg ?_ | refine ldSg ?_ | refine ldSb ?_ | refine bnd ?_ | refine bnd1 ?_ | refine drawQ (by decide +kernel) mixed (by decide +kernel) ?_)
        repeat' (first | refine ⟨fun _ => ?_, fun _ => ?_⟩ | exact hbad (by omega) .go | exact ⟨i + 1, ⟨.go, by omega, hgood (by omega)⟩, e4, by omega⟩ | refine stp ?_ | refine ldCg ?_ | refine ldNg ?_ | refine ldSg ?_ | refine ldSb ?_ | refine bnd ?_ | refine bnd1 ?_)
      · simp only [hh, Bool.false_eq_true, reduceCtorEq, false_implies, true_implies, true_and] at hbad hgood
        repeat (first | exact trivial | refine stp ?_ | refine ldCg ?_ | refine ldNg ?_ | refine ldSg ?_ | refine ldSb ?_ | refine bnd ?_ | refine bnd1 ?_ | refine drawQ (by decide +kernel) mixed (by decide +kernel) ?_)
        rw [e3]
        repeat' (first | refine ⟨fun _ => ?_, fun _ => ?_⟩ | exact hbad (by omega) .go | exact ⟨i + 1, ⟨.go, by omega, hgood (by omega)⟩, e4, by omega⟩ | refine stp ?_ | refine ldCg ?_ | refine ldNg ?_ | refine ldSg ?_ | refine ldSb ?_ | refine bnd ?_ | refine bnd1 ?_)
    · repeat (first | exact trivial | refine stp ?_ | refine ldCg ?_ | refine ldNg ?_ | refine ldSg ?_ | refine ldSb ?_ | refine bnd ?_ | refine bnd1 ?_ | refine drawQ (by decide +kernel) mixed (by decide +kernel) ?_)
      exact ⟨⟨fun _ => ⟨by omega, fun j s hs' => hz j s (by have := (List.getElem?_eq_some_iff.1 hs').1; omega) hs'⟩, fun _ => trivial⟩, .go⟩

theorem sumR_P {m : Nat} (hm : 1 ≤ m) (hm2 : m ≤ 32) (xs : List UInt8) : sumR m xs = sumP m xs := by
  unfold sumR
  rw [if_pos ((widB_iff m).2 (by omega)), Int.toNat_natCast]
theorem RKeyD_ok (m : Nat) (hm : 1 ≤ m) (hm2 : m ≤ 32) (xs : List UInt8) (v : Value) (w : World) (hv : SlB w v xs) (hsz : xs.length + 201 ≤ 140737488355328) :
    CallK Tryz.prog 31 [.int .i64 m, v].toArray w fun v w' => v = .agg (vbs (keyD m xs)).toArray ∧ Ext w w' := by
  rw [keyD, sumR_P hm hm2]
  exact RKey_ok m hm2 xs v w hv hsz
theorem keyD_len (n : Int) (xs : List UInt8) : (keyD n xs).length = 32 := by unfold keyD; exact sumR_len n _
theorem com_iff {m : Nat} (hm : 1 ≤ m) (hm2 : m ≤ 32) (xs ys : List UInt8) (t : Nat) (ht : t ≤ 2 * m) : ((t : Int) ≤ (comPP m (keyD m xs) (keyD m ys)).1) ↔ ∀ j, j < t → digP (keyD m ys) j = digP (keyD m xs) j := by
  unfold keyD
  rw [comPP_sum ((widB_iff m).2 (by omega)), Int.toNat_natCast]
  constructor
  · intro h j hj
    exact (com_below _ _ (2 * m) j (by simp only at h; omega)).symm
  · intro h
    have := com_ge (m := 2 * m) ht (fun j hj => (h j hj).symm)
    simp only
    omega
set_option maxHeartbeats 1000000 in
theorem Rpairs_ok (m : Nat) (hm : 1 ≤ m) (hm2 : m ≤ 32) (key : List UInt8) (qv sv pv : Value) (ss : List SR) (ps : List PR) (w : World) (hq : SlI w qv (digsI (keyD m key) m)) (hs : StepsAt w sv ss) (hp : PairsAt w pv ps) (hsm : ss.length ≤ 2 * m) :
    CallK Tryz.prog 33 [.int .i64 m, qv, .agg [sv, pv].toArray].toArray w fun v w' => ∃ t, v = .bool t ∧ (t = true ↔ pairsP m (keyD m key) ss.length ps) ∧ Ext w w' := by
  obtain ⟨hp1, hp2⟩ := hp
  obtain ⟨sa, cs, rfl⟩ := slv_of hs.1
  obtain ⟨pa, cp, rfl⟩ := slv_of hp1
  obtain ⟨qa, cq, rfl⟩ := slv_of hq
  have hpl : ps.length ≤ 9223372036854775807 := by obtain ⟨_, _, _, h1, h2, _⟩ := hp1; omega
  have hql := digsI_len (keyD m key) m
  refine enterT Tryz.func33 rfl Tryz.ntmps33 Tryz.results33 rfl (by decide) ?_
  repeat (first | exact trivial | refine stp ?_ | refine ldCg ?_ | refine ldNg ?_ | refine ldSg ?_ | refine ldSb ?_ | refine bnd ?_ | refine bnd1 ?_ | refine drawQ (by decide +kernel) mixed (by decide +kernel) ?_)
  first | refine newS ?_ | refine newZ ?_
  intro w1 hE1 hz1 hB1
  repeat (first | exact trivial | refine stp ?_ | refine ldCg ?_ | refine ldNg ?_ | refine ldSg ?_ | refine ldSb ?_ | refine bnd ?_ | refine bnd1 ?_ | refine drawQ (by decide +kernel) mixed (by decide +kernel) ?_)
  refine loopX (ι := Nat) (fun i => [(0, .int .i64 m), (1, .slice qa (digsI (keyD m key) m).length cq), (5, .pointer (some ⟨w.heap.size, 0, none⟩)), (12, .slice pa ps.length cp), (13, .int .i64 ps.length), (14, .int .i64 i)])
    (fun i w' => Ext w1 w' ∧ i ≤ ps.length ∧ ∀ j s, j < i → ps[j]? = some s → pairOk m (keyD m key) ss.length ps j s) (fun i => ps.length - i) 0 ⟨.go, Nat.zero_le _, fun j s h => by omega⟩ ?_ ?_
  · repeat (first | exact trivial | refine stp ?_ | refine ldCg ?_ | refine ldNg ?_ | refine ldSg ?_ | refine ldSb ?_ | refine bnd ?_ | refine bnd1 ?_ | refine drawQ (by decide +kernel) mixed (by decide +kernel) ?_)
  · rintro i s2 w2 ⟨hE2, hi, hz⟩
    repeat (first | exact trivial | refine stp ?_ | refine ldCg ?_ | refine ldNg ?_ | refine ldSg ?_ | refine ldSb ?_ | refine bnd ?_ | refine bnd1 ?_ | refine drawQ (by decide +kernel) mixed (by decide +kernel) ?_)
    refine ⟨fun hlt => ?_, fun hge => ?_⟩
    · obtain ⟨b, o, rfl, hR⟩ := pr_row hp1 (by omega)
      obtain ⟨⟨kv, vv, xk, xv⟩, hx⟩ : ∃ x, ps[i]? = some x := ⟨_, List.getElem?_eq_getElem (by omega)⟩
      obtain ⟨hxk, hxv⟩ := hp2 _ (List.mem_of_getElem? hx)
      simp only at hxk hxv
      obtain ⟨ka, kc, rfl⟩ := slv_of hxk
      obtain ⟨va, vc', rfl⟩ := slv_of hxv
      have hbad : (¬ pairOk m (keyD m key) ss.length ps i ⟨.slice ka xk.length kc, .slice va xv.length vc', xk, xv⟩) → ∀ {W : World}, Ext w W → (False ↔ pairsP m (keyD m key) ss.length ps) ∧ Ext w W := fun h W hE => ⟨⟨False.elim, fun hP => h (hP i _ hx)⟩, hE⟩
      have hgood : pairOk m (keyD m key) ss.length ps i ⟨.slice ka xk.length kc, .slice va xv.length vc', xk, xv⟩ → ∀ j s, j < i + 1 → ps[j]? = some s → pairOk m (keyD m key) ss.length ps j s := by
        intro h j s hj hs'
        by_cases hji : j < i
        · exact hz j s hji hs'
        · obtain rfl : j = i := by omega
          rw [hx] at hs'
          cases hs'
          exact h
      unfold pairOk at hbad
      simp only at hbad
      have e2 : IntKind.i64.wrap ((i : Int) - 1) = (i : Int) - 1 := w64 (by omega) (by omega)
      have e4 : IntKind.i64.wrap ((i : Int) + 1) = ((i + 1 : Nat) : Int) := w64 (by omega) (by omega)
      repeat (first | exact trivial | refine stp ?_ | refine ldCg ?_ | refine ldNg ?_ | refine ldSg ?_ | refine ldSb ?_ | refine bnd ?_ | refine bnd1 ?_ | refine drawQ (by decide +kernel) mixed (by decide +kernel) ?_)
      refine ldPair hx ?_
      repeat (first | exact trivial | refine stp ?_ | refine ldCg ?_ | refine ldNg ?_ | refine ldSg ?_ | refine ldSb ?_ | refine bnd ?_ | refine bnd1 ?_ | refine drawQ (by decide +kernel) mixed (by decide +kernel) ?_)
      first | refine newS ?_ | refine newZ ?_
      intro w3 hE3 hz3 hB3
      repeat (first | exact trivial | refine stq ?_ | refine ldCg ?_ | refine ldNg ?_ | refine ldSg ?_ | refine ldSb ?_ | refine bnd ?_ | refine bnd1 ?_)
      rw [v_seq, v_seq]
      repeat (first | exact trivial | refine stq ?_ | refine ldCg ?_ | refine ldNg ?_ | refine ldSg ?_ | refine ldSb ?_ | refine bnd ?_ | refine bnd1 ?_)
      refine ⟨fun h1 => ?_, fun h1 => ?_⟩
      · repeat (first | exact trivial | refine stp ?_ | refine ldCg ?_ | refine ldNg ?_ | refine ldSg ?_ | refine ldSb ?_ | refine bnd ?_ | refine bnd1 ?_ | refine drawQ (by decide +kernel) mixed (by decide +kernel) ?_)
        exact hbad (fun h => by omega) .go
      repeat (first | exact trivial | refine stq ?_ | refine ldCg ?_ | refine ldNg ?_ | refine ldSg ?_ | refine ldSb ?_ | refine bnd ?_ | refine bnd1 ?_)
      refine ⟨fun h2 => ?_, fun h2 => ?_⟩
      · repeat (first | exact trivial | refine stp ?_ | refine ldCg ?_ | refine ldNg ?_ | refine ldSg ?_ | refine ldSb ?_ | refine bnd ?_ | refine bnd1 ?_ | refine drawQ (by decide +kernel) mixed (by decide +kernel) ?_)
        exact hbad (fun h => by omega) .go
      repeat (first | exact trivial | refine stq ?_ | refine ldCg ?_ | refine ldNg ?_ | refine ldSg ?_ | refine ldSb ?_ | refine bnd ?_ | refine bnd1 ?_)
      rw [v_seq, v_seq]
      refine joinX (κ := Bool) (fun t => [(0, .int .i64 m), (1, .slice qa (digsI (keyD m key) m).length cq), (5, .pointer (some ⟨w.heap.size, 0, none⟩)), (8, .pointer (some ⟨w2.heap.size, 0, none⟩)), (12, .slice (some ⟨b, o, none⟩) ps.length cp), (13, .int .i64 ps.length), (14, .int .i64 i), (43, .bool t)])
        (fun t W => Ext w3 W ∧ (t = true ↔ ¬ ∀ p, 0 < i → ps[i - 1]? = some p → Lib.compareBytes p.k xk < 0)) ?_ ?_
      · repeat (first | exact trivial | refine stp ?_ | refine ldCg ?_ | refine ldNg ?_ | refine ldSg ?_ | refine ldSb ?_ | refine bnd ?_ | refine bnd1 ?_ | refine drawQ (by decide +kernel) mixed (by decide +kernel) ?_)
        refine ⟨fun h0 => ?_, fun h0 => ?_⟩
        · obtain ⟨⟨ykv, yvv, yk, yv⟩, hy⟩ : ∃ x, ps[i - 1]? = some x := ⟨_, List.getElem?_eq_getElem (by omega)⟩
          obtain ⟨hyk, _⟩ := hp2 _ (List.mem_of_getElem? hy)
          simp only at hyk
          have e5 : ((i : Int) - 1).toNat = i - 1 := by omega
          repeat (first | exact trivial | refine stp ?_ | refine ldCg ?_ | refine ldNg ?_ | refine ldSg ?_ | refine ldSb ?_ | refine bnd ?_ | refine bnd1 ?_ | refine drawQ (by decide +kernel) mixed (by decide +kernel) ?_)
          rw [e2, e5]
          repeat (first | exact trivial | refine stp ?_ | refine ldCg ?_ | refine ldNg ?_ | refine ldSg ?_ | refine ldSb ?_ | refine bnd ?_ | refine bnd1 ?_ | refine drawQ (by decide +kernel) mixed (by decide +kernel) ?_)
          refine ldRowF (f := PR.cells) 0 hy ?_
          repeat (first | exact trivial | refine stp ?_ | refine ldCg ?_ | refine ldNg ?_ | refine ldSg ?_ | refine ldSb ?_ | refine bnd ?_ | refine bnd1 ?_ | refine drawQ (by decide +kernel) mixed (by decide +kernel) ?_)
          refine qcall _ (fun w' hw' => less_ok yk xk _ _ w' (hyk.ext .go) (hxk.ext .go)) ?_
          repeat (first | exact trivial | refine stp ?_ | refine ldCg ?_ | refine ldNg ?_ | refine ldSg ?_ | refine ldSb ?_ | refine bnd ?_ | refine bnd1 ?_ | refine drawQ (by decide +kernel) mixed (by decide +kernel) ?_)
          intro w4 hE4
          refine ⟨_, ⟨hE4, ?_⟩, rfl⟩
          constructor
          · intro h g
            have := g _ (by omega) hy
            simp [this] at h
          · intro h
            have : ¬ Lib.compareBytes yk xk < 0 := fun g => h (fun p _ hp => by rw [hy] at hp; cases hp; exact g)
            simp [this]
        · repeat (first | exact trivial | refine stp ?_ | refine ldCg ?_ | refine ldNg ?_ | refine ldSg ?_ | refine ldSb ?_ | refine bnd ?_ | refine bnd1 ?_ | refine drawQ (by decide +kernel) mixed (by decide +kernel) ?_)
          intro w4 hE4
          exact ⟨false, ⟨hE4, ⟨fun h => (by cases h), fun h => absurd (fun p h1 => absurd h1 (by omega)) h⟩⟩, rfl⟩
      rintro t s4 w4 ⟨hE4, ht⟩
      have hz4 := hE4.size
      obtain rfl | rfl : t = true ∨ t = false := by cases t <;> simp
      · repeat (first | exact trivial | refine stp ?_ | refine ldCg ?_ | refine ldNg ?_ | refine ldSg ?_ | refine ldSb ?_ | refine bnd ?_ | refine bnd1 ?_ | refine drawQ (by decide +kernel) mixed (by decide +kernel) ?_)
        exact hbad (fun h => ht.1 rfl h.2.2.1) .go
      have hcmp : ∀ p, 0 < i → ps[i - 1]? = some p → Lib.compareBytes p.k xk < 0 := Classical.byContradiction fun h => by cases ht.2 h
      obtain ⟨⟨ykv, yvv, yk, yv⟩, hy⟩ : ∃ x, ps[0]? = some x := ⟨_, List.getElem?_eq_getElem (by omega)⟩
      obtain ⟨hyk, _⟩ := hp2 _ (List.mem_of_getElem? hy)
      simp only at hyk
      have hyl : yk.length ≤ 64 := by
        by_cases h0 : i = 0
        · subst h0
          rw [hx] at hy
          cases hy
          omega
        · exact (hz 0 _ (by omega) hy).1
      have l1 := keyD_len m xk
      have l2 := keyD_len m yk
      have l3 := keyD_len m key
      repeat (first | exact trivial | refine stp ?_ | refine ldCg ?_ | refine ldNg ?_ | refine ldSg ?_ | refine ldSb ?_ | refine bnd ?_ | refine bnd1 ?_ | refine drawQ (by decide +kernel) mixed (by decide +kernel) ?_)
      refine qcall _ (fun w' hw' => RKeyD_ok m hm hm2 xk _ w' (hxk.ext .go) (by omega)) ?_
      repeat (first | exact trivial | refine stp ?_ | refine ldCg ?_ | refine ldNg ?_ | refine ldSg ?_ | refine ldSb ?_ | refine bnd ?_ | refine bnd1 ?_ | refine drawQ (by decide +kernel) mixed (by decide +kernel) ?_)
      refine ldRowF (f := PR.cells) (i := 0) 0 hy ?_
      repeat (first | exact trivial | refine stp ?_ | refine ldCg ?_ | refine ldNg ?_ | refine ldSg ?_ | refine ldSb ?_ | refine bnd ?_ | refine bnd1 ?_ | refine drawQ (by decide +kernel) mixed (by decide +kernel) ?_)
      refine qcall _ (fun w' hw' => RKeyD_ok m hm hm2 yk _ w' (hyk.ext .go) (by omega)) ?_
      repeat (first | exact trivial | refine stp ?_ | refine ldCg ?_ | refine ldNg ?_ | refine ldSg ?_ | refine ldSb ?_ | refine bnd ?_ | refine bnd1 ?_ | refine drawQ (by decide +kernel) mixed (by decide +kernel) ?_)
      refine eqd_lit _ _ _ _ _ _ Tryz.underlying5 c5 l1 l2 ?_
      repeat (first | exact trivial | refine stp ?_ | refine ldCg ?_ | refine ldNg ?_ | refine ldSg ?_ | refine ldSb ?_ | refine bnd ?_ | refine bnd1 ?_ | refine drawQ (by decide +kernel) mixed (by decide +kernel) ?_)
      intro w5 hE5
      have hz5 := hE5.size
      refine ⟨fun heq => ?_, fun hne => ?_⟩
      rotate_left
      · repeat (first | exact trivial | refine stp ?_ | refine ldCg ?_ | refine ldNg ?_ | refine ldSg ?_ | refine ldSb ?_ | refine bnd ?_ | refine bnd1 ?_ | refine drawQ (by decide +kernel) mixed (by decide +kernel) ?_)
        exact hbad (fun h => hne (h.2.2.2.1 _ hy)) .go
      repeat (first | exact trivial | refine stp ?_ | refine ldCg ?_ | refine ldNg ?_ | refine ldSg ?_ | refine ldSb ?_ | refine bnd ?_ | refine bnd1 ?_ | refine drawQ (by decide +kernel) mixed (by decide +kernel) ?_)
      refine (RKeyD_ok m hm hm2 xk _ w5 (hxk.ext .go) (by omega)).mono ?_
      rintro _ w6 ⟨rfl, hE6⟩
      have hz6 := hE6.size
      repeat (first | exact trivial | refine stp ?_ | refine ldCg ?_ | refine ldNg ?_ | refine ldSg ?_ | refine ldSb ?_ | refine bnd ?_ | refine bnd1 ?_ | refine drawQ (by decide +kernel) mixed (by decide +kernel) ?_)
      refine (Digits_ok m hm2 (keyD m xk) l1 w6).mono ?_
      rintro v7 w7 ⟨hO7, hE7⟩
      have hz7 := hE7.size
      obtain ⟨a7, c7, rfl⟩ := own_slice hO7
      have hdl := digsI_len (keyD m xk) m
      have hS7 := SlC.of_own hO7
      repeat (first | exact trivial | refine stp ?_ | refine ldCg ?_ | refine ldNg ?_ | refine ldSg ?_ | refine ldSb ?_ | refine bnd ?_ | refine bnd1 ?_ | refine drawQ (by decide +kernel) mixed (by decide +kernel) ?_)
      refine loopX (ι := Nat) (fun j => [(0, .int .i64 m), (1, .slice qa (digsI (keyD m key) m).length cq), (5, .pointer (some ⟨w.heap.size, 0, none⟩)), (9, .slice a7 (digsI (keyD m xk) m).length c7), (12, .slice (some ⟨b, o, none⟩) ps.length cp), (13, .int .i64 ps.length), (14, .int .i64 i), (64, .int .i64 ss.length), (65, .int .i64 j)])
        (fun j W => Ext w7 W ∧ j ≤ ss.length ∧ ∀ t, t < j → digP (keyD m xk) t = digP (keyD m key) t) (fun j => ss.length - j) 0 ⟨.go, Nat.zero_le _, fun t h => by omega⟩ ?_ ?_
      · repeat (first | exact trivial | refine stp ?_ | refine ldCg ?_ | refine ldNg ?_ | refine ldSg ?_ | refine ldSb ?_ | refine bnd ?_ | refine bnd1 ?_ | refine drawQ (by decide +kernel) mixed (by decide +kernel) ?_)
      · rintro j s8 w8 ⟨hE8, hj, hzj⟩
        repeat (first | exact trivial | refine stp ?_ | refine ldCg ?_ | refine ldNg ?_ | refine ldSg ?_ | refine ldSb ?_ | refine bnd ?_ | refine bnd1 ?_ | refine drawQ (by decide +kernel) mixed (by decide +kernel) ?_)
        refine ⟨fun hltj => ?_, fun hgej => ?_⟩
        · obtain ⟨b7, o7, rfl, hR7⟩ := hS7.rowI (by omega)
          obtain ⟨bq, oq, rfl, hRq⟩ := hq.rowI (by omega)
          repeat (first | exact trivial | refine stp ?_ | refine ldCg ?_ | refine ldNg ?_ | refine ldSg ?_ | refine ldSb ?_ | refine bnd ?_ | refine bnd1 ?_ | refine drawQ (by decide +kernel) mixed (by decide +kernel) ?_)
          refine ldInt (xs := digsI (keyD m xk) m) ?_
          repeat (first | exact trivial | refine stp ?_ | refine ldCg ?_ | refine ldNg ?_ | refine ldSg ?_ | refine ldSb ?_ | refine bnd ?_ | refine bnd1 ?_ | refine drawQ (by decide +kernel) mixed (by decide +kernel) ?_)
          refine ldInt (xs := digsI (keyD m key) m) ?_
          rw [digsI_getD _ m j (by omega), digsI_getD _ m j (by omega)]
          repeat (first | exact trivial | refine stp ?_ | refine ldCg ?_ | refine ldNg ?_ | refine ldSg ?_ | refine ldSb ?_ | refine bnd ?_ | refine bnd1 ?_ | refine drawQ (by decide +kernel) mixed (by decide +kernel) ?_)
          intro w9 hE9
          refine ⟨fun hne => ?_, fun heq9 => ?_⟩
          · repeat (first | exact trivial | refine stp ?_ | refine ldCg ?_ | refine ldNg ?_ | refine ldSg ?_ | refine ldSb ?_ | refine bnd ?_ | refine bnd1 ?_ | refine drawQ (by decide +kernel) mixed (by decide +kernel) ?_)
            exact hbad (fun h => hne (by rw [(com_iff hm hm2 key xk ss.length hsm).1 h.2.2.2.2 j (by omega)])) .go
          · repeat (first | exact trivial | refine stp ?_ | refine ldCg ?_ | refine ldNg ?_ | refine ldSg ?_ | refine ldSb ?_ | refine bnd ?_ | refine bnd1 ?_ | refine drawQ (by decide +kernel) mixed (by decide +kernel) ?_)
            refine ⟨j + 1, ⟨.go, by omega, fun t ht => ?_⟩, by rw [w64 (by omega) (by omega)]; rfl, by omega⟩
            by_cases htj : t < j
            · exact hzj t htj
            · obtain rfl : t = j := by omega
              have : ((digP (keyD m xk) t : Nat) : Int) = (digP (keyD m key) t : Nat) := by simpa using heq9
              omega
        · repeat (first | exact trivial | refine stp ?_ | refine ldCg ?_ | refine ldNg ?_ | refine ldSg ?_ | refine ldSb ?_ | refine bnd ?_ | refine bnd1 ?_ | refine drawQ (by decide +kernel) mixed (by decide +kernel) ?_)
          refine ⟨i + 1, ⟨.go, by omega, hgood ⟨(by simp only; omega), (by simp only; omega), hcmp, fun p hp => ?_, ?_⟩⟩, e4, by omega⟩
          · rw [hy] at hp
            cases hp
            simpa using heq
          · exact (com_iff hm hm2 key xk ss.length hsm).2 (fun t ht => hzj t (by omega))
    · repeat (first | exact trivial | refine stp ?_ | refine ldCg ?_ | refine ldNg ?_ | refine ldSg ?_ | refine ldSb ?_ | refine bnd ?_ | refine bnd1 ?_ | refine drawQ (by decide +kernel) mixed (by decide +kernel) ?_)
      exact ⟨⟨fun _ => fun j s hs' => hz j s (by have := (List.getElem?_eq_some_iff.1 hs').1; omega) hs', fun _ => trivial⟩, .go⟩
end Go.Proofs.YticfalbgplifoaaGreatDoor
