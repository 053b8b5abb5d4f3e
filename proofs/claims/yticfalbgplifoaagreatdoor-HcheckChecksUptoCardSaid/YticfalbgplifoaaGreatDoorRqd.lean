/-
  The reference of layer 16 (package notaryref16): DocRootOf, DocCheck. Conditions: as stated in each theorem.
-/
import Derived.Test.YticfalbgplifoaaGreatDoorRqc
namespace Go.Proofs.YticfalbgplifoaaGreatDoor
set_option maxRecDepth 100000
open Go Go.RowKit
set_option linter.unusedVariables false
set_option linter.unusedSimpArgs false
attribute [local irreducible] vcT opsT qT vcOp Q1 vcPure vcLoad vcStore ldC ldN ldD grdT grdQ vc vcOps vcQ hT
attribute [local irreducible] sumR sumP shaP keyD bucketP branchP

theorem DocRootOf_ok (n : Int) (key : List UInt8) (kv sv pv : Value) (ss : List SR) (ps : List PR) (w : World) (hkv : SlB w kv key) (hs : StepsAt w sv ss) (hp : PairsAt w pv ps) (hpn : ps.length ≤ 400000000000) :
    CallK Tryz.prog 10 [.int .i64 n, kv, .agg [sv, pv].toArray].toArray w fun r w' => ∃ e v, r = .tuple [.agg (vbs (outD e n key ss ps)).toArray, v, .bool (outT e key ps), .int .i64 (e : Nat)].toArray ∧ RootE n key ss ps e ∧
      Own w' w.heap.size 5 1 v (outV e key ps).length (vbs (outV e key ps)) ∧ Ext w w' := by
  have hkl : key.length ≤ 9223372036854775807 := by obtain ⟨_, _, _, h1, h2, _⟩ := hkv; omega
  obtain ⟨ka, kc, rfl⟩ := slv_of hkv
  obtain ⟨sa, cs, hse⟩ := slv_of hs.1
  obtain ⟨pa, cp, hpe⟩ := slv_of hp.1
  have hpl : ps.length ≤ 9223372036854775807 := by omega
  subst hse hpe
  refine enterT Tryz.func10 rfl Tryz.ntmps10 Tryz.results10 rfl (by decide) ?_
  repeat (first | exact trivial | refine stp ?_ | refine ldCg ?_ | refine ldNg ?_ | refine ldSg ?_ | refine ldSb ?_ | refine bnd ?_ | refine bnd1 ?_ | refine drawQ (by decide +kernel) mixed (by decide +kernel) ?_)
  first | refine newS ?_ | refine newZ ?_
  intro w1 hE1 hz1 hB1
  first | refine newS ?_ | refine newZ ?_
  intro w2 hE2 hz2 hB2
  have hbad : ∀ (e : Nat) (W : World), RootE n key ss ps e → e ≠ 0 → Ext w W → ∃ e' v, (Value.tuple [.agg (vbs (List.replicate 32 0)).toArray, .slice none 0 0, .bool false, .int .i64 (e : Nat)].toArray) = .tuple [.agg (vbs (outD e' n key ss ps)).toArray, v, .bool (outT e' key ps), .int .i64 (e' : Nat)].toArray ∧ RootE n key ss ps e' ∧
      Own W w.heap.size 5 1 v (outV e' key ps).length (vbs (outV e' key ps)) ∧ Ext w W := by
    intro e W hR he hE
    refine ⟨e, .slice none 0 0, ?_, hR, ?_, hE⟩
    · simp [outD, outT, he]
    · simp only [outV, if_neg he]
      exact Own.nil _ _ _ _
  repeat (first | exact trivial | refine stp ?_ | refine ldCg ?_ | refine ldNg ?_ | refine ldSg ?_ | refine ldSb ?_ | refine bnd ?_ | refine bnd1 ?_ | refine drawQ (by decide +kernel) mixed (by decide +kernel) ?_)
  refine (Width_ok n w2).mono ?_
  rintro _ w3 ⟨rfl, hE3⟩
  have hz3 := hE3.size
  rw [widthB]
  cases hw : widB n
  · repeat (first | exact trivial | refine stp ?_ | refine ldCg ?_ | refine ldNg ?_ | refine ldSg ?_ | refine ldSb ?_ | refine bnd ?_ | refine bnd1 ?_ | refine drawQ (by decide +kernel) mixed (by decide +kernel) ?_)
    refine bldC (List.replicate 32 (.int .u8 0)) (by kernel_rfl) ?_
    rw [vbs_rep]
    repeat (first | exact trivial | refine stp ?_ | refine ldCg ?_ | refine ldNg ?_ | refine ldSg ?_ | refine ldSb ?_ | refine bnd ?_ | refine bnd1 ?_ | refine drawQ (by decide +kernel) mixed (by decide +kernel) ?_)
    refine stW ?_
    intro w4 hP4 hz4 hB4
    repeat (first | exact trivial | refine stp ?_ | refine ldCg ?_ | refine ldNg ?_ | refine ldSg ?_ | refine ldSb ?_ | refine bnd ?_ | refine bnd1 ?_ | refine drawQ (by decide +kernel) mixed (by decide +kernel) ?_)
    exact hbad 1 _ ⟨fun _ => rfl, fun h => (by rw [hw] at h; cases h), fun h => (by rw [hw] at h; cases h), fun h => (by rw [hw] at h; cases h), fun h => (by rw [hw] at h; cases h)⟩ (by decide) .go
  have hwn := (widB_iff n).1 hw
  obtain ⟨m, rfl⟩ : ∃ m : Nat, n = m := ⟨n.toNat, by omega⟩
  repeat (first | exact trivial | refine stp ?_ | refine ldCg ?_ | refine ldNg ?_ | refine ldSg ?_ | refine ldSb ?_ | refine bnd ?_ | refine bnd1 ?_ | refine drawQ (by decide +kernel) mixed (by decide +kernel) ?_)
  refine ⟨fun h1 => ?_, fun h1 => ?_⟩
  · repeat (first | exact trivial | refine stp ?_ | refine ldCg ?_ | refine ldNg ?_ | refine ldSg ?_ | refine ldSb ?_ | refine bnd ?_ | refine bnd1 ?_ | refine drawQ (by decide +kernel) mixed (by decide +kernel) ?_)
    refine bldC (List.replicate 32 (.int .u8 0)) (by kernel_rfl) ?_
    rw [vbs_rep]
    repeat (first | exact trivial | refine stp ?_ | refine ldCg ?_ | refine ldNg ?_ | refine ldSg ?_ | refine ldSb ?_ | refine bnd ?_ | refine bnd1 ?_ | refine drawQ (by decide +kernel) mixed (by decide +kernel) ?_)
    refine stW ?_
    intro w4 hP4 hz4 hB4
    repeat (first | exact trivial | refine stp ?_ | refine ldCg ?_ | refine ldNg ?_ | refine ldSg ?_ | refine ldSb ?_ | refine bnd ?_ | refine bnd1 ?_ | refine drawQ (by decide +kernel) mixed (by decide +kernel) ?_)
    exact hbad 2 _ ⟨fun h => (by rw [hw] at h; cases h), fun _ _ => rfl, fun _ h => (by omega), fun _ h => (by omega), fun _ h => (by omega)⟩ (by decide) .go
  repeat (first | exact trivial | refine stp ?_ | refine ldCg ?_ | refine ldNg ?_ | refine ldSg ?_ | refine ldSb ?_ | refine bnd ?_ | refine bnd1 ?_ | refine drawQ (by decide +kernel) mixed (by decide +kernel) ?_)
  refine (Rkids_ok m _ _ ss ps w3 (hs.ext .go) (hp.ext .go)).mono ?_
  rintro _ w4 ⟨rfl, hE4⟩
  have hz4 := hE4.size
  by_cases hkd : kidsP m ss
  rotate_left
  · rw [decide_eq_false hkd]
    repeat (first | exact trivial | refine stp ?_ | refine ldCg ?_ | refine ldNg ?_ | refine ldSg ?_ | refine ldSb ?_ | refine bnd ?_ | refine bnd1 ?_ | refine drawQ (by decide +kernel) mixed (by decide +kernel) ?_)
    refine bldC (List.replicate 32 (.int .u8 0)) (by kernel_rfl) ?_
    rw [vbs_rep]
    repeat (first | exact trivial | refine stp ?_ | refine ldCg ?_ | refine ldNg ?_ | refine ldSg ?_ | refine ldSb ?_ | refine bnd ?_ | refine bnd1 ?_ | refine drawQ (by decide +kernel) mixed (by decide +kernel) ?_)
    refine stW ?_
    intro w5 hP5 hz5 hB5
    repeat (first | exact trivial | refine stp ?_ | refine ldCg ?_ | refine ldNg ?_ | refine ldSg ?_ | refine ldSb ?_ | refine bnd ?_ | refine bnd1 ?_ | refine drawQ (by decide +kernel) mixed (by decide +kernel) ?_)
    exact hbad 3 _ ⟨fun h => (by rw [hw] at h; cases h), fun _ h => (by omega), fun _ _ _ => rfl, fun _ _ h => absurd h hkd, fun _ _ h => absurd h hkd⟩ (by decide) .go
  rw [decide_eq_true hkd]
  repeat (first | exact trivial | refine stp ?_ | refine ldCg ?_ | refine ldNg ?_ | refine ldSg ?_ | refine ldSb ?_ | refine bnd ?_ | refine bnd1 ?_ | refine drawQ (by decide +kernel) mixed (by decide +kernel) ?_)
  refine (RKeyD_ok m (by omega) (by omega) key _ w4 (hkv.ext .go) (by omega)).mono ?_
  rintro _ w5 ⟨rfl, hE5⟩
  have hz5 := hE5.size
  have lk := keyD_len m key
  have hfk : formB m (keyD m key) = true := by unfold keyD; exact form_sumR m _ hw
  repeat (first | exact trivial | refine stp ?_ | refine ldCg ?_ | refine ldNg ?_ | refine ldSg ?_ | refine ldSb ?_ | refine bnd ?_ | refine bnd1 ?_ | refine drawQ (by decide +kernel) mixed (by decide +kernel) ?_)
  refine (Digits_ok m (by omega) (keyD m key) lk w5).mono ?_
  rintro v6 w6 ⟨hO6, hE6⟩
  have hz6 := hE6.size
  have hS6 := SlC.of_own hO6
  obtain ⟨a6, c6, rfl⟩ := own_slice hO6
  repeat (first | exact trivial | refine stp ?_ | refine ldCg ?_ | refine ldNg ?_ | refine ldSg ?_ | refine ldSb ?_ | refine bnd ?_ | refine bnd1 ?_ | refine drawQ (by decide +kernel) mixed (by decide +kernel) ?_)
  refine (Rsteps_ok m (by omega) (by omega) (keyD m key) lk hfk _ _ _ ss ps w6 hS6 (hs.ext .go) (hp.ext .go)).mono ?_
  rintro _ w7 ⟨t, rfl, ht, hE7⟩
  have hz7 := hE7.size
  have hE10 : ¬ (branchesP m (keyD m key) ss ps.length ∧ pairsP m (keyD m key) ss.length ps) → RootE m key ss ps 10 := fun h => ⟨fun h => (by rw [hw] at h; cases h), fun _ h => (by omega), fun _ _ h => absurd hkd h, fun _ _ _ _ => rfl, fun _ _ _ h1 h2 => absurd ⟨h1, h2⟩ h⟩
  obtain rfl | rfl : t = false ∨ t = true := by cases t <;> simp
  · repeat (first | exact trivial | refine stp ?_ | refine ldCg ?_ | refine ldNg ?_ | refine ldSg ?_ | refine ldSb ?_ | refine bnd ?_ | refine bnd1 ?_ | refine drawQ (by decide +kernel) mixed (by decide +kernel) ?_)
    refine bldC (List.replicate 32 (.int .u8 0)) (by kernel_rfl) ?_
    rw [vbs_rep]
    repeat (first | exact trivial | refine stp ?_ | refine ldCg ?_ | refine ldNg ?_ | refine ldSg ?_ | refine ldSb ?_ | refine bnd ?_ | refine bnd1 ?_ | refine drawQ (by decide +kernel) mixed (by decide +kernel) ?_)
    refine stW ?_
    intro w8 hP8 hz8 hB8
    repeat (first | exact trivial | refine stp ?_ | refine ldCg ?_ | refine ldNg ?_ | refine ldSg ?_ | refine ldSb ?_ | refine bnd ?_ | refine bnd1 ?_ | refine drawQ (by decide +kernel) mixed (by decide +kernel) ?_)
    exact hbad 10 _ (hE10 fun h => by cases ht.2 h.1) (by decide) .go
  have hbr := ht.1 rfl
  repeat (first | exact trivial | refine stp ?_ | refine ldCg ?_ | refine ldNg ?_ | refine ldSg ?_ | refine ldSb ?_ | refine bnd ?_ | refine bnd1 ?_ | refine drawQ (by decide +kernel) mixed (by decide +kernel) ?_)
  refine (Rpairs_ok m (by omega) (by omega) key _ _ _ ss ps w7 (hS6.ext .go) (hs.ext .go) (hp.ext .go) (by have := hbr.1; omega)).mono ?_
  rintro _ w8 ⟨t, rfl, ht2, hE8⟩
  have hz8 := hE8.size
  obtain rfl | rfl : t = false ∨ t = true := by cases t <;> simp
  · repeat (first | exact trivial | refine stp ?_ | refine ldCg ?_ | refine ldNg ?_ | refine ldSg ?_ | refine ldSb ?_ | refine bnd ?_ | refine bnd1 ?_ | refine drawQ (by decide +kernel) mixed (by decide +kernel) ?_)
    refine bldC (List.replicate 32 (.int .u8 0)) (by kernel_rfl) ?_
    rw [vbs_rep]
    repeat (first | exact trivial | refine stp ?_ | refine ldCg ?_ | refine ldNg ?_ | refine ldSg ?_ | refine ldSb ?_ | refine bnd ?_ | refine bnd1 ?_ | refine drawQ (by decide +kernel) mixed (by decide +kernel) ?_)
    refine stW ?_
    intro w9 hP9 hz9 hB9
    repeat (first | exact trivial | refine stp ?_ | refine ldCg ?_ | refine ldNg ?_ | refine ldSg ?_ | refine ldSb ?_ | refine bnd ?_ | refine bnd1 ?_ | refine drawQ (by decide +kernel) mixed (by decide +kernel) ?_)
    exact hbad 10 _ (hE10 fun h => by cases ht2.2 h.2) (by decide) .go
  have hpr := ht2.1 rfl
  have hR : RootE m key ss ps 0 := RootE.mk m key ss ps hw (by omega) hkd hbr hpr
  have hout : outD 0 m key ss ps = lev m (keyD m key) ss (up0 m (ps.map PR.dat)) 0 := by rw [lev_zero]; rfl
  have hol := outD_len 0 m key ss ps
  have hpp := hp.2
  have hp1 := hp.1
  repeat (first | exact trivial | refine stp ?_ | refine ldCg ?_ | refine ldNg ?_ | refine ldSg ?_ | refine ldSb ?_ | refine bnd ?_ | refine bnd1 ?_ | refine drawQ (by decide +kernel) mixed (by decide +kernel) ?_)
  refine loopX (ι := Nat) (fun i => [(0, .int .i64 m), (1, .slice ka key.length kc), (5, .pointer (some ⟨w.heap.size, 0, none⟩)), (6, .pointer (some ⟨w1.heap.size, 0, none⟩)), (10, .slice a6 (digsI (keyD m key) m).length c6), (48, .slice pa ps.length cp), (49, .int .i64 ps.length), (50, .int .i64 i)])
    (fun i W => Ext w8 W ∧ i ≤ ps.length ∧ ∀ p ∈ ps.take i, ¬ p.k = key) (fun i => ps.length - i) 0 ⟨.go, Nat.zero_le _, by simp⟩ ?_ ?_
  · repeat (first | exact trivial | refine stp ?_ | refine ldCg ?_ | refine ldNg ?_ | refine ldSg ?_ | refine ldSb ?_ | refine bnd ?_ | refine bnd1 ?_ | refine drawQ (by decide +kernel) mixed (by decide +kernel) ?_)
  · rintro i s9 w9 ⟨hE9, hi, hz⟩
    have hz9 := hE9.size
    repeat (first | exact trivial | refine stp ?_ | refine ldCg ?_ | refine ldNg ?_ | refine ldSg ?_ | refine ldSb ?_ | refine bnd ?_ | refine bnd1 ?_ | refine drawQ (by decide +kernel) mixed (by decide +kernel) ?_)
    refine ⟨fun hlt => ?_, fun hge => ?_⟩
    · obtain ⟨b, o, rfl, hRp⟩ := pr_row hp1 (by omega)
      obtain ⟨⟨xkv, xvv, xk, xv⟩, hx⟩ : ∃ x, ps[i]? = some x := ⟨_, List.getElem?_eq_getElem (by omega)⟩
      obtain ⟨hxk, hxv⟩ := hpp _ (List.mem_of_getElem? hx)
      have hvl : xv.length ≤ 256 := (hpr i _ hx).2.1
      simp only at hxk hxv
      obtain ⟨xa, xc, rfl⟩ := slv_of hxk
      obtain ⟨va, vc', rfl⟩ := slv_of hxv
      repeat (first | exact trivial | refine stp ?_ | refine ldCg ?_ | refine ldNg ?_ | refine ldSg ?_ | refine ldSb ?_ | refine bnd ?_ | refine bnd1 ?_ | refine drawQ (by decide +kernel) mixed (by decide +kernel) ?_)
      refine ldPair hx ?_
      repeat (first | exact trivial | refine stp ?_ | refine ldCg ?_ | refine ldNg ?_ | refine ldSg ?_ | refine ldSb ?_ | refine bnd ?_ | refine bnd1 ?_ | refine drawQ (by decide +kernel) mixed (by decide +kernel) ?_)
      first | refine newS ?_ | refine newZ ?_
      intro w10 hE10 hz10 hB10
      repeat (first | exact trivial | refine stp ?_ | refine ldCg ?_ | refine ldNg ?_ | refine ldSg ?_ | refine ldSb ?_ | refine bnd ?_ | refine bnd1 ?_ | refine drawQ (by decide +kernel) mixed (by decide +kernel) ?_)
      refine (Same_ok xk key _ _ w10 (hxk.ext .go) (hkv.ext .go)).mono ?_
      rintro _ w11 ⟨rfl, hE11⟩
      have hz11 := hE11.size
      by_cases hkey : xk = key
      · rw [decide_eq_true hkey]
        have hval : valOf ps key = some xv := by
          have h1 : ps = ps.take i ++ (⟨.slice xa xk.length xc, .slice va xv.length vc', xk, xv⟩ :: ps.drop (i + 1)) := by
            obtain ⟨hil, he⟩ := List.getElem?_eq_some_iff.1 hx
            rw [← he]
            simp
          unfold valOf
          rw [h1, List.find?_append, List.find?_eq_none.2 (fun p hp' => by simpa using hz p hp')]
          simp [hkey]
        repeat (first | exact trivial | refine stp ?_ | refine ldCg ?_ | refine ldNg ?_ | refine ldSg ?_ | refine ldSb ?_ | refine bnd ?_ | refine bnd1 ?_ | refine drawQ (by decide +kernel) mixed (by decide +kernel) ?_)
        refine drawB w1.heap.size (Ord.pre [0, 1, 2, 4, 5, 3, 6, 7, 8, 9, 10] .nil) mixed (by decide +kernel) (fun w12 hE12 hz12 => ?_)
        repeat (first | exact trivial | refine stp ?_ | refine ldCg ?_ | refine ldNg ?_ | refine ldSg ?_ | refine ldSb ?_ | refine bnd ?_ | refine bnd1 ?_ | refine drawQ (by decide +kernel) mixed (by decide +kernel) ?_)
        refine (RUp_ok m (by omega) (by omega) key _ _ _ ss ps w12 (hS6.ext .go) (hs.ext .go) (hp.ext .go) hR hpn).mono ?_
        rintro _ w13 ⟨rfl, hE13⟩
        have hz13 := hE13.size
        refine toldB ?_
        repeat (first | exact trivial | refine stp ?_ | refine ldCg ?_ | refine ldNg ?_ | refine ldSg ?_ | refine ldSb ?_ | refine bnd ?_ | refine bnd1 ?_ | refine drawQ (by decide +kernel) mixed (by decide +kernel) ?_)
        refine (Twin_ok xv _ w13 (hxv.ext .go) (by omega)).mono ?_
        rintro _ w14 ⟨g, hg, rfl, hG, hE14⟩
        have hz14 := hE14.size
        refine toldB ?_
        rw [← hout]
        repeat (first | exact trivial | refine stp ?_ | refine ldCg ?_ | refine ldNg ?_ | refine ldSg ?_ | refine ldSb ?_ | refine bnd ?_ | refine bnd1 ?_ | refine drawQ (by decide +kernel) mixed (by decide +kernel) ?_)
        refine stW ?_
        intro w15 hP15 hz15 hB15
        refine toldB ?_
        repeat (first | exact trivial | refine stp ?_ | refine ldCg ?_ | refine ldNg ?_ | refine ldSg ?_ | refine ldSb ?_ | refine bnd ?_ | refine bnd1 ?_ | refine drawQ (by decide +kernel) mixed (by decide +kernel) ?_)
        refine ⟨0, .slice (some ⟨g, 0, none⟩) xv.length xv.length, ?_, hR, ?_, .go⟩
        · simp [outT, hval]
        · simp only [outV, hval, if_true, Option.getD_some]
          exact Own.of_blk .go (by omega) (by simp [vbs_len]) (by omega)
      · rw [decide_eq_false hkey]
        repeat (first | exact trivial | refine stp ?_ | refine ldCg ?_ | refine ldNg ?_ | refine ldSg ?_ | refine ldSb ?_ | refine bnd ?_ | refine bnd1 ?_ | refine drawQ (by decide +kernel) mixed (by decide +kernel) ?_)
        exact ⟨i + 1, ⟨.go, by omega, (take_all_succ (p := fun p : PR => ¬ p.k = key) hx).2 ⟨hz, hkey⟩⟩, by rw [w64 (by omega) (by omega)]; rfl, by omega⟩
    · rw [List.take_of_length_le (by omega)] at hz
      have hval : valOf ps key = none := by
        unfold valOf
        rw [List.find?_eq_none.2 (fun p hp' => by simpa using hz p hp')]
        rfl
      repeat (first | exact trivial | refine stp ?_ | refine ldCg ?_ | refine ldNg ?_ | refine ldSg ?_ | refine ldSb ?_ | refine bnd ?_ | refine bnd1 ?_ | refine drawQ (by decide +kernel) mixed (by decide +kernel) ?_)
      refine (RUp_ok m (by omega) (by omega) key _ _ _ ss ps w9 (hS6.ext .go) (hs.ext .go) (hp.ext .go) hR hpn).mono ?_
      rintro _ w10 ⟨rfl, hE10⟩
      have hz10 := hE10.size
      rw [← hout]
      repeat (first | exact trivial | refine stp ?_ | refine ldCg ?_ | refine ldNg ?_ | refine ldSg ?_ | refine ldSb ?_ | refine bnd ?_ | refine bnd1 ?_ | refine drawQ (by decide +kernel) mixed (by decide +kernel) ?_)
      refine stW ?_
      intro w11 hP11 hz11 hB11
      repeat (first | exact trivial | refine stp ?_ | refine ldCg ?_ | refine ldNg ?_ | refine ldSg ?_ | refine ldSb ?_ | refine bnd ?_ | refine bnd1 ?_ | refine drawQ (by decide +kernel) mixed (by decide +kernel) ?_)
      refine ⟨0, .slice none 0 0, ?_, hR, ?_, .go⟩
      · simp [outT, hval]
      · simp only [outV, hval, if_true, Option.getD_none]
        exact Own.nil _ _ _ _

theorem RootE.cases {n : Int} {key : List UInt8} {ss : List SR} {ps : List PR} {e : Nat} (h : RootE n key ss ps e) : e = 0 ∨ e = 1 ∨ e = 2 ∨ e = 3 ∨ e = 10 := by
  obtain ⟨h1, h2, h3, h4, h5⟩ := h
  cases hw : widB n
  · exact Or.inr (Or.inl (h1 hw))
  by_cases hk : 64 < key.length
  · exact Or.inr (Or.inr (Or.inl (h2 hw hk)))
  by_cases hq : kidsP n ss
  · by_cases hb : branchesP n (keyD n key) ss ps.length ∧ pairsP n (keyD n key) ss.length ps
    · exact Or.inl (h5 hw (by omega) hq hb.1 hb.2)
    · exact Or.inr (Or.inr (Or.inr (Or.inr (h4 hw (by omega) hq hb))))
  · exact Or.inr (Or.inr (Or.inr (Or.inl (h3 hw (by omega) hq))))
theorem DocCheck_ok (n : Int) (root key : List UInt8) (hrt : root.length = 32) (kv sv pv : Value) (ss : List SR) (ps : List PR) (w : World) (hkv : SlB w kv key) (hs : StepsAt w sv ss) (hp : PairsAt w pv ps) (hpn : ps.length ≤ 400000000000) :
    CallK Tryz.prog 13 [.int .i64 n, .agg (vbs root).toArray, kv, .agg [sv, pv].toArray].toArray w fun r w' => ∃ e f v, r = .tuple [v, .bool (outT f key ps), .int .i64 (f : Nat)].toArray ∧ RootE n key ss ps e ∧ f = checkE n root (outD e n key ss ps) e ∧
      Own w' w.heap.size 5 1 v (outV f key ps).length (vbs (outV f key ps)) ∧ Ext w w' := by
  obtain ⟨sa, cs, hse⟩ := slv_of hs.1
  obtain ⟨pa, cp, hpe⟩ := slv_of hp.1
  subst hse hpe
  refine enterT Tryz.func13 rfl Tryz.ntmps13 Tryz.results13 rfl (by decide) ?_
  repeat (first | exact trivial | refine stp ?_ | refine ldCg ?_ | refine ldNg ?_ | refine ldSg ?_ | refine ldSb ?_ | refine bnd ?_ | refine bnd1 ?_ | refine drawQ (by decide +kernel) mixed (by decide +kernel) ?_)
  first | refine newS ?_ | refine newZ ?_
  intro w1 hE1 hz1 hB1
  first | refine newS ?_ | refine newZ ?_
  intro w2 hE2 hz2 hB2
  repeat (first | exact trivial | refine stp ?_ | refine ldCg ?_ | refine ldNg ?_ | refine ldSg ?_ | refine ldSb ?_ | refine bnd ?_ | refine bnd1 ?_ | refine drawQ (by decide +kernel) mixed (by decide +kernel) ?_)
  refine (DocRootOf_ok n key kv _ _ ss ps w2 (hkv.ext .go) (hs.ext .go) (hp.ext .go) hpn).mono ?_
  rintro _ w3 ⟨e, v, rfl, hR, hO, hE3⟩
  have hz3 := hE3.size
  have lod := outD_len e n key ss ps
  repeat (first | exact trivial | refine stp ?_ | refine ldCg ?_ | refine ldNg ?_ | refine ldSg ?_ | refine ldSb ?_ | refine bnd ?_ | refine bnd1 ?_ | refine drawQ (by decide +kernel) mixed (by decide +kernel) ?_)
  first | refine newS ?_ | refine newZ ?_
  intro w4 hE4 hz4 hB4
  have hbad : ∀ (f : Nat) (W : World), f = checkE n root (outD e n key ss ps) e → f ≠ 0 → Ext w W → ∃ e' f' v', (Value.tuple [.slice none 0 0, .bool false, .int .i64 (f : Nat)].toArray) = .tuple [v', .bool (outT f' key ps), .int .i64 (f' : Nat)].toArray ∧ RootE n key ss ps e' ∧ f' = checkE n root (outD e' n key ss ps) e' ∧
      Own W w.heap.size 5 1 v' (outV f' key ps).length (vbs (outV f' key ps)) ∧ Ext w W := by
    intro f W hf hn hE
    refine ⟨e, f, .slice none 0 0, ?_, hR, hf, ?_, hE⟩
    · simp [outT, hn]
    · simp only [outV, if_neg hn]
      exact Own.nil _ _ _ _
  rcases hR.cases with rfl | rfl | rfl | rfl | rfl
  · repeat (first | exact trivial | refine stp ?_ | refine ldCg ?_ | refine ldNg ?_ | refine ldSg ?_ | refine ldSb ?_ | refine bnd ?_ | refine bnd1 ?_ | refine drawQ (by decide +kernel) mixed (by decide +kernel) ?_)
    refine (DocForm_ok n root hrt w4).mono ?_
    rintro _ w5 ⟨rfl, hE5⟩
    have hz5 := hE5.size
    rw [formPB n root hrt]
    cases hf : formB n root
    · repeat (first | exact trivial | refine stp ?_ | refine ldCg ?_ | refine ldNg ?_ | refine ldSg ?_ | refine ldSb ?_ | refine bnd ?_ | refine bnd1 ?_ | refine drawQ (by decide +kernel) mixed (by decide +kernel) ?_)
      exact hbad 3 _ (by simp [checkE, hf]) (by decide) .go
    · repeat (first | exact trivial | refine stp ?_ | refine ldCg ?_ | refine ldNg ?_ | refine ldSg ?_ | refine ldSb ?_ | refine bnd ?_ | refine bnd1 ?_ | refine drawQ (by decide +kernel) mixed (by decide +kernel) ?_)
      refine eqd_lit _ _ _ _ _ _ Tryz.underlying5 c5 lod hrt ?_
      by_cases hd : outD 0 n key ss ps = root
      · rw [decide_eq_true hd]
        repeat (first | exact trivial | refine stp ?_ | refine ldCg ?_ | refine ldNg ?_ | refine ldSg ?_ | refine ldSb ?_ | refine bnd ?_ | refine bnd1 ?_ | refine drawQ (by decide +kernel) mixed (by decide +kernel) ?_)
        exact ⟨0, 0, v, rfl, hR, by simp [checkE, hf, hd], (hO.ext .go).base (by omega), .go⟩
      · rw [decide_eq_false hd]
        repeat (first | exact trivial | refine stp ?_ | refine ldCg ?_ | refine ldNg ?_ | refine ldSg ?_ | refine ldSb ?_ | refine bnd ?_ | refine bnd1 ?_ | refine drawQ (by decide +kernel) mixed (by decide +kernel) ?_)
        exact hbad 10 _ (by simp [checkE, hf, hd]) (by decide) .go
  · repeat (first | exact trivial | refine stp ?_ | refine ldCg ?_ | refine ldNg ?_ | refine ldSg ?_ | refine ldSb ?_ | refine bnd ?_ | refine bnd1 ?_ | refine drawQ (by decide +kernel) mixed (by decide +kernel) ?_)
    exact hbad 1 _ (by simp [checkE]) (by decide) .go
  · repeat (first | exact trivial | refine stp ?_ | refine ldCg ?_ | refine ldNg ?_ | refine ldSg ?_ | refine ldSb ?_ | refine bnd ?_ | refine bnd1 ?_ | refine drawQ (by decide +kernel) mixed (by decide +kernel) ?_)
    exact hbad 2 _ (by simp [checkE]) (by decide) .go
  · repeat (first | exact trivial | refine stp ?_ | refine ldCg ?_ | refine ldNg ?_ | refine ldSg ?_ | refine ldSb ?_ | refine bnd ?_ | refine bnd1 ?_ | refine drawQ (by decide +kernel) mixed (by decide +kernel) ?_)
    exact hbad 3 _ (by simp [checkE]) (by decide) .go
  · repeat (first | exact trivial | refine stp ?_ | refine ldCg ?_ | refine ldNg ?_ | refine ldSg ?_ | refine ldSb ?_ | refine bnd ?_ | refine bnd1 ?_ | refine drawQ (by decide +kernel) mixed (by decide +kernel) ?_)
    refine (DocForm_ok n root hrt w4).mono ?_
    rintro _ w5 ⟨rfl, hE5⟩
    have hz5 := hE5.size
    rw [formPB n root hrt]
    cases hf : formB n root
    · repeat (first | exact trivial | refine stp ?_ | refine ldCg ?_ | refine ldNg ?_ | refine ldSg ?_ | refine ldSb ?_ | refine bnd ?_ | refine bnd1 ?_ | refine drawQ (by decide +kernel) mixed (by decide +kernel) ?_)
      exact hbad 3 _ (by simp [checkE, hf]) (by decide) .go
    · repeat (first | exact trivial | refine stp ?_ | refine ldCg ?_ | refine ldNg ?_ | refine ldSg ?_ | refine ldSb ?_ | refine bnd ?_ | refine bnd1 ?_ | refine drawQ (by decide +kernel) mixed (by decide +kernel) ?_)
      exact hbad 10 _ (by simp [checkE, hf]) (by decide) .go
end Go.Proofs.YticfalbgplifoaaGreatDoor
