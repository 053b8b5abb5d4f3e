/-
  The reference of layer 16 (package notaryref16): put, Up. Conditions: as stated in each theorem.
-/
import Derived.Test.YticfalbgplifoaaGreatDoorRqb
import Derived.Test.YticfalbgplifoaaGreatDoorInq
namespace Go.Proofs.YticfalbgplifoaaGreatDoor
set_option maxRecDepth 100000
open Go Go.RowKit
set_option linter.unusedVariables false
set_option linter.unusedSimpArgs false
attribute [local irreducible] vcT opsT qT vcOp Q1 vcPure vcLoad vcStore ldC ldN ldD grdT grdQ vc vcOps vcQ hT
attribute [local irreducible] sumR sumP shaP keyD bucketP branchP

theorem put_ok (ds : List (List UInt8)) (i : Nat) (x : List UInt8) (hi : i ≤ ds.length) (hx : x.length = 32) (v : Value) (w : World) (hv : DigsAt w v ds) (hsz : ds.length + 1 ≤ 4000000000) :
    CallK Tryz.prog 64 [v, .int .i64 i, .agg (vbs x).toArray].toArray w fun v' w' => Own w' w.heap.size 28 32 v' (insP ds i x).length ((insP ds i x).flatMap vbs) ∧ Ext w w' := by
  have hv' := hv
  obtain ⟨hd, a, c, rfl, hnc, hcm, hc⟩ := hv'
  refine enterT Tryz.func64 rfl Tryz.ntmps64 Tryz.results64 rfl (by decide) ?_
  repeat (first | exact trivial | refine stp ?_ | refine ldCg ?_ | refine ldNg ?_ | refine ldSg ?_ | refine ldSb ?_ | refine bnd ?_ | refine bnd1 ?_ | refine drawQ (by decide +kernel) mixed (by decide +kernel) ?_)
  first | refine newS ?_ | refine newZ ?_
  intro w1 hE1 hz1 hB1
  repeat (first | exact trivial | refine stp ?_ | refine ldCg ?_ | refine ldNg ?_ | refine ldSg ?_ | refine ldSb ?_ | refine bnd ?_ | refine bnd1 ?_ | refine drawQ (by decide +kernel) mixed (by decide +kernel) ?_)
  intro a2 h0 hs2
  have hd2 := digs_sub (lo := 0) (hi := i) (hv.ext hE1) (Nat.zero_le _) hi (fun b o hb => by
    obtain ⟨o', h1, h2⟩ := hs2 b o hb
    exact ⟨o', h1, fun h => by rw [h2 (by omega)]; simp⟩)
  have e1 : ((i : Int) - 0).toNat = i - 0 := by omega
  have e2 : ((c : Int) - 0).toNat = c - 0 := by omega
  rw [e1, e2]
  refine apD (xs := []) (Own.nil w1 w1.heap.size _ _) (by omega) hd2 (by simp only [List.length_nil, List.length_take, List.length_drop]; omega) (fun v3 w3 hO3 hg3 hE3 => ?_)
  have hz3 := hE3.size
  obtain ⟨a3, c3, rfl⟩ := own_slice hO3
  have e3 : [] ++ (ds.drop 0).take (i - 0) = ds.take i := by simp
  rw [e3] at hO3 ⊢
  repeat (first | exact trivial | refine stp ?_ | refine ldCg ?_ | refine ldNg ?_ | refine ldSg ?_ | refine ldSb ?_ | refine bnd ?_ | refine bnd1 ?_ | refine drawQ (by decide +kernel) mixed (by decide +kernel) ?_)
  refine ⟨by rw [vbs_len]; exact hx, ?_⟩
  first | refine newS ?_ | refine newZ ?_
  intro w4 hE4 hz4 hB4
  refine apD (hO3.ext hE4) (by omega) (ys := [x]) ⟨by simpa using hx, by simpa using SlC.of_blk (n := 1) hB4 (by decide)⟩ (by simp only [List.length_cons, List.length_nil, List.length_take]; omega) (fun v5 w5 hO5 hg5 hE5 => ?_)
  have hz5 := hE5.size
  obtain ⟨a5, c5, rfl⟩ := own_slice hO5
  repeat (first | exact trivial | refine stp ?_ | refine ldCg ?_ | refine ldNg ?_ | refine ldSg ?_ | refine ldSb ?_ | refine bnd ?_ | refine bnd1 ?_ | refine drawQ (by decide +kernel) mixed (by decide +kernel) ?_)
  intro a6 h6 hs6
  have hd6 := digs_sub (lo := i) (hi := ds.length) (hv.ext (Ext.go (b := w5))) hi (Nat.le_refl _) (fun b o hb => by
    obtain ⟨o', h1, h2⟩ := hs6 b o hb
    exact ⟨o', h1, fun h => by rw [h2 (by omega)]⟩)
  have e4 : ((ds.length : Int) - i).toNat = ds.length - i := by omega
  have e5 : ((c : Int) - i).toNat = c - i := by omega
  rw [e4, e5]
  have e6 : (ds.drop i).take (ds.length - i) = ds.drop i := List.take_of_length_le (by simp)
  rw [e6] at hd6
  refine apD hO5 (by omega) hd6 (by simp only [List.length_append, List.length_cons, List.length_nil, List.length_take, List.length_drop]; omega) (fun v7 w7 hO7 hg7 hE7 => ?_)
  have e7 : ds.take i ++ [x] ++ ds.drop i = insP ds i x := by simp [insP]
  rw [e7] at hO7
  repeat (first | exact trivial | refine stp ?_ | refine ldCg ?_ | refine ldNg ?_ | refine ldSg ?_ | refine ldSb ?_ | refine bnd ?_ | refine bnd1 ?_ | refine drawQ (by decide +kernel) mixed (by decide +kernel) ?_)
  exact ⟨hO7.base (by omega), .go⟩

theorem lev_br {m : Nat} (hm : 1 ≤ m) (hm2 : m ≤ 32) {key : List UInt8} {ss : List SR} {ps : List PR} (hR : RootE m key ss ps 0) {i : Nat} {s : SR} (hs : ss[i]? = some s) :
    lev m (keyD m key) ss (up0 m (ps.map PR.dat)) i = sumP m (branchP m s.bm (kidsOf m (keyD m key) (lev m (keyD m key) ss (up0 m (ps.map PR.dat)) (i + 1)) i s)) := by
  obtain ⟨f1, f2, f3⟩ := step_facts hR hs
  rw [lev_step m (keyD m key) _ hs]
  show brD m s.bm (kidsOf m (keyD m key) (lev m (keyD m key) ss (up0 m (ps.map PR.dat)) (i + 1)) i s) = _
  unfold brD
  rw [if_pos (brE_zero ((widB_iff m).2 (by omega)) f1 f2 f3), sumR_P hm hm2, Int.toNat_natCast]
theorem bucket_small {ps : List PR} (h : ∀ p ∈ ps, p.k.length ≤ 64 ∧ p.v.length ≤ 256) (hl : ps.length ≤ 400000000000) : (bucketP (ps.map PR.dat)).length + 200 ≤ 140737488355328 := by
  have h1 := pairsB_le (ps.map PR.dat) (fun p hp => by obtain ⟨q, hq, rfl⟩ := List.mem_map.1 hp; exact h q hq)
  have u1 := uvarP_len10 (n := (ps.map PR.dat).length) (by rw [List.length_map]; omega)
  unfold bucketP
  simp only [List.length_cons, List.length_append]
  rw [List.length_map] at h1
  omega
theorem RUp_ok (m : Nat) (hm : 1 ≤ m) (hm2 : m ≤ 32) (key : List UInt8) (qv sv pv : Value) (ss : List SR) (ps : List PR) (w : World) (hq : SlI w qv (digsI (keyD m key) m)) (hs : StepsAt w sv ss) (hp : PairsAt w pv ps) (hR : RootE m key ss ps 0) (hpn : ps.length ≤ 400000000000) :
    CallK Tryz.prog 34 [.int .i64 m, qv, .agg [sv, pv].toArray].toArray w fun v w' => v = .agg (vbs (lev m (keyD m key) ss (up0 m (ps.map PR.dat)) 0)).toArray ∧ Ext w w' := by
  obtain ⟨hwn, hkl, hkids, hbr, hpr⟩ := hR.ok
  obtain ⟨hs1, hs2⟩ := hs
  have hps := hp.1
  obtain ⟨sa, cs, rfl⟩ := slv_of hs1
  obtain ⟨pa, cp, rfl⟩ := slv_of hp.1
  obtain ⟨qa, cq, rfl⟩ := slv_of hq
  have hsl : ss.length ≤ 64 := by have := hbr.1; omega
  have hql := digsI_len (keyD m key) m
  have hlev := lev_len m (keyD m key) ss (ps.map PR.dat)
  have hlend := lev_end m (keyD m key) ss (up0 m (ps.map PR.dat))
  have hbs := bucket_small (fun p hm => by obtain ⟨i, hi⟩ := List.getElem?_of_mem hm; exact ⟨(hpr i p hi).1, (hpr i p hi).2.1⟩) hpn
  have hlbr := fun (i : Nat) (s : SR) (h : ss[i]? = some s) => lev_br hm hm2 hR h
  have hkd := keyD_len m key
  have hss := (hR.sizes hpn).2.1
  have hs2m : ss.length ≤ 2 * m := by have := hbr.1; omega
  have hfk : formB m (keyD m key) = true := by unfold keyD; exact form_sumR m _ hwn
  generalize hlv : (fun j => lev m (keyD m key) ss (up0 m (ps.map PR.dat)) j) = L at *
  have hL : ∀ j, lev m (keyD m key) ss (up0 m (ps.map PR.dat)) j = L j := fun j => congrFun hlv j
  simp only [hL] at hlev hlend hlbr ⊢
  refine enterT Tryz.func34 rfl Tryz.ntmps34 Tryz.results34 rfl (by decide) ?_
  repeat (first | exact trivial | refine stp ?_ | refine ldCg ?_ | refine ldNg ?_ | refine ldSg ?_ | refine ldSb ?_ | refine bnd ?_ | refine bnd1 ?_ | refine drawQ (by decide +kernel) mixed (by decide +kernel) ?_)
  first | refine newS ?_ | refine newZ ?_
  intro w1 hE1 hz1 hB1
  first | refine newS ?_ | refine newZ ?_
  intro w2 hE2 hz2 hB2
  rw [vbs_rep] at hB2
  repeat (first | exact trivial | refine stp ?_ | refine ldCg ?_ | refine ldNg ?_ | refine ldSg ?_ | refine ldSb ?_ | refine bnd ?_ | refine bnd1 ?_ | refine drawQ (by decide +kernel) mixed (by decide +kernel) ?_)
  refine (RNoMap_ok m hm2 w2).mono ?_
  rintro _ w3 ⟨rfl, hE3⟩
  have hz3 := hE3.size
  have hcl := sumP_len m [5] hm2
  repeat (first | exact trivial | refine stp ?_ | refine ldCg ?_ | refine ldNg ?_ | refine ldSg ?_ | refine ldSb ?_ | refine bnd ?_ | refine bnd1 ?_ | refine drawQ (by decide +kernel) mixed (by decide +kernel) ?_)
  first | refine newS ?_ | refine newZ ?_
  intro w4 hE4 hz4 hB4
  have e1 : IntKind.i64.wrap ((ss.length : Int) - 1) = (ss.length : Int) - 1 := w64 (by omega) (by omega)
  repeat (first | exact trivial | refine stq ?_ | refine ldCg ?_ | refine ldNg ?_ | refine ldSg ?_ | refine ldSb ?_ | refine bnd ?_ | refine bnd1 ?_)
  rw [e1]
  rw [v_seq]
  refine joinX (κ := Nat) (fun j => [(0, .int .i64 m), (1, .slice qa (digsI (keyD m key) m).length cq), (5, .pointer (some ⟨w.heap.size, 0, none⟩)), (6, .pointer (some ⟨w1.heap.size, 0, none⟩)), (7, .int .i64 ((j : Int) - 1)), (8, .pointer (some ⟨w3.heap.size, 0, none⟩))])
    (fun j W => Ext w2 W ∧ w4.heap.size ≤ W.heap.size ∧ Blk W w3.heap.size 28 (vbs (L j)) ∧ j ≤ ss.length ∧ ∀ i, i < j → ∀ s, ss[i]? = some s → hasB s.bm (atP m (keyD m key) i).1 = true) ?_ ?_
  · have hlast : ∀ i s, ss[i]? = some s → (i + 1 < ss.length ∨ 0 < ps.length) → hasB s.bm (atP m (keyD m key) i).1 = true := by
      intro i s hs' ho
      cases hh : hasB s.bm (atP m (keyD m key) i).1
      · have := (hbr.2 i s hs').2.2.1 hh
        omega
      · rfl
    repeat (first | exact trivial | refine stp ?_ | refine ldCg ?_ | refine ldNg ?_ | refine ldSg ?_ | refine ldSb ?_ | refine bnd ?_ | refine bnd1 ?_ | refine drawQ (by decide +kernel) mixed (by decide +kernel) ?_)
    refine ⟨fun h1 => ?_, fun h1 => ?_⟩
    · repeat (first | exact trivial | refine stp ?_ | refine ldCg ?_ | refine ldNg ?_ | refine ldSg ?_ | refine ldSb ?_ | refine bnd ?_ | refine bnd1 ?_ | refine drawQ (by decide +kernel) mixed (by decide +kernel) ?_)
      refine (RBucket_ok m hm2 _ ps w4 (hp.ext .go) (by omega)).mono ?_
      rintro _ w5 ⟨rfl, hE5⟩
      have hz5 := hE5.size
      have hcl5 := sumP_len m (bucketP (ps.map PR.dat)) hm2
      repeat (first | exact trivial | refine stp ?_ | refine ldCg ?_ | refine ldNg ?_ | refine ldSg ?_ | refine ldSb ?_ | refine bnd ?_ | refine bnd1 ?_ | refine drawQ (by decide +kernel) mixed (by decide +kernel) ?_)
      refine stW ?_
      intro w6 hP6 hz6 hB6
      repeat (first | exact trivial | refine stp ?_ | refine ldCg ?_ | refine ldNg ?_ | refine ldSg ?_ | refine ldSb ?_ | refine bnd ?_ | refine bnd1 ?_ | refine drawQ (by decide +kernel) mixed (by decide +kernel) ?_)
      refine ⟨ss.length, ⟨.go, by omega, ?_, Nat.le_refl _, fun i hi s hs' => hlast i s hs' (Or.inr (by omega))⟩, ?_⟩
      · rw [hlend, up0, if_neg (by intro h; rw [List.map_eq_nil_iff] at h; rw [h] at h1; simp at h1), sumR_P hm hm2]
        exact hB6
      · rfl
    · have hp0 : ps = [] := List.length_eq_zero_iff.1 (by omega)
      have hd0 : up0 m (ps.map PR.dat) = sumP m [5] := by rw [hp0, List.map_nil, up0, if_pos rfl, sumR_P hm hm2]
      rw [hd0] at hlend
      repeat (first | exact trivial | refine stp ?_ | refine ldCg ?_ | refine ldNg ?_ | refine ldSg ?_ | refine ldSb ?_ | refine bnd ?_ | refine bnd1 ?_ | refine drawQ (by decide +kernel) mixed (by decide +kernel) ?_)
      refine ⟨fun h2 => ?_, fun h2 => ?_⟩
      · repeat (first | exact trivial | refine stp ?_ | refine ldCg ?_ | refine ldNg ?_ | refine ldSg ?_ | refine ldSb ?_ | refine bnd ?_ | refine bnd1 ?_ | refine drawQ (by decide +kernel) mixed (by decide +kernel) ?_)
        obtain ⟨⟨kv, bm, ks⟩, hx⟩ : ∃ x, ss[ss.length - 1]? = some x := ⟨_, List.getElem?_eq_getElem (by omega)⟩
        obtain ⟨b, o, rfl, hRs⟩ := sr_row hs1 (by omega)
        obtain ⟨hbm, hdl, hdk⟩ := hs2 _ (List.mem_of_getElem? hx)
        simp only at hbm hdl hdk
        have hst := hbr.2 _ _ hx
        have e5 : ((ss.length : Int) - 1).toNat = ss.length - 1 := by omega
        refine drawX (Ord.pre [0, 1, 2, 3, 4, 5, 6, 7, 8, 9, 10, 11, 12, 13, 14] .nil) mixed (by decide +kernel) (fun w5 hE5 hz5 => ?_)
        repeat (first | exact trivial | refine stp ?_ | refine ldCg ?_ | refine ldNg ?_ | refine ldSg ?_ | refine ldSb ?_ | refine bnd ?_ | refine bnd1 ?_ | refine drawQ (by decide +kernel) mixed (by decide +kernel) ?_)
        rw [e5]
        refine ldSg ?_ (by intro w' hw'; refine stp ?_; exact ldRowF (f := SR.cells) 0 hx rfl)
        repeat (first | exact trivial | refine stp ?_ | refine ldCg ?_ | refine ldNg ?_ | refine ldSg ?_ | refine ldSb ?_ | refine bnd ?_ | refine bnd1 ?_ | refine drawQ (by decide +kernel) mixed (by decide +kernel) ?_)
        rw [e5]
        refine ldSg ?_ (by intro w' hw'; refine stp ?_; exact ldRowF (f := SR.cells) 1 hx rfl)
        repeat (first | exact trivial | refine stp ?_ | refine ldCg ?_ | refine ldNg ?_ | refine ldSg ?_ | refine ldSb ?_ | refine bnd ?_ | refine bnd1 ?_ | refine drawQ (by decide +kernel) mixed (by decide +kernel) ?_)
        refine (RBranch_ok m bm hm2 hbm kv ks w5 ⟨hdl, hdk.ext .go⟩ (by have := hss _ (List.mem_of_getElem? hx); simp only at this; omega)).mono ?_
        rintro _ w6 ⟨rfl, hE6⟩
        have hz6 := hE6.size
        refine toldX ?_
        repeat (first | exact trivial | refine stp ?_ | refine ldCg ?_ | refine ldNg ?_ | refine ldSg ?_ | refine ldSb ?_ | refine bnd ?_ | refine bnd1 ?_ | refine drawQ (by decide +kernel) mixed (by decide +kernel) ?_)
        have hcl6 := sumP_len m (branchP m bm ks) hm2
        refine stW ?_
        intro w7 hP7 hz7 hB7
        refine toldZ ?_
        repeat (first | exact trivial | refine stp ?_ | refine ldCg ?_ | refine ldNg ?_ | refine ldSg ?_ | refine ldSb ?_ | refine bnd ?_ | refine bnd1 ?_ | refine drawQ (by decide +kernel) mixed (by decide +kernel) ?_)
        have hhas : hasB bm (atP m (keyD m key) ((ss.length - 1 : Nat) : Int)).1 = false := by
          cases hh : hasB bm (atP m (keyD m key) ((ss.length - 1 : Nat) : Int)).1
          · rfl
          · exact absurd ⟨by omega, by rw [hp0]; rfl⟩ (hst.2.1 hh).2
        refine ⟨ss.length - 1, ⟨.go, by omega, ?_, by omega, fun i hi s hs' => hlast i s hs' (Or.inl (by omega))⟩, ?_⟩
        · rw [hlbr _ _ hx, kidsOf, if_neg (by simp only [hhas]; simp)]
          exact hB7
        · rw [w64 (by omega) (by omega)]
          congr 1
          omega
      · repeat (first | exact trivial | refine stp ?_ | refine ldCg ?_ | refine ldNg ?_ | refine ldSg ?_ | refine ldSb ?_ | refine bnd ?_ | refine bnd1 ?_ | refine drawQ (by decide +kernel) mixed (by decide +kernel) ?_)
        refine ⟨0, ⟨.go, by omega, ?_, Nat.zero_le _, fun i hi => by omega⟩, ?_⟩
        · rw [show ss.length = 0 from by omega] at hlend
          rw [hlend]
          exact .go
        · rw [show ss.length = 0 from by omega]
  · rintro j s5 w5 ⟨hE5, hz5, hB5, hj, hH⟩
    repeat (first | exact trivial | refine stp ?_ | refine ldCg ?_ | refine ldNg ?_ | refine ldSg ?_ | refine ldSb ?_ | refine bnd ?_ | refine bnd1 ?_ | refine drawQ (by decide +kernel) mixed (by decide +kernel) ?_)
    refine loopX (ι := Nat) (fun j => [(0, .int .i64 m), (1, .slice qa (digsI (keyD m key) m).length cq), (5, .pointer (some ⟨w.heap.size, 0, none⟩)), (6, .pointer (some ⟨w1.heap.size, 0, none⟩)), (7, .int .i64 ((j : Int) - 1)), (8, .pointer (some ⟨w3.heap.size, 0, none⟩))])
      (fun j W => Ext w2 W ∧ w4.heap.size ≤ W.heap.size ∧ Blk W w3.heap.size 28 (vbs (L j)) ∧ j ≤ ss.length ∧ ∀ i, i < j → ∀ s, ss[i]? = some s → hasB s.bm (atP m (keyD m key) i).1 = true) (fun j => j) j ⟨hE5, hz5, hB5, hj, hH⟩ ?_ ?_
    · repeat (first | exact trivial | refine stp ?_ | refine ldCg ?_ | refine ldNg ?_ | refine ldSg ?_ | refine ldSb ?_ | refine bnd ?_ | refine bnd1 ?_ | refine drawQ (by decide +kernel) mixed (by decide +kernel) ?_)
    clear hH hj hB5 hz5 hE5 w5 s5 j
    rintro j s5 w5 ⟨hE5, hz5, hB5, hj, hH⟩
    have hlj := hlev j
    repeat (first | exact trivial | refine stp ?_ | refine ldCg ?_ | refine ldNg ?_ | refine ldSg ?_ | refine ldSb ?_ | refine bnd ?_ | refine bnd1 ?_ | refine drawQ (by decide +kernel) mixed (by decide +kernel) ?_)
    refine ⟨fun h0 => ?_, fun h0 => ?_⟩
    · obtain ⟨i, rfl⟩ : ∃ i, j = i + 1 := ⟨j - 1, by omega⟩
      obtain ⟨⟨kv, bm, ks⟩, hx⟩ : ∃ x, ss[i]? = some x := ⟨_, List.getElem?_eq_getElem (by omega)⟩
      obtain ⟨b, o, rfl, hRs⟩ := sr_row hs1 (by omega)
      obtain ⟨hbm, hdl, hdk⟩ := hs2 _ (List.mem_of_getElem? hx)
      simp only at hbm hdl hdk
      obtain ⟨ka, kc, rfl⟩ := slv_of hdk
      have hhas := hH i (by omega) _ hx
      have hkl := hss _ (List.mem_of_getElem? hx)
      have hrk := (hR.sizes hpn).2.2 i _ hx hhas
      simp only at hhas hkl hrk
      have hat := atP_dig hm hm2 hkd hfk (i := i) (by omega)
      have hli := hlev i
      rw [hlbr _ _ hx, kidsOf, if_pos (by simpa using hhas)] at hli
      simp only at hli
      have e6 : (((i + 1 : Nat) : Int) - 1) = (i : Int) := by omega
      have e7 : (((i + 1 : Nat) : Int) - 1).toNat = i := by omega
      have e8 : IntKind.i64.wrap (((i + 1 : Nat) : Int) - 1 - 1) = (i : Int) - 1 := by rw [w64 (by omega) (by omega)]; omega
      repeat (first | exact trivial | refine stp ?_ | refine ldCg ?_ | refine ldNg ?_ | refine ldSg ?_ | refine ldSb ?_ | refine bnd ?_ | refine bnd1 ?_ | refine drawQ (by decide +kernel) mixed (by decide +kernel) ?_)
      rw [e7]
      refine ldStep hx ?_
      repeat (first | exact trivial | refine stp ?_ | refine ldCg ?_ | refine ldNg ?_ | refine ldSg ?_ | refine ldSb ?_ | refine bnd ?_ | refine bnd1 ?_ | refine drawQ (by decide +kernel) mixed (by decide +kernel) ?_)
      first | refine newS ?_ | refine newZ ?_
      intro w6 hE6 hz6 hB6
      obtain ⟨bq, oq, rfl, hRq⟩ := hq.rowI (by omega)
      repeat (first | exact trivial | refine stp ?_ | refine ldCg ?_ | refine ldNg ?_ | refine ldSg ?_ | refine ldSb ?_ | refine bnd ?_ | refine bnd1 ?_ | refine drawQ (by decide +kernel) mixed (by decide +kernel) ?_)
      refine drawX (Ord.pre [0, 1, 2, 3, 4, 5, 6, 7, 8, 9, 10, 12, 11, 13, 14, 15] .nil) mixed (by decide +kernel) (fun w7 hE7 hz7 => ?_)
      repeat (first | exact trivial | refine stp ?_ | refine ldCg ?_ | refine ldNg ?_ | refine ldSg ?_ | refine ldSb ?_ | refine bnd ?_ | refine bnd1 ?_ | refine drawQ (by decide +kernel) mixed (by decide +kernel) ?_)
      rw [e7]
      refine ldSg ?_ (by intro w' hw'; refine stp ?_; exact ldInt (xs := digsI (keyD m key) m) (i := i) rfl)
      rw [digsI_getD _ m i (by omega), ← hat]
      repeat (first | exact trivial | refine stp ?_ | refine ldCg ?_ | refine ldNg ?_ | refine ldSg ?_ | refine ldSb ?_ | refine bnd ?_ | refine bnd1 ?_ | refine drawQ (by decide +kernel) mixed (by decide +kernel) ?_)
      refine (RRank_ok bm hbm _ w7).mono ?_
      rintro _ w8 ⟨rfl, hE8⟩
      have hz8 := hE8.size
      rw [lows_eq]
      refine toldX ?_
      repeat (first | exact trivial | refine stp ?_ | refine ldCg ?_ | refine ldNg ?_ | refine ldSg ?_ | refine ldSb ?_ | refine bnd ?_ | refine bnd1 ?_ | refine drawQ (by decide +kernel) mixed (by decide +kernel) ?_)
      refine (put_ok ks _ (L (i + 1)) hrk hlj _ w8 ⟨hdl, hdk.ext .go⟩ hkl).mono ?_
      rintro v9 w9 ⟨hO9, hE9⟩
      have hz9 := hE9.size
      obtain ⟨a9, c9, rfl⟩ := own_slice hO9
      refine toldX ?_
      repeat (first | exact trivial | refine stp ?_ | refine ldCg ?_ | refine ldNg ?_ | refine ldSg ?_ | refine ldSb ?_ | refine bnd ?_ | refine bnd1 ?_ | refine drawQ (by decide +kernel) mixed (by decide +kernel) ?_)
      have hil := ins_len ks (rankB bm (atP m (keyD m key) i).1) (L (i + 1))
      refine (RBranch_ok m bm hm2 hbm _ (insP ks (rankB bm (atP m (keyD m key) i).1) (L (i + 1))) w9 ⟨fun d hd => by rcases ins_mem hd with rfl | h; exact hlj; exact hdl d h, SlC.of_own hO9⟩ (by omega)).mono ?_
      rintro _ w10 ⟨rfl, hE10⟩
      have hz10 := hE10.size
      refine toldX ?_
      repeat (first | exact trivial | refine stp ?_ | refine ldCg ?_ | refine ldNg ?_ | refine ldSg ?_ | refine ldSb ?_ | refine bnd ?_ | refine bnd1 ?_ | refine drawQ (by decide +kernel) mixed (by decide +kernel) ?_)
      refine stW ?_
      intro w11 hP11 hz11 hB11
      refine toldZ ?_
      repeat (first | exact trivial | refine stp ?_ | refine ldCg ?_ | refine ldNg ?_ | refine ldSg ?_ | refine ldSb ?_ | refine bnd ?_ | refine bnd1 ?_ | refine drawQ (by decide +kernel) mixed (by decide +kernel) ?_)
      refine ⟨i, ⟨.go, by omega, ?_, by omega, fun t ht => hH t (Nat.lt_succ_of_lt ht)⟩, ⟨e8, by omega⟩⟩
      rw [hlbr _ _ hx, kidsOf, if_pos (by simpa using hhas)]
      exact hB11
    · obtain rfl : j = 0 := by omega
      repeat (first | exact trivial | refine stp ?_ | refine ldCg ?_ | refine ldNg ?_ | refine ldSg ?_ | refine ldSb ?_ | refine bnd ?_ | refine bnd1 ?_ | refine drawQ (by decide +kernel) mixed (by decide +kernel) ?_)
      refine stW ?_
      intro w6 hP6 hz6 hB6
      repeat (first | exact trivial | refine stp ?_ | refine ldCg ?_ | refine ldNg ?_ | refine ldSg ?_ | refine ldSb ?_ | refine bnd ?_ | refine bnd1 ?_ | refine drawQ (by decide +kernel) mixed (by decide +kernel) ?_)
      exact ⟨by rw [hL], .go⟩
end Go.Proofs.YticfalbgplifoaaGreatDoor
