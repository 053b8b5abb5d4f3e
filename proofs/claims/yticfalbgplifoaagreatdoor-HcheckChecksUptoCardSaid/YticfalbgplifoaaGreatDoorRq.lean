/-
  The reference of layer 16 (package notaryref16): less, kids, steps. Conditions: as stated in each theorem.
-/
import Derived.Test.YticfalbgplifoaaGreatDoorRefE
import Derived.Test.YticfalbgplifoaaGreatDoorHckE
import Derived.Test.YticfalbgplifoaaGreatDoorNibQ
import Derived.Test.YticfalbgplifoaaGreatDoorNibR
namespace Go.Proofs.YticfalbgplifoaaGreatDoor
set_option maxRecDepth 100000
open Go Go.RowKit
set_option linter.unusedVariables false
set_option linter.unusedSimpArgs false
attribute [local irreducible] vcT opsT qT vcOp Q1 vcPure vcLoad vcStore ldC ldN ldD grdT grdQ vc vcOps vcQ hT

theorem cmp_drop : ∀ (k : Nat) (xs ys : List UInt8), k ≤ xs.length → k ≤ ys.length → xs.take k = ys.take k → Lib.compareBytes xs ys = Lib.compareBytes (xs.drop k) (ys.drop k)
  | 0, xs, ys, _, _, _ => by simp
  | k + 1, [], _, h, _, _ => by simp at h
  | k + 1, _ :: _, [], _, h, _ => by simp at h
  | k + 1, x :: xs, y :: ys, h1, h2, h => by
    simp only [List.take_succ_cons, List.cons.injEq] at h
    obtain ⟨rfl, h⟩ := h
    simp only [List.length_cons, Nat.add_le_add_iff_right] at h1 h2
    have h3 : ¬ x < x := by simp
    rw [List.drop_succ_cons, List.drop_succ_cons, Lib.compareBytes, if_neg h3, if_neg h3]
    exact cmp_drop k xs ys h1 h2 h
theorem getD_drop {xs : List UInt8} {k : Nat} (h : k < xs.length) : xs.drop k = xs.getD k 0 :: xs.drop (k + 1) := by
  rw [List.drop_eq_getElem_cons h, List.getD_eq_getElem?_getD, List.getElem?_eq_getElem h]
  rfl
theorem take_getD {xs : List UInt8} {k : Nat} (h : k < xs.length) : xs.take (k + 1) = xs.take k ++ [xs.getD k 0] := by
  rw [List.take_succ_eq_append_getElem h, List.getD_eq_getElem?_getD, List.getElem?_eq_getElem h]
  rfl
theorem u8_lt (a b : UInt8) : ((a.toNat : Int) < b.toNat) ↔ a < b := by rw [UInt8.lt_iff_toNat_lt]; omega
theorem less_ok (xs ys : List UInt8) (u v : Value) (w : World) (hu : SlB w u xs) (hv : SlB w v ys) :
    CallK Tryz.prog 61 [u, v].toArray w fun r w' => r = .bool (decide (Lib.compareBytes xs ys < 0)) ∧ Ext w w' := by
  have hul : xs.length ≤ 9223372036854775807 := by obtain ⟨_, _, _, h1, h2, _⟩ := hu; omega
  obtain ⟨au, cu, rfl⟩ := slv_of hu
  obtain ⟨av, cv, rfl⟩ := slv_of hv
  refine enterT Tryz.func61 rfl Tryz.ntmps61 Tryz.results61 rfl (by decide) ?_
  repeat (first | exact trivial | refine stp ?_ | refine ldCg ?_ | refine ldNg ?_ | refine ldSg ?_ | refine ldSb ?_ | refine bnd ?_ | refine bnd1 ?_ | refine drawQ (by decide +kernel) mixed (by decide +kernel) ?_)
  refine loopX (ι := Nat) (fun k => [(0, .slice au xs.length cu), (1, .slice av ys.length cv), (5, .int .i64 k)]) (fun k w' => Ext w w' ∧ k ≤ xs.length ∧ k ≤ ys.length ∧ xs.take k = ys.take k) (fun k => xs.length - k) 0 ⟨.go, Nat.zero_le _, Nat.zero_le _, by simp⟩ ?_ ?_
  · repeat (first | exact trivial | refine stp ?_ | refine ldCg ?_ | refine ldNg ?_ | refine ldSg ?_ | refine ldSb ?_ | refine bnd ?_ | refine bnd1 ?_ | refine drawQ (by decide +kernel) mixed (by decide +kernel) ?_)
  · rintro k s1 w1 ⟨hE1, hk1, hk2, htk⟩
    have hcd := cmp_drop k xs ys hk1 hk2 htk
    repeat (first | exact trivial | refine stp ?_ | refine ldCg ?_ | refine ldNg ?_ | refine ldSg ?_ | refine ldSb ?_ | refine bnd ?_ | refine bnd1 ?_ | refine drawQ (by decide +kernel) mixed (by decide +kernel) ?_)
    refine ⟨fun hlt => ?_, fun hge => ?_⟩
    · repeat (first | exact trivial | refine stp ?_ | refine ldCg ?_ | refine ldNg ?_ | refine ldSg ?_ | refine ldSb ?_ | refine bnd ?_ | refine bnd1 ?_ | refine drawQ (by decide +kernel) mixed (by decide +kernel) ?_)
      refine ⟨fun hlt2 => ?_, fun hge2 => ?_⟩
      · obtain ⟨bu, ou, rfl, hRu⟩ := hu.rowB (by omega)
        obtain ⟨bv, ov, rfl, hRv⟩ := hv.rowB (by omega)
        repeat (first | exact trivial | refine stp ?_ | refine ldCg ?_ | refine ldNg ?_ | refine ldSg ?_ | refine ldSb ?_ | refine bnd ?_ | refine bnd1 ?_ | refine drawQ (by decide +kernel) mixed (by decide +kernel) ?_)
        refine ldByte (xs := xs) ?_
        repeat (first | exact trivial | refine stp ?_ | refine ldCg ?_ | refine ldNg ?_ | refine ldSg ?_ | refine ldSb ?_ | refine bnd ?_ | refine bnd1 ?_ | refine drawQ (by decide +kernel) mixed (by decide +kernel) ?_)
        refine ldByte (xs := ys) ?_
        repeat (first | exact trivial | refine stp ?_ | refine ldCg ?_ | refine ldNg ?_ | refine ldSg ?_ | refine ldSb ?_ | refine bnd ?_ | refine bnd1 ?_ | refine drawQ (by decide +kernel) mixed (by decide +kernel) ?_)
        intro w2 hE2
        refine ⟨fun hne => ?_, fun heq => ?_⟩
        · repeat (first | exact trivial | refine stp ?_ | refine ldCg ?_ | refine ldNg ?_ | refine ldSg ?_ | refine ldSb ?_ | refine bnd ?_ | refine bnd1 ?_ | refine drawQ (by decide +kernel) mixed (by decide +kernel) ?_)
          refine ldByte (xs := xs) ?_
          repeat (first | exact trivial | refine stp ?_ | refine ldCg ?_ | refine ldNg ?_ | refine ldSg ?_ | refine ldSb ?_ | refine bnd ?_ | refine bnd1 ?_ | refine drawQ (by decide +kernel) mixed (by decide +kernel) ?_)
          refine ldByte (xs := ys) ?_
          repeat (first | exact trivial | refine stp ?_ | refine ldCg ?_ | refine ldNg ?_ | refine ldSg ?_ | refine ldSb ?_ | refine bnd ?_ | refine bnd1 ?_ | refine drawQ (by decide +kernel) mixed (by decide +kernel) ?_)
          intro w3 hE3
          refine ⟨?_, .go⟩
          rw [hcd, getD_drop (by omega), getD_drop (xs := ys) (by omega), Lib.compareBytes]
          by_cases hl : xs.getD k 0 < ys.getD k 0
          · rw [if_pos hl]; simpa using (u8_lt _ _).2 hl
          · rw [if_neg hl]
            have hgt : ys.getD k 0 < xs.getD k 0 := by
              rw [UInt8.lt_iff_toNat_lt] at hl ⊢
              have : (xs.getD k 0).toNat ≠ (ys.getD k 0).toNat := by omega
              omega
            rw [if_pos hgt]
            simpa using fun h => hl ((u8_lt _ _).1 h)
        · repeat (first | exact trivial | refine stp ?_ | refine ldCg ?_ | refine ldNg ?_ | refine ldSg ?_ | refine ldSb ?_ | refine bnd ?_ | refine bnd1 ?_ | refine drawQ (by decide +kernel) mixed (by decide +kernel) ?_)
          have hb : xs.getD k 0 = ys.getD k 0 := (toNat_inj _ _).1 (by simpa using heq)
          refine ⟨k + 1, ⟨.go, by omega, by omega, ?_⟩, by rw [w64 (by omega) (by omega)]; rfl, by omega⟩
          rw [take_getD (by omega), take_getD (xs := ys) (by omega), htk, hb]
      · repeat (first | exact trivial | refine stp ?_ | refine ldCg ?_ | refine ldNg ?_ | refine ldSg ?_ | refine ldSb ?_ | refine bnd ?_ | refine bnd1 ?_ | refine drawQ (by decide +kernel) mixed (by decide +kernel) ?_)
        refine ⟨?_, .go⟩
        have hn : ys.drop k = [] := List.drop_eq_nil_of_le (by omega)
        rw [hcd, hn, getD_drop (by omega)]
        simp [Lib.compareBytes]
        omega
    · repeat (first | exact trivial | refine stp ?_ | refine ldCg ?_ | refine ldNg ?_ | refine ldSg ?_ | refine ldSb ?_ | refine bnd ?_ | refine bnd1 ?_ | refine drawQ (by decide +kernel) mixed (by decide +kernel) ?_)
      refine ⟨?_, .go⟩
      have hn : xs.drop k = [] := List.drop_eq_nil_of_le (by omega)
      rw [hcd, hn]
      by_cases hl : k < ys.length
      · rw [getD_drop hl]
        simp [Lib.compareBytes]
        omega
      · rw [List.drop_eq_nil_of_le (by omega)]
        simp [Lib.compareBytes]
        omega

theorem widthB (n : Int) : widthP n = widB n := by unfold widthP widB; by_cases h : 1 ≤ n <;> by_cases g : n ≤ 32 <;> simp [h, g]
theorem formPB (n : Int) (d : List UInt8) (hd : d.length = 32) : formP n d = formB n d := by
  unfold formP formB
  rw [widthB]
  cases hw : widB n
  · rfl
  · have hw' := (widB_iff n).1 hw
    simp only [Bool.true_and]
    congr 1
    refine propext ⟨fun h => ?_, fun h => ?_⟩
    · have e : d.drop n.toNat = List.replicate (32 - n.toNat) 0 := by
        refine List.eq_replicate_iff.2 ⟨by rw [List.length_drop, hd], h⟩
      rw [cutP, ← e, List.take_append_drop]
    · intro b hb
      have e : d.drop n.toNat = List.replicate (32 - n.toNat) 0 := by
        have := congrArg (List.drop n.toNat) h
        rw [cutP, List.drop_append, List.drop_eq_nil_of_le (by rw [List.length_take]; omega), List.length_take, Nat.min_eq_left (by omega)] at this
        simpa using this.symm
      rw [e] at hb
      exact (List.mem_replicate.1 hb).2
theorem sr_row {w : World} {a : Option Addr} {n c : Nat} {ss : List SR} (h : SlC w (.slice a n c) ss.length (ss.flatMap SR.cells)) (hd : 0 < ss.length) : ∃ b o, a = some ⟨b, o, none⟩ ∧ RowA w b o 2 SR.cells ss := h.row (fun _ _ => rfl) (by decide) hd
theorem pr_row {w : World} {a : Option Addr} {n c : Nat} {ps : List PR} (h : SlC w (.slice a n c) ps.length (ps.flatMap PR.cells)) (hd : 0 < ps.length) : ∃ b o, a = some ⟨b, o, none⟩ ∧ RowA w b o 2 PR.cells ps := h.row (fun _ _ => rfl) (by decide) hd
theorem dg_row {w : World} {a : Option Addr} {n c : Nat} {ds : List (List UInt8)} (hl : ∀ d ∈ ds, d.length = 32) (h : SlC w (.slice a n c) ds.length (ds.flatMap vbs)) (hd : 0 < ds.length) : ∃ b o, a = some ⟨b, o, none⟩ ∧ RowA w b o 32 vbs ds := h.row (fun d hm => by rw [vbs_len]; exact hl d hm) (by decide) hd
theorem ldStep {w : World} {b o i q : Nat} {K : Value → Prop} {ss : List SR} {x : SR} (hx : ss[i]? = some x) (hK : K (.agg [.int .u16 x.bm, x.kv].toArray)) (hR : RowA w b o 2 SR.cells ss := by exact RowA.go) (hq : q = o + i * 2 := by first | exact rfl | omega | simp) : ldN w 2 b q K := ldRow hx hK hR hq
theorem ldPair {w : World} {b o i q : Nat} {K : Value → Prop} {ps : List PR} {x : PR} (hx : ps[i]? = some x) (hK : K (.agg [x.kv, x.vv].toArray)) (hR : RowA w b o 2 PR.cells ps := by exact RowA.go) (hq : q = o + i * 2 := by first | exact rfl | omega | simp) : ldN w 2 b q K := ldRow hx hK hR hq
theorem Rkids_ok (n : Int) (sv pv : Value) (ss : List SR) (ps : List PR) (w : World) (hs : StepsAt w sv ss) (hp : PairsAt w pv ps) :
    CallK Tryz.prog 29 [.int .i64 n, .agg [sv, pv].toArray].toArray w fun v w' => v = .bool (decide (kidsP n ss)) ∧ Ext w w' := by
  obtain ⟨hs1, hs2⟩ := hs
  obtain ⟨sa, cs, rfl⟩ := slv_of hs1
  obtain ⟨pa, cp, rfl⟩ := slv_of hp.1
  have hsl : ss.length ≤ 9223372036854775807 := by obtain ⟨_, _, _, h1, h2, _⟩ := hs1; omega
  refine enterT Tryz.func29 rfl Tryz.ntmps29 Tryz.results29 rfl (by decide) ?_
  repeat (first | exact trivial | refine stp ?_ | refine ldCg ?_ | refine ldNg ?_ | refine ldSg ?_ | refine ldSb ?_ | refine bnd ?_ | refine bnd1 ?_ | refine drawQ (by decide +kernel) mixed (by decide +kernel) ?_)
  first | refine newS ?_ | refine newZ ?_
  intro w1 hE1 hz1 hB1
  repeat (first | exact trivial | refine stp ?_ | refine ldCg ?_ | refine ldNg ?_ | refine ldSg ?_ | refine ldSb ?_ | refine bnd ?_ | refine bnd1 ?_ | refine drawQ (by decide +kernel) mixed (by decide +kernel) ?_)
  refine loopX (ι := Nat) (fun k => [(0, .int .i64 n), (10, .slice sa ss.length cs), (11, .int .i64 ss.length), (12, .int .i64 k)]) (fun k w' => Ext w w' ∧ k ≤ ss.length ∧ ∀ s ∈ ss.take k, ∀ d ∈ s.ks, formB n d = true) (fun k => ss.length - k) 0 ⟨.go, Nat.zero_le _, by simp⟩ ?_ ?_
  · repeat (first | exact trivial | refine stp ?_ | refine ldCg ?_ | refine ldNg ?_ | refine ldSg ?_ | refine ldSb ?_ | refine bnd ?_ | refine bnd1 ?_ | refine drawQ (by decide +kernel) mixed (by decide +kernel) ?_)
  · rintro k s1 w2 ⟨hE2, hk, hz⟩
    repeat (first | exact trivial | refine stp ?_ | refine ldCg ?_ | refine ldNg ?_ | refine ldSg ?_ | refine ldSb ?_ | refine bnd ?_ | refine bnd1 ?_ | refine drawQ (by decide +kernel) mixed (by decide +kernel) ?_)
    refine ⟨fun hlt => ?_, fun hge => ?_⟩
    · obtain ⟨b, o, rfl, hR⟩ := sr_row hs1 (by omega)
      obtain ⟨⟨kv, bm, ks⟩, hx⟩ : ∃ x, ss[k]? = some x := ⟨_, List.getElem?_eq_getElem (by omega)⟩
      obtain ⟨hbm, hdl, hdk⟩ := hs2 _ (List.mem_of_getElem? hx)
      simp only at hbm hdl hdk
      obtain ⟨ka, kc, rfl⟩ := slv_of hdk
      have hkl : ks.length ≤ 9223372036854775807 := by obtain ⟨_, _, _, h1, h2, _⟩ := hdk; omega
      repeat (first | exact trivial | refine stp ?_ | refine ldCg ?_ | refine ldNg ?_ | refine ldSg ?_ | refine ldSb ?_ | refine bnd ?_ | refine bnd1 ?_ | refine drawQ (by decide +kernel) mixed (by decide +kernel) ?_)
      refine ldStep hx ?_
      repeat (first | exact trivial | refine stp ?_ | refine ldCg ?_ | refine ldNg ?_ | refine ldSg ?_ | refine ldSb ?_ | refine bnd ?_ | refine bnd1 ?_ | refine drawQ (by decide +kernel) mixed (by decide +kernel) ?_)
      first | refine newS ?_ | refine newZ ?_
      intro w3 hE3 hz3 hB3
      repeat (first | exact trivial | refine stp ?_ | refine ldCg ?_ | refine ldNg ?_ | refine ldSg ?_ | refine ldSb ?_ | refine bnd ?_ | refine bnd1 ?_ | refine drawQ (by decide +kernel) mixed (by decide +kernel) ?_)
      refine loopX (ι := Nat) (fun i => [(0, .int .i64 n), (10, .slice (some ⟨b, o, none⟩) ss.length cs), (11, .int .i64 ss.length), (12, .int .i64 k), (17, .slice ka ks.length kc), (18, .int .i64 ks.length), (19, .int .i64 i)]) (fun i w' => Ext w w' ∧ i ≤ ks.length ∧ ∀ d ∈ ks.take i, formB n d = true) (fun i => ks.length - i) 0 ⟨.go, Nat.zero_le _, by simp⟩ ?_ ?_
      · repeat (first | exact trivial | refine stp ?_ | refine ldCg ?_ | refine ldNg ?_ | refine ldSg ?_ | refine ldSb ?_ | refine bnd ?_ | refine bnd1 ?_ | refine drawQ (by decide +kernel) mixed (by decide +kernel) ?_)
      · rintro i s4 w4 ⟨hE4, hi, hz4⟩
        repeat (first | exact trivial | refine stp ?_ | refine ldCg ?_ | refine ldNg ?_ | refine ldSg ?_ | refine ldSb ?_ | refine bnd ?_ | refine bnd1 ?_ | refine drawQ (by decide +kernel) mixed (by decide +kernel) ?_)
        refine ⟨fun hlti => ?_, fun hgei => ?_⟩
        · obtain ⟨bk, ok, rfl, hRk⟩ := dg_row hdl hdk (by omega)
          obtain ⟨y, hy⟩ : ∃ y, ks[i]? = some y := ⟨_, List.getElem?_eq_getElem (by omega)⟩
          have hyl := hdl y (List.mem_of_getElem? hy)
          repeat (first | exact trivial | refine stp ?_ | refine ldCg ?_ | refine ldNg ?_ | refine ldSg ?_ | refine ldSb ?_ | refine bnd ?_ | refine bnd1 ?_ | refine drawQ (by decide +kernel) mixed (by decide +kernel) ?_)
          refine ldRow hy ?_
          repeat (first | exact trivial | refine stp ?_ | refine ldCg ?_ | refine ldNg ?_ | refine ldSg ?_ | refine ldSb ?_ | refine bnd ?_ | refine bnd1 ?_ | refine drawQ (by decide +kernel) mixed (by decide +kernel) ?_)
          first | refine newS ?_ | refine newZ ?_
          intro w5 hE5 hz5 hB5
          repeat (first | exact trivial | refine stp ?_ | refine ldCg ?_ | refine ldNg ?_ | refine ldSg ?_ | refine ldSb ?_ | refine bnd ?_ | refine bnd1 ?_ | refine drawQ (by decide +kernel) mixed (by decide +kernel) ?_)
          refine (DocForm_ok n y hyl w5).mono ?_
          rintro _ w6 ⟨rfl, hE6⟩
          have hz6 := hE6.size
          rw [formPB n y hyl]
          cases hf : formB n y
          · repeat (first | exact trivial | refine stp ?_ | refine ldCg ?_ | refine ldNg ?_ | refine ldSg ?_ | refine ldSb ?_ | refine bnd ?_ | refine bnd1 ?_ | refine drawQ (by decide +kernel) mixed (by decide +kernel) ?_)
            refine ⟨?_, .go⟩
            symm
            rw [decide_eq_false]
            intro hall
            have := hall _ (List.mem_of_getElem? hx) y (List.mem_of_getElem? hy)
            rw [hf] at this
            cases this
          · repeat (first | exact trivial | refine stp ?_ | refine ldCg ?_ | refine ldNg ?_ | refine ldSg ?_ | refine ldSb ?_ | refine bnd ?_ | refine bnd1 ?_ | refine drawQ (by decide +kernel) mixed (by decide +kernel) ?_)
            exact ⟨i + 1, ⟨.go, by omega, (take_all_succ hy).2 ⟨hz4, hf⟩⟩, by rw [w64 (by omega) (by omega)]; rfl, by omega⟩
        · rw [List.take_of_length_le (by omega)] at hz4
          repeat (first | exact trivial | refine stp ?_ | refine ldCg ?_ | refine ldNg ?_ | refine ldSg ?_ | refine ldSb ?_ | refine bnd ?_ | refine bnd1 ?_ | refine drawQ (by decide +kernel) mixed (by decide +kernel) ?_)
          exact ⟨k + 1, ⟨.go, by omega, (take_all_succ (p := fun s : SR => ∀ d ∈ s.ks, formB n d = true) hx).2 ⟨hz, hz4⟩⟩, by rw [w64 (by omega) (by omega)]; rfl, by omega⟩
    · rw [List.take_of_length_le (by omega)] at hz
      repeat (first | exact trivial | refine stp ?_ | refine ldCg ?_ | refine ldNg ?_ | refine ldSg ?_ | refine ldSb ?_ | refine bnd ?_ | refine bnd1 ?_ | refine drawQ (by decide +kernel) mixed (by decide +kernel) ?_)
      refine ⟨?_, .go⟩
      rw [decide_eq_true (show kidsP n ss from hz)]
end Go.Proofs.YticfalbgplifoaaGreatDoor
