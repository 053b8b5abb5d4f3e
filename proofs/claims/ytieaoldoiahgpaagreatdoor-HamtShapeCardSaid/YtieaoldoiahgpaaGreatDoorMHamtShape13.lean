/-
  HamtShape. Conditions: as stated in each theorem. The frame of the rows: a law's row out of its walk, whatever its parameters; digests and numbers opened. Conditions: none; plain lemmas. The frame of rows that list the table and bound the bulk: questions (structs with lists of structs) opened, with their sizes; the table out of the row's list. Conditions: none; plain lemmas. The frame of rows: parameters opened; the table of SHA-256. Conditions: none; plain lemmas.
-/
import Derived.Test.YtieaoldoiahgpaaGreatDoorMHamtShape12
import Derived.Test.YtieaoldoiahgpaaGreatDoorMHamtShape7
import Derived.Deep.Slices
import Derived.Test.YtieaoldoiahgpaaGreatDoorMHamtShape11
import Derived.Lib.LaidTab
import Derived.Lib.SmallJoins
import Derived.Test.YtieaoldoiahgpaaGreatDoorMHamtShape8
/-! Lhb -/
namespace Go.Proofs.YtieaoldoiahgpaaGreatDoor
set_option maxRecDepth 100000
open Go Go.RowKit
set_option linter.unusedVariables false
set_option linter.unusedSimpArgs false
set_option maxHeartbeats 4000000
attribute [local irreducible] vcT opsT qT vcOp Q1 vcPure vcLoad vcStore ldC ldN ldD grdT grdQ vc vcOps vcQ hT
attribute [local irreducible] sumR sumP shaP keyD bucketP branchP

/-- Of a walk's last branch no single child is the bucket at its end. -/
theorem kids_one {n : Int} {f d : Nat} {m : List It} (hs : singleB m = false) (h1 : (kidsI n f d m).length = 1) (K : List UInt8) (hne : childI m d (digP K d) ≠ []) : singleB (childI m d (digP K d)) = false := by
  rw [kidsI_len] at h1
  have hall : ∀ y ∈ m, digP y.D d = digP K d := by
    intro y hy
    obtain ⟨z, hz⟩ := List.exists_mem_of_ne_nil _ hne
    have hz' := mem_child.1 hz
    have ha : hasB (bmI m d) (digP y.D d : Int) = true := by rw [bmI_has, has_iff.2 ⟨y, hy, rfl⟩, decide_eq_true (digP_lt _ _)]; rfl
    have hb : hasB (bmI m d) (digP K d : Int) = true := by rw [bmI_has, has_iff.2 ⟨z, hz'.1, hz'.2⟩, decide_eq_true (digP_lt _ _)]; rfl
    have h2 := rank_lt ha
    have h3 := rank_lt hb
    exact rank_inj ha hb (by omega)
  have e : childI m d (digP K d) = m := List.filter_eq_self.2 fun y hy => by simpa using hall y hy
  rw [e]
  exact hs
/-- A key is among those at its walk's end if it is among all. -/
theorem getI_wm {n : Int} {m : List It} (hO : OkI n m) (key : List UInt8) (L : Nat) : getI (wmI (keyD n key) L 0 m) key = getI m key := by
  have h : ∀ (i d : Nat) (l : List It), OkI n l → getI (wmI (keyD n key) i d l) key = getI l key := by
    intro i
    induction i with
    | zero => intro d l _; rfl
    | succ i ih => intro d l hl; rw [wmI, ih _ _ (hl.child _ _), getI_child hl.dig rfl]
  exact h L 0 m hO
theorem getI_mem {n : Int} {m : List It} (hO : OkI n m) {y : It} (hy : y ∈ m) : getI m y.k = some y.v := by
  unfold getI
  cases hf : m.find? (fun z => decide (z.k = y.k)) with
  | none => exact absurd (List.find?_eq_none.1 hf y hy) (by simp)
  | some z =>
    have h1 := List.mem_of_find?_eq_some hf
    have h2 := List.find?_some hf
    simp only [decide_eq_true_eq] at h2
    have h0 : cmpIt z y = 0 := (cmpIt_eq z y).2 ⟨by rw [hO.dig z h1, hO.dig y hy, h2], h2⟩
    have hz : z = y := by
      obtain ⟨i, hi⟩ := List.getElem?_of_mem h1
      obtain ⟨j, hj⟩ := List.getElem?_of_mem hy
      obtain ⟨hil, hi'⟩ := List.getElem?_eq_some_iff.1 hi
      obtain ⟨hjl, hj'⟩ := List.getElem?_eq_some_iff.1 hj
      have hp := List.pairwise_iff_getElem.1 hO.sorted
      rcases Nat.lt_trichotomy i j with h | h | h
      · have := hp i j hil hjl h; rw [hi', hj'] at this; omega
      · subst h; rw [← hi', hj']
      · have := hp j i hjl hil h; rw [hi', hj'] at this; have := cmpIt_neg y z; omega
    rw [hz]
    rfl
theorem wmI_len (K : List UInt8) : ∀ (i d : Nat) (m : List It), (wmI K i d m).length ≤ m.length
  | 0, _, _ => Nat.le_refl _
  | i + 1, d, m => Nat.le_trans (wmI_len K i (d + 1) _) (List.length_filter_le _ _)
theorem getI_some {m : List It} {key : List UInt8} : (getI m key).isSome = m.any fun y => decide (y.k = key) := by
  unfold getI
  rw [Option.isSome_map, List.isSome_find?]
theorem Shape_ok (n : Int) (ps : List PR) (pv kv : Value) (key : List UInt8) (w : World) (hW : WordsAt w 0) (hp : PairsAt w pv ps) (hk : SlB w kv key) :
    CallK Tryz.prog 4 [.int .i64 n, pv, kv].toArray w fun v w' => v = .bool true ∧ Ext w w' := by
  obtain ⟨pa, pc, rfl⟩ := slv_of hp.1
  obtain ⟨ka, kc, rfl⟩ := slv_of hk
  refine enterT Tryz.func4 rfl Tryz.ntmps4 Tryz.results4 rfl (by decide) ?_
  repeat (first | exact trivial | refine stp ?_ | refine ldCg ?_ | refine ldNg ?_ | refine ldSg ?_ | refine ldSb ?_ | refine bnd ?_ | refine bnd1 ?_ | refine drawQ (by decide +kernel) mixed (by decide +kernel) ?_)
  refine (awake14_ok w hW).mono ?_
  rintro _ w1 ⟨rfl, hE1⟩
  have hz1 := hE1.size
  repeat (first | exact trivial | refine stp ?_ | refine ldCg ?_ | refine ldNg ?_ | refine ldSg ?_ | refine ldSb ?_ | refine bnd ?_ | refine bnd1 ?_ | refine drawQ (by decide +kernel) mixed (by decide +kernel) ?_)
  refine ⟨fun h200 => ?_, fun h200 => ?_⟩
  · repeat (first | exact trivial | refine stp ?_ | refine ldCg ?_ | refine ldNg ?_ | refine ldSg ?_ | refine ldSb ?_ | refine bnd ?_ | refine bnd1 ?_ | refine drawQ (by decide +kernel) mixed (by decide +kernel) ?_)
    exact Ext.go
  refine (Width_ok n w1).mono ?_
  rintro _ w2 ⟨rfl, hE2⟩
  have hz2 := hE2.size
  rw [widthB]
  cases hw : widB n
  · repeat (first | exact trivial | refine stp ?_ | refine ldCg ?_ | refine ldNg ?_ | refine ldSg ?_ | refine ldSb ?_ | refine bnd ?_ | refine bnd1 ?_ | refine drawQ (by decide +kernel) mixed (by decide +kernel) ?_)
    exact Ext.go
  have hwn := (widB_iff n).1 hw
  obtain ⟨nn, rfl⟩ : ∃ nn : Nat, n = nn := ⟨n.toNat, by omega⟩
  repeat (first | exact trivial | refine stp ?_ | refine ldCg ?_ | refine ldNg ?_ | refine ldSg ?_ | refine ldSb ?_ | refine bnd ?_ | refine bnd1 ?_ | refine drawQ (by decide +kernel) mixed (by decide +kernel) ?_)
  refine ⟨fun h64 => ?_, fun h64 => ?_⟩
  · repeat (first | exact trivial | refine stp ?_ | refine ldCg ?_ | refine ldNg ?_ | refine ldSg ?_ | refine ldSb ?_ | refine bnd ?_ | refine bnd1 ?_ | refine drawQ (by decide +kernel) mixed (by decide +kernel) ?_)
    exact Ext.go
  repeat (first | exact trivial | refine stp ?_ | refine ldCg ?_ | refine ldNg ?_ | refine ldSg ?_ | refine ldSb ?_ | refine bnd ?_ | refine bnd1 ?_ | refine drawQ (by decide +kernel) mixed (by decide +kernel) ?_)
  refine (grown_ok nn ps _ w2 (hW.ext .go) (hp.ext .go) (by omega) hw).mono ?_
  rintro mv w3 ⟨hM3, hE3⟩
  have hz3 := hE3.size
  obtain ⟨b3, rfl⟩ : ∃ b, mv = .pointer (some ⟨b, 0, none⟩) := by obtain ⟨b, _, rfl, _⟩ := hM3; exact ⟨b, rfl⟩
  have hO := grownI_ok nn (ps.map PR.dat)
  have hml := grownI_len nn (ps.map PR.dat)
  rw [List.length_map] at hml
  generalize grownI nn (ps.map PR.dat) = m at *
  repeat (first | exact trivial | refine stp ?_ | refine ldCg ?_ | refine ldNg ?_ | refine ldSg ?_ | refine ldSb ?_ | refine bnd ?_ | refine bnd1 ?_ | refine drawQ (by decide +kernel) mixed (by decide +kernel) ?_)
  refine (Walk_hamt_ok nn hw _ _ _ m key w3 (hW.ext .go) hM3 hO (hk.ext .go) (by omega)).mono ?_
  rintro _ w4 ⟨sv, qv, tt, qs, rfl, hOs, hRK, hOq, hRB, htt, hqq, hE4⟩
  have hz4 := hE4.size
  rw [if_neg (by omega)] at htt hqq
  rw [if_neg (by omega)]
  have hKl := keyD_len nn key
  obtain ⟨hst, hend, hsg⟩ := walk_spec hw (keyD nn key) 64 0 m hO hO.pre rfl
  have hL : (walkI nn (keyD nn key) 64 0 m).1.length = tt.length := by rw [← htt, List.length_map]
  rw [hL] at hend hsg
  rw [hend] at hqq
  rw [hL, ← htt] at hst
  have htk : ∀ i (s : SR), tt[i]? = some s → s.ks = kidsI nn (64 - 1 - i) i (wmI (keyD nn key) i 0 m) ∧ singleB (wmI (keyD nn key) i 0 m) = false := by
    intro i s hi
    obtain ⟨h1, h2⟩ := hst i (List.getElem?_eq_some_iff.1 hi).1
    rw [List.getElem?_map, hi, Nat.zero_add] at h1
    exact ⟨congrArg Prod.snd (Option.some.inj h1), h2⟩
  have htl : tt.length ≤ 2 * nn := by
    by_cases h0 : tt.length = 0
    · omega
    · obtain ⟨_, h2⟩ := htk (tt.length - 1) _ (List.getElem?_eq_getElem (by omega))
      obtain ⟨a1, a2⟩ := wmI_ok (n := nn) (keyD nn key) (tt.length - 1) 0 hO hO.pre
      have := br_depth h2 a2 (a1.form hw)
      omega
  obtain ⟨hOE, hPE⟩ := wmI_ok (n := nn) (keyD nn key) tt.length 0 hO hO.pre
  have hEm : ∀ y, y ∈ wmI (keyD nn key) tt.length 0 m ↔ y ∈ m ∧ ∀ j, j < tt.length → digP y.D (0 + j) = digP (keyD nn key) (0 + j) := fun y => wmI_sub _ _ _
  have hEg := getI_wm hO key tt.length
  have hlast : ∀ s, tt[tt.length - 1]? = some s → 0 < tt.length → wmI (keyD nn key) tt.length 0 m ≠ [] → s.ks.length ≠ 1 := by
    intro s hs h0 hne h1
    obtain ⟨h2, h3⟩ := htk _ s hs
    have h4 := wmI_step (keyD nn key) (tt.length - 1) 0 m
    rw [show tt.length - 1 + 1 = tt.length from by omega, Nat.zero_add] at h4
    rw [h4] at hne hsg
    rw [h2] at h1
    rw [kids_one h3 h1 _ hne] at hsg
    cases hsg
  have hSt := hRK.stepsAt hOs
  have hPr : PairsAt w4 qv qs := ⟨SlC.of_own hOq, fun q hq => ⟨(hRB.mem (q.kv, q.k) (List.mem_flatMap.2 ⟨q, hq, by simp [prB]⟩)).sl, (hRB.mem (q.vv, q.v) (List.mem_flatMap.2 ⟨q, hq, by simp [prB]⟩)).sl⟩⟩
  obtain ⟨sa, sc, rfl⟩ := own_slice hOs
  obtain ⟨qa, qc, rfl⟩ := own_slice hOq
  have hql : qs.length = (wmI (keyD nn key) tt.length 0 m).length := by have := congrArg List.length hqq; simpa using this
  have hElen := wmI_len (keyD nn key) tt.length 0 m
  generalize hE : wmI (keyD nn key) tt.length 0 m = E at *
  repeat (first | exact trivial | refine stp ?_ | refine ldCg ?_ | refine ldNg ?_ | refine ldSg ?_ | refine ldSb ?_ | refine bnd ?_ | refine bnd1 ?_ | refine drawQ (by decide +kernel) mixed (by decide +kernel) ?_)
  refine (RKeyD_ok nn (by omega) (by omega) key _ w4 (hk.ext .go) (by omega)).mono ?_
  rintro _ w5 ⟨rfl, hE5⟩
  have hz5 := hE5.size
  repeat (first | exact trivial | refine stp ?_ | refine ldCg ?_ | refine ldNg ?_ | refine ldSg ?_ | refine ldSb ?_ | refine bnd ?_ | refine bnd1 ?_ | refine drawQ (by decide +kernel) mixed (by decide +kernel) ?_)
  first | refine newS ?_ | refine newZ ?_
  intro w6 hE6 hz6 hB6
  repeat (first | exact trivial | refine stq ?_ | refine ldCg ?_ | refine ldNg ?_ | refine ldSg ?_ | refine ldSb ?_ | refine bnd ?_ | refine bnd1 ?_)
  rw [v_seq]
  repeat (first | exact trivial | refine stq ?_ | refine ldCg ?_ | refine ldNg ?_ | refine ldSg ?_ | refine ldSb ?_ | refine bnd ?_ | refine bnd1 ?_)
  rw [v_seq]
  repeat (first | exact trivial | refine stq ?_ | refine ldCg ?_ | refine ldNg ?_ | refine ldSg ?_ | refine ldSb ?_ | refine bnd ?_ | refine bnd1 ?_)
  rw [v_seq]
  refine joinX (κ := Unit) (fun _ => [(0, .int .i64 nn), (2, .slice ka key.length kc), (7, .pointer (some ⟨b3, 0, none⟩)), (8, .slice sa tt.length sc), (9, .slice qa qs.length qc), (11, .pointer (some ⟨w5.heap.size, 0, none⟩))]) (fun _ W => Ext w6 W) ?_ ?_
  · repeat (first | exact trivial | refine stp ?_ | refine ldCg ?_ | refine ldNg ?_ | refine ldSg ?_ | refine ldSb ?_ | refine bnd ?_ | refine bnd1 ?_ | refine drawQ (by decide +kernel) mixed (by decide +kernel) ?_)
    refine ⟨fun h1 => ⟨fun h2 => ?_, fun h2 => ?_⟩, fun h1 => ?_⟩
    · obtain ⟨b, o, rfl, hR⟩ := hSt.1.row (f := SR.cells) (sz := 2) (fun _ _ => rfl) (by decide) (by omega)
      obtain ⟨s, hs⟩ : ∃ s, tt[tt.length - 1]? = some s := ⟨_, List.getElem?_eq_getElem (by omega)⟩
      have hl1 := hlast s hs (by omega) (fun h => by rw [h, List.length_nil] at hql; omega)
      obtain ⟨ga, gc, hg⟩ := slv_of (hSt.2 s (List.mem_of_getElem? hs)).2.2
      repeat (first | exact trivial | refine stp ?_ | refine ldCg ?_ | refine ldNg ?_ | refine ldSg ?_ | refine ldSb ?_ | refine bnd ?_ | refine bnd1 ?_ | refine drawQ (by decide +kernel) mixed (by decide +kernel) ?_)
      rw [w64 (by omega) (by omega)]
      repeat (first | exact trivial | refine stp ?_ | refine ldCg ?_ | refine ldNg ?_ | refine ldSg ?_ | refine ldSb ?_ | refine bnd ?_ | refine bnd1 ?_ | refine drawQ (by decide +kernel) mixed (by decide +kernel) ?_)
      refine ldRowF (f := SR.cells) 1 hs ?_ (hv := by unfold SR.cells; rw [hg]; rfl)
      repeat (first | exact trivial | refine stp ?_ | refine ldCg ?_ | refine ldNg ?_ | refine ldSg ?_ | refine ldSb ?_ | refine bnd ?_ | refine bnd1 ?_ | refine drawQ (by decide +kernel) mixed (by decide +kernel) ?_)
      intro _
      exact ⟨(), .go⟩
    · repeat (first | exact trivial | refine stp ?_ | refine ldCg ?_ | refine ldNg ?_ | refine ldSg ?_ | refine ldSb ?_ | refine bnd ?_ | refine bnd1 ?_ | refine drawQ (by decide +kernel) mixed (by decide +kernel) ?_)
      exact ⟨(), .go⟩
    · repeat (first | exact trivial | refine stp ?_ | refine ldCg ?_ | refine ldNg ?_ | refine ldSg ?_ | refine ldSb ?_ | refine bnd ?_ | refine bnd1 ?_ | refine drawQ (by decide +kernel) mixed (by decide +kernel) ?_)
      exact ⟨(), .go⟩
  · rintro _ s7 w7 hE7
    have hz7 := hE7.size
    repeat (first | exact trivial | refine stp ?_ | refine ldCg ?_ | refine ldNg ?_ | refine ldSg ?_ | refine ldSb ?_ | refine bnd ?_ | refine bnd1 ?_ | refine drawQ (by decide +kernel) mixed (by decide +kernel) ?_)
    refine loopX (ι := Nat) (fun i => [(0, .int .i64 nn), (2, .slice ka key.length kc), (7, .pointer (some ⟨b3, 0, none⟩)), (8, .slice sa tt.length sc), (9, .slice qa qs.length qc), (11, .pointer (some ⟨w5.heap.size, 0, none⟩)), (74, .slice qa qs.length qc), (75, .int .i64 qs.length), (76, .int .i64 i)])
      (fun i W => Ext w7 W ∧ i ≤ qs.length) (fun i => qs.length - i) 0 ⟨.go, Nat.zero_le _⟩ ?_ ?_
    · repeat (first | exact trivial | refine stp ?_ | refine ldCg ?_ | refine ldNg ?_ | refine ldSg ?_ | refine ldSb ?_ | refine bnd ?_ | refine bnd1 ?_ | refine drawQ (by decide +kernel) mixed (by decide +kernel) ?_)
    · rintro i s8 w8 ⟨hE8, hi⟩
      have hz8 := hE8.size
      repeat (first | exact trivial | refine stp ?_ | refine ldCg ?_ | refine ldNg ?_ | refine ldSg ?_ | refine ldSb ?_ | refine bnd ?_ | refine bnd1 ?_ | refine drawQ (by decide +kernel) mixed (by decide +kernel) ?_)
      refine ⟨fun hlt => ?_, fun hge => ?_⟩
      · obtain ⟨b, o, rfl, hR⟩ := pr_row hPr.1 (by omega)
        obtain ⟨q, hx⟩ : ∃ x, qs[i]? = some x := ⟨_, List.getElem?_eq_getElem (by omega)⟩
        obtain ⟨q0, hx0⟩ : ∃ x, qs[0]? = some x := ⟨_, List.getElem?_eq_getElem (by omega)⟩
        obtain ⟨y, hy, hyk, hyv⟩ : ∃ y, E[i]? = some y ∧ q.k = y.k ∧ q.v = y.v := by
          have h1 := congrArg (·[i]?) hqq
          simp only [List.getElem?_map, hx, Option.map_some] at h1
          cases hy : E[i]? with
          | none => rw [hy] at h1; simp at h1
          | some y => rw [hy] at h1; simp only [Option.map_some, Option.some.injEq, PR.dat, It.pr, Prod.mk.injEq] at h1; exact ⟨y, rfl, h1.1, h1.2⟩
        obtain ⟨y0, hy0, hyk0, hyv0⟩ : ∃ y, E[0]? = some y ∧ q0.k = y.k ∧ q0.v = y.v := by
          have h1 := congrArg (·[0]?) hqq
          simp only [List.getElem?_map, hx0, Option.map_some] at h1
          cases hy : E[0]? with
          | none => rw [hy] at h1; simp at h1
          | some y => rw [hy] at h1; simp only [Option.map_some, Option.some.injEq, PR.dat, It.pr, Prod.mk.injEq] at h1; exact ⟨y, rfl, h1.1, h1.2⟩
        have hym := List.mem_of_getElem? hy
        have hyD := hOE.dig y hym
        have hyD0 := hOE.dig y0 (List.mem_of_getElem? hy0)
        have hDD := singleB_iff.1 hsg y hym y0 (List.mem_of_getElem? hy0)
        have hsh := hOE.short y hym
        have hsh0 := hOE.short y0 (List.mem_of_getElem? hy0)
        obtain ⟨hqk, hqv⟩ := hPr.2 q (List.mem_of_getElem? hx)
        obtain ⟨hqk0, hqv0⟩ := hPr.2 q0 (List.mem_of_getElem? hx0)
        obtain ⟨ka1, kc1, hke⟩ := slv_of hqk
        obtain ⟨va1, vc1, hve⟩ := slv_of hqv
        obtain ⟨ka0, kc0, hke0⟩ := slv_of hqk0
        repeat (first | exact trivial | refine stp ?_ | refine ldCg ?_ | refine ldNg ?_ | refine ldSg ?_ | refine ldSb ?_ | refine bnd ?_ | refine bnd1 ?_ | refine drawQ (by decide +kernel) mixed (by decide +kernel) ?_)
        refine ldPair hx ?_
        rw [hke, hve]
        rw [hke] at hqk
        rw [hve] at hqv
        rw [hke0] at hqk0
        repeat (first | exact trivial | refine stp ?_ | refine ldCg ?_ | refine ldNg ?_ | refine ldSg ?_ | refine ldSb ?_ | refine bnd ?_ | refine bnd1 ?_ | refine drawQ (by decide +kernel) mixed (by decide +kernel) ?_)
        first | refine newS ?_ | refine newZ ?_
        intro w9 hE9 hz9 hB9
        repeat (first | exact trivial | refine stp ?_ | refine ldCg ?_ | refine ldNg ?_ | refine ldSg ?_ | refine ldSb ?_ | refine bnd ?_ | refine bnd1 ?_ | refine drawQ (by decide +kernel) mixed (by decide +kernel) ?_)
        refine (RKeyD_ok nn (by omega) (by omega) q.k _ w9 (hqk.ext .go) (by rw [hyk]; omega)).mono ?_
        rintro _ w10 ⟨rfl, hE10⟩
        have hz10 := hE10.size
        have hkl9 := keyD_len nn q.k
        repeat (first | exact trivial | refine stp ?_ | refine ldCg ?_ | refine ldNg ?_ | refine ldSg ?_ | refine ldSb ?_ | refine bnd ?_ | refine bnd1 ?_ | refine drawQ (by decide +kernel) mixed (by decide +kernel) ?_)
        first | refine newS ?_ | refine newZ ?_
        intro w11 hE11 hz11 hB11
        repeat (first | exact trivial | refine stq ?_ | refine ldCg ?_ | refine ldNg ?_ | refine ldSg ?_ | refine ldSb ?_ | refine bnd ?_ | refine bnd1 ?_)
        rw [v_seq]
        have hkk : keyD nn q.k = keyD nn q0.k := by rw [hyk, hyk0, ← hyD, ← hyD0, hDD]
        refine joinX (κ := Unit) (fun _ => [(0, .int .i64 nn), (2, .slice ka key.length kc), (7, .pointer (some ⟨b3, 0, none⟩)), (8, .slice sa tt.length sc), (9, .slice (some ⟨b, o, none⟩) qs.length qc), (11, .pointer (some ⟨w5.heap.size, 0, none⟩)), (13, .pointer (some ⟨w8.heap.size, 0, none⟩)), (14, .pointer (some ⟨w10.heap.size, 0, none⟩)), (74, .slice (some ⟨b, o, none⟩) qs.length qc), (75, .int .i64 qs.length), (76, .int .i64 i)]) (fun _ W => Ext w11 W) ?_ ?_
        · repeat (first | exact trivial | refine stp ?_ | refine ldCg ?_ | refine ldNg ?_ | refine ldSg ?_ | refine ldSb ?_ | refine bnd ?_ | refine bnd1 ?_ | refine drawQ (by decide +kernel) mixed (by decide +kernel) ?_)
          refine ldRowF (f := PR.cells) 0 hx0 ?_
          rw [hke0]
          repeat (first | exact trivial | refine stp ?_ | refine ldCg ?_ | refine ldNg ?_ | refine ldSg ?_ | refine ldSb ?_ | refine bnd ?_ | refine bnd1 ?_ | refine drawQ (by decide +kernel) mixed (by decide +kernel) ?_)
          refine qcall _ (fun w' hw' => RKeyD_ok nn (by omega) (by omega) q0.k _ w' (hqk0.ext .go) (by rw [hyk0]; omega)) ?_
          repeat (first | exact trivial | refine stp ?_ | refine ldCg ?_ | refine ldNg ?_ | refine ldSg ?_ | refine ldSb ?_ | refine bnd ?_ | refine bnd1 ?_ | refine drawQ (by decide +kernel) mixed (by decide +kernel) ?_)
          refine eqd_lit _ _ _ _ _ _ Tryz.underlying5 c5 hkl9 (keyD_len _ _) ?_
          rw [decide_eq_true hkk]
          repeat (first | exact trivial | refine stp ?_ | refine ldCg ?_ | refine ldNg ?_ | refine ldSg ?_ | refine ldSb ?_ | refine bnd ?_ | refine bnd1 ?_ | refine drawQ (by decide +kernel) mixed (by decide +kernel) ?_)
          refine ⟨fun hi0 => ?_, fun hi0 => ?_⟩
          · obtain ⟨q', hx'⟩ : ∃ x, qs[i - 1]? = some x := ⟨_, List.getElem?_eq_getElem (by omega)⟩
            obtain ⟨hqk', hqv'⟩ := hPr.2 q' (List.mem_of_getElem? hx')
            obtain ⟨ka', kc', hke'⟩ := slv_of hqk'
            rw [w64 (by omega) (by omega)]
            refine ⟨by omega, by omega, ?_⟩
            refine ldRowF (f := PR.cells) 0 hx' ?_
            rw [hke'] at hqk' ⊢
            repeat (first | exact trivial | refine stp ?_ | refine ldCg ?_ | refine ldNg ?_ | refine ldSg ?_ | refine ldSb ?_ | refine bnd ?_ | refine bnd1 ?_ | refine drawQ (by decide +kernel) mixed (by decide +kernel) ?_)
            refine convSQ (hqk'.ext .go) ?_
            repeat (first | exact trivial | refine stp ?_ | refine ldCg ?_ | refine ldNg ?_ | refine ldSg ?_ | refine ldSb ?_ | refine bnd ?_ | refine bnd1 ?_ | refine drawQ (by decide +kernel) mixed (by decide +kernel) ?_)
            refine convSQ (hqk.ext .go) ?_
            repeat (first | exact trivial | refine stp ?_ | refine ldCg ?_ | refine ldNg ?_ | refine ldSg ?_ | refine ldSb ?_ | refine bnd ?_ | refine bnd1 ?_ | refine drawQ (by decide +kernel) mixed (by decide +kernel) ?_)
            refine geS ?_
            repeat (first | exact trivial | refine stp ?_ | refine ldCg ?_ | refine ldNg ?_ | refine ldSg ?_ | refine ldSb ?_ | refine bnd ?_ | refine bnd1 ?_ | refine drawQ (by decide +kernel) mixed (by decide +kernel) ?_)
            have hps := pairs_sorted hqq (sorted_keys hOE.sorted (singleB_iff.1 hsg))
            have hlt' : Lib.compareBytes q'.k q.k < 0 := by
              obtain ⟨j1, j2⟩ := List.getElem?_eq_some_iff.1 hx'
              obtain ⟨j3, j4⟩ := List.getElem?_eq_some_iff.1 hx
              have := List.pairwise_iff_getElem.1 hps (i - 1) i j1 j3 (by omega)
              rwa [j2, j4] at this
            intro w' hE'
            exact ⟨fun h => absurd hlt' h, fun _ => ⟨(), hE'⟩⟩
          · repeat (first | exact trivial | refine stp ?_ | refine ldCg ?_ | refine ldNg ?_ | refine ldSg ?_ | refine ldSb ?_ | refine bnd ?_ | refine bnd1 ?_ | refine drawQ (by decide +kernel) mixed (by decide +kernel) ?_)
            intro w' hE'
            exact ⟨(), hE'⟩
        · rintro _ s12 w12 hE12
          have hz12 := hE12.size
          repeat (first | exact trivial | refine stp ?_ | refine ldCg ?_ | refine ldNg ?_ | refine ldSg ?_ | refine ldSb ?_ | refine bnd ?_ | refine bnd1 ?_ | refine drawQ (by decide +kernel) mixed (by decide +kernel) ?_)
          refine loopX (ι := Nat) (fun j => [(0, .int .i64 nn), (2, .slice ka key.length kc), (7, .pointer (some ⟨b3, 0, none⟩)), (8, .slice sa tt.length sc), (9, .slice (some ⟨b, o, none⟩) qs.length qc), (11, .pointer (some ⟨w5.heap.size, 0, none⟩)), (13, .pointer (some ⟨w8.heap.size, 0, none⟩)), (14, .pointer (some ⟨w10.heap.size, 0, none⟩)), (74, .slice (some ⟨b, o, none⟩) qs.length qc), (75, .int .i64 qs.length), (76, .int .i64 i), (15, .int .i64 j)])
            (fun j W => Ext w12 W ∧ j ≤ tt.length) (fun j => tt.length - j) 0 ⟨.go, Nat.zero_le _⟩ ?_ ?_
          · repeat (first | exact trivial | refine stp ?_ | refine ldCg ?_ | refine ldNg ?_ | refine ldSg ?_ | refine ldSb ?_ | refine bnd ?_ | refine bnd1 ?_ | refine drawQ (by decide +kernel) mixed (by decide +kernel) ?_)
          · rintro j s13 w13 ⟨hE13, hj⟩
            have hz13 := hE13.size
            repeat (first | exact trivial | refine stp ?_ | refine ldCg ?_ | refine ldNg ?_ | refine ldSg ?_ | refine ldSb ?_ | refine bnd ?_ | refine bnd1 ?_ | refine drawQ (by decide +kernel) mixed (by decide +kernel) ?_)
            refine ⟨fun hjlt => ?_, fun hjge => ?_⟩
            · have hdg : digP (keyD nn q.k) j = digP (keyD nn key) j := by
                have := ((hEm y).1 hym).2 j (by omega)
                rw [Nat.zero_add] at this
                rw [hyk, ← hyD, this]
              repeat (first | exact trivial | refine stp ?_ | refine ldCg ?_ | refine ldNg ?_ | refine ldSg ?_ | refine ldSb ?_ | refine bnd ?_ | refine bnd1 ?_ | refine drawQ (by decide +kernel) mixed (by decide +kernel) ?_)
              refine qcall _ (fun w' hw' => DigitR_ok (keyD nn q.k) hkl9 j (by omega) w') ?_
              repeat (first | exact trivial | refine stp ?_ | refine ldCg ?_ | refine ldNg ?_ | refine ldSg ?_ | refine ldSb ?_ | refine bnd ?_ | refine bnd1 ?_ | refine drawQ (by decide +kernel) mixed (by decide +kernel) ?_)
              refine qcall _ (fun w' hw' => DigitR_ok (keyD nn key) hKl j (by omega) w') ?_
              rw [hdg]
              repeat (first | exact trivial | refine stp ?_ | refine ldCg ?_ | refine ldNg ?_ | refine ldSg ?_ | refine ldSb ?_ | refine bnd ?_ | refine bnd1 ?_ | refine drawQ (by decide +kernel) mixed (by decide +kernel) ?_)
              intro w14 hE14
              repeat (first | exact trivial | refine stp ?_ | refine ldCg ?_ | refine ldNg ?_ | refine ldSg ?_ | refine ldSb ?_ | refine bnd ?_ | refine bnd1 ?_ | refine drawQ (by decide +kernel) mixed (by decide +kernel) ?_)
              exact ⟨j + 1, ⟨.go, by omega⟩, by rw [w64 (by omega) (by omega)]; rfl, by omega⟩
            · repeat (first | exact trivial | refine stp ?_ | refine ldCg ?_ | refine ldNg ?_ | refine ldSg ?_ | refine ldSb ?_ | refine bnd ?_ | refine bnd1 ?_ | refine drawQ (by decide +kernel) mixed (by decide +kernel) ?_)
              refine (Get_hamt_ok nn hw _ _ _ m q.k w13 (hW.ext .go) (hM3.ext .go) hO (hqk.ext .go) (by omega)).mono ?_
              rintro _ w14 ⟨v14, rfl, hR14, hE14⟩
              have hz14 := hE14.size
              have hgm : getI m q.k = some q.v := by rw [hyk, hyv]; exact getI_mem hO ((hEm y).1 hym).1
              rw [hgm, if_neg (by rw [hyk]; omega)] at hR14
              rw [hgm, if_neg (by rw [hyk]; omega), decide_eq_true (show q.k.length ≤ 64 by rw [hyk]; omega), show (true && (some q.v).isSome) = true from rfl]
              have hS14 := hR14.sl
              obtain ⟨a14, c14, rfl⟩ := own_slice hR14.own
              repeat (first | exact trivial | refine stp ?_ | refine ldCg ?_ | refine ldNg ?_ | refine ldSg ?_ | refine ldSb ?_ | refine bnd ?_ | refine bnd1 ?_ | refine drawQ (by decide +kernel) mixed (by decide +kernel) ?_)
              refine (Same_ok q.v q.v _ _ w14 (hS14) (hqv.ext .go)).mono ?_
              rintro _ w15 ⟨rfl, hE15⟩
              have hz15 := hE15.size
              rw [decide_eq_true (rfl : q.v = q.v)]
              repeat (first | exact trivial | refine stp ?_ | refine ldCg ?_ | refine ldNg ?_ | refine ldSg ?_ | refine ldSb ?_ | refine bnd ?_ | refine bnd1 ?_ | refine drawQ (by decide +kernel) mixed (by decide +kernel) ?_)
              exact ⟨i + 1, ⟨.go, by omega⟩, by rw [w64 (by omega) (by omega)]; rfl, by omega⟩
      · repeat (first | exact trivial | refine stp ?_ | refine ldCg ?_ | refine ldNg ?_ | refine ldSg ?_ | refine ldSb ?_ | refine bnd ?_ | refine bnd1 ?_ | refine drawQ (by decide +kernel) mixed (by decide +kernel) ?_)
        refine (Get_hamt_ok nn hw _ _ _ m key w8 (hW.ext .go) (hM3.ext .go) hO (hk.ext .go) (by omega)).mono ?_
        rintro _ w9 ⟨v9, rfl, hR9, hE9⟩
        have hz9 := hE9.size
        rw [if_neg (by omega), decide_eq_true (show key.length ≤ 64 by omega), Bool.true_and]
        have hany : (getI m key).isSome = qs.any fun q => decide (q.k = key) := by
          rw [← hEg, getI_some]
          have h1 : ∀ l : List It, (l.any fun y => decide (y.k = key)) = (l.map It.pr).any fun p => decide (p.1 = key) := fun l => by rw [List.any_map]; rfl
          rw [h1, ← hqq, List.any_map]
          rfl
        repeat (first | exact trivial | refine stp ?_ | refine ldCg ?_ | refine ldNg ?_ | refine ldSg ?_ | refine ldSb ?_ | refine bnd ?_ | refine bnd1 ?_ | refine drawQ (by decide +kernel) mixed (by decide +kernel) ?_)
        refine loopX (ι := Nat) (fun j => [(2, .slice ka key.length kc), (20, .bool (getI m key).isSome), (22, .bool ((qs.take j).any fun q => decide (q.k = key))), (152, .slice qa qs.length qc), (153, .int .i64 qs.length), (154, .int .i64 j)])
          (fun j W => Ext w9 W ∧ j ≤ qs.length) (fun j => qs.length - j) 0 ⟨.go, Nat.zero_le _⟩ ?_ ?_
        · repeat (first | exact trivial | refine stp ?_ | refine ldCg ?_ | refine ldNg ?_ | refine ldSg ?_ | refine ldSb ?_ | refine bnd ?_ | refine bnd1 ?_ | refine drawQ (by decide +kernel) mixed (by decide +kernel) ?_)
          rfl
        · rintro j s10 w10 ⟨hE10, hj⟩
          have hz10 := hE10.size
          repeat (first | exact trivial | refine stp ?_ | refine ldCg ?_ | refine ldNg ?_ | refine ldSg ?_ | refine ldSb ?_ | refine bnd ?_ | refine bnd1 ?_ | refine drawQ (by decide +kernel) mixed (by decide +kernel) ?_)
          refine ⟨fun hjlt => ?_, fun hjge => ?_⟩
          · obtain ⟨b, o, rfl, hR⟩ := pr_row hPr.1 (by omega)
            obtain ⟨q, hx⟩ : ∃ x, qs[j]? = some x := ⟨_, List.getElem?_eq_getElem (by omega)⟩
            obtain ⟨hqk, hqv⟩ := hPr.2 q (List.mem_of_getElem? hx)
            obtain ⟨ka1, kc1, hke⟩ := slv_of hqk
            obtain ⟨va1, vc1, hve⟩ := slv_of hqv
            have htk1 : (qs.take (j + 1)).any (fun q => decide (q.k = key)) = ((qs.take j).any (fun q => decide (q.k = key)) || decide (q.k = key)) := by
              obtain ⟨h1, h2⟩ := List.getElem?_eq_some_iff.1 hx
              rw [List.take_succ_eq_append_getElem h1, h2, List.any_append]
              simp
            repeat (first | exact trivial | refine stp ?_ | refine ldCg ?_ | refine ldNg ?_ | refine ldSg ?_ | refine ldSb ?_ | refine bnd ?_ | refine bnd1 ?_ | refine drawQ (by decide +kernel) mixed (by decide +kernel) ?_)
            refine ldPair hx ?_
            rw [hke, hve]
            rw [hke] at hqk
            rw [hve] at hqv
            repeat (first | exact trivial | refine stp ?_ | refine ldCg ?_ | refine ldNg ?_ | refine ldSg ?_ | refine ldSb ?_ | refine bnd ?_ | refine bnd1 ?_ | refine drawQ (by decide +kernel) mixed (by decide +kernel) ?_)
            first | refine newS ?_ | refine newZ ?_
            intro w11 hE11 hz11 hB11
            cases hfd : (qs.take j).any fun q => decide (q.k = key)
            · repeat (first | exact trivial | refine stp ?_ | refine ldCg ?_ | refine ldNg ?_ | refine ldSg ?_ | refine ldSb ?_ | refine bnd ?_ | refine bnd1 ?_ | refine drawQ (by decide +kernel) mixed (by decide +kernel) ?_)
              refine (Same_ok q.k key _ _ w11 (hqk.ext .go) (hk.ext .go)).mono ?_
              rintro _ w12 ⟨rfl, hE12⟩
              have hz12 := hE12.size
              repeat (first | exact trivial | refine stp ?_ | refine ldCg ?_ | refine ldNg ?_ | refine ldSg ?_ | refine ldSb ?_ | refine bnd ?_ | refine bnd1 ?_ | refine drawQ (by decide +kernel) mixed (by decide +kernel) ?_)
              exact ⟨j + 1, ⟨.go, by omega⟩, ⟨by rw [htk1, hfd, Bool.false_or], by rw [w64 (by omega) (by omega)]; rfl⟩, by omega⟩
            · repeat (first | exact trivial | refine stp ?_ | refine ldCg ?_ | refine ldNg ?_ | refine ldSg ?_ | refine ldSb ?_ | refine bnd ?_ | refine bnd1 ?_ | refine drawQ (by decide +kernel) mixed (by decide +kernel) ?_)
              exact ⟨j + 1, ⟨.go, by omega⟩, ⟨by rw [htk1, hfd, Bool.true_or], by rw [w64 (by omega) (by omega)]; rfl⟩, by omega⟩
          · obtain rfl : j = qs.length := by omega
            rw [List.take_length, ← hany]
            repeat (first | exact trivial | refine stp ?_ | refine ldCg ?_ | refine ldNg ?_ | refine ldSg ?_ | refine ldSb ?_ | refine bnd ?_ | refine bnd1 ?_ | refine drawQ (by decide +kernel) mixed (by decide +kernel) ?_)
            exact Ext.go
end Go.Proofs.YtieaoldoiahgpaaGreatDoor

/-! Row -/
namespace Go.Proofs.YtieaoldoiahgpaaGreatDoor
set_option maxRecDepth 100000
open Go Go.RowKit Go.ChangeShapes Go.WideShapes Go.ChangeAt
set_option linter.unusedVariables false
set_option linter.unusedSimpArgs false

/-- Each of the types can be read and is a row of the table. -/
def rowedT (P : Program) (ts : List TypeId) : Bool := ts.all fun t => P.readableRec t && decide (t < P.types.size)

theorem below_trodAll {H : Type} {enc : TypeId × Value → H} {P : Program} (hl : laidOutB P = true) {W W' : World} (hb : Below W.heap.size W W') :
    ∀ {ts : List TypeId} {vs : List Value} {ds : List (DataW H)} {ps : List MemPlace}, rowedT P ts = true → DataW.TrodAll enc P W 0 (fun _ => true) true ts vs ds ps → (∀ x ∈ ps, x.block < W.heap.size) → DataW.TrodAll enc P W' 0 (fun b => decide (b < W.heap.size)) true ts vs ds ps
  | [], [], [], _, _, h, _ => h
  | [], _ :: _, _, _, _, h, _ => by simp [DataW.TrodAll] at h
  | [], [], _ :: _, _, _, h, _ => by simp [DataW.TrodAll] at h
  | _ :: _, [], _, _, _, h, _ => by simp [DataW.TrodAll] at h
  | _ :: _, _ :: _, [], _, _, h, _ => by simp [DataW.TrodAll] at h
  | t :: ts, v :: vs, d :: ds, ps, hr, h, hlt => by
    obtain ⟨p, q, h1, h2, rfl⟩ := h
    simp only [rowedT, List.all_cons, Bool.and_eq_true, decide_eq_true_eq] at hr
    refine ⟨p, q, Below.trod hl hr.1.1 hr.1.2 h1 hb (fun x hx => hlt x (by simp [hx])), below_trodAll hl hb (by simpa [rowedT] using hr.2) h2 (fun x hx => hlt x (by simp [hx])), rfl⟩

/-- What a law's row asks of the end, given what the walk says: true, and nothing old has turned. -/
theorem law_post {H : Type} {enc : TypeId × Value → H} {P : Program} (hl : laidOutB P = true) {f : Func} {s : ChangeSpec} {tb : TypeId} (hr : f.resultTypes = #[tb]) (hb : P.underlying tb = some .bool)
    (hp : rowedT P f.params.toList = true) (hv : s.vars = []) {W W' : World} {args : Array Value} {ds gs : List (DataW H)} {before : List MemPlace}
    (hW : DataW.Whole enc P f.params.toList s.vars false W args.toList ds gs before)
    (hfn : (s.fn H (ds ++ gs)).results = [.lit (.bool true)] ∧ (s.fn H (ds ++ gs)).args = ds ∧ (s.fn H (ds ++ gs)).vars = gs) (hE : Ext W W') :
    s.post enc P f false true false false W args (.bool true) W' := by
  have hW' := hW
  obtain ⟨p, q, hA, hV, rfl, hfz, hnd⟩ := hW
  refine ⟨ds, gs, p ++ q, [], p, q, hW', ?_, ?_, ?_, hE.frame _, fun h => by cases h⟩
  · rw [hfn.1, hr]
    exact trodAll_cons_mk (shut_bool hb _) trodAll_mk0
  · rw [hfn.2.1]
    exact below_trodAll hl hE hp hA (fun x hx => by simpa using hW'.lt x (by simp [hx]))
  · rw [hfn.2.2]
    rw [hv] at hV ⊢
    obtain ⟨rfl, rfl⟩ := trodVars_none hV
    rfl

theorem CallK.toCalls {P : Program} {f : FuncId} {args : Array Value} {w : World} (h : CallK P f args w fun v w' => v = .bool true ∧ Ext w w') (hb : callable P f = true) : Calls P f args w fun e w' => e = .returned (.bool true) ∧ Ext w w' :=
  (h.body hb).calls.mono fun e w' ⟨v, he, hv, hE⟩ => ⟨by rw [he, hv], hE⟩

/-! ### Arguments opened -/
theorem wf_bounds {k : IntKind} {n : Int} (h : (Lit.int k n).wf = true) : k.min ≤ n ∧ n ≤ k.max := by
  simpa [Lit.wf] using h
theorem cells_u8 {H : Type} {enc : TypeId × Value → H} {P : Program} {w : World} {base : Nat} {sp : Nat → Bool} {held : Bool} {fuel e : Nat} {c : List Value} {x : DataW H × List MemPlace} (he : P.underlying e = some (.int .u8))
    (h : DataW.trod enc P w base sp held fuel e c = some x) : ∃ b : UInt8, c = [vb b] := by
  obtain ⟨n, h1, hx, hw⟩ := DataW.trod_int he h
  have hb := wf_bounds hw
  simp [IntKind.min, IntKind.max, IntKind.signed, IntKind.bits] at hb
  refine ⟨UInt8.ofNat n.toNat, ?_⟩
  rw [h1]
  simp only [vb, UInt8.toNat_ofNat', List.cons.injEq, and_true]
  rw [Nat.mod_eq_of_lt (by omega), Int.toNat_of_nonneg hb.1]

theorem open_num {H : Type} {enc : TypeId × Value → H} {P : Program} {w : World} {base b0 : Nat} {r : Reach} {sp : Nat → Bool} {held : Bool} {t : Nat} {k : IntKind} {v : Value} {d : DataW H} {ps : List MemPlace} (ht : P.underlying t = some (.int k))
    (hval : Value.okWide P w r b0 t v) (hd : DataW.Trod enc P w base sp held t v d ps) : ∃ n : Int, v = .int k n ∧ k.min ≤ n ∧ n ≤ k.max := by
  obtain ⟨n, rfl, _, _, h⟩ := open_int ht hval hd
  exact ⟨n, rfl, wf_bounds h⟩

theorem list_of {α : Type} {p : Nat → α → Prop} : ∀ n, (∀ i, i < n → ∃ x, p i x) → ∃ l : List α, l.length = n ∧ ∀ i x, l[i]? = some x → p i x
  | 0, _ => ⟨[], rfl, by simp⟩
  | n + 1, h => by
    obtain ⟨l, hl, hp⟩ := list_of n (fun i hi => h i (by omega))
    obtain ⟨x, hx⟩ := h n (by omega)
    refine ⟨l ++ [x], by simp [hl], fun i y hy => ?_⟩
    by_cases hi : i < n
    · rw [List.getElem?_append_left (by omega)] at hy; exact hp i y hy
    · rw [List.getElem?_append_right (by omega)] at hy
      have : i - l.length = 0 := by
        rcases Nat.eq_zero_or_pos (i - l.length) with h0 | h0
        · exact h0
        · rw [List.getElem?_eq_none (by simp; omega)] at hy; cases hy
      have e : i = n := by omega
      rw [this] at hy
      simp at hy
      rw [e, ← hy]; exact hx
theorem flat_inv {α : Type} {f : α → List Value} {sz : Nat} (hz : 0 < sz) : ∀ (ds : List α) (j : Nat) (u : Value), (∀ d ∈ ds, (f d).length = sz) → (ds.flatMap f)[j]? = some u → ∃ d, ds[j / sz]? = some d ∧ (f d)[j % sz]? = some u
  | [], j, u, _, h => by simp at h
  | x :: ds, j, u, hs, h => by
    have hx : (f x).length = sz := hs x (by simp)
    simp only [List.flatMap_cons] at h
    by_cases hj : j < sz
    · rw [List.getElem?_append_left (by omega)] at h
      exact ⟨x, by rw [Nat.div_eq_of_lt hj]; rfl, by rw [Nat.mod_eq_of_lt hj]; exact h⟩
    · rw [List.getElem?_append_right (by omega), hx] at h
      obtain ⟨d, h1, h2⟩ := flat_inv hz ds (j - sz) u (fun d hd => hs d (by simp [hd])) h
      refine ⟨d, ?_, ?_⟩
      · rw [Nat.div_eq_sub_div hz (by omega)]; exact h1
      · rw [show j % sz = (j - sz) % sz from by rw [Nat.mod_eq_sub_mod (by omega)]]; exact h2

end Go.Proofs.YtieaoldoiahgpaaGreatDoor

/-! RowU -/
namespace Go.Proofs.YtieaoldoiahgpaaGreatDoor
set_option maxRecDepth 100000
open Go Go.RowKit Go.ChangeShapes Go.WideShapes Go.ChangeAt
set_option linter.unusedVariables false
set_option linter.unusedSimpArgs false

/-! ### Bulk -/
theorem bulk_one {H : Type} (d : DataW H) : 1 ≤ Rows.uptoBulk d := by
  cases d with
  | lit l => cases l <;> simp [Rows.uptoBulk]
  | nil => simp [Rows.uptoBulk]
  | ptr d => simp [Rows.uptoBulk]
  | slice elems spare => simp [Rows.uptoBulk]
  | agg parts => simp [Rows.uptoBulk]
  | iface t d => simp [Rows.uptoBulk]
  | map entries => simp [Rows.uptoBulk]
  | held h => simp [Rows.uptoBulk]
theorem bulk_mem {H : Type} {d : DataW H} {l : List (DataW H)} (h : d ∈ l) : Rows.uptoBulk d ≤ Rows.uptoBulkAll l := by
  induction l with
  | nil => cases h
  | cons x r ih =>
    simp only [Rows.uptoBulkAll]
    cases List.mem_cons.1 h with
    | inl e => subst e; omega
    | inr e => have := ih e; omega
theorem bulk_len {H : Type} (l : List (DataW H)) : l.length ≤ Rows.uptoBulkAll l := by
  induction l with
  | nil => simp [Rows.uptoBulkAll]
  | cons x r ih => have := bulk_one x; simp only [Rows.uptoBulkAll, List.length_cons]; omega
theorem bulk_agg {H : Type} {d : DataW H} {l : List (DataW H)} (h : d ∈ l) : Rows.uptoBulk d ≤ Rows.uptoBulk (.agg l) := by
  have := bulk_mem h
  simp only [Rows.uptoBulk]
  omega
/-! ### Lists opened, wherever they lie -/
section opened
variable {H : Type} {enc : TypeId × Value → H} {w : World} {sp : Nat → Bool} {fuel : Nat} {cs : List Value} {x : DataW H × List MemPlace}
theorem open_slb {α : Type} {f : α → List Value} {q : Nat → α → Prop} {P : Program} {t e sz : Nat} (ht : P.underlying t = some (.slice e)) (hsz : P.cellsOf e = sz) (hz : 0 < sz) (hq : ∀ m n a, m ≤ n → q m a → q n a)
    (hel : ∀ n cs x, DataW.trod enc P w 0 sp true n e cs = some x → ∃ a, f a = cs ∧ q (Rows.uptoBulk x.1) a) (hf : DataW.trod enc P w 0 sp true fuel t cs = some x) :
    ∃ (v : Value) (l : List α), cs = [v] ∧ (∀ a ∈ l, (f a).length = sz) ∧ SlC w v l.length (l.flatMap f) ∧ l.length ≤ Rows.uptoBulk x.1 ∧ ∀ a ∈ l, q (Rows.uptoBulk x.1) a := by
  rcases Go.Deep.open_slice ht hf with ⟨h1, h2⟩ | ⟨a, len, cap, m, n, D, Pl, h1, hb, hlc, hcm, hmm, hx, hall⟩
  · exact ⟨_, [], h1, by simp, ⟨none, 0, rfl, Nat.le_refl _, by decide, Or.inl rfl⟩, by simp, by simp⟩
  · have hlm : len ≤ m := by rw [hmm]; split <;> omega
    have hcm' : cap ≤ 9223372036854775807 := by simpa [maxLen] using hcm
    have hD : ∀ i, i < len → Rows.uptoBulk (D i) ≤ Rows.uptoBulk x.1 := by
      intro i hi
      rw [hx]
      simp only [Rows.uptoBulk]
      have := bulk_mem (d := D i) (l := (List.range len).map D) (List.mem_map.2 ⟨i, by simpa using hi, rfl⟩)
      omega
    have hlen : len ≤ Rows.uptoBulk x.1 := by
      rw [hx]
      simp only [Rows.uptoBulk]
      have := bulk_len ((List.range len).map D)
      simp at this
      omega
    by_cases h0 : len = 0
    · subst h0
      exact ⟨_, [], h1, by simp, ⟨_, cap, rfl, Nat.zero_le _, hcm', Or.inl rfl⟩, by simp, by simp⟩
    · obtain ⟨b, o, s⟩ := a
      have hspot : s = none := by
        obtain ⟨cs', hc, _⟩ := hall 0 (by omega)
        obtain ⟨_, hlen', hcell⟩ := World.cells?_some hc
        have h3 := hcell 0 (by omega)
        rw [hsz] at h3 hlen'
        cases s with
        | none => rfl
        | some s =>
          exfalso
          have h4 : w.cell? ⟨b, o, some s⟩ = cs'[0]? := by
            have : ((⟨b, o, some s⟩ : Addr).add (0 * sz)).add 0 = ⟨b, o, some s⟩ := by simp [Addr.add]
            rw [← this]
            exact h3
          rw [List.getElem?_eq_getElem (by omega)] at h4
          simp only [World.cell?] at h4
          split at h4 <;> simp at h4
      subst hspot
      obtain ⟨l, hl, hp⟩ := list_of (p := fun i (y : α) => (f y).length = sz ∧ (∀ k u, (f y)[k]? = some u → w.cell? ⟨b, o + (i * sz + k), none⟩ = some u) ∧ q (Rows.uptoBulk x.1) y) len (fun i hi => by
        obtain ⟨cs', hc, ht2⟩ := hall i (by omega)
        obtain ⟨y, rfl, hqy⟩ := hel _ _ _ ht2
        obtain ⟨_, hlen', hcell⟩ := World.cells?_some hc
        rw [hsz] at hlen' hcell
        refine ⟨y, hlen', fun k u hk => ?_, hq _ _ _ (hD i hi) hqy⟩
        have hk' : k < sz := by rw [← hlen']; exact (List.getElem?_eq_some_iff.1 hk).1
        have h5 := hcell k hk'
        rw [addr_add, addr_add, hk] at h5
        rwa [Nat.add_assoc] at h5)
      subst h1
      refine ⟨_, l, rfl, fun y hy => ?_, ⟨_, cap, by rw [hl], by omega, hcm', Or.inr ⟨b, o, rfl, fun j u hj => ?_⟩⟩, by omega, fun y hy => ?_⟩
      · obtain ⟨i, hi⟩ := List.getElem?_of_mem hy
        exact (hp i y hi).1
      · obtain ⟨y, h1, h2⟩ := flat_inv hz l j u (fun y hy => by obtain ⟨i, hi⟩ := List.getElem?_of_mem hy; exact (hp i y hi).1) hj
        have := (hp _ y h1).2.1 _ u h2
        rwa [show j / sz * sz + j % sz = j from by rw [Nat.mul_comm]; exact Nat.div_add_mod j sz] at this
      · obtain ⟨i, hi⟩ := List.getElem?_of_mem hy
        exact (hp i y hi).2.2
theorem vb_flat (l : List UInt8) : l.flatMap (fun b => [vb b]) = vbs l := by
  induction l with
  | nil => rfl
  | cons a l ih => simp only [List.flatMap_cons, ih]; rfl
theorem in_bytes (hf : DataW.trod enc Tryz.prog w 0 sp true fuel 23 cs = some x) : ∃ v xs, cs = [v] ∧ SlB w v xs ∧ xs.length ≤ Rows.uptoBulk x.1 := by
  obtain ⟨v, l, h1, _, h3, h4, _⟩ := open_slb (f := fun b => [vb b]) (q := fun _ _ => True) Tryz.underlying23 c5 (by decide) (fun _ _ _ _ h => h) (fun m cs x h => by obtain ⟨y, rfl⟩ := cells_u8 Tryz.underlying5 h; exact ⟨y, rfl, trivial⟩) hf
  rw [vb_flat] at h3
  exact ⟨v, l, h1, h3, h4⟩
theorem in_pair (hf : DataW.trod enc Tryz.prog w 0 sp true fuel 48 cs = some x) : ∃ p : PR, p.cells = cs ∧ SlB w p.kv p.k ∧ SlB w p.vv p.v ∧ p.k.length ≤ Rows.uptoBulk x.1 ∧ p.v.length ≤ Rows.uptoBulk x.1 := by
  obtain ⟨y0, y1, n, rfl, hl, h0, h1⟩ := trod_struct2 Tryz.underlying48 hf
  rw [c48] at hl
  simp only [c23] at h0 h1
  obtain ⟨u, xs, e0, hu, hb0⟩ := in_bytes h0
  obtain ⟨v, ys, e1, hv, hb1⟩ := in_bytes h1
  refine ⟨⟨u, v, xs, ys⟩, ?_, hu, hv, Nat.le_trans hb0 (bulk_agg (by simp)), Nat.le_trans hb1 (bulk_agg (by simp))⟩
  match cs, hl with
  | [a, b], _ =>
    simp at e0 e1
    simp only [PR.cells, e0, e1]
theorem in_pairs (hf : DataW.trod enc Tryz.prog w 0 sp true fuel 22 cs = some x) : ∃ v ps, cs = [v] ∧ PairsAt w v ps ∧ ps.length ≤ Rows.uptoBulk x.1 ∧ ∀ p ∈ ps, p.k.length ≤ Rows.uptoBulk x.1 ∧ p.v.length ≤ Rows.uptoBulk x.1 := by
  obtain ⟨v, l, h1, h2, h3, h4, h5⟩ := open_slb (f := PR.cells) (q := fun m p => SlB w p.kv p.k ∧ SlB w p.vv p.v ∧ p.k.length ≤ m ∧ p.v.length ≤ m) Tryz.underlying22 c48 (by decide) (fun m n a h g => ⟨g.1, g.2.1, Nat.le_trans g.2.2.1 h, Nat.le_trans g.2.2.2 h⟩) (fun m cs x h => by obtain ⟨s, e, g⟩ := in_pair h; exact ⟨s, e, g⟩) hf
  exact ⟨v, l, h1, ⟨h3, fun s hs => ⟨(h5 s hs).1, (h5 s hs).2.1⟩⟩, h4, fun s hs => (h5 s hs).2.2⟩

end opened

end Go.Proofs.YtieaoldoiahgpaaGreatDoor

/-! RowW -/
namespace Go.Proofs.YtieaoldoiahgpaaGreatDoor
set_option maxRecDepth 100000
open Go Go.RowKit Go.ChangeShapes Go.WideShapes Go.ChangeAt
set_option linter.unusedVariables false
set_option linter.unusedSimpArgs false

section opened
variable {H : Type} {enc : TypeId × Value → H} {w : World} {sp : Nat → Bool} {r : Reach} {b0 : Nat} {v : Value} {d : DataW H} {p : List MemPlace}
theorem open_bsb (hval : Value.okWide Tryz.prog w r b0 23 v) (hd : DataW.Trod enc Tryz.prog w 0 sp true 23 v d p) : ∃ xs, SlB w v xs ∧ xs.length ≤ Rows.uptoBulk d := by
  obtain ⟨a0, len0, cap0, rfl⟩ := okWide_slice Tryz.underlying23 hval
  obtain ⟨fuel, hf⟩ := hd
  obtain ⟨u, xs, h1, h2, h3⟩ := in_bytes hf
  simp [Value.cells] at h1
  subst h1
  exact ⟨xs, h2, h3⟩
theorem open_prs (hval : Value.okWide Tryz.prog w r b0 22 v) (hd : DataW.Trod enc Tryz.prog w 0 sp true 22 v d p) : ∃ ps, PairsAt w v ps ∧ ps.length ≤ Rows.uptoBulk d ∧ ∀ q ∈ ps, q.k.length ≤ Rows.uptoBulk d ∧ q.v.length ≤ Rows.uptoBulk d := by
  obtain ⟨a0, len0, cap0, rfl⟩ := okWide_slice Tryz.underlying22 hval
  obtain ⟨fuel, hf⟩ := hd
  obtain ⟨u, ps, h1, h2, h3⟩ := in_pairs hf
  simp [Value.cells] at h1
  subst h1
  exact ⟨ps, h2, h3⟩
end opened

/-! ### The table -/
theorem gTab : Tryz.prog.globalNamed "notary/sha.words" = some 0 := by kernel_rfl
theorem gTabType : (Tryz.prog.globals[0]?).map (·.type) = some 187 := by kernel_rfl
theorem tab_eq {H : Type} : (Rows.laid_notary_sha_words : DataW H) = Lib.tabData .u32 (KW.map fun x => (x.toNat : Int)) := by kernel_rfl
theorem words_of {W : World} (h : laidMetH Tryz.prog [("notary/sha.words", Rows.laid_notary_sha_words)] W) : WordsAt W 0 := by
  have h' : laidMetH Tryz.prog [("notary/sha.words", Lib.tabData .u32 (KW.map fun x => (x.toNat : Int)))] W := by
    rw [← tab_eq]
    exact h
  have ht := Lib.tabIs_of_head (rest := []) gTab gTabType Tryz.underlying187 Tryz.underlying169 c169 c187 h'
  intro j hj
  have hc := ht.cell gTab j (by rw [List.length_map]; exact hj)
  rw [hc]
  have hl : j < KW.length := hj
  simp only [vw, List.getD_eq_getElem?_getD, List.getElem?_map, List.getElem?_eq_getElem hl, Option.map_some, Option.getD_some]

end Go.Proofs.YtieaoldoiahgpaaGreatDoor
