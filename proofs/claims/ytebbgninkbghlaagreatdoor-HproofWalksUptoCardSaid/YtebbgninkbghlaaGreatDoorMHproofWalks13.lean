/-
  Package hproof: Prove. Conditions: as stated in each theorem. Package notaryref15: Prove, DocProve, Same, DocSize; package hproof: Size. Conditions: as stated in each theorem. Package notaryref14: Delete. Conditions: as stated in each theorem. Conversions of strings and bytes. Conditions: as stated in each theorem. Package notarylaw15: made, wide, awake. Conditions: as stated in each theorem. Lists of byte lists. Conditions: as stated in each theorem. HproofWalks: the walk. Conditions: as stated in each theorem. The frame of the rows: a law's row out of its walk, whatever its parameters; digests and numbers opened. Conditions: none; plain lemmas. The frame of rows that list the table and bound the bulk: questions (structs with lists of structs) opened, with their sizes; the table out of the row's list. Conditions: none; plain lemmas. The frame of rows: parameters opened; the table of SHA-256. Conditions: none; plain lemmas.
-/
import Derived.Test.YtebbgninkbghlaaGreatDoorMHproofWalks12
import Derived.Test.YtebbgninkbghlaaGreatDoorMHproofWalks11
import Derived.Lib.ConvBytes
import Derived.Laws.IdiomStrings
import Derived.Test.YtebbgninkbghlaaGreatDoorMHproofWalks10
import Derived.Test.YtebbgninkbghlaaGreatDoorMHproofWalks7
import Derived.Deep.Slices
import Derived.Lib.LaidTab
import Derived.Lib.SmallJoins
import Derived.Test.YtebbgninkbghlaaGreatDoorMHproofWalks8
/-! Hpr -/
namespace Go.Proofs.YtebbgninkbghlaaGreatDoor
set_option maxRecDepth 100000
open Go Go.RowKit
set_option linter.unusedVariables false
set_option linter.unusedSimpArgs false
set_option maxHeartbeats 1000000
attribute [local irreducible] vcT opsT qT vcOp Q1 vcPure vcLoad vcStore ldC ldN ldD grdT grdQ vc vcOps vcQ hT
attribute [local irreducible] sumR sumP shaP keyD bucketP branchP

theorem Own.rebase {w : World} {b b' e s n : Nat} {v : Value} {xs : List Value} (h : Own w b e s v n xs) (hb : ∀ g, v.ownBlock = some g → b' ≤ g) : Own w b' e s v n xs := by
  refine ⟨h.1, ?_⟩
  rcases h.2 with hn | ⟨g, cap, cur, rfl, _, rest⟩
  · exact .inl hn
  · exact .inr ⟨g, cap, cur, rfl, hb g rfl, rest⟩
theorem cutS_upto {K : List UInt8} {L M : List (Nat × List (List UInt8))} {i : Nat} {bm : Nat} {ks : List (List UInt8)} (h : M = cutS K 0 (L.take i) ++ L.drop i) (hx : M[i]? = some (bm, ks)) : L[i]? = some (bm, ks) ∧ M.set i (bm, cutK bm (digP K i) ks) = cutS K 0 (L.take (i + 1)) ++ L.drop (i + 1) := by
  have hl : (cutS K 0 (L.take i)).length = min i L.length := by rw [cutS_len, List.length_take]
  have hil : i < L.length := by
    have := (List.getElem?_eq_some_iff.1 hx).1
    rw [h, List.length_append, hl, List.length_drop] at this
    omega
  have hi : (cutS K 0 (L.take i)).length = i := by rw [hl]; omega
  have h1 : L[i]? = some (bm, ks) := by
    rw [h, List.getElem?_append_right (by omega), hi, Nat.sub_self, List.getElem?_drop, Nat.add_zero] at hx
    exact hx
  refine ⟨h1, ?_⟩
  obtain ⟨_, he⟩ := List.getElem?_eq_some_iff.1 h1
  rw [h, List.set_append_right _ _ (by omega), hi, Nat.sub_self, List.take_succ_eq_append_getElem hil, cutS_snoc, he, List.length_take, Nat.zero_add, Nat.min_eq_left (by omega), ← List.getElem_cons_drop hil, he]
  simp

theorem RunK.lt {w : World} {hi : Nat} : ∀ {l : List SR} {lo : Nat}, RunK w hi lo l → ∀ t ∈ l, ∀ g, t.kv.ownBlock = some g → g < hi
  | [], lo, _, p, hp => by cases hp
  | t :: r, lo, h, p, hp => by
    obtain ⟨mid, h1, h2, h3⟩ := h
    rcases List.mem_cons.1 hp with rfl | hp
    · exact fun g hg => Nat.lt_of_lt_of_le (h2.2.2.2 g hg) h3.le
    · exact RunK.lt h3 p hp
theorem set_same {α : Type} {l : List α} {i : Nat} {x : α} (h : l[i]? = some x) : l.set i x = l := by
  obtain ⟨hl, rfl⟩ := List.getElem?_eq_some_iff.1 h
  exact List.set_getElem_self hl
theorem set_split {α : Type} {l : List α} {i : Nat} {x y : α} (h : l[i]? = some x) : l = l.take i ++ x :: l.drop (i + 1) ∧ l.set i y = l.take i ++ y :: l.drop (i + 1) := by
  obtain ⟨hl, rfl⟩ := List.getElem?_eq_some_iff.1 h
  refine ⟨by rw [List.getElem_cons_drop, List.take_append_drop], ?_⟩
  rw [List.set_eq_take_append_cons_drop, if_pos hl]
theorem atP_err {m : Nat} {k : List UInt8} (hm : 1 ≤ m) (hm2 : m ≤ 32) (hk : k.length = 32) (hf : formB m k = true) {i : Nat} (hi : i < 2 * m) : (atP m k i).2 = 0 := by
  have hz := formB_zero hk hf
  have hc : chkP m [k] = 0 := by
    unfold chkP
    rw [if_neg (by omega), if_pos]
    intro d hd
    obtain rfl : d = k := by simpa using hd
    simpa using hz
  unfold atP
  rw [if_neg (by omega), if_pos hc]

theorem Prove_hproof_ok (n : Int) (hw : widB n = true) (S : Nat → Prop) (mv kv : Value) (m : List It) (key : List UInt8) (w : World) (hW : WordsAt w 1) (h : MapAt n S w mv m) (hO : OkI n m) (hk : SlB w kv key) (hml : m.length ≤ 1000000000) :
    CallK Tryz.prog 28 [mv, kv].toArray w fun r w' => ∃ (sv pv : Value) (tt : List SR) (qs : List PR), r = .tuple [.agg [sv, pv].toArray, .int .i64 (if 64 < key.length then 2 else 0 : Nat)].toArray ∧
      Own w' w.heap.size 51 2 sv tt.length (tt.flatMap SR.cells) ∧ RunK w' w'.heap.size w.heap.size tt ∧ Own w' w.heap.size 47 2 pv qs.length (qs.flatMap PR.cells) ∧ RunB w' w'.heap.size w.heap.size (qs.flatMap prB) ∧
      tt.map SR.dt = (if 64 < key.length then [] else cutS (keyD n key) 0 (walkI n (keyD n key) 64 0 m).1) ∧ qs.map PR.dat = (if 64 < key.length then [] else (walkI n (keyD n key) 64 0 m).2.map It.pr) ∧ Ext w w' := by
  have hwn := (widB_iff n).1 hw
  obtain ⟨nn, rfl⟩ : ∃ nn : Nat, n = nn := ⟨n.toNat, by omega⟩
  obtain ⟨ka, kc, rfl⟩ := slv_of hk
  refine enterT Tryz.func28 rfl Tryz.ntmps28 Tryz.results28 rfl (by decide) ?_
  repeat (first | exact trivial | refine stp ?_ | refine ldCg ?_ | refine ldNg ?_ | refine ldSg ?_ | refine ldSb ?_ | refine bnd ?_ | refine bnd1 ?_ | refine drawQ (by decide +kernel) mixed (by decide +kernel) ?_)
  first | refine newS ?_ | refine newZ ?_
  intro w1 hE1 hz1 hB1
  repeat (first | exact trivial | refine stp ?_ | refine ldCg ?_ | refine ldNg ?_ | refine ldSg ?_ | refine ldSb ?_ | refine bnd ?_ | refine bnd1 ?_ | refine drawQ (by decide +kernel) mixed (by decide +kernel) ?_)
  have hKl := keyD_len nn key
  refine ⟨fun h64 => ?_, fun h64 => ?_⟩
  · refine bldC [.slice none 0 0, .slice none 0 0] (by kernel_rfl) ?_
    repeat (first | exact trivial | refine stp ?_ | refine ldCg ?_ | refine ldNg ?_ | refine ldSg ?_ | refine ldSb ?_ | refine bnd ?_ | refine bnd1 ?_ | refine drawQ (by decide +kernel) mixed (by decide +kernel) ?_)
    refine stW ?_
    intro w2 hP2 hz2 hB2
    repeat (first | exact trivial | refine stp ?_ | refine ldCg ?_ | refine ldNg ?_ | refine ldSg ?_ | refine ldSb ?_ | refine bnd ?_ | refine bnd1 ?_ | refine drawQ (by decide +kernel) mixed (by decide +kernel) ?_)
    exact ⟨.slice none 0 0, .slice none 0 0, [], [], by rw [if_pos (by omega)]; rfl, Own.nil _ _ _ _, by show w.heap.size ≤ w2.heap.size; omega, Own.nil _ _ _ _, by show w.heap.size ≤ w2.heap.size; omega, by rw [if_pos (by omega)]; rfl, by rw [if_pos (by omega)]; rfl, .go⟩
  have h64' : ¬ 64 < key.length := by omega
  repeat (first | exact trivial | refine stp ?_ | refine ldCg ?_ | refine ldNg ?_ | refine ldSg ?_ | refine ldSb ?_ | refine bnd ?_ | refine bnd1 ?_ | refine drawQ (by decide +kernel) mixed (by decide +kernel) ?_)
  refine (Walk_hamt_ok nn hw S mv _ m key w1 (hW.ext .go) (h.ext .go) hO (hk.ext .go) hml).mono ?_
  rintro _ w2 ⟨sv, pv, tt, qs, rfl, hOs, hRk, hOp, hRb, htd, hqd, hE2⟩
  have hz2 := hE2.size
  rw [if_neg h64'] at htd hqd ⊢
  generalize hLe : (walkI nn (keyD nn key) 64 0 m).1 = L at *
  have hL : tt.length = L.length := by rw [← htd, List.length_map]
  obtain ⟨sa, sc, rfl⟩ := own_slice hOs
  obtain ⟨pa, pc, rfl⟩ := own_slice hOp
  obtain ⟨hst, hend, hsg⟩ := walk_spec hw (keyD nn key) 64 0 m hO hO.pre rfl
  rw [hLe] at hst
  simp only [Nat.zero_add] at hst
  have hf : formB nn (keyD nn key) = true := by unfold keyD; exact form_sumR nn _ hw
  have hL32 : L.length ≤ 2 * nn := by
    rcases Nat.eq_zero_or_pos L.length with h0 | h0
    · omega
    · obtain ⟨_, hs2⟩ := hst (L.length - 1) (by omega)
      obtain ⟨hOd, hPd⟩ := wmI_ok (n := nn) (keyD nn key) (L.length - 1) 0 hO hO.pre
      rw [Nat.zero_add] at hPd
      have := br_depth hs2 hPd (hOd.form hw)
      omega
  repeat (first | exact trivial | refine stp ?_ | refine ldCg ?_ | refine ldNg ?_ | refine ldSg ?_ | refine ldSb ?_ | refine bnd ?_ | refine bnd1 ?_ | refine drawQ (by decide +kernel) mixed (by decide +kernel) ?_)
  refine (Width_hamt_ok nn S mv m w2 (h.ext .go)).mono ?_
  rintro _ w3 ⟨rfl, hE3⟩
  have hz3 := hE3.size
  repeat (first | exact trivial | refine stp ?_ | refine ldCg ?_ | refine ldNg ?_ | refine ldSg ?_ | refine ldSb ?_ | refine bnd ?_ | refine bnd1 ?_ | refine drawQ (by decide +kernel) mixed (by decide +kernel) ?_)
  refine (Key_ok nn key _ w3 (hW.ext .go) (hk.ext .go) (by omega)).mono ?_
  rintro _ w4 ⟨rfl, hE4⟩
  have hz4 := hE4.size
  have hkd : sumR nn (2 :: key) = keyD nn key := by unfold keyD; rfl
  have hse : sumE nn = 0 := by unfold sumE; rw [if_pos hw]
  rw [hkd, hse]
  repeat (first | exact trivial | refine stp ?_ | refine ldCg ?_ | refine ldNg ?_ | refine ldSg ?_ | refine ldSb ?_ | refine bnd ?_ | refine bnd1 ?_ | refine drawQ (by decide +kernel) mixed (by decide +kernel) ?_)
  first | refine newS ?_ | refine newZ ?_
  intro w5 hE5 hz5 hB5
  repeat (first | exact trivial | refine stp ?_ | refine ldCg ?_ | refine ldNg ?_ | refine ldSg ?_ | refine ldSb ?_ | refine bnd ?_ | refine bnd1 ?_ | refine drawQ (by decide +kernel) mixed (by decide +kernel) ?_)
  refine loopX (ι := Nat × List SR) (fun x => [(4, .pointer (some ⟨w.heap.size, 0, none⟩)), (6, .slice sa tt.length sc), (7, .slice pa qs.length pc), (9, .int .i64 nn), (10, .pointer (some ⟨w4.heap.size, 0, none⟩)), (43, .slice sa tt.length sc), (44, .int .i64 tt.length), (45, .int .i64 x.1)])
    (fun x W => Ext w1 W ∧ w5.heap.size ≤ W.heap.size ∧ x.1 ≤ L.length ∧ x.2.length = tt.length ∧ Own W w1.heap.size 51 2 (.slice sa tt.length sc) tt.length (x.2.flatMap SR.cells) ∧ RunK W w2.heap.size w1.heap.size x.2 ∧
      Own W w1.heap.size 47 2 (.slice pa qs.length pc) qs.length (qs.flatMap PR.cells) ∧ RunB W w2.heap.size w1.heap.size (qs.flatMap prB) ∧ Blk W w4.heap.size 28 (vbs (keyD nn key)) ∧ x.2.map SR.dt = cutS (keyD nn key) 0 (L.take x.1) ++ L.drop x.1) (fun x => L.length - x.1) (0, tt) ⟨.go, Nat.le_refl _, Nat.zero_le _, rfl, hOs.ext .go, (hRk.ext .go), hOp.ext .go, hRb.ext .go, hB5, by simpa [cutS] using htd⟩ ?_ ?_
  · repeat (first | exact trivial | refine stp ?_ | refine ldCg ?_ | refine ldNg ?_ | refine ldSg ?_ | refine ldSb ?_ | refine bnd ?_ | refine bnd1 ?_ | refine drawQ (by decide +kernel) mixed (by decide +kernel) ?_)
  · rintro ⟨i, ss⟩ s6 w6 ⟨hE6, hz6, hi, hsl, hO6, hR6, hP6, hRb6, hB6, hd6⟩
    simp only at hi hsl hO6 hR6 hd6
    repeat (first | exact trivial | refine stp ?_ | refine ldCg ?_ | refine ldNg ?_ | refine ldSg ?_ | refine ldSb ?_ | refine bnd ?_ | refine bnd1 ?_ | refine drawQ (by decide +kernel) mixed (by decide +kernel) ?_)
    refine ⟨fun hlt => ?_, fun hge => ?_⟩
    · obtain ⟨t, ht⟩ : ∃ x, ss[i]? = some x := ⟨_, List.getElem?_eq_getElem (by omega)⟩
      obtain ⟨hs1, hs2⟩ := hst i (by omega)
      obtain ⟨hOd, hPd⟩ := wmI_ok (n := nn) (keyD nn key) i 0 hO hO.pre
      rw [Nat.zero_add] at hPd
      have hat := atP_dig (m := nn) (by omega) (by omega) hKl hf (br_depth hs2 hPd (hOd.form hw))
      have hae := atP_err (m := nn) (by omega) (by omega) hKl hf (br_depth hs2 hPd (hOd.form hw))
      have hdg := digP_lt (keyD nn key) i
      obtain ⟨hbm, h32, hOk⟩ := hR6.mem t (List.mem_of_getElem? ht)
      obtain ⟨g, cap, rest, he, hgb, hBg, hnc, hcm, hrl⟩ := hO6.open (by omega)
      injection he with he1 _ he3
      subst he1 he3
      have hO6' : Own w6 w1.heap.size 51 2 (.slice (some ⟨g, 0, none⟩) tt.length sc) ss.length (ss.flatMap SR.cells) := by rw [hsl]; exact hO6
      obtain ⟨b', o', he, hRow⟩ := (SlC.of_own hO6').row (f := SR.cells) (sz := 2) (fun _ _ => rfl) (by decide) (by omega)
      injection he with he
      injection he with he1 he2
      subst he1 he2
      obtain ⟨kv, bm, ks⟩ := t
      simp only at hbm h32 hOk
      have hdt : (ss.map SR.dt)[i]? = some (bm, ks) := by rw [List.getElem?_map, ht]; rfl
      obtain ⟨hLi, hset⟩ := cutS_upto hd6 hdt
      have hkl : ks.length ≤ 16 := by
        rw [hs1] at hLi
        simp only [Option.some.injEq, Prod.mk.injEq] at hLi
        rw [← hLi.2, kidsI_len]
        exact cnt_le _
      obtain ⟨ka', kc', rfl⟩ := own_slice hOk
      repeat (first | exact trivial | refine stp ?_ | refine ldCg ?_ | refine ldNg ?_ | refine ldSg ?_ | refine ldSb ?_ | refine bnd ?_ | refine bnd1 ?_ | refine drawQ (by decide +kernel) mixed (by decide +kernel) ?_)
      refine (At_ok nn (keyD nn key) hKl i w6).mono ?_
      rintro _ w7 ⟨rfl, hE7⟩
      have hz7 := hE7.size
      rw [hat, hae]
      repeat (first | exact trivial | refine stp ?_ | refine ldCg ?_ | refine ldNg ?_ | refine ldSg ?_ | refine ldSb ?_ | refine bnd ?_ | refine bnd1 ?_ | refine drawQ (by decide +kernel) mixed (by decide +kernel) ?_)
      refine ldRowF (f := SR.cells) 0 ht ?_
      repeat (first | exact trivial | refine stp ?_ | refine ldCg ?_ | refine ldNg ?_ | refine ldSg ?_ | refine ldSb ?_ | refine bnd ?_ | refine bnd1 ?_ | refine drawQ (by decide +kernel) mixed (by decide +kernel) ?_)
      refine (Rank_ok bm hbm (digP (keyD nn key) i) w7).mono ?_
      rintro _ w8 ⟨rfl, hE8⟩
      have hz8 := hE8.size
      repeat (first | exact trivial | refine stp ?_ | refine ldCg ?_ | refine ldNg ?_ | refine ldSg ?_ | refine ldSb ?_ | refine bnd ?_ | refine bnd1 ?_ | refine drawQ (by decide +kernel) mixed (by decide +kernel) ?_)
      refine ldRowF (f := SR.cells) 0 ht ?_
      repeat (first | exact trivial | refine stp ?_ | refine ldCg ?_ | refine ldNg ?_ | refine ldSg ?_ | refine ldSb ?_ | refine bnd ?_ | refine bnd1 ?_ | refine drawQ (by decide +kernel) mixed (by decide +kernel) ?_)
      refine (Has_ok bm hbm (digP (keyD nn key) i) w8).mono ?_
      rintro _ w9 ⟨rfl, hE9⟩
      have hz9 := hE9.size
      by_cases hh : hasB bm (digP (keyD nn key) i : Int) = true
      · rw [hh]
        repeat (first | exact trivial | refine stp ?_ | refine ldCg ?_ | refine ldNg ?_ | refine ldSg ?_ | refine ldSb ?_ | refine bnd ?_ | refine bnd1 ?_ | refine drawQ (by decide +kernel) mixed (by decide +kernel) ?_)
        refine ldRowF (f := SR.cells) 1 ht ?_
        repeat (first | exact trivial | refine stp ?_ | refine ldCg ?_ | refine ldNg ?_ | refine ldSg ?_ | refine ldSb ?_ | refine bnd ?_ | refine bnd1 ?_ | refine drawQ (by decide +kernel) mixed (by decide +kernel) ?_)
        refine ⟨fun hlt2 => ?_, fun hge2 => ?_⟩
        · refine ldRowF (f := SR.cells) 1 ht ?_
          repeat (first | exact trivial | refine stp ?_ | refine ldCg ?_ | refine ldNg ?_ | refine ldSg ?_ | refine ldSb ?_ | refine bnd ?_ | refine bnd1 ?_ | refine drawQ (by decide +kernel) mixed (by decide +kernel) ?_)
          have hrk : rankB bm (digP (keyD nn key) i : Int) < ks.length := by omega
          generalize hre : rankB bm (digP (keyD nn key) i : Int) = r at *
          obtain ⟨hks1, _⟩ := set_split (y := ks[r]) (List.getElem?_eq_getElem hrk)
          have hkf : ks.flatMap vbs = (ks.take r).flatMap vbs ++ (vbs ks[r] ++ (ks.drop (r + 1)).flatMap vbs) := by
            conv => lhs; rw [hks1]
            rw [List.flatMap_append, List.flatMap_cons]
          have hcut : cutK bm (digP (keyD nn key) i) ks = ks.take r ++ ks.drop (r + 1) := by rw [cutK_has hh (by omega), hre]
          rw [w64 (by omega) (by omega), show ((r : Int) + 1) = ((r + 1 : Nat) : Int) from by omega]
          have hA := dvs_len (ks.take r) (fun d hd => h32 d (List.mem_of_mem_take hd))
          have hD := dvs_len (ks.drop (r + 1)) (fun d hd => h32 d (List.mem_of_mem_drop hd))
          rw [List.length_take, Nat.min_eq_left (by omega)] at hA
          rw [List.length_drop] at hD
          refine (DelD_ok ((ks.take r).flatMap vbs) (vbs ks[r]) ((ks.drop (r + 1)).flatMap vbs) r ks.length hA (by rw [vbs_len]; exact h32 _ (List.getElem_mem _)) (by rw [hD]; congr 1; omega) hrk (fun v hv => by obtain ⟨d, _, hd⟩ := List.mem_flatMap.1 hv; exact vbs_one _ _ hd) _ w1.heap.size w9 (by rw [← hkf]; exact hOk.ext .go) (by omega) (by omega)).mono ?_
          rintro v10 w10 ⟨hob, hO10, hE10, hOB⟩
          have hz10 := hE10.size
          obtain ⟨a10, c10, rfl⟩ := own_slice hO10
          have hn10 : ks.length - 1 = (cutK bm (digP (keyD nn key) i) ks).length := by rw [hcut, List.length_append, List.length_take, List.length_drop]; omega
          have hf10 : (ks.take r).flatMap vbs ++ (ks.drop (r + 1)).flatMap vbs = (cutK bm (digP (keyD nn key) i) ks).flatMap vbs := by rw [hcut, List.flatMap_append]
          rw [hn10, hf10] at hO10
          rw [hn10] at hob ⊢
          have hOk9 : Own w9 w1.heap.size 28 32 (.slice ka' ks.length kc') ks.length (ks.flatMap vbs) := hOk.ext .go
          have hBg9 : Blk w9 g 51 (ss.flatMap SR.cells ++ rest) := .go
          have hBg10 := hOB g _ _ (hOk9.not_blk hBg9 (by decide)) hBg9
          obtain ⟨hs3, hs4⟩ := set_split (y := (⟨.slice a10 (cutK bm (digP (keyD nn key) i) ks).length c10, bm, cutK bm (digP (keyD nn key) i) ks⟩ : SR)) ht
          generalize hkn : cutK bm (digP (keyD nn key) i) ks = kn at *
          have hcl : ((ss.take i).flatMap SR.cells).length = i * 2 := by
            have : ∀ l : List SR, (l.flatMap SR.cells).length = l.length * 2 := by
              intro l
              induction l with
              | nil => rfl
              | cons a l ih => rw [List.flatMap_cons, List.length_append, ih]; simp [SR.cells]; omega
            rw [this, List.length_take]
            omega
          have hcell : ss.flatMap SR.cells ++ rest = ((ss.take i).flatMap SR.cells ++ [.int .u16 bm]) ++ (.slice ka' ks.length kc' :: ((ss.drop (i + 1)).flatMap SR.cells ++ rest)) := by
            conv => lhs; rw [hs3]
            simp [SR.cells, List.flatMap_append, List.flatMap_cons, List.append_assoc]
          have hcell' : (ss.set i ⟨.slice a10 kn.length c10, bm, kn⟩).flatMap SR.cells ++ rest = ((ss.take i).flatMap SR.cells ++ [.int .u16 bm]) ++ (.slice a10 kn.length c10 :: ((ss.drop (i + 1)).flatMap SR.cells ++ rest)) := by
            rw [hs4]
            simp [SR.cells, List.flatMap_append, List.flatMap_cons, List.append_assoc]
          rw [hcell] at hBg10
          repeat (first | exact trivial | refine stp ?_ | refine ldCg ?_ | refine ldNg ?_ | refine ldSg ?_ | refine ldSb ?_ | refine bnd ?_ | refine bnd1 ?_ | refine drawQ (by decide +kernel) mixed (by decide +kernel) ?_)
          refine stAt (by decide +kernel) hBg10 (by rw [List.length_append, hcl]; rfl) rfl rfl (fun w11 hP11 => ?_)
          have hB11 := hP11.blk
          rw [← hcell'] at hB11
          have hz11 := hP11.size
          have hkb := hR6.lt _ (List.mem_of_getElem? ht)
          have hBd10 : Blk w10 w4.heap.size 28 (vbs (keyD nn key)) := hOB _ _ _ (fun he => by have := hkb _ he; omega) (.go (h := hB6))
          have hg4 : g ≠ w4.heap.size := fun he => by have h1 := hBg10.out; rw [he, hBd10.out, Option.some.injEq, Obj.cells.injEq] at h1; exact absurd h1.2 (by decide)
          have hE11 : Ext w1 w11 := .go
          have hset' : ss.set i ⟨.slice a10 kn.length c10, bm, kn⟩ = ss.take i ++ ⟨.slice a10 kn.length c10, bm, kn⟩ :: ss.drop (i + 1) := hs4
          repeat (first | exact trivial | refine stp ?_ | refine ldCg ?_ | refine ldNg ?_ | refine ldSg ?_ | refine ldSb ?_ | refine bnd ?_ | refine bnd1 ?_ | refine drawQ (by decide +kernel) mixed (by decide +kernel) ?_)
          refine ⟨(i + 1, ss.set i ⟨.slice a10 kn.length c10, bm, kn⟩), ⟨hE11, by omega, by simp only; omega, by simp only [List.length_set]; exact hsl, ?_, ?_, ?_, ?_, hP11.keep hBd10 (Ne.symm hg4), ?_⟩, by rw [w64 (by omega) (by omega)]; rfl, by simp only; omega⟩
          · have hxl : ((ss.set i ⟨.slice a10 kn.length c10, bm, kn⟩).flatMap SR.cells).length = tt.length * 2 := by
              have h1 := congrArg List.length hcell'
              have h2 := congrArg List.length hcell
              have h3 := hO6.1
              simp only [List.length_append, List.length_cons] at h1 h2
              omega
            refine own_mk (sz := 2) hB11 hgb hxl ?_ hnc hcm
            have h3 := hO6.1
            rw [List.length_append, h3] at hrl
            rw [Nat.sub_mul]
            omega
          · rw [hset']
            have hR9 : RunK w9 w2.heap.size w1.heap.size (ss.take i ++ ⟨.slice ka' ks.length kc', bm, ks⟩ :: ss.drop (i + 1)) := by rw [← hs3]; exact hR6.ext .go
            refine RunK.put hBg10 (by decide) hP11 (RunK.set (t := ⟨.slice ka' ks.length kc', bm, ks⟩) hOB hbm (fun d hd => h32 d (by rw [← hkn] at hd; exact cutK_mem d hd)) hob (by omega) (fun b hb => hO10.rebase fun g' hg' => hb.lo g' (by rw [← hob]; exact hg')) hR9)
          · exact ((hP6.ext (w' := w9) .go).onlyT hOk9 (by decide) hOB).put hBg10 (by decide) hP11
          · exact RunB.put hBg10 (by decide) hP11 (RunB.onlyT hOk9 (by decide) hOB (hRb6.ext (w' := w9) .go))
          · simp only
            rw [← hset, hset', List.map_append, List.map_cons]
            have hdt' : (ss.map SR.dt)[i]? = some (bm, ks) := hdt
            rw [(set_split (y := (bm, kn)) hdt').2, List.map_take, List.map_drop]
            rfl
        · repeat (first | exact trivial | refine stp ?_ | refine ldCg ?_ | refine ldNg ?_ | refine ldSg ?_ | refine ldSb ?_ | refine bnd ?_ | refine bnd1 ?_ | refine drawQ (by decide +kernel) mixed (by decide +kernel) ?_)
          refine ⟨(i + 1, ss), ⟨.go, by omega, by simp only; omega, hsl, hO6.ext .go, hR6.ext .go, hP6.ext .go, hRb6.ext .go, .go, ?_⟩, by rw [w64 (by omega) (by omega)]; rfl, by simp only; omega⟩
          simp only
          rw [← hset, cutK_not (fun hc => by omega), set_same hdt]
      · rw [Bool.not_eq_true] at hh
        rw [hh]
        repeat (first | exact trivial | refine stp ?_ | refine ldCg ?_ | refine ldNg ?_ | refine ldSg ?_ | refine ldSb ?_ | refine bnd ?_ | refine bnd1 ?_ | refine drawQ (by decide +kernel) mixed (by decide +kernel) ?_)
        refine ⟨(i + 1, ss), ⟨.go, by omega, by simp only; omega, hsl, hO6.ext .go, hR6.ext .go, hP6.ext .go, hRb6.ext .go, .go, ?_⟩, by rw [w64 (by omega) (by omega)]; rfl, by simp only; omega⟩
        simp only
        rw [← hset, cutK_not (fun hc => by rw [hh] at hc; exact absurd hc.1 (by decide)), set_same hdt]
    · refine bldC [.slice sa tt.length sc, .slice pa qs.length pc] (by kernel_rfl) ?_
      repeat (first | exact trivial | refine stp ?_ | refine ldCg ?_ | refine ldNg ?_ | refine ldSg ?_ | refine ldSb ?_ | refine bnd ?_ | refine bnd1 ?_ | refine drawQ (by decide +kernel) mixed (by decide +kernel) ?_)
      refine stW ?_
      intro w7 hP7 hz7 hB7
      repeat (first | exact trivial | refine stp ?_ | refine ldCg ?_ | refine ldNg ?_ | refine ldSg ?_ | refine ldSb ?_ | refine bnd ?_ | refine bnd1 ?_ | refine drawQ (by decide +kernel) mixed (by decide +kernel) ?_)
      obtain rfl : i = L.length := by omega
      rw [List.take_length, List.drop_length, List.append_nil] at hd6
      have hb0 : Blk w6 w.heap.size 26 _ := .go (h := hB1)
      refine ⟨.slice sa tt.length sc, .slice pa qs.length pc, ss, qs, rfl, ?_, ?_, ?_, ?_, ?_, ?_, ?_⟩
      · rw [hsl]; exact (hO6.base (by omega)).put hb0 (by decide) hP7
      · exact RunK.put hb0 (by decide) hP7 (RunK.top (by omega) (RunK.append (l := []) (m := w1.heap.size) (by show w.heap.size ≤ _; omega) hR6))
      · exact (hP6.base (by omega)).put hb0 (by decide) hP7
      · exact RunB.put hb0 (by decide) hP7 (RunB.top (by omega) (RunB.append (l := []) (m := w1.heap.size) (by show w.heap.size ≤ _; omega) hRb6))
      · rw [if_neg h64', hd6]
      · rw [if_neg h64', hqd]
      · exact .go
end Go.Proofs.YtebbgninkbghlaaGreatDoor

/-! Rfq -/
namespace Go.Proofs.YtebbgninkbghlaaGreatDoor
set_option maxRecDepth 100000
open Go Go.RowKit
set_option linter.unusedVariables false
set_option linter.unusedSimpArgs false
set_option maxHeartbeats 1000000
attribute [local irreducible] vcT opsT qT vcOp Q1 vcPure vcLoad vcStore ldC ldN ldD grdT grdQ vc vcOps vcQ hT
attribute [local irreducible] sumR sumP shaP keyD bucketP branchP

theorem ProveO_ok (n : Nat) (hn : 1 ≤ n) (hn2 : n ≤ 32) (is : List IR) (m : List It) (key : List UInt8) (mv kv : Value) (w : World) (hm : ItemsAt w mv is) (hy : is.map IR.y = m) (hO : OkI n m) (hk : SlB w kv key) (hkl : key.length ≤ 4000000000) (hml : is.length ≤ 90000000) :
    CallK Tryz.prog 84 [.int .i64 n, mv, kv].toArray w fun v w' => ∃ (sv pv : Value) (tt : List SR) (js : List IR), v = .agg [sv, pv].toArray ∧ Own w' w.heap.size 51 2 sv tt.length (tt.flatMap SR.cells) ∧ RunK w' w'.heap.size w.heap.size tt ∧
      Own w' w.heap.size 47 2 pv js.length ((js.map IR.pr).flatMap PR.cells) ∧ (∀ q ∈ js, q ∈ is) ∧ tt.map SR.dt = cutS (keyD n key) 0 (walkI n (keyD n key) 64 0 m).1 ∧ (js.map IR.pr).map PR.dat = (walkI n (keyD n key) 64 0 m).2.map It.pr ∧ Ext w w' := by
  have hw : widB n = true := (widB_iff n).2 (by omega)
  have hKl := keyD_len n key
  refine enterT Tryz.func84 rfl Tryz.ntmps84 Tryz.results84 rfl (by decide) ?_
  repeat (first | exact trivial | refine stp ?_ | refine ldCg ?_ | refine ldNg ?_ | refine ldSg ?_ | refine ldSb ?_ | refine bnd ?_ | refine bnd1 ?_ | refine drawQ (by decide +kernel) mixed (by decide +kernel) ?_)
  first | refine newS ?_ | refine newZ ?_
  intro w1 hE1 hz1 hB1
  repeat (first | exact trivial | refine stp ?_ | refine ldCg ?_ | refine ldNg ?_ | refine ldSg ?_ | refine ldSb ?_ | refine bnd ?_ | refine bnd1 ?_ | refine drawQ (by decide +kernel) mixed (by decide +kernel) ?_)
  refine (WalkO_ok n hn hn2 is m key mv kv w1 (hm.ext .go) hy hO (hk.ext .go) hkl hml).mono ?_
  rintro _ w2 ⟨sv, pv, tt, qs, rfl, hOs2, hRk2, hPr, hjs, htd, hqd, hE2⟩
  have hSt := hRk2.stepsAt hOs2
  have hz2 := hE2.size
  generalize hLe : (walkI n (keyD n key) 64 0 m).1 = L at *
  have hL : tt.length = L.length := by rw [← htd, List.length_map]
  obtain ⟨sa, sc, rfl⟩ := slv_of hSt.1
  obtain ⟨pa, pc, rfl⟩ := own_slice hPr
  obtain ⟨hst, hend, hsg⟩ := walk_spec hw (keyD n key) 64 0 m hO hO.pre rfl
  rw [hLe] at hst
  simp only [Nat.zero_add] at hst
  have hL32 : L.length ≤ 2 * n := by
    rcases Nat.eq_zero_or_pos L.length with h0 | h0
    · omega
    · obtain ⟨_, hs2⟩ := hst (L.length - 1) (by omega)
      obtain ⟨hOd, hPd⟩ := wmI_ok (n := n) (keyD n key) (L.length - 1) 0 hO hO.pre
      rw [Nat.zero_add] at hPd
      have := br_depth hs2 hPd (hOd.form hw)
      omega
  repeat (first | exact trivial | refine stp ?_ | refine ldCg ?_ | refine ldNg ?_ | refine ldSg ?_ | refine ldSb ?_ | refine bnd ?_ | refine bnd1 ?_ | refine drawQ (by decide +kernel) mixed (by decide +kernel) ?_)
  refine (RKeyD_ok n hn hn2 key _ w2 (hk.ext .go) (by omega)).mono ?_
  rintro _ w3 ⟨rfl, hE3⟩
  have hz3 := hE3.size
  repeat (first | exact trivial | refine stp ?_ | refine ldCg ?_ | refine ldNg ?_ | refine ldSg ?_ | refine ldSb ?_ | refine bnd ?_ | refine bnd1 ?_ | refine drawQ (by decide +kernel) mixed (by decide +kernel) ?_)
  first | refine newS ?_ | refine newZ ?_
  intro w4 hE4 hz4 hB4
  repeat (first | exact trivial | refine stp ?_ | refine ldCg ?_ | refine ldNg ?_ | refine ldSg ?_ | refine ldSb ?_ | refine bnd ?_ | refine bnd1 ?_ | refine drawQ (by decide +kernel) mixed (by decide +kernel) ?_)
  first | refine newS ?_ | refine newZ ?_
  intro w5 hE5 hz5 hB5
  repeat (first | exact trivial | refine stp ?_ | refine ldCg ?_ | refine ldNg ?_ | refine ldSg ?_ | refine ldSb ?_ | refine bnd ?_ | refine bnd1 ?_ | refine drawQ (by decide +kernel) mixed (by decide +kernel) ?_)
  refine loopX (ι := Nat × List SR × Option Addr × Nat) (fun x => [(6, .pointer (some ⟨w.heap.size, 0, none⟩)), (8, .slice pa qs.length pc), (9, .pointer (some ⟨w3.heap.size, 0, none⟩)), (10, .pointer (some ⟨w4.heap.size, 0, none⟩)), (23, .slice sa tt.length sc), (24, .int .i64 tt.length), (25, .int .i64 x.1)])
    (fun x W => Ext w4 W ∧ w5.heap.size ≤ W.heap.size ∧ x.1 ≤ L.length ∧ x.2.1.length = x.1 ∧ Blk W w4.heap.size 26 [.slice x.2.2.1 x.2.1.length x.2.2.2, .slice none 0 0] ∧
      Own W w5.heap.size 51 2 (.slice x.2.2.1 x.2.1.length x.2.2.2) x.2.1.length (x.2.1.flatMap SR.cells) ∧ RunK W W.heap.size w5.heap.size x.2.1 ∧ x.2.1.map SR.dt = cutS (keyD n key) 0 (L.take x.1)) (fun x => L.length - x.1) (0, [], none, 0) ⟨.go, Nat.le_refl _, Nat.zero_le _, rfl, hB5, Own.nil _ _ _ _, Nat.le_refl _, rfl⟩ ?_ ?_
  · repeat (first | exact trivial | refine stp ?_ | refine ldCg ?_ | refine ldNg ?_ | refine ldSg ?_ | refine ldSb ?_ | refine bnd ?_ | refine bnd1 ?_ | refine drawQ (by decide +kernel) mixed (by decide +kernel) ?_)
  · rintro ⟨i, us, a, c⟩ s6 w6 ⟨hE6, hz6, hi, hul, hB6, hO6, hR6, hd6⟩
    simp only at hi hul hB6 hO6 hR6 hd6
    repeat (first | exact trivial | refine stp ?_ | refine ldCg ?_ | refine ldNg ?_ | refine ldSg ?_ | refine ldSb ?_ | refine bnd ?_ | refine bnd1 ?_ | refine drawQ (by decide +kernel) mixed (by decide +kernel) ?_)
    refine ⟨fun hlt => ?_, fun hge => ?_⟩
    · obtain ⟨b, o, rfl, hR⟩ := hSt.1.row (f := SR.cells) (sz := 2) (fun _ _ => rfl) (by decide) (by omega)
      obtain ⟨t, ht⟩ : ∃ x, tt[i]? = some x := ⟨_, List.getElem?_eq_getElem (by omega)⟩
      have htm := hSt.2 t (List.mem_of_getElem? ht)
      have hLi : L[i]? = some t.dt := by rw [← htd, List.getElem?_map, ht]; rfl
      obtain ⟨hs1, hs2⟩ := hst i (by omega)
      have hkl2 : t.ks.length ≤ 16 := by
        rw [hs1] at hLi
        simp only [Option.some.injEq, SR.dt, Prod.mk.injEq] at hLi
        rw [← hLi.2, kidsI_len]
        exact cnt_le _
      obtain ⟨kv', bm, ks⟩ := t
      simp only [SR.dt] at htm hLi hkl2
      obtain ⟨ka', kc', rfl⟩ := slv_of htm.2.2
      have hdg := digP_lt (keyD n key) i
      repeat (first | exact trivial | refine stp ?_ | refine ldCg ?_ | refine ldNg ?_ | refine ldSg ?_ | refine ldSb ?_ | refine bnd ?_ | refine bnd1 ?_ | refine drawQ (by decide +kernel) mixed (by decide +kernel) ?_)
      refine ldStepS ht ?_
      repeat (first | exact trivial | refine stp ?_ | refine ldCg ?_ | refine ldNg ?_ | refine ldSg ?_ | refine ldSb ?_ | refine bnd ?_ | refine bnd1 ?_ | refine drawQ (by decide +kernel) mixed (by decide +kernel) ?_)
      first | refine newS ?_ | refine newZ ?_
      intro w7 hE7 hz7 hB7
      repeat (first | exact trivial | refine stp ?_ | refine ldCg ?_ | refine ldNg ?_ | refine ldSg ?_ | refine ldSb ?_ | refine bnd ?_ | refine bnd1 ?_ | refine drawQ (by decide +kernel) mixed (by decide +kernel) ?_)
      have hB67 := hB6.ext hE7
      have hB47 : Blk w7 w3.heap.size 28 (vbs (keyD n key)) := .go (h := hB4)
      refine drawH (fun W => Blk W w4.heap.size 26 [.slice a us.length c, .slice none 0 0] ∧ Blk W w6.heap.size 51 [.int .u16 bm, .slice ka' ks.length kc'] ∧ Blk W w3.heap.size 28 (vbs (keyD n key))) [0, 1, 2, 3, 4, 5, 6, 7, 8, 9, 10] mixed (by decide +kernel) (fun w8 hE8 hh => ⟨⟨hB67.ext hE8, hB7.ext hE8, hB47.ext hE8⟩, ?_⟩)
      have hz8 := hE8.size
      repeat (first | exact trivial | refine stp ?_ | refine ldCg ?_ | refine ldNg ?_ | refine ldSg ?_ | refine ldSb ?_ | refine bnd ?_ | refine bnd1 ?_ | refine drawQ (by decide +kernel) mixed (by decide +kernel) ?_)
      refine loadS_of (.slice a us.length c) (fun w' h => by refine stp ?_; exact ldCg rfl h.1) ?_
      repeat (first | exact trivial | refine stp ?_ | refine ldCg ?_ | refine ldNg ?_ | refine ldSg ?_ | refine ldSb ?_ | refine bnd ?_ | refine bnd1 ?_ | refine drawQ (by decide +kernel) mixed (by decide +kernel) ?_)
      refine loadS_of (.agg [.int .u16 bm, .slice ka' ks.length kc'].toArray) (fun w' h => by refine stp ?_; exact ldNg rfl h.2.1) ?_
      repeat (first | exact trivial | refine stp ?_ | refine ldCg ?_ | refine ldNg ?_ | refine ldSg ?_ | refine ldSb ?_ | refine bnd ?_ | refine bnd1 ?_ | refine drawQ (by decide +kernel) mixed (by decide +kernel) ?_)
      refine loadS_of (.agg (vbs (keyD n key)).toArray) (fun w' h => by refine stp ?_; exact ldNg rfl h.2.2) ?_
      repeat (first | exact trivial | refine stp ?_ | refine ldCg ?_ | refine ldNg ?_ | refine ldSg ?_ | refine ldSb ?_ | refine bnd ?_ | refine bnd1 ?_ | refine drawQ (by decide +kernel) mixed (by decide +kernel) ?_)
      refine (DigitR_ok (keyD n key) hKl i (by omega) w8).mono ?_
      rintro _ w9 ⟨rfl, hE9⟩
      have hz9 := hE9.size
      have hB69 := hB67.ext (hE8.trans' hE9)
      have hB79 := hB7.ext (hE8.trans' hE9)
      have hB49 := hB47.ext (hE8.trans' hE9)
      refine toldS ⟨hB69, hB79, hB49⟩ ?_
      repeat (first | exact trivial | refine stp ?_ | refine ldCg ?_ | refine ldNg ?_ | refine ldSg ?_ | refine ldSb ?_ | refine bnd ?_ | refine bnd1 ?_ | refine drawQ (by decide +kernel) mixed (by decide +kernel) ?_)
      refine (WithoutR_ok bm htm.1 (digP (keyD n key) i) hdg ks _ w9 (htm.2.2.ext .go) htm.2.1 (by omega)).mono ?_
      rintro _ w10 ⟨ov, rfl, hO10, hE10⟩
      have hz10 := hE10.size
      refine toldS ⟨hB69.ext hE10, hB79.ext hE10, hB49.ext hE10⟩ ?_
      obtain ⟨oa, oc, rfl⟩ := own_slice hO10
      generalize hkn : cutK bm (digP (keyD n key) i) ks = kn at *
      have hn32 : ∀ d ∈ kn, d.length = 32 := fun d hd => htm.2.1 d (by rw [← hkn] at hd; exact cutK_mem d hd)
      repeat (first | exact trivial | refine stp ?_ | refine ldCg ?_ | refine ldNg ?_ | refine ldSg ?_ | refine ldSb ?_ | refine bnd ?_ | refine bnd1 ?_ | refine drawQ (by decide +kernel) mixed (by decide +kernel) ?_)
      refine ⟨rfl, rfl, ?_⟩
      first | refine newS ?_ | refine newZ ?_
      intro w11 hE11 hz11 hB11
      refine toldS ⟨hB69.ext (hE10.trans' hE11), hB79.ext (hE10.trans' hE11), hB49.ext (hE10.trans' hE11)⟩ ?_
      repeat (first | exact trivial | refine stp ?_ | refine ldCg ?_ | refine ldNg ?_ | refine ldSg ?_ | refine ldSb ?_ | refine bnd ?_ | refine bnd1 ?_ | refine drawQ (by decide +kernel) mixed (by decide +kernel) ?_)
      have hO11 : Own w11 w5.heap.size 51 2 (.slice a us.length c) us.length (us.flatMap SR.cells) := hO6.ext .go
      have hB611 := hB69.ext (hE10.trans' hE11)
      refine apStep (us := us) (p := ⟨.slice oa kn.length oc, bm, kn⟩) hO11 (by omega) hB11 rfl (by omega) (fun a12 c12 w12 hO12 hg12 hE12 => ?_)
      have hz12 := hE12.size
      have hB12 : Blk w12 w4.heap.size 26 [.slice a us.length c, .slice none 0 0] := ⟨by rw [hg12.block _ hB611.lt (fun e => hO11.not_blk hB611 (by decide) e.symm)]; exact hB611.out⟩
      have hX : ∀ k T l, (Value.slice a us.length c).ownBlock ≠ some k → Blk w11 k T l → Blk w12 k T l := fun k T l hT hk => ⟨by rw [hg12.block _ hk.lt (fun e => hT e.symm)]; exact hk.out⟩
      have hB4x := hB49.ext (hE10.trans' hE11)
      have hR12 : RunK w12 w12.heap.size w5.heap.size (us ++ [⟨.slice oa kn.length oc, bm, kn⟩]) := by
        refine RunK.append (m := w9.heap.size) (RunK.grown hO11 (by decide) hg12 ((hR6.ext .go).top (by omega))) ⟨w12.heap.size, by omega, ⟨htm.1, hn32, (hO10.ext hE11).grown_ne hO11 (by decide) hg12, fun g hg => ?_⟩, Nat.le_refl _⟩
        have := (hO10.ext hE11).top g hg
        omega
      have hdt : (us ++ [(⟨.slice oa kn.length oc, bm, kn⟩ : SR)]).map SR.dt = cutS (keyD n key) 0 (L.take (i + 1)) := by
        obtain ⟨h1, h2⟩ := List.getElem?_eq_some_iff.1 hLi
        rw [List.map_append, hd6, List.take_succ_eq_append_getElem h1, h2, cutS_snoc, List.length_take, Nat.zero_add, Nat.min_eq_left (by omega), hkn]
        rfl
      have hul' : (us ++ [(⟨.slice oa kn.length oc, bm, kn⟩ : SR)]).length = i + 1 := by rw [List.length_append, hul]; rfl
      generalize us ++ [(⟨.slice oa kn.length oc, bm, kn⟩ : SR)] = us' at *
      refine toldS ⟨hB12, hX _ _ _ (fun e => by have := hO6.top _ e; omega) (hB79.ext (hE10.trans' hE11)), hX _ _ _ (hO11.not_blk hB4x (by decide)) hB4x⟩ ?_
      repeat (first | exact trivial | refine stp ?_ | refine ldCg ?_ | refine ldNg ?_ | refine ldSg ?_ | refine ldSb ?_ | refine bnd ?_ | refine bnd1 ?_ | refine drawQ (by decide +kernel) mixed (by decide +kernel) ?_)
      refine stC ?_
      intro w13 hP13 hz13 hB13
      refine toldZ ?_
      repeat (first | exact trivial | refine stp ?_ | refine ldCg ?_ | refine ldNg ?_ | refine ldSg ?_ | refine ldSb ?_ | refine bnd ?_ | refine bnd1 ?_ | refine drawQ (by decide +kernel) mixed (by decide +kernel) ?_)
      exact ⟨(i + 1, us', a12, c12), ⟨.go, by omega, by simp only; omega, hul', hB13, hO12.put hB12 (by decide) hP13, RunK.put hB12 (by decide) hP13 (hR12.top (by omega)), hdt⟩, by rw [w64 (by omega) (by omega)]; rfl, by simp only; omega⟩
    · have hl0 : i = L.length := by omega
      have hb1 : Blk w6 w.heap.size 26 _ := .go (h := hB1)
      repeat (first | exact trivial | refine stp ?_ | refine ldCg ?_ | refine ldNg ?_ | refine ldSg ?_ | refine ldSb ?_ | refine bnd ?_ | refine bnd1 ?_ | refine drawQ (by decide +kernel) mixed (by decide +kernel) ?_)
      refine stC ?_
      intro w7 hP7 hz7 hB7
      have hb7 := hP7.keep hb1 (by omega)
      repeat (first | exact trivial | refine stp ?_ | refine ldCg ?_ | refine ldNg ?_ | refine ldSg ?_ | refine ldSb ?_ | refine bnd ?_ | refine bnd1 ?_ | refine drawQ (by decide +kernel) mixed (by decide +kernel) ?_)
      refine stW (hb := hb7) ?_
      intro w8 hP8 hz8 hB8
      repeat (first | exact trivial | refine stp ?_ | refine ldCg ?_ | refine ldNg ?_ | refine ldSg ?_ | refine ldSb ?_ | refine bnd ?_ | refine bnd1 ?_ | refine drawQ (by decide +kernel) mixed (by decide +kernel) ?_)
      rw [hl0, List.take_length] at hd6
      have hO8 := (hO6.put hB6 (by decide) hP7).put hb7 (by decide) hP8
      have hR8 := RunK.put hb7 (by decide) hP8 (RunK.put hB6 (by decide) hP7 hR6)
      have hP6 := ((hPr.ext (w' := w6) .go).put hB6 (by decide) hP7).put hb7 (by decide) hP8
      exact ⟨.slice a us.length c, .slice pa qs.length pc, us, qs, rfl, hO8.base (by omega), RunK.append (l := []) (m := w5.heap.size) (by show w.heap.size ≤ _; omega) (hR8.top (by omega)), hP6.base (by omega), hjs, hd6, hqd, .go⟩
/-- A proof's parts. -/
structure PrfAt (w : World) (v : Value) (ss : List (Nat × List (List UInt8))) (ps : List (List UInt8 × List UInt8)) : Prop where
  out : ∃ sv pv tt qs, v = .agg [sv, pv].toArray ∧ StepsAt w sv tt ∧ PairsAt w pv qs ∧ tt.map SR.dt = ss ∧ qs.map PR.dat = ps
theorem StepsAt.ext' {w w' : World} {v : Value} {tt : List SR} (h : StepsAt w v tt) (e : Ext w w') : StepsAt w' v tt := h.ext e
theorem PairsAt.ext' {w w' : World} {v : Value} {qs : List PR} (h : PairsAt w v qs) (e : Ext w w') : PairsAt w' v qs := ⟨h.1.ext e, fun p hp => ⟨(h.2 p hp).1.ext e, (h.2 p hp).2.ext e⟩⟩
theorem PrfAt.ext {w w' : World} {v : Value} {ss : List (Nat × List (List UInt8))} {ps : List (List UInt8 × List UInt8)} (h : PrfAt w v ss ps) (e : Ext w w') : PrfAt w' v ss ps := by
  obtain ⟨sv, pv, tt, qs, h1, h2, h3, h4, h5⟩ := h.out
  exact ⟨sv, pv, tt, qs, h1, h2.ext' e, h3.ext' e, h4, h5⟩
theorem PairsAt.ofJs {w w0 : World} {lo : Nat} {pv : Value} {is js : List IR} {mv : Value} (hm : ItemsAt w0 mv is) (e : Ext w0 w) (h : Own w lo 47 2 pv js.length ((js.map IR.pr).flatMap PR.cells)) (hj : ∀ q ∈ js, q ∈ is) : PairsAt w pv (js.map IR.pr) := by
  refine ⟨by rw [List.length_map]; exact SlC.of_own h, fun p hp => ?_⟩
  obtain ⟨q, hq, rfl⟩ := List.mem_map.1 hp
  exact ⟨(hm.mem q (hj q hq)).key.ext e, (hm.mem q (hj q hq)).val.ext e⟩
theorem PairsAt.ofRun {w : World} {lo lo' hi : Nat} {pv : Value} {qs : List PR} (h : Own w lo 47 2 pv qs.length (qs.flatMap PR.cells)) (hr : RunB w hi lo' (qs.flatMap prB)) : PairsAt w pv qs :=
  ⟨SlC.of_own h, fun p hp => ⟨(hr.mem (p.kv, p.k) (List.mem_flatMap.2 ⟨p, hp, by simp [prB]⟩)).sl, (hr.mem (p.vv, p.v) (List.mem_flatMap.2 ⟨p, hp, by simp [prB]⟩)).sl⟩⟩
theorem Same15_ok (u v : Value) (ss ss' : List (Nat × List (List UInt8))) (ps ps' : List (List UInt8 × List UInt8)) (w : World) (hu : PrfAt w u ss ps) (hv : PrfAt w v ss' ps') :
    CallK Tryz.prog 30 [u, v].toArray w fun r w' => r = .bool (decide (ss = ss' ∧ ps = ps')) ∧ Ext w w' := by
  obtain ⟨sv, pv, tt, qs, rfl, h1, h2, rfl, rfl⟩ := hu.out
  obtain ⟨sv', pv', tt', qs', rfl, h1', h2', rfl, rfl⟩ := hv.out
  obtain ⟨a1, c1, rfl⟩ := slv_of h1.1
  obtain ⟨a2, c2, rfl⟩ := slv_of h2.1
  obtain ⟨a3, c3, rfl⟩ := slv_of h1'.1
  obtain ⟨a4, c4, rfl⟩ := slv_of h2'.1
  refine enterT Tryz.func30 rfl Tryz.ntmps30 Tryz.results30 rfl (by decide) ?_
  repeat (first | exact trivial | refine stp ?_ | refine ldCg ?_ | refine ldNg ?_ | refine ldSg ?_ | refine ldSb ?_ | refine bnd ?_ | refine bnd1 ?_ | refine drawQ (by decide +kernel) mixed (by decide +kernel) ?_)
  first | refine newS ?_ | refine newZ ?_
  intro w1 hE1 hz1 hB1
  first | refine newS ?_ | refine newZ ?_
  intro w2 hE2 hz2 hB2
  repeat (first | exact trivial | refine stp ?_ | refine ldCg ?_ | refine ldNg ?_ | refine ldSg ?_ | refine ldSb ?_ | refine bnd ?_ | refine bnd1 ?_ | refine drawQ (by decide +kernel) mixed (by decide +kernel) ?_)
  refine (SameSteps_ok tt tt' _ _ w2 (h1.ext .go) (h1'.ext .go)).mono ?_
  rintro _ w3 ⟨rfl, hE3⟩
  have hz3 := hE3.size
  by_cases hs : tt.map SR.dt = tt'.map SR.dt
  · rw [decide_eq_true hs]
    repeat (first | exact trivial | refine stp ?_ | refine ldCg ?_ | refine ldNg ?_ | refine ldSg ?_ | refine ldSb ?_ | refine bnd ?_ | refine bnd1 ?_ | refine drawQ (by decide +kernel) mixed (by decide +kernel) ?_)
    refine (SamePairs_ok qs qs' _ _ w3 (h2.ext' .go) (h2'.ext' .go)).mono ?_
    rintro _ w4 ⟨rfl, hE4⟩
    have hz4 := hE4.size
    repeat (first | exact trivial | refine stp ?_ | refine ldCg ?_ | refine ldNg ?_ | refine ldSg ?_ | refine ldSb ?_ | refine bnd ?_ | refine bnd1 ?_ | refine drawQ (by decide +kernel) mixed (by decide +kernel) ?_)
    refine ⟨?_, .go⟩
    simp only [hs, true_and]
  · rw [decide_eq_false hs]
    repeat (first | exact trivial | refine stp ?_ | refine ldCg ?_ | refine ldNg ?_ | refine ldSg ?_ | refine ldSb ?_ | refine bnd ?_ | refine bnd1 ?_ | refine drawQ (by decide +kernel) mixed (by decide +kernel) ?_)
    refine ⟨?_, .go⟩
    simp only [hs, false_and, decide_false]
/-- How many digests steps have, counted as the program counts. -/
def sizeW (ss : List SR) : Int := ss.foldl (fun n s => IntKind.i64.wrap (n + s.ks.length)) 0
theorem sizeW_snoc (ss : List SR) (s : SR) : sizeW (ss ++ [s]) = IntKind.i64.wrap (sizeW ss + s.ks.length) := by unfold sizeW; rw [List.foldl_append]; rfl
theorem Size_ok (ss : List SR) (qs : List PR) (sv pv : Value) (w : World) (h1 : StepsAt w sv ss) (h2 : PairsAt w pv qs) :
    CallK Tryz.prog 31 [.agg [sv, pv].toArray].toArray w fun r w' => r = .tuple [.int .i64 (sizeW ss), .int .i64 qs.length].toArray ∧ Ext w w' := by
  obtain ⟨a1, c1, rfl⟩ := slv_of h1.1
  obtain ⟨a2, c2, rfl⟩ := slv_of h2.1
  have hsn : ss.length ≤ 9223372036854775807 := by obtain ⟨_, _, _, h1, h2, _⟩ := h1.1; omega
  refine enterT Tryz.func31 rfl Tryz.ntmps31 Tryz.results31 rfl (by decide) ?_
  repeat (first | exact trivial | refine stp ?_ | refine ldCg ?_ | refine ldNg ?_ | refine ldSg ?_ | refine ldSb ?_ | refine bnd ?_ | refine bnd1 ?_ | refine drawQ (by decide +kernel) mixed (by decide +kernel) ?_)
  first | refine newS ?_ | refine newZ ?_
  intro w1 hE1 hz1 hB1
  repeat (first | exact trivial | refine stp ?_ | refine ldCg ?_ | refine ldNg ?_ | refine ldSg ?_ | refine ldSb ?_ | refine bnd ?_ | refine bnd1 ?_ | refine drawQ (by decide +kernel) mixed (by decide +kernel) ?_)
  refine loopX (ι := Nat) (fun i => [(1, .pointer (some ⟨w.heap.size, 0, none⟩)), (4, .int .i64 (sizeW (ss.take i))), (8, .slice a1 ss.length c1), (9, .int .i64 ss.length), (10, .int .i64 i)])
    (fun i W => Ext w1 W ∧ i ≤ ss.length) (fun i => ss.length - i) 0 ⟨.go, Nat.zero_le _⟩ ?_ ?_
  · repeat (first | exact trivial | refine stp ?_ | refine ldCg ?_ | refine ldNg ?_ | refine ldSg ?_ | refine ldSb ?_ | refine bnd ?_ | refine bnd1 ?_ | refine drawQ (by decide +kernel) mixed (by decide +kernel) ?_)
    rfl
  · rintro i s2 w2 ⟨hE2, hi⟩
    have hz2 := hE2.size
    repeat (first | exact trivial | refine stp ?_ | refine ldCg ?_ | refine ldNg ?_ | refine ldSg ?_ | refine ldSb ?_ | refine bnd ?_ | refine bnd1 ?_ | refine drawQ (by decide +kernel) mixed (by decide +kernel) ?_)
    refine ⟨fun hlt => ?_, fun hge => ?_⟩
    · obtain ⟨b, o, rfl, hR⟩ := h1.1.row (f := SR.cells) (sz := 2) (fun _ _ => rfl) (by decide) (by omega)
      obtain ⟨s, hs⟩ : ∃ x, ss[i]? = some x := ⟨_, List.getElem?_eq_getElem (by omega)⟩
      have hsm := h1.2 s (List.mem_of_getElem? hs)
      have htk : ss.take (i + 1) = ss.take i ++ [s] := by
        obtain ⟨hil, he⟩ := List.getElem?_eq_some_iff.1 hs
        rw [List.take_succ_eq_append_getElem hil, he]
      obtain ⟨kv, bm, ks⟩ := s
      obtain ⟨ka, kc, e⟩ := slv_of hsm.2.2
      simp only at e
      subst e
      repeat (first | exact trivial | refine stp ?_ | refine ldCg ?_ | refine ldNg ?_ | refine ldSg ?_ | refine ldSb ?_ | refine bnd ?_ | refine bnd1 ?_ | refine drawQ (by decide +kernel) mixed (by decide +kernel) ?_)
      refine ldStepS hs ?_
      repeat (first | exact trivial | refine stp ?_ | refine ldCg ?_ | refine ldNg ?_ | refine ldSg ?_ | refine ldSb ?_ | refine bnd ?_ | refine bnd1 ?_ | refine drawQ (by decide +kernel) mixed (by decide +kernel) ?_)
      first | refine newS ?_ | refine newZ ?_
      intro w3 hE3 hz3 hB3
      repeat (first | exact trivial | refine stp ?_ | refine ldCg ?_ | refine ldNg ?_ | refine ldSg ?_ | refine ldSb ?_ | refine bnd ?_ | refine bnd1 ?_ | refine drawQ (by decide +kernel) mixed (by decide +kernel) ?_)
      exact ⟨i + 1, ⟨.go, by omega⟩, ⟨by rw [htk, sizeW_snoc], by rw [w64 (by omega) (by omega)]; rfl⟩, by omega⟩
    · obtain rfl : i = ss.length := by omega
      rw [List.take_length]
      repeat (first | exact trivial | refine stp ?_ | refine ldCg ?_ | refine ldNg ?_ | refine ldSg ?_ | refine ldSb ?_ | refine bnd ?_ | refine bnd1 ?_ | refine drawQ (by decide +kernel) mixed (by decide +kernel) ?_)
      intro w3 hE3
      exact .go
end Go.Proofs.YtebbgninkbghlaaGreatDoor

/-! Rfe -/
namespace Go.Proofs.YtebbgninkbghlaaGreatDoor
set_option maxRecDepth 100000
open Go Go.RowKit
set_option linter.unusedVariables false
set_option linter.unusedSimpArgs false
set_option maxHeartbeats 1000000
attribute [local irreducible] vcT opsT qT vcOp Q1 vcPure vcLoad vcStore ldC ldN ldD grdT grdQ vc vcOps vcQ hT
attribute [local irreducible] sumR sumP shaP keyD bucketP branchP

/-- A list of items with all that it needs in blocks of S. -/
structure ItemsS (S : Nat → Prop) (w : World) (v : Value) (is : List IR) : Prop where
  row : SlS S w v is.length (is.flatMap IR.cells)
  mem : ∀ q ∈ is, q.y.D.length = 32 ∧ SlS S w q.kv q.y.k.length (vbs q.y.k) ∧ SlS S w q.vv q.y.v.length (vbs q.y.v)
theorem ItemsS.at {S : Nat → Prop} {w : World} {v : Value} {is : List IR} (h : ItemsS S w v is) : ItemsAt w v is := ⟨h.row.sl, fun q hq => ⟨(h.mem q hq).1, (h.mem q hq).2.1.sl, (h.mem q hq).2.2.sl⟩⟩
theorem ItemsS.keep {S : Nat → Prop} {w w' : World} {v : Value} {is : List IR} (h : ItemsS S w v is) (k : KeepS S w w') : ItemsS S w' v is := ⟨h.row.keep k, fun q hq => ⟨(h.mem q hq).1, (h.mem q hq).2.1.keep k, (h.mem q hq).2.2.keep k⟩⟩
theorem ItemsS.mono {S S' : Nat → Prop} {w : World} {v : Value} {is : List IR} (h : ItemsS S w v is) (hS : ∀ b, S b → S' b) : ItemsS S' w v is := ⟨h.row.mono hS, fun q hq => ⟨(h.mem q hq).1, (h.mem q hq).2.1.mono hS, (h.mem q hq).2.2.mono hS⟩⟩
theorem ItemsS.lt {S : Nat → Prop} {w : World} {v : Value} {is : List IR} (h : ItemsS S w v is) : ItemsS (SLt S w) w v is := ⟨h.row.lt, fun q hq => ⟨(h.mem q hq).1, (h.mem q hq).2.1.lt, (h.mem q hq).2.2.lt⟩⟩
theorem ItemsS.nil {S : Nat → Prop} {w : World} : ItemsS S w (.slice none 0 0) [] := ⟨⟨none, 0, rfl, Nat.le_refl _, by decide, Or.inl rfl⟩, by simp⟩
theorem ItemsS.ext {S : Nat → Prop} {w w' : World} {v : Value} {is : List IR} (h : ItemsS S w v is) (e : Ext w w') : ItemsS S w' v is := h.keep (KeepS.of_ext e)
theorem PutS_ok (n : Nat) (hn : 1 ≤ n) (hn2 : n ≤ 32) (S : Nat → Prop) (is : List IR) (m : List It) (key val : List UInt8) (mv kv vv : Value) (w : World) (hm : ItemsS S w mv is) (hy : is.map IR.y = m) (hs : SortedI m) (hk : SlB w kv key) (hv : SlB w vv val) (hkl : key.length ≤ 4000000000) (hvl : val.length ≤ 4000000000) (hml : is.length ≤ 100000000) :
    CallK Tryz.prog 86 [.int .i64 n, mv, kv, vv].toArray w fun v w' => (∃ js, ItemsS (fun b => S b ∨ w.heap.size ≤ b) w' v js ∧ js.map IR.y = putI m ⟨keyD n key, key, val⟩) ∧ Ext w w' := by
  refine (PutO_ok n hn hn2 is m key val mv kv vv w hm.at hy hs hk hv hkl hvl hml).mono ?_
  rintro v w' ⟨⟨js, p, hO, hj, hp, hpS, hjy⟩, hE⟩
  refine ⟨⟨js, ⟨SlS.of_own hO (fun b h => Or.inr h), fun r hr => ?_⟩, hjy⟩, hE⟩
  rcases hj r hr with rfl | h
  · exact ⟨hp.len, hpS.1.mono (fun b h => Or.inr h), hpS.2.mono (fun b h => Or.inr h)⟩
  · have h' := (hm.ext hE).mem r h
    exact ⟨h'.1, h'.2.1.mono (fun b h => Or.inl h), h'.2.2.mono (fun b h => Or.inl h)⟩
def noK (key : List UInt8) (q : IR) : Bool := decide (q.y.k ≠ key)
end Go.Proofs.YtebbgninkbghlaaGreatDoor

/-! Cnv -/
namespace Go.Proofs.YtebbgninkbghlaaGreatDoor
set_option maxRecDepth 100000
open Go Go.RowKit
set_option linter.unusedVariables false
set_option linter.unusedSimpArgs false

/-! ### Conversions -/
theorem convM {w : World} {b n c : Nat} {T : TypeId} {xs : List UInt8} {K : Value → World → Prop} (hB : Blk w b T (vbs xs)) (hn : n = xs.length) (hc : n ≤ c) (hm : c ≤ 9223372036854775807)
    (hK : ∀ w', SlB w' (.slice (some ⟨b, 0, none⟩) n c) xs → KeepB w w' b → K (.slice (some ⟨b, 0, none⟩) n c) w') : RawConv Tryz.prog 22 22 (.slice (some ⟨b, 0, none⟩) n c) w K := by
  subst hn
  have hsh : w.shape? b = some (T, xs.length) := by simp [World.shape?, hB.out, vbs_len]
  refine ⟨⟨.slice (some ⟨b, 0, none⟩) xs.length c, w.freeze ⟨b, xs.length, none⟩ 1, ?_, ?_⟩⟩
  · simp [convert, run_underlying Tryz.underlying22, run_underlying Tryz.underlying5, markStringish, shape, Sem.run, Result.andThen, hsh]
  · refine hK _ ⟨_, _, rfl, hc, hm, Or.inr ⟨b, 0, rfl, fun j u hj => ?_⟩⟩ ⟨rfl, rfl, rfl, by simp [World.freeze], fun k hk hkb => ?_⟩
    · rw [Nat.zero_add]
      have := hj
      simp [World.cell?, World.freeze, Array.getElem?_modify, hB.out]
      exact hj
    · simp [World.freeze, Array.getElem?_modify, Ne.symm hkb]
theorem convN {w : World} {xs : List UInt8} {n : Nat} {l : List Value} {K : Value → World → Prop} (hl : l = vbs xs) (hn : n = xs.length) (hm : n ≤ 9223372036854775807)
    (hK : ∀ w', Ext w w' → w.heap.size + 1 ≤ w'.heap.size → SlB w' (.slice (some ⟨w.heap.size, 0, none⟩) n n) xs → K (.slice (some ⟨w.heap.size, 0, none⟩) n n) w') :
    ∀ w', NewB w w' 5 l → RawConv Tryz.prog 22 22 (.slice (some ⟨w.heap.size, 0, none⟩) n n) w' K := fun w' hN => by
  subst hl
  exact convM hN.blk hn (Nat.le_refl _) hm fun w'' hS hk => hK w'' (hN.ext.trans (hk.below (Nat.le_refl _) (by have := hN.size; omega))) (by have := hk.size; have := hN.size; omega) hS
/-! ### The order of strings -/
end Go.Proofs.YtebbgninkbghlaaGreatDoor

/-! Lpa -/
namespace Go.Proofs.YtebbgninkbghlaaGreatDoor
set_option maxRecDepth 100000
open Go Go.RowKit
set_option linter.unusedVariables false
set_option linter.unusedSimpArgs false
set_option maxHeartbeats 1000000
attribute [local irreducible] vcT opsT qT vcOp Q1 vcPure vcLoad vcStore ldC ldN ldD grdT grdQ vc vcOps vcQ hT
attribute [local irreducible] sumR sumP shaP keyD bucketP branchP

/-- The items of the first eighty pairs. -/
def madeI (n : Int) (ps : List (List UInt8 × List UInt8)) : List It := grownI n (ps.take 80)
theorem madeI_ok (n : Int) (l : List (List UInt8 × List UInt8)) : OkI n (madeI n l) := grownI_ok _ _
theorem madeI_len (n : Int) (l : List (List UInt8 × List UInt8)) : (madeI n l).length ≤ 80 := by
  have := grownI_len n (l.take 80)
  rw [List.length_take] at this
  unfold madeI
  omega
theorem made_ok (n : Int) (ps : List PR) (pv : Value) (w : World) (hW : WordsAt w 1) (hp : PairsAt w pv ps) :
    CallK Tryz.prog 26 [.int .i64 n, pv].toArray w fun v w' => (widB n = false → v = .tuple [.pointer none, .slice none 0 0].toArray) ∧
      (widB n = true → ∃ b lv is, v = .tuple [.pointer (some ⟨b, 0, none⟩), lv].toArray ∧ MapAt n (fun k => w.heap.size ≤ k) w' (.pointer (some ⟨b, 0, none⟩)) (madeI n (ps.map PR.dat)) ∧ ItemsS (fun k => w.heap.size ≤ k) w' lv is ∧ is.map IR.y = madeI n (ps.map PR.dat)) ∧ Ext w w' := by
  obtain ⟨hp1, hp2⟩ := hp
  have hpl : ps.length ≤ 9223372036854775807 := by obtain ⟨_, _, _, h1, h2, _⟩ := hp1; omega
  obtain ⟨pa, cp, rfl⟩ := slv_of hp1
  refine enterT Tryz.func26 rfl Tryz.ntmps26 Tryz.results26 rfl (by decide) ?_
  repeat (first | exact trivial | refine stp ?_ | refine ldCg ?_ | refine ldNg ?_ | refine ldSg ?_ | refine ldSb ?_ | refine bnd ?_ | refine bnd1 ?_ | refine drawQ (by decide +kernel) mixed (by decide +kernel) ?_)
  refine (New_hamt_ok n w).mono ?_
  rintro _ w1 ⟨hN0, hN1, hE1⟩
  have hz1 := hE1.size
  cases hw : widB n
  · obtain rfl := hN0 hw
    repeat (first | exact trivial | refine stp ?_ | refine ldCg ?_ | refine ldNg ?_ | refine ldSg ?_ | refine ldSb ?_ | refine bnd ?_ | refine bnd1 ?_ | refine drawQ (by decide +kernel) mixed (by decide +kernel) ?_)
    exact hE1
  · obtain ⟨mv, rfl, hM1⟩ := hN1 hw
    have hwn := (widB_iff n).1 hw
    obtain ⟨nn, rfl⟩ : ∃ nn : Nat, n = nn := ⟨n.toNat, by omega⟩
    obtain ⟨b, rfl⟩ : ∃ b, mv = .pointer (some ⟨b, 0, none⟩) := by obtain ⟨b, _, rfl, _⟩ := hM1; exact ⟨b, rfl⟩
    clear hN0 hN1
    repeat (first | exact trivial | refine stp ?_ | refine ldCg ?_ | refine ldNg ?_ | refine ldSg ?_ | refine ldSb ?_ | refine bnd ?_ | refine bnd1 ?_ | refine drawQ (by decide +kernel) mixed (by decide +kernel) ?_)
    refine loopX (ι := Nat × Nat × Value × List IR) (fun x => [(0, .int .i64 nn), (6, .pointer (some ⟨x.2.1, 0, none⟩)), (8, x.2.2.1), (24, .slice pa ps.length cp), (25, .int .i64 ps.length), (26, .int .i64 x.1)])
      (fun x W => Ext w W ∧ x.1 ≤ ps.length ∧ MapAt nn (fun k => w.heap.size ≤ k) W (.pointer (some ⟨x.2.1, 0, none⟩)) (madeI nn ((ps.take x.1).map PR.dat)) ∧ ItemsS (fun k => w.heap.size ≤ k) W x.2.2.1 x.2.2.2 ∧ x.2.2.2.map IR.y = madeI nn ((ps.take x.1).map PR.dat)) (fun x => ps.length - x.1) (0, b, .slice none 0 0, []) ⟨.go, Nat.zero_le _, hM1, .nil, rfl⟩ ?_ ?_
    · repeat (first | exact trivial | refine stp ?_ | refine ldCg ?_ | refine ldNg ?_ | refine ldSg ?_ | refine ldSb ?_ | refine bnd ?_ | refine bnd1 ?_ | refine drawQ (by decide +kernel) mixed (by decide +kernel) ?_)
    · rintro ⟨i, mb, lv, is⟩ s2 w2 ⟨hE2, hi, hM2, hI2, hy2⟩
      simp only at hi hM2 hI2 hy2
      have hz2 := hE2.size
      have hO2 := madeI_ok nn ((ps.take i).map PR.dat)
      have hL2 := madeI_len nn ((ps.take i).map PR.dat)
      have hil2 : is.length ≤ 80 := by rw [← hy2, List.length_map] at hL2; exact hL2
      obtain ⟨la, lc, rfl⟩ := slv_of hI2.row.sl
      repeat (first | exact trivial | refine stp ?_ | refine ldCg ?_ | refine ldNg ?_ | refine ldSg ?_ | refine ldSb ?_ | refine bnd ?_ | refine bnd1 ?_ | refine drawQ (by decide +kernel) mixed (by decide +kernel) ?_)
      refine ⟨fun hlt => ?_, fun hge => ?_⟩
      · obtain ⟨pb, po, rfl, hR⟩ := pr_row hp1 (by omega)
        obtain ⟨p, hx⟩ : ∃ x, ps[i]? = some x := ⟨_, List.getElem?_eq_getElem (by omega)⟩
        obtain ⟨hpk, hpv⟩ := hp2 _ (List.mem_of_getElem? hx)
        have htk : madeI nn ((ps.take (i + 1)).map PR.dat) = if 80 ≤ i ∨ 64 < p.k.length ∨ 256 < p.v.length then madeI nn ((ps.take i).map PR.dat) else putI (madeI nn ((ps.take i).map PR.dat)) ⟨keyD nn p.k, p.k, p.v⟩ := by
          obtain ⟨hil, he⟩ := List.getElem?_eq_some_iff.1 hx
          rw [List.take_succ_eq_append_getElem hil, he, List.map_append]
          have hll : ((ps.take i).map PR.dat).length = i := by rw [List.length_map, List.length_take]; omega
          unfold madeI
          by_cases h80 : 80 ≤ i
          · rw [if_pos (Or.inl h80), List.take_append_of_le_length (by omega)]
          · rw [List.take_of_length_le (l := _ ++ _) (by rw [List.length_append, hll]; simp; omega), List.take_of_length_le (l := List.map _ _) (by omega)]
            have := grownI_snoc nn ((ps.take i).map PR.dat) p.dat
            rw [show (List.map PR.dat [p]) = [p.dat] from rfl, this]
            by_cases hc : 64 < p.k.length ∨ 256 < p.v.length
            · rw [if_pos (show 64 < p.dat.1.length ∨ 256 < p.dat.2.length from hc), if_pos (Or.inr hc)]
            · rw [if_neg (show ¬ (64 < p.dat.1.length ∨ 256 < p.dat.2.length) from hc), if_neg (fun h => h.elim (fun h => h80 h) hc)]
              rfl
        obtain ⟨kv, vv, k, v⟩ := p
        simp only at hpk hpv htk
        obtain ⟨ka, kc, rfl⟩ := slv_of hpk
        obtain ⟨va, vc', rfl⟩ := slv_of hpv
        repeat (first | exact trivial | refine stp ?_ | refine ldCg ?_ | refine ldNg ?_ | refine ldSg ?_ | refine ldSb ?_ | refine bnd ?_ | refine bnd1 ?_ | refine drawQ (by decide +kernel) mixed (by decide +kernel) ?_)
        refine ldPair hx ?_
        repeat (first | exact trivial | refine stp ?_ | refine ldCg ?_ | refine ldNg ?_ | refine ldSg ?_ | refine ldSb ?_ | refine bnd ?_ | refine bnd1 ?_ | refine drawQ (by decide +kernel) mixed (by decide +kernel) ?_)
        first | refine newS ?_ | refine newZ ?_
        intro w3 hE3 hz3 hB3
        repeat (first | exact trivial | refine stp ?_ | refine ldCg ?_ | refine ldNg ?_ | refine ldSg ?_ | refine ldSb ?_ | refine bnd ?_ | refine bnd1 ?_ | refine drawQ (by decide +kernel) mixed (by decide +kernel) ?_)
        refine ⟨fun h80' => ?_, fun h80' => ?_⟩
        · have h80 : 80 ≤ i := by omega
          exact ⟨(i + 1, mb, .slice la is.length lc, is), ⟨.go, by simp only; omega, by simp only; rw [htk, if_pos (Or.inl h80)]; exact hM2.ext .go, hI2.ext .go, by simp only; rw [htk, if_pos (Or.inl h80)]; exact hy2⟩, ⟨rfl, rfl, by rw [w64 (by omega) (by omega)]; rfl⟩, by simp only; omega⟩
        have h80 : ¬ 80 ≤ i := by omega
        repeat (first | exact trivial | refine stp ?_ | refine ldCg ?_ | refine ldNg ?_ | refine ldSg ?_ | refine ldSb ?_ | refine bnd ?_ | refine bnd1 ?_ | refine drawQ (by decide +kernel) mixed (by decide +kernel) ?_)
        refine (CheckPairR_ok k v _ _ w3 (hpk.ext .go) (hpv.ext .go)).mono ?_
        rintro _ w4 ⟨rfl, hE4⟩
        have hz4 := hE4.size
        by_cases hc : 64 < k.length ∨ 256 < v.length
        · rw [if_pos hc]
          repeat (first | exact trivial | refine stp ?_ | refine ldCg ?_ | refine ldNg ?_ | refine ldSg ?_ | refine ldSb ?_ | refine bnd ?_ | refine bnd1 ?_ | refine drawQ (by decide +kernel) mixed (by decide +kernel) ?_)
          exact ⟨(i + 1, mb, .slice la is.length lc, is), ⟨.go, by simp only; omega, by simp only; rw [htk, if_pos (Or.inr hc)]; exact hM2.ext .go, hI2.ext .go, by simp only; rw [htk, if_pos (Or.inr hc)]; exact hy2⟩, ⟨rfl, rfl, by rw [w64 (by omega) (by omega)]; rfl⟩, by simp only; omega⟩
        · rw [if_neg hc]
          repeat (first | exact trivial | refine stp ?_ | refine ldCg ?_ | refine ldNg ?_ | refine ldSg ?_ | refine ldSb ?_ | refine bnd ?_ | refine bnd1 ?_ | refine drawQ (by decide +kernel) mixed (by decide +kernel) ?_)
          refine (Put_hamt_ok nn hw _ _ _ _ _ k v w4 (hW.ext .go) (hM2.ext .go) hO2 (hpk.ext .go) (hpv.ext .go) (by omega)).mono ?_
          rintro _ w5 ⟨⟨rv, rfl, _, hM5⟩, hE5⟩
          have hz5 := hE5.size
          rw [if_neg hc]
          replace hM5 := (hM5 hc).mono (S' := fun k => w.heap.size ≤ k) (fun k h => h.elim id (fun h => by omega))
          obtain ⟨b5, rfl⟩ : ∃ b, rv = .pointer (some ⟨b, 0, none⟩) := by obtain ⟨b, _, rfl, _⟩ := hM5; exact ⟨b, rfl⟩
          repeat (first | exact trivial | refine stp ?_ | refine ldCg ?_ | refine ldNg ?_ | refine ldSg ?_ | refine ldSb ?_ | refine bnd ?_ | refine bnd1 ?_ | refine drawQ (by decide +kernel) mixed (by decide +kernel) ?_)
          refine (PutS_ok nn (by omega) (by omega) _ is _ k v _ _ _ w5 (hI2.ext .go) hy2 hO2.sorted (hpk.ext .go) (hpv.ext .go) (by omega) (by omega) (by omega)).mono ?_
          rintro v6 w6 ⟨⟨js, hJ, hjy⟩, hE6⟩
          have hz6 := hE6.size
          repeat (first | exact trivial | refine stp ?_ | refine ldCg ?_ | refine ldNg ?_ | refine ldSg ?_ | refine ldSb ?_ | refine bnd ?_ | refine bnd1 ?_ | refine drawQ (by decide +kernel) mixed (by decide +kernel) ?_)
          refine ⟨(i + 1, b5, v6, js), ⟨.go, by simp only; omega, ?_, hJ.mono (fun b h => h.elim id (fun h => by omega)), ?_⟩, ⟨rfl, rfl, by rw [w64 (by omega) (by omega)]; rfl⟩, by simp only; omega⟩
          · simp only
            rw [htk, if_neg (fun h => h.elim (fun h => h80 h) hc)]
            exact hM5.ext .go
          · simp only
            rw [htk, if_neg (fun h => h.elim (fun h => h80 h) hc)]
            exact hjy
      · obtain rfl : i = ps.length := by omega
        rw [List.take_length] at hM2 hy2
        repeat (first | exact trivial | refine stp ?_ | refine ldCg ?_ | refine ldNg ?_ | refine ldSg ?_ | refine ldSb ?_ | refine bnd ?_ | refine bnd1 ?_ | refine drawQ (by decide +kernel) mixed (by decide +kernel) ?_)
        exact ⟨⟨mb, _, is, rfl, hM2, hI2, hy2⟩, hE2⟩
theorem wide15_ok (n : Int) (w : World) : CallK Tryz.prog 27 [.int .i64 n].toArray w fun v w' => v = .bool (widB n) ∧ Ext w w' := by
  have hi := widB_iff n
  refine enterT Tryz.func27 rfl Tryz.ntmps27 Tryz.results27 rfl (by decide) ?_
  repeat (first | exact trivial | refine stp ?_ | refine ldCg ?_ | refine ldNg ?_ | refine ldSg ?_ | refine ldSb ?_ | refine bnd ?_ | refine bnd1 ?_ | refine drawQ (by decide +kernel) mixed (by decide +kernel) ?_)
  refine ⟨fun h => ⟨?_, Ext.rfl' _⟩, fun h => ⟨?_, Ext.rfl' _⟩⟩
  · by_cases h2 : n ≤ 32
    · rw [decide_eq_true h2, hi.2 ⟨h, h2⟩]
    · rw [decide_eq_false h2]
      cases e : widB n
      · rfl
      · exact absurd (hi.1 e).2 h2
  · cases e : widB n
    · rfl
    · exact absurd (hi.1 e).1 h
/-- The three pairs of awake. -/
def awL : List (List UInt8 × List UInt8) := [([97], [49]), ([98], []), ([99], [])]
theorem awP : ((cutS (keyD 4 [97]) 0 (walkI 4 (keyD 4 [97]) 64 0 (madeI 4 awL)).1).map fun s => s.2.length) = [2] ∧ (walkI 4 (keyD 4 [97]) 64 0 (madeI 4 awL)).2.length = 1 := by decide +kernel
theorem sizeW_of {ss : List SR} {L : List (Nat × List (List UInt8))} (h : ss.map SR.dt = L) (h2 : (L.map fun s => s.2.length) = [2]) : sizeW ss = 2 := by
  have h3 : (ss.map fun s => s.ks.length) = [2] := by
    rw [← h2, ← h, List.map_map]
    rfl
  obtain ⟨s, rfl⟩ : ∃ s, ss = [s] := List.length_eq_one_iff.1 (by have := congrArg List.length h3; simpa using this)
  have : s.ks.length = 2 := by simpa using h3
  unfold sizeW
  rw [List.foldl_cons, List.foldl_nil, this]
  decide
theorem awake15_ok (w : World) (hW : WordsAt w 1) :
    CallK Tryz.prog 25 [].toArray w fun v w' => v = .bool true ∧ Ext w w' := by
  have hw4 : widB 4 = true := by decide
  refine enterT Tryz.func25 rfl Tryz.ntmps25 Tryz.results25 rfl (by decide) ?_
  repeat (first | exact trivial | refine stp ?_ | refine ldCg ?_ | refine ldNg ?_ | refine ldSg ?_ | refine ldSb ?_ | refine bnd ?_ | refine bnd1 ?_ | refine drawQ (by decide +kernel) mixed (by decide +kernel) ?_)
  refine ⟨rfl, rfl, convN (xs := [97]) rfl rfl (by decide) (fun w1 hE1 hz1 hS1 => ?_)⟩
  repeat (first | exact trivial | refine stp ?_ | refine ldCg ?_ | refine ldNg ?_ | refine ldSg ?_ | refine ldSb ?_ | refine bnd ?_ | refine bnd1 ?_ | refine drawQ (by decide +kernel) mixed (by decide +kernel) ?_)
  refine ⟨rfl, rfl, convN (xs := [49]) rfl rfl (by decide) (fun w2 hE2 hz2 hS2 => ?_)⟩
  repeat (first | exact trivial | refine stp ?_ | refine ldCg ?_ | refine ldNg ?_ | refine ldSg ?_ | refine ldSb ?_ | refine bnd ?_ | refine bnd1 ?_ | refine drawQ (by decide +kernel) mixed (by decide +kernel) ?_)
  refine bldC [.slice (some ⟨w.heap.size, 0, none⟩) 1 1, .slice (some ⟨w1.heap.size, 0, none⟩) 1 1] (by kernel_rfl) ?_
  repeat (first | exact trivial | refine stp ?_ | refine ldCg ?_ | refine ldNg ?_ | refine ldSg ?_ | refine ldSb ?_ | refine bnd ?_ | refine bnd1 ?_ | refine drawQ (by decide +kernel) mixed (by decide +kernel) ?_)
  refine ⟨rfl, rfl, convN (xs := [98]) rfl rfl (by decide) (fun w3 hE3 hz3 hS3 => ?_)⟩
  repeat (first | exact trivial | refine stp ?_ | refine ldCg ?_ | refine ldNg ?_ | refine ldSg ?_ | refine ldSb ?_ | refine bnd ?_ | refine bnd1 ?_ | refine drawQ (by decide +kernel) mixed (by decide +kernel) ?_)
  refine bldC [.slice (some ⟨w2.heap.size, 0, none⟩) 1 1, .slice none 0 0] (by kernel_rfl) ?_
  repeat (first | exact trivial | refine stp ?_ | refine ldCg ?_ | refine ldNg ?_ | refine ldSg ?_ | refine ldSb ?_ | refine bnd ?_ | refine bnd1 ?_ | refine drawQ (by decide +kernel) mixed (by decide +kernel) ?_)
  refine ⟨rfl, rfl, convN (xs := [99]) rfl rfl (by decide) (fun w4 hE4 hz4 hS4 => ?_)⟩
  repeat (first | exact trivial | refine stp ?_ | refine ldCg ?_ | refine ldNg ?_ | refine ldSg ?_ | refine ldSb ?_ | refine bnd ?_ | refine bnd1 ?_ | refine drawQ (by decide +kernel) mixed (by decide +kernel) ?_)
  refine bldC [.slice (some ⟨w3.heap.size, 0, none⟩) 1 1, .slice none 0 0] (by kernel_rfl) ?_
  repeat (first | exact trivial | refine stp ?_ | refine ldCg ?_ | refine ldNg ?_ | refine ldSg ?_ | refine ldSb ?_ | refine bnd ?_ | refine bnd1 ?_ | refine drawQ (by decide +kernel) mixed (by decide +kernel) ?_)
  refine ⟨rfl, ⟨rfl, ⟨rfl, rfl⟩⟩, ?_⟩
  first | refine newS ?_ | refine newZ ?_
  intro w5 hE5 hz5 hB5
  have hnil : ∀ W : World, SlB W (.slice none 0 0) [] := fun W => ⟨none, 0, rfl, Nat.le_refl _, by decide, Or.inl rfl⟩
  have hp5 : PairsAt w5 (.slice (some ⟨w4.heap.size, 0, none⟩) 3 3) [⟨.slice (some ⟨w.heap.size, 0, none⟩) 1 1, .slice (some ⟨w1.heap.size, 0, none⟩) 1 1, [97], [49]⟩, ⟨.slice (some ⟨w2.heap.size, 0, none⟩) 1 1, .slice none 0 0, [98], []⟩, ⟨.slice (some ⟨w3.heap.size, 0, none⟩) 1 1, .slice none 0 0, [99], []⟩] := by
    refine ⟨SlC.of_blk hB5 (by decide), fun p hp => ?_⟩
    rcases List.mem_cons.1 hp with rfl | hp
    · exact ⟨hS1.ext .go, hS2.ext .go⟩
    rcases List.mem_cons.1 hp with rfl | hp
    · exact ⟨hS3.ext .go, hnil _⟩
    · obtain rfl := List.mem_singleton.1 hp
      exact ⟨hS4.ext .go, hnil _⟩
  repeat (first | exact trivial | refine stp ?_ | refine ldCg ?_ | refine ldNg ?_ | refine ldSg ?_ | refine ldSb ?_ | refine bnd ?_ | refine bnd1 ?_ | refine drawQ (by decide +kernel) mixed (by decide +kernel) ?_)
  refine (made_ok 4 _ _ w5 (hW.ext .go) hp5).mono ?_
  rintro _ w6 ⟨_, hm6, hE6⟩
  have hz6 := hE6.size
  obtain ⟨b6, lv, is, rfl, hM6, hI6, hy6⟩ := hm6 hw4
  have hO6 := madeI_ok 4 awL
  have hL6 := madeI_len 4 awL
  obtain ⟨hP1, hP2⟩ := awP
  change MapAt 4 _ w6 _ (madeI 4 awL) at hM6
  change is.map IR.y = madeI 4 awL at hy6
  generalize madeI 4 awL = m6 at *
  have hil6 : is.length ≤ 80 := by rw [← hy6, List.length_map] at hL6; exact hL6
  obtain ⟨la, lc, rfl⟩ := slv_of hI6.row.sl
  repeat (first | exact trivial | refine stp ?_ | refine ldCg ?_ | refine ldNg ?_ | refine ldSg ?_ | refine ldSb ?_ | refine bnd ?_ | refine bnd1 ?_ | refine drawQ (by decide +kernel) mixed (by decide +kernel) ?_)
  refine ⟨rfl, rfl, convN (xs := [97]) rfl rfl (by decide) (fun w7 hE7 hz7 hS7 => ?_)⟩
  repeat (first | exact trivial | refine stp ?_ | refine ldCg ?_ | refine ldNg ?_ | refine ldSg ?_ | refine ldSb ?_ | refine bnd ?_ | refine bnd1 ?_ | refine drawQ (by decide +kernel) mixed (by decide +kernel) ?_)
  refine (Prove_hproof_ok 4 hw4 _ _ _ m6 [97] w7 (hW.ext .go) (hM6.ext .go) hO6 hS7 (by omega)).mono ?_
  rintro _ w8 ⟨sv, pv, tt, qs, rfl, hOs, hRk, hOp, hRb, htd, hqd, hE8⟩
  have hz8 := hE8.size
  rw [if_neg (by decide)] at htd hqd
  rw [if_neg (by decide)]
  have hsz := sizeW_of htd hP1
  have hql : qs.length = 1 := by have := congrArg List.length hqd; simpa [hP2] using this
  obtain ⟨sa, sc, rfl⟩ := own_slice hOs
  obtain ⟨pa, pc, rfl⟩ := own_slice hOp
  have hSt := hRk.stepsAt hOs
  have hPr := PairsAt.ofRun hOp hRb
  repeat (first | exact trivial | refine stp ?_ | refine ldCg ?_ | refine ldNg ?_ | refine ldSg ?_ | refine ldSb ?_ | refine bnd ?_ | refine bnd1 ?_ | refine drawQ (by decide +kernel) mixed (by decide +kernel) ?_)
  first | refine newS ?_ | refine newZ ?_
  intro w9 hE9 hz9 hB9
  repeat (first | exact trivial | refine stp ?_ | refine ldCg ?_ | refine ldNg ?_ | refine ldSg ?_ | refine ldSb ?_ | refine bnd ?_ | refine bnd1 ?_ | refine drawQ (by decide +kernel) mixed (by decide +kernel) ?_)
  refine (Size_ok tt qs _ _ w9 (hSt.ext' .go) (hPr.ext' .go)).mono ?_
  rintro _ w10 ⟨rfl, hE10⟩
  have hz10 := hE10.size
  rw [hsz]
  repeat (first | exact trivial | refine stp ?_ | refine ldCg ?_ | refine ldNg ?_ | refine ldSg ?_ | refine ldSb ?_ | refine bnd ?_ | refine bnd1 ?_)
  refine drawX (.of [0, 1, 2, 3, 4, 5, 6, 7, 8, 9, 10, 11, 12, 13, 14, 15, 16, 17, 18]) mixed (by decide +kernel) (fun w11 hE11 hz11 => ?_)
  repeat (first | exact trivial | refine stp ?_ | refine ldCg ?_ | refine ldNg ?_ | refine ldSg ?_ | refine ldSb ?_ | refine bnd ?_ | refine bnd1 ?_ | refine drawQ (by decide +kernel) mixed (by decide +kernel) ?_)
  refine ⟨rfl, rfl, ?_⟩
  first | refine newS ?_ | refine newZ ?_
  intro w12 hE12 hz12 hB12
  refine toldK ?_
  repeat (first | exact trivial | refine stp ?_ | refine ldCg ?_ | refine ldNg ?_ | refine ldSg ?_ | refine ldSb ?_ | refine bnd ?_ | refine bnd1 ?_ | refine drawQ (by decide +kernel) mixed (by decide +kernel) ?_)
  refine convM (xs := [97]) hB12 rfl (by decide) (by decide) (fun w13 hS13 hK13 => ?_)
  have hE13 : Ext w11 w13 := hE12.trans (hK13.below (Nat.le_refl _) (by omega))
  have hz13 := hE13.size
  clear hE12
  refine toldK ?_
  repeat (first | exact trivial | refine stp ?_ | refine ldCg ?_ | refine ldNg ?_ | refine ldSg ?_ | refine ldSb ?_ | refine bnd ?_ | refine bnd1 ?_ | refine drawQ (by decide +kernel) mixed (by decide +kernel) ?_)
  refine (ProveO_ok 4 (by decide) (by decide) is m6 [97] _ _ w13 (hI6.at.ext .go) hy6 hO6 hS13 (by decide) (by omega)).mono ?_
  rintro _ w14 ⟨sv', pv', tt', js, rfl, hOs', hRk', hOp', hjs, htd', hqd', hE14⟩
  have hz14 := hE14.size
  refine toldK ?_
  repeat (first | exact trivial | refine stp ?_ | refine ldCg ?_ | refine ldNg ?_ | refine ldSg ?_ | refine ldSb ?_ | refine bnd ?_ | refine bnd1 ?_ | refine drawQ (by decide +kernel) mixed (by decide +kernel) ?_)
  refine (Same15_ok _ _ (tt.map SR.dt) (tt.map SR.dt) (qs.map PR.dat) (qs.map PR.dat) w14 ⟨_, _, tt, qs, rfl, hSt.ext' .go, hPr.ext' .go, rfl, rfl⟩ ⟨_, _, tt', js.map IR.pr, rfl, hRk'.stepsAt hOs', PairsAt.ofJs hI6.at .go hOp' hjs, by rw [htd]; exact htd', by rw [hqd]; exact hqd'⟩).mono ?_
  rintro _ w15 ⟨rfl, hE15⟩
  have hz15 := hE15.size
  refine toldK ?_
  rw [show decide (tt.map SR.dt = tt.map SR.dt ∧ qs.map PR.dat = qs.map PR.dat) = true from decide_eq_true ⟨rfl, rfl⟩]
  repeat (first | exact trivial | refine stp ?_ | refine ldCg ?_ | refine ldNg ?_ | refine ldSg ?_ | refine ldSb ?_ | refine bnd ?_ | refine bnd1 ?_ | refine drawQ (by decide +kernel) mixed (by decide +kernel) ?_)
  exact .go
end Go.Proofs.YtebbgninkbghlaaGreatDoor

/-! Bss -/
namespace Go.Proofs.YtebbgninkbghlaaGreatDoor
set_option maxRecDepth 100000
open Go Go.RowKit
set_option linter.unusedVariables false
set_option linter.unusedSimpArgs false

/-- A list of byte lists, each with its slice. -/
def BssAt (w : World) (v : Value) (ks : List (Value × List UInt8)) : Prop := SlC w v ks.length (ks.flatMap fun k => [k.1]) ∧ ∀ k ∈ ks, SlB w k.1 k.2
theorem BssAt.ext {w w' : World} {v : Value} {ks : List (Value × List UInt8)} (h : BssAt w v ks) (e : Ext w w') : BssAt w' v ks := ⟨h.1.ext e, fun k hk => (h.2 k hk).ext e⟩
theorem flat_take {α : Type} (f : α → List Value) (sz : Nat) : ∀ (l : List α) (m : Nat), (∀ x ∈ l, (f x).length = sz) → (l.flatMap f).take (m * sz) = (l.take m).flatMap f
  | [], m, _ => by simp
  | x :: l, 0, _ => by simp
  | x :: l, m + 1, h => by
    have h1 := h x (by simp)
    rw [List.flatMap_cons, List.take_succ_cons, List.flatMap_cons, show (m + 1) * sz = (f x).length + m * sz from by rw [h1, Nat.add_mul]; omega, List.take_length_add_append, flat_take f sz l m (fun y hy => h y (by simp [hy]))]
/-- The first part of a slice. -/
theorem SlC.pre {w : World} {a a' : Option Addr} {n c m sz k : Nat} {cells : List Value} (h : SlC w (.slice a n c) n cells) (hm : m ≤ n) (hl : cells.length = n * sz) (ha : ∀ b o, a = some ⟨b, o, none⟩ → ∃ o', a' = some ⟨b, o', none⟩ ∧ ((0 : Int) < (c : Int) → o' = o + Int.toNat 0 * k)) : SlC w (.slice a' m c) m (cells.take (m * sz)) := by
  obtain ⟨a1, c1, e, h1, h2, h3⟩ := h
  cases e
  refine ⟨a', c, rfl, by omega, h2, ?_⟩
  rcases h3 with rfl | ⟨b, o, rfl, h3⟩
  · exact Or.inl (by simp)
  · obtain ⟨o', rfl, ho⟩ := ha b o rfl
    rcases Nat.eq_zero_or_pos c with h0 | h0
    · left
      have : n = 0 := by omega
      subst this
      rw [Nat.zero_mul] at hl
      rw [List.length_eq_zero_iff.1 hl]
      simp
    · right
      refine ⟨b, o', rfl, fun j u hj => ?_⟩
      rw [ho (by omega)]
      rw [List.getElem?_take] at hj
      split at hj
      · simpa using h3 j u hj
      · cases hj
/-- The same slice, its capacity cut to its length. -/
theorem SlC.cut {w : World} {a a' : Option Addr} {n c k : Nat} {cells : List Value} (h : SlC w (.slice a n c) n cells) (ha : ∀ b o, a = some ⟨b, o, none⟩ → ∃ o', a' = some ⟨b, o', none⟩ ∧ ((0 : Int) < (n : Int) → o' = o + Int.toNat 0 * k)) (hn : n = 0 → cells = []) : SlC w (.slice a' n n) n cells := by
  obtain ⟨a1, c1, e, h1, h2, h3⟩ := h
  cases e
  refine ⟨a', n, rfl, Nat.le_refl _, by omega, ?_⟩
  rcases h3 with h3 | ⟨b, o, rfl, h3⟩
  · exact Or.inl h3
  · obtain ⟨o', rfl, ho⟩ := ha b o rfl
    rcases Nat.eq_zero_or_pos n with h0 | h0
    · exact Or.inl (hn h0)
    · right
      refine ⟨b, o', rfl, fun j u hj => ?_⟩
      rw [ho (by omega)]
      simpa using h3 j u hj
theorem flat_drop {α : Type} (f : α → List Value) (sz : Nat) : ∀ (l : List α) (m : Nat), (∀ x ∈ l, (f x).length = sz) → (l.flatMap f).drop (m * sz) = (l.drop m).flatMap f
  | [], m, _ => by simp
  | x :: l, 0, _ => by simp
  | x :: l, m + 1, h => by
    have h1 := h x (by simp)
    rw [List.flatMap_cons, List.drop_succ_cons, show (m + 1) * sz = (f x).length + m * sz from by rw [h1, Nat.add_mul]; omega, List.drop_length_add_append, flat_drop f sz l m (fun y hy => h y (by simp [hy]))]
/-- The rest of a slice. -/
theorem SlC.suf {w : World} {a a' : Option Addr} {n c lo sz : Nat} {cells : List Value} (h : SlC w (.slice a n c) n cells) (hm : lo ≤ n) (hl : cells.length = n * sz) (ha : ∀ b o, a = some ⟨b, o, none⟩ → ∃ o', a' = some ⟨b, o', none⟩ ∧ ((lo : Int) < (c : Int) → o' = o + lo * sz)) :
    SlC w (.slice a' (n - lo) (c - lo)) (n - lo) (cells.drop (lo * sz)) := by
  obtain ⟨a1, c1, e, h1, h2, h3⟩ := h
  cases e
  refine ⟨a', c - lo, rfl, by omega, by omega, ?_⟩
  rcases h3 with rfl | ⟨b, o, rfl, h3⟩
  · exact Or.inl (by simp)
  · obtain ⟨o', rfl, ho⟩ := ha b o rfl
    by_cases h0 : lo < c
    · right
      refine ⟨b, o', rfl, fun j u hj => ?_⟩
      rw [ho (by omega)]
      rw [List.getElem?_drop] at hj
      rw [show o + lo * sz + j = o + (lo * sz + j) from by omega]
      exact h3 _ u hj
    · left
      rw [List.drop_eq_nil_iff, hl]
      exact Nat.mul_le_mul_right _ (by omega)
end Go.Proofs.YtebbgninkbghlaaGreatDoor

/-! Lpd -/
namespace Go.Proofs.YtebbgninkbghlaaGreatDoor
set_option maxRecDepth 100000
open Go Go.RowKit
set_option linter.unusedVariables false
set_option linter.unusedSimpArgs false
set_option maxHeartbeats 1000000
attribute [local irreducible] vcT opsT qT vcOp Q1 vcPure vcLoad vcStore ldC ldN ldD grdT grdQ vc vcOps vcQ hT
attribute [local irreducible] sumR sumP shaP keyD bucketP branchP

theorem Walks15_ok (n : Int) (ps : List PR) (key : List UInt8) (pv kv : Value) (w : World) (hW : WordsAt w 1) (hp : PairsAt w pv ps) (hk : SlB w kv key) (hkl : key.length ≤ 4000000000) :
    CallK Tryz.prog 8 [.int .i64 n, pv, kv].toArray w fun v w' => v = .bool true ∧ Ext w w' := by
  obtain ⟨ka, kc, rfl⟩ := slv_of hk
  have hKl := keyD_len n key
  refine enterT Tryz.func8 rfl Tryz.ntmps8 Tryz.results8 rfl (by decide) ?_
  repeat (first | exact trivial | refine stp ?_ | refine ldCg ?_ | refine ldNg ?_ | refine ldSg ?_ | refine ldSb ?_ | refine bnd ?_ | refine bnd1 ?_ | refine drawQ (by decide +kernel) mixed (by decide +kernel) ?_)
  refine (awake15_ok w hW).mono ?_
  rintro _ w1 ⟨rfl, hE1⟩
  have hz1 := hE1.size
  repeat (first | exact trivial | refine stp ?_ | refine ldCg ?_ | refine ldNg ?_ | refine ldSg ?_ | refine ldSb ?_ | refine bnd ?_ | refine bnd1 ?_ | refine drawQ (by decide +kernel) mixed (by decide +kernel) ?_)
  refine (made_ok n ps _ w1 (hW.ext .go) (hp.ext' .go)).mono ?_
  rintro _ w2 ⟨hm0, hm1, hE2⟩
  have hz2 := hE2.size
  cases hw : widB n
  · obtain rfl := hm0 hw
    repeat (first | exact trivial | refine stp ?_ | refine ldCg ?_ | refine ldNg ?_ | refine ldSg ?_ | refine ldSb ?_ | refine bnd ?_ | refine bnd1 ?_ | refine drawQ (by decide +kernel) mixed (by decide +kernel) ?_)
    refine (wide15_ok n w2).mono ?_
    rintro _ w3 ⟨rfl, hE3⟩
    have hz3 := hE3.size
    rw [hw]
    repeat (first | exact trivial | refine stp ?_ | refine ldCg ?_ | refine ldNg ?_ | refine ldSg ?_ | refine ldSb ?_ | refine bnd ?_ | refine bnd1 ?_ | refine drawQ (by decide +kernel) mixed (by decide +kernel) ?_)
    exact .go
  obtain ⟨b, lv, is, rfl, hM, hI, hy⟩ := hm1 hw
  have hwn := (widB_iff n).1 hw
  obtain ⟨nn, rfl⟩ : ∃ nn : Nat, n = nn := ⟨n.toNat, by omega⟩
  have hO := madeI_ok nn (ps.map PR.dat)
  have hL := madeI_len nn (ps.map PR.dat)
  clear hm0 hm1
  generalize madeI nn (ps.map PR.dat) = m at *
  have hf : formB nn (keyD nn key) = true := by unfold keyD; exact form_sumR nn _ hw
  obtain ⟨hst, hend, hsg⟩ := walk_spec hw (keyD nn key) 64 0 m hO hO.pre rfl
  generalize hLe : (walkI nn (keyD nn key) 64 0 m).1 = L at *
  simp only [Nat.zero_add] at hst
  have hL32 : L.length ≤ 2 * nn := by
    rcases Nat.eq_zero_or_pos L.length with h0 | h0
    · omega
    · obtain ⟨_, hs2⟩ := hst (L.length - 1) (by omega)
      obtain ⟨hOd, hPd⟩ := wmI_ok (n := nn) (keyD nn key) (L.length - 1) 0 hO hO.pre
      rw [Nat.zero_add] at hPd
      have := br_depth hs2 hPd (hOd.form hw)
      omega
  repeat (first | exact trivial | refine stp ?_ | refine ldCg ?_ | refine ldNg ?_ | refine ldSg ?_ | refine ldSb ?_ | refine bnd ?_ | refine bnd1 ?_ | refine drawQ (by decide +kernel) mixed (by decide +kernel) ?_)
  refine (Walk_hamt_ok nn hw _ _ _ m key w2 (hW.ext .go) hM hO (hk.ext .go) (by omega)).mono ?_
  rintro _ w3 ⟨sv, qv, tt, qs, rfl, hOs, hRk, hOp, hRb, htd, hqd, hE3⟩
  have hz3 := hE3.size
  rw [hLe] at htd
  have hSt := hRk.stepsAt hOs
  have hPr := PairsAt.ofRun hOp hRb
  obtain ⟨sa, sc, rfl⟩ := own_slice hOs
  obtain ⟨qa, qc, rfl⟩ := own_slice hOp
  repeat (first | exact trivial | refine stp ?_ | refine ldCg ?_ | refine ldNg ?_ | refine ldSg ?_ | refine ldSb ?_ | refine bnd ?_ | refine bnd1 ?_ | refine drawQ (by decide +kernel) mixed (by decide +kernel) ?_)
  refine (Prove_hproof_ok nn hw _ _ _ m key w3 (hW.ext .go) (hM.ext .go) hO (hk.ext .go) (by omega)).mono ?_
  rintro _ w4 ⟨sv', qv', tt', qs', rfl, hOs', hRk', hOp', hRb', htd', hqd', hE4⟩
  have hz4 := hE4.size
  rw [hLe] at htd'
  have hSt' := hRk'.stepsAt hOs'
  have hPr' := PairsAt.ofRun hOp' hRb'
  obtain ⟨sa', sc', rfl⟩ := own_slice hOs'
  obtain ⟨qa', qc', rfl⟩ := own_slice hOp'
  have hl1 : tt.length = tt'.length := by
    have h1 := congrArg List.length htd
    have h2 := congrArg List.length htd'
    rw [List.length_map] at h1 h2
    rw [h1, h2]
    split
    · rfl
    · rw [cutS_len]
  have hlL : tt.length ≤ L.length := by
    have h1 := congrArg List.length htd
    rw [List.length_map] at h1
    rw [h1]
    split
    · exact Nat.zero_le _
    · exact Nat.le_refl _
  repeat (first | exact trivial | refine stp ?_ | refine ldCg ?_ | refine ldNg ?_ | refine ldSg ?_ | refine ldSb ?_ | refine bnd ?_ | refine bnd1 ?_ | refine drawQ (by decide +kernel) mixed (by decide +kernel) ?_)
  first | refine newS ?_ | refine newZ ?_
  intro w5 hE5 hz5 hB5
  repeat (first | exact trivial | refine stp ?_ | refine ldCg ?_ | refine ldNg ?_ | refine ldSg ?_ | refine ldSb ?_ | refine bnd ?_ | refine bnd1 ?_ | refine drawQ (by decide +kernel) mixed (by decide +kernel) ?_)
  intro _
  repeat (first | exact trivial | refine stp ?_ | refine ldCg ?_ | refine ldNg ?_ | refine ldSg ?_ | refine ldSb ?_ | refine bnd ?_ | refine bnd1 ?_ | refine drawQ (by decide +kernel) mixed (by decide +kernel) ?_)
  refine (SamePairs_ok qs qs' _ _ w5 (hPr.ext' .go) (hPr'.ext' .go)).mono ?_
  rintro _ w6 ⟨rfl, hE6⟩
  have hz6 := hE6.size
  rw [decide_eq_true (show qs.map PR.dat = qs'.map PR.dat by rw [hqd, hqd'])]
  repeat (first | exact trivial | refine stp ?_ | refine ldCg ?_ | refine ldNg ?_ | refine ldSg ?_ | refine ldSb ?_ | refine bnd ?_ | refine bnd1 ?_ | refine drawQ (by decide +kernel) mixed (by decide +kernel) ?_)
  rw [w64 (by omega) (by omega)]
  refine ⟨fun h => absurd h (by omega), fun _ => ?_⟩
  refine (RKeyD_ok nn (by omega) (by omega) key _ w6 (hk.ext .go) (by omega)).mono ?_
  rintro _ w7 ⟨rfl, hE7⟩
  have hz7 := hE7.size
  repeat (first | exact trivial | refine stp ?_ | refine ldCg ?_ | refine ldNg ?_ | refine ldSg ?_ | refine ldSb ?_ | refine bnd ?_ | refine bnd1 ?_ | refine drawQ (by decide +kernel) mixed (by decide +kernel) ?_)
  first | refine newS ?_ | refine newZ ?_
  intro w8 hE8 hz8 hB8
  repeat (first | exact trivial | refine stp ?_ | refine ldCg ?_ | refine ldNg ?_ | refine ldSg ?_ | refine ldSb ?_ | refine bnd ?_ | refine bnd1 ?_ | refine drawQ (by decide +kernel) mixed (by decide +kernel) ?_)
  refine loopX (ι := Nat) (fun i => [(0, .int .i64 nn), (9, .slice sa tt.length sc), (12, .pointer (some ⟨w4.heap.size, 0, none⟩)), (14, .pointer (some ⟨w7.heap.size, 0, none⟩)), (75, .slice sa tt.length sc), (76, .int .i64 tt.length), (77, .int .i64 i)])
    (fun i W => Ext w8 W ∧ i ≤ tt.length) (fun i => tt.length - i) 0 ⟨.go, Nat.zero_le _⟩ ?_ ?_
  · repeat (first | exact trivial | refine stp ?_ | refine ldCg ?_ | refine ldNg ?_ | refine ldSg ?_ | refine ldSb ?_ | refine bnd ?_ | refine bnd1 ?_ | refine drawQ (by decide +kernel) mixed (by decide +kernel) ?_)
  · rintro i s9 w9 ⟨hE9, hi⟩
    have hz9 := hE9.size
    repeat (first | exact trivial | refine stp ?_ | refine ldCg ?_ | refine ldNg ?_ | refine ldSg ?_ | refine ldSb ?_ | refine bnd ?_ | refine bnd1 ?_ | refine drawQ (by decide +kernel) mixed (by decide +kernel) ?_)
    refine ⟨fun hlt => ?_, fun hge => ?_⟩
    · have h64 : ¬ 64 < key.length := fun h => by
        rw [if_pos h] at htd
        have := congrArg List.length htd
        simp at this
        rw [this] at hlt
        simp at hlt
        omega
      rw [if_neg h64] at htd htd'
      obtain ⟨b1, o1, rfl, hR⟩ := hSt.1.row (f := SR.cells) (sz := 2) (fun _ _ => rfl) (by decide) (by omega)
      obtain ⟨b2, o2, rfl, hR'⟩ := hSt'.1.row (f := SR.cells) (sz := 2) (fun _ _ => rfl) (by decide) (by omega)
      obtain ⟨t, ht⟩ : ∃ x, tt[i]? = some x := ⟨_, List.getElem?_eq_getElem (by omega)⟩
      obtain ⟨t', ht'⟩ : ∃ x, tt'[i]? = some x := ⟨_, List.getElem?_eq_getElem (by omega)⟩
      have hSm := hSt.2 t (List.mem_of_getElem? ht)
      have hSm' := hSt'.2 t' (List.mem_of_getElem? ht')
      have hLi : L[i]? = some t.dt := by rw [← htd, List.getElem?_map, ht]; rfl
      have hLi' : t'.dt = (t.bm, cutK t.bm (digP (keyD nn key) i) t.ks) := by
        have h1 : (tt'.map SR.dt)[i]? = some t'.dt := by rw [List.getElem?_map, ht']; rfl
        rw [htd', cutS_get, hLi, Nat.zero_add] at h1
        simpa [SR.dt] using h1.symm
      obtain ⟨hs1, hs2⟩ := hst i (by omega)
      obtain ⟨hOd, hPd⟩ := wmI_ok (n := nn) (keyD nn key) i 0 hO hO.pre
      rw [Nat.zero_add] at hPd
      have hdn := br_depth hs2 hPd (hOd.form hw)
      have hat := atP_dig (m := nn) (by omega) (by omega) hKl hf hdn
      have hae := atP_err (m := nn) (by omega) (by omega) hKl hf hdn
      have hdg := digP_lt (keyD nn key) i
      have hkl2 : t.ks.length = cntB t.bm := by
        rw [hs1] at hLi
        simp only [Option.some.injEq, SR.dt, Prod.mk.injEq] at hLi
        rw [← hLi.2, ← hLi.1, kidsI_len]
      have hcn := cnt_le t.bm
      obtain ⟨kv, bm, ks⟩ := t
      obtain ⟨kv', bm', ks'⟩ := t'
      simp only [SR.dt, Prod.mk.injEq] at hSm hSm' hLi hLi' hkl2 hcn
      obtain ⟨rfl, hks'⟩ := hLi'
      obtain ⟨ka1, kc1, rfl⟩ := slv_of hSm.2.2
      obtain ⟨ka2, kc2, rfl⟩ := slv_of hSm'.2.2
      repeat (first | exact trivial | refine stp ?_ | refine ldCg ?_ | refine ldNg ?_ | refine ldSg ?_ | refine ldSb ?_ | refine bnd ?_ | refine bnd1 ?_ | refine drawQ (by decide +kernel) mixed (by decide +kernel) ?_)
      refine ldStepS ht ?_
      repeat (first | exact trivial | refine stp ?_ | refine ldCg ?_ | refine ldNg ?_ | refine ldSg ?_ | refine ldSb ?_ | refine bnd ?_ | refine bnd1 ?_ | refine drawQ (by decide +kernel) mixed (by decide +kernel) ?_)
      first | refine newS ?_ | refine newZ ?_
      intro w10 hE10 hz10 hB10
      repeat (first | exact trivial | refine stp ?_ | refine ldCg ?_ | refine ldNg ?_ | refine ldSg ?_ | refine ldSb ?_ | refine bnd ?_ | refine bnd1 ?_ | refine drawQ (by decide +kernel) mixed (by decide +kernel) ?_)
      refine (At_ok nn (keyD nn key) hKl i w10).mono ?_
      rintro _ w11 ⟨rfl, hE11⟩
      have hz11 := hE11.size
      repeat (first | exact trivial | refine stq ?_ | refine ldCg ?_ | refine ldNg ?_ | refine ldSg ?_ | refine ldSb ?_ | refine bnd ?_ | refine bnd1 ?_)
      rw [v_seq]
      rw [v_seq]
      repeat (first | exact trivial | refine stq ?_ | refine ldCg ?_ | refine ldNg ?_ | refine ldSg ?_ | refine ldSb ?_ | refine bnd ?_ | refine bnd1 ?_)
      rw [hat, hae]
      repeat (first | exact trivial | refine stq ?_ | refine ldCg ?_ | refine ldNg ?_ | refine ldSg ?_ | refine ldSb ?_ | refine bnd ?_ | refine bnd1 ?_)
      refine drawQ (by decide +kernel) mixed (by decide +kernel) ?_
      repeat (first | exact trivial | refine stq ?_ | refine ldCg ?_ | refine ldNg ?_ | refine ldSg ?_ | refine ldSb ?_ | refine bnd ?_ | refine bnd1 ?_)
      refine ldRowF (f := SR.cells) 0 ht' ?_
      repeat (first | exact trivial | refine stq ?_ | refine ldCg ?_ | refine ldNg ?_ | refine ldSg ?_ | refine ldSb ?_ | refine bnd ?_ | refine bnd1 ?_)
      intro w12 hE12
      have hz12 := hE12.size
      repeat (first | exact trivial | refine stq ?_ | refine ldCg ?_ | refine ldNg ?_ | refine ldSg ?_ | refine ldSb ?_ | refine bnd ?_ | refine bnd1 ?_)
      rw [v_seq]
      repeat (first | exact trivial | refine stq ?_ | refine ldCg ?_ | refine ldNg ?_ | refine ldSg ?_ | refine ldSb ?_ | refine bnd ?_ | refine bnd1 ?_)
      refine (Rank_ok bm' hSm.1 (digP (keyD nn key) i) w12).mono ?_
      rintro _ w13 ⟨rfl, hE13⟩
      have hz13 := hE13.size
      repeat (first | exact trivial | refine stq ?_ | refine ldCg ?_ | refine ldNg ?_ | refine ldSg ?_ | refine ldSb ?_ | refine bnd ?_ | refine bnd1 ?_)
      rw [v_seq]
      repeat (first | exact trivial | refine stq ?_ | refine ldCg ?_ | refine ldNg ?_ | refine ldSg ?_ | refine ldSb ?_ | refine bnd ?_ | refine bnd1 ?_)
      rw [v_seq]
      refine joinX (κ := Option Addr × Nat) (fun x => [(0, .int .i64 nn), (9, .slice (some ⟨b1, o1, none⟩) tt.length sc), (12, .pointer (some ⟨w4.heap.size, 0, none⟩)), (14, .pointer (some ⟨w7.heap.size, 0, none⟩)), (15, .int .i64 i), (75, .slice (some ⟨b1, o1, none⟩) tt.length sc), (76, .int .i64 tt.length), (77, .int .i64 i), (20, .slice x.1 ks'.length x.2)])
        (fun x W => Ext w10 W ∧ SlC W (.slice x.1 ks'.length x.2) ks'.length (ks'.flatMap vbs)) ?_ ?_
      · repeat (first | exact trivial | refine stp ?_ | refine ldCg ?_ | refine ldNg ?_ | refine ldSg ?_ | refine ldSb ?_ | refine bnd ?_ | refine bnd1 ?_ | refine drawQ (by decide +kernel) mixed (by decide +kernel) ?_)
        refine (Has_ok bm' hSm.1 (digP (keyD nn key) i) w13).mono ?_
        rintro _ w14 ⟨rfl, hE14⟩
        have hz14 := hE14.size
        by_cases hh : hasB bm' (digP (keyD nn key) i : Int) = true
        · rw [hh]
          have hrk := rank_lt hh
          rw [← hkl2] at hrk
          have hc1 : ks.length ≤ kc1 := by obtain ⟨_, _, e, h1, _⟩ := hSm.2.2; cases e; exact h1
          repeat (first | exact trivial | refine stp ?_ | refine ldCg ?_ | refine ldNg ?_ | refine ldSg ?_ | refine ldSb ?_ | refine bnd ?_ | refine bnd1 ?_)
          refine drawX (.of [1, 2, 3, 4, 6, 7, 8, 9, 10, 0, 5, 11, 12]) mixed (by decide +kernel) (fun w15 hE15 hz15 => ?_)
          repeat (first | exact trivial | refine stp ?_ | refine ldCg ?_ | refine ldNg ?_ | refine ldSg ?_ | refine ldSb ?_ | refine bnd ?_ | refine bnd1 ?_ | refine drawQ (by decide +kernel) mixed (by decide +kernel) ?_)
          intro a16 hn16 ha16
          generalize hre : rankB bm' (digP (keyD nn key) i : Int) = r at *
          repeat (first | exact trivial | refine stp ?_ | refine ldCg ?_ | refine ldNg ?_ | refine ldSg ?_ | refine ldSb ?_ | refine bnd ?_ | refine bnd1 ?_ | refine drawQ (by decide +kernel) mixed (by decide +kernel) ?_)
          rw [w64 (by omega) (by omega)]
          repeat (first | exact trivial | refine stp ?_ | refine ldCg ?_ | refine ldNg ?_ | refine ldSg ?_ | refine ldSb ?_ | refine bnd ?_ | refine bnd1 ?_ | refine drawQ (by decide +kernel) mixed (by decide +kernel) ?_)
          intro a17 hn17 ha17
          have h32 : ∀ x ∈ ks, (vbs x).length = 32 := fun x hx => by rw [vbs_len]; exact hSm.2.1 x hx
          have hkl3 := dvs_len ks hSm.2.1
          have hK15 : SlC w15 (.slice ka1 ks.length kc1) ks.length (ks.flatMap vbs) := hSm.2.2.ext .go
          have hPre : SlC w15 (.slice a16 r kc1) r ((ks.take r).flatMap vbs) := by rw [← flat_take vbs 32 ks r h32]; exact hK15.pre (by omega) hkl3 ha16
          have hSuf : SlC w15 (.slice a17 (ks.length - (r + 1)) (kc1 - (r + 1))) (ks.length - (r + 1)) ((ks.drop (r + 1)).flatMap vbs) := by
            rw [← flat_drop vbs 32 ks (r + 1) h32]
            exact hK15.suf (by omega) hkl3 (fun b o h => by
              obtain ⟨o', h1, h2⟩ := ha17 b o h
              exact ⟨o', h1, fun h3 => by rw [h2 (by omega)]; congr 1⟩)
          rw [show ((r : Int) - 0).toNat = r from by omega, show ((kc1 : Int) - 0).toNat = kc1 from by omega, show ((ks.length : Int) - ((r : Int) + 1)).toNat = ks.length - (r + 1) from by omega, show ((kc1 : Int) - ((r : Int) + 1)).toNat = kc1 - (r + 1) from by omega]
          first | refine newS ?_ | refine newZ ?_
          intro w18 hE18 hz18 hB18
          refine toldK ?_
          repeat (first | exact trivial | refine stp ?_ | refine ldCg ?_ | refine ldNg ?_ | refine ldSg ?_ | refine ldSb ?_ | refine bnd ?_ | refine bnd1 ?_ | refine drawQ (by decide +kernel) mixed (by decide +kernel) ?_)
          have hO18 : Own w18 w15.heap.size 28 32 (.slice (some ⟨w15.heap.size, 0, none⟩) 0 0) 0 [] := own_mk (xs := []) (rest := []) hB18 (Nat.le_refl _) rfl rfl (Nat.le_refl _) (by decide)
          have hl1' := dvs_len (ks.take r) (fun d hd => hSm.2.1 d (List.mem_of_mem_take hd))
          have hl2' := dvs_len (ks.drop (r + 1)) (fun d hd => hSm.2.1 d (List.mem_of_mem_drop hd))
          rw [List.length_take, Nat.min_eq_left (by omega)] at hl1'
          rw [List.length_drop] at hl2'
          refine apS (sz := 32) (n := 0) (m := r) Tryz.underlying49 z28 c28 rfl (by decide) hO18 (by omega) (hPre.ext hE18) hl1' (fun u hu => by obtain ⟨d, _, hd⟩ := List.mem_flatMap.1 hu; exact vbs_one _ _ hd) (by omega) (by rw [by28]; omega) (fun v19 w19 hO19 hg19 => ?_)
          have hE19 := below_of_grown hO18 (by omega) hg19
          have hz19 := hE19.size
          rw [Nat.zero_add, List.nil_append] at hO19
          obtain ⟨a19, c19, rfl⟩ := own_slice hO19
          refine toldK ?_
          repeat (first | exact trivial | refine stp ?_ | refine ldCg ?_ | refine ldNg ?_ | refine ldSg ?_ | refine ldSb ?_ | refine bnd ?_ | refine bnd1 ?_ | refine drawQ (by decide +kernel) mixed (by decide +kernel) ?_)
          have hE15' : Ext w15 w19 := hE18.trans hE19
          refine apS (sz := 32) (n := r) (m := ks.length - (r + 1)) Tryz.underlying49 z28 c28 rfl (by decide) hO19 (by omega) (hSuf.ext hE15') hl2' (fun u hu => by obtain ⟨d, _, hd⟩ := List.mem_flatMap.1 hu; exact vbs_one _ _ hd) (by omega) (by rw [by28]; omega) (fun v20 w20 hO20 hg20 => ?_)
          have hE20 := below_of_grown hO19 (by omega) hg20
          have hz20 := hE20.size
          obtain ⟨a20, c20, rfl⟩ := own_slice hO20
          refine toldK ?_
          repeat (first | exact trivial | refine stp ?_ | refine ldCg ?_ | refine ldNg ?_ | refine ldSg ?_ | refine ldSb ?_ | refine bnd ?_ | refine bnd1 ?_ | refine drawQ (by decide +kernel) mixed (by decide +kernel) ?_)
          have hcut : ks' = ks.take r ++ ks.drop (r + 1) := by rw [hks', cutK_has hh (by omega), hre]
          have hl3 : r + (ks.length - (r + 1)) = ks'.length := by rw [hcut, List.length_append, List.length_take, List.length_drop]; omega
          have hS20 := SlC.of_own hO20
          rw [hl3, ← List.flatMap_append, ← hcut] at hS20
          rw [hl3]
          exact ⟨(a20, c20), ⟨.go, hS20⟩, rfl⟩
        · rw [Bool.not_eq_true] at hh
          rw [hh]
          rw [cutK, if_neg (by rw [hh]; decide)] at hks'
          subst hks'
          repeat (first | exact trivial | refine stp ?_ | refine ldCg ?_ | refine ldNg ?_ | refine ldSg ?_ | refine ldSb ?_ | refine bnd ?_ | refine bnd1 ?_ | refine drawQ (by decide +kernel) mixed (by decide +kernel) ?_)
          exact ⟨(ka1, kc1), ⟨.go, hSm.2.2.ext .go⟩, rfl⟩
      · rintro ⟨ra, rc⟩ s15 w15 ⟨hE15, hS15⟩
        have hz15 := hE15.size
        simp only at hS15
        repeat (first | exact trivial | refine stp ?_ | refine ldCg ?_ | refine ldNg ?_ | refine ldSg ?_ | refine ldSb ?_ | refine bnd ?_ | refine bnd1 ?_ | refine drawQ (by decide +kernel) mixed (by decide +kernel) ?_)
        refine bldC [.int .u16 0, .slice ra ks'.length rc] (by kernel_rfl) ?_
        repeat (first | exact trivial | refine stp ?_ | refine ldCg ?_ | refine ldNg ?_ | refine ldSg ?_ | refine ldSb ?_ | refine bnd ?_ | refine bnd1 ?_ | refine drawQ (by decide +kernel) mixed (by decide +kernel) ?_)
        refine ⟨rfl, rfl, ?_⟩
        first | refine newS ?_ | refine newZ ?_
        intro w16 hE16 hz16 hB16
        repeat (first | exact trivial | refine stp ?_ | refine ldCg ?_ | refine ldNg ?_ | refine ldSg ?_ | refine ldSb ?_ | refine bnd ?_ | refine bnd1 ?_ | refine drawQ (by decide +kernel) mixed (by decide +kernel) ?_)
        refine ldRowF (f := SR.cells) 1 ht' ?_
        repeat (first | exact trivial | refine stp ?_ | refine ldCg ?_ | refine ldNg ?_ | refine ldSg ?_ | refine ldSb ?_ | refine bnd ?_ | refine bnd1 ?_ | refine drawQ (by decide +kernel) mixed (by decide +kernel) ?_)
        refine bldC [.int .u16 0, .slice ka2 ks'.length kc2] (by kernel_rfl) ?_
        repeat (first | exact trivial | refine stp ?_ | refine ldCg ?_ | refine ldNg ?_ | refine ldSg ?_ | refine ldSb ?_ | refine bnd ?_ | refine bnd1 ?_ | refine drawQ (by decide +kernel) mixed (by decide +kernel) ?_)
        refine ⟨rfl, rfl, ?_⟩
        first | refine newS ?_ | refine newZ ?_
        intro w17 hE17 hz17 hB17
        repeat (first | exact trivial | refine stp ?_ | refine ldCg ?_ | refine ldNg ?_ | refine ldSg ?_ | refine ldSb ?_ | refine bnd ?_ | refine bnd1 ?_ | refine drawQ (by decide +kernel) mixed (by decide +kernel) ?_)
        refine (SameSteps_ok [⟨.slice ra ks'.length rc, 0, ks'⟩] [⟨.slice ka2 ks'.length kc2, 0, ks'⟩] _ _ w17 ⟨SlC.of_blk (Blk.go (h := hB16)) (by simp), ?_⟩ ⟨SlC.of_blk hB17 (by simp), ?_⟩).mono ?_
        · intro t ht
          obtain rfl := List.mem_singleton.1 ht
          exact ⟨(by decide : (0 : Nat) < 65536), hSm'.2.1, hS15.ext .go⟩
        · intro t ht
          obtain rfl := List.mem_singleton.1 ht
          exact ⟨(by decide : (0 : Nat) < 65536), hSm'.2.1, hSm'.2.2.ext .go⟩
        rintro _ w18 ⟨rfl, hE18⟩
        have hz18 := hE18.size
        rw [show decide (List.map SR.dt [(⟨.slice ra ks'.length rc, 0, ks'⟩ : SR)] = List.map SR.dt [(⟨.slice ka2 ks'.length kc2, 0, ks'⟩ : SR)]) = true from decide_eq_true rfl]
        repeat (first | exact trivial | refine stp ?_ | refine ldCg ?_ | refine ldNg ?_ | refine ldSg ?_ | refine ldSb ?_ | refine bnd ?_ | refine bnd1 ?_ | refine drawQ (by decide +kernel) mixed (by decide +kernel) ?_)
        exact ⟨i + 1, ⟨.go, by omega⟩, by rw [w64 (by omega) (by omega)]; rfl, by omega⟩
    · exact .go
end Go.Proofs.YtebbgninkbghlaaGreatDoor

/-! Row -/
namespace Go.Proofs.YtebbgninkbghlaaGreatDoor
set_option maxRecDepth 100000
open Go Go.RowKit Go.ChangeShapes Go.WideShapes Go.ChangeAt
set_option linter.unusedVariables false
set_option linter.unusedSimpArgs false

/-- Each of the types can be read and is a row of the table. -/
def rowedT (P : Program) (ts : List TypeId) : Bool := ts.all fun t => P.readableRec t && decide (t < P.types.size)

theorem below_trodAll {H : Type} {enc : TypeId × Value → H} {P : Program} (hl : laidOutB P = true) {W W' : World} (hb : Below W.heap.size W W') :
    ∀ {ts : List TypeId} {vs : List Value} {ds : List (DataW H)} {ps : List MemPlace}, rowedT P ts = true → DataW.TrodAll enc P W 0 (fun _ => true) true ts vs ds ps → (∀ x ∈ ps, x.block < W.heap.size) → DataW.TrodAll enc P W' 0 (fun b => decide (b < W.heap.size)) true ts vs ds ps
  | [], [], [], _, _, h, _ => h
  | [], _ :: _, _, _, _, h, _ => by simp [DataW.TrodAll] at h
  | [], [], _ :: _, _, _, h, _ => by simp [DataW.TrodAll] at h
  | _ :: _, [], _, _, _, h, _ => by simp [DataW.TrodAll] at h
  | _ :: _, _ :: _, [], _, _, h, _ => by simp [DataW.TrodAll] at h
  | t :: ts, v :: vs, d :: ds, ps, hr, h, hlt => by
    obtain ⟨p, q, h1, h2, rfl⟩ := h
    simp only [rowedT, List.all_cons, Bool.and_eq_true, decide_eq_true_eq] at hr
    refine ⟨p, q, Below.trod hl hr.1.1 hr.1.2 h1 hb (fun x hx => hlt x (by simp [hx])), below_trodAll hl hb (by simpa [rowedT] using hr.2) h2 (fun x hx => hlt x (by simp [hx])), rfl⟩

/-- What a law's row asks of the end, given what the walk says: true, and nothing old has turned. -/
theorem law_post {H : Type} {enc : TypeId × Value → H} {P : Program} (hl : laidOutB P = true) {f : Func} {s : ChangeSpec} {tb : TypeId} (hr : f.resultTypes = #[tb]) (hb : P.underlying tb = some .bool)
    (hp : rowedT P f.params.toList = true) (hv : s.vars = []) {W W' : World} {args : Array Value} {ds gs : List (DataW H)} {before : List MemPlace}
    (hW : DataW.Whole enc P f.params.toList s.vars false W args.toList ds gs before)
    (hfn : (s.fn H (ds ++ gs)).results = [.lit (.bool true)] ∧ (s.fn H (ds ++ gs)).args = ds ∧ (s.fn H (ds ++ gs)).vars = gs) (hE : Ext W W') :
    s.post enc P f false true false false W args (.bool true) W' := by
  have hW' := hW
  obtain ⟨p, q, hA, hV, rfl, hfz, hnd⟩ := hW
  refine ⟨ds, gs, p ++ q, [], p, q, hW', ?_, ?_, ?_, hE.frame _, fun h => by cases h⟩
  · rw [hfn.1, hr]
    exact trodAll_cons_mk (shut_bool hb _) trodAll_mk0
  · rw [hfn.2.1]
    exact below_trodAll hl hE hp hA (fun x hx => by simpa using hW'.lt x (by simp [hx]))
  · rw [hfn.2.2]
    rw [hv] at hV ⊢
    obtain ⟨rfl, rfl⟩ := trodVars_none hV
    rfl

theorem CallK.toCalls {P : Program} {f : FuncId} {args : Array Value} {w : World} (h : CallK P f args w fun v w' => v = .bool true ∧ Ext w w') (hb : callable P f = true) : Calls P f args w fun e w' => e = .returned (.bool true) ∧ Ext w w' :=
  (h.body hb).calls.mono fun e w' ⟨v, he, hv, hE⟩ => ⟨by rw [he, hv], hE⟩

/-! ### Arguments opened -/
theorem wf_bounds {k : IntKind} {n : Int} (h : (Lit.int k n).wf = true) : k.min ≤ n ∧ n ≤ k.max := by
  simpa [Lit.wf] using h
theorem cells_u8 {H : Type} {enc : TypeId × Value → H} {P : Program} {w : World} {base : Nat} {sp : Nat → Bool} {held : Bool} {fuel e : Nat} {c : List Value} {x : DataW H × List MemPlace} (he : P.underlying e = some (.int .u8))
    (h : DataW.trod enc P w base sp held fuel e c = some x) : ∃ b : UInt8, c = [vb b] := by
  obtain ⟨n, h1, hx, hw⟩ := DataW.trod_int he h
  have hb := wf_bounds hw
  simp [IntKind.min, IntKind.max, IntKind.signed, IntKind.bits] at hb
  refine ⟨UInt8.ofNat n.toNat, ?_⟩
  rw [h1]
  simp only [vb, UInt8.toNat_ofNat', List.cons.injEq, and_true]
  rw [Nat.mod_eq_of_lt (by omega), Int.toNat_of_nonneg hb.1]

theorem open_num {H : Type} {enc : TypeId × Value → H} {P : Program} {w : World} {base b0 : Nat} {r : Reach} {sp : Nat → Bool} {held : Bool} {t : Nat} {k : IntKind} {v : Value} {d : DataW H} {ps : List MemPlace} (ht : P.underlying t = some (.int k))
    (hval : Value.okWide P w r b0 t v) (hd : DataW.Trod enc P w base sp held t v d ps) : ∃ n : Int, v = .int k n ∧ k.min ≤ n ∧ n ≤ k.max := by
  obtain ⟨n, rfl, _, _, h⟩ := open_int ht hval hd
  exact ⟨n, rfl, wf_bounds h⟩

theorem list_of {α : Type} {p : Nat → α → Prop} : ∀ n, (∀ i, i < n → ∃ x, p i x) → ∃ l : List α, l.length = n ∧ ∀ i x, l[i]? = some x → p i x
  | 0, _ => ⟨[], rfl, by simp⟩
  | n + 1, h => by
    obtain ⟨l, hl, hp⟩ := list_of n (fun i hi => h i (by omega))
    obtain ⟨x, hx⟩ := h n (by omega)
    refine ⟨l ++ [x], by simp [hl], fun i y hy => ?_⟩
    by_cases hi : i < n
    · rw [List.getElem?_append_left (by omega)] at hy; exact hp i y hy
    · rw [List.getElem?_append_right (by omega)] at hy
      have : i - l.length = 0 := by
        rcases Nat.eq_zero_or_pos (i - l.length) with h0 | h0
        · exact h0
        · rw [List.getElem?_eq_none (by simp; omega)] at hy; cases hy
      have e : i = n := by omega
      rw [this] at hy
      simp at hy
      rw [e, ← hy]; exact hx
theorem flat_inv {α : Type} {f : α → List Value} {sz : Nat} (hz : 0 < sz) : ∀ (ds : List α) (j : Nat) (u : Value), (∀ d ∈ ds, (f d).length = sz) → (ds.flatMap f)[j]? = some u → ∃ d, ds[j / sz]? = some d ∧ (f d)[j % sz]? = some u
  | [], j, u, _, h => by simp at h
  | x :: ds, j, u, hs, h => by
    have hx : (f x).length = sz := hs x (by simp)
    simp only [List.flatMap_cons] at h
    by_cases hj : j < sz
    · rw [List.getElem?_append_left (by omega)] at h
      exact ⟨x, by rw [Nat.div_eq_of_lt hj]; rfl, by rw [Nat.mod_eq_of_lt hj]; exact h⟩
    · rw [List.getElem?_append_right (by omega), hx] at h
      obtain ⟨d, h1, h2⟩ := flat_inv hz ds (j - sz) u (fun d hd => hs d (by simp [hd])) h
      refine ⟨d, ?_, ?_⟩
      · rw [Nat.div_eq_sub_div hz (by omega)]; exact h1
      · rw [show j % sz = (j - sz) % sz from by rw [Nat.mod_eq_sub_mod (by omega)]]; exact h2

end Go.Proofs.YtebbgninkbghlaaGreatDoor

/-! RowU -/
namespace Go.Proofs.YtebbgninkbghlaaGreatDoor
set_option maxRecDepth 100000
open Go Go.RowKit Go.ChangeShapes Go.WideShapes Go.ChangeAt
set_option linter.unusedVariables false
set_option linter.unusedSimpArgs false

/-! ### Bulk -/
theorem bulk_one {H : Type} (d : DataW H) : 1 ≤ Rows.uptoBulk d := by
  cases d with
  | lit l => cases l <;> simp [Rows.uptoBulk]
  | nil => simp [Rows.uptoBulk]
  | ptr d => simp [Rows.uptoBulk]
  | slice elems spare => simp [Rows.uptoBulk]
  | agg parts => simp [Rows.uptoBulk]
  | iface t d => simp [Rows.uptoBulk]
  | map entries => simp [Rows.uptoBulk]
  | held h => simp [Rows.uptoBulk]
theorem bulk_mem {H : Type} {d : DataW H} {l : List (DataW H)} (h : d ∈ l) : Rows.uptoBulk d ≤ Rows.uptoBulkAll l := by
  induction l with
  | nil => cases h
  | cons x r ih =>
    simp only [Rows.uptoBulkAll]
    cases List.mem_cons.1 h with
    | inl e => subst e; omega
    | inr e => have := ih e; omega
theorem bulk_len {H : Type} (l : List (DataW H)) : l.length ≤ Rows.uptoBulkAll l := by
  induction l with
  | nil => simp [Rows.uptoBulkAll]
  | cons x r ih => have := bulk_one x; simp only [Rows.uptoBulkAll, List.length_cons]; omega
theorem bulk_agg {H : Type} {d : DataW H} {l : List (DataW H)} (h : d ∈ l) : Rows.uptoBulk d ≤ Rows.uptoBulk (.agg l) := by
  have := bulk_mem h
  simp only [Rows.uptoBulk]
  omega
theorem bulk_small {H : Type} {l : List (DataW H)} (hk : Rows.uptoSmall H l = true) : Rows.uptoBulkAll l ≤ 1048576 := by
  simpa [Rows.uptoSmall] using hk

/-! ### Lists opened, wherever they lie -/
section opened
variable {H : Type} {enc : TypeId × Value → H} {w : World} {sp : Nat → Bool} {fuel : Nat} {cs : List Value} {x : DataW H × List MemPlace}
theorem open_slb {α : Type} {f : α → List Value} {q : Nat → α → Prop} {P : Program} {t e sz : Nat} (ht : P.underlying t = some (.slice e)) (hsz : P.cellsOf e = sz) (hz : 0 < sz) (hq : ∀ m n a, m ≤ n → q m a → q n a)
    (hel : ∀ n cs x, DataW.trod enc P w 0 sp true n e cs = some x → ∃ a, f a = cs ∧ q (Rows.uptoBulk x.1) a) (hf : DataW.trod enc P w 0 sp true fuel t cs = some x) :
    ∃ (v : Value) (l : List α), cs = [v] ∧ (∀ a ∈ l, (f a).length = sz) ∧ SlC w v l.length (l.flatMap f) ∧ l.length ≤ Rows.uptoBulk x.1 ∧ ∀ a ∈ l, q (Rows.uptoBulk x.1) a := by
  rcases Go.Deep.open_slice ht hf with ⟨h1, h2⟩ | ⟨a, len, cap, m, n, D, Pl, h1, hb, hlc, hcm, hmm, hx, hall⟩
  · exact ⟨_, [], h1, by simp, ⟨none, 0, rfl, Nat.le_refl _, by decide, Or.inl rfl⟩, by simp, by simp⟩
  · have hlm : len ≤ m := by rw [hmm]; split <;> omega
    have hcm' : cap ≤ 9223372036854775807 := by simpa [maxLen] using hcm
    have hD : ∀ i, i < len → Rows.uptoBulk (D i) ≤ Rows.uptoBulk x.1 := by
      intro i hi
      rw [hx]
      simp only [Rows.uptoBulk]
      have := bulk_mem (d := D i) (l := (List.range len).map D) (List.mem_map.2 ⟨i, by simpa using hi, rfl⟩)
      omega
    have hlen : len ≤ Rows.uptoBulk x.1 := by
      rw [hx]
      simp only [Rows.uptoBulk]
      have := bulk_len ((List.range len).map D)
      simp at this
      omega
    by_cases h0 : len = 0
    · subst h0
      exact ⟨_, [], h1, by simp, ⟨_, cap, rfl, Nat.zero_le _, hcm', Or.inl rfl⟩, by simp, by simp⟩
    · obtain ⟨b, o, s⟩ := a
      have hspot : s = none := by
        obtain ⟨cs', hc, _⟩ := hall 0 (by omega)
        obtain ⟨_, hlen', hcell⟩ := World.cells?_some hc
        have h3 := hcell 0 (by omega)
        rw [hsz] at h3 hlen'
        cases s with
        | none => rfl
        | some s =>
          exfalso
          have h4 : w.cell? ⟨b, o, some s⟩ = cs'[0]? := by
            have : ((⟨b, o, some s⟩ : Addr).add (0 * sz)).add 0 = ⟨b, o, some s⟩ := by simp [Addr.add]
            rw [← this]
            exact h3
          rw [List.getElem?_eq_getElem (by omega)] at h4
          simp only [World.cell?] at h4
          split at h4 <;> simp at h4
      subst hspot
      obtain ⟨l, hl, hp⟩ := list_of (p := fun i (y : α) => (f y).length = sz ∧ (∀ k u, (f y)[k]? = some u → w.cell? ⟨b, o + (i * sz + k), none⟩ = some u) ∧ q (Rows.uptoBulk x.1) y) len (fun i hi => by
        obtain ⟨cs', hc, ht2⟩ := hall i (by omega)
        obtain ⟨y, rfl, hqy⟩ := hel _ _ _ ht2
        obtain ⟨_, hlen', hcell⟩ := World.cells?_some hc
        rw [hsz] at hlen' hcell
        refine ⟨y, hlen', fun k u hk => ?_, hq _ _ _ (hD i hi) hqy⟩
        have hk' : k < sz := by rw [← hlen']; exact (List.getElem?_eq_some_iff.1 hk).1
        have h5 := hcell k hk'
        rw [addr_add, addr_add, hk] at h5
        rwa [Nat.add_assoc] at h5)
      subst h1
      refine ⟨_, l, rfl, fun y hy => ?_, ⟨_, cap, by rw [hl], by omega, hcm', Or.inr ⟨b, o, rfl, fun j u hj => ?_⟩⟩, by omega, fun y hy => ?_⟩
      · obtain ⟨i, hi⟩ := List.getElem?_of_mem hy
        exact (hp i y hi).1
      · obtain ⟨y, h1, h2⟩ := flat_inv hz l j u (fun y hy => by obtain ⟨i, hi⟩ := List.getElem?_of_mem hy; exact (hp i y hi).1) hj
        have := (hp _ y h1).2.1 _ u h2
        rwa [show j / sz * sz + j % sz = j from by rw [Nat.mul_comm]; exact Nat.div_add_mod j sz] at this
      · obtain ⟨i, hi⟩ := List.getElem?_of_mem hy
        exact (hp i y hi).2.2
theorem vb_flat (l : List UInt8) : l.flatMap (fun b => [vb b]) = vbs l := by
  induction l with
  | nil => rfl
  | cons a l ih => simp only [List.flatMap_cons, ih]; rfl
theorem in_bytes (hf : DataW.trod enc Tryz.prog w 0 sp true fuel 22 cs = some x) : ∃ v xs, cs = [v] ∧ SlB w v xs ∧ xs.length ≤ Rows.uptoBulk x.1 := by
  obtain ⟨v, l, h1, _, h3, h4, _⟩ := open_slb (f := fun b => [vb b]) (q := fun _ _ => True) Tryz.underlying22 c5 (by decide) (fun _ _ _ _ h => h) (fun m cs x h => by obtain ⟨y, rfl⟩ := cells_u8 Tryz.underlying5 h; exact ⟨y, rfl, trivial⟩) hf
  rw [vb_flat] at h3
  exact ⟨v, l, h1, h3, h4⟩
theorem in_pair (hf : DataW.trod enc Tryz.prog w 0 sp true fuel 47 cs = some x) : ∃ p : PR, p.cells = cs ∧ SlB w p.kv p.k ∧ SlB w p.vv p.v ∧ p.k.length ≤ Rows.uptoBulk x.1 ∧ p.v.length ≤ Rows.uptoBulk x.1 := by
  obtain ⟨y0, y1, n, rfl, hl, h0, h1⟩ := trod_struct2 Tryz.underlying47 hf
  rw [c47] at hl
  simp only [c22] at h0 h1
  obtain ⟨u, xs, e0, hu, hb0⟩ := in_bytes h0
  obtain ⟨v, ys, e1, hv, hb1⟩ := in_bytes h1
  refine ⟨⟨u, v, xs, ys⟩, ?_, hu, hv, Nat.le_trans hb0 (bulk_agg (by simp)), Nat.le_trans hb1 (bulk_agg (by simp))⟩
  match cs, hl with
  | [a, b], _ =>
    simp at e0 e1
    simp only [PR.cells, e0, e1]
theorem in_pairs (hf : DataW.trod enc Tryz.prog w 0 sp true fuel 24 cs = some x) : ∃ v ps, cs = [v] ∧ PairsAt w v ps ∧ ps.length ≤ Rows.uptoBulk x.1 ∧ ∀ p ∈ ps, p.k.length ≤ Rows.uptoBulk x.1 ∧ p.v.length ≤ Rows.uptoBulk x.1 := by
  obtain ⟨v, l, h1, h2, h3, h4, h5⟩ := open_slb (f := PR.cells) (q := fun m p => SlB w p.kv p.k ∧ SlB w p.vv p.v ∧ p.k.length ≤ m ∧ p.v.length ≤ m) Tryz.underlying24 c47 (by decide) (fun m n a h g => ⟨g.1, g.2.1, Nat.le_trans g.2.2.1 h, Nat.le_trans g.2.2.2 h⟩) (fun m cs x h => by obtain ⟨s, e, g⟩ := in_pair h; exact ⟨s, e, g⟩) hf
  exact ⟨v, l, h1, ⟨h3, fun s hs => ⟨(h5 s hs).1, (h5 s hs).2.1⟩⟩, h4, fun s hs => (h5 s hs).2.2⟩

end opened

end Go.Proofs.YtebbgninkbghlaaGreatDoor

/-! RowW -/
namespace Go.Proofs.YtebbgninkbghlaaGreatDoor
set_option maxRecDepth 100000
open Go Go.RowKit Go.ChangeShapes Go.WideShapes Go.ChangeAt
set_option linter.unusedVariables false
set_option linter.unusedSimpArgs false

section opened
variable {H : Type} {enc : TypeId × Value → H} {w : World} {sp : Nat → Bool} {r : Reach} {b0 : Nat} {v : Value} {d : DataW H} {p : List MemPlace}
theorem open_bsb (hval : Value.okWide Tryz.prog w r b0 22 v) (hd : DataW.Trod enc Tryz.prog w 0 sp true 22 v d p) : ∃ xs, SlB w v xs ∧ xs.length ≤ Rows.uptoBulk d := by
  obtain ⟨a0, len0, cap0, rfl⟩ := okWide_slice Tryz.underlying22 hval
  obtain ⟨fuel, hf⟩ := hd
  obtain ⟨u, xs, h1, h2, h3⟩ := in_bytes hf
  simp [Value.cells] at h1
  subst h1
  exact ⟨xs, h2, h3⟩
theorem open_prs (hval : Value.okWide Tryz.prog w r b0 24 v) (hd : DataW.Trod enc Tryz.prog w 0 sp true 24 v d p) : ∃ ps, PairsAt w v ps ∧ ps.length ≤ Rows.uptoBulk d ∧ ∀ q ∈ ps, q.k.length ≤ Rows.uptoBulk d ∧ q.v.length ≤ Rows.uptoBulk d := by
  obtain ⟨a0, len0, cap0, rfl⟩ := okWide_slice Tryz.underlying24 hval
  obtain ⟨fuel, hf⟩ := hd
  obtain ⟨u, ps, h1, h2, h3⟩ := in_pairs hf
  simp [Value.cells] at h1
  subst h1
  exact ⟨ps, h2, h3⟩
end opened

/-! ### The table -/
theorem gTab : Tryz.prog.globalNamed "notary/sha.words" = some 1 := by kernel_rfl
theorem gTabType : (Tryz.prog.globals[1]?).map (·.type) = some 241 := by kernel_rfl
theorem tab_eq {H : Type} : (Rows.laid_notary_sha_words : DataW H) = Lib.tabData .u32 (KW.map fun x => (x.toNat : Int)) := by kernel_rfl
theorem words_of {W : World} (h : laidMetH Tryz.prog [("notary/sha.words", Rows.laid_notary_sha_words)] W) : WordsAt W 1 := by
  have h' : laidMetH Tryz.prog [("notary/sha.words", Lib.tabData .u32 (KW.map fun x => (x.toNat : Int)))] W := by
    rw [← tab_eq]
    exact h
  have ht := Lib.tabIs_of_head (rest := []) gTab gTabType Tryz.underlying241 Tryz.underlying221 c221 c241 h'
  intro j hj
  have hc := ht.cell gTab j (by rw [List.length_map]; exact hj)
  rw [hc]
  have hl : j < KW.length := hj
  simp only [vw, List.getD_eq_getElem?_getD, List.getElem?_map, List.getElem?_eq_getElem hl, Option.map_some, Option.getD_some]

end Go.Proofs.YtebbgninkbghlaaGreatDoor
