/-
  Package notarytop: WholeMap. Conditions: as stated in each theorem. The frame of the rows: a law's row out of its walk, whatever its parameters; digests and numbers opened. Conditions: none; plain lemmas. The frame of rows that list the table and bound the bulk: questions (structs with lists of structs) opened, with their sizes; the table out of the row's list. Conditions: none; plain lemmas. The frame of rows: parameters opened; the table of SHA-256. Conditions: none; plain lemmas. The frame of rows: entries opened. Conditions: none; plain lemmas.
-/
import Derived.Test.YtieaoldoiahgpaaDoorMWholeMap11
import Derived.Test.YtieaoldoiahgpaaDoorMWholeMap7
import Derived.Deep.Slices
import Derived.Test.YtieaoldoiahgpaaDoorMWholeMap10
import Derived.Lib.LaidTab
import Derived.Lib.SmallJoins
import Derived.Test.YtieaoldoiahgpaaDoorMWholeMap8
import Derived.Deep.Strs
/-! Tope -/
namespace Go.Proofs.YtieaoldoiahgpaaDoor
set_option maxRecDepth 100000
open Go Go.RowKit
set_option linter.unusedVariables false
set_option linter.unusedSimpArgs false
set_option maxHeartbeats 8000000
attribute [local irreducible] vcT opsT qT vcOp Q1 vcPure vcLoad vcStore ldC ldN ldD grdT grdQ vc vcOps vcQ hT
attribute [local irreducible] sumR sumP shaP keyD bucketP branchP

theorem tWidth_ok (m : Nat) (h : m < 256) (w : World) : CallK Tryd.prog 4 [.int .u8 m].toArray w fun v w' => v = .int .i64 (1 + m % 32 : Nat) ∧ Ext w w' := by
  refine enterT Tryd.func4 rfl Tryd.ntmps4 Tryd.results4 rfl (by decide) ?_
  simp only [↓VD, VP, VT, isAggD, reduceCtorEq, Int.reduceEq, Int.reduceNe, Int.reduceLT, Int.reduceLE, implies_true, Nat.reduceEqDiff, reduceIte, ite_true, ite_false, eq_self, Nat.reduceLT, Nat.reduceLeDiff, Nat.reduceAdd, Nat.reduceMul, Nat.reduceSub, intOf]
  have e1 : IntKind.i64.wrap (m : Int) = m := w64 (by omega) (by omega)
  have e2 : (m : Int).tmod 32 = ((m % 32 : Nat) : Int) := by rw [Int.tmod_eq_emod_of_nonneg (by omega)]; rfl
  rw [e1, e2, w64 (by omega) (by omega)]
  exact ⟨by omega, Ext.rfl' w⟩
theorem getI_mem' {n : Int} {m : List It} (hO : OkI n m) {y : It} (hy : y ∈ m) : getI m y.k = some y.v := by
  cases hg : getI m y.k with
  | none => exact absurd rfl (getI_none.1 hg y hy)
  | some v =>
    obtain ⟨z, hz, hzk, hzv⟩ := getI_some_mem hg
    rw [← key_of (n := n) hO.sorted hO.dig hz hy hzk, hzv]
theorem getI_pairs {n : Int} {m : List It} (hO : OkI n m) {qs : List PR} (hd : qs.map PR.dat = m.map It.pr) (k v : List UInt8) : getI m k = some v ↔ ∃ q ∈ qs, q.k = k ∧ q.v = v := by
  constructor
  · intro h
    obtain ⟨y, hy, h1, h2⟩ := getI_some_mem h
    have : y.pr ∈ qs.map PR.dat := by rw [hd]; exact List.mem_map_of_mem hy
    obtain ⟨q, hq, he⟩ := List.mem_map.1 this
    simp only [PR.dat, It.pr, Prod.mk.injEq] at he
    exact ⟨q, hq, by rw [he.1, h1], by rw [he.2, h2]⟩
  · rintro ⟨q, hq, rfl, rfl⟩
    have : q.dat ∈ m.map It.pr := by rw [← hd]; exact List.mem_map_of_mem hq
    obtain ⟨y, hy, he⟩ := List.mem_map.1 this
    simp only [PR.dat, It.pr, Prod.mk.injEq] at he
    rw [← he.1, ← he.2]
    exact getI_mem' hO hy
theorem WholeMap_ok (m8 : Nat) (h8 : m8 < 256) (es : List EnR) (ev pv : Value) (probe : List UInt8) (w : World) (hW : WordsAt w 0) (he : EnsAt w ev es) (hp : SlB w pv probe) (hl : es.length ≤ 80000000) :
    CallK Tryd.prog 3 [.int .u8 m8, ev, pv].toArray w fun v w' => v = .bool true ∧ Ext w w' := by
  obtain ⟨ea, ec, rfl⟩ := slv_of he.1
  obtain ⟨pa, pc, rfl⟩ := slv_of hp
  refine enterT Tryd.func3 rfl Tryd.ntmps3 Tryd.results3 rfl (by decide) ?_
  repeat (first | exact trivial | refine stp ?_ | refine ldCg ?_ | refine ldNg ?_ | refine ldSg ?_ | refine ldSb ?_ | refine bnd ?_ | refine bnd1 ?_ | refine drawQ (by decide +kernel) mixed (by decide +kernel) ?_)
  refine (tWidth_ok m8 h8 w).mono ?_
  rintro _ w1 ⟨rfl, hE1⟩
  have hz1 := hE1.size
  obtain ⟨n, hn⟩ : ∃ n : Nat, n = 1 + m8 % 32 := ⟨_, rfl⟩
  rw [← hn]
  have hw : widB (n : Int) = true := (widB_iff n).2 (by omega)
  repeat (first | exact trivial | refine stp ?_ | refine ldCg ?_ | refine ldNg ?_ | refine ldSg ?_ | refine ldSb ?_ | refine bnd ?_ | refine bnd1 ?_ | refine drawQ (by decide +kernel) mixed (by decide +kernel) ?_)
  refine ⟨rfl, rfl, convN (xs := [107]) rfl rfl (by decide) (fun w2 hE2 hz2 hS2 => ?_)⟩
  repeat (first | exact trivial | refine stp ?_ | refine ldCg ?_ | refine ldNg ?_ | refine ldSg ?_ | refine ldSb ?_ | refine bnd ?_ | refine bnd1 ?_ | refine drawQ (by decide +kernel) mixed (by decide +kernel) ?_)
  refine ⟨rfl, rfl, convN (xs := [118]) rfl rfl (by decide) (fun w3 hE3 hz3 hS3 => ?_)⟩
  repeat (first | exact trivial | refine stp ?_ | refine ldCg ?_ | refine ldNg ?_ | refine ldSg ?_ | refine ldSb ?_ | refine bnd ?_ | refine bnd1 ?_ | refine drawQ (by decide +kernel) mixed (by decide +kernel) ?_)
  refine bldC [.int .u8 1, .slice (some ⟨w1.heap.size, 0, none⟩) 1 1, .slice (some ⟨w2.heap.size, 0, none⟩) 1 1] (by kernel_rfl) ?_
  repeat (first | exact trivial | refine stp ?_ | refine ldCg ?_ | refine ldNg ?_ | refine ldSg ?_ | refine ldSb ?_ | refine bnd ?_ | refine bnd1 ?_ | refine drawQ (by decide +kernel) mixed (by decide +kernel) ?_)
  refine ⟨rfl, rfl, ?_⟩
  first | refine newS ?_ | refine newZ ?_
  intro w4 hE4 hz4 hB4
  have hE4a : EnsAt w4 (.slice (some ⟨w3.heap.size, 0, none⟩) 1 1) [⟨1, .slice (some ⟨w1.heap.size, 0, none⟩) 1 1, .slice (some ⟨w2.heap.size, 0, none⟩) 1 1, [107], [118]⟩] := ⟨SlC.of_blk hB4 (by decide), fun e he => by rw [List.mem_singleton.1 he]; exact ⟨by simp only; omega, hS2.ext .go, hS3.ext .go⟩⟩
  refine (mapped_ok n hw _ _ w4 (hW.ext .go) hE4a (by simp)).mono ?_
  rintro _ w5 ⟨⟨b5, bb5, B5, rv5, rfl, hM5, _, hR5, _⟩, hE5⟩
  have hz5 := hE5.size
  have hl5 : (entsI n [(⟨1, .slice (some ⟨w1.heap.size, 0, none⟩) 1 1, .slice (some ⟨w2.heap.size, 0, none⟩) 1 1, [107], [118]⟩ : EnR)]).length = 1 := rfl
  generalize entsI n [(⟨1, .slice (some ⟨w1.heap.size, 0, none⟩) 1 1, .slice (some ⟨w2.heap.size, 0, none⟩) 1 1, [107], [118]⟩ : EnR)] = m5 at *
  repeat (first | exact trivial | refine stp ?_ | refine ldCg ?_ | refine ldNg ?_ | refine ldSg ?_ | refine ldSb ?_ | refine bnd ?_ | refine bnd1 ?_ | refine drawQ (by decide +kernel) mixed (by decide +kernel) ?_)
  refine (Len_hamt_ok n _ _ m5 w5 hM5 hR5.ok.len).mono ?_
  rintro _ w6 ⟨rfl, hE6⟩
  have hz6 := hE6.size
  rw [hl5, show ((1 : Nat) : Int) = 1 from rfl]
  repeat (first | exact trivial | refine stp ?_ | refine ldCg ?_ | refine ldNg ?_ | refine ldSg ?_ | refine ldSb ?_ | refine bnd ?_ | refine bnd1 ?_ | refine drawQ (by decide +kernel) mixed (by decide +kernel) ?_)
  have heE : EnsAt w6 (.slice ea es.length ec) es := ⟨he.1.ext .go, fun e h => ⟨(he.2 e h).1, (he.2 e h).2.1.ext .go, (he.2 e h).2.2.ext .go⟩⟩
  refine (mapped_ok n hw es _ w6 (hW.ext .go) heE (by omega)).mono ?_
  rintro _ w7 ⟨⟨b7, bb7, B, rv, rfl, hM7, hB7, hR, hbb⟩, hE7⟩
  have hz7 := hE7.size
  have hml := entsI_len n es es.length
  rw [List.take_length] at hml
  have hO := hR.ok
  have hBl : B.length = (entsI n es).length := hR.len.symm
  generalize entsI n es = m at *
  have hB7' := hB7
  obtain ⟨⟨ra, rc, rfl, hBk7, _⟩, _⟩ := hB7'
  have hrl : (rootD n m).length = 32 := by unfold rootD; split; exact sumR_len _ _; exact nodeD_len _ _ _ _
  repeat (first | exact trivial | refine stp ?_ | refine ldCg ?_ | refine ldNg ?_ | refine ldSg ?_ | refine ldSb ?_ | refine bnd ?_ | refine bnd1 ?_ | refine drawQ (by decide +kernel) mixed (by decide +kernel) ?_)
  refine qcall _ (fun w' hw' => Len_hamt_ok n _ _ m w' (hM7.ext .go) hO.len) ?_
  repeat (first | exact trivial | refine stp ?_ | refine ldCg ?_ | refine ldNg ?_ | refine ldSg ?_ | refine ldSb ?_ | refine bnd ?_ | refine bnd1 ?_ | refine drawQ (by decide +kernel) mixed (by decide +kernel) ?_)
  rw [hBl]
  intro w8 hE8
  have hz8 := hE8.size
  refine ⟨fun h => absurd rfl h, fun _ => ?_⟩
  repeat (first | exact trivial | refine stp ?_ | refine ldCg ?_ | refine ldNg ?_ | refine ldSg ?_ | refine ldSb ?_ | refine bnd ?_ | refine bnd1 ?_ | refine drawQ (by decide +kernel) mixed (by decide +kernel) ?_)
  refine (Root_hamt_ok n _ _ m w8 (hW.ext .go) (hM7.ext .go) hO.len).mono ?_
  rintro _ w9 ⟨rfl, hE9⟩
  have hz9 := hE9.size
  repeat (first | exact trivial | refine stp ?_ | refine ldCg ?_ | refine ldNg ?_ | refine ldSg ?_ | refine ldSb ?_ | refine bnd ?_ | refine bnd1 ?_ | refine drawQ (by decide +kernel) mixed (by decide +kernel) ?_)
  first | refine newS ?_ | refine newZ ?_
  intro w10 hE10 hz10 hB10
  repeat (first | exact trivial | refine stp ?_ | refine ldCg ?_ | refine ldNg ?_ | refine ldSg ?_ | refine ldSb ?_ | refine bnd ?_ | refine bnd1 ?_ | refine drawQ (by decide +kernel) mixed (by decide +kernel) ?_)
  refine (tShort_ok probe 64 (by decide) _ w10 (hp.ext .go)).mono ?_
  rintro _ w11 ⟨⟨ka, kc, rfl⟩, hSk, hE11⟩
  have hz11 := hE11.size
  have hk0 := hSk w hp
  have hkl : (probe.take 64).length ≤ 64 := by rw [List.length_take]; omega
  generalize probe.take 64 = key at *
  repeat (first | exact trivial | refine stp ?_ | refine ldCg ?_ | refine ldNg ?_ | refine ldSg ?_ | refine ldSb ?_ | refine bnd ?_ | refine bnd1 ?_ | refine drawQ (by decide +kernel) mixed (by decide +kernel) ?_)
  refine (Get_hamt_ok n hw _ _ _ m key w11 (hW.ext .go) (hM7.ext .go) hO (hk0.ext .go) (by omega)).mono ?_
  rintro _ w12 ⟨v12, rfl, hR12, hE12⟩
  have hz12 := hE12.size
  have hS12 := hR12.sl
  obtain ⟨va12, vc12, rfl⟩ := own_slice hR12.own
  clear hR12
  rw [if_neg (by omega)] at hS12
  repeat rw [if_neg (show ¬ 64 < key.length by omega)]
  rw [decide_eq_true (show key.length ≤ 64 by omega), Bool.true_and]
  repeat (first | exact trivial | refine stp ?_ | refine ldCg ?_ | refine ldNg ?_ | refine ldSg ?_ | refine ldSb ?_ | refine bnd ?_ | refine bnd1 ?_ | refine drawQ (by decide +kernel) mixed (by decide +kernel) ?_)
  refine (get_ok w6 w12 bb7 w6.heap.size B _ key _ .go (hB7.ext .go) (hk0.ext .go) (by omega)).mono ?_
  rintro _ w13 ⟨⟨v13, rfl, hS13⟩, hE13⟩
  have hz13 := hE13.size
  rw [← hR.all] at hS13 ⊢
  obtain ⟨va13, vc13, rfl⟩ := slv_of hS13
  repeat (first | exact trivial | refine stp ?_ | refine ldCg ?_ | refine ldNg ?_ | refine ldSg ?_ | refine ldSb ?_ | refine bnd ?_ | refine bnd1 ?_ | refine drawQ (by decide +kernel) mixed (by decide +kernel) ?_)
  refine (tSame_ok _ _ _ _ w13 (hS12.ext .go) (hS13.ext .go)).mono ?_
  rintro _ w14 ⟨rfl, hE14⟩
  have hz14 := hE14.size
  rw [decide_eq_true (rfl : (getI m key).getD [] = (getI m key).getD [])]
  repeat (first | exact trivial | refine stp ?_ | refine ldCg ?_ | refine ldNg ?_ | refine ldSg ?_ | refine ldSb ?_ | refine bnd ?_ | refine bnd1 ?_ | refine drawQ (by decide +kernel) mixed (by decide +kernel) ?_)
  refine (Pairs_hamt_ok n hw _ _ m w14 (hM7.ext .go) hO (by omega)).mono ?_
  rintro v15 w15 ⟨qs, hO15, hR15, hd15, hE15⟩
  have hz15 := hE15.size
  have hP15 : PairsAt w15 v15 qs := ⟨SlC.of_own hO15, fun q hq => ⟨(hR15.mem (q.kv, q.k) (List.mem_flatMap.2 ⟨q, hq, by simp [prB]⟩)).sl, (hR15.mem (q.vv, q.v) (List.mem_flatMap.2 ⟨q, hq, by simp [prB]⟩)).sl⟩⟩
  obtain ⟨qa, qc, rfl⟩ := own_slice hO15
  have hql : qs.length = m.length := by have := congrArg List.length hd15; simpa using this
  clear hO15 hR15
  repeat (first | exact trivial | refine stp ?_ | refine ldCg ?_ | refine ldNg ?_ | refine ldSg ?_ | refine ldSb ?_ | refine bnd ?_ | refine bnd1 ?_ | refine drawQ (by decide +kernel) mixed (by decide +kernel) ?_)
  rw [hBl, hql]
  intro _
  rw [← hql]
  refine (ordered_ok n hw m hO qs _ w15 (hW.ext .go) hP15 hd15).mono ?_
  rintro _ w16 ⟨rfl, hE16⟩
  have hz16 := hE16.size
  repeat (first | exact trivial | refine stp ?_ | refine ldCg ?_ | refine ldNg ?_ | refine ldSg ?_ | refine ldSb ?_ | refine bnd ?_ | refine bnd1 ?_ | refine drawQ (by decide +kernel) mixed (by decide +kernel) ?_)
  refine (New_hamt_ok n w16).mono ?_
  rintro _ w17 ⟨_, hN1, hE17⟩
  have hz17 := hE17.size
  obtain ⟨mv17, rfl, hM17⟩ := hN1 hw
  obtain ⟨b17, rfl⟩ : ∃ b, mv17 = .pointer (some ⟨b, 0, none⟩) := by obtain ⟨b, _, rfl, _⟩ := hM17; exact ⟨b, rfl⟩
  repeat (first | exact trivial | refine stp ?_ | refine ldCg ?_ | refine ldNg ?_ | refine ldSg ?_ | refine ldSb ?_ | refine bnd ?_ | refine bnd1 ?_ | refine drawQ (by decide +kernel) mixed (by decide +kernel) ?_)
  rw [w64 (by omega) (by omega)]
  repeat (first | exact trivial | refine stp ?_ | refine ldCg ?_ | refine ldNg ?_ | refine ldSg ?_ | refine ldSb ?_ | refine bnd ?_ | refine bnd1 ?_ | refine drawQ (by decide +kernel) mixed (by decide +kernel) ?_)
  refine loopX (ι := Nat × Nat × List It) (fun x => [(7, .int .i64 n), (10, .pointer (some ⟨b7, 0, none⟩)), (11, .pointer (some ⟨bb7, 0, none⟩)), (12, .pointer (some ⟨w9.heap.size, 0, none⟩)), (13, .slice ka key.length kc), (18, .bool (getI m key).isSome), (19, .slice qa qs.length qc), (20, .pointer (some ⟨x.2.1, 0, none⟩)), (22, .int .i64 ((x.1 : Int) - 1))])
    (fun x W => Ext w17 W ∧ x.1 ≤ qs.length ∧ MapAt n (fun _ => True) W (.pointer (some ⟨x.2.1, 0, none⟩)) x.2.2 ∧ OkI n x.2.2 ∧ x.2.2.length ≤ qs.length - x.1 ∧ ∀ k v, getI x.2.2 k = some v ↔ ∃ q ∈ qs.drop x.1, q.k = k ∧ q.v = v) (fun x => x.1)
    (qs.length, b17, []) ⟨.go, Nat.le_refl _, hM17.mono (fun _ _ => trivial), OkI.nil _, Nat.zero_le _, fun k v => by simp only [List.drop_length]; constructor; (intro h; cases h); (rintro ⟨q, hq, _⟩; cases hq)⟩ ?_ ?_
  · repeat (first | exact trivial | refine stp ?_ | refine ldCg ?_ | refine ldNg ?_ | refine ldSg ?_ | refine ldSb ?_ | refine bnd ?_ | refine bnd1 ?_ | refine drawQ (by decide +kernel) mixed (by decide +kernel) ?_)
    done
  · rintro ⟨c, b18, A⟩ s18 w18 ⟨hE18, hc, hM18, hOA, hAl, hAg⟩
    simp only at hc hM18 hOA hAl hAg
    have hz18 := hE18.size
    repeat (first | exact trivial | refine stp ?_ | refine ldCg ?_ | refine ldNg ?_ | refine ldSg ?_ | refine ldSb ?_ | refine bnd ?_ | refine bnd1 ?_ | refine drawQ (by decide +kernel) mixed (by decide +kernel) ?_)
    refine ⟨fun hlt => ?_, fun hge => ?_⟩
    · obtain ⟨c, rfl⟩ : ∃ k, c = k + 1 := ⟨c - 1, by omega⟩
      rw [show ((c + 1 : Nat) : Int) - 1 = (c : Int) from by omega] at *
      obtain ⟨q, hx⟩ : ∃ x, qs[c]? = some x := ⟨_, List.getElem?_eq_getElem (by omega)⟩
      have hdr : qs.drop c = q :: qs.drop (c + 1) := by
        obtain ⟨h1, h2⟩ := List.getElem?_eq_some_iff.1 hx
        rw [List.drop_eq_getElem_cons h1, h2]
      have hqm := List.mem_of_getElem? hx
      obtain ⟨hqk, hqv⟩ := hP15.2 q hqm
      have hgq : getI m q.k = some q.v := (getI_pairs hO hd15 q.k q.v).2 ⟨q, hqm, rfl, rfl⟩
      have hqs : q.k.length ≤ 64 ∧ q.v.length ≤ 256 := by
        obtain ⟨y, hy, h1, h2⟩ := getI_some_mem hgq
        have := hO.short y hy
        rwa [h1, h2] at this
      have hstep : ∀ k v, getI (putI A ⟨keyD n q.k, q.k, q.v⟩) k = some v ↔ ∃ q' ∈ qs.drop c, q'.k = k ∧ q'.v = v := by
        intro k v
        rw [getI_put hOA rfl, hdr]
        by_cases hk : q.k = k
        · rw [if_pos hk]
          constructor
          · intro h
            cases h
            exact ⟨q, by simp, hk, rfl⟩
          · rintro ⟨q', hq', h1, h2⟩
            have hq'm : q' ∈ qs := by
              rcases List.mem_cons.1 hq' with rfl | h
              · exact hqm
              · exact List.mem_of_mem_drop h
            have h3 := (getI_pairs hO hd15 q'.k q'.v).2 ⟨q', hq'm, rfl, rfl⟩
            rw [h1, ← hk, hgq] at h3
            rw [← h2]
            exact h3
        · rw [if_neg hk, hAg]
          constructor
          · rintro ⟨q', hq', h1, h2⟩
            exact ⟨q', List.mem_cons_of_mem _ hq', h1, h2⟩
          · rintro ⟨q', hq', h1, h2⟩
            rcases List.mem_cons.1 hq' with rfl | h
            · exact absurd h1 hk
            · exact ⟨q', h, h1, h2⟩
      obtain ⟨rb, ro, rfl, hRr⟩ := pr_row hP15.1 (by omega)
      obtain ⟨a1, c1, e1⟩ := slv_of hqk
      obtain ⟨a2, c2, e2⟩ := slv_of hqv
      rw [e1] at hqk
      rw [e2] at hqv
      repeat (first | exact trivial | refine stp ?_ | refine ldCg ?_ | refine ldNg ?_ | refine ldSg ?_ | refine ldSb ?_ | refine bnd ?_ | refine bnd1 ?_ | refine drawQ (by decide +kernel) mixed (by decide +kernel) ?_)
      refine ldRowF (f := PR.cells) 0 hx ?_
      rw [e1]
      repeat (first | exact trivial | refine stp ?_ | refine ldCg ?_ | refine ldNg ?_ | refine ldSg ?_ | refine ldSb ?_ | refine bnd ?_ | refine bnd1 ?_ | refine drawQ (by decide +kernel) mixed (by decide +kernel) ?_)
      refine (get_ok w6 w18 bb7 w6.heap.size B _ q.k _ .go (hB7.ext .go) (hqk.ext .go) (by omega)).mono ?_
      rintro _ w19 ⟨⟨v19, rfl, hS19⟩, hE19⟩
      have hz19 := hE19.size
      rw [← hR.all, hgq, Option.getD_some] at hS19
      rw [← hR.all, hgq, show (some q.v).isSome = true from rfl]
      obtain ⟨va19, vc19, rfl⟩ := slv_of hS19
      repeat (first | exact trivial | refine stp ?_ | refine ldCg ?_ | refine ldNg ?_ | refine ldSg ?_ | refine ldSb ?_ | refine bnd ?_ | refine bnd1 ?_)
      refine drawX (.of [0, 1, 2, 3, 4, 5, 6, 7, 8, 9, 10, 11, 12, 13, 14, 15, 16]) mixed (by decide +kernel) (fun w20 hE20 hz20 => ?_)
      repeat (first | exact trivial | refine stp ?_ | refine ldCg ?_ | refine ldNg ?_ | refine ldSg ?_ | refine ldSb ?_ | refine bnd ?_ | refine bnd1 ?_ | refine drawQ (by decide +kernel) mixed (by decide +kernel) ?_)
      refine ldSg (v := .slice a1 q.k.length c1) ?_ (by intro w' hw'; refine stp ?_; exact ldRowF (f := PR.cells) 0 hx rfl (hv := by rw [← e1]; rfl))
      repeat (first | exact trivial | refine stp ?_ | refine ldCg ?_ | refine ldNg ?_ | refine ldSg ?_ | refine ldSb ?_ | refine bnd ?_ | refine bnd1 ?_ | refine drawQ (by decide +kernel) mixed (by decide +kernel) ?_)
      refine ldSg (v := .slice a2 q.v.length c2) ?_ (by intro w' hw'; refine stp ?_; exact ldRowF (f := PR.cells) 1 hx rfl (hv := by rw [← e2]; rfl))
      repeat (first | exact trivial | refine stp ?_ | refine ldCg ?_ | refine ldNg ?_ | refine ldSg ?_ | refine ldSb ?_ | refine bnd ?_ | refine bnd1 ?_ | refine drawQ (by decide +kernel) mixed (by decide +kernel) ?_)
      refine (Put_hamt_ok n hw _ _ _ _ A q.k q.v w20 (hW.ext .go) (hM18.ext .go) hOA (hqk.ext .go) (hqv.ext .go) (by omega)).mono ?_
      rintro _ w21 ⟨⟨rv', rfl, _, hr2⟩, hE21⟩
      have hz21 := hE21.size
      have hM21 := hr2 (by omega)
      clear hr2
      obtain ⟨b21, rfl⟩ : ∃ b, rv' = .pointer (some ⟨b, 0, none⟩) := by obtain ⟨b, _, rfl, _⟩ := hM21; exact ⟨b, rfl⟩
      rw [if_neg (by omega)]
      refine toldX ?_
      have hpl := putI_len A ⟨keyD n q.k, q.k, q.v⟩
      repeat (first | exact trivial | refine stp ?_ | refine ldCg ?_ | refine ldNg ?_ | refine ldSg ?_ | refine ldSb ?_ | refine bnd ?_ | refine bnd1 ?_ | refine drawQ (by decide +kernel) mixed (by decide +kernel) ?_)
      refine ldRowF (f := PR.cells) 1 hx ?_
      rw [e2]
      repeat (first | exact trivial | refine stp ?_ | refine ldCg ?_ | refine ldNg ?_ | refine ldSg ?_ | refine ldSb ?_ | refine bnd ?_ | refine bnd1 ?_ | refine drawQ (by decide +kernel) mixed (by decide +kernel) ?_)
      refine (tSame_ok q.v q.v _ _ w21 (hS19.ext .go) (hqv.ext .go)).mono ?_
      rintro _ w22 ⟨rfl, hE22⟩
      have hz22 := hE22.size
      rw [decide_eq_true (rfl : q.v = q.v)]
      repeat (first | exact trivial | refine stp ?_ | refine ldCg ?_ | refine ldNg ?_ | refine ldSg ?_ | refine ldSb ?_ | refine bnd ?_ | refine bnd1 ?_ | refine drawQ (by decide +kernel) mixed (by decide +kernel) ?_)
      exact ⟨(c, b21, putI A ⟨keyD n q.k, q.k, q.v⟩), ⟨.go, by simp only; omega, (hM21.ext .go).mono (fun _ _ => trivial), hOA.put rfl hqs, by simp only; omega, hstep⟩, ⟨rfl, by rw [w64 (by omega) (by omega)]⟩, by simp only; omega⟩
    · obtain rfl : c = 0 := by omega
      rw [List.drop_zero] at hAg
      have hAm : A = m := by
        refine items_ext hOA hO fun k => ?_
        have key : ∀ v, getI A k = some v ↔ getI m k = some v := fun v => by rw [hAg, getI_pairs hO hd15]
        cases h1 : getI A k with
        | some v => exact ((key v).1 h1).symm
        | none =>
          cases h2 : getI m k with
          | none => rfl
          | some v => rw [(key v).2 h2] at h1; cases h1
      subst hAm
      refine drawX (.of [0, 2, 1, 3]) mixed (by decide +kernel) (fun w19 hE19 hz19 => ?_)
      repeat (first | exact trivial | refine stp ?_ | refine ldCg ?_ | refine ldNg ?_ | refine ldSg ?_ | refine ldSb ?_ | refine bnd ?_ | refine bnd1 ?_ | refine drawQ (by decide +kernel) mixed (by decide +kernel) ?_)
      refine (Root_hamt_ok n _ _ A w19 (hW.ext .go) (hM18.ext .go) hO.len).mono ?_
      rintro _ w20 ⟨rfl, hE20⟩
      have hz20 := hE20.size
      refine toldX ?_
      repeat (first | exact trivial | refine stp ?_ | refine ldCg ?_ | refine ldNg ?_ | refine ldSg ?_ | refine ldSb ?_ | refine bnd ?_ | refine bnd1 ?_ | refine drawQ (by decide +kernel) mixed (by decide +kernel) ?_)
      refine eqd_lit _ _ _ _ _ _ Tryd.underlying5 c5 hrl hrl ?_
      rw [decide_eq_true (rfl : rootD n A = rootD n A)]
      repeat (first | exact trivial | refine stp ?_ | refine ldCg ?_ | refine ldNg ?_ | refine ldSg ?_ | refine ldSb ?_ | refine bnd ?_ | refine bnd1 ?_ | refine drawQ (by decide +kernel) mixed (by decide +kernel) ?_)
      refine ⟨rfl, ⟨rfl, rfl, rfl, rfl, rfl, rfl, rfl⟩, convN (xs := [97, 110, 111, 116, 104, 101, 114]) rfl rfl (by decide) (fun w21 hE21 hz21 hS21 => ?_)⟩
      obtain ⟨an, hwd⟩ : ∃ an : List UInt8, an = [97, 110, 111, 116, 104, 101, 114] := ⟨_, rfl⟩
      have hanl : an.length = 7 := by rw [hwd]; rfl
      rw [← hwd] at hS21
      repeat (first | exact trivial | refine stp ?_ | refine ldCg ?_ | refine ldNg ?_ | refine ldSg ?_ | refine ldSb ?_ | refine bnd ?_ | refine bnd1 ?_ | refine drawQ (by decide +kernel) mixed (by decide +kernel) ?_)
      refine (Put_hamt_ok n hw _ _ _ _ A key an w21 (hW.ext .go) (hM7.ext .go) hO (hk0.ext .go) hS21 (by omega)).mono ?_
      rintro _ w22 ⟨⟨rv', rfl, _, hr2⟩, hE22⟩
      have hz22 := hE22.size
      have hM22 := hr2 (by omega)
      clear hr2
      obtain ⟨b22, rfl⟩ : ∃ b, rv' = .pointer (some ⟨b, 0, none⟩) := by obtain ⟨b, _, rfl, _⟩ := hM22; exact ⟨b, rfl⟩
      rw [if_neg (by omega)]
      have hOP := hO.put (x := ⟨keyD n key, key, an⟩) rfl ⟨hkl, by simp only; omega⟩
      have hPl := putI_len A ⟨keyD n key, key, an⟩
      have hPg := put_put (x := ⟨keyD n key, key, an⟩) hO rfl
      have hdp := del_put (x := ⟨keyD n key, key, an⟩) hO rfl
      simp only at hPg hdp
      repeat (first | exact trivial | refine stp ?_ | refine ldCg ?_ | refine ldNg ?_ | refine ldSg ?_ | refine ldSb ?_ | refine bnd ?_ | refine bnd1 ?_ | refine drawQ (by decide +kernel) mixed (by decide +kernel) ?_)
      refine (Delete_hamt_ok n hw _ _ _ A key w22 (hW.ext .go) (hM7.ext .go) hO (hk0.ext .go) (by omega)).mono ?_
      rintro _ w23 ⟨⟨rv', rfl, _, hr2⟩, hE23⟩
      have hz23 := hE23.size
      have hM23 := hr2 (by omega)
      clear hr2
      obtain ⟨b23, rfl⟩ : ∃ b, rv' = .pointer (some ⟨b, 0, none⟩) := by obtain ⟨b, _, rfl, _⟩ := hM23; exact ⟨b, rfl⟩
      rw [if_neg (show ¬ 64 < key.length by omega), decide_eq_true (show key.length ≤ 64 by omega), Bool.true_and]
      have hOD := hO.del key
      have hDl := del_len A key
      repeat (first | exact trivial | refine stp ?_ | refine ldCg ?_ | refine ldNg ?_ | refine ldSg ?_ | refine ldSb ?_ | refine bnd ?_ | refine bnd1 ?_ | refine drawQ (by decide +kernel) mixed (by decide +kernel) ?_)
      refine qcall _ (fun w' hw' => Root_hamt_ok n _ _ A w' (hW.ext .go) (hM7.ext .go) hO.len) ?_
      repeat (first | exact trivial | refine stp ?_ | refine ldCg ?_ | refine ldNg ?_ | refine ldSg ?_ | refine ldSb ?_ | refine bnd ?_ | refine bnd1 ?_ | refine drawQ (by decide +kernel) mixed (by decide +kernel) ?_)
      refine eqd_lit _ _ _ _ _ _ Tryd.underlying5 c5 hrl hrl ?_
      rw [decide_eq_true (rfl : rootD n A = rootD n A)]
      repeat (first | exact trivial | refine stp ?_ | refine ldCg ?_ | refine ldNg ?_ | refine ldSg ?_ | refine ldSb ?_ | refine bnd ?_ | refine bnd1 ?_ | refine drawQ (by decide +kernel) mixed (by decide +kernel) ?_)
      refine qcall _ (fun w' hw' => Len_hamt_ok n _ _ A w' (hM7.ext .go) hO.len) ?_
      repeat (first | exact trivial | refine stp ?_ | refine ldCg ?_ | refine ldNg ?_ | refine ldSg ?_ | refine ldSb ?_ | refine bnd ?_ | refine bnd1 ?_ | refine drawQ (by decide +kernel) mixed (by decide +kernel) ?_)
      intro w24 hE24
      have hz24 := hE24.size
      refine ⟨fun h => absurd (by omega) h, fun _ => ?_⟩
      repeat (first | exact trivial | refine stp ?_ | refine ldCg ?_ | refine ldNg ?_ | refine ldSg ?_ | refine ldSb ?_ | refine bnd ?_ | refine bnd1 ?_ | refine drawQ (by decide +kernel) mixed (by decide +kernel) ?_)
      refine (Get_hamt_ok n hw _ _ _ _ key w24 (hW.ext .go) (hM22.ext .go) hOP (hk0.ext .go) (by omega)).mono ?_
      rintro _ w25 ⟨v25, rfl, hR25, hE25⟩
      have hz25 := hE25.size
      have hS25 := hR25.sl
      obtain ⟨va25, vc25, rfl⟩ := own_slice hR25.own
      clear hR25
      rw [if_neg (by omega), hPg, Option.getD_some] at hS25
      repeat rw [if_neg (show ¬ 64 < key.length by omega)]
      rw [decide_eq_true (show key.length ≤ 64 by omega), Bool.true_and, hPg, show (some an).isSome = true from rfl, Option.getD_some]
      repeat (first | exact trivial | refine stp ?_ | refine ldCg ?_ | refine ldNg ?_ | refine ldSg ?_ | refine ldSb ?_ | refine bnd ?_ | refine bnd1 ?_ | refine drawQ (by decide +kernel) mixed (by decide +kernel) ?_)
      refine (Delete_hamt_ok n hw _ _ _ _ key w25 (hW.ext .go) (hM22.ext .go) hOP (hk0.ext .go) (by omega)).mono ?_
      rintro _ w26 ⟨⟨rv', rfl, _, hr2⟩, hE26⟩
      have hz26 := hE26.size
      have hM26 := hr2 (by omega)
      clear hr2
      obtain ⟨b26, rfl⟩ : ∃ b, rv' = .pointer (some ⟨b, 0, none⟩) := by obtain ⟨b, _, rfl, _⟩ := hM26; exact ⟨b, rfl⟩
      rw [hdp] at hM26
      rw [if_neg (show ¬ 64 < key.length by omega), decide_eq_true (show key.length ≤ 64 by omega), Bool.true_and, hPg, show (some an).isSome = true from rfl]
      have hrl2 : (rootD n (delI A key)).length = 32 := by unfold rootD; split; exact sumR_len _ _; exact nodeD_len _ _ _ _
      repeat (first | exact trivial | refine stp ?_ | refine ldCg ?_ | refine ldNg ?_ | refine ldSg ?_ | refine ldSb ?_ | refine bnd ?_ | refine bnd1 ?_)
      refine drawX (.of [0, 1, 2, 3, 4, 5, 6, 7, 8, 9, 10, 11, 12, 13, 14, 15, 16, 18, 17, 19, 20, 21, 22, 23, 24, 25, 27, 26, 28, 29, 30, 31]) mixed (by decide +kernel) (fun w27 hE27 hz27 => ?_)
      repeat (first | exact trivial | refine stp ?_ | refine ldCg ?_ | refine ldNg ?_ | refine ldSg ?_ | refine ldSb ?_ | refine bnd ?_ | refine bnd1 ?_ | refine drawQ (by decide +kernel) mixed (by decide +kernel) ?_)
      refine ⟨rfl, ⟨rfl, rfl, rfl, rfl, rfl, rfl, rfl⟩, ?_⟩
      intro w28 hN28
      have hz28 := hN28.size
      have hB28 : Blk w28 w27.heap.size 5 (vbs an) := by rw [hwd]; exact hN28.blk
      have hE28 : Ext w27 w28 := hN28.ext
      refine toldK ?_
      repeat (first | exact trivial | refine stp ?_ | refine ldCg ?_ | refine ldNg ?_ | refine ldSg ?_ | refine ldSb ?_ | refine bnd ?_ | refine bnd1 ?_ | refine drawQ (by decide +kernel) mixed (by decide +kernel) ?_)
      refine convM (xs := an) hB28 hanl.symm (Nat.le_refl _) (by decide) (fun w29 hS29 hk29 => ?_)
      have hE29 : Ext w27 w29 := hE28.trans (hk29.below (Nat.le_refl _) (by omega))
      have hz29 := hE29.size
      clear hE28
      refine toldK ?_
      repeat (first | exact trivial | refine stp ?_ | refine ldCg ?_ | refine ldNg ?_ | refine ldSg ?_ | refine ldSb ?_ | refine bnd ?_ | refine bnd1 ?_ | refine drawQ (by decide +kernel) mixed (by decide +kernel) ?_)
      refine (tSame_ok an an _ _ w29 (hS25.ext .go) hS29).mono ?_
      rintro _ w30 ⟨rfl, hE30⟩
      have hz30 := hE30.size
      rw [decide_eq_true (rfl : an = an)]
      refine toldK ?_
      repeat (first | exact trivial | refine stp ?_ | refine ldCg ?_ | refine ldNg ?_ | refine ldSg ?_ | refine ldSb ?_ | refine bnd ?_ | refine bnd1 ?_ | refine drawQ (by decide +kernel) mixed (by decide +kernel) ?_)
      refine (Root_hamt_ok n _ _ (delI A key) w30 (hW.ext .go) (hM26.ext .go) hOD.len).mono ?_
      rintro _ w31 ⟨rfl, hE31⟩
      have hz31 := hE31.size
      refine toldK ?_
      repeat (first | exact trivial | refine stp ?_ | refine ldCg ?_ | refine ldNg ?_ | refine ldSg ?_ | refine ldSb ?_ | refine bnd ?_ | refine bnd1 ?_ | refine drawQ (by decide +kernel) mixed (by decide +kernel) ?_)
      refine (Root_hamt_ok n _ _ (delI A key) w31 (hW.ext .go) (hM23.ext .go) hOD.len).mono ?_
      rintro _ w32 ⟨rfl, hE32⟩
      have hz32 := hE32.size
      refine toldK ?_
      repeat (first | exact trivial | refine stp ?_ | refine ldCg ?_ | refine ldNg ?_ | refine ldSg ?_ | refine ldSb ?_ | refine bnd ?_ | refine bnd1 ?_ | refine drawQ (by decide +kernel) mixed (by decide +kernel) ?_)
      refine eqd_lit _ _ _ _ _ _ Tryd.underlying5 c5 hrl2 hrl2 ?_
      rw [decide_eq_true (rfl : rootD n (delI A key) = rootD n (delI A key))]
      repeat (first | exact trivial | refine stp ?_ | refine ldCg ?_ | refine ldNg ?_ | refine ldSg ?_ | refine ldSb ?_ | refine bnd ?_ | refine bnd1 ?_ | refine drawQ (by decide +kernel) mixed (by decide +kernel) ?_)
      cases hg : getI A key with
      | some v =>
        rw [show (some v).isSome = true from rfl]
        repeat (first | exact trivial | refine stp ?_ | refine ldCg ?_ | refine ldNg ?_ | refine ldSg ?_ | refine ldSb ?_ | refine bnd ?_ | refine bnd1 ?_ | refine drawQ (by decide +kernel) mixed (by decide +kernel) ?_)
        exact .go
      | none =>
        rw [del_of_none hg] at hM23
        rw [show (none : Option (List UInt8)).isSome = false from rfl]
        repeat (first | exact trivial | refine stp ?_ | refine ldCg ?_ | refine ldNg ?_ | refine ldSg ?_ | refine ldSb ?_ | refine bnd ?_ | refine bnd1 ?_ | refine drawQ (by decide +kernel) mixed (by decide +kernel) ?_)
        refine (Root_hamt_ok n _ _ A w32 (hW.ext .go) (hM23.ext .go) hO.len).mono ?_
        rintro _ w33 ⟨rfl, hE33⟩
        have hz33 := hE33.size
        refine toldK ?_
        repeat (first | exact trivial | refine stp ?_ | refine ldCg ?_ | refine ldNg ?_ | refine ldSg ?_ | refine ldSb ?_ | refine bnd ?_ | refine bnd1 ?_ | refine drawQ (by decide +kernel) mixed (by decide +kernel) ?_)
        refine eqd_lit _ _ _ _ _ _ Tryd.underlying5 c5 hrl hrl ?_
        rw [decide_eq_true (rfl : rootD n A = rootD n A)]
        repeat (first | exact trivial | refine stp ?_ | refine ldCg ?_ | refine ldNg ?_ | refine ldSg ?_ | refine ldSb ?_ | refine bnd ?_ | refine bnd1 ?_ | refine drawQ (by decide +kernel) mixed (by decide +kernel) ?_)
        exact .go
end Go.Proofs.YtieaoldoiahgpaaDoor

/-! Row -/
namespace Go.Proofs.YtieaoldoiahgpaaDoor
set_option maxRecDepth 100000
open Go Go.RowKit Go.ChangeShapes Go.WideShapes Go.ChangeAt
set_option linter.unusedVariables false
set_option linter.unusedSimpArgs false

/-- Each of the types can be read and is a row of the table. -/
def rowedT (P : Program) (ts : List TypeId) : Bool := ts.all fun t => P.readableRec t && decide (t < P.types.size)

theorem below_trodAll {H : Type} {enc : TypeId × Value → H} {P : Program} (hl : laidOutB P = true) {W W' : World} (hb : Below W.heap.size W W') :
    ∀ {ts : List TypeId} {vs : List Value} {ds : List (DataW H)} {ps : List MemPlace}, rowedT P ts = true → DataW.TrodAll enc P W 0 (fun _ => true) true ts vs ds ps → (∀ x ∈ ps, x.block < W.heap.size) → DataW.TrodAll enc P W' 0 (fun b => decide (b < W.heap.size)) true ts vs ds ps
  | [], [], [], _, _, h, _ => h
  | [], _ :: _, _, _, _, h, _ => by simp [DataW.TrodAll] at h
  | [], [], _ :: _, _, _, h, _ => by simp [DataW.TrodAll] at h
  | _ :: _, [], _, _, _, h, _ => by simp [DataW.TrodAll] at h
  | _ :: _, _ :: _, [], _, _, h, _ => by simp [DataW.TrodAll] at h
  | t :: ts, v :: vs, d :: ds, ps, hr, h, hlt => by
    obtain ⟨p, q, h1, h2, rfl⟩ := h
    simp only [rowedT, List.all_cons, Bool.and_eq_true, decide_eq_true_eq] at hr
    refine ⟨p, q, Below.trod hl hr.1.1 hr.1.2 h1 hb (fun x hx => hlt x (by simp [hx])), below_trodAll hl hb (by simpa [rowedT] using hr.2) h2 (fun x hx => hlt x (by simp [hx])), rfl⟩

/-- What a law's row asks of the end, given what the walk says: true, and nothing old has turned. -/
theorem law_post {H : Type} {enc : TypeId × Value → H} {P : Program} (hl : laidOutB P = true) {f : Func} {s : ChangeSpec} {tb : TypeId} (hr : f.resultTypes = #[tb]) (hb : P.underlying tb = some .bool)
    (hp : rowedT P f.params.toList = true) (hv : s.vars = []) {W W' : World} {args : Array Value} {ds gs : List (DataW H)} {before : List MemPlace}
    (hW : DataW.Whole enc P f.params.toList s.vars false W args.toList ds gs before)
    (hfn : (s.fn H (ds ++ gs)).results = [.lit (.bool true)] ∧ (s.fn H (ds ++ gs)).args = ds ∧ (s.fn H (ds ++ gs)).vars = gs) (hE : Ext W W') :
    s.post enc P f false true false false W args (.bool true) W' := by
  have hW' := hW
  obtain ⟨p, q, hA, hV, rfl, hfz, hnd⟩ := hW
  refine ⟨ds, gs, p ++ q, [], p, q, hW', ?_, ?_, ?_, hE.frame _, fun h => by cases h⟩
  · rw [hfn.1, hr]
    exact trodAll_cons_mk (shut_bool hb _) trodAll_mk0
  · rw [hfn.2.1]
    exact below_trodAll hl hE hp hA (fun x hx => by simpa using hW'.lt x (by simp [hx]))
  · rw [hfn.2.2]
    rw [hv] at hV ⊢
    obtain ⟨rfl, rfl⟩ := trodVars_none hV
    rfl

theorem CallK.toCalls {P : Program} {f : FuncId} {args : Array Value} {w : World} (h : CallK P f args w fun v w' => v = .bool true ∧ Ext w w') (hb : callable P f = true) : Calls P f args w fun e w' => e = .returned (.bool true) ∧ Ext w w' :=
  (h.body hb).calls.mono fun e w' ⟨v, he, hv, hE⟩ => ⟨by rw [he, hv], hE⟩

/-! ### Arguments opened -/
theorem wf_bounds {k : IntKind} {n : Int} (h : (Lit.int k n).wf = true) : k.min ≤ n ∧ n ≤ k.max := by
  simpa [Lit.wf] using h
theorem cells_u8 {H : Type} {enc : TypeId × Value → H} {P : Program} {w : World} {base : Nat} {sp : Nat → Bool} {held : Bool} {fuel e : Nat} {c : List Value} {x : DataW H × List MemPlace} (he : P.underlying e = some (.int .u8))
    (h : DataW.trod enc P w base sp held fuel e c = some x) : ∃ b : UInt8, c = [vb b] := by
  obtain ⟨n, h1, hx, hw⟩ := DataW.trod_int he h
  have hb := wf_bounds hw
  simp [IntKind.min, IntKind.max, IntKind.signed, IntKind.bits] at hb
  refine ⟨UInt8.ofNat n.toNat, ?_⟩
  rw [h1]
  simp only [vb, UInt8.toNat_ofNat', List.cons.injEq, and_true]
  rw [Nat.mod_eq_of_lt (by omega), Int.toNat_of_nonneg hb.1]

theorem open_num {H : Type} {enc : TypeId × Value → H} {P : Program} {w : World} {base b0 : Nat} {r : Reach} {sp : Nat → Bool} {held : Bool} {t : Nat} {k : IntKind} {v : Value} {d : DataW H} {ps : List MemPlace} (ht : P.underlying t = some (.int k))
    (hval : Value.okWide P w r b0 t v) (hd : DataW.Trod enc P w base sp held t v d ps) : ∃ n : Int, v = .int k n ∧ k.min ≤ n ∧ n ≤ k.max := by
  obtain ⟨n, rfl, _, _, h⟩ := open_int ht hval hd
  exact ⟨n, rfl, wf_bounds h⟩

theorem list_of {α : Type} {p : Nat → α → Prop} : ∀ n, (∀ i, i < n → ∃ x, p i x) → ∃ l : List α, l.length = n ∧ ∀ i x, l[i]? = some x → p i x
  | 0, _ => ⟨[], rfl, by simp⟩
  | n + 1, h => by
    obtain ⟨l, hl, hp⟩ := list_of n (fun i hi => h i (by omega))
    obtain ⟨x, hx⟩ := h n (by omega)
    refine ⟨l ++ [x], by simp [hl], fun i y hy => ?_⟩
    by_cases hi : i < n
    · rw [List.getElem?_append_left (by omega)] at hy; exact hp i y hy
    · rw [List.getElem?_append_right (by omega)] at hy
      have : i - l.length = 0 := by
        rcases Nat.eq_zero_or_pos (i - l.length) with h0 | h0
        · exact h0
        · rw [List.getElem?_eq_none (by simp; omega)] at hy; cases hy
      have e : i = n := by omega
      rw [this] at hy
      simp at hy
      rw [e, ← hy]; exact hx
theorem flat_inv {α : Type} {f : α → List Value} {sz : Nat} (hz : 0 < sz) : ∀ (ds : List α) (j : Nat) (u : Value), (∀ d ∈ ds, (f d).length = sz) → (ds.flatMap f)[j]? = some u → ∃ d, ds[j / sz]? = some d ∧ (f d)[j % sz]? = some u
  | [], j, u, _, h => by simp at h
  | x :: ds, j, u, hs, h => by
    have hx : (f x).length = sz := hs x (by simp)
    simp only [List.flatMap_cons] at h
    by_cases hj : j < sz
    · rw [List.getElem?_append_left (by omega)] at h
      exact ⟨x, by rw [Nat.div_eq_of_lt hj]; rfl, by rw [Nat.mod_eq_of_lt hj]; exact h⟩
    · rw [List.getElem?_append_right (by omega), hx] at h
      obtain ⟨d, h1, h2⟩ := flat_inv hz ds (j - sz) u (fun d hd => hs d (by simp [hd])) h
      refine ⟨d, ?_, ?_⟩
      · rw [Nat.div_eq_sub_div hz (by omega)]; exact h1
      · rw [show j % sz = (j - sz) % sz from by rw [Nat.mod_eq_sub_mod (by omega)]]; exact h2

end Go.Proofs.YtieaoldoiahgpaaDoor

/-! RowU -/
namespace Go.Proofs.YtieaoldoiahgpaaDoor
set_option maxRecDepth 100000
open Go Go.RowKit Go.ChangeShapes Go.WideShapes Go.ChangeAt
set_option linter.unusedVariables false
set_option linter.unusedSimpArgs false

/-! ### Bulk -/
theorem bulk_one {H : Type} (d : DataW H) : 1 ≤ Rows.uptoBulk d := by
  cases d with
  | lit l => cases l <;> simp [Rows.uptoBulk]
  | nil => simp [Rows.uptoBulk]
  | ptr d => simp [Rows.uptoBulk]
  | slice elems spare => simp [Rows.uptoBulk]
  | agg parts => simp [Rows.uptoBulk]
  | iface t d => simp [Rows.uptoBulk]
  | map entries => simp [Rows.uptoBulk]
  | held h => simp [Rows.uptoBulk]
theorem bulk_mem {H : Type} {d : DataW H} {l : List (DataW H)} (h : d ∈ l) : Rows.uptoBulk d ≤ Rows.uptoBulkAll l := by
  induction l with
  | nil => cases h
  | cons x r ih =>
    simp only [Rows.uptoBulkAll]
    cases List.mem_cons.1 h with
    | inl e => subst e; omega
    | inr e => have := ih e; omega
theorem bulk_len {H : Type} (l : List (DataW H)) : l.length ≤ Rows.uptoBulkAll l := by
  induction l with
  | nil => simp [Rows.uptoBulkAll]
  | cons x r ih => have := bulk_one x; simp only [Rows.uptoBulkAll, List.length_cons]; omega
theorem bulk_small {H : Type} {l : List (DataW H)} (hk : Rows.uptoSmall H l = true) : Rows.uptoBulkAll l ≤ 1048576 := by
  simpa [Rows.uptoSmall] using hk

/-! ### Lists opened, wherever they lie -/
section opened
variable {H : Type} {enc : TypeId × Value → H} {w : World} {sp : Nat → Bool} {fuel : Nat} {cs : List Value} {x : DataW H × List MemPlace}
theorem open_slb {α : Type} {f : α → List Value} {q : Nat → α → Prop} {P : Program} {t e sz : Nat} (ht : P.underlying t = some (.slice e)) (hsz : P.cellsOf e = sz) (hz : 0 < sz) (hq : ∀ m n a, m ≤ n → q m a → q n a)
    (hel : ∀ n cs x, DataW.trod enc P w 0 sp true n e cs = some x → ∃ a, f a = cs ∧ q (Rows.uptoBulk x.1) a) (hf : DataW.trod enc P w 0 sp true fuel t cs = some x) :
    ∃ (v : Value) (l : List α), cs = [v] ∧ (∀ a ∈ l, (f a).length = sz) ∧ SlC w v l.length (l.flatMap f) ∧ l.length ≤ Rows.uptoBulk x.1 ∧ ∀ a ∈ l, q (Rows.uptoBulk x.1) a := by
  rcases Go.Deep.open_slice ht hf with ⟨h1, h2⟩ | ⟨a, len, cap, m, n, D, Pl, h1, hb, hlc, hcm, hmm, hx, hall⟩
  · exact ⟨_, [], h1, by simp, ⟨none, 0, rfl, Nat.le_refl _, by decide, Or.inl rfl⟩, by simp, by simp⟩
  · have hlm : len ≤ m := by rw [hmm]; split <;> omega
    have hcm' : cap ≤ 9223372036854775807 := by simpa [maxLen] using hcm
    have hD : ∀ i, i < len → Rows.uptoBulk (D i) ≤ Rows.uptoBulk x.1 := by
      intro i hi
      rw [hx]
      simp only [Rows.uptoBulk]
      have := bulk_mem (d := D i) (l := (List.range len).map D) (List.mem_map.2 ⟨i, by simpa using hi, rfl⟩)
      omega
    have hlen : len ≤ Rows.uptoBulk x.1 := by
      rw [hx]
      simp only [Rows.uptoBulk]
      have := bulk_len ((List.range len).map D)
      simp at this
      omega
    by_cases h0 : len = 0
    · subst h0
      exact ⟨_, [], h1, by simp, ⟨_, cap, rfl, Nat.zero_le _, hcm', Or.inl rfl⟩, by simp, by simp⟩
    · obtain ⟨b, o, s⟩ := a
      have hspot : s = none := by
        obtain ⟨cs', hc, _⟩ := hall 0 (by omega)
        obtain ⟨_, hlen', hcell⟩ := World.cells?_some hc
        have h3 := hcell 0 (by omega)
        rw [hsz] at h3 hlen'
        cases s with
        | none => rfl
        | some s =>
          exfalso
          have h4 : w.cell? ⟨b, o, some s⟩ = cs'[0]? := by
            have : ((⟨b, o, some s⟩ : Addr).add (0 * sz)).add 0 = ⟨b, o, some s⟩ := by simp [Addr.add]
            rw [← this]
            exact h3
          rw [List.getElem?_eq_getElem (by omega)] at h4
          simp only [World.cell?] at h4
          split at h4 <;> simp at h4
      subst hspot
      obtain ⟨l, hl, hp⟩ := list_of (p := fun i (y : α) => (f y).length = sz ∧ (∀ k u, (f y)[k]? = some u → w.cell? ⟨b, o + (i * sz + k), none⟩ = some u) ∧ q (Rows.uptoBulk x.1) y) len (fun i hi => by
        obtain ⟨cs', hc, ht2⟩ := hall i (by omega)
        obtain ⟨y, rfl, hqy⟩ := hel _ _ _ ht2
        obtain ⟨_, hlen', hcell⟩ := World.cells?_some hc
        rw [hsz] at hlen' hcell
        refine ⟨y, hlen', fun k u hk => ?_, hq _ _ _ (hD i hi) hqy⟩
        have hk' : k < sz := by rw [← hlen']; exact (List.getElem?_eq_some_iff.1 hk).1
        have h5 := hcell k hk'
        rw [addr_add, addr_add, hk] at h5
        rwa [Nat.add_assoc] at h5)
      subst h1
      refine ⟨_, l, rfl, fun y hy => ?_, ⟨_, cap, by rw [hl], by omega, hcm', Or.inr ⟨b, o, rfl, fun j u hj => ?_⟩⟩, by omega, fun y hy => ?_⟩
      · obtain ⟨i, hi⟩ := List.getElem?_of_mem hy
        exact (hp i y hi).1
      · obtain ⟨y, h1, h2⟩ := flat_inv hz l j u (fun y hy => by obtain ⟨i, hi⟩ := List.getElem?_of_mem hy; exact (hp i y hi).1) hj
        have := (hp _ y h1).2.1 _ u h2
        rwa [show j / sz * sz + j % sz = j from by rw [Nat.mul_comm]; exact Nat.div_add_mod j sz] at this
      · obtain ⟨i, hi⟩ := List.getElem?_of_mem hy
        exact (hp i y hi).2.2
theorem vb_flat (l : List UInt8) : l.flatMap (fun b => [vb b]) = vbs l := by
  induction l with
  | nil => rfl
  | cons a l ih => simp only [List.flatMap_cons, ih]; rfl
theorem in_bytes (hf : DataW.trod enc Tryd.prog w 0 sp true fuel 23 cs = some x) : ∃ v xs, cs = [v] ∧ SlB w v xs ∧ xs.length ≤ Rows.uptoBulk x.1 := by
  obtain ⟨v, l, h1, _, h3, h4, _⟩ := open_slb (f := fun b => [vb b]) (q := fun _ _ => True) Tryd.underlying23 c5 (by decide) (fun _ _ _ _ h => h) (fun m cs x h => by obtain ⟨y, rfl⟩ := cells_u8 Tryd.underlying5 h; exact ⟨y, rfl, trivial⟩) hf
  rw [vb_flat] at h3
  exact ⟨v, l, h1, h3, h4⟩
end opened

end Go.Proofs.YtieaoldoiahgpaaDoor

/-! RowW -/
namespace Go.Proofs.YtieaoldoiahgpaaDoor
set_option maxRecDepth 100000
open Go Go.RowKit Go.ChangeShapes Go.WideShapes Go.ChangeAt
set_option linter.unusedVariables false
set_option linter.unusedSimpArgs false

section opened
variable {H : Type} {enc : TypeId × Value → H} {w : World} {sp : Nat → Bool} {r : Reach} {b0 : Nat} {v : Value} {d : DataW H} {p : List MemPlace}
theorem open_bsb (hval : Value.okWide Tryd.prog w r b0 23 v) (hd : DataW.Trod enc Tryd.prog w 0 sp true 23 v d p) : ∃ xs, SlB w v xs ∧ xs.length ≤ Rows.uptoBulk d := by
  obtain ⟨a0, len0, cap0, rfl⟩ := okWide_slice Tryd.underlying23 hval
  obtain ⟨fuel, hf⟩ := hd
  obtain ⟨u, xs, h1, h2, h3⟩ := in_bytes hf
  simp [Value.cells] at h1
  subst h1
  exact ⟨xs, h2, h3⟩
end opened

/-! ### The table -/
theorem gTab : Tryd.prog.globalNamed "notary/sha.words" = some 0 := by kernel_rfl
theorem gTabType : (Tryd.prog.globals[0]?).map (·.type) = some 141 := by kernel_rfl
theorem tab_eq {H : Type} : (Rows.laid_notary_sha_words : DataW H) = Lib.tabData .u32 (KW.map fun x => (x.toNat : Int)) := by kernel_rfl
theorem words_of {W : World} (h : laidMetH Tryd.prog [("notary/sha.words", Rows.laid_notary_sha_words)] W) : WordsAt W 0 := by
  have h' : laidMetH Tryd.prog [("notary/sha.words", Lib.tabData .u32 (KW.map fun x => (x.toNat : Int)))] W := by
    rw [← tab_eq]
    exact h
  have ht := Lib.tabIs_of_head (rest := []) gTab gTabType Tryd.underlying141 Tryd.underlying123 c123 c141 h'
  intro j hj
  have hc := ht.cell gTab j (by rw [List.length_map]; exact hj)
  rw [hc]
  have hl : j < KW.length := hj
  simp only [vw, List.getD_eq_getElem?_getD, List.getElem?_map, List.getElem?_eq_getElem hl, Option.map_some, Option.getD_some]

end Go.Proofs.YtieaoldoiahgpaaDoor

/-! RowE -/
namespace Go.Proofs.YtieaoldoiahgpaaDoor
set_option maxRecDepth 100000
open Go Go.RowKit Go.ChangeShapes Go.WideShapes Go.ChangeAt
set_option linter.unusedVariables false
set_option linter.unusedSimpArgs false

theorem WholeMap_oki (x : Int) (hx : 0 ≤ x ∧ x < 256) (es : List EnR) (ev pv : Value) (probe : List UInt8) (w : World) (hW : WordsAt w 0) (he : EnsAt w ev es) (hp : SlB w pv probe) (hl : es.length ≤ 80000000) :
    CallK Tryd.prog 3 [.int .u8 x, ev, pv].toArray w fun v w' => v = .bool true ∧ Ext w w' := by
  obtain ⟨m, rfl⟩ : ∃ m : Nat, x = m := ⟨x.toNat, by omega⟩
  exact WholeMap_ok m (by omega) es ev pv probe w hW he hp hl
section opened
variable {H : Type} {enc : TypeId × Value → H} {w : World} {sp : Nat → Bool} {r : Reach} {b0 : Nat} {v : Value} {d : DataW H} {p : List MemPlace} {fuel : Nat} {cs : List Value} {x : DataW H × List MemPlace}
theorem in_entry (hf : DataW.trod enc Tryd.prog w 0 sp true fuel 30 cs = some x) : ∃ e : EnR, e.cells = cs ∧ e.kind < 256 ∧ SlB w e.kv e.k ∧ SlB w e.vv e.v := by
  obtain ⟨y0, y1, y2, n, rfl, hl, h0, h1, h2⟩ := Go.Deep.trod_struct3 Tryd.underlying30 hf
  rw [c30] at hl
  simp only [c5, c23] at h0 h1 h2
  obtain ⟨m0, e0, _, hm⟩ := DataW.trod_int Tryd.underlying5 h0
  obtain ⟨u, xs, e1, hu, hb0⟩ := in_bytes h1
  obtain ⟨v, ys, e2, hv, hb1⟩ := in_bytes h2
  have hm' := wf_bounds hm
  simp [IntKind.min, IntKind.max, IntKind.signed, IntKind.bits] at hm'
  refine ⟨⟨m0.toNat, u, v, xs, ys⟩, ?_, by simp only; omega, hu, hv⟩
  match cs, hl with
  | [a, b, c], _ =>
    simp at e0 e1 e2
    simp only [EnR.cells, e0, e1, e2]
    rw [Int.toNat_of_nonneg hm'.1]
theorem open_ents (hval : Value.okWide Tryd.prog w r b0 22 v) (hd : DataW.Trod enc Tryd.prog w 0 sp true 22 v d p) : ∃ es, EnsAt w v es ∧ es.length ≤ Rows.uptoBulk d := by
  obtain ⟨a0, len0, cap0, rfl⟩ := okWide_slice Tryd.underlying22 hval
  obtain ⟨fuel, hf⟩ := hd
  obtain ⟨u, l, h1, h2, h3, h4, h5⟩ := open_slb (f := EnR.cells) (q := fun m e => e.kind < 256 ∧ SlB w e.kv e.k ∧ SlB w e.vv e.v) Tryd.underlying22 c30 (by decide) (fun m n a h g => g) (fun m cs x h => in_entry h) hf
  simp [Value.cells] at h1
  subst h1
  exact ⟨l, ⟨h3, h5⟩, h4⟩
end opened
end Go.Proofs.YtieaoldoiahgpaaDoor
