/-
  Package hamt: Pairs. Conditions: as stated in each theorem. Package notarylaw14: short, tells, reads. Conditions: as stated in each theorem. One less among a tree's items, in plain Lean. Conditions: as stated in each theorem. Package notaryref14: Delete. Conditions: as stated in each theorem. slices.Delete of one element, of pairs and of nodes. Conditions: as stated in each theorem. Written by wip/gendel.py. Package hamt: drop, Delete. Conditions: as stated in each theorem. Package notarylaw14: alike, change. Conditions: as stated in each theorem. HamtUndoes. Conditions: as stated in each theorem. HamtHistory. Conditions: as stated in each theorem. The frame of the rows: a law's row out of its walk, whatever its parameters; digests and numbers opened. Conditions: none; plain lemmas. The frame of rows that list the table and bound the bulk: questions (structs with lists of structs) opened, with their sizes; the table out of the row's list. Conditions: none; plain lemmas. The frame of rows: parameters opened; the table of SHA-256. Conditions: none; plain lemmas.
-/
import Derived.Test.YtieaoldoiahgpaaGreatDoorMHamtHistory11
import Derived.Test.YtieaoldoiahgpaaGreatDoorMHamtHistory12
import Derived.Test.YtieaoldoiahgpaaGreatDoorMHamtHistory7
import Derived.Deep.Slices
import Derived.Lib.LaidTab
import Derived.Lib.SmallJoins
import Derived.Test.YtieaoldoiahgpaaGreatDoorMHamtHistory8
/-! Hmi -/
namespace Go.Proofs.YtieaoldoiahgpaaGreatDoor
set_option maxRecDepth 100000
open Go Go.RowKit
set_option linter.unusedVariables false
set_option linter.unusedSimpArgs false
set_option maxHeartbeats 1000000
attribute [local irreducible] vcT opsT qT vcOp Q1 vcPure vcLoad vcStore ldC ldN ldD grdT grdQ vc vcOps vcQ hT
attribute [local irreducible] sumR sumP shaP keyD bucketP branchP

theorem dynCap {P : Program} {g : FuncId} {args caps : Array Value} {w : World} {K : Value → World → Prop} (h : CallB P g (args ++ caps) w K) : YieldVC P (.func (.func g) #[] caps) args w K := ⟨Or.inr ⟨g, #[], caps, rfl, by simpa using h⟩⟩
theorem set_flat {m : List It} {d : Nat} (hs : SortedI m) (hp : Pre d m) (hd : d < 64) : (setB (bmI m d)).flatMap (childI m d) = m := by
  refine Eq.trans ?_ (child_flat hs hp hd)
  rw [setB_bm]
  have : ∀ l : List Nat, (l.filter (hasI m d)).flatMap (childI m d) = l.flatMap (childI m d) := by
    intro l
    induction l with
    | nil => rfl
    | cons a l ih =>
      cases h : hasI m d a
      · rw [List.filter_cons_of_neg (by simp [h]), ih, List.flatMap_cons]
        have e : childI m d a = [] := by unfold hasI at h; simpa using h
        rw [e, List.nil_append]
      · rw [List.filter_cons_of_pos h, List.flatMap_cons, List.flatMap_cons, ih]
  exact this _
/-- What a walk of all pairs has gathered: the list lies in lb, the walk itself in wb. -/
structure AccAt (W : World) (lb wb B : Nat) (qs : List PR) : Prop where
  row : ∃ a c, Blk W lb 22 [.slice a qs.length c] ∧ Own W B 48 2 (.slice a qs.length c) qs.length (qs.flatMap PR.cells)
  run : RunB W W.heap.size B (qs.flatMap prB)
  fn : Blk W wb 120 [.func (.func 68) #[] #[.pointer (some ⟨lb, 0, none⟩), .pointer (some ⟨wb, 0, none⟩)]]
  lo : lb < B ∧ wb < B ∧ lb ≠ wb ∧ B ≤ W.heap.size
theorem RunB.put {w w' : World} {hi b T U : Nat} {l vs : List Value} (hB : Blk w b T l) (hne : T ≠ 5) (hP : Put w w' b U vs) : ∀ {l : List (Value × List UInt8)} {lo : Nat}, RunB w hi lo l → RunB w' hi lo l
  | [], lo, h => h
  | (v, xs) :: r, lo, h => by obtain ⟨mid, h1, h2, h3⟩ := h; exact ⟨mid, h1, ⟨h2.own.put hB hne hP, h2.top⟩, RunB.put hB hne hP h3⟩
theorem pairs1_ok (n : Int) (hw : widB n = true) (S : Nat → Prop) (w0 : World) (lb wb B : Nat) (hlb : w0.heap.size ≤ lb) (hwb : w0.heap.size ≤ wb) : ∀ (f d : Nat) (m : List It) (nv : Value) (qs : List PR) (w : World), AtN n S w0 f d m nv → OkI n m → Pre d m → d + f = 64 → Ext w0 w → AccAt w lb wb B qs → qs.length + m.length ≤ 1000000000 →
    CallK Tryz.prog 68 [nv, .pointer (some ⟨lb, 0, none⟩), .pointer (some ⟨wb, 0, none⟩)].toArray w fun v w' => ∃ qs', qs'.map PR.dat = m.map It.pr ∧ AccAt w' lb wb B (qs ++ qs') ∧ Ext w0 w' := by
  intro f
  induction f using Nat.strongRecOn with
  | ind f ih =>
    intro d m nv qs w hA hO hP hdf hE hacc hml
    have hz := hE.size
    rcases hA.cases with ⟨rfl, rfl⟩ | ⟨hne, hs, b4, pv, ps, rfl, hb⟩ | ⟨hs, f', hf', b4, kv4, vs, rfl, hb, hkids⟩
    · refine enterT Tryz.func68 rfl Tryz.ntmps68 Tryz.results68 rfl (by decide) ?_
      repeat (first | exact trivial | refine stp ?_ | refine ldCg ?_ | refine ldNg ?_ | refine ldSg ?_ | refine ldSb ?_ | refine bnd ?_ | refine bnd1 ?_ | refine drawQ (by decide +kernel) mixed (by decide +kernel) ?_)
      exact ⟨[], rfl, by rw [List.append_nil]; exact hacc, hE⟩
    · obtain ⟨⟨a, c, hBl, hOl⟩, hRl, hFn, hlo⟩ := hacc
      have hB4 := hb.blk
      have hhl : (vbs (headD m)).length = 32 := by rw [vbs_len]; exact headD_len (n := n) hne hO.len
      have hpl : ps.length = m.length := by have := congrArg List.length hb.dat; simpa using this
      have hpa := hb.prs.at
      obtain ⟨pa, cp, rfl⟩ := slv_of hpa.1
      have hel : ∀ p ∈ ps, p.k.length ≤ 4000000000 ∧ p.v.length ≤ 4000000000 := fun p hp => by
        obtain ⟨y, hy, he⟩ := List.mem_map.1 (hb.dat ▸ List.mem_map_of_mem (f := PR.dat) hp)
        have := hO.short y hy
        simp only [It.pr, PR.dat, Prod.mk.injEq] at he
        rw [he.1, he.2] at this
        omega
      have hB432 : (vbs (headD m) ++ [.slice pa ps.length cp] ++ vbs (bkD n m))[32]? = some (.slice pa ps.length cp) := by
        rw [List.append_assoc, List.getElem?_append_right (by omega), hhl]; rfl
      rw [List.append_assoc] at hB432
      refine enterT Tryz.func68 rfl Tryz.ntmps68 Tryz.results68 rfl (by decide) ?_
      repeat (first | exact trivial | refine stp ?_ | refine ldCg ?_ | refine ldNg ?_ | refine ldSg ?_ | refine ldSb ?_ | refine bnd ?_ | refine bnd1 ?_ | refine drawQ (by decide +kernel) mixed (by decide +kernel) ?_)
      refine drawH (fun W => Ext w0 W ∧ Blk W lb 22 [.slice a qs.length c]) [0, 1, 2, 3, 4, 5, 6, 7] mixed (by decide +kernel) (fun w1 hE1 hh => ⟨⟨hE.trans' hE1, hBl.ext hE1⟩, ?_⟩)
      have hz1 := hE1.size
      repeat (first | exact trivial | refine stp ?_ | refine ldCg ?_ | refine ldNg ?_ | refine ldSg ?_ | refine ldSb ?_ | refine bnd ?_ | refine bnd1 ?_ | refine drawQ (by decide +kernel) mixed (by decide +kernel) ?_)
      refine loadS_of (.slice a qs.length c) (fun w' h => by refine stp ?_; exact ldCg rfl h.2) ?_
      repeat (first | exact trivial | refine stp ?_ | refine ldCg ?_ | refine ldNg ?_ | refine ldSg ?_ | refine ldSb ?_ | refine bnd ?_ | refine bnd1 ?_ | refine drawQ (by decide +kernel) mixed (by decide +kernel) ?_)
      refine loadS_of (.slice pa ps.length cp) (fun w' h => by refine stp ?_; exact ldCg rfl (hB4.ext h.1) hB432) ?_
      repeat (first | exact trivial | refine stp ?_ | refine ldCg ?_ | refine ldNg ?_ | refine ldSg ?_ | refine ldSb ?_ | refine bnd ?_ | refine bnd1 ?_ | refine drawQ (by decide +kernel) mixed (by decide +kernel) ?_)
      refine (copies_ok ps _ w1 (hpa.ext .go) (by omega) hel).mono ?_
      rintro v2 w2 ⟨rs, hO2, hd2, hR2, hE2⟩
      have hz2 := hE2.size
      refine toldS ⟨.go, .go⟩ ?_
      repeat (first | exact trivial | refine stp ?_ | refine ldCg ?_ | refine ldNg ?_ | refine ldSg ?_ | refine ldSb ?_ | refine bnd ?_ | refine bnd1 ?_ | refine drawQ (by decide +kernel) mixed (by decide +kernel) ?_)
      have hrl : rs.length = ps.length := by have := congrArg List.length hd2; simpa using this
      have hOl2 := hOl.ext (hE1.trans' hE2)
      have hBl2 := hBl.ext (hE1.trans' hE2)
      refine apS (sz := 2) (n := qs.length) (m := rs.length) Tryz.underlying22 z48 c48 rfl (by decide) hOl2 (by omega) (SlC.of_own hO2) hO2.1 (fun u hu => ?_) (by omega) (by rw [by48]; omega) (fun v3 w3 hO3 hg3 => ?_)
      · obtain ⟨p, hp, hu⟩ := List.mem_flatMap.1 hu
        have h1 := (hR2.mem (p.kv, p.k) (List.mem_flatMap.2 ⟨p, hp, by simp [prB]⟩)).sl
        have h2 := (hR2.mem (p.vv, p.v) (List.mem_flatMap.2 ⟨p, hp, by simp [prB]⟩)).sl
        obtain ⟨a1, c1, e1⟩ := slv_of h1
        obtain ⟨a2, c2, e2⟩ := slv_of h2
        simp only at e1 e2
        simp only [PR.cells, List.mem_cons, List.not_mem_nil, or_false] at hu
        rcases hu with rfl | rfl
        · rw [e1]; rfl
        · rw [e2]; rfl
      have hE3 := below_of_grown hOl2 (by omega) hg3
      have hz3 := hE3.size
      have hBl3 : Blk w3 lb 22 [.slice a qs.length c] := ⟨by rw [hg3.block _ hBl2.lt (fun e => hOl2.not_blk hBl2 (by decide) e.symm)]; exact hBl2.out⟩
      have hR3 : RunB w3 w3.heap.size B ((qs ++ rs).flatMap prB) := by
        rw [List.flatMap_append]
        refine RunB.append (m := w.heap.size) (RunB.grown hOl2 (by decide) hg3 (hRl.ext (hE1.trans' hE2))) ?_
        exact RunB.append (l := []) (m := w1.heap.size) hz1 ((RunB.grown hOl2 (by decide) hg3 hR2).top hz3)
      have hF2 := hFn.ext (hE1.trans' hE2)
      have hF3 : Blk w3 wb 120 _ := ⟨by rw [hg3.block _ hF2.lt (fun e => hOl2.not_blk hF2 (by decide) e.symm)]; exact hF2.out⟩
      rw [← List.flatMap_append, ← List.length_append] at hO3
      have hd3 : rs.map PR.dat = m.map It.pr := by rw [hd2, hb.dat]
      obtain ⟨a3, c3, rfl⟩ := own_slice hO3
      have hE03 : Ext w0 w3 := .go
      refine toldS ⟨hE03, hBl3⟩ ?_
      repeat (first | exact trivial | refine stp ?_ | refine ldCg ?_ | refine ldNg ?_ | refine ldSg ?_ | refine ldSb ?_ | refine bnd ?_ | refine bnd1 ?_ | refine drawQ (by decide +kernel) mixed (by decide +kernel) ?_)
      refine stC ?_
      intro w4 hP4 hz4 hB4'
      refine toldZ ?_
      repeat (first | exact trivial | refine stp ?_ | refine ldCg ?_ | refine ldNg ?_ | refine ldSg ?_ | refine ldSb ?_ | refine bnd ?_ | refine bnd1 ?_ | refine drawQ (by decide +kernel) mixed (by decide +kernel) ?_)
      refine ⟨rs, hd3, ⟨⟨a3, c3, hB4', hO3.put hBl3 (by decide) hP4⟩, ?_, ?_, ?_⟩, ?_⟩
      · rw [hz4]; exact RunB.put hBl3 (by decide) hP4 hR3
      · have hne := hlo.2.2.1
        exact .go
      · omega
      · exact .go
    · obtain ⟨⟨a, c, hBl, hOl⟩, hRl, hFn, hlo⟩ := hacc
      have hB4 := hb.blk
      have hkv := hb.kids
      have hvl := hb.len
      have hc16 := cnt_le (bmI m d)
      obtain ⟨ka, kc, rfl⟩ := slv_of hkv.sl
      have hsl : (setB (bmI m d)).length = vs.length := by rw [hvl]; rfl
      refine enterT Tryz.func68 rfl Tryz.ntmps68 Tryz.results68 rfl (by decide) ?_
      repeat (first | exact trivial | refine stp ?_ | refine ldCg ?_ | refine ldNg ?_ | refine ldSg ?_ | refine ldSb ?_ | refine bnd ?_ | refine bnd1 ?_ | refine drawQ (by decide +kernel) mixed (by decide +kernel) ?_)
      refine loopX (ι := Nat × List PR) (fun x => [(2, .pointer (some ⟨wb, 0, none⟩)), (25, .slice ka vs.length kc), (26, .int .i64 vs.length), (27, .int .i64 x.1)])
        (fun x W => Ext w0 W ∧ x.1 ≤ vs.length ∧ x.2.map PR.dat = (((setB (bmI m d)).take x.1).flatMap (childI m d)).map It.pr ∧ AccAt W lb wb B (qs ++ x.2)) (fun x => vs.length - x.1) (0, []) ⟨hE, Nat.zero_le _, rfl, by rw [List.append_nil]; exact ⟨⟨a, c, hBl, hOl⟩, hRl, hFn, hlo⟩⟩ ?_ ?_
      · repeat (first | exact trivial | refine stp ?_ | refine ldCg ?_ | refine ldNg ?_ | refine ldSg ?_ | refine ldSb ?_ | refine bnd ?_ | refine bnd1 ?_ | refine drawQ (by decide +kernel) mixed (by decide +kernel) ?_)
      · rintro ⟨j, rs⟩ s1 w1 ⟨hE1, hj, hrd, hacc1⟩
        simp only at hj hrd hacc1
        have hz1 := hE1.size
        have hF1 := hacc1.fn
        repeat (first | exact trivial | refine stp ?_ | refine ldCg ?_ | refine ldNg ?_ | refine ldSg ?_ | refine ldSb ?_ | refine bnd ?_ | refine bnd1 ?_ | refine drawQ (by decide +kernel) mixed (by decide +kernel) ?_)
        refine ⟨fun hlt => ?_, fun hge => ?_⟩
        · obtain ⟨cj, hcj⟩ : ∃ cj, (setB (bmI m d))[j]? = some cj := ⟨_, List.getElem?_eq_getElem (by omega)⟩
          have hmem := mem_setB.1 (List.mem_of_getElem? hcj)
          rw [bmI_bit] at hmem
          have hhj : hasI m d cj = true := (Bool.and_eq_true_iff.1 hmem.2).2
          obtain ⟨x, hx, hNx⟩ := hkids cj hhj
          rw [rank_of hcj] at hx
          obtain ⟨b7, o7, rfl, hR7⟩ := vs_get hkv (by omega)
          repeat (first | exact trivial | refine stp ?_ | refine ldCg ?_ | refine ldNg ?_ | refine ldSg ?_ | refine ldSb ?_ | refine bnd ?_ | refine bnd1 ?_ | refine drawQ (by decide +kernel) mixed (by decide +kernel) ?_)
          refine ldRowF (f := fun v : Value => [v]) 0 hx ?_
          repeat (first | exact trivial | refine stp ?_ | refine ldCg ?_ | refine ldNg ?_ | refine ldSg ?_ | refine ldSb ?_ | refine bnd ?_ | refine bnd1 ?_ | refine drawQ (by decide +kernel) mixed (by decide +kernel) ?_)
          have htk : (setB (bmI m d)).take (j + 1) = (setB (bmI m d)).take j ++ [cj] := by
            obtain ⟨hil, he⟩ := List.getElem?_eq_some_iff.1 hcj
            rw [List.take_succ_eq_append_getElem hil, he]
          have hlen : rs.length + (childI m d cj).length ≤ m.length := by
            have h1 := congrArg List.length hrd
            have h2 := congrArg List.length (set_flat hO.sorted hP (by omega : d < 64))
            rw [← List.take_append_drop (j + 1) (setB (bmI m d)), List.flatMap_append, htk, List.flatMap_append, List.flatMap_cons, List.flatMap_nil, List.append_nil] at h2
            simp only [List.length_append, List.length_map] at h1 h2
            omega
          refine dynCap ((ih f' (by omega) (d + 1) (childI m d cj) x (qs ++ rs) w1 ⟨fun e => absurd e (child_ne hhj), fun _ => hNx⟩ (hO.child _ _) (hP.child _) (by omega) hE1 hacc1 (by rw [List.length_append]; omega)).mono ?_ |>.body (by kernel_rfl))
          rintro _ w2 ⟨rs', hrd', hacc2, hE2⟩
          have hz2 := hE2.size
          rw [List.append_assoc] at hacc2
          repeat (first | exact trivial | refine stp ?_ | refine ldCg ?_ | refine ldNg ?_ | refine ldSg ?_ | refine ldSb ?_ | refine bnd ?_ | refine bnd1 ?_ | refine drawQ (by decide +kernel) mixed (by decide +kernel) ?_)
          refine ⟨(j + 1, rs ++ rs'), ⟨hE2, by omega, ?_, hacc2⟩, by rw [w64 (by omega) (by omega)]; rfl, by simp only; omega⟩
          simp only
          rw [List.map_append, hrd, hrd', htk, List.flatMap_append, List.map_append, List.flatMap_cons, List.flatMap_nil, List.append_nil]
        · obtain rfl : j = vs.length := by omega
          rw [List.take_of_length_le (by omega), set_flat hO.sorted hP (by omega)] at hrd
          repeat (first | exact trivial | refine stp ?_ | refine ldCg ?_ | refine ldNg ?_ | refine ldSg ?_ | refine ldSb ?_ | refine bnd ?_ | refine bnd1 ?_ | refine drawQ (by decide +kernel) mixed (by decide +kernel) ?_)
          exact ⟨rs, hrd, hacc1, hE1⟩
theorem Pairs_hamt_ok (n : Int) (hw : widB n = true) (S : Nat → Prop) (mv : Value) (m : List It) (w : World) (h : MapAt n S w mv m) (hO : OkI n m) (hml : m.length ≤ 1000000000) :
    CallK Tryz.prog 33 [mv].toArray w fun v w' => ∃ qs : List PR, Own w' w.heap.size 48 2 v qs.length (qs.flatMap PR.cells) ∧ RunB w' w'.heap.size w.heap.size (qs.flatMap prB) ∧ qs.map PR.dat = m.map It.pr ∧ Ext w w' := by
  obtain ⟨b, top, rfl, hS, hB, hT1, hT2⟩ := h
  have hbl := hB.lt
  refine enterT Tryz.func33 rfl Tryz.ntmps33 Tryz.results33 rfl (by decide) ?_
  repeat (first | exact trivial | refine stp ?_ | refine ldCg ?_ | refine ldNg ?_ | refine ldSg ?_ | refine ldSb ?_ | refine bnd ?_ | refine bnd1 ?_ | refine drawQ (by decide +kernel) mixed (by decide +kernel) ?_)
  first | refine newS ?_ | refine newZ ?_
  intro w1 hE1 hz1 hB1
  first | refine newS ?_ | refine newZ ?_
  intro w2 hE2 hz2 hB2
  have hB2' : Blk w2 w1.heap.size 120 [.nilFunc] := hB2
  clear hB2
  refine stC ?_
  intro w3 hP3 hz3 hB3
  repeat (first | exact trivial | refine stp ?_ | refine ldCg ?_ | refine ldNg ?_ | refine ldSg ?_ | refine ldSb ?_ | refine bnd ?_ | refine bnd1 ?_)
  refine drawX (.of [0, 1, 2, 3, 4, 5]) mixed (by decide +kernel) (fun w4 hE4 hz4 => ?_)
  repeat (first | exact trivial | refine stp ?_ | refine ldCg ?_ | refine ldNg ?_ | refine ldSg ?_ | refine ldSb ?_ | refine bnd ?_ | refine bnd1 ?_ | refine drawQ (by decide +kernel) mixed (by decide +kernel) ?_)
  refine dynCap ((pairs1_ok n hw S w w.heap.size w1.heap.size w2.heap.size (Nat.le_refl _) (by omega) 64 0 m top [] w4 ⟨hT1, hT2⟩ hO hO.pre rfl .go ⟨⟨none, 0, .go, Own.nil _ _ _ _⟩, by show w2.heap.size ≤ w4.heap.size; omega, .go, by omega⟩ (by simp only [List.length_nil]; omega)).mono ?_ |>.body (by kernel_rfl))
  rintro _ w5 ⟨qs, hqd, ⟨⟨a, c, hB5, hO5⟩, hR5, _, hl5⟩, hE5⟩
  rw [List.nil_append] at hB5 hO5 hR5
  refine toldZ ?_
  repeat (first | exact trivial | refine stp ?_ | refine ldCg ?_ | refine ldNg ?_ | refine ldSg ?_ | refine ldSb ?_ | refine bnd ?_ | refine bnd1 ?_ | refine drawQ (by decide +kernel) mixed (by decide +kernel) ?_)
  exact ⟨qs, hO5.base (by omega), RunB.append (l := []) (m := w2.heap.size) (by show w.heap.size ≤ w2.heap.size; omega) hR5, hqd, hE5⟩
end Go.Proofs.YtieaoldoiahgpaaGreatDoor

/-! Lhd -/
namespace Go.Proofs.YtieaoldoiahgpaaGreatDoor
set_option maxRecDepth 100000
open Go Go.RowKit
set_option linter.unusedVariables false
set_option linter.unusedSimpArgs false
set_option maxHeartbeats 4000000
attribute [local irreducible] vcT opsT qT vcOp Q1 vcPure vcLoad vcStore ldC ldN ldD grdT grdQ vc vcOps vcQ hT
attribute [local irreducible] sumR sumP shaP keyD bucketP branchP

def okP (p : PR) : Bool := decide (¬ (64 < p.k.length ∨ 256 < p.v.length))
theorem short_dat (ps : List PR) : (ps.filter okP).map PR.dat = shortP (ps.map PR.dat) := by
  unfold shortP
  rw [List.filter_map]
  rfl
theorem short_ok (ps : List PR) (pv : Value) (w : World) (hp : PairsAt w pv ps) (hpl : ps.length ≤ 90000000) :
    CallK Tryz.prog 25 [pv].toArray w fun v w' => PairsAt w' v (ps.filter okP) ∧ Own w' w.heap.size 48 2 v (ps.filter okP).length ((ps.filter okP).flatMap PR.cells) ∧ Ext w w' := by
  obtain ⟨hp1, hp2⟩ := hp
  obtain ⟨pa, cp, rfl⟩ := slv_of hp1
  refine enterT Tryz.func25 rfl Tryz.ntmps25 Tryz.results25 rfl (by decide) ?_
  repeat (first | exact trivial | refine stp ?_ | refine ldCg ?_ | refine ldNg ?_ | refine ldSg ?_ | refine ldSb ?_ | refine bnd ?_ | refine bnd1 ?_ | refine drawQ (by decide +kernel) mixed (by decide +kernel) ?_)
  refine loopX (ι := Nat × Option Addr × Nat) (fun x => [(3, .slice x.2.1 ((ps.take x.1).filter okP).length x.2.2), (6, .slice pa ps.length cp), (7, .int .i64 ps.length), (8, .int .i64 x.1)])
    (fun x W => Ext w W ∧ x.1 ≤ ps.length ∧ Own W w.heap.size 48 2 (.slice x.2.1 ((ps.take x.1).filter okP).length x.2.2) ((ps.take x.1).filter okP).length (((ps.take x.1).filter okP).flatMap PR.cells)) (fun x => ps.length - x.1) (0, none, 0) ⟨.go, Nat.zero_le _, Own.nil _ _ _ _⟩ ?_ ?_
  · repeat (first | exact trivial | refine stp ?_ | refine ldCg ?_ | refine ldNg ?_ | refine ldSg ?_ | refine ldSb ?_ | refine bnd ?_ | refine bnd1 ?_ | refine drawQ (by decide +kernel) mixed (by decide +kernel) ?_)
    rfl
  · rintro ⟨i, a1, c1⟩ s1 w1 ⟨hE1, hi, hO1⟩
    simp only at hi hO1
    have hz1 := hE1.size
    repeat (first | exact trivial | refine stp ?_ | refine ldCg ?_ | refine ldNg ?_ | refine ldSg ?_ | refine ldSb ?_ | refine bnd ?_ | refine bnd1 ?_ | refine drawQ (by decide +kernel) mixed (by decide +kernel) ?_)
    refine ⟨fun hlt => ?_, fun hge => ?_⟩
    · obtain ⟨b, o, rfl, hR⟩ := pr_row hp1 (by omega)
      obtain ⟨p, hx⟩ : ∃ x, ps[i]? = some x := ⟨_, List.getElem?_eq_getElem (by omega)⟩
      obtain ⟨hpk, hpv⟩ := hp2 _ (List.mem_of_getElem? hx)
      have htk : ps.take (i + 1) = ps.take i ++ [p] := by
        obtain ⟨hil, he⟩ := List.getElem?_eq_some_iff.1 hx
        rw [List.take_succ_eq_append_getElem hil, he]
      obtain ⟨kv, vv, k, v⟩ := p
      simp only at hpk hpv
      obtain ⟨ka, kc, rfl⟩ := slv_of hpk
      obtain ⟨va, vc', rfl⟩ := slv_of hpv
      have hfl : ((ps.take i).filter okP).length ≤ i := Nat.le_trans (List.length_filter_le _ _) (by rw [List.length_take]; omega)
      repeat (first | exact trivial | refine stp ?_ | refine ldCg ?_ | refine ldNg ?_ | refine ldSg ?_ | refine ldSb ?_ | refine bnd ?_ | refine bnd1 ?_ | refine drawQ (by decide +kernel) mixed (by decide +kernel) ?_)
      refine ldPair hx ?_
      repeat (first | exact trivial | refine stp ?_ | refine ldCg ?_ | refine ldNg ?_ | refine ldSg ?_ | refine ldSb ?_ | refine bnd ?_ | refine bnd1 ?_ | refine drawQ (by decide +kernel) mixed (by decide +kernel) ?_)
      first | refine newS ?_ | refine newZ ?_
      intro w2 hE2 hz2 hB2
      repeat (first | exact trivial | refine stp ?_ | refine ldCg ?_ | refine ldNg ?_ | refine ldSg ?_ | refine ldSb ?_ | refine bnd ?_ | refine bnd1 ?_ | refine drawQ (by decide +kernel) mixed (by decide +kernel) ?_)
      refine (CheckPairR_ok k v _ _ w2 (hpk.ext .go) (hpv.ext .go)).mono ?_
      rintro _ w3 ⟨rfl, hE3⟩
      have hz3 := hE3.size
      by_cases hc : 64 < k.length ∨ 256 < v.length
      · rw [if_pos hc]
        have hfe : (ps.take (i + 1)).filter okP = (ps.take i).filter okP := by
          rw [htk, List.filter_append, List.filter_cons_of_neg (by unfold okP; rw [decide_eq_true_eq]; exact fun h => h hc), List.filter_nil, List.append_nil]
        repeat (first | exact trivial | refine stp ?_ | refine ldCg ?_ | refine ldNg ?_ | refine ldSg ?_ | refine ldSb ?_ | refine bnd ?_ | refine bnd1 ?_ | refine drawQ (by decide +kernel) mixed (by decide +kernel) ?_)
        refine ⟨(i + 1, a1, c1), ⟨.go, by simp only; omega, by simp only; rw [hfe]; exact hO1.ext .go⟩, ⟨by simp only; rw [hfe], by rw [w64 (by omega) (by omega)]; rfl⟩, by simp only; omega⟩
      · rw [if_neg hc]
        have hfe : (ps.take (i + 1)).filter okP = (ps.take i).filter okP ++ [⟨.slice ka k.length kc, .slice va v.length vc', k, v⟩] := by
          rw [htk, List.filter_append, List.filter_cons_of_pos (by unfold okP; rw [decide_eq_true_eq]; exact hc), List.filter_nil]
        repeat (first | exact trivial | refine stp ?_ | refine ldCg ?_ | refine ldNg ?_ | refine ldSg ?_ | refine ldSb ?_ | refine bnd ?_ | refine bnd1 ?_ | refine drawQ (by decide +kernel) mixed (by decide +kernel) ?_)
        refine ⟨rfl, rfl, ?_⟩
        first | refine newS ?_ | refine newZ ?_
        intro w4 hE4 hz4 hB4
        refine apPairN (p := ⟨.slice ka k.length kc, .slice va v.length vc', k, v⟩) rfl (hO1.ext .go) (by omega) hB4 rfl rfl (by omega) (fun a6 c6 w6 hO6 hg6 hE6 => ?_)
        have hz6 := hE6.size
        rw [← hfe] at hO6
        rw [show ((ps.take i).filter okP).length + 1 = ((ps.take (i + 1)).filter okP).length from by rw [hfe, List.length_append]; rfl] at hO6 ⊢
        repeat (first | exact trivial | refine stp ?_ | refine ldCg ?_ | refine ldNg ?_ | refine ldSg ?_ | refine ldSb ?_ | refine bnd ?_ | refine bnd1 ?_ | refine drawQ (by decide +kernel) mixed (by decide +kernel) ?_)
        exact ⟨(i + 1, a6, c6), ⟨.go, by simp only; omega, hO6⟩, ⟨rfl, by rw [w64 (by omega) (by omega)]; rfl⟩, by simp only; omega⟩
    · obtain rfl : i = ps.length := by omega
      rw [List.take_length] at hO1 ⊢
      repeat (first | exact trivial | refine stp ?_ | refine ldCg ?_ | refine ldNg ?_ | refine ldSg ?_ | refine ldSb ?_ | refine bnd ?_ | refine bnd1 ?_ | refine drawQ (by decide +kernel) mixed (by decide +kernel) ?_)
      exact ⟨⟨SlC.of_own hO1, fun q hq => ⟨(hp2 q (List.mem_filter.1 hq).1).1.ext hE1, (hp2 q (List.mem_filter.1 hq).1).2.ext hE1⟩⟩, hO1, hE1⟩
theorem RunB.pairsAt {w : World} {lo hi B : Nat} {v : Value} {qs : List PR} (h : RunB w hi lo (qs.flatMap prB)) (hO : Own w B 48 2 v qs.length (qs.flatMap PR.cells)) : PairsAt w v qs :=
  ⟨SlC.of_own hO, fun q hq => ⟨(h.mem (q.kv, q.k) (List.mem_flatMap.2 ⟨q, hq, by simp [prB]⟩)).sl, (h.mem (q.vv, q.v) (List.mem_flatMap.2 ⟨q, hq, by simp [prB]⟩)).sl⟩⟩
end Go.Proofs.YtieaoldoiahgpaaGreatDoor

/-! Its -/
namespace Go.Proofs.YtieaoldoiahgpaaGreatDoor
set_option maxRecDepth 100000
open Go Go.RowKit
set_option linter.unusedVariables false
set_option linter.unusedSimpArgs false

theorem del_none {l : List It} {k : List UInt8} (h : ∀ y ∈ l, y.k ≠ k) : delI l k = l := List.filter_eq_self.2 fun y hy => by simpa using h y hy
theorem mem_del {l : List It} {k : List UInt8} {y : It} : y ∈ delI l k ↔ y ∈ l ∧ y.k ≠ k := by simp [delI]
theorem getI_none {l : List It} {k : List UInt8} : getI l k = none ↔ ∀ y ∈ l, y.k ≠ k := by
  unfold getI
  rw [Option.map_eq_none_iff, List.find?_eq_none]
  exact ⟨fun h y hy => by simpa using h y hy, fun h y hy => by simpa using h y hy⟩
theorem del_of_none {l : List It} {k : List UInt8} (h : getI l k = none) : delI l k = l := del_none (getI_none.1 h)
theorem OkI.del {n : Int} {m : List It} (h : OkI n m) (k : List UInt8) : OkI n (delI m k) := ⟨delI_sorted h.sorted, fun y hy => h.dig y (mem_del.1 hy).1, fun y hy => h.short y (mem_del.1 hy).1⟩
theorem del_len (m : List It) (k : List UInt8) : (delI m k).length ≤ m.length := List.length_filter_le _ _
theorem Pre.del {d : Nat} {m : List It} (h : Pre d m) (k : List UInt8) : Pre d (delI m k) := h.sub fun y hy => (mem_del.1 hy).1
theorem child_del_other {n : Int} {m : List It} (hO : OkI n m) {k : List UInt8} {d c : Nat} (h : digP (keyD n k) d ≠ c) : childI (delI m k) d c = childI m d c := by
  rw [child_del]
  refine del_none fun y hy hk => h ?_
  obtain ⟨h1, h2⟩ := mem_child.1 hy
  rw [← h2, hO.dig y h1, hk]
theorem has_del_other {n : Int} {m : List It} (hO : OkI n m) {k : List UInt8} {d c : Nat} (h : digP (keyD n k) d ≠ c) : hasI (delI m k) d c = hasI m d c := by unfold hasI; rw [child_del_other hO h]
theorem has_of_ne {m : List It} {d c : Nat} (h : childI m d c ≠ []) : hasI m d c = true := by
  unfold hasI
  cases hc : childI m d c with
  | nil => exact absurd hc h
  | cons _ _ => rfl
theorem hasB_of {m : List It} {d c : Nat} (h : hasI m d c = true) : hasB (bmI m d) (c : Int) = true := by rw [bmI_has, h, decide_eq_true (has_lt h)]; rfl
/-- The bitmap stays where something is left under the digit. -/
theorem bm_del_keep {n : Int} {m : List It} (hO : OkI n m) {k : List UInt8} {d : Nat} (h : delI (childI m d (digP (keyD n k) d)) k ≠ []) : bmI (delI m k) d = bmI m d := by
  refine bit_ext (bmI_lt _ _) (bmI_lt _ _) fun c hc => ?_
  rw [bmI_bit, bmI_bit]
  congr 1
  by_cases hcx : digP (keyD n k) d = c
  · subst hcx
    rw [has_of_ne (by rw [child_del]; exact h), has_of_ne (fun e => h (by rw [e]; rfl))]
  · exact has_del_other hO hcx
theorem bm_del_drop {n : Int} {m : List It} (hO : OkI n m) {k : List UInt8} {d : Nat} (h : delI (childI m d (digP (keyD n k) d)) k = []) : withoutB (bmI m d) (digP (keyD n k) d : Int) = bmI (delI m k) d := by
  have hl := digP_lt (keyD n k) d
  refine bit_ext (withoutB_lt (bmI_lt _ _) _) (bmI_lt _ _) fun c hc => ?_
  have hp : 2 ^ digP (keyD n k) d ≤ 32768 := pow_le16 (by omega)
  have h65 : (65535 - 2 ^ digP (keyD n k) d).testBit c = !decide (digP (keyD n k) d = c) := by
    have hh : ∀ a b : Fin 16, (65535 - 2 ^ a.1).testBit b.1 = !decide (a.1 = b.1) := by decide +kernel
    exact hh ⟨_, hl⟩ ⟨c, hc⟩
  unfold withoutB
  rw [if_pos ((inB_iff _).2 (by omega)), Int.toNat_natCast, Nat.testBit_and, h65, bmI_bit, bmI_bit, decide_eq_true hc, Bool.true_and, Bool.true_and]
  by_cases hcx : digP (keyD n k) d = c
  · subst hcx
    rw [decide_eq_true rfl, Bool.not_true, Bool.and_false]
    unfold hasI
    rw [child_del, h]
    rfl
  · rw [decide_eq_false hcx, Bool.not_false, Bool.and_true, has_del_other hO hcx]
/-- A bitmap without one of its digits, put there again. -/
theorem with_without {bm c0 : Nat} (hb : bm < 65536) (h : hasB bm (c0 : Int) = true) : c0 < 16 ∧ hasB (withoutB bm (c0 : Int)) (c0 : Int) = false ∧ withB (withoutB bm (c0 : Int)) (c0 : Int) = bm := by
  rw [hasN] at h
  obtain ⟨h1, h2⟩ := Bool.and_eq_true_iff.1 h
  have h1' : c0 < 16 := by simpa using h1
  have hin : inB (c0 : Int) = true := (inB_iff _).2 (by omega)
  have h65 : ∀ c, c < 16 → (65535 - 2 ^ c0).testBit c = !decide (c0 = c) := fun c hc => by
    have hh : ∀ a b : Fin 16, (65535 - 2 ^ a.1).testBit b.1 = !decide (a.1 = b.1) := by decide +kernel
    exact hh ⟨_, h1'⟩ ⟨c, hc⟩
  refine ⟨h1', ?_, bit_ext (withB_lt (withoutB_lt hb _) _) hb fun c hc => ?_⟩
  · rw [hasN, decide_eq_true h1', Bool.true_and]
    unfold withoutB
    rw [if_pos hin, Int.toNat_natCast, Nat.testBit_and, h65 c0 h1', decide_eq_true rfl, Bool.not_true, Bool.and_false]
  · unfold withB withoutB
    rw [if_pos hin, if_pos hin, Int.toNat_natCast, Nat.testBit_or, Nat.testBit_and, h65 c hc, Nat.testBit_two_pow]
    by_cases e : c0 = c
    · subst e; simp [h2]
    · simp [e]
theorem kids_keep {n : Int} {m : List It} (hO : OkI n m) {k : List UInt8} {d : Nat} {vs : List Value} {v : Value} {P : List It → Value → Prop} (hh : hasI m d (digP (keyD n k) d) = true) (hne : delI (childI m d (digP (keyD n k) d)) k ≠ [])
    (hk : ∀ c, hasI m d c = true → ∃ y, vs[rankB (bmI m d) (c : Int)]? = some y ∧ P (childI m d c) y) (hv : P (delI (childI m d (digP (keyD n k) d)) k) v) :
    ∀ c, hasI (delI m k) d c = true → ∃ y, (vs.set (rankB (bmI m d) (digP (keyD n k) d : Int)) v)[rankB (bmI (delI m k) d) (c : Int)]? = some y ∧ P (childI (delI m k) d c) y := by
  intro c hc
  rw [bm_del_keep hO hne]
  by_cases hcx : digP (keyD n k) d = c
  · subst hcx
    obtain ⟨y, hy, _⟩ := hk _ hh
    have := (List.getElem?_eq_some_iff.1 hy).1
    refine ⟨v, by rw [List.getElem?_set_self this], ?_⟩
    rw [child_del]
    exact hv
  · rw [has_del_other hO hcx] at hc
    obtain ⟨y, hy, hP⟩ := hk c hc
    refine ⟨y, ?_, by rw [child_del_other hO hcx]; exact hP⟩
    rw [List.getElem?_set_ne (fun h => hcx (rank_inj (hasB_of hh) (hasB_of hc) h))]
    exact hy
theorem kids_drop {n : Int} {m : List It} (hO : OkI n m) {k : List UInt8} {d : Nat} {vs : List Value} {P : List It → Value → Prop} (hh : hasI m d (digP (keyD n k) d) = true) (he : delI (childI m d (digP (keyD n k) d)) k = []) (hl : vs.length = cntB (bmI m d))
    (hk : ∀ c, hasI m d c = true → ∃ y, vs[rankB (bmI m d) (c : Int)]? = some y ∧ P (childI m d c) y) :
    cntB (bmI (delI m k) d) + 1 = cntB (bmI m d) ∧ ∀ c, hasI (delI m k) d c = true → ∃ y, (vs.take (rankB (bmI m d) (digP (keyD n k) d : Int)) ++ vs.drop (rankB (bmI m d) (digP (keyD n k) d : Int) + 1))[rankB (bmI (delI m k) d) (c : Int)]? = some y ∧ P (childI (delI m k) d c) y := by
  obtain ⟨h16, hn, hw⟩ := with_without (bmI_lt m d) (hasB_of hh)
  rw [bm_del_drop hO he] at hn hw
  have hcnt := cnt_with h16 hn
  rw [hw] at hcnt
  have hrl := rank_lt (hasB_of hh)
  have htl : (vs.take (rankB (bmI m d) (digP (keyD n k) d : Int))).length = rankB (bmI m d) (digP (keyD n k) d : Int) := by rw [List.length_take]; omega
  refine ⟨by omega, fun c hc => ?_⟩
  have hrw := rank_with h16 hn c
  rw [hw] at hrw
  have hcx : digP (keyD n k) d ≠ c := by
    rintro rfl
    unfold hasI at hc
    rw [child_del, he] at hc
    cases hc
  rw [has_del_other hO hcx] at hc
  obtain ⟨y, hy, hP⟩ := hk c hc
  refine ⟨y, ?_, by rw [child_del_other hO hcx]; exact hP⟩
  rcases Nat.lt_or_gt_of_ne hcx with hlt | hgt
  · have h1 := rank_smono (hasB_of hh) hlt
    rw [if_pos hlt] at hrw
    rw [List.getElem?_append_right (by omega), htl, List.getElem?_drop, ← hy]
    congr 1
    omega
  · have h1 := rank_smono (hasB_of hc) hgt
    rw [if_neg (by omega)] at hrw
    rw [List.getElem?_append_left (by omega), List.getElem?_take_of_lt (by omega), ← hy]
    congr 1
    omega
/-- Two children: no single digest. -/
theorem two_not_single {m : List It} {d : Nat} (h : 2 ≤ cntB (bmI m d)) : singleB m = false := by
  cases hs : singleB m with
  | false => rfl
  | true =>
    exfalso
    have hs' := singleB_iff.1 hs
    have hg : ∀ i, i < cntB (bmI m d) → ∃ c, (setB (bmI m d))[i]? = some c ∧ hasI m d c = true := fun i hi => by
      obtain ⟨c, hc⟩ : ∃ c, (setB (bmI m d))[i]? = some c := ⟨_, List.getElem?_eq_getElem (by unfold cntB at hi; exact hi)⟩
      have h1 := mem_setB.1 (List.mem_of_getElem? hc)
      rw [bmI_bit] at h1
      exact ⟨c, hc, (Bool.and_eq_true_iff.1 h1.2).2⟩
    obtain ⟨a, ha, hA⟩ := hg 0 (by omega)
    obtain ⟨b, hb, hB⟩ := hg 1 (by omega)
    obtain ⟨y, hy, rfl⟩ := has_iff.1 hA
    obtain ⟨z, hz, rfl⟩ := has_iff.1 hB
    rw [hs' y hy z hz] at ha
    have r1 := rank_of ha
    have r2 := rank_of hb
    omega
/-- One child: all items are its. -/
theorem one_child {m : List It} {d : Nat} (h : cntB (bmI m d) = 1) : ∃ c, hasI m d c = true ∧ rankB (bmI m d) (c : Int) = 0 ∧ childI m d c = m := by
  obtain ⟨c, hc⟩ : ∃ c, (setB (bmI m d))[0]? = some c := ⟨_, List.getElem?_eq_getElem (by unfold cntB at h; omega)⟩
  have h1 := mem_setB.1 (List.mem_of_getElem? hc)
  rw [bmI_bit] at h1
  refine ⟨c, (Bool.and_eq_true_iff.1 h1.2).2, rank_of hc, List.filter_eq_self.2 fun y hy => ?_⟩
  have ha : hasI m d (digP y.D d) = true := has_iff.2 ⟨y, hy, rfl⟩
  have hr := rank_lt (hasB_of ha)
  have := rank_get (hasB_of ha)
  rw [show rankB (bmI m d) (digP y.D d : Int) = 0 from by omega, hc] at this
  simpa using (Option.some.inj this).symm
/-- A bucket without one of its keys. -/
theorem del_bucket {m : List It} {ps : List PR} {k : List UInt8} {i : Nat} (hd : ps.map PR.dat = m.map It.pr) (hs : ps.Pairwise fun a b => Lib.compareBytes a.k b.k < 0) (hF : FindP ps k i true) :
    (ps.take i ++ ps.drop (i + 1)).map PR.dat = (delI m k).map It.pr ∧ i < ps.length ∧ getI m k ≠ none := by
  obtain ⟨q, hq, hk⟩ := hF.hit.1 rfl
  obtain ⟨hil, hie⟩ := List.getElem?_eq_some_iff.1 hq
  have e : ps = ps.take i ++ q :: ps.drop (i + 1) := by rw [← hie]; simp
  have h1 : (delI m k).map It.pr = (ps.filter fun p => decide (p.k ≠ k)).map PR.dat := by
    have a1 : (delI m k).map It.pr = (m.map It.pr).filter fun p => decide (p.1 ≠ k) := by rw [List.filter_map]; rfl
    have a2 : (ps.filter fun p => decide (p.k ≠ k)).map PR.dat = (ps.map PR.dat).filter fun p => decide (p.1 ≠ k) := by rw [List.filter_map]; rfl
    rw [a1, a2, hd]
  have h2 : ps.filter (fun p => decide (p.k ≠ k)) = ps.take i ++ ps.drop (i + 1) := by
    have hs' := hs
    rw [e] at hs'
    obtain ⟨s1, s2, s3⟩ := List.pairwise_append.1 hs'
    have s4 := (List.pairwise_cons.1 s2).1
    conv => lhs; rw [e]
    rw [List.filter_append, List.filter_cons_of_neg (by simpa using hk), List.filter_eq_self.2, List.filter_eq_self.2]
    · intro p hp
      have := s4 p hp
      simp only [ne_eq, decide_not, Bool.not_eq_eq_eq_not, Bool.not_true, decide_eq_false_iff_not]
      intro h
      rw [hk, h, cmpB_self] at this
      omega
    · intro p hp
      have := s3 p hp q (by simp)
      simp only [ne_eq, decide_not, Bool.not_eq_eq_eq_not, Bool.not_true, decide_eq_false_iff_not]
      intro h
      rw [hk, h, cmpB_self] at this
      omega
  refine ⟨by rw [h1, h2], hil, fun hn => ?_⟩
  have hm : q.dat ∈ m.map It.pr := by rw [← hd]; exact List.mem_map_of_mem (List.mem_of_getElem? hq)
  obtain ⟨y, hy, he⟩ := List.mem_map.1 hm
  have := congrArg Prod.fst he
  simp only [It.pr, PR.dat] at this
  exact getI_none.1 hn y hy (by rw [this, hk])
theorem miss_bucket {m : List It} {ps : List PR} {k : List UInt8} {i : Nat} (hd : ps.map PR.dat = m.map It.pr) (hs : ps.Pairwise fun a b => Lib.compareBytes a.k b.k < 0) (hF : FindP ps k i false) : getI m k = none := by
  refine getI_none.2 fun y hy hk => ?_
  have hm : y.pr ∈ ps.map PR.dat := by rw [hd]; exact List.mem_map_of_mem hy
  obtain ⟨p, hp, he⟩ := List.mem_map.1 hm
  have hpk : p.k = k := by have := congrArg Prod.fst he; simp only [It.pr, PR.dat] at this; rw [this, hk]
  obtain ⟨j, hj⟩ := List.getElem?_of_mem hp
  have hnot : ¬ ∃ p, ps[i]? = some p ∧ p.k = k := fun h => by have := hF.hit.2 h; cases this
  rcases Nat.lt_trichotomy j i with h | h | h
  · have := hF.low j p hj h
    rw [hpk, cmpB_self] at this
    omega
  · subst h
    exact hnot ⟨p, hj, hpk⟩
  · obtain ⟨hjl, hje⟩ := List.getElem?_eq_some_iff.1 hj
    have hil : i < ps.length := by omega
    have h1 := hF.high i _ (List.getElem?_eq_getElem hil) (Nat.le_refl _)
    have h2 := List.pairwise_iff_getElem.1 hs i j hil hjl h
    rw [hje, hpk] at h2
    omega
end Go.Proofs.YtieaoldoiahgpaaGreatDoor

/-! Rfe -/
namespace Go.Proofs.YtieaoldoiahgpaaGreatDoor
set_option maxRecDepth 100000
open Go Go.RowKit
set_option linter.unusedVariables false
set_option linter.unusedSimpArgs false
set_option maxHeartbeats 1000000
attribute [local irreducible] vcT opsT qT vcOp Q1 vcPure vcLoad vcStore ldC ldN ldD grdT grdQ vc vcOps vcQ hT
attribute [local irreducible] sumR sumP shaP keyD bucketP branchP

/-- A list of items with all that it needs in blocks of S. -/
structure ItemsS (S : Nat → Prop) (w : World) (v : Value) (is : List IR) : Prop where
  row : SlS S w v is.length (is.flatMap IR.cells)
  mem : ∀ q ∈ is, q.y.D.length = 32 ∧ SlS S w q.kv q.y.k.length (vbs q.y.k) ∧ SlS S w q.vv q.y.v.length (vbs q.y.v)
theorem ItemsS.at {S : Nat → Prop} {w : World} {v : Value} {is : List IR} (h : ItemsS S w v is) : ItemsAt w v is := ⟨h.row.sl, fun q hq => ⟨(h.mem q hq).1, (h.mem q hq).2.1.sl, (h.mem q hq).2.2.sl⟩⟩
theorem ItemsS.keep {S : Nat → Prop} {w w' : World} {v : Value} {is : List IR} (h : ItemsS S w v is) (k : KeepS S w w') : ItemsS S w' v is := ⟨h.row.keep k, fun q hq => ⟨(h.mem q hq).1, (h.mem q hq).2.1.keep k, (h.mem q hq).2.2.keep k⟩⟩
theorem ItemsS.mono {S S' : Nat → Prop} {w : World} {v : Value} {is : List IR} (h : ItemsS S w v is) (hS : ∀ b, S b → S' b) : ItemsS S' w v is := ⟨h.row.mono hS, fun q hq => ⟨(h.mem q hq).1, (h.mem q hq).2.1.mono hS, (h.mem q hq).2.2.mono hS⟩⟩
theorem ItemsS.lt {S : Nat → Prop} {w : World} {v : Value} {is : List IR} (h : ItemsS S w v is) : ItemsS (SLt S w) w v is := ⟨h.row.lt, fun q hq => ⟨(h.mem q hq).1, (h.mem q hq).2.1.lt, (h.mem q hq).2.2.lt⟩⟩
theorem ItemsS.nil {S : Nat → Prop} {w : World} : ItemsS S w (.slice none 0 0) [] := ⟨⟨none, 0, rfl, Nat.le_refl _, by decide, Or.inl rfl⟩, by simp⟩
theorem ItemsS.ext {S : Nat → Prop} {w w' : World} {v : Value} {is : List IR} (h : ItemsS S w v is) (e : Ext w w') : ItemsS S w' v is := h.keep (KeepS.of_ext e)
def noK (key : List UInt8) (q : IR) : Bool := decide (q.y.k ≠ key)
end Go.Proofs.YtieaoldoiahgpaaGreatDoor

/-! Sld -/
namespace Go.Proofs.YtieaoldoiahgpaaGreatDoor
set_option maxRecDepth 100000
open Go Go.RowKit
set_option linter.unusedVariables false
set_option linter.unusedSimpArgs false

theorem DelP_ok (A X D : List Value) (i len : Nat) (hAl : A.length = i * 2) (hXl : X.length = 2) (hDl : D.length = (len - 1 - i) * 2) (hi : i < len) (hD1 : ∀ v ∈ D, oneCellV v = true) (v : Value) (base : Nat) (w : World)
    (hO : Own w base 48 2 v len (A ++ (X ++ D))) (hbase : base ≤ w.heap.size) (hsz : len ≤ 4000000000) :
    CallK Tryz.prog 112 [v, .int .i64 i, .int .i64 (i + 1 : Nat)].toArray w fun v' w' => Own w' base 48 2 v' (len - 1) (A ++ D) ∧ Below base w w' ∧ OnlyBy v w w' := by
  obtain ⟨a, c, rfl⟩ := own_slice hO
  have hcl := hO.cap_le
  obtain ⟨_, ⟨h0, h0'⟩ | ⟨g, cap, cur, h0, hbg, hg, hnc, hcm, hcs, hct⟩⟩ := hO
  · omega
  cases h0
  obtain ⟨rest, hrest⟩ : ∃ rest, cur.toList = A ++ (X ++ (D ++ rest)) := ⟨cur.toList.drop (len * 2), by
    have := List.take_append_drop (len * 2) cur.toList
    rw [hct, List.append_assoc, List.append_assoc] at this
    exact this.symm⟩
  have hG : Blk w g 48 (A ++ (X ++ (D ++ rest))) := ⟨by rw [← hrest]; simpa using hg⟩
  have hrl : rest.length = (c - len) * 2 := by
    have := congrArg List.length hrest
    simp only [List.length_append, Array.length_toList, hcs] at this
    omega
  refine enterT Tryz.func112 rfl Tryz.ntmps112 Tryz.results112 rfl (by decide) ?_
  simp only [↓VD, VP, VT, isAggD, reduceCtorEq, Int.reduceEq, Int.reduceNe, Int.reduceLT, Int.reduceLE, implies_true, Nat.reduceEqDiff, reduceIte, ite_true, ite_false, eq_self, Nat.reduceLT, Nat.reduceLeDiff, Nat.reduceAdd, Nat.reduceMul, Nat.reduceSub, intOf]
  refine ⟨by omega, by omega, by omega, by omega, fun a' ha' => ⟨fun h => absurd h (by omega), fun _ => ?_⟩⟩
  refine drawH (fun _ => True) [0, 1, 2, 3, 4, 5, 6, 7] mixed (by decide +kernel) (fun w1 hE1 hh => ⟨trivial, ?_⟩)
  simp only [↓VD, VP, VT, isAggD, reduceCtorEq, Int.reduceEq, Int.reduceNe, Int.reduceLT, Int.reduceLE, implies_true, Nat.reduceEqDiff, reduceIte, ite_true, ite_false, eq_self, Nat.reduceLT, Nat.reduceLeDiff, Nat.reduceAdd, Nat.reduceMul, Nat.reduceSub, intOf]
  refine ⟨by omega, by omega, fun a1 ha1 => ⟨by omega, by omega, by omega, fun a2 ha2 => ?_⟩⟩
  obtain ⟨o1, rfl, ho1⟩ := ha1 g 0 rfl
  obtain rfl : o1 = 0 := by have := ho1 (by omega); simpa using this
  obtain ⟨o2, rfl, ho2⟩ := ha2 g 0 rfl
  have hG1 := hG.ext hE1
  have hD2 : SlC w1 (.slice (some ⟨g, o2, none⟩) (len - 1 - i) (c - (i + 1))) (len - 1 - i) D := by
    refine ⟨_, _, rfl, by omega, by rw [maxLen_eq] at hcm; omega, Or.inr ⟨g, o2, rfl, fun j u hj => ?_⟩⟩
    have hjl := (List.getElem?_eq_some_iff.1 hj).1
    have e2 : o2 = (i + 1) * 2 := by have := ho2 (by omega); simpa using this
    rw [hG1.cell, ← List.append_assoc, List.getElem?_append_right (by rw [List.length_append]; omega), List.length_append, List.getElem?_append_left (by omega), ← hj]
    congr 1
    omega
  have hO1 : Own w1 base 48 2 (.slice (some ⟨g, 0, none⟩) i c) i A := own_mk hG1 hbg hAl (by simp only [List.length_append]; omega) (by omega) (by rw [maxLen_eq] at hcm; omega)
  rw [show ((i : Int) - 0).toNat = i from by omega, show ((c : Int) - 0).toNat = c from by omega, show ((len : Int) - ((i + 1 : Nat) : Int)).toNat = len - 1 - i from by omega, show ((c : Int) - ((i + 1 : Nat) : Int)).toNat = c - (i + 1) from by omega]
  refine apSp (sz := 2) (n := i) (m := len - 1 - i) Tryz.underlying22 z48 c48 rfl (by decide) hO1 (by have := hE1.size; omega) hD2 hDl hD1 (by omega) (fun w2 hO2 hg2 => ?_)
  refine told (fun _ => True) trivial trivial ?_
  have hln : i + (len - 1 - i) = len - 1 := by omega
  rw [hln] at hO2
  rw [hln]
  have hE2 := below_of_grown hO1 (by have := hE1.size; omega) hg2
  obtain ⟨_, ⟨h0, h0'⟩ | ⟨g', cap', cur', h0, hbg', hg', hnc', hcm', hcs', hct'⟩⟩ := hO2
  · cases h0
  cases h0
  obtain ⟨rest', hrest'⟩ : ∃ rest', cur'.toList = (A ++ D) ++ rest' := ⟨cur'.toList.drop ((len - 1) * 2), by
    have := List.take_append_drop ((len - 1) * 2) cur'.toList
    rw [hct'] at this
    exact this.symm⟩
  have hrl' : rest'.length = (c - (len - 1)) * 2 := by
    have := congrArg List.length hrest'
    simp only [List.length_append, Array.length_toList, hcs'] at this
    omega
  obtain ⟨r1, r2, rfl, hr1⟩ : ∃ r1 r2, rest' = r1 ++ r2 ∧ r1.length = 2 := ⟨rest'.take 2, rest'.drop 2, (List.take_append_drop _ _).symm, by rw [List.length_take]; omega⟩
  have hG2 : Blk w2 g 48 ((A ++ D) ++ (r1 ++ r2)) := ⟨by rw [← hrest']; simpa using hg'⟩
  rw [List.length_append] at hrl'
  simp only [↓VD, VP, VT, isAggD, reduceCtorEq, Int.reduceEq, Int.reduceNe, Int.reduceLT, Int.reduceLE, implies_true, Nat.reduceEqDiff, reduceIte, ite_true, ite_false, eq_self, Nat.reduceLT, Nat.reduceLeDiff, Nat.reduceAdd, Nat.reduceMul, Nat.reduceSub, intOf]
  refine ⟨by omega, by omega, by omega, fun a5 ha5 => ?_⟩
  obtain ⟨o5, rfl, ho5⟩ := ha5 g 0 rfl
  obtain rfl : o5 = (len - 1) * 2 := by have := ho5 (by omega); simpa using this
  rw [show ((len : Int) - ((len - 1 : Nat) : Int)).toNat = 1 from by omega]
  refine clS (sz := 2) (T := 48) Tryz.underlying22 z48 rfl (by decide) (by decide +kernel) hG2 (by decide +kernel) (by simp only [List.length_append]; omega) (fun w3 hP3 => ?_)
  generalize hze : (Builtin.zeroCells _ 1).toList = zs at hP3
  have hzl : zs.length = 2 := by rw [← hze]; decide +kernel
  rw [splice_at (by rw [List.length_append]; omega) (by rw [hr1, hzl])] at hP3
  simp only [↓VD, VP, VT, isAggD, reduceCtorEq, Int.reduceEq, Int.reduceNe, Int.reduceLT, Int.reduceLE, implies_true, Nat.reduceEqDiff, reduceIte, ite_true, ite_false, eq_self, Nat.reduceLT, Nat.reduceLeDiff, Nat.reduceAdd, Nat.reduceMul, Nat.reduceSub, intOf]
  have hne : ∀ k : Nat, (Value.slice (some ⟨g, 0, none⟩) len c).ownBlock ≠ some k → k ≠ g := fun k hk e => hk (by simp [Value.ownBlock, e])
  refine ⟨own_mk (sz := 2) (n := len - 1) (cap := c) hP3.blk hbg (by rw [List.length_append]; omega) (by rw [List.length_append]; omega) (by omega) (by rw [maxLen_eq] at hcm; omega), (hE1.mono hbase).trans (hE2.trans (hP3.below (by omega))), fun k T l hk hBk => ?_⟩
  have h1 := hBk.ext hE1
  exact hP3.keep ⟨by rw [hg2.block k h1.lt (fun h => hne k hk (by simpa using h))]; exact h1.out⟩ (hne k hk)
theorem DelN_ok (A X D : List Value) (i len : Nat) (hAl : A.length = i * 1) (hXl : X.length = 1) (hDl : D.length = (len - 1 - i) * 1) (hi : i < len) (hD1 : ∀ v ∈ D, oneCellV v = true) (v : Value) (base : Nat) (w : World)
    (hO : Own w base 92 1 v len (A ++ (X ++ D))) (hbase : base ≤ w.heap.size) (hsz : len ≤ 4000000000) :
    CallK Tryz.prog 113 [v, .int .i64 i, .int .i64 (i + 1 : Nat)].toArray w fun v' w' => Own w' base 92 1 v' (len - 1) (A ++ D) ∧ Below base w w' ∧ OnlyBy v w w' := by
  obtain ⟨a, c, rfl⟩ := own_slice hO
  have hcl := hO.cap_le
  obtain ⟨_, ⟨h0, h0'⟩ | ⟨g, cap, cur, h0, hbg, hg, hnc, hcm, hcs, hct⟩⟩ := hO
  · omega
  cases h0
  obtain ⟨rest, hrest⟩ : ∃ rest, cur.toList = A ++ (X ++ (D ++ rest)) := ⟨cur.toList.drop (len * 1), by
    have := List.take_append_drop (len * 1) cur.toList
    rw [hct, List.append_assoc, List.append_assoc] at this
    exact this.symm⟩
  have hG : Blk w g 92 (A ++ (X ++ (D ++ rest))) := ⟨by rw [← hrest]; simpa using hg⟩
  have hrl : rest.length = (c - len) * 1 := by
    have := congrArg List.length hrest
    simp only [List.length_append, Array.length_toList, hcs] at this
    omega
  refine enterT Tryz.func113 rfl Tryz.ntmps113 Tryz.results113 rfl (by decide) ?_
  simp only [↓VD, VP, VT, isAggD, reduceCtorEq, Int.reduceEq, Int.reduceNe, Int.reduceLT, Int.reduceLE, implies_true, Nat.reduceEqDiff, reduceIte, ite_true, ite_false, eq_self, Nat.reduceLT, Nat.reduceLeDiff, Nat.reduceAdd, Nat.reduceMul, Nat.reduceSub, intOf]
  refine ⟨by omega, by omega, by omega, by omega, fun a' ha' => ⟨fun h => absurd h (by omega), fun _ => ?_⟩⟩
  refine drawH (fun _ => True) [0, 1, 2, 3, 4, 5, 6, 7] mixed (by decide +kernel) (fun w1 hE1 hh => ⟨trivial, ?_⟩)
  simp only [↓VD, VP, VT, isAggD, reduceCtorEq, Int.reduceEq, Int.reduceNe, Int.reduceLT, Int.reduceLE, implies_true, Nat.reduceEqDiff, reduceIte, ite_true, ite_false, eq_self, Nat.reduceLT, Nat.reduceLeDiff, Nat.reduceAdd, Nat.reduceMul, Nat.reduceSub, intOf]
  refine ⟨by omega, by omega, fun a1 ha1 => ⟨by omega, by omega, by omega, fun a2 ha2 => ?_⟩⟩
  obtain ⟨o1, rfl, ho1⟩ := ha1 g 0 rfl
  obtain rfl : o1 = 0 := by have := ho1 (by omega); simpa using this
  obtain ⟨o2, rfl, ho2⟩ := ha2 g 0 rfl
  have hG1 := hG.ext hE1
  have hD2 : SlC w1 (.slice (some ⟨g, o2, none⟩) (len - 1 - i) (c - (i + 1))) (len - 1 - i) D := by
    refine ⟨_, _, rfl, by omega, by rw [maxLen_eq] at hcm; omega, Or.inr ⟨g, o2, rfl, fun j u hj => ?_⟩⟩
    have hjl := (List.getElem?_eq_some_iff.1 hj).1
    have e2 : o2 = (i + 1) * 1 := by have := ho2 (by omega); simpa using this
    rw [hG1.cell, ← List.append_assoc, List.getElem?_append_right (by rw [List.length_append]; omega), List.length_append, List.getElem?_append_left (by omega), ← hj]
    congr 1
    omega
  have hO1 : Own w1 base 92 1 (.slice (some ⟨g, 0, none⟩) i c) i A := own_mk hG1 hbg hAl (by simp only [List.length_append]; omega) (by omega) (by rw [maxLen_eq] at hcm; omega)
  rw [show ((i : Int) - 0).toNat = i from by omega, show ((c : Int) - 0).toNat = c from by omega, show ((len : Int) - ((i + 1 : Nat) : Int)).toNat = len - 1 - i from by omega, show ((c : Int) - ((i + 1 : Nat) : Int)).toNat = c - (i + 1) from by omega]
  refine apSp (sz := 1) (n := i) (m := len - 1 - i) Tryz.underlying99 z92 c92 rfl (by decide) hO1 (by have := hE1.size; omega) hD2 hDl hD1 (by omega) (fun w2 hO2 hg2 => ?_)
  refine told (fun _ => True) trivial trivial ?_
  have hln : i + (len - 1 - i) = len - 1 := by omega
  rw [hln] at hO2
  rw [hln]
  have hE2 := below_of_grown hO1 (by have := hE1.size; omega) hg2
  obtain ⟨_, ⟨h0, h0'⟩ | ⟨g', cap', cur', h0, hbg', hg', hnc', hcm', hcs', hct'⟩⟩ := hO2
  · cases h0
  cases h0
  obtain ⟨rest', hrest'⟩ : ∃ rest', cur'.toList = (A ++ D) ++ rest' := ⟨cur'.toList.drop ((len - 1) * 1), by
    have := List.take_append_drop ((len - 1) * 1) cur'.toList
    rw [hct'] at this
    exact this.symm⟩
  have hrl' : rest'.length = (c - (len - 1)) * 1 := by
    have := congrArg List.length hrest'
    simp only [List.length_append, Array.length_toList, hcs'] at this
    omega
  obtain ⟨r1, r2, rfl, hr1⟩ : ∃ r1 r2, rest' = r1 ++ r2 ∧ r1.length = 1 := ⟨rest'.take 1, rest'.drop 1, (List.take_append_drop _ _).symm, by rw [List.length_take]; omega⟩
  have hG2 : Blk w2 g 92 ((A ++ D) ++ (r1 ++ r2)) := ⟨by rw [← hrest']; simpa using hg'⟩
  rw [List.length_append] at hrl'
  simp only [↓VD, VP, VT, isAggD, reduceCtorEq, Int.reduceEq, Int.reduceNe, Int.reduceLT, Int.reduceLE, implies_true, Nat.reduceEqDiff, reduceIte, ite_true, ite_false, eq_self, Nat.reduceLT, Nat.reduceLeDiff, Nat.reduceAdd, Nat.reduceMul, Nat.reduceSub, intOf]
  refine ⟨by omega, by omega, by omega, fun a5 ha5 => ?_⟩
  obtain ⟨o5, rfl, ho5⟩ := ha5 g 0 rfl
  obtain rfl : o5 = (len - 1) * 1 := by have := ho5 (by omega); simpa using this
  rw [show ((len : Int) - ((len - 1 : Nat) : Int)).toNat = 1 from by omega]
  refine clS (sz := 1) (T := 92) Tryz.underlying99 z92 rfl (by decide) (by decide +kernel) hG2 (by decide +kernel) (by simp only [List.length_append]; omega) (fun w3 hP3 => ?_)
  generalize hze : (Builtin.zeroCells _ 1).toList = zs at hP3
  have hzl : zs.length = 1 := by rw [← hze]; decide +kernel
  rw [splice_at (by rw [List.length_append]; omega) (by rw [hr1, hzl])] at hP3
  simp only [↓VD, VP, VT, isAggD, reduceCtorEq, Int.reduceEq, Int.reduceNe, Int.reduceLT, Int.reduceLE, implies_true, Nat.reduceEqDiff, reduceIte, ite_true, ite_false, eq_self, Nat.reduceLT, Nat.reduceLeDiff, Nat.reduceAdd, Nat.reduceMul, Nat.reduceSub, intOf]
  have hne : ∀ k : Nat, (Value.slice (some ⟨g, 0, none⟩) len c).ownBlock ≠ some k → k ≠ g := fun k hk e => hk (by simp [Value.ownBlock, e])
  refine ⟨own_mk (sz := 1) (n := len - 1) (cap := c) hP3.blk hbg (by rw [List.length_append]; omega) (by rw [List.length_append]; omega) (by omega) (by rw [maxLen_eq] at hcm; omega), (hE1.mono hbase).trans (hE2.trans (hP3.below (by omega))), fun k T l hk hBk => ?_⟩
  have h1 := hBk.ext hE1
  exact hP3.keep ⟨by rw [hg2.block k h1.lt (fun h => hne k hk (by simpa using h))]; exact h1.out⟩ (hne k hk)
end Go.Proofs.YtieaoldoiahgpaaGreatDoor

/-! Hmj -/
namespace Go.Proofs.YtieaoldoiahgpaaGreatDoor
set_option maxRecDepth 100000
open Go Go.RowKit
set_option linter.unusedVariables false
set_option linter.unusedSimpArgs false
set_option maxHeartbeats 2000000
attribute [local irreducible] vcT opsT qT vcOp Q1 vcPure vcLoad vcStore ldC ldN ldD grdT grdQ vc vcOps vcQ hT
attribute [local irreducible] sumR sumP shaP keyD bucketP branchP

theorem PairsS.of_own {S : Nat → Prop} {W : World} {base n : Nat} {v : Value} {qs : List PR} (hO : Own W base 48 2 v n (qs.flatMap PR.cells)) (hS : ∀ b, base ≤ b → S b)
    (ho : ∀ q ∈ qs, SlS S W q.kv q.k.length (vbs q.k) ∧ SlS S W q.vv q.v.length (vbs q.v)) : PairsS S W v qs := by
  have hn : n = qs.length := by have h1 := hO.1; have h2 := prc_len qs; omega
  subst hn
  exact ⟨SlS.of_own hO hS, ho⟩
theorem drop_ok (n : Int) (hw : widB n = true) (S : Nat → Prop) (b : Nat) (top : Value) (k : List UInt8) (hkl : k.length ≤ 64) :
    ∀ (f d : Nat) (m : List It) (at_ kv : Value) (w : World), WordsAt w 0 → Blk w b 94 [.int .i64 n, top] → AtN n S w f d m at_ → OkI n m → Pre d m → SlB w kv k → d + f = 64 → m.length ≤ 900000000 → (∀ k, S k → k < w.heap.size) →
    CallK Tryz.prog 73 [.pointer (some ⟨b, 0, none⟩), at_, .int .i64 d, .agg (vbs (keyD n k)).toArray, kv].toArray w fun v w' => ∃ nv, v = .tuple [nv, .bool (getI m k).isSome].toArray ∧ AtN n (fun k => S k ∨ w.heap.size ≤ k) w' f d (delI m k) nv ∧ Ext w w' := by
  have hwn := (widB_iff n).1 hw
  obtain ⟨nn, rfl⟩ : ∃ nn : Nat, n = nn := ⟨n.toNat, by omega⟩
  have hxl : (keyD nn k).length = 32 := keyD_len _ _
  intro f
  induction f using Nat.strongRecOn with
  | ind f ih =>
    intro d m at_ kv w hW hB hA hO hP hk hdf hml hSl
    have hbl := hB.lt
    have hOM := hO.del k
    have hPM := hP.del k
    have hMl := del_len m k
    obtain ⟨ka, kc, rfl⟩ := slv_of hk
    have hmiss : getI m k = none → ∀ W, Ext w W → AtN nn (fun k => S k ∨ w.heap.size ≤ k) W f d (delI m k) at_ := fun h W e => by
      rw [del_of_none h]
      exact (hA.ext e).mono (fun k h => Or.inl h)
    rcases hA.cases with ⟨rfl, rfl⟩ | ⟨hne, hs, b4, pv, ps, rfl, hb⟩ | ⟨hs, f', hf', b4, kv4, vs, rfl, hb, hkids⟩
    · refine enterT Tryz.func73 rfl Tryz.ntmps73 Tryz.results73 rfl (by decide) ?_
      repeat (first | exact trivial | refine stp ?_ | refine ldCg ?_ | refine ldNg ?_ | refine ldSg ?_ | refine ldSb ?_ | refine bnd ?_ | refine bnd1 ?_ | refine drawQ (by decide +kernel) mixed (by decide +kernel) ?_)
      first | refine newS ?_ | refine newZ ?_
      intro w1 hE1 hz1 hB1
      repeat (first | exact trivial | refine stp ?_ | refine ldCg ?_ | refine ldNg ?_ | refine ldSg ?_ | refine ldSb ?_ | refine bnd ?_ | refine bnd1 ?_ | refine drawQ (by decide +kernel) mixed (by decide +kernel) ?_)
      exact ⟨.nilIface, rfl, ⟨fun _ => rfl, fun h => absurd rfl h⟩, .go⟩
    · have hB4 := hb.blk
      have hdl := headD_len (n := nn) hne hO.len
      have hhl : (vbs (headD m)).length = 32 := by rw [vbs_len]; exact hdl
      have hpl : ps.length = m.length := by have := congrArg List.length hb.dat; simpa using this
      have hps := pairs_sorted hb.dat (sorted_keys hO.sorted (singleB_iff.1 hs))
      have hpa := hb.prs.at
      obtain ⟨pa, cp, rfl⟩ := slv_of hpa.1
      obtain ⟨i, ok, hF⟩ := find_ex k hps
      refine enterT Tryz.func73 rfl Tryz.ntmps73 Tryz.results73 rfl (by decide) ?_
      repeat (first | exact trivial | refine stp ?_ | refine ldCg ?_ | refine ldNg ?_ | refine ldSg ?_ | refine ldSb ?_ | refine bnd ?_ | refine bnd1 ?_ | refine drawQ (by decide +kernel) mixed (by decide +kernel) ?_)
      first | refine newS ?_ | refine newZ ?_
      intro w1 hE1 hz1 hB1
      repeat (first | exact trivial | refine stp ?_ | refine ldCg ?_ | refine ldNg ?_ | refine ldSg ?_ | refine ldSb ?_ | refine bnd ?_ | refine bnd1 ?_ | refine drawQ (by decide +kernel) mixed (by decide +kernel) ?_)
      refine ldCg (hv := by rw [List.getElem?_append_right (by omega), hhl]; rfl) ?_
      repeat (first | exact trivial | refine stp ?_ | refine ldCg ?_ | refine ldNg ?_ | refine ldSg ?_ | refine ldSb ?_ | refine bnd ?_ | refine bnd1 ?_ | refine drawQ (by decide +kernel) mixed (by decide +kernel) ?_)
      refine (find_ok ps k _ _ w1 (hpa.ext .go) (hk.ext .go) hps (by omega)).mono ?_
      rintro _ w2 ⟨i, ok, rfl, hF, hE2⟩
      have hz2 := hE2.size
      obtain rfl | rfl : ok = true ∨ ok = false := by cases ok <;> simp
      · obtain ⟨hdd, hil, hgn⟩ := del_bucket hb.dat hps hF
        have hgs : (getI m k).isSome = true := by cases h : getI m k with | none => exact absurd h hgn | some _ => rfl
        have hsM : singleB (delI m k) = true := singleB_iff.2 fun y hy z hz => singleB_iff.1 hs y (mem_del.1 hy).1 z (mem_del.1 hz).1
        have hpM : ps.length = (delI m k).length + 1 := by
          have := congrArg List.length hdd
          simp only [List.length_map, List.length_append, List.length_take, List.length_drop] at this
          omega
        rw [hgs]
        repeat (first | exact trivial | refine stp ?_ | refine ldCg ?_ | refine ldNg ?_ | refine ldSg ?_ | refine ldSb ?_ | refine bnd ?_ | refine bnd1 ?_ | refine drawQ (by decide +kernel) mixed (by decide +kernel) ?_)
        refine ldCg (hv := by rw [List.getElem?_append_right (by omega), hhl]; rfl) ?_
        repeat (first | exact trivial | refine stp ?_ | refine ldCg ?_ | refine ldNg ?_ | refine ldSg ?_ | refine ldSb ?_ | refine bnd ?_ | refine bnd1 ?_ | refine drawQ (by decide +kernel) mixed (by decide +kernel) ?_)
        refine ⟨fun h1 => ?_, fun h1 => ?_⟩
        · have hM0 : delI m k = [] := List.length_eq_zero_iff.1 (by omega)
          repeat (first | exact trivial | refine stp ?_ | refine ldCg ?_ | refine ldNg ?_ | refine ldSg ?_ | refine ldSb ?_ | refine bnd ?_ | refine bnd1 ?_ | refine drawQ (by decide +kernel) mixed (by decide +kernel) ?_)
          exact ⟨.nilIface, rfl, ⟨fun _ => rfl, fun h => absurd hM0 h⟩, .go⟩
        · have hMne : delI m k ≠ [] := fun h => by rw [h, List.length_nil] at hpM; omega
          have hhd : headD (delI m k) = headD m := by
            obtain ⟨y, hy⟩ := List.exists_mem_of_ne_nil _ hMne
            rw [headD_mem hsM hy, headD_mem hs (mem_del.1 hy).1]
          refine drawX (.of [0, 1, 2, 3, 4, 5, 6, 7, 8, 10, 11, 12, 9, 13, 14, 15, 16, 17]) mixed (by decide +kernel) (fun w3 hE3 hz3 => ?_)
          repeat (first | exact trivial | refine stp ?_ | refine ldCg ?_ | refine ldNg ?_ | refine ldSg ?_ | refine ldSb ?_ | refine bnd ?_ | refine bnd1 ?_ | refine drawQ (by decide +kernel) mixed (by decide +kernel) ?_)
          refine ldSg (v := .agg (vbs (headD m)).toArray) ?_ (by intro w' hw'; refine stp ?_; exact ldNg (m := vbs (headD m)) rfl (hm := by rw [List.drop_zero, List.take_append_of_le_length (by omega), vbs_tk hdl]))
          repeat (first | exact trivial | refine stp ?_ | refine ldCg ?_ | refine ldNg ?_ | refine ldSg ?_ | refine ldSb ?_ | refine bnd ?_ | refine bnd1 ?_ | refine drawQ (by decide +kernel) mixed (by decide +kernel) ?_)
          refine ldSg (v := .slice pa ps.length cp) ?_ (by intro w' hw'; refine stp ?_; exact ldCg rfl (hv := by rw [List.getElem?_append_right (by omega), hhl]; rfl))
          repeat (first | exact trivial | refine stp ?_ | refine ldCg ?_ | refine ldNg ?_ | refine ldSg ?_ | refine ldSb ?_ | refine bnd ?_ | refine bnd1 ?_ | refine drawQ (by decide +kernel) mixed (by decide +kernel) ?_)
          refine (ClnP_ok _ ps.length _ w3 (hpa.1.ext .go) (prc_len ps) hpa.one (by omega)).mono ?_
          rintro v4 w4 ⟨hO4, hE4⟩
          have hz4 := hE4.size
          obtain ⟨a4, c4, rfl⟩ := own_slice hO4
          refine toldK ?_
          rw [show IntKind.i64.wrap ((i : Int) + 1) = ((i + 1 : Nat) : Int) from by rw [w64 (by omega) (by omega)]; omega]
          obtain ⟨q, hq, hqk⟩ := hF.hit.1 rfl
          obtain ⟨_, hie⟩ := List.getElem?_eq_some_iff.1 hq
          have hsp1 : ps.flatMap PR.cells = (ps.take i).flatMap PR.cells ++ (q.cells ++ (ps.drop (i + 1)).flatMap PR.cells) := by
            have h1 : ps = ps.take i ++ (q :: ps.drop (i + 1)) := by rw [← hie]; simp
            have h2 := congrArg (List.flatMap PR.cells) h1
            rwa [List.flatMap_append, List.flatMap_cons] at h2
          have hone := hpa.one
          rw [hsp1] at hO4 hone
          repeat (first | exact trivial | refine stp ?_ | refine ldCg ?_ | refine ldNg ?_ | refine ldSg ?_ | refine ldSb ?_ | refine bnd ?_ | refine bnd1 ?_ | refine drawQ (by decide +kernel) mixed (by decide +kernel) ?_)
          refine (DelP_ok _ q.cells _ i ps.length (by rw [prc_len, List.length_take]; omega) rfl (by rw [prc_len, List.length_drop]; omega) hil (fun v hv => hone v (List.mem_append.2 (Or.inr (List.mem_append.2 (Or.inr hv))))) _ w3.heap.size w4 hO4 (by omega) (by omega)).mono ?_
          rintro v5 w5 ⟨hO5, hE5, _⟩
          have hz5 := hE5.size
          rw [← List.flatMap_append] at hO5
          have hK5 : KeepS S w w5 := KeepS.of_ext Ext.go
          have hps5 : PairsS (fun k => S k ∨ w.heap.size ≤ k) w5 v5 (ps.take i ++ ps.drop (i + 1)) := PairsS.of_own hO5 (fun k h => Or.inr (by omega)) (fun q hq => by
            have hq' : q ∈ ps := (List.mem_append.1 hq).elim List.mem_of_mem_take List.mem_of_mem_drop
            exact ⟨((hb.prs.2 q hq').1.keep hK5).mono (fun k h => Or.inl h), ((hb.prs.2 q hq').2.keep hK5).mono (fun k h => Or.inl h)⟩)
          refine toldK ?_
          obtain ⟨a5, c5, rfl⟩ := own_slice hO5
          repeat (first | exact trivial | refine stp ?_ | refine ldCg ?_ | refine ldNg ?_ | refine ldSg ?_ | refine ldSb ?_ | refine bnd ?_ | refine bnd1 ?_ | refine drawQ (by decide +kernel) mixed (by decide +kernel) ?_)
          refine (pour_ok nn b top (headD m) hdl _ _ w5 (hW.ext .go) .go hps5.at (hOM.bucket_le hdd (by omega))).mono ?_
          rintro _ w6 ⟨g6, rfl, hg6, hB6, hE6⟩
          have hz6 := hE6.size
          refine toldK ?_
          repeat (first | exact trivial | refine stp ?_ | refine ldCg ?_ | refine ldNg ?_ | refine ldSg ?_ | refine ldSb ?_ | refine bnd ?_ | refine bnd1 ?_ | refine drawQ (by decide +kernel) mixed (by decide +kernel) ?_)
          exact ⟨_, rfl, ⟨fun h => absurd h hMne, fun _ => NodeAt.mk_bk hsM (Or.inr (by omega)) hB6 hhd (hps5.keep (KeepS.of_ext hE6)) hdd⟩, .go⟩
      · have hgn := miss_bucket hb.dat hps hF
        repeat (first | exact trivial | refine stp ?_ | refine ldCg ?_ | refine ldNg ?_ | refine ldSg ?_ | refine ldSb ?_ | refine bnd ?_ | refine bnd1 ?_ | refine drawQ (by decide +kernel) mixed (by decide +kernel) ?_)
        refine ⟨bkV b4, ?_, hmiss hgn _ .go, .go⟩
        rw [hgn]
        rfl
    · have hB4 := hb.blk
      have hb4l := hB4.lt
      have hbm := bmI_lt m d
      have hdn := br_depth hs hP (hO.form hw)
      have hfx : formB nn (keyD nn k) = true := by unfold keyD; exact form_sumR nn _ hw
      have hat := atP_dig (by omega) (by omega) hxl hfx hdn
      have hd16 := digP_lt (keyD nn k) d
      have hkv := hb.kids
      obtain ⟨qa, qc, rfl⟩ := slv_of hkv.sl
      have hvl := hb.len
      have hc16 := cnt_le (bmI m d)
      have hgc : getI (childI m d (digP (keyD nn k) d)) k = getI m k := getI_child hO.dig rfl
      refine enterT Tryz.func73 rfl Tryz.ntmps73 Tryz.results73 rfl (by decide) ?_
      repeat (first | exact trivial | refine stp ?_ | refine ldCg ?_ | refine ldNg ?_ | refine ldSg ?_ | refine ldSb ?_ | refine bnd ?_ | refine bnd1 ?_ | refine drawQ (by decide +kernel) mixed (by decide +kernel) ?_)
      first | refine newS ?_ | refine newZ ?_
      intro w1 hE1 hz1 hB1
      repeat (first | exact trivial | refine stp ?_ | refine ldCg ?_ | refine ldNg ?_ | refine ldSg ?_ | refine ldSb ?_ | refine bnd ?_ | refine bnd1 ?_ | refine drawQ (by decide +kernel) mixed (by decide +kernel) ?_)
      refine (digit_hamt_ok nn b top (keyD nn k) hxl d w1 .go).mono ?_
      rintro _ w2 ⟨rfl, hE2⟩
      have hz2 := hE2.size
      rw [hat]
      repeat (first | exact trivial | refine stp ?_ | refine ldCg ?_ | refine ldNg ?_ | refine ldSg ?_ | refine ldSb ?_ | refine bnd ?_ | refine bnd1 ?_ | refine drawQ (by decide +kernel) mixed (by decide +kernel) ?_)
      refine (Has_ok (bmI m d) hbm (digP (keyD nn k) d) w2).mono ?_
      rintro _ w3 ⟨rfl, hE3⟩
      have hz3 := hE3.size
      rw [bmI_has, decide_eq_true hd16, Bool.true_and]
      cases hh : hasI m d (digP (keyD nn k) d)
      · have hgn : getI m k = none := by
          rw [← hgc]
          have e : childI m d (digP (keyD nn k) d) = [] := by unfold hasI at hh; simpa using hh
          rw [e]
          rfl
        repeat (first | exact trivial | refine stp ?_ | refine ldCg ?_ | refine ldNg ?_ | refine ldSg ?_ | refine ldSb ?_ | refine bnd ?_ | refine bnd1 ?_ | refine drawQ (by decide +kernel) mixed (by decide +kernel) ?_)
        refine ⟨brV b4, ?_, hmiss hgn _ .go, .go⟩
        rw [hgn]
        rfl
      · obtain ⟨y, hy, hNy⟩ := hkids _ hh
        have hrl := (List.getElem?_eq_some_iff.1 hy).1
        repeat (first | exact trivial | refine stp ?_ | refine ldCg ?_ | refine ldNg ?_ | refine ldSg ?_ | refine ldSb ?_ | refine bnd ?_ | refine bnd1 ?_ | refine drawQ (by decide +kernel) mixed (by decide +kernel) ?_)
        refine (Rank_ok (bmI m d) hbm (digP (keyD nn k) d) w3).mono ?_
        rintro _ w4 ⟨rfl, hE4⟩
        have hz4 := hE4.size
        obtain ⟨b5, o5, rfl, hR5⟩ := vs_get hkv (by omega)
        repeat (first | exact trivial | refine stp ?_ | refine ldCg ?_ | refine ldNg ?_ | refine ldSg ?_ | refine ldSb ?_ | refine bnd ?_ | refine bnd1 ?_)
        refine drawX (.of [0, 1, 2, 3, 4, 5, 6, 7, 8, 9, 10, 11, 12, 13, 14, 15, 16, 17]) mixed (by decide +kernel) (fun w5 hE5 hz5 => ?_)
        repeat (first | exact trivial | refine stp ?_ | refine ldCg ?_ | refine ldNg ?_ | refine ldSg ?_ | refine ldSb ?_ | refine bnd ?_ | refine bnd1 ?_ | refine drawQ (by decide +kernel) mixed (by decide +kernel) ?_)
        refine ldSg (v := y) ?_ (by intro w' hw'; refine stp ?_; exact ldRowF (f := fun v : Value => [v]) 0 hy rfl)
        repeat (first | exact trivial | refine stp ?_ | refine ldCg ?_ | refine ldNg ?_ | refine ldSg ?_ | refine ldSb ?_ | refine bnd ?_ | refine bnd1 ?_ | refine drawQ (by decide +kernel) mixed (by decide +kernel) ?_)
        rw [show IntKind.i64.wrap ((d : Int) + 1) = ((d + 1 : Nat) : Int) from by rw [w64 (by omega) (by omega)]; omega]
        have hK5 : KeepS S w w5 := KeepS.of_ext Ext.go
        have hcl : (childI m d (digP (keyD nn k) d)).length ≤ m.length := List.length_filter_le _ _
        refine (ih f' (by omega) (d + 1) (childI m d (digP (keyD nn k) d)) y _ w5 (hW.ext .go) .go ⟨fun h => absurd h (child_ne hh), fun _ => hNy.keep hK5⟩ (hO.child _ _) (hP.child _) (hk.ext .go) (by omega) (by omega) (fun k h => by have := hSl k h; omega)).mono ?_
        rintro _ w6 ⟨nv, rfl, hA6, hE6⟩
        have hz6 := hE6.size
        rw [hgc]
        refine toldX ?_
        cases hgs : (getI m k).isSome
        · have hgn : getI m k = none := by cases h : getI m k with | none => rfl | some _ => rw [h] at hgs; cases hgs
          repeat (first | exact trivial | refine stp ?_ | refine ldCg ?_ | refine ldNg ?_ | refine ldSg ?_ | refine ldSb ?_ | refine bnd ?_ | refine bnd1 ?_ | refine drawQ (by decide +kernel) mixed (by decide +kernel) ?_)
          exact ⟨brV b4, rfl, hmiss hgn _ .go, .go⟩
        · repeat (first | exact trivial | refine stp ?_ | refine ldCg ?_ | refine ldNg ?_ | refine ldSg ?_ | refine ldSb ?_ | refine bnd ?_ | refine bnd1 ?_)
          refine drawX (.of [0, 1, 2, 3, 5, 6, 7, 8, 4, 9, 10]) mixed (by decide +kernel) (fun w7 hE7 hz7 => ?_)
          repeat (first | exact trivial | refine stp ?_ | refine ldCg ?_ | refine ldNg ?_ | refine ldSg ?_ | refine ldSb ?_ | refine bnd ?_ | refine bnd1 ?_ | refine drawQ (by decide +kernel) mixed (by decide +kernel) ?_)
          refine (ClnN_ok vs vs.length _ w7 (hkv.sl.ext .go) (by omega) hb.one (by omega)).mono ?_
          rintro v8 w8 ⟨hO8, hE8⟩
          have hz8 := hE8.size
          obtain ⟨a8, c8, rfl⟩ := own_slice hO8
          refine toldX ?_
          repeat (first | exact trivial | refine stq ?_ | refine ldCg ?_ | refine ldNg ?_ | refine ldSg ?_ | refine ldSb ?_ | refine bnd ?_ | refine bnd1 ?_)
          rw [v_seq]
          refine joinX (κ := Option Addr × Nat × List Value) (fun x => [(0, .pointer (some ⟨b, 0, none⟩)), (20, .slice x.1 x.2.2.length x.2.1), (21, .int .u16 (bmI (delI m k) d : Nat))])
            (fun x W => Ext w W ∧ w8.heap.size ≤ W.heap.size ∧ x.2.2.length = cntB (bmI (delI m k) d) ∧ (∀ u ∈ x.2.2, oneCellV u = true) ∧ Own W w7.heap.size 92 1 (.slice x.1 x.2.2.length x.2.1) x.2.2.length x.2.2 ∧
              ∀ c, hasI (delI m k) d c = true → ∃ y, x.2.2[rankB (bmI (delI m k) d) (c : Int)]? = some y ∧ NodeAt nn (fun k => S k ∨ w.heap.size ≤ k) W f' (d + 1) (childI (delI m k) d c) y) ?_ ?_
          · by_cases hM : delI (childI m d (digP (keyD nn k) d)) k = []
            · obtain rfl := hA6.1 hM
              have hvs : vs = vs.take (rankB (bmI m d) (digP (keyD nn k) d : Int)) ++ ([y] ++ vs.drop (rankB (bmI m d) (digP (keyD nn k) d : Int) + 1)) := by rw [← (List.getElem?_eq_some_iff.1 hy).2]; simp
              have hO8' : Own w8 w7.heap.size 92 1 (.slice a8 vs.length c8) vs.length (vs.take (rankB (bmI m d) (digP (keyD nn k) d : Int)) ++ ([y] ++ vs.drop (rankB (bmI m d) (digP (keyD nn k) d : Int) + 1))) := by rw [← hvs]; exact hO8
              repeat (first | exact trivial | refine stp ?_ | refine ldCg ?_ | refine ldNg ?_ | refine ldSg ?_ | refine ldSb ?_ | refine bnd ?_ | refine bnd1 ?_ | refine drawQ (by decide +kernel) mixed (by decide +kernel) ?_)
              rw [show IntKind.i64.wrap ((rankB (bmI m d) (digP (keyD nn k) d : Int) : Int) + 1) = ((rankB (bmI m d) (digP (keyD nn k) d : Int) + 1 : Nat) : Int) from by rw [w64 (by omega) (by omega)]; omega]
              refine (DelN_ok _ [y] _ (rankB (bmI m d) (digP (keyD nn k) d : Int)) vs.length (by rw [List.length_take]; omega) rfl (by rw [List.length_drop]; omega) hrl (fun u hu => hb.one u (List.mem_of_mem_drop hu)) _ w7.heap.size w8 hO8' (by omega) (by omega)).mono ?_
              rintro v9 w9 ⟨hO9, hE9, _⟩
              have hz9 := hE9.size
              obtain ⟨a9, c9, rfl⟩ := own_slice hO9
              repeat (first | exact trivial | refine stp ?_ | refine ldCg ?_ | refine ldNg ?_ | refine ldSg ?_ | refine ldSb ?_ | refine bnd ?_ | refine bnd1 ?_ | refine drawQ (by decide +kernel) mixed (by decide +kernel) ?_)
              refine (Without_ok (bmI m d) hbm (digP (keyD nn k) d) w9).mono ?_
              rintro _ w10 ⟨rfl, hE10⟩
              have hz10 := hE10.size
              rw [bm_del_drop hO hM]
              have hK10 : KeepS S w w10 := KeepS.of_ext Ext.go
              obtain ⟨hcn, hkk⟩ := kids_drop (P := fun l y => NodeAt nn (fun k => S k ∨ w.heap.size ≤ k) w10 f' (d + 1) l y) hO hh hM hvl (fun c hc => by obtain ⟨y, h1, h2⟩ := hkids c hc; exact ⟨y, h1, (h2.keep hK10).mono (fun k h => Or.inl h)⟩)
              have hvs1 : (vs.take (rankB (bmI m d) (digP (keyD nn k) d : Int)) ++ vs.drop (rankB (bmI m d) (digP (keyD nn k) d : Int) + 1)).length = vs.length - 1 := by rw [List.length_append, List.length_take, List.length_drop]; omega
              have h1v : ∀ u ∈ vs.take (rankB (bmI m d) (digP (keyD nn k) d : Int)) ++ vs.drop (rankB (bmI m d) (digP (keyD nn k) d : Int) + 1), oneCellV u = true := fun u hu => (List.mem_append.1 hu).elim (fun h => hb.one u (List.mem_of_mem_take h)) (fun h => hb.one u (List.mem_of_mem_drop h))
              generalize vs.take (rankB (bmI m d) (digP (keyD nn k) d : Int)) ++ vs.drop (rankB (bmI m d) (digP (keyD nn k) d : Int) + 1) = us at *
              rw [← hvs1] at hO9 ⊢
              repeat (first | exact trivial | refine stp ?_ | refine ldCg ?_ | refine ldNg ?_ | refine ldSg ?_ | refine ldSb ?_ | refine bnd ?_ | refine bnd1 ?_ | refine drawQ (by decide +kernel) mixed (by decide +kernel) ?_)
              exact ⟨(a9, c9, us), ⟨.go, by omega, by simp only; omega, h1v, hO9.ext .go, hkk⟩, rfl⟩
            · have hN6 := hA6.2 hM
              obtain ⟨t6, u6, rfl⟩ := hN6.iface
              obtain ⟨g, cap, rest, hge, hg, hBg, hnc, hcm, hln⟩ := hO8.open (by omega)
              obtain ⟨rfl, rfl⟩ : a8 = some ⟨g, 0, none⟩ ∧ c8 = cap := by cases hge; exact ⟨rfl, rfl⟩
              have hsp : vs ++ rest = vs.take (rankB (bmI m d) (digP (keyD nn k) d : Int)) ++ (y :: (vs.drop (rankB (bmI m d) (digP (keyD nn k) d : Int) + 1) ++ rest)) := by
                have h1 := (List.getElem?_eq_some_iff.1 hy).2
                have h2 : vs = vs.take (rankB (bmI m d) (digP (keyD nn k) d : Int)) ++ (y :: vs.drop (rankB (bmI m d) (digP (keyD nn k) d : Int) + 1)) := by rw [← h1]; simp
                rw [← List.cons_append, ← List.append_assoc, ← h2]
              rw [hsp] at hBg
              repeat (first | exact trivial | refine stp ?_ | refine ldCg ?_ | refine ldNg ?_ | refine ldSg ?_ | refine ldSb ?_ | refine bnd ?_ | refine bnd1 ?_ | refine drawQ (by decide +kernel) mixed (by decide +kernel) ?_)
              refine stAt c92 hBg (by rw [List.length_take]; omega) rfl rfl (fun w9 hP9 => ?_)
              have hz9 := hP9.size
              have hB9 := hP9.blk
              have hse : vs.take (rankB (bmI m d) (digP (keyD nn k) d : Int)) ++ (.iface t6 u6 :: (vs.drop (rankB (bmI m d) (digP (keyD nn k) d : Int) + 1) ++ rest)) = vs.set (rankB (bmI m d) (digP (keyD nn k) d : Int)) (.iface t6 u6) ++ rest := by
                rw [List.set_eq_take_append_cons_drop, if_pos hrl, List.append_assoc]
                rfl
              rw [hse] at hB9
              have hK9 : KeepS S w w9 := KeepS.of_ext Ext.go
              have hK89 : KeepS (SLt (fun k => S k ∨ w5.heap.size ≤ k) w6) w8 w9 := KeepS.put hP9 (fun h => by have := h.2; omega)
              have hN9 : NodeAt nn (fun k => S k ∨ w.heap.size ≤ k) w9 f' (d + 1) (delI (childI m d (digP (keyD nn k) d)) k) (.iface t6 u6) := ((hN6.inlt.keep (KeepS.of_ext (hE7.trans' hE8))).keep hK89).mono (fun k h => h.1.imp id (fun h => by omega))
              have hkk := kids_keep (P := fun l y => NodeAt nn (fun k => S k ∨ w.heap.size ≤ k) w9 f' (d + 1) l y) hO hh hM (fun c hc => by obtain ⟨y, h1, h2⟩ := hkids c hc; exact ⟨y, h1, (h2.keep hK9).mono (fun k h => Or.inl h)⟩) hN9
              have h1v : ∀ u ∈ vs.set (rankB (bmI m d) (digP (keyD nn k) d : Int)) (.iface t6 u6), oneCellV u = true := by
                intro u hu
                rcases List.mem_or_eq_of_mem_set hu with hu | rfl
                · exact hb.one u hu
                · rfl
              have hul : (vs.set (rankB (bmI m d) (digP (keyD nn k) d : Int)) (.iface t6 u6)).length = vs.length := List.length_set
              have hO9 : Own w9 w7.heap.size 92 1 (.slice (some ⟨g, 0, none⟩) vs.length c8) vs.length (vs.set (rankB (bmI m d) (digP (keyD nn k) d : Int)) (.iface t6 u6)) := own_mk hB9 hg (by omega) (by rw [List.length_append] at hln; omega) hnc hcm
              generalize vs.set (rankB (bmI m d) (digP (keyD nn k) d : Int)) (.iface t6 u6) = us at *
              rw [← hul] at hO9 ⊢
              have hbk := bm_del_keep hO hM
              repeat (first | exact trivial | refine stp ?_ | refine ldCg ?_ | refine ldNg ?_ | refine ldSg ?_ | refine ldSb ?_ | refine bnd ?_ | refine bnd1 ?_ | refine drawQ (by decide +kernel) mixed (by decide +kernel) ?_)
              exact ⟨(some ⟨g, 0, none⟩, c8, us), ⟨.go, by omega, by simp only; rw [hbk]; omega, h1v, hO9, hkk⟩, rfl, by rw [hbk]⟩
          · rintro ⟨a9, c9, us⟩ s9 w9 ⟨hE9, hz9, hul, h1v, hO9, hkk⟩
            simp only at hul h1v hO9 hkk
            have hMne : delI m k ≠ [] := by
              obtain ⟨y, hy, z, hz, hne⟩ := not_single hs
              intro h0
              have hall : ∀ x ∈ m, x.D = keyD nn k := fun x hx => by
                by_cases hxk : x.k = k
                · rw [hO.dig x hx, hxk]
                · have := mem_del.2 ⟨hx, hxk⟩
                  rw [h0] at this
                  cases this
              exact hne (by rw [hall y hy, hall z hz])
            have hc1 : 0 < cntB (bmI (delI m k) d) := by
              obtain ⟨y, hy⟩ := List.exists_mem_of_ne_nil _ hMne
              have := rank_lt (hasB_of (has_iff.2 ⟨y, hy, rfl⟩ : hasI (delI m k) d (digP y.D d) = true))
              omega
            obtain ⟨g9, cap9, rest9, hge9, hg9, hB9, hnc9, hcm9, hln9⟩ := hO9.open (by omega)
            obtain ⟨rfl, rfl⟩ : a9 = some ⟨g9, 0, none⟩ ∧ c9 = cap9 := by cases hge9; exact ⟨rfl, rfl⟩
            repeat (first | exact trivial | refine stp ?_ | refine ldCg ?_ | refine ldNg ?_ | refine ldSg ?_ | refine ldSb ?_ | refine bnd ?_ | refine bnd1 ?_ | refine drawQ (by decide +kernel) mixed (by decide +kernel) ?_)
            refine ⟨fun h1 => ?_, fun h1 => ?_⟩
            · obtain ⟨c1, hc1, hr1, hce⟩ := one_child (m := delI m k) (d := d) (by omega)
              obtain ⟨y1, hy1, hN1⟩ := hkk c1 hc1
              rw [hr1] at hy1
              rw [hce] at hN1
              refine ⟨by omega, ?_⟩
              refine ldCg (v := y1) ?_ (hv := by rw [List.getElem?_append_left (by omega)]; exact hy1)
              cases hsM : singleB (delI m k)
              · obtain ⟨f'', rfl⟩ : ∃ j, f' = j + 1 := by
                  cases f' with
                  | zero => unfold NodeAt at hN1; rw [hsM] at hN1; cases hN1.1
                  | succ j => exact ⟨j, rfl⟩
                obtain ⟨b10, kv10, vs10, rfl, _⟩ := (NodeAt.br hsM).1 hN1
                repeat (first | exact trivial | refine stp ?_ | refine ldCg ?_ | refine ldNg ?_ | refine ldSg ?_ | refine ldSb ?_ | refine bnd ?_ | refine bnd1 ?_ | refine drawQ (by decide +kernel) mixed (by decide +kernel) ?_)
                refine (fork_ok nn hw _ (f'' + 1) d b top _ us (delI m k) w9 (hW.ext .go) .go (SlC.of_own hO9) h1v hul hkk hOM.sorted hPM (by omega) (by omega)).mono ?_
                rintro _ w10 ⟨g10, rfl, hg10, hB10, hE10⟩
                repeat (first | exact trivial | refine stp ?_ | refine ldCg ?_ | refine ldNg ?_ | refine ldSg ?_ | refine ldSb ?_ | refine bnd ?_ | refine bnd1 ?_ | refine drawQ (by decide +kernel) mixed (by decide +kernel) ?_)
                refine ⟨brV g10, rfl, ⟨fun h => absurd h hMne, fun _ => ?_⟩, .go⟩
                rw [hf']
                exact NodeAt.mk_br hsM (Or.inr (by omega)) hB10 (SlS.of_own (hO9.ext hE10) (fun k h => Or.inr (by omega))) h1v hul (fun c hc => by obtain ⟨y, h1, h2⟩ := hkk c hc; exact ⟨y, h1, h2.ext hE10⟩)
              · obtain ⟨b10, pv10, ps10, rfl, hb10⟩ := (NodeAt.bk hsM).1 hN1
                repeat (first | exact trivial | refine stp ?_ | refine ldCg ?_ | refine ldNg ?_ | refine ldSg ?_ | refine ldSb ?_ | refine bnd ?_ | refine bnd1 ?_ | refine drawQ (by decide +kernel) mixed (by decide +kernel) ?_)
                exact ⟨bkV b10, rfl, ⟨fun h => absurd h hMne, fun _ => (NodeAt.bk hsM).2 ⟨b10, pv10, ps10, rfl, hb10⟩⟩, .go⟩
            · have hsM := two_not_single (m := delI m k) (d := d) (by omega)
              refine (fork_ok nn hw _ f' d b top _ us (delI m k) w9 (hW.ext .go) .go (SlC.of_own hO9) h1v hul hkk hOM.sorted hPM (by omega) (by omega)).mono ?_
              rintro _ w10 ⟨g10, rfl, hg10, hB10, hE10⟩
              repeat (first | exact trivial | refine stp ?_ | refine ldCg ?_ | refine ldNg ?_ | refine ldSg ?_ | refine ldSb ?_ | refine bnd ?_ | refine bnd1 ?_ | refine drawQ (by decide +kernel) mixed (by decide +kernel) ?_)
              refine ⟨brV g10, rfl, ⟨fun h => absurd h hMne, fun _ => ?_⟩, .go⟩
              rw [hf']
              exact NodeAt.mk_br hsM (Or.inr (by omega)) hB10 (SlS.of_own (hO9.ext hE10) (fun k h => Or.inr (by omega))) h1v hul (fun c hc => by obtain ⟨y, h1, h2⟩ := hkk c hc; exact ⟨y, h1, h2.ext hE10⟩)
theorem Delete_hamt_ok (n : Int) (hw : widB n = true) (S : Nat → Prop) (mv kv : Value) (m : List It) (key : List UInt8) (w : World) (hW : WordsAt w 0) (h : MapAt n S w mv m) (hO : OkI n m) (hk : SlB w kv key) (hml : m.length ≤ 900000000) :
    CallK Tryz.prog 39 [mv, kv].toArray w fun r w' => (∃ rv, r = .tuple [rv, .bool (decide (key.length ≤ 64) && (getI m key).isSome), .int .i64 (if 64 < key.length then 2 else 0 : Nat)].toArray ∧
      (64 < key.length → rv = .pointer none) ∧ (¬ 64 < key.length → MapAt n (fun k => S k ∨ w.heap.size ≤ k) w' rv (delI m key))) ∧ Ext w w' := by
  have hM0 := h.inlt
  obtain ⟨b, top, rfl, hS, hB, hT1, hT2⟩ := h
  obtain ⟨b', top', hb', hS', hB', hT1', hT2'⟩ := hM0
  have hwn := (widB_iff n).1 hw
  obtain ⟨nn, rfl⟩ : ∃ nn : Nat, n = nn := ⟨n.toNat, by omega⟩
  obtain ⟨ka, kc, rfl⟩ := slv_of hk
  cases hb'
  obtain rfl : top' = top := by
    have h1 := hB.out
    rw [hB'.out] at h1
    simpa using h1
  refine enterT Tryz.func39 rfl Tryz.ntmps39 Tryz.results39 rfl (by decide) ?_
  repeat (first | exact trivial | refine stp ?_ | refine ldCg ?_ | refine ldNg ?_ | refine ldSg ?_ | refine ldSb ?_ | refine bnd ?_ | refine bnd1 ?_ | refine drawQ (by decide +kernel) mixed (by decide +kernel) ?_)
  refine (check_hamt_ok nn b _ key _ w hW hB hk hw).mono ?_
  rintro _ w1 ⟨D, hDl, rfl, hD, hE1⟩
  have hz1 := hE1.size
  have hbl := hB.lt
  by_cases h64 : 64 < key.length
  · rw [if_pos h64, decide_eq_false (by omega), Bool.false_and]
    repeat (first | exact trivial | refine stp ?_ | refine ldCg ?_ | refine ldNg ?_ | refine ldSg ?_ | refine ldSb ?_ | refine bnd ?_ | refine bnd1 ?_ | refine drawQ (by decide +kernel) mixed (by decide +kernel) ?_)
    first | refine newS ?_ | refine newZ ?_
    intro w2 hE2 hz2 hB2
    repeat (first | exact trivial | refine stp ?_ | refine ldCg ?_ | refine ldNg ?_ | refine ldSg ?_ | refine ldSb ?_ | refine bnd ?_ | refine bnd1 ?_ | refine drawQ (by decide +kernel) mixed (by decide +kernel) ?_)
    exact ⟨⟨_, rfl, fun _ => rfl, fun h => absurd h64 h⟩, .go⟩
  obtain rfl := hD (by omega)
  rw [if_neg h64, decide_eq_true (by omega), Bool.true_and]
  repeat (first | exact trivial | refine stp ?_ | refine ldCg ?_ | refine ldNg ?_ | refine ldSg ?_ | refine ldSb ?_ | refine bnd ?_ | refine bnd1 ?_ | refine drawQ (by decide +kernel) mixed (by decide +kernel) ?_)
  first | refine newS ?_ | refine newZ ?_
  intro w2 hE2 hz2 hB2
  repeat (first | exact trivial | refine stp ?_ | refine ldCg ?_ | refine ldNg ?_ | refine ldSg ?_ | refine ldSb ?_ | refine bnd ?_ | refine bnd1 ?_)
  refine drawX (.of [0, 1, 2, 3, 4, 5, 6, 7, 8, 9, 10, 11, 12]) mixed (by decide +kernel) (fun w3 hE3 hz3 => ?_)
  repeat (first | exact trivial | refine stp ?_ | refine ldCg ?_ | refine ldNg ?_ | refine ldSg ?_ | refine ldSb ?_ | refine bnd ?_ | refine bnd1 ?_ | refine drawQ (by decide +kernel) mixed (by decide +kernel) ?_)
  refine (drop_ok nn hw (SLt S w) b _ key (by omega) 64 0 m _ _ w3 (hW.ext .go) (hB.ext .go) (AtN.ext ⟨hT1', hT2'⟩ .go) hO hO.pre (hk.ext .go) rfl hml (fun k h => by have := h.2; omega)).mono ?_
  rintro _ w4 ⟨nv, rfl, hA4, hE4⟩
  have hz4 := hE4.size
  refine toldX ?_
  have hfin : ∀ {W : World} {g : Nat}, w4.heap.size ≤ g → Ext w4 W → Blk W g 94 [.int .i64 nn, nv] → MapAt nn (fun k => S k ∨ w.heap.size ≤ k) W (.pointer (some ⟨g, 0, none⟩)) (delI m key) := by
    intro W g hg e hBg
    have hA := (hA4.ext e).mono (S' := fun k => S k ∨ w.heap.size ≤ k) (fun k h => h.elim (fun h => Or.inl h.1) (fun h => Or.inr (by omega)))
    exact ⟨g, nv, rfl, Or.inr (by omega), hBg, hA.1, hA.2⟩
  rcases hA4.cases with ⟨_, rfl⟩ | ⟨_, _, b5, _, _, rfl, _⟩ | ⟨_, _, _, b5, _, _, rfl, _⟩
  · repeat (first | exact trivial | refine stp ?_ | refine ldCg ?_ | refine ldNg ?_ | refine ldSg ?_ | refine ldSb ?_ | refine bnd ?_ | refine bnd1 ?_ | refine drawQ (by decide +kernel) mixed (by decide +kernel) ?_)
    refine bldC [.int .i64 nn, .nilIface] (by kernel_rfl) ?_
    repeat (first | exact trivial | refine stp ?_ | refine ldCg ?_ | refine ldNg ?_ | refine ldSg ?_ | refine ldSb ?_ | refine bnd ?_ | refine bnd1 ?_ | refine drawQ (by decide +kernel) mixed (by decide +kernel) ?_)
    first | refine newS ?_ | refine newZ ?_
    intro w5 hE5 hz5 hB5
    repeat (first | exact trivial | refine stp ?_ | refine ldCg ?_ | refine ldNg ?_ | refine ldSg ?_ | refine ldSb ?_ | refine bnd ?_ | refine bnd1 ?_ | refine drawQ (by decide +kernel) mixed (by decide +kernel) ?_)
    exact ⟨⟨_, rfl, fun h => absurd h h64, fun _ => hfin (Nat.le_refl _) hE5 hB5⟩, .go⟩
  · repeat (first | exact trivial | refine stp ?_ | refine ldCg ?_ | refine ldNg ?_ | refine ldSg ?_ | refine ldSb ?_ | refine bnd ?_ | refine bnd1 ?_ | refine drawQ (by decide +kernel) mixed (by decide +kernel) ?_)
    refine bldC [.int .i64 nn, bkV b5] (by kernel_rfl) ?_
    repeat (first | exact trivial | refine stp ?_ | refine ldCg ?_ | refine ldNg ?_ | refine ldSg ?_ | refine ldSb ?_ | refine bnd ?_ | refine bnd1 ?_ | refine drawQ (by decide +kernel) mixed (by decide +kernel) ?_)
    first | refine newS ?_ | refine newZ ?_
    intro w5 hE5 hz5 hB5
    repeat (first | exact trivial | refine stp ?_ | refine ldCg ?_ | refine ldNg ?_ | refine ldSg ?_ | refine ldSb ?_ | refine bnd ?_ | refine bnd1 ?_ | refine drawQ (by decide +kernel) mixed (by decide +kernel) ?_)
    exact ⟨⟨_, rfl, fun h => absurd h h64, fun _ => hfin (Nat.le_refl _) hE5 hB5⟩, .go⟩
  · repeat (first | exact trivial | refine stp ?_ | refine ldCg ?_ | refine ldNg ?_ | refine ldSg ?_ | refine ldSb ?_ | refine bnd ?_ | refine bnd1 ?_ | refine drawQ (by decide +kernel) mixed (by decide +kernel) ?_)
    refine bldC [.int .i64 nn, brV b5] (by kernel_rfl) ?_
    repeat (first | exact trivial | refine stp ?_ | refine ldCg ?_ | refine ldNg ?_ | refine ldSg ?_ | refine ldSb ?_ | refine bnd ?_ | refine bnd1 ?_ | refine drawQ (by decide +kernel) mixed (by decide +kernel) ?_)
    first | refine newS ?_ | refine newZ ?_
    intro w5 hE5 hz5 hB5
    repeat (first | exact trivial | refine stp ?_ | refine ldCg ?_ | refine ldNg ?_ | refine ldSg ?_ | refine ldSb ?_ | refine bnd ?_ | refine bnd1 ?_ | refine drawQ (by decide +kernel) mixed (by decide +kernel) ?_)
    exact ⟨⟨_, rfl, fun h => absurd h h64, fun _ => hfin (Nat.le_refl _) hE5 hB5⟩, .go⟩
end Go.Proofs.YtieaoldoiahgpaaGreatDoor

/-! Lhf -/
namespace Go.Proofs.YtieaoldoiahgpaaGreatDoor
set_option maxRecDepth 100000
open Go Go.RowKit
set_option linter.unusedVariables false
set_option linter.unusedSimpArgs false
set_option maxHeartbeats 4000000
attribute [local irreducible] vcT opsT qT vcOp Q1 vcPure vcLoad vcStore ldC ldN ldD grdT grdQ vc vcOps vcQ hT
attribute [local irreducible] sumR sumP shaP keyD bucketP branchP

theorem alike_ok (n : Nat) (hw : widB n = true) (S S' : Nat → Prop) (av bv kv : Value) (m : List It) (ps : List PR) (w : World) (hW : WordsAt w 0) (hA : MapAt n S w av m) (hB : MapAt n S' w bv m) (hO : OkI n m) (hp : PairsAt w kv ps) (hml : m.length ≤ 90000000) :
    CallK Tryz.prog 40 [av, bv, kv].toArray w fun v w' => v = .bool true ∧ Ext w w' := by
  have hwn := (widB_iff n).1 hw
  have hD32 : ∀ y ∈ m, y.D.length = 32 := fun y hy => by rw [hO.dig y hy]; exact keyD_len _ _
  have hpn : ps.length ≤ 9223372036854775807 := by obtain ⟨_, _, _, h1, h2, _⟩ := hp.1; omega
  obtain ⟨pa, pc, rfl⟩ := slv_of hp.1
  obtain ⟨a, rfl⟩ : ∃ b, av = .pointer (some ⟨b, 0, none⟩) := by obtain ⟨b, _, rfl, _⟩ := hA; exact ⟨b, rfl⟩
  obtain ⟨b, rfl⟩ : ∃ b, bv = .pointer (some ⟨b, 0, none⟩) := by obtain ⟨b, _, rfl, _⟩ := hB; exact ⟨b, rfl⟩
  have hrl : (rootD n m).length = 32 := by unfold rootD; split; exact sumR_len _ _; exact nodeD_len _ _ _ _
  refine enterT Tryz.func40 rfl Tryz.ntmps40 Tryz.results40 rfl (by decide) ?_
  repeat (first | exact trivial | refine stp ?_ | refine ldCg ?_ | refine ldNg ?_ | refine ldSg ?_ | refine ldSb ?_ | refine bnd ?_ | refine bnd1 ?_ | refine drawQ (by decide +kernel) mixed (by decide +kernel) ?_)
  refine (Len_hamt_ok n S _ m w hA hD32).mono ?_
  rintro _ w1 ⟨rfl, hE1⟩
  have hz1 := hE1.size
  repeat (first | exact trivial | refine stp ?_ | refine ldCg ?_ | refine ldNg ?_ | refine ldSg ?_ | refine ldSb ?_ | refine bnd ?_ | refine bnd1 ?_ | refine drawQ (by decide +kernel) mixed (by decide +kernel) ?_)
  refine (Len_hamt_ok n S' _ m w1 (hB.ext .go) hD32).mono ?_
  rintro _ w2 ⟨rfl, hE2⟩
  have hz2 := hE2.size
  repeat (first | exact trivial | refine stp ?_ | refine ldCg ?_ | refine ldNg ?_ | refine ldSg ?_ | refine ldSb ?_ | refine bnd ?_ | refine bnd1 ?_ | refine drawQ (by decide +kernel) mixed (by decide +kernel) ?_)
  refine (Root_hamt_ok n S _ m w2 (hW.ext .go) (hA.ext .go) hD32).mono ?_
  rintro _ w3 ⟨rfl, hE3⟩
  have hz3 := hE3.size
  repeat (first | exact trivial | refine stp ?_ | refine ldCg ?_ | refine ldNg ?_ | refine ldSg ?_ | refine ldSb ?_ | refine bnd ?_ | refine bnd1 ?_ | refine drawQ (by decide +kernel) mixed (by decide +kernel) ?_)
  refine (Root_hamt_ok n S' _ m w3 (hW.ext .go) (hB.ext .go) hD32).mono ?_
  rintro _ w4 ⟨rfl, hE4⟩
  have hz4 := hE4.size
  repeat (first | exact trivial | refine stp ?_ | refine ldCg ?_ | refine ldNg ?_ | refine ldSg ?_ | refine ldSb ?_ | refine bnd ?_ | refine bnd1 ?_ | refine drawQ (by decide +kernel) mixed (by decide +kernel) ?_)
  refine eqd_lit _ _ _ _ _ _ Tryz.underlying5 c5 hrl hrl ?_
  rw [decide_eq_true (rfl : rootD n m = rootD n m)]
  repeat (first | exact trivial | refine stp ?_ | refine ldCg ?_ | refine ldNg ?_ | refine ldSg ?_ | refine ldSb ?_ | refine bnd ?_ | refine bnd1 ?_ | refine drawQ (by decide +kernel) mixed (by decide +kernel) ?_)
  refine (Pairs_hamt_ok n hw S _ m w4 (hA.ext .go) hO (by omega)).mono ?_
  rintro v5 w5 ⟨qs5, hO5, hR5, hd5, hE5⟩
  have hz5 := hE5.size
  obtain ⟨qa5, qc5, rfl⟩ := own_slice hO5
  have hP5 := hR5.pairsAt hO5
  repeat (first | exact trivial | refine stp ?_ | refine ldCg ?_ | refine ldNg ?_ | refine ldSg ?_ | refine ldSb ?_ | refine bnd ?_ | refine bnd1 ?_ | refine drawQ (by decide +kernel) mixed (by decide +kernel) ?_)
  refine (Pairs_hamt_ok n hw S' _ m w5 (hB.ext .go) hO (by omega)).mono ?_
  rintro v6 w6 ⟨qs6, hO6, hR6, hd6, hE6⟩
  have hz6 := hE6.size
  obtain ⟨qa6, qc6, rfl⟩ := own_slice hO6
  have hP6 := hR6.pairsAt hO6
  repeat (first | exact trivial | refine stp ?_ | refine ldCg ?_ | refine ldNg ?_ | refine ldSg ?_ | refine ldSb ?_ | refine bnd ?_ | refine bnd1 ?_ | refine drawQ (by decide +kernel) mixed (by decide +kernel) ?_)
  refine (SamePairs_ok qs5 qs6 _ _ w6 (hP5.ext .go) (hP6.ext .go)).mono ?_
  rintro _ w7 ⟨rfl, hE7⟩
  have hz7 := hE7.size
  rw [decide_eq_true (by rw [hd5, hd6] : qs5.map PR.dat = qs6.map PR.dat)]
  repeat (first | exact trivial | refine stp ?_ | refine ldCg ?_ | refine ldNg ?_ | refine ldSg ?_ | refine ldSb ?_ | refine bnd ?_ | refine bnd1 ?_ | refine drawQ (by decide +kernel) mixed (by decide +kernel) ?_)
  refine loopX (ι := Nat) (fun i => [(0, .pointer (some ⟨a, 0, none⟩)), (1, .pointer (some ⟨b, 0, none⟩)), (49, .slice pa ps.length pc), (50, .int .i64 ps.length), (51, .int .i64 i)])
    (fun i W => Ext w W ∧ i ≤ ps.length) (fun i => ps.length - i) 0 ⟨.go, Nat.zero_le _⟩ ?_ ?_
  · repeat (first | exact trivial | refine stp ?_ | refine ldCg ?_ | refine ldNg ?_ | refine ldSg ?_ | refine ldSb ?_ | refine bnd ?_ | refine bnd1 ?_ | refine drawQ (by decide +kernel) mixed (by decide +kernel) ?_)
  · rintro i s8 w8 ⟨hE8, hi⟩
    have hz8 := hE8.size
    clear hO5 hR5 hO6 hR6 hP5 hP6
    repeat (first | exact trivial | refine stp ?_ | refine ldCg ?_ | refine ldNg ?_ | refine ldSg ?_ | refine ldSb ?_ | refine bnd ?_ | refine bnd1 ?_ | refine drawQ (by decide +kernel) mixed (by decide +kernel) ?_)
    refine ⟨fun hlt => ?_, fun hge => ?_⟩
    · obtain ⟨pb, o, rfl, hR⟩ := pr_row hp.1 (by omega)
      obtain ⟨p, hx⟩ : ∃ x, ps[i]? = some x := ⟨_, List.getElem?_eq_getElem (by omega)⟩
      obtain ⟨hpk, hpv⟩ := hp.2 _ (List.mem_of_getElem? hx)
      obtain ⟨ka1, kc1, hke⟩ := slv_of hpk
      obtain ⟨va1, vc1, hve⟩ := slv_of hpv
      rw [hke] at hpk
      repeat (first | exact trivial | refine stp ?_ | refine ldCg ?_ | refine ldNg ?_ | refine ldSg ?_ | refine ldSb ?_ | refine bnd ?_ | refine bnd1 ?_ | refine drawQ (by decide +kernel) mixed (by decide +kernel) ?_)
      refine ldPair hx ?_
      rw [hke, hve]
      repeat (first | exact trivial | refine stp ?_ | refine ldCg ?_ | refine ldNg ?_ | refine ldSg ?_ | refine ldSb ?_ | refine bnd ?_ | refine bnd1 ?_ | refine drawQ (by decide +kernel) mixed (by decide +kernel) ?_)
      first | refine newS ?_ | refine newZ ?_
      intro w9 hE9 hz9 hB9
      repeat (first | exact trivial | refine stp ?_ | refine ldCg ?_ | refine ldNg ?_ | refine ldSg ?_ | refine ldSb ?_ | refine bnd ?_ | refine bnd1 ?_ | refine drawQ (by decide +kernel) mixed (by decide +kernel) ?_)
      refine (Walk_hamt_ok n hw S _ _ m p.k w9 (hW.ext .go) (hA.ext .go) hO (hpk.ext .go) (by omega)).mono ?_
      rintro _ w10 ⟨sv, qv, tt, qs, rfl, hOs, hRK, hOq, hRB, htt, hqq, hE10⟩
      have hz10 := hE10.size
      have hSt := hRK.stepsAt hOs
      have hPr := hRB.pairsAt hOq
      obtain ⟨sa, sc, rfl⟩ := own_slice hOs
      obtain ⟨qa, qc, rfl⟩ := own_slice hOq
      clear hOs hRK hOq hRB
      repeat (first | exact trivial | refine stp ?_ | refine ldCg ?_ | refine ldNg ?_ | refine ldSg ?_ | refine ldSb ?_ | refine bnd ?_ | refine bnd1 ?_ | refine drawQ (by decide +kernel) mixed (by decide +kernel) ?_)
      refine (Walk_hamt_ok n hw S' _ _ m p.k w10 (hW.ext .go) (hB.ext .go) hO (hpk.ext .go) (by omega)).mono ?_
      rintro _ w11 ⟨sv, qv, tt', qs', rfl, hOs, hRK, hOq, hRB, htt', hqq', hE11⟩
      have hz11 := hE11.size
      have hSt' := hRK.stepsAt hOs
      have hPr' := hRB.pairsAt hOq
      obtain ⟨sa', sc', rfl⟩ := own_slice hOs
      obtain ⟨qa', qc', rfl⟩ := own_slice hOq
      clear hOs hRK hOq hRB
      repeat (first | exact trivial | refine stp ?_ | refine ldCg ?_ | refine ldNg ?_ | refine ldSg ?_ | refine ldSb ?_ | refine bnd ?_ | refine bnd1 ?_ | refine drawQ (by decide +kernel) mixed (by decide +kernel) ?_)
      refine (Get_hamt_ok n hw S _ _ m p.k w11 (hW.ext .go) (hA.ext .go) hO (hpk.ext .go) (by omega)).mono ?_
      rintro _ w12 ⟨v12, rfl, hR12, hE12⟩
      have hz12 := hE12.size
      have hS12 := hR12.sl
      obtain ⟨va12, vc12, rfl⟩ := own_slice hR12.own
      clear hR12
      repeat (first | exact trivial | refine stp ?_ | refine ldCg ?_ | refine ldNg ?_ | refine ldSg ?_ | refine ldSb ?_ | refine bnd ?_ | refine bnd1 ?_ | refine drawQ (by decide +kernel) mixed (by decide +kernel) ?_)
      refine (Get_hamt_ok n hw S' _ _ m p.k w12 (hW.ext .go) (hB.ext .go) hO (hpk.ext .go) (by omega)).mono ?_
      rintro _ w13 ⟨v13, rfl, hR13, hE13⟩
      have hz13 := hE13.size
      have hS13 := hR13.sl
      obtain ⟨va13, vc13, rfl⟩ := own_slice hR13.own
      clear hR13
      generalize hgv : (if 64 < p.k.length then [] else (getI m p.k).getD []) = gv at *
      repeat (first | exact trivial | refine stp ?_ | refine ldCg ?_ | refine ldNg ?_ | refine ldSg ?_ | refine ldSb ?_ | refine bnd ?_ | refine bnd1 ?_ | refine drawQ (by decide +kernel) mixed (by decide +kernel) ?_)
      refine (Same_ok gv gv _ _ w13 (hS12.ext .go) (hS13.ext .go)).mono ?_
      rintro _ w14 ⟨rfl, hE14⟩
      have hz14 := hE14.size
      rw [decide_eq_true (rfl : gv = gv)]
      repeat (first | exact trivial | refine stp ?_ | refine ldCg ?_ | refine ldNg ?_ | refine ldSg ?_ | refine ldSb ?_ | refine bnd ?_ | refine bnd1 ?_ | refine drawQ (by decide +kernel) mixed (by decide +kernel) ?_)
      refine (SameSteps_ok tt tt' _ _ w14 (hSt.ext .go) (hSt'.ext .go)).mono ?_
      rintro _ w15 ⟨rfl, hE15⟩
      have hz15 := hE15.size
      rw [decide_eq_true (by rw [htt, htt'] : tt.map SR.dt = tt'.map SR.dt)]
      repeat (first | exact trivial | refine stp ?_ | refine ldCg ?_ | refine ldNg ?_ | refine ldSg ?_ | refine ldSb ?_ | refine bnd ?_ | refine bnd1 ?_ | refine drawQ (by decide +kernel) mixed (by decide +kernel) ?_)
      refine (SamePairs_ok qs qs' _ _ w15 (hPr.ext .go) (hPr'.ext .go)).mono ?_
      rintro _ w16 ⟨rfl, hE16⟩
      have hz16 := hE16.size
      rw [decide_eq_true (by rw [hqq, hqq'] : qs.map PR.dat = qs'.map PR.dat)]
      repeat (first | exact trivial | refine stp ?_ | refine ldCg ?_ | refine ldNg ?_ | refine ldSg ?_ | refine ldSb ?_ | refine bnd ?_ | refine bnd1 ?_ | refine drawQ (by decide +kernel) mixed (by decide +kernel) ?_)
      exact ⟨i + 1, ⟨.go, by omega⟩, by rw [w64 (by omega) (by omega)]; rfl, by omega⟩
    · repeat (first | exact trivial | refine stp ?_ | refine ldCg ?_ | refine ldNg ?_ | refine ldSg ?_ | refine ldSb ?_ | refine bnd ?_ | refine bnd1 ?_ | refine drawQ (by decide +kernel) mixed (by decide +kernel) ?_)
      exact .go
/-- A call of a script. -/
structure OpR where
  kind : Int
  frm : Int
  kv : Value
  vv : Value
  k : List UInt8
  v : List UInt8
def OpR.cells (o : OpR) : List Value := [.int .i64 o.kind, .int .i64 o.frm, o.kv, o.vv]
/-- What a Put or a Delete of a script leaves. -/
def chI (n : Int) (m : List It) (o : OpR) : List It := if o.kind = 1 then (if 64 < o.k.length ∨ 256 < o.v.length then m else putI m ⟨keyD n o.k, o.k, o.v⟩) else (if 64 < o.k.length then m else delI m o.k)
end Go.Proofs.YtieaoldoiahgpaaGreatDoor

/-! Lhh -/
namespace Go.Proofs.YtieaoldoiahgpaaGreatDoor
set_option maxRecDepth 100000
open Go Go.RowKit
set_option linter.unusedVariables false
set_option linter.unusedSimpArgs false
set_option maxHeartbeats 4000000
attribute [local irreducible] vcT opsT qT vcOp Q1 vcPure vcLoad vcStore ldC ldN ldD grdT grdQ vc vcOps vcQ hT
attribute [local irreducible] sumR sumP shaP keyD bucketP branchP

theorem key_of {n : Int} {m : List It} (hS : SortedI m) (hD : ∀ y ∈ m, y.D = keyD n y.k) {y z : It} (hy : y ∈ m) (hz : z ∈ m) (h : y.k = z.k) : y = z := by
  have h0 : cmpIt y z = 0 := (cmpIt_eq y z).2 ⟨by rw [hD y hy, hD z hz, h], h⟩
  obtain ⟨i, hi⟩ := List.getElem?_of_mem hy
  obtain ⟨j, hj⟩ := List.getElem?_of_mem hz
  obtain ⟨hil, hi'⟩ := List.getElem?_eq_some_iff.1 hi
  obtain ⟨hjl, hj'⟩ := List.getElem?_eq_some_iff.1 hj
  have hp := List.pairwise_iff_getElem.1 hS
  rcases Nat.lt_trichotomy i j with h | h | h
  · have := hp i j hil hjl h; rw [hi', hj'] at this; omega
  · subst h; rw [← hi', hj']
  · have := hp j i hjl hil h; rw [hi', hj'] at this; have := cmpIt_neg z y; omega
theorem getI_some_mem {m : List It} {k v : List UInt8} (h : getI m k = some v) : ∃ y ∈ m, y.k = k ∧ y.v = v := by
  unfold getI at h
  cases hf : m.find? (fun z => decide (z.k = k)) with
  | none => rw [hf] at h; cases h
  | some z =>
    rw [hf] at h
    exact ⟨z, List.mem_of_find?_eq_some hf, by simpa using List.find?_some hf, Option.some.inj h⟩
end Go.Proofs.YtieaoldoiahgpaaGreatDoor

/-! Lhi -/
namespace Go.Proofs.YtieaoldoiahgpaaGreatDoor
set_option maxRecDepth 100000
open Go Go.RowKit
set_option linter.unusedVariables false
set_option linter.unusedSimpArgs false
set_option maxHeartbeats 4000000
attribute [local irreducible] vcT opsT qT vcOp Q1 vcPure vcLoad vcStore ldC ldN ldD grdT grdQ vc vcOps vcQ hT
attribute [local irreducible] sumR sumP shaP keyD bucketP branchP

/-- What the last of the pairs with this key says, acc where there is none. -/
def foldV (k : List UInt8) (acc : Option (List UInt8)) (l : List (List UInt8 × List UInt8)) : Option (List UInt8) := l.foldl (fun a p => if p.1 = k then some p.2 else a) acc
theorem foldV_cons (k : List UInt8) (acc : Option (List UInt8)) (p : List UInt8 × List UInt8) (l : List (List UInt8 × List UInt8)) : foldV k acc (p :: l) = foldV k (if p.1 = k then some p.2 else acc) l := rfl
theorem foldV_snoc (k : List UInt8) (acc : Option (List UInt8)) (p : List UInt8 × List UInt8) (l : List (List UInt8 × List UInt8)) : foldV k acc (l ++ [p]) = if p.1 = k then some p.2 else foldV k acc l := by unfold foldV; rw [List.foldl_append]; rfl
theorem foldV_none {k : List UInt8} : ∀ {l : List (List UInt8 × List UInt8)} {acc : Option (List UInt8)}, (∀ p ∈ l, p.1 ≠ k) → foldV k acc l = acc
  | [], _, _ => rfl
  | p :: l, acc, h => by rw [foldV_cons, if_neg (h p (by simp)), foldV_none fun q hq => h q (by simp [hq])]
theorem foldV_some {k : List UInt8} : ∀ {l : List (List UInt8 × List UInt8)} {a b : Option (List UInt8)}, (∃ p ∈ l, p.1 = k) → foldV k a l = foldV k b l
  | [], _, _, ⟨p, hp, _⟩ => by cases hp
  | p :: l, a, b, h => by
    rw [foldV_cons, foldV_cons]
    by_cases hp : p.1 = k
    · rw [if_pos hp, if_pos hp]
    · rw [if_neg hp, if_neg hp]
      refine foldV_some ?_
      obtain ⟨q, hq, hk⟩ := h
      rcases List.mem_cons.1 hq with rfl | hq
      · exact absurd hk hp
      · exact ⟨q, hq, hk⟩
theorem getI_putAll {n : Int} (k : List UInt8) : ∀ (l : List (List UInt8 × List UInt8)) {m : List It}, OkI n m → (∀ p ∈ l, p.1.length ≤ 64 ∧ p.2.length ≤ 256) → getI (putAll n m l) k = foldV k (getI m k) l
  | [], _, _, _ => rfl
  | p :: l, m, hO, hl => by
    have h1 := getI_putAll k l (hO.put (x := ⟨keyD n p.1, p.1, p.2⟩) rfl (hl p (by simp))) (fun q hq => hl q (by simp [hq]))
    rw [getI_put hO rfl] at h1
    exact h1
theorem items_ext {n : Int} {a b : List It} (ha : OkI n a) (hb : OkI n b) (h : ∀ k, getI a k = getI b k) : a = b := by
  have key : ∀ {c : List It}, OkI n c → ∀ y, y ∈ c ↔ getI c y.k = some y.v ∧ y.D = keyD n y.k := by
    intro c hc y
    constructor
    · intro hy
      refine ⟨?_, hc.dig y hy⟩
      cases hg : getI c y.k with
      | none => exact absurd rfl (getI_none.1 hg y hy)
      | some v =>
        obtain ⟨z, hz, hzk, hzv⟩ := getI_some_mem hg
        rw [← key_of (n := n) hc.sorted hc.dig hz hy hzk, hzv]
    · rintro ⟨h1, h2⟩
      obtain ⟨z, hz, hzk, hzv⟩ := getI_some_mem h1
      have : z = y := by
        cases z with
        | mk D k v =>
          cases y with
          | mk D' k' v' =>
            have h3 := hc.dig _ hz
            simp only at hzk hzv h2 h3
            rw [h2, h3, hzk, hzv]
      exact this ▸ hz
  refine sorted_ext ha.sorted hb.sorted fun y => ?_
  rw [key ha, key hb, h]
/-- The pairs whose key is not met again, the last ones first. -/
def lastsI : List PR → List PR
  | [] => []
  | x :: r => lastsI r ++ (if (r.any fun q => decide (q.k = x.k)) = true then [] else [x])
theorem lastsI_sub : ∀ {l : List PR} {q : PR}, q ∈ lastsI l → q ∈ l
  | x :: r, q, h => by
    rw [lastsI] at h
    rcases List.mem_append.1 h with h | h
    · exact List.mem_cons_of_mem _ (lastsI_sub h)
    · split at h
      · cases h
      · rw [List.mem_singleton.1 h]; simp
theorem lastsI_len : ∀ (l : List PR), (lastsI l).length ≤ l.length
  | [] => Nat.le_refl _
  | x :: r => by
    have := lastsI_len r
    rw [lastsI, List.length_append, List.length_cons]
    split
    · simp only [List.length_nil]; omega
    · simp only [List.length_singleton]; omega
theorem lastsI_fold (k : List UInt8) : ∀ (l : List PR) (acc : Option (List UInt8)), foldV k acc ((lastsI l).map PR.dat) = foldV k acc (l.map PR.dat)
  | [], _ => rfl
  | x :: r, acc => by
    have ih := lastsI_fold k r
    rw [lastsI, List.map_append, List.map_cons, foldV_cons]
    by_cases ha : (r.any fun q => decide (q.k = x.k)) = true
    · rw [if_pos ha, List.map_nil, List.append_nil, ih]
      by_cases hx : x.dat.1 = k
      · rw [if_pos hx]
        refine foldV_some ?_
        obtain ⟨q, hq, hk⟩ := List.any_eq_true.1 ha
        refine ⟨q.dat, List.mem_map_of_mem hq, ?_⟩
        have : q.k = x.k := by simpa using hk
        show q.k = k
        rw [this]
        exact hx
      · rw [if_neg hx]
    · rw [if_neg ha, List.map_cons, List.map_nil, foldV_snoc, ih]
      by_cases hx : x.dat.1 = k
      · rw [if_pos hx, if_pos hx, foldV_none]
        intro p hp hpk
        obtain ⟨q, hq, rfl⟩ := List.mem_map.1 hp
        refine ha (List.any_eq_true.2 ⟨q, hq, ?_⟩)
        have h1 : q.k = k := hpk
        have h2 : x.k = k := hx
        simp [h1, h2]
      · rw [if_neg hx, if_neg hx]
def delAll (m : List It) (l : List PR) : List It := l.foldl (fun m p => delI m p.k) m
theorem delAll_snoc (m : List It) (l : List PR) (p : PR) : delAll m (l ++ [p]) = delI (delAll m l) p.k := by unfold delAll; rw [List.foldl_append]; rfl
theorem getI_del (m : List It) (k k' : List UInt8) : getI (delI m k) k' = if k = k' then none else getI m k' := by
  by_cases h : k = k'
  · rw [if_pos h, getI_none]
    intro y hy
    rw [← h]
    exact (mem_del.1 hy).2
  · rw [if_neg h]
    unfold getI delI
    rw [find_filter]
    intro y _ hk
    have hk' : y.k = k' := by simpa using hk
    simp only [decide_eq_true_eq]
    rw [hk']
    exact fun e => h e.symm
theorem getI_delAll (k : List UInt8) : ∀ (l : List PR) (m : List It), getI (delAll m l) k = if (l.any fun p => decide (p.k = k)) = true then none else getI m k
  | [], m => rfl
  | p :: l, m => by
    have h := getI_delAll k l (delI m p.k)
    rw [getI_del] at h
    show getI (delAll (delI m p.k) l) k = _
    rw [h, List.any_cons]
    by_cases hp : p.k = k
    · simp [hp]
    · simp [hp]
/-- Where the two maps of a history come to: they are one. -/
theorem history_eq {n : Int} {l others : List PR} {m : List It} (hl : ∀ p ∈ l, p.k.length ≤ 64 ∧ p.v.length ≤ 256) (hO : OkI n m) (hm : ∀ k, getI m k ≠ none → (∃ q ∈ lastsI l, q.k = k) ∨ ∃ o ∈ others, o.k = k) (hOd : OkI n (delAll m others)) :
    putAll n (delAll m others) ((lastsI l).map PR.dat) = putAll n [] (l.map PR.dat) := by
  have h1 : ∀ p ∈ l.map PR.dat, p.1.length ≤ 64 ∧ p.2.length ≤ 256 := fun p hp => by obtain ⟨q, hq, rfl⟩ := List.mem_map.1 hp; exact hl q hq
  have h2 : ∀ p ∈ (lastsI l).map PR.dat, p.1.length ≤ 64 ∧ p.2.length ≤ 256 := fun p hp => by obtain ⟨q, hq, rfl⟩ := List.mem_map.1 hp; exact hl q (lastsI_sub hq)
  refine items_ext (hOd.putAll _ h2) ((OkI.nil n).putAll _ h1) fun k => ?_
  rw [getI_putAll k _ hOd h2, getI_putAll k _ (OkI.nil n) h1, ← lastsI_fold k l (getI [] k)]
  by_cases hk : ∃ q ∈ lastsI l, q.k = k
  · obtain ⟨q, hq, hqk⟩ := hk
    exact foldV_some ⟨q.dat, List.mem_map_of_mem hq, hqk⟩
  · rw [getI_delAll]
    have e : (if (others.any fun p => decide (p.k = k)) = true then none else getI m k) = getI ([] : List It) k := by
      split
      · rfl
      · rename_i hno
        cases hg : getI m k with
        | none => rfl
        | some v =>
          exfalso
          rcases hm k (by rw [hg]; simp) with h | ⟨o, ho, hok⟩
          · exact hk h
          · exact hno (List.any_eq_true.2 ⟨o, ho, by simpa using hok⟩)
    rw [e]
theorem delAll_ok {n : Int} : ∀ (l : List PR) {m : List It}, OkI n m → OkI n (delAll m l)
  | [], _, h => h
  | p :: l, m, h => delAll_ok l (h.del p.k)
theorem delAll_len : ∀ (l : List PR) (m : List It), (delAll m l).length ≤ m.length
  | [], m => Nat.le_refl _
  | p :: l, m => Nat.le_trans (delAll_len l (delI m p.k)) (del_len m p.k)
theorem shortP_idem (l : List PR) : (l.filter okP).filter okP = l.filter okP := List.filter_eq_self.2 fun p hp => (List.mem_filter.1 hp).2
theorem History_ok (n : Int) (ps os : List PR) (pv ov : Value) (w : World) (hW : WordsAt w 0) (hp : PairsAt w pv ps) (ho : PairsAt w ov os) (hpn : ps.length ≤ 4000000000) (hon : os.length ≤ 4000000000) :
    CallK Tryz.prog 8 [.int .i64 n, pv, ov].toArray w fun v w' => v = .bool true ∧ Ext w w' := by
  obtain ⟨pa, pc, rfl⟩ := slv_of hp.1
  obtain ⟨oa, oc, rfl⟩ := slv_of ho.1
  refine enterT Tryz.func8 rfl Tryz.ntmps8 Tryz.results8 rfl (by decide) ?_
  repeat (first | exact trivial | refine stp ?_ | refine ldCg ?_ | refine ldNg ?_ | refine ldSg ?_ | refine ldSb ?_ | refine bnd ?_ | refine bnd1 ?_ | refine drawQ (by decide +kernel) mixed (by decide +kernel) ?_)
  refine (awake14_ok w hW).mono ?_
  rintro _ w1 ⟨rfl, hE1⟩
  have hz1 := hE1.size
  repeat (first | exact trivial | refine stp ?_ | refine ldCg ?_ | refine ldNg ?_ | refine ldSg ?_ | refine ldSb ?_ | refine bnd ?_ | refine bnd1 ?_ | refine drawQ (by decide +kernel) mixed (by decide +kernel) ?_)
  rw [w64 (by omega) (by omega)]
  refine ⟨fun _ => .go, fun h200 => ?_⟩
  refine (Width_ok n w1).mono ?_
  rintro _ w2 ⟨rfl, hE2⟩
  have hz2 := hE2.size
  rw [widthB]
  cases hw : widB n
  · repeat (first | exact trivial | refine stp ?_ | refine ldCg ?_ | refine ldNg ?_ | refine ldSg ?_ | refine ldSb ?_ | refine bnd ?_ | refine bnd1 ?_ | refine drawQ (by decide +kernel) mixed (by decide +kernel) ?_)
    exact .go
  have hwn := (widB_iff n).1 hw
  obtain ⟨nn, rfl⟩ : ∃ nn : Nat, n = nn := ⟨n.toNat, by omega⟩
  repeat (first | exact trivial | refine stp ?_ | refine ldCg ?_ | refine ldNg ?_ | refine ldSg ?_ | refine ldSb ?_ | refine bnd ?_ | refine bnd1 ?_ | refine drawQ (by decide +kernel) mixed (by decide +kernel) ?_)
  refine (short_ok ps _ w2 (hp.ext .go) (by omega)).mono ?_
  rintro v3 w3 ⟨hP3, hO3, hE3⟩
  have hz3 := hE3.size
  have hsl : (ps.filter okP).length ≤ ps.length := List.length_filter_le _ _
  have hlok : ∀ p ∈ ps.filter okP, p.k.length ≤ 64 ∧ p.v.length ≤ 256 := fun p hp => by have := (List.mem_filter.1 hp).2; unfold okP at this; rw [decide_eq_true_eq] at this; omega
  have hgs : grownI nn ((ps.filter okP).map PR.dat) = putAll nn [] ((ps.filter okP).map PR.dat) := by unfold grownI; rw [← short_dat, shortP_idem]
  obtain ⟨la, lc, rfl⟩ := own_slice hO3
  generalize ps.filter okP = l at *
  repeat (first | exact trivial | refine stp ?_ | refine ldCg ?_ | refine ldNg ?_ | refine ldSg ?_ | refine ldSb ?_ | refine bnd ?_ | refine bnd1 ?_ | refine drawQ (by decide +kernel) mixed (by decide +kernel) ?_)
  refine (grown_ok nn l _ w3 (hW.ext .go) hP3 (by omega) hw).mono ?_
  rintro mv w4 ⟨hM4, hE4⟩
  have hz4 := hE4.size
  obtain ⟨b4, rfl⟩ : ∃ b, mv = .pointer (some ⟨b, 0, none⟩) := by obtain ⟨b, _, rfl, _⟩ := hM4; exact ⟨b, rfl⟩
  have hOA := grownI_ok nn (l.map PR.dat)
  have hAl := grownI_len nn (l.map PR.dat)
  rw [List.length_map] at hAl
  repeat (first | exact trivial | refine stp ?_ | refine ldCg ?_ | refine ldNg ?_ | refine ldSg ?_ | refine ldSb ?_ | refine bnd ?_ | refine bnd1 ?_ | refine drawQ (by decide +kernel) mixed (by decide +kernel) ?_)
  rw [w64 (by omega) (by omega)]
  repeat (first | exact trivial | refine stp ?_ | refine ldCg ?_ | refine ldNg ?_ | refine ldSg ?_ | refine ldSb ?_ | refine bnd ?_ | refine bnd1 ?_ | refine drawQ (by decide +kernel) mixed (by decide +kernel) ?_)
  refine loopX (ι := Nat × Option Addr × Nat) (fun x => [(0, .int .i64 nn), (2, .slice oa os.length oc), (7, .slice la l.length lc), (8, .pointer (some ⟨b4, 0, none⟩)), (9, .slice x.2.1 (lastsI (l.drop x.1)).length x.2.2), (10, .int .i64 ((x.1 : Int) - 1))])
    (fun x W => Ext w4 W ∧ x.1 ≤ l.length ∧ Own W w4.heap.size 48 2 (.slice x.2.1 (lastsI (l.drop x.1)).length x.2.2) (lastsI (l.drop x.1)).length ((lastsI (l.drop x.1)).flatMap PR.cells)) (fun x => x.1)
    (l.length, none, 0) ⟨.go, Nat.le_refl _, by simp only [List.drop_length]; exact Own.nil _ _ _ _⟩ ?_ ?_
  · repeat (first | exact trivial | refine stp ?_ | refine ldCg ?_ | refine ldNg ?_ | refine ldSg ?_ | refine ldSb ?_ | refine bnd ?_ | refine bnd1 ?_ | refine drawQ (by decide +kernel) mixed (by decide +kernel) ?_)
    simp only [List.drop_length]
    rfl
  · rintro ⟨c, a5, c5⟩ s5 w5 ⟨hE5, hc, hO5⟩
    simp only at hc hO5
    have hz5 := hE5.size
    repeat (first | exact trivial | refine stp ?_ | refine ldCg ?_ | refine ldNg ?_ | refine ldSg ?_ | refine ldSb ?_ | refine bnd ?_ | refine bnd1 ?_ | refine drawQ (by decide +kernel) mixed (by decide +kernel) ?_)
    refine ⟨fun hlt => ?_, fun hge => ?_⟩
    · obtain ⟨c, rfl⟩ : ∃ k, c = k + 1 := ⟨c - 1, by omega⟩
      rw [show ((c + 1 : Nat) : Int) - 1 = (c : Int) from by omega] at *
      obtain ⟨q, hq⟩ : ∃ x, l[c]? = some x := ⟨_, List.getElem?_eq_getElem (by omega)⟩
      have hdr : l.drop c = q :: l.drop (c + 1) := by
        obtain ⟨h1, h2⟩ := List.getElem?_eq_some_iff.1 hq
        rw [List.drop_eq_getElem_cons h1, h2]
      obtain ⟨lb, lo, rfl, hR⟩ := pr_row hP3.1 (by omega)
      obtain ⟨hqk, hqv⟩ := hP3.2 q (List.mem_of_getElem? hq)
      have hll := lastsI_len (l.drop (c + 1))
      rw [List.length_drop] at hll
      have hcap := hO3.cap_le
      repeat (first | exact trivial | refine stp ?_ | refine ldCg ?_ | refine ldNg ?_ | refine ldSg ?_ | refine ldSb ?_ | refine bnd ?_ | refine bnd1 ?_ | refine drawQ (by decide +kernel) mixed (by decide +kernel) ?_)
      rw [w64 (by omega) (by omega), show ((c : Int) + 1) = ((c + 1 : Nat) : Int) from by omega]
      refine ⟨by omega, by omega, by omega, fun a' ha' => ?_⟩
      obtain ⟨o', rfl, ho'⟩ := ha' lb lo rfl
      rw [show ((l.length : Int) - ((c + 1 : Nat) : Int)).toNat = (l.drop (c + 1)).length from by rw [List.length_drop]; omega]
      generalize hLr : l.drop (c + 1) = r at *
      have hrl : r.length = l.length - (c + 1) := by rw [← hLr, List.length_drop]
      have hrx : ∀ j x, r[j]? = some x → l[c + 1 + j]? = some x := fun j x h => by rw [← hLr, List.getElem?_drop] at h; exact h
      refine loopX (ι := Nat) (fun j => [(0, .int .i64 nn), (2, .slice oa os.length oc), (7, .slice (some ⟨lb, lo, none⟩) l.length lc), (8, .pointer (some ⟨b4, 0, none⟩)), (9, .slice a5 (lastsI r).length c5), (10, .int .i64 c), (11, .bool (!((r.take j).any fun y => decide (y.k = q.k)))), (47, .slice (some ⟨lb, o', none⟩) r.length ((lc : Int) - ((c + 1 : Nat) : Int)).toNat), (48, .int .i64 r.length), (49, .int .i64 j)])
        (fun j W => Ext w5 W ∧ j ≤ r.length) (fun j => r.length - j) 0 ⟨.go, Nat.zero_le _⟩ ?_ ?_
      · repeat (first | exact trivial | refine stp ?_ | refine ldCg ?_ | refine ldNg ?_ | refine ldSg ?_ | refine ldSb ?_ | refine bnd ?_ | refine bnd1 ?_ | refine drawQ (by decide +kernel) mixed (by decide +kernel) ?_)
        rfl
      · rintro j s6 w6 ⟨hE6, hj⟩
        have hz6 := hE6.size
        repeat (first | exact trivial | refine stp ?_ | refine ldCg ?_ | refine ldNg ?_ | refine ldSg ?_ | refine ldSb ?_ | refine bnd ?_ | refine bnd1 ?_ | refine drawQ (by decide +kernel) mixed (by decide +kernel) ?_)
        refine ⟨fun hltj => ?_, fun hgej => ?_⟩
        · obtain ⟨p, hx⟩ : ∃ x, r[j]? = some x := ⟨_, List.getElem?_eq_getElem (by omega)⟩
          have hx' := hrx j p hx
          obtain ⟨hpk, hpv⟩ := hP3.2 p (List.mem_of_getElem? hx')
          obtain rfl : o' = lo + (c + 1) * 2 := by have := ho' (by omega); simpa using this
          obtain ⟨ka1, kc1, hke⟩ := slv_of hpk
          obtain ⟨va1, vc1, hve⟩ := slv_of hpv
          obtain ⟨qka, qkc, hqe⟩ := slv_of hqk
          rw [hke] at hpk
          have hqk' := hqk
          rw [hqe] at hqk'
          have htk : (r.take (j + 1)).any (fun y => decide (y.k = q.k)) = ((r.take j).any (fun y => decide (y.k = q.k)) || decide (p.k = q.k)) := by
            obtain ⟨h1, h2⟩ := List.getElem?_eq_some_iff.1 hx
            rw [List.take_succ_eq_append_getElem h1, h2, List.any_append]
            simp
          repeat (first | exact trivial | refine stp ?_ | refine ldCg ?_ | refine ldNg ?_ | refine ldSg ?_ | refine ldSb ?_ | refine bnd ?_ | refine bnd1 ?_ | refine drawQ (by decide +kernel) mixed (by decide +kernel) ?_)
          refine ldPair hx' ?_
          rw [hke, hve]
          repeat (first | exact trivial | refine stp ?_ | refine ldCg ?_ | refine ldNg ?_ | refine ldSg ?_ | refine ldSb ?_ | refine bnd ?_ | refine bnd1 ?_ | refine drawQ (by decide +kernel) mixed (by decide +kernel) ?_)
          first | refine newS ?_ | refine newZ ?_
          intro w7 hE7 hz7 hB7
          repeat (first | exact trivial | refine stp ?_ | refine ldCg ?_ | refine ldNg ?_ | refine ldSg ?_ | refine ldSb ?_ | refine bnd ?_ | refine bnd1 ?_ | refine drawQ (by decide +kernel) mixed (by decide +kernel) ?_)
          cases hfd : (r.take j).any fun y => decide (y.k = q.k)
          · rw [hfd, Bool.false_or] at htk
            repeat (first | exact trivial | refine stp ?_ | refine ldCg ?_ | refine ldNg ?_ | refine ldSg ?_ | refine ldSb ?_ | refine bnd ?_ | refine bnd1 ?_ | refine drawQ (by decide +kernel) mixed (by decide +kernel) ?_)
            refine ldRowF (f := PR.cells) 0 hq ?_
            rw [hqe]
            repeat (first | exact trivial | refine stp ?_ | refine ldCg ?_ | refine ldNg ?_ | refine ldSg ?_ | refine ldSb ?_ | refine bnd ?_ | refine bnd1 ?_ | refine drawQ (by decide +kernel) mixed (by decide +kernel) ?_)
            refine qcall _ (fun w' hw' => Same_ok p.k q.k _ _ w' (hpk.ext .go) (hqk'.ext .go)) ?_
            repeat (first | exact trivial | refine stp ?_ | refine ldCg ?_ | refine ldNg ?_ | refine ldSg ?_ | refine ldSb ?_ | refine bnd ?_ | refine bnd1 ?_ | refine drawQ (by decide +kernel) mixed (by decide +kernel) ?_)
            intro w8 hE8
            repeat (first | exact trivial | refine stp ?_ | refine ldCg ?_ | refine ldNg ?_ | refine ldSg ?_ | refine ldSb ?_ | refine bnd ?_ | refine bnd1 ?_ | refine drawQ (by decide +kernel) mixed (by decide +kernel) ?_)
            exact ⟨j + 1, ⟨.go, by omega⟩, ⟨by rw [htk], by rw [w64 (by omega) (by omega)]; rfl⟩, by omega⟩
          · rw [hfd, Bool.true_or] at htk
            repeat (first | exact trivial | refine stp ?_ | refine ldCg ?_ | refine ldNg ?_ | refine ldSg ?_ | refine ldSb ?_ | refine bnd ?_ | refine bnd1 ?_ | refine drawQ (by decide +kernel) mixed (by decide +kernel) ?_)
            intro w8 hE8
            repeat (first | exact trivial | refine stp ?_ | refine ldCg ?_ | refine ldNg ?_ | refine ldSg ?_ | refine ldSb ?_ | refine bnd ?_ | refine bnd1 ?_ | refine drawQ (by decide +kernel) mixed (by decide +kernel) ?_)
            exact ⟨j + 1, ⟨.go, by omega⟩, ⟨by rw [htk]; rfl, by rw [w64 (by omega) (by omega)]; rfl⟩, by omega⟩
        · obtain rfl : j = r.length := by omega
          rw [List.take_length]
          have hlst : lastsI (l.drop c) = lastsI r ++ (if (r.any fun y => decide (y.k = q.k)) = true then [] else [q]) := by rw [hdr, lastsI]
          cases hfd : r.any fun y => decide (y.k = q.k)
          · rw [hfd, if_neg (by decide)] at hlst
            obtain ⟨qka, qkc, hqe⟩ := slv_of hqk
            obtain ⟨qva, qvc, hqve⟩ := slv_of hqv
            repeat (first | exact trivial | refine stp ?_ | refine ldCg ?_ | refine ldNg ?_ | refine ldSg ?_ | refine ldSb ?_ | refine bnd ?_ | refine bnd1 ?_ | refine drawQ (by decide +kernel) mixed (by decide +kernel) ?_)
            refine ldPair hq ?_
            rw [hqe, hqve]
            repeat (first | exact trivial | refine stp ?_ | refine ldCg ?_ | refine ldNg ?_ | refine ldSg ?_ | refine ldSb ?_ | refine bnd ?_ | refine bnd1 ?_ | refine drawQ (by decide +kernel) mixed (by decide +kernel) ?_)
            refine ⟨rfl, rfl, ?_⟩
            first | refine newS ?_ | refine newZ ?_
            intro w8 hE8 hz8 hB8
            refine apPairN (us := lastsI r) (p := q) rfl (hO5.ext .go) (by omega) (by rw [hqe, hqve]; exact hB8) (by rw [hqe]; rfl) (by rw [hqve]; rfl) (by omega) (fun a9 c9 w9 hO9 hg9 hE9 => ?_)
            have hz9 := hE9.size
            have hn9 : (lastsI r).length + 1 = (lastsI (l.drop c)).length := by rw [hlst]; simp
            rw [← hlst, hn9] at hO9
            rw [hn9]
            repeat (first | exact trivial | refine stp ?_ | refine ldCg ?_ | refine ldNg ?_ | refine ldSg ?_ | refine ldSb ?_ | refine bnd ?_ | refine bnd1 ?_ | refine drawQ (by decide +kernel) mixed (by decide +kernel) ?_)
            exact ⟨(c, a9, c9), ⟨.go, by simp only; omega, hO9⟩, ⟨rfl, by rw [w64 (by omega) (by omega)]⟩, by simp only; omega⟩
          · rw [hfd, if_pos rfl, List.append_nil] at hlst
            repeat (first | exact trivial | refine stp ?_ | refine ldCg ?_ | refine ldNg ?_ | refine ldSg ?_ | refine ldSb ?_ | refine bnd ?_ | refine bnd1 ?_ | refine drawQ (by decide +kernel) mixed (by decide +kernel) ?_)
            exact ⟨(c, a5, c5), ⟨.go, by simp only; omega, by simp only; rw [hlst]; exact hO5.ext .go⟩, ⟨by simp only; rw [hlst], by rw [w64 (by omega) (by omega)]⟩, by simp only; omega⟩
    · obtain rfl : c = 0 := by omega
      rw [List.drop_zero] at hO5
      have hbl := lastsI_len l
      have hbP : PairsAt w5 (.slice a5 (lastsI l).length c5) (lastsI l) := ⟨SlC.of_own hO5, fun q hq => ⟨(hP3.2 q (lastsI_sub hq)).1.ext .go, (hP3.2 q (lastsI_sub hq)).2.ext .go⟩⟩
      have hbok : ∀ q ∈ lastsI l, q.k.length ≤ 64 ∧ q.v.length ≤ 256 := fun q hq => hlok q (lastsI_sub hq)
      have hhist := fun (m : List It) (oo : List PR) => history_eq (n := nn) (l := l) (others := oo) (m := m) hlok
      clear hO5
      generalize hbk : lastsI l = bk at *
      repeat (first | exact trivial | refine stp ?_ | refine ldCg ?_ | refine ldNg ?_ | refine ldSg ?_ | refine ldSb ?_ | refine bnd ?_ | refine bnd1 ?_ | refine drawQ (by decide +kernel) mixed (by decide +kernel) ?_)
      refine (New_hamt_ok nn w5).mono ?_
      rintro _ w6 ⟨_, hN1, hE6⟩
      have hz6 := hE6.size
      obtain ⟨mv6, rfl, hM6⟩ := hN1 hw
      obtain ⟨b6, rfl⟩ : ∃ b, mv6 = .pointer (some ⟨b, 0, none⟩) := by obtain ⟨b, _, rfl, _⟩ := hM6; exact ⟨b, rfl⟩
      repeat (first | exact trivial | refine stp ?_ | refine ldCg ?_ | refine ldNg ?_ | refine ldSg ?_ | refine ldSb ?_ | refine bnd ?_ | refine bnd1 ?_ | refine drawQ (by decide +kernel) mixed (by decide +kernel) ?_)
      refine loopX (ι := Nat × Nat × List It) (fun x => [(0, .int .i64 nn), (2, .slice oa os.length oc), (7, .slice la l.length lc), (8, .pointer (some ⟨b4, 0, none⟩)), (9, .slice a5 bk.length c5), (14, .pointer (some ⟨x.2.1, 0, none⟩)), (15, .int .i64 0), (16, .int .i64 x.1)])
        (fun x W => Ext w6 W ∧ x.1 ≤ bk.length + os.length ∧ MapAt nn (fun _ => True) W (.pointer (some ⟨x.2.1, 0, none⟩)) x.2.2 ∧ OkI nn x.2.2 ∧ x.2.2.length ≤ 2 * x.1 ∧ ∀ k, getI x.2.2 k ≠ none → (∃ q ∈ bk, q.k = k) ∨ ∃ o ∈ os.filter okP, o.k = k) (fun x => bk.length + os.length - x.1)
        (0, b6, []) ⟨.go, Nat.zero_le _, hM6.mono (fun _ _ => trivial), OkI.nil _, Nat.zero_le _, fun k h => absurd rfl h⟩ ?_ ?_
      · repeat (first | exact trivial | refine stp ?_ | refine ldCg ?_ | refine ldNg ?_ | refine ldSg ?_ | refine ldSb ?_ | refine bnd ?_ | refine bnd1 ?_ | refine drawQ (by decide +kernel) mixed (by decide +kernel) ?_)
        rw [List.drop_zero, hbk]
      · rintro ⟨i, b7, m7⟩ s7 w7 ⟨hE7, hi, hM7, hO7, hl7, hk7⟩
        simp only at hi hM7 hO7 hl7 hk7
        have hz7 := hE7.size
        rw [v_seq]
        refine joinX (κ := Unit) (fun _ => [(0, .int .i64 nn), (2, .slice oa os.length oc), (7, .slice la l.length lc), (8, .pointer (some ⟨b4, 0, none⟩)), (9, .slice a5 bk.length c5), (14, .pointer (some ⟨b7, 0, none⟩)), (15, .int .i64 0), (16, .int .i64 i)]) (fun _ W => Ext w7 W ∧ (i < bk.length ∨ i < os.length)) ?_ ?_
        · repeat (first | exact trivial | refine stp ?_ | refine ldCg ?_ | refine ldNg ?_ | refine ldSg ?_ | refine ldSb ?_ | refine bnd ?_ | refine bnd1 ?_ | refine drawQ (by decide +kernel) mixed (by decide +kernel) ?_)
          refine ⟨fun h1 => ⟨(), Ext.rfl' _, Or.inl (by omega)⟩, fun h1 => ⟨fun h2 => ⟨(), Ext.rfl' _, Or.inr (by omega)⟩, fun h2 => ?_⟩⟩
          have hfo : (os.filter okP).length ≤ os.length := List.length_filter_le _ _
          refine (short_ok os _ w7 (ho.ext .go) (by omega)).mono ?_
          rintro v8 w8 ⟨hP8, hO8s, hE8⟩
          have hz8 := hE8.size
          obtain ⟨a8, c8, rfl⟩ := own_slice hO8s
          clear hO8s
          have hosok : ∀ p ∈ os.filter okP, p.k.length ≤ 64 ∧ p.v.length ≤ 256 := fun p hp => by have := (List.mem_filter.1 hp).2; unfold okP at this; rw [decide_eq_true_eq] at this; omega
          have hfin := hhist m7 (os.filter okP) hO7 hk7 (delAll_ok _ hO7)
          have hrds := fun (W : World) (e : Ext w W) => short_ok os _ W (ho.ext e) (by omega)
          generalize os.filter okP = os' at *
          repeat (first | exact trivial | refine stp ?_ | refine ldCg ?_ | refine ldNg ?_ | refine ldSg ?_ | refine ldSb ?_ | refine bnd ?_ | refine bnd1 ?_ | refine drawQ (by decide +kernel) mixed (by decide +kernel) ?_)
          refine loopX (ι := Nat × Nat) (fun x => [(0, .int .i64 nn), (2, .slice oa os.length oc), (7, .slice la l.length lc), (8, .pointer (some ⟨b4, 0, none⟩)), (9, .slice a5 bk.length c5), (14, .pointer (some ⟨x.2, 0, none⟩)), (166, .slice a8 os'.length c8), (167, .int .i64 os'.length), (168, .int .i64 x.1)])
            (fun x W => Ext w8 W ∧ x.1 ≤ os'.length ∧ MapAt nn (fun _ => True) W (.pointer (some ⟨x.2, 0, none⟩)) (delAll m7 (os'.take x.1))) (fun x => os'.length - x.1) (0, b7) ⟨.go, Nat.zero_le _, hM7.ext .go⟩ ?_ ?_
          · repeat (first | exact trivial | refine stp ?_ | refine ldCg ?_ | refine ldNg ?_ | refine ldSg ?_ | refine ldSb ?_ | refine bnd ?_ | refine bnd1 ?_ | refine drawQ (by decide +kernel) mixed (by decide +kernel) ?_)
          · rintro ⟨j, b9⟩ s9 w9 ⟨hE9, hj, hM9⟩
            simp only at hj hM9
            have hz9 := hE9.size
            have hOd := delAll_ok (os'.take j) hO7
            have hld := delAll_len (os'.take j) m7
            repeat (first | exact trivial | refine stp ?_ | refine ldCg ?_ | refine ldNg ?_ | refine ldSg ?_ | refine ldSb ?_ | refine bnd ?_ | refine bnd1 ?_ | refine drawQ (by decide +kernel) mixed (by decide +kernel) ?_)
            refine ⟨fun hlt => ?_, fun hge => ?_⟩
            · obtain ⟨ob, oo, rfl, hRo⟩ := pr_row hP8.1 (by omega)
              obtain ⟨p, hx⟩ : ∃ x, os'[j]? = some x := ⟨_, List.getElem?_eq_getElem (by omega)⟩
              obtain ⟨hpk, hpv⟩ := hP8.2 p (List.mem_of_getElem? hx)
              have hsh := hosok p (List.mem_of_getElem? hx)
              obtain ⟨ka1, kc1, hke⟩ := slv_of hpk
              obtain ⟨va1, vc1, hve⟩ := slv_of hpv
              rw [hke] at hpk
              have htk : delAll m7 (os'.take (j + 1)) = delI (delAll m7 (os'.take j)) p.k := by
                obtain ⟨h1, h2⟩ := List.getElem?_eq_some_iff.1 hx
                rw [List.take_succ_eq_append_getElem h1, h2, delAll_snoc]
              repeat (first | exact trivial | refine stp ?_ | refine ldCg ?_ | refine ldNg ?_ | refine ldSg ?_ | refine ldSb ?_ | refine bnd ?_ | refine bnd1 ?_ | refine drawQ (by decide +kernel) mixed (by decide +kernel) ?_)
              refine ldPair hx ?_
              rw [hke, hve]
              repeat (first | exact trivial | refine stp ?_ | refine ldCg ?_ | refine ldNg ?_ | refine ldSg ?_ | refine ldSb ?_ | refine bnd ?_ | refine bnd1 ?_ | refine drawQ (by decide +kernel) mixed (by decide +kernel) ?_)
              first | refine newS ?_ | refine newZ ?_
              intro w10 hE10 hz10 hB10
              repeat (first | exact trivial | refine stp ?_ | refine ldCg ?_ | refine ldNg ?_ | refine ldSg ?_ | refine ldSb ?_ | refine bnd ?_ | refine bnd1 ?_ | refine drawQ (by decide +kernel) mixed (by decide +kernel) ?_)
              refine (Delete_hamt_ok nn hw _ _ _ _ p.k w10 (hW.ext .go) (hM9.ext .go) hOd (hpk.ext .go) (by omega)).mono ?_
              rintro _ w11 ⟨⟨rv, rfl, _, hr2⟩, hE11⟩
              have hz11 := hE11.size
              have hM11 := hr2 (by omega)
              clear hr2
              obtain ⟨b11, rfl⟩ : ∃ b, rv = .pointer (some ⟨b, 0, none⟩) := by obtain ⟨b, _, rfl, _⟩ := hM11; exact ⟨b, rfl⟩
              rw [if_neg (show ¬ 64 < p.k.length by omega)]
              repeat (first | exact trivial | refine stp ?_ | refine ldCg ?_ | refine ldNg ?_ | refine ldSg ?_ | refine ldSb ?_ | refine bnd ?_ | refine bnd1 ?_ | refine drawQ (by decide +kernel) mixed (by decide +kernel) ?_)
              exact ⟨(j + 1, b11), ⟨.go, by simp only; omega, by simp only; rw [htk]; exact hM11.mono (fun _ _ => trivial)⟩, ⟨rfl, by rw [w64 (by omega) (by omega)]; rfl⟩, by simp only; omega⟩
            · obtain rfl : j = os'.length := by omega
              rw [List.take_length] at hM9 hOd hld
              generalize delAll m7 os' = m10 at *
              repeat (first | exact trivial | refine stp ?_ | refine ldCg ?_ | refine ldNg ?_ | refine ldSg ?_ | refine ldSb ?_ | refine bnd ?_ | refine bnd1 ?_ | refine drawQ (by decide +kernel) mixed (by decide +kernel) ?_)
              refine loopX (ι := Nat × Nat) (fun x => [(0, .int .i64 nn), (2, .slice oa os.length oc), (7, .slice la l.length lc), (8, .pointer (some ⟨b4, 0, none⟩)), (14, .pointer (some ⟨x.2, 0, none⟩)), (187, .slice a5 bk.length c5), (188, .int .i64 bk.length), (189, .int .i64 x.1)])
                (fun x W => Ext w9 W ∧ x.1 ≤ bk.length ∧ MapAt nn (fun _ => True) W (.pointer (some ⟨x.2, 0, none⟩)) (putAll nn m10 ((bk.take x.1).map PR.dat))) (fun x => bk.length - x.1) (0, b9) ⟨.go, Nat.zero_le _, hM9⟩ ?_ ?_
              · repeat (first | exact trivial | refine stp ?_ | refine ldCg ?_ | refine ldNg ?_ | refine ldSg ?_ | refine ldSb ?_ | refine bnd ?_ | refine bnd1 ?_ | refine drawQ (by decide +kernel) mixed (by decide +kernel) ?_)
              · rintro ⟨i2, b12⟩ s12 w12 ⟨hE12, hi2, hM12⟩
                simp only at hi2 hM12
                have hz12 := hE12.size
                have hO12 : OkI nn (putAll nn m10 ((bk.take i2).map PR.dat)) := hOd.putAll _ (fun p hp => by obtain ⟨q, hq, rfl⟩ := List.mem_map.1 hp; exact hbok q (List.mem_of_mem_take hq))
                have hl12 := putAll_len (n := nn) ((bk.take i2).map PR.dat) m10
                rw [List.length_map, List.length_take] at hl12
                repeat (first | exact trivial | refine stp ?_ | refine ldCg ?_ | refine ldNg ?_ | refine ldSg ?_ | refine ldSb ?_ | refine bnd ?_ | refine bnd1 ?_ | refine drawQ (by decide +kernel) mixed (by decide +kernel) ?_)
                refine ⟨fun hlt => ?_, fun hge => ?_⟩
                · obtain ⟨ob, oo, rfl, hRo⟩ := pr_row hbP.1 (by omega)
                  obtain ⟨p, hx⟩ : ∃ x, bk[i2]? = some x := ⟨_, List.getElem?_eq_getElem (by omega)⟩
                  obtain ⟨hpk, hpv⟩ := hbP.2 p (List.mem_of_getElem? hx)
                  have hsh := hbok p (List.mem_of_getElem? hx)
                  obtain ⟨ka1, kc1, hke⟩ := slv_of hpk
                  obtain ⟨va1, vc1, hve⟩ := slv_of hpv
                  rw [hke] at hpk
                  rw [hve] at hpv
                  have htk : putAll nn m10 ((bk.take (i2 + 1)).map PR.dat) = putI (putAll nn m10 ((bk.take i2).map PR.dat)) ⟨keyD nn p.k, p.k, p.v⟩ := by
                    obtain ⟨h1, h2⟩ := List.getElem?_eq_some_iff.1 hx
                    rw [List.take_succ_eq_append_getElem h1, h2, List.map_append, List.map_cons, List.map_nil, putAll_snoc]
                    rfl
                  repeat (first | exact trivial | refine stp ?_ | refine ldCg ?_ | refine ldNg ?_ | refine ldSg ?_ | refine ldSb ?_ | refine bnd ?_ | refine bnd1 ?_ | refine drawQ (by decide +kernel) mixed (by decide +kernel) ?_)
                  refine ldPair hx ?_
                  rw [hke, hve]
                  repeat (first | exact trivial | refine stp ?_ | refine ldCg ?_ | refine ldNg ?_ | refine ldSg ?_ | refine ldSb ?_ | refine bnd ?_ | refine bnd1 ?_ | refine drawQ (by decide +kernel) mixed (by decide +kernel) ?_)
                  first | refine newS ?_ | refine newZ ?_
                  intro w13 hE13 hz13 hB13
                  repeat (first | exact trivial | refine stp ?_ | refine ldCg ?_ | refine ldNg ?_ | refine ldSg ?_ | refine ldSb ?_ | refine bnd ?_ | refine bnd1 ?_ | refine drawQ (by decide +kernel) mixed (by decide +kernel) ?_)
                  refine (Put_hamt_ok nn hw _ _ _ _ _ p.k p.v w13 (hW.ext .go) (hM12.ext .go) hO12 (hpk.ext .go) (hpv.ext .go) (by omega)).mono ?_
                  rintro _ w14 ⟨⟨rv, rfl, _, hr2⟩, hE14⟩
                  have hz14 := hE14.size
                  have hM14 := hr2 (by omega)
                  clear hr2
                  obtain ⟨b14, rfl⟩ : ∃ b, rv = .pointer (some ⟨b, 0, none⟩) := by obtain ⟨b, _, rfl, _⟩ := hM14; exact ⟨b, rfl⟩
                  rw [if_neg (by omega)]
                  repeat (first | exact trivial | refine stp ?_ | refine ldCg ?_ | refine ldNg ?_ | refine ldSg ?_ | refine ldSb ?_ | refine bnd ?_ | refine bnd1 ?_ | refine drawQ (by decide +kernel) mixed (by decide +kernel) ?_)
                  exact ⟨(i2 + 1, b14), ⟨.go, by simp only; omega, by simp only; rw [htk]; exact hM14.mono (fun _ _ => trivial)⟩, ⟨rfl, by rw [w64 (by omega) (by omega)]; rfl⟩, by simp only; omega⟩
                · obtain rfl : i2 = bk.length := by omega
                  rw [List.take_length] at hM12 hO12
                  rw [hfin, ← hgs] at hM12
                  repeat (first | exact trivial | refine stp ?_ | refine ldCg ?_ | refine ldNg ?_ | refine ldSg ?_ | refine ldSb ?_ | refine bnd ?_ | refine bnd1 ?_ | refine drawQ (by decide +kernel) mixed (by decide +kernel) ?_)
                  refine (hrds w12 .go).mono ?_
                  rintro v15 w15 ⟨hP15, hO15, hE15⟩
                  have hz15 := hE15.size
                  obtain ⟨a15, c15, rfl⟩ := own_slice hO15
                  repeat (first | exact trivial | refine stp ?_ | refine ldCg ?_ | refine ldNg ?_ | refine ldSg ?_ | refine ldSb ?_ | refine bnd ?_ | refine bnd1 ?_ | refine drawQ (by decide +kernel) mixed (by decide +kernel) ?_)
                  have hone : ∀ u ∈ l.flatMap PR.cells, oneCellV u = true := hP3.one
                  refine apS (sz := 2) (n := os'.length) (m := l.length) Tryz.underlying22 z48 c48 rfl (by decide) hO15 (by omega) (hP3.1.ext .go) (prc_len l) hone (by omega) (by rw [by48]; omega) (fun v16 w16 hO16 hg16 => ?_)
                  have hE16 := below_of_grown hO15 (by omega) hg16
                  have hz16 := hE16.size
                  rw [← List.flatMap_append, ← List.length_append] at hO16
                  obtain ⟨a16, c16, rfl⟩ := own_slice hO16
                  have hP16 : PairsAt w16 (.slice a16 (os' ++ l).length c16) (os' ++ l) := ⟨SlC.of_own hO16, fun q hq => by
                    rcases List.mem_append.1 hq with h | h
                    · have := hP8.2 q h
                      exact ⟨this.1.ext .go, this.2.ext .go⟩
                    · have := hP3.2 q h
                      exact ⟨this.1.ext .go, this.2.ext .go⟩⟩
                  repeat (first | exact trivial | refine stp ?_ | refine ldCg ?_ | refine ldNg ?_ | refine ldSg ?_ | refine ldSb ?_ | refine bnd ?_ | refine bnd1 ?_ | refine drawQ (by decide +kernel) mixed (by decide +kernel) ?_)
                  refine (alike_ok nn hw _ _ _ _ _ (grownI nn (l.map PR.dat)) _ w16 (hW.ext .go) (hM4.ext .go) (hM12.ext .go) hOA hP16 (by omega)).mono ?_
                  rintro _ w17 ⟨rfl, hE17⟩
                  have hz17 := hE17.size
                  repeat (first | exact trivial | refine stp ?_ | refine ldCg ?_ | refine ldNg ?_ | refine ldSg ?_ | refine ldSb ?_ | refine bnd ?_ | refine bnd1 ?_ | refine drawQ (by decide +kernel) mixed (by decide +kernel) ?_)
                  exact .go
        · rintro _ s8 w8 ⟨hE8, hor⟩
          have hz8 := hE8.size
          rw [v_seq]
          repeat (first | exact trivial | refine stq ?_ | refine ldCg ?_ | refine ldNg ?_ | refine ldSg ?_ | refine ldSb ?_ | refine bnd ?_ | refine bnd1 ?_)
          rw [v_seq]
          refine joinX (κ := Nat × List It) (fun x => [(0, .int .i64 nn), (2, .slice oa os.length oc), (7, .slice la l.length lc), (8, .pointer (some ⟨b4, 0, none⟩)), (9, .slice a5 bk.length c5), (14, .pointer (some ⟨x.1, 0, none⟩)), (15, .int .i64 0), (16, .int .i64 i)]) (fun x W => Ext w7 W ∧ MapAt nn (fun _ => True) W (.pointer (some ⟨x.1, 0, none⟩)) x.2 ∧ OkI nn x.2 ∧ x.2.length ≤ 2 * i + 1 ∧ ∀ k, getI x.2 k ≠ none → (∃ q ∈ bk, q.k = k) ∨ ∃ o ∈ os.filter okP, o.k = k) ?_ ?_
          · repeat (first | exact trivial | refine stp ?_ | refine ldCg ?_ | refine ldNg ?_ | refine ldSg ?_ | refine ldSb ?_ | refine bnd ?_ | refine bnd1 ?_ | refine drawQ (by decide +kernel) mixed (by decide +kernel) ?_)
            refine ⟨fun h1 => ?_, fun h1 => ?_⟩
            · obtain ⟨ob, oo, rfl, hRo⟩ := pr_row ho.1 (by omega)
              obtain ⟨p, hx⟩ : ∃ x, os[i]? = some x := ⟨_, List.getElem?_eq_getElem (by omega)⟩
              obtain ⟨hpk, hpv⟩ := ho.2 p (List.mem_of_getElem? hx)
              obtain ⟨ka1, kc1, hke⟩ := slv_of hpk
              obtain ⟨va1, vc1, hve⟩ := slv_of hpv
              rw [hke] at hpk
              rw [hve] at hpv
              repeat (first | exact trivial | refine stp ?_ | refine ldCg ?_ | refine ldNg ?_ | refine ldSg ?_ | refine ldSb ?_ | refine bnd ?_ | refine bnd1 ?_ | refine drawQ (by decide +kernel) mixed (by decide +kernel) ?_)
              refine ldRowF (f := PR.cells) 0 hx ?_
              rw [hke]
              repeat (first | exact trivial | refine stp ?_ | refine ldCg ?_ | refine ldNg ?_ | refine ldSg ?_ | refine ldSb ?_ | refine bnd ?_ | refine bnd1 ?_ | refine drawQ (by decide +kernel) mixed (by decide +kernel) ?_)
              refine ldRowF (f := PR.cells) 1 hx ?_
              rw [hve]
              repeat (first | exact trivial | refine stp ?_ | refine ldCg ?_ | refine ldNg ?_ | refine ldSg ?_ | refine ldSb ?_ | refine bnd ?_ | refine bnd1 ?_ | refine drawQ (by decide +kernel) mixed (by decide +kernel) ?_)
              refine qcall _ (fun w' hw' => CheckPairR_ok p.k p.v _ _ w' (hpk.ext .go) (hpv.ext .go)) ?_
              by_cases hc : 64 < p.k.length ∨ 256 < p.v.length
              · rw [if_pos hc]
                repeat (first | exact trivial | refine stp ?_ | refine ldCg ?_ | refine ldNg ?_ | refine ldSg ?_ | refine ldSb ?_ | refine bnd ?_ | refine bnd1 ?_ | refine drawQ (by decide +kernel) mixed (by decide +kernel) ?_)
                intro w9 hE9
                repeat (first | exact trivial | refine stp ?_ | refine ldCg ?_ | refine ldNg ?_ | refine ldSg ?_ | refine ldSb ?_ | refine bnd ?_ | refine bnd1 ?_ | refine drawQ (by decide +kernel) mixed (by decide +kernel) ?_)
                exact ⟨(b7, m7), ⟨.go, hM7.ext .go, hO7, by simp only; omega, hk7⟩, rfl⟩
              · rw [if_neg hc]
                repeat (first | exact trivial | refine stp ?_ | refine ldCg ?_ | refine ldNg ?_ | refine ldSg ?_ | refine ldSb ?_ | refine bnd ?_ | refine bnd1 ?_ | refine drawQ (by decide +kernel) mixed (by decide +kernel) ?_)
                intro w9 hE9
                have hz9 := hE9.size
                repeat (first | exact trivial | refine stp ?_ | refine ldCg ?_ | refine ldNg ?_ | refine ldSg ?_ | refine ldSb ?_ | refine bnd ?_ | refine bnd1 ?_)
                refine drawX (.of [0, 1, 2, 3, 4, 5, 6, 7, 8, 9, 10, 11, 12, 13, 14, 15, 16]) mixed (by decide +kernel) (fun w10 hE10 hz10 => ?_)
                repeat (first | exact trivial | refine stp ?_ | refine ldCg ?_ | refine ldNg ?_ | refine ldSg ?_ | refine ldSb ?_ | refine bnd ?_ | refine bnd1 ?_ | refine drawQ (by decide +kernel) mixed (by decide +kernel) ?_)
                refine ldSg (v := .slice ka1 p.k.length kc1) ?_ (by intro w' hw'; refine stp ?_; exact ldRowF (f := PR.cells) 0 hx rfl (hv := by rw [← hke]; rfl))
                repeat (first | exact trivial | refine stp ?_ | refine ldCg ?_ | refine ldNg ?_ | refine ldSg ?_ | refine ldSb ?_ | refine bnd ?_ | refine bnd1 ?_ | refine drawQ (by decide +kernel) mixed (by decide +kernel) ?_)
                refine ldSg (v := .slice va1 p.v.length vc1) ?_ (by intro w' hw'; refine stp ?_; exact ldRowF (f := PR.cells) 1 hx rfl (hv := by rw [← hve]; rfl))
                repeat (first | exact trivial | refine stp ?_ | refine ldCg ?_ | refine ldNg ?_ | refine ldSg ?_ | refine ldSb ?_ | refine bnd ?_ | refine bnd1 ?_ | refine drawQ (by decide +kernel) mixed (by decide +kernel) ?_)
                refine (Put_hamt_ok nn hw _ _ _ _ m7 p.k p.v w10 (hW.ext .go) (hM7.ext .go) hO7 (hpk.ext .go) (hpv.ext .go) (by omega)).mono ?_
                rintro _ w11 ⟨⟨rv, rfl, _, hr2⟩, hE11⟩
                have hz11 := hE11.size
                have hM11 := hr2 hc
                obtain ⟨b11, rfl⟩ : ∃ b, rv = .pointer (some ⟨b, 0, none⟩) := by obtain ⟨b, _, rfl, _⟩ := hM11; exact ⟨b, rfl⟩
                rw [if_neg hc]
                refine toldX ?_
                have hpl := putI_len m7 ⟨keyD nn p.k, p.k, p.v⟩
                repeat (first | exact trivial | refine stp ?_ | refine ldCg ?_ | refine ldNg ?_ | refine ldSg ?_ | refine ldSb ?_ | refine bnd ?_ | refine bnd1 ?_ | refine drawQ (by decide +kernel) mixed (by decide +kernel) ?_)
                refine ⟨(b11, putI m7 ⟨keyD nn p.k, p.k, p.v⟩), ⟨.go, hM11.mono (fun _ _ => trivial), hO7.put rfl ⟨by simp only; omega, by simp only; omega⟩, by simp only; omega, fun k hk => ?_⟩, rfl⟩
                simp only at hk
                rw [getI_put hO7 rfl] at hk
                by_cases hpk' : p.k = k
                · exact Or.inr ⟨p, List.mem_filter.2 ⟨List.mem_of_getElem? hx, by unfold okP; rw [decide_eq_true_eq]; exact hc⟩, hpk'⟩
                · rw [if_neg hpk'] at hk
                  exact hk7 k hk
            · intro w9 hE9
              exact ⟨(b7, m7), ⟨.go, hM7.ext .go, hO7, by simp only; omega, hk7⟩, rfl⟩
          · rintro ⟨b9, m9⟩ s9 w9 ⟨hE9, hM9, hO9, hl9, hk9⟩
            simp only at hM9 hO9 hl9 hk9
            have hz9 := hE9.size
            repeat (first | exact trivial | refine stp ?_ | refine ldCg ?_ | refine ldNg ?_ | refine ldSg ?_ | refine ldSb ?_ | refine bnd ?_ | refine bnd1 ?_ | refine drawQ (by decide +kernel) mixed (by decide +kernel) ?_)
            refine ⟨fun h1 => ?_, fun h1 => ?_⟩
            · obtain ⟨ob, oo, rfl, hRo⟩ := pr_row hbP.1 (by omega)
              obtain ⟨p, hx⟩ : ∃ x, bk[i]? = some x := ⟨_, List.getElem?_eq_getElem (by omega)⟩
              obtain ⟨hpk, hpv⟩ := hbP.2 p (List.mem_of_getElem? hx)
              have hsh := hbok p (List.mem_of_getElem? hx)
              obtain ⟨ka1, kc1, hke⟩ := slv_of hpk
              obtain ⟨va1, vc1, hve⟩ := slv_of hpv
              rw [hke] at hpk
              rw [hve] at hpv
              refine drawX (.of [0, 1, 2, 3, 4, 5, 6, 7, 8, 9, 10, 11, 12, 13, 14, 15, 16]) mixed (by decide +kernel) (fun w10 hE10 hz10 => ?_)
              repeat (first | exact trivial | refine stp ?_ | refine ldCg ?_ | refine ldNg ?_ | refine ldSg ?_ | refine ldSb ?_ | refine bnd ?_ | refine bnd1 ?_ | refine drawQ (by decide +kernel) mixed (by decide +kernel) ?_)
              refine ldSg (v := .slice ka1 p.k.length kc1) ?_ (by intro w' hw'; refine stp ?_; exact ldRowF (f := PR.cells) 0 hx rfl (hv := by rw [← hke]; rfl))
              repeat (first | exact trivial | refine stp ?_ | refine ldCg ?_ | refine ldNg ?_ | refine ldSg ?_ | refine ldSb ?_ | refine bnd ?_ | refine bnd1 ?_ | refine drawQ (by decide +kernel) mixed (by decide +kernel) ?_)
              refine ldSg (v := .slice va1 p.v.length vc1) ?_ (by intro w' hw'; refine stp ?_; exact ldRowF (f := PR.cells) 1 hx rfl (hv := by rw [← hve]; rfl))
              repeat (first | exact trivial | refine stp ?_ | refine ldCg ?_ | refine ldNg ?_ | refine ldSg ?_ | refine ldSb ?_ | refine bnd ?_ | refine bnd1 ?_ | refine drawQ (by decide +kernel) mixed (by decide +kernel) ?_)
              refine (Put_hamt_ok nn hw _ _ _ _ m9 p.k p.v w10 (hW.ext .go) (hM9.ext .go) hO9 (hpk.ext .go) (hpv.ext .go) (by omega)).mono ?_
              rintro _ w11 ⟨⟨rv, rfl, _, hr2⟩, hE11⟩
              have hz11 := hE11.size
              have hM11 := hr2 (by omega)
              obtain ⟨b11, rfl⟩ : ∃ b, rv = .pointer (some ⟨b, 0, none⟩) := by obtain ⟨b, _, rfl, _⟩ := hM11; exact ⟨b, rfl⟩
              rw [if_neg (by omega)]
              refine toldX ?_
              have hpl := putI_len m9 ⟨keyD nn p.k, p.k, p.v⟩
              repeat (first | exact trivial | refine stp ?_ | refine ldCg ?_ | refine ldNg ?_ | refine ldSg ?_ | refine ldSb ?_ | refine bnd ?_ | refine bnd1 ?_ | refine drawQ (by decide +kernel) mixed (by decide +kernel) ?_)
              refine ⟨(i + 1, b11, putI m9 ⟨keyD nn p.k, p.k, p.v⟩), ⟨.go, by simp only; omega, hM11.mono (fun _ _ => trivial), hO9.put rfl hsh, by simp only; omega, fun k hk => ?_⟩, ⟨rfl, by rw [w64 (by omega) (by omega)]; rfl⟩, by simp only; omega⟩
              simp only at hk
              rw [getI_put hO9 rfl] at hk
              by_cases hpk' : p.k = k
              · exact Or.inl ⟨p, List.mem_of_getElem? hx, hpk'⟩
              · rw [if_neg hpk'] at hk
                exact hk9 k hk
            · exact ⟨(i + 1, b9, m9), ⟨.go, by simp only; omega, hM9, hO9, by simp only; omega, hk9⟩, ⟨rfl, by rw [w64 (by omega) (by omega)]; rfl⟩, by simp only; omega⟩
end Go.Proofs.YtieaoldoiahgpaaGreatDoor

/-! Row -/
namespace Go.Proofs.YtieaoldoiahgpaaGreatDoor
set_option maxRecDepth 100000
open Go Go.RowKit Go.ChangeShapes Go.WideShapes Go.ChangeAt
set_option linter.unusedVariables false
set_option linter.unusedSimpArgs false

/-- Each of the types can be read and is a row of the table. -/
def rowedT (P : Program) (ts : List TypeId) : Bool := ts.all fun t => P.readableRec t && decide (t < P.types.size)

theorem below_trodAll {H : Type} {enc : TypeId × Value → H} {P : Program} (hl : laidOutB P = true) {W W' : World} (hb : Below W.heap.size W W') :
    ∀ {ts : List TypeId} {vs : List Value} {ds : List (DataW H)} {ps : List MemPlace}, rowedT P ts = true → DataW.TrodAll enc P W 0 (fun _ => true) true ts vs ds ps → (∀ x ∈ ps, x.block < W.heap.size) → DataW.TrodAll enc P W' 0 (fun b => decide (b < W.heap.size)) true ts vs ds ps
  | [], [], [], _, _, h, _ => h
  | [], _ :: _, _, _, _, h, _ => by simp [DataW.TrodAll] at h
  | [], [], _ :: _, _, _, h, _ => by simp [DataW.TrodAll] at h
  | _ :: _, [], _, _, _, h, _ => by simp [DataW.TrodAll] at h
  | _ :: _, _ :: _, [], _, _, h, _ => by simp [DataW.TrodAll] at h
  | t :: ts, v :: vs, d :: ds, ps, hr, h, hlt => by
    obtain ⟨p, q, h1, h2, rfl⟩ := h
    simp only [rowedT, List.all_cons, Bool.and_eq_true, decide_eq_true_eq] at hr
    refine ⟨p, q, Below.trod hl hr.1.1 hr.1.2 h1 hb (fun x hx => hlt x (by simp [hx])), below_trodAll hl hb (by simpa [rowedT] using hr.2) h2 (fun x hx => hlt x (by simp [hx])), rfl⟩

/-- What a law's row asks of the end, given what the walk says: true, and nothing old has turned. -/
theorem law_post {H : Type} {enc : TypeId × Value → H} {P : Program} (hl : laidOutB P = true) {f : Func} {s : ChangeSpec} {tb : TypeId} (hr : f.resultTypes = #[tb]) (hb : P.underlying tb = some .bool)
    (hp : rowedT P f.params.toList = true) (hv : s.vars = []) {W W' : World} {args : Array Value} {ds gs : List (DataW H)} {before : List MemPlace}
    (hW : DataW.Whole enc P f.params.toList s.vars false W args.toList ds gs before)
    (hfn : (s.fn H (ds ++ gs)).results = [.lit (.bool true)] ∧ (s.fn H (ds ++ gs)).args = ds ∧ (s.fn H (ds ++ gs)).vars = gs) (hE : Ext W W') :
    s.post enc P f false true false false W args (.bool true) W' := by
  have hW' := hW
  obtain ⟨p, q, hA, hV, rfl, hfz, hnd⟩ := hW
  refine ⟨ds, gs, p ++ q, [], p, q, hW', ?_, ?_, ?_, hE.frame _, fun h => by cases h⟩
  · rw [hfn.1, hr]
    exact trodAll_cons_mk (shut_bool hb _) trodAll_mk0
  · rw [hfn.2.1]
    exact below_trodAll hl hE hp hA (fun x hx => by simpa using hW'.lt x (by simp [hx]))
  · rw [hfn.2.2]
    rw [hv] at hV ⊢
    obtain ⟨rfl, rfl⟩ := trodVars_none hV
    rfl

theorem CallK.toCalls {P : Program} {f : FuncId} {args : Array Value} {w : World} (h : CallK P f args w fun v w' => v = .bool true ∧ Ext w w') (hb : callable P f = true) : Calls P f args w fun e w' => e = .returned (.bool true) ∧ Ext w w' :=
  (h.body hb).calls.mono fun e w' ⟨v, he, hv, hE⟩ => ⟨by rw [he, hv], hE⟩

/-! ### Arguments opened -/
theorem wf_bounds {k : IntKind} {n : Int} (h : (Lit.int k n).wf = true) : k.min ≤ n ∧ n ≤ k.max := by
  simpa [Lit.wf] using h
theorem cells_u8 {H : Type} {enc : TypeId × Value → H} {P : Program} {w : World} {base : Nat} {sp : Nat → Bool} {held : Bool} {fuel e : Nat} {c : List Value} {x : DataW H × List MemPlace} (he : P.underlying e = some (.int .u8))
    (h : DataW.trod enc P w base sp held fuel e c = some x) : ∃ b : UInt8, c = [vb b] := by
  obtain ⟨n, h1, hx, hw⟩ := DataW.trod_int he h
  have hb := wf_bounds hw
  simp [IntKind.min, IntKind.max, IntKind.signed, IntKind.bits] at hb
  refine ⟨UInt8.ofNat n.toNat, ?_⟩
  rw [h1]
  simp only [vb, UInt8.toNat_ofNat', List.cons.injEq, and_true]
  rw [Nat.mod_eq_of_lt (by omega), Int.toNat_of_nonneg hb.1]

theorem open_num {H : Type} {enc : TypeId × Value → H} {P : Program} {w : World} {base b0 : Nat} {r : Reach} {sp : Nat → Bool} {held : Bool} {t : Nat} {k : IntKind} {v : Value} {d : DataW H} {ps : List MemPlace} (ht : P.underlying t = some (.int k))
    (hval : Value.okWide P w r b0 t v) (hd : DataW.Trod enc P w base sp held t v d ps) : ∃ n : Int, v = .int k n ∧ k.min ≤ n ∧ n ≤ k.max := by
  obtain ⟨n, rfl, _, _, h⟩ := open_int ht hval hd
  exact ⟨n, rfl, wf_bounds h⟩

theorem list_of {α : Type} {p : Nat → α → Prop} : ∀ n, (∀ i, i < n → ∃ x, p i x) → ∃ l : List α, l.length = n ∧ ∀ i x, l[i]? = some x → p i x
  | 0, _ => ⟨[], rfl, by simp⟩
  | n + 1, h => by
    obtain ⟨l, hl, hp⟩ := list_of n (fun i hi => h i (by omega))
    obtain ⟨x, hx⟩ := h n (by omega)
    refine ⟨l ++ [x], by simp [hl], fun i y hy => ?_⟩
    by_cases hi : i < n
    · rw [List.getElem?_append_left (by omega)] at hy; exact hp i y hy
    · rw [List.getElem?_append_right (by omega)] at hy
      have : i - l.length = 0 := by
        rcases Nat.eq_zero_or_pos (i - l.length) with h0 | h0
        · exact h0
        · rw [List.getElem?_eq_none (by simp; omega)] at hy; cases hy
      have e : i = n := by omega
      rw [this] at hy
      simp at hy
      rw [e, ← hy]; exact hx
theorem flat_inv {α : Type} {f : α → List Value} {sz : Nat} (hz : 0 < sz) : ∀ (ds : List α) (j : Nat) (u : Value), (∀ d ∈ ds, (f d).length = sz) → (ds.flatMap f)[j]? = some u → ∃ d, ds[j / sz]? = some d ∧ (f d)[j % sz]? = some u
  | [], j, u, _, h => by simp at h
  | x :: ds, j, u, hs, h => by
    have hx : (f x).length = sz := hs x (by simp)
    simp only [List.flatMap_cons] at h
    by_cases hj : j < sz
    · rw [List.getElem?_append_left (by omega)] at h
      exact ⟨x, by rw [Nat.div_eq_of_lt hj]; rfl, by rw [Nat.mod_eq_of_lt hj]; exact h⟩
    · rw [List.getElem?_append_right (by omega), hx] at h
      obtain ⟨d, h1, h2⟩ := flat_inv hz ds (j - sz) u (fun d hd => hs d (by simp [hd])) h
      refine ⟨d, ?_, ?_⟩
      · rw [Nat.div_eq_sub_div hz (by omega)]; exact h1
      · rw [show j % sz = (j - sz) % sz from by rw [Nat.mod_eq_sub_mod (by omega)]]; exact h2

end Go.Proofs.YtieaoldoiahgpaaGreatDoor

/-! RowU -/
namespace Go.Proofs.YtieaoldoiahgpaaGreatDoor
set_option maxRecDepth 100000
open Go Go.RowKit Go.ChangeShapes Go.WideShapes Go.ChangeAt
set_option linter.unusedVariables false
set_option linter.unusedSimpArgs false

/-! ### Bulk -/
theorem bulk_one {H : Type} (d : DataW H) : 1 ≤ Rows.uptoBulk d := by
  cases d with
  | lit l => cases l <;> simp [Rows.uptoBulk]
  | nil => simp [Rows.uptoBulk]
  | ptr d => simp [Rows.uptoBulk]
  | slice elems spare => simp [Rows.uptoBulk]
  | agg parts => simp [Rows.uptoBulk]
  | iface t d => simp [Rows.uptoBulk]
  | map entries => simp [Rows.uptoBulk]
  | held h => simp [Rows.uptoBulk]
theorem bulk_mem {H : Type} {d : DataW H} {l : List (DataW H)} (h : d ∈ l) : Rows.uptoBulk d ≤ Rows.uptoBulkAll l := by
  induction l with
  | nil => cases h
  | cons x r ih =>
    simp only [Rows.uptoBulkAll]
    cases List.mem_cons.1 h with
    | inl e => subst e; omega
    | inr e => have := ih e; omega
theorem bulk_len {H : Type} (l : List (DataW H)) : l.length ≤ Rows.uptoBulkAll l := by
  induction l with
  | nil => simp [Rows.uptoBulkAll]
  | cons x r ih => have := bulk_one x; simp only [Rows.uptoBulkAll, List.length_cons]; omega
theorem bulk_agg {H : Type} {d : DataW H} {l : List (DataW H)} (h : d ∈ l) : Rows.uptoBulk d ≤ Rows.uptoBulk (.agg l) := by
  have := bulk_mem h
  simp only [Rows.uptoBulk]
  omega
theorem bulk_small {H : Type} {l : List (DataW H)} (hk : Rows.uptoSmall H l = true) : Rows.uptoBulkAll l ≤ 1048576 := by
  simpa [Rows.uptoSmall] using hk

/-! ### Lists opened, wherever they lie -/
section opened
variable {H : Type} {enc : TypeId × Value → H} {w : World} {sp : Nat → Bool} {fuel : Nat} {cs : List Value} {x : DataW H × List MemPlace}
theorem open_slb {α : Type} {f : α → List Value} {q : Nat → α → Prop} {P : Program} {t e sz : Nat} (ht : P.underlying t = some (.slice e)) (hsz : P.cellsOf e = sz) (hz : 0 < sz) (hq : ∀ m n a, m ≤ n → q m a → q n a)
    (hel : ∀ n cs x, DataW.trod enc P w 0 sp true n e cs = some x → ∃ a, f a = cs ∧ q (Rows.uptoBulk x.1) a) (hf : DataW.trod enc P w 0 sp true fuel t cs = some x) :
    ∃ (v : Value) (l : List α), cs = [v] ∧ (∀ a ∈ l, (f a).length = sz) ∧ SlC w v l.length (l.flatMap f) ∧ l.length ≤ Rows.uptoBulk x.1 ∧ ∀ a ∈ l, q (Rows.uptoBulk x.1) a := by
  rcases Go.Deep.open_slice ht hf with ⟨h1, h2⟩ | ⟨a, len, cap, m, n, D, Pl, h1, hb, hlc, hcm, hmm, hx, hall⟩
  · exact ⟨_, [], h1, by simp, ⟨none, 0, rfl, Nat.le_refl _, by decide, Or.inl rfl⟩, by simp, by simp⟩
  · have hlm : len ≤ m := by rw [hmm]; split <;> omega
    have hcm' : cap ≤ 9223372036854775807 := by simpa [maxLen] using hcm
    have hD : ∀ i, i < len → Rows.uptoBulk (D i) ≤ Rows.uptoBulk x.1 := by
      intro i hi
      rw [hx]
      simp only [Rows.uptoBulk]
      have := bulk_mem (d := D i) (l := (List.range len).map D) (List.mem_map.2 ⟨i, by simpa using hi, rfl⟩)
      omega
    have hlen : len ≤ Rows.uptoBulk x.1 := by
      rw [hx]
      simp only [Rows.uptoBulk]
      have := bulk_len ((List.range len).map D)
      simp at this
      omega
    by_cases h0 : len = 0
    · subst h0
      exact ⟨_, [], h1, by simp, ⟨_, cap, rfl, Nat.zero_le _, hcm', Or.inl rfl⟩, by simp, by simp⟩
    · obtain ⟨b, o, s⟩ := a
      have hspot : s = none := by
        obtain ⟨cs', hc, _⟩ := hall 0 (by omega)
        obtain ⟨_, hlen', hcell⟩ := World.cells?_some hc
        have h3 := hcell 0 (by omega)
        rw [hsz] at h3 hlen'
        cases s with
        | none => rfl
        | some s =>
          exfalso
          have h4 : w.cell? ⟨b, o, some s⟩ = cs'[0]? := by
            have : ((⟨b, o, some s⟩ : Addr).add (0 * sz)).add 0 = ⟨b, o, some s⟩ := by simp [Addr.add]
            rw [← this]
            exact h3
          rw [List.getElem?_eq_getElem (by omega)] at h4
          simp only [World.cell?] at h4
          split at h4 <;> simp at h4
      subst hspot
      obtain ⟨l, hl, hp⟩ := list_of (p := fun i (y : α) => (f y).length = sz ∧ (∀ k u, (f y)[k]? = some u → w.cell? ⟨b, o + (i * sz + k), none⟩ = some u) ∧ q (Rows.uptoBulk x.1) y) len (fun i hi => by
        obtain ⟨cs', hc, ht2⟩ := hall i (by omega)
        obtain ⟨y, rfl, hqy⟩ := hel _ _ _ ht2
        obtain ⟨_, hlen', hcell⟩ := World.cells?_some hc
        rw [hsz] at hlen' hcell
        refine ⟨y, hlen', fun k u hk => ?_, hq _ _ _ (hD i hi) hqy⟩
        have hk' : k < sz := by rw [← hlen']; exact (List.getElem?_eq_some_iff.1 hk).1
        have h5 := hcell k hk'
        rw [addr_add, addr_add, hk] at h5
        rwa [Nat.add_assoc] at h5)
      subst h1
      refine ⟨_, l, rfl, fun y hy => ?_, ⟨_, cap, by rw [hl], by omega, hcm', Or.inr ⟨b, o, rfl, fun j u hj => ?_⟩⟩, by omega, fun y hy => ?_⟩
      · obtain ⟨i, hi⟩ := List.getElem?_of_mem hy
        exact (hp i y hi).1
      · obtain ⟨y, h1, h2⟩ := flat_inv hz l j u (fun y hy => by obtain ⟨i, hi⟩ := List.getElem?_of_mem hy; exact (hp i y hi).1) hj
        have := (hp _ y h1).2.1 _ u h2
        rwa [show j / sz * sz + j % sz = j from by rw [Nat.mul_comm]; exact Nat.div_add_mod j sz] at this
      · obtain ⟨i, hi⟩ := List.getElem?_of_mem hy
        exact (hp i y hi).2.2
theorem vb_flat (l : List UInt8) : l.flatMap (fun b => [vb b]) = vbs l := by
  induction l with
  | nil => rfl
  | cons a l ih => simp only [List.flatMap_cons, ih]; rfl
theorem in_bytes (hf : DataW.trod enc Tryz.prog w 0 sp true fuel 23 cs = some x) : ∃ v xs, cs = [v] ∧ SlB w v xs ∧ xs.length ≤ Rows.uptoBulk x.1 := by
  obtain ⟨v, l, h1, _, h3, h4, _⟩ := open_slb (f := fun b => [vb b]) (q := fun _ _ => True) Tryz.underlying23 c5 (by decide) (fun _ _ _ _ h => h) (fun m cs x h => by obtain ⟨y, rfl⟩ := cells_u8 Tryz.underlying5 h; exact ⟨y, rfl, trivial⟩) hf
  rw [vb_flat] at h3
  exact ⟨v, l, h1, h3, h4⟩
theorem in_pair (hf : DataW.trod enc Tryz.prog w 0 sp true fuel 48 cs = some x) : ∃ p : PR, p.cells = cs ∧ SlB w p.kv p.k ∧ SlB w p.vv p.v ∧ p.k.length ≤ Rows.uptoBulk x.1 ∧ p.v.length ≤ Rows.uptoBulk x.1 := by
  obtain ⟨y0, y1, n, rfl, hl, h0, h1⟩ := trod_struct2 Tryz.underlying48 hf
  rw [c48] at hl
  simp only [c23] at h0 h1
  obtain ⟨u, xs, e0, hu, hb0⟩ := in_bytes h0
  obtain ⟨v, ys, e1, hv, hb1⟩ := in_bytes h1
  refine ⟨⟨u, v, xs, ys⟩, ?_, hu, hv, Nat.le_trans hb0 (bulk_agg (by simp)), Nat.le_trans hb1 (bulk_agg (by simp))⟩
  match cs, hl with
  | [a, b], _ =>
    simp at e0 e1
    simp only [PR.cells, e0, e1]
theorem in_pairs (hf : DataW.trod enc Tryz.prog w 0 sp true fuel 22 cs = some x) : ∃ v ps, cs = [v] ∧ PairsAt w v ps ∧ ps.length ≤ Rows.uptoBulk x.1 ∧ ∀ p ∈ ps, p.k.length ≤ Rows.uptoBulk x.1 ∧ p.v.length ≤ Rows.uptoBulk x.1 := by
  obtain ⟨v, l, h1, h2, h3, h4, h5⟩ := open_slb (f := PR.cells) (q := fun m p => SlB w p.kv p.k ∧ SlB w p.vv p.v ∧ p.k.length ≤ m ∧ p.v.length ≤ m) Tryz.underlying22 c48 (by decide) (fun m n a h g => ⟨g.1, g.2.1, Nat.le_trans g.2.2.1 h, Nat.le_trans g.2.2.2 h⟩) (fun m cs x h => by obtain ⟨s, e, g⟩ := in_pair h; exact ⟨s, e, g⟩) hf
  exact ⟨v, l, h1, ⟨h3, fun s hs => ⟨(h5 s hs).1, (h5 s hs).2.1⟩⟩, h4, fun s hs => (h5 s hs).2.2⟩

end opened

end Go.Proofs.YtieaoldoiahgpaaGreatDoor

/-! RowW -/
namespace Go.Proofs.YtieaoldoiahgpaaGreatDoor
set_option maxRecDepth 100000
open Go Go.RowKit Go.ChangeShapes Go.WideShapes Go.ChangeAt
set_option linter.unusedVariables false
set_option linter.unusedSimpArgs false

section opened
variable {H : Type} {enc : TypeId × Value → H} {w : World} {sp : Nat → Bool} {r : Reach} {b0 : Nat} {v : Value} {d : DataW H} {p : List MemPlace}
theorem open_prs (hval : Value.okWide Tryz.prog w r b0 22 v) (hd : DataW.Trod enc Tryz.prog w 0 sp true 22 v d p) : ∃ ps, PairsAt w v ps ∧ ps.length ≤ Rows.uptoBulk d ∧ ∀ q ∈ ps, q.k.length ≤ Rows.uptoBulk d ∧ q.v.length ≤ Rows.uptoBulk d := by
  obtain ⟨a0, len0, cap0, rfl⟩ := okWide_slice Tryz.underlying22 hval
  obtain ⟨fuel, hf⟩ := hd
  obtain ⟨u, ps, h1, h2, h3⟩ := in_pairs hf
  simp [Value.cells] at h1
  subst h1
  exact ⟨ps, h2, h3⟩
end opened

/-! ### The table -/
theorem gTab : Tryz.prog.globalNamed "notary/sha.words" = some 0 := by kernel_rfl
theorem gTabType : (Tryz.prog.globals[0]?).map (·.type) = some 187 := by kernel_rfl
theorem tab_eq {H : Type} : (Rows.laid_notary_sha_words : DataW H) = Lib.tabData .u32 (KW.map fun x => (x.toNat : Int)) := by kernel_rfl
theorem words_of {W : World} (h : laidMetH Tryz.prog [("notary/sha.words", Rows.laid_notary_sha_words)] W) : WordsAt W 0 := by
  have h' : laidMetH Tryz.prog [("notary/sha.words", Lib.tabData .u32 (KW.map fun x => (x.toNat : Int)))] W := by
    rw [← tab_eq]
    exact h
  have ht := Lib.tabIs_of_head (rest := []) gTab gTabType Tryz.underlying187 Tryz.underlying169 c169 c187 h'
  intro j hj
  have hc := ht.cell gTab j (by rw [List.length_map]; exact hj)
  rw [hc]
  have hl : j < KW.length := hj
  simp only [vw, List.getD_eq_getElem?_getD, List.getElem?_map, List.getElem?_eq_getElem hl, Option.map_some, Option.getD_some]

end Go.Proofs.YtieaoldoiahgpaaGreatDoor
