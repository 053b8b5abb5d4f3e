/-
  WholeShown: the walk. Conditions: as stated in each theorem. The frame of the rows: a law's row out of its walk, whatever its parameters; digests and numbers opened. Conditions: none; plain lemmas. The frame of rows that list the table and bound the bulk: questions (structs with lists of structs) opened, with their sizes; the table out of the row's list. Conditions: none; plain lemmas. The frame of rows: parameters opened; the table of SHA-256. Conditions: none; plain lemmas. The frame of rows: entries opened. Conditions: none; plain lemmas.
-/
import Derived.Test.YthlkfjoibjhaiaaGreatDoorMWholeShown11
import Derived.Test.YthlkfjoibjhaiaaGreatDoorMWholeShown12
import Derived.Test.YthlkfjoibjhaiaaGreatDoorMWholeShown7
import Derived.Deep.Slices
import Derived.Test.YthlkfjoibjhaiaaGreatDoorMWholeShown10
import Derived.Lib.LaidTab
import Derived.Lib.SmallJoins
import Derived.Test.YthlkfjoibjhaiaaGreatDoorMWholeShown8
import Derived.Deep.Strs
/-! Topf -/
namespace Go.Proofs.YthlkfjoibjhaiaaGreatDoor
set_option maxRecDepth 100000
set_option maxHeartbeats 2000000
open Go Go.RowKit
set_option linter.unusedVariables false
set_option linter.unusedSimpArgs false
set_option maxHeartbeats 1000000
attribute [local irreducible] vcT opsT qT vcOp Q1 vcPure vcLoad vcStore ldC ldN ldD grdT grdQ vc vcOps vcQ hT
attribute [local irreducible] sumR sumP shaP keyD bucketP branchP

theorem PathI.kids {n : Nat} (hw : widB n = true) {m : List It} (hO : OkI n m) {key : List UInt8} {ss : List SR} {ps : List PR} (h : PathI n m key ss ps) : kidsP n ss := by
  obtain ⟨hst, _, _⟩ := walk_spec hw (keyD n key) 64 0 m hO hO.pre rfl
  intro s hs d hd
  obtain ⟨i, hi⟩ := List.getElem?_of_mem hs
  have h1 := h.steps
  have hL : (walkI n (keyD n key) 64 0 m).1.length = ss.length := by have := congrArg List.length h1; rw [List.length_map, cutS_len] at this; exact this.symm
  obtain ⟨q1, _⟩ := hst i (by rw [hL]; exact (List.getElem?_eq_some_iff.1 hi).1)
  have h3 := congrArg (·[i]?) h1
  simp only [List.getElem?_map, hi, cutS_get, q1, Nat.zero_add, Option.map_some, Option.some.injEq, SR.dt, Prod.mk.injEq] at h3
  rw [h3.2] at hd
  have hd' := cutK_mem d hd
  unfold kidsI at hd'
  obtain ⟨c, _, rfl⟩ := List.mem_map.1 hd'
  exact form_node n hw _ _ _
/-- A path with one more step, of no child, is no path. -/
theorem longer_err {n : Nat} (hw : widB n = true) {key : List UInt8} (hkl : key.length ≤ 64) {ss : List SR} {ps : List PR} (hk : kidsP n ss) {s : SR} (h0 : s.bm = 0) (hs : s.ks = []) {e : Nat} (hR : RootE n key (ss ++ [s]) ps e) : e = 10 := by
  refine hR.2.2.2.1 hw hkl ?_ ?_
  · intro t ht d hd
    rcases List.mem_append.1 ht with ht | ht
    · exact hk t ht d hd
    · rw [List.mem_singleton] at ht
      subst ht
      rw [hs] at hd
      cases hd
  · rintro ⟨⟨_, h⟩, _⟩
    have h1 := h ss.length s (by simp)
    exact h1.1 (by rw [h0]; decide)
theorem Shown_ok (m8 : Nat) (h8 : m8 < 256) (es : List EnR) (ev pv : Value) (probe : List UInt8) (pk : Nat) (hpk : pk < 65536) (w : World) (hW : WordsAt w 1) (he : EnsAt w ev es) (hp : SlB w pv probe) (hl : es.length ≤ 80000000) :
    CallK Tryz.prog 6 [.int .u8 m8, ev, pv, .int .u16 pk].toArray w fun v w' => v = .bool true ∧ Ext w w' := by
  obtain ⟨ea, ec, rfl⟩ := slv_of he.1
  obtain ⟨pa, pc, rfl⟩ := slv_of hp
  refine enterT Tryz.func6 rfl Tryz.ntmps6 Tryz.results6 rfl (by decide) ?_
  repeat (first | exact trivial | refine stpg ?_)
  refine (tWidth_ok m8 h8 w).mono ?_
  rintro _ w1 ⟨rfl, hE1⟩
  have hz1 := hE1.size
  obtain ⟨n, hn⟩ : ∃ n : Nat, n = 1 + m8 % 32 := ⟨_, rfl⟩
  rw [← hn]
  have hw : widB (n : Int) = true := (widB_iff n).2 (by omega)
  repeat (first | exact trivial | refine stpg ?_)
  refine ⟨rfl, ⟨rfl, rfl, rfl, rfl, rfl⟩, convN (xs := [102, 105, 114, 115, 116]) rfl rfl (by decide) (fun w2 hE2 hz2 hS2 => ?_)⟩
  repeat (first | exact trivial | refine stpg ?_)
  refine ⟨rfl, rfl, convN (xs := [49]) rfl rfl (by decide) (fun w3 hE3 hz3 hS3 => ?_)⟩
  repeat (first | exact trivial | refine stpg ?_)
  refine bldC [.int .u8 1, .slice (some ⟨w1.heap.size, 0, none⟩) 5 5, .slice (some ⟨w2.heap.size, 0, none⟩) 1 1] (by kernel_rfl) ?_
  repeat (first | exact trivial | refine stpg ?_)
  refine ⟨rfl, rfl, ?_⟩
  first | refine newS ?_ | refine newZ ?_
  intro w4 hE4 hz4 hB4
  repeat (first | exact trivial | refine stpg ?_)
  obtain ⟨fst, hfst⟩ : ∃ e : EnR, e = ⟨1, .slice (some ⟨w1.heap.size, 0, none⟩) 5 5, .slice (some ⟨w2.heap.size, 0, none⟩) 1 1, [102, 105, 114, 115, 116], [49]⟩ := ⟨_, rfl⟩
  have hO4 : Own w4 w3.heap.size 90 3 (.slice (some ⟨w3.heap.size, 0, none⟩) 1 1) 1 ([fst].flatMap EnR.cells) := by rw [hfst]; exact own_mk (rest := []) (by rw [List.append_nil]; exact hB4) (Nat.le_refl _) rfl rfl (Nat.le_refl _) (by decide)
  have hec : (es.flatMap EnR.cells).length = es.length * 3 := by
    have : ∀ l : List EnR, (l.flatMap EnR.cells).length = l.length * 3 := by
      intro l
      induction l with
      | nil => rfl
      | cons a l ih => rw [List.flatMap_cons, List.length_append, ih]; simp [EnR.cells]; omega
    exact this es
  refine apS (sz := 3) (n := 1) (m := es.length) Tryz.underlying84 z90 c90 rfl (by decide) hO4 (by omega) (he.1.ext .go) hec (fun u hu => by
    obtain ⟨e, hem, hu⟩ := List.mem_flatMap.1 hu
    obtain ⟨_, h1, h2⟩ := he.2 e hem
    obtain ⟨_, _, e1⟩ := slv_of h1
    obtain ⟨_, _, e2⟩ := slv_of h2
    unfold EnR.cells at hu
    rw [e1, e2] at hu
    simp only [List.mem_cons, List.not_mem_nil, or_false] at hu
    rcases hu with rfl | rfl | rfl <;> rfl) (by omega) (by rw [by90]; omega) (fun v5 w5 hO5 hg5 => ?_)
  have hE5 := below_of_grown hO4 (by omega) hg5
  have hz5 := hE5.size
  have hE35 : Ext w3 w5 := hE4.trans hE5
  rw [show 1 + es.length = (fst :: es).length from by simp; omega, show [fst].flatMap EnR.cells ++ es.flatMap EnR.cells = (fst :: es).flatMap EnR.cells from by simp] at hO5
  have heE : EnsAt w5 v5 (fst :: es) := by
    refine ⟨SlC.of_own hO5, fun e hem => ?_⟩
    rcases List.mem_cons.1 hem with rfl | hem
    · rw [hfst]
      exact ⟨by simp only; omega, hS2.ext .go, hS3.ext .go⟩
    · exact ⟨(he.2 e hem).1, (he.2 e hem).2.1.ext .go, (he.2 e hem).2.2.ext .go⟩
  obtain ⟨va5, vc5, rfl⟩ := own_slice hO5
  have hel : (fst :: es).length ≤ 80000001 := by simp; omega
  generalize fst :: es = es' at *
  repeat (first | exact trivial | refine stpg ?_)
  refine (mapped_ok n hw es' _ w5 (hW.ext .go) heE (by omega)).mono ?_
  rintro _ w7 ⟨⟨b7, bb7, B, rv, rfl, hM7, hB7, hR, hbb⟩, hE7⟩
  have hz7 := hE7.size
  have hml := entsI_len n es' es'.length
  rw [List.take_length] at hml
  have hO := hR.ok
  have hBl : B.length = (entsI n es').length := hR.len.symm
  generalize entsI n es' = m at *
  have hB7' := hB7
  obtain ⟨⟨ra, rc, rfl, hBk7, hOr7⟩, hBm⟩ := hB7'
  repeat (first | exact trivial | refine stpg ?_)
  refine (tShort_ok probe 64 (by decide) _ w7 (hp.ext .go)).mono ?_
  rintro _ w8 ⟨⟨ka, kc, rfl⟩, hSk, hE8⟩
  have hz8 := hE8.size
  have hk0 := hSk w hp
  have hkl : (probe.take 64).length ≤ 64 := by rw [List.length_take]; omega
  generalize probe.take 64 = key0 at *
  have hBk : ∀ p ∈ B, p.k.length ≤ 64 := fun p hp => by
    obtain ⟨i, hi⟩ := List.getElem?_of_mem hp
    have h1 := bget_at hR.once hi
    rw [← hR.all] at h1
    obtain ⟨y, hy, hyk, _⟩ := getI_some_mem h1
    have := hO.short y hy
    rw [hyk] at this
    omega
  repeat (first | exact trivial | refine stq ?_ | refine ldCg ?_ | refine ldNg ?_ | refine ldSg ?_ | refine ldSb ?_ | refine bnd ?_ | refine bnd1 ?_)
  rw [v_seq]
  refine joinX (κ := Option Addr × Nat × List UInt8) (fun x => [(9, .int .i64 n), (10, .pointer (some ⟨b7, 0, none⟩)), (11, .pointer (some ⟨bb7, 0, none⟩)), (12, .slice x.1 x.2.2.length x.2.1)])
    (fun x W => Ext w8 W ∧ SlB W (.slice x.1 x.2.2.length x.2.1) x.2.2 ∧ x.2.2.length ≤ 64) ?_ ?_
  · repeat (first | exact trivial | refine stpg ?_)
    refine ⟨fun hpos => ⟨fun heven => ?_, fun hodd => ?_⟩, fun hz => ?_⟩
    · refine drawX (.of [0, 1, 2, 3, 4, 5, 6, 7, 8, 9, 10, 11, 12, 13, 14, 15, 16]) mixed (by decide +kernel) (fun w9 hE9 hz9 => ?_)
      repeat (first | exact trivial | refine stp ?_ | refine ldCg ?_ | refine ldNg ?_ | refine ldSg ?_ | refine ldSb ?_ | refine bnd ?_ | refine bnd1 ?_)
      obtain ⟨rb, ro, rfl, hRr⟩ := pr_row (SlC.of_own hOr7) (by omega)
      have hml2 : pk / 2 % B.length < B.length := Nat.mod_lt _ (by omega)
      have hix : (IntKind.i64.wrap (IntKind.u16.wrap ((pk : Int).tdiv 2))).tmod (B.length : Int) = ((pk / 2 % B.length : Nat) : Int) := by
        rw [show (pk : Int).tdiv 2 = ((pk / 2 : Nat) : Int) from by rw [Int.tdiv_eq_ediv_of_nonneg (by omega)]; omega, w16 (by omega) (by omega), w64 (by omega) (by omega), tmodN]
      rw [hix]
      obtain ⟨p, hx⟩ : ∃ p, B[pk / 2 % B.length]? = some p := ⟨_, List.getElem?_eq_getElem hml2⟩
      obtain ⟨hpk', _⟩ := hBm p (List.mem_of_getElem? hx)
      have hpl := hBk p (List.mem_of_getElem? hx)
      obtain ⟨kv', vv', k, v⟩ := p
      simp only at hpk' hpl
      obtain ⟨ka', kc', rfl⟩ := slv_of hpk'
      repeat (first | exact trivial | refine stp ?_ | refine ldCg ?_ | refine ldNg ?_ | refine ldSg ?_ | refine ldSb ?_ | refine bnd ?_ | refine bnd1 ?_)
      refine ldSg ?_ (by intro w' hw'; refine stp ?_; exact ldRowF (f := PR.cells) 0 hx rfl)
      repeat (first | exact trivial | refine stp ?_ | refine ldCg ?_ | refine ldNg ?_ | refine ldSg ?_ | refine ldSb ?_ | refine bnd ?_ | refine bnd1 ?_)
      exact ⟨(ka', kc', k), ⟨.go, hpk'.ext .go, hpl⟩, rfl⟩
    · exact ⟨(ka, kc, key0), ⟨.go, hk0.ext .go, hkl⟩, rfl⟩
    · exact ⟨(ka, kc, key0), ⟨.go, hk0.ext .go, hkl⟩, rfl⟩
  · rintro ⟨xa, xc, key⟩ s9 w9 ⟨hE9, hk9, hkl9⟩
    simp only at hk9 hkl9
    have hz9 := hE9.size
    repeat (first | exact trivial | refine stpg ?_)
    refine (Prove_hproof_ok n hw _ _ _ m key w9 (hW.ext .go) (hM7.ext .go) hO (hk9.ext .go) (by omega)).mono ?_
    rintro _ w10 ⟨sv, qv, tt, qs, rfl, hOs, hRk, hOp, hRb, htd, hqd, hE10⟩
    have hz10 := hE10.size
    have h64 : ¬ 64 < key.length := by omega
    rw [if_neg h64] at htd hqd
    rw [if_neg h64]
    have hSt := hRk.stepsAt hOs
    have hPr := PairsAt.ofRun hOp hRb
    obtain ⟨sa, sc, rfl⟩ := own_slice hOs
    obtain ⟨qa, qc, rfl⟩ := own_slice hOp
    have hPI : PathI n m key tt qs := ⟨htd, hqd⟩
    obtain ⟨hst, hend, _⟩ := walk_spec hw (keyD n key) 64 0 m hO hO.pre rfl
    have hkb : ∀ p ∈ qs, p.k.length ≤ 64 := fun p hp => by
      obtain ⟨y, hy, he⟩ := List.mem_map.1 (hqd ▸ List.mem_map_of_mem (f := PR.dat) hp)
      rw [hend] at hy
      have := hO.short y ((wmI_sub (keyD n key) _ 0).1 hy).1
      simp only [It.pr, PR.dat, Prod.mk.injEq] at he
      rw [he.1] at this
      omega
    have hqn : qs.length ≤ 90000000 := by
      have h1 := congrArg List.length hqd
      rw [List.length_map, List.length_map, hend] at h1
      have := wmI_len (keyD n key) (walkI n (keyD n key) 64 0 m).1.length 0 m
      omega
    have hrd := hPI.root hw hO
    have hov : outV 0 key qs = (getI m key).getD [] := by unfold outV; rw [if_pos rfl, hPI.val hw hO]
    have hot : outT 0 key qs = (getI m key).isSome := by unfold outT; rw [hPI.val hw hO]; rfl
    have hrl : (rootD n m).length = 32 := by rw [← hrd]; exact outD_len _ _ _ _ _
    have hrf : formB n (rootD n m) = true := by
      unfold rootD
      split
      · exact form_sumR _ _ hw
      · exact form_node _ hw _ _ _
    have hkid := hPI.kids hw hO
    generalize hV : (getI m key).getD [] = V at *
    generalize hI : (getI m key).isSome = I at *
    repeat (first | exact trivial | refine stpg ?_)
    first | refine newS ?_ | refine newZ ?_
    intro w11 hE11 hz11 hB11
    repeat (first | exact trivial | refine stp ?_ | refine ldCg ?_ | refine ldNg ?_ | refine ldSg ?_ | refine ldSb ?_ | refine bnd ?_ | refine bnd1 ?_)
    refine drawX (.of [0, 1, 3, 4, 2, 5, 6, 7, 8, 9, 10, 11, 12]) mixed (by decide +kernel) (fun w12 hE12 hz12 => ?_)
    repeat (first | exact trivial | refine stpg ?_)
    refine (Root_hamt_ok n _ _ m w12 (hW.ext .go) (hM7.ext .go) hO.len).mono ?_
    rintro _ w13 ⟨rfl, hE13⟩
    have hz13 := hE13.size
    refine toldX ?_
    repeat (first | exact trivial | refine stpg ?_)
    refine (Check_ok n (rootD n m) key hrl _ _ _ tt qs w13 (hW.ext .go) (hk9.ext .go) (by omega) (hSt.ext' .go) (hPr.ext' .go) (fun p hp => by have := hkb p hp; omega) (by omega)).mono ?_
    rintro _ w14 ⟨e, f, cv, rfl, hRE, hf, hO14, hE14⟩
    have hz14 := hE14.size
    obtain rfl : e = 0 := hPI.ok hw hO (by omega) hRE
    obtain rfl : f = 0 := by
      rw [hf, hrd]
      unfold checkE
      rw [if_neg (by decide), if_neg (by rw [hrf]; decide), if_neg (fun h => h.2 rfl)]
    rw [hov] at hO14
    rw [hot]
    have hS14 := SlC.of_own hO14
    obtain ⟨ca, cc, rfl⟩ := own_slice hO14
    refine toldX ?_
    repeat (first | exact trivial | refine stpg ?_)
    refine (get_ok w5 w14 bb7 w5.heap.size B _ key _ .go (hB7.ext .go) (hk9.ext .go) (by omega)).mono ?_
    rintro _ w15 ⟨⟨v15, rfl, hS15⟩, hE15⟩
    have hz15 := hE15.size
    rw [← hR.all, hV] at hS15
    rw [← hR.all, hI]
    obtain ⟨va15, vc15, rfl⟩ := slv_of hS15
    repeat (first | exact trivial | refine stq ?_ | refine ldCg ?_ | refine ldNg ?_ | refine ldSg ?_ | refine ldSb ?_ | refine bnd ?_ | refine bnd1 ?_)
    rw [v_seq]
    refine joinX (κ := Unit) (fun _ => [(9, .int .i64 n), (10, .pointer (some ⟨b7, 0, none⟩)), (12, .slice xa key.length xc), (13, .pointer (some ⟨w10.heap.size, 0, none⟩)), (15, .slice ca V.length cc), (16, .bool I)]) (fun _ W => Ext w14 W) ?_ ?_
    · repeat (first | exact trivial | refine stpg ?_)
      refine (tSame_ok V V _ _ w15 (hS14.ext .go) (hS15.ext .go)).mono ?_
      rintro _ w16 ⟨rfl, hE16⟩
      have hz16 := hE16.size
      rw [decide_eq_true (rfl : V = V)]
      repeat (first | exact trivial | refine stpg ?_)
      exact ⟨(), .go⟩
    rintro ⟨⟩ s16 w16 hE1416
    have hz16 := hE1416.size
    clear hE15 hz15 hS15 w15
    repeat (first | exact trivial | refine stpg ?_)
    refine (RootOf_ok n key _ _ _ tt qs w16 (hW.ext .go) (hk9.ext .go) (by omega) (hSt.ext' .go) (hPr.ext' .go) (fun p hp => by have := hkb p hp; omega) (by omega)).mono ?_
    rintro _ w17 ⟨e, ov, rfl, hRE2, hO17, hE17⟩
    have hz17 := hE17.size
    obtain rfl : e = 0 := hPI.ok hw hO (by omega) hRE2
    rw [hov] at hO17
    rw [hrd, hot]
    have hS17 := SlC.of_own hO17
    obtain ⟨oa, oc, rfl⟩ := own_slice hO17
    repeat (first | exact trivial | refine stq ?_ | refine ldCg ?_ | refine ldNg ?_ | refine ldSg ?_ | refine ldSb ?_ | refine bnd ?_ | refine bnd1 ?_)
    first | refine newS ?_ | refine newZ ?_
    intro w18 hE18 hz18 hB18
    repeat (first | exact trivial | refine stq ?_ | refine ldCg ?_ | refine ldNg ?_ | refine ldSg ?_ | refine ldSb ?_ | refine bnd ?_ | refine bnd1 ?_)
    rw [v_seq]
    refine joinX (κ := Unit) (fun _ => [(9, .int .i64 n), (10, .pointer (some ⟨b7, 0, none⟩)), (12, .slice xa key.length xc), (13, .pointer (some ⟨w10.heap.size, 0, none⟩))]) (fun _ W => Ext w18 W) ?_ ?_
    · repeat (first | exact trivial | refine stp ?_ | refine ldCg ?_ | refine ldNg ?_ | refine ldSg ?_ | refine ldSb ?_ | refine bnd ?_ | refine bnd1 ?_)
      refine drawX (.of [0, 1, 2, 3, 4, 5, 6, 7, 8, 9, 10, 11, 12, 13, 14, 15, 16, 17, 18]) mixed (by decide +kernel) (fun w19 hE19 hz19 => ?_)
      repeat (first | exact trivial | refine stpg ?_)
      refine (Root_hamt_ok n _ _ m w19 (hW.ext .go) (hM7.ext .go) hO.len).mono ?_
      rintro _ w20 ⟨rfl, hE20⟩
      have hz20 := hE20.size
      refine toldX ?_
      repeat (first | exact trivial | refine stpg ?_)
      refine eqd_lit _ _ _ _ _ _ Tryz.underlying5 c5 hrl hrl ?_
      rw [decide_eq_true (rfl : rootD n m = rootD n m)]
      repeat (first | exact trivial | refine stpg ?_)
      refine (tSame_ok V V _ _ w20 (hS17.ext .go) (hS14.ext .go)).mono ?_
      rintro _ w21 ⟨rfl, hE21⟩
      have hz21 := hE21.size
      refine toldX ?_
      rw [decide_eq_true (rfl : V = V)]
      repeat (first | exact trivial | refine stpg ?_)
      exact ⟨(), .go⟩
    rintro ⟨⟩ s22 w22 hE1822
    have hz22 := hE1822.size
    obtain ⟨zs, hzs⟩ : ∃ z : SR, z = ⟨.slice none 0 0, 0, []⟩ := ⟨_, rfl⟩
    have hln : tt.length + 1 = (tt ++ [zs]).length := by simp
    have hcn : tt.flatMap SR.cells ++ [.int .u16 0, .slice none 0 0] = (tt ++ [zs]).flatMap SR.cells := by rw [hzs]; simp [SR.cells]
    have hcl : (tt.flatMap SR.cells).length = tt.length * 2 := hOs.1
    have hone : ∀ u ∈ tt.flatMap SR.cells, oneCellV u = true := fun u hu => by
      obtain ⟨t, ht, hu⟩ := List.mem_flatMap.1 hu
      obtain ⟨_, _, e⟩ := slv_of (hSt.2 t ht).2.2
      unfold SR.cells at hu
      rw [e] at hu
      simp only [List.mem_cons, List.not_mem_nil, or_false] at hu
      rcases hu with rfl | rfl <;> rfl
    have htl : tt.length ≤ 64 := by
      have h1 := congrArg List.length htd
      rw [List.length_map, cutS_len] at h1
      rw [h1]
      rcases Nat.eq_zero_or_pos (walkI n (keyD n key) 64 0 m).1.length with h0 | h0
      · omega
      · obtain ⟨_, hs2⟩ := hst ((walkI n (keyD n key) 64 0 m).1.length - 1) (by omega)
        obtain ⟨hOd, hPd⟩ := wmI_ok (n := n) (keyD n key) ((walkI n (keyD n key) 64 0 m).1.length - 1) 0 hO hO.pre
        rw [Nat.zero_add] at hPd
        have := br_depth hs2 hPd (hOd.form hw)
        omega
    have hall : ∀ W, Ext w10 W → ∀ t ∈ tt ++ [zs], t.bm < 65536 ∧ DigsAt W t.kv t.ks := fun W hE t ht => by
      rcases List.mem_append.1 ht with ht | ht
      · obtain ⟨h1, h2, h3⟩ := hSt.2 t ht
        exact ⟨h1, h2, h3.ext hE⟩
      · rw [List.mem_singleton] at ht
        subst ht
        rw [hzs]
        exact ⟨(by decide : (0 : Nat) < 65536), by simp, ⟨none, 0, rfl, Nat.le_refl _, by decide, Or.inl rfl⟩⟩
    repeat (first | exact trivial | refine stq ?_ | refine ldCg ?_ | refine ldNg ?_ | refine ldSg ?_ | refine ldSb ?_ | refine bnd ?_ | refine bnd1 ?_)
    rw [v_seq]
    refine joinX (κ := Option Addr × Nat × Nat) (fun x => [(9, .int .i64 n), (10, .pointer (some ⟨b7, 0, none⟩)), (12, .slice xa key.length xc), (13, .pointer (some ⟨w10.heap.size, 0, none⟩)), (24, .pointer (some ⟨x.2.2, 0, none⟩))])
      (fun x W => Ext w22 W ∧ Blk W x.2.2 26 [.slice x.1 (tt ++ [zs]).length x.2.1, .slice qa qs.length qc] ∧ StepsAt W (.slice x.1 (tt ++ [zs]).length x.2.1) (tt ++ [zs])) ?_ ?_
    · repeat (first | exact trivial | refine stp ?_ | refine ldCg ?_ | refine ldNg ?_ | refine ldSg ?_ | refine ldSb ?_ | refine bnd ?_ | refine bnd1 ?_)
      refine drawXJ (Or3.pre [1, 2, 4, 7, 8] (.three 0 5 10 (Or3.pre [] (.three 3 5 10 (Or3.pre [] (.two 5 10 (Or3.pre [] (.two 6 10 (Or3.pre [9, 10, 11] .nil) (Or3.pre [6, 9, 11] .nil))) (Or3.pre [5, 6, 9, 11] .nil))) (Or3.pre [] (.two 3 10 (Or3.pre [] (.two 6 10 (Or3.pre [9, 10, 11] .nil) (Or3.pre [6, 9, 11] .nil))) (Or3.pre [3, 6, 9, 11] .nil))) (Or3.pre [] (.two 3 5 (Or3.pre [5, 6, 9, 11] .nil) (Or3.pre [3, 6, 9, 11] .nil))))) (Or3.pre [] (.two 0 10 (Or3.pre [] (.two 3 10 (Or3.pre [] (.two 6 10 (Or3.pre [9, 10, 11] .nil) (Or3.pre [6, 9, 11] .nil))) (Or3.pre [3, 6, 9, 11] .nil))) (Or3.pre [0, 3, 6, 9, 11] .nil))) (Or3.pre [] (.two 0 5 (Or3.pre [] (.two 3 5 (Or3.pre [5, 6, 9, 11] .nil) (Or3.pre [3, 6, 9, 11] .nil))) (Or3.pre [0, 3, 6, 9, 11] .nil))))) mixed (by decide +kernel) (fun w23 hE23 hz23 => ?_)
      repeat (first | exact trivial | refine stj ?_ | refine ldCg ?_ | refine ldNg ?_ | refine ldSg ?_ | refine ldSb ?_ | refine bnd ?_ | refine bnd1 ?_)
      refine bldC [.int .u16 0, .slice none 0 0] (by kernel_rfl) ?_
      repeat (first | exact trivial | refine stj ?_ | refine ldCg ?_ | refine ldNg ?_ | refine ldSg ?_ | refine ldSb ?_ | refine bnd ?_ | refine bnd1 ?_)
      refine ⟨?_, ?_, ?_⟩
      · refine ⟨rfl, ?_⟩
        first | refine newS ?_ | refine newZ ?_
        intro w24 hE24 hz24 hB24
        refine toldK ?_
        repeat (first | exact trivial | refine stj ?_ | refine ldCg ?_ | refine ldNg ?_ | refine ldSg ?_ | refine ldSb ?_ | refine bnd ?_ | refine bnd1 ?_)
        have hO24 : Own w24 w22.heap.size 51 2 (.slice (some ⟨w23.heap.size, 0, none⟩) 0 0) 0 [] := own_mk (xs := []) (rest := []) hB24 (by omega) rfl rfl (Nat.le_refl _) (by decide)
        refine ⟨?_, ?_, ?_⟩
        · have hX25 := hO24
          refine apS (sz := 2) (n := 0) (m := tt.length) Tryz.underlying23 z51 c51 rfl (by decide) hX25 (by omega) (hSt.1.ext .go) hcl hone (by omega) (by rw [by51]; omega) (fun v25 w25 hO25 hg25 => ?_)
          have hE25 := below_of_grown hX25 (by omega) hg25
          have hz25 := hE25.size
          rw [Nat.zero_add, List.nil_append] at hO25
          obtain ⟨a25, c25, rfl⟩ := own_slice hO25
          refine toldK ?_
          repeat (first | exact trivial | refine stj ?_ | refine ldCg ?_ | refine ldNg ?_ | refine ldSg ?_ | refine ldSb ?_ | refine bnd ?_ | refine bnd1 ?_)
          refine ⟨?_, ?_⟩
          · refine ⟨rfl, rfl, ?_⟩
            first | refine newS ?_ | refine newZ ?_
            intro w26 hE26 hz26 hB26
            refine toldK ?_
            repeat (first | exact trivial | refine stj ?_ | refine ldCg ?_ | refine ldNg ?_ | refine ldSg ?_ | refine ldSb ?_ | refine bnd ?_ | refine bnd1 ?_)
            refine ⟨?_, ?_⟩
            · have hX27 := (hO25.ext (w' := w26) .go)
              refine apS (sz := 2) (n := tt.length) (m := 1) (news := [.int .u16 0, .slice none 0 0]) Tryz.underlying23 z51 c51 rfl (by decide) hX27 (by omega) (SlC.of_blk hB26 (by decide)) rfl (by intro u hu; rcases List.mem_cons.1 hu with rfl | hu; rfl; rcases List.mem_cons.1 hu with rfl | hu; rfl; cases hu) (by omega) (by rw [by51]; omega) (fun v27 w27 hO27 hg27 => ?_)
              have hE27 := below_of_grown hX27 (by omega) hg27
              have hz27 := hE27.size
              rw [hln, hcn] at hO27
              obtain ⟨a27, c27, rfl⟩ := own_slice hO27
              refine toldK ?_
              repeat (first | exact trivial | refine stj ?_ | refine ldCg ?_ | refine ldNg ?_ | refine ldSg ?_ | refine ldSb ?_ | refine bnd ?_ | refine bnd1 ?_)
              refine bldC [.slice a27 (tt ++ [zs]).length c27, .slice qa qs.length qc] (by kernel_rfl) ?_
              repeat (first | exact trivial | refine stj ?_ | refine ldCg ?_ | refine ldNg ?_ | refine ldSg ?_ | refine ldSb ?_ | refine bnd ?_ | refine bnd1 ?_)
              first | refine newS ?_ | refine newZ ?_
              intro w28 hE28 hz28 hB28
              refine toldK ?_
              repeat (first | exact trivial | refine stj ?_ | refine ldCg ?_ | refine ldNg ?_ | refine ldSg ?_ | refine ldSb ?_ | refine bnd ?_ | refine bnd1 ?_)
              have hq29 := hB28
              have ho29 := (hO27.ext (w' := w28) .go)
              refine stW (hb := hq29) ?_
              intro w29 hP29 hz29 hB29
              refine toldZ ?_
              repeat (first | exact trivial | refine stj ?_ | refine ldCg ?_ | refine ldNg ?_ | refine ldSg ?_ | refine ldSb ?_ | refine bnd ?_ | refine bnd1 ?_)
              have ht29 := ho29.put hq29 (by decide) hP29
              exact ⟨(a27, c27, w27.heap.size), ⟨.go, hB29, ⟨SlC.of_own ht29, hall _ .go⟩⟩, rfl⟩
            · first | refine newS ?_ | refine newZ ?_
              intro w27 hE27 hz27 hB27
              refine toldK ?_
              repeat (first | exact trivial | refine stj ?_ | refine ldCg ?_ | refine ldNg ?_ | refine ldSg ?_ | refine ldSb ?_ | refine bnd ?_ | refine bnd1 ?_)
              have hX28 := (hO25.ext (w' := w27) .go)
              refine apS (sz := 2) (n := tt.length) (m := 1) (news := [.int .u16 0, .slice none 0 0]) Tryz.underlying23 z51 c51 rfl (by decide) hX28 (by omega) (SlC.of_blk (hB26.ext (w' := w27) .go) (by decide)) rfl (by intro u hu; rcases List.mem_cons.1 hu with rfl | hu; rfl; rcases List.mem_cons.1 hu with rfl | hu; rfl; cases hu) (by omega) (by rw [by51]; omega) (fun v28 w28 hO28 hg28 => ?_)
              have hE28 := below_of_grown hX28 (by omega) hg28
              have hz28 := hE28.size
              rw [hln, hcn] at hO28
              have hL28 := OnlyBy.of_grown hg28 _ _ _ (hX28.ne_blk hB27 (by decide)) hB27
              obtain ⟨a28, c28, rfl⟩ := own_slice hO28
              refine toldK ?_
              repeat (first | exact trivial | refine stj ?_ | refine ldCg ?_ | refine ldNg ?_ | refine ldSg ?_ | refine ldSb ?_ | refine bnd ?_ | refine bnd1 ?_)
              refine bldC [.slice a28 (tt ++ [zs]).length c28, .slice qa qs.length qc] (by kernel_rfl) ?_
              repeat (first | exact trivial | refine stj ?_ | refine ldCg ?_ | refine ldNg ?_ | refine ldSg ?_ | refine ldSb ?_ | refine bnd ?_ | refine bnd1 ?_)
              have hq29 := hL28
              have ho29 := hO28
              refine stW (hb := hq29) ?_
              intro w29 hP29 hz29 hB29
              refine toldZ ?_
              repeat (first | exact trivial | refine stj ?_ | refine ldCg ?_ | refine ldNg ?_ | refine ldSg ?_ | refine ldSb ?_ | refine bnd ?_ | refine bnd1 ?_)
              have ht29 := ho29.put hq29 (by decide) hP29
              exact ⟨(a28, c28, w26.heap.size), ⟨.go, hB29, ⟨SlC.of_own ht29, hall _ .go⟩⟩, rfl⟩
          · first | refine newS ?_ | refine newZ ?_
            intro w26 hE26 hz26 hB26
            refine toldK ?_
            repeat (first | exact trivial | refine stj ?_ | refine ldCg ?_ | refine ldNg ?_ | refine ldSg ?_ | refine ldSb ?_ | refine bnd ?_ | refine bnd1 ?_)
            refine ⟨rfl, rfl, ?_⟩
            first | refine newS ?_ | refine newZ ?_
            intro w27 hE27 hz27 hB27
            refine toldK ?_
            repeat (first | exact trivial | refine stj ?_ | refine ldCg ?_ | refine ldNg ?_ | refine ldSg ?_ | refine ldSb ?_ | refine bnd ?_ | refine bnd1 ?_)
            have hX28 := (hO25.ext (w' := w27) .go)
            refine apS (sz := 2) (n := tt.length) (m := 1) (news := [.int .u16 0, .slice none 0 0]) Tryz.underlying23 z51 c51 rfl (by decide) hX28 (by omega) (SlC.of_blk hB27 (by decide)) rfl (by intro u hu; rcases List.mem_cons.1 hu with rfl | hu; rfl; rcases List.mem_cons.1 hu with rfl | hu; rfl; cases hu) (by omega) (by rw [by51]; omega) (fun v28 w28 hO28 hg28 => ?_)
            have hE28 := below_of_grown hX28 (by omega) hg28
            have hz28 := hE28.size
            rw [hln, hcn] at hO28
            have hL28 := OnlyBy.of_grown hg28 _ _ _ (hX28.ne_blk (hB26.ext (w' := w27) .go) (by decide)) (hB26.ext (w' := w27) .go)
            obtain ⟨a28, c28, rfl⟩ := own_slice hO28
            refine toldK ?_
            repeat (first | exact trivial | refine stj ?_ | refine ldCg ?_ | refine ldNg ?_ | refine ldSg ?_ | refine ldSb ?_ | refine bnd ?_ | refine bnd1 ?_)
            refine bldC [.slice a28 (tt ++ [zs]).length c28, .slice qa qs.length qc] (by kernel_rfl) ?_
            repeat (first | exact trivial | refine stj ?_ | refine ldCg ?_ | refine ldNg ?_ | refine ldSg ?_ | refine ldSb ?_ | refine bnd ?_ | refine bnd1 ?_)
            have hq29 := hL28
            have ho29 := hO28
            refine stW (hb := hq29) ?_
            intro w29 hP29 hz29 hB29
            refine toldZ ?_
            repeat (first | exact trivial | refine stj ?_ | refine ldCg ?_ | refine ldNg ?_ | refine ldSg ?_ | refine ldSb ?_ | refine bnd ?_ | refine bnd1 ?_)
            have ht29 := ho29.put hq29 (by decide) hP29
            exact ⟨(a28, c28, w25.heap.size), ⟨.go, hB29, ⟨SlC.of_own ht29, hall _ .go⟩⟩, rfl⟩
        · refine ⟨rfl, rfl, ?_⟩
          first | refine newS ?_ | refine newZ ?_
          intro w25 hE25 hz25 hB25
          refine toldK ?_
          repeat (first | exact trivial | refine stj ?_ | refine ldCg ?_ | refine ldNg ?_ | refine ldSg ?_ | refine ldSb ?_ | refine bnd ?_ | refine bnd1 ?_)
          refine ⟨?_, ?_⟩
          · have hX26 := (hO24.ext (w' := w25) .go)
            refine apS (sz := 2) (n := 0) (m := tt.length) Tryz.underlying23 z51 c51 rfl (by decide) hX26 (by omega) (hSt.1.ext .go) hcl hone (by omega) (by rw [by51]; omega) (fun v26 w26 hO26 hg26 => ?_)
            have hE26 := below_of_grown hX26 (by omega) hg26
            have hz26 := hE26.size
            rw [Nat.zero_add, List.nil_append] at hO26
            have hF26 := OnlyBy.of_grown hg26 _ _ _ (fun e => by simp only [Value.ownBlock, Option.some.injEq] at e; omega) hB25
            obtain ⟨a26, c26, rfl⟩ := own_slice hO26
            refine toldK ?_
            repeat (first | exact trivial | refine stj ?_ | refine ldCg ?_ | refine ldNg ?_ | refine ldSg ?_ | refine ldSb ?_ | refine bnd ?_ | refine bnd1 ?_)
            refine ⟨?_, ?_⟩
            · have hX27 := hO26
              refine apS (sz := 2) (n := tt.length) (m := 1) (news := [.int .u16 0, .slice none 0 0]) Tryz.underlying23 z51 c51 rfl (by decide) hX27 (by omega) (SlC.of_blk hF26 (by decide)) rfl (by intro u hu; rcases List.mem_cons.1 hu with rfl | hu; rfl; rcases List.mem_cons.1 hu with rfl | hu; rfl; cases hu) (by omega) (by rw [by51]; omega) (fun v27 w27 hO27 hg27 => ?_)
              have hE27 := below_of_grown hX27 (by omega) hg27
              have hz27 := hE27.size
              rw [hln, hcn] at hO27
              obtain ⟨a27, c27, rfl⟩ := own_slice hO27
              refine toldK ?_
              repeat (first | exact trivial | refine stj ?_ | refine ldCg ?_ | refine ldNg ?_ | refine ldSg ?_ | refine ldSb ?_ | refine bnd ?_ | refine bnd1 ?_)
              refine bldC [.slice a27 (tt ++ [zs]).length c27, .slice qa qs.length qc] (by kernel_rfl) ?_
              repeat (first | exact trivial | refine stj ?_ | refine ldCg ?_ | refine ldNg ?_ | refine ldSg ?_ | refine ldSb ?_ | refine bnd ?_ | refine bnd1 ?_)
              first | refine newS ?_ | refine newZ ?_
              intro w28 hE28 hz28 hB28
              refine toldK ?_
              repeat (first | exact trivial | refine stj ?_ | refine ldCg ?_ | refine ldNg ?_ | refine ldSg ?_ | refine ldSb ?_ | refine bnd ?_ | refine bnd1 ?_)
              have hq29 := hB28
              have ho29 := (hO27.ext (w' := w28) .go)
              refine stW (hb := hq29) ?_
              intro w29 hP29 hz29 hB29
              refine toldZ ?_
              repeat (first | exact trivial | refine stj ?_ | refine ldCg ?_ | refine ldNg ?_ | refine ldSg ?_ | refine ldSb ?_ | refine bnd ?_ | refine bnd1 ?_)
              have ht29 := ho29.put hq29 (by decide) hP29
              exact ⟨(a27, c27, w27.heap.size), ⟨.go, hB29, ⟨SlC.of_own ht29, hall _ .go⟩⟩, rfl⟩
            · first | refine newS ?_ | refine newZ ?_
              intro w27 hE27 hz27 hB27
              refine toldK ?_
              repeat (first | exact trivial | refine stj ?_ | refine ldCg ?_ | refine ldNg ?_ | refine ldSg ?_ | refine ldSb ?_ | refine bnd ?_ | refine bnd1 ?_)
              have hX28 := (hO26.ext (w' := w27) .go)
              refine apS (sz := 2) (n := tt.length) (m := 1) (news := [.int .u16 0, .slice none 0 0]) Tryz.underlying23 z51 c51 rfl (by decide) hX28 (by omega) (SlC.of_blk (hF26.ext (w' := w27) .go) (by decide)) rfl (by intro u hu; rcases List.mem_cons.1 hu with rfl | hu; rfl; rcases List.mem_cons.1 hu with rfl | hu; rfl; cases hu) (by omega) (by rw [by51]; omega) (fun v28 w28 hO28 hg28 => ?_)
              have hE28 := below_of_grown hX28 (by omega) hg28
              have hz28 := hE28.size
              rw [hln, hcn] at hO28
              have hL28 := OnlyBy.of_grown hg28 _ _ _ (hX28.ne_blk hB27 (by decide)) hB27
              obtain ⟨a28, c28, rfl⟩ := own_slice hO28
              refine toldK ?_
              repeat (first | exact trivial | refine stj ?_ | refine ldCg ?_ | refine ldNg ?_ | refine ldSg ?_ | refine ldSb ?_ | refine bnd ?_ | refine bnd1 ?_)
              refine bldC [.slice a28 (tt ++ [zs]).length c28, .slice qa qs.length qc] (by kernel_rfl) ?_
              repeat (first | exact trivial | refine stj ?_ | refine ldCg ?_ | refine ldNg ?_ | refine ldSg ?_ | refine ldSb ?_ | refine bnd ?_ | refine bnd1 ?_)
              have hq29 := hL28
              have ho29 := hO28
              refine stW (hb := hq29) ?_
              intro w29 hP29 hz29 hB29
              refine toldZ ?_
              repeat (first | exact trivial | refine stj ?_ | refine ldCg ?_ | refine ldNg ?_ | refine ldSg ?_ | refine ldSb ?_ | refine bnd ?_ | refine bnd1 ?_)
              have ht29 := ho29.put hq29 (by decide) hP29
              exact ⟨(a28, c28, w26.heap.size), ⟨.go, hB29, ⟨SlC.of_own ht29, hall _ .go⟩⟩, rfl⟩
          · first | refine newS ?_ | refine newZ ?_
            intro w26 hE26 hz26 hB26
            refine toldK ?_
            repeat (first | exact trivial | refine stj ?_ | refine ldCg ?_ | refine ldNg ?_ | refine ldSg ?_ | refine ldSb ?_ | refine bnd ?_ | refine bnd1 ?_)
            have hX27 := (hO24.ext (w' := w26) .go)
            refine apS (sz := 2) (n := 0) (m := tt.length) Tryz.underlying23 z51 c51 rfl (by decide) hX27 (by omega) (hSt.1.ext .go) hcl hone (by omega) (by rw [by51]; omega) (fun v27 w27 hO27 hg27 => ?_)
            have hE27 := below_of_grown hX27 (by omega) hg27
            have hz27 := hE27.size
            rw [Nat.zero_add, List.nil_append] at hO27
            have hF27 := OnlyBy.of_grown hg27 _ _ _ (fun e => by simp only [Value.ownBlock, Option.some.injEq] at e; omega) (hB25.ext (w' := w26) .go)
            have hL27 := OnlyBy.of_grown hg27 _ _ _ (hX27.ne_blk hB26 (by decide)) hB26
            obtain ⟨a27, c27, rfl⟩ := own_slice hO27
            refine toldK ?_
            repeat (first | exact trivial | refine stj ?_ | refine ldCg ?_ | refine ldNg ?_ | refine ldSg ?_ | refine ldSb ?_ | refine bnd ?_ | refine bnd1 ?_)
            have hX28 := hO27
            refine apS (sz := 2) (n := tt.length) (m := 1) (news := [.int .u16 0, .slice none 0 0]) Tryz.underlying23 z51 c51 rfl (by decide) hX28 (by omega) (SlC.of_blk hF27 (by decide)) rfl (by intro u hu; rcases List.mem_cons.1 hu with rfl | hu; rfl; rcases List.mem_cons.1 hu with rfl | hu; rfl; cases hu) (by omega) (by rw [by51]; omega) (fun v28 w28 hO28 hg28 => ?_)
            have hE28 := below_of_grown hX28 (by omega) hg28
            have hz28 := hE28.size
            rw [hln, hcn] at hO28
            have hL28 := OnlyBy.of_grown hg28 _ _ _ (hX28.ne_blk hL27 (by decide)) hL27
            obtain ⟨a28, c28, rfl⟩ := own_slice hO28
            refine toldK ?_
            repeat (first | exact trivial | refine stj ?_ | refine ldCg ?_ | refine ldNg ?_ | refine ldSg ?_ | refine ldSb ?_ | refine bnd ?_ | refine bnd1 ?_)
            refine bldC [.slice a28 (tt ++ [zs]).length c28, .slice qa qs.length qc] (by kernel_rfl) ?_
            repeat (first | exact trivial | refine stj ?_ | refine ldCg ?_ | refine ldNg ?_ | refine ldSg ?_ | refine ldSb ?_ | refine bnd ?_ | refine bnd1 ?_)
            have hq29 := hL28
            have ho29 := hO28
            refine stW (hb := hq29) ?_
            intro w29 hP29 hz29 hB29
            refine toldZ ?_
            repeat (first | exact trivial | refine stj ?_ | refine ldCg ?_ | refine ldNg ?_ | refine ldSg ?_ | refine ldSb ?_ | refine bnd ?_ | refine bnd1 ?_)
            have ht29 := ho29.put hq29 (by decide) hP29
            exact ⟨(a28, c28, w25.heap.size), ⟨.go, hB29, ⟨SlC.of_own ht29, hall _ .go⟩⟩, rfl⟩
        · first | refine newS ?_ | refine newZ ?_
          intro w25 hE25 hz25 hB25
          refine toldK ?_
          repeat (first | exact trivial | refine stj ?_ | refine ldCg ?_ | refine ldNg ?_ | refine ldSg ?_ | refine ldSb ?_ | refine bnd ?_ | refine bnd1 ?_)
          refine ⟨?_, ?_⟩
          · have hX26 := (hO24.ext (w' := w25) .go)
            refine apS (sz := 2) (n := 0) (m := tt.length) Tryz.underlying23 z51 c51 rfl (by decide) hX26 (by omega) (hSt.1.ext .go) hcl hone (by omega) (by rw [by51]; omega) (fun v26 w26 hO26 hg26 => ?_)
            have hE26 := below_of_grown hX26 (by omega) hg26
            have hz26 := hE26.size
            rw [Nat.zero_add, List.nil_append] at hO26
            have hL26 := OnlyBy.of_grown hg26 _ _ _ (hX26.ne_blk hB25 (by decide)) hB25
            obtain ⟨a26, c26, rfl⟩ := own_slice hO26
            refine toldK ?_
            repeat (first | exact trivial | refine stj ?_ | refine ldCg ?_ | refine ldNg ?_ | refine ldSg ?_ | refine ldSb ?_ | refine bnd ?_ | refine bnd1 ?_)
            refine ⟨rfl, rfl, ?_⟩
            first | refine newS ?_ | refine newZ ?_
            intro w27 hE27 hz27 hB27
            refine toldK ?_
            repeat (first | exact trivial | refine stj ?_ | refine ldCg ?_ | refine ldNg ?_ | refine ldSg ?_ | refine ldSb ?_ | refine bnd ?_ | refine bnd1 ?_)
            have hX28 := (hO26.ext (w' := w27) .go)
            refine apS (sz := 2) (n := tt.length) (m := 1) (news := [.int .u16 0, .slice none 0 0]) Tryz.underlying23 z51 c51 rfl (by decide) hX28 (by omega) (SlC.of_blk hB27 (by decide)) rfl (by intro u hu; rcases List.mem_cons.1 hu with rfl | hu; rfl; rcases List.mem_cons.1 hu with rfl | hu; rfl; cases hu) (by omega) (by rw [by51]; omega) (fun v28 w28 hO28 hg28 => ?_)
            have hE28 := below_of_grown hX28 (by omega) hg28
            have hz28 := hE28.size
            rw [hln, hcn] at hO28
            have hL28 := OnlyBy.of_grown hg28 _ _ _ (hX28.ne_blk (hL26.ext (w' := w27) .go) (by decide)) (hL26.ext (w' := w27) .go)
            obtain ⟨a28, c28, rfl⟩ := own_slice hO28
            refine toldK ?_
            repeat (first | exact trivial | refine stj ?_ | refine ldCg ?_ | refine ldNg ?_ | refine ldSg ?_ | refine ldSb ?_ | refine bnd ?_ | refine bnd1 ?_)
            refine bldC [.slice a28 (tt ++ [zs]).length c28, .slice qa qs.length qc] (by kernel_rfl) ?_
            repeat (first | exact trivial | refine stj ?_ | refine ldCg ?_ | refine ldNg ?_ | refine ldSg ?_ | refine ldSb ?_ | refine bnd ?_ | refine bnd1 ?_)
            have hq29 := hL28
            have ho29 := hO28
            refine stW (hb := hq29) ?_
            intro w29 hP29 hz29 hB29
            refine toldZ ?_
            repeat (first | exact trivial | refine stj ?_ | refine ldCg ?_ | refine ldNg ?_ | refine ldSg ?_ | refine ldSb ?_ | refine bnd ?_ | refine bnd1 ?_)
            have ht29 := ho29.put hq29 (by decide) hP29
            exact ⟨(a28, c28, w24.heap.size), ⟨.go, hB29, ⟨SlC.of_own ht29, hall _ .go⟩⟩, rfl⟩
          · refine ⟨rfl, rfl, ?_⟩
            first | refine newS ?_ | refine newZ ?_
            intro w26 hE26 hz26 hB26
            refine toldK ?_
            repeat (first | exact trivial | refine stj ?_ | refine ldCg ?_ | refine ldNg ?_ | refine ldSg ?_ | refine ldSb ?_ | refine bnd ?_ | refine bnd1 ?_)
            have hX27 := (hO24.ext (w' := w26) .go)
            refine apS (sz := 2) (n := 0) (m := tt.length) Tryz.underlying23 z51 c51 rfl (by decide) hX27 (by omega) (hSt.1.ext .go) hcl hone (by omega) (by rw [by51]; omega) (fun v27 w27 hO27 hg27 => ?_)
            have hE27 := below_of_grown hX27 (by omega) hg27
            have hz27 := hE27.size
            rw [Nat.zero_add, List.nil_append] at hO27
            have hF27 := OnlyBy.of_grown hg27 _ _ _ (fun e => by simp only [Value.ownBlock, Option.some.injEq] at e; omega) hB26
            have hL27 := OnlyBy.of_grown hg27 _ _ _ (hX27.ne_blk (hB25.ext (w' := w26) .go) (by decide)) (hB25.ext (w' := w26) .go)
            obtain ⟨a27, c27, rfl⟩ := own_slice hO27
            refine toldK ?_
            repeat (first | exact trivial | refine stj ?_ | refine ldCg ?_ | refine ldNg ?_ | refine ldSg ?_ | refine ldSb ?_ | refine bnd ?_ | refine bnd1 ?_)
            have hX28 := hO27
            refine apS (sz := 2) (n := tt.length) (m := 1) (news := [.int .u16 0, .slice none 0 0]) Tryz.underlying23 z51 c51 rfl (by decide) hX28 (by omega) (SlC.of_blk hF27 (by decide)) rfl (by intro u hu; rcases List.mem_cons.1 hu with rfl | hu; rfl; rcases List.mem_cons.1 hu with rfl | hu; rfl; cases hu) (by omega) (by rw [by51]; omega) (fun v28 w28 hO28 hg28 => ?_)
            have hE28 := below_of_grown hX28 (by omega) hg28
            have hz28 := hE28.size
            rw [hln, hcn] at hO28
            have hL28 := OnlyBy.of_grown hg28 _ _ _ (hX28.ne_blk hL27 (by decide)) hL27
            obtain ⟨a28, c28, rfl⟩ := own_slice hO28
            refine toldK ?_
            repeat (first | exact trivial | refine stj ?_ | refine ldCg ?_ | refine ldNg ?_ | refine ldSg ?_ | refine ldSb ?_ | refine bnd ?_ | refine bnd1 ?_)
            refine bldC [.slice a28 (tt ++ [zs]).length c28, .slice qa qs.length qc] (by kernel_rfl) ?_
            repeat (first | exact trivial | refine stj ?_ | refine ldCg ?_ | refine ldNg ?_ | refine ldSg ?_ | refine ldSb ?_ | refine bnd ?_ | refine bnd1 ?_)
            have hq29 := hL28
            have ho29 := hO28
            refine stW (hb := hq29) ?_
            intro w29 hP29 hz29 hB29
            refine toldZ ?_
            repeat (first | exact trivial | refine stj ?_ | refine ldCg ?_ | refine ldNg ?_ | refine ldSg ?_ | refine ldSb ?_ | refine bnd ?_ | refine bnd1 ?_)
            have ht29 := ho29.put hq29 (by decide) hP29
            exact ⟨(a28, c28, w24.heap.size), ⟨.go, hB29, ⟨SlC.of_own ht29, hall _ .go⟩⟩, rfl⟩
      · refine ⟨rfl, rfl, ?_⟩
        first | refine newS ?_ | refine newZ ?_
        intro w24 hE24 hz24 hB24
        refine toldK ?_
        repeat (first | exact trivial | refine stj ?_ | refine ldCg ?_ | refine ldNg ?_ | refine ldSg ?_ | refine ldSb ?_ | refine bnd ?_ | refine bnd1 ?_)
        refine ⟨?_, ?_⟩
        · refine ⟨rfl, ?_⟩
          first | refine newS ?_ | refine newZ ?_
          intro w25 hE25 hz25 hB25
          refine toldK ?_
          repeat (first | exact trivial | refine stj ?_ | refine ldCg ?_ | refine ldNg ?_ | refine ldSg ?_ | refine ldSb ?_ | refine bnd ?_ | refine bnd1 ?_)
          have hO25 : Own w25 w22.heap.size 51 2 (.slice (some ⟨w24.heap.size, 0, none⟩) 0 0) 0 [] := own_mk (xs := []) (rest := []) hB25 (by omega) rfl rfl (Nat.le_refl _) (by decide)
          refine ⟨?_, ?_⟩
          · have hX26 := hO25
            refine apS (sz := 2) (n := 0) (m := tt.length) Tryz.underlying23 z51 c51 rfl (by decide) hX26 (by omega) (hSt.1.ext .go) hcl hone (by omega) (by rw [by51]; omega) (fun v26 w26 hO26 hg26 => ?_)
            have hE26 := below_of_grown hX26 (by omega) hg26
            have hz26 := hE26.size
            rw [Nat.zero_add, List.nil_append] at hO26
            have hF26 := OnlyBy.of_grown hg26 _ _ _ (fun e => by simp only [Value.ownBlock, Option.some.injEq] at e; omega) (hB24.ext (w' := w25) .go)
            obtain ⟨a26, c26, rfl⟩ := own_slice hO26
            refine toldK ?_
            repeat (first | exact trivial | refine stj ?_ | refine ldCg ?_ | refine ldNg ?_ | refine ldSg ?_ | refine ldSb ?_ | refine bnd ?_ | refine bnd1 ?_)
            refine ⟨?_, ?_⟩
            · have hX27 := hO26
              refine apS (sz := 2) (n := tt.length) (m := 1) (news := [.int .u16 0, .slice none 0 0]) Tryz.underlying23 z51 c51 rfl (by decide) hX27 (by omega) (SlC.of_blk hF26 (by decide)) rfl (by intro u hu; rcases List.mem_cons.1 hu with rfl | hu; rfl; rcases List.mem_cons.1 hu with rfl | hu; rfl; cases hu) (by omega) (by rw [by51]; omega) (fun v27 w27 hO27 hg27 => ?_)
              have hE27 := below_of_grown hX27 (by omega) hg27
              have hz27 := hE27.size
              rw [hln, hcn] at hO27
              obtain ⟨a27, c27, rfl⟩ := own_slice hO27
              refine toldK ?_
              repeat (first | exact trivial | refine stj ?_ | refine ldCg ?_ | refine ldNg ?_ | refine ldSg ?_ | refine ldSb ?_ | refine bnd ?_ | refine bnd1 ?_)
              refine bldC [.slice a27 (tt ++ [zs]).length c27, .slice qa qs.length qc] (by kernel_rfl) ?_
              repeat (first | exact trivial | refine stj ?_ | refine ldCg ?_ | refine ldNg ?_ | refine ldSg ?_ | refine ldSb ?_ | refine bnd ?_ | refine bnd1 ?_)
              first | refine newS ?_ | refine newZ ?_
              intro w28 hE28 hz28 hB28
              refine toldK ?_
              repeat (first | exact trivial | refine stj ?_ | refine ldCg ?_ | refine ldNg ?_ | refine ldSg ?_ | refine ldSb ?_ | refine bnd ?_ | refine bnd1 ?_)
              have hq29 := hB28
              have ho29 := (hO27.ext (w' := w28) .go)
              refine stW (hb := hq29) ?_
              intro w29 hP29 hz29 hB29
              refine toldZ ?_
              repeat (first | exact trivial | refine stj ?_ | refine ldCg ?_ | refine ldNg ?_ | refine ldSg ?_ | refine ldSb ?_ | refine bnd ?_ | refine bnd1 ?_)
              have ht29 := ho29.put hq29 (by decide) hP29
              exact ⟨(a27, c27, w27.heap.size), ⟨.go, hB29, ⟨SlC.of_own ht29, hall _ .go⟩⟩, rfl⟩
            · first | refine newS ?_ | refine newZ ?_
              intro w27 hE27 hz27 hB27
              refine toldK ?_
              repeat (first | exact trivial | refine stj ?_ | refine ldCg ?_ | refine ldNg ?_ | refine ldSg ?_ | refine ldSb ?_ | refine bnd ?_ | refine bnd1 ?_)
              have hX28 := (hO26.ext (w' := w27) .go)
              refine apS (sz := 2) (n := tt.length) (m := 1) (news := [.int .u16 0, .slice none 0 0]) Tryz.underlying23 z51 c51 rfl (by decide) hX28 (by omega) (SlC.of_blk (hF26.ext (w' := w27) .go) (by decide)) rfl (by intro u hu; rcases List.mem_cons.1 hu with rfl | hu; rfl; rcases List.mem_cons.1 hu with rfl | hu; rfl; cases hu) (by omega) (by rw [by51]; omega) (fun v28 w28 hO28 hg28 => ?_)
              have hE28 := below_of_grown hX28 (by omega) hg28
              have hz28 := hE28.size
              rw [hln, hcn] at hO28
              have hL28 := OnlyBy.of_grown hg28 _ _ _ (hX28.ne_blk hB27 (by decide)) hB27
              obtain ⟨a28, c28, rfl⟩ := own_slice hO28
              refine toldK ?_
              repeat (first | exact trivial | refine stj ?_ | refine ldCg ?_ | refine ldNg ?_ | refine ldSg ?_ | refine ldSb ?_ | refine bnd ?_ | refine bnd1 ?_)
              refine bldC [.slice a28 (tt ++ [zs]).length c28, .slice qa qs.length qc] (by kernel_rfl) ?_
              repeat (first | exact trivial | refine stj ?_ | refine ldCg ?_ | refine ldNg ?_ | refine ldSg ?_ | refine ldSb ?_ | refine bnd ?_ | refine bnd1 ?_)
              have hq29 := hL28
              have ho29 := hO28
              refine stW (hb := hq29) ?_
              intro w29 hP29 hz29 hB29
              refine toldZ ?_
              repeat (first | exact trivial | refine stj ?_ | refine ldCg ?_ | refine ldNg ?_ | refine ldSg ?_ | refine ldSb ?_ | refine bnd ?_ | refine bnd1 ?_)
              have ht29 := ho29.put hq29 (by decide) hP29
              exact ⟨(a28, c28, w26.heap.size), ⟨.go, hB29, ⟨SlC.of_own ht29, hall _ .go⟩⟩, rfl⟩
          · first | refine newS ?_ | refine newZ ?_
            intro w26 hE26 hz26 hB26
            refine toldK ?_
            repeat (first | exact trivial | refine stj ?_ | refine ldCg ?_ | refine ldNg ?_ | refine ldSg ?_ | refine ldSb ?_ | refine bnd ?_ | refine bnd1 ?_)
            have hX27 := (hO25.ext (w' := w26) .go)
            refine apS (sz := 2) (n := 0) (m := tt.length) Tryz.underlying23 z51 c51 rfl (by decide) hX27 (by omega) (hSt.1.ext .go) hcl hone (by omega) (by rw [by51]; omega) (fun v27 w27 hO27 hg27 => ?_)
            have hE27 := below_of_grown hX27 (by omega) hg27
            have hz27 := hE27.size
            rw [Nat.zero_add, List.nil_append] at hO27
            have hF27 := OnlyBy.of_grown hg27 _ _ _ (fun e => by simp only [Value.ownBlock, Option.some.injEq] at e; omega) (hB24.ext (w' := w26) .go)
            have hL27 := OnlyBy.of_grown hg27 _ _ _ (hX27.ne_blk hB26 (by decide)) hB26
            obtain ⟨a27, c27, rfl⟩ := own_slice hO27
            refine toldK ?_
            repeat (first | exact trivial | refine stj ?_ | refine ldCg ?_ | refine ldNg ?_ | refine ldSg ?_ | refine ldSb ?_ | refine bnd ?_ | refine bnd1 ?_)
            have hX28 := hO27
            refine apS (sz := 2) (n := tt.length) (m := 1) (news := [.int .u16 0, .slice none 0 0]) Tryz.underlying23 z51 c51 rfl (by decide) hX28 (by omega) (SlC.of_blk hF27 (by decide)) rfl (by intro u hu; rcases List.mem_cons.1 hu with rfl | hu; rfl; rcases List.mem_cons.1 hu with rfl | hu; rfl; cases hu) (by omega) (by rw [by51]; omega) (fun v28 w28 hO28 hg28 => ?_)
            have hE28 := below_of_grown hX28 (by omega) hg28
            have hz28 := hE28.size
            rw [hln, hcn] at hO28
            have hL28 := OnlyBy.of_grown hg28 _ _ _ (hX28.ne_blk hL27 (by decide)) hL27
            obtain ⟨a28, c28, rfl⟩ := own_slice hO28
            refine toldK ?_
            repeat (first | exact trivial | refine stj ?_ | refine ldCg ?_ | refine ldNg ?_ | refine ldSg ?_ | refine ldSb ?_ | refine bnd ?_ | refine bnd1 ?_)
            refine bldC [.slice a28 (tt ++ [zs]).length c28, .slice qa qs.length qc] (by kernel_rfl) ?_
            repeat (first | exact trivial | refine stj ?_ | refine ldCg ?_ | refine ldNg ?_ | refine ldSg ?_ | refine ldSb ?_ | refine bnd ?_ | refine bnd1 ?_)
            have hq29 := hL28
            have ho29 := hO28
            refine stW (hb := hq29) ?_
            intro w29 hP29 hz29 hB29
            refine toldZ ?_
            repeat (first | exact trivial | refine stj ?_ | refine ldCg ?_ | refine ldNg ?_ | refine ldSg ?_ | refine ldSb ?_ | refine bnd ?_ | refine bnd1 ?_)
            have ht29 := ho29.put hq29 (by decide) hP29
            exact ⟨(a28, c28, w25.heap.size), ⟨.go, hB29, ⟨SlC.of_own ht29, hall _ .go⟩⟩, rfl⟩
        · first | refine newS ?_ | refine newZ ?_
          intro w25 hE25 hz25 hB25
          refine toldK ?_
          repeat (first | exact trivial | refine stj ?_ | refine ldCg ?_ | refine ldNg ?_ | refine ldSg ?_ | refine ldSb ?_ | refine bnd ?_ | refine bnd1 ?_)
          refine ⟨rfl, ?_⟩
          first | refine newS ?_ | refine newZ ?_
          intro w26 hE26 hz26 hB26
          refine toldK ?_
          repeat (first | exact trivial | refine stj ?_ | refine ldCg ?_ | refine ldNg ?_ | refine ldSg ?_ | refine ldSb ?_ | refine bnd ?_ | refine bnd1 ?_)
          have hO26 : Own w26 w22.heap.size 51 2 (.slice (some ⟨w25.heap.size, 0, none⟩) 0 0) 0 [] := own_mk (xs := []) (rest := []) hB26 (by omega) rfl rfl (Nat.le_refl _) (by decide)
          have hX27 := hO26
          refine apS (sz := 2) (n := 0) (m := tt.length) Tryz.underlying23 z51 c51 rfl (by decide) hX27 (by omega) (hSt.1.ext .go) hcl hone (by omega) (by rw [by51]; omega) (fun v27 w27 hO27 hg27 => ?_)
          have hE27 := below_of_grown hX27 (by omega) hg27
          have hz27 := hE27.size
          rw [Nat.zero_add, List.nil_append] at hO27
          have hF27 := OnlyBy.of_grown hg27 _ _ _ (fun e => by simp only [Value.ownBlock, Option.some.injEq] at e; omega) (hB24.ext (w' := w26) .go)
          have hL27 := OnlyBy.of_grown hg27 _ _ _ (hX27.ne_blk (hB25.ext (w' := w26) .go) (by decide)) (hB25.ext (w' := w26) .go)
          obtain ⟨a27, c27, rfl⟩ := own_slice hO27
          refine toldK ?_
          repeat (first | exact trivial | refine stj ?_ | refine ldCg ?_ | refine ldNg ?_ | refine ldSg ?_ | refine ldSb ?_ | refine bnd ?_ | refine bnd1 ?_)
          have hX28 := hO27
          refine apS (sz := 2) (n := tt.length) (m := 1) (news := [.int .u16 0, .slice none 0 0]) Tryz.underlying23 z51 c51 rfl (by decide) hX28 (by omega) (SlC.of_blk hF27 (by decide)) rfl (by intro u hu; rcases List.mem_cons.1 hu with rfl | hu; rfl; rcases List.mem_cons.1 hu with rfl | hu; rfl; cases hu) (by omega) (by rw [by51]; omega) (fun v28 w28 hO28 hg28 => ?_)
          have hE28 := below_of_grown hX28 (by omega) hg28
          have hz28 := hE28.size
          rw [hln, hcn] at hO28
          have hL28 := OnlyBy.of_grown hg28 _ _ _ (hX28.ne_blk hL27 (by decide)) hL27
          obtain ⟨a28, c28, rfl⟩ := own_slice hO28
          refine toldK ?_
          repeat (first | exact trivial | refine stj ?_ | refine ldCg ?_ | refine ldNg ?_ | refine ldSg ?_ | refine ldSb ?_ | refine bnd ?_ | refine bnd1 ?_)
          refine bldC [.slice a28 (tt ++ [zs]).length c28, .slice qa qs.length qc] (by kernel_rfl) ?_
          repeat (first | exact trivial | refine stj ?_ | refine ldCg ?_ | refine ldNg ?_ | refine ldSg ?_ | refine ldSb ?_ | refine bnd ?_ | refine bnd1 ?_)
          have hq29 := hL28
          have ho29 := hO28
          refine stW (hb := hq29) ?_
          intro w29 hP29 hz29 hB29
          refine toldZ ?_
          repeat (first | exact trivial | refine stj ?_ | refine ldCg ?_ | refine ldNg ?_ | refine ldSg ?_ | refine ldSb ?_ | refine bnd ?_ | refine bnd1 ?_)
          have ht29 := ho29.put hq29 (by decide) hP29
          exact ⟨(a28, c28, w24.heap.size), ⟨.go, hB29, ⟨SlC.of_own ht29, hall _ .go⟩⟩, rfl⟩
      · first | refine newS ?_ | refine newZ ?_
        intro w24 hE24 hz24 hB24
        refine toldK ?_
        repeat (first | exact trivial | refine stj ?_ | refine ldCg ?_ | refine ldNg ?_ | refine ldSg ?_ | refine ldSb ?_ | refine bnd ?_ | refine bnd1 ?_)
        refine ⟨?_, ?_⟩
        · refine ⟨rfl, ?_⟩
          first | refine newS ?_ | refine newZ ?_
          intro w25 hE25 hz25 hB25
          refine toldK ?_
          repeat (first | exact trivial | refine stj ?_ | refine ldCg ?_ | refine ldNg ?_ | refine ldSg ?_ | refine ldSb ?_ | refine bnd ?_ | refine bnd1 ?_)
          have hO25 : Own w25 w22.heap.size 51 2 (.slice (some ⟨w24.heap.size, 0, none⟩) 0 0) 0 [] := own_mk (xs := []) (rest := []) hB25 (by omega) rfl rfl (Nat.le_refl _) (by decide)
          refine ⟨?_, ?_⟩
          · have hX26 := hO25
            refine apS (sz := 2) (n := 0) (m := tt.length) Tryz.underlying23 z51 c51 rfl (by decide) hX26 (by omega) (hSt.1.ext .go) hcl hone (by omega) (by rw [by51]; omega) (fun v26 w26 hO26 hg26 => ?_)
            have hE26 := below_of_grown hX26 (by omega) hg26
            have hz26 := hE26.size
            rw [Nat.zero_add, List.nil_append] at hO26
            have hL26 := OnlyBy.of_grown hg26 _ _ _ (hX26.ne_blk (hB24.ext (w' := w25) .go) (by decide)) (hB24.ext (w' := w25) .go)
            obtain ⟨a26, c26, rfl⟩ := own_slice hO26
            refine toldK ?_
            repeat (first | exact trivial | refine stj ?_ | refine ldCg ?_ | refine ldNg ?_ | refine ldSg ?_ | refine ldSb ?_ | refine bnd ?_ | refine bnd1 ?_)
            refine ⟨rfl, rfl, ?_⟩
            first | refine newS ?_ | refine newZ ?_
            intro w27 hE27 hz27 hB27
            refine toldK ?_
            repeat (first | exact trivial | refine stj ?_ | refine ldCg ?_ | refine ldNg ?_ | refine ldSg ?_ | refine ldSb ?_ | refine bnd ?_ | refine bnd1 ?_)
            have hX28 := (hO26.ext (w' := w27) .go)
            refine apS (sz := 2) (n := tt.length) (m := 1) (news := [.int .u16 0, .slice none 0 0]) Tryz.underlying23 z51 c51 rfl (by decide) hX28 (by omega) (SlC.of_blk hB27 (by decide)) rfl (by intro u hu; rcases List.mem_cons.1 hu with rfl | hu; rfl; rcases List.mem_cons.1 hu with rfl | hu; rfl; cases hu) (by omega) (by rw [by51]; omega) (fun v28 w28 hO28 hg28 => ?_)
            have hE28 := below_of_grown hX28 (by omega) hg28
            have hz28 := hE28.size
            rw [hln, hcn] at hO28
            have hL28 := OnlyBy.of_grown hg28 _ _ _ (hX28.ne_blk (hL26.ext (w' := w27) .go) (by decide)) (hL26.ext (w' := w27) .go)
            obtain ⟨a28, c28, rfl⟩ := own_slice hO28
            refine toldK ?_
            repeat (first | exact trivial | refine stj ?_ | refine ldCg ?_ | refine ldNg ?_ | refine ldSg ?_ | refine ldSb ?_ | refine bnd ?_ | refine bnd1 ?_)
            refine bldC [.slice a28 (tt ++ [zs]).length c28, .slice qa qs.length qc] (by kernel_rfl) ?_
            repeat (first | exact trivial | refine stj ?_ | refine ldCg ?_ | refine ldNg ?_ | refine ldSg ?_ | refine ldSb ?_ | refine bnd ?_ | refine bnd1 ?_)
            have hq29 := hL28
            have ho29 := hO28
            refine stW (hb := hq29) ?_
            intro w29 hP29 hz29 hB29
            refine toldZ ?_
            repeat (first | exact trivial | refine stj ?_ | refine ldCg ?_ | refine ldNg ?_ | refine ldSg ?_ | refine ldSb ?_ | refine bnd ?_ | refine bnd1 ?_)
            have ht29 := ho29.put hq29 (by decide) hP29
            exact ⟨(a28, c28, w23.heap.size), ⟨.go, hB29, ⟨SlC.of_own ht29, hall _ .go⟩⟩, rfl⟩
          · refine ⟨rfl, rfl, ?_⟩
            first | refine newS ?_ | refine newZ ?_
            intro w26 hE26 hz26 hB26
            refine toldK ?_
            repeat (first | exact trivial | refine stj ?_ | refine ldCg ?_ | refine ldNg ?_ | refine ldSg ?_ | refine ldSb ?_ | refine bnd ?_ | refine bnd1 ?_)
            have hX27 := (hO25.ext (w' := w26) .go)
            refine apS (sz := 2) (n := 0) (m := tt.length) Tryz.underlying23 z51 c51 rfl (by decide) hX27 (by omega) (hSt.1.ext .go) hcl hone (by omega) (by rw [by51]; omega) (fun v27 w27 hO27 hg27 => ?_)
            have hE27 := below_of_grown hX27 (by omega) hg27
            have hz27 := hE27.size
            rw [Nat.zero_add, List.nil_append] at hO27
            have hF27 := OnlyBy.of_grown hg27 _ _ _ (fun e => by simp only [Value.ownBlock, Option.some.injEq] at e; omega) hB26
            have hL27 := OnlyBy.of_grown hg27 _ _ _ (hX27.ne_blk (hB24.ext (w' := w26) .go) (by decide)) (hB24.ext (w' := w26) .go)
            obtain ⟨a27, c27, rfl⟩ := own_slice hO27
            refine toldK ?_
            repeat (first | exact trivial | refine stj ?_ | refine ldCg ?_ | refine ldNg ?_ | refine ldSg ?_ | refine ldSb ?_ | refine bnd ?_ | refine bnd1 ?_)
            have hX28 := hO27
            refine apS (sz := 2) (n := tt.length) (m := 1) (news := [.int .u16 0, .slice none 0 0]) Tryz.underlying23 z51 c51 rfl (by decide) hX28 (by omega) (SlC.of_blk hF27 (by decide)) rfl (by intro u hu; rcases List.mem_cons.1 hu with rfl | hu; rfl; rcases List.mem_cons.1 hu with rfl | hu; rfl; cases hu) (by omega) (by rw [by51]; omega) (fun v28 w28 hO28 hg28 => ?_)
            have hE28 := below_of_grown hX28 (by omega) hg28
            have hz28 := hE28.size
            rw [hln, hcn] at hO28
            have hL28 := OnlyBy.of_grown hg28 _ _ _ (hX28.ne_blk hL27 (by decide)) hL27
            obtain ⟨a28, c28, rfl⟩ := own_slice hO28
            refine toldK ?_
            repeat (first | exact trivial | refine stj ?_ | refine ldCg ?_ | refine ldNg ?_ | refine ldSg ?_ | refine ldSb ?_ | refine bnd ?_ | refine bnd1 ?_)
            refine bldC [.slice a28 (tt ++ [zs]).length c28, .slice qa qs.length qc] (by kernel_rfl) ?_
            repeat (first | exact trivial | refine stj ?_ | refine ldCg ?_ | refine ldNg ?_ | refine ldSg ?_ | refine ldSb ?_ | refine bnd ?_ | refine bnd1 ?_)
            have hq29 := hL28
            have ho29 := hO28
            refine stW (hb := hq29) ?_
            intro w29 hP29 hz29 hB29
            refine toldZ ?_
            repeat (first | exact trivial | refine stj ?_ | refine ldCg ?_ | refine ldNg ?_ | refine ldSg ?_ | refine ldSb ?_ | refine bnd ?_ | refine bnd1 ?_)
            have ht29 := ho29.put hq29 (by decide) hP29
            exact ⟨(a28, c28, w23.heap.size), ⟨.go, hB29, ⟨SlC.of_own ht29, hall _ .go⟩⟩, rfl⟩
        · refine ⟨rfl, rfl, ?_⟩
          first | refine newS ?_ | refine newZ ?_
          intro w25 hE25 hz25 hB25
          refine toldK ?_
          repeat (first | exact trivial | refine stj ?_ | refine ldCg ?_ | refine ldNg ?_ | refine ldSg ?_ | refine ldSb ?_ | refine bnd ?_ | refine bnd1 ?_)
          refine ⟨rfl, ?_⟩
          first | refine newS ?_ | refine newZ ?_
          intro w26 hE26 hz26 hB26
          refine toldK ?_
          repeat (first | exact trivial | refine stj ?_ | refine ldCg ?_ | refine ldNg ?_ | refine ldSg ?_ | refine ldSb ?_ | refine bnd ?_ | refine bnd1 ?_)
          have hO26 : Own w26 w22.heap.size 51 2 (.slice (some ⟨w25.heap.size, 0, none⟩) 0 0) 0 [] := own_mk (xs := []) (rest := []) hB26 (by omega) rfl rfl (Nat.le_refl _) (by decide)
          have hX27 := hO26
          refine apS (sz := 2) (n := 0) (m := tt.length) Tryz.underlying23 z51 c51 rfl (by decide) hX27 (by omega) (hSt.1.ext .go) hcl hone (by omega) (by rw [by51]; omega) (fun v27 w27 hO27 hg27 => ?_)
          have hE27 := below_of_grown hX27 (by omega) hg27
          have hz27 := hE27.size
          rw [Nat.zero_add, List.nil_append] at hO27
          have hF27 := OnlyBy.of_grown hg27 _ _ _ (fun e => by simp only [Value.ownBlock, Option.some.injEq] at e; omega) (hB25.ext (w' := w26) .go)
          have hL27 := OnlyBy.of_grown hg27 _ _ _ (hX27.ne_blk (hB24.ext (w' := w26) .go) (by decide)) (hB24.ext (w' := w26) .go)
          obtain ⟨a27, c27, rfl⟩ := own_slice hO27
          refine toldK ?_
          repeat (first | exact trivial | refine stj ?_ | refine ldCg ?_ | refine ldNg ?_ | refine ldSg ?_ | refine ldSb ?_ | refine bnd ?_ | refine bnd1 ?_)
          have hX28 := hO27
          refine apS (sz := 2) (n := tt.length) (m := 1) (news := [.int .u16 0, .slice none 0 0]) Tryz.underlying23 z51 c51 rfl (by decide) hX28 (by omega) (SlC.of_blk hF27 (by decide)) rfl (by intro u hu; rcases List.mem_cons.1 hu with rfl | hu; rfl; rcases List.mem_cons.1 hu with rfl | hu; rfl; cases hu) (by omega) (by rw [by51]; omega) (fun v28 w28 hO28 hg28 => ?_)
          have hE28 := below_of_grown hX28 (by omega) hg28
          have hz28 := hE28.size
          rw [hln, hcn] at hO28
          have hL28 := OnlyBy.of_grown hg28 _ _ _ (hX28.ne_blk hL27 (by decide)) hL27
          obtain ⟨a28, c28, rfl⟩ := own_slice hO28
          refine toldK ?_
          repeat (first | exact trivial | refine stj ?_ | refine ldCg ?_ | refine ldNg ?_ | refine ldSg ?_ | refine ldSb ?_ | refine bnd ?_ | refine bnd1 ?_)
          refine bldC [.slice a28 (tt ++ [zs]).length c28, .slice qa qs.length qc] (by kernel_rfl) ?_
          repeat (first | exact trivial | refine stj ?_ | refine ldCg ?_ | refine ldNg ?_ | refine ldSg ?_ | refine ldSb ?_ | refine bnd ?_ | refine bnd1 ?_)
          have hq29 := hL28
          have ho29 := hO28
          refine stW (hb := hq29) ?_
          intro w29 hP29 hz29 hB29
          refine toldZ ?_
          repeat (first | exact trivial | refine stj ?_ | refine ldCg ?_ | refine ldNg ?_ | refine ldSg ?_ | refine ldSb ?_ | refine bnd ?_ | refine bnd1 ?_)
          have ht29 := ho29.put hq29 (by decide) hP29
          exact ⟨(a28, c28, w23.heap.size), ⟨.go, hB29, ⟨SlC.of_own ht29, hall _ .go⟩⟩, rfl⟩
    rintro ⟨la, lc, lb⟩ s40 w40 ⟨hE40, hB40, hSt40⟩
    simp only at hB40 hSt40
    have hz40 := hE40.size
    repeat (first | exact trivial | refine stp ?_ | refine ldCg ?_ | refine ldNg ?_ | refine ldSg ?_ | refine ldSb ?_ | refine bnd ?_ | refine bnd1 ?_)
    refine drawX (.of [0, 1, 3, 4, 2, 5, 6, 7, 8, 9, 10, 11, 12]) mixed (by decide +kernel) (fun w41 hE41 hz41 => ?_)
    repeat (first | exact trivial | refine stpg ?_)
    refine (Root_hamt_ok n _ _ m w41 (hW.ext .go) (hM7.ext .go) hO.len).mono ?_
    rintro _ w42 ⟨rfl, hE42⟩
    have hz42 := hE42.size
    refine toldX ?_
    repeat (first | exact trivial | refine stpg ?_)
    refine (Check_ok n (rootD n m) key hrl _ _ _ (tt ++ [zs]) qs w42 (hW.ext .go) (hk9.ext .go) (by omega) (hSt40.ext' .go) (hPr.ext' .go) (fun p hp => by have := hkb p hp; omega) (by omega)).mono ?_
    rintro _ w43 ⟨e, f, cv, rfl, hRE3, hf3, hO43, hE43⟩
    have hz43 := hE43.size
    obtain rfl : e = 10 := longer_err hw (by omega) hkid (by rw [hzs]) (by rw [hzs]) hRE3
    obtain rfl : f = 10 := by
      rw [hf3]
      unfold checkE
      rw [if_neg (by decide), if_neg (by rw [hrf]; decide), if_neg (fun h => by cases h.1)]
    refine toldX ?_
    repeat (first | exact trivial | refine stpg ?_)
    have heN : EnsAt w43 (.slice none 0 0) [] := ⟨⟨none, 0, rfl, Nat.le_refl _, by decide, Or.inl rfl⟩, by simp⟩
    refine (mapped_ok n hw [] _ w43 (hW.ext .go) heN (by simp)).mono ?_
    rintro _ w44 ⟨⟨b8, bb8, B8, rv8, rfl, hM44, _, _, _⟩, hE44⟩
    have hz44 := hE44.size
    change MapAt n _ w44 _ [] at hM44
    have hON : OkI n [] := OkI.nil n
    have hwN : walkI n (keyD n key) 64 0 [] = ([], []) := walkI_single _ _ _ _ rfl
    repeat (first | exact trivial | refine stpg ?_)
    refine (Prove_hproof_ok n hw _ _ _ [] key w44 (hW.ext .go) hM44 hON (hk9.ext .go) (by simp)).mono ?_
    rintro _ w45 ⟨sv8, qv8, tt8, qs8, rfl, hOs8, hRk8, hOp8, hRb8, htd8, hqd8, hE45⟩
    have hz45 := hE45.size
    rw [if_neg h64] at htd8 hqd8
    rw [if_neg h64]
    have hPI8 : PathI n [] key tt8 qs8 := ⟨htd8, hqd8⟩
    rw [hwN] at htd8 hqd8
    obtain rfl : tt8 = [] := by simpa [cutS] using htd8
    obtain rfl : qs8 = [] := by simpa using hqd8
    obtain ⟨sa8, sc8, rfl⟩ := own_slice hOs8
    obtain ⟨qa8, qc8, rfl⟩ := own_slice hOp8
    have hSt8 := hRk8.stepsAt hOs8
    have hPr8 := PairsAt.ofRun hOp8 hRb8
    have hrd8 := hPI8.root hw hON
    have hot8 : outT 0 key [] = false := rfl
    have hrl8 : (rootD n []).length = 32 := by rw [← hrd8]; exact outD_len _ _ _ _ _
    have hrf8 : formB n (rootD n []) = true := by
      unfold rootD
      split
      · exact form_sumR _ _ hw
      · exact form_node _ hw _ _ _
    repeat (first | exact trivial | refine stpg ?_)
    first | refine newS ?_ | refine newZ ?_
    intro w46 hE46 hz46 hB46
    repeat (first | exact trivial | refine stp ?_ | refine ldCg ?_ | refine ldNg ?_ | refine ldSg ?_ | refine ldSb ?_ | refine bnd ?_ | refine bnd1 ?_)
    refine drawX (.of [0, 1, 3, 4, 2, 5, 6, 7, 8, 9, 10, 11, 12]) mixed (by decide +kernel) (fun w47 hE47 hz47 => ?_)
    repeat (first | exact trivial | refine stpg ?_)
    refine (Root_hamt_ok n _ _ [] w47 (hW.ext .go) (hM44.ext .go) hON.len).mono ?_
    rintro _ w48 ⟨rfl, hE48⟩
    have hz48 := hE48.size
    refine toldX ?_
    repeat (first | exact trivial | refine stpg ?_)
    refine (Check_ok n (rootD n []) key hrl8 _ _ _ [] [] w48 (hW.ext .go) (hk9.ext .go) (by omega) (hSt8.ext' .go) (hPr8.ext' .go) (fun p hp => by cases hp) (by simp)).mono ?_
    rintro _ w49 ⟨e, f, cv8, rfl, hRE8, hf8, hO49, hE49⟩
    have hz49 := hE49.size
    obtain rfl : e = 0 := hPI8.ok hw hON (by omega) hRE8
    obtain rfl : f = 0 := by
      rw [hf8, hrd8]
      unfold checkE
      rw [if_neg (by decide), if_neg (by rw [hrf8]; decide), if_neg (fun h => h.2 rfl)]
    rw [hot8]
    refine toldX ?_
    repeat (first | exact trivial | refine stpg ?_)
    refine ⟨fun _ => ?_, fun h => absurd rfl h⟩
    repeat (first | exact trivial | refine stpg ?_)
    exact .go
theorem Shown_oki (m8 : Int) (h8 : 0 ≤ m8 ∧ m8 ≤ 255) (es : List EnR) (ev pv : Value) (probe : List UInt8) (pk : Int) (hpk : 0 ≤ pk ∧ pk ≤ 65535) (w : World) (hW : WordsAt w 1) (he : EnsAt w ev es) (hp : SlB w pv probe) (hl : es.length ≤ 80000000) :
    CallK Tryz.prog 6 [.int .u8 m8, ev, pv, .int .u16 pk].toArray w fun v w' => v = .bool true ∧ Ext w w' := by
  obtain ⟨k, rfl⟩ : ∃ k : Nat, m8 = k := ⟨m8.toNat, by omega⟩
  obtain ⟨q, rfl⟩ : ∃ q : Nat, pk = q := ⟨pk.toNat, by omega⟩
  exact Shown_ok k (by omega) es ev pv probe q (by omega) w hW he hp hl
end Go.Proofs.YthlkfjoibjhaiaaGreatDoor

/-! Row -/
namespace Go.Proofs.YthlkfjoibjhaiaaGreatDoor
set_option maxRecDepth 100000
set_option maxHeartbeats 2000000
open Go Go.RowKit Go.ChangeShapes Go.WideShapes Go.ChangeAt
set_option linter.unusedVariables false
set_option linter.unusedSimpArgs false

/-- Each of the types can be read and is a row of the table. -/
def rowedT (P : Program) (ts : List TypeId) : Bool := ts.all fun t => P.readableRec t && decide (t < P.types.size)

theorem below_trodAll {H : Type} {enc : TypeId × Value → H} {P : Program} (hl : laidOutB P = true) {W W' : World} (hb : Below W.heap.size W W') :
    ∀ {ts : List TypeId} {vs : List Value} {ds : List (DataW H)} {ps : List MemPlace}, rowedT P ts = true → DataW.TrodAll enc P W 0 (fun _ => true) true ts vs ds ps → (∀ x ∈ ps, x.block < W.heap.size) → DataW.TrodAll enc P W' 0 (fun b => decide (b < W.heap.size)) true ts vs ds ps
  | [], [], [], _, _, h, _ => h
  | [], _ :: _, _, _, _, h, _ => by simp [DataW.TrodAll] at h
  | [], [], _ :: _, _, _, h, _ => by simp [DataW.TrodAll] at h
  | _ :: _, [], _, _, _, h, _ => by simp [DataW.TrodAll] at h
  | _ :: _, _ :: _, [], _, _, h, _ => by simp [DataW.TrodAll] at h
  | t :: ts, v :: vs, d :: ds, ps, hr, h, hlt => by
    obtain ⟨p, q, h1, h2, rfl⟩ := h
    simp only [rowedT, List.all_cons, Bool.and_eq_true, decide_eq_true_eq] at hr
    refine ⟨p, q, Below.trod hl hr.1.1 hr.1.2 h1 hb (fun x hx => hlt x (by simp [hx])), below_trodAll hl hb (by simpa [rowedT] using hr.2) h2 (fun x hx => hlt x (by simp [hx])), rfl⟩

/-- What a law's row asks of the end, given what the walk says: true, and nothing old has turned. -/
theorem law_post {H : Type} {enc : TypeId × Value → H} {P : Program} (hl : laidOutB P = true) {f : Func} {s : ChangeSpec} {tb : TypeId} (hr : f.resultTypes = #[tb]) (hb : P.underlying tb = some .bool)
    (hp : rowedT P f.params.toList = true) (hv : s.vars = []) {W W' : World} {args : Array Value} {ds gs : List (DataW H)} {before : List MemPlace}
    (hW : DataW.Whole enc P f.params.toList s.vars false W args.toList ds gs before)
    (hfn : (s.fn H (ds ++ gs)).results = [.lit (.bool true)] ∧ (s.fn H (ds ++ gs)).args = ds ∧ (s.fn H (ds ++ gs)).vars = gs) (hE : Ext W W') :
    s.post enc P f false true false false W args (.bool true) W' := by
  have hW' := hW
  obtain ⟨p, q, hA, hV, rfl, hfz, hnd⟩ := hW
  refine ⟨ds, gs, p ++ q, [], p, q, hW', ?_, ?_, ?_, hE.frame _, fun h => by cases h⟩
  · rw [hfn.1, hr]
    exact trodAll_cons_mk (shut_bool hb _) trodAll_mk0
  · rw [hfn.2.1]
    exact below_trodAll hl hE hp hA (fun x hx => by simpa using hW'.lt x (by simp [hx]))
  · rw [hfn.2.2]
    rw [hv] at hV ⊢
    obtain ⟨rfl, rfl⟩ := trodVars_none hV
    rfl

theorem CallK.toCalls {P : Program} {f : FuncId} {args : Array Value} {w : World} (h : CallK P f args w fun v w' => v = .bool true ∧ Ext w w') (hb : callable P f = true) : Calls P f args w fun e w' => e = .returned (.bool true) ∧ Ext w w' :=
  (h.body hb).calls.mono fun e w' ⟨v, he, hv, hE⟩ => ⟨by rw [he, hv], hE⟩

/-! ### Arguments opened -/
theorem wf_bounds {k : IntKind} {n : Int} (h : (Lit.int k n).wf = true) : k.min ≤ n ∧ n ≤ k.max := by
  simpa [Lit.wf] using h
theorem cells_u8 {H : Type} {enc : TypeId × Value → H} {P : Program} {w : World} {base : Nat} {sp : Nat → Bool} {held : Bool} {fuel e : Nat} {c : List Value} {x : DataW H × List MemPlace} (he : P.underlying e = some (.int .u8))
    (h : DataW.trod enc P w base sp held fuel e c = some x) : ∃ b : UInt8, c = [vb b] := by
  obtain ⟨n, h1, hx, hw⟩ := DataW.trod_int he h
  have hb := wf_bounds hw
  simp [IntKind.min, IntKind.max, IntKind.signed, IntKind.bits] at hb
  refine ⟨UInt8.ofNat n.toNat, ?_⟩
  rw [h1]
  simp only [vb, UInt8.toNat_ofNat', List.cons.injEq, and_true]
  rw [Nat.mod_eq_of_lt (by omega), Int.toNat_of_nonneg hb.1]

theorem open_num {H : Type} {enc : TypeId × Value → H} {P : Program} {w : World} {base b0 : Nat} {r : Reach} {sp : Nat → Bool} {held : Bool} {t : Nat} {k : IntKind} {v : Value} {d : DataW H} {ps : List MemPlace} (ht : P.underlying t = some (.int k))
    (hval : Value.okWide P w r b0 t v) (hd : DataW.Trod enc P w base sp held t v d ps) : ∃ n : Int, v = .int k n ∧ k.min ≤ n ∧ n ≤ k.max := by
  obtain ⟨n, rfl, _, _, h⟩ := open_int ht hval hd
  exact ⟨n, rfl, wf_bounds h⟩

theorem list_of {α : Type} {p : Nat → α → Prop} : ∀ n, (∀ i, i < n → ∃ x, p i x) → ∃ l : List α, l.length = n ∧ ∀ i x, l[i]? = some x → p i x
  | 0, _ => ⟨[], rfl, by simp⟩
  | n + 1, h => by
    obtain ⟨l, hl, hp⟩ := list_of n (fun i hi => h i (by omega))
    obtain ⟨x, hx⟩ := h n (by omega)
    refine ⟨l ++ [x], by simp [hl], fun i y hy => ?_⟩
    by_cases hi : i < n
    · rw [List.getElem?_append_left (by omega)] at hy; exact hp i y hy
    · rw [List.getElem?_append_right (by omega)] at hy
      have : i - l.length = 0 := by
        rcases Nat.eq_zero_or_pos (i - l.length) with h0 | h0
        · exact h0
        · rw [List.getElem?_eq_none (by simp; omega)] at hy; cases hy
      have e : i = n := by omega
      rw [this] at hy
      simp at hy
      rw [e, ← hy]; exact hx
theorem flat_inv {α : Type} {f : α → List Value} {sz : Nat} (hz : 0 < sz) : ∀ (ds : List α) (j : Nat) (u : Value), (∀ d ∈ ds, (f d).length = sz) → (ds.flatMap f)[j]? = some u → ∃ d, ds[j / sz]? = some d ∧ (f d)[j % sz]? = some u
  | [], j, u, _, h => by simp at h
  | x :: ds, j, u, hs, h => by
    have hx : (f x).length = sz := hs x (by simp)
    simp only [List.flatMap_cons] at h
    by_cases hj : j < sz
    · rw [List.getElem?_append_left (by omega)] at h
      exact ⟨x, by rw [Nat.div_eq_of_lt hj]; rfl, by rw [Nat.mod_eq_of_lt hj]; exact h⟩
    · rw [List.getElem?_append_right (by omega), hx] at h
      obtain ⟨d, h1, h2⟩ := flat_inv hz ds (j - sz) u (fun d hd => hs d (by simp [hd])) h
      refine ⟨d, ?_, ?_⟩
      · rw [Nat.div_eq_sub_div hz (by omega)]; exact h1
      · rw [show j % sz = (j - sz) % sz from by rw [Nat.mod_eq_sub_mod (by omega)]]; exact h2

end Go.Proofs.YthlkfjoibjhaiaaGreatDoor

/-! RowU -/
namespace Go.Proofs.YthlkfjoibjhaiaaGreatDoor
set_option maxRecDepth 100000
set_option maxHeartbeats 2000000
open Go Go.RowKit Go.ChangeShapes Go.WideShapes Go.ChangeAt
set_option linter.unusedVariables false
set_option linter.unusedSimpArgs false

/-! ### Bulk -/
theorem bulk_one {H : Type} (d : DataW H) : 1 ≤ Rows.uptoBulk d := by
  cases d with
  | lit l => cases l <;> simp [Rows.uptoBulk]
  | nil => simp [Rows.uptoBulk]
  | ptr d => simp [Rows.uptoBulk]
  | slice elems spare => simp [Rows.uptoBulk]
  | agg parts => simp [Rows.uptoBulk]
  | iface t d => simp [Rows.uptoBulk]
  | map entries => simp [Rows.uptoBulk]
  | held h => simp [Rows.uptoBulk]
theorem bulk_mem {H : Type} {d : DataW H} {l : List (DataW H)} (h : d ∈ l) : Rows.uptoBulk d ≤ Rows.uptoBulkAll l := by
  induction l with
  | nil => cases h
  | cons x r ih =>
    simp only [Rows.uptoBulkAll]
    cases List.mem_cons.1 h with
    | inl e => subst e; omega
    | inr e => have := ih e; omega
theorem bulk_len {H : Type} (l : List (DataW H)) : l.length ≤ Rows.uptoBulkAll l := by
  induction l with
  | nil => simp [Rows.uptoBulkAll]
  | cons x r ih => have := bulk_one x; simp only [Rows.uptoBulkAll, List.length_cons]; omega
theorem bulk_small {H : Type} {l : List (DataW H)} (hk : Rows.uptoSmall H l = true) : Rows.uptoBulkAll l ≤ 1048576 := by
  simpa [Rows.uptoSmall] using hk

/-! ### Lists opened, wherever they lie -/
section opened
variable {H : Type} {enc : TypeId × Value → H} {w : World} {sp : Nat → Bool} {fuel : Nat} {cs : List Value} {x : DataW H × List MemPlace}
theorem open_slb {α : Type} {f : α → List Value} {q : Nat → α → Prop} {P : Program} {t e sz : Nat} (ht : P.underlying t = some (.slice e)) (hsz : P.cellsOf e = sz) (hz : 0 < sz) (hq : ∀ m n a, m ≤ n → q m a → q n a)
    (hel : ∀ n cs x, DataW.trod enc P w 0 sp true n e cs = some x → ∃ a, f a = cs ∧ q (Rows.uptoBulk x.1) a) (hf : DataW.trod enc P w 0 sp true fuel t cs = some x) :
    ∃ (v : Value) (l : List α), cs = [v] ∧ (∀ a ∈ l, (f a).length = sz) ∧ SlC w v l.length (l.flatMap f) ∧ l.length ≤ Rows.uptoBulk x.1 ∧ ∀ a ∈ l, q (Rows.uptoBulk x.1) a := by
  rcases Go.Deep.open_slice ht hf with ⟨h1, h2⟩ | ⟨a, len, cap, m, n, D, Pl, h1, hb, hlc, hcm, hmm, hx, hall⟩
  · exact ⟨_, [], h1, by simp, ⟨none, 0, rfl, Nat.le_refl _, by decide, Or.inl rfl⟩, by simp, by simp⟩
  · have hlm : len ≤ m := by rw [hmm]; split <;> omega
    have hcm' : cap ≤ 9223372036854775807 := by simpa [maxLen] using hcm
    have hD : ∀ i, i < len → Rows.uptoBulk (D i) ≤ Rows.uptoBulk x.1 := by
      intro i hi
      rw [hx]
      simp only [Rows.uptoBulk]
      have := bulk_mem (d := D i) (l := (List.range len).map D) (List.mem_map.2 ⟨i, by simpa using hi, rfl⟩)
      omega
    have hlen : len ≤ Rows.uptoBulk x.1 := by
      rw [hx]
      simp only [Rows.uptoBulk]
      have := bulk_len ((List.range len).map D)
      simp at this
      omega
    by_cases h0 : len = 0
    · subst h0
      exact ⟨_, [], h1, by simp, ⟨_, cap, rfl, Nat.zero_le _, hcm', Or.inl rfl⟩, by simp, by simp⟩
    · obtain ⟨b, o, s⟩ := a
      have hspot : s = none := by
        obtain ⟨cs', hc, _⟩ := hall 0 (by omega)
        obtain ⟨_, hlen', hcell⟩ := World.cells?_some hc
        have h3 := hcell 0 (by omega)
        rw [hsz] at h3 hlen'
        cases s with
        | none => rfl
        | some s =>
          exfalso
          have h4 : w.cell? ⟨b, o, some s⟩ = cs'[0]? := by
            have : ((⟨b, o, some s⟩ : Addr).add (0 * sz)).add 0 = ⟨b, o, some s⟩ := by simp [Addr.add]
            rw [← this]
            exact h3
          rw [List.getElem?_eq_getElem (by omega)] at h4
          simp only [World.cell?] at h4
          split at h4 <;> simp at h4
      subst hspot
      obtain ⟨l, hl, hp⟩ := list_of (p := fun i (y : α) => (f y).length = sz ∧ (∀ k u, (f y)[k]? = some u → w.cell? ⟨b, o + (i * sz + k), none⟩ = some u) ∧ q (Rows.uptoBulk x.1) y) len (fun i hi => by
        obtain ⟨cs', hc, ht2⟩ := hall i (by omega)
        obtain ⟨y, rfl, hqy⟩ := hel _ _ _ ht2
        obtain ⟨_, hlen', hcell⟩ := World.cells?_some hc
        rw [hsz] at hlen' hcell
        refine ⟨y, hlen', fun k u hk => ?_, hq _ _ _ (hD i hi) hqy⟩
        have hk' : k < sz := by rw [← hlen']; exact (List.getElem?_eq_some_iff.1 hk).1
        have h5 := hcell k hk'
        rw [addr_add, addr_add, hk] at h5
        rwa [Nat.add_assoc] at h5)
      subst h1
      refine ⟨_, l, rfl, fun y hy => ?_, ⟨_, cap, by rw [hl], by omega, hcm', Or.inr ⟨b, o, rfl, fun j u hj => ?_⟩⟩, by omega, fun y hy => ?_⟩
      · obtain ⟨i, hi⟩ := List.getElem?_of_mem hy
        exact (hp i y hi).1
      · obtain ⟨y, h1, h2⟩ := flat_inv hz l j u (fun y hy => by obtain ⟨i, hi⟩ := List.getElem?_of_mem hy; exact (hp i y hi).1) hj
        have := (hp _ y h1).2.1 _ u h2
        rwa [show j / sz * sz + j % sz = j from by rw [Nat.mul_comm]; exact Nat.div_add_mod j sz] at this
      · obtain ⟨i, hi⟩ := List.getElem?_of_mem hy
        exact (hp i y hi).2.2
theorem vb_flat (l : List UInt8) : l.flatMap (fun b => [vb b]) = vbs l := by
  induction l with
  | nil => rfl
  | cons a l ih => simp only [List.flatMap_cons, ih]; rfl
theorem in_bytes (hf : DataW.trod enc Tryz.prog w 0 sp true fuel 22 cs = some x) : ∃ v xs, cs = [v] ∧ SlB w v xs ∧ xs.length ≤ Rows.uptoBulk x.1 := by
  obtain ⟨v, l, h1, _, h3, h4, _⟩ := open_slb (f := fun b => [vb b]) (q := fun _ _ => True) Tryz.underlying22 c5 (by decide) (fun _ _ _ _ h => h) (fun m cs x h => by obtain ⟨y, rfl⟩ := cells_u8 Tryz.underlying5 h; exact ⟨y, rfl, trivial⟩) hf
  rw [vb_flat] at h3
  exact ⟨v, l, h1, h3, h4⟩
end opened

end Go.Proofs.YthlkfjoibjhaiaaGreatDoor

/-! RowW -/
namespace Go.Proofs.YthlkfjoibjhaiaaGreatDoor
set_option maxRecDepth 100000
set_option maxHeartbeats 2000000
open Go Go.RowKit Go.ChangeShapes Go.WideShapes Go.ChangeAt
set_option linter.unusedVariables false
set_option linter.unusedSimpArgs false

section opened
variable {H : Type} {enc : TypeId × Value → H} {w : World} {sp : Nat → Bool} {r : Reach} {b0 : Nat} {v : Value} {d : DataW H} {p : List MemPlace}
theorem open_bsb (hval : Value.okWide Tryz.prog w r b0 22 v) (hd : DataW.Trod enc Tryz.prog w 0 sp true 22 v d p) : ∃ xs, SlB w v xs ∧ xs.length ≤ Rows.uptoBulk d := by
  obtain ⟨a0, len0, cap0, rfl⟩ := okWide_slice Tryz.underlying22 hval
  obtain ⟨fuel, hf⟩ := hd
  obtain ⟨u, xs, h1, h2, h3⟩ := in_bytes hf
  simp [Value.cells] at h1
  subst h1
  exact ⟨xs, h2, h3⟩
end opened

/-! ### The table -/
theorem gTab : Tryz.prog.globalNamed "notary/sha.words" = some 1 := by kernel_rfl
theorem gTabType : (Tryz.prog.globals[1]?).map (·.type) = some 441 := by kernel_rfl
theorem tab_eq {H : Type} : (Rows.laid_notary_sha_words : DataW H) = Lib.tabData .u32 (KW.map fun x => (x.toNat : Int)) := by kernel_rfl
theorem words_of {W : World} (h : laidMetH Tryz.prog [("notary/sha.words", Rows.laid_notary_sha_words)] W) : WordsAt W 1 := by
  have h' : laidMetH Tryz.prog [("notary/sha.words", Lib.tabData .u32 (KW.map fun x => (x.toNat : Int)))] W := by
    rw [← tab_eq]
    exact h
  have ht := Lib.tabIs_of_head (rest := []) gTab gTabType Tryz.underlying441 Tryz.underlying406 c406 c441 h'
  intro j hj
  have hc := ht.cell gTab j (by rw [List.length_map]; exact hj)
  rw [hc]
  have hl : j < KW.length := hj
  simp only [vw, List.getD_eq_getElem?_getD, List.getElem?_map, List.getElem?_eq_getElem hl, Option.map_some, Option.getD_some]

end Go.Proofs.YthlkfjoibjhaiaaGreatDoor

/-! RowE -/
namespace Go.Proofs.YthlkfjoibjhaiaaGreatDoor
set_option maxRecDepth 100000
set_option maxHeartbeats 2000000
open Go Go.RowKit Go.ChangeShapes Go.WideShapes Go.ChangeAt
set_option linter.unusedVariables false
set_option linter.unusedSimpArgs false

section opened
variable {H : Type} {enc : TypeId × Value → H} {w : World} {sp : Nat → Bool} {r : Reach} {b0 : Nat} {v : Value} {d : DataW H} {p : List MemPlace} {fuel : Nat} {cs : List Value} {x : DataW H × List MemPlace}
theorem in_entry (hf : DataW.trod enc Tryz.prog w 0 sp true fuel 90 cs = some x) : ∃ e : EnR, e.cells = cs ∧ e.kind < 256 ∧ SlB w e.kv e.k ∧ SlB w e.vv e.v := by
  obtain ⟨y0, y1, y2, n, rfl, hl, h0, h1, h2⟩ := Go.Deep.trod_struct3 Tryz.underlying90 hf
  rw [c90] at hl
  simp only [c5, c22] at h0 h1 h2
  obtain ⟨m0, e0, _, hm⟩ := DataW.trod_int Tryz.underlying5 h0
  obtain ⟨u, xs, e1, hu, hb0⟩ := in_bytes h1
  obtain ⟨v, ys, e2, hv, hb1⟩ := in_bytes h2
  have hm' := wf_bounds hm
  simp [IntKind.min, IntKind.max, IntKind.signed, IntKind.bits] at hm'
  refine ⟨⟨m0.toNat, u, v, xs, ys⟩, ?_, by simp only; omega, hu, hv⟩
  match cs, hl with
  | [a, b, c], _ =>
    simp at e0 e1 e2
    simp only [EnR.cells, e0, e1, e2]
    rw [Int.toNat_of_nonneg hm'.1]
theorem open_ents (hval : Value.okWide Tryz.prog w r b0 84 v) (hd : DataW.Trod enc Tryz.prog w 0 sp true 84 v d p) : ∃ es, EnsAt w v es ∧ es.length ≤ Rows.uptoBulk d := by
  obtain ⟨a0, len0, cap0, rfl⟩ := okWide_slice Tryz.underlying84 hval
  obtain ⟨fuel, hf⟩ := hd
  obtain ⟨u, l, h1, h2, h3, h4, h5⟩ := open_slb (f := EnR.cells) (q := fun m e => e.kind < 256 ∧ SlB w e.kv e.k ∧ SlB w e.vv e.v) Tryz.underlying84 c90 (by decide) (fun m n a h g => g) (fun m cs x h => in_entry h) hf
  simp [Value.cells] at h1
  subst h1
  exact ⟨l, ⟨h3, h5⟩, h4⟩
end opened
end Go.Proofs.YthlkfjoibjhaiaaGreatDoor
