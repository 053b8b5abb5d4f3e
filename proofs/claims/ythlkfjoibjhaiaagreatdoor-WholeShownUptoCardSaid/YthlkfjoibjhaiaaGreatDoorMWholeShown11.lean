/-
  Package hamt: join. Conditions: as stated in each theorem. One more among a bucket's items. Conditions: as stated in each theorem. One less among a tree's items, in plain Lean. Conditions: as stated in each theorem. A book of pairs, each key once, beside a tree's items, in plain Lean. Conditions: as stated in each theorem. Conversions of strings and bytes. Conditions: as stated in each theorem. Package hamt: put, Put. Conditions: as stated in each theorem. slices.Delete of one element, of pairs and of nodes. Conditions: as stated in each theorem. Written by wip/gendel.py. Package hamt: drop, Delete. Conditions: as stated in each theorem. Package hamt: Pairs. Conditions: as stated in each theorem. Package notarytop: same, short, fits, books. Conditions: as stated in each theorem. Package notarytop: unset of a book. Conditions: as stated in each theorem. Entries: how they lie, what is said of them in plain words, the errors and the bytes of entries and batches. Conditions: none; plain definitions and lemmas. Package notarytop: fits, mapped. Conditions: as stated in each theorem. Package notarytop: ordered. Conditions: as stated in each theorem. Package notarytop: WholeMap. Conditions: as stated in each theorem. slices.Delete of one element, of digests. Conditions: as stated in each theorem. Written by wip/gendel.py. Steps without one digest each; lists of steps whose digests lie in blocks of their own, one of them changed. Conditions: as stated in each theorem. What lies along a walk, in plain Lean. Conditions: as stated in each theorem. Package hproof: Prove. Conditions: as stated in each theorem. Package notaryref14: less, order, item, Digit, Put, Of, Pairs. Conditions: as stated in each theorem. Package notaryref14: Of, Pairs, single, child, CheckPair, step, node, Root. Conditions: as stated in each theorem. Package notaryref14: CheckPair, step, node, Root. Conditions: as stated in each theorem. What a map answers once a key is put, in plain Lean. Conditions: as stated in each theorem. What lies along a walk: see Wlk; with the reference's maps. Conditions: as stated there. Package notaryref14: Get, Walk, SamePair, SamePairs, SameSteps. Conditions: as stated in each theorem. Package notaryref15: ahead, Without. Conditions: as stated in each theorem. Package notaryref15: Prove, DocProve, Same, DocSize; package hproof: Size. Conditions: as stated in each theorem.
-/
import Derived.Test.YthlkfjoibjhaiaaGreatDoorMWholeShown10
import Derived.Lib.ConvBytes
import Derived.Laws.IdiomStrings
/-! Hmg -/
namespace Go.Proofs.YthlkfjoibjhaiaaGreatDoor
set_option maxRecDepth 100000
set_option maxHeartbeats 2000000
open Go Go.RowKit
set_option linter.unusedVariables false
set_option linter.unusedSimpArgs false
attribute [local irreducible] vcT opsT qT vcOp Q1 vcPure vcLoad vcStore ldC ldN ldD grdT grdQ vc vcOps vcQ hT
attribute [local irreducible] sumR sumP shaP keyD bucketP branchP

theorem NodeAt.mk_br {n : Int} {S : Nat → Prop} {w : World} {f d : Nat} {M : List It} (hs : singleB M = false) {g : Nat} {kv : Value} {vs : List Value} (hS : S g) (hB : Blk w g 225 (.int .u16 (bmI M d : Nat) :: kv :: (vbs (brD n (bmI M d) (kidsI n f d M)) ++ [.int .i64 M.length])))
    (hk : SlS S w kv vs.length vs) (h1 : ∀ x ∈ vs, oneCellV x = true) (hl : vs.length = cntB (bmI M d)) (hkids : ∀ c, hasI M d c = true → ∃ x, vs[rankB (bmI M d) (c : Int)]? = some x ∧ NodeAt n S w f (d + 1) (childI M d c) x) : NodeAt n S w (f + 1) d M (brV g) := by
  rw [NodeAt.br hs]
  exact ⟨g, kv, vs, rfl, ⟨hS, by rw [nodeD_br n f d hs]; exact hB, hk, h1, hl⟩, hkids⟩
theorem setB_zero : setB 0 = [] := by unfold setB; rw [List.filter_eq_nil_iff]; intro c _; simp
theorem cnt_zero : cntB 0 = 0 := by unfold cntB; rw [setB_zero]; rfl
theorem rank_zero (c : Nat) : rankB 0 (c : Int) = 0 := by rw [rank_nat, setB_zero]; rfl
theorem has_with {bm c0 : Nat} (hc : c0 < 16) (c : Nat) : hasB (withB bm (c0 : Int)) (c : Int) = (hasB bm (c : Int) || decide (c = c0)) := by
  rw [hasN, hasN]
  by_cases hcl : c < 16
  · rw [decide_eq_true hcl, Bool.true_and, Bool.true_and]
    have h := set_with (bm := bm) hc c
    rw [mem_setB, mem_setB] at h
    cases h1 : (withB bm (c0 : Int)).testBit c <;> cases h2 : bm.testBit c <;> simp_all
  · have : ¬ c = c0 := by omega
    rw [decide_eq_false hcl]
    simp [this]
theorem has_zero (c : Nat) : hasB 0 (c : Int) = false := by rw [hasN]; simp
theorem bm_ext {M : List It} {d b : Nat} (hb : b < 65536) (h : ∀ c : Nat, c < 16 → (hasB b (c : Int) = hasI M d c)) : b = bmI M d := by
  refine bit_ext hb (bmI_lt _ _) fun c hc => ?_
  have := h c hc
  rw [hasN, decide_eq_true hc, Bool.true_and] at this
  rw [this, bmI_bit, decide_eq_true hc, Bool.true_and]
/-- The two buckets' items, once their digits differ. -/
theorem child_part {M ma mb : List It} {d i j : Nat} (hM : SortedI M) (ha : SortedI ma) (hmem : ∀ y, y ∈ M ↔ y ∈ ma ∨ y ∈ mb) (hia : ∀ y ∈ ma, digP y.D d = i) (hjb : ∀ y ∈ mb, digP y.D d = j) (hne : i ≠ j) : childI M d i = ma := by
  refine sorted_ext (childI_sorted hM) ha fun y => ?_
  rw [mem_child, hmem]
  constructor
  · rintro ⟨h | h, hd⟩
    · exact h
    · exact absurd ((hjb y h).symm.trans hd) (Ne.symm hne)
  · intro h
    exact ⟨Or.inl h, hia y h⟩
theorem join_ok (n : Int) (hw : widB n = true) (S : Nat → Prop) (b : Nat) (top : Value) : ∀ (f d : Nat) (ma mb M : List It) (ba bb : Nat) (pva pvb : Value) (psa psb : List PR) (w : World), WordsAt w 1 → Blk w b 211 [.int .i64 n, top] →
    BkIn n S w ma ba pva psa → BkIn n S w mb bb pvb psb → ma ≠ [] → mb ≠ [] → singleB ma = true → singleB mb = true → SortedI ma → SortedI mb → OkI n M → (∀ y, y ∈ M ↔ y ∈ ma ∨ y ∈ mb) → headD ma ≠ headD mb → Pre d M → d + f = 64 → M.length ≤ 1000000000 →
    CallK Tryz.prog 246 [.pointer (some ⟨b, 0, none⟩), .int .i64 d, .pointer (some ⟨ba, 0, none⟩), .pointer (some ⟨bb, 0, none⟩)].toArray w fun v w' => NodeAt n (fun k => S k ∨ w.heap.size ≤ k) w' f d M v ∧ Ext w w' := by
  have hwn := (widB_iff n).1 hw
  obtain ⟨nn, rfl⟩ : ∃ nn : Nat, n = nn := ⟨n.toNat, by omega⟩
  intro f
  induction f with
  | zero =>
    intro d ma mb M ba bb pva pvb psa psb w hW hB hA hBb hna hnb hsa hsb hoa hob hOM hmem hne hP hdf hml
    exfalso
    obtain ⟨ya, hya⟩ := List.exists_mem_of_ne_nil _ hna
    obtain ⟨yb, hyb⟩ := List.exists_mem_of_ne_nil _ hnb
    have hsM : singleB M = false := by
      cases h : singleB M
      · rfl
      · exact absurd (by rw [headD_mem hsa hya, headD_mem hsb hyb]; exact singleB_iff.1 h ya ((hmem ya).2 (Or.inl hya)) yb ((hmem yb).2 (Or.inr hyb))) hne
    have := br_depth hsM hP (hOM.form hw)
    omega
  | succ f ih =>
    intro d ma mb M ba bb pva pvb psa psb w hW hB hA hBb hna hnb hsa hsb hoa hob hOM hmem hne hP hdf hml
    obtain ⟨ya, hya⟩ := List.exists_mem_of_ne_nil _ hna
    obtain ⟨yb, hyb⟩ := List.exists_mem_of_ne_nil _ hnb
    have hDa := headD_mem hsa hya
    have hDb := headD_mem hsb hyb
    have hsM : singleB M = false := by
      cases h : singleB M
      · rfl
      · exact absurd (by rw [hDa, hDb]; exact singleB_iff.1 h ya ((hmem ya).2 (Or.inl hya)) yb ((hmem yb).2 (Or.inr hyb))) hne
    have hdn := br_depth hsM hP (hOM.form hw)
    have hla : (headD ma).length = 32 := by rw [hDa]; exact hP.1 ya ((hmem ya).2 (Or.inl hya))
    have hlb : (headD mb).length = 32 := by rw [hDb]; exact hP.1 yb ((hmem yb).2 (Or.inr hyb))
    have hfa : formB nn (headD ma) = true := by rw [hDa]; exact hOM.form hw ya ((hmem ya).2 (Or.inl hya))
    have hfb : formB nn (headD mb) = true := by rw [hDb]; exact hOM.form hw yb ((hmem yb).2 (Or.inr hyb))
    have hata := atP_dig (by omega) (by omega) hla hfa hdn
    have hatb := atP_dig (by omega) (by omega) hlb hfb hdn
    have hia : ∀ y ∈ ma, digP y.D d = digP (headD ma) d := fun y hy => by rw [headD_mem hsa hy]
    have hjb : ∀ y ∈ mb, digP y.D d = digP (headD mb) d := fun y hy => by rw [headD_mem hsb hy]
    have hi16 := digP_lt (headD ma) d
    have hj16 := digP_lt (headD mb) d
    have hhas : ∀ c, hasI M d c = (decide (c = digP (headD ma) d) || decide (c = digP (headD mb) d)) := by
      intro c
      rw [Bool.eq_iff_iff, has_iff]
      constructor
      · rintro ⟨y, hy, rfl⟩
        rcases (hmem y).1 hy with h | h
        · simp [hia y h]
        · simp [hjb y h]
      · intro h
        rcases Bool.or_eq_true_iff.1 h with h | h
        · exact ⟨ya, (hmem ya).2 (Or.inl hya), by rw [hia ya hya]; exact (of_decide_eq_true h).symm⟩
        · exact ⟨yb, (hmem yb).2 (Or.inr hyb), by rw [hjb yb hyb]; exact (of_decide_eq_true h).symm⟩
    have hw1 : withB 0 (digP (headD ma) d : Int) < 65536 := withB_lt (by decide) _
    have hw2 : withB (withB 0 (digP (headD ma) d : Int)) (digP (headD mb) d : Int) < 65536 := withB_lt hw1 _
    have hbm : withB (withB 0 (digP (headD ma) d : Int)) (digP (headD mb) d : Int) = bmI M d := by
      refine bm_ext hw2 fun c hc => ?_
      rw [has_with hj16, has_with hi16, has_zero, hhas]
      rfl
    have hBa := hA.blk
    have hBbb := hBb.blk
    have hbl := hB.lt
    generalize hgi : digP (headD ma) d = i at *
    generalize hgj : digP (headD mb) d = j at *
    have hal := hBa.lt
    have hbbl := hBbb.lt
    refine enterT Tryz.func246 rfl Tryz.ntmps246 Tryz.results246 rfl (by decide) ?_
    repeat (first | exact trivial | refine stpg ?_)
    refine ldNg (m := vbs (headD ma)) (hm := by rw [List.drop_zero, List.take_append_of_le_length (by rw [vbs_len]; omega), vbs_tk hla]) ?_
    repeat (first | exact trivial | refine stpg ?_)
    refine qcall _ (fun w' hw' => digit_hamt_ok nn b top (headD ma) hla d w' .go) ?_
    rw [hata]
    repeat (first | exact trivial | refine stpg ?_)
    refine ldNg (m := vbs (headD mb)) (hm := by rw [List.drop_zero, List.take_append_of_le_length (by rw [vbs_len]; omega), vbs_tk hlb]) ?_
    repeat (first | exact trivial | refine stpg ?_)
    refine qcall _ (fun w' hw' => digit_hamt_ok nn b top (headD mb) hlb d w' .go) ?_
    rw [hatb]
    repeat (first | exact trivial | refine stpg ?_)
    intro w1 hE1
    have hz1 := hE1.size
    repeat (first | exact trivial | refine stpg ?_)
    refine (With_ok 0 (by decide) i w1).mono ?_
    rintro _ w2 ⟨rfl, hE2⟩
    have hz2 := hE2.size
    repeat (first | exact trivial | refine stpg ?_)
    refine (With_ok _ hw1 j w2).mono ?_
    rintro _ w3 ⟨rfl, hE3⟩
    have hz3 := hE3.size
    rw [hbm]
    repeat (first | exact trivial | refine stpg ?_)
    have hAA := (hA.keep (KeepS.of_ext (Ext.go (a := w) (b := w3))))
    have hBB := (hBb.keep (KeepS.of_ext (Ext.go (a := w) (b := w3))))
    have hfin : ∀ {W : World} {g : Nat} {kv : Value} {vs : List Value}, w3.heap.size ≤ g → Blk W g 225 (.int .u16 (bmI M d : Nat) :: kv :: (vbs (brD nn (bmI M d) (kidsI nn f d M)) ++ [.int .i64 M.length])) → SlS (fun k => S k ∨ w.heap.size ≤ k) W kv vs.length vs → (∀ x ∈ vs, oneCellV x = true) →
        vs.length = cntB (bmI M d) → (∀ c, hasI M d c = true → ∃ x, vs[rankB (bmI M d) (c : Int)]? = some x ∧ NodeAt nn (fun k => S k ∨ w.heap.size ≤ k) W f (d + 1) (childI M d c) x) → NodeAt nn (fun k => S k ∨ w.heap.size ≤ k) W (f + 1) d M (brV g) := fun hg hBg hk h1 hl hkids => NodeAt.mk_br hsM (Or.inr (by omega)) hBg hk h1 hl hkids
    by_cases hij : i = j
    · subst hij
      have hcM : childI M d i = M := by
        refine List.filter_eq_self.2 fun y hy => ?_
        rcases (hmem y).1 hy with h | h
        · simpa using hia y h
        · simpa using hjb y h
      have hbm0 := withB_same hw1 (show hasB (withB 0 (i : Int)) (i : Int) = true by rw [has_with hi16]; simp)
      have hrk : rankB (bmI M d) (i : Int) = 0 := by rw [← hbm, hbm0, rank_with hi16 (has_zero i), rank_zero, if_neg (by omega)]
      have hcnt : cntB (bmI M d) = 1 := by rw [← hbm, hbm0, cnt_with hi16 (has_zero i), cnt_zero]
      refine ⟨fun h => by omega, fun _ => ⟨fun h => by omega, fun _ => ?_⟩⟩
      repeat (first | exact trivial | refine stpg ?_)
      rw [show IntKind.i64.wrap ((d : Int) + 1) = ((d + 1 : Nat) : Int) from by rw [w64 (by omega) (by omega)]; omega]
      refine (ih (d + 1) ma mb M ba bb pva pvb psa psb w3 (hW.ext .go) .go hAA hBB hna hnb hsa hsb hoa hob hOM hmem hne (by rw [← hcM]; exact hP.child i) (by omega) hml).mono ?_
      rintro x w4 ⟨hN4, hE4⟩
      have hz4 := hE4.size
      obtain ⟨tx, ux, rfl⟩ := hN4.iface
      repeat (first | exact trivial | refine stpg ?_)
      refine ⟨rfl, rfl, ?_⟩
      first | refine newS ?_ | refine newZ ?_
      intro w5 hE5 hz5 hB5
      have hB5' : Blk w5 w4.heap.size 209 [.iface tx ux] := hB5
      have hN5 := (hN4.ext hE5).mono (S' := fun k => S k ∨ w.heap.size ≤ k) (fun k hk => hk.imp id (fun h => by omega))
      have hk5 : ∀ c, hasI M d c = true → ∃ x, ([.iface tx ux] : List Value)[rankB (bmI M d) (c : Int)]? = some x ∧ NodeAt nn (fun k => S k ∨ w.heap.size ≤ k) w5 f (d + 1) (childI M d c) x := by
        intro c hc
        rw [hhas] at hc
        obtain rfl : c = i := by rcases Bool.or_eq_true_iff.1 hc with h | h <;> exact of_decide_eq_true h
        exact ⟨_, by rw [hrk]; rfl, by rw [hcM]; exact hN5⟩
      have h15 : ∀ x ∈ ([.iface tx ux] : List Value), oneCellV x = true := by simp [oneCellV]
      refine (fork_ok nn hw _ f d b top _ [.iface tx ux] M w5 (hW.ext .go) .go (SlC.of_blk hB5' (show (1 : Nat) ≤ 9223372036854775807 by decide)) h15 (by rw [hcnt]; rfl) hk5 hOM.sorted hP (by omega) hml).mono ?_
      rintro _ w6 ⟨g, rfl, hg, hB6, hE6⟩
      repeat (first | exact trivial | refine stpg ?_)
      exact ⟨hfin (by omega) hB6 (SlS.of_blk (hB5'.ext hE6) (Or.inr (by omega)) (by simp)) h15 (by rw [hcnt]; rfl) (fun c hc => by obtain ⟨x, h1, h2⟩ := hk5 c hc; exact ⟨x, h1, h2.ext hE6⟩), .go⟩
    have hn1 : hasB (withB 0 (i : Int)) (j : Int) = false := by rw [has_with hi16, has_zero]; simp; omega
    have hrk : ∀ c : Nat, rankB (bmI M d) (c : Int) = (if i < c then 1 else 0) + (if j < c then 1 else 0) := fun c => by rw [← hbm, rank_with hj16 hn1, rank_with hi16 (has_zero i), rank_zero, Nat.zero_add]
    have hcnt : cntB (bmI M d) = 2 := by rw [← hbm, cnt_with hj16 hn1, cnt_with hi16 (has_zero i), cnt_zero]
    have hci : childI M d i = ma := child_part hOM.sorted hoa hmem hia hjb hij
    have hcj : childI M d j = mb := child_part hOM.sorted hob (fun y => by rw [hmem]; exact Or.comm) hjb hia (Ne.symm hij)
    refine ⟨fun hlt => ?_, fun hge => ⟨fun hgt => ?_, fun h => by omega⟩⟩
    · refine ⟨rfl, ⟨rfl, rfl⟩, ?_⟩
      first | refine newS ?_ | refine newZ ?_
      intro w4 hE4 hz4 hB4
      have hB4' : Blk w4 w3.heap.size 209 [bkV ba, bkV bb] := hB4
      have hk4 : ∀ c, hasI M d c = true → ∃ x, ([bkV ba, bkV bb] : List Value)[rankB (bmI M d) (c : Int)]? = some x ∧ NodeAt nn S w4 f (d + 1) (childI M d c) x := by
        intro c hc
        rw [hhas] at hc
        rcases Bool.or_eq_true_iff.1 hc with h | h
        · obtain rfl : c = i := of_decide_eq_true h
          refine ⟨bkV ba, by rw [hrk c]; simp [show ¬ j < c from by omega], ?_⟩
          rw [hci]
          exact (NodeAt.bk hsa).2 ⟨ba, pva, psa, rfl, hAA.keep (KeepS.of_ext hE4)⟩
        · obtain rfl : c = j := of_decide_eq_true h
          refine ⟨bkV bb, by rw [hrk c]; simp [show i < c from by omega], ?_⟩
          rw [hcj]
          exact (NodeAt.bk hsb).2 ⟨bb, pvb, psb, rfl, hBB.keep (KeepS.of_ext hE4)⟩
      have h14 : ∀ x ∈ ([bkV ba, bkV bb] : List Value), oneCellV x = true := by simp [oneCellV]
      refine (fork_ok nn hw S f d b top _ [bkV ba, bkV bb] M w4 (hW.ext .go) .go (SlC.of_blk hB4' (show (2 : Nat) ≤ 9223372036854775807 by decide)) h14 (by rw [hcnt]; rfl) hk4 hOM.sorted hP (by omega) hml).mono ?_
      rintro _ w5 ⟨g, rfl, hg, hB5, hE5⟩
      repeat (first | exact trivial | refine stpg ?_)
      exact ⟨hfin (by omega) hB5 (SlS.of_blk (hB4'.ext hE5) (Or.inr (by omega)) (by simp)) h14 (by rw [hcnt]; rfl) (fun c hc => by obtain ⟨x, h1, h2⟩ := hk4 c hc; exact ⟨x, h1, (h2.ext hE5).mono (fun k hk => Or.inl hk)⟩), .go⟩
    · repeat (first | exact trivial | refine stpg ?_)
      refine ⟨rfl, ⟨rfl, rfl⟩, ?_⟩
      first | refine newS ?_ | refine newZ ?_
      intro w4 hE4 hz4 hB4
      have hB4' : Blk w4 w3.heap.size 209 [bkV bb, bkV ba] := hB4
      have hk4 : ∀ c, hasI M d c = true → ∃ x, ([bkV bb, bkV ba] : List Value)[rankB (bmI M d) (c : Int)]? = some x ∧ NodeAt nn S w4 f (d + 1) (childI M d c) x := by
        intro c hc
        rw [hhas] at hc
        rcases Bool.or_eq_true_iff.1 hc with h | h
        · obtain rfl : c = i := of_decide_eq_true h
          refine ⟨bkV ba, by rw [hrk c]; simp [show j < c from by omega], ?_⟩
          rw [hci]
          exact (NodeAt.bk hsa).2 ⟨ba, pva, psa, rfl, hAA.keep (KeepS.of_ext hE4)⟩
        · obtain rfl : c = j := of_decide_eq_true h
          refine ⟨bkV bb, by rw [hrk c]; simp [show ¬ i < c from by omega], ?_⟩
          rw [hcj]
          exact (NodeAt.bk hsb).2 ⟨bb, pvb, psb, rfl, hBB.keep (KeepS.of_ext hE4)⟩
      have h14 : ∀ x ∈ ([bkV bb, bkV ba] : List Value), oneCellV x = true := by simp [oneCellV]
      refine (fork_ok nn hw S f d b top _ [bkV bb, bkV ba] M w4 (hW.ext .go) .go (SlC.of_blk hB4' (show (2 : Nat) ≤ 9223372036854775807 by decide)) h14 (by rw [hcnt]; rfl) hk4 hOM.sorted hP (by omega) hml).mono ?_
      rintro _ w5 ⟨g, rfl, hg, hB5, hE5⟩
      repeat (first | exact trivial | refine stpg ?_)
      exact ⟨hfin (by omega) hB5 (SlS.of_blk (hB4'.ext hE5) (Or.inr (by omega)) (by simp)) h14 (by rw [hcnt]; rfl) (fun c hc => by obtain ⟨x, h1, h2⟩ := hk4 c hc; exact ⟨x, h1, (h2.ext hE5).mono (fun k hk => Or.inl hk)⟩), .go⟩
end Go.Proofs.YthlkfjoibjhaiaaGreatDoor

/-! Itq -/
namespace Go.Proofs.YthlkfjoibjhaiaaGreatDoor
set_option maxRecDepth 100000
set_option maxHeartbeats 2000000
open Go Go.RowKit
set_option linter.unusedVariables false
set_option linter.unusedSimpArgs false

theorem filter_take {α : Type} (p : α → Bool) : ∀ (l : List α) (i : Nat), (∀ j a, l[j]? = some a → (p a = true ↔ j < i)) → l.filter p = l.take i
  | [], i, _ => by simp
  | a :: l, 0, h => by
    rw [List.take_zero]
    refine List.filter_eq_nil_iff.2 fun b hb => ?_
    obtain ⟨j, hj⟩ := List.getElem?_of_mem hb
    intro hp
    have := (h j b hj).1 hp
    omega
  | a :: l, i + 1, h => by
    have ha := (h 0 a rfl).2 (by omega)
    rw [List.filter_cons_of_pos ha, List.take_succ_cons, filter_take p l i (fun j b hb => by have := h (j + 1) b (by simpa using hb); rw [this]; omega)]
theorem filter_drop {α : Type} (p : α → Bool) : ∀ (l : List α) (i : Nat), (∀ j a, l[j]? = some a → (p a = true ↔ i ≤ j)) → l.filter p = l.drop i
  | [], i, _ => by simp
  | a :: l, 0, h => by
    rw [List.drop_zero]
    refine List.filter_eq_self.2 fun b hb => ?_
    obtain ⟨j, hj⟩ := List.getElem?_of_mem hb
    exact (h j b hj).2 (by omega)
  | a :: l, i + 1, h => by
    have ha : ¬ p a = true := fun hp => by have := (h 0 a rfl).1 hp; omega
    rw [List.filter_cons_of_neg ha, List.drop_succ_cons, filter_drop p l i (fun j b hb => by have := h (j + 1) b (by simpa using hb); rw [this]; omega)]
theorem cmp_same {y x : It} (h : y.D = x.D) : cmpIt y x = Lib.compareBytes y.k x.k := by unfold cmpIt; rw [h, if_pos (cmpB_self _)]
theorem it_at {m : List It} {ps : List PR} (hd : ps.map PR.dat = m.map It.pr) {j : Nat} {y : It} (h : m[j]? = some y) : ∃ p, ps[j]? = some p ∧ p.k = y.k ∧ p.v = y.v := by
  have h1 := congrArg (·[j]?) hd
  simp only [List.getElem?_map, h, Option.map_some] at h1
  cases hp : ps[j]? with
  | none => rw [hp] at h1; simp at h1
  | some p =>
    rw [hp] at h1
    simp only [Option.map_some, Option.some.injEq, PR.dat, It.pr, Prod.mk.injEq] at h1
    exact ⟨p, rfl, h1.1, h1.2⟩
/-- A bucket's items with one more. -/
theorem put_bucket {m : List It} {ps : List PR} {x : It} {i : Nat} {ok : Bool} (hd : ps.map PR.dat = m.map It.pr) (hD : ∀ y ∈ m, y.D = x.D) (hs : ps.Pairwise fun a b => Lib.compareBytes a.k b.k < 0) (hF : FindP ps x.k i ok) :
    putI m x = m.take i ++ x :: m.drop (if ok = true then i + 1 else i) := by
  unfold putI
  have hlow : ∀ j y, m[j]? = some y → (cmpIt y x < 0 ↔ j < i) := by
    intro j y hy
    obtain ⟨p, hp, hk, _⟩ := it_at hd hy
    rw [cmp_same (hD y (List.mem_of_getElem? hy)), ← hk]
    constructor
    · intro h
      refine Nat.lt_of_not_le fun hle => ?_
      have := hF.high j p hp hle
      omega
    · exact hF.low j p hp
  rw [filter_take (ltP x) m i (fun j y hy => by rw [← hlow j y hy]; simp [ltP])]
  congr 2
  refine filter_drop (gtP x) m _ fun j y hy => ?_
  obtain ⟨p, hp, hk, _⟩ := it_at hd hy
  have e : (gtP x y = true) ↔ 0 < Lib.compareBytes p.k x.k := by
    unfold gtP
    rw [decide_eq_true_eq, cmp_same (hD y (List.mem_of_getElem? hy)), ← hk]
  rw [e]
  have hpj := (List.getElem?_eq_some_iff.1 hp)
  obtain ⟨hjl, hje⟩ := hpj
  cases ok
  · rw [if_neg (by decide)]
    constructor
    · intro h
      refine Nat.le_of_not_lt fun hlt => ?_
      have := hF.low j p hp hlt
      omega
    · intro hle
      have h1 := hF.high j p hp hle
      refine Decidable.byContradiction fun hn => ?_
      have h0 : 0 = Lib.compareBytes p.k x.k := by omega
      have hpk : p.k = x.k := (cmpB_eq _ _).1 h0.symm
      by_cases hji : j = i
      · subst hji
        have := hF.hit.2 ⟨p, hp, hpk⟩
        cases this
      · have h2 := List.pairwise_iff_getElem.1 hs i j (by omega) hjl (by omega)
        have h3 := hF.high i _ (List.getElem?_eq_getElem (by omega)) (Nat.le_refl _)
        rw [hje, hpk] at h2
        omega
  · rw [if_pos rfl]
    obtain ⟨q, hq, hqk⟩ := hF.hit.1 rfl
    obtain ⟨hil, hie⟩ := List.getElem?_eq_some_iff.1 hq
    constructor
    · intro h
      refine Nat.lt_of_not_le fun hle => ?_
      by_cases hji : j = i
      · subst hji
        rw [hp] at hq
        cases hq
        rw [hqk, cmpB_self] at h
        omega
      · have := hF.low j p hp (by omega)
        omega
    · intro hlt
      have h2 := List.pairwise_iff_getElem.1 hs i j hil hjl hlt
      rw [hje, hie, hqk] at h2
      rw [cmpB_neg x.k p.k]
      omega
theorem OkI.put {n : Int} {m : List It} {x : It} (h : OkI n m) (hD : x.D = keyD n x.k) (hs : x.k.length ≤ 64 ∧ x.v.length ≤ 256) : OkI n (putI m x) :=
  ⟨putI_sorted h.sorted, fun y hy => by rcases mem_putI hy with rfl | hy; exact hD; exact h.dig y hy, fun y hy => by rcases mem_putI hy with rfl | hy; exact hs; exact h.short y hy⟩
theorem putI_len (m : List It) (x : It) : (putI m x).length ≤ m.length + 1 := by
  unfold putI
  rw [List.length_append, List.length_cons]
  have : (m.filter (ltP x)).length + (m.filter (gtP x)).length ≤ m.length := by
    induction m with
    | nil => simp
    | cons y m ih =>
      have h : ltP x y = true → gtP x y = false := by unfold ltP gtP; intro h; simp at h ⊢; omega
      cases h1 : ltP x y <;> cases h2 : gtP x y <;> simp [List.filter_cons, h1, h2] at * <;> omega
  omega
theorem pairsB_leI : ∀ (ps : List (List UInt8 × List UInt8)), (∀ p ∈ ps, p.1.length ≤ 64 ∧ p.2.length ≤ 256) → (pairsB ps).length ≤ ps.length * 340
  | [], _ => by simp [pairsB]
  | p :: ps, h => by
    have ih := pairsB_leI ps (fun q hq => h q (by simp [hq]))
    have h1 := h p (by simp)
    have u1 := uvarP_len10 (n := p.1.length) (by omega)
    have u2 := uvarP_len10 (n := p.2.length) (by omega)
    have e : pairsB (p :: ps) = (blobP p.1 ++ blobP p.2) ++ pairsB ps := by simp [pairsB]
    rw [e]
    simp only [List.length_append, blobP, List.length_cons]
    omega
theorem OkI.bucket_le {n : Int} {m : List It} {ps : List PR} (h : OkI n m) (hd : ps.map PR.dat = m.map It.pr) (hl : m.length ≤ 1000000000) : (bucketP (ps.map PR.dat)).length + 16 ≤ 140737488355328 := by
  rw [hd]
  have h1 := pairsB_leI (m.map It.pr) (fun q hq => by obtain ⟨y, hy, rfl⟩ := List.mem_map.1 hq; exact h.short y hy)
  rw [List.length_map] at h1
  have u1 := uvarP_len10 (n := m.length) (by omega)
  simp only [bucketP, List.length_cons, List.length_append, List.length_map]
  omega
theorem rank_mono {bm c c' : Nat} (h : c ≤ c') : rankB bm (c : Int) ≤ rankB bm (c' : Int) := by
  rw [rank_nat, rank_nat, ← List.countP_eq_length_filter, ← List.countP_eq_length_filter]
  exact List.countP_mono_left fun j _ hj => by simp at hj ⊢; omega
theorem rank_smono {bm c c' : Nat} (hc : hasB bm (c : Int) = true) (h : c < c') : rankB bm (c : Int) < rankB bm (c' : Int) := by
  rw [hasN, Bool.and_eq_true, decide_eq_true_eq] at hc
  have hm : c ∈ setB bm := mem_setB.2 hc
  have h1 := count_or (fun j => decide (j < c)) (fun j => decide (j = c)) (setB bm) (fun j _ => by simp; omega)
  have h2 : 0 < ((setB bm).filter fun j => decide (j = c)).length := List.length_pos_of_mem (List.mem_filter.2 ⟨hm, by simp⟩)
  have h3 : ((setB bm).filter fun j => decide (j < c) || decide (j = c)).length ≤ ((setB bm).filter fun j => decide (j < c')).length := by
    rw [← List.countP_eq_length_filter, ← List.countP_eq_length_filter]
    exact List.countP_mono_left fun j _ hj => by simp at hj ⊢; omega
  rw [rank_nat, rank_nat]
  omega
theorem single_put {m : List It} {x : It} (h : ∀ y ∈ m, y.D = x.D) : singleB (putI m x) = true ∧ headD (putI m x) = x.D := by
  have h1 : ∀ y ∈ putI m x, y.D = x.D := fun y hy => by rcases mem_putI hy with rfl | hy; rfl; exact h y hy
  have h2 : singleB (putI m x) = true := singleB_iff.2 fun y hy z hz => by rw [h1 y hy, h1 z hz]
  exact ⟨h2, headD_mem h2 (putI_mem_self m x)⟩
theorem single_put_not {m : List It} {x : It} (h : singleB m = false) : singleB (putI m x) = false := by
  cases hs : singleB (putI m x)
  · rfl
  · have := singleB_iff.1 hs
    rw [singleB_iff.2 (fun y hy z hz => by obtain ⟨y', h1, h2⟩ := putI_D (x := x) hy; obtain ⟨z', h3, h4⟩ := putI_D (x := x) hz; rw [← h2, ← h4]; exact this y' h1 z' h3)] at h
    cases h
theorem NodeAt.mk_bk {n : Int} {S : Nat → Prop} {W : World} {f d g : Nat} {M : List It} {D : List UInt8} {pv : Value} {ps : List PR} (hs : singleB M = true) (hS : S g) (hB : Blk W g 220 (vbs D ++ (pv :: vbs (sumR n (bucketP (ps.map PR.dat)))))) (hD : headD M = D) (hp : PairsS S W pv ps) (hd : ps.map PR.dat = M.map It.pr) : NodeAt n S W f d M (bkV g) :=
  (NodeAt.bk hs).2 ⟨g, pv, ps, rfl, ⟨hS, by rw [hD, bkD, ← hd]; exact hB, hp, hd⟩⟩
/-- The children, one of them put anew. -/
theorem kids_set {m : List It} {x : It} {d : Nat} {vs : List Value} {v : Value} {P : List It → Value → Prop} (hm : SortedI m) (hh : hasI m d (digP x.D d) = true) (hk : ∀ c, hasI m d c = true → ∃ y, vs[rankB (bmI m d) (c : Int)]? = some y ∧ P (childI m d c) y) (hv : P (putI (childI m d (digP x.D d)) x) v) :
    bmI (putI m x) d = bmI m d ∧ ∀ c, hasI (putI m x) d c = true → ∃ y, (vs.set (rankB (bmI m d) (digP x.D d : Int)) v)[rankB (bmI (putI m x) d) (c : Int)]? = some y ∧ P (childI (putI m x) d c) y := by
  have hb : hasB (bmI m d) (digP x.D d : Int) = true := by rw [bmI_has, hh, decide_eq_true (digP_lt x.D d)]; rfl
  have e : bmI (putI m x) d = bmI m d := by rw [← with_put hm, withB_same (bmI_lt _ _) hb]
  refine ⟨e, fun c hc => ?_⟩
  rw [e]
  by_cases hcx : digP x.D d = c
  · subst hcx
    obtain ⟨y, hy, _⟩ := hk _ hh
    have := (List.getElem?_eq_some_iff.1 hy).1
    refine ⟨v, by rw [List.getElem?_set_self this], ?_⟩
    rw [child_put_same rfl]
    exact hv
  · rw [has_put hm, decide_eq_false hcx, Bool.or_false] at hc
    obtain ⟨y, hy, hP⟩ := hk c hc
    have hbc : hasB (bmI m d) (c : Int) = true := by rw [bmI_has, hc, decide_eq_true (has_lt hc)]; rfl
    refine ⟨y, ?_, by rw [child_put_other hm hcx]; exact hP⟩
    rw [List.getElem?_set_ne (fun h => hcx (rank_inj hb hbc h))]
    exact hy
theorem kids_ins {m : List It} {x : It} {d : Nat} {vs : List Value} {v : Value} {P : List It → Value → Prop} (hm : SortedI m) (hh : hasI m d (digP x.D d) = false) (hl : vs.length = cntB (bmI m d)) (hk : ∀ c, hasI m d c = true → ∃ y, vs[rankB (bmI m d) (c : Int)]? = some y ∧ P (childI m d c) y) (hv : P [x] v) :
    cntB (bmI (putI m x) d) = cntB (bmI m d) + 1 ∧ ∀ c, hasI (putI m x) d c = true → ∃ y, (vs.take (rankB (bmI m d) (digP x.D d : Int)) ++ v :: vs.drop (rankB (bmI m d) (digP x.D d : Int)))[rankB (bmI (putI m x) d) (c : Int)]? = some y ∧ P (childI (putI m x) d c) y := by
  have hd16 := digP_lt x.D d
  have hb : hasB (bmI m d) (digP x.D d : Int) = false := by rw [bmI_has, hh, decide_eq_true hd16]; rfl
  have hle := rank_le (bmI m d) (digP x.D d : Int)
  have htl : (vs.take (rankB (bmI m d) (digP x.D d : Int))).length = rankB (bmI m d) (digP x.D d : Int) := by rw [List.length_take]; omega
  refine ⟨by rw [← with_put hm, cnt_with hd16 hb], fun c hc => ?_⟩
  rw [← with_put hm, rank_with hd16 hb]
  by_cases hcx : digP x.D d = c
  · subst hcx
    refine ⟨v, ?_, ?_⟩
    · rw [if_neg (by omega), Nat.add_zero, List.getElem?_append_right (by omega), htl, Nat.sub_self]
      rfl
    · rw [child_put_same rfl]
      have e : childI m d (digP x.D d) = [] := by unfold hasI at hh; simpa using hh
      rw [e]
      exact hv
  · rw [has_put hm, decide_eq_false hcx, Bool.or_false] at hc
    obtain ⟨y, hy, hP⟩ := hk c hc
    have hbc : hasB (bmI m d) (c : Int) = true := by rw [bmI_has, hc, decide_eq_true (has_lt hc)]; rfl
    refine ⟨y, ?_, by rw [child_put_other hm hcx]; exact hP⟩
    rcases Nat.lt_or_gt_of_ne hcx with hlt | hgt
    · have := rank_mono (bm := bmI m d) (Nat.le_of_lt hlt)
      rw [if_pos hlt, List.getElem?_append_right (by omega), htl, show rankB (bmI m d) (c : Int) + 1 - rankB (bmI m d) (digP x.D d : Int) = (rankB (bmI m d) (c : Int) - rankB (bmI m d) (digP x.D d : Int)) + 1 from by omega, List.getElem?_cons_succ, List.getElem?_drop, show rankB (bmI m d) (digP x.D d : Int) + (rankB (bmI m d) (c : Int) - rankB (bmI m d) (digP x.D d : Int)) = rankB (bmI m d) (c : Int) from by omega]
      exact hy
    · have := rank_smono hbc hgt
      rw [if_neg (by omega), Nat.add_zero, List.getElem?_append_left (by omega), List.getElem?_take_of_lt this]
      exact hy
/-! ### What lies in memory lies in blocks that there are -/
def SLt (S : Nat → Prop) (w : World) : Nat → Prop := fun b => S b ∧ b < w.heap.size
theorem SlS.lt {S : Nat → Prop} {w : World} {v : Value} {n : Nat} {cells : List Value} (h : SlS S w v n cells) : SlS (SLt S w) w v n cells := by
  obtain ⟨a, c, rfl, hn, hm, h⟩ := h
  refine ⟨a, c, rfl, hn, hm, ?_⟩
  cases cells with
  | nil => exact Or.inl rfl
  | cons x l =>
    rcases h with h | ⟨b, o, rfl, hS, h⟩
    · cases h
    · exact Or.inr ⟨b, o, rfl, ⟨hS, block_lt_of_cell (h 0 x rfl)⟩, h⟩
theorem PairsS.lt {S : Nat → Prop} {w : World} {v : Value} {ps : List PR} (h : PairsS S w v ps) : PairsS (SLt S w) w v ps := ⟨h.1.lt, fun p hp => ⟨(h.2 p hp).1.lt, (h.2 p hp).2.lt⟩⟩
theorem BkIn.inlt {n : Int} {S : Nat → Prop} {w : World} {m : List It} {b : Nat} {pv : Value} {ps : List PR} (h : BkIn n S w m b pv ps) : BkIn n (SLt S w) w m b pv ps := ⟨⟨h.own, h.blk.lt⟩, h.blk, h.prs.lt, h.dat⟩
theorem NodeAt.inlt {n : Int} {S : Nat → Prop} {w : World} : ∀ {f d : Nat} {m : List It} {v : Value}, NodeAt n S w f d m v → NodeAt n (SLt S w) w f d m v
  | 0, d, m, v, h => by
    unfold NodeAt at h ⊢
    obtain ⟨hs, b, pv, ps, e, hb⟩ := h
    exact ⟨hs, b, pv, ps, e, hb.inlt⟩
  | f + 1, d, m, v, h => by
    cases hs : singleB m
    · rw [NodeAt.br hs] at h ⊢
      obtain ⟨b, kv, vs, e, hb, hk⟩ := h
      exact ⟨b, kv, vs, e, ⟨⟨hb.own, hb.blk.lt⟩, hb.blk, hb.kids.lt, hb.one, hb.len⟩, fun c hc => by obtain ⟨x, h1, h2⟩ := hk c hc; exact ⟨x, h1, NodeAt.inlt h2⟩⟩
    · rw [NodeAt.bk hs] at h ⊢
      obtain ⟨b, pv, ps, e, hb⟩ := h
      exact ⟨b, pv, ps, e, hb.inlt⟩
theorem MapAt.inlt {n : Int} {S : Nat → Prop} {w : World} {mv : Value} {m : List It} (h : MapAt n S w mv m) : MapAt n (SLt S w) w mv m := by
  obtain ⟨b, top, e, hS, hB, h1, h2⟩ := h
  exact ⟨b, top, e, ⟨hS, hB.lt⟩, hB, h1, fun hm => (h2 hm).inlt⟩
theorem KeepS.put {S : Nat → Prop} {w w' : World} {g : Nat} {T : TypeId} {l : List Value} (h : Put w w' g T l) (hg : ¬ S g) : KeepS S w w' := fun b hb _ => h.other b (fun e => hg (e ▸ hb))
end Go.Proofs.YthlkfjoibjhaiaaGreatDoor

/-! Its -/
namespace Go.Proofs.YthlkfjoibjhaiaaGreatDoor
set_option maxRecDepth 100000
set_option maxHeartbeats 2000000
open Go Go.RowKit
set_option linter.unusedVariables false
set_option linter.unusedSimpArgs false

theorem cmp_zero {n : Int} {x y : It} (hx : x.D = keyD n x.k) (hy : y.D = keyD n y.k) : cmpIt y x = 0 ↔ y.k = x.k := by
  rw [cmpIt_eq, hx, hy]
  exact ⟨fun h => h.2, fun h => ⟨by rw [h], h⟩⟩
theorem getI_put {n : Int} {m : List It} {x : It} (hO : OkI n m) (hx : x.D = keyD n x.k) (k : List UInt8) : getI (putI m x) k = if x.k = k then some x.v else getI m k := by
  have hz : ∀ y ∈ m, (cmpIt y x = 0 ↔ y.k = x.k) := fun y hy => cmp_zero hx (hO.dig y hy)
  unfold getI putI
  by_cases h : x.k = k
  · rw [if_pos h, List.find?_append, List.find?_eq_none.2, List.find?_cons_of_pos (by simpa using h)]
    · rfl
    · intro y hy
      have h1 := List.mem_filter.1 hy
      simp only [ltP, decide_eq_true_eq] at h1 ⊢
      intro hk
      have := (hz y h1.1).2 (by rw [hk, h])
      omega
  · rw [if_neg h, List.find?_append, List.find?_cons_of_neg (by simpa using h), ← List.find?_append]
    have hs := sort_split x m hO.sorted
    have he : (m.filter (eqP x)).find? (fun y => decide (y.k = k)) = none := by
      refine List.find?_eq_none.2 fun y hy => ?_
      have h1 := List.mem_filter.1 hy
      simp only [eqP, decide_eq_true_eq] at h1 ⊢
      intro hk
      exact h (by rw [← (hz y h1.1).1 h1.2, hk])
    conv => rhs; rw [hs, List.find?_append, List.find?_append, he, Option.none_or, ← List.find?_append]
theorem putI_new {n : Int} {m : List It} {x : It} (hO : OkI n m) (hx : x.D = keyD n x.k) (h : ∀ y ∈ m, y.k ≠ x.k) : (putI m x).length = m.length + 1 := by
  have hs := congrArg List.length (sort_split x m hO.sorted)
  have he : m.filter (eqP x) = [] := List.filter_eq_nil_iff.2 fun y hy => by
    simp only [eqP, decide_eq_true_eq]
    exact fun h0 => h y hy ((cmp_zero hx (hO.dig y hy)).1 h0)
  rw [he] at hs
  simp only [List.length_append, List.length_nil] at hs
  unfold putI
  rw [List.length_append, List.length_cons]
  omega
theorem OkI.nil (n : Int) : OkI n [] := ⟨by unfold SortedI; simp, by simp, by simp⟩
theorem del_none {l : List It} {k : List UInt8} (h : ∀ y ∈ l, y.k ≠ k) : delI l k = l := List.filter_eq_self.2 fun y hy => by simpa using h y hy
theorem mem_del {l : List It} {k : List UInt8} {y : It} : y ∈ delI l k ↔ y ∈ l ∧ y.k ≠ k := by simp [delI]
theorem getI_none {l : List It} {k : List UInt8} : getI l k = none ↔ ∀ y ∈ l, y.k ≠ k := by
  unfold getI
  rw [Option.map_eq_none_iff, List.find?_eq_none]
  exact ⟨fun h y hy => by simpa using h y hy, fun h y hy => by simpa using h y hy⟩
theorem del_of_none {l : List It} {k : List UInt8} (h : getI l k = none) : delI l k = l := del_none (getI_none.1 h)
theorem OkI.del {n : Int} {m : List It} (h : OkI n m) (k : List UInt8) : OkI n (delI m k) := ⟨delI_sorted h.sorted, fun y hy => h.dig y (mem_del.1 hy).1, fun y hy => h.short y (mem_del.1 hy).1⟩
theorem del_len (m : List It) (k : List UInt8) : (delI m k).length ≤ m.length := List.length_filter_le _ _
theorem Pre.del {d : Nat} {m : List It} (h : Pre d m) (k : List UInt8) : Pre d (delI m k) := h.sub fun y hy => (mem_del.1 hy).1
theorem child_del_other {n : Int} {m : List It} (hO : OkI n m) {k : List UInt8} {d c : Nat} (h : digP (keyD n k) d ≠ c) : childI (delI m k) d c = childI m d c := by
  rw [child_del]
  refine del_none fun y hy hk => h ?_
  obtain ⟨h1, h2⟩ := mem_child.1 hy
  rw [← h2, hO.dig y h1, hk]
theorem has_del_other {n : Int} {m : List It} (hO : OkI n m) {k : List UInt8} {d c : Nat} (h : digP (keyD n k) d ≠ c) : hasI (delI m k) d c = hasI m d c := by unfold hasI; rw [child_del_other hO h]
theorem has_of_ne {m : List It} {d c : Nat} (h : childI m d c ≠ []) : hasI m d c = true := by
  unfold hasI
  cases hc : childI m d c with
  | nil => exact absurd hc h
  | cons _ _ => rfl
theorem hasB_of {m : List It} {d c : Nat} (h : hasI m d c = true) : hasB (bmI m d) (c : Int) = true := by rw [bmI_has, h, decide_eq_true (has_lt h)]; rfl
/-- The bitmap stays where something is left under the digit. -/
theorem bm_del_keep {n : Int} {m : List It} (hO : OkI n m) {k : List UInt8} {d : Nat} (h : delI (childI m d (digP (keyD n k) d)) k ≠ []) : bmI (delI m k) d = bmI m d := by
  refine bit_ext (bmI_lt _ _) (bmI_lt _ _) fun c hc => ?_
  rw [bmI_bit, bmI_bit]
  congr 1
  by_cases hcx : digP (keyD n k) d = c
  · subst hcx
    rw [has_of_ne (by rw [child_del]; exact h), has_of_ne (fun e => h (by rw [e]; rfl))]
  · exact has_del_other hO hcx
theorem bm_del_drop {n : Int} {m : List It} (hO : OkI n m) {k : List UInt8} {d : Nat} (h : delI (childI m d (digP (keyD n k) d)) k = []) : withoutB (bmI m d) (digP (keyD n k) d : Int) = bmI (delI m k) d := by
  have hl := digP_lt (keyD n k) d
  refine bit_ext (withoutB_lt (bmI_lt _ _) _) (bmI_lt _ _) fun c hc => ?_
  have hp : 2 ^ digP (keyD n k) d ≤ 32768 := pow_le16 (by omega)
  have h65 : (65535 - 2 ^ digP (keyD n k) d).testBit c = !decide (digP (keyD n k) d = c) := by
    have hh : ∀ a b : Fin 16, (65535 - 2 ^ a.1).testBit b.1 = !decide (a.1 = b.1) := by decide +kernel
    exact hh ⟨_, hl⟩ ⟨c, hc⟩
  unfold withoutB
  rw [if_pos ((inB_iff _).2 (by omega)), Int.toNat_natCast, Nat.testBit_and, h65, bmI_bit, bmI_bit, decide_eq_true hc, Bool.true_and, Bool.true_and]
  by_cases hcx : digP (keyD n k) d = c
  · subst hcx
    rw [decide_eq_true rfl, Bool.not_true, Bool.and_false]
    unfold hasI
    rw [child_del, h]
    rfl
  · rw [decide_eq_false hcx, Bool.not_false, Bool.and_true, has_del_other hO hcx]
/-- A bitmap without one of its digits, put there again. -/
theorem with_without {bm c0 : Nat} (hb : bm < 65536) (h : hasB bm (c0 : Int) = true) : c0 < 16 ∧ hasB (withoutB bm (c0 : Int)) (c0 : Int) = false ∧ withB (withoutB bm (c0 : Int)) (c0 : Int) = bm := by
  rw [hasN] at h
  obtain ⟨h1, h2⟩ := Bool.and_eq_true_iff.1 h
  have h1' : c0 < 16 := by simpa using h1
  have hin : inB (c0 : Int) = true := (inB_iff _).2 (by omega)
  have h65 : ∀ c, c < 16 → (65535 - 2 ^ c0).testBit c = !decide (c0 = c) := fun c hc => by
    have hh : ∀ a b : Fin 16, (65535 - 2 ^ a.1).testBit b.1 = !decide (a.1 = b.1) := by decide +kernel
    exact hh ⟨_, h1'⟩ ⟨c, hc⟩
  refine ⟨h1', ?_, bit_ext (withB_lt (withoutB_lt hb _) _) hb fun c hc => ?_⟩
  · rw [hasN, decide_eq_true h1', Bool.true_and]
    unfold withoutB
    rw [if_pos hin, Int.toNat_natCast, Nat.testBit_and, h65 c0 h1', decide_eq_true rfl, Bool.not_true, Bool.and_false]
  · unfold withB withoutB
    rw [if_pos hin, if_pos hin, Int.toNat_natCast, Nat.testBit_or, Nat.testBit_and, h65 c hc, Nat.testBit_two_pow]
    by_cases e : c0 = c
    · subst e; simp [h2]
    · simp [e]
theorem kids_keep {n : Int} {m : List It} (hO : OkI n m) {k : List UInt8} {d : Nat} {vs : List Value} {v : Value} {P : List It → Value → Prop} (hh : hasI m d (digP (keyD n k) d) = true) (hne : delI (childI m d (digP (keyD n k) d)) k ≠ [])
    (hk : ∀ c, hasI m d c = true → ∃ y, vs[rankB (bmI m d) (c : Int)]? = some y ∧ P (childI m d c) y) (hv : P (delI (childI m d (digP (keyD n k) d)) k) v) :
    ∀ c, hasI (delI m k) d c = true → ∃ y, (vs.set (rankB (bmI m d) (digP (keyD n k) d : Int)) v)[rankB (bmI (delI m k) d) (c : Int)]? = some y ∧ P (childI (delI m k) d c) y := by
  intro c hc
  rw [bm_del_keep hO hne]
  by_cases hcx : digP (keyD n k) d = c
  · subst hcx
    obtain ⟨y, hy, _⟩ := hk _ hh
    have := (List.getElem?_eq_some_iff.1 hy).1
    refine ⟨v, by rw [List.getElem?_set_self this], ?_⟩
    rw [child_del]
    exact hv
  · rw [has_del_other hO hcx] at hc
    obtain ⟨y, hy, hP⟩ := hk c hc
    refine ⟨y, ?_, by rw [child_del_other hO hcx]; exact hP⟩
    rw [List.getElem?_set_ne (fun h => hcx (rank_inj (hasB_of hh) (hasB_of hc) h))]
    exact hy
theorem kids_drop {n : Int} {m : List It} (hO : OkI n m) {k : List UInt8} {d : Nat} {vs : List Value} {P : List It → Value → Prop} (hh : hasI m d (digP (keyD n k) d) = true) (he : delI (childI m d (digP (keyD n k) d)) k = []) (hl : vs.length = cntB (bmI m d))
    (hk : ∀ c, hasI m d c = true → ∃ y, vs[rankB (bmI m d) (c : Int)]? = some y ∧ P (childI m d c) y) :
    cntB (bmI (delI m k) d) + 1 = cntB (bmI m d) ∧ ∀ c, hasI (delI m k) d c = true → ∃ y, (vs.take (rankB (bmI m d) (digP (keyD n k) d : Int)) ++ vs.drop (rankB (bmI m d) (digP (keyD n k) d : Int) + 1))[rankB (bmI (delI m k) d) (c : Int)]? = some y ∧ P (childI (delI m k) d c) y := by
  obtain ⟨h16, hn, hw⟩ := with_without (bmI_lt m d) (hasB_of hh)
  rw [bm_del_drop hO he] at hn hw
  have hcnt := cnt_with h16 hn
  rw [hw] at hcnt
  have hrl := rank_lt (hasB_of hh)
  have htl : (vs.take (rankB (bmI m d) (digP (keyD n k) d : Int))).length = rankB (bmI m d) (digP (keyD n k) d : Int) := by rw [List.length_take]; omega
  refine ⟨by omega, fun c hc => ?_⟩
  have hrw := rank_with h16 hn c
  rw [hw] at hrw
  have hcx : digP (keyD n k) d ≠ c := by
    rintro rfl
    unfold hasI at hc
    rw [child_del, he] at hc
    cases hc
  rw [has_del_other hO hcx] at hc
  obtain ⟨y, hy, hP⟩ := hk c hc
  refine ⟨y, ?_, by rw [child_del_other hO hcx]; exact hP⟩
  rcases Nat.lt_or_gt_of_ne hcx with hlt | hgt
  · have h1 := rank_smono (hasB_of hh) hlt
    rw [if_pos hlt] at hrw
    rw [List.getElem?_append_right (by omega), htl, List.getElem?_drop, ← hy]
    congr 1
    omega
  · have h1 := rank_smono (hasB_of hc) hgt
    rw [if_neg (by omega)] at hrw
    rw [List.getElem?_append_left (by omega), List.getElem?_take_of_lt (by omega), ← hy]
    congr 1
    omega
/-- Two children: no single digest. -/
theorem two_not_single {m : List It} {d : Nat} (h : 2 ≤ cntB (bmI m d)) : singleB m = false := by
  cases hs : singleB m with
  | false => rfl
  | true =>
    exfalso
    have hs' := singleB_iff.1 hs
    have hg : ∀ i, i < cntB (bmI m d) → ∃ c, (setB (bmI m d))[i]? = some c ∧ hasI m d c = true := fun i hi => by
      obtain ⟨c, hc⟩ : ∃ c, (setB (bmI m d))[i]? = some c := ⟨_, List.getElem?_eq_getElem (by unfold cntB at hi; exact hi)⟩
      have h1 := mem_setB.1 (List.mem_of_getElem? hc)
      rw [bmI_bit] at h1
      exact ⟨c, hc, (Bool.and_eq_true_iff.1 h1.2).2⟩
    obtain ⟨a, ha, hA⟩ := hg 0 (by omega)
    obtain ⟨b, hb, hB⟩ := hg 1 (by omega)
    obtain ⟨y, hy, rfl⟩ := has_iff.1 hA
    obtain ⟨z, hz, rfl⟩ := has_iff.1 hB
    rw [hs' y hy z hz] at ha
    have r1 := rank_of ha
    have r2 := rank_of hb
    omega
/-- One child: all items are its. -/
theorem one_child {m : List It} {d : Nat} (h : cntB (bmI m d) = 1) : ∃ c, hasI m d c = true ∧ rankB (bmI m d) (c : Int) = 0 ∧ childI m d c = m := by
  obtain ⟨c, hc⟩ : ∃ c, (setB (bmI m d))[0]? = some c := ⟨_, List.getElem?_eq_getElem (by unfold cntB at h; omega)⟩
  have h1 := mem_setB.1 (List.mem_of_getElem? hc)
  rw [bmI_bit] at h1
  refine ⟨c, (Bool.and_eq_true_iff.1 h1.2).2, rank_of hc, List.filter_eq_self.2 fun y hy => ?_⟩
  have ha : hasI m d (digP y.D d) = true := has_iff.2 ⟨y, hy, rfl⟩
  have hr := rank_lt (hasB_of ha)
  have := rank_get (hasB_of ha)
  rw [show rankB (bmI m d) (digP y.D d : Int) = 0 from by omega, hc] at this
  simpa using (Option.some.inj this).symm
/-- A bucket without one of its keys. -/
theorem del_bucket {m : List It} {ps : List PR} {k : List UInt8} {i : Nat} (hd : ps.map PR.dat = m.map It.pr) (hs : ps.Pairwise fun a b => Lib.compareBytes a.k b.k < 0) (hF : FindP ps k i true) :
    (ps.take i ++ ps.drop (i + 1)).map PR.dat = (delI m k).map It.pr ∧ i < ps.length ∧ getI m k ≠ none := by
  obtain ⟨q, hq, hk⟩ := hF.hit.1 rfl
  obtain ⟨hil, hie⟩ := List.getElem?_eq_some_iff.1 hq
  have e : ps = ps.take i ++ q :: ps.drop (i + 1) := by rw [← hie]; simp
  have h1 : (delI m k).map It.pr = (ps.filter fun p => decide (p.k ≠ k)).map PR.dat := by
    have a1 : (delI m k).map It.pr = (m.map It.pr).filter fun p => decide (p.1 ≠ k) := by rw [List.filter_map]; rfl
    have a2 : (ps.filter fun p => decide (p.k ≠ k)).map PR.dat = (ps.map PR.dat).filter fun p => decide (p.1 ≠ k) := by rw [List.filter_map]; rfl
    rw [a1, a2, hd]
  have h2 : ps.filter (fun p => decide (p.k ≠ k)) = ps.take i ++ ps.drop (i + 1) := by
    have hs' := hs
    rw [e] at hs'
    obtain ⟨s1, s2, s3⟩ := List.pairwise_append.1 hs'
    have s4 := (List.pairwise_cons.1 s2).1
    conv => lhs; rw [e]
    rw [List.filter_append, List.filter_cons_of_neg (by simpa using hk), List.filter_eq_self.2, List.filter_eq_self.2]
    · intro p hp
      have := s4 p hp
      simp only [ne_eq, decide_not, Bool.not_eq_eq_eq_not, Bool.not_true, decide_eq_false_iff_not]
      intro h
      rw [hk, h, cmpB_self] at this
      omega
    · intro p hp
      have := s3 p hp q (by simp)
      simp only [ne_eq, decide_not, Bool.not_eq_eq_eq_not, Bool.not_true, decide_eq_false_iff_not]
      intro h
      rw [hk, h, cmpB_self] at this
      omega
  refine ⟨by rw [h1, h2], hil, fun hn => ?_⟩
  have hm : q.dat ∈ m.map It.pr := by rw [← hd]; exact List.mem_map_of_mem (List.mem_of_getElem? hq)
  obtain ⟨y, hy, he⟩ := List.mem_map.1 hm
  have := congrArg Prod.fst he
  simp only [It.pr, PR.dat] at this
  exact getI_none.1 hn y hy (by rw [this, hk])
theorem miss_bucket {m : List It} {ps : List PR} {k : List UInt8} {i : Nat} (hd : ps.map PR.dat = m.map It.pr) (hs : ps.Pairwise fun a b => Lib.compareBytes a.k b.k < 0) (hF : FindP ps k i false) : getI m k = none := by
  refine getI_none.2 fun y hy hk => ?_
  have hm : y.pr ∈ ps.map PR.dat := by rw [hd]; exact List.mem_map_of_mem hy
  obtain ⟨p, hp, he⟩ := List.mem_map.1 hm
  have hpk : p.k = k := by have := congrArg Prod.fst he; simp only [It.pr, PR.dat] at this; rw [this, hk]
  obtain ⟨j, hj⟩ := List.getElem?_of_mem hp
  have hnot : ¬ ∃ p, ps[i]? = some p ∧ p.k = k := fun h => by have := hF.hit.2 h; cases this
  rcases Nat.lt_trichotomy j i with h | h | h
  · have := hF.low j p hj h
    rw [hpk, cmpB_self] at this
    omega
  · subst h
    exact hnot ⟨p, hj, hpk⟩
  · obtain ⟨hjl, hje⟩ := List.getElem?_eq_some_iff.1 hj
    have hil : i < ps.length := by omega
    have h1 := hF.high i _ (List.getElem?_eq_getElem hil) (Nat.le_refl _)
    have h2 := List.pairwise_iff_getElem.1 hs i j hil hjl h
    rw [hje, hpk] at h2
    omega
end Go.Proofs.YthlkfjoibjhaiaaGreatDoor

/-! Bok -/
namespace Go.Proofs.YthlkfjoibjhaiaaGreatDoor
set_option maxRecDepth 100000
set_option maxHeartbeats 2000000
open Go Go.RowKit
set_option linter.unusedVariables false
set_option linter.unusedSimpArgs false

theorem key_of {n : Int} {m : List It} (hS : SortedI m) (hD : ∀ y ∈ m, y.D = keyD n y.k) {y z : It} (hy : y ∈ m) (hz : z ∈ m) (h : y.k = z.k) : y = z := by
  have h0 : cmpIt y z = 0 := (cmpIt_eq y z).2 ⟨by rw [hD y hy, hD z hz, h], h⟩
  obtain ⟨i, hi⟩ := List.getElem?_of_mem hy
  obtain ⟨j, hj⟩ := List.getElem?_of_mem hz
  obtain ⟨hil, hi'⟩ := List.getElem?_eq_some_iff.1 hi
  obtain ⟨hjl, hj'⟩ := List.getElem?_eq_some_iff.1 hj
  have hp := List.pairwise_iff_getElem.1 hS
  rcases Nat.lt_trichotomy i j with h | h | h
  · have := hp i j hil hjl h; rw [hi', hj'] at this; omega
  · subst h; rw [← hi', hj']
  · have := hp j i hjl hil h; rw [hi', hj'] at this; have := cmpIt_neg z y; omega
theorem getI_some_mem {m : List It} {k v : List UInt8} (h : getI m k = some v) : ∃ y ∈ m, y.k = k ∧ y.v = v := by
  unfold getI at h
  cases hf : m.find? (fun z => decide (z.k = k)) with
  | none => rw [hf] at h; cases h
  | some z =>
    rw [hf] at h
    exact ⟨z, List.mem_of_find?_eq_some hf, by simpa using List.find?_some hf, Option.some.inj h⟩
theorem mem_put {n : Int} {m : List It} {x : It} (hO : OkI n m) (hx : x.D = keyD n x.k) {y : It} : y ∈ putI m x ↔ y = x ∨ (y ∈ m ∧ y.k ≠ x.k) := by
  constructor
  · intro h
    rcases mem_putI h with rfl | hm
    · exact Or.inl rfl
    · by_cases hk : y.k = x.k
      · exact Or.inl (key_of (n := n) (putI_sorted hO.sorted) (fun z hz => by rcases mem_putI hz with rfl | hz; exact hx; exact hO.dig z hz) h (putI_mem_self m x) hk)
      · exact Or.inr ⟨hm, hk⟩
  · rintro (rfl | ⟨h1, h2⟩)
    · exact putI_mem_self m y
    · exact putI_mem_old h1 fun h0 => h2 ((cmpIt_eq y x).1 h0).2
theorem del_put {n : Int} {m : List It} {x : It} (hO : OkI n m) (hx : x.D = keyD n x.k) : delI (putI m x) x.k = delI m x.k := by
  refine sorted_ext (delI_sorted (putI_sorted hO.sorted)) (delI_sorted hO.sorted) fun y => ?_
  rw [mem_del, mem_del, mem_put hO hx]
  constructor
  · rintro ⟨rfl | h, hk⟩
    · exact absurd rfl hk
    · exact ⟨h.1, hk⟩
  · rintro ⟨h, hk⟩
    exact ⟨Or.inr ⟨h, hk⟩, hk⟩
theorem put_del {n : Int} {m : List It} {k v : List UInt8} (hO : OkI n m) (h : getI m k = some v) : putI (delI m k) ⟨keyD n k, k, v⟩ = m := by
  obtain ⟨z, hz, hzk, hzv⟩ := getI_some_mem h
  have e : z = ⟨keyD n k, k, v⟩ := by
    cases z with
    | mk D k' v' =>
      have := hO.dig _ hz
      simp only at hzk hzv this
      rw [this, hzk, hzv]
  refine sorted_ext (putI_sorted (delI_sorted hO.sorted)) hO.sorted fun y => ?_
  rw [mem_put (hO.del k) rfl, mem_del]
  constructor
  · rintro (rfl | ⟨⟨h1, _⟩, _⟩)
    · rw [← e]; exact hz
    · exact h1
  · intro hy
    by_cases hk : y.k = k
    · left
      rw [← e]
      exact key_of (n := n) hO.sorted hO.dig hy hz (by rw [hk, hzk])
    · exact Or.inr ⟨⟨hy, hk⟩, hk⟩
theorem len_del_some {n : Int} {m : List It} {k v : List UInt8} (hO : OkI n m) (h : getI m k = some v) : m.length = (delI m k).length + 1 := by
  have h1 := congrArg List.length (put_del hO h)
  rw [putI_new (n := n) (hO.del k) rfl (fun y hy => (mem_del.1 hy).2)] at h1
  exact h1.symm
theorem put_put {n : Int} {m : List It} {x : It} (hO : OkI n m) (hx : x.D = keyD n x.k) : getI (putI m x) x.k = some x.v := by rw [getI_put hO hx, if_pos rfl]
theorem getI_del (m : List It) (k k' : List UInt8) : getI (delI m k) k' = if k = k' then none else getI m k' := by
  by_cases h : k = k'
  · rw [if_pos h, getI_none]
    intro y hy
    rw [← h]
    exact (mem_del.1 hy).2
  · rw [if_neg h]
    unfold getI delI
    rw [find_filter]
    intro y _ hk
    have hk' : y.k = k' := by simpa using hk
    simp only [decide_eq_true_eq]
    rw [hk']
    exact fun e => h e.symm

/-! ### Books -/
def bget (B : List PR) (k : List UInt8) : Option (List UInt8) := (B.find? fun p => decide (p.k = k)).map (·.v)
def OnceP (B : List PR) : Prop := B.Pairwise fun a b => a.k ≠ b.k
theorem bget_none {B : List PR} {k : List UInt8} : bget B k = none ↔ ∀ p ∈ B, p.k ≠ k := by
  unfold bget
  rw [Option.map_eq_none_iff, List.find?_eq_none]
  exact ⟨fun h p hp => by simpa using h p hp, fun h p hp => by simpa using h p hp⟩
theorem bget_at {B : List PR} (hB : OnceP B) {i : Nat} {p : PR} (h : B[i]? = some p) : bget B p.k = some p.v := by
  unfold bget
  obtain ⟨hl, he⟩ := List.getElem?_eq_some_iff.1 h
  have e : B = B.take i ++ p :: B.drop (i + 1) := by rw [← he, List.getElem_cons_drop, List.take_append_drop]
  have hp := hB
  unfold OnceP at hp
  rw [e] at hp
  obtain ⟨_, _, h3⟩ := List.pairwise_append.1 hp
  rw [e, List.find?_append, List.find?_eq_none.2, List.find?_cons_of_pos (by simp)]
  · rfl
  · intro q hq
    simpa using h3 q hq p (by simp)
theorem bget_mem {B : List PR} {k v : List UInt8} (h : bget B k = some v) : ∃ p ∈ B, p.k = k ∧ p.v = v := by
  unfold bget at h
  cases hf : B.find? (fun z => decide (z.k = k)) with
  | none => rw [hf] at h; cases h
  | some z =>
    rw [hf] at h
    exact ⟨z, List.mem_of_find?_eq_some hf, by simpa using List.find?_some hf, Option.some.inj h⟩
theorem bget_iff {B : List PR} (hB : OnceP B) {k v : List UInt8} : bget B k = some v ↔ ∃ p ∈ B, p.k = k ∧ p.v = v := by
  refine ⟨bget_mem, ?_⟩
  rintro ⟨p, hp, rfl, rfl⟩
  obtain ⟨i, hi⟩ := List.getElem?_of_mem hp
  exact bget_at hB hi
theorem bget_ext {B B' : List PR} (hB : OnceP B) (hB' : OnceP B') {k : List UInt8} (h : ∀ v, (∃ p ∈ B, p.k = k ∧ p.v = v) ↔ ∃ p ∈ B', p.k = k ∧ p.v = v) : bget B k = bget B' k := by
  have key : ∀ v, bget B k = some v ↔ bget B' k = some v := fun v => by rw [bget_iff hB, bget_iff hB']; exact h v
  cases h1 : bget B k with
  | some v => exact ((key v).1 h1).symm
  | none =>
    cases h2 : bget B' k with
    | none => rfl
    | some v => rw [(key v).2 h2] at h1; cases h1
theorem once_set {B : List PR} (hB : OnceP B) {i : Nat} {p q : PR} (h : B[i]? = some p) (hk : q.k = p.k) : OnceP (B.set i q) := by
  unfold OnceP
  rw [List.pairwise_iff_getElem]
  intro a b ha hb hab
  have hp := List.pairwise_iff_getElem.1 hB
  have e : ∀ (c : Nat) (hc : c < (B.set i q).length), ((B.set i q)[c]).k = (B[c]'(by simpa using hc)).k := by
    intro c hc
    rw [List.getElem_set]
    split
    · rename_i hci
      subst hci
      rw [hk]
      rw [(List.getElem?_eq_some_iff.1 h).2]
    · rfl
  rw [e a ha, e b hb]
  exact hp a b _ _ hab
theorem once_idx {B : List PR} (hB : OnceP B) {i j : Nat} {p q : PR} (hp : B[i]? = some p) (hq : B[j]? = some q) (h : p.k = q.k) : i = j := by
  obtain ⟨h1, h2⟩ := List.getElem?_eq_some_iff.1 hp
  obtain ⟨h3, h4⟩ := List.getElem?_eq_some_iff.1 hq
  have hw := List.pairwise_iff_getElem.1 hB
  rcases Nat.lt_trichotomy i j with hl | hl | hl
  · have := hw i j h1 h3 hl; rw [h2, h4] at this; exact absurd h this
  · exact hl
  · have := hw j i h3 h1 hl; rw [h2, h4] at this; exact absurd h.symm this
theorem once_of {B : List PR} (h : ∀ (i j : Nat) (p q : PR), B[i]? = some p → B[j]? = some q → p.k = q.k → i = j) : OnceP B := by
  unfold OnceP
  rw [List.pairwise_iff_getElem]
  intro a b ha hb hab hk
  have := h a b _ _ (List.getElem?_eq_getElem ha) (List.getElem?_eq_getElem hb) hk
  omega
theorem mem_set_iff {B : List PR} {i : Nat} {q p : PR} (hi : i < B.length) : p ∈ B.set i q ↔ p = q ∨ ∃ j, j ≠ i ∧ B[j]? = some p := by
  constructor
  · intro h
    obtain ⟨j, hj⟩ := List.getElem?_of_mem h
    by_cases hji : i = j
    · subst hji
      rw [List.getElem?_set_self hi] at hj
      exact Or.inl (Option.some.inj hj).symm
    · rw [List.getElem?_set_ne hji] at hj
      exact Or.inr ⟨j, fun e => hji e.symm, hj⟩
  · rintro (rfl | ⟨j, hji, hj⟩)
    · exact List.mem_of_getElem? (List.getElem?_set_self hi)
    · exact List.mem_of_getElem? (i := j) (by rw [List.getElem?_set_ne (fun e => hji e.symm)]; exact hj)
/-- A book without its place i: the last pair takes it. -/
def unsetB (B : List PR) (i : Nat) (l : PR) : List PR := (B.set i l).take (B.length - 1)
theorem unset_get {B : List PR} {i : Nat} {l : PR} (hi : i < B.length) (hl : B[B.length - 1]? = some l) (j : Nat) (p : PR) : (unsetB B i l)[j]? = some p ↔ j < B.length - 1 ∧ B[if j = i then B.length - 1 else j]? = some p := by
  unfold unsetB
  rw [List.getElem?_take]
  by_cases hj : j < B.length - 1
  · rw [if_pos hj]
    by_cases hji : j = i
    · subst hji
      rw [List.getElem?_set_self hi, if_pos rfl, hl]
      exact ⟨fun h => ⟨hj, h⟩, fun h => h.2⟩
    · rw [List.getElem?_set_ne (fun e => hji e.symm), if_neg hji]
      exact ⟨fun h => ⟨hj, h⟩, fun h => h.2⟩
  · rw [if_neg hj]
    constructor
    · intro h; cases h
    · intro h; exact absurd h.1 hj
theorem once_unset {B : List PR} (hB : OnceP B) {i : Nat} {l : PR} (hi : i < B.length) (hl : B[B.length - 1]? = some l) : OnceP (unsetB B i l) := by
  refine once_of fun a b p q hp hq hk => ?_
  obtain ⟨h1, h2⟩ := (unset_get hi hl a p).1 hp
  obtain ⟨h3, h4⟩ := (unset_get hi hl b q).1 hq
  have := once_idx hB h2 h4 hk
  split at this <;> split at this <;> omega
theorem mem_unset {B : List PR} {i : Nat} {l p : PR} (hi : i < B.length) (hl : B[B.length - 1]? = some l) : p ∈ unsetB B i l ↔ ∃ j, j ≠ i ∧ B[j]? = some p := by
  constructor
  · intro h
    obtain ⟨j, hj⟩ := List.getElem?_of_mem h
    obtain ⟨h1, h2⟩ := (unset_get hi hl j p).1 hj
    refine ⟨_, ?_, h2⟩
    split <;> omega
  · rintro ⟨j, hji, hj⟩
    have hjl := (List.getElem?_eq_some_iff.1 hj).1
    by_cases hjm : j = B.length - 1
    · refine List.mem_of_getElem? (i := i) ((unset_get hi hl i p).2 ⟨by omega, ?_⟩)
      rw [if_pos rfl, ← hjm]
      exact hj
    · refine List.mem_of_getElem? (i := j) ((unset_get hi hl j p).2 ⟨by omega, ?_⟩)
      rw [if_neg hji]
      exact hj
/-- A tree's items and a book say one thing. -/
structure RelB (n : Int) (m : List It) (B : List PR) : Prop where
  ok : OkI n m
  once : OnceP B
  all : ∀ k, getI m k = bget B k
  len : m.length = B.length
theorem RelB.nil (n : Int) : RelB n [] [] := ⟨OkI.nil n, List.Pairwise.nil, fun _ => rfl, rfl⟩
theorem RelB.set {n : Int} {m : List It} {B : List PR} (h : RelB n m B) {i : Nat} {p q : PR} (hi : B[i]? = some p) (hk : q.k = p.k) (hs : q.k.length ≤ 64 ∧ q.v.length ≤ 256) : RelB n (putI m ⟨keyD n q.k, q.k, q.v⟩) (B.set i q) := by
  have hil := (List.getElem?_eq_some_iff.1 hi).1
  have hO := h.ok.put (x := ⟨keyD n q.k, q.k, q.v⟩) rfl hs
  have hon := once_set h.once hi hk
  refine ⟨hO, hon, fun k => ?_, ?_⟩
  · rw [getI_put h.ok rfl]
    by_cases hqk : q.k = k
    · rw [if_pos hqk]
      exact ((bget_iff hon).2 ⟨q, (mem_set_iff hil).2 (Or.inl rfl), hqk, rfl⟩).symm
    · rw [if_neg hqk, h.all]
      refine bget_ext h.once hon fun v => ?_
      constructor
      · rintro ⟨y, hy, h1, h2⟩
        obtain ⟨j, hj⟩ := List.getElem?_of_mem hy
        refine ⟨y, (mem_set_iff hil).2 (Or.inr ⟨j, fun e => hqk ?_, hj⟩), h1, h2⟩
        subst e
        rw [hi] at hj
        cases hj
        rw [hk, h1]
      · rintro ⟨y, hy, h1, h2⟩
        rcases (mem_set_iff hil).1 hy with rfl | ⟨j, _, hj⟩
        · exact absurd h1 hqk
        · exact ⟨y, List.mem_of_getElem? hj, h1, h2⟩
  · rw [List.length_set, ← h.len]
    have hg : getI m q.k = some p.v := by rw [h.all, hk]; exact bget_at h.once hi
    have h1 := len_del_some hO (put_put (x := ⟨keyD n q.k, q.k, q.v⟩) h.ok rfl)
    have h2 := del_put (x := ⟨keyD n q.k, q.k, q.v⟩) h.ok rfl
    simp only at h1 h2
    rw [h1, h2]
    exact (len_del_some h.ok hg).symm
theorem RelB.add {n : Int} {m : List It} {B : List PR} (h : RelB n m B) {q : PR} (hno : ∀ p ∈ B, p.k ≠ q.k) (hs : q.k.length ≤ 64 ∧ q.v.length ≤ 256) : RelB n (putI m ⟨keyD n q.k, q.k, q.v⟩) (B ++ [q]) := by
  have hg : getI m q.k = none := by rw [h.all]; exact bget_none.2 hno
  have hon : OnceP (B ++ [q]) := by
    refine List.pairwise_append.2 ⟨h.once, List.pairwise_singleton _ _, fun a ha b hb => ?_⟩
    rw [List.mem_singleton.1 hb]
    exact hno a ha
  refine ⟨h.ok.put rfl hs, hon, fun k => ?_, ?_⟩
  · rw [getI_put h.ok rfl]
    by_cases hqk : q.k = k
    · rw [if_pos hqk]
      exact ((bget_iff hon).2 ⟨q, by simp, hqk, rfl⟩).symm
    · rw [if_neg hqk, h.all]
      refine bget_ext h.once hon fun v => ?_
      constructor
      · rintro ⟨y, hy, h1, h2⟩
        exact ⟨y, List.mem_append.2 (Or.inl hy), h1, h2⟩
      · rintro ⟨y, hy, h1, h2⟩
        rcases List.mem_append.1 hy with hy | hy
        · exact ⟨y, hy, h1, h2⟩
        · rw [List.mem_singleton.1 hy] at h1
          exact absurd h1 hqk
  · rw [putI_new h.ok rfl (getI_none.1 hg), List.length_append, h.len]
    rfl
theorem RelB.del {n : Int} {m : List It} {B : List PR} (h : RelB n m B) {i : Nat} {p l : PR} (hi : B[i]? = some p) (hl : B[B.length - 1]? = some l) : RelB n (delI m p.k) (unsetB B i l) := by
  have hil := (List.getElem?_eq_some_iff.1 hi).1
  have hon := once_unset h.once hil hl
  refine ⟨h.ok.del _, hon, fun k => ?_, ?_⟩
  · rw [getI_del]
    by_cases hpk : p.k = k
    · rw [if_pos hpk]
      symm
      refine bget_none.2 fun y hy hyk => ?_
      obtain ⟨j, hji, hj⟩ := (mem_unset hil hl).1 hy
      exact hji (once_idx h.once hj hi (by rw [hyk, hpk]))
    · rw [if_neg hpk, h.all]
      refine bget_ext h.once hon fun v => ?_
      constructor
      · rintro ⟨y, hy, h1, h2⟩
        obtain ⟨j, hj⟩ := List.getElem?_of_mem hy
        refine ⟨y, (mem_unset hil hl).2 ⟨j, fun e => hpk ?_, hj⟩, h1, h2⟩
        subst e
        rw [hi] at hj
        cases hj
        exact h1
      · rintro ⟨y, hy, h1, h2⟩
        obtain ⟨j, _, hj⟩ := (mem_unset hil hl).1 hy
        exact ⟨y, List.mem_of_getElem? hj, h1, h2⟩
  · have hg : getI m p.k = some p.v := by rw [h.all]; exact bget_at h.once hi
    have h1 := len_del_some h.ok hg
    have h2 := h.len
    unfold unsetB
    rw [List.length_take, List.length_set]
    omega
theorem RelB.miss {n : Int} {m : List It} {B : List PR} (h : RelB n m B) {k : List UInt8} (hno : ∀ p ∈ B, p.k ≠ k) : delI m k = m := del_of_none (by rw [h.all]; exact bget_none.2 hno)
end Go.Proofs.YthlkfjoibjhaiaaGreatDoor

/-! Cnv -/
namespace Go.Proofs.YthlkfjoibjhaiaaGreatDoor
set_option maxRecDepth 100000
set_option maxHeartbeats 2000000
open Go Go.RowKit
set_option linter.unusedVariables false
set_option linter.unusedSimpArgs false

/-! ### Conversions -/
theorem convS {w : World} {v : Value} {xs : List UInt8} {K : Value → World → Prop} (h : SlB w v xs) (hK : K (.string ⟨xs.toArray⟩) w) : RawConv Tryz.prog 22 9 v w K := by
  obtain ⟨a, c, rfl, hnc, hcm, hc⟩ := h
  cases a with
  | none =>
    have hx : xs = [] := by
      rcases hc with hc | ⟨b, o, h, _⟩
      · simpa [vbs] using hc
      · cases h
    subst hx
    refine ⟨⟨.string ⟨#[]⟩, w, ?_, hK⟩⟩
    rw [run_convert_bytes_string w 22 9 5 none _ c Tryz.underlying22 Tryz.underlying5 Tryz.underlying9]
    rfl
  | some a =>
    refine ⟨⟨_, _, run_convert_bytes_back w 22 9 5 a c xs Tryz.underlying22 Tryz.underlying5 Tryz.underlying9 ?_, hK⟩⟩
    intro j hj
    rcases hc with hc | ⟨b, o, h, hc⟩
    · have : xs = [] := by simpa [vbs] using hc
      subst this
      simp at hj
    · cases h
      rw [addr_add]
      exact hc j _ (by simp [vbs, vb, hj])
theorem convM {w : World} {b n c : Nat} {T : TypeId} {xs : List UInt8} {K : Value → World → Prop} (hB : Blk w b T (vbs xs)) (hn : n = xs.length) (hc : n ≤ c) (hm : c ≤ 9223372036854775807)
    (hK : ∀ w', SlB w' (.slice (some ⟨b, 0, none⟩) n c) xs → KeepB w w' b → K (.slice (some ⟨b, 0, none⟩) n c) w') : RawConv Tryz.prog 22 22 (.slice (some ⟨b, 0, none⟩) n c) w K := by
  subst hn
  have hsh : w.shape? b = some (T, xs.length) := by simp [World.shape?, hB.out, vbs_len]
  refine ⟨⟨.slice (some ⟨b, 0, none⟩) xs.length c, w.freeze ⟨b, xs.length, none⟩ 1, ?_, ?_⟩⟩
  · simp [convert, run_underlying Tryz.underlying22, run_underlying Tryz.underlying5, markStringish, shape, Sem.run, Result.andThen, hsh]
  · refine hK _ ⟨_, _, rfl, hc, hm, Or.inr ⟨b, 0, rfl, fun j u hj => ?_⟩⟩ ⟨rfl, rfl, rfl, by simp [World.freeze], fun k hk hkb => ?_⟩
    · rw [Nat.zero_add]
      have := hj
      simp [World.cell?, World.freeze, Array.getElem?_modify, hB.out]
      exact hj
    · simp [World.freeze, Array.getElem?_modify, Ne.symm hkb]
theorem convN {w : World} {xs : List UInt8} {n : Nat} {l : List Value} {K : Value → World → Prop} (hl : l = vbs xs) (hn : n = xs.length) (hm : n ≤ 9223372036854775807)
    (hK : ∀ w', Ext w w' → w.heap.size + 1 ≤ w'.heap.size → SlB w' (.slice (some ⟨w.heap.size, 0, none⟩) n n) xs → K (.slice (some ⟨w.heap.size, 0, none⟩) n n) w') :
    ∀ w', NewB w w' 5 l → RawConv Tryz.prog 22 22 (.slice (some ⟨w.heap.size, 0, none⟩) n n) w' K := fun w' hN => by
  subst hl
  exact convM hN.blk hn (Nat.le_refl _) hm fun w'' hS hk => hK w'' (hN.ext.trans (hk.below (Nat.le_refl _) (by have := hN.size; omega))) (by have := hk.size; have := hN.size; omega) hS
/-! ### The order of strings -/
end Go.Proofs.YthlkfjoibjhaiaaGreatDoor

/-! Hmh -/
namespace Go.Proofs.YthlkfjoibjhaiaaGreatDoor
set_option maxRecDepth 100000
set_option maxHeartbeats 2000000
open Go Go.RowKit
set_option linter.unusedVariables false
set_option linter.unusedSimpArgs false
set_option maxHeartbeats 1000000
attribute [local irreducible] vcT opsT qT vcOp Q1 vcPure vcLoad vcStore ldC ldN ldD grdT grdQ vc vcOps vcQ hT
attribute [local irreducible] sumR sumP shaP keyD bucketP branchP

theorem prc_len (ps : List PR) : (ps.flatMap PR.cells).length = ps.length * 2 := by
  induction ps with
  | nil => rfl
  | cons p ps ih => rw [List.flatMap_cons, List.length_append, ih, List.length_cons]; simp only [PR.cells, List.length_cons, List.length_nil]; omega
theorem PairsAt.one {w : World} {v : Value} {ps : List PR} (h : PairsAt w v ps) : ∀ u ∈ ps.flatMap PR.cells, oneCellV u = true := by
  intro u hu
  obtain ⟨q, hq, hu⟩ := List.mem_flatMap.1 hu
  obtain ⟨hq1, hq2⟩ := h.2 q hq
  obtain ⟨a1, c1, e1⟩ := slv_of hq1
  obtain ⟨a2, c2, e2⟩ := slv_of hq2
  simp only [PR.cells, List.mem_cons, List.not_mem_nil, or_false] at hu
  rcases hu with rfl | rfl
  · rw [e1]; rfl
  · rw [e2]; rfl
theorem PairsS.ins {S : Nat → Prop} {W : World} {base n i j : Nat} {v : Value} {ps : List PR} {p : PR} (hO : Own W base 47 2 v n ((ps.take i ++ p :: ps.drop j).flatMap PR.cells)) (hS : ∀ b, base ≤ b → S b)
    (ho : ∀ q ∈ ps, SlS S W q.kv q.k.length (vbs q.k) ∧ SlS S W q.vv q.v.length (vbs q.v)) (hp : SlS S W p.kv p.k.length (vbs p.k) ∧ SlS S W p.vv p.v.length (vbs p.v)) : PairsS S W v (ps.take i ++ p :: ps.drop j) := by
  have hn : n = (ps.take i ++ p :: ps.drop j).length := by have h1 := hO.1; have h2 := prc_len (ps.take i ++ p :: ps.drop j); omega
  subst hn
  refine ⟨SlS.of_own hO hS, fun q hq => ?_⟩
  rcases List.mem_append.1 hq with hq | hq
  · exact ho q (List.mem_of_mem_take hq)
  · rcases List.mem_cons.1 hq with rfl | hq
    · exact hp
    · exact ho q (List.mem_of_mem_drop hq)
theorem put_ok (n : Int) (hw : widB n = true) (S : Nat → Prop) (b : Nat) (top : Value) (x : It) (ka va : Option Addr) (kn kc vn vc : Nat) (hxD : x.D = keyD n x.k) (hxs : x.k.length ≤ 64 ∧ x.v.length ≤ 256) :
    ∀ (f d : Nat) (m : List It) (at_ : Value) (w : World), WordsAt w 1 → Blk w b 211 [.int .i64 n, top] → AtN n S w f d m at_ → OkI n m → Pre d (x :: m) →
    SlS S w (.slice ka kn kc) x.k.length (vbs x.k) → SlS S w (.slice va vn vc) x.v.length (vbs x.v) → d + f = 64 → m.length ≤ 900000000 → (∀ k, S k → k < w.heap.size) →
    CallK Tryz.prog 131 [.pointer (some ⟨b, 0, none⟩), at_, .int .i64 d, .agg (vbs x.D).toArray, .agg [.slice ka kn kc, .slice va vn vc].toArray].toArray w fun v w' => NodeAt n (fun k => S k ∨ w.heap.size ≤ k) w' f d (putI m x) v ∧ Ext w w' := by
  have hwn := (widB_iff n).1 hw
  obtain ⟨nn, rfl⟩ : ∃ nn : Nat, n = nn := ⟨n.toNat, by omega⟩
  have hxl : x.D.length = 32 := by rw [hxD]; exact keyD_len _ _
  intro f
  induction f using Nat.strongRecOn with
  | ind f ih =>
    intro d m at_ w hW hB hA hO hP hk hv hdf hml hSl
    have hbl := hB.lt
    have hpq : ∀ {W : World} {c : Nat}, Ext w W → w.heap.size ≤ c → Blk W c 47 [.slice ka kn kc, .slice va vn vc] → PairsS (fun k => S k ∨ w.heap.size ≤ k) W (.slice (some ⟨c, 0, none⟩) 1 1) [⟨.slice ka kn kc, .slice va vn vc, x.k, x.v⟩] :=
      fun e hc hB => ⟨SlS.of_blk hB (Or.inr hc) (by simp), fun q hq => by obtain rfl := List.mem_singleton.1 hq; exact ⟨(hk.keep (KeepS.of_ext e)).mono (fun k h => Or.inl h), (hv.keep (KeepS.of_ext e)).mono (fun k h => Or.inl h)⟩⟩
    have hO1 : OkI nn [x] := ⟨by unfold SortedI; simp, fun y hy => by obtain rfl := List.mem_singleton.1 hy; exact hxD, fun y hy => by obtain rfl := List.mem_singleton.1 hy; exact hxs⟩
    have hOM : OkI nn (putI m x) := hO.put hxD hxs
    have hs1 : singleB [x] = true := singleB_iff.2 fun y hy z hz => by rw [List.mem_singleton.1 hy, List.mem_singleton.1 hz]
    rcases hA.cases with ⟨rfl, rfl⟩ | ⟨hne, hs, b4, pv, ps, rfl, hb⟩ | ⟨hs, f', hf', b4, kv4, vs, rfl, hb, hkids⟩
    · refine enterT Tryz.func131 rfl Tryz.ntmps131 Tryz.results131 rfl (by decide) ?_
      repeat (first | exact trivial | refine stpg ?_)
      first | refine newS ?_ | refine newZ ?_
      intro w1 hE1 hz1 hB1
      repeat (first | exact trivial | refine stpg ?_)
      first | refine newS ?_ | refine newZ ?_
      intro w2 hE2 hz2 hB2
      repeat (first | exact trivial | refine stpg ?_)
      refine ⟨rfl, rfl, ?_⟩
      first | refine newS ?_ | refine newZ ?_
      intro w3 hE3 hz3 hB3
      have hps := hpq (Ext.go (b := w3)) (by omega) hB3
      refine (pour_ok nn b top x.D hxl _ _ w3 (hW.ext .go) .go hps.at (hO1.bucket_le rfl (by simp))).mono ?_
      rintro _ w4 ⟨g, rfl, hg, hB4, hE4⟩
      repeat (first | exact trivial | refine stpg ?_)
      exact ⟨NodeAt.mk_bk hs1 (Or.inr (by omega)) hB4 rfl (hps.keep (KeepS.of_ext hE4)) rfl, .go⟩
    · have hB4 := hb.blk
      have hdl := headD_len (n := nn) hne hO.len
      have hhl : (vbs (headD m)).length = 32 := by rw [vbs_len]; exact hdl
      have hpl : ps.length ≤ 900000000 := by have := congrArg List.length hb.dat; simp at this; omega
      have hps := pairs_sorted hb.dat (sorted_keys hO.sorted (singleB_iff.1 hs))
      have hpa := hb.prs.at
      obtain ⟨pa, cp, rfl⟩ := slv_of hpa.1
      refine enterT Tryz.func131 rfl Tryz.ntmps131 Tryz.results131 rfl (by decide) ?_
      repeat (first | exact trivial | refine stpg ?_)
      first | refine newS ?_ | refine newZ ?_
      intro w1 hE1 hz1 hB1
      repeat (first | exact trivial | refine stpg ?_)
      first | refine newS ?_ | refine newZ ?_
      intro w2 hE2 hz2 hB2
      repeat (first | exact trivial | refine stpg ?_)
      refine ldNg (m := vbs (headD m)) (hm := by rw [List.drop_zero, List.take_append_of_le_length (by omega), vbs_tk hdl]) ?_
      repeat (first | exact trivial | refine stpg ?_)
      refine eqd_lit _ _ _ _ _ _ Tryz.underlying5 c5 hdl hxl ?_
      by_cases hdx : headD m = x.D
      · rw [decide_eq_true hdx]
        obtain ⟨i, ok, hF⟩ := find_ex x.k hps
        have hDx : ∀ y ∈ m, y.D = x.D := fun y hy => by rw [← headD_mem hs hy]; exact hdx
        have hput := put_bucket hb.dat hDx hps hF
        have hsp := single_put (x := x) hDx
        repeat (first | exact trivial | refine stpg ?_)
        intro w3 hE3
        have hz3 := hE3.size
        repeat (first | exact trivial | refine stpg ?_)
        refine ldCg (hv := by rw [List.getElem?_append_right (by omega), hhl]; rfl) ?_
        repeat (first | exact trivial | refine stpg ?_)
        refine qcall (.tuple [.int .i64 (i : Nat), .bool ok].toArray) (fun w' hw' => (find_ok ps x.k _ _ w' (hpa.ext .go) (hk.sl.ext .go) hps (by omega)).mono ?_) ?_
        · rintro _ w'' ⟨i', ok', rfl, hF', hE'⟩
          obtain ⟨rfl, rfl⟩ := hF'.uniq hF
          exact ⟨rfl, hE'⟩
        repeat (first | exact trivial | refine stpg ?_)
        intro w4 hE4
        have hz4 := hE4.size
        repeat (first | exact trivial | refine stpg ?_)
        refine ldCg (hv := by rw [List.getElem?_append_right (by omega), hhl]; rfl) ?_
        repeat (first | exact trivial | refine stpg ?_)
        refine (ClnP_ok _ ps.length _ w4 (hpa.1.ext .go) (prc_len ps) hpa.one (by omega)).mono ?_
        rintro v5 w5 ⟨hO5, hE5⟩
        have hz5 := hE5.size
        obtain rfl | rfl : ok = true ∨ ok = false := by cases ok <;> simp
        · obtain ⟨q, hq, hqk⟩ := hF.hit.1 rfl
          obtain ⟨hil, hie⟩ := List.getElem?_eq_some_iff.1 hq
          obtain ⟨g, cap, rest, rfl, hg, hBg, hnc, hcm, hln⟩ := hO5.open (by omega)
          have hsp1 : ps.flatMap PR.cells = (ps.take i).flatMap PR.cells ++ (q.cells ++ (ps.drop (i + 1)).flatMap PR.cells) := by
            have h1 : ps = ps.take i ++ (q :: ps.drop (i + 1)) := by rw [← hie]; simp
            have h2 := congrArg (List.flatMap PR.cells) h1
            rwa [List.flatMap_append, List.flatMap_cons] at h2
          have hrl : rest.length = (cap - ps.length) * 2 := by rw [List.length_append, prc_len] at hln; omega
          have htl : ((ps.take i).flatMap PR.cells).length = i * 2 := by rw [prc_len, List.length_take]; omega
          rw [hsp1, List.append_assoc, List.append_assoc] at hBg
          rw [if_pos rfl] at hput
          repeat (first | exact trivial | refine stpg ?_)
          refine stSeg hBg htl (vs := [.slice ka kn kc, .slice va vn vc]) rfl (by rw [c47]; decide) (by rw [c47]; rfl) rfl (by simp [oneCellV]) (fun w6 hP6 => ?_)
          have hz6 := hP6.size
          have hB6 := hP6.blk
          have hBe : (ps.take i).flatMap PR.cells ++ ([.slice ka kn kc, .slice va vn vc] ++ ((ps.drop (i + 1)).flatMap PR.cells ++ rest)) = (ps.take i ++ (⟨.slice ka kn kc, .slice va vn vc, x.k, x.v⟩ : PR) :: ps.drop (i + 1)).flatMap PR.cells ++ rest := by
            simp [PR.cells]
          rw [hBe] at hB6
          have hO6 := own_mk (sz := 2) hB6 hg (n := ps.length) (by rw [prc_len, List.length_append, List.length_cons, List.length_take, List.length_drop]; omega) hrl hnc hcm
          have hK6 : KeepS S w w6 := KeepS.of_ext Ext.go
          have hps6 := PairsS.ins (S := fun k => S k ∨ w.heap.size ≤ k) hO6 (fun k h => Or.inr (by omega)) (fun q hq => ⟨((hb.prs.2 q hq).1.keep hK6).mono (fun k h => Or.inl h), ((hb.prs.2 q hq).2.keep hK6).mono (fun k h => Or.inl h)⟩) ⟨(hk.keep hK6).mono (fun k h => Or.inl h), (hv.keep hK6).mono (fun k h => Or.inl h)⟩
          have hdat : (ps.take i ++ (⟨.slice ka kn kc, .slice va vn vc, x.k, x.v⟩ : PR) :: ps.drop (i + 1)).map PR.dat = (putI m x).map It.pr := by
            rw [hput, List.map_append, List.map_append, List.map_cons, List.map_cons, List.map_take, List.map_take, List.map_drop, List.map_drop, hb.dat]
            rfl
          repeat (first | exact trivial | refine stpg ?_)
          refine (pour_ok nn b top x.D hxl _ _ w6 (hW.ext .go) .go hps6.at (hOM.bucket_le hdat (by have := putI_len m x; omega))).mono ?_
          rintro _ w7 ⟨g7, rfl, hg7, hB7, hE7⟩
          repeat (first | exact trivial | refine stpg ?_)
          exact ⟨NodeAt.mk_bk hsp.1 (Or.inr (by omega)) hB7 hsp.2 (hps6.keep (KeepS.of_ext hE7)) hdat, .go⟩
        · rw [if_neg (by decide)] at hput
          have hil := hF.le
          have hsp1 : ps.flatMap PR.cells = (ps.take i).flatMap PR.cells ++ (ps.drop i).flatMap PR.cells := by rw [← List.flatMap_append, List.take_append_drop]
          obtain ⟨a5, c5, rfl⟩ := own_slice hO5
          repeat (first | exact trivial | refine stpg ?_)
          refine ⟨rfl, rfl, ?_⟩
          first | refine newS ?_ | refine newZ ?_
          intro w6 hE6 hz6 hB6
          have htop := hO5.top
          rw [hsp1] at hO5
          refine (InsP_ok _ _ [.slice ka kn kc, .slice va vn vc] i ps.length (by rw [prc_len, List.length_take]; omega) (by rw [prc_len, List.length_drop]) hil rfl (by simp [oneCellV]) (fun u hu => hpa.one u (by rw [hsp1]; exact List.mem_append.2 (Or.inr hu))) _ w4.heap.size w5.heap.size w6 (hO5.ext hE6) (by omega) .go (fun h => by have := htop _ h; omega) (by omega)).mono ?_
          rintro v7 w7 ⟨hO7, hE7, _⟩
          have hz7 := hE7.size
          have hBe : (ps.take i).flatMap PR.cells ++ ([.slice ka kn kc, .slice va vn vc] ++ (ps.drop i).flatMap PR.cells) = (ps.take i ++ (⟨.slice ka kn kc, .slice va vn vc, x.k, x.v⟩ : PR) :: ps.drop i).flatMap PR.cells := by
            simp [PR.cells]
          rw [hBe] at hO7
          have hK7 : KeepS S w w7 := KeepS.of_ext Ext.go
          have hps7 := PairsS.ins (S := fun k => S k ∨ w.heap.size ≤ k) hO7 (fun k h => Or.inr (by omega)) (fun q hq => ⟨((hb.prs.2 q hq).1.keep hK7).mono (fun k h => Or.inl h), ((hb.prs.2 q hq).2.keep hK7).mono (fun k h => Or.inl h)⟩) ⟨(hk.keep hK7).mono (fun k h => Or.inl h), (hv.keep hK7).mono (fun k h => Or.inl h)⟩
          have hdat : (ps.take i ++ (⟨.slice ka kn kc, .slice va vn vc, x.k, x.v⟩ : PR) :: ps.drop i).map PR.dat = (putI m x).map It.pr := by
            rw [hput, List.map_append, List.map_append, List.map_cons, List.map_cons, List.map_take, List.map_take, List.map_drop, List.map_drop, hb.dat]
            rfl
          obtain ⟨a7, c7, rfl⟩ := own_slice hO7
          repeat (first | exact trivial | refine stpg ?_)
          refine (pour_ok nn b top x.D hxl _ _ w7 (hW.ext .go) .go hps7.at (hOM.bucket_le hdat (by have := putI_len m x; omega))).mono ?_
          rintro _ w8 ⟨g8, rfl, hg8, hB8, hE8⟩
          repeat (first | exact trivial | refine stpg ?_)
          exact ⟨NodeAt.mk_bk hsp.1 (Or.inr (by omega)) hB8 hsp.2 (hps7.keep (KeepS.of_ext hE8)) hdat, .go⟩
      · rw [decide_eq_false hdx]
        repeat (first | exact trivial | refine stpg ?_)
        intro w3 hE3
        have hz3 := hE3.size
        repeat (first | exact trivial | refine stpg ?_)
        refine ⟨rfl, rfl, ?_⟩
        first | refine newS ?_ | refine newZ ?_
        intro w4 hE4 hz4 hB4
        have hpsx := hpq (Ext.go (b := w4)) (by omega) hB4
        refine (pour_ok nn b top x.D hxl _ _ w4 (hW.ext .go) .go hpsx.at (hO1.bucket_le rfl (by simp))).mono ?_
        rintro _ w5 ⟨g, rfl, hg, hB5, hE5⟩
        have hz5 := hE5.size
        have hK5 : KeepS S w w5 := KeepS.of_ext Ext.go
        have hbx : BkIn nn (fun k => S k ∨ w.heap.size ≤ k) w5 [x] g _ _ := ⟨Or.inr (by omega), hB5, hpsx.keep (KeepS.of_ext hE5), rfl⟩
        have hbm := (hb.keep hK5).mono (S' := fun k => S k ∨ w.heap.size ≤ k) (fun k h => Or.inl h)
        have hmem : ∀ y, y ∈ putI m x ↔ y ∈ m ∨ y ∈ [x] := by
          intro y
          constructor
          · intro h
            rcases mem_putI h with rfl | h
            · exact Or.inr (by simp)
            · exact Or.inl h
          · rintro (h | h)
            · refine putI_mem_old h fun h0 => hdx ?_
              rw [headD_mem hs h]
              exact ((cmpIt_eq y x).1 h0).1
            · rw [List.mem_singleton.1 h]
              exact putI_mem_self m x
        repeat (first | exact trivial | refine stpg ?_)
        refine (join_ok nn hw _ b top f d m [x] (putI m x) b4 g _ _ _ _ w5 (hW.ext .go) .go hbm hbx hne (by simp) hs hs1 hO.sorted hO1.sorted hOM hmem hdx (hP.sub fun y hy => by rcases mem_putI hy with rfl | hy; exact List.mem_cons_self; exact List.mem_cons_of_mem _ hy) hdf (by have := putI_len m x; omega)).mono ?_
        rintro v6 w6 ⟨hN6, hE6⟩
        obtain ⟨t6, u6, rfl⟩ := hN6.iface
        repeat (first | exact trivial | refine stpg ?_)
        exact ⟨hN6.mono (fun k h => h.elim id (fun h => Or.inr (by omega))), .go⟩
    · have hB4 := hb.blk
      have hb4l := hB4.lt
      have hbm := bmI_lt m d
      have hPm : Pre d m := hP.sub fun y hy => List.mem_cons_of_mem _ hy
      have hPM : Pre d (putI m x) := hP.sub fun y hy => by rcases mem_putI hy with rfl | hy; exact List.mem_cons_self; exact List.mem_cons_of_mem _ hy
      have hdn := br_depth hs hPm (hO.form hw)
      have hfx : formB nn x.D = true := by rw [hxD]; unfold keyD; exact form_sumR nn _ hw
      have hat := atP_dig (by omega) (by omega) hxl hfx hdn
      have hd16 := digP_lt x.D d
      have hkv := hb.kids
      obtain ⟨qa, qc, rfl⟩ := slv_of hkv.sl
      have hvl := hb.len
      have hc16 := cnt_le (bmI m d)
      have hrle := rank_le (bmI m d) (digP x.D d : Int)
      have hsM := single_put_not (x := x) hs
      have hwith := with_put hO.sorted x d
      refine enterT Tryz.func131 rfl Tryz.ntmps131 Tryz.results131 rfl (by decide) ?_
      repeat (first | exact trivial | refine stpg ?_)
      first | refine newS ?_ | refine newZ ?_
      intro w1 hE1 hz1 hB1
      repeat (first | exact trivial | refine stpg ?_)
      first | refine newS ?_ | refine newZ ?_
      intro w2 hE2 hz2 hB2
      repeat (first | exact trivial | refine stpg ?_)
      refine (digit_hamt_ok nn b top x.D hxl d w2 .go).mono ?_
      rintro _ w3 ⟨rfl, hE3⟩
      have hz3 := hE3.size
      rw [hat]
      repeat (first | exact trivial | refine stpg ?_)
      refine (Rank_ok (bmI m d) hbm (digP x.D d) w3).mono ?_
      rintro _ w4 ⟨rfl, hE4⟩
      have hz4 := hE4.size
      repeat (first | exact trivial | refine stpg ?_)
      refine (ClnN_ok vs vs.length _ w4 (hkv.sl.ext .go) (by omega) hb.one (by omega)).mono ?_
      rintro v5 w5 ⟨hO5, hE5⟩
      have hz5 := hE5.size
      repeat (first | exact trivial | refine stpg ?_)
      refine (Has_ok (bmI m d) hbm (digP x.D d) w5).mono ?_
      rintro _ w6 ⟨rfl, hE6⟩
      have hz6 := hE6.size
      rw [bmI_has, decide_eq_true hd16, Bool.true_and]
      obtain ⟨a5, c5, rfl⟩ := own_slice hO5
      cases hh : hasI m d (digP x.D d)
      · repeat (first | exact trivial | refine stpg ?_)
        refine ⟨rfl, rfl, ?_⟩
        first | refine newS ?_ | refine newZ ?_
        intro w7 hE7 hz7 hB7
        have hpsx := hpq (Ext.go (b := w7)) (by omega) hB7
        refine (pour_ok nn b top x.D hxl _ _ w7 (hW.ext .go) .go hpsx.at (hO1.bucket_le rfl (by simp))).mono ?_
        rintro _ w8 ⟨g, rfl, hg, hB8, hE8⟩
        have hz8 := hE8.size
        repeat (first | exact trivial | refine stpg ?_)
        refine ⟨rfl, rfl, ?_⟩
        first | refine newS ?_ | refine newZ ?_
        intro w9 hE9 hz9 hB9
        have hB9' : Blk w9 w8.heap.size 209 [bkV g] := hB9
        have htop := hO5.top
        rw [show vs = vs.take (rankB (bmI m d) (digP x.D d : Int)) ++ vs.drop (rankB (bmI m d) (digP x.D d : Int)) from (List.take_append_drop _ _).symm, List.take_append_drop] at hO5
        have hO9 : Own w9 w4.heap.size 209 1 (.slice a5 vs.length c5) vs.length (vs.take (rankB (bmI m d) (digP x.D d : Int)) ++ vs.drop (rankB (bmI m d) (digP x.D d : Int))) := by rw [List.take_append_drop]; exact hO5.ext Ext.go
        refine (InsN_ok _ _ [bkV g] (rankB (bmI m d) (digP x.D d : Int)) vs.length (by rw [List.length_take]; omega) (by rw [List.length_drop]; omega) (by omega) rfl (by simp [oneCellV]) (fun u hu => hb.one u (List.mem_of_mem_drop hu)) _ w4.heap.size w8.heap.size w9 hO9 (by omega) hB9' (fun h => by have := htop _ h; omega) (by omega)).mono ?_
        rintro v10 w10 ⟨hO10, hE10, hY10⟩
        have hz10 := hE10.size
        obtain ⟨a10, c10, rfl⟩ := own_slice hO10
        repeat (first | exact trivial | refine stpg ?_)
        refine (With_ok (bmI m d) hbm (digP x.D d) w10).mono ?_
        rintro _ w11 ⟨rfl, hE11⟩
        have hz11 := hE11.size
        rw [hwith]
        repeat (first | exact trivial | refine stpg ?_)
        have hK11 : KeepS S w w11 := KeepS.of_ext Ext.go
        have hNx : NodeAt nn (fun k => S k ∨ w.heap.size ≤ k) w11 f' (d + 1) [x] (bkV g) := NodeAt.mk_bk hs1 (Or.inr (by omega)) ((hY10 _ _ _ (fun h => by have := htop _ h; omega) (hB8.ext hE9)).ext hE11) rfl (hpq Ext.go (by omega) ((hY10 _ _ _ (fun h => by have := htop _ h; omega) (Blk.go (h := hB7))).ext hE11)) rfl
        have hvs1 : (vs.take (rankB (bmI m d) (digP x.D d : Int)) ++ bkV g :: vs.drop (rankB (bmI m d) (digP x.D d : Int))).length = vs.length + 1 := by rw [List.length_append, List.length_cons, List.length_take, List.length_drop]; omega
        obtain ⟨hcn, hkk⟩ := kids_ins (P := fun l y => NodeAt nn (fun k => S k ∨ w.heap.size ≤ k) w11 f' (d + 1) l y) hO.sorted hh hvl (fun c hc => by obtain ⟨y, h1, h2⟩ := hkids c hc; exact ⟨y, h1, (h2.keep hK11).mono (fun k h => Or.inl h)⟩) hNx
        have h1v : ∀ u ∈ vs.take (rankB (bmI m d) (digP x.D d : Int)) ++ bkV g :: vs.drop (rankB (bmI m d) (digP x.D d : Int)), oneCellV u = true := by
          intro u hu
          rcases List.mem_append.1 hu with hu | hu
          · exact hb.one u (List.mem_of_mem_take hu)
          · rcases List.mem_cons.1 hu with rfl | hu
            · rfl
            · exact hb.one u (List.mem_of_mem_drop hu)
        have hO11 : Own w11 w4.heap.size 209 1 (.slice a10 (vs.length + 1) c10) (vs.length + 1) (vs.take (rankB (bmI m d) (digP x.D d : Int)) ++ bkV g :: vs.drop (rankB (bmI m d) (digP x.D d : Int))) := hO10.ext hE11
        generalize vs.take (rankB (bmI m d) (digP x.D d : Int)) ++ bkV g :: vs.drop (rankB (bmI m d) (digP x.D d : Int)) = us at *
        rw [← hvs1] at hO11 ⊢
        refine (fork_ok nn hw _ f' d b top _ us (putI m x) w11 (hW.ext .go) .go (SlC.of_own hO11) h1v (by omega) hkk hOM.sorted hPM (by omega) (by have := putI_len m x; omega)).mono ?_
        rintro _ w12 ⟨g12, rfl, hg12, hB12, hE12⟩
        repeat (first | exact trivial | refine stpg ?_)
        refine ⟨?_, .go⟩
        rw [hf']
        exact NodeAt.mk_br hsM (Or.inr (by omega)) hB12 (SlS.of_own (hO11.ext hE12) (fun k h => Or.inr (by omega))) h1v (by omega) (fun c hc => by obtain ⟨y, h1, h2⟩ := hkk c hc; exact ⟨y, h1, h2.ext hE12⟩)
      · obtain ⟨y, hy, hNy⟩ := hkids _ hh
        have hrl := (List.getElem?_eq_some_iff.1 hy).1
        obtain ⟨g, cap, rest, hge, hg, hBg, hnc, hcm, hln⟩ := hO5.open (by omega)
        obtain ⟨rfl, rfl⟩ : a5 = some ⟨g, 0, none⟩ ∧ c5 = cap := by cases hge; exact ⟨rfl, rfl⟩
        repeat (first | exact trivial | refine stpg ?_)
        refine drawX (.of [0, 1, 2, 3, 4, 5, 6, 7, 8, 9, 10, 11, 12, 13]) mixed (by decide +kernel) (fun w7 hE7 hz7 => ?_)
        repeat (first | exact trivial | refine stpg ?_)
        refine ldSg (v := y) ?_ (by intro w' hw'; refine stp ?_; exact ldCg rfl (hv := by rw [List.getElem?_append_left (by omega)]; exact hy))
        repeat (first | exact trivial | refine stpg ?_)
        rw [show IntKind.i64.wrap ((d : Int) + 1) = ((d + 1 : Nat) : Int) from by rw [w64 (by omega) (by omega)]; omega]
        have hK7 : KeepS S w w7 := KeepS.of_ext Ext.go
        have hcl : (childI m d (digP x.D d)).length ≤ m.length := List.length_filter_le _ _
        have hPc : Pre (d + 1) (x :: childI m d (digP x.D d)) := by
          have h1 := hP.child (digP x.D d)
          unfold childI at h1 ⊢
          rwa [List.filter_cons_of_pos (by simp)] at h1
        refine (ih f' (by omega) (d + 1) (childI m d (digP x.D d)) y w7 (hW.ext .go) .go ⟨fun h => absurd h (child_ne hh), fun _ => hNy.keep hK7⟩ (hO.child _ _) hPc (hk.keep hK7) (hv.keep hK7) (by omega) (by omega) (fun k h => by have := hSl k h; omega)).mono ?_
        rintro v8 w8 ⟨hN8, hE8⟩
        have hz8 := hE8.size
        refine toldX ?_
        obtain ⟨t8, u8, rfl⟩ := hN8.iface
        repeat (first | exact trivial | refine stpg ?_)
        have hsp : vs ++ rest = vs.take (rankB (bmI m d) (digP x.D d : Int)) ++ (y :: (vs.drop (rankB (bmI m d) (digP x.D d : Int) + 1) ++ rest)) := by
          have h1 := (List.getElem?_eq_some_iff.1 hy).2
          have h2 : vs = vs.take (rankB (bmI m d) (digP x.D d : Int)) ++ (y :: vs.drop (rankB (bmI m d) (digP x.D d : Int) + 1)) := by rw [← h1]; simp
          rw [← List.cons_append, ← List.append_assoc, ← h2]
        have hBg8 : Blk w8 g 209 (vs.take (rankB (bmI m d) (digP x.D d : Int)) ++ (y :: (vs.drop (rankB (bmI m d) (digP x.D d : Int) + 1) ++ rest))) := by rw [← hsp]; exact Blk.go
        refine stAt c209 hBg8 (by rw [List.length_take]; omega) rfl rfl (fun w9 hP9 => ?_)
        have hz9 := hP9.size
        have hB9 := hP9.blk
        have hse : vs.take (rankB (bmI m d) (digP x.D d : Int)) ++ (.iface t8 u8 :: (vs.drop (rankB (bmI m d) (digP x.D d : Int) + 1) ++ rest)) = vs.set (rankB (bmI m d) (digP x.D d : Int)) (.iface t8 u8) ++ rest := by
          rw [List.set_eq_take_append_cons_drop, if_pos hrl, List.append_assoc]
          rfl
        rw [hse] at hB9
        refine toldZ ?_
        repeat (first | exact trivial | refine stpg ?_)
        refine (With_ok (bmI m d) hbm (digP x.D d) w9).mono ?_
        rintro _ w10 ⟨rfl, hE10⟩
        have hz10 := hE10.size
        rw [hwith]
        repeat (first | exact trivial | refine stpg ?_)
        have hK89 : KeepS (fun k => S k ∨ w7.heap.size ≤ k) w8 w9 := KeepS.put hP9 (fun h => by rcases h with h | h; have := hSl g h; omega; have := hBg.lt; omega)
        have hN10 : NodeAt nn (fun k => S k ∨ w.heap.size ≤ k) w10 f' (d + 1) (putI (childI m d (digP x.D d)) x) (.iface t8 u8) := ((hN8.keep hK89).keep (KeepS.of_ext hE10)).mono (fun k h => h.imp id (fun h => by omega))
        have hK10 : KeepS S w w10 := KeepS.of_ext Ext.go
        obtain ⟨hbe, hkk⟩ := kids_set (P := fun l y => NodeAt nn (fun k => S k ∨ w.heap.size ≤ k) w10 f' (d + 1) l y) hO.sorted hh (fun c hc => by obtain ⟨y, h1, h2⟩ := hkids c hc; exact ⟨y, h1, (h2.keep hK10).mono (fun k h => Or.inl h)⟩) hN10
        have h1v : ∀ u ∈ vs.set (rankB (bmI m d) (digP x.D d : Int)) (.iface t8 u8), oneCellV u = true := by
          intro u hu
          rcases List.mem_or_eq_of_mem_set hu with hu | rfl
          · exact hb.one u hu
          · rfl
        have hul : (vs.set (rankB (bmI m d) (digP x.D d : Int)) (.iface t8 u8)).length = vs.length := List.length_set
        have hO10 : Own w10 w4.heap.size 209 1 (.slice (some ⟨g, 0, none⟩) vs.length c5) vs.length (vs.set (rankB (bmI m d) (digP x.D d : Int)) (.iface t8 u8)) := own_mk (hB9.ext hE10) hg (by omega) (by rw [List.length_append] at hln; omega) hnc hcm
        generalize vs.set (rankB (bmI m d) (digP x.D d : Int)) (.iface t8 u8) = us at *
        rw [← hul] at hO10 ⊢
        refine (fork_ok nn hw _ f' d b top _ us (putI m x) w10 (hW.ext .go) .go (SlC.of_own hO10) h1v (by rw [hul, hvl, hbe]) hkk hOM.sorted hPM (by omega) (by have := putI_len m x; omega)).mono ?_
        rintro _ w12 ⟨g12, rfl, hg12, hB12, hE12⟩
        repeat (first | exact trivial | refine stpg ?_)
        refine ⟨?_, .go⟩
        rw [hf']
        exact NodeAt.mk_br hsM (Or.inr (by omega)) hB12 (SlS.of_own (hO10.ext hE12) (fun k h => Or.inr (by omega))) h1v (by rw [hul, hvl, hbe]) (fun c hc => by obtain ⟨y, h1, h2⟩ := hkk c hc; exact ⟨y, h1, h2.ext hE12⟩)
theorem Put_hamt_ok (n : Int) (hw : widB n = true) (S : Nat → Prop) (mv kv vv : Value) (m : List It) (key val : List UInt8) (w : World) (hW : WordsAt w 1) (h : MapAt n S w mv m) (hO : OkI n m) (hk : SlB w kv key) (hv : SlB w vv val) (hml : m.length ≤ 900000000) :
    CallK Tryz.prog 39 [mv, kv, vv].toArray w fun r w' => (∃ rv, r = .tuple [rv, .int .i64 (if 64 < key.length ∨ 256 < val.length then 2 else 0 : Nat)].toArray ∧
      (64 < key.length ∨ 256 < val.length → rv = .pointer none) ∧ (¬ (64 < key.length ∨ 256 < val.length) → MapAt n (fun k => S k ∨ w.heap.size ≤ k) w' rv (putI m ⟨keyD n key, key, val⟩))) ∧ Ext w w' := by
  obtain ⟨b, top, rfl, hS, hB, hT1, hT2⟩ := h
  have hwn := (widB_iff n).1 hw
  obtain ⟨nn, rfl⟩ : ∃ nn : Nat, n = nn := ⟨n.toNat, by omega⟩
  obtain ⟨va, vc, rfl⟩ := slv_of hv
  refine enterT Tryz.func39 rfl Tryz.ntmps39 Tryz.results39 rfl (by decide) ?_
  repeat (first | exact trivial | refine stpg ?_)
  refine (check_hamt_ok nn b top key kv w hW hB hk hw).mono ?_
  rintro _ w1 ⟨D, hDl, rfl, hD, hE1⟩
  have hz1 := hE1.size
  have hbl := hB.lt
  by_cases h64 : 64 < key.length
  · rw [if_pos h64, if_pos (Or.inl h64)]
    repeat (first | exact trivial | refine stpg ?_)
    first | refine newS ?_ | refine newZ ?_
    intro w2 hE2 hz2 hB2
    repeat (first | exact trivial | refine stpg ?_)
    exact ⟨⟨_, rfl, fun _ => rfl, fun h => absurd (Or.inl h64) h⟩, .go⟩
  obtain rfl := hD (by omega)
  rw [if_neg h64]
  repeat (first | exact trivial | refine stpg ?_)
  first | refine newS ?_ | refine newZ ?_
  intro w2 hE2 hz2 hB2
  repeat (first | exact trivial | refine stpg ?_)
  refine ⟨fun hlt => ?_, fun hge => ?_⟩
  · have hc : 64 < key.length ∨ 256 < val.length := Or.inr (by omega)
    rw [if_pos hc]
    repeat (first | exact trivial | refine stpg ?_)
    exact ⟨⟨_, rfl, fun _ => rfl, fun h => absurd hc h⟩, .go⟩
  · have hc : ¬ (64 < key.length ∨ 256 < val.length) := by omega
    rw [if_neg hc]
    refine drawX (.of [0, 1, 2, 3, 4, 5, 6, 7, 8, 9, 10, 11, 12, 13, 14, 15, 16, 17]) mixed (by decide +kernel) (fun w3 hE3 hz3 => ?_)
    repeat (first | exact trivial | refine stpg ?_)
    refine (twin_hamt_ok key val kv _ w3 (hk.ext .go) (hv.ext .go) (by omega) (by omega)).mono ?_
    rintro _ w4 ⟨ka, kn, kc, va', vn, vc', rfl, hRB, hE4⟩
    have hz4 := hE4.size
    obtain ⟨mid, hm1, hQ1, mid2, hm2, hQ2, hm3⟩ := hRB
    have hkl : kn = key.length := by obtain ⟨a', c', e⟩ := own_slice hQ1.own; cases e; rfl
    have hvl : vn = val.length := by obtain ⟨a', c', e⟩ := own_slice hQ2.own; cases e; rfl
    subst hkl hvl
    refine toldX ?_
    repeat (first | exact trivial | refine stpg ?_)
    have hK4 : KeepS S w w4 := KeepS.of_ext Ext.go
    have hks : SlS (SLt (fun k => S k ∨ w.heap.size ≤ k) w4) w4 (.slice ka key.length kc) key.length (vbs key) := (SlS.of_own hQ1.own (fun k h => Or.inr (by omega))).lt
    have hvs : SlS (SLt (fun k => S k ∨ w.heap.size ≤ k) w4) w4 (.slice va' val.length vc') val.length (vbs val) := (SlS.of_own hQ2.own (fun k h => Or.inr (by omega))).lt
    refine (put_ok nn hw (SLt (fun k => S k ∨ w.heap.size ≤ k) w4) b top ⟨keyD nn key, key, val⟩ ka va' key.length kc val.length vc' rfl ⟨by simp only; omega, by simp only; omega⟩ 64 0 m top w4 (hW.ext .go) .go
      ⟨hT1, fun hm => (((hT2 hm).keep hK4).mono (fun k h => Or.inl h)).inlt⟩ hO ⟨fun y hy => by rcases List.mem_cons.1 hy with rfl | hy; exact keyD_len _ _; exact hO.len y hy, fun _ _ _ _ j hj => by omega⟩ hks hvs rfl hml (fun k h => h.2)).mono ?_
    rintro v5 w5 ⟨hN5, hE5⟩
    have hz5 := hE5.size
    obtain ⟨t5, u5, rfl⟩ := hN5.iface
    refine toldX ?_
    repeat (first | exact trivial | refine stpg ?_)
    refine bldC [.int .i64 nn, .iface t5 u5] (by kernel_rfl) ?_
    repeat (first | exact trivial | refine stpg ?_)
    first | refine newS ?_ | refine newZ ?_
    intro w6 hE6 hz6 hB6
    refine toldX ?_
    repeat (first | exact trivial | refine stpg ?_)
    refine ⟨⟨_, rfl, fun h => absurd h hc, fun _ => ?_⟩, .go⟩
    exact ⟨w5.heap.size, .iface t5 u5, rfl, Or.inr (by omega), hB6, fun he => absurd (he ▸ putI_mem_self m _) (by simp), fun _ => (hN5.ext hE6).mono (fun k h => h.elim (fun h => h.1) (fun h => Or.inr (by omega)))⟩
end Go.Proofs.YthlkfjoibjhaiaaGreatDoor

/-! Sld -/
namespace Go.Proofs.YthlkfjoibjhaiaaGreatDoor
set_option maxRecDepth 100000
set_option maxHeartbeats 2000000
open Go Go.RowKit
set_option linter.unusedVariables false
set_option linter.unusedSimpArgs false

theorem DelP_ok (A X D : List Value) (i len : Nat) (hAl : A.length = i * 2) (hXl : X.length = 2) (hDl : D.length = (len - 1 - i) * 2) (hi : i < len) (hD1 : ∀ v ∈ D, oneCellV v = true) (v : Value) (base : Nat) (w : World)
    (hO : Own w base 47 2 v len (A ++ (X ++ D))) (hbase : base ≤ w.heap.size) (hsz : len ≤ 4000000000) :
    CallK Tryz.prog 266 [v, .int .i64 i, .int .i64 (i + 1 : Nat)].toArray w fun v' w' => Own w' base 47 2 v' (len - 1) (A ++ D) ∧ Below base w w' ∧ OnlyBy v w w' := by
  obtain ⟨a, c, rfl⟩ := own_slice hO
  have hcl := hO.cap_le
  obtain ⟨_, ⟨h0, h0'⟩ | ⟨g, cap, cur, h0, hbg, hg, hnc, hcm, hcs, hct⟩⟩ := hO
  · omega
  cases h0
  obtain ⟨rest, hrest⟩ : ∃ rest, cur.toList = A ++ (X ++ (D ++ rest)) := ⟨cur.toList.drop (len * 2), by
    have := List.take_append_drop (len * 2) cur.toList
    rw [hct, List.append_assoc, List.append_assoc] at this
    exact this.symm⟩
  have hG : Blk w g 47 (A ++ (X ++ (D ++ rest))) := ⟨by rw [← hrest]; simpa using hg⟩
  have hrl : rest.length = (c - len) * 2 := by
    have := congrArg List.length hrest
    simp only [List.length_append, Array.length_toList, hcs] at this
    omega
  refine enterT Tryz.func266 rfl Tryz.ntmps266 Tryz.results266 rfl (by decide) ?_
  simp only [↓VD, VP, VT, isAggD, reduceCtorEq, Int.reduceEq, Int.reduceNe, Int.reduceLT, Int.reduceLE, implies_true, Nat.reduceEqDiff, reduceIte, ite_true, ite_false, eq_self, Nat.reduceLT, Nat.reduceLeDiff, Nat.reduceAdd, Nat.reduceMul, Nat.reduceSub, intOf]
  refine ⟨by omega, by omega, by omega, by omega, fun a' ha' => ⟨fun h => absurd h (by omega), fun _ => ?_⟩⟩
  refine drawH (fun _ => True) [0, 1, 2, 3, 4, 5, 6, 7] mixed (by decide +kernel) (fun w1 hE1 hh => ⟨trivial, ?_⟩)
  simp only [↓VD, VP, VT, isAggD, reduceCtorEq, Int.reduceEq, Int.reduceNe, Int.reduceLT, Int.reduceLE, implies_true, Nat.reduceEqDiff, reduceIte, ite_true, ite_false, eq_self, Nat.reduceLT, Nat.reduceLeDiff, Nat.reduceAdd, Nat.reduceMul, Nat.reduceSub, intOf]
  refine ⟨by omega, by omega, fun a1 ha1 => ⟨by omega, by omega, by omega, fun a2 ha2 => ?_⟩⟩
  obtain ⟨o1, rfl, ho1⟩ := ha1 g 0 rfl
  obtain rfl : o1 = 0 := by have := ho1 (by omega); simpa using this
  obtain ⟨o2, rfl, ho2⟩ := ha2 g 0 rfl
  have hG1 := hG.ext hE1
  have hD2 : SlC w1 (.slice (some ⟨g, o2, none⟩) (len - 1 - i) (c - (i + 1))) (len - 1 - i) D := by
    refine ⟨_, _, rfl, by omega, by rw [maxLen_eq] at hcm; omega, Or.inr ⟨g, o2, rfl, fun j u hj => ?_⟩⟩
    have hjl := (List.getElem?_eq_some_iff.1 hj).1
    have e2 : o2 = (i + 1) * 2 := by have := ho2 (by omega); simpa using this
    rw [hG1.cell, ← List.append_assoc, List.getElem?_append_right (by rw [List.length_append]; omega), List.length_append, List.getElem?_append_left (by omega), ← hj]
    congr 1
    omega
  have hO1 : Own w1 base 47 2 (.slice (some ⟨g, 0, none⟩) i c) i A := own_mk hG1 hbg hAl (by simp only [List.length_append]; omega) (by omega) (by rw [maxLen_eq] at hcm; omega)
  rw [show ((i : Int) - 0).toNat = i from by omega, show ((c : Int) - 0).toNat = c from by omega, show ((len : Int) - ((i + 1 : Nat) : Int)).toNat = len - 1 - i from by omega, show ((c : Int) - ((i + 1 : Nat) : Int)).toNat = c - (i + 1) from by omega]
  refine apSp (sz := 2) (n := i) (m := len - 1 - i) Tryz.underlying24 z47 c47 rfl (by decide) hO1 (by have := hE1.size; omega) hD2 hDl hD1 (by omega) (fun w2 hO2 hg2 => ?_)
  refine told (fun _ => True) trivial trivial ?_
  have hln : i + (len - 1 - i) = len - 1 := by omega
  rw [hln] at hO2
  rw [hln]
  have hE2 := below_of_grown hO1 (by have := hE1.size; omega) hg2
  obtain ⟨_, ⟨h0, h0'⟩ | ⟨g', cap', cur', h0, hbg', hg', hnc', hcm', hcs', hct'⟩⟩ := hO2
  · cases h0
  cases h0
  obtain ⟨rest', hrest'⟩ : ∃ rest', cur'.toList = (A ++ D) ++ rest' := ⟨cur'.toList.drop ((len - 1) * 2), by
    have := List.take_append_drop ((len - 1) * 2) cur'.toList
    rw [hct'] at this
    exact this.symm⟩
  have hrl' : rest'.length = (c - (len - 1)) * 2 := by
    have := congrArg List.length hrest'
    simp only [List.length_append, Array.length_toList, hcs'] at this
    omega
  obtain ⟨r1, r2, rfl, hr1⟩ : ∃ r1 r2, rest' = r1 ++ r2 ∧ r1.length = 2 := ⟨rest'.take 2, rest'.drop 2, (List.take_append_drop _ _).symm, by rw [List.length_take]; omega⟩
  have hG2 : Blk w2 g 47 ((A ++ D) ++ (r1 ++ r2)) := ⟨by rw [← hrest']; simpa using hg'⟩
  rw [List.length_append] at hrl'
  simp only [↓VD, VP, VT, isAggD, reduceCtorEq, Int.reduceEq, Int.reduceNe, Int.reduceLT, Int.reduceLE, implies_true, Nat.reduceEqDiff, reduceIte, ite_true, ite_false, eq_self, Nat.reduceLT, Nat.reduceLeDiff, Nat.reduceAdd, Nat.reduceMul, Nat.reduceSub, intOf]
  refine ⟨by omega, by omega, by omega, fun a5 ha5 => ?_⟩
  obtain ⟨o5, rfl, ho5⟩ := ha5 g 0 rfl
  obtain rfl : o5 = (len - 1) * 2 := by have := ho5 (by omega); simpa using this
  rw [show ((len : Int) - ((len - 1 : Nat) : Int)).toNat = 1 from by omega]
  refine clS (sz := 2) (T := 47) Tryz.underlying24 z47 rfl (by decide) (by decide +kernel) hG2 (by decide +kernel) (by simp only [List.length_append]; omega) (fun w3 hP3 => ?_)
  generalize hze : (Builtin.zeroCells _ 1).toList = zs at hP3
  have hzl : zs.length = 2 := by rw [← hze]; decide +kernel
  rw [splice_at (by rw [List.length_append]; omega) (by rw [hr1, hzl])] at hP3
  simp only [↓VD, VP, VT, isAggD, reduceCtorEq, Int.reduceEq, Int.reduceNe, Int.reduceLT, Int.reduceLE, implies_true, Nat.reduceEqDiff, reduceIte, ite_true, ite_false, eq_self, Nat.reduceLT, Nat.reduceLeDiff, Nat.reduceAdd, Nat.reduceMul, Nat.reduceSub, intOf]
  have hne : ∀ k : Nat, (Value.slice (some ⟨g, 0, none⟩) len c).ownBlock ≠ some k → k ≠ g := fun k hk e => hk (by simp [Value.ownBlock, e])
  refine ⟨own_mk (sz := 2) (n := len - 1) (cap := c) hP3.blk hbg (by rw [List.length_append]; omega) (by rw [List.length_append]; omega) (by omega) (by rw [maxLen_eq] at hcm; omega), (hE1.mono hbase).trans (hE2.trans (hP3.below (by omega))), fun k T l hk hBk => ?_⟩
  have h1 := hBk.ext hE1
  exact hP3.keep ⟨by rw [hg2.block k h1.lt (fun h => hne k hk (by simpa using h))]; exact h1.out⟩ (hne k hk)
theorem DelN_ok (A X D : List Value) (i len : Nat) (hAl : A.length = i * 1) (hXl : X.length = 1) (hDl : D.length = (len - 1 - i) * 1) (hi : i < len) (hD1 : ∀ v ∈ D, oneCellV v = true) (v : Value) (base : Nat) (w : World)
    (hO : Own w base 209 1 v len (A ++ (X ++ D))) (hbase : base ≤ w.heap.size) (hsz : len ≤ 4000000000) :
    CallK Tryz.prog 267 [v, .int .i64 i, .int .i64 (i + 1 : Nat)].toArray w fun v' w' => Own w' base 209 1 v' (len - 1) (A ++ D) ∧ Below base w w' ∧ OnlyBy v w w' := by
  obtain ⟨a, c, rfl⟩ := own_slice hO
  have hcl := hO.cap_le
  obtain ⟨_, ⟨h0, h0'⟩ | ⟨g, cap, cur, h0, hbg, hg, hnc, hcm, hcs, hct⟩⟩ := hO
  · omega
  cases h0
  obtain ⟨rest, hrest⟩ : ∃ rest, cur.toList = A ++ (X ++ (D ++ rest)) := ⟨cur.toList.drop (len * 1), by
    have := List.take_append_drop (len * 1) cur.toList
    rw [hct, List.append_assoc, List.append_assoc] at this
    exact this.symm⟩
  have hG : Blk w g 209 (A ++ (X ++ (D ++ rest))) := ⟨by rw [← hrest]; simpa using hg⟩
  have hrl : rest.length = (c - len) * 1 := by
    have := congrArg List.length hrest
    simp only [List.length_append, Array.length_toList, hcs] at this
    omega
  refine enterT Tryz.func267 rfl Tryz.ntmps267 Tryz.results267 rfl (by decide) ?_
  simp only [↓VD, VP, VT, isAggD, reduceCtorEq, Int.reduceEq, Int.reduceNe, Int.reduceLT, Int.reduceLE, implies_true, Nat.reduceEqDiff, reduceIte, ite_true, ite_false, eq_self, Nat.reduceLT, Nat.reduceLeDiff, Nat.reduceAdd, Nat.reduceMul, Nat.reduceSub, intOf]
  refine ⟨by omega, by omega, by omega, by omega, fun a' ha' => ⟨fun h => absurd h (by omega), fun _ => ?_⟩⟩
  refine drawH (fun _ => True) [0, 1, 2, 3, 4, 5, 6, 7] mixed (by decide +kernel) (fun w1 hE1 hh => ⟨trivial, ?_⟩)
  simp only [↓VD, VP, VT, isAggD, reduceCtorEq, Int.reduceEq, Int.reduceNe, Int.reduceLT, Int.reduceLE, implies_true, Nat.reduceEqDiff, reduceIte, ite_true, ite_false, eq_self, Nat.reduceLT, Nat.reduceLeDiff, Nat.reduceAdd, Nat.reduceMul, Nat.reduceSub, intOf]
  refine ⟨by omega, by omega, fun a1 ha1 => ⟨by omega, by omega, by omega, fun a2 ha2 => ?_⟩⟩
  obtain ⟨o1, rfl, ho1⟩ := ha1 g 0 rfl
  obtain rfl : o1 = 0 := by have := ho1 (by omega); simpa using this
  obtain ⟨o2, rfl, ho2⟩ := ha2 g 0 rfl
  have hG1 := hG.ext hE1
  have hD2 : SlC w1 (.slice (some ⟨g, o2, none⟩) (len - 1 - i) (c - (i + 1))) (len - 1 - i) D := by
    refine ⟨_, _, rfl, by omega, by rw [maxLen_eq] at hcm; omega, Or.inr ⟨g, o2, rfl, fun j u hj => ?_⟩⟩
    have hjl := (List.getElem?_eq_some_iff.1 hj).1
    have e2 : o2 = (i + 1) * 1 := by have := ho2 (by omega); simpa using this
    rw [hG1.cell, ← List.append_assoc, List.getElem?_append_right (by rw [List.length_append]; omega), List.length_append, List.getElem?_append_left (by omega), ← hj]
    congr 1
    omega
  have hO1 : Own w1 base 209 1 (.slice (some ⟨g, 0, none⟩) i c) i A := own_mk hG1 hbg hAl (by simp only [List.length_append]; omega) (by omega) (by rw [maxLen_eq] at hcm; omega)
  rw [show ((i : Int) - 0).toNat = i from by omega, show ((c : Int) - 0).toNat = c from by omega, show ((len : Int) - ((i + 1 : Nat) : Int)).toNat = len - 1 - i from by omega, show ((c : Int) - ((i + 1 : Nat) : Int)).toNat = c - (i + 1) from by omega]
  refine apSp (sz := 1) (n := i) (m := len - 1 - i) Tryz.underlying223 z209 c209 rfl (by decide) hO1 (by have := hE1.size; omega) hD2 hDl hD1 (by omega) (fun w2 hO2 hg2 => ?_)
  refine told (fun _ => True) trivial trivial ?_
  have hln : i + (len - 1 - i) = len - 1 := by omega
  rw [hln] at hO2
  rw [hln]
  have hE2 := below_of_grown hO1 (by have := hE1.size; omega) hg2
  obtain ⟨_, ⟨h0, h0'⟩ | ⟨g', cap', cur', h0, hbg', hg', hnc', hcm', hcs', hct'⟩⟩ := hO2
  · cases h0
  cases h0
  obtain ⟨rest', hrest'⟩ : ∃ rest', cur'.toList = (A ++ D) ++ rest' := ⟨cur'.toList.drop ((len - 1) * 1), by
    have := List.take_append_drop ((len - 1) * 1) cur'.toList
    rw [hct'] at this
    exact this.symm⟩
  have hrl' : rest'.length = (c - (len - 1)) * 1 := by
    have := congrArg List.length hrest'
    simp only [List.length_append, Array.length_toList, hcs'] at this
    omega
  obtain ⟨r1, r2, rfl, hr1⟩ : ∃ r1 r2, rest' = r1 ++ r2 ∧ r1.length = 1 := ⟨rest'.take 1, rest'.drop 1, (List.take_append_drop _ _).symm, by rw [List.length_take]; omega⟩
  have hG2 : Blk w2 g 209 ((A ++ D) ++ (r1 ++ r2)) := ⟨by rw [← hrest']; simpa using hg'⟩
  rw [List.length_append] at hrl'
  simp only [↓VD, VP, VT, isAggD, reduceCtorEq, Int.reduceEq, Int.reduceNe, Int.reduceLT, Int.reduceLE, implies_true, Nat.reduceEqDiff, reduceIte, ite_true, ite_false, eq_self, Nat.reduceLT, Nat.reduceLeDiff, Nat.reduceAdd, Nat.reduceMul, Nat.reduceSub, intOf]
  refine ⟨by omega, by omega, by omega, fun a5 ha5 => ?_⟩
  obtain ⟨o5, rfl, ho5⟩ := ha5 g 0 rfl
  obtain rfl : o5 = (len - 1) * 1 := by have := ho5 (by omega); simpa using this
  rw [show ((len : Int) - ((len - 1 : Nat) : Int)).toNat = 1 from by omega]
  refine clS (sz := 1) (T := 209) Tryz.underlying223 z209 rfl (by decide) (by decide +kernel) hG2 (by decide +kernel) (by simp only [List.length_append]; omega) (fun w3 hP3 => ?_)
  generalize hze : (Builtin.zeroCells _ 1).toList = zs at hP3
  have hzl : zs.length = 1 := by rw [← hze]; decide +kernel
  rw [splice_at (by rw [List.length_append]; omega) (by rw [hr1, hzl])] at hP3
  simp only [↓VD, VP, VT, isAggD, reduceCtorEq, Int.reduceEq, Int.reduceNe, Int.reduceLT, Int.reduceLE, implies_true, Nat.reduceEqDiff, reduceIte, ite_true, ite_false, eq_self, Nat.reduceLT, Nat.reduceLeDiff, Nat.reduceAdd, Nat.reduceMul, Nat.reduceSub, intOf]
  have hne : ∀ k : Nat, (Value.slice (some ⟨g, 0, none⟩) len c).ownBlock ≠ some k → k ≠ g := fun k hk e => hk (by simp [Value.ownBlock, e])
  refine ⟨own_mk (sz := 1) (n := len - 1) (cap := c) hP3.blk hbg (by rw [List.length_append]; omega) (by rw [List.length_append]; omega) (by omega) (by rw [maxLen_eq] at hcm; omega), (hE1.mono hbase).trans (hE2.trans (hP3.below (by omega))), fun k T l hk hBk => ?_⟩
  have h1 := hBk.ext hE1
  exact hP3.keep ⟨by rw [hg2.block k h1.lt (fun h => hne k hk (by simpa using h))]; exact h1.out⟩ (hne k hk)
end Go.Proofs.YthlkfjoibjhaiaaGreatDoor

/-! Hmj -/
namespace Go.Proofs.YthlkfjoibjhaiaaGreatDoor
set_option maxRecDepth 100000
set_option maxHeartbeats 2000000
open Go Go.RowKit
set_option linter.unusedVariables false
set_option linter.unusedSimpArgs false
set_option maxHeartbeats 2000000
attribute [local irreducible] vcT opsT qT vcOp Q1 vcPure vcLoad vcStore ldC ldN ldD grdT grdQ vc vcOps vcQ hT
attribute [local irreducible] sumR sumP shaP keyD bucketP branchP

theorem PairsS.of_own {S : Nat → Prop} {W : World} {base n : Nat} {v : Value} {qs : List PR} (hO : Own W base 47 2 v n (qs.flatMap PR.cells)) (hS : ∀ b, base ≤ b → S b)
    (ho : ∀ q ∈ qs, SlS S W q.kv q.k.length (vbs q.k) ∧ SlS S W q.vv q.v.length (vbs q.v)) : PairsS S W v qs := by
  have hn : n = qs.length := by have h1 := hO.1; have h2 := prc_len qs; omega
  subst hn
  exact ⟨SlS.of_own hO hS, ho⟩
theorem drop_ok (n : Int) (hw : widB n = true) (S : Nat → Prop) (b : Nat) (top : Value) (k : List UInt8) (hkl : k.length ≤ 64) :
    ∀ (f d : Nat) (m : List It) (at_ kv : Value) (w : World), WordsAt w 1 → Blk w b 211 [.int .i64 n, top] → AtN n S w f d m at_ → OkI n m → Pre d m → SlB w kv k → d + f = 64 → m.length ≤ 900000000 → (∀ k, S k → k < w.heap.size) →
    CallK Tryz.prog 157 [.pointer (some ⟨b, 0, none⟩), at_, .int .i64 d, .agg (vbs (keyD n k)).toArray, kv].toArray w fun v w' => ∃ nv, v = .tuple [nv, .bool (getI m k).isSome].toArray ∧ AtN n (fun k => S k ∨ w.heap.size ≤ k) w' f d (delI m k) nv ∧ Ext w w' := by
  have hwn := (widB_iff n).1 hw
  obtain ⟨nn, rfl⟩ : ∃ nn : Nat, n = nn := ⟨n.toNat, by omega⟩
  have hxl : (keyD nn k).length = 32 := keyD_len _ _
  intro f
  induction f using Nat.strongRecOn with
  | ind f ih =>
    intro d m at_ kv w hW hB hA hO hP hk hdf hml hSl
    have hbl := hB.lt
    have hOM := hO.del k
    have hPM := hP.del k
    have hMl := del_len m k
    obtain ⟨ka, kc, rfl⟩ := slv_of hk
    have hmiss : getI m k = none → ∀ W, Ext w W → AtN nn (fun k => S k ∨ w.heap.size ≤ k) W f d (delI m k) at_ := fun h W e => by
      rw [del_of_none h]
      exact (hA.ext e).mono (fun k h => Or.inl h)
    rcases hA.cases with ⟨rfl, rfl⟩ | ⟨hne, hs, b4, pv, ps, rfl, hb⟩ | ⟨hs, f', hf', b4, kv4, vs, rfl, hb, hkids⟩
    · refine enterT Tryz.func157 rfl Tryz.ntmps157 Tryz.results157 rfl (by decide) ?_
      repeat (first | exact trivial | refine stpg ?_)
      first | refine newS ?_ | refine newZ ?_
      intro w1 hE1 hz1 hB1
      repeat (first | exact trivial | refine stpg ?_)
      exact ⟨.nilIface, rfl, ⟨fun _ => rfl, fun h => absurd rfl h⟩, .go⟩
    · have hB4 := hb.blk
      have hdl := headD_len (n := nn) hne hO.len
      have hhl : (vbs (headD m)).length = 32 := by rw [vbs_len]; exact hdl
      have hpl : ps.length = m.length := by have := congrArg List.length hb.dat; simpa using this
      have hps := pairs_sorted hb.dat (sorted_keys hO.sorted (singleB_iff.1 hs))
      have hpa := hb.prs.at
      obtain ⟨pa, cp, rfl⟩ := slv_of hpa.1
      obtain ⟨i, ok, hF⟩ := find_ex k hps
      refine enterT Tryz.func157 rfl Tryz.ntmps157 Tryz.results157 rfl (by decide) ?_
      repeat (first | exact trivial | refine stpg ?_)
      first | refine newS ?_ | refine newZ ?_
      intro w1 hE1 hz1 hB1
      repeat (first | exact trivial | refine stpg ?_)
      refine ldCg (hv := by rw [List.getElem?_append_right (by omega), hhl]; rfl) ?_
      repeat (first | exact trivial | refine stpg ?_)
      refine (find_ok ps k _ _ w1 (hpa.ext .go) (hk.ext .go) hps (by omega)).mono ?_
      rintro _ w2 ⟨i, ok, rfl, hF, hE2⟩
      have hz2 := hE2.size
      obtain rfl | rfl : ok = true ∨ ok = false := by cases ok <;> simp
      · obtain ⟨hdd, hil, hgn⟩ := del_bucket hb.dat hps hF
        have hgs : (getI m k).isSome = true := by cases h : getI m k with | none => exact absurd h hgn | some _ => rfl
        have hsM : singleB (delI m k) = true := singleB_iff.2 fun y hy z hz => singleB_iff.1 hs y (mem_del.1 hy).1 z (mem_del.1 hz).1
        have hpM : ps.length = (delI m k).length + 1 := by
          have := congrArg List.length hdd
          simp only [List.length_map, List.length_append, List.length_take, List.length_drop] at this
          omega
        rw [hgs]
        repeat (first | exact trivial | refine stpg ?_)
        refine ldCg (hv := by rw [List.getElem?_append_right (by omega), hhl]; rfl) ?_
        repeat (first | exact trivial | refine stpg ?_)
        refine ⟨fun h1 => ?_, fun h1 => ?_⟩
        · have hM0 : delI m k = [] := List.length_eq_zero_iff.1 (by omega)
          repeat (first | exact trivial | refine stpg ?_)
          exact ⟨.nilIface, rfl, ⟨fun _ => rfl, fun h => absurd hM0 h⟩, .go⟩
        · have hMne : delI m k ≠ [] := fun h => by rw [h, List.length_nil] at hpM; omega
          have hhd : headD (delI m k) = headD m := by
            obtain ⟨y, hy⟩ := List.exists_mem_of_ne_nil _ hMne
            rw [headD_mem hsM hy, headD_mem hs (mem_del.1 hy).1]
          refine drawX (.of [0, 1, 2, 3, 4, 5, 6, 7, 8, 10, 11, 12, 9, 13, 14, 15, 16, 17]) mixed (by decide +kernel) (fun w3 hE3 hz3 => ?_)
          repeat (first | exact trivial | refine stpg ?_)
          refine ldSg (v := .agg (vbs (headD m)).toArray) ?_ (by intro w' hw'; refine stp ?_; exact ldNg (m := vbs (headD m)) rfl (hm := by rw [List.drop_zero, List.take_append_of_le_length (by omega), vbs_tk hdl]))
          repeat (first | exact trivial | refine stpg ?_)
          refine ldSg (v := .slice pa ps.length cp) ?_ (by intro w' hw'; refine stp ?_; exact ldCg rfl (hv := by rw [List.getElem?_append_right (by omega), hhl]; rfl))
          repeat (first | exact trivial | refine stpg ?_)
          refine (ClnP_ok _ ps.length _ w3 (hpa.1.ext .go) (prc_len ps) hpa.one (by omega)).mono ?_
          rintro v4 w4 ⟨hO4, hE4⟩
          have hz4 := hE4.size
          obtain ⟨a4, c4, rfl⟩ := own_slice hO4
          refine toldK ?_
          rw [show IntKind.i64.wrap ((i : Int) + 1) = ((i + 1 : Nat) : Int) from by rw [w64 (by omega) (by omega)]; omega]
          obtain ⟨q, hq, hqk⟩ := hF.hit.1 rfl
          obtain ⟨_, hie⟩ := List.getElem?_eq_some_iff.1 hq
          have hsp1 : ps.flatMap PR.cells = (ps.take i).flatMap PR.cells ++ (q.cells ++ (ps.drop (i + 1)).flatMap PR.cells) := by
            have h1 : ps = ps.take i ++ (q :: ps.drop (i + 1)) := by rw [← hie]; simp
            have h2 := congrArg (List.flatMap PR.cells) h1
            rwa [List.flatMap_append, List.flatMap_cons] at h2
          have hone := hpa.one
          rw [hsp1] at hO4 hone
          repeat (first | exact trivial | refine stpg ?_)
          refine (DelP_ok _ q.cells _ i ps.length (by rw [prc_len, List.length_take]; omega) rfl (by rw [prc_len, List.length_drop]; omega) hil (fun v hv => hone v (List.mem_append.2 (Or.inr (List.mem_append.2 (Or.inr hv))))) _ w3.heap.size w4 hO4 (by omega) (by omega)).mono ?_
          rintro v5 w5 ⟨hO5, hE5, _⟩
          have hz5 := hE5.size
          rw [← List.flatMap_append] at hO5
          have hK5 : KeepS S w w5 := KeepS.of_ext Ext.go
          have hps5 : PairsS (fun k => S k ∨ w.heap.size ≤ k) w5 v5 (ps.take i ++ ps.drop (i + 1)) := PairsS.of_own hO5 (fun k h => Or.inr (by omega)) (fun q hq => by
            have hq' : q ∈ ps := (List.mem_append.1 hq).elim List.mem_of_mem_take List.mem_of_mem_drop
            exact ⟨((hb.prs.2 q hq').1.keep hK5).mono (fun k h => Or.inl h), ((hb.prs.2 q hq').2.keep hK5).mono (fun k h => Or.inl h)⟩)
          refine toldK ?_
          obtain ⟨a5, c5, rfl⟩ := own_slice hO5
          repeat (first | exact trivial | refine stpg ?_)
          refine (pour_ok nn b top (headD m) hdl _ _ w5 (hW.ext .go) .go hps5.at (hOM.bucket_le hdd (by omega))).mono ?_
          rintro _ w6 ⟨g6, rfl, hg6, hB6, hE6⟩
          have hz6 := hE6.size
          refine toldK ?_
          repeat (first | exact trivial | refine stpg ?_)
          exact ⟨_, rfl, ⟨fun h => absurd h hMne, fun _ => NodeAt.mk_bk hsM (Or.inr (by omega)) hB6 hhd (hps5.keep (KeepS.of_ext hE6)) hdd⟩, .go⟩
      · have hgn := miss_bucket hb.dat hps hF
        repeat (first | exact trivial | refine stpg ?_)
        refine ⟨bkV b4, ?_, hmiss hgn _ .go, .go⟩
        rw [hgn]
        rfl
    · have hB4 := hb.blk
      have hb4l := hB4.lt
      have hbm := bmI_lt m d
      have hdn := br_depth hs hP (hO.form hw)
      have hfx : formB nn (keyD nn k) = true := by unfold keyD; exact form_sumR nn _ hw
      have hat := atP_dig (by omega) (by omega) hxl hfx hdn
      have hd16 := digP_lt (keyD nn k) d
      have hkv := hb.kids
      obtain ⟨qa, qc, rfl⟩ := slv_of hkv.sl
      have hvl := hb.len
      have hc16 := cnt_le (bmI m d)
      have hgc : getI (childI m d (digP (keyD nn k) d)) k = getI m k := getI_child hO.dig rfl
      refine enterT Tryz.func157 rfl Tryz.ntmps157 Tryz.results157 rfl (by decide) ?_
      repeat (first | exact trivial | refine stpg ?_)
      first | refine newS ?_ | refine newZ ?_
      intro w1 hE1 hz1 hB1
      repeat (first | exact trivial | refine stpg ?_)
      refine (digit_hamt_ok nn b top (keyD nn k) hxl d w1 .go).mono ?_
      rintro _ w2 ⟨rfl, hE2⟩
      have hz2 := hE2.size
      rw [hat]
      repeat (first | exact trivial | refine stpg ?_)
      refine (Has_ok (bmI m d) hbm (digP (keyD nn k) d) w2).mono ?_
      rintro _ w3 ⟨rfl, hE3⟩
      have hz3 := hE3.size
      rw [bmI_has, decide_eq_true hd16, Bool.true_and]
      cases hh : hasI m d (digP (keyD nn k) d)
      · have hgn : getI m k = none := by
          rw [← hgc]
          have e : childI m d (digP (keyD nn k) d) = [] := by unfold hasI at hh; simpa using hh
          rw [e]
          rfl
        repeat (first | exact trivial | refine stpg ?_)
        refine ⟨brV b4, ?_, hmiss hgn _ .go, .go⟩
        rw [hgn]
        rfl
      · obtain ⟨y, hy, hNy⟩ := hkids _ hh
        have hrl := (List.getElem?_eq_some_iff.1 hy).1
        repeat (first | exact trivial | refine stpg ?_)
        refine (Rank_ok (bmI m d) hbm (digP (keyD nn k) d) w3).mono ?_
        rintro _ w4 ⟨rfl, hE4⟩
        have hz4 := hE4.size
        obtain ⟨b5, o5, rfl, hR5⟩ := vs_get hkv (by omega)
        repeat (first | exact trivial | refine stp ?_ | refine ldCg ?_ | refine ldNg ?_ | refine ldSg ?_ | refine ldSb ?_ | refine bnd ?_ | refine bnd1 ?_)
        refine drawX (.of [0, 1, 2, 3, 4, 5, 6, 7, 8, 9, 10, 11, 12, 13, 14, 15, 16, 17]) mixed (by decide +kernel) (fun w5 hE5 hz5 => ?_)
        repeat (first | exact trivial | refine stpg ?_)
        refine ldSg (v := y) ?_ (by intro w' hw'; refine stp ?_; exact ldRowF (f := fun v : Value => [v]) 0 hy rfl)
        repeat (first | exact trivial | refine stpg ?_)
        rw [show IntKind.i64.wrap ((d : Int) + 1) = ((d + 1 : Nat) : Int) from by rw [w64 (by omega) (by omega)]; omega]
        have hK5 : KeepS S w w5 := KeepS.of_ext Ext.go
        have hcl : (childI m d (digP (keyD nn k) d)).length ≤ m.length := List.length_filter_le _ _
        refine (ih f' (by omega) (d + 1) (childI m d (digP (keyD nn k) d)) y _ w5 (hW.ext .go) .go ⟨fun h => absurd h (child_ne hh), fun _ => hNy.keep hK5⟩ (hO.child _ _) (hP.child _) (hk.ext .go) (by omega) (by omega) (fun k h => by have := hSl k h; omega)).mono ?_
        rintro _ w6 ⟨nv, rfl, hA6, hE6⟩
        have hz6 := hE6.size
        rw [hgc]
        refine toldX ?_
        cases hgs : (getI m k).isSome
        · have hgn : getI m k = none := by cases h : getI m k with | none => rfl | some _ => rw [h] at hgs; cases hgs
          repeat (first | exact trivial | refine stpg ?_)
          exact ⟨brV b4, rfl, hmiss hgn _ .go, .go⟩
        · repeat (first | exact trivial | refine stp ?_ | refine ldCg ?_ | refine ldNg ?_ | refine ldSg ?_ | refine ldSb ?_ | refine bnd ?_ | refine bnd1 ?_)
          refine drawX (.of [0, 1, 2, 3, 5, 6, 7, 8, 4, 9, 10]) mixed (by decide +kernel) (fun w7 hE7 hz7 => ?_)
          repeat (first | exact trivial | refine stpg ?_)
          refine (ClnN_ok vs vs.length _ w7 (hkv.sl.ext .go) (by omega) hb.one (by omega)).mono ?_
          rintro v8 w8 ⟨hO8, hE8⟩
          have hz8 := hE8.size
          obtain ⟨a8, c8, rfl⟩ := own_slice hO8
          refine toldX ?_
          repeat (first | exact trivial | refine stq ?_ | refine ldCg ?_ | refine ldNg ?_ | refine ldSg ?_ | refine ldSb ?_ | refine bnd ?_ | refine bnd1 ?_)
          rw [v_seq]
          refine joinX (κ := Option Addr × Nat × List Value) (fun x => [(0, .pointer (some ⟨b, 0, none⟩)), (20, .slice x.1 x.2.2.length x.2.1), (21, .int .u16 (bmI (delI m k) d : Nat))])
            (fun x W => Ext w W ∧ w8.heap.size ≤ W.heap.size ∧ x.2.2.length = cntB (bmI (delI m k) d) ∧ (∀ u ∈ x.2.2, oneCellV u = true) ∧ Own W w7.heap.size 209 1 (.slice x.1 x.2.2.length x.2.1) x.2.2.length x.2.2 ∧
              ∀ c, hasI (delI m k) d c = true → ∃ y, x.2.2[rankB (bmI (delI m k) d) (c : Int)]? = some y ∧ NodeAt nn (fun k => S k ∨ w.heap.size ≤ k) W f' (d + 1) (childI (delI m k) d c) y) ?_ ?_
          · by_cases hM : delI (childI m d (digP (keyD nn k) d)) k = []
            · obtain rfl := hA6.1 hM
              have hvs : vs = vs.take (rankB (bmI m d) (digP (keyD nn k) d : Int)) ++ ([y] ++ vs.drop (rankB (bmI m d) (digP (keyD nn k) d : Int) + 1)) := by rw [← (List.getElem?_eq_some_iff.1 hy).2]; simp
              have hO8' : Own w8 w7.heap.size 209 1 (.slice a8 vs.length c8) vs.length (vs.take (rankB (bmI m d) (digP (keyD nn k) d : Int)) ++ ([y] ++ vs.drop (rankB (bmI m d) (digP (keyD nn k) d : Int) + 1))) := by rw [← hvs]; exact hO8
              repeat (first | exact trivial | refine stpg ?_)
              rw [show IntKind.i64.wrap ((rankB (bmI m d) (digP (keyD nn k) d : Int) : Int) + 1) = ((rankB (bmI m d) (digP (keyD nn k) d : Int) + 1 : Nat) : Int) from by rw [w64 (by omega) (by omega)]; omega]
              refine (DelN_ok _ [y] _ (rankB (bmI m d) (digP (keyD nn k) d : Int)) vs.length (by rw [List.length_take]; omega) rfl (by rw [List.length_drop]; omega) hrl (fun u hu => hb.one u (List.mem_of_mem_drop hu)) _ w7.heap.size w8 hO8' (by omega) (by omega)).mono ?_
              rintro v9 w9 ⟨hO9, hE9, _⟩
              have hz9 := hE9.size
              obtain ⟨a9, c9, rfl⟩ := own_slice hO9
              repeat (first | exact trivial | refine stpg ?_)
              refine (Without_ok (bmI m d) hbm (digP (keyD nn k) d) w9).mono ?_
              rintro _ w10 ⟨rfl, hE10⟩
              have hz10 := hE10.size
              rw [bm_del_drop hO hM]
              have hK10 : KeepS S w w10 := KeepS.of_ext Ext.go
              obtain ⟨hcn, hkk⟩ := kids_drop (P := fun l y => NodeAt nn (fun k => S k ∨ w.heap.size ≤ k) w10 f' (d + 1) l y) hO hh hM hvl (fun c hc => by obtain ⟨y, h1, h2⟩ := hkids c hc; exact ⟨y, h1, (h2.keep hK10).mono (fun k h => Or.inl h)⟩)
              have hvs1 : (vs.take (rankB (bmI m d) (digP (keyD nn k) d : Int)) ++ vs.drop (rankB (bmI m d) (digP (keyD nn k) d : Int) + 1)).length = vs.length - 1 := by rw [List.length_append, List.length_take, List.length_drop]; omega
              have h1v : ∀ u ∈ vs.take (rankB (bmI m d) (digP (keyD nn k) d : Int)) ++ vs.drop (rankB (bmI m d) (digP (keyD nn k) d : Int) + 1), oneCellV u = true := fun u hu => (List.mem_append.1 hu).elim (fun h => hb.one u (List.mem_of_mem_take h)) (fun h => hb.one u (List.mem_of_mem_drop h))
              generalize vs.take (rankB (bmI m d) (digP (keyD nn k) d : Int)) ++ vs.drop (rankB (bmI m d) (digP (keyD nn k) d : Int) + 1) = us at *
              rw [← hvs1] at hO9 ⊢
              repeat (first | exact trivial | refine stpg ?_)
              exact ⟨(a9, c9, us), ⟨.go, by omega, by simp only; omega, h1v, hO9.ext .go, hkk⟩, rfl⟩
            · have hN6 := hA6.2 hM
              obtain ⟨t6, u6, rfl⟩ := hN6.iface
              obtain ⟨g, cap, rest, hge, hg, hBg, hnc, hcm, hln⟩ := hO8.open (by omega)
              obtain ⟨rfl, rfl⟩ : a8 = some ⟨g, 0, none⟩ ∧ c8 = cap := by cases hge; exact ⟨rfl, rfl⟩
              have hsp : vs ++ rest = vs.take (rankB (bmI m d) (digP (keyD nn k) d : Int)) ++ (y :: (vs.drop (rankB (bmI m d) (digP (keyD nn k) d : Int) + 1) ++ rest)) := by
                have h1 := (List.getElem?_eq_some_iff.1 hy).2
                have h2 : vs = vs.take (rankB (bmI m d) (digP (keyD nn k) d : Int)) ++ (y :: vs.drop (rankB (bmI m d) (digP (keyD nn k) d : Int) + 1)) := by rw [← h1]; simp
                rw [← List.cons_append, ← List.append_assoc, ← h2]
              rw [hsp] at hBg
              repeat (first | exact trivial | refine stpg ?_)
              refine stAt c209 hBg (by rw [List.length_take]; omega) rfl rfl (fun w9 hP9 => ?_)
              have hz9 := hP9.size
              have hB9 := hP9.blk
              have hse : vs.take (rankB (bmI m d) (digP (keyD nn k) d : Int)) ++ (.iface t6 u6 :: (vs.drop (rankB (bmI m d) (digP (keyD nn k) d : Int) + 1) ++ rest)) = vs.set (rankB (bmI m d) (digP (keyD nn k) d : Int)) (.iface t6 u6) ++ rest := by
                rw [List.set_eq_take_append_cons_drop, if_pos hrl, List.append_assoc]
                rfl
              rw [hse] at hB9
              have hK9 : KeepS S w w9 := KeepS.of_ext Ext.go
              have hK89 : KeepS (SLt (fun k => S k ∨ w5.heap.size ≤ k) w6) w8 w9 := KeepS.put hP9 (fun h => by have := h.2; omega)
              have hN9 : NodeAt nn (fun k => S k ∨ w.heap.size ≤ k) w9 f' (d + 1) (delI (childI m d (digP (keyD nn k) d)) k) (.iface t6 u6) := ((hN6.inlt.keep (KeepS.of_ext (hE7.trans' hE8))).keep hK89).mono (fun k h => h.1.imp id (fun h => by omega))
              have hkk := kids_keep (P := fun l y => NodeAt nn (fun k => S k ∨ w.heap.size ≤ k) w9 f' (d + 1) l y) hO hh hM (fun c hc => by obtain ⟨y, h1, h2⟩ := hkids c hc; exact ⟨y, h1, (h2.keep hK9).mono (fun k h => Or.inl h)⟩) hN9
              have h1v : ∀ u ∈ vs.set (rankB (bmI m d) (digP (keyD nn k) d : Int)) (.iface t6 u6), oneCellV u = true := by
                intro u hu
                rcases List.mem_or_eq_of_mem_set hu with hu | rfl
                · exact hb.one u hu
                · rfl
              have hul : (vs.set (rankB (bmI m d) (digP (keyD nn k) d : Int)) (.iface t6 u6)).length = vs.length := List.length_set
              have hO9 : Own w9 w7.heap.size 209 1 (.slice (some ⟨g, 0, none⟩) vs.length c8) vs.length (vs.set (rankB (bmI m d) (digP (keyD nn k) d : Int)) (.iface t6 u6)) := own_mk hB9 hg (by omega) (by rw [List.length_append] at hln; omega) hnc hcm
              generalize vs.set (rankB (bmI m d) (digP (keyD nn k) d : Int)) (.iface t6 u6) = us at *
              rw [← hul] at hO9 ⊢
              have hbk := bm_del_keep hO hM
              repeat (first | exact trivial | refine stpg ?_)
              exact ⟨(some ⟨g, 0, none⟩, c8, us), ⟨.go, by omega, by simp only; rw [hbk]; omega, h1v, hO9, hkk⟩, rfl, by rw [hbk]⟩
          · rintro ⟨a9, c9, us⟩ s9 w9 ⟨hE9, hz9, hul, h1v, hO9, hkk⟩
            simp only at hul h1v hO9 hkk
            have hMne : delI m k ≠ [] := by
              obtain ⟨y, hy, z, hz, hne⟩ := not_single hs
              intro h0
              have hall : ∀ x ∈ m, x.D = keyD nn k := fun x hx => by
                by_cases hxk : x.k = k
                · rw [hO.dig x hx, hxk]
                · have := mem_del.2 ⟨hx, hxk⟩
                  rw [h0] at this
                  cases this
              exact hne (by rw [hall y hy, hall z hz])
            have hc1 : 0 < cntB (bmI (delI m k) d) := by
              obtain ⟨y, hy⟩ := List.exists_mem_of_ne_nil _ hMne
              have := rank_lt (hasB_of (has_iff.2 ⟨y, hy, rfl⟩ : hasI (delI m k) d (digP y.D d) = true))
              omega
            obtain ⟨g9, cap9, rest9, hge9, hg9, hB9, hnc9, hcm9, hln9⟩ := hO9.open (by omega)
            obtain ⟨rfl, rfl⟩ : a9 = some ⟨g9, 0, none⟩ ∧ c9 = cap9 := by cases hge9; exact ⟨rfl, rfl⟩
            repeat (first | exact trivial | refine stpg ?_)
            refine ⟨fun h1 => ?_, fun h1 => ?_⟩
            · obtain ⟨c1, hc1, hr1, hce⟩ := one_child (m := delI m k) (d := d) (by omega)
              obtain ⟨y1, hy1, hN1⟩ := hkk c1 hc1
              rw [hr1] at hy1
              rw [hce] at hN1
              refine ⟨by omega, ?_⟩
              refine ldCg (v := y1) ?_ (hv := by rw [List.getElem?_append_left (by omega)]; exact hy1)
              cases hsM : singleB (delI m k)
              · obtain ⟨f'', rfl⟩ : ∃ j, f' = j + 1 := by
                  cases f' with
                  | zero => unfold NodeAt at hN1; rw [hsM] at hN1; cases hN1.1
                  | succ j => exact ⟨j, rfl⟩
                obtain ⟨b10, kv10, vs10, rfl, _⟩ := (NodeAt.br hsM).1 hN1
                repeat (first | exact trivial | refine stpg ?_)
                refine (fork_ok nn hw _ (f'' + 1) d b top _ us (delI m k) w9 (hW.ext .go) .go (SlC.of_own hO9) h1v hul hkk hOM.sorted hPM (by omega) (by omega)).mono ?_
                rintro _ w10 ⟨g10, rfl, hg10, hB10, hE10⟩
                repeat (first | exact trivial | refine stpg ?_)
                refine ⟨brV g10, rfl, ⟨fun h => absurd h hMne, fun _ => ?_⟩, .go⟩
                rw [hf']
                exact NodeAt.mk_br hsM (Or.inr (by omega)) hB10 (SlS.of_own (hO9.ext hE10) (fun k h => Or.inr (by omega))) h1v hul (fun c hc => by obtain ⟨y, h1, h2⟩ := hkk c hc; exact ⟨y, h1, h2.ext hE10⟩)
              · obtain ⟨b10, pv10, ps10, rfl, hb10⟩ := (NodeAt.bk hsM).1 hN1
                repeat (first | exact trivial | refine stpg ?_)
                exact ⟨bkV b10, rfl, ⟨fun h => absurd h hMne, fun _ => (NodeAt.bk hsM).2 ⟨b10, pv10, ps10, rfl, hb10⟩⟩, .go⟩
            · have hsM := two_not_single (m := delI m k) (d := d) (by omega)
              refine (fork_ok nn hw _ f' d b top _ us (delI m k) w9 (hW.ext .go) .go (SlC.of_own hO9) h1v hul hkk hOM.sorted hPM (by omega) (by omega)).mono ?_
              rintro _ w10 ⟨g10, rfl, hg10, hB10, hE10⟩
              repeat (first | exact trivial | refine stpg ?_)
              refine ⟨brV g10, rfl, ⟨fun h => absurd h hMne, fun _ => ?_⟩, .go⟩
              rw [hf']
              exact NodeAt.mk_br hsM (Or.inr (by omega)) hB10 (SlS.of_own (hO9.ext hE10) (fun k h => Or.inr (by omega))) h1v hul (fun c hc => by obtain ⟨y, h1, h2⟩ := hkk c hc; exact ⟨y, h1, h2.ext hE10⟩)
theorem Delete_hamt_ok (n : Int) (hw : widB n = true) (S : Nat → Prop) (mv kv : Value) (m : List It) (key : List UInt8) (w : World) (hW : WordsAt w 1) (h : MapAt n S w mv m) (hO : OkI n m) (hk : SlB w kv key) (hml : m.length ≤ 900000000) :
    CallK Tryz.prog 64 [mv, kv].toArray w fun r w' => (∃ rv, r = .tuple [rv, .bool (decide (key.length ≤ 64) && (getI m key).isSome), .int .i64 (if 64 < key.length then 2 else 0 : Nat)].toArray ∧
      (64 < key.length → rv = .pointer none) ∧ (¬ 64 < key.length → MapAt n (fun k => S k ∨ w.heap.size ≤ k) w' rv (delI m key))) ∧ Ext w w' := by
  have hM0 := h.inlt
  obtain ⟨b, top, rfl, hS, hB, hT1, hT2⟩ := h
  obtain ⟨b', top', hb', hS', hB', hT1', hT2'⟩ := hM0
  have hwn := (widB_iff n).1 hw
  obtain ⟨nn, rfl⟩ : ∃ nn : Nat, n = nn := ⟨n.toNat, by omega⟩
  obtain ⟨ka, kc, rfl⟩ := slv_of hk
  cases hb'
  obtain rfl : top' = top := by
    have h1 := hB.out
    rw [hB'.out] at h1
    simpa using h1
  refine enterT Tryz.func64 rfl Tryz.ntmps64 Tryz.results64 rfl (by decide) ?_
  repeat (first | exact trivial | refine stpg ?_)
  refine (check_hamt_ok nn b _ key _ w hW hB hk hw).mono ?_
  rintro _ w1 ⟨D, hDl, rfl, hD, hE1⟩
  have hz1 := hE1.size
  have hbl := hB.lt
  by_cases h64 : 64 < key.length
  · rw [if_pos h64, decide_eq_false (by omega), Bool.false_and]
    repeat (first | exact trivial | refine stpg ?_)
    first | refine newS ?_ | refine newZ ?_
    intro w2 hE2 hz2 hB2
    repeat (first | exact trivial | refine stpg ?_)
    exact ⟨⟨_, rfl, fun _ => rfl, fun h => absurd h64 h⟩, .go⟩
  obtain rfl := hD (by omega)
  rw [if_neg h64, decide_eq_true (by omega), Bool.true_and]
  repeat (first | exact trivial | refine stpg ?_)
  first | refine newS ?_ | refine newZ ?_
  intro w2 hE2 hz2 hB2
  repeat (first | exact trivial | refine stp ?_ | refine ldCg ?_ | refine ldNg ?_ | refine ldSg ?_ | refine ldSb ?_ | refine bnd ?_ | refine bnd1 ?_)
  refine drawX (.of [0, 1, 2, 3, 4, 5, 6, 7, 8, 9, 10, 11, 12]) mixed (by decide +kernel) (fun w3 hE3 hz3 => ?_)
  repeat (first | exact trivial | refine stpg ?_)
  refine (drop_ok nn hw (SLt S w) b _ key (by omega) 64 0 m _ _ w3 (hW.ext .go) (hB.ext .go) (AtN.ext ⟨hT1', hT2'⟩ .go) hO hO.pre (hk.ext .go) rfl hml (fun k h => by have := h.2; omega)).mono ?_
  rintro _ w4 ⟨nv, rfl, hA4, hE4⟩
  have hz4 := hE4.size
  refine toldX ?_
  have hfin : ∀ {W : World} {g : Nat}, w4.heap.size ≤ g → Ext w4 W → Blk W g 211 [.int .i64 nn, nv] → MapAt nn (fun k => S k ∨ w.heap.size ≤ k) W (.pointer (some ⟨g, 0, none⟩)) (delI m key) := by
    intro W g hg e hBg
    have hA := (hA4.ext e).mono (S' := fun k => S k ∨ w.heap.size ≤ k) (fun k h => h.elim (fun h => Or.inl h.1) (fun h => Or.inr (by omega)))
    exact ⟨g, nv, rfl, Or.inr (by omega), hBg, hA.1, hA.2⟩
  rcases hA4.cases with ⟨_, rfl⟩ | ⟨_, _, b5, _, _, rfl, _⟩ | ⟨_, _, _, b5, _, _, rfl, _⟩
  · repeat (first | exact trivial | refine stpg ?_)
    refine bldC [.int .i64 nn, .nilIface] (by kernel_rfl) ?_
    repeat (first | exact trivial | refine stpg ?_)
    first | refine newS ?_ | refine newZ ?_
    intro w5 hE5 hz5 hB5
    repeat (first | exact trivial | refine stpg ?_)
    exact ⟨⟨_, rfl, fun h => absurd h h64, fun _ => hfin (Nat.le_refl _) hE5 hB5⟩, .go⟩
  · repeat (first | exact trivial | refine stpg ?_)
    refine bldC [.int .i64 nn, bkV b5] (by kernel_rfl) ?_
    repeat (first | exact trivial | refine stpg ?_)
    first | refine newS ?_ | refine newZ ?_
    intro w5 hE5 hz5 hB5
    repeat (first | exact trivial | refine stpg ?_)
    exact ⟨⟨_, rfl, fun h => absurd h h64, fun _ => hfin (Nat.le_refl _) hE5 hB5⟩, .go⟩
  · repeat (first | exact trivial | refine stpg ?_)
    refine bldC [.int .i64 nn, brV b5] (by kernel_rfl) ?_
    repeat (first | exact trivial | refine stpg ?_)
    first | refine newS ?_ | refine newZ ?_
    intro w5 hE5 hz5 hB5
    repeat (first | exact trivial | refine stpg ?_)
    exact ⟨⟨_, rfl, fun h => absurd h h64, fun _ => hfin (Nat.le_refl _) hE5 hB5⟩, .go⟩
end Go.Proofs.YthlkfjoibjhaiaaGreatDoor

/-! Hmi -/
namespace Go.Proofs.YthlkfjoibjhaiaaGreatDoor
set_option maxRecDepth 100000
set_option maxHeartbeats 2000000
open Go Go.RowKit
set_option linter.unusedVariables false
set_option linter.unusedSimpArgs false
set_option maxHeartbeats 1000000
attribute [local irreducible] vcT opsT qT vcOp Q1 vcPure vcLoad vcStore ldC ldN ldD grdT grdQ vc vcOps vcQ hT
attribute [local irreducible] sumR sumP shaP keyD bucketP branchP

/-- What a walk of all pairs has gathered: the list lies in lb, the walk itself in wb. -/
structure AccAt (W : World) (lb wb B : Nat) (qs : List PR) : Prop where
  row : ∃ a c, Blk W lb 24 [.slice a qs.length c] ∧ Own W B 47 2 (.slice a qs.length c) qs.length (qs.flatMap PR.cells)
  run : RunB W W.heap.size B (qs.flatMap prB)
  fn : Blk W wb 226 [.func (.func 138) #[] #[.pointer (some ⟨lb, 0, none⟩), .pointer (some ⟨wb, 0, none⟩)]]
  lo : lb < B ∧ wb < B ∧ lb ≠ wb ∧ B ≤ W.heap.size
end Go.Proofs.YthlkfjoibjhaiaaGreatDoor

/-! Top -/
namespace Go.Proofs.YthlkfjoibjhaiaaGreatDoor
set_option maxRecDepth 100000
set_option maxHeartbeats 2000000
open Go Go.RowKit
set_option linter.unusedVariables false
set_option linter.unusedSimpArgs false
set_option maxHeartbeats 2000000
attribute [local irreducible] vcT opsT qT vcOp Q1 vcPure vcLoad vcStore ldC ldN ldD grdT grdQ vc vcOps vcQ hT
attribute [local irreducible] sumR sumP shaP keyD bucketP branchP

theorem tSame_ok (xs ys : List UInt8) (u v : Value) (w : World) (hu : SlB w u xs) (hv : SlB w v ys) :
    CallK Tryz.prog 53 [u, v].toArray w fun r w' => r = .bool (decide (xs = ys)) ∧ Ext w w' := by
  obtain ⟨ua, uc, rfl⟩ := slv_of hu
  obtain ⟨va, vc, rfl⟩ := slv_of hv
  refine enterT Tryz.func53 rfl Tryz.ntmps53 Tryz.results53 rfl (by decide) ?_
  repeat (first | exact trivial | refine stpg ?_)
  refine convS hu ?_
  repeat (first | exact trivial | refine stpg ?_)
  refine convS hv ?_
  repeat (first | exact trivial | refine stpg ?_)
  refine ⟨_, _, rfl, rfl, ?_⟩
  repeat (first | exact trivial | refine stpg ?_)
  exact ⟨by rw [ByteArray.toList_mk, ByteArray.toList_mk], Ext.rfl' _⟩
theorem tShort_ok (xs : List UInt8) (n : Nat) (hn : n ≤ 100000) (v : Value) (w : World) (hv : SlB w v xs) :
    CallK Tryz.prog 50 [v, .int .i64 n].toArray w fun r w' => (∃ a c, r = .slice a (xs.take n).length c) ∧ (∀ W, SlB W v xs → SlB W r (xs.take n)) ∧ Ext w w' := by
  obtain ⟨va, vc, rfl⟩ := slv_of hv
  refine enterT Tryz.func50 rfl Tryz.ntmps50 Tryz.results50 rfl (by decide) ?_
  repeat (first | exact trivial | refine stpg ?_)
  have hv' := hv
  obtain ⟨_, _, he, hnc, hcm, _⟩ := hv'
  cases he
  refine ⟨fun h => ?_, fun h => ?_⟩
  · repeat (first | exact trivial | refine stpg ?_)
    refine fun a' ha0 ha' => ?_
    rw [show ((n : Int) - 0).toNat = n from by omega, show ((vc : Int) - 0).toNat = vc from by omega]
    have hn' : (xs.take n).length = n := by rw [List.length_take]; omega
    have hvt : vbs (xs.take n) = (vbs xs).take n := by unfold vbs; rw [List.map_take]
    refine ⟨⟨a', vc, by rw [hn']⟩, fun W hW => ?_, Ext.rfl' _⟩
    obtain ⟨_, _, he, _, _, hc⟩ := hW
    cases he
    show SlC W _ (xs.take n).length (vbs (xs.take n))
    rw [hn', hvt]
    refine ⟨_, _, rfl, by omega, hcm, ?_⟩
    rcases hc with hc | ⟨b, o, rfl, hc⟩
    · left; rw [hc]; simp
    · obtain ⟨o', rfl, ho'⟩ := ha' b o rfl
      have e : o' = o := by have := ho' (by omega); simpa using this
      subst e
      right
      refine ⟨b, o', rfl, fun j u hj => ?_⟩
      rw [List.getElem?_take] at hj
      split at hj
      · exact hc j u hj
      · cases hj
  · repeat (first | exact trivial | refine stpg ?_)
    have hxt : xs.take n = xs := List.take_of_length_le (by omega)
    exact ⟨⟨va, vc, by rw [hxt]⟩, fun W hW => by rw [hxt]; exact hW, Ext.rfl' _⟩
/-- A book in memory: its row is its own, its keys and values are older. -/
structure BookAt (w0 W : World) (bb base : Nat) (B : List PR) (rv : Value) : Prop where
  row : ∃ a c, rv = .slice a B.length c ∧ Blk W bb 93 [rv] ∧ Own W base 47 2 rv B.length (B.flatMap PR.cells)
  mem : ∀ p ∈ B, SlB w0 p.kv p.k ∧ SlB w0 p.vv p.v
theorem BookAt.ext {w0 W W' : World} {bb base : Nat} {B : List PR} {rv : Value} (h : BookAt w0 W bb base B rv) (e : Ext W W') : BookAt w0 W' bb base B rv := by
  obtain ⟨⟨a, c, h0, h1, h2⟩, h3⟩ := h
  exact ⟨⟨a, c, h0, h1.ext e, h2.ext e⟩, h3⟩
/-- Not the book's blocks. -/
def offB (bb : Nat) (rv : Value) : Nat → Prop := fun b => b ≠ bb ∧ rv.ownBlock ≠ some b
theorem bget_first {B : List PR} {k : List UInt8} {i : Nat} {p : PR} (hx : B[i]? = some p) (hk : p.k = k) (hno : ∀ q ∈ B.take i, q.k ≠ k) : bget B k = some p.v := by
  unfold bget
  obtain ⟨hl, he⟩ := List.getElem?_eq_some_iff.1 hx
  have e : B = B.take i ++ p :: B.drop (i + 1) := by rw [← he, List.getElem_cons_drop, List.take_append_drop]
  rw [e, List.find?_append, List.find?_eq_none.2, List.find?_cons_of_pos (by simpa using hk)]
  · rfl
  · intro q hq
    simpa using hno q hq
theorem get_ok (w0 W : World) (bb base : Nat) (B : List PR) (rv : Value) (k : List UInt8) (kv : Value) (hE : Ext w0 W) (hB : BookAt w0 W bb base B rv) (hk : SlB W kv k) (hbl : B.length ≤ 4000000000) :
    CallK Tryz.prog 52 [.pointer (some ⟨bb, 0, none⟩), kv].toArray W fun r W' => (∃ v, r = .tuple [v, .bool (bget B k).isSome].toArray ∧ SlB W' v ((bget B k).getD [])) ∧ Ext W W' := by
  obtain ⟨ka, kc, rfl⟩ := slv_of hk
  obtain ⟨⟨a, c, rfl, hBk, hO⟩, hm⟩ := hB
  have hS : SlC W (.slice a B.length c) B.length (B.flatMap PR.cells) := SlC.of_own hO
  refine enterT Tryz.func52 rfl Tryz.ntmps52 Tryz.results52 rfl (by decide) ?_
  repeat (first | exact trivial | refine stpg ?_)
  refine loopX (ι := Nat) (fun i => [(0, .pointer (some ⟨bb, 0, none⟩)), (1, .slice ka k.length kc), (6, .int .i64 i)]) (fun i w => Ext W w ∧ i ≤ B.length ∧ ∀ p ∈ B.take i, p.k ≠ k) (fun i => B.length - i) 0 ⟨.go, Nat.zero_le _, by simp⟩ ?_ ?_
  · repeat (first | exact trivial | refine stpg ?_)
  · rintro i s1 w1 ⟨hE1, hi, hno⟩
    have hz1 := hE1.size
    repeat (first | exact trivial | refine stpg ?_)
    refine ⟨fun hlt => ?_, fun hge => ?_⟩
    · obtain ⟨rb, ro, rfl, hR⟩ := pr_row hS (by omega)
      obtain ⟨p, hx⟩ : ∃ x, B[i]? = some x := ⟨_, List.getElem?_eq_getElem (by omega)⟩
      obtain ⟨hpk, hpv⟩ := hm p (List.mem_of_getElem? hx)
      obtain ⟨a1, c1, e1⟩ := slv_of hpk
      obtain ⟨a2, c2, e2⟩ := slv_of hpv
      rw [e1] at hpk
      rw [e2] at hpv
      have htk : B.take (i + 1) = B.take i ++ [p] := by
        obtain ⟨h1, h2⟩ := List.getElem?_eq_some_iff.1 hx
        rw [List.take_succ_eq_append_getElem h1, h2]
      repeat (first | exact trivial | refine stpg ?_)
      refine ldRowF (f := PR.cells) 0 hx ?_
      rw [e1]
      repeat (first | exact trivial | refine stpg ?_)
      refine (tSame_ok p.k k _ _ w1 (hpk.ext .go) (hk.ext .go)).mono ?_
      rintro _ w2 ⟨rfl, hE2⟩
      have hz2 := hE2.size
      by_cases he : p.k = k
      · rw [decide_eq_true he]
        repeat (first | exact trivial | refine stpg ?_)
        refine ldRowF (f := PR.cells) 1 hx ?_
        rw [e2]
        repeat (first | exact trivial | refine stpg ?_)
        rw [bget_first hx he hno]
        exact ⟨⟨_, rfl, hpv.ext .go⟩, .go⟩
      · rw [decide_eq_false he]
        repeat (first | exact trivial | refine stpg ?_)
        exact ⟨i + 1, ⟨.go, by omega, fun q hq => by rw [htk] at hq; rcases List.mem_append.1 hq with h | h; exact hno q h; rw [List.mem_singleton.1 h]; exact he⟩, by rw [w64 (by omega) (by omega)]; rfl, by omega⟩
    · obtain rfl : i = B.length := by omega
      rw [List.take_length] at hno
      rw [bget_none.2 hno]
      repeat (first | exact trivial | refine stpg ?_)
      exact ⟨⟨_, rfl, ⟨none, 0, rfl, Nat.le_refl _, by omega, Or.inl rfl⟩⟩, .go⟩
theorem set_ok (w0 W : World) (bb base : Nat) (B : List PR) (rv : Value) (k v : List UInt8) (kv vv : Value) (hE : Ext w0 W) (hb0 : w0.heap.size ≤ bb ∧ w0.heap.size ≤ base ∧ base ≤ W.heap.size) (hB : BookAt w0 W bb base B rv) (hk : SlB w0 kv k) (hv : SlB w0 vv v) (hs : k.length ≤ 64 ∧ v.length ≤ 256) (hbl : B.length ≤ 900000000) :
    CallK Tryz.prog 141 [.pointer (some ⟨bb, 0, none⟩), kv, vv].toArray W fun r W' => (∃ B' rv', BookAt w0 W' bb base B' rv' ∧ (rv'.ownBlock = rv.ownBlock ∨ rv'.ownBlock = some W'.heap.size ∨ ∃ g, rv'.ownBlock = some g ∧ W.heap.size ≤ g) ∧ KeepS (offB bb rv) W W' ∧ B'.length ≤ B.length + 1 ∧ ∀ (n : Int) (m : List It), RelB n m B → RelB n (putI m ⟨keyD n k, k, v⟩) B') ∧ Ext w0 W' ∧ W.heap.size ≤ W'.heap.size := by
  obtain ⟨ka, kc, rfl⟩ := slv_of hk
  obtain ⟨va, vc, rfl⟩ := slv_of hv
  obtain ⟨⟨a, c, rfl, hBk, hO⟩, hm⟩ := hB
  have hS : SlC W (.slice a B.length c) B.length (B.flatMap PR.cells) := SlC.of_own hO
  have hzz := hE.size
  refine enterT Tryz.func141 rfl Tryz.ntmps141 Tryz.results141 rfl (by decide) ?_
  repeat (first | exact trivial | refine stpg ?_)
  refine loopX (ι := Nat) (fun i => [(0, .pointer (some ⟨bb, 0, none⟩)), (1, .slice ka k.length kc), (2, .slice va v.length vc), (6, .int .i64 i)]) (fun i w => Ext W w ∧ i ≤ B.length ∧ ∀ p ∈ B.take i, p.k ≠ k) (fun i => B.length - i) 0 ⟨.go, Nat.zero_le _, by simp⟩ ?_ ?_
  · repeat (first | exact trivial | refine stpg ?_)
  · rintro i s1 w1 ⟨hE1, hi, hno⟩
    have hz1 := hE1.size
    repeat (first | exact trivial | refine stpg ?_)
    refine ⟨fun hlt => ?_, fun hge => ?_⟩
    · obtain ⟨g, cap, rest, hge', hg, hBg, hnc, hcm, hln⟩ := hO.open (by omega)
      obtain ⟨rfl, rfl⟩ : a = some ⟨g, 0, none⟩ ∧ c = cap := by cases hge'; exact ⟨rfl, rfl⟩
      obtain ⟨rb, ro, hab, hR⟩ := pr_row hS (by omega)
      obtain ⟨rfl, rfl⟩ : rb = g ∧ ro = 0 := by cases hab; exact ⟨rfl, rfl⟩
      obtain ⟨p, hx⟩ : ∃ x, B[i]? = some x := ⟨_, List.getElem?_eq_getElem (by omega)⟩
      obtain ⟨hpk, hpv⟩ := hm p (List.mem_of_getElem? hx)
      obtain ⟨a1, c1, e1⟩ := slv_of hpk
      have hpk' := hpk
      rw [e1] at hpk'
      have hspl : B = B.take i ++ p :: B.drop (i + 1) := by rw [← (List.getElem?_eq_some_iff.1 hx).2, List.getElem_cons_drop, List.take_append_drop]
      have htk : B.take (i + 1) = B.take i ++ [p] := by
        obtain ⟨h1, h2⟩ := List.getElem?_eq_some_iff.1 hx
        rw [List.take_succ_eq_append_getElem h1, h2]
      repeat (first | exact trivial | refine stpg ?_)
      refine ldRowF (f := PR.cells) 0 hx ?_
      rw [e1]
      repeat (first | exact trivial | refine stpg ?_)
      refine (tSame_ok p.k k _ _ w1 (hpk'.ext .go) (hk.ext .go)).mono ?_
      rintro _ w2 ⟨rfl, hE2⟩
      have hz2 := hE2.size
      by_cases he : p.k = k
      · subst he
        rw [decide_eq_true rfl]
        have hpl : ((B.take i).flatMap PR.cells ++ [p.kv]).length = i * 2 + 1 := by rw [List.length_append, prc_len, List.length_take, List.length_singleton]; omega
        have hsp : B.flatMap PR.cells ++ rest = ((B.take i).flatMap PR.cells ++ [p.kv]) ++ (p.vv :: ((B.drop (i + 1)).flatMap PR.cells ++ rest)) := by
          conv => lhs; rw [hspl]
          simp [PR.cells]
        have hBg2 : Blk w2 rb 47 (((B.take i).flatMap PR.cells ++ [p.kv]) ++ (p.vv :: ((B.drop (i + 1)).flatMap PR.cells ++ rest))) := by rw [← hsp]; exact hBg.ext .go
        repeat (first | exact trivial | refine stpg ?_)
        refine stAt c22 hBg2 hpl rfl rfl (fun w3 hP3 => ?_)
        have hz3 := hP3.size
        have hB3 := hP3.blk
        have hse : ((B.take i).flatMap PR.cells ++ [p.kv]) ++ (.slice va v.length vc :: ((B.drop (i + 1)).flatMap PR.cells ++ rest)) = (B.set i ⟨p.kv, .slice va v.length vc, p.k, v⟩).flatMap PR.cells ++ rest := by
          rw [List.set_eq_take_append_cons_drop, if_pos (by omega)]
          simp [PR.cells]
        rw [hse] at hB3
        have hne : bb ≠ rb := fun e => by
          subst e
          have h1 := hBk.out
          rw [hBg.out] at h1
          simp at h1
        have hBk3 : Blk w3 bb 93 _ := hP3.keep (hBk.ext (Ext.trans' hE1 hE2)) hne
        have hrl : rest.length = (c - B.length) * 2 := by rw [List.length_append, prc_len] at hln; omega
        repeat (first | exact trivial | refine stpg ?_)
        refine ⟨⟨B.set i ⟨p.kv, .slice va v.length vc, p.k, v⟩, .slice (some ⟨rb, 0, none⟩) B.length c, ⟨⟨some ⟨rb, 0, none⟩, c, by rw [List.length_set], ?_, ?_⟩, fun q hq => ?_⟩, Or.inl rfl, fun x hx hlt => ?_, by rw [List.length_set]; omega, fun n m hR => ?_⟩, ?_⟩
        · exact hBk3
        · rw [List.length_set]; exact own_mk hB3 hg (by rw [prc_len, List.length_set]) hrl hnc hcm
        · rcases (mem_set_iff (by omega)).1 hq with rfl | ⟨j, _, hj⟩
          · exact ⟨hpk, hv⟩
          · exact hm q (List.mem_of_getElem? hj)
        · rw [hP3.other x (fun e => hx.2 (by simp [Value.ownBlock, e]))]
          exact KeepS.of_ext (Ext.trans' hE1 hE2) x hx hlt
        · exact hR.set (q := ⟨p.kv, .slice va v.length vc, p.k, v⟩) hx rfl hs
        · exact ⟨.go, by omega⟩
      · rw [decide_eq_false he]
        repeat (first | exact trivial | refine stpg ?_)
        exact ⟨i + 1, ⟨.go, by omega, fun q hq => by rw [htk] at hq; rcases List.mem_append.1 hq with h | h; exact hno q h; rw [List.mem_singleton.1 h]; exact he⟩, by rw [w64 (by omega) (by omega)]; rfl, by omega⟩
    · obtain rfl : i = B.length := by omega
      rw [List.take_length] at hno
      repeat (first | exact trivial | refine stpg ?_)
      refine bldC [.slice ka k.length kc, .slice va v.length vc] (by kernel_rfl) ?_
      repeat (first | exact trivial | refine stpg ?_)
      refine ⟨rfl, rfl, ?_⟩
      first | refine newS ?_ | refine newZ ?_
      intro w2 hE2 hz2 hB2
      have hO2 := hO.ext (Ext.trans' hE1 hE2)
      have hBk2 := hBk.ext (Ext.trans' hE1 hE2)
      refine apSo (sz := 2) (n := B.length) (m := 1) Tryz.underlying24 z47 c47 rfl (by decide) hO2 (by omega) (SlC.of_blk hB2 (by decide)) rfl (by intro u hu; rcases List.mem_cons.1 hu with rfl | hu; rfl; rcases List.mem_cons.1 hu with rfl | hu; rfl; cases hu) (by omega) (by rw [by47]; omega) (fun v3 w3 hO3 hg3 ho3 => ?_)
      have hE3 := below_of_grown hO2 (by omega) hg3
      have e3 : B.flatMap PR.cells ++ [.slice ka k.length kc, .slice va v.length vc] = (B ++ [(⟨.slice ka k.length kc, .slice va v.length vc, k, v⟩ : PR)]).flatMap PR.cells := by simp [PR.cells]
      rw [e3, show B.length + 1 = (B ++ [(⟨.slice ka k.length kc, .slice va v.length vc, k, v⟩ : PR)]).length from by simp] at hO3
      obtain ⟨a3, c3, rfl⟩ := own_slice hO3
      have hz3 := hE3.size
      have hBk3 : Blk w3 bb 93 [.slice a B.length c] := ⟨by rw [hg3.block _ hBk2.lt (fun e => hO2.not_blk hBk2 (by decide) e.symm)]; exact hBk2.out⟩
      repeat (first | exact trivial | refine stpg ?_)
      refine stC ?_
      intro w4 hP4 hz4 hB4
      repeat (first | exact trivial | refine stpg ?_)
      refine ⟨⟨B ++ [⟨.slice ka k.length kc, .slice va v.length vc, k, v⟩], _, ⟨⟨a3, c3, rfl, hB4, hO3.put hBk3 (by decide) hP4⟩, fun q hq => ?_⟩, ?_, fun x hx hlt => ?_, by rw [List.length_append, List.length_singleton]; omega, fun n m hR => hR.add (q := ⟨.slice ka k.length kc, .slice va v.length vc, k, v⟩) hno hs⟩, ?_⟩
      · rcases List.mem_append.1 hq with h | h
        · exact hm q h
        · rw [List.mem_singleton.1 h]; exact ⟨hk, hv⟩
      · rcases ho3 with h | h
        · exact Or.inl h
        · exact Or.inr (Or.inr ⟨_, h, by omega⟩)
      · rw [hP4.other x hx.1, hg3.block x (by omega) (fun e => hx.2 e.symm)]
        exact KeepS.of_ext (Ext.trans' hE1 hE2) x hx hlt
      · exact ⟨.go, by omega⟩
end Go.Proofs.YthlkfjoibjhaiaaGreatDoor

/-! Topb -/
namespace Go.Proofs.YthlkfjoibjhaiaaGreatDoor
set_option maxRecDepth 100000
set_option maxHeartbeats 2000000
open Go Go.RowKit
set_option linter.unusedVariables false
set_option linter.unusedSimpArgs false
set_option maxHeartbeats 2000000
attribute [local irreducible] vcT opsT qT vcOp Q1 vcPure vcLoad vcStore ldC ldN ldD grdT grdQ vc vcOps vcQ hT
attribute [local irreducible] sumR sumP shaP keyD bucketP branchP

theorem unset_ok (w0 W : World) (bb base : Nat) (B : List PR) (rv : Value) (k : List UInt8) (kv : Value) (hE : Ext w0 W) (hb0 : w0.heap.size ≤ bb ∧ w0.heap.size ≤ base ∧ base ≤ W.heap.size) (hB : BookAt w0 W bb base B rv) (hk : SlB w0 kv k) (hbl : B.length ≤ 900000000) :
    CallK Tryz.prog 142 [.pointer (some ⟨bb, 0, none⟩), kv].toArray W fun r W' => (r = .bool (bget B k).isSome ∧ ∃ B' rv', BookAt w0 W' bb base B' rv' ∧ rv'.ownBlock = rv.ownBlock ∧ KeepS (offB bb rv) W W' ∧ B'.length ≤ B.length ∧ ∀ (n : Int) (m : List It), RelB n m B → RelB n (delI m k) B') ∧ Ext w0 W' ∧ W.heap.size ≤ W'.heap.size := by
  obtain ⟨ka, kc, rfl⟩ := slv_of hk
  obtain ⟨⟨a, c, rfl, hBk, hO⟩, hm⟩ := hB
  have hS : SlC W (.slice a B.length c) B.length (B.flatMap PR.cells) := SlC.of_own hO
  have hzz := hE.size
  refine enterT Tryz.func142 rfl Tryz.ntmps142 Tryz.results142 rfl (by decide) ?_
  repeat (first | exact trivial | refine stpg ?_)
  refine loopX (ι := Nat) (fun i => [(0, .pointer (some ⟨bb, 0, none⟩)), (1, .slice ka k.length kc), (5, .int .i64 i)]) (fun i w => Ext W w ∧ i ≤ B.length ∧ ∀ p ∈ B.take i, p.k ≠ k) (fun i => B.length - i) 0 ⟨.go, Nat.zero_le _, by simp⟩ ?_ ?_
  · repeat (first | exact trivial | refine stpg ?_)
  · rintro i s1 w1 ⟨hE1, hi, hno⟩
    have hz1 := hE1.size
    repeat (first | exact trivial | refine stpg ?_)
    refine ⟨fun hlt => ?_, fun hge => ?_⟩
    · obtain ⟨g, cap, rest, hge', hg, hBg, hnc, hcm, hln⟩ := hO.open (by omega)
      obtain ⟨rfl, rfl⟩ : a = some ⟨g, 0, none⟩ ∧ c = cap := by cases hge'; exact ⟨rfl, rfl⟩
      obtain ⟨rb, ro, hab, hR⟩ := pr_row hS (by omega)
      obtain ⟨rfl, rfl⟩ : rb = g ∧ ro = 0 := by cases hab; exact ⟨rfl, rfl⟩
      obtain ⟨p, hx⟩ : ∃ x, B[i]? = some x := ⟨_, List.getElem?_eq_getElem (by omega)⟩
      obtain ⟨hpk, hpv⟩ := hm p (List.mem_of_getElem? hx)
      obtain ⟨a1, c1, e1⟩ := slv_of hpk
      have hpk' := hpk
      rw [e1] at hpk'
      have hspl : B = B.take i ++ p :: B.drop (i + 1) := by rw [← (List.getElem?_eq_some_iff.1 hx).2, List.getElem_cons_drop, List.take_append_drop]
      have htk : B.take (i + 1) = B.take i ++ [p] := by
        obtain ⟨h1, h2⟩ := List.getElem?_eq_some_iff.1 hx
        rw [List.take_succ_eq_append_getElem h1, h2]
      repeat (first | exact trivial | refine stpg ?_)
      refine ldRowF (f := PR.cells) 0 hx ?_
      rw [e1]
      repeat (first | exact trivial | refine stpg ?_)
      refine (tSame_ok p.k k _ _ w1 (hpk'.ext .go) (hk.ext .go)).mono ?_
      rintro _ w2 ⟨rfl, hE2⟩
      have hz2 := hE2.size
      by_cases he : p.k = k
      · subst he
        rw [decide_eq_true rfl]
        obtain ⟨l, hl⟩ : ∃ x, B[B.length - 1]? = some x := ⟨_, List.getElem?_eq_getElem (by omega)⟩
        obtain ⟨hlk, hlv⟩ := hm l (List.mem_of_getElem? hl)
        obtain ⟨la1, lc1, le1⟩ := slv_of hlk
        obtain ⟨la2, lc2, le2⟩ := slv_of hlv
        have hpl : ((B.take i).flatMap PR.cells).length = i * 2 := by rw [prc_len, List.length_take]; omega
        have hsp : B.flatMap PR.cells ++ rest = (B.take i).flatMap PR.cells ++ ([p.kv, p.vv] ++ ((B.drop (i + 1)).flatMap PR.cells ++ rest)) := by
          conv => lhs; rw [hspl]
          simp [PR.cells]
        have hne : bb ≠ rb := fun e => by
          subst e
          have h1 := hBk.out
          rw [hBg.out] at h1
          simp at h1
        have hrl : rest.length = (c - B.length) * 2 := by rw [List.length_append, prc_len] at hln; omega
        repeat (first | exact trivial | refine stp ?_ | refine ldCg ?_ | refine ldNg ?_ | refine ldSg ?_ | refine ldSb ?_ | refine bnd ?_ | refine bnd1 ?_)
        refine drawX (.of [0, 1, 2, 3, 4, 5, 6, 7, 8, 9, 10, 11, 12, 13, 14, 15, 16, 17, 18]) mixed (by decide +kernel) (fun w3 hE3 hz3 => ?_)
        repeat (first | exact trivial | refine stpg ?_)
        rw [show IntKind.i64.wrap ((B.length : Int) - 1) = ((B.length - 1 : Nat) : Int) from by rw [w64 (by omega) (by omega)]; omega, Int.toNat_natCast]
        refine ⟨by omega, by omega, ?_⟩
        refine loadS_of (.agg [l.kv, l.vv].toArray) (fun w' hw' => by refine stp ?_; exact ldPair hl rfl (hq := by omega)) ?_
        rw [le1, le2]
        repeat (first | exact trivial | refine stpg ?_)
        have hBg3 : Blk w3 rb 47 ((B.take i).flatMap PR.cells ++ ([p.kv, p.vv] ++ ((B.drop (i + 1)).flatMap PR.cells ++ rest))) := by rw [← hsp]; exact hBg.ext .go
        refine stSeg hBg3 hpl (vs := [.slice la1 l.k.length lc1, .slice la2 l.v.length lc2]) rfl (by rw [c47]; decide) (by rw [c47]; rfl) rfl (by simp [oneCellV]) (fun w4 hP4 => ?_)
        have hz4 := hP4.size
        have hB4 := hP4.blk
        have hse : (B.take i).flatMap PR.cells ++ ([.slice la1 l.k.length lc1, .slice la2 l.v.length lc2] ++ ((B.drop (i + 1)).flatMap PR.cells ++ rest)) = (unsetB B i l).flatMap PR.cells ++ (l.cells ++ rest) := by
          have hlast : (B.set i l)[B.length - 1]? = some l := by
            by_cases hil : i = B.length - 1
            · rw [hil, List.getElem?_set_self (by omega)]
            · rw [List.getElem?_set_ne hil]; exact hl
          have h1 : B.set i l = unsetB B i l ++ [l] := by
            unfold unsetB
            have h2 := List.take_append_drop (B.length - 1) (B.set i l)
            have h3 : (B.set i l).drop (B.length - 1) = [l] := by
              obtain ⟨h4, h5⟩ := List.getElem?_eq_some_iff.1 hlast
              rw [List.drop_eq_getElem_cons h4, h5, List.drop_eq_nil_of_le (by rw [List.length_set]; omega)]
            rw [h3] at h2
            exact h2.symm
          have h6 : (B.set i l).flatMap PR.cells = (B.take i).flatMap PR.cells ++ ([.slice la1 l.k.length lc1, .slice la2 l.v.length lc2] ++ (B.drop (i + 1)).flatMap PR.cells) := by
            rw [List.set_eq_take_append_cons_drop, if_pos (by omega)]
            simp [PR.cells, le1, le2]
          rw [h1, List.flatMap_append] at h6
          simp only [List.flatMap_cons, List.flatMap_nil, List.append_nil] at h6
          have h7 := congrArg (· ++ rest) h6
          simpa [List.append_assoc] using h7.symm
        rw [hse] at hB4
        have hBk4 : Blk w4 bb 93 _ := hP4.keep (hBk.ext (Ext.trans' (Ext.trans' hE1 hE2) hE3)) hne
        refine toldZ ?_
        repeat (first | exact trivial | refine stp ?_ | refine ldCg ?_ | refine ldNg ?_ | refine ldSg ?_ | refine ldSb ?_ | refine bnd ?_ | refine bnd1 ?_)
        refine drawX (.of [0, 1, 2, 3, 4, 5, 6, 7, 8, 9, 10, 11, 12, 13, 14]) mixed (by decide +kernel) (fun w5 hE5 hz5 => ?_)
        repeat (first | exact trivial | refine stpg ?_)
        rw [show IntKind.i64.wrap ((B.length : Int) - 1) = ((B.length - 1 : Nat) : Int) from by rw [w64 (by omega) (by omega)]; omega]
        refine ⟨by omega, by omega, fun a' ha' => ?_⟩
        obtain ⟨o', rfl, ho'⟩ := ha' rb 0 rfl
        obtain rfl : o' = 0 := by have := ho' (by omega); simpa using this
        have hul : (unsetB B i l).length = B.length - 1 := by unfold unsetB; rw [List.length_take, List.length_set]; omega
        rw [show (((B.length - 1 : Nat) : Int) - 0).toNat = (unsetB B i l).length from by omega, show ((c : Int) - 0).toNat = c from by omega]
        have hO5 : Own w5 base 47 2 (.slice (some ⟨rb, 0, none⟩) (unsetB B i l).length c) (unsetB B i l).length ((unsetB B i l).flatMap PR.cells) := own_mk (hB4.ext hE5) hg (by rw [prc_len]) (by rw [List.length_append, hrl, hul]; simp only [PR.cells, List.length_cons, List.length_nil]; omega) (by omega) hcm
        have hBk5 := hBk4.ext hE5
        refine stC ?_
        intro w6 hP6 hz6 hB6
        refine toldZ ?_
        repeat (first | exact trivial | refine stpg ?_)
        refine ⟨⟨by rw [bget_first hx rfl hno]; rfl, unsetB B i l, _, ⟨⟨_, c, rfl, hB6, hO5.put hBk5 (by decide) hP6⟩, fun q hq => ?_⟩, rfl, fun x hx hlt => ?_, by omega, fun n m hR => hR.del hx hl⟩, .go, by omega⟩
        · obtain ⟨j, _, hj⟩ := (mem_unset (by omega) hl).1 hq
          exact hm q (List.mem_of_getElem? hj)
        · have h1 := KeepS.of_ext (S := offB bb (.slice (some ⟨rb, 0, none⟩) B.length c)) (Ext.trans' (Ext.trans' hE1 hE2) hE3) x hx hlt
          have h2 := KeepS.of_ext (S := fun _ => True) hE5 x trivial (by omega)
          rw [hP6.other x hx.1, h2, hP4.other x (fun e => hx.2 (by simp [Value.ownBlock, e]))]
          exact h1
      · rw [decide_eq_false he]
        repeat (first | exact trivial | refine stpg ?_)
        exact ⟨i + 1, ⟨.go, by omega, fun q hq => by rw [htk] at hq; rcases List.mem_append.1 hq with h | h; exact hno q h; rw [List.mem_singleton.1 h]; exact he⟩, by rw [w64 (by omega) (by omega)]; rfl, by omega⟩
    · obtain rfl : i = B.length := by omega
      rw [List.take_length] at hno
      rw [bget_none.2 hno]
      repeat (first | exact trivial | refine stpg ?_)
      exact ⟨⟨rfl, B, _, ⟨⟨a, c, rfl, hBk.ext .go, hO.ext .go⟩, hm⟩, rfl, KeepS.of_ext .go, Nat.le_refl _, fun n m hR => by rw [hR.miss hno]; exact hR⟩, .go, by omega⟩
end Go.Proofs.YthlkfjoibjhaiaaGreatDoor

/-! Enr -/
namespace Go.Proofs.YthlkfjoibjhaiaaGreatDoor
set_option maxRecDepth 100000
set_option maxHeartbeats 2000000
open Go Go.RowKit
set_option linter.unusedVariables false
set_option linter.unusedSimpArgs false
attribute [local irreducible] vcT opsT qT vcOp Q1 vcPure vcLoad vcStore ldC ldN ldD grdT grdQ vc vcOps vcQ hT
attribute [local irreducible] sumR sumP shaP keyD bucketP branchP

/-- An entry with its slices. -/
structure EnR where
  kind : Nat
  kv : Value
  vv : Value
  k : List UInt8
  v : List UInt8
def EnR.cells (e : EnR) : List Value := [.int .u8 e.kind, e.kv, e.vv]
/-- Entries that may be read. -/
def EnsAt (w : World) (v : Value) (es : List EnR) : Prop := SlC w v es.length (es.flatMap EnR.cells) ∧ ∀ e ∈ es, e.kind < 256 ∧ SlB w e.kv e.k ∧ SlB w e.vv e.v
theorem EnsAt.ext {w w' : World} {v : Value} {es : List EnR} (h : EnsAt w v es) (e : Ext w w') : EnsAt w' v es := ⟨h.1.ext e, fun x hx => ⟨(h.2 x hx).1, (h.2 x hx).2.1.ext e, (h.2 x hx).2.2.ext e⟩⟩
abbrev En := Nat × List UInt8 × List UInt8
def EnR.dat (e : EnR) : En := (e.kind, e.k, e.v)
/-- What Check says of an entry. -/
def entE (e : En) : Nat := if 64 < e.2.1.length ∨ 256 < e.2.2.length then 2 else if (e.1 ≠ 1 ∧ e.1 ≠ 2) ∨ (e.1 = 2 ∧ 0 < e.2.2.length) then 3 else 0
/-- The bytes of an entry. -/
def entB (e : En) : List UInt8 := UInt8.ofNat e.1 :: (blobP e.2.1 ++ if e.1 = 1 then blobP e.2.2 else [])
/-- The one of two errors with the smaller number that is one. -/
def lstE (a b : Nat) : Nat := if a = 0 ∨ (b ≠ 0 ∧ b < a) then b else a
def batE0 (first n : Nat) : Nat := if n = 0 ∨ 18446744073709551616 ≤ first + n then lstE (if 64 < n then 2 else 0) 3 else if 64 < n then 2 else 0
/-- What EncodeBatch refuses with. -/
def batE (first : Nat) (es : List En) : Nat := es.foldl (fun e x => lstE e (entE x)) (batE0 first es.length)
/-- The bytes of a batch. -/
def batB (first : Nat) (es : List En) : List UInt8 := uvarP first ++ (uvarP es.length ++ es.flatMap entB)
/-- The map that entries make. -/
def mapE (n : Int) (es : List En) : List It := es.foldl (fun m e => if e.1 = 1 then putI m ⟨keyD n e.2.1, e.2.1, e.2.2⟩ else delI m e.2.1) []
/-- The digest of an entry as a leaf. -/
def leafE (n : Int) (e : En) : List UInt8 := sumR n (0 :: entB e)
end Go.Proofs.YthlkfjoibjhaiaaGreatDoor

/-! Topc -/
namespace Go.Proofs.YthlkfjoibjhaiaaGreatDoor
set_option maxRecDepth 100000
set_option maxHeartbeats 2000000
open Go Go.RowKit
set_option linter.unusedVariables false
set_option linter.unusedSimpArgs false
set_option maxHeartbeats 2000000
attribute [local irreducible] vcT opsT qT vcOp Q1 vcPure vcLoad vcStore ldC ldN ldD grdT grdQ vc vcOps vcQ hT
attribute [local irreducible] sumR sumP shaP keyD bucketP branchP

/-- An entry that may be appended, out of any. -/
def fitK (e : EnR) : Nat := if e.kind % 2 = 0 then 2 else 1
def fitV (e : EnR) : List UInt8 := if e.kind % 2 = 0 then [] else e.v.take 256
theorem fits_ok (e : EnR) (hkd : e.kind < 256) (w : World) (hk : SlB w e.kv e.k) (hv : SlB w e.vv e.v) :
    CallK Tryz.prog 140 [.agg e.cells.toArray].toArray w fun r w' => (∃ a c b d, r = .agg [.int .u8 (fitK e : Nat), .slice a (e.k.take 64).length c, .slice b (fitV e).length d].toArray ∧ (∀ W, SlB W e.kv e.k → SlB W (.slice a (e.k.take 64).length c) (e.k.take 64)) ∧ (∀ W, SlB W e.vv e.v → SlB W (.slice b (fitV e).length d) (fitV e))) ∧ Ext w w' := by
  obtain ⟨kind, kv, vv, k, v⟩ := e
  simp only at hkd hk hv
  obtain ⟨ka, kc, rfl⟩ := slv_of hk
  obtain ⟨va, vc, rfl⟩ := slv_of hv
  unfold EnR.cells
  refine enterT Tryz.func140 rfl Tryz.ntmps140 Tryz.results140 rfl (by decide) ?_
  repeat (first | exact trivial | refine stpg ?_)
  first | refine newS ?_ | refine newZ ?_
  intro w1 hE1 hz1 hB1
  first | refine newS ?_ | refine newZ ?_
  intro w2 hE2 hz2 hB2
  repeat (first | exact trivial | refine stpg ?_)
  rw [show ((kind : Int)).tmod 2 = ((kind % 2 : Nat) : Int) from tmodN _ 2]
  refine ⟨fun hev => ?_, fun hod => ?_⟩
  · have hf1 : fitK ⟨kind, .slice ka k.length kc, .slice va v.length vc, k, v⟩ = 2 := by unfold fitK; rw [if_pos (by simp only; omega)]
    have hf2 : fitV ⟨kind, .slice ka k.length kc, .slice va v.length vc, k, v⟩ = [] := by unfold fitV; rw [if_pos (by simp only; omega)]
    rw [hf1, hf2]
    repeat (first | exact trivial | refine stpg ?_)
    refine (tShort_ok k 64 (by decide) _ w2 (hk.ext .go)).mono ?_
    rintro _ w3 ⟨⟨a, c, rfl⟩, hS3, hE3⟩
    have hz3 := hE3.size
    generalize k.take 64 = k' at *
    repeat (first | exact trivial | refine stpg ?_)
    refine bldC [.int .u8 2, .slice a k'.length c, .slice none 0 0] (by kernel_rfl) ?_
    repeat (first | exact trivial | refine stpg ?_)
    refine stW ?_
    intro w4 hP4 hz4 hB4
    repeat (first | exact trivial | refine stpg ?_)
    exact ⟨⟨a, c, none, 0, rfl, hS3, fun W _ => ⟨none, 0, rfl, Nat.le_refl _, by decide, Or.inl rfl⟩⟩, .go⟩
  · have hf1 : fitK ⟨kind, .slice ka k.length kc, .slice va v.length vc, k, v⟩ = 1 := by unfold fitK; rw [if_neg (by simp only; omega)]
    have hf2 : fitV ⟨kind, .slice ka k.length kc, .slice va v.length vc, k, v⟩ = v.take 256 := by unfold fitV; rw [if_neg (by simp only; omega)]
    rw [hf1, hf2]
    refine drawX (.of [0, 1, 3, 4, 2, 5, 6, 7]) mixed (by decide +kernel) (fun w3 hE3 hz3 => ?_)
    repeat (first | exact trivial | refine stpg ?_)
    refine (tShort_ok k 64 (by decide) _ w3 (hk.ext .go)).mono ?_
    rintro _ w4 ⟨⟨a, c, rfl⟩, hS4, hE4⟩
    have hz4 := hE4.size
    generalize k.take 64 = k' at *
    refine toldX ?_
    repeat (first | exact trivial | refine stpg ?_)
    refine (tShort_ok v 256 (by decide) _ w4 (hv.ext .go)).mono ?_
    rintro _ w5 ⟨⟨b, d, rfl⟩, hS5, hE5⟩
    have hz5 := hE5.size
    generalize v.take 256 = v' at *
    refine toldX ?_
    repeat (first | exact trivial | refine stpg ?_)
    refine bldC [.int .u8 1, .slice a k'.length c, .slice b v'.length d] (by kernel_rfl) ?_
    repeat (first | exact trivial | refine stpg ?_)
    refine stW ?_
    intro w6 hP6 hz6 hB6
    refine toldZ ?_
    repeat (first | exact trivial | refine stpg ?_)
    exact ⟨⟨a, c, b, d, rfl, hS4, hS5⟩, .go⟩
/-- What entries make, one after another. -/
def entI (n : Int) (m : List It) (e : EnR) : List It := if e.kind % 2 = 0 then delI m (e.k.take 64) else putI m ⟨keyD n (e.k.take 64), e.k.take 64, fitV e⟩
def entsI (n : Int) (es : List EnR) : List It := es.foldl (entI n) []
theorem entsI_snoc (n : Int) (es : List EnR) (e : EnR) : entsI n (es ++ [e]) = entI n (entsI n es) e := by unfold entsI; rw [List.foldl_append]; rfl
theorem MapAt.off {n : Int} {W W' : World} {bb : Nat} {rv rv' : Value} {mv : Value} {m : List It} (h : MapAt n (offB bb rv) W mv m) (k : KeepS (offB bb rv) W W') (ho : rv'.ownBlock = rv.ownBlock ∨ rv'.ownBlock = some W'.heap.size ∨ ∃ g, rv'.ownBlock = some g ∧ W.heap.size ≤ g) (hz : W.heap.size ≤ W'.heap.size) : MapAt n (offB bb rv') W' mv m := by
  refine (h.inlt.keep (W' := W') (fun b hb hlt => k b hb.1 hlt)).mono fun b hb => ⟨hb.1.1, fun e => ?_⟩
  rcases ho with h1 | h1 | ⟨g, h1, h2⟩
  · exact hb.1.2 (h1 ▸ e)
  · rw [h1] at e
    cases e
    have := hb.2
    omega
  · rw [h1] at e
    cases e
    have := hb.2
    omega
theorem entI_len (n : Int) (m : List It) (e : EnR) : (entI n m e).length ≤ m.length + 1 := by
  unfold entI
  split
  · have := del_len m (e.k.take 64); omega
  · exact putI_len _ _
theorem entsI_len (n : Int) (es : List EnR) : ∀ i, (entsI n (es.take i)).length ≤ i := by
  intro i
  induction i with
  | zero => exact Nat.le_refl _
  | succ i ih =>
    by_cases h : i < es.length
    · rw [List.take_succ_eq_append_getElem h, entsI_snoc]
      have := entI_len n (entsI n (es.take i)) es[i]
      omega
    · rw [List.take_of_length_le (by omega)]
      rw [List.take_of_length_le (by omega)] at ih
      omega
theorem mapped_ok (n : Nat) (hw : widB n = true) (es : List EnR) (ev : Value) (w : World) (hW : WordsAt w 1) (he : EnsAt w ev es) (hl : es.length ≤ 800000000) :
    CallK Tryz.prog 49 [.int .i64 n, ev].toArray w fun r w' => (∃ b bb B rv, r = .tuple [.pointer (some ⟨b, 0, none⟩), .pointer (some ⟨bb, 0, none⟩)].toArray ∧ MapAt n (fun _ => True) w' (.pointer (some ⟨b, 0, none⟩)) (entsI n es) ∧ BookAt w w' bb w.heap.size B rv ∧ RelB n (entsI n es) B ∧ w.heap.size ≤ bb) ∧ Ext w w' := by
  obtain ⟨ea, ec, rfl⟩ := slv_of he.1
  refine enterT Tryz.func49 rfl Tryz.ntmps49 Tryz.results49 rfl (by decide) ?_
  repeat (first | exact trivial | refine stpg ?_)
  refine (New_hamt_ok n w).mono ?_
  rintro _ w1 ⟨_, hN1, hE1⟩
  have hz1 := hE1.size
  obtain ⟨mv, rfl, hM1⟩ := hN1 hw
  obtain ⟨b1, rfl⟩ : ∃ b, mv = .pointer (some ⟨b, 0, none⟩) := by obtain ⟨b, _, rfl, _⟩ := hM1; exact ⟨b, rfl⟩
  repeat (first | exact trivial | refine stpg ?_)
  refine bldC [.slice none 0 0] (by kernel_rfl) ?_
  repeat (first | exact trivial | refine stpg ?_)
  first | refine newS ?_ | refine newZ ?_
  intro w2 hE2 hz2 hB2
  repeat (first | exact trivial | refine stpg ?_)
  have hM2 : MapAt n (offB w1.heap.size (.slice none 0 0)) w2 (.pointer (some ⟨b1, 0, none⟩)) [] := (hM1.inlt.ext hE2).mono fun b hb => ⟨by have := hb.2; omega, by simp [Value.ownBlock]⟩
  refine loopX (ι := Nat × Nat × List PR × Value) (fun x => [(0, .int .i64 n), (1, .slice ea es.length ec), (6, .pointer (some ⟨x.2.1, 0, none⟩)), (8, .pointer (some ⟨w1.heap.size, 0, none⟩)), (9, .int .i64 x.1)])
    (fun x W => Ext w W ∧ w2.heap.size ≤ W.heap.size ∧ x.1 ≤ es.length ∧ MapAt n (offB w1.heap.size x.2.2.2) W (.pointer (some ⟨x.2.1, 0, none⟩)) (entsI n (es.take x.1)) ∧ BookAt w W w1.heap.size w.heap.size x.2.2.1 x.2.2.2 ∧ RelB n (entsI n (es.take x.1)) x.2.2.1) (fun x => es.length - x.1)
    (0, b1, [], .slice none 0 0) ⟨.go, Nat.le_refl _, Nat.zero_le _, hM2, ⟨⟨none, 0, rfl, hB2, Own.nil _ _ _ _⟩, by simp⟩, RelB.nil n⟩ ?_ ?_
  · repeat (first | exact trivial | refine stpg ?_)
  · rintro ⟨i, b3, B, rv⟩ s3 w3 ⟨hE3, hz3, hi, hM3, hB3, hR3⟩
    simp only at hi hM3 hB3 hR3
    have hz3' := hE3.size
    repeat (first | exact trivial | refine stpg ?_)
    refine ⟨fun hlt => ?_, fun hge => ?_⟩
    · obtain ⟨gb, go, rfl, hRow⟩ := he.1.row (f := EnR.cells) (sz := 3) (fun _ _ => rfl) (by decide) (by omega)
      obtain ⟨e, hx⟩ : ∃ x, es[i]? = some x := ⟨_, List.getElem?_eq_getElem (by omega)⟩
      obtain ⟨hkd, hek, hev⟩ := he.2 e (List.mem_of_getElem? hx)
      have htk : entsI n (es.take (i + 1)) = entI n (entsI n (es.take i)) e := by
        obtain ⟨h1, h2⟩ := List.getElem?_eq_some_iff.1 hx
        rw [List.take_succ_eq_append_getElem h1, h2, entsI_snoc]
      have hml := entsI_len n es i
      have hOk := hR3.ok
      have hBl : B.length ≤ i := by rw [← hR3.len]; exact hml
      have hkl64 : (e.k.take 64).length ≤ 64 := by rw [List.length_take]; omega
      have hvl256 : (fitV e).length ≤ 256 := by unfold fitV; split; exact Nat.zero_le _; rw [List.length_take]; omega
      have htop : ∀ g, rv.ownBlock = some g → g < w3.heap.size := by
        obtain ⟨⟨a0, c0, _, _, hO0⟩, _⟩ := hB3
        exact hO0.top
      repeat (first | exact trivial | refine stpg ?_)
      refine ldRow (f := EnR.cells) hx ?_
      repeat (first | exact trivial | refine stpg ?_)
      refine (fits_ok e hkd w3 (hek.ext .go) (hev.ext .go)).mono ?_
      rintro _ w4 ⟨⟨fa, fc, fb, fd, rfl, hSk, hSv⟩, hE4⟩
      have hz4 := hE4.size
      have hSk0 := hSk w hek
      have hSv0 := hSv w hev
      have hen : entI n (entsI n (es.take i)) e = if e.kind % 2 = 0 then delI (entsI n (es.take i)) (e.k.take 64) else putI (entsI n (es.take i)) ⟨keyD n (e.k.take 64), e.k.take 64, fitV e⟩ := rfl
      generalize entsI n (es.take i) = m3 at *
      generalize e.k.take 64 = k' at *
      have hfk : fitK e = if e.kind % 2 = 0 then 2 else 1 := rfl
      generalize fitV e = v' at *
      by_cases hev2 : e.kind % 2 = 0
      · rw [if_pos hev2] at hen hfk
        rw [hfk]
        repeat (first | exact trivial | refine stpg ?_)
        first | refine newS ?_ | refine newZ ?_
        intro w5 hE5 hz5 hB5
        repeat (first | exact trivial | refine stpg ?_)
        refine (Delete_hamt_ok n hw _ _ _ m3 k' w5 (hW.ext .go) (hM3.ext .go) hOk (hSk0.ext .go) (by omega)).mono ?_
        rintro _ w6 ⟨⟨rv', rfl, _, hr2⟩, hE6⟩
        have hz6 := hE6.size
        have hM6 := hr2 (by omega)
        obtain ⟨b6, rfl⟩ : ∃ b, rv' = .pointer (some ⟨b, 0, none⟩) := by obtain ⟨b, _, rfl, _⟩ := hM6; exact ⟨b, rfl⟩
        rw [if_neg (by omega), decide_eq_true (show k'.length ≤ 64 by omega), Bool.true_and]
        have hM6' : MapAt n (offB w1.heap.size rv) w6 _ _ := hM6.mono fun b hb => hb.elim id fun h => ⟨by omega, fun e => by have := htop b e; omega⟩
        repeat (first | exact trivial | refine stpg ?_)
        refine (unset_ok w w6 w1.heap.size w.heap.size B rv k' _ .go ⟨by omega, Nat.le_refl _, by omega⟩ (hB3.ext .go) hSk0 (by omega)).mono ?_
        rintro _ w7 ⟨⟨rfl, B', rv', hB7, ho7, hK7, hl7, hR7⟩, hE7, hz7⟩
        rw [hR3.all]
        repeat (first | exact trivial | refine stpg ?_)
        have hM7 := hM6'.off hK7 (Or.inl ho7) hz7
        exact ⟨(i + 1, b6, B', rv'), ⟨hE7, by omega, by simp only; omega, by simp only; rw [htk, hen]; exact hM7, hB7, by simp only; rw [htk, hen]; exact hR7 n m3 hR3⟩, ⟨rfl, by rw [w64 (by omega) (by omega)]; rfl⟩, by simp only; omega⟩
      · rw [if_neg hev2] at hen hfk
        rw [hfk]
        repeat (first | exact trivial | refine stpg ?_)
        first | refine newS ?_ | refine newZ ?_
        intro w5 hE5 hz5 hB5
        repeat (first | exact trivial | refine stpg ?_)
        refine (Put_hamt_ok n hw _ _ _ _ m3 k' v' w5 (hW.ext .go) (hM3.ext .go) hOk (hSk0.ext .go) (hSv0.ext .go) (by omega)).mono ?_
        rintro _ w6 ⟨⟨rv', rfl, _, hr2⟩, hE6⟩
        have hz6 := hE6.size
        have hM6 := hr2 (by omega)
        obtain ⟨b6, rfl⟩ : ∃ b, rv' = .pointer (some ⟨b, 0, none⟩) := by obtain ⟨b, _, rfl, _⟩ := hM6; exact ⟨b, rfl⟩
        rw [if_neg (by omega)]
        have hM6' : MapAt n (offB w1.heap.size rv) w6 _ _ := hM6.mono fun b hb => hb.elim id fun h => ⟨by omega, fun e => by have := htop b e; omega⟩
        repeat (first | exact trivial | refine stpg ?_)
        refine (set_ok w w6 w1.heap.size w.heap.size B rv k' v' _ _ .go ⟨by omega, Nat.le_refl _, by omega⟩ (hB3.ext .go) hSk0 hSv0 ⟨hkl64, hvl256⟩ (by omega)).mono ?_
        rintro _ w7 ⟨⟨B', rv', hB7, ho7, hK7, hl7, hR7⟩, hE7, hz7⟩
        have hM7 := hM6'.off hK7 ho7 hz7
        repeat (first | exact trivial | refine stpg ?_)
        exact ⟨(i + 1, b6, B', rv'), ⟨hE7, by omega, by simp only; omega, by simp only; rw [htk, hen]; exact hM7, hB7, by simp only; rw [htk, hen]; exact hR7 n m3 hR3⟩, ⟨rfl, by rw [w64 (by omega) (by omega)]; rfl⟩, by simp only; omega⟩
    · obtain rfl : i = es.length := by omega
      rw [List.take_length] at hM3 hR3
      repeat (first | exact trivial | refine stpg ?_)
      exact ⟨⟨b3, w1.heap.size, B, rv, rfl, hM3.mono (fun _ _ => trivial), hB3, hR3, hz1⟩, .go⟩
end Go.Proofs.YthlkfjoibjhaiaaGreatDoor

/-! Topd -/
namespace Go.Proofs.YthlkfjoibjhaiaaGreatDoor
set_option maxRecDepth 100000
set_option maxHeartbeats 2000000
open Go Go.RowKit
set_option linter.unusedVariables false
set_option linter.unusedSimpArgs false
set_option maxHeartbeats 2000000
attribute [local irreducible] vcT opsT qT vcOp Q1 vcPure vcLoad vcStore ldC ldN ldD grdT grdQ vc vcOps vcQ hT
attribute [local irreducible] sumR sumP shaP keyD bucketP branchP

end Go.Proofs.YthlkfjoibjhaiaaGreatDoor

/-! Tope -/
namespace Go.Proofs.YthlkfjoibjhaiaaGreatDoor
set_option maxRecDepth 100000
set_option maxHeartbeats 2000000
open Go Go.RowKit
set_option linter.unusedVariables false
set_option linter.unusedSimpArgs false
set_option maxHeartbeats 8000000
attribute [local irreducible] vcT opsT qT vcOp Q1 vcPure vcLoad vcStore ldC ldN ldD grdT grdQ vc vcOps vcQ hT
attribute [local irreducible] sumR sumP shaP keyD bucketP branchP

theorem tWidth_ok (m : Nat) (h : m < 256) (w : World) : CallK Tryz.prog 48 [.int .u8 m].toArray w fun v w' => v = .int .i64 (1 + m % 32 : Nat) ∧ Ext w w' := by
  refine enterT Tryz.func48 rfl Tryz.ntmps48 Tryz.results48 rfl (by decide) ?_
  simp only [↓VD, VP, VT, isAggD, reduceCtorEq, Int.reduceEq, Int.reduceNe, Int.reduceLT, Int.reduceLE, implies_true, Nat.reduceEqDiff, reduceIte, ite_true, ite_false, eq_self, Nat.reduceLT, Nat.reduceLeDiff, Nat.reduceAdd, Nat.reduceMul, Nat.reduceSub, intOf]
  have e1 : IntKind.i64.wrap (m : Int) = m := w64 (by omega) (by omega)
  have e2 : (m : Int).tmod 32 = ((m % 32 : Nat) : Int) := by rw [Int.tmod_eq_emod_of_nonneg (by omega)]; rfl
  rw [e1, e2, w64 (by omega) (by omega)]
  exact ⟨by omega, Ext.rfl' w⟩
end Go.Proofs.YthlkfjoibjhaiaaGreatDoor

/-! Slg -/
namespace Go.Proofs.YthlkfjoibjhaiaaGreatDoor
set_option maxRecDepth 100000
set_option maxHeartbeats 2000000
open Go Go.RowKit
set_option linter.unusedVariables false
set_option linter.unusedSimpArgs false

theorem DelD_ok (A X D : List Value) (i len : Nat) (hAl : A.length = i * 32) (hXl : X.length = 32) (hDl : D.length = (len - 1 - i) * 32) (hi : i < len) (hD1 : ∀ v ∈ D, oneCellV v = true) (v : Value) (base : Nat) (w : World)
    (hO : Own w base 28 32 v len (A ++ (X ++ D))) (hbase : base ≤ w.heap.size) (hsz : len ≤ 4000000000) :
    CallK Tryz.prog 126 [v, .int .i64 i, .int .i64 (i + 1 : Nat)].toArray w fun v' w' => v'.ownBlock = v.ownBlock ∧ Own w' base 28 32 v' (len - 1) (A ++ D) ∧ Below base w w' ∧ OnlyBy v w w' := by
  obtain ⟨a, c, rfl⟩ := own_slice hO
  have hcl := hO.cap_le
  obtain ⟨_, ⟨h0, h0'⟩ | ⟨g, cap, cur, h0, hbg, hg, hnc, hcm, hcs, hct⟩⟩ := hO
  · omega
  cases h0
  obtain ⟨rest, hrest⟩ : ∃ rest, cur.toList = A ++ (X ++ (D ++ rest)) := ⟨cur.toList.drop (len * 32), by
    have := List.take_append_drop (len * 32) cur.toList
    rw [hct, List.append_assoc, List.append_assoc] at this
    exact this.symm⟩
  have hG : Blk w g 28 (A ++ (X ++ (D ++ rest))) := ⟨by rw [← hrest]; simpa using hg⟩
  have hrl : rest.length = (c - len) * 32 := by
    have := congrArg List.length hrest
    simp only [List.length_append, Array.length_toList, hcs] at this
    omega
  refine enterT Tryz.func126 rfl Tryz.ntmps126 Tryz.results126 rfl (by decide) ?_
  simp only [↓VD, VP, VT, isAggD, reduceCtorEq, Int.reduceEq, Int.reduceNe, Int.reduceLT, Int.reduceLE, implies_true, Nat.reduceEqDiff, reduceIte, ite_true, ite_false, eq_self, Nat.reduceLT, Nat.reduceLeDiff, Nat.reduceAdd, Nat.reduceMul, Nat.reduceSub, intOf]
  refine ⟨by omega, by omega, by omega, by omega, fun a' ha' => ⟨fun h => absurd h (by omega), fun _ => ?_⟩⟩
  refine drawH (fun _ => True) [0, 1, 2, 3, 4, 5, 6, 7] mixed (by decide +kernel) (fun w1 hE1 hh => ⟨trivial, ?_⟩)
  simp only [↓VD, VP, VT, isAggD, reduceCtorEq, Int.reduceEq, Int.reduceNe, Int.reduceLT, Int.reduceLE, implies_true, Nat.reduceEqDiff, reduceIte, ite_true, ite_false, eq_self, Nat.reduceLT, Nat.reduceLeDiff, Nat.reduceAdd, Nat.reduceMul, Nat.reduceSub, intOf]
  refine ⟨by omega, by omega, fun a1 ha1 => ⟨by omega, by omega, by omega, fun a2 ha2 => ?_⟩⟩
  obtain ⟨o1, rfl, ho1⟩ := ha1 g 0 rfl
  obtain rfl : o1 = 0 := by have := ho1 (by omega); simpa using this
  obtain ⟨o2, rfl, ho2⟩ := ha2 g 0 rfl
  have hG1 := hG.ext hE1
  have hD2 : SlC w1 (.slice (some ⟨g, o2, none⟩) (len - 1 - i) (c - (i + 1))) (len - 1 - i) D := by
    refine ⟨_, _, rfl, by omega, by rw [maxLen_eq] at hcm; omega, Or.inr ⟨g, o2, rfl, fun j u hj => ?_⟩⟩
    have hjl := (List.getElem?_eq_some_iff.1 hj).1
    have e2 : o2 = (i + 1) * 32 := by have := ho2 (by omega); simpa using this
    rw [hG1.cell, ← List.append_assoc, List.getElem?_append_right (by rw [List.length_append]; omega), List.length_append, List.getElem?_append_left (by omega), ← hj]
    congr 1
    omega
  have hO1 : Own w1 base 28 32 (.slice (some ⟨g, 0, none⟩) i c) i A := own_mk hG1 hbg hAl (by simp only [List.length_append]; omega) (by omega) (by rw [maxLen_eq] at hcm; omega)
  rw [show ((i : Int) - 0).toNat = i from by omega, show ((c : Int) - 0).toNat = c from by omega, show ((len : Int) - ((i + 1 : Nat) : Int)).toNat = len - 1 - i from by omega, show ((c : Int) - ((i + 1 : Nat) : Int)).toNat = c - (i + 1) from by omega]
  refine apSp (sz := 32) (n := i) (m := len - 1 - i) Tryz.underlying49 z28 c28 rfl (by decide) hO1 (by have := hE1.size; omega) hD2 hDl hD1 (by omega) (fun w2 hO2 hg2 => ?_)
  refine told (fun _ => True) trivial trivial ?_
  have hln : i + (len - 1 - i) = len - 1 := by omega
  rw [hln] at hO2
  rw [hln]
  have hE2 := below_of_grown hO1 (by have := hE1.size; omega) hg2
  obtain ⟨_, ⟨h0, h0'⟩ | ⟨g', cap', cur', h0, hbg', hg', hnc', hcm', hcs', hct'⟩⟩ := hO2
  · cases h0
  cases h0
  obtain ⟨rest', hrest'⟩ : ∃ rest', cur'.toList = (A ++ D) ++ rest' := ⟨cur'.toList.drop ((len - 1) * 32), by
    have := List.take_append_drop ((len - 1) * 32) cur'.toList
    rw [hct'] at this
    exact this.symm⟩
  have hrl' : rest'.length = (c - (len - 1)) * 32 := by
    have := congrArg List.length hrest'
    simp only [List.length_append, Array.length_toList, hcs'] at this
    omega
  obtain ⟨r1, r2, rfl, hr1⟩ : ∃ r1 r2, rest' = r1 ++ r2 ∧ r1.length = 32 := ⟨rest'.take 32, rest'.drop 32, (List.take_append_drop _ _).symm, by rw [List.length_take]; omega⟩
  have hG2 : Blk w2 g 28 ((A ++ D) ++ (r1 ++ r2)) := ⟨by rw [← hrest']; simpa using hg'⟩
  rw [List.length_append] at hrl'
  simp only [↓VD, VP, VT, isAggD, reduceCtorEq, Int.reduceEq, Int.reduceNe, Int.reduceLT, Int.reduceLE, implies_true, Nat.reduceEqDiff, reduceIte, ite_true, ite_false, eq_self, Nat.reduceLT, Nat.reduceLeDiff, Nat.reduceAdd, Nat.reduceMul, Nat.reduceSub, intOf]
  refine ⟨by omega, by omega, by omega, fun a5 ha5 => ?_⟩
  obtain ⟨o5, rfl, ho5⟩ := ha5 g 0 rfl
  obtain rfl : o5 = (len - 1) * 32 := by have := ho5 (by omega); simpa using this
  rw [show ((len : Int) - ((len - 1 : Nat) : Int)).toNat = 1 from by omega]
  refine clS (sz := 32) (T := 28) Tryz.underlying49 z28 rfl (by decide) (by decide +kernel) hG2 (by decide +kernel) (by simp only [List.length_append]; omega) (fun w3 hP3 => ?_)
  generalize hze : (Builtin.zeroCells _ 1).toList = zs at hP3
  have hzl : zs.length = 32 := by rw [← hze]; decide +kernel
  rw [splice_at (by rw [List.length_append]; omega) (by rw [hr1, hzl])] at hP3
  simp only [↓VD, VP, VT, isAggD, reduceCtorEq, Int.reduceEq, Int.reduceNe, Int.reduceLT, Int.reduceLE, implies_true, Nat.reduceEqDiff, reduceIte, ite_true, ite_false, eq_self, Nat.reduceLT, Nat.reduceLeDiff, Nat.reduceAdd, Nat.reduceMul, Nat.reduceSub, intOf]
  have hne : ∀ k : Nat, (Value.slice (some ⟨g, 0, none⟩) len c).ownBlock ≠ some k → k ≠ g := fun k hk e => hk (by simp [Value.ownBlock, e])
  refine ⟨rfl, own_mk (sz := 32) (n := len - 1) (cap := c) hP3.blk hbg (by rw [List.length_append]; omega) (by rw [List.length_append]; omega) (by omega) (by rw [maxLen_eq] at hcm; omega), (hE1.mono hbase).trans (hE2.trans (hP3.below (by omega))), fun k T l hk hBk => ?_⟩
  have h1 := hBk.ext hE1
  exact hP3.keep ⟨by rw [hg2.block k h1.lt (fun h => hne k hk (by simpa using h))]; exact h1.out⟩ (hne k hk)
end Go.Proofs.YthlkfjoibjhaiaaGreatDoor

/-! Cut -/
namespace Go.Proofs.YthlkfjoibjhaiaaGreatDoor
set_option maxRecDepth 100000
set_option maxHeartbeats 2000000
open Go Go.RowKit
set_option linter.unusedVariables false
set_option linter.unusedSimpArgs false
attribute [local irreducible] vcT opsT qT vcOp Q1 vcPure vcLoad vcStore ldC ldN ldD grdT grdQ vc vcOps vcQ hT
attribute [local irreducible] sumR sumP shaP keyD bucketP branchP

/-- The digests of a branch without that of the digit c. -/
def cutK (bm c : Nat) (ks : List (List UInt8)) : List (List UInt8) := if hasB bm (c : Int) = true then ks.eraseIdx (rankB bm (c : Int)) else ks
/-- A way down without the digests of the way of K. -/
def cutS (K : List UInt8) : Nat → List (Nat × List (List UInt8)) → List (Nat × List (List UInt8))
  | _, [] => []
  | i, s :: r => (s.1, cutK s.1 (digP K i) s.2) :: cutS K (i + 1) r
theorem cutS_len (K : List UInt8) : ∀ (i : Nat) (L : List (Nat × List (List UInt8))), (cutS K i L).length = L.length
  | _, [] => rfl
  | i, s :: r => by simp [cutS, cutS_len K (i + 1) r]
theorem cutS_snoc (K : List UInt8) : ∀ (i : Nat) (L : List (Nat × List (List UInt8))) (x : Nat × List (List UInt8)), cutS K i (L ++ [x]) = cutS K i L ++ [(x.1, cutK x.1 (digP K (i + L.length)) x.2)]
  | i, [], x => rfl
  | i, s :: r, x => by
    show (s.1, cutK s.1 (digP K i) s.2) :: cutS K (i + 1) (r ++ [x]) = _
    rw [cutS_snoc K (i + 1) r x, show i + 1 + r.length = i + (s :: r).length from by simp; omega]
    rfl
theorem cutS_get (K : List UInt8) : ∀ (i j : Nat) (L : List (Nat × List (List UInt8))), (cutS K i L)[j]? = (L[j]?).map fun s => (s.1, cutK s.1 (digP K (i + j)) s.2)
  | i, j, [] => by simp [cutS]
  | i, 0, s :: r => rfl
  | i, j + 1, s :: r => by
    show (cutS K (i + 1) r)[j]? = _
    rw [cutS_get K (i + 1) j r, show i + 1 + j = i + (j + 1) from by omega]
    rfl
theorem cutK_mem {bm c : Nat} {ks : List (List UInt8)} : ∀ x ∈ cutK bm c ks, x ∈ ks := by
  intro x hx
  unfold cutK at hx
  split at hx
  · exact List.mem_of_mem_eraseIdx hx
  · exact hx
theorem cutK_has {bm c : Nat} {ks : List (List UInt8)} (h : hasB bm (c : Int) = true) (hl : rankB bm (c : Int) < ks.length) : cutK bm c ks = ks.take (rankB bm (c : Int)) ++ ks.drop (rankB bm (c : Int) + 1) := by
  rw [cutK, if_pos h, List.eraseIdx_eq_take_drop_succ]
theorem cutK_not {bm c : Nat} {ks : List (List UInt8)} (h : ¬ (hasB bm (c : Int) = true ∧ rankB bm (c : Int) < ks.length)) : cutK bm c ks = ks := by
  unfold cutK
  split
  · rename_i hh
    exact List.eraseIdx_of_length_le (Nat.le_of_not_lt fun e => h ⟨hh, e⟩)
  · rfl

/-! ### Blocks -/
theorem RunK.only_lt {w w' : World} {hi : Nat} {x : Value} (k : OnlyBy x w w') : ∀ {l : List SR} {lo : Nat}, (∀ g, x.ownBlock = some g → g < lo) → RunK w hi lo l → RunK w' hi lo l
  | [], lo, _, h => h
  | t :: r, lo, hx, h => by
    obtain ⟨mid, h1, h2, h3⟩ := h
    refine ⟨mid, h1, ⟨h2.1, h2.2.1, h2.2.2.1.only (fun g hg e => ?_) k, h2.2.2.2⟩, RunK.only_lt k (fun g hg => Nat.lt_of_lt_of_le (hx g hg) h1) h3⟩
    have := hx g e
    have := h2.2.2.1.lo g hg
    omega
/-- One list of digests, written in its own block. -/
theorem RunK.set {w w' : World} {hi : Nat} {t t' : SR} {r : List SR} (k : OnlyBy t.kv w w') (hb : t'.bm < 65536) (hd : ∀ d ∈ t'.ks, d.length = 32) (ho : t'.kv.ownBlock = t.kv.ownBlock) : ∀ {l : List SR} {lo : Nat}, lo ≤ hi →
    (∀ b, Own w b 28 32 t.kv t.ks.length (t.ks.flatMap vbs) → Own w' b 28 32 t'.kv t'.ks.length (t'.ks.flatMap vbs)) → RunK w hi lo (l ++ t :: r) → RunK w' hi lo (l ++ t' :: r)
  | [], lo, _, hO, h => by
    obtain ⟨mid, h1, h2, h3⟩ := h
    exact ⟨mid, h1, ⟨hb, hd, hO _ h2.2.2.1, fun g hg => h2.2.2.2 g (by rw [← ho]; exact hg)⟩, RunK.only_lt k h2.2.2.2 h3⟩
  | s :: l, lo, hh, hO, h => by
    obtain ⟨mid, h1, h2, h3⟩ := h
    refine ⟨mid, h1, ⟨h2.1, h2.2.1, h2.2.2.1.only (fun g hg e => ?_) k, h2.2.2.2⟩, RunK.set k hb hd ho h3.le hO h3⟩
    have a1 := h2.2.2.2 g hg
    have a2 := (RunK.mem h3 t (by simp)).2.2
    have := a2.lo g e
    omega
theorem RunK.put {w w' : World} {hi b T U : Nat} {L m : List Value} (k : Blk w b T L) (hT : T ≠ 28) (p : Put w w' b U m) : ∀ {l : List SR} {lo : Nat}, RunK w hi lo l → RunK w' hi lo l
  | [], lo, h => h
  | t :: r, lo, h => by obtain ⟨mid, h1, h2, h3⟩ := h; exact ⟨mid, h1, ⟨h2.1, h2.2.1, h2.2.2.1.put k hT p, h2.2.2.2⟩, RunK.put k hT p h3⟩
theorem RunB.onlyT {w w' : World} {hi b2 e2 s2 n2 : Nat} {x : Value} {ys : List Value} (h2 : Own w b2 e2 s2 x n2 ys) (hne : 5 ≠ e2) (k : OnlyBy x w w') : ∀ {l : List (Value × List UInt8)} {lo : Nat}, RunB w hi lo l → RunB w' hi lo l
  | [], lo, h => h
  | t :: r, lo, h => by obtain ⟨mid, h1, h3, h4⟩ := h; exact ⟨mid, h1, ⟨h3.1.onlyT h2 hne k, h3.2⟩, RunB.onlyT h2 hne k h4⟩
end Go.Proofs.YthlkfjoibjhaiaaGreatDoor

/-! Wlk -/
namespace Go.Proofs.YthlkfjoibjhaiaaGreatDoor
set_option maxRecDepth 100000
set_option maxHeartbeats 2000000
open Go Go.RowKit
set_option linter.unusedVariables false
set_option linter.unusedSimpArgs false

/-- The items that are left i digits further down the way of K. -/
def wmI (K : List UInt8) : Nat → Nat → List It → List It
  | 0, _, m => m
  | i + 1, d, m => wmI K i (d + 1) (childI m d (digP K d))
theorem wmI_step (K : List UInt8) : ∀ (i d : Nat) (m : List It), wmI K (i + 1) d m = childI (wmI K i d m) (d + i) (digP K (d + i))
  | 0, d, m => rfl
  | i + 1, d, m => by
    rw [wmI, wmI_step K i (d + 1), wmI, show d + 1 + i = d + (i + 1) from by omega]
theorem wmI_ok {n : Int} (K : List UInt8) : ∀ (i d : Nat) {m : List It}, OkI n m → Pre d m → OkI n (wmI K i d m) ∧ Pre (d + i) (wmI K i d m)
  | 0, d, m, h, hp => ⟨h, hp⟩
  | i + 1, d, m, h, hp => by
    have := wmI_ok K i (d + 1) (h.child d (digP K d)) (hp.child (digP K d))
    rw [show d + 1 + i = d + (i + 1) from by omega] at this
    exact this
theorem wmI_sub (K : List UInt8) : ∀ (i d : Nat) {m : List It} {y : It}, y ∈ wmI K i d m ↔ y ∈ m ∧ ∀ j, j < i → digP y.D (d + j) = digP K (d + j)
  | 0, d, m, y => ⟨fun h => ⟨h, fun j hj => by omega⟩, fun h => h.1⟩
  | i + 1, d, m, y => by
    rw [wmI, wmI_sub K i (d + 1), mem_child]
    constructor
    · rintro ⟨⟨h1, h2⟩, h3⟩
      refine ⟨h1, fun j hj => ?_⟩
      cases j with
      | zero => exact h2
      | succ j => have := h3 j (by omega); rwa [show d + 1 + j = d + (j + 1) from by omega] at this
    · rintro ⟨h1, h2⟩
      refine ⟨⟨h1, h2 0 (by omega)⟩, fun j hj => ?_⟩
      have := h2 (j + 1) (by omega)
      rwa [show d + (j + 1) = d + 1 + j from by omega] at this
theorem walk_spec {n : Int} (hw : widB n = true) (K : List UInt8) : ∀ (f d : Nat) (m : List It), OkI n m → Pre d m → d + f = 64 →
    (∀ i, i < (walkI n K f d m).1.length → (walkI n K f d m).1[i]? = some (bmI (wmI K i d m) (d + i), kidsI n (f - 1 - i) (d + i) (wmI K i d m)) ∧ singleB (wmI K i d m) = false) ∧
    (walkI n K f d m).2 = wmI K (walkI n K f d m).1.length d m ∧ singleB (wmI K (walkI n K f d m).1.length d m) = true := by
  have hwn := (widB_iff n).1 hw
  obtain ⟨nn, rfl⟩ : ∃ nn : Nat, n = nn := ⟨n.toNat, by omega⟩
  intro f
  induction f with
  | zero =>
    intro d m hO hP hdf
    have hs : singleB m = true := by
      cases hs : singleB m
      · have := br_depth hs hP (hO.form hw); omega
      · rfl
    rw [walkI_single _ _ _ _ hs]
    exact ⟨fun i hi => by simp at hi, rfl, hs⟩
  | succ f ih =>
    intro d m hO hP hdf
    cases hs : singleB m
    · obtain ⟨h1, h2, h3⟩ := ih (d + 1) (childI m d (digP K d)) (hO.child _ _) (hP.child _) (by omega)
      rw [walkI, if_neg (by simp [hs])]
      split
      · refine ⟨fun i hi => ?_, ?_, ?_⟩
        · cases i with
          | zero => exact ⟨rfl, hs⟩
          | succ i =>
            have h4 := h1 i (by simpa using hi)
            rw [show d + 1 + i = d + (i + 1) from by omega, show f - 1 - i = f + 1 - 1 - (i + 1) from by omega] at h4
            exact ⟨by rw [List.getElem?_cons_succ]; exact h4.1, h4.2⟩
        · exact h2
        · exact h3
      · rename_i hn
        have he : childI m d (digP K d) = [] := by unfold hasI at hn; simpa using hn
        refine ⟨fun i hi => ?_, ?_, ?_⟩
        · obtain rfl : i = 0 := by simp at hi; exact hi
          exact ⟨rfl, hs⟩
        · exact he.symm
        · show singleB (childI m d (digP K d)) = true
          rw [he]
          rfl
    · rw [walkI_single _ _ _ _ hs]
      exact ⟨fun i hi => by simp at hi, rfl, hs⟩
/-- Of a walk's last branch no single child is the bucket at its end. -/
theorem kids_one {n : Int} {f d : Nat} {m : List It} (hs : singleB m = false) (h1 : (kidsI n f d m).length = 1) (K : List UInt8) (hne : childI m d (digP K d) ≠ []) : singleB (childI m d (digP K d)) = false := by
  rw [kidsI_len] at h1
  have hall : ∀ y ∈ m, digP y.D d = digP K d := by
    intro y hy
    obtain ⟨z, hz⟩ := List.exists_mem_of_ne_nil _ hne
    have hz' := mem_child.1 hz
    have ha : hasB (bmI m d) (digP y.D d : Int) = true := by rw [bmI_has, has_iff.2 ⟨y, hy, rfl⟩, decide_eq_true (digP_lt _ _)]; rfl
    have hb : hasB (bmI m d) (digP K d : Int) = true := by rw [bmI_has, has_iff.2 ⟨z, hz'.1, hz'.2⟩, decide_eq_true (digP_lt _ _)]; rfl
    have h2 := rank_lt ha
    have h3 := rank_lt hb
    exact rank_inj ha hb (by omega)
  have e : childI m d (digP K d) = m := List.filter_eq_self.2 fun y hy => by simpa using hall y hy
  rw [e]
  exact hs
/-- A key is among those at its walk's end if it is among all. -/
theorem getI_wm {n : Int} {m : List It} (hO : OkI n m) (key : List UInt8) (L : Nat) : getI (wmI (keyD n key) L 0 m) key = getI m key := by
  have h : ∀ (i d : Nat) (l : List It), OkI n l → getI (wmI (keyD n key) i d l) key = getI l key := by
    intro i
    induction i with
    | zero => intro d l _; rfl
    | succ i ih => intro d l hl; rw [wmI, ih _ _ (hl.child _ _), getI_child hl.dig rfl]
  exact h L 0 m hO
theorem wmI_len (K : List UInt8) : ∀ (i d : Nat) (m : List It), (wmI K i d m).length ≤ m.length
  | 0, _, _ => Nat.le_refl _
  | i + 1, d, m => Nat.le_trans (wmI_len K i (d + 1) _) (List.length_filter_le _ _)
theorem kids_at {n : Int} {f d c : Nat} {m : List It} (h : childI m d c ≠ []) (hc : c < 16) : hasB (bmI m d) (c : Int) = true ∧ rankB (bmI m d) (c : Int) < (kidsI n f d m).length ∧ (kidsI n f d m)[rankB (bmI m d) (c : Int)]? = some (nodeD n f (d + 1) (childI m d c)) := by
  have hh : hasB (bmI m d) (c : Int) = true := by
    rw [bmI_has, decide_eq_true hc]
    unfold hasI
    cases hx : childI m d c with
    | nil => exact absurd hx h
    | cons _ _ => rfl
  refine ⟨hh, by rw [kidsI_len]; exact rank_lt hh, ?_⟩
  unfold kidsI
  rw [List.getElem?_map, rank_get hh]
  rfl
end Go.Proofs.YthlkfjoibjhaiaaGreatDoor

/-! Hpr -/
namespace Go.Proofs.YthlkfjoibjhaiaaGreatDoor
set_option maxRecDepth 100000
set_option maxHeartbeats 2000000
open Go Go.RowKit
set_option linter.unusedVariables false
set_option linter.unusedSimpArgs false
set_option maxHeartbeats 1000000
attribute [local irreducible] vcT opsT qT vcOp Q1 vcPure vcLoad vcStore ldC ldN ldD grdT grdQ vc vcOps vcQ hT
attribute [local irreducible] sumR sumP shaP keyD bucketP branchP

theorem Own.rebase {w : World} {b b' e s n : Nat} {v : Value} {xs : List Value} (h : Own w b e s v n xs) (hb : ∀ g, v.ownBlock = some g → b' ≤ g) : Own w b' e s v n xs := by
  refine ⟨h.1, ?_⟩
  rcases h.2 with hn | ⟨g, cap, cur, rfl, _, rest⟩
  · exact .inl hn
  · exact .inr ⟨g, cap, cur, rfl, hb g rfl, rest⟩
theorem cutS_upto {K : List UInt8} {L M : List (Nat × List (List UInt8))} {i : Nat} {bm : Nat} {ks : List (List UInt8)} (h : M = cutS K 0 (L.take i) ++ L.drop i) (hx : M[i]? = some (bm, ks)) : L[i]? = some (bm, ks) ∧ M.set i (bm, cutK bm (digP K i) ks) = cutS K 0 (L.take (i + 1)) ++ L.drop (i + 1) := by
  have hl : (cutS K 0 (L.take i)).length = min i L.length := by rw [cutS_len, List.length_take]
  have hil : i < L.length := by
    have := (List.getElem?_eq_some_iff.1 hx).1
    rw [h, List.length_append, hl, List.length_drop] at this
    omega
  have hi : (cutS K 0 (L.take i)).length = i := by rw [hl]; omega
  have h1 : L[i]? = some (bm, ks) := by
    rw [h, List.getElem?_append_right (by omega), hi, Nat.sub_self, List.getElem?_drop, Nat.add_zero] at hx
    exact hx
  refine ⟨h1, ?_⟩
  obtain ⟨_, he⟩ := List.getElem?_eq_some_iff.1 h1
  rw [h, List.set_append_right _ _ (by omega), hi, Nat.sub_self, List.take_succ_eq_append_getElem hil, cutS_snoc, he, List.length_take, Nat.zero_add, Nat.min_eq_left (by omega), ← List.getElem_cons_drop hil, he]
  simp

theorem RunK.lt {w : World} {hi : Nat} : ∀ {l : List SR} {lo : Nat}, RunK w hi lo l → ∀ t ∈ l, ∀ g, t.kv.ownBlock = some g → g < hi
  | [], lo, _, p, hp => by cases hp
  | t :: r, lo, h, p, hp => by
    obtain ⟨mid, h1, h2, h3⟩ := h
    rcases List.mem_cons.1 hp with rfl | hp
    · exact fun g hg => Nat.lt_of_lt_of_le (h2.2.2.2 g hg) h3.le
    · exact RunK.lt h3 p hp
theorem set_same {α : Type} {l : List α} {i : Nat} {x : α} (h : l[i]? = some x) : l.set i x = l := by
  obtain ⟨hl, rfl⟩ := List.getElem?_eq_some_iff.1 h
  exact List.set_getElem_self hl
theorem set_split {α : Type} {l : List α} {i : Nat} {x y : α} (h : l[i]? = some x) : l = l.take i ++ x :: l.drop (i + 1) ∧ l.set i y = l.take i ++ y :: l.drop (i + 1) := by
  obtain ⟨hl, rfl⟩ := List.getElem?_eq_some_iff.1 h
  refine ⟨by rw [List.getElem_cons_drop, List.take_append_drop], ?_⟩
  rw [List.set_eq_take_append_cons_drop, if_pos hl]
theorem atP_err {m : Nat} {k : List UInt8} (hm : 1 ≤ m) (hm2 : m ≤ 32) (hk : k.length = 32) (hf : formB m k = true) {i : Nat} (hi : i < 2 * m) : (atP m k i).2 = 0 := by
  have hz := formB_zero hk hf
  have hc : chkP m [k] = 0 := by
    unfold chkP
    rw [if_neg (by omega), if_pos]
    intro d hd
    obtain rfl : d = k := by simpa using hd
    simpa using hz
  unfold atP
  rw [if_neg (by omega), if_pos hc]

theorem Prove_hproof_ok (n : Int) (hw : widB n = true) (S : Nat → Prop) (mv kv : Value) (m : List It) (key : List UInt8) (w : World) (hW : WordsAt w 1) (h : MapAt n S w mv m) (hO : OkI n m) (hk : SlB w kv key) (hml : m.length ≤ 1000000000) :
    CallK Tryz.prog 30 [mv, kv].toArray w fun r w' => ∃ (sv pv : Value) (tt : List SR) (qs : List PR), r = .tuple [.agg [sv, pv].toArray, .int .i64 (if 64 < key.length then 2 else 0 : Nat)].toArray ∧
      Own w' w.heap.size 51 2 sv tt.length (tt.flatMap SR.cells) ∧ RunK w' w'.heap.size w.heap.size tt ∧ Own w' w.heap.size 47 2 pv qs.length (qs.flatMap PR.cells) ∧ RunB w' w'.heap.size w.heap.size (qs.flatMap prB) ∧
      tt.map SR.dt = (if 64 < key.length then [] else cutS (keyD n key) 0 (walkI n (keyD n key) 64 0 m).1) ∧ qs.map PR.dat = (if 64 < key.length then [] else (walkI n (keyD n key) 64 0 m).2.map It.pr) ∧ Ext w w' := by
  have hwn := (widB_iff n).1 hw
  obtain ⟨nn, rfl⟩ : ∃ nn : Nat, n = nn := ⟨n.toNat, by omega⟩
  obtain ⟨ka, kc, rfl⟩ := slv_of hk
  refine enterT Tryz.func30 rfl Tryz.ntmps30 Tryz.results30 rfl (by decide) ?_
  repeat (first | exact trivial | refine stpg ?_)
  first | refine newS ?_ | refine newZ ?_
  intro w1 hE1 hz1 hB1
  repeat (first | exact trivial | refine stpg ?_)
  have hKl := keyD_len nn key
  refine ⟨fun h64 => ?_, fun h64 => ?_⟩
  · refine bldC [.slice none 0 0, .slice none 0 0] (by kernel_rfl) ?_
    repeat (first | exact trivial | refine stpg ?_)
    refine stW ?_
    intro w2 hP2 hz2 hB2
    repeat (first | exact trivial | refine stpg ?_)
    exact ⟨.slice none 0 0, .slice none 0 0, [], [], by rw [if_pos (by omega)]; rfl, Own.nil _ _ _ _, by show w.heap.size ≤ w2.heap.size; omega, Own.nil _ _ _ _, by show w.heap.size ≤ w2.heap.size; omega, by rw [if_pos (by omega)]; rfl, by rw [if_pos (by omega)]; rfl, .go⟩
  have h64' : ¬ 64 < key.length := by omega
  repeat (first | exact trivial | refine stpg ?_)
  refine (Walk_hamt_ok nn hw S mv _ m key w1 (hW.ext .go) (h.ext .go) hO (hk.ext .go) hml).mono ?_
  rintro _ w2 ⟨sv, pv, tt, qs, rfl, hOs, hRk, hOp, hRb, htd, hqd, hE2⟩
  have hz2 := hE2.size
  rw [if_neg h64'] at htd hqd ⊢
  generalize hLe : (walkI nn (keyD nn key) 64 0 m).1 = L at *
  have hL : tt.length = L.length := by rw [← htd, List.length_map]
  obtain ⟨sa, sc, rfl⟩ := own_slice hOs
  obtain ⟨pa, pc, rfl⟩ := own_slice hOp
  obtain ⟨hst, hend, hsg⟩ := walk_spec hw (keyD nn key) 64 0 m hO hO.pre rfl
  rw [hLe] at hst
  simp only [Nat.zero_add] at hst
  have hf : formB nn (keyD nn key) = true := by unfold keyD; exact form_sumR nn _ hw
  have hL32 : L.length ≤ 2 * nn := by
    rcases Nat.eq_zero_or_pos L.length with h0 | h0
    · omega
    · obtain ⟨_, hs2⟩ := hst (L.length - 1) (by omega)
      obtain ⟨hOd, hPd⟩ := wmI_ok (n := nn) (keyD nn key) (L.length - 1) 0 hO hO.pre
      rw [Nat.zero_add] at hPd
      have := br_depth hs2 hPd (hOd.form hw)
      omega
  repeat (first | exact trivial | refine stpg ?_)
  refine (Width_hamt_ok nn S mv m w2 (h.ext .go)).mono ?_
  rintro _ w3 ⟨rfl, hE3⟩
  have hz3 := hE3.size
  repeat (first | exact trivial | refine stpg ?_)
  refine (Key_ok nn key _ w3 (hW.ext .go) (hk.ext .go) (by omega)).mono ?_
  rintro _ w4 ⟨rfl, hE4⟩
  have hz4 := hE4.size
  have hkd : sumR nn (2 :: key) = keyD nn key := by unfold keyD; rfl
  have hse : sumE nn = 0 := by unfold sumE; rw [if_pos hw]
  rw [hkd, hse]
  repeat (first | exact trivial | refine stpg ?_)
  first | refine newS ?_ | refine newZ ?_
  intro w5 hE5 hz5 hB5
  repeat (first | exact trivial | refine stpg ?_)
  refine loopX (ι := Nat × List SR) (fun x => [(4, .pointer (some ⟨w.heap.size, 0, none⟩)), (6, .slice sa tt.length sc), (7, .slice pa qs.length pc), (9, .int .i64 nn), (10, .pointer (some ⟨w4.heap.size, 0, none⟩)), (43, .slice sa tt.length sc), (44, .int .i64 tt.length), (45, .int .i64 x.1)])
    (fun x W => Ext w1 W ∧ w5.heap.size ≤ W.heap.size ∧ x.1 ≤ L.length ∧ x.2.length = tt.length ∧ Own W w1.heap.size 51 2 (.slice sa tt.length sc) tt.length (x.2.flatMap SR.cells) ∧ RunK W w2.heap.size w1.heap.size x.2 ∧
      Own W w1.heap.size 47 2 (.slice pa qs.length pc) qs.length (qs.flatMap PR.cells) ∧ RunB W w2.heap.size w1.heap.size (qs.flatMap prB) ∧ Blk W w4.heap.size 28 (vbs (keyD nn key)) ∧ x.2.map SR.dt = cutS (keyD nn key) 0 (L.take x.1) ++ L.drop x.1) (fun x => L.length - x.1) (0, tt) ⟨.go, Nat.le_refl _, Nat.zero_le _, rfl, hOs.ext .go, (hRk.ext .go), hOp.ext .go, hRb.ext .go, hB5, by simpa [cutS] using htd⟩ ?_ ?_
  · repeat (first | exact trivial | refine stpg ?_)
  · rintro ⟨i, ss⟩ s6 w6 ⟨hE6, hz6, hi, hsl, hO6, hR6, hP6, hRb6, hB6, hd6⟩
    simp only at hi hsl hO6 hR6 hd6
    repeat (first | exact trivial | refine stpg ?_)
    refine ⟨fun hlt => ?_, fun hge => ?_⟩
    · obtain ⟨t, ht⟩ : ∃ x, ss[i]? = some x := ⟨_, List.getElem?_eq_getElem (by omega)⟩
      obtain ⟨hs1, hs2⟩ := hst i (by omega)
      obtain ⟨hOd, hPd⟩ := wmI_ok (n := nn) (keyD nn key) i 0 hO hO.pre
      rw [Nat.zero_add] at hPd
      have hat := atP_dig (m := nn) (by omega) (by omega) hKl hf (br_depth hs2 hPd (hOd.form hw))
      have hae := atP_err (m := nn) (by omega) (by omega) hKl hf (br_depth hs2 hPd (hOd.form hw))
      have hdg := digP_lt (keyD nn key) i
      obtain ⟨hbm, h32, hOk⟩ := hR6.mem t (List.mem_of_getElem? ht)
      obtain ⟨g, cap, rest, he, hgb, hBg, hnc, hcm, hrl⟩ := hO6.open (by omega)
      injection he with he1 _ he3
      subst he1 he3
      have hO6' : Own w6 w1.heap.size 51 2 (.slice (some ⟨g, 0, none⟩) tt.length sc) ss.length (ss.flatMap SR.cells) := by rw [hsl]; exact hO6
      obtain ⟨b', o', he, hRow⟩ := (SlC.of_own hO6').row (f := SR.cells) (sz := 2) (fun _ _ => rfl) (by decide) (by omega)
      injection he with he
      injection he with he1 he2
      subst he1 he2
      obtain ⟨kv, bm, ks⟩ := t
      simp only at hbm h32 hOk
      have hdt : (ss.map SR.dt)[i]? = some (bm, ks) := by rw [List.getElem?_map, ht]; rfl
      obtain ⟨hLi, hset⟩ := cutS_upto hd6 hdt
      have hkl : ks.length ≤ 16 := by
        rw [hs1] at hLi
        simp only [Option.some.injEq, Prod.mk.injEq] at hLi
        rw [← hLi.2, kidsI_len]
        exact cnt_le _
      obtain ⟨ka', kc', rfl⟩ := own_slice hOk
      repeat (first | exact trivial | refine stpg ?_)
      refine (At_ok nn (keyD nn key) hKl i w6).mono ?_
      rintro _ w7 ⟨rfl, hE7⟩
      have hz7 := hE7.size
      rw [hat, hae]
      repeat (first | exact trivial | refine stpg ?_)
      refine ldRowF (f := SR.cells) 0 ht ?_
      repeat (first | exact trivial | refine stpg ?_)
      refine (Rank_ok bm hbm (digP (keyD nn key) i) w7).mono ?_
      rintro _ w8 ⟨rfl, hE8⟩
      have hz8 := hE8.size
      repeat (first | exact trivial | refine stpg ?_)
      refine ldRowF (f := SR.cells) 0 ht ?_
      repeat (first | exact trivial | refine stpg ?_)
      refine (Has_ok bm hbm (digP (keyD nn key) i) w8).mono ?_
      rintro _ w9 ⟨rfl, hE9⟩
      have hz9 := hE9.size
      by_cases hh : hasB bm (digP (keyD nn key) i : Int) = true
      · rw [hh]
        repeat (first | exact trivial | refine stpg ?_)
        refine ldRowF (f := SR.cells) 1 ht ?_
        repeat (first | exact trivial | refine stpg ?_)
        refine ⟨fun hlt2 => ?_, fun hge2 => ?_⟩
        · refine ldRowF (f := SR.cells) 1 ht ?_
          repeat (first | exact trivial | refine stpg ?_)
          have hrk : rankB bm (digP (keyD nn key) i : Int) < ks.length := by omega
          generalize hre : rankB bm (digP (keyD nn key) i : Int) = r at *
          obtain ⟨hks1, _⟩ := set_split (y := ks[r]) (List.getElem?_eq_getElem hrk)
          have hkf : ks.flatMap vbs = (ks.take r).flatMap vbs ++ (vbs ks[r] ++ (ks.drop (r + 1)).flatMap vbs) := by
            conv => lhs; rw [hks1]
            rw [List.flatMap_append, List.flatMap_cons]
          have hcut : cutK bm (digP (keyD nn key) i) ks = ks.take r ++ ks.drop (r + 1) := by rw [cutK_has hh (by omega), hre]
          rw [w64 (by omega) (by omega), show ((r : Int) + 1) = ((r + 1 : Nat) : Int) from by omega]
          have hA := dvs_len (ks.take r) (fun d hd => h32 d (List.mem_of_mem_take hd))
          have hD := dvs_len (ks.drop (r + 1)) (fun d hd => h32 d (List.mem_of_mem_drop hd))
          rw [List.length_take, Nat.min_eq_left (by omega)] at hA
          rw [List.length_drop] at hD
          refine (DelD_ok ((ks.take r).flatMap vbs) (vbs ks[r]) ((ks.drop (r + 1)).flatMap vbs) r ks.length hA (by rw [vbs_len]; exact h32 _ (List.getElem_mem _)) (by rw [hD]; congr 1; omega) hrk (fun v hv => by obtain ⟨d, _, hd⟩ := List.mem_flatMap.1 hv; exact vbs_one _ _ hd) _ w1.heap.size w9 (by rw [← hkf]; exact hOk.ext .go) (by omega) (by omega)).mono ?_
          rintro v10 w10 ⟨hob, hO10, hE10, hOB⟩
          have hz10 := hE10.size
          obtain ⟨a10, c10, rfl⟩ := own_slice hO10
          have hn10 : ks.length - 1 = (cutK bm (digP (keyD nn key) i) ks).length := by rw [hcut, List.length_append, List.length_take, List.length_drop]; omega
          have hf10 : (ks.take r).flatMap vbs ++ (ks.drop (r + 1)).flatMap vbs = (cutK bm (digP (keyD nn key) i) ks).flatMap vbs := by rw [hcut, List.flatMap_append]
          rw [hn10, hf10] at hO10
          rw [hn10] at hob ⊢
          have hOk9 : Own w9 w1.heap.size 28 32 (.slice ka' ks.length kc') ks.length (ks.flatMap vbs) := hOk.ext .go
          have hBg9 : Blk w9 g 51 (ss.flatMap SR.cells ++ rest) := .go
          have hBg10 := hOB g _ _ (hOk9.not_blk hBg9 (by decide)) hBg9
          obtain ⟨hs3, hs4⟩ := set_split (y := (⟨.slice a10 (cutK bm (digP (keyD nn key) i) ks).length c10, bm, cutK bm (digP (keyD nn key) i) ks⟩ : SR)) ht
          generalize hkn : cutK bm (digP (keyD nn key) i) ks = kn at *
          have hcl : ((ss.take i).flatMap SR.cells).length = i * 2 := by
            have : ∀ l : List SR, (l.flatMap SR.cells).length = l.length * 2 := by
              intro l
              induction l with
              | nil => rfl
              | cons a l ih => rw [List.flatMap_cons, List.length_append, ih]; simp [SR.cells]; omega
            rw [this, List.length_take]
            omega
          have hcell : ss.flatMap SR.cells ++ rest = ((ss.take i).flatMap SR.cells ++ [.int .u16 bm]) ++ (.slice ka' ks.length kc' :: ((ss.drop (i + 1)).flatMap SR.cells ++ rest)) := by
            conv => lhs; rw [hs3]
            simp [SR.cells, List.flatMap_append, List.flatMap_cons, List.append_assoc]
          have hcell' : (ss.set i ⟨.slice a10 kn.length c10, bm, kn⟩).flatMap SR.cells ++ rest = ((ss.take i).flatMap SR.cells ++ [.int .u16 bm]) ++ (.slice a10 kn.length c10 :: ((ss.drop (i + 1)).flatMap SR.cells ++ rest)) := by
            rw [hs4]
            simp [SR.cells, List.flatMap_append, List.flatMap_cons, List.append_assoc]
          rw [hcell] at hBg10
          repeat (first | exact trivial | refine stpg ?_)
          refine stAt (by decide +kernel) hBg10 (by rw [List.length_append, hcl]; rfl) rfl rfl (fun w11 hP11 => ?_)
          have hB11 := hP11.blk
          rw [← hcell'] at hB11
          have hz11 := hP11.size
          have hkb := hR6.lt _ (List.mem_of_getElem? ht)
          have hBd10 : Blk w10 w4.heap.size 28 (vbs (keyD nn key)) := hOB _ _ _ (fun he => by have := hkb _ he; omega) (.go (h := hB6))
          have hg4 : g ≠ w4.heap.size := fun he => by have h1 := hBg10.out; rw [he, hBd10.out, Option.some.injEq, Obj.cells.injEq] at h1; exact absurd h1.2 (by decide)
          have hE11 : Ext w1 w11 := .go
          have hset' : ss.set i ⟨.slice a10 kn.length c10, bm, kn⟩ = ss.take i ++ ⟨.slice a10 kn.length c10, bm, kn⟩ :: ss.drop (i + 1) := hs4
          repeat (first | exact trivial | refine stpg ?_)
          refine ⟨(i + 1, ss.set i ⟨.slice a10 kn.length c10, bm, kn⟩), ⟨hE11, by omega, by simp only; omega, by simp only [List.length_set]; exact hsl, ?_, ?_, ?_, ?_, hP11.keep hBd10 (Ne.symm hg4), ?_⟩, by rw [w64 (by omega) (by omega)]; rfl, by simp only; omega⟩
          · have hxl : ((ss.set i ⟨.slice a10 kn.length c10, bm, kn⟩).flatMap SR.cells).length = tt.length * 2 := by
              have h1 := congrArg List.length hcell'
              have h2 := congrArg List.length hcell
              have h3 := hO6.1
              simp only [List.length_append, List.length_cons] at h1 h2
              omega
            refine own_mk (sz := 2) hB11 hgb hxl ?_ hnc hcm
            have h3 := hO6.1
            rw [List.length_append, h3] at hrl
            rw [Nat.sub_mul]
            omega
          · rw [hset']
            have hR9 : RunK w9 w2.heap.size w1.heap.size (ss.take i ++ ⟨.slice ka' ks.length kc', bm, ks⟩ :: ss.drop (i + 1)) := by rw [← hs3]; exact hR6.ext .go
            refine RunK.put hBg10 (by decide) hP11 (RunK.set (t := ⟨.slice ka' ks.length kc', bm, ks⟩) hOB hbm (fun d hd => h32 d (by rw [← hkn] at hd; exact cutK_mem d hd)) hob (by omega) (fun b hb => hO10.rebase fun g' hg' => hb.lo g' (by rw [← hob]; exact hg')) hR9)
          · exact ((hP6.ext (w' := w9) .go).onlyT hOk9 (by decide) hOB).put hBg10 (by decide) hP11
          · exact RunB.put hBg10 (by decide) hP11 (RunB.onlyT hOk9 (by decide) hOB (hRb6.ext (w' := w9) .go))
          · simp only
            rw [← hset, hset', List.map_append, List.map_cons]
            have hdt' : (ss.map SR.dt)[i]? = some (bm, ks) := hdt
            rw [(set_split (y := (bm, kn)) hdt').2, List.map_take, List.map_drop]
            rfl
        · repeat (first | exact trivial | refine stpg ?_)
          refine ⟨(i + 1, ss), ⟨.go, by omega, by simp only; omega, hsl, hO6.ext .go, hR6.ext .go, hP6.ext .go, hRb6.ext .go, .go, ?_⟩, by rw [w64 (by omega) (by omega)]; rfl, by simp only; omega⟩
          simp only
          rw [← hset, cutK_not (fun hc => by omega), set_same hdt]
      · rw [Bool.not_eq_true] at hh
        rw [hh]
        repeat (first | exact trivial | refine stpg ?_)
        refine ⟨(i + 1, ss), ⟨.go, by omega, by simp only; omega, hsl, hO6.ext .go, hR6.ext .go, hP6.ext .go, hRb6.ext .go, .go, ?_⟩, by rw [w64 (by omega) (by omega)]; rfl, by simp only; omega⟩
        simp only
        rw [← hset, cutK_not (fun hc => by rw [hh] at hc; exact absurd hc.1 (by decide)), set_same hdt]
    · refine bldC [.slice sa tt.length sc, .slice pa qs.length pc] (by kernel_rfl) ?_
      repeat (first | exact trivial | refine stpg ?_)
      refine stW ?_
      intro w7 hP7 hz7 hB7
      repeat (first | exact trivial | refine stpg ?_)
      obtain rfl : i = L.length := by omega
      rw [List.take_length, List.drop_length, List.append_nil] at hd6
      have hb0 : Blk w6 w.heap.size 26 _ := .go (h := hB1)
      refine ⟨.slice sa tt.length sc, .slice pa qs.length pc, ss, qs, rfl, ?_, ?_, ?_, ?_, ?_, ?_, ?_⟩
      · rw [hsl]; exact (hO6.base (by omega)).put hb0 (by decide) hP7
      · exact RunK.put hb0 (by decide) hP7 (RunK.top (by omega) (RunK.append (l := []) (m := w1.heap.size) (by show w.heap.size ≤ _; omega) hR6))
      · exact (hP6.base (by omega)).put hb0 (by decide) hP7
      · exact RunB.put hb0 (by decide) hP7 (RunB.top (by omega) (RunB.append (l := []) (m := w1.heap.size) (by show w.heap.size ≤ _; omega) hRb6))
      · rw [if_neg h64', hd6]
      · rw [if_neg h64', hqd]
      · exact .go
end Go.Proofs.YthlkfjoibjhaiaaGreatDoor

/-! Rfa -/
namespace Go.Proofs.YthlkfjoibjhaiaaGreatDoor
set_option maxRecDepth 100000
set_option maxHeartbeats 2000000
open Go Go.RowKit
set_option linter.unusedVariables false
set_option linter.unusedSimpArgs false
attribute [local irreducible] vcT opsT qT vcOp Q1 vcPure vcLoad vcStore ldC ldN ldD grdT grdQ vc vcOps vcQ hT
attribute [local irreducible] sumR sumP shaP keyD bucketP branchP

/-! ### less, in plain Lean -/
def lessI : List UInt8 → List UInt8 → Int
  | x :: xs, y :: ys => if x = y then lessI xs ys else (x.toNat : Int) - y.toNat
  | xs, ys => (xs.length : Int) - ys.length
/-! ### Items in memory -/
structure IR where
  kv : Value
  vv : Value
  y : It
def IR.cells (p : IR) : List Value := vbs p.y.D ++ [p.kv, p.vv]
structure ItemAt (w : World) (p : IR) : Prop where
  len : p.y.D.length = 32
  key : SlB w p.kv p.y.k
  val : SlB w p.vv p.y.v
theorem ItemAt.ext {w w' : World} {p : IR} (h : ItemAt w p) (e : Ext w w') : ItemAt w' p := ⟨h.len, h.key.ext e, h.val.ext e⟩
theorem ItemAt.clen {w : World} {p : IR} (h : ItemAt w p) : p.cells.length = 34 := by unfold IR.cells; rw [List.length_append, vbs_len, h.len]; rfl
theorem ItemAt.one {w : World} {p : IR} (h : ItemAt w p) : ∀ u ∈ p.cells, oneCellV u = true := by
  intro u hu
  obtain ⟨a1, c1, e1⟩ := slv_of h.key
  obtain ⟨a2, c2, e2⟩ := slv_of h.val
  rcases List.mem_append.1 hu with hu | hu
  · exact vbs_one _ u hu
  · simp only [List.mem_cons, List.not_mem_nil, or_false] at hu
    rcases hu with rfl | rfl
    · rw [e1]; rfl
    · rw [e2]; rfl
theorem ItemAt.kc {w : World} {p : IR} (h : ItemAt w p) : p.cells[32]? = some p.kv := by unfold IR.cells; rw [List.getElem?_append_right (by rw [vbs_len, h.len]; decide), vbs_len, h.len]; rfl
theorem ItemAt.vc {w : World} {p : IR} (h : ItemAt w p) : p.cells[33]? = some p.vv := by unfold IR.cells; rw [List.getElem?_append_right (by rw [vbs_len, h.len]; decide), vbs_len, h.len]; rfl
theorem ItemAt.dig {w w0 : World} {p : IR} {b T : Nat} (h : ItemAt w0 p) (hB : Blk w b T p.cells) : SlB w (.slice (some ⟨b, 0, none⟩) 32 32) p.y.D := by
  have hl := h.len
  rw [show (32 : Nat) = p.y.D.length from hl.symm]
  refine SlC.of_part hB (by omega) (by omega) (fun j u hj => ?_)
  rw [Nat.zero_add, IR.cells, List.getElem?_append_left (List.getElem?_eq_some_iff.1 hj).1]
  exact hj
def ordI (a b : It) : Int := if lessI a.D b.D = 0 then lessI a.k b.k else lessI a.D b.D
/-! ### Put, in plain Lean -/
def rp (x : It) : Bool → List It → List It
  | done, [] => if done = true then [] else [x]
  | done, y :: r => (if done = false ∧ ordI x y ≤ 0 then [x] else []) ++ ((if ordI x y ≠ 0 then [y] else []) ++ rp x (done || decide (ordI x y ≤ 0)) r)
structure ItemsAt (w : World) (v : Value) (is : List IR) : Prop where
  sl : SlC w v is.length (is.flatMap IR.cells)
  mem : ∀ p ∈ is, ItemAt w p
theorem ItemsAt.ext {w w' : World} {v : Value} {is : List IR} (h : ItemsAt w v is) (e : Ext w w') : ItemsAt w' v is := ⟨h.sl.ext e, fun p hp => (h.mem p hp).ext e⟩
theorem ItemsAt.row {w : World} {a : Option Addr} {n c : Nat} {is : List IR} (h : ItemsAt w (.slice a n c) is) (hd : 0 < is.length) : ∃ b o, a = some ⟨b, o, none⟩ ∧ RowA w b o 34 IR.cells is := h.sl.row (fun p hp => (h.mem p hp).clen) (by decide) hd
end Go.Proofs.YthlkfjoibjhaiaaGreatDoor

/-! Rfb -/
namespace Go.Proofs.YthlkfjoibjhaiaaGreatDoor
set_option maxRecDepth 100000
set_option maxHeartbeats 2000000
open Go Go.RowKit
set_option linter.unusedVariables false
set_option linter.unusedSimpArgs false
attribute [local irreducible] vcT opsT qT vcOp Q1 vcPure vcLoad vcStore ldC ldN ldD grdT grdQ vc vcOps vcQ hT
attribute [local irreducible] sumR sumP shaP keyD bucketP branchP

/-- The items of a map that these pairs are put into, one after another. -/
def putAll (n : Int) (m : List It) (l : List (List UInt8 × List UInt8)) : List It := l.foldl (fun m p => putI m ⟨keyD n p.1, p.1, p.2⟩) m
theorem ItemAt.pc {w : World} {p : IR} (h : ItemAt w p) : (p.cells.drop 32).take 2 = [p.kv, p.vv] := by
  unfold IR.cells
  rw [List.drop_append, List.drop_eq_nil_of_le (by rw [vbs_len, h.len]; decide), vbs_len, h.len]
  rfl
theorem ItemAt.dc {w : World} {p : IR} (h : ItemAt w p) : (p.cells.drop 0).take 32 = vbs p.y.D := by
  unfold IR.cells
  rw [List.drop_zero, List.take_append_of_le_length (by rw [vbs_len, h.len]; decide), vbs_tk h.len]
def IR.pr (p : IR) : PR := ⟨p.kv, p.vv, p.y.k, p.y.v⟩
/-! ### single -/
end Go.Proofs.YthlkfjoibjhaiaaGreatDoor

/-! Rfc -/
namespace Go.Proofs.YthlkfjoibjhaiaaGreatDoor
set_option maxRecDepth 100000
set_option maxHeartbeats 2000000
open Go Go.RowKit
set_option linter.unusedVariables false
set_option linter.unusedSimpArgs false
attribute [local irreducible] vcT opsT qT vcOp Q1 vcPure vcLoad vcStore ldC ldN ldD grdT grdQ vc vcOps vcQ hT
attribute [local irreducible] sumR sumP shaP keyD bucketP branchP

def NodeC (n : Nat) (f : Nat) : Prop := ∀ (d : Nat) (is : List IR) (m : List It) (mv : Value) (w : World), ItemsAt w mv is → is.map IR.y = m → OkI n m → Pre d m → m ≠ [] → d + f = 64 → is.length ≤ 90000000 →
  CallK Tryz.prog 245 [.int .i64 n, mv, .int .i64 d].toArray w fun v w' => v = .agg (vbs (nodeD n f d m)).toArray ∧ Ext w w'
end Go.Proofs.YthlkfjoibjhaiaaGreatDoor

/-! Ito -/
namespace Go.Proofs.YthlkfjoibjhaiaaGreatDoor
set_option maxRecDepth 100000
set_option maxHeartbeats 2000000
open Go Go.RowKit
set_option linter.unusedVariables false
set_option linter.unusedSimpArgs false

theorem OkI.putAll {n : Int} : ∀ (l : List (List UInt8 × List UInt8)) {m : List It}, OkI n m → (∀ p ∈ l, p.1.length ≤ 64 ∧ p.2.length ≤ 256) → OkI n (putAll n m l)
  | [], _, h, _ => h
  | p :: l, m, h, hl => OkI.putAll l (h.put rfl (hl p (by simp))) (fun q hq => hl q (by simp [hq]))
/-- The pairs that are not too long. -/
def shortP (l : List (List UInt8 × List UInt8)) : List (List UInt8 × List UInt8) := l.filter fun p => decide (¬ (64 < p.1.length ∨ 256 < p.2.length))
def grownI (n : Int) (l : List (List UInt8 × List UInt8)) : List It := putAll n [] (shortP l)
end Go.Proofs.YthlkfjoibjhaiaaGreatDoor

/-! Itr -/
namespace Go.Proofs.YthlkfjoibjhaiaaGreatDoor
set_option maxRecDepth 100000
set_option maxHeartbeats 2000000
end Go.Proofs.YthlkfjoibjhaiaaGreatDoor

/-! Rfd -/
namespace Go.Proofs.YthlkfjoibjhaiaaGreatDoor
set_option maxRecDepth 100000
set_option maxHeartbeats 2000000
open Go Go.RowKit
set_option linter.unusedVariables false
set_option linter.unusedSimpArgs false
set_option maxHeartbeats 1000000
attribute [local irreducible] vcT opsT qT vcOp Q1 vcPure vcLoad vcStore ldC ldN ldD grdT grdQ vc vcOps vcQ hT
attribute [local irreducible] sumR sumP shaP keyD bucketP branchP

theorem ItemAt.c32 {w : World} {p : IR} (h : ItemAt w p) : p.cells[32]? = some p.kv := by
  unfold IR.cells
  rw [List.getElem?_append_right (by rw [vbs_len, h.len]; decide), vbs_len, h.len]
  rfl
theorem ItemAt.c33 {w : World} {p : IR} (h : ItemAt w p) : p.cells[33]? = some p.vv := by
  unfold IR.cells
  rw [List.getElem?_append_right (by rw [vbs_len, h.len]; decide), vbs_len, h.len]
  rfl
end Go.Proofs.YthlkfjoibjhaiaaGreatDoor

/-! Rfp -/
namespace Go.Proofs.YthlkfjoibjhaiaaGreatDoor
set_option maxRecDepth 100000
set_option maxHeartbeats 2000000
open Go Go.RowKit
set_option linter.unusedVariables false
set_option linter.unusedSimpArgs false
set_option maxHeartbeats 1000000
attribute [local irreducible] vcT opsT qT vcOp Q1 vcPure vcLoad vcStore ldC ldN ldD grdT grdQ vc vcOps vcQ hT
attribute [local irreducible] sumR sumP shaP keyD bucketP branchP

end Go.Proofs.YthlkfjoibjhaiaaGreatDoor

/-! Rfq -/
namespace Go.Proofs.YthlkfjoibjhaiaaGreatDoor
set_option maxRecDepth 100000
set_option maxHeartbeats 2000000
open Go Go.RowKit
set_option linter.unusedVariables false
set_option linter.unusedSimpArgs false
set_option maxHeartbeats 1000000
attribute [local irreducible] vcT opsT qT vcOp Q1 vcPure vcLoad vcStore ldC ldN ldD grdT grdQ vc vcOps vcQ hT
attribute [local irreducible] sumR sumP shaP keyD bucketP branchP

/-- A proof's parts. -/
structure PrfAt (w : World) (v : Value) (ss : List (Nat × List (List UInt8))) (ps : List (List UInt8 × List UInt8)) : Prop where
  out : ∃ sv pv tt qs, v = .agg [sv, pv].toArray ∧ StepsAt w sv tt ∧ PairsAt w pv qs ∧ tt.map SR.dt = ss ∧ qs.map PR.dat = ps
theorem StepsAt.ext' {w w' : World} {v : Value} {tt : List SR} (h : StepsAt w v tt) (e : Ext w w') : StepsAt w' v tt := h.ext e
theorem PairsAt.ext' {w w' : World} {v : Value} {qs : List PR} (h : PairsAt w v qs) (e : Ext w w') : PairsAt w' v qs := ⟨h.1.ext e, fun p hp => ⟨(h.2 p hp).1.ext e, (h.2 p hp).2.ext e⟩⟩
theorem PrfAt.ext {w w' : World} {v : Value} {ss : List (Nat × List (List UInt8))} {ps : List (List UInt8 × List UInt8)} (h : PrfAt w v ss ps) (e : Ext w w') : PrfAt w' v ss ps := by
  obtain ⟨sv, pv, tt, qs, h1, h2, h3, h4, h5⟩ := h.out
  exact ⟨sv, pv, tt, qs, h1, h2.ext' e, h3.ext' e, h4, h5⟩
theorem PairsAt.ofRun {w : World} {lo lo' hi : Nat} {pv : Value} {qs : List PR} (h : Own w lo 47 2 pv qs.length (qs.flatMap PR.cells)) (hr : RunB w hi lo' (qs.flatMap prB)) : PairsAt w pv qs :=
  ⟨SlC.of_own h, fun p hp => ⟨(hr.mem (p.kv, p.k) (List.mem_flatMap.2 ⟨p, hp, by simp [prB]⟩)).sl, (hr.mem (p.vv, p.v) (List.mem_flatMap.2 ⟨p, hp, by simp [prB]⟩)).sl⟩⟩
/-- How many digests steps have, counted as the program counts. -/
def sizeW (ss : List SR) : Int := ss.foldl (fun n s => IntKind.i64.wrap (n + s.ks.length)) 0
end Go.Proofs.YthlkfjoibjhaiaaGreatDoor
