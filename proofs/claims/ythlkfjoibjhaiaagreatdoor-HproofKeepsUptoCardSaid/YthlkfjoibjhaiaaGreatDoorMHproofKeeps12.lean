/-
  One more among a bucket's items. Conditions: as stated in each theorem. Package hamt: put, Put. Conditions: as stated in each theorem. Package notaryref14: less, order, item, Digit, Put, Of, Pairs. Conditions: as stated in each theorem. Package notaryref14: Of, Pairs, single, child, CheckPair, step, node, Root. Conditions: as stated in each theorem. Package notaryref14: CheckPair, step, node, Root. Conditions: as stated in each theorem. One less among a tree's items, in plain Lean. Conditions: as stated in each theorem. What a map answers once a key is put, in plain Lean. Conditions: as stated in each theorem. What lies along a walk, in plain Lean. Conditions: as stated in each theorem. What lies along a walk: see Wlk; with the reference's maps. Conditions: as stated there. Package notaryref14: Get, Walk, SamePair, SamePairs, SameSteps. Conditions: as stated in each theorem. slices.Delete of one element, of digests. Conditions: as stated in each theorem. Written by wip/gendel.py. Steps without one digest each; lists of steps whose digests lie in blocks of their own, one of them changed. Conditions: as stated in each theorem. Package notaryref15: ahead, Without. Conditions: as stated in each theorem. Package hproof: Prove. Conditions: as stated in each theorem. Package notaryref15: Prove, DocProve, Same, DocSize; package hproof: Size. Conditions: as stated in each theorem. Package notaryref14: Delete. Conditions: as stated in each theorem. Conversions of strings and bytes. Conditions: as stated in each theorem. Package notarylaw15: made, wide, awake. Conditions: as stated in each theorem.
-/
import Derived.Test.YthlkfjoibjhaiaaGreatDoorMHproofKeeps11
import Derived.Lib.ConvBytes
import Derived.Laws.IdiomStrings
/-! Itq -/
namespace Go.Proofs.YthlkfjoibjhaiaaGreatDoor
set_option maxRecDepth 100000
set_option maxHeartbeats 2000000
open Go Go.RowKit
set_option linter.unusedVariables false
set_option linter.unusedSimpArgs false

theorem filter_take {α : Type} (p : α → Bool) : ∀ (l : List α) (i : Nat), (∀ j a, l[j]? = some a → (p a = true ↔ j < i)) → l.filter p = l.take i
  | [], i, _ => by simp
  | a :: l, 0, h => by
    rw [List.take_zero]
    refine List.filter_eq_nil_iff.2 fun b hb => ?_
    obtain ⟨j, hj⟩ := List.getElem?_of_mem hb
    intro hp
    have := (h j b hj).1 hp
    omega
  | a :: l, i + 1, h => by
    have ha := (h 0 a rfl).2 (by omega)
    rw [List.filter_cons_of_pos ha, List.take_succ_cons, filter_take p l i (fun j b hb => by have := h (j + 1) b (by simpa using hb); rw [this]; omega)]
theorem filter_drop {α : Type} (p : α → Bool) : ∀ (l : List α) (i : Nat), (∀ j a, l[j]? = some a → (p a = true ↔ i ≤ j)) → l.filter p = l.drop i
  | [], i, _ => by simp
  | a :: l, 0, h => by
    rw [List.drop_zero]
    refine List.filter_eq_self.2 fun b hb => ?_
    obtain ⟨j, hj⟩ := List.getElem?_of_mem hb
    exact (h j b hj).2 (by omega)
  | a :: l, i + 1, h => by
    have ha : ¬ p a = true := fun hp => by have := (h 0 a rfl).1 hp; omega
    rw [List.filter_cons_of_neg ha, List.drop_succ_cons, filter_drop p l i (fun j b hb => by have := h (j + 1) b (by simpa using hb); rw [this]; omega)]
theorem cmp_same {y x : It} (h : y.D = x.D) : cmpIt y x = Lib.compareBytes y.k x.k := by unfold cmpIt; rw [h, if_pos (cmpB_self _)]
theorem it_at {m : List It} {ps : List PR} (hd : ps.map PR.dat = m.map It.pr) {j : Nat} {y : It} (h : m[j]? = some y) : ∃ p, ps[j]? = some p ∧ p.k = y.k ∧ p.v = y.v := by
  have h1 := congrArg (·[j]?) hd
  simp only [List.getElem?_map, h, Option.map_some] at h1
  cases hp : ps[j]? with
  | none => rw [hp] at h1; simp at h1
  | some p =>
    rw [hp] at h1
    simp only [Option.map_some, Option.some.injEq, PR.dat, It.pr, Prod.mk.injEq] at h1
    exact ⟨p, rfl, h1.1, h1.2⟩
/-- A bucket's items with one more. -/
theorem put_bucket {m : List It} {ps : List PR} {x : It} {i : Nat} {ok : Bool} (hd : ps.map PR.dat = m.map It.pr) (hD : ∀ y ∈ m, y.D = x.D) (hs : ps.Pairwise fun a b => Lib.compareBytes a.k b.k < 0) (hF : FindP ps x.k i ok) :
    putI m x = m.take i ++ x :: m.drop (if ok = true then i + 1 else i) := by
  unfold putI
  have hlow : ∀ j y, m[j]? = some y → (cmpIt y x < 0 ↔ j < i) := by
    intro j y hy
    obtain ⟨p, hp, hk, _⟩ := it_at hd hy
    rw [cmp_same (hD y (List.mem_of_getElem? hy)), ← hk]
    constructor
    · intro h
      refine Nat.lt_of_not_le fun hle => ?_
      have := hF.high j p hp hle
      omega
    · exact hF.low j p hp
  rw [filter_take (ltP x) m i (fun j y hy => by rw [← hlow j y hy]; simp [ltP])]
  congr 2
  refine filter_drop (gtP x) m _ fun j y hy => ?_
  obtain ⟨p, hp, hk, _⟩ := it_at hd hy
  have e : (gtP x y = true) ↔ 0 < Lib.compareBytes p.k x.k := by
    unfold gtP
    rw [decide_eq_true_eq, cmp_same (hD y (List.mem_of_getElem? hy)), ← hk]
  rw [e]
  have hpj := (List.getElem?_eq_some_iff.1 hp)
  obtain ⟨hjl, hje⟩ := hpj
  cases ok
  · rw [if_neg (by decide)]
    constructor
    · intro h
      refine Nat.le_of_not_lt fun hlt => ?_
      have := hF.low j p hp hlt
      omega
    · intro hle
      have h1 := hF.high j p hp hle
      refine Decidable.byContradiction fun hn => ?_
      have h0 : 0 = Lib.compareBytes p.k x.k := by omega
      have hpk : p.k = x.k := (cmpB_eq _ _).1 h0.symm
      by_cases hji : j = i
      · subst hji
        have := hF.hit.2 ⟨p, hp, hpk⟩
        cases this
      · have h2 := List.pairwise_iff_getElem.1 hs i j (by omega) hjl (by omega)
        have h3 := hF.high i _ (List.getElem?_eq_getElem (by omega)) (Nat.le_refl _)
        rw [hje, hpk] at h2
        omega
  · rw [if_pos rfl]
    obtain ⟨q, hq, hqk⟩ := hF.hit.1 rfl
    obtain ⟨hil, hie⟩ := List.getElem?_eq_some_iff.1 hq
    constructor
    · intro h
      refine Nat.lt_of_not_le fun hle => ?_
      by_cases hji : j = i
      · subst hji
        rw [hp] at hq
        cases hq
        rw [hqk, cmpB_self] at h
        omega
      · have := hF.low j p hp (by omega)
        omega
    · intro hlt
      have h2 := List.pairwise_iff_getElem.1 hs i j hil hjl hlt
      rw [hje, hie, hqk] at h2
      rw [cmpB_neg x.k p.k]
      omega
theorem OkI.put {n : Int} {m : List It} {x : It} (h : OkI n m) (hD : x.D = keyD n x.k) (hs : x.k.length ≤ 64 ∧ x.v.length ≤ 256) : OkI n (putI m x) :=
  ⟨putI_sorted h.sorted, fun y hy => by rcases mem_putI hy with rfl | hy; exact hD; exact h.dig y hy, fun y hy => by rcases mem_putI hy with rfl | hy; exact hs; exact h.short y hy⟩
theorem putI_len (m : List It) (x : It) : (putI m x).length ≤ m.length + 1 := by
  unfold putI
  rw [List.length_append, List.length_cons]
  have : (m.filter (ltP x)).length + (m.filter (gtP x)).length ≤ m.length := by
    induction m with
    | nil => simp
    | cons y m ih =>
      have h : ltP x y = true → gtP x y = false := by unfold ltP gtP; intro h; simp at h ⊢; omega
      cases h1 : ltP x y <;> cases h2 : gtP x y <;> simp [List.filter_cons, h1, h2] at * <;> omega
  omega
theorem pairsB_leI : ∀ (ps : List (List UInt8 × List UInt8)), (∀ p ∈ ps, p.1.length ≤ 64 ∧ p.2.length ≤ 256) → (pairsB ps).length ≤ ps.length * 340
  | [], _ => by simp [pairsB]
  | p :: ps, h => by
    have ih := pairsB_leI ps (fun q hq => h q (by simp [hq]))
    have h1 := h p (by simp)
    have u1 := uvarP_len10 (n := p.1.length) (by omega)
    have u2 := uvarP_len10 (n := p.2.length) (by omega)
    have e : pairsB (p :: ps) = (blobP p.1 ++ blobP p.2) ++ pairsB ps := by simp [pairsB]
    rw [e]
    simp only [List.length_append, blobP, List.length_cons]
    omega
theorem OkI.bucket_le {n : Int} {m : List It} {ps : List PR} (h : OkI n m) (hd : ps.map PR.dat = m.map It.pr) (hl : m.length ≤ 1000000000) : (bucketP (ps.map PR.dat)).length + 16 ≤ 140737488355328 := by
  rw [hd]
  have h1 := pairsB_leI (m.map It.pr) (fun q hq => by obtain ⟨y, hy, rfl⟩ := List.mem_map.1 hq; exact h.short y hy)
  rw [List.length_map] at h1
  have u1 := uvarP_len10 (n := m.length) (by omega)
  simp only [bucketP, List.length_cons, List.length_append, List.length_map]
  omega
theorem rank_mono {bm c c' : Nat} (h : c ≤ c') : rankB bm (c : Int) ≤ rankB bm (c' : Int) := by
  rw [rank_nat, rank_nat, ← List.countP_eq_length_filter, ← List.countP_eq_length_filter]
  exact List.countP_mono_left fun j _ hj => by simp at hj ⊢; omega
theorem rank_smono {bm c c' : Nat} (hc : hasB bm (c : Int) = true) (h : c < c') : rankB bm (c : Int) < rankB bm (c' : Int) := by
  rw [hasN, Bool.and_eq_true, decide_eq_true_eq] at hc
  have hm : c ∈ setB bm := mem_setB.2 hc
  have h1 := count_or (fun j => decide (j < c)) (fun j => decide (j = c)) (setB bm) (fun j _ => by simp; omega)
  have h2 : 0 < ((setB bm).filter fun j => decide (j = c)).length := List.length_pos_of_mem (List.mem_filter.2 ⟨hm, by simp⟩)
  have h3 : ((setB bm).filter fun j => decide (j < c) || decide (j = c)).length ≤ ((setB bm).filter fun j => decide (j < c')).length := by
    rw [← List.countP_eq_length_filter, ← List.countP_eq_length_filter]
    exact List.countP_mono_left fun j _ hj => by simp at hj ⊢; omega
  rw [rank_nat, rank_nat]
  omega
theorem single_put {m : List It} {x : It} (h : ∀ y ∈ m, y.D = x.D) : singleB (putI m x) = true ∧ headD (putI m x) = x.D := by
  have h1 : ∀ y ∈ putI m x, y.D = x.D := fun y hy => by rcases mem_putI hy with rfl | hy; rfl; exact h y hy
  have h2 : singleB (putI m x) = true := singleB_iff.2 fun y hy z hz => by rw [h1 y hy, h1 z hz]
  exact ⟨h2, headD_mem h2 (putI_mem_self m x)⟩
theorem single_put_not {m : List It} {x : It} (h : singleB m = false) : singleB (putI m x) = false := by
  cases hs : singleB (putI m x)
  · rfl
  · have := singleB_iff.1 hs
    rw [singleB_iff.2 (fun y hy z hz => by obtain ⟨y', h1, h2⟩ := putI_D (x := x) hy; obtain ⟨z', h3, h4⟩ := putI_D (x := x) hz; rw [← h2, ← h4]; exact this y' h1 z' h3)] at h
    cases h
theorem NodeAt.mk_bk {n : Int} {S : Nat → Prop} {W : World} {f d g : Nat} {M : List It} {D : List UInt8} {pv : Value} {ps : List PR} (hs : singleB M = true) (hS : S g) (hB : Blk W g 220 (vbs D ++ (pv :: vbs (sumR n (bucketP (ps.map PR.dat)))))) (hD : headD M = D) (hp : PairsS S W pv ps) (hd : ps.map PR.dat = M.map It.pr) : NodeAt n S W f d M (bkV g) :=
  (NodeAt.bk hs).2 ⟨g, pv, ps, rfl, ⟨hS, by rw [hD, bkD, ← hd]; exact hB, hp, hd⟩⟩
/-- The children, one of them put anew. -/
theorem kids_set {m : List It} {x : It} {d : Nat} {vs : List Value} {v : Value} {P : List It → Value → Prop} (hm : SortedI m) (hh : hasI m d (digP x.D d) = true) (hk : ∀ c, hasI m d c = true → ∃ y, vs[rankB (bmI m d) (c : Int)]? = some y ∧ P (childI m d c) y) (hv : P (putI (childI m d (digP x.D d)) x) v) :
    bmI (putI m x) d = bmI m d ∧ ∀ c, hasI (putI m x) d c = true → ∃ y, (vs.set (rankB (bmI m d) (digP x.D d : Int)) v)[rankB (bmI (putI m x) d) (c : Int)]? = some y ∧ P (childI (putI m x) d c) y := by
  have hb : hasB (bmI m d) (digP x.D d : Int) = true := by rw [bmI_has, hh, decide_eq_true (digP_lt x.D d)]; rfl
  have e : bmI (putI m x) d = bmI m d := by rw [← with_put hm, withB_same (bmI_lt _ _) hb]
  refine ⟨e, fun c hc => ?_⟩
  rw [e]
  by_cases hcx : digP x.D d = c
  · subst hcx
    obtain ⟨y, hy, _⟩ := hk _ hh
    have := (List.getElem?_eq_some_iff.1 hy).1
    refine ⟨v, by rw [List.getElem?_set_self this], ?_⟩
    rw [child_put_same rfl]
    exact hv
  · rw [has_put hm, decide_eq_false hcx, Bool.or_false] at hc
    obtain ⟨y, hy, hP⟩ := hk c hc
    have hbc : hasB (bmI m d) (c : Int) = true := by rw [bmI_has, hc, decide_eq_true (has_lt hc)]; rfl
    refine ⟨y, ?_, by rw [child_put_other hm hcx]; exact hP⟩
    rw [List.getElem?_set_ne (fun h => hcx (rank_inj hb hbc h))]
    exact hy
theorem kids_ins {m : List It} {x : It} {d : Nat} {vs : List Value} {v : Value} {P : List It → Value → Prop} (hm : SortedI m) (hh : hasI m d (digP x.D d) = false) (hl : vs.length = cntB (bmI m d)) (hk : ∀ c, hasI m d c = true → ∃ y, vs[rankB (bmI m d) (c : Int)]? = some y ∧ P (childI m d c) y) (hv : P [x] v) :
    cntB (bmI (putI m x) d) = cntB (bmI m d) + 1 ∧ ∀ c, hasI (putI m x) d c = true → ∃ y, (vs.take (rankB (bmI m d) (digP x.D d : Int)) ++ v :: vs.drop (rankB (bmI m d) (digP x.D d : Int)))[rankB (bmI (putI m x) d) (c : Int)]? = some y ∧ P (childI (putI m x) d c) y := by
  have hd16 := digP_lt x.D d
  have hb : hasB (bmI m d) (digP x.D d : Int) = false := by rw [bmI_has, hh, decide_eq_true hd16]; rfl
  have hle := rank_le (bmI m d) (digP x.D d : Int)
  have htl : (vs.take (rankB (bmI m d) (digP x.D d : Int))).length = rankB (bmI m d) (digP x.D d : Int) := by rw [List.length_take]; omega
  refine ⟨by rw [← with_put hm, cnt_with hd16 hb], fun c hc => ?_⟩
  rw [← with_put hm, rank_with hd16 hb]
  by_cases hcx : digP x.D d = c
  · subst hcx
    refine ⟨v, ?_, ?_⟩
    · rw [if_neg (by omega), Nat.add_zero, List.getElem?_append_right (by omega), htl, Nat.sub_self]
      rfl
    · rw [child_put_same rfl]
      have e : childI m d (digP x.D d) = [] := by unfold hasI at hh; simpa using hh
      rw [e]
      exact hv
  · rw [has_put hm, decide_eq_false hcx, Bool.or_false] at hc
    obtain ⟨y, hy, hP⟩ := hk c hc
    have hbc : hasB (bmI m d) (c : Int) = true := by rw [bmI_has, hc, decide_eq_true (has_lt hc)]; rfl
    refine ⟨y, ?_, by rw [child_put_other hm hcx]; exact hP⟩
    rcases Nat.lt_or_gt_of_ne hcx with hlt | hgt
    · have := rank_mono (bm := bmI m d) (Nat.le_of_lt hlt)
      rw [if_pos hlt, List.getElem?_append_right (by omega), htl, show rankB (bmI m d) (c : Int) + 1 - rankB (bmI m d) (digP x.D d : Int) = (rankB (bmI m d) (c : Int) - rankB (bmI m d) (digP x.D d : Int)) + 1 from by omega, List.getElem?_cons_succ, List.getElem?_drop, show rankB (bmI m d) (digP x.D d : Int) + (rankB (bmI m d) (c : Int) - rankB (bmI m d) (digP x.D d : Int)) = rankB (bmI m d) (c : Int) from by omega]
      exact hy
    · have := rank_smono hbc hgt
      rw [if_neg (by omega), Nat.add_zero, List.getElem?_append_left (by omega), List.getElem?_take_of_lt this]
      exact hy
/-! ### What lies in memory lies in blocks that there are -/
def SLt (S : Nat → Prop) (w : World) : Nat → Prop := fun b => S b ∧ b < w.heap.size
theorem SlS.lt {S : Nat → Prop} {w : World} {v : Value} {n : Nat} {cells : List Value} (h : SlS S w v n cells) : SlS (SLt S w) w v n cells := by
  obtain ⟨a, c, rfl, hn, hm, h⟩ := h
  refine ⟨a, c, rfl, hn, hm, ?_⟩
  cases cells with
  | nil => exact Or.inl rfl
  | cons x l =>
    rcases h with h | ⟨b, o, rfl, hS, h⟩
    · cases h
    · exact Or.inr ⟨b, o, rfl, ⟨hS, block_lt_of_cell (h 0 x rfl)⟩, h⟩
theorem PairsS.lt {S : Nat → Prop} {w : World} {v : Value} {ps : List PR} (h : PairsS S w v ps) : PairsS (SLt S w) w v ps := ⟨h.1.lt, fun p hp => ⟨(h.2 p hp).1.lt, (h.2 p hp).2.lt⟩⟩
theorem BkIn.inlt {n : Int} {S : Nat → Prop} {w : World} {m : List It} {b : Nat} {pv : Value} {ps : List PR} (h : BkIn n S w m b pv ps) : BkIn n (SLt S w) w m b pv ps := ⟨⟨h.own, h.blk.lt⟩, h.blk, h.prs.lt, h.dat⟩
theorem NodeAt.inlt {n : Int} {S : Nat → Prop} {w : World} : ∀ {f d : Nat} {m : List It} {v : Value}, NodeAt n S w f d m v → NodeAt n (SLt S w) w f d m v
  | 0, d, m, v, h => by
    unfold NodeAt at h ⊢
    obtain ⟨hs, b, pv, ps, e, hb⟩ := h
    exact ⟨hs, b, pv, ps, e, hb.inlt⟩
  | f + 1, d, m, v, h => by
    cases hs : singleB m
    · rw [NodeAt.br hs] at h ⊢
      obtain ⟨b, kv, vs, e, hb, hk⟩ := h
      exact ⟨b, kv, vs, e, ⟨⟨hb.own, hb.blk.lt⟩, hb.blk, hb.kids.lt, hb.one, hb.len⟩, fun c hc => by obtain ⟨x, h1, h2⟩ := hk c hc; exact ⟨x, h1, NodeAt.inlt h2⟩⟩
    · rw [NodeAt.bk hs] at h ⊢
      obtain ⟨b, pv, ps, e, hb⟩ := h
      exact ⟨b, pv, ps, e, hb.inlt⟩
theorem MapAt.inlt {n : Int} {S : Nat → Prop} {w : World} {mv : Value} {m : List It} (h : MapAt n S w mv m) : MapAt n (SLt S w) w mv m := by
  obtain ⟨b, top, e, hS, hB, h1, h2⟩ := h
  exact ⟨b, top, e, ⟨hS, hB.lt⟩, hB, h1, fun hm => (h2 hm).inlt⟩
theorem KeepS.put {S : Nat → Prop} {w w' : World} {g : Nat} {T : TypeId} {l : List Value} (h : Put w w' g T l) (hg : ¬ S g) : KeepS S w w' := fun b hb _ => h.other b (fun e => hg (e ▸ hb))
end Go.Proofs.YthlkfjoibjhaiaaGreatDoor

/-! Hmh -/
namespace Go.Proofs.YthlkfjoibjhaiaaGreatDoor
set_option maxRecDepth 100000
set_option maxHeartbeats 2000000
open Go Go.RowKit
set_option linter.unusedVariables false
set_option linter.unusedSimpArgs false
set_option maxHeartbeats 1000000
attribute [local irreducible] vcT opsT qT vcOp Q1 vcPure vcLoad vcStore ldC ldN ldD grdT grdQ vc vcOps vcQ hT
attribute [local irreducible] sumR sumP shaP keyD bucketP branchP

theorem prc_len (ps : List PR) : (ps.flatMap PR.cells).length = ps.length * 2 := by
  induction ps with
  | nil => rfl
  | cons p ps ih => rw [List.flatMap_cons, List.length_append, ih, List.length_cons]; simp only [PR.cells, List.length_cons, List.length_nil]; omega
theorem PairsAt.one {w : World} {v : Value} {ps : List PR} (h : PairsAt w v ps) : ∀ u ∈ ps.flatMap PR.cells, oneCellV u = true := by
  intro u hu
  obtain ⟨q, hq, hu⟩ := List.mem_flatMap.1 hu
  obtain ⟨hq1, hq2⟩ := h.2 q hq
  obtain ⟨a1, c1, e1⟩ := slv_of hq1
  obtain ⟨a2, c2, e2⟩ := slv_of hq2
  simp only [PR.cells, List.mem_cons, List.not_mem_nil, or_false] at hu
  rcases hu with rfl | rfl
  · rw [e1]; rfl
  · rw [e2]; rfl
theorem PairsS.ins {S : Nat → Prop} {W : World} {base n i j : Nat} {v : Value} {ps : List PR} {p : PR} (hO : Own W base 47 2 v n ((ps.take i ++ p :: ps.drop j).flatMap PR.cells)) (hS : ∀ b, base ≤ b → S b)
    (ho : ∀ q ∈ ps, SlS S W q.kv q.k.length (vbs q.k) ∧ SlS S W q.vv q.v.length (vbs q.v)) (hp : SlS S W p.kv p.k.length (vbs p.k) ∧ SlS S W p.vv p.v.length (vbs p.v)) : PairsS S W v (ps.take i ++ p :: ps.drop j) := by
  have hn : n = (ps.take i ++ p :: ps.drop j).length := by have h1 := hO.1; have h2 := prc_len (ps.take i ++ p :: ps.drop j); omega
  subst hn
  refine ⟨SlS.of_own hO hS, fun q hq => ?_⟩
  rcases List.mem_append.1 hq with hq | hq
  · exact ho q (List.mem_of_mem_take hq)
  · rcases List.mem_cons.1 hq with rfl | hq
    · exact hp
    · exact ho q (List.mem_of_mem_drop hq)
theorem put_ok (n : Int) (hw : widB n = true) (S : Nat → Prop) (b : Nat) (top : Value) (x : It) (ka va : Option Addr) (kn kc vn vc : Nat) (hxD : x.D = keyD n x.k) (hxs : x.k.length ≤ 64 ∧ x.v.length ≤ 256) :
    ∀ (f d : Nat) (m : List It) (at_ : Value) (w : World), WordsAt w 1 → Blk w b 211 [.int .i64 n, top] → AtN n S w f d m at_ → OkI n m → Pre d (x :: m) →
    SlS S w (.slice ka kn kc) x.k.length (vbs x.k) → SlS S w (.slice va vn vc) x.v.length (vbs x.v) → d + f = 64 → m.length ≤ 900000000 → (∀ k, S k → k < w.heap.size) →
    CallK Tryz.prog 131 [.pointer (some ⟨b, 0, none⟩), at_, .int .i64 d, .agg (vbs x.D).toArray, .agg [.slice ka kn kc, .slice va vn vc].toArray].toArray w fun v w' => NodeAt n (fun k => S k ∨ w.heap.size ≤ k) w' f d (putI m x) v ∧ Ext w w' := by
  have hwn := (widB_iff n).1 hw
  obtain ⟨nn, rfl⟩ : ∃ nn : Nat, n = nn := ⟨n.toNat, by omega⟩
  have hxl : x.D.length = 32 := by rw [hxD]; exact keyD_len _ _
  intro f
  induction f using Nat.strongRecOn with
  | ind f ih =>
    intro d m at_ w hW hB hA hO hP hk hv hdf hml hSl
    have hbl := hB.lt
    have hpq : ∀ {W : World} {c : Nat}, Ext w W → w.heap.size ≤ c → Blk W c 47 [.slice ka kn kc, .slice va vn vc] → PairsS (fun k => S k ∨ w.heap.size ≤ k) W (.slice (some ⟨c, 0, none⟩) 1 1) [⟨.slice ka kn kc, .slice va vn vc, x.k, x.v⟩] :=
      fun e hc hB => ⟨SlS.of_blk hB (Or.inr hc) (by simp), fun q hq => by obtain rfl := List.mem_singleton.1 hq; exact ⟨(hk.keep (KeepS.of_ext e)).mono (fun k h => Or.inl h), (hv.keep (KeepS.of_ext e)).mono (fun k h => Or.inl h)⟩⟩
    have hO1 : OkI nn [x] := ⟨by unfold SortedI; simp, fun y hy => by obtain rfl := List.mem_singleton.1 hy; exact hxD, fun y hy => by obtain rfl := List.mem_singleton.1 hy; exact hxs⟩
    have hOM : OkI nn (putI m x) := hO.put hxD hxs
    have hs1 : singleB [x] = true := singleB_iff.2 fun y hy z hz => by rw [List.mem_singleton.1 hy, List.mem_singleton.1 hz]
    rcases hA.cases with ⟨rfl, rfl⟩ | ⟨hne, hs, b4, pv, ps, rfl, hb⟩ | ⟨hs, f', hf', b4, kv4, vs, rfl, hb, hkids⟩
    · refine enterT Tryz.func131 rfl Tryz.ntmps131 Tryz.results131 rfl (by decide) ?_
      repeat (first | exact trivial | refine stpg ?_)
      first | refine newS ?_ | refine newZ ?_
      intro w1 hE1 hz1 hB1
      repeat (first | exact trivial | refine stpg ?_)
      first | refine newS ?_ | refine newZ ?_
      intro w2 hE2 hz2 hB2
      repeat (first | exact trivial | refine stpg ?_)
      refine ⟨rfl, rfl, ?_⟩
      first | refine newS ?_ | refine newZ ?_
      intro w3 hE3 hz3 hB3
      have hps := hpq (Ext.go (b := w3)) (by omega) hB3
      refine (pour_ok nn b top x.D hxl _ _ w3 (hW.ext .go) .go hps.at (hO1.bucket_le rfl (by simp))).mono ?_
      rintro _ w4 ⟨g, rfl, hg, hB4, hE4⟩
      repeat (first | exact trivial | refine stpg ?_)
      exact ⟨NodeAt.mk_bk hs1 (Or.inr (by omega)) hB4 rfl (hps.keep (KeepS.of_ext hE4)) rfl, .go⟩
    · have hB4 := hb.blk
      have hdl := headD_len (n := nn) hne hO.len
      have hhl : (vbs (headD m)).length = 32 := by rw [vbs_len]; exact hdl
      have hpl : ps.length ≤ 900000000 := by have := congrArg List.length hb.dat; simp at this; omega
      have hps := pairs_sorted hb.dat (sorted_keys hO.sorted (singleB_iff.1 hs))
      have hpa := hb.prs.at
      obtain ⟨pa, cp, rfl⟩ := slv_of hpa.1
      refine enterT Tryz.func131 rfl Tryz.ntmps131 Tryz.results131 rfl (by decide) ?_
      repeat (first | exact trivial | refine stpg ?_)
      first | refine newS ?_ | refine newZ ?_
      intro w1 hE1 hz1 hB1
      repeat (first | exact trivial | refine stpg ?_)
      first | refine newS ?_ | refine newZ ?_
      intro w2 hE2 hz2 hB2
      repeat (first | exact trivial | refine stpg ?_)
      refine ldNg (m := vbs (headD m)) (hm := by rw [List.drop_zero, List.take_append_of_le_length (by omega), vbs_tk hdl]) ?_
      repeat (first | exact trivial | refine stpg ?_)
      refine eqd_lit _ _ _ _ _ _ Tryz.underlying5 c5 hdl hxl ?_
      by_cases hdx : headD m = x.D
      · rw [decide_eq_true hdx]
        obtain ⟨i, ok, hF⟩ := find_ex x.k hps
        have hDx : ∀ y ∈ m, y.D = x.D := fun y hy => by rw [← headD_mem hs hy]; exact hdx
        have hput := put_bucket hb.dat hDx hps hF
        have hsp := single_put (x := x) hDx
        repeat (first | exact trivial | refine stpg ?_)
        intro w3 hE3
        have hz3 := hE3.size
        repeat (first | exact trivial | refine stpg ?_)
        refine ldCg (hv := by rw [List.getElem?_append_right (by omega), hhl]; rfl) ?_
        repeat (first | exact trivial | refine stpg ?_)
        refine qcall (.tuple [.int .i64 (i : Nat), .bool ok].toArray) (fun w' hw' => (find_ok ps x.k _ _ w' (hpa.ext .go) (hk.sl.ext .go) hps (by omega)).mono ?_) ?_
        · rintro _ w'' ⟨i', ok', rfl, hF', hE'⟩
          obtain ⟨rfl, rfl⟩ := hF'.uniq hF
          exact ⟨rfl, hE'⟩
        repeat (first | exact trivial | refine stpg ?_)
        intro w4 hE4
        have hz4 := hE4.size
        repeat (first | exact trivial | refine stpg ?_)
        refine ldCg (hv := by rw [List.getElem?_append_right (by omega), hhl]; rfl) ?_
        repeat (first | exact trivial | refine stpg ?_)
        refine (ClnP_ok _ ps.length _ w4 (hpa.1.ext .go) (prc_len ps) hpa.one (by omega)).mono ?_
        rintro v5 w5 ⟨hO5, hE5⟩
        have hz5 := hE5.size
        obtain rfl | rfl : ok = true ∨ ok = false := by cases ok <;> simp
        · obtain ⟨q, hq, hqk⟩ := hF.hit.1 rfl
          obtain ⟨hil, hie⟩ := List.getElem?_eq_some_iff.1 hq
          obtain ⟨g, cap, rest, rfl, hg, hBg, hnc, hcm, hln⟩ := hO5.open (by omega)
          have hsp1 : ps.flatMap PR.cells = (ps.take i).flatMap PR.cells ++ (q.cells ++ (ps.drop (i + 1)).flatMap PR.cells) := by
            have h1 : ps = ps.take i ++ (q :: ps.drop (i + 1)) := by rw [← hie]; simp
            have h2 := congrArg (List.flatMap PR.cells) h1
            rwa [List.flatMap_append, List.flatMap_cons] at h2
          have hrl : rest.length = (cap - ps.length) * 2 := by rw [List.length_append, prc_len] at hln; omega
          have htl : ((ps.take i).flatMap PR.cells).length = i * 2 := by rw [prc_len, List.length_take]; omega
          rw [hsp1, List.append_assoc, List.append_assoc] at hBg
          rw [if_pos rfl] at hput
          repeat (first | exact trivial | refine stpg ?_)
          refine stSeg hBg htl (vs := [.slice ka kn kc, .slice va vn vc]) rfl (by rw [c47]; decide) (by rw [c47]; rfl) rfl (by simp [oneCellV]) (fun w6 hP6 => ?_)
          have hz6 := hP6.size
          have hB6 := hP6.blk
          have hBe : (ps.take i).flatMap PR.cells ++ ([.slice ka kn kc, .slice va vn vc] ++ ((ps.drop (i + 1)).flatMap PR.cells ++ rest)) = (ps.take i ++ (⟨.slice ka kn kc, .slice va vn vc, x.k, x.v⟩ : PR) :: ps.drop (i + 1)).flatMap PR.cells ++ rest := by
            simp [PR.cells]
          rw [hBe] at hB6
          have hO6 := own_mk (sz := 2) hB6 hg (n := ps.length) (by rw [prc_len, List.length_append, List.length_cons, List.length_take, List.length_drop]; omega) hrl hnc hcm
          have hK6 : KeepS S w w6 := KeepS.of_ext Ext.go
          have hps6 := PairsS.ins (S := fun k => S k ∨ w.heap.size ≤ k) hO6 (fun k h => Or.inr (by omega)) (fun q hq => ⟨((hb.prs.2 q hq).1.keep hK6).mono (fun k h => Or.inl h), ((hb.prs.2 q hq).2.keep hK6).mono (fun k h => Or.inl h)⟩) ⟨(hk.keep hK6).mono (fun k h => Or.inl h), (hv.keep hK6).mono (fun k h => Or.inl h)⟩
          have hdat : (ps.take i ++ (⟨.slice ka kn kc, .slice va vn vc, x.k, x.v⟩ : PR) :: ps.drop (i + 1)).map PR.dat = (putI m x).map It.pr := by
            rw [hput, List.map_append, List.map_append, List.map_cons, List.map_cons, List.map_take, List.map_take, List.map_drop, List.map_drop, hb.dat]
            rfl
          repeat (first | exact trivial | refine stpg ?_)
          refine (pour_ok nn b top x.D hxl _ _ w6 (hW.ext .go) .go hps6.at (hOM.bucket_le hdat (by have := putI_len m x; omega))).mono ?_
          rintro _ w7 ⟨g7, rfl, hg7, hB7, hE7⟩
          repeat (first | exact trivial | refine stpg ?_)
          exact ⟨NodeAt.mk_bk hsp.1 (Or.inr (by omega)) hB7 hsp.2 (hps6.keep (KeepS.of_ext hE7)) hdat, .go⟩
        · rw [if_neg (by decide)] at hput
          have hil := hF.le
          have hsp1 : ps.flatMap PR.cells = (ps.take i).flatMap PR.cells ++ (ps.drop i).flatMap PR.cells := by rw [← List.flatMap_append, List.take_append_drop]
          obtain ⟨a5, c5, rfl⟩ := own_slice hO5
          repeat (first | exact trivial | refine stpg ?_)
          refine ⟨rfl, rfl, ?_⟩
          first | refine newS ?_ | refine newZ ?_
          intro w6 hE6 hz6 hB6
          have htop := hO5.top
          rw [hsp1] at hO5
          refine (InsP_ok _ _ [.slice ka kn kc, .slice va vn vc] i ps.length (by rw [prc_len, List.length_take]; omega) (by rw [prc_len, List.length_drop]) hil rfl (by simp [oneCellV]) (fun u hu => hpa.one u (by rw [hsp1]; exact List.mem_append.2 (Or.inr hu))) _ w4.heap.size w5.heap.size w6 (hO5.ext hE6) (by omega) .go (fun h => by have := htop _ h; omega) (by omega)).mono ?_
          rintro v7 w7 ⟨hO7, hE7, _⟩
          have hz7 := hE7.size
          have hBe : (ps.take i).flatMap PR.cells ++ ([.slice ka kn kc, .slice va vn vc] ++ (ps.drop i).flatMap PR.cells) = (ps.take i ++ (⟨.slice ka kn kc, .slice va vn vc, x.k, x.v⟩ : PR) :: ps.drop i).flatMap PR.cells := by
            simp [PR.cells]
          rw [hBe] at hO7
          have hK7 : KeepS S w w7 := KeepS.of_ext Ext.go
          have hps7 := PairsS.ins (S := fun k => S k ∨ w.heap.size ≤ k) hO7 (fun k h => Or.inr (by omega)) (fun q hq => ⟨((hb.prs.2 q hq).1.keep hK7).mono (fun k h => Or.inl h), ((hb.prs.2 q hq).2.keep hK7).mono (fun k h => Or.inl h)⟩) ⟨(hk.keep hK7).mono (fun k h => Or.inl h), (hv.keep hK7).mono (fun k h => Or.inl h)⟩
          have hdat : (ps.take i ++ (⟨.slice ka kn kc, .slice va vn vc, x.k, x.v⟩ : PR) :: ps.drop i).map PR.dat = (putI m x).map It.pr := by
            rw [hput, List.map_append, List.map_append, List.map_cons, List.map_cons, List.map_take, List.map_take, List.map_drop, List.map_drop, hb.dat]
            rfl
          obtain ⟨a7, c7, rfl⟩ := own_slice hO7
          repeat (first | exact trivial | refine stpg ?_)
          refine (pour_ok nn b top x.D hxl _ _ w7 (hW.ext .go) .go hps7.at (hOM.bucket_le hdat (by have := putI_len m x; omega))).mono ?_
          rintro _ w8 ⟨g8, rfl, hg8, hB8, hE8⟩
          repeat (first | exact trivial | refine stpg ?_)
          exact ⟨NodeAt.mk_bk hsp.1 (Or.inr (by omega)) hB8 hsp.2 (hps7.keep (KeepS.of_ext hE8)) hdat, .go⟩
      · rw [decide_eq_false hdx]
        repeat (first | exact trivial | refine stpg ?_)
        intro w3 hE3
        have hz3 := hE3.size
        repeat (first | exact trivial | refine stpg ?_)
        refine ⟨rfl, rfl, ?_⟩
        first | refine newS ?_ | refine newZ ?_
        intro w4 hE4 hz4 hB4
        have hpsx := hpq (Ext.go (b := w4)) (by omega) hB4
        refine (pour_ok nn b top x.D hxl _ _ w4 (hW.ext .go) .go hpsx.at (hO1.bucket_le rfl (by simp))).mono ?_
        rintro _ w5 ⟨g, rfl, hg, hB5, hE5⟩
        have hz5 := hE5.size
        have hK5 : KeepS S w w5 := KeepS.of_ext Ext.go
        have hbx : BkIn nn (fun k => S k ∨ w.heap.size ≤ k) w5 [x] g _ _ := ⟨Or.inr (by omega), hB5, hpsx.keep (KeepS.of_ext hE5), rfl⟩
        have hbm := (hb.keep hK5).mono (S' := fun k => S k ∨ w.heap.size ≤ k) (fun k h => Or.inl h)
        have hmem : ∀ y, y ∈ putI m x ↔ y ∈ m ∨ y ∈ [x] := by
          intro y
          constructor
          · intro h
            rcases mem_putI h with rfl | h
            · exact Or.inr (by simp)
            · exact Or.inl h
          · rintro (h | h)
            · refine putI_mem_old h fun h0 => hdx ?_
              rw [headD_mem hs h]
              exact ((cmpIt_eq y x).1 h0).1
            · rw [List.mem_singleton.1 h]
              exact putI_mem_self m x
        repeat (first | exact trivial | refine stpg ?_)
        refine (join_ok nn hw _ b top f d m [x] (putI m x) b4 g _ _ _ _ w5 (hW.ext .go) .go hbm hbx hne (by simp) hs hs1 hO.sorted hO1.sorted hOM hmem hdx (hP.sub fun y hy => by rcases mem_putI hy with rfl | hy; exact List.mem_cons_self; exact List.mem_cons_of_mem _ hy) hdf (by have := putI_len m x; omega)).mono ?_
        rintro v6 w6 ⟨hN6, hE6⟩
        obtain ⟨t6, u6, rfl⟩ := hN6.iface
        repeat (first | exact trivial | refine stpg ?_)
        exact ⟨hN6.mono (fun k h => h.elim id (fun h => Or.inr (by omega))), .go⟩
    · have hB4 := hb.blk
      have hb4l := hB4.lt
      have hbm := bmI_lt m d
      have hPm : Pre d m := hP.sub fun y hy => List.mem_cons_of_mem _ hy
      have hPM : Pre d (putI m x) := hP.sub fun y hy => by rcases mem_putI hy with rfl | hy; exact List.mem_cons_self; exact List.mem_cons_of_mem _ hy
      have hdn := br_depth hs hPm (hO.form hw)
      have hfx : formB nn x.D = true := by rw [hxD]; unfold keyD; exact form_sumR nn _ hw
      have hat := atP_dig (by omega) (by omega) hxl hfx hdn
      have hd16 := digP_lt x.D d
      have hkv := hb.kids
      obtain ⟨qa, qc, rfl⟩ := slv_of hkv.sl
      have hvl := hb.len
      have hc16 := cnt_le (bmI m d)
      have hrle := rank_le (bmI m d) (digP x.D d : Int)
      have hsM := single_put_not (x := x) hs
      have hwith := with_put hO.sorted x d
      refine enterT Tryz.func131 rfl Tryz.ntmps131 Tryz.results131 rfl (by decide) ?_
      repeat (first | exact trivial | refine stpg ?_)
      first | refine newS ?_ | refine newZ ?_
      intro w1 hE1 hz1 hB1
      repeat (first | exact trivial | refine stpg ?_)
      first | refine newS ?_ | refine newZ ?_
      intro w2 hE2 hz2 hB2
      repeat (first | exact trivial | refine stpg ?_)
      refine (digit_hamt_ok nn b top x.D hxl d w2 .go).mono ?_
      rintro _ w3 ⟨rfl, hE3⟩
      have hz3 := hE3.size
      rw [hat]
      repeat (first | exact trivial | refine stpg ?_)
      refine (Rank_ok (bmI m d) hbm (digP x.D d) w3).mono ?_
      rintro _ w4 ⟨rfl, hE4⟩
      have hz4 := hE4.size
      repeat (first | exact trivial | refine stpg ?_)
      refine (ClnN_ok vs vs.length _ w4 (hkv.sl.ext .go) (by omega) hb.one (by omega)).mono ?_
      rintro v5 w5 ⟨hO5, hE5⟩
      have hz5 := hE5.size
      repeat (first | exact trivial | refine stpg ?_)
      refine (Has_ok (bmI m d) hbm (digP x.D d) w5).mono ?_
      rintro _ w6 ⟨rfl, hE6⟩
      have hz6 := hE6.size
      rw [bmI_has, decide_eq_true hd16, Bool.true_and]
      obtain ⟨a5, c5, rfl⟩ := own_slice hO5
      cases hh : hasI m d (digP x.D d)
      · repeat (first | exact trivial | refine stpg ?_)
        refine ⟨rfl, rfl, ?_⟩
        first | refine newS ?_ | refine newZ ?_
        intro w7 hE7 hz7 hB7
        have hpsx := hpq (Ext.go (b := w7)) (by omega) hB7
        refine (pour_ok nn b top x.D hxl _ _ w7 (hW.ext .go) .go hpsx.at (hO1.bucket_le rfl (by simp))).mono ?_
        rintro _ w8 ⟨g, rfl, hg, hB8, hE8⟩
        have hz8 := hE8.size
        repeat (first | exact trivial | refine stpg ?_)
        refine ⟨rfl, rfl, ?_⟩
        first | refine newS ?_ | refine newZ ?_
        intro w9 hE9 hz9 hB9
        have hB9' : Blk w9 w8.heap.size 209 [bkV g] := hB9
        have htop := hO5.top
        rw [show vs = vs.take (rankB (bmI m d) (digP x.D d : Int)) ++ vs.drop (rankB (bmI m d) (digP x.D d : Int)) from (List.take_append_drop _ _).symm, List.take_append_drop] at hO5
        have hO9 : Own w9 w4.heap.size 209 1 (.slice a5 vs.length c5) vs.length (vs.take (rankB (bmI m d) (digP x.D d : Int)) ++ vs.drop (rankB (bmI m d) (digP x.D d : Int))) := by rw [List.take_append_drop]; exact hO5.ext Ext.go
        refine (InsN_ok _ _ [bkV g] (rankB (bmI m d) (digP x.D d : Int)) vs.length (by rw [List.length_take]; omega) (by rw [List.length_drop]; omega) (by omega) rfl (by simp [oneCellV]) (fun u hu => hb.one u (List.mem_of_mem_drop hu)) _ w4.heap.size w8.heap.size w9 hO9 (by omega) hB9' (fun h => by have := htop _ h; omega) (by omega)).mono ?_
        rintro v10 w10 ⟨hO10, hE10, hY10⟩
        have hz10 := hE10.size
        obtain ⟨a10, c10, rfl⟩ := own_slice hO10
        repeat (first | exact trivial | refine stpg ?_)
        refine (With_ok (bmI m d) hbm (digP x.D d) w10).mono ?_
        rintro _ w11 ⟨rfl, hE11⟩
        have hz11 := hE11.size
        rw [hwith]
        repeat (first | exact trivial | refine stpg ?_)
        have hK11 : KeepS S w w11 := KeepS.of_ext Ext.go
        have hNx : NodeAt nn (fun k => S k ∨ w.heap.size ≤ k) w11 f' (d + 1) [x] (bkV g) := NodeAt.mk_bk hs1 (Or.inr (by omega)) ((hY10 _ _ _ (fun h => by have := htop _ h; omega) (hB8.ext hE9)).ext hE11) rfl (hpq Ext.go (by omega) ((hY10 _ _ _ (fun h => by have := htop _ h; omega) (Blk.go (h := hB7))).ext hE11)) rfl
        have hvs1 : (vs.take (rankB (bmI m d) (digP x.D d : Int)) ++ bkV g :: vs.drop (rankB (bmI m d) (digP x.D d : Int))).length = vs.length + 1 := by rw [List.length_append, List.length_cons, List.length_take, List.length_drop]; omega
        obtain ⟨hcn, hkk⟩ := kids_ins (P := fun l y => NodeAt nn (fun k => S k ∨ w.heap.size ≤ k) w11 f' (d + 1) l y) hO.sorted hh hvl (fun c hc => by obtain ⟨y, h1, h2⟩ := hkids c hc; exact ⟨y, h1, (h2.keep hK11).mono (fun k h => Or.inl h)⟩) hNx
        have h1v : ∀ u ∈ vs.take (rankB (bmI m d) (digP x.D d : Int)) ++ bkV g :: vs.drop (rankB (bmI m d) (digP x.D d : Int)), oneCellV u = true := by
          intro u hu
          rcases List.mem_append.1 hu with hu | hu
          · exact hb.one u (List.mem_of_mem_take hu)
          · rcases List.mem_cons.1 hu with rfl | hu
            · rfl
            · exact hb.one u (List.mem_of_mem_drop hu)
        have hO11 : Own w11 w4.heap.size 209 1 (.slice a10 (vs.length + 1) c10) (vs.length + 1) (vs.take (rankB (bmI m d) (digP x.D d : Int)) ++ bkV g :: vs.drop (rankB (bmI m d) (digP x.D d : Int))) := hO10.ext hE11
        generalize vs.take (rankB (bmI m d) (digP x.D d : Int)) ++ bkV g :: vs.drop (rankB (bmI m d) (digP x.D d : Int)) = us at *
        rw [← hvs1] at hO11 ⊢
        refine (fork_ok nn hw _ f' d b top _ us (putI m x) w11 (hW.ext .go) .go (SlC.of_own hO11) h1v (by omega) hkk hOM.sorted hPM (by omega) (by have := putI_len m x; omega)).mono ?_
        rintro _ w12 ⟨g12, rfl, hg12, hB12, hE12⟩
        repeat (first | exact trivial | refine stpg ?_)
        refine ⟨?_, .go⟩
        rw [hf']
        exact NodeAt.mk_br hsM (Or.inr (by omega)) hB12 (SlS.of_own (hO11.ext hE12) (fun k h => Or.inr (by omega))) h1v (by omega) (fun c hc => by obtain ⟨y, h1, h2⟩ := hkk c hc; exact ⟨y, h1, h2.ext hE12⟩)
      · obtain ⟨y, hy, hNy⟩ := hkids _ hh
        have hrl := (List.getElem?_eq_some_iff.1 hy).1
        obtain ⟨g, cap, rest, hge, hg, hBg, hnc, hcm, hln⟩ := hO5.open (by omega)
        obtain ⟨rfl, rfl⟩ : a5 = some ⟨g, 0, none⟩ ∧ c5 = cap := by cases hge; exact ⟨rfl, rfl⟩
        repeat (first | exact trivial | refine stpg ?_)
        refine drawX (.of [0, 1, 2, 3, 4, 5, 6, 7, 8, 9, 10, 11, 12, 13]) mixed (by decide +kernel) (fun w7 hE7 hz7 => ?_)
        repeat (first | exact trivial | refine stpg ?_)
        refine ldSg (v := y) ?_ (by intro w' hw'; refine stp ?_; exact ldCg rfl (hv := by rw [List.getElem?_append_left (by omega)]; exact hy))
        repeat (first | exact trivial | refine stpg ?_)
        rw [show IntKind.i64.wrap ((d : Int) + 1) = ((d + 1 : Nat) : Int) from by rw [w64 (by omega) (by omega)]; omega]
        have hK7 : KeepS S w w7 := KeepS.of_ext Ext.go
        have hcl : (childI m d (digP x.D d)).length ≤ m.length := List.length_filter_le _ _
        have hPc : Pre (d + 1) (x :: childI m d (digP x.D d)) := by
          have h1 := hP.child (digP x.D d)
          unfold childI at h1 ⊢
          rwa [List.filter_cons_of_pos (by simp)] at h1
        refine (ih f' (by omega) (d + 1) (childI m d (digP x.D d)) y w7 (hW.ext .go) .go ⟨fun h => absurd h (child_ne hh), fun _ => hNy.keep hK7⟩ (hO.child _ _) hPc (hk.keep hK7) (hv.keep hK7) (by omega) (by omega) (fun k h => by have := hSl k h; omega)).mono ?_
        rintro v8 w8 ⟨hN8, hE8⟩
        have hz8 := hE8.size
        refine toldX ?_
        obtain ⟨t8, u8, rfl⟩ := hN8.iface
        repeat (first | exact trivial | refine stpg ?_)
        have hsp : vs ++ rest = vs.take (rankB (bmI m d) (digP x.D d : Int)) ++ (y :: (vs.drop (rankB (bmI m d) (digP x.D d : Int) + 1) ++ rest)) := by
          have h1 := (List.getElem?_eq_some_iff.1 hy).2
          have h2 : vs = vs.take (rankB (bmI m d) (digP x.D d : Int)) ++ (y :: vs.drop (rankB (bmI m d) (digP x.D d : Int) + 1)) := by rw [← h1]; simp
          rw [← List.cons_append, ← List.append_assoc, ← h2]
        have hBg8 : Blk w8 g 209 (vs.take (rankB (bmI m d) (digP x.D d : Int)) ++ (y :: (vs.drop (rankB (bmI m d) (digP x.D d : Int) + 1) ++ rest))) := by rw [← hsp]; exact Blk.go
        refine stAt c209 hBg8 (by rw [List.length_take]; omega) rfl rfl (fun w9 hP9 => ?_)
        have hz9 := hP9.size
        have hB9 := hP9.blk
        have hse : vs.take (rankB (bmI m d) (digP x.D d : Int)) ++ (.iface t8 u8 :: (vs.drop (rankB (bmI m d) (digP x.D d : Int) + 1) ++ rest)) = vs.set (rankB (bmI m d) (digP x.D d : Int)) (.iface t8 u8) ++ rest := by
          rw [List.set_eq_take_append_cons_drop, if_pos hrl, List.append_assoc]
          rfl
        rw [hse] at hB9
        refine toldZ ?_
        repeat (first | exact trivial | refine stpg ?_)
        refine (With_ok (bmI m d) hbm (digP x.D d) w9).mono ?_
        rintro _ w10 ⟨rfl, hE10⟩
        have hz10 := hE10.size
        rw [hwith]
        repeat (first | exact trivial | refine stpg ?_)
        have hK89 : KeepS (fun k => S k ∨ w7.heap.size ≤ k) w8 w9 := KeepS.put hP9 (fun h => by rcases h with h | h; have := hSl g h; omega; have := hBg.lt; omega)
        have hN10 : NodeAt nn (fun k => S k ∨ w.heap.size ≤ k) w10 f' (d + 1) (putI (childI m d (digP x.D d)) x) (.iface t8 u8) := ((hN8.keep hK89).keep (KeepS.of_ext hE10)).mono (fun k h => h.imp id (fun h => by omega))
        have hK10 : KeepS S w w10 := KeepS.of_ext Ext.go
        obtain ⟨hbe, hkk⟩ := kids_set (P := fun l y => NodeAt nn (fun k => S k ∨ w.heap.size ≤ k) w10 f' (d + 1) l y) hO.sorted hh (fun c hc => by obtain ⟨y, h1, h2⟩ := hkids c hc; exact ⟨y, h1, (h2.keep hK10).mono (fun k h => Or.inl h)⟩) hN10
        have h1v : ∀ u ∈ vs.set (rankB (bmI m d) (digP x.D d : Int)) (.iface t8 u8), oneCellV u = true := by
          intro u hu
          rcases List.mem_or_eq_of_mem_set hu with hu | rfl
          · exact hb.one u hu
          · rfl
        have hul : (vs.set (rankB (bmI m d) (digP x.D d : Int)) (.iface t8 u8)).length = vs.length := List.length_set
        have hO10 : Own w10 w4.heap.size 209 1 (.slice (some ⟨g, 0, none⟩) vs.length c5) vs.length (vs.set (rankB (bmI m d) (digP x.D d : Int)) (.iface t8 u8)) := own_mk (hB9.ext hE10) hg (by omega) (by rw [List.length_append] at hln; omega) hnc hcm
        generalize vs.set (rankB (bmI m d) (digP x.D d : Int)) (.iface t8 u8) = us at *
        rw [← hul] at hO10 ⊢
        refine (fork_ok nn hw _ f' d b top _ us (putI m x) w10 (hW.ext .go) .go (SlC.of_own hO10) h1v (by rw [hul, hvl, hbe]) hkk hOM.sorted hPM (by omega) (by have := putI_len m x; omega)).mono ?_
        rintro _ w12 ⟨g12, rfl, hg12, hB12, hE12⟩
        repeat (first | exact trivial | refine stpg ?_)
        refine ⟨?_, .go⟩
        rw [hf']
        exact NodeAt.mk_br hsM (Or.inr (by omega)) hB12 (SlS.of_own (hO10.ext hE12) (fun k h => Or.inr (by omega))) h1v (by rw [hul, hvl, hbe]) (fun c hc => by obtain ⟨y, h1, h2⟩ := hkk c hc; exact ⟨y, h1, h2.ext hE12⟩)
theorem Put_hamt_ok (n : Int) (hw : widB n = true) (S : Nat → Prop) (mv kv vv : Value) (m : List It) (key val : List UInt8) (w : World) (hW : WordsAt w 1) (h : MapAt n S w mv m) (hO : OkI n m) (hk : SlB w kv key) (hv : SlB w vv val) (hml : m.length ≤ 900000000) :
    CallK Tryz.prog 39 [mv, kv, vv].toArray w fun r w' => (∃ rv, r = .tuple [rv, .int .i64 (if 64 < key.length ∨ 256 < val.length then 2 else 0 : Nat)].toArray ∧
      (64 < key.length ∨ 256 < val.length → rv = .pointer none) ∧ (¬ (64 < key.length ∨ 256 < val.length) → MapAt n (fun k => S k ∨ w.heap.size ≤ k) w' rv (putI m ⟨keyD n key, key, val⟩))) ∧ Ext w w' := by
  obtain ⟨b, top, rfl, hS, hB, hT1, hT2⟩ := h
  have hwn := (widB_iff n).1 hw
  obtain ⟨nn, rfl⟩ : ∃ nn : Nat, n = nn := ⟨n.toNat, by omega⟩
  obtain ⟨va, vc, rfl⟩ := slv_of hv
  refine enterT Tryz.func39 rfl Tryz.ntmps39 Tryz.results39 rfl (by decide) ?_
  repeat (first | exact trivial | refine stpg ?_)
  refine (check_hamt_ok nn b top key kv w hW hB hk hw).mono ?_
  rintro _ w1 ⟨D, hDl, rfl, hD, hE1⟩
  have hz1 := hE1.size
  have hbl := hB.lt
  by_cases h64 : 64 < key.length
  · rw [if_pos h64, if_pos (Or.inl h64)]
    repeat (first | exact trivial | refine stpg ?_)
    first | refine newS ?_ | refine newZ ?_
    intro w2 hE2 hz2 hB2
    repeat (first | exact trivial | refine stpg ?_)
    exact ⟨⟨_, rfl, fun _ => rfl, fun h => absurd (Or.inl h64) h⟩, .go⟩
  obtain rfl := hD (by omega)
  rw [if_neg h64]
  repeat (first | exact trivial | refine stpg ?_)
  first | refine newS ?_ | refine newZ ?_
  intro w2 hE2 hz2 hB2
  repeat (first | exact trivial | refine stpg ?_)
  refine ⟨fun hlt => ?_, fun hge => ?_⟩
  · have hc : 64 < key.length ∨ 256 < val.length := Or.inr (by omega)
    rw [if_pos hc]
    repeat (first | exact trivial | refine stpg ?_)
    exact ⟨⟨_, rfl, fun _ => rfl, fun h => absurd hc h⟩, .go⟩
  · have hc : ¬ (64 < key.length ∨ 256 < val.length) := by omega
    rw [if_neg hc]
    refine drawX (.of [0, 1, 2, 3, 4, 5, 6, 7, 8, 9, 10, 11, 12, 13, 14, 15, 16, 17]) mixed (by decide +kernel) (fun w3 hE3 hz3 => ?_)
    repeat (first | exact trivial | refine stpg ?_)
    refine (twin_hamt_ok key val kv _ w3 (hk.ext .go) (hv.ext .go) (by omega) (by omega)).mono ?_
    rintro _ w4 ⟨ka, kn, kc, va', vn, vc', rfl, hRB, hE4⟩
    have hz4 := hE4.size
    obtain ⟨mid, hm1, hQ1, mid2, hm2, hQ2, hm3⟩ := hRB
    have hkl : kn = key.length := by obtain ⟨a', c', e⟩ := own_slice hQ1.own; cases e; rfl
    have hvl : vn = val.length := by obtain ⟨a', c', e⟩ := own_slice hQ2.own; cases e; rfl
    subst hkl hvl
    refine toldX ?_
    repeat (first | exact trivial | refine stpg ?_)
    have hK4 : KeepS S w w4 := KeepS.of_ext Ext.go
    have hks : SlS (SLt (fun k => S k ∨ w.heap.size ≤ k) w4) w4 (.slice ka key.length kc) key.length (vbs key) := (SlS.of_own hQ1.own (fun k h => Or.inr (by omega))).lt
    have hvs : SlS (SLt (fun k => S k ∨ w.heap.size ≤ k) w4) w4 (.slice va' val.length vc') val.length (vbs val) := (SlS.of_own hQ2.own (fun k h => Or.inr (by omega))).lt
    refine (put_ok nn hw (SLt (fun k => S k ∨ w.heap.size ≤ k) w4) b top ⟨keyD nn key, key, val⟩ ka va' key.length kc val.length vc' rfl ⟨by simp only; omega, by simp only; omega⟩ 64 0 m top w4 (hW.ext .go) .go
      ⟨hT1, fun hm => (((hT2 hm).keep hK4).mono (fun k h => Or.inl h)).inlt⟩ hO ⟨fun y hy => by rcases List.mem_cons.1 hy with rfl | hy; exact keyD_len _ _; exact hO.len y hy, fun _ _ _ _ j hj => by omega⟩ hks hvs rfl hml (fun k h => h.2)).mono ?_
    rintro v5 w5 ⟨hN5, hE5⟩
    have hz5 := hE5.size
    obtain ⟨t5, u5, rfl⟩ := hN5.iface
    refine toldX ?_
    repeat (first | exact trivial | refine stpg ?_)
    refine bldC [.int .i64 nn, .iface t5 u5] (by kernel_rfl) ?_
    repeat (first | exact trivial | refine stpg ?_)
    first | refine newS ?_ | refine newZ ?_
    intro w6 hE6 hz6 hB6
    refine toldX ?_
    repeat (first | exact trivial | refine stpg ?_)
    refine ⟨⟨_, rfl, fun h => absurd h hc, fun _ => ?_⟩, .go⟩
    exact ⟨w5.heap.size, .iface t5 u5, rfl, Or.inr (by omega), hB6, fun he => absurd (he ▸ putI_mem_self m _) (by simp), fun _ => (hN5.ext hE6).mono (fun k h => h.elim (fun h => h.1) (fun h => Or.inr (by omega)))⟩
end Go.Proofs.YthlkfjoibjhaiaaGreatDoor

/-! Rfa -/
namespace Go.Proofs.YthlkfjoibjhaiaaGreatDoor
set_option maxRecDepth 100000
set_option maxHeartbeats 2000000
open Go Go.RowKit
set_option linter.unusedVariables false
set_option linter.unusedSimpArgs false
attribute [local irreducible] vcT opsT qT vcOp Q1 vcPure vcLoad vcStore ldC ldN ldD grdT grdQ vc vcOps vcQ hT
attribute [local irreducible] sumR sumP shaP keyD bucketP branchP

/-! ### less, in plain Lean -/
def lessI : List UInt8 → List UInt8 → Int
  | x :: xs, y :: ys => if x = y then lessI xs ys else (x.toNat : Int) - y.toNat
  | xs, ys => (xs.length : Int) - ys.length
theorem lessI_cmp : ∀ xs ys, (lessI xs ys < 0 ↔ Lib.compareBytes xs ys < 0) ∧ (lessI xs ys = 0 ↔ Lib.compareBytes xs ys = 0)
  | [], [] => by simp [lessI, Lib.compareBytes]
  | [], y :: ys => by simp [lessI, Lib.compareBytes]; omega
  | x :: xs, [] => by simp [lessI, Lib.compareBytes]; omega
  | x :: xs, y :: ys => by
    have ih := lessI_cmp xs ys
    unfold lessI Lib.compareBytes
    by_cases h : x = y
    · subst h
      rw [if_pos rfl, if_neg (u8_irr x), if_neg (u8_irr x)]
      exact ih
    · rw [if_neg h]
      by_cases h1 : x < y
      · rw [if_pos h1]
        have := (u8_lt x y).2 h1
        constructor <;> constructor <;> intro _ <;> omega
      · by_cases h2 : y < x
        · rw [if_neg h1, if_pos h2]
          have := (u8_lt y x).2 h2
          constructor <;> constructor <;> intro _ <;> omega
        · exact absurd (u8_eq h1 h2) h
theorem lessI_drop : ∀ (k : Nat) (xs ys : List UInt8), k ≤ xs.length → k ≤ ys.length → xs.take k = ys.take k → lessI xs ys = lessI (xs.drop k) (ys.drop k)
  | 0, _, _, _, _, _ => rfl
  | k + 1, [], _, h, _, _ => by simp at h
  | k + 1, _ :: _, [], _, h, _ => by simp at h
  | k + 1, x :: xs, y :: ys, h1, h2, h => by
    simp only [List.take_succ_cons, List.cons.injEq] at h
    obtain ⟨rfl, h⟩ := h
    simp only [List.length_cons, Nat.add_le_add_iff_right] at h1 h2
    rw [List.drop_succ_cons, List.drop_succ_cons, lessI, if_pos rfl]
    exact lessI_drop k xs ys h1 h2 h
theorem lessI_end {xs ys : List UInt8} (h : xs = [] ∨ ys = []) : lessI xs ys = (xs.length : Int) - ys.length := by
  rcases h with rfl | rfl
  · cases ys <;> rfl
  · cases xs <;> rfl
theorem less_ok (xs ys : List UInt8) (u v : Value) (w : World) (hu : SlB w u xs) (hv : SlB w v ys) :
    CallK Tryz.prog 327 [u, v].toArray w fun r w' => r = .int .i64 (lessI xs ys) ∧ Ext w w' := by
  have hul : xs.length ≤ 9223372036854775807 := by obtain ⟨_, _, _, h1, h2, _⟩ := hu; omega
  have hvl : ys.length ≤ 9223372036854775807 := by obtain ⟨_, _, _, h1, h2, _⟩ := hv; omega
  obtain ⟨au, cu, rfl⟩ := slv_of hu
  obtain ⟨av, cv, rfl⟩ := slv_of hv
  refine enterT Tryz.func327 rfl Tryz.ntmps327 Tryz.results327 rfl (by decide) ?_
  repeat (first | exact trivial | refine stpg ?_)
  refine loopX (ι := Nat) (fun k => [(0, .slice au xs.length cu), (1, .slice av ys.length cv), (5, .int .i64 k)]) (fun k w' => Ext w w' ∧ k ≤ xs.length ∧ k ≤ ys.length ∧ xs.take k = ys.take k) (fun k => xs.length - k) 0 ⟨.go, Nat.zero_le _, Nat.zero_le _, by simp⟩ ?_ ?_
  · repeat (first | exact trivial | refine stpg ?_)
  · rintro k s1 w1 ⟨hE1, hk1, hk2, htk⟩
    have hcd := lessI_drop k xs ys hk1 hk2 htk
    have hend : ¬ (k < xs.length ∧ k < ys.length) → lessI xs ys = (xs.length : Int) - ys.length := fun h => by
      rw [hcd, lessI_end (by by_cases h1 : k < xs.length; exact Or.inr (List.drop_eq_nil_of_le (by omega)); exact Or.inl (List.drop_eq_nil_of_le (by omega))), List.length_drop, List.length_drop]
      omega
    repeat (first | exact trivial | refine stpg ?_)
    refine ⟨fun h1 => ⟨fun h2 => ?_, fun h2 => ?_⟩, fun h1 => ?_⟩
    · obtain ⟨bu, ou, rfl, hRu⟩ := hu.rowB (by omega)
      obtain ⟨bv, ov, rfl, hRv⟩ := hv.rowB (by omega)
      rw [getD_drop (xs := xs) (by omega), getD_drop (xs := ys) (by omega), lessI] at hcd
      repeat (first | exact trivial | refine stpg ?_)
      refine ldByte (xs := xs) ?_
      repeat (first | exact trivial | refine stpg ?_)
      refine ldByte (xs := ys) ?_
      repeat (first | exact trivial | refine stpg ?_)
      intro w2 hE2
      have hb1 := (xs.getD k 0).toNat_lt
      have hb2 := (ys.getD k 0).toNat_lt
      refine ⟨fun hne => ?_, fun heq => ?_⟩
      · rw [if_neg (fun h => hne (by rw [h]))] at hcd
        repeat (first | exact trivial | refine stpg ?_)
        refine ldByte (xs := xs) ?_
        repeat (first | exact trivial | refine stpg ?_)
        refine ldByte (xs := ys) ?_
        repeat (first | exact trivial | refine stpg ?_)
        intro w3 hE3
        repeat (first | exact trivial | refine stpg ?_)
        refine ⟨?_, .go⟩
        rw [hcd, w64 (n := ((xs.getD k 0).toNat : Int)) (by omega) (by omega), w64 (n := ((ys.getD k 0).toNat : Int)) (by omega) (by omega), w64 (by omega) (by omega)]
      · have he : xs.getD k 0 = ys.getD k 0 := UInt8.toNat_inj.1 (by omega)
        repeat (first | exact trivial | refine stpg ?_)
        refine ⟨k + 1, ⟨.go, by omega, by omega, ?_⟩, by rw [w64 (by omega) (by omega)]; rfl, by omega⟩
        rw [take_getD (by omega), take_getD (xs := ys) (by omega), htk, he]
    · rw [hend (by omega)]
      repeat (first | exact trivial | refine stpg ?_)
      exact ⟨w64 (by omega) (by omega), .go⟩
    · rw [hend (by omega)]
      repeat (first | exact trivial | refine stpg ?_)
      exact ⟨w64 (by omega) (by omega), .go⟩
/-! ### Items in memory -/
structure IR where
  kv : Value
  vv : Value
  y : It
def IR.cells (p : IR) : List Value := vbs p.y.D ++ [p.kv, p.vv]
structure ItemAt (w : World) (p : IR) : Prop where
  len : p.y.D.length = 32
  key : SlB w p.kv p.y.k
  val : SlB w p.vv p.y.v
theorem ItemAt.ext {w w' : World} {p : IR} (h : ItemAt w p) (e : Ext w w') : ItemAt w' p := ⟨h.len, h.key.ext e, h.val.ext e⟩
theorem ItemAt.clen {w : World} {p : IR} (h : ItemAt w p) : p.cells.length = 34 := by unfold IR.cells; rw [List.length_append, vbs_len, h.len]; rfl
theorem ItemAt.one {w : World} {p : IR} (h : ItemAt w p) : ∀ u ∈ p.cells, oneCellV u = true := by
  intro u hu
  obtain ⟨a1, c1, e1⟩ := slv_of h.key
  obtain ⟨a2, c2, e2⟩ := slv_of h.val
  rcases List.mem_append.1 hu with hu | hu
  · exact vbs_one _ u hu
  · simp only [List.mem_cons, List.not_mem_nil, or_false] at hu
    rcases hu with rfl | rfl
    · rw [e1]; rfl
    · rw [e2]; rfl
theorem ItemAt.kc {w : World} {p : IR} (h : ItemAt w p) : p.cells[32]? = some p.kv := by unfold IR.cells; rw [List.getElem?_append_right (by rw [vbs_len, h.len]; decide), vbs_len, h.len]; rfl
theorem ItemAt.vc {w : World} {p : IR} (h : ItemAt w p) : p.cells[33]? = some p.vv := by unfold IR.cells; rw [List.getElem?_append_right (by rw [vbs_len, h.len]; decide), vbs_len, h.len]; rfl
theorem ItemAt.dig {w w0 : World} {p : IR} {b T : Nat} (h : ItemAt w0 p) (hB : Blk w b T p.cells) : SlB w (.slice (some ⟨b, 0, none⟩) 32 32) p.y.D := by
  have hl := h.len
  rw [show (32 : Nat) = p.y.D.length from hl.symm]
  refine SlC.of_part hB (by omega) (by omega) (fun j u hj => ?_)
  rw [Nat.zero_add, IR.cells, List.getElem?_append_left (List.getElem?_eq_some_iff.1 hj).1]
  exact hj
def ordI (a b : It) : Int := if lessI a.D b.D = 0 then lessI a.k b.k else lessI a.D b.D
theorem ordI_cmp (a b : It) : (ordI a b < 0 ↔ cmpIt a b < 0) ∧ (ordI a b = 0 ↔ cmpIt a b = 0) := by
  have h1 := lessI_cmp a.D b.D
  have h2 := lessI_cmp a.k b.k
  unfold ordI cmpIt
  by_cases h : lessI a.D b.D = 0
  · rw [if_pos h, if_pos (h1.2.1 h)]
    exact h2
  · rw [if_neg h, if_neg (fun h' => h (h1.2.2 h'))]
    exact h1
theorem order_ok (p q : IR) (w : World) (hp : ItemAt w p) (hq : ItemAt w q) :
    CallK Tryz.prog 240 [.agg p.cells.toArray, .agg q.cells.toArray].toArray w fun r w' => r = .int .i64 (ordI p.y q.y) ∧ Ext w w' := by
  have hpc := hp.clen
  have hqc := hq.clen
  have hpl := hp.len
  have hql := hq.len
  refine enterT Tryz.func240 rfl Tryz.ntmps240 Tryz.results240 rfl (by decide) ?_
  repeat (first | exact trivial | refine stpg ?_)
  first | refine newS ?_ | refine newZ ?_
  intro w1 hE1 hz1 hB1
  repeat (first | exact trivial | refine stpg ?_)
  first | refine newS ?_ | refine newZ ?_
  intro w2 hE2 hz2 hB2
  repeat (first | exact trivial | refine stpg ?_)
  intro o1 ho1 o2 ho2
  obtain rfl : o1 = 0 := ho1
  obtain rfl : o2 = 0 := ho2
  rw [show ((32 : Int) - 0).toNat = 32 from rfl]
  refine qcall _ (fun w' hw' => less_ok p.y.D q.y.D _ _ w' (hp.dig (Blk.go (h := hB1))) (hq.dig (Blk.go (h := hB2)))) ?_
  repeat (first | exact trivial | refine stpg ?_)
  intro w3 hE3
  have hz3 := hE3.size
  repeat (first | exact trivial | refine stpg ?_)
  refine ⟨fun hne => ?_, fun heq => ?_⟩
  · repeat (first | exact trivial | refine stpg ?_)
    exact ⟨by unfold ordI; rw [if_neg hne], .go⟩
  · repeat (first | exact trivial | refine stpg ?_)
    refine ldCg (hb := Blk.go (h := hB1)) (hv := by exact hp.kc) ?_
    repeat (first | exact trivial | refine stpg ?_)
    refine ldCg (hb := Blk.go (h := hB2)) (hv := by exact hq.kc) ?_
    repeat (first | exact trivial | refine stpg ?_)
    refine (less_ok p.y.k q.y.k _ _ w3 (hp.key.ext .go) (hq.key.ext .go)).mono ?_
    rintro _ w4 ⟨rfl, hE4⟩
    repeat (first | exact trivial | refine stpg ?_)
    exact ⟨by unfold ordI; rw [if_pos heq], .go⟩
theorem blt_item (parts : List (Nat × Value)) : Tryz.prog.built 230 parts = Instr.fill (#[(0, 32), (32, 2)][·]?) (List.replicate 32 (.int .u8 0) ++ [.slice none 0 0, .slice none 0 0] : List Value).toArray parts := by kernel_rfl
theorem bld_item (p : IR) (hd : p.y.D.length = 32) {K : Value → Prop} (hK : K (.agg p.cells.toArray)) : bldV Tryz.prog 230 [(0, .agg (vbs p.y.D).toArray), (1, .agg [p.kv, p.vv].toArray)] K := by
  refine bldP p.cells (blt_item _) ?_ hK
  have hdl : (vbs p.y.D).length = 32 := by rw [vbs_len]; exact hd
  have e1 := fill_step (place := (#[(0, 32), (32, 2)][·]?)) (i := 0) (v := .agg (vbs p.y.D).toArray) (rest := [(1, .agg [p.kv, p.vv].toArray)]) (pre := []) (mid := List.replicate 32 (.int .u8 0)) (post := [.slice none 0 0, .slice none 0 0]) (vs := vbs p.y.D) rfl rfl (by rw [hdl]; rfl)
  have e2 := fill_step (place := (#[(0, 32), (32, 2)][·]?)) (i := 1) (v := .agg [p.kv, p.vv].toArray) (rest := []) (pre := vbs p.y.D) (mid := [.slice none 0 0, .slice none 0 0]) (post := []) (vs := [p.kv, p.vv]) (by rw [hdl]; rfl) rfl rfl
  rw [List.nil_append] at e1
  rw [e1]
  simp only [List.nil_append, List.append_nil] at e2 ⊢
  rw [e2]
  rfl
theorem item_ok (n : Nat) (hn : 1 ≤ n) (hn2 : n ≤ 32) (key val : List UInt8) (kv vv : Value) (w : World) (hk : SlB w kv key) (hv : SlB w vv val) (hkl : key.length ≤ 4000000000) (hvl : val.length ≤ 4000000000) :
    CallK Tryz.prog 239 [.int .i64 n, kv, vv].toArray w fun r w' => ∃ p : IR, r = .agg p.cells.toArray ∧ p.y = ⟨keyD n key, key, val⟩ ∧ ItemAt w' p ∧ (SlS (fun b => w.heap.size ≤ b) w' p.kv p.y.k.length (vbs p.y.k) ∧ SlS (fun b => w.heap.size ≤ b) w' p.vv p.y.v.length (vbs p.y.v)) ∧ Ext w w' := by
  have hkd := keyD_len n key
  refine enterT Tryz.func239 rfl Tryz.ntmps239 Tryz.results239 rfl (by decide) ?_
  repeat (first | exact trivial | refine stpg ?_)
  first | refine newS ?_ | refine newZ ?_
  intro w1 hE1 hz1 hB1
  repeat (first | exact trivial | refine stpg ?_)
  refine (RKeyD_ok n hn hn2 key kv w1 (hk.ext .go) (by omega)).mono ?_
  rintro _ w2 ⟨rfl, hE2⟩
  have hz2 := hE2.size
  repeat (first | exact trivial | refine stpg ?_)
  refine (Twin_ok key kv w2 (hk.ext .go) (by omega)).mono ?_
  rintro _ w3 ⟨g3, hg3, rfl, hB3, hE3⟩
  have hz3 := hE3.size
  repeat (first | exact trivial | refine stpg ?_)
  refine (Twin_ok val vv w3 (hv.ext .go) (by omega)).mono ?_
  rintro _ w4 ⟨g4, hg4, rfl, hB4, hE4⟩
  have hz4 := hE4.size
  repeat (first | exact trivial | refine stpg ?_)
  refine bldC [.slice (some ⟨g3, 0, none⟩) key.length key.length, .slice (some ⟨g4, 0, none⟩) val.length val.length] (by kernel_rfl) ?_
  repeat (first | exact trivial | refine stpg ?_)
  refine bld_item ⟨.slice (some ⟨g3, 0, none⟩) key.length key.length, .slice (some ⟨g4, 0, none⟩) val.length val.length, ⟨keyD n key, key, val⟩⟩ hkd ?_
  have hit : ∀ {W : World}, Blk W g3 5 (vbs key) → Blk W g4 5 (vbs val) → ItemAt W ⟨.slice (some ⟨g3, 0, none⟩) key.length key.length, .slice (some ⟨g4, 0, none⟩) val.length val.length, ⟨keyD n key, key, val⟩⟩ := fun h1 h2 =>
    ⟨hkd, SlC.of_blk h1 (by omega), SlC.of_blk h2 (by omega)⟩
  have hnw : ∀ {W : World}, Blk W g3 5 (vbs key) → Blk W g4 5 (vbs val) → ∀ p : IR, (⟨.slice (some ⟨g3, 0, none⟩) key.length key.length, .slice (some ⟨g4, 0, none⟩) val.length val.length, ⟨keyD n key, key, val⟩⟩ : IR) = p → SlS (fun b => w.heap.size ≤ b) W p.kv p.y.k.length (vbs p.y.k) ∧ SlS (fun b => w.heap.size ≤ b) W p.vv p.y.v.length (vbs p.y.v) := fun h1 h2 p hp => by
    subst hp
    exact ⟨SlS.of_blk h1 (by omega) (by omega), SlS.of_blk h2 (by omega) (by omega)⟩
  have hone := (hit (hB3.ext hE4) hB4).one
  have hcl := (hit (hB3.ext hE4) hB4).clen
  generalize hp : (⟨.slice (some ⟨g3, 0, none⟩) key.length key.length, .slice (some ⟨g4, 0, none⟩) val.length val.length, ⟨keyD n key, key, val⟩⟩ : IR) = p at *
  repeat (first | exact trivial | refine stpg ?_)
  refine stW (vs := p.cells) ?_ (h1 := hone) (hl := ⟨by rw [c230]; exact hcl, by rw [hcl]; rfl, by omega⟩)
  intro w5 hP5 hz5 hB5
  repeat (first | exact trivial | refine stpg ?_)
  refine ldNg (m := p.cells) (hm := by rw [List.drop_zero, List.take_of_length_le (by omega)]) (hl := by exact hcl) ?_
  exact ⟨p, rfl, by rw [← hp], hit (Blk.go (h := hB3)) (Blk.go (h := hB4)), hnw (Blk.go (h := hB3)) (Blk.go (h := hB4)) p rfl, .go⟩
theorem DigitR_ok (d : List UInt8) (hd : d.length = 32) (i : Nat) (hi : i < 64) (w : World) :
    CallK Tryz.prog 238 [.agg (vbs d).toArray, .int .i64 i].toArray w fun v w' => v = .int .i64 (digP d i) ∧ Ext w w' := by
  refine enterT Tryz.func238 rfl Tryz.ntmps238 Tryz.results238 rfl (by decide) ?_
  repeat (first | exact trivial | refine stpg ?_)
  first | refine newS ?_ | refine newZ ?_
  intro w1 hE1 hz1 hB1
  repeat (first | exact trivial | refine stpg ?_)
  have hb := (d.getD (i / 2) 0).toNat_lt
  rw [show (i : Int).tmod 2 = ((i % 2 : Nat) : Int) from tmodN i 2, show (i : Int).tdiv 2 = ((i / 2 : Nat) : Int) from by rw [Int.tdiv_eq_ediv_of_nonneg (by omega)]; omega, w64 (by omega) (by omega)]
  have hv : (vbs d)[i / 2]? = some (.int .u8 (d.getD (i / 2) 0).toNat) := by
    rw [vbs_get (by omega)]
  refine ⟨fun h0 => ?_, fun h1 => ?_⟩
  · repeat (first | exact trivial | refine stpg ?_)
    refine ldCg (hv := by exact hv) ?_
    repeat (first | exact trivial | refine stpg ?_)
    refine ⟨?_, .go⟩
    unfold digP
    rw [if_pos (by omega)]
    generalize (d.getD (i / 2) 0).toNat = x at *
    rw [show (x : Int).tdiv 16 = ((x / 16 : Nat) : Int) from by rw [Int.tdiv_eq_ediv_of_nonneg (by omega)]; omega, w8 (by omega) (by omega), w64 (by omega) (by omega)]
  · repeat (first | exact trivial | refine stpg ?_)
    refine ldCg (hv := by exact hv) ?_
    repeat (first | exact trivial | refine stpg ?_)
    refine ⟨?_, .go⟩
    unfold digP
    rw [if_neg (by omega)]
    generalize (d.getD (i / 2) 0).toNat = x at *
    rw [show (x : Int).tmod 16 = ((x % 16 : Nat) : Int) from tmodN x 16, w64 (by omega) (by omega)]
/-! ### Put, in plain Lean -/
def rp (x : It) : Bool → List It → List It
  | done, [] => if done = true then [] else [x]
  | done, y :: r => (if done = false ∧ ordI x y ≤ 0 then [x] else []) ++ ((if ordI x y ≠ 0 then [y] else []) ++ rp x (done || decide (ordI x y ≤ 0)) r)
theorem rp_done (x : It) : ∀ r : List It, (∀ y ∈ r, 0 < cmpIt y x) → rp x true r = r
  | [], _ => rfl
  | y :: r, h => by
    have h1 := h y (by simp)
    have h2 := ordI_cmp x y
    have h3 := cmpIt_neg y x
    unfold rp
    rw [if_neg (by simp), if_pos (by intro h0; have := h2.2.1 h0; omega), Bool.true_or, rp_done x r (fun z hz => h z (by simp [hz]))]
    rfl
theorem rp_put (x : It) : ∀ m : List It, SortedI m → rp x false m = putI m x
  | [], _ => rfl
  | y :: r, hs => by
    have h2 := ordI_cmp x y
    have h3 := cmpIt_neg y x
    have hs' := List.pairwise_cons.1 hs
    unfold rp
    by_cases h : cmpIt y x < 0
    · have hlt : ltP x y = true := by simpa [ltP] using h
      have hgt : gtP x y = false := by simp [gtP]; omega
      rw [if_neg (fun h0 => by have := h2.1; have := h2.2; omega), if_pos (fun h0 => by have := h2.2.1 h0; omega), show (false || decide (ordI x y ≤ 0)) = false from by simp; have := h2.1; have := h2.2; omega, rp_put x r hs'.2]
      unfold putI
      rw [List.filter_cons_of_pos hlt, List.filter_cons_of_neg (by simp [hgt])]
      rfl
    · have hup := sort_up hs h
      have hle : ordI x y ≤ 0 := by have := h2.1; have := h2.2; omega
      have e1 : (y :: r).filter (ltP x) = [] := List.filter_eq_nil_iff.2 fun z hz => by
        rcases List.mem_cons.1 hz with rfl | hz
        · simpa [ltP] using h
        · have := hup z hz; simp [ltP]; omega
      have e2 : r.filter (gtP x) = r := List.filter_eq_self.2 fun z hz => by have := hup z hz; simpa [gtP] using this
      rw [if_pos ⟨rfl, hle⟩, show (false || decide (ordI x y ≤ 0)) = true from by simpa using hle, rp_done x r hup]
      unfold putI
      rw [e1, List.filter_cons, e2]
      by_cases h0 : cmpIt y x = 0
      · rw [if_neg (fun hn => hn (h2.2.2 (by omega))), if_neg (by simp [gtP, h0])]
        rfl
      · rw [if_pos (fun hn => h0 (by have := h2.2.1 hn; omega)), if_pos (by simp [gtP]; omega)]
        rfl
structure ItemsAt (w : World) (v : Value) (is : List IR) : Prop where
  sl : SlC w v is.length (is.flatMap IR.cells)
  mem : ∀ p ∈ is, ItemAt w p
theorem ItemsAt.ext {w w' : World} {v : Value} {is : List IR} (h : ItemsAt w v is) (e : Ext w w') : ItemsAt w' v is := ⟨h.sl.ext e, fun p hp => (h.mem p hp).ext e⟩
theorem ItemsAt.row {w : World} {a : Option Addr} {n c : Nat} {is : List IR} (h : ItemsAt w (.slice a n c) is) (hd : 0 < is.length) : ∃ b o, a = some ⟨b, o, none⟩ ∧ RowA w b o 34 IR.cells is := h.sl.row (fun p hp => (h.mem p hp).clen) (by decide) hd
theorem apItem {w : World} {base b : Nat} {x : Value} {us : List IR} {p : IR} {K : Value → World → Prop} (hO : Own w base 230 34 x us.length (us.flatMap IR.cells)) (hb : base ≤ w.heap.size) (hB : Blk w b 230 p.cells) (hp : ItemAt w p) (hsz : us.length ≤ 1000000000)
    (hK : ∀ a c w', Own w' base 230 34 (.slice a (us ++ [p]).length c) (us ++ [p]).length ((us ++ [p]).flatMap IR.cells) → w.grownBy w' x.ownBlock → Below base w w' → K (.slice a (us ++ [p]).length c) w') : vcAppend Tryz.prog 56 x (.slice (some ⟨b, 0, none⟩) 1 1) w K := by
  refine apS (sz := 34) (n := us.length) (m := 1) Tryz.underlying56 z230 c230 rfl (by decide) hO hb (SlC.of_blk hB (by decide)) (by rw [hp.clen]) hp.one (by omega) (by rw [by230]; omega) (fun v' w' hO' hg => ?_)
  have e : us.flatMap IR.cells ++ p.cells = (us ++ [p]).flatMap IR.cells := by simp
  rw [e, show us.length + 1 = (us ++ [p]).length from by simp] at hO'
  obtain ⟨a, c, rfl⟩ := own_slice hO'
  exact hK a c w' hO' hg (below_of_grown hO hb hg)
theorem newI {w w0 : World} {p : IR} {l : List Value} {K : World → Prop} (hp : ItemAt w0 p) (hK : ∀ w', Ext w w' → w'.heap.size = w.heap.size + 1 → Blk w' w.heap.size 230 p.cells → K w') (hl : l.length = 34 := by exact rfl) :
    ∀ w1, NewB w w1 230 l → vcStore Tryz.prog 230 w1 w.heap.size 0 (.agg p.cells.toArray) K :=
  newS (vs := p.cells) hK (hl := ⟨by rw [c230]; exact hp.clen, by rw [hp.clen]; exact hl, by rw [hp.clen]; decide⟩) (h1 := hp.one)
theorem ldItem {w w0 : World} {p : IR} {b T : Nat} {K : Value → Prop} (hp : ItemAt w0 p) (hK : K (.agg p.cells.toArray)) (hb : Blk w b T p.cells := by exact Blk.go) : ldN w 34 b 0 K :=
  ldNg (m := p.cells) hK hb (hm := by rw [List.drop_zero, List.take_of_length_le (by rw [hp.clen]; decide)]) (hl := by exact hp.clen)
theorem blk_grown {w w' : World} {x : Value} {b T : Nat} {l : List Value} (hg : w.grownBy w' x.ownBlock) (hB : Blk w b T l) (hne : x.ownBlock ≠ some b) : Blk w' b T l := ⟨by rw [hg.block b hB.lt (fun h => hne h.symm)]; exact hB.out⟩
theorem PutO_ok (n : Nat) (hn : 1 ≤ n) (hn2 : n ≤ 32) (is : List IR) (m : List It) (key val : List UInt8) (mv kv vv : Value) (w : World) (hm : ItemsAt w mv is) (hy : is.map IR.y = m) (hs : SortedI m) (hk : SlB w kv key) (hv : SlB w vv val) (hkl : key.length ≤ 4000000000) (hvl : val.length ≤ 4000000000) (hml : is.length ≤ 100000000) :
    CallK Tryz.prog 121 [.int .i64 n, mv, kv, vv].toArray w fun v w' => (∃ (js : List IR) (p : IR), Own w' w.heap.size 230 34 v js.length (js.flatMap IR.cells) ∧ (∀ q ∈ js, q = p ∨ q ∈ is) ∧ ItemAt w' p ∧ (SlS (fun b => w.heap.size ≤ b) w' p.kv p.y.k.length (vbs p.y.k) ∧ SlS (fun b => w.heap.size ≤ b) w' p.vv p.y.v.length (vbs p.y.v)) ∧ js.map IR.y = putI m ⟨keyD n key, key, val⟩) ∧ Ext w w' := by
  obtain ⟨a, c, rfl⟩ := slv_of hm.sl
  refine enterT Tryz.func121 rfl Tryz.ntmps121 Tryz.results121 rfl (by decide) ?_
  repeat (first | exact trivial | refine stpg ?_)
  refine (item_ok n hn hn2 key val kv vv w hk hv hkl hvl).mono ?_
  rintro _ w1 ⟨p, rfl, hpy, hp, hpS, hE1⟩
  have hz1 := hE1.size
  have hpc := hp.clen
  have hone := hp.one
  repeat (first | exact trivial | refine stpg ?_)
  refine newI hp ?_
  intro w2 hE2 hz2 hB2
  repeat (first | exact trivial | refine stpg ?_)
  refine loopX (ι := Nat × List IR × Bool × Option Addr × Nat) (fun x => [(9, .pointer (some ⟨w1.heap.size, 0, none⟩)), (10, .slice x.2.2.2.1 x.2.1.length x.2.2.2.2), (11, .bool x.2.2.1), (19, .slice a is.length c), (20, .int .i64 is.length), (21, .int .i64 x.1)])
    (fun x W => Ext w2 W ∧ x.1 ≤ is.length ∧ x.2.1.length ≤ 2 * x.1 ∧ Own W w2.heap.size 230 34 (.slice x.2.2.2.1 x.2.1.length x.2.2.2.2) x.2.1.length (x.2.1.flatMap IR.cells) ∧ (∀ q ∈ x.2.1, q = p ∨ q ∈ is) ∧ x.2.1.map IR.y ++ rp p.y x.2.2.1 (m.drop x.1) = rp p.y false m) (fun x => is.length - x.1) (0, [], false, none, 0) ⟨.go, Nat.zero_le _, Nat.zero_le _, Own.nil _ _ _ _, by simp, rfl⟩ ?_ ?_
  · repeat (first | exact trivial | refine stpg ?_)
    rfl
  · rintro ⟨i, us, dn, a3, c3⟩ s3 w3 ⟨hE3, hi, hul, hO3, hus, hrp⟩
    simp only at hi hul hO3 hus hrp
    have hz3 := hE3.size
    repeat (first | exact trivial | refine stpg ?_)
    refine ⟨fun hlt => ?_, fun hge => ?_⟩
    · obtain ⟨bb, oo, rfl, hR⟩ := hm.row (by omega)
      obtain ⟨q, hx⟩ : ∃ x, is[i]? = some x := ⟨_, List.getElem?_eq_getElem (by omega)⟩
      have hq := hm.mem q (List.mem_of_getElem? hx)
      have hqc := hq.clen
      have hmd : m.drop i = q.y :: m.drop (i + 1) := by
        have h1 : m[i]? = some q.y := by rw [← hy, List.getElem?_map, hx]; rfl
        obtain ⟨h2, h3⟩ := List.getElem?_eq_some_iff.1 h1
        rw [List.drop_eq_getElem_cons h2, h3]
      rw [hmd, rp] at hrp
      repeat (first | exact trivial | refine stpg ?_)
      refine ldRow (f := IR.cells) hx ?_
      repeat (first | exact trivial | refine stpg ?_)
      refine newI hq ?_
      intro w4 hE4 hz4 hB4
      repeat (first | exact trivial | refine stpg ?_)
      refine ldItem hp ?_ (hb := Blk.go (h := hB2))
      repeat (first | exact trivial | refine stpg ?_)
      refine ldItem hq ?_ (hb := Blk.go (h := hB4))
      repeat (first | exact trivial | refine stpg ?_)
      refine (order_ok p q w4 (hp.ext .go) (hq.ext .go)).mono ?_
      rintro _ w5 ⟨rfl, hE5⟩
      have hz5 := hE5.size
      have hqm := List.mem_of_getElem? hx
      have htop := hO3.top
      have hO5 := hO3.ext (hE4.trans' hE5)
      cases dn
      · repeat (first | exact trivial | refine stpg ?_)
        refine ⟨fun hle => ?_, fun hgt => ?_⟩
        · rw [if_pos ⟨rfl, hle⟩, show (false || decide (ordI p.y q.y ≤ 0)) = true from by simpa using hle] at hrp
          repeat (first | exact trivial | refine stpg ?_)
          refine ldItem hp ?_ (hb := Blk.go (h := hB2))
          repeat (first | exact trivial | refine stpg ?_)
          refine ⟨rfl, hpc, ?_⟩
          first | refine newS ?_ | refine newZ ?_
          intro w6 hE6 hz6 hB6
          refine apItem (us := us) (p := p) (hO5.ext .go) (by omega) hB6 (hp.ext .go) (by first | omega | (simp only [List.length_append, List.length_cons, List.length_nil]; omega)) (fun a7 c7 w7 hO7 hg7 hE7 => ?_)
          have hz7 := hE7.size
          have hB4' : Blk w7 w3.heap.size 230 q.cells := blk_grown hg7 ((hB4.ext hE5).ext hE6) (fun h => by have := htop _ h; omega)
          repeat (first | exact trivial | refine stpg ?_)
          refine ⟨fun hne => ?_, fun heq => ?_⟩
          · rw [if_pos hne] at hrp
            repeat (first | exact trivial | refine stpg ?_)
            refine ldItem hq ?_ (hb := hB4')
            repeat (first | exact trivial | refine stpg ?_)
            refine ⟨rfl, hqc, ?_⟩
            first | refine newS ?_ | refine newZ ?_
            intro w8 hE8 hz8 hB8
            refine apItem (us := us ++ [p]) (p := q) (hO7.ext .go) (by omega) hB8 (hq.ext .go) (by first | omega | (simp only [List.length_append, List.length_cons, List.length_nil]; omega)) (fun a9 c9 w9 hO9 hg9 hE9 => ?_)
            have hz9 := hE9.size
            repeat (first | exact trivial | refine stpg ?_)
            refine ⟨(i + 1, us ++ [p] ++ [q], true, a9, c9), ⟨.go, by simp only; omega, ?_, hO9, ?_, ?_⟩, (by first | exact ⟨rfl, rfl, by rw [w64 (by omega) (by omega)]; rfl⟩ | exact ⟨rfl, by rw [w64 (by omega) (by omega)]; rfl⟩ | (rw [w64 (by omega) (by omega)]; rfl)), by simp only; omega⟩
            · simp only [List.length_append, List.length_cons, List.length_nil]; omega
            · intro r hr
              simp only [List.mem_append, List.mem_singleton] at hr
              rcases hr with (hr | rfl) | rfl; exact hus r hr; exact Or.inl rfl; exact Or.inr hqm
            · simp only [List.map_append, List.map_cons, List.map_nil, List.append_assoc]
              exact hrp
          · rw [if_neg (fun h => h heq)] at hrp
            repeat (first | exact trivial | refine stpg ?_)
            refine ⟨(i + 1, us ++ [p], true, a7, c7), ⟨.go, by simp only; omega, ?_, hO7, ?_, ?_⟩, (by first | exact ⟨rfl, rfl, by rw [w64 (by omega) (by omega)]; rfl⟩ | exact ⟨rfl, by rw [w64 (by omega) (by omega)]; rfl⟩ | (rw [w64 (by omega) (by omega)]; rfl)), by simp only; omega⟩
            · simp only [List.length_append, List.length_cons, List.length_nil]; omega
            · intro r hr
              simp only [List.mem_append, List.mem_singleton] at hr
              rcases hr with hr | rfl; exact hus r hr; exact Or.inl rfl
            · simp only [List.map_append, List.map_cons, List.map_nil, List.append_assoc]
              exact hrp
        · rw [if_neg (fun h => hgt h.2), show (false || decide (ordI p.y q.y ≤ 0)) = false from by simpa using hgt, List.nil_append] at hrp
          repeat (first | exact trivial | refine stpg ?_)
          refine ⟨fun hne => ?_, fun heq => by omega⟩
          rw [if_pos hne] at hrp
          repeat (first | exact trivial | refine stpg ?_)
          refine ldItem hq ?_ (hb := Blk.go (h := hB4))
          repeat (first | exact trivial | refine stpg ?_)
          refine ⟨rfl, hqc, ?_⟩
          first | refine newS ?_ | refine newZ ?_
          intro w6 hE6 hz6 hB6
          refine apItem (us := us) (p := q) (hO5.ext .go) (by omega) hB6 (hq.ext .go) (by first | omega | (simp only [List.length_append, List.length_cons, List.length_nil]; omega)) (fun a7 c7 w7 hO7 hg7 hE7 => ?_)
          have hz7 := hE7.size
          repeat (first | exact trivial | refine stpg ?_)
          refine ⟨(i + 1, us ++ [q], false, a7, c7), ⟨.go, by simp only; omega, ?_, hO7, ?_, ?_⟩, (by first | exact ⟨rfl, rfl, by rw [w64 (by omega) (by omega)]; rfl⟩ | exact ⟨rfl, by rw [w64 (by omega) (by omega)]; rfl⟩ | (rw [w64 (by omega) (by omega)]; rfl)), by simp only; omega⟩
          · simp only [List.length_append, List.length_cons, List.length_nil]; omega
          · intro r hr
            simp only [List.mem_append, List.mem_singleton] at hr
            rcases hr with hr | rfl; exact hus r hr; exact Or.inr hqm
          · simp only [List.map_append, List.map_cons, List.map_nil, List.append_assoc]
            exact hrp
      · rw [if_neg (fun h => by cases h.1), Bool.true_or, List.nil_append] at hrp
        repeat (first | exact trivial | refine stpg ?_)
        refine ⟨fun hne => ?_, fun heq => ?_⟩
        · rw [if_pos hne] at hrp
          repeat (first | exact trivial | refine stpg ?_)
          refine ldItem hq ?_ (hb := Blk.go (h := hB4))
          repeat (first | exact trivial | refine stpg ?_)
          refine ⟨rfl, hqc, ?_⟩
          first | refine newS ?_ | refine newZ ?_
          intro w6 hE6 hz6 hB6
          refine apItem (us := us) (p := q) (hO5.ext .go) (by omega) hB6 (hq.ext .go) (by first | omega | (simp only [List.length_append, List.length_cons, List.length_nil]; omega)) (fun a7 c7 w7 hO7 hg7 hE7 => ?_)
          have hz7 := hE7.size
          repeat (first | exact trivial | refine stpg ?_)
          refine ⟨(i + 1, us ++ [q], true, a7, c7), ⟨.go, by simp only; omega, ?_, hO7, ?_, ?_⟩, (by first | exact ⟨rfl, rfl, by rw [w64 (by omega) (by omega)]; rfl⟩ | exact ⟨rfl, by rw [w64 (by omega) (by omega)]; rfl⟩ | (rw [w64 (by omega) (by omega)]; rfl)), by simp only; omega⟩
          · simp only [List.length_append, List.length_cons, List.length_nil]; omega
          · intro r hr
            simp only [List.mem_append, List.mem_singleton] at hr
            rcases hr with hr | rfl; exact hus r hr; exact Or.inr hqm
          · simp only [List.map_append, List.map_cons, List.map_nil, List.append_assoc]
            exact hrp
        · rw [if_neg (fun h => h heq), List.nil_append] at hrp
          repeat (first | exact trivial | refine stpg ?_)
          refine ⟨(i + 1, us, true, a3, c3), ⟨.go, by simp only; omega, by simp only; omega, hO5, hus, hrp⟩, (by first | exact ⟨rfl, rfl, by rw [w64 (by omega) (by omega)]; rfl⟩ | exact ⟨rfl, by rw [w64 (by omega) (by omega)]; rfl⟩ | (rw [w64 (by omega) (by omega)]; rfl)), by simp only; omega⟩
    · have hil : m.length = is.length := by rw [← hy, List.length_map]
      rw [List.drop_eq_nil_of_le (by omega)] at hrp
      cases dn
      · rw [rp, if_neg (by decide)] at hrp
        repeat (first | exact trivial | refine stpg ?_)
        refine ldItem hp ?_ (hb := Blk.go (h := hB2))
        repeat (first | exact trivial | refine stpg ?_)
        refine ⟨rfl, hpc, ?_⟩
        first | refine newS ?_ | refine newZ ?_
        intro w4 hE4 hz4 hB4
        refine apItem (us := us) (p := p) (hO3.ext .go) (by omega) hB4 (hp.ext .go) (by first | omega | (simp only [List.length_append, List.length_cons, List.length_nil]; omega)) (fun a5 c5 w5 hO5 hg5 hE5 => ?_)
        have hz5 := hE5.size
        repeat (first | exact trivial | refine stpg ?_)
        refine ⟨⟨us ++ [p], p, hO5.base (by omega), fun r hr => ?_, hp.ext .go, ⟨hpS.1.keep (KeepS.of_ext Ext.go), hpS.2.keep (KeepS.of_ext Ext.go)⟩, ?_⟩, .go⟩
        · simp only [List.mem_append, List.mem_singleton] at hr
          rcases hr with hr | rfl
          · exact hus r hr
          · exact Or.inl rfl
        · rw [List.map_append, ← hpy, ← rp_put _ _ hs]
          exact hrp
      · rw [rp, if_pos rfl, List.append_nil] at hrp
        repeat (first | exact trivial | refine stpg ?_)
        refine ⟨⟨us, p, hO3.base (by omega), hus, hp.ext .go, ⟨hpS.1.keep (KeepS.of_ext Ext.go), hpS.2.keep (KeepS.of_ext Ext.go)⟩, ?_⟩, .go⟩
        · rw [← hpy, ← rp_put _ _ hs]
          exact hrp
end Go.Proofs.YthlkfjoibjhaiaaGreatDoor

/-! Rfb -/
namespace Go.Proofs.YthlkfjoibjhaiaaGreatDoor
set_option maxRecDepth 100000
set_option maxHeartbeats 2000000
open Go Go.RowKit
set_option linter.unusedVariables false
set_option linter.unusedSimpArgs false
theorem ldRowP {α : Type} {f : α → List Value} {w : World} {b o i sz q n : Nat} {K : Value → Prop} {ds : List α} {x : α} {m : List Value} (j : Nat) (hx : ds[i]? = some x) (hm : ((f x).drop j).take n = m) (hl : m.length = n) (hK : K (.agg m.toArray)) (hR : RowA w b o sz f ds := by exact RowA.go) (hq : q = o + (i * sz + j) := by first | exact rfl | omega | simp) : ldN w n b q K := by
  subst hq
  refine ⟨m, hl, fun k v hv => ?_, hK⟩
  rw [← hm, List.getElem?_take] at hv
  split at hv
  · rw [List.getElem?_drop] at hv
    rw [Nat.add_assoc, Nat.add_assoc]
    exact hR.cell _ _ (flat_get ds i x hR.len hx (j + k) v hv)
  · cases hv
attribute [local irreducible] vcT opsT qT vcOp Q1 vcPure vcLoad vcStore ldC ldN ldD grdT grdQ vc vcOps vcQ hT
attribute [local irreducible] sumR sumP shaP keyD bucketP branchP

/-- The items of a map that these pairs are put into, one after another. -/
def putAll (n : Int) (m : List It) (l : List (List UInt8 × List UInt8)) : List It := l.foldl (fun m p => putI m ⟨keyD n p.1, p.1, p.2⟩) m
theorem putAll_len {n : Int} : ∀ (l : List (List UInt8 × List UInt8)) (m : List It), (putAll n m l).length ≤ m.length + l.length
  | [], m => Nat.le_refl _
  | p :: l, m => by
    have h1 := putAll_len l (n := n) (putI m ⟨keyD n p.1, p.1, p.2⟩)
    have h2 := putI_len m ⟨keyD n p.1, p.1, p.2⟩
    unfold putAll at h1 ⊢
    rw [List.foldl_cons, List.length_cons]
    omega
theorem putAll_snoc (n : Int) (m : List It) (l : List (List UInt8 × List UInt8)) (p : List UInt8 × List UInt8) : putAll n m (l ++ [p]) = putI (putAll n m l) ⟨keyD n p.1, p.1, p.2⟩ := by unfold putAll; rw [List.foldl_append]; rfl
theorem apPairN {w : World} {base b n : Nat} {x : Value} {us : List PR} {p : PR} {K : Value → World → Prop} (hn : us.length = n) (hO : Own w base 47 2 x n (us.flatMap PR.cells)) (hb : base ≤ w.heap.size) (hB : Blk w b 47 [p.kv, p.vv]) (h1 : oneCellV p.kv = true) (h2 : oneCellV p.vv = true) (hsz : n ≤ 1000000000)
    (hK : ∀ a c w', Own w' base 47 2 (.slice a (n + 1) c) (n + 1) ((us ++ [p]).flatMap PR.cells) → w.grownBy w' x.ownBlock → Below base w w' → K (.slice a (n + 1) c) w') : vcAppend Tryz.prog 24 x (.slice (some ⟨b, 0, none⟩) 1 1) w K := by
  subst hn
  refine apS (sz := 2) (n := us.length) (m := 1) Tryz.underlying24 z47 c47 rfl (by decide) hO hb (SlC.of_blk hB (by decide)) rfl (by intro u hu; rcases List.mem_cons.1 hu with rfl | hu; exact h1; rcases List.mem_cons.1 hu with rfl | hu; exact h2; cases hu) (by omega) (by rw [by47]; omega) (fun v' w' hO' hg => ?_)
  have e : us.flatMap PR.cells ++ [p.kv, p.vv] = (us ++ [p]).flatMap PR.cells := by simp [PR.cells]
  rw [e] at hO'
  obtain ⟨a, c, rfl⟩ := own_slice hO'
  exact hK a c w' hO' hg (below_of_grown hO hb hg)
theorem apItemN {w : World} {base b n : Nat} {x : Value} {us : List IR} {p : IR} {K : Value → World → Prop} (hn : us.length = n) (hO : Own w base 230 34 x n (us.flatMap IR.cells)) (hb : base ≤ w.heap.size) (hB : Blk w b 230 p.cells) (hp : ItemAt w p) (hsz : n ≤ 1000000000)
    (hK : ∀ a c w', Own w' base 230 34 (.slice a (n + 1) c) (n + 1) ((us ++ [p]).flatMap IR.cells) → w.grownBy w' x.ownBlock → Below base w w' → K (.slice a (n + 1) c) w') : vcAppend Tryz.prog 56 x (.slice (some ⟨b, 0, none⟩) 1 1) w K := by
  subst hn
  refine apS (sz := 34) (n := us.length) (m := 1) Tryz.underlying56 z230 c230 rfl (by decide) hO hb (SlC.of_blk hB (by decide)) (by rw [hp.clen]) hp.one (by omega) (by rw [by230]; omega) (fun v' w' hO' hg => ?_)
  have e : us.flatMap IR.cells ++ p.cells = (us ++ [p]).flatMap IR.cells := by simp
  rw [e] at hO'
  obtain ⟨a, c, rfl⟩ := own_slice hO'
  exact hK a c w' hO' hg (below_of_grown hO hb hg)
theorem ItemAt.pc {w : World} {p : IR} (h : ItemAt w p) : (p.cells.drop 32).take 2 = [p.kv, p.vv] := by
  unfold IR.cells
  rw [List.drop_append, List.drop_eq_nil_of_le (by rw [vbs_len, h.len]; decide), vbs_len, h.len]
  rfl
theorem ItemAt.dc {w : World} {p : IR} (h : ItemAt w p) : (p.cells.drop 0).take 32 = vbs p.y.D := by
  unfold IR.cells
  rw [List.drop_zero, List.take_append_of_le_length (by rw [vbs_len, h.len]; decide), vbs_tk h.len]
def IR.pr (p : IR) : PR := ⟨p.kv, p.vv, p.y.k, p.y.v⟩
theorem PairsO_ok (is : List IR) (mv : Value) (w : World) (hm : ItemsAt w mv is) (hml : is.length ≤ 1000000000) :
    CallK Tryz.prog 133 [mv].toArray w fun v w' => Own w' w.heap.size 47 2 v is.length ((is.map IR.pr).flatMap PR.cells) ∧ Ext w w' := by
  obtain ⟨a, c, rfl⟩ := slv_of hm.sl
  refine enterT Tryz.func133 rfl Tryz.ntmps133 Tryz.results133 rfl (by decide) ?_
  repeat (first | exact trivial | refine stpg ?_)
  refine loopX (ι := Nat × Option Addr × Nat) (fun x => [(3, .slice x.2.1 x.1 x.2.2), (6, .slice a is.length c), (7, .int .i64 is.length), (8, .int .i64 x.1)])
    (fun x W => Ext w W ∧ x.1 ≤ is.length ∧ Own W w.heap.size 47 2 (.slice x.2.1 x.1 x.2.2) x.1 (((is.take x.1).map IR.pr).flatMap PR.cells)) (fun x => is.length - x.1) (0, none, 0) ⟨.go, Nat.zero_le _, Own.nil _ _ _ _⟩ ?_ ?_
  · repeat (first | exact trivial | refine stpg ?_)
  · rintro ⟨i, a1, c1⟩ s1 w1 ⟨hE1, hi, hO1⟩
    simp only at hi hO1
    have hz1 := hE1.size
    repeat (first | exact trivial | refine stpg ?_)
    refine ⟨fun hlt => ?_, fun hge => ?_⟩
    · obtain ⟨b, o, rfl, hR⟩ := hm.row (by omega)
      obtain ⟨q, hx⟩ : ∃ x, is[i]? = some x := ⟨_, List.getElem?_eq_getElem (by omega)⟩
      have hq := hm.mem q (List.mem_of_getElem? hx)
      have htk : is.take (i + 1) = is.take i ++ [q] := by
        obtain ⟨hil, he⟩ := List.getElem?_eq_some_iff.1 hx
        rw [List.take_succ_eq_append_getElem hil, he]
      have hul : ((is.take i).map IR.pr).length = i := by rw [List.length_map, List.length_take]; omega
      repeat (first | exact trivial | refine stpg ?_)
      refine ldRow (f := IR.cells) hx ?_
      repeat (first | exact trivial | refine stpg ?_)
      refine newI hq ?_
      intro w2 hE2 hz2 hB2
      repeat (first | exact trivial | refine stpg ?_)
      refine ldNg (m := [q.kv, q.vv]) (hb := Blk.go (h := hB2)) (hm := by exact hq.pc) (hl := by rfl) ?_
      obtain ⟨a4, c4, e4⟩ := slv_of hq.key
      obtain ⟨a5, c5, e5⟩ := slv_of hq.val
      repeat (first | exact trivial | refine stpg ?_)
      refine ⟨rfl, rfl, ?_⟩
      first | refine newS ?_ | refine newZ ?_
      intro w3 hE3 hz3 hB3
      refine apPairN (us := (is.take i).map IR.pr) (p := q.pr) hul (hO1.ext .go) (by omega) hB3 (by unfold IR.pr; rw [e4]; rfl) (by unfold IR.pr; rw [e5]; rfl) (by omega) (fun a6 c6 w6 hO6 hg6 hE6 => ?_)
      have hz6 := hE6.size
      repeat (first | exact trivial | refine stpg ?_)
      refine ⟨(i + 1, a6, c6), ⟨.go, by simp only; omega, ?_⟩, ⟨rfl, by rw [w64 (by omega) (by omega)]; rfl⟩, by simp only; omega⟩
      simp only
      rw [htk, List.map_append]
      exact hO6
    · obtain rfl : i = is.length := by omega
      rw [List.take_length] at hO1
      repeat (first | exact trivial | refine stpg ?_)
      exact hE1
theorem PairsR_ok (is : List IR) (mv : Value) (w : World) (hm : ItemsAt w mv is) (hml : is.length ≤ 1000000000) :
    CallK Tryz.prog 133 [mv].toArray w fun v w' => PairsAt w' v (is.map IR.pr) ∧ Ext w w' := by
  refine (PairsO_ok is mv w hm hml).mono ?_
  rintro v w1 ⟨hO1, hE1⟩
  refine ⟨⟨by rw [List.length_map]; exact SlC.of_own hO1, fun p hp => ?_⟩, hE1⟩
  obtain ⟨q, hq, rfl⟩ := List.mem_map.1 hp
  exact ⟨(hm.mem q hq).key.ext hE1, (hm.mem q hq).val.ext hE1⟩
theorem pr_dat (is : List IR) : (is.map IR.pr).map PR.dat = (is.map IR.y).map It.pr := by rw [List.map_map, List.map_map]; rfl
theorem childR_ok (is : List IR) (mv : Value) (d c : Nat) (hd : d < 64) (hc : c < 16) (w : World) (hm : ItemsAt w mv is) (hml : is.length ≤ 100000000) :
    CallK Tryz.prog 259 [mv, .int .i64 d, .int .i64 c].toArray w fun v w' => (∃ js : List IR, Own w' w.heap.size 230 34 v js.length (js.flatMap IR.cells) ∧ (∀ q ∈ js, q ∈ is) ∧ js.map IR.y = childI (is.map IR.y) d c) ∧ Ext w w' := by
  obtain ⟨a, cc, rfl⟩ := slv_of hm.sl
  refine enterT Tryz.func259 rfl Tryz.ntmps259 Tryz.results259 rfl (by decide) ?_
  repeat (first | exact trivial | refine stpg ?_)
  refine loopX (ι := Nat × Option Addr × Nat) (fun x => [(1, .int .i64 d), (2, .int .i64 c), (7, .slice x.2.1 ((is.take x.1).filter fun q => decide (digP q.y.D d = c)).length x.2.2), (10, .slice a is.length cc), (11, .int .i64 is.length), (12, .int .i64 x.1)])
    (fun x W => Ext w W ∧ x.1 ≤ is.length ∧ Own W w.heap.size 230 34 (.slice x.2.1 ((is.take x.1).filter fun q => decide (digP q.y.D d = c)).length x.2.2) ((is.take x.1).filter fun q => decide (digP q.y.D d = c)).length (((is.take x.1).filter fun q => decide (digP q.y.D d = c)).flatMap IR.cells)) (fun x => is.length - x.1) (0, none, 0) ⟨.go, Nat.zero_le _, Own.nil _ _ _ _⟩ ?_ ?_
  · repeat (first | exact trivial | refine stpg ?_)
    rfl
  · rintro ⟨i, a1, c1⟩ s1 w1 ⟨hE1, hi, hO1⟩
    simp only at hi hO1
    have hz1 := hE1.size
    repeat (first | exact trivial | refine stpg ?_)
    refine ⟨fun hlt => ?_, fun hge => ?_⟩
    · obtain ⟨b, o, rfl, hR⟩ := hm.row (by omega)
      obtain ⟨q, hx⟩ : ∃ x, is[i]? = some x := ⟨_, List.getElem?_eq_getElem (by omega)⟩
      have hq := hm.mem q (List.mem_of_getElem? hx)
      have hqc := hq.clen
      have htk : is.take (i + 1) = is.take i ++ [q] := by
        obtain ⟨hil, he⟩ := List.getElem?_eq_some_iff.1 hx
        rw [List.take_succ_eq_append_getElem hil, he]
      repeat (first | exact trivial | refine stpg ?_)
      refine ldRow (f := IR.cells) hx ?_
      repeat (first | exact trivial | refine stpg ?_)
      refine newI hq ?_
      intro w2 hE2 hz2 hB2
      repeat (first | exact trivial | refine stpg ?_)
      refine ldNg (m := vbs q.y.D) (hb := Blk.go (h := hB2)) (hm := by exact hq.dc) (hl := by rw [vbs_len]; exact hq.len) ?_
      repeat (first | exact trivial | refine stpg ?_)
      refine (DigitR_ok q.y.D hq.len d hd w2).mono ?_
      rintro _ w3 ⟨rfl, hE3⟩
      have hz3 := hE3.size
      have hfl : ((is.take i).filter fun q => decide (digP q.y.D d = c)).length ≤ i := Nat.le_trans (List.length_filter_le _ _) (by rw [List.length_take]; omega)
      repeat (first | exact trivial | refine stpg ?_)
      refine ⟨fun hc1 => ?_, fun hc1 => ?_⟩
      · have hfe : ((is.take (i + 1)).filter fun q => decide (digP q.y.D d = c)) = ((is.take i).filter fun q => decide (digP q.y.D d = c)) ++ [q] := by
          rw [htk, List.filter_append, List.filter_cons_of_pos (by simpa using (by omega : digP q.y.D d = c))]
          rfl
        repeat (first | exact trivial | refine stpg ?_)
        refine ldItem hq ?_ (hb := Blk.go (h := hB2))
        repeat (first | exact trivial | refine stpg ?_)
        refine ⟨rfl, hqc, ?_⟩
        first | refine newS ?_ | refine newZ ?_
        intro w4 hE4 hz4 hB4
        refine apItemN (p := q) rfl (hO1.ext .go) (by omega) hB4 (hq.ext .go) (by omega) (fun a6 c6 w6 hO6 hg6 hE6 => ?_)
        have hz6 := hE6.size
        rw [← hfe] at hO6
        rw [show ((is.take i).filter fun q => decide (digP q.y.D d = c)).length + 1 = ((is.take (i + 1)).filter fun q => decide (digP q.y.D d = c)).length from by rw [hfe, List.length_append]; rfl] at hO6 ⊢
        repeat (first | exact trivial | refine stpg ?_)
        exact ⟨(i + 1, a6, c6), ⟨.go, by simp only; omega, hO6⟩, ⟨rfl, by rw [w64 (by omega) (by omega)]; rfl⟩, by simp only; omega⟩
      · have hfe : ((is.take (i + 1)).filter fun q => decide (digP q.y.D d = c)) = ((is.take i).filter fun q => decide (digP q.y.D d = c)) := by
          rw [htk, List.filter_append, List.filter_cons_of_neg (by simpa using (by omega : ¬ digP q.y.D d = c))]
          simp
        repeat (first | exact trivial | refine stpg ?_)
        exact ⟨(i + 1, a1, c1), ⟨.go, by simp only; omega, by simp only; rw [hfe]; exact hO1.ext .go⟩, ⟨by simp only; rw [hfe], by rw [w64 (by omega) (by omega)]; rfl⟩, by simp only; omega⟩
    · obtain rfl : i = is.length := by omega
      rw [List.take_length] at hO1 ⊢
      repeat (first | exact trivial | refine stpg ?_)
      refine ⟨⟨_, hO1, fun q hq => (List.mem_filter.1 hq).1, ?_⟩, hE1⟩
      unfold childI
      rw [List.filter_map]
      rfl
/-! ### single -/
theorem cmpB_anti {a b : List UInt8} (h1 : Lib.compareBytes a b ≤ 0) (h2 : Lib.compareBytes b a ≤ 0) : a = b := by
  have := cmpB_neg a b
  exact (cmpB_eq a b).1 (by omega)
theorem sorted_D : ∀ {m : List It}, SortedI m → m.Pairwise fun a b => Lib.compareBytes a.D b.D ≤ 0 := fun h => h.imp fun {a b} h => by
  unfold cmpIt at h
  split at h
  · omega
  · omega
theorem single_ends {m : List It} (h : SortedI m) {x y : It} (hx : m[0]? = some x) (hy : m[m.length - 1]? = some y) : singleB m = decide (x.D = y.D) := by
  have hs := sorted_D h
  obtain ⟨h0, hx'⟩ := List.getElem?_eq_some_iff.1 hx
  obtain ⟨h1, hy'⟩ := List.getElem?_eq_some_iff.1 hy
  rw [Bool.eq_iff_iff, decide_eq_true_eq, singleB_iff]
  constructor
  · intro h
    exact h x (List.mem_of_getElem? hx) y (List.mem_of_getElem? hy)
  · intro he
    have key : ∀ z ∈ m, z.D = x.D := by
      intro z hz
      obtain ⟨j, hj⟩ := List.getElem?_of_mem hz
      obtain ⟨hjl, hj'⟩ := List.getElem?_eq_some_iff.1 hj
      have hp := List.pairwise_iff_getElem.1 hs
      have a1 : Lib.compareBytes x.D z.D ≤ 0 := by
        by_cases h : 0 < j
        · have := hp 0 j h0 hjl h; rw [hx', hj'] at this; exact this
        · obtain rfl : j = 0 := by omega
          rw [hx] at hj; cases hj; rw [cmpB_self]; omega
      have a2 : Lib.compareBytes z.D y.D ≤ 0 := by
        by_cases h : j < m.length - 1
        · have := hp j (m.length - 1) hjl h1 h; rw [hy', hj'] at this; exact this
        · obtain rfl : j = m.length - 1 := by omega
          rw [hy] at hj; cases hj; rw [cmpB_self]; omega
      rw [← he] at a2
      exact cmpB_anti a2 a1
    intro a ha b hb
    rw [key a ha, key b hb]
theorem singleR_ok (is : List IR) (m : List It) (mv : Value) (w : World) (hm : ItemsAt w mv is) (hy : is.map IR.y = m) (hs : SortedI m) (hml : is.length ≤ 1000000000) :
    CallK Tryz.prog 257 [mv].toArray w fun v w' => v = .bool (singleB m) ∧ Ext w w' := by
  obtain ⟨a, c, rfl⟩ := slv_of hm.sl
  have hil : m.length = is.length := by rw [← hy, List.length_map]
  refine enterT Tryz.func257 rfl Tryz.ntmps257 Tryz.results257 rfl (by decide) ?_
  repeat (first | exact trivial | refine stpg ?_)
  refine ⟨fun h0 => ?_, fun h0 => ?_⟩
  · intro w' hE'
    obtain rfl : m = [] := List.length_eq_zero_iff.1 (by omega)
    exact ⟨rfl, hE'⟩
  · obtain ⟨b, o, rfl, hR⟩ := hm.row (by omega)
    obtain ⟨p, hx⟩ : ∃ x, is[0]? = some x := ⟨_, List.getElem?_eq_getElem (by omega)⟩
    obtain ⟨q, hq⟩ : ∃ x, is[is.length - 1]? = some x := ⟨_, List.getElem?_eq_getElem (by omega)⟩
    have hp1 := hm.mem p (List.mem_of_getElem? hx)
    have hq1 := hm.mem q (List.mem_of_getElem? hq)
    repeat (first | exact trivial | refine stpg ?_)
    refine ldRowP (f := IR.cells) 0 hx hp1.dc (by rw [vbs_len]; exact hp1.len) ?_
    repeat (first | exact trivial | refine stpg ?_)
    rw [w64 (by omega) (by omega)]
    repeat (first | exact trivial | refine stpg ?_)
    refine ldRowP (f := IR.cells) 0 hq hq1.dc (by rw [vbs_len]; exact hq1.len) ?_
    repeat (first | exact trivial | refine stpg ?_)
    refine eqd_lit _ _ _ _ _ _ Tryz.underlying5 c5 hp1.len hq1.len ?_
    repeat (first | exact trivial | refine stpg ?_)
    intro w' hE'
    refine ⟨?_, hE'⟩
    rw [single_ends hs (x := p.y) (y := q.y) (by rw [← hy, List.getElem?_map, hx]; rfl) (by rw [hil, ← hy, List.getElem?_map, hq]; rfl)]
end Go.Proofs.YthlkfjoibjhaiaaGreatDoor

/-! Rfc -/
namespace Go.Proofs.YthlkfjoibjhaiaaGreatDoor
set_option maxRecDepth 100000
set_option maxHeartbeats 2000000
open Go Go.RowKit
set_option linter.unusedVariables false
set_option linter.unusedSimpArgs false
attribute [local irreducible] vcT opsT qT vcOp Q1 vcPure vcLoad vcStore ldC ldN ldD grdT grdQ vc vcOps vcQ hT
attribute [local irreducible] sumR sumP shaP keyD bucketP branchP

theorem CheckPairR_ok (key val : List UInt8) (kv vv : Value) (w : World) (hk : SlB w kv key) (hv : SlB w vv val) :
    CallK Tryz.prog 120 [kv, vv].toArray w fun v w' => v = .int .i64 (if 64 < key.length ∨ 256 < val.length then 2 else 0 : Nat) ∧ Ext w w' := by
  obtain ⟨ka, kc, rfl⟩ := slv_of hk
  obtain ⟨va, vc, rfl⟩ := slv_of hv
  refine enterT Tryz.func120 rfl Tryz.ntmps120 Tryz.results120 rfl (by decide) ?_
  repeat (first | exact trivial | refine stpg ?_)
  refine ⟨fun h1 => ?_, fun h1 => ⟨fun h2 => ?_, fun h2 => ?_⟩⟩
  · rw [if_pos (by omega)]
    repeat (first | exact trivial | refine stpg ?_)
    exact Ext.go
  · rw [if_pos (by omega)]
    repeat (first | exact trivial | refine stpg ?_)
    exact Ext.go
  · rw [if_neg (by omega)]
    repeat (first | exact trivial | refine stpg ?_)
    exact Ext.go

def NodeC (n : Nat) (f : Nat) : Prop := ∀ (d : Nat) (is : List IR) (m : List It) (mv : Value) (w : World), ItemsAt w mv is → is.map IR.y = m → OkI n m → Pre d m → m ≠ [] → d + f = 64 → is.length ≤ 90000000 →
  CallK Tryz.prog 245 [.int .i64 n, mv, .int .i64 d].toArray w fun v w' => v = .agg (vbs (nodeD n f d m)).toArray ∧ Ext w w'
theorem stepR_ok (n : Nat) (hn : 1 ≤ n) (hn2 : n ≤ 32) (f : Nat) (ih : NodeC n f) (d : Nat) (is : List IR) (m : List It) (mv : Value) (w : World) (hm : ItemsAt w mv is) (hy : is.map IR.y = m) (hO : OkI n m) (hP : Pre d m) (hdf : d + (f + 1) = 64) (hml : is.length ≤ 90000000) :
    CallK Tryz.prog 258 [.int .i64 n, mv, .int .i64 d].toArray w fun v w' => ∃ kv, v = .agg [.int .u16 (bmI m d : Nat), kv].toArray ∧ Own w' w.heap.size 28 32 kv (kidsI n f d m).length ((kidsI n f d m).flatMap vbs) ∧ Ext w w' := by
  obtain ⟨a, c, rfl⟩ := slv_of hm.sl
  refine enterT Tryz.func258 rfl Tryz.ntmps258 Tryz.results258 rfl (by decide) ?_
  repeat (first | exact trivial | refine stpg ?_)
  first | refine newS ?_ | refine newZ ?_
  intro w1 hE1 hz1 hB1
  repeat (first | exact trivial | refine stpg ?_)
  first | refine newS ?_ | refine newZ ?_
  intro w2 hE2 hz2 hB2
  repeat (first | exact trivial | refine stpg ?_)
  refine loopX (ι := Nat × Option Addr × Nat) (fun x => [(0, .int .i64 n), (1, .slice a is.length c), (2, .int .i64 d), (6, .pointer (some ⟨w.heap.size, 0, none⟩)), (7, .pointer (some ⟨w1.heap.size, 0, none⟩)), (8, .int .i64 x.1)])
    (fun x W => Ext w W ∧ w2.heap.size ≤ W.heap.size ∧ x.1 ≤ 16 ∧ Blk W w.heap.size 51 [.int .u16 0, .slice none 0 0] ∧ Blk W w1.heap.size 51 [.int .u16 (bmK (hasI m d) x.1 : Nat), .slice x.2.1 ((List.range x.1).filter (hasI m d)).length x.2.2] ∧
      Own W w2.heap.size 28 32 (.slice x.2.1 ((List.range x.1).filter (hasI m d)).length x.2.2) ((List.range x.1).filter (hasI m d)).length ((((List.range x.1).filter (hasI m d)).map fun c => nodeD n f (d + 1) (childI m d c)).flatMap vbs)) (fun x => 16 - x.1) (0, none, 0) ⟨.go, Nat.le_refl _, Nat.zero_le _, .go, .go, Own.nil _ _ _ _⟩ ?_ ?_
  · repeat (first | exact trivial | refine stpg ?_)
  · rintro ⟨i, a3, c3⟩ s3 w3 ⟨hE3, hz3, hi, hB3, hB3', hO3⟩
    simp only at hi hB3' hO3
    repeat (first | exact trivial | refine stpg ?_)
    refine ⟨fun hlt => ?_, fun hge => ?_⟩
    · refine (childR_ok is _ d i (by omega) (by omega) w3 (hm.ext .go) (by omega)).mono ?_
      rintro v4 w4 ⟨⟨js, hJ, hjm, hjy⟩, hE4⟩
      have hz4 := hE4.size
      rw [hy] at hjy
      obtain ⟨ja, jc, rfl⟩ := own_slice hJ
      have hjl : js.length = (childI m d i).length := by rw [← hjy, List.length_map]
      have hml' : m.length = is.length := by rw [← hy, List.length_map]
      have hcl : (childI m d i).length ≤ m.length := List.length_filter_le _ _
      repeat (first | exact trivial | refine stpg ?_)
      refine ⟨fun hpos => ?_, fun hzero => ?_⟩
      · have hh : hasI m d i = true := by
          unfold hasI
          cases hc : childI m d i with
          | nil => rw [hc, List.length_nil] at hjl; omega
          | cons _ _ => rfl
        refine drawX (.of [0, 1, 2, 3, 4, 5, 6]) mixed (by decide +kernel) (fun w5 hE5 hz5 => ?_)
        have hb0 := bmK_lt (hasI m d) i
        have hp0 : 2 ^ i + 2 ^ i ≤ 65536 := by rw [← Nat.two_mul, ← Nat.pow_succ']; exact Nat.pow_le_pow_right (by decide) (by omega : i + 1 ≤ 16)
        have hb1 := bmK_lt (hasI m d) (i + 1)
        have hp1 : 2 ^ (i + 1) ≤ 2 ^ 16 := Nat.pow_le_pow_right (by decide) (by omega)
        have hp2 : 2 ^ i < 2 ^ 16 := Nat.pow_lt_pow_right (by decide) (by omega)
        have hbe : bmK (hasI m d) (i + 1) = bmK (hasI m d) i + 2 ^ i := by rw [bmK, if_pos hh]
        have hwv : IntKind.u16.wrap (((bmK (hasI m d) i : Nat) : Int) + IntKind.u16.wrap (1 * 2 ^ min i IntKind.u16.bits)) = ((bmK (hasI m d) (i + 1) : Nat) : Int) := by
          have e1 : (1 : Int) * 2 ^ min i IntKind.u16.bits = ((2 ^ i : Nat) : Int) := by
            rw [show min i IntKind.u16.bits = i from by have : IntKind.u16.bits = 16 := rfl; omega, Int.one_mul]
            simp
          rw [e1, hbe]
          clear e1 hb1 hbe
          generalize 2 ^ i = t at *
          rw [show IntKind.u16.wrap ((t : Nat) : Int) = ((t : Nat) : Int) from w16 (by omega) (by omega), w16 (by omega) (by omega)]
          omega
        have hfe : (List.range (i + 1)).filter (hasI m d) = (List.range i).filter (hasI m d) ++ [i] := by rw [List.range_succ, List.filter_append]; simp [hh]
        have hfl : ((List.range i).filter (hasI m d)).length ≤ i := by have h1 := List.length_filter_le (hasI m d) (List.range i); rw [List.length_range] at h1; exact h1
        have hdl := nodeD_len n f (d + 1) (childI m d i)
        repeat (first | exact trivial | refine stpg ?_)
        rw [hwv]
        refine stC ?_
        intro w6 hP6 hz6 hB6
        refine toldZ ?_
        refine stp ?_
        refine drawH (fun W => Blk W w1.heap.size 51 [.int .u16 (bmK (hasI m d) (i + 1) : Nat), .slice a3 ((List.range i).filter (hasI m d)).length c3]) [0, 1, 2, 3, 4, 5, 6, 7, 8, 9, 10] mixed (by decide +kernel) (fun w7 hE7 hh7 => ⟨hB6.ext hE7, ?_⟩)
        have hz7 := hE7.size
        repeat (first | exact trivial | refine stpg ?_)
        refine loadS_of (.slice a3 ((List.range i).filter (hasI m d)).length c3) (fun w' h => by refine stp ?_; exact ldCg rfl h) ?_
        repeat (first | exact trivial | refine stpg ?_)
        rw [show IntKind.i64.wrap ((d : Int) + 1) = ((d + 1 : Nat) : Int) from by rw [w64 (by omega) (by omega)]; omega]
        have hJ7 : ItemsAt w7 (.slice ja js.length jc) js := ⟨SlC.of_own (((hJ.ext hE5).put (Blk.go (h := hB3')) (by decide) hP6).ext hE7), fun q hq => (hm.mem q (hjm q hq)).ext .go⟩
        refine (ih (d + 1) js (childI m d i) _ w7 hJ7 hjy (hO.child d i) (hP.child i) (child_ne hh) (by omega) (by omega)).mono ?_
        rintro _ w8 ⟨rfl, hE8⟩
        have hz8 := hE8.size
        refine toldS .go ?_
        repeat (first | exact trivial | refine stpg ?_)
        refine ⟨by rw [vbs_len]; exact hdl, ?_⟩
        first | refine newS ?_ | refine newZ ?_
        intro w9 hE9 hz9 hB9
        refine toldS .go ?_
        repeat (first | exact trivial | refine stpg ?_)
        have hO6 := ((hO3.ext (hE4.trans' hE5)).put (Blk.go (h := hB3')) (by decide) hP6)
        have hO9 := hO6.ext (hE7.trans' (hE8.trans' hE9))
        have hB69 := hB6.ext (hE7.trans' (hE8.trans' hE9))
        refine apDg (us := ((List.range i).filter (hasI m d)).map fun c => nodeD n f (d + 1) (childI m d c)) (by rw [List.length_map]) hO9 (by omega) hB9 hdl (by omega) (fun a10 c10 w10 hO10 hg10 hE10 => ?_)
        have hz10 := hE10.size
        have hB610 : Blk w10 w1.heap.size 51 _ := ⟨by rw [hg10.block _ hB69.lt (fun e => hO9.not_blk hB69 (by decide) e.symm)]; exact hB69.out⟩
        refine toldS hB610 ?_
        repeat (first | exact trivial | refine stpg ?_)
        refine stC ?_
        intro w11 hP11 hz11 hB11
        refine toldZ ?_
        repeat (first | exact trivial | refine stpg ?_)
        rw [show ((List.range i).filter (hasI m d)).length + 1 = ((List.range (i + 1)).filter (hasI m d)).length from by rw [hfe, List.length_append]; rfl, show (((List.range i).filter (hasI m d)).map fun c => nodeD n f (d + 1) (childI m d c)) ++ [nodeD n f (d + 1) (childI m d i)] = ((List.range (i + 1)).filter (hasI m d)).map fun c => nodeD n f (d + 1) (childI m d c) from by rw [hfe, List.map_append]; rfl] at hO10
        rw [show ((List.range i).filter (hasI m d)).length + 1 = ((List.range (i + 1)).filter (hasI m d)).length from by rw [hfe, List.length_append]; rfl] at hB11
        exact ⟨(i + 1, a10, c10), ⟨.go, by omega, by simp only; omega, .go, hB11, hO10.put hB610 (by decide) hP11⟩, by rw [w64 (by omega) (by omega)]; rfl, by simp only; omega⟩
      · have hh : hasI m d i = false := by
          unfold hasI
          rw [List.length_eq_zero_iff.1 (by omega : (childI m d i).length = 0)]
          rfl
        have hfe : (List.range (i + 1)).filter (hasI m d) = (List.range i).filter (hasI m d) := by rw [List.range_succ, List.filter_append]; simp [hh]
        repeat (first | exact trivial | refine stpg ?_)
        refine ⟨(i + 1, a3, c3), ⟨.go, by omega, by simp only; omega, .go, ?_, ?_⟩, by rw [w64 (by omega) (by omega)]; rfl, by simp only; omega⟩
        · simp only
          rw [hfe, bmK, hh]
          exact Blk.go
        · simp only
          rw [hfe]
          exact hO3.ext .go
    · obtain rfl : i = 16 := by omega
      repeat (first | exact trivial | refine stpg ?_)
      refine stW ?_
      intro w4 hP4 hz4 hB4
      repeat (first | exact trivial | refine stpg ?_)
      have hk : kidsI n f d m = ((List.range 16).filter (hasI m d)).map fun c => nodeD n f (d + 1) (childI m d c) := by unfold kidsI; rw [setB_bm]
      refine ⟨_, rfl, ?_, .go⟩
      rw [hk, List.length_map]
      exact (hO3.put hB3 (by decide) hP4).base (by omega)
theorem kids_digs {n : Int} {f d B : Nat} {m : List It} {w : World} {kv : Value} (h : Own w B 28 32 kv (kidsI n f d m).length ((kidsI n f d m).flatMap vbs)) : DigsAt w kv (kidsI n f d m) := ⟨kidsI_32 _ _ _ _, SlC.of_own h⟩
theorem OkI.bucket_le2 {n : Int} {m : List It} {ps : List PR} (h : OkI n m) (hd : ps.map PR.dat = m.map It.pr) (hl : m.length ≤ 1000000000) : (bucketP (ps.map PR.dat)).length + 200 ≤ 140737488355328 := by
  rw [hd]
  have h1 := pairsB_leI (m.map It.pr) (fun q hq => by obtain ⟨y, hy, rfl⟩ := List.mem_map.1 hq; exact h.short y hy)
  rw [List.length_map] at h1
  have u1 := uvarP_len10 (n := m.length) (by omega)
  simp only [bucketP, List.length_cons, List.length_append, List.length_map]
  omega
theorem bmI_ne {m : List It} {d : Nat} (h : m ≠ []) : bmI m d ≠ 0 := by
  obtain ⟨y, hy⟩ := List.exists_mem_of_ne_nil _ h
  intro h0
  have h1 := bmI_bit m d (digP y.D d)
  rw [h0, has_iff.2 ⟨y, hy, rfl⟩, decide_eq_true (digP_lt _ _)] at h1
  simp at h1
theorem brE_kids {n : Int} (hw : widB n = true) {f d : Nat} {m : List It} (hm : m ≠ []) : brE n (bmI m d) (kidsI n f d m) = 0 := by
  have hc : chkE n (kidsI n f d m) = 0 := by
    unfold chkE
    rw [if_pos hw, if_pos]
    intro x hx
    obtain ⟨c, _, rfl⟩ := List.mem_map.1 hx
    exact form_node n hw _ _ _
  unfold brE
  rw [hc, if_neg (by simp), if_neg]
  rintro (h | h)
  · exact bmI_ne hm h
  · exact h (kidsI_len n f d m).symm
theorem nodeR_ok (n : Nat) (hn : 1 ≤ n) (hn2 : n ≤ 32) : ∀ f, NodeC n f := by
  have hw : widB n = true := (widB_iff n).2 (by omega)
  intro f
  induction f using Nat.strongRecOn with
  | ind f ih =>
    intro d is m mv w hm hy hO hP hne hdf hml
    have hml' : m.length = is.length := by rw [← hy, List.length_map]
    obtain ⟨a, c, rfl⟩ := slv_of hm.sl
    have hdat : (is.map IR.pr).map PR.dat = m.map It.pr := by rw [pr_dat, hy]
    refine enterT Tryz.func245 rfl Tryz.ntmps245 Tryz.results245 rfl (by decide) ?_
    repeat (first | exact trivial | refine stpg ?_)
    first | refine newS ?_ | refine newZ ?_
    intro w1 hE1 hz1 hB1
    repeat (first | exact trivial | refine stpg ?_)
    refine (singleR_ok is m _ w1 (hm.ext .go) hy hO.sorted (by omega)).mono ?_
    rintro _ w2 ⟨rfl, hE2⟩
    have hz2 := hE2.size
    repeat (first | exact trivial | refine stpg ?_)
    cases hs : singleB m
    · have hdn := br_depth hs hP (hO.form hw)
      obtain ⟨f, rfl⟩ : ∃ k, f = k + 1 := ⟨f - 1, by omega⟩
      have hkl := kidsI_len n f d m
      have hc16 := cnt_le (bmI m d)
      rw [nodeD_br n f d hs]
      repeat (first | exact trivial | refine stpg ?_)
      refine (stepR_ok n hn hn2 f (ih f (by omega)) d is m _ w2 (hm.ext .go) hy hO hP (by omega) hml).mono ?_
      rintro _ w3 ⟨kv, rfl, hD3o, hE3⟩
      have hD3 := kids_digs hD3o
      have hz3 := hE3.size
      obtain ⟨ka, kc, rfl⟩ := slv_of hD3.2
      repeat (first | exact trivial | refine stpg ?_)
      first | refine newS ?_ | refine newZ ?_
      intro w4 hE4 hz4 hB4
      repeat (first | exact trivial | refine stpg ?_)
      refine (RBranch_ok n (bmI m d) hn2 (bmI_lt m d) _ _ w4 ((hD3.ext hE4)) (by omega)).mono ?_
      rintro _ w5 ⟨rfl, hE5⟩
      have hz5 := hE5.size
      have hcl5 := sumP_len n (branchP n (bmI m d) (kidsI n f d m)) hn2
      repeat (first | exact trivial | refine stpg ?_)
      refine stW ?_
      intro w6 hP6 hz6 hB6
      repeat (first | exact trivial | refine stpg ?_)
      refine ⟨?_, .go⟩
      rw [brD, if_pos (brE_kids hw hne), sumR_P hn hn2, Int.toNat_natCast]
    · repeat (first | exact trivial | refine stpg ?_)
      refine (PairsR_ok is _ w2 (hm.ext .go) (by omega)).mono ?_
      rintro v3 w3 ⟨hP3, hE3⟩
      have hz3 := hE3.size
      repeat (first | exact trivial | refine stpg ?_)
      refine (RBucket_ok n hn2 v3 (is.map IR.pr) w3 hP3 ?_).mono ?_
      · exact hO.bucket_le2 hdat (by omega)
      · rintro _ w4 ⟨rfl, hE4⟩
        have hz4 := hE4.size
        rw [hdat]
        have hcl4 := sumP_len n (bucketP (m.map It.pr)) hn2
        repeat (first | exact trivial | refine stpg ?_)
        refine stW ?_
        intro w5 hP5 hz5 hB5
        repeat (first | exact trivial | refine stpg ?_)
        refine ⟨?_, .go⟩
        rw [nodeD_single n f d hs, bkD, sumR_P hn hn2]
end Go.Proofs.YthlkfjoibjhaiaaGreatDoor

/-! Its -/
namespace Go.Proofs.YthlkfjoibjhaiaaGreatDoor
set_option maxRecDepth 100000
set_option maxHeartbeats 2000000
open Go Go.RowKit
set_option linter.unusedVariables false
set_option linter.unusedSimpArgs false

theorem OkI.nil (n : Int) : OkI n [] := ⟨by unfold SortedI; simp, by simp, by simp⟩
end Go.Proofs.YthlkfjoibjhaiaaGreatDoor

/-! Ito -/
namespace Go.Proofs.YthlkfjoibjhaiaaGreatDoor
set_option maxRecDepth 100000
set_option maxHeartbeats 2000000
open Go Go.RowKit
set_option linter.unusedVariables false
set_option linter.unusedSimpArgs false

theorem OkI.putAll {n : Int} : ∀ (l : List (List UInt8 × List UInt8)) {m : List It}, OkI n m → (∀ p ∈ l, p.1.length ≤ 64 ∧ p.2.length ≤ 256) → OkI n (putAll n m l)
  | [], _, h, _ => h
  | p :: l, m, h, hl => OkI.putAll l (h.put rfl (hl p (by simp))) (fun q hq => hl q (by simp [hq]))
/-- The pairs that are not too long. -/
def shortP (l : List (List UInt8 × List UInt8)) : List (List UInt8 × List UInt8) := l.filter fun p => decide (¬ (64 < p.1.length ∨ 256 < p.2.length))
theorem shortP_ok (l : List (List UInt8 × List UInt8)) : ∀ p ∈ shortP l, p.1.length ≤ 64 ∧ p.2.length ≤ 256 := fun p hp => by
  have h := (List.mem_filter.1 hp).2
  rw [decide_eq_true_eq] at h
  omega
def grownI (n : Int) (l : List (List UInt8 × List UInt8)) : List It := putAll n [] (shortP l)
theorem grownI_ok (n : Int) (l : List (List UInt8 × List UInt8)) : OkI n (grownI n l) := (OkI.nil n).putAll _ (shortP_ok l)
theorem grownI_len (n : Int) (l : List (List UInt8 × List UInt8)) : (grownI n l).length ≤ l.length := by
  have h1 := putAll_len (n := n) (shortP l) []
  have h2 : (shortP l).length ≤ l.length := List.length_filter_le _ _
  unfold grownI
  simp only [List.length_nil] at h1
  omega
theorem grownI_snoc (n : Int) (l : List (List UInt8 × List UInt8)) (p : List UInt8 × List UInt8) : grownI n (l ++ [p]) = if 64 < p.1.length ∨ 256 < p.2.length then grownI n l else putI (grownI n l) ⟨keyD n p.1, p.1, p.2⟩ := by
  unfold grownI shortP
  rw [List.filter_append]
  by_cases h : 64 < p.1.length ∨ 256 < p.2.length
  · rw [if_pos h, List.filter_cons_of_neg (by rw [decide_eq_true_eq]; exact fun hn => hn h), List.filter_nil, List.append_nil]
  · rw [if_neg h, List.filter_cons_of_pos (by rw [decide_eq_true_eq]; exact h), List.filter_nil, putAll_snoc]
end Go.Proofs.YthlkfjoibjhaiaaGreatDoor

/-! Wlk -/
namespace Go.Proofs.YthlkfjoibjhaiaaGreatDoor
set_option maxRecDepth 100000
set_option maxHeartbeats 2000000
open Go Go.RowKit
set_option linter.unusedVariables false
set_option linter.unusedSimpArgs false

/-- The items that are left i digits further down the way of K. -/
def wmI (K : List UInt8) : Nat → Nat → List It → List It
  | 0, _, m => m
  | i + 1, d, m => wmI K i (d + 1) (childI m d (digP K d))
theorem wmI_step (K : List UInt8) : ∀ (i d : Nat) (m : List It), wmI K (i + 1) d m = childI (wmI K i d m) (d + i) (digP K (d + i))
  | 0, d, m => rfl
  | i + 1, d, m => by
    rw [wmI, wmI_step K i (d + 1), wmI, show d + 1 + i = d + (i + 1) from by omega]
theorem wmI_ok {n : Int} (K : List UInt8) : ∀ (i d : Nat) {m : List It}, OkI n m → Pre d m → OkI n (wmI K i d m) ∧ Pre (d + i) (wmI K i d m)
  | 0, d, m, h, hp => ⟨h, hp⟩
  | i + 1, d, m, h, hp => by
    have := wmI_ok K i (d + 1) (h.child d (digP K d)) (hp.child (digP K d))
    rw [show d + 1 + i = d + (i + 1) from by omega] at this
    exact this
theorem wmI_sub (K : List UInt8) : ∀ (i d : Nat) {m : List It} {y : It}, y ∈ wmI K i d m ↔ y ∈ m ∧ ∀ j, j < i → digP y.D (d + j) = digP K (d + j)
  | 0, d, m, y => ⟨fun h => ⟨h, fun j hj => by omega⟩, fun h => h.1⟩
  | i + 1, d, m, y => by
    rw [wmI, wmI_sub K i (d + 1), mem_child]
    constructor
    · rintro ⟨⟨h1, h2⟩, h3⟩
      refine ⟨h1, fun j hj => ?_⟩
      cases j with
      | zero => exact h2
      | succ j => have := h3 j (by omega); rwa [show d + 1 + j = d + (j + 1) from by omega] at this
    · rintro ⟨h1, h2⟩
      refine ⟨⟨h1, h2 0 (by omega)⟩, fun j hj => ?_⟩
      have := h2 (j + 1) (by omega)
      rwa [show d + (j + 1) = d + 1 + j from by omega] at this
theorem walk_spec {n : Int} (hw : widB n = true) (K : List UInt8) : ∀ (f d : Nat) (m : List It), OkI n m → Pre d m → d + f = 64 →
    (∀ i, i < (walkI n K f d m).1.length → (walkI n K f d m).1[i]? = some (bmI (wmI K i d m) (d + i), kidsI n (f - 1 - i) (d + i) (wmI K i d m)) ∧ singleB (wmI K i d m) = false) ∧
    (walkI n K f d m).2 = wmI K (walkI n K f d m).1.length d m ∧ singleB (wmI K (walkI n K f d m).1.length d m) = true := by
  have hwn := (widB_iff n).1 hw
  obtain ⟨nn, rfl⟩ : ∃ nn : Nat, n = nn := ⟨n.toNat, by omega⟩
  intro f
  induction f with
  | zero =>
    intro d m hO hP hdf
    have hs : singleB m = true := by
      cases hs : singleB m
      · have := br_depth hs hP (hO.form hw); omega
      · rfl
    rw [walkI_single _ _ _ _ hs]
    exact ⟨fun i hi => by simp at hi, rfl, hs⟩
  | succ f ih =>
    intro d m hO hP hdf
    cases hs : singleB m
    · obtain ⟨h1, h2, h3⟩ := ih (d + 1) (childI m d (digP K d)) (hO.child _ _) (hP.child _) (by omega)
      rw [walkI, if_neg (by simp [hs])]
      split
      · refine ⟨fun i hi => ?_, ?_, ?_⟩
        · cases i with
          | zero => exact ⟨rfl, hs⟩
          | succ i =>
            have h4 := h1 i (by simpa using hi)
            rw [show d + 1 + i = d + (i + 1) from by omega, show f - 1 - i = f + 1 - 1 - (i + 1) from by omega] at h4
            exact ⟨by rw [List.getElem?_cons_succ]; exact h4.1, h4.2⟩
        · exact h2
        · exact h3
      · rename_i hn
        have he : childI m d (digP K d) = [] := by unfold hasI at hn; simpa using hn
        refine ⟨fun i hi => ?_, ?_, ?_⟩
        · obtain rfl : i = 0 := by simp at hi; exact hi
          exact ⟨rfl, hs⟩
        · exact he.symm
        · show singleB (childI m d (digP K d)) = true
          rw [he]
          rfl
    · rw [walkI_single _ _ _ _ hs]
      exact ⟨fun i hi => by simp at hi, rfl, hs⟩
theorem wmI_len (K : List UInt8) : ∀ (i d : Nat) (m : List It), (wmI K i d m).length ≤ m.length
  | 0, _, _ => Nat.le_refl _
  | i + 1, d, m => Nat.le_trans (wmI_len K i (d + 1) _) (List.length_filter_le _ _)
theorem ldStepS {w : World} {b o i q : Nat} {K : Value → Prop} {ss : List SR} {x : SR} (hx : ss[i]? = some x) (hK : K (.agg [.int .u16 x.bm, x.kv].toArray)) (hR : RowA w b o 2 SR.cells ss := by exact RowA.go) (hq : q = o + i * 2 := by first | exact rfl | omega | simp) : ldN w 2 b q K := ldRow hx hK hR hq
theorem rank0 (bm : Nat) : rankB bm 0 = 0 := by
  rw [show (0 : Int) = ((0 : Nat) : Int) from rfl, rank_nat, List.filter_eq_nil_iff.2 (fun j _ => by simp)]
  rfl
theorem rank_succ (bm j : Nat) (hj : j < 16) : rankB bm ((j + 1 : Nat) : Int) = rankB bm (j : Int) + (if bm.testBit j = true then 1 else 0) := by
  rw [cnt_lows, cnt_lows]
  have e1 : (fun k => bm.testBit k && decide (k < j + 1)) = fun k => (bm.testBit k && decide (k < j)) || (decide (k = j) && bm.testBit j) := by
    funext k
    by_cases e : k = j
    · subst e; simp
    · by_cases h : k < j
      · simp [e, h, Nat.lt_succ_of_lt h]
      · have : ¬ k < j + 1 := by omega
        simp [e, h, this]
  rw [e1, count_or]
  · congr 1
    cases hb : bm.testBit j
    · simp
    · rw [if_pos rfl]
      have hh : ∀ k : Fin 16, ((List.range 16).filter (fun i => decide (i = k.1) && true)).length = 1 := by decide +kernel
      exact hh ⟨j, hj⟩
  · rintro k _ ⟨h1, h2⟩
    simp only [Bool.and_eq_true, decide_eq_true_eq] at h1 h2
    omega
end Go.Proofs.YthlkfjoibjhaiaaGreatDoor

/-! Itr -/
namespace Go.Proofs.YthlkfjoibjhaiaaGreatDoor
set_option maxRecDepth 100000
set_option maxHeartbeats 2000000
end Go.Proofs.YthlkfjoibjhaiaaGreatDoor

/-! Rfd -/
namespace Go.Proofs.YthlkfjoibjhaiaaGreatDoor
set_option maxRecDepth 100000
set_option maxHeartbeats 2000000
open Go Go.RowKit
set_option linter.unusedVariables false
set_option linter.unusedSimpArgs false
set_option maxHeartbeats 1000000
attribute [local irreducible] vcT opsT qT vcOp Q1 vcPure vcLoad vcStore ldC ldN ldD grdT grdQ vc vcOps vcQ hT
attribute [local irreducible] sumR sumP shaP keyD bucketP branchP

theorem ItemAt.c32 {w : World} {p : IR} (h : ItemAt w p) : p.cells[32]? = some p.kv := by
  unfold IR.cells
  rw [List.getElem?_append_right (by rw [vbs_len, h.len]; decide), vbs_len, h.len]
  rfl
theorem ItemAt.c33 {w : World} {p : IR} (h : ItemAt w p) : p.cells[33]? = some p.vv := by
  unfold IR.cells
  rw [List.getElem?_append_right (by rw [vbs_len, h.len]; decide), vbs_len, h.len]
  rfl
theorem WalkO_ok (n : Nat) (hn : 1 ≤ n) (hn2 : n ≤ 32) (is : List IR) (m : List It) (key : List UInt8) (mv kv : Value) (w : World) (hm : ItemsAt w mv is) (hy : is.map IR.y = m) (hO : OkI n m) (hk : SlB w kv key) (hkl : key.length ≤ 4000000000) (hml : is.length ≤ 90000000) :
    CallK Tryz.prog 139 [.int .i64 n, mv, kv].toArray w fun v w' => ∃ (sv pv : Value) (tt : List SR) (js : List IR), v = .tuple [sv, pv].toArray ∧ Own w' w.heap.size 51 2 sv tt.length (tt.flatMap SR.cells) ∧ RunK w' w'.heap.size w.heap.size tt ∧ Own w' w.heap.size 47 2 pv js.length ((js.map IR.pr).flatMap PR.cells) ∧ (∀ q ∈ js, q ∈ is) ∧ tt.map SR.dt = (walkI n (keyD n key) 64 0 m).1 ∧ (js.map IR.pr).map PR.dat = (walkI n (keyD n key) 64 0 m).2.map It.pr ∧ Ext w w' := by
  obtain ⟨a, c, rfl⟩ := slv_of hm.sl
  obtain ⟨ka, kc, rfl⟩ := slv_of hk
  have hw : widB n = true := (widB_iff n).2 (by omega)
  refine enterT Tryz.func139 rfl Tryz.ntmps139 Tryz.results139 rfl (by decide) ?_
  repeat (first | exact trivial | refine stpg ?_)
  refine (RKeyD_ok n hn hn2 key _ w (hk.ext .go) (by omega)).mono ?_
  rintro _ w1 ⟨rfl, hE1⟩
  have hz1 := hE1.size
  have hKl := keyD_len n key
  repeat (first | exact trivial | refine stpg ?_)
  first | refine newS ?_ | refine newZ ?_
  intro w2 hE2 hz2 hB2
  obtain ⟨hst, hend, hsg⟩ := walk_spec hw (keyD n key) 64 0 m hO hO.pre rfl
  generalize hLe : (walkI n (keyD n key) 64 0 m).1 = L at *
  simp only [Nat.zero_add] at hst
  repeat (first | exact trivial | refine stpg ?_)
  refine loopX (ι := Nat × List IR × Value × List SR × Option Addr × Nat) (fun x => [(0, .int .i64 n), (1, x.2.2.1), (8, .slice x.2.2.2.2.1 x.2.2.2.1.length x.2.2.2.2.2), (9, .pointer (some ⟨w1.heap.size, 0, none⟩)), (10, .int .i64 x.1)])
    (fun x W => Ext w2 W ∧ w2.heap.size ≤ W.heap.size ∧ x.1 ≤ L.length ∧ (x.2.1 = is ∧ x.2.2.1 = .slice a is.length c ∨ Own W w2.heap.size 230 34 x.2.2.1 x.2.1.length (x.2.1.flatMap IR.cells)) ∧ (∀ q ∈ x.2.1, q ∈ is) ∧ x.2.1.map IR.y = wmI (keyD n key) x.1 0 m ∧ x.2.2.2.1.length = x.1 ∧
      Own W w2.heap.size 51 2 (.slice x.2.2.2.2.1 x.2.2.2.1.length x.2.2.2.2.2) x.2.2.2.1.length (x.2.2.2.1.flatMap SR.cells) ∧ RunK W W.heap.size w2.heap.size x.2.2.2.1 ∧ x.2.2.2.1.map SR.dt = L.take x.1) (fun x => L.length - x.1)
    (0, is, .slice a is.length c, [], none, 0) ⟨.go, Nat.le_refl _, Nat.zero_le _, Or.inl ⟨rfl, rfl⟩, fun _ h => h, hy, rfl, Own.nil _ _ _ _, Nat.le_refl _, rfl⟩ ?_ ?_
  · repeat (first | exact trivial | refine stpg ?_)
    rfl
  · rintro ⟨d, js, v, tt, ta, tc⟩ s3 w3 ⟨hE3, hz3, hd, hrow, hjs, hjy, htl, hOs, hRs, htd⟩
    simp only at hd hrow hjs hjy htl hOs hRs htd
    have hIt : ∀ {W : World}, Ext w W → (js = is ∧ v = .slice a is.length c ∨ Own W w2.heap.size 230 34 v js.length (js.flatMap IR.cells)) → ItemsAt W v js := fun e h => by
      refine ⟨?_, fun q hq => (hm.mem q (hjs q hq)).ext e⟩
      rcases h with ⟨rfl, rfl⟩ | h
      · exact hm.sl.ext e
      · exact SlC.of_own h
    have hI3 := hIt (W := w3) .go hrow
    have hjl : js.length ≤ is.length := by
      have h1 := congrArg List.length hjy
      have h2 := congrArg List.length hy
      have h3 : (wmI (keyD n key) d 0 m).length ≤ m.length := by
        have : ∀ (i e : Nat) (l : List It), (wmI (keyD n key) i e l).length ≤ l.length := by
          intro i
          induction i with
          | zero => intro e l; exact Nat.le_refl _
          | succ i ih => intro e l; exact Nat.le_trans (ih _ _) (List.length_filter_le _ _)
        exact this d 0 m
      simp only [List.length_map] at h1 h2
      omega
    obtain ⟨hOd, hPd⟩ := wmI_ok (n := n) (keyD n key) d 0 hO hO.pre
    rw [Nat.zero_add] at hPd
    obtain ⟨va, vc, rfl⟩ := slv_of hI3.sl
    repeat (first | exact trivial | refine stpg ?_)
    refine (singleR_ok js _ _ w3 hI3 hjy hOd.sorted (by omega)).mono ?_
    rintro _ w4 ⟨rfl, hE4⟩
    have hz4 := hE4.size
    by_cases hdl : d < L.length
    · obtain ⟨hs1, hs2⟩ := hst d hdl
      rw [hs2]
      have hdn := br_depth hs2 hPd (hOd.form hw)
      have hI4 := hIt (W := w4) .go (hrow.imp_right (·.ext .go))
      have hcn := cnt_le (bmI (wmI (keyD n key) d 0 m) d)
      have hkl := kidsI_len n (64 - 1 - d) d (wmI (keyD n key) d 0 m)
      repeat (first | exact trivial | refine stpg ?_)
      refine (stepR_ok n hn hn2 (64 - 1 - d) (nodeR_ok n hn hn2 _) d js _ _ w4 hI4 hjy hOd hPd (by omega) (by omega)).mono ?_
      rintro _ w5 ⟨kv, rfl, hK5, hE5⟩
      have hz5 := hE5.size
      have hbm := bmI_lt (wmI (keyD n key) d 0 m) d
      have hk32 := kidsI_32 n (64 - 1 - d) d (wmI (keyD n key) d 0 m)
      generalize hKe : kidsI n (64 - 1 - d) d (wmI (keyD n key) d 0 m) = ks at *
      obtain ⟨ka5, kc5, rfl⟩ := own_slice hK5
      repeat (first | exact trivial | refine stpg ?_)
      refine ⟨rfl, rfl, ?_⟩
      first | refine newS ?_ | refine newZ ?_
      intro w6 hE6 hz6 hB6
      refine apStep (us := tt) (p := ⟨.slice ka5 ks.length kc5, bmI (wmI (keyD n key) d 0 m) d, ks⟩) (hOs.ext .go) (by omega) hB6 rfl (by omega) (fun a8 c8 w8 hO8 hg8 hE8 => ?_)
      have hz8 := hE8.size
      have hO6 := hOs.ext (w' := w6) .go
      have hR8 : RunK w8 w8.heap.size w2.heap.size (tt ++ [⟨.slice ka5 ks.length kc5, bmI (wmI (keyD n key) d 0 m) d, ks⟩]) := by
        refine RunK.append (m := w4.heap.size) (RunK.grown hO6 (by decide) hg8 ((hRs.ext .go).top hz4)) ⟨w8.heap.size, by omega, ⟨hbm, hk32, (hK5.ext .go).grown_ne hO6 (by decide) hg8, fun g hg => ?_⟩, Nat.le_refl _⟩
        have := (hK5.ext (w' := w6) .go).top g hg
        omega
      have hdt : (tt ++ [(⟨.slice ka5 ks.length kc5, bmI (wmI (keyD n key) d 0 m) d, ks⟩ : SR)]).map SR.dt = L.take (d + 1) := by
        obtain ⟨h1, h2⟩ := List.getElem?_eq_some_iff.1 hs1
        rw [List.map_append, htd, List.take_succ_eq_append_getElem h1, h2]
        rfl
      have htl' : (tt ++ [(⟨.slice ka5 ks.length kc5, bmI (wmI (keyD n key) d 0 m) d, ks⟩ : SR)]).length = d + 1 := by rw [List.length_append, htl]; rfl
      generalize tt ++ [(⟨.slice ka5 ks.length kc5, bmI (wmI (keyD n key) d 0 m) d, ks⟩ : SR)] = tt' at *
      have hrow8 : js = is ∧ (.slice va js.length vc : Value) = .slice a is.length c ∨ Own w8 w2.heap.size 230 34 (.slice va js.length vc) js.length (js.flatMap IR.cells) := hrow.imp_right fun h => (h.ext (w' := w6) .go).grown_ne hO6 (by decide) hg8
      repeat (first | exact trivial | refine stpg ?_)
      refine (DigitR_ok (keyD n key) hKl d (by omega) w8).mono ?_
      rintro _ w9 ⟨rfl, hE9⟩
      have hz9 := hE9.size
      have hdg := digP_lt (keyD n key) d
      have hI9 := hIt (W := w9) .go (hrow8.imp_right (·.ext .go))
      repeat (first | exact trivial | refine stpg ?_)
      refine (childR_ok js _ d _ (by omega) hdg w9 hI9 (by omega)).mono ?_
      rintro v10 w10 ⟨⟨js', hJ', hjm', hjy'⟩, hE10⟩
      have hz10 := hE10.size
      repeat (first | exact trivial | refine stpg ?_)
      refine ⟨(d + 1, js', v10, tt', a8, c8), ⟨.go, by omega, by simp only; omega, Or.inr (hJ'.base (by omega)), fun q hq => hjs q (hjm' q hq), ?_, htl', hO8.ext .go, (hR8.ext .go).top (by omega), hdt⟩, ⟨rfl, rfl, by rw [w64 (by omega) (by omega)]; rfl⟩, by simp only; omega⟩
      simp only
      rw [hjy', hjy, wmI_step, Nat.zero_add]
    · obtain rfl : d = L.length := by omega
      rw [hsg]
      repeat (first | exact trivial | refine stpg ?_)
      refine (PairsO_ok js _ w4 (hIt (W := w4) .go (hrow.imp_right (·.ext .go))) (by omega)).mono ?_
      rintro v5 w5 ⟨hP5, hE5⟩
      have hz5 := hE5.size
      repeat (first | exact trivial | refine stpg ?_)
      rw [List.take_length] at htd
      refine ⟨_, _, tt, js, rfl, (hOs.ext .go).base (by omega), RunK.append (l := []) (m := w2.heap.size) (by show w.heap.size ≤ _; omega) ((hRs.ext .go).top (by omega)), hP5.base (by omega), hjs, htd, ?_, .go⟩
      rw [pr_dat, hjy, hend]
theorem SamePair_ok (p q : PR) (w : World) (h1 : SlB w p.kv p.k) (h2 : SlB w p.vv p.v) (h3 : SlB w q.kv q.k) (h4 : SlB w q.vv q.v) :
    CallK Tryz.prog 244 [.agg [p.kv, p.vv].toArray, .agg [q.kv, q.vv].toArray].toArray w fun v w' => v = .bool (decide (p.dat = q.dat)) ∧ Ext w w' := by
  obtain ⟨kv, vv, k, v⟩ := p
  obtain ⟨kv', vv', k', v'⟩ := q
  simp only at h1 h2 h3 h4
  obtain ⟨a1, c1, rfl⟩ := slv_of h1
  obtain ⟨a2, c2, rfl⟩ := slv_of h2
  obtain ⟨a3, c3, rfl⟩ := slv_of h3
  obtain ⟨a4, c4, rfl⟩ := slv_of h4
  refine enterT Tryz.func244 rfl Tryz.ntmps244 Tryz.results244 rfl (by decide) ?_
  repeat (first | exact trivial | refine stpg ?_)
  first | refine newS ?_ | refine newZ ?_
  intro w1 hE1 hz1 hB1
  first | refine newS ?_ | refine newZ ?_
  intro w2 hE2 hz2 hB2
  repeat (first | exact trivial | refine stpg ?_)
  refine (Same_ok k k' _ _ w2 (h1.ext .go) (h3.ext .go)).mono ?_
  rintro _ w3 ⟨rfl, hE3⟩
  have hz3 := hE3.size
  by_cases hk : k = k'
  · rw [decide_eq_true hk]
    repeat (first | exact trivial | refine stpg ?_)
    refine (Same_ok v v' _ _ w3 (h2.ext .go) (h4.ext .go)).mono ?_
    rintro _ w4 ⟨rfl, hE4⟩
    have hz4 := hE4.size
    repeat (first | exact trivial | refine stpg ?_)
    refine ⟨?_, .go⟩
    simp only [PR.dat, Prod.mk.injEq, hk, true_and]
  · rw [decide_eq_false hk]
    repeat (first | exact trivial | refine stpg ?_)
    refine ⟨?_, .go⟩
    rw [decide_eq_false]
    intro h
    exact hk (congrArg Prod.fst h)
theorem SamePairs_ok (ps qs : List PR) (pv qv : Value) (w : World) (hp : PairsAt w pv ps) (hq : PairsAt w qv qs) :
    CallK Tryz.prog 127 [pv, qv].toArray w fun v w' => v = .bool (decide (ps.map PR.dat = qs.map PR.dat)) ∧ Ext w w' := by
  have hpn : ps.length ≤ 9223372036854775807 := by obtain ⟨_, _, _, h1, h2, _⟩ := hp.1; omega
  obtain ⟨pa, pc, rfl⟩ := slv_of hp.1
  obtain ⟨qa, qc, rfl⟩ := slv_of hq.1
  refine enterT Tryz.func127 rfl Tryz.ntmps127 Tryz.results127 rfl (by decide) ?_
  repeat (first | exact trivial | refine stpg ?_)
  refine ⟨fun hne => ⟨?_, .go⟩, fun he => ?_⟩
  · rw [decide_eq_false]
    intro h
    have := congrArg List.length h
    simp only [List.length_map] at this
    omega
  refine loopX (ι := Nat) (fun i => [(0, .slice pa ps.length pc), (1, .slice qa qs.length qc), (5, .int .i64 i)])
    (fun i W => Ext w W ∧ i ≤ ps.length ∧ (ps.take i).map PR.dat = (qs.take i).map PR.dat) (fun i => ps.length - i) 0 ⟨.go, Nat.zero_le _, rfl⟩ ?_ ?_
  · repeat (first | exact trivial | refine stpg ?_)
  · rintro i s1 w1 ⟨hE1, hi, htk⟩
    have hz1 := hE1.size
    repeat (first | exact trivial | refine stpg ?_)
    refine ⟨fun hlt => ?_, fun hge => ?_⟩
    · obtain ⟨b, o, rfl, hR⟩ := pr_row hp.1 (by omega)
      obtain ⟨b', o', rfl, hR'⟩ := pr_row hq.1 (by omega)
      obtain ⟨p, hx⟩ : ∃ x, ps[i]? = some x := ⟨_, List.getElem?_eq_getElem (by omega)⟩
      obtain ⟨q, hy⟩ : ∃ x, qs[i]? = some x := ⟨_, List.getElem?_eq_getElem (by omega)⟩
      obtain ⟨p1, p2⟩ := hp.2 _ (List.mem_of_getElem? hx)
      obtain ⟨q1, q2⟩ := hq.2 _ (List.mem_of_getElem? hy)
      repeat (first | exact trivial | refine stpg ?_)
      refine ldPair hx ?_
      repeat (first | exact trivial | refine stpg ?_)
      refine ldPair hy ?_
      repeat (first | exact trivial | refine stpg ?_)
      refine qcall _ (fun w' hw' => SamePair_ok p q w' (p1.ext .go) (p2.ext .go) (q1.ext .go) (q2.ext .go)) ?_
      have tk1 : ps.take (i + 1) = ps.take i ++ [p] := by
        obtain ⟨hil, he⟩ := List.getElem?_eq_some_iff.1 hx
        rw [List.take_succ_eq_append_getElem hil, he]
      have tk2 : qs.take (i + 1) = qs.take i ++ [q] := by
        obtain ⟨hil, he⟩ := List.getElem?_eq_some_iff.1 hy
        rw [List.take_succ_eq_append_getElem hil, he]
      by_cases hd : p.dat = q.dat
      · rw [decide_eq_true hd]
        repeat (first | exact trivial | refine stpg ?_)
        intro w2 hE2
        repeat (first | exact trivial | refine stpg ?_)
        exact ⟨i + 1, ⟨.go, by omega, by rw [tk1, tk2, List.map_append, List.map_append, htk]; simp only [List.map_cons, List.map_nil, hd]⟩, by rw [w64 (by omega) (by omega)]; rfl, by omega⟩
      · rw [decide_eq_false hd]
        repeat (first | exact trivial | refine stpg ?_)
        intro w2 hE2
        repeat (first | exact trivial | refine stpg ?_)
        refine ⟨?_, .go⟩
        rw [decide_eq_false]
        intro h
        have h3 := congrArg (·[i]?) h
        simp only [List.getElem?_map, hx, hy, Option.map_some, Option.some.injEq] at h3
        exact hd h3
    · obtain rfl : i = ps.length := by omega
      repeat (first | exact trivial | refine stpg ?_)
      refine ⟨?_, .go⟩
      rw [List.take_length, List.take_of_length_le (by omega)] at htk
      rw [decide_eq_true htk]
theorem SameSteps_ok (ss tt : List SR) (sv tv : Value) (w : World) (hs : StepsAt w sv ss) (ht : StepsAt w tv tt) :
    CallK Tryz.prog 34 [sv, tv].toArray w fun v w' => v = .bool (decide (ss.map SR.dt = tt.map SR.dt)) ∧ Ext w w' := by
  have hsn : ss.length ≤ 9223372036854775807 := by obtain ⟨_, _, _, h1, h2, _⟩ := hs.1; omega
  obtain ⟨sa, sc, rfl⟩ := slv_of hs.1
  obtain ⟨ta, tc, rfl⟩ := slv_of ht.1
  refine enterT Tryz.func34 rfl Tryz.ntmps34 Tryz.results34 rfl (by decide) ?_
  repeat (first | exact trivial | refine stpg ?_)
  refine ⟨fun hne => ⟨?_, .go⟩, fun he => ?_⟩
  · rw [decide_eq_false]
    intro h
    have := congrArg List.length h
    simp only [List.length_map] at this
    omega
  refine loopX (ι := Nat) (fun i => [(0, .slice sa ss.length sc), (1, .slice ta tt.length tc), (5, .int .i64 i)])
    (fun i W => Ext w W ∧ i ≤ ss.length ∧ (ss.take i).map SR.dt = (tt.take i).map SR.dt) (fun i => ss.length - i) 0 ⟨.go, Nat.zero_le _, rfl⟩ ?_ ?_
  · repeat (first | exact trivial | refine stpg ?_)
  · rintro i s1 w1 ⟨hE1, hi, htk⟩
    have hz1 := hE1.size
    repeat (first | exact trivial | refine stpg ?_)
    refine ⟨fun hlt => ?_, fun hge => ?_⟩
    · obtain ⟨b, o, rfl, hR⟩ := hs.1.row (f := SR.cells) (sz := 2) (fun _ _ => rfl) (by decide) (by omega)
      obtain ⟨b', o', rfl, hR'⟩ := ht.1.row (f := SR.cells) (sz := 2) (fun _ _ => rfl) (by decide) (by omega)
      obtain ⟨p, hx⟩ : ∃ x, ss[i]? = some x := ⟨_, List.getElem?_eq_getElem (by omega)⟩
      obtain ⟨q, hy⟩ : ∃ x, tt[i]? = some x := ⟨_, List.getElem?_eq_getElem (by omega)⟩
      obtain ⟨p1, p2, p3⟩ := hs.2 _ (List.mem_of_getElem? hx)
      obtain ⟨q1, q2, q3⟩ := ht.2 _ (List.mem_of_getElem? hy)
      obtain ⟨pka, pkc, hpk⟩ := slv_of p3
      obtain ⟨qka, qkc, hqk⟩ := slv_of q3
      have ep : SR.cells p = [.int .u16 p.bm, .slice pka p.ks.length pkc] := by unfold SR.cells; rw [hpk]
      have eq : SR.cells q = [.int .u16 q.bm, .slice qka q.ks.length qkc] := by unfold SR.cells; rw [hqk]
      repeat (first | exact trivial | refine stpg ?_)
      refine ldRowF (f := SR.cells) 0 hx ?_
      repeat (first | exact trivial | refine stpg ?_)
      refine ldRowF (f := SR.cells) 0 hy ?_
      repeat (first | exact trivial | refine stpg ?_)
      have hno : p.dt ≠ q.dt → decide (ss.map SR.dt = tt.map SR.dt) = false := by
        intro hd
        rw [decide_eq_false]
        intro h
        have h3 := congrArg (·[i]?) h
        simp only [List.getElem?_map, hx, hy, Option.map_some, Option.some.injEq] at h3
        exact hd h3
      refine ⟨fun hb w2 hE2 => ⟨(hno fun h => hb (by have := congrArg Prod.fst h; simp only [SR.dt] at this; omega)).symm, .go⟩, fun hb => ⟨by omega, by omega, ?_⟩⟩
      refine ldRowF (f := SR.cells) 1 hx ?_ (hv := by rw [ep]; rfl)
      repeat (first | exact trivial | refine stpg ?_)
      refine ldRowF (f := SR.cells) 1 hy ?_ (hv := by rw [eq]; rfl)
      repeat (first | exact trivial | refine stpg ?_)
      intro w2 hE2
      refine ⟨fun hb2 => ⟨(hno fun h => hb2 (by have := congrArg (fun x => x.2.length) h; simp only [SR.dt] at this; omega)).symm, .go⟩, fun hb2 => ?_⟩
      have hz2 := hE2.size
      have hpn2 : p.ks.length ≤ 9223372036854775807 := by obtain ⟨_, _, _, h1, h2, _⟩ := p3; omega
      repeat (first | exact trivial | refine stpg ?_)
      refine loopX (ι := Nat) (fun j => [(0, .slice (some ⟨b, o, none⟩) ss.length sc), (1, .slice (some ⟨b', o', none⟩) tt.length tc), (5, .int .i64 i), (6, .int .i64 j)])
        (fun j W => Ext w1 W ∧ j ≤ p.ks.length ∧ p.ks.take j = q.ks.take j) (fun j => p.ks.length - j) 0 ⟨.go, Nat.zero_le _, rfl⟩ ?_ ?_
      · repeat (first | exact trivial | refine stpg ?_)
      · rintro j s3 w3 ⟨hE3, hj, htj⟩
        have hz3 := hE3.size
        repeat (first | exact trivial | refine stpg ?_)
        refine ldRowF (f := SR.cells) 1 hx ?_ (hv := by rw [ep]; rfl)
        repeat (first | exact trivial | refine stpg ?_)
        refine ⟨fun hlj => ?_, fun hgj => ?_⟩
        · rw [hpk] at p3
          rw [hqk] at q3
          obtain ⟨kb, ko, rfl, hkR⟩ := dg_row p2 p3 (by omega)
          obtain ⟨kb', ko', rfl, hkR'⟩ := dg_row q2 q3 (by omega)
          obtain ⟨u, hu⟩ : ∃ x, p.ks[j]? = some x := ⟨_, List.getElem?_eq_getElem (by omega)⟩
          obtain ⟨u', hu'⟩ : ∃ x, q.ks[j]? = some x := ⟨_, List.getElem?_eq_getElem (by omega)⟩
          repeat (first | exact trivial | refine stpg ?_)
          refine ldRowF (f := SR.cells) 1 hx ?_ (hv := by rw [ep]; rfl)
          repeat (first | exact trivial | refine stpg ?_)
          refine ldRow (f := vbs) hu ?_
          repeat (first | exact trivial | refine stpg ?_)
          refine ldRowF (f := SR.cells) 1 hy ?_ (hv := by rw [eq]; rfl)
          repeat (first | exact trivial | refine stpg ?_)
          refine ldRow (f := vbs) hu' ?_
          repeat (first | exact trivial | refine stpg ?_)
          refine eqd_lit _ _ _ _ _ _ Tryz.underlying5 c5 (p2 _ (List.mem_of_getElem? hu)) (q2 _ (List.mem_of_getElem? hu')) ?_
          by_cases hd : u = u'
          · rw [decide_eq_true hd]
            repeat (first | exact trivial | refine stpg ?_)
            intro w4 hE4
            repeat (first | exact trivial | refine stpg ?_)
            refine ⟨j + 1, ⟨.go, by omega, ?_⟩, by rw [w64 (by omega) (by omega)]; rfl, by omega⟩
            obtain ⟨e1, e2⟩ := List.getElem?_eq_some_iff.1 hu
            obtain ⟨e3, e4⟩ := List.getElem?_eq_some_iff.1 hu'
            rw [List.take_succ_eq_append_getElem e1, List.take_succ_eq_append_getElem e3, e2, e4, htj, hd]
          · rw [decide_eq_false hd]
            repeat (first | exact trivial | refine stpg ?_)
            intro w4 hE4
            repeat (first | exact trivial | refine stpg ?_)
            refine ⟨(hno fun h => ?_).symm, .go⟩
            have h3 := congrArg (fun x => x.2[j]?) h
            simp only [SR.dt, hu, hu', Option.some.injEq] at h3
            exact hd h3
        · obtain rfl : j = p.ks.length := by omega
          rw [List.take_length, List.take_of_length_le (by omega)] at htj
          have hd : p.dt = q.dt := by
            unfold SR.dt
            rw [htj, show p.bm = q.bm from by omega]
          have tk1 : ss.take (i + 1) = ss.take i ++ [p] := by
            obtain ⟨hil, he⟩ := List.getElem?_eq_some_iff.1 hx
            rw [List.take_succ_eq_append_getElem hil, he]
          have tk2 : tt.take (i + 1) = tt.take i ++ [q] := by
            obtain ⟨hil, he⟩ := List.getElem?_eq_some_iff.1 hy
            rw [List.take_succ_eq_append_getElem hil, he]
          repeat (first | exact trivial | refine stpg ?_)
          exact ⟨i + 1, ⟨.go, by omega, by rw [tk1, tk2, List.map_append, List.map_append, htk]; simp only [List.map_cons, List.map_nil, hd]⟩, by rw [w64 (by omega) (by omega)]; rfl, by omega⟩
    · obtain rfl : i = ss.length := by omega
      repeat (first | exact trivial | refine stpg ?_)
      refine ⟨?_, .go⟩
      rw [List.take_length, List.take_of_length_le (by omega)] at htk
      rw [decide_eq_true htk]
end Go.Proofs.YthlkfjoibjhaiaaGreatDoor

/-! Slg -/
namespace Go.Proofs.YthlkfjoibjhaiaaGreatDoor
set_option maxRecDepth 100000
set_option maxHeartbeats 2000000
open Go Go.RowKit
set_option linter.unusedVariables false
set_option linter.unusedSimpArgs false

theorem DelD_ok (A X D : List Value) (i len : Nat) (hAl : A.length = i * 32) (hXl : X.length = 32) (hDl : D.length = (len - 1 - i) * 32) (hi : i < len) (hD1 : ∀ v ∈ D, oneCellV v = true) (v : Value) (base : Nat) (w : World)
    (hO : Own w base 28 32 v len (A ++ (X ++ D))) (hbase : base ≤ w.heap.size) (hsz : len ≤ 4000000000) :
    CallK Tryz.prog 126 [v, .int .i64 i, .int .i64 (i + 1 : Nat)].toArray w fun v' w' => v'.ownBlock = v.ownBlock ∧ Own w' base 28 32 v' (len - 1) (A ++ D) ∧ Below base w w' ∧ OnlyBy v w w' := by
  obtain ⟨a, c, rfl⟩ := own_slice hO
  have hcl := hO.cap_le
  obtain ⟨_, ⟨h0, h0'⟩ | ⟨g, cap, cur, h0, hbg, hg, hnc, hcm, hcs, hct⟩⟩ := hO
  · omega
  cases h0
  obtain ⟨rest, hrest⟩ : ∃ rest, cur.toList = A ++ (X ++ (D ++ rest)) := ⟨cur.toList.drop (len * 32), by
    have := List.take_append_drop (len * 32) cur.toList
    rw [hct, List.append_assoc, List.append_assoc] at this
    exact this.symm⟩
  have hG : Blk w g 28 (A ++ (X ++ (D ++ rest))) := ⟨by rw [← hrest]; simpa using hg⟩
  have hrl : rest.length = (c - len) * 32 := by
    have := congrArg List.length hrest
    simp only [List.length_append, Array.length_toList, hcs] at this
    omega
  refine enterT Tryz.func126 rfl Tryz.ntmps126 Tryz.results126 rfl (by decide) ?_
  simp only [↓VD, VP, VT, isAggD, reduceCtorEq, Int.reduceEq, Int.reduceNe, Int.reduceLT, Int.reduceLE, implies_true, Nat.reduceEqDiff, reduceIte, ite_true, ite_false, eq_self, Nat.reduceLT, Nat.reduceLeDiff, Nat.reduceAdd, Nat.reduceMul, Nat.reduceSub, intOf]
  refine ⟨by omega, by omega, by omega, by omega, fun a' ha' => ⟨fun h => absurd h (by omega), fun _ => ?_⟩⟩
  refine drawH (fun _ => True) [0, 1, 2, 3, 4, 5, 6, 7] mixed (by decide +kernel) (fun w1 hE1 hh => ⟨trivial, ?_⟩)
  simp only [↓VD, VP, VT, isAggD, reduceCtorEq, Int.reduceEq, Int.reduceNe, Int.reduceLT, Int.reduceLE, implies_true, Nat.reduceEqDiff, reduceIte, ite_true, ite_false, eq_self, Nat.reduceLT, Nat.reduceLeDiff, Nat.reduceAdd, Nat.reduceMul, Nat.reduceSub, intOf]
  refine ⟨by omega, by omega, fun a1 ha1 => ⟨by omega, by omega, by omega, fun a2 ha2 => ?_⟩⟩
  obtain ⟨o1, rfl, ho1⟩ := ha1 g 0 rfl
  obtain rfl : o1 = 0 := by have := ho1 (by omega); simpa using this
  obtain ⟨o2, rfl, ho2⟩ := ha2 g 0 rfl
  have hG1 := hG.ext hE1
  have hD2 : SlC w1 (.slice (some ⟨g, o2, none⟩) (len - 1 - i) (c - (i + 1))) (len - 1 - i) D := by
    refine ⟨_, _, rfl, by omega, by rw [maxLen_eq] at hcm; omega, Or.inr ⟨g, o2, rfl, fun j u hj => ?_⟩⟩
    have hjl := (List.getElem?_eq_some_iff.1 hj).1
    have e2 : o2 = (i + 1) * 32 := by have := ho2 (by omega); simpa using this
    rw [hG1.cell, ← List.append_assoc, List.getElem?_append_right (by rw [List.length_append]; omega), List.length_append, List.getElem?_append_left (by omega), ← hj]
    congr 1
    omega
  have hO1 : Own w1 base 28 32 (.slice (some ⟨g, 0, none⟩) i c) i A := own_mk hG1 hbg hAl (by simp only [List.length_append]; omega) (by omega) (by rw [maxLen_eq] at hcm; omega)
  rw [show ((i : Int) - 0).toNat = i from by omega, show ((c : Int) - 0).toNat = c from by omega, show ((len : Int) - ((i + 1 : Nat) : Int)).toNat = len - 1 - i from by omega, show ((c : Int) - ((i + 1 : Nat) : Int)).toNat = c - (i + 1) from by omega]
  refine apSp (sz := 32) (n := i) (m := len - 1 - i) Tryz.underlying49 z28 c28 rfl (by decide) hO1 (by have := hE1.size; omega) hD2 hDl hD1 (by omega) (fun w2 hO2 hg2 => ?_)
  refine told (fun _ => True) trivial trivial ?_
  have hln : i + (len - 1 - i) = len - 1 := by omega
  rw [hln] at hO2
  rw [hln]
  have hE2 := below_of_grown hO1 (by have := hE1.size; omega) hg2
  obtain ⟨_, ⟨h0, h0'⟩ | ⟨g', cap', cur', h0, hbg', hg', hnc', hcm', hcs', hct'⟩⟩ := hO2
  · cases h0
  cases h0
  obtain ⟨rest', hrest'⟩ : ∃ rest', cur'.toList = (A ++ D) ++ rest' := ⟨cur'.toList.drop ((len - 1) * 32), by
    have := List.take_append_drop ((len - 1) * 32) cur'.toList
    rw [hct'] at this
    exact this.symm⟩
  have hrl' : rest'.length = (c - (len - 1)) * 32 := by
    have := congrArg List.length hrest'
    simp only [List.length_append, Array.length_toList, hcs'] at this
    omega
  obtain ⟨r1, r2, rfl, hr1⟩ : ∃ r1 r2, rest' = r1 ++ r2 ∧ r1.length = 32 := ⟨rest'.take 32, rest'.drop 32, (List.take_append_drop _ _).symm, by rw [List.length_take]; omega⟩
  have hG2 : Blk w2 g 28 ((A ++ D) ++ (r1 ++ r2)) := ⟨by rw [← hrest']; simpa using hg'⟩
  rw [List.length_append] at hrl'
  simp only [↓VD, VP, VT, isAggD, reduceCtorEq, Int.reduceEq, Int.reduceNe, Int.reduceLT, Int.reduceLE, implies_true, Nat.reduceEqDiff, reduceIte, ite_true, ite_false, eq_self, Nat.reduceLT, Nat.reduceLeDiff, Nat.reduceAdd, Nat.reduceMul, Nat.reduceSub, intOf]
  refine ⟨by omega, by omega, by omega, fun a5 ha5 => ?_⟩
  obtain ⟨o5, rfl, ho5⟩ := ha5 g 0 rfl
  obtain rfl : o5 = (len - 1) * 32 := by have := ho5 (by omega); simpa using this
  rw [show ((len : Int) - ((len - 1 : Nat) : Int)).toNat = 1 from by omega]
  refine clS (sz := 32) (T := 28) Tryz.underlying49 z28 rfl (by decide) (by decide +kernel) hG2 (by decide +kernel) (by simp only [List.length_append]; omega) (fun w3 hP3 => ?_)
  generalize hze : (Builtin.zeroCells _ 1).toList = zs at hP3
  have hzl : zs.length = 32 := by rw [← hze]; decide +kernel
  rw [splice_at (by rw [List.length_append]; omega) (by rw [hr1, hzl])] at hP3
  simp only [↓VD, VP, VT, isAggD, reduceCtorEq, Int.reduceEq, Int.reduceNe, Int.reduceLT, Int.reduceLE, implies_true, Nat.reduceEqDiff, reduceIte, ite_true, ite_false, eq_self, Nat.reduceLT, Nat.reduceLeDiff, Nat.reduceAdd, Nat.reduceMul, Nat.reduceSub, intOf]
  have hne : ∀ k : Nat, (Value.slice (some ⟨g, 0, none⟩) len c).ownBlock ≠ some k → k ≠ g := fun k hk e => hk (by simp [Value.ownBlock, e])
  refine ⟨rfl, own_mk (sz := 32) (n := len - 1) (cap := c) hP3.blk hbg (by rw [List.length_append]; omega) (by rw [List.length_append]; omega) (by omega) (by rw [maxLen_eq] at hcm; omega), (hE1.mono hbase).trans (hE2.trans (hP3.below (by omega))), fun k T l hk hBk => ?_⟩
  have h1 := hBk.ext hE1
  exact hP3.keep ⟨by rw [hg2.block k h1.lt (fun h => hne k hk (by simpa using h))]; exact h1.out⟩ (hne k hk)
end Go.Proofs.YthlkfjoibjhaiaaGreatDoor

/-! Cut -/
namespace Go.Proofs.YthlkfjoibjhaiaaGreatDoor
set_option maxRecDepth 100000
set_option maxHeartbeats 2000000
open Go Go.RowKit
set_option linter.unusedVariables false
set_option linter.unusedSimpArgs false
attribute [local irreducible] vcT opsT qT vcOp Q1 vcPure vcLoad vcStore ldC ldN ldD grdT grdQ vc vcOps vcQ hT
attribute [local irreducible] sumR sumP shaP keyD bucketP branchP

/-- The digests of a branch without that of the digit c. -/
def cutK (bm c : Nat) (ks : List (List UInt8)) : List (List UInt8) := if hasB bm (c : Int) = true then ks.eraseIdx (rankB bm (c : Int)) else ks
/-- A way down without the digests of the way of K. -/
def cutS (K : List UInt8) : Nat → List (Nat × List (List UInt8)) → List (Nat × List (List UInt8))
  | _, [] => []
  | i, s :: r => (s.1, cutK s.1 (digP K i) s.2) :: cutS K (i + 1) r
theorem cutS_len (K : List UInt8) : ∀ (i : Nat) (L : List (Nat × List (List UInt8))), (cutS K i L).length = L.length
  | _, [] => rfl
  | i, s :: r => by simp [cutS, cutS_len K (i + 1) r]
theorem cutS_snoc (K : List UInt8) : ∀ (i : Nat) (L : List (Nat × List (List UInt8))) (x : Nat × List (List UInt8)), cutS K i (L ++ [x]) = cutS K i L ++ [(x.1, cutK x.1 (digP K (i + L.length)) x.2)]
  | i, [], x => rfl
  | i, s :: r, x => by
    show (s.1, cutK s.1 (digP K i) s.2) :: cutS K (i + 1) (r ++ [x]) = _
    rw [cutS_snoc K (i + 1) r x, show i + 1 + r.length = i + (s :: r).length from by simp; omega]
    rfl
theorem cutS_get (K : List UInt8) : ∀ (i j : Nat) (L : List (Nat × List (List UInt8))), (cutS K i L)[j]? = (L[j]?).map fun s => (s.1, cutK s.1 (digP K (i + j)) s.2)
  | i, j, [] => by simp [cutS]
  | i, 0, s :: r => rfl
  | i, j + 1, s :: r => by
    show (cutS K (i + 1) r)[j]? = _
    rw [cutS_get K (i + 1) j r, show i + 1 + j = i + (j + 1) from by omega]
    rfl
theorem cutK_len (bm c : Nat) (ks : List (List UInt8)) : (cutK bm c ks).length ≤ ks.length := by
  unfold cutK
  split
  · rw [List.length_eraseIdx]; split <;> omega
  · exact Nat.le_refl _
theorem cutK_mem {bm c : Nat} {ks : List (List UInt8)} : ∀ x ∈ cutK bm c ks, x ∈ ks := by
  intro x hx
  unfold cutK at hx
  split at hx
  · exact List.mem_of_mem_eraseIdx hx
  · exact hx
theorem cutK_has {bm c : Nat} {ks : List (List UInt8)} (h : hasB bm (c : Int) = true) (hl : rankB bm (c : Int) < ks.length) : cutK bm c ks = ks.take (rankB bm (c : Int)) ++ ks.drop (rankB bm (c : Int) + 1) := by
  rw [cutK, if_pos h, List.eraseIdx_eq_take_drop_succ]
theorem cutK_not {bm c : Nat} {ks : List (List UInt8)} (h : ¬ (hasB bm (c : Int) = true ∧ rankB bm (c : Int) < ks.length)) : cutK bm c ks = ks := by
  unfold cutK
  split
  · rename_i hh
    exact List.eraseIdx_of_length_le (Nat.le_of_not_lt fun e => h ⟨hh, e⟩)
  · rfl

/-! ### Blocks -/
theorem RunK.only_lt {w w' : World} {hi : Nat} {x : Value} (k : OnlyBy x w w') : ∀ {l : List SR} {lo : Nat}, (∀ g, x.ownBlock = some g → g < lo) → RunK w hi lo l → RunK w' hi lo l
  | [], lo, _, h => h
  | t :: r, lo, hx, h => by
    obtain ⟨mid, h1, h2, h3⟩ := h
    refine ⟨mid, h1, ⟨h2.1, h2.2.1, h2.2.2.1.only (fun g hg e => ?_) k, h2.2.2.2⟩, RunK.only_lt k (fun g hg => Nat.lt_of_lt_of_le (hx g hg) h1) h3⟩
    have := hx g e
    have := h2.2.2.1.lo g hg
    omega
/-- One list of digests, written in its own block. -/
theorem RunK.set {w w' : World} {hi : Nat} {t t' : SR} {r : List SR} (k : OnlyBy t.kv w w') (hb : t'.bm < 65536) (hd : ∀ d ∈ t'.ks, d.length = 32) (ho : t'.kv.ownBlock = t.kv.ownBlock) : ∀ {l : List SR} {lo : Nat}, lo ≤ hi →
    (∀ b, Own w b 28 32 t.kv t.ks.length (t.ks.flatMap vbs) → Own w' b 28 32 t'.kv t'.ks.length (t'.ks.flatMap vbs)) → RunK w hi lo (l ++ t :: r) → RunK w' hi lo (l ++ t' :: r)
  | [], lo, _, hO, h => by
    obtain ⟨mid, h1, h2, h3⟩ := h
    exact ⟨mid, h1, ⟨hb, hd, hO _ h2.2.2.1, fun g hg => h2.2.2.2 g (by rw [← ho]; exact hg)⟩, RunK.only_lt k h2.2.2.2 h3⟩
  | s :: l, lo, hh, hO, h => by
    obtain ⟨mid, h1, h2, h3⟩ := h
    refine ⟨mid, h1, ⟨h2.1, h2.2.1, h2.2.2.1.only (fun g hg e => ?_) k, h2.2.2.2⟩, RunK.set k hb hd ho h3.le hO h3⟩
    have a1 := h2.2.2.2 g hg
    have a2 := (RunK.mem h3 t (by simp)).2.2
    have := a2.lo g e
    omega
theorem RunK.put {w w' : World} {hi b T U : Nat} {L m : List Value} (k : Blk w b T L) (hT : T ≠ 28) (p : Put w w' b U m) : ∀ {l : List SR} {lo : Nat}, RunK w hi lo l → RunK w' hi lo l
  | [], lo, h => h
  | t :: r, lo, h => by obtain ⟨mid, h1, h2, h3⟩ := h; exact ⟨mid, h1, ⟨h2.1, h2.2.1, h2.2.2.1.put k hT p, h2.2.2.2⟩, RunK.put k hT p h3⟩
theorem RunB.onlyT {w w' : World} {hi b2 e2 s2 n2 : Nat} {x : Value} {ys : List Value} (h2 : Own w b2 e2 s2 x n2 ys) (hne : 5 ≠ e2) (k : OnlyBy x w w') : ∀ {l : List (Value × List UInt8)} {lo : Nat}, RunB w hi lo l → RunB w' hi lo l
  | [], lo, h => h
  | t :: r, lo, h => by obtain ⟨mid, h1, h3, h4⟩ := h; exact ⟨mid, h1, ⟨h3.1.onlyT h2 hne k, h3.2⟩, RunB.onlyT h2 hne k h4⟩
end Go.Proofs.YthlkfjoibjhaiaaGreatDoor

/-! Rfp -/
namespace Go.Proofs.YthlkfjoibjhaiaaGreatDoor
set_option maxRecDepth 100000
set_option maxHeartbeats 2000000
open Go Go.RowKit
set_option linter.unusedVariables false
set_option linter.unusedSimpArgs false
set_option maxHeartbeats 1000000
attribute [local irreducible] vcT opsT qT vcOp Q1 vcPure vcLoad vcStore ldC ldN ldD grdT grdQ vc vcOps vcQ hT
attribute [local irreducible] sumR sumP shaP keyD bucketP branchP

theorem bitAnd (m c : Nat) (hm : m < 65536) (hc : c < 16) : ibits .and .u16 ((m : Int).fdiv (2 ^ min c IntKind.u16.bits)) 1 = ((if m.testBit c = true then 1 else 0 : Nat) : Int) := by
  have hd : m / 2 ^ c < 65536 := Nat.lt_of_le_of_lt (Nat.div_le_self _ _) hm
  rw [fdivN m c IntKind.u16.bits (by have : IntKind.u16.bits = 16 := rfl; omega), show (1 : Int) = ((1 : Nat) : Int) from rfl, (ibN .u16 rfl (m / 2 ^ c) 1 hd (by decide)).1, Nat.and_one_is_mod, Nat.testBit_eq_decide_div_mod_eq]
  by_cases h : m / 2 ^ c % 2 = 1
  · rw [if_pos (by simpa using h), h]
  · rw [if_neg (by simpa using h)]; omega
theorem ahead_ok (bm : Nat) (hb : bm < 65536) (c : Nat) (hc : c < 16) (w : World) :
    CallK Tryz.prog 326 [.int .u16 bm, .int .i64 c].toArray w fun v w' => v = .tuple [.int .i64 (rankB bm (c : Int)), .bool (hasB bm (c : Int))].toArray ∧ Ext w w' := by
  refine enterT Tryz.func326 rfl Tryz.ntmps326 Tryz.results326 rfl (by decide) ?_
  repeat (first | exact trivial | refine stpg ?_)
  refine loopX (ι := Nat) (fun j => [(0, .int .u16 bm), (1, .int .i64 c), (6, .int .i64 (rankB bm (j : Int))), (7, .int .i64 j)]) (fun j W => Ext w W ∧ j ≤ c) (fun j => c - j) 0 ⟨.go, Nat.zero_le _⟩ ?_ ?_
  · repeat (first | exact trivial | refine stpg ?_)
    rw [rank0]
    rfl
  · rintro j s1 w1 ⟨hE1, hj⟩
    have hz1 := hE1.size
    repeat (first | exact trivial | refine stpg ?_)
    refine ⟨fun hlt => ?_, fun hge => ?_⟩
    · have hr := rank_le bm (j : Int)
      have hcn := cnt_le bm
      have hrs := rank_succ bm j (by omega)
      repeat (first | exact trivial | refine stpg ?_)
      rw [bitAnd bm j hb (by omega)]
      generalize hbv : (if bm.testBit j = true then 1 else 0) = x at *
      have hx : x ≤ 1 := by rw [← hbv]; split <;> decide
      refine ⟨j + 1, ⟨.go, by omega⟩, ⟨?_, by rw [w64 (by omega) (by omega)]; rfl⟩, by omega⟩
      rw [hrs, w64 (n := (x : Int)) (by omega) (by omega), w64 (by omega) (by omega)]
      omega
    · obtain rfl : j = c := by omega
      repeat (first | exact trivial | refine stpg ?_)
      intro w2 hE2
      rw [bitAnd bm j hb hc]
      refine ⟨?_, .go⟩
      have e : hasB bm (j : Int) = bm.testBit j := by unfold hasB inB; simp [hc]; intro; omega
      rw [e]
      cases bm.testBit j <;> rfl
theorem cutK_snoc (bm c : Nat) (ks : List (List UInt8)) (x : List UInt8) : cutK bm c (ks ++ [x]) = if hasB bm (c : Int) = true ∧ ks.length = rankB bm (c : Int) then cutK bm c ks else cutK bm c ks ++ [x] := by
  unfold cutK
  by_cases hh : hasB bm (c : Int) = true
  · rw [if_pos hh, if_pos hh]
    by_cases he : ks.length = rankB bm (c : Int)
    · rw [if_pos ⟨hh, he⟩, ← he, List.eraseIdx_append_of_length_le (Nat.le_refl _), Nat.sub_self, List.eraseIdx_of_length_le (l := ks) (Nat.le_refl _)]
      simp
    · rw [if_neg (fun h => he h.2)]
      rcases Nat.lt_or_ge (rankB bm (c : Int)) ks.length with h | h
      · rw [List.eraseIdx_append_of_lt_length h]
      · rw [List.eraseIdx_append_of_length_le h, List.eraseIdx_of_length_le (l := ks) h, List.eraseIdx_of_length_le (by simp; omega)]
  · rw [if_neg hh, if_neg hh, if_neg (fun h => hh h.1)]
theorem WithoutR_ok (bm : Nat) (hb : bm < 65536) (c : Nat) (hc : c < 16) (ks : List (List UInt8)) (kv : Value) (w : World) (hk : SlC w kv ks.length (ks.flatMap vbs)) (h32 : ∀ d ∈ ks, d.length = 32) (hl : ks.length ≤ 1000000000) :
    CallK Tryz.prog 237 [.agg [.int .u16 bm, kv].toArray, .int .i64 c].toArray w fun v w' => ∃ ov, v = .agg [.int .u16 bm, ov].toArray ∧ Own w' w.heap.size 28 32 ov (cutK bm c ks).length ((cutK bm c ks).flatMap vbs) ∧ Ext w w' := by
  obtain ⟨ka, kc, rfl⟩ := slv_of hk
  refine enterT Tryz.func237 rfl Tryz.ntmps237 Tryz.results237 rfl (by decide) ?_
  repeat (first | exact trivial | refine stpg ?_)
  first | refine newS ?_ | refine newZ ?_
  intro w1 hE1 hz1 hB1
  repeat (first | exact trivial | refine stpg ?_)
  first | refine newS ?_ | refine newZ ?_
  intro w2 hE2 hz2 hB2
  repeat (first | exact trivial | refine stpg ?_)
  refine (ahead_ok bm hb c hc w2).mono ?_
  rintro _ w3 ⟨rfl, hE3⟩
  have hz3 := hE3.size
  repeat (first | exact trivial | refine stpg ?_)
  refine bldC [.int .u16 bm, .slice none 0 0] (by kernel_rfl) ?_
  repeat (first | exact trivial | refine stpg ?_)
  first | refine newS ?_ | refine newZ ?_
  intro w4 hE4 hz4 hB4
  repeat (first | exact trivial | refine stpg ?_)
  refine loopX (ι := Nat × Option Addr × Nat) (fun x => [(2, .pointer (some ⟨w.heap.size, 0, none⟩)), (4, .pointer (some ⟨w1.heap.size, 0, none⟩)), (5, .int .i64 (rankB bm (c : Int))), (6, .bool (hasB bm (c : Int))), (7, .pointer (some ⟨w3.heap.size, 0, none⟩)), (21, .slice ka ks.length kc), (22, .int .i64 ks.length), (23, .int .i64 x.1)])
    (fun x W => Ext w3 W ∧ w4.heap.size ≤ W.heap.size ∧ x.1 ≤ ks.length ∧ Blk W w3.heap.size 51 [.int .u16 bm, .slice x.2.1 (cutK bm c (ks.take x.1)).length x.2.2] ∧
      Own W w4.heap.size 28 32 (.slice x.2.1 (cutK bm c (ks.take x.1)).length x.2.2) (cutK bm c (ks.take x.1)).length ((cutK bm c (ks.take x.1)).flatMap vbs)) (fun x => ks.length - x.1) (0, none, 0) ⟨.go, Nat.le_refl _, Nat.zero_le _, ?_, ?_⟩ ?_ ?_
  · simpa [cutK] using hB4
  · simpa [cutK] using Own.nil _ _ _ _
  · repeat (first | exact trivial | refine stpg ?_)
  · rintro ⟨j, a, cc⟩ s5 w5 ⟨hE5, hz5, hj, hB5, hO5⟩
    simp only at hj hB5 hO5
    generalize hus : cutK bm c (ks.take j) = us at *
    repeat (first | exact trivial | refine stpg ?_)
    refine ⟨fun hlt => ?_, fun hge => ?_⟩
    · obtain ⟨b, o, rfl, hR⟩ := hk.row (f := vbs) (sz := 32) (fun d hd => by rw [vbs_len]; exact h32 d hd) (by decide) (by omega)
      obtain ⟨d, hx⟩ : ∃ x, ks[j]? = some x := ⟨_, List.getElem?_eq_getElem (by omega)⟩
      have hdl := h32 d (List.mem_of_getElem? hx)
      have htk : ks.take (j + 1) = ks.take j ++ [d] := by
        obtain ⟨hil, he⟩ := List.getElem?_eq_some_iff.1 hx
        rw [List.take_succ_eq_append_getElem hil, he]
      have hlj : (ks.take j).length = j := by rw [List.length_take]; omega
      have hsn := cutK_snoc bm c (ks.take j) d
      rw [← htk, hus, hlj] at hsn
      have hul : us.length ≤ j := by rw [← hus]; exact Nat.le_trans (cutK_len _ _ _) (by omega)
      repeat (first | exact trivial | refine stpg ?_)
      refine ldRow (f := vbs) hx ?_
      repeat (first | exact trivial | refine stpg ?_)
      first | refine newS ?_ | refine newZ ?_
      intro w6 hE6 hz6 hB6
      repeat (first | exact trivial | refine stpg ?_)
      by_cases hc1 : hasB bm (c : Int) = true ∧ j = rankB bm (c : Int)
      · rw [if_pos hc1] at hsn
        rw [hc1.1]
        repeat (first | exact trivial | refine stpg ?_)
        intro _
        exact ⟨(j + 1, a, cc), ⟨.go, by omega, by simp only; omega, by simp only; rw [hsn]; exact .go, by simp only; rw [hsn]; exact hO5.ext .go⟩, by rw [w64 (by omega) (by omega)]; rfl, by simp only; omega⟩
      · rw [if_neg hc1] at hsn
        cases hh : hasB bm (c : Int)
        · repeat (first | exact trivial | refine stpg ?_)
          refine ⟨by rw [vbs_len]; exact hdl, ?_⟩
          first | refine newS ?_ | refine newZ ?_
          intro w7 hE7 hz7 hB7
          have hO7 := hO5.ext (w' := w7) .go
          have hB57 := hB5.ext (w' := w7) .go
          refine apDg rfl hO7 (by omega) hB7 hdl (by omega) (fun a8 c8 w8 hO8 hg8 hE8 => ?_)
          have hz8 := hE8.size
          have hB8 : Blk w8 w3.heap.size 51 [.int .u16 bm, .slice a us.length cc] := ⟨by rw [hg8.block _ hB57.lt (fun e => hO7.not_blk hB57 (by decide) e.symm)]; exact hB57.out⟩
          rw [show us.length + 1 = (us ++ [d]).length from by simp, ← hsn] at hO8 ⊢
          repeat (first | exact trivial | refine stpg ?_)
          refine stC ?_
          intro w9 hP9 hz9 hB9
          repeat (first | exact trivial | refine stpg ?_)
          exact ⟨(j + 1, a8, c8), ⟨.go, by omega, by simp only; omega, hB9, hO8.put hB8 (by decide) hP9⟩, by rw [w64 (by omega) (by omega)]; rfl, by simp only; omega⟩
        · repeat (first | exact trivial | refine stpg ?_)
          refine ⟨fun _ => ?_, fun he => absurd ⟨hh, by omega⟩ hc1⟩
          repeat (first | exact trivial | refine stpg ?_)
          refine ⟨by rw [vbs_len]; exact hdl, ?_⟩
          first | refine newS ?_ | refine newZ ?_
          intro w7 hE7 hz7 hB7
          have hO7 := hO5.ext (w' := w7) .go
          have hB57 := hB5.ext (w' := w7) .go
          refine apDg rfl hO7 (by omega) hB7 hdl (by omega) (fun a8 c8 w8 hO8 hg8 hE8 => ?_)
          have hz8 := hE8.size
          have hB8 : Blk w8 w3.heap.size 51 [.int .u16 bm, .slice a us.length cc] := ⟨by rw [hg8.block _ hB57.lt (fun e => hO7.not_blk hB57 (by decide) e.symm)]; exact hB57.out⟩
          rw [show us.length + 1 = (us ++ [d]).length from by simp, ← hsn] at hO8 ⊢
          repeat (first | exact trivial | refine stpg ?_)
          refine stC ?_
          intro w9 hP9 hz9 hB9
          repeat (first | exact trivial | refine stpg ?_)
          exact ⟨(j + 1, a8, c8), ⟨.go, by omega, by simp only; omega, hB9, hO8.put hB8 (by decide) hP9⟩, by rw [w64 (by omega) (by omega)]; rfl, by simp only; omega⟩
    · obtain rfl : j = ks.length := by omega
      rw [List.take_length] at hus
      have hB25 : Blk w5 w1.heap.size 51 _ := .go (h := hB2)
      repeat (first | exact trivial | refine stpg ?_)
      refine stW ?_
      intro w6 hP6 hz6 hB6
      repeat (first | exact trivial | refine stpg ?_)
      have hO6 := hO5.put hB25 (by decide) hP6
      exact ⟨.slice a us.length cc, rfl, by rw [hus]; exact hO6.base (by omega), .go⟩
end Go.Proofs.YthlkfjoibjhaiaaGreatDoor

/-! Hpr -/
namespace Go.Proofs.YthlkfjoibjhaiaaGreatDoor
set_option maxRecDepth 100000
set_option maxHeartbeats 2000000
open Go Go.RowKit
set_option linter.unusedVariables false
set_option linter.unusedSimpArgs false
set_option maxHeartbeats 1000000
attribute [local irreducible] vcT opsT qT vcOp Q1 vcPure vcLoad vcStore ldC ldN ldD grdT grdQ vc vcOps vcQ hT
attribute [local irreducible] sumR sumP shaP keyD bucketP branchP

theorem Own.rebase {w : World} {b b' e s n : Nat} {v : Value} {xs : List Value} (h : Own w b e s v n xs) (hb : ∀ g, v.ownBlock = some g → b' ≤ g) : Own w b' e s v n xs := by
  refine ⟨h.1, ?_⟩
  rcases h.2 with hn | ⟨g, cap, cur, rfl, _, rest⟩
  · exact .inl hn
  · exact .inr ⟨g, cap, cur, rfl, hb g rfl, rest⟩
theorem cutS_upto {K : List UInt8} {L M : List (Nat × List (List UInt8))} {i : Nat} {bm : Nat} {ks : List (List UInt8)} (h : M = cutS K 0 (L.take i) ++ L.drop i) (hx : M[i]? = some (bm, ks)) : L[i]? = some (bm, ks) ∧ M.set i (bm, cutK bm (digP K i) ks) = cutS K 0 (L.take (i + 1)) ++ L.drop (i + 1) := by
  have hl : (cutS K 0 (L.take i)).length = min i L.length := by rw [cutS_len, List.length_take]
  have hil : i < L.length := by
    have := (List.getElem?_eq_some_iff.1 hx).1
    rw [h, List.length_append, hl, List.length_drop] at this
    omega
  have hi : (cutS K 0 (L.take i)).length = i := by rw [hl]; omega
  have h1 : L[i]? = some (bm, ks) := by
    rw [h, List.getElem?_append_right (by omega), hi, Nat.sub_self, List.getElem?_drop, Nat.add_zero] at hx
    exact hx
  refine ⟨h1, ?_⟩
  obtain ⟨_, he⟩ := List.getElem?_eq_some_iff.1 h1
  rw [h, List.set_append_right _ _ (by omega), hi, Nat.sub_self, List.take_succ_eq_append_getElem hil, cutS_snoc, he, List.length_take, Nat.zero_add, Nat.min_eq_left (by omega), ← List.getElem_cons_drop hil, he]
  simp

theorem RunK.lt {w : World} {hi : Nat} : ∀ {l : List SR} {lo : Nat}, RunK w hi lo l → ∀ t ∈ l, ∀ g, t.kv.ownBlock = some g → g < hi
  | [], lo, _, p, hp => by cases hp
  | t :: r, lo, h, p, hp => by
    obtain ⟨mid, h1, h2, h3⟩ := h
    rcases List.mem_cons.1 hp with rfl | hp
    · exact fun g hg => Nat.lt_of_lt_of_le (h2.2.2.2 g hg) h3.le
    · exact RunK.lt h3 p hp
theorem set_same {α : Type} {l : List α} {i : Nat} {x : α} (h : l[i]? = some x) : l.set i x = l := by
  obtain ⟨hl, rfl⟩ := List.getElem?_eq_some_iff.1 h
  exact List.set_getElem_self hl
theorem set_split {α : Type} {l : List α} {i : Nat} {x y : α} (h : l[i]? = some x) : l = l.take i ++ x :: l.drop (i + 1) ∧ l.set i y = l.take i ++ y :: l.drop (i + 1) := by
  obtain ⟨hl, rfl⟩ := List.getElem?_eq_some_iff.1 h
  refine ⟨by rw [List.getElem_cons_drop, List.take_append_drop], ?_⟩
  rw [List.set_eq_take_append_cons_drop, if_pos hl]
theorem atP_err {m : Nat} {k : List UInt8} (hm : 1 ≤ m) (hm2 : m ≤ 32) (hk : k.length = 32) (hf : formB m k = true) {i : Nat} (hi : i < 2 * m) : (atP m k i).2 = 0 := by
  have hz := formB_zero hk hf
  have hc : chkP m [k] = 0 := by
    unfold chkP
    rw [if_neg (by omega), if_pos]
    intro d hd
    obtain rfl : d = k := by simpa using hd
    simpa using hz
  unfold atP
  rw [if_neg (by omega), if_pos hc]

theorem Prove_hproof_ok (n : Int) (hw : widB n = true) (S : Nat → Prop) (mv kv : Value) (m : List It) (key : List UInt8) (w : World) (hW : WordsAt w 1) (h : MapAt n S w mv m) (hO : OkI n m) (hk : SlB w kv key) (hml : m.length ≤ 1000000000) :
    CallK Tryz.prog 30 [mv, kv].toArray w fun r w' => ∃ (sv pv : Value) (tt : List SR) (qs : List PR), r = .tuple [.agg [sv, pv].toArray, .int .i64 (if 64 < key.length then 2 else 0 : Nat)].toArray ∧
      Own w' w.heap.size 51 2 sv tt.length (tt.flatMap SR.cells) ∧ RunK w' w'.heap.size w.heap.size tt ∧ Own w' w.heap.size 47 2 pv qs.length (qs.flatMap PR.cells) ∧ RunB w' w'.heap.size w.heap.size (qs.flatMap prB) ∧
      tt.map SR.dt = (if 64 < key.length then [] else cutS (keyD n key) 0 (walkI n (keyD n key) 64 0 m).1) ∧ qs.map PR.dat = (if 64 < key.length then [] else (walkI n (keyD n key) 64 0 m).2.map It.pr) ∧ Ext w w' := by
  have hwn := (widB_iff n).1 hw
  obtain ⟨nn, rfl⟩ : ∃ nn : Nat, n = nn := ⟨n.toNat, by omega⟩
  obtain ⟨ka, kc, rfl⟩ := slv_of hk
  refine enterT Tryz.func30 rfl Tryz.ntmps30 Tryz.results30 rfl (by decide) ?_
  repeat (first | exact trivial | refine stpg ?_)
  first | refine newS ?_ | refine newZ ?_
  intro w1 hE1 hz1 hB1
  repeat (first | exact trivial | refine stpg ?_)
  have hKl := keyD_len nn key
  refine ⟨fun h64 => ?_, fun h64 => ?_⟩
  · refine bldC [.slice none 0 0, .slice none 0 0] (by kernel_rfl) ?_
    repeat (first | exact trivial | refine stpg ?_)
    refine stW ?_
    intro w2 hP2 hz2 hB2
    repeat (first | exact trivial | refine stpg ?_)
    exact ⟨.slice none 0 0, .slice none 0 0, [], [], by rw [if_pos (by omega)]; rfl, Own.nil _ _ _ _, by show w.heap.size ≤ w2.heap.size; omega, Own.nil _ _ _ _, by show w.heap.size ≤ w2.heap.size; omega, by rw [if_pos (by omega)]; rfl, by rw [if_pos (by omega)]; rfl, .go⟩
  have h64' : ¬ 64 < key.length := by omega
  repeat (first | exact trivial | refine stpg ?_)
  refine (Walk_hamt_ok nn hw S mv _ m key w1 (hW.ext .go) (h.ext .go) hO (hk.ext .go) hml).mono ?_
  rintro _ w2 ⟨sv, pv, tt, qs, rfl, hOs, hRk, hOp, hRb, htd, hqd, hE2⟩
  have hz2 := hE2.size
  rw [if_neg h64'] at htd hqd ⊢
  generalize hLe : (walkI nn (keyD nn key) 64 0 m).1 = L at *
  have hL : tt.length = L.length := by rw [← htd, List.length_map]
  obtain ⟨sa, sc, rfl⟩ := own_slice hOs
  obtain ⟨pa, pc, rfl⟩ := own_slice hOp
  obtain ⟨hst, hend, hsg⟩ := walk_spec hw (keyD nn key) 64 0 m hO hO.pre rfl
  rw [hLe] at hst
  simp only [Nat.zero_add] at hst
  have hf : formB nn (keyD nn key) = true := by unfold keyD; exact form_sumR nn _ hw
  have hL32 : L.length ≤ 2 * nn := by
    rcases Nat.eq_zero_or_pos L.length with h0 | h0
    · omega
    · obtain ⟨_, hs2⟩ := hst (L.length - 1) (by omega)
      obtain ⟨hOd, hPd⟩ := wmI_ok (n := nn) (keyD nn key) (L.length - 1) 0 hO hO.pre
      rw [Nat.zero_add] at hPd
      have := br_depth hs2 hPd (hOd.form hw)
      omega
  repeat (first | exact trivial | refine stpg ?_)
  refine (Width_hamt_ok nn S mv m w2 (h.ext .go)).mono ?_
  rintro _ w3 ⟨rfl, hE3⟩
  have hz3 := hE3.size
  repeat (first | exact trivial | refine stpg ?_)
  refine (Key_ok nn key _ w3 (hW.ext .go) (hk.ext .go) (by omega)).mono ?_
  rintro _ w4 ⟨rfl, hE4⟩
  have hz4 := hE4.size
  have hkd : sumR nn (2 :: key) = keyD nn key := by unfold keyD; rfl
  have hse : sumE nn = 0 := by unfold sumE; rw [if_pos hw]
  rw [hkd, hse]
  repeat (first | exact trivial | refine stpg ?_)
  first | refine newS ?_ | refine newZ ?_
  intro w5 hE5 hz5 hB5
  repeat (first | exact trivial | refine stpg ?_)
  refine loopX (ι := Nat × List SR) (fun x => [(4, .pointer (some ⟨w.heap.size, 0, none⟩)), (6, .slice sa tt.length sc), (7, .slice pa qs.length pc), (9, .int .i64 nn), (10, .pointer (some ⟨w4.heap.size, 0, none⟩)), (43, .slice sa tt.length sc), (44, .int .i64 tt.length), (45, .int .i64 x.1)])
    (fun x W => Ext w1 W ∧ w5.heap.size ≤ W.heap.size ∧ x.1 ≤ L.length ∧ x.2.length = tt.length ∧ Own W w1.heap.size 51 2 (.slice sa tt.length sc) tt.length (x.2.flatMap SR.cells) ∧ RunK W w2.heap.size w1.heap.size x.2 ∧
      Own W w1.heap.size 47 2 (.slice pa qs.length pc) qs.length (qs.flatMap PR.cells) ∧ RunB W w2.heap.size w1.heap.size (qs.flatMap prB) ∧ Blk W w4.heap.size 28 (vbs (keyD nn key)) ∧ x.2.map SR.dt = cutS (keyD nn key) 0 (L.take x.1) ++ L.drop x.1) (fun x => L.length - x.1) (0, tt) ⟨.go, Nat.le_refl _, Nat.zero_le _, rfl, hOs.ext .go, (hRk.ext .go), hOp.ext .go, hRb.ext .go, hB5, by simpa [cutS] using htd⟩ ?_ ?_
  · repeat (first | exact trivial | refine stpg ?_)
  · rintro ⟨i, ss⟩ s6 w6 ⟨hE6, hz6, hi, hsl, hO6, hR6, hP6, hRb6, hB6, hd6⟩
    simp only at hi hsl hO6 hR6 hd6
    repeat (first | exact trivial | refine stpg ?_)
    refine ⟨fun hlt => ?_, fun hge => ?_⟩
    · obtain ⟨t, ht⟩ : ∃ x, ss[i]? = some x := ⟨_, List.getElem?_eq_getElem (by omega)⟩
      obtain ⟨hs1, hs2⟩ := hst i (by omega)
      obtain ⟨hOd, hPd⟩ := wmI_ok (n := nn) (keyD nn key) i 0 hO hO.pre
      rw [Nat.zero_add] at hPd
      have hat := atP_dig (m := nn) (by omega) (by omega) hKl hf (br_depth hs2 hPd (hOd.form hw))
      have hae := atP_err (m := nn) (by omega) (by omega) hKl hf (br_depth hs2 hPd (hOd.form hw))
      have hdg := digP_lt (keyD nn key) i
      obtain ⟨hbm, h32, hOk⟩ := hR6.mem t (List.mem_of_getElem? ht)
      obtain ⟨g, cap, rest, he, hgb, hBg, hnc, hcm, hrl⟩ := hO6.open (by omega)
      injection he with he1 _ he3
      subst he1 he3
      have hO6' : Own w6 w1.heap.size 51 2 (.slice (some ⟨g, 0, none⟩) tt.length sc) ss.length (ss.flatMap SR.cells) := by rw [hsl]; exact hO6
      obtain ⟨b', o', he, hRow⟩ := (SlC.of_own hO6').row (f := SR.cells) (sz := 2) (fun _ _ => rfl) (by decide) (by omega)
      injection he with he
      injection he with he1 he2
      subst he1 he2
      obtain ⟨kv, bm, ks⟩ := t
      simp only at hbm h32 hOk
      have hdt : (ss.map SR.dt)[i]? = some (bm, ks) := by rw [List.getElem?_map, ht]; rfl
      obtain ⟨hLi, hset⟩ := cutS_upto hd6 hdt
      have hkl : ks.length ≤ 16 := by
        rw [hs1] at hLi
        simp only [Option.some.injEq, Prod.mk.injEq] at hLi
        rw [← hLi.2, kidsI_len]
        exact cnt_le _
      obtain ⟨ka', kc', rfl⟩ := own_slice hOk
      repeat (first | exact trivial | refine stpg ?_)
      refine (At_ok nn (keyD nn key) hKl i w6).mono ?_
      rintro _ w7 ⟨rfl, hE7⟩
      have hz7 := hE7.size
      rw [hat, hae]
      repeat (first | exact trivial | refine stpg ?_)
      refine ldRowF (f := SR.cells) 0 ht ?_
      repeat (first | exact trivial | refine stpg ?_)
      refine (Rank_ok bm hbm (digP (keyD nn key) i) w7).mono ?_
      rintro _ w8 ⟨rfl, hE8⟩
      have hz8 := hE8.size
      repeat (first | exact trivial | refine stpg ?_)
      refine ldRowF (f := SR.cells) 0 ht ?_
      repeat (first | exact trivial | refine stpg ?_)
      refine (Has_ok bm hbm (digP (keyD nn key) i) w8).mono ?_
      rintro _ w9 ⟨rfl, hE9⟩
      have hz9 := hE9.size
      by_cases hh : hasB bm (digP (keyD nn key) i : Int) = true
      · rw [hh]
        repeat (first | exact trivial | refine stpg ?_)
        refine ldRowF (f := SR.cells) 1 ht ?_
        repeat (first | exact trivial | refine stpg ?_)
        refine ⟨fun hlt2 => ?_, fun hge2 => ?_⟩
        · refine ldRowF (f := SR.cells) 1 ht ?_
          repeat (first | exact trivial | refine stpg ?_)
          have hrk : rankB bm (digP (keyD nn key) i : Int) < ks.length := by omega
          generalize hre : rankB bm (digP (keyD nn key) i : Int) = r at *
          obtain ⟨hks1, _⟩ := set_split (y := ks[r]) (List.getElem?_eq_getElem hrk)
          have hkf : ks.flatMap vbs = (ks.take r).flatMap vbs ++ (vbs ks[r] ++ (ks.drop (r + 1)).flatMap vbs) := by
            conv => lhs; rw [hks1]
            rw [List.flatMap_append, List.flatMap_cons]
          have hcut : cutK bm (digP (keyD nn key) i) ks = ks.take r ++ ks.drop (r + 1) := by rw [cutK_has hh (by omega), hre]
          rw [w64 (by omega) (by omega), show ((r : Int) + 1) = ((r + 1 : Nat) : Int) from by omega]
          have hA := dvs_len (ks.take r) (fun d hd => h32 d (List.mem_of_mem_take hd))
          have hD := dvs_len (ks.drop (r + 1)) (fun d hd => h32 d (List.mem_of_mem_drop hd))
          rw [List.length_take, Nat.min_eq_left (by omega)] at hA
          rw [List.length_drop] at hD
          refine (DelD_ok ((ks.take r).flatMap vbs) (vbs ks[r]) ((ks.drop (r + 1)).flatMap vbs) r ks.length hA (by rw [vbs_len]; exact h32 _ (List.getElem_mem _)) (by rw [hD]; congr 1; omega) hrk (fun v hv => by obtain ⟨d, _, hd⟩ := List.mem_flatMap.1 hv; exact vbs_one _ _ hd) _ w1.heap.size w9 (by rw [← hkf]; exact hOk.ext .go) (by omega) (by omega)).mono ?_
          rintro v10 w10 ⟨hob, hO10, hE10, hOB⟩
          have hz10 := hE10.size
          obtain ⟨a10, c10, rfl⟩ := own_slice hO10
          have hn10 : ks.length - 1 = (cutK bm (digP (keyD nn key) i) ks).length := by rw [hcut, List.length_append, List.length_take, List.length_drop]; omega
          have hf10 : (ks.take r).flatMap vbs ++ (ks.drop (r + 1)).flatMap vbs = (cutK bm (digP (keyD nn key) i) ks).flatMap vbs := by rw [hcut, List.flatMap_append]
          rw [hn10, hf10] at hO10
          rw [hn10] at hob ⊢
          have hOk9 : Own w9 w1.heap.size 28 32 (.slice ka' ks.length kc') ks.length (ks.flatMap vbs) := hOk.ext .go
          have hBg9 : Blk w9 g 51 (ss.flatMap SR.cells ++ rest) := .go
          have hBg10 := hOB g _ _ (hOk9.not_blk hBg9 (by decide)) hBg9
          obtain ⟨hs3, hs4⟩ := set_split (y := (⟨.slice a10 (cutK bm (digP (keyD nn key) i) ks).length c10, bm, cutK bm (digP (keyD nn key) i) ks⟩ : SR)) ht
          generalize hkn : cutK bm (digP (keyD nn key) i) ks = kn at *
          have hcl : ((ss.take i).flatMap SR.cells).length = i * 2 := by
            have : ∀ l : List SR, (l.flatMap SR.cells).length = l.length * 2 := by
              intro l
              induction l with
              | nil => rfl
              | cons a l ih => rw [List.flatMap_cons, List.length_append, ih]; simp [SR.cells]; omega
            rw [this, List.length_take]
            omega
          have hcell : ss.flatMap SR.cells ++ rest = ((ss.take i).flatMap SR.cells ++ [.int .u16 bm]) ++ (.slice ka' ks.length kc' :: ((ss.drop (i + 1)).flatMap SR.cells ++ rest)) := by
            conv => lhs; rw [hs3]
            simp [SR.cells, List.flatMap_append, List.flatMap_cons, List.append_assoc]
          have hcell' : (ss.set i ⟨.slice a10 kn.length c10, bm, kn⟩).flatMap SR.cells ++ rest = ((ss.take i).flatMap SR.cells ++ [.int .u16 bm]) ++ (.slice a10 kn.length c10 :: ((ss.drop (i + 1)).flatMap SR.cells ++ rest)) := by
            rw [hs4]
            simp [SR.cells, List.flatMap_append, List.flatMap_cons, List.append_assoc]
          rw [hcell] at hBg10
          repeat (first | exact trivial | refine stpg ?_)
          refine stAt (by decide +kernel) hBg10 (by rw [List.length_append, hcl]; rfl) rfl rfl (fun w11 hP11 => ?_)
          have hB11 := hP11.blk
          rw [← hcell'] at hB11
          have hz11 := hP11.size
          have hkb := hR6.lt _ (List.mem_of_getElem? ht)
          have hBd10 : Blk w10 w4.heap.size 28 (vbs (keyD nn key)) := hOB _ _ _ (fun he => by have := hkb _ he; omega) (.go (h := hB6))
          have hg4 : g ≠ w4.heap.size := fun he => by have h1 := hBg10.out; rw [he, hBd10.out, Option.some.injEq, Obj.cells.injEq] at h1; exact absurd h1.2 (by decide)
          have hE11 : Ext w1 w11 := .go
          have hset' : ss.set i ⟨.slice a10 kn.length c10, bm, kn⟩ = ss.take i ++ ⟨.slice a10 kn.length c10, bm, kn⟩ :: ss.drop (i + 1) := hs4
          repeat (first | exact trivial | refine stpg ?_)
          refine ⟨(i + 1, ss.set i ⟨.slice a10 kn.length c10, bm, kn⟩), ⟨hE11, by omega, by simp only; omega, by simp only [List.length_set]; exact hsl, ?_, ?_, ?_, ?_, hP11.keep hBd10 (Ne.symm hg4), ?_⟩, by rw [w64 (by omega) (by omega)]; rfl, by simp only; omega⟩
          · have hxl : ((ss.set i ⟨.slice a10 kn.length c10, bm, kn⟩).flatMap SR.cells).length = tt.length * 2 := by
              have h1 := congrArg List.length hcell'
              have h2 := congrArg List.length hcell
              have h3 := hO6.1
              simp only [List.length_append, List.length_cons] at h1 h2
              omega
            refine own_mk (sz := 2) hB11 hgb hxl ?_ hnc hcm
            have h3 := hO6.1
            rw [List.length_append, h3] at hrl
            rw [Nat.sub_mul]
            omega
          · rw [hset']
            have hR9 : RunK w9 w2.heap.size w1.heap.size (ss.take i ++ ⟨.slice ka' ks.length kc', bm, ks⟩ :: ss.drop (i + 1)) := by rw [← hs3]; exact hR6.ext .go
            refine RunK.put hBg10 (by decide) hP11 (RunK.set (t := ⟨.slice ka' ks.length kc', bm, ks⟩) hOB hbm (fun d hd => h32 d (by rw [← hkn] at hd; exact cutK_mem d hd)) hob (by omega) (fun b hb => hO10.rebase fun g' hg' => hb.lo g' (by rw [← hob]; exact hg')) hR9)
          · exact ((hP6.ext (w' := w9) .go).onlyT hOk9 (by decide) hOB).put hBg10 (by decide) hP11
          · exact RunB.put hBg10 (by decide) hP11 (RunB.onlyT hOk9 (by decide) hOB (hRb6.ext (w' := w9) .go))
          · simp only
            rw [← hset, hset', List.map_append, List.map_cons]
            have hdt' : (ss.map SR.dt)[i]? = some (bm, ks) := hdt
            rw [(set_split (y := (bm, kn)) hdt').2, List.map_take, List.map_drop]
            rfl
        · repeat (first | exact trivial | refine stpg ?_)
          refine ⟨(i + 1, ss), ⟨.go, by omega, by simp only; omega, hsl, hO6.ext .go, hR6.ext .go, hP6.ext .go, hRb6.ext .go, .go, ?_⟩, by rw [w64 (by omega) (by omega)]; rfl, by simp only; omega⟩
          simp only
          rw [← hset, cutK_not (fun hc => by omega), set_same hdt]
      · rw [Bool.not_eq_true] at hh
        rw [hh]
        repeat (first | exact trivial | refine stpg ?_)
        refine ⟨(i + 1, ss), ⟨.go, by omega, by simp only; omega, hsl, hO6.ext .go, hR6.ext .go, hP6.ext .go, hRb6.ext .go, .go, ?_⟩, by rw [w64 (by omega) (by omega)]; rfl, by simp only; omega⟩
        simp only
        rw [← hset, cutK_not (fun hc => by rw [hh] at hc; exact absurd hc.1 (by decide)), set_same hdt]
    · refine bldC [.slice sa tt.length sc, .slice pa qs.length pc] (by kernel_rfl) ?_
      repeat (first | exact trivial | refine stpg ?_)
      refine stW ?_
      intro w7 hP7 hz7 hB7
      repeat (first | exact trivial | refine stpg ?_)
      obtain rfl : i = L.length := by omega
      rw [List.take_length, List.drop_length, List.append_nil] at hd6
      have hb0 : Blk w6 w.heap.size 26 _ := .go (h := hB1)
      refine ⟨.slice sa tt.length sc, .slice pa qs.length pc, ss, qs, rfl, ?_, ?_, ?_, ?_, ?_, ?_, ?_⟩
      · rw [hsl]; exact (hO6.base (by omega)).put hb0 (by decide) hP7
      · exact RunK.put hb0 (by decide) hP7 (RunK.top (by omega) (RunK.append (l := []) (m := w1.heap.size) (by show w.heap.size ≤ _; omega) hR6))
      · exact (hP6.base (by omega)).put hb0 (by decide) hP7
      · exact RunB.put hb0 (by decide) hP7 (RunB.top (by omega) (RunB.append (l := []) (m := w1.heap.size) (by show w.heap.size ≤ _; omega) hRb6))
      · rw [if_neg h64', hd6]
      · rw [if_neg h64', hqd]
      · exact .go
end Go.Proofs.YthlkfjoibjhaiaaGreatDoor

/-! Rfq -/
namespace Go.Proofs.YthlkfjoibjhaiaaGreatDoor
set_option maxRecDepth 100000
set_option maxHeartbeats 2000000
open Go Go.RowKit
set_option linter.unusedVariables false
set_option linter.unusedSimpArgs false
set_option maxHeartbeats 1000000
attribute [local irreducible] vcT opsT qT vcOp Q1 vcPure vcLoad vcStore ldC ldN ldD grdT grdQ vc vcOps vcQ hT
attribute [local irreducible] sumR sumP shaP keyD bucketP branchP

theorem ProveO_ok (n : Nat) (hn : 1 ≤ n) (hn2 : n ≤ 32) (is : List IR) (m : List It) (key : List UInt8) (mv kv : Value) (w : World) (hm : ItemsAt w mv is) (hy : is.map IR.y = m) (hO : OkI n m) (hk : SlB w kv key) (hkl : key.length ≤ 4000000000) (hml : is.length ≤ 90000000) :
    CallK Tryz.prog 119 [.int .i64 n, mv, kv].toArray w fun v w' => ∃ (sv pv : Value) (tt : List SR) (js : List IR), v = .agg [sv, pv].toArray ∧ Own w' w.heap.size 51 2 sv tt.length (tt.flatMap SR.cells) ∧ RunK w' w'.heap.size w.heap.size tt ∧
      Own w' w.heap.size 47 2 pv js.length ((js.map IR.pr).flatMap PR.cells) ∧ (∀ q ∈ js, q ∈ is) ∧ tt.map SR.dt = cutS (keyD n key) 0 (walkI n (keyD n key) 64 0 m).1 ∧ (js.map IR.pr).map PR.dat = (walkI n (keyD n key) 64 0 m).2.map It.pr ∧ Ext w w' := by
  have hw : widB n = true := (widB_iff n).2 (by omega)
  have hKl := keyD_len n key
  refine enterT Tryz.func119 rfl Tryz.ntmps119 Tryz.results119 rfl (by decide) ?_
  repeat (first | exact trivial | refine stpg ?_)
  first | refine newS ?_ | refine newZ ?_
  intro w1 hE1 hz1 hB1
  repeat (first | exact trivial | refine stpg ?_)
  refine (WalkO_ok n hn hn2 is m key mv kv w1 (hm.ext .go) hy hO (hk.ext .go) hkl hml).mono ?_
  rintro _ w2 ⟨sv, pv, tt, qs, rfl, hOs2, hRk2, hPr, hjs, htd, hqd, hE2⟩
  have hSt := hRk2.stepsAt hOs2
  have hz2 := hE2.size
  generalize hLe : (walkI n (keyD n key) 64 0 m).1 = L at *
  have hL : tt.length = L.length := by rw [← htd, List.length_map]
  obtain ⟨sa, sc, rfl⟩ := slv_of hSt.1
  obtain ⟨pa, pc, rfl⟩ := own_slice hPr
  obtain ⟨hst, hend, hsg⟩ := walk_spec hw (keyD n key) 64 0 m hO hO.pre rfl
  rw [hLe] at hst
  simp only [Nat.zero_add] at hst
  have hL32 : L.length ≤ 2 * n := by
    rcases Nat.eq_zero_or_pos L.length with h0 | h0
    · omega
    · obtain ⟨_, hs2⟩ := hst (L.length - 1) (by omega)
      obtain ⟨hOd, hPd⟩ := wmI_ok (n := n) (keyD n key) (L.length - 1) 0 hO hO.pre
      rw [Nat.zero_add] at hPd
      have := br_depth hs2 hPd (hOd.form hw)
      omega
  repeat (first | exact trivial | refine stpg ?_)
  refine (RKeyD_ok n hn hn2 key _ w2 (hk.ext .go) (by omega)).mono ?_
  rintro _ w3 ⟨rfl, hE3⟩
  have hz3 := hE3.size
  repeat (first | exact trivial | refine stpg ?_)
  first | refine newS ?_ | refine newZ ?_
  intro w4 hE4 hz4 hB4
  repeat (first | exact trivial | refine stpg ?_)
  first | refine newS ?_ | refine newZ ?_
  intro w5 hE5 hz5 hB5
  repeat (first | exact trivial | refine stpg ?_)
  refine loopX (ι := Nat × List SR × Option Addr × Nat) (fun x => [(6, .pointer (some ⟨w.heap.size, 0, none⟩)), (8, .slice pa qs.length pc), (9, .pointer (some ⟨w3.heap.size, 0, none⟩)), (10, .pointer (some ⟨w4.heap.size, 0, none⟩)), (23, .slice sa tt.length sc), (24, .int .i64 tt.length), (25, .int .i64 x.1)])
    (fun x W => Ext w4 W ∧ w5.heap.size ≤ W.heap.size ∧ x.1 ≤ L.length ∧ x.2.1.length = x.1 ∧ Blk W w4.heap.size 26 [.slice x.2.2.1 x.2.1.length x.2.2.2, .slice none 0 0] ∧
      Own W w5.heap.size 51 2 (.slice x.2.2.1 x.2.1.length x.2.2.2) x.2.1.length (x.2.1.flatMap SR.cells) ∧ RunK W W.heap.size w5.heap.size x.2.1 ∧ x.2.1.map SR.dt = cutS (keyD n key) 0 (L.take x.1)) (fun x => L.length - x.1) (0, [], none, 0) ⟨.go, Nat.le_refl _, Nat.zero_le _, rfl, hB5, Own.nil _ _ _ _, Nat.le_refl _, rfl⟩ ?_ ?_
  · repeat (first | exact trivial | refine stpg ?_)
  · rintro ⟨i, us, a, c⟩ s6 w6 ⟨hE6, hz6, hi, hul, hB6, hO6, hR6, hd6⟩
    simp only at hi hul hB6 hO6 hR6 hd6
    repeat (first | exact trivial | refine stpg ?_)
    refine ⟨fun hlt => ?_, fun hge => ?_⟩
    · obtain ⟨b, o, rfl, hR⟩ := hSt.1.row (f := SR.cells) (sz := 2) (fun _ _ => rfl) (by decide) (by omega)
      obtain ⟨t, ht⟩ : ∃ x, tt[i]? = some x := ⟨_, List.getElem?_eq_getElem (by omega)⟩
      have htm := hSt.2 t (List.mem_of_getElem? ht)
      have hLi : L[i]? = some t.dt := by rw [← htd, List.getElem?_map, ht]; rfl
      obtain ⟨hs1, hs2⟩ := hst i (by omega)
      have hkl2 : t.ks.length ≤ 16 := by
        rw [hs1] at hLi
        simp only [Option.some.injEq, SR.dt, Prod.mk.injEq] at hLi
        rw [← hLi.2, kidsI_len]
        exact cnt_le _
      obtain ⟨kv', bm, ks⟩ := t
      simp only [SR.dt] at htm hLi hkl2
      obtain ⟨ka', kc', rfl⟩ := slv_of htm.2.2
      have hdg := digP_lt (keyD n key) i
      repeat (first | exact trivial | refine stpg ?_)
      refine ldStepS ht ?_
      repeat (first | exact trivial | refine stpg ?_)
      first | refine newS ?_ | refine newZ ?_
      intro w7 hE7 hz7 hB7
      repeat (first | exact trivial | refine stpg ?_)
      have hB67 := hB6.ext hE7
      have hB47 : Blk w7 w3.heap.size 28 (vbs (keyD n key)) := .go (h := hB4)
      refine drawH (fun W => Blk W w4.heap.size 26 [.slice a us.length c, .slice none 0 0] ∧ Blk W w6.heap.size 51 [.int .u16 bm, .slice ka' ks.length kc'] ∧ Blk W w3.heap.size 28 (vbs (keyD n key))) [0, 1, 2, 3, 4, 5, 6, 7, 8, 9, 10] mixed (by decide +kernel) (fun w8 hE8 hh => ⟨⟨hB67.ext hE8, hB7.ext hE8, hB47.ext hE8⟩, ?_⟩)
      have hz8 := hE8.size
      repeat (first | exact trivial | refine stpg ?_)
      refine loadS_of (.slice a us.length c) (fun w' h => by refine stp ?_; exact ldCg rfl h.1) ?_
      repeat (first | exact trivial | refine stpg ?_)
      refine loadS_of (.agg [.int .u16 bm, .slice ka' ks.length kc'].toArray) (fun w' h => by refine stp ?_; exact ldNg rfl h.2.1) ?_
      repeat (first | exact trivial | refine stpg ?_)
      refine loadS_of (.agg (vbs (keyD n key)).toArray) (fun w' h => by refine stp ?_; exact ldNg rfl h.2.2) ?_
      repeat (first | exact trivial | refine stpg ?_)
      refine (DigitR_ok (keyD n key) hKl i (by omega) w8).mono ?_
      rintro _ w9 ⟨rfl, hE9⟩
      have hz9 := hE9.size
      have hB69 := hB67.ext (hE8.trans' hE9)
      have hB79 := hB7.ext (hE8.trans' hE9)
      have hB49 := hB47.ext (hE8.trans' hE9)
      refine toldS ⟨hB69, hB79, hB49⟩ ?_
      repeat (first | exact trivial | refine stpg ?_)
      refine (WithoutR_ok bm htm.1 (digP (keyD n key) i) hdg ks _ w9 (htm.2.2.ext .go) htm.2.1 (by omega)).mono ?_
      rintro _ w10 ⟨ov, rfl, hO10, hE10⟩
      have hz10 := hE10.size
      refine toldS ⟨hB69.ext hE10, hB79.ext hE10, hB49.ext hE10⟩ ?_
      obtain ⟨oa, oc, rfl⟩ := own_slice hO10
      generalize hkn : cutK bm (digP (keyD n key) i) ks = kn at *
      have hn32 : ∀ d ∈ kn, d.length = 32 := fun d hd => htm.2.1 d (by rw [← hkn] at hd; exact cutK_mem d hd)
      repeat (first | exact trivial | refine stpg ?_)
      refine ⟨rfl, rfl, ?_⟩
      first | refine newS ?_ | refine newZ ?_
      intro w11 hE11 hz11 hB11
      refine toldS ⟨hB69.ext (hE10.trans' hE11), hB79.ext (hE10.trans' hE11), hB49.ext (hE10.trans' hE11)⟩ ?_
      repeat (first | exact trivial | refine stpg ?_)
      have hO11 : Own w11 w5.heap.size 51 2 (.slice a us.length c) us.length (us.flatMap SR.cells) := hO6.ext .go
      have hB611 := hB69.ext (hE10.trans' hE11)
      refine apStep (us := us) (p := ⟨.slice oa kn.length oc, bm, kn⟩) hO11 (by omega) hB11 rfl (by omega) (fun a12 c12 w12 hO12 hg12 hE12 => ?_)
      have hz12 := hE12.size
      have hB12 : Blk w12 w4.heap.size 26 [.slice a us.length c, .slice none 0 0] := ⟨by rw [hg12.block _ hB611.lt (fun e => hO11.not_blk hB611 (by decide) e.symm)]; exact hB611.out⟩
      have hX : ∀ k T l, (Value.slice a us.length c).ownBlock ≠ some k → Blk w11 k T l → Blk w12 k T l := fun k T l hT hk => ⟨by rw [hg12.block _ hk.lt (fun e => hT e.symm)]; exact hk.out⟩
      have hB4x := hB49.ext (hE10.trans' hE11)
      have hR12 : RunK w12 w12.heap.size w5.heap.size (us ++ [⟨.slice oa kn.length oc, bm, kn⟩]) := by
        refine RunK.append (m := w9.heap.size) (RunK.grown hO11 (by decide) hg12 ((hR6.ext .go).top (by omega))) ⟨w12.heap.size, by omega, ⟨htm.1, hn32, (hO10.ext hE11).grown_ne hO11 (by decide) hg12, fun g hg => ?_⟩, Nat.le_refl _⟩
        have := (hO10.ext hE11).top g hg
        omega
      have hdt : (us ++ [(⟨.slice oa kn.length oc, bm, kn⟩ : SR)]).map SR.dt = cutS (keyD n key) 0 (L.take (i + 1)) := by
        obtain ⟨h1, h2⟩ := List.getElem?_eq_some_iff.1 hLi
        rw [List.map_append, hd6, List.take_succ_eq_append_getElem h1, h2, cutS_snoc, List.length_take, Nat.zero_add, Nat.min_eq_left (by omega), hkn]
        rfl
      have hul' : (us ++ [(⟨.slice oa kn.length oc, bm, kn⟩ : SR)]).length = i + 1 := by rw [List.length_append, hul]; rfl
      generalize us ++ [(⟨.slice oa kn.length oc, bm, kn⟩ : SR)] = us' at *
      refine toldS ⟨hB12, hX _ _ _ (fun e => by have := hO6.top _ e; omega) (hB79.ext (hE10.trans' hE11)), hX _ _ _ (hO11.not_blk hB4x (by decide)) hB4x⟩ ?_
      repeat (first | exact trivial | refine stpg ?_)
      refine stC ?_
      intro w13 hP13 hz13 hB13
      refine toldZ ?_
      repeat (first | exact trivial | refine stpg ?_)
      exact ⟨(i + 1, us', a12, c12), ⟨.go, by omega, by simp only; omega, hul', hB13, hO12.put hB12 (by decide) hP13, RunK.put hB12 (by decide) hP13 (hR12.top (by omega)), hdt⟩, by rw [w64 (by omega) (by omega)]; rfl, by simp only; omega⟩
    · have hl0 : i = L.length := by omega
      have hb1 : Blk w6 w.heap.size 26 _ := .go (h := hB1)
      repeat (first | exact trivial | refine stpg ?_)
      refine stC ?_
      intro w7 hP7 hz7 hB7
      have hb7 := hP7.keep hb1 (by omega)
      repeat (first | exact trivial | refine stpg ?_)
      refine stW (hb := hb7) ?_
      intro w8 hP8 hz8 hB8
      repeat (first | exact trivial | refine stpg ?_)
      rw [hl0, List.take_length] at hd6
      have hO8 := (hO6.put hB6 (by decide) hP7).put hb7 (by decide) hP8
      have hR8 := RunK.put hb7 (by decide) hP8 (RunK.put hB6 (by decide) hP7 hR6)
      have hP6 := ((hPr.ext (w' := w6) .go).put hB6 (by decide) hP7).put hb7 (by decide) hP8
      exact ⟨.slice a us.length c, .slice pa qs.length pc, us, qs, rfl, hO8.base (by omega), RunK.append (l := []) (m := w5.heap.size) (by show w.heap.size ≤ _; omega) (hR8.top (by omega)), hP6.base (by omega), hjs, hd6, hqd, .go⟩
theorem DocProveO_ok (n : Nat) (hn : 1 ≤ n) (hn2 : n ≤ 32) (is : List IR) (m : List It) (key : List UInt8) (mv kv : Value) (w : World) (hm : ItemsAt w mv is) (hy : is.map IR.y = m) (hO : OkI n m) (hk : SlB w kv key) (hml : is.length ≤ 90000000) :
    CallK Tryz.prog 29 [.int .i64 n, mv, kv].toArray w fun v w' => ∃ (sv pv : Value) (tt : List SR) (js : List IR), v = .tuple [.agg [sv, pv].toArray, .int .i64 (if 64 < key.length then 2 else 0 : Nat)].toArray ∧ Own w' w.heap.size 51 2 sv tt.length (tt.flatMap SR.cells) ∧ RunK w' w'.heap.size w.heap.size tt ∧
      Own w' w.heap.size 47 2 pv js.length ((js.map IR.pr).flatMap PR.cells) ∧ (∀ q ∈ js, q ∈ is) ∧ tt.map SR.dt = (if 64 < key.length then [] else cutS (keyD n key) 0 (walkI n (keyD n key) 64 0 m).1) ∧ (js.map IR.pr).map PR.dat = (if 64 < key.length then [] else (walkI n (keyD n key) 64 0 m).2.map It.pr) ∧ Ext w w' := by
  obtain ⟨ka, kc, rfl⟩ := slv_of hk
  refine enterT Tryz.func29 rfl Tryz.ntmps29 Tryz.results29 rfl (by decide) ?_
  repeat (first | exact trivial | refine stpg ?_)
  first | refine newS ?_ | refine newZ ?_
  intro w1 hE1 hz1 hB1
  repeat (first | exact trivial | refine stpg ?_)
  refine ⟨fun h64 => ?_, fun h64 => ?_⟩
  · refine bldC [.slice none 0 0, .slice none 0 0] (by kernel_rfl) ?_
    repeat (first | exact trivial | refine stpg ?_)
    refine stW ?_
    intro w2 hP2 hz2 hB2
    repeat (first | exact trivial | refine stpg ?_)
    exact ⟨.slice none 0 0, .slice none 0 0, [], [], by rw [if_pos (by omega)]; rfl, Own.nil _ _ _ _, by show w.heap.size ≤ w2.heap.size; omega, Own.nil _ _ _ _, fun q hq => (by cases hq), by rw [if_pos (by omega)]; rfl, by rw [if_pos (by omega)]; rfl, .go⟩
  · have h64' : ¬ 64 < key.length := by omega
    refine (ProveO_ok n hn hn2 is m key mv _ w1 (hm.ext .go) hy hO (hk.ext .go) (by omega) hml).mono ?_
    rintro _ w2 ⟨sv, pv, tt, js, rfl, hOs, hRk, hOp, hjs, htd, hqd, hE2⟩
    have hz2 := hE2.size
    obtain ⟨sa, sc, rfl⟩ := own_slice hOs
    obtain ⟨pa, pc, rfl⟩ := own_slice hOp
    have hb2 : Blk w2 w.heap.size 26 _ := .go (h := hB1)
    repeat (first | exact trivial | refine stpg ?_)
    refine stW (hb := hb2) ?_
    intro w3 hP3 hz3 hB3
    repeat (first | exact trivial | refine stpg ?_)
    have hO3 := hOs.put hb2 (by decide) hP3
    have hP3' := hOp.put hb2 (by decide) hP3
    have hR3 := RunK.put hb2 (by decide) hP3 hRk
    exact ⟨.slice sa tt.length sc, .slice pa js.length pc, tt, js, by rw [if_neg h64']; rfl, hO3.base (by omega), RunK.append (l := []) (m := w1.heap.size) (by show w.heap.size ≤ _; omega) (hR3.top (by omega)), hP3'.base (by omega), hjs, by rw [if_neg h64']; exact htd, by rw [if_neg h64']; exact hqd, .go⟩
/-- A proof's parts. -/
structure PrfAt (w : World) (v : Value) (ss : List (Nat × List (List UInt8))) (ps : List (List UInt8 × List UInt8)) : Prop where
  out : ∃ sv pv tt qs, v = .agg [sv, pv].toArray ∧ StepsAt w sv tt ∧ PairsAt w pv qs ∧ tt.map SR.dt = ss ∧ qs.map PR.dat = ps
theorem StepsAt.ext' {w w' : World} {v : Value} {tt : List SR} (h : StepsAt w v tt) (e : Ext w w') : StepsAt w' v tt := h.ext e
theorem PairsAt.ext' {w w' : World} {v : Value} {qs : List PR} (h : PairsAt w v qs) (e : Ext w w') : PairsAt w' v qs := ⟨h.1.ext e, fun p hp => ⟨(h.2 p hp).1.ext e, (h.2 p hp).2.ext e⟩⟩
theorem PrfAt.ext {w w' : World} {v : Value} {ss : List (Nat × List (List UInt8))} {ps : List (List UInt8 × List UInt8)} (h : PrfAt w v ss ps) (e : Ext w w') : PrfAt w' v ss ps := by
  obtain ⟨sv, pv, tt, qs, h1, h2, h3, h4, h5⟩ := h.out
  exact ⟨sv, pv, tt, qs, h1, h2.ext' e, h3.ext' e, h4, h5⟩
theorem PairsAt.ofJs {w w0 : World} {lo : Nat} {pv : Value} {is js : List IR} {mv : Value} (hm : ItemsAt w0 mv is) (e : Ext w0 w) (h : Own w lo 47 2 pv js.length ((js.map IR.pr).flatMap PR.cells)) (hj : ∀ q ∈ js, q ∈ is) : PairsAt w pv (js.map IR.pr) := by
  refine ⟨by rw [List.length_map]; exact SlC.of_own h, fun p hp => ?_⟩
  obtain ⟨q, hq, rfl⟩ := List.mem_map.1 hp
  exact ⟨(hm.mem q (hj q hq)).key.ext e, (hm.mem q (hj q hq)).val.ext e⟩
theorem PairsAt.ofRun {w : World} {lo lo' hi : Nat} {pv : Value} {qs : List PR} (h : Own w lo 47 2 pv qs.length (qs.flatMap PR.cells)) (hr : RunB w hi lo' (qs.flatMap prB)) : PairsAt w pv qs :=
  ⟨SlC.of_own h, fun p hp => ⟨(hr.mem (p.kv, p.k) (List.mem_flatMap.2 ⟨p, hp, by simp [prB]⟩)).sl, (hr.mem (p.vv, p.v) (List.mem_flatMap.2 ⟨p, hp, by simp [prB]⟩)).sl⟩⟩
theorem Same15_ok (u v : Value) (ss ss' : List (Nat × List (List UInt8))) (ps ps' : List (List UInt8 × List UInt8)) (w : World) (hu : PrfAt w u ss ps) (hv : PrfAt w v ss' ps') :
    CallK Tryz.prog 31 [u, v].toArray w fun r w' => r = .bool (decide (ss = ss' ∧ ps = ps')) ∧ Ext w w' := by
  obtain ⟨sv, pv, tt, qs, rfl, h1, h2, rfl, rfl⟩ := hu.out
  obtain ⟨sv', pv', tt', qs', rfl, h1', h2', rfl, rfl⟩ := hv.out
  obtain ⟨a1, c1, rfl⟩ := slv_of h1.1
  obtain ⟨a2, c2, rfl⟩ := slv_of h2.1
  obtain ⟨a3, c3, rfl⟩ := slv_of h1'.1
  obtain ⟨a4, c4, rfl⟩ := slv_of h2'.1
  refine enterT Tryz.func31 rfl Tryz.ntmps31 Tryz.results31 rfl (by decide) ?_
  repeat (first | exact trivial | refine stpg ?_)
  first | refine newS ?_ | refine newZ ?_
  intro w1 hE1 hz1 hB1
  first | refine newS ?_ | refine newZ ?_
  intro w2 hE2 hz2 hB2
  repeat (first | exact trivial | refine stpg ?_)
  refine (SameSteps_ok tt tt' _ _ w2 (h1.ext .go) (h1'.ext .go)).mono ?_
  rintro _ w3 ⟨rfl, hE3⟩
  have hz3 := hE3.size
  by_cases hs : tt.map SR.dt = tt'.map SR.dt
  · rw [decide_eq_true hs]
    repeat (first | exact trivial | refine stpg ?_)
    refine (SamePairs_ok qs qs' _ _ w3 (h2.ext' .go) (h2'.ext' .go)).mono ?_
    rintro _ w4 ⟨rfl, hE4⟩
    have hz4 := hE4.size
    repeat (first | exact trivial | refine stpg ?_)
    refine ⟨?_, .go⟩
    simp only [hs, true_and]
  · rw [decide_eq_false hs]
    repeat (first | exact trivial | refine stpg ?_)
    refine ⟨?_, .go⟩
    simp only [hs, false_and, decide_false]
/-- How many digests steps have, counted as the program counts. -/
def sizeW (ss : List SR) : Int := ss.foldl (fun n s => IntKind.i64.wrap (n + s.ks.length)) 0
theorem sizeW_snoc (ss : List SR) (s : SR) : sizeW (ss ++ [s]) = IntKind.i64.wrap (sizeW ss + s.ks.length) := by unfold sizeW; rw [List.foldl_append]; rfl
theorem Size_ok (ss : List SR) (qs : List PR) (sv pv : Value) (w : World) (h1 : StepsAt w sv ss) (h2 : PairsAt w pv qs) :
    CallK Tryz.prog 118 [.agg [sv, pv].toArray].toArray w fun r w' => r = .tuple [.int .i64 (sizeW ss), .int .i64 qs.length].toArray ∧ Ext w w' := by
  obtain ⟨a1, c1, rfl⟩ := slv_of h1.1
  obtain ⟨a2, c2, rfl⟩ := slv_of h2.1
  have hsn : ss.length ≤ 9223372036854775807 := by obtain ⟨_, _, _, h1, h2, _⟩ := h1.1; omega
  refine enterT Tryz.func118 rfl Tryz.ntmps118 Tryz.results118 rfl (by decide) ?_
  repeat (first | exact trivial | refine stpg ?_)
  first | refine newS ?_ | refine newZ ?_
  intro w1 hE1 hz1 hB1
  repeat (first | exact trivial | refine stpg ?_)
  refine loopX (ι := Nat) (fun i => [(1, .pointer (some ⟨w.heap.size, 0, none⟩)), (4, .int .i64 (sizeW (ss.take i))), (8, .slice a1 ss.length c1), (9, .int .i64 ss.length), (10, .int .i64 i)])
    (fun i W => Ext w1 W ∧ i ≤ ss.length) (fun i => ss.length - i) 0 ⟨.go, Nat.zero_le _⟩ ?_ ?_
  · repeat (first | exact trivial | refine stpg ?_)
    rfl
  · rintro i s2 w2 ⟨hE2, hi⟩
    have hz2 := hE2.size
    repeat (first | exact trivial | refine stpg ?_)
    refine ⟨fun hlt => ?_, fun hge => ?_⟩
    · obtain ⟨b, o, rfl, hR⟩ := h1.1.row (f := SR.cells) (sz := 2) (fun _ _ => rfl) (by decide) (by omega)
      obtain ⟨s, hs⟩ : ∃ x, ss[i]? = some x := ⟨_, List.getElem?_eq_getElem (by omega)⟩
      have hsm := h1.2 s (List.mem_of_getElem? hs)
      have htk : ss.take (i + 1) = ss.take i ++ [s] := by
        obtain ⟨hil, he⟩ := List.getElem?_eq_some_iff.1 hs
        rw [List.take_succ_eq_append_getElem hil, he]
      obtain ⟨kv, bm, ks⟩ := s
      obtain ⟨ka, kc, e⟩ := slv_of hsm.2.2
      simp only at e
      subst e
      repeat (first | exact trivial | refine stpg ?_)
      refine ldStepS hs ?_
      repeat (first | exact trivial | refine stpg ?_)
      first | refine newS ?_ | refine newZ ?_
      intro w3 hE3 hz3 hB3
      repeat (first | exact trivial | refine stpg ?_)
      exact ⟨i + 1, ⟨.go, by omega⟩, ⟨by rw [htk, sizeW_snoc], by rw [w64 (by omega) (by omega)]; rfl⟩, by omega⟩
    · obtain rfl : i = ss.length := by omega
      rw [List.take_length]
      repeat (first | exact trivial | refine stpg ?_)
      intro w3 hE3
      exact .go
end Go.Proofs.YthlkfjoibjhaiaaGreatDoor

/-! Rfe -/
namespace Go.Proofs.YthlkfjoibjhaiaaGreatDoor
set_option maxRecDepth 100000
set_option maxHeartbeats 2000000
open Go Go.RowKit
set_option linter.unusedVariables false
set_option linter.unusedSimpArgs false
set_option maxHeartbeats 1000000
attribute [local irreducible] vcT opsT qT vcOp Q1 vcPure vcLoad vcStore ldC ldN ldD grdT grdQ vc vcOps vcQ hT
attribute [local irreducible] sumR sumP shaP keyD bucketP branchP

/-- A list of items with all that it needs in blocks of S. -/
structure ItemsS (S : Nat → Prop) (w : World) (v : Value) (is : List IR) : Prop where
  row : SlS S w v is.length (is.flatMap IR.cells)
  mem : ∀ q ∈ is, q.y.D.length = 32 ∧ SlS S w q.kv q.y.k.length (vbs q.y.k) ∧ SlS S w q.vv q.y.v.length (vbs q.y.v)
theorem ItemsS.at {S : Nat → Prop} {w : World} {v : Value} {is : List IR} (h : ItemsS S w v is) : ItemsAt w v is := ⟨h.row.sl, fun q hq => ⟨(h.mem q hq).1, (h.mem q hq).2.1.sl, (h.mem q hq).2.2.sl⟩⟩
theorem ItemsS.keep {S : Nat → Prop} {w w' : World} {v : Value} {is : List IR} (h : ItemsS S w v is) (k : KeepS S w w') : ItemsS S w' v is := ⟨h.row.keep k, fun q hq => ⟨(h.mem q hq).1, (h.mem q hq).2.1.keep k, (h.mem q hq).2.2.keep k⟩⟩
theorem ItemsS.mono {S S' : Nat → Prop} {w : World} {v : Value} {is : List IR} (h : ItemsS S w v is) (hS : ∀ b, S b → S' b) : ItemsS S' w v is := ⟨h.row.mono hS, fun q hq => ⟨(h.mem q hq).1, (h.mem q hq).2.1.mono hS, (h.mem q hq).2.2.mono hS⟩⟩
theorem ItemsS.lt {S : Nat → Prop} {w : World} {v : Value} {is : List IR} (h : ItemsS S w v is) : ItemsS (SLt S w) w v is := ⟨h.row.lt, fun q hq => ⟨(h.mem q hq).1, (h.mem q hq).2.1.lt, (h.mem q hq).2.2.lt⟩⟩
theorem ItemsS.nil {S : Nat → Prop} {w : World} : ItemsS S w (.slice none 0 0) [] := ⟨⟨none, 0, rfl, Nat.le_refl _, by decide, Or.inl rfl⟩, by simp⟩
theorem ItemsS.ext {S : Nat → Prop} {w w' : World} {v : Value} {is : List IR} (h : ItemsS S w v is) (e : Ext w w') : ItemsS S w' v is := h.keep (KeepS.of_ext e)
theorem PutS_ok (n : Nat) (hn : 1 ≤ n) (hn2 : n ≤ 32) (S : Nat → Prop) (is : List IR) (m : List It) (key val : List UInt8) (mv kv vv : Value) (w : World) (hm : ItemsS S w mv is) (hy : is.map IR.y = m) (hs : SortedI m) (hk : SlB w kv key) (hv : SlB w vv val) (hkl : key.length ≤ 4000000000) (hvl : val.length ≤ 4000000000) (hml : is.length ≤ 100000000) :
    CallK Tryz.prog 121 [.int .i64 n, mv, kv, vv].toArray w fun v w' => (∃ js, ItemsS (fun b => S b ∨ w.heap.size ≤ b) w' v js ∧ js.map IR.y = putI m ⟨keyD n key, key, val⟩) ∧ Ext w w' := by
  refine (PutO_ok n hn hn2 is m key val mv kv vv w hm.at hy hs hk hv hkl hvl hml).mono ?_
  rintro v w' ⟨⟨js, p, hO, hj, hp, hpS, hjy⟩, hE⟩
  refine ⟨⟨js, ⟨SlS.of_own hO (fun b h => Or.inr h), fun r hr => ?_⟩, hjy⟩, hE⟩
  rcases hj r hr with rfl | h
  · exact ⟨hp.len, hpS.1.mono (fun b h => Or.inr h), hpS.2.mono (fun b h => Or.inr h)⟩
  · have h' := (hm.ext hE).mem r h
    exact ⟨h'.1, h'.2.1.mono (fun b h => Or.inl h), h'.2.2.mono (fun b h => Or.inl h)⟩
def noK (key : List UInt8) (q : IR) : Bool := decide (q.y.k ≠ key)
end Go.Proofs.YthlkfjoibjhaiaaGreatDoor

/-! Cnv -/
namespace Go.Proofs.YthlkfjoibjhaiaaGreatDoor
set_option maxRecDepth 100000
set_option maxHeartbeats 2000000
open Go Go.RowKit
set_option linter.unusedVariables false
set_option linter.unusedSimpArgs false

/-! ### Conversions -/
theorem convM {w : World} {b n c : Nat} {T : TypeId} {xs : List UInt8} {K : Value → World → Prop} (hB : Blk w b T (vbs xs)) (hn : n = xs.length) (hc : n ≤ c) (hm : c ≤ 9223372036854775807)
    (hK : ∀ w', SlB w' (.slice (some ⟨b, 0, none⟩) n c) xs → KeepB w w' b → K (.slice (some ⟨b, 0, none⟩) n c) w') : RawConv Tryz.prog 22 22 (.slice (some ⟨b, 0, none⟩) n c) w K := by
  subst hn
  have hsh : w.shape? b = some (T, xs.length) := by simp [World.shape?, hB.out, vbs_len]
  refine ⟨⟨.slice (some ⟨b, 0, none⟩) xs.length c, w.freeze ⟨b, xs.length, none⟩ 1, ?_, ?_⟩⟩
  · simp [convert, run_underlying Tryz.underlying22, run_underlying Tryz.underlying5, markStringish, shape, Sem.run, Result.andThen, hsh]
  · refine hK _ ⟨_, _, rfl, hc, hm, Or.inr ⟨b, 0, rfl, fun j u hj => ?_⟩⟩ ⟨rfl, rfl, rfl, by simp [World.freeze], fun k hk hkb => ?_⟩
    · rw [Nat.zero_add]
      have := hj
      simp [World.cell?, World.freeze, Array.getElem?_modify, hB.out]
      exact hj
    · simp [World.freeze, Array.getElem?_modify, Ne.symm hkb]
theorem convN {w : World} {xs : List UInt8} {n : Nat} {l : List Value} {K : Value → World → Prop} (hl : l = vbs xs) (hn : n = xs.length) (hm : n ≤ 9223372036854775807)
    (hK : ∀ w', Ext w w' → w.heap.size + 1 ≤ w'.heap.size → SlB w' (.slice (some ⟨w.heap.size, 0, none⟩) n n) xs → K (.slice (some ⟨w.heap.size, 0, none⟩) n n) w') :
    ∀ w', NewB w w' 5 l → RawConv Tryz.prog 22 22 (.slice (some ⟨w.heap.size, 0, none⟩) n n) w' K := fun w' hN => by
  subst hl
  exact convM hN.blk hn (Nat.le_refl _) hm fun w'' hS hk => hK w'' (hN.ext.trans (hk.below (Nat.le_refl _) (by have := hN.size; omega))) (by have := hk.size; have := hN.size; omega) hS
/-! ### The order of strings -/
end Go.Proofs.YthlkfjoibjhaiaaGreatDoor

/-! Lpa -/
namespace Go.Proofs.YthlkfjoibjhaiaaGreatDoor
set_option maxRecDepth 100000
set_option maxHeartbeats 2000000
open Go Go.RowKit
set_option linter.unusedVariables false
set_option linter.unusedSimpArgs false
set_option maxHeartbeats 1000000
attribute [local irreducible] vcT opsT qT vcOp Q1 vcPure vcLoad vcStore ldC ldN ldD grdT grdQ vc vcOps vcQ hT
attribute [local irreducible] sumR sumP shaP keyD bucketP branchP

/-- The items of the first eighty pairs. -/
def madeI (n : Int) (ps : List (List UInt8 × List UInt8)) : List It := grownI n (ps.take 80)
theorem madeI_ok (n : Int) (l : List (List UInt8 × List UInt8)) : OkI n (madeI n l) := grownI_ok _ _
theorem madeI_len (n : Int) (l : List (List UInt8 × List UInt8)) : (madeI n l).length ≤ 80 := by
  have := grownI_len n (l.take 80)
  rw [List.length_take] at this
  unfold madeI
  omega
theorem made_ok (n : Int) (ps : List PR) (pv : Value) (w : World) (hW : WordsAt w 1) (hp : PairsAt w pv ps) :
    CallK Tryz.prog 27 [.int .i64 n, pv].toArray w fun v w' => (widB n = false → v = .tuple [.pointer none, .slice none 0 0].toArray) ∧
      (widB n = true → ∃ b lv is, v = .tuple [.pointer (some ⟨b, 0, none⟩), lv].toArray ∧ MapAt n (fun k => w.heap.size ≤ k) w' (.pointer (some ⟨b, 0, none⟩)) (madeI n (ps.map PR.dat)) ∧ ItemsS (fun k => w.heap.size ≤ k) w' lv is ∧ is.map IR.y = madeI n (ps.map PR.dat)) ∧ Ext w w' := by
  obtain ⟨hp1, hp2⟩ := hp
  have hpl : ps.length ≤ 9223372036854775807 := by obtain ⟨_, _, _, h1, h2, _⟩ := hp1; omega
  obtain ⟨pa, cp, rfl⟩ := slv_of hp1
  refine enterT Tryz.func27 rfl Tryz.ntmps27 Tryz.results27 rfl (by decide) ?_
  repeat (first | exact trivial | refine stpg ?_)
  refine (New_hamt_ok n w).mono ?_
  rintro _ w1 ⟨hN0, hN1, hE1⟩
  have hz1 := hE1.size
  cases hw : widB n
  · obtain rfl := hN0 hw
    repeat (first | exact trivial | refine stpg ?_)
    exact hE1
  · obtain ⟨mv, rfl, hM1⟩ := hN1 hw
    have hwn := (widB_iff n).1 hw
    obtain ⟨nn, rfl⟩ : ∃ nn : Nat, n = nn := ⟨n.toNat, by omega⟩
    obtain ⟨b, rfl⟩ : ∃ b, mv = .pointer (some ⟨b, 0, none⟩) := by obtain ⟨b, _, rfl, _⟩ := hM1; exact ⟨b, rfl⟩
    clear hN0 hN1
    repeat (first | exact trivial | refine stpg ?_)
    refine loopX (ι := Nat × Nat × Value × List IR) (fun x => [(0, .int .i64 nn), (6, .pointer (some ⟨x.2.1, 0, none⟩)), (8, x.2.2.1), (24, .slice pa ps.length cp), (25, .int .i64 ps.length), (26, .int .i64 x.1)])
      (fun x W => Ext w W ∧ x.1 ≤ ps.length ∧ MapAt nn (fun k => w.heap.size ≤ k) W (.pointer (some ⟨x.2.1, 0, none⟩)) (madeI nn ((ps.take x.1).map PR.dat)) ∧ ItemsS (fun k => w.heap.size ≤ k) W x.2.2.1 x.2.2.2 ∧ x.2.2.2.map IR.y = madeI nn ((ps.take x.1).map PR.dat)) (fun x => ps.length - x.1) (0, b, .slice none 0 0, []) ⟨.go, Nat.zero_le _, hM1, .nil, rfl⟩ ?_ ?_
    · repeat (first | exact trivial | refine stpg ?_)
    · rintro ⟨i, mb, lv, is⟩ s2 w2 ⟨hE2, hi, hM2, hI2, hy2⟩
      simp only at hi hM2 hI2 hy2
      have hz2 := hE2.size
      have hO2 := madeI_ok nn ((ps.take i).map PR.dat)
      have hL2 := madeI_len nn ((ps.take i).map PR.dat)
      have hil2 : is.length ≤ 80 := by rw [← hy2, List.length_map] at hL2; exact hL2
      obtain ⟨la, lc, rfl⟩ := slv_of hI2.row.sl
      repeat (first | exact trivial | refine stpg ?_)
      refine ⟨fun hlt => ?_, fun hge => ?_⟩
      · obtain ⟨pb, po, rfl, hR⟩ := pr_row hp1 (by omega)
        obtain ⟨p, hx⟩ : ∃ x, ps[i]? = some x := ⟨_, List.getElem?_eq_getElem (by omega)⟩
        obtain ⟨hpk, hpv⟩ := hp2 _ (List.mem_of_getElem? hx)
        have htk : madeI nn ((ps.take (i + 1)).map PR.dat) = if 80 ≤ i ∨ 64 < p.k.length ∨ 256 < p.v.length then madeI nn ((ps.take i).map PR.dat) else putI (madeI nn ((ps.take i).map PR.dat)) ⟨keyD nn p.k, p.k, p.v⟩ := by
          obtain ⟨hil, he⟩ := List.getElem?_eq_some_iff.1 hx
          rw [List.take_succ_eq_append_getElem hil, he, List.map_append]
          have hll : ((ps.take i).map PR.dat).length = i := by rw [List.length_map, List.length_take]; omega
          unfold madeI
          by_cases h80 : 80 ≤ i
          · rw [if_pos (Or.inl h80), List.take_append_of_le_length (by omega)]
          · rw [List.take_of_length_le (l := _ ++ _) (by rw [List.length_append, hll]; simp; omega), List.take_of_length_le (l := List.map _ _) (by omega)]
            have := grownI_snoc nn ((ps.take i).map PR.dat) p.dat
            rw [show (List.map PR.dat [p]) = [p.dat] from rfl, this]
            by_cases hc : 64 < p.k.length ∨ 256 < p.v.length
            · rw [if_pos (show 64 < p.dat.1.length ∨ 256 < p.dat.2.length from hc), if_pos (Or.inr hc)]
            · rw [if_neg (show ¬ (64 < p.dat.1.length ∨ 256 < p.dat.2.length) from hc), if_neg (fun h => h.elim (fun h => h80 h) hc)]
              rfl
        obtain ⟨kv, vv, k, v⟩ := p
        simp only at hpk hpv htk
        obtain ⟨ka, kc, rfl⟩ := slv_of hpk
        obtain ⟨va, vc', rfl⟩ := slv_of hpv
        repeat (first | exact trivial | refine stpg ?_)
        refine ldPair hx ?_
        repeat (first | exact trivial | refine stpg ?_)
        first | refine newS ?_ | refine newZ ?_
        intro w3 hE3 hz3 hB3
        repeat (first | exact trivial | refine stpg ?_)
        refine ⟨fun h80' => ?_, fun h80' => ?_⟩
        · have h80 : 80 ≤ i := by omega
          exact ⟨(i + 1, mb, .slice la is.length lc, is), ⟨.go, by simp only; omega, by simp only; rw [htk, if_pos (Or.inl h80)]; exact hM2.ext .go, hI2.ext .go, by simp only; rw [htk, if_pos (Or.inl h80)]; exact hy2⟩, ⟨rfl, rfl, by rw [w64 (by omega) (by omega)]; rfl⟩, by simp only; omega⟩
        have h80 : ¬ 80 ≤ i := by omega
        repeat (first | exact trivial | refine stpg ?_)
        refine (CheckPairR_ok k v _ _ w3 (hpk.ext .go) (hpv.ext .go)).mono ?_
        rintro _ w4 ⟨rfl, hE4⟩
        have hz4 := hE4.size
        by_cases hc : 64 < k.length ∨ 256 < v.length
        · rw [if_pos hc]
          repeat (first | exact trivial | refine stpg ?_)
          exact ⟨(i + 1, mb, .slice la is.length lc, is), ⟨.go, by simp only; omega, by simp only; rw [htk, if_pos (Or.inr hc)]; exact hM2.ext .go, hI2.ext .go, by simp only; rw [htk, if_pos (Or.inr hc)]; exact hy2⟩, ⟨rfl, rfl, by rw [w64 (by omega) (by omega)]; rfl⟩, by simp only; omega⟩
        · rw [if_neg hc]
          repeat (first | exact trivial | refine stpg ?_)
          refine (Put_hamt_ok nn hw _ _ _ _ _ k v w4 (hW.ext .go) (hM2.ext .go) hO2 (hpk.ext .go) (hpv.ext .go) (by omega)).mono ?_
          rintro _ w5 ⟨⟨rv, rfl, _, hM5⟩, hE5⟩
          have hz5 := hE5.size
          rw [if_neg hc]
          replace hM5 := (hM5 hc).mono (S' := fun k => w.heap.size ≤ k) (fun k h => h.elim id (fun h => by omega))
          obtain ⟨b5, rfl⟩ : ∃ b, rv = .pointer (some ⟨b, 0, none⟩) := by obtain ⟨b, _, rfl, _⟩ := hM5; exact ⟨b, rfl⟩
          repeat (first | exact trivial | refine stpg ?_)
          refine (PutS_ok nn (by omega) (by omega) _ is _ k v _ _ _ w5 (hI2.ext .go) hy2 hO2.sorted (hpk.ext .go) (hpv.ext .go) (by omega) (by omega) (by omega)).mono ?_
          rintro v6 w6 ⟨⟨js, hJ, hjy⟩, hE6⟩
          have hz6 := hE6.size
          repeat (first | exact trivial | refine stpg ?_)
          refine ⟨(i + 1, b5, v6, js), ⟨.go, by simp only; omega, ?_, hJ.mono (fun b h => h.elim id (fun h => by omega)), ?_⟩, ⟨rfl, rfl, by rw [w64 (by omega) (by omega)]; rfl⟩, by simp only; omega⟩
          · simp only
            rw [htk, if_neg (fun h => h.elim (fun h => h80 h) hc)]
            exact hM5.ext .go
          · simp only
            rw [htk, if_neg (fun h => h.elim (fun h => h80 h) hc)]
            exact hjy
      · obtain rfl : i = ps.length := by omega
        rw [List.take_length] at hM2 hy2
        repeat (first | exact trivial | refine stpg ?_)
        exact ⟨⟨mb, _, is, rfl, hM2, hI2, hy2⟩, hE2⟩
theorem wide15_ok (n : Int) (w : World) : CallK Tryz.prog 28 [.int .i64 n].toArray w fun v w' => v = .bool (widB n) ∧ Ext w w' := by
  have hi := widB_iff n
  refine enterT Tryz.func28 rfl Tryz.ntmps28 Tryz.results28 rfl (by decide) ?_
  repeat (first | exact trivial | refine stpg ?_)
  refine ⟨fun h => ⟨?_, Ext.rfl' _⟩, fun h => ⟨?_, Ext.rfl' _⟩⟩
  · by_cases h2 : n ≤ 32
    · rw [decide_eq_true h2, hi.2 ⟨h, h2⟩]
    · rw [decide_eq_false h2]
      cases e : widB n
      · rfl
      · exact absurd (hi.1 e).2 h2
  · cases e : widB n
    · rfl
    · exact absurd (hi.1 e).1 h
/-- The three pairs of awake. -/
def awL : List (List UInt8 × List UInt8) := [([97], [49]), ([98], []), ([99], [])]
theorem awP : ((cutS (keyD 4 [97]) 0 (walkI 4 (keyD 4 [97]) 64 0 (madeI 4 awL)).1).map fun s => s.2.length) = [2] ∧ (walkI 4 (keyD 4 [97]) 64 0 (madeI 4 awL)).2.length = 1 := by decide +kernel
theorem sizeW_of {ss : List SR} {L : List (Nat × List (List UInt8))} (h : ss.map SR.dt = L) (h2 : (L.map fun s => s.2.length) = [2]) : sizeW ss = 2 := by
  have h3 : (ss.map fun s => s.ks.length) = [2] := by
    rw [← h2, ← h, List.map_map]
    rfl
  obtain ⟨s, rfl⟩ : ∃ s, ss = [s] := List.length_eq_one_iff.1 (by have := congrArg List.length h3; simpa using this)
  have : s.ks.length = 2 := by simpa using h3
  unfold sizeW
  rw [List.foldl_cons, List.foldl_nil, this]
  decide
theorem awake15_ok (w : World) (hW : WordsAt w 1) :
    CallK Tryz.prog 26 [].toArray w fun v w' => v = .bool true ∧ Ext w w' := by
  have hw4 : widB 4 = true := by decide
  refine enterT Tryz.func26 rfl Tryz.ntmps26 Tryz.results26 rfl (by decide) ?_
  repeat (first | exact trivial | refine stpg ?_)
  refine ⟨rfl, rfl, convN (xs := [97]) rfl rfl (by decide) (fun w1 hE1 hz1 hS1 => ?_)⟩
  repeat (first | exact trivial | refine stpg ?_)
  refine ⟨rfl, rfl, convN (xs := [49]) rfl rfl (by decide) (fun w2 hE2 hz2 hS2 => ?_)⟩
  repeat (first | exact trivial | refine stpg ?_)
  refine bldC [.slice (some ⟨w.heap.size, 0, none⟩) 1 1, .slice (some ⟨w1.heap.size, 0, none⟩) 1 1] (by kernel_rfl) ?_
  repeat (first | exact trivial | refine stpg ?_)
  refine ⟨rfl, rfl, convN (xs := [98]) rfl rfl (by decide) (fun w3 hE3 hz3 hS3 => ?_)⟩
  repeat (first | exact trivial | refine stpg ?_)
  refine bldC [.slice (some ⟨w2.heap.size, 0, none⟩) 1 1, .slice none 0 0] (by kernel_rfl) ?_
  repeat (first | exact trivial | refine stpg ?_)
  refine ⟨rfl, rfl, convN (xs := [99]) rfl rfl (by decide) (fun w4 hE4 hz4 hS4 => ?_)⟩
  repeat (first | exact trivial | refine stpg ?_)
  refine bldC [.slice (some ⟨w3.heap.size, 0, none⟩) 1 1, .slice none 0 0] (by kernel_rfl) ?_
  repeat (first | exact trivial | refine stpg ?_)
  refine ⟨rfl, ⟨rfl, ⟨rfl, rfl⟩⟩, ?_⟩
  first | refine newS ?_ | refine newZ ?_
  intro w5 hE5 hz5 hB5
  have hnil : ∀ W : World, SlB W (.slice none 0 0) [] := fun W => ⟨none, 0, rfl, Nat.le_refl _, by decide, Or.inl rfl⟩
  have hp5 : PairsAt w5 (.slice (some ⟨w4.heap.size, 0, none⟩) 3 3) [⟨.slice (some ⟨w.heap.size, 0, none⟩) 1 1, .slice (some ⟨w1.heap.size, 0, none⟩) 1 1, [97], [49]⟩, ⟨.slice (some ⟨w2.heap.size, 0, none⟩) 1 1, .slice none 0 0, [98], []⟩, ⟨.slice (some ⟨w3.heap.size, 0, none⟩) 1 1, .slice none 0 0, [99], []⟩] := by
    refine ⟨SlC.of_blk hB5 (by decide), fun p hp => ?_⟩
    rcases List.mem_cons.1 hp with rfl | hp
    · exact ⟨hS1.ext .go, hS2.ext .go⟩
    rcases List.mem_cons.1 hp with rfl | hp
    · exact ⟨hS3.ext .go, hnil _⟩
    · obtain rfl := List.mem_singleton.1 hp
      exact ⟨hS4.ext .go, hnil _⟩
  repeat (first | exact trivial | refine stpg ?_)
  refine (made_ok 4 _ _ w5 (hW.ext .go) hp5).mono ?_
  rintro _ w6 ⟨_, hm6, hE6⟩
  have hz6 := hE6.size
  obtain ⟨b6, lv, is, rfl, hM6, hI6, hy6⟩ := hm6 hw4
  have hO6 := madeI_ok 4 awL
  have hL6 := madeI_len 4 awL
  obtain ⟨hP1, hP2⟩ := awP
  change MapAt 4 _ w6 _ (madeI 4 awL) at hM6
  change is.map IR.y = madeI 4 awL at hy6
  generalize madeI 4 awL = m6 at *
  have hil6 : is.length ≤ 80 := by rw [← hy6, List.length_map] at hL6; exact hL6
  obtain ⟨la, lc, rfl⟩ := slv_of hI6.row.sl
  repeat (first | exact trivial | refine stpg ?_)
  refine ⟨rfl, rfl, convN (xs := [97]) rfl rfl (by decide) (fun w7 hE7 hz7 hS7 => ?_)⟩
  repeat (first | exact trivial | refine stpg ?_)
  refine (Prove_hproof_ok 4 hw4 _ _ _ m6 [97] w7 (hW.ext .go) (hM6.ext .go) hO6 hS7 (by omega)).mono ?_
  rintro _ w8 ⟨sv, pv, tt, qs, rfl, hOs, hRk, hOp, hRb, htd, hqd, hE8⟩
  have hz8 := hE8.size
  rw [if_neg (by decide)] at htd hqd
  rw [if_neg (by decide)]
  have hsz := sizeW_of htd hP1
  have hql : qs.length = 1 := by have := congrArg List.length hqd; simpa [hP2] using this
  obtain ⟨sa, sc, rfl⟩ := own_slice hOs
  obtain ⟨pa, pc, rfl⟩ := own_slice hOp
  have hSt := hRk.stepsAt hOs
  have hPr := PairsAt.ofRun hOp hRb
  repeat (first | exact trivial | refine stpg ?_)
  first | refine newS ?_ | refine newZ ?_
  intro w9 hE9 hz9 hB9
  repeat (first | exact trivial | refine stpg ?_)
  refine (Size_ok tt qs _ _ w9 (hSt.ext' .go) (hPr.ext' .go)).mono ?_
  rintro _ w10 ⟨rfl, hE10⟩
  have hz10 := hE10.size
  rw [hsz]
  repeat (first | exact trivial | refine stp ?_ | refine ldCg ?_ | refine ldNg ?_ | refine ldSg ?_ | refine ldSb ?_ | refine bnd ?_ | refine bnd1 ?_)
  refine drawX (.of [0, 1, 2, 3, 4, 5, 6, 7, 8, 9, 10, 11, 12, 13, 14, 15, 16, 17, 18]) mixed (by decide +kernel) (fun w11 hE11 hz11 => ?_)
  repeat (first | exact trivial | refine stpg ?_)
  refine ⟨rfl, rfl, ?_⟩
  first | refine newS ?_ | refine newZ ?_
  intro w12 hE12 hz12 hB12
  refine toldK ?_
  repeat (first | exact trivial | refine stpg ?_)
  refine convM (xs := [97]) hB12 rfl (by decide) (by decide) (fun w13 hS13 hK13 => ?_)
  have hE13 : Ext w11 w13 := hE12.trans (hK13.below (Nat.le_refl _) (by omega))
  have hz13 := hE13.size
  clear hE12
  refine toldK ?_
  repeat (first | exact trivial | refine stpg ?_)
  refine (ProveO_ok 4 (by decide) (by decide) is m6 [97] _ _ w13 (hI6.at.ext .go) hy6 hO6 hS13 (by decide) (by omega)).mono ?_
  rintro _ w14 ⟨sv', pv', tt', js, rfl, hOs', hRk', hOp', hjs, htd', hqd', hE14⟩
  have hz14 := hE14.size
  refine toldK ?_
  repeat (first | exact trivial | refine stpg ?_)
  refine (Same15_ok _ _ (tt.map SR.dt) (tt.map SR.dt) (qs.map PR.dat) (qs.map PR.dat) w14 ⟨_, _, tt, qs, rfl, hSt.ext' .go, hPr.ext' .go, rfl, rfl⟩ ⟨_, _, tt', js.map IR.pr, rfl, hRk'.stepsAt hOs', PairsAt.ofJs hI6.at .go hOp' hjs, by rw [htd]; exact htd', by rw [hqd]; exact hqd'⟩).mono ?_
  rintro _ w15 ⟨rfl, hE15⟩
  have hz15 := hE15.size
  refine toldK ?_
  rw [show decide (tt.map SR.dt = tt.map SR.dt ∧ qs.map PR.dat = qs.map PR.dat) = true from decide_eq_true ⟨rfl, rfl⟩]
  repeat (first | exact trivial | refine stpg ?_)
  exact .go
end Go.Proofs.YthlkfjoibjhaiaaGreatDoor
