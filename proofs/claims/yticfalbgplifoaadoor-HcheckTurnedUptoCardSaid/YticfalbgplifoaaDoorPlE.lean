/-
  Plain facts for HcheckTurned: one digest's first byte turned. Conditions: as stated in each theorem.
-/
import Derived.Test.YticfalbgplifoaaDoorTwn
import Derived.Test.YticfalbgplifoaaDoorLawD
namespace Go.Proofs.YticfalbgplifoaaDoor
set_option maxRecDepth 100000
open Go Go.RowKit
set_option linter.unusedVariables false
set_option linter.unusedSimpArgs false

/-! ### The byte -/
theorem xor_byte (x b : Nat) (hx : x < 256) (hb : b < 256) (h0 : b ≠ 0) : ∃ y : UInt8, ibits .xor .u8 (x : Int) (b : Int) = (y.toNat : Int) ∧ y.toNat ≠ x := by
  have e : ibits .xor .u8 (x : Int) (b : Int) = ((BitVec.ofNat 8 x ^^^ BitVec.ofNat 8 b).toNat : Int) := by
    show IntKind.u8.wrap ((BitVec.ofInt 8 (x : Int) ^^^ BitVec.ofInt 8 (b : Int)).toNat : Int) = _
    have e1 : BitVec.ofInt 8 (x : Int) = BitVec.ofNat 8 x := BitVec.ofInt_natCast 8 x
    have e2 : BitVec.ofInt 8 (b : Int) = BitVec.ofNat 8 b := BitVec.ofInt_natCast 8 b
    have h := (BitVec.ofNat 8 x ^^^ BitVec.ofNat 8 b).isLt
    rw [e1, e2, IntKind.wrap_u8]
    omega
  have h := (BitVec.ofNat 8 x ^^^ BitVec.ofNat 8 b).isLt
  refine ⟨UInt8.ofNat (BitVec.ofNat 8 x ^^^ BitVec.ofNat 8 b).toNat, ?_, ?_⟩
  · rw [e, UInt8.toNat_ofNat', Nat.mod_eq_of_lt (by omega)]
  · rw [UInt8.toNat_ofNat', Nat.mod_eq_of_lt (by omega)]
    intro hh
    have h1 : BitVec.ofNat 8 x ^^^ BitVec.ofNat 8 b = BitVec.ofNat 8 x := by
      apply BitVec.eq_of_toNat_eq
      rw [hh, BitVec.toNat_ofNat, Nat.mod_eq_of_lt (by omega)]
    have h2 : BitVec.ofNat 8 b = 0#8 := by
      have := congrArg (BitVec.ofNat 8 x ^^^ ·) h1
      simp only [← BitVec.xor_assoc, BitVec.xor_self, BitVec.zero_xor] at this
      exact this
    have h3 := congrArg BitVec.toNat h2
    rw [BitVec.toNat_ofNat, Nat.mod_eq_of_lt (by omega)] at h3
    exact h0 (by simpa using h3)

/-! ### The digest -/
def setD (d : List UInt8) (y : UInt8) : List UInt8 := d.set 0 y
theorem setD_len (d : List UInt8) (y : UInt8) : (setD d y).length = d.length := List.length_set ..
theorem cut_set {n : Nat} (hn : 1 ≤ n) (d : List UInt8) (hd : d.length = 32) (y : UInt8) : cutP n (setD d y) = setD (cutP n d) y := by
  unfold cutP setD
  rw [List.take_set, List.set_append, if_pos (by rw [List.length_take]; omega)]
theorem form_set' {n : Int} {d : List UInt8} (hd : d.length = 32) (y : UInt8) (h : formB n d = true) : formB n (setD d y) = true := by
  unfold formB at h ⊢
  simp only [Bool.and_eq_true, decide_eq_true_eq] at h ⊢
  have hw := (widB_iff n).1 h.1
  exact ⟨h.1, by rw [cut_set (by omega) d hd, h.2]⟩
theorem form_set {n : Int} {d : List UInt8} (hd : d.length = 32) (y : UInt8) : formB n (setD d y) = true ↔ formB n d = true := by
  refine ⟨fun h => ?_, form_set' hd y⟩
  have := form_set' (by rw [setD_len]; exact hd) (d.getD 0 0) h
  have e : setD (setD d y) (d.getD 0 0) = d := by
    cases d with
    | nil => simp at hd
    | cons a l => rfl
  rwa [e] at this
theorem take_set_ne {n : Nat} (hn : 1 ≤ n) {d : List UInt8} (hd : d.length = 32) {y : UInt8} (hy : y ≠ d.getD 0 0) : d.take n ≠ (setD d y).take n := by
  cases d with
  | nil => simp at hd
  | cons a l =>
    intro h
    have := congrArg (·[0]?) h
    simp only [setD, List.set_cons_zero, List.getElem?_take] at this
    rw [if_pos (by omega), if_pos (by omega)] at this
    simp only [List.getElem?_cons_zero, Option.some.injEq] at this
    exact hy this.symm
theorem flat_set {ks : List (List UInt8)} (h : ∀ d ∈ ks, d.length = 32) {j : Nat} {d : List UInt8} (hj : ks[j]? = some d) (y : UInt8) : (ks.flatMap vbs).set (j * 32) (vb y) = (ks.set j (setD d y)).flatMap vbs := by
  obtain ⟨hl, he⟩ := List.getElem?_eq_some_iff.1 hj
  have e : ks = ks.take j ++ d :: ks.drop (j + 1) := by rw [← he]; simp
  have hd : d.length = 32 := h d (List.mem_of_getElem? hj)
  have hA : ((ks.take j).flatMap vbs).length = j * 32 := by rw [dvs_len _ (fun d hm => h d (List.mem_of_mem_take hm)), List.length_take, Nat.min_eq_left (by omega)]
  have e2 : ks.set j (setD d y) = ks.take j ++ setD d y :: ks.drop (j + 1) := by
    rw [List.set_eq_take_append_cons_drop, if_pos hl]
  rw [e2]
  conv => lhs; rw [e]
  rw [List.flatMap_append, List.flatMap_append, List.flatMap_cons, List.flatMap_cons, List.set_append, if_neg (by omega), hA, Nat.sub_self]
  congr 1
  cases d with
  | nil => simp at hd
  | cons a l => simp [setD, vbs]

/-! ### The path -/
/-- tt is ss but for the first byte of one digest. -/
structure TurnP (ss tt : List SR) (i j : Nat) (y : UInt8) : Prop where
  len : tt.length = ss.length
  at_ : ∃ s t d, ss[i]? = some s ∧ tt[i]? = some t ∧ s.ks[j]? = some d ∧ y ≠ d.getD 0 0 ∧ t.bm = s.bm ∧ t.ks = s.ks.set j (setD d y)
  other : ∀ (k : Nat) (s t : SR), k ≠ i → ss[k]? = some s → tt[k]? = some t → t.dat = s.dat
theorem TurnP.step {ss tt : List SR} {i j : Nat} {y : UInt8} (h : TurnP ss tt i j y) {k : Nat} {s t : SR} (hs : ss[k]? = some s) (ht : tt[k]? = some t) : t.bm = s.bm ∧ t.ks.length = s.ks.length := by
  by_cases hk : k = i
  · subst hk
    obtain ⟨s', t', d, h1, h2, h3, h4, h5, h6⟩ := h.at_
    rw [hs] at h1
    rw [ht] at h2
    cases h1
    cases h2
    exact ⟨h5, by rw [h6, List.length_set]⟩
  · have := h.other k s t hk hs ht
    unfold SR.dat at this
    simp only [Prod.mk.injEq] at this
    exact ⟨this.1, by rw [this.2]⟩
theorem TurnP.kids {ss tt : List SR} {i j : Nat} {y : UInt8} (h : TurnP ss tt i j y) (h32 : ∀ s ∈ ss, ∀ d ∈ s.ks, d.length = 32) (n : Int) : kidsP n ss ↔ kidsP n tt := by
  obtain ⟨s0, t0, d0, h1, h2, h3, h4, h5, h6⟩ := h.at_
  have hd0 : d0.length = 32 := h32 s0 (List.mem_of_getElem? h1) d0 (List.mem_of_getElem? h3)
  constructor
  · intro hq t ht d hd
    obtain ⟨k, hk⟩ := List.getElem?_of_mem ht
    have hkl := (List.getElem?_eq_some_iff.1 hk).1
    obtain ⟨s, hs⟩ : ∃ s, ss[k]? = some s := ⟨_, List.getElem?_eq_getElem (by rw [← h.len]; exact hkl)⟩
    by_cases hki : k = i
    · subst hki
      rw [h2] at hk
      cases hk
      rw [h6] at hd
      rcases List.mem_or_eq_of_mem_set hd with hd | rfl
      · exact hq s0 (List.mem_of_getElem? h1) d hd
      · exact (form_set hd0 y).2 (hq s0 (List.mem_of_getElem? h1) d0 (List.mem_of_getElem? h3))
    · have := h.other k s t hki hs hk
      unfold SR.dat at this
      simp only [Prod.mk.injEq] at this
      rw [this.2] at hd
      exact hq s (List.mem_of_getElem? hs) d hd
  · intro hq s hs d hd
    obtain ⟨k, hk⟩ := List.getElem?_of_mem hs
    have hkl := (List.getElem?_eq_some_iff.1 hk).1
    obtain ⟨t, ht⟩ : ∃ t, tt[k]? = some t := ⟨_, List.getElem?_eq_getElem (by rw [h.len]; exact hkl)⟩
    by_cases hki : k = i
    · subst hki
      rw [h1] at hk
      cases hk
      obtain ⟨m, hm⟩ := List.getElem?_of_mem hd
      have hml := (List.getElem?_eq_some_iff.1 hm).1
      by_cases hmj : m = j
      · subst hmj
        rw [h3] at hm
        cases hm
        refine (form_set hd0 y).1 (hq t0 (List.mem_of_getElem? h2) _ ?_)
        rw [h6]
        exact List.mem_of_getElem? (by rw [List.getElem?_set_self hml])
      · refine hq t0 (List.mem_of_getElem? h2) d ?_
        rw [h6]
        exact List.mem_of_getElem? (i := m) (by rw [List.getElem?_set_ne (Ne.symm hmj)]; exact hm)
    · have := h.other k s t hki hk ht
      unfold SR.dat at this
      simp only [Prod.mk.injEq] at this
      rw [← this.2] at hd
      exact hq t (List.mem_of_getElem? ht) d hd
theorem TurnP.branches {ss tt : List SR} {i j : Nat} {y : UInt8} (h : TurnP ss tt i j y) (n : Int) (k : List UInt8) (np : Nat) : branchesP n k ss np ↔ branchesP n k tt np := by
  constructor
  · intro hb
    refine ⟨by rw [h.len]; exact hb.1, fun m t ht => ?_⟩
    have hml := (List.getElem?_eq_some_iff.1 ht).1
    obtain ⟨s, hs⟩ : ∃ s, ss[m]? = some s := ⟨_, List.getElem?_eq_getElem (by rw [← h.len]; exact hml)⟩
    obtain ⟨e1, e2⟩ := h.step hs ht
    rw [e1, e2, h.len]
    exact hb.2 m s hs
  · intro hb
    refine ⟨by rw [← h.len]; exact hb.1, fun m s hs => ?_⟩
    have hml := (List.getElem?_eq_some_iff.1 hs).1
    obtain ⟨t, ht⟩ : ∃ t, tt[m]? = some t := ⟨_, List.getElem?_eq_getElem (by rw [h.len]; exact hml)⟩
    obtain ⟨e1, e2⟩ := h.step hs ht
    rw [← e1, ← e2, ← h.len]
    exact hb.2 m t ht
theorem pairs_dat {ps qs : List PR} (h : qs.map PR.dat = ps.map PR.dat) (n : Int) (k : List UInt8) (nst : Nat) (hp : pairsP n k nst ps) : pairsP n k nst qs := by
  have hl : qs.length = ps.length := by have := congrArg List.length h; simpa using this
  have hat : ∀ (i : Nat) (q : PR), qs[i]? = some q → ∃ p, ps[i]? = some p ∧ p.k = q.k ∧ p.v = q.v := by
    intro i q hq
    have h1 := congrArg (·[i]?) h
    simp only [List.getElem?_map, hq, Option.map_some] at h1
    cases hp : ps[i]? with
    | none => rw [hp] at h1; simp at h1
    | some p =>
      rw [hp] at h1
      simp only [Option.map_some, Option.some.injEq, PR.dat, Prod.mk.injEq] at h1
      exact ⟨p, rfl, h1.1.symm, h1.2.symm⟩
  intro i a ha
  obtain ⟨p, e1, e2, e3⟩ := hat i a ha
  obtain ⟨g1, g2, g3, g4, g5⟩ := hp i p e1
  refine ⟨by rw [← e2]; exact g1, by rw [← e3]; exact g2, fun q h0 hq => ?_, fun q hq => ?_, by rw [← e2]; exact g5⟩
  · obtain ⟨p', f1, f2, f3⟩ := hat _ q hq
    rw [← e2, ← f2]
    exact g3 p' h0 f1
  · obtain ⟨p', f1, f2, f3⟩ := hat _ q hq
    rw [← e2, ← f2]
    exact g4 p' f1
theorem TurnP.rootE {ss tt : List SR} {ps qs : List PR} {i j : Nat} {y : UInt8} (h : TurnP ss tt i j y) (h32 : ∀ s ∈ ss, ∀ d ∈ s.ks, d.length = 32) (hd : qs.map PR.dat = ps.map PR.dat) {n : Int} {key : List UInt8} {e : Nat} (hR : RootE n key ss ps e) : RootE n key tt qs e := by
  have hl : qs.length = ps.length := by have := congrArg List.length hd; simpa using this
  obtain ⟨h1, h2, h3, h4, h5⟩ := hR
  have hk := h.kids h32 n
  have hb := h.branches n (keyD n key) ps.length
  have hp : pairsP n (keyD n key) ss.length ps ↔ pairsP n (keyD n key) ss.length qs := ⟨pairs_dat hd n _ _, pairs_dat hd.symm n _ _⟩
  refine ⟨h1, h2, fun a b c => h3 a b (fun q => c (hk.1 q)), fun a b c d => h4 a b (hk.2 c) (fun q => d ?_), fun a b c d f => h5 a b (hk.2 c) ?_ ?_⟩
  · rw [hl, h.len]
    exact ⟨hb.1 q.1, hp.1 q.2⟩
  · rw [hl] at d
    exact hb.2 d
  · rw [h.len] at f
    exact hp.2 f
theorem ins_get {ds : List (List UInt8)} {r : Nat} (x : List UInt8) (hr : r ≤ ds.length) (k : Nat) : (insP ds r x)[if k < r then k else k + 1]? = ds[k]? := by
  unfold insP
  split
  · rename_i h
    rw [List.getElem?_append_left (by rw [List.length_take]; omega), List.getElem?_take, if_pos h]
  · rename_i h
    rw [List.getElem?_append_right (by rw [List.length_take]; omega), List.length_take, Nat.min_eq_left hr, show k + 1 - r = (k - r) + 1 from by omega, List.getElem?_cons_succ, List.getElem?_drop, show r + (k - r) = k from by omega]
theorem TurnP.unlike {n : Int} {key : List UInt8} {ss tt : List SR} {ps qs : List PR} {i j : Nat} {y : UInt8} (h : TurnP ss tt i j y) (h32 : ∀ s ∈ ss, ∀ d ∈ s.ks, d.length = 32) (g32 : ∀ s ∈ tt, ∀ d ∈ s.ks, d.length = 32) (hbm : ∀ s ∈ ss, s.bm < 65536) (gbm : ∀ s ∈ tt, s.bm < 65536) (hR : RootE n key ss ps 0) (gR : RootE n key tt qs 0) :
    ¬ ∀ k, k < inLen ss ps → k < inLen tt qs → inAt n (keyD n key) ss ps k = inAt n (keyD n key) tt qs k := by
  intro hall
  obtain ⟨s, t, d, h1, h2, h3, h4, h5, h6⟩ := h.at_
  have hil := (List.getElem?_eq_some_iff.1 h1).1
  have hw := (widB_iff n).1 hR.ok.1
  have hle : ∀ (ss : List SR) (ps : List PR), ss.length ≤ inLen ss ps := by
    intro ss ps
    unfold inLen
    split <;> omega
  have he := hall i (by have := hle ss ps; omega) (by have := hle tt qs; have := h.len; omega)
  rw [inAt, inAt, h1, h2] at he
  simp only at he
  have m1 := List.mem_of_getElem? h1
  have m2 := List.mem_of_getElem? h2
  obtain ⟨q1, q2, q3⟩ := step_facts hR h1
  obtain ⟨r1, r2, r3⟩ := step_facts gR h2
  obtain ⟨hb, hc⟩ := branch_inj (hbm s m1) (gbm t m2) he
  have hd32 : d.length = 32 := h32 s m1 d (List.mem_of_getElem? h3)
  have hjl := (List.getElem?_eq_some_iff.1 h3).1
  have hlen : (kidsOf n (keyD n key) (lev n (keyD n key) ss (up0 n (ps.map PR.dat)) (i + 1)) i s).length = (kidsOf n (keyD n key) (lev n (keyD n key) tt (up0 n (qs.map PR.dat)) (i + 1)) i t).length := by rw [← q2, ← r2, hb]
  have hne := take_set_ne (n := n.toNat) (by omega) hd32 h4
  have htj : t.ks[j]? = some (setD d y) := by rw [h6, List.getElem?_set_self hjl]
  unfold kidsOf at hc hlen
  rw [h5] at hc hlen
  cases hh : hasB s.bm (atP n (keyD n key) i).1
  · rw [hh] at hc hlen
    simp only [Bool.false_eq_true, if_false] at hc hlen
    have hmap := cuts_inj _ _ (fun d hd => h32 s m1 d hd) (fun d hd => g32 t m2 d hd) hlen hc
    have hget := congrArg (·[j]?) hmap
    simp only [List.getElem?_map, h3, htj, Option.map_some, Option.some.injEq] at hget
    exact hne hget
  · rw [hh] at hc hlen
    simp only [if_true] at hc hlen
    have k1 := ((hR.ok.2.2.2.1.2 i s h1).2.1 hh).1
    have k2 := rank_lt hh
    have hmap := cuts_inj _ _ (fun d hd => by rcases ins_mem hd with rfl | hd; exact lev_len _ _ _ _ _; exact h32 s m1 d hd) (fun d hd => by rcases ins_mem hd with rfl | hd; exact lev_len _ _ _ _ _; exact g32 t m2 d hd) hlen hc
    have hget := congrArg (·[if j < rankB s.bm (atP n (keyD n key) i).1 then j else j + 1]?) hmap
    simp only [List.getElem?_map] at hget
    rw [ins_get _ (by omega), ins_get _ (by rw [h6, List.length_set]; omega), h3, htj] at hget
    simp only [Option.map_some, Option.some.injEq] at hget
    exact hne hget

end Go.Proofs.YticfalbgplifoaaDoor
