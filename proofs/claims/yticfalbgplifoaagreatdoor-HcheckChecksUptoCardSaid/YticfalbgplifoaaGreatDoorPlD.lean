/-
  Plain facts on the inputs of a path's digests: two paths of one key and one root say one thing, or else the first unlike inputs have one digest. Conditions: as stated in each theorem.
-/
import Derived.Test.YticfalbgplifoaaGreatDoorPlC
namespace Go.Proofs.YticfalbgplifoaaGreatDoor
set_option maxRecDepth 100000
open Go Go.RowKit
set_option linter.unusedVariables false
set_option linter.unusedSimpArgs false

/-! ### Encodings read back -/
theorem byte_inj {a b : Nat} (ha : a < 256) (hb : b < 256) (h : UInt8.ofNat a = UInt8.ofNat b) : a = b := by
  have := congrArg UInt8.toNat h
  simp only [UInt8.toNat_ofNat'] at this
  omega
theorem uvar_inj : ∀ (f m n : Nat) (xs ys : List UInt8), m ≤ f → uvarP m ++ xs = uvarP n ++ ys → m = n ∧ xs = ys := by
  intro f
  induction f with
  | zero =>
    intro m n xs ys hm h
    obtain rfl : m = 0 := by omega
    rw [uvarP_lo (by decide)] at h
    by_cases hn : n < 128
    · rw [uvarP_lo hn] at h
      simp only [List.cons_append, List.nil_append, List.cons.injEq] at h
      exact ⟨byte_inj (by decide) (by omega) h.1, h.2⟩
    · rw [uvarP_hi hn] at h
      simp only [List.cons_append, List.nil_append, List.cons.injEq] at h
      have := byte_inj (by decide) (by omega) h.1
      omega
  | succ f ih =>
    intro m n xs ys hm h
    by_cases hm1 : m < 128
    · rw [uvarP_lo hm1] at h
      by_cases hn : n < 128
      · rw [uvarP_lo hn] at h
        simp only [List.cons_append, List.nil_append, List.cons.injEq] at h
        exact ⟨byte_inj (by omega) (by omega) h.1, h.2⟩
      · rw [uvarP_hi hn] at h
        simp only [List.cons_append, List.nil_append, List.cons.injEq] at h
        have := byte_inj (by omega) (by omega) h.1
        omega
    · rw [uvarP_hi hm1] at h
      by_cases hn : n < 128
      · rw [uvarP_lo hn] at h
        simp only [List.cons_append, List.nil_append, List.cons.injEq] at h
        have := byte_inj (by omega) (by omega) h.1
        omega
      · rw [uvarP_hi hn] at h
        simp only [List.cons_append, List.cons.injEq] at h
        have e := byte_inj (by omega) (by omega) h.1
        obtain ⟨h2, h3⟩ := ih (m / 128) (n / 128) xs ys (by omega) h.2
        exact ⟨by omega, h3⟩
theorem blob_inj {a b xs ys : List UInt8} (h : blobP a ++ xs = blobP b ++ ys) : a = b ∧ xs = ys := by
  unfold blobP at h
  rw [List.append_assoc, List.append_assoc] at h
  obtain ⟨h1, h2⟩ := uvar_inj _ _ _ _ _ (Nat.le_refl _) h
  exact List.append_inj h2 h1
theorem pairs_inj : ∀ (ps qs : List (List UInt8 × List UInt8)), ps.length = qs.length → pairsB ps = pairsB qs → ps = qs
  | [], [], _, _ => rfl
  | [], _ :: _, h, _ => by cases h
  | _ :: _, [], h, _ => by cases h
  | p :: ps, q :: qs, hl, h => by
    have e : ∀ (p : List UInt8 × List UInt8) ps, pairsB (p :: ps) = blobP p.1 ++ (blobP p.2 ++ pairsB ps) := fun p ps => by simp [pairsB]
    rw [e, e] at h
    obtain ⟨h1, h2⟩ := blob_inj h
    obtain ⟨h3, h4⟩ := blob_inj h2
    rw [Prod.ext h1 h3, pairs_inj ps qs (by simpa using hl) h4]
theorem bucket_inj {ps qs : List (List UInt8 × List UInt8)} (h : bucketP ps = bucketP qs) : ps = qs := by
  unfold bucketP at h
  simp only [List.cons.injEq, true_and] at h
  obtain ⟨h1, h2⟩ := uvar_inj _ _ _ _ _ (Nat.le_refl _) h
  exact pairs_inj ps qs h1 h2
theorem wide_inj {a b : Nat} (ha : a < 65536) (hb : b < 65536) (h : wideP a 2 = wideP b 2) : a = b := by
  have e : ∀ v, wideP v 2 = [UInt8.ofNat (v / 256), UInt8.ofNat v] := fun v => by simp [wideP, List.range_succ]
  rw [e, e] at h
  simp only [List.cons.injEq, and_true] at h
  have h1 := byte_inj (by omega) (by omega) h.1
  have h2 := congrArg UInt8.toNat h.2
  simp only [UInt8.toNat_ofNat'] at h2
  omega
theorem cuts_inj {n : Nat} : ∀ (ds es : List (List UInt8)), (∀ d ∈ ds, d.length = 32) → (∀ d ∈ es, d.length = 32) → ds.length = es.length → cutsB n ds = cutsB n es → ds.map (·.take n) = es.map (·.take n)
  | [], [], _, _, _, _ => rfl
  | [], _ :: _, _, _, h, _ => by cases h
  | _ :: _, [], _, _, h, _ => by cases h
  | d :: ds, e :: es, hd, he, hl, h => by
    have ex : ∀ (d : List UInt8) ds, cutsB n (d :: ds) = d.take n ++ cutsB n ds := fun d ds => by simp [cutsB]
    rw [ex, ex] at h
    have l1 := hd d (by simp)
    have l2 := he e (by simp)
    obtain ⟨h1, h2⟩ := List.append_inj h (by rw [List.length_take, List.length_take, l1, l2])
    simp only [List.map_cons, h1]
    rw [cuts_inj ds es (fun x hx => hd x (by simp [hx])) (fun x hx => he x (by simp [hx])) (by simpa using hl) h2]
theorem branch_inj {n a b : Nat} {ds es : List (List UInt8)} (ha : a < 65536) (hb : b < 65536) (h : branchP n a ds = branchP n b es) : a = b ∧ cutsB n ds = cutsB n es := by
  unfold branchP at h
  simp only [List.cons.injEq, true_and] at h
  obtain ⟨h1, h2⟩ := List.append_inj h (by rw [wideP_len, wideP_len])
  exact ⟨wide_inj ha hb h1, h2⟩
theorem form_take {n : Int} {d e : List UInt8} (hd : formB n d = true) (he : formB n e = true) (h : d.take n.toNat = e.take n.toNat) : d = e := by
  unfold formB at hd he
  simp only [Bool.and_eq_true, decide_eq_true_eq] at hd he
  rw [← hd.2, ← he.2, cutP, cutP, h]

/-! ### Levels of a path -/
def lev (n : Int) (k : List UInt8) (ss : List SR) (d0 : List UInt8) (j : Nat) : List UInt8 := upF n k ((backL ss).take (ss.length - j)) d0
def kidsOf (n : Int) (k d : List UInt8) (j : Nat) (s : SR) : List (List UInt8) := if hasB s.bm (atP n k j).1 = true then insP s.ks (rankB s.bm (atP n k j).1) d else s.ks
def inAt (n : Int) (k : List UInt8) (ss : List SR) (ps : List PR) (j : Nat) : List UInt8 :=
  match ss[j]? with
  | some s => branchP n.toNat s.bm (kidsOf n k (lev n k ss (up0 n (ps.map PR.dat)) (j + 1)) j s)
  | none => if ps = [] then [5] else bucketP (ps.map PR.dat)
def inLen (ss : List SR) (ps : List PR) : Nat := if ps = [] ∧ ss ≠ [] then ss.length else ss.length + 1
def inP (n : Int) (k : List UInt8) (ss : List SR) (ps : List PR) : List (List UInt8) := (List.range (inLen ss ps)).map (inAt n k ss ps)
variable {n : Int} {key : List UInt8} {ss tt : List SR} {ps qs : List PR}
theorem lev_zero (n : Int) (k : List UInt8) (ss : List SR) (d0 : List UInt8) : lev n k ss d0 0 = upF n k (backL ss) d0 := by
  unfold lev
  rw [Nat.sub_zero, List.take_of_length_le (by rw [backL_len]; exact Nat.le_refl _)]
theorem lev_end (n : Int) (k : List UInt8) (ss : List SR) (d0 : List UInt8) : lev n k ss d0 ss.length = d0 := by
  unfold lev
  rw [Nat.sub_self, List.take_zero]
  exact List.foldl_nil ..
theorem lev_step (n : Int) (k : List UInt8) (d0 : List UInt8) {j : Nat} {s : SR} (hs : ss[j]? = some s) : lev n k ss d0 j = stepD n k (lev n k ss d0 (j + 1)) j s.bm s.ks := by
  have hj := (List.getElem?_eq_some_iff.1 hs).1
  have hg := backL_get ss (ss.length - 1 - j) s (by omega) (by rw [show ss.length - 1 - (ss.length - 1 - j) = j from by omega]; exact hs)
  rw [show ss.length - 1 - (ss.length - 1 - j) = j from by omega] at hg
  have e : (backL ss).take (ss.length - j) = (backL ss).take (ss.length - (j + 1)) ++ [(j, s)] := by
    obtain ⟨h1, h2⟩ := List.getElem?_eq_some_iff.1 hg
    rw [show ss.length - j = (ss.length - 1 - j) + 1 from by omega, List.take_succ_eq_append_getElem h1, h2, show ss.length - (j + 1) = ss.length - 1 - j from by omega]
  unfold lev
  rw [e, upF_snoc]
theorem form_lev (hn : widB n = true) (k : List UInt8) (ss : List SR) (ps : List (List UInt8 × List UInt8)) (j : Nat) : formB n (lev n k ss (up0 n ps) j) = true := by
  unfold lev
  refine form_upF n hn _ _ _ ?_
  unfold up0
  split <;> exact form_sumR n _ hn
theorem lev_len (n : Int) (k : List UInt8) (ss : List SR) (ps : List (List UInt8 × List UInt8)) (j : Nat) : (lev n k ss (up0 n ps) j).length = 32 := upF_len _ _ _ _ (up0_len _ _)
theorem brE_zero {bm : Nat} {ds : List (List UInt8)} (hn : widB n = true) (hf : ∀ d ∈ ds, formB n d = true) (hc : cntB bm = ds.length) (h0 : cntB bm ≠ 0) : brE n bm ds = 0 := by
  unfold brE chkE
  rw [if_pos hn, if_pos hf]
  have hb : bm ≠ 0 := by
    rintro rfl
    exact h0 (by decide)
  simp [hb, hc]
theorem ins_len (ds : List (List UInt8)) (i : Nat) (x : List UInt8) : (insP ds i x).length = ds.length + 1 := by
  unfold insP
  simp only [List.length_append, List.length_take, List.length_cons, List.length_drop]
  omega
theorem ins_mem {ds : List (List UInt8)} {i : Nat} {x d : List UInt8} (h : d ∈ insP ds i x) : d = x ∨ d ∈ ds := by
  unfold insP at h
  rcases List.mem_append.1 h with h | h
  · exact Or.inr (List.mem_of_mem_take h)
  · rcases List.mem_cons.1 h with h | h
    · exact Or.inl h
    · exact Or.inr (List.mem_of_mem_drop h)
theorem ins_at {ds : List (List UInt8)} {i : Nat} (x : List UInt8) (hi : i ≤ ds.length) : (insP ds i x)[i]? = some x := by
  unfold insP
  rw [List.getElem?_append_right (by rw [List.length_take]; omega), List.length_take, Nat.min_eq_left hi, Nat.sub_self]
  rfl
theorem step_facts (hR : RootE n key ss ps 0) {j : Nat} {s : SR} (hs : ss[j]? = some s) : (∀ d ∈ kidsOf n (keyD n key) (lev n (keyD n key) ss (up0 n (ps.map PR.dat)) (j + 1)) j s, formB n d = true) ∧
    cntB s.bm = (kidsOf n (keyD n key) (lev n (keyD n key) ss (up0 n (ps.map PR.dat)) (j + 1)) j s).length ∧ cntB s.bm ≠ 0 := by
  obtain ⟨hn, hkl, hq, hb, hp⟩ := hR.ok
  have h1 := hb.2 j s hs
  have hm := List.mem_of_getElem? hs
  unfold kidsOf
  cases hh : hasB s.bm (atP n (keyD n key) j).1
  · rw [if_neg (by simp)]
    exact ⟨fun d hd => hq s hm d hd, ((h1.2.2.1 hh).2.1).symm, h1.1⟩
  · rw [if_pos rfl]
    refine ⟨fun d hd => ?_, by rw [ins_len]; exact ((h1.2.1 hh).1).symm, h1.1⟩
    rcases ins_mem hd with rfl | hd
    · exact form_lev hn _ _ _ _
    · exact hq s hm d hd
theorem inAt_dig (hR : RootE n key ss ps 0) {j : Nat} (hj : j < inLen ss ps) : lev n (keyD n key) ss (up0 n (ps.map PR.dat)) j = sumR n (inAt n (keyD n key) ss ps j) := by
  obtain ⟨hn, _⟩ := hR.ok
  cases hs : ss[j]? with
  | some s =>
    obtain ⟨h1, h2, h3⟩ := step_facts hR hs
    rw [lev_step n (keyD n key) _ hs, inAt, hs]
    simp only
    have e : stepD n (keyD n key) (lev n (keyD n key) ss (up0 n (ps.map PR.dat)) (j + 1)) j s.bm s.ks = brD n s.bm (kidsOf n (keyD n key) (lev n (keyD n key) ss (up0 n (ps.map PR.dat)) (j + 1)) j s) := rfl
    rw [e, brD, if_pos (brE_zero hn h1 h2 h3)]
  | none =>
    have hjl := List.getElem?_eq_none_iff.1 hs
    have hjm : j = ss.length := by
      unfold inLen at hj
      split at hj <;> omega
    subst hjm
    rw [lev_end, inAt, hs]
    simp only
    unfold up0
    by_cases h : ps = []
    · subst h
      rw [if_pos rfl, List.map_nil, if_pos rfl]
    · rw [if_neg (by simpa using h), if_neg h]
/-- A level that has one below it is a step that the path goes through. -/
theorem has_of (hR : RootE n key ss ps 0) {j : Nat} (hj : j + 1 < inLen ss ps) : ∃ s, ss[j]? = some s ∧ hasB s.bm (atP n (keyD n key) j).1 = true := by
  obtain ⟨hn, hkl, hq, hb, hp⟩ := hR.ok
  have hjm : j < ss.length := by
    unfold inLen at hj
    split at hj <;> omega
  refine ⟨ss[j], List.getElem?_eq_getElem hjm, ?_⟩
  have h1 := hb.2 j ss[j] (List.getElem?_eq_getElem hjm)
  cases hh : hasB ss[j].bm (atP n (keyD n key) j).1
  · exfalso
    obtain ⟨hl, _, hps⟩ := h1.2.2.1 hh
    have hps' : ps = [] := List.length_eq_zero_iff.1 hps
    unfold inLen at hj
    rw [if_pos ⟨hps', by intro h; subst h; simp at hjm⟩] at hj
    omega
  · rfl

/-- Down to the first unlike inputs the digests are the same. -/
theorem same_lev (h32 : ∀ s ∈ ss, ∀ d ∈ s.ks, d.length = 32) (g32 : ∀ s ∈ tt, ∀ d ∈ s.ks, d.length = 32) (hbm : ∀ s ∈ ss, s.bm < 65536) (gbm : ∀ s ∈ tt, s.bm < 65536) (hR : RootE n key ss ps 0) (gR : RootE n key tt qs 0)
    (h0 : outD 0 n key ss ps = outD 0 n key tt qs) {i : Nat} (hi : i < inLen ss ps) (gi : i < inLen tt qs) (hs : ∀ j, j < i → inAt n (keyD n key) ss ps j = inAt n (keyD n key) tt qs j) :
    lev n (keyD n key) ss (up0 n (ps.map PR.dat)) i = lev n (keyD n key) tt (up0 n (qs.map PR.dat)) i := by
  cases i with
  | zero =>
    simp only [outD, if_true] at h0
    rw [lev_zero, lev_zero, h0]
  | succ i =>
    obtain ⟨hn, _⟩ := hR.ok
    obtain ⟨s, e1, hh⟩ := has_of hR hi
    obtain ⟨t, e2, gh⟩ := has_of gR gi
    have he := hs i (by omega)
    obtain ⟨f1, c1, z1⟩ := step_facts hR e1
    obtain ⟨f2, c2, z2⟩ := step_facts gR e2
    have m1 := List.mem_of_getElem? e1
    have m2 := List.mem_of_getElem? e2
    have r1 := hR.sizes
    rw [inAt, inAt, e1, e2] at he
    simp only at he
    obtain ⟨hb, hc⟩ := branch_inj (hbm s m1) (gbm t m2) he
    have hlen : (kidsOf n (keyD n key) (lev n (keyD n key) ss (up0 n (ps.map PR.dat)) (i + 1)) i s).length = (kidsOf n (keyD n key) (lev n (keyD n key) tt (up0 n (qs.map PR.dat)) (i + 1)) i t).length := by rw [← c1, ← c2, hb]
    have q1 := ((hR.ok.2.2.2.1.2 i s e1).2.1 hh).1
    have q2 := ((gR.ok.2.2.2.1.2 i t e2).2.1 gh).1
    have k1 := rank_lt hh
    have k2 := rank_lt gh
    unfold kidsOf at hc hlen
    rw [if_pos hh, if_pos gh] at hc hlen
    have hmap := cuts_inj _ _ (fun d hd => by rcases ins_mem hd with rfl | hd; exact lev_len _ _ _ _ _; exact h32 s m1 d hd) (fun d hd => by rcases ins_mem hd with rfl | hd; exact lev_len _ _ _ _ _; exact g32 t m2 d hd) hlen hc
    have hget := congrArg (·[rankB s.bm (atP n (keyD n key) i).1]?) hmap
    simp only [List.getElem?_map] at hget
    rw [ins_at _ (by omega), hb, ins_at _ (by omega)] at hget
    simp only [Option.map_some, Option.some.injEq] at hget
    exact form_take (form_lev hn _ _ _ _) (form_lev hn _ _ _ _) hget
theorem clash_at (h32 : ∀ s ∈ ss, ∀ d ∈ s.ks, d.length = 32) (g32 : ∀ s ∈ tt, ∀ d ∈ s.ks, d.length = 32) (hbm : ∀ s ∈ ss, s.bm < 65536) (gbm : ∀ s ∈ tt, s.bm < 65536) (hR : RootE n key ss ps 0) (gR : RootE n key tt qs 0)
    (h0 : outD 0 n key ss ps = outD 0 n key tt qs) {i : Nat} (hi : i < inLen ss ps) (gi : i < inLen tt qs) (hs : ∀ j, j < i → inAt n (keyD n key) ss ps j = inAt n (keyD n key) tt qs j) :
    sumR n (inAt n (keyD n key) ss ps i) = sumR n (inAt n (keyD n key) tt qs i) := by
  rw [← inAt_dig hR hi, ← inAt_dig gR gi]
  exact same_lev h32 g32 hbm gbm hR gR h0 hi gi hs

/-! ### Inputs all alike: one answer -/
theorem valOf_dat {ps qs : List PR} (h : ps.map PR.dat = qs.map PR.dat) (key : List UInt8) : valOf ps key = valOf qs key := by
  have e : ∀ ps : List PR, valOf ps key = ((ps.map PR.dat).find? fun p => decide (p.1 = key)).map (·.2) := by
    intro ps
    induction ps with
    | nil => rfl
    | cons p ps ih =>
      unfold valOf at ih ⊢
      simp only [List.map_cons, List.find?_cons, PR.dat]
      by_cases h : p.k = key
      · simp [h]
      · simp only [h, decide_false]
        exact ih
  rw [e, e, h]
theorem branch_head (n a : Nat) (ds : List (List UInt8)) : (branchP n a ds).head? = some 4 := rfl
theorem bucket_head (ps : List (List UInt8 × List UInt8)) : (bucketP ps).head? = some 3 := rfl
theorem alike_le (hR : RootE n key ss ps 0) (gR : RootE n key tt qs 0) (hbm : ∀ s ∈ ss, s.bm < 65536) (gbm : ∀ s ∈ tt, s.bm < 65536) (hl : inLen ss ps ≤ inLen tt qs) (hs : ∀ j, j < inLen ss ps → inAt n (keyD n key) ss ps j = inAt n (keyD n key) tt qs j) : valOf ps key = valOf qs key := by
  have hL : 0 < inLen ss ps := by
    unfold inLen
    split
    · rename_i h
      exact List.length_pos_iff.2 h.2
    · omega
  obtain ⟨j, hj⟩ : ∃ j, inLen ss ps = j + 1 := ⟨inLen ss ps - 1, by omega⟩
  have he := hs j (by omega)
  by_cases hp : ps = []
  · subst hp
    have hval : valOf [] key = none := rfl
    rw [hval]
    by_cases hq : qs = []
    · subst hq; rfl
    exfalso
    have hlt : inLen tt qs = tt.length + 1 := by unfold inLen; rw [if_neg (fun h => hq h.1)]
    by_cases hsn : ss = []
    · subst hsn
      have h5 : inAt n (keyD n key) [] [] j = [5] := by simp [inAt]
      rw [h5] at he
      unfold inAt at he
      cases ht : tt[j]? with
      | some t => rw [ht] at he; simp only at he; have := congrArg List.head? he; rw [branch_head] at this; simp at this
      | none => rw [ht] at he; simp only [if_neg hq] at he; have := congrArg List.head? he; rw [bucket_head] at this; simp at this
    · have hls : inLen ss [] = ss.length := by unfold inLen; rw [if_pos ⟨rfl, hsn⟩]
      have hjl : j < ss.length := by omega
      have e1 : ss[j]? = some ss[j] := List.getElem?_eq_getElem hjl
      have hb1 := hR.ok.2.2.2.1.2 j ss[j] e1
      cases ht : tt[j]? with
      | none =>
        rw [inAt, inAt, e1, ht] at he
        simp only [if_neg hq] at he
        have := congrArg List.head? he
        rw [branch_head, bucket_head] at this
        simp at this
      | some t =>
        have htl := (List.getElem?_eq_some_iff.1 ht).1
        obtain ⟨t', e2, gh⟩ := has_of gR (show j + 1 < inLen tt qs by omega)
        obtain rfl : t = t' := by rw [ht] at e2; cases e2; rfl
        rw [inAt, inAt, e1, ht] at he
        simp only at he
        obtain ⟨hb, _⟩ := branch_inj (hbm _ (List.getElem_mem hjl)) (gbm t (List.mem_of_getElem? ht)) he
        rw [← hb] at gh
        have hx := (hb1.2.1 gh).2
        exact hx ⟨by omega, rfl⟩
  · have hls : inLen ss ps = ss.length + 1 := by unfold inLen; rw [if_neg (fun h => hp h.1)]
    obtain rfl : j = ss.length := by omega
    rw [inAt, List.getElem?_eq_none (Nat.le_refl _)] at he
    simp only [if_neg hp] at he
    unfold inAt at he
    cases ht : tt[ss.length]? with
    | some t =>
      exfalso
      rw [ht] at he
      have := congrArg List.head? he
      simp only [branch_head, bucket_head] at this
      simp at this
    | none =>
      rw [ht] at he
      simp only at he
      by_cases hq : qs = []
      · exfalso
        rw [if_pos hq] at he
        have := congrArg List.head? he
        rw [bucket_head] at this
        simp at this
      · rw [if_neg hq] at he
        exact valOf_dat (bucket_inj he) key
theorem alike (hR : RootE n key ss ps 0) (gR : RootE n key tt qs 0) (hbm : ∀ s ∈ ss, s.bm < 65536) (gbm : ∀ s ∈ tt, s.bm < 65536) (hs : ∀ j, j < inLen ss ps → j < inLen tt qs → inAt n (keyD n key) ss ps j = inAt n (keyD n key) tt qs j) : valOf ps key = valOf qs key := by
  rcases Nat.le_total (inLen ss ps) (inLen tt qs) with h | h
  · exact alike_le hR gR hbm gbm h (fun j hj => hs j hj (by omega))
  · exact (alike_le gR hR gbm hbm h (fun j hj => (hs j (by omega) hj).symm)).symm
/-- The least place where two lists of inputs differ. -/
theorem first_unlike (f g : Nat → List UInt8) : ∀ (m : Nat), (∃ i, i < m ∧ f i ≠ g i) → ∃ i, i < m ∧ f i ≠ g i ∧ ∀ j, j < i → f j = g j
  | 0, h => by obtain ⟨i, hi, _⟩ := h; omega
  | m + 1, h => by
    by_cases h1 : ∃ i, i < m ∧ f i ≠ g i
    · obtain ⟨i, hi, h2, h3⟩ := first_unlike f g m h1
      exact ⟨i, by omega, h2, h3⟩
    · obtain ⟨i, hi, h2⟩ := h
      have hall : ∀ j, j < m → f j = g j := fun j hj => Classical.byContradiction fun hne => h1 ⟨j, hj, hne⟩
      have : i = m := by
        rcases Nat.lt_or_ge i m with h4 | h4
        · exact absurd (hall i h4) h2
        · omega
      subst this
      exact ⟨i, by omega, h2, hall⟩

end Go.Proofs.YticfalbgplifoaaGreatDoor
