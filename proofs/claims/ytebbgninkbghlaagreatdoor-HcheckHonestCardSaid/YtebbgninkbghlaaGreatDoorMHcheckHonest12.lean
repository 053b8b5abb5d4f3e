/-
  Package hamt: Walk. Conditions: as stated in each theorem. slices.Delete of one element, of digests. Conditions: as stated in each theorem. Written by wip/gendel.py. Steps without one digest each; lists of steps whose digests lie in blocks of their own, one of them changed. Conditions: as stated in each theorem. More of items: sorted lists with the same members; where find finds. Conditions: as stated in each theorem. Package hamt: fork. Conditions: as stated in each theorem. Package hamt: join. Conditions: as stated in each theorem. One more among a bucket's items. Conditions: as stated in each theorem. One less among a tree's items, in plain Lean. Conditions: as stated in each theorem. What lies along a walk, in plain Lean. Conditions: as stated in each theorem. Package hproof: Prove. Conditions: as stated in each theorem. Package hamt: put, Put. Conditions: as stated in each theorem. Package notaryref14: less, order, item, Digit, Put, Of, Pairs. Conditions: as stated in each theorem. Package notaryref14: Of, Pairs, single, child, CheckPair, step, node, Root. Conditions: as stated in each theorem. Package notaryref14: CheckPair, step, node, Root. Conditions: as stated in each theorem. What a map answers once a key is put, in plain Lean. Conditions: as stated in each theorem. What lies along a walk: see Wlk; with the reference's maps. Conditions: as stated there. Package notaryref14: Get, Walk, SamePair, SamePairs, SameSteps. Conditions: as stated in each theorem. Package notaryref15: ahead, Without. Conditions: as stated in each theorem. Package notaryref15: Prove, DocProve, Same, DocSize; package hproof: Size. Conditions: as stated in each theorem. A range over slices.Backward as a rule of the calculus. Conditions: as stated in each theorem. hcheck.child and hcheck.up: the digest to which a proof leads. Conditions: as stated in each theorem. Conversions of strings and bytes. Conditions: as stated in each theorem. Package bytes' Equal, Clone, Compare; hcheck.kids. Conditions: as stated in each theorem.
-/
import Derived.Test.YtebbgninkbghlaaGreatDoorMHcheckHonest11
import Derived.Lib.ConvBytes
import Derived.Laws.IdiomStrings
import Derived.Lib.BytesEntry
import Derived.Laws.Externs
/-! Hme -/
namespace Go.Proofs.YtebbgninkbghlaaGreatDoor
set_option maxRecDepth 100000
open Go Go.RowKit
set_option linter.unusedVariables false
set_option linter.unusedSimpArgs false
attribute [local irreducible] vcT opsT qT vcOp Q1 vcPure vcLoad vcStore ldC ldN ldD grdT grdQ vc vcOps vcQ hT
attribute [local irreducible] sumR sumP shaP keyD bucketP branchP

def kidsI (n : Int) (f d : Nat) (m : List It) : List (List UInt8) := (setB (bmI m d)).map fun c => nodeD n f (d + 1) (childI m d c)
/-- A key's way down. -/
def walkI (n : Int) (kd : List UInt8) : Nat → Nat → List It → List (Nat × List (List UInt8)) × List It
  | 0, _, m => ([], m)
  | f + 1, d, m => if singleB m = true then ([], m) else
      if hasI m d (digP kd d) = true then ((bmI m d, kidsI n f d m) :: (walkI n kd f (d + 1) (childI m d (digP kd d))).1, (walkI n kd f (d + 1) (childI m d (digP kd d))).2) else ([(bmI m d, kidsI n f d m)], [])
theorem kidsI_len (n : Int) (f d : Nat) (m : List It) : (kidsI n f d m).length = cntB (bmI m d) := by simp [kidsI, cntB]
theorem kidsI_32 (n : Int) (f d : Nat) (m : List It) : ∀ x ∈ kidsI n f d m, x.length = 32 := by
  intro x hx
  obtain ⟨c, _, rfl⟩ := List.mem_map.1 hx
  exact nodeD_len _ _ _ _
theorem nodeD_br (n : Int) (f d : Nat) {m : List It} (hs : singleB m = false) : nodeD n (f + 1) d m = brD n (bmI m d) (kidsI n f d m) := by
  rw [nodeD, if_neg (by simp [hs])]
  rfl
theorem walkI_single (n : Int) (kd : List UInt8) (f d : Nat) {m : List It} (hs : singleB m = true) : walkI n kd f d m = ([], m) := by
  cases f with
  | zero => rfl
  | succ f => rw [walkI, if_pos hs]
def SR.dt (s : SR) : Nat × List (List UInt8) := (s.bm, s.ks)
/-- Steps whose lists lie one behind the other from lo on and below hi, each in a block of its own. -/
def RunK (w : World) (hi : Nat) : Nat → List SR → Prop
  | lo, [] => lo ≤ hi
  | lo, t :: r => ∃ mid, lo ≤ mid ∧ (t.bm < 65536 ∧ (∀ d ∈ t.ks, d.length = 32) ∧ Own w lo 28 32 t.kv t.ks.length (t.ks.flatMap vbs) ∧ ∀ g, t.kv.ownBlock = some g → g < mid) ∧ RunK w hi mid r
theorem RunK.le {w : World} {hi : Nat} : ∀ {l : List SR} {lo : Nat}, RunK w hi lo l → lo ≤ hi
  | [], lo, h => h
  | t :: r, lo, h => by obtain ⟨mid, h1, _, h2⟩ := h; exact Nat.le_trans h1 h2.le
theorem RunK.ext {w w' : World} {hi : Nat} (e : Ext w w') : ∀ {l : List SR} {lo : Nat}, RunK w hi lo l → RunK w' hi lo l
  | [], lo, h => h
  | t :: r, lo, h => by obtain ⟨mid, h1, h2, h3⟩ := h; exact ⟨mid, h1, ⟨h2.1, h2.2.1, h2.2.2.1.ext e, h2.2.2.2⟩, RunK.ext e h3⟩
theorem RunK.top {w : World} {hi hi' : Nat} (hh : hi ≤ hi') : ∀ {l : List SR} {lo : Nat}, RunK w hi lo l → RunK w hi' lo l
  | [], lo, h => Nat.le_trans h hh
  | t :: r, lo, h => by obtain ⟨mid, h1, h2, h3⟩ := h; exact ⟨mid, h1, h2, RunK.top hh h3⟩
theorem RunK.append {w : World} {m hi : Nat} : ∀ {l l' : List SR} {lo : Nat}, RunK w m lo l → RunK w hi m l' → RunK w hi lo (l ++ l')
  | [], l', lo, h, h' => by
    cases l' with
    | nil => exact Nat.le_trans h h'
    | cons x l' =>
      obtain ⟨mid, h1, h2, h3⟩ := h'
      exact ⟨mid, Nat.le_trans h h1, ⟨h2.1, h2.2.1, h2.2.2.1.base h, h2.2.2.2⟩, h3⟩
  | t :: r, l', lo, h, h' => by
    obtain ⟨mid, h1, h2, h3⟩ := h
    exact ⟨mid, h1, h2, RunK.append h3 h'⟩
theorem RunK.grown {w w' : World} {hi b2 e2 s2 n2 : Nat} {x : Value} {ys : List Value} (k : Own w b2 e2 s2 x n2 ys) (hne : 28 ≠ e2) (g : w.grownBy w' x.ownBlock) : ∀ {l : List SR} {lo : Nat}, RunK w hi lo l → RunK w' hi lo l
  | [], lo, h => h
  | t :: r, lo, h => by obtain ⟨mid, h1, h2, h3⟩ := h; exact ⟨mid, h1, ⟨h2.1, h2.2.1, h2.2.2.1.grown_ne k hne g, h2.2.2.2⟩, RunK.grown k hne g h3⟩
theorem RunB.put {w w' : World} {hi b T U : Nat} {l vs : List Value} (hB : Blk w b T l) (hne : T ≠ 5) (hP : Put w w' b U vs) : ∀ {l : List (Value × List UInt8)} {lo : Nat}, RunB w hi lo l → RunB w' hi lo l
  | [], lo, h => h
  | (v, xs) :: r, lo, h => by obtain ⟨mid, h1, h2, h3⟩ := h; exact ⟨mid, h1, ⟨h2.own.put hB hne hP, h2.top⟩, RunB.put hB hne hP h3⟩
theorem RunK.mem {w : World} {hi : Nat} : ∀ {l : List SR} {lo : Nat}, RunK w hi lo l → ∀ t ∈ l, t.bm < 65536 ∧ (∀ d ∈ t.ks, d.length = 32) ∧ Own w lo 28 32 t.kv t.ks.length (t.ks.flatMap vbs)
  | [], lo, _, p, hp => by cases hp
  | t :: r, lo, h, p, hp => by
    obtain ⟨mid, h1, h2, h3⟩ := h
    rcases List.mem_cons.1 hp with rfl | hp
    · exact ⟨h2.1, h2.2.1, h2.2.2.1⟩
    · obtain ⟨k1, k2, k3⟩ := RunK.mem h3 p hp
      exact ⟨k1, k2, k3.base h1⟩
theorem RunK.stepsAt {w : World} {lo hi B : Nat} {v : Value} {tt : List SR} (h : RunK w hi lo tt) (hv : Own w B 51 2 v tt.length (tt.flatMap SR.cells)) : StepsAt w v tt :=
  ⟨SlC.of_own hv, fun t ht => ⟨(h.mem t ht).1, (h.mem t ht).2.1, SlC.of_own (h.mem t ht).2.2⟩⟩
theorem Own.not_blk {w : World} {b1 e1 s1 n1 b T : Nat} {v : Value} {xs l : List Value} (h : Own w b1 e1 s1 v n1 xs) (k : Blk w b T l) (hne : T ≠ e1) : v.ownBlock ≠ some b := by
  intro he
  rcases h.2 with ⟨rfl, _⟩ | ⟨g, cap, cur, rfl, _, hg, _⟩
  · simp [Value.ownBlock] at he
  · simp only [Value.ownBlock, Option.some.injEq] at he
    subst he
    rw [k.out] at hg
    cases hg
    exact hne rfl
theorem apStep {w : World} {base b : Nat} {x : Value} {us : List SR} {p : SR} {K : Value → World → Prop} (hO : Own w base 51 2 x us.length (us.flatMap SR.cells)) (hb : base ≤ w.heap.size) (hB : Blk w b 51 p.cells) (h2 : oneCellV p.kv = true) (hsz : us.length ≤ 1000000000)
    (hK : ∀ a c w', Own w' base 51 2 (.slice a (us ++ [p]).length c) (us ++ [p]).length ((us ++ [p]).flatMap SR.cells) → w.grownBy w' x.ownBlock → Below base w w' → K (.slice a (us ++ [p]).length c) w') : vcAppend Tryz.prog 23 x (.slice (some ⟨b, 0, none⟩) 1 1) w K := by
  have hl : (us.flatMap SR.cells).length = us.length * 2 := hO.1
  refine apS (sz := 2) (n := us.length) (m := 1) Tryz.underlying23 z51 c51 rfl (by decide) hO hb (SlC.of_blk hB (by decide)) rfl (by intro u hu; rcases List.mem_cons.1 hu with rfl | hu; rfl; rcases List.mem_cons.1 hu with rfl | hu; exact h2; cases hu) (by omega) (by rw [by51]; omega) (fun v' w' hO' hg => ?_)
  have e : us.flatMap SR.cells ++ p.cells = (us ++ [p]).flatMap SR.cells := by simp
  rw [e, show us.length + 1 = (us ++ [p]).length from by simp] at hO'
  obtain ⟨a, c, rfl⟩ := own_slice hO'
  exact hK a c w' hO' hg (below_of_grown hO hb hg)
theorem toldS {L : Prop} {S : World → Prop} {w : World} {K : (World → Prop) → Prop} (h1 : S w) (h : K S) : Told L S w K := ⟨S, h1, Or.inl (fun _ h => h), h⟩
theorem apDg {w : World} {base b n : Nat} {x : Value} {us : List (List UInt8)} {d : List UInt8} {K : Value → World → Prop} (hn : us.length = n) (hO : Own w base 28 32 x n (us.flatMap vbs)) (hb : base ≤ w.heap.size) (hB : Blk w b 28 (vbs d)) (hd : d.length = 32) (hsz : n ≤ 1000000000)
    (hK : ∀ a c w', Own w' base 28 32 (.slice a (n + 1) c) (n + 1) ((us ++ [d]).flatMap vbs) → w.grownBy w' x.ownBlock → Below base w w' → K (.slice a (n + 1) c) w') : vcAppend Tryz.prog 49 x (.slice (some ⟨b, 0, none⟩) 1 1) w K := by
  refine apS (sz := 32) (n := n) (m := 1) Tryz.underlying49 z28 c28 rfl (by decide) hO hb (SlC.of_blk hB (by decide)) (by rw [vbs_len, hd]) (vbs_one _) (by omega) (by rw [by28]; omega) (fun v' w' hO' hg => ?_)
  have e : us.flatMap vbs ++ vbs d = (us ++ [d]).flatMap vbs := by simp
  rw [e] at hO'
  obtain ⟨a, c, rfl⟩ := own_slice hO'
  exact hK a c w' hO' hg (below_of_grown hO hb hg)

theorem Walk_hamt_ok (n : Int) (hw : widB n = true) (S : Nat → Prop) (mv kv : Value) (m : List It) (key : List UInt8) (w : World) (hW : WordsAt w 1) (h : MapAt n S w mv m) (hO : OkI n m) (hk : SlB w kv key) (hml : m.length ≤ 1000000000) :
    CallK Tryz.prog 36 [mv, kv].toArray w fun r w' => ∃ (sv pv : Value) (tt : List SR) (qs : List PR), r = .tuple [sv, pv, .int .i64 (if 64 < key.length then 2 else 0 : Nat)].toArray ∧
      Own w' w.heap.size 51 2 sv tt.length (tt.flatMap SR.cells) ∧ RunK w' w'.heap.size w.heap.size tt ∧ Own w' w.heap.size 47 2 pv qs.length (qs.flatMap PR.cells) ∧ RunB w' w'.heap.size w.heap.size (qs.flatMap prB) ∧
      tt.map SR.dt = (if 64 < key.length then [] else (walkI n (keyD n key) 64 0 m).1) ∧ qs.map PR.dat = (if 64 < key.length then [] else (walkI n (keyD n key) 64 0 m).2.map It.pr) ∧ Ext w w' := by
  obtain ⟨b, top, rfl, hS, hB, hT1, hT2⟩ := h
  have hwn := (widB_iff n).1 hw
  obtain ⟨nn, rfl⟩ : ∃ nn : Nat, n = nn := ⟨n.toNat, by omega⟩
  refine enterT Tryz.func36 rfl Tryz.ntmps36 Tryz.results36 rfl (by decide) ?_
  repeat (first | exact trivial | refine stp ?_ | refine ldCg ?_ | refine ldNg ?_ | refine ldSg ?_ | refine ldSb ?_ | refine bnd ?_ | refine bnd1 ?_ | refine drawQ (by decide +kernel) mixed (by decide +kernel) ?_)
  refine (check_hamt_ok nn b top key kv w hW hB hk hw).mono ?_
  rintro _ w1 ⟨D, hDl, rfl, hD, hE1⟩
  have hz1 := hE1.size
  by_cases h64 : 64 < key.length
  · rw [if_pos h64]
    repeat (first | exact trivial | refine stp ?_ | refine ldCg ?_ | refine ldNg ?_ | refine ldSg ?_ | refine ldSb ?_ | refine bnd ?_ | refine bnd1 ?_ | refine drawQ (by decide +kernel) mixed (by decide +kernel) ?_)
    first | refine newS ?_ | refine newZ ?_
    intro w2 hE2 hz2 hB2
    repeat (first | exact trivial | refine stp ?_ | refine ldCg ?_ | refine ldNg ?_ | refine ldSg ?_ | refine ldSb ?_ | refine bnd ?_ | refine bnd1 ?_ | refine drawQ (by decide +kernel) mixed (by decide +kernel) ?_)
    exact ⟨.slice none 0 0, .slice none 0 0, [], [], rfl, Own.nil _ _ _ _, Nat.le_trans hz1 (by omega), Own.nil _ _ _ _, Nat.le_trans hz1 (by omega), by rw [if_pos h64]; rfl, by rw [if_pos h64]; rfl, .go⟩
  obtain rfl := hD (by omega)
  rw [if_neg h64]
  repeat (first | exact trivial | refine stp ?_ | refine ldCg ?_ | refine ldNg ?_ | refine ldSg ?_ | refine ldSb ?_ | refine bnd ?_ | refine bnd1 ?_ | refine drawQ (by decide +kernel) mixed (by decide +kernel) ?_)
  first | refine newS ?_ | refine newZ ?_
  intro w2 hE2 hz2 hB2
  have hbl := hB.lt
  repeat (first | exact trivial | refine stp ?_ | refine ldCg ?_ | refine ldNg ?_ | refine ldSg ?_ | refine ldSb ?_ | refine bnd ?_ | refine bnd1 ?_ | refine drawQ (by decide +kernel) mixed (by decide +kernel) ?_)
  refine loopX (ι := Nat × List It × Value × List SR × Option Addr × Nat) (fun x => [(0, .pointer (some ⟨b, 0, none⟩)), (7, .pointer (some ⟨w1.heap.size, 0, none⟩)), (9, .slice x.2.2.2.2.1 x.2.2.2.1.length x.2.2.2.2.2), (10, x.2.2.1)])
    (fun x W => Ext w2 W ∧ x.1 ≤ 64 ∧ OkI nn x.2.1 ∧ Pre x.1 x.2.1 ∧ x.2.1.length ≤ m.length ∧ AtN nn S w (64 - x.1) x.1 x.2.1 x.2.2.1 ∧ x.2.2.2.1.length = x.1 ∧ (x.2.1 = [] → x.2.2.2.1 = []) ∧
      Own W w2.heap.size 51 2 (.slice x.2.2.2.2.1 x.2.2.2.1.length x.2.2.2.2.2) x.2.2.2.1.length (x.2.2.2.1.flatMap SR.cells) ∧ RunK W W.heap.size w.heap.size x.2.2.2.1 ∧
      x.2.2.2.1.map SR.dt ++ (walkI nn (keyD nn key) (64 - x.1) x.1 x.2.1).1 = (walkI nn (keyD nn key) 64 0 m).1 ∧ (walkI nn (keyD nn key) (64 - x.1) x.1 x.2.1).2 = (walkI nn (keyD nn key) 64 0 m).2) (fun x => 64 - x.1) (0, m, top, [], none, 0) ⟨.go, Nat.zero_le _, hO, hO.pre, Nat.le_refl _, ⟨hT1, hT2⟩, rfl, fun _ => rfl, Own.nil _ _ _ _, Nat.le_trans hz1 (by omega), rfl, rfl⟩ ?_ ?_
  · repeat (first | exact trivial | refine stp ?_ | refine ldCg ?_ | refine ldNg ?_ | refine ldSg ?_ | refine ldSb ?_ | refine bnd ?_ | refine bnd1 ?_ | refine drawQ (by decide +kernel) mixed (by decide +kernel) ?_)
    rfl
  · rintro ⟨d, l, at_, tt, a, c⟩ s3 w3 ⟨hE3, hd, hOl, hPl, hll, hA, htl, htn, hOs, hRs, hw1, hw2⟩
    simp only at hd hOl hPl hll hA htl htn hOs hRs hw1 hw2
    have hz3 := hE3.size
    rcases hA.cases with ⟨rfl, rfl⟩ | ⟨hne, hs, b4, pv, ps, rfl, hb⟩ | ⟨hs, f', hf', b4, kv4, vs, rfl, hb, hkids⟩
    · obtain rfl := htn rfl
      have e0 : walkI nn (keyD nn key) (64 - d) d [] = ([], []) := walkI_single _ _ _ _ rfl
      rw [e0] at hw1 hw2
      repeat (first | exact trivial | refine stp ?_ | refine ldCg ?_ | refine ldNg ?_ | refine ldSg ?_ | refine ldSb ?_ | refine bnd ?_ | refine bnd1 ?_ | refine drawQ (by decide +kernel) mixed (by decide +kernel) ?_)
      exact ⟨.slice none 0 0, .slice none 0 0, [], [], rfl, Own.nil _ _ _ _, Nat.le_trans hz1 (by omega), Own.nil _ _ _ _, Nat.le_trans hz1 (by omega), by rw [if_neg h64, ← hw1]; rfl, by rw [if_neg h64, ← hw2]; rfl, .go⟩
    · have hB4 := hb.blk
      have hhl : (vbs (headD l)).length = 32 := by rw [vbs_len]; exact headD_len (n := nn) hne hOl.len
      have hpl : ps.length ≤ 1000000000 := by have := congrArg List.length hb.dat; simp at this; omega
      have hpa := hb.prs.at
      obtain ⟨pa, cp, rfl⟩ := slv_of hpa.1
      have hel : ∀ p ∈ ps, p.k.length ≤ 4000000000 ∧ p.v.length ≤ 4000000000 := fun p hp => by
        obtain ⟨y, hy, he⟩ := List.mem_map.1 (hb.dat ▸ List.mem_map_of_mem (f := PR.dat) hp)
        have := hOl.short y hy
        simp only [It.pr, PR.dat, Prod.mk.injEq] at he
        rw [he.1, he.2] at this
        omega
      rw [walkI_single _ _ _ _ hs] at hw1 hw2
      repeat (first | exact trivial | refine stp ?_ | refine ldCg ?_ | refine ldNg ?_ | refine ldSg ?_ | refine ldSb ?_ | refine bnd ?_ | refine bnd1 ?_ | refine drawQ (by decide +kernel) mixed (by decide +kernel) ?_)
      refine ldCg (hv := by rw [List.getElem?_append_right (by omega), hhl]; rfl) ?_
      repeat (first | exact trivial | refine stp ?_ | refine ldCg ?_ | refine ldNg ?_ | refine ldSg ?_ | refine ldSb ?_ | refine bnd ?_ | refine bnd1 ?_ | refine drawQ (by decide +kernel) mixed (by decide +kernel) ?_)
      refine (copies_ok ps _ w3 (hpa.ext .go) hpl hel).mono ?_
      rintro v5 w5 ⟨qs, hO5, hd5, hR5, hE5⟩
      have hz5 := hE5.size
      repeat (first | exact trivial | refine stp ?_ | refine ldCg ?_ | refine ldNg ?_ | refine ldSg ?_ | refine ldSb ?_ | refine bnd ?_ | refine bnd1 ?_ | refine drawQ (by decide +kernel) mixed (by decide +kernel) ?_)
      refine ⟨.slice a tt.length c, v5, tt, qs, rfl, (hOs.ext hE5).base (by omega), (hRs.ext hE5).top (by omega), hO5.base (by omega), ?_, ?_, ?_, .go⟩
      · refine RunB.append (l := []) (m := w3.heap.size) (by show w.heap.size ≤ w3.heap.size; omega) hR5
      · rw [if_neg h64, ← hw1, List.append_nil]
      · rw [if_neg h64, hd5, hb.dat, ← hw2]
    · have hB4 := hb.blk
      have hb4l := hB4.lt
      have hbm := bmI_lt l d
      have hdn := br_depth hs hPl (hOl.form hw)
      have hlk := keyD_len nn key
      have hfk : formB nn (keyD nn key) = true := by unfold keyD; exact form_sumR nn _ hw
      have hat := atP_dig (by omega) (by omega) hlk hfk hdn
      have hd16 := digP_lt (keyD nn key) d
      have hkv := hb.kids
      have hvl := hb.len
      have hc16 := cnt_le (bmI l d)
      obtain ⟨ka, kc, rfl⟩ := slv_of hkv.sl
      rw [hf'] at hw1 hw2
      rw [walkI, if_neg (by simp [hs])] at hw1 hw2
      have hkl := kidsI_len nn f' d l
      repeat (first | exact trivial | refine stp ?_ | refine ldCg ?_ | refine ldNg ?_ | refine ldSg ?_ | refine ldSb ?_ | refine bnd ?_ | refine bnd1 ?_ | refine drawQ (by decide +kernel) mixed (by decide +kernel) ?_)
      refine (digit_hamt_ok nn b top (keyD nn key) hlk tt.length w3 .go).mono ?_
      rintro _ w4 ⟨rfl, hE4⟩
      have hz4 := hE4.size
      rw [htl, hat]
      repeat (first | exact trivial | refine stp ?_ | refine ldCg ?_ | refine ldNg ?_ | refine ldSg ?_ | refine ldSb ?_ | refine bnd ?_ | refine bnd1 ?_ | refine drawQ (by decide +kernel) mixed (by decide +kernel) ?_)
      refine bldC [.int .u16 (bmI l d : Nat), .slice none 0 0] (by kernel_rfl) ?_
      repeat (first | exact trivial | refine stp ?_ | refine ldCg ?_ | refine ldNg ?_ | refine ldSg ?_ | refine ldSb ?_ | refine bnd ?_ | refine bnd1 ?_ | refine drawQ (by decide +kernel) mixed (by decide +kernel) ?_)
      first | refine newS ?_ | refine newZ ?_
      intro w5 hE5 hz5 hB5
      repeat (first | exact trivial | refine stp ?_ | refine ldCg ?_ | refine ldNg ?_ | refine ldSg ?_ | refine ldSb ?_ | refine bnd ?_ | refine bnd1 ?_ | refine drawQ (by decide +kernel) mixed (by decide +kernel) ?_)
      refine loopX (ι := Nat × Option Addr × Nat) (fun x => [(0, .pointer (some ⟨b, 0, none⟩)), (7, .pointer (some ⟨w1.heap.size, 0, none⟩)), (9, .slice a tt.length c), (12, .pointer (some ⟨b4, 0, none⟩)), (13, .int .i64 (digP (keyD nn key) d)), (14, .pointer (some ⟨w4.heap.size, 0, none⟩)), (57, .slice ka vs.length kc), (58, .int .i64 vs.length), (59, .int .i64 x.1)])
        (fun x W => Ext w4 W ∧ w5.heap.size ≤ W.heap.size ∧ x.1 ≤ vs.length ∧ Blk W w4.heap.size 51 [.int .u16 (bmI l d : Nat), .slice x.2.1 x.1 x.2.2] ∧ Own W w5.heap.size 28 32 (.slice x.2.1 x.1 x.2.2) x.1 (((kidsI nn f' d l).take x.1).flatMap vbs)) (fun x => vs.length - x.1) (0, none, 0) ⟨.go, Nat.le_refl _, Nat.zero_le _, hB5, Own.nil _ _ _ _⟩ ?_ ?_
      · repeat (first | exact trivial | refine stp ?_ | refine ldCg ?_ | refine ldNg ?_ | refine ldSg ?_ | refine ldSb ?_ | refine bnd ?_ | refine bnd1 ?_ | refine drawQ (by decide +kernel) mixed (by decide +kernel) ?_)
        rw [htl]
      · rintro ⟨j, a6, c6⟩ s6 w6 ⟨hE6, hz6, hj, hB6, hO6⟩
        simp only at hj hB6 hO6
        repeat (first | exact trivial | refine stp ?_ | refine ldCg ?_ | refine ldNg ?_ | refine ldSg ?_ | refine ldSb ?_ | refine bnd ?_ | refine bnd1 ?_ | refine drawQ (by decide +kernel) mixed (by decide +kernel) ?_)
        refine ⟨fun hltj => ?_, fun hgej => ?_⟩
        · obtain ⟨cj, hcj⟩ : ∃ cj, (setB (bmI l d))[j]? = some cj := ⟨_, List.getElem?_eq_getElem (by unfold cntB at hvl; omega)⟩
          have hmem := mem_setB.1 (List.mem_of_getElem? hcj)
          rw [bmI_bit] at hmem
          have hhj : hasI l d cj = true := (Bool.and_eq_true_iff.1 hmem.2).2
          obtain ⟨x, hx, hNx⟩ := hkids cj hhj
          rw [rank_of hcj] at hx
          obtain ⟨b7, o7, rfl, hR7⟩ := vs_get hkv (by omega)
          have hdj : (kidsI nn f' d l)[j]? = some (nodeD nn f' (d + 1) (childI l d cj)) := by unfold kidsI; rw [List.getElem?_map, hcj]; rfl
          have hdl := nodeD_len nn f' (d + 1) (childI l d cj)
          have htk : (kidsI nn f' d l).take (j + 1) = (kidsI nn f' d l).take j ++ [nodeD nn f' (d + 1) (childI l d cj)] := by
            obtain ⟨hil, he⟩ := List.getElem?_eq_some_iff.1 hdj
            rw [List.take_succ_eq_append_getElem hil, he]
          have htkl : ((kidsI nn f' d l).take j).length = j := by rw [List.length_take]; omega
          repeat (first | exact trivial | refine stp ?_ | refine ldCg ?_ | refine ldNg ?_ | refine ldSg ?_ | refine ldSb ?_ | refine bnd ?_ | refine bnd1 ?_ | refine drawQ (by decide +kernel) mixed (by decide +kernel) ?_)
          refine ldRowF (f := fun v : Value => [v]) 0 hx ?_
          refine stp ?_
          refine drawH (fun W => Blk W w4.heap.size 51 [.int .u16 (bmI l d : Nat), .slice a6 j c6]) [0, 1, 2, 3, 4, 5, 6, 7] mixed (by decide +kernel) (fun w7 hE7 hh => ⟨hB6.ext hE7, ?_⟩)
          have hz7 := hE7.size
          repeat (first | exact trivial | refine stp ?_ | refine ldCg ?_ | refine ldNg ?_ | refine ldSg ?_ | refine ldSb ?_ | refine bnd ?_ | refine bnd1 ?_ | refine drawQ (by decide +kernel) mixed (by decide +kernel) ?_)
          refine loadS_of (.slice a6 j c6) (fun w' h => by refine stp ?_; exact ldCg rfl h) ?_
          repeat (first | exact trivial | refine stp ?_ | refine ldCg ?_ | refine ldNg ?_ | refine ldSg ?_ | refine ldSb ?_ | refine bnd ?_ | refine bnd1 ?_ | refine drawQ (by decide +kernel) mixed (by decide +kernel) ?_)
          refine (node_sum (hNx.ext .go) (child_ne hhj) (fun y hy => hOl.len y (mem_child.1 hy).1)).mono ?_
          rintro _ w8 ⟨rfl, hE8⟩
          have hz8 := hE8.size
          refine toldS .go ?_
          repeat (first | exact trivial | refine stp ?_ | refine ldCg ?_ | refine ldNg ?_ | refine ldSg ?_ | refine ldSb ?_ | refine bnd ?_ | refine bnd1 ?_ | refine drawQ (by decide +kernel) mixed (by decide +kernel) ?_)
          refine ⟨by rw [vbs_len]; exact hdl, ?_⟩
          first | refine newS ?_ | refine newZ ?_
          intro w9 hE9 hz9 hB9
          refine toldS .go ?_
          repeat (first | exact trivial | refine stp ?_ | refine ldCg ?_ | refine ldNg ?_ | refine ldSg ?_ | refine ldSb ?_ | refine bnd ?_ | refine bnd1 ?_ | refine drawQ (by decide +kernel) mixed (by decide +kernel) ?_)
          have hO9 := hO6.ext (hE7.trans' (hE8.trans' hE9))
          have hB69 := hB6.ext (hE7.trans' (hE8.trans' hE9))
          refine apDg htkl hO9 (by omega) hB9 hdl (by omega) (fun a10 c10 w10 hO10 hg10 hE10 => ?_)
          have hz10 := hE10.size
          have hB610 : Blk w10 w4.heap.size 51 [.int .u16 (bmI l d : Nat), .slice a6 j c6] := ⟨by rw [hg10.block _ hB69.lt (fun e => hO9.not_blk hB69 (by decide) e.symm)]; exact hB69.out⟩
          refine toldS hB610 ?_
          rw [← htk] at hO10
          repeat (first | exact trivial | refine stp ?_ | refine ldCg ?_ | refine ldNg ?_ | refine ldSg ?_ | refine ldSb ?_ | refine bnd ?_ | refine bnd1 ?_ | refine drawQ (by decide +kernel) mixed (by decide +kernel) ?_)
          refine stC ?_
          intro w11 hP11 hz11 hB11
          refine toldZ ?_
          repeat (first | exact trivial | refine stp ?_ | refine ldCg ?_ | refine ldNg ?_ | refine ldSg ?_ | refine ldSb ?_ | refine bnd ?_ | refine bnd1 ?_ | refine drawQ (by decide +kernel) mixed (by decide +kernel) ?_)
          exact ⟨(j + 1, a10, c10), ⟨.go, by omega, by simp only; omega, hB11, hO10.put hB610 (by decide) hP11⟩, by rw [w64 (by omega) (by omega)]; rfl, by simp only; omega⟩
        · obtain rfl : j = vs.length := by omega
          rw [List.take_of_length_le (by omega)] at hO6
          repeat (first | exact trivial | refine stp ?_ | refine ldCg ?_ | refine ldNg ?_ | refine ldSg ?_ | refine ldSb ?_ | refine bnd ?_ | refine bnd1 ?_ | refine drawQ (by decide +kernel) mixed (by decide +kernel) ?_)
          refine ⟨rfl, rfl, ?_⟩
          first | refine newS ?_ | refine newZ ?_
          intro w7 hE7 hz7 hB7
          have hlen : (kidsI nn f' d l).length = vs.length := by omega
          refine apStep (us := tt) (p := ⟨.slice a6 vs.length c6, bmI l d, kidsI nn f' d l⟩) (hOs.ext .go) (by omega) hB7 rfl (by omega) (fun a8 c8 w8 hO8 hg8 hE8 => ?_)
          have hz8 := hE8.size
          have hO7 := hOs.ext (w' := w7) .go
          have hR8 : RunK w8 w8.heap.size w.heap.size (tt ++ [⟨.slice a6 vs.length c6, bmI l d, kidsI nn f' d l⟩]) := by
            refine RunK.append (m := w3.heap.size) (RunK.grown hO7 (by decide) hg8 (hRs.ext .go)) ⟨w8.heap.size, by omega, ⟨hbm, kidsI_32 _ _ _ _, ?_, fun g hg => ?_⟩, Nat.le_refl _⟩
            · rw [hlen]
              exact ((hO6.ext hE7).grown_ne hO7 (by decide) hg8).base (by omega)
            · have := hO6.top g hg
              omega
          have hdt : (tt ++ [(⟨.slice a6 vs.length c6, bmI l d, kidsI nn f' d l⟩ : SR)]).map SR.dt = tt.map SR.dt ++ [(bmI l d, kidsI nn f' d l)] := by rw [List.map_append]; rfl
          have htl' : (tt ++ [(⟨.slice a6 vs.length c6, bmI l d, kidsI nn f' d l⟩ : SR)]).length = d + 1 := by rw [List.length_append, htl]; rfl
          generalize tt ++ [(⟨.slice a6 vs.length c6, bmI l d, kidsI nn f' d l⟩ : SR)] = tt' at *
          repeat (first | exact trivial | refine stp ?_ | refine ldCg ?_ | refine ldNg ?_ | refine ldSg ?_ | refine ldSb ?_ | refine bnd ?_ | refine bnd1 ?_ | refine drawQ (by decide +kernel) mixed (by decide +kernel) ?_)
          refine (Has_ok (bmI l d) hbm (digP (keyD nn key) d) w8).mono ?_
          rintro _ w9 ⟨rfl, hE9⟩
          have hz9 := hE9.size
          rw [bmI_has, decide_eq_true hd16, Bool.true_and]
          cases hh : hasI l d (digP (keyD nn key) d)
          · rw [if_neg (by simp [hh])] at hw1 hw2
            repeat (first | exact trivial | refine stp ?_ | refine ldCg ?_ | refine ldNg ?_ | refine ldSg ?_ | refine ldSb ?_ | refine bnd ?_ | refine bnd1 ?_ | refine drawQ (by decide +kernel) mixed (by decide +kernel) ?_)
            exact ⟨.slice a8 tt'.length c8, .slice none 0 0, tt', [], rfl, (hO8.ext hE9).base (by omega), (hR8.ext hE9).top hz9, Own.nil _ _ _ _, by show w.heap.size ≤ w9.heap.size; omega, by rw [if_neg h64, hdt, ← hw1], by rw [if_neg h64, ← hw2]; rfl, .go⟩
          · rw [if_pos hh] at hw1 hw2
            obtain ⟨x, hx, hNx⟩ := hkids _ hh
            have hrl := (List.getElem?_eq_some_iff.1 hx).1
            obtain ⟨b10, o10, rfl, hR10⟩ := vs_get hkv (by omega)
            repeat (first | exact trivial | refine stp ?_ | refine ldCg ?_ | refine ldNg ?_ | refine ldSg ?_ | refine ldSb ?_ | refine bnd ?_ | refine bnd1 ?_ | refine drawQ (by decide +kernel) mixed (by decide +kernel) ?_)
            refine qcall _ (fun w' hw' => Rank_ok (bmI l d) hbm (digP (keyD nn key) d) w') ?_
            repeat (first | exact trivial | refine stp ?_ | refine ldCg ?_ | refine ldNg ?_ | refine ldSg ?_ | refine ldSb ?_ | refine bnd ?_ | refine bnd1 ?_ | refine drawQ (by decide +kernel) mixed (by decide +kernel) ?_)
            refine ldRowF (f := fun v : Value => [v]) 0 hx ?_
            repeat (first | exact trivial | refine stp ?_ | refine ldCg ?_ | refine ldNg ?_ | refine ldSg ?_ | refine ldSb ?_ | refine bnd ?_ | refine bnd1 ?_ | refine drawQ (by decide +kernel) mixed (by decide +kernel) ?_)
            intro w10 hE10
            refine ⟨(d + 1, childI l d (digP (keyD nn key) d), x, tt', a8, c8), ⟨.go, by simp only; omega, hOl.child _ _, hPl.child _, Nat.le_trans (List.length_filter_le _ _) hll, ?_, htl', fun e => absurd e (child_ne hh), hO8.ext .go, (hR8.ext .go).top (by have := hE10.size; omega), ?_, ?_⟩, ⟨rfl, rfl⟩, by simp only; omega⟩
            · refine ⟨fun e => absurd e (child_ne hh), fun _ => ?_⟩
              simp only
              rw [show 64 - (d + 1) = f' from by omega]
              exact hNx
            · simp only
              rw [hdt, ← hw1, show 64 - (d + 1) = f' from by omega]
              simp
            · simp only
              rw [← hw2, show 64 - (d + 1) = f' from by omega]
end Go.Proofs.YtebbgninkbghlaaGreatDoor

/-! Slg -/
namespace Go.Proofs.YtebbgninkbghlaaGreatDoor
set_option maxRecDepth 100000
open Go Go.RowKit
set_option linter.unusedVariables false
set_option linter.unusedSimpArgs false

theorem DelD_ok (A X D : List Value) (i len : Nat) (hAl : A.length = i * 32) (hXl : X.length = 32) (hDl : D.length = (len - 1 - i) * 32) (hi : i < len) (hD1 : ∀ v ∈ D, oneCellV v = true) (v : Value) (base : Nat) (w : World)
    (hO : Own w base 28 32 v len (A ++ (X ++ D))) (hbase : base ≤ w.heap.size) (hsz : len ≤ 4000000000) :
    CallK Tryz.prog 88 [v, .int .i64 i, .int .i64 (i + 1 : Nat)].toArray w fun v' w' => v'.ownBlock = v.ownBlock ∧ Own w' base 28 32 v' (len - 1) (A ++ D) ∧ Below base w w' ∧ OnlyBy v w w' := by
  obtain ⟨a, c, rfl⟩ := own_slice hO
  have hcl := hO.cap_le
  obtain ⟨_, ⟨h0, h0'⟩ | ⟨g, cap, cur, h0, hbg, hg, hnc, hcm, hcs, hct⟩⟩ := hO
  · omega
  cases h0
  obtain ⟨rest, hrest⟩ : ∃ rest, cur.toList = A ++ (X ++ (D ++ rest)) := ⟨cur.toList.drop (len * 32), by
    have := List.take_append_drop (len * 32) cur.toList
    rw [hct, List.append_assoc, List.append_assoc] at this
    exact this.symm⟩
  have hG : Blk w g 28 (A ++ (X ++ (D ++ rest))) := ⟨by rw [← hrest]; simpa using hg⟩
  have hrl : rest.length = (c - len) * 32 := by
    have := congrArg List.length hrest
    simp only [List.length_append, Array.length_toList, hcs] at this
    omega
  refine enterT Tryz.func88 rfl Tryz.ntmps88 Tryz.results88 rfl (by decide) ?_
  simp only [↓VD, VP, VT, isAggD, reduceCtorEq, Int.reduceEq, Int.reduceNe, Int.reduceLT, Int.reduceLE, implies_true, Nat.reduceEqDiff, reduceIte, ite_true, ite_false, eq_self, Nat.reduceLT, Nat.reduceLeDiff, Nat.reduceAdd, Nat.reduceMul, Nat.reduceSub, intOf]
  refine ⟨by omega, by omega, by omega, by omega, fun a' ha' => ⟨fun h => absurd h (by omega), fun _ => ?_⟩⟩
  refine drawH (fun _ => True) [0, 1, 2, 3, 4, 5, 6, 7] mixed (by decide +kernel) (fun w1 hE1 hh => ⟨trivial, ?_⟩)
  simp only [↓VD, VP, VT, isAggD, reduceCtorEq, Int.reduceEq, Int.reduceNe, Int.reduceLT, Int.reduceLE, implies_true, Nat.reduceEqDiff, reduceIte, ite_true, ite_false, eq_self, Nat.reduceLT, Nat.reduceLeDiff, Nat.reduceAdd, Nat.reduceMul, Nat.reduceSub, intOf]
  refine ⟨by omega, by omega, fun a1 ha1 => ⟨by omega, by omega, by omega, fun a2 ha2 => ?_⟩⟩
  obtain ⟨o1, rfl, ho1⟩ := ha1 g 0 rfl
  obtain rfl : o1 = 0 := by have := ho1 (by omega); simpa using this
  obtain ⟨o2, rfl, ho2⟩ := ha2 g 0 rfl
  have hG1 := hG.ext hE1
  have hD2 : SlC w1 (.slice (some ⟨g, o2, none⟩) (len - 1 - i) (c - (i + 1))) (len - 1 - i) D := by
    refine ⟨_, _, rfl, by omega, by rw [maxLen_eq] at hcm; omega, Or.inr ⟨g, o2, rfl, fun j u hj => ?_⟩⟩
    have hjl := (List.getElem?_eq_some_iff.1 hj).1
    have e2 : o2 = (i + 1) * 32 := by have := ho2 (by omega); simpa using this
    rw [hG1.cell, ← List.append_assoc, List.getElem?_append_right (by rw [List.length_append]; omega), List.length_append, List.getElem?_append_left (by omega), ← hj]
    congr 1
    omega
  have hO1 : Own w1 base 28 32 (.slice (some ⟨g, 0, none⟩) i c) i A := own_mk hG1 hbg hAl (by simp only [List.length_append]; omega) (by omega) (by rw [maxLen_eq] at hcm; omega)
  rw [show ((i : Int) - 0).toNat = i from by omega, show ((c : Int) - 0).toNat = c from by omega, show ((len : Int) - ((i + 1 : Nat) : Int)).toNat = len - 1 - i from by omega, show ((c : Int) - ((i + 1 : Nat) : Int)).toNat = c - (i + 1) from by omega]
  refine apSp (sz := 32) (n := i) (m := len - 1 - i) Tryz.underlying49 z28 c28 rfl (by decide) hO1 (by have := hE1.size; omega) hD2 hDl hD1 (by omega) (fun w2 hO2 hg2 => ?_)
  refine told (fun _ => True) trivial trivial ?_
  have hln : i + (len - 1 - i) = len - 1 := by omega
  rw [hln] at hO2
  rw [hln]
  have hE2 := below_of_grown hO1 (by have := hE1.size; omega) hg2
  obtain ⟨_, ⟨h0, h0'⟩ | ⟨g', cap', cur', h0, hbg', hg', hnc', hcm', hcs', hct'⟩⟩ := hO2
  · cases h0
  cases h0
  obtain ⟨rest', hrest'⟩ : ∃ rest', cur'.toList = (A ++ D) ++ rest' := ⟨cur'.toList.drop ((len - 1) * 32), by
    have := List.take_append_drop ((len - 1) * 32) cur'.toList
    rw [hct'] at this
    exact this.symm⟩
  have hrl' : rest'.length = (c - (len - 1)) * 32 := by
    have := congrArg List.length hrest'
    simp only [List.length_append, Array.length_toList, hcs'] at this
    omega
  obtain ⟨r1, r2, rfl, hr1⟩ : ∃ r1 r2, rest' = r1 ++ r2 ∧ r1.length = 32 := ⟨rest'.take 32, rest'.drop 32, (List.take_append_drop _ _).symm, by rw [List.length_take]; omega⟩
  have hG2 : Blk w2 g 28 ((A ++ D) ++ (r1 ++ r2)) := ⟨by rw [← hrest']; simpa using hg'⟩
  rw [List.length_append] at hrl'
  simp only [↓VD, VP, VT, isAggD, reduceCtorEq, Int.reduceEq, Int.reduceNe, Int.reduceLT, Int.reduceLE, implies_true, Nat.reduceEqDiff, reduceIte, ite_true, ite_false, eq_self, Nat.reduceLT, Nat.reduceLeDiff, Nat.reduceAdd, Nat.reduceMul, Nat.reduceSub, intOf]
  refine ⟨by omega, by omega, by omega, fun a5 ha5 => ?_⟩
  obtain ⟨o5, rfl, ho5⟩ := ha5 g 0 rfl
  obtain rfl : o5 = (len - 1) * 32 := by have := ho5 (by omega); simpa using this
  rw [show ((len : Int) - ((len - 1 : Nat) : Int)).toNat = 1 from by omega]
  refine clS (sz := 32) (T := 28) Tryz.underlying49 z28 rfl (by decide) (by decide +kernel) hG2 (by decide +kernel) (by simp only [List.length_append]; omega) (fun w3 hP3 => ?_)
  generalize hze : (Builtin.zeroCells _ 1).toList = zs at hP3
  have hzl : zs.length = 32 := by rw [← hze]; decide +kernel
  rw [splice_at (by rw [List.length_append]; omega) (by rw [hr1, hzl])] at hP3
  simp only [↓VD, VP, VT, isAggD, reduceCtorEq, Int.reduceEq, Int.reduceNe, Int.reduceLT, Int.reduceLE, implies_true, Nat.reduceEqDiff, reduceIte, ite_true, ite_false, eq_self, Nat.reduceLT, Nat.reduceLeDiff, Nat.reduceAdd, Nat.reduceMul, Nat.reduceSub, intOf]
  have hne : ∀ k : Nat, (Value.slice (some ⟨g, 0, none⟩) len c).ownBlock ≠ some k → k ≠ g := fun k hk e => hk (by simp [Value.ownBlock, e])
  refine ⟨rfl, own_mk (sz := 32) (n := len - 1) (cap := c) hP3.blk hbg (by rw [List.length_append]; omega) (by rw [List.length_append]; omega) (by omega) (by rw [maxLen_eq] at hcm; omega), (hE1.mono hbase).trans (hE2.trans (hP3.below (by omega))), fun k T l hk hBk => ?_⟩
  have h1 := hBk.ext hE1
  exact hP3.keep ⟨by rw [hg2.block k h1.lt (fun h => hne k hk (by simpa using h))]; exact h1.out⟩ (hne k hk)
end Go.Proofs.YtebbgninkbghlaaGreatDoor

/-! Cut -/
namespace Go.Proofs.YtebbgninkbghlaaGreatDoor
set_option maxRecDepth 100000
open Go Go.RowKit
set_option linter.unusedVariables false
set_option linter.unusedSimpArgs false
attribute [local irreducible] vcT opsT qT vcOp Q1 vcPure vcLoad vcStore ldC ldN ldD grdT grdQ vc vcOps vcQ hT
attribute [local irreducible] sumR sumP shaP keyD bucketP branchP

/-- The digests of a branch without that of the digit c. -/
def cutK (bm c : Nat) (ks : List (List UInt8)) : List (List UInt8) := if hasB bm (c : Int) = true then ks.eraseIdx (rankB bm (c : Int)) else ks
/-- A way down without the digests of the way of K. -/
def cutS (K : List UInt8) : Nat → List (Nat × List (List UInt8)) → List (Nat × List (List UInt8))
  | _, [] => []
  | i, s :: r => (s.1, cutK s.1 (digP K i) s.2) :: cutS K (i + 1) r
theorem cutS_len (K : List UInt8) : ∀ (i : Nat) (L : List (Nat × List (List UInt8))), (cutS K i L).length = L.length
  | _, [] => rfl
  | i, s :: r => by simp [cutS, cutS_len K (i + 1) r]
theorem cutS_snoc (K : List UInt8) : ∀ (i : Nat) (L : List (Nat × List (List UInt8))) (x : Nat × List (List UInt8)), cutS K i (L ++ [x]) = cutS K i L ++ [(x.1, cutK x.1 (digP K (i + L.length)) x.2)]
  | i, [], x => rfl
  | i, s :: r, x => by
    show (s.1, cutK s.1 (digP K i) s.2) :: cutS K (i + 1) (r ++ [x]) = _
    rw [cutS_snoc K (i + 1) r x, show i + 1 + r.length = i + (s :: r).length from by simp; omega]
    rfl
theorem cutS_get (K : List UInt8) : ∀ (i j : Nat) (L : List (Nat × List (List UInt8))), (cutS K i L)[j]? = (L[j]?).map fun s => (s.1, cutK s.1 (digP K (i + j)) s.2)
  | i, j, [] => by simp [cutS]
  | i, 0, s :: r => rfl
  | i, j + 1, s :: r => by
    show (cutS K (i + 1) r)[j]? = _
    rw [cutS_get K (i + 1) j r, show i + 1 + j = i + (j + 1) from by omega]
    rfl
theorem cutK_mem {bm c : Nat} {ks : List (List UInt8)} : ∀ x ∈ cutK bm c ks, x ∈ ks := by
  intro x hx
  unfold cutK at hx
  split at hx
  · exact List.mem_of_mem_eraseIdx hx
  · exact hx
theorem cutK_has {bm c : Nat} {ks : List (List UInt8)} (h : hasB bm (c : Int) = true) (hl : rankB bm (c : Int) < ks.length) : cutK bm c ks = ks.take (rankB bm (c : Int)) ++ ks.drop (rankB bm (c : Int) + 1) := by
  rw [cutK, if_pos h, List.eraseIdx_eq_take_drop_succ]
theorem cutK_not {bm c : Nat} {ks : List (List UInt8)} (h : ¬ (hasB bm (c : Int) = true ∧ rankB bm (c : Int) < ks.length)) : cutK bm c ks = ks := by
  unfold cutK
  split
  · rename_i hh
    exact List.eraseIdx_of_length_le (Nat.le_of_not_lt fun e => h ⟨hh, e⟩)
  · rfl

/-! ### Blocks -/
theorem RunK.only_lt {w w' : World} {hi : Nat} {x : Value} (k : OnlyBy x w w') : ∀ {l : List SR} {lo : Nat}, (∀ g, x.ownBlock = some g → g < lo) → RunK w hi lo l → RunK w' hi lo l
  | [], lo, _, h => h
  | t :: r, lo, hx, h => by
    obtain ⟨mid, h1, h2, h3⟩ := h
    refine ⟨mid, h1, ⟨h2.1, h2.2.1, h2.2.2.1.only (fun g hg e => ?_) k, h2.2.2.2⟩, RunK.only_lt k (fun g hg => Nat.lt_of_lt_of_le (hx g hg) h1) h3⟩
    have := hx g e
    have := h2.2.2.1.lo g hg
    omega
/-- One list of digests, written in its own block. -/
theorem RunK.set {w w' : World} {hi : Nat} {t t' : SR} {r : List SR} (k : OnlyBy t.kv w w') (hb : t'.bm < 65536) (hd : ∀ d ∈ t'.ks, d.length = 32) (ho : t'.kv.ownBlock = t.kv.ownBlock) : ∀ {l : List SR} {lo : Nat}, lo ≤ hi →
    (∀ b, Own w b 28 32 t.kv t.ks.length (t.ks.flatMap vbs) → Own w' b 28 32 t'.kv t'.ks.length (t'.ks.flatMap vbs)) → RunK w hi lo (l ++ t :: r) → RunK w' hi lo (l ++ t' :: r)
  | [], lo, _, hO, h => by
    obtain ⟨mid, h1, h2, h3⟩ := h
    exact ⟨mid, h1, ⟨hb, hd, hO _ h2.2.2.1, fun g hg => h2.2.2.2 g (by rw [← ho]; exact hg)⟩, RunK.only_lt k h2.2.2.2 h3⟩
  | s :: l, lo, hh, hO, h => by
    obtain ⟨mid, h1, h2, h3⟩ := h
    refine ⟨mid, h1, ⟨h2.1, h2.2.1, h2.2.2.1.only (fun g hg e => ?_) k, h2.2.2.2⟩, RunK.set k hb hd ho h3.le hO h3⟩
    have a1 := h2.2.2.2 g hg
    have a2 := (RunK.mem h3 t (by simp)).2.2
    have := a2.lo g e
    omega
theorem RunK.put {w w' : World} {hi b T U : Nat} {L m : List Value} (k : Blk w b T L) (hT : T ≠ 28) (p : Put w w' b U m) : ∀ {l : List SR} {lo : Nat}, RunK w hi lo l → RunK w' hi lo l
  | [], lo, h => h
  | t :: r, lo, h => by obtain ⟨mid, h1, h2, h3⟩ := h; exact ⟨mid, h1, ⟨h2.1, h2.2.1, h2.2.2.1.put k hT p, h2.2.2.2⟩, RunK.put k hT p h3⟩
theorem RunB.onlyT {w w' : World} {hi b2 e2 s2 n2 : Nat} {x : Value} {ys : List Value} (h2 : Own w b2 e2 s2 x n2 ys) (hne : 5 ≠ e2) (k : OnlyBy x w w') : ∀ {l : List (Value × List UInt8)} {lo : Nat}, RunB w hi lo l → RunB w' hi lo l
  | [], lo, h => h
  | t :: r, lo, h => by obtain ⟨mid, h1, h3, h4⟩ := h; exact ⟨mid, h1, ⟨h3.1.onlyT h2 hne k, h3.2⟩, RunB.onlyT h2 hne k h4⟩
end Go.Proofs.YtebbgninkbghlaaGreatDoor

/-! Itp -/
namespace Go.Proofs.YtebbgninkbghlaaGreatDoor
set_option maxRecDepth 100000
open Go Go.RowKit
set_option linter.unusedVariables false
set_option linter.unusedSimpArgs false

theorem cmpIt_irr (a : It) : ¬ cmpIt a a < 0 := by have := (cmpIt_eq a a).2 ⟨rfl, rfl⟩; omega
theorem sorted_ext : ∀ {a b : List It}, SortedI a → SortedI b → (∀ y, y ∈ a ↔ y ∈ b) → a = b
  | [], [], _, _, _ => rfl
  | [], y :: b, _, _, h => by have := (h y).2 (by simp); cases this
  | x :: a, [], _, _, h => by have := (h x).1 (by simp); cases this
  | x :: a, y :: b, ha, hb, h => by
    have ha' := List.pairwise_cons.1 ha
    have hb' := List.pairwise_cons.1 hb
    have e : x = y := by
      rcases List.mem_cons.1 ((h x).1 (by simp)) with e | hx
      · exact e
      · rcases List.mem_cons.1 ((h y).2 (by simp)) with e | hy
        · exact e.symm
        · exact absurd (cmpIt_trans (ha'.1 y hy) (hb'.1 x hx)) (cmpIt_irr x)
    subst e
    congr 1
    refine sorted_ext ha'.2 hb'.2 fun z => ?_
    have hz := h z
    simp only [List.mem_cons] at hz
    constructor
    · intro hza
      rcases hz.1 (Or.inr hza) with e | h'
      · subst e; exact absurd (ha'.1 z hza) (cmpIt_irr z)
      · exact h'
    · intro hzb
      rcases hz.2 (Or.inr hzb) with e | h'
      · subst e; exact absurd (hb'.1 z hzb) (cmpIt_irr z)
      · exact h'
theorem find_ex (key : List UInt8) : ∀ {ps : List PR}, (ps.Pairwise fun a b => Lib.compareBytes a.k b.k < 0) → ∃ i ok, FindP ps key i ok
  | [], _ => ⟨0, false, Nat.le_refl _, fun j p h => by simp at h, fun j p h => by simp at h, by simp⟩
  | p :: r, h => by
    have h' := List.pairwise_cons.1 h
    by_cases hp : Lib.compareBytes p.k key < 0
    · obtain ⟨i, ok, hF⟩ := find_ex key h'.2
      refine ⟨i + 1, ok, by simp; exact hF.le, fun j q hq hj => ?_, fun j q hq hj => ?_, by simpa using hF.hit⟩
      · cases j with
        | zero => obtain rfl : p = q := by simpa using hq
                  exact hp
        | succ j => exact hF.low j q (by simpa using hq) (by omega)
      · cases j with
        | zero => omega
        | succ j => exact hF.high j q (by simpa using hq) (by omega)
    · refine ⟨0, decide (p.k = key), Nat.zero_le _, fun j q hq hj => by omega, fun j q hq _ => ?_, by simp⟩
      cases j with
      | zero => obtain rfl : p = q := by simpa using hq
                omega
      | succ j =>
        have hq' : r[j]? = some q := by simpa using hq
        have h1 := h'.1 q (List.mem_of_getElem? hq')
        refine Int.not_lt.1 fun h2 => hp ?_
        exact cmpB_trans _ _ _ h1 h2
theorem FindP.uniq {ps : List PR} {key : List UInt8} {i j : Nat} {a b : Bool} (h : FindP ps key i a) (g : FindP ps key j b) : i = j ∧ a = b := by
  have e : i = j := by
    rcases Nat.lt_trichotomy i j with hlt | he | hgt
    · have hp := List.getElem?_eq_getElem (l := ps) (i := i) (by have := g.le; omega)
      have h1 := g.low i _ hp hlt
      have h2 := h.high i _ hp (Nat.le_refl _)
      omega
    · exact he
    · have hp := List.getElem?_eq_getElem (l := ps) (i := j) (by have := h.le; omega)
      have h1 := h.low j _ hp hgt
      have h2 := g.high j _ hp (Nat.le_refl _)
      omega
  subst e
  refine ⟨rfl, ?_⟩
  have h1 := h.hit.trans g.hit.symm
  cases a <;> cases b
  · rfl
  · exact absurd (h1.2 rfl) (by decide)
  · exact absurd (h1.1 rfl) (by decide)
  · rfl
theorem headD_mem {m : List It} (h : singleB m = true) {y : It} (hy : y ∈ m) : headD m = y.D := by
  cases m with
  | nil => cases hy
  | cons x m => exact singleB_iff.1 h x (by simp) y hy
theorem flat_set {m : List It} {d : Nat} (hs : SortedI m) (hp : Pre d m) (hd : d < 64) : (setB (bmI m d)).flatMap (childI m d) = m := by
  rw [setB_bm]
  refine Eq.trans ?_ (child_flat hs hp hd)
  have h : ∀ l : List Nat, (l.filter (hasI m d)).flatMap (childI m d) = l.flatMap (childI m d) := by
    intro l
    induction l with
    | nil => rfl
    | cons c l ih =>
      cases hc : hasI m d c
      · have e : childI m d c = [] := by unfold hasI at hc; simpa using hc
        rw [List.filter_cons_of_neg (by simp [hc]), List.flatMap_cons, e, List.nil_append, ih]
      · rw [List.filter_cons_of_pos hc, List.flatMap_cons, List.flatMap_cons, ih]
  exact h _
end Go.Proofs.YtebbgninkbghlaaGreatDoor

/-! Hmf -/
namespace Go.Proofs.YtebbgninkbghlaaGreatDoor
set_option maxRecDepth 100000
open Go Go.RowKit
set_option linter.unusedVariables false
set_option linter.unusedSimpArgs false
attribute [local irreducible] vcT opsT qT vcOp Q1 vcPure vcLoad vcStore ldC ldN ldD grdT grdQ vc vcOps vcQ hT
attribute [local irreducible] sumR sumP shaP keyD bucketP branchP

theorem made_rep (sz : Nat) (v : Value) (n : Nat) (h : 0 < sz) : (madeCells (List.replicate sz v).toArray n).toList = List.replicate n v := by
  apply List.ext_getElem?
  intro i
  simp only [madeCells, Array.toList_map, Array.toList_range, List.getElem?_map, List.size_toArray, List.length_replicate]
  by_cases hi : i < n
  · have h2 : i % sz < sz := Nat.mod_lt _ h
    rw [List.getElem?_replicate_of_lt hi, List.getElem?_range hi]
    simp [h2]
  · rw [List.getElem?_eq_none (by simpa using hi), List.getElem?_eq_none (by simpa using hi)]
    rfl
/-- make([]T, n), of elements of several like cells. -/
theorem mkZ {P : Program} {T e sz : Nat} {v0 : Value} {w : World} {kl kc : IntKind} {n : Nat} {K : Value → World → Prop} (hu : P.underlying T = some (.slice e)) (hz : zeroOf P e = some (.agg (List.replicate sz v0).toArray)) (hc : P.cellsOf e = sz) (h0 : 0 < sz)
    (hb : P.bytesOf e * n ≤ 281474976710656) (h63 : n ≤ 9223372036854775807) (hK : ∀ w', NewB w w' e (List.replicate (n * sz) v0) → K (.slice (some ⟨w.heap.size, 0, none⟩) n n) w') : RawMake P T (.int kl n) (.int kc n) w K := by
  obtain ⟨i, hi, hiz⟩ := Option.bind_eq_some_iff.1 hz
  have e1 : i.size = sz := by rw [← hc]; exact (cells_of hi).symm
  have e2 : i.bytes = P.bytesOf e := by simp [Program.bytesOf, hi]
  have hr := run_make (P := P) w T e i _ hu hi hiz kl kc n n (by omega) (by omega) (by rw [e2]; have : ((P.bytesOf e * n : Nat) : Int) ≤ 281474976710656 := by omega
                                                                                       rwa [Int.natCast_mul] at this) (by omega)
  refine ⟨⟨_, _, hr, ?_⟩⟩
  have hm := made_rep sz v0 (n * i.size) h0
  simp only [Int.toNat_natCast]
  refine hK _ ?_
  have h := NewB.alloc w e (madeCells (List.replicate sz v0).toArray (n * i.size)).toList
  rw [Array.toArray_toList] at h
  subst e1
  have h' : NewB w (w.alloc (.cells (madeCells (List.replicate i.size v0).toArray (n * i.size)) e)) e (List.replicate (n * i.size) v0) := by rw [← hm]; exact h
  exact h'
theorem blt_branch (parts : List (Nat × Value)) : Tryz.prog.built 150 parts = Instr.fill (#[(0, 1), (1, 1), (2, 32), (34, 1)][·]?) ([.int .u16 0, .slice none 0 0] ++ (List.replicate 32 (.int .u8 0) ++ [.int .i64 0]) : List Value).toArray parts := by kernel_rfl
theorem bld_branch (bm : Nat) (d : List UInt8) (hd : d.length = 32) (a : Option Addr) (k c : Nat) (x : Int) {K : Value → Prop} (hK : K (.agg (.int .u16 bm :: .slice a k c :: (vbs d ++ [.int .i64 x]) : List Value).toArray)) :
    bldV Tryz.prog 150 [(0, .int .u16 bm), (1, .slice a k c), (2, .agg (vbs d).toArray), (3, .int .i64 x)] K := by
  refine bldP _ (blt_branch _) ?_ hK
  have hdl : (vbs d).length = 32 := by rw [vbs_len]; exact hd
  have e1 := fill_step (place := (#[(0, 1), (1, 1), (2, 32), (34, 1)][·]?)) (i := 0) (v := .int .u16 bm) (rest := [(1, .slice a k c), (2, .agg (vbs d).toArray), (3, .int .i64 x)]) (pre := []) (mid := [.int .u16 0]) (post := .slice none 0 0 :: (List.replicate 32 (.int .u8 0) ++ [.int .i64 0])) (vs := [.int .u16 bm]) rfl rfl rfl
  have e2 := fill_step (place := (#[(0, 1), (1, 1), (2, 32), (34, 1)][·]?)) (i := 1) (v := .slice a k c) (rest := [(2, .agg (vbs d).toArray), (3, .int .i64 x)]) (pre := [.int .u16 bm]) (mid := [.slice none 0 0]) (post := List.replicate 32 (.int .u8 0) ++ [.int .i64 0]) (vs := [.slice a k c]) rfl rfl rfl
  have e3 := fill_step (place := (#[(0, 1), (1, 1), (2, 32), (34, 1)][·]?)) (i := 2) (v := .agg (vbs d).toArray) (rest := [(3, .int .i64 x)]) (pre := [.int .u16 bm, .slice a k c]) (mid := List.replicate 32 (.int .u8 0)) (post := [.int .i64 0]) (vs := vbs d) rfl rfl (by rw [hdl]; rfl)
  have e4 := fill_step (place := (#[(0, 1), (1, 1), (2, 32), (34, 1)][·]?)) (i := 3) (v := .int .i64 x) (rest := []) (pre := [.int .u16 bm, .slice a k c] ++ vbs d) (mid := [.int .i64 0]) (post := []) (vs := [.int .i64 x]) (by rw [List.length_append, hdl]; rfl) rfl rfl
  simp only [List.nil_append, List.append_assoc, List.cons_append, List.append_nil] at e1 e2 e3 e4 ⊢
  rw [e1, e2, e3, e4]
  rfl
theorem fork_ok (n : Int) (hw : widB n = true) (S : Nat → Prop) (f d b : Nat) (top : Value) (kv : Value) (vs : List Value) (M : List It) (w : World) (hW : WordsAt w 1) (hB : Blk w b 142 [.int .i64 n, top])
    (hkv : SlC w kv vs.length vs) (h1 : ∀ x ∈ vs, oneCellV x = true) (hvl : vs.length = cntB (bmI M d)) (hkids : ∀ c, hasI M d c = true → ∃ x, vs[rankB (bmI M d) (c : Int)]? = some x ∧ NodeAt n S w f (d + 1) (childI M d c) x)
    (hs : SortedI M) (hp : Pre d M) (hd : d < 64) (hml : M.length ≤ 1000000000) :
    CallK Tryz.prog 147 [.pointer (some ⟨b, 0, none⟩), .int .u16 (bmI M d : Nat), kv].toArray w fun v w' => ∃ g, v = .pointer (some ⟨g, 0, none⟩) ∧ w.heap.size ≤ g ∧
      Blk w' g 150 (.int .u16 (bmI M d : Nat) :: kv :: (vbs (brD n (bmI M d) (kidsI n f d M)) ++ [.int .i64 M.length])) ∧ Ext w w' := by
  have hbm := bmI_lt M d
  have hbl := hB.lt
  have hc16 := cnt_le (bmI M d)
  obtain ⟨ka, kc, rfl⟩ := slv_of hkv
  have hkl := kidsI_len n f d M
  have hk32 := kidsI_32 n f d M
  have hrow : 0 < vs.length → ∃ b o, ka = some ⟨b, o, none⟩ ∧ RowA w b o 1 (fun v : Value => [v]) vs := fun h0 => vs_get (S := fun _ => True) (SlS.of_sl hkv) h0
  refine enterT Tryz.func147 rfl Tryz.ntmps147 Tryz.results147 rfl (by decide) ?_
  repeat (first | exact trivial | refine stp ?_ | refine ldCg ?_ | refine ldNg ?_ | refine ldSg ?_ | refine ldSb ?_ | refine bnd ?_ | refine bnd1 ?_ | refine drawQ (by decide +kernel) mixed (by decide +kernel) ?_)
  refine mkZ (sz := 32) Tryz.underlying49 z28 c28 (by decide) (by rw [by28]; omega) (by omega) (fun w1 hN1 => ?_)
  have hE1 := hN1.ext
  have hz1 := hN1.size
  have hB1 := hN1.blk
  repeat (first | exact trivial | refine stp ?_ | refine ldCg ?_ | refine ldNg ?_ | refine ldSg ?_ | refine ldSb ?_ | refine bnd ?_ | refine bnd1 ?_ | refine drawQ (by decide +kernel) mixed (by decide +kernel) ?_)
  refine loopX (ι := Nat) (fun j => [(0, .pointer (some ⟨b, 0, none⟩)), (1, .int .u16 (bmI M d : Nat)), (2, .slice ka vs.length kc), (7, .slice (some ⟨w.heap.size, 0, none⟩) vs.length vs.length), (8, .int .i64 (((setB (bmI M d)).take j).flatMap (childI M d)).length), (16, .slice ka vs.length kc), (17, .int .i64 vs.length), (18, .int .i64 j)])
    (fun j W => Ext w W ∧ w1.heap.size ≤ W.heap.size ∧ j ≤ vs.length ∧ Blk W w.heap.size 28 (((kidsI n f d M).take j).flatMap vbs ++ List.replicate ((vs.length - j) * 32) (.int .u8 0))) (fun j => vs.length - j) 0 ⟨.go, Nat.le_refl _, Nat.zero_le _, by simpa using hB1⟩ ?_ ?_
  · repeat (first | exact trivial | refine stp ?_ | refine ldCg ?_ | refine ldNg ?_ | refine ldSg ?_ | refine ldSb ?_ | refine bnd ?_ | refine bnd1 ?_ | refine drawQ (by decide +kernel) mixed (by decide +kernel) ?_)
    rfl
  · rintro j s2 w2 ⟨hE2, hz2, hj, hB2⟩
    repeat (first | exact trivial | refine stp ?_ | refine ldCg ?_ | refine ldNg ?_ | refine ldSg ?_ | refine ldSb ?_ | refine bnd ?_ | refine bnd1 ?_ | refine drawQ (by decide +kernel) mixed (by decide +kernel) ?_)
    refine ⟨fun hltj => ?_, fun hgej => ?_⟩
    · obtain ⟨cj, hcj⟩ : ∃ cj, (setB (bmI M d))[j]? = some cj := ⟨_, List.getElem?_eq_getElem (by unfold cntB at hvl; omega)⟩
      have hmem := mem_setB.1 (List.mem_of_getElem? hcj)
      rw [bmI_bit] at hmem
      have hhj : hasI M d cj = true := (Bool.and_eq_true_iff.1 hmem.2).2
      obtain ⟨x, hx, hNx⟩ := hkids cj hhj
      rw [rank_of hcj] at hx
      obtain ⟨b7, o7, rfl, hR7⟩ := hrow (by omega)
      have hdj : (kidsI n f d M)[j]? = some (nodeD n f (d + 1) (childI M d cj)) := by unfold kidsI; rw [List.getElem?_map, hcj]; rfl
      have hdl := nodeD_len n f (d + 1) (childI M d cj)
      have htk : (kidsI n f d M).take (j + 1) = (kidsI n f d M).take j ++ [nodeD n f (d + 1) (childI M d cj)] := by
        obtain ⟨hil, he⟩ := List.getElem?_eq_some_iff.1 hdj
        rw [List.take_succ_eq_append_getElem hil, he]
      have hck : (((setB (bmI M d)).take (j + 1)).flatMap (childI M d)).length = (((setB (bmI M d)).take j).flatMap (childI M d)).length + (childI M d cj).length := by
        obtain ⟨hil, he⟩ := List.getElem?_eq_some_iff.1 hcj
        rw [List.take_succ_eq_append_getElem hil, he, List.flatMap_append, List.length_append]
        simp
      have htkl : (((kidsI n f d M).take j).flatMap vbs).length = j * 32 := by rw [dvs_len _ (fun y hy => hk32 y (List.mem_of_mem_take hy)), List.length_take]; congr 1; omega
      have hne := child_ne hhj
      have hln : ∀ y ∈ childI M d cj, y.D.length = 32 := fun y hy => hp.1 y (mem_child.1 hy).1
      have hsub : (((setB (bmI M d)).take (j + 1)).flatMap (childI M d)).length ≤ M.length := by
        have h2 := flat_set hs hp hd
        have h3 := congrArg List.length (congrArg (List.flatMap (childI M d)) (List.take_append_drop (j + 1) (setB (bmI M d))))
        rw [List.flatMap_append, List.length_append, h2] at h3
        omega
      repeat (first | exact trivial | refine stp ?_ | refine ldCg ?_ | refine ldNg ?_ | refine ldSg ?_ | refine ldSb ?_ | refine bnd ?_ | refine bnd1 ?_ | refine drawQ (by decide +kernel) mixed (by decide +kernel) ?_)
      refine ldRowF (f := fun v : Value => [v]) 0 hx ?_
      repeat (first | exact trivial | refine stp ?_ | refine ldCg ?_ | refine ldNg ?_ | refine ldSg ?_ | refine ldSb ?_ | refine bnd ?_ | refine bnd1 ?_ | refine drawQ (by decide +kernel) mixed (by decide +kernel) ?_)
      refine (node_sum (hNx.ext .go) hne hln).mono ?_
      rintro _ w3 ⟨rfl, hE3⟩
      have hz3 := hE3.size
      repeat (first | exact trivial | refine stp ?_ | refine ldCg ?_ | refine ldNg ?_ | refine ldSg ?_ | refine ldSb ?_ | refine bnd ?_ | refine bnd1 ?_ | refine drawQ (by decide +kernel) mixed (by decide +kernel) ?_)
      have hrep : List.replicate ((vs.length - j) * 32) (Value.int .u8 0) = List.replicate 32 (.int .u8 0) ++ List.replicate ((vs.length - (j + 1)) * 32) (.int .u8 0) := by
        rw [List.replicate_append_replicate]
        congr 1
        omega
      rw [hrep] at hB2
      refine stSeg (hB2.ext hE3) htkl rfl (by rw [c28]; decide) (by rw [c28, vbs_len, hdl]) (by rw [vbs_len, hdl]; simp) (vbs_one _) (fun w4 hP4 => ?_)
      have hz4 := hP4.size
      have hB4 := hP4.blk
      rw [← List.append_assoc, show ((kidsI n f d M).take j).flatMap vbs ++ vbs (nodeD n f (d + 1) (childI M d cj)) = ((kidsI n f d M).take (j + 1)).flatMap vbs from by rw [htk]; simp] at hB4
      repeat (first | exact trivial | refine stp ?_ | refine ldCg ?_ | refine ldNg ?_ | refine ldSg ?_ | refine ldSb ?_ | refine bnd ?_ | refine bnd1 ?_ | refine drawQ (by decide +kernel) mixed (by decide +kernel) ?_)
      refine (node_count (hNx.ext .go) hne hln).mono ?_
      rintro _ w5 ⟨rfl, hE5⟩
      have hz5 := hE5.size
      repeat (first | exact trivial | refine stp ?_ | refine ldCg ?_ | refine ldNg ?_ | refine ldSg ?_ | refine ldSb ?_ | refine bnd ?_ | refine bnd1 ?_ | refine drawQ (by decide +kernel) mixed (by decide +kernel) ?_)
      exact ⟨j + 1, ⟨.go, by omega, by omega, hB4.ext hE5⟩, ⟨by rw [w64 (by omega) (by omega), hck]; omega, by rw [w64 (by omega) (by omega)]; rfl⟩, by omega⟩
    · obtain rfl : j = vs.length := by omega
      have e1 : (setB (bmI M d)).take vs.length = setB (bmI M d) := List.take_of_length_le (by rw [hvl]; exact Nat.le_refl _)
      have e2 : (kidsI n f d M).take vs.length = kidsI n f d M := List.take_of_length_le (by omega)
      rw [e1, flat_set hs hp hd]
      rw [e2, Nat.sub_self, Nat.zero_mul, List.replicate_zero, List.append_nil] at hB2
      repeat (first | exact trivial | refine stp ?_ | refine ldCg ?_ | refine ldNg ?_ | refine ldSg ?_ | refine ldSb ?_ | refine bnd ?_ | refine bnd1 ?_ | refine drawQ (by decide +kernel) mixed (by decide +kernel) ?_)
      have hDg : DigsAt w2 (.slice (some ⟨w.heap.size, 0, none⟩) vs.length vs.length) (kidsI n f d M) := ⟨hk32, by rw [hkl, ← hvl]; exact SlC.of_blk hB2 (by omega)⟩
      refine (Branch_ok n (bmI M d) hbm _ (kidsI n f d M) w2 (hW.ext .go) hDg (by omega)).mono ?_
      rintro _ w3 ⟨rfl, hE3⟩
      have hz3 := hE3.size
      have hbd : (if brE n (bmI M d) (kidsI n f d M) = 0 then sumR n (branchP n.toNat (bmI M d) (kidsI n f d M)) else List.replicate 32 0) = brD n (bmI M d) (kidsI n f d M) := rfl
      rw [hbd]
      have hbl2 := brD_len n (bmI M d) (kidsI n f d M)
      repeat (first | exact trivial | refine stp ?_ | refine ldCg ?_ | refine ldNg ?_ | refine ldSg ?_ | refine ldSb ?_ | refine bnd ?_ | refine bnd1 ?_ | refine drawQ (by decide +kernel) mixed (by decide +kernel) ?_)
      first | refine newS ?_ | refine newZ ?_
      intro w4 hE4 hz4 hB4
      repeat (first | exact trivial | refine stp ?_ | refine ldCg ?_ | refine ldNg ?_ | refine ldSg ?_ | refine ldSb ?_ | refine bnd ?_ | refine bnd1 ?_ | refine drawQ (by decide +kernel) mixed (by decide +kernel) ?_)
      refine bld_branch (bmI M d) _ hbl2 _ _ _ _ ?_
      repeat (first | exact trivial | refine stp ?_ | refine ldCg ?_ | refine ldNg ?_ | refine ldSg ?_ | refine ldSb ?_ | refine bnd ?_ | refine bnd1 ?_ | refine drawQ (by decide +kernel) mixed (by decide +kernel) ?_)
      first | refine newS ?_ | refine newZ ?_
      intro w5 hE5 hz5 hB5
      repeat (first | exact trivial | refine stp ?_ | refine ldCg ?_ | refine ldNg ?_ | refine ldSg ?_ | refine ldSb ?_ | refine bnd ?_ | refine bnd1 ?_ | refine drawQ (by decide +kernel) mixed (by decide +kernel) ?_)
      exact ⟨w4.heap.size, rfl, by omega, hB5, .go⟩
end Go.Proofs.YtebbgninkbghlaaGreatDoor

/-! Hmg -/
namespace Go.Proofs.YtebbgninkbghlaaGreatDoor
set_option maxRecDepth 100000
open Go Go.RowKit
set_option linter.unusedVariables false
set_option linter.unusedSimpArgs false
attribute [local irreducible] vcT opsT qT vcOp Q1 vcPure vcLoad vcStore ldC ldN ldD grdT grdQ vc vcOps vcQ hT
attribute [local irreducible] sumR sumP shaP keyD bucketP branchP

theorem NodeAt.mk_br {n : Int} {S : Nat → Prop} {w : World} {f d : Nat} {M : List It} (hs : singleB M = false) {g : Nat} {kv : Value} {vs : List Value} (hS : S g) (hB : Blk w g 150 (.int .u16 (bmI M d : Nat) :: kv :: (vbs (brD n (bmI M d) (kidsI n f d M)) ++ [.int .i64 M.length])))
    (hk : SlS S w kv vs.length vs) (h1 : ∀ x ∈ vs, oneCellV x = true) (hl : vs.length = cntB (bmI M d)) (hkids : ∀ c, hasI M d c = true → ∃ x, vs[rankB (bmI M d) (c : Int)]? = some x ∧ NodeAt n S w f (d + 1) (childI M d c) x) : NodeAt n S w (f + 1) d M (brV g) := by
  rw [NodeAt.br hs]
  exact ⟨g, kv, vs, rfl, ⟨hS, by rw [nodeD_br n f d hs]; exact hB, hk, h1, hl⟩, hkids⟩
theorem setB_zero : setB 0 = [] := by unfold setB; rw [List.filter_eq_nil_iff]; intro c _; simp
theorem cnt_zero : cntB 0 = 0 := by unfold cntB; rw [setB_zero]; rfl
theorem rank_zero (c : Nat) : rankB 0 (c : Int) = 0 := by rw [rank_nat, setB_zero]; rfl
theorem has_with {bm c0 : Nat} (hc : c0 < 16) (c : Nat) : hasB (withB bm (c0 : Int)) (c : Int) = (hasB bm (c : Int) || decide (c = c0)) := by
  rw [hasN, hasN]
  by_cases hcl : c < 16
  · rw [decide_eq_true hcl, Bool.true_and, Bool.true_and]
    have h := set_with (bm := bm) hc c
    rw [mem_setB, mem_setB] at h
    cases h1 : (withB bm (c0 : Int)).testBit c <;> cases h2 : bm.testBit c <;> simp_all
  · have : ¬ c = c0 := by omega
    rw [decide_eq_false hcl]
    simp [this]
theorem has_zero (c : Nat) : hasB 0 (c : Int) = false := by rw [hasN]; simp
theorem bm_ext {M : List It} {d b : Nat} (hb : b < 65536) (h : ∀ c : Nat, c < 16 → (hasB b (c : Int) = hasI M d c)) : b = bmI M d := by
  refine bit_ext hb (bmI_lt _ _) fun c hc => ?_
  have := h c hc
  rw [hasN, decide_eq_true hc, Bool.true_and] at this
  rw [this, bmI_bit, decide_eq_true hc, Bool.true_and]
/-- The two buckets' items, once their digits differ. -/
theorem child_part {M ma mb : List It} {d i j : Nat} (hM : SortedI M) (ha : SortedI ma) (hmem : ∀ y, y ∈ M ↔ y ∈ ma ∨ y ∈ mb) (hia : ∀ y ∈ ma, digP y.D d = i) (hjb : ∀ y ∈ mb, digP y.D d = j) (hne : i ≠ j) : childI M d i = ma := by
  refine sorted_ext (childI_sorted hM) ha fun y => ?_
  rw [mem_child, hmem]
  constructor
  · rintro ⟨h | h, hd⟩
    · exact h
    · exact absurd ((hjb y h).symm.trans hd) (Ne.symm hne)
  · intro h
    exact ⟨Or.inl h, hia y h⟩
theorem join_ok (n : Int) (hw : widB n = true) (S : Nat → Prop) (b : Nat) (top : Value) : ∀ (f d : Nat) (ma mb M : List It) (ba bb : Nat) (pva pvb : Value) (psa psb : List PR) (w : World), WordsAt w 1 → Blk w b 142 [.int .i64 n, top] →
    BkIn n S w ma ba pva psa → BkIn n S w mb bb pvb psb → ma ≠ [] → mb ≠ [] → singleB ma = true → singleB mb = true → SortedI ma → SortedI mb → OkI n M → (∀ y, y ∈ M ↔ y ∈ ma ∨ y ∈ mb) → headD ma ≠ headD mb → Pre d M → d + f = 64 → M.length ≤ 1000000000 →
    CallK Tryz.prog 141 [.pointer (some ⟨b, 0, none⟩), .int .i64 d, .pointer (some ⟨ba, 0, none⟩), .pointer (some ⟨bb, 0, none⟩)].toArray w fun v w' => NodeAt n (fun k => S k ∨ w.heap.size ≤ k) w' f d M v ∧ Ext w w' := by
  have hwn := (widB_iff n).1 hw
  obtain ⟨nn, rfl⟩ : ∃ nn : Nat, n = nn := ⟨n.toNat, by omega⟩
  intro f
  induction f with
  | zero =>
    intro d ma mb M ba bb pva pvb psa psb w hW hB hA hBb hna hnb hsa hsb hoa hob hOM hmem hne hP hdf hml
    exfalso
    obtain ⟨ya, hya⟩ := List.exists_mem_of_ne_nil _ hna
    obtain ⟨yb, hyb⟩ := List.exists_mem_of_ne_nil _ hnb
    have hsM : singleB M = false := by
      cases h : singleB M
      · rfl
      · exact absurd (by rw [headD_mem hsa hya, headD_mem hsb hyb]; exact singleB_iff.1 h ya ((hmem ya).2 (Or.inl hya)) yb ((hmem yb).2 (Or.inr hyb))) hne
    have := br_depth hsM hP (hOM.form hw)
    omega
  | succ f ih =>
    intro d ma mb M ba bb pva pvb psa psb w hW hB hA hBb hna hnb hsa hsb hoa hob hOM hmem hne hP hdf hml
    obtain ⟨ya, hya⟩ := List.exists_mem_of_ne_nil _ hna
    obtain ⟨yb, hyb⟩ := List.exists_mem_of_ne_nil _ hnb
    have hDa := headD_mem hsa hya
    have hDb := headD_mem hsb hyb
    have hsM : singleB M = false := by
      cases h : singleB M
      · rfl
      · exact absurd (by rw [hDa, hDb]; exact singleB_iff.1 h ya ((hmem ya).2 (Or.inl hya)) yb ((hmem yb).2 (Or.inr hyb))) hne
    have hdn := br_depth hsM hP (hOM.form hw)
    have hla : (headD ma).length = 32 := by rw [hDa]; exact hP.1 ya ((hmem ya).2 (Or.inl hya))
    have hlb : (headD mb).length = 32 := by rw [hDb]; exact hP.1 yb ((hmem yb).2 (Or.inr hyb))
    have hfa : formB nn (headD ma) = true := by rw [hDa]; exact hOM.form hw ya ((hmem ya).2 (Or.inl hya))
    have hfb : formB nn (headD mb) = true := by rw [hDb]; exact hOM.form hw yb ((hmem yb).2 (Or.inr hyb))
    have hata := atP_dig (by omega) (by omega) hla hfa hdn
    have hatb := atP_dig (by omega) (by omega) hlb hfb hdn
    have hia : ∀ y ∈ ma, digP y.D d = digP (headD ma) d := fun y hy => by rw [headD_mem hsa hy]
    have hjb : ∀ y ∈ mb, digP y.D d = digP (headD mb) d := fun y hy => by rw [headD_mem hsb hy]
    have hi16 := digP_lt (headD ma) d
    have hj16 := digP_lt (headD mb) d
    have hhas : ∀ c, hasI M d c = (decide (c = digP (headD ma) d) || decide (c = digP (headD mb) d)) := by
      intro c
      rw [Bool.eq_iff_iff, has_iff]
      constructor
      · rintro ⟨y, hy, rfl⟩
        rcases (hmem y).1 hy with h | h
        · simp [hia y h]
        · simp [hjb y h]
      · intro h
        rcases Bool.or_eq_true_iff.1 h with h | h
        · exact ⟨ya, (hmem ya).2 (Or.inl hya), by rw [hia ya hya]; exact (of_decide_eq_true h).symm⟩
        · exact ⟨yb, (hmem yb).2 (Or.inr hyb), by rw [hjb yb hyb]; exact (of_decide_eq_true h).symm⟩
    have hw1 : withB 0 (digP (headD ma) d : Int) < 65536 := withB_lt (by decide) _
    have hw2 : withB (withB 0 (digP (headD ma) d : Int)) (digP (headD mb) d : Int) < 65536 := withB_lt hw1 _
    have hbm : withB (withB 0 (digP (headD ma) d : Int)) (digP (headD mb) d : Int) = bmI M d := by
      refine bm_ext hw2 fun c hc => ?_
      rw [has_with hj16, has_with hi16, has_zero, hhas]
      rfl
    have hBa := hA.blk
    have hBbb := hBb.blk
    have hbl := hB.lt
    generalize hgi : digP (headD ma) d = i at *
    generalize hgj : digP (headD mb) d = j at *
    have hal := hBa.lt
    have hbbl := hBbb.lt
    refine enterT Tryz.func141 rfl Tryz.ntmps141 Tryz.results141 rfl (by decide) ?_
    repeat (first | exact trivial | refine stp ?_ | refine ldCg ?_ | refine ldNg ?_ | refine ldSg ?_ | refine ldSb ?_ | refine bnd ?_ | refine bnd1 ?_ | refine drawQ (by decide +kernel) mixed (by decide +kernel) ?_)
    refine ldNg (m := vbs (headD ma)) (hm := by rw [List.drop_zero, List.take_append_of_le_length (by rw [vbs_len]; omega), vbs_tk hla]) ?_
    repeat (first | exact trivial | refine stp ?_ | refine ldCg ?_ | refine ldNg ?_ | refine ldSg ?_ | refine ldSb ?_ | refine bnd ?_ | refine bnd1 ?_ | refine drawQ (by decide +kernel) mixed (by decide +kernel) ?_)
    refine qcall _ (fun w' hw' => digit_hamt_ok nn b top (headD ma) hla d w' .go) ?_
    rw [hata]
    repeat (first | exact trivial | refine stp ?_ | refine ldCg ?_ | refine ldNg ?_ | refine ldSg ?_ | refine ldSb ?_ | refine bnd ?_ | refine bnd1 ?_ | refine drawQ (by decide +kernel) mixed (by decide +kernel) ?_)
    refine ldNg (m := vbs (headD mb)) (hm := by rw [List.drop_zero, List.take_append_of_le_length (by rw [vbs_len]; omega), vbs_tk hlb]) ?_
    repeat (first | exact trivial | refine stp ?_ | refine ldCg ?_ | refine ldNg ?_ | refine ldSg ?_ | refine ldSb ?_ | refine bnd ?_ | refine bnd1 ?_ | refine drawQ (by decide +kernel) mixed (by decide +kernel) ?_)
    refine qcall _ (fun w' hw' => digit_hamt_ok nn b top (headD mb) hlb d w' .go) ?_
    rw [hatb]
    repeat (first | exact trivial | refine stp ?_ | refine ldCg ?_ | refine ldNg ?_ | refine ldSg ?_ | refine ldSb ?_ | refine bnd ?_ | refine bnd1 ?_ | refine drawQ (by decide +kernel) mixed (by decide +kernel) ?_)
    intro w1 hE1
    have hz1 := hE1.size
    repeat (first | exact trivial | refine stp ?_ | refine ldCg ?_ | refine ldNg ?_ | refine ldSg ?_ | refine ldSb ?_ | refine bnd ?_ | refine bnd1 ?_ | refine drawQ (by decide +kernel) mixed (by decide +kernel) ?_)
    refine (With_ok 0 (by decide) i w1).mono ?_
    rintro _ w2 ⟨rfl, hE2⟩
    have hz2 := hE2.size
    repeat (first | exact trivial | refine stp ?_ | refine ldCg ?_ | refine ldNg ?_ | refine ldSg ?_ | refine ldSb ?_ | refine bnd ?_ | refine bnd1 ?_ | refine drawQ (by decide +kernel) mixed (by decide +kernel) ?_)
    refine (With_ok _ hw1 j w2).mono ?_
    rintro _ w3 ⟨rfl, hE3⟩
    have hz3 := hE3.size
    rw [hbm]
    repeat (first | exact trivial | refine stp ?_ | refine ldCg ?_ | refine ldNg ?_ | refine ldSg ?_ | refine ldSb ?_ | refine bnd ?_ | refine bnd1 ?_ | refine drawQ (by decide +kernel) mixed (by decide +kernel) ?_)
    have hAA := (hA.keep (KeepS.of_ext (Ext.go (a := w) (b := w3))))
    have hBB := (hBb.keep (KeepS.of_ext (Ext.go (a := w) (b := w3))))
    have hfin : ∀ {W : World} {g : Nat} {kv : Value} {vs : List Value}, w3.heap.size ≤ g → Blk W g 150 (.int .u16 (bmI M d : Nat) :: kv :: (vbs (brD nn (bmI M d) (kidsI nn f d M)) ++ [.int .i64 M.length])) → SlS (fun k => S k ∨ w.heap.size ≤ k) W kv vs.length vs → (∀ x ∈ vs, oneCellV x = true) →
        vs.length = cntB (bmI M d) → (∀ c, hasI M d c = true → ∃ x, vs[rankB (bmI M d) (c : Int)]? = some x ∧ NodeAt nn (fun k => S k ∨ w.heap.size ≤ k) W f (d + 1) (childI M d c) x) → NodeAt nn (fun k => S k ∨ w.heap.size ≤ k) W (f + 1) d M (brV g) := fun hg hBg hk h1 hl hkids => NodeAt.mk_br hsM (Or.inr (by omega)) hBg hk h1 hl hkids
    by_cases hij : i = j
    · subst hij
      have hcM : childI M d i = M := by
        refine List.filter_eq_self.2 fun y hy => ?_
        rcases (hmem y).1 hy with h | h
        · simpa using hia y h
        · simpa using hjb y h
      have hbm0 := withB_same hw1 (show hasB (withB 0 (i : Int)) (i : Int) = true by rw [has_with hi16]; simp)
      have hrk : rankB (bmI M d) (i : Int) = 0 := by rw [← hbm, hbm0, rank_with hi16 (has_zero i), rank_zero, if_neg (by omega)]
      have hcnt : cntB (bmI M d) = 1 := by rw [← hbm, hbm0, cnt_with hi16 (has_zero i), cnt_zero]
      refine ⟨fun h => by omega, fun _ => ⟨fun h => by omega, fun _ => ?_⟩⟩
      repeat (first | exact trivial | refine stp ?_ | refine ldCg ?_ | refine ldNg ?_ | refine ldSg ?_ | refine ldSb ?_ | refine bnd ?_ | refine bnd1 ?_ | refine drawQ (by decide +kernel) mixed (by decide +kernel) ?_)
      rw [show IntKind.i64.wrap ((d : Int) + 1) = ((d + 1 : Nat) : Int) from by rw [w64 (by omega) (by omega)]; omega]
      refine (ih (d + 1) ma mb M ba bb pva pvb psa psb w3 (hW.ext .go) .go hAA hBB hna hnb hsa hsb hoa hob hOM hmem hne (by rw [← hcM]; exact hP.child i) (by omega) hml).mono ?_
      rintro x w4 ⟨hN4, hE4⟩
      have hz4 := hE4.size
      obtain ⟨tx, ux, rfl⟩ := hN4.iface
      repeat (first | exact trivial | refine stp ?_ | refine ldCg ?_ | refine ldNg ?_ | refine ldSg ?_ | refine ldSb ?_ | refine bnd ?_ | refine bnd1 ?_ | refine drawQ (by decide +kernel) mixed (by decide +kernel) ?_)
      refine ⟨rfl, rfl, ?_⟩
      first | refine newS ?_ | refine newZ ?_
      intro w5 hE5 hz5 hB5
      have hB5' : Blk w5 w4.heap.size 140 [.iface tx ux] := hB5
      have hN5 := (hN4.ext hE5).mono (S' := fun k => S k ∨ w.heap.size ≤ k) (fun k hk => hk.imp id (fun h => by omega))
      have hk5 : ∀ c, hasI M d c = true → ∃ x, ([.iface tx ux] : List Value)[rankB (bmI M d) (c : Int)]? = some x ∧ NodeAt nn (fun k => S k ∨ w.heap.size ≤ k) w5 f (d + 1) (childI M d c) x := by
        intro c hc
        rw [hhas] at hc
        obtain rfl : c = i := by rcases Bool.or_eq_true_iff.1 hc with h | h <;> exact of_decide_eq_true h
        exact ⟨_, by rw [hrk]; rfl, by rw [hcM]; exact hN5⟩
      have h15 : ∀ x ∈ ([.iface tx ux] : List Value), oneCellV x = true := by simp [oneCellV]
      refine (fork_ok nn hw _ f d b top _ [.iface tx ux] M w5 (hW.ext .go) .go (SlC.of_blk hB5' (show (1 : Nat) ≤ 9223372036854775807 by decide)) h15 (by rw [hcnt]; rfl) hk5 hOM.sorted hP (by omega) hml).mono ?_
      rintro _ w6 ⟨g, rfl, hg, hB6, hE6⟩
      repeat (first | exact trivial | refine stp ?_ | refine ldCg ?_ | refine ldNg ?_ | refine ldSg ?_ | refine ldSb ?_ | refine bnd ?_ | refine bnd1 ?_ | refine drawQ (by decide +kernel) mixed (by decide +kernel) ?_)
      exact ⟨hfin (by omega) hB6 (SlS.of_blk (hB5'.ext hE6) (Or.inr (by omega)) (by simp)) h15 (by rw [hcnt]; rfl) (fun c hc => by obtain ⟨x, h1, h2⟩ := hk5 c hc; exact ⟨x, h1, h2.ext hE6⟩), .go⟩
    have hn1 : hasB (withB 0 (i : Int)) (j : Int) = false := by rw [has_with hi16, has_zero]; simp; omega
    have hrk : ∀ c : Nat, rankB (bmI M d) (c : Int) = (if i < c then 1 else 0) + (if j < c then 1 else 0) := fun c => by rw [← hbm, rank_with hj16 hn1, rank_with hi16 (has_zero i), rank_zero, Nat.zero_add]
    have hcnt : cntB (bmI M d) = 2 := by rw [← hbm, cnt_with hj16 hn1, cnt_with hi16 (has_zero i), cnt_zero]
    have hci : childI M d i = ma := child_part hOM.sorted hoa hmem hia hjb hij
    have hcj : childI M d j = mb := child_part hOM.sorted hob (fun y => by rw [hmem]; exact Or.comm) hjb hia (Ne.symm hij)
    refine ⟨fun hlt => ?_, fun hge => ⟨fun hgt => ?_, fun h => by omega⟩⟩
    · refine ⟨rfl, ⟨rfl, rfl⟩, ?_⟩
      first | refine newS ?_ | refine newZ ?_
      intro w4 hE4 hz4 hB4
      have hB4' : Blk w4 w3.heap.size 140 [bkV ba, bkV bb] := hB4
      have hk4 : ∀ c, hasI M d c = true → ∃ x, ([bkV ba, bkV bb] : List Value)[rankB (bmI M d) (c : Int)]? = some x ∧ NodeAt nn S w4 f (d + 1) (childI M d c) x := by
        intro c hc
        rw [hhas] at hc
        rcases Bool.or_eq_true_iff.1 hc with h | h
        · obtain rfl : c = i := of_decide_eq_true h
          refine ⟨bkV ba, by rw [hrk c]; simp [show ¬ j < c from by omega], ?_⟩
          rw [hci]
          exact (NodeAt.bk hsa).2 ⟨ba, pva, psa, rfl, hAA.keep (KeepS.of_ext hE4)⟩
        · obtain rfl : c = j := of_decide_eq_true h
          refine ⟨bkV bb, by rw [hrk c]; simp [show i < c from by omega], ?_⟩
          rw [hcj]
          exact (NodeAt.bk hsb).2 ⟨bb, pvb, psb, rfl, hBB.keep (KeepS.of_ext hE4)⟩
      have h14 : ∀ x ∈ ([bkV ba, bkV bb] : List Value), oneCellV x = true := by simp [oneCellV]
      refine (fork_ok nn hw S f d b top _ [bkV ba, bkV bb] M w4 (hW.ext .go) .go (SlC.of_blk hB4' (show (2 : Nat) ≤ 9223372036854775807 by decide)) h14 (by rw [hcnt]; rfl) hk4 hOM.sorted hP (by omega) hml).mono ?_
      rintro _ w5 ⟨g, rfl, hg, hB5, hE5⟩
      repeat (first | exact trivial | refine stp ?_ | refine ldCg ?_ | refine ldNg ?_ | refine ldSg ?_ | refine ldSb ?_ | refine bnd ?_ | refine bnd1 ?_ | refine drawQ (by decide +kernel) mixed (by decide +kernel) ?_)
      exact ⟨hfin (by omega) hB5 (SlS.of_blk (hB4'.ext hE5) (Or.inr (by omega)) (by simp)) h14 (by rw [hcnt]; rfl) (fun c hc => by obtain ⟨x, h1, h2⟩ := hk4 c hc; exact ⟨x, h1, (h2.ext hE5).mono (fun k hk => Or.inl hk)⟩), .go⟩
    · repeat (first | exact trivial | refine stp ?_ | refine ldCg ?_ | refine ldNg ?_ | refine ldSg ?_ | refine ldSb ?_ | refine bnd ?_ | refine bnd1 ?_ | refine drawQ (by decide +kernel) mixed (by decide +kernel) ?_)
      refine ⟨rfl, ⟨rfl, rfl⟩, ?_⟩
      first | refine newS ?_ | refine newZ ?_
      intro w4 hE4 hz4 hB4
      have hB4' : Blk w4 w3.heap.size 140 [bkV bb, bkV ba] := hB4
      have hk4 : ∀ c, hasI M d c = true → ∃ x, ([bkV bb, bkV ba] : List Value)[rankB (bmI M d) (c : Int)]? = some x ∧ NodeAt nn S w4 f (d + 1) (childI M d c) x := by
        intro c hc
        rw [hhas] at hc
        rcases Bool.or_eq_true_iff.1 hc with h | h
        · obtain rfl : c = i := of_decide_eq_true h
          refine ⟨bkV ba, by rw [hrk c]; simp [show j < c from by omega], ?_⟩
          rw [hci]
          exact (NodeAt.bk hsa).2 ⟨ba, pva, psa, rfl, hAA.keep (KeepS.of_ext hE4)⟩
        · obtain rfl : c = j := of_decide_eq_true h
          refine ⟨bkV bb, by rw [hrk c]; simp [show ¬ i < c from by omega], ?_⟩
          rw [hcj]
          exact (NodeAt.bk hsb).2 ⟨bb, pvb, psb, rfl, hBB.keep (KeepS.of_ext hE4)⟩
      have h14 : ∀ x ∈ ([bkV bb, bkV ba] : List Value), oneCellV x = true := by simp [oneCellV]
      refine (fork_ok nn hw S f d b top _ [bkV bb, bkV ba] M w4 (hW.ext .go) .go (SlC.of_blk hB4' (show (2 : Nat) ≤ 9223372036854775807 by decide)) h14 (by rw [hcnt]; rfl) hk4 hOM.sorted hP (by omega) hml).mono ?_
      rintro _ w5 ⟨g, rfl, hg, hB5, hE5⟩
      repeat (first | exact trivial | refine stp ?_ | refine ldCg ?_ | refine ldNg ?_ | refine ldSg ?_ | refine ldSb ?_ | refine bnd ?_ | refine bnd1 ?_ | refine drawQ (by decide +kernel) mixed (by decide +kernel) ?_)
      exact ⟨hfin (by omega) hB5 (SlS.of_blk (hB4'.ext hE5) (Or.inr (by omega)) (by simp)) h14 (by rw [hcnt]; rfl) (fun c hc => by obtain ⟨x, h1, h2⟩ := hk4 c hc; exact ⟨x, h1, (h2.ext hE5).mono (fun k hk => Or.inl hk)⟩), .go⟩
end Go.Proofs.YtebbgninkbghlaaGreatDoor

/-! Itq -/
namespace Go.Proofs.YtebbgninkbghlaaGreatDoor
set_option maxRecDepth 100000
open Go Go.RowKit
set_option linter.unusedVariables false
set_option linter.unusedSimpArgs false

theorem filter_take {α : Type} (p : α → Bool) : ∀ (l : List α) (i : Nat), (∀ j a, l[j]? = some a → (p a = true ↔ j < i)) → l.filter p = l.take i
  | [], i, _ => by simp
  | a :: l, 0, h => by
    rw [List.take_zero]
    refine List.filter_eq_nil_iff.2 fun b hb => ?_
    obtain ⟨j, hj⟩ := List.getElem?_of_mem hb
    intro hp
    have := (h j b hj).1 hp
    omega
  | a :: l, i + 1, h => by
    have ha := (h 0 a rfl).2 (by omega)
    rw [List.filter_cons_of_pos ha, List.take_succ_cons, filter_take p l i (fun j b hb => by have := h (j + 1) b (by simpa using hb); rw [this]; omega)]
theorem filter_drop {α : Type} (p : α → Bool) : ∀ (l : List α) (i : Nat), (∀ j a, l[j]? = some a → (p a = true ↔ i ≤ j)) → l.filter p = l.drop i
  | [], i, _ => by simp
  | a :: l, 0, h => by
    rw [List.drop_zero]
    refine List.filter_eq_self.2 fun b hb => ?_
    obtain ⟨j, hj⟩ := List.getElem?_of_mem hb
    exact (h j b hj).2 (by omega)
  | a :: l, i + 1, h => by
    have ha : ¬ p a = true := fun hp => by have := (h 0 a rfl).1 hp; omega
    rw [List.filter_cons_of_neg ha, List.drop_succ_cons, filter_drop p l i (fun j b hb => by have := h (j + 1) b (by simpa using hb); rw [this]; omega)]
theorem cmp_same {y x : It} (h : y.D = x.D) : cmpIt y x = Lib.compareBytes y.k x.k := by unfold cmpIt; rw [h, if_pos (cmpB_self _)]
theorem it_at {m : List It} {ps : List PR} (hd : ps.map PR.dat = m.map It.pr) {j : Nat} {y : It} (h : m[j]? = some y) : ∃ p, ps[j]? = some p ∧ p.k = y.k ∧ p.v = y.v := by
  have h1 := congrArg (·[j]?) hd
  simp only [List.getElem?_map, h, Option.map_some] at h1
  cases hp : ps[j]? with
  | none => rw [hp] at h1; simp at h1
  | some p =>
    rw [hp] at h1
    simp only [Option.map_some, Option.some.injEq, PR.dat, It.pr, Prod.mk.injEq] at h1
    exact ⟨p, rfl, h1.1, h1.2⟩
/-- A bucket's items with one more. -/
theorem put_bucket {m : List It} {ps : List PR} {x : It} {i : Nat} {ok : Bool} (hd : ps.map PR.dat = m.map It.pr) (hD : ∀ y ∈ m, y.D = x.D) (hs : ps.Pairwise fun a b => Lib.compareBytes a.k b.k < 0) (hF : FindP ps x.k i ok) :
    putI m x = m.take i ++ x :: m.drop (if ok = true then i + 1 else i) := by
  unfold putI
  have hlow : ∀ j y, m[j]? = some y → (cmpIt y x < 0 ↔ j < i) := by
    intro j y hy
    obtain ⟨p, hp, hk, _⟩ := it_at hd hy
    rw [cmp_same (hD y (List.mem_of_getElem? hy)), ← hk]
    constructor
    · intro h
      refine Nat.lt_of_not_le fun hle => ?_
      have := hF.high j p hp hle
      omega
    · exact hF.low j p hp
  rw [filter_take (ltP x) m i (fun j y hy => by rw [← hlow j y hy]; simp [ltP])]
  congr 2
  refine filter_drop (gtP x) m _ fun j y hy => ?_
  obtain ⟨p, hp, hk, _⟩ := it_at hd hy
  have e : (gtP x y = true) ↔ 0 < Lib.compareBytes p.k x.k := by
    unfold gtP
    rw [decide_eq_true_eq, cmp_same (hD y (List.mem_of_getElem? hy)), ← hk]
  rw [e]
  have hpj := (List.getElem?_eq_some_iff.1 hp)
  obtain ⟨hjl, hje⟩ := hpj
  cases ok
  · rw [if_neg (by decide)]
    constructor
    · intro h
      refine Nat.le_of_not_lt fun hlt => ?_
      have := hF.low j p hp hlt
      omega
    · intro hle
      have h1 := hF.high j p hp hle
      refine Decidable.byContradiction fun hn => ?_
      have h0 : 0 = Lib.compareBytes p.k x.k := by omega
      have hpk : p.k = x.k := (cmpB_eq _ _).1 h0.symm
      by_cases hji : j = i
      · subst hji
        have := hF.hit.2 ⟨p, hp, hpk⟩
        cases this
      · have h2 := List.pairwise_iff_getElem.1 hs i j (by omega) hjl (by omega)
        have h3 := hF.high i _ (List.getElem?_eq_getElem (by omega)) (Nat.le_refl _)
        rw [hje, hpk] at h2
        omega
  · rw [if_pos rfl]
    obtain ⟨q, hq, hqk⟩ := hF.hit.1 rfl
    obtain ⟨hil, hie⟩ := List.getElem?_eq_some_iff.1 hq
    constructor
    · intro h
      refine Nat.lt_of_not_le fun hle => ?_
      by_cases hji : j = i
      · subst hji
        rw [hp] at hq
        cases hq
        rw [hqk, cmpB_self] at h
        omega
      · have := hF.low j p hp (by omega)
        omega
    · intro hlt
      have h2 := List.pairwise_iff_getElem.1 hs i j hil hjl hlt
      rw [hje, hie, hqk] at h2
      rw [cmpB_neg x.k p.k]
      omega
theorem OkI.put {n : Int} {m : List It} {x : It} (h : OkI n m) (hD : x.D = keyD n x.k) (hs : x.k.length ≤ 64 ∧ x.v.length ≤ 256) : OkI n (putI m x) :=
  ⟨putI_sorted h.sorted, fun y hy => by rcases mem_putI hy with rfl | hy; exact hD; exact h.dig y hy, fun y hy => by rcases mem_putI hy with rfl | hy; exact hs; exact h.short y hy⟩
theorem putI_len (m : List It) (x : It) : (putI m x).length ≤ m.length + 1 := by
  unfold putI
  rw [List.length_append, List.length_cons]
  have : (m.filter (ltP x)).length + (m.filter (gtP x)).length ≤ m.length := by
    induction m with
    | nil => simp
    | cons y m ih =>
      have h : ltP x y = true → gtP x y = false := by unfold ltP gtP; intro h; simp at h ⊢; omega
      cases h1 : ltP x y <;> cases h2 : gtP x y <;> simp [List.filter_cons, h1, h2] at * <;> omega
  omega
theorem pairsB_leI : ∀ (ps : List (List UInt8 × List UInt8)), (∀ p ∈ ps, p.1.length ≤ 64 ∧ p.2.length ≤ 256) → (pairsB ps).length ≤ ps.length * 340
  | [], _ => by simp [pairsB]
  | p :: ps, h => by
    have ih := pairsB_leI ps (fun q hq => h q (by simp [hq]))
    have h1 := h p (by simp)
    have u1 := uvarP_len10 (n := p.1.length) (by omega)
    have u2 := uvarP_len10 (n := p.2.length) (by omega)
    have e : pairsB (p :: ps) = (blobP p.1 ++ blobP p.2) ++ pairsB ps := by simp [pairsB]
    rw [e]
    simp only [List.length_append, blobP, List.length_cons]
    omega
theorem OkI.bucket_le {n : Int} {m : List It} {ps : List PR} (h : OkI n m) (hd : ps.map PR.dat = m.map It.pr) (hl : m.length ≤ 1000000000) : (bucketP (ps.map PR.dat)).length + 16 ≤ 140737488355328 := by
  rw [hd]
  have h1 := pairsB_leI (m.map It.pr) (fun q hq => by obtain ⟨y, hy, rfl⟩ := List.mem_map.1 hq; exact h.short y hy)
  rw [List.length_map] at h1
  have u1 := uvarP_len10 (n := m.length) (by omega)
  simp only [bucketP, List.length_cons, List.length_append, List.length_map]
  omega
theorem rank_mono {bm c c' : Nat} (h : c ≤ c') : rankB bm (c : Int) ≤ rankB bm (c' : Int) := by
  rw [rank_nat, rank_nat, ← List.countP_eq_length_filter, ← List.countP_eq_length_filter]
  exact List.countP_mono_left fun j _ hj => by simp at hj ⊢; omega
theorem rank_smono {bm c c' : Nat} (hc : hasB bm (c : Int) = true) (h : c < c') : rankB bm (c : Int) < rankB bm (c' : Int) := by
  rw [hasN, Bool.and_eq_true, decide_eq_true_eq] at hc
  have hm : c ∈ setB bm := mem_setB.2 hc
  have h1 := count_or (fun j => decide (j < c)) (fun j => decide (j = c)) (setB bm) (fun j _ => by simp; omega)
  have h2 : 0 < ((setB bm).filter fun j => decide (j = c)).length := List.length_pos_of_mem (List.mem_filter.2 ⟨hm, by simp⟩)
  have h3 : ((setB bm).filter fun j => decide (j < c) || decide (j = c)).length ≤ ((setB bm).filter fun j => decide (j < c')).length := by
    rw [← List.countP_eq_length_filter, ← List.countP_eq_length_filter]
    exact List.countP_mono_left fun j _ hj => by simp at hj ⊢; omega
  rw [rank_nat, rank_nat]
  omega
theorem single_put {m : List It} {x : It} (h : ∀ y ∈ m, y.D = x.D) : singleB (putI m x) = true ∧ headD (putI m x) = x.D := by
  have h1 : ∀ y ∈ putI m x, y.D = x.D := fun y hy => by rcases mem_putI hy with rfl | hy; rfl; exact h y hy
  have h2 : singleB (putI m x) = true := singleB_iff.2 fun y hy z hz => by rw [h1 y hy, h1 z hz]
  exact ⟨h2, headD_mem h2 (putI_mem_self m x)⟩
theorem single_put_not {m : List It} {x : It} (h : singleB m = false) : singleB (putI m x) = false := by
  cases hs : singleB (putI m x)
  · rfl
  · have := singleB_iff.1 hs
    rw [singleB_iff.2 (fun y hy z hz => by obtain ⟨y', h1, h2⟩ := putI_D (x := x) hy; obtain ⟨z', h3, h4⟩ := putI_D (x := x) hz; rw [← h2, ← h4]; exact this y' h1 z' h3)] at h
    cases h
theorem NodeAt.mk_bk {n : Int} {S : Nat → Prop} {W : World} {f d g : Nat} {M : List It} {D : List UInt8} {pv : Value} {ps : List PR} (hs : singleB M = true) (hS : S g) (hB : Blk W g 145 (vbs D ++ (pv :: vbs (sumR n (bucketP (ps.map PR.dat)))))) (hD : headD M = D) (hp : PairsS S W pv ps) (hd : ps.map PR.dat = M.map It.pr) : NodeAt n S W f d M (bkV g) :=
  (NodeAt.bk hs).2 ⟨g, pv, ps, rfl, ⟨hS, by rw [hD, bkD, ← hd]; exact hB, hp, hd⟩⟩
/-- The children, one of them put anew. -/
theorem kids_set {m : List It} {x : It} {d : Nat} {vs : List Value} {v : Value} {P : List It → Value → Prop} (hm : SortedI m) (hh : hasI m d (digP x.D d) = true) (hk : ∀ c, hasI m d c = true → ∃ y, vs[rankB (bmI m d) (c : Int)]? = some y ∧ P (childI m d c) y) (hv : P (putI (childI m d (digP x.D d)) x) v) :
    bmI (putI m x) d = bmI m d ∧ ∀ c, hasI (putI m x) d c = true → ∃ y, (vs.set (rankB (bmI m d) (digP x.D d : Int)) v)[rankB (bmI (putI m x) d) (c : Int)]? = some y ∧ P (childI (putI m x) d c) y := by
  have hb : hasB (bmI m d) (digP x.D d : Int) = true := by rw [bmI_has, hh, decide_eq_true (digP_lt x.D d)]; rfl
  have e : bmI (putI m x) d = bmI m d := by rw [← with_put hm, withB_same (bmI_lt _ _) hb]
  refine ⟨e, fun c hc => ?_⟩
  rw [e]
  by_cases hcx : digP x.D d = c
  · subst hcx
    obtain ⟨y, hy, _⟩ := hk _ hh
    have := (List.getElem?_eq_some_iff.1 hy).1
    refine ⟨v, by rw [List.getElem?_set_self this], ?_⟩
    rw [child_put_same rfl]
    exact hv
  · rw [has_put hm, decide_eq_false hcx, Bool.or_false] at hc
    obtain ⟨y, hy, hP⟩ := hk c hc
    have hbc : hasB (bmI m d) (c : Int) = true := by rw [bmI_has, hc, decide_eq_true (has_lt hc)]; rfl
    refine ⟨y, ?_, by rw [child_put_other hm hcx]; exact hP⟩
    rw [List.getElem?_set_ne (fun h => hcx (rank_inj hb hbc h))]
    exact hy
theorem kids_ins {m : List It} {x : It} {d : Nat} {vs : List Value} {v : Value} {P : List It → Value → Prop} (hm : SortedI m) (hh : hasI m d (digP x.D d) = false) (hl : vs.length = cntB (bmI m d)) (hk : ∀ c, hasI m d c = true → ∃ y, vs[rankB (bmI m d) (c : Int)]? = some y ∧ P (childI m d c) y) (hv : P [x] v) :
    cntB (bmI (putI m x) d) = cntB (bmI m d) + 1 ∧ ∀ c, hasI (putI m x) d c = true → ∃ y, (vs.take (rankB (bmI m d) (digP x.D d : Int)) ++ v :: vs.drop (rankB (bmI m d) (digP x.D d : Int)))[rankB (bmI (putI m x) d) (c : Int)]? = some y ∧ P (childI (putI m x) d c) y := by
  have hd16 := digP_lt x.D d
  have hb : hasB (bmI m d) (digP x.D d : Int) = false := by rw [bmI_has, hh, decide_eq_true hd16]; rfl
  have hle := rank_le (bmI m d) (digP x.D d : Int)
  have htl : (vs.take (rankB (bmI m d) (digP x.D d : Int))).length = rankB (bmI m d) (digP x.D d : Int) := by rw [List.length_take]; omega
  refine ⟨by rw [← with_put hm, cnt_with hd16 hb], fun c hc => ?_⟩
  rw [← with_put hm, rank_with hd16 hb]
  by_cases hcx : digP x.D d = c
  · subst hcx
    refine ⟨v, ?_, ?_⟩
    · rw [if_neg (by omega), Nat.add_zero, List.getElem?_append_right (by omega), htl, Nat.sub_self]
      rfl
    · rw [child_put_same rfl]
      have e : childI m d (digP x.D d) = [] := by unfold hasI at hh; simpa using hh
      rw [e]
      exact hv
  · rw [has_put hm, decide_eq_false hcx, Bool.or_false] at hc
    obtain ⟨y, hy, hP⟩ := hk c hc
    have hbc : hasB (bmI m d) (c : Int) = true := by rw [bmI_has, hc, decide_eq_true (has_lt hc)]; rfl
    refine ⟨y, ?_, by rw [child_put_other hm hcx]; exact hP⟩
    rcases Nat.lt_or_gt_of_ne hcx with hlt | hgt
    · have := rank_mono (bm := bmI m d) (Nat.le_of_lt hlt)
      rw [if_pos hlt, List.getElem?_append_right (by omega), htl, show rankB (bmI m d) (c : Int) + 1 - rankB (bmI m d) (digP x.D d : Int) = (rankB (bmI m d) (c : Int) - rankB (bmI m d) (digP x.D d : Int)) + 1 from by omega, List.getElem?_cons_succ, List.getElem?_drop, show rankB (bmI m d) (digP x.D d : Int) + (rankB (bmI m d) (c : Int) - rankB (bmI m d) (digP x.D d : Int)) = rankB (bmI m d) (c : Int) from by omega]
      exact hy
    · have := rank_smono hbc hgt
      rw [if_neg (by omega), Nat.add_zero, List.getElem?_append_left (by omega), List.getElem?_take_of_lt this]
      exact hy
/-! ### What lies in memory lies in blocks that there are -/
def SLt (S : Nat → Prop) (w : World) : Nat → Prop := fun b => S b ∧ b < w.heap.size
theorem SlS.lt {S : Nat → Prop} {w : World} {v : Value} {n : Nat} {cells : List Value} (h : SlS S w v n cells) : SlS (SLt S w) w v n cells := by
  obtain ⟨a, c, rfl, hn, hm, h⟩ := h
  refine ⟨a, c, rfl, hn, hm, ?_⟩
  cases cells with
  | nil => exact Or.inl rfl
  | cons x l =>
    rcases h with h | ⟨b, o, rfl, hS, h⟩
    · cases h
    · exact Or.inr ⟨b, o, rfl, ⟨hS, block_lt_of_cell (h 0 x rfl)⟩, h⟩
theorem PairsS.lt {S : Nat → Prop} {w : World} {v : Value} {ps : List PR} (h : PairsS S w v ps) : PairsS (SLt S w) w v ps := ⟨h.1.lt, fun p hp => ⟨(h.2 p hp).1.lt, (h.2 p hp).2.lt⟩⟩
theorem BkIn.inlt {n : Int} {S : Nat → Prop} {w : World} {m : List It} {b : Nat} {pv : Value} {ps : List PR} (h : BkIn n S w m b pv ps) : BkIn n (SLt S w) w m b pv ps := ⟨⟨h.own, h.blk.lt⟩, h.blk, h.prs.lt, h.dat⟩
theorem NodeAt.inlt {n : Int} {S : Nat → Prop} {w : World} : ∀ {f d : Nat} {m : List It} {v : Value}, NodeAt n S w f d m v → NodeAt n (SLt S w) w f d m v
  | 0, d, m, v, h => by
    unfold NodeAt at h ⊢
    obtain ⟨hs, b, pv, ps, e, hb⟩ := h
    exact ⟨hs, b, pv, ps, e, hb.inlt⟩
  | f + 1, d, m, v, h => by
    cases hs : singleB m
    · rw [NodeAt.br hs] at h ⊢
      obtain ⟨b, kv, vs, e, hb, hk⟩ := h
      exact ⟨b, kv, vs, e, ⟨⟨hb.own, hb.blk.lt⟩, hb.blk, hb.kids.lt, hb.one, hb.len⟩, fun c hc => by obtain ⟨x, h1, h2⟩ := hk c hc; exact ⟨x, h1, NodeAt.inlt h2⟩⟩
    · rw [NodeAt.bk hs] at h ⊢
      obtain ⟨b, pv, ps, e, hb⟩ := h
      exact ⟨b, pv, ps, e, hb.inlt⟩
theorem MapAt.inlt {n : Int} {S : Nat → Prop} {w : World} {mv : Value} {m : List It} (h : MapAt n S w mv m) : MapAt n (SLt S w) w mv m := by
  obtain ⟨b, top, e, hS, hB, h1, h2⟩ := h
  exact ⟨b, top, e, ⟨hS, hB.lt⟩, hB, h1, fun hm => (h2 hm).inlt⟩
theorem KeepS.put {S : Nat → Prop} {w w' : World} {g : Nat} {T : TypeId} {l : List Value} (h : Put w w' g T l) (hg : ¬ S g) : KeepS S w w' := fun b hb _ => h.other b (fun e => hg (e ▸ hb))
end Go.Proofs.YtebbgninkbghlaaGreatDoor

/-! Its -/
namespace Go.Proofs.YtebbgninkbghlaaGreatDoor
set_option maxRecDepth 100000
open Go Go.RowKit
set_option linter.unusedVariables false
set_option linter.unusedSimpArgs false

theorem OkI.nil (n : Int) : OkI n [] := ⟨by unfold SortedI; simp, by simp, by simp⟩
theorem hasB_of {m : List It} {d c : Nat} (h : hasI m d c = true) : hasB (bmI m d) (c : Int) = true := by rw [bmI_has, h, decide_eq_true (has_lt h)]; rfl
end Go.Proofs.YtebbgninkbghlaaGreatDoor

/-! Wlk -/
namespace Go.Proofs.YtebbgninkbghlaaGreatDoor
set_option maxRecDepth 100000
open Go Go.RowKit
set_option linter.unusedVariables false
set_option linter.unusedSimpArgs false

/-- The items that are left i digits further down the way of K. -/
def wmI (K : List UInt8) : Nat → Nat → List It → List It
  | 0, _, m => m
  | i + 1, d, m => wmI K i (d + 1) (childI m d (digP K d))
theorem wmI_step (K : List UInt8) : ∀ (i d : Nat) (m : List It), wmI K (i + 1) d m = childI (wmI K i d m) (d + i) (digP K (d + i))
  | 0, d, m => rfl
  | i + 1, d, m => by
    rw [wmI, wmI_step K i (d + 1), wmI, show d + 1 + i = d + (i + 1) from by omega]
theorem wmI_ok {n : Int} (K : List UInt8) : ∀ (i d : Nat) {m : List It}, OkI n m → Pre d m → OkI n (wmI K i d m) ∧ Pre (d + i) (wmI K i d m)
  | 0, d, m, h, hp => ⟨h, hp⟩
  | i + 1, d, m, h, hp => by
    have := wmI_ok K i (d + 1) (h.child d (digP K d)) (hp.child (digP K d))
    rw [show d + 1 + i = d + (i + 1) from by omega] at this
    exact this
theorem wmI_sub (K : List UInt8) : ∀ (i d : Nat) {m : List It} {y : It}, y ∈ wmI K i d m ↔ y ∈ m ∧ ∀ j, j < i → digP y.D (d + j) = digP K (d + j)
  | 0, d, m, y => ⟨fun h => ⟨h, fun j hj => by omega⟩, fun h => h.1⟩
  | i + 1, d, m, y => by
    rw [wmI, wmI_sub K i (d + 1), mem_child]
    constructor
    · rintro ⟨⟨h1, h2⟩, h3⟩
      refine ⟨h1, fun j hj => ?_⟩
      cases j with
      | zero => exact h2
      | succ j => have := h3 j (by omega); rwa [show d + 1 + j = d + (j + 1) from by omega] at this
    · rintro ⟨h1, h2⟩
      refine ⟨⟨h1, h2 0 (by omega)⟩, fun j hj => ?_⟩
      have := h2 (j + 1) (by omega)
      rwa [show d + (j + 1) = d + 1 + j from by omega] at this
theorem walk_spec {n : Int} (hw : widB n = true) (K : List UInt8) : ∀ (f d : Nat) (m : List It), OkI n m → Pre d m → d + f = 64 →
    (∀ i, i < (walkI n K f d m).1.length → (walkI n K f d m).1[i]? = some (bmI (wmI K i d m) (d + i), kidsI n (f - 1 - i) (d + i) (wmI K i d m)) ∧ singleB (wmI K i d m) = false) ∧
    (walkI n K f d m).2 = wmI K (walkI n K f d m).1.length d m ∧ singleB (wmI K (walkI n K f d m).1.length d m) = true := by
  have hwn := (widB_iff n).1 hw
  obtain ⟨nn, rfl⟩ : ∃ nn : Nat, n = nn := ⟨n.toNat, by omega⟩
  intro f
  induction f with
  | zero =>
    intro d m hO hP hdf
    have hs : singleB m = true := by
      cases hs : singleB m
      · have := br_depth hs hP (hO.form hw); omega
      · rfl
    rw [walkI_single _ _ _ _ hs]
    exact ⟨fun i hi => by simp at hi, rfl, hs⟩
  | succ f ih =>
    intro d m hO hP hdf
    cases hs : singleB m
    · obtain ⟨h1, h2, h3⟩ := ih (d + 1) (childI m d (digP K d)) (hO.child _ _) (hP.child _) (by omega)
      rw [walkI, if_neg (by simp [hs])]
      split
      · refine ⟨fun i hi => ?_, ?_, ?_⟩
        · cases i with
          | zero => exact ⟨rfl, hs⟩
          | succ i =>
            have h4 := h1 i (by simpa using hi)
            rw [show d + 1 + i = d + (i + 1) from by omega, show f - 1 - i = f + 1 - 1 - (i + 1) from by omega] at h4
            exact ⟨by rw [List.getElem?_cons_succ]; exact h4.1, h4.2⟩
        · exact h2
        · exact h3
      · rename_i hn
        have he : childI m d (digP K d) = [] := by unfold hasI at hn; simpa using hn
        refine ⟨fun i hi => ?_, ?_, ?_⟩
        · obtain rfl : i = 0 := by simp at hi; exact hi
          exact ⟨rfl, hs⟩
        · exact he.symm
        · show singleB (childI m d (digP K d)) = true
          rw [he]
          rfl
    · rw [walkI_single _ _ _ _ hs]
      exact ⟨fun i hi => by simp at hi, rfl, hs⟩
/-- Of a walk's last branch no single child is the bucket at its end. -/
theorem kids_one {n : Int} {f d : Nat} {m : List It} (hs : singleB m = false) (h1 : (kidsI n f d m).length = 1) (K : List UInt8) (hne : childI m d (digP K d) ≠ []) : singleB (childI m d (digP K d)) = false := by
  rw [kidsI_len] at h1
  have hall : ∀ y ∈ m, digP y.D d = digP K d := by
    intro y hy
    obtain ⟨z, hz⟩ := List.exists_mem_of_ne_nil _ hne
    have hz' := mem_child.1 hz
    have ha : hasB (bmI m d) (digP y.D d : Int) = true := by rw [bmI_has, has_iff.2 ⟨y, hy, rfl⟩, decide_eq_true (digP_lt _ _)]; rfl
    have hb : hasB (bmI m d) (digP K d : Int) = true := by rw [bmI_has, has_iff.2 ⟨z, hz'.1, hz'.2⟩, decide_eq_true (digP_lt _ _)]; rfl
    have h2 := rank_lt ha
    have h3 := rank_lt hb
    exact rank_inj ha hb (by omega)
  have e : childI m d (digP K d) = m := List.filter_eq_self.2 fun y hy => by simpa using hall y hy
  rw [e]
  exact hs
/-- A key is among those at its walk's end if it is among all. -/
theorem getI_wm {n : Int} {m : List It} (hO : OkI n m) (key : List UInt8) (L : Nat) : getI (wmI (keyD n key) L 0 m) key = getI m key := by
  have h : ∀ (i d : Nat) (l : List It), OkI n l → getI (wmI (keyD n key) i d l) key = getI l key := by
    intro i
    induction i with
    | zero => intro d l _; rfl
    | succ i ih => intro d l hl; rw [wmI, ih _ _ (hl.child _ _), getI_child hl.dig rfl]
  exact h L 0 m hO
theorem wmI_len (K : List UInt8) : ∀ (i d : Nat) (m : List It), (wmI K i d m).length ≤ m.length
  | 0, _, _ => Nat.le_refl _
  | i + 1, d, m => Nat.le_trans (wmI_len K i (d + 1) _) (List.length_filter_le _ _)
theorem kids_at {n : Int} {f d c : Nat} {m : List It} (h : childI m d c ≠ []) (hc : c < 16) : hasB (bmI m d) (c : Int) = true ∧ rankB (bmI m d) (c : Int) < (kidsI n f d m).length ∧ (kidsI n f d m)[rankB (bmI m d) (c : Int)]? = some (nodeD n f (d + 1) (childI m d c)) := by
  have hh : hasB (bmI m d) (c : Int) = true := by
    rw [bmI_has, decide_eq_true hc]
    unfold hasI
    cases hx : childI m d c with
    | nil => exact absurd hx h
    | cons _ _ => rfl
  refine ⟨hh, by rw [kidsI_len]; exact rank_lt hh, ?_⟩
  unfold kidsI
  rw [List.getElem?_map, rank_get hh]
  rfl
end Go.Proofs.YtebbgninkbghlaaGreatDoor

/-! Hpr -/
namespace Go.Proofs.YtebbgninkbghlaaGreatDoor
set_option maxRecDepth 100000
open Go Go.RowKit
set_option linter.unusedVariables false
set_option linter.unusedSimpArgs false
set_option maxHeartbeats 1000000
attribute [local irreducible] vcT opsT qT vcOp Q1 vcPure vcLoad vcStore ldC ldN ldD grdT grdQ vc vcOps vcQ hT
attribute [local irreducible] sumR sumP shaP keyD bucketP branchP

theorem Own.rebase {w : World} {b b' e s n : Nat} {v : Value} {xs : List Value} (h : Own w b e s v n xs) (hb : ∀ g, v.ownBlock = some g → b' ≤ g) : Own w b' e s v n xs := by
  refine ⟨h.1, ?_⟩
  rcases h.2 with hn | ⟨g, cap, cur, rfl, _, rest⟩
  · exact .inl hn
  · exact .inr ⟨g, cap, cur, rfl, hb g rfl, rest⟩
theorem cutS_upto {K : List UInt8} {L M : List (Nat × List (List UInt8))} {i : Nat} {bm : Nat} {ks : List (List UInt8)} (h : M = cutS K 0 (L.take i) ++ L.drop i) (hx : M[i]? = some (bm, ks)) : L[i]? = some (bm, ks) ∧ M.set i (bm, cutK bm (digP K i) ks) = cutS K 0 (L.take (i + 1)) ++ L.drop (i + 1) := by
  have hl : (cutS K 0 (L.take i)).length = min i L.length := by rw [cutS_len, List.length_take]
  have hil : i < L.length := by
    have := (List.getElem?_eq_some_iff.1 hx).1
    rw [h, List.length_append, hl, List.length_drop] at this
    omega
  have hi : (cutS K 0 (L.take i)).length = i := by rw [hl]; omega
  have h1 : L[i]? = some (bm, ks) := by
    rw [h, List.getElem?_append_right (by omega), hi, Nat.sub_self, List.getElem?_drop, Nat.add_zero] at hx
    exact hx
  refine ⟨h1, ?_⟩
  obtain ⟨_, he⟩ := List.getElem?_eq_some_iff.1 h1
  rw [h, List.set_append_right _ _ (by omega), hi, Nat.sub_self, List.take_succ_eq_append_getElem hil, cutS_snoc, he, List.length_take, Nat.zero_add, Nat.min_eq_left (by omega), ← List.getElem_cons_drop hil, he]
  simp

theorem RunK.lt {w : World} {hi : Nat} : ∀ {l : List SR} {lo : Nat}, RunK w hi lo l → ∀ t ∈ l, ∀ g, t.kv.ownBlock = some g → g < hi
  | [], lo, _, p, hp => by cases hp
  | t :: r, lo, h, p, hp => by
    obtain ⟨mid, h1, h2, h3⟩ := h
    rcases List.mem_cons.1 hp with rfl | hp
    · exact fun g hg => Nat.lt_of_lt_of_le (h2.2.2.2 g hg) h3.le
    · exact RunK.lt h3 p hp
theorem set_same {α : Type} {l : List α} {i : Nat} {x : α} (h : l[i]? = some x) : l.set i x = l := by
  obtain ⟨hl, rfl⟩ := List.getElem?_eq_some_iff.1 h
  exact List.set_getElem_self hl
theorem set_split {α : Type} {l : List α} {i : Nat} {x y : α} (h : l[i]? = some x) : l = l.take i ++ x :: l.drop (i + 1) ∧ l.set i y = l.take i ++ y :: l.drop (i + 1) := by
  obtain ⟨hl, rfl⟩ := List.getElem?_eq_some_iff.1 h
  refine ⟨by rw [List.getElem_cons_drop, List.take_append_drop], ?_⟩
  rw [List.set_eq_take_append_cons_drop, if_pos hl]
theorem atP_err {m : Nat} {k : List UInt8} (hm : 1 ≤ m) (hm2 : m ≤ 32) (hk : k.length = 32) (hf : formB m k = true) {i : Nat} (hi : i < 2 * m) : (atP m k i).2 = 0 := by
  have hz := formB_zero hk hf
  have hc : chkP m [k] = 0 := by
    unfold chkP
    rw [if_neg (by omega), if_pos]
    intro d hd
    obtain rfl : d = k := by simpa using hd
    simpa using hz
  unfold atP
  rw [if_neg (by omega), if_pos hc]

theorem Prove_hproof_ok (n : Int) (hw : widB n = true) (S : Nat → Prop) (mv kv : Value) (m : List It) (key : List UInt8) (w : World) (hW : WordsAt w 1) (h : MapAt n S w mv m) (hO : OkI n m) (hk : SlB w kv key) (hml : m.length ≤ 1000000000) :
    CallK Tryz.prog 28 [mv, kv].toArray w fun r w' => ∃ (sv pv : Value) (tt : List SR) (qs : List PR), r = .tuple [.agg [sv, pv].toArray, .int .i64 (if 64 < key.length then 2 else 0 : Nat)].toArray ∧
      Own w' w.heap.size 51 2 sv tt.length (tt.flatMap SR.cells) ∧ RunK w' w'.heap.size w.heap.size tt ∧ Own w' w.heap.size 47 2 pv qs.length (qs.flatMap PR.cells) ∧ RunB w' w'.heap.size w.heap.size (qs.flatMap prB) ∧
      tt.map SR.dt = (if 64 < key.length then [] else cutS (keyD n key) 0 (walkI n (keyD n key) 64 0 m).1) ∧ qs.map PR.dat = (if 64 < key.length then [] else (walkI n (keyD n key) 64 0 m).2.map It.pr) ∧ Ext w w' := by
  have hwn := (widB_iff n).1 hw
  obtain ⟨nn, rfl⟩ : ∃ nn : Nat, n = nn := ⟨n.toNat, by omega⟩
  obtain ⟨ka, kc, rfl⟩ := slv_of hk
  refine enterT Tryz.func28 rfl Tryz.ntmps28 Tryz.results28 rfl (by decide) ?_
  repeat (first | exact trivial | refine stp ?_ | refine ldCg ?_ | refine ldNg ?_ | refine ldSg ?_ | refine ldSb ?_ | refine bnd ?_ | refine bnd1 ?_ | refine drawQ (by decide +kernel) mixed (by decide +kernel) ?_)
  first | refine newS ?_ | refine newZ ?_
  intro w1 hE1 hz1 hB1
  repeat (first | exact trivial | refine stp ?_ | refine ldCg ?_ | refine ldNg ?_ | refine ldSg ?_ | refine ldSb ?_ | refine bnd ?_ | refine bnd1 ?_ | refine drawQ (by decide +kernel) mixed (by decide +kernel) ?_)
  have hKl := keyD_len nn key
  refine ⟨fun h64 => ?_, fun h64 => ?_⟩
  · refine bldC [.slice none 0 0, .slice none 0 0] (by kernel_rfl) ?_
    repeat (first | exact trivial | refine stp ?_ | refine ldCg ?_ | refine ldNg ?_ | refine ldSg ?_ | refine ldSb ?_ | refine bnd ?_ | refine bnd1 ?_ | refine drawQ (by decide +kernel) mixed (by decide +kernel) ?_)
    refine stW ?_
    intro w2 hP2 hz2 hB2
    repeat (first | exact trivial | refine stp ?_ | refine ldCg ?_ | refine ldNg ?_ | refine ldSg ?_ | refine ldSb ?_ | refine bnd ?_ | refine bnd1 ?_ | refine drawQ (by decide +kernel) mixed (by decide +kernel) ?_)
    exact ⟨.slice none 0 0, .slice none 0 0, [], [], by rw [if_pos (by omega)]; rfl, Own.nil _ _ _ _, by show w.heap.size ≤ w2.heap.size; omega, Own.nil _ _ _ _, by show w.heap.size ≤ w2.heap.size; omega, by rw [if_pos (by omega)]; rfl, by rw [if_pos (by omega)]; rfl, .go⟩
  have h64' : ¬ 64 < key.length := by omega
  repeat (first | exact trivial | refine stp ?_ | refine ldCg ?_ | refine ldNg ?_ | refine ldSg ?_ | refine ldSb ?_ | refine bnd ?_ | refine bnd1 ?_ | refine drawQ (by decide +kernel) mixed (by decide +kernel) ?_)
  refine (Walk_hamt_ok nn hw S mv _ m key w1 (hW.ext .go) (h.ext .go) hO (hk.ext .go) hml).mono ?_
  rintro _ w2 ⟨sv, pv, tt, qs, rfl, hOs, hRk, hOp, hRb, htd, hqd, hE2⟩
  have hz2 := hE2.size
  rw [if_neg h64'] at htd hqd ⊢
  generalize hLe : (walkI nn (keyD nn key) 64 0 m).1 = L at *
  have hL : tt.length = L.length := by rw [← htd, List.length_map]
  obtain ⟨sa, sc, rfl⟩ := own_slice hOs
  obtain ⟨pa, pc, rfl⟩ := own_slice hOp
  obtain ⟨hst, hend, hsg⟩ := walk_spec hw (keyD nn key) 64 0 m hO hO.pre rfl
  rw [hLe] at hst
  simp only [Nat.zero_add] at hst
  have hf : formB nn (keyD nn key) = true := by unfold keyD; exact form_sumR nn _ hw
  have hL32 : L.length ≤ 2 * nn := by
    rcases Nat.eq_zero_or_pos L.length with h0 | h0
    · omega
    · obtain ⟨_, hs2⟩ := hst (L.length - 1) (by omega)
      obtain ⟨hOd, hPd⟩ := wmI_ok (n := nn) (keyD nn key) (L.length - 1) 0 hO hO.pre
      rw [Nat.zero_add] at hPd
      have := br_depth hs2 hPd (hOd.form hw)
      omega
  repeat (first | exact trivial | refine stp ?_ | refine ldCg ?_ | refine ldNg ?_ | refine ldSg ?_ | refine ldSb ?_ | refine bnd ?_ | refine bnd1 ?_ | refine drawQ (by decide +kernel) mixed (by decide +kernel) ?_)
  refine (Width_hamt_ok nn S mv m w2 (h.ext .go)).mono ?_
  rintro _ w3 ⟨rfl, hE3⟩
  have hz3 := hE3.size
  repeat (first | exact trivial | refine stp ?_ | refine ldCg ?_ | refine ldNg ?_ | refine ldSg ?_ | refine ldSb ?_ | refine bnd ?_ | refine bnd1 ?_ | refine drawQ (by decide +kernel) mixed (by decide +kernel) ?_)
  refine (Key_ok nn key _ w3 (hW.ext .go) (hk.ext .go) (by omega)).mono ?_
  rintro _ w4 ⟨rfl, hE4⟩
  have hz4 := hE4.size
  have hkd : sumR nn (2 :: key) = keyD nn key := by unfold keyD; rfl
  have hse : sumE nn = 0 := by unfold sumE; rw [if_pos hw]
  rw [hkd, hse]
  repeat (first | exact trivial | refine stp ?_ | refine ldCg ?_ | refine ldNg ?_ | refine ldSg ?_ | refine ldSb ?_ | refine bnd ?_ | refine bnd1 ?_ | refine drawQ (by decide +kernel) mixed (by decide +kernel) ?_)
  first | refine newS ?_ | refine newZ ?_
  intro w5 hE5 hz5 hB5
  repeat (first | exact trivial | refine stp ?_ | refine ldCg ?_ | refine ldNg ?_ | refine ldSg ?_ | refine ldSb ?_ | refine bnd ?_ | refine bnd1 ?_ | refine drawQ (by decide +kernel) mixed (by decide +kernel) ?_)
  refine loopX (ι := Nat × List SR) (fun x => [(4, .pointer (some ⟨w.heap.size, 0, none⟩)), (6, .slice sa tt.length sc), (7, .slice pa qs.length pc), (9, .int .i64 nn), (10, .pointer (some ⟨w4.heap.size, 0, none⟩)), (43, .slice sa tt.length sc), (44, .int .i64 tt.length), (45, .int .i64 x.1)])
    (fun x W => Ext w1 W ∧ w5.heap.size ≤ W.heap.size ∧ x.1 ≤ L.length ∧ x.2.length = tt.length ∧ Own W w1.heap.size 51 2 (.slice sa tt.length sc) tt.length (x.2.flatMap SR.cells) ∧ RunK W w2.heap.size w1.heap.size x.2 ∧
      Own W w1.heap.size 47 2 (.slice pa qs.length pc) qs.length (qs.flatMap PR.cells) ∧ RunB W w2.heap.size w1.heap.size (qs.flatMap prB) ∧ Blk W w4.heap.size 28 (vbs (keyD nn key)) ∧ x.2.map SR.dt = cutS (keyD nn key) 0 (L.take x.1) ++ L.drop x.1) (fun x => L.length - x.1) (0, tt) ⟨.go, Nat.le_refl _, Nat.zero_le _, rfl, hOs.ext .go, (hRk.ext .go), hOp.ext .go, hRb.ext .go, hB5, by simpa [cutS] using htd⟩ ?_ ?_
  · repeat (first | exact trivial | refine stp ?_ | refine ldCg ?_ | refine ldNg ?_ | refine ldSg ?_ | refine ldSb ?_ | refine bnd ?_ | refine bnd1 ?_ | refine drawQ (by decide +kernel) mixed (by decide +kernel) ?_)
  · rintro ⟨i, ss⟩ s6 w6 ⟨hE6, hz6, hi, hsl, hO6, hR6, hP6, hRb6, hB6, hd6⟩
    simp only at hi hsl hO6 hR6 hd6
    repeat (first | exact trivial | refine stp ?_ | refine ldCg ?_ | refine ldNg ?_ | refine ldSg ?_ | refine ldSb ?_ | refine bnd ?_ | refine bnd1 ?_ | refine drawQ (by decide +kernel) mixed (by decide +kernel) ?_)
    refine ⟨fun hlt => ?_, fun hge => ?_⟩
    · obtain ⟨t, ht⟩ : ∃ x, ss[i]? = some x := ⟨_, List.getElem?_eq_getElem (by omega)⟩
      obtain ⟨hs1, hs2⟩ := hst i (by omega)
      obtain ⟨hOd, hPd⟩ := wmI_ok (n := nn) (keyD nn key) i 0 hO hO.pre
      rw [Nat.zero_add] at hPd
      have hat := atP_dig (m := nn) (by omega) (by omega) hKl hf (br_depth hs2 hPd (hOd.form hw))
      have hae := atP_err (m := nn) (by omega) (by omega) hKl hf (br_depth hs2 hPd (hOd.form hw))
      have hdg := digP_lt (keyD nn key) i
      obtain ⟨hbm, h32, hOk⟩ := hR6.mem t (List.mem_of_getElem? ht)
      obtain ⟨g, cap, rest, he, hgb, hBg, hnc, hcm, hrl⟩ := hO6.open (by omega)
      injection he with he1 _ he3
      subst he1 he3
      have hO6' : Own w6 w1.heap.size 51 2 (.slice (some ⟨g, 0, none⟩) tt.length sc) ss.length (ss.flatMap SR.cells) := by rw [hsl]; exact hO6
      obtain ⟨b', o', he, hRow⟩ := (SlC.of_own hO6').row (f := SR.cells) (sz := 2) (fun _ _ => rfl) (by decide) (by omega)
      injection he with he
      injection he with he1 he2
      subst he1 he2
      obtain ⟨kv, bm, ks⟩ := t
      simp only at hbm h32 hOk
      have hdt : (ss.map SR.dt)[i]? = some (bm, ks) := by rw [List.getElem?_map, ht]; rfl
      obtain ⟨hLi, hset⟩ := cutS_upto hd6 hdt
      have hkl : ks.length ≤ 16 := by
        rw [hs1] at hLi
        simp only [Option.some.injEq, Prod.mk.injEq] at hLi
        rw [← hLi.2, kidsI_len]
        exact cnt_le _
      obtain ⟨ka', kc', rfl⟩ := own_slice hOk
      repeat (first | exact trivial | refine stp ?_ | refine ldCg ?_ | refine ldNg ?_ | refine ldSg ?_ | refine ldSb ?_ | refine bnd ?_ | refine bnd1 ?_ | refine drawQ (by decide +kernel) mixed (by decide +kernel) ?_)
      refine (At_ok nn (keyD nn key) hKl i w6).mono ?_
      rintro _ w7 ⟨rfl, hE7⟩
      have hz7 := hE7.size
      rw [hat, hae]
      repeat (first | exact trivial | refine stp ?_ | refine ldCg ?_ | refine ldNg ?_ | refine ldSg ?_ | refine ldSb ?_ | refine bnd ?_ | refine bnd1 ?_ | refine drawQ (by decide +kernel) mixed (by decide +kernel) ?_)
      refine ldRowF (f := SR.cells) 0 ht ?_
      repeat (first | exact trivial | refine stp ?_ | refine ldCg ?_ | refine ldNg ?_ | refine ldSg ?_ | refine ldSb ?_ | refine bnd ?_ | refine bnd1 ?_ | refine drawQ (by decide +kernel) mixed (by decide +kernel) ?_)
      refine (Rank_ok bm hbm (digP (keyD nn key) i) w7).mono ?_
      rintro _ w8 ⟨rfl, hE8⟩
      have hz8 := hE8.size
      repeat (first | exact trivial | refine stp ?_ | refine ldCg ?_ | refine ldNg ?_ | refine ldSg ?_ | refine ldSb ?_ | refine bnd ?_ | refine bnd1 ?_ | refine drawQ (by decide +kernel) mixed (by decide +kernel) ?_)
      refine ldRowF (f := SR.cells) 0 ht ?_
      repeat (first | exact trivial | refine stp ?_ | refine ldCg ?_ | refine ldNg ?_ | refine ldSg ?_ | refine ldSb ?_ | refine bnd ?_ | refine bnd1 ?_ | refine drawQ (by decide +kernel) mixed (by decide +kernel) ?_)
      refine (Has_ok bm hbm (digP (keyD nn key) i) w8).mono ?_
      rintro _ w9 ⟨rfl, hE9⟩
      have hz9 := hE9.size
      by_cases hh : hasB bm (digP (keyD nn key) i : Int) = true
      · rw [hh]
        repeat (first | exact trivial | refine stp ?_ | refine ldCg ?_ | refine ldNg ?_ | refine ldSg ?_ | refine ldSb ?_ | refine bnd ?_ | refine bnd1 ?_ | refine drawQ (by decide +kernel) mixed (by decide +kernel) ?_)
        refine ldRowF (f := SR.cells) 1 ht ?_
        repeat (first | exact trivial | refine stp ?_ | refine ldCg ?_ | refine ldNg ?_ | refine ldSg ?_ | refine ldSb ?_ | refine bnd ?_ | refine bnd1 ?_ | refine drawQ (by decide +kernel) mixed (by decide +kernel) ?_)
        refine ⟨fun hlt2 => ?_, fun hge2 => ?_⟩
        · refine ldRowF (f := SR.cells) 1 ht ?_
          repeat (first | exact trivial | refine stp ?_ | refine ldCg ?_ | refine ldNg ?_ | refine ldSg ?_ | refine ldSb ?_ | refine bnd ?_ | refine bnd1 ?_ | refine drawQ (by decide +kernel) mixed (by decide +kernel) ?_)
          have hrk : rankB bm (digP (keyD nn key) i : Int) < ks.length := by omega
          generalize hre : rankB bm (digP (keyD nn key) i : Int) = r at *
          obtain ⟨hks1, _⟩ := set_split (y := ks[r]) (List.getElem?_eq_getElem hrk)
          have hkf : ks.flatMap vbs = (ks.take r).flatMap vbs ++ (vbs ks[r] ++ (ks.drop (r + 1)).flatMap vbs) := by
            conv => lhs; rw [hks1]
            rw [List.flatMap_append, List.flatMap_cons]
          have hcut : cutK bm (digP (keyD nn key) i) ks = ks.take r ++ ks.drop (r + 1) := by rw [cutK_has hh (by omega), hre]
          rw [w64 (by omega) (by omega), show ((r : Int) + 1) = ((r + 1 : Nat) : Int) from by omega]
          have hA := dvs_len (ks.take r) (fun d hd => h32 d (List.mem_of_mem_take hd))
          have hD := dvs_len (ks.drop (r + 1)) (fun d hd => h32 d (List.mem_of_mem_drop hd))
          rw [List.length_take, Nat.min_eq_left (by omega)] at hA
          rw [List.length_drop] at hD
          refine (DelD_ok ((ks.take r).flatMap vbs) (vbs ks[r]) ((ks.drop (r + 1)).flatMap vbs) r ks.length hA (by rw [vbs_len]; exact h32 _ (List.getElem_mem _)) (by rw [hD]; congr 1; omega) hrk (fun v hv => by obtain ⟨d, _, hd⟩ := List.mem_flatMap.1 hv; exact vbs_one _ _ hd) _ w1.heap.size w9 (by rw [← hkf]; exact hOk.ext .go) (by omega) (by omega)).mono ?_
          rintro v10 w10 ⟨hob, hO10, hE10, hOB⟩
          have hz10 := hE10.size
          obtain ⟨a10, c10, rfl⟩ := own_slice hO10
          have hn10 : ks.length - 1 = (cutK bm (digP (keyD nn key) i) ks).length := by rw [hcut, List.length_append, List.length_take, List.length_drop]; omega
          have hf10 : (ks.take r).flatMap vbs ++ (ks.drop (r + 1)).flatMap vbs = (cutK bm (digP (keyD nn key) i) ks).flatMap vbs := by rw [hcut, List.flatMap_append]
          rw [hn10, hf10] at hO10
          rw [hn10] at hob ⊢
          have hOk9 : Own w9 w1.heap.size 28 32 (.slice ka' ks.length kc') ks.length (ks.flatMap vbs) := hOk.ext .go
          have hBg9 : Blk w9 g 51 (ss.flatMap SR.cells ++ rest) := .go
          have hBg10 := hOB g _ _ (hOk9.not_blk hBg9 (by decide)) hBg9
          obtain ⟨hs3, hs4⟩ := set_split (y := (⟨.slice a10 (cutK bm (digP (keyD nn key) i) ks).length c10, bm, cutK bm (digP (keyD nn key) i) ks⟩ : SR)) ht
          generalize hkn : cutK bm (digP (keyD nn key) i) ks = kn at *
          have hcl : ((ss.take i).flatMap SR.cells).length = i * 2 := by
            have : ∀ l : List SR, (l.flatMap SR.cells).length = l.length * 2 := by
              intro l
              induction l with
              | nil => rfl
              | cons a l ih => rw [List.flatMap_cons, List.length_append, ih]; simp [SR.cells]; omega
            rw [this, List.length_take]
            omega
          have hcell : ss.flatMap SR.cells ++ rest = ((ss.take i).flatMap SR.cells ++ [.int .u16 bm]) ++ (.slice ka' ks.length kc' :: ((ss.drop (i + 1)).flatMap SR.cells ++ rest)) := by
            conv => lhs; rw [hs3]
            simp [SR.cells, List.flatMap_append, List.flatMap_cons, List.append_assoc]
          have hcell' : (ss.set i ⟨.slice a10 kn.length c10, bm, kn⟩).flatMap SR.cells ++ rest = ((ss.take i).flatMap SR.cells ++ [.int .u16 bm]) ++ (.slice a10 kn.length c10 :: ((ss.drop (i + 1)).flatMap SR.cells ++ rest)) := by
            rw [hs4]
            simp [SR.cells, List.flatMap_append, List.flatMap_cons, List.append_assoc]
          rw [hcell] at hBg10
          repeat (first | exact trivial | refine stp ?_ | refine ldCg ?_ | refine ldNg ?_ | refine ldSg ?_ | refine ldSb ?_ | refine bnd ?_ | refine bnd1 ?_ | refine drawQ (by decide +kernel) mixed (by decide +kernel) ?_)
          refine stAt (by decide +kernel) hBg10 (by rw [List.length_append, hcl]; rfl) rfl rfl (fun w11 hP11 => ?_)
          have hB11 := hP11.blk
          rw [← hcell'] at hB11
          have hz11 := hP11.size
          have hkb := hR6.lt _ (List.mem_of_getElem? ht)
          have hBd10 : Blk w10 w4.heap.size 28 (vbs (keyD nn key)) := hOB _ _ _ (fun he => by have := hkb _ he; omega) (.go (h := hB6))
          have hg4 : g ≠ w4.heap.size := fun he => by have h1 := hBg10.out; rw [he, hBd10.out, Option.some.injEq, Obj.cells.injEq] at h1; exact absurd h1.2 (by decide)
          have hE11 : Ext w1 w11 := .go
          have hset' : ss.set i ⟨.slice a10 kn.length c10, bm, kn⟩ = ss.take i ++ ⟨.slice a10 kn.length c10, bm, kn⟩ :: ss.drop (i + 1) := hs4
          repeat (first | exact trivial | refine stp ?_ | refine ldCg ?_ | refine ldNg ?_ | refine ldSg ?_ | refine ldSb ?_ | refine bnd ?_ | refine bnd1 ?_ | refine drawQ (by decide +kernel) mixed (by decide +kernel) ?_)
          refine ⟨(i + 1, ss.set i ⟨.slice a10 kn.length c10, bm, kn⟩), ⟨hE11, by omega, by simp only; omega, by simp only [List.length_set]; exact hsl, ?_, ?_, ?_, ?_, hP11.keep hBd10 (Ne.symm hg4), ?_⟩, by rw [w64 (by omega) (by omega)]; rfl, by simp only; omega⟩
          · have hxl : ((ss.set i ⟨.slice a10 kn.length c10, bm, kn⟩).flatMap SR.cells).length = tt.length * 2 := by
              have h1 := congrArg List.length hcell'
              have h2 := congrArg List.length hcell
              have h3 := hO6.1
              simp only [List.length_append, List.length_cons] at h1 h2
              omega
            refine own_mk (sz := 2) hB11 hgb hxl ?_ hnc hcm
            have h3 := hO6.1
            rw [List.length_append, h3] at hrl
            rw [Nat.sub_mul]
            omega
          · rw [hset']
            have hR9 : RunK w9 w2.heap.size w1.heap.size (ss.take i ++ ⟨.slice ka' ks.length kc', bm, ks⟩ :: ss.drop (i + 1)) := by rw [← hs3]; exact hR6.ext .go
            refine RunK.put hBg10 (by decide) hP11 (RunK.set (t := ⟨.slice ka' ks.length kc', bm, ks⟩) hOB hbm (fun d hd => h32 d (by rw [← hkn] at hd; exact cutK_mem d hd)) hob (by omega) (fun b hb => hO10.rebase fun g' hg' => hb.lo g' (by rw [← hob]; exact hg')) hR9)
          · exact ((hP6.ext (w' := w9) .go).onlyT hOk9 (by decide) hOB).put hBg10 (by decide) hP11
          · exact RunB.put hBg10 (by decide) hP11 (RunB.onlyT hOk9 (by decide) hOB (hRb6.ext (w' := w9) .go))
          · simp only
            rw [← hset, hset', List.map_append, List.map_cons]
            have hdt' : (ss.map SR.dt)[i]? = some (bm, ks) := hdt
            rw [(set_split (y := (bm, kn)) hdt').2, List.map_take, List.map_drop]
            rfl
        · repeat (first | exact trivial | refine stp ?_ | refine ldCg ?_ | refine ldNg ?_ | refine ldSg ?_ | refine ldSb ?_ | refine bnd ?_ | refine bnd1 ?_ | refine drawQ (by decide +kernel) mixed (by decide +kernel) ?_)
          refine ⟨(i + 1, ss), ⟨.go, by omega, by simp only; omega, hsl, hO6.ext .go, hR6.ext .go, hP6.ext .go, hRb6.ext .go, .go, ?_⟩, by rw [w64 (by omega) (by omega)]; rfl, by simp only; omega⟩
          simp only
          rw [← hset, cutK_not (fun hc => by omega), set_same hdt]
      · rw [Bool.not_eq_true] at hh
        rw [hh]
        repeat (first | exact trivial | refine stp ?_ | refine ldCg ?_ | refine ldNg ?_ | refine ldSg ?_ | refine ldSb ?_ | refine bnd ?_ | refine bnd1 ?_ | refine drawQ (by decide +kernel) mixed (by decide +kernel) ?_)
        refine ⟨(i + 1, ss), ⟨.go, by omega, by simp only; omega, hsl, hO6.ext .go, hR6.ext .go, hP6.ext .go, hRb6.ext .go, .go, ?_⟩, by rw [w64 (by omega) (by omega)]; rfl, by simp only; omega⟩
        simp only
        rw [← hset, cutK_not (fun hc => by rw [hh] at hc; exact absurd hc.1 (by decide)), set_same hdt]
    · refine bldC [.slice sa tt.length sc, .slice pa qs.length pc] (by kernel_rfl) ?_
      repeat (first | exact trivial | refine stp ?_ | refine ldCg ?_ | refine ldNg ?_ | refine ldSg ?_ | refine ldSb ?_ | refine bnd ?_ | refine bnd1 ?_ | refine drawQ (by decide +kernel) mixed (by decide +kernel) ?_)
      refine stW ?_
      intro w7 hP7 hz7 hB7
      repeat (first | exact trivial | refine stp ?_ | refine ldCg ?_ | refine ldNg ?_ | refine ldSg ?_ | refine ldSb ?_ | refine bnd ?_ | refine bnd1 ?_ | refine drawQ (by decide +kernel) mixed (by decide +kernel) ?_)
      obtain rfl : i = L.length := by omega
      rw [List.take_length, List.drop_length, List.append_nil] at hd6
      have hb0 : Blk w6 w.heap.size 26 _ := .go (h := hB1)
      refine ⟨.slice sa tt.length sc, .slice pa qs.length pc, ss, qs, rfl, ?_, ?_, ?_, ?_, ?_, ?_, ?_⟩
      · rw [hsl]; exact (hO6.base (by omega)).put hb0 (by decide) hP7
      · exact RunK.put hb0 (by decide) hP7 (RunK.top (by omega) (RunK.append (l := []) (m := w1.heap.size) (by show w.heap.size ≤ _; omega) hR6))
      · exact (hP6.base (by omega)).put hb0 (by decide) hP7
      · exact RunB.put hb0 (by decide) hP7 (RunB.top (by omega) (RunB.append (l := []) (m := w1.heap.size) (by show w.heap.size ≤ _; omega) hRb6))
      · rw [if_neg h64', hd6]
      · rw [if_neg h64', hqd]
      · exact .go
end Go.Proofs.YtebbgninkbghlaaGreatDoor

/-! Hmh -/
namespace Go.Proofs.YtebbgninkbghlaaGreatDoor
set_option maxRecDepth 100000
open Go Go.RowKit
set_option linter.unusedVariables false
set_option linter.unusedSimpArgs false
set_option maxHeartbeats 1000000
attribute [local irreducible] vcT opsT qT vcOp Q1 vcPure vcLoad vcStore ldC ldN ldD grdT grdQ vc vcOps vcQ hT
attribute [local irreducible] sumR sumP shaP keyD bucketP branchP

theorem prc_len (ps : List PR) : (ps.flatMap PR.cells).length = ps.length * 2 := by
  induction ps with
  | nil => rfl
  | cons p ps ih => rw [List.flatMap_cons, List.length_append, ih, List.length_cons]; simp only [PR.cells, List.length_cons, List.length_nil]; omega
theorem PairsAt.one {w : World} {v : Value} {ps : List PR} (h : PairsAt w v ps) : ∀ u ∈ ps.flatMap PR.cells, oneCellV u = true := by
  intro u hu
  obtain ⟨q, hq, hu⟩ := List.mem_flatMap.1 hu
  obtain ⟨hq1, hq2⟩ := h.2 q hq
  obtain ⟨a1, c1, e1⟩ := slv_of hq1
  obtain ⟨a2, c2, e2⟩ := slv_of hq2
  simp only [PR.cells, List.mem_cons, List.not_mem_nil, or_false] at hu
  rcases hu with rfl | rfl
  · rw [e1]; rfl
  · rw [e2]; rfl
theorem PairsS.ins {S : Nat → Prop} {W : World} {base n i j : Nat} {v : Value} {ps : List PR} {p : PR} (hO : Own W base 47 2 v n ((ps.take i ++ p :: ps.drop j).flatMap PR.cells)) (hS : ∀ b, base ≤ b → S b)
    (ho : ∀ q ∈ ps, SlS S W q.kv q.k.length (vbs q.k) ∧ SlS S W q.vv q.v.length (vbs q.v)) (hp : SlS S W p.kv p.k.length (vbs p.k) ∧ SlS S W p.vv p.v.length (vbs p.v)) : PairsS S W v (ps.take i ++ p :: ps.drop j) := by
  have hn : n = (ps.take i ++ p :: ps.drop j).length := by have h1 := hO.1; have h2 := prc_len (ps.take i ++ p :: ps.drop j); omega
  subst hn
  refine ⟨SlS.of_own hO hS, fun q hq => ?_⟩
  rcases List.mem_append.1 hq with hq | hq
  · exact ho q (List.mem_of_mem_take hq)
  · rcases List.mem_cons.1 hq with rfl | hq
    · exact hp
    · exact ho q (List.mem_of_mem_drop hq)
theorem put_ok (n : Int) (hw : widB n = true) (S : Nat → Prop) (b : Nat) (top : Value) (x : It) (ka va : Option Addr) (kn kc vn vc : Nat) (hxD : x.D = keyD n x.k) (hxs : x.k.length ≤ 64 ∧ x.v.length ≤ 256) :
    ∀ (f d : Nat) (m : List It) (at_ : Value) (w : World), WordsAt w 1 → Blk w b 142 [.int .i64 n, top] → AtN n S w f d m at_ → OkI n m → Pre d (x :: m) →
    SlS S w (.slice ka kn kc) x.k.length (vbs x.k) → SlS S w (.slice va vn vc) x.v.length (vbs x.v) → d + f = 64 → m.length ≤ 900000000 → (∀ k, S k → k < w.heap.size) →
    CallK Tryz.prog 101 [.pointer (some ⟨b, 0, none⟩), at_, .int .i64 d, .agg (vbs x.D).toArray, .agg [.slice ka kn kc, .slice va vn vc].toArray].toArray w fun v w' => NodeAt n (fun k => S k ∨ w.heap.size ≤ k) w' f d (putI m x) v ∧ Ext w w' := by
  have hwn := (widB_iff n).1 hw
  obtain ⟨nn, rfl⟩ : ∃ nn : Nat, n = nn := ⟨n.toNat, by omega⟩
  have hxl : x.D.length = 32 := by rw [hxD]; exact keyD_len _ _
  intro f
  induction f using Nat.strongRecOn with
  | ind f ih =>
    intro d m at_ w hW hB hA hO hP hk hv hdf hml hSl
    have hbl := hB.lt
    have hpq : ∀ {W : World} {c : Nat}, Ext w W → w.heap.size ≤ c → Blk W c 47 [.slice ka kn kc, .slice va vn vc] → PairsS (fun k => S k ∨ w.heap.size ≤ k) W (.slice (some ⟨c, 0, none⟩) 1 1) [⟨.slice ka kn kc, .slice va vn vc, x.k, x.v⟩] :=
      fun e hc hB => ⟨SlS.of_blk hB (Or.inr hc) (by simp), fun q hq => by obtain rfl := List.mem_singleton.1 hq; exact ⟨(hk.keep (KeepS.of_ext e)).mono (fun k h => Or.inl h), (hv.keep (KeepS.of_ext e)).mono (fun k h => Or.inl h)⟩⟩
    have hO1 : OkI nn [x] := ⟨by unfold SortedI; simp, fun y hy => by obtain rfl := List.mem_singleton.1 hy; exact hxD, fun y hy => by obtain rfl := List.mem_singleton.1 hy; exact hxs⟩
    have hOM : OkI nn (putI m x) := hO.put hxD hxs
    have hs1 : singleB [x] = true := singleB_iff.2 fun y hy z hz => by rw [List.mem_singleton.1 hy, List.mem_singleton.1 hz]
    rcases hA.cases with ⟨rfl, rfl⟩ | ⟨hne, hs, b4, pv, ps, rfl, hb⟩ | ⟨hs, f', hf', b4, kv4, vs, rfl, hb, hkids⟩
    · refine enterT Tryz.func101 rfl Tryz.ntmps101 Tryz.results101 rfl (by decide) ?_
      repeat (first | exact trivial | refine stp ?_ | refine ldCg ?_ | refine ldNg ?_ | refine ldSg ?_ | refine ldSb ?_ | refine bnd ?_ | refine bnd1 ?_ | refine drawQ (by decide +kernel) mixed (by decide +kernel) ?_)
      first | refine newS ?_ | refine newZ ?_
      intro w1 hE1 hz1 hB1
      repeat (first | exact trivial | refine stp ?_ | refine ldCg ?_ | refine ldNg ?_ | refine ldSg ?_ | refine ldSb ?_ | refine bnd ?_ | refine bnd1 ?_ | refine drawQ (by decide +kernel) mixed (by decide +kernel) ?_)
      first | refine newS ?_ | refine newZ ?_
      intro w2 hE2 hz2 hB2
      repeat (first | exact trivial | refine stp ?_ | refine ldCg ?_ | refine ldNg ?_ | refine ldSg ?_ | refine ldSb ?_ | refine bnd ?_ | refine bnd1 ?_ | refine drawQ (by decide +kernel) mixed (by decide +kernel) ?_)
      refine ⟨rfl, rfl, ?_⟩
      first | refine newS ?_ | refine newZ ?_
      intro w3 hE3 hz3 hB3
      have hps := hpq (Ext.go (b := w3)) (by omega) hB3
      refine (pour_ok nn b top x.D hxl _ _ w3 (hW.ext .go) .go hps.at (hO1.bucket_le rfl (by simp))).mono ?_
      rintro _ w4 ⟨g, rfl, hg, hB4, hE4⟩
      repeat (first | exact trivial | refine stp ?_ | refine ldCg ?_ | refine ldNg ?_ | refine ldSg ?_ | refine ldSb ?_ | refine bnd ?_ | refine bnd1 ?_ | refine drawQ (by decide +kernel) mixed (by decide +kernel) ?_)
      exact ⟨NodeAt.mk_bk hs1 (Or.inr (by omega)) hB4 rfl (hps.keep (KeepS.of_ext hE4)) rfl, .go⟩
    · have hB4 := hb.blk
      have hdl := headD_len (n := nn) hne hO.len
      have hhl : (vbs (headD m)).length = 32 := by rw [vbs_len]; exact hdl
      have hpl : ps.length ≤ 900000000 := by have := congrArg List.length hb.dat; simp at this; omega
      have hps := pairs_sorted hb.dat (sorted_keys hO.sorted (singleB_iff.1 hs))
      have hpa := hb.prs.at
      obtain ⟨pa, cp, rfl⟩ := slv_of hpa.1
      refine enterT Tryz.func101 rfl Tryz.ntmps101 Tryz.results101 rfl (by decide) ?_
      repeat (first | exact trivial | refine stp ?_ | refine ldCg ?_ | refine ldNg ?_ | refine ldSg ?_ | refine ldSb ?_ | refine bnd ?_ | refine bnd1 ?_ | refine drawQ (by decide +kernel) mixed (by decide +kernel) ?_)
      first | refine newS ?_ | refine newZ ?_
      intro w1 hE1 hz1 hB1
      repeat (first | exact trivial | refine stp ?_ | refine ldCg ?_ | refine ldNg ?_ | refine ldSg ?_ | refine ldSb ?_ | refine bnd ?_ | refine bnd1 ?_ | refine drawQ (by decide +kernel) mixed (by decide +kernel) ?_)
      first | refine newS ?_ | refine newZ ?_
      intro w2 hE2 hz2 hB2
      repeat (first | exact trivial | refine stp ?_ | refine ldCg ?_ | refine ldNg ?_ | refine ldSg ?_ | refine ldSb ?_ | refine bnd ?_ | refine bnd1 ?_ | refine drawQ (by decide +kernel) mixed (by decide +kernel) ?_)
      refine ldNg (m := vbs (headD m)) (hm := by rw [List.drop_zero, List.take_append_of_le_length (by omega), vbs_tk hdl]) ?_
      repeat (first | exact trivial | refine stp ?_ | refine ldCg ?_ | refine ldNg ?_ | refine ldSg ?_ | refine ldSb ?_ | refine bnd ?_ | refine bnd1 ?_ | refine drawQ (by decide +kernel) mixed (by decide +kernel) ?_)
      refine eqd_lit _ _ _ _ _ _ Tryz.underlying5 c5 hdl hxl ?_
      by_cases hdx : headD m = x.D
      · rw [decide_eq_true hdx]
        obtain ⟨i, ok, hF⟩ := find_ex x.k hps
        have hDx : ∀ y ∈ m, y.D = x.D := fun y hy => by rw [← headD_mem hs hy]; exact hdx
        have hput := put_bucket hb.dat hDx hps hF
        have hsp := single_put (x := x) hDx
        repeat (first | exact trivial | refine stp ?_ | refine ldCg ?_ | refine ldNg ?_ | refine ldSg ?_ | refine ldSb ?_ | refine bnd ?_ | refine bnd1 ?_ | refine drawQ (by decide +kernel) mixed (by decide +kernel) ?_)
        intro w3 hE3
        have hz3 := hE3.size
        repeat (first | exact trivial | refine stp ?_ | refine ldCg ?_ | refine ldNg ?_ | refine ldSg ?_ | refine ldSb ?_ | refine bnd ?_ | refine bnd1 ?_ | refine drawQ (by decide +kernel) mixed (by decide +kernel) ?_)
        refine ldCg (hv := by rw [List.getElem?_append_right (by omega), hhl]; rfl) ?_
        repeat (first | exact trivial | refine stp ?_ | refine ldCg ?_ | refine ldNg ?_ | refine ldSg ?_ | refine ldSb ?_ | refine bnd ?_ | refine bnd1 ?_ | refine drawQ (by decide +kernel) mixed (by decide +kernel) ?_)
        refine qcall (.tuple [.int .i64 (i : Nat), .bool ok].toArray) (fun w' hw' => (find_ok ps x.k _ _ w' (hpa.ext .go) (hk.sl.ext .go) hps (by omega)).mono ?_) ?_
        · rintro _ w'' ⟨i', ok', rfl, hF', hE'⟩
          obtain ⟨rfl, rfl⟩ := hF'.uniq hF
          exact ⟨rfl, hE'⟩
        repeat (first | exact trivial | refine stp ?_ | refine ldCg ?_ | refine ldNg ?_ | refine ldSg ?_ | refine ldSb ?_ | refine bnd ?_ | refine bnd1 ?_ | refine drawQ (by decide +kernel) mixed (by decide +kernel) ?_)
        intro w4 hE4
        have hz4 := hE4.size
        repeat (first | exact trivial | refine stp ?_ | refine ldCg ?_ | refine ldNg ?_ | refine ldSg ?_ | refine ldSb ?_ | refine bnd ?_ | refine bnd1 ?_ | refine drawQ (by decide +kernel) mixed (by decide +kernel) ?_)
        refine ldCg (hv := by rw [List.getElem?_append_right (by omega), hhl]; rfl) ?_
        repeat (first | exact trivial | refine stp ?_ | refine ldCg ?_ | refine ldNg ?_ | refine ldSg ?_ | refine ldSb ?_ | refine bnd ?_ | refine bnd1 ?_ | refine drawQ (by decide +kernel) mixed (by decide +kernel) ?_)
        refine (ClnP_ok _ ps.length _ w4 (hpa.1.ext .go) (prc_len ps) hpa.one (by omega)).mono ?_
        rintro v5 w5 ⟨hO5, hE5⟩
        have hz5 := hE5.size
        obtain rfl | rfl : ok = true ∨ ok = false := by cases ok <;> simp
        · obtain ⟨q, hq, hqk⟩ := hF.hit.1 rfl
          obtain ⟨hil, hie⟩ := List.getElem?_eq_some_iff.1 hq
          obtain ⟨g, cap, rest, rfl, hg, hBg, hnc, hcm, hln⟩ := hO5.open (by omega)
          have hsp1 : ps.flatMap PR.cells = (ps.take i).flatMap PR.cells ++ (q.cells ++ (ps.drop (i + 1)).flatMap PR.cells) := by
            have h1 : ps = ps.take i ++ (q :: ps.drop (i + 1)) := by rw [← hie]; simp
            have h2 := congrArg (List.flatMap PR.cells) h1
            rwa [List.flatMap_append, List.flatMap_cons] at h2
          have hrl : rest.length = (cap - ps.length) * 2 := by rw [List.length_append, prc_len] at hln; omega
          have htl : ((ps.take i).flatMap PR.cells).length = i * 2 := by rw [prc_len, List.length_take]; omega
          rw [hsp1, List.append_assoc, List.append_assoc] at hBg
          rw [if_pos rfl] at hput
          repeat (first | exact trivial | refine stp ?_ | refine ldCg ?_ | refine ldNg ?_ | refine ldSg ?_ | refine ldSb ?_ | refine bnd ?_ | refine bnd1 ?_ | refine drawQ (by decide +kernel) mixed (by decide +kernel) ?_)
          refine stSeg hBg htl (vs := [.slice ka kn kc, .slice va vn vc]) rfl (by rw [c47]; decide) (by rw [c47]; rfl) rfl (by simp [oneCellV]) (fun w6 hP6 => ?_)
          have hz6 := hP6.size
          have hB6 := hP6.blk
          have hBe : (ps.take i).flatMap PR.cells ++ ([.slice ka kn kc, .slice va vn vc] ++ ((ps.drop (i + 1)).flatMap PR.cells ++ rest)) = (ps.take i ++ (⟨.slice ka kn kc, .slice va vn vc, x.k, x.v⟩ : PR) :: ps.drop (i + 1)).flatMap PR.cells ++ rest := by
            simp [PR.cells]
          rw [hBe] at hB6
          have hO6 := own_mk (sz := 2) hB6 hg (n := ps.length) (by rw [prc_len, List.length_append, List.length_cons, List.length_take, List.length_drop]; omega) hrl hnc hcm
          have hK6 : KeepS S w w6 := KeepS.of_ext Ext.go
          have hps6 := PairsS.ins (S := fun k => S k ∨ w.heap.size ≤ k) hO6 (fun k h => Or.inr (by omega)) (fun q hq => ⟨((hb.prs.2 q hq).1.keep hK6).mono (fun k h => Or.inl h), ((hb.prs.2 q hq).2.keep hK6).mono (fun k h => Or.inl h)⟩) ⟨(hk.keep hK6).mono (fun k h => Or.inl h), (hv.keep hK6).mono (fun k h => Or.inl h)⟩
          have hdat : (ps.take i ++ (⟨.slice ka kn kc, .slice va vn vc, x.k, x.v⟩ : PR) :: ps.drop (i + 1)).map PR.dat = (putI m x).map It.pr := by
            rw [hput, List.map_append, List.map_append, List.map_cons, List.map_cons, List.map_take, List.map_take, List.map_drop, List.map_drop, hb.dat]
            rfl
          repeat (first | exact trivial | refine stp ?_ | refine ldCg ?_ | refine ldNg ?_ | refine ldSg ?_ | refine ldSb ?_ | refine bnd ?_ | refine bnd1 ?_ | refine drawQ (by decide +kernel) mixed (by decide +kernel) ?_)
          refine (pour_ok nn b top x.D hxl _ _ w6 (hW.ext .go) .go hps6.at (hOM.bucket_le hdat (by have := putI_len m x; omega))).mono ?_
          rintro _ w7 ⟨g7, rfl, hg7, hB7, hE7⟩
          repeat (first | exact trivial | refine stp ?_ | refine ldCg ?_ | refine ldNg ?_ | refine ldSg ?_ | refine ldSb ?_ | refine bnd ?_ | refine bnd1 ?_ | refine drawQ (by decide +kernel) mixed (by decide +kernel) ?_)
          exact ⟨NodeAt.mk_bk hsp.1 (Or.inr (by omega)) hB7 hsp.2 (hps6.keep (KeepS.of_ext hE7)) hdat, .go⟩
        · rw [if_neg (by decide)] at hput
          have hil := hF.le
          have hsp1 : ps.flatMap PR.cells = (ps.take i).flatMap PR.cells ++ (ps.drop i).flatMap PR.cells := by rw [← List.flatMap_append, List.take_append_drop]
          obtain ⟨a5, c5, rfl⟩ := own_slice hO5
          repeat (first | exact trivial | refine stp ?_ | refine ldCg ?_ | refine ldNg ?_ | refine ldSg ?_ | refine ldSb ?_ | refine bnd ?_ | refine bnd1 ?_ | refine drawQ (by decide +kernel) mixed (by decide +kernel) ?_)
          refine ⟨rfl, rfl, ?_⟩
          first | refine newS ?_ | refine newZ ?_
          intro w6 hE6 hz6 hB6
          have htop := hO5.top
          rw [hsp1] at hO5
          refine (InsP_ok _ _ [.slice ka kn kc, .slice va vn vc] i ps.length (by rw [prc_len, List.length_take]; omega) (by rw [prc_len, List.length_drop]) hil rfl (by simp [oneCellV]) (fun u hu => hpa.one u (by rw [hsp1]; exact List.mem_append.2 (Or.inr hu))) _ w4.heap.size w5.heap.size w6 (hO5.ext hE6) (by omega) .go (fun h => by have := htop _ h; omega) (by omega)).mono ?_
          rintro v7 w7 ⟨hO7, hE7, _⟩
          have hz7 := hE7.size
          have hBe : (ps.take i).flatMap PR.cells ++ ([.slice ka kn kc, .slice va vn vc] ++ (ps.drop i).flatMap PR.cells) = (ps.take i ++ (⟨.slice ka kn kc, .slice va vn vc, x.k, x.v⟩ : PR) :: ps.drop i).flatMap PR.cells := by
            simp [PR.cells]
          rw [hBe] at hO7
          have hK7 : KeepS S w w7 := KeepS.of_ext Ext.go
          have hps7 := PairsS.ins (S := fun k => S k ∨ w.heap.size ≤ k) hO7 (fun k h => Or.inr (by omega)) (fun q hq => ⟨((hb.prs.2 q hq).1.keep hK7).mono (fun k h => Or.inl h), ((hb.prs.2 q hq).2.keep hK7).mono (fun k h => Or.inl h)⟩) ⟨(hk.keep hK7).mono (fun k h => Or.inl h), (hv.keep hK7).mono (fun k h => Or.inl h)⟩
          have hdat : (ps.take i ++ (⟨.slice ka kn kc, .slice va vn vc, x.k, x.v⟩ : PR) :: ps.drop i).map PR.dat = (putI m x).map It.pr := by
            rw [hput, List.map_append, List.map_append, List.map_cons, List.map_cons, List.map_take, List.map_take, List.map_drop, List.map_drop, hb.dat]
            rfl
          obtain ⟨a7, c7, rfl⟩ := own_slice hO7
          repeat (first | exact trivial | refine stp ?_ | refine ldCg ?_ | refine ldNg ?_ | refine ldSg ?_ | refine ldSb ?_ | refine bnd ?_ | refine bnd1 ?_ | refine drawQ (by decide +kernel) mixed (by decide +kernel) ?_)
          refine (pour_ok nn b top x.D hxl _ _ w7 (hW.ext .go) .go hps7.at (hOM.bucket_le hdat (by have := putI_len m x; omega))).mono ?_
          rintro _ w8 ⟨g8, rfl, hg8, hB8, hE8⟩
          repeat (first | exact trivial | refine stp ?_ | refine ldCg ?_ | refine ldNg ?_ | refine ldSg ?_ | refine ldSb ?_ | refine bnd ?_ | refine bnd1 ?_ | refine drawQ (by decide +kernel) mixed (by decide +kernel) ?_)
          exact ⟨NodeAt.mk_bk hsp.1 (Or.inr (by omega)) hB8 hsp.2 (hps7.keep (KeepS.of_ext hE8)) hdat, .go⟩
      · rw [decide_eq_false hdx]
        repeat (first | exact trivial | refine stp ?_ | refine ldCg ?_ | refine ldNg ?_ | refine ldSg ?_ | refine ldSb ?_ | refine bnd ?_ | refine bnd1 ?_ | refine drawQ (by decide +kernel) mixed (by decide +kernel) ?_)
        intro w3 hE3
        have hz3 := hE3.size
        repeat (first | exact trivial | refine stp ?_ | refine ldCg ?_ | refine ldNg ?_ | refine ldSg ?_ | refine ldSb ?_ | refine bnd ?_ | refine bnd1 ?_ | refine drawQ (by decide +kernel) mixed (by decide +kernel) ?_)
        refine ⟨rfl, rfl, ?_⟩
        first | refine newS ?_ | refine newZ ?_
        intro w4 hE4 hz4 hB4
        have hpsx := hpq (Ext.go (b := w4)) (by omega) hB4
        refine (pour_ok nn b top x.D hxl _ _ w4 (hW.ext .go) .go hpsx.at (hO1.bucket_le rfl (by simp))).mono ?_
        rintro _ w5 ⟨g, rfl, hg, hB5, hE5⟩
        have hz5 := hE5.size
        have hK5 : KeepS S w w5 := KeepS.of_ext Ext.go
        have hbx : BkIn nn (fun k => S k ∨ w.heap.size ≤ k) w5 [x] g _ _ := ⟨Or.inr (by omega), hB5, hpsx.keep (KeepS.of_ext hE5), rfl⟩
        have hbm := (hb.keep hK5).mono (S' := fun k => S k ∨ w.heap.size ≤ k) (fun k h => Or.inl h)
        have hmem : ∀ y, y ∈ putI m x ↔ y ∈ m ∨ y ∈ [x] := by
          intro y
          constructor
          · intro h
            rcases mem_putI h with rfl | h
            · exact Or.inr (by simp)
            · exact Or.inl h
          · rintro (h | h)
            · refine putI_mem_old h fun h0 => hdx ?_
              rw [headD_mem hs h]
              exact ((cmpIt_eq y x).1 h0).1
            · rw [List.mem_singleton.1 h]
              exact putI_mem_self m x
        repeat (first | exact trivial | refine stp ?_ | refine ldCg ?_ | refine ldNg ?_ | refine ldSg ?_ | refine ldSb ?_ | refine bnd ?_ | refine bnd1 ?_ | refine drawQ (by decide +kernel) mixed (by decide +kernel) ?_)
        refine (join_ok nn hw _ b top f d m [x] (putI m x) b4 g _ _ _ _ w5 (hW.ext .go) .go hbm hbx hne (by simp) hs hs1 hO.sorted hO1.sorted hOM hmem hdx (hP.sub fun y hy => by rcases mem_putI hy with rfl | hy; exact List.mem_cons_self; exact List.mem_cons_of_mem _ hy) hdf (by have := putI_len m x; omega)).mono ?_
        rintro v6 w6 ⟨hN6, hE6⟩
        obtain ⟨t6, u6, rfl⟩ := hN6.iface
        repeat (first | exact trivial | refine stp ?_ | refine ldCg ?_ | refine ldNg ?_ | refine ldSg ?_ | refine ldSb ?_ | refine bnd ?_ | refine bnd1 ?_ | refine drawQ (by decide +kernel) mixed (by decide +kernel) ?_)
        exact ⟨hN6.mono (fun k h => h.elim id (fun h => Or.inr (by omega))), .go⟩
    · have hB4 := hb.blk
      have hb4l := hB4.lt
      have hbm := bmI_lt m d
      have hPm : Pre d m := hP.sub fun y hy => List.mem_cons_of_mem _ hy
      have hPM : Pre d (putI m x) := hP.sub fun y hy => by rcases mem_putI hy with rfl | hy; exact List.mem_cons_self; exact List.mem_cons_of_mem _ hy
      have hdn := br_depth hs hPm (hO.form hw)
      have hfx : formB nn x.D = true := by rw [hxD]; unfold keyD; exact form_sumR nn _ hw
      have hat := atP_dig (by omega) (by omega) hxl hfx hdn
      have hd16 := digP_lt x.D d
      have hkv := hb.kids
      obtain ⟨qa, qc, rfl⟩ := slv_of hkv.sl
      have hvl := hb.len
      have hc16 := cnt_le (bmI m d)
      have hrle := rank_le (bmI m d) (digP x.D d : Int)
      have hsM := single_put_not (x := x) hs
      have hwith := with_put hO.sorted x d
      refine enterT Tryz.func101 rfl Tryz.ntmps101 Tryz.results101 rfl (by decide) ?_
      repeat (first | exact trivial | refine stp ?_ | refine ldCg ?_ | refine ldNg ?_ | refine ldSg ?_ | refine ldSb ?_ | refine bnd ?_ | refine bnd1 ?_ | refine drawQ (by decide +kernel) mixed (by decide +kernel) ?_)
      first | refine newS ?_ | refine newZ ?_
      intro w1 hE1 hz1 hB1
      repeat (first | exact trivial | refine stp ?_ | refine ldCg ?_ | refine ldNg ?_ | refine ldSg ?_ | refine ldSb ?_ | refine bnd ?_ | refine bnd1 ?_ | refine drawQ (by decide +kernel) mixed (by decide +kernel) ?_)
      first | refine newS ?_ | refine newZ ?_
      intro w2 hE2 hz2 hB2
      repeat (first | exact trivial | refine stp ?_ | refine ldCg ?_ | refine ldNg ?_ | refine ldSg ?_ | refine ldSb ?_ | refine bnd ?_ | refine bnd1 ?_ | refine drawQ (by decide +kernel) mixed (by decide +kernel) ?_)
      refine (digit_hamt_ok nn b top x.D hxl d w2 .go).mono ?_
      rintro _ w3 ⟨rfl, hE3⟩
      have hz3 := hE3.size
      rw [hat]
      repeat (first | exact trivial | refine stp ?_ | refine ldCg ?_ | refine ldNg ?_ | refine ldSg ?_ | refine ldSb ?_ | refine bnd ?_ | refine bnd1 ?_ | refine drawQ (by decide +kernel) mixed (by decide +kernel) ?_)
      refine (Rank_ok (bmI m d) hbm (digP x.D d) w3).mono ?_
      rintro _ w4 ⟨rfl, hE4⟩
      have hz4 := hE4.size
      repeat (first | exact trivial | refine stp ?_ | refine ldCg ?_ | refine ldNg ?_ | refine ldSg ?_ | refine ldSb ?_ | refine bnd ?_ | refine bnd1 ?_ | refine drawQ (by decide +kernel) mixed (by decide +kernel) ?_)
      refine (ClnN_ok vs vs.length _ w4 (hkv.sl.ext .go) (by omega) hb.one (by omega)).mono ?_
      rintro v5 w5 ⟨hO5, hE5⟩
      have hz5 := hE5.size
      repeat (first | exact trivial | refine stp ?_ | refine ldCg ?_ | refine ldNg ?_ | refine ldSg ?_ | refine ldSb ?_ | refine bnd ?_ | refine bnd1 ?_ | refine drawQ (by decide +kernel) mixed (by decide +kernel) ?_)
      refine (Has_ok (bmI m d) hbm (digP x.D d) w5).mono ?_
      rintro _ w6 ⟨rfl, hE6⟩
      have hz6 := hE6.size
      rw [bmI_has, decide_eq_true hd16, Bool.true_and]
      obtain ⟨a5, c5, rfl⟩ := own_slice hO5
      cases hh : hasI m d (digP x.D d)
      · repeat (first | exact trivial | refine stp ?_ | refine ldCg ?_ | refine ldNg ?_ | refine ldSg ?_ | refine ldSb ?_ | refine bnd ?_ | refine bnd1 ?_ | refine drawQ (by decide +kernel) mixed (by decide +kernel) ?_)
        refine ⟨rfl, rfl, ?_⟩
        first | refine newS ?_ | refine newZ ?_
        intro w7 hE7 hz7 hB7
        have hpsx := hpq (Ext.go (b := w7)) (by omega) hB7
        refine (pour_ok nn b top x.D hxl _ _ w7 (hW.ext .go) .go hpsx.at (hO1.bucket_le rfl (by simp))).mono ?_
        rintro _ w8 ⟨g, rfl, hg, hB8, hE8⟩
        have hz8 := hE8.size
        repeat (first | exact trivial | refine stp ?_ | refine ldCg ?_ | refine ldNg ?_ | refine ldSg ?_ | refine ldSb ?_ | refine bnd ?_ | refine bnd1 ?_ | refine drawQ (by decide +kernel) mixed (by decide +kernel) ?_)
        refine ⟨rfl, rfl, ?_⟩
        first | refine newS ?_ | refine newZ ?_
        intro w9 hE9 hz9 hB9
        have hB9' : Blk w9 w8.heap.size 140 [bkV g] := hB9
        have htop := hO5.top
        rw [show vs = vs.take (rankB (bmI m d) (digP x.D d : Int)) ++ vs.drop (rankB (bmI m d) (digP x.D d : Int)) from (List.take_append_drop _ _).symm, List.take_append_drop] at hO5
        have hO9 : Own w9 w4.heap.size 140 1 (.slice a5 vs.length c5) vs.length (vs.take (rankB (bmI m d) (digP x.D d : Int)) ++ vs.drop (rankB (bmI m d) (digP x.D d : Int))) := by rw [List.take_append_drop]; exact hO5.ext Ext.go
        refine (InsN_ok _ _ [bkV g] (rankB (bmI m d) (digP x.D d : Int)) vs.length (by rw [List.length_take]; omega) (by rw [List.length_drop]; omega) (by omega) rfl (by simp [oneCellV]) (fun u hu => hb.one u (List.mem_of_mem_drop hu)) _ w4.heap.size w8.heap.size w9 hO9 (by omega) hB9' (fun h => by have := htop _ h; omega) (by omega)).mono ?_
        rintro v10 w10 ⟨hO10, hE10, hY10⟩
        have hz10 := hE10.size
        obtain ⟨a10, c10, rfl⟩ := own_slice hO10
        repeat (first | exact trivial | refine stp ?_ | refine ldCg ?_ | refine ldNg ?_ | refine ldSg ?_ | refine ldSb ?_ | refine bnd ?_ | refine bnd1 ?_ | refine drawQ (by decide +kernel) mixed (by decide +kernel) ?_)
        refine (With_ok (bmI m d) hbm (digP x.D d) w10).mono ?_
        rintro _ w11 ⟨rfl, hE11⟩
        have hz11 := hE11.size
        rw [hwith]
        repeat (first | exact trivial | refine stp ?_ | refine ldCg ?_ | refine ldNg ?_ | refine ldSg ?_ | refine ldSb ?_ | refine bnd ?_ | refine bnd1 ?_ | refine drawQ (by decide +kernel) mixed (by decide +kernel) ?_)
        have hK11 : KeepS S w w11 := KeepS.of_ext Ext.go
        have hNx : NodeAt nn (fun k => S k ∨ w.heap.size ≤ k) w11 f' (d + 1) [x] (bkV g) := NodeAt.mk_bk hs1 (Or.inr (by omega)) ((hY10 _ _ _ (fun h => by have := htop _ h; omega) (hB8.ext hE9)).ext hE11) rfl (hpq Ext.go (by omega) ((hY10 _ _ _ (fun h => by have := htop _ h; omega) (Blk.go (h := hB7))).ext hE11)) rfl
        have hvs1 : (vs.take (rankB (bmI m d) (digP x.D d : Int)) ++ bkV g :: vs.drop (rankB (bmI m d) (digP x.D d : Int))).length = vs.length + 1 := by rw [List.length_append, List.length_cons, List.length_take, List.length_drop]; omega
        obtain ⟨hcn, hkk⟩ := kids_ins (P := fun l y => NodeAt nn (fun k => S k ∨ w.heap.size ≤ k) w11 f' (d + 1) l y) hO.sorted hh hvl (fun c hc => by obtain ⟨y, h1, h2⟩ := hkids c hc; exact ⟨y, h1, (h2.keep hK11).mono (fun k h => Or.inl h)⟩) hNx
        have h1v : ∀ u ∈ vs.take (rankB (bmI m d) (digP x.D d : Int)) ++ bkV g :: vs.drop (rankB (bmI m d) (digP x.D d : Int)), oneCellV u = true := by
          intro u hu
          rcases List.mem_append.1 hu with hu | hu
          · exact hb.one u (List.mem_of_mem_take hu)
          · rcases List.mem_cons.1 hu with rfl | hu
            · rfl
            · exact hb.one u (List.mem_of_mem_drop hu)
        have hO11 : Own w11 w4.heap.size 140 1 (.slice a10 (vs.length + 1) c10) (vs.length + 1) (vs.take (rankB (bmI m d) (digP x.D d : Int)) ++ bkV g :: vs.drop (rankB (bmI m d) (digP x.D d : Int))) := hO10.ext hE11
        generalize vs.take (rankB (bmI m d) (digP x.D d : Int)) ++ bkV g :: vs.drop (rankB (bmI m d) (digP x.D d : Int)) = us at *
        rw [← hvs1] at hO11 ⊢
        refine (fork_ok nn hw _ f' d b top _ us (putI m x) w11 (hW.ext .go) .go (SlC.of_own hO11) h1v (by omega) hkk hOM.sorted hPM (by omega) (by have := putI_len m x; omega)).mono ?_
        rintro _ w12 ⟨g12, rfl, hg12, hB12, hE12⟩
        repeat (first | exact trivial | refine stp ?_ | refine ldCg ?_ | refine ldNg ?_ | refine ldSg ?_ | refine ldSb ?_ | refine bnd ?_ | refine bnd1 ?_ | refine drawQ (by decide +kernel) mixed (by decide +kernel) ?_)
        refine ⟨?_, .go⟩
        rw [hf']
        exact NodeAt.mk_br hsM (Or.inr (by omega)) hB12 (SlS.of_own (hO11.ext hE12) (fun k h => Or.inr (by omega))) h1v (by omega) (fun c hc => by obtain ⟨y, h1, h2⟩ := hkk c hc; exact ⟨y, h1, h2.ext hE12⟩)
      · obtain ⟨y, hy, hNy⟩ := hkids _ hh
        have hrl := (List.getElem?_eq_some_iff.1 hy).1
        obtain ⟨g, cap, rest, hge, hg, hBg, hnc, hcm, hln⟩ := hO5.open (by omega)
        obtain ⟨rfl, rfl⟩ : a5 = some ⟨g, 0, none⟩ ∧ c5 = cap := by cases hge; exact ⟨rfl, rfl⟩
        repeat (first | exact trivial | refine stp ?_ | refine ldCg ?_ | refine ldNg ?_ | refine ldSg ?_ | refine ldSb ?_ | refine bnd ?_ | refine bnd1 ?_ | refine drawQ (by decide +kernel) mixed (by decide +kernel) ?_)
        refine drawX (.of [0, 1, 2, 3, 4, 5, 6, 7, 8, 9, 10, 11, 12, 13]) mixed (by decide +kernel) (fun w7 hE7 hz7 => ?_)
        repeat (first | exact trivial | refine stp ?_ | refine ldCg ?_ | refine ldNg ?_ | refine ldSg ?_ | refine ldSb ?_ | refine bnd ?_ | refine bnd1 ?_ | refine drawQ (by decide +kernel) mixed (by decide +kernel) ?_)
        refine ldSg (v := y) ?_ (by intro w' hw'; refine stp ?_; exact ldCg rfl (hv := by rw [List.getElem?_append_left (by omega)]; exact hy))
        repeat (first | exact trivial | refine stp ?_ | refine ldCg ?_ | refine ldNg ?_ | refine ldSg ?_ | refine ldSb ?_ | refine bnd ?_ | refine bnd1 ?_ | refine drawQ (by decide +kernel) mixed (by decide +kernel) ?_)
        rw [show IntKind.i64.wrap ((d : Int) + 1) = ((d + 1 : Nat) : Int) from by rw [w64 (by omega) (by omega)]; omega]
        have hK7 : KeepS S w w7 := KeepS.of_ext Ext.go
        have hcl : (childI m d (digP x.D d)).length ≤ m.length := List.length_filter_le _ _
        have hPc : Pre (d + 1) (x :: childI m d (digP x.D d)) := by
          have h1 := hP.child (digP x.D d)
          unfold childI at h1 ⊢
          rwa [List.filter_cons_of_pos (by simp)] at h1
        refine (ih f' (by omega) (d + 1) (childI m d (digP x.D d)) y w7 (hW.ext .go) .go ⟨fun h => absurd h (child_ne hh), fun _ => hNy.keep hK7⟩ (hO.child _ _) hPc (hk.keep hK7) (hv.keep hK7) (by omega) (by omega) (fun k h => by have := hSl k h; omega)).mono ?_
        rintro v8 w8 ⟨hN8, hE8⟩
        have hz8 := hE8.size
        refine toldX ?_
        obtain ⟨t8, u8, rfl⟩ := hN8.iface
        repeat (first | exact trivial | refine stp ?_ | refine ldCg ?_ | refine ldNg ?_ | refine ldSg ?_ | refine ldSb ?_ | refine bnd ?_ | refine bnd1 ?_ | refine drawQ (by decide +kernel) mixed (by decide +kernel) ?_)
        have hsp : vs ++ rest = vs.take (rankB (bmI m d) (digP x.D d : Int)) ++ (y :: (vs.drop (rankB (bmI m d) (digP x.D d : Int) + 1) ++ rest)) := by
          have h1 := (List.getElem?_eq_some_iff.1 hy).2
          have h2 : vs = vs.take (rankB (bmI m d) (digP x.D d : Int)) ++ (y :: vs.drop (rankB (bmI m d) (digP x.D d : Int) + 1)) := by rw [← h1]; simp
          rw [← List.cons_append, ← List.append_assoc, ← h2]
        have hBg8 : Blk w8 g 140 (vs.take (rankB (bmI m d) (digP x.D d : Int)) ++ (y :: (vs.drop (rankB (bmI m d) (digP x.D d : Int) + 1) ++ rest))) := by rw [← hsp]; exact Blk.go
        refine stAt c140 hBg8 (by rw [List.length_take]; omega) rfl rfl (fun w9 hP9 => ?_)
        have hz9 := hP9.size
        have hB9 := hP9.blk
        have hse : vs.take (rankB (bmI m d) (digP x.D d : Int)) ++ (.iface t8 u8 :: (vs.drop (rankB (bmI m d) (digP x.D d : Int) + 1) ++ rest)) = vs.set (rankB (bmI m d) (digP x.D d : Int)) (.iface t8 u8) ++ rest := by
          rw [List.set_eq_take_append_cons_drop, if_pos hrl, List.append_assoc]
          rfl
        rw [hse] at hB9
        refine toldZ ?_
        repeat (first | exact trivial | refine stp ?_ | refine ldCg ?_ | refine ldNg ?_ | refine ldSg ?_ | refine ldSb ?_ | refine bnd ?_ | refine bnd1 ?_ | refine drawQ (by decide +kernel) mixed (by decide +kernel) ?_)
        refine (With_ok (bmI m d) hbm (digP x.D d) w9).mono ?_
        rintro _ w10 ⟨rfl, hE10⟩
        have hz10 := hE10.size
        rw [hwith]
        repeat (first | exact trivial | refine stp ?_ | refine ldCg ?_ | refine ldNg ?_ | refine ldSg ?_ | refine ldSb ?_ | refine bnd ?_ | refine bnd1 ?_ | refine drawQ (by decide +kernel) mixed (by decide +kernel) ?_)
        have hK89 : KeepS (fun k => S k ∨ w7.heap.size ≤ k) w8 w9 := KeepS.put hP9 (fun h => by rcases h with h | h; have := hSl g h; omega; have := hBg.lt; omega)
        have hN10 : NodeAt nn (fun k => S k ∨ w.heap.size ≤ k) w10 f' (d + 1) (putI (childI m d (digP x.D d)) x) (.iface t8 u8) := ((hN8.keep hK89).keep (KeepS.of_ext hE10)).mono (fun k h => h.imp id (fun h => by omega))
        have hK10 : KeepS S w w10 := KeepS.of_ext Ext.go
        obtain ⟨hbe, hkk⟩ := kids_set (P := fun l y => NodeAt nn (fun k => S k ∨ w.heap.size ≤ k) w10 f' (d + 1) l y) hO.sorted hh (fun c hc => by obtain ⟨y, h1, h2⟩ := hkids c hc; exact ⟨y, h1, (h2.keep hK10).mono (fun k h => Or.inl h)⟩) hN10
        have h1v : ∀ u ∈ vs.set (rankB (bmI m d) (digP x.D d : Int)) (.iface t8 u8), oneCellV u = true := by
          intro u hu
          rcases List.mem_or_eq_of_mem_set hu with hu | rfl
          · exact hb.one u hu
          · rfl
        have hul : (vs.set (rankB (bmI m d) (digP x.D d : Int)) (.iface t8 u8)).length = vs.length := List.length_set
        have hO10 : Own w10 w4.heap.size 140 1 (.slice (some ⟨g, 0, none⟩) vs.length c5) vs.length (vs.set (rankB (bmI m d) (digP x.D d : Int)) (.iface t8 u8)) := own_mk (hB9.ext hE10) hg (by omega) (by rw [List.length_append] at hln; omega) hnc hcm
        generalize vs.set (rankB (bmI m d) (digP x.D d : Int)) (.iface t8 u8) = us at *
        rw [← hul] at hO10 ⊢
        refine (fork_ok nn hw _ f' d b top _ us (putI m x) w10 (hW.ext .go) .go (SlC.of_own hO10) h1v (by rw [hul, hvl, hbe]) hkk hOM.sorted hPM (by omega) (by have := putI_len m x; omega)).mono ?_
        rintro _ w12 ⟨g12, rfl, hg12, hB12, hE12⟩
        repeat (first | exact trivial | refine stp ?_ | refine ldCg ?_ | refine ldNg ?_ | refine ldSg ?_ | refine ldSb ?_ | refine bnd ?_ | refine bnd1 ?_ | refine drawQ (by decide +kernel) mixed (by decide +kernel) ?_)
        refine ⟨?_, .go⟩
        rw [hf']
        exact NodeAt.mk_br hsM (Or.inr (by omega)) hB12 (SlS.of_own (hO10.ext hE12) (fun k h => Or.inr (by omega))) h1v (by rw [hul, hvl, hbe]) (fun c hc => by obtain ⟨y, h1, h2⟩ := hkk c hc; exact ⟨y, h1, h2.ext hE12⟩)
theorem Put_hamt_ok (n : Int) (hw : widB n = true) (S : Nat → Prop) (mv kv vv : Value) (m : List It) (key val : List UInt8) (w : World) (hW : WordsAt w 1) (h : MapAt n S w mv m) (hO : OkI n m) (hk : SlB w kv key) (hv : SlB w vv val) (hml : m.length ≤ 900000000) :
    CallK Tryz.prog 46 [mv, kv, vv].toArray w fun r w' => (∃ rv, r = .tuple [rv, .int .i64 (if 64 < key.length ∨ 256 < val.length then 2 else 0 : Nat)].toArray ∧
      (64 < key.length ∨ 256 < val.length → rv = .pointer none) ∧ (¬ (64 < key.length ∨ 256 < val.length) → MapAt n (fun k => S k ∨ w.heap.size ≤ k) w' rv (putI m ⟨keyD n key, key, val⟩))) ∧ Ext w w' := by
  obtain ⟨b, top, rfl, hS, hB, hT1, hT2⟩ := h
  have hwn := (widB_iff n).1 hw
  obtain ⟨nn, rfl⟩ : ∃ nn : Nat, n = nn := ⟨n.toNat, by omega⟩
  obtain ⟨va, vc, rfl⟩ := slv_of hv
  refine enterT Tryz.func46 rfl Tryz.ntmps46 Tryz.results46 rfl (by decide) ?_
  repeat (first | exact trivial | refine stp ?_ | refine ldCg ?_ | refine ldNg ?_ | refine ldSg ?_ | refine ldSb ?_ | refine bnd ?_ | refine bnd1 ?_ | refine drawQ (by decide +kernel) mixed (by decide +kernel) ?_)
  refine (check_hamt_ok nn b top key kv w hW hB hk hw).mono ?_
  rintro _ w1 ⟨D, hDl, rfl, hD, hE1⟩
  have hz1 := hE1.size
  have hbl := hB.lt
  by_cases h64 : 64 < key.length
  · rw [if_pos h64, if_pos (Or.inl h64)]
    repeat (first | exact trivial | refine stp ?_ | refine ldCg ?_ | refine ldNg ?_ | refine ldSg ?_ | refine ldSb ?_ | refine bnd ?_ | refine bnd1 ?_ | refine drawQ (by decide +kernel) mixed (by decide +kernel) ?_)
    first | refine newS ?_ | refine newZ ?_
    intro w2 hE2 hz2 hB2
    repeat (first | exact trivial | refine stp ?_ | refine ldCg ?_ | refine ldNg ?_ | refine ldSg ?_ | refine ldSb ?_ | refine bnd ?_ | refine bnd1 ?_ | refine drawQ (by decide +kernel) mixed (by decide +kernel) ?_)
    exact ⟨⟨_, rfl, fun _ => rfl, fun h => absurd (Or.inl h64) h⟩, .go⟩
  obtain rfl := hD (by omega)
  rw [if_neg h64]
  repeat (first | exact trivial | refine stp ?_ | refine ldCg ?_ | refine ldNg ?_ | refine ldSg ?_ | refine ldSb ?_ | refine bnd ?_ | refine bnd1 ?_ | refine drawQ (by decide +kernel) mixed (by decide +kernel) ?_)
  first | refine newS ?_ | refine newZ ?_
  intro w2 hE2 hz2 hB2
  repeat (first | exact trivial | refine stp ?_ | refine ldCg ?_ | refine ldNg ?_ | refine ldSg ?_ | refine ldSb ?_ | refine bnd ?_ | refine bnd1 ?_ | refine drawQ (by decide +kernel) mixed (by decide +kernel) ?_)
  refine ⟨fun hlt => ?_, fun hge => ?_⟩
  · have hc : 64 < key.length ∨ 256 < val.length := Or.inr (by omega)
    rw [if_pos hc]
    repeat (first | exact trivial | refine stp ?_ | refine ldCg ?_ | refine ldNg ?_ | refine ldSg ?_ | refine ldSb ?_ | refine bnd ?_ | refine bnd1 ?_ | refine drawQ (by decide +kernel) mixed (by decide +kernel) ?_)
    exact ⟨⟨_, rfl, fun _ => rfl, fun h => absurd hc h⟩, .go⟩
  · have hc : ¬ (64 < key.length ∨ 256 < val.length) := by omega
    rw [if_neg hc]
    refine drawX (.of [0, 1, 2, 3, 4, 5, 6, 7, 8, 9, 10, 11, 12, 13, 14, 15, 16, 17]) mixed (by decide +kernel) (fun w3 hE3 hz3 => ?_)
    repeat (first | exact trivial | refine stp ?_ | refine ldCg ?_ | refine ldNg ?_ | refine ldSg ?_ | refine ldSb ?_ | refine bnd ?_ | refine bnd1 ?_ | refine drawQ (by decide +kernel) mixed (by decide +kernel) ?_)
    refine (twin_hamt_ok key val kv _ w3 (hk.ext .go) (hv.ext .go) (by omega) (by omega)).mono ?_
    rintro _ w4 ⟨ka, kn, kc, va', vn, vc', rfl, hRB, hE4⟩
    have hz4 := hE4.size
    obtain ⟨mid, hm1, hQ1, mid2, hm2, hQ2, hm3⟩ := hRB
    have hkl : kn = key.length := by obtain ⟨a', c', e⟩ := own_slice hQ1.own; cases e; rfl
    have hvl : vn = val.length := by obtain ⟨a', c', e⟩ := own_slice hQ2.own; cases e; rfl
    subst hkl hvl
    refine toldX ?_
    repeat (first | exact trivial | refine stp ?_ | refine ldCg ?_ | refine ldNg ?_ | refine ldSg ?_ | refine ldSb ?_ | refine bnd ?_ | refine bnd1 ?_ | refine drawQ (by decide +kernel) mixed (by decide +kernel) ?_)
    have hK4 : KeepS S w w4 := KeepS.of_ext Ext.go
    have hks : SlS (SLt (fun k => S k ∨ w.heap.size ≤ k) w4) w4 (.slice ka key.length kc) key.length (vbs key) := (SlS.of_own hQ1.own (fun k h => Or.inr (by omega))).lt
    have hvs : SlS (SLt (fun k => S k ∨ w.heap.size ≤ k) w4) w4 (.slice va' val.length vc') val.length (vbs val) := (SlS.of_own hQ2.own (fun k h => Or.inr (by omega))).lt
    refine (put_ok nn hw (SLt (fun k => S k ∨ w.heap.size ≤ k) w4) b top ⟨keyD nn key, key, val⟩ ka va' key.length kc val.length vc' rfl ⟨by simp only; omega, by simp only; omega⟩ 64 0 m top w4 (hW.ext .go) .go
      ⟨hT1, fun hm => (((hT2 hm).keep hK4).mono (fun k h => Or.inl h)).inlt⟩ hO ⟨fun y hy => by rcases List.mem_cons.1 hy with rfl | hy; exact keyD_len _ _; exact hO.len y hy, fun _ _ _ _ j hj => by omega⟩ hks hvs rfl hml (fun k h => h.2)).mono ?_
    rintro v5 w5 ⟨hN5, hE5⟩
    have hz5 := hE5.size
    obtain ⟨t5, u5, rfl⟩ := hN5.iface
    refine toldX ?_
    repeat (first | exact trivial | refine stp ?_ | refine ldCg ?_ | refine ldNg ?_ | refine ldSg ?_ | refine ldSb ?_ | refine bnd ?_ | refine bnd1 ?_ | refine drawQ (by decide +kernel) mixed (by decide +kernel) ?_)
    refine bldC [.int .i64 nn, .iface t5 u5] (by kernel_rfl) ?_
    repeat (first | exact trivial | refine stp ?_ | refine ldCg ?_ | refine ldNg ?_ | refine ldSg ?_ | refine ldSb ?_ | refine bnd ?_ | refine bnd1 ?_ | refine drawQ (by decide +kernel) mixed (by decide +kernel) ?_)
    first | refine newS ?_ | refine newZ ?_
    intro w6 hE6 hz6 hB6
    refine toldX ?_
    repeat (first | exact trivial | refine stp ?_ | refine ldCg ?_ | refine ldNg ?_ | refine ldSg ?_ | refine ldSb ?_ | refine bnd ?_ | refine bnd1 ?_ | refine drawQ (by decide +kernel) mixed (by decide +kernel) ?_)
    refine ⟨⟨_, rfl, fun h => absurd h hc, fun _ => ?_⟩, .go⟩
    exact ⟨w5.heap.size, .iface t5 u5, rfl, Or.inr (by omega), hB6, fun he => absurd (he ▸ putI_mem_self m _) (by simp), fun _ => (hN5.ext hE6).mono (fun k h => h.elim (fun h => h.1) (fun h => Or.inr (by omega)))⟩
end Go.Proofs.YtebbgninkbghlaaGreatDoor

/-! Rfa -/
namespace Go.Proofs.YtebbgninkbghlaaGreatDoor
set_option maxRecDepth 100000
open Go Go.RowKit
set_option linter.unusedVariables false
set_option linter.unusedSimpArgs false
attribute [local irreducible] vcT opsT qT vcOp Q1 vcPure vcLoad vcStore ldC ldN ldD grdT grdQ vc vcOps vcQ hT
attribute [local irreducible] sumR sumP shaP keyD bucketP branchP

/-! ### less, in plain Lean -/
def lessI : List UInt8 → List UInt8 → Int
  | x :: xs, y :: ys => if x = y then lessI xs ys else (x.toNat : Int) - y.toNat
  | xs, ys => (xs.length : Int) - ys.length
/-! ### Items in memory -/
structure IR where
  kv : Value
  vv : Value
  y : It
def IR.cells (p : IR) : List Value := vbs p.y.D ++ [p.kv, p.vv]
structure ItemAt (w : World) (p : IR) : Prop where
  len : p.y.D.length = 32
  key : SlB w p.kv p.y.k
  val : SlB w p.vv p.y.v
theorem ItemAt.ext {w w' : World} {p : IR} (h : ItemAt w p) (e : Ext w w') : ItemAt w' p := ⟨h.len, h.key.ext e, h.val.ext e⟩
theorem ItemAt.clen {w : World} {p : IR} (h : ItemAt w p) : p.cells.length = 34 := by unfold IR.cells; rw [List.length_append, vbs_len, h.len]; rfl
theorem ItemAt.one {w : World} {p : IR} (h : ItemAt w p) : ∀ u ∈ p.cells, oneCellV u = true := by
  intro u hu
  obtain ⟨a1, c1, e1⟩ := slv_of h.key
  obtain ⟨a2, c2, e2⟩ := slv_of h.val
  rcases List.mem_append.1 hu with hu | hu
  · exact vbs_one _ u hu
  · simp only [List.mem_cons, List.not_mem_nil, or_false] at hu
    rcases hu with rfl | rfl
    · rw [e1]; rfl
    · rw [e2]; rfl
theorem ItemAt.kc {w : World} {p : IR} (h : ItemAt w p) : p.cells[32]? = some p.kv := by unfold IR.cells; rw [List.getElem?_append_right (by rw [vbs_len, h.len]; decide), vbs_len, h.len]; rfl
theorem ItemAt.vc {w : World} {p : IR} (h : ItemAt w p) : p.cells[33]? = some p.vv := by unfold IR.cells; rw [List.getElem?_append_right (by rw [vbs_len, h.len]; decide), vbs_len, h.len]; rfl
theorem ItemAt.dig {w w0 : World} {p : IR} {b T : Nat} (h : ItemAt w0 p) (hB : Blk w b T p.cells) : SlB w (.slice (some ⟨b, 0, none⟩) 32 32) p.y.D := by
  have hl := h.len
  rw [show (32 : Nat) = p.y.D.length from hl.symm]
  refine SlC.of_part hB (by omega) (by omega) (fun j u hj => ?_)
  rw [Nat.zero_add, IR.cells, List.getElem?_append_left (List.getElem?_eq_some_iff.1 hj).1]
  exact hj
def ordI (a b : It) : Int := if lessI a.D b.D = 0 then lessI a.k b.k else lessI a.D b.D
/-! ### Put, in plain Lean -/
def rp (x : It) : Bool → List It → List It
  | done, [] => if done = true then [] else [x]
  | done, y :: r => (if done = false ∧ ordI x y ≤ 0 then [x] else []) ++ ((if ordI x y ≠ 0 then [y] else []) ++ rp x (done || decide (ordI x y ≤ 0)) r)
structure ItemsAt (w : World) (v : Value) (is : List IR) : Prop where
  sl : SlC w v is.length (is.flatMap IR.cells)
  mem : ∀ p ∈ is, ItemAt w p
theorem ItemsAt.ext {w w' : World} {v : Value} {is : List IR} (h : ItemsAt w v is) (e : Ext w w') : ItemsAt w' v is := ⟨h.sl.ext e, fun p hp => (h.mem p hp).ext e⟩
theorem ItemsAt.row {w : World} {a : Option Addr} {n c : Nat} {is : List IR} (h : ItemsAt w (.slice a n c) is) (hd : 0 < is.length) : ∃ b o, a = some ⟨b, o, none⟩ ∧ RowA w b o 34 IR.cells is := h.sl.row (fun p hp => (h.mem p hp).clen) (by decide) hd
end Go.Proofs.YtebbgninkbghlaaGreatDoor

/-! Rfb -/
namespace Go.Proofs.YtebbgninkbghlaaGreatDoor
set_option maxRecDepth 100000
open Go Go.RowKit
set_option linter.unusedVariables false
set_option linter.unusedSimpArgs false
attribute [local irreducible] vcT opsT qT vcOp Q1 vcPure vcLoad vcStore ldC ldN ldD grdT grdQ vc vcOps vcQ hT
attribute [local irreducible] sumR sumP shaP keyD bucketP branchP

/-- The items of a map that these pairs are put into, one after another. -/
def putAll (n : Int) (m : List It) (l : List (List UInt8 × List UInt8)) : List It := l.foldl (fun m p => putI m ⟨keyD n p.1, p.1, p.2⟩) m
theorem putAll_len {n : Int} : ∀ (l : List (List UInt8 × List UInt8)) (m : List It), (putAll n m l).length ≤ m.length + l.length
  | [], m => Nat.le_refl _
  | p :: l, m => by
    have h1 := putAll_len l (n := n) (putI m ⟨keyD n p.1, p.1, p.2⟩)
    have h2 := putI_len m ⟨keyD n p.1, p.1, p.2⟩
    unfold putAll at h1 ⊢
    rw [List.foldl_cons, List.length_cons]
    omega
theorem putAll_snoc (n : Int) (m : List It) (l : List (List UInt8 × List UInt8)) (p : List UInt8 × List UInt8) : putAll n m (l ++ [p]) = putI (putAll n m l) ⟨keyD n p.1, p.1, p.2⟩ := by unfold putAll; rw [List.foldl_append]; rfl
theorem ItemAt.pc {w : World} {p : IR} (h : ItemAt w p) : (p.cells.drop 32).take 2 = [p.kv, p.vv] := by
  unfold IR.cells
  rw [List.drop_append, List.drop_eq_nil_of_le (by rw [vbs_len, h.len]; decide), vbs_len, h.len]
  rfl
theorem ItemAt.dc {w : World} {p : IR} (h : ItemAt w p) : (p.cells.drop 0).take 32 = vbs p.y.D := by
  unfold IR.cells
  rw [List.drop_zero, List.take_append_of_le_length (by rw [vbs_len, h.len]; decide), vbs_tk h.len]
def IR.pr (p : IR) : PR := ⟨p.kv, p.vv, p.y.k, p.y.v⟩
/-! ### single -/
end Go.Proofs.YtebbgninkbghlaaGreatDoor

/-! Rfc -/
namespace Go.Proofs.YtebbgninkbghlaaGreatDoor
set_option maxRecDepth 100000
open Go Go.RowKit
set_option linter.unusedVariables false
set_option linter.unusedSimpArgs false
attribute [local irreducible] vcT opsT qT vcOp Q1 vcPure vcLoad vcStore ldC ldN ldD grdT grdQ vc vcOps vcQ hT
attribute [local irreducible] sumR sumP shaP keyD bucketP branchP

def NodeC (n : Nat) (f : Nat) : Prop := ∀ (d : Nat) (is : List IR) (m : List It) (mv : Value) (w : World), ItemsAt w mv is → is.map IR.y = m → OkI n m → Pre d m → m ≠ [] → d + f = 64 → is.length ≤ 90000000 →
  CallK Tryz.prog 140 [.int .i64 n, mv, .int .i64 d].toArray w fun v w' => v = .agg (vbs (nodeD n f d m)).toArray ∧ Ext w w'
end Go.Proofs.YtebbgninkbghlaaGreatDoor

/-! Ito -/
namespace Go.Proofs.YtebbgninkbghlaaGreatDoor
set_option maxRecDepth 100000
open Go Go.RowKit
set_option linter.unusedVariables false
set_option linter.unusedSimpArgs false

theorem OkI.putAll {n : Int} : ∀ (l : List (List UInt8 × List UInt8)) {m : List It}, OkI n m → (∀ p ∈ l, p.1.length ≤ 64 ∧ p.2.length ≤ 256) → OkI n (putAll n m l)
  | [], _, h, _ => h
  | p :: l, m, h, hl => OkI.putAll l (h.put rfl (hl p (by simp))) (fun q hq => hl q (by simp [hq]))
/-- The pairs that are not too long. -/
def shortP (l : List (List UInt8 × List UInt8)) : List (List UInt8 × List UInt8) := l.filter fun p => decide (¬ (64 < p.1.length ∨ 256 < p.2.length))
theorem shortP_ok (l : List (List UInt8 × List UInt8)) : ∀ p ∈ shortP l, p.1.length ≤ 64 ∧ p.2.length ≤ 256 := fun p hp => by
  have h := (List.mem_filter.1 hp).2
  rw [decide_eq_true_eq] at h
  omega
def grownI (n : Int) (l : List (List UInt8 × List UInt8)) : List It := putAll n [] (shortP l)
theorem grownI_ok (n : Int) (l : List (List UInt8 × List UInt8)) : OkI n (grownI n l) := (OkI.nil n).putAll _ (shortP_ok l)
theorem grownI_len (n : Int) (l : List (List UInt8 × List UInt8)) : (grownI n l).length ≤ l.length := by
  have h1 := putAll_len (n := n) (shortP l) []
  have h2 : (shortP l).length ≤ l.length := List.length_filter_le _ _
  unfold grownI
  simp only [List.length_nil] at h1
  omega
theorem grownI_snoc (n : Int) (l : List (List UInt8 × List UInt8)) (p : List UInt8 × List UInt8) : grownI n (l ++ [p]) = if 64 < p.1.length ∨ 256 < p.2.length then grownI n l else putI (grownI n l) ⟨keyD n p.1, p.1, p.2⟩ := by
  unfold grownI shortP
  rw [List.filter_append]
  by_cases h : 64 < p.1.length ∨ 256 < p.2.length
  · rw [if_pos h, List.filter_cons_of_neg (by rw [decide_eq_true_eq]; exact fun hn => hn h), List.filter_nil, List.append_nil]
  · rw [if_neg h, List.filter_cons_of_pos (by rw [decide_eq_true_eq]; exact h), List.filter_nil, putAll_snoc]
end Go.Proofs.YtebbgninkbghlaaGreatDoor

/-! Itr -/
namespace Go.Proofs.YtebbgninkbghlaaGreatDoor
set_option maxRecDepth 100000
end Go.Proofs.YtebbgninkbghlaaGreatDoor

/-! Rfd -/
namespace Go.Proofs.YtebbgninkbghlaaGreatDoor
set_option maxRecDepth 100000
open Go Go.RowKit
set_option linter.unusedVariables false
set_option linter.unusedSimpArgs false
set_option maxHeartbeats 1000000
attribute [local irreducible] vcT opsT qT vcOp Q1 vcPure vcLoad vcStore ldC ldN ldD grdT grdQ vc vcOps vcQ hT
attribute [local irreducible] sumR sumP shaP keyD bucketP branchP

theorem ItemAt.c32 {w : World} {p : IR} (h : ItemAt w p) : p.cells[32]? = some p.kv := by
  unfold IR.cells
  rw [List.getElem?_append_right (by rw [vbs_len, h.len]; decide), vbs_len, h.len]
  rfl
theorem ItemAt.c33 {w : World} {p : IR} (h : ItemAt w p) : p.cells[33]? = some p.vv := by
  unfold IR.cells
  rw [List.getElem?_append_right (by rw [vbs_len, h.len]; decide), vbs_len, h.len]
  rfl
end Go.Proofs.YtebbgninkbghlaaGreatDoor

/-! Rfp -/
namespace Go.Proofs.YtebbgninkbghlaaGreatDoor
set_option maxRecDepth 100000
open Go Go.RowKit
set_option linter.unusedVariables false
set_option linter.unusedSimpArgs false
set_option maxHeartbeats 1000000
attribute [local irreducible] vcT opsT qT vcOp Q1 vcPure vcLoad vcStore ldC ldN ldD grdT grdQ vc vcOps vcQ hT
attribute [local irreducible] sumR sumP shaP keyD bucketP branchP

end Go.Proofs.YtebbgninkbghlaaGreatDoor

/-! Rfq -/
namespace Go.Proofs.YtebbgninkbghlaaGreatDoor
set_option maxRecDepth 100000
open Go Go.RowKit
set_option linter.unusedVariables false
set_option linter.unusedSimpArgs false
set_option maxHeartbeats 1000000
attribute [local irreducible] vcT opsT qT vcOp Q1 vcPure vcLoad vcStore ldC ldN ldD grdT grdQ vc vcOps vcQ hT
attribute [local irreducible] sumR sumP shaP keyD bucketP branchP

/-- A proof's parts. -/
structure PrfAt (w : World) (v : Value) (ss : List (Nat × List (List UInt8))) (ps : List (List UInt8 × List UInt8)) : Prop where
  out : ∃ sv pv tt qs, v = .agg [sv, pv].toArray ∧ StepsAt w sv tt ∧ PairsAt w pv qs ∧ tt.map SR.dt = ss ∧ qs.map PR.dat = ps
theorem StepsAt.ext' {w w' : World} {v : Value} {tt : List SR} (h : StepsAt w v tt) (e : Ext w w') : StepsAt w' v tt := h.ext e
theorem PairsAt.ext' {w w' : World} {v : Value} {qs : List PR} (h : PairsAt w v qs) (e : Ext w w') : PairsAt w' v qs := ⟨h.1.ext e, fun p hp => ⟨(h.2 p hp).1.ext e, (h.2 p hp).2.ext e⟩⟩
theorem PrfAt.ext {w w' : World} {v : Value} {ss : List (Nat × List (List UInt8))} {ps : List (List UInt8 × List UInt8)} (h : PrfAt w v ss ps) (e : Ext w w') : PrfAt w' v ss ps := by
  obtain ⟨sv, pv, tt, qs, h1, h2, h3, h4, h5⟩ := h.out
  exact ⟨sv, pv, tt, qs, h1, h2.ext' e, h3.ext' e, h4, h5⟩
theorem PairsAt.ofRun {w : World} {lo lo' hi : Nat} {pv : Value} {qs : List PR} (h : Own w lo 47 2 pv qs.length (qs.flatMap PR.cells)) (hr : RunB w hi lo' (qs.flatMap prB)) : PairsAt w pv qs :=
  ⟨SlC.of_own h, fun p hp => ⟨(hr.mem (p.kv, p.k) (List.mem_flatMap.2 ⟨p, hp, by simp [prB]⟩)).sl, (hr.mem (p.vv, p.v) (List.mem_flatMap.2 ⟨p, hp, by simp [prB]⟩)).sl⟩⟩
/-- How many digests steps have, counted as the program counts. -/
def sizeW (ss : List SR) : Int := ss.foldl (fun n s => IntKind.i64.wrap (n + s.ks.length)) 0
end Go.Proofs.YtebbgninkbghlaaGreatDoor

/-! Rng -/
namespace Go.Proofs.YtebbgninkbghlaaGreatDoor
set_option maxRecDepth 100000
open Go Go.RowKit
set_option linter.unusedVariables false
set_option linter.unusedSimpArgs false

/-- All blocks below B but d stay. -/
structure KD (B d : Nat) (w w' : World) : Prop where
  os : w'.os = w.os
  tape : w'.tape = w.tape
  output : w'.output = w.output
  size : w.heap.size ≤ w'.heap.size
  other : ∀ k, k < B → k ≠ d → w'.heap[k]? = w.heap[k]?
theorem KD.rfl' (B d : Nat) (w : World) : KD B d w w := ⟨rfl, rfl, rfl, Nat.le_refl _, fun _ _ _ => rfl⟩
theorem KD.trans {B d : Nat} {a b c : World} (h : KD B d a b) (g : KD B d b c) : KD B d a c :=
  ⟨g.os.trans h.os, g.tape.trans h.tape, g.output.trans h.output, Nat.le_trans h.size g.size, fun k hk hd => (g.other k hk hd).trans (h.other k hk hd)⟩
theorem KD.of_below {B d : Nat} {w w' : World} (h : Below B w w') : KD B d w w' := ⟨h.os, h.tape, h.output, h.size, fun k hk _ => h.block k hk⟩
theorem KD.of_keepB {B d : Nat} {w w' : World} (h : KeepB w w' d) (hB : B ≤ w.heap.size) : KD B d w w' := ⟨h.os, h.tape, h.output, h.size, fun k hk hd => h.other k (by omega) hd⟩
theorem KD.blk {B d c : Nat} {T : TypeId} {l : List Value} {w w' : World} (h : KD B d w w') (k : Blk w c T l) (hc : c < B) (hd : c ≠ d) : Blk w' c T l := ⟨by rw [h.other c hc hd]; exact k.out⟩
theorem KD.ext {B d : Nat} {w0 w w' : World} (h : KD B d w w') (e : Ext w0 w) (h1 : w0.heap.size ≤ d) (h2 : w0.heap.size ≤ B) : Ext w0 w' :=
  ⟨h.os.trans e.os, h.tape.trans e.tape, h.output.trans e.output, Nat.le_trans e.size h.size, fun k hk => (h.other k (by omega) (by omega)).trans (e.block k hk)⟩
theorem keepsFrom_of {B d : Nat} {w w' : World} (h : KeepB w w' d) (hd : d < B) : KeepsFrom B w w' :=
  ⟨h.size, fun k o hB hk _ => (h.other k (Array.getElem?_eq_some_iff.1 hk).1 (by omega)).trans hk⟩
theorem blk_own {β : Type} (B b T : Nat) (l : β → List Value) : OwnFrom B (fun s W => Blk W b T (l s)) := by
  intro s W W' row hs hg hr
  have e : some b ≠ row := by
    intro e
    obtain ⟨_, o, ho, hc⟩ := hr b e.symm
    rw [hs.out] at ho
    cases ho
    cases hc
  exact ⟨by rw [hg.block b hs.lt e]; exact hs.out⟩
theorem kd_own {β : Type} {B C d : Nat} (w : World) (hC : C ≤ B) (hw : C ≤ w.heap.size) : OwnFrom B (fun (_ : β) W => KD C d w W) := by
  intro s W W' row hs hg hr
  refine ⟨hg.os.trans hs.os, hg.tape.trans hs.tape, hg.output.trans hs.output, Nat.le_trans hs.size hg.size, fun k hk hd => ?_⟩
  have e := hs.other k hk hd
  have hkw : k < W.heap.size := by have := hs.size; omega
  have hne : some k ≠ row := by
    intro e'
    have := (hr k e'.symm).1
    omega
  rw [hg.block k hkw hne]
  exact e

theorem wpIn_n {P : Program} {c : Code} {ro : Option Nat} {k m : Nat} {Q : Exit → Act → World → Prop} {a : Act} {w : World} (h : c.wpIn (FW ro) k P Q a w) : c.wpIn (FW ro) m P Q a w :=
  fun b ks cs hro hb _ => h b ks cs hro hb (fun d hd => by cases hd)

theorem rangeT {P : Program} {n : Nat} {g : Operand} {ps : Array Tmp} {assign body : Code} {R : Exit → Act → World → Prop} (gf Bs d p0 p1 : Nat) {ss : List SR} {a : Act} {s : Fm} {w : World} (hF : Fr [] a n s) (hg : ev s g = .func (.func gf) #[] #[.pointer (some ⟨Bs, 0, none⟩)]) (hc : callable P gf = true)
    (hit : ∀ (l : Nat) (J Jx : List (Nat × SR) → World → Prop) (W : World), KD w.heap.size d w W → J [] W →
      (∀ pre x W1, x ∈ backL ss → J pre W1 → KD w.heap.size d w W1 → pre.length < ss.length → YieldAt Fence.wide 0 P l #[.int .i64 (x.1 : Nat), .agg x.2.cells.toArray] W1 fun e W' =>
        (e = .returned (.bool true) ∧ J (pre ++ [x]) W' ∧ KD w.heap.size d w W') ∨ (e = .returned (.bool false) ∧ Jx (pre ++ [x]) W')) →
      CallK P gf [.func (.yield l) #[] #[], .pointer (some ⟨Bs, 0, none⟩)].toArray W fun _ W' => J (backL ss) W' ∨ ∃ pre, Jx pre W')
    (hps : ps = #[p0, p1]) (hp0 : p0 < n) (hp1 : p1 < n) (I : List (Nat × SR) → World → Prop) (hI : OwnFrom w.heap.size I) (h0 : I [] w) (A : Nat × SR → Fm → World → Prop) (hA : ∀ x s', OwnFrom w.heap.size (fun (_ : Unit) W => A x s' W))
    (hassign : ∀ l pre x W, x ∈ backL ss → I pre W → vcT P n (some l) assign (upd (upd s p0 (.int .i64 (x.1 : Nat))) p1 (.agg x.2.cells.toArray)) W (seqQ (fun s' W' => KeepsFrom w.heap.size W W' ∧ KD w.heap.size d W W' ∧ I pre W' ∧ A x s' W') (fun _ _ _ => False)))
    (hbody : ∀ l pre x s' W, x ∈ backL ss → w.heap.size ≤ W.heap.size → I pre W → A x s' W → pre.length < ss.length → vcT P n (some l) body s' W (seqQ (fun s'' W' => KeepsFrom w.heap.size W W' ∧ KD w.heap.size d W W' ∧ I (pre ++ [x]) W') (fun _ _ _ => False)))
    (hdone : ∀ (D : Nat) (W : World), w.heap.size ≤ D → I (backL ss) W → W.heap[D]? = some (.deferred (some [])) → R .normal { a with defers := { target := .collected D, args := #[] } :: a.defers } W) :
    (Code.rangeFunc g ps assign body).wpIn (FW none) 0 P R a w := by
  subst hps
  refine wpIn_n (k := 1) ?_
  refine wpIn_rangeFunc_ownH (α := { x : Nat × SR // x ∈ backL ss }) (F := FW none) (n := 1) rfl (Nat.le_refl _) (gf := gf) (lb := #[.pointer (some ⟨Bs, 0, none⟩)]) (by rw [hF.ev]; exact hg) trivial (fun args w => run_callFunc_of hc args w)
    (encs := fun x => #[.int .i64 (x.1.1 : Nat), .agg x.1.2.cells.toArray]) (Kp := KD w.heap.size d) (S := fun xs => xs.map (·.1) = backL ss) (Sp := fun _ => True) (N := ss.length) (w0 := w) ?_ (fun h k => h.trans k) ?_ (Below.refl _ _) (fun _ => rfl)
    (fun (pre : List { x : Nat × SR // x ∈ backL ss }) W => I (pre.map (·.1)) W) (fun _ _ _ => False) (fun s W W' row hs hg hr => hI (s.map (·.1)) W W' row hs hg hr) (fun _ _ _ _ _ h _ _ => h) h0 (fun x a' W => ∃ s', Fr [] a' n s' ∧ A x.1 s' W) ?_ ?_ ?_ ?_ ?_
  · intro l J Jx W hW _ _ hY hJ0
    have h := (hit l (fun pre W => ∃ pre', pre'.map (·.1) = pre ∧ J pre' W) (fun pre W => ∃ pre', pre'.map (·.1) = pre ∧ Jx pre' W) W (KD.of_below hW) ⟨[], rfl, hJ0⟩ (fun pre x W1 hx hJ1 hM1 hlen => by
      obtain ⟨pre', rfl, hJ1⟩ := hJ1
      obtain ⟨fn, tmps, assign, body, hy, hR⟩ := yield_n (k := 0 - 1) (m := 0) (hY pre' ⟨x, hx⟩ W1 hJ1 (by simpa using hlen))
      refine ⟨fn, tmps, assign, body, hy, hR.mono ?_⟩
      rintro e W' (⟨h1, h2, h3⟩ | ⟨h1, h2⟩)
      · exact Or.inl ⟨h1, ⟨_, by simp, h2⟩, hM1.trans h3⟩
      · exact Or.inr ⟨h1, ⟨_, by simp, h2⟩⟩)).body hc
    refine callsFW none 0 (h.calls.mono ?_)
    rintro e W' ⟨v, rfl, ⟨pre', hp, h⟩ | ⟨pre, pre', hp, h⟩⟩
    · exact ⟨⟨v, rfl⟩, Or.inl ⟨pre', hp, h⟩⟩
    · exact ⟨⟨v, rfl⟩, Or.inr ⟨pre', trivial, h⟩⟩
  · intro W l o o' hl hWl ho _
    exact ⟨rfl, rfl, rfl, by simp, fun k hk _ => World.putObj_heap_other (by omega)⟩
  · intro x a' _ W W' row ⟨s', hs', hAx⟩ hg hr
    exact ⟨s', hs', hA x.1 s' () W W' row hAx hg hr⟩
  · intro l pre x W K hIp hK
    have hfr : Fr [] { tmps := ((#[p0, p1] : Array Tmp).zip #[Value.int .i64 (x.1.1 : Nat), .agg x.1.2.cells.toArray]).foldl (fun t (p, v) => t.setIfInBounds p v) a.tmps, defers := [] } n (upd (upd s p0 (.int .i64 (x.1.1 : Nat))) p1 (.agg x.1.2.cells.toArray)) := by
      have h1 := (hF.put (d := some p0) hp0 (.int .i64 (x.1.1 : Nat))).put (d := some p1) hp1 (.agg x.1.2.cells.toArray)
      refine ⟨rfl, ?_, ?_⟩
      · have := h1.size; simpa [Act.put] using this
      · intro j
        have := h1.at_ j
        simpa [Act.put, updO] using this
    refine wpIn_mono (vc_sound (ro := some l) _ _ _ _ (hassign l _ x.1 W x.2 hIp) [] _ hfr) ?_
    rintro e a' W' ⟨s', hF', hq⟩
    cases e <;> simp only [seqQ] at hq
    exact hK a' W' hq.1 hq.2.1 hq.2.2.1 ⟨s', hF', hq.2.2.2⟩
  · intro l pre x a' W hl ⟨r, hr⟩ hIp ⟨s', hs', hAx⟩ hlen
    have hsz : w.heap.size ≤ W.heap.size := by
      have := (Array.getElem?_eq_some_iff.1 hr).1
      omega
    refine wpIn_mono (vc_sound (ro := some l) _ _ _ _ (hbody l _ x.1 s' W x.2 hsz hIp hAx (by simpa using hlen)) [] _ hs') ?_
    rintro e a'' W' ⟨s'', hF', hq⟩
    cases e <;> simp only [seqQ] at hq
    exact ⟨hq.1, hq.2.1, by simpa using hq.2.2⟩
  · intro D xs W hD hS hIx hW
    rw [hS] at hIx
    exact hdone D W hD hIx hW
  · intro D c pre W _ _ h
    exact h.elim
theorem keepsFrom_ext {B : Nat} {w w' : World} (h : Ext w w') : KeepsFrom B w w' := ⟨h.size, fun k o _ hk _ => (h.block k (Array.getElem?_eq_some_iff.1 hk).1).trans hk⟩

end Go.Proofs.YtebbgninkbghlaaGreatDoor

/-! Up -/
namespace Go.Proofs.YtebbgninkbghlaaGreatDoor
set_option maxRecDepth 100000
open Go Go.RowKit
set_option linter.unusedVariables false
set_option linter.unusedSimpArgs false

/-! ### A function that holds a range over a function -/
structure WpM (P : Program) (n : Nat) (c : Code) (s : Fm) (w : World) (R : Exit → Act → World → Prop) (_t : Tag (c, s, R) := ⟨⟩) : Prop where
  out : ∀ a, Fr [] a n s → c.wpIn (FW none) 0 P R a w
theorem peel {P : Program} {n : Nat} {a b : Code} {s : Fm} {w : World} {R : Exit → Act → World → Prop} (h : vcT P n none a s w (seqQ (fun s' w' => WpM P n b s' w' R) (fun _ _ _ => False))) : WpM P n (.seq a b) s w R := by
  refine ⟨fun act hF => wpIn_seq (wpIn_mono (vc_sound a s w _ h [] act hF) ?_)⟩
  rintro e a' w' ⟨s', hF', hq⟩
  cases e
  case normal => exact WpM.out hq a' hF'
  all_goals exact False.elim hq
theorem peelJ {P : Program} {n : Nat} {a b : Code} {s : Fm} {w : World} {R : Exit → Act → World → Prop} (J : Fm → World → Prop) (h : vcT P n none a s w (seqQ J (fun _ _ _ => False))) (h2 : ∀ s' w', J s' w' → WpM P n b s' w' R) : WpM P n (.seq a b) s w R := by
  refine ⟨fun act hF => wpIn_seq (wpIn_mono (vc_sound a s w _ h [] act hF) ?_)⟩
  rintro e a' w' ⟨s', hF', hq⟩
  cases e
  case normal => exact (h2 _ _ hq).out a' hF'
  all_goals exact False.elim hq
theorem peel2 {P : Program} {n : Nat} {a b : Code} {s : Fm} {w : World} {R : Exit → Act → World → Prop} (h : WpM P n a s w (Exit.then (b.wpIn (FW none) 0 P R) R)) : WpM P n (.seq a b) s w R := ⟨fun act hF => wpIn_seq (h.out act hF)⟩
theorem peelB {P : Program} {n id : Nat} {a : Code} {s : Fm} {w : World} {R : Exit → Act → World → Prop} (h : WpM P n a s w (Exit.inBlock id R)) : WpM P n (.block id a) s w R := ⟨fun act hF => wpIn_block (h.out act hF)⟩
/-- The way out behind one range: its block for deferred calls is shut. -/
def postM (P : Program) (n : Nat) (rs : Array ResultVar) (K : Value → World → Prop) : Exit → Act → World → Prop := fun e a w =>
  (e = .normal ∨ e = .ret) ∧ ∃ D s, Fr [{ target := .collected D, args := #[] }] a n s ∧ w.heap[D]? = some (.deferred (some [])) ∧ resVC P rs s (w.putObj D (.deferred none)) fun v => K v (w.putObj D (.deferred none))
theorem enterM {P : Program} {f : FuncId} {fn : Func} {c : Code} {n : Nat} {rs : Array ResultVar} {vs : List Value} {w : World} {K : Value → World → Prop} (hf : P.funcs[f]? = some fn) (hb : fn.body = some c) (hn : fn.ntmps = n)
    (hr : fn.results = rs) (hl : decide (vs.length ≤ n) = true) (hname : (fn.name != "runtime.NumGoroutine") = true) (h : WpM P n c (initFm vs 0) w (postM P n rs K)) : CallK P f vs.toArray w K := by
  refine ⟨Or.inl ⟨by simp [callable, hf, hb, hname], ?_⟩⟩
  refine (callsIn_wide (n := 0)).1 (callsIn_of_wp_marks hf hb trivial ?_)
  rw [hn]
  refine wpIn_mono (h.out _ (Fr_init vs n (of_decide_eq_true hl))) ?_
  rintro e a w' ⟨he, D, s, hF, hD, hq⟩
  obtain ⟨v, hv, hK⟩ := res_of hr hF hq
  have hL : LeavesInM Fence.wide 0 P fn a.tmps (fun e w' => ∃ v, e = .returned v ∧ K v w') a.defers .returning w' := by
    rw [hF.defers]
    exact ⟨by simp, .inl ⟨_, _, rfl, run_takeDeferred hD, v, hv, v, rfl, hK⟩⟩
  rcases he with rfl | rfl
  · exact hL
  · exact hL
/-- The rest of the function behind the range. -/
def retM (P : Program) (rs : Array ResultVar) (D : Nat) (K : Value → World → Prop) : Post := fun e s w =>
  (e = .normal ∨ e = .ret) ∧ w.heap[D]? = some (.deferred (some [])) ∧ resVC P rs s (w.putObj D (.deferred none)) fun v => K v (w.putObj D (.deferred none))
theorem retM_ret {P : Program} {rs : List ResultVar} {D : Nat} {K : Value → World → Prop} {s : Fm} {w : World} : retM P rs.toArray D K .ret s w = (w.heap[D]? = some (.deferred (some [])) ∧ resT P rs s (w.putObj D (.deferred none)) fun v => K v (w.putObj D (.deferred none))) :=
  propext ⟨fun h => h.2, fun h => ⟨Or.inr rfl, h⟩⟩
theorem tailM {P : Program} {n D : Nat} {rs : Array ResultVar} {K : Value → World → Prop} {c : Code} {s : Fm} {w : World} {a : Act} (hF : Fr [] a n s) (h : vcT P n none c s w (retM P rs D K)) :
    c.wpIn (FW none) 0 P (postM P n rs K) { a with defers := { target := .collected D, args := #[] } :: a.defers } w := by
  refine wpIn_mono (vc_sound c s w _ h [{ target := .collected D, args := #[] }] _ ⟨by rw [hF.defers], hF.size, hF.at_⟩) ?_
  rintro e a' w' ⟨s', hF', he, hD, hq⟩
  exact ⟨he, D, s', hF', hD, hq⟩

/-! ### child -/
theorem child_ok (n : Int) (k : List UInt8) (hk : k.length = 32) (i : Int) (w : World) :
    CallK Tryz.prog 123 [.int .i64 n, .agg (vbs k).toArray, .int .i64 i].toArray w fun v w' => v = .int .i64 (atP n k i).1 ∧ Ext w w' := by
  refine enterT Tryz.func123 rfl Tryz.ntmps123 Tryz.results123 rfl (by decide) ?_
  simp only [↓VD, VP, VT, isAggD, reduceCtorEq, Int.reduceEq, Int.reduceNe, Int.reduceLT, Int.reduceLE, implies_true, Nat.reduceEqDiff, reduceIte, ite_true, ite_false, eq_self, Nat.reduceLT, Nat.reduceLeDiff, Nat.reduceAdd, Nat.reduceMul, Nat.reduceSub, intOf]
  intro w1 hN
  refine ldA Tryz.underlying28 rfl hN.blk (by rw [vbs_len, hk, c28]) ?_
  simp only [↓VD, VP, VT, isAggD, reduceCtorEq, Int.reduceEq, Int.reduceNe, Int.reduceLT, Int.reduceLE, implies_true, Nat.reduceEqDiff, reduceIte, ite_true, ite_false, eq_self, Nat.reduceLT, Nat.reduceLeDiff, Nat.reduceAdd, Nat.reduceMul, Nat.reduceSub, intOf]
  refine (At_ok n k hk i w1).mono ?_
  rintro _ w2 ⟨rfl, hE⟩
  simp only [↓VD, VP, VT, isAggD, reduceCtorEq, Int.reduceEq, Int.reduceNe, Int.reduceLT, Int.reduceLE, implies_true, Nat.reduceEqDiff, reduceIte, ite_true, ite_false, eq_self, Nat.reduceLT, Nat.reduceLeDiff, Nat.reduceAdd, Nat.reduceMul, Nat.reduceSub, intOf]
  exact hN.ext.trans' hE

/-! ### up, plainly -/
def stepD (n : Int) (k d : List UInt8) (i : Nat) (bm : Nat) (ks : List (List UInt8)) : List UInt8 :=
  brD n bm (if hasB bm (atP n k i).1 = true then insP ks (rankB bm (atP n k i).1) d else ks)
def upF (n : Int) (k : List UInt8) (l : List (Nat × SR)) (d : List UInt8) : List UInt8 := l.foldl (fun d x => stepD n k d x.1 x.2.bm x.2.ks) d
def up0 (n : Int) (ps : List (List UInt8 × List UInt8)) : List UInt8 := if ps = [] then sumR n [5] else sumR n (bucketP ps)
theorem up0_len (n : Int) (ps : List (List UInt8 × List UInt8)) : (up0 n ps).length = 32 := by unfold up0; split <;> exact sumR_len _ _
theorem upF_len (n : Int) (k : List UInt8) : ∀ (l : List (Nat × SR)) (d : List UInt8), d.length = 32 → (upF n k l d).length = 32
  | [], d, h => h
  | x :: l, d, h => upF_len n k l _ (brD_len _ _ _)
theorem upF_snoc (n : Int) (k : List UInt8) (l : List (Nat × SR)) (x : Nat × SR) (d : List UInt8) : upF n k (l ++ [x]) d = stepD n k (upF n k l d) x.1 x.2.bm x.2.ks := by simp [upF]

theorem up_ok (n : Int) (k : List UInt8) (hk : k.length = 32) (sv pv : Value) (ss : List SR) (ps : List PR) (w : World) (hW : WordsAt w 1) (hs : StepsAt w sv ss) (hp : PairsAt w pv ps)
    (hps : (bucketP (ps.map PR.dat)).length + 16 ≤ 140737488355328) (hss : ∀ s ∈ ss, s.ks.length + 1 ≤ 4000000000) (hr : ∀ (i : Nat) (s : SR), ss[i]? = some s → hasB s.bm (atP n k i).1 = true → rankB s.bm (atP n k i).1 ≤ s.ks.length) :
    CallK Tryz.prog 77 [.int .i64 n, .agg (vbs k).toArray, .agg [sv, pv].toArray].toArray w fun v w' => v = .agg (vbs (upF n k (backL ss) (up0 n (ps.map PR.dat)))).toArray ∧ Ext w w' := by
  refine enterM Tryz.func77 rfl Tryz.ntmps77 Tryz.results77 rfl (by decide) ?_
  refine peel ?_
  simp only [↓VD, VP, VT, isAggD, reduceCtorEq, Int.reduceEq, Int.reduceNe, Int.reduceLT, Int.reduceLE, implies_true, Nat.reduceEqDiff, reduceIte, ite_true, ite_false, eq_self, Nat.reduceLT, Nat.reduceLeDiff, Nat.reduceAdd, Nat.reduceMul, Nat.reduceSub, intOf]
  intro w1 hN1 w2 hN2 w3 hN3 w4 hN4
  rw [vbs_rep] at hN4
  have s1 := hN1.size
  have s2 := hN2.size
  have s3 := hN3.size
  have s4 := hN4.size
  have hE4 : Ext w w4 := ((hN1.ext.trans' hN2.ext).trans' hN3.ext).trans' hN4.ext
  have hB3 := ((hN1.blk.ext hN2.ext).ext hN3.ext).ext hN4.ext
  have hB4 := (hN2.blk.ext hN3.ext).ext hN4.ext
  have hB5 := hN3.blk.ext hN4.ext
  have hB6 := hN4.blk
  generalize w1.heap.size = b4 at *
  generalize w2.heap.size = b5 at *
  generalize w3.heap.size = b6 at *
  refine peel ?_
  simp only [↓VD, VP, VT, isAggD, reduceCtorEq, Int.reduceEq, Int.reduceNe, Int.reduceLT, Int.reduceLE, implies_true, Nat.reduceEqDiff, reduceIte, ite_true, ite_false, eq_self, Nat.reduceLT, Nat.reduceLeDiff, Nat.reduceAdd, Nat.reduceMul, Nat.reduceSub, intOf]
  refine ldAt (pre := []) (post := []) Tryz.underlying3 rfl hB3 rfl ?_
  simp only [↓VD, VP, VT, isAggD, reduceCtorEq, Int.reduceEq, Int.reduceNe, Int.reduceLT, Int.reduceLE, implies_true, Nat.reduceEqDiff, reduceIte, ite_true, ite_false, eq_self, Nat.reduceLT, Nat.reduceLeDiff, Nat.reduceAdd, Nat.reduceMul, Nat.reduceSub, intOf]
  refine (NoMap_ok n w4 (hW.ext hE4)).mono ?_
  rintro _ w5 ⟨rfl, hE5⟩
  have s5 := hE5.size
  simp only [↓VD, VP, VT, isAggD, reduceCtorEq, Int.reduceEq, Int.reduceNe, Int.reduceLT, Int.reduceLE, implies_true, Nat.reduceEqDiff, reduceIte, ite_true, ite_false, eq_self, Nat.reduceLT, Nat.reduceLeDiff, Nat.reduceAdd, Nat.reduceMul, Nat.reduceSub, intOf]
  intro w6 hN6
  rw [vbs_rep] at hN6
  have s6 := hN6.size
  refine stAll hN6.blk rfl (by rw [c28]; decide) (by rw [c28, vbs_len, sumR_len]) (by rw [c28]; simp [vbs]) (vbs_one _) (fun w7 hP7 => ?_)
  have hX : ∀ {b T : Nat} {l : List Value}, Blk w4 b T l → Blk w7 b T l := fun h => hP7.keep ((h.ext hE5).ext hN6.ext) (by have := h.lt; omega)
  have hE7 : Ext w w7 := hE4.trans' ((hE5.trans' hN6.ext).trans (hP7.below (by omega)))
  replace hB3 := hX hB3
  replace hB4 := hX hB4
  replace hB5 := hX hB5
  replace hB6 := hX hB6
  have hB7 := hP7.blk
  have s7 := hP7.size
  generalize w5.heap.size = b7 at *
  simp only [↓VD, VP, VT, isAggD, reduceCtorEq, Int.reduceEq, Int.reduceNe, Int.reduceLT, Int.reduceLE, implies_true, Nat.reduceEqDiff, reduceIte, ite_true, ite_false, eq_self, Nat.reduceLT, Nat.reduceLeDiff, Nat.reduceAdd, Nat.reduceMul, Nat.reduceSub, intOf]
  refine peelJ (fun s' W => s' 3 = .pointer (some ⟨w.heap.size, 0, none⟩) ∧ s' 4 = .pointer (some ⟨b4, 0, none⟩) ∧ s' 5 = .pointer (some ⟨b5, 0, none⟩) ∧ s' 6 = .pointer (some ⟨b6, 0, none⟩) ∧ s' 7 = .pointer (some ⟨b7, 0, none⟩) ∧ Blk W w.heap.size 3 [.int .i64 n] ∧ Blk W b4 28 (vbs k) ∧ Blk W b5 26 [sv, pv] ∧ Blk W b6 28 (vbs (List.replicate 32 0)) ∧ Blk W b7 28 (vbs (up0 n (ps.map PR.dat))) ∧ Ext w W) ?_ ?_
  · simp only [↓VD, VP, VT, isAggD, reduceCtorEq, Int.reduceEq, Int.reduceNe, Int.reduceLT, Int.reduceLE, implies_true, Nat.reduceEqDiff, reduceIte, ite_true, ite_false, eq_self, Nat.reduceLT, Nat.reduceLeDiff, Nat.reduceAdd, Nat.reduceMul, Nat.reduceSub, intOf]
    refine ldAt (pre := [sv]) (post := []) Tryz.underlying24 rfl hB5 rfl ?_
    obtain ⟨av, cv, rfl⟩ := slv_of hp.1
    simp only [↓VD, VP, VT, isAggD, reduceCtorEq, Int.reduceEq, Int.reduceNe, Int.reduceLT, Int.reduceLE, implies_true, Nat.reduceEqDiff, reduceIte, ite_true, ite_false, eq_self, Nat.reduceLT, Nat.reduceLeDiff, Nat.reduceAdd, Nat.reduceMul, Nat.reduceSub, intOf]
    refine ⟨fun hgt => ?_, fun hle => ?_⟩
    · refine ldAt (pre := []) (post := []) Tryz.underlying3 rfl hB3 rfl ?_
      simp only [↓VD, VP, VT, isAggD, reduceCtorEq, Int.reduceEq, Int.reduceNe, Int.reduceLT, Int.reduceLE, implies_true, Nat.reduceEqDiff, reduceIte, ite_true, ite_false, eq_self, Nat.reduceLT, Nat.reduceLeDiff, Nat.reduceAdd, Nat.reduceMul, Nat.reduceSub, intOf]
      refine ldAt (pre := [sv]) (post := []) Tryz.underlying24 rfl hB5 rfl ?_
      simp only [↓VD, VP, VT, isAggD, reduceCtorEq, Int.reduceEq, Int.reduceNe, Int.reduceLT, Int.reduceLE, implies_true, Nat.reduceEqDiff, reduceIte, ite_true, ite_false, eq_self, Nat.reduceLT, Nat.reduceLeDiff, Nat.reduceAdd, Nat.reduceMul, Nat.reduceSub, intOf]
      refine (Bucket_ok n _ ps w7 (hW.ext hE7) (hp.ext hE7) hps).mono ?_
      rintro _ w8 ⟨rfl, hE8⟩
      simp only [↓VD, VP, VT, isAggD, reduceCtorEq, Int.reduceEq, Int.reduceNe, Int.reduceLT, Int.reduceLE, implies_true, Nat.reduceEqDiff, reduceIte, ite_true, ite_false, eq_self, Nat.reduceLT, Nat.reduceLeDiff, Nat.reduceAdd, Nat.reduceMul, Nat.reduceSub, intOf]
      refine stAll (hB7.ext hE8) rfl (by rw [c28]; decide) (by rw [c28, vbs_len, sumR_len]) (by rw [c28, vbs_len, sumR_len]) (vbs_one _) (fun w9 hP9 => ?_)
      simp only [↓VD, VP, VT, isAggD, reduceCtorEq, Int.reduceEq, Int.reduceNe, Int.reduceLT, Int.reduceLE, implies_true, Nat.reduceEqDiff, reduceIte, ite_true, ite_false, eq_self, Nat.reduceLT, Nat.reduceLeDiff, Nat.reduceAdd, Nat.reduceMul, Nat.reduceSub, intOf]
      have hne : ps.map PR.dat ≠ [] := by
        intro h
        rw [List.map_eq_nil_iff] at h
        subst h
        simp at hgt
      have hX : ∀ {b T : Nat} {l : List Value}, Blk w7 b T l → b ≠ b7 → Blk w9 b T l := fun h hb => hP9.keep (h.ext hE8) hb
      refine ⟨hX hB3 (by omega), hX hB4 (by omega), hX hB5 (by omega), hX hB6 (by omega), ?_, hE7.trans' hE8 |>.trans (hP9.below (by omega))⟩
      have := hP9.blk
      rwa [up0, if_neg hne]
    · have hz : ps = [] := List.length_eq_zero_iff.1 (by omega)
      subst hz
      exact ⟨hB3, hB4, hB5, hB6, hB7, hE7⟩
  · rintro s8 w8 ⟨g3, g4, g5, g6, g7, hB3, hB4, hB5, hB6, hB7, hE8⟩
    refine peel2 (peel ?_)
    simp only [↓VD, VP, VT, isAggD, reduceCtorEq, Int.reduceEq, Int.reduceNe, Int.reduceLT, Int.reduceLE, implies_true, Nat.reduceEqDiff, reduceIte, ite_true, ite_false, eq_self, Nat.reduceLT, Nat.reduceLeDiff, Nat.reduceAdd, Nat.reduceMul, Nat.reduceSub, intOf, g3, g4, g5, g6, g7]
    refine ldAt (pre := []) (post := [pv]) Tryz.underlying23 rfl hB5 rfl ?_
    simp only [↓VD, VP, VT, isAggD, reduceCtorEq, Int.reduceEq, Int.reduceNe, Int.reduceLT, Int.reduceLE, implies_true, Nat.reduceEqDiff, reduceIte, ite_true, ite_false, eq_self, Nat.reduceLT, Nat.reduceLeDiff, Nat.reduceAdd, Nat.reduceMul, Nat.reduceSub, intOf, g3, g4, g5, g6, g7]
    have hsv : sv.cells = #[sv] := by obtain ⟨a, c, rfl⟩ := slv_of hs.1; rfl
    refine (Backward_ok sv hsv w8).mono ?_
    rintro _ w9 ⟨rfl, hN9⟩
    simp only [↓VD, VP, VT, isAggD, reduceCtorEq, Int.reduceEq, Int.reduceNe, Int.reduceLT, Int.reduceLE, implies_true, Nat.reduceEqDiff, reduceIte, ite_true, ite_false, eq_self, Nat.reduceLT, Nat.reduceLeDiff, Nat.reduceAdd, Nat.reduceMul, Nat.reduceSub, intOf]
    refine peelB ⟨fun a hF => ?_⟩
    have z8 := hE8.size
    have z9 := hN9.size
    have zb := hB7.lt
    have zc := hB6.lt
    have hE9 := hE8.trans' hN9.ext
    have hX : ∀ {b T : Nat} {l : List Value}, Blk w8 b T l → Blk w9 b T l := fun h => h.ext hN9.ext
    have hBs := hN9.blk
    generalize w8.heap.size = Bs at *
    replace hB3 := hX hB3
    replace hB4 := hX hB4
    replace hB5 := hX hB5
    replace hB6 := hX hB6
    replace hB7 := hX hB7
    have hup0 := up0_len n (ps.map PR.dat)
    refine rangeT 168 Bs b7 32 33 (ss := ss) hF rfl (by kernel_rfl) (fun l J Jx W hKD hJ0 hY => ?_) rfl (by decide) (by decide)
      (fun pre W => KD w9.heap.size b7 w9 W ∧ Blk W b7 28 (vbs (upF n k pre (up0 n (ps.map PR.dat))))) (OwnFrom.and (kd_own w9 (Nat.le_refl _) (Nat.le_refl _)) (blk_own _ _ _ _)) ⟨KD.rfl' _ _ _, hB7⟩
      (fun x s' W => s' 3 = .pointer (some ⟨w.heap.size, 0, none⟩) ∧ s' 4 = .pointer (some ⟨b4, 0, none⟩) ∧ s' 7 = .pointer (some ⟨b7, 0, none⟩) ∧ s' 9 = .int .i64 (x.1 : Nat) ∧ ∃ b10, s' 10 = .pointer (some ⟨b10, 0, none⟩) ∧ w9.heap.size ≤ b10 ∧ Blk W b10 51 x.2.cells)
      (fun x s' u W W' row hA hg hr => ?_) ?_ ?_ ?_
    · exact iter_ok l Bs sv ss (fun s h => by obtain ⟨a, c, e⟩ := slv_of (hs.2 s h).2.2; rw [e]; rfl) J Jx (KD w9.heap.size b7 w9) (fun W' hK => ⟨(hK.blk hBs hBs.lt (by omega)).cell 0, hs.1.ext (hK.ext hE9 (by omega) (by omega))⟩) hY W hKD hJ0
    · obtain ⟨h3, h4, h7, h9, b10, h10, hb10, hB10⟩ := hA
      exact ⟨h3, h4, h7, h9, b10, h10, hb10, blk_own (β := Unit) _ _ _ (fun _ => x.2.cells) () W W' row hB10 hg hr⟩
    · intro l pre x W hx ⟨hKD, hB⟩
      have hzs := hKD.size
      obtain ⟨hbm, hdk⟩ := hs.2 x.2 (List.mem_of_getElem? (backL_mem hx))
      obtain ⟨ak, ck, hkv⟩ := slv_of hdk.2
      simp only [↓VD, VP, VT, isAggD, reduceCtorEq, Int.reduceEq, Int.reduceNe, Int.reduceLT, Int.reduceLE, implies_true, Nat.reduceEqDiff, reduceIte, ite_true, ite_false, eq_self, Nat.reduceLT, Nat.reduceLeDiff, Nat.reduceAdd, Nat.reduceMul, Nat.reduceSub, intOf, g3, g4, g5, g6, g7]
      intro w11 hN11
      refine stAll hN11.blk (vs := x.2.cells) rfl (by rw [c51]; decide) (by rw [c51]; rfl) (by rw [c51]; rfl) (by rw [SR.cells, hkv]; simp [oneCellV]) (fun w12 hP12 => ?_)
      simp only [↓VD, VP, VT, isAggD, reduceCtorEq, Int.reduceEq, Int.reduceNe, Int.reduceLT, Int.reduceLE, implies_true, Nat.reduceEqDiff, reduceIte, ite_true, ite_false, eq_self, Nat.reduceLT, Nat.reduceLeDiff, Nat.reduceAdd, Nat.reduceMul, Nat.reduceSub, intOf, g3, g4, g5, g6, g7]
      have hE12 : Ext W w12 := hN11.ext.trans (hP12.below (Nat.le_refl _))
      exact ⟨keepsFrom_ext hE12, KD.of_below (hE12.mono hzs), ⟨hKD.trans (KD.of_below (hE12.mono hzs)), hB.ext hE12⟩, ⟨W.heap.size, rfl, hzs, hP12.blk⟩⟩
    · intro l pre x s10 W hx hsz ⟨hKD, hB⟩ ⟨h3, h4, h7, h9, b10, h10, hb10, hB10⟩ hlen
      have hx2 := backL_mem hx
      have hxm := List.mem_of_getElem? hx2
      obtain ⟨hbm, hdk⟩ := hs.2 x.2 hxm
      have hEW : Ext w W := hKD.ext hE9 (by omega) (by omega)
      replace hdk := hdk.ext hEW
      have hlk := hss x.2 hxm
      have hrk := hr x.1 x.2 hx2
      obtain ⟨i, s⟩ := x
      obtain ⟨kv, bm, ks⟩ := s
      simp only at hx2 hbm hdk hlk hrk h9
      have hA3 := hKD.blk hB3 (by omega) (by omega)
      have hA4 := hKD.blk hB4 (by omega) (by omega)
      simp only [↓VD, VP, VT, isAggD, reduceCtorEq, Int.reduceEq, Int.reduceNe, Int.reduceLT, Int.reduceLE, implies_true, Nat.reduceEqDiff, reduceIte, ite_true, ite_false, eq_self, Nat.reduceLT, Nat.reduceLeDiff, Nat.reduceAdd, Nat.reduceMul, Nat.reduceSub, intOf, h3, h4, h7, h9, h10]
      refine ldAt (pre := []) (post := []) Tryz.underlying3 rfl hA3 rfl ?_
      simp only [↓VD, VP, VT, isAggD, reduceCtorEq, Int.reduceEq, Int.reduceNe, Int.reduceLT, Int.reduceLE, implies_true, Nat.reduceEqDiff, reduceIte, ite_true, ite_false, eq_self, Nat.reduceLT, Nat.reduceLeDiff, Nat.reduceAdd, Nat.reduceMul, Nat.reduceSub, intOf, h3, h4, h7, h9, h10]
      refine ldA Tryz.underlying28 rfl hA4 (by rw [vbs_len, hk, c28]) ?_
      simp only [↓VD, VP, VT, isAggD, reduceCtorEq, Int.reduceEq, Int.reduceNe, Int.reduceLT, Int.reduceLE, implies_true, Nat.reduceEqDiff, reduceIte, ite_true, ite_false, eq_self, Nat.reduceLT, Nat.reduceLeDiff, Nat.reduceAdd, Nat.reduceMul, Nat.reduceSub, intOf, h3, h4, h7, h9, h10]
      refine (child_ok n k hk i W).mono ?_
      rintro _ w11 ⟨rfl, hE11⟩
      simp only [↓VD, VP, VT, isAggD, reduceCtorEq, Int.reduceEq, Int.reduceNe, Int.reduceLT, Int.reduceLE, implies_true, Nat.reduceEqDiff, reduceIte, ite_true, ite_false, eq_self, Nat.reduceLT, Nat.reduceLeDiff, Nat.reduceAdd, Nat.reduceMul, Nat.reduceSub, intOf, h3, h4, h7, h9, h10]
      replace hB10 : Blk W b10 51 [.int .u16 bm, kv] := hB10
      refine ldAt (pre := [.int .u16 bm]) (post := []) Tryz.underlying49 rfl (hB10.ext hE11) rfl ?_
      simp only [↓VD, VP, VT, isAggD, reduceCtorEq, Int.reduceEq, Int.reduceNe, Int.reduceLT, Int.reduceLE, implies_true, Nat.reduceEqDiff, reduceIte, ite_true, ite_false, eq_self, Nat.reduceLT, Nat.reduceLeDiff, Nat.reduceAdd, Nat.reduceMul, Nat.reduceSub, intOf, h3, h4, h7, h9, h10]
      refine (CloneD_ok ks kv w11 (hdk.ext hE11) (by omega)).mono ?_
      rintro vc w12 ⟨hO12, hE12⟩
      simp only [↓VD, VP, VT, isAggD, reduceCtorEq, Int.reduceEq, Int.reduceNe, Int.reduceLT, Int.reduceLE, implies_true, Nat.reduceEqDiff, reduceIte, ite_true, ite_false, eq_self, Nat.reduceLT, Nat.reduceLeDiff, Nat.reduceAdd, Nat.reduceMul, Nat.reduceSub, intOf, h3, h4, h7, h9, h10]
      refine ldAt (pre := []) (post := [kv]) Tryz.underlying48 rfl ((hB10.ext hE11).ext hE12) rfl ?_
      simp only [↓VD, VP, VT, isAggD, reduceCtorEq, Int.reduceEq, Int.reduceNe, Int.reduceLT, Int.reduceLE, implies_true, Nat.reduceEqDiff, reduceIte, ite_true, ite_false, eq_self, Nat.reduceLT, Nat.reduceLeDiff, Nat.reduceAdd, Nat.reduceMul, Nat.reduceSub, intOf, h3, h4, h7, h9, h10]
      refine (Has_ok bm hbm (atP n k i).1 w12).mono ?_
      rintro _ w13 ⟨rfl, hE13⟩
      simp only [↓VJ, VP, VT, isAggD, reduceCtorEq, Int.reduceEq, Int.reduceNe, Int.reduceLT, Int.reduceLE, implies_true, Nat.reduceEqDiff, reduceIte, ite_true, ite_false, eq_self, Nat.reduceLT, Nat.reduceLeDiff, Nat.reduceAdd, Nat.reduceMul, Nat.reduceSub, intOf, h3, h4, h7, h9, h10]
      have z11 := hE11.size
      have z12 := hE12.size
      have z13 := hE13.size
      have hEm : Ext W w13 := (hE11.trans' hE12).trans' hE13
      have hO13 := hO12.ext hE13
      have hM10 := hB10.ext hEm
      have hM7 := hB.ext hEm
      have y10 := hB10.lt
      have y7 := hB.lt
      have hdl : (upF n k pre (up0 n (ps.map PR.dat))).length = 32 := upF_len _ _ _ _ hup0
      obtain ⟨dd, hdd⟩ : ∃ dd, dd = upF n k pre (up0 n (ps.map PR.dat)) := ⟨_, rfl⟩
      rw [← hdd] at hM7 hdl
      obtain ⟨all, hall⟩ : ∃ all, all = if hasB bm (atP n k i).1 = true then insP ks (rankB bm (atP n k i).1) dd else ks := ⟨_, rfl⟩
      refine joinT (fun s' W' => s' 3 = .pointer (some ⟨w.heap.size, 0, none⟩) ∧ s' 7 = .pointer (some ⟨b7, 0, none⟩) ∧ s' 10 = .pointer (some ⟨b10, 0, none⟩) ∧ DigsAt W' (s' 12) all ∧ Below w11.heap.size w13 W') ?_ ?_
      · simp only [↓VD, VP, VT, isAggD, reduceCtorEq, Int.reduceEq, Int.reduceNe, Int.reduceLT, Int.reduceLE, implies_true, Nat.reduceEqDiff, reduceIte, ite_true, ite_false, eq_self, Nat.reduceLT, Nat.reduceLeDiff, Nat.reduceAdd, Nat.reduceMul, Nat.reduceSub, intOf, h3, h4, h7, h9, h10]
        refine bsplit_i (fun ht => ?_) (fun hf => ?_)
        · have hrk' := hrk ht
          rw [if_pos ht] at hall
          have hal : ∀ d ∈ all, d.length = 32 := by
            intro d hd
            rw [hall, insP] at hd
            rcases List.mem_append.1 hd with h | h
            · exact hdk.1 d (List.mem_of_mem_take h)
            · rcases List.mem_cons.1 h with rfl | h
              · exact hdl
              · exact hdk.1 d (List.mem_of_mem_drop h)
          have hall2 : all.length = ks.length + 1 := by rw [hall, insP]; simp; omega
          refine drawO (fun W' => Blk W' b10 51 [.int .u16 bm, kv] ∧ Blk W' b7 28 (vbs dd)) (Ord.pre [0, 1, 2, 3, 5] (.two 4 6 (Ord.of [6, 7, 8]) (Ord.of [4, 7, 8]))) mixed (by decide +kernel) (fun w14 hE14 hh => ⟨⟨hM10.ext hE14, hM7.ext hE14⟩, ?_⟩)
          simp only [↓VD, VP, VT, isAggD, reduceCtorEq, Int.reduceEq, Int.reduceNe, Int.reduceLT, Int.reduceLE, implies_true, Nat.reduceEqDiff, reduceIte, ite_true, ite_false, eq_self, Nat.reduceLT, Nat.reduceLeDiff, Nat.reduceAdd, Nat.reduceMul, Nat.reduceSub, intOf, h3, h4, h7, h9, h10]
          refine loadS_of _ (fun w' h => ldAt (pre := []) (post := [kv]) Tryz.underlying48 rfl h.1 rfl rfl) ?_
          simp only [↓VD, VP, VT, isAggD, reduceCtorEq, Int.reduceEq, Int.reduceNe, Int.reduceLT, Int.reduceLE, implies_true, Nat.reduceEqDiff, reduceIte, ite_true, ite_false, eq_self, Nat.reduceLT, Nat.reduceLeDiff, Nat.reduceAdd, Nat.reduceMul, Nat.reduceSub, intOf, h3, h4, h7, h9, h10]
          refine loadS_of _ (fun w' h => ldA Tryz.underlying28 rfl h.2 (by rw [vbs_len, hdl, c28]) rfl) ?_
          simp only [↓VD, VP, VT, isAggD, reduceCtorEq, Int.reduceEq, Int.reduceNe, Int.reduceLT, Int.reduceLE, implies_true, Nat.reduceEqDiff, reduceIte, ite_true, ite_false, eq_self, Nat.reduceLT, Nat.reduceLeDiff, Nat.reduceAdd, Nat.reduceMul, Nat.reduceSub, intOf, h3, h4, h7, h9, h10]
          have hne : ∀ B, w14.heap.size ≤ B → vc.ownBlock ≠ some B := fun B hB e => by
            have := (hO13.ext hE14).lt B e
            omega
          have z14 := hE14.size
          refine ⟨?_, ?_⟩
          · refine (Rank_ok bm hbm (atP n k i).1 w14).mono ?_
            rintro _ w15 ⟨rfl, hE15⟩
            have z15 := hE15.size
            refine told (fun _ => True) ⟨(hM10.ext hE14).ext hE15, (hM7.ext hE14).ext hE15⟩ trivial ?_
            simp only [↓VD, VP, VT, isAggD, reduceCtorEq, Int.reduceEq, Int.reduceNe, Int.reduceLT, Int.reduceLE, implies_true, Nat.reduceEqDiff, reduceIte, ite_true, ite_false, eq_self, Nat.reduceLT, Nat.reduceLeDiff, Nat.reduceAdd, Nat.reduceMul, Nat.reduceSub, intOf, h3, h4, h7, h9, h10]
            refine ⟨by rw [vbs_len]; exact hdl, fun w16 hN16 => ?_⟩
            have z16 := hN16.size
            refine told (fun _ => True) ⟨((hM10.ext hE14).ext hE15).ext hN16.ext, ((hM7.ext hE14).ext hE15).ext hN16.ext⟩ trivial ?_
            simp only [↓VD, VP, VT, isAggD, reduceCtorEq, Int.reduceEq, Int.reduceNe, Int.reduceLT, Int.reduceLE, implies_true, Nat.reduceEqDiff, reduceIte, ite_true, ite_false, eq_self, Nat.reduceLT, Nat.reduceLeDiff, Nat.reduceAdd, Nat.reduceMul, Nat.reduceSub, intOf, h3, h4, h7, h9, h10]
            refine (Insert_ok ks hdk.1 (rankB bm (atP n k i).1) hrk' dd hdl vc w11.heap.size w15.heap.size w16 (((hO13.ext hE14).ext hE15).ext hN16.ext) (by omega) hN16.blk (hne _ (by omega)) (by omega)).mono ?_
            rintro v' w17 ⟨hO17, hB17⟩
            refine told (fun _ => True) ⟨(((hM10.ext hE14).ext hE15).ext hN16.ext).below hB17 (by omega), (((hM7.ext hE14).ext hE15).ext hN16.ext).below hB17 (by omega)⟩ trivial ?_
            simp only [↓VD, VP, VT, isAggD, reduceCtorEq, Int.reduceEq, Int.reduceNe, Int.reduceLT, Int.reduceLE, implies_true, Nat.reduceEqDiff, reduceIte, ite_true, ite_false, eq_self, Nat.reduceLT, Nat.reduceLeDiff, Nat.reduceAdd, Nat.reduceMul, Nat.reduceSub, intOf, h3, h4, h7, h9, h10]
            rw [← hall, ← hall2] at hO17
            exact ⟨⟨hal, SlC.of_own hO17⟩, (((hE14.trans' hE15).trans' hN16.ext).mono (by omega)).trans hB17⟩
          · refine ⟨by rw [vbs_len]; exact hdl, fun w15 hN15 => ?_⟩
            have z15 := hN15.size
            refine told (fun _ => True) ⟨(hM10.ext hE14).ext hN15.ext, (hM7.ext hE14).ext hN15.ext⟩ trivial ?_
            simp only [↓VD, VP, VT, isAggD, reduceCtorEq, Int.reduceEq, Int.reduceNe, Int.reduceLT, Int.reduceLE, implies_true, Nat.reduceEqDiff, reduceIte, ite_true, ite_false, eq_self, Nat.reduceLT, Nat.reduceLeDiff, Nat.reduceAdd, Nat.reduceMul, Nat.reduceSub, intOf, h3, h4, h7, h9, h10]
            refine (Rank_ok bm hbm (atP n k i).1 w15).mono ?_
            rintro _ w16 ⟨rfl, hE16⟩
            have z16 := hE16.size
            refine told (fun _ => True) ⟨((hM10.ext hE14).ext hN15.ext).ext hE16, ((hM7.ext hE14).ext hN15.ext).ext hE16⟩ trivial ?_
            simp only [↓VD, VP, VT, isAggD, reduceCtorEq, Int.reduceEq, Int.reduceNe, Int.reduceLT, Int.reduceLE, implies_true, Nat.reduceEqDiff, reduceIte, ite_true, ite_false, eq_self, Nat.reduceLT, Nat.reduceLeDiff, Nat.reduceAdd, Nat.reduceMul, Nat.reduceSub, intOf, h3, h4, h7, h9, h10]
            refine (Insert_ok ks hdk.1 (rankB bm (atP n k i).1) hrk' dd hdl vc w11.heap.size w14.heap.size w16 (((hO13.ext hE14).ext hN15.ext).ext hE16) (by omega) (hN15.blk.ext hE16) (hne _ (by omega)) (by omega)).mono ?_
            rintro v' w17 ⟨hO17, hB17⟩
            refine told (fun _ => True) ⟨(((hM10.ext hE14).ext hN15.ext).ext hE16).below hB17 (by omega), (((hM7.ext hE14).ext hN15.ext).ext hE16).below hB17 (by omega)⟩ trivial ?_
            simp only [↓VD, VP, VT, isAggD, reduceCtorEq, Int.reduceEq, Int.reduceNe, Int.reduceLT, Int.reduceLE, implies_true, Nat.reduceEqDiff, reduceIte, ite_true, ite_false, eq_self, Nat.reduceLT, Nat.reduceLeDiff, Nat.reduceAdd, Nat.reduceMul, Nat.reduceSub, intOf, h3, h4, h7, h9, h10]
            rw [← hall, ← hall2] at hO17
            exact ⟨⟨hal, SlC.of_own hO17⟩, (((hE14.trans' hN15.ext).trans' hE16).mono (by omega)).trans hB17⟩
        · rw [if_neg (by simp [hf])] at hall
          subst hall
          simp only [↓VD, VP, VT, isAggD, reduceCtorEq, Int.reduceEq, Int.reduceNe, Int.reduceLT, Int.reduceLE, implies_true, Nat.reduceEqDiff, reduceIte, ite_true, ite_false, eq_self, Nat.reduceLT, Nat.reduceLeDiff, Nat.reduceAdd, Nat.reduceMul, Nat.reduceSub, intOf, h3, h4, h7, h9, h10]
          refine ⟨⟨hdk.1, SlC.of_own hO13⟩, Below.refl _ _⟩
      · rintro s20 w20 ⟨k3, k7, k10, hDA, hBel⟩
        have hA20 : Ext W w20 := hEm.trans (hBel.mono (by omega))
        have hal2 : all.length ≤ ks.length + 1 := by
          rw [hall]
          split
          · rw [insP]; simp; omega
          · omega
        obtain ⟨a12, c12, e12⟩ := slv_of hDA.2
        simp only [↓VD, VP, VT, isAggD, reduceCtorEq, Int.reduceEq, Int.reduceNe, Int.reduceLT, Int.reduceLE, implies_true, Nat.reduceEqDiff, reduceIte, ite_true, ite_false, eq_self, Nat.reduceLT, Nat.reduceLeDiff, Nat.reduceAdd, Nat.reduceMul, Nat.reduceSub, intOf, k3, k7, k10]
        refine ldAt (pre := []) (post := []) Tryz.underlying3 rfl (hA3.ext hA20) rfl ?_
        simp only [↓VD, VP, VT, isAggD, reduceCtorEq, Int.reduceEq, Int.reduceNe, Int.reduceLT, Int.reduceLE, implies_true, Nat.reduceEqDiff, reduceIte, ite_true, ite_false, eq_self, Nat.reduceLT, Nat.reduceLeDiff, Nat.reduceAdd, Nat.reduceMul, Nat.reduceSub, intOf, k3, k7, k10]
        refine ldAt (pre := []) (post := [kv]) Tryz.underlying48 rfl (hB10.ext hA20) rfl ?_
        simp only [↓VD, VP, VT, isAggD, reduceCtorEq, Int.reduceEq, Int.reduceNe, Int.reduceLT, Int.reduceLE, implies_true, Nat.reduceEqDiff, reduceIte, ite_true, ite_false, eq_self, Nat.reduceLT, Nat.reduceLeDiff, Nat.reduceAdd, Nat.reduceMul, Nat.reduceSub, intOf, k3, k7, k10]
        refine (Branch_ok n bm hbm (s20 12) all w20 (hW.ext (hEW.trans' hA20)) hDA (by omega)).mono ?_
        rintro _ w21 ⟨rfl, hE21⟩
        simp only [↓VD, VP, VT, isAggD, reduceCtorEq, Int.reduceEq, Int.reduceNe, Int.reduceLT, Int.reduceLE, implies_true, Nat.reduceEqDiff, reduceIte, ite_true, ite_false, eq_self, Nat.reduceLT, Nat.reduceLeDiff, Nat.reduceAdd, Nat.reduceMul, Nat.reduceSub, intOf, k3, k7, k10]
        have z20 := hBel.size
        have z21 := hE21.size
        refine stAll ((hB.ext hA20).ext hE21) (vs := vbs (brD n bm all)) rfl (by rw [c28]; decide) (by rw [c28, vbs_len, brD_len]) (by rw [c28, vbs_len, ← hdd, hdl]) (vbs_one _) (fun w22 hP22 => ?_)
        simp only [↓VD, VP, VT, isAggD, reduceCtorEq, Int.reduceEq, Int.reduceNe, Int.reduceLT, Int.reduceLE, implies_true, Nat.reduceEqDiff, reduceIte, ite_true, ite_false, eq_self, Nat.reduceLT, Nat.reduceLeDiff, Nat.reduceAdd, Nat.reduceMul, Nat.reduceSub, intOf, k3, k7, k10]
        have hKB : KeepB W w22 b7 := (KeepB.of_ext (hA20.trans' hE21)).trans (KeepB.of_put hP22)
        refine ⟨keepsFrom_of hKB (by omega), KD.of_keepB hKB hsz, hKD.trans (KD.of_keepB hKB hsz), ?_⟩
        have := hP22.blk
        rw [hall, hdd] at this
        rw [upF_snoc]
        exact this
    · intro D W hD ⟨hKD, hB⟩ hWD
      refine tailM hF ?_
      simp only [↓VD, VP, VT, isAggD, reduceCtorEq, Int.reduceEq, Int.reduceNe, Int.reduceLT, Int.reduceLE, implies_true, Nat.reduceEqDiff, reduceIte, ite_true, ite_false, eq_self, Nat.reduceLT, Nat.reduceLeDiff, Nat.reduceAdd, Nat.reduceMul, Nat.reduceSub, intOf, g3, g4, g5, g6, g7, retM_ret]
      have hfl : (upF n k (backL ss) (up0 n (ps.map PR.dat))).length = 32 := upF_len _ _ _ _ hup0
      refine ldA Tryz.underlying28 rfl hB (by rw [vbs_len, hfl, c28]) ?_
      simp only [↓VD, VP, VT, isAggD, reduceCtorEq, Int.reduceEq, Int.reduceNe, Int.reduceLT, Int.reduceLE, implies_true, Nat.reduceEqDiff, reduceIte, ite_true, ite_false, eq_self, Nat.reduceLT, Nat.reduceLeDiff, Nat.reduceAdd, Nat.reduceMul, Nat.reduceSub, intOf, g3, g4, g5, g6, g7, retM_ret]
      have hA6 := hKD.blk hB6 (by omega) (by omega)
      refine stAll hA6 rfl (by rw [c28]; decide) (by rw [c28, vbs_len, hfl]) (by rw [c28]; simp [vbs]) (vbs_one _) (fun w10 hP10 => ?_)
      simp only [↓VD, VP, VT, isAggD, reduceCtorEq, Int.reduceEq, Int.reduceNe, Int.reduceLT, Int.reduceLE, implies_true, Nat.reduceEqDiff, reduceIte, ite_true, ite_false, eq_self, Nat.reduceLT, Nat.reduceLeDiff, Nat.reduceAdd, Nat.reduceMul, Nat.reduceSub, intOf, g3, g4, g5, g6, g7, retM_ret]
      have hDo : w10.heap[D]? = some (.deferred (some [])) := by rw [hP10.other D (by omega)]; exact hWD
      have hDl := (Array.getElem?_eq_some_iff.1 hDo).1
      have hPo : ∀ j, j ≠ D → (w10.putObj D (.deferred none)).heap[j]? = w10.heap[j]? := fun j hj => World.putObj_heap_other hj
      refine ⟨hDo, ldA Tryz.underlying28 rfl (⟨by rw [hPo b6 (by omega)]; exact hP10.blk.out⟩ : Blk _ b6 28 _) (by rw [vbs_len, hfl, c28]) ⟨rfl, ?_⟩⟩
      have hEW : Ext w W := hKD.ext hE9 (by omega) (by omega)
      refine (hEW.trans (hP10.below (by omega))).trans ⟨rfl, rfl, rfl, by simp, fun j hj => hPo j (by omega)⟩

end Go.Proofs.YtebbgninkbghlaaGreatDoor

/-! Cnv -/
namespace Go.Proofs.YtebbgninkbghlaaGreatDoor
set_option maxRecDepth 100000
open Go Go.RowKit
set_option linter.unusedVariables false
set_option linter.unusedSimpArgs false

/-! ### Conversions -/
theorem convS {w : World} {v : Value} {xs : List UInt8} {K : Value → World → Prop} (h : SlB w v xs) (hK : K (.string ⟨xs.toArray⟩) w) : RawConv Tryz.prog 22 9 v w K := by
  obtain ⟨a, c, rfl, hnc, hcm, hc⟩ := h
  cases a with
  | none =>
    have hx : xs = [] := by
      rcases hc with hc | ⟨b, o, h, _⟩
      · simpa [vbs] using hc
      · cases h
    subst hx
    refine ⟨⟨.string ⟨#[]⟩, w, ?_, hK⟩⟩
    rw [run_convert_bytes_string w 22 9 5 none _ c Tryz.underlying22 Tryz.underlying5 Tryz.underlying9]
    rfl
  | some a =>
    refine ⟨⟨_, _, run_convert_bytes_back w 22 9 5 a c xs Tryz.underlying22 Tryz.underlying5 Tryz.underlying9 ?_, hK⟩⟩
    intro j hj
    rcases hc with hc | ⟨b, o, h, hc⟩
    · have : xs = [] := by simpa [vbs] using hc
      subst this
      simp at hj
    · cases h
      rw [addr_add]
      exact hc j _ (by simp [vbs, vb, hj])
theorem convSQ {w : World} {v : Value} {xs : List UInt8} {K : Value → Prop} (h : SlB w v xs) (hK : K (.string ⟨xs.toArray⟩)) : RawConvQ Tryz.prog 22 9 v w K := by
  refine ⟨⟨_, fun w' hE => ?_, hK⟩⟩
  obtain ⟨v', w'', hr, he, hw⟩ := (convS (K := fun u W => u = .string ⟨xs.toArray⟩ ∧ W = w') (h.ext hE) ⟨rfl, rfl⟩).out
  subst he hw
  exact hr

theorem convM {w : World} {b n c : Nat} {T : TypeId} {xs : List UInt8} {K : Value → World → Prop} (hB : Blk w b T (vbs xs)) (hn : n = xs.length) (hc : n ≤ c) (hm : c ≤ 9223372036854775807)
    (hK : ∀ w', SlB w' (.slice (some ⟨b, 0, none⟩) n c) xs → KeepB w w' b → K (.slice (some ⟨b, 0, none⟩) n c) w') : RawConv Tryz.prog 22 22 (.slice (some ⟨b, 0, none⟩) n c) w K := by
  subst hn
  have hsh : w.shape? b = some (T, xs.length) := by simp [World.shape?, hB.out, vbs_len]
  refine ⟨⟨.slice (some ⟨b, 0, none⟩) xs.length c, w.freeze ⟨b, xs.length, none⟩ 1, ?_, ?_⟩⟩
  · simp [convert, run_underlying Tryz.underlying22, run_underlying Tryz.underlying5, markStringish, shape, Sem.run, Result.andThen, hsh]
  · refine hK _ ⟨_, _, rfl, hc, hm, Or.inr ⟨b, 0, rfl, fun j u hj => ?_⟩⟩ ⟨rfl, rfl, rfl, by simp [World.freeze], fun k hk hkb => ?_⟩
    · rw [Nat.zero_add]
      have := hj
      simp [World.cell?, World.freeze, Array.getElem?_modify, hB.out]
      exact hj
    · simp [World.freeze, Array.getElem?_modify, Ne.symm hkb]
/-! ### The order of strings -/
end Go.Proofs.YtebbgninkbghlaaGreatDoor

/-! Hck -/
namespace Go.Proofs.YtebbgninkbghlaaGreatDoor
set_option maxRecDepth 100000
open Go Go.RowKit
set_option linter.unusedVariables false
set_option linter.unusedSimpArgs false

/-! ### Package bytes -/
theorem BEqual_ok (xs ys : List UInt8) (u v : Value) (w : World) (hu : SlB w u xs) (hv : SlB w v ys) :
    CallK Tryz.prog 76 [u, v].toArray w fun r w' => r = .bool (decide (xs = ys)) ∧ w' = w := by
  refine enterT Tryz.func76 rfl Tryz.ntmps76 Tryz.results76 rfl (by decide) ?_
  simp only [↓VD, VP, VT, isAggD, reduceCtorEq, Int.reduceEq, Int.reduceNe, Int.reduceLT, Int.reduceLE, implies_true, Nat.reduceEqDiff, reduceIte, ite_true, ite_false, eq_self, Nat.reduceLT, Nat.reduceLeDiff, Nat.reduceAdd, Nat.reduceMul, Nat.reduceSub, intOf]
  refine convS hu ?_
  simp only [↓VD, VP, VT, isAggD, reduceCtorEq, Int.reduceEq, Int.reduceNe, Int.reduceLT, Int.reduceLE, implies_true, Nat.reduceEqDiff, reduceIte, ite_true, ite_false, eq_self, Nat.reduceLT, Nat.reduceLeDiff, Nat.reduceAdd, Nat.reduceMul, Nat.reduceSub, intOf]
  refine convS hv ?_
  simp only [↓VD, VP, VT, isAggD, reduceCtorEq, Int.reduceEq, Int.reduceNe, Int.reduceLT, Int.reduceLE, implies_true, Nat.reduceEqDiff, reduceIte, ite_true, ite_false, eq_self, Nat.reduceLT, Nat.reduceLeDiff, Nat.reduceAdd, Nat.reduceMul, Nat.reduceSub, intOf]
  refine ⟨_, _, rfl, rfl, ?_⟩
  simp only [↓VD, VP, VT, isAggD, reduceCtorEq, Int.reduceEq, Int.reduceNe, Int.reduceLT, Int.reduceLE, implies_true, Nat.reduceEqDiff, reduceIte, ite_true, ite_false, eq_self, Nat.reduceLT, Nat.reduceLeDiff, Nat.reduceAdd, Nat.reduceMul, Nat.reduceSub, intOf]
  simp only [ByteArray.toList_eq]
theorem BClone_ok (xs : List UInt8) (v : Value) (w : World) (hv : SlB w v xs) (hsz : xs.length ≤ 140737488355328) :
    CallK Tryz.prog 78 [v].toArray w fun v' w' => Own w' w.heap.size 5 1 v' xs.length (vbs xs) ∧ Ext w w' := by
  have hv' := hv
  obtain ⟨a, c, rfl, hnc, hcm, hc⟩ := hv'
  refine enterT Tryz.func78 rfl Tryz.ntmps78 Tryz.results78 rfl (by decide) ?_
  simp only [↓VD, VP, VT, isAggD, reduceCtorEq, Int.reduceEq, Int.reduceNe, Int.reduceLT, Int.reduceLE, implies_true, Nat.reduceEqDiff, reduceIte, ite_true, ite_false, eq_self, Nat.reduceLT, Nat.reduceLeDiff, Nat.reduceAdd, Nat.reduceMul, Nat.reduceSub, intOf]
  refine ⟨fun ha => ?_, fun ha => ⟨rfl, fun w1 hN => ?_⟩⟩
  · have : xs = [] := by
      rcases hc with hc | ⟨b, o, rfl, _⟩
      · simpa [vbs] using hc
      · cases ha
    subst this
    exact ⟨Own.nil _ _ _ _, Ext.rfl' w⟩
  · refine apS Tryz.underlying22 z5 c5 rfl (by decide) (Own.of_blk hN.blk (Nat.le_refl _) rfl (by decide)) (by have := hN.size; omega) (hv.ext hN.ext) (by rw [vbs_len, Nat.mul_one]) (vbs_one _) (by omega) (by rw [by5]; omega) (fun v' w2 hO hg => ?_)
    simp only [↓VD, VP, VT, isAggD, reduceCtorEq, Int.reduceEq, Int.reduceNe, Int.reduceLT, Int.reduceLE, implies_true, Nat.reduceEqDiff, reduceIte, ite_true, ite_false, eq_self, Nat.reduceLT, Nat.reduceLeDiff, Nat.reduceAdd, Nat.reduceMul, Nat.reduceSub, intOf]
    refine ⟨by simpa using hO, hN.ext.trans ⟨hg.os, hg.tape, hg.output, hg.size, fun k hk => hg.block k (by have := hN.size; omega) ?_⟩⟩
    simp only [Value.ownBlock, ne_eq, Option.some.injEq]
    omega
theorem bytesX (xs : List UInt8) : Lib.bytesOf (xs.map fun b => (b.toNat : Int)) = xs := by
  induction xs with
  | nil => rfl
  | cons x xs ih => simpa [Lib.bytesOf] using ih
theorem loadX {w : World} {v : Value} {xs : List UInt8} (h : SlB w v xs) : (Extern.Bytes.bytesOf v).run Tryz.prog w = .ok ⟨xs.toArray⟩ w := by
  obtain ⟨a, c, rfl, hnc, hcm, hc⟩ := h
  rcases hc with hc | ⟨b, o, rfl, hc⟩
  · have : xs = [] := by simpa [vbs] using hc
    subst this
    cases a <;> simp [Extern.Bytes.bytesOf, Extern.Bytes.loadBytes] <;> rfl
  · have := Lib.run_loadBytesX (P := Tryz.prog) w (xs.map fun b => (b.toNat : Int)) ⟨b, o, none⟩ .empty (fun j x hj => by
      rw [addr_add]
      exact hc j _ (by rw [vbs_ints]; simp at hj ⊢; exact hj))
    rw [List.length_map, bytesX] at this
    simpa [Extern.Bytes.bytesOf] using this
theorem BCompare_ok (xs ys : List UInt8) (u v : Value) (w : World) (hu : SlB w u xs) (hv : SlB w v ys) :
    CallK Tryz.prog 124 [u, v].toArray w fun r w' => r = .int .i64 (Lib.compareBytes xs ys) ∧ w' = w := by
  refine enterT Tryz.func124 rfl Tryz.ntmps124 Tryz.results124 rfl (by decide) ?_
  simp only [↓VD, VP, VT, isAggD, reduceCtorEq, Int.reduceEq, Int.reduceNe, Int.reduceLT, Int.reduceLE, implies_true, Nat.reduceEqDiff, reduceIte, ite_true, ite_false, eq_self, Nat.reduceLT, Nat.reduceLeDiff, Nat.reduceAdd, Nat.reduceMul, Nat.reduceSub, intOf]
  refine ⟨Or.inr ⟨.int .i64 (Lib.compareBytes xs ys), w, ?_, ?_⟩⟩
  · rw [run_callFunc_extern (e := Extern.BytealgCompare.compare) Tryz.func165 rfl rfl rfl rfl]
    change (Sem.run Tryz.prog (do pure (goInt (Extern.BytealgCompare.cmp (← Extern.Bytes.bytesOf u) (← Extern.Bytes.bytesOf v)))) w).andThen _ = _
    simp only [Sem.run_bind, Sem.run_pure, loadX hu, loadX hv, Result.andThen]
    rw [Lib.cmp_eq]
    rfl
  · simp only [↓VD, VP, VT, isAggD, reduceCtorEq, Int.reduceEq, Int.reduceNe, Int.reduceLT, Int.reduceLE, implies_true, Nat.reduceEqDiff, reduceIte, ite_true, ite_false, eq_self, Nat.reduceLT, Nat.reduceLeDiff, Nat.reduceAdd, Nat.reduceMul, Nat.reduceSub, intOf]

/-! ### kids -/
def kidsP (n : Int) (ss : List SR) : Prop := ∀ s ∈ ss, ∀ d ∈ s.ks, formB n d = true
instance (n : Int) (ss : List SR) : Decidable (kidsP n ss) := by unfold kidsP; infer_instance
theorem kids_ok (n : Int) (sv : Value) (ss : List SR) (w : World) (hs : StepsAt w sv ss) :
    CallK Tryz.prog 73 [.int .i64 n, sv].toArray w fun v w' => v = .bool (decide (kidsP n ss)) ∧ Ext w w' := by
  obtain ⟨⟨a, c, rfl, hnc, hcm, hc⟩, hss⟩ := hs
  refine enterT Tryz.func73 rfl Tryz.ntmps73 Tryz.results73 rfl (by decide) ?_
  simp only [↓VD, VP, VT, isAggD, reduceCtorEq, Int.reduceEq, Int.reduceNe, Int.reduceLT, Int.reduceLE, implies_true, Nat.reduceEqDiff, reduceIte, ite_true, ite_false, eq_self, Nat.reduceLT, Nat.reduceLeDiff, Nat.reduceAdd, Nat.reduceMul, Nat.reduceSub, intOf]
  refine loopT (fun s' w' => Ext w w' ∧ ∃ k : Nat, k ≤ ss.length ∧ s' 0 = .int .i64 n ∧ s' 9 = .slice a ss.length c ∧ s' 10 = .int .i64 ss.length ∧ s' 11 = .int .i64 k ∧
      ∀ s ∈ ss.take k, ∀ d ∈ s.ks, formB n d = true) (fun s' _ => ss.length - (intOf (s' 11)).toNat) ?_ ?_
  · simp only [↓VD, VP, VT, isAggD, reduceCtorEq, Int.reduceEq, Int.reduceNe, Int.reduceLT, Int.reduceLE, implies_true, Nat.reduceEqDiff, reduceIte, ite_true, ite_false, eq_self, Nat.reduceLT, Nat.reduceLeDiff, Nat.reduceAdd, Nat.reduceMul, Nat.reduceSub, intOf]
    exact ⟨Ext.rfl' w, 0, by omega, rfl, by simp⟩
  · rintro s2 w2 ⟨hE, k, hk, h0, h9, h10, h11, hz⟩
    simp only [↓VD, VP, VT, isAggD, reduceCtorEq, Int.reduceEq, Int.reduceNe, Int.reduceLT, Int.reduceLE, implies_true, Nat.reduceEqDiff, reduceIte, ite_true, ite_false, eq_self, Nat.reduceLT, Nat.reduceLeDiff, Nat.reduceAdd, Nat.reduceMul, Nat.reduceSub, intOf, h0, h9, h10, h11]
    refine ⟨fun hlt => ?_, fun hge => ?_⟩
    · have hlt' : k < ss.length := by omega
      rcases hc with hc | ⟨b, o, rfl, hc⟩
      · exfalso
        cases ss with
        | nil => simp at hlt'
        | cons d ds => simp [SR.cells] at hc
      obtain ⟨x, hx⟩ : ∃ x, ss[k]? = some x := ⟨_, List.getElem?_eq_getElem hlt'⟩
      obtain ⟨hbm, hdk⟩ := hss x (List.mem_of_getElem? hx)
      have hc1 : ∀ j u, (ss.flatMap SR.cells)[j]? = some u → w2.cell? ⟨b, o + j, none⟩ = some u := fun j u hj => by rw [hE.cell (block_lt_of_cell (hc j u hj))]; exact hc j u hj
      simp only [↓VD, VP, VT, isAggD, reduceCtorEq, Int.reduceEq, Int.reduceNe, Int.reduceLT, Int.reduceLE, implies_true, Nat.reduceEqDiff, reduceIte, ite_true, ite_false, eq_self, Nat.reduceLT, Nat.reduceLeDiff, Nat.reduceAdd, Nat.reduceMul, Nat.reduceSub, intOf]
      refine ⟨by omega, by omega, ldE (f := SR.cells) c51 Tryz.underlying51 rfl (fun d h => rfl) hc1 hx ?_⟩
      simp only [↓VD, VP, VT, isAggD, reduceCtorEq, Int.reduceEq, Int.reduceNe, Int.reduceLT, Int.reduceLE, implies_true, Nat.reduceEqDiff, reduceIte, ite_true, ite_false, eq_self, Nat.reduceLT, Nat.reduceLeDiff, Nat.reduceAdd, Nat.reduceMul, Nat.reduceSub, intOf]
      intro w3 hN
      obtain ⟨ak, ck, hkv⟩ := slv_of hdk.2
      refine stAll hN.blk (vs := x.cells) rfl (by rw [c51]; decide) (by rw [c51]; rfl) (by rw [c51]; rfl) (by rw [SR.cells, hkv]; simp [oneCellV]) (fun w4 hP => ?_)
      simp only [↓VD, VP, VT, isAggD, reduceCtorEq, Int.reduceEq, Int.reduceNe, Int.reduceLT, Int.reduceLE, implies_true, Nat.reduceEqDiff, reduceIte, ite_true, ite_false, eq_self, Nat.reduceLT, Nat.reduceLeDiff, Nat.reduceAdd, Nat.reduceMul, Nat.reduceSub, intOf, h0, h9, h10, h11]
      have hE4 : Ext w w4 := hE.trans' (hN.ext.trans (hP.below (Nat.le_refl _)))
      obtain ⟨kv, bm, ks⟩ := x
      simp only at hkv hdk hbm
      subst hkv
      have hB : Blk w4 w2.heap.size 51 [.int .u16 bm, .slice ak ks.length ck] := hP.blk
      refine ldAt (pre := [.int .u16 bm]) (post := []) Tryz.underlying49 rfl hB rfl ?_
      simp only [↓VD, VP, VT, isAggD, reduceCtorEq, Int.reduceEq, Int.reduceNe, Int.reduceLT, Int.reduceLE, implies_true, Nat.reduceEqDiff, reduceIte, ite_true, ite_false, eq_self, Nat.reduceLT, Nat.reduceLeDiff, Nat.reduceAdd, Nat.reduceMul, Nat.reduceSub, intOf, h0, h9, h10, h11]
      obtain ⟨hd, a', c', he, hnc', hcm', hck⟩ := hdk
      cases he
      refine loopT (fun s' w' => Ext w w' ∧ ∃ i : Nat, i ≤ ks.length ∧ s' 0 = .int .i64 n ∧ s' 9 = .slice (some ⟨b, o, none⟩) ss.length c ∧ s' 10 = .int .i64 ss.length ∧ s' 11 = .int .i64 k ∧ s' 16 = .slice ak ks.length ck ∧ s' 17 = .int .i64 ks.length ∧ s' 18 = .int .i64 i ∧
        ∀ d ∈ ks.take i, formB n d = true) (fun s' _ => ks.length - (intOf (s' 18)).toNat) ?_ ?_
      · simp only [↓VD, VP, VT, isAggD, reduceCtorEq, Int.reduceEq, Int.reduceNe, Int.reduceLT, Int.reduceLE, implies_true, Nat.reduceEqDiff, reduceIte, ite_true, ite_false, eq_self, Nat.reduceLT, Nat.reduceLeDiff, Nat.reduceAdd, Nat.reduceMul, Nat.reduceSub, intOf, h0, h9, h10, h11]
        exact ⟨hE4, 0, by omega, rfl, by simp⟩
      · rintro s5 w5 ⟨hE5, i, hi, k0, k9, k10, k11, k16, k17, k18, hz5⟩
        simp only [↓VD, VP, VT, isAggD, reduceCtorEq, Int.reduceEq, Int.reduceNe, Int.reduceLT, Int.reduceLE, implies_true, Nat.reduceEqDiff, reduceIte, ite_true, ite_false, eq_self, Nat.reduceLT, Nat.reduceLeDiff, Nat.reduceAdd, Nat.reduceMul, Nat.reduceSub, intOf, k0, k9, k10, k11, k16, k17, k18]
        refine ⟨fun hlti => ?_, fun hgei => ?_⟩
        · have hlti' : i < ks.length := by omega
          rcases hck with hck | ⟨b', o', rfl, hck⟩
          · exfalso
            cases ks with
            | nil => simp at hlti'
            | cons d ds => have := hd d (by simp); simp at hck; simp [vbs] at hck; have h3 := hck.1; simp [h3] at this
          obtain ⟨y, hy⟩ : ∃ y, ks[i]? = some y := ⟨_, List.getElem?_eq_getElem hlti'⟩
          have hyl : y.length = 32 := hd y (List.mem_of_getElem? hy)
          have hc5 : ∀ j u, (ks.flatMap vbs)[j]? = some u → w5.cell? ⟨b', o' + j, none⟩ = some u := fun j u hj => by rw [hE5.cell (block_lt_of_cell (hck j u hj))]; exact hck j u hj
          simp only [↓VD, VP, VT, isAggD, reduceCtorEq, Int.reduceEq, Int.reduceNe, Int.reduceLT, Int.reduceLE, implies_true, Nat.reduceEqDiff, reduceIte, ite_true, ite_false, eq_self, Nat.reduceLT, Nat.reduceLeDiff, Nat.reduceAdd, Nat.reduceMul, Nat.reduceSub, intOf]
          refine ⟨by omega, by omega, ldE c28 Tryz.underlying28 rfl (fun d h => by rw [vbs_len]; exact hd d h) hc5 hy ?_⟩
          simp only [↓VD, VP, VT, isAggD, reduceCtorEq, Int.reduceEq, Int.reduceNe, Int.reduceLT, Int.reduceLE, implies_true, Nat.reduceEqDiff, reduceIte, ite_true, ite_false, eq_self, Nat.reduceLT, Nat.reduceLeDiff, Nat.reduceAdd, Nat.reduceMul, Nat.reduceSub, intOf]
          intro w6 hN6
          refine stAll hN6.blk rfl (by rw [c28]; omega) (by rw [c28, vbs_len, hyl]) (by rw [c28]; simp) (vbs_one y) (fun w7 hP7 => ?_)
          simp only [↓VD, VP, VT, isAggD, reduceCtorEq, Int.reduceEq, Int.reduceNe, Int.reduceLT, Int.reduceLE, implies_true, Nat.reduceEqDiff, reduceIte, ite_true, ite_false, eq_self, Nat.reduceLT, Nat.reduceLeDiff, Nat.reduceAdd, Nat.reduceMul, Nat.reduceSub, intOf, k0, k9, k10, k11, k16, k17, k18]
          refine ldA Tryz.underlying28 rfl hP7.blk (by rw [vbs_len, hyl, c28]) ?_
          simp only [↓VD, VP, VT, isAggD, reduceCtorEq, Int.reduceEq, Int.reduceNe, Int.reduceLT, Int.reduceLE, implies_true, Nat.reduceEqDiff, reduceIte, ite_true, ite_false, eq_self, Nat.reduceLT, Nat.reduceLeDiff, Nat.reduceAdd, Nat.reduceMul, Nat.reduceSub, intOf, k0, k9, k10, k11, k16, k17, k18]
          refine (Form_ok n y hyl w7).mono ?_
          rintro _ w8 ⟨rfl, hE8⟩
          have hE8' : Ext w w8 := (hE5.trans' (hN6.ext.trans (hP7.below (Nat.le_refl _)))).trans' hE8
          cases hf : formB n y
          · simp only [↓VD, VP, VT, isAggD, reduceCtorEq, Int.reduceEq, Int.reduceNe, Int.reduceLT, Int.reduceLE, implies_true, Nat.reduceEqDiff, reduceIte, ite_true, ite_false, eq_self, Nat.reduceLT, Nat.reduceLeDiff, Nat.reduceAdd, Nat.reduceMul, Nat.reduceSub, intOf, k0, k9, k10, k11, k16, k17, k18, hf]
            refine ⟨?_, hE8'⟩
            rw [decide_eq_false]
            intro hall
            rw [hall _ (List.mem_of_getElem? hx) y (List.mem_of_getElem? hy)] at hf
            cases hf
          · simp only [↓VD, VP, VT, isAggD, reduceCtorEq, Int.reduceEq, Int.reduceNe, Int.reduceLT, Int.reduceLE, implies_true, Nat.reduceEqDiff, reduceIte, ite_true, ite_false, eq_self, Nat.reduceLT, Nat.reduceLeDiff, Nat.reduceAdd, Nat.reduceMul, Nat.reduceSub, intOf, k0, k9, k10, k11, k16, k17, k18, hf]
            refine ⟨⟨hE8', i + 1, by omega, ?_, (take_all_succ hy).2 ⟨hz5, hf⟩⟩, ?_⟩
            · rw [w64 (by omega) (by omega)]; rfl
            · rw [w64 (by omega) (by omega)]; omega
        · rw [List.take_of_length_le (by omega)] at hz5
          refine ⟨⟨hE5, k + 1, by omega, ?_, (take_all_succ (p := fun s => ∀ d ∈ s.ks, formB n d = true) hx).2 ⟨hz, hz5⟩⟩, ?_⟩
          · rw [w64 (by omega) (by omega)]; rfl
          · rw [w64 (by omega) (by omega), h11]; simp only [intOf]; omega
    · rw [List.take_of_length_le (by omega)] at hz
      exact ⟨by rw [decide_eq_true (show kidsP n ss from hz)], hE⟩

end Go.Proofs.YtebbgninkbghlaaGreatDoor
