/-
  Regions that draw their order, with forks of three. Conditions: as stated in each theorem. A range over slices.Backward as a rule of the calculus. Conditions: as stated in each theorem. hcheck.child and hcheck.up: the digest to which a proof leads. Conditions: as stated in each theorem. Package bytes' Equal, Clone, Compare; hcheck.kids. Conditions: as stated in each theorem. hcheck.branches. Conditions: as stated in each theorem. hcheck.bucket. Conditions: as stated in each theorem. hcheck.RootOf and hcheck.Check. Conditions: as stated in each theorem. hcheck.Check. Conditions: as stated in each theorem. The statements' helpers bucket and awake (package notarylaw16). Conditions: as stated in each theorem. HcheckAgrees: the walk. Conditions: as stated in each theorem. Plain facts on digests' digits, and: a path that ends in a bucket serves each key with the same digits. Conditions: as stated in each theorem. What a map's own path says: RootOf takes it, it leads to the map's digest, and it says of the key what the map says. Conditions: as stated in each theorem.
-/
import Derived.Test.YthlkfjoibjhaiaaGreatDoorMWholeShown9
import Derived.Test.YthlkfjoibjhaiaaGreatDoorMWholeShown10
import Derived.Test.YthlkfjoibjhaiaaGreatDoorMWholeShown11
import Derived.Lib.BytesEntry
import Derived.Lib.ConvBytes
import Derived.Laws.Externs
import Derived.Laws.IdiomStrings
import Derived.Test.YthlkfjoibjhaiaaGreatDoorMWholeShown8
/-! Vj -/
namespace Go.Proofs.YthlkfjoibjhaiaaGreatDoor
set_option maxRecDepth 100000
set_option maxHeartbeats 2000000
open Go Go.RowKit
set_option linter.unusedVariables false
set_option linter.unusedSimpArgs false
/-- An order; at a fork either of two operations may come up first. -/
inductive Or3 where
  | nil
  | one (i : Nat) (r : Or3)
  | two (i j : Nat) (p q : Or3)
  | three (i j k : Nat) (p q r : Or3)
def Or3.pre : List Nat → Or3 → Or3
  | [], o => o
  | i :: l, o => .one i (Or3.pre l o)
abbrev Or3.of (l : List Nat) : Or3 := Or3.pre l .nil
/-- May the operations come up in this order: each quiet one first of all, each other one alone (or at a fork with one other)? -/
def stepsOk3 (P : Program) (ops : Array Oper) : Or3 → Array Bool → Nat → Bool
  | .nil, listed, _ => (Region.ready .any ops listed).isEmpty
  | .one i r, listed, n + 1 =>
    (match ops[i]? with
    | some o => (if quietOp P o then (Region.ready .any ops listed).contains i && Region.free .any ops listed i else Region.ready .any ops listed == [i]) && stepsOk3 P ops r (listed.setIfInBounds i true) n
    | none => false)
  | .two i j p q, listed, n + 1 =>
    (match ops[i]?, ops[j]? with
    | some o, some u => !quietOp P o && !quietOp P u && Region.ready .any ops listed == [i, j] && stepsOk3 P ops p (listed.setIfInBounds i true) n && stepsOk3 P ops q (listed.setIfInBounds j true) n
    | _, _ => false)
  | .three i j k p q r, listed, n + 1 =>
    (match ops[i]?, ops[j]?, ops[k]? with
    | some o, some u, some v => !quietOp P o && !quietOp P u && !quietOp P v && Region.ready .any ops listed == [i, j, k] && stepsOk3 P ops p (listed.setIfInBounds i true) n && stepsOk3 P ops q (listed.setIfInBounds j true) n && stepsOk3 P ops r (listed.setIfInBounds k true) n
    | _, _, _ => false)
  | _, _, 0 => false
def orderOk3 (P : Program) (ops : Array Oper) (l : Or3) : Bool := Region.noSelect ops && noDefer ops && stepsOk3 P ops l (Array.replicate ops.size false) ops.size

section
def vcJ (P : Program) (n : Nat) (ops : List Oper) : Or3 → (World → Prop) → Fm → World → (Fm → World → Prop) → Prop
  | .nil, S, s, w, K => K s w
  | .one i r, S, s, w, K => vcH1 P n ops i S s w fun S' s' w' => vcJ P n ops r S' s' w' K
  | .two i j p q, S, s, w, K => vcH1 P n ops i S s w (fun S' s' w' => vcJ P n ops p S' s' w' K) ∧ vcH1 P n ops j S s w (fun S' s' w' => vcJ P n ops q S' s' w' K)
  | .three i j k p q r, S, s, w, K => vcH1 P n ops i S s w (fun S' s' w' => vcJ P n ops p S' s' w' K) ∧ vcH1 P n ops j S s w (fun S' s' w' => vcJ P n ops q S' s' w' K) ∧ vcH1 P n ops k S s w (fun S' s' w' => vcJ P n ops r S' s' w' K)
variable {D : List Deferred} {ro : Option Nat}
theorem vcJ_sound {P : Program} {n : Nat} {opl : List Oper} {ops : Array Oper} (hol : opl.toArray = ops) {K : Fm → World → Prop} (hs : Region.noSelect ops = true) (hnd : noDefer ops = true) :
    ∀ (l : Or3) (fuel : Nat) (S : World → Prop) (listed : Array Bool) (s : Fm) (w : World), stepsOk3 P ops l listed fuel = true → S w → vcJ P n opl l S s w K → ∀ a, Fr D a n s → wpAnyD P ro .any ops (NormQ D n K) fuel S listed a w
  | .nil, fuel, S, listed, s, w, hok, hS, h, a, hF => by
    refine wpAnyD_done ?_ ⟨rfl, s, hF, h⟩ fuel
    cases fuel <;> simpa [stepsOk3] using hok
  | .one i r, 0, S, listed, s, w, hok, hS, h, a, hF => by simp [stepsOk3] at hok
  | .two i j p q, 0, S, listed, s, w, hok, hS, h, a, hF => by simp [stepsOk3] at hok
  | .three i j k p q r, 0, S, listed, s, w, hok, hS, h, a, hF => by simp [stepsOk3] at hok
  | .one i r, fuel + 1, S, listed, s, w, hok, hS, h, a, hF => by
    have ih := fun S' => vcJ_sound (P := P) (n := n) hol (K := K) hs hnd r fuel S' (listed.setIfInBounds i true)
    simp only [stepsOk3] at hok
    simp only [vcJ] at h
    cases ho : ops[i]? with
    | none => simp [ho] at hok
    | some o =>
      simp only [ho, Bool.and_eq_true] at hok
      obtain ⟨hstep, hrest⟩ := hok
      have hQ : ∀ v c (a : Act) w, NormQ D n K (.panic c) (a.put o.dst v) w → NormQ D n K (.panic c) a w := fun v c a w h => by cases h.1
      cases hq : quietOp P o with
      | true =>
        rw [if_pos hq] at hstep
        simp only [Bool.and_eq_true] at hstep
        obtain ⟨hd, s', hF', ⟨hw, hrun⟩ | ⟨hw, hK⟩⟩ := vcH1_cases hol ho h hF
        · unfold runH at hrun
          rw [if_pos hq] at hrun
          obtain ⟨v, hv, hK⟩ := QH_runs hrun
          refine wpAnyD_take (v := v) hnd ho hs hstep.2 hstep.1 (hQ v) (Or.inl ⟨hw, fun w1 hw1 => by rw [hF'.ev]; exact hv w1 hw1⟩) hS ?_
          exact ih S _ _ hrest hS hK _ (hF'.put hd v)
        · refine wpAnyD_take (v := undef) hnd ho hs hstep.2 hstep.1 (hQ _) (Or.inr ⟨hw, rfl⟩) hS ?_
          exact ih S _ _ hrest hS hK _ (hF'.put hd undef)
      | false =>
        rw [if_neg (by simp [hq])] at hstep
        have hr : Region.ready .any ops listed = [i] := by simpa using hstep
        refine wpAnyD_all hr (by simp) ?_
        intro j hj
        have : j = i := by simpa using hj
        subst this
        exact vcH1_loud hol ho hq h hF (by rw [hr]; simp) hS (fun S' s' a' w' hF' hS' hK => ih S' s' w' hrest hS' hK a' hF')
  | .two i j p q, fuel + 1, S, listed, s, w, hok, hS, h, a, hF => by
    have ihp := fun S' => vcJ_sound (P := P) (n := n) hol (K := K) hs hnd p fuel S' (listed.setIfInBounds i true)
    have ihq := fun S' => vcJ_sound (P := P) (n := n) hol (K := K) hs hnd q fuel S' (listed.setIfInBounds j true)
    simp only [stepsOk3] at hok
    simp only [vcJ] at h
    cases ho : ops[i]? with
    | none => simp [ho] at hok
    | some o =>
      cases hu : ops[j]? with
      | none => simp [ho, hu] at hok
      | some u =>
        simp only [ho, hu, Bool.and_eq_true, Bool.not_eq_true'] at hok
        obtain ⟨⟨⟨⟨hq1, hq2⟩, hr⟩, hp⟩, hq⟩ := hok
        have hr : Region.ready .any ops listed = [i, j] := by simpa using hr
        refine wpAnyD_all hr (by simp) ?_
        intro k hk
        have hk : k = i ∨ k = j := by simpa using hk
        rcases hk with rfl | rfl
        · exact vcH1_loud hol ho hq1 h.1 hF (by rw [hr]; simp) hS (fun S' s' a' w' hF' hS' hK => ihp S' s' w' hp hS' hK a' hF')
        · exact vcH1_loud hol hu hq2 h.2 hF (by rw [hr]; simp) hS (fun S' s' a' w' hF' hS' hK => ihq S' s' w' hq hS' hK a' hF')
  | .three i j k p q r, fuel + 1, S, listed, s, w, hok, hS, h, a, hF => by
    have ihp := fun S' => vcJ_sound (P := P) (n := n) hol (K := K) hs hnd p fuel S' (listed.setIfInBounds i true)
    have ihq := fun S' => vcJ_sound (P := P) (n := n) hol (K := K) hs hnd q fuel S' (listed.setIfInBounds j true)
    have ihr := fun S' => vcJ_sound (P := P) (n := n) hol (K := K) hs hnd r fuel S' (listed.setIfInBounds k true)
    simp only [stepsOk3] at hok
    simp only [vcJ] at h
    cases ho : ops[i]? with
    | none => simp [ho] at hok
    | some o =>
      cases hu : ops[j]? with
      | none => simp [ho, hu] at hok
      | some u =>
        cases hv : ops[k]? with
        | none => simp [ho, hu, hv] at hok
        | some v =>
          simp only [ho, hu, hv, Bool.and_eq_true, Bool.not_eq_true'] at hok
          obtain ⟨⟨⟨⟨⟨⟨hq1, hq2⟩, hq3⟩, hr⟩, hp⟩, hq⟩, hrr⟩ := hok
          have hr : Region.ready .any ops listed = [i, j, k] := by simpa using hr
          refine wpAnyD_all hr (by simp) ?_
          intro x hx
          have hx : x = i ∨ x = j ∨ x = k := by simpa using hx
          rcases hx with rfl | rfl | rfl
          · exact vcH1_loud hol ho hq1 h.1 hF (by rw [hr]; simp) hS (fun S' s' a' w' hF' hS' hK => ihp S' s' w' hp hS' hK a' hF')
          · exact vcH1_loud hol hu hq2 h.2.1 hF (by rw [hr]; simp) hS (fun S' s' a' w' hF' hS' hK => ihq S' s' w' hq hS' hK a' hF')
          · exact vcH1_loud hol hv hq3 h.2.2 hF (by rw [hr]; simp) hS (fun S' s' a' w' hF' hS' hK => ihr S' s' w' hrr hS' hK a' hF')

section
variable (P : Program) (n : Nat) (S : World → Prop) (K : Fm → World → Prop)
def jT (ops : List Oper) (l : Or3) (s : Fm) (w : World) (K : Fm → World → Prop) (_t : Tag (ops, l, s, K) := ⟨⟩) : Prop := vcJ P n ops l S s w K
def jO (ops : List Oper) (i : Nat) (o : Option Oper) (l : Or3) (s : Fm) (w : World) (K : Fm → World → Prop) (_t : Tag (ops, l, s, K) := ⟨⟩) : Prop :=
  match o with
  | none => False
  | some o =>
      match o.guard with
      | none => dok n o.dst ∧ runH P o s (LastP ops i) S w fun S' v w' => jT P n S' ops l (updO s o.dst v) w' K
      | some (j, want) =>
        match (ops.toArray[j]?).bind (·.dst) with
        | some d => dok n o.dst ∧ d < n ∧ grdV (s d) want
            (runH P o (upd s d (.bool want)) (LastP ops i) S w fun S' v w' => jT P n S' ops l (updO (upd s d (.bool want)) o.dst v) w' K)
            (jT P n S ops l (updO (upd s d (.bool (!want))) o.dst undef) w K)
            (jT P n S ops l (updO s o.dst undef) w K)
        | none => False
variable (ops : List Oper) (s : Fm) (w : World) (i : Nat) (l : List Nat) (r r' : Or3) (d : Option Tmp) (op : Op) (ty : TypeId) (pos : String) (af : Array Edge)
theorem jO_vc (l : Or3) : jO P n S ops i ops[i]? l s w K = vcH1 P n ops i S s w fun S' s' w' => vcJ P n ops l S' s' w' K := by
  have e : ops.toArray[i]? = ops[i]? := List.getElem?_toArray
  rw [← e]
  exact propext Iff.rfl
theorem j_nil : jT P n S ops (Or3.pre [] .nil) s w K = K s w := propext Iff.rfl
theorem j_cons : jT P n S ops (Or3.pre (i :: l) r) s w K = jO P n S ops i ops[i]? (Or3.pre l r) s w K := (jO_vc P n S K ops s w i (Or3.pre l r)).symm
theorem j_two (j : Nat) : jT P n S ops (Or3.pre [] (.two i j r r')) s w K = (jO P n S ops i ops[i]? r s w K ∧ jO P n S ops j ops[j]? r' s w K) := by
  rw [jO_vc, jO_vc]; exact propext Iff.rfl
theorem j_three (j k : Nat) (r'' : Or3) : jT P n S ops (Or3.pre [] (.three i j k r r' r'')) s w K = (jO P n S ops i ops[i]? r s w K ∧ jO P n S ops j ops[j]? r' s w K ∧ jO P n S ops k ops[k]? r'' s w K) := by
  rw [jO_vc, jO_vc, jO_vc]; exact propext Iff.rfl
theorem jO_plain (l : Or3) : jO P n S ops i (some ⟨d, op, ty, pos, af, none⟩) l s w K = (dok n d ∧ runH P ⟨d, op, ty, pos, af, none⟩ s (LastP ops i) S w fun S' v w' => jT P n S' ops l (updO s d v) w' K) := propext Iff.rfl
def jG (i : Nat) (e : Option Tmp) (want : Bool) (o : Oper) (ops : List Oper) (l : Or3) (s : Fm) (w : World) (K : Fm → World → Prop) (_t : Tag (o, ops, l, s, K) := ⟨⟩) : Prop :=
        match e with
        | some d => dok n o.dst ∧ d < n ∧ grdV (s d) want
            (runH P o (upd s d (.bool want)) (LastP ops i) S w fun S' v w' => jT P n S' ops l (updO (upd s d (.bool want)) o.dst v) w' K)
            (jT P n S ops l (updO (upd s d (.bool (!want))) o.dst undef) w K)
            (jT P n S ops l (updO s o.dst undef) w K)
        | none => False
theorem jO_grd (j : Nat) (want : Bool) (l : Or3) : jO P n S ops i (some ⟨d, op, ty, pos, af, some (j, want)⟩) l s w K = jG P n S i ((ops[j]?).bind (·.dst)) want ⟨d, op, ty, pos, af, some (j, want)⟩ ops l s w K := by
  have e : ops.toArray[j]? = ops[j]? := List.getElem?_toArray
  rw [← e]
  exact propext Iff.rfl
theorem jG_some (e : Nat) (want : Bool) (g : Option (Nat × Bool)) (l : Or3) : jG P n S i (some e) want ⟨d, op, ty, pos, af, g⟩ ops l s w K = (dok n d ∧ e < n ∧ grdV (s e) want
            (runH P ⟨d, op, ty, pos, af, g⟩ (upd s e (.bool want)) (LastP ops i) S w fun S' v w' => jT P n S' ops l (updO (upd s e (.bool want)) d v) w' K)
            (jT P n S ops l (updO (upd s e (.bool (!want))) d undef) w K)
            (jT P n S ops l (updO s d undef) w K)) := propext Iff.rfl
end
theorem drawJ {P : Program} {n id : Nat} {ops : List Oper} {s : Fm} {w : World} {Q : Post} (S : World → Prop) (l : Or3) (hm : P.follows .mixedOrders = true) (hB : orderOk3 P ops.toArray l = true)
    (h : ∀ w1, Ext w w1 → w1.heap = w.heap → S w1 ∧ jT P n S ops l s w1 fun s' w' => Q .normal s' w') : DrawVC P n ro id ops.toArray s w Q := by
  refine ⟨fun D a hF => ?_⟩
  simp only [orderOk3, Bool.and_eq_true] at hB
  obtain ⟨⟨hB1, hB2⟩, hB3⟩ := hB
  obtain ⟨hS, hv⟩ := h { w with drawn := w.drawn + 1 } ⟨rfl, rfl, rfl, Nat.le_refl _, fun _ _ => rfl⟩ rfl
  have h1 := vcJ_sound (P := P) (ro := ro) (n := n) rfl (K := fun s' w' => Q .normal s' w') hB1 hB2 l _ S _ s _ hB3 hS hv a hF
  refine wpIn_mono (wp_region_dyn hm h1) ?_
  rintro e a' w' ⟨rfl, s', hF', hK⟩
  exact ⟨s', hF', hK⟩
end
theorem drawXJ {P : Program} {n id : Nat} {ro : Option Nat} {ops : List Oper} {s : Fm} {w : World} {Q : Post} (l : Or3) (hm : P.follows .mixedOrders = true) (hB : orderOk3 P ops.toArray l = true)
    (h : ∀ w1, Ext w w1 → w.heap.size ≤ w1.heap.size → jT P n (Ext w) ops l s w1 fun s' w' => Q .normal s' w') : DrawVC P n ro id ops.toArray s w Q := drawJ (Ext w) l hm hB (fun w1 hE _ => ⟨hE, h w1 hE hE.size⟩)
theorem stj {p q : Prop} (hq : q) (h : p = q := by simp only [↓VD, VP, VT, isAggD, reduceCtorEq, Int.reduceEq, Int.reduceNe, Int.reduceLT, Int.reduceLE, implies_true, Nat.reduceEqDiff, reduceIte, ite_true, ite_false, eq_self, Nat.reduceLT, Nat.reduceLeDiff, Nat.reduceAdd, Nat.reduceMul, Nat.reduceSub, intOf, VG, ↓VI, ↓j_nil, ↓j_cons, ↓j_two, ↓j_three, jO_plain, jO_grd, jG_some] ; exact rfl) : p := h.mpr hq
end Go.Proofs.YthlkfjoibjhaiaaGreatDoor

/-! Rng -/
namespace Go.Proofs.YthlkfjoibjhaiaaGreatDoor
set_option maxRecDepth 100000
set_option maxHeartbeats 2000000
open Go Go.RowKit
set_option linter.unusedVariables false
set_option linter.unusedSimpArgs false

/-- All blocks below B but d stay. -/
structure KD (B d : Nat) (w w' : World) : Prop where
  os : w'.os = w.os
  tape : w'.tape = w.tape
  output : w'.output = w.output
  size : w.heap.size ≤ w'.heap.size
  other : ∀ k, k < B → k ≠ d → w'.heap[k]? = w.heap[k]?
theorem KD.rfl' (B d : Nat) (w : World) : KD B d w w := ⟨rfl, rfl, rfl, Nat.le_refl _, fun _ _ _ => rfl⟩
theorem KD.trans {B d : Nat} {a b c : World} (h : KD B d a b) (g : KD B d b c) : KD B d a c :=
  ⟨g.os.trans h.os, g.tape.trans h.tape, g.output.trans h.output, Nat.le_trans h.size g.size, fun k hk hd => (g.other k hk hd).trans (h.other k hk hd)⟩
theorem KD.of_below {B d : Nat} {w w' : World} (h : Below B w w') : KD B d w w' := ⟨h.os, h.tape, h.output, h.size, fun k hk _ => h.block k hk⟩
theorem KD.of_keepB {B d : Nat} {w w' : World} (h : KeepB w w' d) (hB : B ≤ w.heap.size) : KD B d w w' := ⟨h.os, h.tape, h.output, h.size, fun k hk hd => h.other k (by omega) hd⟩
theorem KD.blk {B d c : Nat} {T : TypeId} {l : List Value} {w w' : World} (h : KD B d w w') (k : Blk w c T l) (hc : c < B) (hd : c ≠ d) : Blk w' c T l := ⟨by rw [h.other c hc hd]; exact k.out⟩
theorem KD.ext {B d : Nat} {w0 w w' : World} (h : KD B d w w') (e : Ext w0 w) (h1 : w0.heap.size ≤ d) (h2 : w0.heap.size ≤ B) : Ext w0 w' :=
  ⟨h.os.trans e.os, h.tape.trans e.tape, h.output.trans e.output, Nat.le_trans e.size h.size, fun k hk => (h.other k (by omega) (by omega)).trans (e.block k hk)⟩
theorem keepsFrom_of {B d : Nat} {w w' : World} (h : KeepB w w' d) (hd : d < B) : KeepsFrom B w w' :=
  ⟨h.size, fun k o hB hk _ => (h.other k (Array.getElem?_eq_some_iff.1 hk).1 (by omega)).trans hk⟩
theorem blk_own {β : Type} (B b T : Nat) (l : β → List Value) : OwnFrom B (fun s W => Blk W b T (l s)) := by
  intro s W W' row hs hg hr
  have e : some b ≠ row := by
    intro e
    obtain ⟨_, o, ho, hc⟩ := hr b e.symm
    rw [hs.out] at ho
    cases ho
    cases hc
  exact ⟨by rw [hg.block b hs.lt e]; exact hs.out⟩
theorem kd_own {β : Type} {B C d : Nat} (w : World) (hC : C ≤ B) (hw : C ≤ w.heap.size) : OwnFrom B (fun (_ : β) W => KD C d w W) := by
  intro s W W' row hs hg hr
  refine ⟨hg.os.trans hs.os, hg.tape.trans hs.tape, hg.output.trans hs.output, Nat.le_trans hs.size hg.size, fun k hk hd => ?_⟩
  have e := hs.other k hk hd
  have hkw : k < W.heap.size := by have := hs.size; omega
  have hne : some k ≠ row := by
    intro e'
    have := (hr k e'.symm).1
    omega
  rw [hg.block k hkw hne]
  exact e

theorem wpIn_n {P : Program} {c : Code} {ro : Option Nat} {k m : Nat} {Q : Exit → Act → World → Prop} {a : Act} {w : World} (h : c.wpIn (FW ro) k P Q a w) : c.wpIn (FW ro) m P Q a w :=
  fun b ks cs hro hb _ => h b ks cs hro hb (fun d hd => by cases hd)

theorem rangeT {P : Program} {n : Nat} {g : Operand} {ps : Array Tmp} {assign body : Code} {R : Exit → Act → World → Prop} (gf Bs d p0 p1 : Nat) {ss : List SR} {a : Act} {s : Fm} {w : World} (hF : Fr [] a n s) (hg : ev s g = .func (.func gf) #[] #[.pointer (some ⟨Bs, 0, none⟩)]) (hc : callable P gf = true)
    (hit : ∀ (l : Nat) (J Jx : List (Nat × SR) → World → Prop) (W : World), KD w.heap.size d w W → J [] W →
      (∀ pre x W1, x ∈ backL ss → J pre W1 → KD w.heap.size d w W1 → pre.length < ss.length → YieldAt Fence.wide 0 P l #[.int .i64 (x.1 : Nat), .agg x.2.cells.toArray] W1 fun e W' =>
        (e = .returned (.bool true) ∧ J (pre ++ [x]) W' ∧ KD w.heap.size d w W') ∨ (e = .returned (.bool false) ∧ Jx (pre ++ [x]) W')) →
      CallK P gf [.func (.yield l) #[] #[], .pointer (some ⟨Bs, 0, none⟩)].toArray W fun _ W' => J (backL ss) W' ∨ ∃ pre, Jx pre W')
    (hps : ps = #[p0, p1]) (hp0 : p0 < n) (hp1 : p1 < n) (I : List (Nat × SR) → World → Prop) (hI : OwnFrom w.heap.size I) (h0 : I [] w) (A : Nat × SR → Fm → World → Prop) (hA : ∀ x s', OwnFrom w.heap.size (fun (_ : Unit) W => A x s' W))
    (hassign : ∀ l pre x W, x ∈ backL ss → I pre W → vcT P n (some l) assign (upd (upd s p0 (.int .i64 (x.1 : Nat))) p1 (.agg x.2.cells.toArray)) W (seqQ (fun s' W' => KeepsFrom w.heap.size W W' ∧ KD w.heap.size d W W' ∧ I pre W' ∧ A x s' W') (fun _ _ _ => False)))
    (hbody : ∀ l pre x s' W, x ∈ backL ss → w.heap.size ≤ W.heap.size → I pre W → A x s' W → pre.length < ss.length → vcT P n (some l) body s' W (seqQ (fun s'' W' => KeepsFrom w.heap.size W W' ∧ KD w.heap.size d W W' ∧ I (pre ++ [x]) W') (fun _ _ _ => False)))
    (hdone : ∀ (D : Nat) (W : World), w.heap.size ≤ D → I (backL ss) W → W.heap[D]? = some (.deferred (some [])) → R .normal { a with defers := { target := .collected D, args := #[] } :: a.defers } W) :
    (Code.rangeFunc g ps assign body).wpIn (FW none) 0 P R a w := by
  subst hps
  refine wpIn_n (k := 1) ?_
  refine wpIn_rangeFunc_ownH (α := { x : Nat × SR // x ∈ backL ss }) (F := FW none) (n := 1) rfl (Nat.le_refl _) (gf := gf) (lb := #[.pointer (some ⟨Bs, 0, none⟩)]) (by rw [hF.ev]; exact hg) trivial (fun args w => run_callFunc_of hc args w)
    (encs := fun x => #[.int .i64 (x.1.1 : Nat), .agg x.1.2.cells.toArray]) (Kp := KD w.heap.size d) (S := fun xs => xs.map (·.1) = backL ss) (Sp := fun _ => True) (N := ss.length) (w0 := w) ?_ (fun h k => h.trans k) ?_ (Below.refl _ _) (fun _ => rfl)
    (fun (pre : List { x : Nat × SR // x ∈ backL ss }) W => I (pre.map (·.1)) W) (fun _ _ _ => False) (fun s W W' row hs hg hr => hI (s.map (·.1)) W W' row hs hg hr) (fun _ _ _ _ _ h _ _ => h) h0 (fun x a' W => ∃ s', Fr [] a' n s' ∧ A x.1 s' W) ?_ ?_ ?_ ?_ ?_
  · intro l J Jx W hW _ _ hY hJ0
    have h := (hit l (fun pre W => ∃ pre', pre'.map (·.1) = pre ∧ J pre' W) (fun pre W => ∃ pre', pre'.map (·.1) = pre ∧ Jx pre' W) W (KD.of_below hW) ⟨[], rfl, hJ0⟩ (fun pre x W1 hx hJ1 hM1 hlen => by
      obtain ⟨pre', rfl, hJ1⟩ := hJ1
      obtain ⟨fn, tmps, assign, body, hy, hR⟩ := yield_n (k := 0 - 1) (m := 0) (hY pre' ⟨x, hx⟩ W1 hJ1 (by simpa using hlen))
      refine ⟨fn, tmps, assign, body, hy, hR.mono ?_⟩
      rintro e W' (⟨h1, h2, h3⟩ | ⟨h1, h2⟩)
      · exact Or.inl ⟨h1, ⟨_, by simp, h2⟩, hM1.trans h3⟩
      · exact Or.inr ⟨h1, ⟨_, by simp, h2⟩⟩)).body hc
    refine callsFW none 0 (h.calls.mono ?_)
    rintro e W' ⟨v, rfl, ⟨pre', hp, h⟩ | ⟨pre, pre', hp, h⟩⟩
    · exact ⟨⟨v, rfl⟩, Or.inl ⟨pre', hp, h⟩⟩
    · exact ⟨⟨v, rfl⟩, Or.inr ⟨pre', trivial, h⟩⟩
  · intro W l o o' hl hWl ho _
    exact ⟨rfl, rfl, rfl, by simp, fun k hk _ => World.putObj_heap_other (by omega)⟩
  · intro x a' _ W W' row ⟨s', hs', hAx⟩ hg hr
    exact ⟨s', hs', hA x.1 s' () W W' row hAx hg hr⟩
  · intro l pre x W K hIp hK
    have hfr : Fr [] { tmps := ((#[p0, p1] : Array Tmp).zip #[Value.int .i64 (x.1.1 : Nat), .agg x.1.2.cells.toArray]).foldl (fun t (p, v) => t.setIfInBounds p v) a.tmps, defers := [] } n (upd (upd s p0 (.int .i64 (x.1.1 : Nat))) p1 (.agg x.1.2.cells.toArray)) := by
      have h1 := (hF.put (d := some p0) hp0 (.int .i64 (x.1.1 : Nat))).put (d := some p1) hp1 (.agg x.1.2.cells.toArray)
      refine ⟨rfl, ?_, ?_⟩
      · have := h1.size; simpa [Act.put] using this
      · intro j
        have := h1.at_ j
        simpa [Act.put, updO] using this
    refine wpIn_mono (vc_sound (ro := some l) _ _ _ _ (hassign l _ x.1 W x.2 hIp) [] _ hfr) ?_
    rintro e a' W' ⟨s', hF', hq⟩
    cases e <;> simp only [seqQ] at hq
    exact hK a' W' hq.1 hq.2.1 hq.2.2.1 ⟨s', hF', hq.2.2.2⟩
  · intro l pre x a' W hl ⟨r, hr⟩ hIp ⟨s', hs', hAx⟩ hlen
    have hsz : w.heap.size ≤ W.heap.size := by
      have := (Array.getElem?_eq_some_iff.1 hr).1
      omega
    refine wpIn_mono (vc_sound (ro := some l) _ _ _ _ (hbody l _ x.1 s' W x.2 hsz hIp hAx (by simpa using hlen)) [] _ hs') ?_
    rintro e a'' W' ⟨s'', hF', hq⟩
    cases e <;> simp only [seqQ] at hq
    exact ⟨hq.1, hq.2.1, by simpa using hq.2.2⟩
  · intro D xs W hD hS hIx hW
    rw [hS] at hIx
    exact hdone D W hD hIx hW
  · intro D c pre W _ _ h
    exact h.elim
theorem keepsFrom_ext {B : Nat} {w w' : World} (h : Ext w w') : KeepsFrom B w w' := ⟨h.size, fun k o _ hk _ => (h.block k (Array.getElem?_eq_some_iff.1 hk).1).trans hk⟩

end Go.Proofs.YthlkfjoibjhaiaaGreatDoor

/-! Up -/
namespace Go.Proofs.YthlkfjoibjhaiaaGreatDoor
set_option maxRecDepth 100000
set_option maxHeartbeats 2000000
open Go Go.RowKit
set_option linter.unusedVariables false
set_option linter.unusedSimpArgs false

/-! ### A function that holds a range over a function -/
structure WpM (P : Program) (n : Nat) (c : Code) (s : Fm) (w : World) (R : Exit → Act → World → Prop) (_t : Tag (c, s, R) := ⟨⟩) : Prop where
  out : ∀ a, Fr [] a n s → c.wpIn (FW none) 0 P R a w
theorem peel {P : Program} {n : Nat} {a b : Code} {s : Fm} {w : World} {R : Exit → Act → World → Prop} (h : vcT P n none a s w (seqQ (fun s' w' => WpM P n b s' w' R) (fun _ _ _ => False))) : WpM P n (.seq a b) s w R := by
  refine ⟨fun act hF => wpIn_seq (wpIn_mono (vc_sound a s w _ h [] act hF) ?_)⟩
  rintro e a' w' ⟨s', hF', hq⟩
  cases e
  case normal => exact WpM.out hq a' hF'
  all_goals exact False.elim hq
theorem peelJ {P : Program} {n : Nat} {a b : Code} {s : Fm} {w : World} {R : Exit → Act → World → Prop} (J : Fm → World → Prop) (h : vcT P n none a s w (seqQ J (fun _ _ _ => False))) (h2 : ∀ s' w', J s' w' → WpM P n b s' w' R) : WpM P n (.seq a b) s w R := by
  refine ⟨fun act hF => wpIn_seq (wpIn_mono (vc_sound a s w _ h [] act hF) ?_)⟩
  rintro e a' w' ⟨s', hF', hq⟩
  cases e
  case normal => exact (h2 _ _ hq).out a' hF'
  all_goals exact False.elim hq
theorem peel2 {P : Program} {n : Nat} {a b : Code} {s : Fm} {w : World} {R : Exit → Act → World → Prop} (h : WpM P n a s w (Exit.then (b.wpIn (FW none) 0 P R) R)) : WpM P n (.seq a b) s w R := ⟨fun act hF => wpIn_seq (h.out act hF)⟩
theorem peelB {P : Program} {n id : Nat} {a : Code} {s : Fm} {w : World} {R : Exit → Act → World → Prop} (h : WpM P n a s w (Exit.inBlock id R)) : WpM P n (.block id a) s w R := ⟨fun act hF => wpIn_block (h.out act hF)⟩
/-- The way out behind one range: its block for deferred calls is shut. -/
def postM (P : Program) (n : Nat) (rs : Array ResultVar) (K : Value → World → Prop) : Exit → Act → World → Prop := fun e a w =>
  (e = .normal ∨ e = .ret) ∧ ∃ D s, Fr [{ target := .collected D, args := #[] }] a n s ∧ w.heap[D]? = some (.deferred (some [])) ∧ resVC P rs s (w.putObj D (.deferred none)) fun v => K v (w.putObj D (.deferred none))
theorem enterM {P : Program} {f : FuncId} {fn : Func} {c : Code} {n : Nat} {rs : Array ResultVar} {vs : List Value} {w : World} {K : Value → World → Prop} (hf : P.funcs[f]? = some fn) (hb : fn.body = some c) (hn : fn.ntmps = n)
    (hr : fn.results = rs) (hl : decide (vs.length ≤ n) = true) (hname : (fn.name != "runtime.NumGoroutine") = true) (h : WpM P n c (initFm vs 0) w (postM P n rs K)) : CallK P f vs.toArray w K := by
  refine ⟨Or.inl ⟨by simp [callable, hf, hb, hname], ?_⟩⟩
  refine (callsIn_wide (n := 0)).1 (callsIn_of_wp_marks hf hb trivial ?_)
  rw [hn]
  refine wpIn_mono (h.out _ (Fr_init vs n (of_decide_eq_true hl))) ?_
  rintro e a w' ⟨he, D, s, hF, hD, hq⟩
  obtain ⟨v, hv, hK⟩ := res_of hr hF hq
  have hL : LeavesInM Fence.wide 0 P fn a.tmps (fun e w' => ∃ v, e = .returned v ∧ K v w') a.defers .returning w' := by
    rw [hF.defers]
    exact ⟨by simp, .inl ⟨_, _, rfl, run_takeDeferred hD, v, hv, v, rfl, hK⟩⟩
  rcases he with rfl | rfl
  · exact hL
  · exact hL
/-- The rest of the function behind the range. -/
def retM (P : Program) (rs : Array ResultVar) (D : Nat) (K : Value → World → Prop) : Post := fun e s w =>
  (e = .normal ∨ e = .ret) ∧ w.heap[D]? = some (.deferred (some [])) ∧ resVC P rs s (w.putObj D (.deferred none)) fun v => K v (w.putObj D (.deferred none))
theorem retM_ret {P : Program} {rs : List ResultVar} {D : Nat} {K : Value → World → Prop} {s : Fm} {w : World} : retM P rs.toArray D K .ret s w = (w.heap[D]? = some (.deferred (some [])) ∧ resT P rs s (w.putObj D (.deferred none)) fun v => K v (w.putObj D (.deferred none))) :=
  propext ⟨fun h => h.2, fun h => ⟨Or.inr rfl, h⟩⟩
theorem tailM {P : Program} {n D : Nat} {rs : Array ResultVar} {K : Value → World → Prop} {c : Code} {s : Fm} {w : World} {a : Act} (hF : Fr [] a n s) (h : vcT P n none c s w (retM P rs D K)) :
    c.wpIn (FW none) 0 P (postM P n rs K) { a with defers := { target := .collected D, args := #[] } :: a.defers } w := by
  refine wpIn_mono (vc_sound c s w _ h [{ target := .collected D, args := #[] }] _ ⟨by rw [hF.defers], hF.size, hF.at_⟩) ?_
  rintro e a' w' ⟨s', hF', he, hD, hq⟩
  exact ⟨he, D, s', hF', hD, hq⟩

/-! ### child -/
theorem child_ok (n : Int) (k : List UInt8) (hk : k.length = 32) (i : Int) (w : World) :
    CallK Tryz.prog 227 [.int .i64 n, .agg (vbs k).toArray, .int .i64 i].toArray w fun v w' => v = .int .i64 (atP n k i).1 ∧ Ext w w' := by
  refine enterT Tryz.func227 rfl Tryz.ntmps227 Tryz.results227 rfl (by decide) ?_
  simp only [↓VD, VP, VT, isAggD, reduceCtorEq, Int.reduceEq, Int.reduceNe, Int.reduceLT, Int.reduceLE, implies_true, Nat.reduceEqDiff, reduceIte, ite_true, ite_false, eq_self, Nat.reduceLT, Nat.reduceLeDiff, Nat.reduceAdd, Nat.reduceMul, Nat.reduceSub, intOf]
  intro w1 hN
  refine ldA Tryz.underlying28 rfl hN.blk (by rw [vbs_len, hk, c28]) ?_
  simp only [↓VD, VP, VT, isAggD, reduceCtorEq, Int.reduceEq, Int.reduceNe, Int.reduceLT, Int.reduceLE, implies_true, Nat.reduceEqDiff, reduceIte, ite_true, ite_false, eq_self, Nat.reduceLT, Nat.reduceLeDiff, Nat.reduceAdd, Nat.reduceMul, Nat.reduceSub, intOf]
  refine (At_ok n k hk i w1).mono ?_
  rintro _ w2 ⟨rfl, hE⟩
  simp only [↓VD, VP, VT, isAggD, reduceCtorEq, Int.reduceEq, Int.reduceNe, Int.reduceLT, Int.reduceLE, implies_true, Nat.reduceEqDiff, reduceIte, ite_true, ite_false, eq_self, Nat.reduceLT, Nat.reduceLeDiff, Nat.reduceAdd, Nat.reduceMul, Nat.reduceSub, intOf]
  exact hN.ext.trans' hE

/-! ### up, plainly -/
def stepD (n : Int) (k d : List UInt8) (i : Nat) (bm : Nat) (ks : List (List UInt8)) : List UInt8 :=
  brD n bm (if hasB bm (atP n k i).1 = true then insP ks (rankB bm (atP n k i).1) d else ks)
def upF (n : Int) (k : List UInt8) (l : List (Nat × SR)) (d : List UInt8) : List UInt8 := l.foldl (fun d x => stepD n k d x.1 x.2.bm x.2.ks) d
def up0 (n : Int) (ps : List (List UInt8 × List UInt8)) : List UInt8 := if ps = [] then sumR n [5] else sumR n (bucketP ps)
theorem up0_len (n : Int) (ps : List (List UInt8 × List UInt8)) : (up0 n ps).length = 32 := by unfold up0; split <;> exact sumR_len _ _
theorem upF_len (n : Int) (k : List UInt8) : ∀ (l : List (Nat × SR)) (d : List UInt8), d.length = 32 → (upF n k l d).length = 32
  | [], d, h => h
  | x :: l, d, h => upF_len n k l _ (brD_len _ _ _)
theorem upF_snoc (n : Int) (k : List UInt8) (l : List (Nat × SR)) (x : Nat × SR) (d : List UInt8) : upF n k (l ++ [x]) d = stepD n k (upF n k l d) x.1 x.2.bm x.2.ks := by simp [upF]

theorem up_ok (n : Int) (k : List UInt8) (hk : k.length = 32) (sv pv : Value) (ss : List SR) (ps : List PR) (w : World) (hW : WordsAt w 1) (hs : StepsAt w sv ss) (hp : PairsAt w pv ps)
    (hps : (bucketP (ps.map PR.dat)).length + 16 ≤ 140737488355328) (hss : ∀ s ∈ ss, s.ks.length + 1 ≤ 4000000000) (hr : ∀ (i : Nat) (s : SR), ss[i]? = some s → hasB s.bm (atP n k i).1 = true → rankB s.bm (atP n k i).1 ≤ s.ks.length) :
    CallK Tryz.prog 111 [.int .i64 n, .agg (vbs k).toArray, .agg [sv, pv].toArray].toArray w fun v w' => v = .agg (vbs (upF n k (backL ss) (up0 n (ps.map PR.dat)))).toArray ∧ Ext w w' := by
  refine enterM Tryz.func111 rfl Tryz.ntmps111 Tryz.results111 rfl (by decide) ?_
  refine peel ?_
  simp only [↓VD, VP, VT, isAggD, reduceCtorEq, Int.reduceEq, Int.reduceNe, Int.reduceLT, Int.reduceLE, implies_true, Nat.reduceEqDiff, reduceIte, ite_true, ite_false, eq_self, Nat.reduceLT, Nat.reduceLeDiff, Nat.reduceAdd, Nat.reduceMul, Nat.reduceSub, intOf]
  intro w1 hN1 w2 hN2 w3 hN3 w4 hN4
  rw [vbs_rep] at hN4
  have s1 := hN1.size
  have s2 := hN2.size
  have s3 := hN3.size
  have s4 := hN4.size
  have hE4 : Ext w w4 := ((hN1.ext.trans' hN2.ext).trans' hN3.ext).trans' hN4.ext
  have hB3 := ((hN1.blk.ext hN2.ext).ext hN3.ext).ext hN4.ext
  have hB4 := (hN2.blk.ext hN3.ext).ext hN4.ext
  have hB5 := hN3.blk.ext hN4.ext
  have hB6 := hN4.blk
  generalize w1.heap.size = b4 at *
  generalize w2.heap.size = b5 at *
  generalize w3.heap.size = b6 at *
  refine peel ?_
  simp only [↓VD, VP, VT, isAggD, reduceCtorEq, Int.reduceEq, Int.reduceNe, Int.reduceLT, Int.reduceLE, implies_true, Nat.reduceEqDiff, reduceIte, ite_true, ite_false, eq_self, Nat.reduceLT, Nat.reduceLeDiff, Nat.reduceAdd, Nat.reduceMul, Nat.reduceSub, intOf]
  refine ldAt (pre := []) (post := []) Tryz.underlying3 rfl hB3 rfl ?_
  simp only [↓VD, VP, VT, isAggD, reduceCtorEq, Int.reduceEq, Int.reduceNe, Int.reduceLT, Int.reduceLE, implies_true, Nat.reduceEqDiff, reduceIte, ite_true, ite_false, eq_self, Nat.reduceLT, Nat.reduceLeDiff, Nat.reduceAdd, Nat.reduceMul, Nat.reduceSub, intOf]
  refine (NoMap_ok n w4 (hW.ext hE4)).mono ?_
  rintro _ w5 ⟨rfl, hE5⟩
  have s5 := hE5.size
  simp only [↓VD, VP, VT, isAggD, reduceCtorEq, Int.reduceEq, Int.reduceNe, Int.reduceLT, Int.reduceLE, implies_true, Nat.reduceEqDiff, reduceIte, ite_true, ite_false, eq_self, Nat.reduceLT, Nat.reduceLeDiff, Nat.reduceAdd, Nat.reduceMul, Nat.reduceSub, intOf]
  intro w6 hN6
  rw [vbs_rep] at hN6
  have s6 := hN6.size
  refine stAll hN6.blk rfl (by rw [c28]; decide) (by rw [c28, vbs_len, sumR_len]) (by rw [c28]; simp [vbs]) (vbs_one _) (fun w7 hP7 => ?_)
  have hX : ∀ {b T : Nat} {l : List Value}, Blk w4 b T l → Blk w7 b T l := fun h => hP7.keep ((h.ext hE5).ext hN6.ext) (by have := h.lt; omega)
  have hE7 : Ext w w7 := hE4.trans' ((hE5.trans' hN6.ext).trans (hP7.below (by omega)))
  replace hB3 := hX hB3
  replace hB4 := hX hB4
  replace hB5 := hX hB5
  replace hB6 := hX hB6
  have hB7 := hP7.blk
  have s7 := hP7.size
  generalize w5.heap.size = b7 at *
  simp only [↓VD, VP, VT, isAggD, reduceCtorEq, Int.reduceEq, Int.reduceNe, Int.reduceLT, Int.reduceLE, implies_true, Nat.reduceEqDiff, reduceIte, ite_true, ite_false, eq_self, Nat.reduceLT, Nat.reduceLeDiff, Nat.reduceAdd, Nat.reduceMul, Nat.reduceSub, intOf]
  refine peelJ (fun s' W => s' 3 = .pointer (some ⟨w.heap.size, 0, none⟩) ∧ s' 4 = .pointer (some ⟨b4, 0, none⟩) ∧ s' 5 = .pointer (some ⟨b5, 0, none⟩) ∧ s' 6 = .pointer (some ⟨b6, 0, none⟩) ∧ s' 7 = .pointer (some ⟨b7, 0, none⟩) ∧ Blk W w.heap.size 3 [.int .i64 n] ∧ Blk W b4 28 (vbs k) ∧ Blk W b5 26 [sv, pv] ∧ Blk W b6 28 (vbs (List.replicate 32 0)) ∧ Blk W b7 28 (vbs (up0 n (ps.map PR.dat))) ∧ Ext w W) ?_ ?_
  · simp only [↓VD, VP, VT, isAggD, reduceCtorEq, Int.reduceEq, Int.reduceNe, Int.reduceLT, Int.reduceLE, implies_true, Nat.reduceEqDiff, reduceIte, ite_true, ite_false, eq_self, Nat.reduceLT, Nat.reduceLeDiff, Nat.reduceAdd, Nat.reduceMul, Nat.reduceSub, intOf]
    refine ldAt (pre := [sv]) (post := []) Tryz.underlying24 rfl hB5 rfl ?_
    obtain ⟨av, cv, rfl⟩ := slv_of hp.1
    simp only [↓VD, VP, VT, isAggD, reduceCtorEq, Int.reduceEq, Int.reduceNe, Int.reduceLT, Int.reduceLE, implies_true, Nat.reduceEqDiff, reduceIte, ite_true, ite_false, eq_self, Nat.reduceLT, Nat.reduceLeDiff, Nat.reduceAdd, Nat.reduceMul, Nat.reduceSub, intOf]
    refine ⟨fun hgt => ?_, fun hle => ?_⟩
    · refine ldAt (pre := []) (post := []) Tryz.underlying3 rfl hB3 rfl ?_
      simp only [↓VD, VP, VT, isAggD, reduceCtorEq, Int.reduceEq, Int.reduceNe, Int.reduceLT, Int.reduceLE, implies_true, Nat.reduceEqDiff, reduceIte, ite_true, ite_false, eq_self, Nat.reduceLT, Nat.reduceLeDiff, Nat.reduceAdd, Nat.reduceMul, Nat.reduceSub, intOf]
      refine ldAt (pre := [sv]) (post := []) Tryz.underlying24 rfl hB5 rfl ?_
      simp only [↓VD, VP, VT, isAggD, reduceCtorEq, Int.reduceEq, Int.reduceNe, Int.reduceLT, Int.reduceLE, implies_true, Nat.reduceEqDiff, reduceIte, ite_true, ite_false, eq_self, Nat.reduceLT, Nat.reduceLeDiff, Nat.reduceAdd, Nat.reduceMul, Nat.reduceSub, intOf]
      refine (Bucket_ok n _ ps w7 (hW.ext hE7) (hp.ext hE7) hps).mono ?_
      rintro _ w8 ⟨rfl, hE8⟩
      simp only [↓VD, VP, VT, isAggD, reduceCtorEq, Int.reduceEq, Int.reduceNe, Int.reduceLT, Int.reduceLE, implies_true, Nat.reduceEqDiff, reduceIte, ite_true, ite_false, eq_self, Nat.reduceLT, Nat.reduceLeDiff, Nat.reduceAdd, Nat.reduceMul, Nat.reduceSub, intOf]
      refine stAll (hB7.ext hE8) rfl (by rw [c28]; decide) (by rw [c28, vbs_len, sumR_len]) (by rw [c28, vbs_len, sumR_len]) (vbs_one _) (fun w9 hP9 => ?_)
      simp only [↓VD, VP, VT, isAggD, reduceCtorEq, Int.reduceEq, Int.reduceNe, Int.reduceLT, Int.reduceLE, implies_true, Nat.reduceEqDiff, reduceIte, ite_true, ite_false, eq_self, Nat.reduceLT, Nat.reduceLeDiff, Nat.reduceAdd, Nat.reduceMul, Nat.reduceSub, intOf]
      have hne : ps.map PR.dat ≠ [] := by
        intro h
        rw [List.map_eq_nil_iff] at h
        subst h
        simp at hgt
      have hX : ∀ {b T : Nat} {l : List Value}, Blk w7 b T l → b ≠ b7 → Blk w9 b T l := fun h hb => hP9.keep (h.ext hE8) hb
      refine ⟨hX hB3 (by omega), hX hB4 (by omega), hX hB5 (by omega), hX hB6 (by omega), ?_, hE7.trans' hE8 |>.trans (hP9.below (by omega))⟩
      have := hP9.blk
      rwa [up0, if_neg hne]
    · have hz : ps = [] := List.length_eq_zero_iff.1 (by omega)
      subst hz
      exact ⟨hB3, hB4, hB5, hB6, hB7, hE7⟩
  · rintro s8 w8 ⟨g3, g4, g5, g6, g7, hB3, hB4, hB5, hB6, hB7, hE8⟩
    refine peel2 (peel ?_)
    simp only [↓VD, VP, VT, isAggD, reduceCtorEq, Int.reduceEq, Int.reduceNe, Int.reduceLT, Int.reduceLE, implies_true, Nat.reduceEqDiff, reduceIte, ite_true, ite_false, eq_self, Nat.reduceLT, Nat.reduceLeDiff, Nat.reduceAdd, Nat.reduceMul, Nat.reduceSub, intOf, g3, g4, g5, g6, g7]
    refine ldAt (pre := []) (post := [pv]) Tryz.underlying23 rfl hB5 rfl ?_
    simp only [↓VD, VP, VT, isAggD, reduceCtorEq, Int.reduceEq, Int.reduceNe, Int.reduceLT, Int.reduceLE, implies_true, Nat.reduceEqDiff, reduceIte, ite_true, ite_false, eq_self, Nat.reduceLT, Nat.reduceLeDiff, Nat.reduceAdd, Nat.reduceMul, Nat.reduceSub, intOf, g3, g4, g5, g6, g7]
    have hsv : sv.cells = #[sv] := by obtain ⟨a, c, rfl⟩ := slv_of hs.1; rfl
    refine (Backward_ok sv hsv w8).mono ?_
    rintro _ w9 ⟨rfl, hN9⟩
    simp only [↓VD, VP, VT, isAggD, reduceCtorEq, Int.reduceEq, Int.reduceNe, Int.reduceLT, Int.reduceLE, implies_true, Nat.reduceEqDiff, reduceIte, ite_true, ite_false, eq_self, Nat.reduceLT, Nat.reduceLeDiff, Nat.reduceAdd, Nat.reduceMul, Nat.reduceSub, intOf]
    refine peelB ⟨fun a hF => ?_⟩
    have z8 := hE8.size
    have z9 := hN9.size
    have zb := hB7.lt
    have zc := hB6.lt
    have hE9 := hE8.trans' hN9.ext
    have hX : ∀ {b T : Nat} {l : List Value}, Blk w8 b T l → Blk w9 b T l := fun h => h.ext hN9.ext
    have hBs := hN9.blk
    generalize w8.heap.size = Bs at *
    replace hB3 := hX hB3
    replace hB4 := hX hB4
    replace hB5 := hX hB5
    replace hB6 := hX hB6
    replace hB7 := hX hB7
    have hup0 := up0_len n (ps.map PR.dat)
    refine rangeT 322 Bs b7 32 33 (ss := ss) hF rfl (by kernel_rfl) (fun l J Jx W hKD hJ0 hY => ?_) rfl (by decide) (by decide)
      (fun pre W => KD w9.heap.size b7 w9 W ∧ Blk W b7 28 (vbs (upF n k pre (up0 n (ps.map PR.dat))))) (OwnFrom.and (kd_own w9 (Nat.le_refl _) (Nat.le_refl _)) (blk_own _ _ _ _)) ⟨KD.rfl' _ _ _, hB7⟩
      (fun x s' W => s' 3 = .pointer (some ⟨w.heap.size, 0, none⟩) ∧ s' 4 = .pointer (some ⟨b4, 0, none⟩) ∧ s' 7 = .pointer (some ⟨b7, 0, none⟩) ∧ s' 9 = .int .i64 (x.1 : Nat) ∧ ∃ b10, s' 10 = .pointer (some ⟨b10, 0, none⟩) ∧ w9.heap.size ≤ b10 ∧ Blk W b10 51 x.2.cells)
      (fun x s' u W W' row hA hg hr => ?_) ?_ ?_ ?_
    · exact iter_ok l Bs sv ss (fun s h => by obtain ⟨a, c, e⟩ := slv_of (hs.2 s h).2.2; rw [e]; rfl) J Jx (KD w9.heap.size b7 w9) (fun W' hK => ⟨(hK.blk hBs hBs.lt (by omega)).cell 0, hs.1.ext (hK.ext hE9 (by omega) (by omega))⟩) hY W hKD hJ0
    · obtain ⟨h3, h4, h7, h9, b10, h10, hb10, hB10⟩ := hA
      exact ⟨h3, h4, h7, h9, b10, h10, hb10, blk_own (β := Unit) _ _ _ (fun _ => x.2.cells) () W W' row hB10 hg hr⟩
    · intro l pre x W hx ⟨hKD, hB⟩
      have hzs := hKD.size
      obtain ⟨hbm, hdk⟩ := hs.2 x.2 (List.mem_of_getElem? (backL_mem hx))
      obtain ⟨ak, ck, hkv⟩ := slv_of hdk.2
      simp only [↓VD, VP, VT, isAggD, reduceCtorEq, Int.reduceEq, Int.reduceNe, Int.reduceLT, Int.reduceLE, implies_true, Nat.reduceEqDiff, reduceIte, ite_true, ite_false, eq_self, Nat.reduceLT, Nat.reduceLeDiff, Nat.reduceAdd, Nat.reduceMul, Nat.reduceSub, intOf, g3, g4, g5, g6, g7]
      intro w11 hN11
      refine stAll hN11.blk (vs := x.2.cells) rfl (by rw [c51]; decide) (by rw [c51]; rfl) (by rw [c51]; rfl) (by rw [SR.cells, hkv]; simp [oneCellV]) (fun w12 hP12 => ?_)
      simp only [↓VD, VP, VT, isAggD, reduceCtorEq, Int.reduceEq, Int.reduceNe, Int.reduceLT, Int.reduceLE, implies_true, Nat.reduceEqDiff, reduceIte, ite_true, ite_false, eq_self, Nat.reduceLT, Nat.reduceLeDiff, Nat.reduceAdd, Nat.reduceMul, Nat.reduceSub, intOf, g3, g4, g5, g6, g7]
      have hE12 : Ext W w12 := hN11.ext.trans (hP12.below (Nat.le_refl _))
      exact ⟨keepsFrom_ext hE12, KD.of_below (hE12.mono hzs), ⟨hKD.trans (KD.of_below (hE12.mono hzs)), hB.ext hE12⟩, ⟨W.heap.size, rfl, hzs, hP12.blk⟩⟩
    · intro l pre x s10 W hx hsz ⟨hKD, hB⟩ ⟨h3, h4, h7, h9, b10, h10, hb10, hB10⟩ hlen
      have hx2 := backL_mem hx
      have hxm := List.mem_of_getElem? hx2
      obtain ⟨hbm, hdk⟩ := hs.2 x.2 hxm
      have hEW : Ext w W := hKD.ext hE9 (by omega) (by omega)
      replace hdk := hdk.ext hEW
      have hlk := hss x.2 hxm
      have hrk := hr x.1 x.2 hx2
      obtain ⟨i, s⟩ := x
      obtain ⟨kv, bm, ks⟩ := s
      simp only at hx2 hbm hdk hlk hrk h9
      have hA3 := hKD.blk hB3 (by omega) (by omega)
      have hA4 := hKD.blk hB4 (by omega) (by omega)
      simp only [↓VD, VP, VT, isAggD, reduceCtorEq, Int.reduceEq, Int.reduceNe, Int.reduceLT, Int.reduceLE, implies_true, Nat.reduceEqDiff, reduceIte, ite_true, ite_false, eq_self, Nat.reduceLT, Nat.reduceLeDiff, Nat.reduceAdd, Nat.reduceMul, Nat.reduceSub, intOf, h3, h4, h7, h9, h10]
      refine ldAt (pre := []) (post := []) Tryz.underlying3 rfl hA3 rfl ?_
      simp only [↓VD, VP, VT, isAggD, reduceCtorEq, Int.reduceEq, Int.reduceNe, Int.reduceLT, Int.reduceLE, implies_true, Nat.reduceEqDiff, reduceIte, ite_true, ite_false, eq_self, Nat.reduceLT, Nat.reduceLeDiff, Nat.reduceAdd, Nat.reduceMul, Nat.reduceSub, intOf, h3, h4, h7, h9, h10]
      refine ldA Tryz.underlying28 rfl hA4 (by rw [vbs_len, hk, c28]) ?_
      simp only [↓VD, VP, VT, isAggD, reduceCtorEq, Int.reduceEq, Int.reduceNe, Int.reduceLT, Int.reduceLE, implies_true, Nat.reduceEqDiff, reduceIte, ite_true, ite_false, eq_self, Nat.reduceLT, Nat.reduceLeDiff, Nat.reduceAdd, Nat.reduceMul, Nat.reduceSub, intOf, h3, h4, h7, h9, h10]
      refine (child_ok n k hk i W).mono ?_
      rintro _ w11 ⟨rfl, hE11⟩
      simp only [↓VD, VP, VT, isAggD, reduceCtorEq, Int.reduceEq, Int.reduceNe, Int.reduceLT, Int.reduceLE, implies_true, Nat.reduceEqDiff, reduceIte, ite_true, ite_false, eq_self, Nat.reduceLT, Nat.reduceLeDiff, Nat.reduceAdd, Nat.reduceMul, Nat.reduceSub, intOf, h3, h4, h7, h9, h10]
      replace hB10 : Blk W b10 51 [.int .u16 bm, kv] := hB10
      refine ldAt (pre := [.int .u16 bm]) (post := []) Tryz.underlying49 rfl (hB10.ext hE11) rfl ?_
      simp only [↓VD, VP, VT, isAggD, reduceCtorEq, Int.reduceEq, Int.reduceNe, Int.reduceLT, Int.reduceLE, implies_true, Nat.reduceEqDiff, reduceIte, ite_true, ite_false, eq_self, Nat.reduceLT, Nat.reduceLeDiff, Nat.reduceAdd, Nat.reduceMul, Nat.reduceSub, intOf, h3, h4, h7, h9, h10]
      refine (CloneD_ok ks kv w11 (hdk.ext hE11) (by omega)).mono ?_
      rintro vc w12 ⟨hO12, hE12⟩
      simp only [↓VD, VP, VT, isAggD, reduceCtorEq, Int.reduceEq, Int.reduceNe, Int.reduceLT, Int.reduceLE, implies_true, Nat.reduceEqDiff, reduceIte, ite_true, ite_false, eq_self, Nat.reduceLT, Nat.reduceLeDiff, Nat.reduceAdd, Nat.reduceMul, Nat.reduceSub, intOf, h3, h4, h7, h9, h10]
      refine ldAt (pre := []) (post := [kv]) Tryz.underlying48 rfl ((hB10.ext hE11).ext hE12) rfl ?_
      simp only [↓VD, VP, VT, isAggD, reduceCtorEq, Int.reduceEq, Int.reduceNe, Int.reduceLT, Int.reduceLE, implies_true, Nat.reduceEqDiff, reduceIte, ite_true, ite_false, eq_self, Nat.reduceLT, Nat.reduceLeDiff, Nat.reduceAdd, Nat.reduceMul, Nat.reduceSub, intOf, h3, h4, h7, h9, h10]
      refine (Has_ok bm hbm (atP n k i).1 w12).mono ?_
      rintro _ w13 ⟨rfl, hE13⟩
      simp only [↓VJ, VP, VT, isAggD, reduceCtorEq, Int.reduceEq, Int.reduceNe, Int.reduceLT, Int.reduceLE, implies_true, Nat.reduceEqDiff, reduceIte, ite_true, ite_false, eq_self, Nat.reduceLT, Nat.reduceLeDiff, Nat.reduceAdd, Nat.reduceMul, Nat.reduceSub, intOf, h3, h4, h7, h9, h10]
      have z11 := hE11.size
      have z12 := hE12.size
      have z13 := hE13.size
      have hEm : Ext W w13 := (hE11.trans' hE12).trans' hE13
      have hO13 := hO12.ext hE13
      have hM10 := hB10.ext hEm
      have hM7 := hB.ext hEm
      have y10 := hB10.lt
      have y7 := hB.lt
      have hdl : (upF n k pre (up0 n (ps.map PR.dat))).length = 32 := upF_len _ _ _ _ hup0
      obtain ⟨dd, hdd⟩ : ∃ dd, dd = upF n k pre (up0 n (ps.map PR.dat)) := ⟨_, rfl⟩
      rw [← hdd] at hM7 hdl
      obtain ⟨all, hall⟩ : ∃ all, all = if hasB bm (atP n k i).1 = true then insP ks (rankB bm (atP n k i).1) dd else ks := ⟨_, rfl⟩
      refine joinT (fun s' W' => s' 3 = .pointer (some ⟨w.heap.size, 0, none⟩) ∧ s' 7 = .pointer (some ⟨b7, 0, none⟩) ∧ s' 10 = .pointer (some ⟨b10, 0, none⟩) ∧ DigsAt W' (s' 12) all ∧ Below w11.heap.size w13 W') ?_ ?_
      · simp only [↓VD, VP, VT, isAggD, reduceCtorEq, Int.reduceEq, Int.reduceNe, Int.reduceLT, Int.reduceLE, implies_true, Nat.reduceEqDiff, reduceIte, ite_true, ite_false, eq_self, Nat.reduceLT, Nat.reduceLeDiff, Nat.reduceAdd, Nat.reduceMul, Nat.reduceSub, intOf, h3, h4, h7, h9, h10]
        refine bsplit_i (fun ht => ?_) (fun hf => ?_)
        · have hrk' := hrk ht
          rw [if_pos ht] at hall
          have hal : ∀ d ∈ all, d.length = 32 := by
            intro d hd
            rw [hall, insP] at hd
            rcases List.mem_append.1 hd with h | h
            · exact hdk.1 d (List.mem_of_mem_take h)
            · rcases List.mem_cons.1 h with rfl | h
              · exact hdl
              · exact hdk.1 d (List.mem_of_mem_drop h)
          have hall2 : all.length = ks.length + 1 := by rw [hall, insP]; simp; omega
          refine drawO (fun W' => Blk W' b10 51 [.int .u16 bm, kv] ∧ Blk W' b7 28 (vbs dd)) (Ord.pre [0, 1, 2, 3, 5] (.two 4 6 (Ord.of [6, 7, 8]) (Ord.of [4, 7, 8]))) mixed (by decide +kernel) (fun w14 hE14 hh => ⟨⟨hM10.ext hE14, hM7.ext hE14⟩, ?_⟩)
          simp only [↓VD, VP, VT, isAggD, reduceCtorEq, Int.reduceEq, Int.reduceNe, Int.reduceLT, Int.reduceLE, implies_true, Nat.reduceEqDiff, reduceIte, ite_true, ite_false, eq_self, Nat.reduceLT, Nat.reduceLeDiff, Nat.reduceAdd, Nat.reduceMul, Nat.reduceSub, intOf, h3, h4, h7, h9, h10]
          refine loadS_of _ (fun w' h => ldAt (pre := []) (post := [kv]) Tryz.underlying48 rfl h.1 rfl rfl) ?_
          simp only [↓VD, VP, VT, isAggD, reduceCtorEq, Int.reduceEq, Int.reduceNe, Int.reduceLT, Int.reduceLE, implies_true, Nat.reduceEqDiff, reduceIte, ite_true, ite_false, eq_self, Nat.reduceLT, Nat.reduceLeDiff, Nat.reduceAdd, Nat.reduceMul, Nat.reduceSub, intOf, h3, h4, h7, h9, h10]
          refine loadS_of _ (fun w' h => ldA Tryz.underlying28 rfl h.2 (by rw [vbs_len, hdl, c28]) rfl) ?_
          simp only [↓VD, VP, VT, isAggD, reduceCtorEq, Int.reduceEq, Int.reduceNe, Int.reduceLT, Int.reduceLE, implies_true, Nat.reduceEqDiff, reduceIte, ite_true, ite_false, eq_self, Nat.reduceLT, Nat.reduceLeDiff, Nat.reduceAdd, Nat.reduceMul, Nat.reduceSub, intOf, h3, h4, h7, h9, h10]
          have hne : ∀ B, w14.heap.size ≤ B → vc.ownBlock ≠ some B := fun B hB e => by
            have := (hO13.ext hE14).lt B e
            omega
          have z14 := hE14.size
          refine ⟨?_, ?_⟩
          · refine (Rank_ok bm hbm (atP n k i).1 w14).mono ?_
            rintro _ w15 ⟨rfl, hE15⟩
            have z15 := hE15.size
            refine told (fun _ => True) ⟨(hM10.ext hE14).ext hE15, (hM7.ext hE14).ext hE15⟩ trivial ?_
            simp only [↓VD, VP, VT, isAggD, reduceCtorEq, Int.reduceEq, Int.reduceNe, Int.reduceLT, Int.reduceLE, implies_true, Nat.reduceEqDiff, reduceIte, ite_true, ite_false, eq_self, Nat.reduceLT, Nat.reduceLeDiff, Nat.reduceAdd, Nat.reduceMul, Nat.reduceSub, intOf, h3, h4, h7, h9, h10]
            refine ⟨by rw [vbs_len]; exact hdl, fun w16 hN16 => ?_⟩
            have z16 := hN16.size
            refine told (fun _ => True) ⟨((hM10.ext hE14).ext hE15).ext hN16.ext, ((hM7.ext hE14).ext hE15).ext hN16.ext⟩ trivial ?_
            simp only [↓VD, VP, VT, isAggD, reduceCtorEq, Int.reduceEq, Int.reduceNe, Int.reduceLT, Int.reduceLE, implies_true, Nat.reduceEqDiff, reduceIte, ite_true, ite_false, eq_self, Nat.reduceLT, Nat.reduceLeDiff, Nat.reduceAdd, Nat.reduceMul, Nat.reduceSub, intOf, h3, h4, h7, h9, h10]
            refine (Insert_ok ks hdk.1 (rankB bm (atP n k i).1) hrk' dd hdl vc w11.heap.size w15.heap.size w16 (((hO13.ext hE14).ext hE15).ext hN16.ext) (by omega) hN16.blk (hne _ (by omega)) (by omega)).mono ?_
            rintro v' w17 ⟨hO17, hB17⟩
            refine told (fun _ => True) ⟨(((hM10.ext hE14).ext hE15).ext hN16.ext).below hB17 (by omega), (((hM7.ext hE14).ext hE15).ext hN16.ext).below hB17 (by omega)⟩ trivial ?_
            simp only [↓VD, VP, VT, isAggD, reduceCtorEq, Int.reduceEq, Int.reduceNe, Int.reduceLT, Int.reduceLE, implies_true, Nat.reduceEqDiff, reduceIte, ite_true, ite_false, eq_self, Nat.reduceLT, Nat.reduceLeDiff, Nat.reduceAdd, Nat.reduceMul, Nat.reduceSub, intOf, h3, h4, h7, h9, h10]
            rw [← hall, ← hall2] at hO17
            exact ⟨⟨hal, SlC.of_own hO17⟩, (((hE14.trans' hE15).trans' hN16.ext).mono (by omega)).trans hB17⟩
          · refine ⟨by rw [vbs_len]; exact hdl, fun w15 hN15 => ?_⟩
            have z15 := hN15.size
            refine told (fun _ => True) ⟨(hM10.ext hE14).ext hN15.ext, (hM7.ext hE14).ext hN15.ext⟩ trivial ?_
            simp only [↓VD, VP, VT, isAggD, reduceCtorEq, Int.reduceEq, Int.reduceNe, Int.reduceLT, Int.reduceLE, implies_true, Nat.reduceEqDiff, reduceIte, ite_true, ite_false, eq_self, Nat.reduceLT, Nat.reduceLeDiff, Nat.reduceAdd, Nat.reduceMul, Nat.reduceSub, intOf, h3, h4, h7, h9, h10]
            refine (Rank_ok bm hbm (atP n k i).1 w15).mono ?_
            rintro _ w16 ⟨rfl, hE16⟩
            have z16 := hE16.size
            refine told (fun _ => True) ⟨((hM10.ext hE14).ext hN15.ext).ext hE16, ((hM7.ext hE14).ext hN15.ext).ext hE16⟩ trivial ?_
            simp only [↓VD, VP, VT, isAggD, reduceCtorEq, Int.reduceEq, Int.reduceNe, Int.reduceLT, Int.reduceLE, implies_true, Nat.reduceEqDiff, reduceIte, ite_true, ite_false, eq_self, Nat.reduceLT, Nat.reduceLeDiff, Nat.reduceAdd, Nat.reduceMul, Nat.reduceSub, intOf, h3, h4, h7, h9, h10]
            refine (Insert_ok ks hdk.1 (rankB bm (atP n k i).1) hrk' dd hdl vc w11.heap.size w14.heap.size w16 (((hO13.ext hE14).ext hN15.ext).ext hE16) (by omega) (hN15.blk.ext hE16) (hne _ (by omega)) (by omega)).mono ?_
            rintro v' w17 ⟨hO17, hB17⟩
            refine told (fun _ => True) ⟨(((hM10.ext hE14).ext hN15.ext).ext hE16).below hB17 (by omega), (((hM7.ext hE14).ext hN15.ext).ext hE16).below hB17 (by omega)⟩ trivial ?_
            simp only [↓VD, VP, VT, isAggD, reduceCtorEq, Int.reduceEq, Int.reduceNe, Int.reduceLT, Int.reduceLE, implies_true, Nat.reduceEqDiff, reduceIte, ite_true, ite_false, eq_self, Nat.reduceLT, Nat.reduceLeDiff, Nat.reduceAdd, Nat.reduceMul, Nat.reduceSub, intOf, h3, h4, h7, h9, h10]
            rw [← hall, ← hall2] at hO17
            exact ⟨⟨hal, SlC.of_own hO17⟩, (((hE14.trans' hN15.ext).trans' hE16).mono (by omega)).trans hB17⟩
        · rw [if_neg (by simp [hf])] at hall
          subst hall
          simp only [↓VD, VP, VT, isAggD, reduceCtorEq, Int.reduceEq, Int.reduceNe, Int.reduceLT, Int.reduceLE, implies_true, Nat.reduceEqDiff, reduceIte, ite_true, ite_false, eq_self, Nat.reduceLT, Nat.reduceLeDiff, Nat.reduceAdd, Nat.reduceMul, Nat.reduceSub, intOf, h3, h4, h7, h9, h10]
          refine ⟨⟨hdk.1, SlC.of_own hO13⟩, Below.refl _ _⟩
      · rintro s20 w20 ⟨k3, k7, k10, hDA, hBel⟩
        have hA20 : Ext W w20 := hEm.trans (hBel.mono (by omega))
        have hal2 : all.length ≤ ks.length + 1 := by
          rw [hall]
          split
          · rw [insP]; simp; omega
          · omega
        obtain ⟨a12, c12, e12⟩ := slv_of hDA.2
        simp only [↓VD, VP, VT, isAggD, reduceCtorEq, Int.reduceEq, Int.reduceNe, Int.reduceLT, Int.reduceLE, implies_true, Nat.reduceEqDiff, reduceIte, ite_true, ite_false, eq_self, Nat.reduceLT, Nat.reduceLeDiff, Nat.reduceAdd, Nat.reduceMul, Nat.reduceSub, intOf, k3, k7, k10]
        refine ldAt (pre := []) (post := []) Tryz.underlying3 rfl (hA3.ext hA20) rfl ?_
        simp only [↓VD, VP, VT, isAggD, reduceCtorEq, Int.reduceEq, Int.reduceNe, Int.reduceLT, Int.reduceLE, implies_true, Nat.reduceEqDiff, reduceIte, ite_true, ite_false, eq_self, Nat.reduceLT, Nat.reduceLeDiff, Nat.reduceAdd, Nat.reduceMul, Nat.reduceSub, intOf, k3, k7, k10]
        refine ldAt (pre := []) (post := [kv]) Tryz.underlying48 rfl (hB10.ext hA20) rfl ?_
        simp only [↓VD, VP, VT, isAggD, reduceCtorEq, Int.reduceEq, Int.reduceNe, Int.reduceLT, Int.reduceLE, implies_true, Nat.reduceEqDiff, reduceIte, ite_true, ite_false, eq_self, Nat.reduceLT, Nat.reduceLeDiff, Nat.reduceAdd, Nat.reduceMul, Nat.reduceSub, intOf, k3, k7, k10]
        refine (Branch_ok n bm hbm (s20 12) all w20 (hW.ext (hEW.trans' hA20)) hDA (by omega)).mono ?_
        rintro _ w21 ⟨rfl, hE21⟩
        simp only [↓VD, VP, VT, isAggD, reduceCtorEq, Int.reduceEq, Int.reduceNe, Int.reduceLT, Int.reduceLE, implies_true, Nat.reduceEqDiff, reduceIte, ite_true, ite_false, eq_self, Nat.reduceLT, Nat.reduceLeDiff, Nat.reduceAdd, Nat.reduceMul, Nat.reduceSub, intOf, k3, k7, k10]
        have z20 := hBel.size
        have z21 := hE21.size
        refine stAll ((hB.ext hA20).ext hE21) (vs := vbs (brD n bm all)) rfl (by rw [c28]; decide) (by rw [c28, vbs_len, brD_len]) (by rw [c28, vbs_len, ← hdd, hdl]) (vbs_one _) (fun w22 hP22 => ?_)
        simp only [↓VD, VP, VT, isAggD, reduceCtorEq, Int.reduceEq, Int.reduceNe, Int.reduceLT, Int.reduceLE, implies_true, Nat.reduceEqDiff, reduceIte, ite_true, ite_false, eq_self, Nat.reduceLT, Nat.reduceLeDiff, Nat.reduceAdd, Nat.reduceMul, Nat.reduceSub, intOf, k3, k7, k10]
        have hKB : KeepB W w22 b7 := (KeepB.of_ext (hA20.trans' hE21)).trans (KeepB.of_put hP22)
        refine ⟨keepsFrom_of hKB (by omega), KD.of_keepB hKB hsz, hKD.trans (KD.of_keepB hKB hsz), ?_⟩
        have := hP22.blk
        rw [hall, hdd] at this
        rw [upF_snoc]
        exact this
    · intro D W hD ⟨hKD, hB⟩ hWD
      refine tailM hF ?_
      simp only [↓VD, VP, VT, isAggD, reduceCtorEq, Int.reduceEq, Int.reduceNe, Int.reduceLT, Int.reduceLE, implies_true, Nat.reduceEqDiff, reduceIte, ite_true, ite_false, eq_self, Nat.reduceLT, Nat.reduceLeDiff, Nat.reduceAdd, Nat.reduceMul, Nat.reduceSub, intOf, g3, g4, g5, g6, g7, retM_ret]
      have hfl : (upF n k (backL ss) (up0 n (ps.map PR.dat))).length = 32 := upF_len _ _ _ _ hup0
      refine ldA Tryz.underlying28 rfl hB (by rw [vbs_len, hfl, c28]) ?_
      simp only [↓VD, VP, VT, isAggD, reduceCtorEq, Int.reduceEq, Int.reduceNe, Int.reduceLT, Int.reduceLE, implies_true, Nat.reduceEqDiff, reduceIte, ite_true, ite_false, eq_self, Nat.reduceLT, Nat.reduceLeDiff, Nat.reduceAdd, Nat.reduceMul, Nat.reduceSub, intOf, g3, g4, g5, g6, g7, retM_ret]
      have hA6 := hKD.blk hB6 (by omega) (by omega)
      refine stAll hA6 rfl (by rw [c28]; decide) (by rw [c28, vbs_len, hfl]) (by rw [c28]; simp [vbs]) (vbs_one _) (fun w10 hP10 => ?_)
      simp only [↓VD, VP, VT, isAggD, reduceCtorEq, Int.reduceEq, Int.reduceNe, Int.reduceLT, Int.reduceLE, implies_true, Nat.reduceEqDiff, reduceIte, ite_true, ite_false, eq_self, Nat.reduceLT, Nat.reduceLeDiff, Nat.reduceAdd, Nat.reduceMul, Nat.reduceSub, intOf, g3, g4, g5, g6, g7, retM_ret]
      have hDo : w10.heap[D]? = some (.deferred (some [])) := by rw [hP10.other D (by omega)]; exact hWD
      have hDl := (Array.getElem?_eq_some_iff.1 hDo).1
      have hPo : ∀ j, j ≠ D → (w10.putObj D (.deferred none)).heap[j]? = w10.heap[j]? := fun j hj => World.putObj_heap_other hj
      refine ⟨hDo, ldA Tryz.underlying28 rfl (⟨by rw [hPo b6 (by omega)]; exact hP10.blk.out⟩ : Blk _ b6 28 _) (by rw [vbs_len, hfl, c28]) ⟨rfl, ?_⟩⟩
      have hEW : Ext w W := hKD.ext hE9 (by omega) (by omega)
      refine (hEW.trans (hP10.below (by omega))).trans ⟨rfl, rfl, rfl, by simp, fun j hj => hPo j (by omega)⟩

end Go.Proofs.YthlkfjoibjhaiaaGreatDoor

/-! Hck -/
namespace Go.Proofs.YthlkfjoibjhaiaaGreatDoor
set_option maxRecDepth 100000
set_option maxHeartbeats 2000000
open Go Go.RowKit
set_option linter.unusedVariables false
set_option linter.unusedSimpArgs false

/-! ### Package bytes -/
theorem BEqual_ok (xs ys : List UInt8) (u v : Value) (w : World) (hu : SlB w u xs) (hv : SlB w v ys) :
    CallK Tryz.prog 110 [u, v].toArray w fun r w' => r = .bool (decide (xs = ys)) ∧ w' = w := by
  refine enterT Tryz.func110 rfl Tryz.ntmps110 Tryz.results110 rfl (by decide) ?_
  simp only [↓VD, VP, VT, isAggD, reduceCtorEq, Int.reduceEq, Int.reduceNe, Int.reduceLT, Int.reduceLE, implies_true, Nat.reduceEqDiff, reduceIte, ite_true, ite_false, eq_self, Nat.reduceLT, Nat.reduceLeDiff, Nat.reduceAdd, Nat.reduceMul, Nat.reduceSub, intOf]
  refine convS hu ?_
  simp only [↓VD, VP, VT, isAggD, reduceCtorEq, Int.reduceEq, Int.reduceNe, Int.reduceLT, Int.reduceLE, implies_true, Nat.reduceEqDiff, reduceIte, ite_true, ite_false, eq_self, Nat.reduceLT, Nat.reduceLeDiff, Nat.reduceAdd, Nat.reduceMul, Nat.reduceSub, intOf]
  refine convS hv ?_
  simp only [↓VD, VP, VT, isAggD, reduceCtorEq, Int.reduceEq, Int.reduceNe, Int.reduceLT, Int.reduceLE, implies_true, Nat.reduceEqDiff, reduceIte, ite_true, ite_false, eq_self, Nat.reduceLT, Nat.reduceLeDiff, Nat.reduceAdd, Nat.reduceMul, Nat.reduceSub, intOf]
  refine ⟨_, _, rfl, rfl, ?_⟩
  simp only [↓VD, VP, VT, isAggD, reduceCtorEq, Int.reduceEq, Int.reduceNe, Int.reduceLT, Int.reduceLE, implies_true, Nat.reduceEqDiff, reduceIte, ite_true, ite_false, eq_self, Nat.reduceLT, Nat.reduceLeDiff, Nat.reduceAdd, Nat.reduceMul, Nat.reduceSub, intOf]
  simp only [ByteArray.toList_eq]
theorem BClone_ok (xs : List UInt8) (v : Value) (w : World) (hv : SlB w v xs) (hsz : xs.length ≤ 140737488355328) :
    CallK Tryz.prog 112 [v].toArray w fun v' w' => Own w' w.heap.size 5 1 v' xs.length (vbs xs) ∧ Ext w w' := by
  have hv' := hv
  obtain ⟨a, c, rfl, hnc, hcm, hc⟩ := hv'
  refine enterT Tryz.func112 rfl Tryz.ntmps112 Tryz.results112 rfl (by decide) ?_
  simp only [↓VD, VP, VT, isAggD, reduceCtorEq, Int.reduceEq, Int.reduceNe, Int.reduceLT, Int.reduceLE, implies_true, Nat.reduceEqDiff, reduceIte, ite_true, ite_false, eq_self, Nat.reduceLT, Nat.reduceLeDiff, Nat.reduceAdd, Nat.reduceMul, Nat.reduceSub, intOf]
  refine ⟨fun ha => ?_, fun ha => ⟨rfl, fun w1 hN => ?_⟩⟩
  · have : xs = [] := by
      rcases hc with hc | ⟨b, o, rfl, _⟩
      · simpa [vbs] using hc
      · cases ha
    subst this
    exact ⟨Own.nil _ _ _ _, Ext.rfl' w⟩
  · refine apS Tryz.underlying22 z5 c5 rfl (by decide) (Own.of_blk hN.blk (Nat.le_refl _) rfl (by decide)) (by have := hN.size; omega) (hv.ext hN.ext) (by rw [vbs_len, Nat.mul_one]) (vbs_one _) (by omega) (by rw [by5]; omega) (fun v' w2 hO hg => ?_)
    simp only [↓VD, VP, VT, isAggD, reduceCtorEq, Int.reduceEq, Int.reduceNe, Int.reduceLT, Int.reduceLE, implies_true, Nat.reduceEqDiff, reduceIte, ite_true, ite_false, eq_self, Nat.reduceLT, Nat.reduceLeDiff, Nat.reduceAdd, Nat.reduceMul, Nat.reduceSub, intOf]
    refine ⟨by simpa using hO, hN.ext.trans ⟨hg.os, hg.tape, hg.output, hg.size, fun k hk => hg.block k (by have := hN.size; omega) ?_⟩⟩
    simp only [Value.ownBlock, ne_eq, Option.some.injEq]
    omega
theorem bytesX (xs : List UInt8) : Lib.bytesOf (xs.map fun b => (b.toNat : Int)) = xs := by
  induction xs with
  | nil => rfl
  | cons x xs ih => simpa [Lib.bytesOf] using ih
theorem loadX {w : World} {v : Value} {xs : List UInt8} (h : SlB w v xs) : (Extern.Bytes.bytesOf v).run Tryz.prog w = .ok ⟨xs.toArray⟩ w := by
  obtain ⟨a, c, rfl, hnc, hcm, hc⟩ := h
  rcases hc with hc | ⟨b, o, rfl, hc⟩
  · have : xs = [] := by simpa [vbs] using hc
    subst this
    cases a <;> simp [Extern.Bytes.bytesOf, Extern.Bytes.loadBytes] <;> rfl
  · have := Lib.run_loadBytesX (P := Tryz.prog) w (xs.map fun b => (b.toNat : Int)) ⟨b, o, none⟩ .empty (fun j x hj => by
      rw [addr_add]
      exact hc j _ (by rw [vbs_ints]; simp at hj ⊢; exact hj))
    rw [List.length_map, bytesX] at this
    simpa [Extern.Bytes.bytesOf] using this
theorem BCompare_ok (xs ys : List UInt8) (u v : Value) (w : World) (hu : SlB w u xs) (hv : SlB w v ys) :
    CallK Tryz.prog 228 [u, v].toArray w fun r w' => r = .int .i64 (Lib.compareBytes xs ys) ∧ w' = w := by
  refine enterT Tryz.func228 rfl Tryz.ntmps228 Tryz.results228 rfl (by decide) ?_
  simp only [↓VD, VP, VT, isAggD, reduceCtorEq, Int.reduceEq, Int.reduceNe, Int.reduceLT, Int.reduceLE, implies_true, Nat.reduceEqDiff, reduceIte, ite_true, ite_false, eq_self, Nat.reduceLT, Nat.reduceLeDiff, Nat.reduceAdd, Nat.reduceMul, Nat.reduceSub, intOf]
  refine ⟨Or.inr ⟨.int .i64 (Lib.compareBytes xs ys), w, ?_, ?_⟩⟩
  · rw [run_callFunc_extern (e := Extern.BytealgCompare.compare) Tryz.func319 rfl rfl rfl rfl]
    change (Sem.run Tryz.prog (do pure (goInt (Extern.BytealgCompare.cmp (← Extern.Bytes.bytesOf u) (← Extern.Bytes.bytesOf v)))) w).andThen _ = _
    simp only [Sem.run_bind, Sem.run_pure, loadX hu, loadX hv, Result.andThen]
    rw [Lib.cmp_eq]
    rfl
  · simp only [↓VD, VP, VT, isAggD, reduceCtorEq, Int.reduceEq, Int.reduceNe, Int.reduceLT, Int.reduceLE, implies_true, Nat.reduceEqDiff, reduceIte, ite_true, ite_false, eq_self, Nat.reduceLT, Nat.reduceLeDiff, Nat.reduceAdd, Nat.reduceMul, Nat.reduceSub, intOf]

/-! ### kids -/
def kidsP (n : Int) (ss : List SR) : Prop := ∀ s ∈ ss, ∀ d ∈ s.ks, formB n d = true
instance (n : Int) (ss : List SR) : Decidable (kidsP n ss) := by unfold kidsP; infer_instance
theorem kids_ok (n : Int) (sv : Value) (ss : List SR) (w : World) (hs : StepsAt w sv ss) :
    CallK Tryz.prog 107 [.int .i64 n, sv].toArray w fun v w' => v = .bool (decide (kidsP n ss)) ∧ Ext w w' := by
  obtain ⟨⟨a, c, rfl, hnc, hcm, hc⟩, hss⟩ := hs
  refine enterT Tryz.func107 rfl Tryz.ntmps107 Tryz.results107 rfl (by decide) ?_
  simp only [↓VD, VP, VT, isAggD, reduceCtorEq, Int.reduceEq, Int.reduceNe, Int.reduceLT, Int.reduceLE, implies_true, Nat.reduceEqDiff, reduceIte, ite_true, ite_false, eq_self, Nat.reduceLT, Nat.reduceLeDiff, Nat.reduceAdd, Nat.reduceMul, Nat.reduceSub, intOf]
  refine loopT (fun s' w' => Ext w w' ∧ ∃ k : Nat, k ≤ ss.length ∧ s' 0 = .int .i64 n ∧ s' 9 = .slice a ss.length c ∧ s' 10 = .int .i64 ss.length ∧ s' 11 = .int .i64 k ∧
      ∀ s ∈ ss.take k, ∀ d ∈ s.ks, formB n d = true) (fun s' _ => ss.length - (intOf (s' 11)).toNat) ?_ ?_
  · simp only [↓VD, VP, VT, isAggD, reduceCtorEq, Int.reduceEq, Int.reduceNe, Int.reduceLT, Int.reduceLE, implies_true, Nat.reduceEqDiff, reduceIte, ite_true, ite_false, eq_self, Nat.reduceLT, Nat.reduceLeDiff, Nat.reduceAdd, Nat.reduceMul, Nat.reduceSub, intOf]
    exact ⟨Ext.rfl' w, 0, by omega, rfl, by simp⟩
  · rintro s2 w2 ⟨hE, k, hk, h0, h9, h10, h11, hz⟩
    simp only [↓VD, VP, VT, isAggD, reduceCtorEq, Int.reduceEq, Int.reduceNe, Int.reduceLT, Int.reduceLE, implies_true, Nat.reduceEqDiff, reduceIte, ite_true, ite_false, eq_self, Nat.reduceLT, Nat.reduceLeDiff, Nat.reduceAdd, Nat.reduceMul, Nat.reduceSub, intOf, h0, h9, h10, h11]
    refine ⟨fun hlt => ?_, fun hge => ?_⟩
    · have hlt' : k < ss.length := by omega
      rcases hc with hc | ⟨b, o, rfl, hc⟩
      · exfalso
        cases ss with
        | nil => simp at hlt'
        | cons d ds => simp [SR.cells] at hc
      obtain ⟨x, hx⟩ : ∃ x, ss[k]? = some x := ⟨_, List.getElem?_eq_getElem hlt'⟩
      obtain ⟨hbm, hdk⟩ := hss x (List.mem_of_getElem? hx)
      have hc1 : ∀ j u, (ss.flatMap SR.cells)[j]? = some u → w2.cell? ⟨b, o + j, none⟩ = some u := fun j u hj => by rw [hE.cell (block_lt_of_cell (hc j u hj))]; exact hc j u hj
      simp only [↓VD, VP, VT, isAggD, reduceCtorEq, Int.reduceEq, Int.reduceNe, Int.reduceLT, Int.reduceLE, implies_true, Nat.reduceEqDiff, reduceIte, ite_true, ite_false, eq_self, Nat.reduceLT, Nat.reduceLeDiff, Nat.reduceAdd, Nat.reduceMul, Nat.reduceSub, intOf]
      refine ⟨by omega, by omega, ldE (f := SR.cells) c51 Tryz.underlying51 rfl (fun d h => rfl) hc1 hx ?_⟩
      simp only [↓VD, VP, VT, isAggD, reduceCtorEq, Int.reduceEq, Int.reduceNe, Int.reduceLT, Int.reduceLE, implies_true, Nat.reduceEqDiff, reduceIte, ite_true, ite_false, eq_self, Nat.reduceLT, Nat.reduceLeDiff, Nat.reduceAdd, Nat.reduceMul, Nat.reduceSub, intOf]
      intro w3 hN
      obtain ⟨ak, ck, hkv⟩ := slv_of hdk.2
      refine stAll hN.blk (vs := x.cells) rfl (by rw [c51]; decide) (by rw [c51]; rfl) (by rw [c51]; rfl) (by rw [SR.cells, hkv]; simp [oneCellV]) (fun w4 hP => ?_)
      simp only [↓VD, VP, VT, isAggD, reduceCtorEq, Int.reduceEq, Int.reduceNe, Int.reduceLT, Int.reduceLE, implies_true, Nat.reduceEqDiff, reduceIte, ite_true, ite_false, eq_self, Nat.reduceLT, Nat.reduceLeDiff, Nat.reduceAdd, Nat.reduceMul, Nat.reduceSub, intOf, h0, h9, h10, h11]
      have hE4 : Ext w w4 := hE.trans' (hN.ext.trans (hP.below (Nat.le_refl _)))
      obtain ⟨kv, bm, ks⟩ := x
      simp only at hkv hdk hbm
      subst hkv
      have hB : Blk w4 w2.heap.size 51 [.int .u16 bm, .slice ak ks.length ck] := hP.blk
      refine ldAt (pre := [.int .u16 bm]) (post := []) Tryz.underlying49 rfl hB rfl ?_
      simp only [↓VD, VP, VT, isAggD, reduceCtorEq, Int.reduceEq, Int.reduceNe, Int.reduceLT, Int.reduceLE, implies_true, Nat.reduceEqDiff, reduceIte, ite_true, ite_false, eq_self, Nat.reduceLT, Nat.reduceLeDiff, Nat.reduceAdd, Nat.reduceMul, Nat.reduceSub, intOf, h0, h9, h10, h11]
      obtain ⟨hd, a', c', he, hnc', hcm', hck⟩ := hdk
      cases he
      refine loopT (fun s' w' => Ext w w' ∧ ∃ i : Nat, i ≤ ks.length ∧ s' 0 = .int .i64 n ∧ s' 9 = .slice (some ⟨b, o, none⟩) ss.length c ∧ s' 10 = .int .i64 ss.length ∧ s' 11 = .int .i64 k ∧ s' 16 = .slice ak ks.length ck ∧ s' 17 = .int .i64 ks.length ∧ s' 18 = .int .i64 i ∧
        ∀ d ∈ ks.take i, formB n d = true) (fun s' _ => ks.length - (intOf (s' 18)).toNat) ?_ ?_
      · simp only [↓VD, VP, VT, isAggD, reduceCtorEq, Int.reduceEq, Int.reduceNe, Int.reduceLT, Int.reduceLE, implies_true, Nat.reduceEqDiff, reduceIte, ite_true, ite_false, eq_self, Nat.reduceLT, Nat.reduceLeDiff, Nat.reduceAdd, Nat.reduceMul, Nat.reduceSub, intOf, h0, h9, h10, h11]
        exact ⟨hE4, 0, by omega, rfl, by simp⟩
      · rintro s5 w5 ⟨hE5, i, hi, k0, k9, k10, k11, k16, k17, k18, hz5⟩
        simp only [↓VD, VP, VT, isAggD, reduceCtorEq, Int.reduceEq, Int.reduceNe, Int.reduceLT, Int.reduceLE, implies_true, Nat.reduceEqDiff, reduceIte, ite_true, ite_false, eq_self, Nat.reduceLT, Nat.reduceLeDiff, Nat.reduceAdd, Nat.reduceMul, Nat.reduceSub, intOf, k0, k9, k10, k11, k16, k17, k18]
        refine ⟨fun hlti => ?_, fun hgei => ?_⟩
        · have hlti' : i < ks.length := by omega
          rcases hck with hck | ⟨b', o', rfl, hck⟩
          · exfalso
            cases ks with
            | nil => simp at hlti'
            | cons d ds => have := hd d (by simp); simp at hck; simp [vbs] at hck; have h3 := hck.1; simp [h3] at this
          obtain ⟨y, hy⟩ : ∃ y, ks[i]? = some y := ⟨_, List.getElem?_eq_getElem hlti'⟩
          have hyl : y.length = 32 := hd y (List.mem_of_getElem? hy)
          have hc5 : ∀ j u, (ks.flatMap vbs)[j]? = some u → w5.cell? ⟨b', o' + j, none⟩ = some u := fun j u hj => by rw [hE5.cell (block_lt_of_cell (hck j u hj))]; exact hck j u hj
          simp only [↓VD, VP, VT, isAggD, reduceCtorEq, Int.reduceEq, Int.reduceNe, Int.reduceLT, Int.reduceLE, implies_true, Nat.reduceEqDiff, reduceIte, ite_true, ite_false, eq_self, Nat.reduceLT, Nat.reduceLeDiff, Nat.reduceAdd, Nat.reduceMul, Nat.reduceSub, intOf]
          refine ⟨by omega, by omega, ldE c28 Tryz.underlying28 rfl (fun d h => by rw [vbs_len]; exact hd d h) hc5 hy ?_⟩
          simp only [↓VD, VP, VT, isAggD, reduceCtorEq, Int.reduceEq, Int.reduceNe, Int.reduceLT, Int.reduceLE, implies_true, Nat.reduceEqDiff, reduceIte, ite_true, ite_false, eq_self, Nat.reduceLT, Nat.reduceLeDiff, Nat.reduceAdd, Nat.reduceMul, Nat.reduceSub, intOf]
          intro w6 hN6
          refine stAll hN6.blk rfl (by rw [c28]; omega) (by rw [c28, vbs_len, hyl]) (by rw [c28]; simp) (vbs_one y) (fun w7 hP7 => ?_)
          simp only [↓VD, VP, VT, isAggD, reduceCtorEq, Int.reduceEq, Int.reduceNe, Int.reduceLT, Int.reduceLE, implies_true, Nat.reduceEqDiff, reduceIte, ite_true, ite_false, eq_self, Nat.reduceLT, Nat.reduceLeDiff, Nat.reduceAdd, Nat.reduceMul, Nat.reduceSub, intOf, k0, k9, k10, k11, k16, k17, k18]
          refine ldA Tryz.underlying28 rfl hP7.blk (by rw [vbs_len, hyl, c28]) ?_
          simp only [↓VD, VP, VT, isAggD, reduceCtorEq, Int.reduceEq, Int.reduceNe, Int.reduceLT, Int.reduceLE, implies_true, Nat.reduceEqDiff, reduceIte, ite_true, ite_false, eq_self, Nat.reduceLT, Nat.reduceLeDiff, Nat.reduceAdd, Nat.reduceMul, Nat.reduceSub, intOf, k0, k9, k10, k11, k16, k17, k18]
          refine (Form_ok n y hyl w7).mono ?_
          rintro _ w8 ⟨rfl, hE8⟩
          have hE8' : Ext w w8 := (hE5.trans' (hN6.ext.trans (hP7.below (Nat.le_refl _)))).trans' hE8
          cases hf : formB n y
          · simp only [↓VD, VP, VT, isAggD, reduceCtorEq, Int.reduceEq, Int.reduceNe, Int.reduceLT, Int.reduceLE, implies_true, Nat.reduceEqDiff, reduceIte, ite_true, ite_false, eq_self, Nat.reduceLT, Nat.reduceLeDiff, Nat.reduceAdd, Nat.reduceMul, Nat.reduceSub, intOf, k0, k9, k10, k11, k16, k17, k18, hf]
            refine ⟨?_, hE8'⟩
            rw [decide_eq_false]
            intro hall
            rw [hall _ (List.mem_of_getElem? hx) y (List.mem_of_getElem? hy)] at hf
            cases hf
          · simp only [↓VD, VP, VT, isAggD, reduceCtorEq, Int.reduceEq, Int.reduceNe, Int.reduceLT, Int.reduceLE, implies_true, Nat.reduceEqDiff, reduceIte, ite_true, ite_false, eq_self, Nat.reduceLT, Nat.reduceLeDiff, Nat.reduceAdd, Nat.reduceMul, Nat.reduceSub, intOf, k0, k9, k10, k11, k16, k17, k18, hf]
            refine ⟨⟨hE8', i + 1, by omega, ?_, (take_all_succ hy).2 ⟨hz5, hf⟩⟩, ?_⟩
            · rw [w64 (by omega) (by omega)]; rfl
            · rw [w64 (by omega) (by omega)]; omega
        · rw [List.take_of_length_le (by omega)] at hz5
          refine ⟨⟨hE5, k + 1, by omega, ?_, (take_all_succ (p := fun s => ∀ d ∈ s.ks, formB n d = true) hx).2 ⟨hz, hz5⟩⟩, ?_⟩
          · rw [w64 (by omega) (by omega)]; rfl
          · rw [w64 (by omega) (by omega), h11]; simp only [intOf]; omega
    · rw [List.take_of_length_le (by omega)] at hz
      exact ⟨by rw [decide_eq_true (show kidsP n ss from hz)], hE⟩

end Go.Proofs.YthlkfjoibjhaiaaGreatDoor

/-! HckB -/
namespace Go.Proofs.YthlkfjoibjhaiaaGreatDoor
set_option maxRecDepth 100000
set_option maxHeartbeats 2000000
open Go Go.RowKit
set_option linter.unusedVariables false
set_option linter.unusedSimpArgs false

def stepOk (n : Int) (k : List UInt8) (i : Nat) (last : Prop) (np bm nk : Nat) : Prop :=
  cntB bm ≠ 0 ∧ (hasB bm (atP n k i).1 = true → nk + 1 = cntB bm ∧ ¬ (last ∧ np = 0)) ∧ (hasB bm (atP n k i).1 = false → last ∧ nk = cntB bm ∧ np = 0) ∧ ¬ (last ∧ 0 < np ∧ cntB bm = 1)
def branchesP (n : Int) (k : List UInt8) (ss : List SR) (np : Nat) : Prop := (ss.length : Int) ≤ 2 * n ∧ ∀ i s, ss[i]? = some s → stepOk n k i (i + 1 = ss.length) np s.bm s.ks.length

theorem branches_ok (n : Int) (hn : widB n = true) (k : List UInt8) (hk : k.length = 32) (sv pv : Value) (ss : List SR) (ps : List PR) (w : World) (hs : StepsAt w sv ss) (hp : PairsAt w pv ps) :
    CallK Tryz.prog 108 [.int .i64 n, .agg (vbs k).toArray, .agg [sv, pv].toArray].toArray w fun v w' => ∃ t, v = .bool t ∧ (t = true ↔ branchesP n k ss ps.length) ∧ Ext w w' := by
  have hw := (widB_iff n).1 hn
  obtain ⟨⟨a, c, rfl, hnc, hcm, hc⟩, hss⟩ := hs
  obtain ⟨ap, cp, rfl⟩ := slv_of hp.1
  have hpc : ps.length ≤ cp ∧ cp ≤ 9223372036854775807 := by
    obtain ⟨_, _, e, h1, h2, _⟩ := hp.1
    cases e
    exact ⟨h1, h2⟩
  have h2n : IntKind.i64.wrap (2 * n) = 2 * n := w64 (by omega) (by omega)
  refine enterT Tryz.func108 rfl Tryz.ntmps108 Tryz.results108 rfl (by decide) ?_
  simp only [↓VD, VP, VT, isAggD, reduceCtorEq, Int.reduceEq, Int.reduceNe, Int.reduceLT, Int.reduceLE, implies_true, Nat.reduceEqDiff, reduceIte, ite_true, ite_false, eq_self, Nat.reduceLT, Nat.reduceLeDiff, Nat.reduceAdd, Nat.reduceMul, Nat.reduceSub, intOf]
  intro w1 hN1 w2 hN2
  have s1 := hN1.size
  have s2 := hN2.size
  have hB4 := hN1.blk.ext hN2.ext
  have hB5 := hN2.blk
  have hE2 : Ext w w2 := hN1.ext.trans' hN2.ext
  generalize w1.heap.size = b5 at *
  refine ldAt (pre := []) (post := [.slice ap ps.length cp]) Tryz.underlying23 rfl hB5 rfl ?_
  simp only [↓VD, VP, VT, isAggD, reduceCtorEq, Int.reduceEq, Int.reduceNe, Int.reduceLT, Int.reduceLE, implies_true, Nat.reduceEqDiff, reduceIte, ite_true, ite_false, eq_self, Nat.reduceLT, Nat.reduceLeDiff, Nat.reduceAdd, Nat.reduceMul, Nat.reduceSub, intOf, h2n]
  refine ⟨fun hgt => ?_, fun hle => ?_⟩
  · exact ⟨⟨False.elim, fun h => by have := h.1; omega⟩, hE2⟩
  refine ldAt (pre := []) (post := [.slice ap ps.length cp]) Tryz.underlying23 rfl hB5 rfl ?_
  simp only [↓VD, VP, VT, isAggD, reduceCtorEq, Int.reduceEq, Int.reduceNe, Int.reduceLT, Int.reduceLE, implies_true, Nat.reduceEqDiff, reduceIte, ite_true, ite_false, eq_self, Nat.reduceLT, Nat.reduceLeDiff, Nat.reduceAdd, Nat.reduceMul, Nat.reduceSub, intOf]
  refine loopT (fun s' w' => Ext w2 w' ∧ ∃ i : Nat, i ≤ ss.length ∧ s' 0 = .int .i64 n ∧ s' 4 = .pointer (some ⟨w.heap.size, 0, none⟩) ∧ s' 5 = .pointer (some ⟨b5, 0, none⟩) ∧ s' 19 = .slice a ss.length c ∧ s' 20 = .int .i64 ss.length ∧ s' 21 = .int .i64 i ∧
      ∀ j s, j < i → ss[j]? = some s → stepOk n k j (j + 1 = ss.length) ps.length s.bm s.ks.length) (fun s' _ => ss.length - (intOf (s' 21)).toNat) ?_ ?_
  · simp only [↓VD, VP, VT, isAggD, reduceCtorEq, Int.reduceEq, Int.reduceNe, Int.reduceLT, Int.reduceLE, implies_true, Nat.reduceEqDiff, reduceIte, ite_true, ite_false, eq_self, Nat.reduceLT, Nat.reduceLeDiff, Nat.reduceAdd, Nat.reduceMul, Nat.reduceSub, intOf]
    exact ⟨Ext.rfl' w2, 0, by omega, rfl, fun j s h => by omega⟩
  · rintro s3 w3 ⟨hE3, i, hi, h0, h4, h5, h19, h20, h21, hz⟩
    simp only [↓VD, VP, VT, isAggD, reduceCtorEq, Int.reduceEq, Int.reduceNe, Int.reduceLT, Int.reduceLE, implies_true, Nat.reduceEqDiff, reduceIte, ite_true, ite_false, eq_self, Nat.reduceLT, Nat.reduceLeDiff, Nat.reduceAdd, Nat.reduceMul, Nat.reduceSub, intOf, h0, h4, h5, h19, h20, h21]
    refine ⟨fun hlt => ?_, fun hge => ?_⟩
    · have hlt' : i < ss.length := by omega
      rcases hc with hc | ⟨b, o, rfl, hc⟩
      · exfalso
        cases ss with
        | nil => simp at hlt'
        | cons d ds => simp [SR.cells] at hc
      obtain ⟨x, hx⟩ : ∃ x, ss[i]? = some x := ⟨_, List.getElem?_eq_getElem hlt'⟩
      obtain ⟨hbm, hdk⟩ := hss x (List.mem_of_getElem? hx)
      have hc1 : ∀ j u, (ss.flatMap SR.cells)[j]? = some u → w3.cell? ⟨b, o + j, none⟩ = some u := fun j u hj => by rw [hE3.cell (block_lt_of_cell (hE2.cell (block_lt_of_cell (hc j u hj)) ▸ hc j u hj)), hE2.cell (block_lt_of_cell (hc j u hj))]; exact hc j u hj
      simp only [↓VD, VP, VT, isAggD, reduceCtorEq, Int.reduceEq, Int.reduceNe, Int.reduceLT, Int.reduceLE, implies_true, Nat.reduceEqDiff, reduceIte, ite_true, ite_false, eq_self, Nat.reduceLT, Nat.reduceLeDiff, Nat.reduceAdd, Nat.reduceMul, Nat.reduceSub, intOf]
      refine ⟨by omega, by omega, ldE (f := SR.cells) c51 Tryz.underlying51 rfl (fun d h => rfl) hc1 hx ?_⟩
      simp only [↓VD, VP, VT, isAggD, reduceCtorEq, Int.reduceEq, Int.reduceNe, Int.reduceLT, Int.reduceLE, implies_true, Nat.reduceEqDiff, reduceIte, ite_true, ite_false, eq_self, Nat.reduceLT, Nat.reduceLeDiff, Nat.reduceAdd, Nat.reduceMul, Nat.reduceSub, intOf]
      intro w4 hN4
      obtain ⟨ak, ck, hkv⟩ := slv_of hdk.2
      refine stAll hN4.blk (vs := x.cells) rfl (by rw [c51]; decide) (by rw [c51]; rfl) (by rw [c51]; rfl) (by rw [SR.cells, hkv]; simp [oneCellV]) (fun w5 hP5 => ?_)
      simp only [↓VD, VP, VT, isAggD, reduceCtorEq, Int.reduceEq, Int.reduceNe, Int.reduceLT, Int.reduceLE, implies_true, Nat.reduceEqDiff, reduceIte, ite_true, ite_false, eq_self, Nat.reduceLT, Nat.reduceLeDiff, Nat.reduceAdd, Nat.reduceMul, Nat.reduceSub, intOf, h0, h4, h5, h19, h20, h21]
      have hE5 : Ext w2 w5 := hE3.trans' (hN4.ext.trans (hP5.below (Nat.le_refl _)))
      have hE5' : Ext w w5 := hE2.trans' hE5
      obtain ⟨kv, bm, ks⟩ := x
      simp only at hkv hdk hbm
      subst hkv
      have hkl : ks.length ≤ 9223372036854775807 := by
        obtain ⟨_, _, _, e, h1, h2, _⟩ := hdk
        cases e
        omega
      have hB8 : Blk w5 w3.heap.size 51 [.int .u16 bm, .slice ak ks.length ck] := hP5.blk
      replace hB4 := hB4.ext hE5
      replace hB5 := hB5.ext hE5
      have s3 := hE3.size
      generalize w3.heap.size = b8 at *
      refine ldAt (pre := []) (post := [.slice ak ks.length ck]) Tryz.underlying48 rfl hB8 rfl ?_
      simp only [↓VD, VP, VT, isAggD, reduceCtorEq, Int.reduceEq, Int.reduceNe, Int.reduceLT, Int.reduceLE, implies_true, Nat.reduceEqDiff, reduceIte, ite_true, ite_false, eq_self, Nat.reduceLT, Nat.reduceLeDiff, Nat.reduceAdd, Nat.reduceMul, Nat.reduceSub, intOf, h0, h4, h5, h19, h20, h21]
      refine (Count_ok bm hbm w5).mono ?_
      rintro _ w6 ⟨rfl, hE6⟩
      simp only [↓VD, VP, VT, isAggD, reduceCtorEq, Int.reduceEq, Int.reduceNe, Int.reduceLT, Int.reduceLE, implies_true, Nat.reduceEqDiff, reduceIte, ite_true, ite_false, eq_self, Nat.reduceLT, Nat.reduceLeDiff, Nat.reduceAdd, Nat.reduceMul, Nat.reduceSub, intOf, h0, h4, h5, h19, h20, h21]
      refine ldAt (pre := []) (post := [.slice ap ps.length cp]) Tryz.underlying23 rfl (hB5.ext hE6) rfl ?_
      have hl1 : IntKind.i64.wrap ((ss.length : Int) - 1) = ((ss.length - 1 : Nat) : Int) := by rw [w64 (by omega) (by omega)]; omega
      simp only [↓VD, VP, VT, isAggD, reduceCtorEq, Int.reduceEq, Int.reduceNe, Int.reduceLT, Int.reduceLE, implies_true, Nat.reduceEqDiff, reduceIte, ite_true, ite_false, eq_self, Nat.reduceLT, Nat.reduceLeDiff, Nat.reduceAdd, Nat.reduceMul, Nat.reduceSub, intOf, h0, h4, h5, h19, h20, h21, hl1]
      refine drawT mixed (by decide +kernel) ?_
      simp only [↓VD, VP, VT, isAggD, reduceCtorEq, Int.reduceEq, Int.reduceNe, Int.reduceLT, Int.reduceLE, implies_true, Nat.reduceEqDiff, reduceIte, ite_true, ite_false, eq_self, Nat.reduceLT, Nat.reduceLeDiff, Nat.reduceAdd, Nat.reduceMul, Nat.reduceSub, intOf, h0, h4, h5, h19, h20, h21]
      refine ldAt (pre := []) (post := [.slice ak ks.length ck]) Tryz.underlying48 rfl (hB8.ext hE6) rfl ?_
      simp only [↓VD, VP, VT, isAggD, reduceCtorEq, Int.reduceEq, Int.reduceNe, Int.reduceLT, Int.reduceLE, implies_true, Nat.reduceEqDiff, reduceIte, ite_true, ite_false, eq_self, Nat.reduceLT, Nat.reduceLeDiff, Nat.reduceAdd, Nat.reduceMul, Nat.reduceSub, intOf, h0, h4, h5, h19, h20, h21]
      refine ldA Tryz.underlying28 rfl (hB4.ext hE6) (by rw [vbs_len, hk, c28]) ?_
      simp only [↓VD, VP, VT, isAggD, reduceCtorEq, Int.reduceEq, Int.reduceNe, Int.reduceLT, Int.reduceLE, implies_true, Nat.reduceEqDiff, reduceIte, ite_true, ite_false, eq_self, Nat.reduceLT, Nat.reduceLeDiff, Nat.reduceAdd, Nat.reduceMul, Nat.reduceSub, intOf, h0, h4, h5, h19, h20, h21]
      refine qcall _ (fun w' _ => child_ok n k hk i w') ?_
      simp only [↓VD, VP, VT, isAggD, reduceCtorEq, Int.reduceEq, Int.reduceNe, Int.reduceLT, Int.reduceLE, implies_true, Nat.reduceEqDiff, reduceIte, ite_true, ite_false, eq_self, Nat.reduceLT, Nat.reduceLeDiff, Nat.reduceAdd, Nat.reduceMul, Nat.reduceSub, intOf, h0, h4, h5, h19, h20, h21]
      refine qcall _ (fun w' _ => Has_ok bm hbm (atP n k i).1 w') ?_
      simp only [↓VD, VP, VT, isAggD, reduceCtorEq, Int.reduceEq, Int.reduceNe, Int.reduceLT, Int.reduceLE, implies_true, Nat.reduceEqDiff, reduceIte, ite_true, ite_false, eq_self, Nat.reduceLT, Nat.reduceLeDiff, Nat.reduceAdd, Nat.reduceMul, Nat.reduceSub, intOf, h0, h4, h5, h19, h20, h21]
      intro w7 hE7
      have hA8 := (hB8.ext hE6).ext hE7
      have hA5 := (hB5.ext hE6).ext hE7
      have hc16 : cntB bm ≤ 16 := by have := List.length_filter_le (fun j => bm.testBit j) (List.range 16); simpa [cntB, setB] using this
      refine ⟨fun h0c => ?_, fun hcn => ?_⟩
      · refine ⟨⟨False.elim, fun hP => ?_⟩, hE5'.trans' (hE6.trans' hE7)⟩
        have hq := hP.2 i _ hx
        exact hq.1 (show cntB bm = 0 from by omega)
      have hcw : IntKind.i64.wrap ((cntB bm : Int) - 1) = ((cntB bm - 1 : Nat) : Int) := by rw [w64 (by omega) (by omega)]; omega
      have hcn' : cntB bm ≠ 0 := fun h => hcn (by omega)
      cases hh : hasB bm (atP n k i).1
      · by_cases hl : i + 1 = ss.length
        · have hli : ((i : Int) = ((ss.length - 1 : Nat) : Int)) = True := eq_true (by omega)
          simp only [↓VD, VP, VT, isAggD, reduceCtorEq, Int.reduceEq, Int.reduceNe, Int.reduceLT, Int.reduceLE, implies_true, Nat.reduceEqDiff, reduceIte, ite_true, ite_false, eq_self, Nat.reduceLT, Nat.reduceLeDiff, Nat.reduceAdd, Nat.reduceMul, Nat.reduceSub, intOf, h0, h4, h5, h19, h20, h21, hh, hli, hcw]
          refine ldAt (pre := [.int .u16 bm]) (post := []) Tryz.underlying49 rfl hA8 rfl ?_
          by_cases hkc : ks.length = cntB bm
          · have hk1 : ((ks.length : Int) = (cntB bm : Int)) = True := eq_true (by omega)
            simp only [↓VD, VP, VT, isAggD, reduceCtorEq, Int.reduceEq, Int.reduceNe, Int.reduceLT, Int.reduceLE, implies_true, Nat.reduceEqDiff, reduceIte, ite_true, ite_false, eq_self, Nat.reduceLT, Nat.reduceLeDiff, Nat.reduceAdd, Nat.reduceMul, Nat.reduceSub, intOf, h0, h4, h5, h19, h20, h21, hh, hli, hcw, hk1]
            refine ldAt (pre := [.slice (some ⟨b, o, none⟩) ss.length c]) (post := []) Tryz.underlying24 rfl hA5 rfl ?_
            by_cases hnp : ps.length = 0
            · have hp1 : (0 < (ps.length : Int)) = False := eq_false (by omega)
              simp only [↓VD, VP, VT, isAggD, reduceCtorEq, Int.reduceEq, Int.reduceNe, Int.reduceLT, Int.reduceLE, implies_true, Nat.reduceEqDiff, reduceIte, ite_true, ite_false, eq_self, Nat.reduceLT, Nat.reduceLeDiff, Nat.reduceAdd, Nat.reduceMul, Nat.reduceSub, intOf, h0, h4, h5, h19, h20, h21, hh, hli, hcw, hk1, hp1]
              refine ldAt (pre := [.slice (some ⟨b, o, none⟩) ss.length c]) (post := []) Tryz.underlying24 rfl hA5 rfl ?_
              simp only [↓VD, VP, VT, isAggD, reduceCtorEq, Int.reduceEq, Int.reduceNe, Int.reduceLT, Int.reduceLE, implies_true, Nat.reduceEqDiff, reduceIte, ite_true, ite_false, eq_self, Nat.reduceLT, Nat.reduceLeDiff, Nat.reduceAdd, Nat.reduceMul, Nat.reduceSub, intOf, h0, h4, h5, h19, h20, h21, hh, hli, hcw, hk1, hp1]
              refine ⟨⟨hE5.trans' (hE6.trans' hE7), i + 1, by omega, ?_, fun j s hj hs' => ?_⟩, ?_⟩
              · rw [w64 (by omega) (by omega)]; rfl
              · by_cases hji : j < i
                · exact hz j s hji hs'
                · obtain rfl : j = i := by omega
                  rw [hx] at hs'
                  cases hs'
                  exact ⟨hcn', fun h => by simp [hh] at h, fun _ => ⟨hl, hkc, hnp⟩, fun h => by omega⟩
              · rw [w64 (by omega) (by omega)]; omega
            · have hp1 : (0 < (ps.length : Int)) = True := eq_true (by omega)
              simp only [↓VD, VP, VT, isAggD, reduceCtorEq, Int.reduceEq, Int.reduceNe, Int.reduceLT, Int.reduceLE, implies_true, Nat.reduceEqDiff, reduceIte, ite_true, ite_false, eq_self, Nat.reduceLT, Nat.reduceLeDiff, Nat.reduceAdd, Nat.reduceMul, Nat.reduceSub, intOf, h0, h4, h5, h19, h20, h21, hh, hli, hcw, hk1, hp1]
              refine ⟨⟨False.elim, fun hP => ?_⟩, hE5'.trans' (hE6.trans' hE7)⟩
              have hq := hP.2 i _ hx
              exact hnp (hq.2.2.1 hh).2.2
          · have hk1 : ((ks.length : Int) = (cntB bm : Int)) = False := eq_false (by omega)
            simp only [↓VD, VP, VT, isAggD, reduceCtorEq, Int.reduceEq, Int.reduceNe, Int.reduceLT, Int.reduceLE, implies_true, Nat.reduceEqDiff, reduceIte, ite_true, ite_false, eq_self, Nat.reduceLT, Nat.reduceLeDiff, Nat.reduceAdd, Nat.reduceMul, Nat.reduceSub, intOf, h0, h4, h5, h19, h20, h21, hh, hli, hcw, hk1]
            refine ⟨⟨False.elim, fun hP => ?_⟩, hE5'.trans' (hE6.trans' hE7)⟩
            have hq := hP.2 i _ hx
            exact hkc (hq.2.2.1 hh).2.1
        · have hli : ((i : Int) = ((ss.length - 1 : Nat) : Int)) = False := eq_false (by omega)
          simp only [↓VD, VP, VT, isAggD, reduceCtorEq, Int.reduceEq, Int.reduceNe, Int.reduceLT, Int.reduceLE, implies_true, Nat.reduceEqDiff, reduceIte, ite_true, ite_false, eq_self, Nat.reduceLT, Nat.reduceLeDiff, Nat.reduceAdd, Nat.reduceMul, Nat.reduceSub, intOf, h0, h4, h5, h19, h20, h21, hh, hli, hcw]
          refine ⟨⟨False.elim, fun hP => ?_⟩, hE5'.trans' (hE6.trans' hE7)⟩
          have hq := hP.2 i _ hx
          exact hl (hq.2.2.1 hh).1
      · simp only [↓VD, VP, VT, isAggD, reduceCtorEq, Int.reduceEq, Int.reduceNe, Int.reduceLT, Int.reduceLE, implies_true, Nat.reduceEqDiff, reduceIte, ite_true, ite_false, eq_self, Nat.reduceLT, Nat.reduceLeDiff, Nat.reduceAdd, Nat.reduceMul, Nat.reduceSub, intOf, h0, h4, h5, h19, h20, h21, hh, hcw]
        refine ldAt (pre := [.int .u16 bm]) (post := []) Tryz.underlying49 rfl hA8 rfl ?_
        by_cases hkc : ks.length + 1 = cntB bm
        · have hk1 : ((ks.length : Int) = ((cntB bm - 1 : Nat) : Int)) = True := eq_true (by omega)
          by_cases hl : i + 1 = ss.length
          · have hli : ((i : Int) = ((ss.length - 1 : Nat) : Int)) = True := eq_true (by omega)
            simp only [↓VD, VP, VT, isAggD, reduceCtorEq, Int.reduceEq, Int.reduceNe, Int.reduceLT, Int.reduceLE, implies_true, Nat.reduceEqDiff, reduceIte, ite_true, ite_false, eq_self, Nat.reduceLT, Nat.reduceLeDiff, Nat.reduceAdd, Nat.reduceMul, Nat.reduceSub, intOf, h0, h4, h5, h19, h20, h21, hh, hli, hcw, hk1]
            refine ldAt (pre := [.slice (some ⟨b, o, none⟩) ss.length c]) (post := []) Tryz.underlying24 rfl hA5 rfl ?_
            by_cases hnp : ps.length = 0
            · have hp1 : ((ps.length : Int) = 0) = True := eq_true (by omega)
              simp only [↓VD, VP, VT, isAggD, reduceCtorEq, Int.reduceEq, Int.reduceNe, Int.reduceLT, Int.reduceLE, implies_true, Nat.reduceEqDiff, reduceIte, ite_true, ite_false, eq_self, Nat.reduceLT, Nat.reduceLeDiff, Nat.reduceAdd, Nat.reduceMul, Nat.reduceSub, intOf, h0, h4, h5, h19, h20, h21, hh, hli, hcw, hk1, hp1]
              refine ⟨⟨False.elim, fun hP => ?_⟩, hE5'.trans' (hE6.trans' hE7)⟩
              have hq := hP.2 i _ hx
              exact (hq.2.1 hh).2 ⟨hl, hnp⟩
            · have hp1 : ((ps.length : Int) = 0) = False := eq_false (by omega)
              have hp2 : (0 < (ps.length : Int)) = True := eq_true (by omega)
              simp only [↓VD, VP, VT, isAggD, reduceCtorEq, Int.reduceEq, Int.reduceNe, Int.reduceLT, Int.reduceLE, implies_true, Nat.reduceEqDiff, reduceIte, ite_true, ite_false, eq_self, Nat.reduceLT, Nat.reduceLeDiff, Nat.reduceAdd, Nat.reduceMul, Nat.reduceSub, intOf, h0, h4, h5, h19, h20, h21, hh, hli, hcw, hk1, hp1]
              refine ldAt (pre := [.slice (some ⟨b, o, none⟩) ss.length c]) (post := []) Tryz.underlying24 rfl hA5 rfl ?_
              by_cases hc1' : cntB bm = 1
              · have hp3 : ((cntB bm : Int) = 1) = True := eq_true (by omega)
                simp only [↓VD, VP, VT, isAggD, reduceCtorEq, Int.reduceEq, Int.reduceNe, Int.reduceLT, Int.reduceLE, implies_true, Nat.reduceEqDiff, reduceIte, ite_true, ite_false, eq_self, Nat.reduceLT, Nat.reduceLeDiff, Nat.reduceAdd, Nat.reduceMul, Nat.reduceSub, intOf, h0, h4, h5, h19, h20, h21, hh, hli, hcw, hk1, hp1, hp2, hp3]
                refine ⟨⟨False.elim, fun hP => ?_⟩, hE5'.trans' (hE6.trans' hE7)⟩
                have hq := hP.2 i _ hx
                exact hq.2.2.2 ⟨hl, by omega, hc1'⟩
              · have hp3 : ((cntB bm : Int) = 1) = False := eq_false (by omega)
                simp only [↓VD, VP, VT, isAggD, reduceCtorEq, Int.reduceEq, Int.reduceNe, Int.reduceLT, Int.reduceLE, implies_true, Nat.reduceEqDiff, reduceIte, ite_true, ite_false, eq_self, Nat.reduceLT, Nat.reduceLeDiff, Nat.reduceAdd, Nat.reduceMul, Nat.reduceSub, intOf, h0, h4, h5, h19, h20, h21, hh, hli, hcw, hk1, hp1, hp2, hp3]
                refine ⟨⟨hE5.trans' (hE6.trans' hE7), i + 1, by omega, ?_, fun j s hj hs' => ?_⟩, ?_⟩
                · rw [w64 (by omega) (by omega)]; rfl
                · by_cases hji : j < i
                  · exact hz j s hji hs'
                  · obtain rfl : j = i := by omega
                    rw [hx] at hs'
                    cases hs'
                    exact ⟨hcn', fun _ => ⟨hkc, fun h => hnp h.2⟩, fun h => by simp [hh] at h, fun h => hc1' h.2.2⟩
                · rw [w64 (by omega) (by omega)]; omega
          · have hli : ((i : Int) = ((ss.length - 1 : Nat) : Int)) = False := eq_false (by omega)
            simp only [↓VD, VP, VT, isAggD, reduceCtorEq, Int.reduceEq, Int.reduceNe, Int.reduceLT, Int.reduceLE, implies_true, Nat.reduceEqDiff, reduceIte, ite_true, ite_false, eq_self, Nat.reduceLT, Nat.reduceLeDiff, Nat.reduceAdd, Nat.reduceMul, Nat.reduceSub, intOf, h0, h4, h5, h19, h20, h21, hh, hli, hcw, hk1]
            refine ⟨⟨hE5.trans' (hE6.trans' hE7), i + 1, by omega, ?_, fun j s hj hs' => ?_⟩, ?_⟩
            · rw [w64 (by omega) (by omega)]; rfl
            · by_cases hji : j < i
              · exact hz j s hji hs'
              · obtain rfl : j = i := by omega
                rw [hx] at hs'
                cases hs'
                exact ⟨hcn', fun _ => ⟨hkc, fun h => hl h.1⟩, fun h => by simp [hh] at h, fun h => hl h.1⟩
            · rw [w64 (by omega) (by omega)]; omega
        · have hk1 : ((ks.length : Int) = ((cntB bm - 1 : Nat) : Int)) = False := eq_false (by omega)
          simp only [↓VD, VP, VT, isAggD, reduceCtorEq, Int.reduceEq, Int.reduceNe, Int.reduceLT, Int.reduceLE, implies_true, Nat.reduceEqDiff, reduceIte, ite_true, ite_false, eq_self, Nat.reduceLT, Nat.reduceLeDiff, Nat.reduceAdd, Nat.reduceMul, Nat.reduceSub, intOf, h0, h4, h5, h19, h20, h21, hh, hcw, hk1]
          refine ⟨⟨False.elim, fun hP => ?_⟩, hE5'.trans' (hE6.trans' hE7)⟩
          have hq := hP.2 i _ hx
          exact hkc (hq.2.1 hh).1
    · refine ⟨⟨fun _ => ⟨by omega, fun j s hs' => hz j s ?_ hs'⟩, fun _ => trivial⟩, hE2.trans' hE3⟩
      have := (List.getElem?_eq_some_iff.1 hs').1
      omega
    

end Go.Proofs.YthlkfjoibjhaiaaGreatDoor

/-! HckC -/
namespace Go.Proofs.YthlkfjoibjhaiaaGreatDoor
set_option maxRecDepth 100000
set_option maxHeartbeats 2000000
open Go Go.RowKit
set_option linter.unusedVariables false
set_option linter.unusedSimpArgs false


/-- A field of an element of a slice. -/
theorem ldF {α : Type} {f : α → List Value} {P : Program} {T : TypeId} {w : World} {b o i j sz q : Nat} {K : Value → Prop} {ds : List α} {x : α} {d : TypeDesc} {v : Value} (hu : P.underlying T = some d) (ha : isAggD d = false)
    (hs : ∀ d ∈ ds, (f d).length = sz) (hc : ∀ j u, (ds.flatMap f)[j]? = some u → w.cell? ⟨b, o + j, none⟩ = some u) (hi : ds[i]? = some x) (hj : (f x)[j]? = some v) (hq : q = o + (i * sz + j)) (hK : K v) : vcLoad P T w b q K := by
  subst hq
  exact ld1 hu ha (hc _ _ (flat_get ds i x hs hi j v hj)) hK
def pairOk (n : Int) (k : List UInt8) (nst : Nat) (ps : List PR) (i : Nat) (a : PR) : Prop :=
  a.k.length ≤ 64 ∧ a.v.length ≤ 256 ∧ (∀ p, 0 < i → ps[i - 1]? = some p → Lib.compareBytes p.k a.k < 0) ∧ (∀ p, ps[0]? = some p → keyD n a.k = keyD n p.k) ∧ (nst : Int) ≤ (comPP n k (keyD n a.k)).1
def pairsP (n : Int) (k : List UInt8) (nst : Nat) (ps : List PR) : Prop := ∀ i a, ps[i]? = some a → pairOk n k nst ps i a

theorem bucket_ok (n : Int) (k : List UInt8) (hk : k.length = 32) (sv pv : Value) (ss : List SR) (ps : List PR) (w : World) (hW : WordsAt w 1) (hs : StepsAt w sv ss) (hp : PairsAt w pv ps) (hpl : ∀ p ∈ ps, p.k.length + 1 ≤ 140737488355328) :
    CallK Tryz.prog 109 [.int .i64 n, .agg (vbs k).toArray, .agg [sv, pv].toArray].toArray w fun v w' => ∃ t, v = .bool t ∧ (t = true ↔ pairsP n k ss.length ps) ∧ Ext w w' := by
  obtain ⟨⟨a, c, rfl, hnc, hcm, hc⟩, hpp⟩ := hp
  obtain ⟨sa, cs, rfl⟩ := slv_of hs.1
  have hsc : ss.length ≤ cs ∧ cs ≤ 9223372036854775807 := by
    obtain ⟨_, _, e, h1, h2, _⟩ := hs.1
    cases e
    exact ⟨h1, h2⟩
  refine enterT Tryz.func109 rfl Tryz.ntmps109 Tryz.results109 rfl (by decide) ?_
  simp only [↓VD, VP, VT, isAggD, reduceCtorEq, Int.reduceEq, Int.reduceNe, Int.reduceLT, Int.reduceLE, implies_true, Nat.reduceEqDiff, reduceIte, ite_true, ite_false, eq_self, Nat.reduceLT, Nat.reduceLeDiff, Nat.reduceAdd, Nat.reduceMul, Nat.reduceSub, intOf]
  intro w1 hN1 w2 hN2
  have s1 := hN1.size
  have s2 := hN2.size
  have hB4 := hN1.blk.ext hN2.ext
  have hB5 := hN2.blk
  have hE2 : Ext w w2 := hN1.ext.trans' hN2.ext
  generalize w1.heap.size = b5 at *
  refine ldAt (pre := [.slice sa ss.length cs]) (post := []) Tryz.underlying24 rfl hB5 rfl ?_
  simp only [↓VD, VP, VT, isAggD, reduceCtorEq, Int.reduceEq, Int.reduceNe, Int.reduceLT, Int.reduceLE, implies_true, Nat.reduceEqDiff, reduceIte, ite_true, ite_false, eq_self, Nat.reduceLT, Nat.reduceLeDiff, Nat.reduceAdd, Nat.reduceMul, Nat.reduceSub, intOf]
  refine loopT (fun s' w' => Ext w2 w' ∧ ∃ i : Nat, i ≤ ps.length ∧ s' 0 = .int .i64 n ∧ s' 4 = .pointer (some ⟨w.heap.size, 0, none⟩) ∧ s' 5 = .pointer (some ⟨b5, 0, none⟩) ∧ s' 16 = .slice a ps.length c ∧ s' 17 = .int .i64 ps.length ∧ s' 18 = .int .i64 i ∧
      ∀ j s, j < i → ps[j]? = some s → pairOk n k ss.length ps j s) (fun s' _ => ps.length - (intOf (s' 18)).toNat) ?_ ?_
  · simp only [↓VD, VP, VT, isAggD, reduceCtorEq, Int.reduceEq, Int.reduceNe, Int.reduceLT, Int.reduceLE, implies_true, Nat.reduceEqDiff, reduceIte, ite_true, ite_false, eq_self, Nat.reduceLT, Nat.reduceLeDiff, Nat.reduceAdd, Nat.reduceMul, Nat.reduceSub, intOf]
    exact ⟨Ext.rfl' w2, 0, by omega, rfl, fun j s h => by omega⟩
  · rintro s3 w3 ⟨hE3, i, hi, h0, h4, h5, h16, h17, h18, hz⟩
    simp only [↓VD, VP, VT, isAggD, reduceCtorEq, Int.reduceEq, Int.reduceNe, Int.reduceLT, Int.reduceLE, implies_true, Nat.reduceEqDiff, reduceIte, ite_true, ite_false, eq_self, Nat.reduceLT, Nat.reduceLeDiff, Nat.reduceAdd, Nat.reduceMul, Nat.reduceSub, intOf, h0, h4, h5, h16, h17, h18]
    refine ⟨fun hlt => ?_, fun hge => ?_⟩
    · have hlt' : i < ps.length := by omega
      rcases hc with hc | ⟨b, o, rfl, hc⟩
      · exfalso
        cases ps with
        | nil => simp at hlt'
        | cons d ds => simp [PR.cells] at hc
      obtain ⟨x, hx⟩ : ∃ x, ps[i]? = some x := ⟨_, List.getElem?_eq_getElem hlt'⟩
      obtain ⟨hxk, hxv⟩ := hpp x (List.mem_of_getElem? hx)
      have hcW : ∀ {W : World}, Ext w2 W → ∀ j u, (ps.flatMap PR.cells)[j]? = some u → W.cell? ⟨b, o + j, none⟩ = some u := fun hE j u hj => by rw [(hE2.trans' hE).cell (block_lt_of_cell (hc j u hj))]; exact hc j u hj
      simp only [↓VD, VP, VT, isAggD, reduceCtorEq, Int.reduceEq, Int.reduceNe, Int.reduceLT, Int.reduceLE, implies_true, Nat.reduceEqDiff, reduceIte, ite_true, ite_false, eq_self, Nat.reduceLT, Nat.reduceLeDiff, Nat.reduceAdd, Nat.reduceMul, Nat.reduceSub, intOf]
      refine ⟨by omega, by omega, ldE (f := PR.cells) c47 Tryz.underlying47 rfl (fun d h => rfl) (hcW hE3) hx ?_⟩
      simp only [↓VD, VP, VT, isAggD, reduceCtorEq, Int.reduceEq, Int.reduceNe, Int.reduceLT, Int.reduceLE, implies_true, Nat.reduceEqDiff, reduceIte, ite_true, ite_false, eq_self, Nat.reduceLT, Nat.reduceLeDiff, Nat.reduceAdd, Nat.reduceMul, Nat.reduceSub, intOf]
      intro w4 hN4
      obtain ⟨ak, ck, hkv⟩ := slv_of hxk
      obtain ⟨av, cv, hvv⟩ := slv_of hxv
      refine stAll hN4.blk (vs := x.cells) rfl (by rw [c47]; decide) (by rw [c47]; rfl) (by rw [c47]; rfl) (by rw [PR.cells, hkv, hvv]; simp [oneCellV]) (fun w5 hP5 => ?_)
      simp only [↓VQ, VP, VT, isAggD, reduceCtorEq, Int.reduceEq, Int.reduceNe, Int.reduceLT, Int.reduceLE, implies_true, Nat.reduceEqDiff, reduceIte, ite_true, ite_false, eq_self, Nat.reduceLT, Nat.reduceLeDiff, Nat.reduceAdd, Nat.reduceMul, Nat.reduceSub, intOf, h0, h4, h5, h16, h17, h18]
      have hE5 : Ext w2 w5 := hE3.trans' (hN4.ext.trans (hP5.below (Nat.le_refl _)))
      have hE5' : Ext w w5 := hE2.trans' hE5
      obtain ⟨kv, vv, xk, xv⟩ := x
      simp only at hkv hvv hxk hxv
      subst hkv hvv
      have hB8 : Blk w5 w3.heap.size 47 [.slice ak xk.length ck, .slice av xv.length cv] := hP5.blk
      replace hB4 := hB4.ext hE5
      replace hB5 := hB5.ext hE5
      have s3 := hE3.size
      generalize w3.heap.size = b8 at *
      have hxl : xk.length ≤ 9223372036854775807 := by
        obtain ⟨_, _, e, h1, h2, _⟩ := hxk
        cases e
        omega
      rw [v_seq]
      refine joinT (fun s' W' => Ext w5 W' ∧ s' 0 = .int .i64 n ∧ s' 4 = .pointer (some ⟨w.heap.size, 0, none⟩) ∧ s' 5 = .pointer (some ⟨b5, 0, none⟩) ∧ s' 8 = .pointer (some ⟨b8, 0, none⟩) ∧ s' 16 = .slice (some ⟨b, o, none⟩) ps.length c ∧ s' 17 = .int .i64 ps.length ∧ s' 18 = .int .i64 i ∧
        xk.length ≤ 64 ∧ xv.length ≤ 256 ∧ ∀ p, 0 < i → ps[i - 1]? = some p → Lib.compareBytes p.k xk < 0) ?_ ?_
      · simp only [↓VD, VP, VT, isAggD, reduceCtorEq, Int.reduceEq, Int.reduceNe, Int.reduceLT, Int.reduceLE, implies_true, Nat.reduceEqDiff, reduceIte, ite_true, ite_false, eq_self, Nat.reduceLT, Nat.reduceLeDiff, Nat.reduceAdd, Nat.reduceMul, Nat.reduceSub, intOf, h0, h4, h5, h16, h17, h18]
        refine drawT mixed (by decide +kernel) ?_
        simp only [↓VD, VP, VT, isAggD, reduceCtorEq, Int.reduceEq, Int.reduceNe, Int.reduceLT, Int.reduceLE, implies_true, Nat.reduceEqDiff, reduceIte, ite_true, ite_false, eq_self, Nat.reduceLT, Nat.reduceLeDiff, Nat.reduceAdd, Nat.reduceMul, Nat.reduceSub, intOf, h0, h4, h5, h16, h17, h18]
        refine ldAt (pre := []) (post := [.slice av xv.length cv]) Tryz.underlying22 rfl hB8 rfl ?_
        by_cases hk1 : 64 < xk.length
        · have f1 : (64 < (xk.length : Int)) = True := eq_true (by omega)
          simp only [↓VD, VP, VT, isAggD, reduceCtorEq, Int.reduceEq, Int.reduceNe, Int.reduceLT, Int.reduceLE, implies_true, Nat.reduceEqDiff, reduceIte, ite_true, ite_false, eq_self, Nat.reduceLT, Nat.reduceLeDiff, Nat.reduceAdd, Nat.reduceMul, Nat.reduceSub, intOf, h0, h4, h5, h16, h17, h18, f1]
          intro w6 hE6
          refine ⟨⟨False.elim, fun hP => ?_⟩, hE5'.trans' hE6⟩
          have := (hP i _ hx).1
          simp only at this
          omega
        · have f1 : (64 < (xk.length : Int)) = False := eq_false (by omega)
          simp only [↓VD, VP, VT, isAggD, reduceCtorEq, Int.reduceEq, Int.reduceNe, Int.reduceLT, Int.reduceLE, implies_true, Nat.reduceEqDiff, reduceIte, ite_true, ite_false, eq_self, Nat.reduceLT, Nat.reduceLeDiff, Nat.reduceAdd, Nat.reduceMul, Nat.reduceSub, intOf, h0, h4, h5, h16, h17, h18, f1]
          refine ldAt (pre := [.slice ak xk.length ck]) (post := []) Tryz.underlying22 rfl hB8 rfl ?_
          by_cases hv1 : 256 < xv.length
          · have f2 : (256 < (xv.length : Int)) = True := eq_true (by omega)
            simp only [↓VD, VP, VT, isAggD, reduceCtorEq, Int.reduceEq, Int.reduceNe, Int.reduceLT, Int.reduceLE, implies_true, Nat.reduceEqDiff, reduceIte, ite_true, ite_false, eq_self, Nat.reduceLT, Nat.reduceLeDiff, Nat.reduceAdd, Nat.reduceMul, Nat.reduceSub, intOf, h0, h4, h5, h16, h17, h18, f1, f2]
            intro w6 hE6
            refine ⟨⟨False.elim, fun hP => ?_⟩, hE5'.trans' hE6⟩
            have := (hP i _ hx).2.1
            simp only at this
            omega
          · have f2 : (256 < (xv.length : Int)) = False := eq_false (by omega)
            by_cases hi0 : i = 0
            · have f3 : (0 < (i : Int)) = False := eq_false (by omega)
              simp only [↓VD, VP, VT, isAggD, reduceCtorEq, Int.reduceEq, Int.reduceNe, Int.reduceLT, Int.reduceLE, implies_true, Nat.reduceEqDiff, reduceIte, ite_true, ite_false, eq_self, Nat.reduceLT, Nat.reduceLeDiff, Nat.reduceAdd, Nat.reduceMul, Nat.reduceSub, intOf, h0, h4, h5, h16, h17, h18, f1, f2, f3]
              intro w6 hE6
              exact ⟨hE6, by omega, by omega, fun p h => by omega⟩
            · have f3 : (0 < (i : Int)) = True := eq_true (by omega)
              have f4 : IntKind.i64.wrap ((i : Int) - 1) = ((i - 1 : Nat) : Int) := by rw [w64 (by omega) (by omega)]; omega
              obtain ⟨y, hy⟩ : ∃ y, ps[i - 1]? = some y := ⟨_, List.getElem?_eq_getElem (by omega)⟩
              obtain ⟨hyk, hyv⟩ := hpp y (List.mem_of_getElem? hy)
              simp only [↓VD, VP, VT, isAggD, reduceCtorEq, Int.reduceEq, Int.reduceNe, Int.reduceLT, Int.reduceLE, implies_true, Nat.reduceEqDiff, reduceIte, ite_true, ite_false, eq_self, Nat.reduceLT, Nat.reduceLeDiff, Nat.reduceAdd, Nat.reduceMul, Nat.reduceSub, intOf, h0, h4, h5, h16, h17, h18, f1, f2, f3]
              refine ldAt (pre := [.slice sa ss.length cs]) (post := []) Tryz.underlying24 rfl hB5 rfl ?_
              simp only [↓VD, VP, VT, isAggD, reduceCtorEq, Int.reduceEq, Int.reduceNe, Int.reduceLT, Int.reduceLE, implies_true, Nat.reduceEqDiff, reduceIte, ite_true, ite_false, eq_self, Nat.reduceLT, Nat.reduceLeDiff, Nat.reduceAdd, Nat.reduceMul, Nat.reduceSub, intOf, h0, h4, h5, h16, h17, h18, f1, f2, f3, f4]
              refine ⟨by omega, by omega, ldF (f := PR.cells) (sz := 2) (j := 0) Tryz.underlying22 rfl (fun d h => rfl) (hcW hE5) hy rfl (by omega) ?_⟩
              simp only [↓VD, VP, VT, isAggD, reduceCtorEq, Int.reduceEq, Int.reduceNe, Int.reduceLT, Int.reduceLE, implies_true, Nat.reduceEqDiff, reduceIte, ite_true, ite_false, eq_self, Nat.reduceLT, Nat.reduceLeDiff, Nat.reduceAdd, Nat.reduceMul, Nat.reduceSub, intOf, h0, h4, h5, h16, h17, h18, f1, f2, f3, f4]
              refine ldAt (pre := []) (post := [.slice av xv.length cv]) Tryz.underlying22 rfl hB8 rfl ?_
              obtain ⟨ay, cy, hye⟩ := slv_of hyk
              simp only [↓VD, VP, VT, isAggD, reduceCtorEq, Int.reduceEq, Int.reduceNe, Int.reduceLT, Int.reduceLE, implies_true, Nat.reduceEqDiff, reduceIte, ite_true, ite_false, eq_self, Nat.reduceLT, Nat.reduceLeDiff, Nat.reduceAdd, Nat.reduceMul, Nat.reduceSub, intOf, h0, h4, h5, h16, h17, h18, f1, f2, f3, f4, hye]
              refine qcall _ (fun w' hw' => (BCompare_ok y.k xk _ _ w' ((hye ▸ hyk).ext (hE5'.trans' hw')) (hxk.ext (hE5'.trans' hw'))).mono fun r w'' h => ⟨h.1, h.2 ▸ Ext.rfl' _⟩) ?_
              by_cases hcm1 : 0 ≤ Lib.compareBytes y.k xk
              · have f5 : (0 ≤ Lib.compareBytes y.k xk) = True := eq_true hcm1
                simp only [↓VD, VP, VT, isAggD, reduceCtorEq, Int.reduceEq, Int.reduceNe, Int.reduceLT, Int.reduceLE, implies_true, Nat.reduceEqDiff, reduceIte, ite_true, ite_false, eq_self, Nat.reduceLT, Nat.reduceLeDiff, Nat.reduceAdd, Nat.reduceMul, Nat.reduceSub, intOf, h0, h4, h5, h16, h17, h18, f1, f2, f3, f4, f5]
                intro w6 hE6
                refine ⟨⟨False.elim, fun hP => ?_⟩, hE5'.trans' hE6⟩
                have := (hP i _ hx).2.2.1 y (by omega) hy
                simp only at this
                omega
              · have f5 : (0 ≤ Lib.compareBytes y.k xk) = False := eq_false hcm1
                simp only [↓VD, VP, VT, isAggD, reduceCtorEq, Int.reduceEq, Int.reduceNe, Int.reduceLT, Int.reduceLE, implies_true, Nat.reduceEqDiff, reduceIte, ite_true, ite_false, eq_self, Nat.reduceLT, Nat.reduceLeDiff, Nat.reduceAdd, Nat.reduceMul, Nat.reduceSub, intOf, h0, h4, h5, h16, h17, h18, f1, f2, f3, f4, f5]
                intro w6 hE6
                refine ⟨hE6, by omega, by omega, fun p _ hp => ?_⟩
                rw [hy] at hp
                cases hp
                omega
      · rintro s6 w6 ⟨hE6, g0, g4, g5, g8, g16, g17, g18, hkl, hvl, hcmp⟩
        obtain ⟨y, hy⟩ : ∃ y, ps[0]? = some y := ⟨_, List.getElem?_eq_getElem (by omega)⟩
        obtain ⟨hyk, hyv⟩ := hpp y (List.mem_of_getElem? hy)
        have hyl := hpl y (List.mem_of_getElem? hy)
        have hE6' := hE5'.trans' hE6
        have hE26 := hE5.trans' hE6
        replace hB4 := hB4.ext hE6
        replace hB5 := hB5.ext hE6
        replace hB8 := hB8.ext hE6
        have z4 := hB4.lt
        simp only [↓VD, VP, VT, isAggD, reduceCtorEq, Int.reduceEq, Int.reduceNe, Int.reduceLT, Int.reduceLE, implies_true, Nat.reduceEqDiff, reduceIte, ite_true, ite_false, eq_self, Nat.reduceLT, Nat.reduceLeDiff, Nat.reduceAdd, Nat.reduceMul, Nat.reduceSub, intOf, g0, g4, g5, g8, g16, g17, g18]
        refine ldAt (pre := []) (post := [.slice av xv.length cv]) Tryz.underlying22 rfl hB8 rfl ?_
        simp only [↓VD, VP, VT, isAggD, reduceCtorEq, Int.reduceEq, Int.reduceNe, Int.reduceLT, Int.reduceLE, implies_true, Nat.reduceEqDiff, reduceIte, ite_true, ite_false, eq_self, Nat.reduceLT, Nat.reduceLeDiff, Nat.reduceAdd, Nat.reduceMul, Nat.reduceSub, intOf, g0, g4, g5, g8, g16, g17, g18]
        refine (Key_ok n xk _ w6 (hW.ext hE6') (hxk.ext hE6') (by omega)).mono ?_
        rintro _ w7 ⟨rfl, hE7⟩
        simp only [↓VD, VP, VT, isAggD, reduceCtorEq, Int.reduceEq, Int.reduceNe, Int.reduceLT, Int.reduceLE, implies_true, Nat.reduceEqDiff, reduceIte, ite_true, ite_false, eq_self, Nat.reduceLT, Nat.reduceLeDiff, Nat.reduceAdd, Nat.reduceMul, Nat.reduceSub, intOf, g0, g4, g5, g8, g16, g17, g18]
        intro w8 hN8
        have z7 := hE7.size
        have z8 := hN8.size
        refine stAll hN8.blk rfl (by rw [c28]; decide) (by rw [c28, vbs_len, sumR_len]) (by rw [c28]; simp) (vbs_one _) (fun w9 hP9 => ?_)
        have hE9 : Ext w6 w9 := hE7.trans' (hN8.ext.trans (hP9.below (Nat.le_refl _)))
        have hB9 := hP9.blk
        have z9 := hP9.size
        generalize w7.heap.size = b9 at *
        simp only [↓VD, VP, VT, isAggD, reduceCtorEq, Int.reduceEq, Int.reduceNe, Int.reduceLT, Int.reduceLE, implies_true, Nat.reduceEqDiff, reduceIte, ite_true, ite_false, eq_self, Nat.reduceLT, Nat.reduceLeDiff, Nat.reduceAdd, Nat.reduceMul, Nat.reduceSub, intOf, g0, g4, g5, g8, g16, g17, g18]
        refine ldAt (pre := [.slice sa ss.length cs]) (post := []) Tryz.underlying24 rfl (hB5.ext hE9) rfl ?_
        simp only [↓VD, VP, VT, isAggD, reduceCtorEq, Int.reduceEq, Int.reduceNe, Int.reduceLT, Int.reduceLE, implies_true, Nat.reduceEqDiff, reduceIte, ite_true, ite_false, eq_self, Nat.reduceLT, Nat.reduceLeDiff, Nat.reduceAdd, Nat.reduceMul, Nat.reduceSub, intOf, g0, g4, g5, g8, g16, g17, g18]
        refine ⟨by omega, ldF (f := PR.cells) (sz := 2) (i := 0) (j := 0) Tryz.underlying22 rfl (fun d h => rfl) (hcW (hE26.trans' hE9)) hy rfl (by simp) ?_⟩
        obtain ⟨ay, cy, hye⟩ := slv_of hyk
        simp only [↓VD, VP, VT, isAggD, reduceCtorEq, Int.reduceEq, Int.reduceNe, Int.reduceLT, Int.reduceLE, implies_true, Nat.reduceEqDiff, reduceIte, ite_true, ite_false, eq_self, Nat.reduceLT, Nat.reduceLeDiff, Nat.reduceAdd, Nat.reduceMul, Nat.reduceSub, intOf, g0, g4, g5, g8, g16, g17, g18]
        refine (Key_ok n y.k _ w9 (hW.ext (hE6'.trans' hE9)) (hyk.ext (hE6'.trans' hE9)) hyl).mono ?_
        rintro _ w10 ⟨rfl, hE10⟩
        simp only [↓VD, VP, VT, isAggD, reduceCtorEq, Int.reduceEq, Int.reduceNe, Int.reduceLT, Int.reduceLE, implies_true, Nat.reduceEqDiff, reduceIte, ite_true, ite_false, eq_self, Nat.reduceLT, Nat.reduceLeDiff, Nat.reduceAdd, Nat.reduceMul, Nat.reduceSub, intOf, g0, g4, g5, g8, g16, g17, g18]
        intro w11 hN11
        have z10 := hE10.size
        have z11 := hN11.size
        refine stAll hN11.blk rfl (by rw [c28]; decide) (by rw [c28, vbs_len, sumR_len]) (by rw [c28]; simp) (vbs_one _) (fun w12 hP12 => ?_)
        have hE12 : Ext w9 w12 := hE10.trans' (hN11.ext.trans (hP12.below (Nat.le_refl _)))
        have hB11 := hP12.blk
        have hB9' := hB9.ext hE12
        have hE69 := hE9.trans' hE12
        have hB4' := hB4.ext hE69
        have hB5' := hB5.ext hE69
        generalize w10.heap.size = b11 at *
        have lk1 := sumR_len n (2 :: xk)
        have lk2 := sumR_len n (2 :: y.k)
        simp only [↓VD, VP, VT, isAggD, reduceCtorEq, Int.reduceEq, Int.reduceNe, Int.reduceLT, Int.reduceLE, implies_true, Nat.reduceEqDiff, reduceIte, ite_true, ite_false, eq_self, Nat.reduceLT, Nat.reduceLeDiff, Nat.reduceAdd, Nat.reduceMul, Nat.reduceSub, intOf, g0, g4, g5, g8, g16, g17, g18]
        refine ldA Tryz.underlying28 rfl hB4' (by rw [vbs_len, hk, c28]) ?_
        simp only [↓VD, VP, VT, isAggD, reduceCtorEq, Int.reduceEq, Int.reduceNe, Int.reduceLT, Int.reduceLE, implies_true, Nat.reduceEqDiff, reduceIte, ite_true, ite_false, eq_self, Nat.reduceLT, Nat.reduceLeDiff, Nat.reduceAdd, Nat.reduceMul, Nat.reduceSub, intOf, g0, g4, g5, g8, g16, g17, g18]
        refine ldA Tryz.underlying28 rfl hB9' (by rw [vbs_len, lk1, c28]) ?_
        simp only [↓VD, VP, VT, isAggD, reduceCtorEq, Int.reduceEq, Int.reduceNe, Int.reduceLT, Int.reduceLE, implies_true, Nat.reduceEqDiff, reduceIte, ite_true, ite_false, eq_self, Nat.reduceLT, Nat.reduceLeDiff, Nat.reduceAdd, Nat.reduceMul, Nat.reduceSub, intOf, g0, g4, g5, g8, g16, g17, g18]
        refine (Common_ok n k (sumR n (2 :: xk)) hk lk1 w12).mono ?_
        rintro _ w13 ⟨rfl, hE13⟩
        have hEZ : Ext w2 w13 := hE26.trans' (hE69.trans' hE13)
        simp only [↓VD, VP, VT, isAggD, reduceCtorEq, Int.reduceEq, Int.reduceNe, Int.reduceLT, Int.reduceLE, implies_true, Nat.reduceEqDiff, reduceIte, ite_true, ite_false, eq_self, Nat.reduceLT, Nat.reduceLeDiff, Nat.reduceAdd, Nat.reduceMul, Nat.reduceSub, intOf, g0, g4, g5, g8, g16, g17, g18]
        refine ldA Tryz.underlying28 rfl (hB9'.ext hE13) (by rw [vbs_len, lk1, c28]) ?_
        simp only [↓VD, VP, VT, isAggD, reduceCtorEq, Int.reduceEq, Int.reduceNe, Int.reduceLT, Int.reduceLE, implies_true, Nat.reduceEqDiff, reduceIte, ite_true, ite_false, eq_self, Nat.reduceLT, Nat.reduceLeDiff, Nat.reduceAdd, Nat.reduceMul, Nat.reduceSub, intOf, g0, g4, g5, g8, g16, g17, g18]
        refine ldA Tryz.underlying28 rfl (hB11.ext hE13) (by rw [vbs_len, lk2, c28]) ?_
        simp only [↓VD, VP, VT, isAggD, reduceCtorEq, Int.reduceEq, Int.reduceNe, Int.reduceLT, Int.reduceLE, implies_true, Nat.reduceEqDiff, reduceIte, ite_true, ite_false, eq_self, Nat.reduceLT, Nat.reduceLeDiff, Nat.reduceAdd, Nat.reduceMul, Nat.reduceSub, intOf, g0, g4, g5, g8, g16, g17, g18]
        refine eqd_lit _ _ _ _ _ _ Tryz.underlying5 c5 lk1 lk2 ?_
        by_cases hkk : sumR n (2 :: xk) = sumR n (2 :: y.k)
        · have f6 : (sumR n (2 :: xk) = sumR n (2 :: y.k)) = True := eq_true hkk
          simp only [↓VD, VP, VT, isAggD, reduceCtorEq, Int.reduceEq, Int.reduceNe, Int.reduceLT, Int.reduceLE, implies_true, Nat.reduceEqDiff, reduceIte, ite_true, ite_false, eq_self, Nat.reduceLT, Nat.reduceLeDiff, Nat.reduceAdd, Nat.reduceMul, Nat.reduceSub, intOf, g0, g4, g5, g8, g16, g17, g18, f6]
          refine ldAt (pre := []) (post := [.slice (some ⟨b, o, none⟩) ps.length c]) Tryz.underlying23 rfl (hB5'.ext hE13) rfl ?_
          simp only [↓VD, VP, VT, isAggD, reduceCtorEq, Int.reduceEq, Int.reduceNe, Int.reduceLT, Int.reduceLE, implies_true, Nat.reduceEqDiff, reduceIte, ite_true, ite_false, eq_self, Nat.reduceLT, Nat.reduceLeDiff, Nat.reduceAdd, Nat.reduceMul, Nat.reduceSub, intOf, g0, g4, g5, g8, g16, g17, g18, f6]
          refine ⟨fun hlt9 => ⟨⟨False.elim, fun hP => ?_⟩, hE2.trans' hEZ⟩, fun hge9 => ⟨⟨hEZ, i + 1, by omega, by rw [w64 (by omega) (by omega)]; rfl, fun j s hj hs' => ?_⟩, by rw [w64 (by omega) (by omega), h18]; simp only [intOf]; omega⟩⟩
          · have := (hP i _ hx).2.2.2.2
            simp only [keyD] at this
            omega
          · by_cases hji : j < i
            · exact hz j s hji hs'
            · obtain rfl : j = i := by omega
              rw [hx] at hs'
              cases hs'
              refine ⟨hkl, hvl, hcmp, fun p hp => ?_, by simp only [keyD]; omega⟩
              rw [hy] at hp
              cases hp
              exact hkk
        · have f6 : (sumR n (2 :: xk) = sumR n (2 :: y.k)) = False := eq_false hkk
          simp only [↓VD, VP, VT, isAggD, reduceCtorEq, Int.reduceEq, Int.reduceNe, Int.reduceLT, Int.reduceLE, implies_true, Nat.reduceEqDiff, reduceIte, ite_true, ite_false, eq_self, Nat.reduceLT, Nat.reduceLeDiff, Nat.reduceAdd, Nat.reduceMul, Nat.reduceSub, intOf, g0, g4, g5, g8, g16, g17, g18, f6]
          refine ⟨⟨False.elim, fun hP => hkk ((hP i _ hx).2.2.2.1 y hy)⟩, hE2.trans' hEZ⟩
    · refine ⟨⟨fun _ => fun j s hs' => hz j s ?_ hs', fun _ => trivial⟩, hE2.trans' hE3⟩
      have := (List.getElem?_eq_some_iff.1 hs').1
      omega

end Go.Proofs.YthlkfjoibjhaiaaGreatDoor

/-! HckD -/
namespace Go.Proofs.YthlkfjoibjhaiaaGreatDoor
set_option maxRecDepth 100000
set_option maxHeartbeats 2000000
open Go Go.RowKit
set_option linter.unusedVariables false
set_option linter.unusedSimpArgs false

/-! ### What RootOf answers -/
def RootE (n : Int) (key : List UInt8) (ss : List SR) (ps : List PR) (e : Nat) : Prop :=
  (widB n = false → e = 1) ∧ (widB n = true → 64 < key.length → e = 2) ∧ (widB n = true → key.length ≤ 64 → ¬ kidsP n ss → e = 3) ∧
  (widB n = true → key.length ≤ 64 → kidsP n ss → ¬ (branchesP n (keyD n key) ss ps.length ∧ pairsP n (keyD n key) ss.length ps) → e = 10) ∧
  (widB n = true → key.length ≤ 64 → kidsP n ss → branchesP n (keyD n key) ss ps.length → pairsP n (keyD n key) ss.length ps → e = 0)
theorem RootE.uniq {n : Int} {key : List UInt8} {ss : List SR} {ps : List PR} {e f : Nat} (h : RootE n key ss ps e) (g : RootE n key ss ps f) : e = f := by
  obtain ⟨h1, h2, h3, h4, h5⟩ := h
  obtain ⟨g1, g2, g3, g4, g5⟩ := g
  cases hw : widB n
  · rw [h1 hw, g1 hw]
  by_cases hk : 64 < key.length
  · rw [h2 hw hk, g2 hw hk]
  have hk : key.length ≤ 64 := by omega
  by_cases hq : kidsP n ss
  · by_cases hb : branchesP n (keyD n key) ss ps.length ∧ pairsP n (keyD n key) ss.length ps
    · rw [h5 hw hk hq hb.1 hb.2, g5 hw hk hq hb.1 hb.2]
    · rw [h4 hw hk hq hb, g4 hw hk hq hb]
  · rw [h3 hw hk hq, g3 hw hk hq]
theorem RootE.ok {n : Int} {key : List UInt8} {ss : List SR} {ps : List PR} (h : RootE n key ss ps 0) : widB n = true ∧ key.length ≤ 64 ∧ kidsP n ss ∧ branchesP n (keyD n key) ss ps.length ∧ pairsP n (keyD n key) ss.length ps := by
  obtain ⟨h1, h2, h3, h4, h5⟩ := h
  cases hw : widB n
  · cases h1 hw
  by_cases hk : 64 < key.length
  · cases h2 hw hk
  have hk : key.length ≤ 64 := by omega
  by_cases hq : kidsP n ss
  · by_cases hb : branchesP n (keyD n key) ss ps.length ∧ pairsP n (keyD n key) ss.length ps
    · exact ⟨rfl, hk, hq, hb.1, hb.2⟩
    · cases h4 hw hk hq hb
  · cases h3 hw hk hq
theorem RootE.mk (n : Int) (key : List UInt8) (ss : List SR) (ps : List PR) (hw : widB n = true) (hk : key.length ≤ 64) (hq : kidsP n ss) (hb : branchesP n (keyD n key) ss ps.length) (hp : pairsP n (keyD n key) ss.length ps) : RootE n key ss ps 0 :=
  ⟨fun h => (by rw [hw] at h; cases h), fun _ h => (by omega), fun _ _ h => absurd hq h, fun _ _ _ h => absurd ⟨hb, hp⟩ h, fun _ _ _ _ _ => rfl⟩
def valOf (ps : List PR) (key : List UInt8) : Option (List UInt8) := (ps.find? fun p => decide (p.k = key)).map (·.v)
def outD (e : Nat) (n : Int) (key : List UInt8) (ss : List SR) (ps : List PR) : List UInt8 := if e = 0 then upF n (keyD n key) (backL ss) (up0 n (ps.map PR.dat)) else List.replicate 32 0
def outV (e : Nat) (key : List UInt8) (ps : List PR) : List UInt8 := if e = 0 then (valOf ps key).getD [] else []
def outT (e : Nat) (key : List UInt8) (ps : List PR) : Bool := decide (e = 0) && (valOf ps key).isSome
theorem outD_len (e : Nat) (n : Int) (key : List UInt8) (ss : List SR) (ps : List PR) : (outD e n key ss ps).length = 32 := by
  unfold outD
  split
  · exact upF_len _ _ _ _ (up0_len _ _)
  · simp

/-! ### Sizes -/
theorem rank_lt1 {bm : Nat} {c : Int} (h : hasB bm c = true) : rankB bm c + 1 ≤ cntB bm := by
  unfold rankB cntB
  refine List.length_filter_lt_length_iff_exists.2 ⟨c.toNat, ?_, ?_⟩
  · simp only [hasB, inB, Bool.and_eq_true, decide_eq_true_eq] at h
    simp only [setB, List.mem_filter, List.mem_range]
    exact ⟨by omega, h.2⟩
  · simp only [hasB, inB, Bool.and_eq_true, decide_eq_true_eq] at h
    simp only [decide_eq_true_eq]
    omega
theorem pairsB_le : ∀ (ps : List (List UInt8 × List UInt8)), (∀ p ∈ ps, p.1.length ≤ 64 ∧ p.2.length ≤ 256) → (pairsB ps).length ≤ ps.length * 340
  | [], _ => by simp [pairsB]
  | p :: ps, h => by
    have ih := pairsB_le ps (fun q hq => h q (by simp [hq]))
    have h1 := h p (by simp)
    have u1 := uvarP_len10 (n := p.1.length) (by omega)
    have u2 := uvarP_len10 (n := p.2.length) (by omega)
    have e : pairsB (p :: ps) = (blobP p.1 ++ blobP p.2) ++ pairsB ps := by simp [pairsB]
    rw [e]
    simp only [List.length_append, blobP, List.length_cons]
    omega
theorem bucketP_le (ps : List (List UInt8 × List UInt8)) (h : ∀ p ∈ ps, p.1.length ≤ 64 ∧ p.2.length ≤ 256) (hl : ps.length ≤ 400000000000) : (bucketP ps).length + 16 ≤ 140737488355328 := by
  have h1 := pairsB_le ps h
  have u1 := uvarP_len10 (n := ps.length) (by omega)
  simp only [bucketP, List.length_cons, List.length_append]
  omega
theorem RootE.sizes {n : Int} {key : List UInt8} {ss : List SR} {ps : List PR} (h : RootE n key ss ps 0) (hpn : ps.length ≤ 400000000000) :
    (bucketP (ps.map PR.dat)).length + 16 ≤ 140737488355328 ∧ (∀ s ∈ ss, s.ks.length + 1 ≤ 4000000000) ∧ ∀ (i : Nat) (s : SR), ss[i]? = some s → hasB s.bm (atP n (keyD n key) i).1 = true → rankB s.bm (atP n (keyD n key) i).1 ≤ s.ks.length := by
  obtain ⟨hw, hk, hq, hb, hp⟩ := h.ok
  refine ⟨bucketP_le _ ?_ (by rw [List.length_map]; exact hpn), ?_, ?_⟩
  · intro p hpm
    obtain ⟨q, hq', rfl⟩ := List.mem_map.1 hpm
    obtain ⟨i, hi⟩ := List.getElem?_of_mem hq'
    exact ⟨(hp i q hi).1, (hp i q hi).2.1⟩
  · intro s hs
    obtain ⟨i, hi⟩ := List.getElem?_of_mem hs
    have h1 := hb.2 i s hi
    have hc := cnt_le s.bm
    cases hh : hasB s.bm (atP n (keyD n key) i).1
    · have := (h1.2.2.1 hh).2.1; omega
    · have := (h1.2.1 hh).1; omega
  · intro i s hi hh
    have h1 := ((hb.2 i s hi).2.1 hh).1
    have h2 := rank_lt1 hh
    omega

theorem RootOf_ok (n : Int) (key : List UInt8) (kv sv pv : Value) (ss : List SR) (ps : List PR) (w : World) (hW : WordsAt w 1) (hkv : SlB w kv key) (hkl : key.length + 1 ≤ 140737488355328) (hs : StepsAt w sv ss) (hp : PairsAt w pv ps)
    (hpl : ∀ p ∈ ps, p.k.length + 1 ≤ 140737488355328) (hpn : ps.length ≤ 400000000000) :
    CallK Tryz.prog 19 [.int .i64 n, kv, .agg [sv, pv].toArray].toArray w fun r w' => ∃ e v, r = .tuple [.agg (vbs (outD e n key ss ps)).toArray, v, .bool (outT e key ps), .int .i64 e].toArray ∧ RootE n key ss ps e ∧
      Own w' w.heap.size 5 1 v (outV e key ps).length (vbs (outV e key ps)) ∧ Ext w w' := by
  obtain ⟨ak, ck, rfl⟩ := slv_of hkv
  obtain ⟨sa, cs, rfl⟩ := slv_of hs.1
  obtain ⟨pa, cp, rfl⟩ := slv_of hp.1
  refine enterT Tryz.func19 rfl Tryz.ntmps19 Tryz.results19 rfl (by decide) ?_
  simp only [↓VD, VP, VT, isAggD, reduceCtorEq, Int.reduceEq, Int.reduceNe, Int.reduceLT, Int.reduceLE, implies_true, Nat.reduceEqDiff, reduceIte, ite_true, ite_false, eq_self, Nat.reduceLT, Nat.reduceLeDiff, Nat.reduceAdd, Nat.reduceMul, Nat.reduceSub, intOf]
  intro w1 hN1 w2 hN2
  rw [vbs_rep] at hN2
  have s1 := hN1.size
  have s2 := hN2.size
  have hB5 := hN1.blk.ext hN2.ext
  have hB6 := hN2.blk
  have hE2 : Ext w w2 := hN1.ext.trans' hN2.ext
  generalize w1.heap.size = b6 at *
  refine (Key_ok n key _ w2 (hW.ext hE2) (hkv.ext hE2) hkl).mono ?_
  rintro _ w3 ⟨rfl, hE3⟩
  simp only [↓VD, VP, VT, isAggD, reduceCtorEq, Int.reduceEq, Int.reduceNe, Int.reduceLT, Int.reduceLE, implies_true, Nat.reduceEqDiff, reduceIte, ite_true, ite_false, eq_self, Nat.reduceLT, Nat.reduceLeDiff, Nat.reduceAdd, Nat.reduceMul, Nat.reduceSub, intOf]
  intro w4 hN4
  have s3 := hE3.size
  have s4 := hN4.size
  have lkd := sumR_len n (2 :: key)
  refine stAll hN4.blk rfl (by rw [c28]; decide) (by rw [c28, vbs_len, sumR_len]) (by rw [c28]; simp) (vbs_one _) (fun w5 hP5 => ?_)
  have hE5 : Ext w2 w5 := hE3.trans' (hN4.ext.trans (hP5.below (Nat.le_refl _)))
  have hB10 := hP5.blk
  have s5 := hP5.size
  generalize w3.heap.size = b10 at *
  replace hB5 := hB5.ext hE5
  replace hB6 := hB6.ext hE5
  have hE5' := hE2.trans' hE5
  simp only [↓VQ, VP, VT, isAggD, reduceCtorEq, Int.reduceEq, Int.reduceNe, Int.reduceLT, Int.reduceLE, implies_true, Nat.reduceEqDiff, reduceIte, ite_true, ite_false, eq_self, Nat.reduceLT, Nat.reduceLeDiff, Nat.reduceAdd, Nat.reduceMul, Nat.reduceSub, intOf]
  rw [v_seq]
  refine joinT (fun s' W' => Ext w5 W' ∧ s' 0 = .int .i64 n ∧ s' 1 = .slice ak key.length ck ∧ s' 5 = .pointer (some ⟨w.heap.size, 0, none⟩) ∧ s' 6 = .pointer (some ⟨b6, 0, none⟩) ∧ s' 10 = .pointer (some ⟨b10, 0, none⟩) ∧ ∃ e : Nat, s' 11 = .int .i64 e ∧ RootE n key ss ps e) ?_ ?_
  · simp only [↓VD, VP, VT, isAggD, reduceCtorEq, Int.reduceEq, Int.reduceNe, Int.reduceLT, Int.reduceLE, implies_true, Nat.reduceEqDiff, reduceIte, ite_true, ite_false, eq_self, Nat.reduceLT, Nat.reduceLeDiff, Nat.reduceAdd, Nat.reduceMul, Nat.reduceSub, intOf]
    refine ⟨fun hne => ?_, fun heq => ⟨fun hl => ?_, fun hl => ?_⟩⟩
    · have hwf : widB n = false := by
        cases hw : widB n
        · rfl
        · exfalso; apply hne; simp [sumE, hw]
      exact ⟨Ext.rfl' _, sumE n, rfl, fun _ => by simp [sumE, hwf], fun h => by simp [hwf] at h, fun h => by simp [hwf] at h, fun h => by simp [hwf] at h, fun h => by simp [hwf] at h⟩
    · have hwt : widB n = true := by
        cases hw : widB n
        · exfalso; simp [sumE, hw] at heq
        · rfl
      exact ⟨Ext.rfl' _, 2, rfl, fun h => by simp [hwt] at h, fun _ _ => rfl, fun _ h => by omega, fun _ h => by omega, fun _ h => by omega⟩
    have hwt : widB n = true := by
      cases hw : widB n
      · exfalso; simp [sumE, hw] at heq
      · rfl
    have hl : key.length ≤ 64 := by omega
    refine ldAt (pre := []) (post := [.slice pa ps.length cp]) Tryz.underlying23 rfl hB5 rfl ?_
    simp only [↓VD, VP, VT, isAggD, reduceCtorEq, Int.reduceEq, Int.reduceNe, Int.reduceLT, Int.reduceLE, implies_true, Nat.reduceEqDiff, reduceIte, ite_true, ite_false, eq_self, Nat.reduceLT, Nat.reduceLeDiff, Nat.reduceAdd, Nat.reduceMul, Nat.reduceSub, intOf]
    refine (kids_ok n _ ss w5 (hs.ext hE5')).mono ?_
    rintro _ w6 ⟨rfl, hE6⟩
    by_cases hq : kidsP n ss
    · have f1 : decide (kidsP n ss) = true := decide_eq_true hq
      simp only [↓VD, VP, VT, isAggD, reduceCtorEq, Int.reduceEq, Int.reduceNe, Int.reduceLT, Int.reduceLE, implies_true, Nat.reduceEqDiff, reduceIte, ite_true, ite_false, eq_self, Nat.reduceLT, Nat.reduceLeDiff, Nat.reduceAdd, Nat.reduceMul, Nat.reduceSub, intOf, f1]
      refine ldA Tryz.underlying28 rfl (hB10.ext hE6) (by rw [vbs_len, lkd, c28]) ?_
      simp only [↓VD, VP, VT, isAggD, reduceCtorEq, Int.reduceEq, Int.reduceNe, Int.reduceLT, Int.reduceLE, implies_true, Nat.reduceEqDiff, reduceIte, ite_true, ite_false, eq_self, Nat.reduceLT, Nat.reduceLeDiff, Nat.reduceAdd, Nat.reduceMul, Nat.reduceSub, intOf]
      refine ldA Tryz.underlying26 rfl (hB5.ext hE6) (by rw [c26]; rfl) ?_
      simp only [↓VD, VP, VT, isAggD, reduceCtorEq, Int.reduceEq, Int.reduceNe, Int.reduceLT, Int.reduceLE, implies_true, Nat.reduceEqDiff, reduceIte, ite_true, ite_false, eq_self, Nat.reduceLT, Nat.reduceLeDiff, Nat.reduceAdd, Nat.reduceMul, Nat.reduceSub, intOf]
      refine (branches_ok n hwt (sumR n (2 :: key)) lkd _ _ ss ps w6 (hs.ext (hE5'.trans' hE6)) (hp.ext (hE5'.trans' hE6))).mono ?_
      rintro _ w7 ⟨t, rfl, ht, hE7⟩
      cases t
      · simp only [↓VD, VP, VT, isAggD, reduceCtorEq, Int.reduceEq, Int.reduceNe, Int.reduceLT, Int.reduceLE, implies_true, Nat.reduceEqDiff, reduceIte, ite_true, ite_false, eq_self, Nat.reduceLT, Nat.reduceLeDiff, Nat.reduceAdd, Nat.reduceMul, Nat.reduceSub, intOf]
        have hnb : ¬ branchesP n (sumR n (2 :: key)) ss ps.length := fun h => by cases ht.2 h
        exact ⟨hE6.trans' hE7, 10, rfl, fun h => by simp [hwt] at h, fun _ h => by omega, fun _ _ h => absurd hq h, fun _ _ _ _ => rfl, fun _ _ _ h => absurd h hnb⟩
      · simp only [↓VD, VP, VT, isAggD, reduceCtorEq, Int.reduceEq, Int.reduceNe, Int.reduceLT, Int.reduceLE, implies_true, Nat.reduceEqDiff, reduceIte, ite_true, ite_false, eq_self, Nat.reduceLT, Nat.reduceLeDiff, Nat.reduceAdd, Nat.reduceMul, Nat.reduceSub, intOf]
        have hbr : branchesP n (sumR n (2 :: key)) ss ps.length := ht.1 rfl
        have hE67 := hE6.trans' hE7
        refine ldA Tryz.underlying28 rfl (hB10.ext hE67) (by rw [vbs_len, lkd, c28]) ?_
        simp only [↓VD, VP, VT, isAggD, reduceCtorEq, Int.reduceEq, Int.reduceNe, Int.reduceLT, Int.reduceLE, implies_true, Nat.reduceEqDiff, reduceIte, ite_true, ite_false, eq_self, Nat.reduceLT, Nat.reduceLeDiff, Nat.reduceAdd, Nat.reduceMul, Nat.reduceSub, intOf]
        refine ldA Tryz.underlying26 rfl (hB5.ext hE67) (by rw [c26]; rfl) ?_
        simp only [↓VD, VP, VT, isAggD, reduceCtorEq, Int.reduceEq, Int.reduceNe, Int.reduceLT, Int.reduceLE, implies_true, Nat.reduceEqDiff, reduceIte, ite_true, ite_false, eq_self, Nat.reduceLT, Nat.reduceLeDiff, Nat.reduceAdd, Nat.reduceMul, Nat.reduceSub, intOf]
        refine (bucket_ok n (sumR n (2 :: key)) lkd _ _ ss ps w7 (hW.ext (hE5'.trans' hE67)) (hs.ext (hE5'.trans' hE67)) (hp.ext (hE5'.trans' hE67)) hpl).mono ?_
        rintro _ w8 ⟨t, rfl, ht, hE8⟩
        cases t
        · simp only [↓VD, VP, VT, isAggD, reduceCtorEq, Int.reduceEq, Int.reduceNe, Int.reduceLT, Int.reduceLE, implies_true, Nat.reduceEqDiff, reduceIte, ite_true, ite_false, eq_self, Nat.reduceLT, Nat.reduceLeDiff, Nat.reduceAdd, Nat.reduceMul, Nat.reduceSub, intOf]
          have hnb : ¬ pairsP n (sumR n (2 :: key)) ss.length ps := fun h => by cases ht.2 h
          exact ⟨hE67.trans' hE8, 10, rfl, fun h => by simp [hwt] at h, fun _ h => by omega, fun _ _ h => absurd hq h, fun _ _ _ _ => rfl, fun _ _ _ _ h => absurd h hnb⟩
        · simp only [↓VD, VP, VT, isAggD, reduceCtorEq, Int.reduceEq, Int.reduceNe, Int.reduceLT, Int.reduceLE, implies_true, Nat.reduceEqDiff, reduceIte, ite_true, ite_false, eq_self, Nat.reduceLT, Nat.reduceLeDiff, Nat.reduceAdd, Nat.reduceMul, Nat.reduceSub, intOf]
          exact ⟨hE67.trans' hE8, 0, by simpa using heq, RootE.mk n key ss ps hwt hl hq hbr (ht.1 rfl)⟩
    · have f1 : decide (kidsP n ss) = false := decide_eq_false hq
      simp only [↓VD, VP, VT, isAggD, reduceCtorEq, Int.reduceEq, Int.reduceNe, Int.reduceLT, Int.reduceLE, implies_true, Nat.reduceEqDiff, reduceIte, ite_true, ite_false, eq_self, Nat.reduceLT, Nat.reduceLeDiff, Nat.reduceAdd, Nat.reduceMul, Nat.reduceSub, intOf, f1]
      exact ⟨hE6, 3, rfl, fun h => by simp [hwt] at h, fun _ h => by omega, fun _ _ _ => rfl, fun _ _ h => absurd h hq, fun _ _ h => absurd h hq⟩
  · rintro s6 w6 ⟨hE6, h0, h1, h5, h6, h10, e, h11, hR⟩
    replace hB5 := hB5.ext hE6
    replace hB6 := hB6.ext hE6
    replace hB10 := hB10.ext hE6
    have hE6' := hE5'.trans' hE6
    simp only [↓VD, VP, VT, isAggD, reduceCtorEq, Int.reduceEq, Int.reduceNe, Int.reduceLT, Int.reduceLE, implies_true, Nat.reduceEqDiff, reduceIte, ite_true, ite_false, eq_self, Nat.reduceLT, Nat.reduceLeDiff, Nat.reduceAdd, Nat.reduceMul, Nat.reduceSub, intOf, h0, h1, h5, h6, h10, h11]
    refine ⟨fun hne => ?_, fun heq => ?_⟩
    · refine bldC (List.replicate 32 (.int .u8 0)) (by kernel_rfl) ?_
      rw [vbs_rep]
      simp only [↓VD, VP, VT, isAggD, reduceCtorEq, Int.reduceEq, Int.reduceNe, Int.reduceLT, Int.reduceLE, implies_true, Nat.reduceEqDiff, reduceIte, ite_true, ite_false, eq_self, Nat.reduceLT, Nat.reduceLeDiff, Nat.reduceAdd, Nat.reduceMul, Nat.reduceSub, intOf, h0, h1, h5, h6, h10, h11]
      refine stAll hB6 (vs := vbs (List.replicate 32 0)) rfl (by rw [c28]; decide) (by rw [c28]; simp [vbs]) (by rw [c28]; simp [vbs]) (vbs_one _) (fun w7 hP7 => ?_)
      simp only [↓VD, VP, VT, isAggD, reduceCtorEq, Int.reduceEq, Int.reduceNe, Int.reduceLT, Int.reduceLE, implies_true, Nat.reduceEqDiff, reduceIte, ite_true, ite_false, eq_self, Nat.reduceLT, Nat.reduceLeDiff, Nat.reduceAdd, Nat.reduceMul, Nat.reduceSub, intOf, h0, h1, h5, h6, h10, h11]
      refine ldA Tryz.underlying28 rfl hP7.blk (by rw [c28]; simp [vbs]) ?_
      have he0 : ¬ e = 0 := by omega
      simp only [↓VD, VP, VT, isAggD, reduceCtorEq, Int.reduceEq, Int.reduceNe, Int.reduceLT, Int.reduceLE, implies_true, Nat.reduceEqDiff, reduceIte, ite_true, ite_false, eq_self, Nat.reduceLT, Nat.reduceLeDiff, Nat.reduceAdd, Nat.reduceMul, Nat.reduceSub, intOf, h0, h1, h5, h6, h10, h11]
      refine ⟨e, .slice none 0 0, ?_, hR, ?_, hE6'.trans (hP7.below (by omega))⟩
      · simp [outD, outT, he0]
      · simp only [outV, if_neg he0]
        exact Own.nil _ _ _ _
    · have he0 : e = 0 := by omega
      subst he0
      obtain ⟨hsz, hss, hrk⟩ := hR.sizes hpn
      have hps := hp
      obtain ⟨⟨_, _, hcells, hnc, hcm, hc⟩, hpp⟩ := hps
      cases hcells
      have hud : (outD 0 n key ss ps).length = 32 := outD_len _ _ _ _ _
      have hue : outD 0 n key ss ps = upF n (sumR n (2 :: key)) (backL ss) (up0 n (ps.map PR.dat)) := rfl
      refine ldAt (pre := [.slice sa ss.length cs]) (post := []) Tryz.underlying24 rfl hB5 rfl ?_
      simp only [↓VD, VP, VT, isAggD, reduceCtorEq, Int.reduceEq, Int.reduceNe, Int.reduceLT, Int.reduceLE, implies_true, Nat.reduceEqDiff, reduceIte, ite_true, ite_false, eq_self, Nat.reduceLT, Nat.reduceLeDiff, Nat.reduceAdd, Nat.reduceMul, Nat.reduceSub, intOf, h0, h1, h5, h6, h10, h11]
      refine loopT (fun s' W' => Ext w6 W' ∧ ∃ i : Nat, i ≤ ps.length ∧ s' 0 = .int .i64 n ∧ s' 1 = .slice ak key.length ck ∧ s' 5 = .pointer (some ⟨w.heap.size, 0, none⟩) ∧ s' 6 = .pointer (some ⟨b6, 0, none⟩) ∧ s' 10 = .pointer (some ⟨b10, 0, none⟩) ∧ s' 51 = .slice pa ps.length cp ∧ s' 52 = .int .i64 ps.length ∧ s' 53 = .int .i64 i ∧
        ∀ p ∈ ps.take i, ¬ p.k = key) (fun s' _ => ps.length - (intOf (s' 53)).toNat) ?_ ?_
      · simp only [↓VD, VP, VT, isAggD, reduceCtorEq, Int.reduceEq, Int.reduceNe, Int.reduceLT, Int.reduceLE, implies_true, Nat.reduceEqDiff, reduceIte, ite_true, ite_false, eq_self, Nat.reduceLT, Nat.reduceLeDiff, Nat.reduceAdd, Nat.reduceMul, Nat.reduceSub, intOf, h0, h1, h5, h6, h10, h11]
        exact ⟨Ext.rfl' _, 0, by omega, rfl, by simp⟩
      · rintro s7 w7 ⟨hE7, i, hi, g0, g1, g5, g6, g10, g51, g52, g53, hz⟩
        replace hB5 := hB5.ext hE7
        replace hB6 := hB6.ext hE7
        replace hB10 := hB10.ext hE7
        have hE7' := hE6'.trans' hE7
        simp only [↓VD, VP, VT, isAggD, reduceCtorEq, Int.reduceEq, Int.reduceNe, Int.reduceLT, Int.reduceLE, implies_true, Nat.reduceEqDiff, reduceIte, ite_true, ite_false, eq_self, Nat.reduceLT, Nat.reduceLeDiff, Nat.reduceAdd, Nat.reduceMul, Nat.reduceSub, intOf, g0, g1, g5, g6, g10, g51, g52, g53]
        refine ⟨fun hlt => ?_, fun hge => ?_⟩
        · have hlt' : i < ps.length := by omega
          rcases hc with hc | ⟨b, o, rfl, hc⟩
          · exfalso
            cases ps with
            | nil => simp at hlt'
            | cons d ds => simp [PR.cells] at hc
          obtain ⟨x, hx⟩ : ∃ x, ps[i]? = some x := ⟨_, List.getElem?_eq_getElem hlt'⟩
          obtain ⟨hxk, hxv⟩ := hpp x (List.mem_of_getElem? hx)
          have hc1 : ∀ j u, (ps.flatMap PR.cells)[j]? = some u → w7.cell? ⟨b, o + j, none⟩ = some u := fun j u hj => by rw [hE7'.cell (block_lt_of_cell (hc j u hj))]; exact hc j u hj
          simp only [↓VD, VP, VT, isAggD, reduceCtorEq, Int.reduceEq, Int.reduceNe, Int.reduceLT, Int.reduceLE, implies_true, Nat.reduceEqDiff, reduceIte, ite_true, ite_false, eq_self, Nat.reduceLT, Nat.reduceLeDiff, Nat.reduceAdd, Nat.reduceMul, Nat.reduceSub, intOf]
          refine ⟨by omega, by omega, ldE (f := PR.cells) c47 Tryz.underlying47 rfl (fun d h => rfl) hc1 hx ?_⟩
          simp only [↓VD, VP, VT, isAggD, reduceCtorEq, Int.reduceEq, Int.reduceNe, Int.reduceLT, Int.reduceLE, implies_true, Nat.reduceEqDiff, reduceIte, ite_true, ite_false, eq_self, Nat.reduceLT, Nat.reduceLeDiff, Nat.reduceAdd, Nat.reduceMul, Nat.reduceSub, intOf]
          intro w8 hN8
          obtain ⟨kk, ckk, hkk⟩ := slv_of hxk
          obtain ⟨vv, cvv, hvv⟩ := slv_of hxv
          refine stAll hN8.blk (vs := x.cells) rfl (by rw [c47]; decide) (by rw [c47]; rfl) (by rw [c47]; rfl) (by rw [PR.cells, hkk, hvv]; simp [oneCellV]) (fun w9 hP9 => ?_)
          have s7' := hE7.size
          have s6' := hB6.lt
          have s10' := hB10.lt
          have hE9 : Ext w7 w9 := hN8.ext.trans (hP9.below (Nat.le_refl _))
          have hE9' := hE7'.trans' hE9
          have hvl : x.v.length ≤ 256 := (hR.ok.2.2.2.2 i x hx).2.1
          obtain ⟨xkv, xvv, xk, xv⟩ := x
          simp only at hkk hvv hxk hxv hvl
          subst hkk hvv
          have hB13 : Blk w9 w7.heap.size 47 [.slice kk xk.length ckk, .slice vv xv.length cvv] := hP9.blk
          generalize w7.heap.size = b13 at *
          simp only [↓VD, VP, VT, isAggD, reduceCtorEq, Int.reduceEq, Int.reduceNe, Int.reduceLT, Int.reduceLE, implies_true, Nat.reduceEqDiff, reduceIte, ite_true, ite_false, eq_self, Nat.reduceLT, Nat.reduceLeDiff, Nat.reduceAdd, Nat.reduceMul, Nat.reduceSub, intOf, g0, g1, g5, g6, g10, g51, g52, g53]
          refine ldAt (pre := []) (post := [.slice vv xv.length cvv]) Tryz.underlying22 rfl hB13 rfl ?_
          simp only [↓VD, VP, VT, isAggD, reduceCtorEq, Int.reduceEq, Int.reduceNe, Int.reduceLT, Int.reduceLE, implies_true, Nat.reduceEqDiff, reduceIte, ite_true, ite_false, eq_self, Nat.reduceLT, Nat.reduceLeDiff, Nat.reduceAdd, Nat.reduceMul, Nat.reduceSub, intOf, g0, g1, g5, g6, g10, g51, g52, g53]
          refine (BEqual_ok xk key _ _ w9 (hxk.ext hE9') (hkv.ext hE9')).mono ?_
          rintro _ _ ⟨rfl, rfl⟩
          by_cases hkey : xk = key
          · have f1 : (xk = key) = True := eq_true hkey
            simp only [↓VD, VP, VT, isAggD, reduceCtorEq, Int.reduceEq, Int.reduceNe, Int.reduceLT, Int.reduceLE, implies_true, Nat.reduceEqDiff, reduceIte, ite_true, ite_false, eq_self, Nat.reduceLT, Nat.reduceLeDiff, Nat.reduceAdd, Nat.reduceMul, Nat.reduceSub, intOf, g0, g1, g5, g6, g10, g51, g52, g53, f1]
            have hval : valOf ps key = some xv := by
              have h1 : ps = ps.take i ++ (⟨.slice kk xk.length ckk, .slice vv xv.length cvv, xk, xv⟩ :: ps.drop (i + 1)) := by
                obtain ⟨hil, he⟩ := List.getElem?_eq_some_iff.1 hx
                rw [← he]
                simp
              unfold valOf
              rw [h1, List.find?_append, List.find?_eq_none.2 (fun p hp' => by simpa using hz p hp')]
              simp [hkey]
            have hxl : xv.length ≤ 140737488355328 := by omega
            refine drawH (fun W' => Blk W' b10 28 (vbs (sumR n (2 :: key))) ∧ Blk W' w.heap.size 26 [.slice sa ss.length cs, .slice (some ⟨b, o, none⟩) ps.length cp] ∧ Blk W' b13 47 [.slice kk xk.length ckk, .slice vv xv.length cvv]) [0, 1, 2, 4, 5, 3, 6, 7, 8, 9, 10] mixed (by decide +kernel) (fun w10 hE10 hh => ⟨⟨(hB10.ext hE9).ext hE10, (hB5.ext hE9).ext hE10, hB13.ext hE10⟩, ?_⟩)
            have hE10' := hE9'.trans' hE10
            simp only [↓VD, VP, VT, isAggD, reduceCtorEq, Int.reduceEq, Int.reduceNe, Int.reduceLT, Int.reduceLE, implies_true, Nat.reduceEqDiff, reduceIte, ite_true, ite_false, eq_self, Nat.reduceLT, Nat.reduceLeDiff, Nat.reduceAdd, Nat.reduceMul, Nat.reduceSub, intOf, g0, g1, g5, g6, g10, g51, g52, g53]
            refine loadS_of _ (fun w' h => ldA Tryz.underlying28 rfl h.1 (by rw [vbs_len, lkd, c28]) rfl) ?_
            simp only [↓VD, VP, VT, isAggD, reduceCtorEq, Int.reduceEq, Int.reduceNe, Int.reduceLT, Int.reduceLE, implies_true, Nat.reduceEqDiff, reduceIte, ite_true, ite_false, eq_self, Nat.reduceLT, Nat.reduceLeDiff, Nat.reduceAdd, Nat.reduceMul, Nat.reduceSub, intOf, g0, g1, g5, g6, g10, g51, g52, g53]
            refine loadS_of _ (fun w' h => ldA Tryz.underlying26 rfl h.2.1 (by rw [c26]; rfl) rfl) ?_
            simp only [↓VD, VP, VT, isAggD, reduceCtorEq, Int.reduceEq, Int.reduceNe, Int.reduceLT, Int.reduceLE, implies_true, Nat.reduceEqDiff, reduceIte, ite_true, ite_false, eq_self, Nat.reduceLT, Nat.reduceLeDiff, Nat.reduceAdd, Nat.reduceMul, Nat.reduceSub, intOf, g0, g1, g5, g6, g10, g51, g52, g53]
            refine loadS_of _ (fun w' h => ldAt (pre := [.slice kk xk.length ckk]) (post := []) Tryz.underlying22 rfl h.2.2 rfl rfl) ?_
            simp only [↓VD, VP, VT, isAggD, reduceCtorEq, Int.reduceEq, Int.reduceNe, Int.reduceLT, Int.reduceLE, implies_true, Nat.reduceEqDiff, reduceIte, ite_true, ite_false, eq_self, Nat.reduceLT, Nat.reduceLeDiff, Nat.reduceAdd, Nat.reduceMul, Nat.reduceSub, intOf, g0, g1, g5, g6, g10, g51, g52, g53]
            refine (up_ok n (sumR n (2 :: key)) lkd _ _ ss ps w10 (hW.ext hE10') (hs.ext hE10') (hp.ext hE10') hsz hss hrk).mono ?_
            rintro _ w11 ⟨rfl, hE11⟩
            refine told (fun _ => True) ⟨((hB10.ext hE9).ext hE10).ext hE11, ((hB5.ext hE9).ext hE10).ext hE11, (hB13.ext hE10).ext hE11⟩ trivial ?_
            simp only [↓VD, VP, VT, isAggD, reduceCtorEq, Int.reduceEq, Int.reduceNe, Int.reduceLT, Int.reduceLE, implies_true, Nat.reduceEqDiff, reduceIte, ite_true, ite_false, eq_self, Nat.reduceLT, Nat.reduceLeDiff, Nat.reduceAdd, Nat.reduceMul, Nat.reduceSub, intOf, g0, g1, g5, g6, g10, g51, g52, g53]
            refine (BClone_ok xv _ w11 (hxv.ext (hE10'.trans' hE11)) hxl).mono ?_
            rintro v' w12 ⟨hO12, hE12⟩
            refine told (fun _ => True) ⟨(((hB10.ext hE9).ext hE10).ext hE11).ext hE12, (((hB5.ext hE9).ext hE10).ext hE11).ext hE12, ((hB13.ext hE10).ext hE11).ext hE12⟩ trivial ?_
            simp only [↓VD, VP, VT, isAggD, reduceCtorEq, Int.reduceEq, Int.reduceNe, Int.reduceLT, Int.reduceLE, implies_true, Nat.reduceEqDiff, reduceIte, ite_true, ite_false, eq_self, Nat.reduceLT, Nat.reduceLeDiff, Nat.reduceAdd, Nat.reduceMul, Nat.reduceSub, intOf, g0, g1, g5, g6, g10, g51, g52, g53]
            have hE912 : Ext w7 w12 := ((hE9.trans' hE10).trans' hE11).trans' hE12
            rw [← hue]
            refine stAll (hB6.ext hE912) rfl (by rw [c28]; decide) (by rw [c28, vbs_len, hud]) (by rw [c28]; simp [vbs]) (vbs_one _) (fun w13 hP13 => ?_)
            refine told (fun _ => True) ⟨hP13.keep ((((hB10.ext hE9).ext hE10).ext hE11).ext hE12) (by omega), hP13.keep ((((hB5.ext hE9).ext hE10).ext hE11).ext hE12) (by omega), hP13.keep (((hB13.ext hE10).ext hE11).ext hE12) (by omega)⟩ trivial ?_
            simp only [↓VD, VP, VT, isAggD, reduceCtorEq, Int.reduceEq, Int.reduceNe, Int.reduceLT, Int.reduceLE, implies_true, Nat.reduceEqDiff, reduceIte, ite_true, ite_false, eq_self, Nat.reduceLT, Nat.reduceLeDiff, Nat.reduceAdd, Nat.reduceMul, Nat.reduceSub, intOf, g0, g1, g5, g6, g10, g51, g52, g53]
            refine ldA Tryz.underlying28 rfl hP13.blk (by rw [vbs_len, hud, c28]) ?_
            simp only [↓VD, VP, VT, isAggD, reduceCtorEq, Int.reduceEq, Int.reduceNe, Int.reduceLT, Int.reduceLE, implies_true, Nat.reduceEqDiff, reduceIte, ite_true, ite_false, eq_self, Nat.reduceLT, Nat.reduceLeDiff, Nat.reduceAdd, Nat.reduceMul, Nat.reduceSub, intOf, g0, g1, g5, g6, g10, g51, g52, g53]
            refine ⟨0, v', ?_, hR, ?_, (hE7'.trans' hE912).trans (hP13.below (by omega))⟩
            · simp [outT, hval]
            · simp only [outV, hval, if_true, Option.getD_some]
              have h1 := hE10'.size
              have h2 := hE11.size
              exact (Own.put hO12 (hB6.ext hE912) (by decide) hP13).base (by omega)
          · have f1 : (xk = key) = False := eq_false hkey
            simp only [↓VD, VP, VT, isAggD, reduceCtorEq, Int.reduceEq, Int.reduceNe, Int.reduceLT, Int.reduceLE, implies_true, Nat.reduceEqDiff, reduceIte, ite_true, ite_false, eq_self, Nat.reduceLT, Nat.reduceLeDiff, Nat.reduceAdd, Nat.reduceMul, Nat.reduceSub, intOf, g0, g1, g5, g6, g10, g51, g52, g53, f1]
            refine ⟨⟨hE7.trans' hE9, i + 1, by omega, ?_, (take_all_succ (p := fun p => ¬ p.k = key) hx).2 ⟨hz, hkey⟩⟩, ?_⟩
            · rw [w64 (by omega) (by omega)]; rfl
            · rw [w64 (by omega) (by omega)]; omega
        · rw [List.take_of_length_le (by omega)] at hz
          have hval : valOf ps key = none := by
            unfold valOf
            rw [List.find?_eq_none.2 (fun p hp' => by simpa using hz p hp')]
            rfl
          refine ldA Tryz.underlying28 rfl hB10 (by rw [vbs_len, lkd, c28]) ?_
          simp only [↓VD, VP, VT, isAggD, reduceCtorEq, Int.reduceEq, Int.reduceNe, Int.reduceLT, Int.reduceLE, implies_true, Nat.reduceEqDiff, reduceIte, ite_true, ite_false, eq_self, Nat.reduceLT, Nat.reduceLeDiff, Nat.reduceAdd, Nat.reduceMul, Nat.reduceSub, intOf, g0, g1, g5, g6, g10, g51, g52, g53]
          refine ldA Tryz.underlying26 rfl hB5 (by rw [c26]; rfl) ?_
          simp only [↓VD, VP, VT, isAggD, reduceCtorEq, Int.reduceEq, Int.reduceNe, Int.reduceLT, Int.reduceLE, implies_true, Nat.reduceEqDiff, reduceIte, ite_true, ite_false, eq_self, Nat.reduceLT, Nat.reduceLeDiff, Nat.reduceAdd, Nat.reduceMul, Nat.reduceSub, intOf, g0, g1, g5, g6, g10, g51, g52, g53]
          refine (up_ok n (sumR n (2 :: key)) lkd _ _ ss ps w7 (hW.ext hE7') (hs.ext hE7') (hp.ext hE7') hsz hss hrk).mono ?_
          rintro _ w11 ⟨rfl, hE11⟩
          simp only [↓VD, VP, VT, isAggD, reduceCtorEq, Int.reduceEq, Int.reduceNe, Int.reduceLT, Int.reduceLE, implies_true, Nat.reduceEqDiff, reduceIte, ite_true, ite_false, eq_self, Nat.reduceLT, Nat.reduceLeDiff, Nat.reduceAdd, Nat.reduceMul, Nat.reduceSub, intOf, g0, g1, g5, g6, g10, g51, g52, g53]
          rw [← hue]
          refine stAll (hB6.ext hE11) rfl (by rw [c28]; decide) (by rw [c28, vbs_len, hud]) (by rw [c28]; simp [vbs]) (vbs_one _) (fun w13 hP13 => ?_)
          simp only [↓VD, VP, VT, isAggD, reduceCtorEq, Int.reduceEq, Int.reduceNe, Int.reduceLT, Int.reduceLE, implies_true, Nat.reduceEqDiff, reduceIte, ite_true, ite_false, eq_self, Nat.reduceLT, Nat.reduceLeDiff, Nat.reduceAdd, Nat.reduceMul, Nat.reduceSub, intOf, g0, g1, g5, g6, g10, g51, g52, g53]
          refine ldA Tryz.underlying28 rfl hP13.blk (by rw [vbs_len, hud, c28]) ?_
          simp only [↓VD, VP, VT, isAggD, reduceCtorEq, Int.reduceEq, Int.reduceNe, Int.reduceLT, Int.reduceLE, implies_true, Nat.reduceEqDiff, reduceIte, ite_true, ite_false, eq_self, Nat.reduceLT, Nat.reduceLeDiff, Nat.reduceAdd, Nat.reduceMul, Nat.reduceSub, intOf, g0, g1, g5, g6, g10, g51, g52, g53]
          refine ⟨0, .slice none 0 0, ?_, hR, ?_, (hE7'.trans' hE11).trans (hP13.below (by omega))⟩
          · simp [outT, hval]
          · simp only [outV, hval, if_true, Option.getD_none]
            exact Own.nil _ _ _ _

end Go.Proofs.YthlkfjoibjhaiaaGreatDoor

/-! HckE -/
namespace Go.Proofs.YthlkfjoibjhaiaaGreatDoor
set_option maxRecDepth 100000
set_option maxHeartbeats 2000000
open Go Go.RowKit
set_option linter.unusedVariables false
set_option linter.unusedSimpArgs false

def checkE (n : Int) (root d : List UInt8) (e : Nat) : Nat := if e = 1 ∨ e = 2 then e else if formB n root = false then 3 else if e = 0 ∧ d ≠ root then 10 else e
def checkV (f : Nat) (key : List UInt8) (ps : List PR) : List UInt8 := outV f key ps

theorem Check_ok (n : Int) (root key : List UInt8) (hrt : root.length = 32) (kv sv pv : Value) (ss : List SR) (ps : List PR) (w : World) (hW : WordsAt w 1) (hkv : SlB w kv key) (hkl : key.length + 1 ≤ 140737488355328) (hs : StepsAt w sv ss) (hp : PairsAt w pv ps)
    (hpl : ∀ p ∈ ps, p.k.length + 1 ≤ 140737488355328) (hpn : ps.length ≤ 400000000000) :
    CallK Tryz.prog 20 [.int .i64 n, .agg (vbs root).toArray, kv, .agg [sv, pv].toArray].toArray w fun r w' => ∃ e f v, r = .tuple [v, .bool (outT f key ps), .int .i64 (f : Nat)].toArray ∧ RootE n key ss ps e ∧ f = checkE n root (outD e n key ss ps) e ∧
      Own w' w.heap.size 5 1 v (outV f key ps).length (vbs (outV f key ps)) ∧ Ext w w' := by
  obtain ⟨sa, cs, hse⟩ := slv_of hs.1
  obtain ⟨pa, cp, hpe⟩ := slv_of hp.1
  subst hse hpe
  refine enterT Tryz.func20 rfl Tryz.ntmps20 Tryz.results20 rfl (by decide) ?_
  simp only [↓VD, VP, VT, isAggD, reduceCtorEq, Int.reduceEq, Int.reduceNe, Int.reduceLT, Int.reduceLE, implies_true, Nat.reduceEqDiff, reduceIte, ite_true, ite_false, eq_self, Nat.reduceLT, Nat.reduceLeDiff, Nat.reduceAdd, Nat.reduceMul, Nat.reduceSub, intOf]
  intro w1 hN1 w2 hN2
  have s1 := hN1.size
  have s2 := hN2.size
  have hB5 := hN1.blk.ext hN2.ext
  have hB7 := hN2.blk
  have hE2 : Ext w w2 := hN1.ext.trans' hN2.ext
  generalize w1.heap.size = b7 at *
  refine ldA Tryz.underlying26 rfl hB7 (by rw [c26]; rfl) ?_
  simp only [↓VD, VP, VT, isAggD, reduceCtorEq, Int.reduceEq, Int.reduceNe, Int.reduceLT, Int.reduceLE, implies_true, Nat.reduceEqDiff, reduceIte, ite_true, ite_false, eq_self, Nat.reduceLT, Nat.reduceLeDiff, Nat.reduceAdd, Nat.reduceMul, Nat.reduceSub, intOf]
  refine (RootOf_ok n key kv _ _ ss ps w2 (hW.ext hE2) (hkv.ext hE2) hkl (hs.ext hE2) (hp.ext hE2) hpl hpn).mono ?_
  rintro _ w3 ⟨e, v, rfl, hR, hO, hE3⟩
  have lod := outD_len e n key ss ps
  simp only [↓VD, VP, VT, isAggD, reduceCtorEq, Int.reduceEq, Int.reduceNe, Int.reduceLT, Int.reduceLE, implies_true, Nat.reduceEqDiff, reduceIte, ite_true, ite_false, eq_self, Nat.reduceLT, Nat.reduceLeDiff, Nat.reduceAdd, Nat.reduceMul, Nat.reduceSub, intOf]
  intro w4 hN4
  have s3 := hE3.size
  have s4 := hN4.size
  refine stAll hN4.blk rfl (by rw [c28]; decide) (by rw [c28, vbs_len, lod]) (by rw [c28]; simp) (vbs_one _) (fun w5 hP5 => ?_)
  have hE35 : Ext w3 w5 := hN4.ext.trans (hP5.below (Nat.le_refl _))
  have hE5 : Ext w2 w5 := hE3.trans' hE35
  have hB11 := hP5.blk
  generalize w3.heap.size = b11 at *
  replace hB5 := hB5.ext hE5
  replace hO := (hO.ext hE35).base (show w.heap.size ≤ w2.heap.size by omega)
  have hE5' := hE2.trans' hE5
  have hlast : ∀ (f : Nat) (W : World), Ext w5 W → f = checkE n root (outD e n key ss ps) e → (f = 0 → ∃ e' f' v', (.tuple #[v, .bool (outT e key ps), .int .i64 0] : Value) = .tuple [v', .bool (outT f' key ps), .int .i64 (f' : Nat)].toArray ∧ RootE n key ss ps e' ∧ f' = checkE n root (outD e' n key ss ps) e' ∧ Own W w.heap.size 5 1 v' (outV f' key ps).length (vbs (outV f' key ps)) ∧ Ext w W) ∧
      (f ≠ 0 → ∃ e' f' v', (.tuple #[.slice none 0 0, .bool false, .int .i64 f] : Value) = .tuple [v', .bool (outT f' key ps), .int .i64 (f' : Nat)].toArray ∧ RootE n key ss ps e' ∧ f' = checkE n root (outD e' n key ss ps) e' ∧ Own W w.heap.size 5 1 v' (outV f' key ps).length (vbs (outV f' key ps)) ∧ Ext w W) := by
    intro f W hEW hf
    refine ⟨fun h0 => ?_, fun hne => ?_⟩
    · have he : e = 0 := by
        rw [h0] at hf
        unfold checkE at hf
        by_cases h1 : e = 1 ∨ e = 2
        · rw [if_pos h1] at hf; omega
        · rw [if_neg h1] at hf
          by_cases h2 : formB n root = false
          · rw [if_pos h2] at hf; omega
          · rw [if_neg h2] at hf
            by_cases h3 : e = 0 ∧ outD e n key ss ps ≠ root
            · exact h3.1
            · rw [if_neg h3] at hf; omega
      subst he
      subst h0
      exact ⟨0, 0, v, rfl, hR, hf, hO.ext hEW, hE5'.trans' hEW⟩
    · refine ⟨e, f, .slice none 0 0, ?_, hR, hf, ?_, hE5'.trans' hEW⟩
      · simp [outT, hne]
      · simp only [outV, if_neg hne]
        exact Own.nil _ _ _ _
  simp only [↓VQ, VP, VT, isAggD, reduceCtorEq, Int.reduceEq, Int.reduceNe, Int.reduceLT, Int.reduceLE, implies_true, Nat.reduceEqDiff, reduceIte, ite_true, ite_false, eq_self, Nat.reduceLT, Nat.reduceLeDiff, Nat.reduceAdd, Nat.reduceMul, Nat.reduceSub, intOf]
  rw [v_seq]
  refine joinT (fun s' W' => Ext w5 W' ∧ s' 12 = v ∧ s' 13 = .bool (outT e key ps) ∧ ∃ f : Nat, s' 14 = .int .i64 f ∧ f = checkE n root (outD e n key ss ps) e) ?_ ?_
  · by_cases h1 : e = 1
    · have f1 : ((e : Int) = 1) = True := eq_true (by omega)
      simp only [↓VD, VP, VT, isAggD, reduceCtorEq, Int.reduceEq, Int.reduceNe, Int.reduceLT, Int.reduceLE, implies_true, Nat.reduceEqDiff, reduceIte, ite_true, ite_false, eq_self, Nat.reduceLT, Nat.reduceLeDiff, Nat.reduceAdd, Nat.reduceMul, Nat.reduceSub, intOf, f1]
      exact ⟨Ext.rfl' _, e, rfl, by simp [checkE, h1]⟩
    have f1 : ((e : Int) = 1) = False := eq_false (by omega)
    by_cases h2 : e = 2
    · have f2 : ((e : Int) = 2) = True := eq_true (by omega)
      simp only [↓VD, VP, VT, isAggD, reduceCtorEq, Int.reduceEq, Int.reduceNe, Int.reduceLT, Int.reduceLE, implies_true, Nat.reduceEqDiff, reduceIte, ite_true, ite_false, eq_self, Nat.reduceLT, Nat.reduceLeDiff, Nat.reduceAdd, Nat.reduceMul, Nat.reduceSub, intOf, f1, f2]
      exact ⟨Ext.rfl' _, e, rfl, by simp [checkE, h2]⟩
    have f2 : ((e : Int) = 2) = False := eq_false (by omega)
    have h12 : ¬ (e = 1 ∨ e = 2) := by omega
    simp only [↓VD, VP, VT, isAggD, reduceCtorEq, Int.reduceEq, Int.reduceNe, Int.reduceLT, Int.reduceLE, implies_true, Nat.reduceEqDiff, reduceIte, ite_true, ite_false, eq_self, Nat.reduceLT, Nat.reduceLeDiff, Nat.reduceAdd, Nat.reduceMul, Nat.reduceSub, intOf, f1, f2]
    refine ldA Tryz.underlying28 rfl hB5 (by rw [vbs_len, hrt, c28]) ?_
    simp only [↓VD, VP, VT, isAggD, reduceCtorEq, Int.reduceEq, Int.reduceNe, Int.reduceLT, Int.reduceLE, implies_true, Nat.reduceEqDiff, reduceIte, ite_true, ite_false, eq_self, Nat.reduceLT, Nat.reduceLeDiff, Nat.reduceAdd, Nat.reduceMul, Nat.reduceSub, intOf, f1, f2]
    refine (Form_ok n root hrt w5).mono ?_
    rintro _ w6 ⟨rfl, hE6⟩
    cases hf : formB n root
    · simp only [↓VD, VP, VT, isAggD, reduceCtorEq, Int.reduceEq, Int.reduceNe, Int.reduceLT, Int.reduceLE, implies_true, Nat.reduceEqDiff, reduceIte, ite_true, ite_false, eq_self, Nat.reduceLT, Nat.reduceLeDiff, Nat.reduceAdd, Nat.reduceMul, Nat.reduceSub, intOf, f1, f2, hf]
      exact ⟨hE6, 3, rfl, by simp [checkE, h12, hf]⟩
    · by_cases h0 : e = 0
      · subst h0
        simp only [↓VD, VP, VT, isAggD, reduceCtorEq, Int.reduceEq, Int.reduceNe, Int.reduceLT, Int.reduceLE, implies_true, Nat.reduceEqDiff, reduceIte, ite_true, ite_false, eq_self, Nat.reduceLT, Nat.reduceLeDiff, Nat.reduceAdd, Nat.reduceMul, Nat.reduceSub, intOf, f1, f2, hf]
        refine ldA Tryz.underlying28 rfl (hB11.ext hE6) (by rw [vbs_len, lod, c28]) ?_
        simp only [↓VD, VP, VT, isAggD, reduceCtorEq, Int.reduceEq, Int.reduceNe, Int.reduceLT, Int.reduceLE, implies_true, Nat.reduceEqDiff, reduceIte, ite_true, ite_false, eq_self, Nat.reduceLT, Nat.reduceLeDiff, Nat.reduceAdd, Nat.reduceMul, Nat.reduceSub, intOf, f1, f2, hf]
        refine ldA Tryz.underlying28 rfl (hB5.ext hE6) (by rw [vbs_len, hrt, c28]) ?_
        simp only [↓VD, VP, VT, isAggD, reduceCtorEq, Int.reduceEq, Int.reduceNe, Int.reduceLT, Int.reduceLE, implies_true, Nat.reduceEqDiff, reduceIte, ite_true, ite_false, eq_self, Nat.reduceLT, Nat.reduceLeDiff, Nat.reduceAdd, Nat.reduceMul, Nat.reduceSub, intOf, f1, f2, hf]
        refine eqd_lit _ _ _ _ _ _ Tryz.underlying5 c5 lod hrt ?_
        by_cases hd : outD 0 n key ss ps = root
        · have f3 : (outD 0 n key ss ps = root) = True := eq_true hd
          simp only [↓VD, VP, VT, isAggD, reduceCtorEq, Int.reduceEq, Int.reduceNe, Int.reduceLT, Int.reduceLE, implies_true, Nat.reduceEqDiff, reduceIte, ite_true, ite_false, eq_self, Nat.reduceLT, Nat.reduceLeDiff, Nat.reduceAdd, Nat.reduceMul, Nat.reduceSub, intOf, f1, f2, hf, f3]
          exact ⟨hE6, 0, rfl, by simp [checkE, hf, hd]⟩
        · have f3 : (outD 0 n key ss ps = root) = False := eq_false hd
          simp only [↓VD, VP, VT, isAggD, reduceCtorEq, Int.reduceEq, Int.reduceNe, Int.reduceLT, Int.reduceLE, implies_true, Nat.reduceEqDiff, reduceIte, ite_true, ite_false, eq_self, Nat.reduceLT, Nat.reduceLeDiff, Nat.reduceAdd, Nat.reduceMul, Nat.reduceSub, intOf, f1, f2, hf, f3]
          exact ⟨hE6, 10, rfl, by simp [checkE, hf, hd]⟩
      · have f3 : ((e : Int) = 0) = False := eq_false (by omega)
        simp only [↓VD, VP, VT, isAggD, reduceCtorEq, Int.reduceEq, Int.reduceNe, Int.reduceLT, Int.reduceLE, implies_true, Nat.reduceEqDiff, reduceIte, ite_true, ite_false, eq_self, Nat.reduceLT, Nat.reduceLeDiff, Nat.reduceAdd, Nat.reduceMul, Nat.reduceSub, intOf, f1, f2, hf, f3]
        exact ⟨hE6, e, rfl, by simp [checkE, h12, hf, h0]⟩
  · rintro s6 w6 ⟨hE6, h12, h13, f, h14, hf⟩
    simp only [↓VD, VP, VT, isAggD, reduceCtorEq, Int.reduceEq, Int.reduceNe, Int.reduceLT, Int.reduceLE, implies_true, Nat.reduceEqDiff, reduceIte, ite_true, ite_false, eq_self, Nat.reduceLT, Nat.reduceLeDiff, Nat.reduceAdd, Nat.reduceMul, Nat.reduceSub, intOf, h12, h13, h14]
    refine ⟨fun hne => (hlast f w6 hE6 hf).2 (by omega), fun heq => (hlast f w6 hE6 hf).1 (by omega)⟩

end Go.Proofs.YthlkfjoibjhaiaaGreatDoor

/-! LawA -/
namespace Go.Proofs.YthlkfjoibjhaiaaGreatDoor
set_option maxRecDepth 100000
set_option maxHeartbeats 2000000
open Go Go.RowKit
set_option linter.unusedVariables false
set_option linter.unusedSimpArgs false

/-! ### Conversions -/
/-! ### awake, plainly -/
end Go.Proofs.YthlkfjoibjhaiaaGreatDoor

/-! LawB -/
namespace Go.Proofs.YthlkfjoibjhaiaaGreatDoor
set_option maxRecDepth 100000
set_option maxHeartbeats 2000000
open Go Go.RowKit
set_option linter.unusedVariables false
set_option linter.unusedSimpArgs false

/-- What the laws take for granted of a question: it may be read, and its lists are short enough for the machine. -/
structure AskAt (w : World) (key : List UInt8) (ss : List SR) (ps : List PR) (kv sv pv : Value) : Prop where
  kat : SlB w kv key
  keyl : key.length + 1 ≤ 140737488355328
  steps : StepsAt w sv ss
  pairs : PairsAt w pv ps
  pk : ∀ p ∈ ps, p.k.length + 1 ≤ 140737488355328
  pn : ps.length ≤ 400000000000
theorem AskAt.ext {w w' : World} {key : List UInt8} {ss : List SR} {ps : List PR} {kv sv pv : Value} (h : AskAt w key ss ps kv sv pv) (e : Ext w w') : AskAt w' key ss ps kv sv pv :=
  ⟨h.kat.ext e, h.keyl, h.steps.ext e, h.pairs.ext e, h.pk, h.pn⟩
end Go.Proofs.YthlkfjoibjhaiaaGreatDoor

/-! PlC -/
namespace Go.Proofs.YthlkfjoibjhaiaaGreatDoor
set_option maxRecDepth 100000
set_option maxHeartbeats 2000000
open Go Go.RowKit
set_option linter.unusedVariables false
set_option linter.unusedSimpArgs false

theorem com_at (a b : List UInt8) : ∀ m, comP a b m < m → digP a (comP a b m) ≠ digP b (comP a b m)
  | 0, h => by simp [comP] at h
  | m + 1, h => by
    unfold comP at h ⊢
    split
    · rename_i h1; exact com_at a b m h1
    · rename_i h1
      rw [if_neg h1] at h
      split
      · rename_i h2; rw [if_pos h2] at h; omega
      · rename_i h2; exact h2
theorem com_ge {a b : List UInt8} {m t : Nat} (ht : t ≤ m) (h : ∀ j, j < t → digP a j = digP b j) : t ≤ comP a b m := by
  rcases Nat.lt_or_ge (comP a b m) t with h1 | h1
  · exact absurd (h _ h1) (com_at a b m (by omega))
  · exact h1
theorem drop_sumR {n : Int} (hn : widB n = true) (xs : List UInt8) : ∀ b ∈ (sumR n xs).drop n.toNat, b = 0 := by
  have hw := (widB_iff n).1 hn
  intro b hb
  rw [sumR, if_pos hn, sumP, cutP] at hb
  rw [List.drop_append_of_le_length (by rw [List.length_take, shaP_len]; omega)] at hb
  rw [List.drop_of_length_le (by rw [List.length_take]; omega), List.nil_append] at hb
  exact (List.mem_replicate.1 hb).2
theorem chk_two {n : Int} (hn : widB n = true) {ds : List (List UInt8)} (h : ∀ d ∈ ds, ∃ xs, d = sumR n xs) : chkP n ds = 0 := by
  have hw := (widB_iff n).1 hn
  unfold chkP
  rw [if_neg (by omega), if_pos]
  intro d hd
  obtain ⟨xs, rfl⟩ := h d hd
  exact drop_sumR hn xs
theorem comPP_sum {n : Int} (hn : widB n = true) (xs ys : List UInt8) : comPP n (sumR n xs) (sumR n ys) = (((comP (sumR n xs) (sumR n ys) (2 * n.toNat) : Nat) : Int), (0 : Int)) := by
  unfold comPP
  rw [if_pos (chk_two hn (by intro d hd; simp only [List.mem_cons, List.not_mem_nil, or_false] at hd; rcases hd with rfl | rfl <;> exact ⟨_, rfl⟩))]
end Go.Proofs.YthlkfjoibjhaiaaGreatDoor

/-! Hon -/
namespace Go.Proofs.YthlkfjoibjhaiaaGreatDoor
set_option maxRecDepth 100000
set_option maxHeartbeats 2000000
open Go Go.RowKit
set_option linter.unusedVariables false
set_option linter.unusedSimpArgs false
set_option maxHeartbeats 4000000
attribute [local irreducible] vcT opsT qT vcOp Q1 vcPure vcLoad vcStore ldC ldN ldD grdT grdQ vc vcOps vcQ hT
attribute [local irreducible] sumR sumP shaP keyD bucketP branchP

theorem insP_erase {ks : List (List UInt8)} {r : Nat} {x : List UInt8} (h : ks[r]? = some x) : insP (ks.eraseIdx r) r x = ks := by
  obtain ⟨hr, rfl⟩ := List.getElem?_eq_some_iff.1 h
  unfold insP
  rw [List.eraseIdx_eq_take_drop_succ, List.take_append_of_le_length (by rw [List.length_take]; omega), List.take_take, Nat.min_self, List.drop_append_of_le_length (by rw [List.length_take]; omega), List.drop_of_length_le (by rw [List.length_take]; omega), List.nil_append, ← List.drop_eq_getElem_cons hr, List.take_append_drop]
theorem stepD_cut {n : Nat} (hw : widB n = true) {K : List UInt8} (hK : K.length = 32) (hf : formB n K = true) {f d : Nat} {m : List It} (hs : singleB m = false) (hO : OkI n m) (hP : Pre d m) (x : List UInt8)
    (hx : hasI m d (digP K d) = true → x = nodeD n f (d + 1) (childI m d (digP K d))) : stepD n K x d (bmI m d) (cutK (bmI m d) (digP K d) (kidsI n f d m)) = nodeD n (f + 1) d m := by
  have hwn := (widB_iff n).1 hw
  have hdn := br_depth hs hP (hO.form hw)
  have hat := atP_dig (m := n) (by omega) (by omega) hK hf hdn
  unfold stepD
  rw [hat, nodeD_br n f d hs]
  cases hh : hasI m d (digP K d)
  · have hb : hasB (bmI m d) (digP K d : Int) = false := by rw [bmI_has, hh, Bool.and_false]
    rw [if_neg (by rw [hb]; decide), cutK, if_neg (by rw [hb]; decide)]
  · have hb := hasB_of hh
    obtain ⟨h1, h2, h3⟩ := kids_at (n := n) (f := f) (child_ne hh) (digP_lt K d)
    rw [if_pos hb, cutK, if_pos hb, hx hh, insP_erase h3]
/-- The digests of a key's path, from its end up. -/
theorem fold_walk {n : Nat} (hw : widB n = true) {K : List UInt8} (hK : K.length = 32) (hf : formB n K = true) : ∀ (f d : Nat) (m : List It), OkI n m → Pre d m → d + f = 64 → m ≠ [] → ∀ (ss : List SR), ss.map SR.dt = cutS K d (walkI n K f d m).1 →
    ∀ z, ((walkI n K f d m).2 ≠ [] → z = bkD n (walkI n K f d m).2) → (ss.zipIdx d).foldr (fun (p : SR × Nat) x => stepD n K x p.2 p.1.bm p.1.ks) z = nodeD n f d m := by
  have hwn := (widB_iff n).1 hw
  intro f
  induction f with
  | zero =>
    intro d m hO hP hdf hne ss hss z hz
    have e : ss = [] := by simpa [walkI, cutS] using hss
    subst e
    exact hz hne
  | succ f ih =>
    intro d m hO hP hdf hne ss hss z hz
    cases hs : singleB m
    · rw [walkI, if_neg (by simp [hs])] at hss hz
      cases hh : hasI m d (digP K d)
      · rw [hh, if_neg (by decide)] at hss hz
        obtain ⟨s, rfl⟩ : ∃ s, ss = [s] := by
          have := congrArg List.length hss
          rw [cutS_len, List.length_map] at this
          exact List.length_eq_one_iff.1 this
        have h1 : s.bm = bmI m d ∧ s.ks = cutK (bmI m d) (digP K d) (kidsI n f d m) := by simpa [cutS, SR.dt] using hss
        show stepD n K z d s.bm s.ks = _
        rw [h1.1, h1.2]
        exact stepD_cut hw hK hf hs hO hP z (fun h => by rw [hh] at h; cases h)
      · rw [hh, if_pos rfl] at hss hz
        cases ss with
        | nil => simp [cutS] at hss
        | cons s r =>
          have h1 : s.bm = bmI m d ∧ s.ks = cutK (bmI m d) (digP K d) (kidsI n f d m) := by
            have := congrArg (·.head?) hss
            simpa [cutS, SR.dt] using this
          have h2 : r.map SR.dt = cutS K (d + 1) (walkI n K f (d + 1) (childI m d (digP K d))).1 := by
            have := congrArg List.tail hss
            simpa [cutS] using this
          have h3 := ih (d + 1) _ (hO.child _ _) (hP.child _) (by omega) (child_ne hh) r h2 z hz
          rw [List.zipIdx_cons, List.foldr_cons, h3]
          show stepD n K _ d s.bm s.ks = _
          rw [h1.1, h1.2]
          exact stepD_cut hw hK hf hs hO hP _ (fun _ => rfl)
    · rw [walkI_single _ _ _ _ hs] at hss hz
      have e : ss = [] := by simpa [cutS] using hss
      subst e
      rw [nodeD_single n _ _ hs]
      exact hz hne
theorem upF_back (n : Int) (K : List UInt8) (ss : List SR) (z : List UInt8) : upF n K (backL ss) z = (ss.zipIdx 0).foldr (fun (p : SR × Nat) x => stepD n K x p.2 p.1.bm p.1.ks) z := by
  unfold upF backL
  rw [List.foldl_reverse, List.foldr_map]
/-- What a map's own path is: its steps are the key's way down without one digest each, its pairs the bucket there. -/
structure PathI (n : Int) (m : List It) (key : List UInt8) (ss : List SR) (ps : List PR) : Prop where
  steps : ss.map SR.dt = cutS (keyD n key) 0 (walkI n (keyD n key) 64 0 m).1
  pairs : ps.map PR.dat = (walkI n (keyD n key) 64 0 m).2.map It.pr
theorem PathI.root {n : Nat} (hw : widB n = true) {m : List It} (hO : OkI n m) {key : List UInt8} {ss : List SR} {ps : List PR} (h : PathI n m key ss ps) : outD 0 n key ss ps = rootD n m := by
  have hK := keyD_len n key
  have hf : formB n (keyD n key) = true := by unfold keyD; exact form_sumR n _ hw
  obtain ⟨h1, h2⟩ := h
  unfold outD
  rw [if_pos rfl, upF_back, h2]
  by_cases hm : m = []
  · subst hm
    have e : walkI n (keyD n key) 64 0 ([] : List It) = ([], []) := walkI_single _ _ _ _ rfl
    rw [e] at h1 ⊢
    have e : ss = [] := by simpa [cutS] using h1
    subst e
    rfl
  · rw [rootD, if_neg hm]
    refine fold_walk hw hK hf 64 0 m hO hO.pre rfl hm ss h1 _ (fun hne => ?_)
    unfold up0
    rw [if_neg (by simpa using hne)]
    rfl
theorem PathI.ok {n : Nat} (hw : widB n = true) {m : List It} (hO : OkI n m) {key : List UInt8} (hkl : key.length ≤ 64) {ss : List SR} {ps : List PR} (h : PathI n m key ss ps) {e : Nat} (hR : RootE n key ss ps e) : e = 0 := by
  have hwn := (widB_iff n).1 hw
  have hK := keyD_len n key
  have hf : formB n (keyD n key) = true := by unfold keyD; exact form_sumR n _ hw
  obtain ⟨hst, hend, hsg⟩ := walk_spec hw (keyD n key) 64 0 m hO hO.pre rfl
  obtain ⟨h1, h2⟩ := h
  have hL : (walkI n (keyD n key) 64 0 m).1.length = ss.length := by have := congrArg List.length h1; rw [List.length_map, cutS_len] at this; exact this.symm
  rw [hL] at hst hend hsg
  rw [hend] at h2
  have hpl : ps.length = (wmI (keyD n key) ss.length 0 m).length := by have := congrArg List.length h2; simpa using this
  have hat : ∀ i (s : SR), ss[i]? = some s → s.bm = bmI (wmI (keyD n key) i 0 m) i ∧ s.ks = cutK (bmI (wmI (keyD n key) i 0 m) i) (digP (keyD n key) i) (kidsI n (64 - 1 - i) i (wmI (keyD n key) i 0 m)) ∧ singleB (wmI (keyD n key) i 0 m) = false ∧ i < 2 * n := by
    intro i s hi
    obtain ⟨q1, q2⟩ := hst i (List.getElem?_eq_some_iff.1 hi).1
    have h3 := congrArg (·[i]?) h1
    simp only [List.getElem?_map, hi, cutS_get, q1, Nat.zero_add, Option.map_some, Option.some.injEq, SR.dt, Prod.mk.injEq] at h3
    obtain ⟨a1, a2⟩ := wmI_ok (n := n) (keyD n key) i 0 hO hO.pre
    rw [Nat.zero_add] at a2
    exact ⟨h3.1, h3.2, q2, br_depth q2 a2 (a1.form hw)⟩
  obtain ⟨hOE, hPE⟩ := wmI_ok (n := n) (keyD n key) ss.length 0 hO hO.pre
  refine hR.2.2.2.2 hw hkl ?_ ⟨?_, ?_⟩ ?_
  · intro s hs d hd
    obtain ⟨i, hi⟩ := List.getElem?_of_mem hs
    obtain ⟨q1, q2, q3, q4⟩ := hat i s hi
    rw [q2] at hd
    have hd' := cutK_mem d hd
    unfold kidsI at hd'
    obtain ⟨c, _, rfl⟩ := List.mem_map.1 hd'
    exact form_node n hw _ _ _
  · by_cases h0 : ss.length = 0
    · omega
    · obtain ⟨_, _, _, q4⟩ := hat (ss.length - 1) _ (List.getElem?_eq_getElem (by omega))
      omega
  · intro i s hi
    obtain ⟨q1, q2, q3, q4⟩ := hat i s hi
    have hil := (List.getElem?_eq_some_iff.1 hi).1
    have hatP := atP_dig (m := n) (by omega) (by omega) hK hf q4
    have hstep := wmI_step (keyD n key) i 0 m
    rw [Nat.zero_add] at hstep
    have hd16 := digP_lt (keyD n key) i
    have hkl2 := kidsI_len n (64 - 1 - i) i (wmI (keyD n key) i 0 m)
    have hlast : hasI (wmI (keyD n key) i 0 m) i (digP (keyD n key) i) = false → i + 1 = ss.length ∧ ps.length = 0 := by
      intro hh
      have e0 : wmI (keyD n key) (i + 1) 0 m = [] := by rw [hstep]; unfold hasI at hh; simpa using hh
      have e1 : i + 1 = ss.length := by
        refine Classical.byContradiction fun hne => ?_
        have := (hst (i + 1) (by omega)).2
        rw [e0] at this
        cases this
      exact ⟨e1, by rw [hpl, ← e1, e0]; rfl⟩
    have hpos : cntB (bmI (wmI (keyD n key) i 0 m) i) ≠ 0 := by
      obtain ⟨y, hy⟩ := List.exists_mem_of_ne_nil _ (ne_of_not_single q3)
      have := rank_lt (hasB_of (has_iff.2 ⟨y, hy, rfl⟩ : hasI (wmI (keyD n key) i 0 m) i (digP y.D i) = true))
      omega
    unfold stepOk
    rw [hatP, q1, q2]
    refine ⟨hpos, fun hb => ?_, fun hb => ?_, ?_⟩
    · rw [bmI_has, decide_eq_true hd16, Bool.true_and] at hb
      obtain ⟨r1, r2, r3⟩ := kids_at (n := n) (f := 64 - 1 - i) (child_ne hb) hd16
      refine ⟨?_, ?_⟩
      · rw [cutK, if_pos r1, List.length_eraseIdx, if_pos r2, hkl2]
        omega
      · rintro ⟨e1, e2⟩
        have : wmI (keyD n key) (i + 1) 0 m = [] := by rw [e1]; exact List.length_eq_zero_iff.1 (by omega)
        rw [hstep] at this
        exact child_ne hb this
    · have hb' := hb
      rw [bmI_has, decide_eq_true hd16, Bool.true_and] at hb
      obtain ⟨e1, e2⟩ := hlast hb
      refine ⟨e1, ?_, e2⟩
      rw [cutK, if_neg (by rw [hb']; decide), hkl2]
    · rintro ⟨e1, e2, e3⟩
      have hne : childI (wmI (keyD n key) i 0 m) i (digP (keyD n key) i) ≠ [] := by
        rw [← hstep, e1]
        intro h0
        rw [h0] at hpl
        simp only [List.length_nil] at hpl
        omega
      have := kids_one (n := n) (f := 64 - 1 - i) q3 (by omega) (keyD n key) hne
      rw [← hstep, e1, hsg] at this
      cases this
  · intro i a hi
    have hmem : ∀ (j : Nat) (p : PR), ps[j]? = some p → ∃ y, (wmI (keyD n key) ss.length 0 m)[j]? = some y ∧ y.k = p.k ∧ y.v = p.v ∧ y.D = keyD n p.k := by
      intro j p hj
      have h3 := congrArg (·[j]?) h2
      simp only [List.getElem?_map, hj, Option.map_some] at h3
      cases hy : (wmI (keyD n key) ss.length 0 m)[j]? with
      | none => rw [hy] at h3; cases h3
      | some y =>
        rw [hy] at h3
        simp only [Option.map_some, Option.some.injEq, PR.dat, It.pr, Prod.mk.injEq] at h3
        exact ⟨y, rfl, h3.1.symm, h3.2.symm, by rw [hOE.dig y (List.mem_of_getElem? hy), h3.1]⟩
    obtain ⟨y, hy, yk, yv, yD⟩ := hmem i a hi
    have hym := List.mem_of_getElem? hy
    have hsi := singleB_iff.1 hsg
    have hsh := hOE.short y hym
    rw [yk, yv] at hsh
    refine ⟨by omega, by omega, fun p hi0 hp => ?_, fun p hp => ?_, ?_⟩
    · obtain ⟨z, hz, zk, zv, zD⟩ := hmem (i - 1) p hp
      obtain ⟨u1, u2⟩ := List.getElem?_eq_some_iff.1 hy
      obtain ⟨v1, v2⟩ := List.getElem?_eq_some_iff.1 hz
      have h3 := List.pairwise_iff_getElem.1 hOE.sorted (i - 1) i v1 u1 (by omega)
      rw [u2, v2] at h3
      have e := hsi y hym z (List.mem_of_getElem? hz)
      unfold cmpIt at h3
      rw [e, if_pos (by rw [cmpB_self])] at h3
      rw [← zk, ← yk]
      exact h3
    · obtain ⟨z, hz, zk, zv, zD⟩ := hmem 0 p hp
      rw [← yD, ← zD]
      exact hsi y hym z (List.mem_of_getElem? hz)
    · have hs2 : ss.length ≤ 2 * n := by
        by_cases h0 : ss.length = 0
        · omega
        · obtain ⟨_, _, _, q4⟩ := hat (ss.length - 1) _ (List.getElem?_eq_getElem (by omega))
          omega
      have hsub := (wmI_sub (keyD n key) ss.length 0).1 hym
      have e : comPP n (keyD n key) (keyD n a.k) = (((comP (keyD n key) (keyD n a.k) (2 * (n : Int).toNat) : Nat) : Int), 0) := by
        unfold keyD
        exact comPP_sum hw _ _
      rw [e, Int.toNat_natCast]
      have := com_ge (a := keyD n key) (b := keyD n a.k) (m := 2 * n) (t := ss.length) hs2 (fun j hj => by
        have := hsub.2 j hj
        rw [Nat.zero_add, yD] at this
        exact this.symm)
      simp only
      omega
theorem PathI.val {n : Nat} (hw : widB n = true) {m : List It} (hO : OkI n m) {key : List UInt8} {ss : List SR} {ps : List PR} (h : PathI n m key ss ps) : valOf ps key = getI m key := by
  obtain ⟨_, hend, _⟩ := walk_spec hw (keyD n key) 64 0 m hO hO.pre rfl
  have h2 := h.pairs
  rw [hend] at h2
  rw [← getI_wm hO key (walkI n (keyD n key) 64 0 m).1.length]
  generalize wmI (keyD n key) (walkI n (keyD n key) 64 0 m).1.length 0 m = l at h2
  clear hend h hO
  unfold valOf getI
  induction l generalizing ps with
  | nil =>
    have e : ps = [] := by simpa using h2
    subst e
    rfl
  | cons y l ih =>
    cases ps with
    | nil => simp at h2
    | cons p ps =>
      simp only [List.map_cons, List.cons.injEq, PR.dat, It.pr, Prod.mk.injEq] at h2
      have := ih h2.2
      by_cases hk : p.k = key
      · rw [List.find?_cons_of_pos (by simpa using hk), List.find?_cons_of_pos (by simp only [decide_eq_true_eq]; rw [← h2.1.1]; exact hk)]
        simp [h2.1.2]
      · rw [List.find?_cons_of_neg (by simpa using hk), List.find?_cons_of_neg (by simp only [decide_eq_true_eq]; rw [← h2.1.1]; exact hk)]
        exact this
end Go.Proofs.YthlkfjoibjhaiaaGreatDoor
