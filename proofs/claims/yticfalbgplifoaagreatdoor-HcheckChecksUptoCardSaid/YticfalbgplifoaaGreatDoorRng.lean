/-
  A range over slices.Backward as a rule of the calculus. Conditions: as stated in each theorem.
-/
import Derived.Test.YticfalbgplifoaaGreatDoorIter
namespace Go.Proofs.YticfalbgplifoaaGreatDoor
set_option maxRecDepth 100000
open Go Go.RowKit
set_option linter.unusedVariables false
set_option linter.unusedSimpArgs false

/-- All blocks below B but d stay. -/
structure KD (B d : Nat) (w w' : World) : Prop where
  os : w'.os = w.os
  tape : w'.tape = w.tape
  output : w'.output = w.output
  size : w.heap.size ≤ w'.heap.size
  other : ∀ k, k < B → k ≠ d → w'.heap[k]? = w.heap[k]?
theorem KD.rfl' (B d : Nat) (w : World) : KD B d w w := ⟨rfl, rfl, rfl, Nat.le_refl _, fun _ _ _ => rfl⟩
theorem KD.trans {B d : Nat} {a b c : World} (h : KD B d a b) (g : KD B d b c) : KD B d a c :=
  ⟨g.os.trans h.os, g.tape.trans h.tape, g.output.trans h.output, Nat.le_trans h.size g.size, fun k hk hd => (g.other k hk hd).trans (h.other k hk hd)⟩
theorem KD.of_below {B d : Nat} {w w' : World} (h : Below B w w') : KD B d w w' := ⟨h.os, h.tape, h.output, h.size, fun k hk _ => h.block k hk⟩
theorem KD.of_keepB {B d : Nat} {w w' : World} (h : KeepB w w' d) (hB : B ≤ w.heap.size) : KD B d w w' := ⟨h.os, h.tape, h.output, h.size, fun k hk hd => h.other k (by omega) hd⟩
theorem KD.blk {B d c : Nat} {T : TypeId} {l : List Value} {w w' : World} (h : KD B d w w') (k : Blk w c T l) (hc : c < B) (hd : c ≠ d) : Blk w' c T l := ⟨by rw [h.other c hc hd]; exact k.out⟩
theorem KD.ext {B d : Nat} {w0 w w' : World} (h : KD B d w w') (e : Ext w0 w) (h1 : w0.heap.size ≤ d) (h2 : w0.heap.size ≤ B) : Ext w0 w' :=
  ⟨h.os.trans e.os, h.tape.trans e.tape, h.output.trans e.output, Nat.le_trans e.size h.size, fun k hk => (h.other k (by omega) (by omega)).trans (e.block k hk)⟩
theorem keepsFrom_of {B d : Nat} {w w' : World} (h : KeepB w w' d) (hd : d < B) : KeepsFrom B w w' :=
  ⟨h.size, fun k o hB hk _ => (h.other k (Array.getElem?_eq_some_iff.1 hk).1 (by omega)).trans hk⟩
theorem blk_own {β : Type} (B b T : Nat) (l : β → List Value) : OwnFrom B (fun s W => Blk W b T (l s)) := by
  intro s W W' row hs hg hr
  have e : some b ≠ row := by
    intro e
    obtain ⟨_, o, ho, hc⟩ := hr b e.symm
    rw [hs.out] at ho
    cases ho
    cases hc
  exact ⟨by rw [hg.block b hs.lt e]; exact hs.out⟩
theorem kd_own {β : Type} {B C d : Nat} (w : World) (hC : C ≤ B) (hw : C ≤ w.heap.size) : OwnFrom B (fun (_ : β) W => KD C d w W) := by
  intro s W W' row hs hg hr
  refine ⟨hg.os.trans hs.os, hg.tape.trans hs.tape, hg.output.trans hs.output, Nat.le_trans hs.size hg.size, fun k hk hd => ?_⟩
  have e := hs.other k hk hd
  have hkw : k < W.heap.size := by have := hs.size; omega
  have hne : some k ≠ row := by
    intro e'
    have := (hr k e'.symm).1
    omega
  rw [hg.block k hkw hne]
  exact e

theorem wpIn_n {P : Program} {c : Code} {ro : Option Nat} {k m : Nat} {Q : Exit → Act → World → Prop} {a : Act} {w : World} (h : c.wpIn (FW ro) k P Q a w) : c.wpIn (FW ro) m P Q a w :=
  fun b ks cs hro hb _ => h b ks cs hro hb (fun d hd => by cases hd)

theorem rangeT {P : Program} {n : Nat} {g : Operand} {ps : Array Tmp} {assign body : Code} {R : Exit → Act → World → Prop} (gf Bs d p0 p1 : Nat) {ss : List SR} {a : Act} {s : Fm} {w : World} (hF : Fr [] a n s) (hg : ev s g = .func (.func gf) #[] #[.pointer (some ⟨Bs, 0, none⟩)]) (hc : callable P gf = true)
    (hit : ∀ (l : Nat) (J Jx : List (Nat × SR) → World → Prop) (W : World), KD w.heap.size d w W → J [] W →
      (∀ pre x W1, x ∈ backL ss → J pre W1 → KD w.heap.size d w W1 → pre.length < ss.length → YieldAt Fence.wide 0 P l #[.int .i64 (x.1 : Nat), .agg x.2.cells.toArray] W1 fun e W' =>
        (e = .returned (.bool true) ∧ J (pre ++ [x]) W' ∧ KD w.heap.size d w W') ∨ (e = .returned (.bool false) ∧ Jx (pre ++ [x]) W')) →
      CallK P gf [.func (.yield l) #[] #[], .pointer (some ⟨Bs, 0, none⟩)].toArray W fun _ W' => J (backL ss) W' ∨ ∃ pre, Jx pre W')
    (hps : ps = #[p0, p1]) (hp0 : p0 < n) (hp1 : p1 < n) (I : List (Nat × SR) → World → Prop) (hI : OwnFrom w.heap.size I) (h0 : I [] w) (A : Nat × SR → Fm → World → Prop) (hA : ∀ x s', OwnFrom w.heap.size (fun (_ : Unit) W => A x s' W))
    (hassign : ∀ l pre x W, x ∈ backL ss → I pre W → vcT P n (some l) assign (upd (upd s p0 (.int .i64 (x.1 : Nat))) p1 (.agg x.2.cells.toArray)) W (seqQ (fun s' W' => KeepsFrom w.heap.size W W' ∧ KD w.heap.size d W W' ∧ I pre W' ∧ A x s' W') (fun _ _ _ => False)))
    (hbody : ∀ l pre x s' W, x ∈ backL ss → w.heap.size ≤ W.heap.size → I pre W → A x s' W → pre.length < ss.length → vcT P n (some l) body s' W (seqQ (fun s'' W' => KeepsFrom w.heap.size W W' ∧ KD w.heap.size d W W' ∧ I (pre ++ [x]) W') (fun _ _ _ => False)))
    (hdone : ∀ (D : Nat) (W : World), w.heap.size ≤ D → I (backL ss) W → W.heap[D]? = some (.deferred (some [])) → R .normal { a with defers := { target := .collected D, args := #[] } :: a.defers } W) :
    (Code.rangeFunc g ps assign body).wpIn (FW none) 0 P R a w := by
  subst hps
  refine wpIn_n (k := 1) ?_
  refine wpIn_rangeFunc_ownH (α := { x : Nat × SR // x ∈ backL ss }) (F := FW none) (n := 1) rfl (Nat.le_refl _) (gf := gf) (lb := #[.pointer (some ⟨Bs, 0, none⟩)]) (by rw [hF.ev]; exact hg) trivial (fun args w => run_callFunc_of hc args w)
    (encs := fun x => #[.int .i64 (x.1.1 : Nat), .agg x.1.2.cells.toArray]) (Kp := KD w.heap.size d) (S := fun xs => xs.map (·.1) = backL ss) (Sp := fun _ => True) (N := ss.length) (w0 := w) ?_ (fun h k => h.trans k) ?_ (Below.refl _ _) (fun _ => rfl)
    (fun (pre : List { x : Nat × SR // x ∈ backL ss }) W => I (pre.map (·.1)) W) (fun _ _ _ => False) (fun s W W' row hs hg hr => hI (s.map (·.1)) W W' row hs hg hr) (fun _ _ _ _ _ h _ _ => h) h0 (fun x a' W => ∃ s', Fr [] a' n s' ∧ A x.1 s' W) ?_ ?_ ?_ ?_ ?_
  · intro l J Jx W hW _ _ hY hJ0
    have h := (hit l (fun pre W => ∃ pre', pre'.map (·.1) = pre ∧ J pre' W) (fun pre W => ∃ pre', pre'.map (·.1) = pre ∧ Jx pre' W) W (KD.of_below hW) ⟨[], rfl, hJ0⟩ (fun pre x W1 hx hJ1 hM1 hlen => by
      obtain ⟨pre', rfl, hJ1⟩ := hJ1
      obtain ⟨fn, tmps, assign, body, hy, hR⟩ := yield_n (k := 0 - 1) (m := 0) (hY pre' ⟨x, hx⟩ W1 hJ1 (by simpa using hlen))
      refine ⟨fn, tmps, assign, body, hy, hR.mono ?_⟩
      rintro e W' (⟨h1, h2, h3⟩ | ⟨h1, h2⟩)
      · exact Or.inl ⟨h1, ⟨_, by simp, h2⟩, hM1.trans h3⟩
      · exact Or.inr ⟨h1, ⟨_, by simp, h2⟩⟩)).body hc
    refine callsFW none 0 (h.calls.mono ?_)
    rintro e W' ⟨v, rfl, ⟨pre', hp, h⟩ | ⟨pre, pre', hp, h⟩⟩
    · exact ⟨⟨v, rfl⟩, Or.inl ⟨pre', hp, h⟩⟩
    · exact ⟨⟨v, rfl⟩, Or.inr ⟨pre', trivial, h⟩⟩
  · intro W l o o' hl hWl ho _
    exact ⟨rfl, rfl, rfl, by simp, fun k hk _ => World.putObj_heap_other (by omega)⟩
  · intro x a' _ W W' row ⟨s', hs', hAx⟩ hg hr
    exact ⟨s', hs', hA x.1 s' () W W' row hAx hg hr⟩
  · intro l pre x W K hIp hK
    have hfr : Fr [] { tmps := ((#[p0, p1] : Array Tmp).zip #[Value.int .i64 (x.1.1 : Nat), .agg x.1.2.cells.toArray]).foldl (fun t (p, v) => t.setIfInBounds p v) a.tmps, defers := [] } n (upd (upd s p0 (.int .i64 (x.1.1 : Nat))) p1 (.agg x.1.2.cells.toArray)) := by
      have h1 := (hF.put (d := some p0) hp0 (.int .i64 (x.1.1 : Nat))).put (d := some p1) hp1 (.agg x.1.2.cells.toArray)
      refine ⟨rfl, ?_, ?_⟩
      · have := h1.size; simpa [Act.put] using this
      · intro j
        have := h1.at_ j
        simpa [Act.put, updO] using this
    refine wpIn_mono (vc_sound (ro := some l) _ _ _ _ (hassign l _ x.1 W x.2 hIp) [] _ hfr) ?_
    rintro e a' W' ⟨s', hF', hq⟩
    cases e <;> simp only [seqQ] at hq
    exact hK a' W' hq.1 hq.2.1 hq.2.2.1 ⟨s', hF', hq.2.2.2⟩
  · intro l pre x a' W hl ⟨r, hr⟩ hIp ⟨s', hs', hAx⟩ hlen
    have hsz : w.heap.size ≤ W.heap.size := by
      have := (Array.getElem?_eq_some_iff.1 hr).1
      omega
    refine wpIn_mono (vc_sound (ro := some l) _ _ _ _ (hbody l _ x.1 s' W x.2 hsz hIp hAx (by simpa using hlen)) [] _ hs') ?_
    rintro e a'' W' ⟨s'', hF', hq⟩
    cases e <;> simp only [seqQ] at hq
    exact ⟨hq.1, hq.2.1, by simpa using hq.2.2⟩
  · intro D xs W hD hS hIx hW
    rw [hS] at hIx
    exact hdone D W hD hIx hW
  · intro D c pre W _ _ h
    exact h.elim
theorem keepsFrom_ext {B : Nat} {w w' : World} (h : Ext w w') : KeepsFrom B w w' := ⟨h.size, fun k o _ hk _ => (h.block k (Array.getElem?_eq_some_iff.1 hk).1).trans hk⟩

end Go.Proofs.YticfalbgplifoaaGreatDoor
