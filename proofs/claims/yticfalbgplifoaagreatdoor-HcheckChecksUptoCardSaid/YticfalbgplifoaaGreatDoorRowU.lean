/-
  The frame of rows that list the table and bound the bulk: questions (structs with lists of structs) opened, with their sizes; the table out of the row's list. Conditions: none; plain lemmas.
-/
import Derived.Test.YticfalbgplifoaaGreatDoorRow
import Derived.Test.YticfalbgplifoaaGreatDoorIter
import Derived.Lib.LaidTab
import Derived.Lib.SmallJoins
namespace Go.Proofs.YticfalbgplifoaaGreatDoor
set_option maxRecDepth 100000
open Go Go.RowKit Go.ChangeShapes Go.WideShapes Go.ChangeAt
set_option linter.unusedVariables false
set_option linter.unusedSimpArgs false

/-! ### Bulk -/
theorem bulk_one {H : Type} (d : DataW H) : 1 ≤ Rows.uptoBulk d := by
  cases d with
  | lit l => cases l <;> simp [Rows.uptoBulk]
  | nil => simp [Rows.uptoBulk]
  | ptr d => simp [Rows.uptoBulk]
  | slice elems spare => simp [Rows.uptoBulk]
  | agg parts => simp [Rows.uptoBulk]
  | iface t d => simp [Rows.uptoBulk]
  | map entries => simp [Rows.uptoBulk]
  | held h => simp [Rows.uptoBulk]
theorem bulk_mem {H : Type} {d : DataW H} {l : List (DataW H)} (h : d ∈ l) : Rows.uptoBulk d ≤ Rows.uptoBulkAll l := by
  induction l with
  | nil => cases h
  | cons x r ih =>
    simp only [Rows.uptoBulkAll]
    cases List.mem_cons.1 h with
    | inl e => subst e; omega
    | inr e => have := ih e; omega
theorem bulk_len {H : Type} (l : List (DataW H)) : l.length ≤ Rows.uptoBulkAll l := by
  induction l with
  | nil => simp [Rows.uptoBulkAll]
  | cons x r ih => have := bulk_one x; simp only [Rows.uptoBulkAll, List.length_cons]; omega
theorem bulk_agg {H : Type} {d : DataW H} {l : List (DataW H)} (h : d ∈ l) : Rows.uptoBulk d ≤ Rows.uptoBulk (.agg l) := by
  have := bulk_mem h
  simp only [Rows.uptoBulk]
  omega
theorem bulk_small {H : Type} {l : List (DataW H)} (hk : Rows.uptoSmall H l = true) : Rows.uptoBulkAll l ≤ 1048576 := by
  simpa [Rows.uptoSmall] using hk

/-! ### Lists opened, wherever they lie -/
section opened
variable {H : Type} {enc : TypeId × Value → H} {w : World} {sp : Nat → Bool} {fuel : Nat} {cs : List Value} {x : DataW H × List MemPlace}
theorem open_slb {α : Type} {f : α → List Value} {q : Nat → α → Prop} {P : Program} {t e sz : Nat} (ht : P.underlying t = some (.slice e)) (hsz : P.cellsOf e = sz) (hz : 0 < sz) (hq : ∀ m n a, m ≤ n → q m a → q n a)
    (hel : ∀ n cs x, DataW.trod enc P w 0 sp true n e cs = some x → ∃ a, f a = cs ∧ q (Rows.uptoBulk x.1) a) (hf : DataW.trod enc P w 0 sp true fuel t cs = some x) :
    ∃ (v : Value) (l : List α), cs = [v] ∧ (∀ a ∈ l, (f a).length = sz) ∧ SlC w v l.length (l.flatMap f) ∧ l.length ≤ Rows.uptoBulk x.1 ∧ ∀ a ∈ l, q (Rows.uptoBulk x.1) a := by
  rcases Go.Deep.open_slice ht hf with ⟨h1, h2⟩ | ⟨a, len, cap, m, n, D, Pl, h1, hb, hlc, hcm, hmm, hx, hall⟩
  · exact ⟨_, [], h1, by simp, ⟨none, 0, rfl, Nat.le_refl _, by decide, Or.inl rfl⟩, by simp, by simp⟩
  · have hlm : len ≤ m := by rw [hmm]; split <;> omega
    have hcm' : cap ≤ 9223372036854775807 := by simpa [maxLen] using hcm
    have hD : ∀ i, i < len → Rows.uptoBulk (D i) ≤ Rows.uptoBulk x.1 := by
      intro i hi
      rw [hx]
      simp only [Rows.uptoBulk]
      have := bulk_mem (d := D i) (l := (List.range len).map D) (List.mem_map.2 ⟨i, by simpa using hi, rfl⟩)
      omega
    have hlen : len ≤ Rows.uptoBulk x.1 := by
      rw [hx]
      simp only [Rows.uptoBulk]
      have := bulk_len ((List.range len).map D)
      simp at this
      omega
    by_cases h0 : len = 0
    · subst h0
      exact ⟨_, [], h1, by simp, ⟨_, cap, rfl, Nat.zero_le _, hcm', Or.inl rfl⟩, by simp, by simp⟩
    · obtain ⟨b, o, s⟩ := a
      have hspot : s = none := by
        obtain ⟨cs', hc, _⟩ := hall 0 (by omega)
        obtain ⟨_, hlen', hcell⟩ := World.cells?_some hc
        have h3 := hcell 0 (by omega)
        rw [hsz] at h3 hlen'
        cases s with
        | none => rfl
        | some s =>
          exfalso
          have h4 : w.cell? ⟨b, o, some s⟩ = cs'[0]? := by
            have : ((⟨b, o, some s⟩ : Addr).add (0 * sz)).add 0 = ⟨b, o, some s⟩ := by simp [Addr.add]
            rw [← this]
            exact h3
          rw [List.getElem?_eq_getElem (by omega)] at h4
          simp only [World.cell?] at h4
          split at h4 <;> simp at h4
      subst hspot
      obtain ⟨l, hl, hp⟩ := list_of (p := fun i (y : α) => (f y).length = sz ∧ (∀ k u, (f y)[k]? = some u → w.cell? ⟨b, o + (i * sz + k), none⟩ = some u) ∧ q (Rows.uptoBulk x.1) y) len (fun i hi => by
        obtain ⟨cs', hc, ht2⟩ := hall i (by omega)
        obtain ⟨y, rfl, hqy⟩ := hel _ _ _ ht2
        obtain ⟨_, hlen', hcell⟩ := World.cells?_some hc
        rw [hsz] at hlen' hcell
        refine ⟨y, hlen', fun k u hk => ?_, hq _ _ _ (hD i hi) hqy⟩
        have hk' : k < sz := by rw [← hlen']; exact (List.getElem?_eq_some_iff.1 hk).1
        have h5 := hcell k hk'
        rw [addr_add, addr_add, hk] at h5
        rwa [Nat.add_assoc] at h5)
      subst h1
      refine ⟨_, l, rfl, fun y hy => ?_, ⟨_, cap, by rw [hl], by omega, hcm', Or.inr ⟨b, o, rfl, fun j u hj => ?_⟩⟩, by omega, fun y hy => ?_⟩
      · obtain ⟨i, hi⟩ := List.getElem?_of_mem hy
        exact (hp i y hi).1
      · obtain ⟨y, h1, h2⟩ := flat_inv hz l j u (fun y hy => by obtain ⟨i, hi⟩ := List.getElem?_of_mem hy; exact (hp i y hi).1) hj
        have := (hp _ y h1).2.1 _ u h2
        rwa [show j / sz * sz + j % sz = j from by rw [Nat.mul_comm]; exact Nat.div_add_mod j sz] at this
      · obtain ⟨i, hi⟩ := List.getElem?_of_mem hy
        exact (hp i y hi).2.2
theorem vb_flat (l : List UInt8) : l.flatMap (fun b => [vb b]) = vbs l := by
  induction l with
  | nil => rfl
  | cons a l ih => simp only [List.flatMap_cons, ih]; rfl
theorem in_bytes (hf : DataW.trod enc Tryz.prog w 0 sp true fuel 22 cs = some x) : ∃ v xs, cs = [v] ∧ SlB w v xs ∧ xs.length ≤ Rows.uptoBulk x.1 := by
  obtain ⟨v, l, h1, _, h3, h4, _⟩ := open_slb (f := fun b => [vb b]) (q := fun _ _ => True) Tryz.underlying22 c5 (by decide) (fun _ _ _ _ h => h) (fun m cs x h => by obtain ⟨y, rfl⟩ := cells_u8 Tryz.underlying5 h; exact ⟨y, rfl, trivial⟩) hf
  rw [vb_flat] at h3
  exact ⟨v, l, h1, h3, h4⟩
theorem in_digs (hf : DataW.trod enc Tryz.prog w 0 sp true fuel 54 cs = some x) : ∃ v ds, cs = [v] ∧ DigsAt w v ds ∧ ds.length ≤ Rows.uptoBulk x.1 := by
  obtain ⟨v, l, h1, h2, h3, h4, _⟩ := open_slb (f := vbs) (q := fun _ _ => True) Tryz.underlying54 c28 (by decide) (fun _ _ _ _ h => h) (fun m cs x h => by obtain ⟨y, _, rfl⟩ := cells_bytes Tryz.underlying28 Tryz.underlying5 c5 c28 h; exact ⟨y, rfl, trivial⟩) hf
  exact ⟨v, l, h1, ⟨fun d hd => by have := h2 d hd; rwa [vbs_len] at this, h3⟩, h4⟩
theorem cell_one {cs : List Value} {n o : Nat} (h : cs.length = n) {v : Value} (hv : (cs.drop o).take 1 = [v]) : cs[o]? = some v := by
  have := congrArg (·[0]?) hv
  simpa using this
theorem in_step (hf : DataW.trod enc Tryz.prog w 0 sp true fuel 56 cs = some x) : ∃ s : SR, s.cells = cs ∧ s.bm < 65536 ∧ DigsAt w s.kv s.ks ∧ s.ks.length ≤ Rows.uptoBulk x.1 := by
  obtain ⟨y0, y1, n, rfl, hl, h0, h1⟩ := trod_struct2 Tryz.underlying56 hf
  rw [c56] at hl
  simp only [c53, c54] at h0 h1
  obtain ⟨m, e0, _, hm⟩ := DataW.trod_int Tryz.underlying53 h0
  obtain ⟨v, ds, e1, hd, hb⟩ := in_digs h1
  have hm' := wf_bounds hm
  simp [IntKind.min, IntKind.max, IntKind.signed, IntKind.bits] at hm'
  refine ⟨⟨v, m.toNat, ds⟩, ?_, by simp only; omega, hd, Nat.le_trans hb (bulk_agg (by simp))⟩
  match cs, hl with
  | [a, b], _ =>
    simp at e0 e1
    simp only [SR.cells, e0, e1]
    rw [Int.toNat_of_nonneg hm'.1]
theorem in_steps (hf : DataW.trod enc Tryz.prog w 0 sp true fuel 23 cs = some x) : ∃ v ss, cs = [v] ∧ StepsAt w v ss ∧ ss.length ≤ Rows.uptoBulk x.1 ∧ ∀ s ∈ ss, s.ks.length ≤ Rows.uptoBulk x.1 := by
  obtain ⟨v, l, h1, h2, h3, h4, h5⟩ := open_slb (f := SR.cells) (q := fun m s => s.bm < 65536 ∧ DigsAt w s.kv s.ks ∧ s.ks.length ≤ m) Tryz.underlying23 c56 (by decide) (fun m n a h g => ⟨g.1, g.2.1, Nat.le_trans g.2.2 h⟩) (fun m cs x h => by obtain ⟨s, e, g⟩ := in_step h; exact ⟨s, e, g⟩) hf
  exact ⟨v, l, h1, ⟨h3, fun s hs => ⟨(h5 s hs).1, (h5 s hs).2.1⟩⟩, h4, fun s hs => (h5 s hs).2.2⟩
theorem in_pair (hf : DataW.trod enc Tryz.prog w 0 sp true fuel 52 cs = some x) : ∃ p : PR, p.cells = cs ∧ SlB w p.kv p.k ∧ SlB w p.vv p.v ∧ p.k.length ≤ Rows.uptoBulk x.1 ∧ p.v.length ≤ Rows.uptoBulk x.1 := by
  obtain ⟨y0, y1, n, rfl, hl, h0, h1⟩ := trod_struct2 Tryz.underlying52 hf
  rw [c52] at hl
  simp only [c22] at h0 h1
  obtain ⟨u, xs, e0, hu, hb0⟩ := in_bytes h0
  obtain ⟨v, ys, e1, hv, hb1⟩ := in_bytes h1
  refine ⟨⟨u, v, xs, ys⟩, ?_, hu, hv, Nat.le_trans hb0 (bulk_agg (by simp)), Nat.le_trans hb1 (bulk_agg (by simp))⟩
  match cs, hl with
  | [a, b], _ =>
    simp at e0 e1
    simp only [PR.cells, e0, e1]
theorem in_pairs (hf : DataW.trod enc Tryz.prog w 0 sp true fuel 24 cs = some x) : ∃ v ps, cs = [v] ∧ PairsAt w v ps ∧ ps.length ≤ Rows.uptoBulk x.1 ∧ ∀ p ∈ ps, p.k.length ≤ Rows.uptoBulk x.1 ∧ p.v.length ≤ Rows.uptoBulk x.1 := by
  obtain ⟨v, l, h1, h2, h3, h4, h5⟩ := open_slb (f := PR.cells) (q := fun m p => SlB w p.kv p.k ∧ SlB w p.vv p.v ∧ p.k.length ≤ m ∧ p.v.length ≤ m) Tryz.underlying24 c52 (by decide) (fun m n a h g => ⟨g.1, g.2.1, Nat.le_trans g.2.2.1 h, Nat.le_trans g.2.2.2 h⟩) (fun m cs x h => by obtain ⟨s, e, g⟩ := in_pair h; exact ⟨s, e, g⟩) hf
  exact ⟨v, l, h1, ⟨h3, fun s hs => ⟨(h5 s hs).1, (h5 s hs).2.1⟩⟩, h4, fun s hs => (h5 s hs).2.2⟩

/-- A proof of a key that may be read: its lists, and how long they are. -/
structure ProofIn (w : World) (sv pv : Value) (ss : List SR) (ps : List PR) (b : Nat) : Prop where
  steps : StepsAt w sv ss
  pairs : PairsAt w pv ps
  sl : ss.length ≤ b
  kl : ∀ s ∈ ss, s.ks.length ≤ b
  pl : ps.length ≤ b
  el : ∀ p ∈ ps, p.k.length ≤ b ∧ p.v.length ≤ b
theorem ProofIn.mono {w : World} {sv pv : Value} {ss : List SR} {ps : List PR} {b c : Nat} (h : ProofIn w sv pv ss ps b) (hb : b ≤ c) : ProofIn w sv pv ss ps c :=
  ⟨h.steps, h.pairs, Nat.le_trans h.sl hb, fun s hs => Nat.le_trans (h.kl s hs) hb, Nat.le_trans h.pl hb, fun p hp => ⟨Nat.le_trans (h.el p hp).1 hb, Nat.le_trans (h.el p hp).2 hb⟩⟩
theorem in_proof (hf : DataW.trod enc Tryz.prog w 0 sp true fuel 26 cs = some x) : ∃ sv pv ss ps, cs = [sv, pv] ∧ ProofIn w sv pv ss ps (Rows.uptoBulk x.1) := by
  obtain ⟨y0, y1, n, rfl, hl, h0, h1⟩ := trod_struct2 Tryz.underlying26 hf
  rw [c26] at hl
  simp only [c23, c24] at h0 h1
  obtain ⟨u, ss, e0, hu, hb0, hk0⟩ := in_steps h0
  obtain ⟨v, ps, e1, hv, hb1, hk1⟩ := in_pairs h1
  have b0 : Rows.uptoBulk y0.1 ≤ Rows.uptoBulk (DataW.agg [y0.1, y1.1]) := bulk_agg (by simp)
  have b1 : Rows.uptoBulk y1.1 ≤ Rows.uptoBulk (DataW.agg [y0.1, y1.1]) := bulk_agg (by simp)
  refine ⟨u, v, ss, ps, ?_, hu, hv, Nat.le_trans hb0 b0, fun s hs => Nat.le_trans (hk0 s hs) b0, Nat.le_trans hb1 b1, fun p hp => ⟨Nat.le_trans (hk1 p hp).1 b1, Nat.le_trans (hk1 p hp).2 b1⟩⟩
  match cs, hl with
  | [a, b], _ =>
    simp at e0 e1
    simp only [e0, e1]
end opened

end Go.Proofs.YticfalbgplifoaaGreatDoor
