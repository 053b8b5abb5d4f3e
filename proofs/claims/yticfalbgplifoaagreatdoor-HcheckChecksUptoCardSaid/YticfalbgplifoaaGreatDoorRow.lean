/-
  The frame of the rows: a law's row out of its walk, whatever its parameters; digests and numbers opened. Conditions: none; plain lemmas.
-/
import Derived.Test.YticfalbgplifoaaGreatDoorDat
import Derived.Deep.Slices
namespace Go.Proofs.YticfalbgplifoaaGreatDoor
set_option maxRecDepth 100000
open Go Go.RowKit Go.ChangeShapes Go.WideShapes Go.ChangeAt
set_option linter.unusedVariables false
set_option linter.unusedSimpArgs false

/-- Each of the types can be read and is a row of the table. -/
def rowedT (P : Program) (ts : List TypeId) : Bool := ts.all fun t => P.readableRec t && decide (t < P.types.size)

theorem below_trodAll {H : Type} {enc : TypeId × Value → H} {P : Program} (hl : laidOutB P = true) {W W' : World} (hb : Below W.heap.size W W') :
    ∀ {ts : List TypeId} {vs : List Value} {ds : List (DataW H)} {ps : List MemPlace}, rowedT P ts = true → DataW.TrodAll enc P W 0 (fun _ => true) true ts vs ds ps → (∀ x ∈ ps, x.block < W.heap.size) → DataW.TrodAll enc P W' 0 (fun b => decide (b < W.heap.size)) true ts vs ds ps
  | [], [], [], _, _, h, _ => h
  | [], _ :: _, _, _, _, h, _ => by simp [DataW.TrodAll] at h
  | [], [], _ :: _, _, _, h, _ => by simp [DataW.TrodAll] at h
  | _ :: _, [], _, _, _, h, _ => by simp [DataW.TrodAll] at h
  | _ :: _, _ :: _, [], _, _, h, _ => by simp [DataW.TrodAll] at h
  | t :: ts, v :: vs, d :: ds, ps, hr, h, hlt => by
    obtain ⟨p, q, h1, h2, rfl⟩ := h
    simp only [rowedT, List.all_cons, Bool.and_eq_true, decide_eq_true_eq] at hr
    refine ⟨p, q, Below.trod hl hr.1.1 hr.1.2 h1 hb (fun x hx => hlt x (by simp [hx])), below_trodAll hl hb (by simpa [rowedT] using hr.2) h2 (fun x hx => hlt x (by simp [hx])), rfl⟩

theorem trodAll_len {H : Type} {enc : TypeId × Value → H} {P : Program} {w : World} {base : Nat} {sp : Nat → Bool} {held : Bool} :
    ∀ {ts : List TypeId} {vs : List Value} {ds : List (DataW H)} {ps : List MemPlace}, DataW.TrodAll enc P w base sp held ts vs ds ps → ds.length = ts.length ∧ vs.length = ts.length
  | [], [], [], _, _ => ⟨rfl, rfl⟩
  | [], _ :: _, _, _, h => by simp [DataW.TrodAll] at h
  | [], [], _ :: _, _, h => by simp [DataW.TrodAll] at h
  | _ :: _, [], _, _, h => by simp [DataW.TrodAll] at h
  | _ :: _, _ :: _, [], _, h => by simp [DataW.TrodAll] at h
  | t :: ts, v :: vs, d :: ds, ps, h => by
    obtain ⟨p, q, _, h2, _⟩ := h
    have := trodAll_len h2
    simp [this.1, this.2]

/-- What a law's row asks of the end, given what the walk says: true, and nothing old has turned. -/
theorem law_post {H : Type} {enc : TypeId × Value → H} {P : Program} (hl : laidOutB P = true) {f : Func} {s : ChangeSpec} {tb : TypeId} (hr : f.resultTypes = #[tb]) (hb : P.underlying tb = some .bool)
    (hp : rowedT P f.params.toList = true) (hv : s.vars = []) {W W' : World} {args : Array Value} {ds gs : List (DataW H)} {before : List MemPlace}
    (hW : DataW.Whole enc P f.params.toList s.vars false W args.toList ds gs before)
    (hfn : (s.fn H (ds ++ gs)).results = [.lit (.bool true)] ∧ (s.fn H (ds ++ gs)).args = ds ∧ (s.fn H (ds ++ gs)).vars = gs) (hE : Ext W W') :
    s.post enc P f false true false false W args (.bool true) W' := by
  have hW' := hW
  obtain ⟨p, q, hA, hV, rfl, hfz, hnd⟩ := hW
  refine ⟨ds, gs, p ++ q, [], p, q, hW', ?_, ?_, ?_, hE.frame _, fun h => by cases h⟩
  · rw [hfn.1, hr]
    exact trodAll_cons_mk (shut_bool hb _) trodAll_mk0
  · rw [hfn.2.1]
    exact below_trodAll hl hE hp hA (fun x hx => by simpa using hW'.lt x (by simp [hx]))
  · rw [hfn.2.2]
    rw [hv] at hV ⊢
    obtain ⟨rfl, rfl⟩ := trodVars_none hV
    rfl

theorem CallK.toCalls {P : Program} {f : FuncId} {args : Array Value} {w : World} (h : CallK P f args w fun v w' => v = .bool true ∧ Ext w w') (hb : callable P f = true) : Calls P f args w fun e w' => e = .returned (.bool true) ∧ Ext w w' :=
  (h.body hb).calls.mono fun e w' ⟨v, he, hv, hE⟩ => ⟨by rw [he, hv], hE⟩

/-! ### Arguments opened -/
theorem wf_bounds {k : IntKind} {n : Int} (h : (Lit.int k n).wf = true) : k.min ≤ n ∧ n ≤ k.max := by
  simpa [Lit.wf] using h
theorem cells_u8 {H : Type} {enc : TypeId × Value → H} {P : Program} {w : World} {base : Nat} {sp : Nat → Bool} {held : Bool} {fuel e : Nat} {c : List Value} {x : DataW H × List MemPlace} (he : P.underlying e = some (.int .u8))
    (h : DataW.trod enc P w base sp held fuel e c = some x) : ∃ b : UInt8, c = [vb b] := by
  obtain ⟨n, h1, hx, hw⟩ := DataW.trod_int he h
  have hb := wf_bounds hw
  simp [IntKind.min, IntKind.max, IntKind.signed, IntKind.bits] at hb
  refine ⟨UInt8.ofNat n.toNat, ?_⟩
  rw [h1]
  simp only [vb, UInt8.toNat_ofNat', List.cons.injEq, and_true]
  rw [Nat.mod_eq_of_lt (by omega), Int.toNat_of_nonneg hb.1]

theorem list_of_cells : ∀ (n : Nat) (cs : List Value), cs.length = n → (∀ i, i < n → ∃ b : UInt8, (cs.drop i).take 1 = [vb b]) → ∃ l : List UInt8, l.length = n ∧ cs = vbs l
  | 0, cs, h, _ => ⟨[], rfl, by simpa [vbs] using h⟩
  | n + 1, [], h, _ => by simp at h
  | n + 1, c :: cs, h, hc => by
    obtain ⟨l, hl, rfl⟩ := list_of_cells n cs (by simpa using h) (fun i hi => by simpa using hc (i + 1) (by omega))
    obtain ⟨b, hb⟩ := hc 0 (by omega)
    exact ⟨b :: l, by simp [hl], by simp at hb; simp [vbs, hb]⟩

theorem cells_bytes {H : Type} {enc : TypeId × Value → H} {P : Program} {w : World} {base : Nat} {sp : Nat → Bool} {held : Bool} {fuel t e n : Nat} {cs : List Value} {x : DataW H × List MemPlace} (ht : P.underlying t = some (.array n e)) (he : P.underlying e = some (.int .u8))
    (hc : P.cellsOf e = 1) (hct : P.cellsOf t = n) (h : DataW.trod enc P w base sp held fuel t cs = some x) : ∃ l : List UInt8, l.length = n ∧ cs = vbs l := by
  obtain ⟨xs, m, rfl, rfl, hlen, hxs, hall⟩ := DataW.trod_array ht h
  refine list_of_cells n cs (hlen.trans hct) (fun i hi => ?_)
  have := hall i hi
  rw [hc, Nat.mul_one, List.getElem?_eq_getElem (by omega)] at this
  exact cells_u8 he this

/-- An argument that is an array of bytes. -/
theorem open_bytes {H : Type} {enc : TypeId × Value → H} {P : Program} {w : World} {base b0 : Nat} {r : Reach} {sp : Nat → Bool} {held : Bool} {t e n : Nat} {v : Value} {d : DataW H} {ps : List MemPlace} (ht : P.underlying t = some (.array n e)) (he : P.underlying e = some (.int .u8))
    (hc : P.cellsOf e = 1) (hct : P.cellsOf t = n) (hval : Value.okWide P w r b0 t v) (hd : DataW.Trod enc P w base sp held t v d ps) : ∃ l : List UInt8, l.length = n ∧ v = .agg (vbs l).toArray := by
  obtain ⟨fuel, hf⟩ := hd
  simp only [Value.okWide, ht] at hval
  obtain ⟨cs, rfl, hsz, _⟩ := hval
  obtain ⟨l, hl, hcs⟩ := cells_bytes ht he hc hct hf
  exact ⟨l, hl, by rw [← hcs]; simp [Value.cells]⟩
theorem open_num {H : Type} {enc : TypeId × Value → H} {P : Program} {w : World} {base b0 : Nat} {r : Reach} {sp : Nat → Bool} {held : Bool} {t : Nat} {k : IntKind} {v : Value} {d : DataW H} {ps : List MemPlace} (ht : P.underlying t = some (.int k))
    (hval : Value.okWide P w r b0 t v) (hd : DataW.Trod enc P w base sp held t v d ps) : ∃ n : Int, v = .int k n ∧ k.min ≤ n ∧ n ≤ k.max := by
  obtain ⟨n, rfl, _, _, h⟩ := open_int ht hval hd
  exact ⟨n, rfl, wf_bounds h⟩

theorem list_of {α : Type} {p : Nat → α → Prop} : ∀ n, (∀ i, i < n → ∃ x, p i x) → ∃ l : List α, l.length = n ∧ ∀ i x, l[i]? = some x → p i x
  | 0, _ => ⟨[], rfl, by simp⟩
  | n + 1, h => by
    obtain ⟨l, hl, hp⟩ := list_of n (fun i hi => h i (by omega))
    obtain ⟨x, hx⟩ := h n (by omega)
    refine ⟨l ++ [x], by simp [hl], fun i y hy => ?_⟩
    by_cases hi : i < n
    · rw [List.getElem?_append_left (by omega)] at hy; exact hp i y hy
    · rw [List.getElem?_append_right (by omega)] at hy
      have : i - l.length = 0 := by
        rcases Nat.eq_zero_or_pos (i - l.length) with h0 | h0
        · exact h0
        · rw [List.getElem?_eq_none (by simp; omega)] at hy; cases hy
      have e : i = n := by omega
      rw [this] at hy
      simp at hy
      rw [e, ← hy]; exact hx
theorem flat_inv {α : Type} {f : α → List Value} {sz : Nat} (hz : 0 < sz) : ∀ (ds : List α) (j : Nat) (u : Value), (∀ d ∈ ds, (f d).length = sz) → (ds.flatMap f)[j]? = some u → ∃ d, ds[j / sz]? = some d ∧ (f d)[j % sz]? = some u
  | [], j, u, _, h => by simp at h
  | x :: ds, j, u, hs, h => by
    have hx : (f x).length = sz := hs x (by simp)
    simp only [List.flatMap_cons] at h
    by_cases hj : j < sz
    · rw [List.getElem?_append_left (by omega)] at h
      exact ⟨x, by rw [Nat.div_eq_of_lt hj]; rfl, by rw [Nat.mod_eq_of_lt hj]; exact h⟩
    · rw [List.getElem?_append_right (by omega), hx] at h
      obtain ⟨d, h1, h2⟩ := flat_inv hz ds (j - sz) u (fun d hd => hs d (by simp [hd])) h
      refine ⟨d, ?_, ?_⟩
      · rw [Nat.div_eq_sub_div hz (by omega)]; exact h1
      · rw [show j % sz = (j - sz) % sz from by rw [Nat.mod_eq_sub_mod (by omega)]]; exact h2

/-- A slice, opened: what stands at each index is told by p. -/
theorem open_sl {α : Type} {f : α → List Value} {H : Type} {enc : TypeId × Value → H} {P : Program} {w : World} {b0 : Nat} {r : Reach} {sp : Nat → Bool} {t e sz : Nat} {v : Value} {d : DataW H} {ps : List MemPlace} (ht : P.underlying t = some (.slice e)) (hsz : P.cellsOf e = sz) (hz : 0 < sz)
    (hel : ∀ n cs x, DataW.trod enc P w 0 sp true n e cs = some x → ∃ a, f a = cs) (hval : Value.okWide P w r b0 t v) (hd : DataW.Trod enc P w 0 sp true t v d ps) :
    ∃ l : List α, (∀ a ∈ l, (f a).length = sz) ∧ SlC w v l.length (l.flatMap f) := by
  obtain ⟨fuel, hf⟩ := hd
  obtain ⟨a0, len0, cap0, rfl⟩ := okWide_slice ht hval
  rcases Go.Deep.open_slice ht hf with ⟨h1, _⟩ | ⟨a, len, cap, m, n, D, Pl, h1, hb, hlc, hcm, hmm, _, hall⟩
  · simp [Value.cells] at h1
    obtain ⟨rfl, rfl, rfl⟩ := h1
    exact ⟨[], by simp, none, 0, rfl, Nat.le_refl _, by omega, Or.inl rfl⟩
  · simp [Value.cells] at h1
    obtain ⟨rfl, rfl, rfl⟩ := h1
    have hspot : a.spot = none := by
      simp only [Value.okWide, ht, Cell.okWide, Cell.ok] at hval
      exact hval.2.2.2.1
    have hlm : len0 ≤ m := by rw [hmm]; split <;> omega
    obtain ⟨b, o, s⟩ := a
    simp only at hspot
    subst hspot
    have hadd : ∀ k, (⟨b, o, none⟩ : Addr).add k = ⟨b, o + k, none⟩ := fun k => by unfold Addr.add; split <;> simp_all
    obtain ⟨l, hl, hp⟩ := list_of (p := fun i (x : α) => (f x).length = sz ∧ ∀ k u, (f x)[k]? = some u → w.cell? ⟨b, o + (i * sz + k), none⟩ = some u) len0 (fun i hi => by
      obtain ⟨cs, hc, ht2⟩ := hall i (by omega)
      obtain ⟨x, rfl⟩ := hel _ _ _ ht2
      obtain ⟨_, hlen, hcell⟩ := World.cells?_some hc
      rw [hsz] at hlen hcell
      refine ⟨x, hlen, fun k u hk => ?_⟩
      have hk' : k < sz := by rw [← hlen]; exact (List.getElem?_eq_some_iff.1 hk).1
      have := hcell k hk'
      rw [hadd, Addr.add] at this
      split at this
      · rename_i h0; subst h0; rw [hk] at this; simpa using this
      · rw [hk] at this; simpa [Nat.add_assoc] using this)
    refine ⟨l, fun x hx => ?_, _, _, by rw [hl], by omega, by simpa [maxLen] using hcm, Or.inr ⟨b, o, rfl, fun j u hj => ?_⟩⟩
    · obtain ⟨i, hi⟩ := List.getElem?_of_mem hx
      exact (hp i x hi).1
    · obtain ⟨x, h1, h2⟩ := flat_inv hz l j u (fun x hx => by obtain ⟨i, hi⟩ := List.getElem?_of_mem hx; exact (hp i x hi).1) hj
      have := (hp _ x h1).2 _ u h2
      rwa [show j / sz * sz + j % sz = j from by rw [Nat.mul_comm]; exact Nat.div_add_mod j sz] at this

/-- A slice of arrays of bytes. -/
theorem open_digs {H : Type} {enc : TypeId × Value → H} {P : Program} {w : World} {b0 : Nat} {r : Reach} {sp : Nat → Bool} {t e u n : Nat} {v : Value} {d : DataW H} {ps : List MemPlace} (ht : P.underlying t = some (.slice e)) (he : P.underlying e = some (.array n u)) (hu : P.underlying u = some (.int .u8))
    (hc : P.cellsOf u = 1) (hce : P.cellsOf e = n) (hn : 0 < n) (hval : Value.okWide P w r b0 t v) (hd : DataW.Trod enc P w 0 sp true t v d ps) : ∃ l : List (List UInt8), (∀ x ∈ l, x.length = n) ∧ SlC w v l.length (l.flatMap vbs) := by
  obtain ⟨l, h1, h2⟩ := open_sl (f := vbs) ht hce hn (fun m cs x h => by obtain ⟨y, _, rfl⟩ := cells_bytes he hu hc hce h; exact ⟨y, rfl⟩) hval hd
  exact ⟨l, fun x hx => by have := h1 x hx; rwa [vbs_len] at this, h2⟩
/-- A slice of bytes. -/
theorem open_bs {H : Type} {enc : TypeId × Value → H} {P : Program} {w : World} {b0 : Nat} {r : Reach} {sp : Nat → Bool} {t e : Nat} {v : Value} {d : DataW H} {ps : List MemPlace} (ht : P.underlying t = some (.slice e)) (he : P.underlying e = some (.int .u8))
    (hc : P.cellsOf e = 1) (hval : Value.okWide P w r b0 t v) (hd : DataW.Trod enc P w 0 sp true t v d ps) : ∃ l : List UInt8, SlC w v l.length (vbs l) := by
  obtain ⟨l, h1, h2⟩ := open_sl (f := fun b => [vb b]) ht hc (by decide) (fun m cs x h => by obtain ⟨y, rfl⟩ := cells_u8 he h; exact ⟨y, rfl⟩) hval hd
  refine ⟨l, ?_⟩
  have : l.flatMap (fun b => [vb b]) = vbs l := by
    clear h1 h2
    induction l with
    | nil => rfl
    | cons a l ih => simp only [List.flatMap_cons, ih]; rfl
  rw [this] at h2
  exact h2

end Go.Proofs.YticfalbgplifoaaGreatDoor
