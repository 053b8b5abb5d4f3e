/-
  The calculus for walks: what holds behind a code may be weakened; a join behind a conditional. Conditions: none; plain theorems about the model.
-/
import Derived.Test.YthlkfjoibjhaiaaGreatDoorMWholeShown4
/-! Vm -/
namespace Go.Proofs.YthlkfjoibjhaiaaGreatDoor
set_option maxRecDepth 100000
set_option maxHeartbeats 2000000
open Go Go.RowKit
set_option linter.unusedVariables false
set_option linter.unusedSimpArgs false

section
variable {P : Program} {K K' : Value → Prop}
theorem intV_m {x : Value} {K K' : IntKind → Int → Prop} (hk : ∀ a b, K a b → K' a b) (h : intV x K) : intV x K' := by obtain ⟨a, b, e, h⟩ := h; exact ⟨a, b, e, hk _ _ h⟩
theorem boolV_m {x : Value} {K K' : Bool → Prop} (hk : ∀ a, K a → K' a) (h : boolV x K) : boolV x K' := by obtain ⟨a, e, h⟩ := h; exact ⟨a, e, hk _ h⟩
theorem ptrV_m {x : Value} {K K' : Nat → Nat → Prop} (hk : ∀ a b, K a b → K' a b) (h : ptrV x K) : ptrV x K' := by obtain ⟨a, b, e, h⟩ := h; exact ⟨a, b, e, hk _ _ h⟩
theorem slcV_m {x : Value} {K K' : Option Addr → Nat → Nat → Prop} (hk : ∀ a b c, K a b c → K' a b c) (h : slcV x K) : slcV x K' := by obtain ⟨a, b, c, e, h⟩ := h; exact ⟨a, b, c, e, hk _ _ _ h⟩
theorem adrV_m {x : Option Addr} {K K' : Nat → Nat → Prop} (hk : ∀ a b, K a b → K' a b) (h : adrV x K) : adrV x K' := by obtain ⟨a, b, e, h⟩ := h; exact ⟨a, b, e, hk _ _ h⟩
theorem aggV_m {x : Value} {K K' : List Value → Prop} (hk : ∀ a, K a → K' a) (h : aggV x K) : aggV x K' := by obtain ⟨a, e, h⟩ := h; exact ⟨a, e, hk _ h⟩
theorem tupV_m {x : Value} {K K' : List Value → Prop} (hk : ∀ a, K a → K' a) (h : tupV x K) : tupV x K' := by obtain ⟨a, e, h⟩ := h; exact ⟨a, e, hk _ h⟩
theorem vcBound_m {s : Fm} {x : Option Operand} {d : Int} {K K' : Int → Prop} (hk : ∀ a, K a → K' a) (h : vcBound s x d K) : vcBound s x d K' := by
  cases x
  · exact hk _ h
  · exact intV_m (fun _ _ h => hk _ h) h
theorem vcInt_m {op : BinOp} {x y : Value} (hk : ∀ v, K v → K' v) (h : vcInt op x y K) : vcInt op x y K' := by
  cases op <;> simp only [vcInt] at h ⊢
  all_goals first
    | (obtain ⟨k, m, n, a, b, h⟩ := h; exact ⟨k, m, n, a, b, hk _ h⟩)
    | (obtain ⟨k, m, n, a, b, c, h⟩ := h; exact ⟨k, m, n, a, b, c, hk _ h⟩)
    | (obtain ⟨k, m, j, n, a, b, c, h⟩ := h; exact ⟨k, m, j, n, a, b, c, hk _ h⟩)
theorem vcEq_m {d : TypeDesc} {x y : Value} {K K' : Bool → Prop} (hk : ∀ v, K v → K' v) (h : vcEq P d x y K) : vcEq P d x y K' := by
  cases d <;> simp only [vcEq] at h ⊢
  case bool => obtain ⟨a, b, c, d, h⟩ := h; exact ⟨a, b, c, d, hk _ h⟩
  case string => obtain ⟨a, b, c, d, h⟩ := h; exact ⟨a, b, c, d, hk _ h⟩
  case pointer => obtain ⟨a, b, c, d, e, h⟩ := h; exact ⟨a, b, c, d, e, hk _ h⟩
  case slice => obtain ⟨a, n, c, b, m, e, h1, h2, h3, h⟩ := h; exact ⟨a, n, c, b, m, e, h1, h2, h3, hk _ h⟩
  case array => obtain ⟨k, h1, h2, xs, ys, h3, h4, h5, h6, h⟩ := h; exact ⟨k, h1, h2, xs, ys, h3, h4, h5, h6, hk _ h⟩
theorem vcEqOp_m {d : TypeDesc} {op : BinOp} {x y : Value} (hk : ∀ v, K v → K' v) (h : vcEqOp P d op x y K) : vcEqOp P d op x y K' := by
  cases op <;> simp only [vcEqOp] at h ⊢
  all_goals exact vcEq_m (fun _ h => hk _ h) h
theorem vcStr_m {op : BinOp} {x y : Value} (hk : ∀ v, K v → K' v) (h : vcStr P op x y K) : vcStr P op x y K' := by
  cases op <;> simp only [vcStr] at h ⊢
  case add => obtain ⟨a, b, c, d, e, h⟩ := h; exact ⟨a, b, c, d, e, hk _ h⟩
  case geq => obtain ⟨a, b, c, d, h⟩ := h; exact ⟨a, b, c, d, hk _ h⟩
  all_goals exact vcEq_m (fun _ h => hk _ h) h
theorem vcBin_m {c : Bool} {op : BinOp} {T : TypeId} {x y : Value} (hk : ∀ v, K v → K' v) (h : vcBin P c op T x y K) : vcBin P c op T x y K' := by
  unfold vcBin at h ⊢
  cases hu : P.underlying T with
  | none => simp [hu] at h
  | some d =>
    simp only [hu, vcBinD] at h ⊢
    cases d <;> simp only at h ⊢
    case interface m =>
      cases op <;> simp only [vcIfc] at h ⊢
      all_goals
        obtain ⟨hy, h⟩ := h
        refine ⟨hy, ?_⟩
        rcases h with ⟨t, v, hx, h⟩ | ⟨hc, hx, h⟩
        · exact Or.inl ⟨t, v, hx, hk _ h⟩
        · exact Or.inr ⟨hc, hx, hk _ h⟩
    all_goals first | exact vcInt_m hk h | exact vcStr_m hk h | exact vcEqOp_m hk h
theorem vcUn_m {op : UnOp} {x : Value} (hk : ∀ v, K v → K' v) (h : vcUn op x K) : vcUn op x K' := by
  cases op <;> simp only [vcUn] at h ⊢
  all_goals first | exact boolV_m (fun _ h => hk _ h) h | exact intV_m (fun _ _ h => hk _ h) h
theorem vcConv_m {S T : TypeId} {x : Value} (hk : ∀ v, K v → K' v) (h : vcConv P S T x K) : vcConv P S T x K' := by
  unfold vcConv at h ⊢
  cases hs : P.underlying S with
  | none => simp [hs] at h
  | some d =>
    cases ht : P.underlying T with
    | none => simp [hs, ht] at h
    | some e =>
      simp only [hs, ht] at h ⊢
      cases e <;> simp only at h ⊢
      all_goals exact intV_m (fun _ _ h => hk _ h) h
theorem vcPure_m {op : Op} {s : Fm} (hk : ∀ v, K v → K' v) (h : vcPure P op s K) : vcPure P op s K' := by
  cases op <;> simp only [vcPure] at h ⊢
  case move x => exact hk _ h
  case assign x => exact hk _ h
  case pick c x y => exact boolV_m (fun _ h => hk _ h) h
  case binOp => exact vcBin_m hk h
  case unOp => exact vcUn_m hk h
  case convert => exact vcConv_m hk h
  case nilCheck => exact ptrV_m (fun _ _ h => hk _ h) h
  case fieldAddr S x f =>
    cases hu : P.underlying S with
    | none => simp [hu] at h
    | some d =>
      simp only [hu] at h ⊢
      cases d <;> simp only at h ⊢
      obtain ⟨fd, h1, h2, h⟩ := h
      exact ⟨fd, h1, h2, ptrV_m (fun _ _ h => hk _ h) h⟩
  case field S x f =>
    cases hu : P.underlying S with
    | none => simp [hu] at h
    | some d =>
      simp only [hu] at h ⊢
      cases d <;> simp only at h ⊢
      obtain ⟨fd, h1, h⟩ := h
      refine ⟨fd, h1, aggV_m (fun l h => ?_) h⟩
      cases ht : (P.underlying fd.type).map isAggD with
      | none => simp [ht] at h
      | some t =>
        cases t <;> simp only [ht] at h ⊢
        · obtain ⟨v, h1, h⟩ := h; exact ⟨v, h1, hk _ h⟩
        · exact hk _ h
  case indexAddr T x i =>
    cases hu : P.underlying T with
    | none => simp [hu] at h
    | some d =>
      simp only [hu] at h ⊢
      cases d <;> simp only at h ⊢
      all_goals first
        | exact ⟨h.1, ptrV_m (fun _ _ h => intV_m (fun _ _ h => ⟨h.1, h.2.1, hk _ h.2.2⟩) h) h.2⟩
        | exact ⟨h.1, slcV_m (fun _ _ _ h => intV_m (fun _ _ h => adrV_m (fun _ _ h => ⟨h.1, h.2.1, hk _ h.2.2⟩) h) h) h.2⟩
  case index T x i =>
    cases hu : P.underlying T with
    | none => simp [hu] at h
    | some d =>
      simp only [hu] at h ⊢
      cases d <;> simp only at h ⊢
      · obtain ⟨a, e, h⟩ := h
        exact ⟨a, e, intV_m (fun _ _ h => by obtain ⟨h1, b, h2, h⟩ := h; exact ⟨h1, b, h2, hk _ h⟩) h⟩
      · rename_i n e
        refine aggV_m (fun l h => intV_m (fun k j h => ?_) h) h
        refine ⟨h.1, h.2.1, ?_⟩
        have h := h.2.2
        cases ht : (P.underlying e).map isAggD with
        | none => simp [ht] at h
        | some t =>
          cases t <;> simp only [ht] at h ⊢
          · obtain ⟨v, h1, h⟩ := h; exact ⟨v, h1, hk _ h⟩
          · exact hk _ h
  case slice T x lo hi mx =>
    cases mx with
    | some m =>
      simp only at h ⊢
      cases hu : P.underlying T with
      | none => simp [hu] at h
      | some d =>
        simp only [hu] at h ⊢
        cases d <;> simp only at h ⊢
        refine ⟨h.1, slcV_m (fun _ _ _ h => vcBound_m (fun _ h => ?_) h) h.2⟩
        cases hi with
        | none => exact h.elim
        | some hi => exact intV_m (fun _ _ h => intV_m (fun _ _ h => ⟨h.1, h.2.1, h.2.2.1, h.2.2.2.1, fun o h1 h2 => hk _ (h.2.2.2.2 o h1 h2)⟩) h) h
    | none =>
      simp only at h ⊢
      cases hu : P.underlying T with
      | none => simp [hu] at h
      | some d =>
        simp only [hu] at h ⊢
        cases d <;> simp only at h ⊢
        all_goals first
        | exact ⟨h.1, ptrV_m (fun _ _ h => vcBound_m (fun _ h => vcBound_m (fun _ h => ⟨h.1, h.2.1, h.2.2.1, fun o ho => hk _ (h.2.2.2 o ho)⟩) h) h) h.2⟩
        | exact ⟨h.1, slcV_m (fun _ _ _ h => vcBound_m (fun _ h => vcBound_m (fun _ h => ⟨h.1, h.2.1, h.2.2.1, fun o h1 h2 => hk _ (h.2.2.2 o h1 h2)⟩) h) h) h.2⟩
  case extract x i => exact tupV_m (fun _ h => by obtain ⟨v, h1, h⟩ := h; exact ⟨v, h1, hk _ h⟩) h
  case makeInterface T x =>
    cases hu : P.underlying T with
    | none => simp [hu] at h
    | some d =>
      simp only [hu] at h ⊢
      cases d <;> simp only at h ⊢
      all_goals first | exact hk _ h | exact h
  case makeFunc => exact hk _ h
  case build => obtain ⟨r, h1, h⟩ := h; exact ⟨r, h1, hk _ h⟩
  case typeAssert x T U ok =>
    have key : ((ev s x = .nilIface ∧ ok = true ∧ ∃ z, zeroOf P U = some z ∧ K (.tuple #[z, .bool false])) ∨
          (∃ t v, ev s x = .iface t v ∧ t = U ∧ K (if ok = true then .tuple #[v, .bool true] else v)) ∨
          (∃ t v, ev s x = .iface t v ∧ t ≠ U ∧ ok = true ∧ ∃ z, zeroOf P U = some z ∧ K (.tuple #[z, .bool false]))) →
        ((ev s x = .nilIface ∧ ok = true ∧ ∃ z, zeroOf P U = some z ∧ K' (.tuple #[z, .bool false])) ∨
          (∃ t v, ev s x = .iface t v ∧ t = U ∧ K' (if ok = true then .tuple #[v, .bool true] else v)) ∨
          (∃ t v, ev s x = .iface t v ∧ t ≠ U ∧ ok = true ∧ ∃ z, zeroOf P U = some z ∧ K' (.tuple #[z, .bool false]))) := by
      rintro (⟨a, b, z, h1, h⟩ | ⟨t, v, h1, h2, h⟩ | ⟨t, v, h1, h2, h3, z, h4, h⟩)
      · exact Or.inl ⟨a, b, z, h1, hk _ h⟩
      · exact Or.inr (Or.inl ⟨t, v, h1, h2, hk _ h⟩)
      · exact Or.inr (Or.inr ⟨t, v, h1, h2, h3, z, h4, hk _ h⟩)
    cases hu : P.underlying U with
    | none => simp [hu] at h
    | some d =>
      simp only [hu] at h ⊢
      cases d <;> simp only at h ⊢
      all_goals first | exact key h | exact h
end

theorem vcLoad_m {P : Program} {T : TypeId} {w : World} {b o : Nat} {K K' : Value → Prop} (hk : ∀ v, K v → K' v) (h : vcLoad P T w b o K) : vcLoad P T w b o K' := by
  unfold vcLoad at h ⊢
  cases ht : (P.underlying T).map isAggD with
  | none => simp [ht] at h
  | some t =>
    cases t <;> simp only [ht] at h ⊢
    · obtain ⟨v, h1, h⟩ := h; exact ⟨v, h1, hk _ h⟩
    · obtain ⟨l, h1, h2, h⟩ := h; exact ⟨l, h1, h2, hk _ h⟩

section
variable {P : Program} {K K' : Value → World → Prop} {w : World}
theorem vcBuiltin_m {b : Builtin} {ts : List TypeId} {xs : List Value} (hk : ∀ v w, K v w → K' v w) (h : vcBuiltin P b ts xs w K) : vcBuiltin P b ts xs w K' := by
  cases b <;> simp only [vcBuiltin] at h ⊢
  case len =>
    split at h
    · simp only [vcLen] at h ⊢
      rename_i t x
      cases hu : P.underlying t with
      | none => simp [hu] at h
      | some d =>
        simp only [hu] at h ⊢
        cases d <;> simp only at h ⊢
        all_goals first | exact slcV_m (fun _ _ _ h => hk _ _ h) h | exact hk _ _ h | (obtain ⟨a, e, h⟩ := h; exact ⟨a, e, hk _ _ h⟩)
    · exact h.elim
  case append =>
    split at h
    · rename_i t u x y
      by_cases htu : t = u
      case neg => rw [if_neg htu] at h ⊢; obtain ⟨v, w', h1, h⟩ := h.out; exact ⟨v, w', h1, hk _ _ h⟩
      rw [if_pos htu] at h ⊢
      simp only [vcAppend] at h ⊢
      cases hu : P.underlying t with
      | none => simp [hu] at h
      | some d =>
        simp only [hu] at h ⊢
        cases d <;> simp only at h ⊢
        obtain ⟨z, h1, h2, h3, h⟩ := h
        refine ⟨z, h1, h2, h3, ?_⟩
        rcases h with ⟨base, n, l, h4, h5, h⟩ | ⟨q, n, c, b, o, m, f, olds, news, g1, g2, g3, g4, g5, g6, g7, g8, g9, h⟩
        case inr => exact Or.inr ⟨q, n, c, b, o, m, f, olds, news, g1, g2, g3, g4, g5, g6, g7, g8, g9, fun v' w' a b => hk _ _ (h v' w' a b)⟩
        refine Or.inl ⟨base, n, l, h4, h5, ?_⟩
        rcases h with ⟨e, h⟩ | ⟨b, o, m, f, news, g1, g2, g3, g4, g5, g6, h⟩ | ⟨g, cap, b, o, m, f, news, g1, g2, g3, g4, g5, g6, h⟩ | ⟨b, o, m, f, news, g1, g2, g3, g4, g5, g6, h⟩
        · exact Or.inl ⟨e, hk _ _ h⟩
        · exact Or.inr (Or.inl ⟨b, o, m, f, news, g1, g2, g3, g4, g5, g6, fun v' w' a b c => hk _ _ (h v' w' a b c)⟩)
        · exact Or.inr (Or.inr (Or.inl ⟨g, cap, b, o, m, f, news, g1, g2, g3, g4, g5, g6, fun w' a b => hk _ _ (h w' a b)⟩))
        · exact Or.inr (Or.inr (Or.inr ⟨b, o, m, f, news, g1, g2, g3, g4, g5, g6, fun v' w' a b c => hk _ _ (h v' w' a b c)⟩))
    · exact h.elim
  case min =>
    split at h
    · exact intV_m (fun _ _ h => intV_m (fun _ _ h => hk _ _ h) h) h
    · exact h.elim
  case max =>
    split at h
    · exact intV_m (fun _ _ h => intV_m (fun _ _ h => hk _ _ h) h) h
    · exact h.elim
  case copy => obtain ⟨v, w', h1, h⟩ := h.out; exact ⟨v, w', h1, hk _ _ h⟩
  case clear => obtain ⟨v, w', h1, h⟩ := h.out; exact ⟨v, w', h1, hk _ _ h⟩
  case cap =>
    split at h
    · simp only [vcCap] at h ⊢
      rename_i t x
      cases hu : P.underlying t with
      | none => simp [hu] at h
      | some d =>
        simp only [hu] at h ⊢
        cases d <;> simp only at h ⊢
        exact slcV_m (fun _ _ _ h => hk _ _ h) h
    · exact h.elim
theorem cvE_m {a b : Option TypeDesc} {S T : TypeId} {x : Value} (hk : ∀ v w, K v w → K' v w) (h : cvE P a b S T x w K) : cvE P a b S T x w K' := by
  cases a with
  | none => exact h
  | some a =>
    cases b with
    | none => exact h
    | some b =>
      cases b <;> simp only [cvE] at h ⊢
      all_goals first
        | exact intV_m (fun _ _ h => hk _ _ h) h
        | (obtain ⟨v, w', h1, h⟩ := h.out; exact ⟨v, w', h1, hk _ _ h⟩)
theorem vcCall_m {c : Call} {s : Fm} (hk : ∀ v w, K v w → K' v w) (h : vcCall P c s w K) : vcCall P c s w K' := by
  obtain ⟨callee, args, ts⟩ := c
  cases callee <;> simp only [vcCall] at h ⊢
  case value x =>
    cases x <;> simp only at h ⊢
    case func => exact h.mono hk
    case tmp =>
      rcases h.out with ⟨l, hl, fn, tmps, assign, body, hy, hR⟩ | ⟨gf, first, caps, hl, hc⟩
      · exact ⟨Or.inl ⟨l, hl, fn, tmps, assign, body, hy, hR.mono fun e w' ⟨v, he, hv⟩ => ⟨v, he, hk _ _ hv⟩⟩⟩
      · exact ⟨Or.inr ⟨gf, first, caps, hl, hc.mono hk⟩⟩
  case invoke =>
    obtain ⟨f, vs, hr, hc⟩ := h.out
    exact ⟨f, vs, hr, hc.mono hk⟩
  case builtin b => exact vcBuiltin_m hk h
theorem vcOp_m {o : Oper} {s : Fm} (hk : ∀ v w, K v w → K' v w) (h : vcOp P o s w K) : vcOp P o s w K' := by
  obtain ⟨dst, op, ty, pos, af, g⟩ := o
  cases op <;> simp only [vcOp] at h ⊢
  all_goals first | exact vcPure_m (fun _ h => hk _ _ h) h | (obtain ⟨v, w', h1, h⟩ := h; exact ⟨v, w', h1, hk _ _ h⟩) | exact cvE_m hk h | skip
  case load T x => exact ptrV_m (fun _ _ h => vcLoad_m (fun _ h => hk _ _ h) h) h
  case store T x y => exact ptrV_m (fun _ _ h => by obtain ⟨U, l, vs, h1, h2, h3, h4, h5, h6, h⟩ := h; exact ⟨U, l, vs, h1, h2, h3, h4, h5, h6, fun w' hp => hk _ _ (h w' hp)⟩) h
  case alloc T => obtain ⟨z, h1, h⟩ := h; exact ⟨z, h1, fun w' hN => hk _ _ (h w' hN)⟩
  case box T x => exact fun w' hN => hk _ _ (h w' hN)
  case buildSlice T k parts =>
    cases hu : P.underlying T with
    | none => simp [hu] at h
    | some d =>
      simp only [hu] at h ⊢
      cases d <;> simp only at h ⊢
      obtain ⟨z, h1, h2, h3, h4, h5, h⟩ := h
      exact ⟨z, h1, h2, h3, h4, h5, fun w' hN => hk _ _ (h w' hN)⟩
  case call c => exact vcCall_m hk h
end

theorem grdV_m {v : Value} {t : Bool} {A B C A' B' C' : Prop} (ha : A → A') (hb : B → B') (hc : C → C') (h : grdV v t A B C) : grdV v t A' B' C' := by
  rcases h with ⟨x, e, h1, h2⟩ | ⟨e, h⟩
  · exact Or.inl ⟨x, e, fun h => ha (h1 h), fun h => hb (h2 h)⟩
  · exact Or.inr ⟨e, hc h⟩
theorem vcOps_m {P : Program} {n : Nat} {ops : Array Oper} {K K' : Fm → World → Prop} (hk : ∀ s w, K s w → K' s w) : ∀ (l : List Oper) (s : Fm) (w : World), vcOps P n ops l s w K → vcOps P n ops l s w K'
  | [], s, w, h => hk _ _ h
  | o :: l, s, w, h => by
    have ih := vcOps_m (P := P) (n := n) (ops := ops) hk l
    simp only [vcOps] at h ⊢
    cases hg : o.guard with
    | none => simp only [hg] at h ⊢; exact ⟨h.1, vcOp_m (fun v w h => ih _ _ h) h.2⟩
    | some jw =>
      obtain ⟨j, want⟩ := jw
      simp only [hg] at h ⊢
      cases hd : (ops[j]?).bind (·.dst) with
      | none => simp [hd] at h
      | some d =>
        simp only [hd] at h ⊢
        exact ⟨h.1, h.2.1, grdV_m (fun h => vcOp_m (fun v w h => ih _ _ h) h) (ih _ _) (ih _ _) h.2.2⟩

theorem wpF_m {P : Program} {n : Nat} {ro : Option Nat} {c : Code} {s : Fm} {w : World} {Q Q' : Post} (hq : ∀ e s w, Q e s w → Q' e s w) (h : wpF P n ro c s w Q) : wpF P n ro c s w Q' :=
  fun D a hF => wpIn_mono (h D a hF) (fun e a w ⟨s, hF, hq'⟩ => ⟨s, hF, hq _ _ _ hq'⟩)
theorem vc_m {P : Program} {n : Nat} {ro : Option Nat} : ∀ (c : Code) (s : Fm) (w : World) (Q Q' : Post), (∀ e s w, Q e s w → Q' e s w) → vc P n ro c s w Q → vc P n ro c s w Q'
  | .skip, s, w, Q, Q', hq, h => hq _ _ _ h
  | .region id ops draw, s, w, Q, Q', hq, h => by
    cases draw
    · simp only [vc, Bool.false_eq_true, if_false] at h ⊢
      exact vcOps_m (fun _ _ h => hq _ _ _ h) _ _ _ h
    · simp only [vc, if_true] at h ⊢
      exact ⟨wpF_m hq h.out⟩
  | .seq x y, s, w, Q, Q', hq, h => by
    refine vc_m x s w _ _ ?_ h
    intro e s w h
    cases e
    case normal => exact vc_m y s w Q Q' hq h
    all_goals exact hq _ _ _ h
  | .cond c x y, s, w, Q, Q', hq, h => by
    obtain ⟨t, ht, h1, h2⟩ := h
    exact ⟨t, ht, fun e => vc_m x s w Q Q' hq (h1 e), fun e => vc_m y s w Q Q' hq (h2 e)⟩
  | .block id c, s, w, Q, Q', hq, h => by
    refine vc_m c s w _ _ ?_ h
    intro e s w h
    cases e
    case exit i =>
      simp only [blkQ_exit] at h ⊢
      split
      · rename_i e; rw [if_pos e] at h; exact hq _ _ _ h
      · rename_i e; rw [if_neg e] at h; exact hq _ _ _ h
    all_goals exact hq _ _ _ h
  | .loop c, s, w, Q, Q', hq, h => ⟨wpF_m hq h.out⟩
  | .exit id, s, w, Q, Q', hq, h => hq _ _ _ h
  | .ret, s, w, Q, Q', hq, h => hq _ _ _ h
  | .label _, s, w, Q, Q', hq, h => hq _ _ _ h
  | .goto l, s, w, Q, Q', hq, h => hq _ _ _ h
  | .rangeFunc f ps x y, s, w, Q, Q', hq, h => ⟨wpF_m hq h.out⟩
  | .scope c, s, w, Q, Q', hq, h => ⟨wpF_m hq h.out⟩
  | .refuse _, _, _, _, _, _, h => h.elim

/-- A JOIN behind a conditional (or any code): what holds there is told once. -/
theorem joinT {P : Program} {n : Nat} {ro : Option Nat} {c : Code} {s : Fm} {w : World} {N : Fm → World → Prop} {Q : Post} (J : Fm → World → Prop) (h1 : vcT P n ro c s w (seqQ J Q)) (h2 : ∀ s' w', J s' w' → N s' w') : vcT P n ro c s w (seqQ N Q) := by
  refine vc_m c s w _ _ ?_ h1
  intro e s w h
  cases e
  case normal => exact h2 _ _ h
  all_goals exact h

end Go.Proofs.YthlkfjoibjhaiaaGreatDoor
