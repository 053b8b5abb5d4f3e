/-
  The calculus for walks, fourth part: a region that draws its order and ends in operations that make or write memory. Conditions: none.
-/
import Derived.Test.YtheojegfgcbacaaVe
import Derived.OrdersHeld
namespace Go.Proofs.Ytheojegfgcbacaa
open Go Go.RowKit
set_option linter.unusedVariables false
set_option linter.unusedSimpArgs false

def quietOp (o : Oper) : Bool :=
  match o.op with
  | .load .. | .move .. | .assign .. | .pick .. | .binOp .. | .unOp .. | .convert .. | .nilCheck .. | .fieldAddr .. | .field .. | .indexAddr .. | .index .. | .slice .. | .extract .. | .makeInterface .. | .makeFunc .. | .typeAssert .. | .build .. => true
  | .call { callee := .builtin .len, .. } => true
  | _ => false

/-- May the operations come up in this order: each quiet one first of all, each other one alone? -/
def stepsOk (ops : Array Oper) : List Nat → Array Bool → Bool
  | [], listed => (Region.ready .any ops listed).isEmpty
  | i :: r, listed =>
    match ops[i]? with
    | some o => (if quietOp o then (Region.ready .any ops listed).contains i && Region.free .any ops listed i else Region.ready .any ops listed == [i]) && stepsOk ops r (listed.setIfInBounds i true)
    | none => false
def orderOk (ops : Array Oper) (l : List Nat) : Bool := Region.noSelect ops && decide (l.length = ops.size) && stepsOk ops l (Array.replicate ops.size false)

/-! ### Orders, what holds of the world being told anew behind each operation that makes or writes memory -/
section dyn
variable {P : Program} {ops : Array Oper} {Q : Exit → Act → World → Prop} {md : Region.Mode}
def wpAnyD (P : Program) (md : Region.Mode) (ops : Array Oper) (Q : Exit → Act → World → Prop) : Nat → (World → Prop) → Array Bool → Act → World → Prop
  | 0, _, listed, a, w => Region.ready md ops listed = [] ∧ Q .normal a w
  | fuel + 1, S, listed, a, w =>
    (Region.ready md ops listed = [] → Q .normal a w) ∧
    ∀ i ∈ Region.ready md ops listed, wpOp P ops Q i (fun a' w' => ∃ S' : World → Prop, S' w' ∧ (∀ x, S' x → S x) ∧ wpAnyD P md ops Q fuel S' (listed.setIfInBounds i true) a' w') a w

theorem wpAny_of_dyn : ∀ (fuel : Nat) (S : World → Prop) (listed : Array Bool) (a : Act) (w : World), wpAnyD P md ops Q fuel S listed a w → wpAny P md ops Q fuel listed a w
  | 0, _, _, _, _, h => h
  | fuel + 1, _, _, _, _, h => ⟨h.1, fun i hi => wpOp_mono (fun a' w' ⟨S', _, _, h'⟩ => wpAny_of_dyn fuel S' _ a' w' h') (h.2 i hi)⟩

theorem YieldsIf.less {S S' : World → Prop} (hS : ∀ x, S' x → S x) {o : Oper} {v : Value} {a : Act} (h : YieldsIf P ops S o v a) : YieldsIf P ops S' o v a :=
  h.imp (fun ⟨hw, hv⟩ => ⟨hw, fun w hw' => hv w (hS w hw')⟩) id

theorem wpAnyD_first {i : Nat} {oi : Oper} {v : Value} (hi : ops[i]? = some oi) (hsel : ∀ (j : Nat) (o : Oper) cs b, ops[j]? = some o → o.op ≠ .select cs b)
    (hQ : ∀ c a w, Q (.panic c) (a.put oi.dst v) w → Q (.panic c) a w) :
    ∀ (fuel : Nat) (S : World → Prop) (listed : Array Bool) (a : Act) (w : World),
      (∀ j oj, ops[j]? = some oj → j ≠ i → listed.getD j true = false → (∀ e ∈ oj.after, Region.binds md e = true → e.on ≠ i) → oi.apart ops oj = true) →
      i ∈ Region.ready md ops listed → YieldsIf P ops S oi v a → S w →
      wpAnyD P md ops Q fuel S (listed.setIfInBounds i true) (a.put oi.dst v) w → wpAnyD P md ops Q (fuel + 1) S listed a w := by
  intro fuel
  induction fuel with
  | zero =>
    intro S listed a w _ hr hy hS H
    refine ⟨fun h => (by rw [h] at hr; cases hr), fun j hj => ?_⟩
    by_cases hji : j = i
    · subst hji; exact hy.wpOp hi hS ⟨S, hS, fun _ h => h, H⟩
    · have := ready_mono hj hji
      rw [H.1] at this
      cases this
  | succ fuel ih =>
    intro S listed a w hfree hr hy hS H
    refine ⟨fun h => (by rw [h] at hr; cases hr), fun j hj => ?_⟩
    by_cases hji : j = i
    · subst hji; exact hy.wpOp hi hS ⟨S, hS, fun _ h => h, H⟩
    · have h1 := H.2 j (ready_mono hj hji)
      obtain ⟨hjun, oj, hoj, hall⟩ := mem_ready.1 hj
      have hnot : ∀ e ∈ oj.after, Region.binds md e = true → e.on ≠ i := fun e he hb heq => by
        have h1 := hall e he hb
        have h0 := (mem_ready.1 hr).1
        rw [heq] at h1
        rcases Nat.lt_or_ge i listed.size with h' | h'
        · simp [h'] at h0 h1; rw [h0] at h1; cases h1
        · simp [Array.getElem?_eq_none h'] at h1
      have h2 := wpOp_putIf hoj (hfree j oj hoj hji hjun hnot) (fun cs b => hsel i oi cs b hi) (fun cs b => hsel j oj cs b hoj) hQ hy h1
      have hfree' : ∀ k ok, ops[k]? = some ok → k ≠ i → (listed.setIfInBounds j true).getD k true = false →
          (∀ e ∈ ok.after, Region.binds md e = true → e.on ≠ i) → oi.apart ops ok = true := fun k ok hk hki hun hno => by
        refine hfree k ok hk hki ?_ hno
        by_cases hjk : j = k
        · subst hjk; exact hjun
        · rw [getD_set_ne true hjk] at hun; exact hun
      refine wpOp_mono (fun a' w' h3 => ?_) h2
      obtain ⟨hy', S', hS', hle, h4⟩ := h3
      refine ⟨S', hS', hle, ih S' (listed.setIfInBounds j true) a' w' hfree' (ready_mono hr (Ne.symm hji)) (YieldsIf.less hle hy') hS' ?_⟩
      rw [Array.setIfInBounds_comm _ _ hji]
      exact h4

theorem wpAnyD_take {S : World → Prop} {i : Nat} {oi : Oper} {v : Value} {fuel : Nat} {listed : Array Bool} {a : Act} {w : World} (hi : ops[i]? = some oi)
    (hs : Region.noSelect ops = true) (hf : Region.free md ops listed i = true) (hr : (Region.ready md ops listed).contains i = true)
    (hQ : ∀ c a w, Q (.panic c) (a.put oi.dst v) w → Q (.panic c) a w) (hy : YieldsIf P ops S oi v a) (hS : S w)
    (h : wpAnyD P md ops Q fuel S (listed.setIfInBounds i true) (a.put oi.dst v) w) : wpAnyD P md ops Q (fuel + 1) S listed a w :=
  wpAnyD_first hi (Region.noSelect_spec hs) hQ fuel S listed a w (Region.free_spec hi hf) (by simpa using hr) hy hS h
theorem wpAnyD_all {S : World → Prop} {rs : List Nat} {fuel : Nat} {listed : Array Bool} {a : Act} {w : World} (hr : Region.ready md ops listed = rs) (hne : rs ≠ [])
    (h : ∀ i ∈ rs, wpOp P ops Q i (fun a' w' => ∃ S' : World → Prop, S' w' ∧ (∀ x, S' x → S x) ∧ wpAnyD P md ops Q fuel S' (listed.setIfInBounds i true) a' w') a w) : wpAnyD P md ops Q (fuel + 1) S listed a w :=
  ⟨fun h0 => absurd (hr ▸ h0) hne, hr ▸ h⟩
theorem wpAnyD_done {S : World → Prop} {listed : Array Bool} {a : Act} {w : World} (hr : Region.ready md ops listed = []) (h : Q .normal a w) : ∀ fuel, wpAnyD P md ops Q fuel S listed a w
  | 0 => ⟨hr, h⟩
  | _ + 1 => ⟨fun _ => h, by rw [hr]; simp⟩
theorem wp_region_dyn {S : World → Prop} {id : Nat} {a : Act} {w : World} (hm : P.follows .mixedOrders = true)
    (h : wpAnyD P .any ops Q ops.size S (Array.replicate ops.size false) a { w with drawn := w.drawn + 1 }) : (Code.region id ops true).wp P Q a w :=
  wp_region_any hm (wpAny_of_dyn _ _ _ _ _ h)
end dyn

/-- A load of what does not turn. -/
def loadS (P : Program) (T : TypeId) (S : World → Prop) (b o : Nat) (K : Value → Prop) (_t : Tag K := ⟨⟩) : Prop := ∃ v, (∀ w', S w' → vcLoad P T w' b o (· = v)) ∧ K v
theorem loadS_of {P : Program} {T : TypeId} {S : World → Prop} {b o : Nat} {K : Value → Prop} (v : Value) (h : ∀ w', S w' → vcLoad P T w' b o (· = v)) (hK : K v) : loadS P T S b o K := ⟨v, h, hK⟩

def QH (P : Program) (o : Oper) (s : Fm) (S : World → Prop) (K : Value → Prop) (_t : Tag K := ⟨⟩) : Prop :=
  match o.op with
  | .load T x => ptrV (ev s x) fun b o' => loadS P T S b o' K
  | .call c =>
    (match c.callee with
    | .builtin .len =>
      (match c.argTypes.toList, c.args.toList.map (ev s) with
      | [t], [x] => (match P.underlying t with
          | some (.slice _) => slcV x fun _ n _ => K (.int .i64 n)
          | some .string => ∃ a, x = .string a ∧ K (.int .i64 a.size)
          | some (.array n _) => K (.int .i64 n)
          | _ => False)
      | _, _ => False)
    | _ => False)
  | .move .. | .assign .. | .pick .. | .binOp .. | .unOp .. | .convert .. | .nilCheck .. | .fieldAddr .. | .field .. | .indexAddr .. | .index .. | .slice .. | .extract .. | .makeInterface .. | .makeFunc .. | .typeAssert .. | .build .. => vcPure P o.op s K
  | _ => False

theorem QH_runs {P : Program} {o : Oper} {s : Fm} {S : World → Prop} {K : Value → Prop} (h : QH P o s S K) : ∃ v, (∀ w, S w → (execOp (ev s) o).run P w = .ok (.value v) w) ∧ K v := by
  have pure : vcPure P o.op s K → ∃ v, (∀ w, S w → (execOp (ev s) o).run P w = .ok (.value v) w) ∧ K v := fun h => by
    obtain ⟨v, hr, hK⟩ := vcPure_runs h
    exact ⟨v, fun w _ => hr w, hK⟩
  obtain ⟨dst, op, ty, pos, af, g⟩ := o
  cases op <;> simp only [QH] at h
  all_goals first | exact pure h | exact h.elim | skip
  case load T x =>
    obtain ⟨b, o', hx, v, hv, hK⟩ := h
    refine ⟨v, fun w hw => ?_, hK⟩
    obtain ⟨u, hr, rfl⟩ := loadVar_of (hv w hw)
    simp [execOp, hx, Instr.loadAt, Instr.sureAddr, hr]
  case call c =>
    obtain ⟨callee, args, ts⟩ := c
    cases callee <;> simp only at h
    case builtin b =>
      cases b <;> simp only at h
      case len =>
        obtain ⟨al⟩ := args
        obtain ⟨tl⟩ := ts
        rcases tl with _ | ⟨t, _ | ⟨t1, tr⟩⟩ <;> rcases al with _ | ⟨x, _ | ⟨x1, xr⟩⟩ <;> simp only [List.map_cons, List.map_nil] at h
        cases hu : P.underlying t with
        | none => simp [hu] at h
        | some d =>
          simp only [hu] at h
          cases d <;> simp only at h
          case slice e =>
            obtain ⟨b, k, c, hx, hK⟩ := h
            exact ⟨_, (fun w _ => by simp [execOp, resolve, invoke, builtin, Builtin.len_, run_underlying hu, goInt, hx]), hK⟩
          case string =>
            obtain ⟨b, hx, hK⟩ := h
            exact ⟨_, (fun w _ => by simp [execOp, resolve, invoke, builtin, Builtin.len_, run_underlying hu, goInt, hx]), hK⟩
          case array m e =>
            exact ⟨_, (fun w _ => by simp [execOp, resolve, invoke, builtin, Builtin.len_, run_underlying hu, goInt]), h⟩

/-- What is told of the world from here on. -/
def Told (S : World → Prop) (w : World) (K : (World → Prop) → Prop) (_t : Tag K := ⟨⟩) : Prop := ∃ T : World → Prop, S w ∧ T w ∧ K (fun x => S x ∧ T x)
theorem told {S : World → Prop} {w : World} {K : (World → Prop) → Prop} (T : World → Prop) (h1 : S w) (h2 : T w) (h : K (fun x => S x ∧ T x)) : Told S w K := ⟨T, h1, h2, h⟩
def runH (P : Program) (o : Oper) (s : Fm) (S : World → Prop) (w : World) (K : (World → Prop) → Value → World → Prop) (_t : Tag K := ⟨⟩) : Prop :=
  if quietOp o = true then QH P o s S (fun v => K S v w) else vcOp P o s w (fun v w' => Told S w' fun S' => K S' v w')

def vcH (P : Program) (n : Nat) (ops : Array Oper) : List Nat → (World → Prop) → Fm → World → (Fm → World → Prop) → Prop
  | [], S, s, w, K => K s w
  | i :: r, S, s, w, K =>
    match ops[i]? with
    | none => False
    | some o =>
      match o.guard with
      | none => dok n o.dst ∧ runH P o s S w fun S' v w' => vcH P n ops r S' (updO s o.dst v) w' K
      | some (j, want) =>
        match (ops[j]?).bind (·.dst) with
        | some d => dok n o.dst ∧ d < n ∧ grdV (s d) want
            (runH P o (upd s d (.bool want)) S w fun S' v w' => vcH P n ops r S' (updO (upd s d (.bool want)) o.dst v) w' K)
            (vcH P n ops r S (updO (upd s d (.bool (!want))) o.dst undef) w K)
            (vcH P n ops r S (updO s o.dst undef) w K)
        | none => False

def NormQ (n : Nat) (K : Fm → World → Prop) : Exit → Act → World → Prop := fun e a w => e = .normal ∧ ∃ s, Fr a n s ∧ K s w

theorem vcH_sound {P : Program} {n : Nat} {ops : Array Oper} {K : Fm → World → Prop} (hs : Region.noSelect ops = true) :
    ∀ (l : List Nat) (S : World → Prop) (listed : Array Bool) (s : Fm) (w : World), stepsOk ops l listed = true → S w → vcH P n ops l S s w K → ∀ a, Fr a n s → wpAnyD P .any ops (NormQ n K) l.length S listed a w
  | [], S, listed, s, w, hok, hS, h, a, hF => by
    refine wpAnyD_done ?_ ⟨rfl, s, hF, h⟩ 0
    simpa [stepsOk] using hok
  | i :: r, S, listed, s, w, hok, hS, h, a, hF => by
    have ih := fun S' => vcH_sound (P := P) (n := n) (K := K) hs r S' (listed.setIfInBounds i true)
    simp only [stepsOk] at hok
    simp only [vcH] at h
    cases ho : ops[i]? with
    | none => simp [ho] at h
    | some o =>
      simp only [ho, Bool.and_eq_true] at h hok
      obtain ⟨hstep, hrest⟩ := hok
      have hQ : ∀ v c (a : Act) w, NormQ n K (.panic c) (a.put o.dst v) w → NormQ n K (.panic c) a w := fun v c a w h => by cases h.1
      -- one operation that is carried out
      have go : ∀ (s' : Fm) (a' : Act), Fr a' n s' → Region.wanted o (yielded ops a'.tmps) = true → dok n o.dst → runH P o s' S w (fun S' v w' => vcH P n ops r S' (updO s' o.dst v) w' K) → wpAnyD P .any ops (NormQ n K) (r.length + 1) S listed a' w := by
        intro s' a' hF' hw hd hrun
        unfold runH at hrun
        cases hq : quietOp o with
        | true =>
          rw [if_pos hq] at hrun
          rw [if_pos hq] at hstep
          simp only [Bool.and_eq_true] at hstep
          obtain ⟨v, hv, hK⟩ := QH_runs hrun
          refine wpAnyD_take (v := v) ho hs hstep.2 hstep.1 (hQ v) (Or.inl ⟨hw, fun w1 hw1 => by rw [hF'.ev]; exact hv w1 hw1⟩) hS ?_
          exact ih S _ _ hrest hS hK _ (hF'.put hd v)
        | false =>
          rw [if_neg (by simp [hq])] at hrun
          rw [if_neg (by simp [hq])] at hstep
          have hr : Region.ready .any ops listed = [i] := by simpa using hstep
          refine wpAnyD_all hr (by simp) ?_
          intro j hj
          have : j = i := by simpa using hj
          subst this
          unfold wpOp
          simp only [ho, hw, if_true]
          exact Or.inl (vcOp_sound hrun hF' fun v w' ⟨T, h1, h2, hv⟩ => ⟨_, ⟨h1, h2⟩, fun _ h => h.1, ih _ _ _ hrest ⟨h1, h2⟩ hv _ (hF'.put hd v)⟩)
      -- one that is passed over
      have skip : ∀ (s' : Fm) (a' : Act), Fr a' n s' → Region.wanted o (yielded ops a'.tmps) = false → dok n o.dst → vcH P n ops r S (updO s' o.dst undef) w K → wpAnyD P .any ops (NormQ n K) (r.length + 1) S listed a' w := by
        intro s' a' hF' hw hd hK
        cases hq : quietOp o with
        | true =>
          rw [if_pos hq] at hstep
          simp only [Bool.and_eq_true] at hstep
          refine wpAnyD_take (v := undef) ho hs hstep.2 hstep.1 (hQ _) (Or.inr ⟨hw, rfl⟩) hS ?_
          exact ih S _ _ hrest hS hK _ (hF'.put hd undef)
        | false =>
          rw [if_neg (by simp [hq])] at hstep
          have hr : Region.ready .any ops listed = [i] := by simpa using hstep
          refine wpAnyD_all hr (by simp) ?_
          intro j hj
          have : j = i := by simpa using hj
          subst this
          unfold wpOp
          simp only [ho, hw, Bool.false_eq_true, if_false]
          exact ⟨S, hS, fun _ h => h, ih S _ _ hrest hS hK _ (hF'.put hd undef)⟩
      cases hg : o.guard with
      | none =>
        simp only [hg] at h
        exact go s a hF (by simp [Region.wanted, hg]) h.1 h.2
      | some jw =>
        obtain ⟨j, want⟩ := jw
        simp only [hg] at h
        cases hd : (ops[j]?).bind (·.dst) with
        | none => simp [hd] at h
        | some d =>
          simp only [hd] at h
          obtain ⟨h1, h2, ⟨t, ht, hy, hno⟩ | ⟨ht, hK⟩⟩ := h
          case inr => exact skip s a hF (by simp [Region.wanted, hg, yielded_undef hF hd h2 ht]) h1 hK
          have hyd := yielded_of hF hd h2 ht
          have hwt : Region.wanted o (yielded ops a.tmps) = (t == want) := by
            simp only [Region.wanted, hg, hyd]
            cases t <;> cases want <;> rfl
          by_cases e : t = want
          · have h3 : (t == want) = true := by rw [e]; cases want <;> rfl
            exact go (upd s d (.bool want)) a (hF.upd_same (by rw [ht, e])) (hwt.trans h3) h1 (hy e)
          · have e' : t = (!want) := by revert e; cases t <;> cases want <;> decide
            have h3 : (t == want) = false := by rw [e']; cases want <;> rfl
            exact skip (upd s d (.bool (!want))) a (hF.upd_same (by rw [ht, e'])) (hwt.trans h3) h1 (hno e')

/-! ### For simp -/
section
variable (P : Program) (n : Nat) (S : World → Prop) (K : Fm → World → Prop)
def hT (ops : List Oper) (l : List Nat) (s : Fm) (w : World) (K : Fm → World → Prop) (_t : Tag (ops, l, s, K) := ⟨⟩) : Prop := vcH P n ops.toArray l S s w K
def hO (ops : List Oper) (o : Option Oper) (l : List Nat) (s : Fm) (w : World) (K : Fm → World → Prop) (_t : Tag (ops, l, s, K) := ⟨⟩) : Prop :=
  match o with
  | none => False
  | some o =>
      match o.guard with
      | none => dok n o.dst ∧ runH P o s S w fun S' v w' => hT P n S' ops l (updO s o.dst v) w' K
      | some (j, want) =>
        match (ops.toArray[j]?).bind (·.dst) with
        | some d => dok n o.dst ∧ d < n ∧ grdV (s d) want
            (runH P o (upd s d (.bool want)) S w fun S' v w' => hT P n S' ops l (updO (upd s d (.bool want)) o.dst v) w' K)
            (hT P n S ops l (updO (upd s d (.bool (!want))) o.dst undef) w K)
            (hT P n S ops l (updO s o.dst undef) w K)
        | none => False
variable (ops : List Oper) (s : Fm) (w : World) (i : Nat) (l : List Nat) (d : Option Tmp) (op : Op) (ty : TypeId) (pos : String) (af : Array Edge)
theorem h_nil : hT P n S ops [] s w K = K s w := propext Iff.rfl
theorem h_cons : hT P n S ops (i :: l) s w K = hO P n S ops ops[i]? l s w K := by
  have e : ops.toArray[i]? = ops[i]? := List.getElem?_toArray
  rw [← e]
  exact propext Iff.rfl
theorem hO_plain : hO P n S ops (some ⟨d, op, ty, pos, af, none⟩) l s w K = (dok n d ∧ runH P ⟨d, op, ty, pos, af, none⟩ s S w fun S' v w' => hT P n S' ops l (updO s d v) w' K) := propext Iff.rfl
def hG (e : Option Tmp) (want : Bool) (o : Oper) (ops : List Oper) (l : List Nat) (s : Fm) (w : World) (K : Fm → World → Prop) (_t : Tag (o, ops, l, s, K) := ⟨⟩) : Prop :=
        match e with
        | some d => dok n o.dst ∧ d < n ∧ grdV (s d) want
            (runH P o (upd s d (.bool want)) S w fun S' v w' => hT P n S' ops l (updO (upd s d (.bool want)) o.dst v) w' K)
            (hT P n S ops l (updO (upd s d (.bool (!want))) o.dst undef) w K)
            (hT P n S ops l (updO s o.dst undef) w K)
        | none => False
theorem hO_grd (j : Nat) (want : Bool) : hO P n S ops (some ⟨d, op, ty, pos, af, some (j, want)⟩) l s w K = hG P n S ((ops[j]?).bind (·.dst)) want ⟨d, op, ty, pos, af, some (j, want)⟩ ops l s w K := by
  have e : ops.toArray[j]? = ops[j]? := List.getElem?_toArray
  rw [← e]
  exact propext Iff.rfl
theorem hG_some (e : Nat) (want : Bool) (g : Option (Nat × Bool)) : hG P n S (some e) want ⟨d, op, ty, pos, af, g⟩ ops l s w K = (dok n d ∧ e < n ∧ grdV (s e) want
            (runH P ⟨d, op, ty, pos, af, g⟩ (upd s e (.bool want)) S w fun S' v w' => hT P n S' ops l (updO (upd s e (.bool want)) d v) w' K)
            (hT P n S ops l (updO (upd s e (.bool (!want))) d undef) w K)
            (hT P n S ops l (updO s d undef) w K)) := propext Iff.rfl
variable (J : (World → Prop) → Value → World → Prop) (g : Option (Nat × Bool)) (dst : Option Tmp)
theorem h_move (x : Operand) : runH P ⟨dst, .move x, ty, pos, af, g⟩ s S w J = vcPure P (.move x) s (fun v => J S v w) := propext Iff.rfl
theorem h_assign (x : Operand) : runH P ⟨dst, .assign x, ty, pos, af, g⟩ s S w J = vcPure P (.assign x) s (fun v => J S v w) := propext Iff.rfl
theorem h_pick (c x y : Operand) : runH P ⟨dst, .pick c x y, ty, pos, af, g⟩ s S w J = vcPure P (.pick c x y) s (fun v => J S v w) := propext Iff.rfl
theorem h_bin (op : BinOp) (T U : TypeId) (x y : Operand) : runH P ⟨dst, .binOp op T x y U, ty, pos, af, g⟩ s S w J = vcPure P (.binOp op T x y U) s (fun v => J S v w) := propext Iff.rfl
theorem h_un (op : UnOp) (T : TypeId) (x : Operand) : runH P ⟨dst, .unOp op T x, ty, pos, af, g⟩ s S w J = vcPure P (.unOp op T x) s (fun v => J S v w) := propext Iff.rfl
theorem h_conv (T U : TypeId) (x : Operand) : runH P ⟨dst, .convert T U x, ty, pos, af, g⟩ s S w J = vcPure P (.convert T U x) s (fun v => J S v w) := propext Iff.rfl
theorem h_nilC (x : Operand) : runH P ⟨dst, .nilCheck x, ty, pos, af, g⟩ s S w J = vcPure P (.nilCheck x) s (fun v => J S v w) := propext Iff.rfl
theorem h_fldA (T : TypeId) (x : Operand) (f : Nat) : runH P ⟨dst, .fieldAddr T x f, ty, pos, af, g⟩ s S w J = vcPure P (.fieldAddr T x f) s (fun v => J S v w) := propext Iff.rfl
theorem h_fld (T : TypeId) (x : Operand) (f : Nat) : runH P ⟨dst, .field T x f, ty, pos, af, g⟩ s S w J = vcPure P (.field T x f) s (fun v => J S v w) := propext Iff.rfl
theorem h_idxA (T : TypeId) (x i : Operand) : runH P ⟨dst, .indexAddr T x i, ty, pos, af, g⟩ s S w J = vcPure P (.indexAddr T x i) s (fun v => J S v w) := propext Iff.rfl
theorem h_idx (T : TypeId) (x i : Operand) : runH P ⟨dst, .index T x i, ty, pos, af, g⟩ s S w J = vcPure P (.index T x i) s (fun v => J S v w) := propext Iff.rfl
theorem h_sl (T : TypeId) (x : Operand) (lo hi : Option Operand) : runH P ⟨dst, .slice T x lo hi none, ty, pos, af, g⟩ s S w J = vcPure P (.slice T x lo hi none) s (fun v => J S v w) := propext Iff.rfl
theorem h_ext (x : Operand) (i : Nat) : runH P ⟨dst, .extract x i, ty, pos, af, g⟩ s S w J = vcPure P (.extract x i) s (fun v => J S v w) := propext Iff.rfl
theorem h_mkI (T : TypeId) (x : Operand) : runH P ⟨dst, .makeInterface T x, ty, pos, af, g⟩ s S w J = vcPure P (.makeInterface T x) s (fun v => J S v w) := propext Iff.rfl
theorem h_bv (T : TypeId) (parts : Array (Nat × Operand)) : runH P ⟨dst, .build T parts, ty, pos, af, g⟩ s S w J = vcPure P (.build T parts) s (fun v => J S v w) := propext Iff.rfl
theorem h_mkF (fn : Fn) (a b : Array Operand) : runH P ⟨dst, .makeFunc fn a b, ty, pos, af, g⟩ s S w J = vcPure P (.makeFunc fn a b) s (fun v => J S v w) := propext Iff.rfl
theorem h_asr (x : Operand) (T U : TypeId) (ok : Bool) : runH P ⟨dst, .typeAssert x T U ok, ty, pos, af, g⟩ s S w J = vcPure P (.typeAssert x T U ok) s (fun v => J S v w) := propext Iff.rfl
theorem h_load (T : TypeId) (x : Operand) : runH P ⟨dst, .load T x, ty, pos, af, g⟩ s S w J = (ptrV (ev s x) fun b o' => loadS P T S b o' fun v => J S v w) := by simp [runH, quietOp, QH]
theorem h_len (x : Operand) (t : TypeId) : runH P ⟨dst, .call ⟨.builtin .len, #[x], #[t]⟩, ty, pos, af, g⟩ s S w J = lenO (P.underlying t) (ev s x) w (J S) := propext Iff.rfl
theorem h_store (T : TypeId) (x y : Operand) : runH P ⟨dst, .store T x y, ty, pos, af, g⟩ s S w J = vcOp P ⟨dst, .store T x y, ty, pos, af, g⟩ s w (fun v w' => Told S w' fun S' => J S' v w') := propext Iff.rfl
theorem h_alloc (T : TypeId) : runH P ⟨dst, .alloc T, ty, pos, af, g⟩ s S w J = vcOp P ⟨dst, .alloc T, ty, pos, af, g⟩ s w (fun v w' => Told S w' fun S' => J S' v w') := propext Iff.rfl
theorem h_box (T : TypeId) (x : Operand) : runH P ⟨dst, .box T x, ty, pos, af, g⟩ s S w J = vcOp P ⟨dst, .box T x, ty, pos, af, g⟩ s w (fun v w' => Told S w' fun S' => J S' v w') := propext Iff.rfl
theorem h_bld (T : TypeId) (m : Nat) (ps : Array (Nat × Operand)) : runH P ⟨dst, .buildSlice T m ps, ty, pos, af, g⟩ s S w J = vcOp P ⟨dst, .buildSlice T m ps, ty, pos, af, g⟩ s w (fun v w' => Told S w' fun S' => J S' v w') := propext Iff.rfl
theorem h_call (f : Nat) (args : Array Operand) (ts : Array TypeId) : runH P ⟨dst, .call ⟨.value (.func f), args, ts⟩, ty, pos, af, g⟩ s S w J = CallK P f (args.map (ev s)) w (fun v w' => Told S w' fun S' => J S' v w') := propext Iff.rfl
theorem h_app (x y : Operand) (t u : TypeId) : runH P ⟨dst, .call ⟨.builtin .append, #[x, y], #[t, u]⟩, ty, pos, af, g⟩ s S w J = (t = u ∧ vcAppend P t (ev s x) (ev s y) w (fun v w' => Told S w' fun S' => J S' v w')) := propext Iff.rfl
end

/-- A REGION THAT DRAWS ITS ORDER, with operations that make or write memory. S: what holds of the world all through it. -/
theorem drawH {P : Program} {n id : Nat} {ops : List Oper} {s : Fm} {w : World} {Q : Post} (S : World → Prop) (l : List Nat) (hm : P.follows .mixedOrders = true) (hB : orderOk ops.toArray l = true)
    (h : ∀ w1, Ext w w1 → w1.heap = w.heap → S w1 ∧ hT P n S ops l s w1 fun s' w' => Q .normal s' w') : DrawVC P n id ops.toArray s w Q := by
  refine ⟨fun a hF => ?_⟩
  simp only [orderOk, Bool.and_eq_true, decide_eq_true_eq] at hB
  obtain ⟨⟨hB1, hB2⟩, hB3⟩ := hB
  obtain ⟨hS, hv⟩ := h { w with drawn := w.drawn + 1 } ⟨rfl, rfl, rfl, Nat.le_refl _, fun _ _ => rfl⟩ rfl
  have h1 := vcH_sound (P := P) (n := n) (K := fun s' w' => Q .normal s' w') hB1 l S _ s _ hB3 hS hv a hF
  rw [hB2] at h1
  refine wp_mono (wp_region_dyn hm h1) ?_
  rintro e a' w' ⟨rfl, s', hF', hK⟩
  exact ⟨s', hF', hK⟩

end Go.Proofs.Ytheojegfgcbacaa
