/-
  The calculus for walks, fourth part: a region that draws its order and ends in operations that make or write memory. Conditions: none.
-/
import Derived.Test.YthlkfjoibjhaiaaGreatDoorMWholeShown3
import Derived.OrdersHeld
import Derived.OrdersIn
/-! Vh -/
namespace Go.Proofs.YthlkfjoibjhaiaaGreatDoor
set_option maxRecDepth 100000
set_option maxHeartbeats 2000000
open Go Go.RowKit
set_option linter.unusedVariables false
set_option linter.unusedSimpArgs false

def quietOp (P : Program) (o : Oper) : Bool :=
  match o.op with
  | .convert _ dst _ => (match P.underlying dst with | some (.int _) => true | _ => false)
  | .load .. | .move .. | .assign .. | .pick .. | .binOp .. | .unOp .. | .nilCheck .. | .fieldAddr .. | .field .. | .indexAddr .. | .index .. | .slice .. | .extract .. | .makeInterface .. | .makeFunc .. | .typeAssert .. | .build .. => true
  | .call { callee := .builtin .len, .. } => true
  | _ => false

/-- No operation of the region is a defer statement. -/
def noDefer (ops : Array Oper) : Bool := ops.toList.all fun o => match o.op with | .defer _ => false | _ => true
theorem noDefer_spec {ops : Array Oper} (h : noDefer ops = true) {i : Nat} {o : Oper} (hi : ops[i]? = some o) : ∀ c, o.op ≠ .defer c := by
  intro c hc
  have := List.all_eq_true.1 h o (Array.mem_toList_iff.2 (Array.mem_of_getElem? hi))
  rw [hc] at this
  cases this

/-- An order; at a fork either of two operations may come up first. -/
inductive Ord where
  | nil
  | one (i : Nat) (r : Ord)
  | two (i j : Nat) (p q : Ord)
def Ord.pre : List Nat → Ord → Ord
  | [], o => o
  | i :: l, o => .one i (Ord.pre l o)
abbrev Ord.of (l : List Nat) : Ord := Ord.pre l .nil
/-- May the operations come up in this order: each quiet one first of all, each other one alone (or at a fork with one other)? -/
def stepsOk (P : Program) (ops : Array Oper) : Ord → Array Bool → Nat → Bool
  | .nil, listed, _ => (Region.ready .any ops listed).isEmpty
  | .one i r, listed, n + 1 =>
    (match ops[i]? with
    | some o => (if quietOp P o then (Region.ready .any ops listed).contains i && Region.free .any ops listed i else Region.ready .any ops listed == [i]) && stepsOk P ops r (listed.setIfInBounds i true) n
    | none => false)
  | .two i j p q, listed, n + 1 =>
    (match ops[i]?, ops[j]? with
    | some o, some u => !quietOp P o && !quietOp P u && Region.ready .any ops listed == [i, j] && stepsOk P ops p (listed.setIfInBounds i true) n && stepsOk P ops q (listed.setIfInBounds j true) n
    | _, _ => false)
  | _, _, 0 => false
def orderOk (P : Program) (ops : Array Oper) (l : Ord) : Bool := Region.noSelect ops && noDefer ops && stepsOk P ops l (Array.replicate ops.size false) ops.size

/-! ### Orders, what holds of the world being told anew behind each operation that makes or writes memory -/
section dyn
variable {P : Program} {ro : Option Nat} {ops : Array Oper} {Q : Exit → Act → World → Prop} {md : Region.Mode}
abbrev wpOpW (P : Program) (ro : Option Nat) (ops : Array Oper) (Q : Exit → Act → World → Prop) (i : Nat) (K : Act → World → Prop) (a : Act) (w : World) : Prop := wpOpIn (FW ro) 0 P ops Q i K a w
/-- Does the operation i wait for the operation k, directly or through others? -/
def depB (md : Region.Mode) (ops : Array Oper) : Nat → Nat → Nat → Bool
  | 0, _, _ => false
  | f + 1, i, k => match ops[i]? with
    | some o => o.after.toList.any fun e => Region.binds md e && (e.on == k || depB md ops f e.on k)
    | none => false
/-- Operations that look at no memory. -/
def pureO (o : Oper) : Bool := match o.op with | .move .. | .assign .. | .extract .. => true | _ => false
theorem pureO_any {P : Program} {r : Operand → Value} {o : Oper} (h : pureO o = true) {v : Value} {w : World} (hr : (execOp r o).run P w = .ok (.value v) w) (w' : World) : (execOp r o).run P w' = .ok (.value v) w' := by
  obtain ⟨dst, op, ty, pos, af, g⟩ := o
  cases op <;> simp only [pureO] at h <;> try cases h
  · simp [execOp] at hr ⊢; exact hr
  · simp [execOp] at hr ⊢; exact hr
  · rename_i x ix
    simp only [execOp, Instr.extract] at hr ⊢
    cases hx : r x <;> simp only [hx] at hr ⊢
    case tuple vs =>
      cases hv : vs[ix]? <;> simp only [hv] at hr ⊢
      · simp [stuck, Sem.run_bind, Result.andThen] at hr
      · simp at hr ⊢; exact hr
    all_goals (simp [stuck, Sem.run_bind, Result.andThen] at hr)
def depAll (md : Region.Mode) (ops : Array Oper) (listed : Array Bool) (i : Nat) : Prop := ∀ k, k < ops.size → listed.getD k false = true → depB md ops ops.size i k = true ∨ (ops[k]?).any pureO = true
def Clo (md : Region.Mode) (ops : Array Oper) (listed : Array Bool) : Prop := ∀ (k : Nat) (o : Oper), ops[k]? = some o → listed.getD k false = true → ∀ e ∈ o.after, Region.binds md e = true → listed.getD e.on false = true
theorem Clo.dep {listed : Array Bool} (hC : Clo md ops listed) {k : Nat} : ∀ (f i : Nat), (∀ o, ops[i]? = some o → ∀ e ∈ o.after, Region.binds md e = true → listed.getD e.on false = true) → depB md ops f i k = true → listed.getD k false = true
  | 0, _, _, h => by simp [depB] at h
  | f + 1, i, hi, h => by
    simp only [depB] at h
    cases ho : ops[i]? with
    | none => simp [ho] at h
    | some o =>
      simp only [ho, List.any_eq_true, Bool.and_eq_true, Bool.or_eq_true] at h
      obtain ⟨e, he, hb, h⟩ := h
      have he : e ∈ o.after := Array.mem_toList_iff.1 he
      have hl := hi o ho e he hb
      rcases h with h | h
      · have : e.on = k := by simpa using h
        rw [← this]; exact hl
      · exact Clo.dep hC f e.on (fun o' ho' => hC e.on o' ho' hl) h
theorem Clo.set {listed : Array Bool} (hC : Clo md ops listed) {i : Nat} (hi : i ∈ Region.ready md ops listed) : Clo md ops (listed.setIfInBounds i true) := by
  intro k o ho hk e he hb
  obtain ⟨_, oi, hoi, hall⟩ := mem_ready.1 hi
  refine getD_set_true ?_
  by_cases hki : i = k
  · subst hki
    rw [hoi] at ho
    cases ho
    exact hall e he hb
  · rw [getD_set_ne false hki] at hk
    exact hC k o ho hk e he hb
theorem Clo.none (n : Nat) : Clo md ops (Array.replicate n false) := by
  intro k o _ hk
  simp only [Array.getD_eq_getD_getElem?, Array.getElem?_replicate] at hk
  split at hk <;> simp at hk

def wpAnyD (P : Program) (ro : Option Nat) (md : Region.Mode) (ops : Array Oper) (Q : Exit → Act → World → Prop) : Nat → (World → Prop) → Array Bool → Act → World → Prop
  | 0, _, listed, a, w => Region.ready md ops listed = [] ∧ Q .normal a w
  | fuel + 1, S, listed, a, w => Clo md ops listed →
    (Region.ready md ops listed = [] → Q .normal a w) ∧
    ∀ i ∈ Region.ready md ops listed, wpOpW P ro ops Q i (fun a' w' => ∃ S' : World → Prop, S' w' ∧ ((∀ x, S' x → S x) ∨ depAll md ops listed i) ∧ wpAnyD P ro md ops Q fuel S' (listed.setIfInBounds i true) a' w') a w

theorem wpAny_of_dyn : ∀ (fuel : Nat) (S : World → Prop) (listed : Array Bool) (a : Act) (w : World), Clo md ops listed → wpAnyD P ro md ops Q fuel S listed a w → wpAnyIn (FW ro) 0 P md ops Q fuel listed a w
  | 0, _, _, _, _, _, h => h
  | fuel + 1, _, _, _, _, hC, h => ⟨(h hC).1, fun i hi => wpOpIn_mono (fun a' w' ⟨S', _, _, h'⟩ => wpAny_of_dyn fuel S' _ a' w' (hC.set hi) h') ((h hC).2 i hi)⟩

theorem YieldsIf.wpOpW {S : World → Prop} {i : Nat} {o : Oper} {v : Value} {a : Act} (hi : ops[i]? = some o) (hy : YieldsIf P ops S o v a) {K : Act → World → Prop} {w : World} (hw : S w) (h : K (a.put o.dst v) w) (hd : ∀ c, o.op ≠ .defer c) : wpOpW P ro ops Q i K a w := by
  unfold Go.Proofs.YthlkfjoibjhaiaaGreatDoor.wpOpW Go.wpOpIn
  simp only [hi]
  rcases hy with ⟨hwt, hv⟩ | ⟨hwt, rfl⟩
  · simp only [hwt, if_true, Oper.wpIn]
    refine ⟨fun _ _ => trivial, ?_⟩
    rw [Oper.semAt_eq _ _ _ hd, hv w hw]
    exact h
  · simp only [hwt, Bool.false_eq_true, if_false]; exact ⟨fun _ _ => trivial, h⟩
theorem wpOpW_putIf {S : World → Prop} {j : Nat} {oi oj : Oper} {v : Value} (hj : ops[j]? = some oj) (hap : oi.apart ops oj = true)
    (hsi : ∀ cs b, oi.op ≠ .select cs b) (hsj : ∀ cs b, oj.op ≠ .select cs b)
    (hQ : ∀ c a w, Q (.panic c) (a.put oi.dst v) w → Q (.panic c) a w) {K : Act → World → Prop} {a : Act} {w : World}
    (hy : YieldsIf P ops S oi v a) (hdj : ∀ c, oj.op ≠ .defer c) (h : wpOpW P ro ops Q j K (a.put oi.dst v) w) :
    wpOpW P ro ops Q j (fun a' w' => YieldsIf P ops S oi v a' ∧ K (a'.put oi.dst v) w') a w := by
  obtain ⟨h1, h2, h3⟩ := Oper.apart_spec hap
  have keep : ∀ (a : Act), YieldsIf P ops S oi v a → ∀ u, YieldsIf P ops S oi v (a.put oj.dst u) := fun a hy u =>
    hy.of_same (execOp_put oi hsi a oj.dst u h3) (wanted_put oi a oj.dst u h3)
  have keepD : ∀ d, YieldsIf P ops S oi v { a with defers := d :: a.defers } := fun d => hy.of_same rfl rfl
  unfold Go.Proofs.YthlkfjoibjhaiaaGreatDoor.wpOpW Go.wpOpIn at *
  simp only [hj] at *
  rw [wanted_put oj a oi.dst v h1] at h
  split
  · rename_i hw
    simp only [hw, if_true] at h
    unfold Oper.wpIn at *
    refine ⟨fun _ _ => trivial, ?_⟩
    have h := h.2
    rw [Oper.semAt_eq _ _ _ hdj, execOp_put oj hsj a oi.dst v h1] at h
    rw [Oper.semAt_eq _ _ _ hdj]
    generalize (execOp a.eval oj).run P w = r at *
    cases r with
    | ok x w' =>
      cases x <;> simp only [Oper.uponIn] at h ⊢
      case value u => exact ⟨keep a hy u, by rw [← Act.put_comm a v u h2]; exact h⟩
      case skip => exact ⟨keep a hy _, by rw [← Act.put_comm a v undef h2]; exact h⟩
      case defer d =>
        refine ⟨keep _ (keepD d) _, ?_⟩
        rw [← Act.put_comm _ v undef h2, ← Act.put_defers]
        exact h
      case enter f args =>
        refine ⟨h.1, CallsIn.mono h.2 fun e w'' he => ?_⟩
        cases e with
        | returned u => exact ⟨keep a hy u, by rw [← Act.put_comm a v u h2]; exact he⟩
        | panicked c => exact hQ _ _ _ he
        | outgrown => exact he
      case row row args => exact ⟨h.1, RowsIn.mono h.2 fun u w'' he => ⟨keep a hy u, by rw [← Act.put_comm a v u h2]; exact he⟩⟩
      case round l f tmps assign body =>
        refine ⟨h.1, RoundIn.mono h.2 fun e w'' he => ?_⟩
        cases e with
        | returned u => exact ⟨keep a hy u, by rw [← Act.put_comm a v u h2]; exact he⟩
        | panicked c => exact hQ _ _ _ he
        | outgrown => exact he
    | halt x w' =>
      cases x <;> simp only [Oper.uponIn] at h ⊢
      case panic u => exact hQ _ _ _ h
  · rename_i hw
    simp only [hw] at h
    exact ⟨fun _ _ => trivial, keep a hy _, by rw [← Act.put_comm a v undef h2]; exact h.2⟩
theorem YieldsIf.less {S S' : World → Prop} (hS : ∀ x, S' x → S x) {o : Oper} {v : Value} {a : Act} (h : YieldsIf P ops S o v a) : YieldsIf P ops S' o v a :=
  h.imp (fun ⟨hw, hv⟩ => ⟨hw, fun w hw' => hv w (hS w hw')⟩) id

theorem wpAnyD_first {i : Nat} {oi : Oper} {v : Value} (hnd : noDefer ops = true) (hi : ops[i]? = some oi) (hsel : ∀ (j : Nat) (o : Oper) cs b, ops[j]? = some o → o.op ≠ .select cs b)
    (hQ : ∀ c a w, Q (.panic c) (a.put oi.dst v) w → Q (.panic c) a w) :
    ∀ (fuel : Nat) (S : World → Prop) (listed : Array Bool) (a : Act) (w : World),
      (∀ j oj, ops[j]? = some oj → j ≠ i → listed.getD j true = false → (∀ e ∈ oj.after, Region.binds md e = true → e.on ≠ i) → oi.apart ops oj = true) →
      i ∈ Region.ready md ops listed → YieldsIf P ops S oi v a → S w →
      wpAnyD P ro md ops Q fuel S (listed.setIfInBounds i true) (a.put oi.dst v) w → wpAnyD P ro md ops Q (fuel + 1) S listed a w := by
  intro fuel
  induction fuel with
  | zero =>
    intro S listed a w _ hr hy hS H hC
    refine ⟨fun h => (by rw [h] at hr; cases hr), fun j hj => ?_⟩
    by_cases hji : j = i
    · subst hji; exact YieldsIf.wpOpW hi hy hS ⟨S, hS, Or.inl fun _ h => h, H⟩ (noDefer_spec hnd hi)
    · have := ready_mono hj hji
      rw [H.1] at this
      cases this
  | succ fuel ih =>
    intro S listed a w hfree hr hy hS H hC
    refine ⟨fun h => (by rw [h] at hr; cases hr), fun j hj => ?_⟩
    by_cases hji : j = i
    · subst hji; exact YieldsIf.wpOpW hi hy hS ⟨S, hS, Or.inl fun _ h => h, H⟩ (noDefer_spec hnd hi)
    · have h1 := (H (hC.set hr)).2 j (ready_mono hj hji)
      obtain ⟨hjun, oj, hoj, hall⟩ := mem_ready.1 hj
      have hiun := (mem_ready.1 hr).1
      have hilt : i < listed.size := by
        rcases Nat.lt_or_ge i listed.size with h' | h'
        · exact h'
        · simp [Array.getElem?_eq_none h'] at hiun
      have hun : listed.getD i false = false := by
        simp only [Array.getD_eq_getD_getElem?, Array.getElem?_eq_getElem hilt, Option.getD_some] at hiun ⊢
        exact hiun
      have hnot : ∀ e ∈ oj.after, Region.binds md e = true → e.on ≠ i := fun e he hb heq => by
        have h1 := hall e he hb
        rw [heq, hun] at h1
        cases h1
      have hdep : depAll md ops (listed.setIfInBounds i true) j → pureO oi = true := fun hd => by
        rcases hd i (Array.getElem?_eq_some_iff.1 hi).1 (by simp [hilt]) with h2 | h2
        · have h3 := hC.dep ops.size j (fun o ho e he hb => by rw [hoj] at ho; cases ho; exact hall e he hb) h2
          rw [hun] at h3
          cases h3
        · rw [hi] at h2
          simpa using h2
      have h2 := wpOpW_putIf hoj (hfree j oj hoj hji hjun hnot) (fun cs b => hsel i oi cs b hi) (fun cs b => hsel j oj cs b hoj) hQ hy (noDefer_spec hnd hoj) h1
      have hfree' : ∀ k ok, ops[k]? = some ok → k ≠ i → (listed.setIfInBounds j true).getD k true = false →
          (∀ e ∈ ok.after, Region.binds md e = true → e.on ≠ i) → oi.apart ops ok = true := fun k ok hk hki hun hno => by
        refine hfree k ok hk hki ?_ hno
        by_cases hjk : j = k
        · subst hjk; exact hjun
        · rw [getD_set_ne true hjk] at hun; exact hun
      refine wpOpIn_mono (fun a' w' h3 => ?_) h2
      obtain ⟨hy', S', hS', hle, h4⟩ := h3
      have hy2 : YieldsIf P ops S' oi v a' := by
        rcases hle with hle | hle
        · exact YieldsIf.less hle hy'
        · exact hy'.imp (fun ⟨hw, hv⟩ => ⟨hw, fun x _ => pureO_any (hdep hle) (hv w hS) x⟩) id
      have hle2 : (∀ x, S' x → S x) ∨ depAll md ops listed j := hle.imp id fun hd k hk hkl => hd k hk (getD_set_true hkl)
      refine ⟨S', hS', hle2, ih S' (listed.setIfInBounds j true) a' w' hfree' (ready_mono hr (Ne.symm hji)) hy2 hS' ?_⟩
      rw [Array.setIfInBounds_comm _ _ hji]
      exact h4

theorem wpAnyD_take {S : World → Prop} {i : Nat} {oi : Oper} {v : Value} {fuel : Nat} {listed : Array Bool} {a : Act} {w : World} (hnd : noDefer ops = true) (hi : ops[i]? = some oi)
    (hs : Region.noSelect ops = true) (hf : Region.free md ops listed i = true) (hr : (Region.ready md ops listed).contains i = true)
    (hQ : ∀ c a w, Q (.panic c) (a.put oi.dst v) w → Q (.panic c) a w) (hy : YieldsIf P ops S oi v a) (hS : S w)
    (h : wpAnyD P ro md ops Q fuel S (listed.setIfInBounds i true) (a.put oi.dst v) w) : wpAnyD P ro md ops Q (fuel + 1) S listed a w :=
  wpAnyD_first hnd hi (Region.noSelect_spec hs) hQ fuel S listed a w (Region.free_spec hi hf) (by simpa using hr) hy hS h
theorem wpAnyD_all {S : World → Prop} {rs : List Nat} {fuel : Nat} {listed : Array Bool} {a : Act} {w : World} (hr : Region.ready md ops listed = rs) (hne : rs ≠ [])
    (h : ∀ i ∈ rs, wpOpW P ro ops Q i (fun a' w' => ∃ S' : World → Prop, S' w' ∧ ((∀ x, S' x → S x) ∨ depAll md ops listed i) ∧ wpAnyD P ro md ops Q fuel S' (listed.setIfInBounds i true) a' w') a w) : wpAnyD P ro md ops Q (fuel + 1) S listed a w :=
  fun _ => ⟨fun h0 => absurd (hr ▸ h0) hne, hr ▸ h⟩
theorem wpAnyD_done {S : World → Prop} {listed : Array Bool} {a : Act} {w : World} (hr : Region.ready md ops listed = []) (h : Q .normal a w) : ∀ fuel, wpAnyD P ro md ops Q fuel S listed a w
  | 0 => ⟨hr, h⟩
  | _ + 1 => fun _ => ⟨fun _ => h, by rw [hr]; simp⟩
theorem wp_region_dyn {S : World → Prop} {id : Nat} {a : Act} {w : World} (hm : P.follows .mixedOrders = true)
    (h : wpAnyD P ro .any ops Q ops.size S (Array.replicate ops.size false) a { w with drawn := w.drawn + 1 }) : (Code.region id ops true).wpIn (FW ro) 0 P Q a w :=
  wpIn_region_any hm (wpAny_of_dyn _ _ _ _ _ (Clo.none _) h)
end dyn

/-- A load of what does not turn. -/
def loadS (P : Program) (T : TypeId) (S : World → Prop) (b o : Nat) (K : Value → Prop) (_t : Tag K := ⟨⟩) : Prop := ∃ v, (∀ w', S w' → vcLoad P T w' b o (· = v)) ∧ K v
theorem loadS_of {P : Program} {T : TypeId} {S : World → Prop} {b o : Nat} {K : Value → Prop} (v : Value) (h : ∀ w', S w' → vcLoad P T w' b o (· = v)) (hK : K v) : loadS P T S b o K := ⟨v, h, hK⟩

def QH (P : Program) (o : Oper) (s : Fm) (S : World → Prop) (K : Value → Prop) (_t : Tag K := ⟨⟩) : Prop :=
  match o.op with
  | .load T x => ptrV (ev s x) fun b o' => loadS P T S b o' K
  | .call c =>
    (match c.callee with
    | .builtin .len =>
      (match c.argTypes.toList, c.args.toList.map (ev s) with
      | [t], [x] => (match P.underlying t with
          | some (.slice _) => slcV x fun _ n _ => K (.int .i64 n)
          | some .string => ∃ a, x = .string a ∧ K (.int .i64 a.size)
          | some (.array n _) => K (.int .i64 n)
          | _ => False)
      | _, _ => False)
    | _ => False)
  | .move .. | .assign .. | .pick .. | .binOp .. | .unOp .. | .convert .. | .nilCheck .. | .fieldAddr .. | .field .. | .indexAddr .. | .index .. | .slice .. | .extract .. | .makeInterface .. | .makeFunc .. | .typeAssert .. | .build .. => vcPure P o.op s K
  | _ => False

theorem QH_runs {P : Program} {o : Oper} {s : Fm} {S : World → Prop} {K : Value → Prop} (h : QH P o s S K) : ∃ v, (∀ w, S w → (execOp (ev s) o).run P w = .ok (.value v) w) ∧ K v := by
  have pure : vcPure P o.op s K → ∃ v, (∀ w, S w → (execOp (ev s) o).run P w = .ok (.value v) w) ∧ K v := fun h => by
    obtain ⟨v, hr, hK⟩ := vcPure_runs h
    exact ⟨v, fun w _ => hr w, hK⟩
  obtain ⟨dst, op, ty, pos, af, g⟩ := o
  cases op <;> simp only [QH] at h
  all_goals first | exact pure h | exact h.elim | skip
  case load T x =>
    obtain ⟨b, o', hx, v, hv, hK⟩ := h
    refine ⟨v, fun w hw => ?_, hK⟩
    obtain ⟨u, hr, rfl⟩ := loadVar_of (hv w hw)
    simp [execOp, hx, Instr.loadAt, Instr.sureAddr, hr]
  case call c =>
    obtain ⟨callee, args, ts⟩ := c
    cases callee <;> simp only at h
    case builtin b =>
      cases b <;> simp only at h
      case len =>
        obtain ⟨al⟩ := args
        obtain ⟨tl⟩ := ts
        rcases tl with _ | ⟨t, _ | ⟨t1, tr⟩⟩ <;> rcases al with _ | ⟨x, _ | ⟨x1, xr⟩⟩ <;> simp only [List.map_cons, List.map_nil] at h
        cases hu : P.underlying t with
        | none => simp [hu] at h
        | some d =>
          simp only [hu] at h
          cases d <;> simp only at h
          case slice e =>
            obtain ⟨b, k, c, hx, hK⟩ := h
            exact ⟨_, (fun w _ => by simp [execOp, resolve, invoke, builtin, Builtin.len_, run_underlying hu, goInt, hx]), hK⟩
          case string =>
            obtain ⟨b, hx, hK⟩ := h
            exact ⟨_, (fun w _ => by simp [execOp, resolve, invoke, builtin, Builtin.len_, run_underlying hu, goInt, hx]), hK⟩
          case array m e =>
            exact ⟨_, (fun w _ => by simp [execOp, resolve, invoke, builtin, Builtin.len_, run_underlying hu, goInt]), h⟩

/-- Does the operation i wait for all others but such as look at no memory? -/
def lastB (ops : Array Oper) (i : Nat) : Bool := (List.range ops.size).all fun k => k == i || (depB .any ops ops.size i k || (ops[k]?).any pureO)
def LastP (ops : List Oper) (i : Nat) : Prop := lastB ops.toArray i = true
/-- What is told of the world from here on. -/
def Told (L : Prop) (S : World → Prop) (w : World) (K : (World → Prop) → Prop) (_t : Tag (L, K) := ⟨⟩) : Prop := ∃ S' : World → Prop, S' w ∧ ((∀ x, S' x → S x) ∨ L) ∧ K S'
theorem told {L : Prop} {S : World → Prop} {w : World} {K : (World → Prop) → Prop} (T : World → Prop) (h1 : S w) (h2 : T w) (h : K (fun x => S x ∧ T x)) : Told L S w K := ⟨_, ⟨h1, h2⟩, Or.inl fun _ h => h.1, h⟩
theorem toldL {L : Prop} {S : World → Prop} {w : World} {K : (World → Prop) → Prop} (hL : L) (h : K (fun _ => True)) : Told L S w K := ⟨_, trivial, Or.inr hL, h⟩
def runH (P : Program) (o : Oper) (s : Fm) (L : Prop) (S : World → Prop) (w : World) (K : (World → Prop) → Value → World → Prop) (_t : Tag (L, K) := ⟨⟩) : Prop :=
  if quietOp P o = true then QH P o s S (fun v => K S v w) else vcOp P o s w (fun v w' => Told L S w' fun S' => K S' v w')

def vcH1 (P : Program) (n : Nat) (ops : List Oper) (i : Nat) (S : World → Prop) (s : Fm) (w : World) (F : (World → Prop) → Fm → World → Prop) : Prop :=
    match ops.toArray[i]? with
    | none => False
    | some o =>
      match o.guard with
      | none => dok n o.dst ∧ runH P o s (LastP ops i) S w fun S' v w' => F S' (updO s o.dst v) w'
      | some (j, want) =>
        match (ops.toArray[j]?).bind (·.dst) with
        | some d => dok n o.dst ∧ d < n ∧ grdV (s d) want
            (runH P o (upd s d (.bool want)) (LastP ops i) S w fun S' v w' => F S' (updO (upd s d (.bool want)) o.dst v) w')
            (F S (updO (upd s d (.bool (!want))) o.dst undef) w)
            (F S (updO s o.dst undef) w)
        | none => False
def vcH (P : Program) (n : Nat) (ops : List Oper) : Ord → (World → Prop) → Fm → World → (Fm → World → Prop) → Prop
  | .nil, S, s, w, K => K s w
  | .one i r, S, s, w, K => vcH1 P n ops i S s w fun S' s' w' => vcH P n ops r S' s' w' K
  | .two i j p q, S, s, w, K => vcH1 P n ops i S s w (fun S' s' w' => vcH P n ops p S' s' w' K) ∧ vcH1 P n ops j S s w (fun S' s' w' => vcH P n ops q S' s' w' K)

variable {D : List Deferred} {ro : Option Nat}
def NormQ (D : List Deferred) (n : Nat) (K : Fm → World → Prop) : Exit → Act → World → Prop := fun e a w => e = .normal ∧ ∃ s, Fr D a n s ∧ K s w

/-- One operation: carried out, or passed over. -/
theorem vcH1_cases {P : Program} {n : Nat} {opl : List Oper} {ops : Array Oper} (hol : opl.toArray = ops) {i : Nat} {o : Oper} (ho : ops[i]? = some o) {S : World → Prop} {s : Fm} {w : World} {F : (World → Prop) → Fm → World → Prop} (h : vcH1 P n opl i S s w F) {a : Act} (hF : Fr D a n s) :
    dok n o.dst ∧ ∃ s', Fr D a n s' ∧ ((Region.wanted o (yielded ops a.tmps) = true ∧ runH P o s' (LastP opl i) S w fun S' v w' => F S' (updO s' o.dst v) w') ∨
      (Region.wanted o (yielded ops a.tmps) = false ∧ F S (updO s' o.dst undef) w)) := by
  unfold vcH1 at h
  rw [hol, ho] at h
  simp only at h
  cases hg : o.guard with
  | none =>
    simp only [hg] at h
    exact ⟨h.1, s, hF, Or.inl ⟨by simp [Region.wanted, hg], h.2⟩⟩
  | some jw =>
    obtain ⟨j, want⟩ := jw
    simp only [hg] at h
    cases hd : (ops[j]?).bind (·.dst) with
    | none => simp [hd] at h
    | some d =>
      simp only [hd] at h
      obtain ⟨h1, h2, ⟨t, ht, hy, hno⟩ | ⟨ht, hK⟩⟩ := h
      case inr => exact ⟨h1, s, hF, Or.inr ⟨by simp [Region.wanted, hg, yielded_undef hF hd h2 ht], hK⟩⟩
      have hyd := yielded_of hF hd h2 ht
      have hwt : Region.wanted o (yielded ops a.tmps) = (t == want) := by
        simp only [Region.wanted, hg, hyd]
        cases t <;> cases want <;> rfl
      by_cases e : t = want
      · have h3 : (t == want) = true := by rw [e]; cases want <;> rfl
        exact ⟨h1, upd s d (.bool want), hF.upd_same (by rw [ht, e]), Or.inl ⟨hwt.trans h3, hy e⟩⟩
      · have e' : t = (!want) := by revert e; cases t <;> cases want <;> decide
        have h3 : (t == want) = false := by rw [e']; cases want <;> rfl
        exact ⟨h1, upd s d (.bool (!want)), hF.upd_same (by rw [ht, e']), Or.inr ⟨hwt.trans h3, hno e'⟩⟩
theorem lastP_dep {opl : List Oper} {ops : Array Oper} (hol : opl.toArray = ops) {i : Nat} (hL : LastP opl i) {listed : Array Bool} (hi : i ∈ Region.ready .any ops listed) : depAll .any ops listed i := by
  intro k hk hkl
  unfold LastP lastB at hL
  rw [hol] at hL
  have h3 := List.all_eq_true.1 hL k (by simpa using hk)
  have hkj : k ≠ i := by
    rintro rfl
    have h4 := (mem_ready.1 hi).1
    rw [Array.getD_eq_getD_getElem?] at h4 hkl
    cases hq : listed[k]? <;> simp_all
  simpa [hkj] using h3
/-- An operation that is not quiet, at a place where it is ready. -/
theorem vcH1_loud {P : Program} {n : Nat} {opl : List Oper} {ops : Array Oper} (hol : opl.toArray = ops) {i : Nat} {o : Oper} (ho : ops[i]? = some o) (hq : quietOp P o = false) {S : World → Prop} {s : Fm} {w : World} {F : (World → Prop) → Fm → World → Prop} (h : vcH1 P n opl i S s w F) {a : Act} (hF : Fr D a n s)
    {listed : Array Bool} (hi : i ∈ Region.ready .any ops listed) (hS : S w) {Q : Exit → Act → World → Prop} {G : (World → Prop) → Act → World → Prop} (hG : ∀ S' s' a' w', Fr D a' n s' → S' w' → F S' s' w' → G S' a' w') :
    wpOpW P ro ops Q i (fun a' w' => ∃ S' : World → Prop, S' w' ∧ ((∀ x, S' x → S x) ∨ depAll .any ops listed i) ∧ G S' a' w') a w := by
  obtain ⟨hd, s', hF', ⟨hw, hrun⟩ | ⟨hw, hK⟩⟩ := vcH1_cases hol ho h hF
  · unfold runH at hrun
    rw [if_neg (by simp [hq])] at hrun
    unfold wpOpW wpOpIn
    simp only [ho, hw, if_true]
    exact vcOp_sound hrun hF' fun v w' ⟨S', h1, h2, hv⟩ => ⟨S', h1, h2.imp id fun hL => lastP_dep hol hL hi, hG _ _ _ _ (hF'.put hd v) h1 hv⟩
  · unfold wpOpW wpOpIn
    simp only [ho, hw, Bool.false_eq_true, if_false]
    exact ⟨fun _ _ => trivial, S, hS, Or.inl fun _ h => h, hG _ _ _ _ (hF'.put hd undef) hS hK⟩

theorem vcH_sound {P : Program} {n : Nat} {opl : List Oper} {ops : Array Oper} (hol : opl.toArray = ops) {K : Fm → World → Prop} (hs : Region.noSelect ops = true) (hnd : noDefer ops = true) :
    ∀ (l : Ord) (fuel : Nat) (S : World → Prop) (listed : Array Bool) (s : Fm) (w : World), stepsOk P ops l listed fuel = true → S w → vcH P n opl l S s w K → ∀ a, Fr D a n s → wpAnyD P ro .any ops (NormQ D n K) fuel S listed a w
  | .nil, fuel, S, listed, s, w, hok, hS, h, a, hF => by
    refine wpAnyD_done ?_ ⟨rfl, s, hF, h⟩ fuel
    cases fuel <;> simpa [stepsOk] using hok
  | .one i r, 0, S, listed, s, w, hok, hS, h, a, hF => by simp [stepsOk] at hok
  | .two i j p q, 0, S, listed, s, w, hok, hS, h, a, hF => by simp [stepsOk] at hok
  | .one i r, fuel + 1, S, listed, s, w, hok, hS, h, a, hF => by
    have ih := fun S' => vcH_sound (P := P) (n := n) hol (K := K) hs hnd r fuel S' (listed.setIfInBounds i true)
    simp only [stepsOk] at hok
    simp only [vcH] at h
    cases ho : ops[i]? with
    | none => simp [ho] at hok
    | some o =>
      simp only [ho, Bool.and_eq_true] at hok
      obtain ⟨hstep, hrest⟩ := hok
      have hQ : ∀ v c (a : Act) w, NormQ D n K (.panic c) (a.put o.dst v) w → NormQ D n K (.panic c) a w := fun v c a w h => by cases h.1
      cases hq : quietOp P o with
      | true =>
        rw [if_pos hq] at hstep
        simp only [Bool.and_eq_true] at hstep
        obtain ⟨hd, s', hF', ⟨hw, hrun⟩ | ⟨hw, hK⟩⟩ := vcH1_cases hol ho h hF
        · unfold runH at hrun
          rw [if_pos hq] at hrun
          obtain ⟨v, hv, hK⟩ := QH_runs hrun
          refine wpAnyD_take (v := v) hnd ho hs hstep.2 hstep.1 (hQ v) (Or.inl ⟨hw, fun w1 hw1 => by rw [hF'.ev]; exact hv w1 hw1⟩) hS ?_
          exact ih S _ _ hrest hS hK _ (hF'.put hd v)
        · refine wpAnyD_take (v := undef) hnd ho hs hstep.2 hstep.1 (hQ _) (Or.inr ⟨hw, rfl⟩) hS ?_
          exact ih S _ _ hrest hS hK _ (hF'.put hd undef)
      | false =>
        rw [if_neg (by simp [hq])] at hstep
        have hr : Region.ready .any ops listed = [i] := by simpa using hstep
        refine wpAnyD_all hr (by simp) ?_
        intro j hj
        have : j = i := by simpa using hj
        subst this
        exact vcH1_loud hol ho hq h hF (by rw [hr]; simp) hS (fun S' s' a' w' hF' hS' hK => ih S' s' w' hrest hS' hK a' hF')
  | .two i j p q, fuel + 1, S, listed, s, w, hok, hS, h, a, hF => by
    have ihp := fun S' => vcH_sound (P := P) (n := n) hol (K := K) hs hnd p fuel S' (listed.setIfInBounds i true)
    have ihq := fun S' => vcH_sound (P := P) (n := n) hol (K := K) hs hnd q fuel S' (listed.setIfInBounds j true)
    simp only [stepsOk] at hok
    simp only [vcH] at h
    cases ho : ops[i]? with
    | none => simp [ho] at hok
    | some o =>
      cases hu : ops[j]? with
      | none => simp [ho, hu] at hok
      | some u =>
        simp only [ho, hu, Bool.and_eq_true, Bool.not_eq_true'] at hok
        obtain ⟨⟨⟨⟨hq1, hq2⟩, hr⟩, hp⟩, hq⟩ := hok
        have hr : Region.ready .any ops listed = [i, j] := by simpa using hr
        refine wpAnyD_all hr (by simp) ?_
        intro k hk
        have hk : k = i ∨ k = j := by simpa using hk
        rcases hk with rfl | rfl
        · exact vcH1_loud hol ho hq1 h.1 hF (by rw [hr]; simp) hS (fun S' s' a' w' hF' hS' hK => ihp S' s' w' hp hS' hK a' hF')
        · exact vcH1_loud hol hu hq2 h.2 hF (by rw [hr]; simp) hS (fun S' s' a' w' hF' hS' hK => ihq S' s' w' hq hS' hK a' hF')

/-! ### For simp -/
section
variable (P : Program) (n : Nat) (S : World → Prop) (K : Fm → World → Prop)
def hT (ops : List Oper) (l : Ord) (s : Fm) (w : World) (K : Fm → World → Prop) (_t : Tag (ops, l, s, K) := ⟨⟩) : Prop := vcH P n ops l S s w K
def hO (ops : List Oper) (i : Nat) (o : Option Oper) (l : Ord) (s : Fm) (w : World) (K : Fm → World → Prop) (_t : Tag (ops, l, s, K) := ⟨⟩) : Prop :=
  match o with
  | none => False
  | some o =>
      match o.guard with
      | none => dok n o.dst ∧ runH P o s (LastP ops i) S w fun S' v w' => hT P n S' ops l (updO s o.dst v) w' K
      | some (j, want) =>
        match (ops.toArray[j]?).bind (·.dst) with
        | some d => dok n o.dst ∧ d < n ∧ grdV (s d) want
            (runH P o (upd s d (.bool want)) (LastP ops i) S w fun S' v w' => hT P n S' ops l (updO (upd s d (.bool want)) o.dst v) w' K)
            (hT P n S ops l (updO (upd s d (.bool (!want))) o.dst undef) w K)
            (hT P n S ops l (updO s o.dst undef) w K)
        | none => False
variable (ops : List Oper) (s : Fm) (w : World) (i : Nat) (l : List Nat) (r r' : Ord) (d : Option Tmp) (op : Op) (ty : TypeId) (pos : String) (af : Array Edge)
theorem hO_vc (l : Ord) : hO P n S ops i ops[i]? l s w K = vcH1 P n ops i S s w fun S' s' w' => vcH P n ops l S' s' w' K := by
  have e : ops.toArray[i]? = ops[i]? := List.getElem?_toArray
  rw [← e]
  exact propext Iff.rfl
theorem h_nil : hT P n S ops (Ord.pre [] .nil) s w K = K s w := propext Iff.rfl
theorem h_cons : hT P n S ops (Ord.pre (i :: l) r) s w K = hO P n S ops i ops[i]? (Ord.pre l r) s w K := (hO_vc P n S K ops s w i (Ord.pre l r)).symm
theorem h_two (j : Nat) : hT P n S ops (Ord.pre [] (.two i j r r')) s w K = (hO P n S ops i ops[i]? r s w K ∧ hO P n S ops j ops[j]? r' s w K) := by
  rw [hO_vc, hO_vc]; exact propext Iff.rfl
theorem hO_plain (l : Ord) : hO P n S ops i (some ⟨d, op, ty, pos, af, none⟩) l s w K = (dok n d ∧ runH P ⟨d, op, ty, pos, af, none⟩ s (LastP ops i) S w fun S' v w' => hT P n S' ops l (updO s d v) w' K) := propext Iff.rfl
def hG (i : Nat) (e : Option Tmp) (want : Bool) (o : Oper) (ops : List Oper) (l : Ord) (s : Fm) (w : World) (K : Fm → World → Prop) (_t : Tag (o, ops, l, s, K) := ⟨⟩) : Prop :=
        match e with
        | some d => dok n o.dst ∧ d < n ∧ grdV (s d) want
            (runH P o (upd s d (.bool want)) (LastP ops i) S w fun S' v w' => hT P n S' ops l (updO (upd s d (.bool want)) o.dst v) w' K)
            (hT P n S ops l (updO (upd s d (.bool (!want))) o.dst undef) w K)
            (hT P n S ops l (updO s o.dst undef) w K)
        | none => False
theorem hO_grd (j : Nat) (want : Bool) (l : Ord) : hO P n S ops i (some ⟨d, op, ty, pos, af, some (j, want)⟩) l s w K = hG P n S i ((ops[j]?).bind (·.dst)) want ⟨d, op, ty, pos, af, some (j, want)⟩ ops l s w K := by
  have e : ops.toArray[j]? = ops[j]? := List.getElem?_toArray
  rw [← e]
  exact propext Iff.rfl
theorem hG_some (e : Nat) (want : Bool) (g : Option (Nat × Bool)) (l : Ord) : hG P n S i (some e) want ⟨d, op, ty, pos, af, g⟩ ops l s w K = (dok n d ∧ e < n ∧ grdV (s e) want
            (runH P ⟨d, op, ty, pos, af, g⟩ (upd s e (.bool want)) (LastP ops i) S w fun S' v w' => hT P n S' ops l (updO (upd s e (.bool want)) d v) w' K)
            (hT P n S ops l (updO (upd s e (.bool (!want))) d undef) w K)
            (hT P n S ops l (updO s d undef) w K)) := propext Iff.rfl
variable (L : Prop) (J : (World → Prop) → Value → World → Prop) (g : Option (Nat × Bool)) (dst : Option Tmp)
theorem h_move (x : Operand) : runH P ⟨dst, .move x, ty, pos, af, g⟩ s L S w J = vcPure P (.move x) s (fun v => J S v w) := propext Iff.rfl
theorem h_assign (x : Operand) : runH P ⟨dst, .assign x, ty, pos, af, g⟩ s L S w J = vcPure P (.assign x) s (fun v => J S v w) := propext Iff.rfl
theorem h_pick (c x y : Operand) : runH P ⟨dst, .pick c x y, ty, pos, af, g⟩ s L S w J = vcPure P (.pick c x y) s (fun v => J S v w) := propext Iff.rfl
theorem h_bin (op : BinOp) (T U : TypeId) (x y : Operand) : runH P ⟨dst, .binOp op T x y U, ty, pos, af, g⟩ s L S w J = vcPure P (.binOp op T x y U) s (fun v => J S v w) := propext Iff.rfl
theorem h_un (op : UnOp) (T : TypeId) (x : Operand) : runH P ⟨dst, .unOp op T x, ty, pos, af, g⟩ s L S w J = vcPure P (.unOp op T x) s (fun v => J S v w) := propext Iff.rfl
/-- A conversion: of numbers it is quiet. -/
def cvH (P : Program) (a b : Option TypeDesc) (T U : TypeId) (x : Value) (L : Prop) (S : World → Prop) (w : World) (J : (World → Prop) → Value → World → Prop) (_t : Tag (L, J) := ⟨⟩) : Prop :=
  match b with
  | some (.int k) => (match a with | some _ => intV x fun _ n => J S (.int k (k.wrap n)) w | none => False)
  | _ => cvE P a b T U x w (fun v w' => Told L S w' fun S' => J S' v w')
theorem h_conv (T U : TypeId) (x : Operand) : runH P ⟨dst, .convert T U x, ty, pos, af, g⟩ s L S w J = cvH P (P.underlying T) (P.underlying U) T U (ev s x) L S w J := by
  unfold runH cvH
  cases hU : P.underlying U with
  | none => simp [quietOp, hU, vcOp]
  | some b => cases b <;> simp [quietOp, hU, vcOp, QH, vcPure, vcConv] <;> (cases P.underlying T <;> simp)
theorem cvH_int (T U : TypeId) (x : Value) (a : TypeDesc) (k : IntKind) : cvH P (some a) (some (.int k)) T U x L S w J = intV x fun _ n => J S (.int k (k.wrap n)) w := propext Iff.rfl
theorem cvH_slice (T U : TypeId) (x : Value) (a : TypeDesc) (e : TypeId) : cvH P (some a) (some (.slice e)) T U x L S w J = RawConv P T U x w (fun v w' => Told L S w' fun S' => J S' v w') := propext Iff.rfl
theorem cvH_string (T U : TypeId) (x : Value) (a : TypeDesc) : cvH P (some a) (some .string) T U x L S w J = RawConv P T U x w (fun v w' => Told L S w' fun S' => J S' v w') := propext Iff.rfl
theorem h_nilC (x : Operand) : runH P ⟨dst, .nilCheck x, ty, pos, af, g⟩ s L S w J = vcPure P (.nilCheck x) s (fun v => J S v w) := propext Iff.rfl
theorem h_fldA (T : TypeId) (x : Operand) (f : Nat) : runH P ⟨dst, .fieldAddr T x f, ty, pos, af, g⟩ s L S w J = vcPure P (.fieldAddr T x f) s (fun v => J S v w) := propext Iff.rfl
theorem h_fld (T : TypeId) (x : Operand) (f : Nat) : runH P ⟨dst, .field T x f, ty, pos, af, g⟩ s L S w J = vcPure P (.field T x f) s (fun v => J S v w) := propext Iff.rfl
theorem h_idxA (T : TypeId) (x i : Operand) : runH P ⟨dst, .indexAddr T x i, ty, pos, af, g⟩ s L S w J = vcPure P (.indexAddr T x i) s (fun v => J S v w) := propext Iff.rfl
theorem h_idx (T : TypeId) (x i : Operand) : runH P ⟨dst, .index T x i, ty, pos, af, g⟩ s L S w J = vcPure P (.index T x i) s (fun v => J S v w) := propext Iff.rfl
theorem h_sl (T : TypeId) (x : Operand) (lo hi : Option Operand) : runH P ⟨dst, .slice T x lo hi none, ty, pos, af, g⟩ s L S w J = vcPure P (.slice T x lo hi none) s (fun v => J S v w) := propext Iff.rfl
theorem h_ext (x : Operand) (i : Nat) : runH P ⟨dst, .extract x i, ty, pos, af, g⟩ s L S w J = vcPure P (.extract x i) s (fun v => J S v w) := propext Iff.rfl
theorem h_mkI (T : TypeId) (x : Operand) : runH P ⟨dst, .makeInterface T x, ty, pos, af, g⟩ s L S w J = vcPure P (.makeInterface T x) s (fun v => J S v w) := propext Iff.rfl
theorem h_bv (T : TypeId) (parts : Array (Nat × Operand)) : runH P ⟨dst, .build T parts, ty, pos, af, g⟩ s L S w J = vcPure P (.build T parts) s (fun v => J S v w) := propext Iff.rfl
theorem h_mkF (fn : Fn) (a b : Array Operand) : runH P ⟨dst, .makeFunc fn a b, ty, pos, af, g⟩ s L S w J = vcPure P (.makeFunc fn a b) s (fun v => J S v w) := propext Iff.rfl
theorem h_asr (x : Operand) (T U : TypeId) (ok : Bool) : runH P ⟨dst, .typeAssert x T U ok, ty, pos, af, g⟩ s L S w J = vcPure P (.typeAssert x T U ok) s (fun v => J S v w) := propext Iff.rfl
theorem h_load (T : TypeId) (x : Operand) : runH P ⟨dst, .load T x, ty, pos, af, g⟩ s L S w J = (ptrV (ev s x) fun b o' => loadS P T S b o' fun v => J S v w) := by simp [runH, quietOp, QH]
theorem h_len (x : Operand) (t : TypeId) : runH P ⟨dst, .call ⟨.builtin .len, #[x], #[t]⟩, ty, pos, af, g⟩ s L S w J = lenO (P.underlying t) (ev s x) w (J S) := propext Iff.rfl
theorem h_store (T : TypeId) (x y : Operand) : runH P ⟨dst, .store T x y, ty, pos, af, g⟩ s L S w J = vcOp P ⟨dst, .store T x y, ty, pos, af, g⟩ s w (fun v w' => Told L S w' fun S' => J S' v w') := propext Iff.rfl
theorem h_alloc (T : TypeId) : runH P ⟨dst, .alloc T, ty, pos, af, g⟩ s L S w J = vcOp P ⟨dst, .alloc T, ty, pos, af, g⟩ s w (fun v w' => Told L S w' fun S' => J S' v w') := propext Iff.rfl
theorem h_box (T : TypeId) (x : Operand) : runH P ⟨dst, .box T x, ty, pos, af, g⟩ s L S w J = vcOp P ⟨dst, .box T x, ty, pos, af, g⟩ s w (fun v w' => Told L S w' fun S' => J S' v w') := propext Iff.rfl
theorem h_bld (T : TypeId) (m : Nat) (ps : Array (Nat × Operand)) : runH P ⟨dst, .buildSlice T m ps, ty, pos, af, g⟩ s L S w J = vcOp P ⟨dst, .buildSlice T m ps, ty, pos, af, g⟩ s w (fun v w' => Told L S w' fun S' => J S' v w') := propext Iff.rfl
theorem h_call (f : Nat) (args : Array Operand) (ts : Array TypeId) : runH P ⟨dst, .call ⟨.value (.func f), args, ts⟩, ty, pos, af, g⟩ s L S w J = CallK P f (args.map (ev s)) w (fun v w' => Told L S w' fun S' => J S' v w') := propext Iff.rfl
theorem h_inv (recv : Operand) (name : String) (args : Array Operand) (ts : Array TypeId) : runH P ⟨dst, .call ⟨.invoke recv name, args, ts⟩, ty, pos, af, g⟩ s L S w J = InvK P (ev s recv) name (args.map (ev s)) w (fun v w' => Told L S w' fun S' => J S' v w') := propext Iff.rfl
theorem h_dyn (t : Nat) (args : Array Operand) (ts : Array TypeId) : runH P ⟨dst, .call ⟨.value (.tmp t), args, ts⟩, ty, pos, af, g⟩ s L S w J = YieldVC P (s t) (args.map (ev s)) w (fun v w' => Told L S w' fun S' => J S' v w') := propext Iff.rfl
theorem h_copy (x y : Operand) (ts : List TypeId) : runH P ⟨dst, .call ⟨.builtin .copy, #[x, y], ts.toArray⟩, ty, pos, af, g⟩ s L S w J = RawCopy P ts [ev s x, ev s y] w (fun v w' => Told L S w' fun S' => J S' v w') := propext Iff.rfl
theorem h_make (T : TypeId) (x y : Operand) : runH P ⟨dst, .makeSlice T x y, ty, pos, af, g⟩ s L S w J = vcOp P ⟨dst, .makeSlice T x y, ty, pos, af, g⟩ s w (fun v w' => Told L S w' fun S' => J S' v w') := propext Iff.rfl
theorem h_app (x y : Operand) (t u : TypeId) : runH P ⟨dst, .call ⟨.builtin .append, #[x, y], #[t, u]⟩, ty, pos, af, g⟩ s L S w J = apE P t u (ev s x) (ev s y) w (fun v w' => Told L S w' fun S' => J S' v w') := propext Iff.rfl
end

/-- A REGION THAT DRAWS ITS ORDER, with operations that make or write memory. S: what holds of the world all through it. -/
theorem drawO {P : Program} {n id : Nat} {ops : List Oper} {s : Fm} {w : World} {Q : Post} (S : World → Prop) (l : Ord) (hm : P.follows .mixedOrders = true) (hB : orderOk P ops.toArray l = true)
    (h : ∀ w1, Ext w w1 → w1.heap = w.heap → S w1 ∧ hT P n S ops l s w1 fun s' w' => Q .normal s' w') : DrawVC P n ro id ops.toArray s w Q := by
  refine ⟨fun D a hF => ?_⟩
  simp only [orderOk, Bool.and_eq_true] at hB
  obtain ⟨⟨hB1, hB2⟩, hB3⟩ := hB
  obtain ⟨hS, hv⟩ := h { w with drawn := w.drawn + 1 } ⟨rfl, rfl, rfl, Nat.le_refl _, fun _ _ => rfl⟩ rfl
  have h1 := vcH_sound (P := P) (ro := ro) (n := n) rfl (K := fun s' w' => Q .normal s' w') hB1 hB2 l _ S _ s _ hB3 hS hv a hF
  refine wpIn_mono (wp_region_dyn hm h1) ?_
  rintro e a' w' ⟨rfl, s', hF', hK⟩
  exact ⟨s', hF', hK⟩
theorem drawH {P : Program} {n id : Nat} {ops : List Oper} {s : Fm} {w : World} {Q : Post} (S : World → Prop) (l : List Nat) (hm : P.follows .mixedOrders = true) (hB : orderOk P ops.toArray (Ord.pre l .nil) = true)
    (h : ∀ w1, Ext w w1 → w1.heap = w.heap → S w1 ∧ hT P n S ops (Ord.pre l .nil) s w1 fun s' w' => Q .normal s' w') : DrawVC P n ro id ops.toArray s w Q := drawO S _ hm hB h

end Go.Proofs.YthlkfjoibjhaiaaGreatDoor
