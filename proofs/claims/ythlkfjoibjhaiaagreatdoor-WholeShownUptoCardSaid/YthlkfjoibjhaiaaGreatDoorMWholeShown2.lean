/-
  The calculus for walks, second part: regions, statements, loops, functions. Conditions: none; plain theorems about the model.
-/
import Derived.Test.YthlkfjoibjhaiaaGreatDoorMWholeShown1
/-! Vd -/
namespace Go.Proofs.YthlkfjoibjhaiaaGreatDoor
set_option maxRecDepth 100000
open Go Go.RowKit
set_option linter.unusedVariables false
set_option linter.unusedSimpArgs false

def grdV (v : Value) (want : Bool) (A B C : Prop) (_t : Tag (A, B, C) := ⟨⟩) : Prop := (∃ t, v = .bool t ∧ (t = want → A) ∧ (t = (!want) → B)) ∨ (v = undef ∧ C)
theorem grdV_g (t want : Bool) (A B C : Prop) : grdV (.bool t) want A B C = ((t = want → A) ∧ (t = (!want) → B)) := by
  refine propext ⟨?_, fun h => Or.inl ⟨_, rfl, h⟩⟩
  rintro (⟨_, h, hK⟩ | ⟨h, _⟩)
  · cases h; exact hK
  · cases h
theorem grdV_u (want : Bool) (A B C : Prop) : grdV undef want A B C = C := by
  refine propext ⟨?_, fun h => Or.inr ⟨rfl, h⟩⟩
  rintro (⟨_, h, hK⟩ | ⟨_, h⟩)
  · cases h
  · exact h
/-- A parting of ways. -/
def bsplit (t : Bool) (A B : Prop) (_t : Tag (A, B) := ⟨⟩) : Prop := (t = true → A) ∧ (t = false → B)
theorem bsplit_t (A B : Prop) : bsplit true A B = A := by simp [bsplit]
theorem bsplit_f (A B : Prop) : bsplit false A B = B := by simp [bsplit]
theorem bsplit_d (p : Prop) [Decidable p] (A B : Prop) : bsplit (decide p) A B = ((p → A) ∧ (¬ p → B)) := by simp [bsplit]
theorem bsplit_n (t : Bool) (A B : Prop) : bsplit (!t) A B = bsplit t B A := by cases t <;> simp [bsplit]
theorem bsplit_i {t : Bool} {A B : Prop} (h1 : t = true → A) (h2 : t = false → B) : bsplit t A B := ⟨h1, h2⟩
theorem grdV_bt (t : Bool) (A B C : Prop) : grdV (.bool t) true A B C = bsplit t A B := by rw [grdV_g]; simp [bsplit]
theorem grdV_bf (t : Bool) (A B C : Prop) : grdV (.bool t) false A B C = bsplit t B A := by rw [grdV_g]; cases t <;> simp [bsplit]
def cndV (v : Value) (A B : Prop) (_t : Tag (A, B) := ⟨⟩) : Prop := ∃ t, v = .bool t ∧ (t = true → A) ∧ (t = false → B)
theorem cndV_g (t : Bool) (A B : Prop) : cndV (.bool t) A B = ((t = true → A) ∧ (t = false → B)) := propext ⟨by rintro ⟨_, h, hK⟩; cases h; exact hK, fun h => ⟨_, rfl, h⟩⟩
theorem cndV_b (t : Bool) (A B : Prop) : cndV (.bool t) A B = bsplit t A B := cndV_g t A B

/-! ### A region: its operations one behind the other -/
def vcOps (P : Program) (n : Nat) (ops : Array Oper) : List Oper → Fm → World → (Fm → World → Prop) → Prop
  | [], s, w, K => K s w
  | o :: rest, s, w, K =>
    match o.guard with
    | none => dok n o.dst ∧ vcOp P o s w fun v w' => vcOps P n ops rest (updO s o.dst v) w' K
    | some (j, want) =>
      match (ops[j]?).bind (·.dst) with
      | some d => dok n o.dst ∧ d < n ∧ grdV (s d) want
          (vcOp P o (upd s d (.bool want)) w fun v w' => vcOps P n ops rest (updO (upd s d (.bool want)) o.dst v) w' K)
          (vcOps P n ops rest (updO (upd s d (.bool (!want))) o.dst undef) w K)
          (vcOps P n ops rest (updO s o.dst undef) w K)
      | none => False

variable {D : List Deferred}
abbrev Post := Exit → Fm → World → Prop
def lift (D : List Deferred) (n : Nat) (Q : Post) : Exit → Act → World → Prop := fun e a w => ∃ s, Fr D a n s ∧ Q e s w
def wpF (P : Program) (n : Nat) (ro : Option Nat) (c : Code) (s : Fm) (w : World) (Q : Post) : Prop := ∀ D a, Fr D a n s → c.wpIn (FW ro) 0 P (lift D n Q) a w

theorem Fr.upd_same {a : Act} {n : Nat} {s : Fm} (h : Fr D a n s) {d : Nat} {v : Value} (e : s d = v) : Fr D a n (upd s d v) := by
  refine h.congr fun j => ?_
  unfold upd
  split
  · rename_i hj; rw [hj, e]
  · rfl

theorem yielded_of {a : Act} {n : Nat} {s : Fm} (h : Fr D a n s) {ops : Array Oper} {j d : Nat} (hd : (ops[j]?).bind (·.dst) = some d) (hn : d < n) {t : Bool} (ht : s d = .bool t) : yielded ops a.tmps j = some t := by
  have e := h.at_ d
  have hs : d < a.tmps.size := by rw [h.size]; exact hn
  unfold yielded
  rw [hd]
  have : a.tmps[d]? = some (.bool t) := by
    rw [Array.getElem?_eq_getElem hs]
    rw [Array.getD_eq_getD_getElem?, Array.getElem?_eq_getElem hs] at e
    simpa [ht] using e
  simp [this]

theorem yielded_undef {a : Act} {n : Nat} {s : Fm} (h : Fr D a n s) {ops : Array Oper} {j d : Nat} (hd : (ops[j]?).bind (·.dst) = some d) (hn : d < n) (ht : s d = undef) : yielded ops a.tmps j = none := by
  have e := h.at_ d
  have hs : d < a.tmps.size := by rw [h.size]; exact hn
  unfold yielded
  rw [hd]
  have : a.tmps[d]? = some undef := by
    rw [Array.getElem?_eq_getElem hs]
    rw [Array.getD_eq_getD_getElem?, Array.getElem?_eq_getElem hs] at e
    simpa [ht] using e
  simp [this, undef]

theorem vcOps_sound {P : Program} {n : Nat} {ro : Option Nat} {m : Nat} {ops : Array Oper} {Q : Exit → Act → World → Prop} {K : Fm → World → Prop} (hQ : ∀ a s w, Fr D a n s → K s w → Q .normal a w) :
    ∀ (l : List Oper) (s : Fm) (w : World), vcOps P n ops l s w K → ∀ a, Fr D a n s → wpListIn (FW ro) m P ops Q l a w
  | [], s, w, h, a, hF => hQ a s w hF h
  | o :: rest, s, w, h, a, hF => by
    have ih := vcOps_sound (P := P) (ro := ro) (m := m) (ops := ops) hQ rest
    unfold wpListIn
    simp only [vcOps] at h
    cases hg : o.guard with
    | none =>
      simp only [hg] at h
      rw [if_pos (by simp [Region.wanted, hg])]
      exact vcOp_sound h.2 hF fun v w' hv => ih _ _ hv _ (hF.put h.1 v)
    | some jw =>
      obtain ⟨j, want⟩ := jw
      simp only [hg] at h
      cases hd : (ops[j]?).bind (·.dst) with
      | none => simp [hd] at h
      | some d =>
        simp only [hd] at h
        obtain ⟨h1, h2, ⟨t, ht, hy, hno⟩ | ⟨ht, hK⟩⟩ := h
        case inr =>
          rw [if_neg (by simp [Region.wanted, hg, yielded_undef hF hd h2 ht])]
          exact ⟨fun _ _ => trivial, ih _ _ hK _ (hF.put h1 undef)⟩
        have hyd := yielded_of hF hd h2 ht
        by_cases e : t = want
        · rw [if_pos (by simp [Region.wanted, hg, hyd, e])]
          have hF' := hF.upd_same (d := d) (v := .bool want) (by rw [ht, e])
          exact vcOp_sound (hy e) hF' fun v w' hv => ih _ _ hv _ (hF'.put h1 v)
        · have e' : t = (!want) := by cases t <;> cases want <;> simp_all
          rw [if_neg (by simp [Region.wanted, hg, hyd, e])]
          have hF' := hF.upd_same (d := d) (v := .bool (!want)) (by rw [ht, e'])
          exact ⟨fun _ _ => trivial, ih _ _ (hno e') _ (hF'.put h1 undef)⟩

/-! ### A region that draws its order: operations that only read, or call what returns one value -/
structure RawConvQ (P : Program) (src dst : TypeId) (x : Value) (w : World) (K : Value → Prop) (_t : Tag K := ⟨⟩) : Prop where
  out : ∃ v, (∀ w', Ext w w' → (convert src dst x).run P w' = .ok v w') ∧ K v
def cvQ (P : Program) (a b : Option TypeDesc) (src dst : TypeId) (x : Value) (w : World) (K : Value → Prop) (_t : Tag K := ⟨⟩) : Prop :=
  match a with
  | some _ => (match b with | some (.int k) => intV x fun _ n => K (.int k (k.wrap n)) | some .string => RawConvQ P src dst x w K | _ => False)
  | none => False
def Q1 (P : Program) (o : Oper) (s : Fm) (w : World) (K : Value → Prop) (_t : Tag K := ⟨⟩) : Prop :=
  match o.op with
  | .load T x => ptrV (ev s x) fun b o' => vcLoad P T w b o' K
  | .call c => 
    (match c.callee with
    | .value (.func f) => ∃ v, (∀ w', Ext w w' → CallB P f (c.args.map (ev s)) w' fun u w'' => u = v ∧ Ext w' w'') ∧ K v
    | .builtin .len =>
      (match c.argTypes.toList, c.args.toList.map (ev s) with
      | [t], [x] => (match P.underlying t with
          | some (.slice _) => slcV x fun _ n _ => K (.int .i64 n)
          | some .string => ∃ a, x = .string a ∧ K (.int .i64 a.size)
          | some (.array n _) => K (.int .i64 n)
          | _ => False)
      | _, _ => False)
    | _ => False)
  | .convert src dst x => cvQ P (P.underlying src) (P.underlying dst) src dst (ev s x) w K
  | .move .. | .assign .. | .pick .. | .binOp .. | .unOp .. | .nilCheck .. | .fieldAddr .. | .field .. | .indexAddr .. | .index .. | .slice .. | .extract .. | .makeInterface .. | .makeFunc .. | .typeAssert .. | .build .. => vcPure P o.op s K
  | _ => False

def vcQ (P : Program) (n : Nat) (ops : Array Oper) (w : World) : List Oper → Fm → (Fm → Prop) → Prop
  | [], s, K => K s
  | o :: rest, s, K =>
    match o.guard with
    | none => dok n o.dst ∧ Q1 P o s w fun v => vcQ P n ops w rest (updO s o.dst v) K
    | some (j, want) =>
      match (ops[j]?).bind (·.dst) with
      | some d => dok n o.dst ∧ d < n ∧ grdV (s d) want
          (Q1 P o (upd s d (.bool want)) w fun v => vcQ P n ops w rest (updO (upd s d (.bool want)) o.dst v) K)
          (vcQ P n ops w rest (updO (upd s d (.bool (!want))) o.dst undef) K)
          (vcQ P n ops w rest (updO s o.dst undef) K)
      | none => False

theorem vcLoad_ext {P : Program} {T : TypeId} {w w' : World} {b o : Nat} {K : Value → Prop} (h : vcLoad P T w b o K) (e : Ext w w') : vcLoad P T w' b o K := by
  unfold vcLoad at *
  have hc : ∀ j v, w.cell? ⟨b, j, none⟩ = some v → w'.cell? ⟨b, j, none⟩ = some v := fun j v hv => by
    rw [e.cell (block_lt_of_cell hv)]; exact hv
  cases ht : (P.underlying T).map isAggD with
  | none => simp [ht] at h
  | some t =>
    cases t
    · simp only [ht] at h ⊢
      obtain ⟨v, hv, hK⟩ := h
      exact ⟨v, hc _ _ hv, hK⟩
    · simp only [ht] at h ⊢
      obtain ⟨l, hl, hv, hK⟩ := h
      exact ⟨l, hl, fun j v hj => hc _ _ (hv j v hj), hK⟩

theorem vcLoad_one {P : Program} {T : TypeId} {w : World} {b o : Nat} {K : Value → Prop} (h : vcLoad P T w b o K) : ∃ v, vcLoad P T w b o (· = v) ∧ K v := by
  unfold vcLoad at *
  cases ht : (P.underlying T).map isAggD with
  | none => simp [ht] at h
  | some t =>
    cases t
    · simp only [ht] at h ⊢
      obtain ⟨v, hv, hK⟩ := h
      exact ⟨v, ⟨v, hv, rfl⟩, hK⟩
    · simp only [ht] at h ⊢
      obtain ⟨l, hl, hv, hK⟩ := h
      exact ⟨_, ⟨l, hl, hv, rfl⟩, hK⟩

theorem Q1_quiet {P : Program} {o : Oper} {s : Fm} {w : World} {K : Value → Prop} (h : Q1 P o s w K) {a : Act} {n : Nat} (hF : Fr D a n s) {next : Act → Prop} (hn : ∀ v, K v → next (a.put o.dst v)) :
    o.quiet P a (fun w' => Ext w w') next := by
  have pure : vcPure P o.op s K → o.quiet P a (fun w' => Ext w w') next := fun h => by
    obtain ⟨v, hr, hK⟩ := vcPure_runs h
    refine ⟨v, fun w' _ => ?_, hn v hK⟩
    unfold Oper.quietAt
    rw [hF.ev, hr]
    exact ⟨rfl, rfl⟩
  obtain ⟨dst, op, ty, pos, af, g⟩ := o
  cases op <;> simp only [Q1] at h
  all_goals first | exact pure h | exact h.elim | skip
  case load T x =>
    obtain ⟨b, o', hx, h⟩ := h
    obtain ⟨v, hv, hK⟩ := vcLoad_one h
    refine ⟨v, fun w' hw => ?_, hn v hK⟩
    obtain ⟨u, hr, rfl⟩ := loadVar_of (vcLoad_ext hv hw)
    unfold Oper.quietAt
    rw [hF.ev]
    have : (execOp (ev s) ⟨dst, .load T x, ty, pos, af, g⟩).run P w' = .ok (.value u) w' := by
      simp [execOp, hx, Instr.loadAt, Instr.sureAddr, hr]
    rw [this]
    exact ⟨rfl, rfl⟩
  case convert src tgt x =>
    cases hs : P.underlying src with
    | none => simp [hs, cvQ] at h
    | some a =>
      cases hd : P.underlying tgt with
      | none => simp [hs, hd, cvQ] at h
      | some b =>
        simp only [hs, hd, cvQ] at h
        cases b <;> simp only at h
        case int k => exact pure (by simp only [vcPure, vcConv, hs, hd]; exact h)
        case string =>
          obtain ⟨v, hr, hK⟩ := h.out
          refine ⟨v, fun w' hw => ?_, hn v hK⟩
          unfold Oper.quietAt
          rw [hF.ev]
          have : (execOp (ev s) ⟨dst, .convert src tgt x, ty, pos, af, g⟩).run P w' = .ok (.value v) w' := by
            simp [execOp, hr w' hw]
          rw [this]
          exact ⟨rfl, rfl⟩
  case call c =>
    obtain ⟨callee, args, ts⟩ := c
    cases callee <;> simp only at h
    case value x =>
      cases x <;> simp only at h
      case func f =>
        obtain ⟨v, hc, hK⟩ := h
        refine ⟨v, fun w' hw => ?_, hn v hK⟩
        have hcc := hc w' hw
        unfold Oper.quietAt
        rw [hF.ev]
        have : (execOp (ev s) ⟨dst, .call ⟨.value (.func f), args, ts⟩, ty, pos, af, g⟩).run P w' = .ok (.enter f (args.map (ev s))) w' := by
          simp [execOp, resolve, ev_func, Deferred.ofValue, invoke, run_callFunc_of hcc.callable]
        rw [this]
        exact ⟨rfl, hcc.calls.mono fun e w'' ⟨u, he, hu, hx⟩ => ⟨by rw [he, hu], Ext.trans' hw hx⟩⟩
    case builtin b =>
      cases b <;> simp only at h
      case len =>
        obtain ⟨al⟩ := args
        obtain ⟨tl⟩ := ts
        have value : ∀ v, (∀ w, (execOp (ev s) ⟨dst, .call ⟨.builtin .len, ⟨al⟩, ⟨tl⟩⟩, ty, pos, af, g⟩).run P w = .ok (.value v) w) → K v →
            (⟨dst, .call ⟨.builtin .len, ⟨al⟩, ⟨tl⟩⟩, ty, pos, af, g⟩ : Oper).quiet P a (fun w' => Ext w w') next := by
          intro v hr hK
          refine ⟨v, fun w' _ => ?_, hn v hK⟩
          unfold Oper.quietAt
          rw [hF.ev, hr]
          exact ⟨rfl, rfl⟩
        rcases tl with _ | ⟨t, _ | ⟨t1, tr⟩⟩ <;> rcases al with _ | ⟨x, _ | ⟨x1, xr⟩⟩ <;> simp only [List.map_cons, List.map_nil] at h
        cases hu : P.underlying t with
        | none => simp [hu] at h
        | some d =>
          simp only [hu] at h
          cases d <;> simp only at h
          case slice e =>
            obtain ⟨b, k, c, hx, hK⟩ := h
            exact value _ (fun w => by simp [execOp, resolve, invoke, builtin, Builtin.len_, run_underlying hu, goInt, hx]) hK
          case string =>
            obtain ⟨b, hx, hK⟩ := h
            exact value _ (fun w => by simp [execOp, resolve, invoke, builtin, Builtin.len_, run_underlying hu, goInt, hx]) hK
          case array m e =>
            exact value _ (fun w => by simp [execOp, resolve, invoke, builtin, Builtin.len_, run_underlying hu, goInt]) h

theorem vcQ_sound {P : Program} {n : Nat} {ops : Array Oper} {w : World} {Q : Act → Prop} {K : Fm → Prop} (hQ : ∀ a s, Fr D a n s → K s → Q a) :
    ∀ (l : List Oper) (s : Fm), vcQ P n ops w l s K → ∀ a, Fr D a n s → wpQuiet P ops (fun w' => Ext w w') Q l a
  | [], s, h, a, hF => hQ a s hF h
  | o :: rest, s, h, a, hF => by
    have ih := vcQ_sound (P := P) (ops := ops) (w := w) hQ rest
    unfold wpQuiet
    simp only [vcQ] at h
    cases hg : o.guard with
    | none =>
      simp only [hg] at h
      rw [if_pos (by simp [Region.wanted, hg])]
      exact Q1_quiet h.2 hF fun v hv => ih _ hv _ (hF.put h.1 v)
    | some jw =>
      obtain ⟨j, want⟩ := jw
      simp only [hg] at h
      cases hd : (ops[j]?).bind (·.dst) with
      | none => simp [hd] at h
      | some d =>
        simp only [hd] at h
        obtain ⟨h1, h2, ⟨t, ht, hy, hno⟩ | ⟨ht, hK⟩⟩ := h
        case inr =>
          rw [if_neg (by simp [Region.wanted, hg, yielded_undef hF hd h2 ht])]
          exact ih _ hK _ (hF.put h1 undef)
        have hyd := yielded_of hF hd h2 ht
        by_cases e : t = want
        · rw [if_pos (by simp [Region.wanted, hg, hyd, e])]
          have hF' := hF.upd_same (d := d) (v := .bool want) (by rw [ht, e])
          exact Q1_quiet (hy e) hF' fun v hv => ih _ hv _ (hF'.put h1 v)
        · have e' : t = (!want) := by cases t <;> cases want <;> simp_all
          rw [if_neg (by simp [Region.wanted, hg, hyd, e])]
          have hF' := hF.upd_same (d := d) (v := .bool (!want)) (by rw [ht, e'])
          exact ih _ (hno e') _ (hF'.put h1 undef)

/-- A region that draws: the walk in the order of the text. -/
structure DrawVC (P : Program) (n : Nat) (ro : Option Nat) (id : Nat) (ops : Array Oper) (s : Fm) (w : World) (Q : Post) (_t : Tag (ops, s, Q) := ⟨⟩) : Prop where
  out : wpF P n ro (.region id ops true) s w Q
theorem draw_quiet {P : Program} {n id : Nat} {ops : Array Oper} {s : Fm} {w : World} {Q : Post} (hm : P.follows .mixedOrders = true) (hB : Region.lexB .any ops = true)
    (h : vcQ P n ops w ops.toList s fun s' => ∀ w', Ext w w' → Q .normal s' w') : DrawVC P n none id ops s w Q := by
  refine ⟨fun D a hF => wpIn_wide.2 (wp_region_quiet (C := fun w' => Ext w w') hm hB ?_ ?_)⟩
  · exact ⟨rfl, rfl, rfl, Nat.le_refl _, fun _ _ => rfl⟩
  · exact vcQ_sound (fun a s hF hK w' hw => ⟨s, hF, hK w' hw⟩) _ _ h a hF

/-! ### Statements -/
def seqQ (N : Fm → World → Prop) (Q : Post) : Post := fun e s w =>
  match e with
  | .normal => N s w
  | .exit i => Q (.exit i) s w
  | .goto l => Q (.goto l) s w
  | .ret => Q .ret s w
  | .panic c => Q (.panic c) s w
  | .outgrown => Q .outgrown s w
def blkQ (id : Nat) (Q : Post) : Post := fun e s w =>
  match e with
  | .normal => Q .normal s w
  | .exit i => if i = id then Q .normal s w else Q (.exit i) s w
  | .goto l => Q (.goto l) s w
  | .ret => Q .ret s w
  | .panic c => Q (.panic c) s w
  | .outgrown => Q .outgrown s w
theorem blkQ_exit (id : Nat) (Q : Post) (i : Nat) (s : Fm) (w : World) : blkQ id Q (.exit i) s w = if i = id then Q .normal s w else Q (.exit i) s w := rfl
structure LoopVC (P : Program) (n : Nat) (ro : Option Nat) (body : Code) (s : Fm) (w : World) (Q : Post) (_t : Tag (body, s, Q) := ⟨⟩) : Prop where
  out : wpF P n ro (.loop body) s w Q
structure RawVC (P : Program) (n : Nat) (ro : Option Nat) (c : Code) (s : Fm) (w : World) (Q : Post) (_t : Tag (c, s, Q) := ⟨⟩) : Prop where
  out : wpF P n ro c s w Q

def vc (P : Program) (n : Nat) (ro : Option Nat) : Code → Fm → World → Post → Prop
  | .skip, s, w, Q => Q .normal s w
  | .region id ops draw, s, w, Q => if draw = true then DrawVC P n ro id ops s w Q else vcOps P n ops ops.toList s w fun s' w' => Q .normal s' w'
  | .seq a b, s, w, Q => vc P n ro a s w (seqQ (fun s' w' => vc P n ro b s' w' Q) Q)
  | .cond c x y, s, w, Q => cndV (ev s c) (vc P n ro x s w Q) (vc P n ro y s w Q)
  | .block id c, s, w, Q => vc P n ro c s w (blkQ id Q)
  | .loop c, s, w, Q => LoopVC P n ro c s w Q
  | .exit id, s, w, Q => Q (.exit id) s w
  | .ret, s, w, Q => Q .ret s w
  | .label _, s, w, Q => Q .normal s w
  | .goto l, s, w, Q => Q (.goto l) s w
  | .rangeFunc f ps x y, s, w, Q => RawVC P n ro (.rangeFunc f ps x y) s w Q
  | .scope c, s, w, Q => RawVC P n ro (.scope c) s w Q
  | .refuse _, _, _, _ => False

theorem vc_sound {P : Program} {n : Nat} {ro : Option Nat} : ∀ (c : Code) (s : Fm) (w : World) (Q : Post), vc P n ro c s w Q → wpF P n ro c s w Q
  | .skip, s, w, Q, h => fun D a hF => wpIn_skip ⟨s, hF, h⟩
  | .region id ops draw, s, w, Q, h => by
    cases draw
    · simp only [vc, Bool.false_eq_true, if_false] at h
      exact fun D a hF => wpIn_region_list (vcOps_sound (fun a s w hF hK => ⟨s, hF, hK⟩) _ _ _ h a hF)
    · simp only [vc, if_true] at h
      exact h.out
  | .seq x y, s, w, Q, h => by
    intro D a hF
    refine wpIn_seq (wpIn_mono (vc_sound x s w _ h D a hF) ?_)
    rintro e a' w' ⟨s', hF', hq⟩
    cases e
    case normal => exact vc_sound y s' w' Q hq D a' hF'
    all_goals exact ⟨s', hF', hq⟩
  | .cond c x y, s, w, Q, h => by
    obtain ⟨t, ht, h1, h2⟩ := h
    intro D a hF
    exact wpIn_cond_split (t := t) (by rw [hF.ev]; exact ht) (fun e => vc_sound x s w Q (h1 e) D a hF) (fun e => vc_sound y s w Q (h2 e) D a hF)
  | .block id c, s, w, Q, h => by
    intro D a hF
    refine wpIn_block (wpIn_mono (vc_sound c s w _ h D a hF) ?_)
    rintro e a' w' ⟨s', hF', hq⟩
    cases e
    case exit i =>
      simp only [blkQ_exit] at hq
      simp only [Exit.inBlock]
      split
      · rename_i e; rw [if_pos e] at hq; exact ⟨s', hF', hq⟩
      · rename_i e; rw [if_neg e] at hq; exact ⟨s', hF', hq⟩
    all_goals exact ⟨s', hF', hq⟩
  | .loop c, s, w, Q, h => h.out
  | .exit id, s, w, Q, h => fun D a hF => wpIn_exit ⟨s, hF, h⟩
  | .ret, s, w, Q, h => fun D a hF => wpIn_ret ⟨s, hF, h⟩
  | .label _, s, w, Q, h => fun D a hF => wpIn_label ⟨s, hF, h⟩
  | .goto l, s, w, Q, h => fun D a hF => wpIn_goto ⟨s, hF, h⟩
  | .rangeFunc f ps x y, s, w, Q, h => h.out
  | .scope c, s, w, Q, h => h.out
  | .refuse _, s, w, Q, h => h.elim

/-! ### Loops -/
/-- The slots that a code writes. -/
def opWr (o : Oper) : List Nat := match o.dst with | some d => [d] | none => []
def wr : Code → List Nat
  | .region _ ops _ => ops.toList.flatMap opWr
  | .seq a b => wr a ++ wr b
  | .cond _ a b => wr a ++ wr b
  | .block _ c => wr c
  | .loop c => wr c
  | .scope c => wr c
  | _ => []

/-- A loop: what holds of the frame and the world at the head of each round; a measure. -/
theorem loop_inv {P : Program} {n : Nat} {ro : Option Nat} {body : Code} {s : Fm} {w : World} {Q : Post} (I : Fm → World → Prop) (μ : Fm → World → Nat) (h0 : I s w)
    (hr : ∀ s' w', I s' w' → vc P n ro body s' w' (seqQ (fun s'' w'' => I s'' w'' ∧ μ s'' w'' < μ s' w') Q)) : LoopVC P n ro body s w Q := by
  refine ⟨fun D a hF => ?_⟩
  refine wpIn_loop (fun a w => ∃ s, Fr D a n s ∧ I s w) (fun a w => μ (fun j => a.tmps.getD j undef) w) ⟨s, hF, h0⟩ ?_
  rintro a' w' ⟨s', hF', hI⟩
  have e1 : (fun j => a'.tmps.getD j undef) = s' := funext hF'.at_
  refine wpIn_mono (vc_sound body s' w' _ (hr s' w' hI) D a' hF') ?_
  rintro e a'' w'' ⟨s'', hF'', hq⟩
  cases e
  case normal =>
    have e2 : (fun j => a''.tmps.getD j undef) = s'' := funext hF''.at_
    refine ⟨⟨s'', hF'', hq.1⟩, ?_⟩
    simp only [e1, e2]
    exact hq.2
  all_goals exact ⟨s'', hF'', hq⟩

/-! ### Functions -/
def initFm : List Value → Nat → Fm
  | [], _ => und
  | v :: vs, i => upd (initFm vs (i + 1)) i v

theorem initFm_at : ∀ (vs : List Value) (i j : Nat), initFm vs i j = if i ≤ j then vs.getD (j - i) undef else undef
  | [], i, j => by simp [initFm, und]
  | v :: vs, i, j => by
    simp only [initFm, upd_at, initFm_at vs (i + 1) j]
    by_cases h : j = i
    · subst h; simp
    · by_cases h2 : i ≤ j
      · have : j - i = (j - (i + 1)) + 1 := by omega
        rw [if_neg h, if_pos (by omega), if_pos h2, this]
        simp
      · rw [if_neg h, if_neg (by omega), if_neg h2]

theorem Fr_init (vs : List Value) (n : Nat) (h : vs.length ≤ n) : Fr [] { tmps := vs.toArray ++ Array.replicate (n - vs.toArray.size) undef, defers := [] } n (initFm vs 0) := by
  refine ⟨rfl, by simp; omega, fun j => ?_⟩
  rw [initFm_at]
  simp only [Array.getD_eq_getD_getElem?, Nat.zero_le, if_true, Nat.sub_zero, List.getD_eq_getElem?_getD]
  by_cases hj : j < vs.length
  · rw [Array.getElem?_append_left (by simpa using hj)]
    simp
  · rw [Array.getElem?_append_right (by simpa using Nat.le_of_not_lt hj)]
    rw [List.getElem?_eq_none (Nat.le_of_not_lt hj)]
    simp only [Option.getD_none]
    by_cases h2 : j - vs.toArray.size < n - vs.toArray.size
    · simp at h2
      simp [h2]
    · simp at h2
      simp [h2]

/-- What a function hands back. -/
def resVC (P : Program) (rs : Array ResultVar) (s : Fm) (w : World) (K : Value → Prop) : Prop :=
  match rs.toList with
  | [] => K (.tuple #[])
  | [.tmp t] => K (s t)
  | [.tmp t, .tmp u] => K (.tuple #[s t, s u])
  | [.tmp t, .tmp u, .tmp v] => K (.tuple #[s t, s u, s v])
  | [.tmp t, .tmp u, .tmp v, .tmp x] => K (.tuple #[s t, s u, s v, s x])
  | [.cell t T] => ∃ b o, s t = .pointer (some ⟨b, o, none⟩) ∧ vcLoad P T w b o K
  | [.cell t T, .tmp u] => ∃ b o, s t = .pointer (some ⟨b, o, none⟩) ∧ vcLoad P T w b o fun v => K (.tuple #[v, s u])
  | [.cell t T, .tmp u, .tmp x, .tmp y] => ∃ b o, s t = .pointer (some ⟨b, o, none⟩) ∧ vcLoad P T w b o fun v => K (.tuple #[v, s u, s x, s y])
  | _ => False

def retQ (P : Program) (rs : Array ResultVar) (K : Value → World → Prop) : Post := fun e s w =>
  match e with
  | .normal => resVC P rs s w fun v => K v w
  | .ret => resVC P rs s w fun v => K v w
  | _ => False
theorem res_of {P : Program} {fn : Func} {rs : Array ResultVar} (hr : fn.results = rs) {a : Act} {n : Nat} {s : Fm} (hF : Fr D a n s) {w : World} {K : Value → Prop} (h : resVC P rs s w K) :
    ∃ v, (results fn a.tmps).run P w = .ok v w ∧ K v := by
  have e : ∀ t, a.tmps.getD t undef = s t := hF.at_
  have e' : ∀ t, a.tmps[t]?.getD undef = s t := fun t => by rw [← Array.getD_eq_getD_getElem?]; exact e t
  obtain ⟨l⟩ := rs
  unfold resVC at h
  simp only at h
  unfold results
  rw [hr]
  split at h
  · exact ⟨_, by simp, h⟩
  · exact ⟨_, by simp [e'], h⟩
  · exact ⟨_, by simp [e'], h⟩
  · exact ⟨_, by simp [e'], h⟩
  · exact ⟨_, by simp [e'], h⟩
  · rename_i t T
    obtain ⟨b, o, ht, hl⟩ := h
    obtain ⟨v, hv, hK⟩ := loadVar_of hl
    exact ⟨v, by simp [e', ht, asAddr, hv], hK⟩
  · obtain ⟨b, o, ht, hl⟩ := h
    obtain ⟨v, hv, hK⟩ := loadVar_of hl
    exact ⟨_, by simp [e', ht, asAddr, hv], hK⟩
  · obtain ⟨b, o, ht, hl⟩ := h
    obtain ⟨v, hv, hK⟩ := loadVar_of hl
    exact ⟨_, by simp [e', ht, asAddr, hv], hK⟩
  · exact h.elim

/-- A CALL OF A FUNCTION WITH A BODY: its code's proposition. -/
theorem enter {P : Program} {f : FuncId} {fn : Func} {c : Code} {n : Nat} {rs : Array ResultVar} {vs : List Value} {w : World} {K : Value → World → Prop} (hf : P.funcs[f]? = some fn) (hb : fn.body = some c) (hn : fn.ntmps = n)
    (hr : fn.results = rs) (hl : decide (vs.length ≤ n) = true) (hname : (fn.name != "runtime.NumGoroutine") = true) (h : vc P n none c (initFm vs 0) w (retQ P rs K)) : CallK P f vs.toArray w K := by
  refine ⟨Or.inl ⟨by simp [callable, hf, hb, hname], ?_⟩⟩
  refine calls_of_wp hf hb ?_
  rw [hn]
  refine wp_mono (wpIn_wide.1 (vc_sound c _ w _ h [] _ (Fr_init vs n (of_decide_eq_true hl)))) ?_
  rintro e a w' ⟨s, hF, hq⟩
  cases e <;> simp only [retQ] at hq
  case normal =>
    obtain ⟨v, hv, hK⟩ := res_of hr hF hq
    exact ⟨hF.defers, v, hv, v, rfl, hK⟩
  case ret =>
    obtain ⟨v, hv, hK⟩ := res_of hr hF hq
    exact ⟨hF.defers, v, hv, v, rfl, hK⟩



end Go.Proofs.YthlkfjoibjhaiaaGreatDoor
