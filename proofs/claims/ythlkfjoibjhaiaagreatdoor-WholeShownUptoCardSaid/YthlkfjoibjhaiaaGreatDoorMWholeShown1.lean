/-
  A small calculus for walks: a function's code is unfolded into a plain proposition ('vc'), proved sound against the model's weakest precondition. Conditions: none; plain theorems about the model.
-/
import Derived.WalkKit
import Derived.ProofKit
import Derived.OpenShut
import Derived.Still
import Derived.Deep.Quiet
import Derived.KernelRfl
import Derived.DeepKeys
import Derived.WalkSpells
import Derived.Laws.Tables
import Derived.Laws.Small
import Derived.CallsIn
import Derived.Deep.DeepAppendRoom
import Derived.Maps.AppendAt
import Derived.ControlIn
import Derived.TacticsIn
import Derived.RangeFuncSeq
/-! Vc -/
namespace Go.Proofs.YthlkfjoibjhaiaaGreatDoor
set_option maxRecDepth 100000
open Go Go.RowKit
set_option linter.unusedVariables false
set_option linter.unusedSimpArgs false

/-! ### Worlds -/
abbrev Ext (w w' : World) : Prop := Below w.heap.size w w'
theorem Ext.rfl' (w : World) : Ext w w := Below.refl _ _
theorem Ext.trans' {a b c : World} (h : Ext a b) (k : Ext b c) : Ext a c := Below.trans h (k.mono h.size)

/-- Block b of the world holds these cells, all of them open to writing. -/
structure Blk (w : World) (b : Nat) (T : TypeId) (l : List Value) : Prop where
  out : w.heap[b]? = some (.cells l.toArray T (0, 0))
theorem Blk.lt {w : World} {b : Nat} {T : TypeId} {l : List Value} (h : Blk w b T l) : b < w.heap.size := (Array.getElem?_eq_some_iff.1 h.out).1
theorem Blk.cell {w : World} {b : Nat} {T : TypeId} {l : List Value} (h : Blk w b T l) (j : Nat) : w.cell? ⟨b, j, none⟩ = l[j]? := by
  simp [World.cell?, h.out]
theorem Blk.below {B : Nat} {w w' : World} {b : Nat} {T : TypeId} {l : List Value} (h : Blk w b T l) (e : Below B w w') (hb : b < B) : Blk w' b T l :=
  ⟨by rw [e.block b hb]; exact h.out⟩
theorem Blk.ext {w w' : World} {b : Nat} {T : TypeId} {l : List Value} (h : Blk w b T l) (e : Ext w w') : Blk w' b T l := h.below e h.lt
theorem Blk.frozen {w : World} {b : Nat} {T : TypeId} {l : List Value} (h : Blk w b T l) (j : Nat) : w.frozen? ⟨b, j, none⟩ = false := by
  simp [World.frozen?, h.out]

/-- w' is w with one new block behind all others (orders may have been drawn). -/
structure NewB (w w' : World) (T : TypeId) (l : List Value) : Prop where
  os : w'.os = w.os
  tape : w'.tape = w.tape
  output : w'.output = w.output
  size : w'.heap.size = w.heap.size + 1
  blk : Blk w' w.heap.size T l
  other : ∀ k, k < w.heap.size → w'.heap[k]? = w.heap[k]?
theorem NewB.ext {w w' : World} {T : TypeId} {l : List Value} (h : NewB w w' T l) : Ext w w' :=
  ⟨h.os, h.tape, h.output, by rw [h.size]; omega, h.other⟩
theorem NewB.alloc (w : World) (T : TypeId) (l : List Value) : NewB w (w.alloc (.cells l.toArray T)) T l :=
  ⟨rfl, rfl, rfl, by simp, ⟨heap_alloc_new w _⟩, fun k hk => Below.heap_alloc w _ k hk⟩
theorem NewB.keep {w w' : World} {b : Nat} {T U : TypeId} {l m : List Value} (h : NewB w w' T l) (k : Blk w b U m) : Blk w' b U m := k.ext h.ext

/-- w' is w but for the cells of block b. -/
structure Put (w w' : World) (b : Nat) (T : TypeId) (l : List Value) : Prop where
  os : w'.os = w.os
  tape : w'.tape = w.tape
  output : w'.output = w.output
  size : w'.heap.size = w.heap.size
  blk : Blk w' b T l
  other : ∀ k, k ≠ b → w'.heap[k]? = w.heap[k]?
theorem Put.below {w w' : World} {b : Nat} {T : TypeId} {l : List Value} (h : Put w w' b T l) {B : Nat} (hb : B ≤ b) : Below B w w' :=
  ⟨h.os, h.tape, h.output, Nat.le_of_eq h.size.symm, fun k hk => h.other k (by omega)⟩
theorem Put.keep {w w' : World} {b c : Nat} {T U : TypeId} {l m : List Value} (h : Put w w' b T l) (k : Blk w c U m) (hc : c ≠ b) : Blk w' c U m :=
  ⟨by rw [h.other c hc]; exact k.out⟩

/-! ### Frames -/
abbrev Fm := Nat → Value
def upd (s : Fm) (d : Nat) (v : Value) : Fm := fun j => if j = d then v else s j
theorem upd_at (s : Fm) (d : Nat) (v : Value) (j : Nat) : upd s d v j = if j = d then v else s j := rfl
def und : Fm := fun _ => undef
def updO (s : Fm) (d : Option Nat) (v : Value) : Fm := match d with | some d => upd s d v | none => s
def dok (n : Nat) (d : Option Nat) : Prop := match d with | some d => d < n | none => True
structure Fr (D : List Deferred) (a : Act) (n : Nat) (s : Fm) : Prop where
  defers : a.defers = D
  size : a.tmps.size = n
  at_ : ∀ j, a.tmps.getD j undef = s j

variable {D : List Deferred}
/-- The fence of all functions; in a round, or in none. -/
def FW (ro : Option Nat) : Fence := { Fence.wide with round := ro }
theorem callsFW {P : Program} {f : FuncId} {args : Array Value} {w : World} {R : Ending → World → Prop} (ro : Option Nat) (m : Nat) (h : Calls P f args w R) : CallsIn (FW ro) m P f args w R :=
  (callsIn_wide (n := m)).2 h
theorem roundFW {P : Program} {l : Nat} {f : FuncId} {tmps : Array Value} {assign body : Code} {w : World} {R : Ending → World → Prop} (ro : Option Nat) (k m : Nat) (h : RoundIn Fence.wide k P l f tmps assign body w R) : RoundIn (FW ro) m P l f tmps assign body w R :=
  ⟨trivial, fun c cs _ => h.2 c cs (fun d hd => by cases hd)⟩
def ev (s : Fm) (x : Operand) : Value :=
  match x with
  | .tmp t => s t
  | .const v => v
  | .global g => .pointer (some ⟨g, 0, none⟩)
  | .func f => .func (.func f) #[] #[]
theorem ev_tmp (s : Fm) (t : Nat) : ev s (.tmp t) = s t := rfl
theorem ev_func (s : Fm) (f : Nat) : ev s (.func f) = .func (.func f) #[] #[] := rfl
theorem Fr.ev {a : Act} {n : Nat} {s : Fm} (h : Fr D a n s) : a.eval = ev s := by
  funext x
  cases x
  · exact h.at_ _
  all_goals rfl

theorem Fr.put {a : Act} {n : Nat} {s : Fm} (h : Fr D a n s) {d : Option Nat} (hd : dok n d) (v : Value) : Fr D (a.put d v) n (updO s d v) := by
  cases d with
  | none => exact h
  | some d =>
    have hd' : d < n := hd
    refine ⟨h.defers, by simp [Act.put, h.size], fun j => ?_⟩
    have hj := h.at_ j
    simp only [Act.put, updO, upd, Array.getD_eq_getD_getElem?] at *
    by_cases e : j = d
    · subst e
      simp [h.size, hd']
    · simp only [e, if_false]
      rw [Array.getElem?_setIfInBounds_ne (fun e' => e e'.symm)]
      exact hj

theorem Fr.congr {a : Act} {n : Nat} {s s' : Fm} (h : Fr D a n s) (e : ∀ j, s j = s' j) : Fr D a n s' := ⟨h.defers, h.size, fun j => (h.at_ j).trans (e j)⟩

/-- A mark whose type names a thing: simp leaves the thing alone (what stands behind an operation is looked at only when it has been come to). -/
structure Tag {α : Type} (a : α) : Type where

/-! ### Calls -/
def callable (P : Program) (f : FuncId) : Bool := match P.funcs[f]? with | some fn => fn.body.isSome && fn.name != "runtime.NumGoroutine" | none => false

/-- The call returns, and then K holds of what it returns and leaves. -/
structure CallB (P : Program) (f : FuncId) (args : Array Value) (w : World) (K : Value → World → Prop) : Prop where
  callable : callable P f = true
  calls : Calls P f args w fun e w' => ∃ v, e = .returned v ∧ K v w'
structure CallK (P : Program) (f : FuncId) (args : Array Value) (w : World) (K : Value → World → Prop) (_t : Tag K := ⟨⟩) : Prop where
  out : CallB P f args w K ∨ ∃ v w', (callFunc f args).run P w = .ok (.value v) w' ∧ K v w'
theorem CallB.mono {P : Program} {f : FuncId} {args : Array Value} {w : World} {K K' : Value → World → Prop} (h : CallB P f args w K) (hk : ∀ v w', K v w' → K' v w') : CallB P f args w K' :=
  ⟨h.callable, h.calls.mono fun e w' ⟨v, he, hv⟩ => ⟨v, he, hk v w' hv⟩⟩
theorem CallK.mono {P : Program} {f : FuncId} {args : Array Value} {w : World} {K K' : Value → World → Prop} (h : CallK P f args w K) (hk : ∀ v w', K v w' → K' v w') : CallK P f args w K' :=
  ⟨h.out.imp (fun h => h.mono hk) fun ⟨v, w', hr, hK⟩ => ⟨v, w', hr, hk _ _ hK⟩⟩
theorem run_callFunc_of {P : Program} {f : FuncId} (h : callable P f = true) (args : Array Value) (w : World) : (callFunc f args).run P w = .ok (.enter f args) w := by
  unfold callable at h
  unfold callFunc
  cases hf : P.funcs[f]? with
  | none => simp [hf] at h
  | some fn =>
    simp only [hf, Bool.and_eq_true] at h
    obtain ⟨h1, h2⟩ := h
    have h3 : ¬ fn.name = "runtime.NumGoroutine" := by simpa using h2
    have h4 : ¬ fn.body = none := by cases hb : fn.body <;> simp_all
    simp [hf, h3, h4]

theorem CallK.body {P : Program} {f : FuncId} {args : Array Value} {w : World} {K : Value → World → Prop} (h : CallK P f args w K) (hb : callable P f = true) : CallB P f args w K := by
  rcases h.out with h | ⟨v, w', hr, _⟩
  · exact h
  · rw [run_callFunc_of hb] at hr; cases hr

/-! ### Values -/
def aggL (x : Value) (l : List Value) : Prop := x = .agg l.toArray
def zeroOf (P : Program) (T : TypeId) : Option Value := (P.info? T).bind (·.zero)
def isAggD : TypeDesc → Bool | .struct _ | .array _ _ => true | _ => false
def oneCellV : Value → Bool | .agg _ | .tuple _ => false | _ => true
def ibits (op : BinOp) (k : IntKind) (x y : Int) : Int :=
  let a := BitVec.ofInt k.bits x
  let b := BitVec.ofInt k.bits y
  match op with
  | .and => k.wrap (a &&& b).toNat
  | .or => k.wrap (a ||| b).toNat
  | .xor => k.wrap (a ^^^ b).toNat
  | .andNot => k.wrap (a &&& ~~~b).toNat
  | _ => 0
def splice (l : List Value) (o : Nat) (vs : List Value) : List Value := l.take o ++ vs ++ l.drop (o + vs.length)


/-! ### What a value is -/
def intV (x : Value) (K : IntKind → Int → Prop) (_t : Tag K := ⟨⟩) : Prop := ∃ k n, x = .int k n ∧ K k n
def boolV (x : Value) (K : Bool → Prop) (_t : Tag K := ⟨⟩) : Prop := ∃ t, x = .bool t ∧ K t
def ptrV (x : Value) (K : Nat → Nat → Prop) (_t : Tag K := ⟨⟩) : Prop := ∃ b o, x = .pointer (some ⟨b, o, none⟩) ∧ K b o
def slcV (x : Value) (K : Option Addr → Nat → Nat → Prop) (_t : Tag K := ⟨⟩) : Prop := ∃ a n c, x = .slice a n c ∧ K a n c
def adrV (a : Option Addr) (K : Nat → Nat → Prop) (_t : Tag K := ⟨⟩) : Prop := ∃ b o, a = some ⟨b, o, none⟩ ∧ K b o
def aggV (x : Value) (K : List Value → Prop) (_t : Tag K := ⟨⟩) : Prop := ∃ l : List Value, x = .agg l.toArray ∧ K l
def tupV (x : Value) (K : List Value → Prop) (_t : Tag K := ⟨⟩) : Prop := ∃ l : List Value, x = .tuple l.toArray ∧ K l
theorem intV_lit (k : IntKind) (n : Int) (K : IntKind → Int → Prop) : intV (.int k n) K = K k n := propext ⟨by rintro ⟨_, _, h, hK⟩; cases h; exact hK, fun h => ⟨_, _, rfl, h⟩⟩
theorem boolV_lit (t : Bool) (K : Bool → Prop) : boolV (.bool t) K = K t := propext ⟨by rintro ⟨_, h, hK⟩; cases h; exact hK, fun h => ⟨_, rfl, h⟩⟩
theorem ptrV_lit (b o : Nat) (K : Nat → Nat → Prop) : ptrV (.pointer (some ⟨b, o, none⟩)) K = K b o := propext ⟨by rintro ⟨_, _, h, hK⟩; cases h; exact hK, fun h => ⟨_, _, rfl, h⟩⟩
theorem slcV_lit (a : Option Addr) (n c : Nat) (K : Option Addr → Nat → Nat → Prop) : slcV (.slice a n c) K = K a n c := propext ⟨by rintro ⟨_, _, _, h, hK⟩; cases h; exact hK, fun h => ⟨_, _, _, rfl, h⟩⟩
theorem adrV_lit (b o : Nat) (K : Nat → Nat → Prop) : adrV (some ⟨b, o, none⟩) K = K b o := propext ⟨by rintro ⟨_, _, h, hK⟩; cases h; exact hK, fun h => ⟨_, _, rfl, h⟩⟩
theorem aggV_lit (l : List Value) (K : List Value → Prop) : aggV (.agg l.toArray) K = K l := propext ⟨by rintro ⟨l', h, hK⟩; cases h; exact hK, fun h => ⟨_, rfl, h⟩⟩
theorem tupV_lit (l : List Value) (K : List Value → Prop) : tupV (.tuple l.toArray) K = K l := propext ⟨by rintro ⟨l', h, hK⟩; cases h; exact hK, fun h => ⟨_, rfl, h⟩⟩

/-! ### Operations that read no memory -/
def vcInt (op : BinOp) (x y : Value) (K : Value → Prop) (_t : Tag K := ⟨⟩) : Prop :=
  match op with
  | .add => ∃ k m n, x = .int k m ∧ y = .int k n ∧ K (.int k (k.wrap (m + n)))
  | .sub => ∃ k m n, x = .int k m ∧ y = .int k n ∧ K (.int k (k.wrap (m - n)))
  | .mul => ∃ k m n, x = .int k m ∧ y = .int k n ∧ K (.int k (k.wrap (m * n)))
  | .quo => ∃ k m n, x = .int k m ∧ y = .int k n ∧ n ≠ 0 ∧ K (.int k (k.wrap (m.tdiv n)))
  | .rem => ∃ k m n, x = .int k m ∧ y = .int k n ∧ n ≠ 0 ∧ K (.int k (m.tmod n))
  | .and => ∃ k m n, x = .int k m ∧ y = .int k n ∧ K (.int k (ibits .and k m n))
  | .or => ∃ k m n, x = .int k m ∧ y = .int k n ∧ K (.int k (ibits .or k m n))
  | .xor => ∃ k m n, x = .int k m ∧ y = .int k n ∧ K (.int k (ibits .xor k m n))
  | .andNot => ∃ k m n, x = .int k m ∧ y = .int k n ∧ K (.int k (ibits .andNot k m n))
  | .shl => ∃ k m j n, x = .int k m ∧ y = .int j n ∧ 0 ≤ n ∧ K (.int k (k.wrap (m * 2 ^ (min n.toNat k.bits))))
  | .shr => ∃ k m j n, x = .int k m ∧ y = .int j n ∧ 0 ≤ n ∧ K (.int k (m.fdiv (2 ^ (min n.toNat k.bits))))
  | .eql => ∃ k m n, x = .int k m ∧ y = .int k n ∧ K (.bool (decide (m = n)))
  | .neq => ∃ k m n, x = .int k m ∧ y = .int k n ∧ K (.bool (decide (m ≠ n)))
  | .lss => ∃ k m n, x = .int k m ∧ y = .int k n ∧ K (.bool (decide (m < n)))
  | .leq => ∃ k m n, x = .int k m ∧ y = .int k n ∧ K (.bool (decide (m ≤ n)))
  | .gtr => ∃ k m n, x = .int k m ∧ y = .int k n ∧ K (.bool (decide (n < m)))
  | .geq => ∃ k m n, x = .int k m ∧ y = .int k n ∧ K (.bool (decide (n ≤ m)))

/-- '==' on types that aren't whole numbers. -/
def vcEq (P : Program) (d : TypeDesc) (x y : Value) (K : Bool → Prop) (_t : Tag K := ⟨⟩) : Prop :=
  match d with
  | .bool => ∃ a b, x = .bool a ∧ y = .bool b ∧ K (decide (a = b))
  | .string => ∃ a b, x = .string a ∧ y = .string b ∧ K (decide (a.toList = b.toList))
  | .pointer _ => ∃ a b, x = .pointer a ∧ y = .pointer b ∧ (a = none ∨ b = none) ∧ K (decide (a = b))
  | .slice _ => ∃ a n c b m e, x = .slice a n c ∧ y = .slice b m e ∧ (a = none ∨ b = none) ∧ K (decide (a = none ∧ b = none))
  | .array n e => ∃ k, P.underlying e = some (.int k) ∧ P.cellsOf e = 1 ∧ ∃ xs ys : List Int, x = .agg (xs.map (Value.int k)).toArray ∧ y = .agg (ys.map (Value.int k)).toArray ∧ xs.length = n ∧ ys.length = n ∧ K (decide (xs = ys))
  | _ => False

def vcEqOp (P : Program) (d : TypeDesc) (op : BinOp) (x y : Value) (K : Value → Prop) (_t : Tag K := ⟨⟩) : Prop :=
  match op with
  | .eql => vcEq P d x y (fun t => K (.bool t))
  | .neq => vcEq P d x y (fun t => K (.bool (!t)))
  | _ => False

def vcStr (P : Program) (op : BinOp) (x y : Value) (K : Value → Prop) (_t : Tag K := ⟨⟩) : Prop :=
  match op with
  | .add => ∃ a b, x = .string a ∧ y = .string b ∧ a.size + b.size ≤ 9223372036854775807 ∧ K (.string (a ++ b))
  | .eql => vcEq P .string x y (fun t => K (.bool t))
  | .neq => vcEq P .string x y (fun t => K (.bool (!t)))
  | .geq => ∃ a b, x = .string a ∧ y = .string b ∧ K (.bool (!Op.bytesLess a.toList b.toList))
  | _ => False

/-- '==' of an interface value and nil; c: one of the two operands is the literal nil. -/
def vcIfc (c : Bool) (op : BinOp) (x y : Value) (K : Value → Prop) (_t : Tag K := ⟨⟩) : Prop :=
  match op with
  | .eql => y = .nilIface ∧ ((∃ t v, x = .iface t v ∧ K (.bool false)) ∨ (c = true ∧ x = .nilIface ∧ K (.bool true)))
  | .neq => y = .nilIface ∧ ((∃ t v, x = .iface t v ∧ K (.bool true)) ∨ (c = true ∧ x = .nilIface ∧ K (.bool false)))
  | _ => False
def cNil (y : Operand) : Bool := match y with | .const .nilIface => true | _ => false
def vcBinD (P : Program) (d : TypeDesc) (c : Bool) (op : BinOp) (x y : Value) (K : Value → Prop) (_t : Tag K := ⟨⟩) : Prop :=
  match d with
  | .int _ => vcInt op x y K
  | .string => vcStr P op x y K
  | .interface _ => vcIfc c op x y K
  | d => vcEqOp P d op x y K
def vcBin (P : Program) (c : Bool) (op : BinOp) (T : TypeId) (x y : Value) (K : Value → Prop) (_t : Tag K := ⟨⟩) : Prop :=
  match P.underlying T with
  | some d => vcBinD P d c op x y K
  | none => False

def vcUn (op : UnOp) (x : Value) (K : Value → Prop) (_t : Tag K := ⟨⟩) : Prop :=
  match op with
  | .not => boolV x fun b => K (.bool (!b))
  | .neg => intV x fun k n => K (.int k (k.wrap (0 - n)))
  | .xor => intV x fun k n => K (.int k (ibits .xor k (if k.signed then -1 else k.max) n))
  | _ => False

def vcConv (P : Program) (src dst : TypeId) (x : Value) (K : Value → Prop) (_t : Tag K := ⟨⟩) : Prop :=
  match P.underlying src with
  | some _ =>
    (match P.underlying dst with
    | some (.int k) => intV x fun _ n => K (.int k (k.wrap n))
    | _ => False)
  | none => False

/-- A bound of a slice expression. -/
def vcBound (s : Fm) (x : Option Operand) (dflt : Int) (K : Int → Prop) (_t : Tag K := ⟨⟩) : Prop :=
  match x with
  | some x => intV (ev s x) fun _ n => K n
  | none => K dflt

/-- A composite literal by value. -/
def bldV (P : Program) (T : TypeId) (vals : List (Nat × Value)) (K : Value → Prop) (_t : Tag K := ⟨⟩) : Prop := ∃ res, P.built T vals = some res ∧ K (.agg res)
theorem bldC {P : Program} {T : TypeId} {vals : List (Nat × Value)} {K : Value → Prop} (l : List Value) (h : P.built T vals = some l.toArray) (hK : K (.agg l.toArray)) : bldV P T vals K := ⟨_, h, hK⟩

def vcPure (P : Program) (op : Op) (s : Fm) (K : Value → Prop) (_t : Tag K := ⟨⟩) : Prop :=
  match op with
  | .move x => K (ev s x)
  | .assign x => K (ev s x)
  | .pick c x y => boolV (ev s c) fun t => K (if t = true then ev s x else ev s y)
  | .binOp op T x y _ => vcBin P (cNil y) op T (ev s x) (ev s y) K
  | .unOp op _ x => vcUn op (ev s x) K
  | .convert src dst x => vcConv P src dst (ev s x) K
  | .nilCheck x => ptrV (ev s x) fun b o => K (ev s x)
  | .fieldAddr S x f =>
    (match P.underlying S with
    | some (.struct fs) => ∃ fd, fs[f]? = some fd ∧ 0 < P.cellsOf fd.type ∧ ptrV (ev s x) fun b o => K (.pointer (some ⟨b, o + fd.offset, none⟩))
    | _ => False)
  | .field S x f =>
    (match P.underlying S with
    | some (.struct fs) => ∃ fd, fs[f]? = some fd ∧ aggV (ev s x) fun l =>
        (match (P.underlying fd.type).map isAggD with
        | some true => K (.agg ((l.drop fd.offset).take (P.cellsOf fd.type)).toArray)
        | some false => ∃ v, l[fd.offset]? = some v ∧ K v
        | none => False)
    | _ => False)
  | .indexAddr T x i =>
    (match P.underlying T with
    | some (.array n e) => 0 < P.cellsOf e ∧ ptrV (ev s x) fun b o => intV (ev s i) fun k j => 0 ≤ j ∧ j < n ∧ K (.pointer (some ⟨b, o + j.toNat * P.cellsOf e, none⟩))
    | some (.slice e) => 0 < P.cellsOf e ∧ slcV (ev s x) fun a n c => intV (ev s i) fun k j => adrV a fun b o => 0 ≤ j ∧ j < n ∧ K (.pointer (some ⟨b, o + j.toNat * P.cellsOf e, none⟩))
    | _ => False)
  | .index T x i =>
    (match P.underlying T with
    | some (.array n e) => aggV (ev s x) fun l => intV (ev s i) fun k j => 0 ≤ j ∧ j < n ∧
        (match (P.underlying e).map isAggD with
        | some true => K (.agg ((l.drop (j.toNat * P.cellsOf e)).take (P.cellsOf e)).toArray)
        | some false => ∃ v, l[j.toNat * P.cellsOf e]? = some v ∧ K v
        | none => False)
    | some .string => ∃ a, ev s x = .string a ∧ intV (ev s i) fun k j => 0 ≤ j ∧ ∃ b, a[j.toNat]? = some b ∧ K (.int .u8 b.toNat)
    | _ => False)
  | .slice T x lo hi mx =>
    (match mx with
    | some m =>
      (match P.underlying T with
      | some (.slice e) => 0 < P.cellsOf e ∧ slcV (ev s x) fun a n c => vcBound s lo 0 fun l =>
          (match hi with
          | some h => intV (ev s h) fun _ h => intV (ev s m) fun _ mm => 0 ≤ l ∧ l ≤ h ∧ h ≤ mm ∧ mm ≤ c ∧
            ∀ a', (a = none → a' = none) → (∀ b o, a = some ⟨b, o, none⟩ → ∃ o', a' = some ⟨b, o', none⟩ ∧ (l < mm → o' = o + l.toNat * P.cellsOf e)) → K (.slice a' (h - l).toNat (mm - l).toNat)
          | none => False)
      | _ => False)
    | none =>
      match P.underlying T with
      | some (.array n e) => 0 < P.cellsOf e ∧ ptrV (ev s x) fun b o => vcBound s lo 0 fun l => vcBound s hi n fun h => 0 ≤ l ∧ l ≤ h ∧ h ≤ n ∧
          ∀ o', (l < n → o' = o + l.toNat * P.cellsOf e) → K (.slice (some ⟨b, o', none⟩) (h - l).toNat (n - l).toNat)
      | some (.slice e) => 0 < P.cellsOf e ∧ slcV (ev s x) fun a n c => vcBound s lo 0 fun l => vcBound s hi n fun h => 0 ≤ l ∧ l ≤ h ∧ h ≤ c ∧
          ∀ a', (a = none → a' = none) → (∀ b o, a = some ⟨b, o, none⟩ → ∃ o', a' = some ⟨b, o', none⟩ ∧ (l < c → o' = o + l.toNat * P.cellsOf e)) → K (.slice a' (h - l).toNat (c - l).toNat)
      | _ => False)
  | .extract x i => tupV (ev s x) fun l => ∃ v, l[i]? = some v ∧ K v
  | .makeInterface T x =>
    (match P.underlying T with
    | some (.interface _) => False
    | some _ => K (.iface T (ev s x))
    | none => False)
  | .makeFunc fn first captured => K (.func fn (first.map (ev s)) (captured.map (ev s)))
  | .build T parts => bldV P T (parts.toList.map fun p => (p.1, ev s p.2)) K
  | .typeAssert x T U ok =>
    (match P.underlying U with
    | some (.interface _) => False
    | some _ =>
      (ev s x = .nilIface ∧ ok = true ∧ ∃ z, zeroOf P U = some z ∧ K (.tuple #[z, .bool false])) ∨
      (∃ t v, ev s x = .iface t v ∧ t = U ∧ K (if ok = true then .tuple #[v, .bool true] else v)) ∨
      (∃ t v, ev s x = .iface t v ∧ t ≠ U ∧ ok = true ∧ ∃ z, zeroOf P U = some z ∧ K (.tuple #[z, .bool false]))
    | none => False)
  | _ => False

def Runs (P : Program) (o : Oper) (s : Fm) (K : Value → Prop) : Prop := ∃ v, (∀ w, (execOp (ev s) o).run P w = .ok (.value v) w) ∧ K v

theorem runs_of {P : Program} {o : Oper} {s : Fm} {K : Value → Prop} {v : Value} (h : ∀ w, (execOp (ev s) o).run P w = .ok (.value v) w) (k : K v) : Runs P o s K := ⟨v, h, k⟩

theorem cells_of {P : Program} {T : TypeId} {i : TypeInfo} (h : P.info? T = some i) : P.cellsOf T = i.size := by simp [Program.cellsOf, h]
theorem run_sizeOf_of {P : Program} {T : TypeId} {w : World} (h : (P.underlying T).isSome = true) : (sizeOf T).run P w = .ok (P.cellsOf T) w := by
  unfold Program.underlying at h
  cases hi : P.info? T with
  | none => simp [hi] at h
  | some i => simp [sizeOf, typeInfo, hi, cells_of hi]

theorem run_isAgg_of {P : Program} {T : TypeId} {w : World} {t : Bool} (h : (P.underlying T).map isAggD = some t) : (isAgg T).run P w = .ok t w := by
  cases hu : P.underlying T with
  | none => simp [hu] at h
  | some d =>
    unfold isAgg
    rw [Sem.run_bind, run_underlying hu w]
    cases d <;> simp_all [isAggD]

theorem beq_dec {α : Type} [DecidableEq α] [BEq α] [LawfulBEq α] (m n : α) : (m == n) = decide (m = n) := by by_cases h : m = n <;> simp [h]

theorem run_binOp_int {P : Program} {op : BinOp} {T : TypeId} {x y : Operand} {s : Fm} {K : Value → Prop} {dst : Option Tmp} {ty : TypeId} {pos : String} {af : Array Edge} {g : Option (Nat × Bool)} {yt : TypeId}
    (h : vcInt op (ev s x) (ev s y) K) : Runs P ⟨dst, .binOp op T x y yt, ty, pos, af, g⟩ s K := by
  cases op <;> simp only [vcInt] at h
  case add => obtain ⟨k, m, n, hx, hy, hK⟩ := h; exact runs_of (fun w => by simp [execOp, hx, hy, go_sem, Op.intArith]) hK
  case sub => obtain ⟨k, m, n, hx, hy, hK⟩ := h; exact runs_of (fun w => by simp [execOp, hx, hy, go_sem, Op.intArith]) hK
  case mul => obtain ⟨k, m, n, hx, hy, hK⟩ := h; exact runs_of (fun w => by simp [execOp, hx, hy, go_sem, Op.intArith]) hK
  case quo => obtain ⟨k, m, n, hx, hy, hn, hK⟩ := h; exact runs_of (fun w => by simp [execOp, hx, hy, hn, binOp_quo, eqGuard_quo, Op.intDiv]) hK
  case rem => obtain ⟨k, m, n, hx, hy, hn, hK⟩ := h; exact runs_of (fun w => by simp [execOp, hx, hy, hn, binOp_rem, eqGuard_rem, Op.intDiv]) hK
  case and => obtain ⟨k, m, n, hx, hy, hK⟩ := h; exact runs_of (fun w => by simp only [execOp, hx, hy, binOp_and, eqGuard_and]; rfl) hK
  case or => obtain ⟨k, m, n, hx, hy, hK⟩ := h; exact runs_of (fun w => by simp only [execOp, hx, hy, binOp_or, eqGuard_or]; rfl) hK
  case xor => obtain ⟨k, m, n, hx, hy, hK⟩ := h; exact runs_of (fun w => by simp only [execOp, hx, hy, binOp_xor, eqGuard_xor]; rfl) hK
  case andNot => obtain ⟨k, m, n, hx, hy, hK⟩ := h; exact runs_of (fun w => by simp only [execOp, hx, hy, binOp_andNot, eqGuard_andNot]; rfl) hK
  case shl => obtain ⟨k, m, j, n, hx, hy, hn, hK⟩ := h; exact runs_of (fun w => by simp [execOp, hx, hy, binOp_shl, eqGuard_shl, Op.shift, Int.not_lt.2 hn]) hK
  case shr => obtain ⟨k, m, j, n, hx, hy, hn, hK⟩ := h; exact runs_of (fun w => by simp [execOp, hx, hy, binOp_shr, eqGuard_shr, Op.shift, Int.not_lt.2 hn]) hK
  case eql => obtain ⟨k, m, n, hx, hy, hK⟩ := h; exact runs_of (fun w => by simp [execOp, hx, hy, binOp_eql, eqGuard_at_int, beq_dec]) hK
  case neq => obtain ⟨k, m, n, hx, hy, hK⟩ := h; exact runs_of (fun w => by simp [execOp, hx, hy, binOp_neq, eqGuard_at_int, bne, beq_dec]) hK
  case lss => obtain ⟨k, m, n, hx, hy, hK⟩ := h; exact runs_of (fun w => by simp [execOp, hx, hy, binOp_lss, eqGuard_at_int]) hK
  case leq => obtain ⟨k, m, n, hx, hy, hK⟩ := h; exact runs_of (fun w => by simp [execOp, hx, hy, binOp_leq, eqGuard_at_int]) hK
  case gtr => obtain ⟨k, m, n, hx, hy, hK⟩ := h; exact runs_of (fun w => by simp [execOp, hx, hy, binOp_gtr, eqGuard_at_int]) hK
  case geq => obtain ⟨k, m, n, hx, hy, hK⟩ := h; exact runs_of (fun w => by simp [execOp, hx, hy, binOp_geq, eqGuard_at_int]) hK

/-! ### Equality of other types -/
theorem run_eqItems_ints {P : Program} {e : TypeId} {k : IntKind} (d : Nat) (he : P.underlying e = some (.int k)) (h1 : P.cellsOf e = 1) (xs ys : List Int) (w : World) :
    ∀ is : List Nat, (∀ i ∈ is, i < xs.length ∧ i < ys.length) →
    (Op.eqItems (d + 1) e 1 (xs.map (Value.int k)).toArray (ys.map (Value.int k)).toArray is).run P w = .ok (decide (∀ i ∈ is, xs[i]? = ys[i]?)) w
  | [], _ => by simp [Op.eqItems]
  | i :: is, h => by
    obtain ⟨hx, hy⟩ := h i (by simp)
    have ih := run_eqItems_ints d he h1 xs ys w is (fun j hj => h j (by simp [hj]))
    have hp : P.plainKey e = true := by simp [Program.plainKey, he]
    have p1 := run_part_plain (P := P) (w := w) hp (xs := (xs.map (Value.int k)).toArray) (off := i) (v := .int k xs[i]) (by simp [hx])
    have p2 := run_part_plain (P := P) (w := w) hp (xs := (ys.map (Value.int k)).toArray) (off := i) (v := .int k ys[i]) (by simp [hy])
    simp only [Op.eqItems, Nat.mul_one, Sem.run_bind, p1, p2, Result.andThen_ok, run_equalIn_int w d e k k _ _ he]
    by_cases hxy : xs[i] = ys[i]
    · have : (xs[i] == ys[i]) = true := by simp [hxy]
      rw [this]
      simp only [if_true, ih, List.mem_cons, forall_eq_or_imp]
      simp [hx, hy, hxy, ih]
    · have : (xs[i] == ys[i]) = false := by simp [hxy]
      rw [this]
      simp [hx, hy, hxy]

theorem all_lt_iff {α : Type} (xs ys : List α) (n : Nat) (hx : xs.length = n) (hy : ys.length = n) : (∀ i ∈ List.range n, xs[i]? = ys[i]?) ↔ xs = ys := by
  constructor
  · intro h
    apply List.ext_getElem?
    intro i
    by_cases hi : i < n
    · exact h i (by simpa using hi)
    · rw [List.getElem?_eq_none (by omega), List.getElem?_eq_none (by omega)]
  · intro h i _; rw [h]

theorem info_of_und {P : Program} {T : TypeId} {d : TypeDesc} (h : P.underlying T = some d) : ∃ i, P.info? T = some i := by
  unfold Program.underlying at h
  cases hi : P.info? T with
  | none => simp [hi] at h
  | some i => exact ⟨i, rfl⟩

theorem run_equalIn_ptr {P : Program} {T e : TypeId} (d : Nat) (hu : P.underlying T = some (.pointer e)) (a b : Option Addr) (hn : a = none ∨ b = none) (w : World) :
    (Op.equalIn (d + 1) T (.pointer a) (.pointer b)).run P w = .ok (decide (a = b)) w := by
  simp only [Op.equalIn, Sem.run_bind, run_underlying hu, Result.andThen_ok]
  cases a <;> cases b <;> simp_all
theorem run_equalIn_sl {P : Program} {T e : TypeId} (d : Nat) (hu : P.underlying T = some (.slice e)) (a b : Option Addr) (n c m f : Nat) (hn : a = none ∨ b = none) (w : World) :
    (Op.equalIn (d + 1) T (.slice a n c) (.slice b m f)).run P w = .ok (decide (a = none ∧ b = none)) w := by
  simp only [Op.equalIn, Sem.run_bind, run_underlying hu, Result.andThen_ok]
  cases a <;> cases b <;> simp_all

theorem run_equalIn_ifn {P : Program} {T : TypeId} {m : Array (String × TypeId)} (d : Nat) (hu : P.underlying T = some (.interface m)) (t : TypeId) (v : Value) (w : World) : (Op.equalIn (d + 1) T (.iface t v) .nilIface).run P w = .ok false w := by
  simp only [Op.equalIn, Sem.run_bind, run_underlying hu, Result.andThen_ok]
  rfl
theorem run_equalIn_nn {P : Program} {T : TypeId} {m : Array (String × TypeId)} (d : Nat) (hu : P.underlying T = some (.interface m)) (w : World) : (Op.equalIn (d + 1) T .nilIface .nilIface).run P w = .ok true w := by
  simp only [Op.equalIn, Sem.run_bind, run_underlying hu, Result.andThen_ok]
  rfl
theorem run_eq_of {P : Program} {T : TypeId} {d : TypeDesc} {x y : Value} {K : Bool → Prop} (hu : P.underlying T = some d) (h : vcEq P d x y K) :
    ∃ t, (∀ w, (Op.equal T x y).run P w = .ok t w) ∧ K t := by
  unfold Op.equal
  show ∃ t, (∀ w, (Op.equalIn (9999 + 1) T x y).run P w = .ok t w) ∧ K t
  cases d <;> simp only [vcEq] at h
  case bool =>
    obtain ⟨a, b, rfl, rfl, hK⟩ := h
    exact ⟨_, fun w => by rw [run_equalIn_bool w 9999 T a b hu]; cases a <;> cases b <;> rfl, hK⟩
  case string =>
    obtain ⟨a, b, rfl, rfl, hK⟩ := h
    exact ⟨_, fun w => by rw [run_equalIn_string w 9999 T a b hu, beq_dec], hK⟩
  case pointer e =>
    obtain ⟨a, b, rfl, rfl, hn, hK⟩ := h
    exact ⟨_, fun w => run_equalIn_ptr 9999 hu a b hn w, hK⟩
  case slice e =>
    obtain ⟨a, n, c, b, m, f, rfl, rfl, hn, hK⟩ := h
    exact ⟨_, fun w => run_equalIn_sl 9999 hu a b n c m f hn w, hK⟩
  case array n e =>
    obtain ⟨k, he, h1, xs, ys, rfl, rfl, hx, hy, hK⟩ := h
    obtain ⟨i, hi⟩ := info_of_und he
    refine ⟨_, fun w => ?_, hK⟩
    rw [run_equalIn_array w 9999 _ _ hu hi, h1, run_eqItems_ints 9998 he h1 xs ys w (List.range n) (fun i hi => by simp at hi; omega)]
    simp only [all_lt_iff xs ys n hx hy]

theorem eqGuard_agg_of {P : Program} {op : BinOp} {T : TypeId} {x y : Operand} {a b : Array Value} (h : P.eqGuardType P.depth T = false) (w : World) :
    (eqGuard op T x y (.agg a) (.agg b)).run P w = .ok () w := by
  cases op <;> simp [eqGuard, h]

theorem eqGuardType_arr {P : Program} {T e : TypeId} {n : Nat} {k : IntKind} (h : P.underlying T = some (.array n e)) (he : P.underlying e = some (.int k)) : P.eqGuardType P.depth T = false := by
  have : P.depth = (2 * (P.types.size + Made.depth)) + 1 + 1 := by simp [Program.depth]
  rw [this]
  simp [Program.eqGuardType, h, he]

theorem run_binOp_eq {P : Program} {op : BinOp} {T : TypeId} {d : TypeDesc} {x y : Operand} {s : Fm} {K : Value → Prop} {dst : Option Tmp} {ty : TypeId} {pos : String} {af : Array Edge} {g : Option (Nat × Bool)} {yt : TypeId}
    (hu : P.underlying T = some d) (hs : d ≠ .string) (hop : (op = .eql ∧ vcEq P d (ev s x) (ev s y) (fun t => K (.bool t))) ∨ (op = .neq ∧ vcEq P d (ev s x) (ev s y) (fun t => K (.bool (!t))))) :
    Runs P ⟨dst, .binOp op T x y yt, ty, pos, af, g⟩ s K := by
  have core : ∀ K' : Bool → Prop, vcEq P d (ev s x) (ev s y) K' → ∃ t, (∀ w, (eqGuard op T x y (ev s x) (ev s y)).run P w = .ok () w) ∧ (∀ w, (Op.equal T (ev s x) (ev s y)).run P w = .ok t w) ∧ K' t ∧
      (binOp .eql T (ev s x) (ev s y) = (do pure (.bool (← Op.equal T (ev s x) (ev s y))))) ∧ (binOp .neq T (ev s x) (ev s y) = (do pure (.bool (!(← Op.equal T (ev s x) (ev s y)))))) := by
    intro K' h
    obtain ⟨t, h1, h2⟩ := run_eq_of hu h
    refine ⟨t, ?_, h1, h2, ?_⟩
    · intro w
      cases d <;> simp only [vcEq] at h
      case bool => obtain ⟨a, b, hx, hy, _⟩ := h; rw [hx]; simp [eqGuard_at_bool]
      case string => obtain ⟨a, b, hx, hy, _⟩ := h; rw [hx]; simp [eqGuard_at_string]
      case pointer e => obtain ⟨a, b, hx, hy, _⟩ := h; rw [hx]; simp [eqGuard_at_pointer]
      case slice e => obtain ⟨a, n, c, b, m, f, hx, hy, _⟩ := h; rw [hx]; simp [eqGuard_at_slice]
      case array n e => obtain ⟨k, he, _, xs, ys, hx, hy, _⟩ := h; rw [hx, hy]; exact eqGuard_agg_of (eqGuardType_arr hu he) w
    · cases d <;> simp only [vcEq] at h
      case bool => obtain ⟨a, b, hx, hy, _⟩ := h; rw [hx, hy]; exact ⟨rfl, rfl⟩
      case string => exact absurd rfl hs
      case pointer e => obtain ⟨a, b, hx, hy, _⟩ := h; rw [hx, hy]; exact ⟨rfl, rfl⟩
      case slice e => obtain ⟨a, n, c, b, m, f, hx, hy, _⟩ := h; rw [hx, hy]; exact ⟨rfl, rfl⟩
      case array n e => obtain ⟨k, he, _, xs, ys, hx, hy, _⟩ := h; rw [hx, hy]; exact ⟨rfl, rfl⟩
  rcases hop with ⟨rfl, h⟩ | ⟨rfl, h⟩
  · obtain ⟨t, h1, h2, h3, h4, _⟩ := core _ h
    exact runs_of (fun w => by simp [execOp, h1, h2, h4]) h3
  · obtain ⟨t, h1, h2, h3, _, h4⟩ := core _ h
    exact runs_of (fun w => by simp [execOp, h1, h2, h4]) h3

theorem run_binOp_of {P : Program} {op : BinOp} {T : TypeId} {x y : Operand} {s : Fm} {K : Value → Prop} {dst : Option Tmp} {ty : TypeId} {pos : String} {af : Array Edge} {g : Option (Nat × Bool)} {yt : TypeId}
    (h : vcBin P (cNil y) op T (ev s x) (ev s y) K) : Runs P ⟨dst, .binOp op T x y yt, ty, pos, af, g⟩ s K := by
  unfold vcBin at h
  cases hu : P.underlying T with
  | none => simp only [hu] at h
  | some d =>
    simp only [hu] at h
    have other : ∀ hs : d ≠ .string, vcEqOp P d op (ev s x) (ev s y) K → Runs P ⟨dst, .binOp op T x y yt, ty, pos, af, g⟩ s K := by
      intro hs h
      cases op <;> simp only [vcEqOp] at h
      · exact run_binOp_eq hu hs (Or.inl ⟨rfl, h⟩)
      · exact run_binOp_eq hu hs (Or.inr ⟨rfl, h⟩)
    cases d
    case int k => exact run_binOp_int h
    case interface m =>
      have eqNil : ∀ t v w, (Op.equal T (.iface t v) .nilIface).run P w = .ok false w := run_equalIn_ifn 9999 hu
      have nilNil : ∀ w, (Op.equal T .nilIface .nilIface).run P w = .ok true w := run_equalIn_nn 9999 hu
      have guard : ∀ op w, cNil y = true → (eqGuard op T x y .nilIface .nilIface).run P w = .ok () w := fun op w hc => by
        unfold cNil at hc
        split at hc
        · cases op <;> simp [eqGuard]
        · cases hc
      simp only [vcBinD] at h
      cases op <;> simp only [vcIfc] at h
      case eql =>
        obtain ⟨hy, h⟩ := h
        rcases h with ⟨t, v, hx, hK⟩ | ⟨hc, hx, hK⟩
        · exact runs_of (fun w => by simp [execOp, hx, hy, eqGuard_at_iface, binOp, eqNil]) hK
        · exact runs_of (fun w => by simp [execOp, hx, hy, guard _ _ hc, binOp, nilNil]) hK
      case neq =>
        obtain ⟨hy, h⟩ := h
        rcases h with ⟨t, v, hx, hK⟩ | ⟨hc, hx, hK⟩
        · exact runs_of (fun w => by simp [execOp, hx, hy, eqGuard_at_iface, binOp, eqNil]) hK
        · exact runs_of (fun w => by simp [execOp, hx, hy, guard _ _ hc, binOp, nilNil]) hK
    case string =>
      simp only [vcBinD] at h
      cases op <;> simp only [vcEq, vcStr] at h
      case add =>
        obtain ⟨a, b, hx, hy, hl, hK⟩ := h
        refine runs_of (fun w => ?_) hK
        simp [execOp, hx, hy, eqGuard_at_string, binOp, Op.stringOp]
        omega
      case geq =>
        obtain ⟨a, b, hx, hy, hK⟩ := h
        exact runs_of (fun w => by simp [execOp, hx, hy, eqGuard_at_string, binOp, Op.stringOp]) hK
      case eql =>
        obtain ⟨a, b, hx, hy, hK⟩ := h
        exact runs_of (fun w => by simp [execOp, hx, hy, eqGuard_at_string, binOp, Op.stringOp, beq_dec]) hK
      case neq =>
        obtain ⟨a, b, hx, hy, hK⟩ := h
        exact runs_of (fun w => by simp [execOp, hx, hy, eqGuard_at_string, binOp, Op.stringOp, beq_dec]) hK
    all_goals exact other (by simp) h

/-! ### The operations that read no memory are sound -/
theorem addr_add (b o n : Nat) : (⟨b, o, none⟩ : Addr).add n = ⟨b, o + n, none⟩ := Addr.add_lit b o n

theorem info_of_cells {P : Program} {T : TypeId} (h : 0 < P.cellsOf T) : ∃ i, P.info? T = some i := by
  cases hi : P.info? T with
  | none => simp [Program.cellsOf, hi] at h
  | some i => exact ⟨i, rfl⟩
theorem run_sizeOf_pos {P : Program} {T : TypeId} {w : World} (h : 0 < P.cellsOf T) : (sizeOf T).run P w = .ok (P.cellsOf T) w := by
  obtain ⟨i, hi⟩ := info_of_cells h
  simp [sizeOf, typeInfo, hi, cells_of hi]

theorem run_part_of {P : Program} {e : TypeId} {l : List Value} {o : Nat} {K : Value → Prop} 
    (h : match (P.underlying e).map isAggD with | some true => K (.agg ((l.drop o).take (P.cellsOf e)).toArray) | some false => ∃ v, l[o]? = some v ∧ K v | none => False) :
    ∃ v, (∀ w, (part e l.toArray o).run P w = .ok v w) ∧ K v := by
  cases ht : (P.underlying e).map isAggD with
  | none => simp [ht] at h
  | some t =>
    have hs : (P.underlying e).isSome = true := by cases hu : P.underlying e <;> simp_all
    cases t
    · simp only [ht] at h
      obtain ⟨v, hv, hK⟩ := h
      exact ⟨v, fun w => by simp [part, run_isAgg_of ht, hv], hK⟩
    · simp only [ht] at h
      refine ⟨_, fun w => ?_, h⟩
      simp only [part, Sem.run_bind, run_isAgg_of ht, run_sizeOf_of hs, Result.andThen_ok, if_true, Sem.run_pure]
      congr 2
      simp [List.extract_toArray, List.take_drop]

theorem run_bound_of {s : Fm} {x : Option Operand} {d : Int} {K : Int → Prop} (h : vcBound s x d K) : ∃ n, K n ∧ (x = none → n = d) ∧ ∀ y, x = some y → ∃ k, ev s y = .int k n := by
  cases x with
  | none => exact ⟨d, h, fun _ => rfl, fun y e => by cases e⟩
  | some y =>
    obtain ⟨k, n, he, hK⟩ := h
    exact ⟨n, hK, ⟨(fun e => by cases e), (fun z e => by cases e; exact ⟨k, he⟩)⟩⟩

theorem run_bounds_of {P : Program} {s : Fm} {lo hi : Option Operand} {b : Bool} {len cap : Nat} {l h : Int} (h0 : 0 ≤ l) (h1 : l ≤ h) (h2 : h ≤ cap)
    (hl : (lo = none → l = 0) ∧ ∀ y, lo = some y → ∃ k, ev s y = .int k l) (hh : (hi = none → h = len) ∧ ∀ y, hi = some y → ∃ k, ev s y = .int k h) (w : World) :
    (Instr.sliceBounds b len cap (lo.map (ev s)) (hi.map (ev s)) none).run P w = .ok (l.toNat, h.toNat, cap) w := by
  have e1 : ∀ c, h ≤ (cap : Int) → ∀ y, hi = some y → (Instr.sliceBound (ev s y) cap c).run P w = .ok h.toNat w := fun c hc y hy => by
    obtain ⟨k, e⟩ := hh.2 y hy
    rw [e]; exact run_sliceBound (P := P) (w := w) k h cap c (by omega) hc
  have e2 : ∀ c, ∀ y, lo = some y → (Instr.sliceBound (ev s y) h.toNat c).run P w = .ok l.toNat w := fun c y hy => by
    obtain ⟨k, e⟩ := hl.2 y hy
    rw [e]; exact run_sliceBound (P := P) (w := w) k l h.toNat c h0 (by omega)
  cases hi with
  | none =>
    have e := hh.1 rfl
    cases lo with
    | none => have e' := hl.1 rfl; subst e'; subst e; simp [Instr.sliceBounds]
    | some y => subst e; simp only [Int.toNat_natCast] at e2; simp [Instr.sliceBounds, e2 _ y rfl]
  | some z =>
    cases lo with
    | none => have e' := hl.1 rfl; subst e'; simp [Instr.sliceBounds, e1 _ h2 z rfl]
    | some y => simp [Instr.sliceBounds, e1 _ h2 z rfl, e2 _ y rfl]

theorem vcPure_runs {P : Program} {o : Oper} {s : Fm} {K : Value → Prop} (h : vcPure P o.op s K) : Runs P o s K := by
  obtain ⟨dst, op, ty, pos, af, g⟩ := o
  cases op <;> simp only [vcPure] at h
  case move x => exact runs_of (fun w => by simp [execOp]) h
  case assign x => exact runs_of (fun w => by simp [execOp]) h
  case pick c x y =>
    obtain ⟨t, hc, hK⟩ := h
    exact runs_of (fun w => by simp [execOp, hc, asBool]) hK
  case binOp op T x y yt => exact run_binOp_of h
  case unOp op T x =>
    cases op <;> simp only [vcUn] at h
    all_goals first | exact h.elim | skip
    case not => obtain ⟨b, hx, hK⟩ := h; exact runs_of (fun w => by simp [execOp, hx, Op.unary]) hK
    case neg => obtain ⟨k, n, hx, hK⟩ := h; exact runs_of (fun w => by simp [execOp, hx, Op.unary, Op.intArith]) hK
    case xor => obtain ⟨k, n, hx, hK⟩ := h; exact runs_of (fun w => by simp only [execOp, hx, Op.unary]; rfl) hK
  case convert src dst' x =>
    unfold vcConv at h
    cases hs : P.underlying src with
    | none => simp [hs] at h
    | some d =>
      simp only [hs] at h
      cases hd : P.underlying dst' with
      | none => simp [hd] at h
      | some d' =>
        simp only [hd] at h
        cases d' <;> simp only at h
        case int k =>
          obtain ⟨j, n, hx, hK⟩ := h
          exact runs_of (fun w => by simp [execOp, hx, convert, run_underlying hs, run_underlying hd, Conv.intToInt]) hK
  case nilCheck x =>
    obtain ⟨b, o, hx, hK⟩ := h
    exact runs_of (fun w => by simp [execOp, hx]) hK
  case fieldAddr S x f =>
    cases hu : P.underlying S with
    | none => simp [hu] at h
    | some d =>
      simp only [hu] at h
      cases d <;> simp only at h
      case struct fs =>
        obtain ⟨fd, hf, hc, b, o, hx, hK⟩ := h
        have hi : ∃ i, P.info? fd.type = some i := by
          cases hi : P.info? fd.type with
          | none => simp [Program.cellsOf, hi] at hc
          | some i => exact ⟨i, rfl⟩
        obtain ⟨i, hi⟩ := hi
        have hz : i.size ≠ 0 := by rw [← cells_of hi]; omega
        refine runs_of (fun w => ?_) hK
        simp [execOp, hx, Instr.fieldAt, run_underlying hu, hf, Instr.sureAddr, fieldPlace, sizeOf, typeInfo, hi, hz, addr_add]
  case field S x f =>
    cases hu : P.underlying S with
    | none => simp [hu] at h
    | some d =>
      simp only [hu] at h
      cases d <;> simp only at h
      case struct fs =>
        obtain ⟨fd, hf, l, hx, hK⟩ := h
        obtain ⟨v, hv, hK⟩ := run_part_of hK
        exact runs_of (fun w => by simp [execOp, hx, Instr.field, run_underlying hu, hf, asAgg, hv]) hK
  case indexAddr T x i =>
    cases hu : P.underlying T with
    | none => simp [hu] at h
    | some d =>
      simp only [hu] at h
      cases d <;> simp only at h
      case array n e =>
        obtain ⟨hc, b, o, hx, k, j, hi, h0, h1, hK⟩ := h
        refine runs_of (fun w => ?_) hK
        simp [execOp, hx, hi, Instr.indexAt, run_underlying hu, Instr.sureAddr, asIntOf, h0, h1, run_sizeOf_pos hc, addr_add]
      case slice e =>
        obtain ⟨hc, a, n, c, hx, k, j, hi, b, o, rfl, h0, h1, hK⟩ := h
        refine runs_of (fun w => ?_) hK
        simp [execOp, hx, hi, Instr.indexAt, run_underlying hu, asIntOf, h0, h1, run_sizeOf_pos hc, addr_add]
  case index T x i =>
    cases hu : P.underlying T with
    | none => simp [hu] at h
    | some d =>
      simp only [hu] at h
      cases d <;> simp only at h
      case array n e =>
        obtain ⟨l, hx, k, j, hi, h0, h1, hK⟩ := h
        have hs : (P.underlying e).isSome = true := by cases hu : P.underlying e <;> simp_all
        obtain ⟨v, hv, hK⟩ := run_part_of hK
        exact runs_of (fun w => by simp [execOp, hx, hi, Instr.index, asIntOf, run_underlying hu, h0, h1, run_sizeOf_of hs, hv]) hK
      case string =>
        obtain ⟨a, hx, k, j, hi, h0, b, hb, hK⟩ := h
        exact runs_of (fun w => by simp [execOp, hx, hi, Instr.index, asIntOf, run_underlying hu, h0, hb]) hK
  case slice T x lo hi mx =>
    cases mx with
    | some m =>
      simp only at h
      cases hu : P.underlying T with
      | none => simp [hu] at h
      | some d =>
        simp only [hu] at h
        cases d <;> simp only at h
        case slice e =>
          obtain ⟨hc, a, n, c, hx, h⟩ := h
          obtain ⟨l, h, hl⟩ := run_bound_of h
          cases hi with
          | none => exact h.elim
          | some hi =>
            obtain ⟨k1, u, hh, k2, mm, hm, h0, h1, h2, h3, hK⟩ := h
            have e3 : (u - l).toNat = u.toNat - l.toNat := by omega
            have e4 : (mm - l).toNat = mm.toNat - l.toNat := by omega
            have em : mm = ((mm.toNat : Nat) : Int) := by omega
            have eu : u = ((u.toNat : Nat) : Int) := by omega
            have hb : ∀ w, (Instr.sliceBounds true n c (lo.map (ev s)) (some (ev s hi)) (some (ev s m))).run P w = .ok (l.toNat, u.toNat, mm.toNat) w := by
              intro w
              have r1 : ∀ cd, (Instr.sliceBound (ev s m) c cd).run P w = .ok mm.toNat w := fun cd => by rw [hm]; exact run_sliceBound (P := P) (w := w) k2 mm c cd (by omega) (by omega)
              have r2 : ∀ cd, (Instr.sliceBound (ev s hi) mm.toNat cd).run P w = .ok u.toNat w := fun cd => by rw [hh]; exact run_sliceBound (P := P) (w := w) k1 u mm.toNat cd (by omega) (by omega)
              cases lo with
              | none => have e' := hl.1 rfl; subst e'; simp [Instr.sliceBounds, r1, r2]
              | some y =>
                obtain ⟨k, e⟩ := hl.2 y rfl
                have r3 : ∀ cd, (Instr.sliceBound (ev s y) u.toNat cd).run P w = .ok l.toNat w := fun cd => by rw [e]; exact run_sliceBound (P := P) (w := w) k l u.toNat cd h0 (by omega)
                simp [Instr.sliceBounds, r1, r2, r3]
            refine runs_of (fun w => ?_) (hK (if mm.toNat = l.toNat then a else a.map (·.add (l.toNat * P.cellsOf e))) (fun ha => by simp [ha]) (fun b o hb => ?_))
            · simp [execOp, hx, Instr.sliceAt, Instr.slice, run_underlying hu, hb, run_sizeOf_pos hc, e3, e4]
            · subst hb
              by_cases e1 : mm.toNat = l.toNat
              · exact ⟨o, by simp [e1], fun hlt => by omega⟩
              · exact ⟨o + l.toNat * P.cellsOf e, by simp [e1, addr_add], fun _ => rfl⟩
    | none =>
      simp only at h
      cases hu : P.underlying T with
      | none => simp [hu] at h
      | some d =>
        simp only [hu] at h
        cases d <;> simp only at h
        case array n e =>
          obtain ⟨hc, b, o, hx, h⟩ := h
          obtain ⟨l, h, hl⟩ := run_bound_of h
          obtain ⟨u, ⟨h0, h1, h2, hK⟩, hh⟩ := run_bound_of h
          by_cases e1 : l < n
          · refine runs_of (fun w => ?_) (hK (o + l.toNat * P.cellsOf e) (fun _ => rfl))
            have e2 : ¬ n = l.toNat := by omega
            have e3 : (u - l).toNat = u.toNat - l.toNat := by omega
            have e4 : ((n : Int) - l).toNat = n - l.toNat := by omega
            simp [execOp, hx, Instr.sliceAt, run_underlying hu, Instr.sureAddr, run_bounds_of h0 h1 h2 hl hh, run_sizeOf_pos hc, addr_add, e2, e3, e4]
          · refine runs_of (fun w => ?_) (hK o (fun h => absurd h e1))
            have e2 : n = l.toNat := by omega
            have e3 : (u - l).toNat = u.toNat - l.toNat := by omega
            have e4 : ((n : Int) - l).toNat = n - l.toNat := by omega
            simp [execOp, hx, Instr.sliceAt, run_underlying hu, Instr.sureAddr, run_bounds_of h0 h1 h2 hl hh, run_sizeOf_pos hc, addr_add, e3, e4]
            simp [← e2]
        case slice e =>
          obtain ⟨hc, a, n, c, hx, h⟩ := h
          obtain ⟨l, h, hl⟩ := run_bound_of h
          obtain ⟨u, ⟨h0, h1, h2, hK⟩, hh⟩ := run_bound_of h
          have e3 : (u - l).toNat = u.toNat - l.toNat := by omega
          have e4 : ((c : Int) - l).toNat = c - l.toNat := by omega
          refine runs_of (fun w => ?_) (hK (if c = l.toNat then a else a.map (·.add (l.toNat * P.cellsOf e))) (fun ha => by simp [ha]) (fun b o hb => ?_))
          · simp [execOp, hx, Instr.sliceAt, Instr.slice, run_underlying hu, run_bounds_of h0 h1 h2 hl hh, run_sizeOf_pos hc, e3, e4]
          · subst hb
            by_cases e1 : c = l.toNat
            · exact ⟨o, by simp [e1], fun hlt => by omega⟩
            · exact ⟨o + l.toNat * P.cellsOf e, by simp [e1, addr_add], fun _ => rfl⟩
  case extract x i =>
    obtain ⟨l, hx, v, hl, hK⟩ := h
    exact runs_of (fun w => by simp [execOp, hx, Instr.extract, hl]) hK
  case makeInterface T x =>
    cases hu : P.underlying T with
    | none => simp [hu] at h
    | some d =>
      simp only [hu] at h
      cases d <;> simp only at h
      all_goals first | exact h.elim | exact runs_of (fun w => by simp [execOp, Instr.makeInterface, run_underlying hu]) h
  case makeFunc fn first captured => exact runs_of (fun w => by simp [execOp, Instr.makeFunc]) h
  case build T parts =>
    obtain ⟨res, hb, hK⟩ := h
    have hmap : (parts.map fun x => (x.1, ev s x.2)).toList = parts.toList.map fun p => (p.1, ev s p.2) := by simp
    exact runs_of (fun w => by simp only [execOp, Sem.run_bind, run_build w T _ res (hmap.trans rfl ▸ hb), Result.andThen_ok]; simp) hK
  case typeAssert x T U ok =>
    cases hu : P.underlying U with
    | none => simp [hu] at h
    | some d =>
      simp only [hu] at h
      have key : ((ev s x = .nilIface ∧ ok = true ∧ ∃ z, zeroOf P U = some z ∧ K (.tuple #[z, .bool false])) ∨
          (∃ t v, ev s x = .iface t v ∧ t = U ∧ K (if ok = true then .tuple #[v, .bool true] else v)) ∨
          (∃ t v, ev s x = .iface t v ∧ t ≠ U ∧ ok = true ∧ ∃ z, zeroOf P U = some z ∧ K (.tuple #[z, .bool false]))) ∧ ∀ m, d ≠ .interface m := by
        cases d <;> simp only at h
        all_goals first | exact ⟨h, by simp⟩ | exact h.elim
      obtain ⟨key, hd⟩ := key
      have hz : ∀ z, zeroOf P U = some z → ∀ w, (zeroValue U).run P w = .ok z w := by
        intro z hz w
        obtain ⟨i, hi, hz⟩ := Option.bind_eq_some_iff.1 hz
        simp [zeroValue, typeInfo, hi, hz]
      rcases key with ⟨hx, rfl, z, hz', hK⟩ | ⟨t, v, hx, rfl, hK⟩ | ⟨t, v, hx, hn, rfl, z, hz', hK⟩
      · refine runs_of (fun w => ?_) hK
        cases d
        case interface m => exact absurd rfl (hd m)
        all_goals simp [execOp, hx, Instr.typeAssert, run_underlying hu, hz z hz']
      · refine runs_of (fun w => ?_) hK
        cases d
        case interface m => exact absurd rfl (hd m)
        all_goals simp [execOp, hx, Instr.typeAssert, run_underlying hu]
      · refine runs_of (fun w => ?_) hK
        cases d
        case interface m => exact absurd rfl (hd m)
        all_goals simp [execOp, hx, Instr.typeAssert, run_underlying hu, hn, hz z hz']

/-! ### Operations that read or write memory -/
def vcLoad (P : Program) (T : TypeId) (w : World) (b o : Nat) (K : Value → Prop) (_t : Tag K := ⟨⟩) : Prop :=
  match (P.underlying T).map isAggD with
  | some true => ∃ l : List Value, l.length = P.cellsOf T ∧ (∀ j v, l[j]? = some v → w.cell? ⟨b, o + j, none⟩ = some v) ∧ K (.agg l.toArray)
  | some false => ∃ v, w.cell? ⟨b, o, none⟩ = some v ∧ K v
  | none => False

def vcStore (P : Program) (T : TypeId) (w : World) (b o : Nat) (x : Value) (K : World → Prop) (_t : Tag K := ⟨⟩) : Prop :=
  ∃ (U : TypeId) (l vs : List Value), Blk w b U l ∧ x.cells = vs.toArray ∧ 0 < P.cellsOf T ∧ vs.length = P.cellsOf T ∧ (∀ v ∈ vs, oneCellV v = true) ∧ o + vs.length ≤ l.length ∧
    ∀ w', Put w w' b U (splice l o vs) → K w'

/-- Parts for the places i, i + 1 .. up to n, each of so many cells. -/
def partsOk (s : Fm) (sz : Nat) : Nat → Nat → List (Nat × Operand) → Prop
  | i, n, [] => i = n
  | i, n, (j, x) :: r => j = i ∧ (ev s x).cells.size = sz ∧ partsOk s sz (i + 1) n r
theorem partsOk_spec {s : Fm} {sz : Nat} : ∀ (l : List (Nat × Operand)) (i n : Nat), partsOk s sz i n l → l.map (·.1) = List.range' i l.length ∧ i + l.length = n ∧ ∀ x ∈ l, (ev s x.2).cells.size = sz
  | [], i, n, h => ⟨rfl, h, by simp⟩
  | (j, x) :: r, i, n, h => by
    obtain ⟨rfl, h1, h2⟩ := h
    obtain ⟨a, b, c⟩ := partsOk_spec r _ _ h2
    refine ⟨by simp [List.range'_succ, a], by simp; omega, ?_⟩
    intro y hy
    rcases List.mem_cons.1 hy with rfl | hy
    · exact h1
    · exact c y hy
/-- The cells of parts that lie one behind the other. -/
def partsOf (s : Fm) : List (Nat × Operand) → List Value
  | [] => []
  | (_, x) :: r => (ev s x).cells.toList ++ partsOf s r

/-- How a slice came out of an append: in place, or in a block of its own while all blocks stayed. -/
def AppHow (w w' : World) (x v' : Value) (n m : Nat) : Prop := (∃ g cap, x = .slice (some ⟨g, 0, none⟩) n cap ∧ v' = .slice (some ⟨g, 0, none⟩) (n + m) cap) ∨ w.grownBy w' none ∧ (v'.ownBlock = none ∨ v'.ownBlock = some w.heap.size)
theorem run_append_how {P : Program} (w : World) (base : Nat) (t ty e : TypeId) (i : TypeInfo) (z : Value) (hu : P.underlying t = some (.slice e)) (hi : P.info? e = some i) (hiz : i.zero = some z) (hzs : z.cells.size = i.size) (hc : 0 < i.size)
    (x : Value) (k : Nat) (xs : List Value) (hown : w.ownsRow base e i.size x k xs) (a : Addr) (m f : Nat) (news : List Value) (hl : news.length = m * i.size) (hnews : ∀ j u, news[j]? = some u → w.cell? (a.add j) = some u) (h1 : ∀ u ∈ news, u.oneCell' = true)
    (h63 : k + m ≤ maxLen) (hby : (k + m) * i.bytes ≤ 140737488355328) (hbase : base ≤ w.heap.size) :
    ∃ v' w', (Builtin.append_ #[t, t] ty #[x, .slice (some a) m f]).run P w = .ok v' w' ∧ w'.ownsRow base e i.size v' (k + m) (xs ++ news) ∧ w.grownBy w' x.ownBlock ∧ AppHow w w' x v' k m := by
  obtain ⟨v', w', hr, r1, r2, _, r3⟩ := run_append_own_at (P := P) w base t ty e i z i.size i.bytes hu hi hiz rfl rfl hzs hc x k xs hown a m f news hl hnews h1 h63 hby hbase
  rcases hown.2 with ⟨rfl, _⟩ | ⟨g, cap, cur, rfl, _, hg, hnc, _⟩
  · exact ⟨v', w', hr, r1, r2, Or.inr ⟨r2, r3⟩⟩
  · by_cases hroom : k + m ≤ cap
    · obtain ⟨w2, hr2, q1, q2⟩ := run_append_own_spare (P := P) w base t ty e i i.size hu hi rfl g k cap xs hown a m f news hl hnews h1 hroom
      exact ⟨_, w2, hr2, q1, q2, Or.inl ⟨g, cap, rfl, rfl⟩⟩
    · have hr2 := run_append_grow (P := P) w t ty e i z hu hi hiz ⟨g, 0, none⟩ k cap xs hown.1 (hown.cells (g := g) rfl) a m f news hl hnews (by omega) (by rw [maxLen] at h63; omega) (growslice_fits (by omega) hby)
      rw [hr] at hr2
      injection hr2 with e1 e2
      refine ⟨v', w', hr, r1, r2, Or.inr ⟨?_, Or.inr (by rw [e1]; rfl)⟩⟩
      exact ⟨r2.os, r2.tape, r2.output, r2.size, fun q hq _ => by rw [e2]; exact heap_alloc_old w.drew _ hq⟩
/-- Appending to a slice that has no room, whoever's it is. -/
theorem run_append_new {P : Program} (w : World) (t ty e : TypeId) (i : TypeInfo) (z : Value) (hu : P.underlying t = some (.slice e)) (hi : P.info? e = some i) (hiz : i.zero = some z) (hzs : z.cells.size = i.size)
    (q : Addr) (k c : Nat) (olds : List Value) (hlo : olds.length = k * i.size) (holds : ∀ j u, olds[j]? = some u → w.cell? (q.add j) = some u) (a : Addr) (m f : Nat) (news : List Value) (hl : news.length = m * i.size) (hnews : ∀ j u, news[j]? = some u → w.cell? (a.add j) = some u)
    (hg : c < k + m) (h63 : k + m ≤ maxLen) (hby : (k + m) * i.bytes ≤ 140737488355328) :
    ∃ w', (Builtin.append_ #[t, t] ty #[.slice (some q) k c, .slice (some a) m f]).run P w = .ok (.slice (some ⟨w.heap.size, 0, none⟩) (k + m) (grownCap w (k + m) c e)) w' ∧
      w'.ownsRow w.heap.size e i.size (.slice (some ⟨w.heap.size, 0, none⟩) (k + m) (grownCap w (k + m) c e)) (k + m) (olds ++ news) ∧ Below w.heap.size w w' := by
  have hr := run_append_grow (P := P) w t ty e i z hu hi hiz q k c olds hlo holds a m f news hl hnews hg (by rw [maxLen] at h63; omega) (growslice_fits (by omega) hby)
  have h1 := grownCap_ge w (k + m) c e
  have h2 : (olds ++ news).length = (k + m) * i.size := by rw [List.length_append, hlo, hl, Nat.add_mul]
  have h3 : (grownCap w (k + m) c e - (k + m)) * i.size + (k + m) * i.size = grownCap w (k + m) c e * i.size := by rw [← Nat.add_mul, Nat.sub_add_cancel h1]
  refine ⟨_, hr, ⟨h2, .inr ⟨w.heap.size, _, _, rfl, Nat.le_refl _, heap_alloc_new w.drew _, h1, grownCap_le_maxLen w (k + m) c e h63, ?_, ?_⟩⟩, rfl, rfl, rfl, by simp, fun j hj => heap_alloc_old w.drew _ hj⟩
  · have h4 := size_zeroCells z.cells (grownCap w (k + m) c e - (k + m))
    rw [List.length_append] at h2
    simp only [Array.size_append, List.size_toArray, h4, hzs]
    omega
  · rw [← h2]
    simp only [Array.toList_append]
    exact List.take_left
def vcAppend (P : Program) (t : TypeId) (x y : Value) (w : World) (K : Value → World → Prop) (_t : Tag K := ⟨⟩) : Prop :=
  match P.underlying t with
  | some (.slice e) => ∃ z, zeroOf P e = some z ∧ z.cells.size = P.cellsOf e ∧ 0 < P.cellsOf e ∧ ((∃ base n xs, w.ownsRow base e (P.cellsOf e) x n xs ∧ base ≤ w.heap.size ∧
      (((∃ a c, y = .slice a 0 c) ∧ K x w) ∨
       (∃ b o m f news, y = .slice (some ⟨b, o, none⟩) m f ∧ news.length = m * P.cellsOf e ∧ (∀ j u, news[j]? = some u → w.cell? ⟨b, o + j, none⟩ = some u) ∧ (∀ u ∈ news, u.oneCell' = true) ∧
         n + m ≤ 9223372036854775807 ∧ (n + m) * P.bytesOf e ≤ 140737488355328 ∧
         ∀ v' w', w'.ownsRow base e (P.cellsOf e) v' (n + m) (xs ++ news) → w.grownBy w' x.ownBlock → (v'.ownBlock = x.ownBlock ∨ v'.ownBlock = some w.heap.size) → K v' w') ∨
       (∃ g cap b o m f news, x = .slice (some ⟨g, 0, none⟩) n cap ∧ y = .slice (some ⟨b, o, none⟩) m f ∧ news.length = m * P.cellsOf e ∧ (∀ j u, news[j]? = some u → w.cell? ⟨b, o + j, none⟩ = some u) ∧ (∀ u ∈ news, u.oneCell' = true) ∧ n + m ≤ cap ∧
         (∀ w', w'.ownsRow base e (P.cellsOf e) (.slice (some ⟨g, 0, none⟩) (n + m) cap) (n + m) (xs ++ news) → w.grownBy w' (some g) → K (.slice (some ⟨g, 0, none⟩) (n + m) cap) w')) ∨
       ∃ b o m f news, y = .slice (some ⟨b, o, none⟩) m f ∧ news.length = m * P.cellsOf e ∧ (∀ j u, news[j]? = some u → w.cell? ⟨b, o + j, none⟩ = some u) ∧ (∀ u ∈ news, u.oneCell' = true) ∧
         n + m ≤ 9223372036854775807 ∧ (n + m) * P.bytesOf e ≤ 140737488355328 ∧
         ∀ v' w', w'.ownsRow base e (P.cellsOf e) v' (n + m) (xs ++ news) → w.grownBy w' x.ownBlock → AppHow w w' x v' n m → K v' w')) ∨
      ∃ q n c b o m f olds news, x = .slice (some q) n c ∧ y = .slice (some ⟨b, o, none⟩) m f ∧ olds.length = n * P.cellsOf e ∧ (∀ j u, olds[j]? = some u → w.cell? (q.add j) = some u) ∧ news.length = m * P.cellsOf e ∧ (∀ j u, news[j]? = some u → w.cell? ⟨b, o + j, none⟩ = some u) ∧
        c < n + m ∧ n + m ≤ 9223372036854775807 ∧ (n + m) * P.bytesOf e ≤ 140737488355328 ∧
        ∀ v' w', w'.ownsRow w.heap.size e (P.cellsOf e) v' (n + m) (olds ++ news) → Below w.heap.size w w' → K v' w')
  | _ => False

def vcLen (P : Program) (t : TypeId) (x : Value) (w : World) (K : Value → World → Prop) (_t : Tag K := ⟨⟩) : Prop :=
  match P.underlying t with
  | some (.slice _) => slcV x fun _ n _ => K (.int .i64 n) w
  | some .string => ∃ a, x = .string a ∧ K (.int .i64 a.size) w
  | some (.array n _) => K (.int .i64 n) w
  | _ => False

/-- copy: what it runs to. -/
structure RawCopy (P : Program) (ts : List TypeId) (args : List Value) (w : World) (K : Value → World → Prop) (_t : Tag K := ⟨⟩) : Prop where
  out : ∃ v w', (Builtin.copy_ ts.toArray 0 args.toArray).run P w = .ok v w' ∧ K v w'
/-- clear: what it runs to. -/
structure RawClear (P : Program) (ts : List TypeId) (args : List Value) (w : World) (K : Value → World → Prop) (_t : Tag K := ⟨⟩) : Prop where
  out : ∃ v w', (Builtin.clear_ ts.toArray 0 args.toArray).run P w = .ok v w' ∧ K v w'
/-- append of another make: what it runs to. -/
structure RawApp (P : Program) (ts : List TypeId) (args : List Value) (w : World) (K : Value → World → Prop) (_t : Tag K := ⟨⟩) : Prop where
  out : ∃ v w', (Builtin.append_ ts.toArray 0 args.toArray).run P w = .ok v w' ∧ K v w'
def vcCap (P : Program) (t : TypeId) (x : Value) (w : World) (K : Value → World → Prop) (_t : Tag K := ⟨⟩) : Prop :=
  match P.underlying t with
  | some (.slice _) => slcV x fun _ _ c => K (.int .i64 c) w
  | _ => False
/-- A conversion between strings and bytes: what it runs to. -/
structure RawConv (P : Program) (src dst : TypeId) (x : Value) (w : World) (K : Value → World → Prop) (_t : Tag K := ⟨⟩) : Prop where
  out : ∃ v w', (convert src dst x).run P w = .ok v w' ∧ K v w'
def cvE (P : Program) (a b : Option TypeDesc) (src dst : TypeId) (x : Value) (w : World) (K : Value → World → Prop) (_t : Tag K := ⟨⟩) : Prop :=
  match a with
  | some _ => (match b with | some (.int k) => intV x fun _ n => K (.int k (k.wrap n)) w | some .string => RawConv P src dst x w K | some (.slice _) => RawConv P src dst x w K | _ => False)
  | none => False

def vcBuiltin (P : Program) (b : Builtin) (ts : List TypeId) (args : List Value) (w : World) (K : Value → World → Prop) (_t : Tag K := ⟨⟩) : Prop :=
  match b with
  | .len => (match ts, args with | [t], [x] => vcLen P t x w K | _, _ => False)
  | .append => (match ts, args with | [t, u], [x, y] => if t = u then vcAppend P t x y w K else RawApp P [t, u] [x, y] w K | _, _ => False)
  | .cap => (match ts, args with | [t], [x] => vcCap P t x w K | _, _ => False)
  | .min => (match args with | [x, y] => intV x fun k a => intV y fun _ b => K (.int k (if b < a then b else a)) w | _ => False)
  | .max => (match args with | [x, y] => intV x fun k a => intV y fun _ b => K (.int k (if b > a then b else a)) w | _ => False)
  | .copy => RawCopy P ts args w K
  | .clear => RawClear P ts args w K
  | _ => False

/-- A call of a function's value: of yield (a round of the loop's body), or of a function with what it has captured. -/
structure YieldVC (P : Program) (f : Value) (args : Array Value) (w : World) (K : Value → World → Prop) (_t : Tag K := ⟨⟩) : Prop where
  out : (∃ l, f = .func (.yield l) #[] #[] ∧ YieldAt Fence.wide 0 P l args w fun e w' => ∃ v, e = .returned v ∧ K v w') ∨
    (∃ g first caps, f = .func (.func g) first caps ∧ CallB P g (first ++ args ++ caps) w K)
/-- A call of a method through an interface value. -/
structure InvK (P : Program) (recv : Value) (name : String) (args : Array Value) (w : World) (K : Value → World → Prop) (_t : Tag K := ⟨⟩) : Prop where
  out : ∃ f vs, (callMethod recv name args).run P w = .ok (.enter f vs) w ∧ CallB P f vs w K
def vcCall (P : Program) (c : Call) (s : Fm) (w : World) (K : Value → World → Prop) (_t : Tag K := ⟨⟩) : Prop :=
  match c.callee with
  | .value (.func f) => CallK P f (c.args.map (ev s)) w K
  | .value (.tmp t) => YieldVC P (s t) (c.args.map (ev s)) w K
  | .invoke recv name => InvK P (ev s recv) name (c.args.map (ev s)) w K
  | .builtin b => vcBuiltin P b c.argTypes.toList (c.args.toList.map (ev s)) w K
  | _ => False

def vcOp (P : Program) (o : Oper) (s : Fm) (w : World) (K : Value → World → Prop) (_t : Tag K := ⟨⟩) : Prop :=
  match o.op with
  | .load T x => ptrV (ev s x) fun b o' => vcLoad P T w b o' (fun v => K v w)
  | .store T x y => ptrV (ev s x) fun b o' => vcStore P T w b o' (ev s y) (fun w' => K undef w')
  | .alloc T => ∃ z, zeroOf P T = some z ∧ ∀ w', NewB w w' T z.cells.toList → K (.pointer (some ⟨w.heap.size, 0, none⟩)) w'
  | .box T x => ∀ w', NewB w w' T (ev s x).cells.toList → K (.pointer (some ⟨w.heap.size, 0, none⟩)) w'
  | .buildSlice T n parts =>
    (match P.underlying T with
    | some (.slice e) => ∃ z, zeroOf P e = some z ∧ z.cells.size = P.cellsOf e ∧ 0 < P.cellsOf e ∧ n * P.cellsOf e ≤ 16777216 ∧ partsOk s (P.cellsOf e) 0 n parts.toList ∧
        ∀ w', NewB w w' e (partsOf s parts.toList) → K (.slice (some ⟨w.heap.size, 0, none⟩) n n) w'
    | _ => False)
  | .call c => vcCall P c s w K
  | .convert src dst x => cvE P (P.underlying src) (P.underlying dst) src dst (ev s x) w K
  | .move .. | .assign .. | .pick .. | .binOp .. | .unOp .. | .nilCheck .. | .fieldAddr .. | .field .. | .indexAddr .. | .index .. | .slice .. | .extract .. | .makeInterface .. | .makeFunc .. | .typeAssert .. | .build .. => vcPure P o.op s (fun v => K v w)
  | .defer _ => False
  | _ => ∃ v w', (execOp (ev s) o).run P w = .ok (.value v) w' ∧ K v w'

theorem loadVar_of {P : Program} {T : TypeId} {w : World} {b o : Nat} {K : Value → Prop} (h : vcLoad P T w b o K) : ∃ v, (loadVar T ⟨b, o, none⟩).run P w = .ok v w ∧ K v := by
  unfold vcLoad at h
  cases ht : (P.underlying T).map isAggD with
  | none => simp [ht] at h
  | some t =>
    have hs : (P.underlying T).isSome = true := by cases hu : P.underlying T <;> simp_all
    cases t
    · simp only [ht] at h
      obtain ⟨v, hv, hK⟩ := h
      exact ⟨v, by simp [loadVar, run_isAgg_of ht, hv], hK⟩
    · simp only [ht] at h
      obtain ⟨l, hl, hc, hK⟩ := h
      refine ⟨_, ?_, hK⟩
      have hr := run_loadCells_list (P := P) w ⟨b, o, none⟩ l (fun j v hv => by rw [addr_add]; exact hc j v hv)
      simp [loadVar, run_isAgg_of ht, run_sizeOf_of hs, ← hl, hr]

theorem storeCells_of {P : Program} {b o : Nat} {U : TypeId} : ∀ (vs : List Value) (i : Nat) (l : List Value) (w : World), Blk w b U l → (∀ v ∈ vs, oneCellV v = true) → o + i + vs.length ≤ l.length →
    ∃ w', (storeCells ⟨b, o, none⟩ vs i).run P w = .ok () w' ∧ Put w w' b U (splice l (o + i) vs)
  | [], i, l, w, hb, _, hle => by
    refine ⟨w, by simp [storeCells], rfl, rfl, rfl, rfl, ?_, fun _ _ => rfl⟩
    have : splice l (o + i) [] = l := by simp [splice]
    rw [this]; exact hb
  | v :: vs, i, l, w, hb, h1, hle => by
    have hlen : o + i < l.length := by simp at hle; omega
    have hcell : w.cell? ⟨b, o + i, none⟩ = some l[o + i] := by rw [hb.cell]; simp [hlen]
    have hfr := hb.frozen (o + i)
    have hst : (store (⟨b, o + i, none⟩ : Addr) v).run P w = .ok () (w.setCell ⟨b, o + i, none⟩ v) := by
      have hv : oneCellV v = true := h1 v (by simp)
      cases v <;> simp [oneCellV] at hv <;> simp [store, Sem.run, hcell, hfr]
    have hb' : Blk (w.setCell ⟨b, o + i, none⟩ v) b U (l.set (o + i) v) := by
      refine ⟨?_⟩
      simp only [World.setCell, Array.getElem?_modify, hb.out, if_true, Option.map_some]
      simp
    obtain ⟨w', hr, hp⟩ := storeCells_of (P := P) (o := o) vs (i + 1) (l.set (o + i) v) (w.setCell ⟨b, o + i, none⟩ v) hb' (fun u hu => h1 u (by simp [hu])) (by simp at hle ⊢; omega)
    refine ⟨w', by simp [storeCells, addr_add, hst, hr], hp.os.trans rfl, hp.tape.trans rfl, hp.output.trans rfl, hp.size.trans (by simp), ?_, fun k hk => (hp.other k hk).trans (Below.heap_setCell _ _ _ _ hk)⟩
    have e : splice (l.set (o + i) v) (o + (i + 1)) vs = splice l (o + i) (v :: vs) := by
      simp only [splice, List.length_cons]
      have e1 : (l.set (o + i) v).take (o + (i + 1)) = l.take (o + i) ++ [v] := by
        rw [show o + (i + 1) = (o + i) + 1 from rfl, List.take_succ_eq_append_getElem (by simpa using hlen)]
        rw [List.take_set_of_le (Nat.le_refl _)]
        simp
      have e2 : (l.set (o + i) v).drop (o + (i + 1) + vs.length) = l.drop (o + i + (vs.length + 1)) := by
        rw [List.drop_set_of_lt (by omega)]
        congr 1; omega
      rw [e1, e2]; simp
    rw [← e]; exact hp.blk

theorem run_zero_of {P : Program} {T : TypeId} {z : Value} (h : zeroOf P T = some z) (w : World) : (zeroValue T).run P w = .ok z w := by
  obtain ⟨i, hi, hz⟩ := Option.bind_eq_some_iff.1 h
  simp [zeroValue, typeInfo, hi, hz]

/-- Filling all places one behind the other. -/
theorem fill_all {sz : Nat} : ∀ (ps : List (Nat × Value)) (i : Nat) (done rest : List Value), ps.map (·.1) = List.range' i ps.length → (∀ p ∈ ps, p.2.cells.size = sz) → done.length = i * sz → rest.length = ps.length * sz →
    Instr.fill (fun i => some (i * sz, sz)) (done ++ rest).toArray ps = some (done ++ ps.flatMap (fun p => p.2.cells.toList)).toArray
  | [], i, done, rest, _, _, _, hr => by
    have : rest = [] := List.eq_nil_of_length_eq_zero (by simpa using hr)
    simp [Instr.fill, this]
  | (j, v) :: ps, i, done, rest, hm, hs, hd, hr => by
    simp only [List.map_cons, List.length_cons, List.range'_succ, List.cons.injEq] at hm
    obtain ⟨rfl, hm⟩ := hm
    have hv : v.cells.size = sz := hs (j, v) (by simp)
    have hrl : rest.length = ps.length * sz + sz := by rw [hr, List.length_cons, Nat.add_mul, Nat.one_mul]
    have hfold : v.cells.zipIdx.foldl (fun cs (c, k) => cs.setIfInBounds (j * sz + k) c) (done ++ rest).toArray = ((done ++ v.cells.toList) ++ rest.drop sz).toArray := by
      have gen : ∀ (cs : List Value) (k : Nat) (pre post : List Value), cs.length ≤ post.length →
          (cs.zipIdx k).foldl (fun (a : Array Value) (x : Value × Nat) => a.setIfInBounds (pre.length - k + x.2) x.1) (pre ++ post).toArray = (pre ++ cs ++ post.drop cs.length).toArray ∨ pre.length < k := by
        intro cs
        induction cs with
        | nil => intro k pre post _; left; simp
        | cons c cs ih =>
          intro k pre post hle
          cases post with
          | nil => simp at hle
          | cons q post =>
            by_cases hk : pre.length < k
            · exact Or.inr hk
            · left
              have h1 := ih (k + 1) (pre ++ [c]) post (by simpa using hle)
              rcases h1 with h1 | h1
              · have e0 : (pre ++ [c]).length - (k + 1) = pre.length - k := by simp
                rw [e0] at h1
                simp only [List.zipIdx_cons, List.foldl_cons]
                have e1 : pre.length - k + k = pre.length := by omega
                rw [e1]
                have e2 : (pre ++ q :: post).toArray.setIfInBounds pre.length c = (pre ++ [c] ++ post).toArray := by
                  simp
                rw [e2, h1]
                simp
              · simp at h1; omega
      have g := gen v.cells.toList 0 done rest (by simp [hv]; omega)
      rcases g with g | g
      · simp only [Nat.sub_zero, hd] at g
        rw [← Array.foldl_toList, Array.toList_zipIdx]
        have e : v.cells.toList.length = sz := by simpa using hv
        rw [g, e]
      · omega
    have ih := fill_all ps (j + 1) (done ++ v.cells.toList) (rest.drop sz) hm (fun p hp => hs p (by simp [hp])) (by simp [hd, hv, Nat.add_mul]) (by simp [hrl])
    simp only [Instr.fill]
    rw [if_neg (by simp [hv, hd, hrl])]
    rw [hfold, ih]
    simp

theorem maxLen_eq : maxLen = 9223372036854775807 := rfl

theorem vcCall_sound {P : Program} {dst : Option Tmp} {c : Call} {ty : TypeId} {pos : String} {af : Array Edge} {g : Option (Nat × Bool)} {s : Fm} {w : World} {K : Value → World → Prop} (h : vcCall P c s w K)
    {a : Act} {n : Nat} (hF : Fr D a n s) {ro : Option Nat} {m : Nat} {next : Act → World → Prop} {Q : Exit → Act → World → Prop} (hn : ∀ v w', K v w' → next (a.put dst v) w') : (⟨dst, .call c, ty, pos, af, g⟩ : Oper).wpIn (FW ro) m P a w next Q := by
  obtain ⟨callee, args, ts⟩ := c
  refine ⟨fun _ _ => trivial, ?_⟩
  rw [Oper.semAt_eq _ _ _ (by intro c; simp), hF.ev]
  have enter : ∀ f vs, CallB P f vs w K → (execOp (ev s) ⟨dst, .call ⟨callee, args, ts⟩, ty, pos, af, g⟩).run P w = .ok (.enter f vs) w →
      (⟨dst, .call ⟨callee, args, ts⟩, ty, pos, af, g⟩ : Oper).uponIn (FW ro) m P a next Q ((execOp (ev s) ⟨dst, .call ⟨callee, args, ts⟩, ty, pos, af, g⟩).run P w) := by
    intro f vs hc hr
    rw [hr]
    exact ⟨fun h => (by cases h), callsFW ro _ (hc.calls.mono fun e w' ⟨v, he, hv⟩ => by subst he; exact hn v w' hv)⟩
  have value : ∀ v w', (execOp (ev s) ⟨dst, .call ⟨callee, args, ts⟩, ty, pos, af, g⟩).run P w = .ok (.value v) w' → K v w' →
      (⟨dst, .call ⟨callee, args, ts⟩, ty, pos, af, g⟩ : Oper).uponIn (FW ro) m P a next Q ((execOp (ev s) ⟨dst, .call ⟨callee, args, ts⟩, ty, pos, af, g⟩).run P w) := by
    intro v w' hr hK
    rw [hr]
    exact hn v w' hK
  cases callee <;> simp only [vcCall] at h
  case value x =>
    cases x <;> simp only at h
    case func f =>
      rcases h.out with h | ⟨v, w', hr, hK⟩
      · refine enter f _ h ?_
        simp [execOp, resolve, ev_func, Deferred.ofValue, invoke, run_callFunc_of h.callable]
      · refine value v w' ?_ hK
        simp [execOp, resolve, ev_func, Deferred.ofValue, invoke, hr]
    case tmp t =>
      rcases h.out with ⟨l, hl, fn, tmps, assign, body, hy, hR⟩ | ⟨gf, first, caps, hl, hc⟩
      rotate_left
      · refine enter gf _ hc ?_
        simp [execOp, resolve, ev_tmp, hl, Deferred.ofValue, invoke, run_callFunc_of hc.callable]
      have hr : (execOp (ev s) ⟨dst, .call ⟨.value (.tmp t), args, ts⟩, ty, pos, af, g⟩).run P w = .ok (.round l fn tmps assign body) w := by
        simp [execOp, resolve, ev_tmp, hl, Deferred.ofValue, invoke, hy]
      rw [hr]
      refine ⟨fun h => (by cases h), RoundIn.mono (roundFW ro 0 _ hR) ?_⟩
      rintro e w' ⟨v, he, hv⟩
      subst he
      exact hn v w' hv
  case invoke recv name =>
    obtain ⟨gf, vs, hr, hc⟩ := h.out
    refine enter gf vs hc ?_
    have e : (args.map (ev s)).extract 0 args.size = args.map (ev s) := by
      have := Array.extract_size (xs := args.map (ev s))
      rwa [Array.size_map] at this
    have e2 : (#[ev s recv] ++ args.map (ev s))[0]? = some (ev s recv) := by rw [Array.getElem?_append_left (show 0 < 1 from by decide)]; rfl
    simp [execOp, resolve, invoke, e2, e, hr]
  case builtin b =>
    have hargs : (args.map (ev s)).toList = args.toList.map (ev s) := by simp
    generalize hA : args.map (ev s) = A at *
    rw [← hargs] at h
    obtain ⟨al⟩ := A
    obtain ⟨tl⟩ := ts
    cases b <;> simp only [vcBuiltin] at h
    case append =>
      split at h
      · rename_i t u x y
        by_cases htu : t = u
        case neg =>
          rw [if_neg htu] at h
          obtain ⟨v, w', hr, hK⟩ := h.out
          refine value v w' ?_ hK
          have e : (Builtin.append_ #[t, u] ty #[x, y]) = (Builtin.append_ [t, u].toArray 0 [x, y].toArray) := rfl
          simp [execOp, resolve, invoke, builtin, hA, e, hr]
        rw [if_pos htu] at h
        subst htu
        unfold vcAppend at h
        cases hu : P.underlying t with
        | none => simp [hu] at h
        | some d =>
          simp only [hu] at h
          cases d <;> simp only at h
          case slice e =>
            obtain ⟨z, hz, hzs, hc, h⟩ := h
            obtain ⟨i, hi, hiz⟩ := Option.bind_eq_some_iff.1 hz
            have hsz : P.cellsOf e = i.size := cells_of hi
            have hby : P.bytesOf e = i.bytes := by simp [Program.bytesOf, hi]
            rw [hsz] at hzs h hc
            rcases h with ⟨base, k, xs, hown, hbase, h⟩ | ⟨q, k, c, b, o, m, f, olds, news, rfl, rfl, hlo, holds, hl, hnews, hg, h63, hbytes, hK⟩
            case inr =>
              obtain ⟨w', hr, r1, r2⟩ := run_append_new (P := P) w t ty e i z hu hi hiz hzs q k c olds hlo holds ⟨b, o, none⟩ m f news hl (fun j u hj => by rw [addr_add]; exact hnews j u hj) hg (by rw [maxLen_eq]; exact h63) (by rw [← hby]; exact hbytes)
              refine value _ w' ?_ (hK _ w' r1 r2)
              simp [execOp, resolve, invoke, builtin, hA, hr]
            rcases h with ⟨⟨ay, cy, rfl⟩, hK⟩ | ⟨b, o, m, f, news, rfl, hl, hnews, h1, h63, hbytes, hK⟩ | ⟨g, cap, b, o, m, f, news, rfl, rfl, hl, hnews, h1, hroom, hK⟩ | ⟨b, o, m, f, news, rfl, hl, hnews, h1, h63, hbytes, hK⟩
            · refine value x w ?_ hK
              have hf : (Builtin.firstCells i.size 0 (.slice ay 0 cy)).run P w = .ok #[] w := by
                cases ay with
                | none => simp [Builtin.firstCells]
                | some a =>
                  have hl := run_loadCells_list (P := P) w a [] (fun j v hj => by simp at hj)
                  simp only [List.length_nil] at hl
                  simp [Builtin.firstCells, hl]
              have hr : (Builtin.append_ #[t, t] ty #[x, .slice ay 0 cy]).run P w = .ok x w := by
                rcases hown.2 with ⟨rfl, rfl⟩ | ⟨g, cap, cur, rfl, _, _, hnc, _⟩
                · simp [Builtin.append_, run_underlying hu, sizeOf, typeInfo, hi, Builtin.lenOf, hf]
                · simp [Builtin.append_, run_underlying hu, sizeOf, typeInfo, hi, Builtin.lenOf, hf, hnc, storeCells]
              simp [execOp, resolve, invoke, builtin, hA, hr]
            · obtain ⟨v', w', hr, r1, r2, _, r3⟩ := run_append_own_at (P := P) w base t ty e i z i.size i.bytes hu hi hiz rfl rfl hzs hc x k xs hown ⟨b, o, none⟩ m f news hl (fun j u hj => by rw [addr_add]; exact hnews j u hj) h1
                (by rw [maxLen_eq]; exact h63) (by rw [← hby]; exact hbytes) hbase
              refine value v' w' ?_ (hK v' w' r1 r2 r3)
              simp [execOp, resolve, invoke, builtin, hA, hr]
            · obtain ⟨w', hr, r1, r2⟩ := run_append_own_spare (P := P) w base t ty e i i.size hu hi rfl g k cap xs hown ⟨b, o, none⟩ m f news hl (fun j u hj => by rw [addr_add]; exact hnews j u hj) h1 hroom
              refine value _ w' ?_ (hK w' r1 r2)
              simp [execOp, resolve, invoke, builtin, hA, hr]
            · obtain ⟨v', w', hr, r1, r2, r3⟩ := run_append_how (P := P) w base t ty e i z hu hi hiz hzs hc x k xs hown ⟨b, o, none⟩ m f news hl (fun j u hj => by rw [addr_add]; exact hnews j u hj) h1
                (by rw [maxLen_eq]; exact h63) (by rw [← hby]; exact hbytes) hbase
              refine value v' w' ?_ (hK v' w' r1 r2 r3)
              simp [execOp, resolve, invoke, builtin, hA, hr]
      · exact h.elim
    case min =>
      split at h
      · rename_i x y
        obtain ⟨k, a, rfl, k', b, rfl, hK⟩ := h
        exact value _ w (by simp [execOp, resolve, invoke, builtin, hA, run_min_int2]) hK
      · exact h.elim
    case max =>
      split at h
      · rename_i x y
        obtain ⟨k, a, rfl, k', b, rfl, hK⟩ := h
        exact value _ w (by simp [execOp, resolve, invoke, builtin, hA, run_max_int2]) hK
      · exact h.elim
    case cap =>
      split at h
      · rename_i t x
        unfold vcCap at h
        cases hu : P.underlying t with
        | none => simp [hu] at h
        | some d =>
          simp only [hu] at h
          cases d <;> simp only at h
          case slice e =>
            obtain ⟨b, k, c, rfl, hK⟩ := h
            exact value _ w (by simp [execOp, resolve, invoke, builtin, hA, Builtin.cap_, run_underlying hu, goInt]) hK
      · exact h.elim
    case copy =>
      obtain ⟨v, w', hr, hK⟩ := h.out
      refine value v w' ?_ hK
      have e : (Builtin.copy_ { toList := tl } ty { toList := al }) = (Builtin.copy_ tl.toArray 0 al.toArray) := rfl
      simp [execOp, resolve, invoke, builtin, hA, e, hr]
    case clear =>
      obtain ⟨v, w', hr, hK⟩ := h.out
      refine value v w' ?_ hK
      have e : (Builtin.clear_ { toList := tl } ty { toList := al }) = (Builtin.clear_ tl.toArray 0 al.toArray) := rfl
      simp [execOp, resolve, invoke, builtin, hA, e, hr]
    case len =>
      split at h
      · rename_i t x
        unfold vcLen at h
        cases hu : P.underlying t with
        | none => simp [hu] at h
        | some d =>
          simp only [hu] at h
          cases d <;> simp only at h
          case slice e =>
            obtain ⟨b, k, c, rfl, hK⟩ := h
            exact value _ w (by simp [execOp, resolve, invoke, builtin, hA, Builtin.len_, run_underlying hu, goInt]) hK
          case string =>
            obtain ⟨b, rfl, hK⟩ := h
            exact value _ w (by simp [execOp, resolve, invoke, builtin, hA, Builtin.len_, run_underlying hu, goInt]) hK
          case array m e =>
            exact value _ w (by simp [execOp, resolve, invoke, builtin, hA, Builtin.len_, run_underlying hu, goInt]) h
      · exact h.elim

theorem vcOp_sound {P : Program} {o : Oper} {s : Fm} {w : World} {K : Value → World → Prop} (h : vcOp P o s w K) {a : Act} {n : Nat} (hF : Fr D a n s) {ro : Option Nat} {m : Nat} {next : Act → World → Prop} {Q : Exit → Act → World → Prop}
    (hn : ∀ v w', K v w' → next (a.put o.dst v) w') : o.wpIn (FW ro) m P a w next Q := by
  have hnd : ∀ c, o.op ≠ .defer c := by
    intro c hc
    unfold vcOp at h
    rw [hc] at h
    exact h.elim
  have viaValue : (∃ v w', (execOp (ev s) o).run P w = .ok (.value v) w' ∧ K v w') → o.wpIn (FW ro) m P a w next Q := by
    rintro ⟨v, w', hr, hK⟩
    refine ⟨fun _ _ => trivial, ?_⟩
    rw [Oper.semAt_eq _ _ _ hnd, hF.ev, hr]
    exact hn v w' hK
  have pure : vcPure P o.op s (fun v => K v w) → o.wpIn (FW ro) m P a w next Q := fun h => by
    obtain ⟨v, hr, hK⟩ := vcPure_runs h
    exact viaValue ⟨v, w, hr w, hK⟩
  obtain ⟨dst, op, ty, pos, af, g⟩ := o
  cases op <;> simp only [vcOp] at h
  all_goals first | exact pure h | exact viaValue h | skip
  case load T x =>
    obtain ⟨b, o', hx, h⟩ := h
    obtain ⟨v, hr, hK⟩ := loadVar_of h
    exact viaValue ⟨v, w, by simp [execOp, hx, Instr.loadAt, Instr.sureAddr, hr], hK⟩
  case store T x y =>
    obtain ⟨b, o', hx, U, l, vs, hb, hc, hz, hl, h1, hle, hK⟩ := h
    obtain ⟨w', hr, hp⟩ := storeCells_of (P := P) vs 0 l w hb h1 (by simpa using hle)
    refine ⟨fun _ _ => trivial, ?_⟩
    rw [Oper.semAt_eq _ _ _ (by intro c; simp), hF.ev]
    have : (execOp (ev s) ⟨dst, .store T x y, ty, pos, af, g⟩).run P w = .ok .skip w' := by
      simp [execOp, hx, Instr.storeAt, Instr.sureAddr, storeVar, hc, run_sizeOf_pos hz, hl, hr]
    rw [this]
    exact hn _ _ (hK w' hp)
  case alloc T =>
    obtain ⟨z, hz, hK⟩ := h
    refine viaValue ⟨_, _, ?_, hK _ (NewB.alloc w T _)⟩
    simp [execOp, Instr.alloc, run_zero_of hz, newVar, newRow]
  case box T x =>
    refine viaValue ⟨_, _, ?_, h _ (NewB.alloc w T _)⟩
    simp [execOp, Instr.box, newVar, newRow]
  case buildSlice T k parts =>
    cases hu : P.underlying T with
    | none => simp [hu] at h
    | some d =>
      simp only [hu] at h
      cases d <;> simp only at h
      case slice e =>
        obtain ⟨z, hz, hzs, hc, hle, hpo, hK⟩ := h
        obtain ⟨hi, hlen0, hs⟩ := partsOk_spec _ _ _ hpo
        refine viaValue ⟨_, _, ?_, hK _ (NewB.alloc w e _)⟩
        have hn : ¬ (k * P.cellsOf e > 16777216) := by omega
        have hlen : parts.toList.length = k := by omega
        have hf := fill_all (sz := P.cellsOf e) (parts.toList.map fun p => (p.1, ev s p.2)) 0 [] ((Array.range (k * P.cellsOf e)).map (fun j => (if k * P.cellsOf e = 0 then #[] else z.cells)[j % (if k * P.cellsOf e = 0 then #[] else z.cells).size]!)).toList
          (by simp only [List.map_map, List.length_map]; exact hi) (by intro p hp; simp only [List.mem_map] at hp; obtain ⟨q, hq, rfl⟩ := hp; exact hs q hq) (by simp) (by simp [hlen])
        have hp : (parts.toList.map fun p => (p.1, ev s p.2)).flatMap (fun p => p.2.cells.toList) = partsOf s parts.toList := by
          generalize parts.toList = ps
          induction ps with
          | nil => rfl
          | cons q ps ih => simp only [List.map_cons, List.flatMap_cons, partsOf, ih]
        simp only [List.nil_append, Array.toArray_toList, hp] at hf
        have hmap : (parts.map fun x => (x.1, ev s x.2)).toList = parts.toList.map fun p => (p.1, ev s p.2) := by simp
        simp only [execOp, Instr.buildSlice, Sem.run_bind, run_underlying hu, run_sizeOf_pos hc, Result.andThen_ok]
        rw [if_neg (by simpa using hn)]
        by_cases h0 : k * P.cellsOf e = 0
        · rw [if_pos h0]
          simp only [h0, if_true] at hf
          simp only [Sem.run_bind, Sem.run_pure, Result.andThen_ok, h0, hmap, hf]
          simp [newRow]
        · rw [if_neg h0]
          simp only [h0, if_false] at hf
          simp only [Sem.run_bind, Sem.run_pure, Result.andThen_ok, run_zero_of hz, hmap, hf]
          simp [newRow]
  case convert src tgt x =>
    cases hs : P.underlying src with
    | none => simp [hs, cvE] at h
    | some a =>
      cases hd : P.underlying tgt with
      | none => simp [hs, hd, cvE] at h
      | some b =>
        simp only [hs, hd, cvE] at h
        cases b <;> simp only at h
        case int k => exact pure (by simp only [vcPure, vcConv, hs, hd]; exact h)
        all_goals
          obtain ⟨v, w', hr, hK⟩ := h.out
          exact viaValue ⟨v, w', by simp [execOp, hr], hK⟩
  case call c => exact vcCall_sound h hF hn


end Go.Proofs.YthlkfjoibjhaiaaGreatDoor
