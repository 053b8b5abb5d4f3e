/-
  The calculus for walks, third part: equations that unfold a code's proposition step by step (for simp). Conditions: none.
-/
import Derived.Test.YthlkfjoibjhaiaaGreatDoorMWholeShown2
/-! Ve -/
namespace Go.Proofs.YthlkfjoibjhaiaaGreatDoor
set_option maxRecDepth 100000
set_option maxHeartbeats 2000000
open Go Go.RowKit
set_option linter.unusedVariables false
set_option linter.unusedSimpArgs false

/-! ### Frames -/
theorem upd_eq (s : Fm) (d : Nat) (v : Value) : upd s d v d = v := by simp [upd]
theorem upd_ne (s : Fm) (d : Nat) (v : Value) (j : Nat) (h : j ≠ d) : upd s d v j = s j := by simp [upd, h]
theorem e_tmp (s : Fm) (t : Nat) : ev s (.tmp t) = s t := (Eq.refl _).trans (Eq.refl _)
theorem e_const (s : Fm) (v : Value) : ev s (.const v) = v := (Eq.refl _).trans (Eq.refl _)
theorem e_func (s : Fm) (f : Nat) : ev s (.func f) = .func (.func f) #[] #[] := (Eq.refl _).trans (Eq.refl _)
theorem e_glob (s : Fm) (g : Nat) : ev s (.global g) = .pointer (some ⟨g, 0, none⟩) := (Eq.refl _).trans (Eq.refl _)
theorem uO_some (s : Fm) (d : Nat) (v : Value) : updO s (some d) v = upd s d v := (Eq.refl _).trans (Eq.refl _)
theorem uO_none (s : Fm) (v : Value) : updO s none v = s := (Eq.refl _).trans (Eq.refl _)
theorem init_nil (i : Nat) : initFm [] i = und := (Eq.refl _).trans (Eq.refl _)
theorem init_cons (v : Value) (vs : List Value) (i : Nat) : initFm (v :: vs) i = upd (initFm vs (i + 1)) i v := (Eq.refl _).trans (Eq.refl _)
theorem d_some (n d : Nat) : dok n (some d) = (d < n) := propext Iff.rfl
theorem d_none (n : Nat) : dok n none = True := propext Iff.rfl

/-! ### By a type's description -/
section descs
variable (P : Program) (K : Value → Prop)
def binO (d : Option TypeDesc) (c : Bool) (op : BinOp) (x y : Value) (K : Value → Prop) (_t : Tag K := ⟨⟩) : Prop := match d with | some d => vcBinD P d c op x y K | none => False
def fldAO (d : Option TypeDesc) (f : Nat) (x : Value) (K : Value → Prop) (_t : Tag K := ⟨⟩) : Prop :=
  match d with
  | some (.struct fs) => ∃ fd, fs[f]? = some fd ∧ 0 < P.cellsOf fd.type ∧ ptrV x fun b o => K (.pointer (some ⟨b, o + fd.offset, none⟩))
  | _ => False
/-- A field of which all is known. -/
def fldA (f : Option Field) (x : Value) (K : Value → Prop) (_t : Tag K := ⟨⟩) : Prop := ∃ fd, f = some fd ∧ 0 < P.cellsOf fd.type ∧ ptrV x fun b o => K (.pointer (some ⟨b, o + fd.offset, none⟩))
def partO (t : Option Bool) (l : List Value) (o n : Nat) (K : Value → Prop) (_t : Tag K := ⟨⟩) : Prop :=
  match t with
  | some true => K (.agg ((l.drop o).take n).toArray)
  | some false => ∃ v, l[o]? = some v ∧ K v
  | none => False
def fldV (f : Option Field) (x : Value) (K : Value → Prop) (_t : Tag K := ⟨⟩) : Prop := ∃ fd, f = some fd ∧ aggV x fun l => partO ((P.underlying fd.type).map isAggD) l fd.offset (P.cellsOf fd.type) K
def fldO (d : Option TypeDesc) (f : Nat) (x : Value) (K : Value → Prop) (_t : Tag K := ⟨⟩) : Prop :=
  match d with
  | some (.struct fs) => fldV P fs[f]? x K
  | _ => False
def idxAO (d : Option TypeDesc) (x i : Value) (K : Value → Prop) (_t : Tag K := ⟨⟩) : Prop :=
  match d with
  | some (.array n e) => 0 < P.cellsOf e ∧ ptrV x fun b o => intV i fun k j => 0 ≤ j ∧ j < n ∧ K (.pointer (some ⟨b, o + j.toNat * P.cellsOf e, none⟩))
  | some (.slice e) => 0 < P.cellsOf e ∧ slcV x fun a n c => intV i fun k j => adrV a fun b o => 0 ≤ j ∧ j < n ∧ K (.pointer (some ⟨b, o + j.toNat * P.cellsOf e, none⟩))
  | _ => False
def idxO (d : Option TypeDesc) (x i : Value) (K : Value → Prop) (_t : Tag K := ⟨⟩) : Prop :=
  match d with
  | some (.array n e) => aggV x fun l => intV i fun k j => 0 ≤ j ∧ j < n ∧ partO ((P.underlying e).map isAggD) l (j.toNat * P.cellsOf e) (P.cellsOf e) K
  | some .string => ∃ a, x = .string a ∧ intV i fun k j => 0 ≤ j ∧ ∃ b, a[j.toNat]? = some b ∧ K (.int .u8 b.toNat)
  | _ => False
def slO (d : Option TypeDesc) (s : Fm) (x : Value) (lo hi : Option Operand) (K : Value → Prop) (_t : Tag K := ⟨⟩) : Prop :=
  match d with
  | some (.array n e) => 0 < P.cellsOf e ∧ ptrV x fun b o => vcBound s lo 0 fun l => vcBound s hi n fun h => 0 ≤ l ∧ l ≤ h ∧ h ≤ n ∧
      ∀ o', (l < n → o' = o + l.toNat * P.cellsOf e) → K (.slice (some ⟨b, o', none⟩) (h - l).toNat (n - l).toNat)
  | some (.slice e) => 0 < P.cellsOf e ∧ slcV x fun a n c => vcBound s lo 0 fun l => vcBound s hi n fun h => 0 ≤ l ∧ l ≤ h ∧ h ≤ c ∧
      ∀ a', (a = none → a' = none) → (∀ b o, a = some ⟨b, o, none⟩ → ∃ o', a' = some ⟨b, o', none⟩ ∧ (l < c → o' = o + l.toNat * P.cellsOf e)) → K (.slice a' (h - l).toNat (c - l).toNat)
  | _ => False
def sl3O (d : Option TypeDesc) (s : Fm) (x : Value) (lo : Option Operand) (h m : Value) (K : Value → Prop) (_t : Tag K := ⟨⟩) : Prop :=
  match d with
  | some (.slice e) => 0 < P.cellsOf e ∧ slcV x fun a n c => vcBound s lo 0 fun l => intV h fun _ h => intV m fun _ mm => 0 ≤ l ∧ l ≤ h ∧ h ≤ mm ∧ mm ≤ c ∧
      ∀ a', (a = none → a' = none) → (∀ b o, a = some ⟨b, o, none⟩ → ∃ o', a' = some ⟨b, o', none⟩ ∧ (l < mm → o' = o + l.toNat * P.cellsOf e)) → K (.slice a' (h - l).toNat (mm - l).toNat)
  | _ => False
def convO (a b : Option TypeDesc) (x : Value) (K : Value → Prop) (_t : Tag K := ⟨⟩) : Prop :=
  match a with
  | some _ => (match b with | some (.int k) => intV x fun _ n => K (.int k (k.wrap n)) | _ => False)
  | none => False
def ifO (d : Option TypeDesc) (T : TypeId) (x : Value) (K : Value → Prop) (_t : Tag K := ⟨⟩) : Prop :=
  match d with
  | some (.interface _) => False
  | some _ => K (.iface T x)
  | none => False
/-- A type assertion to a type that is no interface. -/
def asrV (T : TypeId) (ok : Bool) (x : Value) (K : Value → Prop) (_t : Tag K := ⟨⟩) : Prop :=
  (x = .nilIface ∧ ok = true ∧ ∃ z, zeroOf P T = some z ∧ K (.tuple #[z, .bool false])) ∨
  (∃ t v, x = .iface t v ∧ t = T ∧ K (if ok = true then .tuple #[v, .bool true] else v)) ∨
  (∃ t v, x = .iface t v ∧ t ≠ T ∧ ok = true ∧ ∃ z, zeroOf P T = some z ∧ K (.tuple #[z, .bool false]))
def asrO (d : Option TypeDesc) (T : TypeId) (ok : Bool) (x : Value) (K : Value → Prop) (_t : Tag K := ⟨⟩) : Prop :=
  match d with
  | some (.interface _) => False
  | some _ => asrV P T ok x K
  | none => False
/-- simp reckons the value ahead of going on. -/
def valV (x : Value) (K : Value → Prop) (_t : Tag K := ⟨⟩) : Prop := K x
def pickV (t : Bool) (x y : Value) (K : Value → Prop) (_t : Tag K := ⟨⟩) : Prop := K (if t = true then x else y)
def lenO (d : Option TypeDesc) (x : Value) (w : World) (K : Value → World → Prop) (_t : Tag K := ⟨⟩) : Prop :=
  match d with
  | some (.slice _) => slcV x fun _ n _ => K (.int .i64 n) w
  | some .string => ∃ a, x = .string a ∧ K (.int .i64 a.size) w
  | some (.array n _) => K (.int .i64 n) w
  | _ => False
def bldO (d : Option TypeDesc) (s : Fm) (n : Nat) (parts : List (Nat × Operand)) (w : World) (K : Value → World → Prop) (_t : Tag K := ⟨⟩) : Prop :=
  match d with
  | some (.slice e) => ∃ z, zeroOf P e = some z ∧ z.cells.size = P.cellsOf e ∧ 0 < P.cellsOf e ∧ n * P.cellsOf e ≤ 16777216 ∧ partsOk s (P.cellsOf e) 0 n parts ∧
        ∀ w', NewB w w' e (partsOf s parts) → K (.slice (some ⟨w.heap.size, 0, none⟩) n n) w'
  | _ => False
variable (op : BinOp) (x y i : Value)
theorem binO_some (d : TypeDesc) (c : Bool) : binO P (some d) c op x y K = vcBinD P d c op x y K := propext Iff.rfl
theorem binD_int (k : IntKind) (c : Bool) : vcBinD P (.int k) c op x y K = vcInt op x y K := propext Iff.rfl
theorem binD_string (c : Bool) : vcBinD P .string c op x y K = vcStr P op x y K := propext Iff.rfl
theorem binD_bool (c : Bool) : vcBinD P .bool c op x y K = vcEqOp P .bool op x y K := propext Iff.rfl
theorem binD_pointer (e : TypeId) (c : Bool) : vcBinD P (.pointer e) c op x y K = vcEqOp P (.pointer e) op x y K := propext Iff.rfl
theorem binD_slice (e : TypeId) (c : Bool) : vcBinD P (.slice e) c op x y K = vcEqOp P (.slice e) op x y K := propext Iff.rfl
theorem binD_array (n : Nat) (e : TypeId) (c : Bool) : vcBinD P (.array n e) c op x y K = vcEqOp P (.array n e) op x y K := propext Iff.rfl
theorem binD_struct (fs : Array Field) (c : Bool) : vcBinD P (.struct fs) c op x y K = vcEqOp P (.struct fs) op x y K := propext Iff.rfl
theorem binD_iface (m : Array (String × TypeId)) (c : Bool) : vcBinD P (.interface m) c op x y K = vcIfc c op x y K := propext Iff.rfl
theorem eqO_eql (d : TypeDesc) : vcEqOp P d .eql x y K = vcEq P d x y (fun t => K (.bool t)) := propext Iff.rfl
theorem eqO_neq (d : TypeDesc) : vcEqOp P d .neq x y K = vcEq P d x y (fun t => K (.bool (!t))) := propext Iff.rfl
theorem ifc_eqI (c : Bool) (t : TypeId) (v : Value) : vcIfc c .eql (.iface t v) .nilIface K = K (.bool false) := propext ⟨(by rintro ⟨_, ⟨_, _, e, h⟩ | ⟨_, e, h⟩⟩ <;> cases e <;> exact h), fun h => ⟨rfl, Or.inl ⟨_, _, rfl, h⟩⟩⟩
theorem ifc_neI (c : Bool) (t : TypeId) (v : Value) : vcIfc c .neq (.iface t v) .nilIface K = K (.bool true) := propext ⟨(by rintro ⟨_, ⟨_, _, e, h⟩ | ⟨_, e, h⟩⟩ <;> cases e <;> exact h), fun h => ⟨rfl, Or.inl ⟨_, _, rfl, h⟩⟩⟩
theorem ifc_eqN : vcIfc true .eql .nilIface .nilIface K = K (.bool true) := propext ⟨(by rintro ⟨_, ⟨_, _, e, h⟩ | ⟨_, e, h⟩⟩ <;> cases e <;> exact h), fun h => ⟨rfl, Or.inr ⟨rfl, rfl, h⟩⟩⟩
theorem ifc_neN : vcIfc true .neq .nilIface .nilIface K = K (.bool false) := propext ⟨(by rintro ⟨_, ⟨_, _, e, h⟩ | ⟨_, e, h⟩⟩ <;> cases e <;> exact h), fun h => ⟨rfl, Or.inr ⟨rfl, rfl, h⟩⟩⟩
theorem cNil_n : cNil (.const .nilIface) = true := (Eq.refl _).trans (Eq.refl _)
theorem fldAO_struct (fs : Array Field) (f : Nat) : fldAO P (some (.struct fs)) f x K = fldA P fs[f]? x K := propext Iff.rfl
theorem fldA_some (fd : Field) : fldA P (some fd) x K = (0 < P.cellsOf fd.type ∧ ptrV x fun b o => K (.pointer (some ⟨b, o + fd.offset, none⟩))) := propext ⟨by rintro ⟨_, h, hK⟩; cases h; exact hK, fun h => ⟨_, rfl, h⟩⟩
theorem fldO_struct (fs : Array Field) (f : Nat) : fldO P (some (.struct fs)) f x K = fldV P fs[f]? x K := propext Iff.rfl
theorem fldV_some (fd : Field) : fldV P (some fd) x K = (aggV x fun l => partO ((P.underlying fd.type).map isAggD) l fd.offset (P.cellsOf fd.type) K) := propext ⟨by rintro ⟨_, h, hK⟩; cases h; exact hK, fun h => ⟨_, rfl, h⟩⟩
theorem partO_t (l : List Value) (o n : Nat) : partO (some true) l o n K = K (.agg ((l.drop o).take n).toArray) := propext Iff.rfl
theorem partO_f (l : List Value) (o n : Nat) : partO (some false) l o n K = ∃ v, l[o]? = some v ∧ K v := propext Iff.rfl
theorem idxAO_array (n : Nat) (e : TypeId) : idxAO P (some (.array n e)) x i K = (0 < P.cellsOf e ∧ ptrV x fun b o => intV i fun k j => 0 ≤ j ∧ j < n ∧ K (.pointer (some ⟨b, o + j.toNat * P.cellsOf e, none⟩))) := propext Iff.rfl
theorem idxAO_slice (e : TypeId) : idxAO P (some (.slice e)) x i K = (0 < P.cellsOf e ∧ slcV x fun a n c => intV i fun k j => adrV a fun b o => 0 ≤ j ∧ j < n ∧ K (.pointer (some ⟨b, o + j.toNat * P.cellsOf e, none⟩))) := propext Iff.rfl
theorem idxO_array (n : Nat) (e : TypeId) : idxO P (some (.array n e)) x i K = (aggV x fun l => intV i fun k j => 0 ≤ j ∧ j < n ∧ partO ((P.underlying e).map isAggD) l (j.toNat * P.cellsOf e) (P.cellsOf e) K) := propext Iff.rfl
theorem slO_array (s : Fm) (lo hi : Option Operand) (n : Nat) (e : TypeId) : slO P (some (.array n e)) s x lo hi K = (0 < P.cellsOf e ∧ ptrV x fun b o => vcBound s lo 0 fun l => vcBound s hi n fun h => 0 ≤ l ∧ l ≤ h ∧ h ≤ n ∧
      ∀ o', (l < n → o' = o + l.toNat * P.cellsOf e) → K (.slice (some ⟨b, o', none⟩) (h - l).toNat (n - l).toNat)) := propext Iff.rfl
theorem sl3O_slice (s : Fm) (lo : Option Operand) (h m : Value) (e : TypeId) : sl3O P (some (.slice e)) s x lo h m K = (0 < P.cellsOf e ∧ slcV x fun a n c => vcBound s lo 0 fun l => intV h fun _ h => intV m fun _ mm => 0 ≤ l ∧ l ≤ h ∧ h ≤ mm ∧ mm ≤ c ∧
      ∀ a', (a = none → a' = none) → (∀ b o, a = some ⟨b, o, none⟩ → ∃ o', a' = some ⟨b, o', none⟩ ∧ (l < mm → o' = o + l.toNat * P.cellsOf e)) → K (.slice a' (h - l).toNat (mm - l).toNat)) := propext Iff.rfl
theorem slO_slice (s : Fm) (lo hi : Option Operand) (e : TypeId) : slO P (some (.slice e)) s x lo hi K = (0 < P.cellsOf e ∧ slcV x fun a n c => vcBound s lo 0 fun l => vcBound s hi n fun h => 0 ≤ l ∧ l ≤ h ∧ h ≤ c ∧
      ∀ a', (a = none → a' = none) → (∀ b o, a = some ⟨b, o, none⟩ → ∃ o', a' = some ⟨b, o', none⟩ ∧ (l < c → o' = o + l.toNat * P.cellsOf e)) → K (.slice a' (h - l).toNat (c - l).toNat)) := propext Iff.rfl
theorem bound_some (s : Fm) (x : Operand) (d : Int) (K : Int → Prop) : vcBound s (some x) d K = intV (ev s x) fun _ n => K n := propext Iff.rfl
theorem bound_none (s : Fm) (d : Int) (K : Int → Prop) : vcBound s none d K = K d := propext Iff.rfl
theorem cvE_int (w : World) (T U : TypeId) (d : TypeDesc) (k : IntKind) (K : Value → World → Prop) : cvE P (some d) (some (.int k)) T U x w K = intV x fun _ n => K (.int k (k.wrap n)) w := propext Iff.rfl
theorem cvE_string (w : World) (T U : TypeId) (d : TypeDesc) (K : Value → World → Prop) : cvE P (some d) (some .string) T U x w K = RawConv P T U x w K := propext Iff.rfl
theorem cvE_slice (w : World) (T U : TypeId) (d : TypeDesc) (e : TypeId) (K : Value → World → Prop) : cvE P (some d) (some (.slice e)) T U x w K = RawConv P T U x w K := propext Iff.rfl
theorem cvQ_int (w : World) (T U : TypeId) (d : TypeDesc) (k : IntKind) : cvQ P (some d) (some (.int k)) T U x w K = intV x fun _ n => K (.int k (k.wrap n)) := propext Iff.rfl
theorem cvQ_string (w : World) (T U : TypeId) (d : TypeDesc) : cvQ P (some d) (some .string) T U x w K = RawConvQ P T U x w K := propext Iff.rfl
theorem convO_int (d : TypeDesc) (k : IntKind) : convO (some d) (some (.int k)) x K = intV x fun _ n => K (.int k (k.wrap n)) := propext Iff.rfl
theorem ifO_pointer (T e : TypeId) : ifO (some (.pointer e)) T x K = K (.iface T x) := propext Iff.rfl
theorem ifO_struct (T : TypeId) (fs : Array Field) : ifO (some (.struct fs)) T x K = K (.iface T x) := propext Iff.rfl
theorem ifO_int (T : TypeId) (k : IntKind) : ifO (some (.int k)) T x K = K (.iface T x) := propext Iff.rfl
theorem asrO_pointer (T e : TypeId) (ok : Bool) : asrO P (some (.pointer e)) T ok x K = asrV P T ok x K := propext Iff.rfl
theorem asrV_nil (T : TypeId) : asrV P T true .nilIface K = ∃ z, zeroOf P T = some z ∧ K (.tuple #[z, .bool false]) := by simp [asrV]
theorem asrV_hit (T : TypeId) (v : Value) : asrV P T true (.iface T v) K = K (.tuple #[v, .bool true]) := by
  refine propext ⟨?_, fun h => Or.inr (Or.inl ⟨_, _, rfl, rfl, by simpa using h⟩)⟩
  rintro (⟨h, _⟩ | ⟨_, _, h, _, hK⟩ | ⟨_, _, h, hn, _⟩)
  · cases h
  · cases h; simpa using hK
  · cases h; exact absurd rfl hn
theorem asrV_miss (T U : TypeId) (v : Value) (hn : U ≠ T) : asrV P T true (.iface U v) K = ∃ z, zeroOf P T = some z ∧ K (.tuple #[z, .bool false]) := by
  refine propext ⟨?_, fun h => Or.inr (Or.inr ⟨_, _, rfl, hn, rfl, h⟩)⟩
  rintro (⟨h, _⟩ | ⟨_, _, h, e, hK⟩ | ⟨_, _, h, _, _, hK⟩)
  · cases h
  · cases h; exact absurd e hn
  · exact hK
theorem valV_go : valV x K = K x := propext Iff.rfl
theorem pickV_t : pickV true x y K = K x := by simp [pickV]
theorem pickV_f : pickV false x y K = K y := by simp [pickV]
theorem un_not : vcUn .not x K = boolV x fun b => K (.bool (!b)) := propext Iff.rfl
theorem un_neg : vcUn .neg x K = intV x fun k n => K (.int k (k.wrap (0 - n))) := propext Iff.rfl
theorem un_xor : vcUn .xor x K = intV x fun k n => K (.int k (ibits .xor k (if k.signed then -1 else k.max) n)) := propext Iff.rfl
theorem lenO_slice (e : TypeId) (w : World) (K : Value → World → Prop) : lenO (some (.slice e)) x w K = slcV x fun _ n _ => K (.int .i64 n) w := propext Iff.rfl
theorem lenO_string (w : World) (a : ByteArray) (K : Value → World → Prop) : lenO (some .string) (.string a) w K = K (.int .i64 a.size) w := propext ⟨by rintro ⟨_, h, hK⟩; cases h; exact hK, fun h => ⟨_, rfl, h⟩⟩
theorem lenO_array (e : TypeId) (n : Nat) (w : World) (K : Value → World → Prop) : lenO (some (.array n e)) x w K = K (.int .i64 n) w := propext Iff.rfl
theorem bldO_slice (s : Fm) (e : TypeId) (n : Nat) (parts : List (Nat × Operand)) (w : World) (K : Value → World → Prop) : bldO P (some (.slice e)) s n parts w K = (∃ z, zeroOf P e = some z ∧ z.cells.size = P.cellsOf e ∧ 0 < P.cellsOf e ∧ n * P.cellsOf e ≤ 16777216 ∧ partsOk s (P.cellsOf e) 0 n parts ∧
        ∀ w', NewB w w' e (partsOf s parts) → K (.slice (some ⟨w.heap.size, 0, none⟩) n n) w') := propext Iff.rfl
theorem parts_nil (s : Fm) : partsOf s [] = [] := (Eq.refl _).trans (Eq.refl _)
theorem parts_cons (s : Fm) (j : Nat) (x : Operand) (r : List (Nat × Operand)) : partsOf s ((j, x) :: r) = (ev s x).cells.toList ++ partsOf s r := (Eq.refl _).trans (Eq.refl _)
theorem pok_nil (s : Fm) (sz i n : Nat) : partsOk s sz i n [] = (i = n) := propext Iff.rfl
theorem pok_cons (s : Fm) (sz i n j : Nat) (x : Operand) (r : List (Nat × Operand)) : partsOk s sz i n ((j, x) :: r) = (j = i ∧ (ev s x).cells.size = sz ∧ partsOk s sz (i + 1) n r) := propext Iff.rfl
end descs

/-! ### Operations -/
section ops
variable (P : Program) (s : Fm) (w : World) (dst : Option Tmp) (ty : TypeId) (pos : String) (af : Array Edge) (g : Option (Nat × Bool))
theorem p_move (x : Operand) (K : Value → Prop) : vcPure P (.move x) s K = (valV (ev s x) K) := propext Iff.rfl
theorem p_assign (x : Operand) (K : Value → Prop) : vcPure P (.assign x) s K = (valV (ev s x) K) := propext Iff.rfl
theorem p_pick (c x y : Operand) (K : Value → Prop) : vcPure P (.pick c x y) s K = (boolV (ev s c) fun t => pickV t (ev s x) (ev s y) K) := propext Iff.rfl
theorem p_bin (op : BinOp) (T U : TypeId) (x y : Operand) (K : Value → Prop) : vcPure P (.binOp op T x y U) s K = (binO P (P.underlying T) (cNil y) op (ev s x) (ev s y) K) := propext Iff.rfl
theorem p_un (op : UnOp) (T : TypeId) (x : Operand) (K : Value → Prop) : vcPure P (.unOp op T x) s K = (vcUn op (ev s x) K) := propext Iff.rfl
theorem p_conv (T U : TypeId) (x : Operand) (K : Value → Prop) : vcPure P (.convert T U x) s K = (convO (P.underlying T) (P.underlying U) (ev s x) K) := propext Iff.rfl
theorem p_nilC (x : Operand) (K : Value → Prop) : vcPure P (.nilCheck x) s K = (ptrV (ev s x) fun b o => K (.pointer (some ⟨b, o, none⟩))) := by
  refine propext ⟨fun h => ?_, fun h => ?_⟩
  · obtain ⟨b, o, e, h⟩ := (show ptrV (ev s x) (fun b o => K (ev s x)) from h)
    exact ⟨b, o, e, show K (.pointer (some ⟨b, o, none⟩)) from e ▸ h⟩
  · obtain ⟨b, o, e, h⟩ := h
    have h' : K (.pointer (some ⟨b, o, none⟩)) := h
    exact (show ptrV (ev s x) (fun b o => K (ev s x)) from ⟨b, o, e, show K (ev s x) from e.symm ▸ h'⟩)
theorem p_fldA (T : TypeId) (x : Operand) (f : Nat) (K : Value → Prop) : vcPure P (.fieldAddr T x f) s K = (fldAO P (P.underlying T) f (ev s x) K) := by
  simp only [vcPure, fldAO]
  cases P.underlying T with
  | none => rfl
  | some d => cases d <;> rfl
theorem p_fld (T : TypeId) (x : Operand) (f : Nat) (K : Value → Prop) : vcPure P (.field T x f) s K = (fldO P (P.underlying T) f (ev s x) K) := by
  simp only [vcPure, fldO, fldV]
  cases P.underlying T with
  | none => rfl
  | some d => cases d <;> first | rfl | (simp only []; refine congrArg _ (funext fun fd => congrArg _ (congrArg _ (funext fun l => ?_))); unfold partO; split <;> rfl)
theorem p_idxA (T : TypeId) (x i : Operand) (K : Value → Prop) : vcPure P (.indexAddr T x i) s K = (idxAO P (P.underlying T) (ev s x) (ev s i) K) := propext Iff.rfl
theorem p_idx (T : TypeId) (x i : Operand) (K : Value → Prop) : vcPure P (.index T x i) s K = (idxO P (P.underlying T) (ev s x) (ev s i) K) := propext Iff.rfl
theorem p_sl3 (T : TypeId) (x : Operand) (lo : Option Operand) (h m : Operand) (K : Value → Prop) : vcPure P (.slice T x lo (some h) (some m)) s K = (sl3O P (P.underlying T) s (ev s x) lo (ev s h) (ev s m) K) := propext Iff.rfl
theorem o_sl3 (T : TypeId) (x : Operand) (lo : Option Operand) (h m : Operand) (K : Value → World → Prop) : vcOp P ⟨dst, .slice T x lo (some h) (some m), ty, pos, af, g⟩ s w K = vcPure P (.slice T x lo (some h) (some m)) s (fun v => K v w) := propext Iff.rfl
theorem p_sl (T : TypeId) (x : Operand) (lo hi : Option Operand) (K : Value → Prop) : vcPure P (.slice T x lo hi none) s K = (slO P (P.underlying T) s (ev s x) lo hi K) := propext Iff.rfl
theorem p_ext (x : Operand) (i : Nat) (K : Value → Prop) : vcPure P (.extract x i) s K = (tupV (ev s x) fun l => ∃ v, l[i]? = some v ∧ K v) := propext Iff.rfl
theorem p_mkI (T : TypeId) (x : Operand) (K : Value → Prop) : vcPure P (.makeInterface T x) s K = (ifO (P.underlying T) T (ev s x) K) := propext Iff.rfl
theorem p_mkF (fn : Fn) (a b : Array Operand) (K : Value → Prop) : vcPure P (.makeFunc fn a b) s K = (K (.func fn (a.map (ev s)) (b.map (ev s)))) := propext Iff.rfl
theorem p_asr (x : Operand) (T U : TypeId) (ok : Bool) (K : Value → Prop) : vcPure P (.typeAssert x T U ok) s K = (asrO P (P.underlying U) U ok (ev s x) K) := by
  simp only [vcPure, asrO]
  cases P.underlying U with
  | none => rfl
  | some d => cases d <;> rfl
theorem o_move (x : Operand) (K : Value → World → Prop) : vcOp P ⟨dst, .move x, ty, pos, af, g⟩ s w K = vcPure P (.move x) s (fun v => K v w) := propext Iff.rfl
theorem q_move (x : Operand) (K : Value → Prop) : Q1 P ⟨dst, .move x, ty, pos, af, g⟩ s w K = vcPure P (.move x) s K := propext Iff.rfl
theorem o_assign (x : Operand) (K : Value → World → Prop) : vcOp P ⟨dst, .assign x, ty, pos, af, g⟩ s w K = vcPure P (.assign x) s (fun v => K v w) := propext Iff.rfl
theorem q_assign (x : Operand) (K : Value → Prop) : Q1 P ⟨dst, .assign x, ty, pos, af, g⟩ s w K = vcPure P (.assign x) s K := propext Iff.rfl
theorem o_pick (c x y : Operand) (K : Value → World → Prop) : vcOp P ⟨dst, .pick c x y, ty, pos, af, g⟩ s w K = vcPure P (.pick c x y) s (fun v => K v w) := propext Iff.rfl
theorem q_pick (c x y : Operand) (K : Value → Prop) : Q1 P ⟨dst, .pick c x y, ty, pos, af, g⟩ s w K = vcPure P (.pick c x y) s K := propext Iff.rfl
theorem o_bin (op : BinOp) (T U : TypeId) (x y : Operand) (K : Value → World → Prop) : vcOp P ⟨dst, .binOp op T x y U, ty, pos, af, g⟩ s w K = vcPure P (.binOp op T x y U) s (fun v => K v w) := propext Iff.rfl
theorem q_bin (op : BinOp) (T U : TypeId) (x y : Operand) (K : Value → Prop) : Q1 P ⟨dst, .binOp op T x y U, ty, pos, af, g⟩ s w K = vcPure P (.binOp op T x y U) s K := propext Iff.rfl
theorem o_un (op : UnOp) (T : TypeId) (x : Operand) (K : Value → World → Prop) : vcOp P ⟨dst, .unOp op T x, ty, pos, af, g⟩ s w K = vcPure P (.unOp op T x) s (fun v => K v w) := propext Iff.rfl
theorem q_un (op : UnOp) (T : TypeId) (x : Operand) (K : Value → Prop) : Q1 P ⟨dst, .unOp op T x, ty, pos, af, g⟩ s w K = vcPure P (.unOp op T x) s K := propext Iff.rfl
theorem o_conv (T U : TypeId) (x : Operand) (K : Value → World → Prop) : vcOp P ⟨dst, .convert T U x, ty, pos, af, g⟩ s w K = cvE P (P.underlying T) (P.underlying U) T U (ev s x) w K := propext Iff.rfl
theorem q_conv (T U : TypeId) (x : Operand) (K : Value → Prop) : Q1 P ⟨dst, .convert T U x, ty, pos, af, g⟩ s w K = cvQ P (P.underlying T) (P.underlying U) T U (ev s x) w K := propext Iff.rfl
theorem o_nilC (x : Operand) (K : Value → World → Prop) : vcOp P ⟨dst, .nilCheck x, ty, pos, af, g⟩ s w K = vcPure P (.nilCheck x) s (fun v => K v w) := propext Iff.rfl
theorem q_nilC (x : Operand) (K : Value → Prop) : Q1 P ⟨dst, .nilCheck x, ty, pos, af, g⟩ s w K = vcPure P (.nilCheck x) s K := propext Iff.rfl
theorem o_fldA (T : TypeId) (x : Operand) (f : Nat) (K : Value → World → Prop) : vcOp P ⟨dst, .fieldAddr T x f, ty, pos, af, g⟩ s w K = vcPure P (.fieldAddr T x f) s (fun v => K v w) := propext Iff.rfl
theorem q_fldA (T : TypeId) (x : Operand) (f : Nat) (K : Value → Prop) : Q1 P ⟨dst, .fieldAddr T x f, ty, pos, af, g⟩ s w K = vcPure P (.fieldAddr T x f) s K := propext Iff.rfl
theorem o_fld (T : TypeId) (x : Operand) (f : Nat) (K : Value → World → Prop) : vcOp P ⟨dst, .field T x f, ty, pos, af, g⟩ s w K = vcPure P (.field T x f) s (fun v => K v w) := propext Iff.rfl
theorem q_fld (T : TypeId) (x : Operand) (f : Nat) (K : Value → Prop) : Q1 P ⟨dst, .field T x f, ty, pos, af, g⟩ s w K = vcPure P (.field T x f) s K := propext Iff.rfl
theorem o_idxA (T : TypeId) (x i : Operand) (K : Value → World → Prop) : vcOp P ⟨dst, .indexAddr T x i, ty, pos, af, g⟩ s w K = vcPure P (.indexAddr T x i) s (fun v => K v w) := propext Iff.rfl
theorem q_idxA (T : TypeId) (x i : Operand) (K : Value → Prop) : Q1 P ⟨dst, .indexAddr T x i, ty, pos, af, g⟩ s w K = vcPure P (.indexAddr T x i) s K := propext Iff.rfl
theorem o_idx (T : TypeId) (x i : Operand) (K : Value → World → Prop) : vcOp P ⟨dst, .index T x i, ty, pos, af, g⟩ s w K = vcPure P (.index T x i) s (fun v => K v w) := propext Iff.rfl
theorem q_idx (T : TypeId) (x i : Operand) (K : Value → Prop) : Q1 P ⟨dst, .index T x i, ty, pos, af, g⟩ s w K = vcPure P (.index T x i) s K := propext Iff.rfl
theorem o_sl (T : TypeId) (x : Operand) (lo hi : Option Operand) (K : Value → World → Prop) : vcOp P ⟨dst, .slice T x lo hi none, ty, pos, af, g⟩ s w K = vcPure P (.slice T x lo hi none) s (fun v => K v w) := propext Iff.rfl
theorem q_sl (T : TypeId) (x : Operand) (lo hi : Option Operand) (K : Value → Prop) : Q1 P ⟨dst, .slice T x lo hi none, ty, pos, af, g⟩ s w K = vcPure P (.slice T x lo hi none) s K := propext Iff.rfl
theorem o_ext (x : Operand) (i : Nat) (K : Value → World → Prop) : vcOp P ⟨dst, .extract x i, ty, pos, af, g⟩ s w K = vcPure P (.extract x i) s (fun v => K v w) := propext Iff.rfl
theorem q_ext (x : Operand) (i : Nat) (K : Value → Prop) : Q1 P ⟨dst, .extract x i, ty, pos, af, g⟩ s w K = vcPure P (.extract x i) s K := propext Iff.rfl
theorem o_mkI (T : TypeId) (x : Operand) (K : Value → World → Prop) : vcOp P ⟨dst, .makeInterface T x, ty, pos, af, g⟩ s w K = vcPure P (.makeInterface T x) s (fun v => K v w) := propext Iff.rfl
theorem q_mkI (T : TypeId) (x : Operand) (K : Value → Prop) : Q1 P ⟨dst, .makeInterface T x, ty, pos, af, g⟩ s w K = vcPure P (.makeInterface T x) s K := propext Iff.rfl
theorem p_bv (T : TypeId) (parts : Array (Nat × Operand)) (K : Value → Prop) : vcPure P (.build T parts) s K = bldV P T (parts.toList.map fun p => (p.1, ev s p.2)) K := propext Iff.rfl
theorem o_bv (T : TypeId) (parts : Array (Nat × Operand)) (K : Value → World → Prop) : vcOp P ⟨dst, .build T parts, ty, pos, af, g⟩ s w K = vcPure P (.build T parts) s (fun v => K v w) := propext Iff.rfl
theorem q_bv (T : TypeId) (parts : Array (Nat × Operand)) (K : Value → Prop) : Q1 P ⟨dst, .build T parts, ty, pos, af, g⟩ s w K = vcPure P (.build T parts) s K := propext Iff.rfl
theorem o_mkF (fn : Fn) (a b : Array Operand) (K : Value → World → Prop) : vcOp P ⟨dst, .makeFunc fn a b, ty, pos, af, g⟩ s w K = vcPure P (.makeFunc fn a b) s (fun v => K v w) := propext Iff.rfl
theorem q_mkF (fn : Fn) (a b : Array Operand) (K : Value → Prop) : Q1 P ⟨dst, .makeFunc fn a b, ty, pos, af, g⟩ s w K = vcPure P (.makeFunc fn a b) s K := propext Iff.rfl
theorem o_asr (x : Operand) (T U : TypeId) (ok : Bool) (K : Value → World → Prop) : vcOp P ⟨dst, .typeAssert x T U ok, ty, pos, af, g⟩ s w K = vcPure P (.typeAssert x T U ok) s (fun v => K v w) := propext Iff.rfl
theorem q_asr (x : Operand) (T U : TypeId) (ok : Bool) (K : Value → Prop) : Q1 P ⟨dst, .typeAssert x T U ok, ty, pos, af, g⟩ s w K = vcPure P (.typeAssert x T U ok) s K := propext Iff.rfl
variable (K : Value → World → Prop)
theorem o_load (T : TypeId) (x : Operand) : vcOp P ⟨dst, .load T x, ty, pos, af, g⟩ s w K = (ptrV (ev s x) fun b o' => vcLoad P T w b o' (fun v => K v w)) := propext Iff.rfl
theorem o_store (T : TypeId) (x y : Operand) : vcOp P ⟨dst, .store T x y, ty, pos, af, g⟩ s w K = (ptrV (ev s x) fun b o' => vcStore P T w b o' (ev s y) (fun w' => K undef w')) := propext Iff.rfl
theorem o_alloc (T : TypeId) : vcOp P ⟨dst, .alloc T, ty, pos, af, g⟩ s w K = (∃ z, zeroOf P T = some z ∧ ∀ w', NewB w w' T z.cells.toList → K (.pointer (some ⟨w.heap.size, 0, none⟩)) w') := propext Iff.rfl
theorem o_box (T : TypeId) (x : Operand) : vcOp P ⟨dst, .box T x, ty, pos, af, g⟩ s w K = (∀ w', NewB w w' T (ev s x).cells.toList → K (.pointer (some ⟨w.heap.size, 0, none⟩)) w') := propext Iff.rfl
theorem o_bld (T : TypeId) (n : Nat) (parts : Array (Nat × Operand)) : vcOp P ⟨dst, .buildSlice T n parts, ty, pos, af, g⟩ s w K = bldO P (P.underlying T) s n parts.toList w K := propext Iff.rfl
theorem o_call (f : Nat) (args : Array Operand) (ts : Array TypeId) : vcOp P ⟨dst, .call ⟨.value (.func f), args, ts⟩, ty, pos, af, g⟩ s w K = CallK P f (args.map (ev s)) w K := propext Iff.rfl
theorem o_inv (recv : Operand) (name : String) (args : Array Operand) (ts : Array TypeId) : vcOp P ⟨dst, .call ⟨.invoke recv name, args, ts⟩, ty, pos, af, g⟩ s w K = InvK P (ev s recv) name (args.map (ev s)) w K := propext Iff.rfl
theorem o_dyn (t : Nat) (args : Array Operand) (ts : Array TypeId) : vcOp P ⟨dst, .call ⟨.value (.tmp t), args, ts⟩, ty, pos, af, g⟩ s w K = YieldVC P (s t) (args.map (ev s)) w K := propext Iff.rfl
theorem o_len (x : Operand) (t : TypeId) : vcOp P ⟨dst, .call ⟨.builtin .len, #[x], #[t]⟩, ty, pos, af, g⟩ s w K = lenO (P.underlying t) (ev s x) w K := propext Iff.rfl
theorem o_min (x y : Operand) (ts : Array TypeId) : vcOp P ⟨dst, .call ⟨.builtin .min, #[x, y], ts⟩, ty, pos, af, g⟩ s w K = (intV (ev s x) fun k a => intV (ev s y) fun _ b => K (.int k (if b < a then b else a)) w) := propext Iff.rfl
theorem o_max (x y : Operand) (ts : Array TypeId) : vcOp P ⟨dst, .call ⟨.builtin .max, #[x, y], ts⟩, ty, pos, af, g⟩ s w K = (intV (ev s x) fun k a => intV (ev s y) fun _ b => K (.int k (if b > a then b else a)) w) := propext Iff.rfl
theorem o_copy (x y : Operand) (ts : List TypeId) : vcOp P ⟨dst, .call ⟨.builtin .copy, #[x, y], ts.toArray⟩, ty, pos, af, g⟩ s w K = RawCopy P ts [ev s x, ev s y] w K := propext Iff.rfl
theorem o_clear (x : Operand) (ts : List TypeId) : vcOp P ⟨dst, .call ⟨.builtin .clear, #[x], ts.toArray⟩, ty, pos, af, g⟩ s w K = RawClear P ts [ev s x] w K := propext Iff.rfl
/-- make of a slice: what it runs to. -/
structure RawMake (P : Program) (T : TypeId) (l c : Value) (w : World) (K : Value → World → Prop) (_t : Tag K := ⟨⟩) : Prop where
  out : ∃ v w', (Instr.makeSlice T l c).run P w = .ok v w' ∧ K v w'
theorem o_make (T : TypeId) (x y : Operand) : vcOp P ⟨dst, .makeSlice T x y, ty, pos, af, g⟩ s w K = RawMake P T (ev s x) (ev s y) w K := by
  refine propext ⟨fun h => ?_, fun h => ?_⟩
  · obtain ⟨v, w', hr, hK⟩ := h
    refine ⟨⟨v, w', ?_, hK⟩⟩
    have e : (execOp (ev s) ⟨dst, .makeSlice T x y, ty, pos, af, g⟩) = (do pure (.value (← Instr.makeSlice T (ev s x) (ev s y)))) := rfl
    rw [e] at hr
    cases hm : (Instr.makeSlice T (ev s x) (ev s y)).run P w with
    | ok u w1 => rw [Sem.run_bind, hm] at hr; simp at hr; obtain ⟨rfl, rfl⟩ := hr; rfl
    | _ => rw [Sem.run_bind, hm] at hr; simp [Result.andThen] at hr
  · obtain ⟨v, w', hr, hK⟩ := h.out
    refine ⟨v, w', ?_, hK⟩
    simp [execOp, hr]
def apE (P : Program) (t u : TypeId) (x y : Value) (w : World) (K : Value → World → Prop) (_t : Tag K := ⟨⟩) : Prop := if t = u then vcAppend P t x y w K else RawApp P [t, u] [x, y] w K
theorem o_app (x y : Operand) (t u : TypeId) : vcOp P ⟨dst, .call ⟨.builtin .append, #[x, y], #[t, u]⟩, ty, pos, af, g⟩ s w K = apE P t u (ev s x) (ev s y) w K := propext Iff.rfl
theorem apE_same (t : TypeId) (x y : Value) : apE P t t x y w K = vcAppend P t x y w K := by simp [apE]
theorem apE_other (t u : TypeId) (x y : Value) (h : t ≠ u) : apE P t u x y w K = RawApp P [t, u] [x, y] w K := by simp [apE, h]
def capO (d : Option TypeDesc) (x : Value) (w : World) (K : Value → World → Prop) (_t : Tag K := ⟨⟩) : Prop :=
  match d with
  | some (.slice _) => slcV x fun _ _ c => K (.int .i64 c) w
  | _ => False
theorem capO_slice (e : TypeId) (x : Value) : capO (some (.slice e)) x w K = slcV x fun _ _ c => K (.int .i64 c) w := propext Iff.rfl
theorem o_cap (x : Operand) (t : TypeId) : vcOp P ⟨dst, .call ⟨.builtin .cap, #[x], #[t]⟩, ty, pos, af, g⟩ s w K = capO (P.underlying t) (ev s x) w K := propext Iff.rfl
variable (J : Value → Prop)
theorem q_load (T : TypeId) (x : Operand) : Q1 P ⟨dst, .load T x, ty, pos, af, g⟩ s w J = (ptrV (ev s x) fun b o' => vcLoad P T w b o' J) := propext Iff.rfl
/-- A quiet call: one value, whatever was laid in between. -/
structure QCall (f : Nat) (args : Array Value) (w : World) (J : Value → Prop) (_t : Tag J := ⟨⟩) : Prop where
  out : ∃ v, (∀ w', Ext w w' → CallB P f args w' fun u w'' => u = v ∧ Ext w' w'') ∧ J v
theorem q_call (f : Nat) (args : Array Operand) (ts : Array TypeId) : Q1 P ⟨dst, .call ⟨.value (.func f), args, ts⟩, ty, pos, af, g⟩ s w J = QCall P f (args.map (ev s)) w J := propext ⟨fun h => ⟨h⟩, fun h => h.out⟩
theorem q_len (x : Operand) (t : TypeId) : Q1 P ⟨dst, .call ⟨.builtin .len, #[x], #[t]⟩, ty, pos, af, g⟩ s w J = lenO (P.underlying t) (ev s x) w (fun v _ => J v) := propext Iff.rfl
end ops

/-! ### Lists of operations -/
section lists
variable (P : Program) (n : Nat) (ops : Array Oper) (s : Fm) (w : World) (K : Fm → World → Prop) (J : Fm → Prop)
def opsT (l : List Oper) (s : Fm) (w : World) (K : Fm → World → Prop) (_t : Tag (ops, l, s, K) := ⟨⟩) : Prop := vcOps P n ops l s w K
def qT (w : World) (l : List Oper) (s : Fm) (J : Fm → Prop) (_t : Tag (ops, l, s, J) := ⟨⟩) : Prop := vcQ P n ops w l s J
variable (d : Option Tmp) (op : Op) (ty : TypeId) (pos : String) (af : Array Edge) (rest : List Oper)
theorem ops_nil : opsT P n ops [] s w K = K s w := propext Iff.rfl
theorem ops_cons : opsT P n ops (⟨d, op, ty, pos, af, none⟩ :: rest) s w K = (dok n d ∧ vcOp P ⟨d, op, ty, pos, af, none⟩ s w fun v w' => opsT P n ops rest (updO s d v) w' K) := propext Iff.rfl
/-- A guarded operation, its guard's temporary being known. -/
def grdT (e : Option Tmp) (want : Bool) (o : Oper) (rest : List Oper) (s : Fm) (w : World) (K : Fm → World → Prop) (_t : Tag (ops, o, rest, s, K) := ⟨⟩) : Prop :=
  match e with
  | some e => dok n o.dst ∧ e < n ∧ grdV (s e) want
      (vcOp P o (upd s e (.bool want)) w fun v w' => opsT P n ops rest (updO (upd s e (.bool want)) o.dst v) w' K)
      (opsT P n ops rest (updO (upd s e (.bool (!want))) o.dst undef) w K)
      (opsT P n ops rest (updO s o.dst undef) w K)
  | none => False
def grdQ (e : Option Tmp) (want : Bool) (o : Oper) (rest : List Oper) (s : Fm) (w : World) (J : Fm → Prop) (_t : Tag (ops, o, rest, s, J) := ⟨⟩) : Prop :=
  match e with
  | some e => dok n o.dst ∧ e < n ∧ grdV (s e) want
      (Q1 P o (upd s e (.bool want)) w fun v => qT P n ops w rest (updO (upd s e (.bool want)) o.dst v) J)
      (qT P n ops w rest (updO (upd s e (.bool (!want))) o.dst undef) J)
      (qT P n ops w rest (updO s o.dst undef) J)
  | none => False
theorem ops_grd (j : Nat) (want : Bool) : opsT P n ops (⟨d, op, ty, pos, af, some (j, want)⟩ :: rest) s w K = grdT P n ops ((ops[j]?).bind (·.dst)) want ⟨d, op, ty, pos, af, some (j, want)⟩ rest s w K := propext Iff.rfl
theorem grdT_some (e : Nat) (want : Bool) (g : Option (Nat × Bool)) : grdT P n ops (some e) want ⟨d, op, ty, pos, af, g⟩ rest s w K = (dok n d ∧ e < n ∧ grdV (s e) want
      (vcOp P ⟨d, op, ty, pos, af, g⟩ (upd s e (.bool want)) w fun v w' => opsT P n ops rest (updO (upd s e (.bool want)) d v) w' K)
      (opsT P n ops rest (updO (upd s e (.bool (!want))) d undef) w K)
      (opsT P n ops rest (updO s d undef) w K)) := propext Iff.rfl
theorem q_nil : qT P n ops w [] s J = J s := propext Iff.rfl
theorem q_cons : qT P n ops w (⟨d, op, ty, pos, af, none⟩ :: rest) s J = (dok n d ∧ Q1 P ⟨d, op, ty, pos, af, none⟩ s w fun v => qT P n ops w rest (updO s d v) J) := propext Iff.rfl
theorem q_grd (j : Nat) (want : Bool) : qT P n ops w (⟨d, op, ty, pos, af, some (j, want)⟩ :: rest) s J = grdQ P n ops ((ops[j]?).bind (·.dst)) want ⟨d, op, ty, pos, af, some (j, want)⟩ rest s w J := propext Iff.rfl
theorem grdQ_some (e : Nat) (want : Bool) (g : Option (Nat × Bool)) : grdQ P n ops (some e) want ⟨d, op, ty, pos, af, g⟩ rest s w J = (dok n d ∧ e < n ∧ grdV (s e) want
      (Q1 P ⟨d, op, ty, pos, af, g⟩ (upd s e (.bool want)) w fun v => qT P n ops w rest (updO (upd s e (.bool want)) d v) J)
      (qT P n ops w rest (updO (upd s e (.bool (!want))) d undef) J)
      (qT P n ops w rest (updO s d undef) J)) := propext Iff.rfl
end lists

/-! ### Statements -/
section stats
variable (P : Program) (n : Nat) (ro : Option Nat) (s : Fm) (w : World) (Q : Post)
def vcT (c : Code) (s : Fm) (w : World) (Q : Post) (_t : Tag (c, s, Q) := ⟨⟩) : Prop := vc P n ro c s w Q
theorem v_skip : vcT P n ro .skip s w Q = Q .normal s w := propext Iff.rfl
theorem v_region (id : Nat) (l : List Oper) : vcT P n ro (.region id l.toArray false) s w Q = opsT P n l.toArray l s w fun s' w' => Q .normal s' w' := by
  unfold vcT opsT; simp [vc]
theorem v_draw (id : Nat) (ops : Array Oper) : vcT P n ro (.region id ops true) s w Q = DrawVC P n ro id ops s w Q := by
  unfold vcT; simp [vc]
theorem v_seq (a b : Code) : vcT P n ro (.seq a b) s w Q = vcT P n ro a s w (seqQ (fun s' w' => vcT P n ro b s' w' Q) Q) := propext Iff.rfl
theorem v_cond (c : Operand) (x y : Code) : vcT P n ro (.cond c x y) s w Q = cndV (ev s c) (vcT P n ro x s w Q) (vcT P n ro y s w Q) := propext Iff.rfl
theorem v_block (id : Nat) (c : Code) : vcT P n ro (.block id c) s w Q = vcT P n ro c s w (blkQ id Q) := propext Iff.rfl
theorem v_loop (c : Code) : vcT P n ro (.loop c) s w Q = LoopVC P n ro c s w Q := propext Iff.rfl
theorem v_rangeFunc (f : Operand) (ps : Array Tmp) (a b : Code) : vcT P n ro (.rangeFunc f ps a b) s w Q = RawVC P n ro (.rangeFunc f ps a b) s w Q := propext Iff.rfl
theorem v_exit (id : Nat) : vcT P n ro (.exit id) s w Q = Q (.exit id) s w := propext Iff.rfl
theorem v_ret : vcT P n ro .ret s w Q = Q .ret s w := propext Iff.rfl
theorem s_normal (N : Fm → World → Prop) : seqQ N Q .normal s w = N s w := propext Iff.rfl
theorem s_exit (N : Fm → World → Prop) (i : Nat) : seqQ N Q (.exit i) s w = Q (.exit i) s w := propext Iff.rfl
theorem s_ret (N : Fm → World → Prop) : seqQ N Q .ret s w = Q .ret s w := propext Iff.rfl
theorem b_normal (id : Nat) : blkQ id Q .normal s w = Q .normal s w := propext Iff.rfl
theorem b_exit_eq (id : Nat) : blkQ id Q (.exit id) s w = Q .normal s w := by simp [blkQ]
theorem b_exit_ne (id i : Nat) (h : i ≠ id) : blkQ id Q (.exit i) s w = Q (.exit i) s w := by simp [blkQ, h]
theorem b_ret (id : Nat) : blkQ id Q .ret s w = Q .ret s w := propext Iff.rfl
def resT (rs : List ResultVar) (s : Fm) (w : World) (K : Value → Prop) (_t : Tag (s, K) := ⟨⟩) : Prop := resVC P rs.toArray s w K
theorem r_normal (rs : List ResultVar) (K : Value → World → Prop) : retQ P rs.toArray K .normal s w = resT P rs s w fun v => K v w := propext Iff.rfl
theorem r_ret (rs : List ResultVar) (K : Value → World → Prop) : retQ P rs.toArray K .ret s w = resT P rs s w fun v => K v w := propext Iff.rfl
variable (K : Value → Prop)
theorem res0 : resT P [] s w K = K (.tuple #[]) := propext Iff.rfl
theorem res1 (t : Nat) : resT P [.tmp t] s w K = K (s t) := propext Iff.rfl
theorem res2 (t u : Nat) : resT P [.tmp t, .tmp u] s w K = K (.tuple #[s t, s u]) := propext Iff.rfl
theorem res3 (t u v : Nat) : resT P [.tmp t, .tmp u, .tmp v] s w K = K (.tuple #[s t, s u, s v]) := propext Iff.rfl
theorem res4 (t u v x : Nat) : resT P [.tmp t, .tmp u, .tmp v, .tmp x] s w K = K (.tuple #[s t, s u, s v, s x]) := propext Iff.rfl
theorem resC2 (t T u : Nat) : resT P [.cell t T, .tmp u] s w K = (ptrV (s t) fun b o => vcLoad P T w b o fun v => K (.tuple #[v, s u])) := propext Iff.rfl
theorem resC4 (t T u x y : Nat) : resT P [.cell t T, .tmp u, .tmp x, .tmp y] s w K = (ptrV (s t) fun b o => vcLoad P T w b o fun v => K (.tuple #[v, s u, s x, s y])) := propext Iff.rfl
theorem resC (t T : Nat) : resT P [.cell t T] s w K = (ptrV (s t) fun b o => vcLoad P T w b o K) := propext Iff.rfl
end stats

/-- A CALL OF A FUNCTION WITH A BODY. -/
theorem enterT {P : Program} {f : FuncId} {fn : Func} {c : Code} {n : Nat} {rs : Array ResultVar} {vs : List Value} {w : World} {K : Value → World → Prop} (hf : P.funcs[f]? = some fn) (hb : fn.body = some c) (hn : fn.ntmps = n)
    (hr : fn.results = rs) (hl : decide (vs.length ≤ n) = true) (hname : (fn.name != "runtime.NumGoroutine") = true) (h : vcT P n none c (initFm vs 0) w (retQ P rs K)) : CallK P f vs.toArray w K := enter hf hb hn hr hl hname h
/-- A LOOP. -/
theorem loopT {P : Program} {n : Nat} {ro : Option Nat} {body : Code} {s : Fm} {w : World} {Q : Post} (I : Fm → World → Prop) (μ : Fm → World → Nat) (h0 : I s w)
    (hr : ∀ s' w', I s' w' → vcT P n ro body s' w' (seqQ (fun s'' w'' => I s'' w'' ∧ μ s'' w'' < μ s' w') Q)) : LoopVC P n ro body s w Q := loop_inv I μ h0 hr
/-- A LOOP THAT IS LEFT TO ONE PLACE FROM SEVERAL PLACES: what holds there is told once. -/
def cutQ (d : Nat) (J : Fm → World → Prop) (Q : Post) : Post := fun e s w =>
  match e with
  | .exit i => if i = d then J s w else Q (.exit i) s w
  | .normal => Q .normal s w
  | .goto l => Q (.goto l) s w
  | .ret => Q .ret s w
  | .panic c => Q (.panic c) s w
  | .outgrown => Q .outgrown s w
theorem k_normal {Q : Post} {s : Fm} {w : World} (d : Nat) (J : Fm → World → Prop) : cutQ d J Q .normal s w = Q .normal s w := propext Iff.rfl
theorem k_hit {Q : Post} {s : Fm} {w : World} (d : Nat) (J : Fm → World → Prop) : cutQ d J Q (.exit d) s w = J s w := by simp [cutQ]
theorem k_miss {Q : Post} {s : Fm} {w : World} (d i : Nat) (J : Fm → World → Prop) (h : i ≠ d) : cutQ d J Q (.exit i) s w = Q (.exit i) s w := by simp [cutQ, h]
theorem k_ret {Q : Post} {s : Fm} {w : World} (d : Nat) (J : Fm → World → Prop) : cutQ d J Q .ret s w = Q .ret s w := propext Iff.rfl
/-- A REGION THAT DRAWS ITS ORDER. -/
theorem drawT {P : Program} {n id : Nat} {l : List Oper} {s : Fm} {w : World} {Q : Post} (hm : P.follows .mixedOrders = true) (hB : Region.lexB .any l.toArray = true)
    (h : qT P n l.toArray w l s fun s' => ∀ w', Ext w w' → Q .normal s' w') : DrawVC P n none id l.toArray s w Q := draw_quiet hm hB (show vcQ P n l.toArray w l s _ from h)
theorem qcall {P : Program} {f : Nat} {args : Array Value} {w : World} {J : Value → Prop} (v : Value) (h : ∀ w', Ext w w' → CallK P f args w' fun u w'' => u = v ∧ Ext w' w'') (hJ : J v) (hb : callable P f = true := by kernel_rfl) : QCall P f args w J := ⟨⟨v, fun w' hw => (h w' hw).body hb, hJ⟩⟩

theorem cells_agg (c : Array Value) : (Value.agg c).cells = c := (Eq.refl _).trans (Eq.refl _)
theorem cells_int (k : IntKind) (n : Int) : (Value.int k n).cells = [Value.int k n].toArray := (Eq.refl _).trans (Eq.refl _)
theorem cells_bool (t : Bool) : (Value.bool t).cells = [Value.bool t].toArray := (Eq.refl _).trans (Eq.refl _)
theorem cells_sl (a : Option Addr) (n c : Nat) : (Value.slice a n c).cells = [Value.slice a n c].toArray := (Eq.refl _).trans (Eq.refl _)
theorem cells_ptr (a : Option Addr) : (Value.pointer a).cells = [Value.pointer a].toArray := (Eq.refl _).trans (Eq.refl _)
section lits
variable (P : Program) (k : IntKind) (m n : Int) (K : Value → Prop)
theorem add_lit : vcInt .add (.int k m) (.int k n) K = K (.int k (k.wrap (m + n))) := propext ⟨by rintro ⟨_, _, _, h1, h2, hK⟩; cases h1; cases h2; exact hK, fun h => ⟨_, _, _, rfl, rfl, h⟩⟩
theorem sub_lit : vcInt .sub (.int k m) (.int k n) K = K (.int k (k.wrap (m - n))) := propext ⟨by rintro ⟨_, _, _, h1, h2, hK⟩; cases h1; cases h2; exact hK, fun h => ⟨_, _, _, rfl, rfl, h⟩⟩
theorem mul_lit : vcInt .mul (.int k m) (.int k n) K = K (.int k (k.wrap (m * n))) := propext ⟨by rintro ⟨_, _, _, h1, h2, hK⟩; cases h1; cases h2; exact hK, fun h => ⟨_, _, _, rfl, rfl, h⟩⟩
theorem quo_lit : vcInt .quo (.int k m) (.int k n) K = (n ≠ 0 ∧ K (.int k (k.wrap (m.tdiv n)))) := propext ⟨by rintro ⟨_, _, _, h1, h2, hK⟩; cases h1; cases h2; exact hK, fun h => ⟨_, _, _, rfl, rfl, h⟩⟩
theorem rem_lit : vcInt .rem (.int k m) (.int k n) K = (n ≠ 0 ∧ K (.int k (m.tmod n))) := propext ⟨by rintro ⟨_, _, _, h1, h2, hK⟩; cases h1; cases h2; exact hK, fun h => ⟨_, _, _, rfl, rfl, h⟩⟩
theorem and_lit : vcInt .and (.int k m) (.int k n) K = K (.int k (ibits .and k m n)) := propext ⟨by rintro ⟨_, _, _, h1, h2, hK⟩; cases h1; cases h2; exact hK, fun h => ⟨_, _, _, rfl, rfl, h⟩⟩
theorem or_lit : vcInt .or (.int k m) (.int k n) K = K (.int k (ibits .or k m n)) := propext ⟨by rintro ⟨_, _, _, h1, h2, hK⟩; cases h1; cases h2; exact hK, fun h => ⟨_, _, _, rfl, rfl, h⟩⟩
theorem xor_lit : vcInt .xor (.int k m) (.int k n) K = K (.int k (ibits .xor k m n)) := propext ⟨by rintro ⟨_, _, _, h1, h2, hK⟩; cases h1; cases h2; exact hK, fun h => ⟨_, _, _, rfl, rfl, h⟩⟩
theorem andNot_lit : vcInt .andNot (.int k m) (.int k n) K = K (.int k (ibits .andNot k m n)) := propext ⟨by rintro ⟨_, _, _, h1, h2, hK⟩; cases h1; cases h2; exact hK, fun h => ⟨_, _, _, rfl, rfl, h⟩⟩
theorem shl_lit (j : IntKind) : vcInt .shl (.int k m) (.int j n) K = (0 ≤ n ∧ K (.int k (k.wrap (m * 2 ^ (min n.toNat k.bits))))) := propext ⟨by rintro ⟨_, _, _, _, h1, h2, hK⟩; cases h1; cases h2; exact hK, fun h => ⟨_, _, _, _, rfl, rfl, h⟩⟩
theorem shr_lit (j : IntKind) : vcInt .shr (.int k m) (.int j n) K = (0 ≤ n ∧ K (.int k (m.fdiv (2 ^ (min n.toNat k.bits))))) := propext ⟨by rintro ⟨_, _, _, _, h1, h2, hK⟩; cases h1; cases h2; exact hK, fun h => ⟨_, _, _, _, rfl, rfl, h⟩⟩
theorem eql_lit : vcInt .eql (.int k m) (.int k n) K = K (.bool (decide (m = n))) := propext ⟨by rintro ⟨_, _, _, h1, h2, hK⟩; cases h1; cases h2; exact hK, fun h => ⟨_, _, _, rfl, rfl, h⟩⟩
theorem neq_lit : vcInt .neq (.int k m) (.int k n) K = K (.bool (decide (m ≠ n))) := propext ⟨by rintro ⟨_, _, _, h1, h2, hK⟩; cases h1; cases h2; exact hK, fun h => ⟨_, _, _, rfl, rfl, h⟩⟩
theorem lss_lit : vcInt .lss (.int k m) (.int k n) K = K (.bool (decide (m < n))) := propext ⟨by rintro ⟨_, _, _, h1, h2, hK⟩; cases h1; cases h2; exact hK, fun h => ⟨_, _, _, rfl, rfl, h⟩⟩
theorem leq_lit : vcInt .leq (.int k m) (.int k n) K = K (.bool (decide (m ≤ n))) := propext ⟨by rintro ⟨_, _, _, h1, h2, hK⟩; cases h1; cases h2; exact hK, fun h => ⟨_, _, _, rfl, rfl, h⟩⟩
theorem gtr_lit : vcInt .gtr (.int k m) (.int k n) K = K (.bool (decide (n < m))) := propext ⟨by rintro ⟨_, _, _, h1, h2, hK⟩; cases h1; cases h2; exact hK, fun h => ⟨_, _, _, rfl, rfl, h⟩⟩
theorem geq_lit : vcInt .geq (.int k m) (.int k n) K = K (.bool (decide (n ≤ m))) := propext ⟨by rintro ⟨_, _, _, h1, h2, hK⟩; cases h1; cases h2; exact hK, fun h => ⟨_, _, _, rfl, rfl, h⟩⟩
theorem eqb_lit (a b : Bool) (K : Bool → Prop) : vcEq P .bool (.bool a) (.bool b) K = K (decide (a = b)) := propext ⟨by rintro ⟨_, _, h1, h2, hK⟩; cases h1; cases h2; exact hK, fun h => ⟨_, _, rfl, rfl, h⟩⟩
theorem eqp_lit (e : TypeId) (a : Option Addr) (K : Bool → Prop) : vcEq P (.pointer e) (.pointer a) (.pointer none) K = K (decide (a = none)) := propext ⟨by rintro ⟨_, _, h1, h2, _, hK⟩; cases h1; cases h2; exact hK, fun h => ⟨_, _, rfl, rfl, Or.inr rfl, h⟩⟩
theorem eqs_lit (e : TypeId) (a : Option Addr) (n c : Nat) (K : Bool → Prop) : vcEq P (.slice e) (.slice a n c) (.slice none 0 0) K = K (decide (a = none)) := propext ⟨by rintro ⟨_, _, _, _, _, _, h1, h2, _, hK⟩; cases h1; cases h2; simpa using hK, fun h => ⟨_, _, _, _, _, _, rfl, rfl, Or.inr rfl, by simpa using h⟩⟩
end lits

end Go.Proofs.YthlkfjoibjhaiaaGreatDoor
