/-
  slices.Backward: its iterator's contract; a range over a function in the calculus. Conditions: as stated in each theorem.
-/
import Derived.Test.YticfalbgplifoaaGreatDoorDigC
import Derived.RangeFuncNested
import Derived.RangeFuncLeaves
namespace Go.Proofs.YticfalbgplifoaaGreatDoor
set_option maxRecDepth 100000
open Go Go.RowKit
set_option linter.unusedVariables false
set_option linter.unusedSimpArgs false

theorem DigsAt.ext {w w' : World} {v : Value} {ds : List (List UInt8)} (h : DigsAt w v ds) (e : Ext w w') : DigsAt w' v ds := ⟨h.1, h.2.ext e⟩
/-- A step with what its slice holds. -/
structure SR where
  kv : Value
  bm : Nat
  ks : List (List UInt8)
def SR.cells (s : SR) : List Value := [.int .u16 s.bm, s.kv]
/-- Steps that may be read. -/
def StepsAt (w : World) (v : Value) (ss : List SR) : Prop := SlC w v ss.length (ss.flatMap SR.cells) ∧ ∀ s ∈ ss, s.bm < 65536 ∧ DigsAt w s.kv s.ks
theorem StepsAt.ext {w w' : World} {v : Value} {ss : List SR} (h : StepsAt w v ss) (e : Ext w w') : StepsAt w' v ss := ⟨h.1.ext e, fun s hs => ⟨(h.2 s hs).1, (h.2 s hs).2.ext e⟩⟩

/-- What a range backward hands over: the last first. -/
def backL (ss : List SR) : List (Nat × SR) := (ss.zipIdx.map fun p => (p.2, p.1)).reverse
theorem backL_len (ss : List SR) : (backL ss).length = ss.length := by simp [backL]
theorem backL_get (ss : List SR) (k : Nat) (s : SR) (hk : k < ss.length) (hs : ss[ss.length - 1 - k]? = some s) : (backL ss)[k]? = some (ss.length - 1 - k, s) := by
  unfold backL
  rw [List.getElem?_reverse (by simpa using hk)]
  simp [hs]

theorem backL_mem {ss : List SR} {x : Nat × SR} (h : x ∈ backL ss) : ss[x.1]? = some x.2 := by
  unfold backL at h
  rw [List.mem_reverse, List.mem_map] at h
  obtain ⟨p, hp, rfl⟩ := h
  have := List.mem_zipIdx_iff_getElem?.1 hp
  simpa using this

theorem o_yield (P : Program) (s : Fm) (w : World) (dst : Option Tmp) (ty : TypeId) (pos : String) (af : Array Edge) (g : Option (Nat × Bool)) (K : Value → World → Prop) (t : Nat) (args : Array Operand) (ts : Array TypeId) :
    vcOp P ⟨dst, .call ⟨.value (.tmp t), args, ts⟩, ty, pos, af, g⟩ s w K = YieldVC P (s t) (args.map (ev s)) w K := propext Iff.rfl
theorem yield_n {P : Program} {k m l : Nat} {args : Array Value} {W : World} {R : Ending → World → Prop} (h : YieldAt Fence.wide k P l args W R) : YieldAt Fence.wide m P l args W R := by
  obtain ⟨fn, tmps, assign, body, hy, hR⟩ := h
  exact ⟨fn, tmps, assign, body, hy, roundFW none k m hR⟩

theorem Backward_ok (v : Value) (hv : v.cells = #[v]) (w : World) :
    CallK Tryz.prog 53 [v].toArray w fun r w' => r = .func (.func 83) #[] #[.pointer (some ⟨w.heap.size, 0, none⟩)] ∧ NewB w w' 23 [v] := by
  refine enterT Tryz.func53 rfl Tryz.ntmps53 Tryz.results53 rfl (by decide) ?_
  simp only [↓VD, VP, VT, isAggD, reduceCtorEq, Int.reduceEq, Int.reduceNe, Int.reduceLT, Int.reduceLE, implies_true, Nat.reduceEqDiff, reduceIte, ite_true, ite_false, eq_self, Nat.reduceLT, Nat.reduceLeDiff, Nat.reduceAdd, Nat.reduceMul, Nat.reduceSub, intOf]
  intro w1 hN
  rw [hv] at hN
  exact hN

theorem iter_ok (l Bs : Nat) (v : Value) (ss : List SR) (hkv : ∀ s ∈ ss, s.kv.cells = #[s.kv]) (J Jx : List (Nat × SR) → World → Prop) (M : World → Prop)
    (hM : ∀ W, M W → W.cell? ⟨Bs, 0, none⟩ = some v ∧ SlC W v ss.length (ss.flatMap SR.cells))
    (hY : ∀ pre x W1, x ∈ backL ss → J pre W1 → M W1 → pre.length < ss.length → YieldAt Fence.wide 0 Tryz.prog l #[.int .i64 (x.1 : Nat), .agg x.2.cells.toArray] W1 fun e W' =>
      (e = .returned (.bool true) ∧ J (pre ++ [x]) W' ∧ M W') ∨ (e = .returned (.bool false) ∧ Jx (pre ++ [x]) W'))
    (W : World) (hM0 : M W) (h0 : J [] W) :
    CallK Tryz.prog 83 [.func (.yield l) #[] #[], .pointer (some ⟨Bs, 0, none⟩)].toArray W fun _ W' => J (backL ss) W' ∨ ∃ pre, Jx pre W' := by
  obtain ⟨hc0, hs0⟩ := hM W hM0
  have hs0' := hs0
  obtain ⟨a, c, rfl, hnc, hcm, _⟩ := hs0'
  refine enterT Tryz.func83 rfl Tryz.ntmps83 Tryz.results83 rfl (by decide) ?_
  simp only [↓VD, VP, VT, isAggD, reduceCtorEq, Int.reduceEq, Int.reduceNe, Int.reduceLT, Int.reduceLE, implies_true, Nat.reduceEqDiff, reduceIte, ite_true, ite_false, eq_self, Nat.reduceLT, Nat.reduceLeDiff, Nat.reduceAdd, Nat.reduceMul, Nat.reduceSub, intOf]
  refine ld1 Tryz.underlying23 rfl hc0 ?_
  simp only [↓VD, VP, VT, isAggD, reduceCtorEq, Int.reduceEq, Int.reduceNe, Int.reduceLT, Int.reduceLE, implies_true, Nat.reduceEqDiff, reduceIte, ite_true, ite_false, eq_self, Nat.reduceLT, Nat.reduceLeDiff, Nat.reduceAdd, Nat.reduceMul, Nat.reduceSub, intOf]
  have hl1 : IntKind.i64.wrap ((ss.length : Int) - 1) = (ss.length : Int) - 1 := w64 (by omega) (by omega)
  refine loopT (fun s' w' => s' 0 = .func (.yield l) #[] #[] ∧ s' 1 = .pointer (some ⟨Bs, 0, none⟩) ∧ M w' ∧ ∃ k : Nat, k ≤ ss.length ∧ s' 3 = .int .i64 ((ss.length : Int) - 1 - k) ∧ J ((backL ss).take k) w') (fun s' _ => (intOf (s' 3) + 1).toNat) ?_ ?_
  · simp only [↓VD, VP, VT, isAggD, reduceCtorEq, Int.reduceEq, Int.reduceNe, Int.reduceLT, Int.reduceLE, implies_true, Nat.reduceEqDiff, reduceIte, ite_true, ite_false, eq_self, Nat.reduceLT, Nat.reduceLeDiff, Nat.reduceAdd, Nat.reduceMul, Nat.reduceSub, intOf, hl1]
    exact ⟨hM0, 0, by omega, by omega, by simpa using h0⟩
  · rintro s1 w1 ⟨g0, g1, hM1, k, hk, g3, hJ⟩
    obtain ⟨hc1, hs1⟩ := hM w1 hM1
    simp only [↓VD, VP, VT, isAggD, reduceCtorEq, Int.reduceEq, Int.reduceNe, Int.reduceLT, Int.reduceLE, implies_true, Nat.reduceEqDiff, reduceIte, ite_true, ite_false, eq_self, Nat.reduceLT, Nat.reduceLeDiff, Nat.reduceAdd, Nat.reduceMul, Nat.reduceSub, intOf, g0, g1, g3]
    refine ⟨fun hge => ?_, fun hlt => ?_⟩
    · have hkl : k < ss.length := by omega
      have e1 : (ss.length : Int) - 1 - k = ((ss.length - 1 - k : Nat) : Int) := by omega
      refine ld1 Tryz.underlying23 rfl hc1 ?_
      obtain ⟨_, _, he, _, _, hcs⟩ := hs1
      cases he
      obtain ⟨x, hx⟩ : ∃ x, ss[ss.length - 1 - k]? = some x := ⟨_, List.getElem?_eq_getElem (by omega)⟩
      rcases hcs with hcs | ⟨b, o, rfl, hcs⟩
      · exfalso
        have := congrArg List.length hcs
        cases ss with
        | nil => simp at hkl
        | cons p ps => simp [SR.cells] at this
      simp only [↓VD, VP, VT, isAggD, reduceCtorEq, Int.reduceEq, Int.reduceNe, Int.reduceLT, Int.reduceLE, implies_true, Nat.reduceEqDiff, reduceIte, ite_true, ite_false, eq_self, Nat.reduceLT, Nat.reduceLeDiff, Nat.reduceAdd, Nat.reduceMul, Nat.reduceSub, intOf, g0, g1, g3, e1]
      refine ⟨by omega, by omega, ldE (f := SR.cells) c56 Tryz.underlying56 rfl (fun _ _ => rfl) hcs hx ?_⟩
      simp only [↓VD, VP, VT, isAggD, reduceCtorEq, Int.reduceEq, Int.reduceNe, Int.reduceLT, Int.reduceLE, implies_true, Nat.reduceEqDiff, reduceIte, ite_true, ite_false, eq_self, Nat.reduceLT, Nat.reduceLeDiff, Nat.reduceAdd, Nat.reduceMul, Nat.reduceSub, intOf, g0, g1, g3, e1, ↓o_yield]
      refine ⟨⟨l, rfl, ?_⟩⟩
      have hget := backL_get ss k x hkl hx
      have htk : (backL ss).take (k + 1) = (backL ss).take k ++ [(ss.length - 1 - k, x)] := by
        obtain ⟨hk', he⟩ := List.getElem?_eq_some_iff.1 hget
        rw [List.take_succ_eq_append_getElem hk', he]
      obtain ⟨fn, tmps, assign, body, hy, hR⟩ := hY ((backL ss).take k) (ss.length - 1 - k, x) w1 (List.mem_of_getElem? hget) hJ hM1 (by rw [List.length_take, backL_len]; omega)
      refine ⟨fn, tmps, assign, body, hy, hR.mono ?_⟩
      rintro e W2 (⟨rfl, hJ2, hM2⟩ | ⟨rfl, hJx⟩)
      · refine ⟨_, rfl, ?_⟩
        rw [← htk] at hJ2
        simp only [↓VD, VP, VT, isAggD, reduceCtorEq, Int.reduceEq, Int.reduceNe, Int.reduceLT, Int.reduceLE, implies_true, Nat.reduceEqDiff, reduceIte, ite_true, ite_false, eq_self, Nat.reduceLT, Nat.reduceLeDiff, Nat.reduceAdd, Nat.reduceMul, Nat.reduceSub, intOf, g0, g1, g3, e1]
        refine ⟨⟨hM2, k + 1, by omega, ?_, hJ2⟩, ?_⟩
        · rw [w64 (by omega) (by omega)]; omega
        · rw [w64 (by omega) (by omega)]; omega
      · refine ⟨_, rfl, ?_⟩
        simp only [↓VD, VP, VT, isAggD, reduceCtorEq, Int.reduceEq, Int.reduceNe, Int.reduceLT, Int.reduceLE, implies_true, Nat.reduceEqDiff, reduceIte, ite_true, ite_false, eq_self, Nat.reduceLT, Nat.reduceLeDiff, Nat.reduceAdd, Nat.reduceMul, Nat.reduceSub, intOf, g0, g1, g3, e1]
        exact Or.inr ⟨_, hJx⟩
    · have hkl : k = ss.length := by omega
      subst hkl
      rw [List.take_of_length_le (by rw [backL_len]; omega)] at hJ
      exact Or.inl hJ

end Go.Proofs.YticfalbgplifoaaGreatDoor
