/-
  HcheckTurned, its second form's card: whatever the arguments of bulk at most 1048576, the call returns true and the arguments read as they did; the package-level table lies as the program's text lays it. Conditions: as the row says. Written by wip/genrowu.py.
-/
import Derived.Test.YticfalbgplifoaaDoorLawE
import Derived.Test.YticfalbgplifoaaDoorRowV
import Derived.Test.YticfalbgplifoaaDoorCards
import Derived.Test.YticfalbgplifoaaDoorTie
import Derived.Deep.DeepHandedRow
namespace Go.Proofs.YticfalbgplifoaaDoor
set_option maxRecDepth 100000
open Go Go.RowKit Go.ChangeShapes Go.WideShapes Go.ChangeAt
set_option linter.unusedVariables false
set_option linter.unusedSimpArgs false
namespace RHcheckTurned
theorem own : ownKnob Tryd.prog.godebug = none := by kernel_rfl
theorem laid : laidOutB Tryd.prog = true := by kernel_rfl
def wit : Array Value := #[.agg ([.int .i64 0, .slice none 0 0, .slice none 0 0, .slice none 0 0] ++ List.replicate 32 (.int .u8 0) : List Value).toArray, .int .i64 0, .int .i64 0, .int .u8 0]
/-- A world for the witness: the settled one, the table holding what its initialiser lays. -/
noncomputable def laidWorld (os : Os) : World :=
  { World.holding Tryd.prog os ⟨#[], #[], []⟩ with heap := (World.holding Tryd.prog os ⟨#[], #[], []⟩).heap.modify 1 fun
      | .cells _ t frozen => .cells (vws KW).toArray t frozen
      | o => o }
theorem laid_met (os : Os) : laidMet Tryd.prog Rows.hcheckTurnedUptoRow.laid ((laidWorld os).forCall (fun _ _ => 0) ⟨#[], wit, []⟩).memory :=
  laidMet_of_run' 8 (by kernel_rfl) (by kernel_rfl)
theorem reads (os : Os) {H : Type} (enc : TypeId × Value → H) : ∃ places, DataW.whole enc Tryd.prog ((laidWorld os).forCall (fun _ _ => 0) ⟨#[], wit, []⟩).memory Tryd.f5.params.toList Rows.hcheckTurnedSpec.vars false wit.toList 8 = some ([.agg [.lit (.int .i64 0), .nil, .agg [.nil, .nil], .agg (List.replicate 32 (.lit (.int .u8 0)))], .lit (.int .i64 0), .lit (.int .i64 0), .lit (.int .u8 0)], [], places) :=
  ⟨[], by kernel_rfl⟩

theorem contract (H : Type) (enc : TypeId × Value → H) (W : World) (base : Nat) (args : Array Value) (ds gs : List (DataW H)) (before : List MemPlace)
    (hval0 : ∀ (j : Nat) t v, Tryd.f5.params[j]? = some t → args[j]? = some v → Value.okWide Tryd.prog W .any base t v)
    (hW : DataW.Whole enc Tryd.prog Tryd.f5.params.toList Rows.hcheckTurnedSpec.vars false W args.toList ds gs before) (hL : laidMetH Tryd.prog Rows.hcheckTurnedUptoRow.laid W) (hS : Rows.uptoSmall H (ds ++ gs) = true) :
    Calls Tryd.prog 5 args W fun e W' => ∃ v, e = .returned v ∧ Rows.hcheckTurnedSpec.post enc Tryd.prog Tryd.f5 false true false false W args v W' := by
  have hval : ∀ (j : Nat) t v, Tryd.f5.params[j]? = some t → args[j]? = some v → Value.okWide Tryd.prog W .any base t v := hval0
  have hW' := hW
  obtain ⟨p, q, hA0, hV, rfl, hfz, hnd⟩ := hW
  have hA : DataW.TrodAll enc Tryd.prog W 0 (fun _ => true) true Tryd.f5.params.toList args.toList ds p := hA0
  rw [Tryd.params5] at hA hval
  obtain ⟨v0, vs0, d0, ds0, p0, q0, hargs, rfl, rfl, h0, r0⟩ := trodAll_cons hA
  obtain ⟨v1, vs1, d1, ds1, p1, q1, rfl, rfl, rfl, h1, r1⟩ := trodAll_cons r0
  obtain ⟨v2, vs2, d2, ds2, p2, q2, rfl, rfl, rfl, h2, r2⟩ := trodAll_cons r1
  obtain ⟨v3, vs3, d3, ds3, p3, q3, rfl, rfl, rfl, h3, r3⟩ := trodAll_cons r2
  obtain ⟨rfl, rfl, rfl⟩ := trodAll_nil r3
  obtain rfl : args = #[v0, v1, v2, v3] := by cases args; simp_all
  obtain ⟨rfl, rfl⟩ := trodVars_none hV
  have hb := bulk_small hS
  simp only [List.append_nil, Rows.uptoBulkAll] at hb
  have hWd := words_of hL
  obtain ⟨n0, kv0, key0, sv0, pv0, ss0, ps0, root0, rfl, b0, t0, hk0, hkl0, hp0, hr0⟩ := open_ask (hval 0 30 v0 rfl rfl) h0
  obtain ⟨n1, rfl, b1', t1'⟩ := open_num Tryd.underlying3 (hval 1 3 v1 rfl rfl) h1
  simp [IntKind.min, IntKind.max, IntKind.signed, IntKind.bits] at b1' t1'
  have b1 := b1'
  have t1 := t1'
  obtain ⟨n2, rfl, b2', t2'⟩ := open_num Tryd.underlying3 (hval 2 3 v2 rfl rfl) h2
  simp [IntKind.min, IntKind.max, IntKind.signed, IntKind.bits] at b2' t2'
  have b2 := b2'
  have t2 := t2'
  obtain ⟨n3, rfl, b3', t3'⟩ := open_num Tryd.underlying5 (hval 3 5 v3 rfl rfl) h3
  simp [IntKind.min, IntKind.max, IntKind.signed, IntKind.bits] at b3' t3'
  have b3 := b3'
  have t3 := t3'
  refine (Turned_ok n0 root0 key0 hr0 kv0 sv0 pv0 ss0 ps0 n1 n2 n3 W hWd hk0 (by omega) (hp0.mono (by omega)) ⟨b1, t1⟩ ⟨b2, t2⟩ ⟨b3, t3⟩).toCalls (by kernel_rfl) |>.mono fun e W' ⟨he, hE⟩ => ?_
  subst he
  exact ⟨_, rfl, law_post laid rfl Tryd.underlying4 (by kernel_rfl) rfl hW' ⟨rfl, rfl, rfl⟩ hE⟩

set_option maxRecDepth 100000 in
theorem lifted (os : Os) (started : os.Started) (H : Type) (enc : TypeId × Value → H) (F : Stop.Interp) :
    ReturnsInHanded {} Tryd.checked os 5 .any ((Rows.OpenSpec.upto Rows.hcheckTurnedSpec).preRow enc Tryd.prog Tryd.f5 Rows.hcheckTurnedUptoRow.domain false Rows.hcheckTurnedUptoRow.laid) (((Rows.OpenSpec.upto Rows.hcheckTurnedSpec).at F).post enc Tryd.prog Tryd.f5 false true false false) := by
  obtain ⟨places, hx⟩ := reads os enc
  refine returnsInHanded_of_row (C := Tryd.checked) (s := Rows.OpenSpec.upto Rows.hcheckTurnedSpec) own started (by kernel_rfl) Tryd.func5
    (witness_row_at (enc := enc) (C := Tryd.checked) false (laidWorld os) wit rfl (by kernel_rfl) (by kernel_rfl) (by kernel_rfl)
      (OpenSpec.preRow_of_cond 8 hx (by kernel_rfl) (fun k hk => by cases hk; kernel_rfl) (by kernel_rfl) (laid_met os))) ?_
  intro W base args ds gs before hval hW _ hcond _ hL _ _
  exact contract H enc W base args ds gs before hval hW hL (hcond _ rfl)
theorem said : Rows.HcheckTurnedUptoSaid :=
  OpenClaim.holds_of_cond 5 Tryd.f5 rfl rfl rfl rfl rfl rfl rfl ⟨rfl, rfl, rfl, rfl, rfl⟩ rfl rfl rfl rfl rfl (by kernel_rfl) Tryd.func5 (by kernel_rfl)
    (of_decide_eq_true (by kernel_rfl)) (by unfold Func.isWrapper; first | (rw [if_pos (by decide +kernel)]; kernel_rfl) | (rw [if_neg (by decide +kernel)]; exact ⟨rfl, rfl⟩))
    (fun os started H enc _ F => by rw [OpenClaim.pre_eq_preRow]; exact lifted os started H enc F)
theorem plain (f : FuncId) (fn : Func) (hf : Tryd.pinned.checked.prog.funcNamed "notary/notarylaw16.HcheckTurned" = some f) (hfn : Tryd.pinned.checked.prog.funcs[f]? = some fn) :
    false = Tryd.pinned.checked.prog.looks [] ∧ ∀ (j : Nat) t, fn.params[j]? = some t → Tryd.pinned.checked.prog.wantsStandIn t = false := by
  obtain rfl : f = 5 := Option.some.inj ((show Tryd.prog.funcNamed "notary/notarylaw16.HcheckTurned" = some 5 by kernel_rfl).symm.trans hf) |>.symm
  obtain rfl : fn = Tryd.f5 := (Option.some.inj (Tryd.func5.symm.trans hfn)).symm
  refine ⟨by kernel_rfl, fun j t ht => ?_⟩
  rw [Tryd.params5] at ht
  have hm := Array.mem_of_getElem? ht
  simp only [List.mem_toArray, List.mem_cons, List.not_mem_nil, or_false] at hm
  rcases hm with rfl | rfl | rfl | rfl
  · exact (show Tryd.prog.wantsStandIn 30 = false by kernel_rfl)
  · exact (show Tryd.prog.wantsStandIn 3 = false by kernel_rfl)
  · exact (show Tryd.prog.wantsStandIn 3 = false by kernel_rfl)
  · exact (show Tryd.prog.wantsStandIn 5 = false by kernel_rfl)
end RHcheckTurned

/-- The statement. -/
theorem hcheckTurnedUpto_proved : Rows.HcheckTurnedUptoCardSaid :=
  Claim7.holds_tied_plain_at .later [] _ _ _ _ RHcheckTurned.said (fun _ h => by cases h) (by kernel_rfl) (fun _ h => by cases h) hcheckTurnedUpto_row_tie rfl ⟨rfl, rfl⟩ (by kernel_rfl) rfl RHcheckTurned.plain (by kernel_rfl)
#print axioms hcheckTurnedUpto_proved
end Go.Proofs.YticfalbgplifoaaDoor
