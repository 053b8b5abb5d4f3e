/-
  The row of NibbleOrders: its walk (NibbleOrders_ok) put into the frame. Conditions: none. Written by wip/genrow.py.
-/
import Derived.Test.YtheojegfgcbacaaL13E
import Derived.Test.YtheojegfgcbacaaRow
namespace Go.Proofs.Ytheojegfgcbacaa
open Go Go.RowKit Go.ChangeShapes Go.WideShapes Go.ChangeAt
set_option linter.unusedVariables false
set_option linter.unusedSimpArgs false
namespace RNibbleOrders
theorem own : ownKnob Try.prog.godebug = none := by kernel_rfl
theorem laid : laidOutB Try.prog = true := by kernel_rfl

set_option maxRecDepth 100000 in
theorem lifted (os : Os) (started : os.Started) (H : Type) (enc : TypeId × Value → H) :
    ReturnsInHanded {} Try.checked os 7 .any (Rows.nibbleOrdersSpec.pre6 enc Try.prog Try.f7 Rows.nibbleOrdersRow.domain false) (Rows.nibbleOrdersSpec.post enc Try.prog Try.f7 false true false false) := by
  refine returnsInHanded_of_change (C := Try.checked) own started (by kernel_rfl) Try.func7
    (ChangeSpec.witness6 (enc := enc) (C := Try.checked) false ⟨#[], #[.int .i64 0, .agg (Array.replicate 32 (.int .u8 0)), .agg (Array.replicate 32 (.int .u8 0))], []⟩ 8 (by kernel_rfl) (by kernel_rfl) (by kernel_rfl) (by kernel_rfl)) ?_
  intro W base args ds gs before hval0 hW hcnd _
  have hval : ∀ (j : Nat) t v, Try.f7.params[j]? = some t → args[j]? = some v → Value.okWide Try.prog W .any base t v := hval0
  have hW' := hW
  obtain ⟨p, q, hA0, hV, rfl, hfz, hnd⟩ := hW
  have hA : DataW.TrodAll enc Try.prog W 0 (fun _ => true) true Try.f7.params.toList args.toList ds p := hA0
  rw [Try.params7] at hA hval
  obtain ⟨v0, vs0, d0, ds0, p0, q0, hargs, rfl, rfl, h0, r0⟩ := trodAll_cons hA
  obtain ⟨v1, vs1, d1, ds1, p1, q1, rfl, rfl, rfl, h1, r1⟩ := trodAll_cons r0
  obtain ⟨v2, vs2, d2, ds2, p2, q2, rfl, rfl, rfl, h2, r2⟩ := trodAll_cons r1
  obtain ⟨rfl, rfl, rfl⟩ := trodAll_nil r2
  obtain rfl : args = #[v0, v1, v2] := by cases args; simp_all
  obtain ⟨rfl, rfl⟩ := trodVars_none hV
  obtain ⟨a0, rfl, b0, t0⟩ := open_num Try.underlying3 (hval 0 3 v0 rfl rfl) h0
  have b0' : -9223372036854775808 ≤ a0 ∧ a0 ≤ 9223372036854775807 := by simp [IntKind.min, IntKind.max, IntKind.signed, IntKind.bits] at b0 t0; omega
  obtain ⟨a1, l1, rfl⟩ := open_bytes Try.underlying23 Try.underlying5 c5 c23 (hval 1 23 v1 rfl rfl) h1
  obtain ⟨a2, l2, rfl⟩ := open_bytes Try.underlying23 Try.underlying5 c5 c23 (hval 2 23 v2 rfl rfl) h2
  refine (NibbleOrders_ok a0 a1 a2 l1 l2 W).toCalls.mono fun e W' ⟨he, hE⟩ => ?_
  subst he
  exact ⟨_, rfl, law_post laid rfl Try.underlying4 (by kernel_rfl) rfl hW' ⟨rfl, rfl, rfl⟩ hE⟩

theorem over : Rows.nibbleOrdersRow.holds Try.pinned (OpenSpec.ofChange Rows.nibbleOrdersSpec) :=
  OpenClaim.holds_of_wide 7 Try.f7 rfl rfl rfl rfl rfl rfl rfl ⟨rfl, rfl, rfl, rfl, rfl⟩ rfl rfl rfl rfl rfl (by kernel_rfl) Try.func7 (by kernel_rfl)
    (of_decide_eq_true (by kernel_rfl)) (by unfold Func.isWrapper; first | (rw [if_pos (by decide +kernel)]; kernel_rfl) | (rw [if_neg (by decide +kernel)]; exact ⟨rfl, rfl⟩))
    (fun os started H enc _ => lifted os started H enc)
end RNibbleOrders

/-- The statement. -/
theorem nibbleOrders_proved : Rows.NibbleOrdersSaid := RNibbleOrders.over
#print axioms nibbleOrders_proved
end Go.Proofs.Ytheojegfgcbacaa
