/-
  The row of NibbleClosest: its walk (NibbleClosest_ok) put into the frame. Conditions: none. Written by wip/genrow.py.
-/
import Derived.Test.YtheojegfgcbacaaL13F
import Derived.Test.YtheojegfgcbacaaRow
namespace Go.Proofs.Ytheojegfgcbacaa
open Go Go.RowKit Go.ChangeShapes Go.WideShapes Go.ChangeAt
set_option linter.unusedVariables false
set_option linter.unusedSimpArgs false
namespace RNibbleClosest
theorem own : ownKnob Try.prog.godebug = none := by kernel_rfl
theorem laid : laidOutB Try.prog = true := by kernel_rfl

set_option maxRecDepth 100000 in
theorem lifted (os : Os) (started : os.Started) (H : Type) (enc : TypeId × Value → H) :
    ReturnsInHanded {} Try.checked os 8 .any (Rows.nibbleClosestSpec.pre6 enc Try.prog Try.f8 Rows.nibbleClosestRow.domain false) (Rows.nibbleClosestSpec.post enc Try.prog Try.f8 false true false false) := by
  refine returnsInHanded_of_change (C := Try.checked) own started (by kernel_rfl) Try.func8
    (ChangeSpec.witness6 (enc := enc) (C := Try.checked) false ⟨#[], #[.int .i64 0, .slice none 0 0], []⟩ 8 (by kernel_rfl) (by kernel_rfl) (by kernel_rfl) (by kernel_rfl)) ?_
  intro W base args ds gs before hval0 hW hcnd _
  have hval : ∀ (j : Nat) t v, Try.f8.params[j]? = some t → args[j]? = some v → Value.okWide Try.prog W .any base t v := hval0
  have hW' := hW
  obtain ⟨p, q, hA0, hV, rfl, hfz, hnd⟩ := hW
  have hA : DataW.TrodAll enc Try.prog W 0 (fun _ => true) true Try.f8.params.toList args.toList ds p := hA0
  rw [Try.params8] at hA hval
  obtain ⟨v0, vs0, d0, ds0, p0, q0, hargs, rfl, rfl, h0, r0⟩ := trodAll_cons hA
  obtain ⟨v1, vs1, d1, ds1, p1, q1, rfl, rfl, rfl, h1, r1⟩ := trodAll_cons r0
  obtain ⟨rfl, rfl, rfl⟩ := trodAll_nil r1
  obtain rfl : args = #[v0, v1] := by cases args; simp_all
  obtain ⟨rfl, rfl⟩ := trodVars_none hV
  obtain ⟨a0, rfl, b0, t0⟩ := open_num Try.underlying3 (hval 0 3 v0 rfl rfl) h0
  have b0' : -9223372036854775808 ≤ a0 ∧ a0 ≤ 9223372036854775807 := by simp [IntKind.min, IntKind.max, IntKind.signed, IntKind.bits] at b0 t0; omega
  obtain ⟨a1, l1, o1⟩ := open_digs Try.underlying42 Try.underlying23 Try.underlying5 c5 c23 (by decide) (hval 1 42 v1 rfl rfl) h1
  refine (NibbleClosest_ok a0 v1 a1 l1 W o1).toCalls.mono fun e W' ⟨he, hE⟩ => ?_
  subst he
  exact ⟨_, rfl, law_post laid rfl Try.underlying4 (by kernel_rfl) rfl hW' ⟨rfl, rfl, rfl⟩ hE⟩

theorem over : Rows.nibbleClosestRow.holds Try.pinned (OpenSpec.ofChange Rows.nibbleClosestSpec) :=
  OpenClaim.holds_of_wide 8 Try.f8 rfl rfl rfl rfl rfl rfl rfl ⟨rfl, rfl, rfl, rfl, rfl⟩ rfl rfl rfl rfl rfl (by kernel_rfl) Try.func8 (by kernel_rfl)
    (of_decide_eq_true (by kernel_rfl)) (by unfold Func.isWrapper; first | (rw [if_pos (by decide +kernel)]; kernel_rfl) | (rw [if_neg (by decide +kernel)]; exact ⟨rfl, rfl⟩))
    (fun os started H enc _ => lifted os started H enc)
end RNibbleClosest

/-- The statement. -/
theorem nibbleClosest_proved : Rows.NibbleClosestSaid := RNibbleClosest.over
#print axioms nibbleClosest_proved
end Go.Proofs.Ytheojegfgcbacaa
