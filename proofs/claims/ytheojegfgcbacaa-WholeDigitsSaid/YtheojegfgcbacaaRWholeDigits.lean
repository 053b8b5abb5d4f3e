/-
  The row of WholeDigits: its walk (WholeDigits_ok) put into the frame. Conditions: none. Written by wip/genrow.py.
-/
import Derived.Test.YtheojegfgcbacaaL13G
import Derived.Test.YtheojegfgcbacaaRow
namespace Go.Proofs.Ytheojegfgcbacaa
open Go Go.RowKit Go.ChangeShapes Go.WideShapes Go.ChangeAt
set_option linter.unusedVariables false
set_option linter.unusedSimpArgs false
namespace RWholeDigits
theorem own : ownKnob Try.prog.godebug = none := by kernel_rfl
theorem laid : laidOutB Try.prog = true := by kernel_rfl

set_option maxRecDepth 100000 in
theorem lifted (os : Os) (started : os.Started) (H : Type) (enc : TypeId × Value → H) :
    ReturnsInHanded {} Try.checked os 10 .any (Rows.wholeDigitsSpec.pre6 enc Try.prog Try.f10 Rows.wholeDigitsRow.domain false) (Rows.wholeDigitsSpec.post enc Try.prog Try.f10 false true false false) := by
  refine returnsInHanded_of_change (C := Try.checked) own started (by kernel_rfl) Try.func10
    (ChangeSpec.witness6 (enc := enc) (C := Try.checked) false ⟨#[], #[.int .u8 0, .agg (Array.replicate 32 (.int .u8 0)), .agg (Array.replicate 32 (.int .u8 0)), .slice none 0 0], []⟩ 8 (by kernel_rfl) (by kernel_rfl) (by kernel_rfl) (by kernel_rfl)) ?_
  intro W base args ds gs before hval0 hW hcnd _
  have hval : ∀ (j : Nat) t v, Try.f10.params[j]? = some t → args[j]? = some v → Value.okWide Try.prog W .any base t v := hval0
  have hW' := hW
  obtain ⟨p, q, hA0, hV, rfl, hfz, hnd⟩ := hW
  have hA : DataW.TrodAll enc Try.prog W 0 (fun _ => true) true Try.f10.params.toList args.toList ds p := hA0
  rw [Try.params10] at hA hval
  obtain ⟨v0, vs0, d0, ds0, p0, q0, hargs, rfl, rfl, h0, r0⟩ := trodAll_cons hA
  obtain ⟨v1, vs1, d1, ds1, p1, q1, rfl, rfl, rfl, h1, r1⟩ := trodAll_cons r0
  obtain ⟨v2, vs2, d2, ds2, p2, q2, rfl, rfl, rfl, h2, r2⟩ := trodAll_cons r1
  obtain ⟨v3, vs3, d3, ds3, p3, q3, rfl, rfl, rfl, h3, r3⟩ := trodAll_cons r2
  obtain ⟨rfl, rfl, rfl⟩ := trodAll_nil r3
  obtain rfl : args = #[v0, v1, v2, v3] := by cases args; simp_all
  obtain ⟨rfl, rfl⟩ := trodVars_none hV
  obtain ⟨a0, rfl, b0, t0⟩ := open_num Try.underlying5 (hval 0 5 v0 rfl rfl) h0
  have b0' : 0 ≤ a0 ∧ a0 < 256 := by simp [IntKind.min, IntKind.max, IntKind.signed, IntKind.bits] at b0 t0; omega
  obtain ⟨m0, rfl⟩ : ∃ m : Nat, a0 = m := ⟨a0.toNat, by omega⟩
  obtain ⟨a1, l1, rfl⟩ := open_bytes Try.underlying23 Try.underlying5 c5 c23 (hval 1 23 v1 rfl rfl) h1
  obtain ⟨a2, l2, rfl⟩ := open_bytes Try.underlying23 Try.underlying5 c5 c23 (hval 2 23 v2 rfl rfl) h2
  obtain ⟨a3, o3⟩ := open_bs Try.underlying44 Try.underlying5 c5 (hval 3 44 v3 rfl rfl) h3
  refine (WholeDigits_ok m0 (by omega) a1 a2 l1 l2 v3 a3 W o3).toCalls.mono fun e W' ⟨he, hE⟩ => ?_
  subst he
  exact ⟨_, rfl, law_post laid rfl Try.underlying4 (by kernel_rfl) rfl hW' ⟨rfl, rfl, rfl⟩ hE⟩

theorem over : Rows.wholeDigitsRow.holds Try.pinned (OpenSpec.ofChange Rows.wholeDigitsSpec) :=
  OpenClaim.holds_of_wide 10 Try.f10 rfl rfl rfl rfl rfl rfl rfl ⟨rfl, rfl, rfl, rfl, rfl⟩ rfl rfl rfl rfl rfl (by kernel_rfl) Try.func10 (by kernel_rfl)
    (of_decide_eq_true (by kernel_rfl)) (by unfold Func.isWrapper; first | (rw [if_pos (by decide +kernel)]; kernel_rfl) | (rw [if_neg (by decide +kernel)]; exact ⟨rfl, rfl⟩))
    (fun os started H enc _ => lifted os started H enc)
end RWholeDigits

/-- The statement. -/
theorem wholeDigits_proved : Rows.WholeDigitsSaid := RWholeDigits.over
#print axioms wholeDigits_proved
end Go.Proofs.Ytheojegfgcbacaa
