/-
  The frame of the hcheck laws' rows: parameters opened; the table of SHA-256. Conditions: none; plain lemmas.
-/
import Derived.Test.YticfalbgplifoaaGreatDoorRowU
import Derived.Test.YticfalbgplifoaaGreatDoorLawB
namespace Go.Proofs.YticfalbgplifoaaGreatDoor
set_option maxRecDepth 100000
open Go Go.RowKit Go.ChangeShapes Go.WideShapes Go.ChangeAt
set_option linter.unusedVariables false
set_option linter.unusedSimpArgs false

section opened
variable {H : Type} {enc : TypeId × Value → H} {w : World} {sp : Nat → Bool} {r : Reach} {b0 : Nat} {v : Value} {d : DataW H} {p : List MemPlace}
theorem open_bsb (hval : Value.okWide Tryz.prog w r b0 22 v) (hd : DataW.Trod enc Tryz.prog w 0 sp true 22 v d p) : ∃ xs, SlB w v xs ∧ xs.length ≤ Rows.uptoBulk d := by
  obtain ⟨a0, len0, cap0, rfl⟩ := okWide_slice Tryz.underlying22 hval
  obtain ⟨fuel, hf⟩ := hd
  obtain ⟨u, xs, h1, h2, h3⟩ := in_bytes hf
  simp [Value.cells] at h1
  subst h1
  exact ⟨xs, h2, h3⟩
theorem open_kp (hval : Value.okWide Tryz.prog w r b0 26 v) (hd : DataW.Trod enc Tryz.prog w 0 sp true 26 v d p) : ∃ sv pv ss ps, v = .agg [sv, pv].toArray ∧ ProofIn w sv pv ss ps (Rows.uptoBulk d) := by
  obtain ⟨cs, rfl, _⟩ := okWide_struct Tryz.underlying26 hval
  obtain ⟨fuel, hf⟩ := hd
  obtain ⟨sv, pv, ss, ps, h1, h2⟩ := in_proof hf
  simp only [Value.cells] at h1
  exact ⟨sv, pv, ss, ps, by rw [← h1], h2⟩
theorem open_ask (hval : Value.okWide Tryz.prog w r b0 30 v) (hd : DataW.Trod enc Tryz.prog w 0 sp true 30 v d p) : ∃ (n : Int) (kv : Value) (key : List UInt8) (sv pv : Value) (ss : List SR) (ps : List PR) (root : List UInt8),
    v = .agg ([.int .i64 n, kv, sv, pv] ++ vbs root).toArray ∧ -9223372036854775808 ≤ n ∧ n ≤ 9223372036854775807 ∧ SlB w kv key ∧ key.length ≤ Rows.uptoBulk d ∧ ProofIn w sv pv ss ps (Rows.uptoBulk d) ∧ root.length = 32 := by
  obtain ⟨cs, rfl, _⟩ := okWide_struct Tryz.underlying30 hval
  obtain ⟨fuel, hf⟩ := hd
  obtain ⟨y0, y1, y2, y3, n, hx, hl, h0, h1, h2, h3⟩ := Joins.trod_struct4 Tryz.underlying30 hf
  simp only [Value.cells] at hl h0 h1 h2 h3
  rw [c30] at hl
  simp only [c3, c22, c26, c28] at h0 h1 h2 h3
  obtain ⟨m, e0, _, hm⟩ := DataW.trod_int Tryz.underlying3 h0
  obtain ⟨kv, key, e1, hk, hkb⟩ := in_bytes h1
  obtain ⟨sv, pv, ss, ps, e2, hp⟩ := in_proof h2
  obtain ⟨root, hr, e3⟩ := cells_bytes Tryz.underlying28 Tryz.underlying5 c5 c28 h3
  have hm' := wf_bounds hm
  simp [IntKind.min, IntKind.max, IntKind.signed, IntKind.bits] at hm'
  obtain rfl : d = DataW.agg [y0.1, y1.1, y2.1, y3.1] := congrArg Prod.fst hx
  refine ⟨m, kv, key, sv, pv, ss, ps, root, ?_, by omega, by omega, hk, Nat.le_trans hkb (bulk_agg (by simp)), hp.mono (bulk_agg (by simp)), hr⟩
  have e : cs.toList = cs.toList.take 1 ++ ((cs.toList.drop 1).take 1 ++ ((cs.toList.drop 2).take 2 ++ (cs.toList.drop 4).take 32)) := by
    have s4 : (cs.toList.drop 4).take 32 = cs.toList.drop 4 := List.take_of_length_le (by simp only [List.length_drop]; omega)
    have s3 := List.take_append_drop 2 (cs.toList.drop 2)
    have s2 := List.take_append_drop 1 (cs.toList.drop 1)
    have s1 := List.take_append_drop 1 cs.toList
    rw [List.drop_drop] at s3 s2
    rw [s4, s3, s2, s1]
  simp only [List.drop_zero] at e0
  rw [e0, e1, e2, e3] at e
  rw [show ([.int .i64 m, kv, sv, pv] ++ vbs root : List Value) = cs.toList from e.symm]
end opened

theorem AskAt.of {w : World} {key : List UInt8} {kv sv pv : Value} {ss : List SR} {ps : List PR} {b : Nat} (hk : SlB w kv key) (hp : ProofIn w sv pv ss ps b) (hkl : key.length ≤ 2000000) (hb : b ≤ 2000000) : AskAt w key ss ps kv sv pv :=
  ⟨hk, by omega, hp.steps, hp.pairs, fun p h => by have := (hp.el p h).1; omega, by have := hp.pl; omega⟩

/-! ### The table -/
theorem gTab : Tryz.prog.globalNamed "notary/sha.words" = some 1 := by kernel_rfl
theorem gTabType : (Tryz.prog.globals[1]?).map (·.type) = some 136 := by kernel_rfl
theorem tab_eq {H : Type} : (Rows.laid_notary_sha_words : DataW H) = Lib.tabData .u32 (KW.map fun x => (x.toNat : Int)) := by kernel_rfl
theorem words_of {W : World} (h : laidMetH Tryz.prog [("notary/sha.words", Rows.laid_notary_sha_words)] W) : WordsAt W 1 := by
  have h' : laidMetH Tryz.prog [("notary/sha.words", Lib.tabData .u32 (KW.map fun x => (x.toNat : Int)))] W := by
    rw [← tab_eq]
    exact h
  have ht := Lib.tabIs_of_head (rest := []) gTab gTabType Tryz.underlying136 Tryz.underlying119 c119 c136 h'
  intro j hj
  have hc := ht.cell gTab j (by rw [List.length_map]; exact hj)
  rw [hc]
  have hl : j < KW.length := hj
  simp only [vw, List.getD_eq_getElem?_getD, List.getElem?_map, List.getElem?_eq_getElem hl, Option.map_some, Option.getD_some]

end Go.Proofs.YticfalbgplifoaaGreatDoor
