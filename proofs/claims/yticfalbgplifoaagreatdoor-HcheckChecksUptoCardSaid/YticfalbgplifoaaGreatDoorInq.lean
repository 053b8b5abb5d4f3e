/-
  The statements' helper inputs (package notarylaw16). Conditions: as stated in each theorem.
-/
import Derived.Test.YticfalbgplifoaaGreatDoorInp
namespace Go.Proofs.YticfalbgplifoaaGreatDoor
set_option maxRecDepth 100000
open Go Go.RowKit
set_option linter.unusedVariables false
set_option linter.unusedSimpArgs false

theorem Own.keepT {w w' : World} {b b' e e' sz sz' n n' : Nat} {v x : Value} {xs ys : List Value} (h : Own w b e sz v n xs) (g : Own w b' e' sz' x n' ys) (hT : e ≠ e') (k : w.grownBy w' x.ownBlock) : Own w' b e sz v n xs := by
  refine ⟨h.1, ?_⟩
  rcases h.2 with hn | ⟨j, cap, cur, rfl, hbg, hg, rest⟩
  · exact .inl hn
  · refine .inr ⟨j, cap, cur, rfl, hbg, ?_, rest⟩
    rw [k.block j (Array.getElem?_eq_some_iff.1 hg).1 ?_]
    · exact hg
    · rcases g.2 with ⟨rfl, _⟩ | ⟨j', cap', cur', rfl, _, hg', _⟩
      · simp [Value.ownBlock]
      · simp only [Value.ownBlock, ne_eq, Option.some.injEq]
        rintro rfl
        rw [hg] at hg'
        cases hg'
        exact hT rfl
theorem apL {w : World} {base b : Nat} {x : Value} {us : List BR} {p : BR} {K : Value → World → Prop} (hO : Own w base 22 1 x us.length (us.map (·.v))) (hb : base ≤ w.heap.size) (hB : Blk w b 22 [p.v]) (h1 : oneCellV p.v = true) (hsz : us.length ≤ 1000000)
    (hK : ∀ v' w', Own w' base 22 1 v' (us ++ [p]).length ((us ++ [p]).map (·.v)) → w.grownBy w' x.ownBlock → Below base w w' → K v' w') : vcAppend Tryz.prog 47 x (.slice (some ⟨b, 0, none⟩) 1 1) w K := by
  refine apS (n := us.length) (m := 1) Tryz.underlying47 z22 c22 rfl (by decide) hO hb (SlC.of_blk hB (by decide)) rfl (by simpa using h1) (by omega) (by rw [by22]; omega) (fun v' w' hO' hg => ?_)
  refine hK v' w' ?_ hg (below_of_grown hO hb hg)
  simpa using hO'
theorem apD {w : World} {base : Nat} {x y : Value} {xs ys : List (List UInt8)} {K : Value → World → Prop} (hO : Own w base 28 32 x xs.length (xs.flatMap vbs)) (hb : base ≤ w.heap.size) (hy : DigsAt w y ys) (hsz : xs.length + ys.length ≤ 4000000000)
    (hK : ∀ v' w', Own w' base 28 32 v' (xs ++ ys).length ((xs ++ ys).flatMap vbs) → w.grownBy w' x.ownBlock → Below base w w' → K v' w') : vcAppend Tryz.prog 54 x y w K := by
  refine apS (n := xs.length) (m := ys.length) Tryz.underlying54 z28 c28 rfl (by decide) hO hb hy.2 (dvs_len ys hy.1) (dvs_one ys) (by omega) (by rw [by28]; omega) (fun v' w' hO' hg => ?_)
  refine hK v' w' ?_ hg (below_of_grown hO hb hg)
  simpa using hO'
theorem digs_sub {w : World} {a a' : Option Addr} {n c lo hi : Nat} {ds : List (List UInt8)} (h : DigsAt w (.slice a n c) ds) (h1 : lo ≤ hi) (h2 : hi ≤ ds.length) (hs : ∀ b o, a = some ⟨b, o, none⟩ → ∃ o', a' = some ⟨b, o', none⟩ ∧ ((lo : Int) < c → o' = o + lo * 32)) :
    DigsAt w (.slice a' (hi - lo) (c - lo)) ((ds.drop lo).take (hi - lo)) := by
  obtain ⟨hd, _, _, he, hnc, hcm, hc⟩ := h
  cases he
  have hl : ((ds.drop lo).take (hi - lo)).length = hi - lo := by rw [List.length_take, List.length_drop]; omega
  refine ⟨fun d hm => hd d (List.mem_of_mem_drop (List.mem_of_mem_take hm)), a', c - lo, by rw [hl], by omega, by omega, ?_⟩
  by_cases h0 : hi = lo
  · left
    rw [h0, Nat.sub_self, List.take_zero]
    rfl
  · rcases hc with hc | ⟨b, o, rfl, hc⟩
    · exfalso
      have := dvs_len ds hd
      rw [hc, List.length_nil] at this
      omega
    · obtain ⟨o', rfl, ho⟩ := hs b o rfl
      obtain rfl := ho (by omega)
      refine Or.inr ⟨b, o + lo * 32, rfl, fun j u hj => ?_⟩
      have e : ds.flatMap vbs = (ds.take lo).flatMap vbs ++ (((ds.drop lo).take (hi - lo)).flatMap vbs ++ ((ds.drop lo).drop (hi - lo)).flatMap vbs) := by
        rw [← List.flatMap_append, List.take_append_drop, ← List.flatMap_append, List.take_append_drop]
      have hll : ((ds.take lo).flatMap vbs).length = lo * 32 := by rw [dvs_len _ (fun d hm => hd d (List.mem_of_mem_take hm)), List.length_take, Nat.min_eq_left (by omega)]
      have := mid_get (pre := (ds.take lo).flatMap vbs) (post := ((ds.drop lo).drop (hi - lo)).flatMap vbs) hj
      rw [← e, hll] at this
      rw [Nat.add_assoc]
      exact hc _ _ this

theorem h_min (P : Program) (L : Prop) (S : World → Prop) (J : (World → Prop) → Value → World → Prop) (s : Fm) (w : World) (dst : Option Tmp) (ty : TypeId) (pos : String) (af : Array Edge) (g : Option (Nat × Bool)) (x y : Operand) (ts : Array TypeId) :
    runH P ⟨dst, .call ⟨.builtin .min, #[x, y], ts⟩, ty, pos, af, g⟩ s L S w J = (intV (ev s x) fun k a => intV (ev s y) fun _ b => Told L S w fun S' => J S' (.int k (if b < a then b else a)) w) := propext Iff.rfl
end Go.Proofs.YticfalbgplifoaaGreatDoor
