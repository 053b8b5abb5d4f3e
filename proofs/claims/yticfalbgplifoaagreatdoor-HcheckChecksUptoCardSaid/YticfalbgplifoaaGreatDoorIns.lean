/-
  slices.Clone and slices.Insert of digests. Conditions: as stated in each theorem.
-/
import Derived.Test.YticfalbgplifoaaGreatDoorRng
import Derived.Test.YticfalbgplifoaaGreatDoorRefC
import Derived.Lib.AppendZerosOnto
import Derived.Lib.Overlaps
namespace Go.Proofs.YticfalbgplifoaaGreatDoor
set_option maxRecDepth 100000
open Go Go.RowKit
set_option linter.unusedVariables false
set_option linter.unusedSimpArgs false

theorem dvs_len (ds : List (List UInt8)) (h : ∀ d ∈ ds, d.length = 32) : (ds.flatMap vbs).length = ds.length * 32 := by
  induction ds with
  | nil => rfl
  | cons d ds ih => simp only [List.flatMap_cons, List.length_append, vbs_len, List.length_cons, ih (fun d hd => h d (by simp [hd])), h d (by simp)]; omega
theorem dvs_one (ds : List (List UInt8)) : ∀ v ∈ ds.flatMap vbs, oneCellV v = true := by
  intro v hv
  obtain ⟨d, _, hd⟩ := List.mem_flatMap.1 hv
  exact vbs_one d v hd

theorem CloneD_ok (ds : List (List UInt8)) (v : Value) (w : World) (hv : DigsAt w v ds) (hsz : ds.length ≤ 4000000000) :
    CallK Tryz.prog 54 [v].toArray w fun v' w' => Own w' w.heap.size 28 32 v' ds.length (ds.flatMap vbs) ∧ Ext w w' := by
  have hv' := hv
  obtain ⟨hd, a, c, rfl, hnc, hcm, hc⟩ := hv'
  have hl := dvs_len ds hd
  refine enterT Tryz.func54 rfl Tryz.ntmps54 Tryz.results54 rfl (by decide) ?_
  simp only [↓VD, VP, VT, isAggD, reduceCtorEq, Int.reduceEq, Int.reduceNe, Int.reduceLT, Int.reduceLE, implies_true, Nat.reduceEqDiff, reduceIte, ite_true, ite_false, eq_self, Nat.reduceLT, Nat.reduceLeDiff, Nat.reduceAdd, Nat.reduceMul, Nat.reduceSub, intOf]
  refine ⟨fun ha => ?_, fun ha w1 hN => ?_⟩
  · have : ds = [] := by
      rcases hc with hc | ⟨b, o, rfl, _⟩
      · rw [hc] at hl
        exact List.length_eq_zero_iff.1 (by simp only [List.length_nil] at hl; omega)
      · cases ha
    subst this
    exact ⟨Own.nil _ _ _ _, Ext.rfl' w⟩
  · refine apS (sz := 32) Tryz.underlying54 z28 c28 rfl (by decide) (Own.of_blk (sz := 32) hN.blk (Nat.le_refl _) rfl (by decide)) (by have := hN.size; omega) (hv.2.ext hN.ext) hl (dvs_one ds) (by omega) (by rw [by28]; omega) (fun v' w2 hO hg => ?_)
    simp only [↓VD, VP, VT, isAggD, reduceCtorEq, Int.reduceEq, Int.reduceNe, Int.reduceLT, Int.reduceLE, implies_true, Nat.reduceEqDiff, reduceIte, ite_true, ite_false, eq_self, Nat.reduceLT, Nat.reduceLeDiff, Nat.reduceAdd, Nat.reduceMul, Nat.reduceSub, intOf]
    refine ⟨by simpa using hO, hN.ext.trans ⟨hg.os, hg.tape, hg.output, hg.size, fun k hk => hg.block k (by have := hN.size; omega) ?_⟩⟩
    simp only [Value.ownBlock, ne_eq, Option.some.injEq]
    omega

/-- append(s, make(S, k)...) that grows. -/
theorem apZ {P : Program} {t tn e sz g m c k : Nat} {kq kn : IntKind} {w : World} {z : Value} {xs : List Value} {K : Value → World → Prop} (hu : P.underlying t = some (.slice e)) (hun : P.underlying tn = some (.int kn)) (hz : zeroOf P e = some z) (hsz : P.cellsOf e = sz) (h0 : 0 < sz)
    (hy : ∀ j u, xs[j]? = some u → w.cell? ⟨g, j, none⟩ = some u) (hl : xs.length = m * sz) (hg : c < m + k) (hk : 0 < k) (h63 : m + k ≤ 9223372036854775807) (hby : (m + k) * P.bytesOf e ≤ 140737488355328) (hzc : z.cells.size = sz)
    (hK : ∀ c' zs w', m + k ≤ c' → c' ≤ 9223372036854775807 → zs.length = (c' - m) * sz → NewB w w' e (xs ++ zs) → K (.slice (some ⟨w.heap.size, 0, none⟩) (m + k) c') w') :
    RawApp P [t, tn] [.slice (some ⟨g, 0, none⟩) m c, .int kq k] w K := by
  subst hsz
  obtain ⟨i, hi⟩ := info_of_cells h0
  have his : i.size = P.cellsOf e := (cells_of hi).symm
  have hib : i.bytes = P.bytesOf e := by simp [Program.bytesOf, hi]
  have hiz : i.zero = some z := by simpa [zeroOf, hi] using hz
  have hne : Builtin.nextslicecap (m + k) c * i.bytes ≤ 281474976710656 := growslice_fits hg (by rw [hib]; exact hby)
  have hl' : xs.length = m * i.size := by rw [his]; exact hl
  have hold : (Builtin.firstCells i.size m (.slice (some ⟨g, 0, none⟩) m c)).run P w.drew = .ok xs.toArray w.drew :=
    run_firstCells_some (P := P) w.drew i.size m ⟨g, 0, none⟩ m c xs hl' (fun j u hj => by rw [addr_add, Nat.zero_add]; exact hy j u hj)
  have hr := Lib.run_append_grow_zeros w t tn 0 e i z kq kn hu hun hi hiz (some ⟨g, 0, none⟩) m c xs hold k hk (by omega) hg (by omega) (by rw [hib]; rw [Nat.add_mul] at hby; omega) hne
  refine ⟨⟨_, _, hr, ?_⟩⟩
  have hge := grownCap_ge w (m + k) c e
  have hle := grownCap_le_maxLen w (m + k) c e (by rw [maxLen_eq]; exact h63)
  rw [maxLen_eq] at hle
  have hzl : ∀ n, (Builtin.zeroCells z.cells n).size = n * P.cellsOf e := fun n => by simp [Builtin.zeroCells, hzc]
  refine hK _ ((Builtin.zeroCells z.cells k ++ Builtin.zeroCells z.cells (grownCap w (m + k) c e - (m + k))).toList) _ hge hle ?_ ?_
  · simp only [Array.toList_append, List.length_append, Array.length_toList, hzl]
    rw [← Nat.add_mul]
    congr 1
    omega
  · have h := NewB.alloc w.drew e (xs ++ (Builtin.zeroCells z.cells k ++ Builtin.zeroCells z.cells (grownCap w (m + k) c e - (m + k))).toList)
    rw [show (xs.toArray ++ Builtin.zeroCells z.cells k ++ Builtin.zeroCells z.cells (grownCap w (m + k) c e - (m + k))) = (xs ++ (Builtin.zeroCells z.cells k ++ Builtin.zeroCells z.cells (grownCap w (m + k) c e - (m + k))).toList).toArray from by apply Array.toList_inj.1; simp]
    exact ⟨h.os, h.tape, h.output, h.size, h.blk, h.other⟩
theorem splice_at {pre mid post vs : List Value} {o : Nat} (ho : pre.length = o) (h : vs.length = mid.length) : splice (pre ++ (mid ++ post)) o vs = pre ++ (vs ++ post) := by subst ho; exact splice_seg h
theorem own_mk {w : World} {base e sz n cap g : Nat} {xs rest : List Value} (hB : Blk w g e (xs ++ rest)) (hb : base ≤ g) (hl : xs.length = n * sz) (hr : rest.length = (cap - n) * sz) (hn : n ≤ cap) (hc : cap ≤ 9223372036854775807) : Own w base e sz (.slice (some ⟨g, 0, none⟩) n cap) n xs :=
  ⟨hl, .inr ⟨g, cap, (xs ++ rest).toArray, rfl, hb, hB.out, hn, by rw [maxLen_eq]; exact hc, by
    simp only [List.size_toArray, List.length_append, hl, hr]
    rw [← Nat.add_mul]
    congr 1
    omega, by simp [← hl]⟩⟩
theorem Own.cap_le {w : World} {base e sz n m : Nat} {a : Option Addr} {c : Nat} {xs : List Value} (h : Own w base e sz (.slice a m c) n xs) : n ≤ c ∧ c ≤ 9223372036854775807 := by
  rcases h.2 with ⟨h1, h2⟩ | ⟨g, cap, cur, h1, hbg, hg, hnc, hcm, _⟩
  · cases h1; subst h2; exact ⟨Nat.le_refl _, by omega⟩
  · cases h1; exact ⟨hnc, by simpa [maxLen] using hcm⟩
/-- x among ds at i. -/
def insP (ds : List (List UInt8)) (i : Nat) (x : List UInt8) : List (List UInt8) := ds.take i ++ x :: ds.drop i

theorem Insert_ok (ds : List (List UInt8)) (hd : ∀ d ∈ ds, d.length = 32) (i : Nat) (hi : i ≤ ds.length) (x : List UInt8) (hx : x.length = 32) (v : Value) (base b : Nat) (w : World) (hO : Own w base 28 32 v ds.length (ds.flatMap vbs)) (hbase : base ≤ w.heap.size)
    (hB : Blk w b 28 (vbs x)) (hne : v.ownBlock ≠ some b) (hsz : ds.length ≤ 4000000000) :
    CallK Tryz.prog 55 [v, .int .i64 i, .slice (some ⟨b, 0, none⟩) 1 1].toArray w fun v' w' => Own w' base 28 32 v' (ds.length + 1) ((insP ds i x).flatMap vbs) ∧ Below base w w' := by
  have hl := dvs_len ds hd
  obtain ⟨A, hA⟩ : ∃ A, A = (ds.take i).flatMap vbs := ⟨_, rfl⟩
  obtain ⟨D, hD⟩ : ∃ D, D = (ds.drop i).flatMap vbs := ⟨_, rfl⟩
  have hAl : A.length = i * 32 := by rw [hA, dvs_len _ (fun d h => hd d (List.mem_of_mem_take h)), List.length_take, Nat.min_eq_left hi]
  have hDl : D.length = (ds.length - i) * 32 := by rw [hD, dvs_len _ (fun d h => hd d (List.mem_of_mem_drop h)), List.length_drop]
  have hD1 : ∀ v ∈ D, oneCellV v = true := by rw [hD]; exact dvs_one _
  have hsp : ds.flatMap vbs = A ++ D := by rw [hA, hD, ← List.flatMap_append, List.take_append_drop]
  have hres : (insP ds i x).flatMap vbs = A ++ (vbs x ++ D) := by rw [hA, hD]; simp [insP]
  have h34 : (vbs x).length = 32 := by rw [vbs_len]; exact hx
  have hx1 := vbs_one x
  rw [hres]
  rw [hsp] at hO
  clear hA hD hsp hres hl
  generalize vbs x = X at *
  obtain ⟨a, c, rfl⟩ := own_slice hO
  have hcl := hO.cap_le
  refine enterT Tryz.func55 rfl Tryz.ntmps55 Tryz.results55 rfl (by decide) ?_
  simp only [↓VD, VP, VT, isAggD, reduceCtorEq, Int.reduceEq, Int.reduceNe, Int.reduceLT, Int.reduceLE, implies_true, Nat.reduceEqDiff, reduceIte, ite_true, ite_false, eq_self, Nat.reduceLT, Nat.reduceLeDiff, Nat.reduceAdd, Nat.reduceMul, Nat.reduceSub, intOf, (show IntKind.i64.wrap ((ds.length : Int) + 1) = ((ds.length + 1 : Nat) : Int) from by rw [w64 (by omega) (by omega)] <;> omega)]
  refine ⟨by omega, by omega, by omega, fun a' ha0 ha' => ⟨fun hin => ?_, fun hin => ?_⟩⟩
  · have hin' : i = ds.length := by omega
    subst hin'
    refine apB (sz := 32) Tryz.underlying54 z28 c28 rfl (by decide) hO hbase hB (by omega) hx1 (by omega) (by rw [by28]; omega) (fun v' w' hO' hB' => ?_)
    simp only [↓VD, VP, VT, isAggD, reduceCtorEq, Int.reduceEq, Int.reduceNe, Int.reduceLT, Int.reduceLE, implies_true, Nat.reduceEqDiff, reduceIte, ite_true, ite_false, eq_self, Nat.reduceLT, Nat.reduceLeDiff, Nat.reduceAdd, Nat.reduceMul, Nat.reduceSub, intOf]
    have hD0 : D = [] := List.length_eq_zero_iff.1 (by omega)
    subst hD0
    refine ⟨?_, hB'⟩
    simpa using hO'
  · have hin' : i < ds.length := by omega
    obtain ⟨_, ⟨h0, h0'⟩ | ⟨g, cap, cur, h0, hbg, hg, hnc, hcm, hcs, hct⟩⟩ := hO
    · omega
    cases h0
    obtain ⟨rest, hrest⟩ : ∃ rest, cur.toList = A ++ (D ++ rest) := ⟨cur.toList.drop (ds.length * 32), by rw [← List.append_assoc, ← hct, List.take_append_drop]⟩
    have hG : Blk w g 28 (A ++ (D ++ rest)) := ⟨by rw [← hrest]; simpa using hg⟩
    have hrl : rest.length = (c - ds.length) * 32 := by
      have := congrArg List.length hrest
      rw [List.length_append, List.length_append, Array.length_toList, hcs] at this
      omega
    have hgb : g ≠ b := by simpa [Value.ownBlock] using hne
    have hwi : IntKind.i64.wrap (((ds.length + 1 : Nat) : Int) - (i : Int)) = ((ds.length + 1 - i : Nat) : Int) := by rw [w64 (by omega) (by omega)]; omega
    have hm1 : min 1 (ds.length + 1 - i) = 1 := by omega
    have hm2 : min (ds.length - i) (ds.length - i) = ds.length - i := by omega
    have hm3 : min (ds.length + 1 - i) (ds.length - i) = ds.length - i := by omega
    clear hct hrest hcs hg hne
    refine ⟨fun hgrow => ?_, fun hroom => ?_⟩
    · simp only [↓VD, VP, VT, isAggD, reduceCtorEq, Int.reduceEq, Int.reduceNe, Int.reduceLT, Int.reduceLE, implies_true, Nat.reduceEqDiff, reduceIte, ite_true, ite_false, eq_self, Nat.reduceLT, Nat.reduceLeDiff, Nat.reduceAdd, Nat.reduceMul, Nat.reduceSub, intOf, (show IntKind.i64.wrap ((ds.length : Int) + 1) = ((ds.length + 1 : Nat) : Int) from by rw [w64 (by omega) (by omega)] <;> omega), hwi]
      refine ⟨by omega, by omega, fun a1 ha1 => ?_⟩
      obtain ⟨o1, rfl, ho1⟩ := ha1 g 0 rfl
      obtain rfl : o1 = 0 := by have := ho1 (by omega); simpa using this
      rw [show ((i : Int) - 0).toNat = i from by omega, show ((c : Int) - 0).toNat = c from by omega]
      refine apZ (sz := 32) (xs := A) Tryz.underlying54 Tryz.underlying3 z28 c28 (by decide) (fun j u hj => ?_) hAl (by omega) (by omega) (by omega) (by rw [by28]; omega) rfl (fun c' zs w1 h1 h2 hzs hN => ?_)
      · rw [hG.cell, List.getElem?_append_left (List.getElem?_eq_some_iff.1 hj).1]
        exact hj
      have s1 := hN.size
      obtain ⟨z1, z2, z3, rfl, hz1, hz2⟩ : ∃ z1 z2 z3, zs = z1 ++ (z2 ++ z3) ∧ z1.length = 32 ∧ z2.length = (ds.length - i) * 32 := ⟨zs.take 32, (zs.drop 32).take ((ds.length - i) * 32), (zs.drop 32).drop ((ds.length - i) * 32), by simp only [List.take_append_drop], by rw [List.length_take]; omega, by rw [List.length_take, List.length_drop]; omega⟩
      rw [List.length_append, List.length_append] at hzs
      simp only [↓VD, VP, VT, isAggD, reduceCtorEq, Int.reduceEq, Int.reduceNe, Int.reduceLT, Int.reduceLE, implies_true, Nat.reduceEqDiff, reduceIte, ite_true, ite_false, eq_self, Nat.reduceLT, Nat.reduceLeDiff, Nat.reduceAdd, Nat.reduceMul, Nat.reduceSub, intOf]
      refine ⟨by omega, by omega, by omega, fun a2 ha2 => ?_⟩
      obtain ⟨o2, rfl, ho2⟩ := ha2 w.heap.size 0 rfl
      obtain rfl : o2 = i * 32 := by have := ho2 (by omega); simpa using this
      rw [show (((i + (ds.length + 1 - i) : Nat) : Int) - (i : Int)).toNat = ds.length + 1 - i from by omega, show i + (ds.length + 1 - i) = ds.length + 1 from by omega]
      refine cpS (sz := 32) (m := 1) (cells := X) Tryz.underlying54 c28 (by decide) hN.blk (SlC.of_blk (hB.ext hN.ext) (by decide)) (by omega) hx1 (by simp only [List.length_append]; omega) (fun w2 hP => ?_)
      rw [hm1, Nat.one_mul, List.take_of_length_le (by omega), splice_at hAl (by omega)] at hP
      simp only [↓VD, VP, VT, isAggD, reduceCtorEq, Int.reduceEq, Int.reduceNe, Int.reduceLT, Int.reduceLE, implies_true, Nat.reduceEqDiff, reduceIte, ite_true, ite_false, eq_self, Nat.reduceLT, Nat.reduceLeDiff, Nat.reduceAdd, Nat.reduceMul, Nat.reduceSub, intOf]
      refine drawH (fun _ => True) [0, 1, 2, 3, 4, 5, 6, 7, 8] mixed (by decide +kernel) (fun w3 hE3 hh => ⟨trivial, ?_⟩)
      simp only [↓VD, VP, VT, isAggD, reduceCtorEq, Int.reduceEq, Int.reduceNe, Int.reduceLT, Int.reduceLE, implies_true, Nat.reduceEqDiff, reduceIte, ite_true, ite_false, eq_self, Nat.reduceLT, Nat.reduceLeDiff, Nat.reduceAdd, Nat.reduceMul, Nat.reduceSub, intOf, (show IntKind.i64.wrap ((i : Int) + 1) = ((i + 1 : Nat) : Int) from by rw [w64 (by omega) (by omega)] <;> omega)]
      refine ⟨by omega, by omega, by omega, fun a3 ha3 => ⟨by omega, by omega, by omega, fun a4 ha4 => ?_⟩⟩
      obtain ⟨o3, rfl, ho3⟩ := ha3 w.heap.size 0 rfl
      obtain ⟨o4, rfl, ho4⟩ := ha4 g 0 rfl
      obtain rfl : o4 = i * 32 := by have := ho4 (by omega); simpa using this
      obtain rfl : o3 = (i + 1) * 32 := by have := ho3 (by omega); simpa using this
      rw [show (((ds.length + 1 : Nat) : Int) - ((i + 1 : Nat) : Int)).toNat = ds.length - i from by omega, show ((ds.length : Int) - (i : Int)).toNat = ds.length - i from by omega]
      have hG2 := (hP.keep (hG.ext hN.ext) (by have := hG.lt; omega)).ext hE3
      have hN2 := hP.blk.ext hE3
      rw [← List.append_assoc] at hN2
      refine cpS (sz := 32) (m := ds.length - i) (cells := D) Tryz.underlying54 c28 (by decide) hN2 (SlC.of_part hG2 (by omega) (by omega) (fun j u hj => by rw [← hAl]; exact mid_get hj)) (by omega) hD1 (by simp only [List.length_append]; omega) (fun w4 hP4 => ?_)
      rw [hm2, List.take_of_length_le (by omega), splice_at (by rw [List.length_append]; omega) (by omega)] at hP4
      refine told (fun _ => True) trivial trivial ?_
      simp only [↓VD, VP, VT, isAggD, reduceCtorEq, Int.reduceEq, Int.reduceNe, Int.reduceLT, Int.reduceLE, implies_true, Nat.reduceEqDiff, reduceIte, ite_true, ite_false, eq_self, Nat.reduceLT, Nat.reduceLeDiff, Nat.reduceAdd, Nat.reduceMul, Nat.reduceSub, intOf]
      refine ⟨own_mk (xs := A ++ (X ++ D)) (rest := z3) (by have := hP4.blk; simpa only [List.append_assoc] using this) (by omega) (by simp only [List.length_append]; omega) (by omega) (by omega) (by omega), (hN.ext.mono hbase).trans ((hP.below (by omega)).trans ((hE3.mono (by have := hP.size; omega)).trans (hP4.below (by omega))))⟩
    · simp only [↓VD, VP, VT, isAggD, reduceCtorEq, Int.reduceEq, Int.reduceNe, Int.reduceLT, Int.reduceLE, implies_true, Nat.reduceEqDiff, reduceIte, ite_true, ite_false, eq_self, Nat.reduceLT, Nat.reduceLeDiff, Nat.reduceAdd, Nat.reduceMul, Nat.reduceSub, intOf, (show IntKind.i64.wrap ((ds.length : Int) + 1) = ((ds.length + 1 : Nat) : Int) from by rw [w64 (by omega) (by omega)] <;> omega), (show IntKind.i64.wrap ((i : Int) + 1) = ((i + 1 : Nat) : Int) from by rw [w64 (by omega) (by omega)] <;> omega)]
      refine ⟨by omega, by omega, fun a1 ha1 => ?_⟩
      obtain ⟨o1, rfl, ho1⟩ := ha1 g 0 rfl
      obtain rfl : o1 = 0 := by have := ho1 (by omega); simpa using this
      rw [show (((ds.length + 1 : Nat) : Int) - 0).toNat = ds.length + 1 from by omega, show ((c : Int) - 0).toNat = c from by omega]
      refine ⟨by omega, by omega, by omega, fun a2 _ ha2 => ?_⟩
      obtain ⟨o2, rfl, ho2⟩ := ha2 g 0 rfl
      obtain rfl : o2 = (i + 1) * 32 := by have := ho2 (by omega); simpa using this
      refine ⟨Or.inr ⟨.bool false, w, ?_, ?_⟩⟩
      · rw [run_callFunc_extern (e := Extern.SlicesOverlaps.overlaps #[54, 54] #[4]) Tryz.func84 rfl rfl rfl rfl]
        rw [Lib.run_overlaps_apart w 54 4 28 Tryz.underlying54 32 (fun w => by rw [run_sizeOf_pos (by rw [c28]; decide), c28]) ⟨b, 0, none⟩ ⟨g, (i + 1) * 32, none⟩ 1 1 _ _ (by simpa using fun e => hgb e.symm) 28 28 32 (A ++ (D ++ rest)).length (by simp [World.shape?, hB.out, h34]) (by simp [World.shape?, hG.out]) (by simp only [List.length_append]; omega) (by exact hB.frozen 0) (by exact hB.frozen 32)]
        rfl
      · simp only [↓VD, VP, VT, isAggD, reduceCtorEq, Int.reduceEq, Int.reduceNe, Int.reduceLT, Int.reduceLE, implies_true, Nat.reduceEqDiff, reduceIte, ite_true, ite_false, eq_self, Nat.reduceLT, Nat.reduceLeDiff, Nat.reduceAdd, Nat.reduceMul, Nat.reduceSub, intOf, (show IntKind.i64.wrap ((i : Int) + 1) = ((i + 1 : Nat) : Int) from by rw [w64 (by omega) (by omega)] <;> omega)]
        refine drawH (fun _ => True) [0, 1, 2, 3, 4, 5, 6, 7, 8] mixed (by decide +kernel) (fun w3 hE3 hh => ⟨trivial, ?_⟩)
        simp only [↓VD, VP, VT, isAggD, reduceCtorEq, Int.reduceEq, Int.reduceNe, Int.reduceLT, Int.reduceLE, implies_true, Nat.reduceEqDiff, reduceIte, ite_true, ite_false, eq_self, Nat.reduceLT, Nat.reduceLeDiff, Nat.reduceAdd, Nat.reduceMul, Nat.reduceSub, intOf, (show IntKind.i64.wrap ((i : Int) + 1) = ((i + 1 : Nat) : Int) from by rw [w64 (by omega) (by omega)] <;> omega)]
        refine ⟨by omega, by omega, by omega, fun a3 ha3 => ⟨by omega, by omega, by omega, fun a4 ha4 => ?_⟩⟩
        obtain ⟨o3, rfl, ho3⟩ := ha3 g 0 rfl
        obtain ⟨o4, rfl, ho4⟩ := ha4 g 0 rfl
        obtain rfl : o4 = i * 32 := by have := ho4 (by omega); simpa using this
        obtain rfl : o3 = (i + 1) * 32 := by have := ho3 (by omega); simpa using this
        rw [show (((ds.length + 1 : Nat) : Int) - ((i + 1 : Nat) : Int)).toNat = ds.length - i from by omega, show (((ds.length + 1 : Nat) : Int) - (i : Int)).toNat = ds.length + 1 - i from by omega]
        obtain ⟨d1, d2, hdd, hd1l⟩ : ∃ d1 d2, D = d1 ++ d2 ∧ d1.length = 32 := ⟨D.take 32, D.drop 32, by simp, by rw [List.length_take]; omega⟩
        obtain ⟨r1, r2, hrr, hr1l⟩ : ∃ r1 r2, rest = r1 ++ r2 ∧ r1.length = 32 := ⟨rest.take 32, rest.drop 32, by simp, by rw [List.length_take]; omega⟩
        have hll := congrArg List.length hdd
        have hrl2 := congrArg List.length hrr
        rw [List.length_append] at hll hrl2
        have hG3 := hG.ext hE3
        have hG4 : Blk w3 g 28 ((A ++ d1) ++ ((d2 ++ r1) ++ r2)) := by
          have e : A ++ (D ++ rest) = (A ++ d1) ++ ((d2 ++ r1) ++ r2) := by rw [hdd, hrr]; simp
          rw [← e]
          exact hG3
        refine cpS' (sz := 32) (m := ds.length + 1 - i) (cells := D ++ r1) Tryz.underlying54 c28 (by decide) hG4 (SlC.of_part hG3 (by omega) (by omega) (fun j u hj => ?_)) (by rw [List.length_append]; omega) ?_ (by simp only [List.length_append]; omega) (fun w4 hP4 => ?_)
        · rw [← hAl, hrr, ← List.append_assoc D]
          exact mid_get hj
        · rw [hm3, List.take_left' (by omega)]
          exact hD1
        rw [hm3, List.take_left' (by omega), splice_at (by rw [List.length_append]; omega) (by rw [List.length_append]; omega)] at hP4
        refine told (fun _ => True) trivial trivial ?_
        simp only [↓VD, VP, VT, isAggD, reduceCtorEq, Int.reduceEq, Int.reduceNe, Int.reduceLT, Int.reduceLE, implies_true, Nat.reduceEqDiff, reduceIte, ite_true, ite_false, eq_self, Nat.reduceLT, Nat.reduceLeDiff, Nat.reduceAdd, Nat.reduceMul, Nat.reduceSub, intOf]
        refine ⟨by omega, by omega, by omega, fun a5 ha5 => ?_⟩
        obtain ⟨o5, rfl, ho5⟩ := ha5 g 0 rfl
        obtain rfl : o5 = i * 32 := by have := ho5 (by omega); simpa using this
        rw [show (((ds.length + 1 : Nat) : Int) - (i : Int)).toNat = ds.length + 1 - i from by omega]
        have hB5 := hP4.keep (hB.ext hE3) (by omega)
        have hG5 : Blk w4 g 28 (A ++ (d1 ++ (D ++ r2))) := by
          have := hP4.blk
          simpa only [List.append_assoc] using this
        refine cpS (sz := 32) (m := 1) (cells := X) Tryz.underlying54 c28 (by decide) hG5 (SlC.of_blk hB5 (by decide)) (by omega) hx1 (by simp only [List.length_append]; omega) (fun w6 hP6 => ?_)
        rw [hm1, Nat.one_mul, List.take_of_length_le (by omega), splice_at hAl (by omega)] at hP6
        simp only [↓VD, VP, VT, isAggD, reduceCtorEq, Int.reduceEq, Int.reduceNe, Int.reduceLT, Int.reduceLE, implies_true, Nat.reduceEqDiff, reduceIte, ite_true, ite_false, eq_self, Nat.reduceLT, Nat.reduceLeDiff, Nat.reduceAdd, Nat.reduceMul, Nat.reduceSub, intOf]
        refine ⟨own_mk (xs := A ++ (X ++ D)) (rest := r2) (by have := hP6.blk; simpa only [List.append_assoc] using this) (by omega) (by simp only [List.length_append]; omega) (by omega) (by omega) (by omega), (hE3.mono hbase).trans ((hP4.below (by omega)).trans (hP6.below (by omega)))⟩

end Go.Proofs.YticfalbgplifoaaGreatDoor
