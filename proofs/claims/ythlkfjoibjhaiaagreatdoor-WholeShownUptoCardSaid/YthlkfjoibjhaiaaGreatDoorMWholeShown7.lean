/-
  Bytes, digests and slices as the walks read them. Conditions: none; plain definitions and lemmas.
-/
import Derived.Test.YthlkfjoibjhaiaaGreatDoorMWholeShown6
/-! Dat -/
namespace Go.Proofs.YthlkfjoibjhaiaaGreatDoor
set_option maxRecDepth 100000
set_option maxHeartbeats 2000000
open Go Go.RowKit
set_option linter.unusedVariables false
set_option linter.unusedSimpArgs false

def vb (b : UInt8) : Value := .int .u8 b.toNat
def vbs (l : List UInt8) : List Value := l.map vb
theorem vbs_len (l : List UInt8) : (vbs l).length = l.length := by simp [vbs]
theorem vbs_get {l : List UInt8} {k : Nat} (h : k < l.length) : (vbs l)[k]? = some (.int .u8 (l.getD k 0).toNat) := by
  simp [vbs, vb, h]
theorem vbs_one (l : List UInt8) : ∀ v ∈ vbs l, oneCellV v = true := by
  intro v hv; simp only [vbs, List.mem_map] at hv; obtain ⟨b, _, rfl⟩ := hv; rfl
theorem vbs_ints (l : List UInt8) : vbs l = (l.map fun b => (b.toNat : Int)).map (Value.int .u8) := by simp [vbs, vb]
theorem toNat_inj (a b : UInt8) : ((a.toNat : Int) = b.toNat) ↔ a = b := by
  constructor
  · intro h; exact UInt8.toNat_inj.1 (by omega)
  · rintro rfl; rfl
theorem map_toNat_inj {l m : List UInt8} : (l.map fun b => (b.toNat : Int)) = m.map (fun b => (b.toNat : Int)) ↔ l = m := by
  constructor
  · intro h
    induction l generalizing m with
    | nil => cases m <;> simp_all
    | cons a l ih =>
      cases m with
      | nil => simp at h
      | cons b m => simp only [List.map_cons, List.cons.injEq] at h; rw [(toNat_inj a b).1 h.1, ih h.2]
  · rintro rfl; rfl

/-- '==' on arrays of bytes. -/
theorem eqd_lit (P : Program) (e n : Nat) (l m : List UInt8) (K : Bool → Prop) (he : P.underlying e = some (.int .u8)) (hc : P.cellsOf e = 1) (hl : l.length = n) (hm : m.length = n) (hK : K (decide (l = m))) :
    vcEq P (.array n e) (.agg (vbs l).toArray) (.agg (vbs m).toArray) K := by
  refine ⟨.u8, he, hc, l.map fun b => (b.toNat : Int), m.map fun b => (b.toNat : Int), by rw [vbs_ints], by rw [vbs_ints], by simpa using hl, by simpa using hm, ?_⟩
  rw [show decide ((l.map fun b => (b.toNat : Int)) = m.map fun b => (b.toNat : Int)) = decide (l = m) from by simp only [map_toNat_inj]]
  exact hK

/-! ### Whole numbers that don't wrap -/
theorem w64 {n : Int} (h0 : -9223372036854775808 ≤ n) (h1 : n ≤ 9223372036854775807) : IntKind.i64.wrap n = n := IntWalk.i64_in n ⟨h0, h1⟩
theorem w8 {n : Int} (h0 : 0 ≤ n) (h1 : n ≤ 255) : IntKind.u8.wrap n = n := IntWalk.u8_in n ⟨h0, h1⟩
theorem w16 {n : Int} (h0 : 0 ≤ n) (h1 : n ≤ 65535) : IntKind.u16.wrap n = n := IntWalk.u16_in n ⟨h0, h1⟩
theorem wu64 {n : Int} (h0 : 0 ≤ n) (h1 : n ≤ 18446744073709551615) : IntKind.u64.wrap n = n := IntWalk.u64_in n ⟨h0, h1⟩

/-! ### Loads -/
theorem ld1 {P : Program} {T : TypeId} {w : World} {b o : Nat} {K : Value → Prop} {d : TypeDesc} {v : Value} (hu : P.underlying T = some d) (ha : isAggD d = false) (hc : w.cell? ⟨b, o, none⟩ = some v) (hK : K v) : vcLoad P T w b o K := by
  simp only [vcLoad, hu, Option.map_some, ha]
  exact ⟨v, hc, hK⟩
theorem ldB {P : Program} {T U : TypeId} {w : World} {b o : Nat} {K : Value → Prop} {l : List UInt8} (hu : P.underlying T = some (.int .u8)) (hb : Blk w b U (vbs l)) (ho : o < l.length) (hK : K (.int .u8 (l.getD o 0).toNat)) : vcLoad P T w b o K :=
  ld1 hu rfl (by rw [hb.cell]; exact vbs_get ho) hK
/-- A whole array out of the head of a block of its own. -/
theorem ldA {P : Program} {T U : TypeId} {w : World} {b : Nat} {K : Value → Prop} {l : List Value} {d : TypeDesc} (hu : P.underlying T = some d) (ha : isAggD d = true) (hb : Blk w b U l) (hl : l.length = P.cellsOf T) (hK : K (.agg l.toArray)) : vcLoad P T w b 0 K := by
  simp only [vcLoad, hu, Option.map_some, ha]
  exact ⟨l, hl, fun j v hv => by rw [hb.cell, Nat.zero_add]; exact hv, hK⟩

/-! ### Bits of bytes -/
theorem and15 {n : Int} (h0 : 0 ≤ n) (h1 : n ≤ 255) : ibits .and .u8 n 15 = n % 16 := by
  have h : ∀ k : Fin 256, ibits .and .u8 (k : Nat) 15 = ((k : Nat) : Int) % 16 := by decide +kernel
  have := h ⟨n.toNat, by omega⟩
  simpa [Int.toNat_of_nonneg h0] using this

theorem shrI (x : Int) (k n : Nat) (h : k ≤ n) : x.fdiv (2 ^ min k n) = x / ((2 ^ k : Nat) : Int) := by
  rw [Nat.min_eq_left h, Int.fdiv_eq_ediv_of_nonneg _ (by exact Int.le_of_lt (Int.pow_pos (by decide)))]
  simp

/-! ### Slices -/
/-- v is a slice of n elements whose cells, one behind the other, are these. -/
def SlC (w : World) (v : Value) (n : Nat) (cells : List Value) : Prop :=
  ∃ a c, v = .slice a n c ∧ n ≤ c ∧ c ≤ 9223372036854775807 ∧ (cells = [] ∨ ∃ b o, a = some ⟨b, o, none⟩ ∧ ∀ j u, cells[j]? = some u → w.cell? ⟨b, o + j, none⟩ = some u)
theorem SlC.ext {w w' : World} {v : Value} {n : Nat} {cells : List Value} (h : SlC w v n cells) (e : Ext w w') : SlC w' v n cells := by
  obtain ⟨a, c, rfl, hn, hm, h⟩ := h
  refine ⟨a, c, rfl, hn, hm, ?_⟩
  rcases h with h | ⟨b, o, ha, h⟩
  · exact Or.inl h
  · exact Or.inr ⟨b, o, ha, fun j u hj => by rw [e.cell (block_lt_of_cell (h j u hj))]; exact h j u hj⟩

theorem flat_get {α : Type} {f : α → List Value} {sz : Nat} : ∀ (ds : List α) (i : Nat) (d : α), (∀ d ∈ ds, (f d).length = sz) → ds[i]? = some d → ∀ j u, (f d)[j]? = some u → (ds.flatMap f)[i * sz + j]? = some u
  | [], i, d, _, h, _, _, _ => by simp at h
  | x :: ds, 0, d, hs, h, j, u, hj => by
    simp only [List.getElem?_cons_zero, Option.some.injEq] at h
    subst h
    simp only [List.flatMap_cons, Nat.zero_mul, Nat.zero_add]
    rw [List.getElem?_append_left (List.getElem?_eq_some_iff.1 hj).1]
    exact hj
  | x :: ds, i + 1, d, hs, h, j, u, hj => by
    simp only [List.getElem?_cons_succ] at h
    simp only [List.flatMap_cons]
    have hx : (f x).length = sz := hs x (by simp)
    rw [List.getElem?_append_right (by rw [hx, Nat.add_mul]; omega), hx, show (i + 1) * sz + j - sz = i * sz + j from by rw [Nat.add_mul]; omega]
    exact flat_get ds i d (fun d hd => hs d (by simp [hd])) h j u hj

/-- A whole element of a slice. -/
theorem ldE {α : Type} {f : α → List Value} {P : Program} {T : TypeId} {w : World} {b o i sz : Nat} {K : Value → Prop} {ds : List α} {x : α} {d : TypeDesc} (hsz : P.cellsOf T = sz) (hu : P.underlying T = some d) (ha : isAggD d = true)
    (hs : ∀ d ∈ ds, (f d).length = sz) (hc : ∀ j u, (ds.flatMap f)[j]? = some u → w.cell? ⟨b, o + j, none⟩ = some u) (hi : ds[i]? = some x) (hK : K (.agg (f x).toArray)) : vcLoad P T w b (o + i * sz) K := by
  simp only [vcLoad, hu, Option.map_some, ha]
  refine ⟨f x, (hs x (List.mem_of_getElem? hi)).trans hsz.symm, fun j v hv => ?_, hK⟩
  rw [Nat.add_assoc]
  exact hc _ _ (flat_get ds i x hs hi j v hv)

theorem splice_all {l vs : List Value} (h : vs.length = l.length) : splice l 0 vs = vs := by simp [splice, h]
theorem vbs_rep (n : Nat) : List.replicate n (Value.int .u8 0) = vbs (List.replicate n 0) := by simp [vbs, vb]

/-- Storing all cells of a block. -/
theorem stAll {P : Program} {T : TypeId} {w : World} {b U : Nat} {l vs : List Value} {x : Value} {K : World → Prop} (hb : Blk w b U l) (hx : x.cells = vs.toArray) (hz : 0 < P.cellsOf T) (hl : vs.length = P.cellsOf T) (hll : l.length = P.cellsOf T)
    (h1 : ∀ v ∈ vs, oneCellV v = true) (hK : ∀ w', Put w w' b U vs → K w') : vcStore P T w b 0 x K :=
  ⟨U, l, vs, hb, hx, hz, hl, h1, by omega, fun w' hp => hK w' (by rw [splice_all (hl.trans hll.symm)] at hp; exact hp)⟩

/-- Storing one cell. -/
theorem stV {P : Program} {T U : TypeId} {w : World} {b o : Nat} {l : List Value} {v : Value} {K : World → Prop} (hc : P.cellsOf T = 1) (hb : Blk w b U l) (hv : v.cells = [v].toArray) (h1 : oneCellV v = true) (ho : o < l.length) (hK : ∀ w', Put w w' b U (l.set o v) → K w') : vcStore P T w b o v K := by
  refine ⟨U, l, [v], hb, hv, by omega, by simp [hc], by simpa using h1, by simp; omega, fun w' hp => hK w' ?_⟩
  have : splice l o [v] = l.set o v := by
    rw [splice, List.set_eq_take_append_cons_drop, if_pos ho]
    simp
  rw [this] at hp
  exact hp
theorem set_tail {α : Type} {l : List α} {k n : Nat} {x y : α} (hl : l.length = k) (hn : k < n) : (l ++ List.replicate (n - k) x).set k y = (l ++ [y]) ++ List.replicate (n - (k + 1)) x := by
  subst hl
  rw [List.set_append_right _ _ (Nat.le_refl _), Nat.sub_self, show n - l.length = (n - (l.length + 1)) + 1 from by omega, List.replicate_succ, List.set_cons_zero]
  simp
theorem upto_len {α : Type} {zs h : List α} (k : Nat) (hl : zs.length = h.length) (hk : k ≤ h.length) : (zs.take k ++ h.drop k).length = h.length := by simp; omega
theorem upto_set {α : Type} {zs h : List α} {k : Nat} {d : α} (hl : zs.length = h.length) (hk : k < h.length) : (zs.take k ++ h.drop k).set k (zs.getD k d) = zs.take (k + 1) ++ h.drop (k + 1) := by
  have e1 : (zs.take k).length = k := by simp; omega
  rw [List.set_append_right _ _ (by omega), e1, Nat.sub_self, List.drop_eq_getElem_cons hk, List.set_cons_zero, List.take_succ_eq_append_getElem (by omega), List.getD_eq_getElem?_getD, List.getElem?_eq_getElem (by omega)]
  simp only [Option.getD_some, List.append_assoc, List.cons_append, List.nil_append]
theorem upto_get {α : Type} {zs h : List α} {k : Nat} {d : α} (hl : zs.length = h.length) (hk : k < h.length) : (zs.take k ++ h.drop k).getD k d = h.getD k d := by
  have e1 : (zs.take k).length = k := by simp; omega
  simp only [List.getD_eq_getElem?_getD]
  rw [List.getElem?_append_right (by omega), e1, Nat.sub_self, List.getElem?_drop, Nat.add_zero]
theorem take_all_succ {α : Type} {l : List α} {k : Nat} {x : α} {p : α → Prop} (h : l[k]? = some x) : (∀ d ∈ l.take (k + 1), p d) ↔ (∀ d ∈ l.take k, p d) ∧ p x := by
  obtain ⟨hk, rfl⟩ := List.getElem?_eq_some_iff.1 h
  rw [List.take_succ_eq_append_getElem hk]
  simp only [List.mem_append, List.mem_singleton]
  constructor
  · intro h; exact ⟨fun d hd => h d (Or.inl hd), h _ (Or.inr rfl)⟩
  · rintro ⟨h1, h2⟩ d (hd | rfl)
    · exact h1 d hd
    · exact h2

theorem SlC.of_blk {w : World} {b T n : Nat} {l : List Value} (h : Blk w b T l) (hn : n ≤ 9223372036854775807) : SlC w (.slice (some ⟨b, 0, none⟩) n n) n l :=
  ⟨_, n, rfl, Nat.le_refl _, hn, Or.inr ⟨b, 0, rfl, fun j u hj => by rw [h.cell, Nat.zero_add]; exact hj⟩⟩

/-! ### Slices that the call has built -/
/-- v is a slice of n elements of the call's own (its block lies at base or above), whose cells are these. -/
def Own (w : World) (base : Nat) (e sz : Nat) (v : Value) (n : Nat) (xs : List Value) : Prop := w.ownsRow base e sz v n xs
theorem Own.nil (w : World) (base e sz : Nat) : Own w base e sz (.slice none 0 0) 0 [] := World.ownsRow_nil ..
theorem SlC.of_own {w : World} {base e sz n : Nat} {v : Value} {xs : List Value} (h : Own w base e sz v n xs) : SlC w v n xs := by
  obtain ⟨hl, h⟩ := h
  rcases h with ⟨rfl, rfl⟩ | ⟨g, cap, cur, rfl, hb, hg, hnc, hcm, hsz, htake⟩
  · exact ⟨none, 0, rfl, Nat.le_refl _, by omega, Or.inl (List.length_eq_zero_iff.1 (by simpa using hl))⟩
  · refine ⟨_, cap, rfl, hnc, by simpa [maxLen] using hcm, Or.inr ⟨g, 0, rfl, fun j u hj => ?_⟩⟩
    rw [Nat.zero_add, cell_of_row w g j cur e (0, 0) hg]
    rw [← htake, List.getElem?_take] at hj
    split at hj
    · simpa using hj
    · cases hj
theorem Own.below {w w' : World} {base B e sz n : Nat} {v : Value} {xs : List Value} (h : Own w base e sz v n xs) (hb : Below B w w') (hB : w.heap.size ≤ B) : Own w' base e sz v n xs := by
  refine ⟨h.1, ?_⟩
  rcases h.2 with hn | ⟨g, cap, cur, rfl, hbg, hg, rest⟩
  · exact .inl hn
  · refine .inr ⟨g, cap, cur, rfl, hbg, ?_, rest⟩
    rw [hb.block g (Nat.lt_of_lt_of_le (Array.getElem?_eq_some_iff.1 hg).1 hB)]
    exact hg
theorem Own.ext {w w' : World} {base e sz n : Nat} {v : Value} {xs : List Value} (h : Own w base e sz v n xs) (hb : Ext w w') : Own w' base e sz v n xs := h.below hb (Nat.le_refl _)

/-- Appending the cells of a block to a slice of the call's own. -/
theorem apB {P : Program} {t e sz : Nat} {w : World} {x z : Value} {base n m f b T : Nat} {xs news : List Value} {K : Value → World → Prop} (hu : P.underlying t = some (.slice e)) (hz : zeroOf P e = some z) (hsz : P.cellsOf e = sz) (hzc : z.cells.size = sz) (h0 : 0 < sz)
    (hown : Own w base e sz x n xs) (hbase : base ≤ w.heap.size) (hb : Blk w b T news) (hl : news.length = m * sz) (h1 : ∀ u ∈ news, oneCellV u = true) (h63 : n + m ≤ 9223372036854775807) (hby : (n + m) * P.bytesOf e ≤ 140737488355328)
    (hK : ∀ v' w', Own w' base e sz v' (n + m) (xs ++ news) → Below base w w' → K v' w') : vcAppend P t x (.slice (some ⟨b, 0, none⟩) m f) w K := by
  subst hsz
  simp only [vcAppend, hu]
  refine ⟨z, hz, hzc, h0, Or.inl ⟨base, n, xs, hown, hbase, Or.inr (Or.inl ⟨b, 0, m, f, news, rfl, hl, fun j u hj => ?_, fun u hu => ?_, h63, hby, fun v' w' ho hg _ => hK v' w' ho ?_⟩)⟩⟩
  · rw [hb.cell, Nat.zero_add]; exact hj
  · have := h1 u hu
    cases u <;> simp_all [oneCellV, Value.oneCell']
  · exact ⟨hg.os, hg.tape, hg.output, hg.size, fun k hk => hg.block k (by omega) (fun e => by have := (hown.lt k e.symm).1; omega)⟩

theorem Own.base {w : World} {base base' e sz n : Nat} {v : Value} {xs : List Value} (h : Own w base e sz v n xs) (hb : base' ≤ base) : Own w base' e sz v n xs := by
  refine ⟨h.1, ?_⟩
  rcases h.2 with hn | ⟨g, cap, cur, rfl, hbg, rest⟩
  · exact .inl hn
  · exact .inr ⟨g, cap, cur, rfl, Nat.le_trans hb hbg, rest⟩

def ints (k : IntKind) (l : List Int) : List Value := l.map (.int k)
/-- A slice of whole numbers that the call has built. -/
abbrev OwnI (w : World) (base e : Nat) (v : Value) (l : List Int) : Prop := Own w base e 1 v l.length (ints .i64 l)
/-- A slice of whole numbers. -/
abbrev SlI (w : World) (v : Value) (l : List Int) : Prop := SlC w v l.length (ints .i64 l)
/-! ### make, copy, append of what may be read -/
theorem made_one (z : Value) (n : Nat) : (madeCells #[z] n).toList = List.replicate n z := by
  apply List.ext_getElem?
  intro i
  simp only [madeCells, Array.toList_map, Array.toList_range, List.getElem?_map]
  by_cases h : i < n
  · simp [h, Nat.mod_one]
  · simp [h]
/-- make([]T, l, c), of elements of one cell. -/
theorem mkS {P : Program} {T e : TypeId} {z : Value} {w : World} {kl kc : IntKind} {l c : Nat} {K : Value → World → Prop} (hu : P.underlying T = some (.slice e)) (hz : zeroOf P e = some z) (hz1 : z.cells = #[z]) (hc : P.cellsOf e = 1) (hl : l ≤ c)
    (hb : P.bytesOf e * c ≤ 281474976710656) (h63 : c ≤ 9223372036854775807) (hK : ∀ w', NewB w w' e (List.replicate c z) → K (.slice (some ⟨w.heap.size, 0, none⟩) l c) w') : RawMake P T (.int kl l) (.int kc c) w K := by
  obtain ⟨i, hi, hiz⟩ := Option.bind_eq_some_iff.1 hz
  have e1 : i.size = 1 := by rw [← hc]; exact (cells_of hi).symm
  have e2 : i.bytes = P.bytesOf e := by simp [Program.bytesOf, hi]
  have hr := run_make (P := P) w T e i z hu hi hiz kl kc l c (by omega) (by omega) (by rw [e2]; have : ((P.bytesOf e * c : Nat) : Int) ≤ 281474976710656 := by omega
                                                                                       rwa [Int.natCast_mul] at this) (by omega)
  refine ⟨⟨_, _, hr, ?_⟩⟩
  simp only [Int.toNat_natCast, e1, Nat.mul_one, hz1]
  refine hK _ ?_
  have := NewB.alloc w e (madeCells #[z] c).toList
  rwa [made_one, ← made_one z c, Array.toArray_toList, made_one] at this

/-- copy(dst, src): dst lies in a block that is known whole. -/
theorem cpS' {P : Program} {dT sT e T : TypeId} {w : World} {g o dl dc m sz : Nat} {y : Value} {l cells : List Value} {K : Value → World → Prop} (hu : P.underlying dT = some (.slice e)) (hsz : P.cellsOf e = sz) (h0 : 0 < sz) (hb : Blk w g T l)
    (hy : SlC w y m cells) (hm : cells.length = m * sz) (h1 : ∀ v ∈ cells.take (min m dl * sz), oneCellV v = true) (hfit : o + min m dl * sz ≤ l.length)
    (hK : ∀ w', Put w w' g T (splice l o (cells.take (min m dl * sz))) → K (.int .i64 (min m dl : Nat)) w') : RawCopy P [dT, sT] [.slice (some ⟨g, o, none⟩) dl dc, y] w K := by
  obtain ⟨a, c, rfl, hnc, hcm, hc⟩ := hy
  have hlen : (cells.take (min m dl * sz)).length = min m dl * sz := by
    rw [List.length_take, hm]; exact Nat.min_eq_left (Nat.mul_le_mul_right _ (Nat.min_le_left _ _))
  obtain ⟨w', hr, hp⟩ := storeCells_of (P := P) (b := g) (o := o) (U := T) (cells.take (min m dl * sz)) 0 l w hb h1 (by rw [hlen]; omega)
  refine ⟨⟨.int .i64 (min m dl : Nat), w', ?_, hK w' hp⟩⟩
  obtain ⟨i, hi⟩ := info_of_cells (P := P) (T := e) (by omega)
  rcases hc with hc | ⟨b, o', rfl, hc⟩
  · subst hc
    have hm0 : m = 0 := by
      have : 0 = m * sz := by simpa using hm
      rcases Nat.eq_zero_or_pos m with h | h
      · exact h
      · have := Nat.mul_pos h h0; omega
    subst hm0
    cases a with
    | none => simp [Builtin.copy_, run_underlying hu, Builtin.lenOf, Builtin.firstCells, run_sizeOf_pos (P := P) (T := e) (by omega), goInt] at hr ⊢; rw [hr]; rfl
    | some a =>
      have hl := run_loadCells_list (P := P) w a [] (fun j v hj => by simp at hj)
      simp only [List.length_nil] at hl
      simp [Builtin.copy_, run_underlying hu, Builtin.lenOf, Builtin.firstCells, run_sizeOf_pos (P := P) (T := e) (by omega), goInt, hl] at hr ⊢; rw [hr]; rfl
  · have hl := run_loadCells_list (P := P) w ⟨b, o', none⟩ (cells.take (min m dl * sz)) (fun j v hj => by
      rw [addr_add]
      refine hc j v ?_
      rw [List.getElem?_take] at hj
      split at hj
      · exact hj
      · cases hj)
    rw [hlen] at hl
    have hmn : Nat.min m dl = min m dl := rfl
    simp [Builtin.copy_, run_underlying hu, Builtin.lenOf, Builtin.firstCells, run_sizeOf_pos (P := P) (T := e) (by omega), goInt, hsz, hmn, hl, hr]
theorem cpS {P : Program} {dT sT e T : TypeId} {w : World} {g o dl dc m sz : Nat} {y : Value} {l cells : List Value} {K : Value → World → Prop} (hu : P.underlying dT = some (.slice e)) (hsz : P.cellsOf e = sz) (h0 : 0 < sz) (hb : Blk w g T l)
    (hy : SlC w y m cells) (hm : cells.length = m * sz) (h1 : ∀ v ∈ cells, oneCellV v = true) (hfit : o + min m dl * sz ≤ l.length)
    (hK : ∀ w', Put w w' g T (splice l o (cells.take (min m dl * sz))) → K (.int .i64 (min m dl : Nat)) w') : RawCopy P [dT, sT] [.slice (some ⟨g, o, none⟩) dl dc, y] w K :=
  cpS' hu hsz h0 hb hy hm (fun v hv => h1 v (List.mem_of_mem_take hv)) hfit hK

/-- Appending what may be read to a slice of the call's own. -/
theorem apSo {P : Program} {t e sz : Nat} {w : World} {x y z : Value} {base n m : Nat} {xs news : List Value} {K : Value → World → Prop} (hu : P.underlying t = some (.slice e)) (hz : zeroOf P e = some z) (hsz : P.cellsOf e = sz) (hzc : z.cells.size = sz) (h0 : 0 < sz)
    (hown : Own w base e sz x n xs) (hbase : base ≤ w.heap.size) (hy : SlC w y m news) (hl : news.length = m * sz) (h1 : ∀ u ∈ news, oneCellV u = true) (h63 : n + m ≤ 9223372036854775807) (hby : (n + m) * P.bytesOf e ≤ 140737488355328)
    (hK : ∀ v' w', Own w' base e sz v' (n + m) (xs ++ news) → w.grownBy w' x.ownBlock → (v'.ownBlock = x.ownBlock ∨ v'.ownBlock = some w.heap.size) → K v' w') : vcAppend P t x y w K := by
  subst hsz
  obtain ⟨a, c, rfl, hnc, hcm, hc⟩ := hy
  simp only [vcAppend, hu]
  refine ⟨z, hz, hzc, h0, Or.inl ⟨base, n, xs, hown, hbase, ?_⟩⟩
  have g1 : ∀ u ∈ news, u.oneCell' = true := fun u hu => by
    have := h1 u hu
    cases u <;> simp_all [oneCellV, Value.oneCell']
  have hnil : news = [] → m = 0 := fun h => by
    subst h
    have : 0 = m * P.cellsOf e := by simpa using hl
    rcases Nat.eq_zero_or_pos m with h | h
    · exact h
    · have := Nat.mul_pos h h0; omega
  rcases hc with hc | ⟨b, o, rfl, hc⟩
  · have hm0 := hnil hc
    subst hm0 hc
    refine Or.inl ⟨⟨a, c, rfl⟩, ?_⟩
    exact hK x w (by simpa using hown) ⟨rfl, rfl, rfl, Nat.le_refl _, fun _ _ _ => rfl⟩ (Or.inl rfl)
  · exact Or.inr (Or.inl ⟨b, o, m, c, news, rfl, hl, hc, g1, h63, hby, hK⟩)
theorem apS {P : Program} {t e sz : Nat} {w : World} {x y z : Value} {base n m : Nat} {xs news : List Value} {K : Value → World → Prop} (hu : P.underlying t = some (.slice e)) (hz : zeroOf P e = some z) (hsz : P.cellsOf e = sz) (hzc : z.cells.size = sz) (h0 : 0 < sz)
    (hown : Own w base e sz x n xs) (hbase : base ≤ w.heap.size) (hy : SlC w y m news) (hl : news.length = m * sz) (h1 : ∀ u ∈ news, oneCellV u = true) (h63 : n + m ≤ 9223372036854775807) (hby : (n + m) * P.bytesOf e ≤ 140737488355328)
    (hK : ∀ v' w', Own w' base e sz v' (n + m) (xs ++ news) → w.grownBy w' x.ownBlock → K v' w') : vcAppend P t x y w K := apSo hu hz hsz hzc h0 hown hbase hy hl h1 h63 hby (fun v' w' a b _ => hK v' w' a b)

/-- Appending what may be read to a slice that has room for it: written in place. -/
theorem apSp {P : Program} {t e sz : Nat} {w : World} {y z : Value} {base n m g cap : Nat} {xs news : List Value} {K : Value → World → Prop} (hu : P.underlying t = some (.slice e)) (hz : zeroOf P e = some z) (hsz : P.cellsOf e = sz) (hzc : z.cells.size = sz) (h0 : 0 < sz)
    (hown : Own w base e sz (.slice (some ⟨g, 0, none⟩) n cap) n xs) (hbase : base ≤ w.heap.size) (hy : SlC w y m news) (hl : news.length = m * sz) (h1 : ∀ u ∈ news, oneCellV u = true) (hroom : n + m ≤ cap)
    (hK : ∀ w', Own w' base e sz (.slice (some ⟨g, 0, none⟩) (n + m) cap) (n + m) (xs ++ news) → w.grownBy w' (some g) → K (.slice (some ⟨g, 0, none⟩) (n + m) cap) w') : vcAppend P t (.slice (some ⟨g, 0, none⟩) n cap) y w K := by
  subst hsz
  obtain ⟨a, c, rfl, hnc, hcm, hc⟩ := hy
  simp only [vcAppend, hu]
  refine ⟨z, hz, hzc, h0, Or.inl ⟨base, n, xs, hown, hbase, ?_⟩⟩
  have g1 : ∀ u ∈ news, u.oneCell' = true := fun u hu => by
    have := h1 u hu
    cases u <;> simp_all [oneCellV, Value.oneCell']
  have hnil : news = [] → m = 0 := fun h => by
    subst h
    have : 0 = m * P.cellsOf e := by simpa using hl
    rcases Nat.eq_zero_or_pos m with h | h
    · exact h
    · have := Nat.mul_pos h h0; omega
  rcases hc with hc | ⟨b, o, rfl, hc⟩
  · have hm0 := hnil hc
    subst hm0 hc
    refine Or.inl ⟨⟨a, c, rfl⟩, ?_⟩
    exact hK w (by simpa using hown) ⟨rfl, rfl, rfl, Nat.le_refl _, fun _ _ _ => rfl⟩
  · exact Or.inr (Or.inr (Or.inl ⟨g, cap, b, o, m, c, news, rfl, rfl, hl, hc, g1, hroom, hK⟩))
/-- clear(s), s a part of a block that is known whole: zeros stand there. -/
theorem clS {P : Program} {t e T : TypeId} {w : World} {g o n c sz : Nat} {z : Value} {l : List Value} {K : Value → World → Prop} (hu : P.underlying t = some (.slice e)) (hz : zeroOf P e = some z) (hsz : z.cells.size = sz) (hn : 0 < n)
    (h1 : ∀ v ∈ (Builtin.zeroCells z.cells n).toList, oneCellV v = true) (hb : Blk w g T l) (hl : (Builtin.zeroCells z.cells n).toList.length = n * sz) (hfit : o + n * sz ≤ l.length)
    (hK : ∀ w', Put w w' g T (splice l o (Builtin.zeroCells z.cells n).toList) → K (.tuple #[]) w') : RawClear P [t] [.slice (some ⟨g, o, none⟩) n c] w K := by
  obtain ⟨w', hr, hp⟩ := storeCells_of (P := P) (b := g) (o := o) (U := T) (Builtin.zeroCells z.cells n).toList 0 l w hb h1 (by rw [hl]; omega)
  refine ⟨⟨.tuple #[], w', ?_, hK w' hp⟩⟩
  obtain ⟨i, hi, hiz⟩ := Option.bind_eq_some_iff.1 hz
  obtain ⟨k, rfl⟩ : ∃ k, n = k + 1 := ⟨n - 1, by omega⟩
  have hzv : (zeroValue e).run P w = .ok z w := by simp [zeroValue, typeInfo, hi, hiz]
  simp [Builtin.clear_, run_underlying hu, hzv] at hr ⊢
  simp [hr]
theorem wr8 (m : Nat) : IntKind.u8.wrap (m : Int) = ((UInt8.ofNat m).toNat : Int) := by
  rw [IntKind.wrap_u8]; simp
theorem wr64 (m : Nat) : IntKind.u64.wrap (m : Int) = ((m % 18446744073709551616 : Nat) : Int) := by
  rw [IntKind.wrap_u64]; simp
theorem tmodN (m n : Nat) : (m : Int).tmod (n : Int) = ((m % n : Nat) : Int) := by rw [Int.tmod_eq_emod_of_nonneg (by omega)]; simp
theorem fdivN (m k n : Nat) (h : k ≤ n) : (m : Int).fdiv (2 ^ min k n) = ((m / 2 ^ k : Nat) : Int) := by rw [shrI _ _ _ h]; simp

/-! ### Parts of a block -/
theorem mid_get {α : Type} {pre mid post : List α} {j : Nat} {v : α} (h : mid[j]? = some v) : (pre ++ (mid ++ post))[pre.length + j]? = some v := by
  rw [List.getElem?_append_right (by omega), Nat.add_sub_cancel_left, List.getElem?_append_left (List.getElem?_eq_some_iff.1 h).1]
  exact h
/-- A whole part of a block. -/
theorem ldSeg {P : Program} {T U : TypeId} {w : World} {b o : Nat} {K : Value → Prop} {pre mid post : List Value} {d : TypeDesc} (hu : P.underlying T = some d) (ha : isAggD d = true) (hb : Blk w b U (pre ++ (mid ++ post))) (ho : pre.length = o) (hl : mid.length = P.cellsOf T) (hK : K (.agg mid.toArray)) : vcLoad P T w b o K := by
  simp only [vcLoad, hu, Option.map_some, ha]
  exact ⟨mid, hl, fun j v hv => by rw [hb.cell, ← ho]; exact mid_get hv, hK⟩
/-- One cell of a block. -/
theorem ldAt {P : Program} {T U : TypeId} {w : World} {b o : Nat} {K : Value → Prop} {pre post : List Value} {v : Value} {d : TypeDesc} (hu : P.underlying T = some d) (ha : isAggD d = false) (hb : Blk w b U (pre ++ (v :: post))) (ho : pre.length = o) (hK : K v) : vcLoad P T w b o K :=
  ld1 hu ha (by rw [hb.cell, ← ho, List.getElem?_append_right (Nat.le_refl _), Nat.sub_self]; rfl) hK
theorem splice_seg {pre mid post vs : List Value} (h : vs.length = mid.length) : splice (pre ++ (mid ++ post)) pre.length vs = pre ++ (vs ++ post) := by
  simp only [splice, h]
  rw [List.take_append_of_le_length (Nat.le_refl _), List.take_length, List.drop_append, List.drop_eq_nil_of_le (by omega), Nat.add_sub_cancel_left, List.drop_append, List.drop_length]
  simp
/-- Storing a whole part of a block. -/
theorem stSeg {P : Program} {T U : TypeId} {w : World} {b o : Nat} {pre mid post vs : List Value} {x : Value} {K : World → Prop} (hb : Blk w b U (pre ++ (mid ++ post))) (ho : pre.length = o) (hx : x.cells = vs.toArray) (hz : 0 < P.cellsOf T) (hl : vs.length = P.cellsOf T) (hm : mid.length = vs.length)
    (h1 : ∀ v ∈ vs, oneCellV v = true) (hK : ∀ w', Put w w' b U (pre ++ (vs ++ post)) → K w') : vcStore P T w b o x K := by
  subst ho
  exact ⟨U, _, vs, hb, hx, hz, hl, h1, by simp; omega, fun w' hp => hK w' (by rw [splice_seg hm.symm] at hp; exact hp)⟩
/-- Storing one cell of a block. -/
theorem stAt {P : Program} {T U : TypeId} {w : World} {b o : Nat} {pre post : List Value} {u v : Value} {K : World → Prop} (hc : P.cellsOf T = 1) (hb : Blk w b U (pre ++ (u :: post))) (ho : pre.length = o) (hv : v.cells = [v].toArray) (h1 : oneCellV v = true) (hK : ∀ w', Put w w' b U (pre ++ (v :: post)) → K w') : vcStore P T w b o v K :=
  stSeg (mid := [u]) (vs := [v]) (post := post) hb ho hv (by omega) (by simp [hc]) rfl (by simpa using h1) hK

/-! ### A slice whose cells do not lie in block b -/
def SlN (w : World) (v : Value) (n : Nat) (cells : List Value) (b : Nat) : Prop :=
  ∃ a c, v = .slice a n c ∧ n ≤ c ∧ c ≤ 9223372036854775807 ∧ (cells = [] ∨ ∃ k o, a = some ⟨k, o, none⟩ ∧ k ≠ b ∧ ∀ j u, cells[j]? = some u → w.cell? ⟨k, o + j, none⟩ = some u)
theorem SlN.sl {w : World} {v : Value} {n b : Nat} {cells : List Value} (h : SlN w v n cells b) : SlC w v n cells := by
  obtain ⟨a, c, rfl, hn, hm, h⟩ := h
  refine ⟨a, c, rfl, hn, hm, h.imp id ?_⟩
  rintro ⟨k, o, rfl, _, h⟩
  exact ⟨k, o, rfl, h⟩
theorem SlN.ext {w w' : World} {v : Value} {n b : Nat} {cells : List Value} (h : SlN w v n cells b) (e : Ext w w') : SlN w' v n cells b := by
  obtain ⟨a, c, rfl, hn, hm, h⟩ := h
  refine ⟨a, c, rfl, hn, hm, h.imp id ?_⟩
  rintro ⟨k, o, rfl, hk, h⟩
  exact ⟨k, o, rfl, hk, fun j u hj => by rw [e.cell (block_lt_of_cell (h j u hj))]; exact h j u hj⟩
theorem Put.cell {w w' : World} {b : Nat} {T : TypeId} {l : List Value} (h : Put w w' b T l) {k o : Nat} (hk : k ≠ b) : w'.cell? ⟨k, o, none⟩ = w.cell? ⟨k, o, none⟩ := by
  simp only [World.cell?, h.other k hk]
theorem SlN.put {w w' : World} {v : Value} {n b T : Nat} {cells l : List Value} (h : SlN w v n cells b) (e : Put w w' b T l) : SlN w' v n cells b := by
  obtain ⟨a, c, rfl, hn, hm, h⟩ := h
  refine ⟨a, c, rfl, hn, hm, h.imp id ?_⟩
  rintro ⟨k, o, rfl, hk, h⟩
  exact ⟨k, o, rfl, hk, fun j u hj => by rw [e.cell hk]; exact h j u hj⟩
theorem SlN.of {w0 w : World} {v : Value} {n b : Nat} {cells : List Value} (h : SlC w0 v n cells) (e : Ext w0 w) (hb : w0.heap.size ≤ b) : SlN w v n cells b := by
  obtain ⟨a, c, rfl, hn, hm, h⟩ := h
  refine ⟨a, c, rfl, hn, hm, ?_⟩
  rcases h with h | ⟨k, o, rfl, h⟩
  · exact Or.inl h
  · rcases Nat.eq_zero_or_pos cells.length with h0 | h0
    · exact Or.inl (List.length_eq_zero_iff.1 h0)
    · refine Or.inr ⟨k, o, rfl, ?_, fun j u hj => by rw [e.cell (block_lt_of_cell (h j u hj))]; exact h j u hj⟩
      have := block_lt_of_cell (h 0 _ (List.getElem?_eq_getElem h0))
      simp only at this
      omega
theorem SlN.of_blk {w : World} {k T n b : Nat} {l : List Value} (h : Blk w k T l) (hn : n ≤ 9223372036854775807) (hk : k ≠ b) : SlN w (.slice (some ⟨k, 0, none⟩) n n) n l b :=
  ⟨_, n, rfl, Nat.le_refl _, hn, Or.inr ⟨k, 0, rfl, hk, fun j u hj => by rw [h.cell, Nat.zero_add]; exact hj⟩⟩

end Go.Proofs.YthlkfjoibjhaiaaGreatDoor
