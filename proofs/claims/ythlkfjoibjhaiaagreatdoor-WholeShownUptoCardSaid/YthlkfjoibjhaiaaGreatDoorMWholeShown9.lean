/-
  The walks' own search: one step by simp, loads and spills of blocks that are known, worlds behind worlds; loops and joins with frames told as lists. Conditions: none; plain lemmas.
-/
import Derived.Test.YthlkfjoibjhaiaaGreatDoorMWholeShown7
import Derived.Test.YthlkfjoibjhaiaaGreatDoorMWholeShown8
/-! Go -/
namespace Go.Proofs.YthlkfjoibjhaiaaGreatDoor
set_option maxRecDepth 100000
set_option maxHeartbeats 2000000
open Go Go.RowKit
set_option linter.unusedVariables false
set_option linter.unusedSimpArgs false

/-! ### Loads by a type's kind -/
def ldC (w : World) (b o : Nat) (K : Value → Prop) (_t : Tag K := ⟨⟩) : Prop := ∃ v, w.cell? ⟨b, o, none⟩ = some v ∧ K v
def ldN (w : World) (n b o : Nat) (K : Value → Prop) (_t : Tag K := ⟨⟩) : Prop := ∃ l : List Value, l.length = n ∧ (∀ j v, l[j]? = some v → w.cell? ⟨b, o + j, none⟩ = some v) ∧ K (.agg l.toArray)
def ldD (t : Option Bool) (n : Nat) (w : World) (b o : Nat) (K : Value → Prop) (_t : Tag K := ⟨⟩) : Prop := match t with | some true => ldN w n b o K | some false => ldC w b o K | none => False
theorem w_load (P : Program) (T : TypeId) (w : World) (b o : Nat) (K : Value → Prop) : vcLoad P T w b o K = ldD ((P.underlying T).map isAggD) (P.cellsOf T) w b o K := by
  unfold vcLoad ldD ldN ldC
  rfl
theorem ldD_t (n : Nat) (w : World) (b o : Nat) (K : Value → Prop) : ldD (some true) n w b o K = ldN w n b o K := propext Iff.rfl
theorem ldD_f (n : Nat) (w : World) (b o : Nat) (K : Value → Prop) : ldD (some false) n w b o K = ldC w b o K := propext Iff.rfl

/-! ### Frames told as lists -/
def setF : List (Nat × Value) → Fm → Fm
  | [], s => s
  | (j, v) :: r, s => upd (setF r s) j v
def FrQ (s : Fm) : List (Nat × Value) → Prop
  | [] => True
  | (j, v) :: r => s j = v ∧ FrQ s r
theorem setF_nil (s : Fm) : setF [] s = s := (Eq.refl _).trans (Eq.refl _)
theorem setF_cons (s : Fm) (j : Nat) (v : Value) (r : List (Nat × Value)) : setF ((j, v) :: r) s = upd (setF r s) j v := (Eq.refl _).trans (Eq.refl _)
theorem fq_nil (s : Fm) : FrQ s [] = True := propext Iff.rfl
theorem fq_cons (s : Fm) (j : Nat) (v : Value) (r : List (Nat × Value)) : FrQ s ((j, v) :: r) = (s j = v ∧ FrQ s r) := propext Iff.rfl
theorem setF_same {s : Fm} : ∀ {l : List (Nat × Value)}, FrQ s l → setF l s = s
  | [], _ => rfl
  | (j, v) :: r, h => by
    rw [setF_cons, setF_same h.2]
    funext k
    unfold upd
    split
    · rename_i e; rw [e, h.1]
    · rfl

/-! ### One step of a walk -/
theorem VG : type_of% (And.intro @w_load (And.intro @ldD_t (And.intro @ldD_f (And.intro @setF_nil (And.intro @setF_cons (And.intro @fq_nil (And.intro @fq_cons (And.intro @ifc_eqI (And.intro @ifc_neI (And.intro @ifc_eqN (And.intro @ifc_neN (And.intro @cNil_n @asrV_miss)))))))))))) := And.intro @w_load (And.intro @ldD_t (And.intro @ldD_f (And.intro @setF_nil (And.intro @setF_cons (And.intro @fq_nil (And.intro @fq_cons (And.intro @ifc_eqI (And.intro @ifc_neI (And.intro @ifc_eqN (And.intro @ifc_neN (And.intro @cNil_n @asrV_miss)))))))))))
theorem VI : type_of% (And.intro @o_inv (And.intro @o_dyn (And.intro @h_inv @h_dyn))) := And.intro @o_inv (And.intro @o_dyn (And.intro @h_inv @h_dyn))
set_option maxRecDepth 100000 in
theorem VQ : type_of% (And.intro (@h_nil) (And.intro (@h_cons) (And.intro (@h_two) (And.intro (@h_load) (And.intro (@h_len) (And.intro (@h_store) (And.intro (@h_alloc) (And.intro (@h_box) (And.intro (@h_bld) (And.intro (@h_call) (And.intro (@h_app) (And.intro (@h_copy) (And.intro (@h_make) (And.intro (@h_move) (And.intro (@h_assign) (And.intro (@h_pick) (And.intro (@h_bin) (And.intro (@h_un) (And.intro (@h_conv) (And.intro (@h_nilC) (And.intro (@h_fldA) (And.intro (@h_fld) (And.intro (@h_idxA) (And.intro (@h_idx) (And.intro (@h_sl) (And.intro (@h_ext) (And.intro (@h_mkI) (And.intro (@h_mkF) (And.intro (@h_bv) (And.intro (@p_bv) (And.intro (@o_bv) (And.intro (@q_bv) (And.intro (@h_asr) (And.intro (@v_skip) (And.intro (@v_region) (And.intro (@v_draw) (And.intro (@v_cond) (And.intro (@v_block) (And.intro (@v_loop) (And.intro (@v_exit) (And.intro (@v_ret) (And.intro (@s_normal) (And.intro (@s_exit) (And.intro (@s_ret) (And.intro (@b_normal) (And.intro (@b_exit_eq) (And.intro (@b_exit_ne) (And.intro (@b_ret) (And.intro (@k_normal) (And.intro (@k_hit) (And.intro (@k_miss) (And.intro (@k_ret) (And.intro (@ops_nil) (And.intro (@ops_cons) (And.intro (@ops_grd) (And.intro (@q_nil) (And.intro (@q_cons) (And.intro (@q_grd) (And.intro (@p_move) (And.intro (@o_move) (And.intro (@q_move) (And.intro (@p_assign) (And.intro (@o_assign) (And.intro (@q_assign) (And.intro (@p_pick) (And.intro (@o_pick) (And.intro (@q_pick) (And.intro (@p_bin) (And.intro (@o_bin) (And.intro (@q_bin) (And.intro (@p_un) (And.intro (@o_un) (And.intro (@q_un) (And.intro (@p_conv) (And.intro (@o_conv) (And.intro (@q_conv) (And.intro (@p_nilC) (And.intro (@o_nilC) (And.intro (@q_nilC) (And.intro (@p_fldA) (And.intro (@o_fldA) (And.intro (@q_fldA) (And.intro (@p_fld) (And.intro (@o_fld) (And.intro (@q_fld) (And.intro (@p_idxA) (And.intro (@o_idxA) (And.intro (@q_idxA) (And.intro (@p_idx) (And.intro (@o_idx) (And.intro (@q_idx) (And.intro (@p_sl) (And.intro (@o_sl) (And.intro (@p_sl3) (And.intro (@o_sl3) (And.intro (@q_sl) (And.intro (@p_ext) (And.intro (@o_ext) (And.intro (@q_ext) (And.intro (@p_mkI) (And.intro (@o_mkI) (And.intro (@q_mkI) (And.intro (@p_mkF) (And.intro (@o_mkF) (And.intro (@q_mkF) (And.intro (@p_asr) (And.intro (@o_asr) (And.intro (@q_asr) (And.intro (@o_load) (And.intro (@o_store) (And.intro (@o_alloc) (And.intro (@o_box) (And.intro (@o_bld) (And.intro (@o_call) (And.intro (@o_len) (And.intro (@o_app) (And.intro (@o_cap) (And.intro (@v_rangeFunc) (And.intro (@o_copy) (And.intro (@o_clear) (And.intro (@o_make) (And.intro (@o_min) (And.intro (@o_max) (And.intro (@q_load) (And.intro (@q_call) (And.intro (@q_len) (And.intro (@e_tmp) (And.intro (@e_const) (And.intro (@e_func) (And.intro (@e_glob) (And.intro (@upd_eq) (And.intro (@upd_ne) (And.intro (@uO_some) (@uO_none)))))))))))))))))))))))))))))))))))))))))))))))))))))))))))))))))))))))))))))))))))))))))))))))))))))))))))))))))))))))))))))))))))))) := And.intro (@h_nil) (And.intro (@h_cons) (And.intro (@h_two) (And.intro (@h_load) (And.intro (@h_len) (And.intro (@h_store) (And.intro (@h_alloc) (And.intro (@h_box) (And.intro (@h_bld) (And.intro (@h_call) (And.intro (@h_app) (And.intro (@h_copy) (And.intro (@h_make) (And.intro (@h_move) (And.intro (@h_assign) (And.intro (@h_pick) (And.intro (@h_bin) (And.intro (@h_un) (And.intro (@h_conv) (And.intro (@h_nilC) (And.intro (@h_fldA) (And.intro (@h_fld) (And.intro (@h_idxA) (And.intro (@h_idx) (And.intro (@h_sl) (And.intro (@h_ext) (And.intro (@h_mkI) (And.intro (@h_mkF) (And.intro (@h_bv) (And.intro (@p_bv) (And.intro (@o_bv) (And.intro (@q_bv) (And.intro (@h_asr) (And.intro (@v_skip) (And.intro (@v_region) (And.intro (@v_draw) (And.intro (@v_cond) (And.intro (@v_block) (And.intro (@v_loop) (And.intro (@v_exit) (And.intro (@v_ret) (And.intro (@s_normal) (And.intro (@s_exit) (And.intro (@s_ret) (And.intro (@b_normal) (And.intro (@b_exit_eq) (And.intro (@b_exit_ne) (And.intro (@b_ret) (And.intro (@k_normal) (And.intro (@k_hit) (And.intro (@k_miss) (And.intro (@k_ret) (And.intro (@ops_nil) (And.intro (@ops_cons) (And.intro (@ops_grd) (And.intro (@q_nil) (And.intro (@q_cons) (And.intro (@q_grd) (And.intro (@p_move) (And.intro (@o_move) (And.intro (@q_move) (And.intro (@p_assign) (And.intro (@o_assign) (And.intro (@q_assign) (And.intro (@p_pick) (And.intro (@o_pick) (And.intro (@q_pick) (And.intro (@p_bin) (And.intro (@o_bin) (And.intro (@q_bin) (And.intro (@p_un) (And.intro (@o_un) (And.intro (@q_un) (And.intro (@p_conv) (And.intro (@o_conv) (And.intro (@q_conv) (And.intro (@p_nilC) (And.intro (@o_nilC) (And.intro (@q_nilC) (And.intro (@p_fldA) (And.intro (@o_fldA) (And.intro (@q_fldA) (And.intro (@p_fld) (And.intro (@o_fld) (And.intro (@q_fld) (And.intro (@p_idxA) (And.intro (@o_idxA) (And.intro (@q_idxA) (And.intro (@p_idx) (And.intro (@o_idx) (And.intro (@q_idx) (And.intro (@p_sl) (And.intro (@o_sl) (And.intro (@p_sl3) (And.intro (@o_sl3) (And.intro (@q_sl) (And.intro (@p_ext) (And.intro (@o_ext) (And.intro (@q_ext) (And.intro (@p_mkI) (And.intro (@o_mkI) (And.intro (@q_mkI) (And.intro (@p_mkF) (And.intro (@o_mkF) (And.intro (@q_mkF) (And.intro (@p_asr) (And.intro (@o_asr) (And.intro (@q_asr) (And.intro (@o_load) (And.intro (@o_store) (And.intro (@o_alloc) (And.intro (@o_box) (And.intro (@o_bld) (And.intro (@o_call) (And.intro (@o_len) (And.intro (@o_app) (And.intro (@o_cap) (And.intro (@v_rangeFunc) (And.intro (@o_copy) (And.intro (@o_clear) (And.intro (@o_make) (And.intro (@o_min) (And.intro (@o_max) (And.intro (@q_load) (And.intro (@q_call) (And.intro (@q_len) (And.intro (@e_tmp) (And.intro (@e_const) (And.intro (@e_func) (And.intro (@e_glob) (And.intro (@upd_eq) (And.intro (@upd_ne) (And.intro (@uO_some) (@uO_none)))))))))))))))))))))))))))))))))))))))))))))))))))))))))))))))))))))))))))))))))))))))))))))))))))))))))))))))))))))))))))))))))))))

theorem stp {p q : Prop} (hq : q) (h : p = q := by simp only [↓VD, VP, VT, isAggD, reduceCtorEq, Int.reduceEq, Int.reduceNe, Int.reduceLT, Int.reduceLE, implies_true, Nat.reduceEqDiff, reduceIte, ite_true, ite_false, eq_self, Nat.reduceLT, Nat.reduceLeDiff, Nat.reduceAdd, Nat.reduceMul, Nat.reduceSub, intOf, VG, ↓VI] ; exact rfl) : p := h.mpr hq
theorem stq {p q : Prop} (hq : q) (h : p = q := by simp only [↓VQ, VP, VT, isAggD, reduceCtorEq, Int.reduceEq, Int.reduceNe, Int.reduceLT, Int.reduceLE, implies_true, Nat.reduceEqDiff, reduceIte, ite_true, ite_false, eq_self, Nat.reduceLT, Nat.reduceLeDiff, Nat.reduceAdd, Nat.reduceMul, Nat.reduceSub, intOf, VG, ↓VI] ; exact rfl) : p := h.mpr hq
theorem bnd {p q r : Prop} (h : r) (h1 : p := by omega) (h2 : q := by omega) : p ∧ q ∧ r := ⟨h1, h2, h⟩
theorem bnd1 {p r : Prop} (h : r) (h1 : p := by omega) : p ∧ r := ⟨h1, h⟩

/-! ### Worlds behind worlds -/
theorem Ext.put {a b c : World} {k : Nat} {T : TypeId} {l : List Value} (h : Ext a b) (hp : Put b c k T l) (hk : a.heap.size ≤ k) : Ext a c := h.trans (hp.below hk)
theorem Ext.below {a b c : World} {m : Nat} (h : Ext a b) (e : Below m b c) (hm : a.heap.size ≤ m) : Ext a c := h.trans (e.mono hm)
theorem Ext.go {a b : World} (h : Ext a b := by repeat (first | assumption | exact Ext.rfl' _ | refine Ext.trans' ?_ ‹Ext _ _› | refine Ext.put ?_ ‹Put _ _ _ _ _› (by omega) | refine Ext.below ?_ ‹Below _ _ _› (by omega))) : Ext a b := h
/-- What block b holds in the one world it holds in the other. -/
def Kp (w w' : World) (b : Nat) : Prop := ∀ T l, Blk w b T l → Blk w' b T l
theorem Kp.rfl' (w : World) (b : Nat) : Kp w w b := fun _ _ h => h
theorem Kp.ext {a w w' : World} {b : Nat} (h : Kp a w b) (e : Ext w w') : Kp a w' b := fun T l g => (h T l g).ext e
theorem Kp.put {a w w' : World} {b c : Nat} {U : TypeId} {m : List Value} (h : Kp a w b) (p : Put w w' c U m) (hc : b ≠ c) : Kp a w' b := fun T l g => p.keep (h T l g) hc
theorem Kp.below {a w w' : World} {b m : Nat} (h : Kp a w b) (e : Below m w w') (hb : b < m) : Kp a w' b := fun T l g => (h T l g).below e hb
/-- w' lies behind w, but for block b. -/
structure XB (b : Nat) (w w' : World) : Prop where
  out : ∀ k T l, k ≠ b → Blk w k T l → Blk w' k T l
theorem XB.rfl' (b : Nat) (w : World) : XB b w w := ⟨fun _ _ _ _ h => h⟩
theorem XB.trans {b : Nat} {x y z : World} (h : XB b x y) (k : XB b y z) : XB b x z := ⟨fun i T l hi g => k.out i T l hi (h.out i T l hi g)⟩
theorem XB.ext {b : Nat} {x y z : World} (h : XB b x y) (e : Ext y z) : XB b x z := ⟨fun i T l hi g => (h.out i T l hi g).ext e⟩
theorem XB.put {b : Nat} {x y z : World} {U : TypeId} {m : List Value} (h : XB b x y) (p : Put y z b U m) : XB b x z := ⟨fun i T l hi g => p.keep (h.out i T l hi g) hi⟩
theorem XB.go {b : Nat} {x y : World} (h : XB b x y := by repeat (first | exact XB.rfl' _ _ | refine XB.ext ?_ ‹Ext _ _› | refine XB.put ?_ ‹Put _ _ _ _ _›)) : XB b x y := h
theorem Kp.xb {a w w' : World} {b c : Nat} (h : Kp a w c) (e : XB b w w') (hc : c ≠ b) : Kp a w' c := fun T l g => e.out c T l hc (h T l g)
theorem Blk.go {w w0 : World} {b : Nat} {T : TypeId} {l : List Value} (h : Blk w0 b T l := by assumption) (k : Kp w0 w b := by repeat (first | exact Kp.rfl' _ _ | refine Kp.put ?_ ‹Put _ _ _ _ _› (by omega) | refine Kp.ext ?_ ‹Ext _ _› | refine Kp.below ?_ ‹Below _ _ _› (by omega) | refine Kp.xb ?_ ‹XB _ _ _› (by omega))) : Blk w b T l := k T l h

/-! ### Loads and spills -/
theorem ldCg {w : World} {b o : Nat} {K : Value → Prop} {U : TypeId} {l : List Value} {v : Value} (hK : K v) (hb : Blk w b U l := by exact Blk.go) (hv : l[o]? = some v := by exact rfl) : ldC w b o K := ⟨v, by rw [hb.cell]; exact hv, hK⟩
theorem vbs_tk {l : List UInt8} {n : Nat} (h : l.length = n) : (vbs l).take n = vbs l := List.take_of_length_le (by rw [vbs_len]; omega)
theorem ldNg {w : World} {n b o : Nat} {K : Value → Prop} {U : TypeId} {l m : List Value} (hK : K (.agg m.toArray)) (hb : Blk w b U l := by exact Blk.go)
    (hm : (l.drop o).take n = m := by simp (disch := first | assumption | omega) only [List.drop_zero, List.drop_succ_cons, List.take_zero, List.take_succ_cons, List.cons_append, List.nil_append, vbs_tk, vbs_rep, List.append_nil, List.drop_nil, List.take_nil, Nat.reduceAdd] <;> exact rfl)
    (hl : m.length = n := by first | exact rfl | (simp only [vbs_len, List.length_append, List.length_cons, List.length_nil, List.length_replicate] <;> omega)) : ldN w n b o K :=
  ⟨m, hl, (fun j v hv => by
    rw [hb.cell]
    rw [← hm, List.getElem?_take] at hv
    split at hv
    · rwa [List.getElem?_drop] at hv
    · cases hv), hK⟩
/-- A fresh block that is written whole at once. -/
theorem newS {P : Program} {T U : TypeId} {w : World} {l vs : List Value} {x : Value} {K : World → Prop} (hK : ∀ w', Ext w w' → w'.heap.size = w.heap.size + 1 → Blk w' w.heap.size U vs → K w') (hx : x.cells = vs.toArray := by exact rfl)
    (hl : vs.length = P.cellsOf T ∧ l.length = vs.length ∧ 0 < vs.length := by refine ⟨?_, ?_, ?_⟩ <;> (try simp only [VT, vbs_len, List.length_append, List.length_cons, List.length_nil, List.length_replicate]) <;> omega)
    (h1 : ∀ v ∈ vs, oneCellV v = true := by first | exact vbs_one _ | simp [oneCellV]) : ∀ w1, NewB w w1 U l → vcStore P T w1 w.heap.size 0 x K := fun w1 hN =>
  stAll hN.blk hx (by omega) hl.1 (by omega) h1 (fun w' hP => hK w' (hN.ext.trans (hP.below (Nat.le_refl _))) (by rw [hP.size, hN.size]) hP.blk)
theorem newZ {U : TypeId} {w : World} {l : List Value} {K : World → Prop} (hK : ∀ w', Ext w w' → w'.heap.size = w.heap.size + 1 → Blk w' w.heap.size U l → K w') : ∀ w1, NewB w w1 U l → K w1 := fun w1 hN => hK w1 hN.ext hN.size hN.blk
/-- A known block written whole. -/
theorem stW {P : Program} {T U : TypeId} {w : World} {b : Nat} {l vs : List Value} {x : Value} {K : World → Prop} (hK : ∀ w', Put w w' b U vs → w'.heap.size = w.heap.size → Blk w' b U vs → K w') (hb : Blk w b U l := by exact Blk.go) (hx : x.cells = vs.toArray := by exact rfl)
    (hl : vs.length = P.cellsOf T ∧ l.length = vs.length ∧ 0 < vs.length := by refine ⟨?_, ?_, ?_⟩ <;> (try simp only [VT, vbs_len, List.length_append, List.length_cons, List.length_nil, List.length_replicate]) <;> omega)
    (h1 : ∀ v ∈ vs, oneCellV v = true := by first | exact vbs_one _ | simp [oneCellV]) : vcStore P T w b 0 x K := stAll hb hx (by omega) hl.1 (by omega) h1 (fun w' hP => hK w' hP hP.size hP.blk)
/-- One cell of a known block written. -/
theorem stC {P : Program} {T U : TypeId} {w : World} {b o : Nat} {l m : List Value} {v : Value} {K : World → Prop} (hK : ∀ w', Put w w' b U m → w'.heap.size = w.heap.size → Blk w' b U m → K w') (hb : Blk w b U l := by exact Blk.go)
    (hm : l.set o v = m := by first | (simp only [List.set_cons_zero, List.set_cons_succ, List.cons_append, List.nil_append] <;> exact rfl) | exact rfl) (ho : o < l.length := by simp only [vbs_len, List.length_append, List.length_cons, List.length_nil, List.length_replicate] <;> omega)
    (hv : v.cells = [v].toArray := by exact rfl) (h1 : oneCellV v = true := by exact rfl) (hc : P.cellsOf T = 1 := by simp only [VT]) : vcStore P T w b o v K := stV hc hb hv h1 ho (fun w' hP => by subst hm; exact hK w' hP hP.size hP.blk)

/-! ### Regions that draw and write: what is told is that the world lies behind the one that was reached -/
theorem ldSg {P : Program} {T : TypeId} {w0 : World} {b o : Nat} {K : Value → Prop} {v : Value} (hK : K v) (h : ∀ w', Ext w0 w' → vcLoad P T w' b o (· = v) := by (intro w' hw'; refine stp ?_; first | exact ldCg rfl | exact ldNg rfl)) : loadS P T (Ext w0) b o K := loadS_of v h hK
theorem toldX {L : Prop} {w1 w2 : World} {K : (World → Prop) → Prop} (h : K (Ext w2)) (e : Ext w1 w2 := by exact Ext.go) : Told L (Ext w1) w2 K := ⟨Ext w2, Ext.rfl' _, Or.inl (fun W g => e.trans' g), h⟩
theorem ldSb {P : Program} {T : TypeId} {w0 : World} {c b o : Nat} {K : Value → Prop} {v : Value} (hK : K v) (h : ∀ w', XB c w0 w' → vcLoad P T w' b o (· = v) := by (intro w' hw'; refine stp ?_; first | exact ldCg rfl | exact ldNg rfl)) : loadS P T (XB c w0) b o K := loadS_of v h hK
theorem toldK {L : Prop} {w0 w2 : World} {K : (World → Prop) → Prop} (h : K (Ext w0)) (e : Ext w0 w2 := by exact Ext.go) : Told L (Ext w0) w2 K := ⟨Ext w0, e, Or.inl (fun _ g => g), h⟩
theorem toldZ {L : Prop} {S : World → Prop} {w : World} {K : (World → Prop) → Prop} (h : K (fun _ => True)) (hL : L := by unfold LastP; decide +kernel) : Told L S w K := toldL hL h
theorem drawX {P : Program} {n id : Nat} {ro : Option Nat} {ops : List Oper} {s : Fm} {w : World} {Q : Post} (l : Ord) (hm : P.follows .mixedOrders = true) (hB : orderOk P ops.toArray l = true)
    (h : ∀ w1, Ext w w1 → w.heap.size ≤ w1.heap.size → hT P n (Ext w) ops l s w1 fun s' w' => Q .normal s' w') : DrawVC P n ro id ops.toArray s w Q := drawO (Ext w) l hm hB fun w1 hE _ => ⟨hE, h w1 hE hE.size⟩

def readOp (o : Oper) : Bool :=
  match o.op with
  | .store .. | .alloc .. | .box .. | .buildSlice .. | .makeSlice .. => false
  | .call ⟨.builtin .append, _, _⟩ | .call ⟨.builtin .copy, _, _⟩ => false
  | _ => true
/-- A region that draws its order, and only reads. -/
theorem drawQ {P : Program} {n id : Nat} {l : List Oper} {s : Fm} {w : World} {Q : Post} (h0 : l.all readOp = true) (hm : P.follows .mixedOrders = true) (hB : Region.lexB .any l.toArray = true)
    (h : qT P n l.toArray w l s fun s' => ∀ w', Ext w w' → Q .normal s' w') : DrawVC P n none id l.toArray s w Q := drawT hm hB h

/-- One step of the search. -/
theorem stpR {p q : Prop} (h : p = q := by simp only [↓VD, VP, VT, isAggD, reduceCtorEq, Int.reduceEq, Int.reduceNe, Int.reduceLT, Int.reduceLE, implies_true, Nat.reduceEqDiff, reduceIte, ite_true, ite_false, eq_self, Nat.reduceLT, Nat.reduceLeDiff, Nat.reduceAdd, Nat.reduceMul, Nat.reduceSub, intOf, VG, ↓VI] ; exact rfl) (hq : q) : p := h.mpr hq
theorem bndR {p q r : Prop} (h1 : p := by omega) (h2 : q := by omega) (h : r) : p ∧ q ∧ r := ⟨h1, h2, h⟩
theorem bnd1R {p r : Prop} (h1 : p := by omega) (h : r) : p ∧ r := ⟨h1, h⟩
theorem ldCgR {w : World} {b o : Nat} {K : Value → Prop} {U : TypeId} {l : List Value} {v : Value} (hb : Blk w b U l := by exact Blk.go) (hv : l[o]? = some v := by exact rfl) (hK : K v) : ldC w b o K := ldCg hK hb hv
theorem ldNgR {w : World} {n b o : Nat} {K : Value → Prop} {U : TypeId} {l m : List Value} (hb : Blk w b U l := by exact Blk.go)
    (hm : (l.drop o).take n = m := by simp (disch := first | assumption | omega) only [List.drop_zero, List.drop_succ_cons, List.take_zero, List.take_succ_cons, List.cons_append, List.nil_append, vbs_tk, vbs_rep, List.append_nil, List.drop_nil, List.take_nil, Nat.reduceAdd] <;> exact rfl)
    (hl : m.length = n := by first | exact rfl | (simp only [vbs_len, List.length_append, List.length_cons, List.length_nil, List.length_replicate] <;> omega)) (hK : K (.agg m.toArray)) : ldN w n b o K := ldNg hK hb hm hl
theorem ldSgR {P : Program} {T : TypeId} {w0 : World} {b o : Nat} {K : Value → Prop} {v : Value} (h : ∀ w', Ext w0 w' → vcLoad P T w' b o (· = v) := by (intro w' hw'; refine stp ?_; first | exact ldCg rfl | exact ldNg rfl)) (hK : K v) : loadS P T (Ext w0) b o K := ldSg hK h
theorem ldSbR {P : Program} {T : TypeId} {w0 : World} {c b o : Nat} {K : Value → Prop} {v : Value} (h : ∀ w', XB c w0 w' → vcLoad P T w' b o (· = v) := by (intro w' hw'; refine stp ?_; first | exact ldCg rfl | exact ldNg rfl)) (hK : K v) : loadS P T (XB c w0) b o K := ldSb hK h
theorem stpg {p q : Prop} (hq : q) (h : q → p := by first | exact stpR | exact ldCgR | exact ldNgR | exact ldSgR | exact ldSbR | exact bndR | exact bnd1R | exact drawQ (by decide +kernel) mixed (by decide +kernel)) : p := h hq

/-! ### Rows of elements -/
/-- The elements ds, each laid out by f in so many cells, one behind the other. -/
structure RowA {α : Type} (w : World) (b o sz : Nat) (f : α → List Value) (ds : List α) : Prop where
  len : ∀ d ∈ ds, (f d).length = sz
  cell : ∀ j u, (ds.flatMap f)[j]? = some u → w.cell? ⟨b, o + j, none⟩ = some u
theorem RowA.ext {α : Type} {w w' : World} {b o sz : Nat} {f : α → List Value} {ds : List α} (h : RowA w b o sz f ds) (e : Ext w w') : RowA w' b o sz f ds :=
  ⟨h.len, fun j u hj => by rw [e.cell (block_lt_of_cell (h.cell j u hj))]; exact h.cell j u hj⟩
theorem RowA.go {α : Type} {w w0 : World} {b o sz : Nat} {f : α → List Value} {ds : List α} (h : RowA w0 b o sz f ds := by assumption) (e : Ext w0 w := by exact Ext.go) : RowA w b o sz f ds := h.ext e
theorem SlC.row {α : Type} {w : World} {a : Option Addr} {n c sz : Nat} {f : α → List Value} {ds : List α} (h : SlC w (.slice a n c) ds.length (ds.flatMap f)) (hs : ∀ d ∈ ds, (f d).length = sz) (h0 : 0 < sz) (hd : 0 < ds.length) :
    ∃ b o, a = some ⟨b, o, none⟩ ∧ RowA w b o sz f ds := by
  obtain ⟨a', c', e, _, _, hc⟩ := h
  cases e
  rcases hc with hc | ⟨b, o, rfl, hc⟩
  · exfalso
    cases ds with
    | nil => simp at hd
    | cons d ds =>
      have := hs d (by simp)
      simp only [List.flatMap_cons, List.append_eq_nil_iff] at hc
      rw [hc.1] at this
      simp at this
      omega
  · exact ⟨b, o, rfl, hs, hc⟩
theorem ldRow {α : Type} {f : α → List Value} {w : World} {b o i sz q : Nat} {K : Value → Prop} {ds : List α} {x : α} (hx : ds[i]? = some x) (hK : K (.agg (f x).toArray)) (hR : RowA w b o sz f ds := by exact RowA.go) (hq : q = o + i * sz := by first | exact rfl | omega | simp) : ldN w sz b q K := by
  subst hq
  refine ⟨f x, hR.len x (List.mem_of_getElem? hx), fun j v hv => ?_, hK⟩
  rw [Nat.add_assoc]
  exact hR.cell _ _ (flat_get ds i x hR.len hx j v hv)
theorem ldRowF {α : Type} {f : α → List Value} {w : World} {b o i sz q : Nat} {K : Value → Prop} {ds : List α} {x : α} {v : Value} (j : Nat) (hx : ds[i]? = some x) (hK : K v) (hR : RowA w b o sz f ds := by exact RowA.go) (hv : (f x)[j]? = some v := by exact rfl) (hq : q = o + (i * sz + j) := by first | exact rfl | omega | simp) : ldC w b q K := by
  subst hq
  exact ⟨v, hR.cell _ _ (flat_get ds i x hR.len hx j v hv), hK⟩

/-- Bytes, one behind the other. -/
structure RowB (w : World) (b o : Nat) (xs : List UInt8) : Prop where
  cell : ∀ j, j < xs.length → w.cell? ⟨b, o + j, none⟩ = some (.int .u8 (xs.getD j 0).toNat)
theorem RowB.ext {w w' : World} {b o : Nat} {xs : List UInt8} (h : RowB w b o xs) (e : Ext w w') : RowB w' b o xs := ⟨fun j hj => by rw [e.cell (block_lt_of_cell (h.cell j hj))]; exact h.cell j hj⟩
theorem RowB.go {w w0 : World} {b o : Nat} {xs : List UInt8} (h : RowB w0 b o xs := by assumption) (e : Ext w0 w := by exact Ext.go) : RowB w b o xs := h.ext e
theorem SlC.rowB {w : World} {a : Option Addr} {n c : Nat} {xs : List UInt8} (h : SlC w (.slice a n c) xs.length (vbs xs)) (hd : 0 < xs.length) : ∃ b o, a = some ⟨b, o, none⟩ ∧ RowB w b o xs := by
  obtain ⟨a', c', e, _, _, hc⟩ := h
  cases e
  rcases hc with hc | ⟨b, o, rfl, hc⟩
  · exfalso
    have := congrArg List.length hc
    simp [vbs_len] at this
    rw [this] at hd
    simp at hd
  · exact ⟨b, o, rfl, ⟨fun j hj => hc j _ (vbs_get hj)⟩⟩
theorem ldByte {w : World} {b o i q : Nat} {xs : List UInt8} {K : Value → Prop} (hK : K (.int .u8 (xs.getD i 0).toNat)) (hR : RowB w b o xs := by exact RowB.go) (hq : q = o + i := by first | exact rfl | omega | simp) (hi : i < xs.length := by omega) : ldC w b q K := by
  subst hq
  exact ⟨_, hR.cell i hi, hK⟩
/-- Whole numbers, one behind the other. -/
structure RowI (w : World) (b o : Nat) (xs : List Int) : Prop where
  cell : ∀ j, j < xs.length → w.cell? ⟨b, o + j, none⟩ = some (.int .i64 (xs.getD j 0))
theorem RowI.ext {w w' : World} {b o : Nat} {xs : List Int} (h : RowI w b o xs) (e : Ext w w') : RowI w' b o xs := ⟨fun j hj => by rw [e.cell (block_lt_of_cell (h.cell j hj))]; exact h.cell j hj⟩
theorem RowI.go {w w0 : World} {b o : Nat} {xs : List Int} (h : RowI w0 b o xs := by assumption) (e : Ext w0 w := by exact Ext.go) : RowI w b o xs := h.ext e
/-! ### Loops and joins -/
theorem least {p : Nat → Prop} : ∀ n, p n → ∃ m, p m ∧ ∀ k, p k → m ≤ k := by
  intro n
  induction n using Nat.strongRecOn with
  | _ n ih =>
    intro hn
    by_cases h : ∃ k, k < n ∧ p k
    · obtain ⟨k, hk, hp⟩ := h
      exact ih k hk hp
    · exact ⟨n, hn, fun k hk => Nat.le_of_not_lt fun hl => h ⟨k, hl, hk⟩⟩
open Classical in
noncomputable def leastOf (p : Nat → Prop) : Nat := if h : ∃ m, p m ∧ ∀ k, p k → m ≤ k then Classical.choose h else 0
theorem leastOf_spec {p : Nat → Prop} (h : ∃ n, p n) : p (leastOf p) ∧ ∀ k, p k → leastOf p ≤ k := by
  have h' : ∃ m, p m ∧ ∀ k, p k → m ≤ k := by obtain ⟨n, hn⟩ := h; exact least n hn
  unfold leastOf
  rw [dif_pos h']
  exact Classical.choose_spec h'
section loops
variable {P : Program} {n : Nat} {ro : Option Nat} {body : Code} {s : Fm} {w : World} {Q : Post}
theorem loopX {ι : Type} (F : ι → List (Nat × Value)) (I : ι → World → Prop) (μ : ι → Nat) (x0 : ι) (h0 : I x0 w) (hF : FrQ s (F x0))
    (hr : ∀ x s' w', I x w' → vcT P n ro body (setF (F x) s') w' (seqQ (fun s'' w'' => ∃ y, I y w'' ∧ FrQ s'' (F y) ∧ μ y < μ x) Q)) : LoopVC P n ro body s w Q := by
  refine loopT (fun s' w' => ∃ x, I x w' ∧ FrQ s' (F x)) (fun s' w' => leastOf fun m => ∃ x, I x w' ∧ FrQ s' (F x) ∧ μ x = m) ⟨x0, h0, hF⟩ ?_
  rintro s' w' ⟨x1, k1, k2⟩
  obtain ⟨⟨x, h1, h2, h3⟩, _⟩ := leastOf_spec (p := fun m => ∃ x, I x w' ∧ FrQ s' (F x) ∧ μ x = m) ⟨_, x1, k1, k2, rfl⟩
  have h4 := hr x s' w' h1
  rw [setF_same h2] at h4
  refine vc_m body s' w' _ _ ?_ h4
  intro e s'' w'' h
  cases e
  case normal =>
    obtain ⟨y, g1, g2, g3⟩ := h
    have h5 := (leastOf_spec (p := fun m => ∃ x, I x w'' ∧ FrQ s'' (F x) ∧ μ x = m) ⟨_, y, g1, g2, rfl⟩).2 _ ⟨y, g1, g2, rfl⟩
    refine ⟨⟨y, g1, g2⟩, ?_⟩
    rw [← h3]
    exact Nat.lt_of_le_of_lt h5 g3
  all_goals exact h
theorem joinX {κ : Type} {c : Code} {N : Fm → World → Prop} (G : κ → List (Nat × Value)) (J : κ → World → Prop) (h1 : vcT P n ro c s w (seqQ (fun s' w' => ∃ y, J y w' ∧ FrQ s' (G y)) Q)) (h2 : ∀ y s' w', J y w' → N (setF (G y) s') w') : vcT P n ro c s w (seqQ N Q) :=
  joinT (fun s' w' => ∃ y, J y w' ∧ FrQ s' (G y)) h1 (fun s' w' ⟨y, g1, g2⟩ => by have := h2 y s' w' g1; rwa [setF_same g2] at this)
end loops

end Go.Proofs.YthlkfjoibjhaiaaGreatDoor
