/-
  SHA-256 on lists, as the program and the reference both compute it, and what whole numbers of 32 bits do. Conditions: none; plain definitions and lemmas. The walks of the hash (package sha), first part: turning words, the first words, padding. Conditions: as stated in each theorem. The walk of one block's compression (package sha). Conditions: as stated in the theorem. The walks of the hash (package sha), second part: padding, a new hash, its beginning. Conditions: as stated in each theorem. The walks of the hash (package sha), third part: bytes go in; the sum. Conditions: as stated in each theorem. The walks of the hash (package sha), fourth part: the sum. Conditions: as stated in each theorem. The walks of the reference's hash (package notaryref02), first part: the words of a block. Conditions: as stated in each theorem. The walks of the reference's hash (package notaryref02), second part: one block's compression. Conditions: as stated in each theorem. The walks of the writer (package wire). Conditions: as stated in each theorem. The walks of the reference's hash (package notaryref02), third part: padding, the sum. Conditions: as stated in each theorem. The walks of package digest, first part: widths, forms, sums. Conditions: as stated in each theorem. Walks of layer 13 (nibble): bitmaps. Conditions: as stated in each theorem. The walks of package digest, second part: sums of parts, keys, buckets, branches. Conditions: as stated in each theorem. The walks of the reference's lists and digests (packages notaryref01, notaryref03). Conditions: as stated in each theorem. The walks of package digest, third part: branches. Conditions: as stated in each theorem.
-/
import Derived.Test.YthlkfjoibjhaiaaGreatDoorMWholeShown7
/-! Sha -/
namespace Go.Proofs.YthlkfjoibjhaiaaGreatDoor
set_option maxRecDepth 100000
set_option maxHeartbeats 2000000
open Go Go.RowKit
set_option linter.unusedVariables false
set_option linter.unusedSimpArgs false

abbrev W32 := BitVec 32
def vw (x : W32) : Value := .int .u32 x.toNat
def vws (l : List W32) : List Value := l.map vw
theorem vws_len (l : List W32) : (vws l).length = l.length := by simp [vws]
theorem vws_one (l : List W32) : ∀ v ∈ vws l, oneCellV v = true := by
  intro v hv; simp only [vws, List.mem_map] at hv; obtain ⟨b, _, rfl⟩ := hv; rfl
theorem vws_get {l : List W32} {k : Nat} (h : k < l.length) : (vws l)[k]? = some (vw (l.getD k 0)) := by simp [vws, h]

theorem vws_set (l : List W32) (k : Nat) (y : W32) : (vws l).set k (.int .u32 y.toNat) = vws (l.set k y) := by simp [vws, List.map_set, vw]
theorem vws_rep (n : Nat) : List.replicate n (Value.int .u32 0) = vws (List.replicate n 0) := by simp [vws, vw]
/-- A word of a block of words. -/
theorem ldW {P : Program} {T U : TypeId} {w : World} {b o : Nat} {K : Value → Prop} {l : List W32} (hu : P.underlying T = some (.int .u32)) (hb : Blk w b U (vws l)) (ho : o < l.length) (hK : K (.int .u32 (l.getD o 0).toNat)) : vcLoad P T w b o K :=
  ld1 hu rfl (by rw [hb.cell]; exact vws_get ho) hK
theorem wr32 (n : Nat) : IntKind.u32.wrap (n : Int) = ((BitVec.ofNat 32 n).toNat : Int) := by rw [IntKind.wrap_u32']; simp
theorem bxor (a b : W32) : ibits .xor .u32 (a.toNat : Int) (b.toNat : Int) = ((a ^^^ b).toNat : Int) := by
  show IntKind.u32.wrap (((BitVec.ofInt 32 (a.toNat : Int)) ^^^ (BitVec.ofInt 32 (b.toNat : Int))).toNat : Int) = _
  rw [wr32]; simp
theorem band (a b : W32) : ibits .and .u32 (a.toNat : Int) (b.toNat : Int) = ((a &&& b).toNat : Int) := by
  show IntKind.u32.wrap (((BitVec.ofInt 32 (a.toNat : Int)) &&& (BitVec.ofInt 32 (b.toNat : Int))).toNat : Int) = _
  rw [wr32]; simp
theorem bor (a b : W32) : ibits .or .u32 (a.toNat : Int) (b.toNat : Int) = ((a ||| b).toNat : Int) := by
  show IntKind.u32.wrap (((BitVec.ofInt 32 (a.toNat : Int)) ||| (BitVec.ofInt 32 (b.toNat : Int))).toNat : Int) = _
  rw [wr32]; simp
theorem bnot (a : W32) : ibits .xor .u32 (if IntKind.u32.signed = true then -1 else IntKind.u32.max) (a.toNat : Int) = ((~~~a).toNat : Int) := by
  show IntKind.u32.wrap (((BitVec.ofInt 32 4294967295) ^^^ (BitVec.ofInt 32 (a.toNat : Int))).toNat : Int) = _
  rw [wr32]
  have : BitVec.ofInt 32 4294967295 = BitVec.allOnes 32 := by decide
  rw [this, BitVec.allOnes_xor]; simp; omega
theorem badd (a b : W32) : IntKind.u32.wrap ((a.toNat : Int) + (b.toNat : Int)) = ((a + b).toNat : Int) := by
  rw [IntKind.wrap_u32', BitVec.toNat_add]; omega
theorem bshr (a : W32) (k : Nat) (h : k ≤ 32) : (a.toNat : Int).fdiv (2 ^ min k 32) = ((a >>> k).toNat : Int) := by
  rw [shrI _ _ _ h]; simp [Nat.shiftRight_eq_div_pow]
theorem bshl (a : W32) (k : Nat) (h : k ≤ 32) : IntKind.u32.wrap ((a.toNat : Int) * 2 ^ min k 32) = ((a <<< k).toNat : Int) := by
  rw [Nat.min_eq_left h, IntKind.wrap_u32', BitVec.toNat_shiftLeft, Nat.shiftLeft_eq]
  have : (2 : Int) ^ k = ((2 ^ k : Nat) : Int) := by simp
  rw [this]; omega

theorem bshlN (x : W32) (k : Nat) (h : k ≤ 32) : IntKind.u32.wrap ((x.toNat : Int) * 2 ^ min k IntKind.u32.bits) = ((x <<< k).toNat : Int) := bshl x k h
theorem bshrN (x : W32) (k : Nat) (h : k ≤ 32) : (x.toNat : Int).fdiv (2 ^ min k IntKind.u32.bits) = ((x >>> k).toNat : Int) := bshr x k h
/-! ### The functions -/
def rotr (x : W32) (n : Nat) : W32 := (x <<< (32 - n)) ||| (x >>> n)
def wb (b : UInt8) : W32 := BitVec.ofNat 32 b.toNat
theorem wb_conv (b : UInt8) : IntKind.u32.wrap (b.toNat : Int) = ((wb b).toNat : Int) := wr32 _
/-- The word that four bytes write, the highest first. -/
def beW (a b c d : UInt8) : W32 := BitVec.ofNat 32 (a.toNat * 16777216 + b.toNat * 65536 + c.toNat * 256 + d.toNat)
theorem beW_or (a b c d : UInt8) : wb a <<< 24 ||| wb b <<< 16 ||| wb c <<< 8 ||| wb d = beW a b c d := by
  have ha := UInt8.toNat_lt a; have hb := UInt8.toNat_lt b; have hc := UInt8.toNat_lt c; have hd := UInt8.toNat_lt d
  apply BitVec.eq_of_toNat_eq
  simp only [wb, beW, BitVec.toNat_or, BitVec.toNat_shiftLeft, BitVec.toNat_ofNat]
  generalize a.toNat = x at *; generalize b.toNat = y at *; generalize c.toNat = z at *; generalize d.toNat = u at *
  rw [Nat.mod_eq_of_lt (show x < 2 ^ 32 by omega), Nat.mod_eq_of_lt (show y < 2 ^ 32 by omega), Nat.mod_eq_of_lt (show z < 2 ^ 32 by omega), Nat.mod_eq_of_lt (show u < 2 ^ 32 by omega)]
  have e1 : x <<< 24 % 2 ^ 32 = x <<< 24 := Nat.mod_eq_of_lt (by rw [Nat.shiftLeft_eq]; omega)
  have e2 : y <<< 16 % 2 ^ 32 = y <<< 16 := Nat.mod_eq_of_lt (by rw [Nat.shiftLeft_eq]; omega)
  have e3 : z <<< 8 % 2 ^ 32 = z <<< 8 := Nat.mod_eq_of_lt (by rw [Nat.shiftLeft_eq]; omega)
  rw [e1, e2, e3]
  have s1 : z <<< 8 ||| u = z <<< 8 + u := (Nat.shiftLeft_add_eq_or_of_lt (by omega) z).symm
  have s2 : y <<< 16 ||| (z <<< 8 + u) = y <<< 16 + (z <<< 8 + u) := (Nat.shiftLeft_add_eq_or_of_lt (by rw [Nat.shiftLeft_eq]; omega) y).symm
  have s3 : x <<< 24 ||| (y <<< 16 + (z <<< 8 + u)) = x <<< 24 + (y <<< 16 + (z <<< 8 + u)) := (Nat.shiftLeft_add_eq_or_of_lt (by simp only [Nat.shiftLeft_eq]; omega) x).symm
  rw [Nat.or_assoc, Nat.or_assoc, s1, s2, s3]
  simp only [Nat.shiftLeft_eq]
  omega
def sg0 (x : W32) : W32 := rotr x 7 ^^^ rotr x 18 ^^^ x >>> 3
def sg1 (x : W32) : W32 := rotr x 17 ^^^ rotr x 19 ^^^ x >>> 10
def bg0 (x : W32) : W32 := rotr x 2 ^^^ rotr x 13 ^^^ rotr x 22
def bg1 (x : W32) : W32 := rotr x 6 ^^^ rotr x 11 ^^^ rotr x 25
def chW (e f g : W32) : W32 := (e &&& f) ^^^ (~~~e &&& g)
def mjW (a b c : W32) : W32 := (a &&& b) ^^^ (a &&& c) ^^^ (b &&& c)
/-- The first n of the 64 words of a block. -/
def schedW (blk : List UInt8) : Nat → List W32
  | 0 => []
  | i + 1 =>
    let l := schedW blk i
    l ++ [if i < 16 then beW (blk.getD (4 * i) 0) (blk.getD (4 * i + 1) 0) (blk.getD (4 * i + 2) 0) (blk.getD (4 * i + 3) 0)
      else l.getD (i - 16) 0 + sg0 (l.getD (i - 15) 0) + l.getD (i - 7) 0 + sg1 (l.getD (i - 2) 0)]
theorem schedW_len (blk : List UInt8) : ∀ n, (schedW blk n).length = n
  | 0 => rfl
  | n + 1 => by simp [schedW, schedW_len blk n]
theorem schedW_get (blk : List UInt8) (i : Nat) : ∀ n m, i < n → i < m → (schedW blk n).getD i 0 = (schedW blk m).getD i 0 := by
  have key : ∀ n, i < n → (schedW blk n).getD i 0 = (schedW blk (i + 1)).getD i 0 := by
    intro n
    induction n with
    | zero => intro h; omega
    | succ n ih =>
      intro h
      by_cases e : i = n
      · subst e; rfl
      · have hl : i < (schedW blk n).length := by rw [schedW_len]; omega
        rw [← ih (by omega)]
        simp only [schedW, List.getD_eq_getElem?_getD, List.getElem?_append_left hl]
  intro n m h1 h2
  rw [key n h1, key m h2]

theorem sched_lo (blk : List UInt8) (k : Nat) (h : k < 16) : schedW blk (k + 1) = schedW blk k ++ [beW (blk.getD (4 * k) 0) (blk.getD (4 * k + 1) 0) (blk.getD (4 * k + 2) 0) (blk.getD (4 * k + 3) 0)] := by
  simp [schedW, h]
theorem sched_hi (blk : List UInt8) (k : Nat) (h : 16 ≤ k) : schedW blk (k + 1) = schedW blk k ++ [(schedW blk k).getD (k - 16) 0 + sg0 ((schedW blk k).getD (k - 15) 0) + (schedW blk k).getD (k - 7) 0 + sg1 ((schedW blk k).getD (k - 2) 0)] := by
  simp only [schedW, if_neg (show ¬ k < 16 by omega)]
theorem getD_app {α : Type} {l m : List α} {j : Nat} {d : α} (h : j < l.length) : (l ++ m).getD j d = l.getD j d := by
  simp only [List.getD_eq_getElem?_getD, List.getElem?_append_left h]

/-- The constants. -/
def KW : List W32 := [
  0x428a2f98, 0x71374491, 0xb5c0fbcf, 0xe9b5dba5, 0x3956c25b, 0x59f111f1, 0x923f82a4, 0xab1c5ed5,
  0xd807aa98, 0x12835b01, 0x243185be, 0x550c7dc3, 0x72be5d74, 0x80deb1fe, 0x9bdc06a7, 0xc19bf174,
  0xe49b69c1, 0xefbe4786, 0x0fc19dc6, 0x240ca1cc, 0x2de92c6f, 0x4a7484aa, 0x5cb0a9dc, 0x76f988da,
  0x983e5152, 0xa831c66d, 0xb00327c8, 0xbf597fc7, 0xc6e00bf3, 0xd5a79147, 0x06ca6351, 0x14292967,
  0x27b70a85, 0x2e1b2138, 0x4d2c6dfc, 0x53380d13, 0x650a7354, 0x766a0abb, 0x81c2c92e, 0x92722c85,
  0xa2bfe8a1, 0xa81a664b, 0xc24b8b70, 0xc76c51a3, 0xd192e819, 0xd6990624, 0xf40e3585, 0x106aa070,
  0x19a4c116, 0x1e376c08, 0x2748774c, 0x34b0bcb5, 0x391c0cb3, 0x4ed8aa4a, 0x5b9cca4f, 0x682e6ff3,
  0x748f82ee, 0x78a5636f, 0x84c87814, 0x8cc70208, 0x90befffa, 0xa4506ceb, 0xbef9a3f7, 0xc67178f2]
/-- The table lies where it lies. -/
def WordsAt (w : World) (g : Nat) : Prop := ∀ j, j < 64 → w.cell? ⟨g, j, none⟩ = some (vw (KW.getD j 0))
theorem WordsAt.ext {w w' : World} {g : Nat} (h : WordsAt w g) (e : Ext w w') : WordsAt w' g := fun j hj => by rw [e.cell (block_lt_of_cell (h j hj))]; exact h j hj
def H0W : List W32 := [0x6a09e667, 0xbb67ae85, 0x3c6ef372, 0xa54ff53a, 0x510e527f, 0x9b05688c, 0x1f83d9ab, 0x5be0cd19]

/-- The eight registers, in order. -/
structure R8 where
  a : W32
  b : W32
  c : W32
  d : W32
  e : W32
  f : W32
  g : W32
  k : W32
def R8.at (r : R8) : Nat → W32
  | 0 => r.a
  | 1 => r.b
  | 2 => r.c
  | 3 => r.d
  | 4 => r.e
  | 5 => r.f
  | 6 => r.g
  | _ => r.k
def R8.l (r : R8) : List W32 := [r.a, r.b, r.c, r.d, r.e, r.f, r.g, r.k]
def R8.of (l : List W32) : R8 := ⟨l.getD 0 0, l.getD 1 0, l.getD 2 0, l.getD 3 0, l.getD 4 0, l.getD 5 0, l.getD 6 0, l.getD 7 0⟩
def t1W (r : R8) (k w : W32) : W32 := r.k + bg1 r.e + chW r.e r.f r.g + k + w
def t2W (r : R8) : W32 := bg0 r.a + mjW r.a r.b r.c
def R8.step (r : R8) (k w : W32) : R8 := ⟨t1W r k w + t2W r, r.a, r.b, r.c, r.d + t1W r k w, r.e, r.f, r.g⟩
/-- Behind n rounds. -/
def roundsW (r : R8) (w : List W32) : Nat → R8
  | 0 => r
  | i + 1 => (roundsW r w i).step (KW.getD i 0) (w.getD i 0)
/-- One block into the eight words. -/
def compW (h : List W32) (blk : List UInt8) : List W32 := List.zipWith (· + ·) h (roundsW (R8.of h) (schedW blk 64) 64).l
theorem zip_get (h m : List W32) (k : Nat) (h1 : k < h.length) (h2 : k < m.length) : (List.zipWith (· + ·) h m).getD k 0 = h.getD k 0 + m.getD k 0 := by
  have h3 : k < (List.zipWith (· + ·) h m).length := by simp; omega
  rw [List.getD_eq_getElem?_getD, List.getElem?_eq_getElem h3, List.getElem_zipWith]
  simp [h1, h2]
theorem R8.l_len (r : R8) : r.l.length = 8 := rfl
theorem compW_len (h : List W32) (blk : List UInt8) (hh : h.length = 8) : (compW h blk).length = 8 := by simp [compW, hh, R8.l]

/-- n blocks of a text. -/
def blocksW (h : List W32) (xs : List UInt8) : Nat → List W32
  | 0 => h
  | n + 1 => compW (blocksW h xs n) ((xs.drop (64 * n)).take 64)
/-- What stands beyond the blocks counts for nothing. -/
theorem blocksW_app (h : List W32) (xs ys : List UInt8) : ∀ n, 64 * n ≤ xs.length → blocksW h (xs ++ ys) n = blocksW h xs n
  | 0, _ => rfl
  | n + 1, hn => by
    have ih := blocksW_app h xs ys n (by omega)
    simp only [blocksW, ih]
    congr 1
    rw [List.drop_append_of_le_length (by omega), List.take_append_of_le_length (by simp; omega)]
/-- Eight bytes of a number, the highest first. -/
def be8 (v : Nat) : List UInt8 := (List.range 8).map fun i => UInt8.ofNat (v / 2 ^ (8 * (7 - i)))
theorem be8_len (v : Nat) : (be8 v).length = 8 := by simp [be8]
def zerosN (n : Nat) : Nat := (119 - n % 64) % 64
/-- What stands behind n bytes in the last block or two. -/
def padW (n : Nat) : List UInt8 := [0x80] ++ List.replicate (zerosN n) 0 ++ be8 (8 * n % 2 ^ 64)
theorem padW_len (n : Nat) : (padW n).length = 9 + zerosN n := by simp [padW, be8_len]; omega
/-- The bytes of eight words. -/
def outW (h : List W32) : List UInt8 := (List.range 32).map fun i => UInt8.ofNat ((h.getD (i / 4) 0).toNat / 2 ^ (24 - 8 * (i % 4)))
theorem outW_len (h : List W32) : (outW h).length = 32 := by simp [outW]
/-- THE HASH of a text. -/
def shaP (xs : List UInt8) : List UInt8 :=
  let t := xs ++ padW xs.length
  outW (blocksW H0W t (t.length / 64))
theorem shaP_len (xs : List UInt8) : (shaP xs).length = 32 := outW_len _
/-- The hash, cut to a width. -/
def cutP (n : Nat) (l : List UInt8) : List UInt8 := l.take n ++ List.replicate (32 - n) 0
def sumP (n : Nat) (xs : List UInt8) : List UInt8 := cutP n (shaP xs)
theorem cutP_len (n : Nat) (l : List UInt8) (h : l.length = 32) (hn : n ≤ 32) : (cutP n l).length = 32 := by simp [cutP, h]; omega
theorem sumP_len (n : Nat) (xs : List UInt8) (hn : n ≤ 32) : (sumP n xs).length = 32 := cutP_len _ _ (shaP_len _) hn

end Go.Proofs.YthlkfjoibjhaiaaGreatDoor

/-! Shb -/
namespace Go.Proofs.YthlkfjoibjhaiaaGreatDoor
set_option maxRecDepth 100000
set_option maxHeartbeats 2000000
open Go Go.RowKit
set_option linter.unusedVariables false
set_option linter.unusedSimpArgs false

theorem rot_ok (x : W32) (k : Nat) (h0 : 0 < k) (h : k < 32) (w : World) :
    CallK Tryz.prog 383 [vw x, .int .i64 (IntKind.i64.wrap (0 - (k : Int)))].toArray w fun v w' => v = vw (rotr x k) ∧ w' = w := by
  unfold vw
  refine enterT Tryz.func383 rfl Tryz.ntmps383 Tryz.results383 rfl (by decide) ?_
  simp only [↓VD, VP, VT, isAggD, reduceCtorEq, Int.reduceEq, Int.reduceNe, Int.reduceLT, Int.reduceLE, implies_true, Nat.reduceEqDiff, reduceIte, ite_true, ite_false, eq_self, Nat.reduceLT, Nat.reduceLeDiff, Nat.reduceAdd, Nat.reduceMul, Nat.reduceSub, intOf]
  have hs : ibits .and .u64 (IntKind.u64.wrap (IntKind.i64.wrap (0 - (k : Int)))) 31 = ((32 - k : Nat) : Int) := by
    have key : ∀ j : Fin 32, 0 < j.val → ibits .and .u64 (IntKind.u64.wrap (IntKind.i64.wrap (0 - ((j.val : Nat) : Int)))) 31 = ((32 - j.val : Nat) : Int) := by decide +kernel
    exact key ⟨k, h⟩ h0
  rw [hs]
  have hk : IntKind.u64.wrap (32 - ((32 - k : Nat) : Int)) = (k : Int) := by rw [wu64 (by omega) (by omega)]; omega
  rw [hk]
  refine ⟨by omega, by omega, ?_⟩
  have e1 := bshl x (32 - k) (by omega)
  have e2 := bshr x k (by omega)
  simp only [Int.toNat_natCast]
  show ibits .or .u32 (IntKind.u32.wrap ((x.toNat : Int) * 2 ^ min (32 - k) 32)) ((x.toNat : Int).fdiv (2 ^ min k 32)) = _
  rw [e1, e2, bor]
  rfl

theorem right_ok (x : W32) (k : Nat) (h0 : 0 < k) (h : k < 32) (w : World) :
    CallK Tryz.prog 368 [vw x, .int .i64 k].toArray w fun v w' => v = vw (rotr x k) ∧ w' = w := by
  unfold vw
  refine enterT Tryz.func368 rfl Tryz.ntmps368 Tryz.results368 rfl (by decide) ?_
  simp only [↓VD, VP, VT, isAggD, reduceCtorEq, Int.reduceEq, Int.reduceNe, Int.reduceLT, Int.reduceLE, implies_true, Nat.reduceEqDiff, reduceIte, ite_true, ite_false, eq_self, Nat.reduceLT, Nat.reduceLeDiff, Nat.reduceAdd, Nat.reduceMul, Nat.reduceSub, intOf]
  refine (rot_ok x k h0 h w).mono ?_
  rintro _ w2 ⟨rfl, rfl⟩
  simp only [↓VD, VP, VT, isAggD, reduceCtorEq, Int.reduceEq, Int.reduceNe, Int.reduceLT, Int.reduceLE, implies_true, Nat.reduceEqDiff, reduceIte, ite_true, ite_false, eq_self, Nat.reduceLT, Nat.reduceLeDiff, Nat.reduceAdd, Nat.reduceMul, Nat.reduceSub, intOf]
  rfl

set_option maxRecDepth 100000 in
theorem first_ok (w : World) : CallK Tryz.prog 367 [].toArray w fun v w' => v = .agg (vws H0W).toArray ∧ Ext w w' := by
  refine enterT Tryz.func367 rfl Tryz.ntmps367 Tryz.results367 rfl (by decide) ?_
  simp only [↓VD, VP, VT, isAggD, reduceCtorEq, Int.reduceEq, Int.reduceNe, Int.reduceLT, Int.reduceLE, implies_true, Nat.reduceEqDiff, reduceIte, ite_true, ite_false, eq_self, Nat.reduceLT, Nat.reduceLeDiff, Nat.reduceAdd, Nat.reduceMul, Nat.reduceSub, intOf]
  intro w1 hN
  refine bldC (vws H0W) (by kernel_rfl) ?_
  simp only [↓VD, VP, VT, isAggD, reduceCtorEq, Int.reduceEq, Int.reduceNe, Int.reduceLT, Int.reduceLE, implies_true, Nat.reduceEqDiff, reduceIte, ite_true, ite_false, eq_self, Nat.reduceLT, Nat.reduceLeDiff, Nat.reduceAdd, Nat.reduceMul, Nat.reduceSub, intOf]
  refine stAll hN.blk rfl (by rw [c407]; omega) (by rw [c407]; rfl) (by rw [c407]; rfl) (vws_one _) (fun w2 hP => ?_)
  simp only [↓VD, VP, VT, isAggD, reduceCtorEq, Int.reduceEq, Int.reduceNe, Int.reduceLT, Int.reduceLE, implies_true, Nat.reduceEqDiff, reduceIte, ite_true, ite_false, eq_self, Nat.reduceLT, Nat.reduceLeDiff, Nat.reduceAdd, Nat.reduceMul, Nat.reduceSub, intOf]
  refine ldA Tryz.underlying407 rfl hP.blk (by rw [c407]; rfl) ?_
  exact ⟨rfl, hN.ext.trans (hP.below (Nat.le_refl _))⟩
end Go.Proofs.YthlkfjoibjhaiaaGreatDoor

/-! Shc -/
namespace Go.Proofs.YthlkfjoibjhaiaaGreatDoor
set_option maxRecDepth 100000
set_option maxHeartbeats 2000000
open Go Go.RowKit
set_option linter.unusedVariables false
set_option linter.unusedSimpArgs false

set_option maxRecDepth 100000 in
theorem Compress_ok (h : List W32) (blk : List UInt8) (hh : h.length = 8) (hb : blk.length = 64) (w : World) (hW : WordsAt w 1) :
    CallK Tryz.prog 334 [.agg (vws h).toArray, .agg (vbs blk).toArray].toArray w fun v w' => v = .agg (vws (compW h blk)).toArray ∧ Ext w w' := by
  refine enterT Tryz.func334 rfl Tryz.ntmps334 Tryz.results334 rfl (by decide) ?_
  simp only [↓VD, VP, VT, isAggD, reduceCtorEq, Int.reduceEq, Int.reduceNe, Int.reduceLT, Int.reduceLE, implies_true, Nat.reduceEqDiff, reduceIte, ite_true, ite_false, eq_self, Nat.reduceLT, Nat.reduceLeDiff, Nat.reduceAdd, Nat.reduceMul, Nat.reduceSub, intOf]
  intro w1 hN1 w2 hN2 w3 hN3 w4 hN4
  have s1 := hN1.size
  have s2 := hN2.size
  have s3 := hN3.size
  have s4 := hN4.size
  rw [vws_rep] at hN3 hN4
  refine loopT (fun s' w' => Ext w w' ∧ ∃ k : Nat, k ≤ 16 ∧ s' 2 = .pointer (some ⟨w.heap.size, 0, none⟩) ∧ s' 3 = .pointer (some ⟨w1.heap.size, 0, none⟩) ∧ s' 4 = .pointer (some ⟨w2.heap.size, 0, none⟩) ∧ s' 5 = .pointer (some ⟨w3.heap.size, 0, none⟩) ∧
      s' 25 = .int .i64 k ∧ Blk w' w.heap.size 407 (vws h) ∧ Blk w' w1.heap.size 408 (vbs blk) ∧ Blk w' w2.heap.size 407 (vws (List.replicate 8 0)) ∧ Blk w' w3.heap.size 441 (vws (schedW blk k ++ List.replicate (64 - k) 0)))
      (fun s' _ => 16 - (intOf (s' 25)).toNat) ?_ ?_
  · simp only [↓VD, VP, VT, isAggD, reduceCtorEq, Int.reduceEq, Int.reduceNe, Int.reduceLT, Int.reduceLE, implies_true, Nat.reduceEqDiff, reduceIte, ite_true, ite_false, eq_self, Nat.reduceLT, Nat.reduceLeDiff, Nat.reduceAdd, Nat.reduceMul, Nat.reduceSub, intOf]
    refine ⟨((hN1.ext.trans' hN2.ext).trans' hN3.ext).trans' hN4.ext, 0, by omega, rfl, ?_, ?_, ?_, ?_⟩
    · exact ((hN1.blk.ext hN2.ext).ext hN3.ext).ext hN4.ext
    · exact (hN2.blk.ext hN3.ext).ext hN4.ext
    · exact hN3.blk.ext hN4.ext
    · exact hN4.blk
  · rintro s5 w5 ⟨hE, k, hk, h2, h3, h4, h5, h25, b1, b2, b3, b4⟩
    simp only [↓VD, VP, VT, isAggD, reduceCtorEq, Int.reduceEq, Int.reduceNe, Int.reduceLT, Int.reduceLE, implies_true, Nat.reduceEqDiff, reduceIte, ite_true, ite_false, eq_self, Nat.reduceLT, Nat.reduceLeDiff, Nat.reduceAdd, Nat.reduceMul, Nat.reduceSub, intOf, h2, h3, h4, h5, h25]
    refine ⟨fun hlt => ?_, fun hge => ?_⟩
    · have hk16 : k < 16 := by omega
      refine drawH (fun x => Blk x w1.heap.size 408 (vbs blk)) [0, 1, 2, 3, 4, 5, 6, 7, 8, 9, 10, 11, 12, 13, 14, 15, 16, 17, 18, 19, 20, 21, 22, 23, 24, 25, 26, 27, 28, 29, 30, 31] mixed (by decide +kernel) (fun w6 hE6 hh => ⟨b2.ext hE6, ?_⟩)
      simp only [↓VD, VP, VT, isAggD, reduceCtorEq, Int.reduceEq, Int.reduceNe, Int.reduceLT, Int.reduceLE, implies_true, Nat.reduceEqDiff, reduceIte, ite_true, ite_false, eq_self, Nat.reduceLT, Nat.reduceLeDiff, Nat.reduceAdd, Nat.reduceMul, Nat.reduceSub, intOf, h2, h3, h4, h5, h25, (show IntKind.i64.wrap (4 * (k : Int)) = ((4 * k : Nat) : Int) from by rw [w64 (by omega) (by omega)] <;> omega)]
      refine ⟨by omega, by omega, loadS_of _ (fun x hx => ldB (o := 4 * k) Tryz.underlying5 hx (by omega) rfl) ?_⟩
      simp only [↓VD, VP, VT, isAggD, reduceCtorEq, Int.reduceEq, Int.reduceNe, Int.reduceLT, Int.reduceLE, implies_true, Nat.reduceEqDiff, reduceIte, ite_true, ite_false, eq_self, Nat.reduceLT, Nat.reduceLeDiff, Nat.reduceAdd, Nat.reduceMul, Nat.reduceSub, intOf, h2, h3, h4, h5, h25, wb_conv, (show IntKind.i64.wrap (4 * (k : Int)) = ((4 * k : Nat) : Int) from by rw [w64 (by omega) (by omega)] <;> omega), (show IntKind.i64.wrap (((4 * k : Nat) : Int) + 1) = ((4 * k + 1 : Nat) : Int) from by rw [w64 (by omega) (by omega)] <;> omega)]
      refine ⟨by omega, by omega, loadS_of _ (fun x hx => ldB (o := 4 * k + 1) Tryz.underlying5 hx (by omega) rfl) ?_⟩
      simp only [↓VD, VP, VT, isAggD, reduceCtorEq, Int.reduceEq, Int.reduceNe, Int.reduceLT, Int.reduceLE, implies_true, Nat.reduceEqDiff, reduceIte, ite_true, ite_false, eq_self, Nat.reduceLT, Nat.reduceLeDiff, Nat.reduceAdd, Nat.reduceMul, Nat.reduceSub, intOf, h2, h3, h4, h5, h25, wb_conv, (show IntKind.i64.wrap (4 * (k : Int)) = ((4 * k : Nat) : Int) from by rw [w64 (by omega) (by omega)] <;> omega), (show IntKind.i64.wrap (((4 * k : Nat) : Int) + 2) = ((4 * k + 2 : Nat) : Int) from by rw [w64 (by omega) (by omega)] <;> omega)]
      refine ⟨by omega, by omega, loadS_of _ (fun x hx => ldB (o := 4 * k + 2) Tryz.underlying5 hx (by omega) rfl) ?_⟩
      simp only [↓VD, VP, VT, isAggD, reduceCtorEq, Int.reduceEq, Int.reduceNe, Int.reduceLT, Int.reduceLE, implies_true, Nat.reduceEqDiff, reduceIte, ite_true, ite_false, eq_self, Nat.reduceLT, Nat.reduceLeDiff, Nat.reduceAdd, Nat.reduceMul, Nat.reduceSub, intOf, h2, h3, h4, h5, h25, wb_conv, (show IntKind.i64.wrap (4 * (k : Int)) = ((4 * k : Nat) : Int) from by rw [w64 (by omega) (by omega)] <;> omega), (show IntKind.i64.wrap (((4 * k : Nat) : Int) + 3) = ((4 * k + 3 : Nat) : Int) from by rw [w64 (by omega) (by omega)] <;> omega)]
      refine ⟨by omega, by omega, loadS_of _ (fun x hx => ldB (o := 4 * k + 3) Tryz.underlying5 hx (by omega) rfl) ?_⟩
      simp only [↓VD, VP, VT, isAggD, reduceCtorEq, Int.reduceEq, Int.reduceNe, Int.reduceLT, Int.reduceLE, implies_true, Nat.reduceEqDiff, reduceIte, ite_true, ite_false, eq_self, Nat.reduceLT, Nat.reduceLeDiff, Nat.reduceAdd, Nat.reduceMul, Nat.reduceSub, intOf, h2, h3, h4, h5, h25, wb_conv]
      simp (disch := decide) only [bshlN, bshrN, badd, bxor, band, bor, bnot, Int.reduceToNat]
      rw [beW_or]
      refine ⟨by omega, by omega, stV c406 (b4.ext hE6) rfl rfl (by simp [vws_len, schedW_len]; omega) (fun w7 hP => ?_)⟩
      refine told (fun _ => True) (hP.keep (b2.ext hE6) (by omega)) trivial ?_
      rw [vws_set, set_tail (schedW_len blk k) (by omega), ← sched_lo blk k hk16] at hP
      simp only [↓VD, VP, VT, isAggD, reduceCtorEq, Int.reduceEq, Int.reduceNe, Int.reduceLT, Int.reduceLE, implies_true, Nat.reduceEqDiff, reduceIte, ite_true, ite_false, eq_self, Nat.reduceLT, Nat.reduceLeDiff, Nat.reduceAdd, Nat.reduceMul, Nat.reduceSub, intOf, h2, h3, h4, h5, h25]
      refine ⟨⟨(hE.trans' hE6).trans (hP.below (by omega)), k + 1, by omega, ?_, hP.keep (b1.ext hE6) (by omega), hP.keep (b2.ext hE6) (by omega), hP.keep (b3.ext hE6) (by omega), hP.blk⟩, ?_⟩
      · rw [w64 (by omega) (by omega)]; rfl
      · rw [w64 (by omega) (by omega)]; omega
    · have hk16 : k = 16 := by omega
      subst hk16
      clear h25 hge
      refine loopT (fun s' w' => Ext w w' ∧ ∃ k : Nat, 16 ≤ k ∧ k ≤ 64 ∧ s' 2 = .pointer (some ⟨w.heap.size, 0, none⟩) ∧ s' 4 = .pointer (some ⟨w2.heap.size, 0, none⟩) ∧ s' 5 = .pointer (some ⟨w3.heap.size, 0, none⟩) ∧
        s' 7 = .int .i64 k ∧ Blk w' w.heap.size 407 (vws h) ∧ Blk w' w2.heap.size 407 (vws (List.replicate 8 0)) ∧ Blk w' w3.heap.size 441 (vws (schedW blk k ++ List.replicate (64 - k) 0)))
        (fun s' _ => 64 - (intOf (s' 7)).toNat) ?_ ?_
      · simp only [↓VD, VP, VT, isAggD, reduceCtorEq, Int.reduceEq, Int.reduceNe, Int.reduceLT, Int.reduceLE, implies_true, Nat.reduceEqDiff, reduceIte, ite_true, ite_false, eq_self, Nat.reduceLT, Nat.reduceLeDiff, Nat.reduceAdd, Nat.reduceMul, Nat.reduceSub, intOf, h2, h3, h4, h5]
        exact ⟨hE, 16, by omega, by omega, rfl, b1, b3, b4⟩
      · clear h2 h3 h4 h5 b1 b2 b3 b4 hE
        rintro s6 w6 ⟨hE, k, hk0, hk, h2, h4, h5, h7, b1, b3, b4⟩
        simp only [↓VD, VP, VT, isAggD, reduceCtorEq, Int.reduceEq, Int.reduceNe, Int.reduceLT, Int.reduceLE, implies_true, Nat.reduceEqDiff, reduceIte, ite_true, ite_false, eq_self, Nat.reduceLT, Nat.reduceLeDiff, Nat.reduceAdd, Nat.reduceMul, Nat.reduceSub, intOf, h2, h4, h5, h7]
        have hl := schedW_len blk k
        refine ⟨fun hlt => ?_, fun hge => ?_⟩
        · have hk64 : k < 64 := by omega
          refine drawT mixed (by decide +kernel) ?_
          have e15 : IntKind.i64.wrap ((k : Int) - 15) = ((k - 15 : Nat) : Int) := by rw [w64 (by omega) (by omega)]; omega
          have e2 : IntKind.i64.wrap ((k : Int) - 2) = ((k - 2 : Nat) : Int) := by rw [w64 (by omega) (by omega)]; omega
          have e16 : IntKind.i64.wrap ((k : Int) - 16) = ((k - 16 : Nat) : Int) := by rw [w64 (by omega) (by omega)]; omega
          have e7 : IntKind.i64.wrap ((k : Int) - 7) = ((k - 7 : Nat) : Int) := by rw [w64 (by omega) (by omega)]; omega
          have ll : (schedW blk k ++ List.replicate (64 - k) 0).length = 64 := by simp [hl]; omega
          simp only [↓VD, VP, VT, isAggD, reduceCtorEq, Int.reduceEq, Int.reduceNe, Int.reduceLT, Int.reduceLE, implies_true, Nat.reduceEqDiff, reduceIte, ite_true, ite_false, eq_self, Nat.reduceLT, Nat.reduceLeDiff, Nat.reduceAdd, Nat.reduceMul, Nat.reduceSub, intOf, h2, h4, h5, h7, e15]
          refine ⟨by omega, by omega, ldW (o := k - 15) Tryz.underlying406 b4 (by omega) ?_⟩
          rw [getD_app (by omega)]
          simp only [↓VD, VP, VT, isAggD, reduceCtorEq, Int.reduceEq, Int.reduceNe, Int.reduceLT, Int.reduceLE, implies_true, Nat.reduceEqDiff, reduceIte, ite_true, ite_false, eq_self, Nat.reduceLT, Nat.reduceLeDiff, Nat.reduceAdd, Nat.reduceMul, Nat.reduceSub, intOf, h2, h4, h5, h7, e15]
          refine qcall (vw (rotr ((schedW blk k).getD (k - 15) 0) 7)) (fun w' _ => (right_ok _ 7 (by decide) (by decide) w').mono ?_) ?_
          · rintro _ _ ⟨rfl, rfl⟩; exact ⟨rfl, Ext.rfl' _⟩
          simp only [↓VD, VP, VT, isAggD, reduceCtorEq, Int.reduceEq, Int.reduceNe, Int.reduceLT, Int.reduceLE, implies_true, Nat.reduceEqDiff, reduceIte, ite_true, ite_false, eq_self, Nat.reduceLT, Nat.reduceLeDiff, Nat.reduceAdd, Nat.reduceMul, Nat.reduceSub, intOf, h2, h4, h5, h7, e15]
          refine ⟨by omega, by omega, ldW (o := k - 15) Tryz.underlying406 b4 (by omega) ?_⟩
          rw [getD_app (by omega)]
          simp only [↓VD, VP, VT, isAggD, reduceCtorEq, Int.reduceEq, Int.reduceNe, Int.reduceLT, Int.reduceLE, implies_true, Nat.reduceEqDiff, reduceIte, ite_true, ite_false, eq_self, Nat.reduceLT, Nat.reduceLeDiff, Nat.reduceAdd, Nat.reduceMul, Nat.reduceSub, intOf, h2, h4, h5, h7, e15]
          refine qcall (vw (rotr ((schedW blk k).getD (k - 15) 0) 18)) (fun w' _ => (right_ok _ 18 (by decide) (by decide) w').mono ?_) ?_
          · rintro _ _ ⟨rfl, rfl⟩; exact ⟨rfl, Ext.rfl' _⟩
          simp only [↓VD, VP, VT, isAggD, reduceCtorEq, Int.reduceEq, Int.reduceNe, Int.reduceLT, Int.reduceLE, implies_true, Nat.reduceEqDiff, reduceIte, ite_true, ite_false, eq_self, Nat.reduceLT, Nat.reduceLeDiff, Nat.reduceAdd, Nat.reduceMul, Nat.reduceSub, intOf, h2, h4, h5, h7, e15, vw]
          refine ⟨by omega, by omega, ldW (o := k - 15) Tryz.underlying406 b4 (by omega) ?_⟩
          rw [getD_app (by omega)]
          simp only [↓VD, VP, VT, isAggD, reduceCtorEq, Int.reduceEq, Int.reduceNe, Int.reduceLT, Int.reduceLE, implies_true, Nat.reduceEqDiff, reduceIte, ite_true, ite_false, eq_self, Nat.reduceLT, Nat.reduceLeDiff, Nat.reduceAdd, Nat.reduceMul, Nat.reduceSub, intOf, h2, h4, h5, h7]
          simp (disch := decide) only [bshlN, bshrN, badd, bxor, band, bor, bnot, Int.reduceToNat]
          intro w7 hE7
          refine drawT mixed (by decide +kernel) ?_
          simp only [↓VD, VP, VT, isAggD, reduceCtorEq, Int.reduceEq, Int.reduceNe, Int.reduceLT, Int.reduceLE, implies_true, Nat.reduceEqDiff, reduceIte, ite_true, ite_false, eq_self, Nat.reduceLT, Nat.reduceLeDiff, Nat.reduceAdd, Nat.reduceMul, Nat.reduceSub, intOf, h2, h4, h5, h7, e2]
          refine ⟨by omega, by omega, ldW (o := k - 2) Tryz.underlying406 (b4.ext hE7) (by omega) ?_⟩
          rw [getD_app (by omega)]
          simp only [↓VD, VP, VT, isAggD, reduceCtorEq, Int.reduceEq, Int.reduceNe, Int.reduceLT, Int.reduceLE, implies_true, Nat.reduceEqDiff, reduceIte, ite_true, ite_false, eq_self, Nat.reduceLT, Nat.reduceLeDiff, Nat.reduceAdd, Nat.reduceMul, Nat.reduceSub, intOf, h2, h4, h5, h7, e2, vw]
          refine qcall (vw (rotr ((schedW blk k).getD (k - 2) 0) 17)) (fun w' _ => (right_ok _ 17 (by decide) (by decide) w').mono ?_) ?_
          · rintro _ _ ⟨rfl, rfl⟩; exact ⟨rfl, Ext.rfl' _⟩
          simp only [↓VD, VP, VT, isAggD, reduceCtorEq, Int.reduceEq, Int.reduceNe, Int.reduceLT, Int.reduceLE, implies_true, Nat.reduceEqDiff, reduceIte, ite_true, ite_false, eq_self, Nat.reduceLT, Nat.reduceLeDiff, Nat.reduceAdd, Nat.reduceMul, Nat.reduceSub, intOf, h2, h4, h5, h7, e2, vw]
          refine ⟨by omega, by omega, ldW (o := k - 2) Tryz.underlying406 (b4.ext hE7) (by omega) ?_⟩
          rw [getD_app (by omega)]
          simp only [↓VD, VP, VT, isAggD, reduceCtorEq, Int.reduceEq, Int.reduceNe, Int.reduceLT, Int.reduceLE, implies_true, Nat.reduceEqDiff, reduceIte, ite_true, ite_false, eq_self, Nat.reduceLT, Nat.reduceLeDiff, Nat.reduceAdd, Nat.reduceMul, Nat.reduceSub, intOf, h2, h4, h5, h7, e2, vw]
          refine qcall (vw (rotr ((schedW blk k).getD (k - 2) 0) 19)) (fun w' _ => (right_ok _ 19 (by decide) (by decide) w').mono ?_) ?_
          · rintro _ _ ⟨rfl, rfl⟩; exact ⟨rfl, Ext.rfl' _⟩
          simp only [↓VD, VP, VT, isAggD, reduceCtorEq, Int.reduceEq, Int.reduceNe, Int.reduceLT, Int.reduceLE, implies_true, Nat.reduceEqDiff, reduceIte, ite_true, ite_false, eq_self, Nat.reduceLT, Nat.reduceLeDiff, Nat.reduceAdd, Nat.reduceMul, Nat.reduceSub, intOf, h2, h4, h5, h7, e2, vw]
          refine ⟨by omega, by omega, ldW (o := k - 2) Tryz.underlying406 (b4.ext hE7) (by omega) ?_⟩
          rw [getD_app (by omega)]
          simp only [↓VD, VP, VT, isAggD, reduceCtorEq, Int.reduceEq, Int.reduceNe, Int.reduceLT, Int.reduceLE, implies_true, Nat.reduceEqDiff, reduceIte, ite_true, ite_false, eq_self, Nat.reduceLT, Nat.reduceLeDiff, Nat.reduceAdd, Nat.reduceMul, Nat.reduceSub, intOf, h2, h4, h5, h7, e2, vw]
          simp (disch := decide) only [bshlN, bshrN, badd, bxor, band, bor, bnot, Int.reduceToNat]
          intro w8 hE8
          have b4' := (b4.ext hE7).ext hE8
          refine drawH (fun x => ∀ j, j < k → x.cell? ⟨w3.heap.size, j, none⟩ = some (.int .u32 ((schedW blk k).getD j 0).toNat)) [0, 1, 2, 3, 4, 5, 6, 7, 8, 9, 10, 11, 12, 13, 14, 15] mixed (by decide +kernel) (fun w9 hE9 hh => ⟨fun j hj => ?_, ?_⟩)
          · rw [(b4'.ext hE9).cell, vws_get (by omega), getD_app (by omega)]; rfl
          simp only [↓VD, VP, VT, isAggD, reduceCtorEq, Int.reduceEq, Int.reduceNe, Int.reduceLT, Int.reduceLE, implies_true, Nat.reduceEqDiff, reduceIte, ite_true, ite_false, eq_self, Nat.reduceLT, Nat.reduceLeDiff, Nat.reduceAdd, Nat.reduceMul, Nat.reduceSub, intOf, h2, h4, h5, h7, e16]
          refine ⟨by omega, by omega, loadS_of _ (fun x hx => ld1 Tryz.underlying406 rfl (hx (k - 16) (by omega)) rfl) ?_⟩
          simp only [↓VD, VP, VT, isAggD, reduceCtorEq, Int.reduceEq, Int.reduceNe, Int.reduceLT, Int.reduceLE, implies_true, Nat.reduceEqDiff, reduceIte, ite_true, ite_false, eq_self, Nat.reduceLT, Nat.reduceLeDiff, Nat.reduceAdd, Nat.reduceMul, Nat.reduceSub, intOf, h2, h4, h5, h7, e7]
          refine ⟨by omega, by omega, loadS_of _ (fun x hx => ld1 Tryz.underlying406 rfl (hx (k - 7) (by omega)) rfl) ?_⟩
          simp only [↓VD, VP, VT, isAggD, reduceCtorEq, Int.reduceEq, Int.reduceNe, Int.reduceLT, Int.reduceLE, implies_true, Nat.reduceEqDiff, reduceIte, ite_true, ite_false, eq_self, Nat.reduceLT, Nat.reduceLeDiff, Nat.reduceAdd, Nat.reduceMul, Nat.reduceSub, intOf, h2, h4, h5, h7]
          simp (disch := decide) only [bshlN, bshrN, badd, bxor, band, bor, bnot, Int.reduceToNat]
          refine ⟨by omega, by omega, stV c406 (b4'.ext hE9) rfl rfl (by rw [vws_len]; omega) (fun w10 hP => ?_)⟩
          rw [vws_set, set_tail hl hk64] at hP
          have hs : schedW blk (k + 1) = _ := sched_hi blk k hk0
          simp only [sg0, sg1] at hs
          rw [← hs] at hP
          refine told (fun _ => True) (fun j hj => ?_) trivial ?_
          · rw [hP.blk.cell, vws_get (by simp [schedW_len]; omega), getD_app (by rw [schedW_len]; omega), schedW_get blk j (k + 1) k (by omega) hj]; rfl
          simp only [↓VD, VP, VT, isAggD, reduceCtorEq, Int.reduceEq, Int.reduceNe, Int.reduceLT, Int.reduceLE, implies_true, Nat.reduceEqDiff, reduceIte, ite_true, ite_false, eq_self, Nat.reduceLT, Nat.reduceLeDiff, Nat.reduceAdd, Nat.reduceMul, Nat.reduceSub, intOf, h2, h4, h5, h7]
          have hE' : Ext w w9 := ((hE.trans' hE7).trans' hE8).trans' hE9
          refine ⟨⟨hE'.trans (hP.below (by omega)), k + 1, by omega, by omega, ?_, hP.keep (((b1.ext hE7).ext hE8).ext hE9) (by omega), hP.keep (((b3.ext hE7).ext hE8).ext hE9) (by omega), hP.blk⟩, ?_⟩
          · rw [w64 (by omega) (by omega)]; rfl
          · rw [w64 (by omega) (by omega)]; omega
        · have hk64 : k = 64 := by omega
          subst hk64
          clear h7 hge
          simp only [Nat.sub_self, List.replicate_zero, List.append_nil] at b4
          refine drawT mixed (by decide +kernel) ?_
          simp only [↓VD, VP, VT, isAggD, reduceCtorEq, Int.reduceEq, Int.reduceNe, Int.reduceLT, Int.reduceLE, implies_true, Nat.reduceEqDiff, reduceIte, ite_true, ite_false, eq_self, Nat.reduceLT, Nat.reduceLeDiff, Nat.reduceAdd, Nat.reduceMul, Nat.reduceSub, intOf, h2, h4, h5]
          refine ldW (o := 0) Tryz.underlying406 b1 (by omega) ?_
          simp only [↓VD, VP, VT, isAggD, reduceCtorEq, Int.reduceEq, Int.reduceNe, Int.reduceLT, Int.reduceLE, implies_true, Nat.reduceEqDiff, reduceIte, ite_true, ite_false, eq_self, Nat.reduceLT, Nat.reduceLeDiff, Nat.reduceAdd, Nat.reduceMul, Nat.reduceSub, intOf, h2, h4, h5]
          refine ldW (o := 1) Tryz.underlying406 b1 (by omega) ?_
          simp only [↓VD, VP, VT, isAggD, reduceCtorEq, Int.reduceEq, Int.reduceNe, Int.reduceLT, Int.reduceLE, implies_true, Nat.reduceEqDiff, reduceIte, ite_true, ite_false, eq_self, Nat.reduceLT, Nat.reduceLeDiff, Nat.reduceAdd, Nat.reduceMul, Nat.reduceSub, intOf, h2, h4, h5]
          refine ldW (o := 2) Tryz.underlying406 b1 (by omega) ?_
          simp only [↓VD, VP, VT, isAggD, reduceCtorEq, Int.reduceEq, Int.reduceNe, Int.reduceLT, Int.reduceLE, implies_true, Nat.reduceEqDiff, reduceIte, ite_true, ite_false, eq_self, Nat.reduceLT, Nat.reduceLeDiff, Nat.reduceAdd, Nat.reduceMul, Nat.reduceSub, intOf, h2, h4, h5]
          refine ldW (o := 3) Tryz.underlying406 b1 (by omega) ?_
          simp only [↓VD, VP, VT, isAggD, reduceCtorEq, Int.reduceEq, Int.reduceNe, Int.reduceLT, Int.reduceLE, implies_true, Nat.reduceEqDiff, reduceIte, ite_true, ite_false, eq_self, Nat.reduceLT, Nat.reduceLeDiff, Nat.reduceAdd, Nat.reduceMul, Nat.reduceSub, intOf, h2, h4, h5]
          refine ldW (o := 4) Tryz.underlying406 b1 (by omega) ?_
          simp only [↓VD, VP, VT, isAggD, reduceCtorEq, Int.reduceEq, Int.reduceNe, Int.reduceLT, Int.reduceLE, implies_true, Nat.reduceEqDiff, reduceIte, ite_true, ite_false, eq_self, Nat.reduceLT, Nat.reduceLeDiff, Nat.reduceAdd, Nat.reduceMul, Nat.reduceSub, intOf, h2, h4, h5]
          refine ldW (o := 5) Tryz.underlying406 b1 (by omega) ?_
          simp only [↓VD, VP, VT, isAggD, reduceCtorEq, Int.reduceEq, Int.reduceNe, Int.reduceLT, Int.reduceLE, implies_true, Nat.reduceEqDiff, reduceIte, ite_true, ite_false, eq_self, Nat.reduceLT, Nat.reduceLeDiff, Nat.reduceAdd, Nat.reduceMul, Nat.reduceSub, intOf, h2, h4, h5]
          refine ldW (o := 6) Tryz.underlying406 b1 (by omega) ?_
          simp only [↓VD, VP, VT, isAggD, reduceCtorEq, Int.reduceEq, Int.reduceNe, Int.reduceLT, Int.reduceLE, implies_true, Nat.reduceEqDiff, reduceIte, ite_true, ite_false, eq_self, Nat.reduceLT, Nat.reduceLeDiff, Nat.reduceAdd, Nat.reduceMul, Nat.reduceSub, intOf, h2, h4, h5]
          refine ldW (o := 7) Tryz.underlying406 b1 (by omega) ?_
          simp only [↓VD, VP, VT, isAggD, reduceCtorEq, Int.reduceEq, Int.reduceNe, Int.reduceLT, Int.reduceLE, implies_true, Nat.reduceEqDiff, reduceIte, ite_true, ite_false, eq_self, Nat.reduceLT, Nat.reduceLeDiff, Nat.reduceAdd, Nat.reduceMul, Nat.reduceSub, intOf, h2, h4, h5]
          intro w7 hE7
          refine loopT (fun s' w' => Ext w w' ∧ ∃ k : Nat, k ≤ 64 ∧ s' 2 = .pointer (some ⟨w.heap.size, 0, none⟩) ∧ s' 4 = .pointer (some ⟨w2.heap.size, 0, none⟩) ∧ s' 5 = .pointer (some ⟨w3.heap.size, 0, none⟩) ∧
            s' 129 = .int .i64 k ∧ Blk w' w.heap.size 407 (vws h) ∧ Blk w' w2.heap.size 407 (vws (List.replicate 8 0)) ∧ Blk w' w3.heap.size 441 (vws (schedW blk 64)) ∧
            ∃ r : R8, r = roundsW (R8.of h) (schedW blk 64) k ∧ s' 10 = .int .u32 r.a.toNat ∧ s' 11 = .int .u32 r.b.toNat ∧ s' 12 = .int .u32 r.c.toNat ∧ s' 13 = .int .u32 r.d.toNat ∧ s' 14 = .int .u32 r.e.toNat ∧ s' 15 = .int .u32 r.f.toNat ∧ s' 16 = .int .u32 r.g.toNat ∧ s' 17 = .int .u32 r.k.toNat)
            (fun s' _ => 64 - (intOf (s' 129)).toNat) ?_ ?_
          · simp only [↓VD, VP, VT, isAggD, reduceCtorEq, Int.reduceEq, Int.reduceNe, Int.reduceLT, Int.reduceLE, implies_true, Nat.reduceEqDiff, reduceIte, ite_true, ite_false, eq_self, Nat.reduceLT, Nat.reduceLeDiff, Nat.reduceAdd, Nat.reduceMul, Nat.reduceSub, intOf, h2, h4, h5]
            exact ⟨hE.trans' hE7, 0, by omega, rfl, b1.ext hE7, b3.ext hE7, b4.ext hE7, R8.of h, rfl, rfl, rfl, rfl, rfl, rfl, rfl, rfl, rfl⟩
          · clear h2 h4 h5 b1 b3 b4 hE hE7
            rintro s8 w8 ⟨hE, k, hk, h2, h4, h5, h129, b1, b3, b4, r, hr, g10, g11, g12, g13, g14, g15, g16, g17⟩
            simp only [↓VD, VP, VT, isAggD, reduceCtorEq, Int.reduceEq, Int.reduceNe, Int.reduceLT, Int.reduceLE, implies_true, Nat.reduceEqDiff, reduceIte, ite_true, ite_false, eq_self, Nat.reduceLT, Nat.reduceLeDiff, Nat.reduceAdd, Nat.reduceMul, Nat.reduceSub, intOf, h2, h4, h5, h129]
            refine ⟨fun hlt => ?_, fun hge => ?_⟩
            · have hk64 : k < 64 := by omega
              simp only [↓VD, VP, VT, isAggD, reduceCtorEq, Int.reduceEq, Int.reduceNe, Int.reduceLT, Int.reduceLE, implies_true, Nat.reduceEqDiff, reduceIte, ite_true, ite_false, eq_self, Nat.reduceLT, Nat.reduceLeDiff, Nat.reduceAdd, Nat.reduceMul, Nat.reduceSub, intOf, h2, h4, h5, h129, g10, g11, g12, g13, g14, g15, g16, g17]
              refine (right_ok r.e 6 (by decide) (by decide) _).mono ?_
              rintro _ _ ⟨rfl, rfl⟩
              simp only [↓VD, VP, VT, isAggD, reduceCtorEq, Int.reduceEq, Int.reduceNe, Int.reduceLT, Int.reduceLE, implies_true, Nat.reduceEqDiff, reduceIte, ite_true, ite_false, eq_self, Nat.reduceLT, Nat.reduceLeDiff, Nat.reduceAdd, Nat.reduceMul, Nat.reduceSub, intOf, h2, h4, h5, h129, g10, g11, g12, g13, g14, g15, g16, g17, vw]
              refine (right_ok r.e 11 (by decide) (by decide) _).mono ?_
              rintro _ _ ⟨rfl, rfl⟩
              simp only [↓VD, VP, VT, isAggD, reduceCtorEq, Int.reduceEq, Int.reduceNe, Int.reduceLT, Int.reduceLE, implies_true, Nat.reduceEqDiff, reduceIte, ite_true, ite_false, eq_self, Nat.reduceLT, Nat.reduceLeDiff, Nat.reduceAdd, Nat.reduceMul, Nat.reduceSub, intOf, h2, h4, h5, h129, g10, g11, g12, g13, g14, g15, g16, g17, vw]
              refine (right_ok r.e 25 (by decide) (by decide) _).mono ?_
              rintro _ _ ⟨rfl, rfl⟩
              simp only [↓VD, VP, VT, isAggD, reduceCtorEq, Int.reduceEq, Int.reduceNe, Int.reduceLT, Int.reduceLE, implies_true, Nat.reduceEqDiff, reduceIte, ite_true, ite_false, eq_self, Nat.reduceLT, Nat.reduceLeDiff, Nat.reduceAdd, Nat.reduceMul, Nat.reduceSub, intOf, h2, h4, h5, h129, g10, g11, g12, g13, g14, g15, g16, g17, vw]
              refine drawT mixed (by decide +kernel) ?_
              simp only [↓VD, VP, VT, isAggD, reduceCtorEq, Int.reduceEq, Int.reduceNe, Int.reduceLT, Int.reduceLE, implies_true, Nat.reduceEqDiff, reduceIte, ite_true, ite_false, eq_self, Nat.reduceLT, Nat.reduceLeDiff, Nat.reduceAdd, Nat.reduceMul, Nat.reduceSub, intOf, h2, h4, h5, h129, g10, g11, g12, g13, g14, g15, g16, g17]
              refine ⟨by omega, by omega, ld1 Tryz.underlying406 rfl ((hW.ext hE) k (by omega)) ?_⟩
              simp only [↓VD, VP, VT, isAggD, reduceCtorEq, Int.reduceEq, Int.reduceNe, Int.reduceLT, Int.reduceLE, implies_true, Nat.reduceEqDiff, reduceIte, ite_true, ite_false, eq_self, Nat.reduceLT, Nat.reduceLeDiff, Nat.reduceAdd, Nat.reduceMul, Nat.reduceSub, intOf, h2, h4, h5, h129, g10, g11, g12, g13, g14, g15, g16, g17, vw]
              refine ⟨by omega, by omega, ldW (o := k) Tryz.underlying406 b4 (by omega) ?_⟩
              simp only [↓VD, VP, VT, isAggD, reduceCtorEq, Int.reduceEq, Int.reduceNe, Int.reduceLT, Int.reduceLE, implies_true, Nat.reduceEqDiff, reduceIte, ite_true, ite_false, eq_self, Nat.reduceLT, Nat.reduceLeDiff, Nat.reduceAdd, Nat.reduceMul, Nat.reduceSub, intOf, h2, h4, h5, h129, g10, g11, g12, g13, g14, g15, g16, g17]
              intro w9 hE9
              refine (right_ok r.a 2 (by decide) (by decide) _).mono ?_
              rintro _ _ ⟨rfl, rfl⟩
              simp only [↓VD, VP, VT, isAggD, reduceCtorEq, Int.reduceEq, Int.reduceNe, Int.reduceLT, Int.reduceLE, implies_true, Nat.reduceEqDiff, reduceIte, ite_true, ite_false, eq_self, Nat.reduceLT, Nat.reduceLeDiff, Nat.reduceAdd, Nat.reduceMul, Nat.reduceSub, intOf, h2, h4, h5, h129, g10, g11, g12, g13, g14, g15, g16, g17, vw]
              refine (right_ok r.a 13 (by decide) (by decide) _).mono ?_
              rintro _ _ ⟨rfl, rfl⟩
              simp only [↓VD, VP, VT, isAggD, reduceCtorEq, Int.reduceEq, Int.reduceNe, Int.reduceLT, Int.reduceLE, implies_true, Nat.reduceEqDiff, reduceIte, ite_true, ite_false, eq_self, Nat.reduceLT, Nat.reduceLeDiff, Nat.reduceAdd, Nat.reduceMul, Nat.reduceSub, intOf, h2, h4, h5, h129, g10, g11, g12, g13, g14, g15, g16, g17, vw]
              refine (right_ok r.a 22 (by decide) (by decide) _).mono ?_
              rintro _ _ ⟨rfl, rfl⟩
              simp only [↓VD, VP, VT, isAggD, reduceCtorEq, Int.reduceEq, Int.reduceNe, Int.reduceLT, Int.reduceLE, implies_true, Nat.reduceEqDiff, reduceIte, ite_true, ite_false, eq_self, Nat.reduceLT, Nat.reduceLeDiff, Nat.reduceAdd, Nat.reduceMul, Nat.reduceSub, intOf, h2, h4, h5, h129, g10, g11, g12, g13, g14, g15, g16, g17, vw]
              simp (disch := decide) only [bshlN, bshrN, badd, bxor, band, bor, bnot, Int.reduceToNat]
              have hstep : roundsW (R8.of h) (schedW blk 64) (k + 1) = r.step (KW.getD k 0) ((schedW blk 64).getD k 0) := by rw [roundsW, ← hr]
              refine ⟨⟨hE.trans' hE9, k + 1, by omega, ?_, b1.ext hE9, b3.ext hE9, b4.ext hE9, _, hstep.symm, ?_⟩, ?_⟩
              · rw [w64 (by omega) (by omega)]; rfl
              · exact ⟨rfl, rfl, rfl, rfl, rfl, rfl, rfl, rfl⟩
              · rw [w64 (by omega) (by omega)]; omega
            · have hk64 : k = 64 := by omega
              subst hk64
              clear h129 hge
              simp only [↓VD, VP, VT, isAggD, reduceCtorEq, Int.reduceEq, Int.reduceNe, Int.reduceLT, Int.reduceLE, implies_true, Nat.reduceEqDiff, reduceIte, ite_true, ite_false, eq_self, Nat.reduceLT, Nat.reduceLeDiff, Nat.reduceAdd, Nat.reduceMul, Nat.reduceSub, intOf, h2, h4, h5, g10, g11, g12, g13, g14, g15, g16, g17]
              refine bldC (vws r.l) (by kernel_rfl) ?_
              simp only [↓VD, VP, VT, isAggD, reduceCtorEq, Int.reduceEq, Int.reduceNe, Int.reduceLT, Int.reduceLE, implies_true, Nat.reduceEqDiff, reduceIte, ite_true, ite_false, eq_self, Nat.reduceLT, Nat.reduceLeDiff, Nat.reduceAdd, Nat.reduceMul, Nat.reduceSub, intOf, h2, h4, h5]
              refine loopT (fun s' w' => Ext w w' ∧ ∃ k : Nat, k ≤ 8 ∧ s' 2 = .pointer (some ⟨w.heap.size, 0, none⟩) ∧ s' 4 = .pointer (some ⟨w2.heap.size, 0, none⟩) ∧
                s' 203 = .int .i64 k ∧ s' 202 = .agg (vws r.l).toArray ∧ Blk w' w2.heap.size 407 (vws (List.replicate 8 0)) ∧
                Blk w' w.heap.size 407 (vws ((List.zipWith (· + ·) h r.l).take k ++ h.drop k)))
                (fun s' _ => 8 - (intOf (s' 203)).toNat) ?_ ?_
              · simp only [↓VD, VP, VT, isAggD, reduceCtorEq, Int.reduceEq, Int.reduceNe, Int.reduceLT, Int.reduceLE, implies_true, Nat.reduceEqDiff, reduceIte, ite_true, ite_false, eq_self, Nat.reduceLT, Nat.reduceLeDiff, Nat.reduceAdd, Nat.reduceMul, Nat.reduceSub, intOf, h2, h4, h5]
                exact ⟨hE, 0, by omega, rfl, b3, b1⟩
              · clear h2 h4 h5 b1 b3 b4 hE g10 g11 g12 g13 g14 g15 g16 g17
                rintro s9 w9 ⟨hE, k, hk, h2, h4, h203, h202, b3, b1⟩
                simp only [↓VD, VP, VT, isAggD, reduceCtorEq, Int.reduceEq, Int.reduceNe, Int.reduceLT, Int.reduceLE, implies_true, Nat.reduceEqDiff, reduceIte, ite_true, ite_false, eq_self, Nat.reduceLT, Nat.reduceLeDiff, Nat.reduceAdd, Nat.reduceMul, Nat.reduceSub, intOf, h2, h4, h203, h202]
                refine ⟨fun hlt => ?_, fun hge => ?_⟩
                · have hk8 : k < 8 := by omega
                  have hzl : (List.zipWith (· + ·) h r.l).length = h.length := by simp [hh, R8.l_len]
                  have hL := upto_len (zs := List.zipWith (· + ·) h r.l) (h := h) k hzl (by omega)
                  refine ⟨by omega, by omega, _, vws_get (l := r.l) hk8, by omega, by omega, ldW (o := k) Tryz.underlying406 b1 (by omega) ?_⟩
                  rw [upto_get hzl (by omega)]
                  simp only [↓VD, VP, VT, isAggD, reduceCtorEq, Int.reduceEq, Int.reduceNe, Int.reduceLT, Int.reduceLE, implies_true, Nat.reduceEqDiff, reduceIte, ite_true, ite_false, eq_self, Nat.reduceLT, Nat.reduceLeDiff, Nat.reduceAdd, Nat.reduceMul, Nat.reduceSub, intOf, h2, h4, h203, h202, vw]
                  simp (disch := decide) only [bshlN, bshrN, badd, bxor, band, bor, bnot, Int.reduceToNat]
                  rw [← zip_get h r.l k (by omega) (by rw [R8.l_len]; omega)]
                  refine ⟨by omega, by omega, stV c406 b1 rfl rfl (by rw [vws_len]; omega) (fun w10 hP => ?_)⟩
                  rw [vws_set, upto_set hzl (by omega)] at hP
                  simp only [↓VD, VP, VT, isAggD, reduceCtorEq, Int.reduceEq, Int.reduceNe, Int.reduceLT, Int.reduceLE, implies_true, Nat.reduceEqDiff, reduceIte, ite_true, ite_false, eq_self, Nat.reduceLT, Nat.reduceLeDiff, Nat.reduceAdd, Nat.reduceMul, Nat.reduceSub, intOf, h2, h4, h203, h202]
                  refine ⟨⟨hE.trans (hP.below (by omega)), k + 1, by omega, ?_, hP.keep b3 (by omega), hP.blk⟩, ?_⟩
                  · rw [w64 (by omega) (by omega)]; rfl
                  · rw [w64 (by omega) (by omega)]; omega
                · have hk8 : k = 8 := by omega
                  subst hk8
                  have e1 : (List.zipWith (· + ·) h r.l).take 8 ++ h.drop 8 = compW h blk := by
                    rw [List.take_of_length_le (by simp [hh, R8.l_len]), List.drop_eq_nil_of_le (by omega), List.append_nil, compW, ← hr]
                  rw [e1] at b1
                  have hcl := compW_len h blk hh
                  refine ldA Tryz.underlying407 rfl b1 (by rw [c407, vws_len, hcl]) ?_
                  simp only [↓VD, VP, VT, isAggD, reduceCtorEq, Int.reduceEq, Int.reduceNe, Int.reduceLT, Int.reduceLE, implies_true, Nat.reduceEqDiff, reduceIte, ite_true, ite_false, eq_self, Nat.reduceLT, Nat.reduceLeDiff, Nat.reduceAdd, Nat.reduceMul, Nat.reduceSub, intOf, h2, h4, h203, h202]
                  refine stAll b3 rfl (by rw [c407]; omega) (by rw [c407, vws_len, hcl]) (by rw [c407]; rfl) (vws_one _) (fun w10 hP => ?_)
                  simp only [↓VD, VP, VT, isAggD, reduceCtorEq, Int.reduceEq, Int.reduceNe, Int.reduceLT, Int.reduceLE, implies_true, Nat.reduceEqDiff, reduceIte, ite_true, ite_false, eq_self, Nat.reduceLT, Nat.reduceLeDiff, Nat.reduceAdd, Nat.reduceMul, Nat.reduceSub, intOf, h2, h4, h203, h202]
                  refine ldA Tryz.underlying407 rfl hP.blk (by rw [c407, vws_len, hcl]) ?_
                  exact ⟨rfl, hE.trans (hP.below (by omega))⟩

end Go.Proofs.YthlkfjoibjhaiaaGreatDoor

/-! Shd -/
namespace Go.Proofs.YthlkfjoibjhaiaaGreatDoor
set_option maxRecDepth 100000
set_option maxHeartbeats 2000000
open Go Go.RowKit
set_option linter.unusedVariables false
set_option linter.unusedSimpArgs false

theorem be8_get (v i : Nat) (h : i < 8) : (be8 v)[7 - i]? = some (UInt8.ofNat (v / 2 ^ (8 * i))) := by
  have : 7 - i < 8 := by omega
  simp only [be8, List.getElem?_map, List.getElem?_range this, Option.map_some]
  rw [show 7 - (7 - i) = i from by omega]
theorem set_back {α : Type} {pre tl : List α} {m : Nat} {x y : α} : (pre ++ (List.replicate (m + 1) x ++ tl)).set (pre.length + m) y = pre ++ (List.replicate m x ++ (y :: tl)) := by
  rw [List.set_append_right _ _ (by omega), Nat.add_sub_cancel_left, List.set_append_left _ _ (by simp), List.replicate_succ', List.set_append_right _ _ (by simp)]
  simp
theorem vbs_set (l : List UInt8) (k : Nat) (y : UInt8) : (vbs l).set k (.int .u8 y.toNat) = vbs (l.set k y) := by simp [vbs, List.map_set, vb]

set_option maxRecDepth 100000 in
theorem Padding_ok (n : Nat) (hn : n < 18446744073709551616) (w : World) :
    CallK Tryz.prog 335 [.int .u64 n].toArray w fun v w' => ∃ g, w.heap.size ≤ g ∧ v = .slice (some ⟨g, 0, none⟩) (padW n).length (padW n).length ∧ Blk w' g 5 (vbs (padW n)) ∧ Ext w w' := by
  have hpl := padW_len n
  have hz : zerosN n < 64 := by unfold zerosN; omega
  refine enterT Tryz.func335 rfl Tryz.ntmps335 Tryz.results335 rfl (by decide) ?_
  simp only [↓VD, VP, VT, isAggD, reduceCtorEq, Int.reduceEq, Int.reduceNe, Int.reduceLT, Int.reduceLE, implies_true, Nat.reduceEqDiff, reduceIte, ite_true, ite_false, eq_self, Nat.reduceLT, Nat.reduceLeDiff, Nat.reduceAdd, Nat.reduceMul, Nat.reduceSub, intOf, show (n : Int).tmod 64 = ((n % 64 : Nat) : Int) from tmodN n 64, (show IntKind.u64.wrap (119 - ((n % 64 : Nat) : Int)) = ((119 - n % 64 : Nat) : Int) from by rw [wu64 (by omega) (by omega)] <;> omega), show ((119 - n % 64 : Nat) : Int).tmod 64 = ((zerosN n : Nat) : Int) from tmodN _ 64, (show IntKind.u64.wrap (1 + (zerosN n : Int)) = ((1 + zerosN n : Nat) : Int) from by rw [wu64 (by omega) (by omega)] <;> omega), (show IntKind.u64.wrap (((1 + zerosN n : Nat) : Int) + 8) = (((padW n).length : Nat) : Int) from by rw [wu64 (by omega) (by omega)] <;> omega)]
  refine mkS Tryz.underlying22 z5 rfl c5 (Nat.le_refl _) (by rw [by5]; omega) (by omega) (fun w1 hN => ?_)
  simp only [↓VD, VP, VT, isAggD, reduceCtorEq, Int.reduceEq, Int.reduceNe, Int.reduceLT, Int.reduceLE, implies_true, Nat.reduceEqDiff, reduceIte, ite_true, ite_false, eq_self, Nat.reduceLT, Nat.reduceLeDiff, Nat.reduceAdd, Nat.reduceMul, Nat.reduceSub, intOf]
  rw [vbs_rep] at hN
  refine ⟨by omega, stV c5 hN.blk rfl rfl (by rw [vbs_len]; simp; omega) (fun w2 hP => ?_)⟩
  simp only [↓VD, VP, VT, isAggD, reduceCtorEq, Int.reduceEq, Int.reduceNe, Int.reduceLT, Int.reduceLE, implies_true, Nat.reduceEqDiff, reduceIte, ite_true, ite_false, eq_self, Nat.reduceLT, Nat.reduceLeDiff, Nat.reduceAdd, Nat.reduceMul, Nat.reduceSub, intOf]
  have hset : (List.replicate (padW n).length (0 : UInt8)).set 0 128 = (128 :: List.replicate (zerosN n) 0) ++ (List.replicate 8 0 ++ (be8 (8 * n % 18446744073709551616)).drop 8) := by
    rw [hpl, show 9 + zerosN n = (zerosN n + 8) + 1 from by omega, List.replicate_succ, List.set_cons_zero, List.drop_eq_nil_of_le (by rw [be8_len]; omega), List.append_nil, List.cons_append, List.replicate_append_replicate]
  have hpre : (128 :: List.replicate (zerosN n) (0 : UInt8)).length = 1 + zerosN n := by simp; omega
  have h128 : Value.int .u8 128 = .int .u8 (128 : UInt8).toNat := rfl
  rw [h128, show Int.toNat 0 = 0 from rfl, vbs_set, hset] at hP
  refine loopT (fun s' w' => Ext w w' ∧ ∃ i : Nat, i ≤ 8 ∧ s' 0 = .int .u64 n ∧ s' 4 = .slice (some ⟨w.heap.size, 0, none⟩) (padW n).length (padW n).length ∧ s' 16 = .int .i64 i ∧
      Blk w' w.heap.size 5 (vbs ((128 :: List.replicate (zerosN n) 0) ++ (List.replicate (8 - i) 0 ++ (be8 (8 * n % 18446744073709551616)).drop (8 - i)))))
      (fun s' _ => 8 - (intOf (s' 16)).toNat) ?_ ?_
  · simp only [↓VD, VP, VT, isAggD, reduceCtorEq, Int.reduceEq, Int.reduceNe, Int.reduceLT, Int.reduceLE, implies_true, Nat.reduceEqDiff, reduceIte, ite_true, ite_false, eq_self, Nat.reduceLT, Nat.reduceLeDiff, Nat.reduceAdd, Nat.reduceMul, Nat.reduceSub, intOf]
    exact ⟨hN.ext.trans (hP.below (Nat.le_refl _)), 0, by omega, rfl, hP.blk⟩
  · rintro s3 w3 ⟨hE, i, hi, h0, h4, h16, hb⟩
    have hlt0 : w.heap.size < w3.heap.size := hb.lt
    generalize hV : 8 * n % 18446744073709551616 = V at *
    have hV8 : IntKind.u64.wrap (8 * (n : Int)) = (V : Int) := by
      have := wr64 (8 * n)
      rw [hV] at this
      rw [← this]; congr 1
    simp only [↓VD, VP, VT, isAggD, reduceCtorEq, Int.reduceEq, Int.reduceNe, Int.reduceLT, Int.reduceLE, implies_true, Nat.reduceEqDiff, reduceIte, ite_true, ite_false, eq_self, Nat.reduceLT, Nat.reduceLeDiff, Nat.reduceAdd, Nat.reduceMul, Nat.reduceSub, intOf, h0, h4, h16, hV8, (show IntKind.i64.wrap (((padW n).length : Int) - 1) = (((padW n).length - 1 : Nat) : Int) from by rw [w64 (by omega) (by omega)] <;> omega)]
    refine ⟨fun hlt => ?_, fun hge => ?_⟩
    · have hi8 : i < 8 := by omega
      simp only [↓VD, VP, VT, isAggD, reduceCtorEq, Int.reduceEq, Int.reduceNe, Int.reduceLT, Int.reduceLE, implies_true, Nat.reduceEqDiff, reduceIte, ite_true, ite_false, eq_self, Nat.reduceLT, Nat.reduceLeDiff, Nat.reduceAdd, Nat.reduceMul, Nat.reduceSub, intOf, h0, h4, h16, hV8, (show IntKind.i64.wrap ((((padW n).length - 1 : Nat) : Int) - (i : Int)) = (((padW n).length - 1 - i : Nat) : Int) from by rw [w64 (by omega) (by omega)] <;> omega), (show IntKind.i64.wrap (8 * (i : Int)) = ((8 * i : Nat) : Int) from by rw [w64 (by omega) (by omega)] <;> omega), show (V : Int).fdiv (2 ^ min (8 * i) IntKind.u64.bits) = ((V / 2 ^ (8 * i) : Nat) : Int) from fdivN V (8 * i) 64 (by omega), wr8]
      refine ⟨by omega, by omega, by omega, stV c5 hb rfl rfl (by rw [vbs_len]; simp [be8_len]; omega) (fun w4 hP => ?_)⟩
      have htl : UInt8.ofNat (V / 2 ^ (8 * i)) :: (be8 V).drop (8 - i) = (be8 V).drop (8 - (i + 1)) := by
        have hb7 := be8_get V i hi8
        obtain ⟨hl7, he7⟩ := List.getElem?_eq_some_iff.1 hb7
        rw [show 8 - (i + 1) = 7 - i from by omega, List.drop_eq_getElem_cons hl7, he7, show 7 - i + 1 = 8 - i from by omega]
      rw [vbs_set, show (padW n).length - 1 - i = (128 :: List.replicate (zerosN n) (0 : UInt8)).length + (7 - i) from by omega, show 8 - i = (7 - i) + 1 from by omega, set_back, show (7 - i) + 1 = 8 - i from by omega, htl] at hP
      simp only [↓VD, VP, VT, isAggD, reduceCtorEq, Int.reduceEq, Int.reduceNe, Int.reduceLT, Int.reduceLE, implies_true, Nat.reduceEqDiff, reduceIte, ite_true, ite_false, eq_self, Nat.reduceLT, Nat.reduceLeDiff, Nat.reduceAdd, Nat.reduceMul, Nat.reduceSub, intOf, h0, h4, h16]
      refine ⟨⟨hE.trans (hP.below (Nat.le_refl _)), i + 1, by omega, ?_, by have := hP.blk; rw [show 7 - i = 8 - (i + 1) from by omega] at this; exact this⟩, ?_⟩
      · rw [w64 (by omega) (by omega)]; rfl
      · rw [w64 (by omega) (by omega)]; omega
    · have hi8 : i = 8 := by omega
      subst hi8
      refine ⟨w.heap.size, Nat.le_refl _, rfl, ?_, hE⟩
      have : padW n = (128 :: List.replicate (zerosN n) 0) ++ be8 V := by rw [padW, ← hV]; rfl
      rw [this]
      simpa using hb


/-! ### A hash under way -/
/-- The cells of a hash. -/
def stL (h : List W32) (t : Bool) (bk : List UInt8) (n : Nat) : List Value := vws h ++ (.bool t :: (vbs bk ++ [.int .u64 n]))
/-- The parts of a hash into which xs went. -/
structure StP (h : List W32) (t : Bool) (bk : List UInt8) (n : Nat) (xs : List UInt8) : Prop where
  hl : h.length = 8
  bl : bk.length = 64
  nn : n = xs.length % 18446744073709551616
  none : t = false → xs = []
  hh : t = true → h = blocksW H0W xs (xs.length / 64)
  bb : t = true → bk.take (xs.length % 64) = xs.drop (64 * (xs.length / 64))
/-- A hash in block b into which xs went. -/
def St (w : World) (b : Nat) (xs : List UInt8) : Prop := ∃ h t bk n, Blk w b 410 (stL h t bk n) ∧ StP h t bk n xs
/-- All blocks but b stay. -/
structure KeepB (w w' : World) (b : Nat) : Prop where
  os : w'.os = w.os
  tape : w'.tape = w.tape
  output : w'.output = w.output
  size : w.heap.size ≤ w'.heap.size
  other : ∀ k, k < w.heap.size → k ≠ b → w'.heap[k]? = w.heap[k]?
theorem KeepB.rfl' (w : World) (b : Nat) : KeepB w w b := ⟨rfl, rfl, rfl, Nat.le_refl _, fun _ _ _ => rfl⟩
theorem KeepB.trans {a b c : World} {k : Nat} (h : KeepB a b k) (g : KeepB b c k) : KeepB a c k :=
  ⟨g.os.trans h.os, g.tape.trans h.tape, g.output.trans h.output, Nat.le_trans h.size g.size, fun j hj hk => (g.other j (by have := h.size; omega) hk).trans (h.other j hj hk)⟩
theorem KeepB.of_ext {w w' : World} {b : Nat} (h : Ext w w') : KeepB w w' b := ⟨h.os, h.tape, h.output, h.size, fun k hk _ => h.block k hk⟩
theorem KeepB.of_put {w w' : World} {b : Nat} {T : TypeId} {l : List Value} (h : Put w w' b T l) : KeepB w w' b := ⟨h.os, h.tape, h.output, Nat.le_of_eq h.size.symm, fun k _ hk => h.other k hk⟩
theorem KeepB.below {w w' : World} {b B : Nat} (h : KeepB w w' b) (hB : B ≤ b) (hw : B ≤ w.heap.size) : Below B w w' := ⟨h.os, h.tape, h.output, h.size, fun k hk => h.other k (by omega) (by omega)⟩
theorem KeepB.blk {w w' : World} {b c : Nat} {T : TypeId} {l : List Value} (h : KeepB w w' b) (k : Blk w c T l) (hc : c ≠ b) : Blk w' c T l := ⟨by rw [h.other c k.lt hc]; exact k.out⟩
theorem KeepB.ext {w w' : World} {b : Nat} (h : KeepB w w' b) (hb : w.heap.size ≤ b) : Ext w w' := h.below hb (Nat.le_refl _)
theorem SlN.keep {w w' : World} {v : Value} {n b : Nat} {cells : List Value} (h : SlN w v n cells b) (e : KeepB w w' b) : SlN w' v n cells b := by
  obtain ⟨a, c, rfl, hn, hm, h⟩ := h
  refine ⟨a, c, rfl, hn, hm, h.imp id ?_⟩
  rintro ⟨k, o, rfl, hk, h⟩
  refine ⟨k, o, rfl, hk, fun j u hj => ?_⟩
  have hc := h j u hj
  rw [← hc]
  have := block_lt_of_cell hc
  simp only [World.cell?, e.other k this hk]
theorem KeepB.wordsAt {w w' : World} {b g : Nat} (h : KeepB w w' b) (hW : WordsAt w g) (hg : g ≠ b) : WordsAt w' g := fun j hj => by
  have hc := hW j hj
  rw [← hc]
  simp only [World.cell?, h.other g (block_lt_of_cell hc) hg]

set_option maxRecDepth 100000 in
theorem New_ok (w : World) : CallK Tryz.prog 261 [].toArray w fun v w' => v = .pointer (some ⟨w.heap.size, 0, none⟩) ∧ Ext w w' ∧ w'.heap.size = w.heap.size + 1 ∧ St w' w.heap.size [] := by
  refine enterT Tryz.func261 rfl Tryz.ntmps261 Tryz.results261 rfl (by decide) ?_
  simp only [↓VD, VP, VT, isAggD, reduceCtorEq, Int.reduceEq, Int.reduceNe, Int.reduceLT, Int.reduceLE, implies_true, Nat.reduceEqDiff, reduceIte, ite_true, ite_false, eq_self, Nat.reduceLT, Nat.reduceLeDiff, Nat.reduceAdd, Nat.reduceMul, Nat.reduceSub, intOf]
  refine bldC (stL (List.replicate 8 0) false (List.replicate 64 0) 0) (by kernel_rfl) ?_
  simp only [↓VD, VP, VT, isAggD, reduceCtorEq, Int.reduceEq, Int.reduceNe, Int.reduceLT, Int.reduceLE, implies_true, Nat.reduceEqDiff, reduceIte, ite_true, ite_false, eq_self, Nat.reduceLT, Nat.reduceLeDiff, Nat.reduceAdd, Nat.reduceMul, Nat.reduceSub, intOf]
  intro w1 hN
  refine ⟨hN.ext, hN.size, _, _, _, _, hN.blk, ⟨rfl, rfl, rfl, fun _ => rfl, fun h => (by cases h), fun h => (by cases h)⟩⟩

theorem stL_b (h : List W32) (t : Bool) (bk : List UInt8) (n : Nat) : stL h t bk n = (vws h ++ [.bool t]) ++ (vbs bk ++ [.int .u64 n]) := by simp [stL]
theorem stL_n (h : List W32) (t : Bool) (bk : List UInt8) (n : Nat) : stL h t bk n = (vws h ++ (.bool t :: vbs bk)) ++ (.int .u64 n :: []) := by simp [stL]

set_option maxRecDepth 100000 in
theorem begin_ok (b : Nat) (xs : List UInt8) (w : World) (hS : St w b xs) :
    CallK Tryz.prog 333 [.pointer (some ⟨b, 0, none⟩)].toArray w fun v w' => KeepB w w' b ∧ ∃ h bk n, Blk w' b 410 (stL h true bk n) ∧ StP h true bk n xs := by
  obtain ⟨h, t, bk, n, hB, hP⟩ := hS
  have hl := hP.hl
  refine enterT Tryz.func333 rfl Tryz.ntmps333 Tryz.results333 rfl (by decide) ?_
  simp only [↓VD, VP, VT, isAggD, reduceCtorEq, Int.reduceEq, Int.reduceNe, Int.reduceLT, Int.reduceLE, implies_true, Nat.reduceEqDiff, reduceIte, ite_true, ite_false, eq_self, Nat.reduceLT, Nat.reduceLeDiff, Nat.reduceAdd, Nat.reduceMul, Nat.reduceSub, intOf]
  refine ldAt (pre := vws h) Tryz.underlying4 rfl hB (by rw [vws_len]; exact hl) ?_
  simp only [↓VD, VP, VT, isAggD, reduceCtorEq, Int.reduceEq, Int.reduceNe, Int.reduceLT, Int.reduceLE, implies_true, Nat.reduceEqDiff, reduceIte, ite_true, ite_false, eq_self, Nat.reduceLT, Nat.reduceLeDiff, Nat.reduceAdd, Nat.reduceMul, Nat.reduceSub, intOf]
  cases t
  · simp only [↓VD, VP, VT, isAggD, reduceCtorEq, Int.reduceEq, Int.reduceNe, Int.reduceLT, Int.reduceLE, implies_true, Nat.reduceEqDiff, reduceIte, ite_true, ite_false, eq_self, Nat.reduceLT, Nat.reduceLeDiff, Nat.reduceAdd, Nat.reduceMul, Nat.reduceSub, intOf]
    refine (first_ok w).mono ?_
    rintro _ w1 ⟨rfl, hE⟩
    simp only [↓VD, VP, VT, isAggD, reduceCtorEq, Int.reduceEq, Int.reduceNe, Int.reduceLT, Int.reduceLE, implies_true, Nat.reduceEqDiff, reduceIte, ite_true, ite_false, eq_self, Nat.reduceLT, Nat.reduceLeDiff, Nat.reduceAdd, Nat.reduceMul, Nat.reduceSub, intOf]
    refine stSeg (pre := []) (mid := vws h) (post := .bool false :: (vbs bk ++ [.int .u64 n])) (hB.ext hE) rfl rfl (by rw [c407]; omega) (by rw [c407]; rfl) (by rw [vws_len, hl]; rfl) (vws_one _) (fun w2 hP2 => ?_)
    simp only [↓VD, VP, VT, isAggD, reduceCtorEq, Int.reduceEq, Int.reduceNe, Int.reduceLT, Int.reduceLE, implies_true, Nat.reduceEqDiff, reduceIte, ite_true, ite_false, eq_self, Nat.reduceLT, Nat.reduceLeDiff, Nat.reduceAdd, Nat.reduceMul, Nat.reduceSub, intOf]
    refine stAt (pre := vws H0W) (u := .bool false) (post := vbs bk ++ [.int .u64 n]) c4 hP2.blk rfl rfl rfl (fun w3 hP3 => ?_)
    simp only [↓VD, VP, VT, isAggD, reduceCtorEq, Int.reduceEq, Int.reduceNe, Int.reduceLT, Int.reduceLE, implies_true, Nat.reduceEqDiff, reduceIte, ite_true, ite_false, eq_self, Nat.reduceLT, Nat.reduceLeDiff, Nat.reduceAdd, Nat.reduceMul, Nat.reduceSub, intOf]
    have hx := hP.none rfl
    subst hx
    exact ⟨((KeepB.of_ext hE).trans (KeepB.of_put hP2)).trans (KeepB.of_put hP3), H0W, bk, n, hP3.blk, ⟨rfl, hP.bl, hP.nn, fun h => (by cases h), fun _ => rfl, fun _ => rfl⟩⟩
  · simp only [↓VD, VP, VT, isAggD, reduceCtorEq, Int.reduceEq, Int.reduceNe, Int.reduceLT, Int.reduceLE, implies_true, Nat.reduceEqDiff, reduceIte, ite_true, ite_false, eq_self, Nat.reduceLT, Nat.reduceLeDiff, Nat.reduceAdd, Nat.reduceMul, Nat.reduceSub, intOf]
    exact ⟨KeepB.rfl' w b, h, bk, n, hB, hP⟩

/-- What one round of Write does to the parts: cs go in, as many as fit. -/
theorem StP.step {h : List W32} {bk : List UInt8} {n : Nat} {xs cs : List UInt8} (hP : StP h true bk n xs) (hc : cs.length ≤ 64 - xs.length % 64) (bk' : List UInt8) (hb : bk' = bk.take (xs.length % 64) ++ (cs ++ bk.drop (xs.length % 64 + cs.length))) :
    (xs.length % 64 + cs.length ≠ 64 → StP h true bk' ((n + cs.length) % 18446744073709551616) (xs ++ cs)) ∧ (xs.length % 64 + cs.length = 64 → StP (compW h bk') true bk' ((n + cs.length) % 18446744073709551616) (xs ++ cs)) := by
  have hm : xs.length % 64 < 64 := Nat.mod_lt _ (by decide)
  have hbl := hP.bl
  have hbb := hP.bb rfl
  have hbl' : bk'.length = 64 := by subst hb; simp; omega
  have hn : (n + cs.length) % 18446744073709551616 = (xs ++ cs).length % 18446744073709551616 := by rw [hP.nn, List.length_append]; omega
  have hq : 64 * (xs.length / 64) ≤ xs.length := by omega
  have hdrop : (xs ++ cs).drop (64 * (xs.length / 64)) = bk.take (xs.length % 64) ++ cs := by
    rw [List.drop_append_of_le_length hq, hbb]
  constructor
  · intro hne
    have e1 : (xs ++ cs).length / 64 = xs.length / 64 := by rw [List.length_append]; omega
    have e2 : (xs ++ cs).length % 64 = xs.length % 64 + cs.length := by rw [List.length_append]; omega
    refine ⟨hP.hl, hbl', hn, fun h => (by cases h), fun _ => ?_, fun _ => ?_⟩
    · rw [e1, blocksW_app _ _ _ _ hq]; exact hP.hh rfl
    · rw [e1, e2, hdrop, hb, ← List.append_assoc, List.take_append_of_le_length (by simp; omega), List.take_of_length_le (by simp; omega)]
  · intro he
    have e1 : (xs ++ cs).length / 64 = xs.length / 64 + 1 := by rw [List.length_append]; omega
    have e2 : (xs ++ cs).length % 64 = 0 := by rw [List.length_append]; omega
    have e3 : bk' = bk.take (xs.length % 64) ++ cs := by rw [hb, he, List.drop_eq_nil_of_le (by omega), List.append_nil]
    refine ⟨compW_len _ _ hP.hl, hbl', hn, fun h => (by cases h), fun _ => ?_, fun _ => ?_⟩
    · rw [e1, blocksW, blocksW_app _ _ _ _ hq, hdrop, ← e3, List.take_of_length_le (by omega), ← hP.hh rfl]
    · rw [e2, List.take_zero, e1, List.drop_eq_nil_of_le (by rw [List.length_append]; omega)]


end Go.Proofs.YthlkfjoibjhaiaaGreatDoor

/-! She -/
namespace Go.Proofs.YthlkfjoibjhaiaaGreatDoor
set_option maxRecDepth 100000
set_option maxHeartbeats 2000000
open Go Go.RowKit
set_option linter.unusedVariables false
set_option linter.unusedSimpArgs false

def slLen : Value → Nat
  | .slice _ n _ => n
  | _ => 0
/-- The rest of a slice of one-cell elements. -/
theorem SlN.drop {w : World} {a a' : Option Addr} {n c k b : Nat} {cells : List Value} (h : SlN w (.slice a n c) n cells b) (hl : cells.length = n) (hk : k ≤ n) (h0 : a = none → a' = none)
    (h1 : ∀ b o, a = some ⟨b, o, none⟩ → ∃ o', a' = some ⟨b, o', none⟩ ∧ ((k : Int) < c → o' = o + k)) : SlN w (.slice a' (n - k) (c - k)) (n - k) (cells.drop k) b := by
  obtain ⟨_, _, h2, hn, hm, h⟩ := h
  cases h2
  refine ⟨_, _, rfl, by omega, by omega, ?_⟩
  rcases h with h | ⟨j, o, rfl, hj, h⟩
  · exact Or.inl (by rw [h]; simp)
  · by_cases hkn : k < n
    · obtain ⟨o', rfl, ho⟩ := h1 j o rfl
      obtain rfl := ho (by omega)
      refine Or.inr ⟨j, o + k, rfl, hj, fun i u hi => ?_⟩
      rw [List.getElem?_drop] at hi
      rw [Nat.add_assoc]
      exact h _ _ hi
    · exact Or.inl (List.drop_eq_nil_of_le (by omega))
theorem vbs_take (l : List UInt8) (k : Nat) : (vbs l).take k = vbs (l.take k) := by simp [vbs]
theorem vbs_drop (l : List UInt8) (k : Nat) : (vbs l).drop k = vbs (l.drop k) := by simp [vbs]
theorem stL_len (h : List W32) (t : Bool) (bk : List UInt8) (n : Nat) (hl : h.length = 8) (hb : bk.length = 64) : (stL h t bk n).length = 74 := by simp [stL, vws_len, vbs_len, hl, hb]
theorem stL_splice (h : List W32) (t : Bool) (bk cs : List UInt8) (n r : Nat) (hl : h.length = 8) (hb : bk.length = 64) (hr : r + cs.length ≤ 64) :
    splice (stL h t bk n) (9 + r) (vbs cs) = stL h t (bk.take r ++ (cs ++ bk.drop (r + cs.length))) n := by
  have e1 : stL h t bk n = (vws h ++ [.bool t] ++ vbs (bk.take r)) ++ (vbs ((bk.drop r).take cs.length) ++ (vbs (bk.drop (r + cs.length)) ++ [.int .u64 n])) := by
    have : bk = bk.take r ++ ((bk.drop r).take cs.length ++ bk.drop (r + cs.length)) := by
      rw [← List.drop_drop, List.take_append_drop, List.take_append_drop]
    rw [stL_b]
    conv => lhs; rw [this]
    simp [vbs]
  have e2 : (vws h ++ [Value.bool t] ++ vbs (bk.take r)).length = 9 + r := by simp [vws_len, vbs_len, hl]; omega
  rw [e1, ← e2, splice_seg (by simp [vbs_len]; omega), stL_b]
  simp [vbs]

set_option maxRecDepth 100000 in
theorem Write_ok (b : Nat) (xs ps : List UInt8) (v : Value) (w : World) (hW : WordsAt w 1) (hg : 1 ≠ b) (hS : St w b xs) (hv : SlN w v ps.length (vbs ps) b) :
    CallK Tryz.prog 262 [.pointer (some ⟨b, 0, none⟩), v].toArray w fun v w' => KeepB w w' b ∧ St w' b (xs ++ ps) := by
  refine enterT Tryz.func262 rfl Tryz.ntmps262 Tryz.results262 rfl (by decide) ?_
  simp only [↓VD, VP, VT, isAggD, reduceCtorEq, Int.reduceEq, Int.reduceNe, Int.reduceLT, Int.reduceLE, implies_true, Nat.reduceEqDiff, reduceIte, ite_true, ite_false, eq_self, Nat.reduceLT, Nat.reduceLeDiff, Nat.reduceAdd, Nat.reduceMul, Nat.reduceSub, intOf]
  refine (begin_ok b xs w hS).mono ?_
  rintro _ w1 ⟨hK1, h, bk, n, hB, hP⟩
  simp only [↓VD, VP, VT, isAggD, reduceCtorEq, Int.reduceEq, Int.reduceNe, Int.reduceLT, Int.reduceLE, implies_true, Nat.reduceEqDiff, reduceIte, ite_true, ite_false, eq_self, Nat.reduceLT, Nat.reduceLeDiff, Nat.reduceAdd, Nat.reduceMul, Nat.reduceSub, intOf]
  refine loopT (fun s' w' => KeepB w w' b ∧ s' 0 = .pointer (some ⟨b, 0, none⟩) ∧ ∃ done rest v', ps = done ++ rest ∧ s' 1 = v' ∧ SlN w' v' rest.length (vbs rest) b ∧ ∃ h bk n, Blk w' b 410 (stL h true bk n) ∧ StP h true bk n (xs ++ done))
      (fun s' _ => slLen (s' 1)) ?_ ?_
  · simp only [↓VD, VP, VT, isAggD, reduceCtorEq, Int.reduceEq, Int.reduceNe, Int.reduceLT, Int.reduceLE, implies_true, Nat.reduceEqDiff, reduceIte, ite_true, ite_false, eq_self, Nat.reduceLT, Nat.reduceLeDiff, Nat.reduceAdd, Nat.reduceMul, Nat.reduceSub, intOf]
    exact ⟨hK1, [], ps, v, rfl, rfl, hv.keep hK1, h, bk, n, hB, by simpa using hP⟩
  · clear hK1 hB hP h bk n
    rintro s2 w2 ⟨hK, h0, done, rest, v', hps, h1, hv2, h, bk, n, hB, hP⟩
    have hv3 := hv2
    obtain ⟨a, c, rfl, hnc, hcm, hc⟩ := hv3
    simp only [↓VD, VP, VT, isAggD, reduceCtorEq, Int.reduceEq, Int.reduceNe, Int.reduceLT, Int.reduceLE, implies_true, Nat.reduceEqDiff, reduceIte, ite_true, ite_false, eq_self, Nat.reduceLT, Nat.reduceLeDiff, Nat.reduceAdd, Nat.reduceMul, Nat.reduceSub, intOf, h0, h1]
    refine ⟨fun hlt => ?_, fun hge => ?_⟩
    · have hl := hP.hl
      have hbl := hP.bl
      have hn := hP.nn
      obtain ⟨r, hr⟩ : ∃ r, (xs ++ done).length % 64 = r := ⟨_, rfl⟩
      have hr64 : r < 64 := by omega
      have hnr : IntKind.i64.wrap ((n : Int).tmod 64) = (r : Int) := by
        rw [show (n : Int).tmod 64 = ((n % 64 : Nat) : Int) from tmodN n 64, w64 (by omega) (by omega)]; omega
      refine ldAt (post := []) Tryz.underlying104 rfl (by rw [stL_n] at hB; exact hB) (by simp [vws_len, vbs_len, hl, hbl]) ?_
      simp only [↓VD, VP, VT, isAggD, reduceCtorEq, Int.reduceEq, Int.reduceNe, Int.reduceLT, Int.reduceLE, implies_true, Nat.reduceEqDiff, reduceIte, ite_true, ite_false, eq_self, Nat.reduceLT, Nat.reduceLeDiff, Nat.reduceAdd, Nat.reduceMul, Nat.reduceSub, intOf, h0, h1, hnr]
      refine ⟨by omega, by omega, fun o' ho' => ?_⟩
      obtain rfl : o' = 9 + r := ho' (by omega)
      rw [show ((64 : Int) - (r : Int)).toNat = 64 - r from by omega]
      obtain ⟨c0, hc0⟩ : ∃ c0, min rest.length (64 - r) = c0 := ⟨_, rfl⟩
      refine cpS (sz := 1) Tryz.underlying22 c5 (by decide) hB hv2.sl (by rw [vbs_len]; omega) (vbs_one _) (by rw [stL_len _ _ _ _ hl hbl]; omega) (fun w3 hP3 => ?_)
      have hcs : (rest.take c0).length = c0 := by rw [List.length_take]; omega
      rw [hc0, Nat.mul_one, vbs_take, stL_splice h true bk (rest.take c0) n r hl hbl (by omega), hcs] at hP3
      rw [hc0]
      obtain ⟨bk', hbk'⟩ : ∃ bk', bk.take r ++ (rest.take c0 ++ bk.drop (r + c0)) = bk' := ⟨_, rfl⟩
      rw [hbk'] at hP3
      have hstep := hP.step (cs := rest.take c0) (by omega) bk' (by rw [hr, hcs]; exact hbk'.symm)
      rw [hr, hcs] at hstep
      have hbl' : bk'.length = 64 := by rw [← hbk']; simp; omega
      have hB3 : Blk w3 b 410 (stL h true bk' n) := hP3.blk
      simp only [↓VD, VP, VT, isAggD, reduceCtorEq, Int.reduceEq, Int.reduceNe, Int.reduceLT, Int.reduceLE, implies_true, Nat.reduceEqDiff, reduceIte, ite_true, ite_false, eq_self, Nat.reduceLT, Nat.reduceLeDiff, Nat.reduceAdd, Nat.reduceMul, Nat.reduceSub, intOf, h0, h1]
      refine ⟨by omega, by omega, by omega, fun a' ha1 ha2 => ?_⟩
      have hB3n := hB3
      rw [stL_n] at hB3n
      have h73 : (vws h ++ (Value.bool true :: vbs bk')).length = 73 := by simp [vws_len, vbs_len, hl, hbl']
      refine ldAt (post := []) Tryz.underlying104 rfl hB3n h73 ?_
      have hadd : IntKind.u64.wrap ((n : Int) + (c0 : Int)) = (((n + c0) % 18446744073709551616 : Nat) : Int) := by
        rw [← Int.natCast_add]; exact wr64 (n + c0)
      simp only [↓VD, VP, VT, isAggD, reduceCtorEq, Int.reduceEq, Int.reduceNe, Int.reduceLT, Int.reduceLE, implies_true, Nat.reduceEqDiff, reduceIte, ite_true, ite_false, eq_self, Nat.reduceLT, Nat.reduceLeDiff, Nat.reduceAdd, Nat.reduceMul, Nat.reduceSub, intOf, h0, h1, (show IntKind.u64.wrap ((c0 : Int)) = ((c0 : Nat) : Int) from by rw [wu64 (by omega) (by omega)] <;> omega), hadd]
      refine stAt c104 hB3n h73 rfl rfl (fun w4 hP4 => ?_)
      have hB4 : Blk w4 b 410 (stL h true bk' ((n + c0) % 18446744073709551616)) := by rw [stL_n]; exact hP4.blk
      have hK4 : KeepB w w4 b := (hK.trans (KeepB.of_put hP3)).trans (KeepB.of_put hP4)
      have hv4 : SlN w4 (.slice a' (rest.length - c0) (c - c0)) (rest.drop c0).length (vbs (rest.drop c0)) b := by
        have := ((hv2.put hP3).put hP4).drop (k := c0) (vbs_len _) (by omega) ha1 ha2
        rw [vbs_drop] at this
        rwa [List.length_drop]
      have hps' : ps = (done ++ rest.take c0) ++ rest.drop c0 := by rw [List.append_assoc, List.take_append_drop]; exact hps
      simp only [↓VD, VP, VT, isAggD, reduceCtorEq, Int.reduceEq, Int.reduceNe, Int.reduceLT, Int.reduceLE, implies_true, Nat.reduceEqDiff, reduceIte, ite_true, ite_false, eq_self, Nat.reduceLT, Nat.reduceLeDiff, Nat.reduceAdd, Nat.reduceMul, Nat.reduceSub, intOf, h0, h1, (show IntKind.i64.wrap ((r : Int) + (c0 : Int)) = ((r + c0 : Nat) : Int) from by rw [w64 (by omega) (by omega)] <;> omega)]
      have e1 : ((rest.length : Int) - (c0 : Int)).toNat = rest.length - c0 := by omega
      have e2 : ((c : Int) - (c0 : Int)).toNat = c - c0 := by omega
      refine ⟨fun he => ?_, fun hne => ?_⟩
      · have he' : r + c0 = 64 := by omega
        have hW4 := hK4.wordsAt hW hg
        have hs1 := hstep.2 he'
        generalize (n + c0) % 18446744073709551616 = n' at *
        refine drawH (fun x => Blk x b 410 (stL h true bk' n')) [0, 1, 2, 3, 4, 5, 6, 7, 8, 9, 10, 11, 12] mixed (by decide +kernel) (fun w5 hE5 hh => ⟨hB4.ext hE5, ?_⟩)
        simp only [↓VD, VP, VT, isAggD, reduceCtorEq, Int.reduceEq, Int.reduceNe, Int.reduceLT, Int.reduceLE, implies_true, Nat.reduceEqDiff, reduceIte, ite_true, ite_false, eq_self, Nat.reduceLT, Nat.reduceLeDiff, Nat.reduceAdd, Nat.reduceMul, Nat.reduceSub, intOf, h0, h1]
        refine loadS_of _ (fun x hx => ldSeg (pre := []) (mid := vws h) Tryz.underlying407 rfl hx rfl (by rw [vws_len, hl, c407]) rfl) ?_
        simp only [↓VD, VP, VT, isAggD, reduceCtorEq, Int.reduceEq, Int.reduceNe, Int.reduceLT, Int.reduceLE, implies_true, Nat.reduceEqDiff, reduceIte, ite_true, ite_false, eq_self, Nat.reduceLT, Nat.reduceLeDiff, Nat.reduceAdd, Nat.reduceMul, Nat.reduceSub, intOf, h0, h1]
        refine loadS_of _ (fun x hx => ldSeg (mid := vbs bk') Tryz.underlying408 rfl (by rw [stL_b] at hx; exact hx) (by simp [vws_len, hl]) (by rw [vbs_len, hbl', c408]) rfl) ?_
        simp only [↓VD, VP, VT, isAggD, reduceCtorEq, Int.reduceEq, Int.reduceNe, Int.reduceLT, Int.reduceLE, implies_true, Nat.reduceEqDiff, reduceIte, ite_true, ite_false, eq_self, Nat.reduceLT, Nat.reduceLeDiff, Nat.reduceAdd, Nat.reduceMul, Nat.reduceSub, intOf, h0, h1]
        refine (Compress_ok h bk' hl hbl' w5 (hW4.ext hE5)).mono ?_
        rintro _ w6 ⟨rfl, hE6⟩
        have hB6 := (hB4.ext hE5).ext hE6
        refine told (fun _ => True) hB6 trivial ?_
        simp only [↓VD, VP, VT, isAggD, reduceCtorEq, Int.reduceEq, Int.reduceNe, Int.reduceLT, Int.reduceLE, implies_true, Nat.reduceEqDiff, reduceIte, ite_true, ite_false, eq_self, Nat.reduceLT, Nat.reduceLeDiff, Nat.reduceAdd, Nat.reduceMul, Nat.reduceSub, intOf, h0, h1]
        refine stSeg (pre := []) (mid := vws h) (vs := vws (compW h bk')) (post := .bool true :: (vbs bk' ++ [.int .u64 n'])) hB6 rfl rfl (by rw [c407]; omega) (by rw [c407, vws_len, compW_len _ _ hl]) (by rw [vws_len, vws_len, hl, compW_len _ _ hl]) (vws_one _) (fun w7 hP7 => ?_)
        refine toldL (by unfold LastP; decide +kernel) ?_
        simp only [↓VD, VP, VT, isAggD, reduceCtorEq, Int.reduceEq, Int.reduceNe, Int.reduceLT, Int.reduceLE, implies_true, Nat.reduceEqDiff, reduceIte, ite_true, ite_false, eq_self, Nat.reduceLT, Nat.reduceLeDiff, Nat.reduceAdd, Nat.reduceMul, Nat.reduceSub, intOf, h0, h1]
        have hK7 : KeepB w4 w7 b := ((KeepB.of_ext hE5).trans (KeepB.of_ext hE6)).trans (KeepB.of_put hP7)
        refine ⟨⟨hK4.trans hK7, done ++ rest.take c0, rest.drop c0, _, hps', rfl, ?_, _, _, _, hP7.blk, by rw [← List.append_assoc]; exact hs1⟩, ?_⟩
        · have := hv4.keep hK7
          rw [List.length_drop] at this ⊢
          rw [e1, e2]
          exact this
        · simp only [slLen]; omega
      · have he' : r + c0 ≠ 64 := by omega
        refine ⟨⟨hK4, done ++ rest.take c0, rest.drop c0, _, hps', rfl, ?_, _, _, _, hB4, by rw [← List.append_assoc]; exact hstep.1 he'⟩, ?_⟩
        · rw [List.length_drop] at hv4 ⊢
          rw [e1, e2]
          exact hv4
        · simp only [slLen]; omega
    · exact ⟨hK, h, true, bk, n, hB, by
        have : rest = [] := List.eq_nil_of_length_eq_zero (by omega)
        rw [hps, this, List.append_nil]; exact hP⟩

end Go.Proofs.YthlkfjoibjhaiaaGreatDoor

/-! Shf -/
namespace Go.Proofs.YthlkfjoibjhaiaaGreatDoor
set_option maxRecDepth 100000
set_option maxHeartbeats 2000000
open Go Go.RowKit
set_option linter.unusedVariables false
set_option linter.unusedSimpArgs false

theorem outW_take (h : List W32) (m : Nat) (hm : m < 32) : (outW h).take m ++ [UInt8.ofNat ((h.getD (m / 4) 0).toNat / 2 ^ (24 - 8 * (m % 4)))] = (outW h).take (m + 1) := by
  have hl : m < (outW h).length := by rw [outW_len]; exact hm
  rw [List.take_succ_eq_append_getElem hl]
  simp [outW]
theorem WordsAt.keep {w w' : World} {g B : Nat} (h : WordsAt w g) (e : Below B w w') (hg : g < B) : WordsAt w' g := fun j hj => by
  have hc := h j hj
  rw [← hc]
  simp only [World.cell?, e.block g hg]
theorem WordsAt.lt {w : World} {g : Nat} (h : WordsAt w g) : g < w.heap.size := block_lt_of_cell (h 0 (by decide))

set_option maxRecDepth 100000 in
theorem shaSum_ok (b : Nat) (xs : List UInt8) (w : World) (hx : xs.length < 18446744073709551616) (hW : WordsAt w 1) (hS : St w b xs) :
    CallK Tryz.prog 263 [.pointer (some ⟨b, 0, none⟩)].toArray w fun v w' => v = .agg (vbs (shaP xs)).toArray ∧ Ext w w' := by
  obtain ⟨h, t, bk, n, hB, hP⟩ := hS
  have hl := hP.hl
  have hbl := hP.bl
  have hn : n = xs.length := by rw [hP.nn, Nat.mod_eq_of_lt hx]
  subst hn
  have hgw := hW.lt
  refine enterT Tryz.func263 rfl Tryz.ntmps263 Tryz.results263 rfl (by decide) ?_
  simp only [↓VD, VP, VT, isAggD, reduceCtorEq, Int.reduceEq, Int.reduceNe, Int.reduceLT, Int.reduceLE, implies_true, Nat.reduceEqDiff, reduceIte, ite_true, ite_false, eq_self, Nat.reduceLT, Nat.reduceLeDiff, Nat.reduceAdd, Nat.reduceMul, Nat.reduceSub, intOf]
  intro w1 hN1 w2 hN2
  have s1 := hN1.size
  have s2 := hN2.size
  rw [vbs_rep] at hN1 hN2
  have hB2 := (hB.ext hN1.ext).ext hN2.ext
  refine ldA Tryz.underlying410 rfl hB2 (by rw [stL_len _ _ _ _ hl hbl, c410]) ?_
  simp only [↓VD, VP, VT, isAggD, reduceCtorEq, Int.reduceEq, Int.reduceNe, Int.reduceLT, Int.reduceLE, implies_true, Nat.reduceEqDiff, reduceIte, ite_true, ite_false, eq_self, Nat.reduceLT, Nat.reduceLeDiff, Nat.reduceAdd, Nat.reduceMul, Nat.reduceSub, intOf]
  intro w3 hN3
  have s3 := hN3.size
  refine stAll hN3.blk rfl (by rw [c410]; omega) (by rw [stL_len _ _ _ _ hl hbl, c410]) (by rw [c410]; rfl) ?_ (fun w4 hP4 => ?_)
  · intro v hv
    simp only [stL, List.mem_append, List.mem_cons, List.mem_singleton] at hv
    rcases hv with hv | rfl | hv | rfl | hv
    · exact vws_one _ v hv
    · rfl
    · exact vbs_one _ v hv
    · rfl
    · cases hv
  have s4 := hP4.size
  have hB4 := hP4.keep (hB2.ext hN3.ext) (by have := hB.lt; omega)
  have hE4 : Ext w w4 := ((hN1.ext.trans' hN2.ext).trans' hN3.ext).trans (hP4.below (by omega))
  simp only [↓VD, VP, VT, isAggD, reduceCtorEq, Int.reduceEq, Int.reduceNe, Int.reduceLT, Int.reduceLE, implies_true, Nat.reduceEqDiff, reduceIte, ite_true, ite_false, eq_self, Nat.reduceLT, Nat.reduceLeDiff, Nat.reduceAdd, Nat.reduceMul, Nat.reduceSub, intOf]
  refine ldAt (post := []) Tryz.underlying104 rfl (by rw [stL_n] at hB4; exact hB4) (by simp [vws_len, vbs_len, hl, hbl]) ?_
  simp only [↓VD, VP, VT, isAggD, reduceCtorEq, Int.reduceEq, Int.reduceNe, Int.reduceLT, Int.reduceLE, implies_true, Nat.reduceEqDiff, reduceIte, ite_true, ite_false, eq_self, Nat.reduceLT, Nat.reduceLeDiff, Nat.reduceAdd, Nat.reduceMul, Nat.reduceSub, intOf]
  refine (Padding_ok xs.length hx w4).mono ?_
  rintro _ w5 ⟨g, hg, rfl, hBg, hE5⟩
  have s5 := hE5.size
  have hpl := padW_len xs.length
  have hz : zerosN xs.length < 64 := by unfold zerosN; omega
  simp only [↓VD, VP, VT, isAggD, reduceCtorEq, Int.reduceEq, Int.reduceNe, Int.reduceLT, Int.reduceLE, implies_true, Nat.reduceEqDiff, reduceIte, ite_true, ite_false, eq_self, Nat.reduceLT, Nat.reduceLeDiff, Nat.reduceAdd, Nat.reduceMul, Nat.reduceSub, intOf]
  refine (Write_ok w2.heap.size xs (padW xs.length) _ w5 (hW.ext (hE4.trans' hE5)) (by omega) ⟨h, t, bk, _, hP4.blk.ext hE5, hP⟩ (SlN.of_blk hBg (by omega) (by omega))).mono ?_
  rintro _ w6 ⟨hK6, h', t', bk', n', hB6, hP6⟩
  have s6 := hK6.size
  have hE6 : Ext w w6 := (hE4.trans' hE5).trans (hK6.below (by omega) (by omega))
  have hl' := hP6.hl
  simp only [↓VD, VP, VT, isAggD, reduceCtorEq, Int.reduceEq, Int.reduceNe, Int.reduceLT, Int.reduceLE, implies_true, Nat.reduceEqDiff, reduceIte, ite_true, ite_false, eq_self, Nat.reduceLT, Nat.reduceLeDiff, Nat.reduceAdd, Nat.reduceMul, Nat.reduceSub, intOf]
  refine ldSeg (pre := []) (mid := vws h') Tryz.underlying407 rfl hB6 rfl (by rw [vws_len, hl', c407]) ?_
  simp only [↓VD, VP, VT, isAggD, reduceCtorEq, Int.reduceEq, Int.reduceNe, Int.reduceLT, Int.reduceLE, implies_true, Nat.reduceEqDiff, reduceIte, ite_true, ite_false, eq_self, Nat.reduceLT, Nat.reduceLeDiff, Nat.reduceAdd, Nat.reduceMul, Nat.reduceSub, intOf]
  have hh' : outW h' = shaP xs := by
    have ht : t' = true := by
      cases t'
      · have := hP6.none rfl
        have h0 := congrArg List.length this
        simp [hpl] at h0
      · rfl
    rw [shaP, ← hP6.hh ht]
  have hBo : Blk w6 w1.heap.size 27 (vbs (List.replicate 32 0)) := hK6.blk ((hP4.keep (hN2.blk.ext hN3.ext) (by omega)).ext hE5) (by omega)
  have hBr : Blk w6 w.heap.size 27 (vbs (List.replicate 32 0)) := hK6.blk ((hP4.keep ((hN1.blk.ext hN2.ext).ext hN3.ext) (by omega)).ext hE5) (by omega)
  refine loopT (fun s' w' => Ext w w' ∧ ∃ i : Nat, i ≤ 8 ∧ s' 2 = .pointer (some ⟨w.heap.size, 0, none⟩) ∧ s' 3 = .pointer (some ⟨w1.heap.size, 0, none⟩) ∧ s' 21 = .agg (vws h').toArray ∧ s' 22 = .int .i64 i ∧
      Blk w' w.heap.size 27 (vbs (List.replicate 32 0)) ∧ Blk w' w1.heap.size 27 (vbs ((outW h').take (4 * i) ++ List.replicate (32 - 4 * i) 0)))
      (fun s' _ => 8 - (intOf (s' 22)).toNat) ?_ ?_
  · simp only [↓VD, VP, VT, isAggD, reduceCtorEq, Int.reduceEq, Int.reduceNe, Int.reduceLT, Int.reduceLE, implies_true, Nat.reduceEqDiff, reduceIte, ite_true, ite_false, eq_self, Nat.reduceLT, Nat.reduceLeDiff, Nat.reduceAdd, Nat.reduceMul, Nat.reduceSub, intOf]
    exact ⟨hE6, 0, by omega, rfl, hBr, hBo⟩
  · clear hBo hBr hE6
    rintro s7 w7 ⟨hE, i, hi, h2, h3, h21, h22, hBr, hBo⟩
    simp only [↓VD, VP, VT, isAggD, reduceCtorEq, Int.reduceEq, Int.reduceNe, Int.reduceLT, Int.reduceLE, implies_true, Nat.reduceEqDiff, reduceIte, ite_true, ite_false, eq_self, Nat.reduceLT, Nat.reduceLeDiff, Nat.reduceAdd, Nat.reduceMul, Nat.reduceSub, intOf, h2, h3, h21, h22]
    refine ⟨fun hlt => ?_, fun hge => ?_⟩
    · have hi8 : i < 8 := by omega
      refine ⟨by omega, by omega, _, vws_get (l := h') (by omega), ?_⟩
      simp only [↓VD, VP, VT, isAggD, reduceCtorEq, Int.reduceEq, Int.reduceNe, Int.reduceLT, Int.reduceLE, implies_true, Nat.reduceEqDiff, reduceIte, ite_true, ite_false, eq_self, Nat.reduceLT, Nat.reduceLeDiff, Nat.reduceAdd, Nat.reduceMul, Nat.reduceSub, intOf, h2, h3, h21, h22, vw]
      refine loopT (fun s' w' => Ext w w' ∧ ∃ j : Nat, j ≤ 4 ∧ s' 2 = .pointer (some ⟨w.heap.size, 0, none⟩) ∧ s' 3 = .pointer (some ⟨w1.heap.size, 0, none⟩) ∧ s' 21 = .agg (vws h').toArray ∧ s' 22 = .int .i64 i ∧
        s' 5 = .int .i64 i ∧ s' 6 = .int .u32 (h'.getD i 0).toNat ∧ s' 26 = .int .i64 j ∧
        Blk w' w.heap.size 27 (vbs (List.replicate 32 0)) ∧ Blk w' w1.heap.size 27 (vbs ((outW h').take (4 * i + j) ++ List.replicate (32 - (4 * i + j)) 0)))
        (fun s' _ => 4 - (intOf (s' 26)).toNat) ?_ ?_
      · simp only [↓VD, VP, VT, isAggD, reduceCtorEq, Int.reduceEq, Int.reduceNe, Int.reduceLT, Int.reduceLE, implies_true, Nat.reduceEqDiff, reduceIte, ite_true, ite_false, eq_self, Nat.reduceLT, Nat.reduceLeDiff, Nat.reduceAdd, Nat.reduceMul, Nat.reduceSub, intOf, h2, h3, h21, h22]
        exact ⟨hE, 0, by omega, rfl, hBr, hBo⟩
      · have hmu := h22
        clear h2 h3 h21 h22 hBr hBo hE
        rintro s8 w8 ⟨hE, j, hj, h2, h3, h21, h22, h5, h6, h26, hBr, hBo⟩
        simp only [↓VD, VP, VT, isAggD, reduceCtorEq, Int.reduceEq, Int.reduceNe, Int.reduceLT, Int.reduceLE, implies_true, Nat.reduceEqDiff, reduceIte, ite_true, ite_false, eq_self, Nat.reduceLT, Nat.reduceLeDiff, Nat.reduceAdd, Nat.reduceMul, Nat.reduceSub, intOf, h2, h3, h21, h22, h5, h6, h26]
        refine ⟨fun hlt2 => ?_, fun hge2 => ?_⟩
        · have hj4 : j < 4 := by omega
          simp only [↓VD, VP, VT, isAggD, reduceCtorEq, Int.reduceEq, Int.reduceNe, Int.reduceLT, Int.reduceLE, implies_true, Nat.reduceEqDiff, reduceIte, ite_true, ite_false, eq_self, Nat.reduceLT, Nat.reduceLeDiff, Nat.reduceAdd, Nat.reduceMul, Nat.reduceSub, intOf, h2, h3, h21, h22, h5, h6, h26, (show IntKind.i64.wrap (4 * (i : Int)) = ((4 * i : Nat) : Int) from by rw [w64 (by omega) (by omega)] <;> omega), (show IntKind.i64.wrap (((4 * i : Nat) : Int) + (j : Int)) = ((4 * i + j : Nat) : Int) from by rw [w64 (by omega) (by omega)] <;> omega), (show IntKind.i64.wrap (8 * (j : Int)) = ((8 * j : Nat) : Int) from by rw [w64 (by omega) (by omega)] <;> omega), (show IntKind.i64.wrap (24 - ((8 * j : Nat) : Int)) = ((24 - 8 * j : Nat) : Int) from by rw [w64 (by omega) (by omega)] <;> omega), show ((h'.getD i 0).toNat : Int).fdiv (2 ^ min (24 - 8 * j) IntKind.u32.bits) = (((h'.getD i 0).toNat / 2 ^ (24 - 8 * j) : Nat) : Int) from fdivN _ (24 - 8 * j) 32 (by omega), wr8]
          refine ⟨by omega, by omega, by omega, stV c5 hBo rfl rfl (by rw [vbs_len]; simp [outW_len]; omega) (fun w9 hP => ?_)⟩
          have ht := outW_take h' (4 * i + j) (by omega)
          rw [show (4 * i + j) / 4 = i from by omega, show (4 * i + j) % 4 = j from by omega] at ht
          rw [vbs_set, set_tail (by simp [outW_len]; omega) (by omega), ht] at hP
          simp only [↓VD, VP, VT, isAggD, reduceCtorEq, Int.reduceEq, Int.reduceNe, Int.reduceLT, Int.reduceLE, implies_true, Nat.reduceEqDiff, reduceIte, ite_true, ite_false, eq_self, Nat.reduceLT, Nat.reduceLeDiff, Nat.reduceAdd, Nat.reduceMul, Nat.reduceSub, intOf, h2, h3, h21, h22, h5, h6, h26]
          refine ⟨⟨hE.trans (hP.below (by omega)), j + 1, by omega, ?_, hP.keep hBr (by omega), hP.blk⟩, ?_⟩
          · rw [w64 (by omega) (by omega)]; rfl
          · rw [w64 (by omega) (by omega)]; omega
        · have hj4 : j = 4 := by omega
          subst hj4
          simp only [hmu, intOf]
          refine ⟨⟨hE, i + 1, by omega, ?_, hBr, hBo⟩, ?_⟩
          · rw [w64 (by omega) (by omega)]; rfl
          · rw [w64 (by omega) (by omega)]; omega
    · have hi8 : i = 8 := by omega
      subst hi8
      have e1 : (outW h').take (4 * 8) ++ List.replicate (32 - 4 * 8) 0 = shaP xs := by
        rw [← hh', List.take_of_length_le (by rw [outW_len]; omega), show 32 - 4 * 8 = 0 from rfl, List.replicate_zero, List.append_nil]
      rw [e1] at hBo
      have hsl := shaP_len xs
      refine ldA Tryz.underlying27 rfl hBo (by rw [vbs_len, hsl, c27]) ?_
      simp only [↓VD, VP, VT, isAggD, reduceCtorEq, Int.reduceEq, Int.reduceNe, Int.reduceLT, Int.reduceLE, implies_true, Nat.reduceEqDiff, reduceIte, ite_true, ite_false, eq_self, Nat.reduceLT, Nat.reduceLeDiff, Nat.reduceAdd, Nat.reduceMul, Nat.reduceSub, intOf, h2, h3, h21, h22]
      refine stAll hBr rfl (by rw [c27]; omega) (by rw [c27, vbs_len, hsl]) (by rw [c27]; rfl) (vbs_one _) (fun w9 hP => ?_)
      simp only [↓VD, VP, VT, isAggD, reduceCtorEq, Int.reduceEq, Int.reduceNe, Int.reduceLT, Int.reduceLE, implies_true, Nat.reduceEqDiff, reduceIte, ite_true, ite_false, eq_self, Nat.reduceLT, Nat.reduceLeDiff, Nat.reduceAdd, Nat.reduceMul, Nat.reduceSub, intOf, h2, h3, h21, h22]
      refine ldA Tryz.underlying27 rfl hP.blk (by rw [c27, vbs_len, hsl]) ?_
      exact ⟨rfl, hE.trans (hP.below (by omega))⟩

end Go.Proofs.YthlkfjoibjhaiaaGreatDoor

/-! RefA -/
namespace Go.Proofs.YthlkfjoibjhaiaaGreatDoor
set_option maxRecDepth 100000
set_option maxHeartbeats 2000000
open Go Go.RowKit
set_option linter.unusedVariables false
set_option linter.unusedSimpArgs false

end Go.Proofs.YthlkfjoibjhaiaaGreatDoor

/-! RefB -/
namespace Go.Proofs.YthlkfjoibjhaiaaGreatDoor
set_option maxRecDepth 100000
set_option maxHeartbeats 2000000
open Go Go.RowKit
set_option linter.unusedVariables false
set_option linter.unusedSimpArgs false

end Go.Proofs.YthlkfjoibjhaiaaGreatDoor

/-! Wir -/
namespace Go.Proofs.YthlkfjoibjhaiaaGreatDoor
set_option maxRecDepth 100000
set_option maxHeartbeats 2000000
open Go Go.RowKit
set_option linter.unusedVariables false
set_option linter.unusedSimpArgs false

/-- A slice of bytes that may be read. -/
abbrev SlB (w : World) (v : Value) (xs : List UInt8) : Prop := SlC w v xs.length (vbs xs)
theorem slv_of {w : World} {v : Value} {n : Nat} {l : List Value} (h : SlC w v n l) : ∃ a c, v = .slice a n c := by obtain ⟨a, c, rfl, _⟩ := h; exact ⟨a, c, rfl⟩
/-- A writer in block b that has written xs. -/
def Wr (w : World) (base b : Nat) (xs : List UInt8) : Prop := ∃ v, Blk w b 246 [v] ∧ Own w base 5 1 v xs.length (vbs xs)
/-- Kept: all blocks but b, and but the blocks of bytes at base or above. -/
structure KeepW (w w' : World) (base b : Nat) : Prop where
  os : w'.os = w.os
  tape : w'.tape = w.tape
  output : w'.output = w.output
  size : w.heap.size ≤ w'.heap.size
  other : ∀ k, k < w.heap.size → k ≠ b → (k < base ∨ ∀ cs r, w.heap[k]? ≠ some (.cells cs 5 r)) → w'.heap[k]? = w.heap[k]?
theorem KeepW.rfl' (w : World) (base b : Nat) : KeepW w w base b := ⟨rfl, rfl, rfl, Nat.le_refl _, fun _ _ _ _ => rfl⟩
theorem KeepW.trans {a b c : World} {base k : Nat} (h : KeepW a b base k) (g : KeepW b c base k) : KeepW a c base k :=
  ⟨g.os.trans h.os, g.tape.trans h.tape, g.output.trans h.output, Nat.le_trans h.size g.size, fun j hj hk ht => by
    have e := h.other j hj hk ht
    rw [g.other j (by have := h.size; omega) hk (by rw [e]; exact ht), e]⟩
theorem KeepW.of_ext {w w' : World} {base b : Nat} (h : Ext w w') : KeepW w w' base b := ⟨h.os, h.tape, h.output, h.size, fun k hk _ _ => h.block k hk⟩
theorem KeepW.below {w w' : World} {base b : Nat} (h : KeepW w w' base b) (hB : base ≤ b) (hw : base ≤ w.heap.size) : Below base w w' := ⟨h.os, h.tape, h.output, h.size, fun k hk => h.other k (by omega) (by omega) (Or.inl hk)⟩
theorem KeepW.blk {w w' : World} {base b c : Nat} {T : TypeId} {l : List Value} (h : KeepW w w' base b) (k : Blk w c T l) (hc : c ≠ b) (hT : T ≠ 5) : Blk w' c T l :=
  ⟨by rw [h.other c k.lt hc (Or.inr fun cs r e => by rw [k.out] at e; cases e; exact hT rfl)]; exact k.out⟩
theorem Own.put {w w' : World} {base e sz n b T U : Nat} {v : Value} {xs l m : List Value} (h : Own w base e sz v n xs) (k : Blk w b T l) (hT : T ≠ e) (p : Put w w' b U m) : Own w' base e sz v n xs := by
  refine ⟨h.1, ?_⟩
  rcases h.2 with hn | ⟨g, cap, cur, rfl, hbg, hg, rest⟩
  · exact .inl hn
  · refine .inr ⟨g, cap, cur, rfl, hbg, ?_, rest⟩
    rw [p.other g]
    · exact hg
    · rintro rfl
      rw [k.out] at hg
      cases hg
      exact hT rfl
theorem Own.blk {w w' : World} {base e sz n b T : Nat} {v : Value} {xs l : List Value} (h : Own w base e sz v n xs) (k : Blk w b T l) (hT : T ≠ e) (g : w.grownBy w' v.ownBlock) : Blk w' b T l := by
  have hne : some b ≠ v.ownBlock := by
    rcases h.2 with ⟨rfl, _⟩ | ⟨j, cap, cur, rfl, hbg, hg, rest⟩
    · simp [Value.ownBlock]
    · simp only [Value.ownBlock, ne_eq, Option.some.injEq]
      rintro rfl
      rw [k.out] at hg
      cases hg
      exact hT rfl
  exact ⟨by rw [g.block b k.lt hne]; exact k.out⟩
theorem KeepW.of_grown {w w' : World} {base b n : Nat} {v : Value} {xs : List Value} (h : Own w base 5 1 v n xs) (g : w.grownBy w' v.ownBlock) : KeepW w w' base b := by
  refine ⟨g.os, g.tape, g.output, g.size, fun k hk _ ht => g.block k hk ?_⟩
  rcases h.2 with ⟨rfl, _⟩ | ⟨j, cap, cur, rfl, hbg, hg, rest⟩
  · simp [Value.ownBlock]
  · simp only [Value.ownBlock, ne_eq, Option.some.injEq]
    rintro rfl
    rcases ht with ht | ht
    · omega
    · exact ht _ _ hg
theorem Own.of_blk {w : World} {base e sz n b : Nat} {l : List Value} (hB : Blk w b e l) (hb : base ≤ b) (hl : l.length = n * sz) (hn : n ≤ 9223372036854775807) : Own w base e sz (.slice (some ⟨b, 0, none⟩) n n) n l :=
  ⟨hl, .inr ⟨b, n, l.toArray, rfl, hb, hB.out, Nat.le_refl _, by rw [maxLen_eq]; exact hn, by simpa using hl, by simp [← hl]⟩⟩
theorem KeepW.of_put {w w' : World} {base b : Nat} {T : TypeId} {l : List Value} (h : Put w w' b T l) : KeepW w w' base b := ⟨h.os, h.tape, h.output, Nat.le_of_eq h.size.symm, fun k _ hk _ => h.other k hk⟩

set_option maxRecDepth 100000 in
theorem add_ok (base b : Nat) (xs ps : List UInt8) (v : Value) (w : World) (hb : base ≤ w.heap.size) (hS : Wr w base b xs) (hv : SlB w v ps) (hsz : xs.length + ps.length ≤ 140737488355328) :
    CallK Tryz.prog 284 [.pointer (some ⟨b, 0, none⟩), v].toArray w fun _ w' => Wr w' base b (xs ++ ps) ∧ KeepW w w' base b := by
  obtain ⟨x, hB, hO⟩ := hS
  refine enterT Tryz.func284 rfl Tryz.ntmps284 Tryz.results284 rfl (by decide) ?_
  simp only [↓VD, VP, VT, isAggD, reduceCtorEq, Int.reduceEq, Int.reduceNe, Int.reduceLT, Int.reduceLE, implies_true, Nat.reduceEqDiff, reduceIte, ite_true, ite_false, eq_self, Nat.reduceLT, Nat.reduceLeDiff, Nat.reduceAdd, Nat.reduceMul, Nat.reduceSub, intOf]
  refine ldAt (pre := []) (post := []) Tryz.underlying22 rfl hB rfl ?_
  simp only [↓VD, VP, VT, isAggD, reduceCtorEq, Int.reduceEq, Int.reduceNe, Int.reduceLT, Int.reduceLE, implies_true, Nat.reduceEqDiff, reduceIte, ite_true, ite_false, eq_self, Nat.reduceLT, Nat.reduceLeDiff, Nat.reduceAdd, Nat.reduceMul, Nat.reduceSub, intOf]
  refine apS Tryz.underlying22 z5 c5 rfl (by decide) hO hb hv (by rw [vbs_len, Nat.mul_one]) (vbs_one _) (by omega) (by rw [by5]; omega) (fun v' w1 hO1 hg => ?_)
  have hB1 := hO.blk hB (by decide) hg
  simp only [↓VD, VP, VT, isAggD, reduceCtorEq, Int.reduceEq, Int.reduceNe, Int.reduceLT, Int.reduceLE, implies_true, Nat.reduceEqDiff, reduceIte, ite_true, ite_false, eq_self, Nat.reduceLT, Nat.reduceLeDiff, Nat.reduceAdd, Nat.reduceMul, Nat.reduceSub, intOf]
  obtain ⟨a1, n1, c1, rfl⟩ : ∃ a n c, v' = .slice a n c := by
    rcases hO1.2 with ⟨rfl, _⟩ | ⟨g, cap, cur, rfl, _⟩
    · exact ⟨_, _, _, rfl⟩
    · exact ⟨_, _, _, rfl⟩
  refine stAt (pre := []) (post := []) c22 hB1 rfl rfl rfl (fun w2 hP => ?_)
  simp only [↓VD, VP, VT, isAggD, reduceCtorEq, Int.reduceEq, Int.reduceNe, Int.reduceLT, Int.reduceLE, implies_true, Nat.reduceEqDiff, reduceIte, ite_true, ite_false, eq_self, Nat.reduceLT, Nat.reduceLeDiff, Nat.reduceAdd, Nat.reduceMul, Nat.reduceSub, intOf]
  refine ⟨⟨_, hP.blk, ?_⟩, (KeepW.of_grown hO hg).trans (KeepW.of_put hP)⟩
  have := hO1.put hB1 (by decide) hP
  simpa [vbs] using this

set_option maxRecDepth 100000 in
theorem addOne (base b : Nat) (xs : List UInt8) (y : UInt8) (w w1 : World) (hb : base ≤ w.heap.size) (hS : Wr w base b xs) (hsz : xs.length + 1 ≤ 140737488355328) (hN : NewB w w1 5 [.int .u8 y.toNat]) :
    CallK Tryz.prog 284 [.pointer (some ⟨b, 0, none⟩), .slice (some ⟨w.heap.size, 0, none⟩) 1 1].toArray w1 fun _ w' => Wr w' base b (xs ++ [y]) ∧ KeepW w w' base b := by
  obtain ⟨x, hB, hO⟩ := hS
  refine (add_ok base b xs [y] _ w1 (by have := hN.size; omega) ⟨x, hB.ext hN.ext, hO.ext hN.ext⟩ (SlC.of_blk hN.blk (by simp)) (by simpa using hsz)).mono ?_
  rintro _ w2 ⟨h1, h2⟩
  exact ⟨h1, (KeepW.of_ext hN.ext).trans h2⟩

set_option maxRecDepth 100000 in
theorem U8_ok (base b : Nat) (xs : List UInt8) (y : UInt8) (w : World) (hb : base ≤ w.heap.size) (hS : Wr w base b xs) (hsz : xs.length + 1 ≤ 140737488355328) :
    CallK Tryz.prog 178 [.pointer (some ⟨b, 0, none⟩), .int .u8 y.toNat].toArray w fun _ w' => Wr w' base b (xs ++ [y]) ∧ KeepW w w' base b := by
  refine enterT Tryz.func178 rfl Tryz.ntmps178 Tryz.results178 rfl (by decide) ?_
  simp only [↓VD, VP, VT, isAggD, reduceCtorEq, Int.reduceEq, Int.reduceNe, Int.reduceLT, Int.reduceLE, implies_true, Nat.reduceEqDiff, reduceIte, ite_true, ite_false, eq_self, Nat.reduceLT, Nat.reduceLeDiff, Nat.reduceAdd, Nat.reduceMul, Nat.reduceSub, intOf]
  refine ⟨rfl, rfl, fun w1 hN => ?_⟩
  refine (addOne base b xs y w w1 hb hS hsz hN).mono ?_
  rintro _ w2 h
  simp only [↓VD, VP, VT, isAggD, reduceCtorEq, Int.reduceEq, Int.reduceNe, Int.reduceLT, Int.reduceLE, implies_true, Nat.reduceEqDiff, reduceIte, ite_true, ite_false, eq_self, Nat.reduceLT, Nat.reduceLeDiff, Nat.reduceAdd, Nat.reduceMul, Nat.reduceSub, intOf]
  exact h

set_option maxRecDepth 100000 in
theorem Raw_ok (base b : Nat) (xs ps : List UInt8) (v : Value) (w : World) (hb : base ≤ w.heap.size) (hS : Wr w base b xs) (hv : SlB w v ps) (hsz : xs.length + ps.length ≤ 140737488355328) :
    CallK Tryz.prog 179 [.pointer (some ⟨b, 0, none⟩), v].toArray w fun _ w' => Wr w' base b (xs ++ ps) ∧ KeepW w w' base b := by
  refine enterT Tryz.func179 rfl Tryz.ntmps179 Tryz.results179 rfl (by decide) ?_
  simp only [↓VD, VP, VT, isAggD, reduceCtorEq, Int.reduceEq, Int.reduceNe, Int.reduceLT, Int.reduceLE, implies_true, Nat.reduceEqDiff, reduceIte, ite_true, ite_false, eq_self, Nat.reduceLT, Nat.reduceLeDiff, Nat.reduceAdd, Nat.reduceMul, Nat.reduceSub, intOf]
  refine (add_ok base b xs ps v w hb hS hv hsz).mono ?_
  rintro _ w2 h
  simp only [↓VD, VP, VT, isAggD, reduceCtorEq, Int.reduceEq, Int.reduceNe, Int.reduceLT, Int.reduceLE, implies_true, Nat.reduceEqDiff, reduceIte, ite_true, ite_false, eq_self, Nat.reduceLT, Nat.reduceLeDiff, Nat.reduceAdd, Nat.reduceMul, Nat.reduceSub, intOf]
  exact h

/-! ### Uvar -/
def uvarP (n : Nat) : List UInt8 := if h : n < 128 then [UInt8.ofNat n] else UInt8.ofNat (n % 128 + 128) :: uvarP (n / 128)
termination_by n
decreasing_by omega
theorem uvarP_lo {n : Nat} (h : n < 128) : uvarP n = [UInt8.ofNat n] := by rw [uvarP, dif_pos h]
theorem uvarP_hi {n : Nat} (h : ¬ n < 128) : uvarP n = UInt8.ofNat (n % 128 + 128) :: uvarP (n / 128) := by rw [uvarP, dif_neg h]
theorem uvarP_len : ∀ (k n : Nat), n < 128 ^ (k + 1) → (uvarP n).length ≤ k + 1
  | 0, n, h => by rw [uvarP_lo (by simpa using h)]; simp
  | k + 1, n, h => by
    by_cases h1 : n < 128
    · rw [uvarP_lo h1]; simp
    · rw [uvarP_hi h1, List.length_cons]
      have := uvarP_len k (n / 128) (by rw [Nat.div_lt_iff_lt_mul (by decide)]; rw [Nat.pow_succ] at h; exact h)
      omega
theorem uvarP_len10 {n : Nat} (h : n < 18446744073709551616) : (uvarP n).length ≤ 10 := uvarP_len 9 n (by omega)
theorem or128 (n : Nat) : ibits .or .u8 (IntKind.u8.wrap (n : Int)) 128 = ((UInt8.ofNat (n % 128 + 128)).toNat : Int) := by
  rw [wr8]
  have key : ∀ k : Fin 256, ibits .or .u8 ((k.val : Nat) : Int) 128 = ((k.val % 128 + 128 : Nat) : Int) := by decide +kernel
  have h := key ⟨(UInt8.ofNat n).toNat, UInt8.toNat_lt _⟩
  simp only at h
  rw [h]
  simp
  omega

set_option maxRecDepth 100000 in
theorem Uvar_ok (base b : Nat) (xs : List UInt8) (n : Nat) (hn : n < 18446744073709551616) (w : World) (hb : base ≤ w.heap.size) (hS : Wr w base b xs) (hsz : xs.length + 10 ≤ 140737488355328) :
    CallK Tryz.prog 181 [.pointer (some ⟨b, 0, none⟩), .int .u64 n].toArray w fun _ w' => Wr w' base b (xs ++ uvarP n) ∧ KeepW w w' base b := by
  have hlen := uvarP_len10 hn
  refine enterT Tryz.func181 rfl Tryz.ntmps181 Tryz.results181 rfl (by decide) ?_
  simp only [↓VD, VP, VT, isAggD, reduceCtorEq, Int.reduceEq, Int.reduceNe, Int.reduceLT, Int.reduceLE, implies_true, Nat.reduceEqDiff, reduceIte, ite_true, ite_false, eq_self, Nat.reduceLT, Nat.reduceLeDiff, Nat.reduceAdd, Nat.reduceMul, Nat.reduceSub, intOf]
  refine loopT (fun s' w' => KeepW w w' base b ∧ s' 0 = .pointer (some ⟨b, 0, none⟩) ∧ ∃ m pre, s' 1 = .int .u64 (m : Nat) ∧ m ≤ n ∧ uvarP n = pre ++ uvarP m ∧ Wr w' base b (xs ++ pre)) (fun s' _ => (intOf (s' 1)).toNat) ?_ ?_
  · simp only [↓VD, VP, VT, isAggD, reduceCtorEq, Int.reduceEq, Int.reduceNe, Int.reduceLT, Int.reduceLE, implies_true, Nat.reduceEqDiff, reduceIte, ite_true, ite_false, eq_self, Nat.reduceLT, Nat.reduceLeDiff, Nat.reduceAdd, Nat.reduceMul, Nat.reduceSub, intOf]
    exact ⟨KeepW.rfl' w base b, n, [], rfl, Nat.le_refl _, rfl, by simpa using hS⟩
  · rintro s1 w1 ⟨hK, h0, m, pre, h1, hmn, hp, hS1⟩
    have hs1 := hK.size
    have hpl : pre.length + (uvarP m).length ≤ 10 := by rw [← List.length_append, ← hp]; exact hlen
    have hul : 1 ≤ (uvarP m).length := by
      by_cases h : m < 128
      · rw [uvarP_lo h]; simp
      · rw [uvarP_hi h]; simp
    simp only [↓VD, VP, VT, isAggD, reduceCtorEq, Int.reduceEq, Int.reduceNe, Int.reduceLT, Int.reduceLE, implies_true, Nat.reduceEqDiff, reduceIte, ite_true, ite_false, eq_self, Nat.reduceLT, Nat.reduceLeDiff, Nat.reduceAdd, Nat.reduceMul, Nat.reduceSub, intOf, h0, h1]
    refine ⟨fun hge => ?_, fun hlt => ?_⟩
    · have h2 : ¬ m < 128 := by omega
      simp only [↓VD, VP, VT, isAggD, reduceCtorEq, Int.reduceEq, Int.reduceNe, Int.reduceLT, Int.reduceLE, implies_true, Nat.reduceEqDiff, reduceIte, ite_true, ite_false, eq_self, Nat.reduceLT, Nat.reduceLeDiff, Nat.reduceAdd, Nat.reduceMul, Nat.reduceSub, intOf, h0, h1, or128]
      refine ⟨rfl, rfl, fun w2 hN => ?_⟩
      refine (addOne base b (xs ++ pre) _ w1 w2 (by omega) hS1 (by rw [List.length_append]; omega) hN).mono ?_
      rintro _ w3 ⟨hS3, hK3⟩
      simp only [↓VD, VP, VT, isAggD, reduceCtorEq, Int.reduceEq, Int.reduceNe, Int.reduceLT, Int.reduceLE, implies_true, Nat.reduceEqDiff, reduceIte, ite_true, ite_false, eq_self, Nat.reduceLT, Nat.reduceLeDiff, Nat.reduceAdd, Nat.reduceMul, Nat.reduceSub, intOf, h0, h1, show (m : Int).fdiv (2 ^ min (Int.toNat 7) IntKind.u64.bits) = ((m / 2 ^ 7 : Nat) : Int) from fdivN m 7 64 (by decide)]
      refine ⟨⟨hK.trans hK3, m / 128, pre ++ [UInt8.ofNat (m % 128 + 128)], rfl, by omega, ?_, by rw [← List.append_assoc]; exact hS3⟩, by omega⟩
      rw [hp, uvarP_hi h2]; simp
    · have h2 : m < 128 := by omega
      simp only [↓VD, VP, VT, isAggD, reduceCtorEq, Int.reduceEq, Int.reduceNe, Int.reduceLT, Int.reduceLE, implies_true, Nat.reduceEqDiff, reduceIte, ite_true, ite_false, eq_self, Nat.reduceLT, Nat.reduceLeDiff, Nat.reduceAdd, Nat.reduceMul, Nat.reduceSub, intOf, h0, h1, wr8]
      refine ⟨rfl, rfl, fun w2 hN => ?_⟩
      refine (addOne base b (xs ++ pre) _ w1 w2 (by omega) hS1 (by rw [List.length_append]; omega) hN).mono ?_
      rintro _ w3 ⟨hS3, hK3⟩
      simp only [↓VD, VP, VT, isAggD, reduceCtorEq, Int.reduceEq, Int.reduceNe, Int.reduceLT, Int.reduceLE, implies_true, Nat.reduceEqDiff, reduceIte, ite_true, ite_false, eq_self, Nat.reduceLT, Nat.reduceLeDiff, Nat.reduceAdd, Nat.reduceMul, Nat.reduceSub, intOf, h0, h1]
      refine ⟨?_, hK.trans hK3⟩
      rw [hp, uvarP_lo h2, ← List.append_assoc]
      exact hS3

def blobP (ps : List UInt8) : List UInt8 := uvarP ps.length ++ ps
set_option maxRecDepth 100000 in
theorem Blob_ok (base b : Nat) (xs ps : List UInt8) (v : Value) (w w0 : World) (hb : base ≤ w.heap.size) (hbb : base ≤ b) (hS : Wr w base b xs) (hv : SlB w0 v ps) (h0 : Ext w0 w) (h1 : w0.heap.size ≤ base) (hsz : xs.length + ps.length + 10 ≤ 140737488355328) :
    CallK Tryz.prog 182 [.pointer (some ⟨b, 0, none⟩), v].toArray w fun _ w' => Wr w' base b (xs ++ blobP ps) ∧ KeepW w w' base b := by
  have hv' := hv
  obtain ⟨a, c, rfl, hnc, hcm, hc⟩ := hv'
  refine enterT Tryz.func182 rfl Tryz.ntmps182 Tryz.results182 rfl (by decide) ?_
  simp only [↓VD, VP, VT, isAggD, reduceCtorEq, Int.reduceEq, Int.reduceNe, Int.reduceLT, Int.reduceLE, implies_true, Nat.reduceEqDiff, reduceIte, ite_true, ite_false, eq_self, Nat.reduceLT, Nat.reduceLeDiff, Nat.reduceAdd, Nat.reduceMul, Nat.reduceSub, intOf, (show IntKind.u64.wrap ((ps.length : Int)) = ((ps.length : Nat) : Int) from by rw [wu64 (by omega) (by omega)] <;> omega)]
  refine (Uvar_ok base b xs ps.length (by omega) w hb hS (by omega)).mono ?_
  rintro _ w1 ⟨hS1, hK1⟩
  have hs1 := hK1.size
  have hul := uvarP_len10 (n := ps.length) (by omega)
  simp only [↓VD, VP, VT, isAggD, reduceCtorEq, Int.reduceEq, Int.reduceNe, Int.reduceLT, Int.reduceLE, implies_true, Nat.reduceEqDiff, reduceIte, ite_true, ite_false, eq_self, Nat.reduceLT, Nat.reduceLeDiff, Nat.reduceAdd, Nat.reduceMul, Nat.reduceSub, intOf]
  have hE1 : Ext w0 w1 := h0.trans ((hK1.below hbb hb).mono h1)
  refine (Raw_ok base b (xs ++ uvarP ps.length) ps _ w1 (by omega) hS1 (hv.ext hE1) (by rw [List.length_append]; omega)).mono ?_
  rintro _ w2 ⟨hS2, hK2⟩
  simp only [↓VD, VP, VT, isAggD, reduceCtorEq, Int.reduceEq, Int.reduceNe, Int.reduceLT, Int.reduceLE, implies_true, Nat.reduceEqDiff, reduceIte, ite_true, ite_false, eq_self, Nat.reduceLT, Nat.reduceLeDiff, Nat.reduceAdd, Nat.reduceMul, Nat.reduceSub, intOf]
  refine ⟨?_, hK1.trans hK2⟩
  rw [blobP, ← List.append_assoc]
  exact hS2

/-! ### wide, U16 -/
def wideP (v k : Nat) : List UInt8 := (List.range k).map fun i => UInt8.ofNat (v / 2 ^ (8 * (k - 1 - i)))
theorem wideP_len (v k : Nat) : (wideP v k).length = k := by simp [wideP]
theorem wideP_take (v k i : Nat) (hi : i < k) : (wideP v k).take i ++ [UInt8.ofNat (v / 2 ^ (8 * (k - 1 - i)))] = (wideP v k).take (i + 1) := by
  rw [List.take_succ_eq_append_getElem (by rw [wideP_len]; exact hi)]
  simp [wideP]
set_option maxRecDepth 100000 in
theorem wide_ok (base b : Nat) (xs : List UInt8) (n k : Nat) (hk : k ≤ 8) (w : World) (hb : base ≤ w.heap.size) (hS : Wr w base b xs) (hsz : xs.length + 8 ≤ 140737488355328) :
    CallK Tryz.prog 286 [.pointer (some ⟨b, 0, none⟩), .int .u64 n, .int .i64 k].toArray w fun _ w' => Wr w' base b (xs ++ wideP n k) ∧ KeepW w w' base b := by
  refine enterT Tryz.func286 rfl Tryz.ntmps286 Tryz.results286 rfl (by decide) ?_
  simp only [↓VD, VP, VT, isAggD, reduceCtorEq, Int.reduceEq, Int.reduceNe, Int.reduceLT, Int.reduceLE, implies_true, Nat.reduceEqDiff, reduceIte, ite_true, ite_false, eq_self, Nat.reduceLT, Nat.reduceLeDiff, Nat.reduceAdd, Nat.reduceMul, Nat.reduceSub, intOf]
  have hk1 : IntKind.i64.wrap ((k : Int) - 1) = (k : Int) - 1 := w64 (by omega) (by omega)
  refine loopT (fun s' w' => KeepW w w' base b ∧ s' 0 = .pointer (some ⟨b, 0, none⟩) ∧ s' 1 = .int .u64 n ∧ ∃ i : Nat, i ≤ k ∧ s' 6 = .int .i64 ((k : Int) - 1 - i) ∧ Wr w' base b (xs ++ (wideP n k).take i)) (fun s' _ => (intOf (s' 6) + 1).toNat) ?_ ?_
  · simp only [↓VD, VP, VT, isAggD, reduceCtorEq, Int.reduceEq, Int.reduceNe, Int.reduceLT, Int.reduceLE, implies_true, Nat.reduceEqDiff, reduceIte, ite_true, ite_false, eq_self, Nat.reduceLT, Nat.reduceLeDiff, Nat.reduceAdd, Nat.reduceMul, Nat.reduceSub, intOf, hk1]
    exact ⟨KeepW.rfl' w base b, 0, by omega, by omega, by simpa using hS⟩
  · rintro s1 w1 ⟨hK, h0, h1, i, hi, h6, hS1⟩
    have hs1 := hK.size
    simp only [↓VD, VP, VT, isAggD, reduceCtorEq, Int.reduceEq, Int.reduceNe, Int.reduceLT, Int.reduceLE, implies_true, Nat.reduceEqDiff, reduceIte, ite_true, ite_false, eq_self, Nat.reduceLT, Nat.reduceLeDiff, Nat.reduceAdd, Nat.reduceMul, Nat.reduceSub, intOf, h0, h1, h6]
    refine ⟨fun hge => ?_, fun hlt => ?_⟩
    · have hik : i < k := by omega
      have e1 : (k : Int) - 1 - i = ((k - 1 - i : Nat) : Int) := by omega
      simp only [↓VD, VP, VT, isAggD, reduceCtorEq, Int.reduceEq, Int.reduceNe, Int.reduceLT, Int.reduceLE, implies_true, Nat.reduceEqDiff, reduceIte, ite_true, ite_false, eq_self, Nat.reduceLT, Nat.reduceLeDiff, Nat.reduceAdd, Nat.reduceMul, Nat.reduceSub, intOf, h0, h1, h6, e1, (show IntKind.i64.wrap (8 * ((k - 1 - i : Nat) : Int)) = ((8 * (k - 1 - i) : Nat) : Int) from by rw [w64 (by omega) (by omega)] <;> omega), show (n : Int).fdiv (2 ^ min (8 * (k - 1 - i)) IntKind.u64.bits) = ((n / 2 ^ (8 * (k - 1 - i)) : Nat) : Int) from fdivN n (8 * (k - 1 - i)) 64 (by omega), wr8]
      refine ⟨by omega, rfl, rfl, fun w2 hN => ?_⟩
      refine (addOne base b _ _ w1 w2 (by omega) hS1 (by simp [wideP_len]; omega) hN).mono ?_
      rintro _ w3 ⟨hS3, hK3⟩
      rw [List.append_assoc, wideP_take n k i hik] at hS3
      simp only [↓VD, VP, VT, isAggD, reduceCtorEq, Int.reduceEq, Int.reduceNe, Int.reduceLT, Int.reduceLE, implies_true, Nat.reduceEqDiff, reduceIte, ite_true, ite_false, eq_self, Nat.reduceLT, Nat.reduceLeDiff, Nat.reduceAdd, Nat.reduceMul, Nat.reduceSub, intOf, h0, h1, h6]
      rw [w64 (by omega) (by omega)]
      exact ⟨⟨hK.trans hK3, i + 1, by omega, by omega, hS3⟩, by omega⟩
    · have hik : i = k := by omega
      subst hik
      rw [List.take_of_length_le (by rw [wideP_len]; omega)] at hS1
      exact ⟨hS1, hK⟩
set_option maxRecDepth 100000 in
theorem U16_ok (base b : Nat) (xs : List UInt8) (n : Nat) (hn : n < 65536) (w : World) (hb : base ≤ w.heap.size) (hS : Wr w base b xs) (hsz : xs.length + 8 ≤ 140737488355328) :
    CallK Tryz.prog 184 [.pointer (some ⟨b, 0, none⟩), .int .u16 n].toArray w fun _ w' => Wr w' base b (xs ++ wideP n 2) ∧ KeepW w w' base b := by
  refine enterT Tryz.func184 rfl Tryz.ntmps184 Tryz.results184 rfl (by decide) ?_
  simp only [↓VD, VP, VT, isAggD, reduceCtorEq, Int.reduceEq, Int.reduceNe, Int.reduceLT, Int.reduceLE, implies_true, Nat.reduceEqDiff, reduceIte, ite_true, ite_false, eq_self, Nat.reduceLT, Nat.reduceLeDiff, Nat.reduceAdd, Nat.reduceMul, Nat.reduceSub, intOf, (show IntKind.u64.wrap ((n : Int)) = ((n : Nat) : Int) from by rw [wu64 (by omega) (by omega)] <;> omega)]
  refine (wide_ok base b xs n 2 (by decide) w hb hS hsz).mono ?_
  rintro _ w2 h
  simp only [↓VD, VP, VT, isAggD, reduceCtorEq, Int.reduceEq, Int.reduceNe, Int.reduceLT, Int.reduceLE, implies_true, Nat.reduceEqDiff, reduceIte, ite_true, ite_false, eq_self, Nat.reduceLT, Nat.reduceLeDiff, Nat.reduceAdd, Nat.reduceMul, Nat.reduceSub, intOf]
  exact h

/-! ### Bytes -/
set_option maxRecDepth 100000 in
theorem CloneB_ok (xs : List UInt8) (v : Value) (w : World) (hv : SlB w v xs) (hsz : xs.length ≤ 140737488355328) :
    CallK Tryz.prog 135 [v].toArray w fun v' w' => Own w' w.heap.size 5 1 v' xs.length (vbs xs) ∧ Ext w w' := by
  have hv' := hv
  obtain ⟨a, c, rfl, hnc, hcm, hc⟩ := hv'
  refine enterT Tryz.func135 rfl Tryz.ntmps135 Tryz.results135 rfl (by decide) ?_
  simp only [↓VD, VP, VT, isAggD, reduceCtorEq, Int.reduceEq, Int.reduceNe, Int.reduceLT, Int.reduceLE, implies_true, Nat.reduceEqDiff, reduceIte, ite_true, ite_false, eq_self, Nat.reduceLT, Nat.reduceLeDiff, Nat.reduceAdd, Nat.reduceMul, Nat.reduceSub, intOf]
  refine ⟨fun ha => ?_, fun ha => ⟨rfl, fun w1 hN => ?_⟩⟩
  · have : xs = [] := by
      rcases hc with hc | ⟨b, o, rfl, _⟩
      · simpa [vbs] using hc
      · cases ha
    subst this
    exact ⟨Own.nil _ _ _ _, Ext.rfl' w⟩
  · refine apS Tryz.underlying22 z5 c5 rfl (by decide) (Own.of_blk hN.blk (Nat.le_refl _) rfl (by decide)) (by have := hN.size; omega) (hv.ext hN.ext) (by rw [vbs_len, Nat.mul_one]) (vbs_one _) (by omega) (by rw [by5]; omega) (fun v' w2 hO hg => ?_)
    simp only [↓VD, VP, VT, isAggD, reduceCtorEq, Int.reduceEq, Int.reduceNe, Int.reduceLT, Int.reduceLE, implies_true, Nat.reduceEqDiff, reduceIte, ite_true, ite_false, eq_self, Nat.reduceLT, Nat.reduceLeDiff, Nat.reduceAdd, Nat.reduceMul, Nat.reduceSub, intOf]
    refine ⟨by simpa using hO, hN.ext.trans ⟨hg.os, hg.tape, hg.output, hg.size, fun k hk => hg.block k (by have := hN.size; omega) ?_⟩⟩
    simp only [Value.ownBlock, ne_eq, Option.some.injEq]
    omega
set_option maxRecDepth 100000 in
theorem Bytes_ok (base b : Nat) (xs : List UInt8) (w : World) (hS : Wr w base b xs) (hsz : xs.length ≤ 140737488355328) :
    CallK Tryz.prog 152 [.pointer (some ⟨b, 0, none⟩)].toArray w fun v' w' => Own w' w.heap.size 5 1 v' xs.length (vbs xs) ∧ Ext w w' := by
  obtain ⟨x, hB, hO⟩ := hS
  refine enterT Tryz.func152 rfl Tryz.ntmps152 Tryz.results152 rfl (by decide) ?_
  simp only [↓VD, VP, VT, isAggD, reduceCtorEq, Int.reduceEq, Int.reduceNe, Int.reduceLT, Int.reduceLE, implies_true, Nat.reduceEqDiff, reduceIte, ite_true, ite_false, eq_self, Nat.reduceLT, Nat.reduceLeDiff, Nat.reduceAdd, Nat.reduceMul, Nat.reduceSub, intOf]
  refine ldAt (pre := []) (post := []) Tryz.underlying22 rfl hB rfl ?_
  simp only [↓VD, VP, VT, isAggD, reduceCtorEq, Int.reduceEq, Int.reduceNe, Int.reduceLT, Int.reduceLE, implies_true, Nat.reduceEqDiff, reduceIte, ite_true, ite_false, eq_self, Nat.reduceLT, Nat.reduceLeDiff, Nat.reduceAdd, Nat.reduceMul, Nat.reduceSub, intOf]
  refine (CloneB_ok xs x w (SlC.of_own hO) hsz).mono ?_
  rintro v' w2 h
  simp only [↓VD, VP, VT, isAggD, reduceCtorEq, Int.reduceEq, Int.reduceNe, Int.reduceLT, Int.reduceLE, implies_true, Nat.reduceEqDiff, reduceIte, ite_true, ite_false, eq_self, Nat.reduceLT, Nat.reduceLeDiff, Nat.reduceAdd, Nat.reduceMul, Nat.reduceSub, intOf]
  exact h

end Go.Proofs.YthlkfjoibjhaiaaGreatDoor

/-! RefC -/
namespace Go.Proofs.YthlkfjoibjhaiaaGreatDoor
set_option maxRecDepth 100000
set_option maxHeartbeats 2000000
open Go Go.RowKit
set_option linter.unusedVariables false
set_option linter.unusedSimpArgs false

theorem below_of_grown {w w' : World} {base e sz n : Nat} {v : Value} {xs : List Value} (h : Own w base e sz v n xs) (hb : base ≤ w.heap.size) (g : w.grownBy w' v.ownBlock) : Below base w w' :=
  ⟨g.os, g.tape, g.output, g.size, fun k hk => g.block k (by omega) (fun e => by have := (h.lt k e.symm).1; omega)⟩
theorem own_slice {w : World} {base e sz n : Nat} {v : Value} {xs : List Value} (h : Own w base e sz v n xs) : ∃ a c, v = .slice a n c := by
  rcases h.2 with ⟨rfl, rfl⟩ | ⟨g, cap, cur, rfl, _⟩
  · exact ⟨_, _, rfl⟩
  · exact ⟨_, _, rfl⟩
/-- A part of a slice of one-cell elements. -/
theorem SlC.sub {w : World} {a a' : Option Addr} {n c lo hi : Nat} {cells : List Value} (h : SlC w (.slice a n c) n cells) (hl : cells.length = n) (h1 : lo ≤ hi) (h2 : hi ≤ n) (h0 : a = none → a' = none)
    (hs : ∀ b o, a = some ⟨b, o, none⟩ → ∃ o', a' = some ⟨b, o', none⟩ ∧ ((lo : Int) < c → o' = o + lo)) : SlC w (.slice a' (hi - lo) (c - lo)) (hi - lo) ((cells.drop lo).take (hi - lo)) := by
  obtain ⟨_, _, h3, hn, hm, h⟩ := h
  cases h3
  refine ⟨_, _, rfl, by omega, by omega, ?_⟩
  rcases h with h | ⟨j, o, rfl, h⟩
  · exact Or.inl (by rw [h]; simp)
  · by_cases hkn : lo < n
    · obtain ⟨o', rfl, ho⟩ := hs j o rfl
      obtain rfl := ho (by omega)
      refine Or.inr ⟨j, o + lo, rfl, fun i u hi => ?_⟩
      rw [List.getElem?_take] at hi
      split at hi
      · rw [List.getElem?_drop] at hi
        rw [Nat.add_assoc]
        exact h _ _ hi
      · cases hi
    · exact Or.inl (by rw [List.drop_eq_nil_of_le (by omega)]; simp)
end Go.Proofs.YthlkfjoibjhaiaaGreatDoor

/-! Dig -/
namespace Go.Proofs.YthlkfjoibjhaiaaGreatDoor
set_option maxRecDepth 100000
set_option maxHeartbeats 2000000
open Go Go.RowKit
set_option linter.unusedVariables false
set_option linter.unusedSimpArgs false

def widB (n : Int) : Bool := decide (1 ≤ n) && decide (n ≤ 32)
theorem widB_iff (n : Int) : widB n = true ↔ 1 ≤ n ∧ n ≤ 32 := by simp [widB]
theorem width_ok (n : Int) (w : World) : CallK Tryz.prog 235 [.int .i64 n].toArray w fun v w' => v = .bool (widB n) ∧ w' = w := by
  refine enterT Tryz.func235 rfl Tryz.ntmps235 Tryz.results235 rfl (by decide) ?_
  simp only [↓VD, VP, VT, isAggD, reduceCtorEq, Int.reduceEq, Int.reduceNe, Int.reduceLT, Int.reduceLE, implies_true, Nat.reduceEqDiff, reduceIte, ite_true, ite_false, eq_self, Nat.reduceLT, Nat.reduceLeDiff, Nat.reduceAdd, Nat.reduceMul, Nat.reduceSub, intOf]
  refine ⟨fun h => ?_, fun h => ?_⟩
  · simp [widB, h]
  · simp [widB, h]

theorem SlC.of_part {w : World} {b T o n c : Nat} {l m : List Value} (h : Blk w b T l) (hn : n ≤ c) (hc : c ≤ 9223372036854775807) (hm : ∀ j u, m[j]? = some u → l[o + j]? = some u) : SlC w (.slice (some ⟨b, o, none⟩) n c) n m :=
  ⟨_, c, rfl, hn, hc, Or.inr ⟨b, o, rfl, fun j u hj => by rw [h.cell]; exact hm j u hj⟩⟩
theorem cut_splice (n : Nat) (hn : n ≤ 32) (d : List UInt8) (hd : d.length = 32) : splice (vbs (List.replicate 32 0)) 0 (vbs (d.take n)) = vbs (cutP n d) := by
  have h1 : (vbs (d.take n)).length = n := by rw [vbs_len, List.length_take]; omega
  simp only [splice, cutP, List.take_zero, List.nil_append, Nat.zero_add, h1]
  simp only [vbs, List.map_append, List.map_take, List.map_replicate, List.drop_replicate]
set_option maxRecDepth 100000 in
theorem cut_ok (n : Nat) (hn : n ≤ 32) (d : List UInt8) (hd : d.length = 32) (w : World) :
    CallK Tryz.prog 236 [.int .i64 n, .agg (vbs d).toArray].toArray w fun v w' => v = .agg (vbs (cutP n d)).toArray ∧ Ext w w' := by
  refine enterT Tryz.func236 rfl Tryz.ntmps236 Tryz.results236 rfl (by decide) ?_
  simp only [↓VD, VP, VT, isAggD, reduceCtorEq, Int.reduceEq, Int.reduceNe, Int.reduceLT, Int.reduceLE, implies_true, Nat.reduceEqDiff, reduceIte, ite_true, ite_false, eq_self, Nat.reduceLT, Nat.reduceLeDiff, Nat.reduceAdd, Nat.reduceMul, Nat.reduceSub, intOf]
  intro w1 hN1 w2 hN2 w3 hN3
  have s1 := hN1.size
  have s2 := hN2.size
  rw [vbs_rep] at hN2 hN3
  refine drawH (fun _ => True) [0, 1, 2, 3, 4] mixed (by decide +kernel) (fun w4 hE4 hh => ⟨trivial, ?_⟩)
  simp only [↓VD, VP, VT, isAggD, reduceCtorEq, Int.reduceEq, Int.reduceNe, Int.reduceLT, Int.reduceLE, implies_true, Nat.reduceEqDiff, reduceIte, ite_true, ite_false, eq_self, Nat.reduceLT, Nat.reduceLeDiff, Nat.reduceAdd, Nat.reduceMul, Nat.reduceSub, intOf]
  refine ⟨by omega, by omega, fun o1 ho1 => ⟨by omega, by omega, fun o2 ho2 => ?_⟩⟩
  have ho1 : o1 = 0 := ho1
  have ho2 : o2 = 0 := ho2
  subst ho1 ho2
  rw [show ((n : Int) - 0).toNat = n from by omega]
  have hB1 := ((hN1.blk.ext hN2.ext).ext hN3.ext).ext hE4
  have hB2 := (hN2.blk.ext hN3.ext).ext hE4
  refine cpS (sz := 1) (m := n) (cells := vbs (d.take n)) Tryz.underlying22 c5 (by decide) (hN3.blk.ext hE4) (SlC.of_part (m := vbs (d.take n)) hB1 (by decide +revert) (by decide) ?_) (by rw [vbs_len, List.length_take]; omega) (vbs_one _) (by rw [vbs_len, List.length_replicate]; omega) (fun w5 hP => ?_)
  · intro j u hj
    rw [← vbs_take, List.getElem?_take] at hj
    rw [Nat.zero_add]
    split at hj
    · exact hj
    · cases hj
  rw [Nat.min_self, Nat.mul_one, List.take_of_length_le (by rw [vbs_len, List.length_take]; omega), cut_splice n hn d hd] at hP
  have hcl := cutP_len n d hd hn
  refine told (fun _ => True) trivial trivial ?_
  simp only [↓VD, VP, VT, isAggD, reduceCtorEq, Int.reduceEq, Int.reduceNe, Int.reduceLT, Int.reduceLE, implies_true, Nat.reduceEqDiff, reduceIte, ite_true, ite_false, eq_self, Nat.reduceLT, Nat.reduceLeDiff, Nat.reduceAdd, Nat.reduceMul, Nat.reduceSub, intOf]
  refine ldA Tryz.underlying28 rfl hP.blk (by rw [vbs_len, hcl, c28]) ?_
  simp only [↓VD, VP, VT, isAggD, reduceCtorEq, Int.reduceEq, Int.reduceNe, Int.reduceLT, Int.reduceLE, implies_true, Nat.reduceEqDiff, reduceIte, ite_true, ite_false, eq_self, Nat.reduceLT, Nat.reduceLeDiff, Nat.reduceAdd, Nat.reduceMul, Nat.reduceSub, intOf]
  refine stAll (hP.keep hB2 (by omega)) rfl (by rw [c28]; omega) (by rw [c28, vbs_len, hcl]) (by rw [c28]; rfl) (vbs_one _) (fun w6 hP6 => ?_)
  simp only [↓VD, VP, VT, isAggD, reduceCtorEq, Int.reduceEq, Int.reduceNe, Int.reduceLT, Int.reduceLE, implies_true, Nat.reduceEqDiff, reduceIte, ite_true, ite_false, eq_self, Nat.reduceLT, Nat.reduceLeDiff, Nat.reduceAdd, Nat.reduceMul, Nat.reduceSub, intOf]
  refine ldA Tryz.underlying28 rfl hP6.blk (by rw [vbs_len, hcl, c28]) ?_
  exact ⟨rfl, (((hN1.ext.trans' hN2.ext).trans' hN3.ext).trans' hE4).trans ((hP.below (by omega)).trans (hP6.below (by omega)))⟩

def formB (n : Int) (d : List UInt8) : Bool := widB n && decide (cutP n.toNat d = d)
set_option maxRecDepth 100000 in
theorem Form_ok (n : Int) (d : List UInt8) (hd : d.length = 32) (w : World) :
    CallK Tryz.prog 113 [.int .i64 n, .agg (vbs d).toArray].toArray w fun v w' => v = .bool (formB n d) ∧ Ext w w' := by
  refine enterT Tryz.func113 rfl Tryz.ntmps113 Tryz.results113 rfl (by decide) ?_
  simp only [↓VD, VP, VT, isAggD, reduceCtorEq, Int.reduceEq, Int.reduceNe, Int.reduceLT, Int.reduceLE, implies_true, Nat.reduceEqDiff, reduceIte, ite_true, ite_false, eq_self, Nat.reduceLT, Nat.reduceLeDiff, Nat.reduceAdd, Nat.reduceMul, Nat.reduceSub, intOf]
  intro w1 hN1
  refine drawT mixed (by decide +kernel) ?_
  simp only [↓VD, VP, VT, isAggD, reduceCtorEq, Int.reduceEq, Int.reduceNe, Int.reduceLT, Int.reduceLE, implies_true, Nat.reduceEqDiff, reduceIte, ite_true, ite_false, eq_self, Nat.reduceLT, Nat.reduceLeDiff, Nat.reduceAdd, Nat.reduceMul, Nat.reduceSub, intOf]
  refine qcall (.bool (widB n)) (fun w' _ => (width_ok n w').mono ?_) ?_
  · rintro _ _ ⟨rfl, rfl⟩; exact ⟨rfl, Ext.rfl' _⟩
  cases hw : widB n
  · simp only [↓VD, VP, VT, isAggD, reduceCtorEq, Int.reduceEq, Int.reduceNe, Int.reduceLT, Int.reduceLE, implies_true, Nat.reduceEqDiff, reduceIte, ite_true, ite_false, eq_self, Nat.reduceLT, Nat.reduceLeDiff, Nat.reduceAdd, Nat.reduceMul, Nat.reduceSub, intOf]
    intro w2 hE2
    exact ⟨by simp [formB, hw], hN1.ext.trans' hE2⟩
  · have hw' := (widB_iff n).1 hw
    obtain ⟨m, rfl⟩ : ∃ m : Nat, n = m := ⟨n.toNat, by omega⟩
    simp only [↓VD, VP, VT, isAggD, reduceCtorEq, Int.reduceEq, Int.reduceNe, Int.reduceLT, Int.reduceLE, implies_true, Nat.reduceEqDiff, reduceIte, ite_true, ite_false, eq_self, Nat.reduceLT, Nat.reduceLeDiff, Nat.reduceAdd, Nat.reduceMul, Nat.reduceSub, intOf]
    refine ldA Tryz.underlying28 rfl hN1.blk (by rw [vbs_len, hd, c28]) ?_
    simp only [↓VD, VP, VT, isAggD, reduceCtorEq, Int.reduceEq, Int.reduceNe, Int.reduceLT, Int.reduceLE, implies_true, Nat.reduceEqDiff, reduceIte, ite_true, ite_false, eq_self, Nat.reduceLT, Nat.reduceLeDiff, Nat.reduceAdd, Nat.reduceMul, Nat.reduceSub, intOf]
    refine qcall _ (fun w' _ => cut_ok m (by omega) d hd w') ?_
    simp only [↓VD, VP, VT, isAggD, reduceCtorEq, Int.reduceEq, Int.reduceNe, Int.reduceLT, Int.reduceLE, implies_true, Nat.reduceEqDiff, reduceIte, ite_true, ite_false, eq_self, Nat.reduceLT, Nat.reduceLeDiff, Nat.reduceAdd, Nat.reduceMul, Nat.reduceSub, intOf]
    refine ldA Tryz.underlying28 rfl hN1.blk (by rw [vbs_len, hd, c28]) ?_
    simp only [↓VD, VP, VT, isAggD, reduceCtorEq, Int.reduceEq, Int.reduceNe, Int.reduceLT, Int.reduceLE, implies_true, Nat.reduceEqDiff, reduceIte, ite_true, ite_false, eq_self, Nat.reduceLT, Nat.reduceLeDiff, Nat.reduceAdd, Nat.reduceMul, Nat.reduceSub, intOf]
    refine eqd_lit _ _ _ _ _ _ Tryz.underlying5 c5 (cutP_len _ _ hd (by omega)) hd ?_
    simp only [↓VD, VP, VT, isAggD, reduceCtorEq, Int.reduceEq, Int.reduceNe, Int.reduceLT, Int.reduceLE, implies_true, Nat.reduceEqDiff, reduceIte, ite_true, ite_false, eq_self, Nat.reduceLT, Nat.reduceLeDiff, Nat.reduceAdd, Nat.reduceMul, Nat.reduceSub, intOf]
    intro w2 hE2
    exact ⟨by simp [formB, hw], hN1.ext.trans' hE2⟩

/-- Digests that may be read. -/
def DigsAt (w : World) (v : Value) (ds : List (List UInt8)) : Prop := (∀ d ∈ ds, d.length = 32) ∧ SlC w v ds.length (ds.flatMap vbs)
/-- What 'check' answers. -/
def chkE (n : Int) (ds : List (List UInt8)) : Nat := if widB n = true then (if ∀ d ∈ ds, formB n d = true then 0 else 3) else 1
set_option maxRecDepth 100000 in
theorem dcheck_ok (n : Int) (v : Value) (ds : List (List UInt8)) (w : World) (hv : DigsAt w v ds) :
    CallK Tryz.prog 273 [.int .i64 n, v].toArray w fun v w' => v = .int .i64 (chkE n ds) ∧ Ext w w' := by
  obtain ⟨hd, a, c, rfl, hnc, hcm, hc⟩ := hv
  refine enterT Tryz.func273 rfl Tryz.ntmps273 Tryz.results273 rfl (by decide) ?_
  simp only [↓VD, VP, VT, isAggD, reduceCtorEq, Int.reduceEq, Int.reduceNe, Int.reduceLT, Int.reduceLE, implies_true, Nat.reduceEqDiff, reduceIte, ite_true, ite_false, eq_self, Nat.reduceLT, Nat.reduceLeDiff, Nat.reduceAdd, Nat.reduceMul, Nat.reduceSub, intOf]
  refine (width_ok n w).mono ?_
  rintro _ w1 ⟨rfl, rfl⟩
  cases hw : widB n
  · simp only [↓VD, VP, VT, isAggD, reduceCtorEq, Int.reduceEq, Int.reduceNe, Int.reduceLT, Int.reduceLE, implies_true, Nat.reduceEqDiff, reduceIte, ite_true, ite_false, eq_self, Nat.reduceLT, Nat.reduceLeDiff, Nat.reduceAdd, Nat.reduceMul, Nat.reduceSub, intOf, hw]
    exact ⟨by simp [chkE, hw], Ext.rfl' _⟩
  simp only [↓VD, VP, VT, isAggD, reduceCtorEq, Int.reduceEq, Int.reduceNe, Int.reduceLT, Int.reduceLE, implies_true, Nat.reduceEqDiff, reduceIte, ite_true, ite_false, eq_self, Nat.reduceLT, Nat.reduceLeDiff, Nat.reduceAdd, Nat.reduceMul, Nat.reduceSub, intOf, hw]
  have hchk : chkE n ds = if ∀ d ∈ ds, formB n d = true then 0 else 3 := by unfold chkE; rw [if_pos hw]
  refine loopT (fun s' w' => Ext w1 w' ∧ ∃ k : Nat, k ≤ ds.length ∧ s' 0 = .int .i64 n ∧ s' 10 = .slice a ds.length c ∧ s' 11 = .int .i64 ds.length ∧ s' 12 = .int .i64 k ∧
      ∀ d ∈ ds.take k, formB n d = true) (fun s' _ => ds.length - (intOf (s' 12)).toNat) ?_ ?_
  · simp only [↓VD, VP, VT, isAggD, reduceCtorEq, Int.reduceEq, Int.reduceNe, Int.reduceLT, Int.reduceLE, implies_true, Nat.reduceEqDiff, reduceIte, ite_true, ite_false, eq_self, Nat.reduceLT, Nat.reduceLeDiff, Nat.reduceAdd, Nat.reduceMul, Nat.reduceSub, intOf]
    exact ⟨Ext.rfl' w1, 0, by omega, rfl, by simp⟩
  · rintro s2 w2 ⟨hE, k, hk, h0, h10, h11, h12, hz⟩
    simp only [↓VD, VP, VT, isAggD, reduceCtorEq, Int.reduceEq, Int.reduceNe, Int.reduceLT, Int.reduceLE, implies_true, Nat.reduceEqDiff, reduceIte, ite_true, ite_false, eq_self, Nat.reduceLT, Nat.reduceLeDiff, Nat.reduceAdd, Nat.reduceMul, Nat.reduceSub, intOf, h0, h10, h11, h12]
    refine ⟨fun hlt => ?_, fun hge => ?_⟩
    · have hlt' : k < ds.length := by omega
      rcases hc with hc | ⟨b, o, rfl, hc⟩
      · exfalso
        cases ds with
        | nil => simp at hlt'
        | cons d ds => have := hd d (by simp); simp at hc; simp [vbs] at hc; have h3 := hc.1; simp [h3] at this
      obtain ⟨x, hx⟩ : ∃ x, ds[k]? = some x := ⟨_, List.getElem?_eq_getElem hlt'⟩
      have hxl : x.length = 32 := hd x (List.mem_of_getElem? hx)
      have hc1 : ∀ j u, (ds.flatMap vbs)[j]? = some u → w2.cell? ⟨b, o + j, none⟩ = some u := fun j u hj => by rw [hE.cell (block_lt_of_cell (hc j u hj))]; exact hc j u hj
      simp only [↓VD, VP, VT, isAggD, reduceCtorEq, Int.reduceEq, Int.reduceNe, Int.reduceLT, Int.reduceLE, implies_true, Nat.reduceEqDiff, reduceIte, ite_true, ite_false, eq_self, Nat.reduceLT, Nat.reduceLeDiff, Nat.reduceAdd, Nat.reduceMul, Nat.reduceSub, intOf]
      refine ⟨by omega, by omega, ldE c28 Tryz.underlying28 rfl (fun d h => by rw [vbs_len]; exact hd d h) hc1 hx ?_⟩
      simp only [↓VD, VP, VT, isAggD, reduceCtorEq, Int.reduceEq, Int.reduceNe, Int.reduceLT, Int.reduceLE, implies_true, Nat.reduceEqDiff, reduceIte, ite_true, ite_false, eq_self, Nat.reduceLT, Nat.reduceLeDiff, Nat.reduceAdd, Nat.reduceMul, Nat.reduceSub, intOf]
      intro w3 hN
      refine stAll hN.blk rfl (by rw [c28]; omega) (by rw [c28, vbs_len, hxl]) (by rw [c28]; simp) (vbs_one x) (fun w4 hP => ?_)
      simp only [↓VD, VP, VT, isAggD, reduceCtorEq, Int.reduceEq, Int.reduceNe, Int.reduceLT, Int.reduceLE, implies_true, Nat.reduceEqDiff, reduceIte, ite_true, ite_false, eq_self, Nat.reduceLT, Nat.reduceLeDiff, Nat.reduceAdd, Nat.reduceMul, Nat.reduceSub, intOf, h0, h10, h11, h12]
      refine ldA Tryz.underlying28 rfl hP.blk (by rw [vbs_len, hxl, c28]) ?_
      simp only [↓VD, VP, VT, isAggD, reduceCtorEq, Int.reduceEq, Int.reduceNe, Int.reduceLT, Int.reduceLE, implies_true, Nat.reduceEqDiff, reduceIte, ite_true, ite_false, eq_self, Nat.reduceLT, Nat.reduceLeDiff, Nat.reduceAdd, Nat.reduceMul, Nat.reduceSub, intOf, h0, h10, h11, h12]
      refine (Form_ok n x hxl w4).mono ?_
      rintro _ w5 ⟨rfl, hE5⟩
      have hE5' : Ext w1 w5 := (hE.trans' (hN.ext.trans (hP.below (Nat.le_refl _)))).trans' hE5
      cases hf : formB n x
      · simp only [↓VD, VP, VT, isAggD, reduceCtorEq, Int.reduceEq, Int.reduceNe, Int.reduceLT, Int.reduceLE, implies_true, Nat.reduceEqDiff, reduceIte, ite_true, ite_false, eq_self, Nat.reduceLT, Nat.reduceLeDiff, Nat.reduceAdd, Nat.reduceMul, Nat.reduceSub, intOf, h0, h10, h11, h12, hf]
        refine ⟨?_, hE5'⟩
        rw [hchk, if_neg]
        · rfl
        · intro hall
          rw [hall x (List.mem_of_getElem? hx)] at hf
          cases hf
      · simp only [↓VD, VP, VT, isAggD, reduceCtorEq, Int.reduceEq, Int.reduceNe, Int.reduceLT, Int.reduceLE, implies_true, Nat.reduceEqDiff, reduceIte, ite_true, ite_false, eq_self, Nat.reduceLT, Nat.reduceLeDiff, Nat.reduceAdd, Nat.reduceMul, Nat.reduceSub, intOf, h0, h10, h11, h12, hf]
        refine ⟨⟨hE5', k + 1, by omega, ?_, (take_all_succ hx).2 ⟨hz, hf⟩⟩, ?_⟩
        · rw [w64 (by omega) (by omega)]; rfl
        · rw [w64 (by omega) (by omega)]; omega
    · refine ⟨?_, hE⟩
      rw [List.take_of_length_le (by omega)] at hz
      rw [hchk, if_pos hz]
      rfl

end Go.Proofs.YthlkfjoibjhaiaaGreatDoor

/-! NibB -/
namespace Go.Proofs.YthlkfjoibjhaiaaGreatDoor
set_option maxRecDepth 100000
set_option maxHeartbeats 2000000
open Go Go.RowKit
set_option linter.unusedVariables false
set_option linter.unusedSimpArgs false

/-! ### Bits of unsigned numbers -/
theorem ibN (k : IntKind) (hk : k.signed = false) (a b : Nat) (ha : a < 2 ^ k.bits) (hb : b < 2 ^ k.bits) :
    ibits .and k a b = ((a &&& b : Nat) : Int) ∧ ibits .or k a b = ((a ||| b : Nat) : Int) ∧ ibits .xor k a b = ((a ^^^ b : Nat) : Int) ∧ ibits .andNot k a b = ((a &&& (2 ^ k.bits - 1 - b) : Nat) : Int) := by
  have w : ∀ n : Nat, n < 2 ^ k.bits → k.wrap (n : Int) = n := by
    intro n hn
    simp only [IntKind.wrap, hk, Bool.false_and, Bool.false_eq_true, if_false]
    have : ((2 : Int) ^ k.bits) = ((2 ^ k.bits : Nat) : Int) := by simp
    rw [this]
    exact Int.emod_eq_of_lt (by omega) (by omega)
  have e1 : BitVec.ofInt k.bits (a : Int) = BitVec.ofNat k.bits a := BitVec.ofInt_natCast ..
  have e2 : BitVec.ofInt k.bits (b : Int) = BitVec.ofNat k.bits b := BitVec.ofInt_natCast ..
  have h1 : a &&& b < 2 ^ k.bits := Nat.and_lt_two_pow a hb
  have h2 : a ||| b < 2 ^ k.bits := Nat.or_lt_two_pow ha hb
  have h3 : a ^^^ b < 2 ^ k.bits := Nat.xor_lt_two_pow ha hb
  have h4 : a &&& (2 ^ k.bits - 1 - b) < 2 ^ k.bits := Nat.and_lt_two_pow a (by omega)
  refine ⟨?_, ?_, ?_, ?_⟩
  · simp only [ibits, e1, e2, BitVec.toNat_and, BitVec.toNat_ofNat, Nat.mod_eq_of_lt ha, Nat.mod_eq_of_lt hb]; exact w _ h1
  · simp only [ibits, e1, e2, BitVec.toNat_or, BitVec.toNat_ofNat, Nat.mod_eq_of_lt ha, Nat.mod_eq_of_lt hb]; exact w _ h2
  · simp only [ibits, e1, e2, BitVec.toNat_xor, BitVec.toNat_ofNat, Nat.mod_eq_of_lt ha, Nat.mod_eq_of_lt hb]; exact w _ h3
  · simp only [ibits, e1, e2, BitVec.toNat_and, BitVec.toNat_not, BitVec.toNat_ofNat, Nat.mod_eq_of_lt ha, Nat.mod_eq_of_lt hb]; exact w _ h4

theorem shrN (m j n : Nat) (h : j ≤ n) : ((m : Int).fdiv (2 ^ min j n)) = ((m >>> j : Nat) : Int) := by
  rw [shrI _ _ _ h, Nat.shiftRight_eq_div_pow]; simp

/-! ### Sets of digits -/
def inB (i : Int) : Bool := decide (0 ≤ i ∧ i ≤ 15)
def hasB (m : Nat) (i : Int) : Bool := inB i && m.testBit i.toNat
def setB (m : Nat) : List Nat := (List.range 16).filter fun j => m.testBit j
def cntB (m : Nat) : Nat := (setB m).length
def rankB (m : Nat) (i : Int) : Nat := ((setB m).filter fun (j : Nat) => decide ((j : Int) < i)).length
def withB (m : Nat) (i : Int) : Nat := if inB i = true then m ||| 2 ^ i.toNat else m
def withoutB (m : Nat) (i : Int) : Nat := if inB i = true then m &&& (65535 - 2 ^ i.toNat) else m

theorem pow_le16 {i : Nat} (h : i ≤ 15) : 2 ^ i ≤ 32768 := Nat.pow_le_pow_right (by decide) h
theorem withB_lt {m : Nat} (h : m < 65536) (i : Int) : withB m i < 65536 := by
  unfold withB; split
  · rename_i hi
    have hi' : 0 ≤ i ∧ i ≤ 15 := by simpa [inB] using hi
    exact Nat.or_lt_two_pow (n := 16) h (by have := pow_le16 (i := i.toNat) (by omega); omega)
  · exact h
theorem withoutB_lt {m : Nat} (h : m < 65536) (i : Int) : withoutB m i < 65536 := by
  unfold withoutB; split
  · exact Nat.lt_of_le_of_lt Nat.and_le_left h
  · exact h

theorem cnt_halves (m : Nat) (h : m < 65536) : cntB (m >>> 8) + cntB (m &&& 255) = cntB m := by
  have e : List.range 16 = List.range 8 ++ (List.range 8).map (· + 8) := by decide
  have e1 : ∀ f : Nat → Bool, ((List.range 16).filter f).length = ((List.range 8).filter f).length + ((List.range 8).filter fun j => f (j + 8)).length := by
    intro f; rw [e, List.filter_append, List.length_append, List.filter_map, List.length_map]; rfl
  have t1 : ∀ j ∈ List.range 8, (m &&& 255).testBit j = m.testBit j := by
    intro j hj
    have : (255 : Nat).testBit j = true := by simp at hj; rw [show 255 = 2 ^ 8 - 1 from rfl, Nat.testBit_two_pow_sub_one]; simpa using hj
    simp [Nat.testBit_and, this]
  have t2 : ∀ j ∈ List.range 8, (m &&& 255).testBit (j + 8) = false := by
    intro j hj
    rw [Nat.testBit_and, show 255 = 2 ^ 8 - 1 from rfl, Nat.testBit_two_pow_sub_one]; simp
  have t3 : ∀ j ∈ List.range 8, (m >>> 8).testBit j = m.testBit (j + 8) := by
    intro j hj; rw [Nat.testBit_shiftRight, Nat.add_comm]
  have t4 : ∀ j ∈ List.range 8, (m >>> 8).testBit (j + 8) = false := by
    intro j hj; rw [Nat.testBit_shiftRight]; exact Nat.testBit_lt_two_pow (Nat.lt_of_lt_of_le h (Nat.pow_le_pow_right (n := 2) (i := 16) (by decide) (by omega)))
  unfold cntB setB
  rw [e1, e1, e1, List.filter_congr t1, List.filter_congr t2, List.filter_congr t3, List.filter_congr t4]
  have f0 : ((List.range 8).filter fun _ => false).length = 0 := rfl
  have f1 : (List.filter m.testBit (List.range 8)).length = ((List.range 8).filter fun j => m.testBit j).length := rfl
  omega

theorem cnt_le (m : Nat) : cntB m ≤ 16 := by
  unfold cntB setB
  exact Nat.le_trans (List.length_filter_le _ _) (by simp)

/-- A table of 256 counts. -/
theorem idx_tab {P : Program} {S : ByteArray} {k : IntKind} {j : Nat} {K : Value → Prop} (hS : ∀ n : Fin 256, S[n.1]? = some (UInt8.ofNat (cntB n.1))) (hj : j < 256) (hK : K (.int .u8 (cntB j))) :
    idxO P (some .string) (.string S) (.int k j) K := by
  refine ⟨S, rfl, ?_⟩
  rw [intV_lit]
  refine ⟨by omega, _, hS ⟨j, hj⟩, ?_⟩
  have h16 : cntB (⟨j, hj⟩ : Fin 256).1 ≤ 16 := cnt_le j
  rw [UInt8.toNat_ofNat', Nat.mod_eq_of_lt (by omega)]
  exact hK

theorem OnesCount16_ok (m : Nat) (h : m < 65536) (w : World) :
    CallK Tryz.prog 318 [.int .u16 m].toArray w fun v w' => v = .int .i64 (cntB m) ∧ Ext w w' := by
  refine enterT Tryz.func318 rfl Tryz.ntmps318 Tryz.results318 rfl (by decide) ?_
  simp only [↓VD, VP, VT, isAggD, reduceCtorEq, Int.reduceEq, Int.reduceNe, Int.reduceLT, Int.reduceLE, implies_true, Nat.reduceEqDiff, reduceIte, ite_true, ite_false, eq_self, Nat.reduceLT, Nat.reduceLeDiff, Nat.reduceAdd, Nat.reduceMul, Nat.reduceSub, intOf]
  refine drawT mixed (by decide +kernel) ?_
  simp only [↓VD, VP, VT, isAggD, reduceCtorEq, Int.reduceEq, Int.reduceNe, Int.reduceLT, Int.reduceLE, implies_true, Nat.reduceEqDiff, reduceIte, ite_true, ite_false, eq_self, Nat.reduceLT, Nat.reduceLeDiff, Nat.reduceAdd, Nat.reduceMul, Nat.reduceSub, intOf]
  have e1 : ((m : Int).fdiv (2 ^ min (Int.toNat 8) IntKind.u16.bits)) = ((m >>> 8 : Nat) : Int) := by
    rw [shrI _ _ _ (by decide), Nat.shiftRight_eq_div_pow]; simp
  rw [e1]
  have e2 : m >>> 8 < 256 := by rw [Nat.shiftRight_eq_div_pow]; omega
  refine idx_tab ?_ e2 ?_
  · decide +kernel
  simp only [↓VD, VP, VT, isAggD, reduceCtorEq, Int.reduceEq, Int.reduceNe, Int.reduceLT, Int.reduceLE, implies_true, Nat.reduceEqDiff, reduceIte, ite_true, ite_false, eq_self, Nat.reduceLT, Nat.reduceLeDiff, Nat.reduceAdd, Nat.reduceMul, Nat.reduceSub, intOf]
  have e3 : ibits .and .u16 m 255 = ((m &&& 255 : Nat) : Int) := (ibN .u16 rfl m 255 h (by decide)).1
  rw [e3]
  refine idx_tab ?_ (Nat.lt_of_le_of_lt Nat.and_le_right (by decide)) ?_
  · decide +kernel
  have := cnt_le (m >>> 8)
  have := cnt_le (m &&& 255)
  have hc := cnt_halves m h
  simp only [↓VD, VP, VT, isAggD, reduceCtorEq, Int.reduceEq, Int.reduceNe, Int.reduceLT, Int.reduceLE, implies_true, Nat.reduceEqDiff, reduceIte, ite_true, ite_false, eq_self, Nat.reduceLT, Nat.reduceLeDiff, Nat.reduceAdd, Nat.reduceMul, Nat.reduceSub, intOf]
  intro w' hE
  refine ⟨?_, hE⟩
  rw [w8 (by omega) (by omega), w64 (by omega) (by omega)]
  omega

theorem Count_ok (m : Nat) (h : m < 65536) (w : World) :
    CallK Tryz.prog 226 [.int .u16 m].toArray w fun v w' => v = .int .i64 (cntB m) ∧ Ext w w' := by
  refine enterT Tryz.func226 rfl Tryz.ntmps226 Tryz.results226 rfl (by decide) ?_
  simp only [↓VD, VP, VT, isAggD, reduceCtorEq, Int.reduceEq, Int.reduceNe, Int.reduceLT, Int.reduceLE, implies_true, Nat.reduceEqDiff, reduceIte, ite_true, ite_false, eq_self, Nat.reduceLT, Nat.reduceLeDiff, Nat.reduceAdd, Nat.reduceMul, Nat.reduceSub, intOf]
  refine (OnesCount16_ok m h w).mono ?_
  rintro _ w1 ⟨rfl, hE⟩
  simp only [↓VD, VP, VT, isAggD, reduceCtorEq, Int.reduceEq, Int.reduceNe, Int.reduceLT, Int.reduceLE, implies_true, Nat.reduceEqDiff, reduceIte, ite_true, ite_false, eq_self, Nat.reduceLT, Nat.reduceLeDiff, Nat.reduceAdd, Nat.reduceMul, Nat.reduceSub, intOf]
  exact hE

theorem in_ok (i : Int) (w : World) : CallK Tryz.prog 243 [.int .i64 i].toArray w fun v w' => v = .bool (inB i) ∧ Ext w w' := by
  refine enterT Tryz.func243 rfl Tryz.ntmps243 Tryz.results243 rfl (by decide) ?_
  simp only [↓VD, VP, VT, isAggD, reduceCtorEq, Int.reduceEq, Int.reduceNe, Int.reduceLT, Int.reduceLE, implies_true, Nat.reduceEqDiff, reduceIte, ite_true, ite_false, eq_self, Nat.reduceLT, Nat.reduceLeDiff, Nat.reduceAdd, Nat.reduceMul, Nat.reduceSub, intOf]
  have hE := Ext.rfl' w
  refine ⟨fun h => ⟨?_, hE⟩, fun h => ⟨?_, hE⟩⟩
  · simp [inB, h]
  · simp [inB, h]

theorem inB_iff (i : Int) : inB i = true ↔ 0 ≤ i ∧ i ≤ 15 := by simp [inB]
theorem bit_and_one (m i : Nat) : (m >>> i) &&& 1 = if m.testBit i = true then 1 else 0 := by
  rw [Nat.and_one_is_mod, Nat.testBit, Nat.and_comm, Nat.and_one_is_mod]
  have := Nat.mod_two_eq_zero_or_one (m >>> i)
  rcases this with h | h <;> simp [h]

theorem Has_ok (m : Nat) (h : m < 65536) (i : Int) (w : World) :
    CallK Tryz.prog 125 [.int .u16 m, .int .i64 i].toArray w fun v w' => v = .bool (hasB m i) ∧ Ext w w' := by
  refine enterT Tryz.func125 rfl Tryz.ntmps125 Tryz.results125 rfl (by decide) ?_
  simp only [↓VD, VP, VT, isAggD, reduceCtorEq, Int.reduceEq, Int.reduceNe, Int.reduceLT, Int.reduceLE, implies_true, Nat.reduceEqDiff, reduceIte, ite_true, ite_false, eq_self, Nat.reduceLT, Nat.reduceLeDiff, Nat.reduceAdd, Nat.reduceMul, Nat.reduceSub, intOf]
  refine (in_ok i w).mono ?_
  rintro _ w1 ⟨rfl, hE⟩
  simp only [↓VD, VP, VT, isAggD, reduceCtorEq, Int.reduceEq, Int.reduceNe, Int.reduceLT, Int.reduceLE, implies_true, Nat.reduceEqDiff, reduceIte, ite_true, ite_false, eq_self, Nat.reduceLT, Nat.reduceLeDiff, Nat.reduceAdd, Nat.reduceMul, Nat.reduceSub, intOf]
  refine bsplit_i (fun hi => ?_) (fun hi => ?_)
  · have hi' := (inB_iff i).1 hi
    simp only [↓VD, VP, VT, isAggD, reduceCtorEq, Int.reduceEq, Int.reduceNe, Int.reduceLT, Int.reduceLE, implies_true, Nat.reduceEqDiff, reduceIte, ite_true, ite_false, eq_self, Nat.reduceLT, Nat.reduceLeDiff, Nat.reduceAdd, Nat.reduceMul, Nat.reduceSub, intOf]
    refine ⟨hi'.1, ?_⟩
    obtain ⟨j, rfl⟩ : ∃ j : Nat, i = j := ⟨i.toNat, by omega⟩
    have e2 : m >>> j < 65536 := by rw [Nat.shiftRight_eq_div_pow]; exact Nat.lt_of_le_of_lt (Nat.div_le_self _ _) h
    simp only [↓VD, VP, VT, isAggD, reduceCtorEq, Int.reduceEq, Int.reduceNe, Int.reduceLT, Int.reduceLE, implies_true, Nat.reduceEqDiff, reduceIte, ite_true, ite_false, eq_self, Nat.reduceLT, Nat.reduceLeDiff, Nat.reduceAdd, Nat.reduceMul, Nat.reduceSub, intOf, shrN m j 16 (by omega), show IntKind.u16.bits = 16 from rfl]
    have e3 : ibits .and .u16 (m >>> j : Nat) 1 = ((m >>> j &&& 1 : Nat) : Int) := (ibN .u16 rfl (m >>> j) 1 e2 (by decide)).1
    rw [e3, bit_and_one]
    refine ⟨?_, hE⟩
    simp only [hasB, hi, Bool.true_and, Int.toNat_natCast]
    cases m.testBit j <;> simp
  · simp only [↓VD, VP, VT, isAggD, reduceCtorEq, Int.reduceEq, Int.reduceNe, Int.reduceLT, Int.reduceLE, implies_true, Nat.reduceEqDiff, reduceIte, ite_true, ite_false, eq_self, Nat.reduceLT, Nat.reduceLeDiff, Nat.reduceAdd, Nat.reduceMul, Nat.reduceSub, intOf]
    exact ⟨by simp [hasB, hi], hE⟩

theorem With_ok (m : Nat) (h : m < 65536) (i : Int) (w : World) :
    CallK Tryz.prog 253 [.int .u16 m, .int .i64 i].toArray w fun v w' => v = .int .u16 (withB m i) ∧ Ext w w' := by
  refine enterT Tryz.func253 rfl Tryz.ntmps253 Tryz.results253 rfl (by decide) ?_
  simp only [↓VD, VP, VT, isAggD, reduceCtorEq, Int.reduceEq, Int.reduceNe, Int.reduceLT, Int.reduceLE, implies_true, Nat.reduceEqDiff, reduceIte, ite_true, ite_false, eq_self, Nat.reduceLT, Nat.reduceLeDiff, Nat.reduceAdd, Nat.reduceMul, Nat.reduceSub, intOf]
  refine (in_ok i w).mono ?_
  rintro _ w1 ⟨rfl, hE⟩
  simp only [↓VD, VP, VT, isAggD, reduceCtorEq, Int.reduceEq, Int.reduceNe, Int.reduceLT, Int.reduceLE, implies_true, Nat.reduceEqDiff, reduceIte, ite_true, ite_false, eq_self, Nat.reduceLT, Nat.reduceLeDiff, Nat.reduceAdd, Nat.reduceMul, Nat.reduceSub, intOf]
  refine bsplit_i (fun hi => ?_) (fun hi => ?_)
  · have hi' := (inB_iff i).1 hi
    simp only [↓VD, VP, VT, isAggD, reduceCtorEq, Int.reduceEq, Int.reduceNe, Int.reduceLT, Int.reduceLE, implies_true, Nat.reduceEqDiff, reduceIte, ite_true, ite_false, eq_self, Nat.reduceLT, Nat.reduceLeDiff, Nat.reduceAdd, Nat.reduceMul, Nat.reduceSub, intOf]
    refine ⟨hi'.1, ?_, hE⟩
    obtain ⟨j, rfl⟩ : ∃ j : Nat, i = j := ⟨i.toNat, by omega⟩
    have hp := pow_le16 (i := j) (by omega)
    have h0 : 0 < 2 ^ j := Nat.pow_pos (by decide)
    have e : (1 : Int) * 2 ^ min ((j : Nat) : Int).toNat IntKind.u16.bits = ((2 ^ j : Nat) : Int) := by
      rw [Int.toNat_natCast, Nat.min_eq_left (by simp [IntKind.bits]; omega)]; simp
    rw [e, w16 (n := ((2 ^ j : Nat) : Int)) (by omega) (by omega), (ibN .u16 rfl m (2 ^ j) h (by simp [IntKind.bits]; omega)).2.1]
    simp [withB, hi]
  · simp only [↓VD, VP, VT, isAggD, reduceCtorEq, Int.reduceEq, Int.reduceNe, Int.reduceLT, Int.reduceLE, implies_true, Nat.reduceEqDiff, reduceIte, ite_true, ite_false, eq_self, Nat.reduceLT, Nat.reduceLeDiff, Nat.reduceAdd, Nat.reduceMul, Nat.reduceSub, intOf]
    refine ⟨?_, hE⟩
    simp [withB, hi]

theorem Without_ok (m : Nat) (h : m < 65536) (i : Int) (w : World) :
    CallK Tryz.prog 268 [.int .u16 m, .int .i64 i].toArray w fun v w' => v = .int .u16 (withoutB m i) ∧ Ext w w' := by
  refine enterT Tryz.func268 rfl Tryz.ntmps268 Tryz.results268 rfl (by decide) ?_
  simp only [↓VD, VP, VT, isAggD, reduceCtorEq, Int.reduceEq, Int.reduceNe, Int.reduceLT, Int.reduceLE, implies_true, Nat.reduceEqDiff, reduceIte, ite_true, ite_false, eq_self, Nat.reduceLT, Nat.reduceLeDiff, Nat.reduceAdd, Nat.reduceMul, Nat.reduceSub, intOf]
  refine (in_ok i w).mono ?_
  rintro _ w1 ⟨rfl, hE⟩
  simp only [↓VD, VP, VT, isAggD, reduceCtorEq, Int.reduceEq, Int.reduceNe, Int.reduceLT, Int.reduceLE, implies_true, Nat.reduceEqDiff, reduceIte, ite_true, ite_false, eq_self, Nat.reduceLT, Nat.reduceLeDiff, Nat.reduceAdd, Nat.reduceMul, Nat.reduceSub, intOf]
  refine bsplit_i (fun hi => ?_) (fun hi => ?_)
  · have hi' := (inB_iff i).1 hi
    simp only [↓VD, VP, VT, isAggD, reduceCtorEq, Int.reduceEq, Int.reduceNe, Int.reduceLT, Int.reduceLE, implies_true, Nat.reduceEqDiff, reduceIte, ite_true, ite_false, eq_self, Nat.reduceLT, Nat.reduceLeDiff, Nat.reduceAdd, Nat.reduceMul, Nat.reduceSub, intOf]
    refine ⟨hi'.1, ?_, hE⟩
    obtain ⟨j, rfl⟩ : ∃ j : Nat, i = j := ⟨i.toNat, by omega⟩
    have hp := pow_le16 (i := j) (by omega)
    have h0 : 0 < 2 ^ j := Nat.pow_pos (by decide)
    have e : (1 : Int) * 2 ^ min ((j : Nat) : Int).toNat IntKind.u16.bits = ((2 ^ j : Nat) : Int) := by
      rw [Int.toNat_natCast, Nat.min_eq_left (by simp [IntKind.bits]; omega)]; simp
    rw [e, w16 (n := ((2 ^ j : Nat) : Int)) (by omega) (by omega), (ibN .u16 rfl m (2 ^ j) h (by simp [IntKind.bits]; omega)).2.2.2]
    simp [withoutB, hi, IntKind.bits]
  · simp only [↓VD, VP, VT, isAggD, reduceCtorEq, Int.reduceEq, Int.reduceNe, Int.reduceLT, Int.reduceLE, implies_true, Nat.reduceEqDiff, reduceIte, ite_true, ite_false, eq_self, Nat.reduceLT, Nat.reduceLeDiff, Nat.reduceAdd, Nat.reduceMul, Nat.reduceSub, intOf]
    refine ⟨?_, hE⟩
    simp [withoutB, hi]

theorem rank_neg {m : Nat} {i : Int} (h : i < 0) : rankB m i = 0 := by
  unfold rankB
  rw [List.length_eq_zero_iff, List.filter_eq_nil_iff]
  intro j _; simp; omega
theorem rank_big {m : Nat} {i : Int} (h : 15 < i) : rankB m i = cntB m := by
  unfold rankB cntB
  rw [List.filter_eq_self.2]
  intro j hj
  simp only [setB, List.mem_filter, List.mem_range] at hj
  simp; omega
theorem rank_mid {m : Nat} {j : Nat} (h : j ≤ 15) : rankB m j = cntB (m &&& (2 ^ j - 1)) := by
  unfold rankB cntB setB
  rw [List.filter_filter]
  congr 1
  apply List.filter_congr
  intro k _
  rw [Nat.testBit_and, Nat.testBit_two_pow_sub_one, Bool.and_comm]
  congr 1
  simp

theorem Rank_ok (m : Nat) (h : m < 65536) (i : Int) (w : World) :
    CallK Tryz.prog 124 [.int .u16 m, .int .i64 i].toArray w fun v w' => v = .int .i64 (rankB m i) ∧ Ext w w' := by
  refine enterT Tryz.func124 rfl Tryz.ntmps124 Tryz.results124 rfl (by decide) ?_
  simp only [↓VD, VP, VT, isAggD, reduceCtorEq, Int.reduceEq, Int.reduceNe, Int.reduceLT, Int.reduceLE, implies_true, Nat.reduceEqDiff, reduceIte, ite_true, ite_false, eq_self, Nat.reduceLT, Nat.reduceLeDiff, Nat.reduceAdd, Nat.reduceMul, Nat.reduceSub, intOf]
  refine ⟨fun h1 => ⟨by rw [rank_neg h1]; rfl, Ext.rfl' w⟩, fun h1 => ⟨fun h2 => ?_, fun h2 => ?_⟩⟩
  · refine (Count_ok m h w).mono ?_
    rintro _ w1 ⟨rfl, hE⟩
    simp only [↓VD, VP, VT, isAggD, reduceCtorEq, Int.reduceEq, Int.reduceNe, Int.reduceLT, Int.reduceLE, implies_true, Nat.reduceEqDiff, reduceIte, ite_true, ite_false, eq_self, Nat.reduceLT, Nat.reduceLeDiff, Nat.reduceAdd, Nat.reduceMul, Nat.reduceSub, intOf]
    exact ⟨by rw [rank_big h2], hE⟩
  · refine ⟨by omega, ?_⟩
    obtain ⟨j, rfl⟩ : ∃ j : Nat, i = j := ⟨i.toNat, by omega⟩
    have hp := pow_le16 (i := j) (by omega)
    have h0 : 0 < 2 ^ j := Nat.pow_pos (by decide)
    have e : (1 : Int) * 2 ^ min j IntKind.u16.bits = ((2 ^ j : Nat) : Int) := by
      rw [Nat.min_eq_left (by simp [IntKind.bits]; omega)]; simp
    simp only [↓VD, VP, VT, isAggD, reduceCtorEq, Int.reduceEq, Int.reduceNe, Int.reduceLT, Int.reduceLE, implies_true, Nat.reduceEqDiff, reduceIte, ite_true, ite_false, eq_self, Nat.reduceLT, Nat.reduceLeDiff, Nat.reduceAdd, Nat.reduceMul, Nat.reduceSub, intOf]
    rw [e, w16 (n := ((2 ^ j : Nat) : Int)) (by omega) (by omega), show ((2 ^ j : Nat) : Int) - 1 = ((2 ^ j - 1 : Nat) : Int) from by omega, w16 (n := ((2 ^ j - 1 : Nat) : Int)) (by omega) (by omega), (ibN .u16 rfl m (2 ^ j - 1) h (by simp [IntKind.bits]; omega)).1]
    refine (Count_ok _ (Nat.lt_of_le_of_lt Nat.and_le_left h) w).mono ?_
    rintro _ w1 ⟨rfl, hE⟩
    simp only [↓VD, VP, VT, isAggD, reduceCtorEq, Int.reduceEq, Int.reduceNe, Int.reduceLT, Int.reduceLE, implies_true, Nat.reduceEqDiff, reduceIte, ite_true, ite_false, eq_self, Nat.reduceLT, Nat.reduceLeDiff, Nat.reduceAdd, Nat.reduceMul, Nat.reduceSub, intOf]
    exact ⟨by rw [rank_mid (by omega)], hE⟩

end Go.Proofs.YthlkfjoibjhaiaaGreatDoor

/-! DigB -/
namespace Go.Proofs.YthlkfjoibjhaiaaGreatDoor
set_option maxRecDepth 100000
set_option maxHeartbeats 2000000
open Go Go.RowKit
set_option linter.unusedVariables false
set_option linter.unusedSimpArgs false

/-- A slice of bytes with what it holds. -/
structure BR where
  v : Value
  b : List UInt8
def catB (ps : List BR) : List UInt8 := ps.flatMap (·.b)
theorem catB_take {ps : List BR} {k : Nat} {x : BR} (h : ps[k]? = some x) : catB (ps.take (k + 1)) = catB (ps.take k) ++ x.b := by
  obtain ⟨hk, rfl⟩ := List.getElem?_eq_some_iff.1 h
  rw [List.take_succ_eq_append_getElem hk, catB, catB, List.flatMap_append]
  simp
/-- What a sum of a width answers. -/
def sumR (n : Int) (xs : List UInt8) : List UInt8 := if widB n = true then sumP n.toNat xs else List.replicate 32 0
def sumE (n : Int) : Nat := if widB n = true then 0 else 1
theorem sumR_len (n : Int) (xs : List UInt8) : (sumR n xs).length = 32 := by
  unfold sumR
  split
  · rename_i h
    have := (widB_iff n).1 h
    exact sumP_len _ _ (by omega)
  · simp

theorem dSum_ok (n : Int) (v : Value) (ps : List BR) (w : World) (hW : WordsAt w 1) (hv : SlC w v ps.length (ps.map (·.v))) (hp : ∀ p ∈ ps, SlB w p.v p.b) (hsz : (catB ps).length < 18446744073709551616) :
    CallK Tryz.prog 153 [.int .i64 n, v].toArray w fun v w' => v = .tuple [.agg (vbs (sumR n (catB ps))).toArray, .int .i64 (sumE n)].toArray ∧ Ext w w' := by
  obtain ⟨a, c, rfl, hnc, hcm, hc⟩ := hv
  have hgw := hW.lt
  refine enterT Tryz.func153 rfl Tryz.ntmps153 Tryz.results153 rfl (by decide) ?_
  simp only [↓VD, VP, VT, isAggD, reduceCtorEq, Int.reduceEq, Int.reduceNe, Int.reduceLT, Int.reduceLE, implies_true, Nat.reduceEqDiff, reduceIte, ite_true, ite_false, eq_self, Nat.reduceLT, Nat.reduceLeDiff, Nat.reduceAdd, Nat.reduceMul, Nat.reduceSub, intOf]
  intro w1 hN1
  have s1 := hN1.size
  rw [vbs_rep] at hN1
  refine (width_ok n w1).mono ?_
  rintro _ w2 ⟨rfl, rfl⟩
  cases hw : widB n
  · simp only [↓VD, VP, VT, isAggD, reduceCtorEq, Int.reduceEq, Int.reduceNe, Int.reduceLT, Int.reduceLE, implies_true, Nat.reduceEqDiff, reduceIte, ite_true, ite_false, eq_self, Nat.reduceLT, Nat.reduceLeDiff, Nat.reduceAdd, Nat.reduceMul, Nat.reduceSub, intOf, hw]
    refine bldC (vbs (List.replicate 32 0)) (by kernel_rfl) ?_
    simp only [↓VD, VP, VT, isAggD, reduceCtorEq, Int.reduceEq, Int.reduceNe, Int.reduceLT, Int.reduceLE, implies_true, Nat.reduceEqDiff, reduceIte, ite_true, ite_false, eq_self, Nat.reduceLT, Nat.reduceLeDiff, Nat.reduceAdd, Nat.reduceMul, Nat.reduceSub, intOf]
    refine stAll hN1.blk rfl (by rw [c28]; omega) (by rw [c28]; rfl) (by rw [c28]; rfl) (vbs_one _) (fun w3 hP => ?_)
    simp only [↓VD, VP, VT, isAggD, reduceCtorEq, Int.reduceEq, Int.reduceNe, Int.reduceLT, Int.reduceLE, implies_true, Nat.reduceEqDiff, reduceIte, ite_true, ite_false, eq_self, Nat.reduceLT, Nat.reduceLeDiff, Nat.reduceAdd, Nat.reduceMul, Nat.reduceSub, intOf]
    refine ldA Tryz.underlying28 rfl hP.blk (by rw [c28]; rfl) ?_
    simp only [↓VD, VP, VT, isAggD, reduceCtorEq, Int.reduceEq, Int.reduceNe, Int.reduceLT, Int.reduceLE, implies_true, Nat.reduceEqDiff, reduceIte, ite_true, ite_false, eq_self, Nat.reduceLT, Nat.reduceLeDiff, Nat.reduceAdd, Nat.reduceMul, Nat.reduceSub, intOf]
    exact ⟨by simp [sumR, sumE, hw], hN1.ext.trans (hP.below (Nat.le_refl _))⟩
  have hwn := (widB_iff n).1 hw
  obtain ⟨m, rfl⟩ : ∃ m : Nat, n = m := ⟨n.toNat, by omega⟩
  simp only [↓VD, VP, VT, isAggD, reduceCtorEq, Int.reduceEq, Int.reduceNe, Int.reduceLT, Int.reduceLE, implies_true, Nat.reduceEqDiff, reduceIte, ite_true, ite_false, eq_self, Nat.reduceLT, Nat.reduceLeDiff, Nat.reduceAdd, Nat.reduceMul, Nat.reduceSub, intOf, hw]
  refine (New_ok w2).mono ?_
  rintro _ w3 ⟨rfl, hE3, s3, hS3⟩
  simp only [↓VD, VP, VT, isAggD, reduceCtorEq, Int.reduceEq, Int.reduceNe, Int.reduceLT, Int.reduceLE, implies_true, Nat.reduceEqDiff, reduceIte, ite_true, ite_false, eq_self, Nat.reduceLT, Nat.reduceLeDiff, Nat.reduceAdd, Nat.reduceMul, Nat.reduceSub, intOf]
  refine loopT (fun s' w' => KeepB w3 w' w2.heap.size ∧ ∃ k : Nat, k ≤ ps.length ∧ s' 0 = .int .i64 m ∧ s' 4 = .pointer (some ⟨w.heap.size, 0, none⟩) ∧ s' 6 = .pointer (some ⟨w2.heap.size, 0, none⟩) ∧ s' 14 = .slice a ps.length c ∧ s' 15 = .int .i64 ps.length ∧ s' 16 = .int .i64 k ∧
      St w' w2.heap.size (catB (ps.take k))) (fun s' _ => ps.length - (intOf (s' 16)).toNat) ?_ ?_
  · simp only [↓VD, VP, VT, isAggD, reduceCtorEq, Int.reduceEq, Int.reduceNe, Int.reduceLT, Int.reduceLE, implies_true, Nat.reduceEqDiff, reduceIte, ite_true, ite_false, eq_self, Nat.reduceLT, Nat.reduceLeDiff, Nat.reduceAdd, Nat.reduceMul, Nat.reduceSub, intOf]
    exact ⟨KeepB.rfl' _ _, 0, by omega, rfl, by simpa [catB] using hS3⟩
  · rintro s4 w4 ⟨hK, k, hk, h0, h4, h6, h14, h15, h16, hS⟩
    have hE23 : Ext w w3 := hN1.ext.trans' hE3
    have hE4 : Ext w w4 := hE23.trans (hK.below (by omega) (by omega))
    simp only [↓VD, VP, VT, isAggD, reduceCtorEq, Int.reduceEq, Int.reduceNe, Int.reduceLT, Int.reduceLE, implies_true, Nat.reduceEqDiff, reduceIte, ite_true, ite_false, eq_self, Nat.reduceLT, Nat.reduceLeDiff, Nat.reduceAdd, Nat.reduceMul, Nat.reduceSub, intOf, h0, h4, h6, h14, h15, h16]
    refine ⟨fun hlt => ?_, fun hge => ?_⟩
    · have hlt' : k < ps.length := by omega
      obtain ⟨x, hx⟩ : ∃ x, ps[k]? = some x := ⟨_, List.getElem?_eq_getElem hlt'⟩
      have hxm := List.mem_of_getElem? hx
      rcases hc with hc | ⟨b, o, rfl, hc⟩
      · exfalso
        have := congrArg List.length hc
        simp at this; simp [this] at hlt'
      simp only [↓VD, VP, VT, isAggD, reduceCtorEq, Int.reduceEq, Int.reduceNe, Int.reduceLT, Int.reduceLE, implies_true, Nat.reduceEqDiff, reduceIte, ite_true, ite_false, eq_self, Nat.reduceLT, Nat.reduceLeDiff, Nat.reduceAdd, Nat.reduceMul, Nat.reduceSub, intOf]
      refine ⟨by omega, by omega, ld1 Tryz.underlying22 rfl (v := x.v) (by rw [hE4.cell (block_lt_of_cell (hc k x.v (by simp [hx])))]; exact hc k x.v (by simp [hx])) ?_⟩
      simp only [↓VD, VP, VT, isAggD, reduceCtorEq, Int.reduceEq, Int.reduceNe, Int.reduceLT, Int.reduceLE, implies_true, Nat.reduceEqDiff, reduceIte, ite_true, ite_false, eq_self, Nat.reduceLT, Nat.reduceLeDiff, Nat.reduceAdd, Nat.reduceMul, Nat.reduceSub, intOf, h0, h4, h6, h14, h15, h16]
      refine (Write_ok w2.heap.size (catB (ps.take k)) x.b x.v w4 (hW.ext hE4) (by omega) hS (SlN.of (hp x hxm) hE4 (by omega))).mono ?_
      rintro _ w5 ⟨hK5, hS5⟩
      rw [← catB_take hx] at hS5
      simp only [↓VD, VP, VT, isAggD, reduceCtorEq, Int.reduceEq, Int.reduceNe, Int.reduceLT, Int.reduceLE, implies_true, Nat.reduceEqDiff, reduceIte, ite_true, ite_false, eq_self, Nat.reduceLT, Nat.reduceLeDiff, Nat.reduceAdd, Nat.reduceMul, Nat.reduceSub, intOf, h0, h4, h6, h14, h15, h16]
      refine ⟨⟨hK.trans hK5, k + 1, by omega, ?_, hS5⟩, ?_⟩
      · rw [w64 (by omega) (by omega)]; rfl
      · rw [w64 (by omega) (by omega)]; omega
    · have hkl : k = ps.length := by omega
      subst hkl
      rw [List.take_length] at hS
      refine (shaSum_ok w2.heap.size (catB ps) w4 hsz (hW.ext hE4) hS).mono ?_
      rintro _ w5 ⟨rfl, hE5⟩
      simp only [↓VD, VP, VT, isAggD, reduceCtorEq, Int.reduceEq, Int.reduceNe, Int.reduceLT, Int.reduceLE, implies_true, Nat.reduceEqDiff, reduceIte, ite_true, ite_false, eq_self, Nat.reduceLT, Nat.reduceLeDiff, Nat.reduceAdd, Nat.reduceMul, Nat.reduceSub, intOf, h0, h4, h6, h14, h15, h16]
      refine (cut_ok m (by omega) (shaP (catB ps)) (shaP_len _) w5).mono ?_
      rintro _ w6 ⟨rfl, hE6⟩
      have hcl : (cutP m (shaP (catB ps))).length = 32 := cutP_len _ _ (shaP_len _) (by omega)
      have hB6 : Blk w6 w.heap.size 28 (vbs (List.replicate 32 0)) := ((hK.blk (hN1.blk.ext hE3) (by omega)).ext hE5).ext hE6
      simp only [↓VD, VP, VT, isAggD, reduceCtorEq, Int.reduceEq, Int.reduceNe, Int.reduceLT, Int.reduceLE, implies_true, Nat.reduceEqDiff, reduceIte, ite_true, ite_false, eq_self, Nat.reduceLT, Nat.reduceLeDiff, Nat.reduceAdd, Nat.reduceMul, Nat.reduceSub, intOf, h0, h4, h6, h14, h15, h16]
      refine stAll hB6 rfl (by rw [c28]; omega) (by rw [c28, vbs_len, hcl]) (by rw [c28]; rfl) (vbs_one _) (fun w7 hP => ?_)
      simp only [↓VD, VP, VT, isAggD, reduceCtorEq, Int.reduceEq, Int.reduceNe, Int.reduceLT, Int.reduceLE, implies_true, Nat.reduceEqDiff, reduceIte, ite_true, ite_false, eq_self, Nat.reduceLT, Nat.reduceLeDiff, Nat.reduceAdd, Nat.reduceMul, Nat.reduceSub, intOf, h0, h4, h6, h14, h15, h16]
      refine ldA Tryz.underlying28 rfl hP.blk (by rw [vbs_len, hcl, c28]) ?_
      simp only [↓VD, VP, VT, isAggD, reduceCtorEq, Int.reduceEq, Int.reduceNe, Int.reduceLT, Int.reduceLE, implies_true, Nat.reduceEqDiff, reduceIte, ite_true, ite_false, eq_self, Nat.reduceLT, Nat.reduceLeDiff, Nat.reduceAdd, Nat.reduceMul, Nat.reduceSub, intOf, h0, h4, h6, h14, h15, h16]
      exact ⟨by simp [sumR, sumE, hw, sumP], ((hE4.trans' hE5).trans' hE6).trans (hP.below (Nat.le_refl _))⟩

/-- A sum of one part, as the walks meet it. -/
theorem sum1 (n : Int) (v : Value) (xs : List UInt8) (w w1 : World) (hW : WordsAt w 1) (hv : SlB w v xs) (hN : NewB w w1 22 [v]) (hsz : xs.length < 18446744073709551616) :
    CallK Tryz.prog 153 [.int .i64 n, .slice (some ⟨w.heap.size, 0, none⟩) 1 1].toArray w1 fun v w' => v = .tuple [.agg (vbs (sumR n xs)).toArray, .int .i64 (sumE n)].toArray ∧ Ext w w' := by
  have h := dSum_ok n (.slice (some ⟨w.heap.size, 0, none⟩) 1 1) [⟨v, xs⟩] w1 (hW.ext hN.ext) (SlC.of_blk hN.blk (by decide)) (by simpa using hv.ext hN.ext) (by simpa [catB] using hsz)
  refine h.mono ?_
  rintro _ w2 ⟨rfl, hE⟩
  exact ⟨by simp [catB], hN.ext.trans' hE⟩

theorem tagged_ok (y : UInt8) (ps : List UInt8) (v : Value) (w : World) (hv : SlB w v ps) (hsz : ps.length + 1 ≤ 140737488355328) :
    CallK Tryz.prog 264 [.int .u8 y.toNat, v].toArray w fun v' w' => SlB w' v' (y :: ps) ∧ Ext w w' := by
  refine enterT Tryz.func264 rfl Tryz.ntmps264 Tryz.results264 rfl (by decide) ?_
  simp only [↓VD, VP, VT, isAggD, reduceCtorEq, Int.reduceEq, Int.reduceNe, Int.reduceLT, Int.reduceLE, implies_true, Nat.reduceEqDiff, reduceIte, ite_true, ite_false, eq_self, Nat.reduceLT, Nat.reduceLeDiff, Nat.reduceAdd, Nat.reduceMul, Nat.reduceSub, intOf]
  intro w1 hN1
  have s1 := hN1.size
  refine (U8_ok w.heap.size w.heap.size [] y w1 (by omega) ⟨_, hN1.blk, Own.nil _ _ _ _⟩ (by simp)).mono ?_
  rintro _ w2 ⟨hS2, hK2⟩
  have s2 := hK2.size
  have hE2 : Ext w w2 := hN1.ext.trans (hK2.below (Nat.le_refl _) (by omega))
  simp only [↓VD, VP, VT, isAggD, reduceCtorEq, Int.reduceEq, Int.reduceNe, Int.reduceLT, Int.reduceLE, implies_true, Nat.reduceEqDiff, reduceIte, ite_true, ite_false, eq_self, Nat.reduceLT, Nat.reduceLeDiff, Nat.reduceAdd, Nat.reduceMul, Nat.reduceSub, intOf]
  refine (Raw_ok w.heap.size w.heap.size _ ps v w2 (by omega) hS2 (hv.ext hE2) (by simp; omega)).mono ?_
  rintro _ w3 ⟨hS3, hK3⟩
  have s3 := hK3.size
  have hE3 : Ext w w3 := hE2.trans (hK3.below (Nat.le_refl _) (by omega))
  simp only [↓VD, VP, VT, isAggD, reduceCtorEq, Int.reduceEq, Int.reduceNe, Int.reduceLT, Int.reduceLE, implies_true, Nat.reduceEqDiff, reduceIte, ite_true, ite_false, eq_self, Nat.reduceLT, Nat.reduceLeDiff, Nat.reduceAdd, Nat.reduceMul, Nat.reduceSub, intOf]
  refine (Bytes_ok w.heap.size w.heap.size _ w3 hS3 (by simp; omega)).mono ?_
  rintro v' w4 ⟨hO, hE4⟩
  simp only [↓VD, VP, VT, isAggD, reduceCtorEq, Int.reduceEq, Int.reduceNe, Int.reduceLT, Int.reduceLE, implies_true, Nat.reduceEqDiff, reduceIte, ite_true, ite_false, eq_self, Nat.reduceLT, Nat.reduceLeDiff, Nat.reduceAdd, Nat.reduceMul, Nat.reduceSub, intOf]
  exact ⟨by have := SlC.of_own hO; simpa [SlB] using this, hE3.trans' hE4⟩

theorem KeyInput_ok (ps : List UInt8) (v : Value) (w : World) (hv : SlB w v ps) (hsz : ps.length + 1 ≤ 140737488355328) :
    CallK Tryz.prog 225 [v].toArray w fun v' w' => SlB w' v' (2 :: ps) ∧ Ext w w' := by
  refine enterT Tryz.func225 rfl Tryz.ntmps225 Tryz.results225 rfl (by decide) ?_
  simp only [↓VD, VP, VT, isAggD, reduceCtorEq, Int.reduceEq, Int.reduceNe, Int.reduceLT, Int.reduceLE, implies_true, Nat.reduceEqDiff, reduceIte, ite_true, ite_false, eq_self, Nat.reduceLT, Nat.reduceLeDiff, Nat.reduceAdd, Nat.reduceMul, Nat.reduceSub, intOf]
  refine (tagged_ok 2 ps v w hv hsz).mono ?_
  rintro v' w2 h
  simp only [↓VD, VP, VT, isAggD, reduceCtorEq, Int.reduceEq, Int.reduceNe, Int.reduceLT, Int.reduceLE, implies_true, Nat.reduceEqDiff, reduceIte, ite_true, ite_false, eq_self, Nat.reduceLT, Nat.reduceLeDiff, Nat.reduceAdd, Nat.reduceMul, Nat.reduceSub, intOf]
  exact h

theorem Key_ok (n : Int) (ps : List UInt8) (v : Value) (w : World) (hW : WordsAt w 1) (hv : SlB w v ps) (hsz : ps.length + 1 ≤ 140737488355328) :
    CallK Tryz.prog 106 [.int .i64 n, v].toArray w fun v w' => v = .tuple [.agg (vbs (sumR n (2 :: ps))).toArray, .int .i64 (sumE n)].toArray ∧ Ext w w' := by
  refine enterT Tryz.func106 rfl Tryz.ntmps106 Tryz.results106 rfl (by decide) ?_
  simp only [↓VD, VP, VT, isAggD, reduceCtorEq, Int.reduceEq, Int.reduceNe, Int.reduceLT, Int.reduceLE, implies_true, Nat.reduceEqDiff, reduceIte, ite_true, ite_false, eq_self, Nat.reduceLT, Nat.reduceLeDiff, Nat.reduceAdd, Nat.reduceMul, Nat.reduceSub, intOf]
  intro w1 hN1
  rw [vbs_rep] at hN1
  refine (KeyInput_ok ps v w1 (hv.ext hN1.ext) hsz).mono ?_
  rintro v' w2 ⟨hv2, hE2⟩
  have hv2' := hv2
  obtain ⟨a, c, rfl, _⟩ := hv2'
  simp only [↓VD, VP, VT, isAggD, reduceCtorEq, Int.reduceEq, Int.reduceNe, Int.reduceLT, Int.reduceLE, implies_true, Nat.reduceEqDiff, reduceIte, ite_true, ite_false, eq_self, Nat.reduceLT, Nat.reduceLeDiff, Nat.reduceAdd, Nat.reduceMul, Nat.reduceSub, intOf]
  refine ⟨rfl, rfl, fun w3 hN3 => ?_⟩
  refine (sum1 n _ (2 :: ps) w2 w3 (hW.ext (hN1.ext.trans' hE2)) hv2 hN3 (by simp; omega)).mono ?_
  rintro _ w4 ⟨rfl, hE4⟩
  simp only [↓VD, VP, VT, isAggD, reduceCtorEq, Int.reduceEq, Int.reduceNe, Int.reduceLT, Int.reduceLE, implies_true, Nat.reduceEqDiff, reduceIte, ite_true, ite_false, eq_self, Nat.reduceLT, Nat.reduceLeDiff, Nat.reduceAdd, Nat.reduceMul, Nat.reduceSub, intOf]
  refine stAll (((hN1.blk.ext hE2).ext hE4)) rfl (by rw [c28]; omega) (by rw [c28, vbs_len, sumR_len]) (by rw [c28]; rfl) (vbs_one _) (fun w5 hP => ?_)
  simp only [↓VD, VP, VT, isAggD, reduceCtorEq, Int.reduceEq, Int.reduceNe, Int.reduceLT, Int.reduceLE, implies_true, Nat.reduceEqDiff, reduceIte, ite_true, ite_false, eq_self, Nat.reduceLT, Nat.reduceLeDiff, Nat.reduceAdd, Nat.reduceMul, Nat.reduceSub, intOf]
  refine ldA Tryz.underlying28 rfl hP.blk (by rw [c28, vbs_len, sumR_len]) ?_
  exact ⟨rfl, ((hN1.ext.trans' hE2).trans' hE4).trans (hP.below (Nat.le_refl _))⟩

theorem NoMap_ok (n : Int) (w : World) (hW : WordsAt w 1) :
    CallK Tryz.prog 143 [.int .i64 n].toArray w fun v w' => v = .tuple [.agg (vbs (sumR n [5])).toArray, .int .i64 (sumE n)].toArray ∧ Ext w w' := by
  refine enterT Tryz.func143 rfl Tryz.ntmps143 Tryz.results143 rfl (by decide) ?_
  simp only [↓VD, VP, VT, isAggD, reduceCtorEq, Int.reduceEq, Int.reduceNe, Int.reduceLT, Int.reduceLE, implies_true, Nat.reduceEqDiff, reduceIte, ite_true, ite_false, eq_self, Nat.reduceLT, Nat.reduceLeDiff, Nat.reduceAdd, Nat.reduceMul, Nat.reduceSub, intOf]
  intro w1 hN1
  rw [vbs_rep] at hN1
  refine ⟨rfl, rfl, fun w2 hN2 => ⟨rfl, rfl, fun w3 hN3 => ?_⟩⟩
  have hv2 : SlB w2 (.slice (some ⟨w1.heap.size, 0, none⟩) 1 1) [5] := SlC.of_blk hN2.blk (by decide)
  refine (sum1 n _ [5] w2 w3 (hW.ext (hN1.ext.trans' hN2.ext)) hv2 hN3 (by decide)).mono ?_
  rintro _ w4 ⟨rfl, hE4⟩
  simp only [↓VD, VP, VT, isAggD, reduceCtorEq, Int.reduceEq, Int.reduceNe, Int.reduceLT, Int.reduceLE, implies_true, Nat.reduceEqDiff, reduceIte, ite_true, ite_false, eq_self, Nat.reduceLT, Nat.reduceLeDiff, Nat.reduceAdd, Nat.reduceMul, Nat.reduceSub, intOf]
  refine stAll (((hN1.blk.ext hN2.ext).ext hE4)) rfl (by rw [c28]; omega) (by rw [c28, vbs_len, sumR_len]) (by rw [c28]; rfl) (vbs_one _) (fun w5 hP => ?_)
  simp only [↓VD, VP, VT, isAggD, reduceCtorEq, Int.reduceEq, Int.reduceNe, Int.reduceLT, Int.reduceLE, implies_true, Nat.reduceEqDiff, reduceIte, ite_true, ite_false, eq_self, Nat.reduceLT, Nat.reduceLeDiff, Nat.reduceAdd, Nat.reduceMul, Nat.reduceSub, intOf]
  refine ldA Tryz.underlying28 rfl hP.blk (by rw [c28, vbs_len, sumR_len]) ?_
  exact ⟨rfl, ((hN1.ext.trans' hN2.ext).trans' hE4).trans (hP.below (Nat.le_refl _))⟩

theorem of_ok (n : Int) (v : Value) (xs : List UInt8) (e : Nat) (w : World) (hW : WordsAt w 1) (hv : e = 0 → SlB w v xs) (hsz : xs.length < 18446744073709551616) :
    CallK Tryz.prog 160 [.int .i64 n, v, .int .i64 e].toArray w fun v w' => v = .tuple [.agg (vbs (if e = 0 then sumR n xs else List.replicate 32 0)).toArray, .int .i64 (if e = 0 then sumE n else e : Nat)].toArray ∧ Ext w w' := by
  refine enterT Tryz.func160 rfl Tryz.ntmps160 Tryz.results160 rfl (by decide) ?_
  simp only [↓VD, VP, VT, isAggD, reduceCtorEq, Int.reduceEq, Int.reduceNe, Int.reduceLT, Int.reduceLE, implies_true, Nat.reduceEqDiff, reduceIte, ite_true, ite_false, eq_self, Nat.reduceLT, Nat.reduceLeDiff, Nat.reduceAdd, Nat.reduceMul, Nat.reduceSub, intOf]
  intro w1 hN1
  rw [vbs_rep] at hN1
  refine ⟨fun he => ?_, fun he => ?_⟩
  · have he0 : ¬ e = 0 := by omega
    refine bldC (vbs (List.replicate 32 0)) (by kernel_rfl) ?_
    simp only [↓VD, VP, VT, isAggD, reduceCtorEq, Int.reduceEq, Int.reduceNe, Int.reduceLT, Int.reduceLE, implies_true, Nat.reduceEqDiff, reduceIte, ite_true, ite_false, eq_self, Nat.reduceLT, Nat.reduceLeDiff, Nat.reduceAdd, Nat.reduceMul, Nat.reduceSub, intOf]
    refine stAll hN1.blk rfl (by rw [c28]; omega) (by rw [c28]; rfl) (by rw [c28]; rfl) (vbs_one _) (fun w3 hP => ?_)
    simp only [↓VD, VP, VT, isAggD, reduceCtorEq, Int.reduceEq, Int.reduceNe, Int.reduceLT, Int.reduceLE, implies_true, Nat.reduceEqDiff, reduceIte, ite_true, ite_false, eq_self, Nat.reduceLT, Nat.reduceLeDiff, Nat.reduceAdd, Nat.reduceMul, Nat.reduceSub, intOf]
    refine ldA Tryz.underlying28 rfl hP.blk (by rw [c28]; rfl) ?_
    rw [if_neg he0, if_neg he0]
    exact ⟨rfl, hN1.ext.trans (hP.below (Nat.le_refl _))⟩
  · have he0 : e = 0 := by omega
    subst he0
    have hv1 := (hv rfl).ext hN1.ext
    have hv2 := hv1
    obtain ⟨a, c, rfl, _⟩ := hv2
    simp only [↓VD, VP, VT, isAggD, reduceCtorEq, Int.reduceEq, Int.reduceNe, Int.reduceLT, Int.reduceLE, implies_true, Nat.reduceEqDiff, reduceIte, ite_true, ite_false, eq_self, Nat.reduceLT, Nat.reduceLeDiff, Nat.reduceAdd, Nat.reduceMul, Nat.reduceSub, intOf]
    refine ⟨rfl, rfl, fun w3 hN3 => ?_⟩
    refine (sum1 n _ xs w1 w3 (hW.ext hN1.ext) hv1 hN3 hsz).mono ?_
    rintro _ w4 ⟨rfl, hE4⟩
    simp only [↓VD, VP, VT, isAggD, reduceCtorEq, Int.reduceEq, Int.reduceNe, Int.reduceLT, Int.reduceLE, implies_true, Nat.reduceEqDiff, reduceIte, ite_true, ite_false, eq_self, Nat.reduceLT, Nat.reduceLeDiff, Nat.reduceAdd, Nat.reduceMul, Nat.reduceSub, intOf]
    refine stAll (hN1.blk.ext hE4) rfl (by rw [c28]; omega) (by rw [c28, vbs_len, sumR_len]) (by rw [c28]; rfl) (vbs_one _) (fun w5 hP => ?_)
    simp only [↓VD, VP, VT, isAggD, reduceCtorEq, Int.reduceEq, Int.reduceNe, Int.reduceLT, Int.reduceLE, implies_true, Nat.reduceEqDiff, reduceIte, ite_true, ite_false, eq_self, Nat.reduceLT, Nat.reduceLeDiff, Nat.reduceAdd, Nat.reduceMul, Nat.reduceSub, intOf]
    refine ldA Tryz.underlying28 rfl hP.blk (by rw [c28, vbs_len, sumR_len]) ?_
    exact ⟨rfl, (hN1.ext.trans' hE4).trans (hP.below (Nat.le_refl _))⟩

/-! ### Buckets -/
/-- A pair with what its slices hold. -/
structure PR where
  kv : Value
  vv : Value
  k : List UInt8
  v : List UInt8
def PR.cells (p : PR) : List Value := [p.kv, p.vv]
def PR.dat (p : PR) : List UInt8 × List UInt8 := (p.k, p.v)
/-- Pairs that may be read. -/
def PairsAt (w : World) (v : Value) (ps : List PR) : Prop := SlC w v ps.length (ps.flatMap PR.cells) ∧ ∀ p ∈ ps, SlB w p.kv p.k ∧ SlB w p.vv p.v
theorem PairsAt.ext {w w' : World} {v : Value} {ps : List PR} (h : PairsAt w v ps) (e : Ext w w') : PairsAt w' v ps := ⟨h.1.ext e, fun p hp => ⟨(h.2 p hp).1.ext e, (h.2 p hp).2.ext e⟩⟩
def pairsB (ps : List (List UInt8 × List UInt8)) : List UInt8 := ps.flatMap fun p => blobP p.1 ++ blobP p.2
def bucketP (ps : List (List UInt8 × List UInt8)) : List UInt8 := 3 :: (uvarP ps.length ++ pairsB ps)
theorem pairsB_take {ps : List (List UInt8 × List UInt8)} {k : Nat} {x : List UInt8 × List UInt8} (h : ps[k]? = some x) : pairsB (ps.take (k + 1)) = pairsB (ps.take k) ++ (blobP x.1 ++ blobP x.2) := by
  obtain ⟨hk, rfl⟩ := List.getElem?_eq_some_iff.1 h
  rw [List.take_succ_eq_append_getElem hk, pairsB, pairsB, List.flatMap_append]
  simp
theorem pairsB_split (ps : List (List UInt8 × List UInt8)) (k : Nat) : pairsB ps = pairsB (ps.take k) ++ pairsB (ps.drop k) := by rw [pairsB, pairsB, pairsB, ← List.flatMap_append, List.take_append_drop]

theorem BucketInput_ok (v : Value) (ps : List PR) (w : World) (hv : PairsAt w v ps) (hsz : (bucketP (ps.map PR.dat)).length + 16 ≤ 140737488355328) :
    CallK Tryz.prog 321 [v].toArray w fun v' w' => Own w' w.heap.size 5 1 v' (bucketP (ps.map PR.dat)).length (vbs (bucketP (ps.map PR.dat))) ∧ Ext w w' := by
  obtain ⟨⟨a, c, rfl, hnc, hcm, hc⟩, hp⟩ := hv
  have hlen : (bucketP (ps.map PR.dat)).length = 1 + ((uvarP ps.length).length + (pairsB (ps.map PR.dat)).length) := by simp [bucketP]; omega
  refine enterT Tryz.func321 rfl Tryz.ntmps321 Tryz.results321 rfl (by decide) ?_
  simp only [↓VD, VP, VT, isAggD, reduceCtorEq, Int.reduceEq, Int.reduceNe, Int.reduceLT, Int.reduceLE, implies_true, Nat.reduceEqDiff, reduceIte, ite_true, ite_false, eq_self, Nat.reduceLT, Nat.reduceLeDiff, Nat.reduceAdd, Nat.reduceMul, Nat.reduceSub, intOf]
  intro w1 hN1
  have s1 := hN1.size
  refine (U8_ok w.heap.size w.heap.size [] 3 w1 (by omega) ⟨_, hN1.blk, Own.nil _ _ _ _⟩ (by simp)).mono ?_
  rintro _ w2 ⟨hS2, hK2⟩
  have s2 := hK2.size
  have hE2 : Ext w w2 := hN1.ext.trans (hK2.below (Nat.le_refl _) (by omega))
  simp only [↓VD, VP, VT, isAggD, reduceCtorEq, Int.reduceEq, Int.reduceNe, Int.reduceLT, Int.reduceLE, implies_true, Nat.reduceEqDiff, reduceIte, ite_true, ite_false, eq_self, Nat.reduceLT, Nat.reduceLeDiff, Nat.reduceAdd, Nat.reduceMul, Nat.reduceSub, intOf, (show IntKind.u64.wrap ((ps.length : Int)) = ((ps.length : Nat) : Int) from by rw [wu64 (by omega) (by omega)] <;> omega)]
  refine (Uvar_ok w.heap.size w.heap.size _ ps.length (by omega) w2 (by omega) hS2 (by simp)).mono ?_
  rintro _ w3 ⟨hS3, hK3⟩
  have s3 := hK3.size
  have hE3 : Ext w w3 := hE2.trans (hK3.below (Nat.le_refl _) (by omega))
  simp only [↓VD, VP, VT, isAggD, reduceCtorEq, Int.reduceEq, Int.reduceNe, Int.reduceLT, Int.reduceLE, implies_true, Nat.reduceEqDiff, reduceIte, ite_true, ite_false, eq_self, Nat.reduceLT, Nat.reduceLeDiff, Nat.reduceAdd, Nat.reduceMul, Nat.reduceSub, intOf]
  refine loopT (fun s' w' => Ext w w' ∧ w3.heap.size ≤ w'.heap.size ∧ ∃ k : Nat, k ≤ ps.length ∧ s' 3 = .pointer (some ⟨w.heap.size, 0, none⟩) ∧ s' 11 = .slice a ps.length c ∧ s' 12 = .int .i64 ps.length ∧ s' 13 = .int .i64 k ∧
      Wr w' w.heap.size w.heap.size (3 :: (uvarP ps.length ++ pairsB ((ps.map PR.dat).take k)))) (fun s' _ => ps.length - (intOf (s' 13)).toNat) ?_ ?_
  · simp only [↓VD, VP, VT, isAggD, reduceCtorEq, Int.reduceEq, Int.reduceNe, Int.reduceLT, Int.reduceLE, implies_true, Nat.reduceEqDiff, reduceIte, ite_true, ite_false, eq_self, Nat.reduceLT, Nat.reduceLeDiff, Nat.reduceAdd, Nat.reduceMul, Nat.reduceSub, intOf]
    exact ⟨hE3, Nat.le_refl _, 0, by omega, rfl, by simpa [pairsB] using hS3⟩
  · rintro s4 w4 ⟨hE, hs4, k, hk, h3, h11, h12, h13, hS⟩
    simp only [↓VD, VP, VT, isAggD, reduceCtorEq, Int.reduceEq, Int.reduceNe, Int.reduceLT, Int.reduceLE, implies_true, Nat.reduceEqDiff, reduceIte, ite_true, ite_false, eq_self, Nat.reduceLT, Nat.reduceLeDiff, Nat.reduceAdd, Nat.reduceMul, Nat.reduceSub, intOf, h3, h11, h12, h13]
    refine ⟨fun hlt => ?_, fun hge => ?_⟩
    · have hlt' : k < ps.length := by omega
      obtain ⟨x, hx⟩ : ∃ x, ps[k]? = some x := ⟨_, List.getElem?_eq_getElem hlt'⟩
      have hxm := List.mem_of_getElem? hx
      have hxd : (ps.map PR.dat)[k]? = some x.dat := by simp [hx]
      have hsp := pairsB_split (ps.map PR.dat) (k + 1)
      have htk := pairsB_take hxd
      rw [htk] at hsp
      have hll := congrArg List.length hsp
      simp only [List.length_append, blobP, PR.dat] at hll
      rcases hc with hc | ⟨b, o, rfl, hc⟩
      · exfalso
        have := congrArg List.length hc
        cases ps with
        | nil => simp at hlt'
        | cons p ps => simp [PR.cells] at this
      have hc1 : ∀ j u, (ps.flatMap PR.cells)[j]? = some u → w4.cell? ⟨b, o + j, none⟩ = some u := fun j u hj => by rw [hE.cell (block_lt_of_cell (hc j u hj))]; exact hc j u hj
      simp only [↓VD, VP, VT, isAggD, reduceCtorEq, Int.reduceEq, Int.reduceNe, Int.reduceLT, Int.reduceLE, implies_true, Nat.reduceEqDiff, reduceIte, ite_true, ite_false, eq_self, Nat.reduceLT, Nat.reduceLeDiff, Nat.reduceAdd, Nat.reduceMul, Nat.reduceSub, intOf]
      refine ⟨by omega, by omega, ldE (f := PR.cells) c47 Tryz.underlying47 rfl (fun _ _ => rfl) hc1 hx ?_⟩
      simp only [↓VD, VP, VT, isAggD, reduceCtorEq, Int.reduceEq, Int.reduceNe, Int.reduceLT, Int.reduceLE, implies_true, Nat.reduceEqDiff, reduceIte, ite_true, ite_false, eq_self, Nat.reduceLT, Nat.reduceLeDiff, Nat.reduceAdd, Nat.reduceMul, Nat.reduceSub, intOf]
      intro w5 hN5
      have s5 := hN5.size
      obtain ⟨ka, kn, kc, hkv⟩ : ∃ a n c, x.kv = .slice a n c := by obtain ⟨a, c, h, _⟩ := (hp x hxm).1; exact ⟨_, _, _, h⟩
      obtain ⟨va, vn, vc', hvv⟩ : ∃ a n c, x.vv = .slice a n c := by obtain ⟨a, c, h, _⟩ := (hp x hxm).2; exact ⟨_, _, _, h⟩
      refine stAll (vs := x.cells) hN5.blk rfl (by rw [c47]; omega) (by rw [c47]; rfl) (by rw [c47]; rfl) (by simp [PR.cells, hkv, hvv, oneCellV]) (fun w6 hP6 => ?_)
      have s6 := hP6.size
      have hE6 : Ext w w6 := (hE.trans' hN5.ext).trans (hP6.below (by omega))
      simp only [↓VD, VP, VT, isAggD, reduceCtorEq, Int.reduceEq, Int.reduceNe, Int.reduceLT, Int.reduceLE, implies_true, Nat.reduceEqDiff, reduceIte, ite_true, ite_false, eq_self, Nat.reduceLT, Nat.reduceLeDiff, Nat.reduceAdd, Nat.reduceMul, Nat.reduceSub, intOf, h3, h11, h12, h13]
      refine ldAt (pre := []) (post := [x.vv]) Tryz.underlying22 rfl hP6.blk rfl ?_
      simp only [↓VD, VP, VT, isAggD, reduceCtorEq, Int.reduceEq, Int.reduceNe, Int.reduceLT, Int.reduceLE, implies_true, Nat.reduceEqDiff, reduceIte, ite_true, ite_false, eq_self, Nat.reduceLT, Nat.reduceLeDiff, Nat.reduceAdd, Nat.reduceMul, Nat.reduceSub, intOf, h3, h11, h12, h13]
      have hS6 : Wr w6 w.heap.size w.heap.size (3 :: (uvarP ps.length ++ pairsB ((ps.map PR.dat).take k))) := by
        obtain ⟨y, hB, hO⟩ := hS
        refine ⟨y, hP6.keep (hB.ext hN5.ext) (by have := hB.lt; omega), ?_⟩
        exact (hO.ext hN5.ext).put hN5.blk (by decide) hP6
      refine (Blob_ok w.heap.size w.heap.size _ x.k x.kv w6 w (by omega) (Nat.le_refl _) hS6 (hp x hxm).1 hE6 (Nat.le_refl _) (by simp only [List.length_cons, List.length_append]; omega)).mono ?_
      rintro _ w7 ⟨hS7, hK7⟩
      have s7 := hK7.size
      have hE7 : Ext w w7 := hE6.trans (hK7.below (Nat.le_refl _) (by omega))
      simp only [↓VD, VP, VT, isAggD, reduceCtorEq, Int.reduceEq, Int.reduceNe, Int.reduceLT, Int.reduceLE, implies_true, Nat.reduceEqDiff, reduceIte, ite_true, ite_false, eq_self, Nat.reduceLT, Nat.reduceLeDiff, Nat.reduceAdd, Nat.reduceMul, Nat.reduceSub, intOf, h3, h11, h12, h13]
      refine ldAt (pre := [x.kv]) (post := []) Tryz.underlying22 rfl (hK7.blk hP6.blk (by omega) (by decide)) rfl ?_
      simp only [↓VD, VP, VT, isAggD, reduceCtorEq, Int.reduceEq, Int.reduceNe, Int.reduceLT, Int.reduceLE, implies_true, Nat.reduceEqDiff, reduceIte, ite_true, ite_false, eq_self, Nat.reduceLT, Nat.reduceLeDiff, Nat.reduceAdd, Nat.reduceMul, Nat.reduceSub, intOf, h3, h11, h12, h13]
      refine (Blob_ok w.heap.size w.heap.size _ x.v x.vv w7 w (by omega) (Nat.le_refl _) hS7 (hp x hxm).2 hE7 (Nat.le_refl _) (by simp only [List.length_cons, List.length_append, blobP]; omega)).mono ?_
      rintro _ w8 ⟨hS8, hK8⟩
      have s8 := hK8.size
      have hE8 : Ext w w8 := hE7.trans (hK8.below (Nat.le_refl _) (by omega))
      simp only [↓VD, VP, VT, isAggD, reduceCtorEq, Int.reduceEq, Int.reduceNe, Int.reduceLT, Int.reduceLE, implies_true, Nat.reduceEqDiff, reduceIte, ite_true, ite_false, eq_self, Nat.reduceLT, Nat.reduceLeDiff, Nat.reduceAdd, Nat.reduceMul, Nat.reduceSub, intOf, h3, h11, h12, h13]
      refine ⟨⟨hE8, by omega, k + 1, by omega, ?_, ?_⟩, ?_⟩
      · rw [w64 (by omega) (by omega)]; rfl
      · rw [htk]
        simpa [PR.dat] using hS8
      · rw [w64 (by omega) (by omega)]; omega
    · have hkl : k = ps.length := by omega
      subst hkl
      rw [List.take_of_length_le (by simp)] at hS
      refine (Bytes_ok w.heap.size w.heap.size _ w4 hS (by simp only [List.length_cons, List.length_append]; omega)).mono ?_
      rintro v' w5 ⟨hO, hE5⟩
      simp only [↓VD, VP, VT, isAggD, reduceCtorEq, Int.reduceEq, Int.reduceNe, Int.reduceLT, Int.reduceLE, implies_true, Nat.reduceEqDiff, reduceIte, ite_true, ite_false, eq_self, Nat.reduceLT, Nat.reduceLeDiff, Nat.reduceAdd, Nat.reduceMul, Nat.reduceSub, intOf, h3, h11, h12, h13]
      refine ⟨?_, hE.trans' hE5⟩
      have := hO.base hE.size
      simpa [bucketP] using this

theorem Bucket_ok (n : Int) (v : Value) (ps : List PR) (w : World) (hW : WordsAt w 1) (hv : PairsAt w v ps) (hsz : (bucketP (ps.map PR.dat)).length + 16 ≤ 140737488355328) :
    CallK Tryz.prog 230 [.int .i64 n, v].toArray w fun v w' => v = .tuple [.agg (vbs (sumR n (bucketP (ps.map PR.dat)))).toArray, .int .i64 (sumE n)].toArray ∧ Ext w w' := by
  refine enterT Tryz.func230 rfl Tryz.ntmps230 Tryz.results230 rfl (by decide) ?_
  simp only [↓VD, VP, VT, isAggD, reduceCtorEq, Int.reduceEq, Int.reduceNe, Int.reduceLT, Int.reduceLE, implies_true, Nat.reduceEqDiff, reduceIte, ite_true, ite_false, eq_self, Nat.reduceLT, Nat.reduceLeDiff, Nat.reduceAdd, Nat.reduceMul, Nat.reduceSub, intOf]
  intro w1 hN1
  rw [vbs_rep] at hN1
  refine (BucketInput_ok v ps w1 (hv.ext hN1.ext) hsz).mono ?_
  rintro v' w2 ⟨hvo, hE2⟩
  have hv2 := SlC.of_own hvo
  obtain ⟨a, c, rfl⟩ := (slv_of hv2 : ∃ a c, v' = .slice a _ c)
  simp only [↓VD, VP, VT, isAggD, reduceCtorEq, Int.reduceEq, Int.reduceNe, Int.reduceLT, Int.reduceLE, implies_true, Nat.reduceEqDiff, reduceIte, ite_true, ite_false, eq_self, Nat.reduceLT, Nat.reduceLeDiff, Nat.reduceAdd, Nat.reduceMul, Nat.reduceSub, intOf]
  refine ⟨rfl, rfl, fun w3 hN3 => ?_⟩
  refine (sum1 n _ (bucketP (ps.map PR.dat)) w2 w3 (hW.ext (hN1.ext.trans' hE2)) hv2 hN3 (by omega)).mono ?_
  rintro _ w4 ⟨rfl, hE4⟩
  simp only [↓VD, VP, VT, isAggD, reduceCtorEq, Int.reduceEq, Int.reduceNe, Int.reduceLT, Int.reduceLE, implies_true, Nat.reduceEqDiff, reduceIte, ite_true, ite_false, eq_self, Nat.reduceLT, Nat.reduceLeDiff, Nat.reduceAdd, Nat.reduceMul, Nat.reduceSub, intOf]
  refine stAll (((hN1.blk.ext hE2).ext hE4)) rfl (by rw [c28]; omega) (by rw [c28, vbs_len, sumR_len]) (by rw [c28]; rfl) (vbs_one _) (fun w5 hP => ?_)
  simp only [↓VD, VP, VT, isAggD, reduceCtorEq, Int.reduceEq, Int.reduceNe, Int.reduceLT, Int.reduceLE, implies_true, Nat.reduceEqDiff, reduceIte, ite_true, ite_false, eq_self, Nat.reduceLT, Nat.reduceLeDiff, Nat.reduceAdd, Nat.reduceMul, Nat.reduceSub, intOf]
  refine ldA Tryz.underlying28 rfl hP.blk (by rw [c28, vbs_len, sumR_len]) ?_
  exact ⟨rfl, ((hN1.ext.trans' hE2).trans' hE4).trans (hP.below (Nat.le_refl _))⟩

end Go.Proofs.YthlkfjoibjhaiaaGreatDoor

/-! RefD -/
namespace Go.Proofs.YthlkfjoibjhaiaaGreatDoor
set_option maxRecDepth 100000
set_option maxHeartbeats 2000000
open Go Go.RowKit
set_option linter.unusedVariables false
set_option linter.unusedSimpArgs false

theorem Own.room {w : World} {base e cap b : Nat} {l : List Value} (hB : Blk w b e l) (hb : base ≤ b) (hl : l.length = cap) (hn : cap ≤ 9223372036854775807) : Own w base e 1 (.slice (some ⟨b, 0, none⟩) 0 cap) 0 [] :=
  ⟨rfl, .inr ⟨b, cap, l.toArray, rfl, hb, hB.out, Nat.zero_le _, by rw [maxLen_eq]; exact hn, by simpa using hl, by simp⟩⟩

end Go.Proofs.YthlkfjoibjhaiaaGreatDoor

/-! DigC -/
namespace Go.Proofs.YthlkfjoibjhaiaaGreatDoor
set_option maxRecDepth 100000
set_option maxHeartbeats 2000000
open Go Go.RowKit
set_option linter.unusedVariables false
set_option linter.unusedSimpArgs false

def cutsB (n : Nat) (ds : List (List UInt8)) : List UInt8 := ds.flatMap (·.take n)
def branchP (n bm : Nat) (ds : List (List UInt8)) : List UInt8 := 4 :: (wideP bm 2 ++ cutsB n ds)
theorem cutsB_take {n : Nat} {ds : List (List UInt8)} {k : Nat} {x : List UInt8} (h : ds[k]? = some x) : cutsB n (ds.take (k + 1)) = cutsB n (ds.take k) ++ x.take n := by
  obtain ⟨hk, rfl⟩ := List.getElem?_eq_some_iff.1 h
  rw [List.take_succ_eq_append_getElem hk, cutsB, cutsB, List.flatMap_append]
  simp
theorem cutsB_split (n : Nat) (ds : List (List UInt8)) (k : Nat) : cutsB n ds = cutsB n (ds.take k) ++ cutsB n (ds.drop k) := by rw [cutsB, cutsB, cutsB, ← List.flatMap_append, List.take_append_drop]
theorem cutsB_len (n : Nat) (hn : n ≤ 32) : ∀ (ds : List (List UInt8)), (∀ d ∈ ds, d.length = 32) → (cutsB n ds).length = ds.length * n
  | [], _ => by simp [cutsB]
  | d :: ds, h => by
    have ih := cutsB_len n hn ds (fun x hx => h x (by simp [hx]))
    have hd := h d (by simp)
    simp only [cutsB, List.flatMap_cons, List.length_append, List.length_take, List.length_cons] at ih ⊢
    rw [ih, hd, Nat.add_mul]; omega
/-- What a branch's input answers. -/
def brE (n : Int) (bm : Nat) (ds : List (List UInt8)) : Nat := if chkE n ds ≠ 0 then chkE n ds else if bm = 0 ∨ cntB bm ≠ ds.length then 3 else 0

theorem BranchInput_ok (n : Int) (bm : Nat) (hb : bm < 65536) (v : Value) (ds : List (List UInt8)) (w : World) (hv : DigsAt w v ds) (hsz : ds.length ≤ 4000000000) :
    CallK Tryz.prog 325 [.int .i64 n, .int .u16 bm, v].toArray w fun v w' => ∃ a m c, v = .tuple [.slice a m c, .int .i64 (brE n bm ds)].toArray ∧ (brE n bm ds = 0 → Own w' w.heap.size 5 1 (.slice a m c) (branchP n.toNat bm ds).length (vbs (branchP n.toNat bm ds))) ∧ (brE n bm ds ≠ 0 → Value.slice a m c = .slice none 0 0) ∧ Ext w w' := by
  have hv' := hv
  obtain ⟨hd, a, c, rfl, hnc, hcm, hc⟩ := hv'
  refine enterT Tryz.func325 rfl Tryz.ntmps325 Tryz.results325 rfl (by decide) ?_
  simp only [↓VD, VP, VT, isAggD, reduceCtorEq, Int.reduceEq, Int.reduceNe, Int.reduceLT, Int.reduceLE, implies_true, Nat.reduceEqDiff, reduceIte, ite_true, ite_false, eq_self, Nat.reduceLT, Nat.reduceLeDiff, Nat.reduceAdd, Nat.reduceMul, Nat.reduceSub, intOf]
  refine (dcheck_ok n _ ds w hv).mono ?_
  rintro _ w1 ⟨rfl, hE1⟩
  simp only [↓VD, VP, VT, isAggD, reduceCtorEq, Int.reduceEq, Int.reduceNe, Int.reduceLT, Int.reduceLE, implies_true, Nat.reduceEqDiff, reduceIte, ite_true, ite_false, eq_self, Nat.reduceLT, Nat.reduceLeDiff, Nat.reduceAdd, Nat.reduceMul, Nat.reduceSub, intOf]
  refine ⟨fun he => ?_, fun he => ?_⟩
  · have he' : chkE n ds ≠ 0 := by omega
    have e : brE n bm ds = chkE n ds := by unfold brE; rw [if_pos he']
    rw [e]
    exact ⟨none, 0, 0, rfl, fun h => absurd h he', fun _ => rfl, hE1⟩
  · have he' : chkE n ds = 0 := by omega
    have hbr : brE n bm ds = if bm = 0 ∨ cntB bm ≠ ds.length then 3 else 0 := by unfold brE; rw [if_neg (by simp [he'])]
    have hwn : widB n = true := by
      unfold chkE at he'
      cases h : widB n
      · simp [h] at he'
      · rfl
    have hwn' := (widB_iff n).1 hwn
    obtain ⟨m, rfl⟩ : ∃ m : Nat, n = m := ⟨n.toNat, by omega⟩
    refine ⟨fun h0 => ?_, fun h0 => ?_⟩
    · have e : brE m bm ds = 3 := by rw [hbr, if_pos (Or.inl (by omega))]
      rw [e]
      exact ⟨none, 0, 0, rfl, fun h => (by cases h), fun _ => rfl, hE1⟩
    · refine (OnesCount16_ok bm hb w1).mono ?_
      rintro _ w2 ⟨rfl, hE2⟩
      simp only [↓VD, VP, VT, isAggD, reduceCtorEq, Int.reduceEq, Int.reduceNe, Int.reduceLT, Int.reduceLE, implies_true, Nat.reduceEqDiff, reduceIte, ite_true, ite_false, eq_self, Nat.reduceLT, Nat.reduceLeDiff, Nat.reduceAdd, Nat.reduceMul, Nat.reduceSub, intOf]
      refine ⟨fun h1 => ?_, fun h1 => ?_⟩
      · have e : brE m bm ds = 3 := by rw [hbr, if_pos (Or.inr (by omega))]
        rw [e]
        exact ⟨none, 0, 0, rfl, fun h => (by cases h), fun _ => rfl, hE1.trans' hE2⟩
      · have e : brE m bm ds = 0 := by rw [hbr, if_neg (by omega)]
        rw [e]
        have hE2' := hE1.trans' hE2
        intro w3 hN3
        have s3 := hN3.size
        have hwl : w.heap.size ≤ w2.heap.size := hE2'.size
        refine (U8_ok w2.heap.size w2.heap.size [] 4 w3 (by omega) ⟨_, hN3.blk, Own.nil _ _ _ _⟩ (by simp)).mono ?_
        rintro _ w4 ⟨hS4, hK4⟩
        have s4 := hK4.size
        simp only [↓VD, VP, VT, isAggD, reduceCtorEq, Int.reduceEq, Int.reduceNe, Int.reduceLT, Int.reduceLE, implies_true, Nat.reduceEqDiff, reduceIte, ite_true, ite_false, eq_self, Nat.reduceLT, Nat.reduceLeDiff, Nat.reduceAdd, Nat.reduceMul, Nat.reduceSub, intOf]
        refine (U16_ok w2.heap.size w2.heap.size _ bm hb w4 (by omega) hS4 (by simp)).mono ?_
        rintro _ w5 ⟨hS5, hK5⟩
        have s5 := hK5.size
        have hE5 : Ext w2 w5 := hN3.ext.trans ((hK4.trans hK5).below (Nat.le_refl _) (by omega))
        simp only [↓VD, VP, VT, isAggD, reduceCtorEq, Int.reduceEq, Int.reduceNe, Int.reduceLT, Int.reduceLE, implies_true, Nat.reduceEqDiff, reduceIte, ite_true, ite_false, eq_self, Nat.reduceLT, Nat.reduceLeDiff, Nat.reduceAdd, Nat.reduceMul, Nat.reduceSub, intOf]
        have hcl := cutsB_len m (by omega) ds hd
        have hwl2 := wideP_len bm 2
        refine loopT (fun s' w' => Ext w2 w' ∧ w5.heap.size ≤ w'.heap.size ∧ ∃ k : Nat, k ≤ ds.length ∧ s' 0 = .int .i64 m ∧ s' 9 = .pointer (some ⟨w2.heap.size, 0, none⟩) ∧ s' 30 = .slice a ds.length c ∧ s' 31 = .int .i64 ds.length ∧ s' 32 = .int .i64 k ∧
            Wr w' w2.heap.size w2.heap.size (4 :: (wideP bm 2 ++ cutsB m (ds.take k)))) (fun s' _ => ds.length - (intOf (s' 32)).toNat) ?_ ?_
        · simp only [↓VD, VP, VT, isAggD, reduceCtorEq, Int.reduceEq, Int.reduceNe, Int.reduceLT, Int.reduceLE, implies_true, Nat.reduceEqDiff, reduceIte, ite_true, ite_false, eq_self, Nat.reduceLT, Nat.reduceLeDiff, Nat.reduceAdd, Nat.reduceMul, Nat.reduceSub, intOf]
          exact ⟨hE5, Nat.le_refl _, 0, by omega, rfl, by simpa [cutsB] using hS5⟩
        · rintro s6 w6 ⟨hE, hs6, k, hk, h0', h9, h30, h31, h32, hS⟩
          simp only [↓VD, VP, VT, isAggD, reduceCtorEq, Int.reduceEq, Int.reduceNe, Int.reduceLT, Int.reduceLE, implies_true, Nat.reduceEqDiff, reduceIte, ite_true, ite_false, eq_self, Nat.reduceLT, Nat.reduceLeDiff, Nat.reduceAdd, Nat.reduceMul, Nat.reduceSub, intOf, h0', h9, h30, h31, h32]
          refine ⟨fun hlt => ?_, fun hge => ?_⟩
          · have hlt' : k < ds.length := by omega
            rcases hc with hc | ⟨b, o, rfl, hc⟩
            · exfalso
              cases ds with
              | nil => simp at hlt'
              | cons d ds => have := hd d (by simp); simp at hc; simp [vbs] at hc; have h3 := hc.1; simp [h3] at this
            obtain ⟨x, hx⟩ : ∃ x, ds[k]? = some x := ⟨_, List.getElem?_eq_getElem hlt'⟩
            have hxl : x.length = 32 := hd x (List.mem_of_getElem? hx)
            have htk := cutsB_take (n := m) hx
            have hsp := congrArg List.length (cutsB_split m ds (k + 1))
            rw [htk] at hsp
            simp only [List.length_append, List.length_take, hxl] at hsp
            have hEw : Ext w w6 := hE2'.trans' hE
            have hmul : ds.length * m ≤ 4000000000 * 32 := Nat.mul_le_mul hsz (by omega)
            have hc1 : ∀ j u, (ds.flatMap vbs)[j]? = some u → w6.cell? ⟨b, o + j, none⟩ = some u := fun j u hj => by rw [hEw.cell (block_lt_of_cell (hc j u hj))]; exact hc j u hj
            simp only [↓VD, VP, VT, isAggD, reduceCtorEq, Int.reduceEq, Int.reduceNe, Int.reduceLT, Int.reduceLE, implies_true, Nat.reduceEqDiff, reduceIte, ite_true, ite_false, eq_self, Nat.reduceLT, Nat.reduceLeDiff, Nat.reduceAdd, Nat.reduceMul, Nat.reduceSub, intOf]
            refine ⟨by omega, by omega, ldE c28 Tryz.underlying28 rfl (fun d h => by rw [vbs_len]; exact hd d h) hc1 hx ?_⟩
            simp only [↓VD, VP, VT, isAggD, reduceCtorEq, Int.reduceEq, Int.reduceNe, Int.reduceLT, Int.reduceLE, implies_true, Nat.reduceEqDiff, reduceIte, ite_true, ite_false, eq_self, Nat.reduceLT, Nat.reduceLeDiff, Nat.reduceAdd, Nat.reduceMul, Nat.reduceSub, intOf]
            intro w7 hN7
            have s7 := hN7.size
            refine stAll hN7.blk rfl (by rw [c28]; omega) (by rw [c28, vbs_len, hxl]) (by rw [c28]; simp) (vbs_one x) (fun w8 hP => ?_)
            have s8 := hP.size
            simp only [↓VD, VP, VT, isAggD, reduceCtorEq, Int.reduceEq, Int.reduceNe, Int.reduceLT, Int.reduceLE, implies_true, Nat.reduceEqDiff, reduceIte, ite_true, ite_false, eq_self, Nat.reduceLT, Nat.reduceLeDiff, Nat.reduceAdd, Nat.reduceMul, Nat.reduceSub, intOf, h0', h9, h30, h31, h32]
            refine ⟨by omega, by omega, fun o' ho' => ?_⟩
            have ho' : o' = 0 := ho'
            subst ho'
            rw [show ((m : Int) - 0).toNat = m from by omega]
            have hS8 : Wr w8 w2.heap.size w2.heap.size (4 :: (wideP bm 2 ++ cutsB m (ds.take k))) := by
              obtain ⟨y, hB, hO⟩ := hS
              exact ⟨y, hP.keep (hB.ext hN7.ext) (by omega), (hO.ext hN7.ext).put hN7.blk (by decide) hP⟩
            have htl : (x.take m).length = m := by rw [List.length_take]; omega
            have hE8 : Ext w2 w8 := (hE.trans' hN7.ext).trans (hP.below (by omega))
            have hvk : SlB w8 (.slice (some ⟨w6.heap.size, 0, none⟩) m 32) (x.take m) := by
              have := SlC.of_part (n := m) (c := 32) (o := 0) (m := vbs (x.take m)) hP.blk (by omega) (by decide) (fun j u hj => by
                rw [← vbs_take, List.getElem?_take] at hj
                rw [Nat.zero_add]
                split at hj
                · exact hj
                · cases hj)
              rw [SlB, htl]; exact this
            refine (Raw_ok w2.heap.size w2.heap.size _ (x.take m) _ w8 (by omega) hS8 hvk (by simp only [List.length_cons, List.length_append]; omega)).mono ?_
            rintro _ w9 ⟨hS9, hK9⟩
            have s9 := hK9.size
            simp only [↓VD, VP, VT, isAggD, reduceCtorEq, Int.reduceEq, Int.reduceNe, Int.reduceLT, Int.reduceLE, implies_true, Nat.reduceEqDiff, reduceIte, ite_true, ite_false, eq_self, Nat.reduceLT, Nat.reduceLeDiff, Nat.reduceAdd, Nat.reduceMul, Nat.reduceSub, intOf, h0', h9, h30, h31, h32]
            refine ⟨⟨hE8.trans (hK9.below (Nat.le_refl _) (by omega)), by omega, k + 1, by omega, ?_, ?_⟩, ?_⟩
            · rw [w64 (by omega) (by omega)]; rfl
            · rw [htk]
              simpa using hS9
            · rw [w64 (by omega) (by omega)]; omega
          · have hkl : k = ds.length := by omega
            subst hkl
            rw [List.take_length] at hS
            refine (Bytes_ok w2.heap.size w2.heap.size _ w6 hS ?_).mono ?_
            · have hmul : ds.length * m ≤ 4000000000 * 32 := Nat.mul_le_mul hsz (by omega)
              simp only [List.length_cons, List.length_append]; omega
            rintro v' w7 ⟨hO, hE7⟩
            have hv7 := SlC.of_own hO
            obtain ⟨a', c', rfl⟩ := slv_of hv7
            simp only [↓VD, VP, VT, isAggD, reduceCtorEq, Int.reduceEq, Int.reduceNe, Int.reduceLT, Int.reduceLE, implies_true, Nat.reduceEqDiff, reduceIte, ite_true, ite_false, eq_self, Nat.reduceLT, Nat.reduceLeDiff, Nat.reduceAdd, Nat.reduceMul, Nat.reduceSub, intOf, h0', h9, h30, h31, h32]
            refine ⟨a', _, c', rfl, ?_, (hE2'.trans' hE).trans' hE7⟩
            rw [branchP]
            exact hO.base (by have := hE2'.size; have := hE.size; omega)

theorem own_len {w : World} {base e sz m n : Nat} {a : Option Addr} {c : Nat} {xs : List Value} (h : Own w base e sz (.slice a m c) n xs) : m = n := by
  rcases h.2 with ⟨h1, h2⟩ | ⟨g, cap, cur, h1, _⟩
  · cases h1; exact h2.symm
  · cases h1; rfl
theorem Branch_ok (n : Int) (bm : Nat) (hb : bm < 65536) (v : Value) (ds : List (List UInt8)) (w : World) (hW : WordsAt w 1) (hv : DigsAt w v ds) (hsz : ds.length ≤ 4000000000) :
    CallK Tryz.prog 234 [.int .i64 n, .int .u16 bm, v].toArray w fun v w' => v = .tuple [.agg (vbs (if brE n bm ds = 0 then sumR n (branchP n.toNat bm ds) else List.replicate 32 0)).toArray, .int .i64 (if brE n bm ds = 0 then sumE n else brE n bm ds : Nat)].toArray ∧ Ext w w' := by
  refine enterT Tryz.func234 rfl Tryz.ntmps234 Tryz.results234 rfl (by decide) ?_
  simp only [↓VD, VP, VT, isAggD, reduceCtorEq, Int.reduceEq, Int.reduceNe, Int.reduceLT, Int.reduceLE, implies_true, Nat.reduceEqDiff, reduceIte, ite_true, ite_false, eq_self, Nat.reduceLT, Nat.reduceLeDiff, Nat.reduceAdd, Nat.reduceMul, Nat.reduceSub, intOf]
  intro w1 hN1
  rw [vbs_rep] at hN1
  refine (BranchInput_ok n bm hb v ds w1 ⟨hv.1, hv.2.ext hN1.ext⟩ hsz).mono ?_
  rintro _ w2 ⟨a, m, c, rfl, h0, h1, hE2⟩
  simp only [↓VD, VP, VT, isAggD, reduceCtorEq, Int.reduceEq, Int.reduceNe, Int.reduceLT, Int.reduceLE, implies_true, Nat.reduceEqDiff, reduceIte, ite_true, ite_false, eq_self, Nat.reduceLT, Nat.reduceLeDiff, Nat.reduceAdd, Nat.reduceMul, Nat.reduceSub, intOf]
  have hlen : (branchP n.toNat bm ds).length < 18446744073709551616 ∨ brE n bm ds ≠ 0 := by
    by_cases he : brE n bm ds = 0
    · left
      have hwn : widB n = true := by
        unfold brE chkE at he
        cases h : widB n
        · simp [h] at he
        · rfl
      have hwn' := (widB_iff n).1 hwn
      have hcl := cutsB_len n.toNat (by omega) ds hv.1
      have hmul : ds.length * n.toNat ≤ 4000000000 * 32 := Nat.mul_le_mul hsz (by omega)
      simp only [branchP, List.length_cons, List.length_append, wideP_len]
      omega
    · exact Or.inr he
  refine (of_ok n _ (if brE n bm ds = 0 then branchP n.toNat bm ds else []) (brE n bm ds) w2 (hW.ext (hN1.ext.trans' hE2)) (fun h => by rw [if_pos h]; obtain rfl := own_len (h0 h); exact SlC.of_own (h0 h)) (by
    split
    · rename_i h; exact hlen.resolve_right (fun h' => h' h)
    · simp)).mono ?_
  rintro _ w3 ⟨rfl, hE3⟩
  have hdl : (if brE n bm ds = 0 then sumR n (if brE n bm ds = 0 then branchP n.toNat bm ds else []) else List.replicate 32 0).length = 32 := by
    split
    · exact sumR_len _ _
    · simp
  simp only [↓VD, VP, VT, isAggD, reduceCtorEq, Int.reduceEq, Int.reduceNe, Int.reduceLT, Int.reduceLE, implies_true, Nat.reduceEqDiff, reduceIte, ite_true, ite_false, eq_self, Nat.reduceLT, Nat.reduceLeDiff, Nat.reduceAdd, Nat.reduceMul, Nat.reduceSub, intOf]
  refine stAll ((hN1.blk.ext hE2).ext hE3) rfl (by rw [c28]; omega) (by rw [c28, vbs_len, hdl]) (by rw [c28]; rfl) (vbs_one _) (fun w5 hP => ?_)
  simp only [↓VD, VP, VT, isAggD, reduceCtorEq, Int.reduceEq, Int.reduceNe, Int.reduceLT, Int.reduceLE, implies_true, Nat.reduceEqDiff, reduceIte, ite_true, ite_false, eq_self, Nat.reduceLT, Nat.reduceLeDiff, Nat.reduceAdd, Nat.reduceMul, Nat.reduceSub, intOf]
  refine ldA Tryz.underlying28 rfl hP.blk (by rw [c28, vbs_len, hdl]) ?_
  simp only [↓VD, VP, VT, isAggD, reduceCtorEq, Int.reduceEq, Int.reduceNe, Int.reduceLT, Int.reduceLE, implies_true, Nat.reduceEqDiff, reduceIte, ite_true, ite_false, eq_self, Nat.reduceLT, Nat.reduceLeDiff, Nat.reduceAdd, Nat.reduceMul, Nat.reduceSub, intOf]
  refine ⟨?_, ((hN1.ext.trans' hE2).trans' hE3).trans (hP.below (Nat.le_refl _))⟩
  by_cases he : brE n bm ds = 0
  · simp [he]
  · simp [he]

end Go.Proofs.YthlkfjoibjhaiaaGreatDoor
