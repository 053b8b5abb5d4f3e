/-
  SHA-256 on lists, as the program and the reference both compute it, and what whole numbers of 32 bits do. Conditions: none; plain definitions and lemmas.
-/
import Derived.Test.YticfalbgplifoaaGreatDoorDat
namespace Go.Proofs.YticfalbgplifoaaGreatDoor
set_option maxRecDepth 100000
open Go Go.RowKit
set_option linter.unusedVariables false
set_option linter.unusedSimpArgs false

abbrev W32 := BitVec 32
def vw (x : W32) : Value := .int .u32 x.toNat
def vws (l : List W32) : List Value := l.map vw
theorem vws_len (l : List W32) : (vws l).length = l.length := by simp [vws]
theorem vws_one (l : List W32) : ∀ v ∈ vws l, oneCellV v = true := by
  intro v hv; simp only [vws, List.mem_map] at hv; obtain ⟨b, _, rfl⟩ := hv; rfl
theorem vws_get {l : List W32} {k : Nat} (h : k < l.length) : (vws l)[k]? = some (vw (l.getD k 0)) := by simp [vws, h]

theorem vws_set (l : List W32) (k : Nat) (y : W32) : (vws l).set k (.int .u32 y.toNat) = vws (l.set k y) := by simp [vws, List.map_set, vw]
theorem vws_rep (n : Nat) : List.replicate n (Value.int .u32 0) = vws (List.replicate n 0) := by simp [vws, vw]
/-- A word of a block of words. -/
theorem ldW {P : Program} {T U : TypeId} {w : World} {b o : Nat} {K : Value → Prop} {l : List W32} (hu : P.underlying T = some (.int .u32)) (hb : Blk w b U (vws l)) (ho : o < l.length) (hK : K (.int .u32 (l.getD o 0).toNat)) : vcLoad P T w b o K :=
  ld1 hu rfl (by rw [hb.cell]; exact vws_get ho) hK
theorem wr32 (n : Nat) : IntKind.u32.wrap (n : Int) = ((BitVec.ofNat 32 n).toNat : Int) := by rw [IntKind.wrap_u32']; simp
theorem bxor (a b : W32) : ibits .xor .u32 (a.toNat : Int) (b.toNat : Int) = ((a ^^^ b).toNat : Int) := by
  show IntKind.u32.wrap (((BitVec.ofInt 32 (a.toNat : Int)) ^^^ (BitVec.ofInt 32 (b.toNat : Int))).toNat : Int) = _
  rw [wr32]; simp
theorem band (a b : W32) : ibits .and .u32 (a.toNat : Int) (b.toNat : Int) = ((a &&& b).toNat : Int) := by
  show IntKind.u32.wrap (((BitVec.ofInt 32 (a.toNat : Int)) &&& (BitVec.ofInt 32 (b.toNat : Int))).toNat : Int) = _
  rw [wr32]; simp
theorem bor (a b : W32) : ibits .or .u32 (a.toNat : Int) (b.toNat : Int) = ((a ||| b).toNat : Int) := by
  show IntKind.u32.wrap (((BitVec.ofInt 32 (a.toNat : Int)) ||| (BitVec.ofInt 32 (b.toNat : Int))).toNat : Int) = _
  rw [wr32]; simp
theorem bnot (a : W32) : ibits .xor .u32 (if IntKind.u32.signed = true then -1 else IntKind.u32.max) (a.toNat : Int) = ((~~~a).toNat : Int) := by
  show IntKind.u32.wrap (((BitVec.ofInt 32 4294967295) ^^^ (BitVec.ofInt 32 (a.toNat : Int))).toNat : Int) = _
  rw [wr32]
  have : BitVec.ofInt 32 4294967295 = BitVec.allOnes 32 := by decide
  rw [this, BitVec.allOnes_xor]; simp; omega
theorem badd (a b : W32) : IntKind.u32.wrap ((a.toNat : Int) + (b.toNat : Int)) = ((a + b).toNat : Int) := by
  rw [IntKind.wrap_u32', BitVec.toNat_add]; omega
theorem bshr (a : W32) (k : Nat) (h : k ≤ 32) : (a.toNat : Int).fdiv (2 ^ min k 32) = ((a >>> k).toNat : Int) := by
  rw [shrI _ _ _ h]; simp [Nat.shiftRight_eq_div_pow]
theorem bshl (a : W32) (k : Nat) (h : k ≤ 32) : IntKind.u32.wrap ((a.toNat : Int) * 2 ^ min k 32) = ((a <<< k).toNat : Int) := by
  rw [Nat.min_eq_left h, IntKind.wrap_u32', BitVec.toNat_shiftLeft, Nat.shiftLeft_eq]
  have : (2 : Int) ^ k = ((2 ^ k : Nat) : Int) := by simp
  rw [this]; omega

theorem bshlN (x : W32) (k : Nat) (h : k ≤ 32) : IntKind.u32.wrap ((x.toNat : Int) * 2 ^ min k IntKind.u32.bits) = ((x <<< k).toNat : Int) := bshl x k h
theorem bshrN (x : W32) (k : Nat) (h : k ≤ 32) : (x.toNat : Int).fdiv (2 ^ min k IntKind.u32.bits) = ((x >>> k).toNat : Int) := bshr x k h
theorem bshlL (x : W32) (k : Int) (h : k.toNat ≤ 32) : IntKind.u32.wrap ((x.toNat : Int) * 2 ^ min k.toNat IntKind.u32.bits) = ((x <<< k.toNat).toNat : Int) := bshl x k.toNat h
theorem bshrL (x : W32) (k : Int) (h : k.toNat ≤ 32) : (x.toNat : Int).fdiv (2 ^ min k.toNat IntKind.u32.bits) = ((x >>> k.toNat).toNat : Int) := bshr x k.toNat h

/-! ### The functions -/
def rotr (x : W32) (n : Nat) : W32 := (x <<< (32 - n)) ||| (x >>> n)
theorem rotr_add (x : W32) (n : Nat) (h0 : 0 < n) (h : n < 32) : x >>> n + x <<< (32 - n) = rotr x n := by
  unfold rotr
  rw [BitVec.add_comm, BitVec.add_eq_or_of_and_eq_zero]
  ext i hi
  simp only [BitVec.getElem_and, BitVec.getElem_shiftLeft, BitVec.getElem_ushiftRight, BitVec.getElem_zero]
  by_cases h1 : i < 32 - n
  · simp [h1]
  · have : 32 ≤ n + i := by omega
    simp [BitVec.getLsbD_of_ge _ _ this]
def wb (b : UInt8) : W32 := BitVec.ofNat 32 b.toNat
theorem wb_conv (b : UInt8) : IntKind.u32.wrap (b.toNat : Int) = ((wb b).toNat : Int) := wr32 _
/-- The word that four bytes write, the highest first. -/
def beW (a b c d : UInt8) : W32 := BitVec.ofNat 32 (a.toNat * 16777216 + b.toNat * 65536 + c.toNat * 256 + d.toNat)
theorem beW_or (a b c d : UInt8) : wb a <<< 24 ||| wb b <<< 16 ||| wb c <<< 8 ||| wb d = beW a b c d := by
  have ha := UInt8.toNat_lt a; have hb := UInt8.toNat_lt b; have hc := UInt8.toNat_lt c; have hd := UInt8.toNat_lt d
  apply BitVec.eq_of_toNat_eq
  simp only [wb, beW, BitVec.toNat_or, BitVec.toNat_shiftLeft, BitVec.toNat_ofNat]
  generalize a.toNat = x at *; generalize b.toNat = y at *; generalize c.toNat = z at *; generalize d.toNat = u at *
  rw [Nat.mod_eq_of_lt (show x < 2 ^ 32 by omega), Nat.mod_eq_of_lt (show y < 2 ^ 32 by omega), Nat.mod_eq_of_lt (show z < 2 ^ 32 by omega), Nat.mod_eq_of_lt (show u < 2 ^ 32 by omega)]
  have e1 : x <<< 24 % 2 ^ 32 = x <<< 24 := Nat.mod_eq_of_lt (by rw [Nat.shiftLeft_eq]; omega)
  have e2 : y <<< 16 % 2 ^ 32 = y <<< 16 := Nat.mod_eq_of_lt (by rw [Nat.shiftLeft_eq]; omega)
  have e3 : z <<< 8 % 2 ^ 32 = z <<< 8 := Nat.mod_eq_of_lt (by rw [Nat.shiftLeft_eq]; omega)
  rw [e1, e2, e3]
  have s1 : z <<< 8 ||| u = z <<< 8 + u := (Nat.shiftLeft_add_eq_or_of_lt (by omega) z).symm
  have s2 : y <<< 16 ||| (z <<< 8 + u) = y <<< 16 + (z <<< 8 + u) := (Nat.shiftLeft_add_eq_or_of_lt (by rw [Nat.shiftLeft_eq]; omega) y).symm
  have s3 : x <<< 24 ||| (y <<< 16 + (z <<< 8 + u)) = x <<< 24 + (y <<< 16 + (z <<< 8 + u)) := (Nat.shiftLeft_add_eq_or_of_lt (by simp only [Nat.shiftLeft_eq]; omega) x).symm
  rw [Nat.or_assoc, Nat.or_assoc, s1, s2, s3]
  simp only [Nat.shiftLeft_eq]
  omega
theorem beW_add (a b c d : UInt8) : wb a <<< 24 + wb b <<< 16 + wb c <<< 8 + wb d = beW a b c d := by
  have ha := UInt8.toNat_lt a; have hb := UInt8.toNat_lt b; have hc := UInt8.toNat_lt c; have hd := UInt8.toNat_lt d
  apply BitVec.eq_of_toNat_eq
  simp only [wb, beW, BitVec.toNat_add, BitVec.toNat_shiftLeft, BitVec.toNat_ofNat, Nat.shiftLeft_eq]
  omega

def sg0 (x : W32) : W32 := rotr x 7 ^^^ rotr x 18 ^^^ x >>> 3
def sg1 (x : W32) : W32 := rotr x 17 ^^^ rotr x 19 ^^^ x >>> 10
def bg0 (x : W32) : W32 := rotr x 2 ^^^ rotr x 13 ^^^ rotr x 22
def bg1 (x : W32) : W32 := rotr x 6 ^^^ rotr x 11 ^^^ rotr x 25
def chW (e f g : W32) : W32 := (e &&& f) ^^^ (~~~e &&& g)
def mjW (a b c : W32) : W32 := (a &&& b) ^^^ (a &&& c) ^^^ (b &&& c)
theorem chW_ref (e f g : W32) : g ^^^ (e &&& (f ^^^ g)) = chW e f g := by
  unfold chW; ext i hi
  simp only [BitVec.getElem_xor, BitVec.getElem_and, BitVec.getElem_not]
  generalize e[i] = x; generalize f[i] = y; generalize g[i] = z
  revert x y z; decide
theorem mjW_ref (a b c : W32) : (a &&& b) ||| (c &&& (a ||| b)) = mjW a b c := by
  unfold mjW; ext i hi
  simp only [BitVec.getElem_xor, BitVec.getElem_and, BitVec.getElem_or]
  generalize a[i] = x; generalize b[i] = y; generalize c[i] = z
  revert x y z; decide

/-- The first n of the 64 words of a block. -/
def schedW (blk : List UInt8) : Nat → List W32
  | 0 => []
  | i + 1 =>
    let l := schedW blk i
    l ++ [if i < 16 then beW (blk.getD (4 * i) 0) (blk.getD (4 * i + 1) 0) (blk.getD (4 * i + 2) 0) (blk.getD (4 * i + 3) 0)
      else l.getD (i - 16) 0 + sg0 (l.getD (i - 15) 0) + l.getD (i - 7) 0 + sg1 (l.getD (i - 2) 0)]
theorem schedW_len (blk : List UInt8) : ∀ n, (schedW blk n).length = n
  | 0 => rfl
  | n + 1 => by simp [schedW, schedW_len blk n]
theorem schedW_get (blk : List UInt8) (i : Nat) : ∀ n m, i < n → i < m → (schedW blk n).getD i 0 = (schedW blk m).getD i 0 := by
  have key : ∀ n, i < n → (schedW blk n).getD i 0 = (schedW blk (i + 1)).getD i 0 := by
    intro n
    induction n with
    | zero => intro h; omega
    | succ n ih =>
      intro h
      by_cases e : i = n
      · subst e; rfl
      · have hl : i < (schedW blk n).length := by rw [schedW_len]; omega
        rw [← ih (by omega)]
        simp only [schedW, List.getD_eq_getElem?_getD, List.getElem?_append_left hl]
  intro n m h1 h2
  rw [key n h1, key m h2]

theorem sched_lo (blk : List UInt8) (k : Nat) (h : k < 16) : schedW blk (k + 1) = schedW blk k ++ [beW (blk.getD (4 * k) 0) (blk.getD (4 * k + 1) 0) (blk.getD (4 * k + 2) 0) (blk.getD (4 * k + 3) 0)] := by
  simp [schedW, h]
theorem sched_hi (blk : List UInt8) (k : Nat) (h : 16 ≤ k) : schedW blk (k + 1) = schedW blk k ++ [(schedW blk k).getD (k - 16) 0 + sg0 ((schedW blk k).getD (k - 15) 0) + (schedW blk k).getD (k - 7) 0 + sg1 ((schedW blk k).getD (k - 2) 0)] := by
  simp only [schedW, if_neg (show ¬ k < 16 by omega)]
theorem getD_app {α : Type} {l m : List α} {j : Nat} {d : α} (h : j < l.length) : (l ++ m).getD j d = l.getD j d := by
  simp only [List.getD_eq_getElem?_getD, List.getElem?_append_left h]

/-- The constants. -/
def KW : List W32 := [
  0x428a2f98, 0x71374491, 0xb5c0fbcf, 0xe9b5dba5, 0x3956c25b, 0x59f111f1, 0x923f82a4, 0xab1c5ed5,
  0xd807aa98, 0x12835b01, 0x243185be, 0x550c7dc3, 0x72be5d74, 0x80deb1fe, 0x9bdc06a7, 0xc19bf174,
  0xe49b69c1, 0xefbe4786, 0x0fc19dc6, 0x240ca1cc, 0x2de92c6f, 0x4a7484aa, 0x5cb0a9dc, 0x76f988da,
  0x983e5152, 0xa831c66d, 0xb00327c8, 0xbf597fc7, 0xc6e00bf3, 0xd5a79147, 0x06ca6351, 0x14292967,
  0x27b70a85, 0x2e1b2138, 0x4d2c6dfc, 0x53380d13, 0x650a7354, 0x766a0abb, 0x81c2c92e, 0x92722c85,
  0xa2bfe8a1, 0xa81a664b, 0xc24b8b70, 0xc76c51a3, 0xd192e819, 0xd6990624, 0xf40e3585, 0x106aa070,
  0x19a4c116, 0x1e376c08, 0x2748774c, 0x34b0bcb5, 0x391c0cb3, 0x4ed8aa4a, 0x5b9cca4f, 0x682e6ff3,
  0x748f82ee, 0x78a5636f, 0x84c87814, 0x8cc70208, 0x90befffa, 0xa4506ceb, 0xbef9a3f7, 0xc67178f2]
theorem KW_len : KW.length = 64 := by decide
/-- The table lies where it lies. -/
def WordsAt (w : World) (g : Nat) : Prop := ∀ j, j < 64 → w.cell? ⟨g, j, none⟩ = some (vw (KW.getD j 0))
theorem WordsAt.ext {w w' : World} {g : Nat} (h : WordsAt w g) (e : Ext w w') : WordsAt w' g := fun j hj => by rw [e.cell (block_lt_of_cell (h j hj))]; exact h j hj
def H0W : List W32 := [0x6a09e667, 0xbb67ae85, 0x3c6ef372, 0xa54ff53a, 0x510e527f, 0x9b05688c, 0x1f83d9ab, 0x5be0cd19]

/-- The eight registers, in order. -/
structure R8 where
  a : W32
  b : W32
  c : W32
  d : W32
  e : W32
  f : W32
  g : W32
  k : W32
def R8.at (r : R8) : Nat → W32
  | 0 => r.a
  | 1 => r.b
  | 2 => r.c
  | 3 => r.d
  | 4 => r.e
  | 5 => r.f
  | 6 => r.g
  | _ => r.k
def R8.l (r : R8) : List W32 := [r.a, r.b, r.c, r.d, r.e, r.f, r.g, r.k]
def R8.of (l : List W32) : R8 := ⟨l.getD 0 0, l.getD 1 0, l.getD 2 0, l.getD 3 0, l.getD 4 0, l.getD 5 0, l.getD 6 0, l.getD 7 0⟩
theorem R8.at_of (l : List W32) : ∀ j, j < 8 → (R8.of l).at j = l.getD j 0 := by
  intro j hj
  match j, hj with
  | 0, _ => rfl
  | 1, _ => rfl
  | 2, _ => rfl
  | 3, _ => rfl
  | 4, _ => rfl
  | 5, _ => rfl
  | 6, _ => rfl
  | 7, _ => rfl
theorem R8.l_get (r : R8) : ∀ j, j < 8 → r.l[j]? = some (r.at j) := by
  intro j hj
  match j, hj with
  | 0, _ => rfl
  | 1, _ => rfl
  | 2, _ => rfl
  | 3, _ => rfl
  | 4, _ => rfl
  | 5, _ => rfl
  | 6, _ => rfl
  | 7, _ => rfl
def t1W (r : R8) (k w : W32) : W32 := r.k + bg1 r.e + chW r.e r.f r.g + k + w
def t2W (r : R8) : W32 := bg0 r.a + mjW r.a r.b r.c
def R8.step (r : R8) (k w : W32) : R8 := ⟨t1W r k w + t2W r, r.a, r.b, r.c, r.d + t1W r k w, r.e, r.f, r.g⟩
/-- Behind n rounds. -/
def roundsW (r : R8) (w : List W32) : Nat → R8
  | 0 => r
  | i + 1 => (roundsW r w i).step (KW.getD i 0) (w.getD i 0)
/-- One block into the eight words. -/
def compW (h : List W32) (blk : List UInt8) : List W32 := List.zipWith (· + ·) h (roundsW (R8.of h) (schedW blk 64) 64).l
theorem zip_get (h m : List W32) (k : Nat) (h1 : k < h.length) (h2 : k < m.length) : (List.zipWith (· + ·) h m).getD k 0 = h.getD k 0 + m.getD k 0 := by
  have h3 : k < (List.zipWith (· + ·) h m).length := by simp; omega
  rw [List.getD_eq_getElem?_getD, List.getElem?_eq_getElem h3, List.getElem_zipWith]
  simp [h1, h2]
theorem R8.l_len (r : R8) : r.l.length = 8 := rfl
theorem compW_len (h : List W32) (blk : List UInt8) (hh : h.length = 8) : (compW h blk).length = 8 := by simp [compW, hh, R8.l]

/-- n blocks of a text. -/
def blocksW (h : List W32) (xs : List UInt8) : Nat → List W32
  | 0 => h
  | n + 1 => compW (blocksW h xs n) ((xs.drop (64 * n)).take 64)
theorem blocksW_len (h : List W32) (xs : List UInt8) (hh : h.length = 8) : ∀ n, (blocksW h xs n).length = 8
  | 0 => hh
  | n + 1 => compW_len _ _ (blocksW_len h xs hh n)
/-- What stands beyond the blocks counts for nothing. -/
theorem blocksW_app (h : List W32) (xs ys : List UInt8) : ∀ n, 64 * n ≤ xs.length → blocksW h (xs ++ ys) n = blocksW h xs n
  | 0, _ => rfl
  | n + 1, hn => by
    have ih := blocksW_app h xs ys n (by omega)
    simp only [blocksW, ih]
    congr 1
    rw [List.drop_append_of_le_length (by omega), List.take_append_of_le_length (by simp; omega)]
/-- Blocks of the rest. -/
theorem blocksW_add (h : List W32) (xs : List UInt8) (m : Nat) : ∀ n, blocksW h xs (m + n) = blocksW (blocksW h xs m) (xs.drop (64 * m)) n
  | 0 => rfl
  | n + 1 => by
    have ih := blocksW_add h xs m n
    rw [show m + (n + 1) = (m + n) + 1 from rfl]
    simp only [blocksW, ih, List.drop_drop]
    congr 3; omega

/-- Eight bytes of a number, the highest first. -/
def be8 (v : Nat) : List UInt8 := (List.range 8).map fun i => UInt8.ofNat (v / 2 ^ (8 * (7 - i)))
theorem be8_len (v : Nat) : (be8 v).length = 8 := by simp [be8]
def zerosN (n : Nat) : Nat := (119 - n % 64) % 64
/-- What stands behind n bytes in the last block or two. -/
def padW (n : Nat) : List UInt8 := [0x80] ++ List.replicate (zerosN n) 0 ++ be8 (8 * n % 2 ^ 64)
theorem padW_len (n : Nat) : (padW n).length = 9 + zerosN n := by simp [padW, be8_len]; omega
theorem padW_whole (n : Nat) : (n + (padW n).length) % 64 = 0 := by rw [padW_len]; unfold zerosN; omega
/-- The bytes of eight words. -/
def outW (h : List W32) : List UInt8 := (List.range 32).map fun i => UInt8.ofNat ((h.getD (i / 4) 0).toNat / 2 ^ (24 - 8 * (i % 4)))
theorem outW_len (h : List W32) : (outW h).length = 32 := by simp [outW]
/-- THE HASH of a text. -/
def shaP (xs : List UInt8) : List UInt8 :=
  let t := xs ++ padW xs.length
  outW (blocksW H0W t (t.length / 64))
theorem shaP_len (xs : List UInt8) : (shaP xs).length = 32 := outW_len _
/-- The hash, cut to a width. -/
def cutP (n : Nat) (l : List UInt8) : List UInt8 := l.take n ++ List.replicate (32 - n) 0
def sumP (n : Nat) (xs : List UInt8) : List UInt8 := cutP n (shaP xs)
theorem cutP_len (n : Nat) (l : List UInt8) (h : l.length = 32) (hn : n ≤ 32) : (cutP n l).length = 32 := by simp [cutP, h]; omega
theorem sumP_len (n : Nat) (xs : List UInt8) (hn : n ≤ 32) : (sumP n xs).length = 32 := cutP_len _ _ (shaP_len _) hn

end Go.Proofs.YticfalbgplifoaaGreatDoor
