/- Facts on the seat's types, written by wip/mk.py: how many cells and bytes a type has. Conditions: none. -/
import Derived.Test.YtheojegfgcbacaaVh
import Derived.Test.YtheojegfgcbacaaRows
namespace Go.Proofs.Ytheojegfgcbacaa
open Go
theorem c0 : Try.prog.cellsOf 0 = 1 := by kernel_rfl
theorem by0 : Try.prog.bytesOf 0 = 0 := by kernel_rfl
theorem c1 : Try.prog.cellsOf 1 = 1 := by kernel_rfl
theorem by1 : Try.prog.bytesOf 1 = 8 := by kernel_rfl
theorem c2 : Try.prog.cellsOf 2 = 1 := by kernel_rfl
theorem by2 : Try.prog.bytesOf 2 = 8 := by kernel_rfl
theorem c3 : Try.prog.cellsOf 3 = 1 := by kernel_rfl
theorem by3 : Try.prog.bytesOf 3 = 8 := by kernel_rfl
theorem c4 : Try.prog.cellsOf 4 = 1 := by kernel_rfl
theorem by4 : Try.prog.bytesOf 4 = 1 := by kernel_rfl
theorem c5 : Try.prog.cellsOf 5 = 1 := by kernel_rfl
theorem by5 : Try.prog.bytesOf 5 = 1 := by kernel_rfl
theorem c6 : Try.prog.cellsOf 6 = 1 := by kernel_rfl
theorem by6 : Try.prog.bytesOf 6 = 1 := by kernel_rfl
theorem c7 : Try.prog.cellsOf 7 = 4 := by kernel_rfl
theorem by7 : Try.prog.bytesOf 7 = 24 := by kernel_rfl
theorem c8 : Try.prog.cellsOf 8 = 4 := by kernel_rfl
theorem by8 : Try.prog.bytesOf 8 = 24 := by kernel_rfl
theorem c9 : Try.prog.cellsOf 9 = 1 := by kernel_rfl
theorem by9 : Try.prog.bytesOf 9 = 16 := by kernel_rfl
theorem c10 : Try.prog.cellsOf 10 = 1 := by kernel_rfl
theorem by10 : Try.prog.bytesOf 10 = 16 := by kernel_rfl
theorem c11 : Try.prog.cellsOf 11 = 1 := by kernel_rfl
theorem by11 : Try.prog.bytesOf 11 = 16 := by kernel_rfl
theorem c12 : Try.prog.cellsOf 12 = 1 := by kernel_rfl
theorem by12 : Try.prog.bytesOf 12 = 8 := by kernel_rfl
theorem c13 : Try.prog.cellsOf 13 = 2 := by kernel_rfl
theorem by13 : Try.prog.bytesOf 13 = 24 := by kernel_rfl
theorem c14 : Try.prog.cellsOf 14 = 2 := by kernel_rfl
theorem by14 : Try.prog.bytesOf 14 = 24 := by kernel_rfl
theorem c15 : Try.prog.cellsOf 15 = 1 := by kernel_rfl
theorem by15 : Try.prog.bytesOf 15 = 8 := by kernel_rfl
theorem c16 : Try.prog.cellsOf 16 = 1 := by kernel_rfl
theorem by16 : Try.prog.bytesOf 16 = 8 := by kernel_rfl
theorem c17 : Try.prog.cellsOf 17 = 1 := by kernel_rfl
theorem by17 : Try.prog.bytesOf 17 = 8 := by kernel_rfl
theorem c18 : Try.prog.cellsOf 18 = 1 := by kernel_rfl
theorem by18 : Try.prog.bytesOf 18 = 8 := by kernel_rfl
theorem c19 : Try.prog.cellsOf 19 = 1 := by kernel_rfl
theorem by19 : Try.prog.bytesOf 19 = 8 := by kernel_rfl
theorem c20 : Try.prog.cellsOf 20 = 1 := by kernel_rfl
theorem by20 : Try.prog.bytesOf 20 = 16 := by kernel_rfl
theorem c21 : Try.prog.cellsOf 21 = 1 := by kernel_rfl
theorem by21 : Try.prog.bytesOf 21 = 4 := by kernel_rfl
theorem c22 : Try.prog.cellsOf 22 = 32 := by kernel_rfl
theorem by22 : Try.prog.bytesOf 22 = 32 := by kernel_rfl
theorem c23 : Try.prog.cellsOf 23 = 32 := by kernel_rfl
theorem by23 : Try.prog.bytesOf 23 = 32 := by kernel_rfl
theorem c24 : Try.prog.cellsOf 24 = 1 := by kernel_rfl
theorem by24 : Try.prog.bytesOf 24 = 8 := by kernel_rfl
theorem c25 : Try.prog.cellsOf 25 = 1 := by kernel_rfl
theorem by25 : Try.prog.bytesOf 25 = 8 := by kernel_rfl
theorem c26 : Try.prog.cellsOf 26 = 1 := by kernel_rfl
theorem by26 : Try.prog.bytesOf 26 = 0 := by kernel_rfl
theorem c27 : Try.prog.cellsOf 27 = 1 := by kernel_rfl
theorem by27 : Try.prog.bytesOf 27 = 8 := by kernel_rfl
theorem c28 : Try.prog.cellsOf 28 = 1 := by kernel_rfl
theorem by28 : Try.prog.bytesOf 28 = 0 := by kernel_rfl
theorem c29 : Try.prog.cellsOf 29 = 1 := by kernel_rfl
theorem by29 : Try.prog.bytesOf 29 = 8 := by kernel_rfl
theorem c30 : Try.prog.cellsOf 30 = 1 := by kernel_rfl
theorem by30 : Try.prog.bytesOf 30 = 8 := by kernel_rfl
theorem c31 : Try.prog.cellsOf 31 = 1 := by kernel_rfl
theorem by31 : Try.prog.bytesOf 31 = 8 := by kernel_rfl
theorem c32 : Try.prog.cellsOf 32 = 1 := by kernel_rfl
theorem by32 : Try.prog.bytesOf 32 = 8 := by kernel_rfl
theorem c33 : Try.prog.cellsOf 33 = 1 := by kernel_rfl
theorem by33 : Try.prog.bytesOf 33 = 8 := by kernel_rfl
theorem c34 : Try.prog.cellsOf 34 = 1 := by kernel_rfl
theorem by34 : Try.prog.bytesOf 34 = 2 := by kernel_rfl
theorem c35 : Try.prog.cellsOf 35 = 1 := by kernel_rfl
theorem by35 : Try.prog.bytesOf 35 = 8 := by kernel_rfl
theorem c36 : Try.prog.cellsOf 36 = 1 := by kernel_rfl
theorem by36 : Try.prog.bytesOf 36 = 8 := by kernel_rfl
theorem c37 : Try.prog.cellsOf 37 = 1 := by kernel_rfl
theorem by37 : Try.prog.bytesOf 37 = 8 := by kernel_rfl
theorem c38 : Try.prog.cellsOf 38 = 1 := by kernel_rfl
theorem by38 : Try.prog.bytesOf 38 = 24 := by kernel_rfl
theorem c39 : Try.prog.cellsOf 39 = 1 := by kernel_rfl
theorem by39 : Try.prog.bytesOf 39 = 8 := by kernel_rfl
theorem c40 : Try.prog.cellsOf 40 = 1 := by kernel_rfl
theorem by40 : Try.prog.bytesOf 40 = 8 := by kernel_rfl
theorem c41 : Try.prog.cellsOf 41 = 1 := by kernel_rfl
theorem by41 : Try.prog.bytesOf 41 = 8 := by kernel_rfl
theorem c42 : Try.prog.cellsOf 42 = 1 := by kernel_rfl
theorem by42 : Try.prog.bytesOf 42 = 24 := by kernel_rfl
theorem c43 : Try.prog.cellsOf 43 = 1 := by kernel_rfl
theorem by43 : Try.prog.bytesOf 43 = 8 := by kernel_rfl
theorem c44 : Try.prog.cellsOf 44 = 1 := by kernel_rfl
theorem by44 : Try.prog.bytesOf 44 = 24 := by kernel_rfl
theorem c45 : Try.prog.cellsOf 45 = 1 := by kernel_rfl
theorem by45 : Try.prog.bytesOf 45 = 8 := by kernel_rfl
theorem c46 : Try.prog.cellsOf 46 = 1 := by kernel_rfl
theorem by46 : Try.prog.bytesOf 46 = 8 := by kernel_rfl
theorem c47 : Try.prog.cellsOf 47 = 1 := by kernel_rfl
theorem by47 : Try.prog.bytesOf 47 = 8 := by kernel_rfl
theorem c48 : Try.prog.cellsOf 48 = 1 := by kernel_rfl
theorem by48 : Try.prog.bytesOf 48 = 8 := by kernel_rfl
theorem c49 : Try.prog.cellsOf 49 = 1 := by kernel_rfl
theorem by49 : Try.prog.bytesOf 49 = 8 := by kernel_rfl
theorem c50 : Try.prog.cellsOf 50 = 1 := by kernel_rfl
theorem by50 : Try.prog.bytesOf 50 = 8 := by kernel_rfl
theorem c51 : Try.prog.cellsOf 51 = 1 := by kernel_rfl
theorem by51 : Try.prog.bytesOf 51 = 8 := by kernel_rfl
theorem c52 : Try.prog.cellsOf 52 = 1 := by kernel_rfl
theorem by52 : Try.prog.bytesOf 52 = 8 := by kernel_rfl
theorem c53 : Try.prog.cellsOf 53 = 1 := by kernel_rfl
theorem by53 : Try.prog.bytesOf 53 = 8 := by kernel_rfl
theorem c54 : Try.prog.cellsOf 54 = 1 := by kernel_rfl
theorem by54 : Try.prog.bytesOf 54 = 8 := by kernel_rfl
theorem c55 : Try.prog.cellsOf 55 = 1 := by kernel_rfl
theorem by55 : Try.prog.bytesOf 55 = 8 := by kernel_rfl
theorem c56 : Try.prog.cellsOf 56 = 4 := by kernel_rfl
theorem by56 : Try.prog.bytesOf 56 = 40 := by kernel_rfl
theorem c57 : Try.prog.cellsOf 57 = 4 := by kernel_rfl
theorem by57 : Try.prog.bytesOf 57 = 40 := by kernel_rfl
theorem c58 : Try.prog.cellsOf 58 = 0 := by kernel_rfl
theorem by58 : Try.prog.bytesOf 58 = 0 := by kernel_rfl
theorem c59 : Try.prog.cellsOf 59 = 0 := by kernel_rfl
theorem by59 : Try.prog.bytesOf 59 = 0 := by kernel_rfl
theorem c60 : Try.prog.cellsOf 60 = 0 := by kernel_rfl
theorem by60 : Try.prog.bytesOf 60 = 0 := by kernel_rfl
theorem c61 : Try.prog.cellsOf 61 = 1 := by kernel_rfl
theorem by61 : Try.prog.bytesOf 61 = 8 := by kernel_rfl
theorem c62 : Try.prog.cellsOf 62 = 1 := by kernel_rfl
theorem by62 : Try.prog.bytesOf 62 = 4 := by kernel_rfl
theorem c63 : Try.prog.cellsOf 63 = 1 := by kernel_rfl
theorem by63 : Try.prog.bytesOf 63 = 1 := by kernel_rfl
theorem c64 : Try.prog.cellsOf 64 = 1 := by kernel_rfl
theorem by64 : Try.prog.bytesOf 64 = 1 := by kernel_rfl
theorem c65 : Try.prog.cellsOf 65 = 1 := by kernel_rfl
theorem by65 : Try.prog.bytesOf 65 = 8 := by kernel_rfl
theorem c66 : Try.prog.cellsOf 66 = 1 := by kernel_rfl
theorem by66 : Try.prog.bytesOf 66 = 8 := by kernel_rfl
theorem c67 : Try.prog.cellsOf 67 = 1 := by kernel_rfl
theorem by67 : Try.prog.bytesOf 67 = 4 := by kernel_rfl
theorem c68 : Try.prog.cellsOf 68 = 1 := by kernel_rfl
theorem by68 : Try.prog.bytesOf 68 = 4 := by kernel_rfl
theorem c69 : Try.prog.cellsOf 69 = 11 := by kernel_rfl
theorem by69 : Try.prog.bytesOf 69 = 48 := by kernel_rfl
theorem c70 : Try.prog.cellsOf 70 = 11 := by kernel_rfl
theorem by70 : Try.prog.bytesOf 70 = 48 := by kernel_rfl
theorem c71 : Try.prog.cellsOf 71 = 1 := by kernel_rfl
theorem by71 : Try.prog.bytesOf 71 = 8 := by kernel_rfl
theorem z1 : zeroOf Try.prog 1 = some (.nilFunc) := by kernel_rfl
theorem z2 : zeroOf Try.prog 2 = some (.int .i64 0) := by kernel_rfl
theorem z3 : zeroOf Try.prog 3 = some (.int .i64 0) := by kernel_rfl
theorem z4 : zeroOf Try.prog 4 = some (.bool false) := by kernel_rfl
theorem z5 : zeroOf Try.prog 5 = some (.int .u8 0) := by kernel_rfl
theorem z6 : zeroOf Try.prog 6 = some (.int .u8 0) := by kernel_rfl
theorem z7 : zeroOf Try.prog 7 = some (.agg ([.int .i64 0, .int .i64 0] ++ [.bool false] ++ [.int .u8 0] : List Value).toArray) := by kernel_rfl
theorem z8 : zeroOf Try.prog 8 = some (.agg ([.int .i64 0, .int .i64 0] ++ [.bool false] ++ [.int .u8 0] : List Value).toArray) := by kernel_rfl
theorem z9 : zeroOf Try.prog 9 = some (.string ByteArray.empty) := by kernel_rfl
theorem z10 : zeroOf Try.prog 10 = some (.string ByteArray.empty) := by kernel_rfl
theorem z11 : zeroOf Try.prog 11 = some (.string ByteArray.empty) := by kernel_rfl
theorem z12 : zeroOf Try.prog 12 = some (.int .u64 0) := by kernel_rfl
theorem z13 : zeroOf Try.prog 13 = some (.agg ([.string ByteArray.empty] ++ [.int .u64 0] : List Value).toArray) := by kernel_rfl
theorem z14 : zeroOf Try.prog 14 = some (.agg ([.string ByteArray.empty] ++ [.int .u64 0] : List Value).toArray) := by kernel_rfl
theorem z15 : zeroOf Try.prog 15 = some (.pointer none) := by kernel_rfl
theorem z16 : zeroOf Try.prog 16 = some (.pointer none) := by kernel_rfl
theorem z17 : zeroOf Try.prog 17 = some (.pointer none) := by kernel_rfl
theorem z18 : zeroOf Try.prog 18 = some (.agg ([.pointer none] : List Value).toArray) := by kernel_rfl
theorem z19 : zeroOf Try.prog 19 = some (.agg ([.pointer none] : List Value).toArray) := by kernel_rfl
theorem z20 : zeroOf Try.prog 20 = some (.nilIface) := by kernel_rfl
theorem z21 : zeroOf Try.prog 21 = some (.int .i32 0) := by kernel_rfl
theorem z22 : zeroOf Try.prog 22 = some (.agg (List.replicate 32 (.int .u8 0) : List Value).toArray) := by kernel_rfl
theorem z23 : zeroOf Try.prog 23 = some (.agg (List.replicate 32 (.int .u8 0) : List Value).toArray) := by kernel_rfl
theorem z24 : zeroOf Try.prog 24 = some (.nilFunc) := by kernel_rfl
theorem z25 : zeroOf Try.prog 25 = some (.int .i64 0) := by kernel_rfl
theorem z27 : zeroOf Try.prog 27 = some (.nilFunc) := by kernel_rfl
theorem z29 : zeroOf Try.prog 29 = some (.nilFunc) := by kernel_rfl
theorem z30 : zeroOf Try.prog 30 = some (.nilFunc) := by kernel_rfl
theorem z31 : zeroOf Try.prog 31 = some (.nilFunc) := by kernel_rfl
theorem z32 : zeroOf Try.prog 32 = some (.nilFunc) := by kernel_rfl
theorem z33 : zeroOf Try.prog 33 = some (.nilFunc) := by kernel_rfl
theorem z34 : zeroOf Try.prog 34 = some (.int .u16 0) := by kernel_rfl
theorem z35 : zeroOf Try.prog 35 = some (.nilFunc) := by kernel_rfl
theorem z36 : zeroOf Try.prog 36 = some (.nilFunc) := by kernel_rfl
theorem z37 : zeroOf Try.prog 37 = some (.nilFunc) := by kernel_rfl
theorem z38 : zeroOf Try.prog 38 = some (.slice none 0 0) := by kernel_rfl
theorem z39 : zeroOf Try.prog 39 = some (.nilFunc) := by kernel_rfl
theorem z40 : zeroOf Try.prog 40 = some (.nilFunc) := by kernel_rfl
theorem z41 : zeroOf Try.prog 41 = some (.nilFunc) := by kernel_rfl
theorem z42 : zeroOf Try.prog 42 = some (.slice none 0 0) := by kernel_rfl
theorem z43 : zeroOf Try.prog 43 = some (.nilFunc) := by kernel_rfl
theorem z44 : zeroOf Try.prog 44 = some (.slice none 0 0) := by kernel_rfl
theorem z45 : zeroOf Try.prog 45 = some (.nilFunc) := by kernel_rfl
theorem z46 : zeroOf Try.prog 46 = some (.nilFunc) := by kernel_rfl
theorem z47 : zeroOf Try.prog 47 = some (.nilFunc) := by kernel_rfl
theorem z48 : zeroOf Try.prog 48 = some (.nilFunc) := by kernel_rfl
theorem z49 : zeroOf Try.prog 49 = some (.nilFunc) := by kernel_rfl
theorem z50 : zeroOf Try.prog 50 = some (.nilFunc) := by kernel_rfl
theorem z51 : zeroOf Try.prog 51 = some (.nilFunc) := by kernel_rfl
theorem z52 : zeroOf Try.prog 52 = some (.nilFunc) := by kernel_rfl
theorem z53 : zeroOf Try.prog 53 = some (.nilFunc) := by kernel_rfl
theorem z54 : zeroOf Try.prog 54 = some (.int .u64 0) := by kernel_rfl
theorem z55 : zeroOf Try.prog 55 = some (.nilFunc) := by kernel_rfl
theorem z56 : zeroOf Try.prog 56 = some (.agg ([.pointer none, .pointer none, .pointer none] ++ [.string ByteArray.empty] : List Value).toArray) := by kernel_rfl
theorem z57 : zeroOf Try.prog 57 = some (.agg ([.pointer none, .pointer none, .pointer none] ++ [.string ByteArray.empty] : List Value).toArray) := by kernel_rfl
theorem z58 : zeroOf Try.prog 58 = some (.agg ([] : List Value).toArray) := by kernel_rfl
theorem z59 : zeroOf Try.prog 59 = some (.agg ([] : List Value).toArray) := by kernel_rfl
theorem z60 : zeroOf Try.prog 60 = some (.agg ([] : List Value).toArray) := by kernel_rfl
theorem z61 : zeroOf Try.prog 61 = some (.nilFunc) := by kernel_rfl
theorem z62 : zeroOf Try.prog 62 = some (.int .u32 0) := by kernel_rfl
theorem z63 : zeroOf Try.prog 63 = some (.int .u8 0) := by kernel_rfl
theorem z64 : zeroOf Try.prog 64 = some (.int .u8 0) := by kernel_rfl
theorem z65 : zeroOf Try.prog 65 = some (.nilFunc) := by kernel_rfl
theorem z66 : zeroOf Try.prog 66 = some (.pointer none) := by kernel_rfl
theorem z67 : zeroOf Try.prog 67 = some (.int .i32 0) := by kernel_rfl
theorem z68 : zeroOf Try.prog 68 = some (.int .i32 0) := by kernel_rfl
theorem z69 : zeroOf Try.prog 69 = some (.agg ([.int .u64 0, .int .u64 0] ++ [.int .u32 0] ++ List.replicate 4 (.int .u8 0) ++ [.nilFunc] ++ [.pointer none] ++ [.int .i32 0, .int .i32 0] : List Value).toArray) := by kernel_rfl
theorem z70 : zeroOf Try.prog 70 = some (.agg ([.int .u64 0, .int .u64 0] ++ [.int .u32 0] ++ List.replicate 4 (.int .u8 0) ++ [.nilFunc] ++ [.pointer none] ++ [.int .i32 0, .int .i32 0] : List Value).toArray) := by kernel_rfl
theorem z71 : zeroOf Try.prog 71 = some (.pointer none) := by kernel_rfl
theorem mixed : Try.prog.follows .mixedOrders = true := by kernel_rfl
end Go.Proofs.Ytheojegfgcbacaa
