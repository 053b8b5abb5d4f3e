/- Facts on the seat's types, written by wip/mk.py: how many cells and bytes a type has. Conditions: none. -/
import Derived.Test.YtheojegfgcbacaaVh
import Derived.Test.YtheojegfgcbacaaRows
namespace Go.Proofs.Ytheojegfgcbacaa
open Go
theorem c0 : Try.prog.cellsOf 0 = 1 := by kernel_rfl
theorem by0 : Try.prog.bytesOf 0 = 0 := by kernel_rfl
theorem c1 : Try.prog.cellsOf 1 = 1 := by kernel_rfl
theorem by1 : Try.prog.bytesOf 1 = 8 := by kernel_rfl
theorem c2 : Try.prog.cellsOf 2 = 1 := by kernel_rfl
theorem by2 : Try.prog.bytesOf 2 = 8 := by kernel_rfl
theorem c3 : Try.prog.cellsOf 3 = 1 := by kernel_rfl
theorem by3 : Try.prog.bytesOf 3 = 8 := by kernel_rfl
theorem c4 : Try.prog.cellsOf 4 = 1 := by kernel_rfl
theorem by4 : Try.prog.bytesOf 4 = 1 := by kernel_rfl
theorem c5 : Try.prog.cellsOf 5 = 1 := by kernel_rfl
theorem by5 : Try.prog.bytesOf 5 = 1 := by kernel_rfl
theorem c6 : Try.prog.cellsOf 6 = 1 := by kernel_rfl
theorem by6 : Try.prog.bytesOf 6 = 1 := by kernel_rfl
theorem c7 : Try.prog.cellsOf 7 = 4 := by kernel_rfl
theorem by7 : Try.prog.bytesOf 7 = 24 := by kernel_rfl
theorem c8 : Try.prog.cellsOf 8 = 4 := by kernel_rfl
theorem by8 : Try.prog.bytesOf 8 = 24 := by kernel_rfl
theorem c9 : Try.prog.cellsOf 9 = 1 := by kernel_rfl
theorem by9 : Try.prog.bytesOf 9 = 16 := by kernel_rfl
theorem c10 : Try.prog.cellsOf 10 = 1 := by kernel_rfl
theorem by10 : Try.prog.bytesOf 10 = 16 := by kernel_rfl
theorem c11 : Try.prog.cellsOf 11 = 1 := by kernel_rfl
theorem by11 : Try.prog.bytesOf 11 = 16 := by kernel_rfl
theorem c12 : Try.prog.cellsOf 12 = 1 := by kernel_rfl
theorem by12 : Try.prog.bytesOf 12 = 8 := by kernel_rfl
theorem c13 : Try.prog.cellsOf 13 = 2 := by kernel_rfl
theorem by13 : Try.prog.bytesOf 13 = 24 := by kernel_rfl
theorem c14 : Try.prog.cellsOf 14 = 2 := by kernel_rfl
theorem by14 : Try.prog.bytesOf 14 = 24 := by kernel_rfl
theorem c15 : Try.prog.cellsOf 15 = 1 := by kernel_rfl
theorem by15 : Try.prog.bytesOf 15 = 8 := by kernel_rfl
theorem c16 : Try.prog.cellsOf 16 = 1 := by kernel_rfl
theorem by16 : Try.prog.bytesOf 16 = 8 := by kernel_rfl
theorem c17 : Try.prog.cellsOf 17 = 1 := by kernel_rfl
theorem by17 : Try.prog.bytesOf 17 = 8 := by kernel_rfl
theorem c18 : Try.prog.cellsOf 18 = 1 := by kernel_rfl
theorem by18 : Try.prog.bytesOf 18 = 8 := by kernel_rfl
theorem c19 : Try.prog.cellsOf 19 = 1 := by kernel_rfl
theorem by19 : Try.prog.bytesOf 19 = 8 := by kernel_rfl
theorem c20 : Try.prog.cellsOf 20 = 1 := by kernel_rfl
theorem by20 : Try.prog.bytesOf 20 = 16 := by kernel_rfl
theorem c21 : Try.prog.cellsOf 21 = 1 := by kernel_rfl
theorem by21 : Try.prog.bytesOf 21 = 4 := by kernel_rfl
theorem c22 : Try.prog.cellsOf 22 = 32 := by kernel_rfl
theorem by22 : Try.prog.bytesOf 22 = 32 := by kernel_rfl
theorem c23 : Try.prog.cellsOf 23 = 32 := by kernel_rfl
theorem by23 : Try.prog.bytesOf 23 = 32 := by kernel_rfl
theorem c24 : Try.prog.cellsOf 24 = 1 := by kernel_rfl
theorem by24 : Try.prog.bytesOf 24 = 8 := by kernel_rfl
theorem c25 : Try.prog.cellsOf 25 = 1 := by kernel_rfl
theorem by25 : Try.prog.bytesOf 25 = 8 := by kernel_rfl
theorem c26 : Try.prog.cellsOf 26 = 1 := by kernel_rfl
theorem by26 : Try.prog.bytesOf 26 = 0 := by kernel_rfl
theorem c27 : Try.prog.cellsOf 27 = 1 := by kernel_rfl
theorem by27 : Try.prog.bytesOf 27 = 8 := by kernel_rfl
theorem c28 : Try.prog.cellsOf 28 = 1 := by kernel_rfl
theorem by28 : Try.prog.bytesOf 28 = 0 := by kernel_rfl
theorem c29 : Try.prog.cellsOf 29 = 1 := by kernel_rfl
theorem by29 : Try.prog.bytesOf 29 = 8 := by kernel_rfl
theorem c30 : Try.prog.cellsOf 30 = 1 := by kernel_rfl
theorem by30 : Try.prog.bytesOf 30 = 8 := by kernel_rfl
theorem c31 : Try.prog.cellsOf 31 = 1 := by kernel_rfl
theorem by31 : Try.prog.bytesOf 31 = 8 := by kernel_rfl
theorem c32 : Try.prog.cellsOf 32 = 1 := by kernel_rfl
theorem by32 : Try.prog.bytesOf 32 = 8 := by kernel_rfl
theorem c33 : Try.prog.cellsOf 33 = 1 := by kernel_rfl
theorem by33 : Try.prog.bytesOf 33 = 8 := by kernel_rfl
theorem c34 : Try.prog.cellsOf 34 = 1 := by kernel_rfl
theorem by34 : Try.prog.bytesOf 34 = 2 := by kernel_rfl
theorem c35 : Try.prog.cellsOf 35 = 1 := by kernel_rfl
theorem by35 : Try.prog.bytesOf 35 = 8 := by kernel_rfl
theorem c36 : Try.prog.cellsOf 36 = 1 := by kernel_rfl
theorem by36 : Try.prog.bytesOf 36 = 8 := by kernel_rfl
theorem c37 : Try.prog.cellsOf 37 = 1 := by kernel_rfl
theorem by37 : Try.prog.bytesOf 37 = 8 := by kernel_rfl
theorem c38 : Try.prog.cellsOf 38 = 1 := by kernel_rfl
theorem by38 : Try.prog.bytesOf 38 = 24 := by kernel_rfl
theorem c39 : Try.prog.cellsOf 39 = 1 := by kernel_rfl
theorem by39 : Try.prog.bytesOf 39 = 8 := by kernel_rfl
theorem c40 : Try.prog.cellsOf 40 = 1 := by kernel_rfl
theorem by40 : Try.prog.bytesOf 40 = 8 := by kernel_rfl
theorem c41 : Try.prog.cellsOf 41 = 1 := by kernel_rfl
theorem by41 : Try.prog.bytesOf 41 = 8 := by kernel_rfl
theorem c42 : Try.prog.cellsOf 42 = 1 := by kernel_rfl
theorem by42 : Try.prog.bytesOf 42 = 24 := by kernel_rfl
theorem c43 : Try.prog.cellsOf 43 = 1 := by kernel_rfl
theorem by43 : Try.prog.bytesOf 43 = 8 := by kernel_rfl
theorem c44 : Try.prog.cellsOf 44 = 1 := by kernel_rfl
theorem by44 : Try.prog.bytesOf 44 = 24 := by kernel_rfl
theorem c45 : Try.prog.cellsOf 45 = 1 := by kernel_rfl
theorem by45 : Try.prog.bytesOf 45 = 8 := by kernel_rfl
theorem c46 : Try.prog.cellsOf 46 = 1 := by kernel_rfl
theorem by46 : Try.prog.bytesOf 46 = 8 := by kernel_rfl
theorem c47 : Try.prog.cellsOf 47 = 1 := by kernel_rfl
theorem by47 : Try.prog.bytesOf 47 = 8 := by kernel_rfl
theorem c48 : Try.prog.cellsOf 48 = 1 := by kernel_rfl
theorem by48 : Try.prog.bytesOf 48 = 8 := by kernel_rfl
theorem c49 : Try.prog.cellsOf 49 = 1 := by kernel_rfl
theorem by49 : Try.prog.bytesOf 49 = 8 := by kernel_rfl
theorem c50 : Try.prog.cellsOf 50 = 1 := by kernel_rfl
theorem by50 : Try.prog.bytesOf 50 = 8 := by kernel_rfl
theorem c51 : Try.prog.cellsOf 51 = 1 := by kernel_rfl
theorem by51 : Try.prog.bytesOf 51 = 8 := by kernel_rfl
theorem c52 : Try.prog.cellsOf 52 = 1 := by kernel_rfl
theorem by52 : Try.prog.bytesOf 52 = 8 := by kernel_rfl
theorem c53 : Try.prog.cellsOf 53 = 1 := by kernel_rfl
theorem by53 : Try.prog.bytesOf 53 = 8 := by kernel_rfl
theorem c54 : Try.prog.cellsOf 54 = 1 := by kernel_rfl
theorem by54 : Try.prog.bytesOf 54 = 8 := by kernel_rfl
theorem c55 : Try.prog.cellsOf 55 = 1 := by kernel_rfl
theorem by55 : Try.prog.bytesOf 55 = 8 := by kernel_rfl
theorem c56 : Try.prog.cellsOf 56 = 4 := by kernel_rfl
theorem by56 : Try.prog.bytesOf 56 = 40 := by kernel_rfl
theorem c57 : Try.prog.cellsOf 57 = 4 := by kernel_rfl
theorem by57 : Try.prog.bytesOf 57 = 40 := by kernel_rfl
theorem c58 : Try.prog.cellsOf 58 = 0 := by kernel_rfl
theorem by58 : Try.prog.bytesOf 58 = 0 := by kernel_rfl
theorem c59 : Try.prog.cellsOf 59 = 0 := by kernel_rfl
theorem by59 : Try.prog.bytesOf 59 = 0 := by kernel_rfl
theorem c60 : Try.prog.cellsOf 60 = 0 := by kernel_rfl
theorem by60 : Try.prog.bytesOf 60 = 0 := by kernel_rfl
theorem c61 : Try.prog.cellsOf 61 = 1 := by kernel_rfl
theorem by61 : Try.prog.bytesOf 61 = 8 := by kernel_rfl
theorem c62 : Try.prog.cellsOf 62 = 1 := by kernel_rfl
theorem by62 : Try.prog.bytesOf 62 = 4 := by kernel_rfl
theorem c63 : Try.prog.cellsOf 63 = 1 := by kernel_rfl
theorem by63 : Try.prog.bytesOf 63 = 1 := by kernel_rfl
theorem c64 : Try.prog.cellsOf 64 = 1 := by kernel_rfl
theorem by64 : Try.prog.bytesOf 64 = 1 := by kernel_rfl
theorem c65 : Try.prog.cellsOf 65 = 1 := by kernel_rfl
theorem by65 : Try.prog.bytesOf 65 = 8 := by kernel_rfl
theorem c66 : Try.prog.cellsOf 66 = 1 := by kernel_rfl
theorem by66 : Try.prog.bytesOf 66 = 8 := by kernel_rfl
theorem c67 : Try.prog.cellsOf 67 = 1 := by kernel_rfl
theorem by67 : Try.prog.bytesOf 67 = 4 := by kernel_rfl
theorem c68 : Try.prog.cellsOf 68 = 1 := by kernel_rfl
theorem by68 : Try.prog.bytesOf 68 = 4 := by kernel_rfl
theorem c69 : Try.prog.cellsOf 69 = 11 := by kernel_rfl
theorem by69 : Try.prog.bytesOf 69 = 48 := by kernel_rfl
theorem c70 : Try.prog.cellsOf 70 = 11 := by kernel_rfl
theorem by70 : Try.prog.bytesOf 70 = 48 := by kernel_rfl
theorem c71 : Try.prog.cellsOf 71 = 1 := by kernel_rfl
theorem by71 : Try.prog.bytesOf 71 = 8 := by kernel_rfl
theorem z1 : zeroOf Try.prog 1 = some (.nilFunc) := by kernel_rfl
theorem z2 : zeroOf Try.prog 2 = some (.int .i64 0) := by kernel_rfl
theorem z3 : zeroOf Try.prog 3 = some (.int .i64 0) := by kernel_rfl
theorem z4 : zeroOf Try.prog 4 = some (.bool false) := by kernel_rfl
theorem z5 : zeroOf Try.prog 5 = some (.int .u8 0) := by kernel_rfl
theorem z6 : zeroOf Try.prog 6 = some (.int .u8 0) := by kernel_rfl
theorem z7 : zeroOf Try.prog 7 = some (.agg ([.int .i64 0, .int .i64 0] ++ [.bool false] ++ [.int .u8 0] : List Value).toArray) := by kernel_rfl
theorem z8 : zeroOf Try.prog 8 = some (.agg ([.int .i64 0, .int .i64 0] ++ [.bool false] ++ [.int .u8 0] : List Value).toArray) := by kernel_rfl
theorem z9 : zeroOf Try.prog 9 = some (.string ByteArray.empty) := by kernel_rfl
theorem z10 : zeroOf Try.prog 10 = some (.string ByteArray.empty) := by kernel_rfl
theorem z11 : zeroOf Try.prog 11 = some (.string ByteArray.empty) := by kernel_rfl
theorem z12 : zeroOf Try.prog 12 = some (.int .u64 0) := by kernel_rfl
theorem z13 : zeroOf Try.prog 13 = some (.agg ([.string ByteArray.empty] ++ [.int .u64 0] : List Value).toArray) := by kernel_rfl
theorem z14 : zeroOf Try.prog 14 = some (.agg ([.string ByteArray.empty] ++ [.int .u64 0] : List Value).toArray) := by kernel_rfl
theorem z15 : zeroOf Try.prog 15 = some (.pointer none) := by kernel_rfl
theorem z16 : zeroOf Try.prog 16 = some (.pointer none) := by kernel_rfl
theorem z17 : zeroOf Try.prog 17 = some (.pointer none) := by kernel_rfl
theorem z18 : zeroOf Try.prog 18 = some (.agg ([.pointer none] : List Value).toArray) := by kernel_rfl
theorem z19 : zeroOf Try.prog 19 = some (.agg ([.pointer none] : List Value).toArray) := by kernel_rfl
theorem z20 : zeroOf Try.prog 20 = some (.nilIface) := by kernel_rfl
theorem z21 : zeroOf Try.prog 21 = some (.int .i32 0) := by kernel_rfl
theorem z22 : zeroOf Try.prog 22 = some (.agg (List.replicate 32 (.int .u8 0) : List Value).toArray) := by kernel_rfl
theorem z23 : zeroOf Try.prog 23 = some (.agg (List.replicate 32 (.int .u8 0) : List Value).toArray) := by kernel_rfl
theorem z24 : zeroOf Try.prog 24 = some (.nilFunc) := by kernel_rfl
theorem z25 : zeroOf Try.prog 25 = some (.int .i64 0) := by kernel_rfl
theorem z27 : zeroOf Try.prog 27 = some (.nilFunc) := by kernel_rfl
theorem z29 : zeroOf Try.prog 29 = some (.nilFunc) := by kernel_rfl
theorem z30 : zeroOf Try.prog 30 = some (.nilFunc) := by kernel_rfl
theorem z31 : zeroOf Try.prog 31 = some (.nilFunc) := by kernel_rfl
theorem z32 : zeroOf Try.prog 32 = some (.nilFunc) := by kernel_rfl
theorem z33 : zeroOf Try.prog 33 = some (.nilFunc) := by kernel_rfl
theorem z34 : zeroOf Try.prog 34 = some (.int .u16 0) := by kernel_rfl
theorem z35 : zeroOf Try.prog 35 = some (.nilFunc) := by kernel_rfl
theorem z36 : zeroOf Try.prog 36 = some (.nilFunc) := by kernel_rfl
theorem z37 : zeroOf Try.prog 37 = some (.nilFunc) := by kernel_rfl
theorem z38 : zeroOf Try.prog 38 = some (.slice none 0 0) := by kernel_rfl
theorem z39 : zeroOf Try.prog 39 = some (.nilFunc) := by kernel_rfl
theorem z40 : zeroOf Try.prog 40 = some (.nilFunc) := by kernel_rfl
theorem z41 : zeroOf Try.prog 41 = some (.nilFunc) := by kernel_rfl
theorem z42 : zeroOf Try.prog 42 = some (.slice none 0 0) := by kernel_rfl
theorem z43 : zeroOf Try.prog 43 = some (.nilFunc) := by kernel_rfl
theorem z44 : zeroOf Try.prog 44 = some (.slice none 0 0) := by kernel_rfl
theorem z45 : zeroOf Try.prog 45 = some (.nilFunc) := by kernel_rfl
theorem z46 : zeroOf Try.prog 46 = some (.nilFunc) := by kernel_rfl
theorem z47 : zeroOf Try.prog 47 = some (.nilFunc) := by kernel_rfl
theorem z48 : zeroOf Try.prog 48 = some (.nilFunc) := by kernel_rfl
theorem z49 : zeroOf Try.prog 49 = some (.nilFunc) := by kernel_rfl
theorem z50 : zeroOf Try.prog 50 = some (.nilFunc) := by kernel_rfl
theorem z51 : zeroOf Try.prog 51 = some (.nilFunc) := by kernel_rfl
theorem z52 : zeroOf Try.prog 52 = some (.nilFunc) := by kernel_rfl
theorem z53 : zeroOf Try.prog 53 = some (.nilFunc) := by kernel_rfl
theorem z54 : zeroOf Try.prog 54 = some (.int .u64 0) := by kernel_rfl
theorem z55 : zeroOf Try.prog 55 = some (.nilFunc) := by kernel_rfl
theorem z56 : zeroOf Try.prog 56 = some (.agg ([.pointer none, .pointer none, .pointer none] ++ [.string ByteArray.empty] : List Value).toArray) := by kernel_rfl
theorem z57 : zeroOf Try.prog 57 = some (.agg ([.pointer none, .pointer none, .pointer none] ++ [.string ByteArray.empty] : List Value).toArray) := by kernel_rfl
theorem z58 : zeroOf Try.prog 58 = some (.agg ([] : List Value).toArray) := by kernel_rfl
theorem z59 : zeroOf Try.prog 59 = some (.agg ([] : List Value).toArray) := by kernel_rfl
theorem z60 : zeroOf Try.prog 60 = some (.agg ([] : List Value).toArray) := by kernel_rfl
theorem z61 : zeroOf Try.prog 61 = some (.nilFunc) := by kernel_rfl
theorem z62 : zeroOf Try.prog 62 = some (.int .u32 0) := by kernel_rfl
theorem z63 : zeroOf Try.prog 63 = some (.int .u8 0) := by kernel_rfl
theorem z64 : zeroOf Try.prog 64 = some (.int .u8 0) := by kernel_rfl
theorem z65 : zeroOf Try.prog 65 = some (.nilFunc) := by kernel_rfl
theorem z66 : zeroOf Try.prog 66 = some (.pointer none) := by kernel_rfl
theorem z67 : zeroOf Try.prog 67 = some (.int .i32 0) := by kernel_rfl
theorem z68 : zeroOf Try.prog 68 = some (.int .i32 0) := by kernel_rfl
theorem z69 : zeroOf Try.prog 69 = some (.agg ([.int .u64 0, .int .u64 0] ++ [.int .u32 0] ++ List.replicate 4 (.int .u8 0) ++ [.nilFunc] ++ [.pointer none] ++ [.int .i32 0, .int .i32 0] : List Value).toArray) := by kernel_rfl
theorem z70 : zeroOf Try.prog 70 = some (.agg ([.int .u64 0, .int .u64 0] ++ [.int .u32 0] ++ List.replicate 4 (.int .u8 0) ++ [.nilFunc] ++ [.pointer none] ++ [.int .i32 0, .int .i32 0] : List Value).toArray) := by kernel_rfl
theorem z71 : zeroOf Try.prog 71 = some (.pointer none) := by kernel_rfl
theorem mixed : Try.prog.follows .mixedOrders = true := by kernel_rfl
/-! The rules of the walks, bundled. -/
theorem VD : type_of% (And.intro (@h_nil) (And.intro (@h_cons) (And.intro (@h_load) (And.intro (@h_len) (And.intro (@h_store) (And.intro (@h_alloc) (And.intro (@h_box) (And.intro (@h_bld) (And.intro (@h_call) (And.intro (@h_app) (And.intro (@h_move) (And.intro (@h_assign) (And.intro (@h_pick) (And.intro (@h_bin) (And.intro (@h_un) (And.intro (@h_conv) (And.intro (@h_nilC) (And.intro (@h_fldA) (And.intro (@h_fld) (And.intro (@h_idxA) (And.intro (@h_idx) (And.intro (@h_sl) (And.intro (@h_ext) (And.intro (@h_mkI) (And.intro (@h_mkF) (And.intro (@h_bv) (And.intro (@p_bv) (And.intro (@o_bv) (And.intro (@q_bv) (And.intro (@h_asr) (And.intro (@v_skip) (And.intro (@v_region) (And.intro (@v_draw) (And.intro (@v_seq) (And.intro (@v_cond) (And.intro (@v_block) (And.intro (@v_loop) (And.intro (@v_exit) (And.intro (@v_ret) (And.intro (@s_normal) (And.intro (@s_exit) (And.intro (@s_ret) (And.intro (@b_normal) (And.intro (@b_exit_eq) (And.intro (@b_exit_ne) (And.intro (@b_ret) (And.intro (@k_normal) (And.intro (@k_hit) (And.intro (@k_miss) (And.intro (@k_ret) (And.intro (@ops_nil) (And.intro (@ops_cons) (And.intro (@ops_grd) (And.intro (@q_nil) (And.intro (@q_cons) (And.intro (@q_grd) (And.intro (@p_move) (And.intro (@o_move) (And.intro (@q_move) (And.intro (@p_assign) (And.intro (@o_assign) (And.intro (@q_assign) (And.intro (@p_pick) (And.intro (@o_pick) (And.intro (@q_pick) (And.intro (@p_bin) (And.intro (@o_bin) (And.intro (@q_bin) (And.intro (@p_un) (And.intro (@o_un) (And.intro (@q_un) (And.intro (@p_conv) (And.intro (@o_conv) (And.intro (@q_conv) (And.intro (@p_nilC) (And.intro (@o_nilC) (And.intro (@q_nilC) (And.intro (@p_fldA) (And.intro (@o_fldA) (And.intro (@q_fldA) (And.intro (@p_fld) (And.intro (@o_fld) (And.intro (@q_fld) (And.intro (@p_idxA) (And.intro (@o_idxA) (And.intro (@q_idxA) (And.intro (@p_idx) (And.intro (@o_idx) (And.intro (@q_idx) (And.intro (@p_sl) (And.intro (@o_sl) (And.intro (@q_sl) (And.intro (@p_ext) (And.intro (@o_ext) (And.intro (@q_ext) (And.intro (@p_mkI) (And.intro (@o_mkI) (And.intro (@q_mkI) (And.intro (@p_mkF) (And.intro (@o_mkF) (And.intro (@q_mkF) (And.intro (@p_asr) (And.intro (@o_asr) (And.intro (@q_asr) (And.intro (@o_load) (And.intro (@o_store) (And.intro (@o_alloc) (And.intro (@o_box) (And.intro (@o_bld) (And.intro (@o_call) (And.intro (@o_len) (And.intro (@o_app) (And.intro (@o_min) (And.intro (@o_max) (And.intro (@q_load) (And.intro (@q_call) (And.intro (@q_len) (And.intro (@e_tmp) (And.intro (@e_const) (And.intro (@e_func) (And.intro (@e_glob) (And.intro (@upd_eq) (And.intro (@upd_ne) (And.intro (@uO_some) (@uO_none))))))))))))))))))))))))))))))))))))))))))))))))))))))))))))))))))))))))))))))))))))))))))))))))))))))))))))))))))))))))))))) := And.intro (@h_nil) (And.intro (@h_cons) (And.intro (@h_load) (And.intro (@h_len) (And.intro (@h_store) (And.intro (@h_alloc) (And.intro (@h_box) (And.intro (@h_bld) (And.intro (@h_call) (And.intro (@h_app) (And.intro (@h_move) (And.intro (@h_assign) (And.intro (@h_pick) (And.intro (@h_bin) (And.intro (@h_un) (And.intro (@h_conv) (And.intro (@h_nilC) (And.intro (@h_fldA) (And.intro (@h_fld) (And.intro (@h_idxA) (And.intro (@h_idx) (And.intro (@h_sl) (And.intro (@h_ext) (And.intro (@h_mkI) (And.intro (@h_mkF) (And.intro (@h_bv) (And.intro (@p_bv) (And.intro (@o_bv) (And.intro (@q_bv) (And.intro (@h_asr) (And.intro (@v_skip) (And.intro (@v_region) (And.intro (@v_draw) (And.intro (@v_seq) (And.intro (@v_cond) (And.intro (@v_block) (And.intro (@v_loop) (And.intro (@v_exit) (And.intro (@v_ret) (And.intro (@s_normal) (And.intro (@s_exit) (And.intro (@s_ret) (And.intro (@b_normal) (And.intro (@b_exit_eq) (And.intro (@b_exit_ne) (And.intro (@b_ret) (And.intro (@k_normal) (And.intro (@k_hit) (And.intro (@k_miss) (And.intro (@k_ret) (And.intro (@ops_nil) (And.intro (@ops_cons) (And.intro (@ops_grd) (And.intro (@q_nil) (And.intro (@q_cons) (And.intro (@q_grd) (And.intro (@p_move) (And.intro (@o_move) (And.intro (@q_move) (And.intro (@p_assign) (And.intro (@o_assign) (And.intro (@q_assign) (And.intro (@p_pick) (And.intro (@o_pick) (And.intro (@q_pick) (And.intro (@p_bin) (And.intro (@o_bin) (And.intro (@q_bin) (And.intro (@p_un) (And.intro (@o_un) (And.intro (@q_un) (And.intro (@p_conv) (And.intro (@o_conv) (And.intro (@q_conv) (And.intro (@p_nilC) (And.intro (@o_nilC) (And.intro (@q_nilC) (And.intro (@p_fldA) (And.intro (@o_fldA) (And.intro (@q_fldA) (And.intro (@p_fld) (And.intro (@o_fld) (And.intro (@q_fld) (And.intro (@p_idxA) (And.intro (@o_idxA) (And.intro (@q_idxA) (And.intro (@p_idx) (And.intro (@o_idx) (And.intro (@q_idx) (And.intro (@p_sl) (And.intro (@o_sl) (And.intro (@q_sl) (And.intro (@p_ext) (And.intro (@o_ext) (And.intro (@q_ext) (And.intro (@p_mkI) (And.intro (@o_mkI) (And.intro (@q_mkI) (And.intro (@p_mkF) (And.intro (@o_mkF) (And.intro (@q_mkF) (And.intro (@p_asr) (And.intro (@o_asr) (And.intro (@q_asr) (And.intro (@o_load) (And.intro (@o_store) (And.intro (@o_alloc) (And.intro (@o_box) (And.intro (@o_bld) (And.intro (@o_call) (And.intro (@o_len) (And.intro (@o_app) (And.intro (@o_min) (And.intro (@o_max) (And.intro (@q_load) (And.intro (@q_call) (And.intro (@q_len) (And.intro (@e_tmp) (And.intro (@e_const) (And.intro (@e_func) (And.intro (@e_glob) (And.intro (@upd_eq) (And.intro (@upd_ne) (And.intro (@uO_some) (@uO_none))))))))))))))))))))))))))))))))))))))))))))))))))))))))))))))))))))))))))))))))))))))))))))))))))))))))))))))))))))))))))))
theorem VJ : type_of% (And.intro (@h_nil) (And.intro (@h_cons) (And.intro (@h_load) (And.intro (@h_len) (And.intro (@h_store) (And.intro (@h_alloc) (And.intro (@h_box) (And.intro (@h_bld) (And.intro (@h_call) (And.intro (@h_app) (And.intro (@h_move) (And.intro (@h_assign) (And.intro (@h_pick) (And.intro (@h_bin) (And.intro (@h_un) (And.intro (@h_conv) (And.intro (@h_nilC) (And.intro (@h_fldA) (And.intro (@h_fld) (And.intro (@h_idxA) (And.intro (@h_idx) (And.intro (@h_sl) (And.intro (@h_ext) (And.intro (@h_mkI) (And.intro (@h_mkF) (And.intro (@h_bv) (And.intro (@p_bv) (And.intro (@o_bv) (And.intro (@q_bv) (And.intro (@h_asr) (And.intro (@v_skip) (And.intro (@v_region) (And.intro (@v_draw) (And.intro (@v_seq) (And.intro (@v_block) (And.intro (@v_loop) (And.intro (@v_exit) (And.intro (@v_ret) (And.intro (@s_normal) (And.intro (@s_exit) (And.intro (@s_ret) (And.intro (@b_normal) (And.intro (@b_exit_eq) (And.intro (@b_exit_ne) (And.intro (@b_ret) (And.intro (@k_normal) (And.intro (@k_hit) (And.intro (@k_miss) (And.intro (@k_ret) (And.intro (@ops_nil) (And.intro (@ops_cons) (And.intro (@ops_grd) (And.intro (@q_nil) (And.intro (@q_cons) (And.intro (@q_grd) (And.intro (@p_move) (And.intro (@o_move) (And.intro (@q_move) (And.intro (@p_assign) (And.intro (@o_assign) (And.intro (@q_assign) (And.intro (@p_pick) (And.intro (@o_pick) (And.intro (@q_pick) (And.intro (@p_bin) (And.intro (@o_bin) (And.intro (@q_bin) (And.intro (@p_un) (And.intro (@o_un) (And.intro (@q_un) (And.intro (@p_conv) (And.intro (@o_conv) (And.intro (@q_conv) (And.intro (@p_nilC) (And.intro (@o_nilC) (And.intro (@q_nilC) (And.intro (@p_fldA) (And.intro (@o_fldA) (And.intro (@q_fldA) (And.intro (@p_fld) (And.intro (@o_fld) (And.intro (@q_fld) (And.intro (@p_idxA) (And.intro (@o_idxA) (And.intro (@q_idxA) (And.intro (@p_idx) (And.intro (@o_idx) (And.intro (@q_idx) (And.intro (@p_sl) (And.intro (@o_sl) (And.intro (@q_sl) (And.intro (@p_ext) (And.intro (@o_ext) (And.intro (@q_ext) (And.intro (@p_mkI) (And.intro (@o_mkI) (And.intro (@q_mkI) (And.intro (@p_mkF) (And.intro (@o_mkF) (And.intro (@q_mkF) (And.intro (@p_asr) (And.intro (@o_asr) (And.intro (@q_asr) (And.intro (@o_load) (And.intro (@o_store) (And.intro (@o_alloc) (And.intro (@o_box) (And.intro (@o_bld) (And.intro (@o_call) (And.intro (@o_len) (And.intro (@o_app) (And.intro (@o_min) (And.intro (@o_max) (And.intro (@q_load) (And.intro (@q_call) (And.intro (@q_len) (And.intro (@e_tmp) (And.intro (@e_const) (And.intro (@e_func) (And.intro (@e_glob) (And.intro (@upd_eq) (And.intro (@upd_ne) (And.intro (@uO_some) (@uO_none)))))))))))))))))))))))))))))))))))))))))))))))))))))))))))))))))))))))))))))))))))))))))))))))))))))))))))))))))))))))))))) := And.intro (@h_nil) (And.intro (@h_cons) (And.intro (@h_load) (And.intro (@h_len) (And.intro (@h_store) (And.intro (@h_alloc) (And.intro (@h_box) (And.intro (@h_bld) (And.intro (@h_call) (And.intro (@h_app) (And.intro (@h_move) (And.intro (@h_assign) (And.intro (@h_pick) (And.intro (@h_bin) (And.intro (@h_un) (And.intro (@h_conv) (And.intro (@h_nilC) (And.intro (@h_fldA) (And.intro (@h_fld) (And.intro (@h_idxA) (And.intro (@h_idx) (And.intro (@h_sl) (And.intro (@h_ext) (And.intro (@h_mkI) (And.intro (@h_mkF) (And.intro (@h_bv) (And.intro (@p_bv) (And.intro (@o_bv) (And.intro (@q_bv) (And.intro (@h_asr) (And.intro (@v_skip) (And.intro (@v_region) (And.intro (@v_draw) (And.intro (@v_seq) (And.intro (@v_block) (And.intro (@v_loop) (And.intro (@v_exit) (And.intro (@v_ret) (And.intro (@s_normal) (And.intro (@s_exit) (And.intro (@s_ret) (And.intro (@b_normal) (And.intro (@b_exit_eq) (And.intro (@b_exit_ne) (And.intro (@b_ret) (And.intro (@k_normal) (And.intro (@k_hit) (And.intro (@k_miss) (And.intro (@k_ret) (And.intro (@ops_nil) (And.intro (@ops_cons) (And.intro (@ops_grd) (And.intro (@q_nil) (And.intro (@q_cons) (And.intro (@q_grd) (And.intro (@p_move) (And.intro (@o_move) (And.intro (@q_move) (And.intro (@p_assign) (And.intro (@o_assign) (And.intro (@q_assign) (And.intro (@p_pick) (And.intro (@o_pick) (And.intro (@q_pick) (And.intro (@p_bin) (And.intro (@o_bin) (And.intro (@q_bin) (And.intro (@p_un) (And.intro (@o_un) (And.intro (@q_un) (And.intro (@p_conv) (And.intro (@o_conv) (And.intro (@q_conv) (And.intro (@p_nilC) (And.intro (@o_nilC) (And.intro (@q_nilC) (And.intro (@p_fldA) (And.intro (@o_fldA) (And.intro (@q_fldA) (And.intro (@p_fld) (And.intro (@o_fld) (And.intro (@q_fld) (And.intro (@p_idxA) (And.intro (@o_idxA) (And.intro (@q_idxA) (And.intro (@p_idx) (And.intro (@o_idx) (And.intro (@q_idx) (And.intro (@p_sl) (And.intro (@o_sl) (And.intro (@q_sl) (And.intro (@p_ext) (And.intro (@o_ext) (And.intro (@q_ext) (And.intro (@p_mkI) (And.intro (@o_mkI) (And.intro (@q_mkI) (And.intro (@p_mkF) (And.intro (@o_mkF) (And.intro (@q_mkF) (And.intro (@p_asr) (And.intro (@o_asr) (And.intro (@q_asr) (And.intro (@o_load) (And.intro (@o_store) (And.intro (@o_alloc) (And.intro (@o_box) (And.intro (@o_bld) (And.intro (@o_call) (And.intro (@o_len) (And.intro (@o_app) (And.intro (@o_min) (And.intro (@o_max) (And.intro (@q_load) (And.intro (@q_call) (And.intro (@q_len) (And.intro (@e_tmp) (And.intro (@e_const) (And.intro (@e_func) (And.intro (@e_glob) (And.intro (@upd_eq) (And.intro (@upd_ne) (And.intro (@uO_some) (@uO_none)))))))))))))))))))))))))))))))))))))))))))))))))))))))))))))))))))))))))))))))))))))))))))))))))))))))))))))))))))))))))))
theorem VP : type_of% (And.intro (@hO_plain) (And.intro (@hO_grd) (And.intro (@hG_some) (And.intro (@r_normal) (And.intro (@r_ret) (And.intro (@res0) (And.intro (@res1) (And.intro (@res2) (And.intro (@res3) (And.intro (@res4) (And.intro (@resC) (And.intro (@grdT_some) (And.intro (@grdQ_some) (And.intro (@binO_some) (And.intro (@binD_int) (And.intro (@binD_string) (And.intro (@binD_bool) (And.intro (@binD_pointer) (And.intro (@binD_slice) (And.intro (@binD_array) (And.intro (@binD_struct) (And.intro (@binD_iface) (And.intro (@eqO_eql) (And.intro (@eqO_neq) (And.intro (@fldAO_struct) (And.intro (@fldA_some) (And.intro (@fldO_struct) (And.intro (@fldV_some) (And.intro (@partO_t) (And.intro (@partO_f) (And.intro (@idxAO_array) (And.intro (@idxAO_slice) (And.intro (@idxO_array) (And.intro (@slO_array) (And.intro (@slO_slice) (And.intro (@bound_some) (And.intro (@bound_none) (And.intro (@convO_int) (And.intro (@ifO_pointer) (And.intro (@ifO_struct) (And.intro (@ifO_int) (And.intro (@asrO_pointer) (And.intro (@asrV_nil) (And.intro (@asrV_hit) (And.intro (@valV_go) (And.intro (@pickV_t) (And.intro (@pickV_f) (And.intro (@un_not) (And.intro (@un_neg) (And.intro (@un_xor) (And.intro (@lenO_slice) (And.intro (@lenO_string) (And.intro (@lenO_array) (And.intro (@bldO_slice) (And.intro (@parts_nil) (And.intro (@parts_cons) (And.intro (@pok_nil) (And.intro (@pok_cons) (And.intro (@init_nil) (And.intro (@init_cons) (And.intro (@d_some) (And.intro (@d_none) (And.intro (@intV_lit) (And.intro (@boolV_lit) (And.intro (@ptrV_lit) (And.intro (@slcV_lit) (And.intro (@adrV_lit) (And.intro (@aggV_lit) (And.intro (@tupV_lit) (And.intro (@grdV_u) (And.intro (@grdV_bt) (And.intro (@grdV_bf) (And.intro (@cndV_b) (And.intro (@bsplit_t) (And.intro (@bsplit_f) (And.intro (@bsplit_d) (And.intro (@bsplit_n) (And.intro (@add_lit) (And.intro (@sub_lit) (And.intro (@mul_lit) (And.intro (@quo_lit) (And.intro (@rem_lit) (And.intro (@and_lit) (And.intro (@or_lit) (And.intro (@xor_lit) (And.intro (@andNot_lit) (And.intro (@shl_lit) (And.intro (@shr_lit) (And.intro (@eql_lit) (And.intro (@neq_lit) (And.intro (@lss_lit) (And.intro (@leq_lit) (And.intro (@gtr_lit) (And.intro (@geq_lit) (And.intro (@eqb_lit) (And.intro (@eqp_lit) (And.intro (@eqs_lit) (And.intro (@Option.map_some.{0,0}) (And.intro (@Option.bind_some.{0,0}) (And.intro (@List.map_cons.{0,0}) (And.intro (@List.map_nil.{0,0}) (And.intro (@List.map_toArray.{0,0}) (And.intro (@List.getElem?_cons_zero.{0}) (And.intro (@List.getElem?_cons_succ.{0}) (And.intro (@List.getElem?_toArray.{0}) (And.intro (@Option.some.injEq.{0}) (And.intro (@exists_eq_left'.{1}) (And.intro (@not_true_eq_false) (And.intro (@not_false_eq_true) (And.intro (@false_implies) (And.intro (@Classical.not_not) (And.intro (@true_and) (And.intro (@and_true) (And.intro (@true_implies) (And.intro (@ne_eq.{1}) (And.intro (@not_false_eq_true) (And.intro (@Bool.false_eq_true) (And.intro (@Bool.not_true) (And.intro (@Bool.not_false) (And.intro (@Int.cast_ofNat_Int) (And.intro (@decide_true) (And.intro (@decide_false) (And.intro (@decide_eq_true_eq) (And.intro (@Nat.mul_one) (And.intro (@Nat.one_mul) (And.intro (@Nat.zero_add) (And.intro (@Nat.add_zero) (And.intro (@List.append_nil.{0}) (And.intro (@List.nil_append.{0}) (And.intro (@List.cons_append.{0}) (And.intro (@List.size_toArray.{0}) (And.intro (@List.length_replicate.{0}) (And.intro (@Value.int.injEq) (And.intro (@Value.bool.injEq) (And.intro (@cells_agg) (And.intro (@cells_int) (And.intro (@cells_bool) (And.intro (@cells_sl) (And.intro (@cells_ptr) (And.intro (@Int.toNat_natCast) (@List.toList_toArray.{0}))))))))))))))))))))))))))))))))))))))))))))))))))))))))))))))))))))))))))))))))))))))))))))))))))))))))))))))))))))))))))))))))))))))))))))) := And.intro (@hO_plain) (And.intro (@hO_grd) (And.intro (@hG_some) (And.intro (@r_normal) (And.intro (@r_ret) (And.intro (@res0) (And.intro (@res1) (And.intro (@res2) (And.intro (@res3) (And.intro (@res4) (And.intro (@resC) (And.intro (@grdT_some) (And.intro (@grdQ_some) (And.intro (@binO_some) (And.intro (@binD_int) (And.intro (@binD_string) (And.intro (@binD_bool) (And.intro (@binD_pointer) (And.intro (@binD_slice) (And.intro (@binD_array) (And.intro (@binD_struct) (And.intro (@binD_iface) (And.intro (@eqO_eql) (And.intro (@eqO_neq) (And.intro (@fldAO_struct) (And.intro (@fldA_some) (And.intro (@fldO_struct) (And.intro (@fldV_some) (And.intro (@partO_t) (And.intro (@partO_f) (And.intro (@idxAO_array) (And.intro (@idxAO_slice) (And.intro (@idxO_array) (And.intro (@slO_array) (And.intro (@slO_slice) (And.intro (@bound_some) (And.intro (@bound_none) (And.intro (@convO_int) (And.intro (@ifO_pointer) (And.intro (@ifO_struct) (And.intro (@ifO_int) (And.intro (@asrO_pointer) (And.intro (@asrV_nil) (And.intro (@asrV_hit) (And.intro (@valV_go) (And.intro (@pickV_t) (And.intro (@pickV_f) (And.intro (@un_not) (And.intro (@un_neg) (And.intro (@un_xor) (And.intro (@lenO_slice) (And.intro (@lenO_string) (And.intro (@lenO_array) (And.intro (@bldO_slice) (And.intro (@parts_nil) (And.intro (@parts_cons) (And.intro (@pok_nil) (And.intro (@pok_cons) (And.intro (@init_nil) (And.intro (@init_cons) (And.intro (@d_some) (And.intro (@d_none) (And.intro (@intV_lit) (And.intro (@boolV_lit) (And.intro (@ptrV_lit) (And.intro (@slcV_lit) (And.intro (@adrV_lit) (And.intro (@aggV_lit) (And.intro (@tupV_lit) (And.intro (@grdV_u) (And.intro (@grdV_bt) (And.intro (@grdV_bf) (And.intro (@cndV_b) (And.intro (@bsplit_t) (And.intro (@bsplit_f) (And.intro (@bsplit_d) (And.intro (@bsplit_n) (And.intro (@add_lit) (And.intro (@sub_lit) (And.intro (@mul_lit) (And.intro (@quo_lit) (And.intro (@rem_lit) (And.intro (@and_lit) (And.intro (@or_lit) (And.intro (@xor_lit) (And.intro (@andNot_lit) (And.intro (@shl_lit) (And.intro (@shr_lit) (And.intro (@eql_lit) (And.intro (@neq_lit) (And.intro (@lss_lit) (And.intro (@leq_lit) (And.intro (@gtr_lit) (And.intro (@geq_lit) (And.intro (@eqb_lit) (And.intro (@eqp_lit) (And.intro (@eqs_lit) (And.intro (@Option.map_some.{0,0}) (And.intro (@Option.bind_some.{0,0}) (And.intro (@List.map_cons.{0,0}) (And.intro (@List.map_nil.{0,0}) (And.intro (@List.map_toArray.{0,0}) (And.intro (@List.getElem?_cons_zero.{0}) (And.intro (@List.getElem?_cons_succ.{0}) (And.intro (@List.getElem?_toArray.{0}) (And.intro (@Option.some.injEq.{0}) (And.intro (@exists_eq_left'.{1}) (And.intro (@not_true_eq_false) (And.intro (@not_false_eq_true) (And.intro (@false_implies) (And.intro (@Classical.not_not) (And.intro (@true_and) (And.intro (@and_true) (And.intro (@true_implies) (And.intro (@ne_eq.{1}) (And.intro (@not_false_eq_true) (And.intro (@Bool.false_eq_true) (And.intro (@Bool.not_true) (And.intro (@Bool.not_false) (And.intro (@Int.cast_ofNat_Int) (And.intro (@decide_true) (And.intro (@decide_false) (And.intro (@decide_eq_true_eq) (And.intro (@Nat.mul_one) (And.intro (@Nat.one_mul) (And.intro (@Nat.zero_add) (And.intro (@Nat.add_zero) (And.intro (@List.append_nil.{0}) (And.intro (@List.nil_append.{0}) (And.intro (@List.cons_append.{0}) (And.intro (@List.size_toArray.{0}) (And.intro (@List.length_replicate.{0}) (And.intro (@Value.int.injEq) (And.intro (@Value.bool.injEq) (And.intro (@cells_agg) (And.intro (@cells_int) (And.intro (@cells_bool) (And.intro (@cells_sl) (And.intro (@cells_ptr) (And.intro (@Int.toNat_natCast) (@List.toList_toArray.{0}))))))))))))))))))))))))))))))))))))))))))))))))))))))))))))))))))))))))))))))))))))))))))))))))))))))))))))))))))))))))))))))))))))))))))))
theorem VT : type_of% (And.intro (@Try.underlying0) (And.intro (@Try.underlying1) (And.intro (@Try.underlying2) (And.intro (@Try.underlying3) (And.intro (@Try.underlying4) (And.intro (@Try.underlying5) (And.intro (@Try.underlying6) (And.intro (@Try.underlying7) (And.intro (@Try.underlying8) (And.intro (@Try.underlying9) (And.intro (@Try.underlying10) (And.intro (@Try.underlying11) (And.intro (@Try.underlying12) (And.intro (@Try.underlying13) (And.intro (@Try.underlying14) (And.intro (@Try.underlying15) (And.intro (@Try.underlying16) (And.intro (@Try.underlying17) (And.intro (@Try.underlying18) (And.intro (@Try.underlying19) (And.intro (@Try.underlying20) (And.intro (@Try.underlying21) (And.intro (@Try.underlying22) (And.intro (@Try.underlying23) (And.intro (@Try.underlying24) (And.intro (@Try.underlying25) (And.intro (@Try.underlying26) (And.intro (@Try.underlying27) (And.intro (@Try.underlying28) (And.intro (@Try.underlying29) (And.intro (@Try.underlying30) (And.intro (@Try.underlying31) (And.intro (@Try.underlying32) (And.intro (@Try.underlying33) (And.intro (@Try.underlying34) (And.intro (@Try.underlying35) (And.intro (@Try.underlying36) (And.intro (@Try.underlying37) (And.intro (@Try.underlying38) (And.intro (@Try.underlying39) (And.intro (@Try.underlying40) (And.intro (@Try.underlying41) (And.intro (@Try.underlying42) (And.intro (@Try.underlying43) (And.intro (@Try.underlying44) (And.intro (@Try.underlying45) (And.intro (@Try.underlying46) (And.intro (@Try.underlying47) (And.intro (@Try.underlying48) (And.intro (@Try.underlying49) (And.intro (@Try.underlying50) (And.intro (@Try.underlying51) (And.intro (@Try.underlying52) (And.intro (@Try.underlying53) (And.intro (@Try.underlying54) (And.intro (@Try.underlying55) (And.intro (@Try.underlying56) (And.intro (@Try.underlying57) (And.intro (@Try.underlying58) (And.intro (@Try.underlying59) (And.intro (@Try.underlying60) (And.intro (@Try.underlying61) (And.intro (@Try.underlying62) (And.intro (@Try.underlying63) (And.intro (@Try.underlying64) (And.intro (@Try.underlying65) (And.intro (@Try.underlying66) (And.intro (@Try.underlying67) (And.intro (@Try.underlying68) (And.intro (@Try.underlying69) (And.intro (@Try.underlying70) (And.intro (@Try.underlying71) (And.intro (@c0) (And.intro (@c1) (And.intro (@c2) (And.intro (@c3) (And.intro (@c4) (And.intro (@c5) (And.intro (@c6) (And.intro (@c7) (And.intro (@c8) (And.intro (@c9) (And.intro (@c10) (And.intro (@c11) (And.intro (@c12) (And.intro (@c13) (And.intro (@c14) (And.intro (@c15) (And.intro (@c16) (And.intro (@c17) (And.intro (@c18) (And.intro (@c19) (And.intro (@c20) (And.intro (@c21) (And.intro (@c22) (And.intro (@c23) (And.intro (@c24) (And.intro (@c25) (And.intro (@c26) (And.intro (@c27) (And.intro (@c28) (And.intro (@c29) (And.intro (@c30) (And.intro (@c31) (And.intro (@c32) (And.intro (@c33) (And.intro (@c34) (And.intro (@c35) (And.intro (@c36) (And.intro (@c37) (And.intro (@c38) (And.intro (@c39) (And.intro (@c40) (And.intro (@c41) (And.intro (@c42) (And.intro (@c43) (And.intro (@c44) (And.intro (@c45) (And.intro (@c46) (And.intro (@c47) (And.intro (@c48) (And.intro (@c49) (And.intro (@c50) (And.intro (@c51) (And.intro (@c52) (And.intro (@c53) (And.intro (@c54) (And.intro (@c55) (And.intro (@c56) (And.intro (@c57) (And.intro (@c58) (And.intro (@c59) (And.intro (@c60) (And.intro (@c61) (And.intro (@c62) (And.intro (@c63) (And.intro (@c64) (And.intro (@c65) (And.intro (@c66) (And.intro (@c67) (And.intro (@c68) (And.intro (@c69) (And.intro (@c70) (And.intro (@c71) (And.intro (@z1) (And.intro (@z2) (And.intro (@z3) (And.intro (@z4) (And.intro (@z5) (And.intro (@z6) (And.intro (@z7) (And.intro (@z8) (And.intro (@z9) (And.intro (@z10) (And.intro (@z11) (And.intro (@z12) (And.intro (@z13) (And.intro (@z14) (And.intro (@z15) (And.intro (@z16) (And.intro (@z17) (And.intro (@z18) (And.intro (@z19) (And.intro (@z20) (And.intro (@z21) (And.intro (@z22) (And.intro (@z23) (And.intro (@z24) (And.intro (@z25) (And.intro (@z27) (And.intro (@z29) (And.intro (@z30) (And.intro (@z31) (And.intro (@z32) (And.intro (@z33) (And.intro (@z34) (And.intro (@z35) (And.intro (@z36) (And.intro (@z37) (And.intro (@z38) (And.intro (@z39) (And.intro (@z40) (And.intro (@z41) (And.intro (@z42) (And.intro (@z43) (And.intro (@z44) (And.intro (@z45) (And.intro (@z46) (And.intro (@z47) (And.intro (@z48) (And.intro (@z49) (And.intro (@z50) (And.intro (@z51) (And.intro (@z52) (And.intro (@z53) (And.intro (@z54) (And.intro (@z55) (And.intro (@z56) (And.intro (@z57) (And.intro (@z58) (And.intro (@z59) (And.intro (@z60) (And.intro (@z61) (And.intro (@z62) (And.intro (@z63) (And.intro (@z64) (And.intro (@z65) (And.intro (@z66) (And.intro (@z67) (And.intro (@z68) (And.intro (@z69) (And.intro (@z70) (@z71))))))))))))))))))))))))))))))))))))))))))))))))))))))))))))))))))))))))))))))))))))))))))))))))))))))))))))))))))))))))))))))))))))))))))))))))))))))))))))))))))))))))))))))))))))))))))))))))))))))))))))))))))))) := And.intro (@Try.underlying0) (And.intro (@Try.underlying1) (And.intro (@Try.underlying2) (And.intro (@Try.underlying3) (And.intro (@Try.underlying4) (And.intro (@Try.underlying5) (And.intro (@Try.underlying6) (And.intro (@Try.underlying7) (And.intro (@Try.underlying8) (And.intro (@Try.underlying9) (And.intro (@Try.underlying10) (And.intro (@Try.underlying11) (And.intro (@Try.underlying12) (And.intro (@Try.underlying13) (And.intro (@Try.underlying14) (And.intro (@Try.underlying15) (And.intro (@Try.underlying16) (And.intro (@Try.underlying17) (And.intro (@Try.underlying18) (And.intro (@Try.underlying19) (And.intro (@Try.underlying20) (And.intro (@Try.underlying21) (And.intro (@Try.underlying22) (And.intro (@Try.underlying23) (And.intro (@Try.underlying24) (And.intro (@Try.underlying25) (And.intro (@Try.underlying26) (And.intro (@Try.underlying27) (And.intro (@Try.underlying28) (And.intro (@Try.underlying29) (And.intro (@Try.underlying30) (And.intro (@Try.underlying31) (And.intro (@Try.underlying32) (And.intro (@Try.underlying33) (And.intro (@Try.underlying34) (And.intro (@Try.underlying35) (And.intro (@Try.underlying36) (And.intro (@Try.underlying37) (And.intro (@Try.underlying38) (And.intro (@Try.underlying39) (And.intro (@Try.underlying40) (And.intro (@Try.underlying41) (And.intro (@Try.underlying42) (And.intro (@Try.underlying43) (And.intro (@Try.underlying44) (And.intro (@Try.underlying45) (And.intro (@Try.underlying46) (And.intro (@Try.underlying47) (And.intro (@Try.underlying48) (And.intro (@Try.underlying49) (And.intro (@Try.underlying50) (And.intro (@Try.underlying51) (And.intro (@Try.underlying52) (And.intro (@Try.underlying53) (And.intro (@Try.underlying54) (And.intro (@Try.underlying55) (And.intro (@Try.underlying56) (And.intro (@Try.underlying57) (And.intro (@Try.underlying58) (And.intro (@Try.underlying59) (And.intro (@Try.underlying60) (And.intro (@Try.underlying61) (And.intro (@Try.underlying62) (And.intro (@Try.underlying63) (And.intro (@Try.underlying64) (And.intro (@Try.underlying65) (And.intro (@Try.underlying66) (And.intro (@Try.underlying67) (And.intro (@Try.underlying68) (And.intro (@Try.underlying69) (And.intro (@Try.underlying70) (And.intro (@Try.underlying71) (And.intro (@c0) (And.intro (@c1) (And.intro (@c2) (And.intro (@c3) (And.intro (@c4) (And.intro (@c5) (And.intro (@c6) (And.intro (@c7) (And.intro (@c8) (And.intro (@c9) (And.intro (@c10) (And.intro (@c11) (And.intro (@c12) (And.intro (@c13) (And.intro (@c14) (And.intro (@c15) (And.intro (@c16) (And.intro (@c17) (And.intro (@c18) (And.intro (@c19) (And.intro (@c20) (And.intro (@c21) (And.intro (@c22) (And.intro (@c23) (And.intro (@c24) (And.intro (@c25) (And.intro (@c26) (And.intro (@c27) (And.intro (@c28) (And.intro (@c29) (And.intro (@c30) (And.intro (@c31) (And.intro (@c32) (And.intro (@c33) (And.intro (@c34) (And.intro (@c35) (And.intro (@c36) (And.intro (@c37) (And.intro (@c38) (And.intro (@c39) (And.intro (@c40) (And.intro (@c41) (And.intro (@c42) (And.intro (@c43) (And.intro (@c44) (And.intro (@c45) (And.intro (@c46) (And.intro (@c47) (And.intro (@c48) (And.intro (@c49) (And.intro (@c50) (And.intro (@c51) (And.intro (@c52) (And.intro (@c53) (And.intro (@c54) (And.intro (@c55) (And.intro (@c56) (And.intro (@c57) (And.intro (@c58) (And.intro (@c59) (And.intro (@c60) (And.intro (@c61) (And.intro (@c62) (And.intro (@c63) (And.intro (@c64) (And.intro (@c65) (And.intro (@c66) (And.intro (@c67) (And.intro (@c68) (And.intro (@c69) (And.intro (@c70) (And.intro (@c71) (And.intro (@z1) (And.intro (@z2) (And.intro (@z3) (And.intro (@z4) (And.intro (@z5) (And.intro (@z6) (And.intro (@z7) (And.intro (@z8) (And.intro (@z9) (And.intro (@z10) (And.intro (@z11) (And.intro (@z12) (And.intro (@z13) (And.intro (@z14) (And.intro (@z15) (And.intro (@z16) (And.intro (@z17) (And.intro (@z18) (And.intro (@z19) (And.intro (@z20) (And.intro (@z21) (And.intro (@z22) (And.intro (@z23) (And.intro (@z24) (And.intro (@z25) (And.intro (@z27) (And.intro (@z29) (And.intro (@z30) (And.intro (@z31) (And.intro (@z32) (And.intro (@z33) (And.intro (@z34) (And.intro (@z35) (And.intro (@z36) (And.intro (@z37) (And.intro (@z38) (And.intro (@z39) (And.intro (@z40) (And.intro (@z41) (And.intro (@z42) (And.intro (@z43) (And.intro (@z44) (And.intro (@z45) (And.intro (@z46) (And.intro (@z47) (And.intro (@z48) (And.intro (@z49) (And.intro (@z50) (And.intro (@z51) (And.intro (@z52) (And.intro (@z53) (And.intro (@z54) (And.intro (@z55) (And.intro (@z56) (And.intro (@z57) (And.intro (@z58) (And.intro (@z59) (And.intro (@z60) (And.intro (@z61) (And.intro (@z62) (And.intro (@z63) (And.intro (@z64) (And.intro (@z65) (And.intro (@z66) (And.intro (@z67) (And.intro (@z68) (And.intro (@z69) (And.intro (@z70) (@z71))))))))))))))))))))))))))))))))))))))))))))))))))))))))))))))))))))))))))))))))))))))))))))))))))))))))))))))))))))))))))))))))))))))))))))))))))))))))))))))))))))))))))))))))))))))))))))))))))))))))))))))))))))
end Go.Proofs.Ytheojegfgcbacaa
