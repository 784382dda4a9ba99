/- Small facts on the types and the functions of this program, printed by facts.py. -/
import Derived.Test.YtmoncokklkiikaaGreatDoorP08
import Derived.Test.YtmoncokklkiikaaGreatDoorRows
set_option linter.unusedSimpArgs false
set_option linter.unusedVariables false
set_option linter.unnecessarySimpa false
namespace Go.Proofs.YtmoncokklkiikaaGreatDoor
open Rg
theorem f_mixed : Tryz.prog.follows .mixedOrders = true := by kernel_rfl
@[simp] theorem tkd_2 : tkd Tryz.prog 2 = 2 := by kernel_rfl
@[simp] theorem tun_2 : (Tryz.prog.underlying 2).isSome = true := by kernel_rfl
@[simp] theorem tagg_2 : tagg Tryz.prog 2 = some false := by kernel_rfl
@[simp] theorem tsize_2 : tsize Tryz.prog 2 = some 1 := by kernel_rfl
@[simp] theorem tzero_2 : tzero Tryz.prog 2 = some (.int .i64 0) := by kernel_rfl
@[simp] theorem tint_2 : tint Tryz.prog 2 = some .i64 := by kernel_rfl
@[simp] theorem tkd_3 : tkd Tryz.prog 3 = 2 := by kernel_rfl
@[simp] theorem tun_3 : (Tryz.prog.underlying 3).isSome = true := by kernel_rfl
@[simp] theorem tagg_3 : tagg Tryz.prog 3 = some false := by kernel_rfl
@[simp] theorem tsize_3 : tsize Tryz.prog 3 = some 1 := by kernel_rfl
@[simp] theorem tzero_3 : tzero Tryz.prog 3 = some (.int .i64 0) := by kernel_rfl
@[simp] theorem tint_3 : tint Tryz.prog 3 = some .i64 := by kernel_rfl
@[simp] theorem tkd_4 : tkd Tryz.prog 4 = 1 := by kernel_rfl
@[simp] theorem tun_4 : (Tryz.prog.underlying 4).isSome = true := by kernel_rfl
@[simp] theorem tagg_4 : tagg Tryz.prog 4 = some false := by kernel_rfl
@[simp] theorem tsize_4 : tsize Tryz.prog 4 = some 1 := by kernel_rfl
@[simp] theorem tzero_4 : tzero Tryz.prog 4 = some (.bool false) := by kernel_rfl
@[simp] theorem tkd_5 : tkd Tryz.prog 5 = 2 := by kernel_rfl
@[simp] theorem tun_5 : (Tryz.prog.underlying 5).isSome = true := by kernel_rfl
@[simp] theorem tagg_5 : tagg Tryz.prog 5 = some false := by kernel_rfl
@[simp] theorem tsize_5 : tsize Tryz.prog 5 = some 1 := by kernel_rfl
@[simp] theorem tzero_5 : tzero Tryz.prog 5 = some (.int .u8 0) := by kernel_rfl
@[simp] theorem tint_5 : tint Tryz.prog 5 = some .u8 := by kernel_rfl
@[simp] theorem tkd_6 : tkd Tryz.prog 6 = 2 := by kernel_rfl
@[simp] theorem tun_6 : (Tryz.prog.underlying 6).isSome = true := by kernel_rfl
@[simp] theorem tagg_6 : tagg Tryz.prog 6 = some false := by kernel_rfl
@[simp] theorem tsize_6 : tsize Tryz.prog 6 = some 1 := by kernel_rfl
@[simp] theorem tzero_6 : tzero Tryz.prog 6 = some (.int .u8 0) := by kernel_rfl
@[simp] theorem tint_6 : tint Tryz.prog 6 = some .u8 := by kernel_rfl
@[simp] theorem tkd_7 : tkd Tryz.prog 7 = 9 := by kernel_rfl
@[simp] theorem tun_7 : (Tryz.prog.underlying 7).isSome = true := by kernel_rfl
@[simp] theorem tagg_7 : tagg Tryz.prog 7 = some true := by kernel_rfl
@[simp] theorem tsize_7 : tsize Tryz.prog 7 = some 4 := by kernel_rfl
@[simp] theorem tzero_7 : tzero Tryz.prog 7 = some (.agg #[.int .i64 0, .int .i64 0, .bool false, .int .u8 0]) := by kernel_rfl
@[simp] theorem tsizes_7 : tsizes Tryz.prog 7 = true := by kernel_rfl
@[simp] theorem tfield_7_0 : tfield Tryz.prog 7 0 = some (0, 2) := by kernel_rfl
@[simp] theorem tplace_7_0 : aplace Tryz.prog 7 0 = some (0, 1) := by kernel_rfl
@[simp] theorem tfield_7_1 : tfield Tryz.prog 7 1 = some (1, 3) := by kernel_rfl
@[simp] theorem tplace_7_1 : aplace Tryz.prog 7 1 = some (1, 1) := by kernel_rfl
@[simp] theorem tfield_7_2 : tfield Tryz.prog 7 2 = some (2, 4) := by kernel_rfl
@[simp] theorem tplace_7_2 : aplace Tryz.prog 7 2 = some (2, 1) := by kernel_rfl
@[simp] theorem tfield_7_3 : tfield Tryz.prog 7 3 = some (3, 6) := by kernel_rfl
@[simp] theorem tplace_7_3 : aplace Tryz.prog 7 3 = some (3, 1) := by kernel_rfl
@[simp] theorem tkd_8 : tkd Tryz.prog 8 = 9 := by kernel_rfl
@[simp] theorem tun_8 : (Tryz.prog.underlying 8).isSome = true := by kernel_rfl
@[simp] theorem tagg_8 : tagg Tryz.prog 8 = some true := by kernel_rfl
@[simp] theorem tsize_8 : tsize Tryz.prog 8 = some 4 := by kernel_rfl
@[simp] theorem tzero_8 : tzero Tryz.prog 8 = some (.agg #[.int .i64 0, .int .i64 0, .bool false, .int .u8 0]) := by kernel_rfl
@[simp] theorem tsizes_8 : tsizes Tryz.prog 8 = true := by kernel_rfl
@[simp] theorem tfield_8_0 : tfield Tryz.prog 8 0 = some (0, 2) := by kernel_rfl
@[simp] theorem tplace_8_0 : aplace Tryz.prog 8 0 = some (0, 1) := by kernel_rfl
@[simp] theorem tfield_8_1 : tfield Tryz.prog 8 1 = some (1, 3) := by kernel_rfl
@[simp] theorem tplace_8_1 : aplace Tryz.prog 8 1 = some (1, 1) := by kernel_rfl
@[simp] theorem tfield_8_2 : tfield Tryz.prog 8 2 = some (2, 4) := by kernel_rfl
@[simp] theorem tplace_8_2 : aplace Tryz.prog 8 2 = some (2, 1) := by kernel_rfl
@[simp] theorem tfield_8_3 : tfield Tryz.prog 8 3 = some (3, 6) := by kernel_rfl
@[simp] theorem tplace_8_3 : aplace Tryz.prog 8 3 = some (3, 1) := by kernel_rfl
@[simp] theorem tkd_9 : tkd Tryz.prog 9 = 3 := by kernel_rfl
@[simp] theorem tun_9 : (Tryz.prog.underlying 9).isSome = true := by kernel_rfl
@[simp] theorem tagg_9 : tagg Tryz.prog 9 = some false := by kernel_rfl
@[simp] theorem tsize_9 : tsize Tryz.prog 9 = some 1 := by kernel_rfl
@[simp] theorem tzero_9 : tzero Tryz.prog 9 = some (.string ByteArray.empty) := by kernel_rfl
@[simp] theorem tkd_10 : tkd Tryz.prog 10 = 3 := by kernel_rfl
@[simp] theorem tun_10 : (Tryz.prog.underlying 10).isSome = true := by kernel_rfl
@[simp] theorem tagg_10 : tagg Tryz.prog 10 = some false := by kernel_rfl
@[simp] theorem tsize_10 : tsize Tryz.prog 10 = some 1 := by kernel_rfl
@[simp] theorem tzero_10 : tzero Tryz.prog 10 = some (.string ByteArray.empty) := by kernel_rfl
@[simp] theorem tkd_11 : tkd Tryz.prog 11 = 3 := by kernel_rfl
@[simp] theorem tun_11 : (Tryz.prog.underlying 11).isSome = true := by kernel_rfl
@[simp] theorem tagg_11 : tagg Tryz.prog 11 = some false := by kernel_rfl
@[simp] theorem tsize_11 : tsize Tryz.prog 11 = some 1 := by kernel_rfl
@[simp] theorem tzero_11 : tzero Tryz.prog 11 = some (.string ByteArray.empty) := by kernel_rfl
@[simp] theorem tkd_12 : tkd Tryz.prog 12 = 2 := by kernel_rfl
@[simp] theorem tun_12 : (Tryz.prog.underlying 12).isSome = true := by kernel_rfl
@[simp] theorem tagg_12 : tagg Tryz.prog 12 = some false := by kernel_rfl
@[simp] theorem tsize_12 : tsize Tryz.prog 12 = some 1 := by kernel_rfl
@[simp] theorem tzero_12 : tzero Tryz.prog 12 = some (.int .u64 0) := by kernel_rfl
@[simp] theorem tint_12 : tint Tryz.prog 12 = some .u64 := by kernel_rfl
@[simp] theorem tkd_13 : tkd Tryz.prog 13 = 9 := by kernel_rfl
@[simp] theorem tun_13 : (Tryz.prog.underlying 13).isSome = true := by kernel_rfl
@[simp] theorem tagg_13 : tagg Tryz.prog 13 = some true := by kernel_rfl
@[simp] theorem tsize_13 : tsize Tryz.prog 13 = some 2 := by kernel_rfl
@[simp] theorem tzero_13 : tzero Tryz.prog 13 = some (.agg #[.string ByteArray.empty, .int .u64 0]) := by kernel_rfl
@[simp] theorem tsizes_13 : tsizes Tryz.prog 13 = true := by kernel_rfl
@[simp] theorem tfield_13_0 : tfield Tryz.prog 13 0 = some (0, 9) := by kernel_rfl
@[simp] theorem tplace_13_0 : aplace Tryz.prog 13 0 = some (0, 1) := by kernel_rfl
@[simp] theorem tfield_13_1 : tfield Tryz.prog 13 1 = some (1, 12) := by kernel_rfl
@[simp] theorem tplace_13_1 : aplace Tryz.prog 13 1 = some (1, 1) := by kernel_rfl
@[simp] theorem tkd_14 : tkd Tryz.prog 14 = 9 := by kernel_rfl
@[simp] theorem tun_14 : (Tryz.prog.underlying 14).isSome = true := by kernel_rfl
@[simp] theorem tagg_14 : tagg Tryz.prog 14 = some true := by kernel_rfl
@[simp] theorem tsize_14 : tsize Tryz.prog 14 = some 2 := by kernel_rfl
@[simp] theorem tzero_14 : tzero Tryz.prog 14 = some (.agg #[.string ByteArray.empty, .int .u64 0]) := by kernel_rfl
@[simp] theorem tsizes_14 : tsizes Tryz.prog 14 = true := by kernel_rfl
@[simp] theorem tfield_14_0 : tfield Tryz.prog 14 0 = some (0, 9) := by kernel_rfl
@[simp] theorem tplace_14_0 : aplace Tryz.prog 14 0 = some (0, 1) := by kernel_rfl
@[simp] theorem tfield_14_1 : tfield Tryz.prog 14 1 = some (1, 12) := by kernel_rfl
@[simp] theorem tplace_14_1 : aplace Tryz.prog 14 1 = some (1, 1) := by kernel_rfl
@[simp] theorem tkd_15 : tkd Tryz.prog 15 = 4 := by kernel_rfl
@[simp] theorem tun_15 : (Tryz.prog.underlying 15).isSome = true := by kernel_rfl
@[simp] theorem tagg_15 : tagg Tryz.prog 15 = some false := by kernel_rfl
@[simp] theorem tsize_15 : tsize Tryz.prog 15 = some 1 := by kernel_rfl
@[simp] theorem tzero_15 : tzero Tryz.prog 15 = some (.pointer none) := by kernel_rfl
@[simp] theorem tkd_16 : tkd Tryz.prog 16 = 4 := by kernel_rfl
@[simp] theorem tun_16 : (Tryz.prog.underlying 16).isSome = true := by kernel_rfl
@[simp] theorem tagg_16 : tagg Tryz.prog 16 = some false := by kernel_rfl
@[simp] theorem tsize_16 : tsize Tryz.prog 16 = some 1 := by kernel_rfl
@[simp] theorem tzero_16 : tzero Tryz.prog 16 = some (.pointer none) := by kernel_rfl
@[simp] theorem tkd_17 : tkd Tryz.prog 17 = 4 := by kernel_rfl
@[simp] theorem tun_17 : (Tryz.prog.underlying 17).isSome = true := by kernel_rfl
@[simp] theorem tagg_17 : tagg Tryz.prog 17 = some false := by kernel_rfl
@[simp] theorem tsize_17 : tsize Tryz.prog 17 = some 1 := by kernel_rfl
@[simp] theorem tzero_17 : tzero Tryz.prog 17 = some (.pointer none) := by kernel_rfl
@[simp] theorem tkd_18 : tkd Tryz.prog 18 = 9 := by kernel_rfl
@[simp] theorem tun_18 : (Tryz.prog.underlying 18).isSome = true := by kernel_rfl
@[simp] theorem tagg_18 : tagg Tryz.prog 18 = some true := by kernel_rfl
@[simp] theorem tsize_18 : tsize Tryz.prog 18 = some 1 := by kernel_rfl
@[simp] theorem tzero_18 : tzero Tryz.prog 18 = some (.agg #[.pointer none]) := by kernel_rfl
@[simp] theorem tsizes_18 : tsizes Tryz.prog 18 = true := by kernel_rfl
@[simp] theorem tfield_18_0 : tfield Tryz.prog 18 0 = some (0, 17) := by kernel_rfl
@[simp] theorem tplace_18_0 : aplace Tryz.prog 18 0 = some (0, 1) := by kernel_rfl
@[simp] theorem tkd_19 : tkd Tryz.prog 19 = 9 := by kernel_rfl
@[simp] theorem tun_19 : (Tryz.prog.underlying 19).isSome = true := by kernel_rfl
@[simp] theorem tagg_19 : tagg Tryz.prog 19 = some true := by kernel_rfl
@[simp] theorem tsize_19 : tsize Tryz.prog 19 = some 1 := by kernel_rfl
@[simp] theorem tzero_19 : tzero Tryz.prog 19 = some (.agg #[.pointer none]) := by kernel_rfl
@[simp] theorem tsizes_19 : tsizes Tryz.prog 19 = true := by kernel_rfl
@[simp] theorem tfield_19_0 : tfield Tryz.prog 19 0 = some (0, 17) := by kernel_rfl
@[simp] theorem tplace_19_0 : aplace Tryz.prog 19 0 = some (0, 1) := by kernel_rfl
@[simp] theorem tkd_20 : tkd Tryz.prog 20 = 8 := by kernel_rfl
@[simp] theorem tun_20 : (Tryz.prog.underlying 20).isSome = true := by kernel_rfl
@[simp] theorem tagg_20 : tagg Tryz.prog 20 = some false := by kernel_rfl
@[simp] theorem tsize_20 : tsize Tryz.prog 20 = some 1 := by kernel_rfl
@[simp] theorem tzero_20 : tzero Tryz.prog 20 = some (.nilIface) := by kernel_rfl
@[simp] theorem tkd_21 : tkd Tryz.prog 21 = 2 := by kernel_rfl
@[simp] theorem tun_21 : (Tryz.prog.underlying 21).isSome = true := by kernel_rfl
@[simp] theorem tagg_21 : tagg Tryz.prog 21 = some false := by kernel_rfl
@[simp] theorem tsize_21 : tsize Tryz.prog 21 = some 1 := by kernel_rfl
@[simp] theorem tzero_21 : tzero Tryz.prog 21 = some (.int .i32 0) := by kernel_rfl
@[simp] theorem tint_21 : tint Tryz.prog 21 = some .i32 := by kernel_rfl
@[simp] theorem tkd_22 : tkd Tryz.prog 22 = 2 := by kernel_rfl
@[simp] theorem tun_22 : (Tryz.prog.underlying 22).isSome = true := by kernel_rfl
@[simp] theorem tagg_22 : tagg Tryz.prog 22 = some false := by kernel_rfl
@[simp] theorem tsize_22 : tsize Tryz.prog 22 = some 1 := by kernel_rfl
@[simp] theorem tzero_22 : tzero Tryz.prog 22 = some (.int .u64 0) := by kernel_rfl
@[simp] theorem tint_22 : tint Tryz.prog 22 = some .u64 := by kernel_rfl
@[simp] theorem tkd_23 : tkd Tryz.prog 23 = 5 := by kernel_rfl
@[simp] theorem tun_23 : (Tryz.prog.underlying 23).isSome = true := by kernel_rfl
@[simp] theorem tagg_23 : tagg Tryz.prog 23 = some false := by kernel_rfl
@[simp] theorem tsize_23 : tsize Tryz.prog 23 = some 1 := by kernel_rfl
@[simp] theorem tzero_23 : tzero Tryz.prog 23 = some (.slice none 0 0) := by kernel_rfl
@[simp] theorem telem_23 : telem Tryz.prog 23 = some 22 := by kernel_rfl
@[simp] theorem tkd_24 : tkd Tryz.prog 24 = 9 := by kernel_rfl
@[simp] theorem tun_24 : (Tryz.prog.underlying 24).isSome = true := by kernel_rfl
@[simp] theorem tagg_24 : tagg Tryz.prog 24 = some true := by kernel_rfl
@[simp] theorem tsize_24 : tsize Tryz.prog 24 = some 12 := by kernel_rfl
@[simp] theorem tzero_24 : tzero Tryz.prog 24 = some (.agg #[.int .u64 0, .string ByteArray.empty, .string ByteArray.empty, .int .i64 0, .int .i64 0, .int .i64 0, .int .i64 0, .int .i64 0, .slice none 0 0, .bool false, .int .u64 0, .int .i64 0]) := by kernel_rfl
@[simp] theorem tsizes_24 : tsizes Tryz.prog 24 = true := by kernel_rfl
@[simp] theorem tfield_24_0 : tfield Tryz.prog 24 0 = some (0, 22) := by kernel_rfl
@[simp] theorem tplace_24_0 : aplace Tryz.prog 24 0 = some (0, 1) := by kernel_rfl
@[simp] theorem tfield_24_1 : tfield Tryz.prog 24 1 = some (1, 9) := by kernel_rfl
@[simp] theorem tplace_24_1 : aplace Tryz.prog 24 1 = some (1, 1) := by kernel_rfl
@[simp] theorem tfield_24_2 : tfield Tryz.prog 24 2 = some (2, 9) := by kernel_rfl
@[simp] theorem tplace_24_2 : aplace Tryz.prog 24 2 = some (2, 1) := by kernel_rfl
@[simp] theorem tfield_24_3 : tfield Tryz.prog 24 3 = some (3, 3) := by kernel_rfl
@[simp] theorem tplace_24_3 : aplace Tryz.prog 24 3 = some (3, 1) := by kernel_rfl
@[simp] theorem tfield_24_4 : tfield Tryz.prog 24 4 = some (4, 2) := by kernel_rfl
@[simp] theorem tplace_24_4 : aplace Tryz.prog 24 4 = some (4, 1) := by kernel_rfl
@[simp] theorem tfield_24_5 : tfield Tryz.prog 24 5 = some (5, 3) := by kernel_rfl
@[simp] theorem tplace_24_5 : aplace Tryz.prog 24 5 = some (5, 1) := by kernel_rfl
@[simp] theorem tfield_24_6 : tfield Tryz.prog 24 6 = some (6, 3) := by kernel_rfl
@[simp] theorem tplace_24_6 : aplace Tryz.prog 24 6 = some (6, 1) := by kernel_rfl
@[simp] theorem tfield_24_7 : tfield Tryz.prog 24 7 = some (7, 2) := by kernel_rfl
@[simp] theorem tplace_24_7 : aplace Tryz.prog 24 7 = some (7, 1) := by kernel_rfl
@[simp] theorem tfield_24_8 : tfield Tryz.prog 24 8 = some (8, 23) := by kernel_rfl
@[simp] theorem tplace_24_8 : aplace Tryz.prog 24 8 = some (8, 1) := by kernel_rfl
@[simp] theorem tfield_24_9 : tfield Tryz.prog 24 9 = some (9, 4) := by kernel_rfl
@[simp] theorem tplace_24_9 : aplace Tryz.prog 24 9 = some (9, 1) := by kernel_rfl
@[simp] theorem tfield_24_10 : tfield Tryz.prog 24 10 = some (10, 22) := by kernel_rfl
@[simp] theorem tplace_24_10 : aplace Tryz.prog 24 10 = some (10, 1) := by kernel_rfl
@[simp] theorem tfield_24_11 : tfield Tryz.prog 24 11 = some (11, 2) := by kernel_rfl
@[simp] theorem tplace_24_11 : aplace Tryz.prog 24 11 = some (11, 1) := by kernel_rfl
@[simp] theorem tkd_25 : tkd Tryz.prog 25 = 9 := by kernel_rfl
@[simp] theorem tun_25 : (Tryz.prog.underlying 25).isSome = true := by kernel_rfl
@[simp] theorem tagg_25 : tagg Tryz.prog 25 = some true := by kernel_rfl
@[simp] theorem tsize_25 : tsize Tryz.prog 25 = some 12 := by kernel_rfl
@[simp] theorem tzero_25 : tzero Tryz.prog 25 = some (.agg #[.int .u64 0, .string ByteArray.empty, .string ByteArray.empty, .int .i64 0, .int .i64 0, .int .i64 0, .int .i64 0, .int .i64 0, .slice none 0 0, .bool false, .int .u64 0, .int .i64 0]) := by kernel_rfl
@[simp] theorem tsizes_25 : tsizes Tryz.prog 25 = true := by kernel_rfl
@[simp] theorem tfield_25_0 : tfield Tryz.prog 25 0 = some (0, 22) := by kernel_rfl
@[simp] theorem tplace_25_0 : aplace Tryz.prog 25 0 = some (0, 1) := by kernel_rfl
@[simp] theorem tfield_25_1 : tfield Tryz.prog 25 1 = some (1, 9) := by kernel_rfl
@[simp] theorem tplace_25_1 : aplace Tryz.prog 25 1 = some (1, 1) := by kernel_rfl
@[simp] theorem tfield_25_2 : tfield Tryz.prog 25 2 = some (2, 9) := by kernel_rfl
@[simp] theorem tplace_25_2 : aplace Tryz.prog 25 2 = some (2, 1) := by kernel_rfl
@[simp] theorem tfield_25_3 : tfield Tryz.prog 25 3 = some (3, 3) := by kernel_rfl
@[simp] theorem tplace_25_3 : aplace Tryz.prog 25 3 = some (3, 1) := by kernel_rfl
@[simp] theorem tfield_25_4 : tfield Tryz.prog 25 4 = some (4, 2) := by kernel_rfl
@[simp] theorem tplace_25_4 : aplace Tryz.prog 25 4 = some (4, 1) := by kernel_rfl
@[simp] theorem tfield_25_5 : tfield Tryz.prog 25 5 = some (5, 3) := by kernel_rfl
@[simp] theorem tplace_25_5 : aplace Tryz.prog 25 5 = some (5, 1) := by kernel_rfl
@[simp] theorem tfield_25_6 : tfield Tryz.prog 25 6 = some (6, 3) := by kernel_rfl
@[simp] theorem tplace_25_6 : aplace Tryz.prog 25 6 = some (6, 1) := by kernel_rfl
@[simp] theorem tfield_25_7 : tfield Tryz.prog 25 7 = some (7, 2) := by kernel_rfl
@[simp] theorem tplace_25_7 : aplace Tryz.prog 25 7 = some (7, 1) := by kernel_rfl
@[simp] theorem tfield_25_8 : tfield Tryz.prog 25 8 = some (8, 23) := by kernel_rfl
@[simp] theorem tplace_25_8 : aplace Tryz.prog 25 8 = some (8, 1) := by kernel_rfl
@[simp] theorem tfield_25_9 : tfield Tryz.prog 25 9 = some (9, 4) := by kernel_rfl
@[simp] theorem tplace_25_9 : aplace Tryz.prog 25 9 = some (9, 1) := by kernel_rfl
@[simp] theorem tfield_25_10 : tfield Tryz.prog 25 10 = some (10, 22) := by kernel_rfl
@[simp] theorem tplace_25_10 : aplace Tryz.prog 25 10 = some (10, 1) := by kernel_rfl
@[simp] theorem tfield_25_11 : tfield Tryz.prog 25 11 = some (11, 2) := by kernel_rfl
@[simp] theorem tplace_25_11 : aplace Tryz.prog 25 11 = some (11, 1) := by kernel_rfl
@[simp] theorem tkd_26 : tkd Tryz.prog 26 = 5 := by kernel_rfl
@[simp] theorem tun_26 : (Tryz.prog.underlying 26).isSome = true := by kernel_rfl
@[simp] theorem tagg_26 : tagg Tryz.prog 26 = some false := by kernel_rfl
@[simp] theorem tsize_26 : tsize Tryz.prog 26 = some 1 := by kernel_rfl
@[simp] theorem tzero_26 : tzero Tryz.prog 26 = some (.slice none 0 0) := by kernel_rfl
@[simp] theorem telem_26 : telem Tryz.prog 26 = some 5 := by kernel_rfl
@[simp] theorem tkd_29 : tkd Tryz.prog 29 = 2 := by kernel_rfl
@[simp] theorem tun_29 : (Tryz.prog.underlying 29).isSome = true := by kernel_rfl
@[simp] theorem tagg_29 : tagg Tryz.prog 29 = some false := by kernel_rfl
@[simp] theorem tsize_29 : tsize Tryz.prog 29 = some 1 := by kernel_rfl
@[simp] theorem tzero_29 : tzero Tryz.prog 29 = some (.int .i64 0) := by kernel_rfl
@[simp] theorem tint_29 : tint Tryz.prog 29 = some .i64 := by kernel_rfl
@[simp] theorem tkd_36 : tkd Tryz.prog 36 = 5 := by kernel_rfl
@[simp] theorem tun_36 : (Tryz.prog.underlying 36).isSome = true := by kernel_rfl
@[simp] theorem tagg_36 : tagg Tryz.prog 36 = some false := by kernel_rfl
@[simp] theorem tsize_36 : tsize Tryz.prog 36 = some 1 := by kernel_rfl
@[simp] theorem tzero_36 : tzero Tryz.prog 36 = some (.slice none 0 0) := by kernel_rfl
@[simp] theorem telem_36 : telem Tryz.prog 36 = some 2 := by kernel_rfl
theorem el_36 : ElemOk Tryz.prog 36 2 1 8 := ⟨by kernel_rfl, by kernel_rfl, by kernel_rfl, ⟨.int .i64 0, by kernel_rfl, by kernel_rfl⟩, by decide⟩
@[simp] theorem tkd_39 : tkd Tryz.prog 39 = 9 := by kernel_rfl
@[simp] theorem tun_39 : (Tryz.prog.underlying 39).isSome = true := by kernel_rfl
@[simp] theorem tagg_39 : tagg Tryz.prog 39 = some true := by kernel_rfl
@[simp] theorem tsize_39 : tsize Tryz.prog 39 = some 2 := by kernel_rfl
@[simp] theorem tzero_39 : tzero Tryz.prog 39 = some (.agg #[.int .u64 0, .bool false]) := by kernel_rfl
@[simp] theorem tsizes_39 : tsizes Tryz.prog 39 = true := by kernel_rfl
@[simp] theorem tfield_39_0 : tfield Tryz.prog 39 0 = some (0, 22) := by kernel_rfl
@[simp] theorem tplace_39_0 : aplace Tryz.prog 39 0 = some (0, 1) := by kernel_rfl
@[simp] theorem tfield_39_1 : tfield Tryz.prog 39 1 = some (1, 4) := by kernel_rfl
@[simp] theorem tplace_39_1 : aplace Tryz.prog 39 1 = some (1, 1) := by kernel_rfl
@[simp] theorem tkd_40 : tkd Tryz.prog 40 = 9 := by kernel_rfl
@[simp] theorem tun_40 : (Tryz.prog.underlying 40).isSome = true := by kernel_rfl
@[simp] theorem tagg_40 : tagg Tryz.prog 40 = some true := by kernel_rfl
@[simp] theorem tsize_40 : tsize Tryz.prog 40 = some 2 := by kernel_rfl
@[simp] theorem tzero_40 : tzero Tryz.prog 40 = some (.agg #[.int .u64 0, .bool false]) := by kernel_rfl
@[simp] theorem tsizes_40 : tsizes Tryz.prog 40 = true := by kernel_rfl
@[simp] theorem tfield_40_0 : tfield Tryz.prog 40 0 = some (0, 22) := by kernel_rfl
@[simp] theorem tplace_40_0 : aplace Tryz.prog 40 0 = some (0, 1) := by kernel_rfl
@[simp] theorem tfield_40_1 : tfield Tryz.prog 40 1 = some (1, 4) := by kernel_rfl
@[simp] theorem tplace_40_1 : aplace Tryz.prog 40 1 = some (1, 1) := by kernel_rfl
@[simp] theorem tkd_41 : tkd Tryz.prog 41 = 10 := by kernel_rfl
@[simp] theorem tun_41 : (Tryz.prog.underlying 41).isSome = true := by kernel_rfl
@[simp] theorem tagg_41 : tagg Tryz.prog 41 = some true := by kernel_rfl
@[simp] theorem tsize_41 : tsize Tryz.prog 41 = some 10 := by kernel_rfl
@[simp] theorem tzero_41 : tzero Tryz.prog 41 = some (.agg #[.int .u64 0, .bool false, .int .u64 0, .bool false, .int .u64 0, .bool false, .int .u64 0, .bool false, .int .u64 0, .bool false]) := by kernel_rfl
@[simp] theorem tarr_41 : tarr Tryz.prog 41 = some (5, 40) := by kernel_rfl
@[simp] theorem tsizes_41 : tsizes Tryz.prog 41 = true := by kernel_rfl
@[simp] theorem tplace_41_0 : aplace Tryz.prog 41 0 = some (0, 2) := by kernel_rfl
@[simp] theorem tplace_41_1 : aplace Tryz.prog 41 1 = some (2, 2) := by kernel_rfl
@[simp] theorem tplace_41_2 : aplace Tryz.prog 41 2 = some (4, 2) := by kernel_rfl
@[simp] theorem tplace_41_3 : aplace Tryz.prog 41 3 = some (6, 2) := by kernel_rfl
@[simp] theorem tplace_41_4 : aplace Tryz.prog 41 4 = some (8, 2) := by kernel_rfl
@[simp] theorem tkd_42 : tkd Tryz.prog 42 = 10 := by kernel_rfl
@[simp] theorem tun_42 : (Tryz.prog.underlying 42).isSome = true := by kernel_rfl
@[simp] theorem tagg_42 : tagg Tryz.prog 42 = some true := by kernel_rfl
@[simp] theorem tsize_42 : tsize Tryz.prog 42 = some 10 := by kernel_rfl
@[simp] theorem tzero_42 : tzero Tryz.prog 42 = some (.agg #[.int .u64 0, .bool false, .int .u64 0, .bool false, .int .u64 0, .bool false, .int .u64 0, .bool false, .int .u64 0, .bool false]) := by kernel_rfl
@[simp] theorem tarr_42 : tarr Tryz.prog 42 = some (5, 40) := by kernel_rfl
@[simp] theorem tsizes_42 : tsizes Tryz.prog 42 = true := by kernel_rfl
@[simp] theorem tplace_42_0 : aplace Tryz.prog 42 0 = some (0, 2) := by kernel_rfl
@[simp] theorem tplace_42_1 : aplace Tryz.prog 42 1 = some (2, 2) := by kernel_rfl
@[simp] theorem tplace_42_2 : aplace Tryz.prog 42 2 = some (4, 2) := by kernel_rfl
@[simp] theorem tplace_42_3 : aplace Tryz.prog 42 3 = some (6, 2) := by kernel_rfl
@[simp] theorem tplace_42_4 : aplace Tryz.prog 42 4 = some (8, 2) := by kernel_rfl
@[simp] theorem tkd_45 : tkd Tryz.prog 45 = 9 := by kernel_rfl
@[simp] theorem tun_45 : (Tryz.prog.underlying 45).isSome = true := by kernel_rfl
@[simp] theorem tagg_45 : tagg Tryz.prog 45 = some true := by kernel_rfl
@[simp] theorem tsize_45 : tsize Tryz.prog 45 = some 3 := by kernel_rfl
@[simp] theorem tzero_45 : tzero Tryz.prog 45 = some (.agg #[.int .i64 0, .int .i64 0, .int .i64 0]) := by kernel_rfl
@[simp] theorem tsizes_45 : tsizes Tryz.prog 45 = true := by kernel_rfl
@[simp] theorem tfield_45_0 : tfield Tryz.prog 45 0 = some (0, 3) := by kernel_rfl
@[simp] theorem tplace_45_0 : aplace Tryz.prog 45 0 = some (0, 1) := by kernel_rfl
@[simp] theorem tfield_45_1 : tfield Tryz.prog 45 1 = some (1, 3) := by kernel_rfl
@[simp] theorem tplace_45_1 : aplace Tryz.prog 45 1 = some (1, 1) := by kernel_rfl
@[simp] theorem tfield_45_2 : tfield Tryz.prog 45 2 = some (2, 3) := by kernel_rfl
@[simp] theorem tplace_45_2 : aplace Tryz.prog 45 2 = some (2, 1) := by kernel_rfl
@[simp] theorem tkd_46 : tkd Tryz.prog 46 = 9 := by kernel_rfl
@[simp] theorem tun_46 : (Tryz.prog.underlying 46).isSome = true := by kernel_rfl
@[simp] theorem tagg_46 : tagg Tryz.prog 46 = some true := by kernel_rfl
@[simp] theorem tsize_46 : tsize Tryz.prog 46 = some 3 := by kernel_rfl
@[simp] theorem tzero_46 : tzero Tryz.prog 46 = some (.agg #[.int .i64 0, .int .i64 0, .int .i64 0]) := by kernel_rfl
@[simp] theorem tsizes_46 : tsizes Tryz.prog 46 = true := by kernel_rfl
@[simp] theorem tfield_46_0 : tfield Tryz.prog 46 0 = some (0, 3) := by kernel_rfl
@[simp] theorem tplace_46_0 : aplace Tryz.prog 46 0 = some (0, 1) := by kernel_rfl
@[simp] theorem tfield_46_1 : tfield Tryz.prog 46 1 = some (1, 3) := by kernel_rfl
@[simp] theorem tplace_46_1 : aplace Tryz.prog 46 1 = some (1, 1) := by kernel_rfl
@[simp] theorem tfield_46_2 : tfield Tryz.prog 46 2 = some (2, 3) := by kernel_rfl
@[simp] theorem tplace_46_2 : aplace Tryz.prog 46 2 = some (2, 1) := by kernel_rfl
@[simp] theorem tkd_47 : tkd Tryz.prog 47 = 9 := by kernel_rfl
@[simp] theorem tun_47 : (Tryz.prog.underlying 47).isSome = true := by kernel_rfl
@[simp] theorem tagg_47 : tagg Tryz.prog 47 = some true := by kernel_rfl
@[simp] theorem tsize_47 : tsize Tryz.prog 47 = some 7 := by kernel_rfl
@[simp] theorem tzero_47 : tzero Tryz.prog 47 = some (.agg #[.int .i64 0, .int .i64 0, .int .i64 0, .int .i64 0, .int .i64 0, .int .i64 0, .int .i64 0]) := by kernel_rfl
@[simp] theorem tsizes_47 : tsizes Tryz.prog 47 = true := by kernel_rfl
@[simp] theorem tfield_47_0 : tfield Tryz.prog 47 0 = some (0, 46) := by kernel_rfl
@[simp] theorem tplace_47_0 : aplace Tryz.prog 47 0 = some (0, 3) := by kernel_rfl
@[simp] theorem tfield_47_1 : tfield Tryz.prog 47 1 = some (3, 3) := by kernel_rfl
@[simp] theorem tplace_47_1 : aplace Tryz.prog 47 1 = some (3, 1) := by kernel_rfl
@[simp] theorem tfield_47_2 : tfield Tryz.prog 47 2 = some (4, 3) := by kernel_rfl
@[simp] theorem tplace_47_2 : aplace Tryz.prog 47 2 = some (4, 1) := by kernel_rfl
@[simp] theorem tfield_47_3 : tfield Tryz.prog 47 3 = some (5, 3) := by kernel_rfl
@[simp] theorem tplace_47_3 : aplace Tryz.prog 47 3 = some (5, 1) := by kernel_rfl
@[simp] theorem tfield_47_4 : tfield Tryz.prog 47 4 = some (6, 3) := by kernel_rfl
@[simp] theorem tplace_47_4 : aplace Tryz.prog 47 4 = some (6, 1) := by kernel_rfl
@[simp] theorem tkd_48 : tkd Tryz.prog 48 = 9 := by kernel_rfl
@[simp] theorem tun_48 : (Tryz.prog.underlying 48).isSome = true := by kernel_rfl
@[simp] theorem tagg_48 : tagg Tryz.prog 48 = some true := by kernel_rfl
@[simp] theorem tsize_48 : tsize Tryz.prog 48 = some 7 := by kernel_rfl
@[simp] theorem tzero_48 : tzero Tryz.prog 48 = some (.agg #[.int .i64 0, .int .i64 0, .int .i64 0, .int .i64 0, .int .i64 0, .int .i64 0, .int .i64 0]) := by kernel_rfl
@[simp] theorem tsizes_48 : tsizes Tryz.prog 48 = true := by kernel_rfl
@[simp] theorem tfield_48_0 : tfield Tryz.prog 48 0 = some (0, 46) := by kernel_rfl
@[simp] theorem tplace_48_0 : aplace Tryz.prog 48 0 = some (0, 3) := by kernel_rfl
@[simp] theorem tfield_48_1 : tfield Tryz.prog 48 1 = some (3, 3) := by kernel_rfl
@[simp] theorem tplace_48_1 : aplace Tryz.prog 48 1 = some (3, 1) := by kernel_rfl
@[simp] theorem tfield_48_2 : tfield Tryz.prog 48 2 = some (4, 3) := by kernel_rfl
@[simp] theorem tplace_48_2 : aplace Tryz.prog 48 2 = some (4, 1) := by kernel_rfl
@[simp] theorem tfield_48_3 : tfield Tryz.prog 48 3 = some (5, 3) := by kernel_rfl
@[simp] theorem tplace_48_3 : aplace Tryz.prog 48 3 = some (5, 1) := by kernel_rfl
@[simp] theorem tfield_48_4 : tfield Tryz.prog 48 4 = some (6, 3) := by kernel_rfl
@[simp] theorem tplace_48_4 : aplace Tryz.prog 48 4 = some (6, 1) := by kernel_rfl
@[simp] theorem tkd_53 : tkd Tryz.prog 53 = 5 := by kernel_rfl
@[simp] theorem tun_53 : (Tryz.prog.underlying 53).isSome = true := by kernel_rfl
@[simp] theorem tagg_53 : tagg Tryz.prog 53 = some false := by kernel_rfl
@[simp] theorem tsize_53 : tsize Tryz.prog 53 = some 1 := by kernel_rfl
@[simp] theorem tzero_53 : tzero Tryz.prog 53 = some (.slice none 0 0) := by kernel_rfl
@[simp] theorem telem_53 : telem Tryz.prog 53 = some 69 := by kernel_rfl
@[simp] theorem tkd_54 : tkd Tryz.prog 54 = 9 := by kernel_rfl
@[simp] theorem tun_54 : (Tryz.prog.underlying 54).isSome = true := by kernel_rfl
@[simp] theorem tagg_54 : tagg Tryz.prog 54 = some true := by kernel_rfl
@[simp] theorem tsize_54 : tsize Tryz.prog 54 = some 2 := by kernel_rfl
@[simp] theorem tzero_54 : tzero Tryz.prog 54 = some (.agg #[.int .i64 0, .slice none 0 0]) := by kernel_rfl
@[simp] theorem tsizes_54 : tsizes Tryz.prog 54 = true := by kernel_rfl
@[simp] theorem tfield_54_0 : tfield Tryz.prog 54 0 = some (0, 3) := by kernel_rfl
@[simp] theorem tplace_54_0 : aplace Tryz.prog 54 0 = some (0, 1) := by kernel_rfl
@[simp] theorem tfield_54_1 : tfield Tryz.prog 54 1 = some (1, 53) := by kernel_rfl
@[simp] theorem tplace_54_1 : aplace Tryz.prog 54 1 = some (1, 1) := by kernel_rfl
@[simp] theorem tkd_55 : tkd Tryz.prog 55 = 9 := by kernel_rfl
@[simp] theorem tun_55 : (Tryz.prog.underlying 55).isSome = true := by kernel_rfl
@[simp] theorem tagg_55 : tagg Tryz.prog 55 = some true := by kernel_rfl
@[simp] theorem tsize_55 : tsize Tryz.prog 55 = some 2 := by kernel_rfl
@[simp] theorem tzero_55 : tzero Tryz.prog 55 = some (.agg #[.int .i64 0, .slice none 0 0]) := by kernel_rfl
@[simp] theorem tsizes_55 : tsizes Tryz.prog 55 = true := by kernel_rfl
@[simp] theorem tfield_55_0 : tfield Tryz.prog 55 0 = some (0, 3) := by kernel_rfl
@[simp] theorem tplace_55_0 : aplace Tryz.prog 55 0 = some (0, 1) := by kernel_rfl
@[simp] theorem tfield_55_1 : tfield Tryz.prog 55 1 = some (1, 53) := by kernel_rfl
@[simp] theorem tplace_55_1 : aplace Tryz.prog 55 1 = some (1, 1) := by kernel_rfl
@[simp] theorem tkd_59 : tkd Tryz.prog 59 = 5 := by kernel_rfl
@[simp] theorem tun_59 : (Tryz.prog.underlying 59).isSome = true := by kernel_rfl
@[simp] theorem tagg_59 : tagg Tryz.prog 59 = some false := by kernel_rfl
@[simp] theorem tsize_59 : tsize Tryz.prog 59 = some 1 := by kernel_rfl
@[simp] theorem tzero_59 : tzero Tryz.prog 59 = some (.slice none 0 0) := by kernel_rfl
@[simp] theorem telem_59 : telem Tryz.prog 59 = some 159 := by kernel_rfl
@[simp] theorem tkd_60 : tkd Tryz.prog 60 = 9 := by kernel_rfl
@[simp] theorem tun_60 : (Tryz.prog.underlying 60).isSome = true := by kernel_rfl
@[simp] theorem tagg_60 : tagg Tryz.prog 60 = some true := by kernel_rfl
@[simp] theorem tsize_60 : tsize Tryz.prog 60 = some 2 := by kernel_rfl
@[simp] theorem tzero_60 : tzero Tryz.prog 60 = some (.agg #[.int .i64 0, .slice none 0 0]) := by kernel_rfl
@[simp] theorem tsizes_60 : tsizes Tryz.prog 60 = true := by kernel_rfl
@[simp] theorem tfield_60_0 : tfield Tryz.prog 60 0 = some (0, 3) := by kernel_rfl
@[simp] theorem tplace_60_0 : aplace Tryz.prog 60 0 = some (0, 1) := by kernel_rfl
@[simp] theorem tfield_60_1 : tfield Tryz.prog 60 1 = some (1, 59) := by kernel_rfl
@[simp] theorem tplace_60_1 : aplace Tryz.prog 60 1 = some (1, 1) := by kernel_rfl
@[simp] theorem tkd_61 : tkd Tryz.prog 61 = 9 := by kernel_rfl
@[simp] theorem tun_61 : (Tryz.prog.underlying 61).isSome = true := by kernel_rfl
@[simp] theorem tagg_61 : tagg Tryz.prog 61 = some true := by kernel_rfl
@[simp] theorem tsize_61 : tsize Tryz.prog 61 = some 2 := by kernel_rfl
@[simp] theorem tzero_61 : tzero Tryz.prog 61 = some (.agg #[.int .i64 0, .slice none 0 0]) := by kernel_rfl
@[simp] theorem tsizes_61 : tsizes Tryz.prog 61 = true := by kernel_rfl
@[simp] theorem tfield_61_0 : tfield Tryz.prog 61 0 = some (0, 3) := by kernel_rfl
@[simp] theorem tplace_61_0 : aplace Tryz.prog 61 0 = some (0, 1) := by kernel_rfl
@[simp] theorem tfield_61_1 : tfield Tryz.prog 61 1 = some (1, 59) := by kernel_rfl
@[simp] theorem tplace_61_1 : aplace Tryz.prog 61 1 = some (1, 1) := by kernel_rfl
@[simp] theorem tkd_68 : tkd Tryz.prog 68 = 9 := by kernel_rfl
@[simp] theorem tun_68 : (Tryz.prog.underlying 68).isSome = true := by kernel_rfl
@[simp] theorem tagg_68 : tagg Tryz.prog 68 = some true := by kernel_rfl
@[simp] theorem tsize_68 : tsize Tryz.prog 68 = some 2 := by kernel_rfl
@[simp] theorem tzero_68 : tzero Tryz.prog 68 = some (.agg #[.int .i64 0, .int .i64 0]) := by kernel_rfl
@[simp] theorem tsizes_68 : tsizes Tryz.prog 68 = true := by kernel_rfl
@[simp] theorem tfield_68_0 : tfield Tryz.prog 68 0 = some (0, 2) := by kernel_rfl
@[simp] theorem tplace_68_0 : aplace Tryz.prog 68 0 = some (0, 1) := by kernel_rfl
@[simp] theorem tfield_68_1 : tfield Tryz.prog 68 1 = some (1, 3) := by kernel_rfl
@[simp] theorem tplace_68_1 : aplace Tryz.prog 68 1 = some (1, 1) := by kernel_rfl
@[simp] theorem tkd_69 : tkd Tryz.prog 69 = 9 := by kernel_rfl
@[simp] theorem tun_69 : (Tryz.prog.underlying 69).isSome = true := by kernel_rfl
@[simp] theorem tagg_69 : tagg Tryz.prog 69 = some true := by kernel_rfl
@[simp] theorem tsize_69 : tsize Tryz.prog 69 = some 2 := by kernel_rfl
@[simp] theorem tzero_69 : tzero Tryz.prog 69 = some (.agg #[.int .i64 0, .int .i64 0]) := by kernel_rfl
@[simp] theorem tsizes_69 : tsizes Tryz.prog 69 = true := by kernel_rfl
@[simp] theorem tfield_69_0 : tfield Tryz.prog 69 0 = some (0, 2) := by kernel_rfl
@[simp] theorem tplace_69_0 : aplace Tryz.prog 69 0 = some (0, 1) := by kernel_rfl
@[simp] theorem tfield_69_1 : tfield Tryz.prog 69 1 = some (1, 3) := by kernel_rfl
@[simp] theorem tplace_69_1 : aplace Tryz.prog 69 1 = some (1, 1) := by kernel_rfl
@[simp] theorem tkd_81 : tkd Tryz.prog 81 = 6 := by kernel_rfl
@[simp] theorem tun_81 : (Tryz.prog.underlying 81).isSome = true := by kernel_rfl
@[simp] theorem tagg_81 : tagg Tryz.prog 81 = some false := by kernel_rfl
@[simp] theorem tsize_81 : tsize Tryz.prog 81 = some 1 := by kernel_rfl
@[simp] theorem tzero_81 : tzero Tryz.prog 81 = some (.map none) := by kernel_rfl
@[simp] theorem tkd_82 : tkd Tryz.prog 82 = 9 := by kernel_rfl
@[simp] theorem tun_82 : (Tryz.prog.underlying 82).isSome = true := by kernel_rfl
@[simp] theorem tagg_82 : tagg Tryz.prog 82 = some true := by kernel_rfl
@[simp] theorem tsize_82 : tsize Tryz.prog 82 = some 0 := by kernel_rfl
@[simp] theorem tzero_82 : tzero Tryz.prog 82 = some (.agg #[]) := by kernel_rfl
@[simp] theorem tsizes_82 : tsizes Tryz.prog 82 = true := by kernel_rfl
@[simp] theorem tkd_84 : tkd Tryz.prog 84 = 7 := by kernel_rfl
@[simp] theorem tun_84 : (Tryz.prog.underlying 84).isSome = true := by kernel_rfl
@[simp] theorem tagg_84 : tagg Tryz.prog 84 = some false := by kernel_rfl
@[simp] theorem tsize_84 : tsize Tryz.prog 84 = some 1 := by kernel_rfl
@[simp] theorem tzero_84 : tzero Tryz.prog 84 = some (.nilFunc) := by kernel_rfl
@[simp] theorem tkd_89 : tkd Tryz.prog 89 = 5 := by kernel_rfl
@[simp] theorem tun_89 : (Tryz.prog.underlying 89).isSome = true := by kernel_rfl
@[simp] theorem tagg_89 : tagg Tryz.prog 89 = some false := by kernel_rfl
@[simp] theorem tsize_89 : tsize Tryz.prog 89 = some 1 := by kernel_rfl
@[simp] theorem tzero_89 : tzero Tryz.prog 89 = some (.slice none 0 0) := by kernel_rfl
@[simp] theorem telem_89 : telem Tryz.prog 89 = some 9 := by kernel_rfl
theorem el_89 : ElemOk Tryz.prog 89 9 1 16 := ⟨by kernel_rfl, by kernel_rfl, by kernel_rfl, ⟨.string ByteArray.empty, by kernel_rfl, by kernel_rfl⟩, by decide⟩
@[simp] theorem tkd_95 : tkd Tryz.prog 95 = 5 := by kernel_rfl
@[simp] theorem tun_95 : (Tryz.prog.underlying 95).isSome = true := by kernel_rfl
@[simp] theorem tagg_95 : tagg Tryz.prog 95 = some false := by kernel_rfl
@[simp] theorem tsize_95 : tsize Tryz.prog 95 = some 1 := by kernel_rfl
@[simp] theorem tzero_95 : tzero Tryz.prog 95 = some (.slice none 0 0) := by kernel_rfl
@[simp] theorem telem_95 : telem Tryz.prog 95 = some 25 := by kernel_rfl
theorem el_95 : ElemOk Tryz.prog 95 25 12 128 := ⟨by kernel_rfl, by kernel_rfl, by kernel_rfl, ⟨.agg #[.int .u64 0, .string ByteArray.empty, .string ByteArray.empty, .int .i64 0, .int .i64 0, .int .i64 0, .int .i64 0, .int .i64 0, .slice none 0 0, .bool false, .int .u64 0, .int .i64 0], by kernel_rfl, by kernel_rfl⟩, by decide⟩
@[simp] theorem tkd_97 : tkd Tryz.prog 97 = 5 := by kernel_rfl
@[simp] theorem tun_97 : (Tryz.prog.underlying 97).isSome = true := by kernel_rfl
@[simp] theorem tagg_97 : tagg Tryz.prog 97 = some false := by kernel_rfl
@[simp] theorem tsize_97 : tsize Tryz.prog 97 = some 1 := by kernel_rfl
@[simp] theorem tzero_97 : tzero Tryz.prog 97 = some (.slice none 0 0) := by kernel_rfl
@[simp] theorem telem_97 : telem Tryz.prog 97 = some 109 := by kernel_rfl
@[simp] theorem tkd_105 : tkd Tryz.prog 105 = 5 := by kernel_rfl
@[simp] theorem tun_105 : (Tryz.prog.underlying 105).isSome = true := by kernel_rfl
@[simp] theorem tagg_105 : tagg Tryz.prog 105 = some false := by kernel_rfl
@[simp] theorem tsize_105 : tsize Tryz.prog 105 = some 1 := by kernel_rfl
@[simp] theorem tzero_105 : tzero Tryz.prog 105 = some (.slice none 0 0) := by kernel_rfl
@[simp] theorem telem_105 : telem Tryz.prog 105 = some 111 := by kernel_rfl
theorem el_105 : ElemOk Tryz.prog 105 111 2 16 := ⟨by kernel_rfl, by kernel_rfl, by kernel_rfl, ⟨.agg #[.int .i64 0, .int .u64 0], by kernel_rfl, by kernel_rfl⟩, by decide⟩
@[simp] theorem tkd_106 : tkd Tryz.prog 106 = 5 := by kernel_rfl
@[simp] theorem tun_106 : (Tryz.prog.underlying 106).isSome = true := by kernel_rfl
@[simp] theorem tagg_106 : tagg Tryz.prog 106 = some false := by kernel_rfl
@[simp] theorem tsize_106 : tsize Tryz.prog 106 = some 1 := by kernel_rfl
@[simp] theorem tzero_106 : tzero Tryz.prog 106 = some (.slice none 0 0) := by kernel_rfl
@[simp] theorem telem_106 : telem Tryz.prog 106 = some 3 := by kernel_rfl
theorem el_106 : ElemOk Tryz.prog 106 3 1 8 := ⟨by kernel_rfl, by kernel_rfl, by kernel_rfl, ⟨.int .i64 0, by kernel_rfl, by kernel_rfl⟩, by decide⟩
@[simp] theorem tkd_108 : tkd Tryz.prog 108 = 9 := by kernel_rfl
@[simp] theorem tun_108 : (Tryz.prog.underlying 108).isSome = true := by kernel_rfl
@[simp] theorem tagg_108 : tagg Tryz.prog 108 = some true := by kernel_rfl
@[simp] theorem tsize_108 : tsize Tryz.prog 108 = some 5 := by kernel_rfl
@[simp] theorem tzero_108 : tzero Tryz.prog 108 = some (.agg #[.int .i64 0, .int .u64 0, .int .i64 0, .int .i64 0, .int .i64 0]) := by kernel_rfl
@[simp] theorem tsizes_108 : tsizes Tryz.prog 108 = true := by kernel_rfl
@[simp] theorem tfield_108_0 : tfield Tryz.prog 108 0 = some (0, 2) := by kernel_rfl
@[simp] theorem tplace_108_0 : aplace Tryz.prog 108 0 = some (0, 1) := by kernel_rfl
@[simp] theorem tfield_108_1 : tfield Tryz.prog 108 1 = some (1, 22) := by kernel_rfl
@[simp] theorem tplace_108_1 : aplace Tryz.prog 108 1 = some (1, 1) := by kernel_rfl
@[simp] theorem tfield_108_2 : tfield Tryz.prog 108 2 = some (2, 3) := by kernel_rfl
@[simp] theorem tplace_108_2 : aplace Tryz.prog 108 2 = some (2, 1) := by kernel_rfl
@[simp] theorem tfield_108_3 : tfield Tryz.prog 108 3 = some (3, 2) := by kernel_rfl
@[simp] theorem tplace_108_3 : aplace Tryz.prog 108 3 = some (3, 1) := by kernel_rfl
@[simp] theorem tfield_108_4 : tfield Tryz.prog 108 4 = some (4, 3) := by kernel_rfl
@[simp] theorem tplace_108_4 : aplace Tryz.prog 108 4 = some (4, 1) := by kernel_rfl
@[simp] theorem tkd_109 : tkd Tryz.prog 109 = 9 := by kernel_rfl
@[simp] theorem tun_109 : (Tryz.prog.underlying 109).isSome = true := by kernel_rfl
@[simp] theorem tagg_109 : tagg Tryz.prog 109 = some true := by kernel_rfl
@[simp] theorem tsize_109 : tsize Tryz.prog 109 = some 5 := by kernel_rfl
@[simp] theorem tzero_109 : tzero Tryz.prog 109 = some (.agg #[.int .i64 0, .int .u64 0, .int .i64 0, .int .i64 0, .int .i64 0]) := by kernel_rfl
@[simp] theorem tsizes_109 : tsizes Tryz.prog 109 = true := by kernel_rfl
@[simp] theorem tfield_109_0 : tfield Tryz.prog 109 0 = some (0, 2) := by kernel_rfl
@[simp] theorem tplace_109_0 : aplace Tryz.prog 109 0 = some (0, 1) := by kernel_rfl
@[simp] theorem tfield_109_1 : tfield Tryz.prog 109 1 = some (1, 22) := by kernel_rfl
@[simp] theorem tplace_109_1 : aplace Tryz.prog 109 1 = some (1, 1) := by kernel_rfl
@[simp] theorem tfield_109_2 : tfield Tryz.prog 109 2 = some (2, 3) := by kernel_rfl
@[simp] theorem tplace_109_2 : aplace Tryz.prog 109 2 = some (2, 1) := by kernel_rfl
@[simp] theorem tfield_109_3 : tfield Tryz.prog 109 3 = some (3, 2) := by kernel_rfl
@[simp] theorem tplace_109_3 : aplace Tryz.prog 109 3 = some (3, 1) := by kernel_rfl
@[simp] theorem tfield_109_4 : tfield Tryz.prog 109 4 = some (4, 3) := by kernel_rfl
@[simp] theorem tplace_109_4 : aplace Tryz.prog 109 4 = some (4, 1) := by kernel_rfl
@[simp] theorem tkd_110 : tkd Tryz.prog 110 = 9 := by kernel_rfl
@[simp] theorem tun_110 : (Tryz.prog.underlying 110).isSome = true := by kernel_rfl
@[simp] theorem tagg_110 : tagg Tryz.prog 110 = some true := by kernel_rfl
@[simp] theorem tsize_110 : tsize Tryz.prog 110 = some 2 := by kernel_rfl
@[simp] theorem tzero_110 : tzero Tryz.prog 110 = some (.agg #[.int .i64 0, .int .u64 0]) := by kernel_rfl
@[simp] theorem tsizes_110 : tsizes Tryz.prog 110 = true := by kernel_rfl
@[simp] theorem tfield_110_0 : tfield Tryz.prog 110 0 = some (0, 2) := by kernel_rfl
@[simp] theorem tplace_110_0 : aplace Tryz.prog 110 0 = some (0, 1) := by kernel_rfl
@[simp] theorem tfield_110_1 : tfield Tryz.prog 110 1 = some (1, 22) := by kernel_rfl
@[simp] theorem tplace_110_1 : aplace Tryz.prog 110 1 = some (1, 1) := by kernel_rfl
@[simp] theorem tkd_111 : tkd Tryz.prog 111 = 9 := by kernel_rfl
@[simp] theorem tun_111 : (Tryz.prog.underlying 111).isSome = true := by kernel_rfl
@[simp] theorem tagg_111 : tagg Tryz.prog 111 = some true := by kernel_rfl
@[simp] theorem tsize_111 : tsize Tryz.prog 111 = some 2 := by kernel_rfl
@[simp] theorem tzero_111 : tzero Tryz.prog 111 = some (.agg #[.int .i64 0, .int .u64 0]) := by kernel_rfl
@[simp] theorem tsizes_111 : tsizes Tryz.prog 111 = true := by kernel_rfl
@[simp] theorem tfield_111_0 : tfield Tryz.prog 111 0 = some (0, 2) := by kernel_rfl
@[simp] theorem tplace_111_0 : aplace Tryz.prog 111 0 = some (0, 1) := by kernel_rfl
@[simp] theorem tfield_111_1 : tfield Tryz.prog 111 1 = some (1, 22) := by kernel_rfl
@[simp] theorem tplace_111_1 : aplace Tryz.prog 111 1 = some (1, 1) := by kernel_rfl
@[simp] theorem tkd_117 : tkd Tryz.prog 117 = 7 := by kernel_rfl
@[simp] theorem tun_117 : (Tryz.prog.underlying 117).isSome = true := by kernel_rfl
@[simp] theorem tagg_117 : tagg Tryz.prog 117 = some false := by kernel_rfl
@[simp] theorem tsize_117 : tsize Tryz.prog 117 = some 1 := by kernel_rfl
@[simp] theorem tzero_117 : tzero Tryz.prog 117 = some (.nilFunc) := by kernel_rfl
@[simp] theorem tkd_159 : tkd Tryz.prog 159 = 9 := by kernel_rfl
@[simp] theorem tun_159 : (Tryz.prog.underlying 159).isSome = true := by kernel_rfl
@[simp] theorem tagg_159 : tagg Tryz.prog 159 = some true := by kernel_rfl
@[simp] theorem tsize_159 : tsize Tryz.prog 159 = some 2 := by kernel_rfl
@[simp] theorem tzero_159 : tzero Tryz.prog 159 = some (.agg #[.int .i64 0, .int .i64 0]) := by kernel_rfl
@[simp] theorem tsizes_159 : tsizes Tryz.prog 159 = true := by kernel_rfl
@[simp] theorem tfield_159_0 : tfield Tryz.prog 159 0 = some (0, 2) := by kernel_rfl
@[simp] theorem tplace_159_0 : aplace Tryz.prog 159 0 = some (0, 1) := by kernel_rfl
@[simp] theorem tfield_159_1 : tfield Tryz.prog 159 1 = some (1, 3) := by kernel_rfl
@[simp] theorem tplace_159_1 : aplace Tryz.prog 159 1 = some (1, 1) := by kernel_rfl
@[simp] theorem tkd_174 : tkd Tryz.prog 174 = 7 := by kernel_rfl
@[simp] theorem tun_174 : (Tryz.prog.underlying 174).isSome = true := by kernel_rfl
@[simp] theorem tagg_174 : tagg Tryz.prog 174 = some false := by kernel_rfl
@[simp] theorem tsize_174 : tsize Tryz.prog 174 = some 1 := by kernel_rfl
@[simp] theorem tzero_174 : tzero Tryz.prog 174 = some (.nilFunc) := by kernel_rfl
@[simp] theorem tkd_178 : tkd Tryz.prog 178 = 8 := by kernel_rfl
@[simp] theorem tun_178 : (Tryz.prog.underlying 178).isSome = true := by kernel_rfl
@[simp] theorem tagg_178 : tagg Tryz.prog 178 = some false := by kernel_rfl
@[simp] theorem tsize_178 : tsize Tryz.prog 178 = some 1 := by kernel_rfl
@[simp] theorem tzero_178 : tzero Tryz.prog 178 = some (.nilIface) := by kernel_rfl
@[simp] theorem tkd_179 : tkd Tryz.prog 179 = 8 := by kernel_rfl
@[simp] theorem tun_179 : (Tryz.prog.underlying 179).isSome = true := by kernel_rfl
@[simp] theorem tagg_179 : tagg Tryz.prog 179 = some false := by kernel_rfl
@[simp] theorem tsize_179 : tsize Tryz.prog 179 = some 1 := by kernel_rfl
@[simp] theorem tzero_179 : tzero Tryz.prog 179 = some (.nilIface) := by kernel_rfl
@[simp] theorem tkd_184 : tkd Tryz.prog 184 = 6 := by kernel_rfl
@[simp] theorem tun_184 : (Tryz.prog.underlying 184).isSome = true := by kernel_rfl
@[simp] theorem tagg_184 : tagg Tryz.prog 184 = some false := by kernel_rfl
@[simp] theorem tsize_184 : tsize Tryz.prog 184 = some 1 := by kernel_rfl
@[simp] theorem tzero_184 : tzero Tryz.prog 184 = some (.map none) := by kernel_rfl
@[simp] theorem tkd_186 : tkd Tryz.prog 186 = 5 := by kernel_rfl
@[simp] theorem tun_186 : (Tryz.prog.underlying 186).isSome = true := by kernel_rfl
@[simp] theorem tagg_186 : tagg Tryz.prog 186 = some false := by kernel_rfl
@[simp] theorem tsize_186 : tsize Tryz.prog 186 = some 1 := by kernel_rfl
@[simp] theorem tzero_186 : tzero Tryz.prog 186 = some (.slice none 0 0) := by kernel_rfl
@[simp] theorem telem_186 : telem Tryz.prog 186 = some 189 := by kernel_rfl
theorem el_186 : ElemOk Tryz.prog 186 189 5 40 := ⟨by kernel_rfl, by kernel_rfl, by kernel_rfl, ⟨.agg #[.int .i64 0, .int .u64 0, .int .i64 0, .int .i64 0, .int .i64 0], by kernel_rfl, by kernel_rfl⟩, by decide⟩
@[simp] theorem tkd_188 : tkd Tryz.prog 188 = 9 := by kernel_rfl
@[simp] theorem tun_188 : (Tryz.prog.underlying 188).isSome = true := by kernel_rfl
@[simp] theorem tagg_188 : tagg Tryz.prog 188 = some true := by kernel_rfl
@[simp] theorem tsize_188 : tsize Tryz.prog 188 = some 5 := by kernel_rfl
@[simp] theorem tzero_188 : tzero Tryz.prog 188 = some (.agg #[.int .i64 0, .int .u64 0, .int .i64 0, .int .i64 0, .int .i64 0]) := by kernel_rfl
@[simp] theorem tsizes_188 : tsizes Tryz.prog 188 = true := by kernel_rfl
@[simp] theorem tfield_188_0 : tfield Tryz.prog 188 0 = some (0, 111) := by kernel_rfl
@[simp] theorem tplace_188_0 : aplace Tryz.prog 188 0 = some (0, 2) := by kernel_rfl
@[simp] theorem tfield_188_1 : tfield Tryz.prog 188 1 = some (2, 2) := by kernel_rfl
@[simp] theorem tplace_188_1 : aplace Tryz.prog 188 1 = some (2, 1) := by kernel_rfl
@[simp] theorem tfield_188_2 : tfield Tryz.prog 188 2 = some (3, 3) := by kernel_rfl
@[simp] theorem tplace_188_2 : aplace Tryz.prog 188 2 = some (3, 1) := by kernel_rfl
@[simp] theorem tfield_188_3 : tfield Tryz.prog 188 3 = some (4, 3) := by kernel_rfl
@[simp] theorem tplace_188_3 : aplace Tryz.prog 188 3 = some (4, 1) := by kernel_rfl
@[simp] theorem tkd_189 : tkd Tryz.prog 189 = 9 := by kernel_rfl
@[simp] theorem tun_189 : (Tryz.prog.underlying 189).isSome = true := by kernel_rfl
@[simp] theorem tagg_189 : tagg Tryz.prog 189 = some true := by kernel_rfl
@[simp] theorem tsize_189 : tsize Tryz.prog 189 = some 5 := by kernel_rfl
@[simp] theorem tzero_189 : tzero Tryz.prog 189 = some (.agg #[.int .i64 0, .int .u64 0, .int .i64 0, .int .i64 0, .int .i64 0]) := by kernel_rfl
@[simp] theorem tsizes_189 : tsizes Tryz.prog 189 = true := by kernel_rfl
@[simp] theorem tfield_189_0 : tfield Tryz.prog 189 0 = some (0, 111) := by kernel_rfl
@[simp] theorem tplace_189_0 : aplace Tryz.prog 189 0 = some (0, 2) := by kernel_rfl
@[simp] theorem tfield_189_1 : tfield Tryz.prog 189 1 = some (2, 2) := by kernel_rfl
@[simp] theorem tplace_189_1 : aplace Tryz.prog 189 1 = some (2, 1) := by kernel_rfl
@[simp] theorem tfield_189_2 : tfield Tryz.prog 189 2 = some (3, 3) := by kernel_rfl
@[simp] theorem tplace_189_2 : aplace Tryz.prog 189 2 = some (3, 1) := by kernel_rfl
@[simp] theorem tfield_189_3 : tfield Tryz.prog 189 3 = some (4, 3) := by kernel_rfl
@[simp] theorem tplace_189_3 : aplace Tryz.prog 189 3 = some (4, 1) := by kernel_rfl
@[simp] theorem tkd_190 : tkd Tryz.prog 190 = 5 := by kernel_rfl
@[simp] theorem tun_190 : (Tryz.prog.underlying 190).isSome = true := by kernel_rfl
@[simp] theorem tagg_190 : tagg Tryz.prog 190 = some false := by kernel_rfl
@[simp] theorem tsize_190 : tsize Tryz.prog 190 = some 1 := by kernel_rfl
@[simp] theorem tzero_190 : tzero Tryz.prog 190 = some (.slice none 0 0) := by kernel_rfl
@[simp] theorem telem_190 : telem Tryz.prog 190 = some 4 := by kernel_rfl
@[simp] theorem tkd_192 : tkd Tryz.prog 192 = 7 := by kernel_rfl
@[simp] theorem tun_192 : (Tryz.prog.underlying 192).isSome = true := by kernel_rfl
@[simp] theorem tagg_192 : tagg Tryz.prog 192 = some false := by kernel_rfl
@[simp] theorem tsize_192 : tsize Tryz.prog 192 = some 1 := by kernel_rfl
@[simp] theorem tzero_192 : tzero Tryz.prog 192 = some (.nilFunc) := by kernel_rfl
@[simp] theorem tkd_196 : tkd Tryz.prog 196 = 5 := by kernel_rfl
@[simp] theorem tun_196 : (Tryz.prog.underlying 196).isSome = true := by kernel_rfl
@[simp] theorem tagg_196 : tagg Tryz.prog 196 = some false := by kernel_rfl
@[simp] theorem tsize_196 : tsize Tryz.prog 196 = some 1 := by kernel_rfl
@[simp] theorem tzero_196 : tzero Tryz.prog 196 = some (.slice none 0 0) := by kernel_rfl
@[simp] theorem telem_196 : telem Tryz.prog 196 = some 105 := by kernel_rfl
@[simp] theorem tkd_200 : tkd Tryz.prog 200 = 2 := by kernel_rfl
@[simp] theorem tun_200 : (Tryz.prog.underlying 200).isSome = true := by kernel_rfl
@[simp] theorem tagg_200 : tagg Tryz.prog 200 = some false := by kernel_rfl
@[simp] theorem tsize_200 : tsize Tryz.prog 200 = some 1 := by kernel_rfl
@[simp] theorem tzero_200 : tzero Tryz.prog 200 = some (.int .u64 0) := by kernel_rfl
@[simp] theorem tint_200 : tint Tryz.prog 200 = some .u64 := by kernel_rfl
@[simp] theorem tkd_201 : tkd Tryz.prog 201 = 5 := by kernel_rfl
@[simp] theorem tun_201 : (Tryz.prog.underlying 201).isSome = true := by kernel_rfl
@[simp] theorem tagg_201 : tagg Tryz.prog 201 = some false := by kernel_rfl
@[simp] theorem tsize_201 : tsize Tryz.prog 201 = some 1 := by kernel_rfl
@[simp] theorem tzero_201 : tzero Tryz.prog 201 = some (.slice none 0 0) := by kernel_rfl
@[simp] theorem telem_201 : telem Tryz.prog 201 = some 26 := by kernel_rfl
@[simp] theorem tkd_215 : tkd Tryz.prog 215 = 4 := by kernel_rfl
@[simp] theorem tun_215 : (Tryz.prog.underlying 215).isSome = true := by kernel_rfl
@[simp] theorem tagg_215 : tagg Tryz.prog 215 = some false := by kernel_rfl
@[simp] theorem tsize_215 : tsize Tryz.prog 215 = some 1 := by kernel_rfl
@[simp] theorem tzero_215 : tzero Tryz.prog 215 = some (.pointer none) := by kernel_rfl
@[simp] theorem tkd_216 : tkd Tryz.prog 216 = 9 := by kernel_rfl
@[simp] theorem tun_216 : (Tryz.prog.underlying 216).isSome = true := by kernel_rfl
@[simp] theorem tagg_216 : tagg Tryz.prog 216 = some true := by kernel_rfl
@[simp] theorem tsize_216 : tsize Tryz.prog 216 = some 2 := by kernel_rfl
@[simp] theorem tzero_216 : tzero Tryz.prog 216 = some (.agg #[.pointer none, .slice none 0 0]) := by kernel_rfl
@[simp] theorem tsizes_216 : tsizes Tryz.prog 216 = true := by kernel_rfl
@[simp] theorem tfield_216_0 : tfield Tryz.prog 216 0 = some (0, 215) := by kernel_rfl
@[simp] theorem tplace_216_0 : aplace Tryz.prog 216 0 = some (0, 1) := by kernel_rfl
@[simp] theorem tfield_216_1 : tfield Tryz.prog 216 1 = some (1, 26) := by kernel_rfl
@[simp] theorem tplace_216_1 : aplace Tryz.prog 216 1 = some (1, 1) := by kernel_rfl
@[simp] theorem tkd_217 : tkd Tryz.prog 217 = 9 := by kernel_rfl
@[simp] theorem tun_217 : (Tryz.prog.underlying 217).isSome = true := by kernel_rfl
@[simp] theorem tagg_217 : tagg Tryz.prog 217 = some true := by kernel_rfl
@[simp] theorem tsize_217 : tsize Tryz.prog 217 = some 2 := by kernel_rfl
@[simp] theorem tzero_217 : tzero Tryz.prog 217 = some (.agg #[.pointer none, .slice none 0 0]) := by kernel_rfl
@[simp] theorem tsizes_217 : tsizes Tryz.prog 217 = true := by kernel_rfl
@[simp] theorem tfield_217_0 : tfield Tryz.prog 217 0 = some (0, 215) := by kernel_rfl
@[simp] theorem tplace_217_0 : aplace Tryz.prog 217 0 = some (0, 1) := by kernel_rfl
@[simp] theorem tfield_217_1 : tfield Tryz.prog 217 1 = some (1, 26) := by kernel_rfl
@[simp] theorem tplace_217_1 : aplace Tryz.prog 217 1 = some (1, 1) := by kernel_rfl
@[simp] theorem tkd_226 : tkd Tryz.prog 226 = 5 := by kernel_rfl
@[simp] theorem tun_226 : (Tryz.prog.underlying 226).isSome = true := by kernel_rfl
@[simp] theorem tagg_226 : tagg Tryz.prog 226 = some false := by kernel_rfl
@[simp] theorem tsize_226 : tsize Tryz.prog 226 = some 1 := by kernel_rfl
@[simp] theorem tzero_226 : tzero Tryz.prog 226 = some (.slice none 0 0) := by kernel_rfl
@[simp] theorem telem_226 : telem Tryz.prog 226 = some 229 := by kernel_rfl
theorem el_226 : ElemOk Tryz.prog 226 229 24 224 := ⟨by kernel_rfl, by kernel_rfl, by kernel_rfl, ⟨.agg #[.int .u64 0, .string ByteArray.empty, .string ByteArray.empty, .int .i64 0, .int .i64 0, .int .i64 0, .int .i64 0, .int .i64 0, .slice none 0 0, .bool false, .int .u64 0, .int .i64 0, .int .u64 0, .bool false, .int .u64 0, .bool false, .int .u64 0, .bool false, .int .u64 0, .bool false, .int .u64 0, .bool false, .int .i64 0, .bool false], by kernel_rfl, by kernel_rfl⟩, by decide⟩
@[simp] theorem tkd_228 : tkd Tryz.prog 228 = 9 := by kernel_rfl
@[simp] theorem tun_228 : (Tryz.prog.underlying 228).isSome = true := by kernel_rfl
@[simp] theorem tagg_228 : tagg Tryz.prog 228 = some true := by kernel_rfl
@[simp] theorem tsize_228 : tsize Tryz.prog 228 = some 24 := by kernel_rfl
@[simp] theorem tzero_228 : tzero Tryz.prog 228 = some (.agg #[.int .u64 0, .string ByteArray.empty, .string ByteArray.empty, .int .i64 0, .int .i64 0, .int .i64 0, .int .i64 0, .int .i64 0, .slice none 0 0, .bool false, .int .u64 0, .int .i64 0, .int .u64 0, .bool false, .int .u64 0, .bool false, .int .u64 0, .bool false, .int .u64 0, .bool false, .int .u64 0, .bool false, .int .i64 0, .bool false]) := by kernel_rfl
@[simp] theorem tsizes_228 : tsizes Tryz.prog 228 = true := by kernel_rfl
@[simp] theorem tfield_228_0 : tfield Tryz.prog 228 0 = some (0, 25) := by kernel_rfl
@[simp] theorem tplace_228_0 : aplace Tryz.prog 228 0 = some (0, 12) := by kernel_rfl
@[simp] theorem tfield_228_1 : tfield Tryz.prog 228 1 = some (12, 42) := by kernel_rfl
@[simp] theorem tplace_228_1 : aplace Tryz.prog 228 1 = some (12, 10) := by kernel_rfl
@[simp] theorem tfield_228_2 : tfield Tryz.prog 228 2 = some (22, 2) := by kernel_rfl
@[simp] theorem tplace_228_2 : aplace Tryz.prog 228 2 = some (22, 1) := by kernel_rfl
@[simp] theorem tfield_228_3 : tfield Tryz.prog 228 3 = some (23, 4) := by kernel_rfl
@[simp] theorem tplace_228_3 : aplace Tryz.prog 228 3 = some (23, 1) := by kernel_rfl
@[simp] theorem tkd_229 : tkd Tryz.prog 229 = 9 := by kernel_rfl
@[simp] theorem tun_229 : (Tryz.prog.underlying 229).isSome = true := by kernel_rfl
@[simp] theorem tagg_229 : tagg Tryz.prog 229 = some true := by kernel_rfl
@[simp] theorem tsize_229 : tsize Tryz.prog 229 = some 24 := by kernel_rfl
@[simp] theorem tzero_229 : tzero Tryz.prog 229 = some (.agg #[.int .u64 0, .string ByteArray.empty, .string ByteArray.empty, .int .i64 0, .int .i64 0, .int .i64 0, .int .i64 0, .int .i64 0, .slice none 0 0, .bool false, .int .u64 0, .int .i64 0, .int .u64 0, .bool false, .int .u64 0, .bool false, .int .u64 0, .bool false, .int .u64 0, .bool false, .int .u64 0, .bool false, .int .i64 0, .bool false]) := by kernel_rfl
@[simp] theorem tsizes_229 : tsizes Tryz.prog 229 = true := by kernel_rfl
@[simp] theorem tfield_229_0 : tfield Tryz.prog 229 0 = some (0, 25) := by kernel_rfl
@[simp] theorem tplace_229_0 : aplace Tryz.prog 229 0 = some (0, 12) := by kernel_rfl
@[simp] theorem tfield_229_1 : tfield Tryz.prog 229 1 = some (12, 42) := by kernel_rfl
@[simp] theorem tplace_229_1 : aplace Tryz.prog 229 1 = some (12, 10) := by kernel_rfl
@[simp] theorem tfield_229_2 : tfield Tryz.prog 229 2 = some (22, 2) := by kernel_rfl
@[simp] theorem tplace_229_2 : aplace Tryz.prog 229 2 = some (22, 1) := by kernel_rfl
@[simp] theorem tfield_229_3 : tfield Tryz.prog 229 3 = some (23, 4) := by kernel_rfl
@[simp] theorem tplace_229_3 : aplace Tryz.prog 229 3 = some (23, 1) := by kernel_rfl
@[simp] theorem tkd_245 : tkd Tryz.prog 245 = 10 := by kernel_rfl
@[simp] theorem tun_245 : (Tryz.prog.underlying 245).isSome = true := by kernel_rfl
@[simp] theorem tagg_245 : tagg Tryz.prog 245 = some true := by kernel_rfl
@[simp] theorem tsize_245 : tsize Tryz.prog 245 = some 5 := by kernel_rfl
@[simp] theorem tzero_245 : tzero Tryz.prog 245 = some (.agg #[.int .i64 0, .int .i64 0, .int .i64 0, .int .i64 0, .int .i64 0]) := by kernel_rfl
@[simp] theorem tarr_245 : tarr Tryz.prog 245 = some (5, 3) := by kernel_rfl
@[simp] theorem tsizes_245 : tsizes Tryz.prog 245 = true := by kernel_rfl
@[simp] theorem tplace_245_0 : aplace Tryz.prog 245 0 = some (0, 1) := by kernel_rfl
@[simp] theorem tplace_245_1 : aplace Tryz.prog 245 1 = some (1, 1) := by kernel_rfl
@[simp] theorem tplace_245_2 : aplace Tryz.prog 245 2 = some (2, 1) := by kernel_rfl
@[simp] theorem tplace_245_3 : aplace Tryz.prog 245 3 = some (3, 1) := by kernel_rfl
@[simp] theorem tplace_245_4 : aplace Tryz.prog 245 4 = some (4, 1) := by kernel_rfl
@[simp] theorem tkd_246 : tkd Tryz.prog 246 = 10 := by kernel_rfl
@[simp] theorem tun_246 : (Tryz.prog.underlying 246).isSome = true := by kernel_rfl
@[simp] theorem tagg_246 : tagg Tryz.prog 246 = some true := by kernel_rfl
@[simp] theorem tsize_246 : tsize Tryz.prog 246 = some 13 := by kernel_rfl
@[simp] theorem tzero_246 : tzero Tryz.prog 246 = some (.agg #[.int .i64 0, .int .i64 0, .int .i64 0, .int .i64 0, .int .i64 0, .int .i64 0, .int .i64 0, .int .i64 0, .int .i64 0, .int .i64 0, .int .i64 0, .int .i64 0, .int .i64 0]) := by kernel_rfl
@[simp] theorem tarr_246 : tarr Tryz.prog 246 = some (13, 3) := by kernel_rfl
@[simp] theorem tsizes_246 : tsizes Tryz.prog 246 = true := by kernel_rfl
@[simp] theorem tplace_246_0 : aplace Tryz.prog 246 0 = some (0, 1) := by kernel_rfl
@[simp] theorem tplace_246_1 : aplace Tryz.prog 246 1 = some (1, 1) := by kernel_rfl
@[simp] theorem tplace_246_2 : aplace Tryz.prog 246 2 = some (2, 1) := by kernel_rfl
@[simp] theorem tplace_246_3 : aplace Tryz.prog 246 3 = some (3, 1) := by kernel_rfl
@[simp] theorem tplace_246_4 : aplace Tryz.prog 246 4 = some (4, 1) := by kernel_rfl
@[simp] theorem tplace_246_5 : aplace Tryz.prog 246 5 = some (5, 1) := by kernel_rfl
@[simp] theorem tplace_246_6 : aplace Tryz.prog 246 6 = some (6, 1) := by kernel_rfl
@[simp] theorem tplace_246_7 : aplace Tryz.prog 246 7 = some (7, 1) := by kernel_rfl
@[simp] theorem tplace_246_8 : aplace Tryz.prog 246 8 = some (8, 1) := by kernel_rfl
@[simp] theorem tplace_246_9 : aplace Tryz.prog 246 9 = some (9, 1) := by kernel_rfl
@[simp] theorem tplace_246_10 : aplace Tryz.prog 246 10 = some (10, 1) := by kernel_rfl
@[simp] theorem tplace_246_11 : aplace Tryz.prog 246 11 = some (11, 1) := by kernel_rfl
@[simp] theorem tplace_246_12 : aplace Tryz.prog 246 12 = some (12, 1) := by kernel_rfl
@[simp] theorem tkd_250 : tkd Tryz.prog 250 = 10 := by kernel_rfl
@[simp] theorem tun_250 : (Tryz.prog.underlying 250).isSome = true := by kernel_rfl
@[simp] theorem tagg_250 : tagg Tryz.prog 250 = some true := by kernel_rfl
@[simp] theorem tsize_250 : tsize Tryz.prog 250 = some 24 := by kernel_rfl
@[simp] theorem tzero_250 : tzero Tryz.prog 250 = some (.agg #[.int .u8 0, .int .u8 0, .int .u8 0, .int .u8 0, .int .u8 0, .int .u8 0, .int .u8 0, .int .u8 0, .int .u8 0, .int .u8 0, .int .u8 0, .int .u8 0, .int .u8 0, .int .u8 0, .int .u8 0, .int .u8 0, .int .u8 0, .int .u8 0, .int .u8 0, .int .u8 0, .int .u8 0, .int .u8 0, .int .u8 0, .int .u8 0]) := by kernel_rfl
@[simp] theorem tarr_250 : tarr Tryz.prog 250 = some (24, 5) := by kernel_rfl
@[simp] theorem tsizes_250 : tsizes Tryz.prog 250 = true := by kernel_rfl
@[simp] theorem tplace_250_0 : aplace Tryz.prog 250 0 = some (0, 1) := by kernel_rfl
@[simp] theorem tplace_250_1 : aplace Tryz.prog 250 1 = some (1, 1) := by kernel_rfl
@[simp] theorem tplace_250_2 : aplace Tryz.prog 250 2 = some (2, 1) := by kernel_rfl
@[simp] theorem tplace_250_3 : aplace Tryz.prog 250 3 = some (3, 1) := by kernel_rfl
@[simp] theorem tplace_250_4 : aplace Tryz.prog 250 4 = some (4, 1) := by kernel_rfl
@[simp] theorem tplace_250_5 : aplace Tryz.prog 250 5 = some (5, 1) := by kernel_rfl
@[simp] theorem tplace_250_6 : aplace Tryz.prog 250 6 = some (6, 1) := by kernel_rfl
@[simp] theorem tplace_250_7 : aplace Tryz.prog 250 7 = some (7, 1) := by kernel_rfl
@[simp] theorem tplace_250_8 : aplace Tryz.prog 250 8 = some (8, 1) := by kernel_rfl
@[simp] theorem tplace_250_9 : aplace Tryz.prog 250 9 = some (9, 1) := by kernel_rfl
@[simp] theorem tplace_250_10 : aplace Tryz.prog 250 10 = some (10, 1) := by kernel_rfl
@[simp] theorem tplace_250_11 : aplace Tryz.prog 250 11 = some (11, 1) := by kernel_rfl
@[simp] theorem tplace_250_12 : aplace Tryz.prog 250 12 = some (12, 1) := by kernel_rfl
@[simp] theorem tplace_250_13 : aplace Tryz.prog 250 13 = some (13, 1) := by kernel_rfl
@[simp] theorem tplace_250_14 : aplace Tryz.prog 250 14 = some (14, 1) := by kernel_rfl
@[simp] theorem tplace_250_15 : aplace Tryz.prog 250 15 = some (15, 1) := by kernel_rfl
@[simp] theorem tkd_254 : tkd Tryz.prog 254 = 4 := by kernel_rfl
@[simp] theorem tun_254 : (Tryz.prog.underlying 254).isSome = true := by kernel_rfl
@[simp] theorem tagg_254 : tagg Tryz.prog 254 = some false := by kernel_rfl
@[simp] theorem tsize_254 : tsize Tryz.prog 254 = some 1 := by kernel_rfl
@[simp] theorem tzero_254 : tzero Tryz.prog 254 = some (.pointer none) := by kernel_rfl
@[simp] theorem tkd_258 : tkd Tryz.prog 258 = 2 := by kernel_rfl
@[simp] theorem tun_258 : (Tryz.prog.underlying 258).isSome = true := by kernel_rfl
@[simp] theorem tagg_258 : tagg Tryz.prog 258 = some false := by kernel_rfl
@[simp] theorem tsize_258 : tsize Tryz.prog 258 = some 1 := by kernel_rfl
@[simp] theorem tzero_258 : tzero Tryz.prog 258 = some (.int .i64 0) := by kernel_rfl
@[simp] theorem tint_258 : tint Tryz.prog 258 = some .i64 := by kernel_rfl
@[simp] theorem tkd_259 : tkd Tryz.prog 259 = 4 := by kernel_rfl
@[simp] theorem tun_259 : (Tryz.prog.underlying 259).isSome = true := by kernel_rfl
@[simp] theorem tagg_259 : tagg Tryz.prog 259 = some false := by kernel_rfl
@[simp] theorem tsize_259 : tsize Tryz.prog 259 = some 1 := by kernel_rfl
@[simp] theorem tzero_259 : tzero Tryz.prog 259 = some (.pointer none) := by kernel_rfl
@[simp] theorem tkd_264 : tkd Tryz.prog 264 = 4 := by kernel_rfl
@[simp] theorem tun_264 : (Tryz.prog.underlying 264).isSome = true := by kernel_rfl
@[simp] theorem tagg_264 : tagg Tryz.prog 264 = some false := by kernel_rfl
@[simp] theorem tsize_264 : tsize Tryz.prog 264 = some 1 := by kernel_rfl
@[simp] theorem tzero_264 : tzero Tryz.prog 264 = some (.pointer none) := by kernel_rfl
@[simp] theorem tkd_267 : tkd Tryz.prog 267 = 10 := by kernel_rfl
@[simp] theorem tun_267 : (Tryz.prog.underlying 267).isSome = true := by kernel_rfl
@[simp] theorem tagg_267 : tagg Tryz.prog 267 = some true := by kernel_rfl
@[simp] theorem tsize_267 : tsize Tryz.prog 267 = some 3 := by kernel_rfl
@[simp] theorem tzero_267 : tzero Tryz.prog 267 = some (.agg #[.int .i64 0, .int .i64 0, .int .i64 0]) := by kernel_rfl
@[simp] theorem tarr_267 : tarr Tryz.prog 267 = some (3, 3) := by kernel_rfl
@[simp] theorem tsizes_267 : tsizes Tryz.prog 267 = true := by kernel_rfl
@[simp] theorem tplace_267_0 : aplace Tryz.prog 267 0 = some (0, 1) := by kernel_rfl
@[simp] theorem tplace_267_1 : aplace Tryz.prog 267 1 = some (1, 1) := by kernel_rfl
@[simp] theorem tplace_267_2 : aplace Tryz.prog 267 2 = some (2, 1) := by kernel_rfl
@[simp] theorem tkd_268 : tkd Tryz.prog 268 = 10 := by kernel_rfl
@[simp] theorem tun_268 : (Tryz.prog.underlying 268).isSome = true := by kernel_rfl
@[simp] theorem tagg_268 : tagg Tryz.prog 268 = some true := by kernel_rfl
@[simp] theorem tsize_268 : tsize Tryz.prog 268 = some 15 := by kernel_rfl
@[simp] theorem tzero_268 : tzero Tryz.prog 268 = some (.agg #[.int .i64 0, .int .i64 0, .int .i64 0, .int .i64 0, .int .i64 0, .int .i64 0, .int .i64 0, .int .i64 0, .int .i64 0, .int .i64 0, .int .i64 0, .int .i64 0, .int .i64 0, .int .i64 0, .int .i64 0]) := by kernel_rfl
@[simp] theorem tarr_268 : tarr Tryz.prog 268 = some (5, 267) := by kernel_rfl
@[simp] theorem tsizes_268 : tsizes Tryz.prog 268 = true := by kernel_rfl
@[simp] theorem tplace_268_0 : aplace Tryz.prog 268 0 = some (0, 3) := by kernel_rfl
@[simp] theorem tplace_268_1 : aplace Tryz.prog 268 1 = some (3, 3) := by kernel_rfl
@[simp] theorem tplace_268_2 : aplace Tryz.prog 268 2 = some (6, 3) := by kernel_rfl
@[simp] theorem tplace_268_3 : aplace Tryz.prog 268 3 = some (9, 3) := by kernel_rfl
@[simp] theorem tplace_268_4 : aplace Tryz.prog 268 4 = some (12, 3) := by kernel_rfl
@[simp] theorem tkd_270 : tkd Tryz.prog 270 = 10 := by kernel_rfl
@[simp] theorem tun_270 : (Tryz.prog.underlying 270).isSome = true := by kernel_rfl
@[simp] theorem tagg_270 : tagg Tryz.prog 270 = some true := by kernel_rfl
@[simp] theorem tsize_270 : tsize Tryz.prog 270 = some 13 := by kernel_rfl
@[simp] theorem tzero_270 : tzero Tryz.prog 270 = some (.agg #[.string ByteArray.empty, .string ByteArray.empty, .string ByteArray.empty, .string ByteArray.empty, .string ByteArray.empty, .string ByteArray.empty, .string ByteArray.empty, .string ByteArray.empty, .string ByteArray.empty, .string ByteArray.empty, .string ByteArray.empty, .string ByteArray.empty, .string ByteArray.empty]) := by kernel_rfl
@[simp] theorem tarr_270 : tarr Tryz.prog 270 = some (13, 9) := by kernel_rfl
@[simp] theorem tsizes_270 : tsizes Tryz.prog 270 = true := by kernel_rfl
@[simp] theorem tplace_270_0 : aplace Tryz.prog 270 0 = some (0, 1) := by kernel_rfl
@[simp] theorem tplace_270_1 : aplace Tryz.prog 270 1 = some (1, 1) := by kernel_rfl
@[simp] theorem tplace_270_2 : aplace Tryz.prog 270 2 = some (2, 1) := by kernel_rfl
@[simp] theorem tplace_270_3 : aplace Tryz.prog 270 3 = some (3, 1) := by kernel_rfl
@[simp] theorem tplace_270_4 : aplace Tryz.prog 270 4 = some (4, 1) := by kernel_rfl
@[simp] theorem tplace_270_5 : aplace Tryz.prog 270 5 = some (5, 1) := by kernel_rfl
@[simp] theorem tplace_270_6 : aplace Tryz.prog 270 6 = some (6, 1) := by kernel_rfl
@[simp] theorem tplace_270_7 : aplace Tryz.prog 270 7 = some (7, 1) := by kernel_rfl
@[simp] theorem tplace_270_8 : aplace Tryz.prog 270 8 = some (8, 1) := by kernel_rfl
@[simp] theorem tplace_270_9 : aplace Tryz.prog 270 9 = some (9, 1) := by kernel_rfl
@[simp] theorem tplace_270_10 : aplace Tryz.prog 270 10 = some (10, 1) := by kernel_rfl
@[simp] theorem tplace_270_11 : aplace Tryz.prog 270 11 = some (11, 1) := by kernel_rfl
@[simp] theorem tplace_270_12 : aplace Tryz.prog 270 12 = some (12, 1) := by kernel_rfl
@[simp] theorem tkd_271 : tkd Tryz.prog 271 = 10 := by kernel_rfl
@[simp] theorem tun_271 : (Tryz.prog.underlying 271).isSome = true := by kernel_rfl
@[simp] theorem tagg_271 : tagg Tryz.prog 271 = some true := by kernel_rfl
@[simp] theorem tsize_271 : tsize Tryz.prog 271 = some 7 := by kernel_rfl
@[simp] theorem tzero_271 : tzero Tryz.prog 271 = some (.agg #[.string ByteArray.empty, .string ByteArray.empty, .string ByteArray.empty, .string ByteArray.empty, .string ByteArray.empty, .string ByteArray.empty, .string ByteArray.empty]) := by kernel_rfl
@[simp] theorem tarr_271 : tarr Tryz.prog 271 = some (7, 9) := by kernel_rfl
@[simp] theorem tsizes_271 : tsizes Tryz.prog 271 = true := by kernel_rfl
@[simp] theorem tplace_271_0 : aplace Tryz.prog 271 0 = some (0, 1) := by kernel_rfl
@[simp] theorem tplace_271_1 : aplace Tryz.prog 271 1 = some (1, 1) := by kernel_rfl
@[simp] theorem tplace_271_2 : aplace Tryz.prog 271 2 = some (2, 1) := by kernel_rfl
@[simp] theorem tplace_271_3 : aplace Tryz.prog 271 3 = some (3, 1) := by kernel_rfl
@[simp] theorem tplace_271_4 : aplace Tryz.prog 271 4 = some (4, 1) := by kernel_rfl
@[simp] theorem tplace_271_5 : aplace Tryz.prog 271 5 = some (5, 1) := by kernel_rfl
@[simp] theorem tplace_271_6 : aplace Tryz.prog 271 6 = some (6, 1) := by kernel_rfl
@[simp] theorem tkd_275 : tkd Tryz.prog 275 = 10 := by kernel_rfl
@[simp] theorem tun_275 : (Tryz.prog.underlying 275).isSome = true := by kernel_rfl
@[simp] theorem tagg_275 : tagg Tryz.prog 275 = some true := by kernel_rfl
@[simp] theorem tsize_275 : tsize Tryz.prog 275 = some 64 := by kernel_rfl
@[simp] theorem tzero_275 : tzero Tryz.prog 275 = some (.agg #[.int .u8 0, .int .u8 0, .int .u8 0, .int .u8 0, .int .u8 0, .int .u8 0, .int .u8 0, .int .u8 0, .int .u8 0, .int .u8 0, .int .u8 0, .int .u8 0, .int .u8 0, .int .u8 0, .int .u8 0, .int .u8 0, .int .u8 0, .int .u8 0, .int .u8 0, .int .u8 0, .int .u8 0, .int .u8 0, .int .u8 0, .int .u8 0, .int .u8 0, .int .u8 0, .int .u8 0, .int .u8 0, .int .u8 0, .int .u8 0, .int .u8 0, .int .u8 0, .int .u8 0, .int .u8 0, .int .u8 0, .int .u8 0, .int .u8 0, .int .u8 0, .int .u8 0, .int .u8 0, .int .u8 0, .int .u8 0, .int .u8 0, .int .u8 0, .int .u8 0, .int .u8 0, .int .u8 0, .int .u8 0, .int .u8 0, .int .u8 0, .int .u8 0, .int .u8 0, .int .u8 0, .int .u8 0, .int .u8 0, .int .u8 0, .int .u8 0, .int .u8 0, .int .u8 0, .int .u8 0, .int .u8 0, .int .u8 0, .int .u8 0, .int .u8 0]) := by kernel_rfl
@[simp] theorem tarr_275 : tarr Tryz.prog 275 = some (64, 5) := by kernel_rfl
@[simp] theorem tsizes_275 : tsizes Tryz.prog 275 = true := by kernel_rfl
@[simp] theorem tplace_275_0 : aplace Tryz.prog 275 0 = some (0, 1) := by kernel_rfl
@[simp] theorem tplace_275_1 : aplace Tryz.prog 275 1 = some (1, 1) := by kernel_rfl
@[simp] theorem tplace_275_2 : aplace Tryz.prog 275 2 = some (2, 1) := by kernel_rfl
@[simp] theorem tplace_275_3 : aplace Tryz.prog 275 3 = some (3, 1) := by kernel_rfl
@[simp] theorem tplace_275_4 : aplace Tryz.prog 275 4 = some (4, 1) := by kernel_rfl
@[simp] theorem tplace_275_5 : aplace Tryz.prog 275 5 = some (5, 1) := by kernel_rfl
@[simp] theorem tplace_275_6 : aplace Tryz.prog 275 6 = some (6, 1) := by kernel_rfl
@[simp] theorem tplace_275_7 : aplace Tryz.prog 275 7 = some (7, 1) := by kernel_rfl
@[simp] theorem tplace_275_8 : aplace Tryz.prog 275 8 = some (8, 1) := by kernel_rfl
@[simp] theorem tplace_275_9 : aplace Tryz.prog 275 9 = some (9, 1) := by kernel_rfl
@[simp] theorem tplace_275_10 : aplace Tryz.prog 275 10 = some (10, 1) := by kernel_rfl
@[simp] theorem tplace_275_11 : aplace Tryz.prog 275 11 = some (11, 1) := by kernel_rfl
@[simp] theorem tplace_275_12 : aplace Tryz.prog 275 12 = some (12, 1) := by kernel_rfl
@[simp] theorem tplace_275_13 : aplace Tryz.prog 275 13 = some (13, 1) := by kernel_rfl
@[simp] theorem tplace_275_14 : aplace Tryz.prog 275 14 = some (14, 1) := by kernel_rfl
@[simp] theorem tplace_275_15 : aplace Tryz.prog 275 15 = some (15, 1) := by kernel_rfl
@[simp] theorem tkd_277 : tkd Tryz.prog 277 = 2 := by kernel_rfl
@[simp] theorem tun_277 : (Tryz.prog.underlying 277).isSome = true := by kernel_rfl
@[simp] theorem tagg_277 : tagg Tryz.prog 277 = some false := by kernel_rfl
@[simp] theorem tsize_277 : tsize Tryz.prog 277 = some 1 := by kernel_rfl
@[simp] theorem tzero_277 : tzero Tryz.prog 277 = some (.int .i64 0) := by kernel_rfl
@[simp] theorem tint_277 : tint Tryz.prog 277 = some .i64 := by kernel_rfl
@[simp] theorem tkd_285 : tkd Tryz.prog 285 = 2 := by kernel_rfl
@[simp] theorem tun_285 : (Tryz.prog.underlying 285).isSome = true := by kernel_rfl
@[simp] theorem tagg_285 : tagg Tryz.prog 285 = some false := by kernel_rfl
@[simp] theorem tsize_285 : tsize Tryz.prog 285 = some 1 := by kernel_rfl
@[simp] theorem tzero_285 : tzero Tryz.prog 285 = some (.int .u32 0) := by kernel_rfl
@[simp] theorem tint_285 : tint Tryz.prog 285 = some .u32 := by kernel_rfl
@[simp] theorem tkd_287 : tkd Tryz.prog 287 = 10 := by kernel_rfl
@[simp] theorem tun_287 : (Tryz.prog.underlying 287).isSome = true := by kernel_rfl
@[simp] theorem tagg_287 : tagg Tryz.prog 287 = some true := by kernel_rfl
@[simp] theorem tsize_287 : tsize Tryz.prog 287 = some 20 := by kernel_rfl
@[simp] theorem tzero_287 : tzero Tryz.prog 287 = some (.agg #[.int .u64 0, .int .u64 0, .int .u64 0, .int .u64 0, .int .u64 0, .int .u64 0, .int .u64 0, .int .u64 0, .int .u64 0, .int .u64 0, .int .u64 0, .int .u64 0, .int .u64 0, .int .u64 0, .int .u64 0, .int .u64 0, .int .u64 0, .int .u64 0, .int .u64 0, .int .u64 0]) := by kernel_rfl
@[simp] theorem tarr_287 : tarr Tryz.prog 287 = some (20, 22) := by kernel_rfl
@[simp] theorem tsizes_287 : tsizes Tryz.prog 287 = true := by kernel_rfl
@[simp] theorem tplace_287_0 : aplace Tryz.prog 287 0 = some (0, 1) := by kernel_rfl
@[simp] theorem tplace_287_1 : aplace Tryz.prog 287 1 = some (1, 1) := by kernel_rfl
@[simp] theorem tplace_287_2 : aplace Tryz.prog 287 2 = some (2, 1) := by kernel_rfl
@[simp] theorem tplace_287_3 : aplace Tryz.prog 287 3 = some (3, 1) := by kernel_rfl
@[simp] theorem tplace_287_4 : aplace Tryz.prog 287 4 = some (4, 1) := by kernel_rfl
@[simp] theorem tplace_287_5 : aplace Tryz.prog 287 5 = some (5, 1) := by kernel_rfl
@[simp] theorem tplace_287_6 : aplace Tryz.prog 287 6 = some (6, 1) := by kernel_rfl
@[simp] theorem tplace_287_7 : aplace Tryz.prog 287 7 = some (7, 1) := by kernel_rfl
@[simp] theorem tplace_287_8 : aplace Tryz.prog 287 8 = some (8, 1) := by kernel_rfl
@[simp] theorem tplace_287_9 : aplace Tryz.prog 287 9 = some (9, 1) := by kernel_rfl
@[simp] theorem tplace_287_10 : aplace Tryz.prog 287 10 = some (10, 1) := by kernel_rfl
@[simp] theorem tplace_287_11 : aplace Tryz.prog 287 11 = some (11, 1) := by kernel_rfl
@[simp] theorem tplace_287_12 : aplace Tryz.prog 287 12 = some (12, 1) := by kernel_rfl
@[simp] theorem tplace_287_13 : aplace Tryz.prog 287 13 = some (13, 1) := by kernel_rfl
@[simp] theorem tplace_287_14 : aplace Tryz.prog 287 14 = some (14, 1) := by kernel_rfl
@[simp] theorem tplace_287_15 : aplace Tryz.prog 287 15 = some (15, 1) := by kernel_rfl
@[simp] theorem tkd_288 : tkd Tryz.prog 288 = 10 := by kernel_rfl
@[simp] theorem tun_288 : (Tryz.prog.underlying 288).isSome = true := by kernel_rfl
@[simp] theorem tagg_288 : tagg Tryz.prog 288 = some true := by kernel_rfl
@[simp] theorem tsize_288 : tsize Tryz.prog 288 = some 65 := by kernel_rfl
@[simp] theorem tzero_288 : tzero Tryz.prog 288 = some (.agg #[.int .u8 0, .int .u8 0, .int .u8 0, .int .u8 0, .int .u8 0, .int .u8 0, .int .u8 0, .int .u8 0, .int .u8 0, .int .u8 0, .int .u8 0, .int .u8 0, .int .u8 0, .int .u8 0, .int .u8 0, .int .u8 0, .int .u8 0, .int .u8 0, .int .u8 0, .int .u8 0, .int .u8 0, .int .u8 0, .int .u8 0, .int .u8 0, .int .u8 0, .int .u8 0, .int .u8 0, .int .u8 0, .int .u8 0, .int .u8 0, .int .u8 0, .int .u8 0, .int .u8 0, .int .u8 0, .int .u8 0, .int .u8 0, .int .u8 0, .int .u8 0, .int .u8 0, .int .u8 0, .int .u8 0, .int .u8 0, .int .u8 0, .int .u8 0, .int .u8 0, .int .u8 0, .int .u8 0, .int .u8 0, .int .u8 0, .int .u8 0, .int .u8 0, .int .u8 0, .int .u8 0, .int .u8 0, .int .u8 0, .int .u8 0, .int .u8 0, .int .u8 0, .int .u8 0, .int .u8 0, .int .u8 0, .int .u8 0, .int .u8 0, .int .u8 0, .int .u8 0]) := by kernel_rfl
@[simp] theorem tarr_288 : tarr Tryz.prog 288 = some (65, 5) := by kernel_rfl
@[simp] theorem tsizes_288 : tsizes Tryz.prog 288 = true := by kernel_rfl
@[simp] theorem tplace_288_0 : aplace Tryz.prog 288 0 = some (0, 1) := by kernel_rfl
@[simp] theorem tplace_288_1 : aplace Tryz.prog 288 1 = some (1, 1) := by kernel_rfl
@[simp] theorem tplace_288_2 : aplace Tryz.prog 288 2 = some (2, 1) := by kernel_rfl
@[simp] theorem tplace_288_3 : aplace Tryz.prog 288 3 = some (3, 1) := by kernel_rfl
@[simp] theorem tplace_288_4 : aplace Tryz.prog 288 4 = some (4, 1) := by kernel_rfl
@[simp] theorem tplace_288_5 : aplace Tryz.prog 288 5 = some (5, 1) := by kernel_rfl
@[simp] theorem tplace_288_6 : aplace Tryz.prog 288 6 = some (6, 1) := by kernel_rfl
@[simp] theorem tplace_288_7 : aplace Tryz.prog 288 7 = some (7, 1) := by kernel_rfl
@[simp] theorem tplace_288_8 : aplace Tryz.prog 288 8 = some (8, 1) := by kernel_rfl
@[simp] theorem tplace_288_9 : aplace Tryz.prog 288 9 = some (9, 1) := by kernel_rfl
@[simp] theorem tplace_288_10 : aplace Tryz.prog 288 10 = some (10, 1) := by kernel_rfl
@[simp] theorem tplace_288_11 : aplace Tryz.prog 288 11 = some (11, 1) := by kernel_rfl
@[simp] theorem tplace_288_12 : aplace Tryz.prog 288 12 = some (12, 1) := by kernel_rfl
@[simp] theorem tplace_288_13 : aplace Tryz.prog 288 13 = some (13, 1) := by kernel_rfl
@[simp] theorem tplace_288_14 : aplace Tryz.prog 288 14 = some (14, 1) := by kernel_rfl
@[simp] theorem tplace_288_15 : aplace Tryz.prog 288 15 = some (15, 1) := by kernel_rfl
@[simp] theorem tun_289 : (Tryz.prog.underlying 289).isSome = true := by kernel_rfl
@[simp] theorem tagg_289 : tagg Tryz.prog 289 = some false := by kernel_rfl
@[simp] theorem tsize_289 : tsize Tryz.prog 289 = some 1 := by kernel_rfl
@[simp] theorem tzero_289 : tzero Tryz.prog 289 = some (.pointer none) := by kernel_rfl
@[simp] theorem tkd_293 : tkd Tryz.prog 293 = 9 := by kernel_rfl
@[simp] theorem tun_293 : (Tryz.prog.underlying 293).isSome = true := by kernel_rfl
@[simp] theorem tagg_293 : tagg Tryz.prog 293 = some true := by kernel_rfl
@[simp] theorem tsize_293 : tsize Tryz.prog 293 = some 3 := by kernel_rfl
@[simp] theorem tzero_293 : tzero Tryz.prog 293 = some (.agg #[.string ByteArray.empty, .string ByteArray.empty, .nilIface]) := by kernel_rfl
@[simp] theorem tsizes_293 : tsizes Tryz.prog 293 = true := by kernel_rfl
@[simp] theorem tfield_293_0 : tfield Tryz.prog 293 0 = some (0, 9) := by kernel_rfl
@[simp] theorem tplace_293_0 : aplace Tryz.prog 293 0 = some (0, 1) := by kernel_rfl
@[simp] theorem tfield_293_1 : tfield Tryz.prog 293 1 = some (1, 9) := by kernel_rfl
@[simp] theorem tplace_293_1 : aplace Tryz.prog 293 1 = some (1, 1) := by kernel_rfl
@[simp] theorem tfield_293_2 : tfield Tryz.prog 293 2 = some (2, 179) := by kernel_rfl
@[simp] theorem tplace_293_2 : aplace Tryz.prog 293 2 = some (2, 1) := by kernel_rfl
@[simp] theorem tkd_294 : tkd Tryz.prog 294 = 9 := by kernel_rfl
@[simp] theorem tun_294 : (Tryz.prog.underlying 294).isSome = true := by kernel_rfl
@[simp] theorem tagg_294 : tagg Tryz.prog 294 = some true := by kernel_rfl
@[simp] theorem tsize_294 : tsize Tryz.prog 294 = some 3 := by kernel_rfl
@[simp] theorem tzero_294 : tzero Tryz.prog 294 = some (.agg #[.string ByteArray.empty, .string ByteArray.empty, .nilIface]) := by kernel_rfl
@[simp] theorem tsizes_294 : tsizes Tryz.prog 294 = true := by kernel_rfl
@[simp] theorem tfield_294_0 : tfield Tryz.prog 294 0 = some (0, 9) := by kernel_rfl
@[simp] theorem tplace_294_0 : aplace Tryz.prog 294 0 = some (0, 1) := by kernel_rfl
@[simp] theorem tfield_294_1 : tfield Tryz.prog 294 1 = some (1, 9) := by kernel_rfl
@[simp] theorem tplace_294_1 : aplace Tryz.prog 294 1 = some (1, 1) := by kernel_rfl
@[simp] theorem tfield_294_2 : tfield Tryz.prog 294 2 = some (2, 179) := by kernel_rfl
@[simp] theorem tplace_294_2 : aplace Tryz.prog 294 2 = some (2, 1) := by kernel_rfl
@[simp] theorem tkd_297 : tkd Tryz.prog 297 = 10 := by kernel_rfl
@[simp] theorem tun_297 : (Tryz.prog.underlying 297).isSome = true := by kernel_rfl
@[simp] theorem tagg_297 : tagg Tryz.prog 297 = some true := by kernel_rfl
@[simp] theorem tsize_297 : tsize Tryz.prog 297 = some 256 := by kernel_rfl
@[simp] theorem tzero_297 : tzero Tryz.prog 297 = some (.agg #[.bool false, .bool false, .bool false, .bool false, .bool false, .bool false, .bool false, .bool false, .bool false, .bool false, .bool false, .bool false, .bool false, .bool false, .bool false, .bool false, .bool false, .bool false, .bool false, .bool false, .bool false, .bool false, .bool false, .bool false, .bool false, .bool false, .bool false, .bool false, .bool false, .bool false, .bool false, .bool false, .bool false, .bool false, .bool false, .bool false, .bool false, .bool false, .bool false, .bool false, .bool false, .bool false, .bool false, .bool false, .bool false, .bool false, .bool false, .bool false, .bool false, .bool false, .bool false, .bool false, .bool false, .bool false, .bool false, .bool false, .bool false, .bool false, .bool false, .bool false, .bool false, .bool false, .bool false, .bool false, .bool false, .bool false, .bool false, .bool false, .bool false, .bool false, .bool false, .bool false, .bool false, .bool false, .bool false, .bool false, .bool false, .bool false, .bool false, .bool false, .bool false, .bool false, .bool false, .bool false, .bool false, .bool false, .bool false, .bool false, .bool false, .bool false, .bool false, .bool false, .bool false, .bool false, .bool false, .bool false, .bool false, .bool false, .bool false, .bool false, .bool false, .bool false, .bool false, .bool false, .bool false, .bool false, .bool false, .bool false, .bool false, .bool false, .bool false, .bool false, .bool false, .bool false, .bool false, .bool false, .bool false, .bool false, .bool false, .bool false, .bool false, .bool false, .bool false, .bool false, .bool false, .bool false, .bool false, .bool false, .bool false, .bool false, .bool false, .bool false, .bool false, .bool false, .bool false, .bool false, .bool false, .bool false, .bool false, .bool false, .bool false, .bool false, .bool false, .bool false, .bool false, .bool false, .bool false, .bool false, .bool false, .bool false, .bool false, .bool false, .bool false, .bool false, .bool false, .bool false, .bool false, .bool false, .bool false, .bool false, .bool false, .bool false, .bool false, .bool false, .bool false, .bool false, .bool false, .bool false, .bool false, .bool false, .bool false, .bool false, .bool false, .bool false, .bool false, .bool false, .bool false, .bool false, .bool false, .bool false, .bool false, .bool false, .bool false, .bool false, .bool false, .bool false, .bool false, .bool false, .bool false, .bool false, .bool false, .bool false, .bool false, .bool false, .bool false, .bool false, .bool false, .bool false, .bool false, .bool false, .bool false, .bool false, .bool false, .bool false, .bool false, .bool false, .bool false, .bool false, .bool false, .bool false, .bool false, .bool false, .bool false, .bool false, .bool false, .bool false, .bool false, .bool false, .bool false, .bool false, .bool false, .bool false, .bool false, .bool false, .bool false, .bool false, .bool false, .bool false, .bool false, .bool false, .bool false, .bool false, .bool false, .bool false, .bool false, .bool false, .bool false, .bool false, .bool false, .bool false, .bool false, .bool false, .bool false, .bool false, .bool false, .bool false, .bool false, .bool false, .bool false, .bool false, .bool false, .bool false, .bool false, .bool false, .bool false, .bool false]) := by kernel_rfl
@[simp] theorem tarr_297 : tarr Tryz.prog 297 = some (256, 4) := by kernel_rfl
@[simp] theorem tsizes_297 : tsizes Tryz.prog 297 = true := by kernel_rfl
@[simp] theorem tplace_297_0 : aplace Tryz.prog 297 0 = some (0, 1) := by kernel_rfl
@[simp] theorem tplace_297_1 : aplace Tryz.prog 297 1 = some (1, 1) := by kernel_rfl
@[simp] theorem tplace_297_2 : aplace Tryz.prog 297 2 = some (2, 1) := by kernel_rfl
@[simp] theorem tplace_297_3 : aplace Tryz.prog 297 3 = some (3, 1) := by kernel_rfl
@[simp] theorem tplace_297_4 : aplace Tryz.prog 297 4 = some (4, 1) := by kernel_rfl
@[simp] theorem tplace_297_5 : aplace Tryz.prog 297 5 = some (5, 1) := by kernel_rfl
@[simp] theorem tplace_297_6 : aplace Tryz.prog 297 6 = some (6, 1) := by kernel_rfl
@[simp] theorem tplace_297_7 : aplace Tryz.prog 297 7 = some (7, 1) := by kernel_rfl
@[simp] theorem tplace_297_8 : aplace Tryz.prog 297 8 = some (8, 1) := by kernel_rfl
@[simp] theorem tplace_297_9 : aplace Tryz.prog 297 9 = some (9, 1) := by kernel_rfl
@[simp] theorem tplace_297_10 : aplace Tryz.prog 297 10 = some (10, 1) := by kernel_rfl
@[simp] theorem tplace_297_11 : aplace Tryz.prog 297 11 = some (11, 1) := by kernel_rfl
@[simp] theorem tplace_297_12 : aplace Tryz.prog 297 12 = some (12, 1) := by kernel_rfl
@[simp] theorem tplace_297_13 : aplace Tryz.prog 297 13 = some (13, 1) := by kernel_rfl
@[simp] theorem tplace_297_14 : aplace Tryz.prog 297 14 = some (14, 1) := by kernel_rfl
@[simp] theorem tplace_297_15 : aplace Tryz.prog 297 15 = some (15, 1) := by kernel_rfl
@[simp] theorem tkd_298 : tkd Tryz.prog 298 = 10 := by kernel_rfl
@[simp] theorem tun_298 : (Tryz.prog.underlying 298).isSome = true := by kernel_rfl
@[simp] theorem tagg_298 : tagg Tryz.prog 298 = some true := by kernel_rfl
@[simp] theorem tsize_298 : tsize Tryz.prog 298 = some 256 := by kernel_rfl
@[simp] theorem tzero_298 : tzero Tryz.prog 298 = some (.agg #[.bool false, .bool false, .bool false, .bool false, .bool false, .bool false, .bool false, .bool false, .bool false, .bool false, .bool false, .bool false, .bool false, .bool false, .bool false, .bool false, .bool false, .bool false, .bool false, .bool false, .bool false, .bool false, .bool false, .bool false, .bool false, .bool false, .bool false, .bool false, .bool false, .bool false, .bool false, .bool false, .bool false, .bool false, .bool false, .bool false, .bool false, .bool false, .bool false, .bool false, .bool false, .bool false, .bool false, .bool false, .bool false, .bool false, .bool false, .bool false, .bool false, .bool false, .bool false, .bool false, .bool false, .bool false, .bool false, .bool false, .bool false, .bool false, .bool false, .bool false, .bool false, .bool false, .bool false, .bool false, .bool false, .bool false, .bool false, .bool false, .bool false, .bool false, .bool false, .bool false, .bool false, .bool false, .bool false, .bool false, .bool false, .bool false, .bool false, .bool false, .bool false, .bool false, .bool false, .bool false, .bool false, .bool false, .bool false, .bool false, .bool false, .bool false, .bool false, .bool false, .bool false, .bool false, .bool false, .bool false, .bool false, .bool false, .bool false, .bool false, .bool false, .bool false, .bool false, .bool false, .bool false, .bool false, .bool false, .bool false, .bool false, .bool false, .bool false, .bool false, .bool false, .bool false, .bool false, .bool false, .bool false, .bool false, .bool false, .bool false, .bool false, .bool false, .bool false, .bool false, .bool false, .bool false, .bool false, .bool false, .bool false, .bool false, .bool false, .bool false, .bool false, .bool false, .bool false, .bool false, .bool false, .bool false, .bool false, .bool false, .bool false, .bool false, .bool false, .bool false, .bool false, .bool false, .bool false, .bool false, .bool false, .bool false, .bool false, .bool false, .bool false, .bool false, .bool false, .bool false, .bool false, .bool false, .bool false, .bool false, .bool false, .bool false, .bool false, .bool false, .bool false, .bool false, .bool false, .bool false, .bool false, .bool false, .bool false, .bool false, .bool false, .bool false, .bool false, .bool false, .bool false, .bool false, .bool false, .bool false, .bool false, .bool false, .bool false, .bool false, .bool false, .bool false, .bool false, .bool false, .bool false, .bool false, .bool false, .bool false, .bool false, .bool false, .bool false, .bool false, .bool false, .bool false, .bool false, .bool false, .bool false, .bool false, .bool false, .bool false, .bool false, .bool false, .bool false, .bool false, .bool false, .bool false, .bool false, .bool false, .bool false, .bool false, .bool false, .bool false, .bool false, .bool false, .bool false, .bool false, .bool false, .bool false, .bool false, .bool false, .bool false, .bool false, .bool false, .bool false, .bool false, .bool false, .bool false, .bool false, .bool false, .bool false, .bool false, .bool false, .bool false, .bool false, .bool false, .bool false, .bool false, .bool false, .bool false, .bool false, .bool false, .bool false, .bool false, .bool false, .bool false, .bool false, .bool false, .bool false, .bool false, .bool false, .bool false, .bool false]) := by kernel_rfl
@[simp] theorem tarr_298 : tarr Tryz.prog 298 = some (256, 4) := by kernel_rfl
@[simp] theorem tsizes_298 : tsizes Tryz.prog 298 = true := by kernel_rfl
@[simp] theorem tplace_298_0 : aplace Tryz.prog 298 0 = some (0, 1) := by kernel_rfl
@[simp] theorem tplace_298_1 : aplace Tryz.prog 298 1 = some (1, 1) := by kernel_rfl
@[simp] theorem tplace_298_2 : aplace Tryz.prog 298 2 = some (2, 1) := by kernel_rfl
@[simp] theorem tplace_298_3 : aplace Tryz.prog 298 3 = some (3, 1) := by kernel_rfl
@[simp] theorem tplace_298_4 : aplace Tryz.prog 298 4 = some (4, 1) := by kernel_rfl
@[simp] theorem tplace_298_5 : aplace Tryz.prog 298 5 = some (5, 1) := by kernel_rfl
@[simp] theorem tplace_298_6 : aplace Tryz.prog 298 6 = some (6, 1) := by kernel_rfl
@[simp] theorem tplace_298_7 : aplace Tryz.prog 298 7 = some (7, 1) := by kernel_rfl
@[simp] theorem tplace_298_8 : aplace Tryz.prog 298 8 = some (8, 1) := by kernel_rfl
@[simp] theorem tplace_298_9 : aplace Tryz.prog 298 9 = some (9, 1) := by kernel_rfl
@[simp] theorem tplace_298_10 : aplace Tryz.prog 298 10 = some (10, 1) := by kernel_rfl
@[simp] theorem tplace_298_11 : aplace Tryz.prog 298 11 = some (11, 1) := by kernel_rfl
@[simp] theorem tplace_298_12 : aplace Tryz.prog 298 12 = some (12, 1) := by kernel_rfl
@[simp] theorem tplace_298_13 : aplace Tryz.prog 298 13 = some (13, 1) := by kernel_rfl
@[simp] theorem tplace_298_14 : aplace Tryz.prog 298 14 = some (14, 1) := by kernel_rfl
@[simp] theorem tplace_298_15 : aplace Tryz.prog 298 15 = some (15, 1) := by kernel_rfl
@[simp] theorem tkd_302 : tkd Tryz.prog 302 = 4 := by kernel_rfl
@[simp] theorem tun_302 : (Tryz.prog.underlying 302).isSome = true := by kernel_rfl
@[simp] theorem tagg_302 : tagg Tryz.prog 302 = some false := by kernel_rfl
@[simp] theorem tsize_302 : tsize Tryz.prog 302 = some 1 := by kernel_rfl
@[simp] theorem tzero_302 : tzero Tryz.prog 302 = some (.pointer none) := by kernel_rfl
@[simp] theorem tkd_306 : tkd Tryz.prog 306 = 2 := by kernel_rfl
@[simp] theorem tun_306 : (Tryz.prog.underlying 306).isSome = true := by kernel_rfl
@[simp] theorem tagg_306 : tagg Tryz.prog 306 = some false := by kernel_rfl
@[simp] theorem tsize_306 : tsize Tryz.prog 306 = some 1 := by kernel_rfl
@[simp] theorem tzero_306 : tzero Tryz.prog 306 = some (.int .u64 0) := by kernel_rfl
@[simp] theorem tint_306 : tint Tryz.prog 306 = some .u64 := by kernel_rfl
@[simp] theorem tkd_310 : tkd Tryz.prog 310 = 4 := by kernel_rfl
@[simp] theorem tun_310 : (Tryz.prog.underlying 310).isSome = true := by kernel_rfl
@[simp] theorem tagg_310 : tagg Tryz.prog 310 = some false := by kernel_rfl
@[simp] theorem tsize_310 : tsize Tryz.prog 310 = some 1 := by kernel_rfl
@[simp] theorem tzero_310 : tzero Tryz.prog 310 = some (.pointer none) := by kernel_rfl
@[simp] theorem tkd_312 : tkd Tryz.prog 312 = 10 := by kernel_rfl
@[simp] theorem tun_312 : (Tryz.prog.underlying 312).isSome = true := by kernel_rfl
@[simp] theorem tagg_312 : tagg Tryz.prog 312 = some true := by kernel_rfl
@[simp] theorem tsize_312 : tsize Tryz.prog 312 = some 256 := by kernel_rfl
@[simp] theorem tzero_312 : tzero Tryz.prog 312 = some (.agg #[.int .u8 0, .int .u8 0, .int .u8 0, .int .u8 0, .int .u8 0, .int .u8 0, .int .u8 0, .int .u8 0, .int .u8 0, .int .u8 0, .int .u8 0, .int .u8 0, .int .u8 0, .int .u8 0, .int .u8 0, .int .u8 0, .int .u8 0, .int .u8 0, .int .u8 0, .int .u8 0, .int .u8 0, .int .u8 0, .int .u8 0, .int .u8 0, .int .u8 0, .int .u8 0, .int .u8 0, .int .u8 0, .int .u8 0, .int .u8 0, .int .u8 0, .int .u8 0, .int .u8 0, .int .u8 0, .int .u8 0, .int .u8 0, .int .u8 0, .int .u8 0, .int .u8 0, .int .u8 0, .int .u8 0, .int .u8 0, .int .u8 0, .int .u8 0, .int .u8 0, .int .u8 0, .int .u8 0, .int .u8 0, .int .u8 0, .int .u8 0, .int .u8 0, .int .u8 0, .int .u8 0, .int .u8 0, .int .u8 0, .int .u8 0, .int .u8 0, .int .u8 0, .int .u8 0, .int .u8 0, .int .u8 0, .int .u8 0, .int .u8 0, .int .u8 0, .int .u8 0, .int .u8 0, .int .u8 0, .int .u8 0, .int .u8 0, .int .u8 0, .int .u8 0, .int .u8 0, .int .u8 0, .int .u8 0, .int .u8 0, .int .u8 0, .int .u8 0, .int .u8 0, .int .u8 0, .int .u8 0, .int .u8 0, .int .u8 0, .int .u8 0, .int .u8 0, .int .u8 0, .int .u8 0, .int .u8 0, .int .u8 0, .int .u8 0, .int .u8 0, .int .u8 0, .int .u8 0, .int .u8 0, .int .u8 0, .int .u8 0, .int .u8 0, .int .u8 0, .int .u8 0, .int .u8 0, .int .u8 0, .int .u8 0, .int .u8 0, .int .u8 0, .int .u8 0, .int .u8 0, .int .u8 0, .int .u8 0, .int .u8 0, .int .u8 0, .int .u8 0, .int .u8 0, .int .u8 0, .int .u8 0, .int .u8 0, .int .u8 0, .int .u8 0, .int .u8 0, .int .u8 0, .int .u8 0, .int .u8 0, .int .u8 0, .int .u8 0, .int .u8 0, .int .u8 0, .int .u8 0, .int .u8 0, .int .u8 0, .int .u8 0, .int .u8 0, .int .u8 0, .int .u8 0, .int .u8 0, .int .u8 0, .int .u8 0, .int .u8 0, .int .u8 0, .int .u8 0, .int .u8 0, .int .u8 0, .int .u8 0, .int .u8 0, .int .u8 0, .int .u8 0, .int .u8 0, .int .u8 0, .int .u8 0, .int .u8 0, .int .u8 0, .int .u8 0, .int .u8 0, .int .u8 0, .int .u8 0, .int .u8 0, .int .u8 0, .int .u8 0, .int .u8 0, .int .u8 0, .int .u8 0, .int .u8 0, .int .u8 0, .int .u8 0, .int .u8 0, .int .u8 0, .int .u8 0, .int .u8 0, .int .u8 0, .int .u8 0, .int .u8 0, .int .u8 0, .int .u8 0, .int .u8 0, .int .u8 0, .int .u8 0, .int .u8 0, .int .u8 0, .int .u8 0, .int .u8 0, .int .u8 0, .int .u8 0, .int .u8 0, .int .u8 0, .int .u8 0, .int .u8 0, .int .u8 0, .int .u8 0, .int .u8 0, .int .u8 0, .int .u8 0, .int .u8 0, .int .u8 0, .int .u8 0, .int .u8 0, .int .u8 0, .int .u8 0, .int .u8 0, .int .u8 0, .int .u8 0, .int .u8 0, .int .u8 0, .int .u8 0, .int .u8 0, .int .u8 0, .int .u8 0, .int .u8 0, .int .u8 0, .int .u8 0, .int .u8 0, .int .u8 0, .int .u8 0, .int .u8 0, .int .u8 0, .int .u8 0, .int .u8 0, .int .u8 0, .int .u8 0, .int .u8 0, .int .u8 0, .int .u8 0, .int .u8 0, .int .u8 0, .int .u8 0, .int .u8 0, .int .u8 0, .int .u8 0, .int .u8 0, .int .u8 0, .int .u8 0, .int .u8 0, .int .u8 0, .int .u8 0, .int .u8 0, .int .u8 0, .int .u8 0, .int .u8 0, .int .u8 0, .int .u8 0, .int .u8 0, .int .u8 0, .int .u8 0, .int .u8 0, .int .u8 0, .int .u8 0, .int .u8 0, .int .u8 0, .int .u8 0, .int .u8 0, .int .u8 0, .int .u8 0, .int .u8 0, .int .u8 0, .int .u8 0, .int .u8 0, .int .u8 0, .int .u8 0, .int .u8 0, .int .u8 0]) := by kernel_rfl
@[simp] theorem tarr_312 : tarr Tryz.prog 312 = some (256, 5) := by kernel_rfl
@[simp] theorem tsizes_312 : tsizes Tryz.prog 312 = true := by kernel_rfl
@[simp] theorem tplace_312_0 : aplace Tryz.prog 312 0 = some (0, 1) := by kernel_rfl
@[simp] theorem tplace_312_1 : aplace Tryz.prog 312 1 = some (1, 1) := by kernel_rfl
@[simp] theorem tplace_312_2 : aplace Tryz.prog 312 2 = some (2, 1) := by kernel_rfl
@[simp] theorem tplace_312_3 : aplace Tryz.prog 312 3 = some (3, 1) := by kernel_rfl
@[simp] theorem tplace_312_4 : aplace Tryz.prog 312 4 = some (4, 1) := by kernel_rfl
@[simp] theorem tplace_312_5 : aplace Tryz.prog 312 5 = some (5, 1) := by kernel_rfl
@[simp] theorem tplace_312_6 : aplace Tryz.prog 312 6 = some (6, 1) := by kernel_rfl
@[simp] theorem tplace_312_7 : aplace Tryz.prog 312 7 = some (7, 1) := by kernel_rfl
@[simp] theorem tplace_312_8 : aplace Tryz.prog 312 8 = some (8, 1) := by kernel_rfl
@[simp] theorem tplace_312_9 : aplace Tryz.prog 312 9 = some (9, 1) := by kernel_rfl
@[simp] theorem tplace_312_10 : aplace Tryz.prog 312 10 = some (10, 1) := by kernel_rfl
@[simp] theorem tplace_312_11 : aplace Tryz.prog 312 11 = some (11, 1) := by kernel_rfl
@[simp] theorem tplace_312_12 : aplace Tryz.prog 312 12 = some (12, 1) := by kernel_rfl
@[simp] theorem tplace_312_13 : aplace Tryz.prog 312 13 = some (13, 1) := by kernel_rfl
@[simp] theorem tplace_312_14 : aplace Tryz.prog 312 14 = some (14, 1) := by kernel_rfl
@[simp] theorem tplace_312_15 : aplace Tryz.prog 312 15 = some (15, 1) := by kernel_rfl
@[simp] theorem tkd_313 : tkd Tryz.prog 313 = 9 := by kernel_rfl
@[simp] theorem tun_313 : (Tryz.prog.underlying 313).isSome = true := by kernel_rfl
@[simp] theorem tagg_313 : tagg Tryz.prog 313 = some true := by kernel_rfl
@[simp] theorem tsize_313 : tsize Tryz.prog 313 = some 2 := by kernel_rfl
@[simp] theorem tzero_313 : tzero Tryz.prog 313 = some (.agg #[.int .u8 0, .int .u8 0]) := by kernel_rfl
@[simp] theorem tsizes_313 : tsizes Tryz.prog 313 = true := by kernel_rfl
@[simp] theorem tfield_313_0 : tfield Tryz.prog 313 0 = some (0, 5) := by kernel_rfl
@[simp] theorem tplace_313_0 : aplace Tryz.prog 313 0 = some (0, 1) := by kernel_rfl
@[simp] theorem tfield_313_1 : tfield Tryz.prog 313 1 = some (1, 5) := by kernel_rfl
@[simp] theorem tplace_313_1 : aplace Tryz.prog 313 1 = some (1, 1) := by kernel_rfl
@[simp] theorem tkd_314 : tkd Tryz.prog 314 = 9 := by kernel_rfl
@[simp] theorem tun_314 : (Tryz.prog.underlying 314).isSome = true := by kernel_rfl
@[simp] theorem tagg_314 : tagg Tryz.prog 314 = some true := by kernel_rfl
@[simp] theorem tsize_314 : tsize Tryz.prog 314 = some 2 := by kernel_rfl
@[simp] theorem tzero_314 : tzero Tryz.prog 314 = some (.agg #[.int .u8 0, .int .u8 0]) := by kernel_rfl
@[simp] theorem tsizes_314 : tsizes Tryz.prog 314 = true := by kernel_rfl
@[simp] theorem tfield_314_0 : tfield Tryz.prog 314 0 = some (0, 5) := by kernel_rfl
@[simp] theorem tplace_314_0 : aplace Tryz.prog 314 0 = some (0, 1) := by kernel_rfl
@[simp] theorem tfield_314_1 : tfield Tryz.prog 314 1 = some (1, 5) := by kernel_rfl
@[simp] theorem tplace_314_1 : aplace Tryz.prog 314 1 = some (1, 1) := by kernel_rfl
@[simp] theorem tkd_315 : tkd Tryz.prog 315 = 10 := by kernel_rfl
@[simp] theorem tun_315 : (Tryz.prog.underlying 315).isSome = true := by kernel_rfl
@[simp] theorem tagg_315 : tagg Tryz.prog 315 = some true := by kernel_rfl
@[simp] theorem tsize_315 : tsize Tryz.prog 315 = some 32 := by kernel_rfl
@[simp] theorem tzero_315 : tzero Tryz.prog 315 = some (.agg #[.int .u8 0, .int .u8 0, .int .u8 0, .int .u8 0, .int .u8 0, .int .u8 0, .int .u8 0, .int .u8 0, .int .u8 0, .int .u8 0, .int .u8 0, .int .u8 0, .int .u8 0, .int .u8 0, .int .u8 0, .int .u8 0, .int .u8 0, .int .u8 0, .int .u8 0, .int .u8 0, .int .u8 0, .int .u8 0, .int .u8 0, .int .u8 0, .int .u8 0, .int .u8 0, .int .u8 0, .int .u8 0, .int .u8 0, .int .u8 0, .int .u8 0, .int .u8 0]) := by kernel_rfl
@[simp] theorem tarr_315 : tarr Tryz.prog 315 = some (16, 314) := by kernel_rfl
@[simp] theorem tsizes_315 : tsizes Tryz.prog 315 = true := by kernel_rfl
@[simp] theorem tplace_315_0 : aplace Tryz.prog 315 0 = some (0, 2) := by kernel_rfl
@[simp] theorem tplace_315_1 : aplace Tryz.prog 315 1 = some (2, 2) := by kernel_rfl
@[simp] theorem tplace_315_2 : aplace Tryz.prog 315 2 = some (4, 2) := by kernel_rfl
@[simp] theorem tplace_315_3 : aplace Tryz.prog 315 3 = some (6, 2) := by kernel_rfl
@[simp] theorem tplace_315_4 : aplace Tryz.prog 315 4 = some (8, 2) := by kernel_rfl
@[simp] theorem tplace_315_5 : aplace Tryz.prog 315 5 = some (10, 2) := by kernel_rfl
@[simp] theorem tplace_315_6 : aplace Tryz.prog 315 6 = some (12, 2) := by kernel_rfl
@[simp] theorem tplace_315_7 : aplace Tryz.prog 315 7 = some (14, 2) := by kernel_rfl
@[simp] theorem tplace_315_8 : aplace Tryz.prog 315 8 = some (16, 2) := by kernel_rfl
@[simp] theorem tplace_315_9 : aplace Tryz.prog 315 9 = some (18, 2) := by kernel_rfl
@[simp] theorem tplace_315_10 : aplace Tryz.prog 315 10 = some (20, 2) := by kernel_rfl
@[simp] theorem tplace_315_11 : aplace Tryz.prog 315 11 = some (22, 2) := by kernel_rfl
@[simp] theorem tplace_315_12 : aplace Tryz.prog 315 12 = some (24, 2) := by kernel_rfl
@[simp] theorem tplace_315_13 : aplace Tryz.prog 315 13 = some (26, 2) := by kernel_rfl
@[simp] theorem tplace_315_14 : aplace Tryz.prog 315 14 = some (28, 2) := by kernel_rfl
@[simp] theorem tplace_315_15 : aplace Tryz.prog 315 15 = some (30, 2) := by kernel_rfl
@[simp] theorem tkd_316 : tkd Tryz.prog 316 = 4 := by kernel_rfl
@[simp] theorem tun_316 : (Tryz.prog.underlying 316).isSome = true := by kernel_rfl
@[simp] theorem tagg_316 : tagg Tryz.prog 316 = some false := by kernel_rfl
@[simp] theorem tsize_316 : tsize Tryz.prog 316 = some 1 := by kernel_rfl
@[simp] theorem tzero_316 : tzero Tryz.prog 316 = some (.pointer none) := by kernel_rfl
@[simp] theorem tkd_317 : tkd Tryz.prog 317 = 9 := by kernel_rfl
@[simp] theorem tun_317 : (Tryz.prog.underlying 317).isSome = true := by kernel_rfl
@[simp] theorem tagg_317 : tagg Tryz.prog 317 = some true := by kernel_rfl
@[simp] theorem tsize_317 : tsize Tryz.prog 317 = some 1 := by kernel_rfl
@[simp] theorem tzero_317 : tzero Tryz.prog 317 = some (.agg #[.string ByteArray.empty]) := by kernel_rfl
@[simp] theorem tsizes_317 : tsizes Tryz.prog 317 = true := by kernel_rfl
@[simp] theorem tfield_317_0 : tfield Tryz.prog 317 0 = some (0, 9) := by kernel_rfl
@[simp] theorem tplace_317_0 : aplace Tryz.prog 317 0 = some (0, 1) := by kernel_rfl
@[simp] theorem tkd_318 : tkd Tryz.prog 318 = 9 := by kernel_rfl
@[simp] theorem tun_318 : (Tryz.prog.underlying 318).isSome = true := by kernel_rfl
@[simp] theorem tagg_318 : tagg Tryz.prog 318 = some true := by kernel_rfl
@[simp] theorem tsize_318 : tsize Tryz.prog 318 = some 1 := by kernel_rfl
@[simp] theorem tzero_318 : tzero Tryz.prog 318 = some (.agg #[.string ByteArray.empty]) := by kernel_rfl
@[simp] theorem tsizes_318 : tsizes Tryz.prog 318 = true := by kernel_rfl
@[simp] theorem tfield_318_0 : tfield Tryz.prog 318 0 = some (0, 9) := by kernel_rfl
@[simp] theorem tplace_318_0 : aplace Tryz.prog 318 0 = some (0, 1) := by kernel_rfl
@[simp] theorem tkd_324 : tkd Tryz.prog 324 = 4 := by kernel_rfl
@[simp] theorem tun_324 : (Tryz.prog.underlying 324).isSome = true := by kernel_rfl
@[simp] theorem tagg_324 : tagg Tryz.prog 324 = some false := by kernel_rfl
@[simp] theorem tsize_324 : tsize Tryz.prog 324 = some 1 := by kernel_rfl
@[simp] theorem tzero_324 : tzero Tryz.prog 324 = some (.pointer none) := by kernel_rfl
@[simp] theorem tkd_327 : tkd Tryz.prog 327 = 10 := by kernel_rfl
@[simp] theorem tun_327 : (Tryz.prog.underlying 327).isSome = true := by kernel_rfl
@[simp] theorem tagg_327 : tagg Tryz.prog 327 = some true := by kernel_rfl
@[simp] theorem tsize_327 : tsize Tryz.prog 327 = some 32 := by kernel_rfl
@[simp] theorem tzero_327 : tzero Tryz.prog 327 = some (.agg #[.int .u8 0, .int .u8 0, .int .u8 0, .int .u8 0, .int .u8 0, .int .u8 0, .int .u8 0, .int .u8 0, .int .u8 0, .int .u8 0, .int .u8 0, .int .u8 0, .int .u8 0, .int .u8 0, .int .u8 0, .int .u8 0, .int .u8 0, .int .u8 0, .int .u8 0, .int .u8 0, .int .u8 0, .int .u8 0, .int .u8 0, .int .u8 0, .int .u8 0, .int .u8 0, .int .u8 0, .int .u8 0, .int .u8 0, .int .u8 0, .int .u8 0, .int .u8 0]) := by kernel_rfl
@[simp] theorem tarr_327 : tarr Tryz.prog 327 = some (32, 5) := by kernel_rfl
@[simp] theorem tsizes_327 : tsizes Tryz.prog 327 = true := by kernel_rfl
@[simp] theorem tplace_327_0 : aplace Tryz.prog 327 0 = some (0, 1) := by kernel_rfl
@[simp] theorem tplace_327_1 : aplace Tryz.prog 327 1 = some (1, 1) := by kernel_rfl
@[simp] theorem tplace_327_2 : aplace Tryz.prog 327 2 = some (2, 1) := by kernel_rfl
@[simp] theorem tplace_327_3 : aplace Tryz.prog 327 3 = some (3, 1) := by kernel_rfl
@[simp] theorem tplace_327_4 : aplace Tryz.prog 327 4 = some (4, 1) := by kernel_rfl
@[simp] theorem tplace_327_5 : aplace Tryz.prog 327 5 = some (5, 1) := by kernel_rfl
@[simp] theorem tplace_327_6 : aplace Tryz.prog 327 6 = some (6, 1) := by kernel_rfl
@[simp] theorem tplace_327_7 : aplace Tryz.prog 327 7 = some (7, 1) := by kernel_rfl
@[simp] theorem tplace_327_8 : aplace Tryz.prog 327 8 = some (8, 1) := by kernel_rfl
@[simp] theorem tplace_327_9 : aplace Tryz.prog 327 9 = some (9, 1) := by kernel_rfl
@[simp] theorem tplace_327_10 : aplace Tryz.prog 327 10 = some (10, 1) := by kernel_rfl
@[simp] theorem tplace_327_11 : aplace Tryz.prog 327 11 = some (11, 1) := by kernel_rfl
@[simp] theorem tplace_327_12 : aplace Tryz.prog 327 12 = some (12, 1) := by kernel_rfl
@[simp] theorem tplace_327_13 : aplace Tryz.prog 327 13 = some (13, 1) := by kernel_rfl
@[simp] theorem tplace_327_14 : aplace Tryz.prog 327 14 = some (14, 1) := by kernel_rfl
@[simp] theorem tplace_327_15 : aplace Tryz.prog 327 15 = some (15, 1) := by kernel_rfl
@[simp] theorem tkd_330 : tkd Tryz.prog 330 = 9 := by kernel_rfl
@[simp] theorem tun_330 : (Tryz.prog.underlying 330).isSome = true := by kernel_rfl
@[simp] theorem tagg_330 : tagg Tryz.prog 330 = some true := by kernel_rfl
@[simp] theorem tsize_330 : tsize Tryz.prog 330 = some 4 := by kernel_rfl
@[simp] theorem tzero_330 : tzero Tryz.prog 330 = some (.agg #[.pointer none, .pointer none, .pointer none, .string ByteArray.empty]) := by kernel_rfl
@[simp] theorem tsizes_330 : tsizes Tryz.prog 330 = true := by kernel_rfl
@[simp] theorem tfield_330_0 : tfield Tryz.prog 330 0 = some (0, 17) := by kernel_rfl
@[simp] theorem tplace_330_0 : aplace Tryz.prog 330 0 = some (0, 1) := by kernel_rfl
@[simp] theorem tfield_330_1 : tfield Tryz.prog 330 1 = some (1, 17) := by kernel_rfl
@[simp] theorem tplace_330_1 : aplace Tryz.prog 330 1 = some (1, 1) := by kernel_rfl
@[simp] theorem tfield_330_2 : tfield Tryz.prog 330 2 = some (2, 17) := by kernel_rfl
@[simp] theorem tplace_330_2 : aplace Tryz.prog 330 2 = some (2, 1) := by kernel_rfl
@[simp] theorem tfield_330_3 : tfield Tryz.prog 330 3 = some (3, 9) := by kernel_rfl
@[simp] theorem tplace_330_3 : aplace Tryz.prog 330 3 = some (3, 1) := by kernel_rfl
@[simp] theorem tkd_331 : tkd Tryz.prog 331 = 9 := by kernel_rfl
@[simp] theorem tun_331 : (Tryz.prog.underlying 331).isSome = true := by kernel_rfl
@[simp] theorem tagg_331 : tagg Tryz.prog 331 = some true := by kernel_rfl
@[simp] theorem tsize_331 : tsize Tryz.prog 331 = some 4 := by kernel_rfl
@[simp] theorem tzero_331 : tzero Tryz.prog 331 = some (.agg #[.pointer none, .pointer none, .pointer none, .string ByteArray.empty]) := by kernel_rfl
@[simp] theorem tsizes_331 : tsizes Tryz.prog 331 = true := by kernel_rfl
@[simp] theorem tfield_331_0 : tfield Tryz.prog 331 0 = some (0, 17) := by kernel_rfl
@[simp] theorem tplace_331_0 : aplace Tryz.prog 331 0 = some (0, 1) := by kernel_rfl
@[simp] theorem tfield_331_1 : tfield Tryz.prog 331 1 = some (1, 17) := by kernel_rfl
@[simp] theorem tplace_331_1 : aplace Tryz.prog 331 1 = some (1, 1) := by kernel_rfl
@[simp] theorem tfield_331_2 : tfield Tryz.prog 331 2 = some (2, 17) := by kernel_rfl
@[simp] theorem tplace_331_2 : aplace Tryz.prog 331 2 = some (2, 1) := by kernel_rfl
@[simp] theorem tfield_331_3 : tfield Tryz.prog 331 3 = some (3, 9) := by kernel_rfl
@[simp] theorem tplace_331_3 : aplace Tryz.prog 331 3 = some (3, 1) := by kernel_rfl
@[simp] theorem tkd_332 : tkd Tryz.prog 332 = 10 := by kernel_rfl
@[simp] theorem tun_332 : (Tryz.prog.underlying 332).isSome = true := by kernel_rfl
@[simp] theorem tagg_332 : tagg Tryz.prog 332 = some true := by kernel_rfl
@[simp] theorem tsize_332 : tsize Tryz.prog 332 = some 0 := by kernel_rfl
@[simp] theorem tzero_332 : tzero Tryz.prog 332 = some (.agg #[]) := by kernel_rfl
@[simp] theorem tarr_332 : tarr Tryz.prog 332 = some (0, 16) := by kernel_rfl
@[simp] theorem tsizes_332 : tsizes Tryz.prog 332 = true := by kernel_rfl
@[simp] theorem tkd_333 : tkd Tryz.prog 333 = 9 := by kernel_rfl
@[simp] theorem tun_333 : (Tryz.prog.underlying 333).isSome = true := by kernel_rfl
@[simp] theorem tagg_333 : tagg Tryz.prog 333 = some true := by kernel_rfl
@[simp] theorem tsize_333 : tsize Tryz.prog 333 = some 0 := by kernel_rfl
@[simp] theorem tzero_333 : tzero Tryz.prog 333 = some (.agg #[]) := by kernel_rfl
@[simp] theorem tsizes_333 : tsizes Tryz.prog 333 = true := by kernel_rfl
@[simp] theorem tfield_333_0 : tfield Tryz.prog 333 0 = some (0, 332) := by kernel_rfl
@[simp] theorem tplace_333_0 : aplace Tryz.prog 333 0 = some (0, 0) := by kernel_rfl
@[simp] theorem tkd_334 : tkd Tryz.prog 334 = 9 := by kernel_rfl
@[simp] theorem tun_334 : (Tryz.prog.underlying 334).isSome = true := by kernel_rfl
@[simp] theorem tagg_334 : tagg Tryz.prog 334 = some true := by kernel_rfl
@[simp] theorem tsize_334 : tsize Tryz.prog 334 = some 0 := by kernel_rfl
@[simp] theorem tzero_334 : tzero Tryz.prog 334 = some (.agg #[]) := by kernel_rfl
@[simp] theorem tsizes_334 : tsizes Tryz.prog 334 = true := by kernel_rfl
@[simp] theorem tfield_334_0 : tfield Tryz.prog 334 0 = some (0, 332) := by kernel_rfl
@[simp] theorem tplace_334_0 : aplace Tryz.prog 334 0 = some (0, 0) := by kernel_rfl
@[simp] theorem tkd_335 : tkd Tryz.prog 335 = 2 := by kernel_rfl
@[simp] theorem tun_335 : (Tryz.prog.underlying 335).isSome = true := by kernel_rfl
@[simp] theorem tagg_335 : tagg Tryz.prog 335 = some false := by kernel_rfl
@[simp] theorem tsize_335 : tsize Tryz.prog 335 = some 1 := by kernel_rfl
@[simp] theorem tzero_335 : tzero Tryz.prog 335 = some (.int .u8 0) := by kernel_rfl
@[simp] theorem tint_335 : tint Tryz.prog 335 = some .u8 := by kernel_rfl
@[simp] theorem tkd_336 : tkd Tryz.prog 336 = 2 := by kernel_rfl
@[simp] theorem tun_336 : (Tryz.prog.underlying 336).isSome = true := by kernel_rfl
@[simp] theorem tagg_336 : tagg Tryz.prog 336 = some false := by kernel_rfl
@[simp] theorem tsize_336 : tsize Tryz.prog 336 = some 1 := by kernel_rfl
@[simp] theorem tzero_336 : tzero Tryz.prog 336 = some (.int .u8 0) := by kernel_rfl
@[simp] theorem tint_336 : tint Tryz.prog 336 = some .u8 := by kernel_rfl
@[simp] theorem tkd_338 : tkd Tryz.prog 338 = 2 := by kernel_rfl
@[simp] theorem tun_338 : (Tryz.prog.underlying 338).isSome = true := by kernel_rfl
@[simp] theorem tagg_338 : tagg Tryz.prog 338 = some false := by kernel_rfl
@[simp] theorem tsize_338 : tsize Tryz.prog 338 = some 1 := by kernel_rfl
@[simp] theorem tzero_338 : tzero Tryz.prog 338 = some (.int .i32 0) := by kernel_rfl
@[simp] theorem tint_338 : tint Tryz.prog 338 = some .i32 := by kernel_rfl
@[simp] theorem tkd_339 : tkd Tryz.prog 339 = 2 := by kernel_rfl
@[simp] theorem tun_339 : (Tryz.prog.underlying 339).isSome = true := by kernel_rfl
@[simp] theorem tagg_339 : tagg Tryz.prog 339 = some false := by kernel_rfl
@[simp] theorem tsize_339 : tsize Tryz.prog 339 = some 1 := by kernel_rfl
@[simp] theorem tzero_339 : tzero Tryz.prog 339 = some (.int .i32 0) := by kernel_rfl
@[simp] theorem tint_339 : tint Tryz.prog 339 = some .i32 := by kernel_rfl
@[simp] theorem tkd_340 : tkd Tryz.prog 340 = 9 := by kernel_rfl
@[simp] theorem tun_340 : (Tryz.prog.underlying 340).isSome = true := by kernel_rfl
@[simp] theorem tagg_340 : tagg Tryz.prog 340 = some true := by kernel_rfl
@[simp] theorem tsize_340 : tsize Tryz.prog 340 = some 11 := by kernel_rfl
@[simp] theorem tzero_340 : tzero Tryz.prog 340 = some (.agg #[.int .u64 0, .int .u64 0, .int .u32 0, .int .u8 0, .int .u8 0, .int .u8 0, .int .u8 0, .nilFunc, .pointer none, .int .i32 0, .int .i32 0]) := by kernel_rfl
@[simp] theorem tsizes_340 : tsizes Tryz.prog 340 = true := by kernel_rfl
@[simp] theorem tfield_340_0 : tfield Tryz.prog 340 0 = some (0, 12) := by kernel_rfl
@[simp] theorem tplace_340_0 : aplace Tryz.prog 340 0 = some (0, 1) := by kernel_rfl
@[simp] theorem tfield_340_1 : tfield Tryz.prog 340 1 = some (1, 12) := by kernel_rfl
@[simp] theorem tplace_340_1 : aplace Tryz.prog 340 1 = some (1, 1) := by kernel_rfl
@[simp] theorem tfield_340_2 : tfield Tryz.prog 340 2 = some (2, 285) := by kernel_rfl
@[simp] theorem tplace_340_2 : aplace Tryz.prog 340 2 = some (2, 1) := by kernel_rfl
@[simp] theorem tfield_340_3 : tfield Tryz.prog 340 3 = some (3, 335) := by kernel_rfl
@[simp] theorem tplace_340_3 : aplace Tryz.prog 340 3 = some (3, 1) := by kernel_rfl
@[simp] theorem tfield_340_4 : tfield Tryz.prog 340 4 = some (4, 5) := by kernel_rfl
@[simp] theorem tplace_340_4 : aplace Tryz.prog 340 4 = some (4, 1) := by kernel_rfl
@[simp] theorem tfield_340_5 : tfield Tryz.prog 340 5 = some (5, 5) := by kernel_rfl
@[simp] theorem tplace_340_5 : aplace Tryz.prog 340 5 = some (5, 1) := by kernel_rfl
@[simp] theorem tfield_340_6 : tfield Tryz.prog 340 6 = some (6, 336) := by kernel_rfl
@[simp] theorem tplace_340_6 : aplace Tryz.prog 340 6 = some (6, 1) := by kernel_rfl
@[simp] theorem tfield_340_7 : tfield Tryz.prog 340 7 = some (7, 337) := by kernel_rfl
@[simp] theorem tplace_340_7 : aplace Tryz.prog 340 7 = some (7, 1) := by kernel_rfl
@[simp] theorem tfield_340_8 : tfield Tryz.prog 340 8 = some (8, 254) := by kernel_rfl
@[simp] theorem tplace_340_8 : aplace Tryz.prog 340 8 = some (8, 1) := by kernel_rfl
@[simp] theorem tfield_340_9 : tfield Tryz.prog 340 9 = some (9, 338) := by kernel_rfl
@[simp] theorem tplace_340_9 : aplace Tryz.prog 340 9 = some (9, 1) := by kernel_rfl
@[simp] theorem tfield_340_10 : tfield Tryz.prog 340 10 = some (10, 339) := by kernel_rfl
@[simp] theorem tplace_340_10 : aplace Tryz.prog 340 10 = some (10, 1) := by kernel_rfl
@[simp] theorem tkd_341 : tkd Tryz.prog 341 = 9 := by kernel_rfl
@[simp] theorem tun_341 : (Tryz.prog.underlying 341).isSome = true := by kernel_rfl
@[simp] theorem tagg_341 : tagg Tryz.prog 341 = some true := by kernel_rfl
@[simp] theorem tsize_341 : tsize Tryz.prog 341 = some 11 := by kernel_rfl
@[simp] theorem tzero_341 : tzero Tryz.prog 341 = some (.agg #[.int .u64 0, .int .u64 0, .int .u32 0, .int .u8 0, .int .u8 0, .int .u8 0, .int .u8 0, .nilFunc, .pointer none, .int .i32 0, .int .i32 0]) := by kernel_rfl
@[simp] theorem tsizes_341 : tsizes Tryz.prog 341 = true := by kernel_rfl
@[simp] theorem tfield_341_0 : tfield Tryz.prog 341 0 = some (0, 12) := by kernel_rfl
@[simp] theorem tplace_341_0 : aplace Tryz.prog 341 0 = some (0, 1) := by kernel_rfl
@[simp] theorem tfield_341_1 : tfield Tryz.prog 341 1 = some (1, 12) := by kernel_rfl
@[simp] theorem tplace_341_1 : aplace Tryz.prog 341 1 = some (1, 1) := by kernel_rfl
@[simp] theorem tfield_341_2 : tfield Tryz.prog 341 2 = some (2, 285) := by kernel_rfl
@[simp] theorem tplace_341_2 : aplace Tryz.prog 341 2 = some (2, 1) := by kernel_rfl
@[simp] theorem tfield_341_3 : tfield Tryz.prog 341 3 = some (3, 335) := by kernel_rfl
@[simp] theorem tplace_341_3 : aplace Tryz.prog 341 3 = some (3, 1) := by kernel_rfl
@[simp] theorem tfield_341_4 : tfield Tryz.prog 341 4 = some (4, 5) := by kernel_rfl
@[simp] theorem tplace_341_4 : aplace Tryz.prog 341 4 = some (4, 1) := by kernel_rfl
@[simp] theorem tfield_341_5 : tfield Tryz.prog 341 5 = some (5, 5) := by kernel_rfl
@[simp] theorem tplace_341_5 : aplace Tryz.prog 341 5 = some (5, 1) := by kernel_rfl
@[simp] theorem tfield_341_6 : tfield Tryz.prog 341 6 = some (6, 336) := by kernel_rfl
@[simp] theorem tplace_341_6 : aplace Tryz.prog 341 6 = some (6, 1) := by kernel_rfl
@[simp] theorem tfield_341_7 : tfield Tryz.prog 341 7 = some (7, 337) := by kernel_rfl
@[simp] theorem tplace_341_7 : aplace Tryz.prog 341 7 = some (7, 1) := by kernel_rfl
@[simp] theorem tfield_341_8 : tfield Tryz.prog 341 8 = some (8, 254) := by kernel_rfl
@[simp] theorem tplace_341_8 : aplace Tryz.prog 341 8 = some (8, 1) := by kernel_rfl
@[simp] theorem tfield_341_9 : tfield Tryz.prog 341 9 = some (9, 338) := by kernel_rfl
@[simp] theorem tplace_341_9 : aplace Tryz.prog 341 9 = some (9, 1) := by kernel_rfl
@[simp] theorem tfield_341_10 : tfield Tryz.prog 341 10 = some (10, 339) := by kernel_rfl
@[simp] theorem tplace_341_10 : aplace Tryz.prog 341 10 = some (10, 1) := by kernel_rfl
@[simp] theorem tfs_40 : tfs Tryz.prog 40 = some [(false, 22, 0), (false, 4, 1)] := by kernel_rfl
@[simp] theorem tfs_46 : tfs Tryz.prog 46 = some [(false, 3, 0), (false, 3, 1), (false, 3, 2)] := by kernel_rfl
@[simp] theorem tfs_48 : tfs Tryz.prog 48 = some [(false, 46, 0), (false, 3, 3), (false, 3, 4), (false, 3, 5), (false, 3, 6)] := by kernel_rfl
@[simp] theorem tfs_69 : tfs Tryz.prog 69 = some [(false, 2, 0), (false, 3, 1)] := by kernel_rfl
@[simp] theorem tfs_109 : tfs Tryz.prog 109 = some [(false, 2, 0), (false, 22, 1), (false, 3, 2), (false, 2, 3), (false, 3, 4)] := by kernel_rfl
@[simp] theorem tfs_111 : tfs Tryz.prog 111 = some [(false, 2, 0), (false, 22, 1)] := by kernel_rfl
@[simp] theorem tfs_159 : tfs Tryz.prog 159 = some [(false, 2, 0), (false, 3, 1)] := by kernel_rfl
@[simp] theorem tfs_189 : tfs Tryz.prog 189 = some [(false, 111, 0), (false, 2, 2), (false, 3, 3), (false, 3, 4)] := by kernel_rfl
@[simp] theorem tfs_42 : tfs Tryz.prog 42 = some [(false, 40, 0), (false, 40, 2), (false, 40, 4), (false, 40, 6), (false, 40, 8)] := by kernel_rfl
@[simp] theorem can_3 : canCall Tryz.prog 3 = true := by kernel_rfl
@[simp] theorem can_4 : canCall Tryz.prog 4 = true := by kernel_rfl
@[simp] theorem can_5 : canCall Tryz.prog 5 = true := by kernel_rfl
@[simp] theorem can_6 : canCall Tryz.prog 6 = true := by kernel_rfl
@[simp] theorem can_7 : canCall Tryz.prog 7 = true := by kernel_rfl
@[simp] theorem can_8 : canCall Tryz.prog 8 = true := by kernel_rfl
@[simp] theorem can_9 : canCall Tryz.prog 9 = true := by kernel_rfl
@[simp] theorem can_10 : canCall Tryz.prog 10 = true := by kernel_rfl
@[simp] theorem can_11 : canCall Tryz.prog 11 = true := by kernel_rfl
@[simp] theorem can_12 : canCall Tryz.prog 12 = true := by kernel_rfl
@[simp] theorem can_13 : canCall Tryz.prog 13 = true := by kernel_rfl
@[simp] theorem can_14 : canCall Tryz.prog 14 = true := by kernel_rfl
@[simp] theorem can_15 : canCall Tryz.prog 15 = true := by kernel_rfl
@[simp] theorem can_16 : canCall Tryz.prog 16 = true := by kernel_rfl
@[simp] theorem can_17 : canCall Tryz.prog 17 = true := by kernel_rfl
@[simp] theorem can_18 : canCall Tryz.prog 18 = true := by kernel_rfl
@[simp] theorem can_19 : canCall Tryz.prog 19 = true := by kernel_rfl
@[simp] theorem can_20 : canCall Tryz.prog 20 = true := by kernel_rfl
@[simp] theorem can_21 : canCall Tryz.prog 21 = true := by kernel_rfl
@[simp] theorem can_22 : canCall Tryz.prog 22 = true := by kernel_rfl
@[simp] theorem can_23 : canCall Tryz.prog 23 = true := by kernel_rfl
@[simp] theorem can_24 : canCall Tryz.prog 24 = true := by kernel_rfl
@[simp] theorem can_25 : canCall Tryz.prog 25 = true := by kernel_rfl
@[simp] theorem can_26 : canCall Tryz.prog 26 = true := by kernel_rfl
@[simp] theorem can_27 : canCall Tryz.prog 27 = true := by kernel_rfl
@[simp] theorem can_28 : canCall Tryz.prog 28 = true := by kernel_rfl
@[simp] theorem can_29 : canCall Tryz.prog 29 = true := by kernel_rfl
@[simp] theorem can_30 : canCall Tryz.prog 30 = true := by kernel_rfl
@[simp] theorem can_31 : canCall Tryz.prog 31 = true := by kernel_rfl
@[simp] theorem can_32 : canCall Tryz.prog 32 = true := by kernel_rfl
@[simp] theorem can_33 : canCall Tryz.prog 33 = true := by kernel_rfl
@[simp] theorem can_34 : canCall Tryz.prog 34 = true := by kernel_rfl
@[simp] theorem can_35 : canCall Tryz.prog 35 = true := by kernel_rfl
@[simp] theorem can_36 : canCall Tryz.prog 36 = true := by kernel_rfl
@[simp] theorem can_37 : canCall Tryz.prog 37 = true := by kernel_rfl
@[simp] theorem can_38 : canCall Tryz.prog 38 = true := by kernel_rfl
@[simp] theorem can_39 : canCall Tryz.prog 39 = true := by kernel_rfl
@[simp] theorem can_40 : canCall Tryz.prog 40 = true := by kernel_rfl
@[simp] theorem can_41 : canCall Tryz.prog 41 = true := by kernel_rfl
@[simp] theorem can_42 : canCall Tryz.prog 42 = true := by kernel_rfl
@[simp] theorem can_43 : canCall Tryz.prog 43 = true := by kernel_rfl
@[simp] theorem can_44 : canCall Tryz.prog 44 = true := by kernel_rfl
@[simp] theorem can_45 : canCall Tryz.prog 45 = true := by kernel_rfl
@[simp] theorem can_46 : canCall Tryz.prog 46 = true := by kernel_rfl
@[simp] theorem can_47 : canCall Tryz.prog 47 = true := by kernel_rfl
@[simp] theorem can_48 : canCall Tryz.prog 48 = true := by kernel_rfl
@[simp] theorem can_49 : canCall Tryz.prog 49 = true := by kernel_rfl
@[simp] theorem can_50 : canCall Tryz.prog 50 = true := by kernel_rfl
@[simp] theorem can_51 : canCall Tryz.prog 51 = true := by kernel_rfl
@[simp] theorem can_52 : canCall Tryz.prog 52 = true := by kernel_rfl
@[simp] theorem can_53 : canCall Tryz.prog 53 = true := by kernel_rfl
@[simp] theorem can_54 : canCall Tryz.prog 54 = true := by kernel_rfl
@[simp] theorem can_55 : canCall Tryz.prog 55 = true := by kernel_rfl
@[simp] theorem can_56 : canCall Tryz.prog 56 = true := by kernel_rfl
@[simp] theorem can_57 : canCall Tryz.prog 57 = true := by kernel_rfl
@[simp] theorem can_58 : canCall Tryz.prog 58 = true := by kernel_rfl
@[simp] theorem can_59 : canCall Tryz.prog 59 = true := by kernel_rfl
@[simp] theorem can_60 : canCall Tryz.prog 60 = true := by kernel_rfl
@[simp] theorem can_61 : canCall Tryz.prog 61 = true := by kernel_rfl
@[simp] theorem can_62 : canCall Tryz.prog 62 = true := by kernel_rfl
@[simp] theorem can_63 : canCall Tryz.prog 63 = true := by kernel_rfl
@[simp] theorem can_64 : canCall Tryz.prog 64 = true := by kernel_rfl
@[simp] theorem can_65 : canCall Tryz.prog 65 = true := by kernel_rfl
@[simp] theorem can_66 : canCall Tryz.prog 66 = true := by kernel_rfl
@[simp] theorem can_67 : canCall Tryz.prog 67 = true := by kernel_rfl
@[simp] theorem can_68 : canCall Tryz.prog 68 = true := by kernel_rfl
@[simp] theorem can_69 : canCall Tryz.prog 69 = true := by kernel_rfl
@[simp] theorem can_70 : canCall Tryz.prog 70 = true := by kernel_rfl
@[simp] theorem can_71 : canCall Tryz.prog 71 = true := by kernel_rfl
@[simp] theorem can_72 : canCall Tryz.prog 72 = true := by kernel_rfl
@[simp] theorem can_73 : canCall Tryz.prog 73 = true := by kernel_rfl
@[simp] theorem can_74 : canCall Tryz.prog 74 = true := by kernel_rfl
@[simp] theorem can_75 : canCall Tryz.prog 75 = true := by kernel_rfl
@[simp] theorem can_76 : canCall Tryz.prog 76 = true := by kernel_rfl
@[simp] theorem can_77 : canCall Tryz.prog 77 = true := by kernel_rfl
@[simp] theorem can_78 : canCall Tryz.prog 78 = true := by kernel_rfl
@[simp] theorem can_79 : canCall Tryz.prog 79 = true := by kernel_rfl
@[simp] theorem can_80 : canCall Tryz.prog 80 = true := by kernel_rfl
@[simp] theorem can_81 : canCall Tryz.prog 81 = true := by kernel_rfl
@[simp] theorem can_82 : canCall Tryz.prog 82 = true := by kernel_rfl
@[simp] theorem can_83 : canCall Tryz.prog 83 = true := by kernel_rfl
@[simp] theorem can_84 : canCall Tryz.prog 84 = true := by kernel_rfl
@[simp] theorem can_85 : canCall Tryz.prog 85 = true := by kernel_rfl
@[simp] theorem can_86 : canCall Tryz.prog 86 = true := by kernel_rfl
@[simp] theorem can_87 : canCall Tryz.prog 87 = true := by kernel_rfl
@[simp] theorem can_88 : canCall Tryz.prog 88 = true := by kernel_rfl
@[simp] theorem can_89 : canCall Tryz.prog 89 = true := by kernel_rfl
@[simp] theorem can_90 : canCall Tryz.prog 90 = true := by kernel_rfl
@[simp] theorem can_91 : canCall Tryz.prog 91 = true := by kernel_rfl
@[simp] theorem can_92 : canCall Tryz.prog 92 = true := by kernel_rfl
@[simp] theorem can_93 : canCall Tryz.prog 93 = true := by kernel_rfl
@[simp] theorem can_94 : canCall Tryz.prog 94 = true := by kernel_rfl
@[simp] theorem can_95 : canCall Tryz.prog 95 = true := by kernel_rfl
@[simp] theorem can_96 : canCall Tryz.prog 96 = true := by kernel_rfl
@[simp] theorem can_97 : canCall Tryz.prog 97 = true := by kernel_rfl
@[simp] theorem can_98 : canCall Tryz.prog 98 = true := by kernel_rfl
@[simp] theorem can_99 : canCall Tryz.prog 99 = true := by kernel_rfl
@[simp] theorem can_100 : canCall Tryz.prog 100 = true := by kernel_rfl
@[simp] theorem can_101 : canCall Tryz.prog 101 = true := by kernel_rfl
@[simp] theorem can_102 : canCall Tryz.prog 102 = true := by kernel_rfl
@[simp] theorem can_103 : canCall Tryz.prog 103 = true := by kernel_rfl
@[simp] theorem can_104 : canCall Tryz.prog 104 = true := by kernel_rfl
@[simp] theorem can_105 : canCall Tryz.prog 105 = true := by kernel_rfl
@[simp] theorem can_106 : canCall Tryz.prog 106 = true := by kernel_rfl
@[simp] theorem can_107 : canCall Tryz.prog 107 = true := by kernel_rfl
@[simp] theorem can_108 : canCall Tryz.prog 108 = true := by kernel_rfl
@[simp] theorem can_109 : canCall Tryz.prog 109 = true := by kernel_rfl
@[simp] theorem can_110 : canCall Tryz.prog 110 = true := by kernel_rfl
@[simp] theorem can_111 : canCall Tryz.prog 111 = true := by kernel_rfl
@[simp] theorem can_112 : canCall Tryz.prog 112 = true := by kernel_rfl
@[simp] theorem can_113 : canCall Tryz.prog 113 = true := by kernel_rfl
@[simp] theorem can_114 : canCall Tryz.prog 114 = true := by kernel_rfl
@[simp] theorem can_115 : canCall Tryz.prog 115 = true := by kernel_rfl
@[simp] theorem can_116 : canCall Tryz.prog 116 = true := by kernel_rfl
@[simp] theorem can_117 : canCall Tryz.prog 117 = true := by kernel_rfl
@[simp] theorem can_118 : canCall Tryz.prog 118 = true := by kernel_rfl
@[simp] theorem can_119 : canCall Tryz.prog 119 = true := by kernel_rfl
@[simp] theorem can_120 : canCall Tryz.prog 120 = true := by kernel_rfl
@[simp] theorem can_121 : canCall Tryz.prog 121 = true := by kernel_rfl
@[simp] theorem can_122 : canCall Tryz.prog 122 = true := by kernel_rfl
@[simp] theorem can_123 : canCall Tryz.prog 123 = true := by kernel_rfl
@[simp] theorem can_124 : canCall Tryz.prog 124 = true := by kernel_rfl
@[simp] theorem can_125 : canCall Tryz.prog 125 = true := by kernel_rfl
@[simp] theorem can_126 : canCall Tryz.prog 126 = true := by kernel_rfl
@[simp] theorem can_127 : canCall Tryz.prog 127 = true := by kernel_rfl
@[simp] theorem can_128 : canCall Tryz.prog 128 = true := by kernel_rfl
@[simp] theorem can_129 : canCall Tryz.prog 129 = true := by kernel_rfl
@[simp] theorem can_130 : canCall Tryz.prog 130 = true := by kernel_rfl
@[simp] theorem can_131 : canCall Tryz.prog 131 = true := by kernel_rfl
@[simp] theorem can_132 : canCall Tryz.prog 132 = true := by kernel_rfl
@[simp] theorem can_133 : canCall Tryz.prog 133 = true := by kernel_rfl
@[simp] theorem can_134 : canCall Tryz.prog 134 = true := by kernel_rfl
@[simp] theorem can_135 : canCall Tryz.prog 135 = true := by kernel_rfl
@[simp] theorem can_136 : canCall Tryz.prog 136 = true := by kernel_rfl
@[simp] theorem can_137 : canCall Tryz.prog 137 = true := by kernel_rfl
@[simp] theorem can_138 : canCall Tryz.prog 138 = true := by kernel_rfl
@[simp] theorem can_139 : canCall Tryz.prog 139 = true := by kernel_rfl
@[simp] theorem can_141 : canCall Tryz.prog 141 = true := by kernel_rfl
@[simp] theorem can_142 : canCall Tryz.prog 142 = true := by kernel_rfl
@[simp] theorem can_143 : canCall Tryz.prog 143 = true := by kernel_rfl
@[simp] theorem can_144 : canCall Tryz.prog 144 = true := by kernel_rfl
@[simp] theorem can_145 : canCall Tryz.prog 145 = true := by kernel_rfl
@[simp] theorem can_146 : canCall Tryz.prog 146 = true := by kernel_rfl
@[simp] theorem can_147 : canCall Tryz.prog 147 = true := by kernel_rfl
@[simp] theorem can_148 : canCall Tryz.prog 148 = true := by kernel_rfl
@[simp] theorem can_149 : canCall Tryz.prog 149 = true := by kernel_rfl
@[simp] theorem can_150 : canCall Tryz.prog 150 = true := by kernel_rfl
@[simp] theorem can_151 : canCall Tryz.prog 151 = true := by kernel_rfl
@[simp] theorem can_152 : canCall Tryz.prog 152 = true := by kernel_rfl
@[simp] theorem can_153 : canCall Tryz.prog 153 = true := by kernel_rfl
@[simp] theorem can_154 : canCall Tryz.prog 154 = true := by kernel_rfl
@[simp] theorem can_155 : canCall Tryz.prog 155 = true := by kernel_rfl
@[simp] theorem can_156 : canCall Tryz.prog 156 = true := by kernel_rfl
@[simp] theorem can_157 : canCall Tryz.prog 157 = true := by kernel_rfl
@[simp] theorem can_158 : canCall Tryz.prog 158 = true := by kernel_rfl
@[simp] theorem can_159 : canCall Tryz.prog 159 = true := by kernel_rfl
@[simp] theorem can_160 : canCall Tryz.prog 160 = true := by kernel_rfl
@[simp] theorem can_162 : canCall Tryz.prog 162 = true := by kernel_rfl
@[simp] theorem can_163 : canCall Tryz.prog 163 = true := by kernel_rfl
@[simp] theorem can_164 : canCall Tryz.prog 164 = true := by kernel_rfl
@[simp] theorem can_165 : canCall Tryz.prog 165 = true := by kernel_rfl
@[simp] theorem can_166 : canCall Tryz.prog 166 = true := by kernel_rfl
@[simp] theorem can_167 : canCall Tryz.prog 167 = true := by kernel_rfl
@[simp] theorem can_169 : canCall Tryz.prog 169 = true := by kernel_rfl
@[simp] theorem can_170 : canCall Tryz.prog 170 = true := by kernel_rfl
@[simp] theorem can_171 : canCall Tryz.prog 171 = true := by kernel_rfl
@[simp] theorem can_172 : canCall Tryz.prog 172 = true := by kernel_rfl
@[simp] theorem can_173 : canCall Tryz.prog 173 = true := by kernel_rfl
@[simp] theorem can_174 : canCall Tryz.prog 174 = true := by kernel_rfl
@[simp] theorem can_175 : canCall Tryz.prog 175 = true := by kernel_rfl
@[simp] theorem can_176 : canCall Tryz.prog 176 = true := by kernel_rfl
@[simp] theorem can_177 : canCall Tryz.prog 177 = true := by kernel_rfl
@[simp] theorem can_178 : canCall Tryz.prog 178 = true := by kernel_rfl
@[simp] theorem can_179 : canCall Tryz.prog 179 = true := by kernel_rfl
@[simp] theorem can_180 : canCall Tryz.prog 180 = true := by kernel_rfl
@[simp] theorem can_181 : canCall Tryz.prog 181 = true := by kernel_rfl
@[simp] theorem can_182 : canCall Tryz.prog 182 = true := by kernel_rfl
@[simp] theorem can_183 : canCall Tryz.prog 183 = true := by kernel_rfl
@[simp] theorem can_184 : canCall Tryz.prog 184 = true := by kernel_rfl
@[simp] theorem can_185 : canCall Tryz.prog 185 = true := by kernel_rfl
@[simp] theorem can_186 : canCall Tryz.prog 186 = true := by kernel_rfl
@[simp] theorem can_187 : canCall Tryz.prog 187 = true := by kernel_rfl
@[simp] theorem can_188 : canCall Tryz.prog 188 = true := by kernel_rfl
@[simp] theorem can_189 : canCall Tryz.prog 189 = true := by kernel_rfl
@[simp] theorem can_190 : canCall Tryz.prog 190 = true := by kernel_rfl
@[simp] theorem can_191 : canCall Tryz.prog 191 = true := by kernel_rfl
@[simp] theorem can_192 : canCall Tryz.prog 192 = true := by kernel_rfl
@[simp] theorem can_193 : canCall Tryz.prog 193 = true := by kernel_rfl
@[simp] theorem can_194 : canCall Tryz.prog 194 = true := by kernel_rfl
@[simp] theorem can_195 : canCall Tryz.prog 195 = true := by kernel_rfl
@[simp] theorem can_201 : canCall Tryz.prog 201 = true := by kernel_rfl
@[simp] theorem can_202 : canCall Tryz.prog 202 = true := by kernel_rfl
@[simp] theorem can_203 : canCall Tryz.prog 203 = true := by kernel_rfl
@[simp] theorem can_204 : canCall Tryz.prog 204 = true := by kernel_rfl
@[simp] theorem can_206 : canCall Tryz.prog 206 = true := by kernel_rfl
@[simp] theorem can_207 : canCall Tryz.prog 207 = true := by kernel_rfl
@[simp] theorem can_208 : canCall Tryz.prog 208 = true := by kernel_rfl
@[simp] theorem can_209 : canCall Tryz.prog 209 = true := by kernel_rfl
@[simp] theorem can_210 : canCall Tryz.prog 210 = true := by kernel_rfl
@[simp] theorem can_211 : canCall Tryz.prog 211 = true := by kernel_rfl
@[simp] theorem can_212 : canCall Tryz.prog 212 = true := by kernel_rfl
@[simp] theorem can_213 : canCall Tryz.prog 213 = true := by kernel_rfl
@[simp] theorem can_216 : canCall Tryz.prog 216 = true := by kernel_rfl
@[simp] theorem can_217 : canCall Tryz.prog 217 = true := by kernel_rfl
@[simp] theorem can_218 : canCall Tryz.prog 218 = true := by kernel_rfl
@[simp] theorem can_219 : canCall Tryz.prog 219 = true := by kernel_rfl
@[simp] theorem can_220 : canCall Tryz.prog 220 = true := by kernel_rfl
@[simp] theorem can_222 : canCall Tryz.prog 222 = true := by kernel_rfl
@[simp] theorem can_223 : canCall Tryz.prog 223 = true := by kernel_rfl
@[simp] theorem can_224 : canCall Tryz.prog 224 = true := by kernel_rfl
@[simp] theorem can_225 : canCall Tryz.prog 225 = true := by kernel_rfl
@[simp] theorem can_226 : canCall Tryz.prog 226 = true := by kernel_rfl
@[simp] theorem can_227 : canCall Tryz.prog 227 = true := by kernel_rfl
@[simp] theorem can_228 : canCall Tryz.prog 228 = true := by kernel_rfl
@[simp] theorem can_229 : canCall Tryz.prog 229 = true := by kernel_rfl
@[simp] theorem can_230 : canCall Tryz.prog 230 = true := by kernel_rfl
@[simp] theorem can_231 : canCall Tryz.prog 231 = true := by kernel_rfl
@[simp] theorem can_232 : canCall Tryz.prog 232 = true := by kernel_rfl
@[simp] theorem can_236 : canCall Tryz.prog 236 = true := by kernel_rfl
@[simp] theorem can_239 : canCall Tryz.prog 239 = true := by kernel_rfl
@[simp] theorem can_243 : canCall Tryz.prog 243 = true := by kernel_rfl
@[simp] theorem can_248 : canCall Tryz.prog 248 = true := by kernel_rfl
@[simp] theorem can_249 : canCall Tryz.prog 249 = true := by kernel_rfl
@[simp] theorem can_250 : canCall Tryz.prog 250 = true := by kernel_rfl
@[simp] theorem can_251 : canCall Tryz.prog 251 = true := by kernel_rfl
@[simp] theorem can_252 : canCall Tryz.prog 252 = true := by kernel_rfl
@[simp] theorem can_253 : canCall Tryz.prog 253 = true := by kernel_rfl
@[simp] theorem can_254 : canCall Tryz.prog 254 = true := by kernel_rfl
@[simp] theorem can_256 : canCall Tryz.prog 256 = true := by kernel_rfl
@[simp] theorem can_257 : canCall Tryz.prog 257 = true := by kernel_rfl
@[simp] theorem can_258 : canCall Tryz.prog 258 = true := by kernel_rfl
@[simp] theorem can_259 : canCall Tryz.prog 259 = true := by kernel_rfl
@[simp] theorem can_260 : canCall Tryz.prog 260 = true := by kernel_rfl
@[simp] theorem can_261 : canCall Tryz.prog 261 = true := by kernel_rfl
@[simp] theorem can_262 : canCall Tryz.prog 262 = true := by kernel_rfl
@[simp] theorem can_263 : canCall Tryz.prog 263 = true := by kernel_rfl
@[simp] theorem can_264 : canCall Tryz.prog 264 = true := by kernel_rfl
@[simp] theorem can_265 : canCall Tryz.prog 265 = true := by kernel_rfl
@[simp] theorem can_266 : canCall Tryz.prog 266 = true := by kernel_rfl
@[simp] theorem can_269 : canCall Tryz.prog 269 = true := by kernel_rfl
@[simp] theorem can_270 : canCall Tryz.prog 270 = true := by kernel_rfl
@[simp] theorem can_271 : canCall Tryz.prog 271 = true := by kernel_rfl
@[simp] theorem can_272 : canCall Tryz.prog 272 = true := by kernel_rfl
@[simp] theorem can_273 : canCall Tryz.prog 273 = true := by kernel_rfl
@[simp] theorem can_274 : canCall Tryz.prog 274 = true := by kernel_rfl
@[simp] theorem can_275 : canCall Tryz.prog 275 = true := by kernel_rfl
@[simp] theorem can_276 : canCall Tryz.prog 276 = true := by kernel_rfl
@[simp] theorem can_277 : canCall Tryz.prog 277 = true := by kernel_rfl
@[simp] theorem can_278 : canCall Tryz.prog 278 = true := by kernel_rfl
@[simp] theorem can_308 : canCall Tryz.prog 308 = true := by kernel_rfl
end Go.Proofs.YtmoncokklkiikaaGreatDoor
