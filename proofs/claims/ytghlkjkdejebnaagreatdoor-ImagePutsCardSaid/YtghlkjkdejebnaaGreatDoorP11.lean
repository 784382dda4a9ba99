/- Small facts on the types and the functions of this program, printed by facts.py. -/
import Derived.Test.YtghlkjkdejebnaaGreatDoorP08
import Derived.Test.YtghlkjkdejebnaaGreatDoorRows
set_option linter.unusedSimpArgs false
set_option linter.unusedVariables false
set_option linter.unnecessarySimpa false
namespace Go.Proofs.YtghlkjkdejebnaaGreatDoor
open Rg
theorem f_mixed : Tryz.prog.follows .mixedOrders = true := by kernel_rfl
@[simp] theorem tkd_2 : tkd Tryz.prog 2 = 2 := by kernel_rfl
@[simp] theorem tun_2 : (Tryz.prog.underlying 2).isSome = true := by kernel_rfl
@[simp] theorem tagg_2 : tagg Tryz.prog 2 = some false := by kernel_rfl
@[simp] theorem tsize_2 : tsize Tryz.prog 2 = some 1 := by kernel_rfl
@[simp] theorem tzero_2 : tzero Tryz.prog 2 = some (.int .i64 0) := by kernel_rfl
@[simp] theorem tint_2 : tint Tryz.prog 2 = some .i64 := by kernel_rfl
@[simp] theorem tkd_3 : tkd Tryz.prog 3 = 2 := by kernel_rfl
@[simp] theorem tun_3 : (Tryz.prog.underlying 3).isSome = true := by kernel_rfl
@[simp] theorem tagg_3 : tagg Tryz.prog 3 = some false := by kernel_rfl
@[simp] theorem tsize_3 : tsize Tryz.prog 3 = some 1 := by kernel_rfl
@[simp] theorem tzero_3 : tzero Tryz.prog 3 = some (.int .i64 0) := by kernel_rfl
@[simp] theorem tint_3 : tint Tryz.prog 3 = some .i64 := by kernel_rfl
@[simp] theorem tkd_4 : tkd Tryz.prog 4 = 1 := by kernel_rfl
@[simp] theorem tun_4 : (Tryz.prog.underlying 4).isSome = true := by kernel_rfl
@[simp] theorem tagg_4 : tagg Tryz.prog 4 = some false := by kernel_rfl
@[simp] theorem tsize_4 : tsize Tryz.prog 4 = some 1 := by kernel_rfl
@[simp] theorem tzero_4 : tzero Tryz.prog 4 = some (.bool false) := by kernel_rfl
@[simp] theorem tkd_5 : tkd Tryz.prog 5 = 2 := by kernel_rfl
@[simp] theorem tun_5 : (Tryz.prog.underlying 5).isSome = true := by kernel_rfl
@[simp] theorem tagg_5 : tagg Tryz.prog 5 = some false := by kernel_rfl
@[simp] theorem tsize_5 : tsize Tryz.prog 5 = some 1 := by kernel_rfl
@[simp] theorem tzero_5 : tzero Tryz.prog 5 = some (.int .u8 0) := by kernel_rfl
@[simp] theorem tint_5 : tint Tryz.prog 5 = some .u8 := by kernel_rfl
@[simp] theorem tkd_6 : tkd Tryz.prog 6 = 2 := by kernel_rfl
@[simp] theorem tun_6 : (Tryz.prog.underlying 6).isSome = true := by kernel_rfl
@[simp] theorem tagg_6 : tagg Tryz.prog 6 = some false := by kernel_rfl
@[simp] theorem tsize_6 : tsize Tryz.prog 6 = some 1 := by kernel_rfl
@[simp] theorem tzero_6 : tzero Tryz.prog 6 = some (.int .u8 0) := by kernel_rfl
@[simp] theorem tint_6 : tint Tryz.prog 6 = some .u8 := by kernel_rfl
@[simp] theorem tkd_7 : tkd Tryz.prog 7 = 9 := by kernel_rfl
@[simp] theorem tun_7 : (Tryz.prog.underlying 7).isSome = true := by kernel_rfl
@[simp] theorem tagg_7 : tagg Tryz.prog 7 = some true := by kernel_rfl
@[simp] theorem tsize_7 : tsize Tryz.prog 7 = some 4 := by kernel_rfl
@[simp] theorem tzero_7 : tzero Tryz.prog 7 = some (.agg #[.int .i64 0, .int .i64 0, .bool false, .int .u8 0]) := by kernel_rfl
@[simp] theorem tsizes_7 : tsizes Tryz.prog 7 = true := by kernel_rfl
@[simp] theorem tfield_7_0 : tfield Tryz.prog 7 0 = some (0, 2) := by kernel_rfl
@[simp] theorem tplace_7_0 : aplace Tryz.prog 7 0 = some (0, 1) := by kernel_rfl
@[simp] theorem tfield_7_1 : tfield Tryz.prog 7 1 = some (1, 3) := by kernel_rfl
@[simp] theorem tplace_7_1 : aplace Tryz.prog 7 1 = some (1, 1) := by kernel_rfl
@[simp] theorem tfield_7_2 : tfield Tryz.prog 7 2 = some (2, 4) := by kernel_rfl
@[simp] theorem tplace_7_2 : aplace Tryz.prog 7 2 = some (2, 1) := by kernel_rfl
@[simp] theorem tfield_7_3 : tfield Tryz.prog 7 3 = some (3, 6) := by kernel_rfl
@[simp] theorem tplace_7_3 : aplace Tryz.prog 7 3 = some (3, 1) := by kernel_rfl
@[simp] theorem tkd_8 : tkd Tryz.prog 8 = 9 := by kernel_rfl
@[simp] theorem tun_8 : (Tryz.prog.underlying 8).isSome = true := by kernel_rfl
@[simp] theorem tagg_8 : tagg Tryz.prog 8 = some true := by kernel_rfl
@[simp] theorem tsize_8 : tsize Tryz.prog 8 = some 4 := by kernel_rfl
@[simp] theorem tzero_8 : tzero Tryz.prog 8 = some (.agg #[.int .i64 0, .int .i64 0, .bool false, .int .u8 0]) := by kernel_rfl
@[simp] theorem tsizes_8 : tsizes Tryz.prog 8 = true := by kernel_rfl
@[simp] theorem tfield_8_0 : tfield Tryz.prog 8 0 = some (0, 2) := by kernel_rfl
@[simp] theorem tplace_8_0 : aplace Tryz.prog 8 0 = some (0, 1) := by kernel_rfl
@[simp] theorem tfield_8_1 : tfield Tryz.prog 8 1 = some (1, 3) := by kernel_rfl
@[simp] theorem tplace_8_1 : aplace Tryz.prog 8 1 = some (1, 1) := by kernel_rfl
@[simp] theorem tfield_8_2 : tfield Tryz.prog 8 2 = some (2, 4) := by kernel_rfl
@[simp] theorem tplace_8_2 : aplace Tryz.prog 8 2 = some (2, 1) := by kernel_rfl
@[simp] theorem tfield_8_3 : tfield Tryz.prog 8 3 = some (3, 6) := by kernel_rfl
@[simp] theorem tplace_8_3 : aplace Tryz.prog 8 3 = some (3, 1) := by kernel_rfl
@[simp] theorem tkd_9 : tkd Tryz.prog 9 = 3 := by kernel_rfl
@[simp] theorem tun_9 : (Tryz.prog.underlying 9).isSome = true := by kernel_rfl
@[simp] theorem tagg_9 : tagg Tryz.prog 9 = some false := by kernel_rfl
@[simp] theorem tsize_9 : tsize Tryz.prog 9 = some 1 := by kernel_rfl
@[simp] theorem tzero_9 : tzero Tryz.prog 9 = some (.string ByteArray.empty) := by kernel_rfl
@[simp] theorem tkd_10 : tkd Tryz.prog 10 = 3 := by kernel_rfl
@[simp] theorem tun_10 : (Tryz.prog.underlying 10).isSome = true := by kernel_rfl
@[simp] theorem tagg_10 : tagg Tryz.prog 10 = some false := by kernel_rfl
@[simp] theorem tsize_10 : tsize Tryz.prog 10 = some 1 := by kernel_rfl
@[simp] theorem tzero_10 : tzero Tryz.prog 10 = some (.string ByteArray.empty) := by kernel_rfl
@[simp] theorem tkd_11 : tkd Tryz.prog 11 = 3 := by kernel_rfl
@[simp] theorem tun_11 : (Tryz.prog.underlying 11).isSome = true := by kernel_rfl
@[simp] theorem tagg_11 : tagg Tryz.prog 11 = some false := by kernel_rfl
@[simp] theorem tsize_11 : tsize Tryz.prog 11 = some 1 := by kernel_rfl
@[simp] theorem tzero_11 : tzero Tryz.prog 11 = some (.string ByteArray.empty) := by kernel_rfl
@[simp] theorem tkd_12 : tkd Tryz.prog 12 = 2 := by kernel_rfl
@[simp] theorem tun_12 : (Tryz.prog.underlying 12).isSome = true := by kernel_rfl
@[simp] theorem tagg_12 : tagg Tryz.prog 12 = some false := by kernel_rfl
@[simp] theorem tsize_12 : tsize Tryz.prog 12 = some 1 := by kernel_rfl
@[simp] theorem tzero_12 : tzero Tryz.prog 12 = some (.int .u64 0) := by kernel_rfl
@[simp] theorem tint_12 : tint Tryz.prog 12 = some .u64 := by kernel_rfl
@[simp] theorem tkd_13 : tkd Tryz.prog 13 = 9 := by kernel_rfl
@[simp] theorem tun_13 : (Tryz.prog.underlying 13).isSome = true := by kernel_rfl
@[simp] theorem tagg_13 : tagg Tryz.prog 13 = some true := by kernel_rfl
@[simp] theorem tsize_13 : tsize Tryz.prog 13 = some 2 := by kernel_rfl
@[simp] theorem tzero_13 : tzero Tryz.prog 13 = some (.agg #[.string ByteArray.empty, .int .u64 0]) := by kernel_rfl
@[simp] theorem tsizes_13 : tsizes Tryz.prog 13 = true := by kernel_rfl
@[simp] theorem tfield_13_0 : tfield Tryz.prog 13 0 = some (0, 9) := by kernel_rfl
@[simp] theorem tplace_13_0 : aplace Tryz.prog 13 0 = some (0, 1) := by kernel_rfl
@[simp] theorem tfield_13_1 : tfield Tryz.prog 13 1 = some (1, 12) := by kernel_rfl
@[simp] theorem tplace_13_1 : aplace Tryz.prog 13 1 = some (1, 1) := by kernel_rfl
@[simp] theorem tkd_14 : tkd Tryz.prog 14 = 9 := by kernel_rfl
@[simp] theorem tun_14 : (Tryz.prog.underlying 14).isSome = true := by kernel_rfl
@[simp] theorem tagg_14 : tagg Tryz.prog 14 = some true := by kernel_rfl
@[simp] theorem tsize_14 : tsize Tryz.prog 14 = some 2 := by kernel_rfl
@[simp] theorem tzero_14 : tzero Tryz.prog 14 = some (.agg #[.string ByteArray.empty, .int .u64 0]) := by kernel_rfl
@[simp] theorem tsizes_14 : tsizes Tryz.prog 14 = true := by kernel_rfl
@[simp] theorem tfield_14_0 : tfield Tryz.prog 14 0 = some (0, 9) := by kernel_rfl
@[simp] theorem tplace_14_0 : aplace Tryz.prog 14 0 = some (0, 1) := by kernel_rfl
@[simp] theorem tfield_14_1 : tfield Tryz.prog 14 1 = some (1, 12) := by kernel_rfl
@[simp] theorem tplace_14_1 : aplace Tryz.prog 14 1 = some (1, 1) := by kernel_rfl
@[simp] theorem tkd_15 : tkd Tryz.prog 15 = 4 := by kernel_rfl
@[simp] theorem tun_15 : (Tryz.prog.underlying 15).isSome = true := by kernel_rfl
@[simp] theorem tagg_15 : tagg Tryz.prog 15 = some false := by kernel_rfl
@[simp] theorem tsize_15 : tsize Tryz.prog 15 = some 1 := by kernel_rfl
@[simp] theorem tzero_15 : tzero Tryz.prog 15 = some (.pointer none) := by kernel_rfl
@[simp] theorem tkd_16 : tkd Tryz.prog 16 = 4 := by kernel_rfl
@[simp] theorem tun_16 : (Tryz.prog.underlying 16).isSome = true := by kernel_rfl
@[simp] theorem tagg_16 : tagg Tryz.prog 16 = some false := by kernel_rfl
@[simp] theorem tsize_16 : tsize Tryz.prog 16 = some 1 := by kernel_rfl
@[simp] theorem tzero_16 : tzero Tryz.prog 16 = some (.pointer none) := by kernel_rfl
@[simp] theorem tkd_17 : tkd Tryz.prog 17 = 4 := by kernel_rfl
@[simp] theorem tun_17 : (Tryz.prog.underlying 17).isSome = true := by kernel_rfl
@[simp] theorem tagg_17 : tagg Tryz.prog 17 = some false := by kernel_rfl
@[simp] theorem tsize_17 : tsize Tryz.prog 17 = some 1 := by kernel_rfl
@[simp] theorem tzero_17 : tzero Tryz.prog 17 = some (.pointer none) := by kernel_rfl
@[simp] theorem tkd_18 : tkd Tryz.prog 18 = 9 := by kernel_rfl
@[simp] theorem tun_18 : (Tryz.prog.underlying 18).isSome = true := by kernel_rfl
@[simp] theorem tagg_18 : tagg Tryz.prog 18 = some true := by kernel_rfl
@[simp] theorem tsize_18 : tsize Tryz.prog 18 = some 1 := by kernel_rfl
@[simp] theorem tzero_18 : tzero Tryz.prog 18 = some (.agg #[.pointer none]) := by kernel_rfl
@[simp] theorem tsizes_18 : tsizes Tryz.prog 18 = true := by kernel_rfl
@[simp] theorem tfield_18_0 : tfield Tryz.prog 18 0 = some (0, 17) := by kernel_rfl
@[simp] theorem tplace_18_0 : aplace Tryz.prog 18 0 = some (0, 1) := by kernel_rfl
@[simp] theorem tkd_19 : tkd Tryz.prog 19 = 9 := by kernel_rfl
@[simp] theorem tun_19 : (Tryz.prog.underlying 19).isSome = true := by kernel_rfl
@[simp] theorem tagg_19 : tagg Tryz.prog 19 = some true := by kernel_rfl
@[simp] theorem tsize_19 : tsize Tryz.prog 19 = some 1 := by kernel_rfl
@[simp] theorem tzero_19 : tzero Tryz.prog 19 = some (.agg #[.pointer none]) := by kernel_rfl
@[simp] theorem tsizes_19 : tsizes Tryz.prog 19 = true := by kernel_rfl
@[simp] theorem tfield_19_0 : tfield Tryz.prog 19 0 = some (0, 17) := by kernel_rfl
@[simp] theorem tplace_19_0 : aplace Tryz.prog 19 0 = some (0, 1) := by kernel_rfl
@[simp] theorem tkd_20 : tkd Tryz.prog 20 = 8 := by kernel_rfl
@[simp] theorem tun_20 : (Tryz.prog.underlying 20).isSome = true := by kernel_rfl
@[simp] theorem tagg_20 : tagg Tryz.prog 20 = some false := by kernel_rfl
@[simp] theorem tsize_20 : tsize Tryz.prog 20 = some 1 := by kernel_rfl
@[simp] theorem tzero_20 : tzero Tryz.prog 20 = some (.nilIface) := by kernel_rfl
@[simp] theorem tkd_21 : tkd Tryz.prog 21 = 2 := by kernel_rfl
@[simp] theorem tun_21 : (Tryz.prog.underlying 21).isSome = true := by kernel_rfl
@[simp] theorem tagg_21 : tagg Tryz.prog 21 = some false := by kernel_rfl
@[simp] theorem tsize_21 : tsize Tryz.prog 21 = some 1 := by kernel_rfl
@[simp] theorem tzero_21 : tzero Tryz.prog 21 = some (.int .i32 0) := by kernel_rfl
@[simp] theorem tint_21 : tint Tryz.prog 21 = some .i32 := by kernel_rfl
@[simp] theorem tkd_22 : tkd Tryz.prog 22 = 2 := by kernel_rfl
@[simp] theorem tun_22 : (Tryz.prog.underlying 22).isSome = true := by kernel_rfl
@[simp] theorem tagg_22 : tagg Tryz.prog 22 = some false := by kernel_rfl
@[simp] theorem tsize_22 : tsize Tryz.prog 22 = some 1 := by kernel_rfl
@[simp] theorem tzero_22 : tzero Tryz.prog 22 = some (.int .u64 0) := by kernel_rfl
@[simp] theorem tint_22 : tint Tryz.prog 22 = some .u64 := by kernel_rfl
@[simp] theorem tkd_23 : tkd Tryz.prog 23 = 5 := by kernel_rfl
@[simp] theorem tun_23 : (Tryz.prog.underlying 23).isSome = true := by kernel_rfl
@[simp] theorem tagg_23 : tagg Tryz.prog 23 = some false := by kernel_rfl
@[simp] theorem tsize_23 : tsize Tryz.prog 23 = some 1 := by kernel_rfl
@[simp] theorem tzero_23 : tzero Tryz.prog 23 = some (.slice none 0 0) := by kernel_rfl
@[simp] theorem telem_23 : telem Tryz.prog 23 = some 22 := by kernel_rfl
theorem el_23 : ElemOk Tryz.prog 23 22 1 8 := ⟨by kernel_rfl, by kernel_rfl, by kernel_rfl, ⟨.int .u64 0, by kernel_rfl, by kernel_rfl⟩, by decide⟩
@[simp] theorem tkd_24 : tkd Tryz.prog 24 = 9 := by kernel_rfl
@[simp] theorem tun_24 : (Tryz.prog.underlying 24).isSome = true := by kernel_rfl
@[simp] theorem tagg_24 : tagg Tryz.prog 24 = some true := by kernel_rfl
@[simp] theorem tsize_24 : tsize Tryz.prog 24 = some 12 := by kernel_rfl
@[simp] theorem tzero_24 : tzero Tryz.prog 24 = some (.agg #[.int .u64 0, .string ByteArray.empty, .string ByteArray.empty, .int .i64 0, .int .i64 0, .int .i64 0, .int .i64 0, .int .i64 0, .slice none 0 0, .bool false, .int .u64 0, .int .i64 0]) := by kernel_rfl
@[simp] theorem tsizes_24 : tsizes Tryz.prog 24 = true := by kernel_rfl
@[simp] theorem tfield_24_0 : tfield Tryz.prog 24 0 = some (0, 22) := by kernel_rfl
@[simp] theorem tplace_24_0 : aplace Tryz.prog 24 0 = some (0, 1) := by kernel_rfl
@[simp] theorem tfield_24_1 : tfield Tryz.prog 24 1 = some (1, 9) := by kernel_rfl
@[simp] theorem tplace_24_1 : aplace Tryz.prog 24 1 = some (1, 1) := by kernel_rfl
@[simp] theorem tfield_24_2 : tfield Tryz.prog 24 2 = some (2, 9) := by kernel_rfl
@[simp] theorem tplace_24_2 : aplace Tryz.prog 24 2 = some (2, 1) := by kernel_rfl
@[simp] theorem tfield_24_3 : tfield Tryz.prog 24 3 = some (3, 3) := by kernel_rfl
@[simp] theorem tplace_24_3 : aplace Tryz.prog 24 3 = some (3, 1) := by kernel_rfl
@[simp] theorem tfield_24_4 : tfield Tryz.prog 24 4 = some (4, 2) := by kernel_rfl
@[simp] theorem tplace_24_4 : aplace Tryz.prog 24 4 = some (4, 1) := by kernel_rfl
@[simp] theorem tfield_24_5 : tfield Tryz.prog 24 5 = some (5, 3) := by kernel_rfl
@[simp] theorem tplace_24_5 : aplace Tryz.prog 24 5 = some (5, 1) := by kernel_rfl
@[simp] theorem tfield_24_6 : tfield Tryz.prog 24 6 = some (6, 3) := by kernel_rfl
@[simp] theorem tplace_24_6 : aplace Tryz.prog 24 6 = some (6, 1) := by kernel_rfl
@[simp] theorem tfield_24_7 : tfield Tryz.prog 24 7 = some (7, 2) := by kernel_rfl
@[simp] theorem tplace_24_7 : aplace Tryz.prog 24 7 = some (7, 1) := by kernel_rfl
@[simp] theorem tfield_24_8 : tfield Tryz.prog 24 8 = some (8, 23) := by kernel_rfl
@[simp] theorem tplace_24_8 : aplace Tryz.prog 24 8 = some (8, 1) := by kernel_rfl
@[simp] theorem tfield_24_9 : tfield Tryz.prog 24 9 = some (9, 4) := by kernel_rfl
@[simp] theorem tplace_24_9 : aplace Tryz.prog 24 9 = some (9, 1) := by kernel_rfl
@[simp] theorem tfield_24_10 : tfield Tryz.prog 24 10 = some (10, 22) := by kernel_rfl
@[simp] theorem tplace_24_10 : aplace Tryz.prog 24 10 = some (10, 1) := by kernel_rfl
@[simp] theorem tfield_24_11 : tfield Tryz.prog 24 11 = some (11, 2) := by kernel_rfl
@[simp] theorem tplace_24_11 : aplace Tryz.prog 24 11 = some (11, 1) := by kernel_rfl
@[simp] theorem tkd_25 : tkd Tryz.prog 25 = 9 := by kernel_rfl
@[simp] theorem tun_25 : (Tryz.prog.underlying 25).isSome = true := by kernel_rfl
@[simp] theorem tagg_25 : tagg Tryz.prog 25 = some true := by kernel_rfl
@[simp] theorem tsize_25 : tsize Tryz.prog 25 = some 12 := by kernel_rfl
@[simp] theorem tzero_25 : tzero Tryz.prog 25 = some (.agg #[.int .u64 0, .string ByteArray.empty, .string ByteArray.empty, .int .i64 0, .int .i64 0, .int .i64 0, .int .i64 0, .int .i64 0, .slice none 0 0, .bool false, .int .u64 0, .int .i64 0]) := by kernel_rfl
@[simp] theorem tsizes_25 : tsizes Tryz.prog 25 = true := by kernel_rfl
@[simp] theorem tfield_25_0 : tfield Tryz.prog 25 0 = some (0, 22) := by kernel_rfl
@[simp] theorem tplace_25_0 : aplace Tryz.prog 25 0 = some (0, 1) := by kernel_rfl
@[simp] theorem tfield_25_1 : tfield Tryz.prog 25 1 = some (1, 9) := by kernel_rfl
@[simp] theorem tplace_25_1 : aplace Tryz.prog 25 1 = some (1, 1) := by kernel_rfl
@[simp] theorem tfield_25_2 : tfield Tryz.prog 25 2 = some (2, 9) := by kernel_rfl
@[simp] theorem tplace_25_2 : aplace Tryz.prog 25 2 = some (2, 1) := by kernel_rfl
@[simp] theorem tfield_25_3 : tfield Tryz.prog 25 3 = some (3, 3) := by kernel_rfl
@[simp] theorem tplace_25_3 : aplace Tryz.prog 25 3 = some (3, 1) := by kernel_rfl
@[simp] theorem tfield_25_4 : tfield Tryz.prog 25 4 = some (4, 2) := by kernel_rfl
@[simp] theorem tplace_25_4 : aplace Tryz.prog 25 4 = some (4, 1) := by kernel_rfl
@[simp] theorem tfield_25_5 : tfield Tryz.prog 25 5 = some (5, 3) := by kernel_rfl
@[simp] theorem tplace_25_5 : aplace Tryz.prog 25 5 = some (5, 1) := by kernel_rfl
@[simp] theorem tfield_25_6 : tfield Tryz.prog 25 6 = some (6, 3) := by kernel_rfl
@[simp] theorem tplace_25_6 : aplace Tryz.prog 25 6 = some (6, 1) := by kernel_rfl
@[simp] theorem tfield_25_7 : tfield Tryz.prog 25 7 = some (7, 2) := by kernel_rfl
@[simp] theorem tplace_25_7 : aplace Tryz.prog 25 7 = some (7, 1) := by kernel_rfl
@[simp] theorem tfield_25_8 : tfield Tryz.prog 25 8 = some (8, 23) := by kernel_rfl
@[simp] theorem tplace_25_8 : aplace Tryz.prog 25 8 = some (8, 1) := by kernel_rfl
@[simp] theorem tfield_25_9 : tfield Tryz.prog 25 9 = some (9, 4) := by kernel_rfl
@[simp] theorem tplace_25_9 : aplace Tryz.prog 25 9 = some (9, 1) := by kernel_rfl
@[simp] theorem tfield_25_10 : tfield Tryz.prog 25 10 = some (10, 22) := by kernel_rfl
@[simp] theorem tplace_25_10 : aplace Tryz.prog 25 10 = some (10, 1) := by kernel_rfl
@[simp] theorem tfield_25_11 : tfield Tryz.prog 25 11 = some (11, 2) := by kernel_rfl
@[simp] theorem tplace_25_11 : aplace Tryz.prog 25 11 = some (11, 1) := by kernel_rfl
@[simp] theorem tkd_26 : tkd Tryz.prog 26 = 9 := by kernel_rfl
@[simp] theorem tun_26 : (Tryz.prog.underlying 26).isSome = true := by kernel_rfl
@[simp] theorem tagg_26 : tagg Tryz.prog 26 = some true := by kernel_rfl
@[simp] theorem tsize_26 : tsize Tryz.prog 26 = some 19 := by kernel_rfl
@[simp] theorem tzero_26 : tzero Tryz.prog 26 = some (.agg #[.int .i64 0, .int .u64 0, .int .u64 0, .int .u64 0, .int .i64 0, .int .u64 0, .int .u64 0, .int .u64 0, .string ByteArray.empty, .string ByteArray.empty, .int .i64 0, .int .i64 0, .int .i64 0, .int .i64 0, .int .i64 0, .slice none 0 0, .bool false, .int .u64 0, .int .i64 0]) := by kernel_rfl
@[simp] theorem tsizes_26 : tsizes Tryz.prog 26 = true := by kernel_rfl
@[simp] theorem tfield_26_0 : tfield Tryz.prog 26 0 = some (0, 3) := by kernel_rfl
@[simp] theorem tplace_26_0 : aplace Tryz.prog 26 0 = some (0, 1) := by kernel_rfl
@[simp] theorem tfield_26_1 : tfield Tryz.prog 26 1 = some (1, 22) := by kernel_rfl
@[simp] theorem tplace_26_1 : aplace Tryz.prog 26 1 = some (1, 1) := by kernel_rfl
@[simp] theorem tfield_26_2 : tfield Tryz.prog 26 2 = some (2, 22) := by kernel_rfl
@[simp] theorem tplace_26_2 : aplace Tryz.prog 26 2 = some (2, 1) := by kernel_rfl
@[simp] theorem tfield_26_3 : tfield Tryz.prog 26 3 = some (3, 22) := by kernel_rfl
@[simp] theorem tplace_26_3 : aplace Tryz.prog 26 3 = some (3, 1) := by kernel_rfl
@[simp] theorem tfield_26_4 : tfield Tryz.prog 26 4 = some (4, 2) := by kernel_rfl
@[simp] theorem tplace_26_4 : aplace Tryz.prog 26 4 = some (4, 1) := by kernel_rfl
@[simp] theorem tfield_26_5 : tfield Tryz.prog 26 5 = some (5, 22) := by kernel_rfl
@[simp] theorem tplace_26_5 : aplace Tryz.prog 26 5 = some (5, 1) := by kernel_rfl
@[simp] theorem tfield_26_6 : tfield Tryz.prog 26 6 = some (6, 22) := by kernel_rfl
@[simp] theorem tplace_26_6 : aplace Tryz.prog 26 6 = some (6, 1) := by kernel_rfl
@[simp] theorem tfield_26_7 : tfield Tryz.prog 26 7 = some (7, 25) := by kernel_rfl
@[simp] theorem tplace_26_7 : aplace Tryz.prog 26 7 = some (7, 12) := by kernel_rfl
@[simp] theorem tkd_27 : tkd Tryz.prog 27 = 9 := by kernel_rfl
@[simp] theorem tun_27 : (Tryz.prog.underlying 27).isSome = true := by kernel_rfl
@[simp] theorem tagg_27 : tagg Tryz.prog 27 = some true := by kernel_rfl
@[simp] theorem tsize_27 : tsize Tryz.prog 27 = some 19 := by kernel_rfl
@[simp] theorem tzero_27 : tzero Tryz.prog 27 = some (.agg #[.int .i64 0, .int .u64 0, .int .u64 0, .int .u64 0, .int .i64 0, .int .u64 0, .int .u64 0, .int .u64 0, .string ByteArray.empty, .string ByteArray.empty, .int .i64 0, .int .i64 0, .int .i64 0, .int .i64 0, .int .i64 0, .slice none 0 0, .bool false, .int .u64 0, .int .i64 0]) := by kernel_rfl
@[simp] theorem tsizes_27 : tsizes Tryz.prog 27 = true := by kernel_rfl
@[simp] theorem tfield_27_0 : tfield Tryz.prog 27 0 = some (0, 3) := by kernel_rfl
@[simp] theorem tplace_27_0 : aplace Tryz.prog 27 0 = some (0, 1) := by kernel_rfl
@[simp] theorem tfield_27_1 : tfield Tryz.prog 27 1 = some (1, 22) := by kernel_rfl
@[simp] theorem tplace_27_1 : aplace Tryz.prog 27 1 = some (1, 1) := by kernel_rfl
@[simp] theorem tfield_27_2 : tfield Tryz.prog 27 2 = some (2, 22) := by kernel_rfl
@[simp] theorem tplace_27_2 : aplace Tryz.prog 27 2 = some (2, 1) := by kernel_rfl
@[simp] theorem tfield_27_3 : tfield Tryz.prog 27 3 = some (3, 22) := by kernel_rfl
@[simp] theorem tplace_27_3 : aplace Tryz.prog 27 3 = some (3, 1) := by kernel_rfl
@[simp] theorem tfield_27_4 : tfield Tryz.prog 27 4 = some (4, 2) := by kernel_rfl
@[simp] theorem tplace_27_4 : aplace Tryz.prog 27 4 = some (4, 1) := by kernel_rfl
@[simp] theorem tfield_27_5 : tfield Tryz.prog 27 5 = some (5, 22) := by kernel_rfl
@[simp] theorem tplace_27_5 : aplace Tryz.prog 27 5 = some (5, 1) := by kernel_rfl
@[simp] theorem tfield_27_6 : tfield Tryz.prog 27 6 = some (6, 22) := by kernel_rfl
@[simp] theorem tplace_27_6 : aplace Tryz.prog 27 6 = some (6, 1) := by kernel_rfl
@[simp] theorem tfield_27_7 : tfield Tryz.prog 27 7 = some (7, 25) := by kernel_rfl
@[simp] theorem tplace_27_7 : aplace Tryz.prog 27 7 = some (7, 12) := by kernel_rfl
@[simp] theorem tkd_28 : tkd Tryz.prog 28 = 5 := by kernel_rfl
@[simp] theorem tun_28 : (Tryz.prog.underlying 28).isSome = true := by kernel_rfl
@[simp] theorem tagg_28 : tagg Tryz.prog 28 = some false := by kernel_rfl
@[simp] theorem tsize_28 : tsize Tryz.prog 28 = some 1 := by kernel_rfl
@[simp] theorem tzero_28 : tzero Tryz.prog 28 = some (.slice none 0 0) := by kernel_rfl
@[simp] theorem telem_28 : telem Tryz.prog 28 = some 5 := by kernel_rfl
theorem el_28 : ElemOk Tryz.prog 28 5 1 1 := ⟨by kernel_rfl, by kernel_rfl, by kernel_rfl, ⟨.int .u8 0, by kernel_rfl, by kernel_rfl⟩, by decide⟩
@[simp] theorem tkd_31 : tkd Tryz.prog 31 = 2 := by kernel_rfl
@[simp] theorem tun_31 : (Tryz.prog.underlying 31).isSome = true := by kernel_rfl
@[simp] theorem tagg_31 : tagg Tryz.prog 31 = some false := by kernel_rfl
@[simp] theorem tsize_31 : tsize Tryz.prog 31 = some 1 := by kernel_rfl
@[simp] theorem tzero_31 : tzero Tryz.prog 31 = some (.int .i64 0) := by kernel_rfl
@[simp] theorem tint_31 : tint Tryz.prog 31 = some .i64 := by kernel_rfl
@[simp] theorem tkd_40 : tkd Tryz.prog 40 = 5 := by kernel_rfl
@[simp] theorem tun_40 : (Tryz.prog.underlying 40).isSome = true := by kernel_rfl
@[simp] theorem tagg_40 : tagg Tryz.prog 40 = some false := by kernel_rfl
@[simp] theorem tsize_40 : tsize Tryz.prog 40 = some 1 := by kernel_rfl
@[simp] theorem tzero_40 : tzero Tryz.prog 40 = some (.slice none 0 0) := by kernel_rfl
@[simp] theorem telem_40 : telem Tryz.prog 40 = some 25 := by kernel_rfl
theorem el_40 : ElemOk Tryz.prog 40 25 12 128 := ⟨by kernel_rfl, by kernel_rfl, by kernel_rfl, ⟨.agg #[.int .u64 0, .string ByteArray.empty, .string ByteArray.empty, .int .i64 0, .int .i64 0, .int .i64 0, .int .i64 0, .int .i64 0, .slice none 0 0, .bool false, .int .u64 0, .int .i64 0], by kernel_rfl, by kernel_rfl⟩, by decide⟩
@[simp] theorem tkd_41 : tkd Tryz.prog 41 = 5 := by kernel_rfl
@[simp] theorem tun_41 : (Tryz.prog.underlying 41).isSome = true := by kernel_rfl
@[simp] theorem tagg_41 : tagg Tryz.prog 41 = some false := by kernel_rfl
@[simp] theorem tsize_41 : tsize Tryz.prog 41 = some 1 := by kernel_rfl
@[simp] theorem tzero_41 : tzero Tryz.prog 41 = some (.slice none 0 0) := by kernel_rfl
@[simp] theorem telem_41 : telem Tryz.prog 41 = some 100 := by kernel_rfl
theorem el_41 : ElemOk Tryz.prog 41 100 7 56 := ⟨by kernel_rfl, by kernel_rfl, by kernel_rfl, ⟨.agg #[.int .u64 0, .int .i64 0, .int .i64 0, .int .i64 0, .int .u64 0, .int .u64 0, .int .i64 0], by kernel_rfl, by kernel_rfl⟩, by decide⟩
@[simp] theorem tkd_42 : tkd Tryz.prog 42 = 5 := by kernel_rfl
@[simp] theorem tun_42 : (Tryz.prog.underlying 42).isSome = true := by kernel_rfl
@[simp] theorem tagg_42 : tagg Tryz.prog 42 = some false := by kernel_rfl
@[simp] theorem tsize_42 : tsize Tryz.prog 42 = some 1 := by kernel_rfl
@[simp] theorem tzero_42 : tzero Tryz.prog 42 = some (.slice none 0 0) := by kernel_rfl
@[simp] theorem telem_42 : telem Tryz.prog 42 = some 104 := by kernel_rfl
theorem el_42 : ElemOk Tryz.prog 42 104 4 32 := ⟨by kernel_rfl, by kernel_rfl, by kernel_rfl, ⟨.agg #[.int .u64 0, .int .u64 0, .int .i64 0, .int .u64 0], by kernel_rfl, by kernel_rfl⟩, by decide⟩
@[simp] theorem tkd_43 : tkd Tryz.prog 43 = 9 := by kernel_rfl
@[simp] theorem tun_43 : (Tryz.prog.underlying 43).isSome = true := by kernel_rfl
@[simp] theorem tagg_43 : tagg Tryz.prog 43 = some true := by kernel_rfl
@[simp] theorem tsize_43 : tsize Tryz.prog 43 = some 6 := by kernel_rfl
@[simp] theorem tzero_43 : tzero Tryz.prog 43 = some (.agg #[.slice none 0 0, .int .u64 0, .slice none 0 0, .slice none 0 0, .int .i64 0, .int .u64 0]) := by kernel_rfl
@[simp] theorem tsizes_43 : tsizes Tryz.prog 43 = true := by kernel_rfl
@[simp] theorem tfield_43_0 : tfield Tryz.prog 43 0 = some (0, 40) := by kernel_rfl
@[simp] theorem tplace_43_0 : aplace Tryz.prog 43 0 = some (0, 1) := by kernel_rfl
@[simp] theorem tfield_43_1 : tfield Tryz.prog 43 1 = some (1, 22) := by kernel_rfl
@[simp] theorem tplace_43_1 : aplace Tryz.prog 43 1 = some (1, 1) := by kernel_rfl
@[simp] theorem tfield_43_2 : tfield Tryz.prog 43 2 = some (2, 41) := by kernel_rfl
@[simp] theorem tplace_43_2 : aplace Tryz.prog 43 2 = some (2, 1) := by kernel_rfl
@[simp] theorem tfield_43_3 : tfield Tryz.prog 43 3 = some (3, 42) := by kernel_rfl
@[simp] theorem tplace_43_3 : aplace Tryz.prog 43 3 = some (3, 1) := by kernel_rfl
@[simp] theorem tfield_43_4 : tfield Tryz.prog 43 4 = some (4, 2) := by kernel_rfl
@[simp] theorem tplace_43_4 : aplace Tryz.prog 43 4 = some (4, 1) := by kernel_rfl
@[simp] theorem tfield_43_5 : tfield Tryz.prog 43 5 = some (5, 22) := by kernel_rfl
@[simp] theorem tplace_43_5 : aplace Tryz.prog 43 5 = some (5, 1) := by kernel_rfl
@[simp] theorem tkd_44 : tkd Tryz.prog 44 = 9 := by kernel_rfl
@[simp] theorem tun_44 : (Tryz.prog.underlying 44).isSome = true := by kernel_rfl
@[simp] theorem tagg_44 : tagg Tryz.prog 44 = some true := by kernel_rfl
@[simp] theorem tsize_44 : tsize Tryz.prog 44 = some 6 := by kernel_rfl
@[simp] theorem tzero_44 : tzero Tryz.prog 44 = some (.agg #[.slice none 0 0, .int .u64 0, .slice none 0 0, .slice none 0 0, .int .i64 0, .int .u64 0]) := by kernel_rfl
@[simp] theorem tsizes_44 : tsizes Tryz.prog 44 = true := by kernel_rfl
@[simp] theorem tfield_44_0 : tfield Tryz.prog 44 0 = some (0, 40) := by kernel_rfl
@[simp] theorem tplace_44_0 : aplace Tryz.prog 44 0 = some (0, 1) := by kernel_rfl
@[simp] theorem tfield_44_1 : tfield Tryz.prog 44 1 = some (1, 22) := by kernel_rfl
@[simp] theorem tplace_44_1 : aplace Tryz.prog 44 1 = some (1, 1) := by kernel_rfl
@[simp] theorem tfield_44_2 : tfield Tryz.prog 44 2 = some (2, 41) := by kernel_rfl
@[simp] theorem tplace_44_2 : aplace Tryz.prog 44 2 = some (2, 1) := by kernel_rfl
@[simp] theorem tfield_44_3 : tfield Tryz.prog 44 3 = some (3, 42) := by kernel_rfl
@[simp] theorem tplace_44_3 : aplace Tryz.prog 44 3 = some (3, 1) := by kernel_rfl
@[simp] theorem tfield_44_4 : tfield Tryz.prog 44 4 = some (4, 2) := by kernel_rfl
@[simp] theorem tplace_44_4 : aplace Tryz.prog 44 4 = some (4, 1) := by kernel_rfl
@[simp] theorem tfield_44_5 : tfield Tryz.prog 44 5 = some (5, 22) := by kernel_rfl
@[simp] theorem tplace_44_5 : aplace Tryz.prog 44 5 = some (5, 1) := by kernel_rfl
@[simp] theorem tkd_51 : tkd Tryz.prog 51 = 5 := by kernel_rfl
@[simp] theorem tun_51 : (Tryz.prog.underlying 51).isSome = true := by kernel_rfl
@[simp] theorem tagg_51 : tagg Tryz.prog 51 = some false := by kernel_rfl
@[simp] theorem tsize_51 : tsize Tryz.prog 51 = some 1 := by kernel_rfl
@[simp] theorem tzero_51 : tzero Tryz.prog 51 = some (.slice none 0 0) := by kernel_rfl
@[simp] theorem telem_51 : telem Tryz.prog 51 = some 58 := by kernel_rfl
@[simp] theorem tkd_52 : tkd Tryz.prog 52 = 4 := by kernel_rfl
@[simp] theorem tun_52 : (Tryz.prog.underlying 52).isSome = true := by kernel_rfl
@[simp] theorem tagg_52 : tagg Tryz.prog 52 = some false := by kernel_rfl
@[simp] theorem tsize_52 : tsize Tryz.prog 52 = some 1 := by kernel_rfl
@[simp] theorem tzero_52 : tzero Tryz.prog 52 = some (.pointer none) := by kernel_rfl
@[simp] theorem tkd_54 : tkd Tryz.prog 54 = 4 := by kernel_rfl
@[simp] theorem tun_54 : (Tryz.prog.underlying 54).isSome = true := by kernel_rfl
@[simp] theorem tagg_54 : tagg Tryz.prog 54 = some false := by kernel_rfl
@[simp] theorem tsize_54 : tsize Tryz.prog 54 = some 1 := by kernel_rfl
@[simp] theorem tzero_54 : tzero Tryz.prog 54 = some (.pointer none) := by kernel_rfl
@[simp] theorem tkd_55 : tkd Tryz.prog 55 = 9 := by kernel_rfl
@[simp] theorem tun_55 : (Tryz.prog.underlying 55).isSome = true := by kernel_rfl
@[simp] theorem tagg_55 : tagg Tryz.prog 55 = some true := by kernel_rfl
@[simp] theorem tsize_55 : tsize Tryz.prog 55 = some 2 := by kernel_rfl
@[simp] theorem tzero_55 : tzero Tryz.prog 55 = some (.agg #[.slice none 0 0, .int .u64 0]) := by kernel_rfl
@[simp] theorem tsizes_55 : tsizes Tryz.prog 55 = true := by kernel_rfl
@[simp] theorem tfield_55_0 : tfield Tryz.prog 55 0 = some (0, 40) := by kernel_rfl
@[simp] theorem tplace_55_0 : aplace Tryz.prog 55 0 = some (0, 1) := by kernel_rfl
@[simp] theorem tfield_55_1 : tfield Tryz.prog 55 1 = some (1, 22) := by kernel_rfl
@[simp] theorem tplace_55_1 : aplace Tryz.prog 55 1 = some (1, 1) := by kernel_rfl
@[simp] theorem tkd_56 : tkd Tryz.prog 56 = 9 := by kernel_rfl
@[simp] theorem tun_56 : (Tryz.prog.underlying 56).isSome = true := by kernel_rfl
@[simp] theorem tagg_56 : tagg Tryz.prog 56 = some true := by kernel_rfl
@[simp] theorem tsize_56 : tsize Tryz.prog 56 = some 2 := by kernel_rfl
@[simp] theorem tzero_56 : tzero Tryz.prog 56 = some (.agg #[.slice none 0 0, .int .u64 0]) := by kernel_rfl
@[simp] theorem tsizes_56 : tsizes Tryz.prog 56 = true := by kernel_rfl
@[simp] theorem tfield_56_0 : tfield Tryz.prog 56 0 = some (0, 40) := by kernel_rfl
@[simp] theorem tplace_56_0 : aplace Tryz.prog 56 0 = some (0, 1) := by kernel_rfl
@[simp] theorem tfield_56_1 : tfield Tryz.prog 56 1 = some (1, 22) := by kernel_rfl
@[simp] theorem tplace_56_1 : aplace Tryz.prog 56 1 = some (1, 1) := by kernel_rfl
@[simp] theorem tkd_57 : tkd Tryz.prog 57 = 9 := by kernel_rfl
@[simp] theorem tun_57 : (Tryz.prog.underlying 57).isSome = true := by kernel_rfl
@[simp] theorem tagg_57 : tagg Tryz.prog 57 = some true := by kernel_rfl
@[simp] theorem tsize_57 : tsize Tryz.prog 57 = some 16 := by kernel_rfl
@[simp] theorem tzero_57 : tzero Tryz.prog 57 = some (.agg #[.int .i64 0, .int .u64 0, .int .u64 0, .string ByteArray.empty, .string ByteArray.empty, .int .i64 0, .int .i64 0, .int .i64 0, .int .i64 0, .int .i64 0, .slice none 0 0, .bool false, .int .u64 0, .int .i64 0, .bool false, .int .i64 0]) := by kernel_rfl
@[simp] theorem tsizes_57 : tsizes Tryz.prog 57 = true := by kernel_rfl
@[simp] theorem tfield_57_0 : tfield Tryz.prog 57 0 = some (0, 3) := by kernel_rfl
@[simp] theorem tplace_57_0 : aplace Tryz.prog 57 0 = some (0, 1) := by kernel_rfl
@[simp] theorem tfield_57_1 : tfield Tryz.prog 57 1 = some (1, 22) := by kernel_rfl
@[simp] theorem tplace_57_1 : aplace Tryz.prog 57 1 = some (1, 1) := by kernel_rfl
@[simp] theorem tfield_57_2 : tfield Tryz.prog 57 2 = some (2, 25) := by kernel_rfl
@[simp] theorem tplace_57_2 : aplace Tryz.prog 57 2 = some (2, 12) := by kernel_rfl
@[simp] theorem tfield_57_3 : tfield Tryz.prog 57 3 = some (14, 4) := by kernel_rfl
@[simp] theorem tplace_57_3 : aplace Tryz.prog 57 3 = some (14, 1) := by kernel_rfl
@[simp] theorem tfield_57_4 : tfield Tryz.prog 57 4 = some (15, 2) := by kernel_rfl
@[simp] theorem tplace_57_4 : aplace Tryz.prog 57 4 = some (15, 1) := by kernel_rfl
@[simp] theorem tkd_58 : tkd Tryz.prog 58 = 9 := by kernel_rfl
@[simp] theorem tun_58 : (Tryz.prog.underlying 58).isSome = true := by kernel_rfl
@[simp] theorem tagg_58 : tagg Tryz.prog 58 = some true := by kernel_rfl
@[simp] theorem tsize_58 : tsize Tryz.prog 58 = some 16 := by kernel_rfl
@[simp] theorem tzero_58 : tzero Tryz.prog 58 = some (.agg #[.int .i64 0, .int .u64 0, .int .u64 0, .string ByteArray.empty, .string ByteArray.empty, .int .i64 0, .int .i64 0, .int .i64 0, .int .i64 0, .int .i64 0, .slice none 0 0, .bool false, .int .u64 0, .int .i64 0, .bool false, .int .i64 0]) := by kernel_rfl
@[simp] theorem tsizes_58 : tsizes Tryz.prog 58 = true := by kernel_rfl
@[simp] theorem tfield_58_0 : tfield Tryz.prog 58 0 = some (0, 3) := by kernel_rfl
@[simp] theorem tplace_58_0 : aplace Tryz.prog 58 0 = some (0, 1) := by kernel_rfl
@[simp] theorem tfield_58_1 : tfield Tryz.prog 58 1 = some (1, 22) := by kernel_rfl
@[simp] theorem tplace_58_1 : aplace Tryz.prog 58 1 = some (1, 1) := by kernel_rfl
@[simp] theorem tfield_58_2 : tfield Tryz.prog 58 2 = some (2, 25) := by kernel_rfl
@[simp] theorem tplace_58_2 : aplace Tryz.prog 58 2 = some (2, 12) := by kernel_rfl
@[simp] theorem tfield_58_3 : tfield Tryz.prog 58 3 = some (14, 4) := by kernel_rfl
@[simp] theorem tplace_58_3 : aplace Tryz.prog 58 3 = some (14, 1) := by kernel_rfl
@[simp] theorem tfield_58_4 : tfield Tryz.prog 58 4 = some (15, 2) := by kernel_rfl
@[simp] theorem tplace_58_4 : aplace Tryz.prog 58 4 = some (15, 1) := by kernel_rfl
@[simp] theorem tkd_74 : tkd Tryz.prog 74 = 5 := by kernel_rfl
@[simp] theorem tun_74 : (Tryz.prog.underlying 74).isSome = true := by kernel_rfl
@[simp] theorem tagg_74 : tagg Tryz.prog 74 = some false := by kernel_rfl
@[simp] theorem tsize_74 : tsize Tryz.prog 74 = some 1 := by kernel_rfl
@[simp] theorem tzero_74 : tzero Tryz.prog 74 = some (.slice none 0 0) := by kernel_rfl
@[simp] theorem telem_74 : telem Tryz.prog 74 = some 129 := by kernel_rfl
@[simp] theorem tkd_89 : tkd Tryz.prog 89 = 4 := by kernel_rfl
@[simp] theorem tun_89 : (Tryz.prog.underlying 89).isSome = true := by kernel_rfl
@[simp] theorem tagg_89 : tagg Tryz.prog 89 = some false := by kernel_rfl
@[simp] theorem tsize_89 : tsize Tryz.prog 89 = some 1 := by kernel_rfl
@[simp] theorem tzero_89 : tzero Tryz.prog 89 = some (.pointer none) := by kernel_rfl
@[simp] theorem tkd_90 : tkd Tryz.prog 90 = 9 := by kernel_rfl
@[simp] theorem tun_90 : (Tryz.prog.underlying 90).isSome = true := by kernel_rfl
@[simp] theorem tagg_90 : tagg Tryz.prog 90 = some true := by kernel_rfl
@[simp] theorem tsize_90 : tsize Tryz.prog 90 = some 2 := by kernel_rfl
@[simp] theorem tzero_90 : tzero Tryz.prog 90 = some (.agg #[.slice none 0 0, .int .i64 0]) := by kernel_rfl
@[simp] theorem tsizes_90 : tsizes Tryz.prog 90 = true := by kernel_rfl
@[simp] theorem tfield_90_0 : tfield Tryz.prog 90 0 = some (0, 28) := by kernel_rfl
@[simp] theorem tplace_90_0 : aplace Tryz.prog 90 0 = some (0, 1) := by kernel_rfl
@[simp] theorem tfield_90_1 : tfield Tryz.prog 90 1 = some (1, 3) := by kernel_rfl
@[simp] theorem tplace_90_1 : aplace Tryz.prog 90 1 = some (1, 1) := by kernel_rfl
@[simp] theorem tkd_91 : tkd Tryz.prog 91 = 9 := by kernel_rfl
@[simp] theorem tun_91 : (Tryz.prog.underlying 91).isSome = true := by kernel_rfl
@[simp] theorem tagg_91 : tagg Tryz.prog 91 = some true := by kernel_rfl
@[simp] theorem tsize_91 : tsize Tryz.prog 91 = some 2 := by kernel_rfl
@[simp] theorem tzero_91 : tzero Tryz.prog 91 = some (.agg #[.slice none 0 0, .int .i64 0]) := by kernel_rfl
@[simp] theorem tsizes_91 : tsizes Tryz.prog 91 = true := by kernel_rfl
@[simp] theorem tfield_91_0 : tfield Tryz.prog 91 0 = some (0, 28) := by kernel_rfl
@[simp] theorem tplace_91_0 : aplace Tryz.prog 91 0 = some (0, 1) := by kernel_rfl
@[simp] theorem tfield_91_1 : tfield Tryz.prog 91 1 = some (1, 3) := by kernel_rfl
@[simp] theorem tplace_91_1 : aplace Tryz.prog 91 1 = some (1, 1) := by kernel_rfl
@[simp] theorem tkd_94 : tkd Tryz.prog 94 = 4 := by kernel_rfl
@[simp] theorem tun_94 : (Tryz.prog.underlying 94).isSome = true := by kernel_rfl
@[simp] theorem tagg_94 : tagg Tryz.prog 94 = some false := by kernel_rfl
@[simp] theorem tsize_94 : tsize Tryz.prog 94 = some 1 := by kernel_rfl
@[simp] theorem tzero_94 : tzero Tryz.prog 94 = some (.pointer none) := by kernel_rfl
@[simp] theorem tkd_95 : tkd Tryz.prog 95 = 9 := by kernel_rfl
@[simp] theorem tun_95 : (Tryz.prog.underlying 95).isSome = true := by kernel_rfl
@[simp] theorem tagg_95 : tagg Tryz.prog 95 = some true := by kernel_rfl
@[simp] theorem tsize_95 : tsize Tryz.prog 95 = some 1 := by kernel_rfl
@[simp] theorem tzero_95 : tzero Tryz.prog 95 = some (.agg #[.slice none 0 0]) := by kernel_rfl
@[simp] theorem tsizes_95 : tsizes Tryz.prog 95 = true := by kernel_rfl
@[simp] theorem tfield_95_0 : tfield Tryz.prog 95 0 = some (0, 28) := by kernel_rfl
@[simp] theorem tplace_95_0 : aplace Tryz.prog 95 0 = some (0, 1) := by kernel_rfl
@[simp] theorem tkd_96 : tkd Tryz.prog 96 = 9 := by kernel_rfl
@[simp] theorem tun_96 : (Tryz.prog.underlying 96).isSome = true := by kernel_rfl
@[simp] theorem tagg_96 : tagg Tryz.prog 96 = some true := by kernel_rfl
@[simp] theorem tsize_96 : tsize Tryz.prog 96 = some 1 := by kernel_rfl
@[simp] theorem tzero_96 : tzero Tryz.prog 96 = some (.agg #[.slice none 0 0]) := by kernel_rfl
@[simp] theorem tsizes_96 : tsizes Tryz.prog 96 = true := by kernel_rfl
@[simp] theorem tfield_96_0 : tfield Tryz.prog 96 0 = some (0, 28) := by kernel_rfl
@[simp] theorem tplace_96_0 : aplace Tryz.prog 96 0 = some (0, 1) := by kernel_rfl
@[simp] theorem tkd_99 : tkd Tryz.prog 99 = 9 := by kernel_rfl
@[simp] theorem tun_99 : (Tryz.prog.underlying 99).isSome = true := by kernel_rfl
@[simp] theorem tagg_99 : tagg Tryz.prog 99 = some true := by kernel_rfl
@[simp] theorem tsize_99 : tsize Tryz.prog 99 = some 7 := by kernel_rfl
@[simp] theorem tzero_99 : tzero Tryz.prog 99 = some (.agg #[.int .u64 0, .int .i64 0, .int .i64 0, .int .i64 0, .int .u64 0, .int .u64 0, .int .i64 0]) := by kernel_rfl
@[simp] theorem tsizes_99 : tsizes Tryz.prog 99 = true := by kernel_rfl
@[simp] theorem tfield_99_0 : tfield Tryz.prog 99 0 = some (0, 22) := by kernel_rfl
@[simp] theorem tplace_99_0 : aplace Tryz.prog 99 0 = some (0, 1) := by kernel_rfl
@[simp] theorem tfield_99_1 : tfield Tryz.prog 99 1 = some (1, 2) := by kernel_rfl
@[simp] theorem tplace_99_1 : aplace Tryz.prog 99 1 = some (1, 1) := by kernel_rfl
@[simp] theorem tfield_99_2 : tfield Tryz.prog 99 2 = some (2, 3) := by kernel_rfl
@[simp] theorem tplace_99_2 : aplace Tryz.prog 99 2 = some (2, 1) := by kernel_rfl
@[simp] theorem tfield_99_3 : tfield Tryz.prog 99 3 = some (3, 3) := by kernel_rfl
@[simp] theorem tplace_99_3 : aplace Tryz.prog 99 3 = some (3, 1) := by kernel_rfl
@[simp] theorem tfield_99_4 : tfield Tryz.prog 99 4 = some (4, 22) := by kernel_rfl
@[simp] theorem tplace_99_4 : aplace Tryz.prog 99 4 = some (4, 1) := by kernel_rfl
@[simp] theorem tfield_99_5 : tfield Tryz.prog 99 5 = some (5, 22) := by kernel_rfl
@[simp] theorem tplace_99_5 : aplace Tryz.prog 99 5 = some (5, 1) := by kernel_rfl
@[simp] theorem tfield_99_6 : tfield Tryz.prog 99 6 = some (6, 2) := by kernel_rfl
@[simp] theorem tplace_99_6 : aplace Tryz.prog 99 6 = some (6, 1) := by kernel_rfl
@[simp] theorem tkd_100 : tkd Tryz.prog 100 = 9 := by kernel_rfl
@[simp] theorem tun_100 : (Tryz.prog.underlying 100).isSome = true := by kernel_rfl
@[simp] theorem tagg_100 : tagg Tryz.prog 100 = some true := by kernel_rfl
@[simp] theorem tsize_100 : tsize Tryz.prog 100 = some 7 := by kernel_rfl
@[simp] theorem tzero_100 : tzero Tryz.prog 100 = some (.agg #[.int .u64 0, .int .i64 0, .int .i64 0, .int .i64 0, .int .u64 0, .int .u64 0, .int .i64 0]) := by kernel_rfl
@[simp] theorem tsizes_100 : tsizes Tryz.prog 100 = true := by kernel_rfl
@[simp] theorem tfield_100_0 : tfield Tryz.prog 100 0 = some (0, 22) := by kernel_rfl
@[simp] theorem tplace_100_0 : aplace Tryz.prog 100 0 = some (0, 1) := by kernel_rfl
@[simp] theorem tfield_100_1 : tfield Tryz.prog 100 1 = some (1, 2) := by kernel_rfl
@[simp] theorem tplace_100_1 : aplace Tryz.prog 100 1 = some (1, 1) := by kernel_rfl
@[simp] theorem tfield_100_2 : tfield Tryz.prog 100 2 = some (2, 3) := by kernel_rfl
@[simp] theorem tplace_100_2 : aplace Tryz.prog 100 2 = some (2, 1) := by kernel_rfl
@[simp] theorem tfield_100_3 : tfield Tryz.prog 100 3 = some (3, 3) := by kernel_rfl
@[simp] theorem tplace_100_3 : aplace Tryz.prog 100 3 = some (3, 1) := by kernel_rfl
@[simp] theorem tfield_100_4 : tfield Tryz.prog 100 4 = some (4, 22) := by kernel_rfl
@[simp] theorem tplace_100_4 : aplace Tryz.prog 100 4 = some (4, 1) := by kernel_rfl
@[simp] theorem tfield_100_5 : tfield Tryz.prog 100 5 = some (5, 22) := by kernel_rfl
@[simp] theorem tplace_100_5 : aplace Tryz.prog 100 5 = some (5, 1) := by kernel_rfl
@[simp] theorem tfield_100_6 : tfield Tryz.prog 100 6 = some (6, 2) := by kernel_rfl
@[simp] theorem tplace_100_6 : aplace Tryz.prog 100 6 = some (6, 1) := by kernel_rfl
@[simp] theorem tkd_101 : tkd Tryz.prog 101 = 9 := by kernel_rfl
@[simp] theorem tun_101 : (Tryz.prog.underlying 101).isSome = true := by kernel_rfl
@[simp] theorem tagg_101 : tagg Tryz.prog 101 = some true := by kernel_rfl
@[simp] theorem tsize_101 : tsize Tryz.prog 101 = some 2 := by kernel_rfl
@[simp] theorem tzero_101 : tzero Tryz.prog 101 = some (.agg #[.int .i64 0, .int .u64 0]) := by kernel_rfl
@[simp] theorem tsizes_101 : tsizes Tryz.prog 101 = true := by kernel_rfl
@[simp] theorem tfield_101_0 : tfield Tryz.prog 101 0 = some (0, 31) := by kernel_rfl
@[simp] theorem tplace_101_0 : aplace Tryz.prog 101 0 = some (0, 1) := by kernel_rfl
@[simp] theorem tfield_101_1 : tfield Tryz.prog 101 1 = some (1, 22) := by kernel_rfl
@[simp] theorem tplace_101_1 : aplace Tryz.prog 101 1 = some (1, 1) := by kernel_rfl
@[simp] theorem tkd_102 : tkd Tryz.prog 102 = 9 := by kernel_rfl
@[simp] theorem tun_102 : (Tryz.prog.underlying 102).isSome = true := by kernel_rfl
@[simp] theorem tagg_102 : tagg Tryz.prog 102 = some true := by kernel_rfl
@[simp] theorem tsize_102 : tsize Tryz.prog 102 = some 2 := by kernel_rfl
@[simp] theorem tzero_102 : tzero Tryz.prog 102 = some (.agg #[.int .i64 0, .int .u64 0]) := by kernel_rfl
@[simp] theorem tsizes_102 : tsizes Tryz.prog 102 = true := by kernel_rfl
@[simp] theorem tfield_102_0 : tfield Tryz.prog 102 0 = some (0, 31) := by kernel_rfl
@[simp] theorem tplace_102_0 : aplace Tryz.prog 102 0 = some (0, 1) := by kernel_rfl
@[simp] theorem tfield_102_1 : tfield Tryz.prog 102 1 = some (1, 22) := by kernel_rfl
@[simp] theorem tplace_102_1 : aplace Tryz.prog 102 1 = some (1, 1) := by kernel_rfl
@[simp] theorem tkd_103 : tkd Tryz.prog 103 = 9 := by kernel_rfl
@[simp] theorem tun_103 : (Tryz.prog.underlying 103).isSome = true := by kernel_rfl
@[simp] theorem tagg_103 : tagg Tryz.prog 103 = some true := by kernel_rfl
@[simp] theorem tsize_103 : tsize Tryz.prog 103 = some 4 := by kernel_rfl
@[simp] theorem tzero_103 : tzero Tryz.prog 103 = some (.agg #[.int .u64 0, .int .u64 0, .int .i64 0, .int .u64 0]) := by kernel_rfl
@[simp] theorem tsizes_103 : tsizes Tryz.prog 103 = true := by kernel_rfl
@[simp] theorem tfield_103_0 : tfield Tryz.prog 103 0 = some (0, 22) := by kernel_rfl
@[simp] theorem tplace_103_0 : aplace Tryz.prog 103 0 = some (0, 1) := by kernel_rfl
@[simp] theorem tfield_103_1 : tfield Tryz.prog 103 1 = some (1, 22) := by kernel_rfl
@[simp] theorem tplace_103_1 : aplace Tryz.prog 103 1 = some (1, 1) := by kernel_rfl
@[simp] theorem tfield_103_2 : tfield Tryz.prog 103 2 = some (2, 102) := by kernel_rfl
@[simp] theorem tplace_103_2 : aplace Tryz.prog 103 2 = some (2, 2) := by kernel_rfl
@[simp] theorem tkd_104 : tkd Tryz.prog 104 = 9 := by kernel_rfl
@[simp] theorem tun_104 : (Tryz.prog.underlying 104).isSome = true := by kernel_rfl
@[simp] theorem tagg_104 : tagg Tryz.prog 104 = some true := by kernel_rfl
@[simp] theorem tsize_104 : tsize Tryz.prog 104 = some 4 := by kernel_rfl
@[simp] theorem tzero_104 : tzero Tryz.prog 104 = some (.agg #[.int .u64 0, .int .u64 0, .int .i64 0, .int .u64 0]) := by kernel_rfl
@[simp] theorem tsizes_104 : tsizes Tryz.prog 104 = true := by kernel_rfl
@[simp] theorem tfield_104_0 : tfield Tryz.prog 104 0 = some (0, 22) := by kernel_rfl
@[simp] theorem tplace_104_0 : aplace Tryz.prog 104 0 = some (0, 1) := by kernel_rfl
@[simp] theorem tfield_104_1 : tfield Tryz.prog 104 1 = some (1, 22) := by kernel_rfl
@[simp] theorem tplace_104_1 : aplace Tryz.prog 104 1 = some (1, 1) := by kernel_rfl
@[simp] theorem tfield_104_2 : tfield Tryz.prog 104 2 = some (2, 102) := by kernel_rfl
@[simp] theorem tplace_104_2 : aplace Tryz.prog 104 2 = some (2, 2) := by kernel_rfl
@[simp] theorem tkd_113 : tkd Tryz.prog 113 = 6 := by kernel_rfl
@[simp] theorem tun_113 : (Tryz.prog.underlying 113).isSome = true := by kernel_rfl
@[simp] theorem tagg_113 : tagg Tryz.prog 113 = some false := by kernel_rfl
@[simp] theorem tsize_113 : tsize Tryz.prog 113 = some 1 := by kernel_rfl
@[simp] theorem tzero_113 : tzero Tryz.prog 113 = some (.map none) := by kernel_rfl
@[simp] theorem tkd_114 : tkd Tryz.prog 114 = 9 := by kernel_rfl
@[simp] theorem tun_114 : (Tryz.prog.underlying 114).isSome = true := by kernel_rfl
@[simp] theorem tagg_114 : tagg Tryz.prog 114 = some true := by kernel_rfl
@[simp] theorem tsize_114 : tsize Tryz.prog 114 = some 2 := by kernel_rfl
@[simp] theorem tzero_114 : tzero Tryz.prog 114 = some (.agg #[.map none, .int .u64 0]) := by kernel_rfl
@[simp] theorem tsizes_114 : tsizes Tryz.prog 114 = true := by kernel_rfl
@[simp] theorem tfield_114_0 : tfield Tryz.prog 114 0 = some (0, 113) := by kernel_rfl
@[simp] theorem tplace_114_0 : aplace Tryz.prog 114 0 = some (0, 1) := by kernel_rfl
@[simp] theorem tfield_114_1 : tfield Tryz.prog 114 1 = some (1, 22) := by kernel_rfl
@[simp] theorem tplace_114_1 : aplace Tryz.prog 114 1 = some (1, 1) := by kernel_rfl
@[simp] theorem tkd_115 : tkd Tryz.prog 115 = 9 := by kernel_rfl
@[simp] theorem tun_115 : (Tryz.prog.underlying 115).isSome = true := by kernel_rfl
@[simp] theorem tagg_115 : tagg Tryz.prog 115 = some true := by kernel_rfl
@[simp] theorem tsize_115 : tsize Tryz.prog 115 = some 2 := by kernel_rfl
@[simp] theorem tzero_115 : tzero Tryz.prog 115 = some (.agg #[.map none, .int .u64 0]) := by kernel_rfl
@[simp] theorem tsizes_115 : tsizes Tryz.prog 115 = true := by kernel_rfl
@[simp] theorem tfield_115_0 : tfield Tryz.prog 115 0 = some (0, 113) := by kernel_rfl
@[simp] theorem tplace_115_0 : aplace Tryz.prog 115 0 = some (0, 1) := by kernel_rfl
@[simp] theorem tfield_115_1 : tfield Tryz.prog 115 1 = some (1, 22) := by kernel_rfl
@[simp] theorem tplace_115_1 : aplace Tryz.prog 115 1 = some (1, 1) := by kernel_rfl
@[simp] theorem tkd_125 : tkd Tryz.prog 125 = 7 := by kernel_rfl
@[simp] theorem tun_125 : (Tryz.prog.underlying 125).isSome = true := by kernel_rfl
@[simp] theorem tagg_125 : tagg Tryz.prog 125 = some false := by kernel_rfl
@[simp] theorem tsize_125 : tsize Tryz.prog 125 = some 1 := by kernel_rfl
@[simp] theorem tzero_125 : tzero Tryz.prog 125 = some (.nilFunc) := by kernel_rfl
@[simp] theorem tkd_128 : tkd Tryz.prog 128 = 9 := by kernel_rfl
@[simp] theorem tun_128 : (Tryz.prog.underlying 128).isSome = true := by kernel_rfl
@[simp] theorem tagg_128 : tagg Tryz.prog 128 = some true := by kernel_rfl
@[simp] theorem tsize_128 : tsize Tryz.prog 128 = some 2 := by kernel_rfl
@[simp] theorem tzero_128 : tzero Tryz.prog 128 = some (.agg #[.int .u64 0, .slice none 0 0]) := by kernel_rfl
@[simp] theorem tsizes_128 : tsizes Tryz.prog 128 = true := by kernel_rfl
@[simp] theorem tfield_128_0 : tfield Tryz.prog 128 0 = some (0, 22) := by kernel_rfl
@[simp] theorem tplace_128_0 : aplace Tryz.prog 128 0 = some (0, 1) := by kernel_rfl
@[simp] theorem tfield_128_1 : tfield Tryz.prog 128 1 = some (1, 23) := by kernel_rfl
@[simp] theorem tplace_128_1 : aplace Tryz.prog 128 1 = some (1, 1) := by kernel_rfl
@[simp] theorem tkd_129 : tkd Tryz.prog 129 = 9 := by kernel_rfl
@[simp] theorem tun_129 : (Tryz.prog.underlying 129).isSome = true := by kernel_rfl
@[simp] theorem tagg_129 : tagg Tryz.prog 129 = some true := by kernel_rfl
@[simp] theorem tsize_129 : tsize Tryz.prog 129 = some 2 := by kernel_rfl
@[simp] theorem tzero_129 : tzero Tryz.prog 129 = some (.agg #[.int .u64 0, .slice none 0 0]) := by kernel_rfl
@[simp] theorem tsizes_129 : tsizes Tryz.prog 129 = true := by kernel_rfl
@[simp] theorem tfield_129_0 : tfield Tryz.prog 129 0 = some (0, 22) := by kernel_rfl
@[simp] theorem tplace_129_0 : aplace Tryz.prog 129 0 = some (0, 1) := by kernel_rfl
@[simp] theorem tfield_129_1 : tfield Tryz.prog 129 1 = some (1, 23) := by kernel_rfl
@[simp] theorem tplace_129_1 : aplace Tryz.prog 129 1 = some (1, 1) := by kernel_rfl
@[simp] theorem tkd_133 : tkd Tryz.prog 133 = 2 := by kernel_rfl
@[simp] theorem tun_133 : (Tryz.prog.underlying 133).isSome = true := by kernel_rfl
@[simp] theorem tagg_133 : tagg Tryz.prog 133 = some false := by kernel_rfl
@[simp] theorem tsize_133 : tsize Tryz.prog 133 = some 1 := by kernel_rfl
@[simp] theorem tzero_133 : tzero Tryz.prog 133 = some (.int .u64 0) := by kernel_rfl
@[simp] theorem tint_133 : tint Tryz.prog 133 = some .u64 := by kernel_rfl
@[simp] theorem tkd_136 : tkd Tryz.prog 136 = 5 := by kernel_rfl
@[simp] theorem tun_136 : (Tryz.prog.underlying 136).isSome = true := by kernel_rfl
@[simp] theorem tagg_136 : tagg Tryz.prog 136 = some false := by kernel_rfl
@[simp] theorem tsize_136 : tsize Tryz.prog 136 = some 1 := by kernel_rfl
@[simp] theorem tzero_136 : tzero Tryz.prog 136 = some (.slice none 0 0) := by kernel_rfl
@[simp] theorem telem_136 : telem Tryz.prog 136 = some 28 := by kernel_rfl
@[simp] theorem tkd_141 : tkd Tryz.prog 141 = 9 := by kernel_rfl
@[simp] theorem tun_141 : (Tryz.prog.underlying 141).isSome = true := by kernel_rfl
@[simp] theorem tagg_141 : tagg Tryz.prog 141 = some true := by kernel_rfl
@[simp] theorem tsize_141 : tsize Tryz.prog 141 = some 2 := by kernel_rfl
@[simp] theorem tzero_141 : tzero Tryz.prog 141 = some (.agg #[.int .u64 0, .bool false]) := by kernel_rfl
@[simp] theorem tsizes_141 : tsizes Tryz.prog 141 = true := by kernel_rfl
@[simp] theorem tfield_141_0 : tfield Tryz.prog 141 0 = some (0, 22) := by kernel_rfl
@[simp] theorem tplace_141_0 : aplace Tryz.prog 141 0 = some (0, 1) := by kernel_rfl
@[simp] theorem tfield_141_1 : tfield Tryz.prog 141 1 = some (1, 4) := by kernel_rfl
@[simp] theorem tplace_141_1 : aplace Tryz.prog 141 1 = some (1, 1) := by kernel_rfl
@[simp] theorem tkd_142 : tkd Tryz.prog 142 = 9 := by kernel_rfl
@[simp] theorem tun_142 : (Tryz.prog.underlying 142).isSome = true := by kernel_rfl
@[simp] theorem tagg_142 : tagg Tryz.prog 142 = some true := by kernel_rfl
@[simp] theorem tsize_142 : tsize Tryz.prog 142 = some 2 := by kernel_rfl
@[simp] theorem tzero_142 : tzero Tryz.prog 142 = some (.agg #[.int .u64 0, .bool false]) := by kernel_rfl
@[simp] theorem tsizes_142 : tsizes Tryz.prog 142 = true := by kernel_rfl
@[simp] theorem tfield_142_0 : tfield Tryz.prog 142 0 = some (0, 22) := by kernel_rfl
@[simp] theorem tplace_142_0 : aplace Tryz.prog 142 0 = some (0, 1) := by kernel_rfl
@[simp] theorem tfield_142_1 : tfield Tryz.prog 142 1 = some (1, 4) := by kernel_rfl
@[simp] theorem tplace_142_1 : aplace Tryz.prog 142 1 = some (1, 1) := by kernel_rfl
@[simp] theorem tkd_143 : tkd Tryz.prog 143 = 10 := by kernel_rfl
@[simp] theorem tun_143 : (Tryz.prog.underlying 143).isSome = true := by kernel_rfl
@[simp] theorem tagg_143 : tagg Tryz.prog 143 = some true := by kernel_rfl
@[simp] theorem tsize_143 : tsize Tryz.prog 143 = some 10 := by kernel_rfl
@[simp] theorem tzero_143 : tzero Tryz.prog 143 = some (.agg #[.int .u64 0, .bool false, .int .u64 0, .bool false, .int .u64 0, .bool false, .int .u64 0, .bool false, .int .u64 0, .bool false]) := by kernel_rfl
@[simp] theorem tarr_143 : tarr Tryz.prog 143 = some (5, 142) := by kernel_rfl
@[simp] theorem tsizes_143 : tsizes Tryz.prog 143 = true := by kernel_rfl
@[simp] theorem tplace_143_0 : aplace Tryz.prog 143 0 = some (0, 2) := by kernel_rfl
@[simp] theorem tplace_143_1 : aplace Tryz.prog 143 1 = some (2, 2) := by kernel_rfl
@[simp] theorem tplace_143_2 : aplace Tryz.prog 143 2 = some (4, 2) := by kernel_rfl
@[simp] theorem tplace_143_3 : aplace Tryz.prog 143 3 = some (6, 2) := by kernel_rfl
@[simp] theorem tplace_143_4 : aplace Tryz.prog 143 4 = some (8, 2) := by kernel_rfl
@[simp] theorem tkd_144 : tkd Tryz.prog 144 = 10 := by kernel_rfl
@[simp] theorem tun_144 : (Tryz.prog.underlying 144).isSome = true := by kernel_rfl
@[simp] theorem tagg_144 : tagg Tryz.prog 144 = some true := by kernel_rfl
@[simp] theorem tsize_144 : tsize Tryz.prog 144 = some 10 := by kernel_rfl
@[simp] theorem tzero_144 : tzero Tryz.prog 144 = some (.agg #[.int .u64 0, .bool false, .int .u64 0, .bool false, .int .u64 0, .bool false, .int .u64 0, .bool false, .int .u64 0, .bool false]) := by kernel_rfl
@[simp] theorem tarr_144 : tarr Tryz.prog 144 = some (5, 142) := by kernel_rfl
@[simp] theorem tsizes_144 : tsizes Tryz.prog 144 = true := by kernel_rfl
@[simp] theorem tplace_144_0 : aplace Tryz.prog 144 0 = some (0, 2) := by kernel_rfl
@[simp] theorem tplace_144_1 : aplace Tryz.prog 144 1 = some (2, 2) := by kernel_rfl
@[simp] theorem tplace_144_2 : aplace Tryz.prog 144 2 = some (4, 2) := by kernel_rfl
@[simp] theorem tplace_144_3 : aplace Tryz.prog 144 3 = some (6, 2) := by kernel_rfl
@[simp] theorem tplace_144_4 : aplace Tryz.prog 144 4 = some (8, 2) := by kernel_rfl
@[simp] theorem tkd_148 : tkd Tryz.prog 148 = 5 := by kernel_rfl
@[simp] theorem tun_148 : (Tryz.prog.underlying 148).isSome = true := by kernel_rfl
@[simp] theorem tagg_148 : tagg Tryz.prog 148 = some false := by kernel_rfl
@[simp] theorem tsize_148 : tsize Tryz.prog 148 = some 1 := by kernel_rfl
@[simp] theorem tzero_148 : tzero Tryz.prog 148 = some (.slice none 0 0) := by kernel_rfl
@[simp] theorem telem_148 : telem Tryz.prog 148 = some 2 := by kernel_rfl
@[simp] theorem tkd_157 : tkd Tryz.prog 157 = 6 := by kernel_rfl
@[simp] theorem tun_157 : (Tryz.prog.underlying 157).isSome = true := by kernel_rfl
@[simp] theorem tagg_157 : tagg Tryz.prog 157 = some false := by kernel_rfl
@[simp] theorem tsize_157 : tsize Tryz.prog 157 = some 1 := by kernel_rfl
@[simp] theorem tzero_157 : tzero Tryz.prog 157 = some (.map none) := by kernel_rfl
@[simp] theorem tkd_164 : tkd Tryz.prog 164 = 5 := by kernel_rfl
@[simp] theorem tun_164 : (Tryz.prog.underlying 164).isSome = true := by kernel_rfl
@[simp] theorem tagg_164 : tagg Tryz.prog 164 = some false := by kernel_rfl
@[simp] theorem tsize_164 : tsize Tryz.prog 164 = some 1 := by kernel_rfl
@[simp] theorem tzero_164 : tzero Tryz.prog 164 = some (.slice none 0 0) := by kernel_rfl
@[simp] theorem telem_164 : telem Tryz.prog 164 = some 9 := by kernel_rfl
theorem el_164 : ElemOk Tryz.prog 164 9 1 16 := ⟨by kernel_rfl, by kernel_rfl, by kernel_rfl, ⟨.string ByteArray.empty, by kernel_rfl, by kernel_rfl⟩, by decide⟩
@[simp] theorem tkd_176 : tkd Tryz.prog 176 = 5 := by kernel_rfl
@[simp] theorem tun_176 : (Tryz.prog.underlying 176).isSome = true := by kernel_rfl
@[simp] theorem tagg_176 : tagg Tryz.prog 176 = some false := by kernel_rfl
@[simp] theorem tsize_176 : tsize Tryz.prog 176 = some 1 := by kernel_rfl
@[simp] theorem tzero_176 : tzero Tryz.prog 176 = some (.slice none 0 0) := by kernel_rfl
@[simp] theorem telem_176 : telem Tryz.prog 176 = some 3 := by kernel_rfl
theorem el_176 : ElemOk Tryz.prog 176 3 1 8 := ⟨by kernel_rfl, by kernel_rfl, by kernel_rfl, ⟨.int .i64 0, by kernel_rfl, by kernel_rfl⟩, by decide⟩
@[simp] theorem tkd_181 : tkd Tryz.prog 181 = 2 := by kernel_rfl
@[simp] theorem tun_181 : (Tryz.prog.underlying 181).isSome = true := by kernel_rfl
@[simp] theorem tagg_181 : tagg Tryz.prog 181 = some false := by kernel_rfl
@[simp] theorem tsize_181 : tsize Tryz.prog 181 = some 1 := by kernel_rfl
@[simp] theorem tzero_181 : tzero Tryz.prog 181 = some (.int .i64 0) := by kernel_rfl
@[simp] theorem tint_181 : tint Tryz.prog 181 = some .i64 := by kernel_rfl
@[simp] theorem tkd_190 : tkd Tryz.prog 190 = 2 := by kernel_rfl
@[simp] theorem tun_190 : (Tryz.prog.underlying 190).isSome = true := by kernel_rfl
@[simp] theorem tagg_190 : tagg Tryz.prog 190 = some false := by kernel_rfl
@[simp] theorem tsize_190 : tsize Tryz.prog 190 = some 1 := by kernel_rfl
@[simp] theorem tzero_190 : tzero Tryz.prog 190 = some (.int .u32 0) := by kernel_rfl
@[simp] theorem tint_190 : tint Tryz.prog 190 = some .u32 := by kernel_rfl
@[simp] theorem tkd_200 : tkd Tryz.prog 200 = 2 := by kernel_rfl
@[simp] theorem tun_200 : (Tryz.prog.underlying 200).isSome = true := by kernel_rfl
@[simp] theorem tagg_200 : tagg Tryz.prog 200 = some false := by kernel_rfl
@[simp] theorem tsize_200 : tsize Tryz.prog 200 = some 1 := by kernel_rfl
@[simp] theorem tzero_200 : tzero Tryz.prog 200 = some (.int .u64 0) := by kernel_rfl
@[simp] theorem tint_200 : tint Tryz.prog 200 = some .u64 := by kernel_rfl
@[simp] theorem tkd_203 : tkd Tryz.prog 203 = 4 := by kernel_rfl
@[simp] theorem tun_203 : (Tryz.prog.underlying 203).isSome = true := by kernel_rfl
@[simp] theorem tagg_203 : tagg Tryz.prog 203 = some false := by kernel_rfl
@[simp] theorem tsize_203 : tsize Tryz.prog 203 = some 1 := by kernel_rfl
@[simp] theorem tzero_203 : tzero Tryz.prog 203 = some (.pointer none) := by kernel_rfl
@[simp] theorem tkd_208 : tkd Tryz.prog 208 = 10 := by kernel_rfl
@[simp] theorem tun_208 : (Tryz.prog.underlying 208).isSome = true := by kernel_rfl
@[simp] theorem tagg_208 : tagg Tryz.prog 208 = some true := by kernel_rfl
@[simp] theorem tsize_208 : tsize Tryz.prog 208 = some 3 := by kernel_rfl
@[simp] theorem tzero_208 : tzero Tryz.prog 208 = some (.agg #[.int .i64 0, .int .i64 0, .int .i64 0]) := by kernel_rfl
@[simp] theorem tarr_208 : tarr Tryz.prog 208 = some (3, 3) := by kernel_rfl
@[simp] theorem tsizes_208 : tsizes Tryz.prog 208 = true := by kernel_rfl
@[simp] theorem tplace_208_0 : aplace Tryz.prog 208 0 = some (0, 1) := by kernel_rfl
@[simp] theorem tplace_208_1 : aplace Tryz.prog 208 1 = some (1, 1) := by kernel_rfl
@[simp] theorem tplace_208_2 : aplace Tryz.prog 208 2 = some (2, 1) := by kernel_rfl
@[simp] theorem tkd_209 : tkd Tryz.prog 209 = 10 := by kernel_rfl
@[simp] theorem tun_209 : (Tryz.prog.underlying 209).isSome = true := by kernel_rfl
@[simp] theorem tagg_209 : tagg Tryz.prog 209 = some true := by kernel_rfl
@[simp] theorem tsize_209 : tsize Tryz.prog 209 = some 15 := by kernel_rfl
@[simp] theorem tzero_209 : tzero Tryz.prog 209 = some (.agg #[.int .i64 0, .int .i64 0, .int .i64 0, .int .i64 0, .int .i64 0, .int .i64 0, .int .i64 0, .int .i64 0, .int .i64 0, .int .i64 0, .int .i64 0, .int .i64 0, .int .i64 0, .int .i64 0, .int .i64 0]) := by kernel_rfl
@[simp] theorem tarr_209 : tarr Tryz.prog 209 = some (5, 208) := by kernel_rfl
@[simp] theorem tsizes_209 : tsizes Tryz.prog 209 = true := by kernel_rfl
@[simp] theorem tplace_209_0 : aplace Tryz.prog 209 0 = some (0, 3) := by kernel_rfl
@[simp] theorem tplace_209_1 : aplace Tryz.prog 209 1 = some (3, 3) := by kernel_rfl
@[simp] theorem tplace_209_2 : aplace Tryz.prog 209 2 = some (6, 3) := by kernel_rfl
@[simp] theorem tplace_209_3 : aplace Tryz.prog 209 3 = some (9, 3) := by kernel_rfl
@[simp] theorem tplace_209_4 : aplace Tryz.prog 209 4 = some (12, 3) := by kernel_rfl
@[simp] theorem tkd_211 : tkd Tryz.prog 211 = 8 := by kernel_rfl
@[simp] theorem tun_211 : (Tryz.prog.underlying 211).isSome = true := by kernel_rfl
@[simp] theorem tagg_211 : tagg Tryz.prog 211 = some false := by kernel_rfl
@[simp] theorem tsize_211 : tsize Tryz.prog 211 = some 1 := by kernel_rfl
@[simp] theorem tzero_211 : tzero Tryz.prog 211 = some (.nilIface) := by kernel_rfl
@[simp] theorem tkd_212 : tkd Tryz.prog 212 = 8 := by kernel_rfl
@[simp] theorem tun_212 : (Tryz.prog.underlying 212).isSome = true := by kernel_rfl
@[simp] theorem tagg_212 : tagg Tryz.prog 212 = some false := by kernel_rfl
@[simp] theorem tsize_212 : tsize Tryz.prog 212 = some 1 := by kernel_rfl
@[simp] theorem tzero_212 : tzero Tryz.prog 212 = some (.nilIface) := by kernel_rfl
@[simp] theorem tkd_215 : tkd Tryz.prog 215 = 10 := by kernel_rfl
@[simp] theorem tun_215 : (Tryz.prog.underlying 215).isSome = true := by kernel_rfl
@[simp] theorem tagg_215 : tagg Tryz.prog 215 = some true := by kernel_rfl
@[simp] theorem tsize_215 : tsize Tryz.prog 215 = some 13 := by kernel_rfl
@[simp] theorem tzero_215 : tzero Tryz.prog 215 = some (.agg #[.string ByteArray.empty, .string ByteArray.empty, .string ByteArray.empty, .string ByteArray.empty, .string ByteArray.empty, .string ByteArray.empty, .string ByteArray.empty, .string ByteArray.empty, .string ByteArray.empty, .string ByteArray.empty, .string ByteArray.empty, .string ByteArray.empty, .string ByteArray.empty]) := by kernel_rfl
@[simp] theorem tarr_215 : tarr Tryz.prog 215 = some (13, 9) := by kernel_rfl
@[simp] theorem tsizes_215 : tsizes Tryz.prog 215 = true := by kernel_rfl
@[simp] theorem tplace_215_0 : aplace Tryz.prog 215 0 = some (0, 1) := by kernel_rfl
@[simp] theorem tplace_215_1 : aplace Tryz.prog 215 1 = some (1, 1) := by kernel_rfl
@[simp] theorem tplace_215_2 : aplace Tryz.prog 215 2 = some (2, 1) := by kernel_rfl
@[simp] theorem tplace_215_3 : aplace Tryz.prog 215 3 = some (3, 1) := by kernel_rfl
@[simp] theorem tplace_215_4 : aplace Tryz.prog 215 4 = some (4, 1) := by kernel_rfl
@[simp] theorem tplace_215_5 : aplace Tryz.prog 215 5 = some (5, 1) := by kernel_rfl
@[simp] theorem tplace_215_6 : aplace Tryz.prog 215 6 = some (6, 1) := by kernel_rfl
@[simp] theorem tplace_215_7 : aplace Tryz.prog 215 7 = some (7, 1) := by kernel_rfl
@[simp] theorem tplace_215_8 : aplace Tryz.prog 215 8 = some (8, 1) := by kernel_rfl
@[simp] theorem tplace_215_9 : aplace Tryz.prog 215 9 = some (9, 1) := by kernel_rfl
@[simp] theorem tplace_215_10 : aplace Tryz.prog 215 10 = some (10, 1) := by kernel_rfl
@[simp] theorem tplace_215_11 : aplace Tryz.prog 215 11 = some (11, 1) := by kernel_rfl
@[simp] theorem tplace_215_12 : aplace Tryz.prog 215 12 = some (12, 1) := by kernel_rfl
@[simp] theorem tkd_216 : tkd Tryz.prog 216 = 10 := by kernel_rfl
@[simp] theorem tun_216 : (Tryz.prog.underlying 216).isSome = true := by kernel_rfl
@[simp] theorem tagg_216 : tagg Tryz.prog 216 = some true := by kernel_rfl
@[simp] theorem tsize_216 : tsize Tryz.prog 216 = some 7 := by kernel_rfl
@[simp] theorem tzero_216 : tzero Tryz.prog 216 = some (.agg #[.string ByteArray.empty, .string ByteArray.empty, .string ByteArray.empty, .string ByteArray.empty, .string ByteArray.empty, .string ByteArray.empty, .string ByteArray.empty]) := by kernel_rfl
@[simp] theorem tarr_216 : tarr Tryz.prog 216 = some (7, 9) := by kernel_rfl
@[simp] theorem tsizes_216 : tsizes Tryz.prog 216 = true := by kernel_rfl
@[simp] theorem tplace_216_0 : aplace Tryz.prog 216 0 = some (0, 1) := by kernel_rfl
@[simp] theorem tplace_216_1 : aplace Tryz.prog 216 1 = some (1, 1) := by kernel_rfl
@[simp] theorem tplace_216_2 : aplace Tryz.prog 216 2 = some (2, 1) := by kernel_rfl
@[simp] theorem tplace_216_3 : aplace Tryz.prog 216 3 = some (3, 1) := by kernel_rfl
@[simp] theorem tplace_216_4 : aplace Tryz.prog 216 4 = some (4, 1) := by kernel_rfl
@[simp] theorem tplace_216_5 : aplace Tryz.prog 216 5 = some (5, 1) := by kernel_rfl
@[simp] theorem tplace_216_6 : aplace Tryz.prog 216 6 = some (6, 1) := by kernel_rfl
@[simp] theorem tkd_220 : tkd Tryz.prog 220 = 10 := by kernel_rfl
@[simp] theorem tun_220 : (Tryz.prog.underlying 220).isSome = true := by kernel_rfl
@[simp] theorem tagg_220 : tagg Tryz.prog 220 = some true := by kernel_rfl
@[simp] theorem tsize_220 : tsize Tryz.prog 220 = some 5 := by kernel_rfl
@[simp] theorem tzero_220 : tzero Tryz.prog 220 = some (.agg #[.int .i64 0, .int .i64 0, .int .i64 0, .int .i64 0, .int .i64 0]) := by kernel_rfl
@[simp] theorem tarr_220 : tarr Tryz.prog 220 = some (5, 3) := by kernel_rfl
@[simp] theorem tsizes_220 : tsizes Tryz.prog 220 = true := by kernel_rfl
@[simp] theorem tplace_220_0 : aplace Tryz.prog 220 0 = some (0, 1) := by kernel_rfl
@[simp] theorem tplace_220_1 : aplace Tryz.prog 220 1 = some (1, 1) := by kernel_rfl
@[simp] theorem tplace_220_2 : aplace Tryz.prog 220 2 = some (2, 1) := by kernel_rfl
@[simp] theorem tplace_220_3 : aplace Tryz.prog 220 3 = some (3, 1) := by kernel_rfl
@[simp] theorem tplace_220_4 : aplace Tryz.prog 220 4 = some (4, 1) := by kernel_rfl
@[simp] theorem tkd_221 : tkd Tryz.prog 221 = 4 := by kernel_rfl
@[simp] theorem tun_221 : (Tryz.prog.underlying 221).isSome = true := by kernel_rfl
@[simp] theorem tagg_221 : tagg Tryz.prog 221 = some false := by kernel_rfl
@[simp] theorem tsize_221 : tsize Tryz.prog 221 = some 1 := by kernel_rfl
@[simp] theorem tzero_221 : tzero Tryz.prog 221 = some (.pointer none) := by kernel_rfl
@[simp] theorem tkd_225 : tkd Tryz.prog 225 = 10 := by kernel_rfl
@[simp] theorem tun_225 : (Tryz.prog.underlying 225).isSome = true := by kernel_rfl
@[simp] theorem tagg_225 : tagg Tryz.prog 225 = some true := by kernel_rfl
@[simp] theorem tsize_225 : tsize Tryz.prog 225 = some 256 := by kernel_rfl
@[simp] theorem tzero_225 : tzero Tryz.prog 225 = some (.agg #[.bool false, .bool false, .bool false, .bool false, .bool false, .bool false, .bool false, .bool false, .bool false, .bool false, .bool false, .bool false, .bool false, .bool false, .bool false, .bool false, .bool false, .bool false, .bool false, .bool false, .bool false, .bool false, .bool false, .bool false, .bool false, .bool false, .bool false, .bool false, .bool false, .bool false, .bool false, .bool false, .bool false, .bool false, .bool false, .bool false, .bool false, .bool false, .bool false, .bool false, .bool false, .bool false, .bool false, .bool false, .bool false, .bool false, .bool false, .bool false, .bool false, .bool false, .bool false, .bool false, .bool false, .bool false, .bool false, .bool false, .bool false, .bool false, .bool false, .bool false, .bool false, .bool false, .bool false, .bool false, .bool false, .bool false, .bool false, .bool false, .bool false, .bool false, .bool false, .bool false, .bool false, .bool false, .bool false, .bool false, .bool false, .bool false, .bool false, .bool false, .bool false, .bool false, .bool false, .bool false, .bool false, .bool false, .bool false, .bool false, .bool false, .bool false, .bool false, .bool false, .bool false, .bool false, .bool false, .bool false, .bool false, .bool false, .bool false, .bool false, .bool false, .bool false, .bool false, .bool false, .bool false, .bool false, .bool false, .bool false, .bool false, .bool false, .bool false, .bool false, .bool false, .bool false, .bool false, .bool false, .bool false, .bool false, .bool false, .bool false, .bool false, .bool false, .bool false, .bool false, .bool false, .bool false, .bool false, .bool false, .bool false, .bool false, .bool false, .bool false, .bool false, .bool false, .bool false, .bool false, .bool false, .bool false, .bool false, .bool false, .bool false, .bool false, .bool false, .bool false, .bool false, .bool false, .bool false, .bool false, .bool false, .bool false, .bool false, .bool false, .bool false, .bool false, .bool false, .bool false, .bool false, .bool false, .bool false, .bool false, .bool false, .bool false, .bool false, .bool false, .bool false, .bool false, .bool false, .bool false, .bool false, .bool false, .bool false, .bool false, .bool false, .bool false, .bool false, .bool false, .bool false, .bool false, .bool false, .bool false, .bool false, .bool false, .bool false, .bool false, .bool false, .bool false, .bool false, .bool false, .bool false, .bool false, .bool false, .bool false, .bool false, .bool false, .bool false, .bool false, .bool false, .bool false, .bool false, .bool false, .bool false, .bool false, .bool false, .bool false, .bool false, .bool false, .bool false, .bool false, .bool false, .bool false, .bool false, .bool false, .bool false, .bool false, .bool false, .bool false, .bool false, .bool false, .bool false, .bool false, .bool false, .bool false, .bool false, .bool false, .bool false, .bool false, .bool false, .bool false, .bool false, .bool false, .bool false, .bool false, .bool false, .bool false, .bool false, .bool false, .bool false, .bool false, .bool false, .bool false, .bool false, .bool false, .bool false, .bool false, .bool false, .bool false, .bool false, .bool false, .bool false, .bool false, .bool false, .bool false, .bool false, .bool false, .bool false, .bool false]) := by kernel_rfl
@[simp] theorem tarr_225 : tarr Tryz.prog 225 = some (256, 4) := by kernel_rfl
@[simp] theorem tsizes_225 : tsizes Tryz.prog 225 = true := by kernel_rfl
@[simp] theorem tplace_225_0 : aplace Tryz.prog 225 0 = some (0, 1) := by kernel_rfl
@[simp] theorem tplace_225_1 : aplace Tryz.prog 225 1 = some (1, 1) := by kernel_rfl
@[simp] theorem tplace_225_2 : aplace Tryz.prog 225 2 = some (2, 1) := by kernel_rfl
@[simp] theorem tplace_225_3 : aplace Tryz.prog 225 3 = some (3, 1) := by kernel_rfl
@[simp] theorem tplace_225_4 : aplace Tryz.prog 225 4 = some (4, 1) := by kernel_rfl
@[simp] theorem tplace_225_5 : aplace Tryz.prog 225 5 = some (5, 1) := by kernel_rfl
@[simp] theorem tplace_225_6 : aplace Tryz.prog 225 6 = some (6, 1) := by kernel_rfl
@[simp] theorem tplace_225_7 : aplace Tryz.prog 225 7 = some (7, 1) := by kernel_rfl
@[simp] theorem tplace_225_8 : aplace Tryz.prog 225 8 = some (8, 1) := by kernel_rfl
@[simp] theorem tplace_225_9 : aplace Tryz.prog 225 9 = some (9, 1) := by kernel_rfl
@[simp] theorem tplace_225_10 : aplace Tryz.prog 225 10 = some (10, 1) := by kernel_rfl
@[simp] theorem tplace_225_11 : aplace Tryz.prog 225 11 = some (11, 1) := by kernel_rfl
@[simp] theorem tplace_225_12 : aplace Tryz.prog 225 12 = some (12, 1) := by kernel_rfl
@[simp] theorem tplace_225_13 : aplace Tryz.prog 225 13 = some (13, 1) := by kernel_rfl
@[simp] theorem tplace_225_14 : aplace Tryz.prog 225 14 = some (14, 1) := by kernel_rfl
@[simp] theorem tplace_225_15 : aplace Tryz.prog 225 15 = some (15, 1) := by kernel_rfl
@[simp] theorem tkd_226 : tkd Tryz.prog 226 = 10 := by kernel_rfl
@[simp] theorem tun_226 : (Tryz.prog.underlying 226).isSome = true := by kernel_rfl
@[simp] theorem tagg_226 : tagg Tryz.prog 226 = some true := by kernel_rfl
@[simp] theorem tsize_226 : tsize Tryz.prog 226 = some 256 := by kernel_rfl
@[simp] theorem tzero_226 : tzero Tryz.prog 226 = some (.agg #[.bool false, .bool false, .bool false, .bool false, .bool false, .bool false, .bool false, .bool false, .bool false, .bool false, .bool false, .bool false, .bool false, .bool false, .bool false, .bool false, .bool false, .bool false, .bool false, .bool false, .bool false, .bool false, .bool false, .bool false, .bool false, .bool false, .bool false, .bool false, .bool false, .bool false, .bool false, .bool false, .bool false, .bool false, .bool false, .bool false, .bool false, .bool false, .bool false, .bool false, .bool false, .bool false, .bool false, .bool false, .bool false, .bool false, .bool false, .bool false, .bool false, .bool false, .bool false, .bool false, .bool false, .bool false, .bool false, .bool false, .bool false, .bool false, .bool false, .bool false, .bool false, .bool false, .bool false, .bool false, .bool false, .bool false, .bool false, .bool false, .bool false, .bool false, .bool false, .bool false, .bool false, .bool false, .bool false, .bool false, .bool false, .bool false, .bool false, .bool false, .bool false, .bool false, .bool false, .bool false, .bool false, .bool false, .bool false, .bool false, .bool false, .bool false, .bool false, .bool false, .bool false, .bool false, .bool false, .bool false, .bool false, .bool false, .bool false, .bool false, .bool false, .bool false, .bool false, .bool false, .bool false, .bool false, .bool false, .bool false, .bool false, .bool false, .bool false, .bool false, .bool false, .bool false, .bool false, .bool false, .bool false, .bool false, .bool false, .bool false, .bool false, .bool false, .bool false, .bool false, .bool false, .bool false, .bool false, .bool false, .bool false, .bool false, .bool false, .bool false, .bool false, .bool false, .bool false, .bool false, .bool false, .bool false, .bool false, .bool false, .bool false, .bool false, .bool false, .bool false, .bool false, .bool false, .bool false, .bool false, .bool false, .bool false, .bool false, .bool false, .bool false, .bool false, .bool false, .bool false, .bool false, .bool false, .bool false, .bool false, .bool false, .bool false, .bool false, .bool false, .bool false, .bool false, .bool false, .bool false, .bool false, .bool false, .bool false, .bool false, .bool false, .bool false, .bool false, .bool false, .bool false, .bool false, .bool false, .bool false, .bool false, .bool false, .bool false, .bool false, .bool false, .bool false, .bool false, .bool false, .bool false, .bool false, .bool false, .bool false, .bool false, .bool false, .bool false, .bool false, .bool false, .bool false, .bool false, .bool false, .bool false, .bool false, .bool false, .bool false, .bool false, .bool false, .bool false, .bool false, .bool false, .bool false, .bool false, .bool false, .bool false, .bool false, .bool false, .bool false, .bool false, .bool false, .bool false, .bool false, .bool false, .bool false, .bool false, .bool false, .bool false, .bool false, .bool false, .bool false, .bool false, .bool false, .bool false, .bool false, .bool false, .bool false, .bool false, .bool false, .bool false, .bool false, .bool false, .bool false, .bool false, .bool false, .bool false, .bool false, .bool false, .bool false, .bool false, .bool false, .bool false, .bool false, .bool false, .bool false, .bool false, .bool false, .bool false, .bool false]) := by kernel_rfl
@[simp] theorem tarr_226 : tarr Tryz.prog 226 = some (256, 4) := by kernel_rfl
@[simp] theorem tsizes_226 : tsizes Tryz.prog 226 = true := by kernel_rfl
@[simp] theorem tplace_226_0 : aplace Tryz.prog 226 0 = some (0, 1) := by kernel_rfl
@[simp] theorem tplace_226_1 : aplace Tryz.prog 226 1 = some (1, 1) := by kernel_rfl
@[simp] theorem tplace_226_2 : aplace Tryz.prog 226 2 = some (2, 1) := by kernel_rfl
@[simp] theorem tplace_226_3 : aplace Tryz.prog 226 3 = some (3, 1) := by kernel_rfl
@[simp] theorem tplace_226_4 : aplace Tryz.prog 226 4 = some (4, 1) := by kernel_rfl
@[simp] theorem tplace_226_5 : aplace Tryz.prog 226 5 = some (5, 1) := by kernel_rfl
@[simp] theorem tplace_226_6 : aplace Tryz.prog 226 6 = some (6, 1) := by kernel_rfl
@[simp] theorem tplace_226_7 : aplace Tryz.prog 226 7 = some (7, 1) := by kernel_rfl
@[simp] theorem tplace_226_8 : aplace Tryz.prog 226 8 = some (8, 1) := by kernel_rfl
@[simp] theorem tplace_226_9 : aplace Tryz.prog 226 9 = some (9, 1) := by kernel_rfl
@[simp] theorem tplace_226_10 : aplace Tryz.prog 226 10 = some (10, 1) := by kernel_rfl
@[simp] theorem tplace_226_11 : aplace Tryz.prog 226 11 = some (11, 1) := by kernel_rfl
@[simp] theorem tplace_226_12 : aplace Tryz.prog 226 12 = some (12, 1) := by kernel_rfl
@[simp] theorem tplace_226_13 : aplace Tryz.prog 226 13 = some (13, 1) := by kernel_rfl
@[simp] theorem tplace_226_14 : aplace Tryz.prog 226 14 = some (14, 1) := by kernel_rfl
@[simp] theorem tplace_226_15 : aplace Tryz.prog 226 15 = some (15, 1) := by kernel_rfl
@[simp] theorem tkd_230 : tkd Tryz.prog 230 = 4 := by kernel_rfl
@[simp] theorem tun_230 : (Tryz.prog.underlying 230).isSome = true := by kernel_rfl
@[simp] theorem tagg_230 : tagg Tryz.prog 230 = some false := by kernel_rfl
@[simp] theorem tsize_230 : tsize Tryz.prog 230 = some 1 := by kernel_rfl
@[simp] theorem tzero_230 : tzero Tryz.prog 230 = some (.pointer none) := by kernel_rfl
@[simp] theorem tkd_232 : tkd Tryz.prog 232 = 4 := by kernel_rfl
@[simp] theorem tun_232 : (Tryz.prog.underlying 232).isSome = true := by kernel_rfl
@[simp] theorem tagg_232 : tagg Tryz.prog 232 = some false := by kernel_rfl
@[simp] theorem tsize_232 : tsize Tryz.prog 232 = some 1 := by kernel_rfl
@[simp] theorem tzero_232 : tzero Tryz.prog 232 = some (.pointer none) := by kernel_rfl
@[simp] theorem tkd_233 : tkd Tryz.prog 233 = 9 := by kernel_rfl
@[simp] theorem tun_233 : (Tryz.prog.underlying 233).isSome = true := by kernel_rfl
@[simp] theorem tagg_233 : tagg Tryz.prog 233 = some true := by kernel_rfl
@[simp] theorem tsize_233 : tsize Tryz.prog 233 = some 2 := by kernel_rfl
@[simp] theorem tzero_233 : tzero Tryz.prog 233 = some (.agg #[.pointer none, .slice none 0 0]) := by kernel_rfl
@[simp] theorem tsizes_233 : tsizes Tryz.prog 233 = true := by kernel_rfl
@[simp] theorem tfield_233_0 : tfield Tryz.prog 233 0 = some (0, 232) := by kernel_rfl
@[simp] theorem tplace_233_0 : aplace Tryz.prog 233 0 = some (0, 1) := by kernel_rfl
@[simp] theorem tfield_233_1 : tfield Tryz.prog 233 1 = some (1, 28) := by kernel_rfl
@[simp] theorem tplace_233_1 : aplace Tryz.prog 233 1 = some (1, 1) := by kernel_rfl
@[simp] theorem tkd_234 : tkd Tryz.prog 234 = 9 := by kernel_rfl
@[simp] theorem tun_234 : (Tryz.prog.underlying 234).isSome = true := by kernel_rfl
@[simp] theorem tagg_234 : tagg Tryz.prog 234 = some true := by kernel_rfl
@[simp] theorem tsize_234 : tsize Tryz.prog 234 = some 2 := by kernel_rfl
@[simp] theorem tzero_234 : tzero Tryz.prog 234 = some (.agg #[.pointer none, .slice none 0 0]) := by kernel_rfl
@[simp] theorem tsizes_234 : tsizes Tryz.prog 234 = true := by kernel_rfl
@[simp] theorem tfield_234_0 : tfield Tryz.prog 234 0 = some (0, 232) := by kernel_rfl
@[simp] theorem tplace_234_0 : aplace Tryz.prog 234 0 = some (0, 1) := by kernel_rfl
@[simp] theorem tfield_234_1 : tfield Tryz.prog 234 1 = some (1, 28) := by kernel_rfl
@[simp] theorem tplace_234_1 : aplace Tryz.prog 234 1 = some (1, 1) := by kernel_rfl
@[simp] theorem tkd_240 : tkd Tryz.prog 240 = 10 := by kernel_rfl
@[simp] theorem tun_240 : (Tryz.prog.underlying 240).isSome = true := by kernel_rfl
@[simp] theorem tagg_240 : tagg Tryz.prog 240 = some true := by kernel_rfl
@[simp] theorem tsize_240 : tsize Tryz.prog 240 = some 256 := by kernel_rfl
@[simp] theorem tzero_240 : tzero Tryz.prog 240 = some (.agg #[.int .u8 0, .int .u8 0, .int .u8 0, .int .u8 0, .int .u8 0, .int .u8 0, .int .u8 0, .int .u8 0, .int .u8 0, .int .u8 0, .int .u8 0, .int .u8 0, .int .u8 0, .int .u8 0, .int .u8 0, .int .u8 0, .int .u8 0, .int .u8 0, .int .u8 0, .int .u8 0, .int .u8 0, .int .u8 0, .int .u8 0, .int .u8 0, .int .u8 0, .int .u8 0, .int .u8 0, .int .u8 0, .int .u8 0, .int .u8 0, .int .u8 0, .int .u8 0, .int .u8 0, .int .u8 0, .int .u8 0, .int .u8 0, .int .u8 0, .int .u8 0, .int .u8 0, .int .u8 0, .int .u8 0, .int .u8 0, .int .u8 0, .int .u8 0, .int .u8 0, .int .u8 0, .int .u8 0, .int .u8 0, .int .u8 0, .int .u8 0, .int .u8 0, .int .u8 0, .int .u8 0, .int .u8 0, .int .u8 0, .int .u8 0, .int .u8 0, .int .u8 0, .int .u8 0, .int .u8 0, .int .u8 0, .int .u8 0, .int .u8 0, .int .u8 0, .int .u8 0, .int .u8 0, .int .u8 0, .int .u8 0, .int .u8 0, .int .u8 0, .int .u8 0, .int .u8 0, .int .u8 0, .int .u8 0, .int .u8 0, .int .u8 0, .int .u8 0, .int .u8 0, .int .u8 0, .int .u8 0, .int .u8 0, .int .u8 0, .int .u8 0, .int .u8 0, .int .u8 0, .int .u8 0, .int .u8 0, .int .u8 0, .int .u8 0, .int .u8 0, .int .u8 0, .int .u8 0, .int .u8 0, .int .u8 0, .int .u8 0, .int .u8 0, .int .u8 0, .int .u8 0, .int .u8 0, .int .u8 0, .int .u8 0, .int .u8 0, .int .u8 0, .int .u8 0, .int .u8 0, .int .u8 0, .int .u8 0, .int .u8 0, .int .u8 0, .int .u8 0, .int .u8 0, .int .u8 0, .int .u8 0, .int .u8 0, .int .u8 0, .int .u8 0, .int .u8 0, .int .u8 0, .int .u8 0, .int .u8 0, .int .u8 0, .int .u8 0, .int .u8 0, .int .u8 0, .int .u8 0, .int .u8 0, .int .u8 0, .int .u8 0, .int .u8 0, .int .u8 0, .int .u8 0, .int .u8 0, .int .u8 0, .int .u8 0, .int .u8 0, .int .u8 0, .int .u8 0, .int .u8 0, .int .u8 0, .int .u8 0, .int .u8 0, .int .u8 0, .int .u8 0, .int .u8 0, .int .u8 0, .int .u8 0, .int .u8 0, .int .u8 0, .int .u8 0, .int .u8 0, .int .u8 0, .int .u8 0, .int .u8 0, .int .u8 0, .int .u8 0, .int .u8 0, .int .u8 0, .int .u8 0, .int .u8 0, .int .u8 0, .int .u8 0, .int .u8 0, .int .u8 0, .int .u8 0, .int .u8 0, .int .u8 0, .int .u8 0, .int .u8 0, .int .u8 0, .int .u8 0, .int .u8 0, .int .u8 0, .int .u8 0, .int .u8 0, .int .u8 0, .int .u8 0, .int .u8 0, .int .u8 0, .int .u8 0, .int .u8 0, .int .u8 0, .int .u8 0, .int .u8 0, .int .u8 0, .int .u8 0, .int .u8 0, .int .u8 0, .int .u8 0, .int .u8 0, .int .u8 0, .int .u8 0, .int .u8 0, .int .u8 0, .int .u8 0, .int .u8 0, .int .u8 0, .int .u8 0, .int .u8 0, .int .u8 0, .int .u8 0, .int .u8 0, .int .u8 0, .int .u8 0, .int .u8 0, .int .u8 0, .int .u8 0, .int .u8 0, .int .u8 0, .int .u8 0, .int .u8 0, .int .u8 0, .int .u8 0, .int .u8 0, .int .u8 0, .int .u8 0, .int .u8 0, .int .u8 0, .int .u8 0, .int .u8 0, .int .u8 0, .int .u8 0, .int .u8 0, .int .u8 0, .int .u8 0, .int .u8 0, .int .u8 0, .int .u8 0, .int .u8 0, .int .u8 0, .int .u8 0, .int .u8 0, .int .u8 0, .int .u8 0, .int .u8 0, .int .u8 0, .int .u8 0, .int .u8 0, .int .u8 0, .int .u8 0, .int .u8 0, .int .u8 0, .int .u8 0, .int .u8 0, .int .u8 0, .int .u8 0, .int .u8 0, .int .u8 0, .int .u8 0, .int .u8 0, .int .u8 0, .int .u8 0, .int .u8 0, .int .u8 0, .int .u8 0, .int .u8 0, .int .u8 0]) := by kernel_rfl
@[simp] theorem tarr_240 : tarr Tryz.prog 240 = some (256, 5) := by kernel_rfl
@[simp] theorem tsizes_240 : tsizes Tryz.prog 240 = true := by kernel_rfl
@[simp] theorem tplace_240_0 : aplace Tryz.prog 240 0 = some (0, 1) := by kernel_rfl
@[simp] theorem tplace_240_1 : aplace Tryz.prog 240 1 = some (1, 1) := by kernel_rfl
@[simp] theorem tplace_240_2 : aplace Tryz.prog 240 2 = some (2, 1) := by kernel_rfl
@[simp] theorem tplace_240_3 : aplace Tryz.prog 240 3 = some (3, 1) := by kernel_rfl
@[simp] theorem tplace_240_4 : aplace Tryz.prog 240 4 = some (4, 1) := by kernel_rfl
@[simp] theorem tplace_240_5 : aplace Tryz.prog 240 5 = some (5, 1) := by kernel_rfl
@[simp] theorem tplace_240_6 : aplace Tryz.prog 240 6 = some (6, 1) := by kernel_rfl
@[simp] theorem tplace_240_7 : aplace Tryz.prog 240 7 = some (7, 1) := by kernel_rfl
@[simp] theorem tplace_240_8 : aplace Tryz.prog 240 8 = some (8, 1) := by kernel_rfl
@[simp] theorem tplace_240_9 : aplace Tryz.prog 240 9 = some (9, 1) := by kernel_rfl
@[simp] theorem tplace_240_10 : aplace Tryz.prog 240 10 = some (10, 1) := by kernel_rfl
@[simp] theorem tplace_240_11 : aplace Tryz.prog 240 11 = some (11, 1) := by kernel_rfl
@[simp] theorem tplace_240_12 : aplace Tryz.prog 240 12 = some (12, 1) := by kernel_rfl
@[simp] theorem tplace_240_13 : aplace Tryz.prog 240 13 = some (13, 1) := by kernel_rfl
@[simp] theorem tplace_240_14 : aplace Tryz.prog 240 14 = some (14, 1) := by kernel_rfl
@[simp] theorem tplace_240_15 : aplace Tryz.prog 240 15 = some (15, 1) := by kernel_rfl
@[simp] theorem tkd_241 : tkd Tryz.prog 241 = 9 := by kernel_rfl
@[simp] theorem tun_241 : (Tryz.prog.underlying 241).isSome = true := by kernel_rfl
@[simp] theorem tagg_241 : tagg Tryz.prog 241 = some true := by kernel_rfl
@[simp] theorem tsize_241 : tsize Tryz.prog 241 = some 2 := by kernel_rfl
@[simp] theorem tzero_241 : tzero Tryz.prog 241 = some (.agg #[.int .u8 0, .int .u8 0]) := by kernel_rfl
@[simp] theorem tsizes_241 : tsizes Tryz.prog 241 = true := by kernel_rfl
@[simp] theorem tfield_241_0 : tfield Tryz.prog 241 0 = some (0, 5) := by kernel_rfl
@[simp] theorem tplace_241_0 : aplace Tryz.prog 241 0 = some (0, 1) := by kernel_rfl
@[simp] theorem tfield_241_1 : tfield Tryz.prog 241 1 = some (1, 5) := by kernel_rfl
@[simp] theorem tplace_241_1 : aplace Tryz.prog 241 1 = some (1, 1) := by kernel_rfl
@[simp] theorem tkd_242 : tkd Tryz.prog 242 = 9 := by kernel_rfl
@[simp] theorem tun_242 : (Tryz.prog.underlying 242).isSome = true := by kernel_rfl
@[simp] theorem tagg_242 : tagg Tryz.prog 242 = some true := by kernel_rfl
@[simp] theorem tsize_242 : tsize Tryz.prog 242 = some 2 := by kernel_rfl
@[simp] theorem tzero_242 : tzero Tryz.prog 242 = some (.agg #[.int .u8 0, .int .u8 0]) := by kernel_rfl
@[simp] theorem tsizes_242 : tsizes Tryz.prog 242 = true := by kernel_rfl
@[simp] theorem tfield_242_0 : tfield Tryz.prog 242 0 = some (0, 5) := by kernel_rfl
@[simp] theorem tplace_242_0 : aplace Tryz.prog 242 0 = some (0, 1) := by kernel_rfl
@[simp] theorem tfield_242_1 : tfield Tryz.prog 242 1 = some (1, 5) := by kernel_rfl
@[simp] theorem tplace_242_1 : aplace Tryz.prog 242 1 = some (1, 1) := by kernel_rfl
@[simp] theorem tkd_243 : tkd Tryz.prog 243 = 10 := by kernel_rfl
@[simp] theorem tun_243 : (Tryz.prog.underlying 243).isSome = true := by kernel_rfl
@[simp] theorem tagg_243 : tagg Tryz.prog 243 = some true := by kernel_rfl
@[simp] theorem tsize_243 : tsize Tryz.prog 243 = some 32 := by kernel_rfl
@[simp] theorem tzero_243 : tzero Tryz.prog 243 = some (.agg #[.int .u8 0, .int .u8 0, .int .u8 0, .int .u8 0, .int .u8 0, .int .u8 0, .int .u8 0, .int .u8 0, .int .u8 0, .int .u8 0, .int .u8 0, .int .u8 0, .int .u8 0, .int .u8 0, .int .u8 0, .int .u8 0, .int .u8 0, .int .u8 0, .int .u8 0, .int .u8 0, .int .u8 0, .int .u8 0, .int .u8 0, .int .u8 0, .int .u8 0, .int .u8 0, .int .u8 0, .int .u8 0, .int .u8 0, .int .u8 0, .int .u8 0, .int .u8 0]) := by kernel_rfl
@[simp] theorem tarr_243 : tarr Tryz.prog 243 = some (16, 242) := by kernel_rfl
@[simp] theorem tsizes_243 : tsizes Tryz.prog 243 = true := by kernel_rfl
@[simp] theorem tplace_243_0 : aplace Tryz.prog 243 0 = some (0, 2) := by kernel_rfl
@[simp] theorem tplace_243_1 : aplace Tryz.prog 243 1 = some (2, 2) := by kernel_rfl
@[simp] theorem tplace_243_2 : aplace Tryz.prog 243 2 = some (4, 2) := by kernel_rfl
@[simp] theorem tplace_243_3 : aplace Tryz.prog 243 3 = some (6, 2) := by kernel_rfl
@[simp] theorem tplace_243_4 : aplace Tryz.prog 243 4 = some (8, 2) := by kernel_rfl
@[simp] theorem tplace_243_5 : aplace Tryz.prog 243 5 = some (10, 2) := by kernel_rfl
@[simp] theorem tplace_243_6 : aplace Tryz.prog 243 6 = some (12, 2) := by kernel_rfl
@[simp] theorem tplace_243_7 : aplace Tryz.prog 243 7 = some (14, 2) := by kernel_rfl
@[simp] theorem tplace_243_8 : aplace Tryz.prog 243 8 = some (16, 2) := by kernel_rfl
@[simp] theorem tplace_243_9 : aplace Tryz.prog 243 9 = some (18, 2) := by kernel_rfl
@[simp] theorem tplace_243_10 : aplace Tryz.prog 243 10 = some (20, 2) := by kernel_rfl
@[simp] theorem tplace_243_11 : aplace Tryz.prog 243 11 = some (22, 2) := by kernel_rfl
@[simp] theorem tplace_243_12 : aplace Tryz.prog 243 12 = some (24, 2) := by kernel_rfl
@[simp] theorem tplace_243_13 : aplace Tryz.prog 243 13 = some (26, 2) := by kernel_rfl
@[simp] theorem tplace_243_14 : aplace Tryz.prog 243 14 = some (28, 2) := by kernel_rfl
@[simp] theorem tplace_243_15 : aplace Tryz.prog 243 15 = some (30, 2) := by kernel_rfl
@[simp] theorem tkd_248 : tkd Tryz.prog 248 = 2 := by kernel_rfl
@[simp] theorem tun_248 : (Tryz.prog.underlying 248).isSome = true := by kernel_rfl
@[simp] theorem tagg_248 : tagg Tryz.prog 248 = some false := by kernel_rfl
@[simp] theorem tsize_248 : tsize Tryz.prog 248 = some 1 := by kernel_rfl
@[simp] theorem tzero_248 : tzero Tryz.prog 248 = some (.int .i64 0) := by kernel_rfl
@[simp] theorem tint_248 : tint Tryz.prog 248 = some .i64 := by kernel_rfl
@[simp] theorem tkd_251 : tkd Tryz.prog 251 = 4 := by kernel_rfl
@[simp] theorem tun_251 : (Tryz.prog.underlying 251).isSome = true := by kernel_rfl
@[simp] theorem tagg_251 : tagg Tryz.prog 251 = some false := by kernel_rfl
@[simp] theorem tsize_251 : tsize Tryz.prog 251 = some 1 := by kernel_rfl
@[simp] theorem tzero_251 : tzero Tryz.prog 251 = some (.pointer none) := by kernel_rfl
@[simp] theorem tkd_255 : tkd Tryz.prog 255 = 4 := by kernel_rfl
@[simp] theorem tun_255 : (Tryz.prog.underlying 255).isSome = true := by kernel_rfl
@[simp] theorem tagg_255 : tagg Tryz.prog 255 = some false := by kernel_rfl
@[simp] theorem tsize_255 : tsize Tryz.prog 255 = some 1 := by kernel_rfl
@[simp] theorem tzero_255 : tzero Tryz.prog 255 = some (.pointer none) := by kernel_rfl
@[simp] theorem tkd_259 : tkd Tryz.prog 259 = 9 := by kernel_rfl
@[simp] theorem tun_259 : (Tryz.prog.underlying 259).isSome = true := by kernel_rfl
@[simp] theorem tagg_259 : tagg Tryz.prog 259 = some true := by kernel_rfl
@[simp] theorem tsize_259 : tsize Tryz.prog 259 = some 3 := by kernel_rfl
@[simp] theorem tzero_259 : tzero Tryz.prog 259 = some (.agg #[.string ByteArray.empty, .string ByteArray.empty, .nilIface]) := by kernel_rfl
@[simp] theorem tsizes_259 : tsizes Tryz.prog 259 = true := by kernel_rfl
@[simp] theorem tfield_259_0 : tfield Tryz.prog 259 0 = some (0, 9) := by kernel_rfl
@[simp] theorem tplace_259_0 : aplace Tryz.prog 259 0 = some (0, 1) := by kernel_rfl
@[simp] theorem tfield_259_1 : tfield Tryz.prog 259 1 = some (1, 9) := by kernel_rfl
@[simp] theorem tplace_259_1 : aplace Tryz.prog 259 1 = some (1, 1) := by kernel_rfl
@[simp] theorem tfield_259_2 : tfield Tryz.prog 259 2 = some (2, 212) := by kernel_rfl
@[simp] theorem tplace_259_2 : aplace Tryz.prog 259 2 = some (2, 1) := by kernel_rfl
@[simp] theorem tkd_260 : tkd Tryz.prog 260 = 9 := by kernel_rfl
@[simp] theorem tun_260 : (Tryz.prog.underlying 260).isSome = true := by kernel_rfl
@[simp] theorem tagg_260 : tagg Tryz.prog 260 = some true := by kernel_rfl
@[simp] theorem tsize_260 : tsize Tryz.prog 260 = some 3 := by kernel_rfl
@[simp] theorem tzero_260 : tzero Tryz.prog 260 = some (.agg #[.string ByteArray.empty, .string ByteArray.empty, .nilIface]) := by kernel_rfl
@[simp] theorem tsizes_260 : tsizes Tryz.prog 260 = true := by kernel_rfl
@[simp] theorem tfield_260_0 : tfield Tryz.prog 260 0 = some (0, 9) := by kernel_rfl
@[simp] theorem tplace_260_0 : aplace Tryz.prog 260 0 = some (0, 1) := by kernel_rfl
@[simp] theorem tfield_260_1 : tfield Tryz.prog 260 1 = some (1, 9) := by kernel_rfl
@[simp] theorem tplace_260_1 : aplace Tryz.prog 260 1 = some (1, 1) := by kernel_rfl
@[simp] theorem tfield_260_2 : tfield Tryz.prog 260 2 = some (2, 212) := by kernel_rfl
@[simp] theorem tplace_260_2 : aplace Tryz.prog 260 2 = some (2, 1) := by kernel_rfl
@[simp] theorem tun_263 : (Tryz.prog.underlying 263).isSome = true := by kernel_rfl
@[simp] theorem tagg_263 : tagg Tryz.prog 263 = some false := by kernel_rfl
@[simp] theorem tsize_263 : tsize Tryz.prog 263 = some 1 := by kernel_rfl
@[simp] theorem tzero_263 : tzero Tryz.prog 263 = some (.pointer none) := by kernel_rfl
@[simp] theorem tkd_269 : tkd Tryz.prog 269 = 4 := by kernel_rfl
@[simp] theorem tun_269 : (Tryz.prog.underlying 269).isSome = true := by kernel_rfl
@[simp] theorem tagg_269 : tagg Tryz.prog 269 = some false := by kernel_rfl
@[simp] theorem tsize_269 : tsize Tryz.prog 269 = some 1 := by kernel_rfl
@[simp] theorem tzero_269 : tzero Tryz.prog 269 = some (.pointer none) := by kernel_rfl
@[simp] theorem tkd_270 : tkd Tryz.prog 270 = 9 := by kernel_rfl
@[simp] theorem tun_270 : (Tryz.prog.underlying 270).isSome = true := by kernel_rfl
@[simp] theorem tagg_270 : tagg Tryz.prog 270 = some true := by kernel_rfl
@[simp] theorem tsize_270 : tsize Tryz.prog 270 = some 1 := by kernel_rfl
@[simp] theorem tzero_270 : tzero Tryz.prog 270 = some (.agg #[.string ByteArray.empty]) := by kernel_rfl
@[simp] theorem tsizes_270 : tsizes Tryz.prog 270 = true := by kernel_rfl
@[simp] theorem tfield_270_0 : tfield Tryz.prog 270 0 = some (0, 9) := by kernel_rfl
@[simp] theorem tplace_270_0 : aplace Tryz.prog 270 0 = some (0, 1) := by kernel_rfl
@[simp] theorem tkd_271 : tkd Tryz.prog 271 = 9 := by kernel_rfl
@[simp] theorem tun_271 : (Tryz.prog.underlying 271).isSome = true := by kernel_rfl
@[simp] theorem tagg_271 : tagg Tryz.prog 271 = some true := by kernel_rfl
@[simp] theorem tsize_271 : tsize Tryz.prog 271 = some 1 := by kernel_rfl
@[simp] theorem tzero_271 : tzero Tryz.prog 271 = some (.agg #[.string ByteArray.empty]) := by kernel_rfl
@[simp] theorem tsizes_271 : tsizes Tryz.prog 271 = true := by kernel_rfl
@[simp] theorem tfield_271_0 : tfield Tryz.prog 271 0 = some (0, 9) := by kernel_rfl
@[simp] theorem tplace_271_0 : aplace Tryz.prog 271 0 = some (0, 1) := by kernel_rfl
@[simp] theorem tkd_273 : tkd Tryz.prog 273 = 10 := by kernel_rfl
@[simp] theorem tun_273 : (Tryz.prog.underlying 273).isSome = true := by kernel_rfl
@[simp] theorem tagg_273 : tagg Tryz.prog 273 = some true := by kernel_rfl
@[simp] theorem tsize_273 : tsize Tryz.prog 273 = some 24 := by kernel_rfl
@[simp] theorem tzero_273 : tzero Tryz.prog 273 = some (.agg #[.int .u8 0, .int .u8 0, .int .u8 0, .int .u8 0, .int .u8 0, .int .u8 0, .int .u8 0, .int .u8 0, .int .u8 0, .int .u8 0, .int .u8 0, .int .u8 0, .int .u8 0, .int .u8 0, .int .u8 0, .int .u8 0, .int .u8 0, .int .u8 0, .int .u8 0, .int .u8 0, .int .u8 0, .int .u8 0, .int .u8 0, .int .u8 0]) := by kernel_rfl
@[simp] theorem tarr_273 : tarr Tryz.prog 273 = some (24, 5) := by kernel_rfl
@[simp] theorem tsizes_273 : tsizes Tryz.prog 273 = true := by kernel_rfl
@[simp] theorem tplace_273_0 : aplace Tryz.prog 273 0 = some (0, 1) := by kernel_rfl
@[simp] theorem tplace_273_1 : aplace Tryz.prog 273 1 = some (1, 1) := by kernel_rfl
@[simp] theorem tplace_273_2 : aplace Tryz.prog 273 2 = some (2, 1) := by kernel_rfl
@[simp] theorem tplace_273_3 : aplace Tryz.prog 273 3 = some (3, 1) := by kernel_rfl
@[simp] theorem tplace_273_4 : aplace Tryz.prog 273 4 = some (4, 1) := by kernel_rfl
@[simp] theorem tplace_273_5 : aplace Tryz.prog 273 5 = some (5, 1) := by kernel_rfl
@[simp] theorem tplace_273_6 : aplace Tryz.prog 273 6 = some (6, 1) := by kernel_rfl
@[simp] theorem tplace_273_7 : aplace Tryz.prog 273 7 = some (7, 1) := by kernel_rfl
@[simp] theorem tplace_273_8 : aplace Tryz.prog 273 8 = some (8, 1) := by kernel_rfl
@[simp] theorem tplace_273_9 : aplace Tryz.prog 273 9 = some (9, 1) := by kernel_rfl
@[simp] theorem tplace_273_10 : aplace Tryz.prog 273 10 = some (10, 1) := by kernel_rfl
@[simp] theorem tplace_273_11 : aplace Tryz.prog 273 11 = some (11, 1) := by kernel_rfl
@[simp] theorem tplace_273_12 : aplace Tryz.prog 273 12 = some (12, 1) := by kernel_rfl
@[simp] theorem tplace_273_13 : aplace Tryz.prog 273 13 = some (13, 1) := by kernel_rfl
@[simp] theorem tplace_273_14 : aplace Tryz.prog 273 14 = some (14, 1) := by kernel_rfl
@[simp] theorem tplace_273_15 : aplace Tryz.prog 273 15 = some (15, 1) := by kernel_rfl
@[simp] theorem tkd_278 : tkd Tryz.prog 278 = 10 := by kernel_rfl
@[simp] theorem tun_278 : (Tryz.prog.underlying 278).isSome = true := by kernel_rfl
@[simp] theorem tagg_278 : tagg Tryz.prog 278 = some true := by kernel_rfl
@[simp] theorem tsize_278 : tsize Tryz.prog 278 = some 20 := by kernel_rfl
@[simp] theorem tzero_278 : tzero Tryz.prog 278 = some (.agg #[.int .u64 0, .int .u64 0, .int .u64 0, .int .u64 0, .int .u64 0, .int .u64 0, .int .u64 0, .int .u64 0, .int .u64 0, .int .u64 0, .int .u64 0, .int .u64 0, .int .u64 0, .int .u64 0, .int .u64 0, .int .u64 0, .int .u64 0, .int .u64 0, .int .u64 0, .int .u64 0]) := by kernel_rfl
@[simp] theorem tarr_278 : tarr Tryz.prog 278 = some (20, 22) := by kernel_rfl
@[simp] theorem tsizes_278 : tsizes Tryz.prog 278 = true := by kernel_rfl
@[simp] theorem tplace_278_0 : aplace Tryz.prog 278 0 = some (0, 1) := by kernel_rfl
@[simp] theorem tplace_278_1 : aplace Tryz.prog 278 1 = some (1, 1) := by kernel_rfl
@[simp] theorem tplace_278_2 : aplace Tryz.prog 278 2 = some (2, 1) := by kernel_rfl
@[simp] theorem tplace_278_3 : aplace Tryz.prog 278 3 = some (3, 1) := by kernel_rfl
@[simp] theorem tplace_278_4 : aplace Tryz.prog 278 4 = some (4, 1) := by kernel_rfl
@[simp] theorem tplace_278_5 : aplace Tryz.prog 278 5 = some (5, 1) := by kernel_rfl
@[simp] theorem tplace_278_6 : aplace Tryz.prog 278 6 = some (6, 1) := by kernel_rfl
@[simp] theorem tplace_278_7 : aplace Tryz.prog 278 7 = some (7, 1) := by kernel_rfl
@[simp] theorem tplace_278_8 : aplace Tryz.prog 278 8 = some (8, 1) := by kernel_rfl
@[simp] theorem tplace_278_9 : aplace Tryz.prog 278 9 = some (9, 1) := by kernel_rfl
@[simp] theorem tplace_278_10 : aplace Tryz.prog 278 10 = some (10, 1) := by kernel_rfl
@[simp] theorem tplace_278_11 : aplace Tryz.prog 278 11 = some (11, 1) := by kernel_rfl
@[simp] theorem tplace_278_12 : aplace Tryz.prog 278 12 = some (12, 1) := by kernel_rfl
@[simp] theorem tplace_278_13 : aplace Tryz.prog 278 13 = some (13, 1) := by kernel_rfl
@[simp] theorem tplace_278_14 : aplace Tryz.prog 278 14 = some (14, 1) := by kernel_rfl
@[simp] theorem tplace_278_15 : aplace Tryz.prog 278 15 = some (15, 1) := by kernel_rfl
@[simp] theorem tkd_279 : tkd Tryz.prog 279 = 10 := by kernel_rfl
@[simp] theorem tun_279 : (Tryz.prog.underlying 279).isSome = true := by kernel_rfl
@[simp] theorem tagg_279 : tagg Tryz.prog 279 = some true := by kernel_rfl
@[simp] theorem tsize_279 : tsize Tryz.prog 279 = some 65 := by kernel_rfl
@[simp] theorem tzero_279 : tzero Tryz.prog 279 = some (.agg #[.int .u8 0, .int .u8 0, .int .u8 0, .int .u8 0, .int .u8 0, .int .u8 0, .int .u8 0, .int .u8 0, .int .u8 0, .int .u8 0, .int .u8 0, .int .u8 0, .int .u8 0, .int .u8 0, .int .u8 0, .int .u8 0, .int .u8 0, .int .u8 0, .int .u8 0, .int .u8 0, .int .u8 0, .int .u8 0, .int .u8 0, .int .u8 0, .int .u8 0, .int .u8 0, .int .u8 0, .int .u8 0, .int .u8 0, .int .u8 0, .int .u8 0, .int .u8 0, .int .u8 0, .int .u8 0, .int .u8 0, .int .u8 0, .int .u8 0, .int .u8 0, .int .u8 0, .int .u8 0, .int .u8 0, .int .u8 0, .int .u8 0, .int .u8 0, .int .u8 0, .int .u8 0, .int .u8 0, .int .u8 0, .int .u8 0, .int .u8 0, .int .u8 0, .int .u8 0, .int .u8 0, .int .u8 0, .int .u8 0, .int .u8 0, .int .u8 0, .int .u8 0, .int .u8 0, .int .u8 0, .int .u8 0, .int .u8 0, .int .u8 0, .int .u8 0, .int .u8 0]) := by kernel_rfl
@[simp] theorem tarr_279 : tarr Tryz.prog 279 = some (65, 5) := by kernel_rfl
@[simp] theorem tsizes_279 : tsizes Tryz.prog 279 = true := by kernel_rfl
@[simp] theorem tplace_279_0 : aplace Tryz.prog 279 0 = some (0, 1) := by kernel_rfl
@[simp] theorem tplace_279_1 : aplace Tryz.prog 279 1 = some (1, 1) := by kernel_rfl
@[simp] theorem tplace_279_2 : aplace Tryz.prog 279 2 = some (2, 1) := by kernel_rfl
@[simp] theorem tplace_279_3 : aplace Tryz.prog 279 3 = some (3, 1) := by kernel_rfl
@[simp] theorem tplace_279_4 : aplace Tryz.prog 279 4 = some (4, 1) := by kernel_rfl
@[simp] theorem tplace_279_5 : aplace Tryz.prog 279 5 = some (5, 1) := by kernel_rfl
@[simp] theorem tplace_279_6 : aplace Tryz.prog 279 6 = some (6, 1) := by kernel_rfl
@[simp] theorem tplace_279_7 : aplace Tryz.prog 279 7 = some (7, 1) := by kernel_rfl
@[simp] theorem tplace_279_8 : aplace Tryz.prog 279 8 = some (8, 1) := by kernel_rfl
@[simp] theorem tplace_279_9 : aplace Tryz.prog 279 9 = some (9, 1) := by kernel_rfl
@[simp] theorem tplace_279_10 : aplace Tryz.prog 279 10 = some (10, 1) := by kernel_rfl
@[simp] theorem tplace_279_11 : aplace Tryz.prog 279 11 = some (11, 1) := by kernel_rfl
@[simp] theorem tplace_279_12 : aplace Tryz.prog 279 12 = some (12, 1) := by kernel_rfl
@[simp] theorem tplace_279_13 : aplace Tryz.prog 279 13 = some (13, 1) := by kernel_rfl
@[simp] theorem tplace_279_14 : aplace Tryz.prog 279 14 = some (14, 1) := by kernel_rfl
@[simp] theorem tplace_279_15 : aplace Tryz.prog 279 15 = some (15, 1) := by kernel_rfl
@[simp] theorem tkd_280 : tkd Tryz.prog 280 = 10 := by kernel_rfl
@[simp] theorem tun_280 : (Tryz.prog.underlying 280).isSome = true := by kernel_rfl
@[simp] theorem tagg_280 : tagg Tryz.prog 280 = some true := by kernel_rfl
@[simp] theorem tsize_280 : tsize Tryz.prog 280 = some 32 := by kernel_rfl
@[simp] theorem tzero_280 : tzero Tryz.prog 280 = some (.agg #[.int .u8 0, .int .u8 0, .int .u8 0, .int .u8 0, .int .u8 0, .int .u8 0, .int .u8 0, .int .u8 0, .int .u8 0, .int .u8 0, .int .u8 0, .int .u8 0, .int .u8 0, .int .u8 0, .int .u8 0, .int .u8 0, .int .u8 0, .int .u8 0, .int .u8 0, .int .u8 0, .int .u8 0, .int .u8 0, .int .u8 0, .int .u8 0, .int .u8 0, .int .u8 0, .int .u8 0, .int .u8 0, .int .u8 0, .int .u8 0, .int .u8 0, .int .u8 0]) := by kernel_rfl
@[simp] theorem tarr_280 : tarr Tryz.prog 280 = some (32, 5) := by kernel_rfl
@[simp] theorem tsizes_280 : tsizes Tryz.prog 280 = true := by kernel_rfl
@[simp] theorem tplace_280_0 : aplace Tryz.prog 280 0 = some (0, 1) := by kernel_rfl
@[simp] theorem tplace_280_1 : aplace Tryz.prog 280 1 = some (1, 1) := by kernel_rfl
@[simp] theorem tplace_280_2 : aplace Tryz.prog 280 2 = some (2, 1) := by kernel_rfl
@[simp] theorem tplace_280_3 : aplace Tryz.prog 280 3 = some (3, 1) := by kernel_rfl
@[simp] theorem tplace_280_4 : aplace Tryz.prog 280 4 = some (4, 1) := by kernel_rfl
@[simp] theorem tplace_280_5 : aplace Tryz.prog 280 5 = some (5, 1) := by kernel_rfl
@[simp] theorem tplace_280_6 : aplace Tryz.prog 280 6 = some (6, 1) := by kernel_rfl
@[simp] theorem tplace_280_7 : aplace Tryz.prog 280 7 = some (7, 1) := by kernel_rfl
@[simp] theorem tplace_280_8 : aplace Tryz.prog 280 8 = some (8, 1) := by kernel_rfl
@[simp] theorem tplace_280_9 : aplace Tryz.prog 280 9 = some (9, 1) := by kernel_rfl
@[simp] theorem tplace_280_10 : aplace Tryz.prog 280 10 = some (10, 1) := by kernel_rfl
@[simp] theorem tplace_280_11 : aplace Tryz.prog 280 11 = some (11, 1) := by kernel_rfl
@[simp] theorem tplace_280_12 : aplace Tryz.prog 280 12 = some (12, 1) := by kernel_rfl
@[simp] theorem tplace_280_13 : aplace Tryz.prog 280 13 = some (13, 1) := by kernel_rfl
@[simp] theorem tplace_280_14 : aplace Tryz.prog 280 14 = some (14, 1) := by kernel_rfl
@[simp] theorem tplace_280_15 : aplace Tryz.prog 280 15 = some (15, 1) := by kernel_rfl
@[simp] theorem tkd_281 : tkd Tryz.prog 281 = 10 := by kernel_rfl
@[simp] theorem tun_281 : (Tryz.prog.underlying 281).isSome = true := by kernel_rfl
@[simp] theorem tagg_281 : tagg Tryz.prog 281 = some true := by kernel_rfl
@[simp] theorem tsize_281 : tsize Tryz.prog 281 = some 64 := by kernel_rfl
@[simp] theorem tzero_281 : tzero Tryz.prog 281 = some (.agg #[.int .u8 0, .int .u8 0, .int .u8 0, .int .u8 0, .int .u8 0, .int .u8 0, .int .u8 0, .int .u8 0, .int .u8 0, .int .u8 0, .int .u8 0, .int .u8 0, .int .u8 0, .int .u8 0, .int .u8 0, .int .u8 0, .int .u8 0, .int .u8 0, .int .u8 0, .int .u8 0, .int .u8 0, .int .u8 0, .int .u8 0, .int .u8 0, .int .u8 0, .int .u8 0, .int .u8 0, .int .u8 0, .int .u8 0, .int .u8 0, .int .u8 0, .int .u8 0, .int .u8 0, .int .u8 0, .int .u8 0, .int .u8 0, .int .u8 0, .int .u8 0, .int .u8 0, .int .u8 0, .int .u8 0, .int .u8 0, .int .u8 0, .int .u8 0, .int .u8 0, .int .u8 0, .int .u8 0, .int .u8 0, .int .u8 0, .int .u8 0, .int .u8 0, .int .u8 0, .int .u8 0, .int .u8 0, .int .u8 0, .int .u8 0, .int .u8 0, .int .u8 0, .int .u8 0, .int .u8 0, .int .u8 0, .int .u8 0, .int .u8 0, .int .u8 0]) := by kernel_rfl
@[simp] theorem tarr_281 : tarr Tryz.prog 281 = some (64, 5) := by kernel_rfl
@[simp] theorem tsizes_281 : tsizes Tryz.prog 281 = true := by kernel_rfl
@[simp] theorem tplace_281_0 : aplace Tryz.prog 281 0 = some (0, 1) := by kernel_rfl
@[simp] theorem tplace_281_1 : aplace Tryz.prog 281 1 = some (1, 1) := by kernel_rfl
@[simp] theorem tplace_281_2 : aplace Tryz.prog 281 2 = some (2, 1) := by kernel_rfl
@[simp] theorem tplace_281_3 : aplace Tryz.prog 281 3 = some (3, 1) := by kernel_rfl
@[simp] theorem tplace_281_4 : aplace Tryz.prog 281 4 = some (4, 1) := by kernel_rfl
@[simp] theorem tplace_281_5 : aplace Tryz.prog 281 5 = some (5, 1) := by kernel_rfl
@[simp] theorem tplace_281_6 : aplace Tryz.prog 281 6 = some (6, 1) := by kernel_rfl
@[simp] theorem tplace_281_7 : aplace Tryz.prog 281 7 = some (7, 1) := by kernel_rfl
@[simp] theorem tplace_281_8 : aplace Tryz.prog 281 8 = some (8, 1) := by kernel_rfl
@[simp] theorem tplace_281_9 : aplace Tryz.prog 281 9 = some (9, 1) := by kernel_rfl
@[simp] theorem tplace_281_10 : aplace Tryz.prog 281 10 = some (10, 1) := by kernel_rfl
@[simp] theorem tplace_281_11 : aplace Tryz.prog 281 11 = some (11, 1) := by kernel_rfl
@[simp] theorem tplace_281_12 : aplace Tryz.prog 281 12 = some (12, 1) := by kernel_rfl
@[simp] theorem tplace_281_13 : aplace Tryz.prog 281 13 = some (13, 1) := by kernel_rfl
@[simp] theorem tplace_281_14 : aplace Tryz.prog 281 14 = some (14, 1) := by kernel_rfl
@[simp] theorem tplace_281_15 : aplace Tryz.prog 281 15 = some (15, 1) := by kernel_rfl
@[simp] theorem tkd_282 : tkd Tryz.prog 282 = 9 := by kernel_rfl
@[simp] theorem tun_282 : (Tryz.prog.underlying 282).isSome = true := by kernel_rfl
@[simp] theorem tagg_282 : tagg Tryz.prog 282 = some true := by kernel_rfl
@[simp] theorem tsize_282 : tsize Tryz.prog 282 = some 4 := by kernel_rfl
@[simp] theorem tzero_282 : tzero Tryz.prog 282 = some (.agg #[.pointer none, .pointer none, .pointer none, .string ByteArray.empty]) := by kernel_rfl
@[simp] theorem tsizes_282 : tsizes Tryz.prog 282 = true := by kernel_rfl
@[simp] theorem tfield_282_0 : tfield Tryz.prog 282 0 = some (0, 17) := by kernel_rfl
@[simp] theorem tplace_282_0 : aplace Tryz.prog 282 0 = some (0, 1) := by kernel_rfl
@[simp] theorem tfield_282_1 : tfield Tryz.prog 282 1 = some (1, 17) := by kernel_rfl
@[simp] theorem tplace_282_1 : aplace Tryz.prog 282 1 = some (1, 1) := by kernel_rfl
@[simp] theorem tfield_282_2 : tfield Tryz.prog 282 2 = some (2, 17) := by kernel_rfl
@[simp] theorem tplace_282_2 : aplace Tryz.prog 282 2 = some (2, 1) := by kernel_rfl
@[simp] theorem tfield_282_3 : tfield Tryz.prog 282 3 = some (3, 9) := by kernel_rfl
@[simp] theorem tplace_282_3 : aplace Tryz.prog 282 3 = some (3, 1) := by kernel_rfl
@[simp] theorem tkd_283 : tkd Tryz.prog 283 = 9 := by kernel_rfl
@[simp] theorem tun_283 : (Tryz.prog.underlying 283).isSome = true := by kernel_rfl
@[simp] theorem tagg_283 : tagg Tryz.prog 283 = some true := by kernel_rfl
@[simp] theorem tsize_283 : tsize Tryz.prog 283 = some 4 := by kernel_rfl
@[simp] theorem tzero_283 : tzero Tryz.prog 283 = some (.agg #[.pointer none, .pointer none, .pointer none, .string ByteArray.empty]) := by kernel_rfl
@[simp] theorem tsizes_283 : tsizes Tryz.prog 283 = true := by kernel_rfl
@[simp] theorem tfield_283_0 : tfield Tryz.prog 283 0 = some (0, 17) := by kernel_rfl
@[simp] theorem tplace_283_0 : aplace Tryz.prog 283 0 = some (0, 1) := by kernel_rfl
@[simp] theorem tfield_283_1 : tfield Tryz.prog 283 1 = some (1, 17) := by kernel_rfl
@[simp] theorem tplace_283_1 : aplace Tryz.prog 283 1 = some (1, 1) := by kernel_rfl
@[simp] theorem tfield_283_2 : tfield Tryz.prog 283 2 = some (2, 17) := by kernel_rfl
@[simp] theorem tplace_283_2 : aplace Tryz.prog 283 2 = some (2, 1) := by kernel_rfl
@[simp] theorem tfield_283_3 : tfield Tryz.prog 283 3 = some (3, 9) := by kernel_rfl
@[simp] theorem tplace_283_3 : aplace Tryz.prog 283 3 = some (3, 1) := by kernel_rfl
@[simp] theorem tkd_284 : tkd Tryz.prog 284 = 10 := by kernel_rfl
@[simp] theorem tun_284 : (Tryz.prog.underlying 284).isSome = true := by kernel_rfl
@[simp] theorem tagg_284 : tagg Tryz.prog 284 = some true := by kernel_rfl
@[simp] theorem tsize_284 : tsize Tryz.prog 284 = some 0 := by kernel_rfl
@[simp] theorem tzero_284 : tzero Tryz.prog 284 = some (.agg #[]) := by kernel_rfl
@[simp] theorem tarr_284 : tarr Tryz.prog 284 = some (0, 16) := by kernel_rfl
@[simp] theorem tsizes_284 : tsizes Tryz.prog 284 = true := by kernel_rfl
@[simp] theorem tkd_285 : tkd Tryz.prog 285 = 9 := by kernel_rfl
@[simp] theorem tun_285 : (Tryz.prog.underlying 285).isSome = true := by kernel_rfl
@[simp] theorem tagg_285 : tagg Tryz.prog 285 = some true := by kernel_rfl
@[simp] theorem tsize_285 : tsize Tryz.prog 285 = some 0 := by kernel_rfl
@[simp] theorem tzero_285 : tzero Tryz.prog 285 = some (.agg #[]) := by kernel_rfl
@[simp] theorem tsizes_285 : tsizes Tryz.prog 285 = true := by kernel_rfl
@[simp] theorem tfield_285_0 : tfield Tryz.prog 285 0 = some (0, 284) := by kernel_rfl
@[simp] theorem tplace_285_0 : aplace Tryz.prog 285 0 = some (0, 0) := by kernel_rfl
@[simp] theorem tkd_286 : tkd Tryz.prog 286 = 9 := by kernel_rfl
@[simp] theorem tun_286 : (Tryz.prog.underlying 286).isSome = true := by kernel_rfl
@[simp] theorem tagg_286 : tagg Tryz.prog 286 = some true := by kernel_rfl
@[simp] theorem tsize_286 : tsize Tryz.prog 286 = some 0 := by kernel_rfl
@[simp] theorem tzero_286 : tzero Tryz.prog 286 = some (.agg #[]) := by kernel_rfl
@[simp] theorem tsizes_286 : tsizes Tryz.prog 286 = true := by kernel_rfl
@[simp] theorem tfield_286_0 : tfield Tryz.prog 286 0 = some (0, 284) := by kernel_rfl
@[simp] theorem tplace_286_0 : aplace Tryz.prog 286 0 = some (0, 0) := by kernel_rfl
@[simp] theorem tkd_287 : tkd Tryz.prog 287 = 2 := by kernel_rfl
@[simp] theorem tun_287 : (Tryz.prog.underlying 287).isSome = true := by kernel_rfl
@[simp] theorem tagg_287 : tagg Tryz.prog 287 = some false := by kernel_rfl
@[simp] theorem tsize_287 : tsize Tryz.prog 287 = some 1 := by kernel_rfl
@[simp] theorem tzero_287 : tzero Tryz.prog 287 = some (.int .u8 0) := by kernel_rfl
@[simp] theorem tint_287 : tint Tryz.prog 287 = some .u8 := by kernel_rfl
@[simp] theorem tkd_288 : tkd Tryz.prog 288 = 2 := by kernel_rfl
@[simp] theorem tun_288 : (Tryz.prog.underlying 288).isSome = true := by kernel_rfl
@[simp] theorem tagg_288 : tagg Tryz.prog 288 = some false := by kernel_rfl
@[simp] theorem tsize_288 : tsize Tryz.prog 288 = some 1 := by kernel_rfl
@[simp] theorem tzero_288 : tzero Tryz.prog 288 = some (.int .u8 0) := by kernel_rfl
@[simp] theorem tint_288 : tint Tryz.prog 288 = some .u8 := by kernel_rfl
@[simp] theorem tkd_290 : tkd Tryz.prog 290 = 2 := by kernel_rfl
@[simp] theorem tun_290 : (Tryz.prog.underlying 290).isSome = true := by kernel_rfl
@[simp] theorem tagg_290 : tagg Tryz.prog 290 = some false := by kernel_rfl
@[simp] theorem tsize_290 : tsize Tryz.prog 290 = some 1 := by kernel_rfl
@[simp] theorem tzero_290 : tzero Tryz.prog 290 = some (.int .i32 0) := by kernel_rfl
@[simp] theorem tint_290 : tint Tryz.prog 290 = some .i32 := by kernel_rfl
@[simp] theorem tkd_291 : tkd Tryz.prog 291 = 2 := by kernel_rfl
@[simp] theorem tun_291 : (Tryz.prog.underlying 291).isSome = true := by kernel_rfl
@[simp] theorem tagg_291 : tagg Tryz.prog 291 = some false := by kernel_rfl
@[simp] theorem tsize_291 : tsize Tryz.prog 291 = some 1 := by kernel_rfl
@[simp] theorem tzero_291 : tzero Tryz.prog 291 = some (.int .i32 0) := by kernel_rfl
@[simp] theorem tint_291 : tint Tryz.prog 291 = some .i32 := by kernel_rfl
@[simp] theorem tkd_292 : tkd Tryz.prog 292 = 9 := by kernel_rfl
@[simp] theorem tun_292 : (Tryz.prog.underlying 292).isSome = true := by kernel_rfl
@[simp] theorem tagg_292 : tagg Tryz.prog 292 = some true := by kernel_rfl
@[simp] theorem tsize_292 : tsize Tryz.prog 292 = some 11 := by kernel_rfl
@[simp] theorem tzero_292 : tzero Tryz.prog 292 = some (.agg #[.int .u64 0, .int .u64 0, .int .u32 0, .int .u8 0, .int .u8 0, .int .u8 0, .int .u8 0, .nilFunc, .pointer none, .int .i32 0, .int .i32 0]) := by kernel_rfl
@[simp] theorem tsizes_292 : tsizes Tryz.prog 292 = true := by kernel_rfl
@[simp] theorem tfield_292_0 : tfield Tryz.prog 292 0 = some (0, 12) := by kernel_rfl
@[simp] theorem tplace_292_0 : aplace Tryz.prog 292 0 = some (0, 1) := by kernel_rfl
@[simp] theorem tfield_292_1 : tfield Tryz.prog 292 1 = some (1, 12) := by kernel_rfl
@[simp] theorem tplace_292_1 : aplace Tryz.prog 292 1 = some (1, 1) := by kernel_rfl
@[simp] theorem tfield_292_2 : tfield Tryz.prog 292 2 = some (2, 190) := by kernel_rfl
@[simp] theorem tplace_292_2 : aplace Tryz.prog 292 2 = some (2, 1) := by kernel_rfl
@[simp] theorem tfield_292_3 : tfield Tryz.prog 292 3 = some (3, 287) := by kernel_rfl
@[simp] theorem tplace_292_3 : aplace Tryz.prog 292 3 = some (3, 1) := by kernel_rfl
@[simp] theorem tfield_292_4 : tfield Tryz.prog 292 4 = some (4, 5) := by kernel_rfl
@[simp] theorem tplace_292_4 : aplace Tryz.prog 292 4 = some (4, 1) := by kernel_rfl
@[simp] theorem tfield_292_5 : tfield Tryz.prog 292 5 = some (5, 5) := by kernel_rfl
@[simp] theorem tplace_292_5 : aplace Tryz.prog 292 5 = some (5, 1) := by kernel_rfl
@[simp] theorem tfield_292_6 : tfield Tryz.prog 292 6 = some (6, 288) := by kernel_rfl
@[simp] theorem tplace_292_6 : aplace Tryz.prog 292 6 = some (6, 1) := by kernel_rfl
@[simp] theorem tfield_292_7 : tfield Tryz.prog 292 7 = some (7, 289) := by kernel_rfl
@[simp] theorem tplace_292_7 : aplace Tryz.prog 292 7 = some (7, 1) := by kernel_rfl
@[simp] theorem tfield_292_8 : tfield Tryz.prog 292 8 = some (8, 255) := by kernel_rfl
@[simp] theorem tplace_292_8 : aplace Tryz.prog 292 8 = some (8, 1) := by kernel_rfl
@[simp] theorem tfield_292_9 : tfield Tryz.prog 292 9 = some (9, 290) := by kernel_rfl
@[simp] theorem tplace_292_9 : aplace Tryz.prog 292 9 = some (9, 1) := by kernel_rfl
@[simp] theorem tfield_292_10 : tfield Tryz.prog 292 10 = some (10, 291) := by kernel_rfl
@[simp] theorem tplace_292_10 : aplace Tryz.prog 292 10 = some (10, 1) := by kernel_rfl
@[simp] theorem tkd_293 : tkd Tryz.prog 293 = 9 := by kernel_rfl
@[simp] theorem tun_293 : (Tryz.prog.underlying 293).isSome = true := by kernel_rfl
@[simp] theorem tagg_293 : tagg Tryz.prog 293 = some true := by kernel_rfl
@[simp] theorem tsize_293 : tsize Tryz.prog 293 = some 11 := by kernel_rfl
@[simp] theorem tzero_293 : tzero Tryz.prog 293 = some (.agg #[.int .u64 0, .int .u64 0, .int .u32 0, .int .u8 0, .int .u8 0, .int .u8 0, .int .u8 0, .nilFunc, .pointer none, .int .i32 0, .int .i32 0]) := by kernel_rfl
@[simp] theorem tsizes_293 : tsizes Tryz.prog 293 = true := by kernel_rfl
@[simp] theorem tfield_293_0 : tfield Tryz.prog 293 0 = some (0, 12) := by kernel_rfl
@[simp] theorem tplace_293_0 : aplace Tryz.prog 293 0 = some (0, 1) := by kernel_rfl
@[simp] theorem tfield_293_1 : tfield Tryz.prog 293 1 = some (1, 12) := by kernel_rfl
@[simp] theorem tplace_293_1 : aplace Tryz.prog 293 1 = some (1, 1) := by kernel_rfl
@[simp] theorem tfield_293_2 : tfield Tryz.prog 293 2 = some (2, 190) := by kernel_rfl
@[simp] theorem tplace_293_2 : aplace Tryz.prog 293 2 = some (2, 1) := by kernel_rfl
@[simp] theorem tfield_293_3 : tfield Tryz.prog 293 3 = some (3, 287) := by kernel_rfl
@[simp] theorem tplace_293_3 : aplace Tryz.prog 293 3 = some (3, 1) := by kernel_rfl
@[simp] theorem tfield_293_4 : tfield Tryz.prog 293 4 = some (4, 5) := by kernel_rfl
@[simp] theorem tplace_293_4 : aplace Tryz.prog 293 4 = some (4, 1) := by kernel_rfl
@[simp] theorem tfield_293_5 : tfield Tryz.prog 293 5 = some (5, 5) := by kernel_rfl
@[simp] theorem tplace_293_5 : aplace Tryz.prog 293 5 = some (5, 1) := by kernel_rfl
@[simp] theorem tfield_293_6 : tfield Tryz.prog 293 6 = some (6, 288) := by kernel_rfl
@[simp] theorem tplace_293_6 : aplace Tryz.prog 293 6 = some (6, 1) := by kernel_rfl
@[simp] theorem tfield_293_7 : tfield Tryz.prog 293 7 = some (7, 289) := by kernel_rfl
@[simp] theorem tplace_293_7 : aplace Tryz.prog 293 7 = some (7, 1) := by kernel_rfl
@[simp] theorem tfield_293_8 : tfield Tryz.prog 293 8 = some (8, 255) := by kernel_rfl
@[simp] theorem tplace_293_8 : aplace Tryz.prog 293 8 = some (8, 1) := by kernel_rfl
@[simp] theorem tfield_293_9 : tfield Tryz.prog 293 9 = some (9, 290) := by kernel_rfl
@[simp] theorem tplace_293_9 : aplace Tryz.prog 293 9 = some (9, 1) := by kernel_rfl
@[simp] theorem tfield_293_10 : tfield Tryz.prog 293 10 = some (10, 291) := by kernel_rfl
@[simp] theorem tplace_293_10 : aplace Tryz.prog 293 10 = some (10, 1) := by kernel_rfl
@[simp] theorem tfs_100 : tfs Tryz.prog 100 = some [(false, 22, 0), (false, 2, 1), (false, 3, 2), (false, 3, 3), (false, 22, 4), (false, 22, 5), (false, 2, 6)] := by kernel_rfl
@[simp] theorem tfs_102 : tfs Tryz.prog 102 = some [(false, 31, 0), (false, 22, 1)] := by kernel_rfl
@[simp] theorem tfs_104 : tfs Tryz.prog 104 = some [(false, 22, 0), (false, 22, 1), (false, 102, 2)] := by kernel_rfl
@[simp] theorem tfs_142 : tfs Tryz.prog 142 = some [(false, 22, 0), (false, 4, 1)] := by kernel_rfl
@[simp] theorem tfs_144 : tfs Tryz.prog 144 = some [(false, 142, 0), (false, 142, 2), (false, 142, 4), (false, 142, 6), (false, 142, 8)] := by kernel_rfl
@[simp] theorem can_3 : canCall Tryz.prog 3 = true := by kernel_rfl
@[simp] theorem can_4 : canCall Tryz.prog 4 = true := by kernel_rfl
@[simp] theorem can_5 : canCall Tryz.prog 5 = true := by kernel_rfl
@[simp] theorem can_6 : canCall Tryz.prog 6 = true := by kernel_rfl
@[simp] theorem can_7 : canCall Tryz.prog 7 = true := by kernel_rfl
@[simp] theorem can_8 : canCall Tryz.prog 8 = true := by kernel_rfl
@[simp] theorem can_9 : canCall Tryz.prog 9 = true := by kernel_rfl
@[simp] theorem can_10 : canCall Tryz.prog 10 = true := by kernel_rfl
@[simp] theorem can_11 : canCall Tryz.prog 11 = true := by kernel_rfl
@[simp] theorem can_12 : canCall Tryz.prog 12 = true := by kernel_rfl
@[simp] theorem can_13 : canCall Tryz.prog 13 = true := by kernel_rfl
@[simp] theorem can_14 : canCall Tryz.prog 14 = true := by kernel_rfl
@[simp] theorem can_15 : canCall Tryz.prog 15 = true := by kernel_rfl
@[simp] theorem can_16 : canCall Tryz.prog 16 = true := by kernel_rfl
@[simp] theorem can_17 : canCall Tryz.prog 17 = true := by kernel_rfl
@[simp] theorem can_18 : canCall Tryz.prog 18 = true := by kernel_rfl
@[simp] theorem can_19 : canCall Tryz.prog 19 = true := by kernel_rfl
@[simp] theorem can_20 : canCall Tryz.prog 20 = true := by kernel_rfl
@[simp] theorem can_21 : canCall Tryz.prog 21 = true := by kernel_rfl
@[simp] theorem can_22 : canCall Tryz.prog 22 = true := by kernel_rfl
@[simp] theorem can_23 : canCall Tryz.prog 23 = true := by kernel_rfl
@[simp] theorem can_24 : canCall Tryz.prog 24 = true := by kernel_rfl
@[simp] theorem can_25 : canCall Tryz.prog 25 = true := by kernel_rfl
@[simp] theorem can_26 : canCall Tryz.prog 26 = true := by kernel_rfl
@[simp] theorem can_27 : canCall Tryz.prog 27 = true := by kernel_rfl
@[simp] theorem can_28 : canCall Tryz.prog 28 = true := by kernel_rfl
@[simp] theorem can_29 : canCall Tryz.prog 29 = true := by kernel_rfl
@[simp] theorem can_30 : canCall Tryz.prog 30 = true := by kernel_rfl
@[simp] theorem can_31 : canCall Tryz.prog 31 = true := by kernel_rfl
@[simp] theorem can_32 : canCall Tryz.prog 32 = true := by kernel_rfl
@[simp] theorem can_33 : canCall Tryz.prog 33 = true := by kernel_rfl
@[simp] theorem can_34 : canCall Tryz.prog 34 = true := by kernel_rfl
@[simp] theorem can_35 : canCall Tryz.prog 35 = true := by kernel_rfl
@[simp] theorem can_36 : canCall Tryz.prog 36 = true := by kernel_rfl
@[simp] theorem can_37 : canCall Tryz.prog 37 = true := by kernel_rfl
@[simp] theorem can_38 : canCall Tryz.prog 38 = true := by kernel_rfl
@[simp] theorem can_39 : canCall Tryz.prog 39 = true := by kernel_rfl
@[simp] theorem can_40 : canCall Tryz.prog 40 = true := by kernel_rfl
@[simp] theorem can_41 : canCall Tryz.prog 41 = true := by kernel_rfl
@[simp] theorem can_42 : canCall Tryz.prog 42 = true := by kernel_rfl
@[simp] theorem can_43 : canCall Tryz.prog 43 = true := by kernel_rfl
@[simp] theorem can_44 : canCall Tryz.prog 44 = true := by kernel_rfl
@[simp] theorem can_45 : canCall Tryz.prog 45 = true := by kernel_rfl
@[simp] theorem can_46 : canCall Tryz.prog 46 = true := by kernel_rfl
@[simp] theorem can_47 : canCall Tryz.prog 47 = true := by kernel_rfl
@[simp] theorem can_48 : canCall Tryz.prog 48 = true := by kernel_rfl
@[simp] theorem can_49 : canCall Tryz.prog 49 = true := by kernel_rfl
@[simp] theorem can_50 : canCall Tryz.prog 50 = true := by kernel_rfl
@[simp] theorem can_51 : canCall Tryz.prog 51 = true := by kernel_rfl
@[simp] theorem can_52 : canCall Tryz.prog 52 = true := by kernel_rfl
@[simp] theorem can_53 : canCall Tryz.prog 53 = true := by kernel_rfl
@[simp] theorem can_54 : canCall Tryz.prog 54 = true := by kernel_rfl
@[simp] theorem can_55 : canCall Tryz.prog 55 = true := by kernel_rfl
@[simp] theorem can_56 : canCall Tryz.prog 56 = true := by kernel_rfl
@[simp] theorem can_57 : canCall Tryz.prog 57 = true := by kernel_rfl
@[simp] theorem can_58 : canCall Tryz.prog 58 = true := by kernel_rfl
@[simp] theorem can_59 : canCall Tryz.prog 59 = true := by kernel_rfl
@[simp] theorem can_60 : canCall Tryz.prog 60 = true := by kernel_rfl
@[simp] theorem can_61 : canCall Tryz.prog 61 = true := by kernel_rfl
@[simp] theorem can_62 : canCall Tryz.prog 62 = true := by kernel_rfl
@[simp] theorem can_63 : canCall Tryz.prog 63 = true := by kernel_rfl
@[simp] theorem can_64 : canCall Tryz.prog 64 = true := by kernel_rfl
@[simp] theorem can_65 : canCall Tryz.prog 65 = true := by kernel_rfl
@[simp] theorem can_66 : canCall Tryz.prog 66 = true := by kernel_rfl
@[simp] theorem can_67 : canCall Tryz.prog 67 = true := by kernel_rfl
@[simp] theorem can_68 : canCall Tryz.prog 68 = true := by kernel_rfl
@[simp] theorem can_69 : canCall Tryz.prog 69 = true := by kernel_rfl
@[simp] theorem can_70 : canCall Tryz.prog 70 = true := by kernel_rfl
@[simp] theorem can_71 : canCall Tryz.prog 71 = true := by kernel_rfl
@[simp] theorem can_72 : canCall Tryz.prog 72 = true := by kernel_rfl
@[simp] theorem can_73 : canCall Tryz.prog 73 = true := by kernel_rfl
@[simp] theorem can_74 : canCall Tryz.prog 74 = true := by kernel_rfl
@[simp] theorem can_75 : canCall Tryz.prog 75 = true := by kernel_rfl
@[simp] theorem can_76 : canCall Tryz.prog 76 = true := by kernel_rfl
@[simp] theorem can_77 : canCall Tryz.prog 77 = true := by kernel_rfl
@[simp] theorem can_78 : canCall Tryz.prog 78 = true := by kernel_rfl
@[simp] theorem can_79 : canCall Tryz.prog 79 = true := by kernel_rfl
@[simp] theorem can_80 : canCall Tryz.prog 80 = true := by kernel_rfl
@[simp] theorem can_81 : canCall Tryz.prog 81 = true := by kernel_rfl
@[simp] theorem can_82 : canCall Tryz.prog 82 = true := by kernel_rfl
@[simp] theorem can_83 : canCall Tryz.prog 83 = true := by kernel_rfl
@[simp] theorem can_84 : canCall Tryz.prog 84 = true := by kernel_rfl
@[simp] theorem can_85 : canCall Tryz.prog 85 = true := by kernel_rfl
@[simp] theorem can_86 : canCall Tryz.prog 86 = true := by kernel_rfl
@[simp] theorem can_87 : canCall Tryz.prog 87 = true := by kernel_rfl
@[simp] theorem can_88 : canCall Tryz.prog 88 = true := by kernel_rfl
@[simp] theorem can_89 : canCall Tryz.prog 89 = true := by kernel_rfl
@[simp] theorem can_90 : canCall Tryz.prog 90 = true := by kernel_rfl
@[simp] theorem can_91 : canCall Tryz.prog 91 = true := by kernel_rfl
@[simp] theorem can_92 : canCall Tryz.prog 92 = true := by kernel_rfl
@[simp] theorem can_93 : canCall Tryz.prog 93 = true := by kernel_rfl
@[simp] theorem can_94 : canCall Tryz.prog 94 = true := by kernel_rfl
@[simp] theorem can_95 : canCall Tryz.prog 95 = true := by kernel_rfl
@[simp] theorem can_96 : canCall Tryz.prog 96 = true := by kernel_rfl
@[simp] theorem can_97 : canCall Tryz.prog 97 = true := by kernel_rfl
@[simp] theorem can_98 : canCall Tryz.prog 98 = true := by kernel_rfl
@[simp] theorem can_99 : canCall Tryz.prog 99 = true := by kernel_rfl
@[simp] theorem can_100 : canCall Tryz.prog 100 = true := by kernel_rfl
@[simp] theorem can_101 : canCall Tryz.prog 101 = true := by kernel_rfl
@[simp] theorem can_102 : canCall Tryz.prog 102 = true := by kernel_rfl
@[simp] theorem can_103 : canCall Tryz.prog 103 = true := by kernel_rfl
@[simp] theorem can_104 : canCall Tryz.prog 104 = true := by kernel_rfl
@[simp] theorem can_105 : canCall Tryz.prog 105 = true := by kernel_rfl
@[simp] theorem can_106 : canCall Tryz.prog 106 = true := by kernel_rfl
@[simp] theorem can_107 : canCall Tryz.prog 107 = true := by kernel_rfl
@[simp] theorem can_108 : canCall Tryz.prog 108 = true := by kernel_rfl
@[simp] theorem can_109 : canCall Tryz.prog 109 = true := by kernel_rfl
@[simp] theorem can_110 : canCall Tryz.prog 110 = true := by kernel_rfl
@[simp] theorem can_111 : canCall Tryz.prog 111 = true := by kernel_rfl
@[simp] theorem can_112 : canCall Tryz.prog 112 = true := by kernel_rfl
@[simp] theorem can_113 : canCall Tryz.prog 113 = true := by kernel_rfl
@[simp] theorem can_114 : canCall Tryz.prog 114 = true := by kernel_rfl
@[simp] theorem can_115 : canCall Tryz.prog 115 = true := by kernel_rfl
@[simp] theorem can_116 : canCall Tryz.prog 116 = true := by kernel_rfl
@[simp] theorem can_117 : canCall Tryz.prog 117 = true := by kernel_rfl
@[simp] theorem can_118 : canCall Tryz.prog 118 = true := by kernel_rfl
@[simp] theorem can_119 : canCall Tryz.prog 119 = true := by kernel_rfl
@[simp] theorem can_120 : canCall Tryz.prog 120 = true := by kernel_rfl
@[simp] theorem can_121 : canCall Tryz.prog 121 = true := by kernel_rfl
@[simp] theorem can_123 : canCall Tryz.prog 123 = true := by kernel_rfl
@[simp] theorem can_124 : canCall Tryz.prog 124 = true := by kernel_rfl
@[simp] theorem can_125 : canCall Tryz.prog 125 = true := by kernel_rfl
@[simp] theorem can_126 : canCall Tryz.prog 126 = true := by kernel_rfl
@[simp] theorem can_127 : canCall Tryz.prog 127 = true := by kernel_rfl
@[simp] theorem can_128 : canCall Tryz.prog 128 = true := by kernel_rfl
@[simp] theorem can_129 : canCall Tryz.prog 129 = true := by kernel_rfl
@[simp] theorem can_130 : canCall Tryz.prog 130 = true := by kernel_rfl
@[simp] theorem can_131 : canCall Tryz.prog 131 = true := by kernel_rfl
@[simp] theorem can_132 : canCall Tryz.prog 132 = true := by kernel_rfl
@[simp] theorem can_133 : canCall Tryz.prog 133 = true := by kernel_rfl
@[simp] theorem can_134 : canCall Tryz.prog 134 = true := by kernel_rfl
@[simp] theorem can_135 : canCall Tryz.prog 135 = true := by kernel_rfl
@[simp] theorem can_136 : canCall Tryz.prog 136 = true := by kernel_rfl
@[simp] theorem can_137 : canCall Tryz.prog 137 = true := by kernel_rfl
@[simp] theorem can_138 : canCall Tryz.prog 138 = true := by kernel_rfl
@[simp] theorem can_139 : canCall Tryz.prog 139 = true := by kernel_rfl
@[simp] theorem can_140 : canCall Tryz.prog 140 = true := by kernel_rfl
@[simp] theorem can_141 : canCall Tryz.prog 141 = true := by kernel_rfl
@[simp] theorem can_142 : canCall Tryz.prog 142 = true := by kernel_rfl
@[simp] theorem can_143 : canCall Tryz.prog 143 = true := by kernel_rfl
@[simp] theorem can_144 : canCall Tryz.prog 144 = true := by kernel_rfl
@[simp] theorem can_145 : canCall Tryz.prog 145 = true := by kernel_rfl
@[simp] theorem can_147 : canCall Tryz.prog 147 = true := by kernel_rfl
@[simp] theorem can_148 : canCall Tryz.prog 148 = true := by kernel_rfl
@[simp] theorem can_149 : canCall Tryz.prog 149 = true := by kernel_rfl
@[simp] theorem can_150 : canCall Tryz.prog 150 = true := by kernel_rfl
@[simp] theorem can_151 : canCall Tryz.prog 151 = true := by kernel_rfl
@[simp] theorem can_152 : canCall Tryz.prog 152 = true := by kernel_rfl
@[simp] theorem can_153 : canCall Tryz.prog 153 = true := by kernel_rfl
@[simp] theorem can_154 : canCall Tryz.prog 154 = true := by kernel_rfl
@[simp] theorem can_155 : canCall Tryz.prog 155 = true := by kernel_rfl
@[simp] theorem can_156 : canCall Tryz.prog 156 = true := by kernel_rfl
@[simp] theorem can_157 : canCall Tryz.prog 157 = true := by kernel_rfl
@[simp] theorem can_158 : canCall Tryz.prog 158 = true := by kernel_rfl
@[simp] theorem can_159 : canCall Tryz.prog 159 = true := by kernel_rfl
@[simp] theorem can_160 : canCall Tryz.prog 160 = true := by kernel_rfl
@[simp] theorem can_161 : canCall Tryz.prog 161 = true := by kernel_rfl
@[simp] theorem can_162 : canCall Tryz.prog 162 = true := by kernel_rfl
@[simp] theorem can_163 : canCall Tryz.prog 163 = true := by kernel_rfl
@[simp] theorem can_164 : canCall Tryz.prog 164 = true := by kernel_rfl
@[simp] theorem can_165 : canCall Tryz.prog 165 = true := by kernel_rfl
@[simp] theorem can_166 : canCall Tryz.prog 166 = true := by kernel_rfl
@[simp] theorem can_167 : canCall Tryz.prog 167 = true := by kernel_rfl
@[simp] theorem can_168 : canCall Tryz.prog 168 = true := by kernel_rfl
@[simp] theorem can_169 : canCall Tryz.prog 169 = true := by kernel_rfl
@[simp] theorem can_170 : canCall Tryz.prog 170 = true := by kernel_rfl
@[simp] theorem can_171 : canCall Tryz.prog 171 = true := by kernel_rfl
@[simp] theorem can_172 : canCall Tryz.prog 172 = true := by kernel_rfl
@[simp] theorem can_173 : canCall Tryz.prog 173 = true := by kernel_rfl
@[simp] theorem can_174 : canCall Tryz.prog 174 = true := by kernel_rfl
@[simp] theorem can_175 : canCall Tryz.prog 175 = true := by kernel_rfl
@[simp] theorem can_176 : canCall Tryz.prog 176 = true := by kernel_rfl
@[simp] theorem can_177 : canCall Tryz.prog 177 = true := by kernel_rfl
@[simp] theorem can_178 : canCall Tryz.prog 178 = true := by kernel_rfl
@[simp] theorem can_179 : canCall Tryz.prog 179 = true := by kernel_rfl
@[simp] theorem can_180 : canCall Tryz.prog 180 = true := by kernel_rfl
@[simp] theorem can_181 : canCall Tryz.prog 181 = true := by kernel_rfl
@[simp] theorem can_184 : canCall Tryz.prog 184 = true := by kernel_rfl
@[simp] theorem can_185 : canCall Tryz.prog 185 = true := by kernel_rfl
@[simp] theorem can_186 : canCall Tryz.prog 186 = true := by kernel_rfl
@[simp] theorem can_187 : canCall Tryz.prog 187 = true := by kernel_rfl
@[simp] theorem can_188 : canCall Tryz.prog 188 = true := by kernel_rfl
@[simp] theorem can_190 : canCall Tryz.prog 190 = true := by kernel_rfl
@[simp] theorem can_191 : canCall Tryz.prog 191 = true := by kernel_rfl
@[simp] theorem can_196 : canCall Tryz.prog 196 = true := by kernel_rfl
@[simp] theorem can_197 : canCall Tryz.prog 197 = true := by kernel_rfl
@[simp] theorem can_198 : canCall Tryz.prog 198 = true := by kernel_rfl
@[simp] theorem can_199 : canCall Tryz.prog 199 = true := by kernel_rfl
@[simp] theorem can_200 : canCall Tryz.prog 200 = true := by kernel_rfl
@[simp] theorem can_201 : canCall Tryz.prog 201 = true := by kernel_rfl
@[simp] theorem can_202 : canCall Tryz.prog 202 = true := by kernel_rfl
@[simp] theorem can_204 : canCall Tryz.prog 204 = true := by kernel_rfl
@[simp] theorem can_205 : canCall Tryz.prog 205 = true := by kernel_rfl
@[simp] theorem can_206 : canCall Tryz.prog 206 = true := by kernel_rfl
@[simp] theorem can_207 : canCall Tryz.prog 207 = true := by kernel_rfl
@[simp] theorem can_208 : canCall Tryz.prog 208 = true := by kernel_rfl
@[simp] theorem can_209 : canCall Tryz.prog 209 = true := by kernel_rfl
@[simp] theorem can_210 : canCall Tryz.prog 210 = true := by kernel_rfl
@[simp] theorem can_211 : canCall Tryz.prog 211 = true := by kernel_rfl
@[simp] theorem can_214 : canCall Tryz.prog 214 = true := by kernel_rfl
@[simp] theorem can_215 : canCall Tryz.prog 215 = true := by kernel_rfl
@[simp] theorem can_216 : canCall Tryz.prog 216 = true := by kernel_rfl
@[simp] theorem can_218 : canCall Tryz.prog 218 = true := by kernel_rfl
@[simp] theorem can_219 : canCall Tryz.prog 219 = true := by kernel_rfl
@[simp] theorem can_220 : canCall Tryz.prog 220 = true := by kernel_rfl
@[simp] theorem can_221 : canCall Tryz.prog 221 = true := by kernel_rfl
@[simp] theorem can_222 : canCall Tryz.prog 222 = true := by kernel_rfl
@[simp] theorem can_223 : canCall Tryz.prog 223 = true := by kernel_rfl
@[simp] theorem can_224 : canCall Tryz.prog 224 = true := by kernel_rfl
@[simp] theorem can_225 : canCall Tryz.prog 225 = true := by kernel_rfl
@[simp] theorem can_226 : canCall Tryz.prog 226 = true := by kernel_rfl
@[simp] theorem can_229 : canCall Tryz.prog 229 = true := by kernel_rfl
@[simp] theorem can_230 : canCall Tryz.prog 230 = true := by kernel_rfl
@[simp] theorem can_233 : canCall Tryz.prog 233 = true := by kernel_rfl
@[simp] theorem can_234 : canCall Tryz.prog 234 = true := by kernel_rfl
@[simp] theorem can_235 : canCall Tryz.prog 235 = true := by kernel_rfl
@[simp] theorem can_247 : canCall Tryz.prog 247 = true := by kernel_rfl
@[simp] theorem can_248 : canCall Tryz.prog 248 = true := by kernel_rfl
@[simp] theorem can_249 : canCall Tryz.prog 249 = true := by kernel_rfl
@[simp] theorem can_279 : canCall Tryz.prog 279 = true := by kernel_rfl
end Go.Proofs.YtghlkjkdejebnaaGreatDoor
