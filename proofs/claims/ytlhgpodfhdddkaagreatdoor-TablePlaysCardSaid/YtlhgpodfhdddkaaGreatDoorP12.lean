/- Small facts on the types and the functions of this program, printed by facts.py. -/
import Derived.Test.YtlhgpodfhdddkaaGreatDoorP08
import Derived.Test.YtlhgpodfhdddkaaGreatDoorRows
set_option linter.unusedSimpArgs false
set_option linter.unusedVariables false
set_option linter.unnecessarySimpa false
namespace Go.Proofs.YtlhgpodfhdddkaaGreatDoor
open Rg
theorem f_mixed : Tryz.prog.follows .mixedOrders = true := by kernel_rfl
@[simp] theorem tkd_2 : tkd Tryz.prog 2 = 2 := by kernel_rfl
@[simp] theorem tun_2 : (Tryz.prog.underlying 2).isSome = true := by kernel_rfl
@[simp] theorem tagg_2 : tagg Tryz.prog 2 = some false := by kernel_rfl
@[simp] theorem tsize_2 : tsize Tryz.prog 2 = some 1 := by kernel_rfl
@[simp] theorem tzero_2 : tzero Tryz.prog 2 = some (.int .i64 0) := by kernel_rfl
@[simp] theorem tint_2 : tint Tryz.prog 2 = some .i64 := by kernel_rfl
@[simp] theorem tkd_3 : tkd Tryz.prog 3 = 2 := by kernel_rfl
@[simp] theorem tun_3 : (Tryz.prog.underlying 3).isSome = true := by kernel_rfl
@[simp] theorem tagg_3 : tagg Tryz.prog 3 = some false := by kernel_rfl
@[simp] theorem tsize_3 : tsize Tryz.prog 3 = some 1 := by kernel_rfl
@[simp] theorem tzero_3 : tzero Tryz.prog 3 = some (.int .i64 0) := by kernel_rfl
@[simp] theorem tint_3 : tint Tryz.prog 3 = some .i64 := by kernel_rfl
@[simp] theorem tkd_4 : tkd Tryz.prog 4 = 1 := by kernel_rfl
@[simp] theorem tun_4 : (Tryz.prog.underlying 4).isSome = true := by kernel_rfl
@[simp] theorem tagg_4 : tagg Tryz.prog 4 = some false := by kernel_rfl
@[simp] theorem tsize_4 : tsize Tryz.prog 4 = some 1 := by kernel_rfl
@[simp] theorem tzero_4 : tzero Tryz.prog 4 = some (.bool false) := by kernel_rfl
@[simp] theorem tkd_5 : tkd Tryz.prog 5 = 2 := by kernel_rfl
@[simp] theorem tun_5 : (Tryz.prog.underlying 5).isSome = true := by kernel_rfl
@[simp] theorem tagg_5 : tagg Tryz.prog 5 = some false := by kernel_rfl
@[simp] theorem tsize_5 : tsize Tryz.prog 5 = some 1 := by kernel_rfl
@[simp] theorem tzero_5 : tzero Tryz.prog 5 = some (.int .u8 0) := by kernel_rfl
@[simp] theorem tint_5 : tint Tryz.prog 5 = some .u8 := by kernel_rfl
@[simp] theorem tkd_6 : tkd Tryz.prog 6 = 2 := by kernel_rfl
@[simp] theorem tun_6 : (Tryz.prog.underlying 6).isSome = true := by kernel_rfl
@[simp] theorem tagg_6 : tagg Tryz.prog 6 = some false := by kernel_rfl
@[simp] theorem tsize_6 : tsize Tryz.prog 6 = some 1 := by kernel_rfl
@[simp] theorem tzero_6 : tzero Tryz.prog 6 = some (.int .u8 0) := by kernel_rfl
@[simp] theorem tint_6 : tint Tryz.prog 6 = some .u8 := by kernel_rfl
@[simp] theorem tkd_7 : tkd Tryz.prog 7 = 9 := by kernel_rfl
@[simp] theorem tun_7 : (Tryz.prog.underlying 7).isSome = true := by kernel_rfl
@[simp] theorem tagg_7 : tagg Tryz.prog 7 = some true := by kernel_rfl
@[simp] theorem tsize_7 : tsize Tryz.prog 7 = some 4 := by kernel_rfl
@[simp] theorem tzero_7 : tzero Tryz.prog 7 = some (.agg #[.int .i64 0, .int .i64 0, .bool false, .int .u8 0]) := by kernel_rfl
@[simp] theorem tsizes_7 : tsizes Tryz.prog 7 = true := by kernel_rfl
@[simp] theorem tfield_7_0 : tfield Tryz.prog 7 0 = some (0, 2) := by kernel_rfl
@[simp] theorem tplace_7_0 : aplace Tryz.prog 7 0 = some (0, 1) := by kernel_rfl
@[simp] theorem tfield_7_1 : tfield Tryz.prog 7 1 = some (1, 3) := by kernel_rfl
@[simp] theorem tplace_7_1 : aplace Tryz.prog 7 1 = some (1, 1) := by kernel_rfl
@[simp] theorem tfield_7_2 : tfield Tryz.prog 7 2 = some (2, 4) := by kernel_rfl
@[simp] theorem tplace_7_2 : aplace Tryz.prog 7 2 = some (2, 1) := by kernel_rfl
@[simp] theorem tfield_7_3 : tfield Tryz.prog 7 3 = some (3, 6) := by kernel_rfl
@[simp] theorem tplace_7_3 : aplace Tryz.prog 7 3 = some (3, 1) := by kernel_rfl
@[simp] theorem tkd_8 : tkd Tryz.prog 8 = 9 := by kernel_rfl
@[simp] theorem tun_8 : (Tryz.prog.underlying 8).isSome = true := by kernel_rfl
@[simp] theorem tagg_8 : tagg Tryz.prog 8 = some true := by kernel_rfl
@[simp] theorem tsize_8 : tsize Tryz.prog 8 = some 4 := by kernel_rfl
@[simp] theorem tzero_8 : tzero Tryz.prog 8 = some (.agg #[.int .i64 0, .int .i64 0, .bool false, .int .u8 0]) := by kernel_rfl
@[simp] theorem tsizes_8 : tsizes Tryz.prog 8 = true := by kernel_rfl
@[simp] theorem tfield_8_0 : tfield Tryz.prog 8 0 = some (0, 2) := by kernel_rfl
@[simp] theorem tplace_8_0 : aplace Tryz.prog 8 0 = some (0, 1) := by kernel_rfl
@[simp] theorem tfield_8_1 : tfield Tryz.prog 8 1 = some (1, 3) := by kernel_rfl
@[simp] theorem tplace_8_1 : aplace Tryz.prog 8 1 = some (1, 1) := by kernel_rfl
@[simp] theorem tfield_8_2 : tfield Tryz.prog 8 2 = some (2, 4) := by kernel_rfl
@[simp] theorem tplace_8_2 : aplace Tryz.prog 8 2 = some (2, 1) := by kernel_rfl
@[simp] theorem tfield_8_3 : tfield Tryz.prog 8 3 = some (3, 6) := by kernel_rfl
@[simp] theorem tplace_8_3 : aplace Tryz.prog 8 3 = some (3, 1) := by kernel_rfl
@[simp] theorem tkd_9 : tkd Tryz.prog 9 = 3 := by kernel_rfl
@[simp] theorem tun_9 : (Tryz.prog.underlying 9).isSome = true := by kernel_rfl
@[simp] theorem tagg_9 : tagg Tryz.prog 9 = some false := by kernel_rfl
@[simp] theorem tsize_9 : tsize Tryz.prog 9 = some 1 := by kernel_rfl
@[simp] theorem tzero_9 : tzero Tryz.prog 9 = some (.string ByteArray.empty) := by kernel_rfl
@[simp] theorem tkd_10 : tkd Tryz.prog 10 = 3 := by kernel_rfl
@[simp] theorem tun_10 : (Tryz.prog.underlying 10).isSome = true := by kernel_rfl
@[simp] theorem tagg_10 : tagg Tryz.prog 10 = some false := by kernel_rfl
@[simp] theorem tsize_10 : tsize Tryz.prog 10 = some 1 := by kernel_rfl
@[simp] theorem tzero_10 : tzero Tryz.prog 10 = some (.string ByteArray.empty) := by kernel_rfl
@[simp] theorem tkd_11 : tkd Tryz.prog 11 = 3 := by kernel_rfl
@[simp] theorem tun_11 : (Tryz.prog.underlying 11).isSome = true := by kernel_rfl
@[simp] theorem tagg_11 : tagg Tryz.prog 11 = some false := by kernel_rfl
@[simp] theorem tsize_11 : tsize Tryz.prog 11 = some 1 := by kernel_rfl
@[simp] theorem tzero_11 : tzero Tryz.prog 11 = some (.string ByteArray.empty) := by kernel_rfl
@[simp] theorem tkd_12 : tkd Tryz.prog 12 = 2 := by kernel_rfl
@[simp] theorem tun_12 : (Tryz.prog.underlying 12).isSome = true := by kernel_rfl
@[simp] theorem tagg_12 : tagg Tryz.prog 12 = some false := by kernel_rfl
@[simp] theorem tsize_12 : tsize Tryz.prog 12 = some 1 := by kernel_rfl
@[simp] theorem tzero_12 : tzero Tryz.prog 12 = some (.int .u64 0) := by kernel_rfl
@[simp] theorem tint_12 : tint Tryz.prog 12 = some .u64 := by kernel_rfl
@[simp] theorem tkd_13 : tkd Tryz.prog 13 = 9 := by kernel_rfl
@[simp] theorem tun_13 : (Tryz.prog.underlying 13).isSome = true := by kernel_rfl
@[simp] theorem tagg_13 : tagg Tryz.prog 13 = some true := by kernel_rfl
@[simp] theorem tsize_13 : tsize Tryz.prog 13 = some 2 := by kernel_rfl
@[simp] theorem tzero_13 : tzero Tryz.prog 13 = some (.agg #[.string ByteArray.empty, .int .u64 0]) := by kernel_rfl
@[simp] theorem tsizes_13 : tsizes Tryz.prog 13 = true := by kernel_rfl
@[simp] theorem tfield_13_0 : tfield Tryz.prog 13 0 = some (0, 9) := by kernel_rfl
@[simp] theorem tplace_13_0 : aplace Tryz.prog 13 0 = some (0, 1) := by kernel_rfl
@[simp] theorem tfield_13_1 : tfield Tryz.prog 13 1 = some (1, 12) := by kernel_rfl
@[simp] theorem tplace_13_1 : aplace Tryz.prog 13 1 = some (1, 1) := by kernel_rfl
@[simp] theorem tkd_14 : tkd Tryz.prog 14 = 9 := by kernel_rfl
@[simp] theorem tun_14 : (Tryz.prog.underlying 14).isSome = true := by kernel_rfl
@[simp] theorem tagg_14 : tagg Tryz.prog 14 = some true := by kernel_rfl
@[simp] theorem tsize_14 : tsize Tryz.prog 14 = some 2 := by kernel_rfl
@[simp] theorem tzero_14 : tzero Tryz.prog 14 = some (.agg #[.string ByteArray.empty, .int .u64 0]) := by kernel_rfl
@[simp] theorem tsizes_14 : tsizes Tryz.prog 14 = true := by kernel_rfl
@[simp] theorem tfield_14_0 : tfield Tryz.prog 14 0 = some (0, 9) := by kernel_rfl
@[simp] theorem tplace_14_0 : aplace Tryz.prog 14 0 = some (0, 1) := by kernel_rfl
@[simp] theorem tfield_14_1 : tfield Tryz.prog 14 1 = some (1, 12) := by kernel_rfl
@[simp] theorem tplace_14_1 : aplace Tryz.prog 14 1 = some (1, 1) := by kernel_rfl
@[simp] theorem tkd_15 : tkd Tryz.prog 15 = 4 := by kernel_rfl
@[simp] theorem tun_15 : (Tryz.prog.underlying 15).isSome = true := by kernel_rfl
@[simp] theorem tagg_15 : tagg Tryz.prog 15 = some false := by kernel_rfl
@[simp] theorem tsize_15 : tsize Tryz.prog 15 = some 1 := by kernel_rfl
@[simp] theorem tzero_15 : tzero Tryz.prog 15 = some (.pointer none) := by kernel_rfl
@[simp] theorem tkd_16 : tkd Tryz.prog 16 = 4 := by kernel_rfl
@[simp] theorem tun_16 : (Tryz.prog.underlying 16).isSome = true := by kernel_rfl
@[simp] theorem tagg_16 : tagg Tryz.prog 16 = some false := by kernel_rfl
@[simp] theorem tsize_16 : tsize Tryz.prog 16 = some 1 := by kernel_rfl
@[simp] theorem tzero_16 : tzero Tryz.prog 16 = some (.pointer none) := by kernel_rfl
@[simp] theorem tkd_17 : tkd Tryz.prog 17 = 4 := by kernel_rfl
@[simp] theorem tun_17 : (Tryz.prog.underlying 17).isSome = true := by kernel_rfl
@[simp] theorem tagg_17 : tagg Tryz.prog 17 = some false := by kernel_rfl
@[simp] theorem tsize_17 : tsize Tryz.prog 17 = some 1 := by kernel_rfl
@[simp] theorem tzero_17 : tzero Tryz.prog 17 = some (.pointer none) := by kernel_rfl
@[simp] theorem tkd_18 : tkd Tryz.prog 18 = 9 := by kernel_rfl
@[simp] theorem tun_18 : (Tryz.prog.underlying 18).isSome = true := by kernel_rfl
@[simp] theorem tagg_18 : tagg Tryz.prog 18 = some true := by kernel_rfl
@[simp] theorem tsize_18 : tsize Tryz.prog 18 = some 1 := by kernel_rfl
@[simp] theorem tzero_18 : tzero Tryz.prog 18 = some (.agg #[.pointer none]) := by kernel_rfl
@[simp] theorem tsizes_18 : tsizes Tryz.prog 18 = true := by kernel_rfl
@[simp] theorem tfield_18_0 : tfield Tryz.prog 18 0 = some (0, 17) := by kernel_rfl
@[simp] theorem tplace_18_0 : aplace Tryz.prog 18 0 = some (0, 1) := by kernel_rfl
@[simp] theorem tkd_20 : tkd Tryz.prog 20 = 8 := by kernel_rfl
@[simp] theorem tun_20 : (Tryz.prog.underlying 20).isSome = true := by kernel_rfl
@[simp] theorem tagg_20 : tagg Tryz.prog 20 = some false := by kernel_rfl
@[simp] theorem tsize_20 : tsize Tryz.prog 20 = some 1 := by kernel_rfl
@[simp] theorem tzero_20 : tzero Tryz.prog 20 = some (.nilIface) := by kernel_rfl
@[simp] theorem tkd_21 : tkd Tryz.prog 21 = 2 := by kernel_rfl
@[simp] theorem tun_21 : (Tryz.prog.underlying 21).isSome = true := by kernel_rfl
@[simp] theorem tagg_21 : tagg Tryz.prog 21 = some false := by kernel_rfl
@[simp] theorem tsize_21 : tsize Tryz.prog 21 = some 1 := by kernel_rfl
@[simp] theorem tzero_21 : tzero Tryz.prog 21 = some (.int .i32 0) := by kernel_rfl
@[simp] theorem tint_21 : tint Tryz.prog 21 = some .i32 := by kernel_rfl
@[simp] theorem tkd_22 : tkd Tryz.prog 22 = 5 := by kernel_rfl
@[simp] theorem tun_22 : (Tryz.prog.underlying 22).isSome = true := by kernel_rfl
@[simp] theorem tagg_22 : tagg Tryz.prog 22 = some false := by kernel_rfl
@[simp] theorem tsize_22 : tsize Tryz.prog 22 = some 1 := by kernel_rfl
@[simp] theorem tzero_22 : tzero Tryz.prog 22 = some (.slice none 0 0) := by kernel_rfl
@[simp] theorem telem_22 : telem Tryz.prog 22 = some 35 := by kernel_rfl
@[simp] theorem tkd_24 : tkd Tryz.prog 24 = 4 := by kernel_rfl
@[simp] theorem tun_24 : (Tryz.prog.underlying 24).isSome = true := by kernel_rfl
@[simp] theorem tagg_24 : tagg Tryz.prog 24 = some false := by kernel_rfl
@[simp] theorem tsize_24 : tsize Tryz.prog 24 = some 1 := by kernel_rfl
@[simp] theorem tzero_24 : tzero Tryz.prog 24 = some (.pointer none) := by kernel_rfl
@[simp] theorem tkd_26 : tkd Tryz.prog 26 = 4 := by kernel_rfl
@[simp] theorem tun_26 : (Tryz.prog.underlying 26).isSome = true := by kernel_rfl
@[simp] theorem tagg_26 : tagg Tryz.prog 26 = some false := by kernel_rfl
@[simp] theorem tsize_26 : tsize Tryz.prog 26 = some 1 := by kernel_rfl
@[simp] theorem tzero_26 : tzero Tryz.prog 26 = some (.pointer none) := by kernel_rfl
@[simp] theorem tkd_27 : tkd Tryz.prog 27 = 5 := by kernel_rfl
@[simp] theorem tun_27 : (Tryz.prog.underlying 27).isSome = true := by kernel_rfl
@[simp] theorem tagg_27 : tagg Tryz.prog 27 = some false := by kernel_rfl
@[simp] theorem tsize_27 : tsize Tryz.prog 27 = some 1 := by kernel_rfl
@[simp] theorem tzero_27 : tzero Tryz.prog 27 = some (.slice none 0 0) := by kernel_rfl
@[simp] theorem telem_27 : telem Tryz.prog 27 = some 33 := by kernel_rfl
theorem el_27 : ElemOk Tryz.prog 27 33 12 128 := ⟨by kernel_rfl, by kernel_rfl, by kernel_rfl, ⟨.agg #[.int .u64 0, .string ByteArray.empty, .string ByteArray.empty, .int .i64 0, .int .i64 0, .int .i64 0, .int .i64 0, .int .i64 0, .slice none 0 0, .bool false, .int .u64 0, .int .i64 0], by kernel_rfl, by kernel_rfl⟩, by decide⟩
@[simp] theorem tkd_28 : tkd Tryz.prog 28 = 2 := by kernel_rfl
@[simp] theorem tun_28 : (Tryz.prog.underlying 28).isSome = true := by kernel_rfl
@[simp] theorem tagg_28 : tagg Tryz.prog 28 = some false := by kernel_rfl
@[simp] theorem tsize_28 : tsize Tryz.prog 28 = some 1 := by kernel_rfl
@[simp] theorem tzero_28 : tzero Tryz.prog 28 = some (.int .u64 0) := by kernel_rfl
@[simp] theorem tint_28 : tint Tryz.prog 28 = some .u64 := by kernel_rfl
@[simp] theorem tkd_30 : tkd Tryz.prog 30 = 9 := by kernel_rfl
@[simp] theorem tun_30 : (Tryz.prog.underlying 30).isSome = true := by kernel_rfl
@[simp] theorem tagg_30 : tagg Tryz.prog 30 = some true := by kernel_rfl
@[simp] theorem tsize_30 : tsize Tryz.prog 30 = some 2 := by kernel_rfl
@[simp] theorem tzero_30 : tzero Tryz.prog 30 = some (.agg #[.slice none 0 0, .int .u64 0]) := by kernel_rfl
@[simp] theorem tsizes_30 : tsizes Tryz.prog 30 = true := by kernel_rfl
@[simp] theorem tfield_30_0 : tfield Tryz.prog 30 0 = some (0, 27) := by kernel_rfl
@[simp] theorem tplace_30_0 : aplace Tryz.prog 30 0 = some (0, 1) := by kernel_rfl
@[simp] theorem tfield_30_1 : tfield Tryz.prog 30 1 = some (1, 28) := by kernel_rfl
@[simp] theorem tplace_30_1 : aplace Tryz.prog 30 1 = some (1, 1) := by kernel_rfl
@[simp] theorem tkd_31 : tkd Tryz.prog 31 = 5 := by kernel_rfl
@[simp] theorem tun_31 : (Tryz.prog.underlying 31).isSome = true := by kernel_rfl
@[simp] theorem tagg_31 : tagg Tryz.prog 31 = some false := by kernel_rfl
@[simp] theorem tsize_31 : tsize Tryz.prog 31 = some 1 := by kernel_rfl
@[simp] theorem tzero_31 : tzero Tryz.prog 31 = some (.slice none 0 0) := by kernel_rfl
@[simp] theorem telem_31 : telem Tryz.prog 31 = some 28 := by kernel_rfl
theorem el_31 : ElemOk Tryz.prog 31 28 1 8 := ⟨by kernel_rfl, by kernel_rfl, by kernel_rfl, ⟨.int .u64 0, by kernel_rfl, by kernel_rfl⟩, by decide⟩
@[simp] theorem tkd_32 : tkd Tryz.prog 32 = 9 := by kernel_rfl
@[simp] theorem tun_32 : (Tryz.prog.underlying 32).isSome = true := by kernel_rfl
@[simp] theorem tagg_32 : tagg Tryz.prog 32 = some true := by kernel_rfl
@[simp] theorem tsize_32 : tsize Tryz.prog 32 = some 12 := by kernel_rfl
@[simp] theorem tzero_32 : tzero Tryz.prog 32 = some (.agg #[.int .u64 0, .string ByteArray.empty, .string ByteArray.empty, .int .i64 0, .int .i64 0, .int .i64 0, .int .i64 0, .int .i64 0, .slice none 0 0, .bool false, .int .u64 0, .int .i64 0]) := by kernel_rfl
@[simp] theorem tsizes_32 : tsizes Tryz.prog 32 = true := by kernel_rfl
@[simp] theorem tfield_32_0 : tfield Tryz.prog 32 0 = some (0, 28) := by kernel_rfl
@[simp] theorem tplace_32_0 : aplace Tryz.prog 32 0 = some (0, 1) := by kernel_rfl
@[simp] theorem tfield_32_1 : tfield Tryz.prog 32 1 = some (1, 9) := by kernel_rfl
@[simp] theorem tplace_32_1 : aplace Tryz.prog 32 1 = some (1, 1) := by kernel_rfl
@[simp] theorem tfield_32_2 : tfield Tryz.prog 32 2 = some (2, 9) := by kernel_rfl
@[simp] theorem tplace_32_2 : aplace Tryz.prog 32 2 = some (2, 1) := by kernel_rfl
@[simp] theorem tfield_32_3 : tfield Tryz.prog 32 3 = some (3, 3) := by kernel_rfl
@[simp] theorem tplace_32_3 : aplace Tryz.prog 32 3 = some (3, 1) := by kernel_rfl
@[simp] theorem tfield_32_4 : tfield Tryz.prog 32 4 = some (4, 2) := by kernel_rfl
@[simp] theorem tplace_32_4 : aplace Tryz.prog 32 4 = some (4, 1) := by kernel_rfl
@[simp] theorem tfield_32_5 : tfield Tryz.prog 32 5 = some (5, 3) := by kernel_rfl
@[simp] theorem tplace_32_5 : aplace Tryz.prog 32 5 = some (5, 1) := by kernel_rfl
@[simp] theorem tfield_32_6 : tfield Tryz.prog 32 6 = some (6, 3) := by kernel_rfl
@[simp] theorem tplace_32_6 : aplace Tryz.prog 32 6 = some (6, 1) := by kernel_rfl
@[simp] theorem tfield_32_7 : tfield Tryz.prog 32 7 = some (7, 2) := by kernel_rfl
@[simp] theorem tplace_32_7 : aplace Tryz.prog 32 7 = some (7, 1) := by kernel_rfl
@[simp] theorem tfield_32_8 : tfield Tryz.prog 32 8 = some (8, 31) := by kernel_rfl
@[simp] theorem tplace_32_8 : aplace Tryz.prog 32 8 = some (8, 1) := by kernel_rfl
@[simp] theorem tfield_32_9 : tfield Tryz.prog 32 9 = some (9, 4) := by kernel_rfl
@[simp] theorem tplace_32_9 : aplace Tryz.prog 32 9 = some (9, 1) := by kernel_rfl
@[simp] theorem tfield_32_10 : tfield Tryz.prog 32 10 = some (10, 28) := by kernel_rfl
@[simp] theorem tplace_32_10 : aplace Tryz.prog 32 10 = some (10, 1) := by kernel_rfl
@[simp] theorem tfield_32_11 : tfield Tryz.prog 32 11 = some (11, 2) := by kernel_rfl
@[simp] theorem tplace_32_11 : aplace Tryz.prog 32 11 = some (11, 1) := by kernel_rfl
@[simp] theorem tkd_33 : tkd Tryz.prog 33 = 9 := by kernel_rfl
@[simp] theorem tun_33 : (Tryz.prog.underlying 33).isSome = true := by kernel_rfl
@[simp] theorem tagg_33 : tagg Tryz.prog 33 = some true := by kernel_rfl
@[simp] theorem tsize_33 : tsize Tryz.prog 33 = some 12 := by kernel_rfl
@[simp] theorem tzero_33 : tzero Tryz.prog 33 = some (.agg #[.int .u64 0, .string ByteArray.empty, .string ByteArray.empty, .int .i64 0, .int .i64 0, .int .i64 0, .int .i64 0, .int .i64 0, .slice none 0 0, .bool false, .int .u64 0, .int .i64 0]) := by kernel_rfl
@[simp] theorem tsizes_33 : tsizes Tryz.prog 33 = true := by kernel_rfl
@[simp] theorem tfield_33_0 : tfield Tryz.prog 33 0 = some (0, 28) := by kernel_rfl
@[simp] theorem tplace_33_0 : aplace Tryz.prog 33 0 = some (0, 1) := by kernel_rfl
@[simp] theorem tfield_33_1 : tfield Tryz.prog 33 1 = some (1, 9) := by kernel_rfl
@[simp] theorem tplace_33_1 : aplace Tryz.prog 33 1 = some (1, 1) := by kernel_rfl
@[simp] theorem tfield_33_2 : tfield Tryz.prog 33 2 = some (2, 9) := by kernel_rfl
@[simp] theorem tplace_33_2 : aplace Tryz.prog 33 2 = some (2, 1) := by kernel_rfl
@[simp] theorem tfield_33_3 : tfield Tryz.prog 33 3 = some (3, 3) := by kernel_rfl
@[simp] theorem tplace_33_3 : aplace Tryz.prog 33 3 = some (3, 1) := by kernel_rfl
@[simp] theorem tfield_33_4 : tfield Tryz.prog 33 4 = some (4, 2) := by kernel_rfl
@[simp] theorem tplace_33_4 : aplace Tryz.prog 33 4 = some (4, 1) := by kernel_rfl
@[simp] theorem tfield_33_5 : tfield Tryz.prog 33 5 = some (5, 3) := by kernel_rfl
@[simp] theorem tplace_33_5 : aplace Tryz.prog 33 5 = some (5, 1) := by kernel_rfl
@[simp] theorem tfield_33_6 : tfield Tryz.prog 33 6 = some (6, 3) := by kernel_rfl
@[simp] theorem tplace_33_6 : aplace Tryz.prog 33 6 = some (6, 1) := by kernel_rfl
@[simp] theorem tfield_33_7 : tfield Tryz.prog 33 7 = some (7, 2) := by kernel_rfl
@[simp] theorem tplace_33_7 : aplace Tryz.prog 33 7 = some (7, 1) := by kernel_rfl
@[simp] theorem tfield_33_8 : tfield Tryz.prog 33 8 = some (8, 31) := by kernel_rfl
@[simp] theorem tplace_33_8 : aplace Tryz.prog 33 8 = some (8, 1) := by kernel_rfl
@[simp] theorem tfield_33_9 : tfield Tryz.prog 33 9 = some (9, 4) := by kernel_rfl
@[simp] theorem tplace_33_9 : aplace Tryz.prog 33 9 = some (9, 1) := by kernel_rfl
@[simp] theorem tfield_33_10 : tfield Tryz.prog 33 10 = some (10, 28) := by kernel_rfl
@[simp] theorem tplace_33_10 : aplace Tryz.prog 33 10 = some (10, 1) := by kernel_rfl
@[simp] theorem tfield_33_11 : tfield Tryz.prog 33 11 = some (11, 2) := by kernel_rfl
@[simp] theorem tplace_33_11 : aplace Tryz.prog 33 11 = some (11, 1) := by kernel_rfl
@[simp] theorem tkd_35 : tkd Tryz.prog 35 = 9 := by kernel_rfl
@[simp] theorem tun_35 : (Tryz.prog.underlying 35).isSome = true := by kernel_rfl
@[simp] theorem tagg_35 : tagg Tryz.prog 35 = some true := by kernel_rfl
@[simp] theorem tsize_35 : tsize Tryz.prog 35 = some 16 := by kernel_rfl
@[simp] theorem tzero_35 : tzero Tryz.prog 35 = some (.agg #[.int .i64 0, .int .u64 0, .int .u64 0, .string ByteArray.empty, .string ByteArray.empty, .int .i64 0, .int .i64 0, .int .i64 0, .int .i64 0, .int .i64 0, .slice none 0 0, .bool false, .int .u64 0, .int .i64 0, .bool false, .int .i64 0]) := by kernel_rfl
@[simp] theorem tsizes_35 : tsizes Tryz.prog 35 = true := by kernel_rfl
@[simp] theorem tfield_35_0 : tfield Tryz.prog 35 0 = some (0, 3) := by kernel_rfl
@[simp] theorem tplace_35_0 : aplace Tryz.prog 35 0 = some (0, 1) := by kernel_rfl
@[simp] theorem tfield_35_1 : tfield Tryz.prog 35 1 = some (1, 28) := by kernel_rfl
@[simp] theorem tplace_35_1 : aplace Tryz.prog 35 1 = some (1, 1) := by kernel_rfl
@[simp] theorem tfield_35_2 : tfield Tryz.prog 35 2 = some (2, 33) := by kernel_rfl
@[simp] theorem tplace_35_2 : aplace Tryz.prog 35 2 = some (2, 12) := by kernel_rfl
@[simp] theorem tfield_35_3 : tfield Tryz.prog 35 3 = some (14, 4) := by kernel_rfl
@[simp] theorem tplace_35_3 : aplace Tryz.prog 35 3 = some (14, 1) := by kernel_rfl
@[simp] theorem tfield_35_4 : tfield Tryz.prog 35 4 = some (15, 2) := by kernel_rfl
@[simp] theorem tplace_35_4 : aplace Tryz.prog 35 4 = some (15, 1) := by kernel_rfl
@[simp] theorem tkd_37 : tkd Tryz.prog 37 = 2 := by kernel_rfl
@[simp] theorem tun_37 : (Tryz.prog.underlying 37).isSome = true := by kernel_rfl
@[simp] theorem tagg_37 : tagg Tryz.prog 37 = some false := by kernel_rfl
@[simp] theorem tsize_37 : tsize Tryz.prog 37 = some 1 := by kernel_rfl
@[simp] theorem tzero_37 : tzero Tryz.prog 37 = some (.int .i64 0) := by kernel_rfl
@[simp] theorem tint_37 : tint Tryz.prog 37 = some .i64 := by kernel_rfl
@[simp] theorem tkd_52 : tkd Tryz.prog 52 = 5 := by kernel_rfl
@[simp] theorem tun_52 : (Tryz.prog.underlying 52).isSome = true := by kernel_rfl
@[simp] theorem tagg_52 : tagg Tryz.prog 52 = some false := by kernel_rfl
@[simp] theorem tsize_52 : tsize Tryz.prog 52 = some 1 := by kernel_rfl
@[simp] theorem tzero_52 : tzero Tryz.prog 52 = some (.slice none 0 0) := by kernel_rfl
@[simp] theorem telem_52 : telem Tryz.prog 52 = some 76 := by kernel_rfl
theorem el_52 : ElemOk Tryz.prog 52 76 2 32 := ⟨by kernel_rfl, by kernel_rfl, by kernel_rfl, ⟨.agg #[.int .u64 0, .slice none 0 0], by kernel_rfl, by kernel_rfl⟩, by decide⟩
@[simp] theorem tkd_58 : tkd Tryz.prog 58 = 6 := by kernel_rfl
@[simp] theorem tun_58 : (Tryz.prog.underlying 58).isSome = true := by kernel_rfl
@[simp] theorem tagg_58 : tagg Tryz.prog 58 = some false := by kernel_rfl
@[simp] theorem tsize_58 : tsize Tryz.prog 58 = some 1 := by kernel_rfl
@[simp] theorem tzero_58 : tzero Tryz.prog 58 = some (.map none) := by kernel_rfl
@[simp] theorem tkd_60 : tkd Tryz.prog 60 = 9 := by kernel_rfl
@[simp] theorem tun_60 : (Tryz.prog.underlying 60).isSome = true := by kernel_rfl
@[simp] theorem tagg_60 : tagg Tryz.prog 60 = some true := by kernel_rfl
@[simp] theorem tsize_60 : tsize Tryz.prog 60 = some 2 := by kernel_rfl
@[simp] theorem tzero_60 : tzero Tryz.prog 60 = some (.agg #[.map none, .int .u64 0]) := by kernel_rfl
@[simp] theorem tsizes_60 : tsizes Tryz.prog 60 = true := by kernel_rfl
@[simp] theorem tfield_60_0 : tfield Tryz.prog 60 0 = some (0, 58) := by kernel_rfl
@[simp] theorem tplace_60_0 : aplace Tryz.prog 60 0 = some (0, 1) := by kernel_rfl
@[simp] theorem tfield_60_1 : tfield Tryz.prog 60 1 = some (1, 28) := by kernel_rfl
@[simp] theorem tplace_60_1 : aplace Tryz.prog 60 1 = some (1, 1) := by kernel_rfl
@[simp] theorem tkd_72 : tkd Tryz.prog 72 = 7 := by kernel_rfl
@[simp] theorem tun_72 : (Tryz.prog.underlying 72).isSome = true := by kernel_rfl
@[simp] theorem tagg_72 : tagg Tryz.prog 72 = some false := by kernel_rfl
@[simp] theorem tsize_72 : tsize Tryz.prog 72 = some 1 := by kernel_rfl
@[simp] theorem tzero_72 : tzero Tryz.prog 72 = some (.nilFunc) := by kernel_rfl
@[simp] theorem tkd_76 : tkd Tryz.prog 76 = 9 := by kernel_rfl
@[simp] theorem tun_76 : (Tryz.prog.underlying 76).isSome = true := by kernel_rfl
@[simp] theorem tagg_76 : tagg Tryz.prog 76 = some true := by kernel_rfl
@[simp] theorem tsize_76 : tsize Tryz.prog 76 = some 2 := by kernel_rfl
@[simp] theorem tzero_76 : tzero Tryz.prog 76 = some (.agg #[.int .u64 0, .slice none 0 0]) := by kernel_rfl
@[simp] theorem tsizes_76 : tsizes Tryz.prog 76 = true := by kernel_rfl
@[simp] theorem tfield_76_0 : tfield Tryz.prog 76 0 = some (0, 28) := by kernel_rfl
@[simp] theorem tplace_76_0 : aplace Tryz.prog 76 0 = some (0, 1) := by kernel_rfl
@[simp] theorem tfield_76_1 : tfield Tryz.prog 76 1 = some (1, 31) := by kernel_rfl
@[simp] theorem tplace_76_1 : aplace Tryz.prog 76 1 = some (1, 1) := by kernel_rfl
@[simp] theorem tkd_81 : tkd Tryz.prog 81 = 9 := by kernel_rfl
@[simp] theorem tun_81 : (Tryz.prog.underlying 81).isSome = true := by kernel_rfl
@[simp] theorem tagg_81 : tagg Tryz.prog 81 = some true := by kernel_rfl
@[simp] theorem tsize_81 : tsize Tryz.prog 81 = some 2 := by kernel_rfl
@[simp] theorem tzero_81 : tzero Tryz.prog 81 = some (.agg #[.int .u64 0, .bool false]) := by kernel_rfl
@[simp] theorem tsizes_81 : tsizes Tryz.prog 81 = true := by kernel_rfl
@[simp] theorem tfield_81_0 : tfield Tryz.prog 81 0 = some (0, 28) := by kernel_rfl
@[simp] theorem tplace_81_0 : aplace Tryz.prog 81 0 = some (0, 1) := by kernel_rfl
@[simp] theorem tfield_81_1 : tfield Tryz.prog 81 1 = some (1, 4) := by kernel_rfl
@[simp] theorem tplace_81_1 : aplace Tryz.prog 81 1 = some (1, 1) := by kernel_rfl
@[simp] theorem tkd_83 : tkd Tryz.prog 83 = 10 := by kernel_rfl
@[simp] theorem tun_83 : (Tryz.prog.underlying 83).isSome = true := by kernel_rfl
@[simp] theorem tagg_83 : tagg Tryz.prog 83 = some true := by kernel_rfl
@[simp] theorem tsize_83 : tsize Tryz.prog 83 = some 10 := by kernel_rfl
@[simp] theorem tzero_83 : tzero Tryz.prog 83 = some (.agg #[.int .u64 0, .bool false, .int .u64 0, .bool false, .int .u64 0, .bool false, .int .u64 0, .bool false, .int .u64 0, .bool false]) := by kernel_rfl
@[simp] theorem tarr_83 : tarr Tryz.prog 83 = some (5, 81) := by kernel_rfl
@[simp] theorem tsizes_83 : tsizes Tryz.prog 83 = true := by kernel_rfl
@[simp] theorem tplace_83_0 : aplace Tryz.prog 83 0 = some (0, 2) := by kernel_rfl
@[simp] theorem tplace_83_1 : aplace Tryz.prog 83 1 = some (2, 2) := by kernel_rfl
@[simp] theorem tplace_83_2 : aplace Tryz.prog 83 2 = some (4, 2) := by kernel_rfl
@[simp] theorem tplace_83_3 : aplace Tryz.prog 83 3 = some (6, 2) := by kernel_rfl
@[simp] theorem tplace_83_4 : aplace Tryz.prog 83 4 = some (8, 2) := by kernel_rfl
@[simp] theorem tkd_94 : tkd Tryz.prog 94 = 6 := by kernel_rfl
@[simp] theorem tun_94 : (Tryz.prog.underlying 94).isSome = true := by kernel_rfl
@[simp] theorem tagg_94 : tagg Tryz.prog 94 = some false := by kernel_rfl
@[simp] theorem tsize_94 : tsize Tryz.prog 94 = some 1 := by kernel_rfl
@[simp] theorem tzero_94 : tzero Tryz.prog 94 = some (.map none) := by kernel_rfl
@[simp] theorem tkd_99 : tkd Tryz.prog 99 = 5 := by kernel_rfl
@[simp] theorem tun_99 : (Tryz.prog.underlying 99).isSome = true := by kernel_rfl
@[simp] theorem tagg_99 : tagg Tryz.prog 99 = some false := by kernel_rfl
@[simp] theorem tsize_99 : tsize Tryz.prog 99 = some 1 := by kernel_rfl
@[simp] theorem tzero_99 : tzero Tryz.prog 99 = some (.slice none 0 0) := by kernel_rfl
@[simp] theorem telem_99 : telem Tryz.prog 99 = some 9 := by kernel_rfl
theorem el_99 : ElemOk Tryz.prog 99 9 1 16 := ⟨by kernel_rfl, by kernel_rfl, by kernel_rfl, ⟨.string ByteArray.empty, by kernel_rfl, by kernel_rfl⟩, by decide⟩
@[simp] theorem tkd_106 : tkd Tryz.prog 106 = 2 := by kernel_rfl
@[simp] theorem tun_106 : (Tryz.prog.underlying 106).isSome = true := by kernel_rfl
@[simp] theorem tagg_106 : tagg Tryz.prog 106 = some false := by kernel_rfl
@[simp] theorem tsize_106 : tsize Tryz.prog 106 = some 1 := by kernel_rfl
@[simp] theorem tzero_106 : tzero Tryz.prog 106 = some (.int .u64 0) := by kernel_rfl
@[simp] theorem tint_106 : tint Tryz.prog 106 = some .u64 := by kernel_rfl
@[simp] theorem tkd_113 : tkd Tryz.prog 113 = 5 := by kernel_rfl
@[simp] theorem tun_113 : (Tryz.prog.underlying 113).isSome = true := by kernel_rfl
@[simp] theorem tagg_113 : tagg Tryz.prog 113 = some false := by kernel_rfl
@[simp] theorem tsize_113 : tsize Tryz.prog 113 = some 1 := by kernel_rfl
@[simp] theorem tzero_113 : tzero Tryz.prog 113 = some (.slice none 0 0) := by kernel_rfl
@[simp] theorem telem_113 : telem Tryz.prog 113 = some 3 := by kernel_rfl
theorem el_113 : ElemOk Tryz.prog 113 3 1 8 := ⟨by kernel_rfl, by kernel_rfl, by kernel_rfl, ⟨.int .i64 0, by kernel_rfl, by kernel_rfl⟩, by decide⟩
@[simp] theorem tkd_118 : tkd Tryz.prog 118 = 2 := by kernel_rfl
@[simp] theorem tun_118 : (Tryz.prog.underlying 118).isSome = true := by kernel_rfl
@[simp] theorem tagg_118 : tagg Tryz.prog 118 = some false := by kernel_rfl
@[simp] theorem tsize_118 : tsize Tryz.prog 118 = some 1 := by kernel_rfl
@[simp] theorem tzero_118 : tzero Tryz.prog 118 = some (.int .i64 0) := by kernel_rfl
@[simp] theorem tint_118 : tint Tryz.prog 118 = some .i64 := by kernel_rfl
@[simp] theorem tkd_127 : tkd Tryz.prog 127 = 2 := by kernel_rfl
@[simp] theorem tun_127 : (Tryz.prog.underlying 127).isSome = true := by kernel_rfl
@[simp] theorem tagg_127 : tagg Tryz.prog 127 = some false := by kernel_rfl
@[simp] theorem tsize_127 : tsize Tryz.prog 127 = some 1 := by kernel_rfl
@[simp] theorem tzero_127 : tzero Tryz.prog 127 = some (.int .u32 0) := by kernel_rfl
@[simp] theorem tint_127 : tint Tryz.prog 127 = some .u32 := by kernel_rfl
@[simp] theorem tkd_137 : tkd Tryz.prog 137 = 2 := by kernel_rfl
@[simp] theorem tun_137 : (Tryz.prog.underlying 137).isSome = true := by kernel_rfl
@[simp] theorem tagg_137 : tagg Tryz.prog 137 = some false := by kernel_rfl
@[simp] theorem tsize_137 : tsize Tryz.prog 137 = some 1 := by kernel_rfl
@[simp] theorem tzero_137 : tzero Tryz.prog 137 = some (.int .u64 0) := by kernel_rfl
@[simp] theorem tint_137 : tint Tryz.prog 137 = some .u64 := by kernel_rfl
@[simp] theorem tkd_140 : tkd Tryz.prog 140 = 4 := by kernel_rfl
@[simp] theorem tun_140 : (Tryz.prog.underlying 140).isSome = true := by kernel_rfl
@[simp] theorem tagg_140 : tagg Tryz.prog 140 = some false := by kernel_rfl
@[simp] theorem tsize_140 : tsize Tryz.prog 140 = some 1 := by kernel_rfl
@[simp] theorem tzero_140 : tzero Tryz.prog 140 = some (.pointer none) := by kernel_rfl
@[simp] theorem tkd_145 : tkd Tryz.prog 145 = 10 := by kernel_rfl
@[simp] theorem tun_145 : (Tryz.prog.underlying 145).isSome = true := by kernel_rfl
@[simp] theorem tagg_145 : tagg Tryz.prog 145 = some true := by kernel_rfl
@[simp] theorem tsize_145 : tsize Tryz.prog 145 = some 3 := by kernel_rfl
@[simp] theorem tzero_145 : tzero Tryz.prog 145 = some (.agg #[.int .i64 0, .int .i64 0, .int .i64 0]) := by kernel_rfl
@[simp] theorem tarr_145 : tarr Tryz.prog 145 = some (3, 3) := by kernel_rfl
@[simp] theorem tsizes_145 : tsizes Tryz.prog 145 = true := by kernel_rfl
@[simp] theorem tplace_145_0 : aplace Tryz.prog 145 0 = some (0, 1) := by kernel_rfl
@[simp] theorem tplace_145_1 : aplace Tryz.prog 145 1 = some (1, 1) := by kernel_rfl
@[simp] theorem tplace_145_2 : aplace Tryz.prog 145 2 = some (2, 1) := by kernel_rfl
@[simp] theorem tkd_146 : tkd Tryz.prog 146 = 10 := by kernel_rfl
@[simp] theorem tun_146 : (Tryz.prog.underlying 146).isSome = true := by kernel_rfl
@[simp] theorem tagg_146 : tagg Tryz.prog 146 = some true := by kernel_rfl
@[simp] theorem tsize_146 : tsize Tryz.prog 146 = some 15 := by kernel_rfl
@[simp] theorem tzero_146 : tzero Tryz.prog 146 = some (.agg #[.int .i64 0, .int .i64 0, .int .i64 0, .int .i64 0, .int .i64 0, .int .i64 0, .int .i64 0, .int .i64 0, .int .i64 0, .int .i64 0, .int .i64 0, .int .i64 0, .int .i64 0, .int .i64 0, .int .i64 0]) := by kernel_rfl
@[simp] theorem tarr_146 : tarr Tryz.prog 146 = some (5, 145) := by kernel_rfl
@[simp] theorem tsizes_146 : tsizes Tryz.prog 146 = true := by kernel_rfl
@[simp] theorem tplace_146_0 : aplace Tryz.prog 146 0 = some (0, 3) := by kernel_rfl
@[simp] theorem tplace_146_1 : aplace Tryz.prog 146 1 = some (3, 3) := by kernel_rfl
@[simp] theorem tplace_146_2 : aplace Tryz.prog 146 2 = some (6, 3) := by kernel_rfl
@[simp] theorem tplace_146_3 : aplace Tryz.prog 146 3 = some (9, 3) := by kernel_rfl
@[simp] theorem tplace_146_4 : aplace Tryz.prog 146 4 = some (12, 3) := by kernel_rfl
@[simp] theorem tkd_149 : tkd Tryz.prog 149 = 8 := by kernel_rfl
@[simp] theorem tun_149 : (Tryz.prog.underlying 149).isSome = true := by kernel_rfl
@[simp] theorem tagg_149 : tagg Tryz.prog 149 = some false := by kernel_rfl
@[simp] theorem tsize_149 : tsize Tryz.prog 149 = some 1 := by kernel_rfl
@[simp] theorem tzero_149 : tzero Tryz.prog 149 = some (.nilIface) := by kernel_rfl
@[simp] theorem tkd_152 : tkd Tryz.prog 152 = 10 := by kernel_rfl
@[simp] theorem tun_152 : (Tryz.prog.underlying 152).isSome = true := by kernel_rfl
@[simp] theorem tagg_152 : tagg Tryz.prog 152 = some true := by kernel_rfl
@[simp] theorem tsize_152 : tsize Tryz.prog 152 = some 13 := by kernel_rfl
@[simp] theorem tzero_152 : tzero Tryz.prog 152 = some (.agg #[.string ByteArray.empty, .string ByteArray.empty, .string ByteArray.empty, .string ByteArray.empty, .string ByteArray.empty, .string ByteArray.empty, .string ByteArray.empty, .string ByteArray.empty, .string ByteArray.empty, .string ByteArray.empty, .string ByteArray.empty, .string ByteArray.empty, .string ByteArray.empty]) := by kernel_rfl
@[simp] theorem tarr_152 : tarr Tryz.prog 152 = some (13, 9) := by kernel_rfl
@[simp] theorem tsizes_152 : tsizes Tryz.prog 152 = true := by kernel_rfl
@[simp] theorem tplace_152_0 : aplace Tryz.prog 152 0 = some (0, 1) := by kernel_rfl
@[simp] theorem tplace_152_1 : aplace Tryz.prog 152 1 = some (1, 1) := by kernel_rfl
@[simp] theorem tplace_152_2 : aplace Tryz.prog 152 2 = some (2, 1) := by kernel_rfl
@[simp] theorem tplace_152_3 : aplace Tryz.prog 152 3 = some (3, 1) := by kernel_rfl
@[simp] theorem tplace_152_4 : aplace Tryz.prog 152 4 = some (4, 1) := by kernel_rfl
@[simp] theorem tplace_152_5 : aplace Tryz.prog 152 5 = some (5, 1) := by kernel_rfl
@[simp] theorem tplace_152_6 : aplace Tryz.prog 152 6 = some (6, 1) := by kernel_rfl
@[simp] theorem tplace_152_7 : aplace Tryz.prog 152 7 = some (7, 1) := by kernel_rfl
@[simp] theorem tplace_152_8 : aplace Tryz.prog 152 8 = some (8, 1) := by kernel_rfl
@[simp] theorem tplace_152_9 : aplace Tryz.prog 152 9 = some (9, 1) := by kernel_rfl
@[simp] theorem tplace_152_10 : aplace Tryz.prog 152 10 = some (10, 1) := by kernel_rfl
@[simp] theorem tplace_152_11 : aplace Tryz.prog 152 11 = some (11, 1) := by kernel_rfl
@[simp] theorem tplace_152_12 : aplace Tryz.prog 152 12 = some (12, 1) := by kernel_rfl
@[simp] theorem tkd_153 : tkd Tryz.prog 153 = 10 := by kernel_rfl
@[simp] theorem tun_153 : (Tryz.prog.underlying 153).isSome = true := by kernel_rfl
@[simp] theorem tagg_153 : tagg Tryz.prog 153 = some true := by kernel_rfl
@[simp] theorem tsize_153 : tsize Tryz.prog 153 = some 7 := by kernel_rfl
@[simp] theorem tzero_153 : tzero Tryz.prog 153 = some (.agg #[.string ByteArray.empty, .string ByteArray.empty, .string ByteArray.empty, .string ByteArray.empty, .string ByteArray.empty, .string ByteArray.empty, .string ByteArray.empty]) := by kernel_rfl
@[simp] theorem tarr_153 : tarr Tryz.prog 153 = some (7, 9) := by kernel_rfl
@[simp] theorem tsizes_153 : tsizes Tryz.prog 153 = true := by kernel_rfl
@[simp] theorem tplace_153_0 : aplace Tryz.prog 153 0 = some (0, 1) := by kernel_rfl
@[simp] theorem tplace_153_1 : aplace Tryz.prog 153 1 = some (1, 1) := by kernel_rfl
@[simp] theorem tplace_153_2 : aplace Tryz.prog 153 2 = some (2, 1) := by kernel_rfl
@[simp] theorem tplace_153_3 : aplace Tryz.prog 153 3 = some (3, 1) := by kernel_rfl
@[simp] theorem tplace_153_4 : aplace Tryz.prog 153 4 = some (4, 1) := by kernel_rfl
@[simp] theorem tplace_153_5 : aplace Tryz.prog 153 5 = some (5, 1) := by kernel_rfl
@[simp] theorem tplace_153_6 : aplace Tryz.prog 153 6 = some (6, 1) := by kernel_rfl
@[simp] theorem tkd_157 : tkd Tryz.prog 157 = 5 := by kernel_rfl
@[simp] theorem tun_157 : (Tryz.prog.underlying 157).isSome = true := by kernel_rfl
@[simp] theorem tagg_157 : tagg Tryz.prog 157 = some false := by kernel_rfl
@[simp] theorem tsize_157 : tsize Tryz.prog 157 = some 1 := by kernel_rfl
@[simp] theorem tzero_157 : tzero Tryz.prog 157 = some (.slice none 0 0) := by kernel_rfl
@[simp] theorem telem_157 : telem Tryz.prog 157 = some 5 := by kernel_rfl
@[simp] theorem tkd_158 : tkd Tryz.prog 158 = 10 := by kernel_rfl
@[simp] theorem tun_158 : (Tryz.prog.underlying 158).isSome = true := by kernel_rfl
@[simp] theorem tagg_158 : tagg Tryz.prog 158 = some true := by kernel_rfl
@[simp] theorem tsize_158 : tsize Tryz.prog 158 = some 5 := by kernel_rfl
@[simp] theorem tzero_158 : tzero Tryz.prog 158 = some (.agg #[.int .i64 0, .int .i64 0, .int .i64 0, .int .i64 0, .int .i64 0]) := by kernel_rfl
@[simp] theorem tarr_158 : tarr Tryz.prog 158 = some (5, 3) := by kernel_rfl
@[simp] theorem tsizes_158 : tsizes Tryz.prog 158 = true := by kernel_rfl
@[simp] theorem tplace_158_0 : aplace Tryz.prog 158 0 = some (0, 1) := by kernel_rfl
@[simp] theorem tplace_158_1 : aplace Tryz.prog 158 1 = some (1, 1) := by kernel_rfl
@[simp] theorem tplace_158_2 : aplace Tryz.prog 158 2 = some (2, 1) := by kernel_rfl
@[simp] theorem tplace_158_3 : aplace Tryz.prog 158 3 = some (3, 1) := by kernel_rfl
@[simp] theorem tplace_158_4 : aplace Tryz.prog 158 4 = some (4, 1) := by kernel_rfl
@[simp] theorem tkd_159 : tkd Tryz.prog 159 = 4 := by kernel_rfl
@[simp] theorem tun_159 : (Tryz.prog.underlying 159).isSome = true := by kernel_rfl
@[simp] theorem tagg_159 : tagg Tryz.prog 159 = some false := by kernel_rfl
@[simp] theorem tsize_159 : tsize Tryz.prog 159 = some 1 := by kernel_rfl
@[simp] theorem tzero_159 : tzero Tryz.prog 159 = some (.pointer none) := by kernel_rfl
@[simp] theorem tkd_164 : tkd Tryz.prog 164 = 10 := by kernel_rfl
@[simp] theorem tun_164 : (Tryz.prog.underlying 164).isSome = true := by kernel_rfl
@[simp] theorem tagg_164 : tagg Tryz.prog 164 = some true := by kernel_rfl
@[simp] theorem tsize_164 : tsize Tryz.prog 164 = some 256 := by kernel_rfl
@[simp] theorem tzero_164 : tzero Tryz.prog 164 = some (.agg #[.bool false, .bool false, .bool false, .bool false, .bool false, .bool false, .bool false, .bool false, .bool false, .bool false, .bool false, .bool false, .bool false, .bool false, .bool false, .bool false, .bool false, .bool false, .bool false, .bool false, .bool false, .bool false, .bool false, .bool false, .bool false, .bool false, .bool false, .bool false, .bool false, .bool false, .bool false, .bool false, .bool false, .bool false, .bool false, .bool false, .bool false, .bool false, .bool false, .bool false, .bool false, .bool false, .bool false, .bool false, .bool false, .bool false, .bool false, .bool false, .bool false, .bool false, .bool false, .bool false, .bool false, .bool false, .bool false, .bool false, .bool false, .bool false, .bool false, .bool false, .bool false, .bool false, .bool false, .bool false, .bool false, .bool false, .bool false, .bool false, .bool false, .bool false, .bool false, .bool false, .bool false, .bool false, .bool false, .bool false, .bool false, .bool false, .bool false, .bool false, .bool false, .bool false, .bool false, .bool false, .bool false, .bool false, .bool false, .bool false, .bool false, .bool false, .bool false, .bool false, .bool false, .bool false, .bool false, .bool false, .bool false, .bool false, .bool false, .bool false, .bool false, .bool false, .bool false, .bool false, .bool false, .bool false, .bool false, .bool false, .bool false, .bool false, .bool false, .bool false, .bool false, .bool false, .bool false, .bool false, .bool false, .bool false, .bool false, .bool false, .bool false, .bool false, .bool false, .bool false, .bool false, .bool false, .bool false, .bool false, .bool false, .bool false, .bool false, .bool false, .bool false, .bool false, .bool false, .bool false, .bool false, .bool false, .bool false, .bool false, .bool false, .bool false, .bool false, .bool false, .bool false, .bool false, .bool false, .bool false, .bool false, .bool false, .bool false, .bool false, .bool false, .bool false, .bool false, .bool false, .bool false, .bool false, .bool false, .bool false, .bool false, .bool false, .bool false, .bool false, .bool false, .bool false, .bool false, .bool false, .bool false, .bool false, .bool false, .bool false, .bool false, .bool false, .bool false, .bool false, .bool false, .bool false, .bool false, .bool false, .bool false, .bool false, .bool false, .bool false, .bool false, .bool false, .bool false, .bool false, .bool false, .bool false, .bool false, .bool false, .bool false, .bool false, .bool false, .bool false, .bool false, .bool false, .bool false, .bool false, .bool false, .bool false, .bool false, .bool false, .bool false, .bool false, .bool false, .bool false, .bool false, .bool false, .bool false, .bool false, .bool false, .bool false, .bool false, .bool false, .bool false, .bool false, .bool false, .bool false, .bool false, .bool false, .bool false, .bool false, .bool false, .bool false, .bool false, .bool false, .bool false, .bool false, .bool false, .bool false, .bool false, .bool false, .bool false, .bool false, .bool false, .bool false, .bool false, .bool false, .bool false, .bool false, .bool false, .bool false, .bool false, .bool false, .bool false, .bool false, .bool false, .bool false, .bool false, .bool false, .bool false, .bool false, .bool false, .bool false]) := by kernel_rfl
@[simp] theorem tarr_164 : tarr Tryz.prog 164 = some (256, 4) := by kernel_rfl
@[simp] theorem tsizes_164 : tsizes Tryz.prog 164 = true := by kernel_rfl
@[simp] theorem tplace_164_0 : aplace Tryz.prog 164 0 = some (0, 1) := by kernel_rfl
@[simp] theorem tplace_164_1 : aplace Tryz.prog 164 1 = some (1, 1) := by kernel_rfl
@[simp] theorem tplace_164_2 : aplace Tryz.prog 164 2 = some (2, 1) := by kernel_rfl
@[simp] theorem tplace_164_3 : aplace Tryz.prog 164 3 = some (3, 1) := by kernel_rfl
@[simp] theorem tplace_164_4 : aplace Tryz.prog 164 4 = some (4, 1) := by kernel_rfl
@[simp] theorem tplace_164_5 : aplace Tryz.prog 164 5 = some (5, 1) := by kernel_rfl
@[simp] theorem tplace_164_6 : aplace Tryz.prog 164 6 = some (6, 1) := by kernel_rfl
@[simp] theorem tplace_164_7 : aplace Tryz.prog 164 7 = some (7, 1) := by kernel_rfl
@[simp] theorem tplace_164_8 : aplace Tryz.prog 164 8 = some (8, 1) := by kernel_rfl
@[simp] theorem tplace_164_9 : aplace Tryz.prog 164 9 = some (9, 1) := by kernel_rfl
@[simp] theorem tplace_164_10 : aplace Tryz.prog 164 10 = some (10, 1) := by kernel_rfl
@[simp] theorem tplace_164_11 : aplace Tryz.prog 164 11 = some (11, 1) := by kernel_rfl
@[simp] theorem tplace_164_12 : aplace Tryz.prog 164 12 = some (12, 1) := by kernel_rfl
@[simp] theorem tplace_164_13 : aplace Tryz.prog 164 13 = some (13, 1) := by kernel_rfl
@[simp] theorem tplace_164_14 : aplace Tryz.prog 164 14 = some (14, 1) := by kernel_rfl
@[simp] theorem tplace_164_15 : aplace Tryz.prog 164 15 = some (15, 1) := by kernel_rfl
@[simp] theorem tkd_168 : tkd Tryz.prog 168 = 4 := by kernel_rfl
@[simp] theorem tun_168 : (Tryz.prog.underlying 168).isSome = true := by kernel_rfl
@[simp] theorem tagg_168 : tagg Tryz.prog 168 = some false := by kernel_rfl
@[simp] theorem tsize_168 : tsize Tryz.prog 168 = some 1 := by kernel_rfl
@[simp] theorem tzero_168 : tzero Tryz.prog 168 = some (.pointer none) := by kernel_rfl
@[simp] theorem tkd_170 : tkd Tryz.prog 170 = 4 := by kernel_rfl
@[simp] theorem tun_170 : (Tryz.prog.underlying 170).isSome = true := by kernel_rfl
@[simp] theorem tagg_170 : tagg Tryz.prog 170 = some false := by kernel_rfl
@[simp] theorem tsize_170 : tsize Tryz.prog 170 = some 1 := by kernel_rfl
@[simp] theorem tzero_170 : tzero Tryz.prog 170 = some (.pointer none) := by kernel_rfl
@[simp] theorem tkd_172 : tkd Tryz.prog 172 = 9 := by kernel_rfl
@[simp] theorem tun_172 : (Tryz.prog.underlying 172).isSome = true := by kernel_rfl
@[simp] theorem tagg_172 : tagg Tryz.prog 172 = some true := by kernel_rfl
@[simp] theorem tsize_172 : tsize Tryz.prog 172 = some 2 := by kernel_rfl
@[simp] theorem tzero_172 : tzero Tryz.prog 172 = some (.agg #[.pointer none, .slice none 0 0]) := by kernel_rfl
@[simp] theorem tsizes_172 : tsizes Tryz.prog 172 = true := by kernel_rfl
@[simp] theorem tfield_172_0 : tfield Tryz.prog 172 0 = some (0, 170) := by kernel_rfl
@[simp] theorem tplace_172_0 : aplace Tryz.prog 172 0 = some (0, 1) := by kernel_rfl
@[simp] theorem tfield_172_1 : tfield Tryz.prog 172 1 = some (1, 157) := by kernel_rfl
@[simp] theorem tplace_172_1 : aplace Tryz.prog 172 1 = some (1, 1) := by kernel_rfl
@[simp] theorem tkd_179 : tkd Tryz.prog 179 = 10 := by kernel_rfl
@[simp] theorem tun_179 : (Tryz.prog.underlying 179).isSome = true := by kernel_rfl
@[simp] theorem tagg_179 : tagg Tryz.prog 179 = some true := by kernel_rfl
@[simp] theorem tsize_179 : tsize Tryz.prog 179 = some 256 := by kernel_rfl
@[simp] theorem tzero_179 : tzero Tryz.prog 179 = some (.agg #[.int .u8 0, .int .u8 0, .int .u8 0, .int .u8 0, .int .u8 0, .int .u8 0, .int .u8 0, .int .u8 0, .int .u8 0, .int .u8 0, .int .u8 0, .int .u8 0, .int .u8 0, .int .u8 0, .int .u8 0, .int .u8 0, .int .u8 0, .int .u8 0, .int .u8 0, .int .u8 0, .int .u8 0, .int .u8 0, .int .u8 0, .int .u8 0, .int .u8 0, .int .u8 0, .int .u8 0, .int .u8 0, .int .u8 0, .int .u8 0, .int .u8 0, .int .u8 0, .int .u8 0, .int .u8 0, .int .u8 0, .int .u8 0, .int .u8 0, .int .u8 0, .int .u8 0, .int .u8 0, .int .u8 0, .int .u8 0, .int .u8 0, .int .u8 0, .int .u8 0, .int .u8 0, .int .u8 0, .int .u8 0, .int .u8 0, .int .u8 0, .int .u8 0, .int .u8 0, .int .u8 0, .int .u8 0, .int .u8 0, .int .u8 0, .int .u8 0, .int .u8 0, .int .u8 0, .int .u8 0, .int .u8 0, .int .u8 0, .int .u8 0, .int .u8 0, .int .u8 0, .int .u8 0, .int .u8 0, .int .u8 0, .int .u8 0, .int .u8 0, .int .u8 0, .int .u8 0, .int .u8 0, .int .u8 0, .int .u8 0, .int .u8 0, .int .u8 0, .int .u8 0, .int .u8 0, .int .u8 0, .int .u8 0, .int .u8 0, .int .u8 0, .int .u8 0, .int .u8 0, .int .u8 0, .int .u8 0, .int .u8 0, .int .u8 0, .int .u8 0, .int .u8 0, .int .u8 0, .int .u8 0, .int .u8 0, .int .u8 0, .int .u8 0, .int .u8 0, .int .u8 0, .int .u8 0, .int .u8 0, .int .u8 0, .int .u8 0, .int .u8 0, .int .u8 0, .int .u8 0, .int .u8 0, .int .u8 0, .int .u8 0, .int .u8 0, .int .u8 0, .int .u8 0, .int .u8 0, .int .u8 0, .int .u8 0, .int .u8 0, .int .u8 0, .int .u8 0, .int .u8 0, .int .u8 0, .int .u8 0, .int .u8 0, .int .u8 0, .int .u8 0, .int .u8 0, .int .u8 0, .int .u8 0, .int .u8 0, .int .u8 0, .int .u8 0, .int .u8 0, .int .u8 0, .int .u8 0, .int .u8 0, .int .u8 0, .int .u8 0, .int .u8 0, .int .u8 0, .int .u8 0, .int .u8 0, .int .u8 0, .int .u8 0, .int .u8 0, .int .u8 0, .int .u8 0, .int .u8 0, .int .u8 0, .int .u8 0, .int .u8 0, .int .u8 0, .int .u8 0, .int .u8 0, .int .u8 0, .int .u8 0, .int .u8 0, .int .u8 0, .int .u8 0, .int .u8 0, .int .u8 0, .int .u8 0, .int .u8 0, .int .u8 0, .int .u8 0, .int .u8 0, .int .u8 0, .int .u8 0, .int .u8 0, .int .u8 0, .int .u8 0, .int .u8 0, .int .u8 0, .int .u8 0, .int .u8 0, .int .u8 0, .int .u8 0, .int .u8 0, .int .u8 0, .int .u8 0, .int .u8 0, .int .u8 0, .int .u8 0, .int .u8 0, .int .u8 0, .int .u8 0, .int .u8 0, .int .u8 0, .int .u8 0, .int .u8 0, .int .u8 0, .int .u8 0, .int .u8 0, .int .u8 0, .int .u8 0, .int .u8 0, .int .u8 0, .int .u8 0, .int .u8 0, .int .u8 0, .int .u8 0, .int .u8 0, .int .u8 0, .int .u8 0, .int .u8 0, .int .u8 0, .int .u8 0, .int .u8 0, .int .u8 0, .int .u8 0, .int .u8 0, .int .u8 0, .int .u8 0, .int .u8 0, .int .u8 0, .int .u8 0, .int .u8 0, .int .u8 0, .int .u8 0, .int .u8 0, .int .u8 0, .int .u8 0, .int .u8 0, .int .u8 0, .int .u8 0, .int .u8 0, .int .u8 0, .int .u8 0, .int .u8 0, .int .u8 0, .int .u8 0, .int .u8 0, .int .u8 0, .int .u8 0, .int .u8 0, .int .u8 0, .int .u8 0, .int .u8 0, .int .u8 0, .int .u8 0, .int .u8 0, .int .u8 0, .int .u8 0, .int .u8 0, .int .u8 0, .int .u8 0, .int .u8 0, .int .u8 0, .int .u8 0, .int .u8 0, .int .u8 0, .int .u8 0, .int .u8 0, .int .u8 0, .int .u8 0, .int .u8 0, .int .u8 0, .int .u8 0, .int .u8 0]) := by kernel_rfl
@[simp] theorem tarr_179 : tarr Tryz.prog 179 = some (256, 5) := by kernel_rfl
@[simp] theorem tsizes_179 : tsizes Tryz.prog 179 = true := by kernel_rfl
@[simp] theorem tplace_179_0 : aplace Tryz.prog 179 0 = some (0, 1) := by kernel_rfl
@[simp] theorem tplace_179_1 : aplace Tryz.prog 179 1 = some (1, 1) := by kernel_rfl
@[simp] theorem tplace_179_2 : aplace Tryz.prog 179 2 = some (2, 1) := by kernel_rfl
@[simp] theorem tplace_179_3 : aplace Tryz.prog 179 3 = some (3, 1) := by kernel_rfl
@[simp] theorem tplace_179_4 : aplace Tryz.prog 179 4 = some (4, 1) := by kernel_rfl
@[simp] theorem tplace_179_5 : aplace Tryz.prog 179 5 = some (5, 1) := by kernel_rfl
@[simp] theorem tplace_179_6 : aplace Tryz.prog 179 6 = some (6, 1) := by kernel_rfl
@[simp] theorem tplace_179_7 : aplace Tryz.prog 179 7 = some (7, 1) := by kernel_rfl
@[simp] theorem tplace_179_8 : aplace Tryz.prog 179 8 = some (8, 1) := by kernel_rfl
@[simp] theorem tplace_179_9 : aplace Tryz.prog 179 9 = some (9, 1) := by kernel_rfl
@[simp] theorem tplace_179_10 : aplace Tryz.prog 179 10 = some (10, 1) := by kernel_rfl
@[simp] theorem tplace_179_11 : aplace Tryz.prog 179 11 = some (11, 1) := by kernel_rfl
@[simp] theorem tplace_179_12 : aplace Tryz.prog 179 12 = some (12, 1) := by kernel_rfl
@[simp] theorem tplace_179_13 : aplace Tryz.prog 179 13 = some (13, 1) := by kernel_rfl
@[simp] theorem tplace_179_14 : aplace Tryz.prog 179 14 = some (14, 1) := by kernel_rfl
@[simp] theorem tplace_179_15 : aplace Tryz.prog 179 15 = some (15, 1) := by kernel_rfl
@[simp] theorem tkd_181 : tkd Tryz.prog 181 = 9 := by kernel_rfl
@[simp] theorem tun_181 : (Tryz.prog.underlying 181).isSome = true := by kernel_rfl
@[simp] theorem tagg_181 : tagg Tryz.prog 181 = some true := by kernel_rfl
@[simp] theorem tsize_181 : tsize Tryz.prog 181 = some 2 := by kernel_rfl
@[simp] theorem tzero_181 : tzero Tryz.prog 181 = some (.agg #[.int .u8 0, .int .u8 0]) := by kernel_rfl
@[simp] theorem tsizes_181 : tsizes Tryz.prog 181 = true := by kernel_rfl
@[simp] theorem tfield_181_0 : tfield Tryz.prog 181 0 = some (0, 5) := by kernel_rfl
@[simp] theorem tplace_181_0 : aplace Tryz.prog 181 0 = some (0, 1) := by kernel_rfl
@[simp] theorem tfield_181_1 : tfield Tryz.prog 181 1 = some (1, 5) := by kernel_rfl
@[simp] theorem tplace_181_1 : aplace Tryz.prog 181 1 = some (1, 1) := by kernel_rfl
@[simp] theorem tkd_182 : tkd Tryz.prog 182 = 10 := by kernel_rfl
@[simp] theorem tun_182 : (Tryz.prog.underlying 182).isSome = true := by kernel_rfl
@[simp] theorem tagg_182 : tagg Tryz.prog 182 = some true := by kernel_rfl
@[simp] theorem tsize_182 : tsize Tryz.prog 182 = some 32 := by kernel_rfl
@[simp] theorem tzero_182 : tzero Tryz.prog 182 = some (.agg #[.int .u8 0, .int .u8 0, .int .u8 0, .int .u8 0, .int .u8 0, .int .u8 0, .int .u8 0, .int .u8 0, .int .u8 0, .int .u8 0, .int .u8 0, .int .u8 0, .int .u8 0, .int .u8 0, .int .u8 0, .int .u8 0, .int .u8 0, .int .u8 0, .int .u8 0, .int .u8 0, .int .u8 0, .int .u8 0, .int .u8 0, .int .u8 0, .int .u8 0, .int .u8 0, .int .u8 0, .int .u8 0, .int .u8 0, .int .u8 0, .int .u8 0, .int .u8 0]) := by kernel_rfl
@[simp] theorem tarr_182 : tarr Tryz.prog 182 = some (16, 181) := by kernel_rfl
@[simp] theorem tsizes_182 : tsizes Tryz.prog 182 = true := by kernel_rfl
@[simp] theorem tplace_182_0 : aplace Tryz.prog 182 0 = some (0, 2) := by kernel_rfl
@[simp] theorem tplace_182_1 : aplace Tryz.prog 182 1 = some (2, 2) := by kernel_rfl
@[simp] theorem tplace_182_2 : aplace Tryz.prog 182 2 = some (4, 2) := by kernel_rfl
@[simp] theorem tplace_182_3 : aplace Tryz.prog 182 3 = some (6, 2) := by kernel_rfl
@[simp] theorem tplace_182_4 : aplace Tryz.prog 182 4 = some (8, 2) := by kernel_rfl
@[simp] theorem tplace_182_5 : aplace Tryz.prog 182 5 = some (10, 2) := by kernel_rfl
@[simp] theorem tplace_182_6 : aplace Tryz.prog 182 6 = some (12, 2) := by kernel_rfl
@[simp] theorem tplace_182_7 : aplace Tryz.prog 182 7 = some (14, 2) := by kernel_rfl
@[simp] theorem tplace_182_8 : aplace Tryz.prog 182 8 = some (16, 2) := by kernel_rfl
@[simp] theorem tplace_182_9 : aplace Tryz.prog 182 9 = some (18, 2) := by kernel_rfl
@[simp] theorem tplace_182_10 : aplace Tryz.prog 182 10 = some (20, 2) := by kernel_rfl
@[simp] theorem tplace_182_11 : aplace Tryz.prog 182 11 = some (22, 2) := by kernel_rfl
@[simp] theorem tplace_182_12 : aplace Tryz.prog 182 12 = some (24, 2) := by kernel_rfl
@[simp] theorem tplace_182_13 : aplace Tryz.prog 182 13 = some (26, 2) := by kernel_rfl
@[simp] theorem tplace_182_14 : aplace Tryz.prog 182 14 = some (28, 2) := by kernel_rfl
@[simp] theorem tplace_182_15 : aplace Tryz.prog 182 15 = some (30, 2) := by kernel_rfl
@[simp] theorem tkd_187 : tkd Tryz.prog 187 = 2 := by kernel_rfl
@[simp] theorem tun_187 : (Tryz.prog.underlying 187).isSome = true := by kernel_rfl
@[simp] theorem tagg_187 : tagg Tryz.prog 187 = some false := by kernel_rfl
@[simp] theorem tsize_187 : tsize Tryz.prog 187 = some 1 := by kernel_rfl
@[simp] theorem tzero_187 : tzero Tryz.prog 187 = some (.int .i64 0) := by kernel_rfl
@[simp] theorem tint_187 : tint Tryz.prog 187 = some .i64 := by kernel_rfl
@[simp] theorem tkd_190 : tkd Tryz.prog 190 = 4 := by kernel_rfl
@[simp] theorem tun_190 : (Tryz.prog.underlying 190).isSome = true := by kernel_rfl
@[simp] theorem tagg_190 : tagg Tryz.prog 190 = some false := by kernel_rfl
@[simp] theorem tsize_190 : tsize Tryz.prog 190 = some 1 := by kernel_rfl
@[simp] theorem tzero_190 : tzero Tryz.prog 190 = some (.pointer none) := by kernel_rfl
@[simp] theorem tkd_194 : tkd Tryz.prog 194 = 4 := by kernel_rfl
@[simp] theorem tun_194 : (Tryz.prog.underlying 194).isSome = true := by kernel_rfl
@[simp] theorem tagg_194 : tagg Tryz.prog 194 = some false := by kernel_rfl
@[simp] theorem tsize_194 : tsize Tryz.prog 194 = some 1 := by kernel_rfl
@[simp] theorem tzero_194 : tzero Tryz.prog 194 = some (.pointer none) := by kernel_rfl
@[simp] theorem tkd_199 : tkd Tryz.prog 199 = 9 := by kernel_rfl
@[simp] theorem tun_199 : (Tryz.prog.underlying 199).isSome = true := by kernel_rfl
@[simp] theorem tagg_199 : tagg Tryz.prog 199 = some true := by kernel_rfl
@[simp] theorem tsize_199 : tsize Tryz.prog 199 = some 3 := by kernel_rfl
@[simp] theorem tzero_199 : tzero Tryz.prog 199 = some (.agg #[.string ByteArray.empty, .string ByteArray.empty, .nilIface]) := by kernel_rfl
@[simp] theorem tsizes_199 : tsizes Tryz.prog 199 = true := by kernel_rfl
@[simp] theorem tfield_199_0 : tfield Tryz.prog 199 0 = some (0, 9) := by kernel_rfl
@[simp] theorem tplace_199_0 : aplace Tryz.prog 199 0 = some (0, 1) := by kernel_rfl
@[simp] theorem tfield_199_1 : tfield Tryz.prog 199 1 = some (1, 9) := by kernel_rfl
@[simp] theorem tplace_199_1 : aplace Tryz.prog 199 1 = some (1, 1) := by kernel_rfl
@[simp] theorem tfield_199_2 : tfield Tryz.prog 199 2 = some (2, 149) := by kernel_rfl
@[simp] theorem tplace_199_2 : aplace Tryz.prog 199 2 = some (2, 1) := by kernel_rfl
@[simp] theorem tun_202 : (Tryz.prog.underlying 202).isSome = true := by kernel_rfl
@[simp] theorem tagg_202 : tagg Tryz.prog 202 = some false := by kernel_rfl
@[simp] theorem tsize_202 : tsize Tryz.prog 202 = some 1 := by kernel_rfl
@[simp] theorem tzero_202 : tzero Tryz.prog 202 = some (.pointer none) := by kernel_rfl
@[simp] theorem tkd_208 : tkd Tryz.prog 208 = 4 := by kernel_rfl
@[simp] theorem tun_208 : (Tryz.prog.underlying 208).isSome = true := by kernel_rfl
@[simp] theorem tagg_208 : tagg Tryz.prog 208 = some false := by kernel_rfl
@[simp] theorem tsize_208 : tsize Tryz.prog 208 = some 1 := by kernel_rfl
@[simp] theorem tzero_208 : tzero Tryz.prog 208 = some (.pointer none) := by kernel_rfl
@[simp] theorem tkd_210 : tkd Tryz.prog 210 = 9 := by kernel_rfl
@[simp] theorem tun_210 : (Tryz.prog.underlying 210).isSome = true := by kernel_rfl
@[simp] theorem tagg_210 : tagg Tryz.prog 210 = some true := by kernel_rfl
@[simp] theorem tsize_210 : tsize Tryz.prog 210 = some 1 := by kernel_rfl
@[simp] theorem tzero_210 : tzero Tryz.prog 210 = some (.agg #[.string ByteArray.empty]) := by kernel_rfl
@[simp] theorem tsizes_210 : tsizes Tryz.prog 210 = true := by kernel_rfl
@[simp] theorem tfield_210_0 : tfield Tryz.prog 210 0 = some (0, 9) := by kernel_rfl
@[simp] theorem tplace_210_0 : aplace Tryz.prog 210 0 = some (0, 1) := by kernel_rfl
@[simp] theorem tkd_212 : tkd Tryz.prog 212 = 10 := by kernel_rfl
@[simp] theorem tun_212 : (Tryz.prog.underlying 212).isSome = true := by kernel_rfl
@[simp] theorem tagg_212 : tagg Tryz.prog 212 = some true := by kernel_rfl
@[simp] theorem tsize_212 : tsize Tryz.prog 212 = some 24 := by kernel_rfl
@[simp] theorem tzero_212 : tzero Tryz.prog 212 = some (.agg #[.int .u8 0, .int .u8 0, .int .u8 0, .int .u8 0, .int .u8 0, .int .u8 0, .int .u8 0, .int .u8 0, .int .u8 0, .int .u8 0, .int .u8 0, .int .u8 0, .int .u8 0, .int .u8 0, .int .u8 0, .int .u8 0, .int .u8 0, .int .u8 0, .int .u8 0, .int .u8 0, .int .u8 0, .int .u8 0, .int .u8 0, .int .u8 0]) := by kernel_rfl
@[simp] theorem tarr_212 : tarr Tryz.prog 212 = some (24, 5) := by kernel_rfl
@[simp] theorem tsizes_212 : tsizes Tryz.prog 212 = true := by kernel_rfl
@[simp] theorem tplace_212_0 : aplace Tryz.prog 212 0 = some (0, 1) := by kernel_rfl
@[simp] theorem tplace_212_1 : aplace Tryz.prog 212 1 = some (1, 1) := by kernel_rfl
@[simp] theorem tplace_212_2 : aplace Tryz.prog 212 2 = some (2, 1) := by kernel_rfl
@[simp] theorem tplace_212_3 : aplace Tryz.prog 212 3 = some (3, 1) := by kernel_rfl
@[simp] theorem tplace_212_4 : aplace Tryz.prog 212 4 = some (4, 1) := by kernel_rfl
@[simp] theorem tplace_212_5 : aplace Tryz.prog 212 5 = some (5, 1) := by kernel_rfl
@[simp] theorem tplace_212_6 : aplace Tryz.prog 212 6 = some (6, 1) := by kernel_rfl
@[simp] theorem tplace_212_7 : aplace Tryz.prog 212 7 = some (7, 1) := by kernel_rfl
@[simp] theorem tplace_212_8 : aplace Tryz.prog 212 8 = some (8, 1) := by kernel_rfl
@[simp] theorem tplace_212_9 : aplace Tryz.prog 212 9 = some (9, 1) := by kernel_rfl
@[simp] theorem tplace_212_10 : aplace Tryz.prog 212 10 = some (10, 1) := by kernel_rfl
@[simp] theorem tplace_212_11 : aplace Tryz.prog 212 11 = some (11, 1) := by kernel_rfl
@[simp] theorem tplace_212_12 : aplace Tryz.prog 212 12 = some (12, 1) := by kernel_rfl
@[simp] theorem tplace_212_13 : aplace Tryz.prog 212 13 = some (13, 1) := by kernel_rfl
@[simp] theorem tplace_212_14 : aplace Tryz.prog 212 14 = some (14, 1) := by kernel_rfl
@[simp] theorem tplace_212_15 : aplace Tryz.prog 212 15 = some (15, 1) := by kernel_rfl
@[simp] theorem tkd_217 : tkd Tryz.prog 217 = 10 := by kernel_rfl
@[simp] theorem tun_217 : (Tryz.prog.underlying 217).isSome = true := by kernel_rfl
@[simp] theorem tagg_217 : tagg Tryz.prog 217 = some true := by kernel_rfl
@[simp] theorem tsize_217 : tsize Tryz.prog 217 = some 20 := by kernel_rfl
@[simp] theorem tzero_217 : tzero Tryz.prog 217 = some (.agg #[.int .u64 0, .int .u64 0, .int .u64 0, .int .u64 0, .int .u64 0, .int .u64 0, .int .u64 0, .int .u64 0, .int .u64 0, .int .u64 0, .int .u64 0, .int .u64 0, .int .u64 0, .int .u64 0, .int .u64 0, .int .u64 0, .int .u64 0, .int .u64 0, .int .u64 0, .int .u64 0]) := by kernel_rfl
@[simp] theorem tarr_217 : tarr Tryz.prog 217 = some (20, 28) := by kernel_rfl
@[simp] theorem tsizes_217 : tsizes Tryz.prog 217 = true := by kernel_rfl
@[simp] theorem tplace_217_0 : aplace Tryz.prog 217 0 = some (0, 1) := by kernel_rfl
@[simp] theorem tplace_217_1 : aplace Tryz.prog 217 1 = some (1, 1) := by kernel_rfl
@[simp] theorem tplace_217_2 : aplace Tryz.prog 217 2 = some (2, 1) := by kernel_rfl
@[simp] theorem tplace_217_3 : aplace Tryz.prog 217 3 = some (3, 1) := by kernel_rfl
@[simp] theorem tplace_217_4 : aplace Tryz.prog 217 4 = some (4, 1) := by kernel_rfl
@[simp] theorem tplace_217_5 : aplace Tryz.prog 217 5 = some (5, 1) := by kernel_rfl
@[simp] theorem tplace_217_6 : aplace Tryz.prog 217 6 = some (6, 1) := by kernel_rfl
@[simp] theorem tplace_217_7 : aplace Tryz.prog 217 7 = some (7, 1) := by kernel_rfl
@[simp] theorem tplace_217_8 : aplace Tryz.prog 217 8 = some (8, 1) := by kernel_rfl
@[simp] theorem tplace_217_9 : aplace Tryz.prog 217 9 = some (9, 1) := by kernel_rfl
@[simp] theorem tplace_217_10 : aplace Tryz.prog 217 10 = some (10, 1) := by kernel_rfl
@[simp] theorem tplace_217_11 : aplace Tryz.prog 217 11 = some (11, 1) := by kernel_rfl
@[simp] theorem tplace_217_12 : aplace Tryz.prog 217 12 = some (12, 1) := by kernel_rfl
@[simp] theorem tplace_217_13 : aplace Tryz.prog 217 13 = some (13, 1) := by kernel_rfl
@[simp] theorem tplace_217_14 : aplace Tryz.prog 217 14 = some (14, 1) := by kernel_rfl
@[simp] theorem tplace_217_15 : aplace Tryz.prog 217 15 = some (15, 1) := by kernel_rfl
@[simp] theorem tkd_218 : tkd Tryz.prog 218 = 10 := by kernel_rfl
@[simp] theorem tun_218 : (Tryz.prog.underlying 218).isSome = true := by kernel_rfl
@[simp] theorem tagg_218 : tagg Tryz.prog 218 = some true := by kernel_rfl
@[simp] theorem tsize_218 : tsize Tryz.prog 218 = some 65 := by kernel_rfl
@[simp] theorem tzero_218 : tzero Tryz.prog 218 = some (.agg #[.int .u8 0, .int .u8 0, .int .u8 0, .int .u8 0, .int .u8 0, .int .u8 0, .int .u8 0, .int .u8 0, .int .u8 0, .int .u8 0, .int .u8 0, .int .u8 0, .int .u8 0, .int .u8 0, .int .u8 0, .int .u8 0, .int .u8 0, .int .u8 0, .int .u8 0, .int .u8 0, .int .u8 0, .int .u8 0, .int .u8 0, .int .u8 0, .int .u8 0, .int .u8 0, .int .u8 0, .int .u8 0, .int .u8 0, .int .u8 0, .int .u8 0, .int .u8 0, .int .u8 0, .int .u8 0, .int .u8 0, .int .u8 0, .int .u8 0, .int .u8 0, .int .u8 0, .int .u8 0, .int .u8 0, .int .u8 0, .int .u8 0, .int .u8 0, .int .u8 0, .int .u8 0, .int .u8 0, .int .u8 0, .int .u8 0, .int .u8 0, .int .u8 0, .int .u8 0, .int .u8 0, .int .u8 0, .int .u8 0, .int .u8 0, .int .u8 0, .int .u8 0, .int .u8 0, .int .u8 0, .int .u8 0, .int .u8 0, .int .u8 0, .int .u8 0, .int .u8 0]) := by kernel_rfl
@[simp] theorem tarr_218 : tarr Tryz.prog 218 = some (65, 5) := by kernel_rfl
@[simp] theorem tsizes_218 : tsizes Tryz.prog 218 = true := by kernel_rfl
@[simp] theorem tplace_218_0 : aplace Tryz.prog 218 0 = some (0, 1) := by kernel_rfl
@[simp] theorem tplace_218_1 : aplace Tryz.prog 218 1 = some (1, 1) := by kernel_rfl
@[simp] theorem tplace_218_2 : aplace Tryz.prog 218 2 = some (2, 1) := by kernel_rfl
@[simp] theorem tplace_218_3 : aplace Tryz.prog 218 3 = some (3, 1) := by kernel_rfl
@[simp] theorem tplace_218_4 : aplace Tryz.prog 218 4 = some (4, 1) := by kernel_rfl
@[simp] theorem tplace_218_5 : aplace Tryz.prog 218 5 = some (5, 1) := by kernel_rfl
@[simp] theorem tplace_218_6 : aplace Tryz.prog 218 6 = some (6, 1) := by kernel_rfl
@[simp] theorem tplace_218_7 : aplace Tryz.prog 218 7 = some (7, 1) := by kernel_rfl
@[simp] theorem tplace_218_8 : aplace Tryz.prog 218 8 = some (8, 1) := by kernel_rfl
@[simp] theorem tplace_218_9 : aplace Tryz.prog 218 9 = some (9, 1) := by kernel_rfl
@[simp] theorem tplace_218_10 : aplace Tryz.prog 218 10 = some (10, 1) := by kernel_rfl
@[simp] theorem tplace_218_11 : aplace Tryz.prog 218 11 = some (11, 1) := by kernel_rfl
@[simp] theorem tplace_218_12 : aplace Tryz.prog 218 12 = some (12, 1) := by kernel_rfl
@[simp] theorem tplace_218_13 : aplace Tryz.prog 218 13 = some (13, 1) := by kernel_rfl
@[simp] theorem tplace_218_14 : aplace Tryz.prog 218 14 = some (14, 1) := by kernel_rfl
@[simp] theorem tplace_218_15 : aplace Tryz.prog 218 15 = some (15, 1) := by kernel_rfl
@[simp] theorem tkd_219 : tkd Tryz.prog 219 = 10 := by kernel_rfl
@[simp] theorem tun_219 : (Tryz.prog.underlying 219).isSome = true := by kernel_rfl
@[simp] theorem tagg_219 : tagg Tryz.prog 219 = some true := by kernel_rfl
@[simp] theorem tsize_219 : tsize Tryz.prog 219 = some 32 := by kernel_rfl
@[simp] theorem tzero_219 : tzero Tryz.prog 219 = some (.agg #[.int .u8 0, .int .u8 0, .int .u8 0, .int .u8 0, .int .u8 0, .int .u8 0, .int .u8 0, .int .u8 0, .int .u8 0, .int .u8 0, .int .u8 0, .int .u8 0, .int .u8 0, .int .u8 0, .int .u8 0, .int .u8 0, .int .u8 0, .int .u8 0, .int .u8 0, .int .u8 0, .int .u8 0, .int .u8 0, .int .u8 0, .int .u8 0, .int .u8 0, .int .u8 0, .int .u8 0, .int .u8 0, .int .u8 0, .int .u8 0, .int .u8 0, .int .u8 0]) := by kernel_rfl
@[simp] theorem tarr_219 : tarr Tryz.prog 219 = some (32, 5) := by kernel_rfl
@[simp] theorem tsizes_219 : tsizes Tryz.prog 219 = true := by kernel_rfl
@[simp] theorem tplace_219_0 : aplace Tryz.prog 219 0 = some (0, 1) := by kernel_rfl
@[simp] theorem tplace_219_1 : aplace Tryz.prog 219 1 = some (1, 1) := by kernel_rfl
@[simp] theorem tplace_219_2 : aplace Tryz.prog 219 2 = some (2, 1) := by kernel_rfl
@[simp] theorem tplace_219_3 : aplace Tryz.prog 219 3 = some (3, 1) := by kernel_rfl
@[simp] theorem tplace_219_4 : aplace Tryz.prog 219 4 = some (4, 1) := by kernel_rfl
@[simp] theorem tplace_219_5 : aplace Tryz.prog 219 5 = some (5, 1) := by kernel_rfl
@[simp] theorem tplace_219_6 : aplace Tryz.prog 219 6 = some (6, 1) := by kernel_rfl
@[simp] theorem tplace_219_7 : aplace Tryz.prog 219 7 = some (7, 1) := by kernel_rfl
@[simp] theorem tplace_219_8 : aplace Tryz.prog 219 8 = some (8, 1) := by kernel_rfl
@[simp] theorem tplace_219_9 : aplace Tryz.prog 219 9 = some (9, 1) := by kernel_rfl
@[simp] theorem tplace_219_10 : aplace Tryz.prog 219 10 = some (10, 1) := by kernel_rfl
@[simp] theorem tplace_219_11 : aplace Tryz.prog 219 11 = some (11, 1) := by kernel_rfl
@[simp] theorem tplace_219_12 : aplace Tryz.prog 219 12 = some (12, 1) := by kernel_rfl
@[simp] theorem tplace_219_13 : aplace Tryz.prog 219 13 = some (13, 1) := by kernel_rfl
@[simp] theorem tplace_219_14 : aplace Tryz.prog 219 14 = some (14, 1) := by kernel_rfl
@[simp] theorem tplace_219_15 : aplace Tryz.prog 219 15 = some (15, 1) := by kernel_rfl
@[simp] theorem tkd_220 : tkd Tryz.prog 220 = 10 := by kernel_rfl
@[simp] theorem tun_220 : (Tryz.prog.underlying 220).isSome = true := by kernel_rfl
@[simp] theorem tagg_220 : tagg Tryz.prog 220 = some true := by kernel_rfl
@[simp] theorem tsize_220 : tsize Tryz.prog 220 = some 64 := by kernel_rfl
@[simp] theorem tzero_220 : tzero Tryz.prog 220 = some (.agg #[.int .u8 0, .int .u8 0, .int .u8 0, .int .u8 0, .int .u8 0, .int .u8 0, .int .u8 0, .int .u8 0, .int .u8 0, .int .u8 0, .int .u8 0, .int .u8 0, .int .u8 0, .int .u8 0, .int .u8 0, .int .u8 0, .int .u8 0, .int .u8 0, .int .u8 0, .int .u8 0, .int .u8 0, .int .u8 0, .int .u8 0, .int .u8 0, .int .u8 0, .int .u8 0, .int .u8 0, .int .u8 0, .int .u8 0, .int .u8 0, .int .u8 0, .int .u8 0, .int .u8 0, .int .u8 0, .int .u8 0, .int .u8 0, .int .u8 0, .int .u8 0, .int .u8 0, .int .u8 0, .int .u8 0, .int .u8 0, .int .u8 0, .int .u8 0, .int .u8 0, .int .u8 0, .int .u8 0, .int .u8 0, .int .u8 0, .int .u8 0, .int .u8 0, .int .u8 0, .int .u8 0, .int .u8 0, .int .u8 0, .int .u8 0, .int .u8 0, .int .u8 0, .int .u8 0, .int .u8 0, .int .u8 0, .int .u8 0, .int .u8 0, .int .u8 0]) := by kernel_rfl
@[simp] theorem tarr_220 : tarr Tryz.prog 220 = some (64, 5) := by kernel_rfl
@[simp] theorem tsizes_220 : tsizes Tryz.prog 220 = true := by kernel_rfl
@[simp] theorem tplace_220_0 : aplace Tryz.prog 220 0 = some (0, 1) := by kernel_rfl
@[simp] theorem tplace_220_1 : aplace Tryz.prog 220 1 = some (1, 1) := by kernel_rfl
@[simp] theorem tplace_220_2 : aplace Tryz.prog 220 2 = some (2, 1) := by kernel_rfl
@[simp] theorem tplace_220_3 : aplace Tryz.prog 220 3 = some (3, 1) := by kernel_rfl
@[simp] theorem tplace_220_4 : aplace Tryz.prog 220 4 = some (4, 1) := by kernel_rfl
@[simp] theorem tplace_220_5 : aplace Tryz.prog 220 5 = some (5, 1) := by kernel_rfl
@[simp] theorem tplace_220_6 : aplace Tryz.prog 220 6 = some (6, 1) := by kernel_rfl
@[simp] theorem tplace_220_7 : aplace Tryz.prog 220 7 = some (7, 1) := by kernel_rfl
@[simp] theorem tplace_220_8 : aplace Tryz.prog 220 8 = some (8, 1) := by kernel_rfl
@[simp] theorem tplace_220_9 : aplace Tryz.prog 220 9 = some (9, 1) := by kernel_rfl
@[simp] theorem tplace_220_10 : aplace Tryz.prog 220 10 = some (10, 1) := by kernel_rfl
@[simp] theorem tplace_220_11 : aplace Tryz.prog 220 11 = some (11, 1) := by kernel_rfl
@[simp] theorem tplace_220_12 : aplace Tryz.prog 220 12 = some (12, 1) := by kernel_rfl
@[simp] theorem tplace_220_13 : aplace Tryz.prog 220 13 = some (13, 1) := by kernel_rfl
@[simp] theorem tplace_220_14 : aplace Tryz.prog 220 14 = some (14, 1) := by kernel_rfl
@[simp] theorem tplace_220_15 : aplace Tryz.prog 220 15 = some (15, 1) := by kernel_rfl
@[simp] theorem tfs_81 : tfs Tryz.prog 81 = some [(false, 28, 0), (false, 4, 1)] := by kernel_rfl
@[simp] theorem tfs_83 : tfs Tryz.prog 83 = some [(false, 81, 0), (false, 81, 2), (false, 81, 4), (false, 81, 6), (false, 81, 8)] := by kernel_rfl
@[simp] theorem can_3 : canCall Tryz.prog 3 = true := by kernel_rfl
@[simp] theorem can_5 : canCall Tryz.prog 5 = true := by kernel_rfl
@[simp] theorem can_6 : canCall Tryz.prog 6 = true := by kernel_rfl
@[simp] theorem can_7 : canCall Tryz.prog 7 = true := by kernel_rfl
@[simp] theorem can_8 : canCall Tryz.prog 8 = true := by kernel_rfl
@[simp] theorem can_9 : canCall Tryz.prog 9 = true := by kernel_rfl
@[simp] theorem can_10 : canCall Tryz.prog 10 = true := by kernel_rfl
@[simp] theorem can_11 : canCall Tryz.prog 11 = true := by kernel_rfl
@[simp] theorem can_12 : canCall Tryz.prog 12 = true := by kernel_rfl
@[simp] theorem can_13 : canCall Tryz.prog 13 = true := by kernel_rfl
@[simp] theorem can_14 : canCall Tryz.prog 14 = true := by kernel_rfl
@[simp] theorem can_15 : canCall Tryz.prog 15 = true := by kernel_rfl
@[simp] theorem can_16 : canCall Tryz.prog 16 = true := by kernel_rfl
@[simp] theorem can_17 : canCall Tryz.prog 17 = true := by kernel_rfl
@[simp] theorem can_18 : canCall Tryz.prog 18 = true := by kernel_rfl
@[simp] theorem can_19 : canCall Tryz.prog 19 = true := by kernel_rfl
@[simp] theorem can_20 : canCall Tryz.prog 20 = true := by kernel_rfl
@[simp] theorem can_21 : canCall Tryz.prog 21 = true := by kernel_rfl
@[simp] theorem can_22 : canCall Tryz.prog 22 = true := by kernel_rfl
@[simp] theorem can_23 : canCall Tryz.prog 23 = true := by kernel_rfl
@[simp] theorem can_24 : canCall Tryz.prog 24 = true := by kernel_rfl
@[simp] theorem can_25 : canCall Tryz.prog 25 = true := by kernel_rfl
@[simp] theorem can_27 : canCall Tryz.prog 27 = true := by kernel_rfl
@[simp] theorem can_28 : canCall Tryz.prog 28 = true := by kernel_rfl
@[simp] theorem can_29 : canCall Tryz.prog 29 = true := by kernel_rfl
@[simp] theorem can_30 : canCall Tryz.prog 30 = true := by kernel_rfl
@[simp] theorem can_31 : canCall Tryz.prog 31 = true := by kernel_rfl
@[simp] theorem can_32 : canCall Tryz.prog 32 = true := by kernel_rfl
@[simp] theorem can_33 : canCall Tryz.prog 33 = true := by kernel_rfl
@[simp] theorem can_34 : canCall Tryz.prog 34 = true := by kernel_rfl
@[simp] theorem can_35 : canCall Tryz.prog 35 = true := by kernel_rfl
@[simp] theorem can_36 : canCall Tryz.prog 36 = true := by kernel_rfl
@[simp] theorem can_37 : canCall Tryz.prog 37 = true := by kernel_rfl
@[simp] theorem can_38 : canCall Tryz.prog 38 = true := by kernel_rfl
@[simp] theorem can_39 : canCall Tryz.prog 39 = true := by kernel_rfl
@[simp] theorem can_40 : canCall Tryz.prog 40 = true := by kernel_rfl
@[simp] theorem can_41 : canCall Tryz.prog 41 = true := by kernel_rfl
@[simp] theorem can_42 : canCall Tryz.prog 42 = true := by kernel_rfl
@[simp] theorem can_43 : canCall Tryz.prog 43 = true := by kernel_rfl
@[simp] theorem can_44 : canCall Tryz.prog 44 = true := by kernel_rfl
@[simp] theorem can_45 : canCall Tryz.prog 45 = true := by kernel_rfl
@[simp] theorem can_46 : canCall Tryz.prog 46 = true := by kernel_rfl
@[simp] theorem can_47 : canCall Tryz.prog 47 = true := by kernel_rfl
@[simp] theorem can_48 : canCall Tryz.prog 48 = true := by kernel_rfl
@[simp] theorem can_49 : canCall Tryz.prog 49 = true := by kernel_rfl
@[simp] theorem can_50 : canCall Tryz.prog 50 = true := by kernel_rfl
@[simp] theorem can_51 : canCall Tryz.prog 51 = true := by kernel_rfl
@[simp] theorem can_52 : canCall Tryz.prog 52 = true := by kernel_rfl
@[simp] theorem can_53 : canCall Tryz.prog 53 = true := by kernel_rfl
@[simp] theorem can_54 : canCall Tryz.prog 54 = true := by kernel_rfl
@[simp] theorem can_55 : canCall Tryz.prog 55 = true := by kernel_rfl
@[simp] theorem can_56 : canCall Tryz.prog 56 = true := by kernel_rfl
@[simp] theorem can_57 : canCall Tryz.prog 57 = true := by kernel_rfl
@[simp] theorem can_58 : canCall Tryz.prog 58 = true := by kernel_rfl
@[simp] theorem can_59 : canCall Tryz.prog 59 = true := by kernel_rfl
@[simp] theorem can_60 : canCall Tryz.prog 60 = true := by kernel_rfl
@[simp] theorem can_62 : canCall Tryz.prog 62 = true := by kernel_rfl
@[simp] theorem can_63 : canCall Tryz.prog 63 = true := by kernel_rfl
@[simp] theorem can_64 : canCall Tryz.prog 64 = true := by kernel_rfl
@[simp] theorem can_65 : canCall Tryz.prog 65 = true := by kernel_rfl
@[simp] theorem can_66 : canCall Tryz.prog 66 = true := by kernel_rfl
@[simp] theorem can_67 : canCall Tryz.prog 67 = true := by kernel_rfl
@[simp] theorem can_68 : canCall Tryz.prog 68 = true := by kernel_rfl
@[simp] theorem can_69 : canCall Tryz.prog 69 = true := by kernel_rfl
@[simp] theorem can_70 : canCall Tryz.prog 70 = true := by kernel_rfl
@[simp] theorem can_71 : canCall Tryz.prog 71 = true := by kernel_rfl
@[simp] theorem can_72 : canCall Tryz.prog 72 = true := by kernel_rfl
@[simp] theorem can_73 : canCall Tryz.prog 73 = true := by kernel_rfl
@[simp] theorem can_74 : canCall Tryz.prog 74 = true := by kernel_rfl
@[simp] theorem can_75 : canCall Tryz.prog 75 = true := by kernel_rfl
@[simp] theorem can_76 : canCall Tryz.prog 76 = true := by kernel_rfl
@[simp] theorem can_77 : canCall Tryz.prog 77 = true := by kernel_rfl
@[simp] theorem can_78 : canCall Tryz.prog 78 = true := by kernel_rfl
@[simp] theorem can_79 : canCall Tryz.prog 79 = true := by kernel_rfl
@[simp] theorem can_80 : canCall Tryz.prog 80 = true := by kernel_rfl
@[simp] theorem can_82 : canCall Tryz.prog 82 = true := by kernel_rfl
@[simp] theorem can_83 : canCall Tryz.prog 83 = true := by kernel_rfl
@[simp] theorem can_84 : canCall Tryz.prog 84 = true := by kernel_rfl
@[simp] theorem can_85 : canCall Tryz.prog 85 = true := by kernel_rfl
@[simp] theorem can_86 : canCall Tryz.prog 86 = true := by kernel_rfl
@[simp] theorem can_87 : canCall Tryz.prog 87 = true := by kernel_rfl
@[simp] theorem can_88 : canCall Tryz.prog 88 = true := by kernel_rfl
@[simp] theorem can_89 : canCall Tryz.prog 89 = true := by kernel_rfl
@[simp] theorem can_90 : canCall Tryz.prog 90 = true := by kernel_rfl
@[simp] theorem can_91 : canCall Tryz.prog 91 = true := by kernel_rfl
@[simp] theorem can_93 : canCall Tryz.prog 93 = true := by kernel_rfl
@[simp] theorem can_94 : canCall Tryz.prog 94 = true := by kernel_rfl
@[simp] theorem can_95 : canCall Tryz.prog 95 = true := by kernel_rfl
@[simp] theorem can_96 : canCall Tryz.prog 96 = true := by kernel_rfl
@[simp] theorem can_97 : canCall Tryz.prog 97 = true := by kernel_rfl
@[simp] theorem can_98 : canCall Tryz.prog 98 = true := by kernel_rfl
@[simp] theorem can_99 : canCall Tryz.prog 99 = true := by kernel_rfl
@[simp] theorem can_100 : canCall Tryz.prog 100 = true := by kernel_rfl
@[simp] theorem can_101 : canCall Tryz.prog 101 = true := by kernel_rfl
@[simp] theorem can_102 : canCall Tryz.prog 102 = true := by kernel_rfl
@[simp] theorem can_103 : canCall Tryz.prog 103 = true := by kernel_rfl
@[simp] theorem can_104 : canCall Tryz.prog 104 = true := by kernel_rfl
@[simp] theorem can_105 : canCall Tryz.prog 105 = true := by kernel_rfl
@[simp] theorem can_106 : canCall Tryz.prog 106 = true := by kernel_rfl
@[simp] theorem can_107 : canCall Tryz.prog 107 = true := by kernel_rfl
@[simp] theorem can_108 : canCall Tryz.prog 108 = true := by kernel_rfl
@[simp] theorem can_109 : canCall Tryz.prog 109 = true := by kernel_rfl
@[simp] theorem can_110 : canCall Tryz.prog 110 = true := by kernel_rfl
@[simp] theorem can_111 : canCall Tryz.prog 111 = true := by kernel_rfl
@[simp] theorem can_113 : canCall Tryz.prog 113 = true := by kernel_rfl
@[simp] theorem can_114 : canCall Tryz.prog 114 = true := by kernel_rfl
@[simp] theorem can_115 : canCall Tryz.prog 115 = true := by kernel_rfl
@[simp] theorem can_116 : canCall Tryz.prog 116 = true := by kernel_rfl
@[simp] theorem can_119 : canCall Tryz.prog 119 = true := by kernel_rfl
@[simp] theorem can_120 : canCall Tryz.prog 120 = true := by kernel_rfl
@[simp] theorem can_121 : canCall Tryz.prog 121 = true := by kernel_rfl
@[simp] theorem can_122 : canCall Tryz.prog 122 = true := by kernel_rfl
@[simp] theorem can_123 : canCall Tryz.prog 123 = true := by kernel_rfl
@[simp] theorem can_125 : canCall Tryz.prog 125 = true := by kernel_rfl
@[simp] theorem can_126 : canCall Tryz.prog 126 = true := by kernel_rfl
@[simp] theorem can_131 : canCall Tryz.prog 131 = true := by kernel_rfl
@[simp] theorem can_132 : canCall Tryz.prog 132 = true := by kernel_rfl
@[simp] theorem can_133 : canCall Tryz.prog 133 = true := by kernel_rfl
@[simp] theorem can_134 : canCall Tryz.prog 134 = true := by kernel_rfl
@[simp] theorem can_135 : canCall Tryz.prog 135 = true := by kernel_rfl
@[simp] theorem can_136 : canCall Tryz.prog 136 = true := by kernel_rfl
@[simp] theorem can_137 : canCall Tryz.prog 137 = true := by kernel_rfl
@[simp] theorem can_139 : canCall Tryz.prog 139 = true := by kernel_rfl
@[simp] theorem can_140 : canCall Tryz.prog 140 = true := by kernel_rfl
@[simp] theorem can_141 : canCall Tryz.prog 141 = true := by kernel_rfl
@[simp] theorem can_142 : canCall Tryz.prog 142 = true := by kernel_rfl
@[simp] theorem can_143 : canCall Tryz.prog 143 = true := by kernel_rfl
@[simp] theorem can_144 : canCall Tryz.prog 144 = true := by kernel_rfl
@[simp] theorem can_145 : canCall Tryz.prog 145 = true := by kernel_rfl
@[simp] theorem can_146 : canCall Tryz.prog 146 = true := by kernel_rfl
@[simp] theorem can_149 : canCall Tryz.prog 149 = true := by kernel_rfl
@[simp] theorem can_150 : canCall Tryz.prog 150 = true := by kernel_rfl
@[simp] theorem can_151 : canCall Tryz.prog 151 = true := by kernel_rfl
@[simp] theorem can_153 : canCall Tryz.prog 153 = true := by kernel_rfl
@[simp] theorem can_154 : canCall Tryz.prog 154 = true := by kernel_rfl
@[simp] theorem can_155 : canCall Tryz.prog 155 = true := by kernel_rfl
@[simp] theorem can_156 : canCall Tryz.prog 156 = true := by kernel_rfl
@[simp] theorem can_157 : canCall Tryz.prog 157 = true := by kernel_rfl
@[simp] theorem can_158 : canCall Tryz.prog 158 = true := by kernel_rfl
@[simp] theorem can_159 : canCall Tryz.prog 159 = true := by kernel_rfl
@[simp] theorem can_160 : canCall Tryz.prog 160 = true := by kernel_rfl
@[simp] theorem can_161 : canCall Tryz.prog 161 = true := by kernel_rfl
@[simp] theorem can_164 : canCall Tryz.prog 164 = true := by kernel_rfl
@[simp] theorem can_165 : canCall Tryz.prog 165 = true := by kernel_rfl
@[simp] theorem can_168 : canCall Tryz.prog 168 = true := by kernel_rfl
@[simp] theorem can_169 : canCall Tryz.prog 169 = true := by kernel_rfl
@[simp] theorem can_170 : canCall Tryz.prog 170 = true := by kernel_rfl
@[simp] theorem can_182 : canCall Tryz.prog 182 = true := by kernel_rfl
@[simp] theorem can_183 : canCall Tryz.prog 183 = true := by kernel_rfl
@[simp] theorem can_184 : canCall Tryz.prog 184 = true := by kernel_rfl
end Go.Proofs.YtlhgpodfhdddkaaGreatDoor
