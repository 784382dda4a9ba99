/- Small facts on the types and the functions of this program, printed by facts.py. -/
import Derived.Test.YtdpgnbinekcgdaaGreatDoorRgN
import Derived.Test.YtdpgnbinekcgdaaGreatDoorRows
namespace Go.Proofs.YtdpgnbinekcgdaaGreatDoor
open Rg
theorem f_mixed : Tryz.prog.follows .mixedOrders = true := by kernel_rfl
@[simp] theorem tkd_2 : tkd Tryz.prog 2 = 2 := by kernel_rfl
@[simp] theorem tun_2 : (Tryz.prog.underlying 2).isSome = true := by kernel_rfl
@[simp] theorem tagg_2 : tagg Tryz.prog 2 = some false := by kernel_rfl
@[simp] theorem tsize_2 : tsize Tryz.prog 2 = some 1 := by kernel_rfl
@[simp] theorem tzero_2 : tzero Tryz.prog 2 = some (.int .i64 0) := by kernel_rfl
@[simp] theorem tint_2 : tint Tryz.prog 2 = some .i64 := by kernel_rfl
@[simp] theorem tkd_3 : tkd Tryz.prog 3 = 2 := by kernel_rfl
@[simp] theorem tun_3 : (Tryz.prog.underlying 3).isSome = true := by kernel_rfl
@[simp] theorem tagg_3 : tagg Tryz.prog 3 = some false := by kernel_rfl
@[simp] theorem tsize_3 : tsize Tryz.prog 3 = some 1 := by kernel_rfl
@[simp] theorem tzero_3 : tzero Tryz.prog 3 = some (.int .i64 0) := by kernel_rfl
@[simp] theorem tint_3 : tint Tryz.prog 3 = some .i64 := by kernel_rfl
@[simp] theorem tkd_4 : tkd Tryz.prog 4 = 1 := by kernel_rfl
@[simp] theorem tun_4 : (Tryz.prog.underlying 4).isSome = true := by kernel_rfl
@[simp] theorem tagg_4 : tagg Tryz.prog 4 = some false := by kernel_rfl
@[simp] theorem tsize_4 : tsize Tryz.prog 4 = some 1 := by kernel_rfl
@[simp] theorem tzero_4 : tzero Tryz.prog 4 = some (.bool false) := by kernel_rfl
@[simp] theorem tkd_5 : tkd Tryz.prog 5 = 2 := by kernel_rfl
@[simp] theorem tun_5 : (Tryz.prog.underlying 5).isSome = true := by kernel_rfl
@[simp] theorem tagg_5 : tagg Tryz.prog 5 = some false := by kernel_rfl
@[simp] theorem tsize_5 : tsize Tryz.prog 5 = some 1 := by kernel_rfl
@[simp] theorem tzero_5 : tzero Tryz.prog 5 = some (.int .u8 0) := by kernel_rfl
@[simp] theorem tint_5 : tint Tryz.prog 5 = some .u8 := by kernel_rfl
@[simp] theorem tkd_6 : tkd Tryz.prog 6 = 2 := by kernel_rfl
@[simp] theorem tun_6 : (Tryz.prog.underlying 6).isSome = true := by kernel_rfl
@[simp] theorem tagg_6 : tagg Tryz.prog 6 = some false := by kernel_rfl
@[simp] theorem tsize_6 : tsize Tryz.prog 6 = some 1 := by kernel_rfl
@[simp] theorem tzero_6 : tzero Tryz.prog 6 = some (.int .u8 0) := by kernel_rfl
@[simp] theorem tint_6 : tint Tryz.prog 6 = some .u8 := by kernel_rfl
@[simp] theorem tkd_7 : tkd Tryz.prog 7 = 9 := by kernel_rfl
@[simp] theorem tun_7 : (Tryz.prog.underlying 7).isSome = true := by kernel_rfl
@[simp] theorem tagg_7 : tagg Tryz.prog 7 = some true := by kernel_rfl
@[simp] theorem tsize_7 : tsize Tryz.prog 7 = some 4 := by kernel_rfl
@[simp] theorem tzero_7 : tzero Tryz.prog 7 = some (.agg #[.int .i64 0, .int .i64 0, .bool false, .int .u8 0]) := by kernel_rfl
@[simp] theorem tsizes_7 : tsizes Tryz.prog 7 = true := by kernel_rfl
@[simp] theorem tfield_7_0 : tfield Tryz.prog 7 0 = some (0, 2) := by kernel_rfl
@[simp] theorem tplace_7_0 : aplace Tryz.prog 7 0 = some (0, 1) := by kernel_rfl
@[simp] theorem tfield_7_1 : tfield Tryz.prog 7 1 = some (1, 3) := by kernel_rfl
@[simp] theorem tplace_7_1 : aplace Tryz.prog 7 1 = some (1, 1) := by kernel_rfl
@[simp] theorem tfield_7_2 : tfield Tryz.prog 7 2 = some (2, 4) := by kernel_rfl
@[simp] theorem tplace_7_2 : aplace Tryz.prog 7 2 = some (2, 1) := by kernel_rfl
@[simp] theorem tfield_7_3 : tfield Tryz.prog 7 3 = some (3, 6) := by kernel_rfl
@[simp] theorem tplace_7_3 : aplace Tryz.prog 7 3 = some (3, 1) := by kernel_rfl
@[simp] theorem tkd_8 : tkd Tryz.prog 8 = 9 := by kernel_rfl
@[simp] theorem tun_8 : (Tryz.prog.underlying 8).isSome = true := by kernel_rfl
@[simp] theorem tagg_8 : tagg Tryz.prog 8 = some true := by kernel_rfl
@[simp] theorem tsize_8 : tsize Tryz.prog 8 = some 4 := by kernel_rfl
@[simp] theorem tzero_8 : tzero Tryz.prog 8 = some (.agg #[.int .i64 0, .int .i64 0, .bool false, .int .u8 0]) := by kernel_rfl
@[simp] theorem tsizes_8 : tsizes Tryz.prog 8 = true := by kernel_rfl
@[simp] theorem tfield_8_0 : tfield Tryz.prog 8 0 = some (0, 2) := by kernel_rfl
@[simp] theorem tplace_8_0 : aplace Tryz.prog 8 0 = some (0, 1) := by kernel_rfl
@[simp] theorem tfield_8_1 : tfield Tryz.prog 8 1 = some (1, 3) := by kernel_rfl
@[simp] theorem tplace_8_1 : aplace Tryz.prog 8 1 = some (1, 1) := by kernel_rfl
@[simp] theorem tfield_8_2 : tfield Tryz.prog 8 2 = some (2, 4) := by kernel_rfl
@[simp] theorem tplace_8_2 : aplace Tryz.prog 8 2 = some (2, 1) := by kernel_rfl
@[simp] theorem tfield_8_3 : tfield Tryz.prog 8 3 = some (3, 6) := by kernel_rfl
@[simp] theorem tplace_8_3 : aplace Tryz.prog 8 3 = some (3, 1) := by kernel_rfl
@[simp] theorem tkd_9 : tkd Tryz.prog 9 = 3 := by kernel_rfl
@[simp] theorem tun_9 : (Tryz.prog.underlying 9).isSome = true := by kernel_rfl
@[simp] theorem tagg_9 : tagg Tryz.prog 9 = some false := by kernel_rfl
@[simp] theorem tsize_9 : tsize Tryz.prog 9 = some 1 := by kernel_rfl
@[simp] theorem tzero_9 : tzero Tryz.prog 9 = some (.string ByteArray.empty) := by kernel_rfl
@[simp] theorem tkd_10 : tkd Tryz.prog 10 = 3 := by kernel_rfl
@[simp] theorem tun_10 : (Tryz.prog.underlying 10).isSome = true := by kernel_rfl
@[simp] theorem tagg_10 : tagg Tryz.prog 10 = some false := by kernel_rfl
@[simp] theorem tsize_10 : tsize Tryz.prog 10 = some 1 := by kernel_rfl
@[simp] theorem tzero_10 : tzero Tryz.prog 10 = some (.string ByteArray.empty) := by kernel_rfl
@[simp] theorem tkd_11 : tkd Tryz.prog 11 = 3 := by kernel_rfl
@[simp] theorem tun_11 : (Tryz.prog.underlying 11).isSome = true := by kernel_rfl
@[simp] theorem tagg_11 : tagg Tryz.prog 11 = some false := by kernel_rfl
@[simp] theorem tsize_11 : tsize Tryz.prog 11 = some 1 := by kernel_rfl
@[simp] theorem tzero_11 : tzero Tryz.prog 11 = some (.string ByteArray.empty) := by kernel_rfl
@[simp] theorem tkd_12 : tkd Tryz.prog 12 = 2 := by kernel_rfl
@[simp] theorem tun_12 : (Tryz.prog.underlying 12).isSome = true := by kernel_rfl
@[simp] theorem tagg_12 : tagg Tryz.prog 12 = some false := by kernel_rfl
@[simp] theorem tsize_12 : tsize Tryz.prog 12 = some 1 := by kernel_rfl
@[simp] theorem tzero_12 : tzero Tryz.prog 12 = some (.int .u64 0) := by kernel_rfl
@[simp] theorem tint_12 : tint Tryz.prog 12 = some .u64 := by kernel_rfl
@[simp] theorem tkd_13 : tkd Tryz.prog 13 = 9 := by kernel_rfl
@[simp] theorem tun_13 : (Tryz.prog.underlying 13).isSome = true := by kernel_rfl
@[simp] theorem tagg_13 : tagg Tryz.prog 13 = some true := by kernel_rfl
@[simp] theorem tsize_13 : tsize Tryz.prog 13 = some 2 := by kernel_rfl
@[simp] theorem tzero_13 : tzero Tryz.prog 13 = some (.agg #[.string ByteArray.empty, .int .u64 0]) := by kernel_rfl
@[simp] theorem tsizes_13 : tsizes Tryz.prog 13 = true := by kernel_rfl
@[simp] theorem tfield_13_0 : tfield Tryz.prog 13 0 = some (0, 9) := by kernel_rfl
@[simp] theorem tplace_13_0 : aplace Tryz.prog 13 0 = some (0, 1) := by kernel_rfl
@[simp] theorem tfield_13_1 : tfield Tryz.prog 13 1 = some (1, 12) := by kernel_rfl
@[simp] theorem tplace_13_1 : aplace Tryz.prog 13 1 = some (1, 1) := by kernel_rfl
@[simp] theorem tkd_14 : tkd Tryz.prog 14 = 9 := by kernel_rfl
@[simp] theorem tun_14 : (Tryz.prog.underlying 14).isSome = true := by kernel_rfl
@[simp] theorem tagg_14 : tagg Tryz.prog 14 = some true := by kernel_rfl
@[simp] theorem tsize_14 : tsize Tryz.prog 14 = some 2 := by kernel_rfl
@[simp] theorem tzero_14 : tzero Tryz.prog 14 = some (.agg #[.string ByteArray.empty, .int .u64 0]) := by kernel_rfl
@[simp] theorem tsizes_14 : tsizes Tryz.prog 14 = true := by kernel_rfl
@[simp] theorem tfield_14_0 : tfield Tryz.prog 14 0 = some (0, 9) := by kernel_rfl
@[simp] theorem tplace_14_0 : aplace Tryz.prog 14 0 = some (0, 1) := by kernel_rfl
@[simp] theorem tfield_14_1 : tfield Tryz.prog 14 1 = some (1, 12) := by kernel_rfl
@[simp] theorem tplace_14_1 : aplace Tryz.prog 14 1 = some (1, 1) := by kernel_rfl
@[simp] theorem tkd_15 : tkd Tryz.prog 15 = 4 := by kernel_rfl
@[simp] theorem tun_15 : (Tryz.prog.underlying 15).isSome = true := by kernel_rfl
@[simp] theorem tagg_15 : tagg Tryz.prog 15 = some false := by kernel_rfl
@[simp] theorem tsize_15 : tsize Tryz.prog 15 = some 1 := by kernel_rfl
@[simp] theorem tzero_15 : tzero Tryz.prog 15 = some (.pointer none) := by kernel_rfl
@[simp] theorem tkd_16 : tkd Tryz.prog 16 = 4 := by kernel_rfl
@[simp] theorem tun_16 : (Tryz.prog.underlying 16).isSome = true := by kernel_rfl
@[simp] theorem tagg_16 : tagg Tryz.prog 16 = some false := by kernel_rfl
@[simp] theorem tsize_16 : tsize Tryz.prog 16 = some 1 := by kernel_rfl
@[simp] theorem tzero_16 : tzero Tryz.prog 16 = some (.pointer none) := by kernel_rfl
@[simp] theorem tkd_17 : tkd Tryz.prog 17 = 4 := by kernel_rfl
@[simp] theorem tun_17 : (Tryz.prog.underlying 17).isSome = true := by kernel_rfl
@[simp] theorem tagg_17 : tagg Tryz.prog 17 = some false := by kernel_rfl
@[simp] theorem tsize_17 : tsize Tryz.prog 17 = some 1 := by kernel_rfl
@[simp] theorem tzero_17 : tzero Tryz.prog 17 = some (.pointer none) := by kernel_rfl
@[simp] theorem tkd_18 : tkd Tryz.prog 18 = 9 := by kernel_rfl
@[simp] theorem tun_18 : (Tryz.prog.underlying 18).isSome = true := by kernel_rfl
@[simp] theorem tagg_18 : tagg Tryz.prog 18 = some true := by kernel_rfl
@[simp] theorem tsize_18 : tsize Tryz.prog 18 = some 1 := by kernel_rfl
@[simp] theorem tzero_18 : tzero Tryz.prog 18 = some (.agg #[.pointer none]) := by kernel_rfl
@[simp] theorem tsizes_18 : tsizes Tryz.prog 18 = true := by kernel_rfl
@[simp] theorem tfield_18_0 : tfield Tryz.prog 18 0 = some (0, 17) := by kernel_rfl
@[simp] theorem tplace_18_0 : aplace Tryz.prog 18 0 = some (0, 1) := by kernel_rfl
@[simp] theorem tkd_19 : tkd Tryz.prog 19 = 9 := by kernel_rfl
@[simp] theorem tun_19 : (Tryz.prog.underlying 19).isSome = true := by kernel_rfl
@[simp] theorem tagg_19 : tagg Tryz.prog 19 = some true := by kernel_rfl
@[simp] theorem tsize_19 : tsize Tryz.prog 19 = some 1 := by kernel_rfl
@[simp] theorem tzero_19 : tzero Tryz.prog 19 = some (.agg #[.pointer none]) := by kernel_rfl
@[simp] theorem tsizes_19 : tsizes Tryz.prog 19 = true := by kernel_rfl
@[simp] theorem tfield_19_0 : tfield Tryz.prog 19 0 = some (0, 17) := by kernel_rfl
@[simp] theorem tplace_19_0 : aplace Tryz.prog 19 0 = some (0, 1) := by kernel_rfl
@[simp] theorem tkd_20 : tkd Tryz.prog 20 = 8 := by kernel_rfl
@[simp] theorem tun_20 : (Tryz.prog.underlying 20).isSome = true := by kernel_rfl
@[simp] theorem tagg_20 : tagg Tryz.prog 20 = some false := by kernel_rfl
@[simp] theorem tsize_20 : tsize Tryz.prog 20 = some 1 := by kernel_rfl
@[simp] theorem tzero_20 : tzero Tryz.prog 20 = some (.nilIface) := by kernel_rfl
@[simp] theorem tkd_21 : tkd Tryz.prog 21 = 2 := by kernel_rfl
@[simp] theorem tun_21 : (Tryz.prog.underlying 21).isSome = true := by kernel_rfl
@[simp] theorem tagg_21 : tagg Tryz.prog 21 = some false := by kernel_rfl
@[simp] theorem tsize_21 : tsize Tryz.prog 21 = some 1 := by kernel_rfl
@[simp] theorem tzero_21 : tzero Tryz.prog 21 = some (.int .i32 0) := by kernel_rfl
@[simp] theorem tint_21 : tint Tryz.prog 21 = some .i32 := by kernel_rfl
@[simp] theorem tkd_23 : tkd Tryz.prog 23 = 2 := by kernel_rfl
@[simp] theorem tun_23 : (Tryz.prog.underlying 23).isSome = true := by kernel_rfl
@[simp] theorem tagg_23 : tagg Tryz.prog 23 = some false := by kernel_rfl
@[simp] theorem tsize_23 : tsize Tryz.prog 23 = some 1 := by kernel_rfl
@[simp] theorem tzero_23 : tzero Tryz.prog 23 = some (.int .u64 0) := by kernel_rfl
@[simp] theorem tint_23 : tint Tryz.prog 23 = some .u64 := by kernel_rfl
@[simp] theorem tkd_24 : tkd Tryz.prog 24 = 9 := by kernel_rfl
@[simp] theorem tun_24 : (Tryz.prog.underlying 24).isSome = true := by kernel_rfl
@[simp] theorem tagg_24 : tagg Tryz.prog 24 = some true := by kernel_rfl
@[simp] theorem tsize_24 : tsize Tryz.prog 24 = some 2 := by kernel_rfl
@[simp] theorem tzero_24 : tzero Tryz.prog 24 = some (.agg #[.int .u64 0, .bool false]) := by kernel_rfl
@[simp] theorem tsizes_24 : tsizes Tryz.prog 24 = true := by kernel_rfl
@[simp] theorem tfield_24_0 : tfield Tryz.prog 24 0 = some (0, 23) := by kernel_rfl
@[simp] theorem tplace_24_0 : aplace Tryz.prog 24 0 = some (0, 1) := by kernel_rfl
@[simp] theorem tfield_24_1 : tfield Tryz.prog 24 1 = some (1, 4) := by kernel_rfl
@[simp] theorem tplace_24_1 : aplace Tryz.prog 24 1 = some (1, 1) := by kernel_rfl
@[simp] theorem tkd_25 : tkd Tryz.prog 25 = 9 := by kernel_rfl
@[simp] theorem tun_25 : (Tryz.prog.underlying 25).isSome = true := by kernel_rfl
@[simp] theorem tagg_25 : tagg Tryz.prog 25 = some true := by kernel_rfl
@[simp] theorem tsize_25 : tsize Tryz.prog 25 = some 2 := by kernel_rfl
@[simp] theorem tzero_25 : tzero Tryz.prog 25 = some (.agg #[.int .u64 0, .bool false]) := by kernel_rfl
@[simp] theorem tsizes_25 : tsizes Tryz.prog 25 = true := by kernel_rfl
@[simp] theorem tfield_25_0 : tfield Tryz.prog 25 0 = some (0, 23) := by kernel_rfl
@[simp] theorem tplace_25_0 : aplace Tryz.prog 25 0 = some (0, 1) := by kernel_rfl
@[simp] theorem tfield_25_1 : tfield Tryz.prog 25 1 = some (1, 4) := by kernel_rfl
@[simp] theorem tplace_25_1 : aplace Tryz.prog 25 1 = some (1, 1) := by kernel_rfl
@[simp] theorem tkd_26 : tkd Tryz.prog 26 = 2 := by kernel_rfl
@[simp] theorem tun_26 : (Tryz.prog.underlying 26).isSome = true := by kernel_rfl
@[simp] theorem tagg_26 : tagg Tryz.prog 26 = some false := by kernel_rfl
@[simp] theorem tsize_26 : tsize Tryz.prog 26 = some 1 := by kernel_rfl
@[simp] theorem tzero_26 : tzero Tryz.prog 26 = some (.int .i64 0) := by kernel_rfl
@[simp] theorem tint_26 : tint Tryz.prog 26 = some .i64 := by kernel_rfl
@[simp] theorem tkd_36 : tkd Tryz.prog 36 = 10 := by kernel_rfl
@[simp] theorem tun_36 : (Tryz.prog.underlying 36).isSome = true := by kernel_rfl
@[simp] theorem tagg_36 : tagg Tryz.prog 36 = some true := by kernel_rfl
@[simp] theorem tsize_36 : tsize Tryz.prog 36 = some 10 := by kernel_rfl
@[simp] theorem tzero_36 : tzero Tryz.prog 36 = some (.agg #[.int .u64 0, .bool false, .int .u64 0, .bool false, .int .u64 0, .bool false, .int .u64 0, .bool false, .int .u64 0, .bool false]) := by kernel_rfl
@[simp] theorem tarr_36 : tarr Tryz.prog 36 = some (5, 25) := by kernel_rfl
@[simp] theorem tsizes_36 : tsizes Tryz.prog 36 = true := by kernel_rfl
@[simp] theorem tplace_36_0 : aplace Tryz.prog 36 0 = some (0, 2) := by kernel_rfl
@[simp] theorem tplace_36_1 : aplace Tryz.prog 36 1 = some (2, 2) := by kernel_rfl
@[simp] theorem tplace_36_2 : aplace Tryz.prog 36 2 = some (4, 2) := by kernel_rfl
@[simp] theorem tplace_36_3 : aplace Tryz.prog 36 3 = some (6, 2) := by kernel_rfl
@[simp] theorem tplace_36_4 : aplace Tryz.prog 36 4 = some (8, 2) := by kernel_rfl
@[simp] theorem tkd_37 : tkd Tryz.prog 37 = 10 := by kernel_rfl
@[simp] theorem tun_37 : (Tryz.prog.underlying 37).isSome = true := by kernel_rfl
@[simp] theorem tagg_37 : tagg Tryz.prog 37 = some true := by kernel_rfl
@[simp] theorem tsize_37 : tsize Tryz.prog 37 = some 10 := by kernel_rfl
@[simp] theorem tzero_37 : tzero Tryz.prog 37 = some (.agg #[.int .u64 0, .bool false, .int .u64 0, .bool false, .int .u64 0, .bool false, .int .u64 0, .bool false, .int .u64 0, .bool false]) := by kernel_rfl
@[simp] theorem tarr_37 : tarr Tryz.prog 37 = some (5, 25) := by kernel_rfl
@[simp] theorem tsizes_37 : tsizes Tryz.prog 37 = true := by kernel_rfl
@[simp] theorem tplace_37_0 : aplace Tryz.prog 37 0 = some (0, 2) := by kernel_rfl
@[simp] theorem tplace_37_1 : aplace Tryz.prog 37 1 = some (2, 2) := by kernel_rfl
@[simp] theorem tplace_37_2 : aplace Tryz.prog 37 2 = some (4, 2) := by kernel_rfl
@[simp] theorem tplace_37_3 : aplace Tryz.prog 37 3 = some (6, 2) := by kernel_rfl
@[simp] theorem tplace_37_4 : aplace Tryz.prog 37 4 = some (8, 2) := by kernel_rfl
@[simp] theorem tkd_41 : tkd Tryz.prog 41 = 9 := by kernel_rfl
@[simp] theorem tun_41 : (Tryz.prog.underlying 41).isSome = true := by kernel_rfl
@[simp] theorem tagg_41 : tagg Tryz.prog 41 = some true := by kernel_rfl
@[simp] theorem tsize_41 : tsize Tryz.prog 41 = some 3 := by kernel_rfl
@[simp] theorem tzero_41 : tzero Tryz.prog 41 = some (.agg #[.int .i64 0, .int .i64 0, .int .i64 0]) := by kernel_rfl
@[simp] theorem tsizes_41 : tsizes Tryz.prog 41 = true := by kernel_rfl
@[simp] theorem tfield_41_0 : tfield Tryz.prog 41 0 = some (0, 3) := by kernel_rfl
@[simp] theorem tplace_41_0 : aplace Tryz.prog 41 0 = some (0, 1) := by kernel_rfl
@[simp] theorem tfield_41_1 : tfield Tryz.prog 41 1 = some (1, 3) := by kernel_rfl
@[simp] theorem tplace_41_1 : aplace Tryz.prog 41 1 = some (1, 1) := by kernel_rfl
@[simp] theorem tfield_41_2 : tfield Tryz.prog 41 2 = some (2, 3) := by kernel_rfl
@[simp] theorem tplace_41_2 : aplace Tryz.prog 41 2 = some (2, 1) := by kernel_rfl
@[simp] theorem tkd_42 : tkd Tryz.prog 42 = 9 := by kernel_rfl
@[simp] theorem tun_42 : (Tryz.prog.underlying 42).isSome = true := by kernel_rfl
@[simp] theorem tagg_42 : tagg Tryz.prog 42 = some true := by kernel_rfl
@[simp] theorem tsize_42 : tsize Tryz.prog 42 = some 3 := by kernel_rfl
@[simp] theorem tzero_42 : tzero Tryz.prog 42 = some (.agg #[.int .i64 0, .int .i64 0, .int .i64 0]) := by kernel_rfl
@[simp] theorem tsizes_42 : tsizes Tryz.prog 42 = true := by kernel_rfl
@[simp] theorem tfield_42_0 : tfield Tryz.prog 42 0 = some (0, 3) := by kernel_rfl
@[simp] theorem tplace_42_0 : aplace Tryz.prog 42 0 = some (0, 1) := by kernel_rfl
@[simp] theorem tfield_42_1 : tfield Tryz.prog 42 1 = some (1, 3) := by kernel_rfl
@[simp] theorem tplace_42_1 : aplace Tryz.prog 42 1 = some (1, 1) := by kernel_rfl
@[simp] theorem tfield_42_2 : tfield Tryz.prog 42 2 = some (2, 3) := by kernel_rfl
@[simp] theorem tplace_42_2 : aplace Tryz.prog 42 2 = some (2, 1) := by kernel_rfl
@[simp] theorem tkd_43 : tkd Tryz.prog 43 = 9 := by kernel_rfl
@[simp] theorem tun_43 : (Tryz.prog.underlying 43).isSome = true := by kernel_rfl
@[simp] theorem tagg_43 : tagg Tryz.prog 43 = some true := by kernel_rfl
@[simp] theorem tsize_43 : tsize Tryz.prog 43 = some 7 := by kernel_rfl
@[simp] theorem tzero_43 : tzero Tryz.prog 43 = some (.agg #[.int .i64 0, .int .i64 0, .int .i64 0, .int .i64 0, .int .i64 0, .int .i64 0, .int .i64 0]) := by kernel_rfl
@[simp] theorem tsizes_43 : tsizes Tryz.prog 43 = true := by kernel_rfl
@[simp] theorem tfield_43_0 : tfield Tryz.prog 43 0 = some (0, 42) := by kernel_rfl
@[simp] theorem tplace_43_0 : aplace Tryz.prog 43 0 = some (0, 3) := by kernel_rfl
@[simp] theorem tfield_43_1 : tfield Tryz.prog 43 1 = some (3, 3) := by kernel_rfl
@[simp] theorem tplace_43_1 : aplace Tryz.prog 43 1 = some (3, 1) := by kernel_rfl
@[simp] theorem tfield_43_2 : tfield Tryz.prog 43 2 = some (4, 3) := by kernel_rfl
@[simp] theorem tplace_43_2 : aplace Tryz.prog 43 2 = some (4, 1) := by kernel_rfl
@[simp] theorem tfield_43_3 : tfield Tryz.prog 43 3 = some (5, 3) := by kernel_rfl
@[simp] theorem tplace_43_3 : aplace Tryz.prog 43 3 = some (5, 1) := by kernel_rfl
@[simp] theorem tfield_43_4 : tfield Tryz.prog 43 4 = some (6, 3) := by kernel_rfl
@[simp] theorem tplace_43_4 : aplace Tryz.prog 43 4 = some (6, 1) := by kernel_rfl
@[simp] theorem tkd_44 : tkd Tryz.prog 44 = 9 := by kernel_rfl
@[simp] theorem tun_44 : (Tryz.prog.underlying 44).isSome = true := by kernel_rfl
@[simp] theorem tagg_44 : tagg Tryz.prog 44 = some true := by kernel_rfl
@[simp] theorem tsize_44 : tsize Tryz.prog 44 = some 7 := by kernel_rfl
@[simp] theorem tzero_44 : tzero Tryz.prog 44 = some (.agg #[.int .i64 0, .int .i64 0, .int .i64 0, .int .i64 0, .int .i64 0, .int .i64 0, .int .i64 0]) := by kernel_rfl
@[simp] theorem tsizes_44 : tsizes Tryz.prog 44 = true := by kernel_rfl
@[simp] theorem tfield_44_0 : tfield Tryz.prog 44 0 = some (0, 42) := by kernel_rfl
@[simp] theorem tplace_44_0 : aplace Tryz.prog 44 0 = some (0, 3) := by kernel_rfl
@[simp] theorem tfield_44_1 : tfield Tryz.prog 44 1 = some (3, 3) := by kernel_rfl
@[simp] theorem tplace_44_1 : aplace Tryz.prog 44 1 = some (3, 1) := by kernel_rfl
@[simp] theorem tfield_44_2 : tfield Tryz.prog 44 2 = some (4, 3) := by kernel_rfl
@[simp] theorem tplace_44_2 : aplace Tryz.prog 44 2 = some (4, 1) := by kernel_rfl
@[simp] theorem tfield_44_3 : tfield Tryz.prog 44 3 = some (5, 3) := by kernel_rfl
@[simp] theorem tplace_44_3 : aplace Tryz.prog 44 3 = some (5, 1) := by kernel_rfl
@[simp] theorem tfield_44_4 : tfield Tryz.prog 44 4 = some (6, 3) := by kernel_rfl
@[simp] theorem tplace_44_4 : aplace Tryz.prog 44 4 = some (6, 1) := by kernel_rfl
@[simp] theorem tkd_51 : tkd Tryz.prog 51 = 5 := by kernel_rfl
@[simp] theorem tun_51 : (Tryz.prog.underlying 51).isSome = true := by kernel_rfl
@[simp] theorem tagg_51 : tagg Tryz.prog 51 = some false := by kernel_rfl
@[simp] theorem tsize_51 : tsize Tryz.prog 51 = some 1 := by kernel_rfl
@[simp] theorem tzero_51 : tzero Tryz.prog 51 = some (.slice none 0 0) := by kernel_rfl
@[simp] theorem telem_51 : telem Tryz.prog 51 = some 23 := by kernel_rfl
theorem el_51 : ElemOk Tryz.prog 51 23 1 8 := ⟨by kernel_rfl, by kernel_rfl, by kernel_rfl, ⟨.int .u64 0, by kernel_rfl, by kernel_rfl⟩, by decide⟩
@[simp] theorem tkd_52 : tkd Tryz.prog 52 = 9 := by kernel_rfl
@[simp] theorem tun_52 : (Tryz.prog.underlying 52).isSome = true := by kernel_rfl
@[simp] theorem tagg_52 : tagg Tryz.prog 52 = some true := by kernel_rfl
@[simp] theorem tsize_52 : tsize Tryz.prog 52 = some 12 := by kernel_rfl
@[simp] theorem tzero_52 : tzero Tryz.prog 52 = some (.agg #[.int .u64 0, .string ByteArray.empty, .string ByteArray.empty, .int .i64 0, .int .i64 0, .int .i64 0, .int .i64 0, .int .i64 0, .slice none 0 0, .bool false, .int .u64 0, .int .i64 0]) := by kernel_rfl
@[simp] theorem tsizes_52 : tsizes Tryz.prog 52 = true := by kernel_rfl
@[simp] theorem tfield_52_0 : tfield Tryz.prog 52 0 = some (0, 23) := by kernel_rfl
@[simp] theorem tplace_52_0 : aplace Tryz.prog 52 0 = some (0, 1) := by kernel_rfl
@[simp] theorem tfield_52_1 : tfield Tryz.prog 52 1 = some (1, 9) := by kernel_rfl
@[simp] theorem tplace_52_1 : aplace Tryz.prog 52 1 = some (1, 1) := by kernel_rfl
@[simp] theorem tfield_52_2 : tfield Tryz.prog 52 2 = some (2, 9) := by kernel_rfl
@[simp] theorem tplace_52_2 : aplace Tryz.prog 52 2 = some (2, 1) := by kernel_rfl
@[simp] theorem tfield_52_3 : tfield Tryz.prog 52 3 = some (3, 3) := by kernel_rfl
@[simp] theorem tplace_52_3 : aplace Tryz.prog 52 3 = some (3, 1) := by kernel_rfl
@[simp] theorem tfield_52_4 : tfield Tryz.prog 52 4 = some (4, 2) := by kernel_rfl
@[simp] theorem tplace_52_4 : aplace Tryz.prog 52 4 = some (4, 1) := by kernel_rfl
@[simp] theorem tfield_52_5 : tfield Tryz.prog 52 5 = some (5, 3) := by kernel_rfl
@[simp] theorem tplace_52_5 : aplace Tryz.prog 52 5 = some (5, 1) := by kernel_rfl
@[simp] theorem tfield_52_6 : tfield Tryz.prog 52 6 = some (6, 3) := by kernel_rfl
@[simp] theorem tplace_52_6 : aplace Tryz.prog 52 6 = some (6, 1) := by kernel_rfl
@[simp] theorem tfield_52_7 : tfield Tryz.prog 52 7 = some (7, 2) := by kernel_rfl
@[simp] theorem tplace_52_7 : aplace Tryz.prog 52 7 = some (7, 1) := by kernel_rfl
@[simp] theorem tfield_52_8 : tfield Tryz.prog 52 8 = some (8, 51) := by kernel_rfl
@[simp] theorem tplace_52_8 : aplace Tryz.prog 52 8 = some (8, 1) := by kernel_rfl
@[simp] theorem tfield_52_9 : tfield Tryz.prog 52 9 = some (9, 4) := by kernel_rfl
@[simp] theorem tplace_52_9 : aplace Tryz.prog 52 9 = some (9, 1) := by kernel_rfl
@[simp] theorem tfield_52_10 : tfield Tryz.prog 52 10 = some (10, 23) := by kernel_rfl
@[simp] theorem tplace_52_10 : aplace Tryz.prog 52 10 = some (10, 1) := by kernel_rfl
@[simp] theorem tfield_52_11 : tfield Tryz.prog 52 11 = some (11, 2) := by kernel_rfl
@[simp] theorem tplace_52_11 : aplace Tryz.prog 52 11 = some (11, 1) := by kernel_rfl
@[simp] theorem tkd_53 : tkd Tryz.prog 53 = 9 := by kernel_rfl
@[simp] theorem tun_53 : (Tryz.prog.underlying 53).isSome = true := by kernel_rfl
@[simp] theorem tagg_53 : tagg Tryz.prog 53 = some true := by kernel_rfl
@[simp] theorem tsize_53 : tsize Tryz.prog 53 = some 12 := by kernel_rfl
@[simp] theorem tzero_53 : tzero Tryz.prog 53 = some (.agg #[.int .u64 0, .string ByteArray.empty, .string ByteArray.empty, .int .i64 0, .int .i64 0, .int .i64 0, .int .i64 0, .int .i64 0, .slice none 0 0, .bool false, .int .u64 0, .int .i64 0]) := by kernel_rfl
@[simp] theorem tsizes_53 : tsizes Tryz.prog 53 = true := by kernel_rfl
@[simp] theorem tfield_53_0 : tfield Tryz.prog 53 0 = some (0, 23) := by kernel_rfl
@[simp] theorem tplace_53_0 : aplace Tryz.prog 53 0 = some (0, 1) := by kernel_rfl
@[simp] theorem tfield_53_1 : tfield Tryz.prog 53 1 = some (1, 9) := by kernel_rfl
@[simp] theorem tplace_53_1 : aplace Tryz.prog 53 1 = some (1, 1) := by kernel_rfl
@[simp] theorem tfield_53_2 : tfield Tryz.prog 53 2 = some (2, 9) := by kernel_rfl
@[simp] theorem tplace_53_2 : aplace Tryz.prog 53 2 = some (2, 1) := by kernel_rfl
@[simp] theorem tfield_53_3 : tfield Tryz.prog 53 3 = some (3, 3) := by kernel_rfl
@[simp] theorem tplace_53_3 : aplace Tryz.prog 53 3 = some (3, 1) := by kernel_rfl
@[simp] theorem tfield_53_4 : tfield Tryz.prog 53 4 = some (4, 2) := by kernel_rfl
@[simp] theorem tplace_53_4 : aplace Tryz.prog 53 4 = some (4, 1) := by kernel_rfl
@[simp] theorem tfield_53_5 : tfield Tryz.prog 53 5 = some (5, 3) := by kernel_rfl
@[simp] theorem tplace_53_5 : aplace Tryz.prog 53 5 = some (5, 1) := by kernel_rfl
@[simp] theorem tfield_53_6 : tfield Tryz.prog 53 6 = some (6, 3) := by kernel_rfl
@[simp] theorem tplace_53_6 : aplace Tryz.prog 53 6 = some (6, 1) := by kernel_rfl
@[simp] theorem tfield_53_7 : tfield Tryz.prog 53 7 = some (7, 2) := by kernel_rfl
@[simp] theorem tplace_53_7 : aplace Tryz.prog 53 7 = some (7, 1) := by kernel_rfl
@[simp] theorem tfield_53_8 : tfield Tryz.prog 53 8 = some (8, 51) := by kernel_rfl
@[simp] theorem tplace_53_8 : aplace Tryz.prog 53 8 = some (8, 1) := by kernel_rfl
@[simp] theorem tfield_53_9 : tfield Tryz.prog 53 9 = some (9, 4) := by kernel_rfl
@[simp] theorem tplace_53_9 : aplace Tryz.prog 53 9 = some (9, 1) := by kernel_rfl
@[simp] theorem tfield_53_10 : tfield Tryz.prog 53 10 = some (10, 23) := by kernel_rfl
@[simp] theorem tplace_53_10 : aplace Tryz.prog 53 10 = some (10, 1) := by kernel_rfl
@[simp] theorem tfield_53_11 : tfield Tryz.prog 53 11 = some (11, 2) := by kernel_rfl
@[simp] theorem tplace_53_11 : aplace Tryz.prog 53 11 = some (11, 1) := by kernel_rfl
@[simp] theorem tkd_56 : tkd Tryz.prog 56 = 5 := by kernel_rfl
@[simp] theorem tun_56 : (Tryz.prog.underlying 56).isSome = true := by kernel_rfl
@[simp] theorem tagg_56 : tagg Tryz.prog 56 = some false := by kernel_rfl
@[simp] theorem tsize_56 : tsize Tryz.prog 56 = some 1 := by kernel_rfl
@[simp] theorem tzero_56 : tzero Tryz.prog 56 = some (.slice none 0 0) := by kernel_rfl
@[simp] theorem telem_56 : telem Tryz.prog 56 = some 2 := by kernel_rfl
theorem el_56 : ElemOk Tryz.prog 56 2 1 8 := ⟨by kernel_rfl, by kernel_rfl, by kernel_rfl, ⟨.int .i64 0, by kernel_rfl, by kernel_rfl⟩, by decide⟩
@[simp] theorem tkd_59 : tkd Tryz.prog 59 = 5 := by kernel_rfl
@[simp] theorem tun_59 : (Tryz.prog.underlying 59).isSome = true := by kernel_rfl
@[simp] theorem tagg_59 : tagg Tryz.prog 59 = some false := by kernel_rfl
@[simp] theorem tsize_59 : tsize Tryz.prog 59 = some 1 := by kernel_rfl
@[simp] theorem tzero_59 : tzero Tryz.prog 59 = some (.slice none 0 0) := by kernel_rfl
@[simp] theorem telem_59 : telem Tryz.prog 59 = some 5 := by kernel_rfl
theorem el_59 : ElemOk Tryz.prog 59 5 1 1 := ⟨by kernel_rfl, by kernel_rfl, by kernel_rfl, ⟨.int .u8 0, by kernel_rfl, by kernel_rfl⟩, by decide⟩
@[simp] theorem tkd_69 : tkd Tryz.prog 69 = 5 := by kernel_rfl
@[simp] theorem tun_69 : (Tryz.prog.underlying 69).isSome = true := by kernel_rfl
@[simp] theorem tagg_69 : tagg Tryz.prog 69 = some false := by kernel_rfl
@[simp] theorem tsize_69 : tsize Tryz.prog 69 = some 1 := by kernel_rfl
@[simp] theorem tzero_69 : tzero Tryz.prog 69 = some (.slice none 0 0) := by kernel_rfl
@[simp] theorem telem_69 : telem Tryz.prog 69 = some 9 := by kernel_rfl
theorem el_69 : ElemOk Tryz.prog 69 9 1 16 := ⟨by kernel_rfl, by kernel_rfl, by kernel_rfl, ⟨.string ByteArray.empty, by kernel_rfl, by kernel_rfl⟩, by decide⟩
@[simp] theorem tkd_74 : tkd Tryz.prog 74 = 5 := by kernel_rfl
@[simp] theorem tun_74 : (Tryz.prog.underlying 74).isSome = true := by kernel_rfl
@[simp] theorem tagg_74 : tagg Tryz.prog 74 = some false := by kernel_rfl
@[simp] theorem tsize_74 : tsize Tryz.prog 74 = some 1 := by kernel_rfl
@[simp] theorem tzero_74 : tzero Tryz.prog 74 = some (.slice none 0 0) := by kernel_rfl
@[simp] theorem telem_74 : telem Tryz.prog 74 = some 3 := by kernel_rfl
theorem el_74 : ElemOk Tryz.prog 74 3 1 8 := ⟨by kernel_rfl, by kernel_rfl, by kernel_rfl, ⟨.int .i64 0, by kernel_rfl, by kernel_rfl⟩, by decide⟩
@[simp] theorem tkd_77 : tkd Tryz.prog 77 = 2 := by kernel_rfl
@[simp] theorem tun_77 : (Tryz.prog.underlying 77).isSome = true := by kernel_rfl
@[simp] theorem tagg_77 : tagg Tryz.prog 77 = some false := by kernel_rfl
@[simp] theorem tsize_77 : tsize Tryz.prog 77 = some 1 := by kernel_rfl
@[simp] theorem tzero_77 : tzero Tryz.prog 77 = some (.int .u64 0) := by kernel_rfl
@[simp] theorem tint_77 : tint Tryz.prog 77 = some .u64 := by kernel_rfl
@[simp] theorem tkd_118 : tkd Tryz.prog 118 = 10 := by kernel_rfl
@[simp] theorem tun_118 : (Tryz.prog.underlying 118).isSome = true := by kernel_rfl
@[simp] theorem tagg_118 : tagg Tryz.prog 118 = some true := by kernel_rfl
@[simp] theorem tsize_118 : tsize Tryz.prog 118 = some 64 := by kernel_rfl
@[simp] theorem tzero_118 : tzero Tryz.prog 118 = some (.agg #[.int .u8 0, .int .u8 0, .int .u8 0, .int .u8 0, .int .u8 0, .int .u8 0, .int .u8 0, .int .u8 0, .int .u8 0, .int .u8 0, .int .u8 0, .int .u8 0, .int .u8 0, .int .u8 0, .int .u8 0, .int .u8 0, .int .u8 0, .int .u8 0, .int .u8 0, .int .u8 0, .int .u8 0, .int .u8 0, .int .u8 0, .int .u8 0, .int .u8 0, .int .u8 0, .int .u8 0, .int .u8 0, .int .u8 0, .int .u8 0, .int .u8 0, .int .u8 0, .int .u8 0, .int .u8 0, .int .u8 0, .int .u8 0, .int .u8 0, .int .u8 0, .int .u8 0, .int .u8 0, .int .u8 0, .int .u8 0, .int .u8 0, .int .u8 0, .int .u8 0, .int .u8 0, .int .u8 0, .int .u8 0, .int .u8 0, .int .u8 0, .int .u8 0, .int .u8 0, .int .u8 0, .int .u8 0, .int .u8 0, .int .u8 0, .int .u8 0, .int .u8 0, .int .u8 0, .int .u8 0, .int .u8 0, .int .u8 0, .int .u8 0, .int .u8 0]) := by kernel_rfl
@[simp] theorem tarr_118 : tarr Tryz.prog 118 = some (64, 5) := by kernel_rfl
@[simp] theorem tsizes_118 : tsizes Tryz.prog 118 = true := by kernel_rfl
@[simp] theorem tplace_118_0 : aplace Tryz.prog 118 0 = some (0, 1) := by kernel_rfl
@[simp] theorem tplace_118_1 : aplace Tryz.prog 118 1 = some (1, 1) := by kernel_rfl
@[simp] theorem tplace_118_2 : aplace Tryz.prog 118 2 = some (2, 1) := by kernel_rfl
@[simp] theorem tplace_118_3 : aplace Tryz.prog 118 3 = some (3, 1) := by kernel_rfl
@[simp] theorem tplace_118_4 : aplace Tryz.prog 118 4 = some (4, 1) := by kernel_rfl
@[simp] theorem tplace_118_5 : aplace Tryz.prog 118 5 = some (5, 1) := by kernel_rfl
@[simp] theorem tplace_118_6 : aplace Tryz.prog 118 6 = some (6, 1) := by kernel_rfl
@[simp] theorem tplace_118_7 : aplace Tryz.prog 118 7 = some (7, 1) := by kernel_rfl
@[simp] theorem tplace_118_8 : aplace Tryz.prog 118 8 = some (8, 1) := by kernel_rfl
@[simp] theorem tplace_118_9 : aplace Tryz.prog 118 9 = some (9, 1) := by kernel_rfl
@[simp] theorem tplace_118_10 : aplace Tryz.prog 118 10 = some (10, 1) := by kernel_rfl
@[simp] theorem tplace_118_11 : aplace Tryz.prog 118 11 = some (11, 1) := by kernel_rfl
@[simp] theorem tplace_118_12 : aplace Tryz.prog 118 12 = some (12, 1) := by kernel_rfl
@[simp] theorem tplace_118_13 : aplace Tryz.prog 118 13 = some (13, 1) := by kernel_rfl
@[simp] theorem tplace_118_14 : aplace Tryz.prog 118 14 = some (14, 1) := by kernel_rfl
@[simp] theorem tplace_118_15 : aplace Tryz.prog 118 15 = some (15, 1) := by kernel_rfl
@[simp] theorem tkd_119 : tkd Tryz.prog 119 = 10 := by kernel_rfl
@[simp] theorem tun_119 : (Tryz.prog.underlying 119).isSome = true := by kernel_rfl
@[simp] theorem tagg_119 : tagg Tryz.prog 119 = some true := by kernel_rfl
@[simp] theorem tsize_119 : tsize Tryz.prog 119 = some 5 := by kernel_rfl
@[simp] theorem tzero_119 : tzero Tryz.prog 119 = some (.agg #[.int .i64 0, .int .i64 0, .int .i64 0, .int .i64 0, .int .i64 0]) := by kernel_rfl
@[simp] theorem tarr_119 : tarr Tryz.prog 119 = some (5, 3) := by kernel_rfl
@[simp] theorem tsizes_119 : tsizes Tryz.prog 119 = true := by kernel_rfl
@[simp] theorem tplace_119_0 : aplace Tryz.prog 119 0 = some (0, 1) := by kernel_rfl
@[simp] theorem tplace_119_1 : aplace Tryz.prog 119 1 = some (1, 1) := by kernel_rfl
@[simp] theorem tplace_119_2 : aplace Tryz.prog 119 2 = some (2, 1) := by kernel_rfl
@[simp] theorem tplace_119_3 : aplace Tryz.prog 119 3 = some (3, 1) := by kernel_rfl
@[simp] theorem tplace_119_4 : aplace Tryz.prog 119 4 = some (4, 1) := by kernel_rfl
@[simp] theorem tkd_120 : tkd Tryz.prog 120 = 4 := by kernel_rfl
@[simp] theorem tun_120 : (Tryz.prog.underlying 120).isSome = true := by kernel_rfl
@[simp] theorem tagg_120 : tagg Tryz.prog 120 = some false := by kernel_rfl
@[simp] theorem tsize_120 : tsize Tryz.prog 120 = some 1 := by kernel_rfl
@[simp] theorem tzero_120 : tzero Tryz.prog 120 = some (.pointer none) := by kernel_rfl
@[simp] theorem tkd_121 : tkd Tryz.prog 121 = 9 := by kernel_rfl
@[simp] theorem tun_121 : (Tryz.prog.underlying 121).isSome = true := by kernel_rfl
@[simp] theorem tagg_121 : tagg Tryz.prog 121 = some true := by kernel_rfl
@[simp] theorem tsize_121 : tsize Tryz.prog 121 = some 2 := by kernel_rfl
@[simp] theorem tzero_121 : tzero Tryz.prog 121 = some (.agg #[.pointer none, .slice none 0 0]) := by kernel_rfl
@[simp] theorem tsizes_121 : tsizes Tryz.prog 121 = true := by kernel_rfl
@[simp] theorem tfield_121_0 : tfield Tryz.prog 121 0 = some (0, 120) := by kernel_rfl
@[simp] theorem tplace_121_0 : aplace Tryz.prog 121 0 = some (0, 1) := by kernel_rfl
@[simp] theorem tfield_121_1 : tfield Tryz.prog 121 1 = some (1, 59) := by kernel_rfl
@[simp] theorem tplace_121_1 : aplace Tryz.prog 121 1 = some (1, 1) := by kernel_rfl
@[simp] theorem tkd_122 : tkd Tryz.prog 122 = 9 := by kernel_rfl
@[simp] theorem tun_122 : (Tryz.prog.underlying 122).isSome = true := by kernel_rfl
@[simp] theorem tagg_122 : tagg Tryz.prog 122 = some true := by kernel_rfl
@[simp] theorem tsize_122 : tsize Tryz.prog 122 = some 2 := by kernel_rfl
@[simp] theorem tzero_122 : tzero Tryz.prog 122 = some (.agg #[.pointer none, .slice none 0 0]) := by kernel_rfl
@[simp] theorem tsizes_122 : tsizes Tryz.prog 122 = true := by kernel_rfl
@[simp] theorem tfield_122_0 : tfield Tryz.prog 122 0 = some (0, 120) := by kernel_rfl
@[simp] theorem tplace_122_0 : aplace Tryz.prog 122 0 = some (0, 1) := by kernel_rfl
@[simp] theorem tfield_122_1 : tfield Tryz.prog 122 1 = some (1, 59) := by kernel_rfl
@[simp] theorem tplace_122_1 : aplace Tryz.prog 122 1 = some (1, 1) := by kernel_rfl
@[simp] theorem tkd_124 : tkd Tryz.prog 124 = 8 := by kernel_rfl
@[simp] theorem tun_124 : (Tryz.prog.underlying 124).isSome = true := by kernel_rfl
@[simp] theorem tagg_124 : tagg Tryz.prog 124 = some false := by kernel_rfl
@[simp] theorem tsize_124 : tsize Tryz.prog 124 = some 1 := by kernel_rfl
@[simp] theorem tzero_124 : tzero Tryz.prog 124 = some (.nilIface) := by kernel_rfl
@[simp] theorem tkd_125 : tkd Tryz.prog 125 = 8 := by kernel_rfl
@[simp] theorem tun_125 : (Tryz.prog.underlying 125).isSome = true := by kernel_rfl
@[simp] theorem tagg_125 : tagg Tryz.prog 125 = some false := by kernel_rfl
@[simp] theorem tsize_125 : tsize Tryz.prog 125 = some 1 := by kernel_rfl
@[simp] theorem tzero_125 : tzero Tryz.prog 125 = some (.nilIface) := by kernel_rfl
@[simp] theorem tkd_136 : tkd Tryz.prog 136 = 5 := by kernel_rfl
@[simp] theorem tun_136 : (Tryz.prog.underlying 136).isSome = true := by kernel_rfl
@[simp] theorem tagg_136 : tagg Tryz.prog 136 = some false := by kernel_rfl
@[simp] theorem tsize_136 : tsize Tryz.prog 136 = some 1 := by kernel_rfl
@[simp] theorem tzero_136 : tzero Tryz.prog 136 = some (.slice none 0 0) := by kernel_rfl
@[simp] theorem telem_136 : telem Tryz.prog 136 = some 59 := by kernel_rfl
theorem el_136 : ElemOk Tryz.prog 136 59 1 24 := ⟨by kernel_rfl, by kernel_rfl, by kernel_rfl, ⟨.slice none 0 0, by kernel_rfl, by kernel_rfl⟩, by decide⟩
@[simp] theorem tkd_140 : tkd Tryz.prog 140 = 10 := by kernel_rfl
@[simp] theorem tun_140 : (Tryz.prog.underlying 140).isSome = true := by kernel_rfl
@[simp] theorem tagg_140 : tagg Tryz.prog 140 = some true := by kernel_rfl
@[simp] theorem tsize_140 : tsize Tryz.prog 140 = some 3 := by kernel_rfl
@[simp] theorem tzero_140 : tzero Tryz.prog 140 = some (.agg #[.int .i64 0, .int .i64 0, .int .i64 0]) := by kernel_rfl
@[simp] theorem tarr_140 : tarr Tryz.prog 140 = some (3, 3) := by kernel_rfl
@[simp] theorem tsizes_140 : tsizes Tryz.prog 140 = true := by kernel_rfl
@[simp] theorem tplace_140_0 : aplace Tryz.prog 140 0 = some (0, 1) := by kernel_rfl
@[simp] theorem tplace_140_1 : aplace Tryz.prog 140 1 = some (1, 1) := by kernel_rfl
@[simp] theorem tplace_140_2 : aplace Tryz.prog 140 2 = some (2, 1) := by kernel_rfl
@[simp] theorem tkd_141 : tkd Tryz.prog 141 = 10 := by kernel_rfl
@[simp] theorem tun_141 : (Tryz.prog.underlying 141).isSome = true := by kernel_rfl
@[simp] theorem tagg_141 : tagg Tryz.prog 141 = some true := by kernel_rfl
@[simp] theorem tsize_141 : tsize Tryz.prog 141 = some 15 := by kernel_rfl
@[simp] theorem tzero_141 : tzero Tryz.prog 141 = some (.agg #[.int .i64 0, .int .i64 0, .int .i64 0, .int .i64 0, .int .i64 0, .int .i64 0, .int .i64 0, .int .i64 0, .int .i64 0, .int .i64 0, .int .i64 0, .int .i64 0, .int .i64 0, .int .i64 0, .int .i64 0]) := by kernel_rfl
@[simp] theorem tarr_141 : tarr Tryz.prog 141 = some (5, 140) := by kernel_rfl
@[simp] theorem tsizes_141 : tsizes Tryz.prog 141 = true := by kernel_rfl
@[simp] theorem tplace_141_0 : aplace Tryz.prog 141 0 = some (0, 3) := by kernel_rfl
@[simp] theorem tplace_141_1 : aplace Tryz.prog 141 1 = some (3, 3) := by kernel_rfl
@[simp] theorem tplace_141_2 : aplace Tryz.prog 141 2 = some (6, 3) := by kernel_rfl
@[simp] theorem tplace_141_3 : aplace Tryz.prog 141 3 = some (9, 3) := by kernel_rfl
@[simp] theorem tplace_141_4 : aplace Tryz.prog 141 4 = some (12, 3) := by kernel_rfl
@[simp] theorem tkd_143 : tkd Tryz.prog 143 = 10 := by kernel_rfl
@[simp] theorem tun_143 : (Tryz.prog.underlying 143).isSome = true := by kernel_rfl
@[simp] theorem tagg_143 : tagg Tryz.prog 143 = some true := by kernel_rfl
@[simp] theorem tsize_143 : tsize Tryz.prog 143 = some 13 := by kernel_rfl
@[simp] theorem tzero_143 : tzero Tryz.prog 143 = some (.agg #[.string ByteArray.empty, .string ByteArray.empty, .string ByteArray.empty, .string ByteArray.empty, .string ByteArray.empty, .string ByteArray.empty, .string ByteArray.empty, .string ByteArray.empty, .string ByteArray.empty, .string ByteArray.empty, .string ByteArray.empty, .string ByteArray.empty, .string ByteArray.empty]) := by kernel_rfl
@[simp] theorem tarr_143 : tarr Tryz.prog 143 = some (13, 9) := by kernel_rfl
@[simp] theorem tsizes_143 : tsizes Tryz.prog 143 = true := by kernel_rfl
@[simp] theorem tplace_143_0 : aplace Tryz.prog 143 0 = some (0, 1) := by kernel_rfl
@[simp] theorem tplace_143_1 : aplace Tryz.prog 143 1 = some (1, 1) := by kernel_rfl
@[simp] theorem tplace_143_2 : aplace Tryz.prog 143 2 = some (2, 1) := by kernel_rfl
@[simp] theorem tplace_143_3 : aplace Tryz.prog 143 3 = some (3, 1) := by kernel_rfl
@[simp] theorem tplace_143_4 : aplace Tryz.prog 143 4 = some (4, 1) := by kernel_rfl
@[simp] theorem tplace_143_5 : aplace Tryz.prog 143 5 = some (5, 1) := by kernel_rfl
@[simp] theorem tplace_143_6 : aplace Tryz.prog 143 6 = some (6, 1) := by kernel_rfl
@[simp] theorem tplace_143_7 : aplace Tryz.prog 143 7 = some (7, 1) := by kernel_rfl
@[simp] theorem tplace_143_8 : aplace Tryz.prog 143 8 = some (8, 1) := by kernel_rfl
@[simp] theorem tplace_143_9 : aplace Tryz.prog 143 9 = some (9, 1) := by kernel_rfl
@[simp] theorem tplace_143_10 : aplace Tryz.prog 143 10 = some (10, 1) := by kernel_rfl
@[simp] theorem tplace_143_11 : aplace Tryz.prog 143 11 = some (11, 1) := by kernel_rfl
@[simp] theorem tplace_143_12 : aplace Tryz.prog 143 12 = some (12, 1) := by kernel_rfl
@[simp] theorem tkd_144 : tkd Tryz.prog 144 = 10 := by kernel_rfl
@[simp] theorem tun_144 : (Tryz.prog.underlying 144).isSome = true := by kernel_rfl
@[simp] theorem tagg_144 : tagg Tryz.prog 144 = some true := by kernel_rfl
@[simp] theorem tsize_144 : tsize Tryz.prog 144 = some 7 := by kernel_rfl
@[simp] theorem tzero_144 : tzero Tryz.prog 144 = some (.agg #[.string ByteArray.empty, .string ByteArray.empty, .string ByteArray.empty, .string ByteArray.empty, .string ByteArray.empty, .string ByteArray.empty, .string ByteArray.empty]) := by kernel_rfl
@[simp] theorem tarr_144 : tarr Tryz.prog 144 = some (7, 9) := by kernel_rfl
@[simp] theorem tsizes_144 : tsizes Tryz.prog 144 = true := by kernel_rfl
@[simp] theorem tplace_144_0 : aplace Tryz.prog 144 0 = some (0, 1) := by kernel_rfl
@[simp] theorem tplace_144_1 : aplace Tryz.prog 144 1 = some (1, 1) := by kernel_rfl
@[simp] theorem tplace_144_2 : aplace Tryz.prog 144 2 = some (2, 1) := by kernel_rfl
@[simp] theorem tplace_144_3 : aplace Tryz.prog 144 3 = some (3, 1) := by kernel_rfl
@[simp] theorem tplace_144_4 : aplace Tryz.prog 144 4 = some (4, 1) := by kernel_rfl
@[simp] theorem tplace_144_5 : aplace Tryz.prog 144 5 = some (5, 1) := by kernel_rfl
@[simp] theorem tplace_144_6 : aplace Tryz.prog 144 6 = some (6, 1) := by kernel_rfl
@[simp] theorem tkd_149 : tkd Tryz.prog 149 = 4 := by kernel_rfl
@[simp] theorem tun_149 : (Tryz.prog.underlying 149).isSome = true := by kernel_rfl
@[simp] theorem tagg_149 : tagg Tryz.prog 149 = some false := by kernel_rfl
@[simp] theorem tsize_149 : tsize Tryz.prog 149 = some 1 := by kernel_rfl
@[simp] theorem tzero_149 : tzero Tryz.prog 149 = some (.pointer none) := by kernel_rfl
@[simp] theorem tkd_156 : tkd Tryz.prog 156 = 10 := by kernel_rfl
@[simp] theorem tun_156 : (Tryz.prog.underlying 156).isSome = true := by kernel_rfl
@[simp] theorem tagg_156 : tagg Tryz.prog 156 = some true := by kernel_rfl
@[simp] theorem tsize_156 : tsize Tryz.prog 156 = some 256 := by kernel_rfl
@[simp] theorem tzero_156 : tzero Tryz.prog 156 = some (.agg #[.bool false, .bool false, .bool false, .bool false, .bool false, .bool false, .bool false, .bool false, .bool false, .bool false, .bool false, .bool false, .bool false, .bool false, .bool false, .bool false, .bool false, .bool false, .bool false, .bool false, .bool false, .bool false, .bool false, .bool false, .bool false, .bool false, .bool false, .bool false, .bool false, .bool false, .bool false, .bool false, .bool false, .bool false, .bool false, .bool false, .bool false, .bool false, .bool false, .bool false, .bool false, .bool false, .bool false, .bool false, .bool false, .bool false, .bool false, .bool false, .bool false, .bool false, .bool false, .bool false, .bool false, .bool false, .bool false, .bool false, .bool false, .bool false, .bool false, .bool false, .bool false, .bool false, .bool false, .bool false, .bool false, .bool false, .bool false, .bool false, .bool false, .bool false, .bool false, .bool false, .bool false, .bool false, .bool false, .bool false, .bool false, .bool false, .bool false, .bool false, .bool false, .bool false, .bool false, .bool false, .bool false, .bool false, .bool false, .bool false, .bool false, .bool false, .bool false, .bool false, .bool false, .bool false, .bool false, .bool false, .bool false, .bool false, .bool false, .bool false, .bool false, .bool false, .bool false, .bool false, .bool false, .bool false, .bool false, .bool false, .bool false, .bool false, .bool false, .bool false, .bool false, .bool false, .bool false, .bool false, .bool false, .bool false, .bool false, .bool false, .bool false, .bool false, .bool false, .bool false, .bool false, .bool false, .bool false, .bool false, .bool false, .bool false, .bool false, .bool false, .bool false, .bool false, .bool false, .bool false, .bool false, .bool false, .bool false, .bool false, .bool false, .bool false, .bool false, .bool false, .bool false, .bool false, .bool false, .bool false, .bool false, .bool false, .bool false, .bool false, .bool false, .bool false, .bool false, .bool false, .bool false, .bool false, .bool false, .bool false, .bool false, .bool false, .bool false, .bool false, .bool false, .bool false, .bool false, .bool false, .bool false, .bool false, .bool false, .bool false, .bool false, .bool false, .bool false, .bool false, .bool false, .bool false, .bool false, .bool false, .bool false, .bool false, .bool false, .bool false, .bool false, .bool false, .bool false, .bool false, .bool false, .bool false, .bool false, .bool false, .bool false, .bool false, .bool false, .bool false, .bool false, .bool false, .bool false, .bool false, .bool false, .bool false, .bool false, .bool false, .bool false, .bool false, .bool false, .bool false, .bool false, .bool false, .bool false, .bool false, .bool false, .bool false, .bool false, .bool false, .bool false, .bool false, .bool false, .bool false, .bool false, .bool false, .bool false, .bool false, .bool false, .bool false, .bool false, .bool false, .bool false, .bool false, .bool false, .bool false, .bool false, .bool false, .bool false, .bool false, .bool false, .bool false, .bool false, .bool false, .bool false, .bool false, .bool false, .bool false, .bool false, .bool false, .bool false, .bool false, .bool false, .bool false, .bool false, .bool false, .bool false, .bool false, .bool false, .bool false]) := by kernel_rfl
@[simp] theorem tarr_156 : tarr Tryz.prog 156 = some (256, 4) := by kernel_rfl
@[simp] theorem tsizes_156 : tsizes Tryz.prog 156 = true := by kernel_rfl
@[simp] theorem tplace_156_0 : aplace Tryz.prog 156 0 = some (0, 1) := by kernel_rfl
@[simp] theorem tplace_156_1 : aplace Tryz.prog 156 1 = some (1, 1) := by kernel_rfl
@[simp] theorem tplace_156_2 : aplace Tryz.prog 156 2 = some (2, 1) := by kernel_rfl
@[simp] theorem tplace_156_3 : aplace Tryz.prog 156 3 = some (3, 1) := by kernel_rfl
@[simp] theorem tplace_156_4 : aplace Tryz.prog 156 4 = some (4, 1) := by kernel_rfl
@[simp] theorem tplace_156_5 : aplace Tryz.prog 156 5 = some (5, 1) := by kernel_rfl
@[simp] theorem tplace_156_6 : aplace Tryz.prog 156 6 = some (6, 1) := by kernel_rfl
@[simp] theorem tplace_156_7 : aplace Tryz.prog 156 7 = some (7, 1) := by kernel_rfl
@[simp] theorem tplace_156_8 : aplace Tryz.prog 156 8 = some (8, 1) := by kernel_rfl
@[simp] theorem tplace_156_9 : aplace Tryz.prog 156 9 = some (9, 1) := by kernel_rfl
@[simp] theorem tplace_156_10 : aplace Tryz.prog 156 10 = some (10, 1) := by kernel_rfl
@[simp] theorem tplace_156_11 : aplace Tryz.prog 156 11 = some (11, 1) := by kernel_rfl
@[simp] theorem tplace_156_12 : aplace Tryz.prog 156 12 = some (12, 1) := by kernel_rfl
@[simp] theorem tplace_156_13 : aplace Tryz.prog 156 13 = some (13, 1) := by kernel_rfl
@[simp] theorem tplace_156_14 : aplace Tryz.prog 156 14 = some (14, 1) := by kernel_rfl
@[simp] theorem tplace_156_15 : aplace Tryz.prog 156 15 = some (15, 1) := by kernel_rfl
@[simp] theorem tkd_157 : tkd Tryz.prog 157 = 10 := by kernel_rfl
@[simp] theorem tun_157 : (Tryz.prog.underlying 157).isSome = true := by kernel_rfl
@[simp] theorem tagg_157 : tagg Tryz.prog 157 = some true := by kernel_rfl
@[simp] theorem tsize_157 : tsize Tryz.prog 157 = some 256 := by kernel_rfl
@[simp] theorem tzero_157 : tzero Tryz.prog 157 = some (.agg #[.bool false, .bool false, .bool false, .bool false, .bool false, .bool false, .bool false, .bool false, .bool false, .bool false, .bool false, .bool false, .bool false, .bool false, .bool false, .bool false, .bool false, .bool false, .bool false, .bool false, .bool false, .bool false, .bool false, .bool false, .bool false, .bool false, .bool false, .bool false, .bool false, .bool false, .bool false, .bool false, .bool false, .bool false, .bool false, .bool false, .bool false, .bool false, .bool false, .bool false, .bool false, .bool false, .bool false, .bool false, .bool false, .bool false, .bool false, .bool false, .bool false, .bool false, .bool false, .bool false, .bool false, .bool false, .bool false, .bool false, .bool false, .bool false, .bool false, .bool false, .bool false, .bool false, .bool false, .bool false, .bool false, .bool false, .bool false, .bool false, .bool false, .bool false, .bool false, .bool false, .bool false, .bool false, .bool false, .bool false, .bool false, .bool false, .bool false, .bool false, .bool false, .bool false, .bool false, .bool false, .bool false, .bool false, .bool false, .bool false, .bool false, .bool false, .bool false, .bool false, .bool false, .bool false, .bool false, .bool false, .bool false, .bool false, .bool false, .bool false, .bool false, .bool false, .bool false, .bool false, .bool false, .bool false, .bool false, .bool false, .bool false, .bool false, .bool false, .bool false, .bool false, .bool false, .bool false, .bool false, .bool false, .bool false, .bool false, .bool false, .bool false, .bool false, .bool false, .bool false, .bool false, .bool false, .bool false, .bool false, .bool false, .bool false, .bool false, .bool false, .bool false, .bool false, .bool false, .bool false, .bool false, .bool false, .bool false, .bool false, .bool false, .bool false, .bool false, .bool false, .bool false, .bool false, .bool false, .bool false, .bool false, .bool false, .bool false, .bool false, .bool false, .bool false, .bool false, .bool false, .bool false, .bool false, .bool false, .bool false, .bool false, .bool false, .bool false, .bool false, .bool false, .bool false, .bool false, .bool false, .bool false, .bool false, .bool false, .bool false, .bool false, .bool false, .bool false, .bool false, .bool false, .bool false, .bool false, .bool false, .bool false, .bool false, .bool false, .bool false, .bool false, .bool false, .bool false, .bool false, .bool false, .bool false, .bool false, .bool false, .bool false, .bool false, .bool false, .bool false, .bool false, .bool false, .bool false, .bool false, .bool false, .bool false, .bool false, .bool false, .bool false, .bool false, .bool false, .bool false, .bool false, .bool false, .bool false, .bool false, .bool false, .bool false, .bool false, .bool false, .bool false, .bool false, .bool false, .bool false, .bool false, .bool false, .bool false, .bool false, .bool false, .bool false, .bool false, .bool false, .bool false, .bool false, .bool false, .bool false, .bool false, .bool false, .bool false, .bool false, .bool false, .bool false, .bool false, .bool false, .bool false, .bool false, .bool false, .bool false, .bool false, .bool false, .bool false, .bool false, .bool false, .bool false, .bool false, .bool false, .bool false, .bool false, .bool false, .bool false]) := by kernel_rfl
@[simp] theorem tarr_157 : tarr Tryz.prog 157 = some (256, 4) := by kernel_rfl
@[simp] theorem tsizes_157 : tsizes Tryz.prog 157 = true := by kernel_rfl
@[simp] theorem tplace_157_0 : aplace Tryz.prog 157 0 = some (0, 1) := by kernel_rfl
@[simp] theorem tplace_157_1 : aplace Tryz.prog 157 1 = some (1, 1) := by kernel_rfl
@[simp] theorem tplace_157_2 : aplace Tryz.prog 157 2 = some (2, 1) := by kernel_rfl
@[simp] theorem tplace_157_3 : aplace Tryz.prog 157 3 = some (3, 1) := by kernel_rfl
@[simp] theorem tplace_157_4 : aplace Tryz.prog 157 4 = some (4, 1) := by kernel_rfl
@[simp] theorem tplace_157_5 : aplace Tryz.prog 157 5 = some (5, 1) := by kernel_rfl
@[simp] theorem tplace_157_6 : aplace Tryz.prog 157 6 = some (6, 1) := by kernel_rfl
@[simp] theorem tplace_157_7 : aplace Tryz.prog 157 7 = some (7, 1) := by kernel_rfl
@[simp] theorem tplace_157_8 : aplace Tryz.prog 157 8 = some (8, 1) := by kernel_rfl
@[simp] theorem tplace_157_9 : aplace Tryz.prog 157 9 = some (9, 1) := by kernel_rfl
@[simp] theorem tplace_157_10 : aplace Tryz.prog 157 10 = some (10, 1) := by kernel_rfl
@[simp] theorem tplace_157_11 : aplace Tryz.prog 157 11 = some (11, 1) := by kernel_rfl
@[simp] theorem tplace_157_12 : aplace Tryz.prog 157 12 = some (12, 1) := by kernel_rfl
@[simp] theorem tplace_157_13 : aplace Tryz.prog 157 13 = some (13, 1) := by kernel_rfl
@[simp] theorem tplace_157_14 : aplace Tryz.prog 157 14 = some (14, 1) := by kernel_rfl
@[simp] theorem tplace_157_15 : aplace Tryz.prog 157 15 = some (15, 1) := by kernel_rfl
@[simp] theorem tkd_161 : tkd Tryz.prog 161 = 4 := by kernel_rfl
@[simp] theorem tun_161 : (Tryz.prog.underlying 161).isSome = true := by kernel_rfl
@[simp] theorem tagg_161 : tagg Tryz.prog 161 = some false := by kernel_rfl
@[simp] theorem tsize_161 : tsize Tryz.prog 161 = some 1 := by kernel_rfl
@[simp] theorem tzero_161 : tzero Tryz.prog 161 = some (.pointer none) := by kernel_rfl
@[simp] theorem tkd_167 : tkd Tryz.prog 167 = 10 := by kernel_rfl
@[simp] theorem tun_167 : (Tryz.prog.underlying 167).isSome = true := by kernel_rfl
@[simp] theorem tagg_167 : tagg Tryz.prog 167 = some true := by kernel_rfl
@[simp] theorem tsize_167 : tsize Tryz.prog 167 = some 24 := by kernel_rfl
@[simp] theorem tzero_167 : tzero Tryz.prog 167 = some (.agg #[.int .u8 0, .int .u8 0, .int .u8 0, .int .u8 0, .int .u8 0, .int .u8 0, .int .u8 0, .int .u8 0, .int .u8 0, .int .u8 0, .int .u8 0, .int .u8 0, .int .u8 0, .int .u8 0, .int .u8 0, .int .u8 0, .int .u8 0, .int .u8 0, .int .u8 0, .int .u8 0, .int .u8 0, .int .u8 0, .int .u8 0, .int .u8 0]) := by kernel_rfl
@[simp] theorem tarr_167 : tarr Tryz.prog 167 = some (24, 5) := by kernel_rfl
@[simp] theorem tsizes_167 : tsizes Tryz.prog 167 = true := by kernel_rfl
@[simp] theorem tplace_167_0 : aplace Tryz.prog 167 0 = some (0, 1) := by kernel_rfl
@[simp] theorem tplace_167_1 : aplace Tryz.prog 167 1 = some (1, 1) := by kernel_rfl
@[simp] theorem tplace_167_2 : aplace Tryz.prog 167 2 = some (2, 1) := by kernel_rfl
@[simp] theorem tplace_167_3 : aplace Tryz.prog 167 3 = some (3, 1) := by kernel_rfl
@[simp] theorem tplace_167_4 : aplace Tryz.prog 167 4 = some (4, 1) := by kernel_rfl
@[simp] theorem tplace_167_5 : aplace Tryz.prog 167 5 = some (5, 1) := by kernel_rfl
@[simp] theorem tplace_167_6 : aplace Tryz.prog 167 6 = some (6, 1) := by kernel_rfl
@[simp] theorem tplace_167_7 : aplace Tryz.prog 167 7 = some (7, 1) := by kernel_rfl
@[simp] theorem tplace_167_8 : aplace Tryz.prog 167 8 = some (8, 1) := by kernel_rfl
@[simp] theorem tplace_167_9 : aplace Tryz.prog 167 9 = some (9, 1) := by kernel_rfl
@[simp] theorem tplace_167_10 : aplace Tryz.prog 167 10 = some (10, 1) := by kernel_rfl
@[simp] theorem tplace_167_11 : aplace Tryz.prog 167 11 = some (11, 1) := by kernel_rfl
@[simp] theorem tplace_167_12 : aplace Tryz.prog 167 12 = some (12, 1) := by kernel_rfl
@[simp] theorem tplace_167_13 : aplace Tryz.prog 167 13 = some (13, 1) := by kernel_rfl
@[simp] theorem tplace_167_14 : aplace Tryz.prog 167 14 = some (14, 1) := by kernel_rfl
@[simp] theorem tplace_167_15 : aplace Tryz.prog 167 15 = some (15, 1) := by kernel_rfl
@[simp] theorem tun_171 : (Tryz.prog.underlying 171).isSome = true := by kernel_rfl
@[simp] theorem tagg_171 : tagg Tryz.prog 171 = some false := by kernel_rfl
@[simp] theorem tsize_171 : tsize Tryz.prog 171 = some 1 := by kernel_rfl
@[simp] theorem tzero_171 : tzero Tryz.prog 171 = some (.pointer none) := by kernel_rfl
@[simp] theorem tkd_174 : tkd Tryz.prog 174 = 10 := by kernel_rfl
@[simp] theorem tun_174 : (Tryz.prog.underlying 174).isSome = true := by kernel_rfl
@[simp] theorem tagg_174 : tagg Tryz.prog 174 = some true := by kernel_rfl
@[simp] theorem tsize_174 : tsize Tryz.prog 174 = some 13 := by kernel_rfl
@[simp] theorem tzero_174 : tzero Tryz.prog 174 = some (.agg #[.int .i64 0, .int .i64 0, .int .i64 0, .int .i64 0, .int .i64 0, .int .i64 0, .int .i64 0, .int .i64 0, .int .i64 0, .int .i64 0, .int .i64 0, .int .i64 0, .int .i64 0]) := by kernel_rfl
@[simp] theorem tarr_174 : tarr Tryz.prog 174 = some (13, 3) := by kernel_rfl
@[simp] theorem tsizes_174 : tsizes Tryz.prog 174 = true := by kernel_rfl
@[simp] theorem tplace_174_0 : aplace Tryz.prog 174 0 = some (0, 1) := by kernel_rfl
@[simp] theorem tplace_174_1 : aplace Tryz.prog 174 1 = some (1, 1) := by kernel_rfl
@[simp] theorem tplace_174_2 : aplace Tryz.prog 174 2 = some (2, 1) := by kernel_rfl
@[simp] theorem tplace_174_3 : aplace Tryz.prog 174 3 = some (3, 1) := by kernel_rfl
@[simp] theorem tplace_174_4 : aplace Tryz.prog 174 4 = some (4, 1) := by kernel_rfl
@[simp] theorem tplace_174_5 : aplace Tryz.prog 174 5 = some (5, 1) := by kernel_rfl
@[simp] theorem tplace_174_6 : aplace Tryz.prog 174 6 = some (6, 1) := by kernel_rfl
@[simp] theorem tplace_174_7 : aplace Tryz.prog 174 7 = some (7, 1) := by kernel_rfl
@[simp] theorem tplace_174_8 : aplace Tryz.prog 174 8 = some (8, 1) := by kernel_rfl
@[simp] theorem tplace_174_9 : aplace Tryz.prog 174 9 = some (9, 1) := by kernel_rfl
@[simp] theorem tplace_174_10 : aplace Tryz.prog 174 10 = some (10, 1) := by kernel_rfl
@[simp] theorem tplace_174_11 : aplace Tryz.prog 174 11 = some (11, 1) := by kernel_rfl
@[simp] theorem tplace_174_12 : aplace Tryz.prog 174 12 = some (12, 1) := by kernel_rfl
@[simp] theorem tkd_177 : tkd Tryz.prog 177 = 2 := by kernel_rfl
@[simp] theorem tun_177 : (Tryz.prog.underlying 177).isSome = true := by kernel_rfl
@[simp] theorem tagg_177 : tagg Tryz.prog 177 = some false := by kernel_rfl
@[simp] theorem tsize_177 : tsize Tryz.prog 177 = some 1 := by kernel_rfl
@[simp] theorem tzero_177 : tzero Tryz.prog 177 = some (.int .i64 0) := by kernel_rfl
@[simp] theorem tint_177 : tint Tryz.prog 177 = some .i64 := by kernel_rfl
@[simp] theorem tkd_180 : tkd Tryz.prog 180 = 4 := by kernel_rfl
@[simp] theorem tun_180 : (Tryz.prog.underlying 180).isSome = true := by kernel_rfl
@[simp] theorem tagg_180 : tagg Tryz.prog 180 = some false := by kernel_rfl
@[simp] theorem tsize_180 : tsize Tryz.prog 180 = some 1 := by kernel_rfl
@[simp] theorem tzero_180 : tzero Tryz.prog 180 = some (.pointer none) := by kernel_rfl
@[simp] theorem tkd_185 : tkd Tryz.prog 185 = 10 := by kernel_rfl
@[simp] theorem tun_185 : (Tryz.prog.underlying 185).isSome = true := by kernel_rfl
@[simp] theorem tagg_185 : tagg Tryz.prog 185 = some true := by kernel_rfl
@[simp] theorem tsize_185 : tsize Tryz.prog 185 = some 20 := by kernel_rfl
@[simp] theorem tzero_185 : tzero Tryz.prog 185 = some (.agg #[.int .u64 0, .int .u64 0, .int .u64 0, .int .u64 0, .int .u64 0, .int .u64 0, .int .u64 0, .int .u64 0, .int .u64 0, .int .u64 0, .int .u64 0, .int .u64 0, .int .u64 0, .int .u64 0, .int .u64 0, .int .u64 0, .int .u64 0, .int .u64 0, .int .u64 0, .int .u64 0]) := by kernel_rfl
@[simp] theorem tarr_185 : tarr Tryz.prog 185 = some (20, 23) := by kernel_rfl
@[simp] theorem tsizes_185 : tsizes Tryz.prog 185 = true := by kernel_rfl
@[simp] theorem tplace_185_0 : aplace Tryz.prog 185 0 = some (0, 1) := by kernel_rfl
@[simp] theorem tplace_185_1 : aplace Tryz.prog 185 1 = some (1, 1) := by kernel_rfl
@[simp] theorem tplace_185_2 : aplace Tryz.prog 185 2 = some (2, 1) := by kernel_rfl
@[simp] theorem tplace_185_3 : aplace Tryz.prog 185 3 = some (3, 1) := by kernel_rfl
@[simp] theorem tplace_185_4 : aplace Tryz.prog 185 4 = some (4, 1) := by kernel_rfl
@[simp] theorem tplace_185_5 : aplace Tryz.prog 185 5 = some (5, 1) := by kernel_rfl
@[simp] theorem tplace_185_6 : aplace Tryz.prog 185 6 = some (6, 1) := by kernel_rfl
@[simp] theorem tplace_185_7 : aplace Tryz.prog 185 7 = some (7, 1) := by kernel_rfl
@[simp] theorem tplace_185_8 : aplace Tryz.prog 185 8 = some (8, 1) := by kernel_rfl
@[simp] theorem tplace_185_9 : aplace Tryz.prog 185 9 = some (9, 1) := by kernel_rfl
@[simp] theorem tplace_185_10 : aplace Tryz.prog 185 10 = some (10, 1) := by kernel_rfl
@[simp] theorem tplace_185_11 : aplace Tryz.prog 185 11 = some (11, 1) := by kernel_rfl
@[simp] theorem tplace_185_12 : aplace Tryz.prog 185 12 = some (12, 1) := by kernel_rfl
@[simp] theorem tplace_185_13 : aplace Tryz.prog 185 13 = some (13, 1) := by kernel_rfl
@[simp] theorem tplace_185_14 : aplace Tryz.prog 185 14 = some (14, 1) := by kernel_rfl
@[simp] theorem tplace_185_15 : aplace Tryz.prog 185 15 = some (15, 1) := by kernel_rfl
@[simp] theorem tkd_186 : tkd Tryz.prog 186 = 2 := by kernel_rfl
@[simp] theorem tun_186 : (Tryz.prog.underlying 186).isSome = true := by kernel_rfl
@[simp] theorem tagg_186 : tagg Tryz.prog 186 = some false := by kernel_rfl
@[simp] theorem tsize_186 : tsize Tryz.prog 186 = some 1 := by kernel_rfl
@[simp] theorem tzero_186 : tzero Tryz.prog 186 = some (.int .u32 0) := by kernel_rfl
@[simp] theorem tint_186 : tint Tryz.prog 186 = some .u32 := by kernel_rfl
@[simp] theorem tkd_187 : tkd Tryz.prog 187 = 10 := by kernel_rfl
@[simp] theorem tun_187 : (Tryz.prog.underlying 187).isSome = true := by kernel_rfl
@[simp] theorem tagg_187 : tagg Tryz.prog 187 = some true := by kernel_rfl
@[simp] theorem tsize_187 : tsize Tryz.prog 187 = some 65 := by kernel_rfl
@[simp] theorem tzero_187 : tzero Tryz.prog 187 = some (.agg #[.int .u8 0, .int .u8 0, .int .u8 0, .int .u8 0, .int .u8 0, .int .u8 0, .int .u8 0, .int .u8 0, .int .u8 0, .int .u8 0, .int .u8 0, .int .u8 0, .int .u8 0, .int .u8 0, .int .u8 0, .int .u8 0, .int .u8 0, .int .u8 0, .int .u8 0, .int .u8 0, .int .u8 0, .int .u8 0, .int .u8 0, .int .u8 0, .int .u8 0, .int .u8 0, .int .u8 0, .int .u8 0, .int .u8 0, .int .u8 0, .int .u8 0, .int .u8 0, .int .u8 0, .int .u8 0, .int .u8 0, .int .u8 0, .int .u8 0, .int .u8 0, .int .u8 0, .int .u8 0, .int .u8 0, .int .u8 0, .int .u8 0, .int .u8 0, .int .u8 0, .int .u8 0, .int .u8 0, .int .u8 0, .int .u8 0, .int .u8 0, .int .u8 0, .int .u8 0, .int .u8 0, .int .u8 0, .int .u8 0, .int .u8 0, .int .u8 0, .int .u8 0, .int .u8 0, .int .u8 0, .int .u8 0, .int .u8 0, .int .u8 0, .int .u8 0, .int .u8 0]) := by kernel_rfl
@[simp] theorem tarr_187 : tarr Tryz.prog 187 = some (65, 5) := by kernel_rfl
@[simp] theorem tsizes_187 : tsizes Tryz.prog 187 = true := by kernel_rfl
@[simp] theorem tplace_187_0 : aplace Tryz.prog 187 0 = some (0, 1) := by kernel_rfl
@[simp] theorem tplace_187_1 : aplace Tryz.prog 187 1 = some (1, 1) := by kernel_rfl
@[simp] theorem tplace_187_2 : aplace Tryz.prog 187 2 = some (2, 1) := by kernel_rfl
@[simp] theorem tplace_187_3 : aplace Tryz.prog 187 3 = some (3, 1) := by kernel_rfl
@[simp] theorem tplace_187_4 : aplace Tryz.prog 187 4 = some (4, 1) := by kernel_rfl
@[simp] theorem tplace_187_5 : aplace Tryz.prog 187 5 = some (5, 1) := by kernel_rfl
@[simp] theorem tplace_187_6 : aplace Tryz.prog 187 6 = some (6, 1) := by kernel_rfl
@[simp] theorem tplace_187_7 : aplace Tryz.prog 187 7 = some (7, 1) := by kernel_rfl
@[simp] theorem tplace_187_8 : aplace Tryz.prog 187 8 = some (8, 1) := by kernel_rfl
@[simp] theorem tplace_187_9 : aplace Tryz.prog 187 9 = some (9, 1) := by kernel_rfl
@[simp] theorem tplace_187_10 : aplace Tryz.prog 187 10 = some (10, 1) := by kernel_rfl
@[simp] theorem tplace_187_11 : aplace Tryz.prog 187 11 = some (11, 1) := by kernel_rfl
@[simp] theorem tplace_187_12 : aplace Tryz.prog 187 12 = some (12, 1) := by kernel_rfl
@[simp] theorem tplace_187_13 : aplace Tryz.prog 187 13 = some (13, 1) := by kernel_rfl
@[simp] theorem tplace_187_14 : aplace Tryz.prog 187 14 = some (14, 1) := by kernel_rfl
@[simp] theorem tplace_187_15 : aplace Tryz.prog 187 15 = some (15, 1) := by kernel_rfl
@[simp] theorem tkd_189 : tkd Tryz.prog 189 = 10 := by kernel_rfl
@[simp] theorem tun_189 : (Tryz.prog.underlying 189).isSome = true := by kernel_rfl
@[simp] theorem tagg_189 : tagg Tryz.prog 189 = some true := by kernel_rfl
@[simp] theorem tsize_189 : tsize Tryz.prog 189 = some 256 := by kernel_rfl
@[simp] theorem tzero_189 : tzero Tryz.prog 189 = some (.agg #[.int .u8 0, .int .u8 0, .int .u8 0, .int .u8 0, .int .u8 0, .int .u8 0, .int .u8 0, .int .u8 0, .int .u8 0, .int .u8 0, .int .u8 0, .int .u8 0, .int .u8 0, .int .u8 0, .int .u8 0, .int .u8 0, .int .u8 0, .int .u8 0, .int .u8 0, .int .u8 0, .int .u8 0, .int .u8 0, .int .u8 0, .int .u8 0, .int .u8 0, .int .u8 0, .int .u8 0, .int .u8 0, .int .u8 0, .int .u8 0, .int .u8 0, .int .u8 0, .int .u8 0, .int .u8 0, .int .u8 0, .int .u8 0, .int .u8 0, .int .u8 0, .int .u8 0, .int .u8 0, .int .u8 0, .int .u8 0, .int .u8 0, .int .u8 0, .int .u8 0, .int .u8 0, .int .u8 0, .int .u8 0, .int .u8 0, .int .u8 0, .int .u8 0, .int .u8 0, .int .u8 0, .int .u8 0, .int .u8 0, .int .u8 0, .int .u8 0, .int .u8 0, .int .u8 0, .int .u8 0, .int .u8 0, .int .u8 0, .int .u8 0, .int .u8 0, .int .u8 0, .int .u8 0, .int .u8 0, .int .u8 0, .int .u8 0, .int .u8 0, .int .u8 0, .int .u8 0, .int .u8 0, .int .u8 0, .int .u8 0, .int .u8 0, .int .u8 0, .int .u8 0, .int .u8 0, .int .u8 0, .int .u8 0, .int .u8 0, .int .u8 0, .int .u8 0, .int .u8 0, .int .u8 0, .int .u8 0, .int .u8 0, .int .u8 0, .int .u8 0, .int .u8 0, .int .u8 0, .int .u8 0, .int .u8 0, .int .u8 0, .int .u8 0, .int .u8 0, .int .u8 0, .int .u8 0, .int .u8 0, .int .u8 0, .int .u8 0, .int .u8 0, .int .u8 0, .int .u8 0, .int .u8 0, .int .u8 0, .int .u8 0, .int .u8 0, .int .u8 0, .int .u8 0, .int .u8 0, .int .u8 0, .int .u8 0, .int .u8 0, .int .u8 0, .int .u8 0, .int .u8 0, .int .u8 0, .int .u8 0, .int .u8 0, .int .u8 0, .int .u8 0, .int .u8 0, .int .u8 0, .int .u8 0, .int .u8 0, .int .u8 0, .int .u8 0, .int .u8 0, .int .u8 0, .int .u8 0, .int .u8 0, .int .u8 0, .int .u8 0, .int .u8 0, .int .u8 0, .int .u8 0, .int .u8 0, .int .u8 0, .int .u8 0, .int .u8 0, .int .u8 0, .int .u8 0, .int .u8 0, .int .u8 0, .int .u8 0, .int .u8 0, .int .u8 0, .int .u8 0, .int .u8 0, .int .u8 0, .int .u8 0, .int .u8 0, .int .u8 0, .int .u8 0, .int .u8 0, .int .u8 0, .int .u8 0, .int .u8 0, .int .u8 0, .int .u8 0, .int .u8 0, .int .u8 0, .int .u8 0, .int .u8 0, .int .u8 0, .int .u8 0, .int .u8 0, .int .u8 0, .int .u8 0, .int .u8 0, .int .u8 0, .int .u8 0, .int .u8 0, .int .u8 0, .int .u8 0, .int .u8 0, .int .u8 0, .int .u8 0, .int .u8 0, .int .u8 0, .int .u8 0, .int .u8 0, .int .u8 0, .int .u8 0, .int .u8 0, .int .u8 0, .int .u8 0, .int .u8 0, .int .u8 0, .int .u8 0, .int .u8 0, .int .u8 0, .int .u8 0, .int .u8 0, .int .u8 0, .int .u8 0, .int .u8 0, .int .u8 0, .int .u8 0, .int .u8 0, .int .u8 0, .int .u8 0, .int .u8 0, .int .u8 0, .int .u8 0, .int .u8 0, .int .u8 0, .int .u8 0, .int .u8 0, .int .u8 0, .int .u8 0, .int .u8 0, .int .u8 0, .int .u8 0, .int .u8 0, .int .u8 0, .int .u8 0, .int .u8 0, .int .u8 0, .int .u8 0, .int .u8 0, .int .u8 0, .int .u8 0, .int .u8 0, .int .u8 0, .int .u8 0, .int .u8 0, .int .u8 0, .int .u8 0, .int .u8 0, .int .u8 0, .int .u8 0, .int .u8 0, .int .u8 0, .int .u8 0, .int .u8 0, .int .u8 0, .int .u8 0, .int .u8 0, .int .u8 0, .int .u8 0, .int .u8 0, .int .u8 0, .int .u8 0, .int .u8 0, .int .u8 0, .int .u8 0, .int .u8 0, .int .u8 0, .int .u8 0, .int .u8 0, .int .u8 0, .int .u8 0, .int .u8 0]) := by kernel_rfl
@[simp] theorem tarr_189 : tarr Tryz.prog 189 = some (256, 5) := by kernel_rfl
@[simp] theorem tsizes_189 : tsizes Tryz.prog 189 = true := by kernel_rfl
@[simp] theorem tplace_189_0 : aplace Tryz.prog 189 0 = some (0, 1) := by kernel_rfl
@[simp] theorem tplace_189_1 : aplace Tryz.prog 189 1 = some (1, 1) := by kernel_rfl
@[simp] theorem tplace_189_2 : aplace Tryz.prog 189 2 = some (2, 1) := by kernel_rfl
@[simp] theorem tplace_189_3 : aplace Tryz.prog 189 3 = some (3, 1) := by kernel_rfl
@[simp] theorem tplace_189_4 : aplace Tryz.prog 189 4 = some (4, 1) := by kernel_rfl
@[simp] theorem tplace_189_5 : aplace Tryz.prog 189 5 = some (5, 1) := by kernel_rfl
@[simp] theorem tplace_189_6 : aplace Tryz.prog 189 6 = some (6, 1) := by kernel_rfl
@[simp] theorem tplace_189_7 : aplace Tryz.prog 189 7 = some (7, 1) := by kernel_rfl
@[simp] theorem tplace_189_8 : aplace Tryz.prog 189 8 = some (8, 1) := by kernel_rfl
@[simp] theorem tplace_189_9 : aplace Tryz.prog 189 9 = some (9, 1) := by kernel_rfl
@[simp] theorem tplace_189_10 : aplace Tryz.prog 189 10 = some (10, 1) := by kernel_rfl
@[simp] theorem tplace_189_11 : aplace Tryz.prog 189 11 = some (11, 1) := by kernel_rfl
@[simp] theorem tplace_189_12 : aplace Tryz.prog 189 12 = some (12, 1) := by kernel_rfl
@[simp] theorem tplace_189_13 : aplace Tryz.prog 189 13 = some (13, 1) := by kernel_rfl
@[simp] theorem tplace_189_14 : aplace Tryz.prog 189 14 = some (14, 1) := by kernel_rfl
@[simp] theorem tplace_189_15 : aplace Tryz.prog 189 15 = some (15, 1) := by kernel_rfl
@[simp] theorem tkd_190 : tkd Tryz.prog 190 = 9 := by kernel_rfl
@[simp] theorem tun_190 : (Tryz.prog.underlying 190).isSome = true := by kernel_rfl
@[simp] theorem tagg_190 : tagg Tryz.prog 190 = some true := by kernel_rfl
@[simp] theorem tsize_190 : tsize Tryz.prog 190 = some 2 := by kernel_rfl
@[simp] theorem tzero_190 : tzero Tryz.prog 190 = some (.agg #[.int .u8 0, .int .u8 0]) := by kernel_rfl
@[simp] theorem tsizes_190 : tsizes Tryz.prog 190 = true := by kernel_rfl
@[simp] theorem tfield_190_0 : tfield Tryz.prog 190 0 = some (0, 5) := by kernel_rfl
@[simp] theorem tplace_190_0 : aplace Tryz.prog 190 0 = some (0, 1) := by kernel_rfl
@[simp] theorem tfield_190_1 : tfield Tryz.prog 190 1 = some (1, 5) := by kernel_rfl
@[simp] theorem tplace_190_1 : aplace Tryz.prog 190 1 = some (1, 1) := by kernel_rfl
@[simp] theorem tkd_191 : tkd Tryz.prog 191 = 9 := by kernel_rfl
@[simp] theorem tun_191 : (Tryz.prog.underlying 191).isSome = true := by kernel_rfl
@[simp] theorem tagg_191 : tagg Tryz.prog 191 = some true := by kernel_rfl
@[simp] theorem tsize_191 : tsize Tryz.prog 191 = some 2 := by kernel_rfl
@[simp] theorem tzero_191 : tzero Tryz.prog 191 = some (.agg #[.int .u8 0, .int .u8 0]) := by kernel_rfl
@[simp] theorem tsizes_191 : tsizes Tryz.prog 191 = true := by kernel_rfl
@[simp] theorem tfield_191_0 : tfield Tryz.prog 191 0 = some (0, 5) := by kernel_rfl
@[simp] theorem tplace_191_0 : aplace Tryz.prog 191 0 = some (0, 1) := by kernel_rfl
@[simp] theorem tfield_191_1 : tfield Tryz.prog 191 1 = some (1, 5) := by kernel_rfl
@[simp] theorem tplace_191_1 : aplace Tryz.prog 191 1 = some (1, 1) := by kernel_rfl
@[simp] theorem tkd_192 : tkd Tryz.prog 192 = 10 := by kernel_rfl
@[simp] theorem tun_192 : (Tryz.prog.underlying 192).isSome = true := by kernel_rfl
@[simp] theorem tagg_192 : tagg Tryz.prog 192 = some true := by kernel_rfl
@[simp] theorem tsize_192 : tsize Tryz.prog 192 = some 32 := by kernel_rfl
@[simp] theorem tzero_192 : tzero Tryz.prog 192 = some (.agg #[.int .u8 0, .int .u8 0, .int .u8 0, .int .u8 0, .int .u8 0, .int .u8 0, .int .u8 0, .int .u8 0, .int .u8 0, .int .u8 0, .int .u8 0, .int .u8 0, .int .u8 0, .int .u8 0, .int .u8 0, .int .u8 0, .int .u8 0, .int .u8 0, .int .u8 0, .int .u8 0, .int .u8 0, .int .u8 0, .int .u8 0, .int .u8 0, .int .u8 0, .int .u8 0, .int .u8 0, .int .u8 0, .int .u8 0, .int .u8 0, .int .u8 0, .int .u8 0]) := by kernel_rfl
@[simp] theorem tarr_192 : tarr Tryz.prog 192 = some (16, 191) := by kernel_rfl
@[simp] theorem tsizes_192 : tsizes Tryz.prog 192 = true := by kernel_rfl
@[simp] theorem tplace_192_0 : aplace Tryz.prog 192 0 = some (0, 2) := by kernel_rfl
@[simp] theorem tplace_192_1 : aplace Tryz.prog 192 1 = some (2, 2) := by kernel_rfl
@[simp] theorem tplace_192_2 : aplace Tryz.prog 192 2 = some (4, 2) := by kernel_rfl
@[simp] theorem tplace_192_3 : aplace Tryz.prog 192 3 = some (6, 2) := by kernel_rfl
@[simp] theorem tplace_192_4 : aplace Tryz.prog 192 4 = some (8, 2) := by kernel_rfl
@[simp] theorem tplace_192_5 : aplace Tryz.prog 192 5 = some (10, 2) := by kernel_rfl
@[simp] theorem tplace_192_6 : aplace Tryz.prog 192 6 = some (12, 2) := by kernel_rfl
@[simp] theorem tplace_192_7 : aplace Tryz.prog 192 7 = some (14, 2) := by kernel_rfl
@[simp] theorem tplace_192_8 : aplace Tryz.prog 192 8 = some (16, 2) := by kernel_rfl
@[simp] theorem tplace_192_9 : aplace Tryz.prog 192 9 = some (18, 2) := by kernel_rfl
@[simp] theorem tplace_192_10 : aplace Tryz.prog 192 10 = some (20, 2) := by kernel_rfl
@[simp] theorem tplace_192_11 : aplace Tryz.prog 192 11 = some (22, 2) := by kernel_rfl
@[simp] theorem tplace_192_12 : aplace Tryz.prog 192 12 = some (24, 2) := by kernel_rfl
@[simp] theorem tplace_192_13 : aplace Tryz.prog 192 13 = some (26, 2) := by kernel_rfl
@[simp] theorem tplace_192_14 : aplace Tryz.prog 192 14 = some (28, 2) := by kernel_rfl
@[simp] theorem tplace_192_15 : aplace Tryz.prog 192 15 = some (30, 2) := by kernel_rfl
@[simp] theorem tkd_198 : tkd Tryz.prog 198 = 9 := by kernel_rfl
@[simp] theorem tun_198 : (Tryz.prog.underlying 198).isSome = true := by kernel_rfl
@[simp] theorem tagg_198 : tagg Tryz.prog 198 = some true := by kernel_rfl
@[simp] theorem tsize_198 : tsize Tryz.prog 198 = some 3 := by kernel_rfl
@[simp] theorem tzero_198 : tzero Tryz.prog 198 = some (.agg #[.string ByteArray.empty, .string ByteArray.empty, .nilIface]) := by kernel_rfl
@[simp] theorem tsizes_198 : tsizes Tryz.prog 198 = true := by kernel_rfl
@[simp] theorem tfield_198_0 : tfield Tryz.prog 198 0 = some (0, 9) := by kernel_rfl
@[simp] theorem tplace_198_0 : aplace Tryz.prog 198 0 = some (0, 1) := by kernel_rfl
@[simp] theorem tfield_198_1 : tfield Tryz.prog 198 1 = some (1, 9) := by kernel_rfl
@[simp] theorem tplace_198_1 : aplace Tryz.prog 198 1 = some (1, 1) := by kernel_rfl
@[simp] theorem tfield_198_2 : tfield Tryz.prog 198 2 = some (2, 125) := by kernel_rfl
@[simp] theorem tplace_198_2 : aplace Tryz.prog 198 2 = some (2, 1) := by kernel_rfl
@[simp] theorem tkd_199 : tkd Tryz.prog 199 = 9 := by kernel_rfl
@[simp] theorem tun_199 : (Tryz.prog.underlying 199).isSome = true := by kernel_rfl
@[simp] theorem tagg_199 : tagg Tryz.prog 199 = some true := by kernel_rfl
@[simp] theorem tsize_199 : tsize Tryz.prog 199 = some 3 := by kernel_rfl
@[simp] theorem tzero_199 : tzero Tryz.prog 199 = some (.agg #[.string ByteArray.empty, .string ByteArray.empty, .nilIface]) := by kernel_rfl
@[simp] theorem tsizes_199 : tsizes Tryz.prog 199 = true := by kernel_rfl
@[simp] theorem tfield_199_0 : tfield Tryz.prog 199 0 = some (0, 9) := by kernel_rfl
@[simp] theorem tplace_199_0 : aplace Tryz.prog 199 0 = some (0, 1) := by kernel_rfl
@[simp] theorem tfield_199_1 : tfield Tryz.prog 199 1 = some (1, 9) := by kernel_rfl
@[simp] theorem tplace_199_1 : aplace Tryz.prog 199 1 = some (1, 1) := by kernel_rfl
@[simp] theorem tfield_199_2 : tfield Tryz.prog 199 2 = some (2, 125) := by kernel_rfl
@[simp] theorem tplace_199_2 : aplace Tryz.prog 199 2 = some (2, 1) := by kernel_rfl
@[simp] theorem tkd_204 : tkd Tryz.prog 204 = 4 := by kernel_rfl
@[simp] theorem tun_204 : (Tryz.prog.underlying 204).isSome = true := by kernel_rfl
@[simp] theorem tagg_204 : tagg Tryz.prog 204 = some false := by kernel_rfl
@[simp] theorem tsize_204 : tsize Tryz.prog 204 = some 1 := by kernel_rfl
@[simp] theorem tzero_204 : tzero Tryz.prog 204 = some (.pointer none) := by kernel_rfl
@[simp] theorem tkd_205 : tkd Tryz.prog 205 = 9 := by kernel_rfl
@[simp] theorem tun_205 : (Tryz.prog.underlying 205).isSome = true := by kernel_rfl
@[simp] theorem tagg_205 : tagg Tryz.prog 205 = some true := by kernel_rfl
@[simp] theorem tsize_205 : tsize Tryz.prog 205 = some 1 := by kernel_rfl
@[simp] theorem tzero_205 : tzero Tryz.prog 205 = some (.agg #[.string ByteArray.empty]) := by kernel_rfl
@[simp] theorem tsizes_205 : tsizes Tryz.prog 205 = true := by kernel_rfl
@[simp] theorem tfield_205_0 : tfield Tryz.prog 205 0 = some (0, 9) := by kernel_rfl
@[simp] theorem tplace_205_0 : aplace Tryz.prog 205 0 = some (0, 1) := by kernel_rfl
@[simp] theorem tkd_206 : tkd Tryz.prog 206 = 9 := by kernel_rfl
@[simp] theorem tun_206 : (Tryz.prog.underlying 206).isSome = true := by kernel_rfl
@[simp] theorem tagg_206 : tagg Tryz.prog 206 = some true := by kernel_rfl
@[simp] theorem tsize_206 : tsize Tryz.prog 206 = some 1 := by kernel_rfl
@[simp] theorem tzero_206 : tzero Tryz.prog 206 = some (.agg #[.string ByteArray.empty]) := by kernel_rfl
@[simp] theorem tsizes_206 : tsizes Tryz.prog 206 = true := by kernel_rfl
@[simp] theorem tfield_206_0 : tfield Tryz.prog 206 0 = some (0, 9) := by kernel_rfl
@[simp] theorem tplace_206_0 : aplace Tryz.prog 206 0 = some (0, 1) := by kernel_rfl
@[simp] theorem tkd_207 : tkd Tryz.prog 207 = 10 := by kernel_rfl
@[simp] theorem tun_207 : (Tryz.prog.underlying 207).isSome = true := by kernel_rfl
@[simp] theorem tagg_207 : tagg Tryz.prog 207 = some true := by kernel_rfl
@[simp] theorem tsize_207 : tsize Tryz.prog 207 = some 32 := by kernel_rfl
@[simp] theorem tzero_207 : tzero Tryz.prog 207 = some (.agg #[.int .u8 0, .int .u8 0, .int .u8 0, .int .u8 0, .int .u8 0, .int .u8 0, .int .u8 0, .int .u8 0, .int .u8 0, .int .u8 0, .int .u8 0, .int .u8 0, .int .u8 0, .int .u8 0, .int .u8 0, .int .u8 0, .int .u8 0, .int .u8 0, .int .u8 0, .int .u8 0, .int .u8 0, .int .u8 0, .int .u8 0, .int .u8 0, .int .u8 0, .int .u8 0, .int .u8 0, .int .u8 0, .int .u8 0, .int .u8 0, .int .u8 0, .int .u8 0]) := by kernel_rfl
@[simp] theorem tarr_207 : tarr Tryz.prog 207 = some (32, 5) := by kernel_rfl
@[simp] theorem tsizes_207 : tsizes Tryz.prog 207 = true := by kernel_rfl
@[simp] theorem tplace_207_0 : aplace Tryz.prog 207 0 = some (0, 1) := by kernel_rfl
@[simp] theorem tplace_207_1 : aplace Tryz.prog 207 1 = some (1, 1) := by kernel_rfl
@[simp] theorem tplace_207_2 : aplace Tryz.prog 207 2 = some (2, 1) := by kernel_rfl
@[simp] theorem tplace_207_3 : aplace Tryz.prog 207 3 = some (3, 1) := by kernel_rfl
@[simp] theorem tplace_207_4 : aplace Tryz.prog 207 4 = some (4, 1) := by kernel_rfl
@[simp] theorem tplace_207_5 : aplace Tryz.prog 207 5 = some (5, 1) := by kernel_rfl
@[simp] theorem tplace_207_6 : aplace Tryz.prog 207 6 = some (6, 1) := by kernel_rfl
@[simp] theorem tplace_207_7 : aplace Tryz.prog 207 7 = some (7, 1) := by kernel_rfl
@[simp] theorem tplace_207_8 : aplace Tryz.prog 207 8 = some (8, 1) := by kernel_rfl
@[simp] theorem tplace_207_9 : aplace Tryz.prog 207 9 = some (9, 1) := by kernel_rfl
@[simp] theorem tplace_207_10 : aplace Tryz.prog 207 10 = some (10, 1) := by kernel_rfl
@[simp] theorem tplace_207_11 : aplace Tryz.prog 207 11 = some (11, 1) := by kernel_rfl
@[simp] theorem tplace_207_12 : aplace Tryz.prog 207 12 = some (12, 1) := by kernel_rfl
@[simp] theorem tplace_207_13 : aplace Tryz.prog 207 13 = some (13, 1) := by kernel_rfl
@[simp] theorem tplace_207_14 : aplace Tryz.prog 207 14 = some (14, 1) := by kernel_rfl
@[simp] theorem tplace_207_15 : aplace Tryz.prog 207 15 = some (15, 1) := by kernel_rfl
@[simp] theorem tkd_208 : tkd Tryz.prog 208 = 9 := by kernel_rfl
@[simp] theorem tun_208 : (Tryz.prog.underlying 208).isSome = true := by kernel_rfl
@[simp] theorem tagg_208 : tagg Tryz.prog 208 = some true := by kernel_rfl
@[simp] theorem tsize_208 : tsize Tryz.prog 208 = some 4 := by kernel_rfl
@[simp] theorem tzero_208 : tzero Tryz.prog 208 = some (.agg #[.pointer none, .pointer none, .pointer none, .string ByteArray.empty]) := by kernel_rfl
@[simp] theorem tsizes_208 : tsizes Tryz.prog 208 = true := by kernel_rfl
@[simp] theorem tfield_208_0 : tfield Tryz.prog 208 0 = some (0, 17) := by kernel_rfl
@[simp] theorem tplace_208_0 : aplace Tryz.prog 208 0 = some (0, 1) := by kernel_rfl
@[simp] theorem tfield_208_1 : tfield Tryz.prog 208 1 = some (1, 17) := by kernel_rfl
@[simp] theorem tplace_208_1 : aplace Tryz.prog 208 1 = some (1, 1) := by kernel_rfl
@[simp] theorem tfield_208_2 : tfield Tryz.prog 208 2 = some (2, 17) := by kernel_rfl
@[simp] theorem tplace_208_2 : aplace Tryz.prog 208 2 = some (2, 1) := by kernel_rfl
@[simp] theorem tfield_208_3 : tfield Tryz.prog 208 3 = some (3, 9) := by kernel_rfl
@[simp] theorem tplace_208_3 : aplace Tryz.prog 208 3 = some (3, 1) := by kernel_rfl
@[simp] theorem tkd_209 : tkd Tryz.prog 209 = 9 := by kernel_rfl
@[simp] theorem tun_209 : (Tryz.prog.underlying 209).isSome = true := by kernel_rfl
@[simp] theorem tagg_209 : tagg Tryz.prog 209 = some true := by kernel_rfl
@[simp] theorem tsize_209 : tsize Tryz.prog 209 = some 4 := by kernel_rfl
@[simp] theorem tzero_209 : tzero Tryz.prog 209 = some (.agg #[.pointer none, .pointer none, .pointer none, .string ByteArray.empty]) := by kernel_rfl
@[simp] theorem tsizes_209 : tsizes Tryz.prog 209 = true := by kernel_rfl
@[simp] theorem tfield_209_0 : tfield Tryz.prog 209 0 = some (0, 17) := by kernel_rfl
@[simp] theorem tplace_209_0 : aplace Tryz.prog 209 0 = some (0, 1) := by kernel_rfl
@[simp] theorem tfield_209_1 : tfield Tryz.prog 209 1 = some (1, 17) := by kernel_rfl
@[simp] theorem tplace_209_1 : aplace Tryz.prog 209 1 = some (1, 1) := by kernel_rfl
@[simp] theorem tfield_209_2 : tfield Tryz.prog 209 2 = some (2, 17) := by kernel_rfl
@[simp] theorem tplace_209_2 : aplace Tryz.prog 209 2 = some (2, 1) := by kernel_rfl
@[simp] theorem tfield_209_3 : tfield Tryz.prog 209 3 = some (3, 9) := by kernel_rfl
@[simp] theorem tplace_209_3 : aplace Tryz.prog 209 3 = some (3, 1) := by kernel_rfl
@[simp] theorem tkd_210 : tkd Tryz.prog 210 = 10 := by kernel_rfl
@[simp] theorem tun_210 : (Tryz.prog.underlying 210).isSome = true := by kernel_rfl
@[simp] theorem tagg_210 : tagg Tryz.prog 210 = some true := by kernel_rfl
@[simp] theorem tsize_210 : tsize Tryz.prog 210 = some 0 := by kernel_rfl
@[simp] theorem tzero_210 : tzero Tryz.prog 210 = some (.agg #[]) := by kernel_rfl
@[simp] theorem tarr_210 : tarr Tryz.prog 210 = some (0, 16) := by kernel_rfl
@[simp] theorem tsizes_210 : tsizes Tryz.prog 210 = true := by kernel_rfl
@[simp] theorem tkd_211 : tkd Tryz.prog 211 = 9 := by kernel_rfl
@[simp] theorem tun_211 : (Tryz.prog.underlying 211).isSome = true := by kernel_rfl
@[simp] theorem tagg_211 : tagg Tryz.prog 211 = some true := by kernel_rfl
@[simp] theorem tsize_211 : tsize Tryz.prog 211 = some 0 := by kernel_rfl
@[simp] theorem tzero_211 : tzero Tryz.prog 211 = some (.agg #[]) := by kernel_rfl
@[simp] theorem tsizes_211 : tsizes Tryz.prog 211 = true := by kernel_rfl
@[simp] theorem tfield_211_0 : tfield Tryz.prog 211 0 = some (0, 210) := by kernel_rfl
@[simp] theorem tplace_211_0 : aplace Tryz.prog 211 0 = some (0, 0) := by kernel_rfl
@[simp] theorem tkd_212 : tkd Tryz.prog 212 = 9 := by kernel_rfl
@[simp] theorem tun_212 : (Tryz.prog.underlying 212).isSome = true := by kernel_rfl
@[simp] theorem tagg_212 : tagg Tryz.prog 212 = some true := by kernel_rfl
@[simp] theorem tsize_212 : tsize Tryz.prog 212 = some 0 := by kernel_rfl
@[simp] theorem tzero_212 : tzero Tryz.prog 212 = some (.agg #[]) := by kernel_rfl
@[simp] theorem tsizes_212 : tsizes Tryz.prog 212 = true := by kernel_rfl
@[simp] theorem tfield_212_0 : tfield Tryz.prog 212 0 = some (0, 210) := by kernel_rfl
@[simp] theorem tplace_212_0 : aplace Tryz.prog 212 0 = some (0, 0) := by kernel_rfl
@[simp] theorem tkd_213 : tkd Tryz.prog 213 = 2 := by kernel_rfl
@[simp] theorem tun_213 : (Tryz.prog.underlying 213).isSome = true := by kernel_rfl
@[simp] theorem tagg_213 : tagg Tryz.prog 213 = some false := by kernel_rfl
@[simp] theorem tsize_213 : tsize Tryz.prog 213 = some 1 := by kernel_rfl
@[simp] theorem tzero_213 : tzero Tryz.prog 213 = some (.int .u8 0) := by kernel_rfl
@[simp] theorem tint_213 : tint Tryz.prog 213 = some .u8 := by kernel_rfl
@[simp] theorem tkd_214 : tkd Tryz.prog 214 = 2 := by kernel_rfl
@[simp] theorem tun_214 : (Tryz.prog.underlying 214).isSome = true := by kernel_rfl
@[simp] theorem tagg_214 : tagg Tryz.prog 214 = some false := by kernel_rfl
@[simp] theorem tsize_214 : tsize Tryz.prog 214 = some 1 := by kernel_rfl
@[simp] theorem tzero_214 : tzero Tryz.prog 214 = some (.int .u8 0) := by kernel_rfl
@[simp] theorem tint_214 : tint Tryz.prog 214 = some .u8 := by kernel_rfl
@[simp] theorem tkd_216 : tkd Tryz.prog 216 = 2 := by kernel_rfl
@[simp] theorem tun_216 : (Tryz.prog.underlying 216).isSome = true := by kernel_rfl
@[simp] theorem tagg_216 : tagg Tryz.prog 216 = some false := by kernel_rfl
@[simp] theorem tsize_216 : tsize Tryz.prog 216 = some 1 := by kernel_rfl
@[simp] theorem tzero_216 : tzero Tryz.prog 216 = some (.int .i32 0) := by kernel_rfl
@[simp] theorem tint_216 : tint Tryz.prog 216 = some .i32 := by kernel_rfl
@[simp] theorem tkd_217 : tkd Tryz.prog 217 = 2 := by kernel_rfl
@[simp] theorem tun_217 : (Tryz.prog.underlying 217).isSome = true := by kernel_rfl
@[simp] theorem tagg_217 : tagg Tryz.prog 217 = some false := by kernel_rfl
@[simp] theorem tsize_217 : tsize Tryz.prog 217 = some 1 := by kernel_rfl
@[simp] theorem tzero_217 : tzero Tryz.prog 217 = some (.int .i32 0) := by kernel_rfl
@[simp] theorem tint_217 : tint Tryz.prog 217 = some .i32 := by kernel_rfl
@[simp] theorem tkd_218 : tkd Tryz.prog 218 = 9 := by kernel_rfl
@[simp] theorem tun_218 : (Tryz.prog.underlying 218).isSome = true := by kernel_rfl
@[simp] theorem tagg_218 : tagg Tryz.prog 218 = some true := by kernel_rfl
@[simp] theorem tsize_218 : tsize Tryz.prog 218 = some 11 := by kernel_rfl
@[simp] theorem tzero_218 : tzero Tryz.prog 218 = some (.agg #[.int .u64 0, .int .u64 0, .int .u32 0, .int .u8 0, .int .u8 0, .int .u8 0, .int .u8 0, .nilFunc, .pointer none, .int .i32 0, .int .i32 0]) := by kernel_rfl
@[simp] theorem tsizes_218 : tsizes Tryz.prog 218 = true := by kernel_rfl
@[simp] theorem tfield_218_0 : tfield Tryz.prog 218 0 = some (0, 12) := by kernel_rfl
@[simp] theorem tplace_218_0 : aplace Tryz.prog 218 0 = some (0, 1) := by kernel_rfl
@[simp] theorem tfield_218_1 : tfield Tryz.prog 218 1 = some (1, 12) := by kernel_rfl
@[simp] theorem tplace_218_1 : aplace Tryz.prog 218 1 = some (1, 1) := by kernel_rfl
@[simp] theorem tfield_218_2 : tfield Tryz.prog 218 2 = some (2, 186) := by kernel_rfl
@[simp] theorem tplace_218_2 : aplace Tryz.prog 218 2 = some (2, 1) := by kernel_rfl
@[simp] theorem tfield_218_3 : tfield Tryz.prog 218 3 = some (3, 213) := by kernel_rfl
@[simp] theorem tplace_218_3 : aplace Tryz.prog 218 3 = some (3, 1) := by kernel_rfl
@[simp] theorem tfield_218_4 : tfield Tryz.prog 218 4 = some (4, 5) := by kernel_rfl
@[simp] theorem tplace_218_4 : aplace Tryz.prog 218 4 = some (4, 1) := by kernel_rfl
@[simp] theorem tfield_218_5 : tfield Tryz.prog 218 5 = some (5, 5) := by kernel_rfl
@[simp] theorem tplace_218_5 : aplace Tryz.prog 218 5 = some (5, 1) := by kernel_rfl
@[simp] theorem tfield_218_6 : tfield Tryz.prog 218 6 = some (6, 214) := by kernel_rfl
@[simp] theorem tplace_218_6 : aplace Tryz.prog 218 6 = some (6, 1) := by kernel_rfl
@[simp] theorem tfield_218_7 : tfield Tryz.prog 218 7 = some (7, 215) := by kernel_rfl
@[simp] theorem tplace_218_7 : aplace Tryz.prog 218 7 = some (7, 1) := by kernel_rfl
@[simp] theorem tfield_218_8 : tfield Tryz.prog 218 8 = some (8, 149) := by kernel_rfl
@[simp] theorem tplace_218_8 : aplace Tryz.prog 218 8 = some (8, 1) := by kernel_rfl
@[simp] theorem tfield_218_9 : tfield Tryz.prog 218 9 = some (9, 216) := by kernel_rfl
@[simp] theorem tplace_218_9 : aplace Tryz.prog 218 9 = some (9, 1) := by kernel_rfl
@[simp] theorem tfield_218_10 : tfield Tryz.prog 218 10 = some (10, 217) := by kernel_rfl
@[simp] theorem tplace_218_10 : aplace Tryz.prog 218 10 = some (10, 1) := by kernel_rfl
@[simp] theorem tkd_219 : tkd Tryz.prog 219 = 9 := by kernel_rfl
@[simp] theorem tun_219 : (Tryz.prog.underlying 219).isSome = true := by kernel_rfl
@[simp] theorem tagg_219 : tagg Tryz.prog 219 = some true := by kernel_rfl
@[simp] theorem tsize_219 : tsize Tryz.prog 219 = some 11 := by kernel_rfl
@[simp] theorem tzero_219 : tzero Tryz.prog 219 = some (.agg #[.int .u64 0, .int .u64 0, .int .u32 0, .int .u8 0, .int .u8 0, .int .u8 0, .int .u8 0, .nilFunc, .pointer none, .int .i32 0, .int .i32 0]) := by kernel_rfl
@[simp] theorem tsizes_219 : tsizes Tryz.prog 219 = true := by kernel_rfl
@[simp] theorem tfield_219_0 : tfield Tryz.prog 219 0 = some (0, 12) := by kernel_rfl
@[simp] theorem tplace_219_0 : aplace Tryz.prog 219 0 = some (0, 1) := by kernel_rfl
@[simp] theorem tfield_219_1 : tfield Tryz.prog 219 1 = some (1, 12) := by kernel_rfl
@[simp] theorem tplace_219_1 : aplace Tryz.prog 219 1 = some (1, 1) := by kernel_rfl
@[simp] theorem tfield_219_2 : tfield Tryz.prog 219 2 = some (2, 186) := by kernel_rfl
@[simp] theorem tplace_219_2 : aplace Tryz.prog 219 2 = some (2, 1) := by kernel_rfl
@[simp] theorem tfield_219_3 : tfield Tryz.prog 219 3 = some (3, 213) := by kernel_rfl
@[simp] theorem tplace_219_3 : aplace Tryz.prog 219 3 = some (3, 1) := by kernel_rfl
@[simp] theorem tfield_219_4 : tfield Tryz.prog 219 4 = some (4, 5) := by kernel_rfl
@[simp] theorem tplace_219_4 : aplace Tryz.prog 219 4 = some (4, 1) := by kernel_rfl
@[simp] theorem tfield_219_5 : tfield Tryz.prog 219 5 = some (5, 5) := by kernel_rfl
@[simp] theorem tplace_219_5 : aplace Tryz.prog 219 5 = some (5, 1) := by kernel_rfl
@[simp] theorem tfield_219_6 : tfield Tryz.prog 219 6 = some (6, 214) := by kernel_rfl
@[simp] theorem tplace_219_6 : aplace Tryz.prog 219 6 = some (6, 1) := by kernel_rfl
@[simp] theorem tfield_219_7 : tfield Tryz.prog 219 7 = some (7, 215) := by kernel_rfl
@[simp] theorem tplace_219_7 : aplace Tryz.prog 219 7 = some (7, 1) := by kernel_rfl
@[simp] theorem tfield_219_8 : tfield Tryz.prog 219 8 = some (8, 149) := by kernel_rfl
@[simp] theorem tplace_219_8 : aplace Tryz.prog 219 8 = some (8, 1) := by kernel_rfl
@[simp] theorem tfield_219_9 : tfield Tryz.prog 219 9 = some (9, 216) := by kernel_rfl
@[simp] theorem tplace_219_9 : aplace Tryz.prog 219 9 = some (9, 1) := by kernel_rfl
@[simp] theorem tfield_219_10 : tfield Tryz.prog 219 10 = some (10, 217) := by kernel_rfl
@[simp] theorem tplace_219_10 : aplace Tryz.prog 219 10 = some (10, 1) := by kernel_rfl
@[simp] theorem tfs_25 : tfs Tryz.prog 25 = some [(false, 23, 0), (false, 4, 1)] := by kernel_rfl
@[simp] theorem tfs_42 : tfs Tryz.prog 42 = some [(false, 3, 0), (false, 3, 1), (false, 3, 2)] := by kernel_rfl
@[simp] theorem tfs_44 : tfs Tryz.prog 44 = some [(false, 42, 0), (false, 3, 3), (false, 3, 4), (false, 3, 5), (false, 3, 6)] := by kernel_rfl
@[simp] theorem tfs_37 : tfs Tryz.prog 37 = some [(false, 25, 0), (false, 25, 2), (false, 25, 4), (false, 25, 6), (false, 25, 8)] := by kernel_rfl
@[simp] theorem can_3 : canCall Tryz.prog 3 = true := by kernel_rfl
@[simp] theorem can_4 : canCall Tryz.prog 4 = true := by kernel_rfl
@[simp] theorem can_5 : canCall Tryz.prog 5 = true := by kernel_rfl
@[simp] theorem can_6 : canCall Tryz.prog 6 = true := by kernel_rfl
@[simp] theorem can_7 : canCall Tryz.prog 7 = true := by kernel_rfl
@[simp] theorem can_8 : canCall Tryz.prog 8 = true := by kernel_rfl
@[simp] theorem can_9 : canCall Tryz.prog 9 = true := by kernel_rfl
@[simp] theorem can_10 : canCall Tryz.prog 10 = true := by kernel_rfl
@[simp] theorem can_11 : canCall Tryz.prog 11 = true := by kernel_rfl
@[simp] theorem can_12 : canCall Tryz.prog 12 = true := by kernel_rfl
@[simp] theorem can_13 : canCall Tryz.prog 13 = true := by kernel_rfl
@[simp] theorem can_14 : canCall Tryz.prog 14 = true := by kernel_rfl
@[simp] theorem can_15 : canCall Tryz.prog 15 = true := by kernel_rfl
@[simp] theorem can_16 : canCall Tryz.prog 16 = true := by kernel_rfl
@[simp] theorem can_17 : canCall Tryz.prog 17 = true := by kernel_rfl
@[simp] theorem can_18 : canCall Tryz.prog 18 = true := by kernel_rfl
@[simp] theorem can_19 : canCall Tryz.prog 19 = true := by kernel_rfl
@[simp] theorem can_20 : canCall Tryz.prog 20 = true := by kernel_rfl
@[simp] theorem can_21 : canCall Tryz.prog 21 = true := by kernel_rfl
@[simp] theorem can_22 : canCall Tryz.prog 22 = true := by kernel_rfl
@[simp] theorem can_23 : canCall Tryz.prog 23 = true := by kernel_rfl
@[simp] theorem can_24 : canCall Tryz.prog 24 = true := by kernel_rfl
@[simp] theorem can_25 : canCall Tryz.prog 25 = true := by kernel_rfl
@[simp] theorem can_26 : canCall Tryz.prog 26 = true := by kernel_rfl
@[simp] theorem can_27 : canCall Tryz.prog 27 = true := by kernel_rfl
@[simp] theorem can_28 : canCall Tryz.prog 28 = true := by kernel_rfl
@[simp] theorem can_29 : canCall Tryz.prog 29 = true := by kernel_rfl
@[simp] theorem can_30 : canCall Tryz.prog 30 = true := by kernel_rfl
@[simp] theorem can_31 : canCall Tryz.prog 31 = true := by kernel_rfl
@[simp] theorem can_32 : canCall Tryz.prog 32 = true := by kernel_rfl
@[simp] theorem can_33 : canCall Tryz.prog 33 = true := by kernel_rfl
@[simp] theorem can_34 : canCall Tryz.prog 34 = true := by kernel_rfl
@[simp] theorem can_35 : canCall Tryz.prog 35 = true := by kernel_rfl
@[simp] theorem can_36 : canCall Tryz.prog 36 = true := by kernel_rfl
@[simp] theorem can_37 : canCall Tryz.prog 37 = true := by kernel_rfl
@[simp] theorem can_38 : canCall Tryz.prog 38 = true := by kernel_rfl
@[simp] theorem can_39 : canCall Tryz.prog 39 = true := by kernel_rfl
@[simp] theorem can_40 : canCall Tryz.prog 40 = true := by kernel_rfl
@[simp] theorem can_41 : canCall Tryz.prog 41 = true := by kernel_rfl
@[simp] theorem can_42 : canCall Tryz.prog 42 = true := by kernel_rfl
@[simp] theorem can_43 : canCall Tryz.prog 43 = true := by kernel_rfl
@[simp] theorem can_44 : canCall Tryz.prog 44 = true := by kernel_rfl
@[simp] theorem can_45 : canCall Tryz.prog 45 = true := by kernel_rfl
@[simp] theorem can_46 : canCall Tryz.prog 46 = true := by kernel_rfl
@[simp] theorem can_47 : canCall Tryz.prog 47 = true := by kernel_rfl
@[simp] theorem can_48 : canCall Tryz.prog 48 = true := by kernel_rfl
@[simp] theorem can_49 : canCall Tryz.prog 49 = true := by kernel_rfl
@[simp] theorem can_50 : canCall Tryz.prog 50 = true := by kernel_rfl
@[simp] theorem can_51 : canCall Tryz.prog 51 = true := by kernel_rfl
@[simp] theorem can_52 : canCall Tryz.prog 52 = true := by kernel_rfl
@[simp] theorem can_53 : canCall Tryz.prog 53 = true := by kernel_rfl
@[simp] theorem can_54 : canCall Tryz.prog 54 = true := by kernel_rfl
@[simp] theorem can_55 : canCall Tryz.prog 55 = true := by kernel_rfl
@[simp] theorem can_56 : canCall Tryz.prog 56 = true := by kernel_rfl
@[simp] theorem can_57 : canCall Tryz.prog 57 = true := by kernel_rfl
@[simp] theorem can_58 : canCall Tryz.prog 58 = true := by kernel_rfl
@[simp] theorem can_59 : canCall Tryz.prog 59 = true := by kernel_rfl
@[simp] theorem can_60 : canCall Tryz.prog 60 = true := by kernel_rfl
@[simp] theorem can_61 : canCall Tryz.prog 61 = true := by kernel_rfl
@[simp] theorem can_62 : canCall Tryz.prog 62 = true := by kernel_rfl
@[simp] theorem can_63 : canCall Tryz.prog 63 = true := by kernel_rfl
@[simp] theorem can_64 : canCall Tryz.prog 64 = true := by kernel_rfl
@[simp] theorem can_65 : canCall Tryz.prog 65 = true := by kernel_rfl
@[simp] theorem can_66 : canCall Tryz.prog 66 = true := by kernel_rfl
@[simp] theorem can_67 : canCall Tryz.prog 67 = true := by kernel_rfl
@[simp] theorem can_68 : canCall Tryz.prog 68 = true := by kernel_rfl
@[simp] theorem can_69 : canCall Tryz.prog 69 = true := by kernel_rfl
@[simp] theorem can_70 : canCall Tryz.prog 70 = true := by kernel_rfl
@[simp] theorem can_71 : canCall Tryz.prog 71 = true := by kernel_rfl
@[simp] theorem can_72 : canCall Tryz.prog 72 = true := by kernel_rfl
@[simp] theorem can_73 : canCall Tryz.prog 73 = true := by kernel_rfl
@[simp] theorem can_74 : canCall Tryz.prog 74 = true := by kernel_rfl
@[simp] theorem can_75 : canCall Tryz.prog 75 = true := by kernel_rfl
@[simp] theorem can_76 : canCall Tryz.prog 76 = true := by kernel_rfl
@[simp] theorem can_77 : canCall Tryz.prog 77 = true := by kernel_rfl
@[simp] theorem can_78 : canCall Tryz.prog 78 = true := by kernel_rfl
@[simp] theorem can_79 : canCall Tryz.prog 79 = true := by kernel_rfl
@[simp] theorem can_81 : canCall Tryz.prog 81 = true := by kernel_rfl
@[simp] theorem can_82 : canCall Tryz.prog 82 = true := by kernel_rfl
@[simp] theorem can_83 : canCall Tryz.prog 83 = true := by kernel_rfl
@[simp] theorem can_84 : canCall Tryz.prog 84 = true := by kernel_rfl
@[simp] theorem can_85 : canCall Tryz.prog 85 = true := by kernel_rfl
@[simp] theorem can_86 : canCall Tryz.prog 86 = true := by kernel_rfl
@[simp] theorem can_88 : canCall Tryz.prog 88 = true := by kernel_rfl
@[simp] theorem can_89 : canCall Tryz.prog 89 = true := by kernel_rfl
@[simp] theorem can_90 : canCall Tryz.prog 90 = true := by kernel_rfl
@[simp] theorem can_91 : canCall Tryz.prog 91 = true := by kernel_rfl
@[simp] theorem can_92 : canCall Tryz.prog 92 = true := by kernel_rfl
@[simp] theorem can_93 : canCall Tryz.prog 93 = true := by kernel_rfl
@[simp] theorem can_94 : canCall Tryz.prog 94 = true := by kernel_rfl
@[simp] theorem can_95 : canCall Tryz.prog 95 = true := by kernel_rfl
@[simp] theorem can_96 : canCall Tryz.prog 96 = true := by kernel_rfl
@[simp] theorem can_97 : canCall Tryz.prog 97 = true := by kernel_rfl
@[simp] theorem can_98 : canCall Tryz.prog 98 = true := by kernel_rfl
@[simp] theorem can_99 : canCall Tryz.prog 99 = true := by kernel_rfl
@[simp] theorem can_100 : canCall Tryz.prog 100 = true := by kernel_rfl
@[simp] theorem can_101 : canCall Tryz.prog 101 = true := by kernel_rfl
@[simp] theorem can_102 : canCall Tryz.prog 102 = true := by kernel_rfl
@[simp] theorem can_103 : canCall Tryz.prog 103 = true := by kernel_rfl
@[simp] theorem can_104 : canCall Tryz.prog 104 = true := by kernel_rfl
@[simp] theorem can_105 : canCall Tryz.prog 105 = true := by kernel_rfl
@[simp] theorem can_106 : canCall Tryz.prog 106 = true := by kernel_rfl
@[simp] theorem can_107 : canCall Tryz.prog 107 = true := by kernel_rfl
@[simp] theorem can_108 : canCall Tryz.prog 108 = true := by kernel_rfl
@[simp] theorem can_109 : canCall Tryz.prog 109 = true := by kernel_rfl
@[simp] theorem can_110 : canCall Tryz.prog 110 = true := by kernel_rfl
@[simp] theorem can_111 : canCall Tryz.prog 111 = true := by kernel_rfl
@[simp] theorem can_114 : canCall Tryz.prog 114 = true := by kernel_rfl
@[simp] theorem can_115 : canCall Tryz.prog 115 = true := by kernel_rfl
@[simp] theorem can_116 : canCall Tryz.prog 116 = true := by kernel_rfl
@[simp] theorem can_117 : canCall Tryz.prog 117 = true := by kernel_rfl
@[simp] theorem can_118 : canCall Tryz.prog 118 = true := by kernel_rfl
@[simp] theorem can_119 : canCall Tryz.prog 119 = true := by kernel_rfl
@[simp] theorem can_120 : canCall Tryz.prog 120 = true := by kernel_rfl
@[simp] theorem can_121 : canCall Tryz.prog 121 = true := by kernel_rfl
@[simp] theorem can_122 : canCall Tryz.prog 122 = true := by kernel_rfl
@[simp] theorem can_123 : canCall Tryz.prog 123 = true := by kernel_rfl
@[simp] theorem can_124 : canCall Tryz.prog 124 = true := by kernel_rfl
@[simp] theorem can_125 : canCall Tryz.prog 125 = true := by kernel_rfl
@[simp] theorem can_128 : canCall Tryz.prog 128 = true := by kernel_rfl
@[simp] theorem can_129 : canCall Tryz.prog 129 = true := by kernel_rfl
@[simp] theorem can_130 : canCall Tryz.prog 130 = true := by kernel_rfl
@[simp] theorem can_131 : canCall Tryz.prog 131 = true := by kernel_rfl
@[simp] theorem can_132 : canCall Tryz.prog 132 = true := by kernel_rfl
@[simp] theorem can_133 : canCall Tryz.prog 133 = true := by kernel_rfl
@[simp] theorem can_134 : canCall Tryz.prog 134 = true := by kernel_rfl
@[simp] theorem can_136 : canCall Tryz.prog 136 = true := by kernel_rfl
@[simp] theorem can_137 : canCall Tryz.prog 137 = true := by kernel_rfl
@[simp] theorem can_138 : canCall Tryz.prog 138 = true := by kernel_rfl
@[simp] theorem can_139 : canCall Tryz.prog 139 = true := by kernel_rfl
@[simp] theorem can_140 : canCall Tryz.prog 140 = true := by kernel_rfl
@[simp] theorem can_147 : canCall Tryz.prog 147 = true := by kernel_rfl
@[simp] theorem can_148 : canCall Tryz.prog 148 = true := by kernel_rfl
@[simp] theorem can_153 : canCall Tryz.prog 153 = true := by kernel_rfl
@[simp] theorem can_154 : canCall Tryz.prog 154 = true := by kernel_rfl
@[simp] theorem can_155 : canCall Tryz.prog 155 = true := by kernel_rfl
@[simp] theorem can_157 : canCall Tryz.prog 157 = true := by kernel_rfl
@[simp] theorem can_158 : canCall Tryz.prog 158 = true := by kernel_rfl
@[simp] theorem can_159 : canCall Tryz.prog 159 = true := by kernel_rfl
@[simp] theorem can_160 : canCall Tryz.prog 160 = true := by kernel_rfl
@[simp] theorem can_161 : canCall Tryz.prog 161 = true := by kernel_rfl
@[simp] theorem can_165 : canCall Tryz.prog 165 = true := by kernel_rfl
@[simp] theorem can_166 : canCall Tryz.prog 166 = true := by kernel_rfl
@[simp] theorem can_169 : canCall Tryz.prog 169 = true := by kernel_rfl
@[simp] theorem can_170 : canCall Tryz.prog 170 = true := by kernel_rfl
@[simp] theorem can_173 : canCall Tryz.prog 173 = true := by kernel_rfl
@[simp] theorem can_174 : canCall Tryz.prog 174 = true := by kernel_rfl
@[simp] theorem can_175 : canCall Tryz.prog 175 = true := by kernel_rfl
@[simp] theorem can_176 : canCall Tryz.prog 176 = true := by kernel_rfl
@[simp] theorem can_177 : canCall Tryz.prog 177 = true := by kernel_rfl
@[simp] theorem can_209 : canCall Tryz.prog 209 = true := by kernel_rfl
end Go.Proofs.YtdpgnbinekcgdaaGreatDoor
