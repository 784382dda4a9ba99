/- Small facts on the types and the functions of this program, printed by facts.py. -/
import Derived.Test.YtdpgnbinekcgdaaDoorRgN
import Derived.Test.YtdpgnbinekcgdaaDoorRows
namespace Go.Proofs.YtdpgnbinekcgdaaDoor
open Rg
theorem f_mixed : Tryd.prog.follows .mixedOrders = true := by kernel_rfl
@[simp] theorem tkd_2 : tkd Tryd.prog 2 = 2 := by kernel_rfl
@[simp] theorem tun_2 : (Tryd.prog.underlying 2).isSome = true := by kernel_rfl
@[simp] theorem tagg_2 : tagg Tryd.prog 2 = some false := by kernel_rfl
@[simp] theorem tsize_2 : tsize Tryd.prog 2 = some 1 := by kernel_rfl
@[simp] theorem tzero_2 : tzero Tryd.prog 2 = some (.int .i64 0) := by kernel_rfl
@[simp] theorem tint_2 : tint Tryd.prog 2 = some .i64 := by kernel_rfl
@[simp] theorem tkd_3 : tkd Tryd.prog 3 = 2 := by kernel_rfl
@[simp] theorem tun_3 : (Tryd.prog.underlying 3).isSome = true := by kernel_rfl
@[simp] theorem tagg_3 : tagg Tryd.prog 3 = some false := by kernel_rfl
@[simp] theorem tsize_3 : tsize Tryd.prog 3 = some 1 := by kernel_rfl
@[simp] theorem tzero_3 : tzero Tryd.prog 3 = some (.int .i64 0) := by kernel_rfl
@[simp] theorem tint_3 : tint Tryd.prog 3 = some .i64 := by kernel_rfl
@[simp] theorem tkd_4 : tkd Tryd.prog 4 = 1 := by kernel_rfl
@[simp] theorem tun_4 : (Tryd.prog.underlying 4).isSome = true := by kernel_rfl
@[simp] theorem tagg_4 : tagg Tryd.prog 4 = some false := by kernel_rfl
@[simp] theorem tsize_4 : tsize Tryd.prog 4 = some 1 := by kernel_rfl
@[simp] theorem tzero_4 : tzero Tryd.prog 4 = some (.bool false) := by kernel_rfl
@[simp] theorem tkd_5 : tkd Tryd.prog 5 = 2 := by kernel_rfl
@[simp] theorem tun_5 : (Tryd.prog.underlying 5).isSome = true := by kernel_rfl
@[simp] theorem tagg_5 : tagg Tryd.prog 5 = some false := by kernel_rfl
@[simp] theorem tsize_5 : tsize Tryd.prog 5 = some 1 := by kernel_rfl
@[simp] theorem tzero_5 : tzero Tryd.prog 5 = some (.int .u8 0) := by kernel_rfl
@[simp] theorem tint_5 : tint Tryd.prog 5 = some .u8 := by kernel_rfl
@[simp] theorem tkd_6 : tkd Tryd.prog 6 = 2 := by kernel_rfl
@[simp] theorem tun_6 : (Tryd.prog.underlying 6).isSome = true := by kernel_rfl
@[simp] theorem tagg_6 : tagg Tryd.prog 6 = some false := by kernel_rfl
@[simp] theorem tsize_6 : tsize Tryd.prog 6 = some 1 := by kernel_rfl
@[simp] theorem tzero_6 : tzero Tryd.prog 6 = some (.int .u8 0) := by kernel_rfl
@[simp] theorem tint_6 : tint Tryd.prog 6 = some .u8 := by kernel_rfl
@[simp] theorem tkd_7 : tkd Tryd.prog 7 = 9 := by kernel_rfl
@[simp] theorem tun_7 : (Tryd.prog.underlying 7).isSome = true := by kernel_rfl
@[simp] theorem tagg_7 : tagg Tryd.prog 7 = some true := by kernel_rfl
@[simp] theorem tsize_7 : tsize Tryd.prog 7 = some 4 := by kernel_rfl
@[simp] theorem tzero_7 : tzero Tryd.prog 7 = some (.agg #[.int .i64 0, .int .i64 0, .bool false, .int .u8 0]) := by kernel_rfl
@[simp] theorem tsizes_7 : tsizes Tryd.prog 7 = true := by kernel_rfl
@[simp] theorem tfield_7_0 : tfield Tryd.prog 7 0 = some (0, 2) := by kernel_rfl
@[simp] theorem tplace_7_0 : aplace Tryd.prog 7 0 = some (0, 1) := by kernel_rfl
@[simp] theorem tfield_7_1 : tfield Tryd.prog 7 1 = some (1, 3) := by kernel_rfl
@[simp] theorem tplace_7_1 : aplace Tryd.prog 7 1 = some (1, 1) := by kernel_rfl
@[simp] theorem tfield_7_2 : tfield Tryd.prog 7 2 = some (2, 4) := by kernel_rfl
@[simp] theorem tplace_7_2 : aplace Tryd.prog 7 2 = some (2, 1) := by kernel_rfl
@[simp] theorem tfield_7_3 : tfield Tryd.prog 7 3 = some (3, 6) := by kernel_rfl
@[simp] theorem tplace_7_3 : aplace Tryd.prog 7 3 = some (3, 1) := by kernel_rfl
@[simp] theorem tkd_8 : tkd Tryd.prog 8 = 9 := by kernel_rfl
@[simp] theorem tun_8 : (Tryd.prog.underlying 8).isSome = true := by kernel_rfl
@[simp] theorem tagg_8 : tagg Tryd.prog 8 = some true := by kernel_rfl
@[simp] theorem tsize_8 : tsize Tryd.prog 8 = some 4 := by kernel_rfl
@[simp] theorem tzero_8 : tzero Tryd.prog 8 = some (.agg #[.int .i64 0, .int .i64 0, .bool false, .int .u8 0]) := by kernel_rfl
@[simp] theorem tsizes_8 : tsizes Tryd.prog 8 = true := by kernel_rfl
@[simp] theorem tfield_8_0 : tfield Tryd.prog 8 0 = some (0, 2) := by kernel_rfl
@[simp] theorem tplace_8_0 : aplace Tryd.prog 8 0 = some (0, 1) := by kernel_rfl
@[simp] theorem tfield_8_1 : tfield Tryd.prog 8 1 = some (1, 3) := by kernel_rfl
@[simp] theorem tplace_8_1 : aplace Tryd.prog 8 1 = some (1, 1) := by kernel_rfl
@[simp] theorem tfield_8_2 : tfield Tryd.prog 8 2 = some (2, 4) := by kernel_rfl
@[simp] theorem tplace_8_2 : aplace Tryd.prog 8 2 = some (2, 1) := by kernel_rfl
@[simp] theorem tfield_8_3 : tfield Tryd.prog 8 3 = some (3, 6) := by kernel_rfl
@[simp] theorem tplace_8_3 : aplace Tryd.prog 8 3 = some (3, 1) := by kernel_rfl
@[simp] theorem tkd_9 : tkd Tryd.prog 9 = 3 := by kernel_rfl
@[simp] theorem tun_9 : (Tryd.prog.underlying 9).isSome = true := by kernel_rfl
@[simp] theorem tagg_9 : tagg Tryd.prog 9 = some false := by kernel_rfl
@[simp] theorem tsize_9 : tsize Tryd.prog 9 = some 1 := by kernel_rfl
@[simp] theorem tzero_9 : tzero Tryd.prog 9 = some (.string ByteArray.empty) := by kernel_rfl
@[simp] theorem tkd_10 : tkd Tryd.prog 10 = 3 := by kernel_rfl
@[simp] theorem tun_10 : (Tryd.prog.underlying 10).isSome = true := by kernel_rfl
@[simp] theorem tagg_10 : tagg Tryd.prog 10 = some false := by kernel_rfl
@[simp] theorem tsize_10 : tsize Tryd.prog 10 = some 1 := by kernel_rfl
@[simp] theorem tzero_10 : tzero Tryd.prog 10 = some (.string ByteArray.empty) := by kernel_rfl
@[simp] theorem tkd_11 : tkd Tryd.prog 11 = 3 := by kernel_rfl
@[simp] theorem tun_11 : (Tryd.prog.underlying 11).isSome = true := by kernel_rfl
@[simp] theorem tagg_11 : tagg Tryd.prog 11 = some false := by kernel_rfl
@[simp] theorem tsize_11 : tsize Tryd.prog 11 = some 1 := by kernel_rfl
@[simp] theorem tzero_11 : tzero Tryd.prog 11 = some (.string ByteArray.empty) := by kernel_rfl
@[simp] theorem tkd_12 : tkd Tryd.prog 12 = 2 := by kernel_rfl
@[simp] theorem tun_12 : (Tryd.prog.underlying 12).isSome = true := by kernel_rfl
@[simp] theorem tagg_12 : tagg Tryd.prog 12 = some false := by kernel_rfl
@[simp] theorem tsize_12 : tsize Tryd.prog 12 = some 1 := by kernel_rfl
@[simp] theorem tzero_12 : tzero Tryd.prog 12 = some (.int .u64 0) := by kernel_rfl
@[simp] theorem tint_12 : tint Tryd.prog 12 = some .u64 := by kernel_rfl
@[simp] theorem tkd_13 : tkd Tryd.prog 13 = 9 := by kernel_rfl
@[simp] theorem tun_13 : (Tryd.prog.underlying 13).isSome = true := by kernel_rfl
@[simp] theorem tagg_13 : tagg Tryd.prog 13 = some true := by kernel_rfl
@[simp] theorem tsize_13 : tsize Tryd.prog 13 = some 2 := by kernel_rfl
@[simp] theorem tzero_13 : tzero Tryd.prog 13 = some (.agg #[.string ByteArray.empty, .int .u64 0]) := by kernel_rfl
@[simp] theorem tsizes_13 : tsizes Tryd.prog 13 = true := by kernel_rfl
@[simp] theorem tfield_13_0 : tfield Tryd.prog 13 0 = some (0, 9) := by kernel_rfl
@[simp] theorem tplace_13_0 : aplace Tryd.prog 13 0 = some (0, 1) := by kernel_rfl
@[simp] theorem tfield_13_1 : tfield Tryd.prog 13 1 = some (1, 12) := by kernel_rfl
@[simp] theorem tplace_13_1 : aplace Tryd.prog 13 1 = some (1, 1) := by kernel_rfl
@[simp] theorem tkd_14 : tkd Tryd.prog 14 = 9 := by kernel_rfl
@[simp] theorem tun_14 : (Tryd.prog.underlying 14).isSome = true := by kernel_rfl
@[simp] theorem tagg_14 : tagg Tryd.prog 14 = some true := by kernel_rfl
@[simp] theorem tsize_14 : tsize Tryd.prog 14 = some 2 := by kernel_rfl
@[simp] theorem tzero_14 : tzero Tryd.prog 14 = some (.agg #[.string ByteArray.empty, .int .u64 0]) := by kernel_rfl
@[simp] theorem tsizes_14 : tsizes Tryd.prog 14 = true := by kernel_rfl
@[simp] theorem tfield_14_0 : tfield Tryd.prog 14 0 = some (0, 9) := by kernel_rfl
@[simp] theorem tplace_14_0 : aplace Tryd.prog 14 0 = some (0, 1) := by kernel_rfl
@[simp] theorem tfield_14_1 : tfield Tryd.prog 14 1 = some (1, 12) := by kernel_rfl
@[simp] theorem tplace_14_1 : aplace Tryd.prog 14 1 = some (1, 1) := by kernel_rfl
@[simp] theorem tkd_15 : tkd Tryd.prog 15 = 4 := by kernel_rfl
@[simp] theorem tun_15 : (Tryd.prog.underlying 15).isSome = true := by kernel_rfl
@[simp] theorem tagg_15 : tagg Tryd.prog 15 = some false := by kernel_rfl
@[simp] theorem tsize_15 : tsize Tryd.prog 15 = some 1 := by kernel_rfl
@[simp] theorem tzero_15 : tzero Tryd.prog 15 = some (.pointer none) := by kernel_rfl
@[simp] theorem tkd_16 : tkd Tryd.prog 16 = 4 := by kernel_rfl
@[simp] theorem tun_16 : (Tryd.prog.underlying 16).isSome = true := by kernel_rfl
@[simp] theorem tagg_16 : tagg Tryd.prog 16 = some false := by kernel_rfl
@[simp] theorem tsize_16 : tsize Tryd.prog 16 = some 1 := by kernel_rfl
@[simp] theorem tzero_16 : tzero Tryd.prog 16 = some (.pointer none) := by kernel_rfl
@[simp] theorem tkd_17 : tkd Tryd.prog 17 = 4 := by kernel_rfl
@[simp] theorem tun_17 : (Tryd.prog.underlying 17).isSome = true := by kernel_rfl
@[simp] theorem tagg_17 : tagg Tryd.prog 17 = some false := by kernel_rfl
@[simp] theorem tsize_17 : tsize Tryd.prog 17 = some 1 := by kernel_rfl
@[simp] theorem tzero_17 : tzero Tryd.prog 17 = some (.pointer none) := by kernel_rfl
@[simp] theorem tkd_18 : tkd Tryd.prog 18 = 9 := by kernel_rfl
@[simp] theorem tun_18 : (Tryd.prog.underlying 18).isSome = true := by kernel_rfl
@[simp] theorem tagg_18 : tagg Tryd.prog 18 = some true := by kernel_rfl
@[simp] theorem tsize_18 : tsize Tryd.prog 18 = some 1 := by kernel_rfl
@[simp] theorem tzero_18 : tzero Tryd.prog 18 = some (.agg #[.pointer none]) := by kernel_rfl
@[simp] theorem tsizes_18 : tsizes Tryd.prog 18 = true := by kernel_rfl
@[simp] theorem tfield_18_0 : tfield Tryd.prog 18 0 = some (0, 17) := by kernel_rfl
@[simp] theorem tplace_18_0 : aplace Tryd.prog 18 0 = some (0, 1) := by kernel_rfl
@[simp] theorem tkd_19 : tkd Tryd.prog 19 = 9 := by kernel_rfl
@[simp] theorem tun_19 : (Tryd.prog.underlying 19).isSome = true := by kernel_rfl
@[simp] theorem tagg_19 : tagg Tryd.prog 19 = some true := by kernel_rfl
@[simp] theorem tsize_19 : tsize Tryd.prog 19 = some 1 := by kernel_rfl
@[simp] theorem tzero_19 : tzero Tryd.prog 19 = some (.agg #[.pointer none]) := by kernel_rfl
@[simp] theorem tsizes_19 : tsizes Tryd.prog 19 = true := by kernel_rfl
@[simp] theorem tfield_19_0 : tfield Tryd.prog 19 0 = some (0, 17) := by kernel_rfl
@[simp] theorem tplace_19_0 : aplace Tryd.prog 19 0 = some (0, 1) := by kernel_rfl
@[simp] theorem tkd_20 : tkd Tryd.prog 20 = 8 := by kernel_rfl
@[simp] theorem tun_20 : (Tryd.prog.underlying 20).isSome = true := by kernel_rfl
@[simp] theorem tagg_20 : tagg Tryd.prog 20 = some false := by kernel_rfl
@[simp] theorem tsize_20 : tsize Tryd.prog 20 = some 1 := by kernel_rfl
@[simp] theorem tzero_20 : tzero Tryd.prog 20 = some (.nilIface) := by kernel_rfl
@[simp] theorem tkd_21 : tkd Tryd.prog 21 = 2 := by kernel_rfl
@[simp] theorem tun_21 : (Tryd.prog.underlying 21).isSome = true := by kernel_rfl
@[simp] theorem tagg_21 : tagg Tryd.prog 21 = some false := by kernel_rfl
@[simp] theorem tsize_21 : tsize Tryd.prog 21 = some 1 := by kernel_rfl
@[simp] theorem tzero_21 : tzero Tryd.prog 21 = some (.int .i32 0) := by kernel_rfl
@[simp] theorem tint_21 : tint Tryd.prog 21 = some .i32 := by kernel_rfl
@[simp] theorem tkd_22 : tkd Tryd.prog 22 = 2 := by kernel_rfl
@[simp] theorem tun_22 : (Tryd.prog.underlying 22).isSome = true := by kernel_rfl
@[simp] theorem tagg_22 : tagg Tryd.prog 22 = some false := by kernel_rfl
@[simp] theorem tsize_22 : tsize Tryd.prog 22 = some 1 := by kernel_rfl
@[simp] theorem tzero_22 : tzero Tryd.prog 22 = some (.int .u64 0) := by kernel_rfl
@[simp] theorem tint_22 : tint Tryd.prog 22 = some .u64 := by kernel_rfl
@[simp] theorem tkd_23 : tkd Tryd.prog 23 = 9 := by kernel_rfl
@[simp] theorem tun_23 : (Tryd.prog.underlying 23).isSome = true := by kernel_rfl
@[simp] theorem tagg_23 : tagg Tryd.prog 23 = some true := by kernel_rfl
@[simp] theorem tsize_23 : tsize Tryd.prog 23 = some 2 := by kernel_rfl
@[simp] theorem tzero_23 : tzero Tryd.prog 23 = some (.agg #[.int .u64 0, .bool false]) := by kernel_rfl
@[simp] theorem tsizes_23 : tsizes Tryd.prog 23 = true := by kernel_rfl
@[simp] theorem tfield_23_0 : tfield Tryd.prog 23 0 = some (0, 22) := by kernel_rfl
@[simp] theorem tplace_23_0 : aplace Tryd.prog 23 0 = some (0, 1) := by kernel_rfl
@[simp] theorem tfield_23_1 : tfield Tryd.prog 23 1 = some (1, 4) := by kernel_rfl
@[simp] theorem tplace_23_1 : aplace Tryd.prog 23 1 = some (1, 1) := by kernel_rfl
@[simp] theorem tkd_24 : tkd Tryd.prog 24 = 9 := by kernel_rfl
@[simp] theorem tun_24 : (Tryd.prog.underlying 24).isSome = true := by kernel_rfl
@[simp] theorem tagg_24 : tagg Tryd.prog 24 = some true := by kernel_rfl
@[simp] theorem tsize_24 : tsize Tryd.prog 24 = some 2 := by kernel_rfl
@[simp] theorem tzero_24 : tzero Tryd.prog 24 = some (.agg #[.int .u64 0, .bool false]) := by kernel_rfl
@[simp] theorem tsizes_24 : tsizes Tryd.prog 24 = true := by kernel_rfl
@[simp] theorem tfield_24_0 : tfield Tryd.prog 24 0 = some (0, 22) := by kernel_rfl
@[simp] theorem tplace_24_0 : aplace Tryd.prog 24 0 = some (0, 1) := by kernel_rfl
@[simp] theorem tfield_24_1 : tfield Tryd.prog 24 1 = some (1, 4) := by kernel_rfl
@[simp] theorem tplace_24_1 : aplace Tryd.prog 24 1 = some (1, 1) := by kernel_rfl
@[simp] theorem tkd_25 : tkd Tryd.prog 25 = 10 := by kernel_rfl
@[simp] theorem tun_25 : (Tryd.prog.underlying 25).isSome = true := by kernel_rfl
@[simp] theorem tagg_25 : tagg Tryd.prog 25 = some true := by kernel_rfl
@[simp] theorem tsize_25 : tsize Tryd.prog 25 = some 10 := by kernel_rfl
@[simp] theorem tzero_25 : tzero Tryd.prog 25 = some (.agg #[.int .u64 0, .bool false, .int .u64 0, .bool false, .int .u64 0, .bool false, .int .u64 0, .bool false, .int .u64 0, .bool false]) := by kernel_rfl
@[simp] theorem tarr_25 : tarr Tryd.prog 25 = some (5, 24) := by kernel_rfl
@[simp] theorem tsizes_25 : tsizes Tryd.prog 25 = true := by kernel_rfl
@[simp] theorem tplace_25_0 : aplace Tryd.prog 25 0 = some (0, 2) := by kernel_rfl
@[simp] theorem tplace_25_1 : aplace Tryd.prog 25 1 = some (2, 2) := by kernel_rfl
@[simp] theorem tplace_25_2 : aplace Tryd.prog 25 2 = some (4, 2) := by kernel_rfl
@[simp] theorem tplace_25_3 : aplace Tryd.prog 25 3 = some (6, 2) := by kernel_rfl
@[simp] theorem tplace_25_4 : aplace Tryd.prog 25 4 = some (8, 2) := by kernel_rfl
@[simp] theorem tkd_26 : tkd Tryd.prog 26 = 10 := by kernel_rfl
@[simp] theorem tun_26 : (Tryd.prog.underlying 26).isSome = true := by kernel_rfl
@[simp] theorem tagg_26 : tagg Tryd.prog 26 = some true := by kernel_rfl
@[simp] theorem tsize_26 : tsize Tryd.prog 26 = some 10 := by kernel_rfl
@[simp] theorem tzero_26 : tzero Tryd.prog 26 = some (.agg #[.int .u64 0, .bool false, .int .u64 0, .bool false, .int .u64 0, .bool false, .int .u64 0, .bool false, .int .u64 0, .bool false]) := by kernel_rfl
@[simp] theorem tarr_26 : tarr Tryd.prog 26 = some (5, 24) := by kernel_rfl
@[simp] theorem tsizes_26 : tsizes Tryd.prog 26 = true := by kernel_rfl
@[simp] theorem tplace_26_0 : aplace Tryd.prog 26 0 = some (0, 2) := by kernel_rfl
@[simp] theorem tplace_26_1 : aplace Tryd.prog 26 1 = some (2, 2) := by kernel_rfl
@[simp] theorem tplace_26_2 : aplace Tryd.prog 26 2 = some (4, 2) := by kernel_rfl
@[simp] theorem tplace_26_3 : aplace Tryd.prog 26 3 = some (6, 2) := by kernel_rfl
@[simp] theorem tplace_26_4 : aplace Tryd.prog 26 4 = some (8, 2) := by kernel_rfl
@[simp] theorem tkd_28 : tkd Tryd.prog 28 = 2 := by kernel_rfl
@[simp] theorem tun_28 : (Tryd.prog.underlying 28).isSome = true := by kernel_rfl
@[simp] theorem tagg_28 : tagg Tryd.prog 28 = some false := by kernel_rfl
@[simp] theorem tsize_28 : tsize Tryd.prog 28 = some 1 := by kernel_rfl
@[simp] theorem tzero_28 : tzero Tryd.prog 28 = some (.int .i64 0) := by kernel_rfl
@[simp] theorem tint_28 : tint Tryd.prog 28 = some .i64 := by kernel_rfl
@[simp] theorem tkd_33 : tkd Tryd.prog 33 = 9 := by kernel_rfl
@[simp] theorem tun_33 : (Tryd.prog.underlying 33).isSome = true := by kernel_rfl
@[simp] theorem tagg_33 : tagg Tryd.prog 33 = some true := by kernel_rfl
@[simp] theorem tsize_33 : tsize Tryd.prog 33 = some 3 := by kernel_rfl
@[simp] theorem tzero_33 : tzero Tryd.prog 33 = some (.agg #[.int .i64 0, .int .i64 0, .int .i64 0]) := by kernel_rfl
@[simp] theorem tsizes_33 : tsizes Tryd.prog 33 = true := by kernel_rfl
@[simp] theorem tfield_33_0 : tfield Tryd.prog 33 0 = some (0, 3) := by kernel_rfl
@[simp] theorem tplace_33_0 : aplace Tryd.prog 33 0 = some (0, 1) := by kernel_rfl
@[simp] theorem tfield_33_1 : tfield Tryd.prog 33 1 = some (1, 3) := by kernel_rfl
@[simp] theorem tplace_33_1 : aplace Tryd.prog 33 1 = some (1, 1) := by kernel_rfl
@[simp] theorem tfield_33_2 : tfield Tryd.prog 33 2 = some (2, 3) := by kernel_rfl
@[simp] theorem tplace_33_2 : aplace Tryd.prog 33 2 = some (2, 1) := by kernel_rfl
@[simp] theorem tkd_34 : tkd Tryd.prog 34 = 9 := by kernel_rfl
@[simp] theorem tun_34 : (Tryd.prog.underlying 34).isSome = true := by kernel_rfl
@[simp] theorem tagg_34 : tagg Tryd.prog 34 = some true := by kernel_rfl
@[simp] theorem tsize_34 : tsize Tryd.prog 34 = some 3 := by kernel_rfl
@[simp] theorem tzero_34 : tzero Tryd.prog 34 = some (.agg #[.int .i64 0, .int .i64 0, .int .i64 0]) := by kernel_rfl
@[simp] theorem tsizes_34 : tsizes Tryd.prog 34 = true := by kernel_rfl
@[simp] theorem tfield_34_0 : tfield Tryd.prog 34 0 = some (0, 3) := by kernel_rfl
@[simp] theorem tplace_34_0 : aplace Tryd.prog 34 0 = some (0, 1) := by kernel_rfl
@[simp] theorem tfield_34_1 : tfield Tryd.prog 34 1 = some (1, 3) := by kernel_rfl
@[simp] theorem tplace_34_1 : aplace Tryd.prog 34 1 = some (1, 1) := by kernel_rfl
@[simp] theorem tfield_34_2 : tfield Tryd.prog 34 2 = some (2, 3) := by kernel_rfl
@[simp] theorem tplace_34_2 : aplace Tryd.prog 34 2 = some (2, 1) := by kernel_rfl
@[simp] theorem tkd_35 : tkd Tryd.prog 35 = 9 := by kernel_rfl
@[simp] theorem tun_35 : (Tryd.prog.underlying 35).isSome = true := by kernel_rfl
@[simp] theorem tagg_35 : tagg Tryd.prog 35 = some true := by kernel_rfl
@[simp] theorem tsize_35 : tsize Tryd.prog 35 = some 7 := by kernel_rfl
@[simp] theorem tzero_35 : tzero Tryd.prog 35 = some (.agg #[.int .i64 0, .int .i64 0, .int .i64 0, .int .i64 0, .int .i64 0, .int .i64 0, .int .i64 0]) := by kernel_rfl
@[simp] theorem tsizes_35 : tsizes Tryd.prog 35 = true := by kernel_rfl
@[simp] theorem tfield_35_0 : tfield Tryd.prog 35 0 = some (0, 34) := by kernel_rfl
@[simp] theorem tplace_35_0 : aplace Tryd.prog 35 0 = some (0, 3) := by kernel_rfl
@[simp] theorem tfield_35_1 : tfield Tryd.prog 35 1 = some (3, 3) := by kernel_rfl
@[simp] theorem tplace_35_1 : aplace Tryd.prog 35 1 = some (3, 1) := by kernel_rfl
@[simp] theorem tfield_35_2 : tfield Tryd.prog 35 2 = some (4, 3) := by kernel_rfl
@[simp] theorem tplace_35_2 : aplace Tryd.prog 35 2 = some (4, 1) := by kernel_rfl
@[simp] theorem tfield_35_3 : tfield Tryd.prog 35 3 = some (5, 3) := by kernel_rfl
@[simp] theorem tplace_35_3 : aplace Tryd.prog 35 3 = some (5, 1) := by kernel_rfl
@[simp] theorem tfield_35_4 : tfield Tryd.prog 35 4 = some (6, 3) := by kernel_rfl
@[simp] theorem tplace_35_4 : aplace Tryd.prog 35 4 = some (6, 1) := by kernel_rfl
@[simp] theorem tkd_36 : tkd Tryd.prog 36 = 9 := by kernel_rfl
@[simp] theorem tun_36 : (Tryd.prog.underlying 36).isSome = true := by kernel_rfl
@[simp] theorem tagg_36 : tagg Tryd.prog 36 = some true := by kernel_rfl
@[simp] theorem tsize_36 : tsize Tryd.prog 36 = some 7 := by kernel_rfl
@[simp] theorem tzero_36 : tzero Tryd.prog 36 = some (.agg #[.int .i64 0, .int .i64 0, .int .i64 0, .int .i64 0, .int .i64 0, .int .i64 0, .int .i64 0]) := by kernel_rfl
@[simp] theorem tsizes_36 : tsizes Tryd.prog 36 = true := by kernel_rfl
@[simp] theorem tfield_36_0 : tfield Tryd.prog 36 0 = some (0, 34) := by kernel_rfl
@[simp] theorem tplace_36_0 : aplace Tryd.prog 36 0 = some (0, 3) := by kernel_rfl
@[simp] theorem tfield_36_1 : tfield Tryd.prog 36 1 = some (3, 3) := by kernel_rfl
@[simp] theorem tplace_36_1 : aplace Tryd.prog 36 1 = some (3, 1) := by kernel_rfl
@[simp] theorem tfield_36_2 : tfield Tryd.prog 36 2 = some (4, 3) := by kernel_rfl
@[simp] theorem tplace_36_2 : aplace Tryd.prog 36 2 = some (4, 1) := by kernel_rfl
@[simp] theorem tfield_36_3 : tfield Tryd.prog 36 3 = some (5, 3) := by kernel_rfl
@[simp] theorem tplace_36_3 : aplace Tryd.prog 36 3 = some (5, 1) := by kernel_rfl
@[simp] theorem tfield_36_4 : tfield Tryd.prog 36 4 = some (6, 3) := by kernel_rfl
@[simp] theorem tplace_36_4 : aplace Tryd.prog 36 4 = some (6, 1) := by kernel_rfl
@[simp] theorem tkd_49 : tkd Tryd.prog 49 = 2 := by kernel_rfl
@[simp] theorem tun_49 : (Tryd.prog.underlying 49).isSome = true := by kernel_rfl
@[simp] theorem tagg_49 : tagg Tryd.prog 49 = some false := by kernel_rfl
@[simp] theorem tsize_49 : tsize Tryd.prog 49 = some 1 := by kernel_rfl
@[simp] theorem tzero_49 : tzero Tryd.prog 49 = some (.int .u64 0) := by kernel_rfl
@[simp] theorem tint_49 : tint Tryd.prog 49 = some .u64 := by kernel_rfl
@[simp] theorem tkd_66 : tkd Tryd.prog 66 = 5 := by kernel_rfl
@[simp] theorem tun_66 : (Tryd.prog.underlying 66).isSome = true := by kernel_rfl
@[simp] theorem tagg_66 : tagg Tryd.prog 66 = some false := by kernel_rfl
@[simp] theorem tsize_66 : tsize Tryd.prog 66 = some 1 := by kernel_rfl
@[simp] theorem tzero_66 : tzero Tryd.prog 66 = some (.slice none 0 0) := by kernel_rfl
@[simp] theorem telem_66 : telem Tryd.prog 66 = some 9 := by kernel_rfl
theorem el_66 : ElemOk Tryd.prog 66 9 1 16 := ⟨by kernel_rfl, by kernel_rfl, by kernel_rfl, ⟨.string ByteArray.empty, by kernel_rfl, by kernel_rfl⟩, by decide⟩
@[simp] theorem tkd_77 : tkd Tryd.prog 77 = 7 := by kernel_rfl
@[simp] theorem tun_77 : (Tryd.prog.underlying 77).isSome = true := by kernel_rfl
@[simp] theorem tagg_77 : tagg Tryd.prog 77 = some false := by kernel_rfl
@[simp] theorem tsize_77 : tsize Tryd.prog 77 = some 1 := by kernel_rfl
@[simp] theorem tzero_77 : tzero Tryd.prog 77 = some (.nilFunc) := by kernel_rfl
@[simp] theorem tkd_85 : tkd Tryd.prog 85 = 4 := by kernel_rfl
@[simp] theorem tun_85 : (Tryd.prog.underlying 85).isSome = true := by kernel_rfl
@[simp] theorem tagg_85 : tagg Tryd.prog 85 = some false := by kernel_rfl
@[simp] theorem tsize_85 : tsize Tryd.prog 85 = some 1 := by kernel_rfl
@[simp] theorem tzero_85 : tzero Tryd.prog 85 = some (.pointer none) := by kernel_rfl
@[simp] theorem tkd_86 : tkd Tryd.prog 86 = 5 := by kernel_rfl
@[simp] theorem tun_86 : (Tryd.prog.underlying 86).isSome = true := by kernel_rfl
@[simp] theorem tagg_86 : tagg Tryd.prog 86 = some false := by kernel_rfl
@[simp] theorem tsize_86 : tsize Tryd.prog 86 = some 1 := by kernel_rfl
@[simp] theorem tzero_86 : tzero Tryd.prog 86 = some (.slice none 0 0) := by kernel_rfl
@[simp] theorem telem_86 : telem Tryd.prog 86 = some 5 := by kernel_rfl
theorem el_86 : ElemOk Tryd.prog 86 5 1 1 := ⟨by kernel_rfl, by kernel_rfl, by kernel_rfl, ⟨.int .u8 0, by kernel_rfl, by kernel_rfl⟩, by decide⟩
@[simp] theorem tkd_87 : tkd Tryd.prog 87 = 9 := by kernel_rfl
@[simp] theorem tun_87 : (Tryd.prog.underlying 87).isSome = true := by kernel_rfl
@[simp] theorem tagg_87 : tagg Tryd.prog 87 = some true := by kernel_rfl
@[simp] theorem tsize_87 : tsize Tryd.prog 87 = some 2 := by kernel_rfl
@[simp] theorem tzero_87 : tzero Tryd.prog 87 = some (.agg #[.pointer none, .slice none 0 0]) := by kernel_rfl
@[simp] theorem tsizes_87 : tsizes Tryd.prog 87 = true := by kernel_rfl
@[simp] theorem tfield_87_0 : tfield Tryd.prog 87 0 = some (0, 85) := by kernel_rfl
@[simp] theorem tplace_87_0 : aplace Tryd.prog 87 0 = some (0, 1) := by kernel_rfl
@[simp] theorem tfield_87_1 : tfield Tryd.prog 87 1 = some (1, 86) := by kernel_rfl
@[simp] theorem tplace_87_1 : aplace Tryd.prog 87 1 = some (1, 1) := by kernel_rfl
@[simp] theorem tkd_88 : tkd Tryd.prog 88 = 9 := by kernel_rfl
@[simp] theorem tun_88 : (Tryd.prog.underlying 88).isSome = true := by kernel_rfl
@[simp] theorem tagg_88 : tagg Tryd.prog 88 = some true := by kernel_rfl
@[simp] theorem tsize_88 : tsize Tryd.prog 88 = some 2 := by kernel_rfl
@[simp] theorem tzero_88 : tzero Tryd.prog 88 = some (.agg #[.pointer none, .slice none 0 0]) := by kernel_rfl
@[simp] theorem tsizes_88 : tsizes Tryd.prog 88 = true := by kernel_rfl
@[simp] theorem tfield_88_0 : tfield Tryd.prog 88 0 = some (0, 85) := by kernel_rfl
@[simp] theorem tplace_88_0 : aplace Tryd.prog 88 0 = some (0, 1) := by kernel_rfl
@[simp] theorem tfield_88_1 : tfield Tryd.prog 88 1 = some (1, 86) := by kernel_rfl
@[simp] theorem tplace_88_1 : aplace Tryd.prog 88 1 = some (1, 1) := by kernel_rfl
@[simp] theorem tkd_90 : tkd Tryd.prog 90 = 8 := by kernel_rfl
@[simp] theorem tun_90 : (Tryd.prog.underlying 90).isSome = true := by kernel_rfl
@[simp] theorem tagg_90 : tagg Tryd.prog 90 = some false := by kernel_rfl
@[simp] theorem tsize_90 : tsize Tryd.prog 90 = some 1 := by kernel_rfl
@[simp] theorem tzero_90 : tzero Tryd.prog 90 = some (.nilIface) := by kernel_rfl
@[simp] theorem tkd_91 : tkd Tryd.prog 91 = 8 := by kernel_rfl
@[simp] theorem tun_91 : (Tryd.prog.underlying 91).isSome = true := by kernel_rfl
@[simp] theorem tagg_91 : tagg Tryd.prog 91 = some false := by kernel_rfl
@[simp] theorem tsize_91 : tsize Tryd.prog 91 = some 1 := by kernel_rfl
@[simp] theorem tzero_91 : tzero Tryd.prog 91 = some (.nilIface) := by kernel_rfl
@[simp] theorem tkd_100 : tkd Tryd.prog 100 = 10 := by kernel_rfl
@[simp] theorem tun_100 : (Tryd.prog.underlying 100).isSome = true := by kernel_rfl
@[simp] theorem tagg_100 : tagg Tryd.prog 100 = some true := by kernel_rfl
@[simp] theorem tsize_100 : tsize Tryd.prog 100 = some 64 := by kernel_rfl
@[simp] theorem tzero_100 : tzero Tryd.prog 100 = some (.agg #[.int .u8 0, .int .u8 0, .int .u8 0, .int .u8 0, .int .u8 0, .int .u8 0, .int .u8 0, .int .u8 0, .int .u8 0, .int .u8 0, .int .u8 0, .int .u8 0, .int .u8 0, .int .u8 0, .int .u8 0, .int .u8 0, .int .u8 0, .int .u8 0, .int .u8 0, .int .u8 0, .int .u8 0, .int .u8 0, .int .u8 0, .int .u8 0, .int .u8 0, .int .u8 0, .int .u8 0, .int .u8 0, .int .u8 0, .int .u8 0, .int .u8 0, .int .u8 0, .int .u8 0, .int .u8 0, .int .u8 0, .int .u8 0, .int .u8 0, .int .u8 0, .int .u8 0, .int .u8 0, .int .u8 0, .int .u8 0, .int .u8 0, .int .u8 0, .int .u8 0, .int .u8 0, .int .u8 0, .int .u8 0, .int .u8 0, .int .u8 0, .int .u8 0, .int .u8 0, .int .u8 0, .int .u8 0, .int .u8 0, .int .u8 0, .int .u8 0, .int .u8 0, .int .u8 0, .int .u8 0, .int .u8 0, .int .u8 0, .int .u8 0, .int .u8 0]) := by kernel_rfl
@[simp] theorem tarr_100 : tarr Tryd.prog 100 = some (64, 5) := by kernel_rfl
@[simp] theorem tsizes_100 : tsizes Tryd.prog 100 = true := by kernel_rfl
@[simp] theorem tplace_100_0 : aplace Tryd.prog 100 0 = some (0, 1) := by kernel_rfl
@[simp] theorem tplace_100_1 : aplace Tryd.prog 100 1 = some (1, 1) := by kernel_rfl
@[simp] theorem tplace_100_2 : aplace Tryd.prog 100 2 = some (2, 1) := by kernel_rfl
@[simp] theorem tplace_100_3 : aplace Tryd.prog 100 3 = some (3, 1) := by kernel_rfl
@[simp] theorem tplace_100_4 : aplace Tryd.prog 100 4 = some (4, 1) := by kernel_rfl
@[simp] theorem tplace_100_5 : aplace Tryd.prog 100 5 = some (5, 1) := by kernel_rfl
@[simp] theorem tplace_100_6 : aplace Tryd.prog 100 6 = some (6, 1) := by kernel_rfl
@[simp] theorem tplace_100_7 : aplace Tryd.prog 100 7 = some (7, 1) := by kernel_rfl
@[simp] theorem tplace_100_8 : aplace Tryd.prog 100 8 = some (8, 1) := by kernel_rfl
@[simp] theorem tplace_100_9 : aplace Tryd.prog 100 9 = some (9, 1) := by kernel_rfl
@[simp] theorem tplace_100_10 : aplace Tryd.prog 100 10 = some (10, 1) := by kernel_rfl
@[simp] theorem tplace_100_11 : aplace Tryd.prog 100 11 = some (11, 1) := by kernel_rfl
@[simp] theorem tplace_100_12 : aplace Tryd.prog 100 12 = some (12, 1) := by kernel_rfl
@[simp] theorem tplace_100_13 : aplace Tryd.prog 100 13 = some (13, 1) := by kernel_rfl
@[simp] theorem tplace_100_14 : aplace Tryd.prog 100 14 = some (14, 1) := by kernel_rfl
@[simp] theorem tplace_100_15 : aplace Tryd.prog 100 15 = some (15, 1) := by kernel_rfl
@[simp] theorem tkd_102 : tkd Tryd.prog 102 = 10 := by kernel_rfl
@[simp] theorem tun_102 : (Tryd.prog.underlying 102).isSome = true := by kernel_rfl
@[simp] theorem tagg_102 : tagg Tryd.prog 102 = some true := by kernel_rfl
@[simp] theorem tsize_102 : tsize Tryd.prog 102 = some 13 := by kernel_rfl
@[simp] theorem tzero_102 : tzero Tryd.prog 102 = some (.agg #[.int .i64 0, .int .i64 0, .int .i64 0, .int .i64 0, .int .i64 0, .int .i64 0, .int .i64 0, .int .i64 0, .int .i64 0, .int .i64 0, .int .i64 0, .int .i64 0, .int .i64 0]) := by kernel_rfl
@[simp] theorem tarr_102 : tarr Tryd.prog 102 = some (13, 3) := by kernel_rfl
@[simp] theorem tsizes_102 : tsizes Tryd.prog 102 = true := by kernel_rfl
@[simp] theorem tplace_102_0 : aplace Tryd.prog 102 0 = some (0, 1) := by kernel_rfl
@[simp] theorem tplace_102_1 : aplace Tryd.prog 102 1 = some (1, 1) := by kernel_rfl
@[simp] theorem tplace_102_2 : aplace Tryd.prog 102 2 = some (2, 1) := by kernel_rfl
@[simp] theorem tplace_102_3 : aplace Tryd.prog 102 3 = some (3, 1) := by kernel_rfl
@[simp] theorem tplace_102_4 : aplace Tryd.prog 102 4 = some (4, 1) := by kernel_rfl
@[simp] theorem tplace_102_5 : aplace Tryd.prog 102 5 = some (5, 1) := by kernel_rfl
@[simp] theorem tplace_102_6 : aplace Tryd.prog 102 6 = some (6, 1) := by kernel_rfl
@[simp] theorem tplace_102_7 : aplace Tryd.prog 102 7 = some (7, 1) := by kernel_rfl
@[simp] theorem tplace_102_8 : aplace Tryd.prog 102 8 = some (8, 1) := by kernel_rfl
@[simp] theorem tplace_102_9 : aplace Tryd.prog 102 9 = some (9, 1) := by kernel_rfl
@[simp] theorem tplace_102_10 : aplace Tryd.prog 102 10 = some (10, 1) := by kernel_rfl
@[simp] theorem tplace_102_11 : aplace Tryd.prog 102 11 = some (11, 1) := by kernel_rfl
@[simp] theorem tplace_102_12 : aplace Tryd.prog 102 12 = some (12, 1) := by kernel_rfl
@[simp] theorem tkd_105 : tkd Tryd.prog 105 = 10 := by kernel_rfl
@[simp] theorem tun_105 : (Tryd.prog.underlying 105).isSome = true := by kernel_rfl
@[simp] theorem tagg_105 : tagg Tryd.prog 105 = some true := by kernel_rfl
@[simp] theorem tsize_105 : tsize Tryd.prog 105 = some 3 := by kernel_rfl
@[simp] theorem tzero_105 : tzero Tryd.prog 105 = some (.agg #[.int .i64 0, .int .i64 0, .int .i64 0]) := by kernel_rfl
@[simp] theorem tarr_105 : tarr Tryd.prog 105 = some (3, 3) := by kernel_rfl
@[simp] theorem tsizes_105 : tsizes Tryd.prog 105 = true := by kernel_rfl
@[simp] theorem tplace_105_0 : aplace Tryd.prog 105 0 = some (0, 1) := by kernel_rfl
@[simp] theorem tplace_105_1 : aplace Tryd.prog 105 1 = some (1, 1) := by kernel_rfl
@[simp] theorem tplace_105_2 : aplace Tryd.prog 105 2 = some (2, 1) := by kernel_rfl
@[simp] theorem tkd_106 : tkd Tryd.prog 106 = 10 := by kernel_rfl
@[simp] theorem tun_106 : (Tryd.prog.underlying 106).isSome = true := by kernel_rfl
@[simp] theorem tagg_106 : tagg Tryd.prog 106 = some true := by kernel_rfl
@[simp] theorem tsize_106 : tsize Tryd.prog 106 = some 15 := by kernel_rfl
@[simp] theorem tzero_106 : tzero Tryd.prog 106 = some (.agg #[.int .i64 0, .int .i64 0, .int .i64 0, .int .i64 0, .int .i64 0, .int .i64 0, .int .i64 0, .int .i64 0, .int .i64 0, .int .i64 0, .int .i64 0, .int .i64 0, .int .i64 0, .int .i64 0, .int .i64 0]) := by kernel_rfl
@[simp] theorem tarr_106 : tarr Tryd.prog 106 = some (5, 105) := by kernel_rfl
@[simp] theorem tsizes_106 : tsizes Tryd.prog 106 = true := by kernel_rfl
@[simp] theorem tplace_106_0 : aplace Tryd.prog 106 0 = some (0, 3) := by kernel_rfl
@[simp] theorem tplace_106_1 : aplace Tryd.prog 106 1 = some (3, 3) := by kernel_rfl
@[simp] theorem tplace_106_2 : aplace Tryd.prog 106 2 = some (6, 3) := by kernel_rfl
@[simp] theorem tplace_106_3 : aplace Tryd.prog 106 3 = some (9, 3) := by kernel_rfl
@[simp] theorem tplace_106_4 : aplace Tryd.prog 106 4 = some (12, 3) := by kernel_rfl
@[simp] theorem tkd_108 : tkd Tryd.prog 108 = 4 := by kernel_rfl
@[simp] theorem tun_108 : (Tryd.prog.underlying 108).isSome = true := by kernel_rfl
@[simp] theorem tagg_108 : tagg Tryd.prog 108 = some false := by kernel_rfl
@[simp] theorem tsize_108 : tsize Tryd.prog 108 = some 1 := by kernel_rfl
@[simp] theorem tzero_108 : tzero Tryd.prog 108 = some (.pointer none) := by kernel_rfl
@[simp] theorem tkd_112 : tkd Tryd.prog 112 = 10 := by kernel_rfl
@[simp] theorem tun_112 : (Tryd.prog.underlying 112).isSome = true := by kernel_rfl
@[simp] theorem tagg_112 : tagg Tryd.prog 112 = some true := by kernel_rfl
@[simp] theorem tsize_112 : tsize Tryd.prog 112 = some 13 := by kernel_rfl
@[simp] theorem tzero_112 : tzero Tryd.prog 112 = some (.agg #[.string ByteArray.empty, .string ByteArray.empty, .string ByteArray.empty, .string ByteArray.empty, .string ByteArray.empty, .string ByteArray.empty, .string ByteArray.empty, .string ByteArray.empty, .string ByteArray.empty, .string ByteArray.empty, .string ByteArray.empty, .string ByteArray.empty, .string ByteArray.empty]) := by kernel_rfl
@[simp] theorem tarr_112 : tarr Tryd.prog 112 = some (13, 9) := by kernel_rfl
@[simp] theorem tsizes_112 : tsizes Tryd.prog 112 = true := by kernel_rfl
@[simp] theorem tplace_112_0 : aplace Tryd.prog 112 0 = some (0, 1) := by kernel_rfl
@[simp] theorem tplace_112_1 : aplace Tryd.prog 112 1 = some (1, 1) := by kernel_rfl
@[simp] theorem tplace_112_2 : aplace Tryd.prog 112 2 = some (2, 1) := by kernel_rfl
@[simp] theorem tplace_112_3 : aplace Tryd.prog 112 3 = some (3, 1) := by kernel_rfl
@[simp] theorem tplace_112_4 : aplace Tryd.prog 112 4 = some (4, 1) := by kernel_rfl
@[simp] theorem tplace_112_5 : aplace Tryd.prog 112 5 = some (5, 1) := by kernel_rfl
@[simp] theorem tplace_112_6 : aplace Tryd.prog 112 6 = some (6, 1) := by kernel_rfl
@[simp] theorem tplace_112_7 : aplace Tryd.prog 112 7 = some (7, 1) := by kernel_rfl
@[simp] theorem tplace_112_8 : aplace Tryd.prog 112 8 = some (8, 1) := by kernel_rfl
@[simp] theorem tplace_112_9 : aplace Tryd.prog 112 9 = some (9, 1) := by kernel_rfl
@[simp] theorem tplace_112_10 : aplace Tryd.prog 112 10 = some (10, 1) := by kernel_rfl
@[simp] theorem tplace_112_11 : aplace Tryd.prog 112 11 = some (11, 1) := by kernel_rfl
@[simp] theorem tplace_112_12 : aplace Tryd.prog 112 12 = some (12, 1) := by kernel_rfl
@[simp] theorem tkd_113 : tkd Tryd.prog 113 = 10 := by kernel_rfl
@[simp] theorem tun_113 : (Tryd.prog.underlying 113).isSome = true := by kernel_rfl
@[simp] theorem tagg_113 : tagg Tryd.prog 113 = some true := by kernel_rfl
@[simp] theorem tsize_113 : tsize Tryd.prog 113 = some 7 := by kernel_rfl
@[simp] theorem tzero_113 : tzero Tryd.prog 113 = some (.agg #[.string ByteArray.empty, .string ByteArray.empty, .string ByteArray.empty, .string ByteArray.empty, .string ByteArray.empty, .string ByteArray.empty, .string ByteArray.empty]) := by kernel_rfl
@[simp] theorem tarr_113 : tarr Tryd.prog 113 = some (7, 9) := by kernel_rfl
@[simp] theorem tsizes_113 : tsizes Tryd.prog 113 = true := by kernel_rfl
@[simp] theorem tplace_113_0 : aplace Tryd.prog 113 0 = some (0, 1) := by kernel_rfl
@[simp] theorem tplace_113_1 : aplace Tryd.prog 113 1 = some (1, 1) := by kernel_rfl
@[simp] theorem tplace_113_2 : aplace Tryd.prog 113 2 = some (2, 1) := by kernel_rfl
@[simp] theorem tplace_113_3 : aplace Tryd.prog 113 3 = some (3, 1) := by kernel_rfl
@[simp] theorem tplace_113_4 : aplace Tryd.prog 113 4 = some (4, 1) := by kernel_rfl
@[simp] theorem tplace_113_5 : aplace Tryd.prog 113 5 = some (5, 1) := by kernel_rfl
@[simp] theorem tplace_113_6 : aplace Tryd.prog 113 6 = some (6, 1) := by kernel_rfl
@[simp] theorem tkd_118 : tkd Tryd.prog 118 = 5 := by kernel_rfl
@[simp] theorem tun_118 : (Tryd.prog.underlying 118).isSome = true := by kernel_rfl
@[simp] theorem tagg_118 : tagg Tryd.prog 118 = some false := by kernel_rfl
@[simp] theorem tsize_118 : tsize Tryd.prog 118 = some 1 := by kernel_rfl
@[simp] theorem tzero_118 : tzero Tryd.prog 118 = some (.slice none 0 0) := by kernel_rfl
@[simp] theorem telem_118 : telem Tryd.prog 118 = some 3 := by kernel_rfl
theorem el_118 : ElemOk Tryd.prog 118 3 1 8 := ⟨by kernel_rfl, by kernel_rfl, by kernel_rfl, ⟨.int .i64 0, by kernel_rfl, by kernel_rfl⟩, by decide⟩
@[simp] theorem tkd_122 : tkd Tryd.prog 122 = 10 := by kernel_rfl
@[simp] theorem tun_122 : (Tryd.prog.underlying 122).isSome = true := by kernel_rfl
@[simp] theorem tagg_122 : tagg Tryd.prog 122 = some true := by kernel_rfl
@[simp] theorem tsize_122 : tsize Tryd.prog 122 = some 24 := by kernel_rfl
@[simp] theorem tzero_122 : tzero Tryd.prog 122 = some (.agg #[.int .u8 0, .int .u8 0, .int .u8 0, .int .u8 0, .int .u8 0, .int .u8 0, .int .u8 0, .int .u8 0, .int .u8 0, .int .u8 0, .int .u8 0, .int .u8 0, .int .u8 0, .int .u8 0, .int .u8 0, .int .u8 0, .int .u8 0, .int .u8 0, .int .u8 0, .int .u8 0, .int .u8 0, .int .u8 0, .int .u8 0, .int .u8 0]) := by kernel_rfl
@[simp] theorem tarr_122 : tarr Tryd.prog 122 = some (24, 5) := by kernel_rfl
@[simp] theorem tsizes_122 : tsizes Tryd.prog 122 = true := by kernel_rfl
@[simp] theorem tplace_122_0 : aplace Tryd.prog 122 0 = some (0, 1) := by kernel_rfl
@[simp] theorem tplace_122_1 : aplace Tryd.prog 122 1 = some (1, 1) := by kernel_rfl
@[simp] theorem tplace_122_2 : aplace Tryd.prog 122 2 = some (2, 1) := by kernel_rfl
@[simp] theorem tplace_122_3 : aplace Tryd.prog 122 3 = some (3, 1) := by kernel_rfl
@[simp] theorem tplace_122_4 : aplace Tryd.prog 122 4 = some (4, 1) := by kernel_rfl
@[simp] theorem tplace_122_5 : aplace Tryd.prog 122 5 = some (5, 1) := by kernel_rfl
@[simp] theorem tplace_122_6 : aplace Tryd.prog 122 6 = some (6, 1) := by kernel_rfl
@[simp] theorem tplace_122_7 : aplace Tryd.prog 122 7 = some (7, 1) := by kernel_rfl
@[simp] theorem tplace_122_8 : aplace Tryd.prog 122 8 = some (8, 1) := by kernel_rfl
@[simp] theorem tplace_122_9 : aplace Tryd.prog 122 9 = some (9, 1) := by kernel_rfl
@[simp] theorem tplace_122_10 : aplace Tryd.prog 122 10 = some (10, 1) := by kernel_rfl
@[simp] theorem tplace_122_11 : aplace Tryd.prog 122 11 = some (11, 1) := by kernel_rfl
@[simp] theorem tplace_122_12 : aplace Tryd.prog 122 12 = some (12, 1) := by kernel_rfl
@[simp] theorem tplace_122_13 : aplace Tryd.prog 122 13 = some (13, 1) := by kernel_rfl
@[simp] theorem tplace_122_14 : aplace Tryd.prog 122 14 = some (14, 1) := by kernel_rfl
@[simp] theorem tplace_122_15 : aplace Tryd.prog 122 15 = some (15, 1) := by kernel_rfl
@[simp] theorem tun_126 : (Tryd.prog.underlying 126).isSome = true := by kernel_rfl
@[simp] theorem tagg_126 : tagg Tryd.prog 126 = some false := by kernel_rfl
@[simp] theorem tsize_126 : tsize Tryd.prog 126 = some 1 := by kernel_rfl
@[simp] theorem tzero_126 : tzero Tryd.prog 126 = some (.pointer none) := by kernel_rfl
@[simp] theorem tkd_133 : tkd Tryd.prog 133 = 10 := by kernel_rfl
@[simp] theorem tun_133 : (Tryd.prog.underlying 133).isSome = true := by kernel_rfl
@[simp] theorem tagg_133 : tagg Tryd.prog 133 = some true := by kernel_rfl
@[simp] theorem tsize_133 : tsize Tryd.prog 133 = some 256 := by kernel_rfl
@[simp] theorem tzero_133 : tzero Tryd.prog 133 = some (.agg #[.bool false, .bool false, .bool false, .bool false, .bool false, .bool false, .bool false, .bool false, .bool false, .bool false, .bool false, .bool false, .bool false, .bool false, .bool false, .bool false, .bool false, .bool false, .bool false, .bool false, .bool false, .bool false, .bool false, .bool false, .bool false, .bool false, .bool false, .bool false, .bool false, .bool false, .bool false, .bool false, .bool false, .bool false, .bool false, .bool false, .bool false, .bool false, .bool false, .bool false, .bool false, .bool false, .bool false, .bool false, .bool false, .bool false, .bool false, .bool false, .bool false, .bool false, .bool false, .bool false, .bool false, .bool false, .bool false, .bool false, .bool false, .bool false, .bool false, .bool false, .bool false, .bool false, .bool false, .bool false, .bool false, .bool false, .bool false, .bool false, .bool false, .bool false, .bool false, .bool false, .bool false, .bool false, .bool false, .bool false, .bool false, .bool false, .bool false, .bool false, .bool false, .bool false, .bool false, .bool false, .bool false, .bool false, .bool false, .bool false, .bool false, .bool false, .bool false, .bool false, .bool false, .bool false, .bool false, .bool false, .bool false, .bool false, .bool false, .bool false, .bool false, .bool false, .bool false, .bool false, .bool false, .bool false, .bool false, .bool false, .bool false, .bool false, .bool false, .bool false, .bool false, .bool false, .bool false, .bool false, .bool false, .bool false, .bool false, .bool false, .bool false, .bool false, .bool false, .bool false, .bool false, .bool false, .bool false, .bool false, .bool false, .bool false, .bool false, .bool false, .bool false, .bool false, .bool false, .bool false, .bool false, .bool false, .bool false, .bool false, .bool false, .bool false, .bool false, .bool false, .bool false, .bool false, .bool false, .bool false, .bool false, .bool false, .bool false, .bool false, .bool false, .bool false, .bool false, .bool false, .bool false, .bool false, .bool false, .bool false, .bool false, .bool false, .bool false, .bool false, .bool false, .bool false, .bool false, .bool false, .bool false, .bool false, .bool false, .bool false, .bool false, .bool false, .bool false, .bool false, .bool false, .bool false, .bool false, .bool false, .bool false, .bool false, .bool false, .bool false, .bool false, .bool false, .bool false, .bool false, .bool false, .bool false, .bool false, .bool false, .bool false, .bool false, .bool false, .bool false, .bool false, .bool false, .bool false, .bool false, .bool false, .bool false, .bool false, .bool false, .bool false, .bool false, .bool false, .bool false, .bool false, .bool false, .bool false, .bool false, .bool false, .bool false, .bool false, .bool false, .bool false, .bool false, .bool false, .bool false, .bool false, .bool false, .bool false, .bool false, .bool false, .bool false, .bool false, .bool false, .bool false, .bool false, .bool false, .bool false, .bool false, .bool false, .bool false, .bool false, .bool false, .bool false, .bool false, .bool false, .bool false, .bool false, .bool false, .bool false, .bool false, .bool false, .bool false, .bool false, .bool false, .bool false, .bool false, .bool false, .bool false, .bool false, .bool false, .bool false]) := by kernel_rfl
@[simp] theorem tarr_133 : tarr Tryd.prog 133 = some (256, 4) := by kernel_rfl
@[simp] theorem tsizes_133 : tsizes Tryd.prog 133 = true := by kernel_rfl
@[simp] theorem tplace_133_0 : aplace Tryd.prog 133 0 = some (0, 1) := by kernel_rfl
@[simp] theorem tplace_133_1 : aplace Tryd.prog 133 1 = some (1, 1) := by kernel_rfl
@[simp] theorem tplace_133_2 : aplace Tryd.prog 133 2 = some (2, 1) := by kernel_rfl
@[simp] theorem tplace_133_3 : aplace Tryd.prog 133 3 = some (3, 1) := by kernel_rfl
@[simp] theorem tplace_133_4 : aplace Tryd.prog 133 4 = some (4, 1) := by kernel_rfl
@[simp] theorem tplace_133_5 : aplace Tryd.prog 133 5 = some (5, 1) := by kernel_rfl
@[simp] theorem tplace_133_6 : aplace Tryd.prog 133 6 = some (6, 1) := by kernel_rfl
@[simp] theorem tplace_133_7 : aplace Tryd.prog 133 7 = some (7, 1) := by kernel_rfl
@[simp] theorem tplace_133_8 : aplace Tryd.prog 133 8 = some (8, 1) := by kernel_rfl
@[simp] theorem tplace_133_9 : aplace Tryd.prog 133 9 = some (9, 1) := by kernel_rfl
@[simp] theorem tplace_133_10 : aplace Tryd.prog 133 10 = some (10, 1) := by kernel_rfl
@[simp] theorem tplace_133_11 : aplace Tryd.prog 133 11 = some (11, 1) := by kernel_rfl
@[simp] theorem tplace_133_12 : aplace Tryd.prog 133 12 = some (12, 1) := by kernel_rfl
@[simp] theorem tplace_133_13 : aplace Tryd.prog 133 13 = some (13, 1) := by kernel_rfl
@[simp] theorem tplace_133_14 : aplace Tryd.prog 133 14 = some (14, 1) := by kernel_rfl
@[simp] theorem tplace_133_15 : aplace Tryd.prog 133 15 = some (15, 1) := by kernel_rfl
@[simp] theorem tkd_134 : tkd Tryd.prog 134 = 10 := by kernel_rfl
@[simp] theorem tun_134 : (Tryd.prog.underlying 134).isSome = true := by kernel_rfl
@[simp] theorem tagg_134 : tagg Tryd.prog 134 = some true := by kernel_rfl
@[simp] theorem tsize_134 : tsize Tryd.prog 134 = some 256 := by kernel_rfl
@[simp] theorem tzero_134 : tzero Tryd.prog 134 = some (.agg #[.bool false, .bool false, .bool false, .bool false, .bool false, .bool false, .bool false, .bool false, .bool false, .bool false, .bool false, .bool false, .bool false, .bool false, .bool false, .bool false, .bool false, .bool false, .bool false, .bool false, .bool false, .bool false, .bool false, .bool false, .bool false, .bool false, .bool false, .bool false, .bool false, .bool false, .bool false, .bool false, .bool false, .bool false, .bool false, .bool false, .bool false, .bool false, .bool false, .bool false, .bool false, .bool false, .bool false, .bool false, .bool false, .bool false, .bool false, .bool false, .bool false, .bool false, .bool false, .bool false, .bool false, .bool false, .bool false, .bool false, .bool false, .bool false, .bool false, .bool false, .bool false, .bool false, .bool false, .bool false, .bool false, .bool false, .bool false, .bool false, .bool false, .bool false, .bool false, .bool false, .bool false, .bool false, .bool false, .bool false, .bool false, .bool false, .bool false, .bool false, .bool false, .bool false, .bool false, .bool false, .bool false, .bool false, .bool false, .bool false, .bool false, .bool false, .bool false, .bool false, .bool false, .bool false, .bool false, .bool false, .bool false, .bool false, .bool false, .bool false, .bool false, .bool false, .bool false, .bool false, .bool false, .bool false, .bool false, .bool false, .bool false, .bool false, .bool false, .bool false, .bool false, .bool false, .bool false, .bool false, .bool false, .bool false, .bool false, .bool false, .bool false, .bool false, .bool false, .bool false, .bool false, .bool false, .bool false, .bool false, .bool false, .bool false, .bool false, .bool false, .bool false, .bool false, .bool false, .bool false, .bool false, .bool false, .bool false, .bool false, .bool false, .bool false, .bool false, .bool false, .bool false, .bool false, .bool false, .bool false, .bool false, .bool false, .bool false, .bool false, .bool false, .bool false, .bool false, .bool false, .bool false, .bool false, .bool false, .bool false, .bool false, .bool false, .bool false, .bool false, .bool false, .bool false, .bool false, .bool false, .bool false, .bool false, .bool false, .bool false, .bool false, .bool false, .bool false, .bool false, .bool false, .bool false, .bool false, .bool false, .bool false, .bool false, .bool false, .bool false, .bool false, .bool false, .bool false, .bool false, .bool false, .bool false, .bool false, .bool false, .bool false, .bool false, .bool false, .bool false, .bool false, .bool false, .bool false, .bool false, .bool false, .bool false, .bool false, .bool false, .bool false, .bool false, .bool false, .bool false, .bool false, .bool false, .bool false, .bool false, .bool false, .bool false, .bool false, .bool false, .bool false, .bool false, .bool false, .bool false, .bool false, .bool false, .bool false, .bool false, .bool false, .bool false, .bool false, .bool false, .bool false, .bool false, .bool false, .bool false, .bool false, .bool false, .bool false, .bool false, .bool false, .bool false, .bool false, .bool false, .bool false, .bool false, .bool false, .bool false, .bool false, .bool false, .bool false, .bool false, .bool false, .bool false, .bool false, .bool false, .bool false, .bool false, .bool false, .bool false]) := by kernel_rfl
@[simp] theorem tarr_134 : tarr Tryd.prog 134 = some (256, 4) := by kernel_rfl
@[simp] theorem tsizes_134 : tsizes Tryd.prog 134 = true := by kernel_rfl
@[simp] theorem tplace_134_0 : aplace Tryd.prog 134 0 = some (0, 1) := by kernel_rfl
@[simp] theorem tplace_134_1 : aplace Tryd.prog 134 1 = some (1, 1) := by kernel_rfl
@[simp] theorem tplace_134_2 : aplace Tryd.prog 134 2 = some (2, 1) := by kernel_rfl
@[simp] theorem tplace_134_3 : aplace Tryd.prog 134 3 = some (3, 1) := by kernel_rfl
@[simp] theorem tplace_134_4 : aplace Tryd.prog 134 4 = some (4, 1) := by kernel_rfl
@[simp] theorem tplace_134_5 : aplace Tryd.prog 134 5 = some (5, 1) := by kernel_rfl
@[simp] theorem tplace_134_6 : aplace Tryd.prog 134 6 = some (6, 1) := by kernel_rfl
@[simp] theorem tplace_134_7 : aplace Tryd.prog 134 7 = some (7, 1) := by kernel_rfl
@[simp] theorem tplace_134_8 : aplace Tryd.prog 134 8 = some (8, 1) := by kernel_rfl
@[simp] theorem tplace_134_9 : aplace Tryd.prog 134 9 = some (9, 1) := by kernel_rfl
@[simp] theorem tplace_134_10 : aplace Tryd.prog 134 10 = some (10, 1) := by kernel_rfl
@[simp] theorem tplace_134_11 : aplace Tryd.prog 134 11 = some (11, 1) := by kernel_rfl
@[simp] theorem tplace_134_12 : aplace Tryd.prog 134 12 = some (12, 1) := by kernel_rfl
@[simp] theorem tplace_134_13 : aplace Tryd.prog 134 13 = some (13, 1) := by kernel_rfl
@[simp] theorem tplace_134_14 : aplace Tryd.prog 134 14 = some (14, 1) := by kernel_rfl
@[simp] theorem tplace_134_15 : aplace Tryd.prog 134 15 = some (15, 1) := by kernel_rfl
@[simp] theorem tkd_138 : tkd Tryd.prog 138 = 4 := by kernel_rfl
@[simp] theorem tun_138 : (Tryd.prog.underlying 138).isSome = true := by kernel_rfl
@[simp] theorem tagg_138 : tagg Tryd.prog 138 = some false := by kernel_rfl
@[simp] theorem tsize_138 : tsize Tryd.prog 138 = some 1 := by kernel_rfl
@[simp] theorem tzero_138 : tzero Tryd.prog 138 = some (.pointer none) := by kernel_rfl
@[simp] theorem tkd_145 : tkd Tryd.prog 145 = 10 := by kernel_rfl
@[simp] theorem tun_145 : (Tryd.prog.underlying 145).isSome = true := by kernel_rfl
@[simp] theorem tagg_145 : tagg Tryd.prog 145 = some true := by kernel_rfl
@[simp] theorem tsize_145 : tsize Tryd.prog 145 = some 5 := by kernel_rfl
@[simp] theorem tzero_145 : tzero Tryd.prog 145 = some (.agg #[.int .i64 0, .int .i64 0, .int .i64 0, .int .i64 0, .int .i64 0]) := by kernel_rfl
@[simp] theorem tarr_145 : tarr Tryd.prog 145 = some (5, 3) := by kernel_rfl
@[simp] theorem tsizes_145 : tsizes Tryd.prog 145 = true := by kernel_rfl
@[simp] theorem tplace_145_0 : aplace Tryd.prog 145 0 = some (0, 1) := by kernel_rfl
@[simp] theorem tplace_145_1 : aplace Tryd.prog 145 1 = some (1, 1) := by kernel_rfl
@[simp] theorem tplace_145_2 : aplace Tryd.prog 145 2 = some (2, 1) := by kernel_rfl
@[simp] theorem tplace_145_3 : aplace Tryd.prog 145 3 = some (3, 1) := by kernel_rfl
@[simp] theorem tplace_145_4 : aplace Tryd.prog 145 4 = some (4, 1) := by kernel_rfl
@[simp] theorem tkd_147 : tkd Tryd.prog 147 = 10 := by kernel_rfl
@[simp] theorem tun_147 : (Tryd.prog.underlying 147).isSome = true := by kernel_rfl
@[simp] theorem tagg_147 : tagg Tryd.prog 147 = some true := by kernel_rfl
@[simp] theorem tsize_147 : tsize Tryd.prog 147 = some 20 := by kernel_rfl
@[simp] theorem tzero_147 : tzero Tryd.prog 147 = some (.agg #[.int .u64 0, .int .u64 0, .int .u64 0, .int .u64 0, .int .u64 0, .int .u64 0, .int .u64 0, .int .u64 0, .int .u64 0, .int .u64 0, .int .u64 0, .int .u64 0, .int .u64 0, .int .u64 0, .int .u64 0, .int .u64 0, .int .u64 0, .int .u64 0, .int .u64 0, .int .u64 0]) := by kernel_rfl
@[simp] theorem tarr_147 : tarr Tryd.prog 147 = some (20, 22) := by kernel_rfl
@[simp] theorem tsizes_147 : tsizes Tryd.prog 147 = true := by kernel_rfl
@[simp] theorem tplace_147_0 : aplace Tryd.prog 147 0 = some (0, 1) := by kernel_rfl
@[simp] theorem tplace_147_1 : aplace Tryd.prog 147 1 = some (1, 1) := by kernel_rfl
@[simp] theorem tplace_147_2 : aplace Tryd.prog 147 2 = some (2, 1) := by kernel_rfl
@[simp] theorem tplace_147_3 : aplace Tryd.prog 147 3 = some (3, 1) := by kernel_rfl
@[simp] theorem tplace_147_4 : aplace Tryd.prog 147 4 = some (4, 1) := by kernel_rfl
@[simp] theorem tplace_147_5 : aplace Tryd.prog 147 5 = some (5, 1) := by kernel_rfl
@[simp] theorem tplace_147_6 : aplace Tryd.prog 147 6 = some (6, 1) := by kernel_rfl
@[simp] theorem tplace_147_7 : aplace Tryd.prog 147 7 = some (7, 1) := by kernel_rfl
@[simp] theorem tplace_147_8 : aplace Tryd.prog 147 8 = some (8, 1) := by kernel_rfl
@[simp] theorem tplace_147_9 : aplace Tryd.prog 147 9 = some (9, 1) := by kernel_rfl
@[simp] theorem tplace_147_10 : aplace Tryd.prog 147 10 = some (10, 1) := by kernel_rfl
@[simp] theorem tplace_147_11 : aplace Tryd.prog 147 11 = some (11, 1) := by kernel_rfl
@[simp] theorem tplace_147_12 : aplace Tryd.prog 147 12 = some (12, 1) := by kernel_rfl
@[simp] theorem tplace_147_13 : aplace Tryd.prog 147 13 = some (13, 1) := by kernel_rfl
@[simp] theorem tplace_147_14 : aplace Tryd.prog 147 14 = some (14, 1) := by kernel_rfl
@[simp] theorem tplace_147_15 : aplace Tryd.prog 147 15 = some (15, 1) := by kernel_rfl
@[simp] theorem tkd_148 : tkd Tryd.prog 148 = 2 := by kernel_rfl
@[simp] theorem tun_148 : (Tryd.prog.underlying 148).isSome = true := by kernel_rfl
@[simp] theorem tagg_148 : tagg Tryd.prog 148 = some false := by kernel_rfl
@[simp] theorem tsize_148 : tsize Tryd.prog 148 = some 1 := by kernel_rfl
@[simp] theorem tzero_148 : tzero Tryd.prog 148 = some (.int .u32 0) := by kernel_rfl
@[simp] theorem tint_148 : tint Tryd.prog 148 = some .u32 := by kernel_rfl
@[simp] theorem tkd_149 : tkd Tryd.prog 149 = 10 := by kernel_rfl
@[simp] theorem tun_149 : (Tryd.prog.underlying 149).isSome = true := by kernel_rfl
@[simp] theorem tagg_149 : tagg Tryd.prog 149 = some true := by kernel_rfl
@[simp] theorem tsize_149 : tsize Tryd.prog 149 = some 65 := by kernel_rfl
@[simp] theorem tzero_149 : tzero Tryd.prog 149 = some (.agg #[.int .u8 0, .int .u8 0, .int .u8 0, .int .u8 0, .int .u8 0, .int .u8 0, .int .u8 0, .int .u8 0, .int .u8 0, .int .u8 0, .int .u8 0, .int .u8 0, .int .u8 0, .int .u8 0, .int .u8 0, .int .u8 0, .int .u8 0, .int .u8 0, .int .u8 0, .int .u8 0, .int .u8 0, .int .u8 0, .int .u8 0, .int .u8 0, .int .u8 0, .int .u8 0, .int .u8 0, .int .u8 0, .int .u8 0, .int .u8 0, .int .u8 0, .int .u8 0, .int .u8 0, .int .u8 0, .int .u8 0, .int .u8 0, .int .u8 0, .int .u8 0, .int .u8 0, .int .u8 0, .int .u8 0, .int .u8 0, .int .u8 0, .int .u8 0, .int .u8 0, .int .u8 0, .int .u8 0, .int .u8 0, .int .u8 0, .int .u8 0, .int .u8 0, .int .u8 0, .int .u8 0, .int .u8 0, .int .u8 0, .int .u8 0, .int .u8 0, .int .u8 0, .int .u8 0, .int .u8 0, .int .u8 0, .int .u8 0, .int .u8 0, .int .u8 0, .int .u8 0]) := by kernel_rfl
@[simp] theorem tarr_149 : tarr Tryd.prog 149 = some (65, 5) := by kernel_rfl
@[simp] theorem tsizes_149 : tsizes Tryd.prog 149 = true := by kernel_rfl
@[simp] theorem tplace_149_0 : aplace Tryd.prog 149 0 = some (0, 1) := by kernel_rfl
@[simp] theorem tplace_149_1 : aplace Tryd.prog 149 1 = some (1, 1) := by kernel_rfl
@[simp] theorem tplace_149_2 : aplace Tryd.prog 149 2 = some (2, 1) := by kernel_rfl
@[simp] theorem tplace_149_3 : aplace Tryd.prog 149 3 = some (3, 1) := by kernel_rfl
@[simp] theorem tplace_149_4 : aplace Tryd.prog 149 4 = some (4, 1) := by kernel_rfl
@[simp] theorem tplace_149_5 : aplace Tryd.prog 149 5 = some (5, 1) := by kernel_rfl
@[simp] theorem tplace_149_6 : aplace Tryd.prog 149 6 = some (6, 1) := by kernel_rfl
@[simp] theorem tplace_149_7 : aplace Tryd.prog 149 7 = some (7, 1) := by kernel_rfl
@[simp] theorem tplace_149_8 : aplace Tryd.prog 149 8 = some (8, 1) := by kernel_rfl
@[simp] theorem tplace_149_9 : aplace Tryd.prog 149 9 = some (9, 1) := by kernel_rfl
@[simp] theorem tplace_149_10 : aplace Tryd.prog 149 10 = some (10, 1) := by kernel_rfl
@[simp] theorem tplace_149_11 : aplace Tryd.prog 149 11 = some (11, 1) := by kernel_rfl
@[simp] theorem tplace_149_12 : aplace Tryd.prog 149 12 = some (12, 1) := by kernel_rfl
@[simp] theorem tplace_149_13 : aplace Tryd.prog 149 13 = some (13, 1) := by kernel_rfl
@[simp] theorem tplace_149_14 : aplace Tryd.prog 149 14 = some (14, 1) := by kernel_rfl
@[simp] theorem tplace_149_15 : aplace Tryd.prog 149 15 = some (15, 1) := by kernel_rfl
@[simp] theorem tkd_153 : tkd Tryd.prog 153 = 2 := by kernel_rfl
@[simp] theorem tun_153 : (Tryd.prog.underlying 153).isSome = true := by kernel_rfl
@[simp] theorem tagg_153 : tagg Tryd.prog 153 = some false := by kernel_rfl
@[simp] theorem tsize_153 : tsize Tryd.prog 153 = some 1 := by kernel_rfl
@[simp] theorem tzero_153 : tzero Tryd.prog 153 = some (.int .i64 0) := by kernel_rfl
@[simp] theorem tint_153 : tint Tryd.prog 153 = some .i64 := by kernel_rfl
@[simp] theorem tkd_156 : tkd Tryd.prog 156 = 4 := by kernel_rfl
@[simp] theorem tun_156 : (Tryd.prog.underlying 156).isSome = true := by kernel_rfl
@[simp] theorem tagg_156 : tagg Tryd.prog 156 = some false := by kernel_rfl
@[simp] theorem tsize_156 : tsize Tryd.prog 156 = some 1 := by kernel_rfl
@[simp] theorem tzero_156 : tzero Tryd.prog 156 = some (.pointer none) := by kernel_rfl
@[simp] theorem tkd_161 : tkd Tryd.prog 161 = 10 := by kernel_rfl
@[simp] theorem tun_161 : (Tryd.prog.underlying 161).isSome = true := by kernel_rfl
@[simp] theorem tagg_161 : tagg Tryd.prog 161 = some true := by kernel_rfl
@[simp] theorem tsize_161 : tsize Tryd.prog 161 = some 256 := by kernel_rfl
@[simp] theorem tzero_161 : tzero Tryd.prog 161 = some (.agg #[.int .u8 0, .int .u8 0, .int .u8 0, .int .u8 0, .int .u8 0, .int .u8 0, .int .u8 0, .int .u8 0, .int .u8 0, .int .u8 0, .int .u8 0, .int .u8 0, .int .u8 0, .int .u8 0, .int .u8 0, .int .u8 0, .int .u8 0, .int .u8 0, .int .u8 0, .int .u8 0, .int .u8 0, .int .u8 0, .int .u8 0, .int .u8 0, .int .u8 0, .int .u8 0, .int .u8 0, .int .u8 0, .int .u8 0, .int .u8 0, .int .u8 0, .int .u8 0, .int .u8 0, .int .u8 0, .int .u8 0, .int .u8 0, .int .u8 0, .int .u8 0, .int .u8 0, .int .u8 0, .int .u8 0, .int .u8 0, .int .u8 0, .int .u8 0, .int .u8 0, .int .u8 0, .int .u8 0, .int .u8 0, .int .u8 0, .int .u8 0, .int .u8 0, .int .u8 0, .int .u8 0, .int .u8 0, .int .u8 0, .int .u8 0, .int .u8 0, .int .u8 0, .int .u8 0, .int .u8 0, .int .u8 0, .int .u8 0, .int .u8 0, .int .u8 0, .int .u8 0, .int .u8 0, .int .u8 0, .int .u8 0, .int .u8 0, .int .u8 0, .int .u8 0, .int .u8 0, .int .u8 0, .int .u8 0, .int .u8 0, .int .u8 0, .int .u8 0, .int .u8 0, .int .u8 0, .int .u8 0, .int .u8 0, .int .u8 0, .int .u8 0, .int .u8 0, .int .u8 0, .int .u8 0, .int .u8 0, .int .u8 0, .int .u8 0, .int .u8 0, .int .u8 0, .int .u8 0, .int .u8 0, .int .u8 0, .int .u8 0, .int .u8 0, .int .u8 0, .int .u8 0, .int .u8 0, .int .u8 0, .int .u8 0, .int .u8 0, .int .u8 0, .int .u8 0, .int .u8 0, .int .u8 0, .int .u8 0, .int .u8 0, .int .u8 0, .int .u8 0, .int .u8 0, .int .u8 0, .int .u8 0, .int .u8 0, .int .u8 0, .int .u8 0, .int .u8 0, .int .u8 0, .int .u8 0, .int .u8 0, .int .u8 0, .int .u8 0, .int .u8 0, .int .u8 0, .int .u8 0, .int .u8 0, .int .u8 0, .int .u8 0, .int .u8 0, .int .u8 0, .int .u8 0, .int .u8 0, .int .u8 0, .int .u8 0, .int .u8 0, .int .u8 0, .int .u8 0, .int .u8 0, .int .u8 0, .int .u8 0, .int .u8 0, .int .u8 0, .int .u8 0, .int .u8 0, .int .u8 0, .int .u8 0, .int .u8 0, .int .u8 0, .int .u8 0, .int .u8 0, .int .u8 0, .int .u8 0, .int .u8 0, .int .u8 0, .int .u8 0, .int .u8 0, .int .u8 0, .int .u8 0, .int .u8 0, .int .u8 0, .int .u8 0, .int .u8 0, .int .u8 0, .int .u8 0, .int .u8 0, .int .u8 0, .int .u8 0, .int .u8 0, .int .u8 0, .int .u8 0, .int .u8 0, .int .u8 0, .int .u8 0, .int .u8 0, .int .u8 0, .int .u8 0, .int .u8 0, .int .u8 0, .int .u8 0, .int .u8 0, .int .u8 0, .int .u8 0, .int .u8 0, .int .u8 0, .int .u8 0, .int .u8 0, .int .u8 0, .int .u8 0, .int .u8 0, .int .u8 0, .int .u8 0, .int .u8 0, .int .u8 0, .int .u8 0, .int .u8 0, .int .u8 0, .int .u8 0, .int .u8 0, .int .u8 0, .int .u8 0, .int .u8 0, .int .u8 0, .int .u8 0, .int .u8 0, .int .u8 0, .int .u8 0, .int .u8 0, .int .u8 0, .int .u8 0, .int .u8 0, .int .u8 0, .int .u8 0, .int .u8 0, .int .u8 0, .int .u8 0, .int .u8 0, .int .u8 0, .int .u8 0, .int .u8 0, .int .u8 0, .int .u8 0, .int .u8 0, .int .u8 0, .int .u8 0, .int .u8 0, .int .u8 0, .int .u8 0, .int .u8 0, .int .u8 0, .int .u8 0, .int .u8 0, .int .u8 0, .int .u8 0, .int .u8 0, .int .u8 0, .int .u8 0, .int .u8 0, .int .u8 0, .int .u8 0, .int .u8 0, .int .u8 0, .int .u8 0, .int .u8 0, .int .u8 0, .int .u8 0, .int .u8 0, .int .u8 0, .int .u8 0, .int .u8 0, .int .u8 0, .int .u8 0, .int .u8 0, .int .u8 0, .int .u8 0, .int .u8 0, .int .u8 0]) := by kernel_rfl
@[simp] theorem tarr_161 : tarr Tryd.prog 161 = some (256, 5) := by kernel_rfl
@[simp] theorem tsizes_161 : tsizes Tryd.prog 161 = true := by kernel_rfl
@[simp] theorem tplace_161_0 : aplace Tryd.prog 161 0 = some (0, 1) := by kernel_rfl
@[simp] theorem tplace_161_1 : aplace Tryd.prog 161 1 = some (1, 1) := by kernel_rfl
@[simp] theorem tplace_161_2 : aplace Tryd.prog 161 2 = some (2, 1) := by kernel_rfl
@[simp] theorem tplace_161_3 : aplace Tryd.prog 161 3 = some (3, 1) := by kernel_rfl
@[simp] theorem tplace_161_4 : aplace Tryd.prog 161 4 = some (4, 1) := by kernel_rfl
@[simp] theorem tplace_161_5 : aplace Tryd.prog 161 5 = some (5, 1) := by kernel_rfl
@[simp] theorem tplace_161_6 : aplace Tryd.prog 161 6 = some (6, 1) := by kernel_rfl
@[simp] theorem tplace_161_7 : aplace Tryd.prog 161 7 = some (7, 1) := by kernel_rfl
@[simp] theorem tplace_161_8 : aplace Tryd.prog 161 8 = some (8, 1) := by kernel_rfl
@[simp] theorem tplace_161_9 : aplace Tryd.prog 161 9 = some (9, 1) := by kernel_rfl
@[simp] theorem tplace_161_10 : aplace Tryd.prog 161 10 = some (10, 1) := by kernel_rfl
@[simp] theorem tplace_161_11 : aplace Tryd.prog 161 11 = some (11, 1) := by kernel_rfl
@[simp] theorem tplace_161_12 : aplace Tryd.prog 161 12 = some (12, 1) := by kernel_rfl
@[simp] theorem tplace_161_13 : aplace Tryd.prog 161 13 = some (13, 1) := by kernel_rfl
@[simp] theorem tplace_161_14 : aplace Tryd.prog 161 14 = some (14, 1) := by kernel_rfl
@[simp] theorem tplace_161_15 : aplace Tryd.prog 161 15 = some (15, 1) := by kernel_rfl
@[simp] theorem tkd_162 : tkd Tryd.prog 162 = 9 := by kernel_rfl
@[simp] theorem tun_162 : (Tryd.prog.underlying 162).isSome = true := by kernel_rfl
@[simp] theorem tagg_162 : tagg Tryd.prog 162 = some true := by kernel_rfl
@[simp] theorem tsize_162 : tsize Tryd.prog 162 = some 2 := by kernel_rfl
@[simp] theorem tzero_162 : tzero Tryd.prog 162 = some (.agg #[.int .u8 0, .int .u8 0]) := by kernel_rfl
@[simp] theorem tsizes_162 : tsizes Tryd.prog 162 = true := by kernel_rfl
@[simp] theorem tfield_162_0 : tfield Tryd.prog 162 0 = some (0, 5) := by kernel_rfl
@[simp] theorem tplace_162_0 : aplace Tryd.prog 162 0 = some (0, 1) := by kernel_rfl
@[simp] theorem tfield_162_1 : tfield Tryd.prog 162 1 = some (1, 5) := by kernel_rfl
@[simp] theorem tplace_162_1 : aplace Tryd.prog 162 1 = some (1, 1) := by kernel_rfl
@[simp] theorem tkd_163 : tkd Tryd.prog 163 = 9 := by kernel_rfl
@[simp] theorem tun_163 : (Tryd.prog.underlying 163).isSome = true := by kernel_rfl
@[simp] theorem tagg_163 : tagg Tryd.prog 163 = some true := by kernel_rfl
@[simp] theorem tsize_163 : tsize Tryd.prog 163 = some 2 := by kernel_rfl
@[simp] theorem tzero_163 : tzero Tryd.prog 163 = some (.agg #[.int .u8 0, .int .u8 0]) := by kernel_rfl
@[simp] theorem tsizes_163 : tsizes Tryd.prog 163 = true := by kernel_rfl
@[simp] theorem tfield_163_0 : tfield Tryd.prog 163 0 = some (0, 5) := by kernel_rfl
@[simp] theorem tplace_163_0 : aplace Tryd.prog 163 0 = some (0, 1) := by kernel_rfl
@[simp] theorem tfield_163_1 : tfield Tryd.prog 163 1 = some (1, 5) := by kernel_rfl
@[simp] theorem tplace_163_1 : aplace Tryd.prog 163 1 = some (1, 1) := by kernel_rfl
@[simp] theorem tkd_164 : tkd Tryd.prog 164 = 10 := by kernel_rfl
@[simp] theorem tun_164 : (Tryd.prog.underlying 164).isSome = true := by kernel_rfl
@[simp] theorem tagg_164 : tagg Tryd.prog 164 = some true := by kernel_rfl
@[simp] theorem tsize_164 : tsize Tryd.prog 164 = some 32 := by kernel_rfl
@[simp] theorem tzero_164 : tzero Tryd.prog 164 = some (.agg #[.int .u8 0, .int .u8 0, .int .u8 0, .int .u8 0, .int .u8 0, .int .u8 0, .int .u8 0, .int .u8 0, .int .u8 0, .int .u8 0, .int .u8 0, .int .u8 0, .int .u8 0, .int .u8 0, .int .u8 0, .int .u8 0, .int .u8 0, .int .u8 0, .int .u8 0, .int .u8 0, .int .u8 0, .int .u8 0, .int .u8 0, .int .u8 0, .int .u8 0, .int .u8 0, .int .u8 0, .int .u8 0, .int .u8 0, .int .u8 0, .int .u8 0, .int .u8 0]) := by kernel_rfl
@[simp] theorem tarr_164 : tarr Tryd.prog 164 = some (16, 163) := by kernel_rfl
@[simp] theorem tsizes_164 : tsizes Tryd.prog 164 = true := by kernel_rfl
@[simp] theorem tplace_164_0 : aplace Tryd.prog 164 0 = some (0, 2) := by kernel_rfl
@[simp] theorem tplace_164_1 : aplace Tryd.prog 164 1 = some (2, 2) := by kernel_rfl
@[simp] theorem tplace_164_2 : aplace Tryd.prog 164 2 = some (4, 2) := by kernel_rfl
@[simp] theorem tplace_164_3 : aplace Tryd.prog 164 3 = some (6, 2) := by kernel_rfl
@[simp] theorem tplace_164_4 : aplace Tryd.prog 164 4 = some (8, 2) := by kernel_rfl
@[simp] theorem tplace_164_5 : aplace Tryd.prog 164 5 = some (10, 2) := by kernel_rfl
@[simp] theorem tplace_164_6 : aplace Tryd.prog 164 6 = some (12, 2) := by kernel_rfl
@[simp] theorem tplace_164_7 : aplace Tryd.prog 164 7 = some (14, 2) := by kernel_rfl
@[simp] theorem tplace_164_8 : aplace Tryd.prog 164 8 = some (16, 2) := by kernel_rfl
@[simp] theorem tplace_164_9 : aplace Tryd.prog 164 9 = some (18, 2) := by kernel_rfl
@[simp] theorem tplace_164_10 : aplace Tryd.prog 164 10 = some (20, 2) := by kernel_rfl
@[simp] theorem tplace_164_11 : aplace Tryd.prog 164 11 = some (22, 2) := by kernel_rfl
@[simp] theorem tplace_164_12 : aplace Tryd.prog 164 12 = some (24, 2) := by kernel_rfl
@[simp] theorem tplace_164_13 : aplace Tryd.prog 164 13 = some (26, 2) := by kernel_rfl
@[simp] theorem tplace_164_14 : aplace Tryd.prog 164 14 = some (28, 2) := by kernel_rfl
@[simp] theorem tplace_164_15 : aplace Tryd.prog 164 15 = some (30, 2) := by kernel_rfl
@[simp] theorem tkd_171 : tkd Tryd.prog 171 = 9 := by kernel_rfl
@[simp] theorem tun_171 : (Tryd.prog.underlying 171).isSome = true := by kernel_rfl
@[simp] theorem tagg_171 : tagg Tryd.prog 171 = some true := by kernel_rfl
@[simp] theorem tsize_171 : tsize Tryd.prog 171 = some 3 := by kernel_rfl
@[simp] theorem tzero_171 : tzero Tryd.prog 171 = some (.agg #[.string ByteArray.empty, .string ByteArray.empty, .nilIface]) := by kernel_rfl
@[simp] theorem tsizes_171 : tsizes Tryd.prog 171 = true := by kernel_rfl
@[simp] theorem tfield_171_0 : tfield Tryd.prog 171 0 = some (0, 9) := by kernel_rfl
@[simp] theorem tplace_171_0 : aplace Tryd.prog 171 0 = some (0, 1) := by kernel_rfl
@[simp] theorem tfield_171_1 : tfield Tryd.prog 171 1 = some (1, 9) := by kernel_rfl
@[simp] theorem tplace_171_1 : aplace Tryd.prog 171 1 = some (1, 1) := by kernel_rfl
@[simp] theorem tfield_171_2 : tfield Tryd.prog 171 2 = some (2, 91) := by kernel_rfl
@[simp] theorem tplace_171_2 : aplace Tryd.prog 171 2 = some (2, 1) := by kernel_rfl
@[simp] theorem tkd_172 : tkd Tryd.prog 172 = 9 := by kernel_rfl
@[simp] theorem tun_172 : (Tryd.prog.underlying 172).isSome = true := by kernel_rfl
@[simp] theorem tagg_172 : tagg Tryd.prog 172 = some true := by kernel_rfl
@[simp] theorem tsize_172 : tsize Tryd.prog 172 = some 3 := by kernel_rfl
@[simp] theorem tzero_172 : tzero Tryd.prog 172 = some (.agg #[.string ByteArray.empty, .string ByteArray.empty, .nilIface]) := by kernel_rfl
@[simp] theorem tsizes_172 : tsizes Tryd.prog 172 = true := by kernel_rfl
@[simp] theorem tfield_172_0 : tfield Tryd.prog 172 0 = some (0, 9) := by kernel_rfl
@[simp] theorem tplace_172_0 : aplace Tryd.prog 172 0 = some (0, 1) := by kernel_rfl
@[simp] theorem tfield_172_1 : tfield Tryd.prog 172 1 = some (1, 9) := by kernel_rfl
@[simp] theorem tplace_172_1 : aplace Tryd.prog 172 1 = some (1, 1) := by kernel_rfl
@[simp] theorem tfield_172_2 : tfield Tryd.prog 172 2 = some (2, 91) := by kernel_rfl
@[simp] theorem tplace_172_2 : aplace Tryd.prog 172 2 = some (2, 1) := by kernel_rfl
@[simp] theorem tkd_174 : tkd Tryd.prog 174 = 10 := by kernel_rfl
@[simp] theorem tun_174 : (Tryd.prog.underlying 174).isSome = true := by kernel_rfl
@[simp] theorem tagg_174 : tagg Tryd.prog 174 = some true := by kernel_rfl
@[simp] theorem tsize_174 : tsize Tryd.prog 174 = some 32 := by kernel_rfl
@[simp] theorem tzero_174 : tzero Tryd.prog 174 = some (.agg #[.int .u8 0, .int .u8 0, .int .u8 0, .int .u8 0, .int .u8 0, .int .u8 0, .int .u8 0, .int .u8 0, .int .u8 0, .int .u8 0, .int .u8 0, .int .u8 0, .int .u8 0, .int .u8 0, .int .u8 0, .int .u8 0, .int .u8 0, .int .u8 0, .int .u8 0, .int .u8 0, .int .u8 0, .int .u8 0, .int .u8 0, .int .u8 0, .int .u8 0, .int .u8 0, .int .u8 0, .int .u8 0, .int .u8 0, .int .u8 0, .int .u8 0, .int .u8 0]) := by kernel_rfl
@[simp] theorem tarr_174 : tarr Tryd.prog 174 = some (32, 5) := by kernel_rfl
@[simp] theorem tsizes_174 : tsizes Tryd.prog 174 = true := by kernel_rfl
@[simp] theorem tplace_174_0 : aplace Tryd.prog 174 0 = some (0, 1) := by kernel_rfl
@[simp] theorem tplace_174_1 : aplace Tryd.prog 174 1 = some (1, 1) := by kernel_rfl
@[simp] theorem tplace_174_2 : aplace Tryd.prog 174 2 = some (2, 1) := by kernel_rfl
@[simp] theorem tplace_174_3 : aplace Tryd.prog 174 3 = some (3, 1) := by kernel_rfl
@[simp] theorem tplace_174_4 : aplace Tryd.prog 174 4 = some (4, 1) := by kernel_rfl
@[simp] theorem tplace_174_5 : aplace Tryd.prog 174 5 = some (5, 1) := by kernel_rfl
@[simp] theorem tplace_174_6 : aplace Tryd.prog 174 6 = some (6, 1) := by kernel_rfl
@[simp] theorem tplace_174_7 : aplace Tryd.prog 174 7 = some (7, 1) := by kernel_rfl
@[simp] theorem tplace_174_8 : aplace Tryd.prog 174 8 = some (8, 1) := by kernel_rfl
@[simp] theorem tplace_174_9 : aplace Tryd.prog 174 9 = some (9, 1) := by kernel_rfl
@[simp] theorem tplace_174_10 : aplace Tryd.prog 174 10 = some (10, 1) := by kernel_rfl
@[simp] theorem tplace_174_11 : aplace Tryd.prog 174 11 = some (11, 1) := by kernel_rfl
@[simp] theorem tplace_174_12 : aplace Tryd.prog 174 12 = some (12, 1) := by kernel_rfl
@[simp] theorem tplace_174_13 : aplace Tryd.prog 174 13 = some (13, 1) := by kernel_rfl
@[simp] theorem tplace_174_14 : aplace Tryd.prog 174 14 = some (14, 1) := by kernel_rfl
@[simp] theorem tplace_174_15 : aplace Tryd.prog 174 15 = some (15, 1) := by kernel_rfl
@[simp] theorem tkd_178 : tkd Tryd.prog 178 = 4 := by kernel_rfl
@[simp] theorem tun_178 : (Tryd.prog.underlying 178).isSome = true := by kernel_rfl
@[simp] theorem tagg_178 : tagg Tryd.prog 178 = some false := by kernel_rfl
@[simp] theorem tsize_178 : tsize Tryd.prog 178 = some 1 := by kernel_rfl
@[simp] theorem tzero_178 : tzero Tryd.prog 178 = some (.pointer none) := by kernel_rfl
@[simp] theorem tkd_179 : tkd Tryd.prog 179 = 9 := by kernel_rfl
@[simp] theorem tun_179 : (Tryd.prog.underlying 179).isSome = true := by kernel_rfl
@[simp] theorem tagg_179 : tagg Tryd.prog 179 = some true := by kernel_rfl
@[simp] theorem tsize_179 : tsize Tryd.prog 179 = some 1 := by kernel_rfl
@[simp] theorem tzero_179 : tzero Tryd.prog 179 = some (.agg #[.string ByteArray.empty]) := by kernel_rfl
@[simp] theorem tsizes_179 : tsizes Tryd.prog 179 = true := by kernel_rfl
@[simp] theorem tfield_179_0 : tfield Tryd.prog 179 0 = some (0, 9) := by kernel_rfl
@[simp] theorem tplace_179_0 : aplace Tryd.prog 179 0 = some (0, 1) := by kernel_rfl
@[simp] theorem tkd_180 : tkd Tryd.prog 180 = 9 := by kernel_rfl
@[simp] theorem tun_180 : (Tryd.prog.underlying 180).isSome = true := by kernel_rfl
@[simp] theorem tagg_180 : tagg Tryd.prog 180 = some true := by kernel_rfl
@[simp] theorem tsize_180 : tsize Tryd.prog 180 = some 1 := by kernel_rfl
@[simp] theorem tzero_180 : tzero Tryd.prog 180 = some (.agg #[.string ByteArray.empty]) := by kernel_rfl
@[simp] theorem tsizes_180 : tsizes Tryd.prog 180 = true := by kernel_rfl
@[simp] theorem tfield_180_0 : tfield Tryd.prog 180 0 = some (0, 9) := by kernel_rfl
@[simp] theorem tplace_180_0 : aplace Tryd.prog 180 0 = some (0, 1) := by kernel_rfl
@[simp] theorem tkd_181 : tkd Tryd.prog 181 = 9 := by kernel_rfl
@[simp] theorem tun_181 : (Tryd.prog.underlying 181).isSome = true := by kernel_rfl
@[simp] theorem tagg_181 : tagg Tryd.prog 181 = some true := by kernel_rfl
@[simp] theorem tsize_181 : tsize Tryd.prog 181 = some 4 := by kernel_rfl
@[simp] theorem tzero_181 : tzero Tryd.prog 181 = some (.agg #[.pointer none, .pointer none, .pointer none, .string ByteArray.empty]) := by kernel_rfl
@[simp] theorem tsizes_181 : tsizes Tryd.prog 181 = true := by kernel_rfl
@[simp] theorem tfield_181_0 : tfield Tryd.prog 181 0 = some (0, 17) := by kernel_rfl
@[simp] theorem tplace_181_0 : aplace Tryd.prog 181 0 = some (0, 1) := by kernel_rfl
@[simp] theorem tfield_181_1 : tfield Tryd.prog 181 1 = some (1, 17) := by kernel_rfl
@[simp] theorem tplace_181_1 : aplace Tryd.prog 181 1 = some (1, 1) := by kernel_rfl
@[simp] theorem tfield_181_2 : tfield Tryd.prog 181 2 = some (2, 17) := by kernel_rfl
@[simp] theorem tplace_181_2 : aplace Tryd.prog 181 2 = some (2, 1) := by kernel_rfl
@[simp] theorem tfield_181_3 : tfield Tryd.prog 181 3 = some (3, 9) := by kernel_rfl
@[simp] theorem tplace_181_3 : aplace Tryd.prog 181 3 = some (3, 1) := by kernel_rfl
@[simp] theorem tkd_182 : tkd Tryd.prog 182 = 9 := by kernel_rfl
@[simp] theorem tun_182 : (Tryd.prog.underlying 182).isSome = true := by kernel_rfl
@[simp] theorem tagg_182 : tagg Tryd.prog 182 = some true := by kernel_rfl
@[simp] theorem tsize_182 : tsize Tryd.prog 182 = some 4 := by kernel_rfl
@[simp] theorem tzero_182 : tzero Tryd.prog 182 = some (.agg #[.pointer none, .pointer none, .pointer none, .string ByteArray.empty]) := by kernel_rfl
@[simp] theorem tsizes_182 : tsizes Tryd.prog 182 = true := by kernel_rfl
@[simp] theorem tfield_182_0 : tfield Tryd.prog 182 0 = some (0, 17) := by kernel_rfl
@[simp] theorem tplace_182_0 : aplace Tryd.prog 182 0 = some (0, 1) := by kernel_rfl
@[simp] theorem tfield_182_1 : tfield Tryd.prog 182 1 = some (1, 17) := by kernel_rfl
@[simp] theorem tplace_182_1 : aplace Tryd.prog 182 1 = some (1, 1) := by kernel_rfl
@[simp] theorem tfield_182_2 : tfield Tryd.prog 182 2 = some (2, 17) := by kernel_rfl
@[simp] theorem tplace_182_2 : aplace Tryd.prog 182 2 = some (2, 1) := by kernel_rfl
@[simp] theorem tfield_182_3 : tfield Tryd.prog 182 3 = some (3, 9) := by kernel_rfl
@[simp] theorem tplace_182_3 : aplace Tryd.prog 182 3 = some (3, 1) := by kernel_rfl
@[simp] theorem tkd_183 : tkd Tryd.prog 183 = 10 := by kernel_rfl
@[simp] theorem tun_183 : (Tryd.prog.underlying 183).isSome = true := by kernel_rfl
@[simp] theorem tagg_183 : tagg Tryd.prog 183 = some true := by kernel_rfl
@[simp] theorem tsize_183 : tsize Tryd.prog 183 = some 0 := by kernel_rfl
@[simp] theorem tzero_183 : tzero Tryd.prog 183 = some (.agg #[]) := by kernel_rfl
@[simp] theorem tarr_183 : tarr Tryd.prog 183 = some (0, 16) := by kernel_rfl
@[simp] theorem tsizes_183 : tsizes Tryd.prog 183 = true := by kernel_rfl
@[simp] theorem tkd_184 : tkd Tryd.prog 184 = 9 := by kernel_rfl
@[simp] theorem tun_184 : (Tryd.prog.underlying 184).isSome = true := by kernel_rfl
@[simp] theorem tagg_184 : tagg Tryd.prog 184 = some true := by kernel_rfl
@[simp] theorem tsize_184 : tsize Tryd.prog 184 = some 0 := by kernel_rfl
@[simp] theorem tzero_184 : tzero Tryd.prog 184 = some (.agg #[]) := by kernel_rfl
@[simp] theorem tsizes_184 : tsizes Tryd.prog 184 = true := by kernel_rfl
@[simp] theorem tfield_184_0 : tfield Tryd.prog 184 0 = some (0, 183) := by kernel_rfl
@[simp] theorem tplace_184_0 : aplace Tryd.prog 184 0 = some (0, 0) := by kernel_rfl
@[simp] theorem tkd_185 : tkd Tryd.prog 185 = 9 := by kernel_rfl
@[simp] theorem tun_185 : (Tryd.prog.underlying 185).isSome = true := by kernel_rfl
@[simp] theorem tagg_185 : tagg Tryd.prog 185 = some true := by kernel_rfl
@[simp] theorem tsize_185 : tsize Tryd.prog 185 = some 0 := by kernel_rfl
@[simp] theorem tzero_185 : tzero Tryd.prog 185 = some (.agg #[]) := by kernel_rfl
@[simp] theorem tsizes_185 : tsizes Tryd.prog 185 = true := by kernel_rfl
@[simp] theorem tfield_185_0 : tfield Tryd.prog 185 0 = some (0, 183) := by kernel_rfl
@[simp] theorem tplace_185_0 : aplace Tryd.prog 185 0 = some (0, 0) := by kernel_rfl
@[simp] theorem tkd_186 : tkd Tryd.prog 186 = 2 := by kernel_rfl
@[simp] theorem tun_186 : (Tryd.prog.underlying 186).isSome = true := by kernel_rfl
@[simp] theorem tagg_186 : tagg Tryd.prog 186 = some false := by kernel_rfl
@[simp] theorem tsize_186 : tsize Tryd.prog 186 = some 1 := by kernel_rfl
@[simp] theorem tzero_186 : tzero Tryd.prog 186 = some (.int .u8 0) := by kernel_rfl
@[simp] theorem tint_186 : tint Tryd.prog 186 = some .u8 := by kernel_rfl
@[simp] theorem tkd_187 : tkd Tryd.prog 187 = 2 := by kernel_rfl
@[simp] theorem tun_187 : (Tryd.prog.underlying 187).isSome = true := by kernel_rfl
@[simp] theorem tagg_187 : tagg Tryd.prog 187 = some false := by kernel_rfl
@[simp] theorem tsize_187 : tsize Tryd.prog 187 = some 1 := by kernel_rfl
@[simp] theorem tzero_187 : tzero Tryd.prog 187 = some (.int .u8 0) := by kernel_rfl
@[simp] theorem tint_187 : tint Tryd.prog 187 = some .u8 := by kernel_rfl
@[simp] theorem tkd_189 : tkd Tryd.prog 189 = 2 := by kernel_rfl
@[simp] theorem tun_189 : (Tryd.prog.underlying 189).isSome = true := by kernel_rfl
@[simp] theorem tagg_189 : tagg Tryd.prog 189 = some false := by kernel_rfl
@[simp] theorem tsize_189 : tsize Tryd.prog 189 = some 1 := by kernel_rfl
@[simp] theorem tzero_189 : tzero Tryd.prog 189 = some (.int .i32 0) := by kernel_rfl
@[simp] theorem tint_189 : tint Tryd.prog 189 = some .i32 := by kernel_rfl
@[simp] theorem tkd_190 : tkd Tryd.prog 190 = 2 := by kernel_rfl
@[simp] theorem tun_190 : (Tryd.prog.underlying 190).isSome = true := by kernel_rfl
@[simp] theorem tagg_190 : tagg Tryd.prog 190 = some false := by kernel_rfl
@[simp] theorem tsize_190 : tsize Tryd.prog 190 = some 1 := by kernel_rfl
@[simp] theorem tzero_190 : tzero Tryd.prog 190 = some (.int .i32 0) := by kernel_rfl
@[simp] theorem tint_190 : tint Tryd.prog 190 = some .i32 := by kernel_rfl
@[simp] theorem tkd_191 : tkd Tryd.prog 191 = 9 := by kernel_rfl
@[simp] theorem tun_191 : (Tryd.prog.underlying 191).isSome = true := by kernel_rfl
@[simp] theorem tagg_191 : tagg Tryd.prog 191 = some true := by kernel_rfl
@[simp] theorem tsize_191 : tsize Tryd.prog 191 = some 11 := by kernel_rfl
@[simp] theorem tzero_191 : tzero Tryd.prog 191 = some (.agg #[.int .u64 0, .int .u64 0, .int .u32 0, .int .u8 0, .int .u8 0, .int .u8 0, .int .u8 0, .nilFunc, .pointer none, .int .i32 0, .int .i32 0]) := by kernel_rfl
@[simp] theorem tsizes_191 : tsizes Tryd.prog 191 = true := by kernel_rfl
@[simp] theorem tfield_191_0 : tfield Tryd.prog 191 0 = some (0, 12) := by kernel_rfl
@[simp] theorem tplace_191_0 : aplace Tryd.prog 191 0 = some (0, 1) := by kernel_rfl
@[simp] theorem tfield_191_1 : tfield Tryd.prog 191 1 = some (1, 12) := by kernel_rfl
@[simp] theorem tplace_191_1 : aplace Tryd.prog 191 1 = some (1, 1) := by kernel_rfl
@[simp] theorem tfield_191_2 : tfield Tryd.prog 191 2 = some (2, 148) := by kernel_rfl
@[simp] theorem tplace_191_2 : aplace Tryd.prog 191 2 = some (2, 1) := by kernel_rfl
@[simp] theorem tfield_191_3 : tfield Tryd.prog 191 3 = some (3, 186) := by kernel_rfl
@[simp] theorem tplace_191_3 : aplace Tryd.prog 191 3 = some (3, 1) := by kernel_rfl
@[simp] theorem tfield_191_4 : tfield Tryd.prog 191 4 = some (4, 5) := by kernel_rfl
@[simp] theorem tplace_191_4 : aplace Tryd.prog 191 4 = some (4, 1) := by kernel_rfl
@[simp] theorem tfield_191_5 : tfield Tryd.prog 191 5 = some (5, 5) := by kernel_rfl
@[simp] theorem tplace_191_5 : aplace Tryd.prog 191 5 = some (5, 1) := by kernel_rfl
@[simp] theorem tfield_191_6 : tfield Tryd.prog 191 6 = some (6, 187) := by kernel_rfl
@[simp] theorem tplace_191_6 : aplace Tryd.prog 191 6 = some (6, 1) := by kernel_rfl
@[simp] theorem tfield_191_7 : tfield Tryd.prog 191 7 = some (7, 188) := by kernel_rfl
@[simp] theorem tplace_191_7 : aplace Tryd.prog 191 7 = some (7, 1) := by kernel_rfl
@[simp] theorem tfield_191_8 : tfield Tryd.prog 191 8 = some (8, 108) := by kernel_rfl
@[simp] theorem tplace_191_8 : aplace Tryd.prog 191 8 = some (8, 1) := by kernel_rfl
@[simp] theorem tfield_191_9 : tfield Tryd.prog 191 9 = some (9, 189) := by kernel_rfl
@[simp] theorem tplace_191_9 : aplace Tryd.prog 191 9 = some (9, 1) := by kernel_rfl
@[simp] theorem tfield_191_10 : tfield Tryd.prog 191 10 = some (10, 190) := by kernel_rfl
@[simp] theorem tplace_191_10 : aplace Tryd.prog 191 10 = some (10, 1) := by kernel_rfl
@[simp] theorem tkd_192 : tkd Tryd.prog 192 = 9 := by kernel_rfl
@[simp] theorem tun_192 : (Tryd.prog.underlying 192).isSome = true := by kernel_rfl
@[simp] theorem tagg_192 : tagg Tryd.prog 192 = some true := by kernel_rfl
@[simp] theorem tsize_192 : tsize Tryd.prog 192 = some 11 := by kernel_rfl
@[simp] theorem tzero_192 : tzero Tryd.prog 192 = some (.agg #[.int .u64 0, .int .u64 0, .int .u32 0, .int .u8 0, .int .u8 0, .int .u8 0, .int .u8 0, .nilFunc, .pointer none, .int .i32 0, .int .i32 0]) := by kernel_rfl
@[simp] theorem tsizes_192 : tsizes Tryd.prog 192 = true := by kernel_rfl
@[simp] theorem tfield_192_0 : tfield Tryd.prog 192 0 = some (0, 12) := by kernel_rfl
@[simp] theorem tplace_192_0 : aplace Tryd.prog 192 0 = some (0, 1) := by kernel_rfl
@[simp] theorem tfield_192_1 : tfield Tryd.prog 192 1 = some (1, 12) := by kernel_rfl
@[simp] theorem tplace_192_1 : aplace Tryd.prog 192 1 = some (1, 1) := by kernel_rfl
@[simp] theorem tfield_192_2 : tfield Tryd.prog 192 2 = some (2, 148) := by kernel_rfl
@[simp] theorem tplace_192_2 : aplace Tryd.prog 192 2 = some (2, 1) := by kernel_rfl
@[simp] theorem tfield_192_3 : tfield Tryd.prog 192 3 = some (3, 186) := by kernel_rfl
@[simp] theorem tplace_192_3 : aplace Tryd.prog 192 3 = some (3, 1) := by kernel_rfl
@[simp] theorem tfield_192_4 : tfield Tryd.prog 192 4 = some (4, 5) := by kernel_rfl
@[simp] theorem tplace_192_4 : aplace Tryd.prog 192 4 = some (4, 1) := by kernel_rfl
@[simp] theorem tfield_192_5 : tfield Tryd.prog 192 5 = some (5, 5) := by kernel_rfl
@[simp] theorem tplace_192_5 : aplace Tryd.prog 192 5 = some (5, 1) := by kernel_rfl
@[simp] theorem tfield_192_6 : tfield Tryd.prog 192 6 = some (6, 187) := by kernel_rfl
@[simp] theorem tplace_192_6 : aplace Tryd.prog 192 6 = some (6, 1) := by kernel_rfl
@[simp] theorem tfield_192_7 : tfield Tryd.prog 192 7 = some (7, 188) := by kernel_rfl
@[simp] theorem tplace_192_7 : aplace Tryd.prog 192 7 = some (7, 1) := by kernel_rfl
@[simp] theorem tfield_192_8 : tfield Tryd.prog 192 8 = some (8, 108) := by kernel_rfl
@[simp] theorem tplace_192_8 : aplace Tryd.prog 192 8 = some (8, 1) := by kernel_rfl
@[simp] theorem tfield_192_9 : tfield Tryd.prog 192 9 = some (9, 189) := by kernel_rfl
@[simp] theorem tplace_192_9 : aplace Tryd.prog 192 9 = some (9, 1) := by kernel_rfl
@[simp] theorem tfield_192_10 : tfield Tryd.prog 192 10 = some (10, 190) := by kernel_rfl
@[simp] theorem tplace_192_10 : aplace Tryd.prog 192 10 = some (10, 1) := by kernel_rfl
@[simp] theorem tfs_24 : tfs Tryd.prog 24 = some [(false, 22, 0), (false, 4, 1)] := by kernel_rfl
@[simp] theorem tfs_34 : tfs Tryd.prog 34 = some [(false, 3, 0), (false, 3, 1), (false, 3, 2)] := by kernel_rfl
@[simp] theorem tfs_36 : tfs Tryd.prog 36 = some [(false, 34, 0), (false, 3, 3), (false, 3, 4), (false, 3, 5), (false, 3, 6)] := by kernel_rfl
@[simp] theorem tfs_26 : tfs Tryd.prog 26 = some [(false, 24, 0), (false, 24, 2), (false, 24, 4), (false, 24, 6), (false, 24, 8)] := by kernel_rfl
@[simp] theorem can_3 : canCall Tryd.prog 3 = true := by kernel_rfl
@[simp] theorem can_4 : canCall Tryd.prog 4 = true := by kernel_rfl
@[simp] theorem can_5 : canCall Tryd.prog 5 = true := by kernel_rfl
@[simp] theorem can_6 : canCall Tryd.prog 6 = true := by kernel_rfl
@[simp] theorem can_7 : canCall Tryd.prog 7 = true := by kernel_rfl
@[simp] theorem can_8 : canCall Tryd.prog 8 = true := by kernel_rfl
@[simp] theorem can_9 : canCall Tryd.prog 9 = true := by kernel_rfl
@[simp] theorem can_10 : canCall Tryd.prog 10 = true := by kernel_rfl
@[simp] theorem can_11 : canCall Tryd.prog 11 = true := by kernel_rfl
@[simp] theorem can_12 : canCall Tryd.prog 12 = true := by kernel_rfl
@[simp] theorem can_13 : canCall Tryd.prog 13 = true := by kernel_rfl
@[simp] theorem can_14 : canCall Tryd.prog 14 = true := by kernel_rfl
@[simp] theorem can_15 : canCall Tryd.prog 15 = true := by kernel_rfl
@[simp] theorem can_16 : canCall Tryd.prog 16 = true := by kernel_rfl
@[simp] theorem can_17 : canCall Tryd.prog 17 = true := by kernel_rfl
@[simp] theorem can_18 : canCall Tryd.prog 18 = true := by kernel_rfl
@[simp] theorem can_19 : canCall Tryd.prog 19 = true := by kernel_rfl
@[simp] theorem can_20 : canCall Tryd.prog 20 = true := by kernel_rfl
@[simp] theorem can_21 : canCall Tryd.prog 21 = true := by kernel_rfl
@[simp] theorem can_22 : canCall Tryd.prog 22 = true := by kernel_rfl
@[simp] theorem can_23 : canCall Tryd.prog 23 = true := by kernel_rfl
@[simp] theorem can_24 : canCall Tryd.prog 24 = true := by kernel_rfl
@[simp] theorem can_25 : canCall Tryd.prog 25 = true := by kernel_rfl
@[simp] theorem can_26 : canCall Tryd.prog 26 = true := by kernel_rfl
@[simp] theorem can_27 : canCall Tryd.prog 27 = true := by kernel_rfl
@[simp] theorem can_28 : canCall Tryd.prog 28 = true := by kernel_rfl
@[simp] theorem can_29 : canCall Tryd.prog 29 = true := by kernel_rfl
@[simp] theorem can_30 : canCall Tryd.prog 30 = true := by kernel_rfl
@[simp] theorem can_31 : canCall Tryd.prog 31 = true := by kernel_rfl
@[simp] theorem can_32 : canCall Tryd.prog 32 = true := by kernel_rfl
@[simp] theorem can_33 : canCall Tryd.prog 33 = true := by kernel_rfl
@[simp] theorem can_34 : canCall Tryd.prog 34 = true := by kernel_rfl
@[simp] theorem can_35 : canCall Tryd.prog 35 = true := by kernel_rfl
@[simp] theorem can_36 : canCall Tryd.prog 36 = true := by kernel_rfl
@[simp] theorem can_37 : canCall Tryd.prog 37 = true := by kernel_rfl
@[simp] theorem can_38 : canCall Tryd.prog 38 = true := by kernel_rfl
@[simp] theorem can_39 : canCall Tryd.prog 39 = true := by kernel_rfl
@[simp] theorem can_40 : canCall Tryd.prog 40 = true := by kernel_rfl
@[simp] theorem can_41 : canCall Tryd.prog 41 = true := by kernel_rfl
@[simp] theorem can_42 : canCall Tryd.prog 42 = true := by kernel_rfl
@[simp] theorem can_43 : canCall Tryd.prog 43 = true := by kernel_rfl
@[simp] theorem can_44 : canCall Tryd.prog 44 = true := by kernel_rfl
@[simp] theorem can_45 : canCall Tryd.prog 45 = true := by kernel_rfl
@[simp] theorem can_46 : canCall Tryd.prog 46 = true := by kernel_rfl
@[simp] theorem can_47 : canCall Tryd.prog 47 = true := by kernel_rfl
@[simp] theorem can_48 : canCall Tryd.prog 48 = true := by kernel_rfl
@[simp] theorem can_49 : canCall Tryd.prog 49 = true := by kernel_rfl
@[simp] theorem can_50 : canCall Tryd.prog 50 = true := by kernel_rfl
@[simp] theorem can_51 : canCall Tryd.prog 51 = true := by kernel_rfl
@[simp] theorem can_52 : canCall Tryd.prog 52 = true := by kernel_rfl
@[simp] theorem can_53 : canCall Tryd.prog 53 = true := by kernel_rfl
@[simp] theorem can_54 : canCall Tryd.prog 54 = true := by kernel_rfl
@[simp] theorem can_55 : canCall Tryd.prog 55 = true := by kernel_rfl
@[simp] theorem can_56 : canCall Tryd.prog 56 = true := by kernel_rfl
@[simp] theorem can_58 : canCall Tryd.prog 58 = true := by kernel_rfl
@[simp] theorem can_59 : canCall Tryd.prog 59 = true := by kernel_rfl
@[simp] theorem can_60 : canCall Tryd.prog 60 = true := by kernel_rfl
@[simp] theorem can_62 : canCall Tryd.prog 62 = true := by kernel_rfl
@[simp] theorem can_63 : canCall Tryd.prog 63 = true := by kernel_rfl
@[simp] theorem can_64 : canCall Tryd.prog 64 = true := by kernel_rfl
@[simp] theorem can_65 : canCall Tryd.prog 65 = true := by kernel_rfl
@[simp] theorem can_66 : canCall Tryd.prog 66 = true := by kernel_rfl
@[simp] theorem can_67 : canCall Tryd.prog 67 = true := by kernel_rfl
@[simp] theorem can_68 : canCall Tryd.prog 68 = true := by kernel_rfl
@[simp] theorem can_69 : canCall Tryd.prog 69 = true := by kernel_rfl
@[simp] theorem can_70 : canCall Tryd.prog 70 = true := by kernel_rfl
@[simp] theorem can_71 : canCall Tryd.prog 71 = true := by kernel_rfl
@[simp] theorem can_72 : canCall Tryd.prog 72 = true := by kernel_rfl
@[simp] theorem can_73 : canCall Tryd.prog 73 = true := by kernel_rfl
@[simp] theorem can_75 : canCall Tryd.prog 75 = true := by kernel_rfl
@[simp] theorem can_76 : canCall Tryd.prog 76 = true := by kernel_rfl
@[simp] theorem can_77 : canCall Tryd.prog 77 = true := by kernel_rfl
@[simp] theorem can_78 : canCall Tryd.prog 78 = true := by kernel_rfl
@[simp] theorem can_79 : canCall Tryd.prog 79 = true := by kernel_rfl
@[simp] theorem can_80 : canCall Tryd.prog 80 = true := by kernel_rfl
@[simp] theorem can_81 : canCall Tryd.prog 81 = true := by kernel_rfl
@[simp] theorem can_82 : canCall Tryd.prog 82 = true := by kernel_rfl
@[simp] theorem can_83 : canCall Tryd.prog 83 = true := by kernel_rfl
@[simp] theorem can_84 : canCall Tryd.prog 84 = true := by kernel_rfl
@[simp] theorem can_86 : canCall Tryd.prog 86 = true := by kernel_rfl
@[simp] theorem can_87 : canCall Tryd.prog 87 = true := by kernel_rfl
@[simp] theorem can_88 : canCall Tryd.prog 88 = true := by kernel_rfl
@[simp] theorem can_89 : canCall Tryd.prog 89 = true := by kernel_rfl
@[simp] theorem can_90 : canCall Tryd.prog 90 = true := by kernel_rfl
@[simp] theorem can_91 : canCall Tryd.prog 91 = true := by kernel_rfl
@[simp] theorem can_98 : canCall Tryd.prog 98 = true := by kernel_rfl
@[simp] theorem can_99 : canCall Tryd.prog 99 = true := by kernel_rfl
@[simp] theorem can_102 : canCall Tryd.prog 102 = true := by kernel_rfl
@[simp] theorem can_103 : canCall Tryd.prog 103 = true := by kernel_rfl
@[simp] theorem can_104 : canCall Tryd.prog 104 = true := by kernel_rfl
@[simp] theorem can_105 : canCall Tryd.prog 105 = true := by kernel_rfl
@[simp] theorem can_106 : canCall Tryd.prog 106 = true := by kernel_rfl
@[simp] theorem can_107 : canCall Tryd.prog 107 = true := by kernel_rfl
@[simp] theorem can_108 : canCall Tryd.prog 108 = true := by kernel_rfl
@[simp] theorem can_110 : canCall Tryd.prog 110 = true := by kernel_rfl
@[simp] theorem can_111 : canCall Tryd.prog 111 = true := by kernel_rfl
@[simp] theorem can_112 : canCall Tryd.prog 112 = true := by kernel_rfl
@[simp] theorem can_113 : canCall Tryd.prog 113 = true := by kernel_rfl
@[simp] theorem can_114 : canCall Tryd.prog 114 = true := by kernel_rfl
@[simp] theorem can_115 : canCall Tryd.prog 115 = true := by kernel_rfl
@[simp] theorem can_119 : canCall Tryd.prog 119 = true := by kernel_rfl
@[simp] theorem can_120 : canCall Tryd.prog 120 = true := by kernel_rfl
@[simp] theorem can_125 : canCall Tryd.prog 125 = true := by kernel_rfl
@[simp] theorem can_126 : canCall Tryd.prog 126 = true := by kernel_rfl
@[simp] theorem can_127 : canCall Tryd.prog 127 = true := by kernel_rfl
@[simp] theorem can_129 : canCall Tryd.prog 129 = true := by kernel_rfl
@[simp] theorem can_130 : canCall Tryd.prog 130 = true := by kernel_rfl
@[simp] theorem can_131 : canCall Tryd.prog 131 = true := by kernel_rfl
@[simp] theorem can_132 : canCall Tryd.prog 132 = true := by kernel_rfl
@[simp] theorem can_133 : canCall Tryd.prog 133 = true := by kernel_rfl
@[simp] theorem can_134 : canCall Tryd.prog 134 = true := by kernel_rfl
@[simp] theorem can_137 : canCall Tryd.prog 137 = true := by kernel_rfl
@[simp] theorem can_138 : canCall Tryd.prog 138 = true := by kernel_rfl
@[simp] theorem can_141 : canCall Tryd.prog 141 = true := by kernel_rfl
@[simp] theorem can_142 : canCall Tryd.prog 142 = true := by kernel_rfl
@[simp] theorem can_143 : canCall Tryd.prog 143 = true := by kernel_rfl
@[simp] theorem can_144 : canCall Tryd.prog 144 = true := by kernel_rfl
@[simp] theorem can_176 : canCall Tryd.prog 176 = true := by kernel_rfl
end Go.Proofs.YtdpgnbinekcgdaaDoor
