/- Small facts on the types and the functions of this program, printed by facts.py. -/
import Derived.Test.YtghlkjkdejebnaaDoorP08
import Derived.Test.YtghlkjkdejebnaaDoorRows
set_option linter.unusedSimpArgs false
set_option linter.unusedVariables false
set_option linter.unnecessarySimpa false
namespace Go.Proofs.YtghlkjkdejebnaaDoor
open Rg
theorem f_mixed : Tryd.prog.follows .mixedOrders = true := by kernel_rfl
@[simp] theorem tkd_2 : tkd Tryd.prog 2 = 2 := by kernel_rfl
@[simp] theorem tun_2 : (Tryd.prog.underlying 2).isSome = true := by kernel_rfl
@[simp] theorem tagg_2 : tagg Tryd.prog 2 = some false := by kernel_rfl
@[simp] theorem tsize_2 : tsize Tryd.prog 2 = some 1 := by kernel_rfl
@[simp] theorem tzero_2 : tzero Tryd.prog 2 = some (.int .i64 0) := by kernel_rfl
@[simp] theorem tint_2 : tint Tryd.prog 2 = some .i64 := by kernel_rfl
@[simp] theorem tkd_3 : tkd Tryd.prog 3 = 2 := by kernel_rfl
@[simp] theorem tun_3 : (Tryd.prog.underlying 3).isSome = true := by kernel_rfl
@[simp] theorem tagg_3 : tagg Tryd.prog 3 = some false := by kernel_rfl
@[simp] theorem tsize_3 : tsize Tryd.prog 3 = some 1 := by kernel_rfl
@[simp] theorem tzero_3 : tzero Tryd.prog 3 = some (.int .i64 0) := by kernel_rfl
@[simp] theorem tint_3 : tint Tryd.prog 3 = some .i64 := by kernel_rfl
@[simp] theorem tkd_4 : tkd Tryd.prog 4 = 1 := by kernel_rfl
@[simp] theorem tun_4 : (Tryd.prog.underlying 4).isSome = true := by kernel_rfl
@[simp] theorem tagg_4 : tagg Tryd.prog 4 = some false := by kernel_rfl
@[simp] theorem tsize_4 : tsize Tryd.prog 4 = some 1 := by kernel_rfl
@[simp] theorem tzero_4 : tzero Tryd.prog 4 = some (.bool false) := by kernel_rfl
@[simp] theorem tkd_5 : tkd Tryd.prog 5 = 2 := by kernel_rfl
@[simp] theorem tun_5 : (Tryd.prog.underlying 5).isSome = true := by kernel_rfl
@[simp] theorem tagg_5 : tagg Tryd.prog 5 = some false := by kernel_rfl
@[simp] theorem tsize_5 : tsize Tryd.prog 5 = some 1 := by kernel_rfl
@[simp] theorem tzero_5 : tzero Tryd.prog 5 = some (.int .u8 0) := by kernel_rfl
@[simp] theorem tint_5 : tint Tryd.prog 5 = some .u8 := by kernel_rfl
@[simp] theorem tkd_6 : tkd Tryd.prog 6 = 2 := by kernel_rfl
@[simp] theorem tun_6 : (Tryd.prog.underlying 6).isSome = true := by kernel_rfl
@[simp] theorem tagg_6 : tagg Tryd.prog 6 = some false := by kernel_rfl
@[simp] theorem tsize_6 : tsize Tryd.prog 6 = some 1 := by kernel_rfl
@[simp] theorem tzero_6 : tzero Tryd.prog 6 = some (.int .u8 0) := by kernel_rfl
@[simp] theorem tint_6 : tint Tryd.prog 6 = some .u8 := by kernel_rfl
@[simp] theorem tkd_7 : tkd Tryd.prog 7 = 9 := by kernel_rfl
@[simp] theorem tun_7 : (Tryd.prog.underlying 7).isSome = true := by kernel_rfl
@[simp] theorem tagg_7 : tagg Tryd.prog 7 = some true := by kernel_rfl
@[simp] theorem tsize_7 : tsize Tryd.prog 7 = some 4 := by kernel_rfl
@[simp] theorem tzero_7 : tzero Tryd.prog 7 = some (.agg #[.int .i64 0, .int .i64 0, .bool false, .int .u8 0]) := by kernel_rfl
@[simp] theorem tsizes_7 : tsizes Tryd.prog 7 = true := by kernel_rfl
@[simp] theorem tfield_7_0 : tfield Tryd.prog 7 0 = some (0, 2) := by kernel_rfl
@[simp] theorem tplace_7_0 : aplace Tryd.prog 7 0 = some (0, 1) := by kernel_rfl
@[simp] theorem tfield_7_1 : tfield Tryd.prog 7 1 = some (1, 3) := by kernel_rfl
@[simp] theorem tplace_7_1 : aplace Tryd.prog 7 1 = some (1, 1) := by kernel_rfl
@[simp] theorem tfield_7_2 : tfield Tryd.prog 7 2 = some (2, 4) := by kernel_rfl
@[simp] theorem tplace_7_2 : aplace Tryd.prog 7 2 = some (2, 1) := by kernel_rfl
@[simp] theorem tfield_7_3 : tfield Tryd.prog 7 3 = some (3, 6) := by kernel_rfl
@[simp] theorem tplace_7_3 : aplace Tryd.prog 7 3 = some (3, 1) := by kernel_rfl
@[simp] theorem tkd_8 : tkd Tryd.prog 8 = 9 := by kernel_rfl
@[simp] theorem tun_8 : (Tryd.prog.underlying 8).isSome = true := by kernel_rfl
@[simp] theorem tagg_8 : tagg Tryd.prog 8 = some true := by kernel_rfl
@[simp] theorem tsize_8 : tsize Tryd.prog 8 = some 4 := by kernel_rfl
@[simp] theorem tzero_8 : tzero Tryd.prog 8 = some (.agg #[.int .i64 0, .int .i64 0, .bool false, .int .u8 0]) := by kernel_rfl
@[simp] theorem tsizes_8 : tsizes Tryd.prog 8 = true := by kernel_rfl
@[simp] theorem tfield_8_0 : tfield Tryd.prog 8 0 = some (0, 2) := by kernel_rfl
@[simp] theorem tplace_8_0 : aplace Tryd.prog 8 0 = some (0, 1) := by kernel_rfl
@[simp] theorem tfield_8_1 : tfield Tryd.prog 8 1 = some (1, 3) := by kernel_rfl
@[simp] theorem tplace_8_1 : aplace Tryd.prog 8 1 = some (1, 1) := by kernel_rfl
@[simp] theorem tfield_8_2 : tfield Tryd.prog 8 2 = some (2, 4) := by kernel_rfl
@[simp] theorem tplace_8_2 : aplace Tryd.prog 8 2 = some (2, 1) := by kernel_rfl
@[simp] theorem tfield_8_3 : tfield Tryd.prog 8 3 = some (3, 6) := by kernel_rfl
@[simp] theorem tplace_8_3 : aplace Tryd.prog 8 3 = some (3, 1) := by kernel_rfl
@[simp] theorem tkd_9 : tkd Tryd.prog 9 = 3 := by kernel_rfl
@[simp] theorem tun_9 : (Tryd.prog.underlying 9).isSome = true := by kernel_rfl
@[simp] theorem tagg_9 : tagg Tryd.prog 9 = some false := by kernel_rfl
@[simp] theorem tsize_9 : tsize Tryd.prog 9 = some 1 := by kernel_rfl
@[simp] theorem tzero_9 : tzero Tryd.prog 9 = some (.string ByteArray.empty) := by kernel_rfl
@[simp] theorem tkd_10 : tkd Tryd.prog 10 = 3 := by kernel_rfl
@[simp] theorem tun_10 : (Tryd.prog.underlying 10).isSome = true := by kernel_rfl
@[simp] theorem tagg_10 : tagg Tryd.prog 10 = some false := by kernel_rfl
@[simp] theorem tsize_10 : tsize Tryd.prog 10 = some 1 := by kernel_rfl
@[simp] theorem tzero_10 : tzero Tryd.prog 10 = some (.string ByteArray.empty) := by kernel_rfl
@[simp] theorem tkd_11 : tkd Tryd.prog 11 = 3 := by kernel_rfl
@[simp] theorem tun_11 : (Tryd.prog.underlying 11).isSome = true := by kernel_rfl
@[simp] theorem tagg_11 : tagg Tryd.prog 11 = some false := by kernel_rfl
@[simp] theorem tsize_11 : tsize Tryd.prog 11 = some 1 := by kernel_rfl
@[simp] theorem tzero_11 : tzero Tryd.prog 11 = some (.string ByteArray.empty) := by kernel_rfl
@[simp] theorem tkd_12 : tkd Tryd.prog 12 = 2 := by kernel_rfl
@[simp] theorem tun_12 : (Tryd.prog.underlying 12).isSome = true := by kernel_rfl
@[simp] theorem tagg_12 : tagg Tryd.prog 12 = some false := by kernel_rfl
@[simp] theorem tsize_12 : tsize Tryd.prog 12 = some 1 := by kernel_rfl
@[simp] theorem tzero_12 : tzero Tryd.prog 12 = some (.int .u64 0) := by kernel_rfl
@[simp] theorem tint_12 : tint Tryd.prog 12 = some .u64 := by kernel_rfl
@[simp] theorem tkd_13 : tkd Tryd.prog 13 = 9 := by kernel_rfl
@[simp] theorem tun_13 : (Tryd.prog.underlying 13).isSome = true := by kernel_rfl
@[simp] theorem tagg_13 : tagg Tryd.prog 13 = some true := by kernel_rfl
@[simp] theorem tsize_13 : tsize Tryd.prog 13 = some 2 := by kernel_rfl
@[simp] theorem tzero_13 : tzero Tryd.prog 13 = some (.agg #[.string ByteArray.empty, .int .u64 0]) := by kernel_rfl
@[simp] theorem tsizes_13 : tsizes Tryd.prog 13 = true := by kernel_rfl
@[simp] theorem tfield_13_0 : tfield Tryd.prog 13 0 = some (0, 9) := by kernel_rfl
@[simp] theorem tplace_13_0 : aplace Tryd.prog 13 0 = some (0, 1) := by kernel_rfl
@[simp] theorem tfield_13_1 : tfield Tryd.prog 13 1 = some (1, 12) := by kernel_rfl
@[simp] theorem tplace_13_1 : aplace Tryd.prog 13 1 = some (1, 1) := by kernel_rfl
@[simp] theorem tkd_14 : tkd Tryd.prog 14 = 9 := by kernel_rfl
@[simp] theorem tun_14 : (Tryd.prog.underlying 14).isSome = true := by kernel_rfl
@[simp] theorem tagg_14 : tagg Tryd.prog 14 = some true := by kernel_rfl
@[simp] theorem tsize_14 : tsize Tryd.prog 14 = some 2 := by kernel_rfl
@[simp] theorem tzero_14 : tzero Tryd.prog 14 = some (.agg #[.string ByteArray.empty, .int .u64 0]) := by kernel_rfl
@[simp] theorem tsizes_14 : tsizes Tryd.prog 14 = true := by kernel_rfl
@[simp] theorem tfield_14_0 : tfield Tryd.prog 14 0 = some (0, 9) := by kernel_rfl
@[simp] theorem tplace_14_0 : aplace Tryd.prog 14 0 = some (0, 1) := by kernel_rfl
@[simp] theorem tfield_14_1 : tfield Tryd.prog 14 1 = some (1, 12) := by kernel_rfl
@[simp] theorem tplace_14_1 : aplace Tryd.prog 14 1 = some (1, 1) := by kernel_rfl
@[simp] theorem tkd_15 : tkd Tryd.prog 15 = 4 := by kernel_rfl
@[simp] theorem tun_15 : (Tryd.prog.underlying 15).isSome = true := by kernel_rfl
@[simp] theorem tagg_15 : tagg Tryd.prog 15 = some false := by kernel_rfl
@[simp] theorem tsize_15 : tsize Tryd.prog 15 = some 1 := by kernel_rfl
@[simp] theorem tzero_15 : tzero Tryd.prog 15 = some (.pointer none) := by kernel_rfl
@[simp] theorem tkd_16 : tkd Tryd.prog 16 = 4 := by kernel_rfl
@[simp] theorem tun_16 : (Tryd.prog.underlying 16).isSome = true := by kernel_rfl
@[simp] theorem tagg_16 : tagg Tryd.prog 16 = some false := by kernel_rfl
@[simp] theorem tsize_16 : tsize Tryd.prog 16 = some 1 := by kernel_rfl
@[simp] theorem tzero_16 : tzero Tryd.prog 16 = some (.pointer none) := by kernel_rfl
@[simp] theorem tkd_17 : tkd Tryd.prog 17 = 4 := by kernel_rfl
@[simp] theorem tun_17 : (Tryd.prog.underlying 17).isSome = true := by kernel_rfl
@[simp] theorem tagg_17 : tagg Tryd.prog 17 = some false := by kernel_rfl
@[simp] theorem tsize_17 : tsize Tryd.prog 17 = some 1 := by kernel_rfl
@[simp] theorem tzero_17 : tzero Tryd.prog 17 = some (.pointer none) := by kernel_rfl
@[simp] theorem tkd_18 : tkd Tryd.prog 18 = 9 := by kernel_rfl
@[simp] theorem tun_18 : (Tryd.prog.underlying 18).isSome = true := by kernel_rfl
@[simp] theorem tagg_18 : tagg Tryd.prog 18 = some true := by kernel_rfl
@[simp] theorem tsize_18 : tsize Tryd.prog 18 = some 1 := by kernel_rfl
@[simp] theorem tzero_18 : tzero Tryd.prog 18 = some (.agg #[.pointer none]) := by kernel_rfl
@[simp] theorem tsizes_18 : tsizes Tryd.prog 18 = true := by kernel_rfl
@[simp] theorem tfield_18_0 : tfield Tryd.prog 18 0 = some (0, 17) := by kernel_rfl
@[simp] theorem tplace_18_0 : aplace Tryd.prog 18 0 = some (0, 1) := by kernel_rfl
@[simp] theorem tkd_19 : tkd Tryd.prog 19 = 9 := by kernel_rfl
@[simp] theorem tun_19 : (Tryd.prog.underlying 19).isSome = true := by kernel_rfl
@[simp] theorem tagg_19 : tagg Tryd.prog 19 = some true := by kernel_rfl
@[simp] theorem tsize_19 : tsize Tryd.prog 19 = some 1 := by kernel_rfl
@[simp] theorem tzero_19 : tzero Tryd.prog 19 = some (.agg #[.pointer none]) := by kernel_rfl
@[simp] theorem tsizes_19 : tsizes Tryd.prog 19 = true := by kernel_rfl
@[simp] theorem tfield_19_0 : tfield Tryd.prog 19 0 = some (0, 17) := by kernel_rfl
@[simp] theorem tplace_19_0 : aplace Tryd.prog 19 0 = some (0, 1) := by kernel_rfl
@[simp] theorem tkd_20 : tkd Tryd.prog 20 = 8 := by kernel_rfl
@[simp] theorem tun_20 : (Tryd.prog.underlying 20).isSome = true := by kernel_rfl
@[simp] theorem tagg_20 : tagg Tryd.prog 20 = some false := by kernel_rfl
@[simp] theorem tsize_20 : tsize Tryd.prog 20 = some 1 := by kernel_rfl
@[simp] theorem tzero_20 : tzero Tryd.prog 20 = some (.nilIface) := by kernel_rfl
@[simp] theorem tkd_21 : tkd Tryd.prog 21 = 2 := by kernel_rfl
@[simp] theorem tun_21 : (Tryd.prog.underlying 21).isSome = true := by kernel_rfl
@[simp] theorem tagg_21 : tagg Tryd.prog 21 = some false := by kernel_rfl
@[simp] theorem tsize_21 : tsize Tryd.prog 21 = some 1 := by kernel_rfl
@[simp] theorem tzero_21 : tzero Tryd.prog 21 = some (.int .i32 0) := by kernel_rfl
@[simp] theorem tint_21 : tint Tryd.prog 21 = some .i32 := by kernel_rfl
@[simp] theorem tkd_22 : tkd Tryd.prog 22 = 9 := by kernel_rfl
@[simp] theorem tun_22 : (Tryd.prog.underlying 22).isSome = true := by kernel_rfl
@[simp] theorem tagg_22 : tagg Tryd.prog 22 = some true := by kernel_rfl
@[simp] theorem tsize_22 : tsize Tryd.prog 22 = some 2 := by kernel_rfl
@[simp] theorem tzero_22 : tzero Tryd.prog 22 = some (.agg #[.int .u8 0, .int .i64 0]) := by kernel_rfl
@[simp] theorem tsizes_22 : tsizes Tryd.prog 22 = true := by kernel_rfl
@[simp] theorem tfield_22_0 : tfield Tryd.prog 22 0 = some (0, 5) := by kernel_rfl
@[simp] theorem tplace_22_0 : aplace Tryd.prog 22 0 = some (0, 1) := by kernel_rfl
@[simp] theorem tfield_22_1 : tfield Tryd.prog 22 1 = some (1, 3) := by kernel_rfl
@[simp] theorem tplace_22_1 : aplace Tryd.prog 22 1 = some (1, 1) := by kernel_rfl
@[simp] theorem tkd_23 : tkd Tryd.prog 23 = 9 := by kernel_rfl
@[simp] theorem tun_23 : (Tryd.prog.underlying 23).isSome = true := by kernel_rfl
@[simp] theorem tagg_23 : tagg Tryd.prog 23 = some true := by kernel_rfl
@[simp] theorem tsize_23 : tsize Tryd.prog 23 = some 2 := by kernel_rfl
@[simp] theorem tzero_23 : tzero Tryd.prog 23 = some (.agg #[.int .u8 0, .int .i64 0]) := by kernel_rfl
@[simp] theorem tsizes_23 : tsizes Tryd.prog 23 = true := by kernel_rfl
@[simp] theorem tfield_23_0 : tfield Tryd.prog 23 0 = some (0, 5) := by kernel_rfl
@[simp] theorem tplace_23_0 : aplace Tryd.prog 23 0 = some (0, 1) := by kernel_rfl
@[simp] theorem tfield_23_1 : tfield Tryd.prog 23 1 = some (1, 3) := by kernel_rfl
@[simp] theorem tplace_23_1 : aplace Tryd.prog 23 1 = some (1, 1) := by kernel_rfl
@[simp] theorem tkd_27 : tkd Tryd.prog 27 = 9 := by kernel_rfl
@[simp] theorem tun_27 : (Tryd.prog.underlying 27).isSome = true := by kernel_rfl
@[simp] theorem tagg_27 : tagg Tryd.prog 27 = some true := by kernel_rfl
@[simp] theorem tsize_27 : tsize Tryd.prog 27 = some 2 := by kernel_rfl
@[simp] theorem tzero_27 : tzero Tryd.prog 27 = some (.agg #[.int .u8 0, .int .i64 0]) := by kernel_rfl
@[simp] theorem tsizes_27 : tsizes Tryd.prog 27 = true := by kernel_rfl
@[simp] theorem tfield_27_0 : tfield Tryd.prog 27 0 = some (0, 5) := by kernel_rfl
@[simp] theorem tplace_27_0 : aplace Tryd.prog 27 0 = some (0, 1) := by kernel_rfl
@[simp] theorem tfield_27_1 : tfield Tryd.prog 27 1 = some (1, 3) := by kernel_rfl
@[simp] theorem tplace_27_1 : aplace Tryd.prog 27 1 = some (1, 1) := by kernel_rfl
@[simp] theorem tkd_28 : tkd Tryd.prog 28 = 5 := by kernel_rfl
@[simp] theorem tun_28 : (Tryd.prog.underlying 28).isSome = true := by kernel_rfl
@[simp] theorem tagg_28 : tagg Tryd.prog 28 = some false := by kernel_rfl
@[simp] theorem tsize_28 : tsize Tryd.prog 28 = some 1 := by kernel_rfl
@[simp] theorem tzero_28 : tzero Tryd.prog 28 = some (.slice none 0 0) := by kernel_rfl
@[simp] theorem telem_28 : telem Tryd.prog 28 = some 9 := by kernel_rfl
@[simp] theorem tkd_29 : tkd Tryd.prog 29 = 2 := by kernel_rfl
@[simp] theorem tun_29 : (Tryd.prog.underlying 29).isSome = true := by kernel_rfl
@[simp] theorem tagg_29 : tagg Tryd.prog 29 = some false := by kernel_rfl
@[simp] theorem tsize_29 : tsize Tryd.prog 29 = some 1 := by kernel_rfl
@[simp] theorem tzero_29 : tzero Tryd.prog 29 = some (.int .i64 0) := by kernel_rfl
@[simp] theorem tint_29 : tint Tryd.prog 29 = some .i64 := by kernel_rfl
@[simp] theorem tkd_35 : tkd Tryd.prog 35 = 10 := by kernel_rfl
@[simp] theorem tun_35 : (Tryd.prog.underlying 35).isSome = true := by kernel_rfl
@[simp] theorem tagg_35 : tagg Tryd.prog 35 = some true := by kernel_rfl
@[simp] theorem tsize_35 : tsize Tryd.prog 35 = some 6 := by kernel_rfl
@[simp] theorem tzero_35 : tzero Tryd.prog 35 = some (.agg #[.int .i64 0, .int .i64 0, .int .i64 0, .int .i64 0, .int .i64 0, .int .i64 0]) := by kernel_rfl
@[simp] theorem tarr_35 : tarr Tryd.prog 35 = some (6, 3) := by kernel_rfl
@[simp] theorem tsizes_35 : tsizes Tryd.prog 35 = true := by kernel_rfl
@[simp] theorem tplace_35_0 : aplace Tryd.prog 35 0 = some (0, 1) := by kernel_rfl
@[simp] theorem tplace_35_1 : aplace Tryd.prog 35 1 = some (1, 1) := by kernel_rfl
@[simp] theorem tplace_35_2 : aplace Tryd.prog 35 2 = some (2, 1) := by kernel_rfl
@[simp] theorem tplace_35_3 : aplace Tryd.prog 35 3 = some (3, 1) := by kernel_rfl
@[simp] theorem tplace_35_4 : aplace Tryd.prog 35 4 = some (4, 1) := by kernel_rfl
@[simp] theorem tplace_35_5 : aplace Tryd.prog 35 5 = some (5, 1) := by kernel_rfl
@[simp] theorem tkd_37 : tkd Tryd.prog 37 = 5 := by kernel_rfl
@[simp] theorem tun_37 : (Tryd.prog.underlying 37).isSome = true := by kernel_rfl
@[simp] theorem tagg_37 : tagg Tryd.prog 37 = some false := by kernel_rfl
@[simp] theorem tsize_37 : tsize Tryd.prog 37 = some 1 := by kernel_rfl
@[simp] theorem tzero_37 : tzero Tryd.prog 37 = some (.slice none 0 0) := by kernel_rfl
@[simp] theorem telem_37 : telem Tryd.prog 37 = some 63 := by kernel_rfl
@[simp] theorem tkd_40 : tkd Tryd.prog 40 = 5 := by kernel_rfl
@[simp] theorem tun_40 : (Tryd.prog.underlying 40).isSome = true := by kernel_rfl
@[simp] theorem tagg_40 : tagg Tryd.prog 40 = some false := by kernel_rfl
@[simp] theorem tsize_40 : tsize Tryd.prog 40 = some 1 := by kernel_rfl
@[simp] theorem tzero_40 : tzero Tryd.prog 40 = some (.slice none 0 0) := by kernel_rfl
@[simp] theorem telem_40 : telem Tryd.prog 40 = some 27 := by kernel_rfl
theorem el_40 : ElemOk Tryd.prog 40 27 2 16 := ⟨by kernel_rfl, by kernel_rfl, by kernel_rfl, ⟨.agg #[.int .u8 0, .int .i64 0], by kernel_rfl, by kernel_rfl⟩, by decide⟩
@[simp] theorem tkd_44 : tkd Tryd.prog 44 = 5 := by kernel_rfl
@[simp] theorem tun_44 : (Tryd.prog.underlying 44).isSome = true := by kernel_rfl
@[simp] theorem tagg_44 : tagg Tryd.prog 44 = some false := by kernel_rfl
@[simp] theorem tsize_44 : tsize Tryd.prog 44 = some 1 := by kernel_rfl
@[simp] theorem tzero_44 : tzero Tryd.prog 44 = some (.slice none 0 0) := by kernel_rfl
@[simp] theorem telem_44 : telem Tryd.prog 44 = some 5 := by kernel_rfl
theorem el_44 : ElemOk Tryd.prog 44 5 1 1 := ⟨by kernel_rfl, by kernel_rfl, by kernel_rfl, ⟨.int .u8 0, by kernel_rfl, by kernel_rfl⟩, by decide⟩
@[simp] theorem tkd_45 : tkd Tryd.prog 45 = 2 := by kernel_rfl
@[simp] theorem tun_45 : (Tryd.prog.underlying 45).isSome = true := by kernel_rfl
@[simp] theorem tagg_45 : tagg Tryd.prog 45 = some false := by kernel_rfl
@[simp] theorem tsize_45 : tsize Tryd.prog 45 = some 1 := by kernel_rfl
@[simp] theorem tzero_45 : tzero Tryd.prog 45 = some (.int .u64 0) := by kernel_rfl
@[simp] theorem tint_45 : tint Tryd.prog 45 = some .u64 := by kernel_rfl
@[simp] theorem tkd_46 : tkd Tryd.prog 46 = 8 := by kernel_rfl
@[simp] theorem tun_46 : (Tryd.prog.underlying 46).isSome = true := by kernel_rfl
@[simp] theorem tagg_46 : tagg Tryd.prog 46 = some false := by kernel_rfl
@[simp] theorem tsize_46 : tsize Tryd.prog 46 = some 1 := by kernel_rfl
@[simp] theorem tzero_46 : tzero Tryd.prog 46 = some (.nilIface) := by kernel_rfl
@[simp] theorem tkd_47 : tkd Tryd.prog 47 = 8 := by kernel_rfl
@[simp] theorem tun_47 : (Tryd.prog.underlying 47).isSome = true := by kernel_rfl
@[simp] theorem tagg_47 : tagg Tryd.prog 47 = some false := by kernel_rfl
@[simp] theorem tsize_47 : tsize Tryd.prog 47 = some 1 := by kernel_rfl
@[simp] theorem tzero_47 : tzero Tryd.prog 47 = some (.nilIface) := by kernel_rfl
@[simp] theorem tkd_51 : tkd Tryd.prog 51 = 7 := by kernel_rfl
@[simp] theorem tun_51 : (Tryd.prog.underlying 51).isSome = true := by kernel_rfl
@[simp] theorem tagg_51 : tagg Tryd.prog 51 = some false := by kernel_rfl
@[simp] theorem tsize_51 : tsize Tryd.prog 51 = some 1 := by kernel_rfl
@[simp] theorem tzero_51 : tzero Tryd.prog 51 = some (.nilFunc) := by kernel_rfl
@[simp] theorem tkd_53 : tkd Tryd.prog 53 = 5 := by kernel_rfl
@[simp] theorem tun_53 : (Tryd.prog.underlying 53).isSome = true := by kernel_rfl
@[simp] theorem tagg_53 : tagg Tryd.prog 53 = some false := by kernel_rfl
@[simp] theorem tsize_53 : tsize Tryd.prog 53 = some 1 := by kernel_rfl
@[simp] theorem tzero_53 : tzero Tryd.prog 53 = some (.slice none 0 0) := by kernel_rfl
@[simp] theorem telem_53 : telem Tryd.prog 53 = some 45 := by kernel_rfl
@[simp] theorem tkd_54 : tkd Tryd.prog 54 = 9 := by kernel_rfl
@[simp] theorem tun_54 : (Tryd.prog.underlying 54).isSome = true := by kernel_rfl
@[simp] theorem tagg_54 : tagg Tryd.prog 54 = some true := by kernel_rfl
@[simp] theorem tsize_54 : tsize Tryd.prog 54 = some 12 := by kernel_rfl
@[simp] theorem tzero_54 : tzero Tryd.prog 54 = some (.agg #[.int .u64 0, .string ByteArray.empty, .string ByteArray.empty, .int .i64 0, .int .i64 0, .int .i64 0, .int .i64 0, .int .i64 0, .slice none 0 0, .bool false, .int .u64 0, .int .i64 0]) := by kernel_rfl
@[simp] theorem tsizes_54 : tsizes Tryd.prog 54 = true := by kernel_rfl
@[simp] theorem tfield_54_0 : tfield Tryd.prog 54 0 = some (0, 45) := by kernel_rfl
@[simp] theorem tplace_54_0 : aplace Tryd.prog 54 0 = some (0, 1) := by kernel_rfl
@[simp] theorem tfield_54_1 : tfield Tryd.prog 54 1 = some (1, 9) := by kernel_rfl
@[simp] theorem tplace_54_1 : aplace Tryd.prog 54 1 = some (1, 1) := by kernel_rfl
@[simp] theorem tfield_54_2 : tfield Tryd.prog 54 2 = some (2, 9) := by kernel_rfl
@[simp] theorem tplace_54_2 : aplace Tryd.prog 54 2 = some (2, 1) := by kernel_rfl
@[simp] theorem tfield_54_3 : tfield Tryd.prog 54 3 = some (3, 3) := by kernel_rfl
@[simp] theorem tplace_54_3 : aplace Tryd.prog 54 3 = some (3, 1) := by kernel_rfl
@[simp] theorem tfield_54_4 : tfield Tryd.prog 54 4 = some (4, 2) := by kernel_rfl
@[simp] theorem tplace_54_4 : aplace Tryd.prog 54 4 = some (4, 1) := by kernel_rfl
@[simp] theorem tfield_54_5 : tfield Tryd.prog 54 5 = some (5, 3) := by kernel_rfl
@[simp] theorem tplace_54_5 : aplace Tryd.prog 54 5 = some (5, 1) := by kernel_rfl
@[simp] theorem tfield_54_6 : tfield Tryd.prog 54 6 = some (6, 3) := by kernel_rfl
@[simp] theorem tplace_54_6 : aplace Tryd.prog 54 6 = some (6, 1) := by kernel_rfl
@[simp] theorem tfield_54_7 : tfield Tryd.prog 54 7 = some (7, 2) := by kernel_rfl
@[simp] theorem tplace_54_7 : aplace Tryd.prog 54 7 = some (7, 1) := by kernel_rfl
@[simp] theorem tfield_54_8 : tfield Tryd.prog 54 8 = some (8, 53) := by kernel_rfl
@[simp] theorem tplace_54_8 : aplace Tryd.prog 54 8 = some (8, 1) := by kernel_rfl
@[simp] theorem tfield_54_9 : tfield Tryd.prog 54 9 = some (9, 4) := by kernel_rfl
@[simp] theorem tplace_54_9 : aplace Tryd.prog 54 9 = some (9, 1) := by kernel_rfl
@[simp] theorem tfield_54_10 : tfield Tryd.prog 54 10 = some (10, 45) := by kernel_rfl
@[simp] theorem tplace_54_10 : aplace Tryd.prog 54 10 = some (10, 1) := by kernel_rfl
@[simp] theorem tfield_54_11 : tfield Tryd.prog 54 11 = some (11, 2) := by kernel_rfl
@[simp] theorem tplace_54_11 : aplace Tryd.prog 54 11 = some (11, 1) := by kernel_rfl
@[simp] theorem tkd_55 : tkd Tryd.prog 55 = 9 := by kernel_rfl
@[simp] theorem tun_55 : (Tryd.prog.underlying 55).isSome = true := by kernel_rfl
@[simp] theorem tagg_55 : tagg Tryd.prog 55 = some true := by kernel_rfl
@[simp] theorem tsize_55 : tsize Tryd.prog 55 = some 12 := by kernel_rfl
@[simp] theorem tzero_55 : tzero Tryd.prog 55 = some (.agg #[.int .u64 0, .string ByteArray.empty, .string ByteArray.empty, .int .i64 0, .int .i64 0, .int .i64 0, .int .i64 0, .int .i64 0, .slice none 0 0, .bool false, .int .u64 0, .int .i64 0]) := by kernel_rfl
@[simp] theorem tsizes_55 : tsizes Tryd.prog 55 = true := by kernel_rfl
@[simp] theorem tfield_55_0 : tfield Tryd.prog 55 0 = some (0, 45) := by kernel_rfl
@[simp] theorem tplace_55_0 : aplace Tryd.prog 55 0 = some (0, 1) := by kernel_rfl
@[simp] theorem tfield_55_1 : tfield Tryd.prog 55 1 = some (1, 9) := by kernel_rfl
@[simp] theorem tplace_55_1 : aplace Tryd.prog 55 1 = some (1, 1) := by kernel_rfl
@[simp] theorem tfield_55_2 : tfield Tryd.prog 55 2 = some (2, 9) := by kernel_rfl
@[simp] theorem tplace_55_2 : aplace Tryd.prog 55 2 = some (2, 1) := by kernel_rfl
@[simp] theorem tfield_55_3 : tfield Tryd.prog 55 3 = some (3, 3) := by kernel_rfl
@[simp] theorem tplace_55_3 : aplace Tryd.prog 55 3 = some (3, 1) := by kernel_rfl
@[simp] theorem tfield_55_4 : tfield Tryd.prog 55 4 = some (4, 2) := by kernel_rfl
@[simp] theorem tplace_55_4 : aplace Tryd.prog 55 4 = some (4, 1) := by kernel_rfl
@[simp] theorem tfield_55_5 : tfield Tryd.prog 55 5 = some (5, 3) := by kernel_rfl
@[simp] theorem tplace_55_5 : aplace Tryd.prog 55 5 = some (5, 1) := by kernel_rfl
@[simp] theorem tfield_55_6 : tfield Tryd.prog 55 6 = some (6, 3) := by kernel_rfl
@[simp] theorem tplace_55_6 : aplace Tryd.prog 55 6 = some (6, 1) := by kernel_rfl
@[simp] theorem tfield_55_7 : tfield Tryd.prog 55 7 = some (7, 2) := by kernel_rfl
@[simp] theorem tplace_55_7 : aplace Tryd.prog 55 7 = some (7, 1) := by kernel_rfl
@[simp] theorem tfield_55_8 : tfield Tryd.prog 55 8 = some (8, 53) := by kernel_rfl
@[simp] theorem tplace_55_8 : aplace Tryd.prog 55 8 = some (8, 1) := by kernel_rfl
@[simp] theorem tfield_55_9 : tfield Tryd.prog 55 9 = some (9, 4) := by kernel_rfl
@[simp] theorem tplace_55_9 : aplace Tryd.prog 55 9 = some (9, 1) := by kernel_rfl
@[simp] theorem tfield_55_10 : tfield Tryd.prog 55 10 = some (10, 45) := by kernel_rfl
@[simp] theorem tplace_55_10 : aplace Tryd.prog 55 10 = some (10, 1) := by kernel_rfl
@[simp] theorem tfield_55_11 : tfield Tryd.prog 55 11 = some (11, 2) := by kernel_rfl
@[simp] theorem tplace_55_11 : aplace Tryd.prog 55 11 = some (11, 1) := by kernel_rfl
@[simp] theorem tkd_56 : tkd Tryd.prog 56 = 9 := by kernel_rfl
@[simp] theorem tun_56 : (Tryd.prog.underlying 56).isSome = true := by kernel_rfl
@[simp] theorem tagg_56 : tagg Tryd.prog 56 = some true := by kernel_rfl
@[simp] theorem tsize_56 : tsize Tryd.prog 56 = some 19 := by kernel_rfl
@[simp] theorem tzero_56 : tzero Tryd.prog 56 = some (.agg #[.int .i64 0, .int .u64 0, .int .u64 0, .int .u64 0, .int .i64 0, .int .u64 0, .int .u64 0, .int .u64 0, .string ByteArray.empty, .string ByteArray.empty, .int .i64 0, .int .i64 0, .int .i64 0, .int .i64 0, .int .i64 0, .slice none 0 0, .bool false, .int .u64 0, .int .i64 0]) := by kernel_rfl
@[simp] theorem tsizes_56 : tsizes Tryd.prog 56 = true := by kernel_rfl
@[simp] theorem tfield_56_0 : tfield Tryd.prog 56 0 = some (0, 3) := by kernel_rfl
@[simp] theorem tplace_56_0 : aplace Tryd.prog 56 0 = some (0, 1) := by kernel_rfl
@[simp] theorem tfield_56_1 : tfield Tryd.prog 56 1 = some (1, 45) := by kernel_rfl
@[simp] theorem tplace_56_1 : aplace Tryd.prog 56 1 = some (1, 1) := by kernel_rfl
@[simp] theorem tfield_56_2 : tfield Tryd.prog 56 2 = some (2, 45) := by kernel_rfl
@[simp] theorem tplace_56_2 : aplace Tryd.prog 56 2 = some (2, 1) := by kernel_rfl
@[simp] theorem tfield_56_3 : tfield Tryd.prog 56 3 = some (3, 45) := by kernel_rfl
@[simp] theorem tplace_56_3 : aplace Tryd.prog 56 3 = some (3, 1) := by kernel_rfl
@[simp] theorem tfield_56_4 : tfield Tryd.prog 56 4 = some (4, 2) := by kernel_rfl
@[simp] theorem tplace_56_4 : aplace Tryd.prog 56 4 = some (4, 1) := by kernel_rfl
@[simp] theorem tfield_56_5 : tfield Tryd.prog 56 5 = some (5, 45) := by kernel_rfl
@[simp] theorem tplace_56_5 : aplace Tryd.prog 56 5 = some (5, 1) := by kernel_rfl
@[simp] theorem tfield_56_6 : tfield Tryd.prog 56 6 = some (6, 45) := by kernel_rfl
@[simp] theorem tplace_56_6 : aplace Tryd.prog 56 6 = some (6, 1) := by kernel_rfl
@[simp] theorem tfield_56_7 : tfield Tryd.prog 56 7 = some (7, 55) := by kernel_rfl
@[simp] theorem tplace_56_7 : aplace Tryd.prog 56 7 = some (7, 12) := by kernel_rfl
@[simp] theorem tkd_57 : tkd Tryd.prog 57 = 9 := by kernel_rfl
@[simp] theorem tun_57 : (Tryd.prog.underlying 57).isSome = true := by kernel_rfl
@[simp] theorem tagg_57 : tagg Tryd.prog 57 = some true := by kernel_rfl
@[simp] theorem tsize_57 : tsize Tryd.prog 57 = some 19 := by kernel_rfl
@[simp] theorem tzero_57 : tzero Tryd.prog 57 = some (.agg #[.int .i64 0, .int .u64 0, .int .u64 0, .int .u64 0, .int .i64 0, .int .u64 0, .int .u64 0, .int .u64 0, .string ByteArray.empty, .string ByteArray.empty, .int .i64 0, .int .i64 0, .int .i64 0, .int .i64 0, .int .i64 0, .slice none 0 0, .bool false, .int .u64 0, .int .i64 0]) := by kernel_rfl
@[simp] theorem tsizes_57 : tsizes Tryd.prog 57 = true := by kernel_rfl
@[simp] theorem tfield_57_0 : tfield Tryd.prog 57 0 = some (0, 3) := by kernel_rfl
@[simp] theorem tplace_57_0 : aplace Tryd.prog 57 0 = some (0, 1) := by kernel_rfl
@[simp] theorem tfield_57_1 : tfield Tryd.prog 57 1 = some (1, 45) := by kernel_rfl
@[simp] theorem tplace_57_1 : aplace Tryd.prog 57 1 = some (1, 1) := by kernel_rfl
@[simp] theorem tfield_57_2 : tfield Tryd.prog 57 2 = some (2, 45) := by kernel_rfl
@[simp] theorem tplace_57_2 : aplace Tryd.prog 57 2 = some (2, 1) := by kernel_rfl
@[simp] theorem tfield_57_3 : tfield Tryd.prog 57 3 = some (3, 45) := by kernel_rfl
@[simp] theorem tplace_57_3 : aplace Tryd.prog 57 3 = some (3, 1) := by kernel_rfl
@[simp] theorem tfield_57_4 : tfield Tryd.prog 57 4 = some (4, 2) := by kernel_rfl
@[simp] theorem tplace_57_4 : aplace Tryd.prog 57 4 = some (4, 1) := by kernel_rfl
@[simp] theorem tfield_57_5 : tfield Tryd.prog 57 5 = some (5, 45) := by kernel_rfl
@[simp] theorem tplace_57_5 : aplace Tryd.prog 57 5 = some (5, 1) := by kernel_rfl
@[simp] theorem tfield_57_6 : tfield Tryd.prog 57 6 = some (6, 45) := by kernel_rfl
@[simp] theorem tplace_57_6 : aplace Tryd.prog 57 6 = some (6, 1) := by kernel_rfl
@[simp] theorem tfield_57_7 : tfield Tryd.prog 57 7 = some (7, 55) := by kernel_rfl
@[simp] theorem tplace_57_7 : aplace Tryd.prog 57 7 = some (7, 12) := by kernel_rfl
@[simp] theorem tkd_58 : tkd Tryd.prog 58 = 9 := by kernel_rfl
@[simp] theorem tun_58 : (Tryd.prog.underlying 58).isSome = true := by kernel_rfl
@[simp] theorem tagg_58 : tagg Tryd.prog 58 = some true := by kernel_rfl
@[simp] theorem tsize_58 : tsize Tryd.prog 58 = some 2 := by kernel_rfl
@[simp] theorem tzero_58 : tzero Tryd.prog 58 = some (.agg #[.int .i64 0, .int .u64 0]) := by kernel_rfl
@[simp] theorem tsizes_58 : tsizes Tryd.prog 58 = true := by kernel_rfl
@[simp] theorem tfield_58_0 : tfield Tryd.prog 58 0 = some (0, 29) := by kernel_rfl
@[simp] theorem tplace_58_0 : aplace Tryd.prog 58 0 = some (0, 1) := by kernel_rfl
@[simp] theorem tfield_58_1 : tfield Tryd.prog 58 1 = some (1, 45) := by kernel_rfl
@[simp] theorem tplace_58_1 : aplace Tryd.prog 58 1 = some (1, 1) := by kernel_rfl
@[simp] theorem tkd_59 : tkd Tryd.prog 59 = 9 := by kernel_rfl
@[simp] theorem tun_59 : (Tryd.prog.underlying 59).isSome = true := by kernel_rfl
@[simp] theorem tagg_59 : tagg Tryd.prog 59 = some true := by kernel_rfl
@[simp] theorem tsize_59 : tsize Tryd.prog 59 = some 2 := by kernel_rfl
@[simp] theorem tzero_59 : tzero Tryd.prog 59 = some (.agg #[.int .i64 0, .int .u64 0]) := by kernel_rfl
@[simp] theorem tsizes_59 : tsizes Tryd.prog 59 = true := by kernel_rfl
@[simp] theorem tfield_59_0 : tfield Tryd.prog 59 0 = some (0, 29) := by kernel_rfl
@[simp] theorem tplace_59_0 : aplace Tryd.prog 59 0 = some (0, 1) := by kernel_rfl
@[simp] theorem tfield_59_1 : tfield Tryd.prog 59 1 = some (1, 45) := by kernel_rfl
@[simp] theorem tplace_59_1 : aplace Tryd.prog 59 1 = some (1, 1) := by kernel_rfl
@[simp] theorem tkd_60 : tkd Tryd.prog 60 = 9 := by kernel_rfl
@[simp] theorem tun_60 : (Tryd.prog.underlying 60).isSome = true := by kernel_rfl
@[simp] theorem tagg_60 : tagg Tryd.prog 60 = some true := by kernel_rfl
@[simp] theorem tsize_60 : tsize Tryd.prog 60 = some 7 := by kernel_rfl
@[simp] theorem tzero_60 : tzero Tryd.prog 60 = some (.agg #[.int .i64 0, .int .u64 0, .int .u64 0, .int .u64 0, .int .u64 0, .int .i64 0, .bool false]) := by kernel_rfl
@[simp] theorem tsizes_60 : tsizes Tryd.prog 60 = true := by kernel_rfl
@[simp] theorem tfield_60_0 : tfield Tryd.prog 60 0 = some (0, 3) := by kernel_rfl
@[simp] theorem tplace_60_0 : aplace Tryd.prog 60 0 = some (0, 1) := by kernel_rfl
@[simp] theorem tfield_60_1 : tfield Tryd.prog 60 1 = some (1, 45) := by kernel_rfl
@[simp] theorem tplace_60_1 : aplace Tryd.prog 60 1 = some (1, 1) := by kernel_rfl
@[simp] theorem tfield_60_2 : tfield Tryd.prog 60 2 = some (2, 45) := by kernel_rfl
@[simp] theorem tplace_60_2 : aplace Tryd.prog 60 2 = some (2, 1) := by kernel_rfl
@[simp] theorem tfield_60_3 : tfield Tryd.prog 60 3 = some (3, 45) := by kernel_rfl
@[simp] theorem tplace_60_3 : aplace Tryd.prog 60 3 = some (3, 1) := by kernel_rfl
@[simp] theorem tfield_60_4 : tfield Tryd.prog 60 4 = some (4, 45) := by kernel_rfl
@[simp] theorem tplace_60_4 : aplace Tryd.prog 60 4 = some (4, 1) := by kernel_rfl
@[simp] theorem tfield_60_5 : tfield Tryd.prog 60 5 = some (5, 2) := by kernel_rfl
@[simp] theorem tplace_60_5 : aplace Tryd.prog 60 5 = some (5, 1) := by kernel_rfl
@[simp] theorem tfield_60_6 : tfield Tryd.prog 60 6 = some (6, 4) := by kernel_rfl
@[simp] theorem tplace_60_6 : aplace Tryd.prog 60 6 = some (6, 1) := by kernel_rfl
@[simp] theorem tkd_61 : tkd Tryd.prog 61 = 9 := by kernel_rfl
@[simp] theorem tun_61 : (Tryd.prog.underlying 61).isSome = true := by kernel_rfl
@[simp] theorem tagg_61 : tagg Tryd.prog 61 = some true := by kernel_rfl
@[simp] theorem tsize_61 : tsize Tryd.prog 61 = some 7 := by kernel_rfl
@[simp] theorem tzero_61 : tzero Tryd.prog 61 = some (.agg #[.int .i64 0, .int .u64 0, .int .u64 0, .int .u64 0, .int .u64 0, .int .i64 0, .bool false]) := by kernel_rfl
@[simp] theorem tsizes_61 : tsizes Tryd.prog 61 = true := by kernel_rfl
@[simp] theorem tfield_61_0 : tfield Tryd.prog 61 0 = some (0, 3) := by kernel_rfl
@[simp] theorem tplace_61_0 : aplace Tryd.prog 61 0 = some (0, 1) := by kernel_rfl
@[simp] theorem tfield_61_1 : tfield Tryd.prog 61 1 = some (1, 45) := by kernel_rfl
@[simp] theorem tplace_61_1 : aplace Tryd.prog 61 1 = some (1, 1) := by kernel_rfl
@[simp] theorem tfield_61_2 : tfield Tryd.prog 61 2 = some (2, 45) := by kernel_rfl
@[simp] theorem tplace_61_2 : aplace Tryd.prog 61 2 = some (2, 1) := by kernel_rfl
@[simp] theorem tfield_61_3 : tfield Tryd.prog 61 3 = some (3, 45) := by kernel_rfl
@[simp] theorem tplace_61_3 : aplace Tryd.prog 61 3 = some (3, 1) := by kernel_rfl
@[simp] theorem tfield_61_4 : tfield Tryd.prog 61 4 = some (4, 45) := by kernel_rfl
@[simp] theorem tplace_61_4 : aplace Tryd.prog 61 4 = some (4, 1) := by kernel_rfl
@[simp] theorem tfield_61_5 : tfield Tryd.prog 61 5 = some (5, 2) := by kernel_rfl
@[simp] theorem tplace_61_5 : aplace Tryd.prog 61 5 = some (5, 1) := by kernel_rfl
@[simp] theorem tfield_61_6 : tfield Tryd.prog 61 6 = some (6, 4) := by kernel_rfl
@[simp] theorem tplace_61_6 : aplace Tryd.prog 61 6 = some (6, 1) := by kernel_rfl
@[simp] theorem tkd_62 : tkd Tryd.prog 62 = 9 := by kernel_rfl
@[simp] theorem tun_62 : (Tryd.prog.underlying 62).isSome = true := by kernel_rfl
@[simp] theorem tagg_62 : tagg Tryd.prog 62 = some true := by kernel_rfl
@[simp] theorem tsize_62 : tsize Tryd.prog 62 = some 31 := by kernel_rfl
@[simp] theorem tzero_62 : tzero Tryd.prog 62 = some (.agg #[.int .i64 0, .int .u64 0, .int .u64 0, .int .i64 0, .int .u64 0, .int .u64 0, .int .u64 0, .int .i64 0, .int .u64 0, .int .u64 0, .int .u64 0, .string ByteArray.empty, .string ByteArray.empty, .int .i64 0, .int .i64 0, .int .i64 0, .int .i64 0, .int .i64 0, .slice none 0 0, .bool false, .int .u64 0, .int .i64 0, .int .i64 0, .int .u64 0, .int .i64 0, .int .u64 0, .int .u64 0, .int .u64 0, .int .u64 0, .int .i64 0, .bool false]) := by kernel_rfl
@[simp] theorem tsizes_62 : tsizes Tryd.prog 62 = true := by kernel_rfl
@[simp] theorem tfield_62_0 : tfield Tryd.prog 62 0 = some (0, 3) := by kernel_rfl
@[simp] theorem tplace_62_0 : aplace Tryd.prog 62 0 = some (0, 1) := by kernel_rfl
@[simp] theorem tfield_62_1 : tfield Tryd.prog 62 1 = some (1, 45) := by kernel_rfl
@[simp] theorem tplace_62_1 : aplace Tryd.prog 62 1 = some (1, 1) := by kernel_rfl
@[simp] theorem tfield_62_2 : tfield Tryd.prog 62 2 = some (2, 45) := by kernel_rfl
@[simp] theorem tplace_62_2 : aplace Tryd.prog 62 2 = some (2, 1) := by kernel_rfl
@[simp] theorem tfield_62_3 : tfield Tryd.prog 62 3 = some (3, 57) := by kernel_rfl
@[simp] theorem tplace_62_3 : aplace Tryd.prog 62 3 = some (3, 19) := by kernel_rfl
@[simp] theorem tfield_62_4 : tfield Tryd.prog 62 4 = some (22, 59) := by kernel_rfl
@[simp] theorem tplace_62_4 : aplace Tryd.prog 62 4 = some (22, 2) := by kernel_rfl
@[simp] theorem tfield_62_5 : tfield Tryd.prog 62 5 = some (24, 61) := by kernel_rfl
@[simp] theorem tplace_62_5 : aplace Tryd.prog 62 5 = some (24, 7) := by kernel_rfl
@[simp] theorem tkd_63 : tkd Tryd.prog 63 = 9 := by kernel_rfl
@[simp] theorem tun_63 : (Tryd.prog.underlying 63).isSome = true := by kernel_rfl
@[simp] theorem tagg_63 : tagg Tryd.prog 63 = some true := by kernel_rfl
@[simp] theorem tsize_63 : tsize Tryd.prog 63 = some 31 := by kernel_rfl
@[simp] theorem tzero_63 : tzero Tryd.prog 63 = some (.agg #[.int .i64 0, .int .u64 0, .int .u64 0, .int .i64 0, .int .u64 0, .int .u64 0, .int .u64 0, .int .i64 0, .int .u64 0, .int .u64 0, .int .u64 0, .string ByteArray.empty, .string ByteArray.empty, .int .i64 0, .int .i64 0, .int .i64 0, .int .i64 0, .int .i64 0, .slice none 0 0, .bool false, .int .u64 0, .int .i64 0, .int .i64 0, .int .u64 0, .int .i64 0, .int .u64 0, .int .u64 0, .int .u64 0, .int .u64 0, .int .i64 0, .bool false]) := by kernel_rfl
@[simp] theorem tsizes_63 : tsizes Tryd.prog 63 = true := by kernel_rfl
@[simp] theorem tfield_63_0 : tfield Tryd.prog 63 0 = some (0, 3) := by kernel_rfl
@[simp] theorem tplace_63_0 : aplace Tryd.prog 63 0 = some (0, 1) := by kernel_rfl
@[simp] theorem tfield_63_1 : tfield Tryd.prog 63 1 = some (1, 45) := by kernel_rfl
@[simp] theorem tplace_63_1 : aplace Tryd.prog 63 1 = some (1, 1) := by kernel_rfl
@[simp] theorem tfield_63_2 : tfield Tryd.prog 63 2 = some (2, 45) := by kernel_rfl
@[simp] theorem tplace_63_2 : aplace Tryd.prog 63 2 = some (2, 1) := by kernel_rfl
@[simp] theorem tfield_63_3 : tfield Tryd.prog 63 3 = some (3, 57) := by kernel_rfl
@[simp] theorem tplace_63_3 : aplace Tryd.prog 63 3 = some (3, 19) := by kernel_rfl
@[simp] theorem tfield_63_4 : tfield Tryd.prog 63 4 = some (22, 59) := by kernel_rfl
@[simp] theorem tplace_63_4 : aplace Tryd.prog 63 4 = some (22, 2) := by kernel_rfl
@[simp] theorem tfield_63_5 : tfield Tryd.prog 63 5 = some (24, 61) := by kernel_rfl
@[simp] theorem tplace_63_5 : aplace Tryd.prog 63 5 = some (24, 7) := by kernel_rfl
@[simp] theorem tkd_66 : tkd Tryd.prog 66 = 4 := by kernel_rfl
@[simp] theorem tun_66 : (Tryd.prog.underlying 66).isSome = true := by kernel_rfl
@[simp] theorem tagg_66 : tagg Tryd.prog 66 = some false := by kernel_rfl
@[simp] theorem tsize_66 : tsize Tryd.prog 66 = some 1 := by kernel_rfl
@[simp] theorem tzero_66 : tzero Tryd.prog 66 = some (.pointer none) := by kernel_rfl
@[simp] theorem tkd_67 : tkd Tryd.prog 67 = 6 := by kernel_rfl
@[simp] theorem tun_67 : (Tryd.prog.underlying 67).isSome = true := by kernel_rfl
@[simp] theorem tagg_67 : tagg Tryd.prog 67 = some false := by kernel_rfl
@[simp] theorem tsize_67 : tsize Tryd.prog 67 = some 1 := by kernel_rfl
@[simp] theorem tzero_67 : tzero Tryd.prog 67 = some (.map none) := by kernel_rfl
@[simp] theorem tkd_68 : tkd Tryd.prog 68 = 6 := by kernel_rfl
@[simp] theorem tun_68 : (Tryd.prog.underlying 68).isSome = true := by kernel_rfl
@[simp] theorem tagg_68 : tagg Tryd.prog 68 = some false := by kernel_rfl
@[simp] theorem tsize_68 : tsize Tryd.prog 68 = some 1 := by kernel_rfl
@[simp] theorem tzero_68 : tzero Tryd.prog 68 = some (.map none) := by kernel_rfl
@[simp] theorem tkd_69 : tkd Tryd.prog 69 = 6 := by kernel_rfl
@[simp] theorem tun_69 : (Tryd.prog.underlying 69).isSome = true := by kernel_rfl
@[simp] theorem tagg_69 : tagg Tryd.prog 69 = some false := by kernel_rfl
@[simp] theorem tsize_69 : tsize Tryd.prog 69 = some 1 := by kernel_rfl
@[simp] theorem tzero_69 : tzero Tryd.prog 69 = some (.map none) := by kernel_rfl
@[simp] theorem tkd_70 : tkd Tryd.prog 70 = 6 := by kernel_rfl
@[simp] theorem tun_70 : (Tryd.prog.underlying 70).isSome = true := by kernel_rfl
@[simp] theorem tagg_70 : tagg Tryd.prog 70 = some false := by kernel_rfl
@[simp] theorem tsize_70 : tsize Tryd.prog 70 = some 1 := by kernel_rfl
@[simp] theorem tzero_70 : tzero Tryd.prog 70 = some (.map none) := by kernel_rfl
@[simp] theorem tkd_71 : tkd Tryd.prog 71 = 6 := by kernel_rfl
@[simp] theorem tun_71 : (Tryd.prog.underlying 71).isSome = true := by kernel_rfl
@[simp] theorem tagg_71 : tagg Tryd.prog 71 = some false := by kernel_rfl
@[simp] theorem tsize_71 : tsize Tryd.prog 71 = some 1 := by kernel_rfl
@[simp] theorem tzero_71 : tzero Tryd.prog 71 = some (.map none) := by kernel_rfl
@[simp] theorem tkd_72 : tkd Tryd.prog 72 = 9 := by kernel_rfl
@[simp] theorem tun_72 : (Tryd.prog.underlying 72).isSome = true := by kernel_rfl
@[simp] theorem tagg_72 : tagg Tryd.prog 72 = some true := by kernel_rfl
@[simp] theorem tsize_72 : tsize Tryd.prog 72 = some 5 := by kernel_rfl
@[simp] theorem tzero_72 : tzero Tryd.prog 72 = some (.agg #[.map none, .map none, .map none, .map none, .map none]) := by kernel_rfl
@[simp] theorem tsizes_72 : tsizes Tryd.prog 72 = true := by kernel_rfl
@[simp] theorem tfield_72_0 : tfield Tryd.prog 72 0 = some (0, 67) := by kernel_rfl
@[simp] theorem tplace_72_0 : aplace Tryd.prog 72 0 = some (0, 1) := by kernel_rfl
@[simp] theorem tfield_72_1 : tfield Tryd.prog 72 1 = some (1, 68) := by kernel_rfl
@[simp] theorem tplace_72_1 : aplace Tryd.prog 72 1 = some (1, 1) := by kernel_rfl
@[simp] theorem tfield_72_2 : tfield Tryd.prog 72 2 = some (2, 69) := by kernel_rfl
@[simp] theorem tplace_72_2 : aplace Tryd.prog 72 2 = some (2, 1) := by kernel_rfl
@[simp] theorem tfield_72_3 : tfield Tryd.prog 72 3 = some (3, 70) := by kernel_rfl
@[simp] theorem tplace_72_3 : aplace Tryd.prog 72 3 = some (3, 1) := by kernel_rfl
@[simp] theorem tfield_72_4 : tfield Tryd.prog 72 4 = some (4, 71) := by kernel_rfl
@[simp] theorem tplace_72_4 : aplace Tryd.prog 72 4 = some (4, 1) := by kernel_rfl
@[simp] theorem tkd_73 : tkd Tryd.prog 73 = 9 := by kernel_rfl
@[simp] theorem tun_73 : (Tryd.prog.underlying 73).isSome = true := by kernel_rfl
@[simp] theorem tagg_73 : tagg Tryd.prog 73 = some true := by kernel_rfl
@[simp] theorem tsize_73 : tsize Tryd.prog 73 = some 5 := by kernel_rfl
@[simp] theorem tzero_73 : tzero Tryd.prog 73 = some (.agg #[.map none, .map none, .map none, .map none, .map none]) := by kernel_rfl
@[simp] theorem tsizes_73 : tsizes Tryd.prog 73 = true := by kernel_rfl
@[simp] theorem tfield_73_0 : tfield Tryd.prog 73 0 = some (0, 67) := by kernel_rfl
@[simp] theorem tplace_73_0 : aplace Tryd.prog 73 0 = some (0, 1) := by kernel_rfl
@[simp] theorem tfield_73_1 : tfield Tryd.prog 73 1 = some (1, 68) := by kernel_rfl
@[simp] theorem tplace_73_1 : aplace Tryd.prog 73 1 = some (1, 1) := by kernel_rfl
@[simp] theorem tfield_73_2 : tfield Tryd.prog 73 2 = some (2, 69) := by kernel_rfl
@[simp] theorem tplace_73_2 : aplace Tryd.prog 73 2 = some (2, 1) := by kernel_rfl
@[simp] theorem tfield_73_3 : tfield Tryd.prog 73 3 = some (3, 70) := by kernel_rfl
@[simp] theorem tplace_73_3 : aplace Tryd.prog 73 3 = some (3, 1) := by kernel_rfl
@[simp] theorem tfield_73_4 : tfield Tryd.prog 73 4 = some (4, 71) := by kernel_rfl
@[simp] theorem tplace_73_4 : aplace Tryd.prog 73 4 = some (4, 1) := by kernel_rfl
@[simp] theorem tkd_74 : tkd Tryd.prog 74 = 9 := by kernel_rfl
@[simp] theorem tun_74 : (Tryd.prog.underlying 74).isSome = true := by kernel_rfl
@[simp] theorem tagg_74 : tagg Tryd.prog 74 = some true := by kernel_rfl
@[simp] theorem tsize_74 : tsize Tryd.prog 74 = some 4 := by kernel_rfl
@[simp] theorem tzero_74 : tzero Tryd.prog 74 = some (.agg #[.int .u64 0, .int .u64 0, .int .u64 0, .int .i64 0]) := by kernel_rfl
@[simp] theorem tsizes_74 : tsizes Tryd.prog 74 = true := by kernel_rfl
@[simp] theorem tfield_74_0 : tfield Tryd.prog 74 0 = some (0, 45) := by kernel_rfl
@[simp] theorem tplace_74_0 : aplace Tryd.prog 74 0 = some (0, 1) := by kernel_rfl
@[simp] theorem tfield_74_1 : tfield Tryd.prog 74 1 = some (1, 45) := by kernel_rfl
@[simp] theorem tplace_74_1 : aplace Tryd.prog 74 1 = some (1, 1) := by kernel_rfl
@[simp] theorem tfield_74_2 : tfield Tryd.prog 74 2 = some (2, 45) := by kernel_rfl
@[simp] theorem tplace_74_2 : aplace Tryd.prog 74 2 = some (2, 1) := by kernel_rfl
@[simp] theorem tfield_74_3 : tfield Tryd.prog 74 3 = some (3, 2) := by kernel_rfl
@[simp] theorem tplace_74_3 : aplace Tryd.prog 74 3 = some (3, 1) := by kernel_rfl
@[simp] theorem tkd_75 : tkd Tryd.prog 75 = 9 := by kernel_rfl
@[simp] theorem tun_75 : (Tryd.prog.underlying 75).isSome = true := by kernel_rfl
@[simp] theorem tagg_75 : tagg Tryd.prog 75 = some true := by kernel_rfl
@[simp] theorem tsize_75 : tsize Tryd.prog 75 = some 4 := by kernel_rfl
@[simp] theorem tzero_75 : tzero Tryd.prog 75 = some (.agg #[.int .u64 0, .int .u64 0, .int .u64 0, .int .i64 0]) := by kernel_rfl
@[simp] theorem tsizes_75 : tsizes Tryd.prog 75 = true := by kernel_rfl
@[simp] theorem tfield_75_0 : tfield Tryd.prog 75 0 = some (0, 45) := by kernel_rfl
@[simp] theorem tplace_75_0 : aplace Tryd.prog 75 0 = some (0, 1) := by kernel_rfl
@[simp] theorem tfield_75_1 : tfield Tryd.prog 75 1 = some (1, 45) := by kernel_rfl
@[simp] theorem tplace_75_1 : aplace Tryd.prog 75 1 = some (1, 1) := by kernel_rfl
@[simp] theorem tfield_75_2 : tfield Tryd.prog 75 2 = some (2, 45) := by kernel_rfl
@[simp] theorem tplace_75_2 : aplace Tryd.prog 75 2 = some (2, 1) := by kernel_rfl
@[simp] theorem tfield_75_3 : tfield Tryd.prog 75 3 = some (3, 2) := by kernel_rfl
@[simp] theorem tplace_75_3 : aplace Tryd.prog 75 3 = some (3, 1) := by kernel_rfl
@[simp] theorem tkd_78 : tkd Tryd.prog 78 = 9 := by kernel_rfl
@[simp] theorem tun_78 : (Tryd.prog.underlying 78).isSome = true := by kernel_rfl
@[simp] theorem tagg_78 : tagg Tryd.prog 78 = some true := by kernel_rfl
@[simp] theorem tsize_78 : tsize Tryd.prog 78 = some 0 := by kernel_rfl
@[simp] theorem tzero_78 : tzero Tryd.prog 78 = some (.agg #[]) := by kernel_rfl
@[simp] theorem tsizes_78 : tsizes Tryd.prog 78 = true := by kernel_rfl
@[simp] theorem tkd_82 : tkd Tryd.prog 82 = 2 := by kernel_rfl
@[simp] theorem tun_82 : (Tryd.prog.underlying 82).isSome = true := by kernel_rfl
@[simp] theorem tagg_82 : tagg Tryd.prog 82 = some false := by kernel_rfl
@[simp] theorem tsize_82 : tsize Tryd.prog 82 = some 1 := by kernel_rfl
@[simp] theorem tzero_82 : tzero Tryd.prog 82 = some (.int .i64 0) := by kernel_rfl
@[simp] theorem tint_82 : tint Tryd.prog 82 = some .i64 := by kernel_rfl
@[simp] theorem tkd_84 : tkd Tryd.prog 84 = 2 := by kernel_rfl
@[simp] theorem tun_84 : (Tryd.prog.underlying 84).isSome = true := by kernel_rfl
@[simp] theorem tagg_84 : tagg Tryd.prog 84 = some false := by kernel_rfl
@[simp] theorem tsize_84 : tsize Tryd.prog 84 = some 1 := by kernel_rfl
@[simp] theorem tzero_84 : tzero Tryd.prog 84 = some (.int .u64 0) := by kernel_rfl
@[simp] theorem tint_84 : tint Tryd.prog 84 = some .u64 := by kernel_rfl
@[simp] theorem tkd_86 : tkd Tryd.prog 86 = 4 := by kernel_rfl
@[simp] theorem tun_86 : (Tryd.prog.underlying 86).isSome = true := by kernel_rfl
@[simp] theorem tagg_86 : tagg Tryd.prog 86 = some false := by kernel_rfl
@[simp] theorem tsize_86 : tsize Tryd.prog 86 = some 1 := by kernel_rfl
@[simp] theorem tzero_86 : tzero Tryd.prog 86 = some (.pointer none) := by kernel_rfl
@[simp] theorem tkd_89 : tkd Tryd.prog 89 = 9 := by kernel_rfl
@[simp] theorem tun_89 : (Tryd.prog.underlying 89).isSome = true := by kernel_rfl
@[simp] theorem tagg_89 : tagg Tryd.prog 89 = some true := by kernel_rfl
@[simp] theorem tsize_89 : tsize Tryd.prog 89 = some 2 := by kernel_rfl
@[simp] theorem tzero_89 : tzero Tryd.prog 89 = some (.agg #[.int .u64 0, .int .u64 0]) := by kernel_rfl
@[simp] theorem tsizes_89 : tsizes Tryd.prog 89 = true := by kernel_rfl
@[simp] theorem tfield_89_0 : tfield Tryd.prog 89 0 = some (0, 45) := by kernel_rfl
@[simp] theorem tplace_89_0 : aplace Tryd.prog 89 0 = some (0, 1) := by kernel_rfl
@[simp] theorem tfield_89_1 : tfield Tryd.prog 89 1 = some (1, 45) := by kernel_rfl
@[simp] theorem tplace_89_1 : aplace Tryd.prog 89 1 = some (1, 1) := by kernel_rfl
@[simp] theorem tkd_90 : tkd Tryd.prog 90 = 9 := by kernel_rfl
@[simp] theorem tun_90 : (Tryd.prog.underlying 90).isSome = true := by kernel_rfl
@[simp] theorem tagg_90 : tagg Tryd.prog 90 = some true := by kernel_rfl
@[simp] theorem tsize_90 : tsize Tryd.prog 90 = some 2 := by kernel_rfl
@[simp] theorem tzero_90 : tzero Tryd.prog 90 = some (.agg #[.int .u64 0, .int .u64 0]) := by kernel_rfl
@[simp] theorem tsizes_90 : tsizes Tryd.prog 90 = true := by kernel_rfl
@[simp] theorem tfield_90_0 : tfield Tryd.prog 90 0 = some (0, 45) := by kernel_rfl
@[simp] theorem tplace_90_0 : aplace Tryd.prog 90 0 = some (0, 1) := by kernel_rfl
@[simp] theorem tfield_90_1 : tfield Tryd.prog 90 1 = some (1, 45) := by kernel_rfl
@[simp] theorem tplace_90_1 : aplace Tryd.prog 90 1 = some (1, 1) := by kernel_rfl
@[simp] theorem tkd_95 : tkd Tryd.prog 95 = 10 := by kernel_rfl
@[simp] theorem tun_95 : (Tryd.prog.underlying 95).isSome = true := by kernel_rfl
@[simp] theorem tagg_95 : tagg Tryd.prog 95 = some true := by kernel_rfl
@[simp] theorem tsize_95 : tsize Tryd.prog 95 = some 24 := by kernel_rfl
@[simp] theorem tzero_95 : tzero Tryd.prog 95 = some (.agg #[.int .u8 0, .int .u8 0, .int .u8 0, .int .u8 0, .int .u8 0, .int .u8 0, .int .u8 0, .int .u8 0, .int .u8 0, .int .u8 0, .int .u8 0, .int .u8 0, .int .u8 0, .int .u8 0, .int .u8 0, .int .u8 0, .int .u8 0, .int .u8 0, .int .u8 0, .int .u8 0, .int .u8 0, .int .u8 0, .int .u8 0, .int .u8 0]) := by kernel_rfl
@[simp] theorem tarr_95 : tarr Tryd.prog 95 = some (24, 5) := by kernel_rfl
@[simp] theorem tsizes_95 : tsizes Tryd.prog 95 = true := by kernel_rfl
@[simp] theorem tplace_95_0 : aplace Tryd.prog 95 0 = some (0, 1) := by kernel_rfl
@[simp] theorem tplace_95_1 : aplace Tryd.prog 95 1 = some (1, 1) := by kernel_rfl
@[simp] theorem tplace_95_2 : aplace Tryd.prog 95 2 = some (2, 1) := by kernel_rfl
@[simp] theorem tplace_95_3 : aplace Tryd.prog 95 3 = some (3, 1) := by kernel_rfl
@[simp] theorem tplace_95_4 : aplace Tryd.prog 95 4 = some (4, 1) := by kernel_rfl
@[simp] theorem tplace_95_5 : aplace Tryd.prog 95 5 = some (5, 1) := by kernel_rfl
@[simp] theorem tplace_95_6 : aplace Tryd.prog 95 6 = some (6, 1) := by kernel_rfl
@[simp] theorem tplace_95_7 : aplace Tryd.prog 95 7 = some (7, 1) := by kernel_rfl
@[simp] theorem tplace_95_8 : aplace Tryd.prog 95 8 = some (8, 1) := by kernel_rfl
@[simp] theorem tplace_95_9 : aplace Tryd.prog 95 9 = some (9, 1) := by kernel_rfl
@[simp] theorem tplace_95_10 : aplace Tryd.prog 95 10 = some (10, 1) := by kernel_rfl
@[simp] theorem tplace_95_11 : aplace Tryd.prog 95 11 = some (11, 1) := by kernel_rfl
@[simp] theorem tplace_95_12 : aplace Tryd.prog 95 12 = some (12, 1) := by kernel_rfl
@[simp] theorem tplace_95_13 : aplace Tryd.prog 95 13 = some (13, 1) := by kernel_rfl
@[simp] theorem tplace_95_14 : aplace Tryd.prog 95 14 = some (14, 1) := by kernel_rfl
@[simp] theorem tplace_95_15 : aplace Tryd.prog 95 15 = some (15, 1) := by kernel_rfl
@[simp] theorem tkd_101 : tkd Tryd.prog 101 = 9 := by kernel_rfl
@[simp] theorem tun_101 : (Tryd.prog.underlying 101).isSome = true := by kernel_rfl
@[simp] theorem tagg_101 : tagg Tryd.prog 101 = some true := by kernel_rfl
@[simp] theorem tsize_101 : tsize Tryd.prog 101 = some 3 := by kernel_rfl
@[simp] theorem tzero_101 : tzero Tryd.prog 101 = some (.agg #[.string ByteArray.empty, .string ByteArray.empty, .nilIface]) := by kernel_rfl
@[simp] theorem tsizes_101 : tsizes Tryd.prog 101 = true := by kernel_rfl
@[simp] theorem tfield_101_0 : tfield Tryd.prog 101 0 = some (0, 9) := by kernel_rfl
@[simp] theorem tplace_101_0 : aplace Tryd.prog 101 0 = some (0, 1) := by kernel_rfl
@[simp] theorem tfield_101_1 : tfield Tryd.prog 101 1 = some (1, 9) := by kernel_rfl
@[simp] theorem tplace_101_1 : aplace Tryd.prog 101 1 = some (1, 1) := by kernel_rfl
@[simp] theorem tfield_101_2 : tfield Tryd.prog 101 2 = some (2, 47) := by kernel_rfl
@[simp] theorem tplace_101_2 : aplace Tryd.prog 101 2 = some (2, 1) := by kernel_rfl
@[simp] theorem tkd_102 : tkd Tryd.prog 102 = 9 := by kernel_rfl
@[simp] theorem tun_102 : (Tryd.prog.underlying 102).isSome = true := by kernel_rfl
@[simp] theorem tagg_102 : tagg Tryd.prog 102 = some true := by kernel_rfl
@[simp] theorem tsize_102 : tsize Tryd.prog 102 = some 3 := by kernel_rfl
@[simp] theorem tzero_102 : tzero Tryd.prog 102 = some (.agg #[.string ByteArray.empty, .string ByteArray.empty, .nilIface]) := by kernel_rfl
@[simp] theorem tsizes_102 : tsizes Tryd.prog 102 = true := by kernel_rfl
@[simp] theorem tfield_102_0 : tfield Tryd.prog 102 0 = some (0, 9) := by kernel_rfl
@[simp] theorem tplace_102_0 : aplace Tryd.prog 102 0 = some (0, 1) := by kernel_rfl
@[simp] theorem tfield_102_1 : tfield Tryd.prog 102 1 = some (1, 9) := by kernel_rfl
@[simp] theorem tplace_102_1 : aplace Tryd.prog 102 1 = some (1, 1) := by kernel_rfl
@[simp] theorem tfield_102_2 : tfield Tryd.prog 102 2 = some (2, 47) := by kernel_rfl
@[simp] theorem tplace_102_2 : aplace Tryd.prog 102 2 = some (2, 1) := by kernel_rfl
@[simp] theorem tkd_108 : tkd Tryd.prog 108 = 10 := by kernel_rfl
@[simp] theorem tun_108 : (Tryd.prog.underlying 108).isSome = true := by kernel_rfl
@[simp] theorem tagg_108 : tagg Tryd.prog 108 = some true := by kernel_rfl
@[simp] theorem tsize_108 : tsize Tryd.prog 108 = some 20 := by kernel_rfl
@[simp] theorem tzero_108 : tzero Tryd.prog 108 = some (.agg #[.int .u64 0, .int .u64 0, .int .u64 0, .int .u64 0, .int .u64 0, .int .u64 0, .int .u64 0, .int .u64 0, .int .u64 0, .int .u64 0, .int .u64 0, .int .u64 0, .int .u64 0, .int .u64 0, .int .u64 0, .int .u64 0, .int .u64 0, .int .u64 0, .int .u64 0, .int .u64 0]) := by kernel_rfl
@[simp] theorem tarr_108 : tarr Tryd.prog 108 = some (20, 45) := by kernel_rfl
@[simp] theorem tsizes_108 : tsizes Tryd.prog 108 = true := by kernel_rfl
@[simp] theorem tplace_108_0 : aplace Tryd.prog 108 0 = some (0, 1) := by kernel_rfl
@[simp] theorem tplace_108_1 : aplace Tryd.prog 108 1 = some (1, 1) := by kernel_rfl
@[simp] theorem tplace_108_2 : aplace Tryd.prog 108 2 = some (2, 1) := by kernel_rfl
@[simp] theorem tplace_108_3 : aplace Tryd.prog 108 3 = some (3, 1) := by kernel_rfl
@[simp] theorem tplace_108_4 : aplace Tryd.prog 108 4 = some (4, 1) := by kernel_rfl
@[simp] theorem tplace_108_5 : aplace Tryd.prog 108 5 = some (5, 1) := by kernel_rfl
@[simp] theorem tplace_108_6 : aplace Tryd.prog 108 6 = some (6, 1) := by kernel_rfl
@[simp] theorem tplace_108_7 : aplace Tryd.prog 108 7 = some (7, 1) := by kernel_rfl
@[simp] theorem tplace_108_8 : aplace Tryd.prog 108 8 = some (8, 1) := by kernel_rfl
@[simp] theorem tplace_108_9 : aplace Tryd.prog 108 9 = some (9, 1) := by kernel_rfl
@[simp] theorem tplace_108_10 : aplace Tryd.prog 108 10 = some (10, 1) := by kernel_rfl
@[simp] theorem tplace_108_11 : aplace Tryd.prog 108 11 = some (11, 1) := by kernel_rfl
@[simp] theorem tplace_108_12 : aplace Tryd.prog 108 12 = some (12, 1) := by kernel_rfl
@[simp] theorem tplace_108_13 : aplace Tryd.prog 108 13 = some (13, 1) := by kernel_rfl
@[simp] theorem tplace_108_14 : aplace Tryd.prog 108 14 = some (14, 1) := by kernel_rfl
@[simp] theorem tplace_108_15 : aplace Tryd.prog 108 15 = some (15, 1) := by kernel_rfl
@[simp] theorem tkd_109 : tkd Tryd.prog 109 = 2 := by kernel_rfl
@[simp] theorem tun_109 : (Tryd.prog.underlying 109).isSome = true := by kernel_rfl
@[simp] theorem tagg_109 : tagg Tryd.prog 109 = some false := by kernel_rfl
@[simp] theorem tsize_109 : tsize Tryd.prog 109 = some 1 := by kernel_rfl
@[simp] theorem tzero_109 : tzero Tryd.prog 109 = some (.int .u32 0) := by kernel_rfl
@[simp] theorem tint_109 : tint Tryd.prog 109 = some .u32 := by kernel_rfl
@[simp] theorem tkd_110 : tkd Tryd.prog 110 = 10 := by kernel_rfl
@[simp] theorem tun_110 : (Tryd.prog.underlying 110).isSome = true := by kernel_rfl
@[simp] theorem tagg_110 : tagg Tryd.prog 110 = some true := by kernel_rfl
@[simp] theorem tsize_110 : tsize Tryd.prog 110 = some 65 := by kernel_rfl
@[simp] theorem tzero_110 : tzero Tryd.prog 110 = some (.agg #[.int .u8 0, .int .u8 0, .int .u8 0, .int .u8 0, .int .u8 0, .int .u8 0, .int .u8 0, .int .u8 0, .int .u8 0, .int .u8 0, .int .u8 0, .int .u8 0, .int .u8 0, .int .u8 0, .int .u8 0, .int .u8 0, .int .u8 0, .int .u8 0, .int .u8 0, .int .u8 0, .int .u8 0, .int .u8 0, .int .u8 0, .int .u8 0, .int .u8 0, .int .u8 0, .int .u8 0, .int .u8 0, .int .u8 0, .int .u8 0, .int .u8 0, .int .u8 0, .int .u8 0, .int .u8 0, .int .u8 0, .int .u8 0, .int .u8 0, .int .u8 0, .int .u8 0, .int .u8 0, .int .u8 0, .int .u8 0, .int .u8 0, .int .u8 0, .int .u8 0, .int .u8 0, .int .u8 0, .int .u8 0, .int .u8 0, .int .u8 0, .int .u8 0, .int .u8 0, .int .u8 0, .int .u8 0, .int .u8 0, .int .u8 0, .int .u8 0, .int .u8 0, .int .u8 0, .int .u8 0, .int .u8 0, .int .u8 0, .int .u8 0, .int .u8 0, .int .u8 0]) := by kernel_rfl
@[simp] theorem tarr_110 : tarr Tryd.prog 110 = some (65, 5) := by kernel_rfl
@[simp] theorem tsizes_110 : tsizes Tryd.prog 110 = true := by kernel_rfl
@[simp] theorem tplace_110_0 : aplace Tryd.prog 110 0 = some (0, 1) := by kernel_rfl
@[simp] theorem tplace_110_1 : aplace Tryd.prog 110 1 = some (1, 1) := by kernel_rfl
@[simp] theorem tplace_110_2 : aplace Tryd.prog 110 2 = some (2, 1) := by kernel_rfl
@[simp] theorem tplace_110_3 : aplace Tryd.prog 110 3 = some (3, 1) := by kernel_rfl
@[simp] theorem tplace_110_4 : aplace Tryd.prog 110 4 = some (4, 1) := by kernel_rfl
@[simp] theorem tplace_110_5 : aplace Tryd.prog 110 5 = some (5, 1) := by kernel_rfl
@[simp] theorem tplace_110_6 : aplace Tryd.prog 110 6 = some (6, 1) := by kernel_rfl
@[simp] theorem tplace_110_7 : aplace Tryd.prog 110 7 = some (7, 1) := by kernel_rfl
@[simp] theorem tplace_110_8 : aplace Tryd.prog 110 8 = some (8, 1) := by kernel_rfl
@[simp] theorem tplace_110_9 : aplace Tryd.prog 110 9 = some (9, 1) := by kernel_rfl
@[simp] theorem tplace_110_10 : aplace Tryd.prog 110 10 = some (10, 1) := by kernel_rfl
@[simp] theorem tplace_110_11 : aplace Tryd.prog 110 11 = some (11, 1) := by kernel_rfl
@[simp] theorem tplace_110_12 : aplace Tryd.prog 110 12 = some (12, 1) := by kernel_rfl
@[simp] theorem tplace_110_13 : aplace Tryd.prog 110 13 = some (13, 1) := by kernel_rfl
@[simp] theorem tplace_110_14 : aplace Tryd.prog 110 14 = some (14, 1) := by kernel_rfl
@[simp] theorem tplace_110_15 : aplace Tryd.prog 110 15 = some (15, 1) := by kernel_rfl
@[simp] theorem tkd_113 : tkd Tryd.prog 113 = 4 := by kernel_rfl
@[simp] theorem tun_113 : (Tryd.prog.underlying 113).isSome = true := by kernel_rfl
@[simp] theorem tagg_113 : tagg Tryd.prog 113 = some false := by kernel_rfl
@[simp] theorem tsize_113 : tsize Tryd.prog 113 = some 1 := by kernel_rfl
@[simp] theorem tzero_113 : tzero Tryd.prog 113 = some (.pointer none) := by kernel_rfl
@[simp] theorem tkd_114 : tkd Tryd.prog 114 = 4 := by kernel_rfl
@[simp] theorem tun_114 : (Tryd.prog.underlying 114).isSome = true := by kernel_rfl
@[simp] theorem tagg_114 : tagg Tryd.prog 114 = some false := by kernel_rfl
@[simp] theorem tsize_114 : tsize Tryd.prog 114 = some 1 := by kernel_rfl
@[simp] theorem tzero_114 : tzero Tryd.prog 114 = some (.pointer none) := by kernel_rfl
@[simp] theorem tkd_115 : tkd Tryd.prog 115 = 9 := by kernel_rfl
@[simp] theorem tun_115 : (Tryd.prog.underlying 115).isSome = true := by kernel_rfl
@[simp] theorem tagg_115 : tagg Tryd.prog 115 = some true := by kernel_rfl
@[simp] theorem tsize_115 : tsize Tryd.prog 115 = some 1 := by kernel_rfl
@[simp] theorem tzero_115 : tzero Tryd.prog 115 = some (.agg #[.string ByteArray.empty]) := by kernel_rfl
@[simp] theorem tsizes_115 : tsizes Tryd.prog 115 = true := by kernel_rfl
@[simp] theorem tfield_115_0 : tfield Tryd.prog 115 0 = some (0, 9) := by kernel_rfl
@[simp] theorem tplace_115_0 : aplace Tryd.prog 115 0 = some (0, 1) := by kernel_rfl
@[simp] theorem tkd_116 : tkd Tryd.prog 116 = 9 := by kernel_rfl
@[simp] theorem tun_116 : (Tryd.prog.underlying 116).isSome = true := by kernel_rfl
@[simp] theorem tagg_116 : tagg Tryd.prog 116 = some true := by kernel_rfl
@[simp] theorem tsize_116 : tsize Tryd.prog 116 = some 1 := by kernel_rfl
@[simp] theorem tzero_116 : tzero Tryd.prog 116 = some (.agg #[.string ByteArray.empty]) := by kernel_rfl
@[simp] theorem tsizes_116 : tsizes Tryd.prog 116 = true := by kernel_rfl
@[simp] theorem tfield_116_0 : tfield Tryd.prog 116 0 = some (0, 9) := by kernel_rfl
@[simp] theorem tplace_116_0 : aplace Tryd.prog 116 0 = some (0, 1) := by kernel_rfl
@[simp] theorem tkd_118 : tkd Tryd.prog 118 = 10 := by kernel_rfl
@[simp] theorem tun_118 : (Tryd.prog.underlying 118).isSome = true := by kernel_rfl
@[simp] theorem tagg_118 : tagg Tryd.prog 118 = some true := by kernel_rfl
@[simp] theorem tsize_118 : tsize Tryd.prog 118 = some 32 := by kernel_rfl
@[simp] theorem tzero_118 : tzero Tryd.prog 118 = some (.agg #[.int .u8 0, .int .u8 0, .int .u8 0, .int .u8 0, .int .u8 0, .int .u8 0, .int .u8 0, .int .u8 0, .int .u8 0, .int .u8 0, .int .u8 0, .int .u8 0, .int .u8 0, .int .u8 0, .int .u8 0, .int .u8 0, .int .u8 0, .int .u8 0, .int .u8 0, .int .u8 0, .int .u8 0, .int .u8 0, .int .u8 0, .int .u8 0, .int .u8 0, .int .u8 0, .int .u8 0, .int .u8 0, .int .u8 0, .int .u8 0, .int .u8 0, .int .u8 0]) := by kernel_rfl
@[simp] theorem tarr_118 : tarr Tryd.prog 118 = some (32, 5) := by kernel_rfl
@[simp] theorem tsizes_118 : tsizes Tryd.prog 118 = true := by kernel_rfl
@[simp] theorem tplace_118_0 : aplace Tryd.prog 118 0 = some (0, 1) := by kernel_rfl
@[simp] theorem tplace_118_1 : aplace Tryd.prog 118 1 = some (1, 1) := by kernel_rfl
@[simp] theorem tplace_118_2 : aplace Tryd.prog 118 2 = some (2, 1) := by kernel_rfl
@[simp] theorem tplace_118_3 : aplace Tryd.prog 118 3 = some (3, 1) := by kernel_rfl
@[simp] theorem tplace_118_4 : aplace Tryd.prog 118 4 = some (4, 1) := by kernel_rfl
@[simp] theorem tplace_118_5 : aplace Tryd.prog 118 5 = some (5, 1) := by kernel_rfl
@[simp] theorem tplace_118_6 : aplace Tryd.prog 118 6 = some (6, 1) := by kernel_rfl
@[simp] theorem tplace_118_7 : aplace Tryd.prog 118 7 = some (7, 1) := by kernel_rfl
@[simp] theorem tplace_118_8 : aplace Tryd.prog 118 8 = some (8, 1) := by kernel_rfl
@[simp] theorem tplace_118_9 : aplace Tryd.prog 118 9 = some (9, 1) := by kernel_rfl
@[simp] theorem tplace_118_10 : aplace Tryd.prog 118 10 = some (10, 1) := by kernel_rfl
@[simp] theorem tplace_118_11 : aplace Tryd.prog 118 11 = some (11, 1) := by kernel_rfl
@[simp] theorem tplace_118_12 : aplace Tryd.prog 118 12 = some (12, 1) := by kernel_rfl
@[simp] theorem tplace_118_13 : aplace Tryd.prog 118 13 = some (13, 1) := by kernel_rfl
@[simp] theorem tplace_118_14 : aplace Tryd.prog 118 14 = some (14, 1) := by kernel_rfl
@[simp] theorem tplace_118_15 : aplace Tryd.prog 118 15 = some (15, 1) := by kernel_rfl
@[simp] theorem tkd_119 : tkd Tryd.prog 119 = 10 := by kernel_rfl
@[simp] theorem tun_119 : (Tryd.prog.underlying 119).isSome = true := by kernel_rfl
@[simp] theorem tagg_119 : tagg Tryd.prog 119 = some true := by kernel_rfl
@[simp] theorem tsize_119 : tsize Tryd.prog 119 = some 64 := by kernel_rfl
@[simp] theorem tzero_119 : tzero Tryd.prog 119 = some (.agg #[.int .u8 0, .int .u8 0, .int .u8 0, .int .u8 0, .int .u8 0, .int .u8 0, .int .u8 0, .int .u8 0, .int .u8 0, .int .u8 0, .int .u8 0, .int .u8 0, .int .u8 0, .int .u8 0, .int .u8 0, .int .u8 0, .int .u8 0, .int .u8 0, .int .u8 0, .int .u8 0, .int .u8 0, .int .u8 0, .int .u8 0, .int .u8 0, .int .u8 0, .int .u8 0, .int .u8 0, .int .u8 0, .int .u8 0, .int .u8 0, .int .u8 0, .int .u8 0, .int .u8 0, .int .u8 0, .int .u8 0, .int .u8 0, .int .u8 0, .int .u8 0, .int .u8 0, .int .u8 0, .int .u8 0, .int .u8 0, .int .u8 0, .int .u8 0, .int .u8 0, .int .u8 0, .int .u8 0, .int .u8 0, .int .u8 0, .int .u8 0, .int .u8 0, .int .u8 0, .int .u8 0, .int .u8 0, .int .u8 0, .int .u8 0, .int .u8 0, .int .u8 0, .int .u8 0, .int .u8 0, .int .u8 0, .int .u8 0, .int .u8 0, .int .u8 0]) := by kernel_rfl
@[simp] theorem tarr_119 : tarr Tryd.prog 119 = some (64, 5) := by kernel_rfl
@[simp] theorem tsizes_119 : tsizes Tryd.prog 119 = true := by kernel_rfl
@[simp] theorem tplace_119_0 : aplace Tryd.prog 119 0 = some (0, 1) := by kernel_rfl
@[simp] theorem tplace_119_1 : aplace Tryd.prog 119 1 = some (1, 1) := by kernel_rfl
@[simp] theorem tplace_119_2 : aplace Tryd.prog 119 2 = some (2, 1) := by kernel_rfl
@[simp] theorem tplace_119_3 : aplace Tryd.prog 119 3 = some (3, 1) := by kernel_rfl
@[simp] theorem tplace_119_4 : aplace Tryd.prog 119 4 = some (4, 1) := by kernel_rfl
@[simp] theorem tplace_119_5 : aplace Tryd.prog 119 5 = some (5, 1) := by kernel_rfl
@[simp] theorem tplace_119_6 : aplace Tryd.prog 119 6 = some (6, 1) := by kernel_rfl
@[simp] theorem tplace_119_7 : aplace Tryd.prog 119 7 = some (7, 1) := by kernel_rfl
@[simp] theorem tplace_119_8 : aplace Tryd.prog 119 8 = some (8, 1) := by kernel_rfl
@[simp] theorem tplace_119_9 : aplace Tryd.prog 119 9 = some (9, 1) := by kernel_rfl
@[simp] theorem tplace_119_10 : aplace Tryd.prog 119 10 = some (10, 1) := by kernel_rfl
@[simp] theorem tplace_119_11 : aplace Tryd.prog 119 11 = some (11, 1) := by kernel_rfl
@[simp] theorem tplace_119_12 : aplace Tryd.prog 119 12 = some (12, 1) := by kernel_rfl
@[simp] theorem tplace_119_13 : aplace Tryd.prog 119 13 = some (13, 1) := by kernel_rfl
@[simp] theorem tplace_119_14 : aplace Tryd.prog 119 14 = some (14, 1) := by kernel_rfl
@[simp] theorem tplace_119_15 : aplace Tryd.prog 119 15 = some (15, 1) := by kernel_rfl
@[simp] theorem tkd_121 : tkd Tryd.prog 121 = 9 := by kernel_rfl
@[simp] theorem tun_121 : (Tryd.prog.underlying 121).isSome = true := by kernel_rfl
@[simp] theorem tagg_121 : tagg Tryd.prog 121 = some true := by kernel_rfl
@[simp] theorem tsize_121 : tsize Tryd.prog 121 = some 4 := by kernel_rfl
@[simp] theorem tzero_121 : tzero Tryd.prog 121 = some (.agg #[.pointer none, .pointer none, .pointer none, .string ByteArray.empty]) := by kernel_rfl
@[simp] theorem tsizes_121 : tsizes Tryd.prog 121 = true := by kernel_rfl
@[simp] theorem tfield_121_0 : tfield Tryd.prog 121 0 = some (0, 17) := by kernel_rfl
@[simp] theorem tplace_121_0 : aplace Tryd.prog 121 0 = some (0, 1) := by kernel_rfl
@[simp] theorem tfield_121_1 : tfield Tryd.prog 121 1 = some (1, 17) := by kernel_rfl
@[simp] theorem tplace_121_1 : aplace Tryd.prog 121 1 = some (1, 1) := by kernel_rfl
@[simp] theorem tfield_121_2 : tfield Tryd.prog 121 2 = some (2, 17) := by kernel_rfl
@[simp] theorem tplace_121_2 : aplace Tryd.prog 121 2 = some (2, 1) := by kernel_rfl
@[simp] theorem tfield_121_3 : tfield Tryd.prog 121 3 = some (3, 9) := by kernel_rfl
@[simp] theorem tplace_121_3 : aplace Tryd.prog 121 3 = some (3, 1) := by kernel_rfl
@[simp] theorem tkd_122 : tkd Tryd.prog 122 = 9 := by kernel_rfl
@[simp] theorem tun_122 : (Tryd.prog.underlying 122).isSome = true := by kernel_rfl
@[simp] theorem tagg_122 : tagg Tryd.prog 122 = some true := by kernel_rfl
@[simp] theorem tsize_122 : tsize Tryd.prog 122 = some 4 := by kernel_rfl
@[simp] theorem tzero_122 : tzero Tryd.prog 122 = some (.agg #[.pointer none, .pointer none, .pointer none, .string ByteArray.empty]) := by kernel_rfl
@[simp] theorem tsizes_122 : tsizes Tryd.prog 122 = true := by kernel_rfl
@[simp] theorem tfield_122_0 : tfield Tryd.prog 122 0 = some (0, 17) := by kernel_rfl
@[simp] theorem tplace_122_0 : aplace Tryd.prog 122 0 = some (0, 1) := by kernel_rfl
@[simp] theorem tfield_122_1 : tfield Tryd.prog 122 1 = some (1, 17) := by kernel_rfl
@[simp] theorem tplace_122_1 : aplace Tryd.prog 122 1 = some (1, 1) := by kernel_rfl
@[simp] theorem tfield_122_2 : tfield Tryd.prog 122 2 = some (2, 17) := by kernel_rfl
@[simp] theorem tplace_122_2 : aplace Tryd.prog 122 2 = some (2, 1) := by kernel_rfl
@[simp] theorem tfield_122_3 : tfield Tryd.prog 122 3 = some (3, 9) := by kernel_rfl
@[simp] theorem tplace_122_3 : aplace Tryd.prog 122 3 = some (3, 1) := by kernel_rfl
@[simp] theorem tkd_123 : tkd Tryd.prog 123 = 10 := by kernel_rfl
@[simp] theorem tun_123 : (Tryd.prog.underlying 123).isSome = true := by kernel_rfl
@[simp] theorem tagg_123 : tagg Tryd.prog 123 = some true := by kernel_rfl
@[simp] theorem tsize_123 : tsize Tryd.prog 123 = some 0 := by kernel_rfl
@[simp] theorem tzero_123 : tzero Tryd.prog 123 = some (.agg #[]) := by kernel_rfl
@[simp] theorem tarr_123 : tarr Tryd.prog 123 = some (0, 16) := by kernel_rfl
@[simp] theorem tsizes_123 : tsizes Tryd.prog 123 = true := by kernel_rfl
@[simp] theorem tkd_124 : tkd Tryd.prog 124 = 9 := by kernel_rfl
@[simp] theorem tun_124 : (Tryd.prog.underlying 124).isSome = true := by kernel_rfl
@[simp] theorem tagg_124 : tagg Tryd.prog 124 = some true := by kernel_rfl
@[simp] theorem tsize_124 : tsize Tryd.prog 124 = some 0 := by kernel_rfl
@[simp] theorem tzero_124 : tzero Tryd.prog 124 = some (.agg #[]) := by kernel_rfl
@[simp] theorem tsizes_124 : tsizes Tryd.prog 124 = true := by kernel_rfl
@[simp] theorem tfield_124_0 : tfield Tryd.prog 124 0 = some (0, 123) := by kernel_rfl
@[simp] theorem tplace_124_0 : aplace Tryd.prog 124 0 = some (0, 0) := by kernel_rfl
@[simp] theorem tkd_125 : tkd Tryd.prog 125 = 9 := by kernel_rfl
@[simp] theorem tun_125 : (Tryd.prog.underlying 125).isSome = true := by kernel_rfl
@[simp] theorem tagg_125 : tagg Tryd.prog 125 = some true := by kernel_rfl
@[simp] theorem tsize_125 : tsize Tryd.prog 125 = some 0 := by kernel_rfl
@[simp] theorem tzero_125 : tzero Tryd.prog 125 = some (.agg #[]) := by kernel_rfl
@[simp] theorem tsizes_125 : tsizes Tryd.prog 125 = true := by kernel_rfl
@[simp] theorem tfield_125_0 : tfield Tryd.prog 125 0 = some (0, 123) := by kernel_rfl
@[simp] theorem tplace_125_0 : aplace Tryd.prog 125 0 = some (0, 0) := by kernel_rfl
@[simp] theorem tkd_127 : tkd Tryd.prog 127 = 2 := by kernel_rfl
@[simp] theorem tun_127 : (Tryd.prog.underlying 127).isSome = true := by kernel_rfl
@[simp] theorem tagg_127 : tagg Tryd.prog 127 = some false := by kernel_rfl
@[simp] theorem tsize_127 : tsize Tryd.prog 127 = some 1 := by kernel_rfl
@[simp] theorem tzero_127 : tzero Tryd.prog 127 = some (.int .u8 0) := by kernel_rfl
@[simp] theorem tint_127 : tint Tryd.prog 127 = some .u8 := by kernel_rfl
@[simp] theorem tkd_128 : tkd Tryd.prog 128 = 2 := by kernel_rfl
@[simp] theorem tun_128 : (Tryd.prog.underlying 128).isSome = true := by kernel_rfl
@[simp] theorem tagg_128 : tagg Tryd.prog 128 = some false := by kernel_rfl
@[simp] theorem tsize_128 : tsize Tryd.prog 128 = some 1 := by kernel_rfl
@[simp] theorem tzero_128 : tzero Tryd.prog 128 = some (.int .u8 0) := by kernel_rfl
@[simp] theorem tint_128 : tint Tryd.prog 128 = some .u8 := by kernel_rfl
@[simp] theorem tkd_130 : tkd Tryd.prog 130 = 2 := by kernel_rfl
@[simp] theorem tun_130 : (Tryd.prog.underlying 130).isSome = true := by kernel_rfl
@[simp] theorem tagg_130 : tagg Tryd.prog 130 = some false := by kernel_rfl
@[simp] theorem tsize_130 : tsize Tryd.prog 130 = some 1 := by kernel_rfl
@[simp] theorem tzero_130 : tzero Tryd.prog 130 = some (.int .i32 0) := by kernel_rfl
@[simp] theorem tint_130 : tint Tryd.prog 130 = some .i32 := by kernel_rfl
@[simp] theorem tkd_131 : tkd Tryd.prog 131 = 2 := by kernel_rfl
@[simp] theorem tun_131 : (Tryd.prog.underlying 131).isSome = true := by kernel_rfl
@[simp] theorem tagg_131 : tagg Tryd.prog 131 = some false := by kernel_rfl
@[simp] theorem tsize_131 : tsize Tryd.prog 131 = some 1 := by kernel_rfl
@[simp] theorem tzero_131 : tzero Tryd.prog 131 = some (.int .i32 0) := by kernel_rfl
@[simp] theorem tint_131 : tint Tryd.prog 131 = some .i32 := by kernel_rfl
@[simp] theorem tkd_132 : tkd Tryd.prog 132 = 9 := by kernel_rfl
@[simp] theorem tun_132 : (Tryd.prog.underlying 132).isSome = true := by kernel_rfl
@[simp] theorem tagg_132 : tagg Tryd.prog 132 = some true := by kernel_rfl
@[simp] theorem tsize_132 : tsize Tryd.prog 132 = some 11 := by kernel_rfl
@[simp] theorem tzero_132 : tzero Tryd.prog 132 = some (.agg #[.int .u64 0, .int .u64 0, .int .u32 0, .int .u8 0, .int .u8 0, .int .u8 0, .int .u8 0, .nilFunc, .pointer none, .int .i32 0, .int .i32 0]) := by kernel_rfl
@[simp] theorem tsizes_132 : tsizes Tryd.prog 132 = true := by kernel_rfl
@[simp] theorem tfield_132_0 : tfield Tryd.prog 132 0 = some (0, 12) := by kernel_rfl
@[simp] theorem tplace_132_0 : aplace Tryd.prog 132 0 = some (0, 1) := by kernel_rfl
@[simp] theorem tfield_132_1 : tfield Tryd.prog 132 1 = some (1, 12) := by kernel_rfl
@[simp] theorem tplace_132_1 : aplace Tryd.prog 132 1 = some (1, 1) := by kernel_rfl
@[simp] theorem tfield_132_2 : tfield Tryd.prog 132 2 = some (2, 109) := by kernel_rfl
@[simp] theorem tplace_132_2 : aplace Tryd.prog 132 2 = some (2, 1) := by kernel_rfl
@[simp] theorem tfield_132_3 : tfield Tryd.prog 132 3 = some (3, 127) := by kernel_rfl
@[simp] theorem tplace_132_3 : aplace Tryd.prog 132 3 = some (3, 1) := by kernel_rfl
@[simp] theorem tfield_132_4 : tfield Tryd.prog 132 4 = some (4, 5) := by kernel_rfl
@[simp] theorem tplace_132_4 : aplace Tryd.prog 132 4 = some (4, 1) := by kernel_rfl
@[simp] theorem tfield_132_5 : tfield Tryd.prog 132 5 = some (5, 5) := by kernel_rfl
@[simp] theorem tplace_132_5 : aplace Tryd.prog 132 5 = some (5, 1) := by kernel_rfl
@[simp] theorem tfield_132_6 : tfield Tryd.prog 132 6 = some (6, 128) := by kernel_rfl
@[simp] theorem tplace_132_6 : aplace Tryd.prog 132 6 = some (6, 1) := by kernel_rfl
@[simp] theorem tfield_132_7 : tfield Tryd.prog 132 7 = some (7, 129) := by kernel_rfl
@[simp] theorem tplace_132_7 : aplace Tryd.prog 132 7 = some (7, 1) := by kernel_rfl
@[simp] theorem tfield_132_8 : tfield Tryd.prog 132 8 = some (8, 113) := by kernel_rfl
@[simp] theorem tplace_132_8 : aplace Tryd.prog 132 8 = some (8, 1) := by kernel_rfl
@[simp] theorem tfield_132_9 : tfield Tryd.prog 132 9 = some (9, 130) := by kernel_rfl
@[simp] theorem tplace_132_9 : aplace Tryd.prog 132 9 = some (9, 1) := by kernel_rfl
@[simp] theorem tfield_132_10 : tfield Tryd.prog 132 10 = some (10, 131) := by kernel_rfl
@[simp] theorem tplace_132_10 : aplace Tryd.prog 132 10 = some (10, 1) := by kernel_rfl
@[simp] theorem tkd_133 : tkd Tryd.prog 133 = 9 := by kernel_rfl
@[simp] theorem tun_133 : (Tryd.prog.underlying 133).isSome = true := by kernel_rfl
@[simp] theorem tagg_133 : tagg Tryd.prog 133 = some true := by kernel_rfl
@[simp] theorem tsize_133 : tsize Tryd.prog 133 = some 11 := by kernel_rfl
@[simp] theorem tzero_133 : tzero Tryd.prog 133 = some (.agg #[.int .u64 0, .int .u64 0, .int .u32 0, .int .u8 0, .int .u8 0, .int .u8 0, .int .u8 0, .nilFunc, .pointer none, .int .i32 0, .int .i32 0]) := by kernel_rfl
@[simp] theorem tsizes_133 : tsizes Tryd.prog 133 = true := by kernel_rfl
@[simp] theorem tfield_133_0 : tfield Tryd.prog 133 0 = some (0, 12) := by kernel_rfl
@[simp] theorem tplace_133_0 : aplace Tryd.prog 133 0 = some (0, 1) := by kernel_rfl
@[simp] theorem tfield_133_1 : tfield Tryd.prog 133 1 = some (1, 12) := by kernel_rfl
@[simp] theorem tplace_133_1 : aplace Tryd.prog 133 1 = some (1, 1) := by kernel_rfl
@[simp] theorem tfield_133_2 : tfield Tryd.prog 133 2 = some (2, 109) := by kernel_rfl
@[simp] theorem tplace_133_2 : aplace Tryd.prog 133 2 = some (2, 1) := by kernel_rfl
@[simp] theorem tfield_133_3 : tfield Tryd.prog 133 3 = some (3, 127) := by kernel_rfl
@[simp] theorem tplace_133_3 : aplace Tryd.prog 133 3 = some (3, 1) := by kernel_rfl
@[simp] theorem tfield_133_4 : tfield Tryd.prog 133 4 = some (4, 5) := by kernel_rfl
@[simp] theorem tplace_133_4 : aplace Tryd.prog 133 4 = some (4, 1) := by kernel_rfl
@[simp] theorem tfield_133_5 : tfield Tryd.prog 133 5 = some (5, 5) := by kernel_rfl
@[simp] theorem tplace_133_5 : aplace Tryd.prog 133 5 = some (5, 1) := by kernel_rfl
@[simp] theorem tfield_133_6 : tfield Tryd.prog 133 6 = some (6, 128) := by kernel_rfl
@[simp] theorem tplace_133_6 : aplace Tryd.prog 133 6 = some (6, 1) := by kernel_rfl
@[simp] theorem tfield_133_7 : tfield Tryd.prog 133 7 = some (7, 129) := by kernel_rfl
@[simp] theorem tplace_133_7 : aplace Tryd.prog 133 7 = some (7, 1) := by kernel_rfl
@[simp] theorem tfield_133_8 : tfield Tryd.prog 133 8 = some (8, 113) := by kernel_rfl
@[simp] theorem tplace_133_8 : aplace Tryd.prog 133 8 = some (8, 1) := by kernel_rfl
@[simp] theorem tfield_133_9 : tfield Tryd.prog 133 9 = some (9, 130) := by kernel_rfl
@[simp] theorem tplace_133_9 : aplace Tryd.prog 133 9 = some (9, 1) := by kernel_rfl
@[simp] theorem tfield_133_10 : tfield Tryd.prog 133 10 = some (10, 131) := by kernel_rfl
@[simp] theorem tplace_133_10 : aplace Tryd.prog 133 10 = some (10, 1) := by kernel_rfl
@[simp] theorem tun_134 : (Tryd.prog.underlying 134).isSome = true := by kernel_rfl
@[simp] theorem tagg_134 : tagg Tryd.prog 134 = some false := by kernel_rfl
@[simp] theorem tsize_134 : tsize Tryd.prog 134 = some 1 := by kernel_rfl
@[simp] theorem tzero_134 : tzero Tryd.prog 134 = some (.pointer none) := by kernel_rfl
@[simp] theorem tfs_23 : tfs Tryd.prog 23 = some [(false, 5, 0), (false, 3, 1)] := by kernel_rfl
@[simp] theorem tfs_27 : tfs Tryd.prog 27 = some [(false, 5, 0), (false, 3, 1)] := by kernel_rfl
@[simp] theorem tfs_59 : tfs Tryd.prog 59 = some [(false, 29, 0), (false, 45, 1)] := by kernel_rfl
@[simp] theorem tfs_61 : tfs Tryd.prog 61 = some [(false, 3, 0), (false, 45, 1), (false, 45, 2), (false, 45, 3), (false, 45, 4), (false, 2, 5), (false, 4, 6)] := by kernel_rfl
@[simp] theorem tfs_75 : tfs Tryd.prog 75 = some [(false, 45, 0), (false, 45, 1), (false, 45, 2), (false, 2, 3)] := by kernel_rfl
@[simp] theorem tfs_90 : tfs Tryd.prog 90 = some [(false, 45, 0), (false, 45, 1)] := by kernel_rfl
@[simp] theorem can_3 : canCall Tryd.prog 3 = true := by kernel_rfl
@[simp] theorem can_4 : canCall Tryd.prog 4 = true := by kernel_rfl
@[simp] theorem can_5 : canCall Tryd.prog 5 = true := by kernel_rfl
@[simp] theorem can_6 : canCall Tryd.prog 6 = true := by kernel_rfl
@[simp] theorem can_7 : canCall Tryd.prog 7 = true := by kernel_rfl
@[simp] theorem can_8 : canCall Tryd.prog 8 = true := by kernel_rfl
@[simp] theorem can_9 : canCall Tryd.prog 9 = true := by kernel_rfl
@[simp] theorem can_10 : canCall Tryd.prog 10 = true := by kernel_rfl
@[simp] theorem can_11 : canCall Tryd.prog 11 = true := by kernel_rfl
@[simp] theorem can_12 : canCall Tryd.prog 12 = true := by kernel_rfl
@[simp] theorem can_13 : canCall Tryd.prog 13 = true := by kernel_rfl
@[simp] theorem can_14 : canCall Tryd.prog 14 = true := by kernel_rfl
@[simp] theorem can_15 : canCall Tryd.prog 15 = true := by kernel_rfl
@[simp] theorem can_16 : canCall Tryd.prog 16 = true := by kernel_rfl
@[simp] theorem can_17 : canCall Tryd.prog 17 = true := by kernel_rfl
@[simp] theorem can_20 : canCall Tryd.prog 20 = true := by kernel_rfl
@[simp] theorem can_21 : canCall Tryd.prog 21 = true := by kernel_rfl
@[simp] theorem can_22 : canCall Tryd.prog 22 = true := by kernel_rfl
@[simp] theorem can_23 : canCall Tryd.prog 23 = true := by kernel_rfl
@[simp] theorem can_24 : canCall Tryd.prog 24 = true := by kernel_rfl
@[simp] theorem can_28 : canCall Tryd.prog 28 = true := by kernel_rfl
@[simp] theorem can_29 : canCall Tryd.prog 29 = true := by kernel_rfl
@[simp] theorem can_30 : canCall Tryd.prog 30 = true := by kernel_rfl
@[simp] theorem can_31 : canCall Tryd.prog 31 = true := by kernel_rfl
@[simp] theorem can_32 : canCall Tryd.prog 32 = true := by kernel_rfl
@[simp] theorem can_38 : canCall Tryd.prog 38 = true := by kernel_rfl
@[simp] theorem can_39 : canCall Tryd.prog 39 = true := by kernel_rfl
@[simp] theorem can_40 : canCall Tryd.prog 40 = true := by kernel_rfl
@[simp] theorem can_42 : canCall Tryd.prog 42 = true := by kernel_rfl
@[simp] theorem can_45 : canCall Tryd.prog 45 = true := by kernel_rfl
@[simp] theorem can_46 : canCall Tryd.prog 46 = true := by kernel_rfl
@[simp] theorem can_47 : canCall Tryd.prog 47 = true := by kernel_rfl
@[simp] theorem can_74 : canCall Tryd.prog 74 = true := by kernel_rfl
end Go.Proofs.YtghlkjkdejebnaaDoor
