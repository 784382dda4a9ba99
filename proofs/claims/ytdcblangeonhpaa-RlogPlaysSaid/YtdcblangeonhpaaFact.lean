/- Small facts on the types and the functions of this program, printed by facts.py. -/
import Derived.Test.YtdcblangeonhpaaRgN
import Derived.Test.YtdcblangeonhpaaRows
namespace Go.Proofs.Ytdcblangeonhpaa
open Rg
theorem f_mixed : Try.prog.follows .mixedOrders = true := by kernel_rfl
@[simp] theorem tkd_2 : tkd Try.prog 2 = 2 := by kernel_rfl
@[simp] theorem tun_2 : (Try.prog.underlying 2).isSome = true := by kernel_rfl
@[simp] theorem tagg_2 : tagg Try.prog 2 = some false := by kernel_rfl
@[simp] theorem tsize_2 : tsize Try.prog 2 = some 1 := by kernel_rfl
@[simp] theorem tzero_2 : tzero Try.prog 2 = some (.int .i64 0) := by kernel_rfl
@[simp] theorem tint_2 : tint Try.prog 2 = some .i64 := by kernel_rfl
@[simp] theorem tkd_3 : tkd Try.prog 3 = 2 := by kernel_rfl
@[simp] theorem tun_3 : (Try.prog.underlying 3).isSome = true := by kernel_rfl
@[simp] theorem tagg_3 : tagg Try.prog 3 = some false := by kernel_rfl
@[simp] theorem tsize_3 : tsize Try.prog 3 = some 1 := by kernel_rfl
@[simp] theorem tzero_3 : tzero Try.prog 3 = some (.int .i64 0) := by kernel_rfl
@[simp] theorem tint_3 : tint Try.prog 3 = some .i64 := by kernel_rfl
@[simp] theorem tkd_4 : tkd Try.prog 4 = 1 := by kernel_rfl
@[simp] theorem tun_4 : (Try.prog.underlying 4).isSome = true := by kernel_rfl
@[simp] theorem tagg_4 : tagg Try.prog 4 = some false := by kernel_rfl
@[simp] theorem tsize_4 : tsize Try.prog 4 = some 1 := by kernel_rfl
@[simp] theorem tzero_4 : tzero Try.prog 4 = some (.bool false) := by kernel_rfl
@[simp] theorem tkd_5 : tkd Try.prog 5 = 2 := by kernel_rfl
@[simp] theorem tun_5 : (Try.prog.underlying 5).isSome = true := by kernel_rfl
@[simp] theorem tagg_5 : tagg Try.prog 5 = some false := by kernel_rfl
@[simp] theorem tsize_5 : tsize Try.prog 5 = some 1 := by kernel_rfl
@[simp] theorem tzero_5 : tzero Try.prog 5 = some (.int .u8 0) := by kernel_rfl
@[simp] theorem tint_5 : tint Try.prog 5 = some .u8 := by kernel_rfl
@[simp] theorem tkd_6 : tkd Try.prog 6 = 2 := by kernel_rfl
@[simp] theorem tun_6 : (Try.prog.underlying 6).isSome = true := by kernel_rfl
@[simp] theorem tagg_6 : tagg Try.prog 6 = some false := by kernel_rfl
@[simp] theorem tsize_6 : tsize Try.prog 6 = some 1 := by kernel_rfl
@[simp] theorem tzero_6 : tzero Try.prog 6 = some (.int .u8 0) := by kernel_rfl
@[simp] theorem tint_6 : tint Try.prog 6 = some .u8 := by kernel_rfl
@[simp] theorem tkd_7 : tkd Try.prog 7 = 9 := by kernel_rfl
@[simp] theorem tun_7 : (Try.prog.underlying 7).isSome = true := by kernel_rfl
@[simp] theorem tagg_7 : tagg Try.prog 7 = some true := by kernel_rfl
@[simp] theorem tsize_7 : tsize Try.prog 7 = some 4 := by kernel_rfl
@[simp] theorem tzero_7 : tzero Try.prog 7 = some (.agg #[.int .i64 0, .int .i64 0, .bool false, .int .u8 0]) := by kernel_rfl
@[simp] theorem tsizes_7 : tsizes Try.prog 7 = true := by kernel_rfl
@[simp] theorem tfield_7_0 : tfield Try.prog 7 0 = some (0, 2) := by kernel_rfl
@[simp] theorem tplace_7_0 : aplace Try.prog 7 0 = some (0, 1) := by kernel_rfl
@[simp] theorem tfield_7_1 : tfield Try.prog 7 1 = some (1, 3) := by kernel_rfl
@[simp] theorem tplace_7_1 : aplace Try.prog 7 1 = some (1, 1) := by kernel_rfl
@[simp] theorem tfield_7_2 : tfield Try.prog 7 2 = some (2, 4) := by kernel_rfl
@[simp] theorem tplace_7_2 : aplace Try.prog 7 2 = some (2, 1) := by kernel_rfl
@[simp] theorem tfield_7_3 : tfield Try.prog 7 3 = some (3, 6) := by kernel_rfl
@[simp] theorem tplace_7_3 : aplace Try.prog 7 3 = some (3, 1) := by kernel_rfl
@[simp] theorem tkd_8 : tkd Try.prog 8 = 9 := by kernel_rfl
@[simp] theorem tun_8 : (Try.prog.underlying 8).isSome = true := by kernel_rfl
@[simp] theorem tagg_8 : tagg Try.prog 8 = some true := by kernel_rfl
@[simp] theorem tsize_8 : tsize Try.prog 8 = some 4 := by kernel_rfl
@[simp] theorem tzero_8 : tzero Try.prog 8 = some (.agg #[.int .i64 0, .int .i64 0, .bool false, .int .u8 0]) := by kernel_rfl
@[simp] theorem tsizes_8 : tsizes Try.prog 8 = true := by kernel_rfl
@[simp] theorem tfield_8_0 : tfield Try.prog 8 0 = some (0, 2) := by kernel_rfl
@[simp] theorem tplace_8_0 : aplace Try.prog 8 0 = some (0, 1) := by kernel_rfl
@[simp] theorem tfield_8_1 : tfield Try.prog 8 1 = some (1, 3) := by kernel_rfl
@[simp] theorem tplace_8_1 : aplace Try.prog 8 1 = some (1, 1) := by kernel_rfl
@[simp] theorem tfield_8_2 : tfield Try.prog 8 2 = some (2, 4) := by kernel_rfl
@[simp] theorem tplace_8_2 : aplace Try.prog 8 2 = some (2, 1) := by kernel_rfl
@[simp] theorem tfield_8_3 : tfield Try.prog 8 3 = some (3, 6) := by kernel_rfl
@[simp] theorem tplace_8_3 : aplace Try.prog 8 3 = some (3, 1) := by kernel_rfl
@[simp] theorem tkd_9 : tkd Try.prog 9 = 3 := by kernel_rfl
@[simp] theorem tun_9 : (Try.prog.underlying 9).isSome = true := by kernel_rfl
@[simp] theorem tagg_9 : tagg Try.prog 9 = some false := by kernel_rfl
@[simp] theorem tsize_9 : tsize Try.prog 9 = some 1 := by kernel_rfl
@[simp] theorem tzero_9 : tzero Try.prog 9 = some (.string ByteArray.empty) := by kernel_rfl
@[simp] theorem tkd_10 : tkd Try.prog 10 = 3 := by kernel_rfl
@[simp] theorem tun_10 : (Try.prog.underlying 10).isSome = true := by kernel_rfl
@[simp] theorem tagg_10 : tagg Try.prog 10 = some false := by kernel_rfl
@[simp] theorem tsize_10 : tsize Try.prog 10 = some 1 := by kernel_rfl
@[simp] theorem tzero_10 : tzero Try.prog 10 = some (.string ByteArray.empty) := by kernel_rfl
@[simp] theorem tkd_11 : tkd Try.prog 11 = 3 := by kernel_rfl
@[simp] theorem tun_11 : (Try.prog.underlying 11).isSome = true := by kernel_rfl
@[simp] theorem tagg_11 : tagg Try.prog 11 = some false := by kernel_rfl
@[simp] theorem tsize_11 : tsize Try.prog 11 = some 1 := by kernel_rfl
@[simp] theorem tzero_11 : tzero Try.prog 11 = some (.string ByteArray.empty) := by kernel_rfl
@[simp] theorem tkd_12 : tkd Try.prog 12 = 2 := by kernel_rfl
@[simp] theorem tun_12 : (Try.prog.underlying 12).isSome = true := by kernel_rfl
@[simp] theorem tagg_12 : tagg Try.prog 12 = some false := by kernel_rfl
@[simp] theorem tsize_12 : tsize Try.prog 12 = some 1 := by kernel_rfl
@[simp] theorem tzero_12 : tzero Try.prog 12 = some (.int .u64 0) := by kernel_rfl
@[simp] theorem tint_12 : tint Try.prog 12 = some .u64 := by kernel_rfl
@[simp] theorem tkd_13 : tkd Try.prog 13 = 9 := by kernel_rfl
@[simp] theorem tun_13 : (Try.prog.underlying 13).isSome = true := by kernel_rfl
@[simp] theorem tagg_13 : tagg Try.prog 13 = some true := by kernel_rfl
@[simp] theorem tsize_13 : tsize Try.prog 13 = some 2 := by kernel_rfl
@[simp] theorem tzero_13 : tzero Try.prog 13 = some (.agg #[.string ByteArray.empty, .int .u64 0]) := by kernel_rfl
@[simp] theorem tsizes_13 : tsizes Try.prog 13 = true := by kernel_rfl
@[simp] theorem tfield_13_0 : tfield Try.prog 13 0 = some (0, 9) := by kernel_rfl
@[simp] theorem tplace_13_0 : aplace Try.prog 13 0 = some (0, 1) := by kernel_rfl
@[simp] theorem tfield_13_1 : tfield Try.prog 13 1 = some (1, 12) := by kernel_rfl
@[simp] theorem tplace_13_1 : aplace Try.prog 13 1 = some (1, 1) := by kernel_rfl
@[simp] theorem tkd_14 : tkd Try.prog 14 = 9 := by kernel_rfl
@[simp] theorem tun_14 : (Try.prog.underlying 14).isSome = true := by kernel_rfl
@[simp] theorem tagg_14 : tagg Try.prog 14 = some true := by kernel_rfl
@[simp] theorem tsize_14 : tsize Try.prog 14 = some 2 := by kernel_rfl
@[simp] theorem tzero_14 : tzero Try.prog 14 = some (.agg #[.string ByteArray.empty, .int .u64 0]) := by kernel_rfl
@[simp] theorem tsizes_14 : tsizes Try.prog 14 = true := by kernel_rfl
@[simp] theorem tfield_14_0 : tfield Try.prog 14 0 = some (0, 9) := by kernel_rfl
@[simp] theorem tplace_14_0 : aplace Try.prog 14 0 = some (0, 1) := by kernel_rfl
@[simp] theorem tfield_14_1 : tfield Try.prog 14 1 = some (1, 12) := by kernel_rfl
@[simp] theorem tplace_14_1 : aplace Try.prog 14 1 = some (1, 1) := by kernel_rfl
@[simp] theorem tkd_15 : tkd Try.prog 15 = 4 := by kernel_rfl
@[simp] theorem tun_15 : (Try.prog.underlying 15).isSome = true := by kernel_rfl
@[simp] theorem tagg_15 : tagg Try.prog 15 = some false := by kernel_rfl
@[simp] theorem tsize_15 : tsize Try.prog 15 = some 1 := by kernel_rfl
@[simp] theorem tzero_15 : tzero Try.prog 15 = some (.pointer none) := by kernel_rfl
@[simp] theorem tkd_16 : tkd Try.prog 16 = 4 := by kernel_rfl
@[simp] theorem tun_16 : (Try.prog.underlying 16).isSome = true := by kernel_rfl
@[simp] theorem tagg_16 : tagg Try.prog 16 = some false := by kernel_rfl
@[simp] theorem tsize_16 : tsize Try.prog 16 = some 1 := by kernel_rfl
@[simp] theorem tzero_16 : tzero Try.prog 16 = some (.pointer none) := by kernel_rfl
@[simp] theorem tkd_17 : tkd Try.prog 17 = 4 := by kernel_rfl
@[simp] theorem tun_17 : (Try.prog.underlying 17).isSome = true := by kernel_rfl
@[simp] theorem tagg_17 : tagg Try.prog 17 = some false := by kernel_rfl
@[simp] theorem tsize_17 : tsize Try.prog 17 = some 1 := by kernel_rfl
@[simp] theorem tzero_17 : tzero Try.prog 17 = some (.pointer none) := by kernel_rfl
@[simp] theorem tkd_18 : tkd Try.prog 18 = 9 := by kernel_rfl
@[simp] theorem tun_18 : (Try.prog.underlying 18).isSome = true := by kernel_rfl
@[simp] theorem tagg_18 : tagg Try.prog 18 = some true := by kernel_rfl
@[simp] theorem tsize_18 : tsize Try.prog 18 = some 1 := by kernel_rfl
@[simp] theorem tzero_18 : tzero Try.prog 18 = some (.agg #[.pointer none]) := by kernel_rfl
@[simp] theorem tsizes_18 : tsizes Try.prog 18 = true := by kernel_rfl
@[simp] theorem tfield_18_0 : tfield Try.prog 18 0 = some (0, 17) := by kernel_rfl
@[simp] theorem tplace_18_0 : aplace Try.prog 18 0 = some (0, 1) := by kernel_rfl
@[simp] theorem tkd_19 : tkd Try.prog 19 = 9 := by kernel_rfl
@[simp] theorem tun_19 : (Try.prog.underlying 19).isSome = true := by kernel_rfl
@[simp] theorem tagg_19 : tagg Try.prog 19 = some true := by kernel_rfl
@[simp] theorem tsize_19 : tsize Try.prog 19 = some 1 := by kernel_rfl
@[simp] theorem tzero_19 : tzero Try.prog 19 = some (.agg #[.pointer none]) := by kernel_rfl
@[simp] theorem tsizes_19 : tsizes Try.prog 19 = true := by kernel_rfl
@[simp] theorem tfield_19_0 : tfield Try.prog 19 0 = some (0, 17) := by kernel_rfl
@[simp] theorem tplace_19_0 : aplace Try.prog 19 0 = some (0, 1) := by kernel_rfl
@[simp] theorem tkd_20 : tkd Try.prog 20 = 8 := by kernel_rfl
@[simp] theorem tun_20 : (Try.prog.underlying 20).isSome = true := by kernel_rfl
@[simp] theorem tagg_20 : tagg Try.prog 20 = some false := by kernel_rfl
@[simp] theorem tsize_20 : tsize Try.prog 20 = some 1 := by kernel_rfl
@[simp] theorem tzero_20 : tzero Try.prog 20 = some (.nilIface) := by kernel_rfl
@[simp] theorem tkd_21 : tkd Try.prog 21 = 2 := by kernel_rfl
@[simp] theorem tun_21 : (Try.prog.underlying 21).isSome = true := by kernel_rfl
@[simp] theorem tagg_21 : tagg Try.prog 21 = some false := by kernel_rfl
@[simp] theorem tsize_21 : tsize Try.prog 21 = some 1 := by kernel_rfl
@[simp] theorem tzero_21 : tzero Try.prog 21 = some (.int .i32 0) := by kernel_rfl
@[simp] theorem tint_21 : tint Try.prog 21 = some .i32 := by kernel_rfl
@[simp] theorem tkd_22 : tkd Try.prog 22 = 5 := by kernel_rfl
@[simp] theorem tun_22 : (Try.prog.underlying 22).isSome = true := by kernel_rfl
@[simp] theorem tagg_22 : tagg Try.prog 22 = some false := by kernel_rfl
@[simp] theorem tsize_22 : tsize Try.prog 22 = some 1 := by kernel_rfl
@[simp] theorem tzero_22 : tzero Try.prog 22 = some (.slice none 0 0) := by kernel_rfl
@[simp] theorem telem_22 : telem Try.prog 22 = some 34 := by kernel_rfl
theorem el_22 : ElemOk Try.prog 22 34 3 40 := ⟨by kernel_rfl, by kernel_rfl, by kernel_rfl, ⟨.agg #[.int .u64 0, .int .u64 0, .slice none 0 0], by kernel_rfl, by kernel_rfl⟩, by decide⟩
@[simp] theorem tkd_23 : tkd Try.prog 23 = 5 := by kernel_rfl
@[simp] theorem tun_23 : (Try.prog.underlying 23).isSome = true := by kernel_rfl
@[simp] theorem tagg_23 : tagg Try.prog 23 = some false := by kernel_rfl
@[simp] theorem tsize_23 : tsize Try.prog 23 = some 1 := by kernel_rfl
@[simp] theorem tzero_23 : tzero Try.prog 23 = some (.slice none 0 0) := by kernel_rfl
@[simp] theorem telem_23 : telem Try.prog 23 = some 3 := by kernel_rfl
theorem el_23 : ElemOk Try.prog 23 3 1 8 := ⟨by kernel_rfl, by kernel_rfl, by kernel_rfl, ⟨.int .i64 0, by kernel_rfl, by kernel_rfl⟩, by decide⟩
@[simp] theorem tkd_27 : tkd Try.prog 27 = 4 := by kernel_rfl
@[simp] theorem tun_27 : (Try.prog.underlying 27).isSome = true := by kernel_rfl
@[simp] theorem tagg_27 : tagg Try.prog 27 = some false := by kernel_rfl
@[simp] theorem tsize_27 : tsize Try.prog 27 = some 1 := by kernel_rfl
@[simp] theorem tzero_27 : tzero Try.prog 27 = some (.pointer none) := by kernel_rfl
@[simp] theorem tkd_28 : tkd Try.prog 28 = 2 := by kernel_rfl
@[simp] theorem tun_28 : (Try.prog.underlying 28).isSome = true := by kernel_rfl
@[simp] theorem tagg_28 : tagg Try.prog 28 = some false := by kernel_rfl
@[simp] theorem tsize_28 : tsize Try.prog 28 = some 1 := by kernel_rfl
@[simp] theorem tzero_28 : tzero Try.prog 28 = some (.int .i64 0) := by kernel_rfl
@[simp] theorem tint_28 : tint Try.prog 28 = some .i64 := by kernel_rfl
@[simp] theorem tkd_31 : tkd Try.prog 31 = 2 := by kernel_rfl
@[simp] theorem tun_31 : (Try.prog.underlying 31).isSome = true := by kernel_rfl
@[simp] theorem tagg_31 : tagg Try.prog 31 = some false := by kernel_rfl
@[simp] theorem tsize_31 : tsize Try.prog 31 = some 1 := by kernel_rfl
@[simp] theorem tzero_31 : tzero Try.prog 31 = some (.int .u64 0) := by kernel_rfl
@[simp] theorem tint_31 : tint Try.prog 31 = some .u64 := by kernel_rfl
@[simp] theorem tkd_32 : tkd Try.prog 32 = 5 := by kernel_rfl
@[simp] theorem tun_32 : (Try.prog.underlying 32).isSome = true := by kernel_rfl
@[simp] theorem tagg_32 : tagg Try.prog 32 = some false := by kernel_rfl
@[simp] theorem tsize_32 : tsize Try.prog 32 = some 1 := by kernel_rfl
@[simp] theorem tzero_32 : tzero Try.prog 32 = some (.slice none 0 0) := by kernel_rfl
@[simp] theorem telem_32 : telem Try.prog 32 = some 5 := by kernel_rfl
theorem el_32 : ElemOk Try.prog 32 5 1 1 := ⟨by kernel_rfl, by kernel_rfl, by kernel_rfl, ⟨.int .u8 0, by kernel_rfl, by kernel_rfl⟩, by decide⟩
@[simp] theorem tkd_33 : tkd Try.prog 33 = 9 := by kernel_rfl
@[simp] theorem tun_33 : (Try.prog.underlying 33).isSome = true := by kernel_rfl
@[simp] theorem tagg_33 : tagg Try.prog 33 = some true := by kernel_rfl
@[simp] theorem tsize_33 : tsize Try.prog 33 = some 3 := by kernel_rfl
@[simp] theorem tzero_33 : tzero Try.prog 33 = some (.agg #[.int .u64 0, .int .u64 0, .slice none 0 0]) := by kernel_rfl
@[simp] theorem tsizes_33 : tsizes Try.prog 33 = true := by kernel_rfl
@[simp] theorem tfield_33_0 : tfield Try.prog 33 0 = some (0, 31) := by kernel_rfl
@[simp] theorem tplace_33_0 : aplace Try.prog 33 0 = some (0, 1) := by kernel_rfl
@[simp] theorem tfield_33_1 : tfield Try.prog 33 1 = some (1, 31) := by kernel_rfl
@[simp] theorem tplace_33_1 : aplace Try.prog 33 1 = some (1, 1) := by kernel_rfl
@[simp] theorem tfield_33_2 : tfield Try.prog 33 2 = some (2, 32) := by kernel_rfl
@[simp] theorem tplace_33_2 : aplace Try.prog 33 2 = some (2, 1) := by kernel_rfl
@[simp] theorem tkd_34 : tkd Try.prog 34 = 9 := by kernel_rfl
@[simp] theorem tun_34 : (Try.prog.underlying 34).isSome = true := by kernel_rfl
@[simp] theorem tagg_34 : tagg Try.prog 34 = some true := by kernel_rfl
@[simp] theorem tsize_34 : tsize Try.prog 34 = some 3 := by kernel_rfl
@[simp] theorem tzero_34 : tzero Try.prog 34 = some (.agg #[.int .u64 0, .int .u64 0, .slice none 0 0]) := by kernel_rfl
@[simp] theorem tsizes_34 : tsizes Try.prog 34 = true := by kernel_rfl
@[simp] theorem tfield_34_0 : tfield Try.prog 34 0 = some (0, 31) := by kernel_rfl
@[simp] theorem tplace_34_0 : aplace Try.prog 34 0 = some (0, 1) := by kernel_rfl
@[simp] theorem tfield_34_1 : tfield Try.prog 34 1 = some (1, 31) := by kernel_rfl
@[simp] theorem tplace_34_1 : aplace Try.prog 34 1 = some (1, 1) := by kernel_rfl
@[simp] theorem tfield_34_2 : tfield Try.prog 34 2 = some (2, 32) := by kernel_rfl
@[simp] theorem tplace_34_2 : aplace Try.prog 34 2 = some (2, 1) := by kernel_rfl
@[simp] theorem tkd_49 : tkd Try.prog 49 = 5 := by kernel_rfl
@[simp] theorem tun_49 : (Try.prog.underlying 49).isSome = true := by kernel_rfl
@[simp] theorem tagg_49 : tagg Try.prog 49 = some false := by kernel_rfl
@[simp] theorem tsize_49 : tsize Try.prog 49 = some 1 := by kernel_rfl
@[simp] theorem tzero_49 : tzero Try.prog 49 = some (.slice none 0 0) := by kernel_rfl
@[simp] theorem telem_49 : telem Try.prog 49 = some 55 := by kernel_rfl
theorem el_49 : ElemOk Try.prog 49 55 5 72 := ⟨by kernel_rfl, by kernel_rfl, by kernel_rfl, ⟨.agg #[.int .i64 0, .int .u64 0, .int .u64 0, .slice none 0 0, .slice none 0 0], by kernel_rfl, by kernel_rfl⟩, by decide⟩
@[simp] theorem tkd_51 : tkd Try.prog 51 = 4 := by kernel_rfl
@[simp] theorem tun_51 : (Try.prog.underlying 51).isSome = true := by kernel_rfl
@[simp] theorem tagg_51 : tagg Try.prog 51 = some false := by kernel_rfl
@[simp] theorem tsize_51 : tsize Try.prog 51 = some 1 := by kernel_rfl
@[simp] theorem tzero_51 : tzero Try.prog 51 = some (.pointer none) := by kernel_rfl
@[simp] theorem tkd_52 : tkd Try.prog 52 = 9 := by kernel_rfl
@[simp] theorem tun_52 : (Try.prog.underlying 52).isSome = true := by kernel_rfl
@[simp] theorem tagg_52 : tagg Try.prog 52 = some true := by kernel_rfl
@[simp] theorem tsize_52 : tsize Try.prog 52 = some 3 := by kernel_rfl
@[simp] theorem tzero_52 : tzero Try.prog 52 = some (.agg #[.int .u64 0, .int .u64 0, .slice none 0 0]) := by kernel_rfl
@[simp] theorem tsizes_52 : tsizes Try.prog 52 = true := by kernel_rfl
@[simp] theorem tfield_52_0 : tfield Try.prog 52 0 = some (0, 31) := by kernel_rfl
@[simp] theorem tplace_52_0 : aplace Try.prog 52 0 = some (0, 1) := by kernel_rfl
@[simp] theorem tfield_52_1 : tfield Try.prog 52 1 = some (1, 31) := by kernel_rfl
@[simp] theorem tplace_52_1 : aplace Try.prog 52 1 = some (1, 1) := by kernel_rfl
@[simp] theorem tfield_52_2 : tfield Try.prog 52 2 = some (2, 22) := by kernel_rfl
@[simp] theorem tplace_52_2 : aplace Try.prog 52 2 = some (2, 1) := by kernel_rfl
@[simp] theorem tkd_53 : tkd Try.prog 53 = 9 := by kernel_rfl
@[simp] theorem tun_53 : (Try.prog.underlying 53).isSome = true := by kernel_rfl
@[simp] theorem tagg_53 : tagg Try.prog 53 = some true := by kernel_rfl
@[simp] theorem tsize_53 : tsize Try.prog 53 = some 3 := by kernel_rfl
@[simp] theorem tzero_53 : tzero Try.prog 53 = some (.agg #[.int .u64 0, .int .u64 0, .slice none 0 0]) := by kernel_rfl
@[simp] theorem tsizes_53 : tsizes Try.prog 53 = true := by kernel_rfl
@[simp] theorem tfield_53_0 : tfield Try.prog 53 0 = some (0, 31) := by kernel_rfl
@[simp] theorem tplace_53_0 : aplace Try.prog 53 0 = some (0, 1) := by kernel_rfl
@[simp] theorem tfield_53_1 : tfield Try.prog 53 1 = some (1, 31) := by kernel_rfl
@[simp] theorem tplace_53_1 : aplace Try.prog 53 1 = some (1, 1) := by kernel_rfl
@[simp] theorem tfield_53_2 : tfield Try.prog 53 2 = some (2, 22) := by kernel_rfl
@[simp] theorem tplace_53_2 : aplace Try.prog 53 2 = some (2, 1) := by kernel_rfl
@[simp] theorem tkd_54 : tkd Try.prog 54 = 9 := by kernel_rfl
@[simp] theorem tun_54 : (Try.prog.underlying 54).isSome = true := by kernel_rfl
@[simp] theorem tagg_54 : tagg Try.prog 54 = some true := by kernel_rfl
@[simp] theorem tsize_54 : tsize Try.prog 54 = some 5 := by kernel_rfl
@[simp] theorem tzero_54 : tzero Try.prog 54 = some (.agg #[.int .i64 0, .int .u64 0, .int .u64 0, .slice none 0 0, .slice none 0 0]) := by kernel_rfl
@[simp] theorem tsizes_54 : tsizes Try.prog 54 = true := by kernel_rfl
@[simp] theorem tfield_54_0 : tfield Try.prog 54 0 = some (0, 3) := by kernel_rfl
@[simp] theorem tplace_54_0 : aplace Try.prog 54 0 = some (0, 1) := by kernel_rfl
@[simp] theorem tfield_54_1 : tfield Try.prog 54 1 = some (1, 31) := by kernel_rfl
@[simp] theorem tplace_54_1 : aplace Try.prog 54 1 = some (1, 1) := by kernel_rfl
@[simp] theorem tfield_54_2 : tfield Try.prog 54 2 = some (2, 31) := by kernel_rfl
@[simp] theorem tplace_54_2 : aplace Try.prog 54 2 = some (2, 1) := by kernel_rfl
@[simp] theorem tfield_54_3 : tfield Try.prog 54 3 = some (3, 32) := by kernel_rfl
@[simp] theorem tplace_54_3 : aplace Try.prog 54 3 = some (3, 1) := by kernel_rfl
@[simp] theorem tfield_54_4 : tfield Try.prog 54 4 = some (4, 22) := by kernel_rfl
@[simp] theorem tplace_54_4 : aplace Try.prog 54 4 = some (4, 1) := by kernel_rfl
@[simp] theorem tkd_55 : tkd Try.prog 55 = 9 := by kernel_rfl
@[simp] theorem tun_55 : (Try.prog.underlying 55).isSome = true := by kernel_rfl
@[simp] theorem tagg_55 : tagg Try.prog 55 = some true := by kernel_rfl
@[simp] theorem tsize_55 : tsize Try.prog 55 = some 5 := by kernel_rfl
@[simp] theorem tzero_55 : tzero Try.prog 55 = some (.agg #[.int .i64 0, .int .u64 0, .int .u64 0, .slice none 0 0, .slice none 0 0]) := by kernel_rfl
@[simp] theorem tsizes_55 : tsizes Try.prog 55 = true := by kernel_rfl
@[simp] theorem tfield_55_0 : tfield Try.prog 55 0 = some (0, 3) := by kernel_rfl
@[simp] theorem tplace_55_0 : aplace Try.prog 55 0 = some (0, 1) := by kernel_rfl
@[simp] theorem tfield_55_1 : tfield Try.prog 55 1 = some (1, 31) := by kernel_rfl
@[simp] theorem tplace_55_1 : aplace Try.prog 55 1 = some (1, 1) := by kernel_rfl
@[simp] theorem tfield_55_2 : tfield Try.prog 55 2 = some (2, 31) := by kernel_rfl
@[simp] theorem tplace_55_2 : aplace Try.prog 55 2 = some (2, 1) := by kernel_rfl
@[simp] theorem tfield_55_3 : tfield Try.prog 55 3 = some (3, 32) := by kernel_rfl
@[simp] theorem tplace_55_3 : aplace Try.prog 55 3 = some (3, 1) := by kernel_rfl
@[simp] theorem tfield_55_4 : tfield Try.prog 55 4 = some (4, 22) := by kernel_rfl
@[simp] theorem tplace_55_4 : aplace Try.prog 55 4 = some (4, 1) := by kernel_rfl
@[simp] theorem tkd_60 : tkd Try.prog 60 = 9 := by kernel_rfl
@[simp] theorem tun_60 : (Try.prog.underlying 60).isSome = true := by kernel_rfl
@[simp] theorem tagg_60 : tagg Try.prog 60 = some true := by kernel_rfl
@[simp] theorem tsize_60 : tsize Try.prog 60 = some 4 := by kernel_rfl
@[simp] theorem tzero_60 : tzero Try.prog 60 = some (.agg #[.bool false, .int .u64 0, .int .u64 0, .slice none 0 0]) := by kernel_rfl
@[simp] theorem tsizes_60 : tsizes Try.prog 60 = true := by kernel_rfl
@[simp] theorem tfield_60_0 : tfield Try.prog 60 0 = some (0, 4) := by kernel_rfl
@[simp] theorem tplace_60_0 : aplace Try.prog 60 0 = some (0, 1) := by kernel_rfl
@[simp] theorem tfield_60_1 : tfield Try.prog 60 1 = some (1, 31) := by kernel_rfl
@[simp] theorem tplace_60_1 : aplace Try.prog 60 1 = some (1, 1) := by kernel_rfl
@[simp] theorem tfield_60_2 : tfield Try.prog 60 2 = some (2, 31) := by kernel_rfl
@[simp] theorem tplace_60_2 : aplace Try.prog 60 2 = some (2, 1) := by kernel_rfl
@[simp] theorem tfield_60_3 : tfield Try.prog 60 3 = some (3, 22) := by kernel_rfl
@[simp] theorem tplace_60_3 : aplace Try.prog 60 3 = some (3, 1) := by kernel_rfl
@[simp] theorem tkd_61 : tkd Try.prog 61 = 9 := by kernel_rfl
@[simp] theorem tun_61 : (Try.prog.underlying 61).isSome = true := by kernel_rfl
@[simp] theorem tagg_61 : tagg Try.prog 61 = some true := by kernel_rfl
@[simp] theorem tsize_61 : tsize Try.prog 61 = some 4 := by kernel_rfl
@[simp] theorem tzero_61 : tzero Try.prog 61 = some (.agg #[.bool false, .int .u64 0, .int .u64 0, .slice none 0 0]) := by kernel_rfl
@[simp] theorem tsizes_61 : tsizes Try.prog 61 = true := by kernel_rfl
@[simp] theorem tfield_61_0 : tfield Try.prog 61 0 = some (0, 4) := by kernel_rfl
@[simp] theorem tplace_61_0 : aplace Try.prog 61 0 = some (0, 1) := by kernel_rfl
@[simp] theorem tfield_61_1 : tfield Try.prog 61 1 = some (1, 31) := by kernel_rfl
@[simp] theorem tplace_61_1 : aplace Try.prog 61 1 = some (1, 1) := by kernel_rfl
@[simp] theorem tfield_61_2 : tfield Try.prog 61 2 = some (2, 31) := by kernel_rfl
@[simp] theorem tplace_61_2 : aplace Try.prog 61 2 = some (2, 1) := by kernel_rfl
@[simp] theorem tfield_61_3 : tfield Try.prog 61 3 = some (3, 22) := by kernel_rfl
@[simp] theorem tplace_61_3 : aplace Try.prog 61 3 = some (3, 1) := by kernel_rfl
@[simp] theorem tkd_68 : tkd Try.prog 68 = 5 := by kernel_rfl
@[simp] theorem tun_68 : (Try.prog.underlying 68).isSome = true := by kernel_rfl
@[simp] theorem tagg_68 : tagg Try.prog 68 = some false := by kernel_rfl
@[simp] theorem tsize_68 : tsize Try.prog 68 = some 1 := by kernel_rfl
@[simp] theorem tzero_68 : tzero Try.prog 68 = some (.slice none 0 0) := by kernel_rfl
@[simp] theorem telem_68 : telem Try.prog 68 = some 31 := by kernel_rfl
theorem el_68 : ElemOk Try.prog 68 31 1 8 := ⟨by kernel_rfl, by kernel_rfl, by kernel_rfl, ⟨.int .u64 0, by kernel_rfl, by kernel_rfl⟩, by decide⟩
@[simp] theorem tkd_70 : tkd Try.prog 70 = 9 := by kernel_rfl
@[simp] theorem tun_70 : (Try.prog.underlying 70).isSome = true := by kernel_rfl
@[simp] theorem tagg_70 : tagg Try.prog 70 = some true := by kernel_rfl
@[simp] theorem tsize_70 : tsize Try.prog 70 = some 4 := by kernel_rfl
@[simp] theorem tzero_70 : tzero Try.prog 70 = some (.agg #[.pointer none, .pointer none, .pointer none, .string ByteArray.empty]) := by kernel_rfl
@[simp] theorem tsizes_70 : tsizes Try.prog 70 = true := by kernel_rfl
@[simp] theorem tfield_70_0 : tfield Try.prog 70 0 = some (0, 17) := by kernel_rfl
@[simp] theorem tplace_70_0 : aplace Try.prog 70 0 = some (0, 1) := by kernel_rfl
@[simp] theorem tfield_70_1 : tfield Try.prog 70 1 = some (1, 17) := by kernel_rfl
@[simp] theorem tplace_70_1 : aplace Try.prog 70 1 = some (1, 1) := by kernel_rfl
@[simp] theorem tfield_70_2 : tfield Try.prog 70 2 = some (2, 17) := by kernel_rfl
@[simp] theorem tplace_70_2 : aplace Try.prog 70 2 = some (2, 1) := by kernel_rfl
@[simp] theorem tfield_70_3 : tfield Try.prog 70 3 = some (3, 9) := by kernel_rfl
@[simp] theorem tplace_70_3 : aplace Try.prog 70 3 = some (3, 1) := by kernel_rfl
@[simp] theorem tkd_71 : tkd Try.prog 71 = 9 := by kernel_rfl
@[simp] theorem tun_71 : (Try.prog.underlying 71).isSome = true := by kernel_rfl
@[simp] theorem tagg_71 : tagg Try.prog 71 = some true := by kernel_rfl
@[simp] theorem tsize_71 : tsize Try.prog 71 = some 4 := by kernel_rfl
@[simp] theorem tzero_71 : tzero Try.prog 71 = some (.agg #[.pointer none, .pointer none, .pointer none, .string ByteArray.empty]) := by kernel_rfl
@[simp] theorem tsizes_71 : tsizes Try.prog 71 = true := by kernel_rfl
@[simp] theorem tfield_71_0 : tfield Try.prog 71 0 = some (0, 17) := by kernel_rfl
@[simp] theorem tplace_71_0 : aplace Try.prog 71 0 = some (0, 1) := by kernel_rfl
@[simp] theorem tfield_71_1 : tfield Try.prog 71 1 = some (1, 17) := by kernel_rfl
@[simp] theorem tplace_71_1 : aplace Try.prog 71 1 = some (1, 1) := by kernel_rfl
@[simp] theorem tfield_71_2 : tfield Try.prog 71 2 = some (2, 17) := by kernel_rfl
@[simp] theorem tplace_71_2 : aplace Try.prog 71 2 = some (2, 1) := by kernel_rfl
@[simp] theorem tfield_71_3 : tfield Try.prog 71 3 = some (3, 9) := by kernel_rfl
@[simp] theorem tplace_71_3 : aplace Try.prog 71 3 = some (3, 1) := by kernel_rfl
@[simp] theorem tkd_72 : tkd Try.prog 72 = 10 := by kernel_rfl
@[simp] theorem tun_72 : (Try.prog.underlying 72).isSome = true := by kernel_rfl
@[simp] theorem tagg_72 : tagg Try.prog 72 = some true := by kernel_rfl
@[simp] theorem tsize_72 : tsize Try.prog 72 = some 0 := by kernel_rfl
@[simp] theorem tzero_72 : tzero Try.prog 72 = some (.agg #[]) := by kernel_rfl
@[simp] theorem tarr_72 : tarr Try.prog 72 = some (0, 16) := by kernel_rfl
@[simp] theorem tsizes_72 : tsizes Try.prog 72 = true := by kernel_rfl
@[simp] theorem tkd_73 : tkd Try.prog 73 = 9 := by kernel_rfl
@[simp] theorem tun_73 : (Try.prog.underlying 73).isSome = true := by kernel_rfl
@[simp] theorem tagg_73 : tagg Try.prog 73 = some true := by kernel_rfl
@[simp] theorem tsize_73 : tsize Try.prog 73 = some 0 := by kernel_rfl
@[simp] theorem tzero_73 : tzero Try.prog 73 = some (.agg #[]) := by kernel_rfl
@[simp] theorem tsizes_73 : tsizes Try.prog 73 = true := by kernel_rfl
@[simp] theorem tfield_73_0 : tfield Try.prog 73 0 = some (0, 72) := by kernel_rfl
@[simp] theorem tplace_73_0 : aplace Try.prog 73 0 = some (0, 0) := by kernel_rfl
@[simp] theorem tkd_74 : tkd Try.prog 74 = 9 := by kernel_rfl
@[simp] theorem tun_74 : (Try.prog.underlying 74).isSome = true := by kernel_rfl
@[simp] theorem tagg_74 : tagg Try.prog 74 = some true := by kernel_rfl
@[simp] theorem tsize_74 : tsize Try.prog 74 = some 0 := by kernel_rfl
@[simp] theorem tzero_74 : tzero Try.prog 74 = some (.agg #[]) := by kernel_rfl
@[simp] theorem tsizes_74 : tsizes Try.prog 74 = true := by kernel_rfl
@[simp] theorem tfield_74_0 : tfield Try.prog 74 0 = some (0, 72) := by kernel_rfl
@[simp] theorem tplace_74_0 : aplace Try.prog 74 0 = some (0, 0) := by kernel_rfl
@[simp] theorem tkd_76 : tkd Try.prog 76 = 2 := by kernel_rfl
@[simp] theorem tun_76 : (Try.prog.underlying 76).isSome = true := by kernel_rfl
@[simp] theorem tagg_76 : tagg Try.prog 76 = some false := by kernel_rfl
@[simp] theorem tsize_76 : tsize Try.prog 76 = some 1 := by kernel_rfl
@[simp] theorem tzero_76 : tzero Try.prog 76 = some (.int .u32 0) := by kernel_rfl
@[simp] theorem tint_76 : tint Try.prog 76 = some .u32 := by kernel_rfl
@[simp] theorem tkd_77 : tkd Try.prog 77 = 2 := by kernel_rfl
@[simp] theorem tun_77 : (Try.prog.underlying 77).isSome = true := by kernel_rfl
@[simp] theorem tagg_77 : tagg Try.prog 77 = some false := by kernel_rfl
@[simp] theorem tsize_77 : tsize Try.prog 77 = some 1 := by kernel_rfl
@[simp] theorem tzero_77 : tzero Try.prog 77 = some (.int .u8 0) := by kernel_rfl
@[simp] theorem tint_77 : tint Try.prog 77 = some .u8 := by kernel_rfl
@[simp] theorem tkd_78 : tkd Try.prog 78 = 2 := by kernel_rfl
@[simp] theorem tun_78 : (Try.prog.underlying 78).isSome = true := by kernel_rfl
@[simp] theorem tagg_78 : tagg Try.prog 78 = some false := by kernel_rfl
@[simp] theorem tsize_78 : tsize Try.prog 78 = some 1 := by kernel_rfl
@[simp] theorem tzero_78 : tzero Try.prog 78 = some (.int .u8 0) := by kernel_rfl
@[simp] theorem tint_78 : tint Try.prog 78 = some .u8 := by kernel_rfl
@[simp] theorem tkd_80 : tkd Try.prog 80 = 4 := by kernel_rfl
@[simp] theorem tun_80 : (Try.prog.underlying 80).isSome = true := by kernel_rfl
@[simp] theorem tagg_80 : tagg Try.prog 80 = some false := by kernel_rfl
@[simp] theorem tsize_80 : tsize Try.prog 80 = some 1 := by kernel_rfl
@[simp] theorem tzero_80 : tzero Try.prog 80 = some (.pointer none) := by kernel_rfl
@[simp] theorem tkd_81 : tkd Try.prog 81 = 2 := by kernel_rfl
@[simp] theorem tun_81 : (Try.prog.underlying 81).isSome = true := by kernel_rfl
@[simp] theorem tagg_81 : tagg Try.prog 81 = some false := by kernel_rfl
@[simp] theorem tsize_81 : tsize Try.prog 81 = some 1 := by kernel_rfl
@[simp] theorem tzero_81 : tzero Try.prog 81 = some (.int .i32 0) := by kernel_rfl
@[simp] theorem tint_81 : tint Try.prog 81 = some .i32 := by kernel_rfl
@[simp] theorem tkd_82 : tkd Try.prog 82 = 2 := by kernel_rfl
@[simp] theorem tun_82 : (Try.prog.underlying 82).isSome = true := by kernel_rfl
@[simp] theorem tagg_82 : tagg Try.prog 82 = some false := by kernel_rfl
@[simp] theorem tsize_82 : tsize Try.prog 82 = some 1 := by kernel_rfl
@[simp] theorem tzero_82 : tzero Try.prog 82 = some (.int .i32 0) := by kernel_rfl
@[simp] theorem tint_82 : tint Try.prog 82 = some .i32 := by kernel_rfl
@[simp] theorem tkd_83 : tkd Try.prog 83 = 9 := by kernel_rfl
@[simp] theorem tun_83 : (Try.prog.underlying 83).isSome = true := by kernel_rfl
@[simp] theorem tagg_83 : tagg Try.prog 83 = some true := by kernel_rfl
@[simp] theorem tsize_83 : tsize Try.prog 83 = some 11 := by kernel_rfl
@[simp] theorem tzero_83 : tzero Try.prog 83 = some (.agg #[.int .u64 0, .int .u64 0, .int .u32 0, .int .u8 0, .int .u8 0, .int .u8 0, .int .u8 0, .nilFunc, .pointer none, .int .i32 0, .int .i32 0]) := by kernel_rfl
@[simp] theorem tsizes_83 : tsizes Try.prog 83 = true := by kernel_rfl
@[simp] theorem tfield_83_0 : tfield Try.prog 83 0 = some (0, 12) := by kernel_rfl
@[simp] theorem tplace_83_0 : aplace Try.prog 83 0 = some (0, 1) := by kernel_rfl
@[simp] theorem tfield_83_1 : tfield Try.prog 83 1 = some (1, 12) := by kernel_rfl
@[simp] theorem tplace_83_1 : aplace Try.prog 83 1 = some (1, 1) := by kernel_rfl
@[simp] theorem tfield_83_2 : tfield Try.prog 83 2 = some (2, 76) := by kernel_rfl
@[simp] theorem tplace_83_2 : aplace Try.prog 83 2 = some (2, 1) := by kernel_rfl
@[simp] theorem tfield_83_3 : tfield Try.prog 83 3 = some (3, 77) := by kernel_rfl
@[simp] theorem tplace_83_3 : aplace Try.prog 83 3 = some (3, 1) := by kernel_rfl
@[simp] theorem tfield_83_4 : tfield Try.prog 83 4 = some (4, 5) := by kernel_rfl
@[simp] theorem tplace_83_4 : aplace Try.prog 83 4 = some (4, 1) := by kernel_rfl
@[simp] theorem tfield_83_5 : tfield Try.prog 83 5 = some (5, 5) := by kernel_rfl
@[simp] theorem tplace_83_5 : aplace Try.prog 83 5 = some (5, 1) := by kernel_rfl
@[simp] theorem tfield_83_6 : tfield Try.prog 83 6 = some (6, 78) := by kernel_rfl
@[simp] theorem tplace_83_6 : aplace Try.prog 83 6 = some (6, 1) := by kernel_rfl
@[simp] theorem tfield_83_7 : tfield Try.prog 83 7 = some (7, 79) := by kernel_rfl
@[simp] theorem tplace_83_7 : aplace Try.prog 83 7 = some (7, 1) := by kernel_rfl
@[simp] theorem tfield_83_8 : tfield Try.prog 83 8 = some (8, 80) := by kernel_rfl
@[simp] theorem tplace_83_8 : aplace Try.prog 83 8 = some (8, 1) := by kernel_rfl
@[simp] theorem tfield_83_9 : tfield Try.prog 83 9 = some (9, 81) := by kernel_rfl
@[simp] theorem tplace_83_9 : aplace Try.prog 83 9 = some (9, 1) := by kernel_rfl
@[simp] theorem tfield_83_10 : tfield Try.prog 83 10 = some (10, 82) := by kernel_rfl
@[simp] theorem tplace_83_10 : aplace Try.prog 83 10 = some (10, 1) := by kernel_rfl
@[simp] theorem tkd_84 : tkd Try.prog 84 = 9 := by kernel_rfl
@[simp] theorem tun_84 : (Try.prog.underlying 84).isSome = true := by kernel_rfl
@[simp] theorem tagg_84 : tagg Try.prog 84 = some true := by kernel_rfl
@[simp] theorem tsize_84 : tsize Try.prog 84 = some 11 := by kernel_rfl
@[simp] theorem tzero_84 : tzero Try.prog 84 = some (.agg #[.int .u64 0, .int .u64 0, .int .u32 0, .int .u8 0, .int .u8 0, .int .u8 0, .int .u8 0, .nilFunc, .pointer none, .int .i32 0, .int .i32 0]) := by kernel_rfl
@[simp] theorem tsizes_84 : tsizes Try.prog 84 = true := by kernel_rfl
@[simp] theorem tfield_84_0 : tfield Try.prog 84 0 = some (0, 12) := by kernel_rfl
@[simp] theorem tplace_84_0 : aplace Try.prog 84 0 = some (0, 1) := by kernel_rfl
@[simp] theorem tfield_84_1 : tfield Try.prog 84 1 = some (1, 12) := by kernel_rfl
@[simp] theorem tplace_84_1 : aplace Try.prog 84 1 = some (1, 1) := by kernel_rfl
@[simp] theorem tfield_84_2 : tfield Try.prog 84 2 = some (2, 76) := by kernel_rfl
@[simp] theorem tplace_84_2 : aplace Try.prog 84 2 = some (2, 1) := by kernel_rfl
@[simp] theorem tfield_84_3 : tfield Try.prog 84 3 = some (3, 77) := by kernel_rfl
@[simp] theorem tplace_84_3 : aplace Try.prog 84 3 = some (3, 1) := by kernel_rfl
@[simp] theorem tfield_84_4 : tfield Try.prog 84 4 = some (4, 5) := by kernel_rfl
@[simp] theorem tplace_84_4 : aplace Try.prog 84 4 = some (4, 1) := by kernel_rfl
@[simp] theorem tfield_84_5 : tfield Try.prog 84 5 = some (5, 5) := by kernel_rfl
@[simp] theorem tplace_84_5 : aplace Try.prog 84 5 = some (5, 1) := by kernel_rfl
@[simp] theorem tfield_84_6 : tfield Try.prog 84 6 = some (6, 78) := by kernel_rfl
@[simp] theorem tplace_84_6 : aplace Try.prog 84 6 = some (6, 1) := by kernel_rfl
@[simp] theorem tfield_84_7 : tfield Try.prog 84 7 = some (7, 79) := by kernel_rfl
@[simp] theorem tplace_84_7 : aplace Try.prog 84 7 = some (7, 1) := by kernel_rfl
@[simp] theorem tfield_84_8 : tfield Try.prog 84 8 = some (8, 80) := by kernel_rfl
@[simp] theorem tplace_84_8 : aplace Try.prog 84 8 = some (8, 1) := by kernel_rfl
@[simp] theorem tfield_84_9 : tfield Try.prog 84 9 = some (9, 81) := by kernel_rfl
@[simp] theorem tplace_84_9 : aplace Try.prog 84 9 = some (9, 1) := by kernel_rfl
@[simp] theorem tfield_84_10 : tfield Try.prog 84 10 = some (10, 82) := by kernel_rfl
@[simp] theorem tplace_84_10 : aplace Try.prog 84 10 = some (10, 1) := by kernel_rfl
@[simp] theorem tun_85 : (Try.prog.underlying 85).isSome = true := by kernel_rfl
@[simp] theorem tagg_85 : tagg Try.prog 85 = some false := by kernel_rfl
@[simp] theorem tsize_85 : tsize Try.prog 85 = some 1 := by kernel_rfl
@[simp] theorem tzero_85 : tzero Try.prog 85 = some (.pointer none) := by kernel_rfl
@[simp] theorem can_3 : canCall Try.prog 3 = true := by kernel_rfl
@[simp] theorem can_4 : canCall Try.prog 4 = true := by kernel_rfl
@[simp] theorem can_5 : canCall Try.prog 5 = true := by kernel_rfl
@[simp] theorem can_6 : canCall Try.prog 6 = true := by kernel_rfl
@[simp] theorem can_7 : canCall Try.prog 7 = true := by kernel_rfl
@[simp] theorem can_8 : canCall Try.prog 8 = true := by kernel_rfl
@[simp] theorem can_9 : canCall Try.prog 9 = true := by kernel_rfl
@[simp] theorem can_10 : canCall Try.prog 10 = true := by kernel_rfl
@[simp] theorem can_11 : canCall Try.prog 11 = true := by kernel_rfl
@[simp] theorem can_12 : canCall Try.prog 12 = true := by kernel_rfl
@[simp] theorem can_13 : canCall Try.prog 13 = true := by kernel_rfl
@[simp] theorem can_14 : canCall Try.prog 14 = true := by kernel_rfl
@[simp] theorem can_15 : canCall Try.prog 15 = true := by kernel_rfl
@[simp] theorem can_16 : canCall Try.prog 16 = true := by kernel_rfl
@[simp] theorem can_17 : canCall Try.prog 17 = true := by kernel_rfl
@[simp] theorem can_18 : canCall Try.prog 18 = true := by kernel_rfl
@[simp] theorem can_19 : canCall Try.prog 19 = true := by kernel_rfl
@[simp] theorem can_20 : canCall Try.prog 20 = true := by kernel_rfl
@[simp] theorem can_21 : canCall Try.prog 21 = true := by kernel_rfl
@[simp] theorem can_22 : canCall Try.prog 22 = true := by kernel_rfl
@[simp] theorem can_23 : canCall Try.prog 23 = true := by kernel_rfl
@[simp] theorem can_24 : canCall Try.prog 24 = true := by kernel_rfl
@[simp] theorem can_25 : canCall Try.prog 25 = true := by kernel_rfl
@[simp] theorem can_26 : canCall Try.prog 26 = true := by kernel_rfl
@[simp] theorem can_27 : canCall Try.prog 27 = true := by kernel_rfl
@[simp] theorem can_28 : canCall Try.prog 28 = true := by kernel_rfl
@[simp] theorem can_29 : canCall Try.prog 29 = true := by kernel_rfl
@[simp] theorem can_30 : canCall Try.prog 30 = true := by kernel_rfl
@[simp] theorem can_31 : canCall Try.prog 31 = true := by kernel_rfl
@[simp] theorem can_32 : canCall Try.prog 32 = true := by kernel_rfl
@[simp] theorem can_33 : canCall Try.prog 33 = true := by kernel_rfl
@[simp] theorem can_34 : canCall Try.prog 34 = true := by kernel_rfl
@[simp] theorem can_35 : canCall Try.prog 35 = true := by kernel_rfl
@[simp] theorem can_36 : canCall Try.prog 36 = true := by kernel_rfl
@[simp] theorem can_37 : canCall Try.prog 37 = true := by kernel_rfl
@[simp] theorem can_38 : canCall Try.prog 38 = true := by kernel_rfl
@[simp] theorem can_39 : canCall Try.prog 39 = true := by kernel_rfl
@[simp] theorem can_40 : canCall Try.prog 40 = true := by kernel_rfl
@[simp] theorem can_41 : canCall Try.prog 41 = true := by kernel_rfl
@[simp] theorem can_42 : canCall Try.prog 42 = true := by kernel_rfl
end Go.Proofs.Ytdcblangeonhpaa
