/-
  The abstract code of the program's functions, by program: part 0.
  Conditions: those that stand ahead of each theorem; no more.
-/
import Derived.Test.YtblnejkfaniljaaGreatDoorT16

section
namespace Go.Abs
open Go
/-- math/bits.Len -/
def c_bits_Len : CC :=
.seq (.reg none [
 o 2 (.mv (.c (.int .i64 0)))] [0]) (
.seq (.cond (.c (.bool false)) (.seq (.reg none [
 o 3 (.mv (.t 0)),
 o 4 (.conv .u32 (.t 3)),
 o 5 (.call n_bits_Len32 [.t 4]),
 o 2 (.mv (.t 5))] [2]) (
.ret)) (
.skip)) (
.seq (.reg none [
 o 6 (.mv (.t 0)),
 o 7 (.call n_bits_Len64 [.t 6]),
 o 2 (.mv (.t 7))] [2]) (
.ret)))
def r_bits_Len : List RD := [.tmp 2]
theorem k_bits_Len : chkFn Pg n_bits_Len c_bits_Len r_bits_Len 1 = true := by kernel_rfl
/-- math/bits.Mul32 -/
def c_bits_Mul32 : CC :=
.seq (.reg none [
 o 4 (.mv (.c (.int .u32 0))),
 o 5 (.mv (.c (.int .u32 0)))] [0, 1]) (
.seq (.reg none [
 o 7 (.mv (.t 0)),
 o 8 (.conv .u64 (.t 7)),
 o 9 (.mv (.t 1)),
 o 10 (.conv .u64 (.t 9)),
 o 11 (.bin .mul (.t 8) (.t 10)),
 o 6 (.mv (.t 11))] [6]) (
.seq (.reg none [
 o 12 (.mv (.t 6)),
 o 13 (.bin .shr (.t 12) (.c (.int .u64 32))),
 o 14 (.conv .u32 (.t 13)),
 o 15 (.mv (.t 6)),
 o 16 (.conv .u32 (.t 15)),
 o 4 (.mv (.t 14)),
 o 5 (.mv (.t 16))] [4, 5]) (
.ret)))
def r_bits_Mul32 : List RD := [.tmp 4, .tmp 5]
theorem k_bits_Mul32 : chkFn Pg n_bits_Mul32 c_bits_Mul32 r_bits_Mul32 2 = true := by kernel_rfl
/-- quitclaim/bundle.Sorted -/
def c_bundle_Sorted : CC :=
.seq (.reg none [
 o 2 (.mv (.c (.sl 39 [] .full))),
 o 3 (.mv (.c (.int .i64 0)))] [0]) (
.seq (.reg none [
 o 21 (.mkmap),
 o 4 (.mv (.t 21))] [0, 4]) (
.seq (.reg none [
 o 5 (.alloc (.sl 32 [] .full))] [0, 4, 5]) (
.seq (.seq (.reg none [
 o 22 (.mv (.t 0)),
 o 23 (.len 1 (.t 22)),
 o 24 (.mv (.c (.int .i64 0)))] [4, 5, 22, 23, 24]) (
.block 0 (
.wk (.loop (.wk (
.seq (.reg none [
 o 25 (.bin .lss (.t 24) (.t 23))] [4, 5, 22, 23, 24, 25]) (
.seq (.cond (.t 25) (.skip) (
.exit 0)) (
.seq (.block 1 (
.seq (.reg none [
 o 26 (.iaddr 39 (.t 22) (.t 24)),
 o 27 (.load 39 true (.t 26)),
 o 7 (.alloc (.agg [.sl 32 [] .full, .agg [.int .u8 0, .int .u8 0, .int .u8 0, .int .u8 0, .int .u8 0, .int .u8 0, .int .u8 0, .int .u8 0, .int .u8 0, .int .u8 0, .int .u8 0, .int .u8 0, .int .u8 0, .int .u8 0, .int .u8 0, .int .u8 0, .int .u8 0, .int .u8 0, .int .u8 0, .int .u8 0, .int .u8 0, .int .u8 0, .int .u8 0, .int .u8 0, .int .u8 0, .int .u8 0, .int .u8 0, .int .u8 0, .int .u8 0, .int .u8 0, .int .u8 0, .int .u8 0], .str [], .sl 39 [] .full, .agg [.int .i64 0, .sl 32 [] .full, .sl 32 [] .full, .sl 32 [] .full]])),
 e (.store 39 (.t 7) (.t 27))] [4, 5, 7, 22, 23, 24]) (
.seq (.reg none [
 o 29 (.load 39 true (.t 7)),
 o 30 (.call n_patch_Id [.t 29]),
 o 28 (.mv (.t 30)),
 o 31 (.extract 0 (.t 28)),
 o 32 (.extract 1 (.t 28)),
 o 8 (.alloc (.agg [.int .u8 0, .int .u8 0, .int .u8 0, .int .u8 0, .int .u8 0, .int .u8 0, .int .u8 0, .int .u8 0, .int .u8 0, .int .u8 0, .int .u8 0, .int .u8 0, .int .u8 0, .int .u8 0, .int .u8 0, .int .u8 0, .int .u8 0, .int .u8 0, .int .u8 0, .int .u8 0, .int .u8 0, .int .u8 0, .int .u8 0, .int .u8 0, .int .u8 0, .int .u8 0, .int .u8 0, .int .u8 0, .int .u8 0, .int .u8 0, .int .u8 0, .int .u8 0])),
 e (.store 32 (.t 8) (.t 31)),
 o 9 (.mv (.t 32))] [4, 5, 7, 8, 9, 22, 23, 24]) (
.seq (.seq (.reg none [
 o 33 (.mv (.t 9)),
 o 34 (.bin .neq (.t 33) (.c (.int .i64 0)))] [4, 5, 7, 8, 9, 22, 23, 24, 34]) (
.cond (.t 34) (.seq (.reg none [
 o 35 (.mv (.t 9)),
 o 2 (.mv (.c (.sl 39 [] .full))),
 o 3 (.mv (.t 35))] [2, 3]) (
.ret)) (
.skip))) (
.seq (.reg none [
 o 37 (.mv (.t 4)),
 o 38 (.load 32 true (.t 8)),
 o 39 (.lookup (.arr 32 (.int .u8)) true (.agg [.sl 32 [] .full, .agg [.int .u8 0, .int .u8 0, .int .u8 0, .int .u8 0, .int .u8 0, .int .u8 0, .int .u8 0, .int .u8 0, .int .u8 0, .int .u8 0, .int .u8 0, .int .u8 0, .int .u8 0, .int .u8 0, .int .u8 0, .int .u8 0, .int .u8 0, .int .u8 0, .int .u8 0, .int .u8 0, .int .u8 0, .int .u8 0, .int .u8 0, .int .u8 0, .int .u8 0, .int .u8 0, .int .u8 0, .int .u8 0, .int .u8 0, .int .u8 0, .int .u8 0, .int .u8 0], .str [], .sl 39 [] .full, .agg [.int .i64 0, .sl 32 [] .full, .sl 32 [] .full, .sl 32 [] .full]]) (.t 37) (.t 38)),
 o 36 (.mv (.t 39)),
 o 40 (.extract 0 (.t 36)),
 o 41 (.extract 1 (.t 36)),
 o 10 (.alloc (.agg [.sl 32 [] .full, .agg [.int .u8 0, .int .u8 0, .int .u8 0, .int .u8 0, .int .u8 0, .int .u8 0, .int .u8 0, .int .u8 0, .int .u8 0, .int .u8 0, .int .u8 0, .int .u8 0, .int .u8 0, .int .u8 0, .int .u8 0, .int .u8 0, .int .u8 0, .int .u8 0, .int .u8 0, .int .u8 0, .int .u8 0, .int .u8 0, .int .u8 0, .int .u8 0, .int .u8 0, .int .u8 0, .int .u8 0, .int .u8 0, .int .u8 0, .int .u8 0, .int .u8 0, .int .u8 0], .str [], .sl 39 [] .full, .agg [.int .i64 0, .sl 32 [] .full, .sl 32 [] .full, .sl 32 [] .full]])),
 e (.store 39 (.t 10) (.t 40)),
 o 11 (.mv (.t 41))] [4, 5, 7, 8, 11, 22, 23, 24]) (
.seq (.reg none [
 o 42 (.mv (.t 11)),
 o 43 (.not (.t 42))] [4, 5, 7, 8, 22, 23, 24, 43]) (
.cond (.t 43) (.seq (.reg none [
 o 44 (.mv (.t 4)),
 o 45 (.load 32 true (.t 8)),
 o 46 (.load 39 true (.t 7)),
 e (.mapup (.arr 32 (.int .u8)) (.t 44) (.t 45) (.t 46))] [4, 5, 8, 22, 23, 24]) (
.reg none [
 o 47 (.load 1 false (.t 5)),
 o 48 (.load 32 true (.t 8)),
 o 49 (.lit 32 (.agg [.int .u8 0, .int .u8 0, .int .u8 0, .int .u8 0, .int .u8 0, .int .u8 0, .int .u8 0, .int .u8 0, .int .u8 0, .int .u8 0, .int .u8 0, .int .u8 0, .int .u8 0, .int .u8 0, .int .u8 0, .int .u8 0, .int .u8 0, .int .u8 0, .int .u8 0, .int .u8 0, .int .u8 0, .int .u8 0, .int .u8 0, .int .u8 0, .int .u8 0, .int .u8 0, .int .u8 0, .int .u8 0, .int .u8 0, .int .u8 0, .int .u8 0, .int .u8 0]) 1 [(0, .t 48)]),
 o 50 (.append 32 32 (.t 47) (.t 49)),
 e (.store 1 (.t 5) (.t 50))] [4, 5, 22, 23, 24])) (
.skip)))))))) (
.reg none [
 o 51 (.bin .add (.t 24) (.c (.int .i64 1))),
 o 24 (.mv (.t 51))] [4, 5, 22, 23, 24]))))))))) (
.seq (.reg none [
 o 52 (.load 1 false (.t 5)),
 o 53 (.call n_id_Sort [.t 52]),
 e (.store 1 (.t 5) (.t 53))] [4, 5]) (
.seq (.reg none [
 o 54 (.mkfn n_bundle_Sorted_1 [] [.t 5]),
 o 12 (.mv (.t 54))] [4, 5, 12]) (
.seq (.reg none [
 o 13 (.mv (.c (.sl 33 [] .full)))] [4, 5, 12, 13]) (
.seq (.seq (.reg none [
 o 55 (.load 1 false (.t 5)),
 o 56 (.len 1 (.t 55)),
 o 57 (.mv (.c (.int .i64 0)))] [4, 12, 13, 55, 56, 57]) (
.block 2 (
.wk (.loop (.wk (
.seq (.reg none [
 o 58 (.bin .lss (.t 57) (.t 56))] [4, 12, 13, 55, 56, 57, 58]) (
.seq (.cond (.t 58) (.skip) (
.exit 2)) (
.seq (.block 3 (
.seq (.reg none [
 o 59 (.iaddr 32 (.t 55) (.t 57)),
 o 60 (.load 32 true (.t 59)),
 o 15 (.alloc (.agg [.int .u8 0, .int .u8 0, .int .u8 0, .int .u8 0, .int .u8 0, .int .u8 0, .int .u8 0, .int .u8 0, .int .u8 0, .int .u8 0, .int .u8 0, .int .u8 0, .int .u8 0, .int .u8 0, .int .u8 0, .int .u8 0, .int .u8 0, .int .u8 0, .int .u8 0, .int .u8 0, .int .u8 0, .int .u8 0, .int .u8 0, .int .u8 0, .int .u8 0, .int .u8 0, .int .u8 0, .int .u8 0, .int .u8 0, .int .u8 0, .int .u8 0, .int .u8 0])),
 e (.store 32 (.t 15) (.t 60))] [4, 12, 13, 15, 55, 56, 57]) (
.reg (some 9) [
 o 61 (.mv (.t 13)),
 o 62 (.load 32 true (.t 15)),
 o 63 (.mv (.t 12)),
 o 64 (.mv (.t 4)),
 o 65 (.load 32 true (.t 15)),
 o 66 (.lookup (.arr 32 (.int .u8)) false (.agg [.sl 32 [] .full, .agg [.int .u8 0, .int .u8 0, .int .u8 0, .int .u8 0, .int .u8 0, .int .u8 0, .int .u8 0, .int .u8 0, .int .u8 0, .int .u8 0, .int .u8 0, .int .u8 0, .int .u8 0, .int .u8 0, .int .u8 0, .int .u8 0, .int .u8 0, .int .u8 0, .int .u8 0, .int .u8 0, .int .u8 0, .int .u8 0, .int .u8 0, .int .u8 0, .int .u8 0, .int .u8 0, .int .u8 0, .int .u8 0, .int .u8 0, .int .u8 0, .int .u8 0, .int .u8 0], .str [], .sl 39 [] .full, .agg [.int .i64 0, .sl 32 [] .full, .sl 32 [] .full, .sl 32 [] .full]]) (.t 64) (.t 65)),
 o 67 (.callv (.t 63) [.t 66]),
 o 68 (.build [.agg [.int .u8 0, .int .u8 0, .int .u8 0, .int .u8 0, .int .u8 0, .int .u8 0, .int .u8 0, .int .u8 0, .int .u8 0, .int .u8 0, .int .u8 0, .int .u8 0, .int .u8 0, .int .u8 0, .int .u8 0, .int .u8 0, .int .u8 0, .int .u8 0, .int .u8 0, .int .u8 0, .int .u8 0, .int .u8 0, .int .u8 0, .int .u8 0, .int .u8 0, .int .u8 0, .int .u8 0, .int .u8 0, .int .u8 0, .int .u8 0, .int .u8 0, .int .u8 0], .sl 32 [] .full] [(0, .t 62), (1, .t 67)]),
 o 69 (.lit 33 (.agg [.agg [.int .u8 0, .int .u8 0, .int .u8 0, .int .u8 0, .int .u8 0, .int .u8 0, .int .u8 0, .int .u8 0, .int .u8 0, .int .u8 0, .int .u8 0, .int .u8 0, .int .u8 0, .int .u8 0, .int .u8 0, .int .u8 0, .int .u8 0, .int .u8 0, .int .u8 0, .int .u8 0, .int .u8 0, .int .u8 0, .int .u8 0, .int .u8 0, .int .u8 0, .int .u8 0, .int .u8 0, .int .u8 0, .int .u8 0, .int .u8 0, .int .u8 0, .int .u8 0], .sl 32 [] .full]) 1 [(0, .t 68)]),
 o 70 (.append 33 56 (.t 61) (.t 69)),
 o 13 (.mv (.t 70))] [4, 12, 13, 55, 56, 57]))) (
.reg none [
 o 71 (.bin .add (.t 57) (.c (.int .i64 1))),
 o 57 (.mv (.t 71))] [4, 12, 13, 55, 56, 57]))))))))) (
.seq (.reg none [
 o 73 (.mv (.t 13)),
 o 74 (.call n_graph_New [.t 73]),
 o 72 (.mv (.t 74)),
 o 75 (.extract 0 (.t 72)),
 o 76 (.extract 1 (.t 72)),
 o 16 (.mv (.t 75)),
 o 17 (.mv (.t 76))] [4, 16, 17]) (
.seq (.seq (.reg none [
 o 77 (.mv (.t 17)),
 o 78 (.bin .neq (.t 77) (.c (.int .i64 0)))] [4, 16, 17, 78]) (
.cond (.t 78) (.seq (.reg none [
 o 79 (.mv (.t 17)),
 o 2 (.mv (.c (.sl 39 [] .full))),
 o 3 (.mv (.t 79))] [2, 3]) (
.ret)) (
.skip))) (
.seq (.reg none [
 o 18 (.mv (.c (.sl 39 [] .full)))] [4, 16, 18]) (
.seq (.seq (.reg none [
 o 80 (.mv (.t 16)),
 o 81 (.call n_graph_Graph_Order [.t 80]),
 o 82 (.len 1 (.t 81)),
 o 83 (.mv (.c (.int .i64 0)))] [4, 18, 81, 82, 83]) (
.block 4 (
.wk (.loop (.wk (
.seq (.reg none [
 o 84 (.bin .lss (.t 83) (.t 82))] [4, 18, 81, 82, 83, 84]) (
.seq (.cond (.t 84) (.skip) (
.exit 4)) (
.seq (.block 5 (
.seq (.reg none [
 o 85 (.iaddr 32 (.t 81) (.t 83)),
 o 86 (.load 32 true (.t 85)),
 o 20 (.alloc (.agg [.int .u8 0, .int .u8 0, .int .u8 0, .int .u8 0, .int .u8 0, .int .u8 0, .int .u8 0, .int .u8 0, .int .u8 0, .int .u8 0, .int .u8 0, .int .u8 0, .int .u8 0, .int .u8 0, .int .u8 0, .int .u8 0, .int .u8 0, .int .u8 0, .int .u8 0, .int .u8 0, .int .u8 0, .int .u8 0, .int .u8 0, .int .u8 0, .int .u8 0, .int .u8 0, .int .u8 0, .int .u8 0, .int .u8 0, .int .u8 0, .int .u8 0, .int .u8 0])),
 e (.store 32 (.t 20) (.t 86))] [4, 18, 20, 81, 82, 83]) (
.reg none [
 o 87 (.mv (.t 18)),
 o 88 (.mv (.t 4)),
 o 89 (.load 32 true (.t 20)),
 o 90 (.lookup (.arr 32 (.int .u8)) false (.agg [.sl 32 [] .full, .agg [.int .u8 0, .int .u8 0, .int .u8 0, .int .u8 0, .int .u8 0, .int .u8 0, .int .u8 0, .int .u8 0, .int .u8 0, .int .u8 0, .int .u8 0, .int .u8 0, .int .u8 0, .int .u8 0, .int .u8 0, .int .u8 0, .int .u8 0, .int .u8 0, .int .u8 0, .int .u8 0, .int .u8 0, .int .u8 0, .int .u8 0, .int .u8 0, .int .u8 0, .int .u8 0, .int .u8 0, .int .u8 0, .int .u8 0, .int .u8 0, .int .u8 0, .int .u8 0], .str [], .sl 39 [] .full, .agg [.int .i64 0, .sl 32 [] .full, .sl 32 [] .full, .sl 32 [] .full]]) (.t 88) (.t 89)),
 o 91 (.call n_patch_Clone [.t 90]),
 o 92 (.lit 39 (.agg [.sl 32 [] .full, .agg [.int .u8 0, .int .u8 0, .int .u8 0, .int .u8 0, .int .u8 0, .int .u8 0, .int .u8 0, .int .u8 0, .int .u8 0, .int .u8 0, .int .u8 0, .int .u8 0, .int .u8 0, .int .u8 0, .int .u8 0, .int .u8 0, .int .u8 0, .int .u8 0, .int .u8 0, .int .u8 0, .int .u8 0, .int .u8 0, .int .u8 0, .int .u8 0, .int .u8 0, .int .u8 0, .int .u8 0, .int .u8 0, .int .u8 0, .int .u8 0, .int .u8 0, .int .u8 0], .str [], .sl 39 [] .full, .agg [.int .i64 0, .sl 32 [] .full, .sl 32 [] .full, .sl 32 [] .full]]) 1 [(0, .t 91)]),
 o 93 (.append 39 176 (.t 87) (.t 92)),
 o 18 (.mv (.t 93))] [4, 18, 81, 82, 83]))) (
.reg none [
 o 94 (.bin .add (.t 83) (.c (.int .i64 1))),
 o 83 (.mv (.t 94))] [4, 18, 81, 82, 83]))))))))) (
.seq (.reg none [
 o 95 (.mv (.t 18)),
 o 2 (.mv (.t 95)),
 o 3 (.mv (.c (.int .i64 0)))] [2, 3]) (
.ret)))))))))))))
def r_bundle_Sorted : List RD := [.tmp 2, .tmp 3]
theorem k_bundle_Sorted : chkFn Pg n_bundle_Sorted c_bundle_Sorted r_bundle_Sorted 1 = true := by kernel_rfl
/-- quitclaim/id.Minus$1 -/
def c_id_Minus_1 : CC :=
.seq (.reg none [
 o 4 (.mv (.c (.bool false)))] [0, 1]) (
.seq (.reg none [
 o 5 (.mv (.t 0)),
 o 6 (.mv (.t 5)),
 g 7 (.mv (.t 1)) 6 true,
 g 8 (.not (.t 7)) 6 true,
 o 9 (.pick (.t 6) (.t 8) (.c (.bool false))),
 o 4 (.mv (.t 9))] [4]) (
.ret))
def r_id_Minus_1 : List RD := [.tmp 4]
theorem k_id_Minus_1 : chkFn Pg n_id_Minus_1 c_id_Minus_1 r_id_Minus_1 2 = true := by kernel_rfl
/-- quitclaim/id.merge -/
def c_id_merge : CC :=
.seq (.reg none [
 o 6 (.mv (.c (.sl 32 [] .full)))] [0, 1, 2]) (
.seq (.reg none [
 o 7 (.mv (.c (.sl 32 [] .full)))] [0, 1, 2, 7]) (
.seq (.block 0 (
.wk (.loop (.wk (
.seq (.seq (.reg none [
 o 11 (.mv (.t 0)),
 o 12 (.len 1 (.t 11)),
 o 13 (.bin .gtr (.t 12) (.c (.int .i64 0))),
 o 14 (.mv (.t 13)),
 g 15 (.mv (.t 1)) 14 false,
 g 16 (.len 1 (.t 15)) 14 false,
 g 17 (.bin .gtr (.t 16) (.c (.int .i64 0))) 14 false,
 o 18 (.pick (.t 14) (.c (.bool true)) (.t 17))] [0, 1, 2, 7, 18]) (
.cond (.t 18) (.skip) (
.exit 0))) (
.block 1 (
.seq (.reg (some 19) [
 o 19 (.mv (.t 0)),
 o 20 (.len 1 (.t 19)),
 o 21 (.bin .gtr (.t 20) (.c (.int .i64 0))),
 o 22 (.mv (.t 21)),
 g 23 (.mv (.t 1)) 22 true,
 g 24 (.len 1 (.t 23)) 22 true,
 g 25 (.bin .eql (.t 24) (.c (.int .i64 0))) 22 true,
 g 26 (.mv (.t 25)) 22 true,
 g 27 (.mv (.t 1)) 26 false,
 g 28 (.iaddr 32 (.t 27) (.c (.int .i64 0))) 26 false,
 g 29 (.load 32 true (.t 28)) 26 false,
 g 30 (.mv (.t 0)) 26 false,
 g 31 (.iaddr 32 (.t 30) (.c (.int .i64 0))) 26 false,
 g 32 (.load 32 true (.t 31)) 26 false,
 g 33 (.call n_id_Less [.t 29, .t 32]) 26 false,
 g 34 (.not (.t 33)) 26 false,
 g 35 (.pick (.t 26) (.c (.bool true)) (.t 34)) 22 true,
 o 36 (.pick (.t 22) (.t 35) (.c (.bool false))),
 o 8 (.mv (.t 36))] [0, 1, 2, 7, 8]) (
.seq (.reg (some 19) [
 o 37 (.mv (.t 1)),
 o 38 (.len 1 (.t 37)),
 o 39 (.bin .gtr (.t 38) (.c (.int .i64 0))),
 o 40 (.mv (.t 39)),
 g 41 (.mv (.t 0)) 40 true,
 g 42 (.len 1 (.t 41)) 40 true,
 g 43 (.bin .eql (.t 42) (.c (.int .i64 0))) 40 true,
 g 44 (.mv (.t 43)) 40 true,
 g 45 (.mv (.t 0)) 44 false,
 g 46 (.iaddr 32 (.t 45) (.c (.int .i64 0))) 44 false,
 g 47 (.load 32 true (.t 46)) 44 false,
 g 48 (.mv (.t 1)) 44 false,
 g 49 (.iaddr 32 (.t 48) (.c (.int .i64 0))) 44 false,
 g 50 (.load 32 true (.t 49)) 44 false,
 g 51 (.call n_id_Less [.t 47, .t 50]) 44 false,
 g 52 (.not (.t 51)) 44 false,
 g 53 (.pick (.t 44) (.c (.bool true)) (.t 52)) 40 true,
 o 54 (.pick (.t 40) (.t 53) (.c (.bool false))),
 o 9 (.mv (.t 54))] [0, 1, 2, 7, 8, 9]) (
.seq (.reg none [
 o 10 (.alloc (.agg [.int .u8 0, .int .u8 0, .int .u8 0, .int .u8 0, .int .u8 0, .int .u8 0, .int .u8 0, .int .u8 0, .int .u8 0, .int .u8 0, .int .u8 0, .int .u8 0, .int .u8 0, .int .u8 0, .int .u8 0, .int .u8 0, .int .u8 0, .int .u8 0, .int .u8 0, .int .u8 0, .int .u8 0, .int .u8 0, .int .u8 0, .int .u8 0, .int .u8 0, .int .u8 0, .int .u8 0, .int .u8 0, .int .u8 0, .int .u8 0, .int .u8 0, .int .u8 0]))] [0, 1, 2, 7, 8, 9, 10]) (
.seq (.seq (.reg none [
 o 55 (.mv (.t 9))] [0, 1, 2, 7, 8, 9, 10, 55]) (
.cond (.t 55) (.regm [
 q 0 0 (o 56 (.mv (.t 1))),
 q 0 0 (o 57 (.iaddr 32 (.t 56) (.c (.int .i64 0)))),
 q 0 0 (o 58 (.load 32 true (.t 57))),
 q 0 1 (o 59 (.mv (.t 1))),
 q 0 1 (o 60 (.slice 32 (.t 59) (some (.c (.int .i64 1))) none)),
 f (e (.store 32 (.t 10) (.t 58))),
 q 1 1 (o 1 (.mv (.t 60)))] [0, 1, 2, 7, 8, 9, 10]) (
.skip))) (
.seq (.seq (.reg none [
 o 61 (.mv (.t 8))] [0, 1, 2, 7, 8, 9, 10, 61]) (
.cond (.t 61) (.regm [
 q 0 0 (o 62 (.mv (.t 0))),
 q 0 0 (o 63 (.iaddr 32 (.t 62) (.c (.int .i64 0)))),
 q 0 0 (o 64 (.load 32 true (.t 63))),
 q 0 1 (o 65 (.mv (.t 0))),
 q 0 1 (o 66 (.slice 32 (.t 65) (some (.c (.int .i64 1))) none)),
 f (e (.store 32 (.t 10) (.t 64))),
 q 1 1 (o 0 (.mv (.t 66)))] [0, 1, 2, 7, 8, 9, 10]) (
.skip))) (
.seq (.reg none [
 o 67 (.mv (.t 2)),
 o 68 (.mv (.t 8)),
 o 69 (.mv (.t 9)),
 o 70 (.callv (.t 67) [.t 68, .t 69])] [0, 1, 2, 7, 10, 70]) (
.cond (.t 70) (.reg none [
 o 71 (.mv (.t 7)),
 o 72 (.load 32 true (.t 10)),
 o 73 (.lit 32 (.agg [.int .u8 0, .int .u8 0, .int .u8 0, .int .u8 0, .int .u8 0, .int .u8 0, .int .u8 0, .int .u8 0, .int .u8 0, .int .u8 0, .int .u8 0, .int .u8 0, .int .u8 0, .int .u8 0, .int .u8 0, .int .u8 0, .int .u8 0, .int .u8 0, .int .u8 0, .int .u8 0, .int .u8 0, .int .u8 0, .int .u8 0, .int .u8 0, .int .u8 0, .int .u8 0, .int .u8 0, .int .u8 0, .int .u8 0, .int .u8 0, .int .u8 0, .int .u8 0]) 1 [(0, .t 72)]),
 o 74 (.append 32 32 (.t 71) (.t 73)),
 o 7 (.mv (.t 74))] [0, 1, 2, 7]) (
.skip)))))))))))))) (
.seq (.reg none [
 o 75 (.mv (.t 7)),
 o 6 (.mv (.t 75))] [6]) (
.ret))))
def r_id_merge : List RD := [.tmp 6]
theorem k_id_merge : chkFn Pg n_id_merge c_id_merge r_id_merge 3 = true := by kernel_rfl
/-- quitclaim/op.Put -/
def c_op_Put : CC :=
.seq (.reg none [
 o 3 (.box (.t 1)),
 o 4 (.mv (.c (.int .i64 0)))] [0, 3]) (
.seq (.seq (.reg none [
 o 6 (.load 39 true (.t 3)),
 o 7 (.call n_op_Right [.t 6]),
 o 5 (.mv (.t 7))] [0, 3, 5]) (
.seq (.reg none [
 o 8 (.mv (.t 5)),
 o 9 (.bin .neq (.t 8) (.c (.int .i64 0)))] [0, 3, 5, 9]) (
.cond (.t 9) (.seq (.reg none [
 o 10 (.mv (.t 5)),
 o 4 (.mv (.t 10))] [4]) (
.ret)) (
.skip)))) (
.seq (.reg none [
 o 11 (.mv (.t 0)),
 o 12 (.faddr 0 0 (.t 3)),
 o 13 (.load 1 false (.t 12)),
 o 14 (.conv .u8 (.t 13)),
 o 15 (.call n_pack_Writer_Byte [.t 11, .t 14])] [0, 3]) (
.seq (.reg none [
 o 16 (.mv (.t 0)),
 o 17 (.faddr 1 1 (.t 3)),
 o 18 (.load 1 false (.t 17)),
 o 19 (.call n_pack_Writer_Text [.t 16, .t 18])] [0, 3]) (
.seq (.seq (.reg none [
 o 20 (.faddr 0 0 (.t 3)),
 o 21 (.load 1 false (.t 20))] [0, 3, 21]) (
.block 0 (
.seq (.reg none [
 o 23 (.bin .eql (.t 21) (.c (.int .i64 2))),
 o 22 (.mv (.t 23))] [0, 3, 21, 22]) (
.cond (.t 22) (.reg none [
 o 24 (.mv (.t 0)),
 o 25 (.faddr 4 4 (.t 3)),
 o 26 (.load 1 false (.t 25)),
 o 27 (.call n_pack_Writer_Texts [.t 24, .t 26])] []) (
.seq (.reg none [
 o 29 (.bin .eql (.t 21) (.c (.int .i64 3))),
 o 28 (.mv (.t 29))] [0, 3, 21, 28]) (
.cond (.t 28) (.seq (.reg none [
 o 30 (.mv (.t 0)),
 o 31 (.faddr 3 3 (.t 3)),
 o 32 (.load 1 false (.t 31)),
 o 33 (.call n_pack_Writer_Num [.t 30, .t 32])] [0, 3]) (
.seq (.reg none [
 o 34 (.mv (.t 0)),
 o 35 (.faddr 4 4 (.t 3)),
 o 36 (.load 1 false (.t 35)),
 o 37 (.call n_pack_Writer_Texts [.t 34, .t 36])] [0, 3]) (
.reg none [
 o 38 (.mv (.t 0)),
 o 39 (.faddr 5 5 (.t 3)),
 o 40 (.load 1 false (.t 39)),
 o 41 (.call n_pack_Writer_Texts [.t 38, .t 40])] []))) (
.seq (.reg none [
 o 43 (.bin .eql (.t 21) (.c (.int .i64 4))),
 o 42 (.mv (.t 43))] [0, 3, 21, 42]) (
.cond (.t 42) (.reg none [
 o 44 (.mv (.t 0)),
 o 45 (.faddr 2 2 (.t 3)),
 o 46 (.load 1 false (.t 45)),
 o 47 (.call n_pack_Writer_Text [.t 44, .t 46])] []) (
.seq (.reg none [
 o 49 (.bin .eql (.t 21) (.c (.int .i64 5))),
 o 48 (.mv (.t 49))] [0, 3, 21, 48]) (
.cond (.t 48) (.seq (.reg none [
 o 50 (.mv (.t 0)),
 o 51 (.faddr 6 6 (.t 3)),
 o 52 (.load 32 true (.t 51)),
 o 53 (.call n_pack_Writer_Id [.t 50, .t 52])] [0, 3]) (
.reg none [
 o 54 (.mv (.t 0)),
 o 55 (.faddr 7 38 (.t 3)),
 o 56 (.load 1 false (.t 55)),
 o 57 (.call n_pack_Writer_Num [.t 54, .t 56])] [])) (
.seq (.reg none [
 o 59 (.bin .eql (.t 21) (.c (.int .i64 6))),
 o 58 (.mv (.t 59))] [0, 3, 58]) (
.cond (.t 58) (.reg none [
 o 60 (.mv (.t 0)),
 o 61 (.faddr 6 6 (.t 3)),
 o 62 (.load 32 true (.t 61)),
 o 63 (.call n_pack_Writer_Id [.t 60, .t 62])] []) (
.skip))))))))))))) (
.seq (.reg none [
 o 4 (.mv (.c (.int .i64 0)))] [4]) (
.ret))))))
def r_op_Put : List RD := [.tmp 4]
theorem k_op_Put : chkFn Pg n_op_Put c_op_Put r_op_Put 2 = true := by kernel_rfl
/-- (*quitclaim/pack.Writer).Texts -/
def c_pack_Writer_Texts : CC :=
.seq (.reg none [
 o 6 (.mv (.t 0)),
 o 7 (.mv (.t 1)),
 o 8 (.len 1 (.t 7)),
 o 9 (.call n_pack_Writer_Num [.t 6, .t 8])] [0, 1]) (
.seq (.reg none [
 o 10 (.mv (.t 1)),
 o 11 (.len 1 (.t 10)),
 o 12 (.mv (.c (.int .i64 0)))] [0, 10, 11, 12]) (
.block 0 (
.wk (.loop (.wk (
.seq (.reg none [
 o 13 (.bin .lss (.t 12) (.t 11))] [0, 10, 11, 12, 13]) (
.seq (.cond (.t 13) (.skip) (
.exit 0)) (
.seq (.block 1 (
.seq (.reg none [
 o 14 (.iaddr 1 (.t 10) (.t 12)),
 o 15 (.load 1 false (.t 14)),
 o 5 (.mv (.t 15))] [0, 5, 10, 11, 12]) (
.reg none [
 o 16 (.mv (.t 0)),
 o 17 (.mv (.t 5)),
 o 18 (.call n_pack_Writer_Text [.t 16, .t 17])] [0, 10, 11, 12]))) (
.reg none [
 o 19 (.bin .add (.t 12) (.c (.int .i64 1))),
 o 12 (.mv (.t 19))] [0, 10, 11, 12])))))))))
def r_pack_Writer_Texts : List RD := []
theorem k_pack_Writer_Texts : chkFn Pg n_pack_Writer_Texts c_pack_Writer_Texts r_pack_Writer_Texts 2 = true := by kernel_rfl
/-- quitclaim/patch.Clone -/
def c_patch_Clone : CC :=
.seq (.reg none [
 o 1 (.box (.t 0)),
 o 2 (.alloc (.agg [.sl 32 [] .full, .agg [.int .u8 0, .int .u8 0, .int .u8 0, .int .u8 0, .int .u8 0, .int .u8 0, .int .u8 0, .int .u8 0, .int .u8 0, .int .u8 0, .int .u8 0, .int .u8 0, .int .u8 0, .int .u8 0, .int .u8 0, .int .u8 0, .int .u8 0, .int .u8 0, .int .u8 0, .int .u8 0, .int .u8 0, .int .u8 0, .int .u8 0, .int .u8 0, .int .u8 0, .int .u8 0, .int .u8 0, .int .u8 0, .int .u8 0, .int .u8 0, .int .u8 0, .int .u8 0], .str [], .sl 39 [] .full, .agg [.int .i64 0, .sl 32 [] .full, .sl 32 [] .full, .sl 32 [] .full]]))] [1, 2]) (
.seq (.reg none [
 o 6 (.faddr 0 0 (.t 1)),
 o 7 (.load 1 false (.t 6)),
 o 8 (.call n_slices_Clone_Id [.t 7]),
 o 9 (.faddr 0 0 (.t 1)),
 e (.store 1 (.t 9) (.t 8))] [1, 2]) (
.seq (.reg none [
 o 3 (.mv (.c (.sl 39 [] .full)))] [1, 2, 3]) (
.seq (.seq (.reg none [
 o 10 (.faddr 3 34 (.t 1)),
 o 11 (.load 1 false (.t 10)),
 o 12 (.len 1 (.t 11)),
 o 13 (.mv (.c (.int .i64 0)))] [1, 2, 3, 11, 12, 13]) (
.block 0 (
.wk (.loop (.wk (
.seq (.reg none [
 o 14 (.bin .lss (.t 13) (.t 12))] [1, 2, 3, 11, 12, 13, 14]) (
.seq (.cond (.t 14) (.skip) (
.exit 0)) (
.seq (.block 1 (
.seq (.reg none [
 o 15 (.iaddr 39 (.t 11) (.t 13)),
 o 16 (.load 39 true (.t 15)),
 o 5 (.alloc (.agg [.int .i64 0, .str [], .str [], .int .i64 0, .sl 1 [] .full, .sl 1 [] .full, .agg [.int .u8 0, .int .u8 0, .int .u8 0, .int .u8 0, .int .u8 0, .int .u8 0, .int .u8 0, .int .u8 0, .int .u8 0, .int .u8 0, .int .u8 0, .int .u8 0, .int .u8 0, .int .u8 0, .int .u8 0, .int .u8 0, .int .u8 0, .int .u8 0, .int .u8 0, .int .u8 0, .int .u8 0, .int .u8 0, .int .u8 0, .int .u8 0, .int .u8 0, .int .u8 0, .int .u8 0, .int .u8 0, .int .u8 0, .int .u8 0, .int .u8 0, .int .u8 0], .int .i64 0])),
 e (.store 39 (.t 5) (.t 16))] [1, 2, 3, 5, 11, 12, 13]) (
.reg none [
 o 17 (.mv (.t 3)),
 o 18 (.load 39 true (.t 5)),
 o 19 (.call n_op_Clone [.t 18]),
 o 20 (.lit 39 (.agg [.int .i64 0, .str [], .str [], .int .i64 0, .sl 1 [] .full, .sl 1 [] .full, .agg [.int .u8 0, .int .u8 0, .int .u8 0, .int .u8 0, .int .u8 0, .int .u8 0, .int .u8 0, .int .u8 0, .int .u8 0, .int .u8 0, .int .u8 0, .int .u8 0, .int .u8 0, .int .u8 0, .int .u8 0, .int .u8 0, .int .u8 0, .int .u8 0, .int .u8 0, .int .u8 0, .int .u8 0, .int .u8 0, .int .u8 0, .int .u8 0, .int .u8 0, .int .u8 0, .int .u8 0, .int .u8 0, .int .u8 0, .int .u8 0, .int .u8 0, .int .u8 0], .int .i64 0]) 1 [(0, .t 19)]),
 o 21 (.append 39 136 (.t 17) (.t 20)),
 o 3 (.mv (.t 21))] [1, 2, 3, 11, 12, 13]))) (
.reg none [
 o 22 (.bin .add (.t 13) (.c (.int .i64 1))),
 o 13 (.mv (.t 22))] [1, 2, 3, 11, 12, 13]))))))))) (
.seq (.reg none [
 o 23 (.mv (.t 3)),
 o 24 (.faddr 3 34 (.t 1)),
 e (.store 1 (.t 24) (.t 23))] [1, 2]) (
.seq (.reg (some 14) [
 o 25 (.faddr 4 35 (.t 1)),
 o 26 (.faddr 1 1 (.t 25)),
 o 27 (.load 1 false (.t 26)),
 o 28 (.call n_slices_Clone_Id [.t 27]),
 o 29 (.faddr 4 35 (.t 1)),
 o 30 (.faddr 2 2 (.t 29)),
 o 31 (.load 1 false (.t 30)),
 o 32 (.call n_slices_Clone_Id [.t 31]),
 o 33 (.faddr 4 35 (.t 1)),
 o 34 (.faddr 3 3 (.t 33)),
 o 35 (.load 1 false (.t 34)),
 o 36 (.call n_slices_Clone_Id [.t 35]),
 o 37 (.faddr 4 35 (.t 1)),
 o 38 (.faddr 1 1 (.t 37)),
 e (.store 1 (.t 38) (.t 28)),
 o 39 (.faddr 4 35 (.t 1)),
 o 40 (.faddr 2 2 (.t 39)),
 e (.store 1 (.t 40) (.t 32)),
 o 41 (.faddr 4 35 (.t 1)),
 o 42 (.faddr 3 3 (.t 41)),
 e (.store 1 (.t 42) (.t 36))] [1, 2]) (
.seq (.reg none [
 o 43 (.load 39 true (.t 1)),
 e (.store 39 (.t 2) (.t 43))] [2]) (
.ret)))))))
def r_patch_Clone : List RD := [.cell 2 39 true]
theorem k_patch_Clone : chkFn Pg n_patch_Clone c_patch_Clone r_patch_Clone 1 = true := by kernel_rfl
/-- quitclaim/patch.Right -/
def c_patch_Right : CC :=
.seq (.reg none [
 o 1 (.box (.t 0)),
 o 2 (.mv (.c (.int .i64 0)))] [1]) (
.seq (.block 0 (
.seq (.reg none [
 o 7 (.faddr 0 0 (.t 1)),
 o 8 (.load 1 false (.t 7)),
 o 9 (.len 1 (.t 8)),
 o 10 (.bin .gtr (.t 9) (.c (.int .i64 16))),
 o 6 (.mv (.t 10))] [1, 6]) (
.cond (.t 6) (.seq (.reg none [
 o 2 (.mv (.c (.int .i64 4)))] [2]) (
.ret)) (
.seq (.reg none [
 o 12 (.faddr 0 0 (.t 1)),
 o 13 (.load 1 false (.t 12)),
 o 14 (.call n_id_Rises [.t 13]),
 o 15 (.not (.t 14)),
 o 11 (.mv (.t 15))] [1, 11]) (
.cond (.t 11) (.seq (.reg none [
 o 2 (.mv (.c (.int .i64 17)))] [2]) (
.ret)) (
.seq (.reg none [
 o 17 (.faddr 2 33 (.t 1)),
 o 18 (.load 1 false (.t 17)),
 o 19 (.len 0 (.t 18)),
 o 20 (.bin .gtr (.t 19) (.c (.int .i64 400))),
 o 16 (.mv (.t 20))] [1, 16]) (
.cond (.t 16) (.seq (.reg none [
 o 2 (.mv (.c (.int .i64 4)))] [2]) (
.ret)) (
.seq (.reg none [
 o 22 (.faddr 3 34 (.t 1)),
 o 23 (.load 1 false (.t 22)),
 o 24 (.len 1 (.t 23)),
 o 25 (.bin .eql (.t 24) (.c (.int .i64 0))),
 o 21 (.mv (.t 25))] [1, 21]) (
.cond (.t 21) (.seq (.reg none [
 o 2 (.mv (.c (.int .i64 1)))] [2]) (
.ret)) (
.seq (.reg none [
 o 27 (.faddr 3 34 (.t 1)),
 o 28 (.load 1 false (.t 27)),
 o 29 (.len 1 (.t 28)),
 o 30 (.bin .gtr (.t 29) (.c (.int .i64 32))),
 o 26 (.mv (.t 30))] [1, 26]) (
.cond (.t 26) (.seq (.reg none [
 o 2 (.mv (.c (.int .i64 4)))] [2]) (
.ret)) (
.skip)))))))))))) (
.seq (.seq (.reg none [
 o 31 (.faddr 3 34 (.t 1)),
 o 32 (.load 1 false (.t 31)),
 o 33 (.len 1 (.t 32)),
 o 34 (.mv (.c (.int .i64 0)))] [32, 33, 34]) (
.block 1 (
.wk (.loop (.wk (
.seq (.reg none [
 o 35 (.bin .lss (.t 34) (.t 33))] [32, 33, 34, 35]) (
.seq (.cond (.t 35) (.skip) (
.exit 1)) (
.seq (.block 2 (
.seq (.reg none [
 o 36 (.iaddr 39 (.t 32) (.t 34)),
 o 37 (.load 39 true (.t 36)),
 o 4 (.alloc (.agg [.int .i64 0, .str [], .str [], .int .i64 0, .sl 1 [] .full, .sl 1 [] .full, .agg [.int .u8 0, .int .u8 0, .int .u8 0, .int .u8 0, .int .u8 0, .int .u8 0, .int .u8 0, .int .u8 0, .int .u8 0, .int .u8 0, .int .u8 0, .int .u8 0, .int .u8 0, .int .u8 0, .int .u8 0, .int .u8 0, .int .u8 0, .int .u8 0, .int .u8 0, .int .u8 0, .int .u8 0, .int .u8 0, .int .u8 0, .int .u8 0, .int .u8 0, .int .u8 0, .int .u8 0, .int .u8 0, .int .u8 0, .int .u8 0, .int .u8 0, .int .u8 0], .int .i64 0])),
 e (.store 39 (.t 4) (.t 37))] [4, 32, 33, 34]) (
.seq (.reg none [
 o 38 (.load 39 true (.t 4)),
 o 39 (.call n_op_Right [.t 38]),
 o 5 (.mv (.t 39))] [5, 32, 33, 34]) (
.seq (.reg none [
 o 40 (.mv (.t 5)),
 o 41 (.bin .neq (.t 40) (.c (.int .i64 0)))] [5, 32, 33, 34, 41]) (
.cond (.t 41) (.seq (.reg none [
 o 42 (.mv (.t 5)),
 o 2 (.mv (.t 42))] [2]) (
.ret)) (
.skip)))))) (
.reg none [
 o 43 (.bin .add (.t 34) (.c (.int .i64 1))),
 o 34 (.mv (.t 43))] [32, 33, 34]))))))))) (
.seq (.reg none [
 o 2 (.mv (.c (.int .i64 0)))] [2]) (
.ret))))
def r_patch_Right : List RD := [.tmp 2]
theorem k_patch_Right : chkFn Pg n_patch_Right c_patch_Right r_patch_Right 1 = true := by kernel_rfl
/-- quitclaim/quitclaimref01.Bytes -/
def c_ref01_Bytes : CC :=
.seq (.reg none [
 o 2 (.mv (.c (.str [])))] [0]) (
.seq (.reg none [
 o 6 (.lit 1 (.int .u8 0) 0 []),
 o 3 (.mv (.t 6))] [0, 3]) (
.seq (.seq (.reg none [
 o 4 (.mv (.c (.int .i64 0)))] [0, 3, 4]) (
.block 0 (
.wk (.loop (.wk (
.seq (.seq (.reg none [
 o 7 (.mv (.t 4)),
 o 8 (.mv (.t 0)),
 o 9 (.len 1 (.t 8)),
 o 10 (.bin .lss (.t 7) (.t 9))] [0, 3, 4, 10]) (
.cond (.t 10) (.skip) (
.exit 0))) (
.seq (.block 1 (
.seq (.reg none [
 o 13 (.mv (.t 0)),
 o 14 (.mv (.t 4)),
 o 15 (.iaddr 1 (.t 13) (.t 14)),
 o 16 (.load 1 false (.t 15)),
 o 5 (.mv (.t 16))] [0, 3, 4, 5]) (
.reg none [
 o 17 (.mv (.t 3)),
 o 18 (.mv (.t 5)),
 o 19 (.bin .quo (.t 18) (.c (.int .u32 16777216))),
 o 20 (.conv .u8 (.t 19)),
 o 21 (.mv (.t 5)),
 o 22 (.bin .quo (.t 21) (.c (.int .u32 65536))),
 o 23 (.bin .rem (.t 22) (.c (.int .u32 256))),
 o 24 (.conv .u8 (.t 23)),
 o 25 (.mv (.t 5)),
 o 26 (.bin .quo (.t 25) (.c (.int .u32 256))),
 o 27 (.bin .rem (.t 26) (.c (.int .u32 256))),
 o 28 (.conv .u8 (.t 27)),
 o 29 (.mv (.t 5)),
 o 30 (.bin .rem (.t 29) (.c (.int .u32 256))),
 o 31 (.conv .u8 (.t 30)),
 o 32 (.lit 1 (.int .u8 0) 4 [(0, .t 20), (1, .t 24), (2, .t 28), (3, .t 31)]),
 o 33 (.append 1 1 (.t 17) (.t 32)),
 o 3 (.mv (.t 33))] [0, 3, 4]))) (
.reg none [
 o 11 (.mv (.t 4)),
 o 12 (.bin .add (.t 11) (.c (.int .i64 1))),
 o 4 (.mv (.t 12))] [0, 3, 4])))))))) (
.seq (.reg none [
 o 34 (.mv (.t 3)),
 o 35 (.b2s (.t 34)),
 o 2 (.mv (.t 35))] [2]) (
.ret))))
def r_ref01_Bytes : List RD := [.tmp 2]
theorem k_ref01_Bytes : chkFn Pg n_ref01_Bytes c_ref01_Bytes r_ref01_Bytes 1 = true := by kernel_rfl
/-- quitclaim/quitclaimref01.Number -/
def c_ref01_Number : CC :=
.seq (.reg none [
 o 4 (.mv (.c (.str []))),
 o 5 (.mv (.c (.bool false)))] [0, 1]) (
.seq (.seq (.reg none [
 o 8 (.mv (.t 1)),
 o 9 (.bin .lss (.t 8) (.c (.int .i64 0))),
 o 10 (.mv (.t 9)),
 g 11 (.mv (.t 1)) 10 false,
 g 12 (.bin .gtr (.t 11) (.c (.int .i64 8))) 10 false,
 o 13 (.pick (.t 10) (.c (.bool true)) (.t 12)),
 o 14 (.mv (.t 13)),
 g 15 (.mv (.t 1)) 14 false,
 g 16 (.bin .lss (.t 15) (.c (.int .i64 8))) 14 false,
 g 17 (.mv (.t 16)) 14 false,
 g 18 (.mv (.t 0)) 17 true,
 g 19 (.mv (.t 1)) 17 true,
 g 20 (.call n_ref01_power [.t 19]) 17 true,
 g 21 (.bin .geq (.t 18) (.t 20)) 17 true,
 g 22 (.pick (.t 17) (.t 21) (.c (.bool false))) 14 false,
 o 23 (.pick (.t 14) (.c (.bool true)) (.t 22))] [0, 1, 23]) (
.cond (.t 23) (.seq (.reg none [
 o 4 (.mv (.c (.str []))),
 o 5 (.mv (.c (.bool false)))] [4, 5]) (
.ret)) (
.skip))) (
.seq (.reg none [
 o 6 (.mv (.c (.str [])))] [0, 1, 6]) (
.seq (.seq (.reg none [
 o 7 (.mv (.c (.int .i64 0)))] [0, 1, 6, 7]) (
.block 0 (
.wk (.loop (.wk (
.seq (.seq (.reg none [
 o 24 (.mv (.t 7)),
 o 25 (.mv (.t 1)),
 o 26 (.bin .lss (.t 24) (.t 25))] [0, 1, 6, 7, 26]) (
.cond (.t 26) (.skip) (
.exit 0))) (
.seq (.block 1 (
.seq (.reg none [
 o 29 (.mv (.t 0)),
 o 30 (.bin .rem (.t 29) (.c (.int .u64 256))),
 o 31 (.conv .u8 (.t 30)),
 o 32 (.lit 1 (.int .u8 0) 1 [(0, .t 31)]),
 o 33 (.b2s (.t 32)),
 o 34 (.mv (.t 6)),
 o 35 (.bin .add (.t 33) (.t 34)),
 o 6 (.mv (.t 35))] [0, 1, 6, 7]) (
.reg none [
 o 36 (.mv (.t 0)),
 o 37 (.bin .quo (.t 36) (.c (.int .u64 256))),
 o 0 (.mv (.t 37))] [0, 1, 6, 7]))) (
.reg none [
 o 27 (.mv (.t 7)),
 o 28 (.bin .add (.t 27) (.c (.int .i64 1))),
 o 7 (.mv (.t 28))] [0, 1, 6, 7])))))))) (
.seq (.reg none [
 o 38 (.mv (.t 6)),
 o 4 (.mv (.t 38)),
 o 5 (.mv (.c (.bool true)))] [4, 5]) (
.ret)))))
def r_ref01_Number : List RD := [.tmp 4, .tmp 5]
theorem k_ref01_Number : chkFn Pg n_ref01_Number c_ref01_Number r_ref01_Number 2 = true := by kernel_rfl
/-- quitclaim/quitclaimref04.Only -/
def c_ref04_Only : CC :=
.seq (.reg none [
 o 6 (.mv (.c (.sl 32 [] .full)))] [0, 1, 2]) (
.seq (.reg none [
 o 9 (.lit 32 (.agg [.int .u8 0, .int .u8 0, .int .u8 0, .int .u8 0, .int .u8 0, .int .u8 0, .int .u8 0, .int .u8 0, .int .u8 0, .int .u8 0, .int .u8 0, .int .u8 0, .int .u8 0, .int .u8 0, .int .u8 0, .int .u8 0, .int .u8 0, .int .u8 0, .int .u8 0, .int .u8 0, .int .u8 0, .int .u8 0, .int .u8 0, .int .u8 0, .int .u8 0, .int .u8 0, .int .u8 0, .int .u8 0, .int .u8 0, .int .u8 0, .int .u8 0, .int .u8 0]) 0 []),
 o 7 (.mv (.t 9))] [0, 1, 2, 7]) (
.seq (.seq (.reg none [
 o 8 (.mv (.c (.int .i64 0)))] [0, 1, 2, 7, 8]) (
.block 0 (
.wk (.loop (.wk (
.seq (.seq (.reg none [
 o 10 (.mv (.t 8)),
 o 11 (.mv (.t 0)),
 o 12 (.len 1 (.t 11)),
 o 13 (.bin .lss (.t 10) (.t 12))] [0, 1, 2, 7, 8, 13]) (
.cond (.t 13) (.skip) (
.exit 0))) (
.seq (.block 1 (
.seq (.reg none [
 o 16 (.mv (.t 1)),
 o 17 (.mv (.t 0)),
 o 18 (.mv (.t 8)),
 o 19 (.iaddr 32 (.t 17) (.t 18)),
 o 20 (.load 32 true (.t 19)),
 o 21 (.call n_ref04_Has [.t 16, .t 20]),
 o 22 (.mv (.t 2)),
 o 23 (.eqv (.bool) false (.t 21) (.t 22))] [0, 1, 2, 7, 8, 23]) (
.cond (.t 23) (.reg none [
 o 24 (.mv (.t 7)),
 o 25 (.mv (.t 0)),
 o 26 (.mv (.t 8)),
 o 27 (.iaddr 32 (.t 25) (.t 26)),
 o 28 (.load 32 true (.t 27)),
 o 29 (.lit 32 (.agg [.int .u8 0, .int .u8 0, .int .u8 0, .int .u8 0, .int .u8 0, .int .u8 0, .int .u8 0, .int .u8 0, .int .u8 0, .int .u8 0, .int .u8 0, .int .u8 0, .int .u8 0, .int .u8 0, .int .u8 0, .int .u8 0, .int .u8 0, .int .u8 0, .int .u8 0, .int .u8 0, .int .u8 0, .int .u8 0, .int .u8 0, .int .u8 0, .int .u8 0, .int .u8 0, .int .u8 0, .int .u8 0, .int .u8 0, .int .u8 0, .int .u8 0, .int .u8 0]) 1 [(0, .t 28)]),
 o 30 (.append 32 32 (.t 24) (.t 29)),
 o 7 (.mv (.t 30))] [0, 1, 2, 7, 8]) (
.skip)))) (
.reg none [
 o 14 (.mv (.t 8)),
 o 15 (.bin .add (.t 14) (.c (.int .i64 1))),
 o 8 (.mv (.t 15))] [0, 1, 2, 7, 8])))))))) (
.seq (.reg none [
 o 31 (.mv (.t 7)),
 o 6 (.mv (.t 31))] [6]) (
.ret))))
def r_ref04_Only : List RD := [.tmp 6]
theorem k_ref04_Only : chkFn Pg n_ref04_Only c_ref04_Only r_ref04_Only 3 = true := by kernel_rfl
/-- quitclaim/quitclaimref04.Rises -/
def c_ref04_Rises : CC :=
.seq (.reg none [
 o 2 (.mv (.c (.bool false)))] [0]) (
.seq (.seq (.reg none [
 o 3 (.mv (.c (.int .i64 1)))] [0, 3]) (
.block 0 (
.wk (.loop (.wk (
.seq (.seq (.reg none [
 o 4 (.mv (.t 3)),
 o 5 (.mv (.t 0)),
 o 6 (.len 1 (.t 5)),
 o 7 (.bin .lss (.t 4) (.t 6))] [0, 3, 7]) (
.cond (.t 7) (.skip) (
.exit 0))) (
.seq (.block 1 (
.seq (.reg (some 11) [
 o 10 (.mv (.t 0)),
 o 11 (.mv (.t 3)),
 o 12 (.bin .sub (.t 11) (.c (.int .i64 1))),
 o 13 (.iaddr 32 (.t 10) (.t 12)),
 o 14 (.load 32 true (.t 13)),
 o 15 (.mv (.t 0)),
 o 16 (.mv (.t 3)),
 o 17 (.iaddr 32 (.t 15) (.t 16)),
 o 18 (.load 32 true (.t 17)),
 o 19 (.call n_ref04_Less [.t 14, .t 18]),
 o 20 (.not (.t 19))] [0, 3, 20]) (
.cond (.t 20) (.seq (.reg none [
 o 2 (.mv (.c (.bool false)))] [2]) (
.ret)) (
.skip)))) (
.reg none [
 o 8 (.mv (.t 3)),
 o 9 (.bin .add (.t 8) (.c (.int .i64 1))),
 o 3 (.mv (.t 9))] [0, 3])))))))) (
.seq (.reg none [
 o 2 (.mv (.c (.bool true)))] [2]) (
.ret)))
def r_ref04_Rises : List RD := [.tmp 2]
theorem k_ref04_Rises : chkFn Pg n_ref04_Rises c_ref04_Rises r_ref04_Rises 1 = true := by kernel_rfl
/-- quitclaim/quitclaimref04.Same -/
def c_ref04_Same : CC :=
.seq (.reg none [
 o 4 (.mv (.c (.bool false)))] [0, 1]) (
.seq (.seq (.reg none [
 o 6 (.mv (.t 0)),
 o 7 (.len 1 (.t 6)),
 o 8 (.mv (.t 1)),
 o 9 (.len 1 (.t 8)),
 o 10 (.bin .neq (.t 7) (.t 9))] [0, 1, 10]) (
.cond (.t 10) (.seq (.reg none [
 o 4 (.mv (.c (.bool false)))] [4]) (
.ret)) (
.skip))) (
.seq (.seq (.reg none [
 o 5 (.mv (.c (.int .i64 0)))] [0, 1, 5]) (
.block 0 (
.wk (.loop (.wk (
.seq (.seq (.reg none [
 o 11 (.mv (.t 5)),
 o 12 (.mv (.t 0)),
 o 13 (.len 1 (.t 12)),
 o 14 (.bin .lss (.t 11) (.t 13))] [0, 1, 5, 14]) (
.cond (.t 14) (.skip) (
.exit 0))) (
.seq (.block 1 (
.seq (.reg (some 9) [
 o 17 (.mv (.t 0)),
 o 18 (.mv (.t 5)),
 o 19 (.iaddr 32 (.t 17) (.t 18)),
 o 20 (.load 32 true (.t 19)),
 o 21 (.mv (.t 1)),
 o 22 (.mv (.t 5)),
 o 23 (.iaddr 32 (.t 21) (.t 22)),
 o 24 (.load 32 true (.t 23)),
 o 25 (.eqv (.arr 32 (.int .u8)) true (.t 20) (.t 24))] [0, 1, 5, 25]) (
.cond (.t 25) (.seq (.reg none [
 o 4 (.mv (.c (.bool false)))] [4]) (
.ret)) (
.skip)))) (
.reg none [
 o 15 (.mv (.t 5)),
 o 16 (.bin .add (.t 15) (.c (.int .i64 1))),
 o 5 (.mv (.t 16))] [0, 1, 5])))))))) (
.seq (.reg none [
 o 4 (.mv (.c (.bool true)))] [4]) (
.ret))))
def r_ref04_Same : List RD := [.tmp 4]
theorem k_ref04_Same : chkFn Pg n_ref04_Same c_ref04_Same r_ref04_Same 2 = true := by kernel_rfl
/-- quitclaim/quitclaimref05.Same -/
def c_ref05_Same : CC :=
.seq (.reg none [
 o 4 (.mv (.c (.bool false)))] [0, 1]) (
.seq (.seq (.reg none [
 o 6 (.mv (.t 0)),
 o 7 (.len 1 (.t 6)),
 o 8 (.mv (.t 1)),
 o 9 (.len 1 (.t 8)),
 o 10 (.bin .neq (.t 7) (.t 9))] [0, 1, 10]) (
.cond (.t 10) (.seq (.reg none [
 o 4 (.mv (.c (.bool false)))] [4]) (
.ret)) (
.skip))) (
.seq (.seq (.reg none [
 o 5 (.mv (.c (.int .i64 0)))] [0, 1, 5]) (
.block 0 (
.wk (.loop (.wk (
.seq (.seq (.reg none [
 o 11 (.mv (.t 5)),
 o 12 (.mv (.t 0)),
 o 13 (.len 1 (.t 12)),
 o 14 (.bin .lss (.t 11) (.t 13))] [0, 1, 5, 14]) (
.cond (.t 14) (.skip) (
.exit 0))) (
.seq (.block 1 (
.seq (.reg (some 9) [
 o 17 (.mv (.t 0)),
 o 18 (.mv (.t 5)),
 o 19 (.iaddr 1 (.t 17) (.t 18)),
 o 20 (.load 1 false (.t 19)),
 o 21 (.mv (.t 1)),
 o 22 (.mv (.t 5)),
 o 23 (.iaddr 1 (.t 21) (.t 22)),
 o 24 (.load 1 false (.t 23)),
 o 25 (.bin .neq (.t 20) (.t 24))] [0, 1, 5, 25]) (
.cond (.t 25) (.seq (.reg none [
 o 4 (.mv (.c (.bool false)))] [4]) (
.ret)) (
.skip)))) (
.reg none [
 o 15 (.mv (.t 5)),
 o 16 (.bin .add (.t 15) (.c (.int .i64 1))),
 o 5 (.mv (.t 16))] [0, 1, 5])))))))) (
.seq (.reg none [
 o 4 (.mv (.c (.bool true)))] [4]) (
.ret))))
def r_ref05_Same : List RD := [.tmp 4]
theorem k_ref05_Same : chkFn Pg n_ref05_Same c_ref05_Same r_ref05_Same 2 = true := by kernel_rfl
/-- quitclaim/quitclaimref08.Same -/
def c_ref08_Same : CC :=
.seq (.reg none [
 o 2 (.box (.t 0)),
 o 3 (.box (.t 1)),
 o 4 (.mv (.c (.bool false)))] [2, 3]) (
.seq (.reg none [
 o 5 (.faddr 0 0 (.t 2)),
 o 6 (.load 1 false (.t 5)),
 o 7 (.faddr 0 0 (.t 3)),
 o 8 (.load 1 false (.t 7)),
 o 9 (.bin .eql (.t 6) (.t 8)),
 o 10 (.mv (.t 9)),
 g 11 (.faddr 1 1 (.t 2)) 10 true,
 g 12 (.load 1 false (.t 11)) 10 true,
 g 13 (.faddr 1 1 (.t 3)) 10 true,
 g 14 (.load 1 false (.t 13)) 10 true,
 g 15 (.call n_ref04_Same [.t 12, .t 14]) 10 true,
 o 16 (.pick (.t 10) (.t 15) (.c (.bool false))),
 o 17 (.mv (.t 16)),
 g 18 (.faddr 2 2 (.t 2)) 17 true,
 g 19 (.load 1 false (.t 18)) 17 true,
 g 20 (.faddr 2 2 (.t 3)) 17 true,
 g 21 (.load 1 false (.t 20)) 17 true,
 g 22 (.call n_ref04_Same [.t 19, .t 21]) 17 true,
 o 23 (.pick (.t 17) (.t 22) (.c (.bool false))),
 o 24 (.mv (.t 23)),
 g 25 (.faddr 3 3 (.t 2)) 24 true,
 g 26 (.load 1 false (.t 25)) 24 true,
 g 27 (.faddr 3 3 (.t 3)) 24 true,
 g 28 (.load 1 false (.t 27)) 24 true,
 g 29 (.call n_ref04_Same [.t 26, .t 28]) 24 true,
 o 30 (.pick (.t 24) (.t 29) (.c (.bool false))),
 o 4 (.mv (.t 30))] [4]) (
.ret))
def r_ref08_Same : List RD := [.tmp 4]
theorem k_ref08_Same : chkFn Pg n_ref08_Same c_ref08_Same r_ref08_Same 2 = true := by kernel_rfl
/-- quitclaim/quitclaimref11.Line -/
def c_ref11_Line : CC :=
.seq (.reg none [
 o 2 (.mv (.c (.bool false)))] [0]) (
.seq (.seq (.reg none [
 o 3 (.mv (.c (.int .i64 0)))] [0, 3]) (
.block 0 (
.wk (.loop (.wk (
.seq (.seq (.reg none [
 o 4 (.mv (.t 3)),
 o 5 (.mv (.t 0)),
 o 6 (.len 0 (.t 5)),
 o 7 (.bin .lss (.t 4) (.t 6))] [0, 3, 7]) (
.cond (.t 7) (.skip) (
.exit 0))) (
.seq (.block 1 (
.seq (.reg none [
 o 10 (.mv (.t 0)),
 o 11 (.mv (.t 3)),
 o 12 (.idxS (.t 10) (.t 11)),
 o 13 (.bin .eql (.t 12) (.c (.int .u8 10)))] [0, 3, 13]) (
.cond (.t 13) (.seq (.reg none [
 o 2 (.mv (.c (.bool false)))] [2]) (
.ret)) (
.skip)))) (
.reg none [
 o 8 (.mv (.t 3)),
 o 9 (.bin .add (.t 8) (.c (.int .i64 1))),
 o 3 (.mv (.t 9))] [0, 3])))))))) (
.seq (.reg none [
 o 14 (.mv (.t 0)),
 o 15 (.len 0 (.t 14)),
 o 16 (.bin .leq (.t 15) (.c (.int .i64 200))),
 o 2 (.mv (.t 16))] [2]) (
.ret)))
def r_ref11_Line : List RD := [.tmp 2]
theorem k_ref11_Line : chkFn Pg n_ref11_Line c_ref11_Line r_ref11_Line 1 = true := by kernel_rfl
/-- quitclaim/quitclaimref13.Same -/
def c_ref13_Same : CC :=
.seq (.reg none [
 o 2 (.box (.t 0)),
 o 3 (.box (.t 1)),
 o 4 (.mv (.c (.bool false)))] [2, 3]) (
.seq (.reg none [
 o 5 (.faddr 0 0 (.t 2)),
 o 6 (.load 1 false (.t 5)),
 o 7 (.faddr 0 0 (.t 3)),
 o 8 (.load 1 false (.t 7)),
 o 9 (.bin .eql (.t 6) (.t 8)),
 o 10 (.mv (.t 9)),
 g 11 (.faddr 1 1 (.t 2)) 10 true,
 g 12 (.load 1 false (.t 11)) 10 true,
 g 13 (.faddr 1 1 (.t 3)) 10 true,
 g 14 (.load 1 false (.t 13)) 10 true,
 g 15 (.bin .eql (.t 12) (.t 14)) 10 true,
 o 16 (.pick (.t 10) (.t 15) (.c (.bool false))),
 o 17 (.mv (.t 16)),
 g 18 (.faddr 2 2 (.t 2)) 17 true,
 g 19 (.load 1 false (.t 18)) 17 true,
 g 20 (.faddr 2 2 (.t 3)) 17 true,
 g 21 (.load 1 false (.t 20)) 17 true,
 g 22 (.bin .eql (.t 19) (.t 21)) 17 true,
 o 23 (.pick (.t 17) (.t 22) (.c (.bool false))),
 o 24 (.mv (.t 23)),
 g 25 (.faddr 3 3 (.t 2)) 24 true,
 g 26 (.load 1 false (.t 25)) 24 true,
 g 27 (.faddr 3 3 (.t 3)) 24 true,
 g 28 (.load 1 false (.t 27)) 24 true,
 g 29 (.bin .eql (.t 26) (.t 28)) 24 true,
 o 30 (.pick (.t 24) (.t 29) (.c (.bool false))),
 o 31 (.mv (.t 30)),
 g 32 (.faddr 4 4 (.t 2)) 31 true,
 g 33 (.load 1 false (.t 32)) 31 true,
 g 34 (.faddr 4 4 (.t 3)) 31 true,
 g 35 (.load 1 false (.t 34)) 31 true,
 g 36 (.call n_ref05_Same [.t 33, .t 35]) 31 true,
 o 37 (.pick (.t 31) (.t 36) (.c (.bool false))),
 o 38 (.mv (.t 37)),
 g 39 (.faddr 5 5 (.t 2)) 38 true,
 g 40 (.load 1 false (.t 39)) 38 true,
 g 41 (.faddr 5 5 (.t 3)) 38 true,
 g 42 (.load 1 false (.t 41)) 38 true,
 g 43 (.call n_ref05_Same [.t 40, .t 42]) 38 true,
 o 44 (.pick (.t 38) (.t 43) (.c (.bool false))),
 o 45 (.mv (.t 44)),
 g 46 (.faddr 6 6 (.t 2)) 45 true,
 g 47 (.load 32 true (.t 46)) 45 true,
 g 48 (.faddr 6 6 (.t 3)) 45 true,
 g 49 (.load 32 true (.t 48)) 45 true,
 g 50 (.eqv (.arr 32 (.int .u8)) false (.t 47) (.t 49)) 45 true,
 o 51 (.pick (.t 45) (.t 50) (.c (.bool false))),
 o 52 (.mv (.t 51)),
 g 53 (.faddr 7 38 (.t 2)) 52 true,
 g 54 (.load 1 false (.t 53)) 52 true,
 g 55 (.faddr 7 38 (.t 3)) 52 true,
 g 56 (.load 1 false (.t 55)) 52 true,
 g 57 (.bin .eql (.t 54) (.t 56)) 52 true,
 o 58 (.pick (.t 52) (.t 57) (.c (.bool false))),
 o 4 (.mv (.t 58))] [4]) (
.ret))
def r_ref13_Same : List RD := [.tmp 4]
theorem k_ref13_Same : chkFn Pg n_ref13_Same c_ref13_Same r_ref13_Same 2 = true := by kernel_rfl
/-- quitclaim/quitclaimref13.prefix -/
def c_ref13_prefix : CC :=
.seq (.reg none [
 o 2 (.mv (.c (.bool false)))] [0]) (
.seq (.reg none [
 o 3 (.mv (.t 0)),
 o 4 (.bin .eql (.t 3) (.c (.str []))),
 o 5 (.mv (.t 4)),
 g 6 (.mv (.t 0)) 5 false,
 g 7 (.call n_ref10_Right [.t 6]) 5 false,
 o 8 (.pick (.t 5) (.c (.bool true)) (.t 7)),
 o 2 (.mv (.t 8))] [2]) (
.ret))
def r_ref13_prefix : List RD := [.tmp 2]
theorem k_ref13_prefix : chkFn Pg n_ref13_prefix c_ref13_prefix r_ref13_prefix 1 = true := by kernel_rfl
/-- quitclaim/quitclaimref15.Id -/
def c_ref15_Id : CC :=
.seq (.reg none [
 o 1 (.box (.t 0)),
 o 2 (.alloc (.agg [.int .u8 0, .int .u8 0, .int .u8 0, .int .u8 0, .int .u8 0, .int .u8 0, .int .u8 0, .int .u8 0, .int .u8 0, .int .u8 0, .int .u8 0, .int .u8 0, .int .u8 0, .int .u8 0, .int .u8 0, .int .u8 0, .int .u8 0, .int .u8 0, .int .u8 0, .int .u8 0, .int .u8 0, .int .u8 0, .int .u8 0, .int .u8 0, .int .u8 0, .int .u8 0, .int .u8 0, .int .u8 0, .int .u8 0, .int .u8 0, .int .u8 0, .int .u8 0]))] [1, 2]) (
.seq (.reg none [
 o 3 (.load 39 true (.t 1)),
 o 4 (.call n_ref15_Bytes [.t 3]),
 o 5 (.lit 1 (.str []) 1 [(0, .t 4)]),
 o 6 (.call n_ref03_Of [.c (.str [105, 100]), .t 5]),
 e (.store 32 (.t 2) (.t 6))] [2]) (
.ret))
def r_ref15_Id : List RD := [.cell 2 32 true]
theorem k_ref15_Id : chkFn Pg n_ref15_Id c_ref15_Id r_ref15_Id 1 = true := by kernel_rfl
/-- quitclaim/quitclaimref17.Ids -/
def c_ref17_Ids : CC :=
.seq (.reg none [
 o 2 (.mv (.c (.sl 32 [] .full)))] [0]) (
.seq (.reg none [
 o 5 (.lit 32 (.agg [.int .u8 0, .int .u8 0, .int .u8 0, .int .u8 0, .int .u8 0, .int .u8 0, .int .u8 0, .int .u8 0, .int .u8 0, .int .u8 0, .int .u8 0, .int .u8 0, .int .u8 0, .int .u8 0, .int .u8 0, .int .u8 0, .int .u8 0, .int .u8 0, .int .u8 0, .int .u8 0, .int .u8 0, .int .u8 0, .int .u8 0, .int .u8 0, .int .u8 0, .int .u8 0, .int .u8 0, .int .u8 0, .int .u8 0, .int .u8 0, .int .u8 0, .int .u8 0]) 0 []),
 o 3 (.mv (.t 5))] [0, 3]) (
.seq (.seq (.reg none [
 o 4 (.mv (.c (.int .i64 0)))] [0, 3, 4]) (
.block 0 (
.wk (.loop (.wk (
.seq (.seq (.reg none [
 o 6 (.mv (.t 4)),
 o 7 (.mv (.t 0)),
 o 8 (.len 1 (.t 7)),
 o 9 (.bin .lss (.t 6) (.t 8))] [0, 3, 4, 9]) (
.cond (.t 9) (.skip) (
.exit 0))) (
.seq (.block 1 (
.reg none [
 o 12 (.mv (.t 3)),
 o 13 (.mv (.t 0)),
 o 14 (.mv (.t 4)),
 o 15 (.iaddr 33 (.t 13) (.t 14)),
 o 16 (.faddr 0 0 (.t 15)),
 o 17 (.load 32 true (.t 16)),
 o 18 (.call n_ref04_Put [.t 12, .t 17]),
 o 3 (.mv (.t 18))] [0, 3, 4])) (
.reg none [
 o 10 (.mv (.t 4)),
 o 11 (.bin .add (.t 10) (.c (.int .i64 1))),
 o 4 (.mv (.t 11))] [0, 3, 4])))))))) (
.seq (.reg none [
 o 19 (.mv (.t 3)),
 o 2 (.mv (.t 19))] [2]) (
.ret))))
def r_ref17_Ids : List RD := [.tmp 2]
theorem k_ref17_Ids : chkFn Pg n_ref17_Ids c_ref17_Ids r_ref17_Ids 1 = true := by kernel_rfl
/-- (*quitclaim/sha.Hash).Write -/
def c_sha_Hash_Write : CC :=
.seq (.reg none [
 o 4 (.mv (.c (.int .i64 0)))] [0, 1]) (
.seq (.reg none [
 o 6 (.mv (.t 0)),
 o 7 (.nilchk (.t 6)),
 o 8 (.faddr 2 9 (.t 7)),
 o 9 (.load 1 false (.t 8)),
 o 10 (.mv (.t 1)),
 o 11 (.len 0 (.t 10)),
 o 12 (.bin .add (.t 9) (.t 11)),
 o 13 (.nilchk (.t 6)),
 o 14 (.faddr 2 9 (.t 13)),
 e (.store 1 (.t 14) (.t 12))] [0, 1]) (
.seq (.reg none [
 o 15 (.mv (.t 0)),
 o 16 (.nilchk (.t 15)),
 o 17 (.faddr 1 8 (.t 16)),
 o 18 (.load 1 false (.t 17)),
 o 19 (.mv (.t 1)),
 o 20 (.bin .add (.t 18) (.t 19)),
 o 5 (.mv (.t 20))] [0, 1, 5]) (
.seq (.block 0 (
.wk (.loop (.wk (
.seq (.seq (.reg none [
 o 21 (.mv (.t 5)),
 o 22 (.len 0 (.t 21)),
 o 23 (.bin .geq (.t 22) (.c (.int .i64 64)))] [0, 1, 5, 23]) (
.cond (.t 23) (.skip) (
.exit 0))) (
.block 1 (
.seq (.reg (some 5) [
 o 24 (.mv (.t 0)),
 o 25 (.nilchk (.t 24)),
 o 26 (.faddr 0 0 (.t 25)),
 o 27 (.mv (.t 5)),
 o 28 (.sliceS (.t 27) none (some (.c (.int .i64 64)))),
 o 29 (.call n_sha_state_add [.t 26, .t 28])] [0, 1, 5]) (
.reg none [
 o 30 (.mv (.t 5)),
 o 31 (.sliceS (.t 30) (some (.c (.int .i64 64))) none),
 o 5 (.mv (.t 31))] [0, 1, 5])))))))) (
.seq (.reg none [
 o 32 (.mv (.t 0)),
 o 33 (.mv (.t 5)),
 o 34 (.nilchk (.t 32)),
 o 35 (.faddr 1 8 (.t 34)),
 e (.store 1 (.t 35) (.t 33))] [1]) (
.seq (.reg none [
 o 36 (.mv (.t 1)),
 o 37 (.len 0 (.t 36)),
 o 4 (.mv (.t 37))] [4]) (
.ret))))))
def r_sha_Hash_Write : List RD := [.tmp 4]
theorem k_sha_Hash_Write : chkFn Pg n_sha_Hash_Write c_sha_Hash_Write r_sha_Hash_Write 2 = true := by kernel_rfl
/-- slices.Clone[[]string,string] -/
def c_slices_Clone_string : CC :=
.seq (.reg none [
 o 2 (.mv (.c (.sl 1 [] .full)))] [0]) (
.seq (.seq (.reg none [
 o 3 (.mv (.t 0)),
 o 4 (.nilSl false (.t 3))] [0, 4]) (
.cond (.t 4) (.seq (.reg none [
 o 2 (.mv (.c (.sl 1 [] .full)))] [2]) (
.ret)) (
.skip))) (
.seq (.reg none [
 o 5 (.lit 1 (.str []) 0 []),
 o 6 (.mv (.t 0)),
 o 7 (.appendA 1 16 (.str []) (.t 5) (.t 6)),
 o 2 (.mv (.t 7))] [2]) (
.ret)))
def r_slices_Clone_string : List RD := [.tmp 2]
theorem k_slices_Clone_string : chkFn Pg n_slices_Clone_string c_slices_Clone_string r_slices_Clone_string 1 = true := by kernel_rfl
/-- slices.ContainsFunc[[]quitclaim/api.Id,quitclaim/api.Id] -/
def c_slices_ContainsFunc_Id : CC :=
.seq (.reg none [
 o 4 (.mv (.c (.bool false)))] [0, 1]) (
.seq (.reg none [
 o 5 (.mv (.t 0)),
 o 6 (.mv (.t 1)),
 o 7 (.call n_slices_IndexFunc_Id [.t 5, .t 6]),
 o 8 (.bin .geq (.t 7) (.c (.int .i64 0))),
 o 4 (.mv (.t 8))] [4]) (
.ret))
def r_slices_ContainsFunc_Id : List RD := [.tmp 4]
theorem k_slices_ContainsFunc_Id : chkFn Pg n_slices_ContainsFunc_Id c_slices_ContainsFunc_Id r_slices_ContainsFunc_Id 2 = true := by kernel_rfl
/-- slices.IndexFunc[[]quitclaim/api.Id,quitclaim/api.Id] -/
def c_slices_IndexFunc_Id : CC :=
.seq (.reg none [
 o 4 (.mv (.c (.int .i64 0)))] [0, 1]) (
.seq (.seq (.reg none [
 o 6 (.mv (.t 0)),
 o 7 (.len 1 (.t 6)),
 o 8 (.mv (.c (.int .i64 0)))] [0, 1, 7, 8]) (
.block 0 (
.wk (.loop (.wk (
.seq (.reg none [
 o 9 (.bin .lss (.t 8) (.t 7))] [0, 1, 7, 8, 9]) (
.seq (.cond (.t 9) (.skip) (
.exit 0)) (
.seq (.block 1 (
.seq (.reg none [
 o 10 (.mv (.t 8)),
 o 5 (.mv (.t 10))] [0, 1, 5, 7, 8]) (
.seq (.reg none [
 o 11 (.mv (.t 1)),
 o 12 (.mv (.t 0)),
 o 13 (.mv (.t 5)),
 o 14 (.iaddr 32 (.t 12) (.t 13)),
 o 15 (.load 32 true (.t 14)),
 o 16 (.callv (.t 11) [.t 15])] [0, 1, 5, 7, 8, 16]) (
.cond (.t 16) (.seq (.reg none [
 o 17 (.mv (.t 5)),
 o 4 (.mv (.t 17))] [4]) (
.ret)) (
.skip))))) (
.reg none [
 o 18 (.bin .add (.t 8) (.c (.int .i64 1))),
 o 8 (.mv (.t 18))] [0, 1, 7, 8]))))))))) (
.seq (.reg none [
 o 4 (.mv (.c (.int .i64 (-1))))] [4]) (
.ret)))
def r_slices_IndexFunc_Id : List RD := [.tmp 4]
theorem k_slices_IndexFunc_Id : chkFn Pg n_slices_IndexFunc_Id c_slices_IndexFunc_Id r_slices_IndexFunc_Id 2 = true := by kernel_rfl
/-- slices.heapSortCmpFunc[quitclaim/api.Id] -/
def c_slices_heapSortCmpFunc_Id : CC :=
.seq (.reg none [
 o 13 (.mv (.t 1)),
 o 8 (.mv (.t 13))] [0, 1, 2, 3, 8]) (
.seq (.reg none [
 o 9 (.mv (.c (.int .i64 0)))] [0, 1, 2, 3, 8, 9]) (
.seq (.reg none [
 o 14 (.mv (.t 2)),
 o 15 (.mv (.t 1)),
 o 16 (.bin .sub (.t 14) (.t 15)),
 o 10 (.mv (.t 16))] [0, 3, 8, 9, 10]) (
.seq (.seq (.reg none [
 o 17 (.mv (.t 10)),
 o 18 (.bin .sub (.t 17) (.c (.int .i64 1))),
 o 19 (.bin .quo (.t 18) (.c (.int .i64 2))),
 o 11 (.mv (.t 19))] [0, 3, 8, 9, 10, 11]) (
.block 0 (
.wk (.loop (.wk (
.seq (.seq (.reg none [
 o 20 (.mv (.t 11)),
 o 21 (.bin .geq (.t 20) (.c (.int .i64 0)))] [0, 3, 8, 9, 10, 11, 21]) (
.cond (.t 21) (.skip) (
.exit 0))) (
.seq (.block 1 (
.reg none [
 o 24 (.mv (.t 0)),
 o 25 (.mv (.t 11)),
 o 26 (.mv (.t 10)),
 o 27 (.mv (.t 8)),
 o 28 (.mv (.t 3)),
 o 29 (.call n_slices_siftDownCmpFunc_Id [.t 24, .t 25, .t 26, .t 27, .t 28])] [0, 3, 8, 9, 10, 11])) (
.reg none [
 o 22 (.mv (.t 11)),
 o 23 (.bin .sub (.t 22) (.c (.int .i64 1))),
 o 11 (.mv (.t 23))] [0, 3, 8, 9, 10, 11])))))))) (
.seq (.reg none [
 o 30 (.mv (.t 10)),
 o 31 (.bin .sub (.t 30) (.c (.int .i64 1))),
 o 12 (.mv (.t 31))] [0, 3, 8, 9, 12]) (
.block 2 (
.wk (.loop (.wk (
.seq (.seq (.reg none [
 o 32 (.mv (.t 12)),
 o 33 (.bin .geq (.t 32) (.c (.int .i64 0)))] [0, 3, 8, 9, 12, 33]) (
.cond (.t 33) (.skip) (
.exit 2))) (
.seq (.block 3 (
.seq (.regm [
 q 0 0 (o 36 (.mv (.t 0))),
 q 0 0 (o 37 (.mv (.t 8))),
 q 0 1 (o 38 (.mv (.t 0))),
 q 0 1 (o 39 (.mv (.t 8))),
 q 0 1 (o 40 (.mv (.t 12))),
 q 0 1 (o 41 (.bin .add (.t 39) (.t 40))),
 q 0 0 (o 42 (.mv (.t 0))),
 q 0 0 (o 43 (.mv (.t 8))),
 q 0 0 (o 44 (.mv (.t 12))),
 q 0 0 (o 45 (.bin .add (.t 43) (.t 44))),
 q 0 0 (o 46 (.iaddr 32 (.t 42) (.t 45))),
 q 0 0 (o 47 (.load 32 true (.t 46))),
 q 0 1 (o 48 (.mv (.t 0))),
 q 0 1 (o 49 (.mv (.t 8))),
 q 0 1 (o 50 (.iaddr 32 (.t 48) (.t 49))),
 q 0 0 (o 51 (.load 32 true (.t 50))),
 q 0 0 (o 52 (.iaddr 32 (.t 36) (.t 37))),
 f (e (.store 32 (.t 52) (.t 47))),
 q 1 1 (o 53 (.iaddr 32 (.t 38) (.t 41))),
 f (e (.store 32 (.t 53) (.t 51)))] [0, 3, 8, 9, 12]) (
.reg none [
 o 54 (.mv (.t 0)),
 o 55 (.mv (.t 9)),
 o 56 (.mv (.t 12)),
 o 57 (.mv (.t 8)),
 o 58 (.mv (.t 3)),
 o 59 (.call n_slices_siftDownCmpFunc_Id [.t 54, .t 55, .t 56, .t 57, .t 58])] [0, 3, 8, 9, 12]))) (
.reg none [
 o 34 (.mv (.t 12)),
 o 35 (.bin .sub (.t 34) (.c (.int .i64 1))),
 o 12 (.mv (.t 35))] [0, 3, 8, 9, 12])))))))))))
def r_slices_heapSortCmpFunc_Id : List RD := []
theorem k_slices_heapSortCmpFunc_Id : chkFn Pg n_slices_heapSortCmpFunc_Id c_slices_heapSortCmpFunc_Id r_slices_heapSortCmpFunc_Id 4 = true := by kernel_rfl
/-- strings.splitSeq -/
def c_strings_splitSeq : CC :=
.seq (.reg none [
 o 3 (.box (.t 0)),
 o 4 (.box (.t 1)),
 o 5 (.box (.t 2)),
 o 6 (.mv (.c (.nilfn)))] [3, 4, 5]) (
.seq (.reg none [
 o 7 (.mkfn n_strings_splitSeq_1 [] [.t 4, .t 3, .t 5]),
 o 6 (.mv (.t 7))] [6]) (
.ret))
def r_strings_splitSeq : List RD := [.tmp 6]
theorem k_strings_splitSeq : chkFn Pg n_strings_splitSeq c_strings_splitSeq r_strings_splitSeq 3 = true := by kernel_rfl
/-- internal/stringslite.IndexByte -/
def c_stringslite_IndexByte : CC :=
.seq (.reg none [
 o 4 (.mv (.c (.int .i64 0)))] [0, 1]) (
.seq (.reg none [
 o 5 (.mv (.t 0)),
 o 6 (.mv (.t 1)),
 o 7 (.call n_bytealg_IndexByteString [.t 5, .t 6]),
 o 4 (.mv (.t 7))] [4]) (
.ret))
def r_stringslite_IndexByte : List RD := [.tmp 4]
theorem k_stringslite_IndexByte : chkFn Pg n_stringslite_IndexByte c_stringslite_IndexByte r_stringslite_IndexByte 2 = true := by kernel_rfl
end Go.Abs
end
