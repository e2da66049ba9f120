/-
  The abstract code of the program's functions, by program: part 5.
  Conditions: those that stand ahead of each theorem; no more.
-/
import Derived.Test.YtblnejkfaniljaaGreatDoorT16

section
namespace Go.Abs
open Go
/-- math/bits.Mul -/
def c_bits_Mul : CC :=
.seq (.reg none [
 o 4 (.mv (.c (.int .u64 0))),
 o 5 (.mv (.c (.int .u64 0)))] [0, 1]) (
.seq (.cond (.c (.bool false)) (.seq (.reg none [
 o 11 (.mv (.t 0)),
 o 12 (.conv .u32 (.t 11)),
 o 13 (.mv (.t 1)),
 o 14 (.conv .u32 (.t 13)),
 o 15 (.call n_bits_Mul32 [.t 12, .t 14]),
 o 10 (.mv (.t 15)),
 o 16 (.extract 0 (.t 10)),
 o 17 (.extract 1 (.t 10)),
 o 6 (.mv (.t 16)),
 o 7 (.mv (.t 17))] [6, 7]) (
.seq (.reg none [
 o 18 (.mv (.t 6)),
 o 19 (.conv .u64 (.t 18)),
 o 20 (.mv (.t 7)),
 o 21 (.conv .u64 (.t 20)),
 o 4 (.mv (.t 19)),
 o 5 (.mv (.t 21))] [4, 5]) (
.ret))) (
.skip)) (
.seq (.reg none [
 o 23 (.mv (.t 0)),
 o 24 (.mv (.t 1)),
 o 25 (.call n_bits_Mul64 [.t 23, .t 24]),
 o 22 (.mv (.t 25)),
 o 26 (.extract 0 (.t 22)),
 o 27 (.extract 1 (.t 22)),
 o 8 (.mv (.t 26)),
 o 9 (.mv (.t 27))] [8, 9]) (
.seq (.reg none [
 o 28 (.mv (.t 8)),
 o 29 (.mv (.t 9)),
 o 4 (.mv (.t 28)),
 o 5 (.mv (.t 29))] [4, 5]) (
.ret))))
def r_bits_Mul : List RD := [.tmp 4, .tmp 5]
theorem k_bits_Mul : chkFn Pg n_bits_Mul c_bits_Mul r_bits_Mul 2 = true := by kernel_rfl
/-- quitclaim/bundle.Encode -/
def c_bundle_Encode : CC :=
.seq (.reg none [
 o 2 (.mv (.c (.str []))),
 o 3 (.mv (.c (.int .i64 0)))] [0]) (
.seq (.seq (.reg none [
 o 11 (.mv (.t 0)),
 o 12 (.len 1 (.t 11)),
 o 13 (.bin .gtr (.t 12) (.c (.int .i64 1000)))] [0, 13]) (
.cond (.t 13) (.seq (.reg none [
 o 2 (.mv (.c (.str []))),
 o 3 (.mv (.c (.int .i64 4)))] [2, 3]) (
.ret)) (
.skip))) (
.seq (.reg none [
 o 14 (.build [.sl 1 [] .full] []),
 o 15 (.box (.t 14)),
 o 4 (.mv (.t 15))] [0, 4]) (
.seq (.seq (.reg none [
 o 16 (.mv (.c (.int .i64 0)))] [0, 4, 16]) (
.block 0 (
.wk (.loop (.wk (
.seq (.reg none [
 o 17 (.bin .lss (.t 16) (.c (.int .i64 3)))] [0, 4, 16, 17]) (
.seq (.cond (.t 17) (.skip) (
.exit 0)) (
.seq (.block 1 (
.seq (.reg none [
 o 18 (.mv (.t 16)),
 o 5 (.mv (.t 18))] [0, 4, 5, 16]) (
.reg none [
 o 19 (.mv (.t 4)),
 o 20 (.mv (.t 5)),
 o 21 (.idxS (.c (.str [81, 67, 49])) (.t 20)),
 o 22 (.call n_pack_Writer_Byte [.t 19, .t 21])] [0, 4, 16]))) (
.reg none [
 o 23 (.bin .add (.t 16) (.c (.int .i64 1))),
 o 16 (.mv (.t 23))] [0, 4, 16]))))))))) (
.seq (.reg none [
 o 24 (.mv (.t 4)),
 o 25 (.mv (.t 0)),
 o 26 (.len 1 (.t 25)),
 o 27 (.call n_pack_Writer_Num [.t 24, .t 26])] [0, 4]) (
.seq (.seq (.reg none [
 o 28 (.mv (.t 0)),
 o 29 (.len 1 (.t 28)),
 o 30 (.mv (.c (.int .i64 0)))] [4, 28, 29, 30]) (
.block 2 (
.wk (.loop (.wk (
.seq (.reg none [
 o 31 (.bin .lss (.t 30) (.t 29))] [4, 28, 29, 30, 31]) (
.seq (.cond (.t 31) (.skip) (
.exit 2)) (
.seq (.block 3 (
.seq (.reg none [
 o 32 (.iaddr 39 (.t 28) (.t 30)),
 o 33 (.load 39 true (.t 32)),
 o 7 (.alloc (.agg [.sl 32 [] .full, .agg [.int .u8 0, .int .u8 0, .int .u8 0, .int .u8 0, .int .u8 0, .int .u8 0, .int .u8 0, .int .u8 0, .int .u8 0, .int .u8 0, .int .u8 0, .int .u8 0, .int .u8 0, .int .u8 0, .int .u8 0, .int .u8 0, .int .u8 0, .int .u8 0, .int .u8 0, .int .u8 0, .int .u8 0, .int .u8 0, .int .u8 0, .int .u8 0, .int .u8 0, .int .u8 0, .int .u8 0, .int .u8 0, .int .u8 0, .int .u8 0, .int .u8 0, .int .u8 0], .str [], .sl 39 [] .full, .agg [.int .i64 0, .sl 32 [] .full, .sl 32 [] .full, .sl 32 [] .full]])),
 e (.store 39 (.t 7) (.t 33))] [4, 7, 28, 29, 30]) (
.seq (.reg none [
 o 35 (.load 39 true (.t 7)),
 o 36 (.call n_patch_Bytes [.t 35]),
 o 34 (.mv (.t 36)),
 o 37 (.extract 0 (.t 34)),
 o 38 (.extract 1 (.t 34)),
 o 8 (.mv (.t 37)),
 o 9 (.mv (.t 38))] [4, 8, 9, 28, 29, 30]) (
.seq (.seq (.reg none [
 o 39 (.mv (.t 9)),
 o 40 (.bin .neq (.t 39) (.c (.int .i64 0)))] [4, 8, 9, 28, 29, 30, 40]) (
.cond (.t 40) (.seq (.reg none [
 o 41 (.mv (.t 9)),
 o 2 (.mv (.c (.str []))),
 o 3 (.mv (.t 41))] [2, 3]) (
.ret)) (
.skip))) (
.reg none [
 o 42 (.mv (.t 4)),
 o 43 (.mv (.t 8)),
 o 44 (.call n_pack_Writer_Text [.t 42, .t 43])] [4, 28, 29, 30]))))) (
.reg none [
 o 45 (.bin .add (.t 30) (.c (.int .i64 1))),
 o 30 (.mv (.t 45))] [4, 28, 29, 30]))))))))) (
.seq (.reg none [
 o 46 (.mv (.t 4)),
 o 47 (.call n_pack_Writer_String [.t 46]),
 o 10 (.mv (.t 47))] [10]) (
.seq (.seq (.reg none [
 o 48 (.mv (.t 10)),
 o 49 (.len 0 (.t 48)),
 o 50 (.bin .gtr (.t 49) (.c (.int .i64 4194304)))] [10, 50]) (
.cond (.t 50) (.seq (.reg none [
 o 2 (.mv (.c (.str []))),
 o 3 (.mv (.c (.int .i64 4)))] [2, 3]) (
.ret)) (
.skip))) (
.seq (.reg none [
 o 51 (.mv (.t 10)),
 o 2 (.mv (.t 51)),
 o 3 (.mv (.c (.int .i64 0)))] [2, 3]) (
.ret)))))))))
def r_bundle_Encode : List RD := [.tmp 2, .tmp 3]
theorem k_bundle_Encode : chkFn Pg n_bundle_Encode c_bundle_Encode r_bundle_Encode 1 = true := by kernel_rfl
/-- quitclaim/bundle.Ordered -/
def c_bundle_Ordered : CC :=
.seq (.reg none [
 o 2 (.mv (.c (.bool false)))] [0]) (
.seq (.reg none [
 o 6 (.mv (.t 0)),
 o 7 (.call n_bundle_Sorted [.t 6]),
 o 5 (.mv (.t 7)),
 o 8 (.extract 0 (.t 5)),
 o 9 (.extract 1 (.t 5)),
 o 3 (.mv (.t 8)),
 o 4 (.mv (.t 9))] [0, 3, 4]) (
.seq (.reg none [
 o 10 (.mv (.t 4)),
 o 11 (.bin .eql (.t 10) (.c (.int .i64 0))),
 o 12 (.mv (.t 11)),
 g 13 (.mv (.t 0)) 12 true,
 g 14 (.mv (.t 3)) 12 true,
 g 15 (.call n_slices_EqualFunc_Patch [.t 13, .t 14, .f n_patch_Same]) 12 true,
 o 16 (.pick (.t 12) (.t 15) (.c (.bool false))),
 o 2 (.mv (.t 16))] [2]) (
.ret)))
def r_bundle_Ordered : List RD := [.tmp 2]
theorem k_bundle_Ordered : chkFn Pg n_bundle_Ordered c_bundle_Ordered r_bundle_Ordered 1 = true := by kernel_rfl
/-- quitclaim/hunk.Lines -/
def c_hunk_Lines : CC :=
.seq (.reg none [
 o 2 (.mv (.c (.bool false)))] [0]) (
.seq (.reg none [
 o 3 (.mv (.t 0)),
 o 4 (.len 1 (.t 3)),
 o 5 (.bin .leq (.t 4) (.c (.int .i64 1000))),
 o 6 (.mv (.t 5)),
 g 7 (.mv (.t 0)) 6 true,
 g 8 (.call n_slices_ContainsFunc_string [.t 7, .f n_hunk_Lines_1]) 6 true,
 g 9 (.not (.t 8)) 6 true,
 o 10 (.pick (.t 6) (.t 9) (.c (.bool false))),
 o 2 (.mv (.t 10))] [2]) (
.ret))
def r_hunk_Lines : List RD := [.tmp 2]
theorem k_hunk_Lines : chkFn Pg n_hunk_Lines c_hunk_Lines r_hunk_Lines 1 = true := by kernel_rfl
/-- quitclaim/hunk.Right -/
def c_hunk_Right : CC :=
.seq (.reg none [
 o 1 (.box (.t 0)),
 o 2 (.mv (.c (.bool false)))] [1]) (
.seq (.reg none [
 o 3 (.faddr 0 0 (.t 1)),
 o 4 (.load 1 false (.t 3)),
 o 5 (.bin .geq (.t 4) (.c (.int .i64 0))),
 o 6 (.mv (.t 5)),
 g 7 (.faddr 0 0 (.t 1)) 6 true,
 g 8 (.load 1 false (.t 7)) 6 true,
 g 9 (.bin .leq (.t 8) (.c (.int .i64 1000))) 6 true,
 o 10 (.pick (.t 6) (.t 9) (.c (.bool false))),
 o 11 (.mv (.t 10)),
 g 12 (.faddr 1 1 (.t 1)) 11 true,
 g 13 (.load 1 false (.t 12)) 11 true,
 g 14 (.call n_hunk_Lines [.t 13]) 11 true,
 o 15 (.pick (.t 11) (.t 14) (.c (.bool false))),
 o 16 (.mv (.t 15)),
 g 17 (.faddr 2 2 (.t 1)) 16 true,
 g 18 (.load 1 false (.t 17)) 16 true,
 g 19 (.call n_hunk_Lines [.t 18]) 16 true,
 o 20 (.pick (.t 16) (.t 19) (.c (.bool false))),
 o 21 (.mv (.t 20)),
 g 22 (.faddr 1 1 (.t 1)) 21 true,
 g 23 (.load 1 false (.t 22)) 21 true,
 g 24 (.len 1 (.t 23)) 21 true,
 g 25 (.faddr 2 2 (.t 1)) 21 true,
 g 26 (.load 1 false (.t 25)) 21 true,
 g 27 (.len 1 (.t 26)) 21 true,
 g 28 (.bin .add (.t 24) (.t 27)) 21 true,
 g 29 (.bin .gtr (.t 28) (.c (.int .i64 0))) 21 true,
 o 30 (.pick (.t 21) (.t 29) (.c (.bool false))),
 o 2 (.mv (.t 30))] [2]) (
.ret))
def r_hunk_Right : List RD := [.tmp 2]
theorem k_hunk_Right : chkFn Pg n_hunk_Right c_hunk_Right r_hunk_Right 1 = true := by kernel_rfl
/-- quitclaim/id.Less -/
def c_id_Less : CC :=
.seq (.reg none [
 o 2 (.box (.t 0)),
 o 3 (.box (.t 1)),
 o 4 (.mv (.c (.bool false)))] [2, 3]) (
.seq (.reg none [
 o 5 (.load 32 true (.t 2)),
 o 6 (.load 32 true (.t 3)),
 o 7 (.call n_id_compare [.t 5, .t 6]),
 o 8 (.bin .lss (.t 7) (.c (.int .i64 0))),
 o 4 (.mv (.t 8))] [4]) (
.ret))
def r_id_Less : List RD := [.tmp 4]
theorem k_id_Less : chkFn Pg n_id_Less c_id_Less r_id_Less 2 = true := by kernel_rfl
/-- quitclaim/id.Minus -/
def c_id_Minus : CC :=
.seq (.reg none [
 o 4 (.mv (.c (.sl 32 [] .full)))] [0, 1]) (
.seq (.reg none [
 o 5 (.mv (.t 0)),
 o 6 (.mv (.t 1)),
 o 7 (.call n_id_merge [.t 5, .t 6, .f n_id_Minus_1]),
 o 4 (.mv (.t 7))] [4]) (
.ret))
def r_id_Minus : List RD := [.tmp 4]
theorem k_id_Minus : chkFn Pg n_id_Minus c_id_Minus r_id_Minus 2 = true := by kernel_rfl
/-- quitclaim/quitclaimlaw26.BundleSorts -/
def c_law26_BundleSorts : CC :=
.seq (.reg none [
 o 2 (.mv (.c (.bool false)))] [0]) (
.seq (.seq (.reg none [
 o 7 (.mv (.t 0)),
 o 8 (.call n_ref18_Few [.t 7]),
 o 9 (.not (.t 8))] [0, 9]) (
.cond (.t 9) (.seq (.reg none [
 o 10 (.call n_law26_awake []),
 o 2 (.mv (.t 10))] [2]) (
.ret)) (
.skip))) (
.seq (.reg none [
 o 12 (.mv (.t 0)),
 o 13 (.call n_bundle_Sorted [.t 12]),
 o 11 (.mv (.t 13)),
 o 14 (.extract 0 (.t 11)),
 o 15 (.extract 1 (.t 11)),
 o 3 (.mv (.t 14)),
 o 4 (.mv (.t 15))] [0, 3, 4]) (
.seq (.reg none [
 o 17 (.mv (.t 0)),
 o 18 (.call n_ref26_Sorted [.t 17]),
 o 16 (.mv (.t 18)),
 o 19 (.extract 0 (.t 16)),
 o 20 (.extract 1 (.t 16)),
 o 5 (.mv (.t 19)),
 o 6 (.mv (.t 20))] [0, 3, 4, 5, 6]) (
.seq (.seq (.reg none [
 o 21 (.mv (.t 4)),
 o 22 (.mv (.t 6)),
 o 23 (.bin .neq (.t 21) (.t 22)),
 o 24 (.mv (.t 23)),
 g 25 (.mv (.t 3)) 24 false,
 g 26 (.mv (.t 5)) 24 false,
 g 27 (.call n_ref26_Same [.t 25, .t 26]) 24 false,
 g 28 (.not (.t 27)) 24 false,
 o 29 (.pick (.t 24) (.c (.bool true)) (.t 28))] [0, 3, 5, 6, 29]) (
.cond (.t 29) (.seq (.reg none [
 o 2 (.mv (.c (.bool false)))] [2]) (
.ret)) (
.skip))) (
.seq (.reg none [
 o 30 (.mv (.t 0)),
 o 31 (.call n_bundle_Ordered [.t 30]),
 o 32 (.mv (.t 6)),
 o 33 (.bin .eql (.t 32) (.c (.int .i64 0))),
 o 34 (.mv (.t 33)),
 g 35 (.mv (.t 0)) 34 true,
 g 36 (.mv (.t 5)) 34 true,
 g 37 (.call n_ref26_Same [.t 35, .t 36]) 34 true,
 o 38 (.pick (.t 34) (.t 37) (.c (.bool false))),
 o 39 (.eqv (.bool) false (.t 31) (.t 38)),
 o 40 (.mv (.t 39)),
 g 41 (.mv (.t 6)) 40 true,
 g 42 (.bin .neq (.t 41) (.c (.int .i64 0))) 40 true,
 g 43 (.mv (.t 42)) 40 true,
 g 44 (.mv (.t 3)) 43 false,
 g 45 (.call n_bundle_Ordered [.t 44]) 43 false,
 g 46 (.pick (.t 43) (.c (.bool true)) (.t 45)) 40 true,
 o 47 (.pick (.t 40) (.t 46) (.c (.bool false))),
 o 48 (.mv (.t 47)),
 g 49 (.call n_law26_awake []) 48 true,
 o 50 (.pick (.t 48) (.t 49) (.c (.bool false))),
 o 2 (.mv (.t 50))] [2]) (
.ret))))))
def r_law26_BundleSorts : List RD := [.tmp 2]
theorem k_law26_BundleSorts : chkFn Pg n_law26_BundleSorts c_law26_BundleSorts r_law26_BundleSorts 1 = true := by kernel_rfl
/-- quitclaim/op.Right -/
def c_op_Right : CC :=
.seq (.reg none [
 o 1 (.box (.t 0)),
 o 2 (.mv (.c (.int .i64 0)))] [1]) (
.seq (.block 0 (
.seq (.reg none [
 o 4 (.faddr 0 0 (.t 1)),
 o 5 (.load 1 false (.t 4)),
 o 6 (.bin .lss (.t 5) (.c (.int .i64 1))),
 o 7 (.mv (.t 6)),
 g 8 (.faddr 0 0 (.t 1)) 7 false,
 g 9 (.load 1 false (.t 8)) 7 false,
 g 10 (.bin .gtr (.t 9) (.c (.int .i64 6))) 7 false,
 o 11 (.pick (.t 7) (.c (.bool true)) (.t 10)),
 o 3 (.mv (.t 11))] [1, 3]) (
.cond (.t 3) (.seq (.reg none [
 o 2 (.mv (.c (.int .i64 1)))] [2]) (
.ret)) (
.seq (.reg none [
 o 13 (.load 39 true (.t 1)),
 o 14 (.call n_op_formed [.t 13]),
 o 15 (.not (.t 14)),
 o 12 (.mv (.t 15))] [1, 12]) (
.cond (.t 12) (.seq (.reg none [
 o 2 (.mv (.c (.int .i64 3)))] [2]) (
.ret)) (
.seq (.reg none [
 o 17 (.faddr 7 38 (.t 1)),
 o 18 (.load 1 false (.t 17)),
 o 19 (.bin .lss (.t 18) (.c (.int .i64 0))),
 o 20 (.mv (.t 19)),
 g 21 (.faddr 7 38 (.t 1)) 20 false,
 g 22 (.load 1 false (.t 21)) 20 false,
 g 23 (.bin .gtr (.t 22) (.c (.int .i64 8))) 20 false,
 o 24 (.pick (.t 20) (.c (.bool true)) (.t 23)),
 o 16 (.mv (.t 24))] [16]) (
.cond (.t 16) (.seq (.reg none [
 o 2 (.mv (.c (.int .i64 5)))] [2]) (
.ret)) (
.skip)))))))) (
.seq (.reg none [
 o 2 (.mv (.c (.int .i64 0)))] [2]) (
.ret)))
def r_op_Right : List RD := [.tmp 2]
theorem k_op_Right : chkFn Pg n_op_Right c_op_Right r_op_Right 1 = true := by kernel_rfl
/-- quitclaim/op.Same -/
def c_op_Same : CC :=
.seq (.reg none [
 o 2 (.box (.t 0)),
 o 3 (.box (.t 1)),
 o 4 (.mv (.c (.bool false)))] [2, 3]) (
.seq (.reg (some 41) [
 o 5 (.faddr 0 0 (.t 2)),
 o 6 (.load 1 false (.t 5)),
 o 7 (.faddr 0 0 (.t 3)),
 o 8 (.load 1 false (.t 7)),
 o 9 (.bin .eql (.t 6) (.t 8)),
 o 10 (.mv (.t 9)),
 g 11 (.faddr 1 1 (.t 2)) 10 true,
 g 12 (.load 1 false (.t 11)) 10 true,
 g 13 (.faddr 1 1 (.t 3)) 10 true,
 g 14 (.load 1 false (.t 13)) 10 true,
 g 15 (.bin .eql (.t 12) (.t 14)) 10 true,
 o 16 (.pick (.t 10) (.t 15) (.c (.bool false))),
 o 17 (.mv (.t 16)),
 g 18 (.faddr 2 2 (.t 2)) 17 true,
 g 19 (.load 1 false (.t 18)) 17 true,
 g 20 (.faddr 2 2 (.t 3)) 17 true,
 g 21 (.load 1 false (.t 20)) 17 true,
 g 22 (.bin .eql (.t 19) (.t 21)) 17 true,
 o 23 (.pick (.t 17) (.t 22) (.c (.bool false))),
 o 24 (.mv (.t 23)),
 g 25 (.faddr 6 6 (.t 2)) 24 true,
 g 26 (.load 32 true (.t 25)) 24 true,
 g 27 (.faddr 6 6 (.t 3)) 24 true,
 g 28 (.load 32 true (.t 27)) 24 true,
 g 29 (.eqv (.arr 32 (.int .u8)) false (.t 26) (.t 28)) 24 true,
 o 30 (.pick (.t 24) (.t 29) (.c (.bool false))),
 o 31 (.mv (.t 30)),
 g 32 (.faddr 7 38 (.t 2)) 31 true,
 g 33 (.load 1 false (.t 32)) 31 true,
 g 34 (.faddr 7 38 (.t 3)) 31 true,
 g 35 (.load 1 false (.t 34)) 31 true,
 g 36 (.bin .eql (.t 33) (.t 35)) 31 true,
 o 37 (.pick (.t 31) (.t 36) (.c (.bool false))),
 o 38 (.mv (.t 37)),
 g 39 (.load 39 true (.t 2)) 38 true,
 g 40 (.call n_op_Hunk [.t 39]) 38 true,
 g 41 (.load 39 true (.t 3)) 38 true,
 g 42 (.call n_op_Hunk [.t 41]) 38 true,
 g 43 (.call n_hunk_Same [.t 40, .t 42]) 38 true,
 o 44 (.pick (.t 38) (.t 43) (.c (.bool false))),
 o 4 (.mv (.t 44))] [4]) (
.ret))
def r_op_Same : List RD := [.tmp 4]
theorem k_op_Same : chkFn Pg n_op_Same c_op_Same r_op_Same 2 = true := by kernel_rfl
/-- quitclaim/op.bare -/
def c_op_bare : CC :=
.seq (.reg none [
 o 1 (.box (.t 0)),
 o 2 (.alloc (.agg [.int .i64 0, .str [], .str [], .int .i64 0, .sl 1 [] .full, .sl 1 [] .full, .agg [.int .u8 0, .int .u8 0, .int .u8 0, .int .u8 0, .int .u8 0, .int .u8 0, .int .u8 0, .int .u8 0, .int .u8 0, .int .u8 0, .int .u8 0, .int .u8 0, .int .u8 0, .int .u8 0, .int .u8 0, .int .u8 0, .int .u8 0, .int .u8 0, .int .u8 0, .int .u8 0, .int .u8 0, .int .u8 0, .int .u8 0, .int .u8 0, .int .u8 0, .int .u8 0, .int .u8 0, .int .u8 0, .int .u8 0, .int .u8 0, .int .u8 0, .int .u8 0], .int .i64 0]))] [1, 2]) (
.seq (.reg none [
 o 4 (.faddr 0 0 (.t 1)),
 o 5 (.load 1 false (.t 4)),
 o 6 (.faddr 1 1 (.t 1)),
 o 7 (.load 1 false (.t 6)),
 o 8 (.build [.int .i64 0, .str [], .str [], .int .i64 0, .sl 1 [] .full, .sl 1 [] .full, .agg [.int .u8 0, .int .u8 0, .int .u8 0, .int .u8 0, .int .u8 0, .int .u8 0, .int .u8 0, .int .u8 0, .int .u8 0, .int .u8 0, .int .u8 0, .int .u8 0, .int .u8 0, .int .u8 0, .int .u8 0, .int .u8 0, .int .u8 0, .int .u8 0, .int .u8 0, .int .u8 0, .int .u8 0, .int .u8 0, .int .u8 0, .int .u8 0, .int .u8 0, .int .u8 0, .int .u8 0, .int .u8 0, .int .u8 0, .int .u8 0, .int .u8 0, .int .u8 0], .int .i64 0] [(0, .t 5), (1, .t 7)]),
 o 3 (.alloc (.agg [.int .i64 0, .str [], .str [], .int .i64 0, .sl 1 [] .full, .sl 1 [] .full, .agg [.int .u8 0, .int .u8 0, .int .u8 0, .int .u8 0, .int .u8 0, .int .u8 0, .int .u8 0, .int .u8 0, .int .u8 0, .int .u8 0, .int .u8 0, .int .u8 0, .int .u8 0, .int .u8 0, .int .u8 0, .int .u8 0, .int .u8 0, .int .u8 0, .int .u8 0, .int .u8 0, .int .u8 0, .int .u8 0, .int .u8 0, .int .u8 0, .int .u8 0, .int .u8 0, .int .u8 0, .int .u8 0, .int .u8 0, .int .u8 0, .int .u8 0, .int .u8 0], .int .i64 0])),
 e (.store 39 (.t 3) (.t 8))] [1, 2, 3]) (
.seq (.seq (.reg none [
 o 9 (.faddr 0 0 (.t 1)),
 o 10 (.load 1 false (.t 9))] [1, 2, 3, 10]) (
.block 0 (
.seq (.block 5 (
.seq (.block 4 (
.seq (.block 3 (
.seq (.block 2 (
.seq (.block 1 (
.seq (.seq (.seq (.reg none [
 o 12 (.bin .eql (.t 10) (.c (.int .i64 3))),
 o 11 (.mv (.t 12))] [1, 2, 3, 10, 11]) (
.cond (.t 11) (.exit 1) (
.skip))) (
.seq (.seq (.reg none [
 o 14 (.bin .eql (.t 10) (.c (.int .i64 2))),
 o 13 (.mv (.t 14))] [1, 2, 3, 10, 13]) (
.cond (.t 13) (.exit 2) (
.skip))) (
.seq (.seq (.reg none [
 o 16 (.bin .eql (.t 10) (.c (.int .i64 4))),
 o 15 (.mv (.t 16))] [1, 2, 3, 10, 15]) (
.cond (.t 15) (.exit 3) (
.skip))) (
.seq (.seq (.reg none [
 o 18 (.bin .eql (.t 10) (.c (.int .i64 5))),
 o 17 (.mv (.t 18))] [1, 2, 3, 10, 17]) (
.cond (.t 17) (.exit 4) (
.skip))) (
.seq (.reg none [
 o 20 (.bin .eql (.t 10) (.c (.int .i64 6))),
 o 19 (.mv (.t 20))] [1, 2, 3, 19]) (
.cond (.t 19) (.exit 5) (
.skip))))))) (
.exit 0))) (
.regm [
 q 0 0 (o 21 (.faddr 3 3 (.t 1))),
 q 0 0 (o 22 (.load 1 false (.t 21))),
 q 0 1 (o 23 (.faddr 5 5 (.t 1))),
 q 0 1 (o 24 (.load 1 false (.t 23))),
 q 0 0 (o 25 (.faddr 3 3 (.t 3))),
 f (e (.store 1 (.t 25) (.t 22))),
 q 1 1 (o 26 (.faddr 5 5 (.t 3))),
 f (e (.store 1 (.t 26) (.t 24)))] [1, 2, 3]))) (
.seq (.reg none [
 o 27 (.faddr 4 4 (.t 1)),
 o 28 (.load 1 false (.t 27)),
 o 29 (.faddr 4 4 (.t 3)),
 e (.store 1 (.t 29) (.t 28))] [2, 3]) (
.exit 0)))) (
.seq (.reg none [
 o 30 (.faddr 2 2 (.t 1)),
 o 31 (.load 1 false (.t 30)),
 o 32 (.faddr 2 2 (.t 3)),
 e (.store 1 (.t 32) (.t 31))] [2, 3]) (
.exit 0)))) (
.reg none [
 o 33 (.faddr 7 38 (.t 1)),
 o 34 (.load 1 false (.t 33)),
 o 35 (.faddr 7 38 (.t 3)),
 e (.store 1 (.t 35) (.t 34))] [1, 2, 3]))) (
.seq (.reg none [
 o 36 (.faddr 6 6 (.t 1)),
 o 37 (.load 32 true (.t 36)),
 o 38 (.faddr 6 6 (.t 3)),
 e (.store 32 (.t 38) (.t 37))] [2, 3]) (
.exit 0))))) (
.seq (.reg none [
 o 39 (.load 39 true (.t 3)),
 e (.store 39 (.t 2) (.t 39))] [2]) (
.ret))))
def r_op_bare : List RD := [.cell 2 39 true]
theorem k_op_bare : chkFn Pg n_op_bare c_op_bare r_op_bare 1 = true := by kernel_rfl
/-- quitclaim/op.formed -/
def c_op_formed : CC :=
.seq (.reg none [
 o 1 (.box (.t 0)),
 o 2 (.mv (.c (.bool false)))] [1]) (
.seq (.reg none [
 o 4 (.faddr 1 1 (.t 1)),
 o 5 (.load 1 false (.t 4)),
 o 6 (.call n_path_Right [.t 5]),
 o 3 (.mv (.t 6))] [1, 3]) (
.seq (.seq (.reg none [
 o 7 (.faddr 0 0 (.t 1)),
 o 8 (.load 1 false (.t 7))] [1, 3, 8]) (
.block 0 (
.seq (.reg none [
 o 10 (.bin .eql (.t 8) (.c (.int .i64 2))),
 o 9 (.mv (.t 10))] [1, 3, 8, 9]) (
.cond (.t 9) (.reg none [
 o 11 (.mv (.t 3)),
 o 12 (.mv (.t 11)),
 g 13 (.faddr 4 4 (.t 1)) 12 true,
 g 14 (.load 1 false (.t 13)) 12 true,
 g 15 (.call n_hunk_Lines [.t 14]) 12 true,
 o 16 (.pick (.t 12) (.t 15) (.c (.bool false))),
 o 3 (.mv (.t 16))] [1, 3]) (
.seq (.reg none [
 o 18 (.bin .eql (.t 8) (.c (.int .i64 3))),
 o 17 (.mv (.t 18))] [1, 3, 8, 17]) (
.cond (.t 17) (.reg none [
 o 19 (.mv (.t 3)),
 o 20 (.mv (.t 19)),
 g 21 (.load 39 true (.t 1)) 20 true,
 g 22 (.call n_op_Hunk [.t 21]) 20 true,
 g 23 (.call n_hunk_Right [.t 22]) 20 true,
 o 24 (.pick (.t 20) (.t 23) (.c (.bool false))),
 o 3 (.mv (.t 24))] [1, 3]) (
.seq (.reg none [
 o 26 (.bin .eql (.t 8) (.c (.int .i64 4))),
 o 25 (.mv (.t 26))] [1, 3, 8, 25]) (
.cond (.t 25) (.reg none [
 o 27 (.mv (.t 3)),
 o 28 (.mv (.t 27)),
 g 29 (.faddr 2 2 (.t 1)) 28 true,
 g 30 (.load 1 false (.t 29)) 28 true,
 g 31 (.call n_path_Right [.t 30]) 28 true,
 o 32 (.pick (.t 28) (.t 31) (.c (.bool false))),
 o 33 (.mv (.t 32)),
 g 34 (.faddr 1 1 (.t 1)) 33 true,
 g 35 (.load 1 false (.t 34)) 33 true,
 g 36 (.faddr 2 2 (.t 1)) 33 true,
 g 37 (.load 1 false (.t 36)) 33 true,
 g 38 (.bin .neq (.t 35) (.t 37)) 33 true,
 o 39 (.pick (.t 33) (.t 38) (.c (.bool false))),
 o 3 (.mv (.t 39))] [1, 3]) (
.seq (.seq (.reg none [
 o 41 (.bin .eql (.t 8) (.c (.int .i64 5))),
 o 40 (.mv (.t 41))] [1, 3, 8, 40]) (
.cond (.t 40) (.skip) (
.reg none [
 o 42 (.bin .eql (.t 8) (.c (.int .i64 6))),
 o 40 (.mv (.t 42))] [1, 3, 40]))) (
.cond (.t 40) (.reg none [
 o 43 (.faddr 1 1 (.t 1)),
 o 44 (.load 1 false (.t 43)),
 o 45 (.call n_path_Prefix [.t 44]),
 o 3 (.mv (.t 45))] [1, 3]) (
.skip))))))))))) (
.seq (.reg (some 8) [
 o 46 (.mv (.t 3)),
 o 47 (.mv (.t 46)),
 g 48 (.load 39 true (.t 1)) 47 true,
 g 49 (.load 39 true (.t 1)) 47 true,
 g 50 (.call n_op_bare [.t 49]) 47 true,
 g 51 (.call n_op_Same [.t 48, .t 50]) 47 true,
 o 52 (.pick (.t 47) (.t 51) (.c (.bool false))),
 o 2 (.mv (.t 52))] [2]) (
.ret))))
def r_op_formed : List RD := [.tmp 2]
theorem k_op_formed : chkFn Pg n_op_formed c_op_formed r_op_formed 1 = true := by kernel_rfl
/-- (*quitclaim/pack.Writer).Byte -/
def c_pack_Writer_Byte : CC :=
.reg none [
 o 4 (.mv (.t 0)),
 o 5 (.mv (.t 0)),
 o 6 (.nilchk (.t 5)),
 o 7 (.faddr 0 0 (.t 6)),
 o 8 (.load 1 false (.t 7)),
 o 9 (.mv (.t 1)),
 o 10 (.lit 1 (.int .u8 0) 1 [(0, .t 9)]),
 o 11 (.append 1 1 (.t 8) (.t 10)),
 o 12 (.nilchk (.t 4)),
 o 13 (.faddr 0 0 (.t 12)),
 e (.store 1 (.t 13) (.t 11))] []
def r_pack_Writer_Byte : List RD := []
theorem k_pack_Writer_Byte : chkFn Pg n_pack_Writer_Byte c_pack_Writer_Byte r_pack_Writer_Byte 2 = true := by kernel_rfl
/-- (*quitclaim/pack.Writer).Id -/
def c_pack_Writer_Id : CC :=
.seq (.reg none [
 o 3 (.box (.t 1))] [0, 3]) (
.regm [
 q 0 1 (o 4 (.mv (.t 0))),
 q 0 1 (o 5 (.mv (.t 0))),
 q 0 1 (o 6 (.nilchk (.t 5))),
 q 0 1 (o 7 (.faddr 0 0 (.t 6))),
 q 0 0 (o 8 (.load 1 false (.t 7))),
 q 0 0 (o 9 (.sliceA 32 1 (.t 3) none none)),
 f (o 10 (.append 1 1 (.t 8) (.t 9))),
 q 1 2 (o 11 (.nilchk (.t 4))),
 q 1 1 (o 12 (.faddr 0 0 (.t 11))),
 f (e (.store 1 (.t 12) (.t 10)))] [])
def r_pack_Writer_Id : List RD := []
theorem k_pack_Writer_Id : chkFn Pg n_pack_Writer_Id c_pack_Writer_Id r_pack_Writer_Id 2 = true := by kernel_rfl
/-- (*quitclaim/pack.Writer).String -/
def c_pack_Writer_String : CC :=
.seq (.reg none [
 o 2 (.mv (.c (.str [])))] [0]) (
.seq (.reg none [
 o 3 (.mv (.t 0)),
 o 4 (.nilchk (.t 3)),
 o 5 (.faddr 0 0 (.t 4)),
 o 6 (.load 1 false (.t 5)),
 o 7 (.b2s (.t 6)),
 o 2 (.mv (.t 7))] [2]) (
.ret))
def r_pack_Writer_String : List RD := [.tmp 2]
theorem k_pack_Writer_String : chkFn Pg n_pack_Writer_String c_pack_Writer_String r_pack_Writer_String 1 = true := by kernel_rfl
/-- quitclaim/patch.Bytes -/
def c_patch_Bytes : CC :=
.seq (.reg none [
 o 1 (.box (.t 0)),
 o 2 (.mv (.c (.str []))),
 o 3 (.mv (.c (.int .i64 0)))] [1]) (
.seq (.reg none [
 o 8 (.load 39 true (.t 1)),
 o 9 (.call n_patch_Body [.t 8]),
 o 7 (.mv (.t 9)),
 o 10 (.extract 0 (.t 7)),
 o 11 (.extract 1 (.t 7)),
 o 4 (.mv (.t 10)),
 o 5 (.mv (.t 11))] [1, 4, 5]) (
.seq (.block 0 (
.seq (.reg none [
 o 13 (.mv (.t 5)),
 o 14 (.bin .neq (.t 13) (.c (.int .i64 0))),
 o 12 (.mv (.t 14))] [1, 4, 5, 12]) (
.cond (.t 12) (.seq (.reg none [
 o 15 (.mv (.t 5)),
 o 2 (.mv (.c (.str []))),
 o 3 (.mv (.t 15))] [2, 3]) (
.ret)) (
.seq (.reg none [
 o 17 (.faddr 4 35 (.t 1)),
 o 18 (.load 4 true (.t 17)),
 o 19 (.call n_patch_written [.t 18]),
 o 20 (.not (.t 19)),
 o 16 (.mv (.t 20))] [1, 4, 16]) (
.cond (.t 16) (.seq (.reg none [
 o 2 (.mv (.c (.str []))),
 o 3 (.mv (.c (.int .i64 3)))] [2, 3]) (
.ret)) (
.skip)))))) (
.seq (.reg none [
 o 21 (.build [.sl 1 [] .full] []),
 o 22 (.box (.t 21)),
 o 6 (.mv (.t 22))] [1, 4, 6]) (
.seq (.reg none [
 o 23 (.mv (.t 6)),
 o 24 (.faddr 4 35 (.t 1)),
 o 25 (.load 4 true (.t 24)),
 o 26 (.call n_signer_Put [.t 23, .t 25])] [4, 6]) (
.seq (.reg none [
 o 27 (.mv (.t 4)),
 o 28 (.mv (.t 6)),
 o 29 (.call n_pack_Writer_String [.t 28]),
 o 30 (.bin .add (.t 27) (.t 29)),
 o 2 (.mv (.t 30)),
 o 3 (.mv (.c (.int .i64 0)))] [2, 3]) (
.ret))))))
def r_patch_Bytes : List RD := [.tmp 2, .tmp 3]
theorem k_patch_Bytes : chkFn Pg n_patch_Bytes c_patch_Bytes r_patch_Bytes 1 = true := by kernel_rfl
/-- quitclaim/patch.Same -/
def c_patch_Same : CC :=
.seq (.reg none [
 o 2 (.box (.t 0)),
 o 3 (.box (.t 1)),
 o 4 (.mv (.c (.bool false)))] [2, 3]) (
.seq (.reg none [
 o 5 (.faddr 0 0 (.t 2)),
 o 6 (.load 1 false (.t 5)),
 o 7 (.faddr 0 0 (.t 3)),
 o 8 (.load 1 false (.t 7)),
 o 9 (.call n_id_Same [.t 6, .t 8]),
 o 10 (.mv (.t 9)),
 g 11 (.faddr 1 1 (.t 2)) 10 true,
 g 12 (.load 32 true (.t 11)) 10 true,
 g 13 (.faddr 1 1 (.t 3)) 10 true,
 g 14 (.load 32 true (.t 13)) 10 true,
 g 15 (.eqv (.arr 32 (.int .u8)) false (.t 12) (.t 14)) 10 true,
 o 16 (.pick (.t 10) (.t 15) (.c (.bool false))),
 o 17 (.mv (.t 16)),
 g 18 (.faddr 2 33 (.t 2)) 17 true,
 g 19 (.load 1 false (.t 18)) 17 true,
 g 20 (.faddr 2 33 (.t 3)) 17 true,
 g 21 (.load 1 false (.t 20)) 17 true,
 g 22 (.bin .eql (.t 19) (.t 21)) 17 true,
 o 23 (.pick (.t 17) (.t 22) (.c (.bool false))),
 o 24 (.mv (.t 23)),
 g 25 (.faddr 3 34 (.t 2)) 24 true,
 g 26 (.load 1 false (.t 25)) 24 true,
 g 27 (.faddr 3 34 (.t 3)) 24 true,
 g 28 (.load 1 false (.t 27)) 24 true,
 g 29 (.call n_slices_EqualFunc_Op [.t 26, .t 28, .f n_op_Same]) 24 true,
 o 30 (.pick (.t 24) (.t 29) (.c (.bool false))),
 o 31 (.mv (.t 30)),
 g 32 (.faddr 4 35 (.t 2)) 31 true,
 g 33 (.faddr 0 0 (.t 32)) 31 true,
 g 34 (.load 1 false (.t 33)) 31 true,
 g 35 (.faddr 4 35 (.t 3)) 31 true,
 g 36 (.faddr 0 0 (.t 35)) 31 true,
 g 37 (.load 1 false (.t 36)) 31 true,
 g 38 (.bin .eql (.t 34) (.t 37)) 31 true,
 o 39 (.pick (.t 31) (.t 38) (.c (.bool false))),
 o 40 (.mv (.t 39)),
 g 41 (.faddr 4 35 (.t 2)) 40 true,
 g 42 (.faddr 1 1 (.t 41)) 40 true,
 g 43 (.load 1 false (.t 42)) 40 true,
 g 44 (.faddr 4 35 (.t 3)) 40 true,
 g 45 (.faddr 1 1 (.t 44)) 40 true,
 g 46 (.load 1 false (.t 45)) 40 true,
 g 47 (.call n_id_Same [.t 43, .t 46]) 40 true,
 o 48 (.pick (.t 40) (.t 47) (.c (.bool false))),
 o 49 (.mv (.t 48)),
 g 50 (.faddr 4 35 (.t 2)) 49 true,
 g 51 (.faddr 2 2 (.t 50)) 49 true,
 g 52 (.load 1 false (.t 51)) 49 true,
 g 53 (.faddr 4 35 (.t 3)) 49 true,
 g 54 (.faddr 2 2 (.t 53)) 49 true,
 g 55 (.load 1 false (.t 54)) 49 true,
 g 56 (.call n_id_Same [.t 52, .t 55]) 49 true,
 o 57 (.pick (.t 49) (.t 56) (.c (.bool false))),
 o 58 (.mv (.t 57)),
 g 59 (.faddr 4 35 (.t 2)) 58 true,
 g 60 (.faddr 3 3 (.t 59)) 58 true,
 g 61 (.load 1 false (.t 60)) 58 true,
 g 62 (.faddr 4 35 (.t 3)) 58 true,
 g 63 (.faddr 3 3 (.t 62)) 58 true,
 g 64 (.load 1 false (.t 63)) 58 true,
 g 65 (.call n_id_Same [.t 61, .t 64]) 58 true,
 o 66 (.pick (.t 58) (.t 65) (.c (.bool false))),
 o 4 (.mv (.t 66))] [4]) (
.ret))
def r_patch_Same : List RD := [.tmp 4]
theorem k_patch_Same : chkFn Pg n_patch_Same c_patch_Same r_patch_Same 2 = true := by kernel_rfl
/-- quitclaim/quitclaimref02.Known -/
def c_ref02_Known : CC :=
.seq (.reg none [
 o 0 (.mv (.c (.sl 1 [] .full))),
 o 1 (.mv (.c (.sl 1 [] .full)))] []) (
.seq (.reg none [
 o 4 (.lit 1 (.int .u32 0) 8 [(0, .c (.int .u32 1779033703)), (1, .c (.int .u32 3144134277)), (2, .c (.int .u32 1013904242)), (3, .c (.int .u32 2773480762)), (4, .c (.int .u32 1359893119)), (5, .c (.int .u32 2600822924)), (6, .c (.int .u32 528734635)), (7, .c (.int .u32 1541459225))]),
 o 2 (.mv (.t 4))] [2]) (
.seq (.reg none [
 o 5 (.lit 1 (.int .u32 0) 64 [(0, .c (.int .u32 1116352408)), (1, .c (.int .u32 1899447441)), (2, .c (.int .u32 3049323471)), (3, .c (.int .u32 3921009573)), (4, .c (.int .u32 961987163)), (5, .c (.int .u32 1508970993)), (6, .c (.int .u32 2453635748)), (7, .c (.int .u32 2870763221)), (8, .c (.int .u32 3624381080)), (9, .c (.int .u32 310598401)), (10, .c (.int .u32 607225278)), (11, .c (.int .u32 1426881987)), (12, .c (.int .u32 1925078388)), (13, .c (.int .u32 2162078206)), (14, .c (.int .u32 2614888103)), (15, .c (.int .u32 3248222580)), (16, .c (.int .u32 3835390401)), (17, .c (.int .u32 4022224774)), (18, .c (.int .u32 264347078)), (19, .c (.int .u32 604807628)), (20, .c (.int .u32 770255983)), (21, .c (.int .u32 1249150122)), (22, .c (.int .u32 1555081692)), (23, .c (.int .u32 1996064986)), (24, .c (.int .u32 2554220882)), (25, .c (.int .u32 2821834349)), (26, .c (.int .u32 2952996808)), (27, .c (.int .u32 3210313671)), (28, .c (.int .u32 3336571891)), (29, .c (.int .u32 3584528711)), (30, .c (.int .u32 113926993)), (31, .c (.int .u32 338241895)), (32, .c (.int .u32 666307205)), (33, .c (.int .u32 773529912)), (34, .c (.int .u32 1294757372)), (35, .c (.int .u32 1396182291)), (36, .c (.int .u32 1695183700)), (37, .c (.int .u32 1986661051)), (38, .c (.int .u32 2177026350)), (39, .c (.int .u32 2456956037)), (40, .c (.int .u32 2730485921)), (41, .c (.int .u32 2820302411)), (42, .c (.int .u32 3259730800)), (43, .c (.int .u32 3345764771)), (44, .c (.int .u32 3516065817)), (45, .c (.int .u32 3600352804)), (46, .c (.int .u32 4094571909)), (47, .c (.int .u32 275423344)), (48, .c (.int .u32 430227734)), (49, .c (.int .u32 506948616)), (50, .c (.int .u32 659060556)), (51, .c (.int .u32 883997877)), (52, .c (.int .u32 958139571)), (53, .c (.int .u32 1322822218)), (54, .c (.int .u32 1537002063)), (55, .c (.int .u32 1747873779)), (56, .c (.int .u32 1955562222)), (57, .c (.int .u32 2024104815)), (58, .c (.int .u32 2227730452)), (59, .c (.int .u32 2361852424)), (60, .c (.int .u32 2428436474)), (61, .c (.int .u32 2756734187)), (62, .c (.int .u32 3204031479)), (63, .c (.int .u32 3329325298))]),
 o 3 (.mv (.t 5))] [2, 3]) (
.seq (.reg none [
 o 6 (.mv (.t 2)),
 o 7 (.mv (.t 3)),
 o 0 (.mv (.t 6)),
 o 1 (.mv (.t 7))] [0, 1]) (
.ret))))
def r_ref02_Known : List RD := [.tmp 0, .tmp 1]
theorem k_ref02_Known : chkFn Pg n_ref02_Known c_ref02_Known r_ref02_Known 0 = true := by kernel_rfl
/-- quitclaim/quitclaimref03.Text -/
def c_ref03_Text : CC :=
.seq (.reg none [
 o 4 (.mv (.c (.str [])))] [0, 1]) (
.seq (.reg none [
 o 9 (.mv (.t 0)),
 o 10 (.len 0 (.t 9)),
 o 11 (.conv .u8 (.t 10)),
 o 12 (.lit 1 (.int .u8 0) 1 [(0, .t 11)]),
 o 13 (.b2s (.t 12)),
 o 14 (.mv (.t 0)),
 o 15 (.bin .add (.t 13) (.t 14)),
 o 5 (.mv (.t 15))] [1, 5]) (
.seq (.seq (.reg none [
 o 6 (.mv (.c (.int .i64 0)))] [1, 5, 6]) (
.block 0 (
.wk (.loop (.wk (
.seq (.seq (.reg none [
 o 16 (.mv (.t 6)),
 o 17 (.mv (.t 1)),
 o 18 (.len 1 (.t 17)),
 o 19 (.bin .lss (.t 16) (.t 18))] [1, 5, 6, 19]) (
.cond (.t 19) (.skip) (
.exit 0))) (
.seq (.block 1 (
.seq (.reg none [
 o 23 (.mv (.t 1)),
 o 24 (.mv (.t 6)),
 o 25 (.iaddr 1 (.t 23) (.t 24)),
 o 26 (.load 1 false (.t 25)),
 o 27 (.len 0 (.t 26)),
 o 28 (.conv .u64 (.t 27)),
 o 29 (.call n_ref01_Number [.t 28, .c (.int .i64 8)]),
 o 22 (.mv (.t 29)),
 o 30 (.extract 0 (.t 22)),
 o 31 (.extract 1 (.t 22)),
 o 7 (.mv (.t 30)),
 o 8 (.mv (.t 31))] [1, 5, 6, 7]) (
.reg none [
 o 32 (.mv (.t 5)),
 o 33 (.mv (.t 7)),
 o 34 (.mv (.t 1)),
 o 35 (.mv (.t 6)),
 o 36 (.iaddr 1 (.t 34) (.t 35)),
 o 37 (.load 1 false (.t 36)),
 o 38 (.bin .add (.t 33) (.t 37)),
 o 39 (.bin .add (.t 32) (.t 38)),
 o 5 (.mv (.t 39))] [1, 5, 6]))) (
.reg none [
 o 20 (.mv (.t 6)),
 o 21 (.bin .add (.t 20) (.c (.int .i64 1))),
 o 6 (.mv (.t 21))] [1, 5, 6])))))))) (
.seq (.reg none [
 o 40 (.mv (.t 5)),
 o 4 (.mv (.t 40))] [4]) (
.ret))))
def r_ref03_Text : List RD := [.tmp 4]
theorem k_ref03_Text : chkFn Pg n_ref03_Text c_ref03_Text r_ref03_Text 2 = true := by kernel_rfl
/-- quitclaim/quitclaimref04.Has -/
def c_ref04_Has : CC :=
.seq (.reg none [
 o 3 (.box (.t 1)),
 o 4 (.mv (.c (.bool false)))] [0, 3]) (
.seq (.seq (.reg none [
 o 5 (.mv (.c (.int .i64 0)))] [0, 3, 5]) (
.block 0 (
.wk (.loop (.wk (
.seq (.seq (.reg none [
 o 6 (.mv (.t 5)),
 o 7 (.mv (.t 0)),
 o 8 (.len 1 (.t 7)),
 o 9 (.bin .lss (.t 6) (.t 8))] [0, 3, 5, 9]) (
.cond (.t 9) (.skip) (
.exit 0))) (
.seq (.block 1 (
.seq (.reg (some 6) [
 o 12 (.mv (.t 0)),
 o 13 (.mv (.t 5)),
 o 14 (.iaddr 32 (.t 12) (.t 13)),
 o 15 (.load 32 true (.t 14)),
 o 16 (.load 32 true (.t 3)),
 o 17 (.eqv (.arr 32 (.int .u8)) false (.t 15) (.t 16))] [0, 3, 5, 17]) (
.cond (.t 17) (.seq (.reg none [
 o 4 (.mv (.c (.bool true)))] [4]) (
.ret)) (
.skip)))) (
.reg none [
 o 10 (.mv (.t 5)),
 o 11 (.bin .add (.t 10) (.c (.int .i64 1))),
 o 5 (.mv (.t 11))] [0, 3, 5])))))))) (
.seq (.reg none [
 o 4 (.mv (.c (.bool false)))] [4]) (
.ret)))
def r_ref04_Has : List RD := [.tmp 4]
theorem k_ref04_Has : chkFn Pg n_ref04_Has c_ref04_Has r_ref04_Has 2 = true := by kernel_rfl
/-- quitclaim/quitclaimref04.Less -/
def c_ref04_Less : CC :=
.seq (.reg none [
 o 2 (.box (.t 0)),
 o 3 (.box (.t 1)),
 o 4 (.mv (.c (.bool false)))] [2, 3]) (
.seq (.seq (.reg none [
 o 5 (.mv (.c (.int .i64 0)))] [2, 3, 5]) (
.block 0 (
.wk (.loop (.wk (
.seq (.seq (.reg none [
 o 6 (.mv (.t 5)),
 o 7 (.bin .lss (.t 6) (.c (.int .i64 32)))] [2, 3, 5, 7]) (
.cond (.t 7) (.skip) (
.exit 0))) (
.seq (.block 1 (
.seq (.reg (some 7) [
 o 10 (.mv (.t 5)),
 o 11 (.iaddrA 32 1 (.t 2) (.t 10)),
 o 12 (.load 1 false (.t 11)),
 o 13 (.mv (.t 5)),
 o 14 (.iaddrA 32 1 (.t 3) (.t 13)),
 o 15 (.load 1 false (.t 14)),
 o 16 (.bin .neq (.t 12) (.t 15))] [2, 3, 5, 16]) (
.cond (.t 16) (.seq (.reg (some 8) [
 o 17 (.mv (.t 5)),
 o 18 (.iaddrA 32 1 (.t 2) (.t 17)),
 o 19 (.load 1 false (.t 18)),
 o 20 (.mv (.t 5)),
 o 21 (.iaddrA 32 1 (.t 3) (.t 20)),
 o 22 (.load 1 false (.t 21)),
 o 23 (.bin .lss (.t 19) (.t 22)),
 o 4 (.mv (.t 23))] [4]) (
.ret)) (
.skip)))) (
.reg none [
 o 8 (.mv (.t 5)),
 o 9 (.bin .add (.t 8) (.c (.int .i64 1))),
 o 5 (.mv (.t 9))] [2, 3, 5])))))))) (
.seq (.reg none [
 o 4 (.mv (.c (.bool false)))] [4]) (
.ret)))
def r_ref04_Less : List RD := [.tmp 4]
theorem k_ref04_Less : chkFn Pg n_ref04_Less c_ref04_Less r_ref04_Less 2 = true := by kernel_rfl
/-- quitclaim/quitclaimref10.letter -/
def c_ref10_letter : CC :=
.seq (.reg none [
 o 2 (.mv (.c (.bool false)))] [0]) (
.seq (.reg none [
 o 3 (.mv (.c (.str [97, 98, 99, 100, 101, 102, 103, 104, 105, 106, 107, 108, 109, 110, 111, 112, 113, 114, 115, 116, 117, 118, 119, 120, 121, 122, 48, 49, 50, 51, 52, 53, 54, 55, 56, 57, 46, 95, 45])))] [0, 3]) (
.seq (.seq (.reg none [
 o 4 (.mv (.c (.int .i64 0)))] [0, 3, 4]) (
.block 0 (
.wk (.loop (.wk (
.seq (.seq (.reg none [
 o 5 (.mv (.t 4)),
 o 6 (.mv (.t 3)),
 o 7 (.len 0 (.t 6)),
 o 8 (.bin .lss (.t 5) (.t 7))] [0, 3, 4, 8]) (
.cond (.t 8) (.skip) (
.exit 0))) (
.seq (.block 1 (
.seq (.reg none [
 o 11 (.mv (.t 3)),
 o 12 (.mv (.t 4)),
 o 13 (.idxS (.t 11) (.t 12)),
 o 14 (.mv (.t 0)),
 o 15 (.bin .eql (.t 13) (.t 14))] [0, 3, 4, 15]) (
.cond (.t 15) (.seq (.reg none [
 o 2 (.mv (.c (.bool true)))] [2]) (
.ret)) (
.skip)))) (
.reg none [
 o 9 (.mv (.t 4)),
 o 10 (.bin .add (.t 9) (.c (.int .i64 1))),
 o 4 (.mv (.t 10))] [0, 3, 4])))))))) (
.seq (.reg none [
 o 2 (.mv (.c (.bool false)))] [2]) (
.ret))))
def r_ref10_letter : List RD := [.tmp 2]
theorem k_ref10_letter : chkFn Pg n_ref10_letter c_ref10_letter r_ref10_letter 1 = true := by kernel_rfl
/-- quitclaim/signer.Put -/
def c_signer_Put : CC :=
.seq (.reg none [
 o 3 (.box (.t 1))] [0, 3]) (
.seq (.seq (.reg none [
 o 4 (.mv (.t 0)),
 o 5 (.faddr 0 0 (.t 3)),
 o 6 (.load 1 false (.t 5)),
 o 7 (.call n_pack_Writer_Num [.t 4, .t 6]),
 o 8 (.not (.t 7))] [0, 3, 8]) (
.cond (.t 8) (.reg none [
 o 9 (.mv (.t 0)),
 o 10 (.call n_pack_Writer_Num [.t 9, .c (.int .i64 0)])] [0, 3]) (
.skip))) (
.seq (.reg none [
 o 11 (.mv (.t 0)),
 o 12 (.faddr 1 1 (.t 3)),
 o 13 (.load 1 false (.t 12)),
 o 14 (.call n_pack_Writer_Ids [.t 11, .t 13])] [0, 3]) (
.seq (.reg none [
 o 15 (.mv (.t 0)),
 o 16 (.faddr 2 2 (.t 3)),
 o 17 (.load 1 false (.t 16)),
 o 18 (.call n_pack_Writer_Ids [.t 15, .t 17])] [0, 3]) (
.reg none [
 o 19 (.mv (.t 0)),
 o 20 (.faddr 3 3 (.t 3)),
 o 21 (.load 1 false (.t 20)),
 o 22 (.call n_pack_Writer_Ids [.t 19, .t 21])] []))))
def r_signer_Put : List RD := []
theorem k_signer_Put : chkFn Pg n_signer_Put c_signer_Put r_signer_Put 2 = true := by kernel_rfl
/-- slices.ContainsFunc[[]string,string] -/
def c_slices_ContainsFunc_string : CC :=
.seq (.reg none [
 o 4 (.mv (.c (.bool false)))] [0, 1]) (
.seq (.reg none [
 o 5 (.mv (.t 0)),
 o 6 (.mv (.t 1)),
 o 7 (.call n_slices_IndexFunc_string [.t 5, .t 6]),
 o 8 (.bin .geq (.t 7) (.c (.int .i64 0))),
 o 4 (.mv (.t 8))] [4]) (
.ret))
def r_slices_ContainsFunc_string : List RD := [.tmp 4]
theorem k_slices_ContainsFunc_string : chkFn Pg n_slices_ContainsFunc_string c_slices_ContainsFunc_string r_slices_ContainsFunc_string 2 = true := by kernel_rfl
/-- slices.insertionSortCmpFunc[quitclaim/api.Id] -/
def c_slices_insertionSortCmpFunc_Id : CC :=
.seq (.reg none [
 o 10 (.mv (.t 1)),
 o 11 (.bin .add (.t 10) (.c (.int .i64 1))),
 o 8 (.mv (.t 11))] [0, 1, 2, 3, 8]) (
.block 0 (
.wk (.loop (.wk (
.seq (.seq (.reg none [
 o 12 (.mv (.t 8)),
 o 13 (.mv (.t 2)),
 o 14 (.bin .lss (.t 12) (.t 13))] [0, 1, 2, 3, 8, 14]) (
.cond (.t 14) (.skip) (
.exit 0))) (
.seq (.block 1 (
.seq (.reg none [
 o 17 (.mv (.t 8)),
 o 9 (.mv (.t 17))] [0, 1, 2, 3, 8, 9]) (
.block 2 (
.wk (.loop (.wk (
.seq (.seq (.reg (some 17) [
 o 18 (.mv (.t 9)),
 o 19 (.mv (.t 1)),
 o 20 (.bin .gtr (.t 18) (.t 19)),
 o 21 (.mv (.t 20)),
 g 22 (.mv (.t 3)) 21 true,
 g 23 (.mv (.t 0)) 21 true,
 g 24 (.mv (.t 9)) 21 true,
 g 25 (.iaddr 32 (.t 23) (.t 24)) 21 true,
 g 26 (.load 32 true (.t 25)) 21 true,
 g 27 (.mv (.t 0)) 21 true,
 g 28 (.mv (.t 9)) 21 true,
 g 29 (.bin .sub (.t 28) (.c (.int .i64 1))) 21 true,
 g 30 (.iaddr 32 (.t 27) (.t 29)) 21 true,
 g 31 (.load 32 true (.t 30)) 21 true,
 g 32 (.callv (.t 22) [.t 26, .t 31]) 21 true,
 g 33 (.bin .lss (.t 32) (.c (.int .i64 0))) 21 true,
 o 34 (.pick (.t 21) (.t 33) (.c (.bool false)))] [0, 1, 2, 3, 8, 9, 34]) (
.cond (.t 34) (.skip) (
.exit 2))) (
.seq (.block 3 (
.regm [
 q 0 0 (o 37 (.mv (.t 0))),
 q 0 0 (o 38 (.mv (.t 9))),
 q 0 1 (o 39 (.mv (.t 0))),
 q 0 1 (o 40 (.mv (.t 9))),
 q 0 1 (o 41 (.bin .sub (.t 40) (.c (.int .i64 1)))),
 q 0 0 (o 42 (.mv (.t 0))),
 q 0 0 (o 43 (.mv (.t 9))),
 q 0 0 (o 44 (.bin .sub (.t 43) (.c (.int .i64 1)))),
 q 0 0 (o 45 (.iaddr 32 (.t 42) (.t 44))),
 q 0 0 (o 46 (.load 32 true (.t 45))),
 q 0 1 (o 47 (.mv (.t 0))),
 q 0 1 (o 48 (.mv (.t 9))),
 q 0 1 (o 49 (.iaddr 32 (.t 47) (.t 48))),
 q 0 0 (o 50 (.load 32 true (.t 49))),
 q 0 0 (o 51 (.iaddr 32 (.t 37) (.t 38))),
 f (e (.store 32 (.t 51) (.t 46))),
 q 1 1 (o 52 (.iaddr 32 (.t 39) (.t 41))),
 f (e (.store 32 (.t 52) (.t 50)))] [0, 1, 2, 3, 8, 9])) (
.reg none [
 o 35 (.mv (.t 9)),
 o 36 (.bin .sub (.t 35) (.c (.int .i64 1))),
 o 9 (.mv (.t 36))] [0, 1, 2, 3, 8, 9]))))))))) (
.reg none [
 o 15 (.mv (.t 8)),
 o 16 (.bin .add (.t 15) (.c (.int .i64 1))),
 o 8 (.mv (.t 16))] [0, 1, 2, 3, 8])))))))
def r_slices_insertionSortCmpFunc_Id : List RD := []
theorem k_slices_insertionSortCmpFunc_Id : chkFn Pg n_slices_insertionSortCmpFunc_Id c_slices_insertionSortCmpFunc_Id r_slices_insertionSortCmpFunc_Id 4 = true := by kernel_rfl
/-- slices.partialInsertionSortCmpFunc[quitclaim/api.Id] -/
def c_slices_partialInsertionSortCmpFunc_Id : CC :=
.seq (.reg none [
 o 8 (.mv (.c (.bool false)))] [0, 1, 2, 3]) (
.seq (.reg none [
 o 13 (.mv (.t 1)),
 o 14 (.bin .add (.t 13) (.c (.int .i64 1))),
 o 9 (.mv (.t 14))] [0, 1, 2, 3, 9]) (
.seq (.seq (.reg none [
 o 10 (.mv (.c (.int .i64 0)))] [0, 1, 2, 3, 9, 10]) (
.block 0 (
.wk (.loop (.wk (
.seq (.seq (.reg none [
 o 15 (.mv (.t 10)),
 o 16 (.bin .lss (.t 15) (.c (.int .i64 5)))] [0, 1, 2, 3, 9, 10, 16]) (
.cond (.t 16) (.skip) (
.exit 0))) (
.seq (.block 1 (
.seq (.block 2 (
.wk (.loop (.wk (
.seq (.seq (.reg (some 18) [
 o 19 (.mv (.t 9)),
 o 20 (.mv (.t 2)),
 o 21 (.bin .lss (.t 19) (.t 20)),
 o 22 (.mv (.t 21)),
 g 23 (.mv (.t 3)) 22 true,
 g 24 (.mv (.t 0)) 22 true,
 g 25 (.mv (.t 9)) 22 true,
 g 26 (.iaddr 32 (.t 24) (.t 25)) 22 true,
 g 27 (.load 32 true (.t 26)) 22 true,
 g 28 (.mv (.t 0)) 22 true,
 g 29 (.mv (.t 9)) 22 true,
 g 30 (.bin .sub (.t 29) (.c (.int .i64 1))) 22 true,
 g 31 (.iaddr 32 (.t 28) (.t 30)) 22 true,
 g 32 (.load 32 true (.t 31)) 22 true,
 g 33 (.callv (.t 23) [.t 27, .t 32]) 22 true,
 g 34 (.bin .lss (.t 33) (.c (.int .i64 0))) 22 true,
 g 35 (.not (.t 34)) 22 true,
 o 36 (.pick (.t 22) (.t 35) (.c (.bool false)))] [0, 1, 2, 3, 9, 10, 36]) (
.cond (.t 36) (.skip) (
.exit 2))) (
.block 3 (
.reg none [
 o 37 (.mv (.t 9)),
 o 38 (.bin .add (.t 37) (.c (.int .i64 1))),
 o 9 (.mv (.t 38))] [0, 1, 2, 3, 9, 10]))))))) (
.seq (.seq (.reg none [
 o 39 (.mv (.t 9)),
 o 40 (.mv (.t 2)),
 o 41 (.bin .eql (.t 39) (.t 40))] [0, 1, 2, 3, 9, 10, 41]) (
.cond (.t 41) (.seq (.reg none [
 o 8 (.mv (.c (.bool true)))] [8]) (
.ret)) (
.skip))) (
.seq (.seq (.reg none [
 o 42 (.mv (.t 2)),
 o 43 (.mv (.t 1)),
 o 44 (.bin .sub (.t 42) (.t 43)),
 o 45 (.bin .lss (.t 44) (.c (.int .i64 50)))] [0, 1, 2, 3, 9, 10, 45]) (
.cond (.t 45) (.seq (.reg none [
 o 8 (.mv (.c (.bool false)))] [8]) (
.ret)) (
.skip))) (
.seq (.regm [
 q 0 0 (o 46 (.mv (.t 0))),
 q 0 0 (o 47 (.mv (.t 9))),
 q 0 1 (o 48 (.mv (.t 0))),
 q 0 1 (o 49 (.mv (.t 9))),
 q 0 1 (o 50 (.bin .sub (.t 49) (.c (.int .i64 1)))),
 q 0 0 (o 51 (.mv (.t 0))),
 q 0 0 (o 52 (.mv (.t 9))),
 q 0 0 (o 53 (.bin .sub (.t 52) (.c (.int .i64 1)))),
 q 0 0 (o 54 (.iaddr 32 (.t 51) (.t 53))),
 q 0 0 (o 55 (.load 32 true (.t 54))),
 q 0 1 (o 56 (.mv (.t 0))),
 q 0 1 (o 57 (.mv (.t 9))),
 q 0 1 (o 58 (.iaddr 32 (.t 56) (.t 57))),
 q 0 0 (o 59 (.load 32 true (.t 58))),
 q 0 0 (o 60 (.iaddr 32 (.t 46) (.t 47))),
 f (e (.store 32 (.t 60) (.t 55))),
 q 1 1 (o 61 (.iaddr 32 (.t 48) (.t 50))),
 f (e (.store 32 (.t 61) (.t 59)))] [0, 1, 2, 3, 9, 10]) (
.seq (.seq (.reg none [
 o 62 (.mv (.t 9)),
 o 63 (.mv (.t 1)),
 o 64 (.bin .sub (.t 62) (.t 63)),
 o 65 (.bin .geq (.t 64) (.c (.int .i64 2)))] [0, 1, 2, 3, 9, 10, 65]) (
.cond (.t 65) (.seq (.reg none [
 o 66 (.mv (.t 9)),
 o 67 (.bin .sub (.t 66) (.c (.int .i64 1))),
 o 11 (.mv (.t 67))] [0, 1, 2, 3, 9, 10, 11]) (
.block 4 (
.wk (.loop (.wk (
.seq (.seq (.reg none [
 o 68 (.mv (.t 11)),
 o 69 (.bin .geq (.t 68) (.c (.int .i64 1)))] [0, 1, 2, 3, 9, 10, 11, 69]) (
.cond (.t 69) (.skip) (
.exit 4))) (
.seq (.block 5 (
.seq (.seq (.reg (some 13) [
 o 72 (.mv (.t 3)),
 o 73 (.mv (.t 0)),
 o 74 (.mv (.t 11)),
 o 75 (.iaddr 32 (.t 73) (.t 74)),
 o 76 (.load 32 true (.t 75)),
 o 77 (.mv (.t 0)),
 o 78 (.mv (.t 11)),
 o 79 (.bin .sub (.t 78) (.c (.int .i64 1))),
 o 80 (.iaddr 32 (.t 77) (.t 79)),
 o 81 (.load 32 true (.t 80)),
 o 82 (.callv (.t 72) [.t 76, .t 81]),
 o 83 (.bin .lss (.t 82) (.c (.int .i64 0))),
 o 84 (.not (.t 83))] [0, 1, 2, 3, 9, 10, 11, 84]) (
.cond (.t 84) (.exit 4) (
.skip))) (
.regm [
 q 0 0 (o 85 (.mv (.t 0))),
 q 0 0 (o 86 (.mv (.t 11))),
 q 0 1 (o 87 (.mv (.t 0))),
 q 0 1 (o 88 (.mv (.t 11))),
 q 0 1 (o 89 (.bin .sub (.t 88) (.c (.int .i64 1)))),
 q 0 0 (o 90 (.mv (.t 0))),
 q 0 0 (o 91 (.mv (.t 11))),
 q 0 0 (o 92 (.bin .sub (.t 91) (.c (.int .i64 1)))),
 q 0 0 (o 93 (.iaddr 32 (.t 90) (.t 92))),
 q 0 0 (o 94 (.load 32 true (.t 93))),
 q 0 1 (o 95 (.mv (.t 0))),
 q 0 1 (o 96 (.mv (.t 11))),
 q 0 1 (o 97 (.iaddr 32 (.t 95) (.t 96))),
 q 0 0 (o 98 (.load 32 true (.t 97))),
 q 0 0 (o 99 (.iaddr 32 (.t 85) (.t 86))),
 f (e (.store 32 (.t 99) (.t 94))),
 q 1 1 (o 100 (.iaddr 32 (.t 87) (.t 89))),
 f (e (.store 32 (.t 100) (.t 98)))] [0, 1, 2, 3, 9, 10, 11]))) (
.reg none [
 o 70 (.mv (.t 11)),
 o 71 (.bin .sub (.t 70) (.c (.int .i64 1))),
 o 11 (.mv (.t 71))] [0, 1, 2, 3, 9, 10, 11])))))))) (
.skip))) (
.seq (.reg none [
 o 101 (.mv (.t 2)),
 o 102 (.mv (.t 9)),
 o 103 (.bin .sub (.t 101) (.t 102)),
 o 104 (.bin .geq (.t 103) (.c (.int .i64 2)))] [0, 1, 2, 3, 9, 10, 104]) (
.cond (.t 104) (.seq (.reg none [
 o 105 (.mv (.t 9)),
 o 106 (.bin .add (.t 105) (.c (.int .i64 1))),
 o 12 (.mv (.t 106))] [0, 1, 2, 3, 9, 10, 12]) (
.block 6 (
.wk (.loop (.wk (
.seq (.seq (.reg none [
 o 107 (.mv (.t 12)),
 o 108 (.mv (.t 2)),
 o 109 (.bin .lss (.t 107) (.t 108))] [0, 1, 2, 3, 9, 10, 12, 109]) (
.cond (.t 109) (.skip) (
.exit 6))) (
.seq (.block 7 (
.seq (.seq (.reg (some 13) [
 o 112 (.mv (.t 3)),
 o 113 (.mv (.t 0)),
 o 114 (.mv (.t 12)),
 o 115 (.iaddr 32 (.t 113) (.t 114)),
 o 116 (.load 32 true (.t 115)),
 o 117 (.mv (.t 0)),
 o 118 (.mv (.t 12)),
 o 119 (.bin .sub (.t 118) (.c (.int .i64 1))),
 o 120 (.iaddr 32 (.t 117) (.t 119)),
 o 121 (.load 32 true (.t 120)),
 o 122 (.callv (.t 112) [.t 116, .t 121]),
 o 123 (.bin .lss (.t 122) (.c (.int .i64 0))),
 o 124 (.not (.t 123))] [0, 1, 2, 3, 9, 10, 12, 124]) (
.cond (.t 124) (.exit 6) (
.skip))) (
.regm [
 q 0 0 (o 125 (.mv (.t 0))),
 q 0 0 (o 126 (.mv (.t 12))),
 q 0 1 (o 127 (.mv (.t 0))),
 q 0 1 (o 128 (.mv (.t 12))),
 q 0 1 (o 129 (.bin .sub (.t 128) (.c (.int .i64 1)))),
 q 0 0 (o 130 (.mv (.t 0))),
 q 0 0 (o 131 (.mv (.t 12))),
 q 0 0 (o 132 (.bin .sub (.t 131) (.c (.int .i64 1)))),
 q 0 0 (o 133 (.iaddr 32 (.t 130) (.t 132))),
 q 0 0 (o 134 (.load 32 true (.t 133))),
 q 0 1 (o 135 (.mv (.t 0))),
 q 0 1 (o 136 (.mv (.t 12))),
 q 0 1 (o 137 (.iaddr 32 (.t 135) (.t 136))),
 q 0 0 (o 138 (.load 32 true (.t 137))),
 q 0 0 (o 139 (.iaddr 32 (.t 125) (.t 126))),
 f (e (.store 32 (.t 139) (.t 134))),
 q 1 1 (o 140 (.iaddr 32 (.t 127) (.t 129))),
 f (e (.store 32 (.t 140) (.t 138)))] [0, 1, 2, 3, 9, 10, 12]))) (
.reg none [
 o 110 (.mv (.t 12)),
 o 111 (.bin .add (.t 110) (.c (.int .i64 1))),
 o 12 (.mv (.t 111))] [0, 1, 2, 3, 9, 10, 12])))))))) (
.skip))))))))) (
.reg none [
 o 17 (.mv (.t 10)),
 o 18 (.bin .add (.t 17) (.c (.int .i64 1))),
 o 10 (.mv (.t 18))] [0, 1, 2, 3, 9, 10])))))))) (
.seq (.reg none [
 o 8 (.mv (.c (.bool false)))] [8]) (
.ret))))
def r_slices_partialInsertionSortCmpFunc_Id : List RD := [.tmp 8]
theorem k_slices_partialInsertionSortCmpFunc_Id : chkFn Pg n_slices_partialInsertionSortCmpFunc_Id c_slices_partialInsertionSortCmpFunc_Id r_slices_partialInsertionSortCmpFunc_Id 4 = true := by kernel_rfl
/-- slices.pdqsortCmpFunc[quitclaim/api.Id] -/
def c_slices_pdqsortCmpFunc_Id : CC :=
.seq (.reg none [
 o 10 (.mv (.c (.bool true)))] [0, 1, 2, 3, 4, 10]) (
.seq (.reg none [
 o 11 (.mv (.c (.bool true)))] [0, 1, 2, 3, 4, 10, 11]) (
.block 0 (
.wk (.loop (.wk (
.block 1 (
.seq (.reg none [
 o 21 (.mv (.t 2)),
 o 22 (.mv (.t 1)),
 o 23 (.bin .sub (.t 21) (.t 22)),
 o 12 (.mv (.t 23))] [0, 1, 2, 3, 4, 10, 11, 12]) (
.seq (.seq (.reg none [
 o 24 (.mv (.t 12)),
 o 25 (.bin .leq (.t 24) (.c (.int .i64 12)))] [0, 1, 2, 3, 4, 10, 11, 12, 25]) (
.cond (.t 25) (.seq (.reg none [
 o 26 (.mv (.t 0)),
 o 27 (.mv (.t 1)),
 o 28 (.mv (.t 2)),
 o 29 (.mv (.t 4)),
 o 30 (.call n_slices_insertionSortCmpFunc_Id [.t 26, .t 27, .t 28, .t 29])] []) (
.ret)) (
.skip))) (
.seq (.seq (.reg none [
 o 31 (.mv (.t 3)),
 o 32 (.bin .eql (.t 31) (.c (.int .i64 0)))] [0, 1, 2, 3, 4, 10, 11, 12, 32]) (
.cond (.t 32) (.seq (.reg none [
 o 33 (.mv (.t 0)),
 o 34 (.mv (.t 1)),
 o 35 (.mv (.t 2)),
 o 36 (.mv (.t 4)),
 o 37 (.call n_slices_heapSortCmpFunc_Id [.t 33, .t 34, .t 35, .t 36])] []) (
.ret)) (
.skip))) (
.seq (.seq (.reg none [
 o 38 (.mv (.t 10)),
 o 39 (.not (.t 38))] [0, 1, 2, 3, 4, 10, 11, 12, 39]) (
.cond (.t 39) (.seq (.reg none [
 o 40 (.mv (.t 0)),
 o 41 (.mv (.t 1)),
 o 42 (.mv (.t 2)),
 o 43 (.mv (.t 4)),
 o 44 (.call n_slices_breakPatternsCmpFunc_Id [.t 40, .t 41, .t 42, .t 43])] [0, 1, 2, 3, 4, 10, 11, 12]) (
.reg none [
 o 45 (.mv (.t 3)),
 o 46 (.bin .sub (.t 45) (.c (.int .i64 1))),
 o 3 (.mv (.t 46))] [0, 1, 2, 3, 4, 10, 11, 12])) (
.skip))) (
.seq (.reg none [
 o 48 (.mv (.t 0)),
 o 49 (.mv (.t 1)),
 o 50 (.mv (.t 2)),
 o 51 (.mv (.t 4)),
 o 52 (.call n_slices_choosePivotCmpFunc_Id [.t 48, .t 49, .t 50, .t 51]),
 o 47 (.mv (.t 52)),
 o 53 (.extract 0 (.t 47)),
 o 54 (.extract 1 (.t 47)),
 o 13 (.mv (.t 53)),
 o 14 (.mv (.t 54))] [0, 1, 2, 3, 4, 10, 11, 12, 13, 14]) (
.seq (.seq (.reg none [
 o 55 (.mv (.t 14)),
 o 56 (.bin .eql (.t 55) (.c (.int .i64 2)))] [0, 1, 2, 3, 4, 10, 11, 12, 13, 14, 56]) (
.cond (.t 56) (.seq (.reg none [
 o 57 (.mv (.t 0)),
 o 58 (.mv (.t 1)),
 o 59 (.mv (.t 2)),
 o 60 (.mv (.t 4)),
 o 61 (.call n_slices_reverseRangeCmpFunc_Id [.t 57, .t 58, .t 59, .t 60])] [0, 1, 2, 3, 4, 10, 11, 12, 13]) (
.seq (.reg none [
 o 62 (.mv (.t 2)),
 o 63 (.bin .sub (.t 62) (.c (.int .i64 1))),
 o 64 (.mv (.t 13)),
 o 65 (.mv (.t 1)),
 o 66 (.bin .sub (.t 64) (.t 65)),
 o 67 (.bin .sub (.t 63) (.t 66)),
 o 13 (.mv (.t 67))] [0, 1, 2, 3, 4, 10, 11, 12, 13]) (
.reg none [
 o 14 (.mv (.c (.int .i64 1)))] [0, 1, 2, 3, 4, 10, 11, 12, 13, 14]))) (
.skip))) (
.seq (.seq (.reg none [
 o 68 (.mv (.t 10)),
 o 69 (.mv (.t 68)),
 g 70 (.mv (.t 11)) 69 true,
 o 71 (.pick (.t 69) (.t 70) (.c (.bool false))),
 o 72 (.mv (.t 71)),
 g 73 (.mv (.t 14)) 72 true,
 g 74 (.bin .eql (.t 73) (.c (.int .i64 1))) 72 true,
 o 75 (.pick (.t 72) (.t 74) (.c (.bool false)))] [0, 1, 2, 3, 4, 10, 11, 12, 13, 75]) (
.cond (.t 75) (.seq (.reg none [
 o 76 (.mv (.t 0)),
 o 77 (.mv (.t 1)),
 o 78 (.mv (.t 2)),
 o 79 (.mv (.t 4)),
 o 80 (.call n_slices_partialInsertionSortCmpFunc_Id [.t 76, .t 77, .t 78, .t 79])] [0, 1, 2, 3, 4, 10, 11, 12, 13, 80]) (
.cond (.t 80) (.ret) (
.skip))) (
.skip))) (
.seq (.seq (.reg (some 17) [
 o 81 (.mv (.t 1)),
 o 82 (.bin .gtr (.t 81) (.c (.int .i64 0))),
 o 83 (.mv (.t 82)),
 g 84 (.mv (.t 4)) 83 true,
 g 85 (.mv (.t 0)) 83 true,
 g 86 (.mv (.t 1)) 83 true,
 g 87 (.bin .sub (.t 86) (.c (.int .i64 1))) 83 true,
 g 88 (.iaddr 32 (.t 85) (.t 87)) 83 true,
 g 89 (.load 32 true (.t 88)) 83 true,
 g 90 (.mv (.t 0)) 83 true,
 g 91 (.mv (.t 13)) 83 true,
 g 92 (.iaddr 32 (.t 90) (.t 91)) 83 true,
 g 93 (.load 32 true (.t 92)) 83 true,
 g 94 (.callv (.t 84) [.t 89, .t 93]) 83 true,
 g 95 (.bin .lss (.t 94) (.c (.int .i64 0))) 83 true,
 g 96 (.not (.t 95)) 83 true,
 o 97 (.pick (.t 83) (.t 96) (.c (.bool false)))] [0, 1, 2, 3, 4, 10, 11, 12, 13, 97]) (
.cond (.t 97) (.seq (.reg none [
 o 98 (.mv (.t 0)),
 o 99 (.mv (.t 1)),
 o 100 (.mv (.t 2)),
 o 101 (.mv (.t 13)),
 o 102 (.mv (.t 4)),
 o 103 (.call n_slices_partitionEqualCmpFunc_Id [.t 98, .t 99, .t 100, .t 101, .t 102]),
 o 15 (.mv (.t 103))] [0, 2, 3, 4, 10, 11, 15]) (
.seq (.reg none [
 o 104 (.mv (.t 15)),
 o 1 (.mv (.t 104))] [0, 1, 2, 3, 4, 10, 11]) (
.exit 1))) (
.skip))) (
.seq (.reg none [
 o 106 (.mv (.t 0)),
 o 107 (.mv (.t 1)),
 o 108 (.mv (.t 2)),
 o 109 (.mv (.t 13)),
 o 110 (.mv (.t 4)),
 o 111 (.call n_slices_partitionCmpFunc_Id [.t 106, .t 107, .t 108, .t 109, .t 110]),
 o 105 (.mv (.t 111)),
 o 112 (.extract 0 (.t 105)),
 o 113 (.extract 1 (.t 105)),
 o 16 (.mv (.t 112)),
 o 17 (.mv (.t 113))] [0, 1, 2, 3, 4, 12, 16, 17]) (
.seq (.reg none [
 o 114 (.mv (.t 17)),
 o 11 (.mv (.t 114))] [0, 1, 2, 3, 4, 11, 12, 16]) (
.seq (.reg none [
 o 115 (.mv (.t 16)),
 o 116 (.mv (.t 1)),
 o 117 (.bin .sub (.t 115) (.t 116)),
 o 118 (.mv (.t 2)),
 o 119 (.mv (.t 16)),
 o 120 (.bin .sub (.t 118) (.t 119)),
 o 18 (.mv (.t 117)),
 o 19 (.mv (.t 120))] [0, 1, 2, 3, 4, 11, 12, 16, 18, 19]) (
.seq (.reg none [
 o 121 (.mv (.t 12)),
 o 122 (.bin .quo (.t 121) (.c (.int .i64 8))),
 o 20 (.mv (.t 122))] [0, 1, 2, 3, 4, 11, 16, 18, 19, 20]) (
.seq (.reg none [
 o 123 (.mv (.t 18)),
 o 124 (.mv (.t 19)),
 o 125 (.bin .lss (.t 123) (.t 124))] [0, 1, 2, 3, 4, 11, 16, 18, 19, 20, 125]) (
.cond (.t 125) (.seq (.reg none [
 o 126 (.mv (.t 18)),
 o 127 (.mv (.t 20)),
 o 128 (.bin .geq (.t 126) (.t 127)),
 o 10 (.mv (.t 128))] [0, 1, 2, 3, 4, 10, 11, 16]) (
.seq (.reg none [
 o 129 (.mv (.t 0)),
 o 130 (.mv (.t 1)),
 o 131 (.mv (.t 16)),
 o 132 (.mv (.t 3)),
 o 133 (.mv (.t 4)),
 o 134 (.call n_slices_pdqsortCmpFunc_Id [.t 129, .t 130, .t 131, .t 132, .t 133])] [0, 2, 3, 4, 10, 11, 16]) (
.reg none [
 o 135 (.mv (.t 16)),
 o 136 (.bin .add (.t 135) (.c (.int .i64 1))),
 o 1 (.mv (.t 136))] [0, 1, 2, 3, 4, 10, 11]))) (
.seq (.reg none [
 o 137 (.mv (.t 19)),
 o 138 (.mv (.t 20)),
 o 139 (.bin .geq (.t 137) (.t 138)),
 o 10 (.mv (.t 139))] [0, 1, 2, 3, 4, 10, 11, 16]) (
.seq (.reg none [
 o 140 (.mv (.t 0)),
 o 141 (.mv (.t 16)),
 o 142 (.bin .add (.t 141) (.c (.int .i64 1))),
 o 143 (.mv (.t 2)),
 o 144 (.mv (.t 3)),
 o 145 (.mv (.t 4)),
 o 146 (.call n_slices_pdqsortCmpFunc_Id [.t 140, .t 142, .t 143, .t 144, .t 145])] [0, 1, 3, 4, 10, 11, 16]) (
.reg none [
 o 147 (.mv (.t 16)),
 o 2 (.mv (.t 147))] [0, 1, 2, 3, 4, 10, 11])))))))))))))))))))))))
def r_slices_pdqsortCmpFunc_Id : List RD := []
theorem k_slices_pdqsortCmpFunc_Id : chkFn Pg n_slices_pdqsortCmpFunc_Id c_slices_pdqsortCmpFunc_Id r_slices_pdqsortCmpFunc_Id 5 = true := by kernel_rfl
/-- unicode/utf8.DecodeRuneInString -/
def c_utf8_DecodeRuneInString : CC :=
.seq (.reg none [
 o 2 (.mv (.c (.int .i32 0))),
 o 3 (.mv (.c (.int .i64 0)))] [0]) (
.seq (.seq (.reg none [
 o 4 (.mv (.t 0)),
 o 5 (.bin .neq (.t 4) (.c (.str []))),
 o 6 (.mv (.t 5)),
 g 7 (.mv (.t 0)) 6 true,
 g 8 (.idxS (.t 7) (.c (.int .i64 0))) 6 true,
 g 9 (.bin .lss (.t 8) (.c (.int .u8 128))) 6 true,
 o 10 (.pick (.t 6) (.t 9) (.c (.bool false)))] [0, 10]) (
.cond (.t 10) (.seq (.reg none [
 o 11 (.mv (.t 0)),
 o 12 (.idxS (.t 11) (.c (.int .i64 0))),
 o 13 (.conv .i32 (.t 12)),
 o 2 (.mv (.t 13)),
 o 3 (.mv (.c (.int .i64 1)))] [2, 3]) (
.ret)) (
.reg none [
 o 15 (.mv (.t 0)),
 o 16 (.call n_utf8_decodeRuneInStringSlow [.t 15]),
 o 14 (.mv (.t 16)),
 o 17 (.extract 0 (.t 14)),
 o 18 (.extract 1 (.t 14)),
 o 2 (.mv (.t 17)),
 o 3 (.mv (.t 18))] [2, 3]))) (
.ret))
def r_utf8_DecodeRuneInString : List RD := [.tmp 2, .tmp 3]
theorem k_utf8_DecodeRuneInString : chkFn Pg n_utf8_DecodeRuneInString c_utf8_DecodeRuneInString r_utf8_DecodeRuneInString 1 = true := by kernel_rfl
end Go.Abs
end
