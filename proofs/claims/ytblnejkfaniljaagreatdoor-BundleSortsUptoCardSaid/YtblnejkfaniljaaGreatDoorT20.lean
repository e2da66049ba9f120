/-
  The abstract code of the program's functions, by program: part 3.
  Conditions: those that stand ahead of each theorem; no more.
-/
import Derived.Test.YtblnejkfaniljaaGreatDoorT16

section
namespace Go.Abs
open Go
/-- math/bits.Len64 -/
def c_bits_Len64 : CC :=
.seq (.reg none [
 o 2 (.mv (.c (.int .i64 0)))] [0, 2]) (
.seq (.seq (.reg none [
 o 3 (.mv (.t 0)),
 o 4 (.bin .geq (.t 3) (.c (.int .u64 4294967296)))] [0, 2, 4]) (
.cond (.t 4) (.seq (.reg none [
 o 5 (.mv (.t 0)),
 o 6 (.bin .shr (.t 5) (.c (.int .u64 32))),
 o 0 (.mv (.t 6))] [0]) (
.reg none [
 o 2 (.mv (.c (.int .i64 32)))] [0, 2])) (
.skip))) (
.seq (.seq (.reg none [
 o 7 (.mv (.t 0)),
 o 8 (.bin .geq (.t 7) (.c (.int .u64 65536)))] [0, 2, 8]) (
.cond (.t 8) (.seq (.reg none [
 o 9 (.mv (.t 0)),
 o 10 (.bin .shr (.t 9) (.c (.int .u64 16))),
 o 0 (.mv (.t 10))] [0, 2]) (
.reg none [
 o 11 (.mv (.t 2)),
 o 12 (.bin .add (.t 11) (.c (.int .i64 16))),
 o 2 (.mv (.t 12))] [0, 2])) (
.skip))) (
.seq (.seq (.reg none [
 o 13 (.mv (.t 0)),
 o 14 (.bin .geq (.t 13) (.c (.int .u64 256)))] [0, 2, 14]) (
.cond (.t 14) (.seq (.reg none [
 o 15 (.mv (.t 0)),
 o 16 (.bin .shr (.t 15) (.c (.int .u64 8))),
 o 0 (.mv (.t 16))] [0, 2]) (
.reg none [
 o 17 (.mv (.t 2)),
 o 18 (.bin .add (.t 17) (.c (.int .i64 8))),
 o 2 (.mv (.t 18))] [0, 2])) (
.skip))) (
.seq (.reg none [
 o 19 (.mv (.t 2)),
 o 20 (.mv (.t 0)),
 o 21 (.conv .u8 (.t 20)),
 o 22 (.idxS (.c (.str [0, 1, 2, 2, 3, 3, 3, 3, 4, 4, 4, 4, 4, 4, 4, 4, 5, 5, 5, 5, 5, 5, 5, 5, 5, 5, 5, 5, 5, 5, 5, 5, 6, 6, 6, 6, 6, 6, 6, 6, 6, 6, 6, 6, 6, 6, 6, 6, 6, 6, 6, 6, 6, 6, 6, 6, 6, 6, 6, 6, 6, 6, 6, 6, 7, 7, 7, 7, 7, 7, 7, 7, 7, 7, 7, 7, 7, 7, 7, 7, 7, 7, 7, 7, 7, 7, 7, 7, 7, 7, 7, 7, 7, 7, 7, 7, 7, 7, 7, 7, 7, 7, 7, 7, 7, 7, 7, 7, 7, 7, 7, 7, 7, 7, 7, 7, 7, 7, 7, 7, 7, 7, 7, 7, 7, 7, 7, 7, 8, 8, 8, 8, 8, 8, 8, 8, 8, 8, 8, 8, 8, 8, 8, 8, 8, 8, 8, 8, 8, 8, 8, 8, 8, 8, 8, 8, 8, 8, 8, 8, 8, 8, 8, 8, 8, 8, 8, 8, 8, 8, 8, 8, 8, 8, 8, 8, 8, 8, 8, 8, 8, 8, 8, 8, 8, 8, 8, 8, 8, 8, 8, 8, 8, 8, 8, 8, 8, 8, 8, 8, 8, 8, 8, 8, 8, 8, 8, 8, 8, 8, 8, 8, 8, 8, 8, 8, 8, 8, 8, 8, 8, 8, 8, 8, 8, 8, 8, 8, 8, 8, 8, 8, 8, 8, 8, 8, 8, 8, 8, 8, 8, 8, 8, 8, 8, 8, 8, 8, 8, 8, 8, 8, 8, 8, 8, 8])) (.t 21)),
 o 23 (.conv .i64 (.t 22)),
 o 24 (.bin .add (.t 19) (.t 23)),
 o 2 (.mv (.t 24))] [2]) (
.ret)))))
def r_bits_Len64 : List RD := [.tmp 2]
theorem k_bits_Len64 : chkFn Pg n_bits_Len64 c_bits_Len64 r_bits_Len64 1 = true := by kernel_rfl
/-- math/bits.Mul64 -/
def c_bits_Mul64 : CC :=
.seq (.reg none [
 o 4 (.mv (.c (.int .u64 0))),
 o 5 (.mv (.c (.int .u64 0)))] [0, 1]) (
.seq (.reg none [
 o 14 (.mv (.t 0)),
 o 15 (.bin .and (.t 14) (.c (.int .u64 4294967295))),
 o 6 (.mv (.t 15))] [0, 1, 6]) (
.seq (.reg none [
 o 16 (.mv (.t 0)),
 o 17 (.bin .shr (.t 16) (.c (.int .u64 32))),
 o 7 (.mv (.t 17))] [0, 1, 6, 7]) (
.seq (.reg none [
 o 18 (.mv (.t 1)),
 o 19 (.bin .and (.t 18) (.c (.int .u64 4294967295))),
 o 8 (.mv (.t 19))] [0, 1, 6, 7, 8]) (
.seq (.reg none [
 o 20 (.mv (.t 1)),
 o 21 (.bin .shr (.t 20) (.c (.int .u64 32))),
 o 9 (.mv (.t 21))] [0, 1, 6, 7, 8, 9]) (
.seq (.reg none [
 o 22 (.mv (.t 6)),
 o 23 (.mv (.t 8)),
 o 24 (.bin .mul (.t 22) (.t 23)),
 o 10 (.mv (.t 24))] [0, 1, 6, 7, 8, 9, 10]) (
.seq (.reg none [
 o 25 (.mv (.t 7)),
 o 26 (.mv (.t 8)),
 o 27 (.bin .mul (.t 25) (.t 26)),
 o 28 (.mv (.t 10)),
 o 29 (.bin .shr (.t 28) (.c (.int .u64 32))),
 o 30 (.bin .add (.t 27) (.t 29)),
 o 11 (.mv (.t 30))] [0, 1, 6, 7, 9, 11]) (
.seq (.reg none [
 o 31 (.mv (.t 11)),
 o 32 (.bin .and (.t 31) (.c (.int .u64 4294967295))),
 o 12 (.mv (.t 32))] [0, 1, 6, 7, 9, 11, 12]) (
.seq (.reg none [
 o 33 (.mv (.t 11)),
 o 34 (.bin .shr (.t 33) (.c (.int .u64 32))),
 o 13 (.mv (.t 34))] [0, 1, 6, 7, 9, 12, 13]) (
.seq (.reg none [
 o 35 (.mv (.t 12)),
 o 36 (.mv (.t 6)),
 o 37 (.mv (.t 9)),
 o 38 (.bin .mul (.t 36) (.t 37)),
 o 39 (.bin .add (.t 35) (.t 38)),
 o 12 (.mv (.t 39))] [0, 1, 7, 9, 12, 13]) (
.seq (.reg none [
 o 40 (.mv (.t 7)),
 o 41 (.mv (.t 9)),
 o 42 (.bin .mul (.t 40) (.t 41)),
 o 43 (.mv (.t 13)),
 o 44 (.bin .add (.t 42) (.t 43)),
 o 45 (.mv (.t 12)),
 o 46 (.bin .shr (.t 45) (.c (.int .u64 32))),
 o 47 (.bin .add (.t 44) (.t 46)),
 o 4 (.mv (.t 47))] [0, 1, 4]) (
.seq (.reg none [
 o 48 (.mv (.t 0)),
 o 49 (.mv (.t 1)),
 o 50 (.bin .mul (.t 48) (.t 49)),
 o 5 (.mv (.t 50))] [4, 5]) (
.ret))))))))))))
def r_bits_Mul64 : List RD := [.tmp 4, .tmp 5]
theorem k_bits_Mul64 : chkFn Pg n_bits_Mul64 c_bits_Mul64 r_bits_Mul64 2 = true := by kernel_rfl
/-- internal/bytealg.Cutover -/
def c_bytealg_Cutover : CC :=
.seq (.reg none [
 o 2 (.mv (.c (.int .i64 0)))] [0]) (
.seq (.reg none [
 o 3 (.mv (.t 0)),
 o 4 (.bin .add (.t 3) (.c (.int .i64 16))),
 o 5 (.bin .quo (.t 4) (.c (.int .i64 8))),
 o 2 (.mv (.t 5))] [2]) (
.ret))
def r_bytealg_Cutover : List RD := [.tmp 2]
theorem k_bytealg_Cutover : chkFn Pg n_bytealg_Cutover c_bytealg_Cutover r_bytealg_Cutover 1 = true := by kernel_rfl
/-- (*quitclaim/graph.Graph).line$1$1 -/
def c_graph_Graph_line_1_1 : CC :=
.seq (.reg none [
 o 2 (.box (.t 0)),
 o 3 (.mv (.c (.bool false)))] [1, 2]) (
.seq (.reg none [
 o 4 (.load 1 false (.t 1)),
 o 5 (.load 32 true (.t 2)),
 o 6 (.lookup (.arr 32 (.int .u8)) false (.bool false) (.t 4) (.t 5)),
 o 7 (.not (.t 6)),
 o 3 (.mv (.t 7))] [3]) (
.ret))
def r_graph_Graph_line_1_1 : List RD := [.tmp 3]
theorem k_graph_Graph_line_1_1 : chkFn Pg n_graph_Graph_line_1_1 c_graph_Graph_line_1_1 r_graph_Graph_line_1_1 2 = true := by kernel_rfl
/-- quitclaim/id.Both -/
def c_id_Both : CC :=
.seq (.reg none [
 o 4 (.mv (.c (.sl 32 [] .full)))] [0, 1]) (
.seq (.reg none [
 o 5 (.mv (.t 0)),
 o 6 (.mv (.t 1)),
 o 7 (.call n_id_merge [.t 5, .t 6, .f n_id_Both_1]),
 o 4 (.mv (.t 7))] [4]) (
.ret))
def r_id_Both : List RD := [.tmp 4]
theorem k_id_Both : chkFn Pg n_id_Both c_id_Both r_id_Both 2 = true := by kernel_rfl
/-- quitclaim/id.Rises -/
def c_id_Rises : CC :=
.seq (.reg none [
 o 2 (.mv (.c (.bool false)))] [0]) (
.seq (.seq (.reg none [
 o 3 (.mv (.c (.int .i64 1)))] [0, 3]) (
.block 0 (
.wk (.loop (.wk (
.seq (.seq (.reg none [
 o 4 (.mv (.t 3)),
 o 5 (.mv (.t 0)),
 o 6 (.len 1 (.t 5)),
 o 7 (.bin .lss (.t 4) (.t 6))] [0, 3, 7]) (
.cond (.t 7) (.skip) (
.exit 0))) (
.seq (.block 1 (
.seq (.reg (some 11) [
 o 10 (.mv (.t 0)),
 o 11 (.mv (.t 3)),
 o 12 (.bin .sub (.t 11) (.c (.int .i64 1))),
 o 13 (.iaddr 32 (.t 10) (.t 12)),
 o 14 (.load 32 true (.t 13)),
 o 15 (.mv (.t 0)),
 o 16 (.mv (.t 3)),
 o 17 (.iaddr 32 (.t 15) (.t 16)),
 o 18 (.load 32 true (.t 17)),
 o 19 (.call n_id_Less [.t 14, .t 18]),
 o 20 (.not (.t 19))] [0, 3, 20]) (
.cond (.t 20) (.seq (.reg none [
 o 2 (.mv (.c (.bool false)))] [2]) (
.ret)) (
.skip)))) (
.reg none [
 o 8 (.mv (.t 3)),
 o 9 (.bin .add (.t 8) (.c (.int .i64 1))),
 o 3 (.mv (.t 9))] [0, 3])))))))) (
.seq (.reg none [
 o 2 (.mv (.c (.bool true)))] [2]) (
.ret)))
def r_id_Rises : List RD := [.tmp 2]
theorem k_id_Rises : chkFn Pg n_id_Rises c_id_Rises r_id_Rises 1 = true := by kernel_rfl
/-- quitclaim/id.Sort -/
def c_id_Sort : CC :=
.seq (.reg none [
 o 2 (.mv (.c (.sl 32 [] .full)))] [0]) (
.seq (.reg none [
 o 4 (.mv (.t 0)),
 o 5 (.call n_slices_Clone_Id [.t 4]),
 o 3 (.mv (.t 5))] [3]) (
.seq (.reg none [
 o 6 (.mv (.t 3)),
 o 7 (.call n_slices_SortFunc_Id [.t 6, .f n_id_compare])] [3]) (
.seq (.reg none [
 o 8 (.mv (.t 3)),
 o 9 (.call n_slices_Compact_Id [.t 8]),
 o 2 (.mv (.t 9))] [2]) (
.ret))))
def r_id_Sort : List RD := [.tmp 2]
theorem k_id_Sort : chkFn Pg n_id_Sort c_id_Sort r_id_Sort 1 = true := by kernel_rfl
/-- quitclaim/op.Clone -/
def c_op_Clone : CC :=
.seq (.reg none [
 o 1 (.box (.t 0)),
 o 2 (.alloc (.agg [.int .i64 0, .str [], .str [], .int .i64 0, .sl 1 [] .full, .sl 1 [] .full, .agg [.int .u8 0, .int .u8 0, .int .u8 0, .int .u8 0, .int .u8 0, .int .u8 0, .int .u8 0, .int .u8 0, .int .u8 0, .int .u8 0, .int .u8 0, .int .u8 0, .int .u8 0, .int .u8 0, .int .u8 0, .int .u8 0, .int .u8 0, .int .u8 0, .int .u8 0, .int .u8 0, .int .u8 0, .int .u8 0, .int .u8 0, .int .u8 0, .int .u8 0, .int .u8 0, .int .u8 0, .int .u8 0, .int .u8 0, .int .u8 0, .int .u8 0, .int .u8 0], .int .i64 0]))] [1, 2]) (
.seq (.reg (some 7) [
 o 3 (.faddr 4 4 (.t 1)),
 o 4 (.load 1 false (.t 3)),
 o 5 (.call n_slices_Clone_string [.t 4]),
 o 6 (.faddr 5 5 (.t 1)),
 o 7 (.load 1 false (.t 6)),
 o 8 (.call n_slices_Clone_string [.t 7]),
 o 9 (.faddr 4 4 (.t 1)),
 e (.store 1 (.t 9) (.t 5)),
 o 10 (.faddr 5 5 (.t 1)),
 e (.store 1 (.t 10) (.t 8))] [1, 2]) (
.seq (.reg none [
 o 11 (.load 39 true (.t 1)),
 e (.store 39 (.t 2) (.t 11))] [2]) (
.ret)))
def r_op_Clone : List RD := [.cell 2 39 true]
theorem k_op_Clone : chkFn Pg n_op_Clone c_op_Clone r_op_Clone 1 = true := by kernel_rfl
/-- quitclaim/patch.written -/
def c_patch_written : CC :=
.seq (.reg none [
 o 1 (.box (.t 0)),
 o 2 (.mv (.c (.bool false)))] [1]) (
.seq (.reg none [
 o 3 (.faddr 1 1 (.t 1)),
 o 4 (.load 1 false (.t 3)),
 o 5 (.len 1 (.t 4)),
 o 6 (.bin .leq (.t 5) (.c (.int .i64 256))),
 o 7 (.mv (.t 6)),
 g 8 (.faddr 2 2 (.t 1)) 7 true,
 g 9 (.load 1 false (.t 8)) 7 true,
 g 10 (.len 1 (.t 9)) 7 true,
 g 11 (.bin .leq (.t 10) (.c (.int .i64 256))) 7 true,
 o 12 (.pick (.t 7) (.t 11) (.c (.bool false))),
 o 13 (.mv (.t 12)),
 g 14 (.faddr 3 3 (.t 1)) 13 true,
 g 15 (.load 1 false (.t 14)) 13 true,
 g 16 (.len 1 (.t 15)) 13 true,
 g 17 (.bin .leq (.t 16) (.c (.int .i64 10))) 13 true,
 o 18 (.pick (.t 13) (.t 17) (.c (.bool false))),
 o 19 (.mv (.t 18)),
 g 20 (.faddr 0 0 (.t 1)) 19 true,
 g 21 (.load 1 false (.t 20)) 19 true,
 g 22 (.bin .geq (.t 21) (.c (.int .i64 0))) 19 true,
 o 23 (.pick (.t 19) (.t 22) (.c (.bool false))),
 o 24 (.mv (.t 23)),
 g 25 (.faddr 0 0 (.t 1)) 24 true,
 g 26 (.load 1 false (.t 25)) 24 true,
 g 27 (.bin .leq (.t 26) (.c (.int .i64 4611686018427387904))) 24 true,
 o 28 (.pick (.t 24) (.t 27) (.c (.bool false))),
 o 2 (.mv (.t 28))] [2]) (
.ret))
def r_patch_written : List RD := [.tmp 2]
theorem k_patch_written : chkFn Pg n_patch_written c_patch_written r_patch_written 1 = true := by kernel_rfl
/-- quitclaim/path.part -/
def c_path_part : CC :=
.seq (.reg none [
 o 2 (.mv (.c (.bool false)))] [0]) (
.seq (.seq (.reg none [
 o 5 (.mv (.t 0)),
 o 6 (.bin .eql (.t 5) (.c (.str []))),
 o 7 (.mv (.t 6)),
 g 8 (.mv (.t 0)) 7 false,
 g 9 (.bin .eql (.t 8) (.c (.str [46]))) 7 false,
 o 10 (.pick (.t 7) (.c (.bool true)) (.t 9)),
 o 11 (.mv (.t 10)),
 g 12 (.mv (.t 0)) 11 false,
 g 13 (.bin .eql (.t 12) (.c (.str [46, 46]))) 11 false,
 o 14 (.pick (.t 11) (.c (.bool true)) (.t 13))] [0, 14]) (
.cond (.t 14) (.seq (.reg none [
 o 2 (.mv (.c (.bool false)))] [2]) (
.ret)) (
.skip))) (
.seq (.seq (.reg none [
 o 15 (.mv (.t 0)),
 o 16 (.len 0 (.t 15)),
 o 17 (.mv (.c (.int .i64 0)))] [0, 16, 17]) (
.block 0 (
.wk (.loop (.wk (
.seq (.reg none [
 o 18 (.bin .lss (.t 17) (.t 16))] [0, 16, 17, 18]) (
.seq (.cond (.t 18) (.skip) (
.exit 0)) (
.seq (.block 1 (
.seq (.reg none [
 o 19 (.mv (.t 17)),
 o 3 (.mv (.t 19))] [0, 3, 16, 17]) (
.seq (.reg none [
 o 20 (.mv (.t 0)),
 o 21 (.mv (.t 3)),
 o 22 (.idxS (.t 20) (.t 21)),
 o 4 (.mv (.t 22))] [0, 4, 16, 17]) (
.block 2 (
.seq (.reg none [
 o 24 (.mv (.t 4)),
 o 25 (.bin .geq (.t 24) (.c (.int .u8 97))),
 o 26 (.mv (.t 25)),
 g 27 (.mv (.t 4)) 26 true,
 g 28 (.bin .leq (.t 27) (.c (.int .u8 122))) 26 true,
 o 29 (.pick (.t 26) (.t 28) (.c (.bool false))),
 o 30 (.mv (.t 29)),
 g 31 (.mv (.t 4)) 30 false,
 g 32 (.bin .geq (.t 31) (.c (.int .u8 48))) 30 false,
 g 33 (.mv (.t 32)) 30 false,
 g 34 (.mv (.t 4)) 33 true,
 g 35 (.bin .leq (.t 34) (.c (.int .u8 57))) 33 true,
 g 36 (.pick (.t 33) (.t 35) (.c (.bool false))) 30 false,
 o 37 (.pick (.t 30) (.c (.bool true)) (.t 36)),
 o 38 (.mv (.t 37)),
 g 39 (.mv (.t 4)) 38 false,
 g 40 (.bin .eql (.t 39) (.c (.int .u8 46))) 38 false,
 o 41 (.pick (.t 38) (.c (.bool true)) (.t 40)),
 o 42 (.mv (.t 41)),
 g 43 (.mv (.t 4)) 42 false,
 g 44 (.bin .eql (.t 43) (.c (.int .u8 95))) 42 false,
 o 45 (.pick (.t 42) (.c (.bool true)) (.t 44)),
 o 46 (.mv (.t 45)),
 g 47 (.mv (.t 4)) 46 false,
 g 48 (.bin .eql (.t 47) (.c (.int .u8 45))) 46 false,
 o 49 (.pick (.t 46) (.c (.bool true)) (.t 48)),
 o 23 (.mv (.t 49))] [0, 16, 17, 23]) (
.cond (.t 23) (.skip) (
.seq (.reg none [
 o 2 (.mv (.c (.bool false)))] [2]) (
.ret)))))))) (
.reg none [
 o 50 (.bin .add (.t 17) (.c (.int .i64 1))),
 o 17 (.mv (.t 50))] [0, 16, 17]))))))))) (
.seq (.reg none [
 o 2 (.mv (.c (.bool true)))] [2]) (
.ret))))
def r_path_part : List RD := [.tmp 2]
theorem k_path_part : chkFn Pg n_path_part c_path_part r_path_part 1 = true := by kernel_rfl
/-- quitclaim/quitclaimref05.Num -/
def c_ref05_Num : CC :=
.seq (.reg none [
 o 2 (.mv (.c (.str [])))] [0]) (
.seq (.seq (.reg none [
 o 3 (.mv (.t 0)),
 o 4 (.bin .lss (.t 3) (.c (.int .i64 128)))] [0, 4]) (
.cond (.t 4) (.seq (.reg none [
 o 5 (.mv (.t 0)),
 o 6 (.conv .u8 (.t 5)),
 o 7 (.lit 1 (.int .u8 0) 1 [(0, .t 6)]),
 o 8 (.b2s (.t 7)),
 o 2 (.mv (.t 8))] [2]) (
.ret)) (
.skip))) (
.seq (.reg (some 11) [
 o 9 (.mv (.t 0)),
 o 10 (.bin .rem (.t 9) (.c (.int .i64 128))),
 o 11 (.bin .add (.t 10) (.c (.int .i64 128))),
 o 12 (.conv .u8 (.t 11)),
 o 13 (.lit 1 (.int .u8 0) 1 [(0, .t 12)]),
 o 14 (.b2s (.t 13)),
 o 15 (.mv (.t 0)),
 o 16 (.bin .quo (.t 15) (.c (.int .i64 128))),
 o 17 (.call n_ref05_Num [.t 16]),
 o 18 (.bin .add (.t 14) (.t 17)),
 o 2 (.mv (.t 18))] [2]) (
.ret)))
def r_ref05_Num : List RD := [.tmp 2]
theorem k_ref05_Num : chkFn Pg n_ref05_Num c_ref05_Num r_ref05_Num 1 = true := by kernel_rfl
/-- quitclaim/quitclaimref10.Right -/
def c_ref10_Right : CC :=
.seq (.reg none [
 o 2 (.mv (.c (.bool false)))] [0]) (
.seq (.seq (.reg none [
 o 5 (.mv (.t 0)),
 o 6 (.len 0 (.t 5)),
 o 7 (.bin .gtr (.t 6) (.c (.int .i64 200)))] [0, 7]) (
.cond (.t 7) (.seq (.reg none [
 o 2 (.mv (.c (.bool false)))] [2]) (
.ret)) (
.skip))) (
.seq (.reg none [
 o 8 (.mv (.t 0)),
 o 9 (.call n_ref10_Split [.t 8]),
 o 3 (.mv (.t 9))] [3]) (
.seq (.seq (.reg none [
 o 4 (.mv (.c (.int .i64 0)))] [3, 4]) (
.block 0 (
.wk (.loop (.wk (
.seq (.seq (.reg none [
 o 10 (.mv (.t 4)),
 o 11 (.mv (.t 3)),
 o 12 (.len 1 (.t 11)),
 o 13 (.bin .lss (.t 10) (.t 12))] [3, 4, 13]) (
.cond (.t 13) (.skip) (
.exit 0))) (
.seq (.block 1 (
.seq (.reg none [
 o 16 (.mv (.t 3)),
 o 17 (.mv (.t 4)),
 o 18 (.iaddr 1 (.t 16) (.t 17)),
 o 19 (.load 1 false (.t 18)),
 o 20 (.call n_ref10_Part [.t 19]),
 o 21 (.not (.t 20))] [3, 4, 21]) (
.cond (.t 21) (.seq (.reg none [
 o 2 (.mv (.c (.bool false)))] [2]) (
.ret)) (
.skip)))) (
.reg none [
 o 14 (.mv (.t 4)),
 o 15 (.bin .add (.t 14) (.c (.int .i64 1))),
 o 4 (.mv (.t 15))] [3, 4])))))))) (
.seq (.reg none [
 o 22 (.mv (.t 3)),
 o 23 (.len 1 (.t 22)),
 o 24 (.bin .leq (.t 23) (.c (.int .i64 16))),
 o 2 (.mv (.t 24))] [2]) (
.ret)))))
def r_ref10_Right : List RD := [.tmp 2]
theorem k_ref10_Right : chkFn Pg n_ref10_Right c_ref10_Right r_ref10_Right 1 = true := by kernel_rfl
/-- quitclaim/quitclaimref10.Split -/
def c_ref10_Split : CC :=
.seq (.reg none [
 o 2 (.mv (.c (.sl 1 [] .full)))] [0]) (
.seq (.reg none [
 o 6 (.lit 1 (.str []) 0 []),
 o 3 (.mv (.t 6))] [0, 3]) (
.seq (.reg none [
 o 4 (.mv (.c (.int .i64 0)))] [0, 3, 4]) (
.seq (.seq (.reg none [
 o 5 (.mv (.c (.int .i64 0)))] [0, 3, 4, 5]) (
.block 0 (
.wk (.loop (.wk (
.seq (.seq (.reg none [
 o 7 (.mv (.t 5)),
 o 8 (.mv (.t 0)),
 o 9 (.len 0 (.t 8)),
 o 10 (.bin .lss (.t 7) (.t 9))] [0, 3, 4, 5, 10]) (
.cond (.t 10) (.skip) (
.exit 0))) (
.seq (.block 1 (
.seq (.reg none [
 o 13 (.mv (.t 0)),
 o 14 (.mv (.t 5)),
 o 15 (.idxS (.t 13) (.t 14)),
 o 16 (.bin .eql (.t 15) (.c (.int .u8 47)))] [0, 3, 4, 5, 16]) (
.cond (.t 16) (.seq (.reg none [
 o 17 (.mv (.t 3)),
 o 18 (.mv (.t 0)),
 o 19 (.mv (.t 4)),
 o 20 (.mv (.t 5)),
 o 21 (.sliceS (.t 18) (some (.t 19)) (some (.t 20))),
 o 22 (.lit 1 (.str []) 1 [(0, .t 21)]),
 o 23 (.append 1 16 (.t 17) (.t 22)),
 o 3 (.mv (.t 23))] [0, 3, 5]) (
.reg none [
 o 24 (.mv (.t 5)),
 o 25 (.bin .add (.t 24) (.c (.int .i64 1))),
 o 4 (.mv (.t 25))] [0, 3, 4, 5])) (
.skip)))) (
.reg none [
 o 11 (.mv (.t 5)),
 o 12 (.bin .add (.t 11) (.c (.int .i64 1))),
 o 5 (.mv (.t 12))] [0, 3, 4, 5])))))))) (
.seq (.reg none [
 o 26 (.mv (.t 3)),
 o 27 (.mv (.t 0)),
 o 28 (.mv (.t 4)),
 o 29 (.sliceS (.t 27) (some (.t 28)) none),
 o 30 (.lit 1 (.str []) 1 [(0, .t 29)]),
 o 31 (.append 1 16 (.t 26) (.t 30)),
 o 2 (.mv (.t 31))] [2]) (
.ret)))))
def r_ref10_Split : List RD := [.tmp 2]
theorem k_ref10_Split : chkFn Pg n_ref10_Split c_ref10_Split r_ref10_Split 1 = true := by kernel_rfl
/-- quitclaim/quitclaimref11.Lines -/
def c_ref11_Lines : CC :=
.seq (.reg none [
 o 2 (.mv (.c (.bool false)))] [0]) (
.seq (.seq (.reg none [
 o 3 (.mv (.c (.int .i64 0)))] [0, 3]) (
.block 0 (
.wk (.loop (.wk (
.seq (.seq (.reg none [
 o 4 (.mv (.t 3)),
 o 5 (.mv (.t 0)),
 o 6 (.len 1 (.t 5)),
 o 7 (.bin .lss (.t 4) (.t 6))] [0, 3, 7]) (
.cond (.t 7) (.skip) (
.exit 0))) (
.seq (.block 1 (
.seq (.reg none [
 o 10 (.mv (.t 0)),
 o 11 (.mv (.t 3)),
 o 12 (.iaddr 1 (.t 10) (.t 11)),
 o 13 (.load 1 false (.t 12)),
 o 14 (.call n_ref11_Line [.t 13]),
 o 15 (.not (.t 14))] [0, 3, 15]) (
.cond (.t 15) (.seq (.reg none [
 o 2 (.mv (.c (.bool false)))] [2]) (
.ret)) (
.skip)))) (
.reg none [
 o 8 (.mv (.t 3)),
 o 9 (.bin .add (.t 8) (.c (.int .i64 1))),
 o 3 (.mv (.t 9))] [0, 3])))))))) (
.seq (.reg none [
 o 16 (.mv (.t 0)),
 o 17 (.len 1 (.t 16)),
 o 18 (.bin .leq (.t 17) (.c (.int .i64 1000))),
 o 2 (.mv (.t 18))] [2]) (
.ret)))
def r_ref11_Lines : List RD := [.tmp 2]
theorem k_ref11_Lines : chkFn Pg n_ref11_Lines c_ref11_Lines r_ref11_Lines 1 = true := by kernel_rfl
/-- quitclaim/quitclaimref13.All -/
def c_ref13_All : CC :=
.seq (.reg none [
 o 4 (.mv (.c (.bool false)))] [0, 1]) (
.seq (.seq (.reg none [
 o 6 (.mv (.t 0)),
 o 7 (.len 1 (.t 6)),
 o 8 (.mv (.t 1)),
 o 9 (.len 1 (.t 8)),
 o 10 (.bin .neq (.t 7) (.t 9))] [0, 1, 10]) (
.cond (.t 10) (.seq (.reg none [
 o 4 (.mv (.c (.bool false)))] [4]) (
.ret)) (
.skip))) (
.seq (.seq (.reg none [
 o 5 (.mv (.c (.int .i64 0)))] [0, 1, 5]) (
.block 0 (
.wk (.loop (.wk (
.seq (.seq (.reg none [
 o 11 (.mv (.t 5)),
 o 12 (.mv (.t 0)),
 o 13 (.len 1 (.t 12)),
 o 14 (.bin .lss (.t 11) (.t 13))] [0, 1, 5, 14]) (
.cond (.t 14) (.skip) (
.exit 0))) (
.seq (.block 1 (
.seq (.reg (some 10) [
 o 17 (.mv (.t 0)),
 o 18 (.mv (.t 5)),
 o 19 (.iaddr 39 (.t 17) (.t 18)),
 o 20 (.load 39 true (.t 19)),
 o 21 (.mv (.t 1)),
 o 22 (.mv (.t 5)),
 o 23 (.iaddr 39 (.t 21) (.t 22)),
 o 24 (.load 39 true (.t 23)),
 o 25 (.call n_ref13_Same [.t 20, .t 24]),
 o 26 (.not (.t 25))] [0, 1, 5, 26]) (
.cond (.t 26) (.seq (.reg none [
 o 4 (.mv (.c (.bool false)))] [4]) (
.ret)) (
.skip)))) (
.reg none [
 o 15 (.mv (.t 5)),
 o 16 (.bin .add (.t 15) (.c (.int .i64 1))),
 o 5 (.mv (.t 16))] [0, 1, 5])))))))) (
.seq (.reg none [
 o 4 (.mv (.c (.bool true)))] [4]) (
.ret))))
def r_ref13_All : List RD := [.tmp 4]
theorem k_ref13_All : chkFn Pg n_ref13_All c_ref13_All r_ref13_All 2 = true := by kernel_rfl
/-- quitclaim/quitclaimref15.Same -/
def c_ref15_Same : CC :=
.seq (.reg none [
 o 2 (.box (.t 0)),
 o 3 (.box (.t 1)),
 o 4 (.mv (.c (.bool false)))] [2, 3]) (
.seq (.reg none [
 o 5 (.faddr 0 0 (.t 2)),
 o 6 (.load 1 false (.t 5)),
 o 7 (.faddr 0 0 (.t 3)),
 o 8 (.load 1 false (.t 7)),
 o 9 (.call n_ref04_Same [.t 6, .t 8]),
 o 10 (.mv (.t 9)),
 g 11 (.faddr 1 1 (.t 2)) 10 true,
 g 12 (.load 32 true (.t 11)) 10 true,
 g 13 (.faddr 1 1 (.t 3)) 10 true,
 g 14 (.load 32 true (.t 13)) 10 true,
 g 15 (.eqv (.arr 32 (.int .u8)) false (.t 12) (.t 14)) 10 true,
 o 16 (.pick (.t 10) (.t 15) (.c (.bool false))),
 o 17 (.mv (.t 16)),
 g 18 (.faddr 2 33 (.t 2)) 17 true,
 g 19 (.load 1 false (.t 18)) 17 true,
 g 20 (.faddr 2 33 (.t 3)) 17 true,
 g 21 (.load 1 false (.t 20)) 17 true,
 g 22 (.bin .eql (.t 19) (.t 21)) 17 true,
 o 23 (.pick (.t 17) (.t 22) (.c (.bool false))),
 o 24 (.mv (.t 23)),
 g 25 (.faddr 3 34 (.t 2)) 24 true,
 g 26 (.load 1 false (.t 25)) 24 true,
 g 27 (.faddr 3 34 (.t 3)) 24 true,
 g 28 (.load 1 false (.t 27)) 24 true,
 g 29 (.call n_ref13_All [.t 26, .t 28]) 24 true,
 o 30 (.pick (.t 24) (.t 29) (.c (.bool false))),
 o 31 (.mv (.t 30)),
 g 32 (.faddr 4 35 (.t 2)) 31 true,
 g 33 (.load 4 true (.t 32)) 31 true,
 g 34 (.faddr 4 35 (.t 3)) 31 true,
 g 35 (.load 4 true (.t 34)) 31 true,
 g 36 (.call n_ref08_Same [.t 33, .t 35]) 31 true,
 o 37 (.pick (.t 31) (.t 36) (.c (.bool false))),
 o 4 (.mv (.t 37))] [4]) (
.ret))
def r_ref15_Same : List RD := [.tmp 4]
theorem k_ref15_Same : chkFn Pg n_ref15_Same c_ref15_Same r_ref15_Same 2 = true := by kernel_rfl
/-- quitclaim/quitclaimref18.Named -/
def c_ref18_Named : CC :=
.seq (.reg none [
 o 2 (.mv (.c (.sl 71 [] .full))),
 o 3 (.mv (.c (.int .i64 0)))] [0]) (
.seq (.reg none [
 o 7 (.lit 71 (.agg [.agg [.int .u8 0, .int .u8 0, .int .u8 0, .int .u8 0, .int .u8 0, .int .u8 0, .int .u8 0, .int .u8 0, .int .u8 0, .int .u8 0, .int .u8 0, .int .u8 0, .int .u8 0, .int .u8 0, .int .u8 0, .int .u8 0, .int .u8 0, .int .u8 0, .int .u8 0, .int .u8 0, .int .u8 0, .int .u8 0, .int .u8 0, .int .u8 0, .int .u8 0, .int .u8 0, .int .u8 0, .int .u8 0, .int .u8 0, .int .u8 0, .int .u8 0, .int .u8 0], .agg [.sl 32 [] .full, .agg [.int .u8 0, .int .u8 0, .int .u8 0, .int .u8 0, .int .u8 0, .int .u8 0, .int .u8 0, .int .u8 0, .int .u8 0, .int .u8 0, .int .u8 0, .int .u8 0, .int .u8 0, .int .u8 0, .int .u8 0, .int .u8 0, .int .u8 0, .int .u8 0, .int .u8 0, .int .u8 0, .int .u8 0, .int .u8 0, .int .u8 0, .int .u8 0, .int .u8 0, .int .u8 0, .int .u8 0, .int .u8 0, .int .u8 0, .int .u8 0, .int .u8 0, .int .u8 0], .str [], .sl 39 [] .full, .agg [.int .i64 0, .sl 32 [] .full, .sl 32 [] .full, .sl 32 [] .full]]]) 0 []),
 o 4 (.mv (.t 7))] [0, 4]) (
.seq (.seq (.reg none [
 o 5 (.mv (.c (.int .i64 0)))] [0, 4, 5]) (
.block 0 (
.wk (.loop (.wk (
.seq (.seq (.reg none [
 o 8 (.mv (.t 5)),
 o 9 (.mv (.t 0)),
 o 10 (.len 1 (.t 9)),
 o 11 (.bin .lss (.t 8) (.t 10))] [0, 4, 5, 11]) (
.cond (.t 11) (.skip) (
.exit 0))) (
.seq (.block 1 (
.seq (.seq (.reg none [
 o 14 (.mv (.t 0)),
 o 15 (.mv (.t 5)),
 o 16 (.iaddr 39 (.t 14) (.t 15)),
 o 17 (.load 39 true (.t 16)),
 o 18 (.call n_ref15_Right [.t 17]),
 o 6 (.mv (.t 18))] [0, 4, 5, 6]) (
.seq (.reg none [
 o 19 (.mv (.t 6)),
 o 20 (.bin .neq (.t 19) (.c (.int .i64 0)))] [0, 4, 5, 6, 20]) (
.cond (.t 20) (.seq (.reg none [
 o 21 (.mv (.t 6)),
 o 2 (.mv (.c (.sl 71 [] .full))),
 o 3 (.mv (.t 21))] [2, 3]) (
.ret)) (
.skip)))) (
.seq (.seq (.reg none [
 o 22 (.mv (.t 0)),
 o 23 (.mv (.t 5)),
 o 24 (.iaddr 39 (.t 22) (.t 23)),
 o 25 (.faddr 4 35 (.t 24)),
 o 26 (.load 4 true (.t 25)),
 o 27 (.call n_ref15_Written [.t 26]),
 o 28 (.not (.t 27))] [0, 4, 5, 28]) (
.cond (.t 28) (.seq (.reg none [
 o 2 (.mv (.c (.sl 71 [] .full))),
 o 3 (.mv (.c (.int .i64 3)))] [2, 3]) (
.ret)) (
.skip))) (
.reg (some 12) [
 o 29 (.mv (.t 4)),
 o 30 (.mv (.t 0)),
 o 31 (.mv (.t 5)),
 o 32 (.iaddr 39 (.t 30) (.t 31)),
 o 33 (.load 39 true (.t 32)),
 o 34 (.call n_ref15_Id [.t 33]),
 o 35 (.mv (.t 0)),
 o 36 (.mv (.t 5)),
 o 37 (.iaddr 39 (.t 35) (.t 36)),
 o 38 (.load 39 true (.t 37)),
 o 39 (.build [.agg [.int .u8 0, .int .u8 0, .int .u8 0, .int .u8 0, .int .u8 0, .int .u8 0, .int .u8 0, .int .u8 0, .int .u8 0, .int .u8 0, .int .u8 0, .int .u8 0, .int .u8 0, .int .u8 0, .int .u8 0, .int .u8 0, .int .u8 0, .int .u8 0, .int .u8 0, .int .u8 0, .int .u8 0, .int .u8 0, .int .u8 0, .int .u8 0, .int .u8 0, .int .u8 0, .int .u8 0, .int .u8 0, .int .u8 0, .int .u8 0, .int .u8 0, .int .u8 0], .agg [.sl 32 [] .full, .agg [.int .u8 0, .int .u8 0, .int .u8 0, .int .u8 0, .int .u8 0, .int .u8 0, .int .u8 0, .int .u8 0, .int .u8 0, .int .u8 0, .int .u8 0, .int .u8 0, .int .u8 0, .int .u8 0, .int .u8 0, .int .u8 0, .int .u8 0, .int .u8 0, .int .u8 0, .int .u8 0, .int .u8 0, .int .u8 0, .int .u8 0, .int .u8 0, .int .u8 0, .int .u8 0, .int .u8 0, .int .u8 0, .int .u8 0, .int .u8 0, .int .u8 0, .int .u8 0], .str [], .sl 39 [] .full, .agg [.int .i64 0, .sl 32 [] .full, .sl 32 [] .full, .sl 32 [] .full]]] [(0, .t 34), (1, .t 38)]),
 o 40 (.lit 71 (.agg [.agg [.int .u8 0, .int .u8 0, .int .u8 0, .int .u8 0, .int .u8 0, .int .u8 0, .int .u8 0, .int .u8 0, .int .u8 0, .int .u8 0, .int .u8 0, .int .u8 0, .int .u8 0, .int .u8 0, .int .u8 0, .int .u8 0, .int .u8 0, .int .u8 0, .int .u8 0, .int .u8 0, .int .u8 0, .int .u8 0, .int .u8 0, .int .u8 0, .int .u8 0, .int .u8 0, .int .u8 0, .int .u8 0, .int .u8 0, .int .u8 0, .int .u8 0, .int .u8 0], .agg [.sl 32 [] .full, .agg [.int .u8 0, .int .u8 0, .int .u8 0, .int .u8 0, .int .u8 0, .int .u8 0, .int .u8 0, .int .u8 0, .int .u8 0, .int .u8 0, .int .u8 0, .int .u8 0, .int .u8 0, .int .u8 0, .int .u8 0, .int .u8 0, .int .u8 0, .int .u8 0, .int .u8 0, .int .u8 0, .int .u8 0, .int .u8 0, .int .u8 0, .int .u8 0, .int .u8 0, .int .u8 0, .int .u8 0, .int .u8 0, .int .u8 0, .int .u8 0, .int .u8 0, .int .u8 0], .str [], .sl 39 [] .full, .agg [.int .i64 0, .sl 32 [] .full, .sl 32 [] .full, .sl 32 [] .full]]]) 1 [(0, .t 39)]),
 o 41 (.append 71 208 (.t 29) (.t 40)),
 o 4 (.mv (.t 41))] [0, 4, 5])))) (
.reg none [
 o 12 (.mv (.t 5)),
 o 13 (.bin .add (.t 12) (.c (.int .i64 1))),
 o 5 (.mv (.t 13))] [0, 4, 5])))))))) (
.seq (.reg none [
 o 42 (.mv (.t 4)),
 o 2 (.mv (.t 42)),
 o 3 (.mv (.c (.int .i64 0)))] [2, 3]) (
.ret))))
def r_ref18_Named : List RD := [.tmp 2, .tmp 3]
theorem k_ref18_Named : chkFn Pg n_ref18_Named c_ref18_Named r_ref18_Named 1 = true := by kernel_rfl
/-- quitclaim/sha.begin -/
def c_sha_begin : CC :=
.seq (.reg none [
 o 0 (.alloc (.agg [.int .u32 0, .int .u32 0, .int .u32 0, .int .u32 0, .int .u32 0, .int .u32 0, .int .u32 0, .int .u32 0]))] [0]) (
.seq (.reg none [
 o 1 (.build [.int .u32 0, .int .u32 0, .int .u32 0, .int .u32 0, .int .u32 0, .int .u32 0, .int .u32 0, .int .u32 0] [(0, .c (.int .u32 1779033703)), (1, .c (.int .u32 3144134277)), (2, .c (.int .u32 1013904242)), (3, .c (.int .u32 2773480762)), (4, .c (.int .u32 1359893119)), (5, .c (.int .u32 2600822924)), (6, .c (.int .u32 528734635)), (7, .c (.int .u32 1541459225))]),
 e (.store 8 (.t 0) (.t 1))] [0]) (
.ret))
def r_sha_begin : List RD := [.cell 0 8 true]
theorem k_sha_begin : chkFn Pg n_sha_begin c_sha_begin r_sha_begin 0 = true := by kernel_rfl
/-- quitclaim/sha.constants -/
def c_sha_constants : CC :=
.seq (.reg none [
 o 0 (.alloc (.agg [.int .u32 0, .int .u32 0, .int .u32 0, .int .u32 0, .int .u32 0, .int .u32 0, .int .u32 0, .int .u32 0, .int .u32 0, .int .u32 0, .int .u32 0, .int .u32 0, .int .u32 0, .int .u32 0, .int .u32 0, .int .u32 0, .int .u32 0, .int .u32 0, .int .u32 0, .int .u32 0, .int .u32 0, .int .u32 0, .int .u32 0, .int .u32 0, .int .u32 0, .int .u32 0, .int .u32 0, .int .u32 0, .int .u32 0, .int .u32 0, .int .u32 0, .int .u32 0, .int .u32 0, .int .u32 0, .int .u32 0, .int .u32 0, .int .u32 0, .int .u32 0, .int .u32 0, .int .u32 0, .int .u32 0, .int .u32 0, .int .u32 0, .int .u32 0, .int .u32 0, .int .u32 0, .int .u32 0, .int .u32 0, .int .u32 0, .int .u32 0, .int .u32 0, .int .u32 0, .int .u32 0, .int .u32 0, .int .u32 0, .int .u32 0, .int .u32 0, .int .u32 0, .int .u32 0, .int .u32 0, .int .u32 0, .int .u32 0, .int .u32 0, .int .u32 0]))] [0]) (
.seq (.reg none [
 o 1 (.build [.int .u32 0, .int .u32 0, .int .u32 0, .int .u32 0, .int .u32 0, .int .u32 0, .int .u32 0, .int .u32 0, .int .u32 0, .int .u32 0, .int .u32 0, .int .u32 0, .int .u32 0, .int .u32 0, .int .u32 0, .int .u32 0, .int .u32 0, .int .u32 0, .int .u32 0, .int .u32 0, .int .u32 0, .int .u32 0, .int .u32 0, .int .u32 0, .int .u32 0, .int .u32 0, .int .u32 0, .int .u32 0, .int .u32 0, .int .u32 0, .int .u32 0, .int .u32 0, .int .u32 0, .int .u32 0, .int .u32 0, .int .u32 0, .int .u32 0, .int .u32 0, .int .u32 0, .int .u32 0, .int .u32 0, .int .u32 0, .int .u32 0, .int .u32 0, .int .u32 0, .int .u32 0, .int .u32 0, .int .u32 0, .int .u32 0, .int .u32 0, .int .u32 0, .int .u32 0, .int .u32 0, .int .u32 0, .int .u32 0, .int .u32 0, .int .u32 0, .int .u32 0, .int .u32 0, .int .u32 0, .int .u32 0, .int .u32 0, .int .u32 0, .int .u32 0] [(0, .c (.int .u32 1116352408)), (1, .c (.int .u32 1899447441)), (2, .c (.int .u32 3049323471)), (3, .c (.int .u32 3921009573)), (4, .c (.int .u32 961987163)), (5, .c (.int .u32 1508970993)), (6, .c (.int .u32 2453635748)), (7, .c (.int .u32 2870763221)), (8, .c (.int .u32 3624381080)), (9, .c (.int .u32 310598401)), (10, .c (.int .u32 607225278)), (11, .c (.int .u32 1426881987)), (12, .c (.int .u32 1925078388)), (13, .c (.int .u32 2162078206)), (14, .c (.int .u32 2614888103)), (15, .c (.int .u32 3248222580)), (16, .c (.int .u32 3835390401)), (17, .c (.int .u32 4022224774)), (18, .c (.int .u32 264347078)), (19, .c (.int .u32 604807628)), (20, .c (.int .u32 770255983)), (21, .c (.int .u32 1249150122)), (22, .c (.int .u32 1555081692)), (23, .c (.int .u32 1996064986)), (24, .c (.int .u32 2554220882)), (25, .c (.int .u32 2821834349)), (26, .c (.int .u32 2952996808)), (27, .c (.int .u32 3210313671)), (28, .c (.int .u32 3336571891)), (29, .c (.int .u32 3584528711)), (30, .c (.int .u32 113926993)), (31, .c (.int .u32 338241895)), (32, .c (.int .u32 666307205)), (33, .c (.int .u32 773529912)), (34, .c (.int .u32 1294757372)), (35, .c (.int .u32 1396182291)), (36, .c (.int .u32 1695183700)), (37, .c (.int .u32 1986661051)), (38, .c (.int .u32 2177026350)), (39, .c (.int .u32 2456956037)), (40, .c (.int .u32 2730485921)), (41, .c (.int .u32 2820302411)), (42, .c (.int .u32 3259730800)), (43, .c (.int .u32 3345764771)), (44, .c (.int .u32 3516065817)), (45, .c (.int .u32 3600352804)), (46, .c (.int .u32 4094571909)), (47, .c (.int .u32 275423344)), (48, .c (.int .u32 430227734)), (49, .c (.int .u32 506948616)), (50, .c (.int .u32 659060556)), (51, .c (.int .u32 883997877)), (52, .c (.int .u32 958139571)), (53, .c (.int .u32 1322822218)), (54, .c (.int .u32 1537002063)), (55, .c (.int .u32 1747873779)), (56, .c (.int .u32 1955562222)), (57, .c (.int .u32 2024104815)), (58, .c (.int .u32 2227730452)), (59, .c (.int .u32 2361852424)), (60, .c (.int .u32 2428436474)), (61, .c (.int .u32 2756734187)), (62, .c (.int .u32 3204031479)), (63, .c (.int .u32 3329325298))]),
 e (.store 64 (.t 0) (.t 1))] [0]) (
.ret))
def r_sha_constants : List RD := [.cell 0 64 true]
theorem k_sha_constants : chkFn Pg n_sha_constants c_sha_constants r_sha_constants 0 = true := by kernel_rfl
/-- quitclaim/sha.pad -/
def c_sha_pad : CC :=
.seq (.reg none [
 o 2 (.mv (.c (.str [])))] [0]) (
.seq (.reg none [
 o 6 (.mv (.t 0)),
 o 7 (.bin .rem (.t 6) (.c (.int .i64 64))),
 o 8 (.bin .sub (.c (.int .i64 119)) (.t 7)),
 o 9 (.bin .rem (.t 8) (.c (.int .i64 64))),
 o 3 (.mv (.t 9))] [0, 3]) (
.seq (.reg none [
 o 11 (.mv (.t 0)),
 o 12 (.conv .u64 (.t 11)),
 o 13 (.bin .mul (.t 12) (.c (.int .u64 8))),
 o 14 (.call n_word_Number [.t 13, .c (.int .i64 8)]),
 o 10 (.mv (.t 14)),
 o 15 (.extract 0 (.t 10)),
 o 16 (.extract 1 (.t 10)),
 o 4 (.mv (.t 15)),
 o 5 (.mv (.t 16))] [3, 4]) (
.seq (.reg none [
 o 17 (.mv (.t 3)),
 o 18 (.call n_strings_Repeat [.c (.str [0]), .t 17]),
 o 19 (.bin .add (.c (.str [128])) (.t 18)),
 o 20 (.mv (.t 4)),
 o 21 (.bin .add (.t 19) (.t 20)),
 o 2 (.mv (.t 21))] [2]) (
.ret))))
def r_sha_pad : List RD := [.tmp 2]
theorem k_sha_pad : chkFn Pg n_sha_pad c_sha_pad r_sha_pad 1 = true := by kernel_rfl
/-- slices.Compact[[]quitclaim/api.Id,quitclaim/api.Id] -/
def c_slices_Compact_Id : CC :=
.seq (.reg none [
 o 2 (.mv (.c (.sl 32 [] .full)))] [0]) (
.seq (.seq (.reg none [
 o 6 (.mv (.t 0)),
 o 7 (.len 1 (.t 6)),
 o 8 (.bin .lss (.t 7) (.c (.int .i64 2)))] [0, 8]) (
.cond (.t 8) (.seq (.reg none [
 o 9 (.mv (.t 0)),
 o 2 (.mv (.t 9))] [2]) (
.ret)) (
.skip))) (
.seq (.seq (.reg none [
 o 3 (.mv (.c (.int .i64 1)))] [0, 3]) (
.block 0 (
.wk (.loop (.wk (
.seq (.seq (.reg none [
 o 10 (.mv (.t 3)),
 o 11 (.mv (.t 0)),
 o 12 (.len 1 (.t 11)),
 o 13 (.bin .lss (.t 10) (.t 12))] [0, 3, 13]) (
.cond (.t 13) (.skip) (
.exit 0))) (
.seq (.block 1 (
.seq (.reg (some 10) [
 o 16 (.mv (.t 0)),
 o 17 (.mv (.t 3)),
 o 18 (.iaddr 32 (.t 16) (.t 17)),
 o 19 (.load 32 true (.t 18)),
 o 20 (.mv (.t 0)),
 o 21 (.mv (.t 3)),
 o 22 (.bin .sub (.t 21) (.c (.int .i64 1))),
 o 23 (.iaddr 32 (.t 20) (.t 22)),
 o 24 (.load 32 true (.t 23)),
 o 25 (.eqv (.arr 32 (.int .u8)) false (.t 19) (.t 24))] [0, 3, 25]) (
.cond (.t 25) (.seq (.reg none [
 o 26 (.mv (.t 0)),
 o 27 (.mv (.t 3)),
 o 28 (.slice 32 (.t 26) (some (.t 27)) none),
 o 4 (.mv (.t 28))] [0, 3, 4]) (
.seq (.seq (.reg none [
 o 5 (.mv (.c (.int .i64 1)))] [0, 3, 4, 5]) (
.block 2 (
.wk (.loop (.wk (
.seq (.seq (.reg none [
 o 29 (.mv (.t 5)),
 o 30 (.mv (.t 4)),
 o 31 (.len 1 (.t 30)),
 o 32 (.bin .lss (.t 29) (.t 31))] [0, 3, 4, 5, 32]) (
.cond (.t 32) (.skip) (
.exit 2))) (
.seq (.block 3 (
.seq (.reg (some 10) [
 o 35 (.mv (.t 4)),
 o 36 (.mv (.t 5)),
 o 37 (.iaddr 32 (.t 35) (.t 36)),
 o 38 (.load 32 true (.t 37)),
 o 39 (.mv (.t 4)),
 o 40 (.mv (.t 5)),
 o 41 (.bin .sub (.t 40) (.c (.int .i64 1))),
 o 42 (.iaddr 32 (.t 39) (.t 41)),
 o 43 (.load 32 true (.t 42)),
 o 44 (.eqv (.arr 32 (.int .u8)) true (.t 38) (.t 43))] [0, 3, 4, 5, 44]) (
.cond (.t 44) (.seq (.reg none [
 o 45 (.mv (.t 0)),
 o 46 (.mv (.t 3)),
 o 47 (.mv (.t 4)),
 o 48 (.mv (.t 5)),
 o 49 (.iaddr 32 (.t 47) (.t 48)),
 o 50 (.load 32 true (.t 49)),
 o 51 (.iaddr 32 (.t 45) (.t 46)),
 e (.store 32 (.t 51) (.t 50))] [0, 3, 4, 5]) (
.reg none [
 o 52 (.mv (.t 3)),
 o 53 (.bin .add (.t 52) (.c (.int .i64 1))),
 o 3 (.mv (.t 53))] [0, 3, 4, 5])) (
.skip)))) (
.reg none [
 o 33 (.mv (.t 5)),
 o 34 (.bin .add (.t 33) (.c (.int .i64 1))),
 o 5 (.mv (.t 34))] [0, 3, 4, 5])))))))) (
.seq (.reg none [
 o 54 (.mv (.t 0)),
 o 55 (.mv (.t 3)),
 o 56 (.slice 32 (.t 54) (some (.t 55)) none),
 e (.clear 32 (.agg [.int .u8 0, .int .u8 0, .int .u8 0, .int .u8 0, .int .u8 0, .int .u8 0, .int .u8 0, .int .u8 0, .int .u8 0, .int .u8 0, .int .u8 0, .int .u8 0, .int .u8 0, .int .u8 0, .int .u8 0, .int .u8 0, .int .u8 0, .int .u8 0, .int .u8 0, .int .u8 0, .int .u8 0, .int .u8 0, .int .u8 0, .int .u8 0, .int .u8 0, .int .u8 0, .int .u8 0, .int .u8 0, .int .u8 0, .int .u8 0, .int .u8 0, .int .u8 0]) (.t 56))] [0, 3]) (
.seq (.reg none [
 o 57 (.mv (.t 0)),
 o 58 (.mv (.t 3)),
 o 59 (.slice 32 (.t 57) none (some (.t 58))),
 o 2 (.mv (.t 59))] [2]) (
.ret))))) (
.skip)))) (
.reg none [
 o 14 (.mv (.t 3)),
 o 15 (.bin .add (.t 14) (.c (.int .i64 1))),
 o 3 (.mv (.t 15))] [0, 3])))))))) (
.seq (.reg none [
 o 60 (.mv (.t 0)),
 o 2 (.mv (.t 60))] [2]) (
.ret))))
def r_slices_Compact_Id : List RD := [.tmp 2]
theorem k_slices_Compact_Id : chkFn Pg n_slices_Compact_Id c_slices_Compact_Id r_slices_Compact_Id 1 = true := by kernel_rfl
/-- slices.EqualFunc[[]quitclaim/api.Patch,[]quitclaim/api.Patch,quitclaim/api.Patch,quitclaim/api.Patch] -/
def c_slices_EqualFunc_Patch : CC :=
.seq (.reg none [
 o 6 (.mv (.c (.bool false)))] [0, 1, 2]) (
.seq (.seq (.reg none [
 o 10 (.mv (.t 0)),
 o 11 (.len 1 (.t 10)),
 o 12 (.mv (.t 1)),
 o 13 (.len 1 (.t 12)),
 o 14 (.bin .neq (.t 11) (.t 13))] [0, 1, 2, 14]) (
.cond (.t 14) (.seq (.reg none [
 o 6 (.mv (.c (.bool false)))] [6]) (
.ret)) (
.skip))) (
.seq (.seq (.reg none [
 o 15 (.mv (.t 0)),
 o 16 (.len 1 (.t 15)),
 o 17 (.mv (.c (.int .i64 0)))] [1, 2, 15, 16, 17]) (
.block 0 (
.wk (.loop (.wk (
.seq (.reg none [
 o 18 (.bin .lss (.t 17) (.t 16))] [1, 2, 15, 16, 17, 18]) (
.seq (.cond (.t 18) (.skip) (
.exit 0)) (
.seq (.block 1 (
.seq (.reg none [
 o 19 (.mv (.t 17)),
 o 20 (.iaddr 39 (.t 15) (.t 17)),
 o 21 (.load 39 true (.t 20)),
 o 8 (.alloc (.agg [.sl 32 [] .full, .agg [.int .u8 0, .int .u8 0, .int .u8 0, .int .u8 0, .int .u8 0, .int .u8 0, .int .u8 0, .int .u8 0, .int .u8 0, .int .u8 0, .int .u8 0, .int .u8 0, .int .u8 0, .int .u8 0, .int .u8 0, .int .u8 0, .int .u8 0, .int .u8 0, .int .u8 0, .int .u8 0, .int .u8 0, .int .u8 0, .int .u8 0, .int .u8 0, .int .u8 0, .int .u8 0, .int .u8 0, .int .u8 0, .int .u8 0, .int .u8 0, .int .u8 0, .int .u8 0], .str [], .sl 39 [] .full, .agg [.int .i64 0, .sl 32 [] .full, .sl 32 [] .full, .sl 32 [] .full]])),
 o 7 (.mv (.t 19)),
 e (.store 39 (.t 8) (.t 21))] [1, 2, 7, 8, 15, 16, 17]) (
.seq (.reg none [
 o 22 (.mv (.t 1)),
 o 23 (.mv (.t 7)),
 o 24 (.iaddr 39 (.t 22) (.t 23)),
 o 25 (.load 39 true (.t 24)),
 o 9 (.alloc (.agg [.sl 32 [] .full, .agg [.int .u8 0, .int .u8 0, .int .u8 0, .int .u8 0, .int .u8 0, .int .u8 0, .int .u8 0, .int .u8 0, .int .u8 0, .int .u8 0, .int .u8 0, .int .u8 0, .int .u8 0, .int .u8 0, .int .u8 0, .int .u8 0, .int .u8 0, .int .u8 0, .int .u8 0, .int .u8 0, .int .u8 0, .int .u8 0, .int .u8 0, .int .u8 0, .int .u8 0, .int .u8 0, .int .u8 0, .int .u8 0, .int .u8 0, .int .u8 0, .int .u8 0, .int .u8 0], .str [], .sl 39 [] .full, .agg [.int .i64 0, .sl 32 [] .full, .sl 32 [] .full, .sl 32 [] .full]])),
 e (.store 39 (.t 9) (.t 25))] [1, 2, 8, 9, 15, 16, 17]) (
.seq (.reg none [
 o 26 (.mv (.t 2)),
 o 27 (.load 39 true (.t 8)),
 o 28 (.load 39 true (.t 9)),
 o 29 (.callv (.t 26) [.t 27, .t 28]),
 o 30 (.not (.t 29))] [1, 2, 15, 16, 17, 30]) (
.cond (.t 30) (.seq (.reg none [
 o 6 (.mv (.c (.bool false)))] [6]) (
.ret)) (
.skip)))))) (
.reg none [
 o 31 (.bin .add (.t 17) (.c (.int .i64 1))),
 o 17 (.mv (.t 31))] [1, 2, 15, 16, 17]))))))))) (
.seq (.reg none [
 o 6 (.mv (.c (.bool true)))] [6]) (
.ret))))
def r_slices_EqualFunc_Patch : List RD := [.tmp 6]
theorem k_slices_EqualFunc_Patch : chkFn Pg n_slices_EqualFunc_Patch c_slices_EqualFunc_Patch r_slices_EqualFunc_Patch 3 = true := by kernel_rfl
/-- slices.SortFunc[[]quitclaim/api.Id,quitclaim/api.Id] -/
def c_slices_SortFunc_Id : CC :=
.seq (.reg none [
 o 5 (.mv (.t 0)),
 o 6 (.len 1 (.t 5)),
 o 4 (.mv (.t 6))] [0, 1, 4]) (
.reg none [
 o 7 (.mv (.t 0)),
 o 8 (.mv (.t 4)),
 o 9 (.mv (.t 4)),
 o 10 (.conv .u64 (.t 9)),
 o 11 (.call n_bits_Len [.t 10]),
 o 12 (.mv (.t 1)),
 o 13 (.call n_slices_pdqsortCmpFunc_Id [.t 7, .c (.int .i64 0), .t 8, .t 11, .t 12])] [])
def r_slices_SortFunc_Id : List RD := []
theorem k_slices_SortFunc_Id : chkFn Pg n_slices_SortFunc_Id c_slices_SortFunc_Id r_slices_SortFunc_Id 2 = true := by kernel_rfl
/-- slices.choosePivotCmpFunc[quitclaim/api.Id] -/
def c_slices_choosePivotCmpFunc_Id : CC :=
.seq (.reg none [
 o 8 (.mv (.c (.int .i64 0))),
 o 9 (.mv (.c (.int .i64 0)))] [0, 1, 2, 3]) (
.seq (.reg none [
 o 15 (.mv (.t 2)),
 o 16 (.mv (.t 1)),
 o 17 (.bin .sub (.t 15) (.t 16)),
 o 10 (.mv (.t 17))] [0, 1, 3, 10]) (
.seq (.reg none [
 o 11 (.alloc (.int .i64 0))] [0, 1, 3, 10, 11]) (
.seq (.reg none [
 o 18 (.mv (.t 1)),
 o 19 (.mv (.t 10)),
 o 20 (.bin .quo (.t 19) (.c (.int .i64 4))),
 o 21 (.bin .mul (.t 20) (.c (.int .i64 1))),
 o 22 (.bin .add (.t 18) (.t 21)),
 o 12 (.mv (.t 22))] [0, 1, 3, 10, 11, 12]) (
.seq (.reg none [
 o 23 (.mv (.t 1)),
 o 24 (.mv (.t 10)),
 o 25 (.bin .quo (.t 24) (.c (.int .i64 4))),
 o 26 (.bin .mul (.t 25) (.c (.int .i64 2))),
 o 27 (.bin .add (.t 23) (.t 26)),
 o 13 (.mv (.t 27))] [0, 1, 3, 10, 11, 12, 13]) (
.seq (.reg none [
 o 28 (.mv (.t 1)),
 o 29 (.mv (.t 10)),
 o 30 (.bin .quo (.t 29) (.c (.int .i64 4))),
 o 31 (.bin .mul (.t 30) (.c (.int .i64 3))),
 o 32 (.bin .add (.t 28) (.t 31)),
 o 14 (.mv (.t 32))] [0, 3, 10, 11, 12, 13, 14]) (
.seq (.seq (.reg none [
 o 33 (.mv (.t 10)),
 o 34 (.bin .geq (.t 33) (.c (.int .i64 8)))] [0, 3, 10, 11, 12, 13, 14, 34]) (
.cond (.t 34) (.seq (.seq (.reg none [
 o 35 (.mv (.t 10)),
 o 36 (.bin .geq (.t 35) (.c (.int .i64 50)))] [0, 3, 11, 12, 13, 14, 36]) (
.cond (.t 36) (.seq (.reg none [
 o 37 (.mv (.t 0)),
 o 38 (.mv (.t 12)),
 o 39 (.mv (.t 3)),
 o 40 (.call n_slices_medianAdjacentCmpFunc_Id [.t 37, .t 38, .t 11, .t 39]),
 o 12 (.mv (.t 40))] [0, 3, 11, 12, 13, 14]) (
.seq (.reg none [
 o 41 (.mv (.t 0)),
 o 42 (.mv (.t 13)),
 o 43 (.mv (.t 3)),
 o 44 (.call n_slices_medianAdjacentCmpFunc_Id [.t 41, .t 42, .t 11, .t 43]),
 o 13 (.mv (.t 44))] [0, 3, 11, 12, 13, 14]) (
.reg none [
 o 45 (.mv (.t 0)),
 o 46 (.mv (.t 14)),
 o 47 (.mv (.t 3)),
 o 48 (.call n_slices_medianAdjacentCmpFunc_Id [.t 45, .t 46, .t 11, .t 47]),
 o 14 (.mv (.t 48))] [0, 3, 11, 12, 13, 14]))) (
.skip))) (
.reg none [
 o 49 (.mv (.t 0)),
 o 50 (.mv (.t 12)),
 o 51 (.mv (.t 13)),
 o 52 (.mv (.t 14)),
 o 53 (.mv (.t 3)),
 o 54 (.call n_slices_medianCmpFunc_Id [.t 49, .t 50, .t 51, .t 52, .t 11, .t 53]),
 o 13 (.mv (.t 54))] [11, 13])) (
.skip))) (
.seq (.reg none [
 o 55 (.load 1 false (.t 11))] [13, 55]) (
.block 0 (
.seq (.reg none [
 o 58 (.bin .eql (.t 55) (.c (.int .i64 0))),
 o 57 (.mv (.t 58))] [13, 55, 57]) (
.cond (.t 57) (.seq (.reg none [
 o 59 (.mv (.t 13)),
 o 8 (.mv (.t 59)),
 o 9 (.mv (.c (.int .i64 1)))] [8, 9]) (
.ret)) (
.seq (.reg none [
 o 61 (.bin .eql (.t 55) (.c (.int .i64 12))),
 o 60 (.mv (.t 61))] [13, 60]) (
.cond (.t 60) (.seq (.reg none [
 o 62 (.mv (.t 13)),
 o 8 (.mv (.t 62)),
 o 9 (.mv (.c (.int .i64 2)))] [8, 9]) (
.ret)) (
.seq (.reg none [
 o 56 (.mv (.t 13)),
 o 8 (.mv (.t 56)),
 o 9 (.mv (.c (.int .i64 0)))] [8, 9]) (
.ret))))))))))))))
def r_slices_choosePivotCmpFunc_Id : List RD := [.tmp 8, .tmp 9]
theorem k_slices_choosePivotCmpFunc_Id : chkFn Pg n_slices_choosePivotCmpFunc_Id c_slices_choosePivotCmpFunc_Id r_slices_choosePivotCmpFunc_Id 4 = true := by kernel_rfl
/-- slices.medianAdjacentCmpFunc[quitclaim/api.Id] -/
def c_slices_medianAdjacentCmpFunc_Id : CC :=
.seq (.reg none [
 o 8 (.mv (.c (.int .i64 0)))] [0, 1, 2, 3]) (
.seq (.reg none [
 o 9 (.mv (.t 0)),
 o 10 (.mv (.t 1)),
 o 11 (.bin .sub (.t 10) (.c (.int .i64 1))),
 o 12 (.mv (.t 1)),
 o 13 (.mv (.t 1)),
 o 14 (.bin .add (.t 13) (.c (.int .i64 1))),
 o 15 (.mv (.t 2)),
 o 16 (.mv (.t 3)),
 o 17 (.call n_slices_medianCmpFunc_Id [.t 9, .t 11, .t 12, .t 14, .t 15, .t 16]),
 o 8 (.mv (.t 17))] [8]) (
.ret))
def r_slices_medianAdjacentCmpFunc_Id : List RD := [.tmp 8]
theorem k_slices_medianAdjacentCmpFunc_Id : chkFn Pg n_slices_medianAdjacentCmpFunc_Id c_slices_medianAdjacentCmpFunc_Id r_slices_medianAdjacentCmpFunc_Id 4 = true := by kernel_rfl
/-- slices.partitionCmpFunc[quitclaim/api.Id] -/
def c_slices_partitionCmpFunc_Id : CC :=
.seq (.reg none [
 o 10 (.mv (.c (.int .i64 0))),
 o 11 (.mv (.c (.bool false)))] [0, 1, 2, 3, 4]) (
.seq (.regm [
 q 0 0 (o 14 (.mv (.t 0))),
 q 0 0 (o 15 (.mv (.t 1))),
 q 0 1 (o 16 (.mv (.t 0))),
 q 0 1 (o 17 (.mv (.t 3))),
 q 0 0 (o 18 (.mv (.t 0))),
 q 0 0 (o 19 (.mv (.t 3))),
 q 0 0 (o 20 (.iaddr 32 (.t 18) (.t 19))),
 q 0 0 (o 21 (.load 32 true (.t 20))),
 q 0 1 (o 22 (.mv (.t 0))),
 q 0 1 (o 23 (.mv (.t 1))),
 q 0 1 (o 24 (.iaddr 32 (.t 22) (.t 23))),
 q 0 0 (o 25 (.load 32 true (.t 24))),
 q 0 0 (o 26 (.iaddr 32 (.t 14) (.t 15))),
 f (e (.store 32 (.t 26) (.t 21))),
 q 1 1 (o 27 (.iaddr 32 (.t 16) (.t 17))),
 f (e (.store 32 (.t 27) (.t 25)))] [0, 1, 2, 4]) (
.seq (.reg none [
 o 28 (.mv (.t 1)),
 o 29 (.bin .add (.t 28) (.c (.int .i64 1))),
 o 30 (.mv (.t 2)),
 o 31 (.bin .sub (.t 30) (.c (.int .i64 1))),
 o 12 (.mv (.t 29)),
 o 13 (.mv (.t 31))] [0, 1, 4, 12, 13]) (
.seq (.block 0 (
.wk (.loop (.wk (
.seq (.seq (.reg (some 16) [
 o 32 (.mv (.t 12)),
 o 33 (.mv (.t 13)),
 o 34 (.bin .leq (.t 32) (.t 33)),
 o 35 (.mv (.t 34)),
 g 36 (.mv (.t 4)) 35 true,
 g 37 (.mv (.t 0)) 35 true,
 g 38 (.mv (.t 12)) 35 true,
 g 39 (.iaddr 32 (.t 37) (.t 38)) 35 true,
 g 40 (.load 32 true (.t 39)) 35 true,
 g 41 (.mv (.t 0)) 35 true,
 g 42 (.mv (.t 1)) 35 true,
 g 43 (.iaddr 32 (.t 41) (.t 42)) 35 true,
 g 44 (.load 32 true (.t 43)) 35 true,
 g 45 (.callv (.t 36) [.t 40, .t 44]) 35 true,
 g 46 (.bin .lss (.t 45) (.c (.int .i64 0))) 35 true,
 o 47 (.pick (.t 35) (.t 46) (.c (.bool false)))] [0, 1, 4, 12, 13, 47]) (
.cond (.t 47) (.skip) (
.exit 0))) (
.block 1 (
.reg none [
 o 48 (.mv (.t 12)),
 o 49 (.bin .add (.t 48) (.c (.int .i64 1))),
 o 12 (.mv (.t 49))] [0, 1, 4, 12, 13]))))))) (
.seq (.block 2 (
.wk (.loop (.wk (
.seq (.seq (.reg (some 17) [
 o 50 (.mv (.t 12)),
 o 51 (.mv (.t 13)),
 o 52 (.bin .leq (.t 50) (.t 51)),
 o 53 (.mv (.t 52)),
 g 54 (.mv (.t 4)) 53 true,
 g 55 (.mv (.t 0)) 53 true,
 g 56 (.mv (.t 13)) 53 true,
 g 57 (.iaddr 32 (.t 55) (.t 56)) 53 true,
 g 58 (.load 32 true (.t 57)) 53 true,
 g 59 (.mv (.t 0)) 53 true,
 g 60 (.mv (.t 1)) 53 true,
 g 61 (.iaddr 32 (.t 59) (.t 60)) 53 true,
 g 62 (.load 32 true (.t 61)) 53 true,
 g 63 (.callv (.t 54) [.t 58, .t 62]) 53 true,
 g 64 (.bin .lss (.t 63) (.c (.int .i64 0))) 53 true,
 g 65 (.not (.t 64)) 53 true,
 o 66 (.pick (.t 53) (.t 65) (.c (.bool false)))] [0, 1, 4, 12, 13, 66]) (
.cond (.t 66) (.skip) (
.exit 2))) (
.block 3 (
.reg none [
 o 67 (.mv (.t 13)),
 o 68 (.bin .sub (.t 67) (.c (.int .i64 1))),
 o 13 (.mv (.t 68))] [0, 1, 4, 12, 13]))))))) (
.seq (.seq (.reg none [
 o 69 (.mv (.t 12)),
 o 70 (.mv (.t 13)),
 o 71 (.bin .gtr (.t 69) (.t 70))] [0, 1, 4, 12, 13, 71]) (
.cond (.t 71) (.seq (.regm [
 q 0 0 (o 72 (.mv (.t 0))),
 q 0 0 (o 73 (.mv (.t 13))),
 q 0 1 (o 74 (.mv (.t 0))),
 q 0 1 (o 75 (.mv (.t 1))),
 q 0 0 (o 76 (.mv (.t 0))),
 q 0 0 (o 77 (.mv (.t 1))),
 q 0 0 (o 78 (.iaddr 32 (.t 76) (.t 77))),
 q 0 0 (o 79 (.load 32 true (.t 78))),
 q 0 1 (o 80 (.mv (.t 0))),
 q 0 1 (o 81 (.mv (.t 13))),
 q 0 1 (o 82 (.iaddr 32 (.t 80) (.t 81))),
 q 0 0 (o 83 (.load 32 true (.t 82))),
 q 0 0 (o 84 (.iaddr 32 (.t 72) (.t 73))),
 f (e (.store 32 (.t 84) (.t 79))),
 q 1 1 (o 85 (.iaddr 32 (.t 74) (.t 75))),
 f (e (.store 32 (.t 85) (.t 83)))] [13]) (
.seq (.reg none [
 o 86 (.mv (.t 13)),
 o 10 (.mv (.t 86)),
 o 11 (.mv (.c (.bool true)))] [10, 11]) (
.ret))) (
.skip))) (
.seq (.regm [
 q 0 0 (o 87 (.mv (.t 0))),
 q 0 0 (o 88 (.mv (.t 12))),
 q 0 1 (o 89 (.mv (.t 0))),
 q 0 1 (o 90 (.mv (.t 13))),
 q 0 0 (o 91 (.mv (.t 0))),
 q 0 0 (o 92 (.mv (.t 13))),
 q 0 0 (o 93 (.iaddr 32 (.t 91) (.t 92))),
 q 0 0 (o 94 (.load 32 true (.t 93))),
 q 0 1 (o 95 (.mv (.t 0))),
 q 0 1 (o 96 (.mv (.t 12))),
 q 0 1 (o 97 (.iaddr 32 (.t 95) (.t 96))),
 q 0 0 (o 98 (.load 32 true (.t 97))),
 q 0 0 (o 99 (.iaddr 32 (.t 87) (.t 88))),
 f (e (.store 32 (.t 99) (.t 94))),
 q 1 1 (o 100 (.iaddr 32 (.t 89) (.t 90))),
 f (e (.store 32 (.t 100) (.t 98)))] [0, 1, 4, 12, 13]) (
.seq (.reg none [
 o 101 (.mv (.t 12)),
 o 102 (.bin .add (.t 101) (.c (.int .i64 1))),
 o 12 (.mv (.t 102))] [0, 1, 4, 12, 13]) (
.seq (.reg none [
 o 103 (.mv (.t 13)),
 o 104 (.bin .sub (.t 103) (.c (.int .i64 1))),
 o 13 (.mv (.t 104))] [0, 1, 4, 12, 13]) (
.seq (.block 4 (
.wk (.loop (.wk (
.block 5 (
.seq (.block 6 (
.wk (.loop (.wk (
.seq (.seq (.reg (some 16) [
 o 105 (.mv (.t 12)),
 o 106 (.mv (.t 13)),
 o 107 (.bin .leq (.t 105) (.t 106)),
 o 108 (.mv (.t 107)),
 g 109 (.mv (.t 4)) 108 true,
 g 110 (.mv (.t 0)) 108 true,
 g 111 (.mv (.t 12)) 108 true,
 g 112 (.iaddr 32 (.t 110) (.t 111)) 108 true,
 g 113 (.load 32 true (.t 112)) 108 true,
 g 114 (.mv (.t 0)) 108 true,
 g 115 (.mv (.t 1)) 108 true,
 g 116 (.iaddr 32 (.t 114) (.t 115)) 108 true,
 g 117 (.load 32 true (.t 116)) 108 true,
 g 118 (.callv (.t 109) [.t 113, .t 117]) 108 true,
 g 119 (.bin .lss (.t 118) (.c (.int .i64 0))) 108 true,
 o 120 (.pick (.t 108) (.t 119) (.c (.bool false)))] [0, 1, 4, 12, 13, 120]) (
.cond (.t 120) (.skip) (
.exit 6))) (
.block 7 (
.reg none [
 o 121 (.mv (.t 12)),
 o 122 (.bin .add (.t 121) (.c (.int .i64 1))),
 o 12 (.mv (.t 122))] [0, 1, 4, 12, 13]))))))) (
.seq (.block 8 (
.wk (.loop (.wk (
.seq (.seq (.reg (some 17) [
 o 123 (.mv (.t 12)),
 o 124 (.mv (.t 13)),
 o 125 (.bin .leq (.t 123) (.t 124)),
 o 126 (.mv (.t 125)),
 g 127 (.mv (.t 4)) 126 true,
 g 128 (.mv (.t 0)) 126 true,
 g 129 (.mv (.t 13)) 126 true,
 g 130 (.iaddr 32 (.t 128) (.t 129)) 126 true,
 g 131 (.load 32 true (.t 130)) 126 true,
 g 132 (.mv (.t 0)) 126 true,
 g 133 (.mv (.t 1)) 126 true,
 g 134 (.iaddr 32 (.t 132) (.t 133)) 126 true,
 g 135 (.load 32 true (.t 134)) 126 true,
 g 136 (.callv (.t 127) [.t 131, .t 135]) 126 true,
 g 137 (.bin .lss (.t 136) (.c (.int .i64 0))) 126 true,
 g 138 (.not (.t 137)) 126 true,
 o 139 (.pick (.t 126) (.t 138) (.c (.bool false)))] [0, 1, 4, 12, 13, 139]) (
.cond (.t 139) (.skip) (
.exit 8))) (
.block 9 (
.reg none [
 o 140 (.mv (.t 13)),
 o 141 (.bin .sub (.t 140) (.c (.int .i64 1))),
 o 13 (.mv (.t 141))] [0, 1, 4, 12, 13]))))))) (
.seq (.seq (.reg none [
 o 142 (.mv (.t 12)),
 o 143 (.mv (.t 13)),
 o 144 (.bin .gtr (.t 142) (.t 143))] [0, 1, 4, 12, 13, 144]) (
.cond (.t 144) (.exit 4) (
.skip))) (
.seq (.regm [
 q 0 0 (o 145 (.mv (.t 0))),
 q 0 0 (o 146 (.mv (.t 12))),
 q 0 1 (o 147 (.mv (.t 0))),
 q 0 1 (o 148 (.mv (.t 13))),
 q 0 0 (o 149 (.mv (.t 0))),
 q 0 0 (o 150 (.mv (.t 13))),
 q 0 0 (o 151 (.iaddr 32 (.t 149) (.t 150))),
 q 0 0 (o 152 (.load 32 true (.t 151))),
 q 0 1 (o 153 (.mv (.t 0))),
 q 0 1 (o 154 (.mv (.t 12))),
 q 0 1 (o 155 (.iaddr 32 (.t 153) (.t 154))),
 q 0 0 (o 156 (.load 32 true (.t 155))),
 q 0 0 (o 157 (.iaddr 32 (.t 145) (.t 146))),
 f (e (.store 32 (.t 157) (.t 152))),
 q 1 1 (o 158 (.iaddr 32 (.t 147) (.t 148))),
 f (e (.store 32 (.t 158) (.t 156)))] [0, 1, 4, 12, 13]) (
.seq (.reg none [
 o 159 (.mv (.t 12)),
 o 160 (.bin .add (.t 159) (.c (.int .i64 1))),
 o 12 (.mv (.t 160))] [0, 1, 4, 12, 13]) (
.reg none [
 o 161 (.mv (.t 13)),
 o 162 (.bin .sub (.t 161) (.c (.int .i64 1))),
 o 13 (.mv (.t 162))] [0, 1, 4, 12, 13]))))))))))) (
.seq (.regm [
 q 0 0 (o 163 (.mv (.t 0))),
 q 0 0 (o 164 (.mv (.t 13))),
 q 0 1 (o 165 (.mv (.t 0))),
 q 0 1 (o 166 (.mv (.t 1))),
 q 0 0 (o 167 (.mv (.t 0))),
 q 0 0 (o 168 (.mv (.t 1))),
 q 0 0 (o 169 (.iaddr 32 (.t 167) (.t 168))),
 q 0 0 (o 170 (.load 32 true (.t 169))),
 q 0 1 (o 171 (.mv (.t 0))),
 q 0 1 (o 172 (.mv (.t 13))),
 q 0 1 (o 173 (.iaddr 32 (.t 171) (.t 172))),
 q 0 0 (o 174 (.load 32 true (.t 173))),
 q 0 0 (o 175 (.iaddr 32 (.t 163) (.t 164))),
 f (e (.store 32 (.t 175) (.t 170))),
 q 1 1 (o 176 (.iaddr 32 (.t 165) (.t 166))),
 f (e (.store 32 (.t 176) (.t 174)))] [13]) (
.seq (.reg none [
 o 177 (.mv (.t 13)),
 o 10 (.mv (.t 177)),
 o 11 (.mv (.c (.bool false)))] [10, 11]) (
.ret))))))))))))
def r_slices_partitionCmpFunc_Id : List RD := [.tmp 10, .tmp 11]
theorem k_slices_partitionCmpFunc_Id : chkFn Pg n_slices_partitionCmpFunc_Id c_slices_partitionCmpFunc_Id r_slices_partitionCmpFunc_Id 5 = true := by kernel_rfl
/-- strings.Contains -/
def c_strings_Contains : CC :=
.seq (.reg none [
 o 4 (.mv (.c (.bool false)))] [0, 1]) (
.seq (.reg none [
 o 5 (.mv (.t 0)),
 o 6 (.mv (.t 1)),
 o 7 (.call n_strings_Index [.t 5, .t 6]),
 o 8 (.bin .geq (.t 7) (.c (.int .i64 0))),
 o 4 (.mv (.t 8))] [4]) (
.ret))
def r_strings_Contains : List RD := [.tmp 4]
theorem k_strings_Contains : chkFn Pg n_strings_Contains c_strings_Contains r_strings_Contains 2 = true := by kernel_rfl
/-- quitclaim/tag.Of -/
def c_tag_Of : CC :=
.seq (.reg none [
 o 4 (.alloc (.agg [.int .u8 0, .int .u8 0, .int .u8 0, .int .u8 0, .int .u8 0, .int .u8 0, .int .u8 0, .int .u8 0, .int .u8 0, .int .u8 0, .int .u8 0, .int .u8 0, .int .u8 0, .int .u8 0, .int .u8 0, .int .u8 0, .int .u8 0, .int .u8 0, .int .u8 0, .int .u8 0, .int .u8 0, .int .u8 0, .int .u8 0, .int .u8 0, .int .u8 0, .int .u8 0, .int .u8 0, .int .u8 0, .int .u8 0, .int .u8 0, .int .u8 0, .int .u8 0])),
 o 5 (.mv (.c (.int .i64 0)))] [0, 1, 4]) (
.seq (.reg none [
 o 9 (.mv (.t 0)),
 o 10 (.mv (.t 1)),
 o 11 (.call n_tag_Text [.t 9, .t 10]),
 o 8 (.mv (.t 11)),
 o 12 (.extract 0 (.t 8)),
 o 13 (.extract 1 (.t 8)),
 o 6 (.mv (.t 12)),
 o 7 (.mv (.t 13))] [4, 6, 7]) (
.seq (.seq (.reg none [
 o 14 (.mv (.t 7)),
 o 15 (.bin .neq (.t 14) (.c (.int .i64 0)))] [4, 6, 7, 15]) (
.cond (.t 15) (.seq (.reg none [
 o 16 (.build [.int .u8 0, .int .u8 0, .int .u8 0, .int .u8 0, .int .u8 0, .int .u8 0, .int .u8 0, .int .u8 0, .int .u8 0, .int .u8 0, .int .u8 0, .int .u8 0, .int .u8 0, .int .u8 0, .int .u8 0, .int .u8 0, .int .u8 0, .int .u8 0, .int .u8 0, .int .u8 0, .int .u8 0, .int .u8 0, .int .u8 0, .int .u8 0, .int .u8 0, .int .u8 0, .int .u8 0, .int .u8 0, .int .u8 0, .int .u8 0, .int .u8 0, .int .u8 0] []),
 o 17 (.mv (.t 7)),
 e (.store 32 (.t 4) (.t 16)),
 o 5 (.mv (.t 17))] [4, 5]) (
.ret)) (
.skip))) (
.seq (.reg none [
 o 18 (.mv (.t 6)),
 o 19 (.call n_sha_Sum [.t 18]),
 e (.store 32 (.t 4) (.t 19)),
 o 5 (.mv (.c (.int .i64 0)))] [4, 5]) (
.ret))))
def r_tag_Of : List RD := [.cell 4 32 true, .tmp 5]
theorem k_tag_Of : chkFn Pg n_tag_Of c_tag_Of r_tag_Of 2 = true := by kernel_rfl
end Go.Abs
end
