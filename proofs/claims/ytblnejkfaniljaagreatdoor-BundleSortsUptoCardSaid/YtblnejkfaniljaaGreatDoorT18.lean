/-
  The abstract code of the program's functions, by program: part 1.
  Conditions: those that stand ahead of each theorem; no more.
-/
import Derived.Test.YtblnejkfaniljaaGreatDoorT16

section
namespace Go.Abs
open Go
/-- internal/bytealg.IndexRabinKarp[string] -/
def c_bytealg_IndexRabinKarp_string : CC :=
.seq (.reg none [
 o 4 (.mv (.c (.int .i64 0)))] [0, 1]) (
.seq (.reg none [
 o 12 (.mv (.t 1)),
 o 13 (.call n_bytealg_hashStr_string [.t 12]),
 o 11 (.mv (.t 13)),
 o 14 (.extract 0 (.t 11)),
 o 15 (.extract 1 (.t 11)),
 o 5 (.mv (.t 14)),
 o 6 (.mv (.t 15))] [0, 1, 5, 6]) (
.seq (.reg none [
 o 16 (.mv (.t 1)),
 o 17 (.len 0 (.t 16)),
 o 7 (.mv (.t 17))] [0, 1, 5, 6, 7]) (
.seq (.reg none [
 o 8 (.mv (.c (.int .u32 0)))] [0, 1, 5, 6, 7, 8]) (
.seq (.seq (.reg none [
 o 9 (.mv (.c (.int .i64 0)))] [0, 1, 5, 6, 7, 8, 9]) (
.block 0 (
.wk (.loop (.wk (
.seq (.seq (.reg none [
 o 18 (.mv (.t 9)),
 o 19 (.mv (.t 7)),
 o 20 (.bin .lss (.t 18) (.t 19))] [0, 1, 5, 6, 7, 8, 9, 20]) (
.cond (.t 20) (.skip) (
.exit 0))) (
.seq (.block 1 (
.reg none [
 o 23 (.mv (.t 8)),
 o 24 (.bin .mul (.t 23) (.c (.int .u32 16777619))),
 o 25 (.mv (.t 0)),
 o 26 (.mv (.t 9)),
 o 27 (.idxS (.t 25) (.t 26)),
 o 28 (.conv .u32 (.t 27)),
 o 29 (.bin .add (.t 24) (.t 28)),
 o 8 (.mv (.t 29))] [0, 1, 5, 6, 7, 8, 9])) (
.reg none [
 o 21 (.mv (.t 9)),
 o 22 (.bin .add (.t 21) (.c (.int .i64 1))),
 o 9 (.mv (.t 22))] [0, 1, 5, 6, 7, 8, 9])))))))) (
.seq (.seq (.reg none [
 o 30 (.mv (.t 8)),
 o 31 (.mv (.t 5)),
 o 32 (.bin .eql (.t 30) (.t 31)),
 o 33 (.mv (.t 32)),
 g 34 (.mv (.t 0)) 33 true,
 g 35 (.mv (.t 7)) 33 true,
 g 36 (.sliceS (.t 34) none (some (.t 35))) 33 true,
 g 37 (.mv (.t 1)) 33 true,
 g 38 (.bin .eql (.t 36) (.t 37)) 33 true,
 o 39 (.pick (.t 33) (.t 38) (.c (.bool false)))] [0, 1, 5, 6, 7, 8, 39]) (
.cond (.t 39) (.seq (.reg none [
 o 4 (.mv (.c (.int .i64 0)))] [4]) (
.ret)) (
.skip))) (
.seq (.seq (.reg none [
 o 40 (.mv (.t 7)),
 o 10 (.mv (.t 40))] [0, 1, 5, 6, 7, 8, 10]) (
.block 2 (
.wk (.loop (.wk (
.seq (.seq (.reg none [
 o 41 (.mv (.t 10)),
 o 42 (.mv (.t 0)),
 o 43 (.len 0 (.t 42)),
 o 44 (.bin .lss (.t 41) (.t 43))] [0, 1, 5, 6, 7, 8, 10, 44]) (
.cond (.t 44) (.skip) (
.exit 2))) (
.block 3 (
.seq (.reg none [
 o 45 (.mv (.t 8)),
 o 46 (.bin .mul (.t 45) (.c (.int .u32 16777619))),
 o 8 (.mv (.t 46))] [0, 1, 5, 6, 7, 8, 10]) (
.seq (.reg none [
 o 47 (.mv (.t 8)),
 o 48 (.mv (.t 0)),
 o 49 (.mv (.t 10)),
 o 50 (.idxS (.t 48) (.t 49)),
 o 51 (.conv .u32 (.t 50)),
 o 52 (.bin .add (.t 47) (.t 51)),
 o 8 (.mv (.t 52))] [0, 1, 5, 6, 7, 8, 10]) (
.seq (.reg none [
 o 53 (.mv (.t 8)),
 o 54 (.mv (.t 6)),
 o 55 (.mv (.t 0)),
 o 56 (.mv (.t 10)),
 o 57 (.mv (.t 7)),
 o 58 (.bin .sub (.t 56) (.t 57)),
 o 59 (.idxS (.t 55) (.t 58)),
 o 60 (.conv .u32 (.t 59)),
 o 61 (.bin .mul (.t 54) (.t 60)),
 o 62 (.bin .sub (.t 53) (.t 61)),
 o 8 (.mv (.t 62))] [0, 1, 5, 6, 7, 8, 10]) (
.seq (.reg none [
 o 63 (.mv (.t 10)),
 o 64 (.bin .add (.t 63) (.c (.int .i64 1))),
 o 10 (.mv (.t 64))] [0, 1, 5, 6, 7, 8, 10]) (
.seq (.reg none [
 o 65 (.mv (.t 8)),
 o 66 (.mv (.t 5)),
 o 67 (.bin .eql (.t 65) (.t 66)),
 o 68 (.mv (.t 67)),
 g 69 (.mv (.t 0)) 68 true,
 g 70 (.mv (.t 10)) 68 true,
 g 71 (.mv (.t 7)) 68 true,
 g 72 (.bin .sub (.t 70) (.t 71)) 68 true,
 g 73 (.mv (.t 10)) 68 true,
 g 74 (.sliceS (.t 69) (some (.t 72)) (some (.t 73))) 68 true,
 g 75 (.mv (.t 1)) 68 true,
 g 76 (.bin .eql (.t 74) (.t 75)) 68 true,
 o 77 (.pick (.t 68) (.t 76) (.c (.bool false)))] [0, 1, 5, 6, 7, 8, 10, 77]) (
.cond (.t 77) (.seq (.reg none [
 o 78 (.mv (.t 10)),
 o 79 (.mv (.t 7)),
 o 80 (.bin .sub (.t 78) (.t 79)),
 o 4 (.mv (.t 80))] [4]) (
.ret)) (
.skip)))))))))))))) (
.seq (.reg none [
 o 4 (.mv (.c (.int .i64 (-1))))] [4]) (
.ret))))))))
def r_bytealg_IndexRabinKarp_string : List RD := [.tmp 4]
theorem k_bytealg_IndexRabinKarp_string : chkFn Pg n_bytealg_IndexRabinKarp_string c_bytealg_IndexRabinKarp_string r_bytealg_IndexRabinKarp_string 2 = true := by kernel_rfl
/-- (*quitclaim/graph.Graph).Order -/
def c_graph_Graph_Order : CC :=
.seq (.reg none [
 o 2 (.mv (.c (.sl 32 [] .full)))] [0]) (
.seq (.reg none [
 o 3 (.mv (.t 0)),
 o 4 (.nilchk (.t 3)),
 o 5 (.faddr 2 2 (.t 4)),
 o 6 (.load 1 false (.t 5)),
 o 7 (.call n_slices_Clone_Id [.t 6]),
 o 2 (.mv (.t 7))] [2]) (
.ret))
def r_graph_Graph_Order : List RD := [.tmp 2]
theorem k_graph_Graph_Order : chkFn Pg n_graph_Graph_Order c_graph_Graph_Order r_graph_Graph_Order 1 = true := by kernel_rfl
/-- quitclaim/id.Both$1 -/
def c_id_Both_1 : CC :=
.seq (.reg none [
 o 4 (.mv (.c (.bool false)))] [0, 1]) (
.seq (.reg none [
 o 5 (.mv (.t 0)),
 o 6 (.mv (.t 5)),
 g 7 (.mv (.t 1)) 6 true,
 o 8 (.pick (.t 6) (.t 7) (.c (.bool false))),
 o 4 (.mv (.t 8))] [4]) (
.ret))
def r_id_Both_1 : List RD := [.tmp 4]
theorem k_id_Both_1 : chkFn Pg n_id_Both_1 c_id_Both_1 r_id_Both_1 2 = true := by kernel_rfl
/-- quitclaim/id.compare -/
def c_id_compare : CC :=
.seq (.reg none [
 o 2 (.box (.t 0)),
 o 3 (.box (.t 1)),
 o 4 (.mv (.c (.int .i64 0)))] [2, 3]) (
.seq (.reg (some 2) [
 o 5 (.sliceA 32 1 (.t 2) none none),
 o 6 (.sliceA 32 1 (.t 3) none none),
 o 7 (.call n_bytes_Compare [.t 5, .t 6]),
 o 4 (.mv (.t 7))] [4]) (
.ret))
def r_id_compare : List RD := [.tmp 4]
theorem k_id_compare : chkFn Pg n_id_compare c_id_compare r_id_compare 2 = true := by kernel_rfl
/-- quitclaim/op.Hunk -/
def c_op_Hunk : CC :=
.seq (.reg none [
 o 1 (.box (.t 0)),
 o 2 (.alloc (.agg [.int .i64 0, .sl 1 [] .full, .sl 1 [] .full]))] [1, 2]) (
.seq (.reg none [
 o 3 (.faddr 3 3 (.t 1)),
 o 4 (.load 1 false (.t 3)),
 o 5 (.faddr 4 4 (.t 1)),
 o 6 (.load 1 false (.t 5)),
 o 7 (.faddr 5 5 (.t 1)),
 o 8 (.load 1 false (.t 7)),
 o 9 (.build [.int .i64 0, .sl 1 [] .full, .sl 1 [] .full] [(0, .t 4), (1, .t 6), (2, .t 8)]),
 e (.store 3 (.t 2) (.t 9))] [2]) (
.ret))
def r_op_Hunk : List RD := [.cell 2 3 true]
theorem k_op_Hunk : chkFn Pg n_op_Hunk c_op_Hunk r_op_Hunk 1 = true := by kernel_rfl
/-- (*quitclaim/pack.Writer).Num -/
def c_pack_Writer_Num : CC :=
.seq (.reg none [
 o 4 (.mv (.c (.bool false)))] [0, 1]) (
.seq (.seq (.reg none [
 o 5 (.mv (.t 1)),
 o 6 (.bin .lss (.t 5) (.c (.int .i64 0))),
 o 7 (.mv (.t 6)),
 g 8 (.mv (.t 1)) 7 false,
 g 9 (.bin .gtr (.t 8) (.c (.int .i64 4611686018427387904))) 7 false,
 o 10 (.pick (.t 7) (.c (.bool true)) (.t 9))] [0, 1, 10]) (
.cond (.t 10) (.seq (.reg none [
 o 4 (.mv (.c (.bool false)))] [4]) (
.ret)) (
.skip))) (
.seq (.block 0 (
.wk (.loop (.wk (
.seq (.seq (.reg none [
 o 11 (.mv (.t 1)),
 o 12 (.bin .geq (.t 11) (.c (.int .i64 128)))] [0, 1, 12]) (
.cond (.t 12) (.skip) (
.exit 0))) (
.seq (.block 1 (
.reg none [
 o 15 (.mv (.t 0)),
 o 16 (.mv (.t 1)),
 o 17 (.conv .u8 (.t 16)),
 o 18 (.bin .or (.t 17) (.c (.int .u8 128))),
 o 19 (.call n_pack_Writer_Byte [.t 15, .t 18])] [0, 1])) (
.reg none [
 o 13 (.mv (.t 1)),
 o 14 (.bin .shr (.t 13) (.c (.int .u64 7))),
 o 1 (.mv (.t 14))] [0, 1]))))))) (
.seq (.reg none [
 o 20 (.mv (.t 0)),
 o 21 (.mv (.t 1)),
 o 22 (.conv .u8 (.t 21)),
 o 23 (.call n_pack_Writer_Byte [.t 20, .t 22])] []) (
.seq (.reg none [
 o 4 (.mv (.c (.bool true)))] [4]) (
.ret)))))
def r_pack_Writer_Num : List RD := [.tmp 4]
theorem k_pack_Writer_Num : chkFn Pg n_pack_Writer_Num c_pack_Writer_Num r_pack_Writer_Num 2 = true := by kernel_rfl
/-- quitclaim/quitclaimref01.Value -/
def c_ref01_Value : CC :=
.seq (.reg none [
 o 2 (.mv (.c (.int .u64 0)))] [0]) (
.seq (.reg none [
 o 3 (.mv (.c (.int .u64 0)))] [0, 3]) (
.seq (.seq (.reg none [
 o 4 (.mv (.c (.int .i64 0)))] [0, 3, 4]) (
.block 0 (
.wk (.loop (.wk (
.seq (.seq (.reg none [
 o 5 (.mv (.t 4)),
 o 6 (.mv (.t 0)),
 o 7 (.len 0 (.t 6)),
 o 8 (.bin .lss (.t 5) (.t 7))] [0, 3, 4, 8]) (
.cond (.t 8) (.skip) (
.exit 0))) (
.seq (.block 1 (
.reg none [
 o 11 (.mv (.t 3)),
 o 12 (.bin .mul (.c (.int .u64 256)) (.t 11)),
 o 13 (.mv (.t 0)),
 o 14 (.mv (.t 4)),
 o 15 (.idxS (.t 13) (.t 14)),
 o 16 (.conv .u64 (.t 15)),
 o 17 (.bin .add (.t 12) (.t 16)),
 o 3 (.mv (.t 17))] [0, 3, 4])) (
.reg none [
 o 9 (.mv (.t 4)),
 o 10 (.bin .add (.t 9) (.c (.int .i64 1))),
 o 4 (.mv (.t 10))] [0, 3, 4])))))))) (
.seq (.reg none [
 o 18 (.mv (.t 3)),
 o 2 (.mv (.t 18))] [2]) (
.ret))))
def r_ref01_Value : List RD := [.tmp 2]
theorem k_ref01_Value : chkFn Pg n_ref01_Value c_ref01_Value r_ref01_Value 1 = true := by kernel_rfl
/-- quitclaim/quitclaimref02.Sum -/
def c_ref02_Sum : CC :=
.seq (.reg none [
 o 2 (.alloc (.agg [.int .u8 0, .int .u8 0, .int .u8 0, .int .u8 0, .int .u8 0, .int .u8 0, .int .u8 0, .int .u8 0, .int .u8 0, .int .u8 0, .int .u8 0, .int .u8 0, .int .u8 0, .int .u8 0, .int .u8 0, .int .u8 0, .int .u8 0, .int .u8 0, .int .u8 0, .int .u8 0, .int .u8 0, .int .u8 0, .int .u8 0, .int .u8 0, .int .u8 0, .int .u8 0, .int .u8 0, .int .u8 0, .int .u8 0, .int .u8 0, .int .u8 0, .int .u8 0]))] [0, 2]) (
.seq (.reg none [
 o 11 (.call n_ref02_Known []),
 o 10 (.mv (.t 11)),
 o 12 (.extract 0 (.t 10)),
 o 13 (.extract 1 (.t 10)),
 o 3 (.mv (.t 12)),
 o 4 (.mv (.t 13))] [0, 2, 3, 4]) (
.seq (.reg none [
 o 14 (.mv (.t 0)),
 o 15 (.call n_ref02_Padded [.t 14]),
 o 5 (.mv (.t 15))] [2, 3, 4, 5]) (
.seq (.seq (.reg none [
 o 6 (.mv (.c (.int .i64 0)))] [2, 3, 4, 5, 6]) (
.block 0 (
.wk (.loop (.wk (
.seq (.seq (.reg none [
 o 16 (.mv (.t 6)),
 o 17 (.mv (.t 5)),
 o 18 (.len 0 (.t 17)),
 o 19 (.bin .lss (.t 16) (.t 18))] [2, 3, 4, 5, 6, 19]) (
.cond (.t 19) (.skip) (
.exit 0))) (
.seq (.block 1 (
.reg none [
 o 22 (.mv (.t 3)),
 o 23 (.mv (.t 4)),
 o 24 (.mv (.t 5)),
 o 25 (.mv (.t 6)),
 o 26 (.mv (.t 6)),
 o 27 (.bin .add (.t 26) (.c (.int .i64 64))),
 o 28 (.sliceS (.t 24) (some (.t 25)) (some (.t 27))),
 o 29 (.call n_ref02_one [.t 22, .t 23, .t 28]),
 o 3 (.mv (.t 29))] [2, 3, 4, 5, 6])) (
.reg none [
 o 20 (.mv (.t 6)),
 o 21 (.bin .add (.t 20) (.c (.int .i64 64))),
 o 6 (.mv (.t 21))] [2, 3, 4, 5, 6])))))))) (
.seq (.reg none [
 o 7 (.alloc (.agg [.int .u8 0, .int .u8 0, .int .u8 0, .int .u8 0, .int .u8 0, .int .u8 0, .int .u8 0, .int .u8 0, .int .u8 0, .int .u8 0, .int .u8 0, .int .u8 0, .int .u8 0, .int .u8 0, .int .u8 0, .int .u8 0, .int .u8 0, .int .u8 0, .int .u8 0, .int .u8 0, .int .u8 0, .int .u8 0, .int .u8 0, .int .u8 0, .int .u8 0, .int .u8 0, .int .u8 0, .int .u8 0, .int .u8 0, .int .u8 0, .int .u8 0, .int .u8 0]))] [2, 3, 7]) (
.seq (.reg none [
 o 30 (.mv (.t 3)),
 o 31 (.call n_ref01_Bytes [.t 30]),
 o 8 (.mv (.t 31))] [2, 7, 8]) (
.seq (.seq (.reg none [
 o 9 (.mv (.c (.int .i64 0)))] [2, 7, 8, 9]) (
.block 2 (
.wk (.loop (.wk (
.seq (.seq (.reg none [
 o 32 (.mv (.t 9)),
 o 33 (.bin .lss (.t 32) (.c (.int .i64 32)))] [2, 7, 8, 9, 33]) (
.cond (.t 33) (.skip) (
.exit 2))) (
.seq (.block 3 (
.reg none [
 o 36 (.mv (.t 9)),
 o 37 (.mv (.t 8)),
 o 38 (.mv (.t 9)),
 o 39 (.idxS (.t 37) (.t 38)),
 o 40 (.iaddrA 32 1 (.t 7) (.t 36)),
 e (.store 1 (.t 40) (.t 39))] [2, 7, 8, 9])) (
.reg none [
 o 34 (.mv (.t 9)),
 o 35 (.bin .add (.t 34) (.c (.int .i64 1))),
 o 9 (.mv (.t 35))] [2, 7, 8, 9])))))))) (
.seq (.reg none [
 o 41 (.load 32 true (.t 7)),
 e (.store 32 (.t 2) (.t 41))] [2]) (
.ret))))))))
def r_ref02_Sum : List RD := [.cell 2 32 true]
theorem k_ref02_Sum : chkFn Pg n_ref02_Sum c_ref02_Sum r_ref02_Sum 1 = true := by kernel_rfl
/-- quitclaim/quitclaimref03.All -/
def c_ref03_All : CC :=
.seq (.reg none [
 o 2 (.mv (.c (.str [])))] [0]) (
.seq (.reg none [
 o 3 (.mv (.c (.str [])))] [0, 3]) (
.seq (.seq (.reg none [
 o 4 (.mv (.c (.int .i64 0)))] [0, 3, 4]) (
.block 0 (
.wk (.loop (.wk (
.seq (.seq (.reg none [
 o 5 (.mv (.t 4)),
 o 6 (.mv (.t 0)),
 o 7 (.len 1 (.t 6)),
 o 8 (.bin .lss (.t 5) (.t 7))] [0, 3, 4, 8]) (
.cond (.t 8) (.skip) (
.exit 0))) (
.seq (.block 1 (
.reg none [
 o 11 (.mv (.t 3)),
 o 12 (.mv (.t 0)),
 o 13 (.mv (.t 4)),
 o 14 (.iaddr 32 (.t 12) (.t 13)),
 o 15 (.load 32 true (.t 14)),
 o 16 (.call n_ref03_Bytes [.t 15]),
 o 17 (.bin .add (.t 11) (.t 16)),
 o 3 (.mv (.t 17))] [0, 3, 4])) (
.reg none [
 o 9 (.mv (.t 4)),
 o 10 (.bin .add (.t 9) (.c (.int .i64 1))),
 o 4 (.mv (.t 10))] [0, 3, 4])))))))) (
.seq (.reg none [
 o 18 (.mv (.t 3)),
 o 2 (.mv (.t 18))] [2]) (
.ret))))
def r_ref03_All : List RD := [.tmp 2]
theorem k_ref03_All : chkFn Pg n_ref03_All c_ref03_All r_ref03_All 1 = true := by kernel_rfl
/-- quitclaim/quitclaimref05.Texts -/
def c_ref05_Texts : CC :=
.seq (.reg none [
 o 2 (.mv (.c (.str [])))] [0]) (
.seq (.reg none [
 o 5 (.mv (.t 0)),
 o 6 (.len 1 (.t 5)),
 o 7 (.call n_ref05_Num [.t 6]),
 o 3 (.mv (.t 7))] [0, 3]) (
.seq (.seq (.reg none [
 o 4 (.mv (.c (.int .i64 0)))] [0, 3, 4]) (
.block 0 (
.wk (.loop (.wk (
.seq (.seq (.reg none [
 o 8 (.mv (.t 4)),
 o 9 (.mv (.t 0)),
 o 10 (.len 1 (.t 9)),
 o 11 (.bin .lss (.t 8) (.t 10))] [0, 3, 4, 11]) (
.cond (.t 11) (.skip) (
.exit 0))) (
.seq (.block 1 (
.reg none [
 o 14 (.mv (.t 3)),
 o 15 (.mv (.t 0)),
 o 16 (.mv (.t 4)),
 o 17 (.iaddr 1 (.t 15) (.t 16)),
 o 18 (.load 1 false (.t 17)),
 o 19 (.call n_ref05_Text [.t 18]),
 o 20 (.bin .add (.t 14) (.t 19)),
 o 3 (.mv (.t 20))] [0, 3, 4])) (
.reg none [
 o 12 (.mv (.t 4)),
 o 13 (.bin .add (.t 12) (.c (.int .i64 1))),
 o 4 (.mv (.t 13))] [0, 3, 4])))))))) (
.seq (.reg none [
 o 21 (.mv (.t 3)),
 o 2 (.mv (.t 21))] [2]) (
.ret))))
def r_ref05_Texts : List RD := [.tmp 2]
theorem k_ref05_Texts : chkFn Pg n_ref05_Texts c_ref05_Texts r_ref05_Texts 1 = true := by kernel_rfl
/-- quitclaim/quitclaimref11.Right -/
def c_ref11_Right : CC :=
.seq (.reg none [
 o 1 (.box (.t 0)),
 o 2 (.mv (.c (.bool false)))] [1]) (
.seq (.reg none [
 o 3 (.faddr 0 0 (.t 1)),
 o 4 (.load 1 false (.t 3)),
 o 5 (.bin .geq (.t 4) (.c (.int .i64 0))),
 o 6 (.mv (.t 5)),
 g 7 (.faddr 0 0 (.t 1)) 6 true,
 g 8 (.load 1 false (.t 7)) 6 true,
 g 9 (.bin .leq (.t 8) (.c (.int .i64 1000))) 6 true,
 o 10 (.pick (.t 6) (.t 9) (.c (.bool false))),
 o 11 (.mv (.t 10)),
 g 12 (.faddr 1 1 (.t 1)) 11 true,
 g 13 (.load 1 false (.t 12)) 11 true,
 g 14 (.call n_ref11_Lines [.t 13]) 11 true,
 o 15 (.pick (.t 11) (.t 14) (.c (.bool false))),
 o 16 (.mv (.t 15)),
 g 17 (.faddr 2 2 (.t 1)) 16 true,
 g 18 (.load 1 false (.t 17)) 16 true,
 g 19 (.call n_ref11_Lines [.t 18]) 16 true,
 o 20 (.pick (.t 16) (.t 19) (.c (.bool false))),
 o 21 (.mv (.t 20)),
 g 22 (.faddr 1 1 (.t 1)) 21 true,
 g 23 (.load 1 false (.t 22)) 21 true,
 g 24 (.len 1 (.t 23)) 21 true,
 g 25 (.bin .gtr (.t 24) (.c (.int .i64 0))) 21 true,
 g 26 (.mv (.t 25)) 21 true,
 g 27 (.faddr 2 2 (.t 1)) 26 false,
 g 28 (.load 1 false (.t 27)) 26 false,
 g 29 (.len 1 (.t 28)) 26 false,
 g 30 (.bin .gtr (.t 29) (.c (.int .i64 0))) 26 false,
 g 31 (.pick (.t 26) (.c (.bool true)) (.t 30)) 21 true,
 o 32 (.pick (.t 21) (.t 31) (.c (.bool false))),
 o 2 (.mv (.t 32))] [2]) (
.ret))
def r_ref11_Right : List RD := [.tmp 2]
theorem k_ref11_Right : chkFn Pg n_ref11_Right c_ref11_Right r_ref11_Right 1 = true := by kernel_rfl
/-- quitclaim/quitclaimref15.Body -/
def c_ref15_Body : CC :=
.seq (.reg none [
 o 1 (.box (.t 0)),
 o 2 (.mv (.c (.str [])))] [1]) (
.seq (.reg (some 17) [
 o 5 (.faddr 0 0 (.t 1)),
 o 6 (.load 1 false (.t 5)),
 o 7 (.call n_ref05_Ids [.t 6]),
 o 8 (.faddr 1 1 (.t 1)),
 o 9 (.load 32 true (.t 8)),
 o 10 (.call n_ref03_Bytes [.t 9]),
 o 11 (.bin .add (.t 7) (.t 10)),
 o 12 (.faddr 2 33 (.t 1)),
 o 13 (.load 1 false (.t 12)),
 o 14 (.call n_ref05_Text [.t 13]),
 o 15 (.bin .add (.t 11) (.t 14)),
 o 16 (.faddr 3 34 (.t 1)),
 o 17 (.load 1 false (.t 16)),
 o 18 (.len 1 (.t 17)),
 o 19 (.call n_ref05_Num [.t 18]),
 o 20 (.bin .add (.t 15) (.t 19)),
 o 3 (.mv (.t 20))] [1, 3]) (
.seq (.seq (.reg none [
 o 4 (.mv (.c (.int .i64 0)))] [1, 3, 4]) (
.block 0 (
.wk (.loop (.wk (
.seq (.seq (.reg none [
 o 21 (.mv (.t 4)),
 o 22 (.faddr 3 34 (.t 1)),
 o 23 (.load 1 false (.t 22)),
 o 24 (.len 1 (.t 23)),
 o 25 (.bin .lss (.t 21) (.t 24))] [1, 3, 4, 25]) (
.cond (.t 25) (.skip) (
.exit 0))) (
.seq (.block 1 (
.reg none [
 o 28 (.mv (.t 3)),
 o 29 (.faddr 3 34 (.t 1)),
 o 30 (.load 1 false (.t 29)),
 o 31 (.mv (.t 4)),
 o 32 (.iaddr 39 (.t 30) (.t 31)),
 o 33 (.load 39 true (.t 32)),
 o 34 (.call n_ref13_Bytes [.t 33]),
 o 35 (.bin .add (.t 28) (.t 34)),
 o 3 (.mv (.t 35))] [1, 3, 4])) (
.reg none [
 o 26 (.mv (.t 4)),
 o 27 (.bin .add (.t 26) (.c (.int .i64 1))),
 o 4 (.mv (.t 27))] [1, 3, 4])))))))) (
.seq (.reg none [
 o 36 (.mv (.t 3)),
 o 2 (.mv (.t 36))] [2]) (
.ret))))
def r_ref15_Body : List RD := [.tmp 2]
theorem k_ref15_Body : chkFn Pg n_ref15_Body c_ref15_Body r_ref15_Body 1 = true := by kernel_rfl
/-- quitclaim/quitclaimref15.Bytes -/
def c_ref15_Bytes : CC :=
.seq (.reg none [
 o 1 (.box (.t 0)),
 o 2 (.mv (.c (.str [])))] [1]) (
.seq (.reg (some 7) [
 o 3 (.load 39 true (.t 1)),
 o 4 (.call n_ref15_Body [.t 3]),
 o 5 (.faddr 4 35 (.t 1)),
 o 6 (.load 4 true (.t 5)),
 o 7 (.call n_ref08_Bytes [.t 6]),
 o 8 (.bin .add (.t 4) (.t 7)),
 o 2 (.mv (.t 8))] [2]) (
.ret))
def r_ref15_Bytes : List RD := [.tmp 2]
theorem k_ref15_Bytes : chkFn Pg n_ref15_Bytes c_ref15_Bytes r_ref15_Bytes 1 = true := by kernel_rfl
/-- quitclaim/quitclaimref15.Long -/
def c_ref15_Long : CC :=
.seq (.reg none [
 o 1 (.box (.t 0)),
 o 2 (.mv (.c (.bool false)))] [1]) (
.seq (.seq (.reg none [
 o 4 (.faddr 0 0 (.t 1)),
 o 5 (.load 1 false (.t 4)),
 o 6 (.len 1 (.t 5)),
 o 7 (.bin .gtr (.t 6) (.c (.int .i64 20))),
 o 8 (.mv (.t 7)),
 g 9 (.faddr 2 33 (.t 1)) 8 false,
 g 10 (.load 1 false (.t 9)) 8 false,
 g 11 (.len 0 (.t 10)) 8 false,
 g 12 (.bin .gtr (.t 11) (.c (.int .i64 500))) 8 false,
 o 13 (.pick (.t 8) (.c (.bool true)) (.t 12)),
 o 14 (.mv (.t 13)),
 g 15 (.faddr 3 34 (.t 1)) 14 false,
 g 16 (.load 1 false (.t 15)) 14 false,
 g 17 (.len 1 (.t 16)) 14 false,
 g 18 (.bin .gtr (.t 17) (.c (.int .i64 36))) 14 false,
 o 19 (.pick (.t 14) (.c (.bool true)) (.t 18)),
 o 20 (.mv (.t 19)),
 g 21 (.faddr 4 35 (.t 1)) 20 false,
 g 22 (.faddr 1 1 (.t 21)) 20 false,
 g 23 (.load 1 false (.t 22)) 20 false,
 g 24 (.len 1 (.t 23)) 20 false,
 g 25 (.bin .gtr (.t 24) (.c (.int .i64 20))) 20 false,
 o 26 (.pick (.t 20) (.c (.bool true)) (.t 25)),
 o 27 (.mv (.t 26)),
 g 28 (.faddr 4 35 (.t 1)) 27 false,
 g 29 (.faddr 2 2 (.t 28)) 27 false,
 g 30 (.load 1 false (.t 29)) 27 false,
 g 31 (.len 1 (.t 30)) 27 false,
 g 32 (.bin .gtr (.t 31) (.c (.int .i64 20))) 27 false,
 o 33 (.pick (.t 27) (.c (.bool true)) (.t 32)),
 o 34 (.mv (.t 33)),
 g 35 (.faddr 4 35 (.t 1)) 34 false,
 g 36 (.faddr 3 3 (.t 35)) 34 false,
 g 37 (.load 1 false (.t 36)) 34 false,
 g 38 (.len 1 (.t 37)) 34 false,
 g 39 (.bin .gtr (.t 38) (.c (.int .i64 12))) 34 false,
 o 40 (.pick (.t 34) (.c (.bool true)) (.t 39))] [1, 40]) (
.cond (.t 40) (.seq (.reg none [
 o 2 (.mv (.c (.bool true)))] [2]) (
.ret)) (
.skip))) (
.seq (.seq (.reg none [
 o 3 (.mv (.c (.int .i64 0)))] [1, 3]) (
.block 0 (
.wk (.loop (.wk (
.seq (.seq (.reg none [
 o 41 (.mv (.t 3)),
 o 42 (.faddr 3 34 (.t 1)),
 o 43 (.load 1 false (.t 42)),
 o 44 (.len 1 (.t 43)),
 o 45 (.bin .lss (.t 41) (.t 44))] [1, 3, 45]) (
.cond (.t 45) (.skip) (
.exit 0))) (
.seq (.block 1 (
.seq (.reg none [
 o 48 (.faddr 3 34 (.t 1)),
 o 49 (.load 1 false (.t 48)),
 o 50 (.mv (.t 3)),
 o 51 (.iaddr 39 (.t 49) (.t 50)),
 o 52 (.load 39 true (.t 51)),
 o 53 (.call n_ref13_Long [.t 52])] [1, 3, 53]) (
.cond (.t 53) (.seq (.reg none [
 o 2 (.mv (.c (.bool true)))] [2]) (
.ret)) (
.skip)))) (
.reg none [
 o 46 (.mv (.t 3)),
 o 47 (.bin .add (.t 46) (.c (.int .i64 1))),
 o 3 (.mv (.t 47))] [1, 3])))))))) (
.seq (.reg none [
 o 2 (.mv (.c (.bool false)))] [2]) (
.ret))))
def r_ref15_Long : List RD := [.tmp 2]
theorem k_ref15_Long : chkFn Pg n_ref15_Long c_ref15_Long r_ref15_Long 1 = true := by kernel_rfl
/-- quitclaim/quitclaimref18.Few -/
def c_ref18_Few : CC :=
.seq (.reg none [
 o 2 (.mv (.c (.bool false)))] [0]) (
.seq (.reg none [
 o 3 (.mv (.c (.int .i64 0)))] [0, 3]) (
.seq (.seq (.reg none [
 o 4 (.mv (.c (.int .i64 0)))] [0, 3, 4]) (
.block 0 (
.wk (.loop (.wk (
.seq (.seq (.reg none [
 o 9 (.mv (.t 4)),
 o 10 (.mv (.t 0)),
 o 11 (.len 1 (.t 10)),
 o 12 (.bin .lss (.t 9) (.t 11))] [0, 3, 4, 12]) (
.cond (.t 12) (.skip) (
.exit 0))) (
.seq (.block 1 (
.seq (.seq (.reg none [
 o 15 (.mv (.t 0)),
 o 16 (.mv (.t 4)),
 o 17 (.iaddr 39 (.t 15) (.t 16)),
 o 18 (.load 39 true (.t 17)),
 o 19 (.call n_ref15_Long [.t 18])] [0, 3, 4, 19]) (
.cond (.t 19) (.seq (.reg none [
 o 2 (.mv (.c (.bool false)))] [2]) (
.ret)) (
.skip))) (
.seq (.reg none [
 o 5 (.mv (.c (.int .i64 0)))] [0, 3, 4, 5]) (
.block 2 (
.wk (.loop (.wk (
.seq (.seq (.reg none [
 o 20 (.mv (.t 5)),
 o 21 (.mv (.t 0)),
 o 22 (.mv (.t 4)),
 o 23 (.iaddr 39 (.t 21) (.t 22)),
 o 24 (.faddr 3 34 (.t 23)),
 o 25 (.load 1 false (.t 24)),
 o 26 (.len 1 (.t 25)),
 o 27 (.bin .lss (.t 20) (.t 26))] [0, 3, 4, 5, 27]) (
.cond (.t 27) (.skip) (
.exit 2))) (
.seq (.block 3 (
.seq (.reg none [
 o 30 (.mv (.t 0)),
 o 31 (.mv (.t 4)),
 o 32 (.iaddr 39 (.t 30) (.t 31)),
 o 33 (.faddr 3 34 (.t 32)),
 o 34 (.load 1 false (.t 33)),
 o 35 (.mv (.t 5)),
 o 36 (.iaddr 39 (.t 34) (.t 35)),
 o 37 (.load 39 true (.t 36)),
 o 6 (.alloc (.agg [.int .i64 0, .str [], .str [], .int .i64 0, .sl 1 [] .full, .sl 1 [] .full, .agg [.int .u8 0, .int .u8 0, .int .u8 0, .int .u8 0, .int .u8 0, .int .u8 0, .int .u8 0, .int .u8 0, .int .u8 0, .int .u8 0, .int .u8 0, .int .u8 0, .int .u8 0, .int .u8 0, .int .u8 0, .int .u8 0, .int .u8 0, .int .u8 0, .int .u8 0, .int .u8 0, .int .u8 0, .int .u8 0, .int .u8 0, .int .u8 0, .int .u8 0, .int .u8 0, .int .u8 0, .int .u8 0, .int .u8 0, .int .u8 0, .int .u8 0, .int .u8 0], .int .i64 0])),
 e (.store 39 (.t 6) (.t 37))] [0, 3, 4, 5, 6]) (
.seq (.reg none [
 o 38 (.mv (.t 3)),
 o 39 (.bin .add (.t 38) (.c (.int .i64 100))),
 o 40 (.faddr 1 1 (.t 6)),
 o 41 (.load 1 false (.t 40)),
 o 42 (.len 0 (.t 41)),
 o 43 (.bin .add (.t 39) (.t 42)),
 o 44 (.faddr 2 2 (.t 6)),
 o 45 (.load 1 false (.t 44)),
 o 46 (.len 0 (.t 45)),
 o 47 (.bin .add (.t 43) (.t 46)),
 o 3 (.mv (.t 47))] [0, 3, 4, 5, 6]) (
.seq (.seq (.reg none [
 o 7 (.mv (.c (.int .i64 0)))] [0, 3, 4, 5, 6, 7]) (
.block 4 (
.wk (.loop (.wk (
.seq (.seq (.reg none [
 o 48 (.mv (.t 7)),
 o 49 (.faddr 4 4 (.t 6)),
 o 50 (.load 1 false (.t 49)),
 o 51 (.len 1 (.t 50)),
 o 52 (.bin .lss (.t 48) (.t 51))] [0, 3, 4, 5, 6, 7, 52]) (
.cond (.t 52) (.skip) (
.exit 4))) (
.seq (.block 5 (
.reg none [
 o 55 (.mv (.t 3)),
 o 56 (.bin .add (.t 55) (.c (.int .i64 10))),
 o 57 (.faddr 4 4 (.t 6)),
 o 58 (.load 1 false (.t 57)),
 o 59 (.mv (.t 7)),
 o 60 (.iaddr 1 (.t 58) (.t 59)),
 o 61 (.load 1 false (.t 60)),
 o 62 (.len 0 (.t 61)),
 o 63 (.bin .add (.t 56) (.t 62)),
 o 3 (.mv (.t 63))] [0, 3, 4, 5, 6, 7])) (
.reg none [
 o 53 (.mv (.t 7)),
 o 54 (.bin .add (.t 53) (.c (.int .i64 1))),
 o 7 (.mv (.t 54))] [0, 3, 4, 5, 6, 7])))))))) (
.seq (.reg none [
 o 8 (.mv (.c (.int .i64 0)))] [0, 3, 4, 5, 6, 8]) (
.block 6 (
.wk (.loop (.wk (
.seq (.seq (.reg none [
 o 64 (.mv (.t 8)),
 o 65 (.faddr 5 5 (.t 6)),
 o 66 (.load 1 false (.t 65)),
 o 67 (.len 1 (.t 66)),
 o 68 (.bin .lss (.t 64) (.t 67))] [0, 3, 4, 5, 6, 8, 68]) (
.cond (.t 68) (.skip) (
.exit 6))) (
.seq (.block 7 (
.reg none [
 o 71 (.mv (.t 3)),
 o 72 (.bin .add (.t 71) (.c (.int .i64 10))),
 o 73 (.faddr 5 5 (.t 6)),
 o 74 (.load 1 false (.t 73)),
 o 75 (.mv (.t 8)),
 o 76 (.iaddr 1 (.t 74) (.t 75)),
 o 77 (.load 1 false (.t 76)),
 o 78 (.len 0 (.t 77)),
 o 79 (.bin .add (.t 72) (.t 78)),
 o 3 (.mv (.t 79))] [0, 3, 4, 5, 6, 8])) (
.reg none [
 o 69 (.mv (.t 8)),
 o 70 (.bin .add (.t 69) (.c (.int .i64 1))),
 o 8 (.mv (.t 70))] [0, 3, 4, 5, 6, 8])))))))))))) (
.reg none [
 o 28 (.mv (.t 5)),
 o 29 (.bin .add (.t 28) (.c (.int .i64 1))),
 o 5 (.mv (.t 29))] [0, 3, 4, 5])))))))))) (
.reg none [
 o 13 (.mv (.t 4)),
 o 14 (.bin .add (.t 13) (.c (.int .i64 1))),
 o 4 (.mv (.t 14))] [0, 3, 4])))))))) (
.seq (.reg none [
 o 80 (.mv (.t 0)),
 o 81 (.len 1 (.t 80)),
 o 82 (.bin .leq (.t 81) (.c (.int .i64 10))),
 o 83 (.mv (.t 82)),
 g 84 (.mv (.t 3)) 83 true,
 g 85 (.bin .leq (.t 84) (.c (.int .i64 200000))) 83 true,
 o 86 (.pick (.t 83) (.t 85) (.c (.bool false))),
 o 2 (.mv (.t 86))] [2]) (
.ret))))
def r_ref18_Few : List RD := [.tmp 2]
theorem k_ref18_Few : chkFn Pg n_ref18_Few c_ref18_Few r_ref18_Few 1 = true := by kernel_rfl
/-- quitclaim/quitclaimref26.Sorted -/
def c_ref26_Sorted : CC :=
.seq (.reg none [
 o 2 (.mv (.c (.sl 39 [] .full))),
 o 3 (.mv (.c (.int .i64 0)))] [0]) (
.seq (.reg none [
 o 15 (.mv (.t 0)),
 o 16 (.call n_ref18_Named [.t 15]),
 o 14 (.mv (.t 16)),
 o 17 (.extract 0 (.t 14)),
 o 18 (.extract 1 (.t 14)),
 o 4 (.mv (.t 17)),
 o 5 (.mv (.t 18))] [4, 5]) (
.seq (.seq (.reg none [
 o 19 (.mv (.t 5)),
 o 20 (.bin .neq (.t 19) (.c (.int .i64 0)))] [4, 5, 20]) (
.cond (.t 20) (.seq (.reg none [
 o 21 (.mv (.t 5)),
 o 2 (.mv (.c (.sl 39 [] .full))),
 o 3 (.mv (.t 21))] [2, 3]) (
.ret)) (
.skip))) (
.seq (.reg none [
 o 22 (.lit 71 (.agg [.agg [.int .u8 0, .int .u8 0, .int .u8 0, .int .u8 0, .int .u8 0, .int .u8 0, .int .u8 0, .int .u8 0, .int .u8 0, .int .u8 0, .int .u8 0, .int .u8 0, .int .u8 0, .int .u8 0, .int .u8 0, .int .u8 0, .int .u8 0, .int .u8 0, .int .u8 0, .int .u8 0, .int .u8 0, .int .u8 0, .int .u8 0, .int .u8 0, .int .u8 0, .int .u8 0, .int .u8 0, .int .u8 0, .int .u8 0, .int .u8 0, .int .u8 0, .int .u8 0], .agg [.sl 32 [] .full, .agg [.int .u8 0, .int .u8 0, .int .u8 0, .int .u8 0, .int .u8 0, .int .u8 0, .int .u8 0, .int .u8 0, .int .u8 0, .int .u8 0, .int .u8 0, .int .u8 0, .int .u8 0, .int .u8 0, .int .u8 0, .int .u8 0, .int .u8 0, .int .u8 0, .int .u8 0, .int .u8 0, .int .u8 0, .int .u8 0, .int .u8 0, .int .u8 0, .int .u8 0, .int .u8 0, .int .u8 0, .int .u8 0, .int .u8 0, .int .u8 0, .int .u8 0, .int .u8 0], .str [], .sl 39 [] .full, .agg [.int .i64 0, .sl 32 [] .full, .sl 32 [] .full, .sl 32 [] .full]]]) 0 []),
 o 6 (.mv (.t 22))] [4, 6]) (
.seq (.seq (.reg none [
 o 7 (.mv (.c (.int .i64 0)))] [4, 6, 7]) (
.block 0 (
.wk (.loop (.wk (
.seq (.seq (.reg none [
 o 23 (.mv (.t 7)),
 o 24 (.mv (.t 4)),
 o 25 (.len 1 (.t 24)),
 o 26 (.bin .lss (.t 23) (.t 25))] [4, 6, 7, 26]) (
.cond (.t 26) (.skip) (
.exit 0))) (
.seq (.block 1 (
.seq (.reg (some 10) [
 o 29 (.mv (.t 6)),
 o 30 (.call n_ref18_Nodes [.t 29]),
 o 31 (.call n_ref17_Ids [.t 30]),
 o 32 (.mv (.t 4)),
 o 33 (.mv (.t 7)),
 o 34 (.iaddr 71 (.t 32) (.t 33)),
 o 35 (.faddr 0 0 (.t 34)),
 o 36 (.load 32 true (.t 35)),
 o 37 (.call n_ref04_Has [.t 31, .t 36]),
 o 38 (.not (.t 37))] [4, 6, 7, 38]) (
.cond (.t 38) (.reg none [
 o 39 (.mv (.t 6)),
 o 40 (.mv (.t 4)),
 o 41 (.mv (.t 7)),
 o 42 (.iaddr 71 (.t 40) (.t 41)),
 o 43 (.load 71 true (.t 42)),
 o 44 (.lit 71 (.agg [.agg [.int .u8 0, .int .u8 0, .int .u8 0, .int .u8 0, .int .u8 0, .int .u8 0, .int .u8 0, .int .u8 0, .int .u8 0, .int .u8 0, .int .u8 0, .int .u8 0, .int .u8 0, .int .u8 0, .int .u8 0, .int .u8 0, .int .u8 0, .int .u8 0, .int .u8 0, .int .u8 0, .int .u8 0, .int .u8 0, .int .u8 0, .int .u8 0, .int .u8 0, .int .u8 0, .int .u8 0, .int .u8 0, .int .u8 0, .int .u8 0, .int .u8 0, .int .u8 0], .agg [.sl 32 [] .full, .agg [.int .u8 0, .int .u8 0, .int .u8 0, .int .u8 0, .int .u8 0, .int .u8 0, .int .u8 0, .int .u8 0, .int .u8 0, .int .u8 0, .int .u8 0, .int .u8 0, .int .u8 0, .int .u8 0, .int .u8 0, .int .u8 0, .int .u8 0, .int .u8 0, .int .u8 0, .int .u8 0, .int .u8 0, .int .u8 0, .int .u8 0, .int .u8 0, .int .u8 0, .int .u8 0, .int .u8 0, .int .u8 0, .int .u8 0, .int .u8 0, .int .u8 0, .int .u8 0], .str [], .sl 39 [] .full, .agg [.int .i64 0, .sl 32 [] .full, .sl 32 [] .full, .sl 32 [] .full]]]) 1 [(0, .t 43)]),
 o 45 (.append 71 208 (.t 39) (.t 44)),
 o 6 (.mv (.t 45))] [4, 6, 7]) (
.skip)))) (
.reg none [
 o 27 (.mv (.t 7)),
 o 28 (.bin .add (.t 27) (.c (.int .i64 1))),
 o 7 (.mv (.t 28))] [4, 6, 7])))))))) (
.seq (.reg none [
 o 46 (.mv (.t 6)),
 o 47 (.call n_ref18_Nodes [.t 46]),
 o 48 (.call n_ref17_Ids [.t 47]),
 o 8 (.mv (.t 48))] [6, 8]) (
.seq (.reg none [
 o 49 (.lit 33 (.agg [.agg [.int .u8 0, .int .u8 0, .int .u8 0, .int .u8 0, .int .u8 0, .int .u8 0, .int .u8 0, .int .u8 0, .int .u8 0, .int .u8 0, .int .u8 0, .int .u8 0, .int .u8 0, .int .u8 0, .int .u8 0, .int .u8 0, .int .u8 0, .int .u8 0, .int .u8 0, .int .u8 0, .int .u8 0, .int .u8 0, .int .u8 0, .int .u8 0, .int .u8 0, .int .u8 0, .int .u8 0, .int .u8 0, .int .u8 0, .int .u8 0, .int .u8 0, .int .u8 0], .sl 32 [] .full]) 0 []),
 o 9 (.mv (.t 49))] [6, 8, 9]) (
.seq (.seq (.reg none [
 o 10 (.mv (.c (.int .i64 0)))] [6, 8, 9, 10]) (
.block 2 (
.wk (.loop (.wk (
.seq (.seq (.reg none [
 o 50 (.mv (.t 10)),
 o 51 (.mv (.t 6)),
 o 52 (.len 1 (.t 51)),
 o 53 (.bin .lss (.t 50) (.t 52))] [6, 8, 9, 10, 53]) (
.cond (.t 53) (.skip) (
.exit 2))) (
.seq (.block 3 (
.reg (some 16) [
 o 56 (.mv (.t 9)),
 o 57 (.mv (.t 6)),
 o 58 (.mv (.t 10)),
 o 59 (.iaddr 71 (.t 57) (.t 58)),
 o 60 (.faddr 0 0 (.t 59)),
 o 61 (.load 32 true (.t 60)),
 o 62 (.mv (.t 6)),
 o 63 (.mv (.t 10)),
 o 64 (.iaddr 71 (.t 62) (.t 63)),
 o 65 (.faddr 1 32 (.t 64)),
 o 66 (.faddr 0 0 (.t 65)),
 o 67 (.load 1 false (.t 66)),
 o 68 (.mv (.t 8)),
 o 69 (.call n_ref04_Only [.t 67, .t 68, .c (.bool true)]),
 o 70 (.build [.agg [.int .u8 0, .int .u8 0, .int .u8 0, .int .u8 0, .int .u8 0, .int .u8 0, .int .u8 0, .int .u8 0, .int .u8 0, .int .u8 0, .int .u8 0, .int .u8 0, .int .u8 0, .int .u8 0, .int .u8 0, .int .u8 0, .int .u8 0, .int .u8 0, .int .u8 0, .int .u8 0, .int .u8 0, .int .u8 0, .int .u8 0, .int .u8 0, .int .u8 0, .int .u8 0, .int .u8 0, .int .u8 0, .int .u8 0, .int .u8 0, .int .u8 0, .int .u8 0], .sl 32 [] .full] [(0, .t 61), (1, .t 69)]),
 o 71 (.lit 33 (.agg [.agg [.int .u8 0, .int .u8 0, .int .u8 0, .int .u8 0, .int .u8 0, .int .u8 0, .int .u8 0, .int .u8 0, .int .u8 0, .int .u8 0, .int .u8 0, .int .u8 0, .int .u8 0, .int .u8 0, .int .u8 0, .int .u8 0, .int .u8 0, .int .u8 0, .int .u8 0, .int .u8 0, .int .u8 0, .int .u8 0, .int .u8 0, .int .u8 0, .int .u8 0, .int .u8 0, .int .u8 0, .int .u8 0, .int .u8 0, .int .u8 0, .int .u8 0, .int .u8 0], .sl 32 [] .full]) 1 [(0, .t 70)]),
 o 72 (.append 33 56 (.t 56) (.t 71)),
 o 9 (.mv (.t 72))] [6, 8, 9, 10])) (
.reg none [
 o 54 (.mv (.t 10)),
 o 55 (.bin .add (.t 54) (.c (.int .i64 1))),
 o 10 (.mv (.t 55))] [6, 8, 9, 10])))))))) (
.seq (.reg none [
 o 73 (.mv (.t 9)),
 o 74 (.call n_ref17_Order [.t 73]),
 o 11 (.mv (.t 74))] [6, 9, 11]) (
.seq (.seq (.reg none [
 o 75 (.mv (.t 11)),
 o 76 (.len 1 (.t 75)),
 o 77 (.mv (.t 9)),
 o 78 (.len 1 (.t 77)),
 o 79 (.bin .lss (.t 76) (.t 78))] [6, 11, 79]) (
.cond (.t 79) (.seq (.reg none [
 o 2 (.mv (.c (.sl 39 [] .full))),
 o 3 (.mv (.c (.int .i64 17)))] [2, 3]) (
.ret)) (
.skip))) (
.seq (.reg none [
 o 80 (.lit 39 (.agg [.sl 32 [] .full, .agg [.int .u8 0, .int .u8 0, .int .u8 0, .int .u8 0, .int .u8 0, .int .u8 0, .int .u8 0, .int .u8 0, .int .u8 0, .int .u8 0, .int .u8 0, .int .u8 0, .int .u8 0, .int .u8 0, .int .u8 0, .int .u8 0, .int .u8 0, .int .u8 0, .int .u8 0, .int .u8 0, .int .u8 0, .int .u8 0, .int .u8 0, .int .u8 0, .int .u8 0, .int .u8 0, .int .u8 0, .int .u8 0, .int .u8 0, .int .u8 0, .int .u8 0, .int .u8 0], .str [], .sl 39 [] .full, .agg [.int .i64 0, .sl 32 [] .full, .sl 32 [] .full, .sl 32 [] .full]]) 0 []),
 o 12 (.mv (.t 80))] [6, 11, 12]) (
.seq (.seq (.reg none [
 o 13 (.mv (.c (.int .i64 0)))] [6, 11, 12, 13]) (
.block 4 (
.wk (.loop (.wk (
.seq (.seq (.reg none [
 o 81 (.mv (.t 13)),
 o 82 (.mv (.t 11)),
 o 83 (.len 1 (.t 82)),
 o 84 (.bin .lss (.t 81) (.t 83))] [6, 11, 12, 13, 84]) (
.cond (.t 84) (.skip) (
.exit 4))) (
.seq (.block 5 (
.reg none [
 o 87 (.mv (.t 12)),
 o 88 (.mv (.t 6)),
 o 89 (.mv (.t 11)),
 o 90 (.mv (.t 13)),
 o 91 (.iaddr 32 (.t 89) (.t 90)),
 o 92 (.load 32 true (.t 91)),
 o 93 (.call n_ref18_Find [.t 88, .t 92]),
 o 94 (.lit 39 (.agg [.sl 32 [] .full, .agg [.int .u8 0, .int .u8 0, .int .u8 0, .int .u8 0, .int .u8 0, .int .u8 0, .int .u8 0, .int .u8 0, .int .u8 0, .int .u8 0, .int .u8 0, .int .u8 0, .int .u8 0, .int .u8 0, .int .u8 0, .int .u8 0, .int .u8 0, .int .u8 0, .int .u8 0, .int .u8 0, .int .u8 0, .int .u8 0, .int .u8 0, .int .u8 0, .int .u8 0, .int .u8 0, .int .u8 0, .int .u8 0, .int .u8 0, .int .u8 0, .int .u8 0, .int .u8 0], .str [], .sl 39 [] .full, .agg [.int .i64 0, .sl 32 [] .full, .sl 32 [] .full, .sl 32 [] .full]]) 1 [(0, .t 93)]),
 o 95 (.append 39 176 (.t 87) (.t 94)),
 o 12 (.mv (.t 95))] [6, 11, 12, 13])) (
.reg none [
 o 85 (.mv (.t 13)),
 o 86 (.bin .add (.t 85) (.c (.int .i64 1))),
 o 13 (.mv (.t 86))] [6, 11, 12, 13])))))))) (
.seq (.reg none [
 o 96 (.mv (.t 12)),
 o 2 (.mv (.t 96)),
 o 3 (.mv (.c (.int .i64 0)))] [2, 3]) (
.ret)))))))))))))
def r_ref26_Sorted : List RD := [.tmp 2, .tmp 3]
theorem k_ref26_Sorted : chkFn Pg n_ref26_Sorted c_ref26_Sorted r_ref26_Sorted 1 = true := by kernel_rfl
/-- (*quitclaim/sha.Hash).Sum -/
def c_sha_Hash_Sum : CC :=
.seq (.reg none [
 o 2 (.alloc (.agg [.int .u8 0, .int .u8 0, .int .u8 0, .int .u8 0, .int .u8 0, .int .u8 0, .int .u8 0, .int .u8 0, .int .u8 0, .int .u8 0, .int .u8 0, .int .u8 0, .int .u8 0, .int .u8 0, .int .u8 0, .int .u8 0, .int .u8 0, .int .u8 0, .int .u8 0, .int .u8 0, .int .u8 0, .int .u8 0, .int .u8 0, .int .u8 0, .int .u8 0, .int .u8 0, .int .u8 0, .int .u8 0, .int .u8 0, .int .u8 0, .int .u8 0, .int .u8 0]))] [0, 2]) (
.seq (.reg none [
 o 4 (.mv (.t 0)),
 o 5 (.nilchk (.t 4)),
 o 6 (.load 10 true (.t 5)),
 o 3 (.alloc (.agg [.agg [.int .u32 0, .int .u32 0, .int .u32 0, .int .u32 0, .int .u32 0, .int .u32 0, .int .u32 0, .int .u32 0], .str [], .int .i64 0])),
 e (.store 10 (.t 3) (.t 6))] [0, 2, 3]) (
.seq (.reg none [
 o 7 (.mv (.t 0)),
 o 8 (.nilchk (.t 7)),
 o 9 (.faddr 2 9 (.t 8)),
 o 10 (.load 1 false (.t 9)),
 o 11 (.call n_sha_pad [.t 10]),
 o 12 (.call n_sha_Hash_Write [.t 3, .t 11])] [2, 3]) (
.seq (.reg none [
 o 13 (.faddr 0 0 (.t 3)),
 o 14 (.sliceA 8 1 (.t 13) none none),
 o 15 (.call n_word_Bytes [.t 14]),
 o 16 (.s2b (.t 15)),
 o 17 (.s2ap 32 (.t 16)),
 o 18 (.load 32 true (.t 17)),
 e (.store 32 (.t 2) (.t 18))] [2]) (
.ret))))
def r_sha_Hash_Sum : List RD := [.cell 2 32 true]
theorem k_sha_Hash_Sum : chkFn Pg n_sha_Hash_Sum c_sha_Hash_Sum r_sha_Hash_Sum 1 = true := by kernel_rfl
/-- quitclaim/sha.Sum -/
def c_sha_Sum : CC :=
.seq (.reg none [
 o 2 (.alloc (.agg [.int .u8 0, .int .u8 0, .int .u8 0, .int .u8 0, .int .u8 0, .int .u8 0, .int .u8 0, .int .u8 0, .int .u8 0, .int .u8 0, .int .u8 0, .int .u8 0, .int .u8 0, .int .u8 0, .int .u8 0, .int .u8 0, .int .u8 0, .int .u8 0, .int .u8 0, .int .u8 0, .int .u8 0, .int .u8 0, .int .u8 0, .int .u8 0, .int .u8 0, .int .u8 0, .int .u8 0, .int .u8 0, .int .u8 0, .int .u8 0, .int .u8 0, .int .u8 0]))] [0, 2]) (
.seq (.reg none [
 o 4 (.call n_sha_New []),
 o 3 (.mv (.t 4))] [0, 2, 3]) (
.seq (.reg none [
 o 5 (.mv (.t 3)),
 o 6 (.mv (.t 0)),
 o 7 (.call n_sha_Hash_Write [.t 5, .t 6])] [2, 3]) (
.seq (.reg none [
 o 8 (.mv (.t 3)),
 o 9 (.call n_sha_Hash_Sum [.t 8]),
 e (.store 32 (.t 2) (.t 9))] [2]) (
.ret))))
def r_sha_Sum : List RD := [.cell 2 32 true]
theorem k_sha_Sum : chkFn Pg n_sha_Sum c_sha_Sum r_sha_Sum 1 = true := by kernel_rfl
/-- quitclaim/sha.three -/
def c_sha_three : CC :=
.seq (.reg none [
 o 8 (.mv (.c (.int .u32 0)))] [0, 1, 2, 3]) (
.seq (.reg none [
 o 9 (.mv (.t 0)),
 o 10 (.mv (.t 1)),
 o 11 (.call n_word_Right [.t 9, .t 10]),
 o 12 (.mv (.t 0)),
 o 13 (.mv (.t 2)),
 o 14 (.call n_word_Right [.t 12, .t 13]),
 o 15 (.bin .xor (.t 11) (.t 14)),
 o 16 (.mv (.t 3)),
 o 17 (.bin .xor (.t 15) (.t 16)),
 o 8 (.mv (.t 17))] [8]) (
.ret))
def r_sha_three : List RD := [.tmp 8]
theorem k_sha_three : chkFn Pg n_sha_three c_sha_three r_sha_three 4 = true := by kernel_rfl
/-- slices.Equal[[]string,string] -/
def c_slices_Equal_string : CC :=
.seq (.reg none [
 o 4 (.mv (.c (.bool false)))] [0, 1]) (
.seq (.seq (.reg none [
 o 6 (.mv (.t 0)),
 o 7 (.len 1 (.t 6)),
 o 8 (.mv (.t 1)),
 o 9 (.len 1 (.t 8)),
 o 10 (.bin .neq (.t 7) (.t 9))] [0, 1, 10]) (
.cond (.t 10) (.seq (.reg none [
 o 4 (.mv (.c (.bool false)))] [4]) (
.ret)) (
.skip))) (
.seq (.seq (.reg none [
 o 11 (.mv (.t 0)),
 o 12 (.len 1 (.t 11)),
 o 13 (.mv (.c (.int .i64 0)))] [0, 1, 12, 13]) (
.block 0 (
.wk (.loop (.wk (
.seq (.reg none [
 o 14 (.bin .lss (.t 13) (.t 12))] [0, 1, 12, 13, 14]) (
.seq (.cond (.t 14) (.skip) (
.exit 0)) (
.seq (.block 1 (
.seq (.reg none [
 o 15 (.mv (.t 13)),
 o 5 (.mv (.t 15))] [0, 1, 5, 12, 13]) (
.seq (.reg (some 9) [
 o 16 (.mv (.t 0)),
 o 17 (.mv (.t 5)),
 o 18 (.iaddr 1 (.t 16) (.t 17)),
 o 19 (.load 1 false (.t 18)),
 o 20 (.mv (.t 1)),
 o 21 (.mv (.t 5)),
 o 22 (.iaddr 1 (.t 20) (.t 21)),
 o 23 (.load 1 false (.t 22)),
 o 24 (.bin .neq (.t 19) (.t 23))] [0, 1, 12, 13, 24]) (
.cond (.t 24) (.seq (.reg none [
 o 4 (.mv (.c (.bool false)))] [4]) (
.ret)) (
.skip))))) (
.reg none [
 o 25 (.bin .add (.t 13) (.c (.int .i64 1))),
 o 13 (.mv (.t 25))] [0, 1, 12, 13]))))))))) (
.seq (.reg none [
 o 4 (.mv (.c (.bool true)))] [4]) (
.ret))))
def r_slices_Equal_string : List RD := [.tmp 4]
theorem k_slices_Equal_string : chkFn Pg n_slices_Equal_string c_slices_Equal_string r_slices_Equal_string 2 = true := by kernel_rfl
/-- slices.medianCmpFunc[quitclaim/api.Id] -/
def c_slices_medianCmpFunc_Id : CC :=
.seq (.reg none [
 o 12 (.mv (.c (.int .i64 0)))] [0, 1, 2, 3, 4, 5]) (
.seq (.reg none [
 o 14 (.mv (.t 0)),
 o 15 (.mv (.t 1)),
 o 16 (.mv (.t 2)),
 o 17 (.mv (.t 4)),
 o 18 (.mv (.t 5)),
 o 19 (.call n_slices_order2CmpFunc_Id [.t 14, .t 15, .t 16, .t 17, .t 18]),
 o 13 (.mv (.t 19)),
 o 20 (.extract 0 (.t 13)),
 o 21 (.extract 1 (.t 13)),
 o 1 (.mv (.t 20)),
 o 2 (.mv (.t 21))] [0, 1, 2, 3, 4, 5]) (
.seq (.reg none [
 o 23 (.mv (.t 0)),
 o 24 (.mv (.t 2)),
 o 25 (.mv (.t 3)),
 o 26 (.mv (.t 4)),
 o 27 (.mv (.t 5)),
 o 28 (.call n_slices_order2CmpFunc_Id [.t 23, .t 24, .t 25, .t 26, .t 27]),
 o 22 (.mv (.t 28)),
 o 29 (.extract 0 (.t 22)),
 o 30 (.extract 1 (.t 22)),
 o 2 (.mv (.t 29)),
 o 3 (.mv (.t 30))] [0, 1, 2, 4, 5]) (
.seq (.reg none [
 o 32 (.mv (.t 0)),
 o 33 (.mv (.t 1)),
 o 34 (.mv (.t 2)),
 o 35 (.mv (.t 4)),
 o 36 (.mv (.t 5)),
 o 37 (.call n_slices_order2CmpFunc_Id [.t 32, .t 33, .t 34, .t 35, .t 36]),
 o 31 (.mv (.t 37)),
 o 38 (.extract 0 (.t 31)),
 o 39 (.extract 1 (.t 31)),
 o 1 (.mv (.t 38)),
 o 2 (.mv (.t 39))] [2]) (
.seq (.reg none [
 o 40 (.mv (.t 2)),
 o 12 (.mv (.t 40))] [12]) (
.ret)))))
def r_slices_medianCmpFunc_Id : List RD := [.tmp 12]
theorem k_slices_medianCmpFunc_Id : chkFn Pg n_slices_medianCmpFunc_Id c_slices_medianCmpFunc_Id r_slices_medianCmpFunc_Id 6 = true := by kernel_rfl
/-- slices.partitionEqualCmpFunc[quitclaim/api.Id] -/
def c_slices_partitionEqualCmpFunc_Id : CC :=
.seq (.reg none [
 o 10 (.mv (.c (.int .i64 0)))] [0, 1, 2, 3, 4]) (
.seq (.regm [
 q 0 0 (o 13 (.mv (.t 0))),
 q 0 0 (o 14 (.mv (.t 1))),
 q 0 1 (o 15 (.mv (.t 0))),
 q 0 1 (o 16 (.mv (.t 3))),
 q 0 0 (o 17 (.mv (.t 0))),
 q 0 0 (o 18 (.mv (.t 3))),
 q 0 0 (o 19 (.iaddr 32 (.t 17) (.t 18))),
 q 0 0 (o 20 (.load 32 true (.t 19))),
 q 0 1 (o 21 (.mv (.t 0))),
 q 0 1 (o 22 (.mv (.t 1))),
 q 0 1 (o 23 (.iaddr 32 (.t 21) (.t 22))),
 q 0 0 (o 24 (.load 32 true (.t 23))),
 q 0 0 (o 25 (.iaddr 32 (.t 13) (.t 14))),
 f (e (.store 32 (.t 25) (.t 20))),
 q 1 1 (o 26 (.iaddr 32 (.t 15) (.t 16))),
 f (e (.store 32 (.t 26) (.t 24)))] [0, 1, 2, 4]) (
.seq (.reg none [
 o 27 (.mv (.t 1)),
 o 28 (.bin .add (.t 27) (.c (.int .i64 1))),
 o 29 (.mv (.t 2)),
 o 30 (.bin .sub (.t 29) (.c (.int .i64 1))),
 o 11 (.mv (.t 28)),
 o 12 (.mv (.t 30))] [0, 1, 4, 11, 12]) (
.seq (.block 0 (
.wk (.loop (.wk (
.block 1 (
.seq (.block 2 (
.wk (.loop (.wk (
.seq (.seq (.reg (some 17) [
 o 31 (.mv (.t 11)),
 o 32 (.mv (.t 12)),
 o 33 (.bin .leq (.t 31) (.t 32)),
 o 34 (.mv (.t 33)),
 g 35 (.mv (.t 4)) 34 true,
 g 36 (.mv (.t 0)) 34 true,
 g 37 (.mv (.t 1)) 34 true,
 g 38 (.iaddr 32 (.t 36) (.t 37)) 34 true,
 g 39 (.load 32 true (.t 38)) 34 true,
 g 40 (.mv (.t 0)) 34 true,
 g 41 (.mv (.t 11)) 34 true,
 g 42 (.iaddr 32 (.t 40) (.t 41)) 34 true,
 g 43 (.load 32 true (.t 42)) 34 true,
 g 44 (.callv (.t 35) [.t 39, .t 43]) 34 true,
 g 45 (.bin .lss (.t 44) (.c (.int .i64 0))) 34 true,
 g 46 (.not (.t 45)) 34 true,
 o 47 (.pick (.t 34) (.t 46) (.c (.bool false)))] [0, 1, 4, 11, 12, 47]) (
.cond (.t 47) (.skip) (
.exit 2))) (
.block 3 (
.reg none [
 o 48 (.mv (.t 11)),
 o 49 (.bin .add (.t 48) (.c (.int .i64 1))),
 o 11 (.mv (.t 49))] [0, 1, 4, 11, 12]))))))) (
.seq (.block 4 (
.wk (.loop (.wk (
.seq (.seq (.reg (some 16) [
 o 50 (.mv (.t 11)),
 o 51 (.mv (.t 12)),
 o 52 (.bin .leq (.t 50) (.t 51)),
 o 53 (.mv (.t 52)),
 g 54 (.mv (.t 4)) 53 true,
 g 55 (.mv (.t 0)) 53 true,
 g 56 (.mv (.t 1)) 53 true,
 g 57 (.iaddr 32 (.t 55) (.t 56)) 53 true,
 g 58 (.load 32 true (.t 57)) 53 true,
 g 59 (.mv (.t 0)) 53 true,
 g 60 (.mv (.t 12)) 53 true,
 g 61 (.iaddr 32 (.t 59) (.t 60)) 53 true,
 g 62 (.load 32 true (.t 61)) 53 true,
 g 63 (.callv (.t 54) [.t 58, .t 62]) 53 true,
 g 64 (.bin .lss (.t 63) (.c (.int .i64 0))) 53 true,
 o 65 (.pick (.t 53) (.t 64) (.c (.bool false)))] [0, 1, 4, 11, 12, 65]) (
.cond (.t 65) (.skip) (
.exit 4))) (
.block 5 (
.reg none [
 o 66 (.mv (.t 12)),
 o 67 (.bin .sub (.t 66) (.c (.int .i64 1))),
 o 12 (.mv (.t 67))] [0, 1, 4, 11, 12]))))))) (
.seq (.seq (.reg none [
 o 68 (.mv (.t 11)),
 o 69 (.mv (.t 12)),
 o 70 (.bin .gtr (.t 68) (.t 69))] [0, 1, 4, 11, 12, 70]) (
.cond (.t 70) (.exit 0) (
.skip))) (
.seq (.regm [
 q 0 0 (o 71 (.mv (.t 0))),
 q 0 0 (o 72 (.mv (.t 11))),
 q 0 1 (o 73 (.mv (.t 0))),
 q 0 1 (o 74 (.mv (.t 12))),
 q 0 0 (o 75 (.mv (.t 0))),
 q 0 0 (o 76 (.mv (.t 12))),
 q 0 0 (o 77 (.iaddr 32 (.t 75) (.t 76))),
 q 0 0 (o 78 (.load 32 true (.t 77))),
 q 0 1 (o 79 (.mv (.t 0))),
 q 0 1 (o 80 (.mv (.t 11))),
 q 0 1 (o 81 (.iaddr 32 (.t 79) (.t 80))),
 q 0 0 (o 82 (.load 32 true (.t 81))),
 q 0 0 (o 83 (.iaddr 32 (.t 71) (.t 72))),
 f (e (.store 32 (.t 83) (.t 78))),
 q 1 1 (o 84 (.iaddr 32 (.t 73) (.t 74))),
 f (e (.store 32 (.t 84) (.t 82)))] [0, 1, 4, 11, 12]) (
.seq (.reg none [
 o 85 (.mv (.t 11)),
 o 86 (.bin .add (.t 85) (.c (.int .i64 1))),
 o 11 (.mv (.t 86))] [0, 1, 4, 11, 12]) (
.reg none [
 o 87 (.mv (.t 12)),
 o 88 (.bin .sub (.t 87) (.c (.int .i64 1))),
 o 12 (.mv (.t 88))] [0, 1, 4, 11, 12]))))))))))) (
.seq (.reg none [
 o 89 (.mv (.t 11)),
 o 10 (.mv (.t 89))] [10]) (
.ret)))))
def r_slices_partitionEqualCmpFunc_Id : List RD := [.tmp 10]
theorem k_slices_partitionEqualCmpFunc_Id : chkFn Pg n_slices_partitionEqualCmpFunc_Id c_slices_partitionEqualCmpFunc_Id r_slices_partitionEqualCmpFunc_Id 5 = true := by kernel_rfl
/-- strings.SplitSeq -/
def c_strings_SplitSeq : CC :=
.seq (.reg none [
 o 4 (.mv (.c (.nilfn)))] [0, 1]) (
.seq (.reg none [
 o 5 (.mv (.t 0)),
 o 6 (.mv (.t 1)),
 o 7 (.call n_strings_splitSeq [.t 5, .t 6, .c (.int .i64 0)]),
 o 4 (.mv (.t 7))] [4]) (
.ret))
def r_strings_SplitSeq : List RD := [.tmp 4]
theorem k_strings_SplitSeq : chkFn Pg n_strings_SplitSeq c_strings_SplitSeq r_strings_SplitSeq 2 = true := by kernel_rfl
/-- strings.splitSeq$1 -/
def c_strings_splitSeq_1 : CC :=
.seq (.seq (.reg none [
 o 9 (.load 1 false (.t 1)),
 o 10 (.len 0 (.t 9)),
 o 11 (.bin .eql (.t 10) (.c (.int .i64 0)))] [0, 1, 2, 3, 11]) (
.cond (.t 11) (.seq (.block 0 (
.wk (.loop (.wk (
.seq (.seq (.reg none [
 o 12 (.load 1 false (.t 2)),
 o 13 (.len 0 (.t 12)),
 o 14 (.bin .gtr (.t 13) (.c (.int .i64 0)))] [0, 2, 14]) (
.cond (.t 14) (.skip) (
.exit 0))) (
.block 1 (
.seq (.reg none [
 o 16 (.load 1 false (.t 2)),
 o 17 (.call n_utf8_DecodeRuneInString [.t 16]),
 o 15 (.mv (.t 17)),
 o 18 (.extract 0 (.t 15)),
 o 19 (.extract 1 (.t 15)),
 o 5 (.mv (.t 18)),
 o 6 (.mv (.t 19))] [0, 2, 6]) (
.seq (.seq (.reg none [
 o 20 (.mv (.t 0)),
 o 21 (.load 1 false (.t 2)),
 o 22 (.mv (.t 6)),
 o 23 (.sliceS (.t 21) none (some (.t 22))),
 o 24 (.callv (.t 20) [.t 23]),
 o 25 (.not (.t 24))] [0, 2, 6, 25]) (
.cond (.t 25) (.ret) (
.skip))) (
.reg none [
 o 26 (.load 1 false (.t 2)),
 o 27 (.mv (.t 6)),
 o 28 (.sliceS (.t 26) (some (.t 27)) none),
 e (.store 1 (.t 2) (.t 28))] [0, 2]))))))))) (
.ret)) (
.skip))) (
.seq (.block 2 (
.wk (.loop (.wk (
.block 3 (
.seq (.reg none [
 o 29 (.load 1 false (.t 2)),
 o 30 (.load 1 false (.t 1)),
 o 31 (.call n_strings_Index [.t 29, .t 30]),
 o 7 (.mv (.t 31))] [0, 1, 2, 3, 7]) (
.seq (.seq (.reg none [
 o 32 (.mv (.t 7)),
 o 33 (.bin .lss (.t 32) (.c (.int .i64 0)))] [0, 1, 2, 3, 7, 33]) (
.cond (.t 33) (.exit 2) (
.skip))) (
.seq (.reg none [
 o 34 (.load 1 false (.t 2)),
 o 35 (.mv (.t 7)),
 o 36 (.load 1 false (.t 3)),
 o 37 (.bin .add (.t 35) (.t 36)),
 o 38 (.sliceS (.t 34) none (some (.t 37))),
 o 8 (.mv (.t 38))] [0, 1, 2, 3, 7, 8]) (
.seq (.seq (.reg none [
 o 39 (.mv (.t 0)),
 o 40 (.mv (.t 8)),
 o 41 (.callv (.t 39) [.t 40]),
 o 42 (.not (.t 41))] [0, 1, 2, 3, 7, 42]) (
.cond (.t 42) (.ret) (
.skip))) (
.reg none [
 o 43 (.load 1 false (.t 2)),
 o 44 (.mv (.t 7)),
 o 45 (.load 1 false (.t 1)),
 o 46 (.len 0 (.t 45)),
 o 47 (.bin .add (.t 44) (.t 46)),
 o 48 (.sliceS (.t 43) (some (.t 47)) none),
 e (.store 1 (.t 2) (.t 48))] [0, 1, 2, 3])))))))))) (
.reg none [
 o 49 (.mv (.t 0)),
 o 50 (.load 1 false (.t 2)),
 o 51 (.callv (.t 49) [.t 50])] []))
def r_strings_splitSeq_1 : List RD := []
theorem k_strings_splitSeq_1 : chkFn Pg n_strings_splitSeq_1 c_strings_splitSeq_1 r_strings_splitSeq_1 4 = true := by kernel_rfl
/-- internal/stringslite.HasPrefix -/
def c_stringslite_HasPrefix : CC :=
.seq (.reg none [
 o 4 (.mv (.c (.bool false)))] [0, 1]) (
.seq (.reg none [
 o 5 (.mv (.t 0)),
 o 6 (.len 0 (.t 5)),
 o 7 (.mv (.t 1)),
 o 8 (.len 0 (.t 7)),
 o 9 (.bin .geq (.t 6) (.t 8)),
 o 10 (.mv (.t 9)),
 g 11 (.mv (.t 0)) 10 true,
 g 12 (.mv (.t 1)) 10 true,
 g 13 (.len 0 (.t 12)) 10 true,
 g 14 (.sliceS (.t 11) none (some (.t 13))) 10 true,
 g 15 (.mv (.t 1)) 10 true,
 g 16 (.bin .eql (.t 14) (.t 15)) 10 true,
 o 17 (.pick (.t 10) (.t 16) (.c (.bool false))),
 o 4 (.mv (.t 17))] [4]) (
.ret))
def r_stringslite_HasPrefix : List RD := [.tmp 4]
theorem k_stringslite_HasPrefix : chkFn Pg n_stringslite_HasPrefix c_stringslite_HasPrefix r_stringslite_HasPrefix 2 = true := by kernel_rfl
/-- quitclaim/tag.Text -/
def c_tag_Text : CC :=
.seq (.reg none [
 o 4 (.mv (.c (.str []))),
 o 5 (.mv (.c (.int .i64 0)))] [0, 1]) (
.seq (.seq (.reg none [
 o 11 (.mv (.t 0)),
 o 12 (.len 0 (.t 11)),
 o 13 (.bin .gtr (.t 12) (.c (.int .i64 255)))] [0, 1, 13]) (
.cond (.t 13) (.seq (.reg none [
 o 4 (.mv (.c (.str []))),
 o 5 (.mv (.c (.int .i64 4)))] [4, 5]) (
.ret)) (
.skip))) (
.seq (.reg none [
 o 14 (.mv (.t 0)),
 o 15 (.len 0 (.t 14)),
 o 16 (.conv .u8 (.t 15)),
 o 17 (.lit 1 (.int .u8 0) 1 [(0, .t 16)]),
 o 6 (.mv (.t 17))] [0, 1, 6]) (
.seq (.reg none [
 o 18 (.mv (.t 6)),
 o 19 (.mv (.t 0)),
 o 20 (.append 1 1 (.t 18) (.t 19)),
 o 6 (.mv (.t 20))] [1, 6]) (
.seq (.seq (.reg none [
 o 21 (.mv (.t 1)),
 o 22 (.len 1 (.t 21)),
 o 23 (.mv (.c (.int .i64 0)))] [6, 21, 22, 23]) (
.block 0 (
.wk (.loop (.wk (
.seq (.reg none [
 o 24 (.bin .lss (.t 23) (.t 22))] [6, 21, 22, 23, 24]) (
.seq (.cond (.t 24) (.skip) (
.exit 0)) (
.seq (.block 1 (
.seq (.reg none [
 o 25 (.iaddr 1 (.t 21) (.t 23)),
 o 26 (.load 1 false (.t 25)),
 o 8 (.mv (.t 26))] [6, 8, 21, 22, 23]) (
.seq (.reg none [
 o 28 (.mv (.t 8)),
 o 29 (.len 0 (.t 28)),
 o 30 (.conv .u64 (.t 29)),
 o 31 (.call n_word_Number [.t 30, .c (.int .i64 8)]),
 o 27 (.mv (.t 31)),
 o 32 (.extract 0 (.t 27)),
 o 33 (.extract 1 (.t 27)),
 o 9 (.mv (.t 32)),
 o 10 (.mv (.t 33))] [6, 8, 9, 21, 22, 23]) (
.reg none [
 o 34 (.mv (.t 6)),
 o 35 (.mv (.t 9)),
 o 36 (.mv (.t 8)),
 o 37 (.bin .add (.t 35) (.t 36)),
 o 38 (.append 1 1 (.t 34) (.t 37)),
 o 6 (.mv (.t 38))] [6, 21, 22, 23])))) (
.reg none [
 o 39 (.bin .add (.t 23) (.c (.int .i64 1))),
 o 23 (.mv (.t 39))] [6, 21, 22, 23]))))))))) (
.seq (.reg none [
 o 40 (.mv (.t 6)),
 o 41 (.b2s (.t 40)),
 o 4 (.mv (.t 41)),
 o 5 (.mv (.c (.int .i64 0)))] [4, 5]) (
.ret))))))
def r_tag_Text : List RD := [.tmp 4, .tmp 5]
theorem k_tag_Text : chkFn Pg n_tag_Text c_tag_Text r_tag_Text 2 = true := by kernel_rfl
/-- quitclaim/word.Number -/
def c_word_Number : CC :=
.seq (.reg none [
 o 4 (.mv (.c (.str []))),
 o 5 (.mv (.c (.bool false)))] [0, 1]) (
.seq (.seq (.reg none [
 o 8 (.mv (.t 1)),
 o 9 (.bin .lss (.t 8) (.c (.int .i64 0))),
 o 10 (.mv (.t 9)),
 g 11 (.mv (.t 1)) 10 false,
 g 12 (.bin .gtr (.t 11) (.c (.int .i64 8))) 10 false,
 o 13 (.pick (.t 10) (.c (.bool true)) (.t 12)),
 o 14 (.mv (.t 13)),
 g 15 (.mv (.t 1)) 14 false,
 g 16 (.bin .lss (.t 15) (.c (.int .i64 8))) 14 false,
 g 17 (.mv (.t 16)) 14 false,
 g 18 (.mv (.t 0)) 17 true,
 g 19 (.mv (.t 1)) 17 true,
 g 20 (.bin .mul (.c (.int .i64 8)) (.t 19)) 17 true,
 g 21 (.bin .shr (.t 18) (.t 20)) 17 true,
 g 22 (.bin .neq (.t 21) (.c (.int .u64 0))) 17 true,
 g 23 (.pick (.t 17) (.t 22) (.c (.bool false))) 14 false,
 o 24 (.pick (.t 14) (.c (.bool true)) (.t 23))] [0, 1, 24]) (
.cond (.t 24) (.seq (.reg none [
 o 4 (.mv (.c (.str []))),
 o 5 (.mv (.c (.bool false)))] [4, 5]) (
.ret)) (
.skip))) (
.seq (.reg none [
 o 25 (.mv (.t 1)),
 o 26 (.mkslA 1 1 (.int .u8 0) (.t 25)),
 o 6 (.mv (.t 26))] [0, 1, 6]) (
.seq (.seq (.reg none [
 o 27 (.mv (.t 1)),
 o 28 (.bin .sub (.t 27) (.c (.int .i64 1))),
 o 7 (.mv (.t 28))] [0, 6, 7]) (
.block 0 (
.wk (.loop (.wk (
.seq (.seq (.reg none [
 o 29 (.mv (.t 7)),
 o 30 (.bin .geq (.t 29) (.c (.int .i64 0)))] [0, 6, 7, 30]) (
.cond (.t 30) (.skip) (
.exit 0))) (
.seq (.block 1 (
.seq (.reg none [
 o 33 (.mv (.t 6)),
 o 34 (.mv (.t 7)),
 o 35 (.mv (.t 0)),
 o 36 (.conv .u8 (.t 35)),
 o 37 (.iaddr 1 (.t 33) (.t 34)),
 e (.store 1 (.t 37) (.t 36))] [0, 6, 7]) (
.reg none [
 o 38 (.mv (.t 0)),
 o 39 (.bin .shr (.t 38) (.c (.int .u64 8))),
 o 0 (.mv (.t 39))] [0, 6, 7]))) (
.reg none [
 o 31 (.mv (.t 7)),
 o 32 (.bin .sub (.t 31) (.c (.int .i64 1))),
 o 7 (.mv (.t 32))] [0, 6, 7])))))))) (
.seq (.reg none [
 o 40 (.mv (.t 6)),
 o 41 (.b2s (.t 40)),
 o 4 (.mv (.t 41)),
 o 5 (.mv (.c (.bool true)))] [4, 5]) (
.ret)))))
def r_word_Number : List RD := [.tmp 4, .tmp 5]
theorem k_word_Number : chkFn Pg n_word_Number c_word_Number r_word_Number 2 = true := by kernel_rfl
/-- quitclaim/word.Words -/
def c_word_Words : CC :=
.seq (.reg none [
 o 2 (.mv (.c (.sl 1 [] .full))),
 o 3 (.mv (.c (.int .i64 0)))] [0]) (
.seq (.seq (.reg none [
 o 8 (.mv (.t 0)),
 o 9 (.len 0 (.t 8)),
 o 10 (.bin .rem (.t 9) (.c (.int .i64 4))),
 o 11 (.bin .neq (.t 10) (.c (.int .i64 0)))] [0, 11]) (
.cond (.t 11) (.seq (.reg none [
 o 2 (.mv (.c (.sl 1 [] .full))),
 o 3 (.mv (.c (.int .i64 3)))] [2, 3]) (
.ret)) (
.skip))) (
.seq (.reg none [
 o 4 (.mv (.c (.sl 1 [] .full)))] [0, 4]) (
.seq (.seq (.reg none [
 o 12 (.mv (.t 0)),
 o 13 (.len 0 (.t 12)),
 o 14 (.bin .quo (.t 13) (.c (.int .i64 4))),
 o 15 (.mv (.c (.int .i64 0)))] [0, 4, 14, 15]) (
.block 0 (
.wk (.loop (.wk (
.seq (.reg none [
 o 16 (.bin .lss (.t 15) (.t 14))] [0, 4, 14, 15, 16]) (
.seq (.cond (.t 16) (.skip) (
.exit 0)) (
.seq (.block 1 (
.seq (.reg none [
 o 17 (.mv (.t 15)),
 o 5 (.mv (.t 17))] [0, 4, 5, 14, 15]) (
.seq (.reg none [
 o 6 (.mv (.c (.int .u32 0)))] [0, 4, 5, 6, 14, 15]) (
.seq (.seq (.reg none [
 o 18 (.mv (.c (.int .i64 0)))] [0, 4, 5, 6, 14, 15, 18]) (
.block 2 (
.wk (.loop (.wk (
.seq (.reg none [
 o 19 (.bin .lss (.t 18) (.c (.int .i64 4)))] [0, 4, 5, 6, 14, 15, 18, 19]) (
.seq (.cond (.t 19) (.skip) (
.exit 2)) (
.seq (.block 3 (
.seq (.reg none [
 o 20 (.mv (.t 18)),
 o 7 (.mv (.t 20))] [0, 4, 5, 6, 7, 14, 15, 18]) (
.reg none [
 o 21 (.mv (.t 6)),
 o 22 (.bin .shl (.t 21) (.c (.int .u64 8))),
 o 23 (.mv (.t 0)),
 o 24 (.mv (.t 5)),
 o 25 (.bin .mul (.c (.int .i64 4)) (.t 24)),
 o 26 (.mv (.t 7)),
 o 27 (.bin .add (.t 25) (.t 26)),
 o 28 (.idxS (.t 23) (.t 27)),
 o 29 (.conv .u32 (.t 28)),
 o 30 (.bin .or (.t 22) (.t 29)),
 o 6 (.mv (.t 30))] [0, 4, 5, 6, 14, 15, 18]))) (
.reg none [
 o 31 (.bin .add (.t 18) (.c (.int .i64 1))),
 o 18 (.mv (.t 31))] [0, 4, 5, 6, 14, 15, 18]))))))))) (
.reg none [
 o 32 (.mv (.t 4)),
 o 33 (.mv (.t 6)),
 o 34 (.lit 1 (.int .u32 0) 1 [(0, .t 33)]),
 o 35 (.append 1 4 (.t 32) (.t 34)),
 o 4 (.mv (.t 35))] [0, 4, 14, 15]))))) (
.reg none [
 o 36 (.bin .add (.t 15) (.c (.int .i64 1))),
 o 15 (.mv (.t 36))] [0, 4, 14, 15]))))))))) (
.seq (.reg none [
 o 37 (.mv (.t 4)),
 o 2 (.mv (.t 37)),
 o 3 (.mv (.c (.int .i64 0)))] [2, 3]) (
.ret)))))
def r_word_Words : List RD := [.tmp 2, .tmp 3]
theorem k_word_Words : chkFn Pg n_word_Words c_word_Words r_word_Words 1 = true := by kernel_rfl
end Go.Abs
end
