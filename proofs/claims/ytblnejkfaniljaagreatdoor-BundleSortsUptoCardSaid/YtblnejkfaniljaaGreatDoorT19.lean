/-
  The abstract code of the program's functions, by program: part 2.
  Conditions: those that stand ahead of each theorem; no more.
-/
import Derived.Test.YtblnejkfaniljaaGreatDoorT16

section
namespace Go.Abs
open Go
/-- quitclaim/bundle.Sorted$1 -/
def c_bundle_Sorted_1 : CC :=
.seq (.reg none [
 o 2 (.box (.t 0)),
 o 3 (.mv (.c (.sl 32 [] .full)))] [1, 2]) (
.seq (.reg none [
 o 4 (.faddr 0 0 (.t 2)),
 o 5 (.load 1 false (.t 4)),
 o 6 (.load 1 false (.t 1)),
 o 7 (.call n_id_Both [.t 5, .t 6]),
 o 3 (.mv (.t 7))] [3]) (
.ret))
def r_bundle_Sorted_1 : List RD := [.tmp 3]
theorem k_bundle_Sorted_1 : chkFn Pg n_bundle_Sorted_1 c_bundle_Sorted_1 r_bundle_Sorted_1 2 = true := by kernel_rfl
/-- (*quitclaim/graph.Graph).line -/
def c_graph_Graph_line : CC :=
.seq (.reg none [
 o 2 (.box (.t 0)),
 o 4 (.mv (.c (.sl 32 [] .full)))] [1, 2]) (
.seq (.reg none [
 o 5 (.mv (.c (.sl 32 [] .full)))] [1, 2, 5]) (
.seq (.reg none [
 o 9 (.mkmap),
 o 6 (.alloc (.nilmap)),
 e (.store 1 (.t 6) (.t 9))] [1, 2, 5, 6]) (
.seq (.reg none [
 o 10 (.mkfn n_graph_Graph_line_1 [] [.t 6, .t 2]),
 o 7 (.mv (.t 10))] [1, 5, 6, 7]) (
.block 0 (
.wk (.loop (.wk (
.block 1 (
.seq (.reg none [
 o 11 (.mv (.t 1)),
 o 12 (.mv (.t 7)),
 o 13 (.call n_slices_IndexFunc_Id [.t 11, .t 12]),
 o 8 (.mv (.t 13))] [1, 5, 6, 7, 8]) (
.seq (.seq (.reg none [
 o 14 (.mv (.t 8)),
 o 15 (.bin .lss (.t 14) (.c (.int .i64 0)))] [1, 5, 6, 7, 8, 15]) (
.cond (.t 15) (.seq (.reg none [
 o 16 (.mv (.t 5)),
 o 4 (.mv (.t 16))] [4]) (
.ret)) (
.skip))) (
.seq (.reg (some 5) [
 o 17 (.load 1 false (.t 6)),
 o 18 (.mv (.t 1)),
 o 19 (.mv (.t 8)),
 o 20 (.iaddr 32 (.t 18) (.t 19)),
 o 21 (.load 32 true (.t 20)),
 e (.mapup (.arr 32 (.int .u8)) (.t 17) (.t 21) (.c (.bool true)))] [1, 5, 6, 7, 8]) (
.reg none [
 o 22 (.mv (.t 5)),
 o 23 (.mv (.t 1)),
 o 24 (.mv (.t 8)),
 o 25 (.iaddr 32 (.t 23) (.t 24)),
 o 26 (.load 32 true (.t 25)),
 o 27 (.lit 32 (.agg [.int .u8 0, .int .u8 0, .int .u8 0, .int .u8 0, .int .u8 0, .int .u8 0, .int .u8 0, .int .u8 0, .int .u8 0, .int .u8 0, .int .u8 0, .int .u8 0, .int .u8 0, .int .u8 0, .int .u8 0, .int .u8 0, .int .u8 0, .int .u8 0, .int .u8 0, .int .u8 0, .int .u8 0, .int .u8 0, .int .u8 0, .int .u8 0, .int .u8 0, .int .u8 0, .int .u8 0, .int .u8 0, .int .u8 0, .int .u8 0, .int .u8 0, .int .u8 0]) 1 [(0, .t 26)]),
 o 28 (.append 32 32 (.t 22) (.t 27)),
 o 5 (.mv (.t 28))] [1, 5, 6, 7]))))))))))))
def r_graph_Graph_line : List RD := [.tmp 4]
theorem k_graph_Graph_line : chkFn Pg n_graph_Graph_line c_graph_Graph_line r_graph_Graph_line 2 = true := by kernel_rfl
/-- (*quitclaim/graph.Graph).line$1 -/
def c_graph_Graph_line_1 : CC :=
.seq (.reg none [
 o 3 (.box (.t 0)),
 o 4 (.mv (.c (.bool false)))] [1, 2, 3]) (
.seq (.reg (some 16) [
 o 5 (.load 1 false (.t 1)),
 o 6 (.load 32 true (.t 3)),
 o 7 (.lookup (.arr 32 (.int .u8)) false (.bool false) (.t 5) (.t 6)),
 o 8 (.not (.t 7)),
 o 9 (.mv (.t 8)),
 g 10 (.load 1 false (.t 2)) 9 true,
 g 11 (.nilchk (.t 10)) 9 true,
 g 12 (.faddr 1 1 (.t 11)) 9 true,
 g 13 (.load 1 false (.t 12)) 9 true,
 g 14 (.load 32 true (.t 3)) 9 true,
 g 15 (.lookup (.arr 32 (.int .u8)) false (.sl 32 [] .full) (.t 13) (.t 14)) 9 true,
 g 16 (.mkfn n_graph_Graph_line_1_1 [] [.t 1]) 9 true,
 g 17 (.call n_slices_ContainsFunc_Id [.t 15, .t 16]) 9 true,
 g 18 (.not (.t 17)) 9 true,
 o 19 (.pick (.t 9) (.t 18) (.c (.bool false))),
 o 4 (.mv (.t 19))] [4]) (
.ret))
def r_graph_Graph_line_1 : List RD := [.tmp 4]
theorem k_graph_Graph_line_1 : chkFn Pg n_graph_Graph_line_1 c_graph_Graph_line_1 r_graph_Graph_line_1 3 = true := by kernel_rfl
/-- quitclaim/graph.Missing -/
def c_graph_Missing : CC :=
.seq (.reg none [
 o 2 (.mv (.c (.sl 32 [] .full)))] [0]) (
.seq (.reg none [
 o 3 (.mv (.c (.sl 32 [] .full))),
 o 4 (.mv (.c (.sl 32 [] .full)))] [0, 3, 4]) (
.seq (.seq (.reg none [
 o 7 (.mv (.t 0)),
 o 8 (.len 1 (.t 7)),
 o 9 (.mv (.c (.int .i64 0)))] [3, 4, 7, 8, 9]) (
.block 0 (
.wk (.loop (.wk (
.seq (.reg none [
 o 10 (.bin .lss (.t 9) (.t 8))] [3, 4, 7, 8, 9, 10]) (
.seq (.cond (.t 10) (.skip) (
.exit 0)) (
.seq (.block 1 (
.seq (.reg none [
 o 11 (.iaddr 33 (.t 7) (.t 9)),
 o 12 (.load 33 true (.t 11)),
 o 6 (.alloc (.agg [.agg [.int .u8 0, .int .u8 0, .int .u8 0, .int .u8 0, .int .u8 0, .int .u8 0, .int .u8 0, .int .u8 0, .int .u8 0, .int .u8 0, .int .u8 0, .int .u8 0, .int .u8 0, .int .u8 0, .int .u8 0, .int .u8 0, .int .u8 0, .int .u8 0, .int .u8 0, .int .u8 0, .int .u8 0, .int .u8 0, .int .u8 0, .int .u8 0, .int .u8 0, .int .u8 0, .int .u8 0, .int .u8 0, .int .u8 0, .int .u8 0, .int .u8 0, .int .u8 0], .sl 32 [] .full])),
 e (.store 33 (.t 6) (.t 12))] [3, 4, 6, 7, 8, 9]) (
.seq (.reg none [
 o 13 (.mv (.t 3)),
 o 14 (.faddr 0 0 (.t 6)),
 o 15 (.load 32 true (.t 14)),
 o 16 (.lit 32 (.agg [.int .u8 0, .int .u8 0, .int .u8 0, .int .u8 0, .int .u8 0, .int .u8 0, .int .u8 0, .int .u8 0, .int .u8 0, .int .u8 0, .int .u8 0, .int .u8 0, .int .u8 0, .int .u8 0, .int .u8 0, .int .u8 0, .int .u8 0, .int .u8 0, .int .u8 0, .int .u8 0, .int .u8 0, .int .u8 0, .int .u8 0, .int .u8 0, .int .u8 0, .int .u8 0, .int .u8 0, .int .u8 0, .int .u8 0, .int .u8 0, .int .u8 0, .int .u8 0]) 1 [(0, .t 15)]),
 o 17 (.append 32 32 (.t 13) (.t 16)),
 o 3 (.mv (.t 17))] [3, 4, 6, 7, 8, 9]) (
.reg none [
 o 18 (.mv (.t 4)),
 o 19 (.faddr 1 32 (.t 6)),
 o 20 (.load 1 false (.t 19)),
 o 21 (.append 32 32 (.t 18) (.t 20)),
 o 4 (.mv (.t 21))] [3, 4, 7, 8, 9])))) (
.reg none [
 o 22 (.bin .add (.t 9) (.c (.int .i64 1))),
 o 9 (.mv (.t 22))] [3, 4, 7, 8, 9]))))))))) (
.seq (.reg none [
 o 23 (.mv (.t 4)),
 o 24 (.call n_id_Sort [.t 23]),
 o 25 (.mv (.t 3)),
 o 26 (.call n_id_Sort [.t 25]),
 o 27 (.call n_id_Minus [.t 24, .t 26]),
 o 2 (.mv (.t 27))] [2]) (
.ret))))
def r_graph_Missing : List RD := [.tmp 2]
theorem k_graph_Missing : chkFn Pg n_graph_Missing c_graph_Missing r_graph_Missing 1 = true := by kernel_rfl
/-- quitclaim/graph.New -/
def c_graph_New : CC :=
.seq (.reg none [
 o 2 (.mv (.c (.nilp))),
 o 3 (.mv (.c (.int .i64 0)))] [0]) (
.seq (.reg none [
 o 9 (.mkmap),
 o 10 (.build [.sl 32 [] .full, .nilmap, .sl 32 [] .full] [(1, .t 9)]),
 o 11 (.box (.t 10)),
 o 4 (.mv (.t 11))] [0, 4]) (
.seq (.seq (.reg none [
 o 12 (.mv (.t 0)),
 o 13 (.len 1 (.t 12)),
 o 14 (.mv (.c (.int .i64 0)))] [0, 4, 12, 13, 14]) (
.block 0 (
.wk (.loop (.wk (
.seq (.reg none [
 o 15 (.bin .lss (.t 14) (.t 13))] [0, 4, 12, 13, 14, 15]) (
.seq (.cond (.t 15) (.skip) (
.exit 0)) (
.seq (.block 1 (
.seq (.reg none [
 o 16 (.iaddr 33 (.t 12) (.t 14)),
 o 17 (.load 33 true (.t 16)),
 o 6 (.alloc (.agg [.agg [.int .u8 0, .int .u8 0, .int .u8 0, .int .u8 0, .int .u8 0, .int .u8 0, .int .u8 0, .int .u8 0, .int .u8 0, .int .u8 0, .int .u8 0, .int .u8 0, .int .u8 0, .int .u8 0, .int .u8 0, .int .u8 0, .int .u8 0, .int .u8 0, .int .u8 0, .int .u8 0, .int .u8 0, .int .u8 0, .int .u8 0, .int .u8 0, .int .u8 0, .int .u8 0, .int .u8 0, .int .u8 0, .int .u8 0, .int .u8 0, .int .u8 0, .int .u8 0], .sl 32 [] .full])),
 e (.store 33 (.t 6) (.t 17))] [0, 4, 6, 12, 13, 14]) (
.seq (.seq (.reg (some 12) [
 o 19 (.mv (.t 4)),
 o 20 (.nilchk (.t 19)),
 o 21 (.faddr 1 1 (.t 20)),
 o 22 (.load 1 false (.t 21)),
 o 23 (.faddr 0 0 (.t 6)),
 o 24 (.load 32 true (.t 23)),
 o 25 (.lookup (.arr 32 (.int .u8)) true (.sl 32 [] .full) (.t 22) (.t 24)),
 o 18 (.mv (.t 25)),
 o 26 (.extract 0 (.t 18)),
 o 27 (.extract 1 (.t 18)),
 o 7 (.mv (.t 26)),
 o 8 (.mv (.t 27))] [0, 4, 6, 8, 12, 13, 14]) (
.seq (.reg none [
 o 28 (.mv (.t 8))] [0, 4, 6, 12, 13, 14, 28]) (
.cond (.t 28) (.seq (.reg none [
 o 2 (.mv (.c (.nilp))),
 o 3 (.mv (.c (.int .i64 7)))] [2, 3]) (
.ret)) (
.skip)))) (
.seq (.reg (some 9) [
 o 29 (.mv (.t 4)),
 o 30 (.nilchk (.t 29)),
 o 31 (.faddr 1 1 (.t 30)),
 o 32 (.load 1 false (.t 31)),
 o 33 (.faddr 0 0 (.t 6)),
 o 34 (.load 32 true (.t 33)),
 o 35 (.faddr 1 32 (.t 6)),
 o 36 (.load 1 false (.t 35)),
 o 37 (.call n_id_Sort [.t 36]),
 e (.mapup (.arr 32 (.int .u8)) (.t 32) (.t 34) (.t 37))] [0, 4, 6, 12, 13, 14]) (
.regm [
 q 0 1 (o 38 (.mv (.t 4))),
 q 0 1 (o 39 (.mv (.t 4))),
 q 0 1 (o 40 (.nilchk (.t 39))),
 q 0 1 (o 41 (.faddr 0 0 (.t 40))),
 q 0 0 (o 42 (.load 1 false (.t 41))),
 q 0 1 (o 43 (.faddr 0 0 (.t 6))),
 q 0 1 (o 44 (.load 32 true (.t 43))),
 q 0 0 (o 45 (.lit 32 (.agg [.int .u8 0, .int .u8 0, .int .u8 0, .int .u8 0, .int .u8 0, .int .u8 0, .int .u8 0, .int .u8 0, .int .u8 0, .int .u8 0, .int .u8 0, .int .u8 0, .int .u8 0, .int .u8 0, .int .u8 0, .int .u8 0, .int .u8 0, .int .u8 0, .int .u8 0, .int .u8 0, .int .u8 0, .int .u8 0, .int .u8 0, .int .u8 0, .int .u8 0, .int .u8 0, .int .u8 0, .int .u8 0, .int .u8 0, .int .u8 0, .int .u8 0, .int .u8 0]) 1 [(0, .t 44)])),
 f (o 46 (.append 32 32 (.t 42) (.t 45))),
 q 1 2 (o 47 (.nilchk (.t 38))),
 q 1 1 (o 48 (.faddr 0 0 (.t 47))),
 f (e (.store 1 (.t 48) (.t 46)))] [0, 4, 12, 13, 14]))))) (
.reg none [
 o 49 (.bin .add (.t 14) (.c (.int .i64 1))),
 o 14 (.mv (.t 49))] [0, 4, 12, 13, 14]))))))))) (
.seq (.seq (.reg none [
 o 50 (.mv (.t 0)),
 o 51 (.call n_graph_Missing [.t 50]),
 o 52 (.len 1 (.t 51)),
 o 53 (.bin .gtr (.t 52) (.c (.int .i64 0)))] [4, 53]) (
.cond (.t 53) (.seq (.reg none [
 o 2 (.mv (.c (.nilp))),
 o 3 (.mv (.c (.int .i64 11)))] [2, 3]) (
.ret)) (
.skip))) (
.seq (.reg none [
 o 54 (.mv (.t 4)),
 o 55 (.mv (.t 4)),
 o 56 (.nilchk (.t 55)),
 o 57 (.faddr 0 0 (.t 56)),
 o 58 (.load 1 false (.t 57)),
 o 59 (.call n_id_Sort [.t 58]),
 o 60 (.nilchk (.t 54)),
 o 61 (.faddr 0 0 (.t 60)),
 e (.store 1 (.t 61) (.t 59))] [4]) (
.seq (.seq (.reg none [
 o 62 (.mv (.t 4)),
 o 63 (.mv (.t 4)),
 o 64 (.mv (.t 4)),
 o 65 (.nilchk (.t 64)),
 o 66 (.faddr 0 0 (.t 65)),
 o 67 (.load 1 false (.t 66)),
 o 68 (.call n_graph_Graph_line [.t 63, .t 67]),
 o 69 (.nilchk (.t 62)),
 o 70 (.faddr 2 2 (.t 69)),
 e (.store 1 (.t 70) (.t 68))] [4]) (
.seq (.reg (some 11) [
 o 71 (.mv (.t 4)),
 o 72 (.nilchk (.t 71)),
 o 73 (.faddr 2 2 (.t 72)),
 o 74 (.load 1 false (.t 73)),
 o 75 (.len 1 (.t 74)),
 o 76 (.mv (.t 4)),
 o 77 (.nilchk (.t 76)),
 o 78 (.faddr 0 0 (.t 77)),
 o 79 (.load 1 false (.t 78)),
 o 80 (.len 1 (.t 79)),
 o 81 (.bin .lss (.t 75) (.t 80))] [4, 81]) (
.cond (.t 81) (.seq (.reg none [
 o 2 (.mv (.c (.nilp))),
 o 3 (.mv (.c (.int .i64 17)))] [2, 3]) (
.ret)) (
.skip)))) (
.seq (.reg none [
 o 82 (.mv (.t 4)),
 o 2 (.mv (.t 82)),
 o 3 (.mv (.c (.int .i64 0)))] [2, 3]) (
.ret)))))))
def r_graph_New : List RD := [.tmp 2, .tmp 3]
theorem k_graph_New : chkFn Pg n_graph_New c_graph_New r_graph_New 1 = true := by kernel_rfl
/-- quitclaim/hunk.Lines$1 -/
def c_hunk_Lines_1 : CC :=
.seq (.reg none [
 o 2 (.mv (.c (.bool false)))] [0]) (
.seq (.reg none [
 o 3 (.mv (.t 0)),
 o 4 (.len 0 (.t 3)),
 o 5 (.bin .gtr (.t 4) (.c (.int .i64 200))),
 o 6 (.mv (.t 5)),
 g 7 (.mv (.t 0)) 6 false,
 g 8 (.call n_strings_Contains [.t 7, .c (.str [10])]) 6 false,
 o 9 (.pick (.t 6) (.c (.bool true)) (.t 8)),
 o 2 (.mv (.t 9))] [2]) (
.ret))
def r_hunk_Lines_1 : List RD := [.tmp 2]
theorem k_hunk_Lines_1 : chkFn Pg n_hunk_Lines_1 c_hunk_Lines_1 r_hunk_Lines_1 1 = true := by kernel_rfl
/-- quitclaim/id.Same -/
def c_id_Same : CC :=
.seq (.reg none [
 o 4 (.mv (.c (.bool false)))] [0, 1]) (
.seq (.reg none [
 o 5 (.mv (.t 0)),
 o 6 (.mv (.t 1)),
 o 7 (.call n_slices_Equal_Id [.t 5, .t 6]),
 o 4 (.mv (.t 7))] [4]) (
.ret))
def r_id_Same : List RD := [.tmp 4]
theorem k_id_Same : chkFn Pg n_id_Same c_id_Same r_id_Same 2 = true := by kernel_rfl
/-- quitclaim/quitclaimlaw26.awake -/
def c_law26_awake : CC :=
.seq (.reg none [
 o 0 (.mv (.c (.bool false)))] []) (
.seq (.reg none [
 o 4 (.call n_bundle_Encode [.c (.sl 39 [] .full)]),
 o 3 (.mv (.t 4)),
 o 5 (.extract 0 (.t 3)),
 o 6 (.extract 1 (.t 3)),
 o 1 (.mv (.t 5)),
 o 2 (.mv (.t 6))] [1, 2]) (
.seq (.reg none [
 o 7 (.mv (.t 1)),
 o 8 (.bin .eql (.t 7) (.c (.str [81, 67, 49, 0]))),
 o 9 (.mv (.t 8)),
 g 10 (.mv (.t 2)) 9 true,
 g 11 (.bin .eql (.t 10) (.c (.int .i64 0))) 9 true,
 o 12 (.pick (.t 9) (.t 11) (.c (.bool false))),
 o 0 (.mv (.t 12))] [0]) (
.ret)))
def r_law26_awake : List RD := [.tmp 0]
theorem k_law26_awake : chkFn Pg n_law26_awake c_law26_awake r_law26_awake 0 = true := by kernel_rfl
/-- (*quitclaim/pack.Writer).Ids -/
def c_pack_Writer_Ids : CC :=
.seq (.reg none [
 o 6 (.mv (.t 0)),
 o 7 (.mv (.t 1)),
 o 8 (.len 1 (.t 7)),
 o 9 (.call n_pack_Writer_Num [.t 6, .t 8])] [0, 1]) (
.seq (.reg none [
 o 10 (.mv (.t 1)),
 o 11 (.len 1 (.t 10)),
 o 12 (.mv (.c (.int .i64 0)))] [0, 10, 11, 12]) (
.block 0 (
.wk (.loop (.wk (
.seq (.reg none [
 o 13 (.bin .lss (.t 12) (.t 11))] [0, 10, 11, 12, 13]) (
.seq (.cond (.t 13) (.skip) (
.exit 0)) (
.seq (.block 1 (
.seq (.reg none [
 o 14 (.iaddr 32 (.t 10) (.t 12)),
 o 15 (.load 32 true (.t 14)),
 o 5 (.alloc (.agg [.int .u8 0, .int .u8 0, .int .u8 0, .int .u8 0, .int .u8 0, .int .u8 0, .int .u8 0, .int .u8 0, .int .u8 0, .int .u8 0, .int .u8 0, .int .u8 0, .int .u8 0, .int .u8 0, .int .u8 0, .int .u8 0, .int .u8 0, .int .u8 0, .int .u8 0, .int .u8 0, .int .u8 0, .int .u8 0, .int .u8 0, .int .u8 0, .int .u8 0, .int .u8 0, .int .u8 0, .int .u8 0, .int .u8 0, .int .u8 0, .int .u8 0, .int .u8 0])),
 e (.store 32 (.t 5) (.t 15))] [0, 5, 10, 11, 12]) (
.reg none [
 o 16 (.mv (.t 0)),
 o 17 (.load 32 true (.t 5)),
 o 18 (.call n_pack_Writer_Id [.t 16, .t 17])] [0, 10, 11, 12]))) (
.reg none [
 o 19 (.bin .add (.t 12) (.c (.int .i64 1))),
 o 12 (.mv (.t 19))] [0, 10, 11, 12])))))))))
def r_pack_Writer_Ids : List RD := []
theorem k_pack_Writer_Ids : chkFn Pg n_pack_Writer_Ids c_pack_Writer_Ids r_pack_Writer_Ids 2 = true := by kernel_rfl
/-- quitclaim/patch.Body -/
def c_patch_Body : CC :=
.seq (.reg none [
 o 1 (.box (.t 0)),
 o 2 (.mv (.c (.str []))),
 o 3 (.mv (.c (.int .i64 0)))] [1]) (
.seq (.seq (.reg none [
 o 6 (.load 39 true (.t 1)),
 o 7 (.call n_patch_Right [.t 6]),
 o 4 (.mv (.t 7))] [1, 4]) (
.seq (.reg none [
 o 8 (.mv (.t 4)),
 o 9 (.bin .neq (.t 8) (.c (.int .i64 0)))] [1, 4, 9]) (
.cond (.t 9) (.seq (.reg none [
 o 10 (.mv (.t 4)),
 o 2 (.mv (.c (.str []))),
 o 3 (.mv (.t 10))] [2, 3]) (
.ret)) (
.skip)))) (
.seq (.reg none [
 o 11 (.build [.sl 1 [] .full] []),
 o 12 (.box (.t 11)),
 o 5 (.mv (.t 12))] [1, 5]) (
.seq (.reg none [
 o 13 (.mv (.t 5)),
 o 14 (.load 39 true (.t 1)),
 o 15 (.call n_patch_body [.t 13, .t 14])] [5]) (
.seq (.reg none [
 o 16 (.mv (.t 5)),
 o 17 (.call n_pack_Writer_String [.t 16]),
 o 2 (.mv (.t 17)),
 o 3 (.mv (.c (.int .i64 0)))] [2, 3]) (
.ret)))))
def r_patch_Body : List RD := [.tmp 2, .tmp 3]
theorem k_patch_Body : chkFn Pg n_patch_Body c_patch_Body r_patch_Body 1 = true := by kernel_rfl
/-- quitclaim/patch.body -/
def c_patch_body : CC :=
.seq (.reg none [
 o 3 (.box (.t 1))] [0, 3]) (
.seq (.reg none [
 o 6 (.mv (.t 0)),
 o 7 (.faddr 0 0 (.t 3)),
 o 8 (.load 1 false (.t 7)),
 o 9 (.call n_pack_Writer_Ids [.t 6, .t 8])] [0, 3]) (
.seq (.reg none [
 o 10 (.mv (.t 0)),
 o 11 (.faddr 1 1 (.t 3)),
 o 12 (.load 32 true (.t 11)),
 o 13 (.call n_pack_Writer_Id [.t 10, .t 12])] [0, 3]) (
.seq (.reg none [
 o 14 (.mv (.t 0)),
 o 15 (.faddr 2 33 (.t 3)),
 o 16 (.load 1 false (.t 15)),
 o 17 (.call n_pack_Writer_Text [.t 14, .t 16])] [0, 3]) (
.seq (.reg none [
 o 18 (.mv (.t 0)),
 o 19 (.faddr 3 34 (.t 3)),
 o 20 (.load 1 false (.t 19)),
 o 21 (.len 1 (.t 20)),
 o 22 (.call n_pack_Writer_Num [.t 18, .t 21])] [0, 3]) (
.seq (.reg none [
 o 23 (.faddr 3 34 (.t 3)),
 o 24 (.load 1 false (.t 23)),
 o 25 (.len 1 (.t 24)),
 o 26 (.mv (.c (.int .i64 0)))] [0, 24, 25, 26]) (
.block 0 (
.wk (.loop (.wk (
.seq (.reg none [
 o 27 (.bin .lss (.t 26) (.t 25))] [0, 24, 25, 26, 27]) (
.seq (.cond (.t 27) (.skip) (
.exit 0)) (
.seq (.block 1 (
.seq (.reg none [
 o 28 (.iaddr 39 (.t 24) (.t 26)),
 o 29 (.load 39 true (.t 28)),
 o 5 (.alloc (.agg [.int .i64 0, .str [], .str [], .int .i64 0, .sl 1 [] .full, .sl 1 [] .full, .agg [.int .u8 0, .int .u8 0, .int .u8 0, .int .u8 0, .int .u8 0, .int .u8 0, .int .u8 0, .int .u8 0, .int .u8 0, .int .u8 0, .int .u8 0, .int .u8 0, .int .u8 0, .int .u8 0, .int .u8 0, .int .u8 0, .int .u8 0, .int .u8 0, .int .u8 0, .int .u8 0, .int .u8 0, .int .u8 0, .int .u8 0, .int .u8 0, .int .u8 0, .int .u8 0, .int .u8 0, .int .u8 0, .int .u8 0, .int .u8 0, .int .u8 0, .int .u8 0], .int .i64 0])),
 e (.store 39 (.t 5) (.t 29))] [0, 5, 24, 25, 26]) (
.reg none [
 o 30 (.mv (.t 0)),
 o 31 (.load 39 true (.t 5)),
 o 32 (.call n_op_Put [.t 30, .t 31])] [0, 24, 25, 26]))) (
.reg none [
 o 33 (.bin .add (.t 26) (.c (.int .i64 1))),
 o 26 (.mv (.t 33))] [0, 24, 25, 26])))))))))))))
def r_patch_body : List RD := []
theorem k_patch_body : chkFn Pg n_patch_body c_patch_body r_patch_body 2 = true := by kernel_rfl
/-- quitclaim/patch.sum -/
def c_patch_sum : CC :=
.seq (.reg none [
 o 6 (.alloc (.agg [.int .u8 0, .int .u8 0, .int .u8 0, .int .u8 0, .int .u8 0, .int .u8 0, .int .u8 0, .int .u8 0, .int .u8 0, .int .u8 0, .int .u8 0, .int .u8 0, .int .u8 0, .int .u8 0, .int .u8 0, .int .u8 0, .int .u8 0, .int .u8 0, .int .u8 0, .int .u8 0, .int .u8 0, .int .u8 0, .int .u8 0, .int .u8 0, .int .u8 0, .int .u8 0, .int .u8 0, .int .u8 0, .int .u8 0, .int .u8 0, .int .u8 0, .int .u8 0])),
 o 7 (.mv (.c (.int .i64 0)))] [0, 1, 2, 6]) (
.seq (.seq (.reg none [
 o 8 (.mv (.t 2)),
 o 9 (.bin .neq (.t 8) (.c (.int .i64 0)))] [0, 1, 2, 6, 9]) (
.cond (.t 9) (.seq (.reg none [
 o 10 (.build [.int .u8 0, .int .u8 0, .int .u8 0, .int .u8 0, .int .u8 0, .int .u8 0, .int .u8 0, .int .u8 0, .int .u8 0, .int .u8 0, .int .u8 0, .int .u8 0, .int .u8 0, .int .u8 0, .int .u8 0, .int .u8 0, .int .u8 0, .int .u8 0, .int .u8 0, .int .u8 0, .int .u8 0, .int .u8 0, .int .u8 0, .int .u8 0, .int .u8 0, .int .u8 0, .int .u8 0, .int .u8 0, .int .u8 0, .int .u8 0, .int .u8 0, .int .u8 0] []),
 o 11 (.mv (.t 2)),
 e (.store 32 (.t 6) (.t 10)),
 o 7 (.mv (.t 11))] [6, 7]) (
.ret)) (
.skip))) (
.seq (.reg none [
 o 12 (.mv (.t 0)),
 o 13 (.mv (.t 1)),
 o 14 (.lit 1 (.str []) 1 [(0, .t 13)]),
 o 15 (.call n_tag_Of [.t 12, .t 14]),
 o 16 (.extract 0 (.t 15)),
 o 17 (.extract 1 (.t 15)),
 e (.store 32 (.t 6) (.t 16)),
 o 7 (.mv (.t 17))] [6, 7]) (
.ret)))
def r_patch_sum : List RD := [.cell 6 32 true, .tmp 7]
theorem k_patch_sum : chkFn Pg n_patch_sum c_patch_sum r_patch_sum 3 = true := by kernel_rfl
/-- quitclaim/quitclaimref02.Padded -/
def c_ref02_Padded : CC :=
.seq (.reg none [
 o 2 (.mv (.c (.str [])))] [0]) (
.seq (.reg none [
 o 6 (.mv (.t 0)),
 o 7 (.bin .add (.t 6) (.c (.str [128]))),
 o 3 (.mv (.t 7))] [0, 3]) (
.seq (.block 0 (
.wk (.loop (.wk (
.seq (.seq (.reg none [
 o 8 (.mv (.t 3)),
 o 9 (.len 0 (.t 8)),
 o 10 (.bin .rem (.t 9) (.c (.int .i64 64))),
 o 11 (.bin .neq (.t 10) (.c (.int .i64 56)))] [0, 3, 11]) (
.cond (.t 11) (.skip) (
.exit 0))) (
.block 1 (
.reg none [
 o 12 (.mv (.t 3)),
 o 13 (.bin .add (.t 12) (.c (.str [0]))),
 o 3 (.mv (.t 13))] [0, 3]))))))) (
.seq (.reg none [
 o 15 (.mv (.t 0)),
 o 16 (.len 0 (.t 15)),
 o 17 (.conv .u64 (.t 16)),
 o 18 (.bin .mul (.t 17) (.c (.int .u64 8))),
 o 19 (.call n_ref01_Number [.t 18, .c (.int .i64 8)]),
 o 14 (.mv (.t 19)),
 o 20 (.extract 0 (.t 14)),
 o 21 (.extract 1 (.t 14)),
 o 4 (.mv (.t 20)),
 o 5 (.mv (.t 21))] [3, 4]) (
.seq (.reg none [
 o 22 (.mv (.t 3)),
 o 23 (.mv (.t 4)),
 o 24 (.bin .add (.t 22) (.t 23)),
 o 2 (.mv (.t 24))] [2]) (
.ret)))))
def r_ref02_Padded : List RD := [.tmp 2]
theorem k_ref02_Padded : chkFn Pg n_ref02_Padded c_ref02_Padded r_ref02_Padded 1 = true := by kernel_rfl
/-- quitclaim/quitclaimref02.one -/
def c_ref02_one : CC :=
.seq (.reg none [
 o 6 (.mv (.c (.sl 1 [] .full)))] [0, 1, 2]) (
.seq (.reg none [
 o 20 (.lit 1 (.int .u32 0) 0 []),
 o 7 (.mv (.t 20))] [0, 1, 2, 7]) (
.seq (.seq (.reg none [
 o 8 (.mv (.c (.int .i64 0)))] [0, 1, 2, 7, 8]) (
.block 0 (
.wk (.loop (.wk (
.seq (.seq (.reg none [
 o 21 (.mv (.t 8)),
 o 22 (.bin .lss (.t 21) (.c (.int .i64 16)))] [0, 1, 2, 7, 8, 22]) (
.cond (.t 22) (.skip) (
.exit 0))) (
.seq (.block 1 (
.reg none [
 o 25 (.mv (.t 7)),
 o 26 (.mv (.t 2)),
 o 27 (.mv (.t 8)),
 o 28 (.bin .mul (.c (.int .i64 4)) (.t 27)),
 o 29 (.mv (.t 8)),
 o 30 (.bin .mul (.c (.int .i64 4)) (.t 29)),
 o 31 (.bin .add (.t 30) (.c (.int .i64 4))),
 o 32 (.sliceS (.t 26) (some (.t 28)) (some (.t 31))),
 o 33 (.call n_ref01_Value [.t 32]),
 o 34 (.conv .u32 (.t 33)),
 o 35 (.lit 1 (.int .u32 0) 1 [(0, .t 34)]),
 o 36 (.append 1 4 (.t 25) (.t 35)),
 o 7 (.mv (.t 36))] [0, 1, 2, 7, 8])) (
.reg none [
 o 23 (.mv (.t 8)),
 o 24 (.bin .add (.t 23) (.c (.int .i64 1))),
 o 8 (.mv (.t 24))] [0, 1, 2, 7, 8])))))))) (
.seq (.seq (.reg none [
 o 9 (.mv (.c (.int .i64 16)))] [0, 1, 7, 9]) (
.block 2 (
.wk (.loop (.wk (
.seq (.seq (.reg none [
 o 37 (.mv (.t 9)),
 o 38 (.bin .lss (.t 37) (.c (.int .i64 64)))] [0, 1, 7, 9, 38]) (
.cond (.t 38) (.skip) (
.exit 2))) (
.seq (.block 3 (
.seq (.reg (some 12) [
 o 41 (.mv (.t 7)),
 o 42 (.mv (.t 9)),
 o 43 (.bin .sub (.t 42) (.c (.int .i64 15))),
 o 44 (.iaddr 1 (.t 41) (.t 43)),
 o 45 (.load 1 false (.t 44)),
 o 46 (.mv (.t 7)),
 o 47 (.mv (.t 9)),
 o 48 (.bin .sub (.t 47) (.c (.int .i64 2))),
 o 49 (.iaddr 1 (.t 46) (.t 48)),
 o 50 (.load 1 false (.t 49)),
 o 10 (.mv (.t 45)),
 o 11 (.mv (.t 50))] [0, 1, 7, 9, 10, 11]) (
.reg (some 31) [
 o 51 (.mv (.t 7)),
 o 52 (.mv (.t 7)),
 o 53 (.mv (.t 9)),
 o 54 (.bin .sub (.t 53) (.c (.int .i64 16))),
 o 55 (.iaddr 1 (.t 52) (.t 54)),
 o 56 (.load 1 false (.t 55)),
 o 57 (.mv (.t 10)),
 o 58 (.call n_ref02_turn [.t 57, .c (.int .i64 7)]),
 o 59 (.mv (.t 10)),
 o 60 (.call n_ref02_turn [.t 59, .c (.int .i64 18)]),
 o 61 (.bin .xor (.t 58) (.t 60)),
 o 62 (.mv (.t 10)),
 o 63 (.bin .shr (.t 62) (.c (.int .u64 3))),
 o 64 (.bin .xor (.t 61) (.t 63)),
 o 65 (.bin .add (.t 56) (.t 64)),
 o 66 (.mv (.t 7)),
 o 67 (.mv (.t 9)),
 o 68 (.bin .sub (.t 67) (.c (.int .i64 7))),
 o 69 (.iaddr 1 (.t 66) (.t 68)),
 o 70 (.load 1 false (.t 69)),
 o 71 (.bin .add (.t 65) (.t 70)),
 o 72 (.mv (.t 11)),
 o 73 (.call n_ref02_turn [.t 72, .c (.int .i64 17)]),
 o 74 (.mv (.t 11)),
 o 75 (.call n_ref02_turn [.t 74, .c (.int .i64 19)]),
 o 76 (.bin .xor (.t 73) (.t 75)),
 o 77 (.mv (.t 11)),
 o 78 (.bin .shr (.t 77) (.c (.int .u64 10))),
 o 79 (.bin .xor (.t 76) (.t 78)),
 o 80 (.bin .add (.t 71) (.t 79)),
 o 81 (.lit 1 (.int .u32 0) 1 [(0, .t 80)]),
 o 82 (.append 1 4 (.t 51) (.t 81)),
 o 7 (.mv (.t 82))] [0, 1, 7, 9]))) (
.reg none [
 o 39 (.mv (.t 9)),
 o 40 (.bin .add (.t 39) (.c (.int .i64 1))),
 o 9 (.mv (.t 40))] [0, 1, 7, 9])))))))) (
.seq (.reg none [
 o 83 (.lit 1 (.int .u32 0) 0 []),
 o 12 (.mv (.t 83))] [0, 1, 7, 12]) (
.seq (.reg none [
 o 84 (.mv (.t 12)),
 o 85 (.mv (.t 0)),
 o 86 (.append 1 4 (.t 84) (.t 85)),
 o 12 (.mv (.t 86))] [0, 1, 7, 12]) (
.seq (.seq (.reg none [
 o 13 (.mv (.c (.int .i64 0)))] [0, 1, 7, 12, 13]) (
.block 4 (
.wk (.loop (.wk (
.seq (.seq (.reg none [
 o 87 (.mv (.t 13)),
 o 88 (.bin .lss (.t 87) (.c (.int .i64 64)))] [0, 1, 7, 12, 13, 88]) (
.cond (.t 88) (.skip) (
.exit 4))) (
.seq (.block 5 (
.seq (.reg (some 8) [
 o 91 (.mv (.t 12)),
 o 92 (.iaddr 1 (.t 91) (.c (.int .i64 4))),
 o 93 (.load 1 false (.t 92)),
 o 94 (.mv (.t 12)),
 o 95 (.iaddr 1 (.t 94) (.c (.int .i64 0))),
 o 96 (.load 1 false (.t 95)),
 o 14 (.mv (.t 93)),
 o 15 (.mv (.t 96))] [0, 1, 7, 12, 13, 14, 15]) (
.seq (.reg (some 36) [
 o 97 (.mv (.t 12)),
 o 98 (.iaddr 1 (.t 97) (.c (.int .i64 7))),
 o 99 (.load 1 false (.t 98)),
 o 100 (.mv (.t 14)),
 o 101 (.call n_ref02_turn [.t 100, .c (.int .i64 6)]),
 o 102 (.mv (.t 14)),
 o 103 (.call n_ref02_turn [.t 102, .c (.int .i64 11)]),
 o 104 (.bin .xor (.t 101) (.t 103)),
 o 105 (.mv (.t 14)),
 o 106 (.call n_ref02_turn [.t 105, .c (.int .i64 25)]),
 o 107 (.bin .xor (.t 104) (.t 106)),
 o 108 (.bin .add (.t 99) (.t 107)),
 o 109 (.mv (.t 14)),
 o 110 (.mv (.t 12)),
 o 111 (.iaddr 1 (.t 110) (.c (.int .i64 5))),
 o 112 (.load 1 false (.t 111)),
 o 113 (.bin .and (.t 109) (.t 112)),
 o 114 (.mv (.t 14)),
 o 115 (.bin .sub (.c (.int .u32 4294967295)) (.t 114)),
 o 116 (.mv (.t 12)),
 o 117 (.iaddr 1 (.t 116) (.c (.int .i64 6))),
 o 118 (.load 1 false (.t 117)),
 o 119 (.bin .and (.t 115) (.t 118)),
 o 120 (.bin .or (.t 113) (.t 119)),
 o 121 (.bin .add (.t 108) (.t 120)),
 o 122 (.mv (.t 1)),
 o 123 (.mv (.t 13)),
 o 124 (.iaddr 1 (.t 122) (.t 123)),
 o 125 (.load 1 false (.t 124)),
 o 126 (.bin .add (.t 121) (.t 125)),
 o 127 (.mv (.t 7)),
 o 128 (.mv (.t 13)),
 o 129 (.iaddr 1 (.t 127) (.t 128)),
 o 130 (.load 1 false (.t 129)),
 o 131 (.bin .add (.t 126) (.t 130)),
 o 16 (.mv (.t 131))] [0, 1, 7, 12, 13, 15, 16]) (
.seq (.reg (some 29) [
 o 132 (.mv (.t 15)),
 o 133 (.call n_ref02_turn [.t 132, .c (.int .i64 2)]),
 o 134 (.mv (.t 15)),
 o 135 (.call n_ref02_turn [.t 134, .c (.int .i64 13)]),
 o 136 (.bin .xor (.t 133) (.t 135)),
 o 137 (.mv (.t 15)),
 o 138 (.call n_ref02_turn [.t 137, .c (.int .i64 22)]),
 o 139 (.bin .xor (.t 136) (.t 138)),
 o 140 (.mv (.t 15)),
 o 141 (.mv (.t 12)),
 o 142 (.iaddr 1 (.t 141) (.c (.int .i64 1))),
 o 143 (.load 1 false (.t 142)),
 o 144 (.bin .and (.t 140) (.t 143)),
 o 145 (.mv (.t 15)),
 o 146 (.mv (.t 12)),
 o 147 (.iaddr 1 (.t 146) (.c (.int .i64 2))),
 o 148 (.load 1 false (.t 147)),
 o 149 (.bin .and (.t 145) (.t 148)),
 o 150 (.bin .or (.t 144) (.t 149)),
 o 151 (.mv (.t 12)),
 o 152 (.iaddr 1 (.t 151) (.c (.int .i64 1))),
 o 153 (.load 1 false (.t 152)),
 o 154 (.mv (.t 12)),
 o 155 (.iaddr 1 (.t 154) (.c (.int .i64 2))),
 o 156 (.load 1 false (.t 155)),
 o 157 (.bin .and (.t 153) (.t 156)),
 o 158 (.bin .or (.t 150) (.t 157)),
 o 159 (.bin .add (.t 139) (.t 158)),
 o 17 (.mv (.t 159))] [0, 1, 7, 12, 13, 16, 17]) (
.reg (some 28) [
 o 160 (.mv (.t 16)),
 o 161 (.mv (.t 17)),
 o 162 (.bin .add (.t 160) (.t 161)),
 o 163 (.mv (.t 12)),
 o 164 (.iaddr 1 (.t 163) (.c (.int .i64 0))),
 o 165 (.load 1 false (.t 164)),
 o 166 (.mv (.t 12)),
 o 167 (.iaddr 1 (.t 166) (.c (.int .i64 1))),
 o 168 (.load 1 false (.t 167)),
 o 169 (.mv (.t 12)),
 o 170 (.iaddr 1 (.t 169) (.c (.int .i64 2))),
 o 171 (.load 1 false (.t 170)),
 o 172 (.mv (.t 12)),
 o 173 (.iaddr 1 (.t 172) (.c (.int .i64 3))),
 o 174 (.load 1 false (.t 173)),
 o 175 (.mv (.t 16)),
 o 176 (.bin .add (.t 174) (.t 175)),
 o 177 (.mv (.t 12)),
 o 178 (.iaddr 1 (.t 177) (.c (.int .i64 4))),
 o 179 (.load 1 false (.t 178)),
 o 180 (.mv (.t 12)),
 o 181 (.iaddr 1 (.t 180) (.c (.int .i64 5))),
 o 182 (.load 1 false (.t 181)),
 o 183 (.mv (.t 12)),
 o 184 (.iaddr 1 (.t 183) (.c (.int .i64 6))),
 o 185 (.load 1 false (.t 184)),
 o 186 (.lit 1 (.int .u32 0) 8 [(0, .t 162), (1, .t 165), (2, .t 168), (3, .t 171), (4, .t 176), (5, .t 179), (6, .t 182), (7, .t 185)]),
 o 12 (.mv (.t 186))] [0, 1, 7, 12, 13]))))) (
.reg none [
 o 89 (.mv (.t 13)),
 o 90 (.bin .add (.t 89) (.c (.int .i64 1))),
 o 13 (.mv (.t 90))] [0, 1, 7, 12, 13])))))))) (
.seq (.reg none [
 o 187 (.lit 1 (.int .u32 0) 0 []),
 o 18 (.mv (.t 187))] [0, 12, 18]) (
.seq (.seq (.reg none [
 o 19 (.mv (.c (.int .i64 0)))] [0, 12, 18, 19]) (
.block 6 (
.wk (.loop (.wk (
.seq (.seq (.reg none [
 o 188 (.mv (.t 19)),
 o 189 (.bin .lss (.t 188) (.c (.int .i64 8)))] [0, 12, 18, 19, 189]) (
.cond (.t 189) (.skip) (
.exit 6))) (
.seq (.block 7 (
.reg (some 11) [
 o 192 (.mv (.t 18)),
 o 193 (.mv (.t 0)),
 o 194 (.mv (.t 19)),
 o 195 (.iaddr 1 (.t 193) (.t 194)),
 o 196 (.load 1 false (.t 195)),
 o 197 (.mv (.t 12)),
 o 198 (.mv (.t 19)),
 o 199 (.iaddr 1 (.t 197) (.t 198)),
 o 200 (.load 1 false (.t 199)),
 o 201 (.bin .add (.t 196) (.t 200)),
 o 202 (.lit 1 (.int .u32 0) 1 [(0, .t 201)]),
 o 203 (.append 1 4 (.t 192) (.t 202)),
 o 18 (.mv (.t 203))] [0, 12, 18, 19])) (
.reg none [
 o 190 (.mv (.t 19)),
 o 191 (.bin .add (.t 190) (.c (.int .i64 1))),
 o 19 (.mv (.t 191))] [0, 12, 18, 19])))))))) (
.seq (.reg none [
 o 204 (.mv (.t 18)),
 o 6 (.mv (.t 204))] [6]) (
.ret))))))))))
def r_ref02_one : List RD := [.tmp 6]
theorem k_ref02_one : chkFn Pg n_ref02_one c_ref02_one r_ref02_one 3 = true := by kernel_rfl
/-- quitclaim/quitclaimref04.Put -/
def c_ref04_Put : CC :=
.seq (.reg none [
 o 3 (.box (.t 1)),
 o 4 (.mv (.c (.sl 32 [] .full)))] [0, 3]) (
.seq (.seq (.reg none [
 o 8 (.mv (.t 0)),
 o 9 (.load 32 true (.t 3)),
 o 10 (.call n_ref04_Has [.t 8, .t 9])] [0, 3, 10]) (
.cond (.t 10) (.seq (.reg none [
 o 11 (.mv (.t 0)),
 o 4 (.mv (.t 11))] [4]) (
.ret)) (
.skip))) (
.seq (.reg none [
 o 12 (.lit 32 (.agg [.int .u8 0, .int .u8 0, .int .u8 0, .int .u8 0, .int .u8 0, .int .u8 0, .int .u8 0, .int .u8 0, .int .u8 0, .int .u8 0, .int .u8 0, .int .u8 0, .int .u8 0, .int .u8 0, .int .u8 0, .int .u8 0, .int .u8 0, .int .u8 0, .int .u8 0, .int .u8 0, .int .u8 0, .int .u8 0, .int .u8 0, .int .u8 0, .int .u8 0, .int .u8 0, .int .u8 0, .int .u8 0, .int .u8 0, .int .u8 0, .int .u8 0, .int .u8 0]) 0 []),
 o 5 (.mv (.t 12))] [0, 3, 5]) (
.seq (.reg none [
 o 6 (.mv (.c (.bool false)))] [0, 3, 5, 6]) (
.seq (.seq (.reg none [
 o 7 (.mv (.c (.int .i64 0)))] [0, 3, 5, 6, 7]) (
.block 0 (
.wk (.loop (.wk (
.seq (.seq (.reg none [
 o 13 (.mv (.t 7)),
 o 14 (.mv (.t 0)),
 o 15 (.len 1 (.t 14)),
 o 16 (.bin .lss (.t 13) (.t 15))] [0, 3, 5, 6, 7, 16]) (
.cond (.t 16) (.skip) (
.exit 0))) (
.seq (.block 1 (
.seq (.seq (.reg (some 10) [
 o 19 (.mv (.t 6)),
 o 20 (.not (.t 19)),
 o 21 (.mv (.t 20)),
 g 22 (.load 32 true (.t 3)) 21 true,
 g 23 (.mv (.t 0)) 21 true,
 g 24 (.mv (.t 7)) 21 true,
 g 25 (.iaddr 32 (.t 23) (.t 24)) 21 true,
 g 26 (.load 32 true (.t 25)) 21 true,
 g 27 (.call n_ref04_Less [.t 22, .t 26]) 21 true,
 o 28 (.pick (.t 21) (.t 27) (.c (.bool false)))] [0, 3, 5, 6, 7, 28]) (
.cond (.t 28) (.seq (.reg none [
 o 29 (.mv (.t 5)),
 o 30 (.load 32 true (.t 3)),
 o 31 (.lit 32 (.agg [.int .u8 0, .int .u8 0, .int .u8 0, .int .u8 0, .int .u8 0, .int .u8 0, .int .u8 0, .int .u8 0, .int .u8 0, .int .u8 0, .int .u8 0, .int .u8 0, .int .u8 0, .int .u8 0, .int .u8 0, .int .u8 0, .int .u8 0, .int .u8 0, .int .u8 0, .int .u8 0, .int .u8 0, .int .u8 0, .int .u8 0, .int .u8 0, .int .u8 0, .int .u8 0, .int .u8 0, .int .u8 0, .int .u8 0, .int .u8 0, .int .u8 0, .int .u8 0]) 1 [(0, .t 30)]),
 o 32 (.append 32 32 (.t 29) (.t 31)),
 o 5 (.mv (.t 32))] [0, 3, 5, 7]) (
.reg none [
 o 6 (.mv (.c (.bool true)))] [0, 3, 5, 6, 7])) (
.skip))) (
.reg none [
 o 33 (.mv (.t 5)),
 o 34 (.mv (.t 0)),
 o 35 (.mv (.t 7)),
 o 36 (.iaddr 32 (.t 34) (.t 35)),
 o 37 (.load 32 true (.t 36)),
 o 38 (.lit 32 (.agg [.int .u8 0, .int .u8 0, .int .u8 0, .int .u8 0, .int .u8 0, .int .u8 0, .int .u8 0, .int .u8 0, .int .u8 0, .int .u8 0, .int .u8 0, .int .u8 0, .int .u8 0, .int .u8 0, .int .u8 0, .int .u8 0, .int .u8 0, .int .u8 0, .int .u8 0, .int .u8 0, .int .u8 0, .int .u8 0, .int .u8 0, .int .u8 0, .int .u8 0, .int .u8 0, .int .u8 0, .int .u8 0, .int .u8 0, .int .u8 0, .int .u8 0, .int .u8 0]) 1 [(0, .t 37)]),
 o 39 (.append 32 32 (.t 33) (.t 38)),
 o 5 (.mv (.t 39))] [0, 3, 5, 6, 7]))) (
.reg none [
 o 17 (.mv (.t 7)),
 o 18 (.bin .add (.t 17) (.c (.int .i64 1))),
 o 7 (.mv (.t 18))] [0, 3, 5, 6, 7])))))))) (
.seq (.seq (.reg none [
 o 40 (.mv (.t 6)),
 o 41 (.not (.t 40))] [3, 5, 41]) (
.cond (.t 41) (.reg none [
 o 42 (.mv (.t 5)),
 o 43 (.load 32 true (.t 3)),
 o 44 (.lit 32 (.agg [.int .u8 0, .int .u8 0, .int .u8 0, .int .u8 0, .int .u8 0, .int .u8 0, .int .u8 0, .int .u8 0, .int .u8 0, .int .u8 0, .int .u8 0, .int .u8 0, .int .u8 0, .int .u8 0, .int .u8 0, .int .u8 0, .int .u8 0, .int .u8 0, .int .u8 0, .int .u8 0, .int .u8 0, .int .u8 0, .int .u8 0, .int .u8 0, .int .u8 0, .int .u8 0, .int .u8 0, .int .u8 0, .int .u8 0, .int .u8 0, .int .u8 0, .int .u8 0]) 1 [(0, .t 43)]),
 o 45 (.append 32 32 (.t 42) (.t 44)),
 o 5 (.mv (.t 45))] [5]) (
.skip))) (
.seq (.reg none [
 o 46 (.mv (.t 5)),
 o 4 (.mv (.t 46))] [4]) (
.ret)))))))
def r_ref04_Put : List RD := [.tmp 4]
theorem k_ref04_Put : chkFn Pg n_ref04_Put c_ref04_Put r_ref04_Put 2 = true := by kernel_rfl
/-- quitclaim/quitclaimref05.Ids -/
def c_ref05_Ids : CC :=
.seq (.reg none [
 o 2 (.mv (.c (.str [])))] [0]) (
.seq (.reg none [
 o 3 (.mv (.t 0)),
 o 4 (.len 1 (.t 3)),
 o 5 (.call n_ref05_Num [.t 4]),
 o 6 (.mv (.t 0)),
 o 7 (.call n_ref03_All [.t 6]),
 o 8 (.bin .add (.t 5) (.t 7)),
 o 2 (.mv (.t 8))] [2]) (
.ret))
def r_ref05_Ids : List RD := [.tmp 2]
theorem k_ref05_Ids : chkFn Pg n_ref05_Ids c_ref05_Ids r_ref05_Ids 1 = true := by kernel_rfl
/-- quitclaim/quitclaimref05.Text -/
def c_ref05_Text : CC :=
.seq (.reg none [
 o 2 (.mv (.c (.str [])))] [0]) (
.seq (.reg none [
 o 3 (.mv (.t 0)),
 o 4 (.len 0 (.t 3)),
 o 5 (.call n_ref05_Num [.t 4]),
 o 6 (.mv (.t 0)),
 o 7 (.bin .add (.t 5) (.t 6)),
 o 2 (.mv (.t 7))] [2]) (
.ret))
def r_ref05_Text : List RD := [.tmp 2]
theorem k_ref05_Text : chkFn Pg n_ref05_Text c_ref05_Text r_ref05_Text 1 = true := by kernel_rfl
/-- quitclaim/quitclaimref10.Part -/
def c_ref10_Part : CC :=
.seq (.reg none [
 o 2 (.mv (.c (.bool false)))] [0]) (
.seq (.seq (.reg none [
 o 4 (.mv (.t 0)),
 o 5 (.len 0 (.t 4)),
 o 6 (.bin .eql (.t 5) (.c (.int .i64 0))),
 o 7 (.mv (.t 6)),
 g 8 (.mv (.t 0)) 7 false,
 g 9 (.bin .eql (.t 8) (.c (.str [46]))) 7 false,
 o 10 (.pick (.t 7) (.c (.bool true)) (.t 9)),
 o 11 (.mv (.t 10)),
 g 12 (.mv (.t 0)) 11 false,
 g 13 (.bin .eql (.t 12) (.c (.str [46, 46]))) 11 false,
 o 14 (.pick (.t 11) (.c (.bool true)) (.t 13))] [0, 14]) (
.cond (.t 14) (.seq (.reg none [
 o 2 (.mv (.c (.bool false)))] [2]) (
.ret)) (
.skip))) (
.seq (.seq (.reg none [
 o 3 (.mv (.c (.int .i64 0)))] [0, 3]) (
.block 0 (
.wk (.loop (.wk (
.seq (.seq (.reg none [
 o 15 (.mv (.t 3)),
 o 16 (.mv (.t 0)),
 o 17 (.len 0 (.t 16)),
 o 18 (.bin .lss (.t 15) (.t 17))] [0, 3, 18]) (
.cond (.t 18) (.skip) (
.exit 0))) (
.seq (.block 1 (
.seq (.reg none [
 o 21 (.mv (.t 0)),
 o 22 (.mv (.t 3)),
 o 23 (.idxS (.t 21) (.t 22)),
 o 24 (.call n_ref10_letter [.t 23]),
 o 25 (.not (.t 24))] [0, 3, 25]) (
.cond (.t 25) (.seq (.reg none [
 o 2 (.mv (.c (.bool false)))] [2]) (
.ret)) (
.skip)))) (
.reg none [
 o 19 (.mv (.t 3)),
 o 20 (.bin .add (.t 19) (.c (.int .i64 1))),
 o 3 (.mv (.t 20))] [0, 3])))))))) (
.seq (.reg none [
 o 2 (.mv (.c (.bool true)))] [2]) (
.ret))))
def r_ref10_Part : List RD := [.tmp 2]
theorem k_ref10_Part : chkFn Pg n_ref10_Part c_ref10_Part r_ref10_Part 1 = true := by kernel_rfl
/-- quitclaim/quitclaimref13.only -/
def c_ref13_only : CC :=
.seq (.reg none [
 o 2 (.box (.t 0)),
 o 4 (.mv (.c (.bool false)))] [1, 2]) (
.seq (.regm [
 q 0 1 (o 10 (.faddr 2 2 (.t 2))),
 q 0 1 (o 11 (.load 1 false (.t 10))),
 q 0 1 (o 12 (.bin .neq (.t 11) (.c (.str [])))),
 q 0 1 (o 13 (.faddr 3 3 (.t 2))),
 q 0 1 (o 14 (.load 1 false (.t 13))),
 q 0 1 (o 15 (.bin .neq (.t 14) (.c (.int .i64 0)))),
 q 0 1 (o 16 (.faddr 4 4 (.t 2))),
 q 0 1 (o 17 (.load 1 false (.t 16))),
 q 0 1 (o 18 (.len 1 (.t 17))),
 q 0 1 (o 19 (.bin .gtr (.t 18) (.c (.int .i64 0)))),
 q 0 1 (o 20 (.faddr 5 5 (.t 2))),
 q 0 1 (o 21 (.load 1 false (.t 20))),
 q 0 1 (o 22 (.len 1 (.t 21))),
 q 0 1 (o 23 (.bin .gtr (.t 22) (.c (.int .i64 0)))),
 q 0 1 (o 24 (.faddr 6 6 (.t 2))),
 q 0 1 (o 25 (.load 32 true (.t 24))),
 q 0 1 (o 26 (.build [.int .u8 0, .int .u8 0, .int .u8 0, .int .u8 0, .int .u8 0, .int .u8 0, .int .u8 0, .int .u8 0, .int .u8 0, .int .u8 0, .int .u8 0, .int .u8 0, .int .u8 0, .int .u8 0, .int .u8 0, .int .u8 0, .int .u8 0, .int .u8 0, .int .u8 0, .int .u8 0, .int .u8 0, .int .u8 0, .int .u8 0, .int .u8 0, .int .u8 0, .int .u8 0, .int .u8 0, .int .u8 0, .int .u8 0, .int .u8 0, .int .u8 0, .int .u8 0] [])),
 q 0 1 (o 27 (.eqv (.arr 32 (.int .u8)) true (.t 25) (.t 26))),
 q 0 1 (o 28 (.faddr 7 38 (.t 2))),
 q 0 1 (o 29 (.load 1 false (.t 28))),
 q 0 1 (o 30 (.bin .neq (.t 29) (.c (.int .i64 0)))),
 q 0 1 (o 31 (.build [.bool false, .bool false, .bool false, .bool false, .bool false, .bool false] [(0, .t 12), (1, .t 15), (2, .t 19), (3, .t 23), (4, .t 27), (5, .t 30)])),
 f (o 5 (.alloc (.agg [.bool false, .bool false, .bool false, .bool false, .bool false, .bool false]))),
 f (e (.store 6 (.t 5) (.t 31)))] [1, 5]) (
.seq (.reg none [
 o 6 (.mv (.c (.str [84, 65, 79, 78, 75, 68])))] [1, 5, 6]) (
.seq (.seq (.reg none [
 o 7 (.mv (.c (.int .i64 0)))] [1, 5, 6, 7]) (
.block 0 (
.wk (.loop (.wk (
.seq (.seq (.reg none [
 o 32 (.mv (.t 7)),
 o 33 (.bin .lss (.t 32) (.c (.int .i64 6)))] [1, 5, 6, 7, 33]) (
.cond (.t 33) (.skip) (
.exit 0))) (
.seq (.block 1 (
.seq (.reg none [
 o 8 (.mv (.c (.bool false)))] [1, 5, 6, 7, 8]) (
.seq (.seq (.reg none [
 o 9 (.mv (.c (.int .i64 0)))] [1, 5, 6, 7, 8, 9]) (
.block 2 (
.wk (.loop (.wk (
.seq (.seq (.reg none [
 o 36 (.mv (.t 9)),
 o 37 (.mv (.t 1)),
 o 38 (.len 0 (.t 37)),
 o 39 (.bin .lss (.t 36) (.t 38))] [1, 5, 6, 7, 8, 9, 39]) (
.cond (.t 39) (.skip) (
.exit 2))) (
.seq (.block 3 (
.reg (some 11) [
 o 42 (.mv (.t 8)),
 o 43 (.mv (.t 42)),
 g 44 (.mv (.t 1)) 43 false,
 g 45 (.mv (.t 9)) 43 false,
 g 46 (.idxS (.t 44) (.t 45)) 43 false,
 g 47 (.mv (.t 6)) 43 false,
 g 48 (.mv (.t 7)) 43 false,
 g 49 (.idxS (.t 47) (.t 48)) 43 false,
 g 50 (.bin .eql (.t 46) (.t 49)) 43 false,
 o 51 (.pick (.t 43) (.c (.bool true)) (.t 50)),
 o 8 (.mv (.t 51))] [1, 5, 6, 7, 8, 9])) (
.reg none [
 o 40 (.mv (.t 9)),
 o 41 (.bin .add (.t 40) (.c (.int .i64 1))),
 o 9 (.mv (.t 41))] [1, 5, 6, 7, 8, 9])))))))) (
.seq (.reg none [
 o 52 (.mv (.t 7)),
 o 53 (.iaddrA 6 1 (.t 5) (.t 52)),
 o 54 (.load 1 false (.t 53)),
 o 55 (.mv (.t 54)),
 g 56 (.mv (.t 8)) 55 true,
 g 57 (.not (.t 56)) 55 true,
 o 58 (.pick (.t 55) (.t 57) (.c (.bool false)))] [1, 5, 6, 7, 58]) (
.cond (.t 58) (.seq (.reg none [
 o 4 (.mv (.c (.bool false)))] [4]) (
.ret)) (
.skip)))))) (
.reg none [
 o 34 (.mv (.t 7)),
 o 35 (.bin .add (.t 34) (.c (.int .i64 1))),
 o 7 (.mv (.t 35))] [1, 5, 6, 7])))))))) (
.seq (.reg none [
 o 4 (.mv (.c (.bool true)))] [4]) (
.ret)))))
def r_ref13_only : List RD := [.tmp 4]
theorem k_ref13_only : chkFn Pg n_ref13_only c_ref13_only r_ref13_only 2 = true := by kernel_rfl
/-- quitclaim/quitclaimref15.Written -/
def c_ref15_Written : CC :=
.seq (.reg none [
 o 1 (.box (.t 0)),
 o 2 (.mv (.c (.bool false)))] [1]) (
.seq (.reg none [
 o 3 (.faddr 1 1 (.t 1)),
 o 4 (.load 1 false (.t 3)),
 o 5 (.len 1 (.t 4)),
 o 6 (.bin .leq (.t 5) (.c (.int .i64 256))),
 o 7 (.mv (.t 6)),
 g 8 (.faddr 2 2 (.t 1)) 7 true,
 g 9 (.load 1 false (.t 8)) 7 true,
 g 10 (.len 1 (.t 9)) 7 true,
 g 11 (.bin .leq (.t 10) (.c (.int .i64 256))) 7 true,
 o 12 (.pick (.t 7) (.t 11) (.c (.bool false))),
 o 13 (.mv (.t 12)),
 g 14 (.faddr 3 3 (.t 1)) 13 true,
 g 15 (.load 1 false (.t 14)) 13 true,
 g 16 (.len 1 (.t 15)) 13 true,
 g 17 (.bin .leq (.t 16) (.c (.int .i64 10))) 13 true,
 o 18 (.pick (.t 13) (.t 17) (.c (.bool false))),
 o 19 (.mv (.t 18)),
 g 20 (.faddr 0 0 (.t 1)) 19 true,
 g 21 (.load 1 false (.t 20)) 19 true,
 g 22 (.bin .geq (.t 21) (.c (.int .i64 0))) 19 true,
 o 23 (.pick (.t 19) (.t 22) (.c (.bool false))),
 o 24 (.mv (.t 23)),
 g 25 (.faddr 0 0 (.t 1)) 24 true,
 g 26 (.load 1 false (.t 25)) 24 true,
 g 27 (.bin .leq (.t 26) (.c (.int .i64 4611686018427387904))) 24 true,
 o 28 (.pick (.t 24) (.t 27) (.c (.bool false))),
 o 2 (.mv (.t 28))] [2]) (
.ret))
def r_ref15_Written : List RD := [.tmp 2]
theorem k_ref15_Written : chkFn Pg n_ref15_Written c_ref15_Written r_ref15_Written 1 = true := by kernel_rfl
/-- quitclaim/quitclaimref18.Nodes -/
def c_ref18_Nodes : CC :=
.seq (.reg none [
 o 2 (.mv (.c (.sl 33 [] .full)))] [0]) (
.seq (.reg none [
 o 5 (.lit 33 (.agg [.agg [.int .u8 0, .int .u8 0, .int .u8 0, .int .u8 0, .int .u8 0, .int .u8 0, .int .u8 0, .int .u8 0, .int .u8 0, .int .u8 0, .int .u8 0, .int .u8 0, .int .u8 0, .int .u8 0, .int .u8 0, .int .u8 0, .int .u8 0, .int .u8 0, .int .u8 0, .int .u8 0, .int .u8 0, .int .u8 0, .int .u8 0, .int .u8 0, .int .u8 0, .int .u8 0, .int .u8 0, .int .u8 0, .int .u8 0, .int .u8 0, .int .u8 0, .int .u8 0], .sl 32 [] .full]) 0 []),
 o 3 (.mv (.t 5))] [0, 3]) (
.seq (.seq (.reg none [
 o 4 (.mv (.c (.int .i64 0)))] [0, 3, 4]) (
.block 0 (
.wk (.loop (.wk (
.seq (.seq (.reg none [
 o 6 (.mv (.t 4)),
 o 7 (.mv (.t 0)),
 o 8 (.len 1 (.t 7)),
 o 9 (.bin .lss (.t 6) (.t 8))] [0, 3, 4, 9]) (
.cond (.t 9) (.skip) (
.exit 0))) (
.seq (.block 1 (
.reg (some 14) [
 o 12 (.mv (.t 3)),
 o 13 (.mv (.t 0)),
 o 14 (.mv (.t 4)),
 o 15 (.iaddr 71 (.t 13) (.t 14)),
 o 16 (.faddr 0 0 (.t 15)),
 o 17 (.load 32 true (.t 16)),
 o 18 (.mv (.t 0)),
 o 19 (.mv (.t 4)),
 o 20 (.iaddr 71 (.t 18) (.t 19)),
 o 21 (.faddr 1 32 (.t 20)),
 o 22 (.faddr 0 0 (.t 21)),
 o 23 (.load 1 false (.t 22)),
 o 24 (.build [.agg [.int .u8 0, .int .u8 0, .int .u8 0, .int .u8 0, .int .u8 0, .int .u8 0, .int .u8 0, .int .u8 0, .int .u8 0, .int .u8 0, .int .u8 0, .int .u8 0, .int .u8 0, .int .u8 0, .int .u8 0, .int .u8 0, .int .u8 0, .int .u8 0, .int .u8 0, .int .u8 0, .int .u8 0, .int .u8 0, .int .u8 0, .int .u8 0, .int .u8 0, .int .u8 0, .int .u8 0, .int .u8 0, .int .u8 0, .int .u8 0, .int .u8 0, .int .u8 0], .sl 32 [] .full] [(0, .t 17), (1, .t 23)]),
 o 25 (.lit 33 (.agg [.agg [.int .u8 0, .int .u8 0, .int .u8 0, .int .u8 0, .int .u8 0, .int .u8 0, .int .u8 0, .int .u8 0, .int .u8 0, .int .u8 0, .int .u8 0, .int .u8 0, .int .u8 0, .int .u8 0, .int .u8 0, .int .u8 0, .int .u8 0, .int .u8 0, .int .u8 0, .int .u8 0, .int .u8 0, .int .u8 0, .int .u8 0, .int .u8 0, .int .u8 0, .int .u8 0, .int .u8 0, .int .u8 0, .int .u8 0, .int .u8 0, .int .u8 0, .int .u8 0], .sl 32 [] .full]) 1 [(0, .t 24)]),
 o 26 (.append 33 56 (.t 12) (.t 25)),
 o 3 (.mv (.t 26))] [0, 3, 4])) (
.reg none [
 o 10 (.mv (.t 4)),
 o 11 (.bin .add (.t 10) (.c (.int .i64 1))),
 o 4 (.mv (.t 11))] [0, 3, 4])))))))) (
.seq (.reg none [
 o 27 (.mv (.t 3)),
 o 2 (.mv (.t 27))] [2]) (
.ret))))
def r_ref18_Nodes : List RD := [.tmp 2]
theorem k_ref18_Nodes : chkFn Pg n_ref18_Nodes c_ref18_Nodes r_ref18_Nodes 1 = true := by kernel_rfl
/-- quitclaim/sha.New -/
def c_sha_New : CC :=
.seq (.reg none [
 o 0 (.mv (.c (.nilp)))] []) (
.seq (.reg none [
 o 1 (.call n_sha_begin []),
 o 2 (.build [.agg [.int .u32 0, .int .u32 0, .int .u32 0, .int .u32 0, .int .u32 0, .int .u32 0, .int .u32 0, .int .u32 0], .str [], .int .i64 0] [(0, .t 1)]),
 o 3 (.box (.t 2)),
 o 0 (.mv (.t 3))] [0]) (
.ret))
def r_sha_New : List RD := [.tmp 0]
theorem k_sha_New : chkFn Pg n_sha_New c_sha_New r_sha_New 0 = true := by kernel_rfl
/-- slices.EqualFunc[[]quitclaim/api.Op,[]quitclaim/api.Op,quitclaim/api.Op,quitclaim/api.Op] -/
def c_slices_EqualFunc_Op : CC :=
.seq (.reg none [
 o 6 (.mv (.c (.bool false)))] [0, 1, 2]) (
.seq (.seq (.reg none [
 o 10 (.mv (.t 0)),
 o 11 (.len 1 (.t 10)),
 o 12 (.mv (.t 1)),
 o 13 (.len 1 (.t 12)),
 o 14 (.bin .neq (.t 11) (.t 13))] [0, 1, 2, 14]) (
.cond (.t 14) (.seq (.reg none [
 o 6 (.mv (.c (.bool false)))] [6]) (
.ret)) (
.skip))) (
.seq (.seq (.reg none [
 o 15 (.mv (.t 0)),
 o 16 (.len 1 (.t 15)),
 o 17 (.mv (.c (.int .i64 0)))] [1, 2, 15, 16, 17]) (
.block 0 (
.wk (.loop (.wk (
.seq (.reg none [
 o 18 (.bin .lss (.t 17) (.t 16))] [1, 2, 15, 16, 17, 18]) (
.seq (.cond (.t 18) (.skip) (
.exit 0)) (
.seq (.block 1 (
.seq (.reg none [
 o 19 (.mv (.t 17)),
 o 20 (.iaddr 39 (.t 15) (.t 17)),
 o 21 (.load 39 true (.t 20)),
 o 8 (.alloc (.agg [.int .i64 0, .str [], .str [], .int .i64 0, .sl 1 [] .full, .sl 1 [] .full, .agg [.int .u8 0, .int .u8 0, .int .u8 0, .int .u8 0, .int .u8 0, .int .u8 0, .int .u8 0, .int .u8 0, .int .u8 0, .int .u8 0, .int .u8 0, .int .u8 0, .int .u8 0, .int .u8 0, .int .u8 0, .int .u8 0, .int .u8 0, .int .u8 0, .int .u8 0, .int .u8 0, .int .u8 0, .int .u8 0, .int .u8 0, .int .u8 0, .int .u8 0, .int .u8 0, .int .u8 0, .int .u8 0, .int .u8 0, .int .u8 0, .int .u8 0, .int .u8 0], .int .i64 0])),
 o 7 (.mv (.t 19)),
 e (.store 39 (.t 8) (.t 21))] [1, 2, 7, 8, 15, 16, 17]) (
.seq (.reg none [
 o 22 (.mv (.t 1)),
 o 23 (.mv (.t 7)),
 o 24 (.iaddr 39 (.t 22) (.t 23)),
 o 25 (.load 39 true (.t 24)),
 o 9 (.alloc (.agg [.int .i64 0, .str [], .str [], .int .i64 0, .sl 1 [] .full, .sl 1 [] .full, .agg [.int .u8 0, .int .u8 0, .int .u8 0, .int .u8 0, .int .u8 0, .int .u8 0, .int .u8 0, .int .u8 0, .int .u8 0, .int .u8 0, .int .u8 0, .int .u8 0, .int .u8 0, .int .u8 0, .int .u8 0, .int .u8 0, .int .u8 0, .int .u8 0, .int .u8 0, .int .u8 0, .int .u8 0, .int .u8 0, .int .u8 0, .int .u8 0, .int .u8 0, .int .u8 0, .int .u8 0, .int .u8 0, .int .u8 0, .int .u8 0, .int .u8 0, .int .u8 0], .int .i64 0])),
 e (.store 39 (.t 9) (.t 25))] [1, 2, 8, 9, 15, 16, 17]) (
.seq (.reg none [
 o 26 (.mv (.t 2)),
 o 27 (.load 39 true (.t 8)),
 o 28 (.load 39 true (.t 9)),
 o 29 (.callv (.t 26) [.t 27, .t 28]),
 o 30 (.not (.t 29))] [1, 2, 15, 16, 17, 30]) (
.cond (.t 30) (.seq (.reg none [
 o 6 (.mv (.c (.bool false)))] [6]) (
.ret)) (
.skip)))))) (
.reg none [
 o 31 (.bin .add (.t 17) (.c (.int .i64 1))),
 o 17 (.mv (.t 31))] [1, 2, 15, 16, 17]))))))))) (
.seq (.reg none [
 o 6 (.mv (.c (.bool true)))] [6]) (
.ret))))
def r_slices_EqualFunc_Op : List RD := [.tmp 6]
theorem k_slices_EqualFunc_Op : chkFn Pg n_slices_EqualFunc_Op c_slices_EqualFunc_Op r_slices_EqualFunc_Op 3 = true := by kernel_rfl
/-- slices.IndexFunc[[]string,string] -/
def c_slices_IndexFunc_string : CC :=
.seq (.reg none [
 o 4 (.mv (.c (.int .i64 0)))] [0, 1]) (
.seq (.seq (.reg none [
 o 6 (.mv (.t 0)),
 o 7 (.len 1 (.t 6)),
 o 8 (.mv (.c (.int .i64 0)))] [0, 1, 7, 8]) (
.block 0 (
.wk (.loop (.wk (
.seq (.reg none [
 o 9 (.bin .lss (.t 8) (.t 7))] [0, 1, 7, 8, 9]) (
.seq (.cond (.t 9) (.skip) (
.exit 0)) (
.seq (.block 1 (
.seq (.reg none [
 o 10 (.mv (.t 8)),
 o 5 (.mv (.t 10))] [0, 1, 5, 7, 8]) (
.seq (.reg none [
 o 11 (.mv (.t 1)),
 o 12 (.mv (.t 0)),
 o 13 (.mv (.t 5)),
 o 14 (.iaddr 1 (.t 12) (.t 13)),
 o 15 (.load 1 false (.t 14)),
 o 16 (.callv (.t 11) [.t 15])] [0, 1, 5, 7, 8, 16]) (
.cond (.t 16) (.seq (.reg none [
 o 17 (.mv (.t 5)),
 o 4 (.mv (.t 17))] [4]) (
.ret)) (
.skip))))) (
.reg none [
 o 18 (.bin .add (.t 8) (.c (.int .i64 1))),
 o 8 (.mv (.t 18))] [0, 1, 7, 8]))))))))) (
.seq (.reg none [
 o 4 (.mv (.c (.int .i64 (-1))))] [4]) (
.ret)))
def r_slices_IndexFunc_string : List RD := [.tmp 4]
theorem k_slices_IndexFunc_string : chkFn Pg n_slices_IndexFunc_string c_slices_IndexFunc_string r_slices_IndexFunc_string 2 = true := by kernel_rfl
/-- slices.breakPatternsCmpFunc[quitclaim/api.Id] -/
def c_slices_breakPatternsCmpFunc_Id : CC :=
.seq (.reg none [
 o 13 (.mv (.t 2)),
 o 14 (.mv (.t 1)),
 o 15 (.bin .sub (.t 13) (.t 14)),
 o 8 (.mv (.t 15))] [0, 1, 8]) (
.seq (.reg none [
 o 16 (.mv (.t 8)),
 o 17 (.bin .geq (.t 16) (.c (.int .i64 8)))] [0, 1, 8, 17]) (
.cond (.t 17) (.seq (.reg none [
 o 18 (.mv (.t 8)),
 o 19 (.conv .u64 (.t 18)),
 o 9 (.alloc (.int .u64 0)),
 e (.store 1 (.t 9) (.t 19))] [0, 1, 8, 9]) (
.seq (.reg none [
 o 20 (.mv (.t 8)),
 o 21 (.call n_slices_nextPowerOfTwo [.t 20]),
 o 10 (.mv (.t 21))] [0, 1, 8, 9, 10]) (
.seq (.reg none [
 o 22 (.mv (.t 1)),
 o 23 (.mv (.t 8)),
 o 24 (.bin .quo (.t 23) (.c (.int .i64 4))),
 o 25 (.bin .mul (.t 24) (.c (.int .i64 2))),
 o 26 (.bin .add (.t 22) (.t 25)),
 o 27 (.bin .sub (.t 26) (.c (.int .i64 1))),
 o 11 (.mv (.t 27))] [0, 1, 8, 9, 10, 11]) (
.block 0 (
.wk (.loop (.wk (
.seq (.seq (.reg none [
 o 28 (.mv (.t 11)),
 o 29 (.mv (.t 1)),
 o 30 (.mv (.t 8)),
 o 31 (.bin .quo (.t 30) (.c (.int .i64 4))),
 o 32 (.bin .mul (.t 31) (.c (.int .i64 2))),
 o 33 (.bin .add (.t 29) (.t 32)),
 o 34 (.bin .add (.t 33) (.c (.int .i64 1))),
 o 35 (.bin .leq (.t 28) (.t 34))] [0, 1, 8, 9, 10, 11, 35]) (
.cond (.t 35) (.skip) (
.exit 0))) (
.seq (.block 1 (
.seq (.reg none [
 o 38 (.call n_slices_xorshift_Next [.t 9]),
 o 39 (.mv (.t 10)),
 o 40 (.bin .sub (.t 39) (.c (.int .u64 1))),
 o 41 (.bin .and (.t 38) (.t 40)),
 o 42 (.conv .i64 (.t 41)),
 o 12 (.mv (.t 42))] [0, 1, 8, 9, 10, 11, 12]) (
.seq (.seq (.reg none [
 o 43 (.mv (.t 12)),
 o 44 (.mv (.t 8)),
 o 45 (.bin .geq (.t 43) (.t 44))] [0, 1, 8, 9, 10, 11, 12, 45]) (
.cond (.t 45) (.reg none [
 o 46 (.mv (.t 12)),
 o 47 (.mv (.t 8)),
 o 48 (.bin .sub (.t 46) (.t 47)),
 o 12 (.mv (.t 48))] [0, 1, 8, 9, 10, 11, 12]) (
.skip))) (
.regm [
 q 0 0 (o 49 (.mv (.t 0))),
 q 0 0 (o 50 (.mv (.t 11))),
 q 0 1 (o 51 (.mv (.t 0))),
 q 0 1 (o 52 (.mv (.t 1))),
 q 0 1 (o 53 (.mv (.t 12))),
 q 0 1 (o 54 (.bin .add (.t 52) (.t 53))),
 q 0 0 (o 55 (.mv (.t 0))),
 q 0 0 (o 56 (.mv (.t 1))),
 q 0 0 (o 57 (.mv (.t 12))),
 q 0 0 (o 58 (.bin .add (.t 56) (.t 57))),
 q 0 0 (o 59 (.iaddr 32 (.t 55) (.t 58))),
 q 0 0 (o 60 (.load 32 true (.t 59))),
 q 0 1 (o 61 (.mv (.t 0))),
 q 0 1 (o 62 (.mv (.t 11))),
 q 0 1 (o 63 (.iaddr 32 (.t 61) (.t 62))),
 q 0 0 (o 64 (.load 32 true (.t 63))),
 q 0 0 (o 65 (.iaddr 32 (.t 49) (.t 50))),
 f (e (.store 32 (.t 65) (.t 60))),
 q 1 1 (o 66 (.iaddr 32 (.t 51) (.t 54))),
 f (e (.store 32 (.t 66) (.t 64)))] [0, 1, 8, 9, 10, 11])))) (
.reg none [
 o 36 (.mv (.t 11)),
 o 37 (.bin .add (.t 36) (.c (.int .i64 1))),
 o 11 (.mv (.t 37))] [0, 1, 8, 9, 10, 11])))))))))) (
.skip)))
def r_slices_breakPatternsCmpFunc_Id : List RD := []
theorem k_slices_breakPatternsCmpFunc_Id : chkFn Pg n_slices_breakPatternsCmpFunc_Id c_slices_breakPatternsCmpFunc_Id r_slices_breakPatternsCmpFunc_Id 4 = true := by kernel_rfl
/-- slices.order2CmpFunc[quitclaim/api.Id] -/
def c_slices_order2CmpFunc_Id : CC :=
.seq (.reg none [
 o 10 (.mv (.c (.int .i64 0))),
 o 11 (.mv (.c (.int .i64 0)))] [0, 1, 2, 3, 4]) (
.seq (.seq (.reg (some 11) [
 o 12 (.mv (.t 4)),
 o 13 (.mv (.t 0)),
 o 14 (.mv (.t 2)),
 o 15 (.iaddr 32 (.t 13) (.t 14)),
 o 16 (.load 32 true (.t 15)),
 o 17 (.mv (.t 0)),
 o 18 (.mv (.t 1)),
 o 19 (.iaddr 32 (.t 17) (.t 18)),
 o 20 (.load 32 true (.t 19)),
 o 21 (.callv (.t 12) [.t 16, .t 20]),
 o 22 (.bin .lss (.t 21) (.c (.int .i64 0)))] [1, 2, 3, 22]) (
.cond (.t 22) (.seq (.reg none [
 o 23 (.mv (.t 3)),
 o 24 (.nilchk (.t 23)),
 o 25 (.load 1 false (.t 24)),
 o 26 (.bin .add (.t 25) (.c (.int .i64 1))),
 o 27 (.nilchk (.t 23)),
 e (.store 1 (.t 27) (.t 26))] [1, 2]) (
.seq (.reg none [
 o 28 (.mv (.t 2)),
 o 29 (.mv (.t 1)),
 o 10 (.mv (.t 28)),
 o 11 (.mv (.t 29))] [10, 11]) (
.ret))) (
.skip))) (
.seq (.reg none [
 o 30 (.mv (.t 1)),
 o 31 (.mv (.t 2)),
 o 10 (.mv (.t 30)),
 o 11 (.mv (.t 31))] [10, 11]) (
.ret)))
def r_slices_order2CmpFunc_Id : List RD := [.tmp 10, .tmp 11]
theorem k_slices_order2CmpFunc_Id : chkFn Pg n_slices_order2CmpFunc_Id c_slices_order2CmpFunc_Id r_slices_order2CmpFunc_Id 5 = true := by kernel_rfl
/-- slices.reverseRangeCmpFunc[quitclaim/api.Id] -/
def c_slices_reverseRangeCmpFunc_Id : CC :=
.seq (.reg none [
 o 10 (.mv (.t 1)),
 o 8 (.mv (.t 10))] [0, 2, 8]) (
.seq (.reg none [
 o 11 (.mv (.t 2)),
 o 12 (.bin .sub (.t 11) (.c (.int .i64 1))),
 o 9 (.mv (.t 12))] [0, 8, 9]) (
.block 0 (
.wk (.loop (.wk (
.seq (.seq (.reg none [
 o 13 (.mv (.t 8)),
 o 14 (.mv (.t 9)),
 o 15 (.bin .lss (.t 13) (.t 14))] [0, 8, 9, 15]) (
.cond (.t 15) (.skip) (
.exit 0))) (
.block 1 (
.seq (.regm [
 q 0 0 (o 16 (.mv (.t 0))),
 q 0 0 (o 17 (.mv (.t 8))),
 q 0 1 (o 18 (.mv (.t 0))),
 q 0 1 (o 19 (.mv (.t 9))),
 q 0 0 (o 20 (.mv (.t 0))),
 q 0 0 (o 21 (.mv (.t 9))),
 q 0 0 (o 22 (.iaddr 32 (.t 20) (.t 21))),
 q 0 0 (o 23 (.load 32 true (.t 22))),
 q 0 1 (o 24 (.mv (.t 0))),
 q 0 1 (o 25 (.mv (.t 8))),
 q 0 1 (o 26 (.iaddr 32 (.t 24) (.t 25))),
 q 0 0 (o 27 (.load 32 true (.t 26))),
 q 0 0 (o 28 (.iaddr 32 (.t 16) (.t 17))),
 f (e (.store 32 (.t 28) (.t 23))),
 q 1 1 (o 29 (.iaddr 32 (.t 18) (.t 19))),
 f (e (.store 32 (.t 29) (.t 27)))] [0, 8, 9]) (
.seq (.reg none [
 o 30 (.mv (.t 8)),
 o 31 (.bin .add (.t 30) (.c (.int .i64 1))),
 o 8 (.mv (.t 31))] [0, 8, 9]) (
.reg none [
 o 32 (.mv (.t 9)),
 o 33 (.bin .sub (.t 32) (.c (.int .i64 1))),
 o 9 (.mv (.t 33))] [0, 8, 9]))))))))))
def r_slices_reverseRangeCmpFunc_Id : List RD := []
theorem k_slices_reverseRangeCmpFunc_Id : chkFn Pg n_slices_reverseRangeCmpFunc_Id c_slices_reverseRangeCmpFunc_Id r_slices_reverseRangeCmpFunc_Id 4 = true := by kernel_rfl
/-- strings.HasPrefix -/
def c_strings_HasPrefix : CC :=
.seq (.reg none [
 o 4 (.mv (.c (.bool false)))] [0, 1]) (
.seq (.reg none [
 o 5 (.mv (.t 0)),
 o 6 (.mv (.t 1)),
 o 7 (.call n_stringslite_HasPrefix [.t 5, .t 6]),
 o 4 (.mv (.t 7))] [4]) (
.ret))
def r_strings_HasPrefix : List RD := [.tmp 4]
theorem k_strings_HasPrefix : chkFn Pg n_strings_HasPrefix c_strings_HasPrefix r_strings_HasPrefix 2 = true := by kernel_rfl
/-- quitclaim/word.Left -/
def c_word_Left : CC :=
.seq (.reg none [
 o 4 (.mv (.c (.int .u32 0)))] [0, 1]) (
.seq (.reg none [
 o 6 (.mv (.t 1)),
 o 7 (.bin .and (.t 6) (.c (.int .i64 31))),
 o 5 (.mv (.t 7))] [0, 5]) (
.seq (.reg (some 9) [
 o 8 (.mv (.t 0)),
 o 9 (.mv (.t 5)),
 o 10 (.bin .shl (.t 8) (.t 9)),
 o 11 (.mv (.t 0)),
 o 12 (.mv (.t 5)),
 o 13 (.bin .sub (.c (.int .i64 32)) (.t 12)),
 o 14 (.bin .shr (.t 11) (.t 13)),
 o 15 (.bin .or (.t 10) (.t 14)),
 o 4 (.mv (.t 15))] [4]) (
.ret)))
def r_word_Left : List RD := [.tmp 4]
theorem k_word_Left : chkFn Pg n_word_Left c_word_Left r_word_Left 2 = true := by kernel_rfl
end Go.Abs
end
