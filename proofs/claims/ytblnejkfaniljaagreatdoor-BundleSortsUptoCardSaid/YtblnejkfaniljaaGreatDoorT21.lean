/-
  The abstract code of the program's functions, by program: part 4.
  Conditions: those that stand ahead of each theorem; no more.
-/
import Derived.Test.YtblnejkfaniljaaGreatDoorT16

section
namespace Go.Abs
open Go
/-- math/bits.Len32 -/
def c_bits_Len32 : CC :=
.seq (.reg none [
 o 2 (.mv (.c (.int .i64 0)))] [0, 2]) (
.seq (.seq (.reg none [
 o 3 (.mv (.t 0)),
 o 4 (.bin .geq (.t 3) (.c (.int .u32 65536)))] [0, 2, 4]) (
.cond (.t 4) (.seq (.reg none [
 o 5 (.mv (.t 0)),
 o 6 (.bin .shr (.t 5) (.c (.int .u64 16))),
 o 0 (.mv (.t 6))] [0]) (
.reg none [
 o 2 (.mv (.c (.int .i64 16)))] [0, 2])) (
.skip))) (
.seq (.seq (.reg none [
 o 7 (.mv (.t 0)),
 o 8 (.bin .geq (.t 7) (.c (.int .u32 256)))] [0, 2, 8]) (
.cond (.t 8) (.seq (.reg none [
 o 9 (.mv (.t 0)),
 o 10 (.bin .shr (.t 9) (.c (.int .u64 8))),
 o 0 (.mv (.t 10))] [0, 2]) (
.reg none [
 o 11 (.mv (.t 2)),
 o 12 (.bin .add (.t 11) (.c (.int .i64 8))),
 o 2 (.mv (.t 12))] [0, 2])) (
.skip))) (
.seq (.reg none [
 o 13 (.mv (.t 2)),
 o 14 (.mv (.t 0)),
 o 15 (.conv .u8 (.t 14)),
 o 16 (.idxS (.c (.str [0, 1, 2, 2, 3, 3, 3, 3, 4, 4, 4, 4, 4, 4, 4, 4, 5, 5, 5, 5, 5, 5, 5, 5, 5, 5, 5, 5, 5, 5, 5, 5, 6, 6, 6, 6, 6, 6, 6, 6, 6, 6, 6, 6, 6, 6, 6, 6, 6, 6, 6, 6, 6, 6, 6, 6, 6, 6, 6, 6, 6, 6, 6, 6, 7, 7, 7, 7, 7, 7, 7, 7, 7, 7, 7, 7, 7, 7, 7, 7, 7, 7, 7, 7, 7, 7, 7, 7, 7, 7, 7, 7, 7, 7, 7, 7, 7, 7, 7, 7, 7, 7, 7, 7, 7, 7, 7, 7, 7, 7, 7, 7, 7, 7, 7, 7, 7, 7, 7, 7, 7, 7, 7, 7, 7, 7, 7, 7, 8, 8, 8, 8, 8, 8, 8, 8, 8, 8, 8, 8, 8, 8, 8, 8, 8, 8, 8, 8, 8, 8, 8, 8, 8, 8, 8, 8, 8, 8, 8, 8, 8, 8, 8, 8, 8, 8, 8, 8, 8, 8, 8, 8, 8, 8, 8, 8, 8, 8, 8, 8, 8, 8, 8, 8, 8, 8, 8, 8, 8, 8, 8, 8, 8, 8, 8, 8, 8, 8, 8, 8, 8, 8, 8, 8, 8, 8, 8, 8, 8, 8, 8, 8, 8, 8, 8, 8, 8, 8, 8, 8, 8, 8, 8, 8, 8, 8, 8, 8, 8, 8, 8, 8, 8, 8, 8, 8, 8, 8, 8, 8, 8, 8, 8, 8, 8, 8, 8, 8, 8, 8, 8, 8, 8, 8, 8, 8])) (.t 15)),
 o 17 (.conv .i64 (.t 16)),
 o 18 (.bin .add (.t 13) (.t 17)),
 o 2 (.mv (.t 18))] [2]) (
.ret))))
def r_bits_Len32 : List RD := [.tmp 2]
theorem k_bits_Len32 : chkFn Pg n_bits_Len32 c_bits_Len32 r_bits_Len32 1 = true := by kernel_rfl
/-- internal/bytealg.hashStr[string] -/
def c_bytealg_hashStr_string : CC :=
.seq (.reg none [
 o 2 (.mv (.c (.int .u32 0))),
 o 3 (.mv (.c (.int .u32 0)))] [0]) (
.seq (.reg none [
 o 4 (.mv (.c (.int .u32 0)))] [0, 4]) (
.seq (.seq (.reg none [
 o 5 (.mv (.c (.int .i64 0)))] [0, 4, 5]) (
.block 0 (
.wk (.loop (.wk (
.seq (.seq (.reg none [
 o 9 (.mv (.t 5)),
 o 10 (.mv (.t 0)),
 o 11 (.len 0 (.t 10)),
 o 12 (.bin .lss (.t 9) (.t 11))] [0, 4, 5, 12]) (
.cond (.t 12) (.skip) (
.exit 0))) (
.seq (.block 1 (
.reg none [
 o 15 (.mv (.t 4)),
 o 16 (.bin .mul (.t 15) (.c (.int .u32 16777619))),
 o 17 (.mv (.t 0)),
 o 18 (.mv (.t 5)),
 o 19 (.idxS (.t 17) (.t 18)),
 o 20 (.conv .u32 (.t 19)),
 o 21 (.bin .add (.t 16) (.t 20)),
 o 4 (.mv (.t 21))] [0, 4, 5])) (
.reg none [
 o 13 (.mv (.t 5)),
 o 14 (.bin .add (.t 13) (.c (.int .i64 1))),
 o 5 (.mv (.t 14))] [0, 4, 5])))))))) (
.seq (.reg none [
 o 6 (.mv (.c (.int .u32 1))),
 o 7 (.mv (.c (.int .u32 16777619)))] [0, 4, 6, 7]) (
.seq (.seq (.reg none [
 o 22 (.mv (.t 0)),
 o 23 (.len 0 (.t 22)),
 o 8 (.mv (.t 23))] [4, 6, 7, 8]) (
.block 2 (
.wk (.loop (.wk (
.seq (.seq (.reg none [
 o 24 (.mv (.t 8)),
 o 25 (.bin .gtr (.t 24) (.c (.int .i64 0)))] [4, 6, 7, 8, 25]) (
.cond (.t 25) (.skip) (
.exit 2))) (
.seq (.block 3 (
.seq (.seq (.reg none [
 o 28 (.mv (.t 8)),
 o 29 (.bin .and (.t 28) (.c (.int .i64 1))),
 o 30 (.bin .neq (.t 29) (.c (.int .i64 0)))] [4, 6, 7, 8, 30]) (
.cond (.t 30) (.reg none [
 o 31 (.mv (.t 6)),
 o 32 (.mv (.t 7)),
 o 33 (.bin .mul (.t 31) (.t 32)),
 o 6 (.mv (.t 33))] [4, 6, 7, 8]) (
.skip))) (
.reg none [
 o 34 (.mv (.t 7)),
 o 35 (.mv (.t 7)),
 o 36 (.bin .mul (.t 34) (.t 35)),
 o 7 (.mv (.t 36))] [4, 6, 7, 8]))) (
.reg none [
 o 26 (.mv (.t 8)),
 o 27 (.bin .shr (.t 26) (.c (.int .u64 1))),
 o 8 (.mv (.t 27))] [4, 6, 7, 8])))))))) (
.seq (.reg none [
 o 37 (.mv (.t 4)),
 o 38 (.mv (.t 6)),
 o 2 (.mv (.t 37)),
 o 3 (.mv (.t 38))] [2, 3]) (
.ret))))))
def r_bytealg_hashStr_string : List RD := [.tmp 2, .tmp 3]
theorem k_bytealg_hashStr_string : chkFn Pg n_bytealg_hashStr_string c_bytealg_hashStr_string r_bytealg_hashStr_string 1 = true := by kernel_rfl
/-- bytes.Compare -/
def c_bytes_Compare : CC :=
.seq (.reg none [
 o 4 (.mv (.c (.int .i64 0)))] [0, 1]) (
.seq (.reg none [
 o 5 (.mv (.t 0)),
 o 6 (.mv (.t 1)),
 o 7 (.call n_bytealg_Compare [.t 5, .t 6]),
 o 4 (.mv (.t 7))] [4]) (
.ret))
def r_bytes_Compare : List RD := [.tmp 4]
theorem k_bytes_Compare : chkFn Pg n_bytes_Compare c_bytes_Compare r_bytes_Compare 2 = true := by kernel_rfl
/-- quitclaim/hunk.Same -/
def c_hunk_Same : CC :=
.seq (.reg none [
 o 2 (.box (.t 0)),
 o 3 (.box (.t 1)),
 o 4 (.mv (.c (.bool false)))] [2, 3]) (
.seq (.reg none [
 o 5 (.faddr 0 0 (.t 2)),
 o 6 (.load 1 false (.t 5)),
 o 7 (.faddr 0 0 (.t 3)),
 o 8 (.load 1 false (.t 7)),
 o 9 (.bin .eql (.t 6) (.t 8)),
 o 10 (.mv (.t 9)),
 g 11 (.faddr 1 1 (.t 2)) 10 true,
 g 12 (.load 1 false (.t 11)) 10 true,
 g 13 (.faddr 1 1 (.t 3)) 10 true,
 g 14 (.load 1 false (.t 13)) 10 true,
 g 15 (.call n_slices_Equal_string [.t 12, .t 14]) 10 true,
 o 16 (.pick (.t 10) (.t 15) (.c (.bool false))),
 o 17 (.mv (.t 16)),
 g 18 (.faddr 2 2 (.t 2)) 17 true,
 g 19 (.load 1 false (.t 18)) 17 true,
 g 20 (.faddr 2 2 (.t 3)) 17 true,
 g 21 (.load 1 false (.t 20)) 17 true,
 g 22 (.call n_slices_Equal_string [.t 19, .t 21]) 17 true,
 o 23 (.pick (.t 17) (.t 22) (.c (.bool false))),
 o 4 (.mv (.t 23))] [4]) (
.ret))
def r_hunk_Same : List RD := [.tmp 4]
theorem k_hunk_Same : chkFn Pg n_hunk_Same c_hunk_Same r_hunk_Same 2 = true := by kernel_rfl
/-- (*quitclaim/pack.Writer).Text -/
def c_pack_Writer_Text : CC :=
.seq (.reg none [
 o 4 (.mv (.t 0)),
 o 5 (.mv (.t 1)),
 o 6 (.len 0 (.t 5)),
 o 7 (.call n_pack_Writer_Num [.t 4, .t 6])] [0, 1]) (
.reg none [
 o 8 (.mv (.t 0)),
 o 9 (.mv (.t 0)),
 o 10 (.nilchk (.t 9)),
 o 11 (.faddr 0 0 (.t 10)),
 o 12 (.load 1 false (.t 11)),
 o 13 (.mv (.t 1)),
 o 14 (.append 1 1 (.t 12) (.t 13)),
 o 15 (.nilchk (.t 8)),
 o 16 (.faddr 0 0 (.t 15)),
 e (.store 1 (.t 16) (.t 14))] [])
def r_pack_Writer_Text : List RD := []
theorem k_pack_Writer_Text : chkFn Pg n_pack_Writer_Text c_pack_Writer_Text r_pack_Writer_Text 2 = true := by kernel_rfl
/-- quitclaim/patch.Id -/
def c_patch_Id : CC :=
.seq (.reg none [
 o 1 (.box (.t 0)),
 o 2 (.alloc (.agg [.int .u8 0, .int .u8 0, .int .u8 0, .int .u8 0, .int .u8 0, .int .u8 0, .int .u8 0, .int .u8 0, .int .u8 0, .int .u8 0, .int .u8 0, .int .u8 0, .int .u8 0, .int .u8 0, .int .u8 0, .int .u8 0, .int .u8 0, .int .u8 0, .int .u8 0, .int .u8 0, .int .u8 0, .int .u8 0, .int .u8 0, .int .u8 0, .int .u8 0, .int .u8 0, .int .u8 0, .int .u8 0, .int .u8 0, .int .u8 0, .int .u8 0, .int .u8 0])),
 o 3 (.mv (.c (.int .i64 0)))] [1, 2]) (
.seq (.reg none [
 o 7 (.load 39 true (.t 1)),
 o 8 (.call n_patch_Bytes [.t 7]),
 o 6 (.mv (.t 8)),
 o 9 (.extract 0 (.t 6)),
 o 10 (.extract 1 (.t 6)),
 o 4 (.mv (.t 9)),
 o 5 (.mv (.t 10))] [2, 4, 5]) (
.seq (.reg none [
 o 11 (.mv (.t 4)),
 o 12 (.mv (.t 5)),
 o 13 (.call n_patch_sum [.c (.str [105, 100]), .t 11, .t 12]),
 o 14 (.extract 0 (.t 13)),
 o 15 (.extract 1 (.t 13)),
 e (.store 32 (.t 2) (.t 14)),
 o 3 (.mv (.t 15))] [2, 3]) (
.ret)))
def r_patch_Id : List RD := [.cell 2 32 true, .tmp 3]
theorem k_patch_Id : chkFn Pg n_patch_Id c_patch_Id r_patch_Id 1 = true := by kernel_rfl
/-- quitclaim/path.Prefix -/
def c_path_Prefix : CC :=
.seq (.reg none [
 o 2 (.mv (.c (.bool false)))] [0]) (
.seq (.reg none [
 o 3 (.mv (.t 0)),
 o 4 (.bin .eql (.t 3) (.c (.str []))),
 o 5 (.mv (.t 4)),
 g 6 (.mv (.t 0)) 5 false,
 g 7 (.call n_path_Right [.t 6]) 5 false,
 o 8 (.pick (.t 5) (.c (.bool true)) (.t 7)),
 o 2 (.mv (.t 8))] [2]) (
.ret))
def r_path_Prefix : List RD := [.tmp 2]
theorem k_path_Prefix : chkFn Pg n_path_Prefix c_path_Prefix r_path_Prefix 1 = true := by kernel_rfl
/-- quitclaim/quitclaimref01.power -/
def c_ref01_power : CC :=
.seq (.reg none [
 o 2 (.mv (.c (.int .u64 0)))] [0]) (
.seq (.reg none [
 o 3 (.mv (.c (.int .u64 1)))] [0, 3]) (
.seq (.seq (.reg none [
 o 4 (.mv (.c (.int .i64 0)))] [0, 3, 4]) (
.block 0 (
.wk (.loop (.wk (
.seq (.seq (.reg none [
 o 5 (.mv (.t 4)),
 o 6 (.mv (.t 0)),
 o 7 (.bin .lss (.t 5) (.t 6))] [0, 3, 4, 7]) (
.cond (.t 7) (.skip) (
.exit 0))) (
.seq (.block 1 (
.reg none [
 o 10 (.mv (.t 3)),
 o 11 (.bin .mul (.c (.int .u64 256)) (.t 10)),
 o 3 (.mv (.t 11))] [0, 3, 4])) (
.reg none [
 o 8 (.mv (.t 4)),
 o 9 (.bin .add (.t 8) (.c (.int .i64 1))),
 o 4 (.mv (.t 9))] [0, 3, 4])))))))) (
.seq (.reg none [
 o 12 (.mv (.t 3)),
 o 2 (.mv (.t 12))] [2]) (
.ret))))
def r_ref01_power : List RD := [.tmp 2]
theorem k_ref01_power : chkFn Pg n_ref01_power c_ref01_power r_ref01_power 1 = true := by kernel_rfl
/-- quitclaim/quitclaimref02.turn -/
def c_ref02_turn : CC :=
.seq (.reg none [
 o 4 (.mv (.c (.int .u32 0)))] [0, 1]) (
.seq (.reg (some 9) [
 o 5 (.mv (.t 0)),
 o 6 (.mv (.t 1)),
 o 7 (.bin .shr (.t 5) (.t 6)),
 o 8 (.mv (.t 0)),
 o 9 (.mv (.t 1)),
 o 10 (.bin .sub (.c (.int .i64 32)) (.t 9)),
 o 11 (.bin .shl (.t 8) (.t 10)),
 o 12 (.bin .or (.t 7) (.t 11)),
 o 4 (.mv (.t 12))] [4]) (
.ret))
def r_ref02_turn : List RD := [.tmp 4]
theorem k_ref02_turn : chkFn Pg n_ref02_turn c_ref02_turn r_ref02_turn 2 = true := by kernel_rfl
/-- quitclaim/quitclaimref03.Bytes -/
def c_ref03_Bytes : CC :=
.seq (.reg none [
 o 1 (.box (.t 0)),
 o 2 (.mv (.c (.str [])))] [1]) (
.seq (.reg none [
 o 5 (.lit 1 (.int .u8 0) 0 []),
 o 3 (.mv (.t 5))] [1, 3]) (
.seq (.seq (.reg none [
 o 4 (.mv (.c (.int .i64 0)))] [1, 3, 4]) (
.block 0 (
.wk (.loop (.wk (
.seq (.seq (.reg none [
 o 6 (.mv (.t 4)),
 o 7 (.bin .lss (.t 6) (.c (.int .i64 32)))] [1, 3, 4, 7]) (
.cond (.t 7) (.skip) (
.exit 0))) (
.seq (.block 1 (
.reg none [
 o 10 (.mv (.t 3)),
 o 11 (.mv (.t 4)),
 o 12 (.iaddrA 32 1 (.t 1) (.t 11)),
 o 13 (.load 1 false (.t 12)),
 o 14 (.lit 1 (.int .u8 0) 1 [(0, .t 13)]),
 o 15 (.append 1 1 (.t 10) (.t 14)),
 o 3 (.mv (.t 15))] [1, 3, 4])) (
.reg none [
 o 8 (.mv (.t 4)),
 o 9 (.bin .add (.t 8) (.c (.int .i64 1))),
 o 4 (.mv (.t 9))] [1, 3, 4])))))))) (
.seq (.reg none [
 o 16 (.mv (.t 3)),
 o 17 (.b2s (.t 16)),
 o 2 (.mv (.t 17))] [2]) (
.ret))))
def r_ref03_Bytes : List RD := [.tmp 2]
theorem k_ref03_Bytes : chkFn Pg n_ref03_Bytes c_ref03_Bytes r_ref03_Bytes 1 = true := by kernel_rfl
/-- quitclaim/quitclaimref03.Of -/
def c_ref03_Of : CC :=
.seq (.reg none [
 o 4 (.alloc (.agg [.int .u8 0, .int .u8 0, .int .u8 0, .int .u8 0, .int .u8 0, .int .u8 0, .int .u8 0, .int .u8 0, .int .u8 0, .int .u8 0, .int .u8 0, .int .u8 0, .int .u8 0, .int .u8 0, .int .u8 0, .int .u8 0, .int .u8 0, .int .u8 0, .int .u8 0, .int .u8 0, .int .u8 0, .int .u8 0, .int .u8 0, .int .u8 0, .int .u8 0, .int .u8 0, .int .u8 0, .int .u8 0, .int .u8 0, .int .u8 0, .int .u8 0, .int .u8 0]))] [0, 1, 4]) (
.seq (.reg none [
 o 5 (.mv (.t 0)),
 o 6 (.mv (.t 1)),
 o 7 (.call n_ref03_Text [.t 5, .t 6]),
 o 8 (.call n_ref02_Sum [.t 7]),
 e (.store 32 (.t 4) (.t 8))] [4]) (
.ret))
def r_ref03_Of : List RD := [.cell 4 32 true]
theorem k_ref03_Of : chkFn Pg n_ref03_Of c_ref03_Of r_ref03_Of 2 = true := by kernel_rfl
/-- quitclaim/quitclaimref08.Bytes -/
def c_ref08_Bytes : CC :=
.seq (.reg none [
 o 1 (.box (.t 0)),
 o 2 (.mv (.c (.str [])))] [1]) (
.seq (.reg none [
 o 4 (.faddr 0 0 (.t 1)),
 o 5 (.load 1 false (.t 4)),
 o 3 (.mv (.t 5))] [1, 3]) (
.seq (.seq (.reg none [
 o 6 (.mv (.t 3)),
 o 7 (.bin .lss (.t 6) (.c (.int .i64 0))),
 o 8 (.mv (.t 7)),
 g 9 (.mv (.t 3)) 8 false,
 g 10 (.bin .gtr (.t 9) (.c (.int .i64 4611686018427387904))) 8 false,
 o 11 (.pick (.t 8) (.c (.bool true)) (.t 10))] [1, 3, 11]) (
.cond (.t 11) (.reg none [
 o 3 (.mv (.c (.int .i64 0)))] [1, 3]) (
.skip))) (
.seq (.reg (some 15) [
 o 12 (.mv (.t 3)),
 o 13 (.call n_ref05_Num [.t 12]),
 o 14 (.faddr 1 1 (.t 1)),
 o 15 (.load 1 false (.t 14)),
 o 16 (.call n_ref05_Ids [.t 15]),
 o 17 (.bin .add (.t 13) (.t 16)),
 o 18 (.faddr 2 2 (.t 1)),
 o 19 (.load 1 false (.t 18)),
 o 20 (.call n_ref05_Ids [.t 19]),
 o 21 (.bin .add (.t 17) (.t 20)),
 o 22 (.faddr 3 3 (.t 1)),
 o 23 (.load 1 false (.t 22)),
 o 24 (.call n_ref05_Ids [.t 23]),
 o 25 (.bin .add (.t 21) (.t 24)),
 o 2 (.mv (.t 25))] [2]) (
.ret))))
def r_ref08_Bytes : List RD := [.tmp 2]
theorem k_ref08_Bytes : chkFn Pg n_ref08_Bytes c_ref08_Bytes r_ref08_Bytes 1 = true := by kernel_rfl
/-- quitclaim/quitclaimref13.Bytes -/
def c_ref13_Bytes : CC :=
.seq (.reg none [
 o 1 (.box (.t 0)),
 o 2 (.mv (.c (.str [])))] [1]) (
.seq (.reg (some 10) [
 o 4 (.faddr 0 0 (.t 1)),
 o 5 (.load 1 false (.t 4)),
 o 6 (.conv .u8 (.t 5)),
 o 7 (.lit 1 (.int .u8 0) 1 [(0, .t 6)]),
 o 8 (.b2s (.t 7)),
 o 9 (.faddr 1 1 (.t 1)),
 o 10 (.load 1 false (.t 9)),
 o 11 (.call n_ref05_Text [.t 10]),
 o 12 (.bin .add (.t 8) (.t 11)),
 o 3 (.mv (.t 12))] [1, 3]) (
.seq (.seq (.reg none [
 o 13 (.faddr 0 0 (.t 1)),
 o 14 (.load 1 false (.t 13)),
 o 15 (.bin .eql (.t 14) (.c (.int .i64 3)))] [1, 3, 15]) (
.cond (.t 15) (.reg none [
 o 16 (.mv (.t 3)),
 o 17 (.faddr 3 3 (.t 1)),
 o 18 (.load 1 false (.t 17)),
 o 19 (.call n_ref05_Num [.t 18]),
 o 20 (.bin .add (.t 16) (.t 19)),
 o 3 (.mv (.t 20))] [1, 3]) (
.skip))) (
.seq (.seq (.reg none [
 o 21 (.faddr 0 0 (.t 1)),
 o 22 (.load 1 false (.t 21)),
 o 23 (.bin .eql (.t 22) (.c (.int .i64 2))),
 o 24 (.mv (.t 23)),
 g 25 (.faddr 0 0 (.t 1)) 24 false,
 g 26 (.load 1 false (.t 25)) 24 false,
 g 27 (.bin .eql (.t 26) (.c (.int .i64 3))) 24 false,
 o 28 (.pick (.t 24) (.c (.bool true)) (.t 27))] [1, 3, 28]) (
.cond (.t 28) (.reg none [
 o 29 (.mv (.t 3)),
 o 30 (.faddr 4 4 (.t 1)),
 o 31 (.load 1 false (.t 30)),
 o 32 (.call n_ref05_Texts [.t 31]),
 o 33 (.bin .add (.t 29) (.t 32)),
 o 3 (.mv (.t 33))] [1, 3]) (
.skip))) (
.seq (.seq (.reg none [
 o 34 (.faddr 0 0 (.t 1)),
 o 35 (.load 1 false (.t 34)),
 o 36 (.bin .eql (.t 35) (.c (.int .i64 3)))] [1, 3, 36]) (
.cond (.t 36) (.reg none [
 o 37 (.mv (.t 3)),
 o 38 (.faddr 5 5 (.t 1)),
 o 39 (.load 1 false (.t 38)),
 o 40 (.call n_ref05_Texts [.t 39]),
 o 41 (.bin .add (.t 37) (.t 40)),
 o 3 (.mv (.t 41))] [1, 3]) (
.skip))) (
.seq (.seq (.reg none [
 o 42 (.faddr 0 0 (.t 1)),
 o 43 (.load 1 false (.t 42)),
 o 44 (.bin .eql (.t 43) (.c (.int .i64 4)))] [1, 3, 44]) (
.cond (.t 44) (.reg none [
 o 45 (.mv (.t 3)),
 o 46 (.faddr 2 2 (.t 1)),
 o 47 (.load 1 false (.t 46)),
 o 48 (.call n_ref05_Text [.t 47]),
 o 49 (.bin .add (.t 45) (.t 48)),
 o 3 (.mv (.t 49))] [1, 3]) (
.skip))) (
.seq (.seq (.reg none [
 o 50 (.faddr 0 0 (.t 1)),
 o 51 (.load 1 false (.t 50)),
 o 52 (.bin .geq (.t 51) (.c (.int .i64 5)))] [1, 3, 52]) (
.cond (.t 52) (.reg none [
 o 53 (.mv (.t 3)),
 o 54 (.faddr 6 6 (.t 1)),
 o 55 (.load 32 true (.t 54)),
 o 56 (.call n_ref03_Bytes [.t 55]),
 o 57 (.bin .add (.t 53) (.t 56)),
 o 3 (.mv (.t 57))] [1, 3]) (
.skip))) (
.seq (.seq (.reg none [
 o 58 (.faddr 0 0 (.t 1)),
 o 59 (.load 1 false (.t 58)),
 o 60 (.bin .eql (.t 59) (.c (.int .i64 5)))] [1, 3, 60]) (
.cond (.t 60) (.reg none [
 o 61 (.mv (.t 3)),
 o 62 (.faddr 7 38 (.t 1)),
 o 63 (.load 1 false (.t 62)),
 o 64 (.call n_ref05_Num [.t 63]),
 o 65 (.bin .add (.t 61) (.t 64)),
 o 3 (.mv (.t 65))] [3]) (
.skip))) (
.seq (.reg none [
 o 66 (.mv (.t 3)),
 o 2 (.mv (.t 66))] [2]) (
.ret)))))))))
def r_ref13_Bytes : List RD := [.tmp 2]
theorem k_ref13_Bytes : chkFn Pg n_ref13_Bytes c_ref13_Bytes r_ref13_Bytes 1 = true := by kernel_rfl
/-- quitclaim/quitclaimref13.Long -/
def c_ref13_Long : CC :=
.seq (.reg none [
 o 1 (.box (.t 0)),
 o 2 (.mv (.c (.bool false)))] [1]) (
.seq (.seq (.reg none [
 o 7 (.faddr 1 1 (.t 1)),
 o 8 (.load 1 false (.t 7)),
 o 9 (.len 0 (.t 8)),
 o 10 (.bin .gtr (.t 9) (.c (.int .i64 300))),
 o 11 (.mv (.t 10)),
 g 12 (.faddr 2 2 (.t 1)) 11 false,
 g 13 (.load 1 false (.t 12)) 11 false,
 g 14 (.len 0 (.t 13)) 11 false,
 g 15 (.bin .gtr (.t 14) (.c (.int .i64 300))) 11 false,
 o 16 (.pick (.t 11) (.c (.bool true)) (.t 15)),
 o 17 (.mv (.t 16)),
 g 18 (.faddr 4 4 (.t 1)) 17 false,
 g 19 (.load 1 false (.t 18)) 17 false,
 g 20 (.len 1 (.t 19)) 17 false,
 g 21 (.bin .gtr (.t 20) (.c (.int .i64 40))) 17 false,
 o 22 (.pick (.t 17) (.c (.bool true)) (.t 21)),
 o 23 (.mv (.t 22)),
 g 24 (.faddr 5 5 (.t 1)) 23 false,
 g 25 (.load 1 false (.t 24)) 23 false,
 g 26 (.len 1 (.t 25)) 23 false,
 g 27 (.bin .gtr (.t 26) (.c (.int .i64 40))) 23 false,
 o 28 (.pick (.t 23) (.c (.bool true)) (.t 27))] [1, 28]) (
.cond (.t 28) (.seq (.reg none [
 o 2 (.mv (.c (.bool true)))] [2]) (
.ret)) (
.skip))) (
.seq (.seq (.reg none [
 o 29 (.faddr 4 4 (.t 1)),
 o 30 (.load 1 false (.t 29)),
 o 31 (.faddr 5 5 (.t 1)),
 o 32 (.load 1 false (.t 31)),
 o 33 (.lit 1 (.sl 1 [] .full) 2 [(0, .t 30), (1, .t 32)]),
 o 34 (.len 1 (.t 33)),
 o 35 (.mv (.c (.int .i64 0)))] [33, 34, 35]) (
.block 0 (
.wk (.loop (.wk (
.seq (.reg none [
 o 36 (.bin .lss (.t 35) (.t 34))] [33, 34, 35, 36]) (
.seq (.cond (.t 36) (.skip) (
.exit 0)) (
.seq (.block 1 (
.seq (.reg none [
 o 37 (.iaddr 1 (.t 33) (.t 35)),
 o 38 (.load 1 false (.t 37)),
 o 4 (.mv (.t 38))] [4, 33, 34, 35]) (
.seq (.reg none [
 o 39 (.mv (.t 4)),
 o 40 (.len 1 (.t 39)),
 o 41 (.mv (.c (.int .i64 0)))] [33, 34, 35, 39, 40, 41]) (
.block 2 (
.wk (.loop (.wk (
.seq (.reg none [
 o 42 (.bin .lss (.t 41) (.t 40))] [33, 34, 35, 39, 40, 41, 42]) (
.seq (.cond (.t 42) (.skip) (
.exit 2)) (
.seq (.block 3 (
.seq (.reg none [
 o 43 (.iaddr 1 (.t 39) (.t 41)),
 o 44 (.load 1 false (.t 43)),
 o 6 (.mv (.t 44))] [6, 33, 34, 35, 39, 40, 41]) (
.seq (.reg none [
 o 45 (.mv (.t 6)),
 o 46 (.len 0 (.t 45)),
 o 47 (.bin .gtr (.t 46) (.c (.int .i64 300)))] [33, 34, 35, 39, 40, 41, 47]) (
.cond (.t 47) (.seq (.reg none [
 o 2 (.mv (.c (.bool true)))] [2]) (
.ret)) (
.skip))))) (
.reg none [
 o 48 (.bin .add (.t 41) (.c (.int .i64 1))),
 o 41 (.mv (.t 48))] [33, 34, 35, 39, 40, 41]))))))))))) (
.reg none [
 o 49 (.bin .add (.t 35) (.c (.int .i64 1))),
 o 35 (.mv (.t 49))] [33, 34, 35]))))))))) (
.seq (.reg none [
 o 2 (.mv (.c (.bool false)))] [2]) (
.ret))))
def r_ref13_Long : List RD := [.tmp 2]
theorem k_ref13_Long : chkFn Pg n_ref13_Long c_ref13_Long r_ref13_Long 1 = true := by kernel_rfl
/-- quitclaim/quitclaimref13.Right -/
def c_ref13_Right : CC :=
.seq (.reg none [
 o 1 (.box (.t 0)),
 o 2 (.mv (.c (.int .i64 0)))] [1]) (
.seq (.seq (.reg none [
 o 4 (.faddr 0 0 (.t 1)),
 o 5 (.load 1 false (.t 4)),
 o 6 (.bin .lss (.t 5) (.c (.int .i64 1))),
 o 7 (.mv (.t 6)),
 g 8 (.faddr 0 0 (.t 1)) 7 false,
 g 9 (.load 1 false (.t 8)) 7 false,
 g 10 (.bin .gtr (.t 9) (.c (.int .i64 6))) 7 false,
 o 11 (.pick (.t 7) (.c (.bool true)) (.t 10))] [1, 11]) (
.cond (.t 11) (.seq (.reg none [
 o 2 (.mv (.c (.int .i64 1)))] [2]) (
.ret)) (
.skip))) (
.seq (.reg none [
 o 3 (.mv (.c (.bool false)))] [1, 3]) (
.seq (.seq (.reg none [
 o 12 (.faddr 0 0 (.t 1)),
 o 13 (.load 1 false (.t 12)),
 o 14 (.bin .eql (.t 13) (.c (.int .i64 1)))] [1, 3, 14]) (
.cond (.t 14) (.reg none [
 o 15 (.faddr 1 1 (.t 1)),
 o 16 (.load 1 false (.t 15)),
 o 17 (.call n_ref10_Right [.t 16]),
 o 18 (.mv (.t 17)),
 g 19 (.load 39 true (.t 1)) 18 true,
 g 20 (.call n_ref13_only [.t 19, .c (.str [])]) 18 true,
 o 21 (.pick (.t 18) (.t 20) (.c (.bool false))),
 o 3 (.mv (.t 21))] [1, 3]) (
.skip))) (
.seq (.seq (.reg none [
 o 22 (.faddr 0 0 (.t 1)),
 o 23 (.load 1 false (.t 22)),
 o 24 (.bin .eql (.t 23) (.c (.int .i64 2)))] [1, 3, 24]) (
.cond (.t 24) (.reg none [
 o 25 (.faddr 1 1 (.t 1)),
 o 26 (.load 1 false (.t 25)),
 o 27 (.call n_ref10_Right [.t 26]),
 o 28 (.mv (.t 27)),
 g 29 (.faddr 4 4 (.t 1)) 28 true,
 g 30 (.load 1 false (.t 29)) 28 true,
 g 31 (.call n_ref11_Lines [.t 30]) 28 true,
 o 32 (.pick (.t 28) (.t 31) (.c (.bool false))),
 o 33 (.mv (.t 32)),
 g 34 (.load 39 true (.t 1)) 33 true,
 g 35 (.call n_ref13_only [.t 34, .c (.str [79])]) 33 true,
 o 36 (.pick (.t 33) (.t 35) (.c (.bool false))),
 o 3 (.mv (.t 36))] [1, 3]) (
.skip))) (
.seq (.seq (.reg none [
 o 37 (.faddr 0 0 (.t 1)),
 o 38 (.load 1 false (.t 37)),
 o 39 (.bin .eql (.t 38) (.c (.int .i64 3)))] [1, 3, 39]) (
.cond (.t 39) (.reg none [
 o 40 (.faddr 1 1 (.t 1)),
 o 41 (.load 1 false (.t 40)),
 o 42 (.call n_ref10_Right [.t 41]),
 o 43 (.mv (.t 42)),
 g 44 (.faddr 3 3 (.t 1)) 43 true,
 g 45 (.load 1 false (.t 44)) 43 true,
 g 46 (.faddr 4 4 (.t 1)) 43 true,
 g 47 (.load 1 false (.t 46)) 43 true,
 g 48 (.faddr 5 5 (.t 1)) 43 true,
 g 49 (.load 1 false (.t 48)) 43 true,
 g 50 (.build [.int .i64 0, .sl 1 [] .full, .sl 1 [] .full] [(0, .t 45), (1, .t 47), (2, .t 49)]) 43 true,
 g 51 (.call n_ref11_Right [.t 50]) 43 true,
 o 52 (.pick (.t 43) (.t 51) (.c (.bool false))),
 o 53 (.mv (.t 52)),
 g 54 (.load 39 true (.t 1)) 53 true,
 g 55 (.call n_ref13_only [.t 54, .c (.str [65, 79, 78])]) 53 true,
 o 56 (.pick (.t 53) (.t 55) (.c (.bool false))),
 o 3 (.mv (.t 56))] [1, 3]) (
.skip))) (
.seq (.seq (.reg none [
 o 57 (.faddr 0 0 (.t 1)),
 o 58 (.load 1 false (.t 57)),
 o 59 (.bin .eql (.t 58) (.c (.int .i64 4)))] [1, 3, 59]) (
.cond (.t 59) (.reg none [
 o 60 (.faddr 1 1 (.t 1)),
 o 61 (.load 1 false (.t 60)),
 o 62 (.call n_ref10_Right [.t 61]),
 o 63 (.mv (.t 62)),
 g 64 (.faddr 2 2 (.t 1)) 63 true,
 g 65 (.load 1 false (.t 64)) 63 true,
 g 66 (.call n_ref10_Right [.t 65]) 63 true,
 o 67 (.pick (.t 63) (.t 66) (.c (.bool false))),
 o 68 (.mv (.t 67)),
 g 69 (.faddr 1 1 (.t 1)) 68 true,
 g 70 (.load 1 false (.t 69)) 68 true,
 g 71 (.faddr 2 2 (.t 1)) 68 true,
 g 72 (.load 1 false (.t 71)) 68 true,
 g 73 (.bin .neq (.t 70) (.t 72)) 68 true,
 o 74 (.pick (.t 68) (.t 73) (.c (.bool false))),
 o 75 (.mv (.t 74)),
 g 76 (.load 39 true (.t 1)) 75 true,
 g 77 (.call n_ref13_only [.t 76, .c (.str [84])]) 75 true,
 o 78 (.pick (.t 75) (.t 77) (.c (.bool false))),
 o 3 (.mv (.t 78))] [1, 3]) (
.skip))) (
.seq (.seq (.reg none [
 o 79 (.faddr 0 0 (.t 1)),
 o 80 (.load 1 false (.t 79)),
 o 81 (.bin .eql (.t 80) (.c (.int .i64 5)))] [1, 3, 81]) (
.cond (.t 81) (.reg none [
 o 82 (.faddr 1 1 (.t 1)),
 o 83 (.load 1 false (.t 82)),
 o 84 (.call n_ref13_prefix [.t 83]),
 o 85 (.mv (.t 84)),
 g 86 (.load 39 true (.t 1)) 85 true,
 g 87 (.call n_ref13_only [.t 86, .c (.str [75, 68])]) 85 true,
 o 88 (.pick (.t 85) (.t 87) (.c (.bool false))),
 o 3 (.mv (.t 88))] [1, 3]) (
.skip))) (
.seq (.seq (.reg none [
 o 89 (.faddr 0 0 (.t 1)),
 o 90 (.load 1 false (.t 89)),
 o 91 (.bin .eql (.t 90) (.c (.int .i64 6)))] [1, 3, 91]) (
.cond (.t 91) (.reg none [
 o 92 (.faddr 1 1 (.t 1)),
 o 93 (.load 1 false (.t 92)),
 o 94 (.call n_ref13_prefix [.t 93]),
 o 95 (.mv (.t 94)),
 g 96 (.load 39 true (.t 1)) 95 true,
 g 97 (.call n_ref13_only [.t 96, .c (.str [75])]) 95 true,
 o 98 (.pick (.t 95) (.t 97) (.c (.bool false))),
 o 3 (.mv (.t 98))] [1, 3]) (
.skip))) (
.seq (.seq (.reg none [
 o 99 (.mv (.t 3)),
 o 100 (.not (.t 99))] [1, 100]) (
.cond (.t 100) (.seq (.reg none [
 o 2 (.mv (.c (.int .i64 3)))] [2]) (
.ret)) (
.skip))) (
.seq (.seq (.reg none [
 o 101 (.faddr 7 38 (.t 1)),
 o 102 (.load 1 false (.t 101)),
 o 103 (.bin .lss (.t 102) (.c (.int .i64 0))),
 o 104 (.mv (.t 103)),
 g 105 (.faddr 7 38 (.t 1)) 104 false,
 g 106 (.load 1 false (.t 105)) 104 false,
 g 107 (.bin .gtr (.t 106) (.c (.int .i64 8))) 104 false,
 o 108 (.pick (.t 104) (.c (.bool true)) (.t 107))] [108]) (
.cond (.t 108) (.seq (.reg none [
 o 2 (.mv (.c (.int .i64 5)))] [2]) (
.ret)) (
.skip))) (
.seq (.reg none [
 o 2 (.mv (.c (.int .i64 0)))] [2]) (
.ret))))))))))))
def r_ref13_Right : List RD := [.tmp 2]
theorem k_ref13_Right : chkFn Pg n_ref13_Right c_ref13_Right r_ref13_Right 1 = true := by kernel_rfl
/-- quitclaim/quitclaimref15.Right -/
def c_ref15_Right : CC :=
.seq (.reg none [
 o 1 (.box (.t 0)),
 o 2 (.mv (.c (.int .i64 0)))] [1]) (
.seq (.seq (.reg none [
 o 5 (.faddr 0 0 (.t 1)),
 o 6 (.load 1 false (.t 5)),
 o 7 (.len 1 (.t 6)),
 o 8 (.bin .gtr (.t 7) (.c (.int .i64 16)))] [1, 8]) (
.cond (.t 8) (.seq (.reg none [
 o 2 (.mv (.c (.int .i64 4)))] [2]) (
.ret)) (
.skip))) (
.seq (.seq (.reg none [
 o 9 (.faddr 0 0 (.t 1)),
 o 10 (.load 1 false (.t 9)),
 o 11 (.call n_ref04_Rises [.t 10]),
 o 12 (.not (.t 11))] [1, 12]) (
.cond (.t 12) (.seq (.reg none [
 o 2 (.mv (.c (.int .i64 17)))] [2]) (
.ret)) (
.skip))) (
.seq (.seq (.reg none [
 o 13 (.faddr 2 33 (.t 1)),
 o 14 (.load 1 false (.t 13)),
 o 15 (.len 0 (.t 14)),
 o 16 (.bin .gtr (.t 15) (.c (.int .i64 400)))] [1, 16]) (
.cond (.t 16) (.seq (.reg none [
 o 2 (.mv (.c (.int .i64 4)))] [2]) (
.ret)) (
.skip))) (
.seq (.seq (.reg none [
 o 17 (.faddr 3 34 (.t 1)),
 o 18 (.load 1 false (.t 17)),
 o 19 (.len 1 (.t 18)),
 o 20 (.bin .eql (.t 19) (.c (.int .i64 0)))] [1, 20]) (
.cond (.t 20) (.seq (.reg none [
 o 2 (.mv (.c (.int .i64 1)))] [2]) (
.ret)) (
.skip))) (
.seq (.seq (.reg none [
 o 21 (.faddr 3 34 (.t 1)),
 o 22 (.load 1 false (.t 21)),
 o 23 (.len 1 (.t 22)),
 o 24 (.bin .gtr (.t 23) (.c (.int .i64 32)))] [1, 24]) (
.cond (.t 24) (.seq (.reg none [
 o 2 (.mv (.c (.int .i64 4)))] [2]) (
.ret)) (
.skip))) (
.seq (.seq (.reg none [
 o 3 (.mv (.c (.int .i64 0)))] [1, 3]) (
.block 0 (
.wk (.loop (.wk (
.seq (.seq (.reg none [
 o 25 (.mv (.t 3)),
 o 26 (.faddr 3 34 (.t 1)),
 o 27 (.load 1 false (.t 26)),
 o 28 (.len 1 (.t 27)),
 o 29 (.bin .lss (.t 25) (.t 28))] [1, 3, 29]) (
.cond (.t 29) (.skip) (
.exit 0))) (
.seq (.block 1 (
.seq (.reg none [
 o 32 (.faddr 3 34 (.t 1)),
 o 33 (.load 1 false (.t 32)),
 o 34 (.mv (.t 3)),
 o 35 (.iaddr 39 (.t 33) (.t 34)),
 o 36 (.load 39 true (.t 35)),
 o 37 (.call n_ref13_Right [.t 36]),
 o 4 (.mv (.t 37))] [1, 3, 4]) (
.seq (.reg none [
 o 38 (.mv (.t 4)),
 o 39 (.bin .neq (.t 38) (.c (.int .i64 0)))] [1, 3, 4, 39]) (
.cond (.t 39) (.seq (.reg none [
 o 40 (.mv (.t 4)),
 o 2 (.mv (.t 40))] [2]) (
.ret)) (
.skip))))) (
.reg none [
 o 30 (.mv (.t 3)),
 o 31 (.bin .add (.t 30) (.c (.int .i64 1))),
 o 3 (.mv (.t 31))] [1, 3])))))))) (
.seq (.reg none [
 o 2 (.mv (.c (.int .i64 0)))] [2]) (
.ret))))))))
def r_ref15_Right : List RD := [.tmp 2]
theorem k_ref15_Right : chkFn Pg n_ref15_Right c_ref15_Right r_ref15_Right 1 = true := by kernel_rfl
/-- quitclaim/quitclaimref17.Order -/
def c_ref17_Order : CC :=
.seq (.reg none [
 o 2 (.mv (.c (.sl 32 [] .full)))] [0]) (
.seq (.reg none [
 o 7 (.lit 32 (.agg [.int .u8 0, .int .u8 0, .int .u8 0, .int .u8 0, .int .u8 0, .int .u8 0, .int .u8 0, .int .u8 0, .int .u8 0, .int .u8 0, .int .u8 0, .int .u8 0, .int .u8 0, .int .u8 0, .int .u8 0, .int .u8 0, .int .u8 0, .int .u8 0, .int .u8 0, .int .u8 0, .int .u8 0, .int .u8 0, .int .u8 0, .int .u8 0, .int .u8 0, .int .u8 0, .int .u8 0, .int .u8 0, .int .u8 0, .int .u8 0, .int .u8 0, .int .u8 0]) 0 []),
 o 3 (.mv (.t 7))] [0, 3]) (
.seq (.seq (.reg none [
 o 8 (.mv (.t 0)),
 o 9 (.len 1 (.t 8)),
 o 10 (.mv (.c (.int .i64 0)))] [0, 3, 9, 10]) (
.block 0 (
.wk (.loop (.wk (
.seq (.reg none [
 o 11 (.bin .lss (.t 10) (.t 9))] [0, 3, 9, 10, 11]) (
.seq (.cond (.t 11) (.skip) (
.exit 0)) (
.seq (.block 1 (
.seq (.reg none [
 o 4 (.mv (.c (.int .i64 (-1))))] [0, 3, 4, 9, 10]) (
.seq (.seq (.reg none [
 o 5 (.mv (.c (.int .i64 0)))] [0, 3, 4, 5, 9, 10]) (
.block 2 (
.wk (.loop (.wk (
.seq (.seq (.reg none [
 o 12 (.mv (.t 5)),
 o 13 (.mv (.t 0)),
 o 14 (.len 1 (.t 13)),
 o 15 (.bin .lss (.t 12) (.t 14))] [0, 3, 4, 5, 9, 10, 15]) (
.cond (.t 15) (.skip) (
.exit 2))) (
.seq (.block 3 (
.seq (.reg none [
 o 18 (.mv (.t 0)),
 o 19 (.mv (.t 5)),
 o 20 (.iaddr 33 (.t 18) (.t 19)),
 o 21 (.load 33 true (.t 20)),
 o 6 (.alloc (.agg [.agg [.int .u8 0, .int .u8 0, .int .u8 0, .int .u8 0, .int .u8 0, .int .u8 0, .int .u8 0, .int .u8 0, .int .u8 0, .int .u8 0, .int .u8 0, .int .u8 0, .int .u8 0, .int .u8 0, .int .u8 0, .int .u8 0, .int .u8 0, .int .u8 0, .int .u8 0, .int .u8 0, .int .u8 0, .int .u8 0, .int .u8 0, .int .u8 0, .int .u8 0, .int .u8 0, .int .u8 0, .int .u8 0, .int .u8 0, .int .u8 0, .int .u8 0, .int .u8 0], .sl 32 [] .full])),
 e (.store 33 (.t 6) (.t 21))] [0, 3, 4, 5, 6, 9, 10]) (
.seq (.seq (.reg none [
 o 22 (.mv (.t 3)),
 o 23 (.faddr 0 0 (.t 6)),
 o 24 (.load 32 true (.t 23)),
 o 25 (.call n_ref04_Has [.t 22, .t 24]),
 o 26 (.mv (.t 25)),
 g 27 (.faddr 1 32 (.t 6)) 26 false,
 g 28 (.load 1 false (.t 27)) 26 false,
 g 29 (.mv (.t 3)) 26 false,
 g 30 (.call n_ref04_Only [.t 28, .t 29, .c (.bool false)]) 26 false,
 g 31 (.len 1 (.t 30)) 26 false,
 g 32 (.bin .gtr (.t 31) (.c (.int .i64 0))) 26 false,
 o 33 (.pick (.t 26) (.c (.bool true)) (.t 32))] [0, 3, 4, 5, 6, 9, 10, 33]) (
.cond (.t 33) (.exit 3) (
.skip))) (
.seq (.reg (some 12) [
 o 34 (.mv (.t 4)),
 o 35 (.bin .lss (.t 34) (.c (.int .i64 0))),
 o 36 (.mv (.t 35)),
 g 37 (.faddr 0 0 (.t 6)) 36 false,
 g 38 (.load 32 true (.t 37)) 36 false,
 g 39 (.mv (.t 0)) 36 false,
 g 40 (.mv (.t 4)) 36 false,
 g 41 (.iaddr 33 (.t 39) (.t 40)) 36 false,
 g 42 (.faddr 0 0 (.t 41)) 36 false,
 g 43 (.load 32 true (.t 42)) 36 false,
 g 44 (.call n_ref04_Less [.t 38, .t 43]) 36 false,
 o 45 (.pick (.t 36) (.c (.bool true)) (.t 44))] [0, 3, 4, 5, 9, 10, 45]) (
.cond (.t 45) (.reg none [
 o 46 (.mv (.t 5)),
 o 4 (.mv (.t 46))] [0, 3, 4, 5, 9, 10]) (
.skip)))))) (
.reg none [
 o 16 (.mv (.t 5)),
 o 17 (.bin .add (.t 16) (.c (.int .i64 1))),
 o 5 (.mv (.t 17))] [0, 3, 4, 5, 9, 10])))))))) (
.seq (.reg none [
 o 47 (.mv (.t 4)),
 o 48 (.bin .geq (.t 47) (.c (.int .i64 0)))] [0, 3, 4, 9, 10, 48]) (
.cond (.t 48) (.reg none [
 o 49 (.mv (.t 3)),
 o 50 (.mv (.t 0)),
 o 51 (.mv (.t 4)),
 o 52 (.iaddr 33 (.t 50) (.t 51)),
 o 53 (.faddr 0 0 (.t 52)),
 o 54 (.load 32 true (.t 53)),
 o 55 (.lit 32 (.agg [.int .u8 0, .int .u8 0, .int .u8 0, .int .u8 0, .int .u8 0, .int .u8 0, .int .u8 0, .int .u8 0, .int .u8 0, .int .u8 0, .int .u8 0, .int .u8 0, .int .u8 0, .int .u8 0, .int .u8 0, .int .u8 0, .int .u8 0, .int .u8 0, .int .u8 0, .int .u8 0, .int .u8 0, .int .u8 0, .int .u8 0, .int .u8 0, .int .u8 0, .int .u8 0, .int .u8 0, .int .u8 0, .int .u8 0, .int .u8 0, .int .u8 0, .int .u8 0]) 1 [(0, .t 54)]),
 o 56 (.append 32 32 (.t 49) (.t 55)),
 o 3 (.mv (.t 56))] [0, 3, 9, 10]) (
.skip)))))) (
.reg none [
 o 57 (.bin .add (.t 10) (.c (.int .i64 1))),
 o 10 (.mv (.t 57))] [0, 3, 9, 10]))))))))) (
.seq (.reg none [
 o 58 (.mv (.t 3)),
 o 2 (.mv (.t 58))] [2]) (
.ret))))
def r_ref17_Order : List RD := [.tmp 2]
theorem k_ref17_Order : chkFn Pg n_ref17_Order c_ref17_Order r_ref17_Order 1 = true := by kernel_rfl
/-- quitclaim/quitclaimref18.Find -/
def c_ref18_Find : CC :=
.seq (.reg none [
 o 3 (.box (.t 1)),
 o 4 (.alloc (.agg [.sl 32 [] .full, .agg [.int .u8 0, .int .u8 0, .int .u8 0, .int .u8 0, .int .u8 0, .int .u8 0, .int .u8 0, .int .u8 0, .int .u8 0, .int .u8 0, .int .u8 0, .int .u8 0, .int .u8 0, .int .u8 0, .int .u8 0, .int .u8 0, .int .u8 0, .int .u8 0, .int .u8 0, .int .u8 0, .int .u8 0, .int .u8 0, .int .u8 0, .int .u8 0, .int .u8 0, .int .u8 0, .int .u8 0, .int .u8 0, .int .u8 0, .int .u8 0, .int .u8 0, .int .u8 0], .str [], .sl 39 [] .full, .agg [.int .i64 0, .sl 32 [] .full, .sl 32 [] .full, .sl 32 [] .full]]))] [0, 3, 4]) (
.seq (.seq (.reg none [
 o 5 (.mv (.c (.int .i64 0)))] [0, 3, 4, 5]) (
.block 0 (
.wk (.loop (.wk (
.seq (.seq (.reg none [
 o 6 (.mv (.t 5)),
 o 7 (.mv (.t 0)),
 o 8 (.len 1 (.t 7)),
 o 9 (.bin .lss (.t 6) (.t 8))] [0, 3, 4, 5, 9]) (
.cond (.t 9) (.skip) (
.exit 0))) (
.seq (.block 1 (
.seq (.reg (some 7) [
 o 12 (.mv (.t 0)),
 o 13 (.mv (.t 5)),
 o 14 (.iaddr 71 (.t 12) (.t 13)),
 o 15 (.faddr 0 0 (.t 14)),
 o 16 (.load 32 true (.t 15)),
 o 17 (.load 32 true (.t 3)),
 o 18 (.eqv (.arr 32 (.int .u8)) false (.t 16) (.t 17))] [0, 3, 4, 5, 18]) (
.cond (.t 18) (.seq (.reg none [
 o 19 (.mv (.t 0)),
 o 20 (.mv (.t 5)),
 o 21 (.iaddr 71 (.t 19) (.t 20)),
 o 22 (.faddr 1 32 (.t 21)),
 o 23 (.load 39 true (.t 22)),
 e (.store 39 (.t 4) (.t 23))] [4]) (
.ret)) (
.skip)))) (
.reg none [
 o 10 (.mv (.t 5)),
 o 11 (.bin .add (.t 10) (.c (.int .i64 1))),
 o 5 (.mv (.t 11))] [0, 3, 4, 5])))))))) (
.seq (.reg none [
 o 24 (.build [.sl 32 [] .full, .agg [.int .u8 0, .int .u8 0, .int .u8 0, .int .u8 0, .int .u8 0, .int .u8 0, .int .u8 0, .int .u8 0, .int .u8 0, .int .u8 0, .int .u8 0, .int .u8 0, .int .u8 0, .int .u8 0, .int .u8 0, .int .u8 0, .int .u8 0, .int .u8 0, .int .u8 0, .int .u8 0, .int .u8 0, .int .u8 0, .int .u8 0, .int .u8 0, .int .u8 0, .int .u8 0, .int .u8 0, .int .u8 0, .int .u8 0, .int .u8 0, .int .u8 0, .int .u8 0], .str [], .sl 39 [] .full, .agg [.int .i64 0, .sl 32 [] .full, .sl 32 [] .full, .sl 32 [] .full]] []),
 e (.store 39 (.t 4) (.t 24))] [4]) (
.ret)))
def r_ref18_Find : List RD := [.cell 4 39 true]
theorem k_ref18_Find : chkFn Pg n_ref18_Find c_ref18_Find r_ref18_Find 2 = true := by kernel_rfl
/-- quitclaim/quitclaimref26.Same -/
def c_ref26_Same : CC :=
.seq (.reg none [
 o 4 (.mv (.c (.bool false)))] [0, 1]) (
.seq (.seq (.reg none [
 o 6 (.mv (.t 0)),
 o 7 (.len 1 (.t 6)),
 o 8 (.mv (.t 1)),
 o 9 (.len 1 (.t 8)),
 o 10 (.bin .neq (.t 7) (.t 9))] [0, 1, 10]) (
.cond (.t 10) (.seq (.reg none [
 o 4 (.mv (.c (.bool false)))] [4]) (
.ret)) (
.skip))) (
.seq (.seq (.reg none [
 o 5 (.mv (.c (.int .i64 0)))] [0, 1, 5]) (
.block 0 (
.wk (.loop (.wk (
.seq (.seq (.reg none [
 o 11 (.mv (.t 5)),
 o 12 (.mv (.t 0)),
 o 13 (.len 1 (.t 12)),
 o 14 (.bin .lss (.t 11) (.t 13))] [0, 1, 5, 14]) (
.cond (.t 14) (.skip) (
.exit 0))) (
.seq (.block 1 (
.seq (.reg (some 10) [
 o 17 (.mv (.t 0)),
 o 18 (.mv (.t 5)),
 o 19 (.iaddr 39 (.t 17) (.t 18)),
 o 20 (.load 39 true (.t 19)),
 o 21 (.mv (.t 1)),
 o 22 (.mv (.t 5)),
 o 23 (.iaddr 39 (.t 21) (.t 22)),
 o 24 (.load 39 true (.t 23)),
 o 25 (.call n_ref15_Same [.t 20, .t 24]),
 o 26 (.not (.t 25))] [0, 1, 5, 26]) (
.cond (.t 26) (.seq (.reg none [
 o 4 (.mv (.c (.bool false)))] [4]) (
.ret)) (
.skip)))) (
.reg none [
 o 15 (.mv (.t 5)),
 o 16 (.bin .add (.t 15) (.c (.int .i64 1))),
 o 5 (.mv (.t 16))] [0, 1, 5])))))))) (
.seq (.reg none [
 o 4 (.mv (.c (.bool true)))] [4]) (
.ret))))
def r_ref26_Same : List RD := [.tmp 4]
theorem k_ref26_Same : chkFn Pg n_ref26_Same c_ref26_Same r_ref26_Same 2 = true := by kernel_rfl
/-- (*quitclaim/sha.state).add -/
def c_sha_state_add : CC :=
.seq (.reg none [
 o 4 (.alloc (.agg [.int .u32 0, .int .u32 0, .int .u32 0, .int .u32 0, .int .u32 0, .int .u32 0, .int .u32 0, .int .u32 0, .int .u32 0, .int .u32 0, .int .u32 0, .int .u32 0, .int .u32 0, .int .u32 0, .int .u32 0, .int .u32 0, .int .u32 0, .int .u32 0, .int .u32 0, .int .u32 0, .int .u32 0, .int .u32 0, .int .u32 0, .int .u32 0, .int .u32 0, .int .u32 0, .int .u32 0, .int .u32 0, .int .u32 0, .int .u32 0, .int .u32 0, .int .u32 0, .int .u32 0, .int .u32 0, .int .u32 0, .int .u32 0, .int .u32 0, .int .u32 0, .int .u32 0, .int .u32 0, .int .u32 0, .int .u32 0, .int .u32 0, .int .u32 0, .int .u32 0, .int .u32 0, .int .u32 0, .int .u32 0, .int .u32 0, .int .u32 0, .int .u32 0, .int .u32 0, .int .u32 0, .int .u32 0, .int .u32 0, .int .u32 0, .int .u32 0, .int .u32 0, .int .u32 0, .int .u32 0, .int .u32 0, .int .u32 0, .int .u32 0, .int .u32 0]))] [0, 1, 4]) (
.seq (.reg none [
 o 19 (.mv (.t 1)),
 o 20 (.call n_word_Words [.t 19]),
 o 18 (.mv (.t 20)),
 o 21 (.extract 0 (.t 18)),
 o 22 (.extract 1 (.t 18)),
 o 5 (.mv (.t 21)),
 o 6 (.mv (.t 22))] [0, 4, 5]) (
.seq (.reg none [
 o 23 (.sliceA 64 1 (.t 4) none none),
 o 24 (.mv (.t 5)),
 o 25 (.copyA 1 (.t 23) (.t 24))] [0, 4]) (
.seq (.seq (.reg none [
 o 7 (.mv (.c (.int .i64 16)))] [0, 4, 7]) (
.block 0 (
.wk (.loop (.wk (
.seq (.seq (.reg none [
 o 26 (.mv (.t 7)),
 o 27 (.bin .lss (.t 26) (.c (.int .i64 64)))] [0, 4, 7, 27]) (
.cond (.t 27) (.skip) (
.exit 0))) (
.seq (.block 1 (
.seq (.reg (some 10) [
 o 30 (.mv (.t 7)),
 o 31 (.bin .sub (.t 30) (.c (.int .i64 15))),
 o 32 (.iaddrA 64 1 (.t 4) (.t 31)),
 o 33 (.load 1 false (.t 32)),
 o 34 (.mv (.t 7)),
 o 35 (.bin .sub (.t 34) (.c (.int .i64 2))),
 o 36 (.iaddrA 64 1 (.t 4) (.t 35)),
 o 37 (.load 1 false (.t 36)),
 o 8 (.mv (.t 33)),
 o 9 (.mv (.t 37))] [0, 4, 7, 8, 9]) (
.reg (some 21) [
 o 38 (.mv (.t 7)),
 o 39 (.mv (.t 7)),
 o 40 (.bin .sub (.t 39) (.c (.int .i64 16))),
 o 41 (.iaddrA 64 1 (.t 4) (.t 40)),
 o 42 (.load 1 false (.t 41)),
 o 43 (.mv (.t 8)),
 o 44 (.mv (.t 8)),
 o 45 (.bin .shr (.t 44) (.c (.int .u64 3))),
 o 46 (.call n_sha_three [.t 43, .c (.int .i64 7), .c (.int .i64 18), .t 45]),
 o 47 (.bin .add (.t 42) (.t 46)),
 o 48 (.mv (.t 7)),
 o 49 (.bin .sub (.t 48) (.c (.int .i64 7))),
 o 50 (.iaddrA 64 1 (.t 4) (.t 49)),
 o 51 (.load 1 false (.t 50)),
 o 52 (.bin .add (.t 47) (.t 51)),
 o 53 (.mv (.t 9)),
 o 54 (.mv (.t 9)),
 o 55 (.bin .shr (.t 54) (.c (.int .u64 10))),
 o 56 (.call n_sha_three [.t 53, .c (.int .i64 17), .c (.int .i64 19), .t 55]),
 o 57 (.bin .add (.t 52) (.t 56)),
 o 58 (.iaddrA 64 1 (.t 4) (.t 38)),
 e (.store 1 (.t 58) (.t 57))] [0, 4, 7]))) (
.reg none [
 o 28 (.mv (.t 7)),
 o 29 (.bin .add (.t 28) (.c (.int .i64 1))),
 o 7 (.mv (.t 29))] [0, 4, 7])))))))) (
.seq (.reg none [
 o 59 (.mv (.t 0)),
 o 60 (.nilchk (.t 59)),
 o 61 (.load 8 true (.t 60)),
 o 10 (.alloc (.agg [.int .u32 0, .int .u32 0, .int .u32 0, .int .u32 0, .int .u32 0, .int .u32 0, .int .u32 0, .int .u32 0])),
 e (.store 8 (.t 10) (.t 61))] [0, 4, 10]) (
.seq (.seq (.reg none [
 o 62 (.call n_sha_constants []),
 o 63 (.mv (.c (.int .i64 0)))] [0, 4, 10, 62, 63]) (
.block 2 (
.wk (.loop (.wk (
.seq (.reg none [
 o 64 (.bin .lss (.t 63) (.c (.int .i64 64)))] [0, 4, 10, 62, 63, 64]) (
.seq (.cond (.t 64) (.skip) (
.exit 2)) (
.seq (.block 3 (
.seq (.reg none [
 o 65 (.mv (.t 63)),
 o 66 (.idxA 64 1 false (.t 62) (.t 63)),
 o 11 (.mv (.t 65)),
 o 12 (.mv (.t 66))] [0, 4, 10, 11, 12, 62, 63]) (
.seq (.reg (some 6) [
 o 67 (.iaddrA 8 1 (.t 10) (.c (.int .i64 4))),
 o 68 (.load 1 false (.t 67)),
 o 69 (.iaddrA 8 1 (.t 10) (.c (.int .i64 0))),
 o 70 (.load 1 false (.t 69)),
 o 13 (.mv (.t 68)),
 o 14 (.mv (.t 70))] [0, 4, 10, 11, 12, 13, 14, 62, 63]) (
.seq (.reg (some 25) [
 o 71 (.iaddrA 8 1 (.t 10) (.c (.int .i64 7))),
 o 72 (.load 1 false (.t 71)),
 o 73 (.mv (.t 13)),
 o 74 (.mv (.t 13)),
 o 75 (.call n_word_Right [.t 74, .c (.int .i64 25)]),
 o 76 (.call n_sha_three [.t 73, .c (.int .i64 6), .c (.int .i64 11), .t 75]),
 o 77 (.bin .add (.t 72) (.t 76)),
 o 78 (.mv (.t 13)),
 o 79 (.iaddrA 8 1 (.t 10) (.c (.int .i64 5))),
 o 80 (.load 1 false (.t 79)),
 o 81 (.bin .and (.t 78) (.t 80)),
 o 82 (.mv (.t 13)),
 o 83 (.un .xor (.t 82)),
 o 84 (.iaddrA 8 1 (.t 10) (.c (.int .i64 6))),
 o 85 (.load 1 false (.t 84)),
 o 86 (.bin .and (.t 83) (.t 85)),
 o 87 (.bin .xor (.t 81) (.t 86)),
 o 88 (.bin .add (.t 77) (.t 87)),
 o 89 (.mv (.t 12)),
 o 90 (.bin .add (.t 88) (.t 89)),
 o 91 (.mv (.t 11)),
 o 92 (.iaddrA 64 1 (.t 4) (.t 91)),
 o 93 (.load 1 false (.t 92)),
 o 94 (.bin .add (.t 90) (.t 93)),
 o 15 (.mv (.t 94))] [0, 4, 10, 14, 15, 62, 63]) (
.seq (.reg (some 21) [
 o 95 (.mv (.t 14)),
 o 96 (.mv (.t 14)),
 o 97 (.call n_word_Right [.t 96, .c (.int .i64 22)]),
 o 98 (.call n_sha_three [.t 95, .c (.int .i64 2), .c (.int .i64 13), .t 97]),
 o 99 (.mv (.t 14)),
 o 100 (.iaddrA 8 1 (.t 10) (.c (.int .i64 1))),
 o 101 (.load 1 false (.t 100)),
 o 102 (.bin .and (.t 99) (.t 101)),
 o 103 (.mv (.t 14)),
 o 104 (.iaddrA 8 1 (.t 10) (.c (.int .i64 2))),
 o 105 (.load 1 false (.t 104)),
 o 106 (.bin .and (.t 103) (.t 105)),
 o 107 (.bin .xor (.t 102) (.t 106)),
 o 108 (.iaddrA 8 1 (.t 10) (.c (.int .i64 1))),
 o 109 (.load 1 false (.t 108)),
 o 110 (.iaddrA 8 1 (.t 10) (.c (.int .i64 2))),
 o 111 (.load 1 false (.t 110)),
 o 112 (.bin .and (.t 109) (.t 111)),
 o 113 (.bin .xor (.t 107) (.t 112)),
 o 114 (.bin .add (.t 98) (.t 113)),
 o 16 (.mv (.t 114))] [0, 4, 10, 15, 16, 62, 63]) (
.reg none [
 o 115 (.mv (.t 15)),
 o 116 (.mv (.t 16)),
 o 117 (.bin .add (.t 115) (.t 116)),
 o 118 (.iaddrA 8 1 (.t 10) (.c (.int .i64 0))),
 o 119 (.load 1 false (.t 118)),
 o 120 (.iaddrA 8 1 (.t 10) (.c (.int .i64 1))),
 o 121 (.load 1 false (.t 120)),
 o 122 (.iaddrA 8 1 (.t 10) (.c (.int .i64 2))),
 o 123 (.load 1 false (.t 122)),
 o 124 (.iaddrA 8 1 (.t 10) (.c (.int .i64 3))),
 o 125 (.load 1 false (.t 124)),
 o 126 (.mv (.t 15)),
 o 127 (.bin .add (.t 125) (.t 126)),
 o 128 (.iaddrA 8 1 (.t 10) (.c (.int .i64 4))),
 o 129 (.load 1 false (.t 128)),
 o 130 (.iaddrA 8 1 (.t 10) (.c (.int .i64 5))),
 o 131 (.load 1 false (.t 130)),
 o 132 (.iaddrA 8 1 (.t 10) (.c (.int .i64 6))),
 o 133 (.load 1 false (.t 132)),
 o 134 (.build [.int .u32 0, .int .u32 0, .int .u32 0, .int .u32 0, .int .u32 0, .int .u32 0, .int .u32 0, .int .u32 0] [(0, .t 117), (1, .t 119), (2, .t 121), (3, .t 123), (4, .t 127), (5, .t 129), (6, .t 131), (7, .t 133)]),
 e (.store 8 (.t 10) (.t 134))] [0, 4, 10, 62, 63])))))) (
.reg none [
 o 135 (.bin .add (.t 63) (.c (.int .i64 1))),
 o 63 (.mv (.t 135))] [0, 4, 10, 62, 63]))))))))) (
.seq (.reg none [
 o 136 (.mv (.c (.int .i64 0)))] [0, 10, 136]) (
.block 4 (
.wk (.loop (.wk (
.seq (.reg none [
 o 137 (.bin .lss (.t 136) (.c (.int .i64 8)))] [0, 10, 136, 137]) (
.seq (.cond (.t 137) (.skip) (
.exit 4)) (
.seq (.block 5 (
.seq (.reg none [
 o 138 (.mv (.t 136)),
 o 17 (.mv (.t 138))] [0, 10, 17, 136]) (
.reg (some 11) [
 o 139 (.mv (.t 0)),
 o 140 (.mv (.t 17)),
 o 141 (.nilchk (.t 139)),
 o 142 (.iaddrA 8 1 (.t 141) (.t 140)),
 o 143 (.load 1 false (.t 142)),
 o 144 (.mv (.t 17)),
 o 145 (.iaddrA 8 1 (.t 10) (.t 144)),
 o 146 (.load 1 false (.t 145)),
 o 147 (.bin .add (.t 143) (.t 146)),
 o 148 (.nilchk (.t 139)),
 o 149 (.iaddrA 8 1 (.t 148) (.t 140)),
 e (.store 1 (.t 149) (.t 147))] [0, 10, 136]))) (
.reg none [
 o 150 (.bin .add (.t 136) (.c (.int .i64 1))),
 o 136 (.mv (.t 150))] [0, 10, 136]))))))))))))))
def r_sha_state_add : List RD := []
theorem k_sha_state_add : chkFn Pg n_sha_state_add c_sha_state_add r_sha_state_add 2 = true := by kernel_rfl
/-- slices.Clone[[]quitclaim/api.Id,quitclaim/api.Id] -/
def c_slices_Clone_Id : CC :=
.seq (.reg none [
 o 2 (.mv (.c (.sl 32 [] .full)))] [0]) (
.seq (.seq (.reg none [
 o 3 (.mv (.t 0)),
 o 4 (.nilSl false (.t 3))] [0, 4]) (
.cond (.t 4) (.seq (.reg none [
 o 2 (.mv (.c (.sl 32 [] .full)))] [2]) (
.ret)) (
.skip))) (
.seq (.reg none [
 o 5 (.lit 32 (.agg [.int .u8 0, .int .u8 0, .int .u8 0, .int .u8 0, .int .u8 0, .int .u8 0, .int .u8 0, .int .u8 0, .int .u8 0, .int .u8 0, .int .u8 0, .int .u8 0, .int .u8 0, .int .u8 0, .int .u8 0, .int .u8 0, .int .u8 0, .int .u8 0, .int .u8 0, .int .u8 0, .int .u8 0, .int .u8 0, .int .u8 0, .int .u8 0, .int .u8 0, .int .u8 0, .int .u8 0, .int .u8 0, .int .u8 0, .int .u8 0, .int .u8 0, .int .u8 0]) 0 []),
 o 6 (.mv (.t 0)),
 o 7 (.appendA 32 32 (.agg [.int .u8 0, .int .u8 0, .int .u8 0, .int .u8 0, .int .u8 0, .int .u8 0, .int .u8 0, .int .u8 0, .int .u8 0, .int .u8 0, .int .u8 0, .int .u8 0, .int .u8 0, .int .u8 0, .int .u8 0, .int .u8 0, .int .u8 0, .int .u8 0, .int .u8 0, .int .u8 0, .int .u8 0, .int .u8 0, .int .u8 0, .int .u8 0, .int .u8 0, .int .u8 0, .int .u8 0, .int .u8 0, .int .u8 0, .int .u8 0, .int .u8 0, .int .u8 0]) (.t 5) (.t 6)),
 o 2 (.mv (.t 7))] [2]) (
.ret)))
def r_slices_Clone_Id : List RD := [.tmp 2]
theorem k_slices_Clone_Id : chkFn Pg n_slices_Clone_Id c_slices_Clone_Id r_slices_Clone_Id 1 = true := by kernel_rfl
/-- slices.Equal[[]quitclaim/api.Id,quitclaim/api.Id] -/
def c_slices_Equal_Id : CC :=
.seq (.reg none [
 o 4 (.mv (.c (.bool false)))] [0, 1]) (
.seq (.seq (.reg none [
 o 6 (.mv (.t 0)),
 o 7 (.len 1 (.t 6)),
 o 8 (.mv (.t 1)),
 o 9 (.len 1 (.t 8)),
 o 10 (.bin .neq (.t 7) (.t 9))] [0, 1, 10]) (
.cond (.t 10) (.seq (.reg none [
 o 4 (.mv (.c (.bool false)))] [4]) (
.ret)) (
.skip))) (
.seq (.seq (.reg none [
 o 11 (.mv (.t 0)),
 o 12 (.len 1 (.t 11)),
 o 13 (.mv (.c (.int .i64 0)))] [0, 1, 12, 13]) (
.block 0 (
.wk (.loop (.wk (
.seq (.reg none [
 o 14 (.bin .lss (.t 13) (.t 12))] [0, 1, 12, 13, 14]) (
.seq (.cond (.t 14) (.skip) (
.exit 0)) (
.seq (.block 1 (
.seq (.reg none [
 o 15 (.mv (.t 13)),
 o 5 (.mv (.t 15))] [0, 1, 5, 12, 13]) (
.seq (.reg (some 9) [
 o 16 (.mv (.t 0)),
 o 17 (.mv (.t 5)),
 o 18 (.iaddr 32 (.t 16) (.t 17)),
 o 19 (.load 32 true (.t 18)),
 o 20 (.mv (.t 1)),
 o 21 (.mv (.t 5)),
 o 22 (.iaddr 32 (.t 20) (.t 21)),
 o 23 (.load 32 true (.t 22)),
 o 24 (.eqv (.arr 32 (.int .u8)) true (.t 19) (.t 23))] [0, 1, 12, 13, 24]) (
.cond (.t 24) (.seq (.reg none [
 o 4 (.mv (.c (.bool false)))] [4]) (
.ret)) (
.skip))))) (
.reg none [
 o 25 (.bin .add (.t 13) (.c (.int .i64 1))),
 o 13 (.mv (.t 25))] [0, 1, 12, 13]))))))))) (
.seq (.reg none [
 o 4 (.mv (.c (.bool true)))] [4]) (
.ret))))
def r_slices_Equal_Id : List RD := [.tmp 4]
theorem k_slices_Equal_Id : chkFn Pg n_slices_Equal_Id c_slices_Equal_Id r_slices_Equal_Id 2 = true := by kernel_rfl
/-- slices.nextPowerOfTwo -/
def c_slices_nextPowerOfTwo : CC :=
.seq (.reg none [
 o 2 (.mv (.c (.int .u64 0)))] [0]) (
.seq (.reg none [
 o 3 (.mv (.t 0)),
 o 4 (.conv .u64 (.t 3)),
 o 5 (.call n_bits_Len [.t 4]),
 o 6 (.bin .shl (.c (.int .u64 1)) (.t 5)),
 o 2 (.mv (.t 6))] [2]) (
.ret))
def r_slices_nextPowerOfTwo : List RD := [.tmp 2]
theorem k_slices_nextPowerOfTwo : chkFn Pg n_slices_nextPowerOfTwo c_slices_nextPowerOfTwo r_slices_nextPowerOfTwo 1 = true := by kernel_rfl
/-- slices.siftDownCmpFunc[quitclaim/api.Id] -/
def c_slices_siftDownCmpFunc_Id : CC :=
.seq (.reg none [
 o 12 (.mv (.t 1)),
 o 10 (.mv (.t 12))] [0, 2, 3, 4, 10]) (
.block 0 (
.wk (.loop (.wk (
.block 1 (
.seq (.reg none [
 o 13 (.mv (.t 10)),
 o 14 (.bin .mul (.c (.int .i64 2)) (.t 13)),
 o 15 (.bin .add (.t 14) (.c (.int .i64 1))),
 o 11 (.mv (.t 15))] [0, 2, 3, 4, 10, 11]) (
.seq (.seq (.reg none [
 o 16 (.mv (.t 11)),
 o 17 (.mv (.t 2)),
 o 18 (.bin .geq (.t 16) (.t 17))] [0, 2, 3, 4, 10, 11, 18]) (
.cond (.t 18) (.exit 0) (
.skip))) (
.seq (.seq (.reg (some 22) [
 o 19 (.mv (.t 11)),
 o 20 (.bin .add (.t 19) (.c (.int .i64 1))),
 o 21 (.mv (.t 2)),
 o 22 (.bin .lss (.t 20) (.t 21)),
 o 23 (.mv (.t 22)),
 g 24 (.mv (.t 4)) 23 true,
 g 25 (.mv (.t 0)) 23 true,
 g 26 (.mv (.t 3)) 23 true,
 g 27 (.mv (.t 11)) 23 true,
 g 28 (.bin .add (.t 26) (.t 27)) 23 true,
 g 29 (.iaddr 32 (.t 25) (.t 28)) 23 true,
 g 30 (.load 32 true (.t 29)) 23 true,
 g 31 (.mv (.t 0)) 23 true,
 g 32 (.mv (.t 3)) 23 true,
 g 33 (.mv (.t 11)) 23 true,
 g 34 (.bin .add (.t 32) (.t 33)) 23 true,
 g 35 (.bin .add (.t 34) (.c (.int .i64 1))) 23 true,
 g 36 (.iaddr 32 (.t 31) (.t 35)) 23 true,
 g 37 (.load 32 true (.t 36)) 23 true,
 g 38 (.callv (.t 24) [.t 30, .t 37]) 23 true,
 g 39 (.bin .lss (.t 38) (.c (.int .i64 0))) 23 true,
 o 40 (.pick (.t 23) (.t 39) (.c (.bool false)))] [0, 2, 3, 4, 10, 11, 40]) (
.cond (.t 40) (.reg none [
 o 41 (.mv (.t 11)),
 o 42 (.bin .add (.t 41) (.c (.int .i64 1))),
 o 11 (.mv (.t 42))] [0, 2, 3, 4, 10, 11]) (
.skip))) (
.seq (.seq (.reg (some 16) [
 o 43 (.mv (.t 4)),
 o 44 (.mv (.t 0)),
 o 45 (.mv (.t 3)),
 o 46 (.mv (.t 10)),
 o 47 (.bin .add (.t 45) (.t 46)),
 o 48 (.iaddr 32 (.t 44) (.t 47)),
 o 49 (.load 32 true (.t 48)),
 o 50 (.mv (.t 0)),
 o 51 (.mv (.t 3)),
 o 52 (.mv (.t 11)),
 o 53 (.bin .add (.t 51) (.t 52)),
 o 54 (.iaddr 32 (.t 50) (.t 53)),
 o 55 (.load 32 true (.t 54)),
 o 56 (.callv (.t 43) [.t 49, .t 55]),
 o 57 (.bin .lss (.t 56) (.c (.int .i64 0))),
 o 58 (.not (.t 57))] [0, 2, 3, 4, 10, 11, 58]) (
.cond (.t 58) (.ret) (
.skip))) (
.seq (.regm [
 q 0 0 (o 59 (.mv (.t 0))),
 q 0 0 (o 60 (.mv (.t 3))),
 q 0 0 (o 61 (.mv (.t 10))),
 q 0 0 (o 62 (.bin .add (.t 60) (.t 61))),
 q 0 1 (o 63 (.mv (.t 0))),
 q 0 1 (o 64 (.mv (.t 3))),
 q 0 1 (o 65 (.mv (.t 11))),
 q 0 1 (o 66 (.bin .add (.t 64) (.t 65))),
 q 0 0 (o 67 (.mv (.t 0))),
 q 0 0 (o 68 (.mv (.t 3))),
 q 0 0 (o 69 (.mv (.t 11))),
 q 0 0 (o 70 (.bin .add (.t 68) (.t 69))),
 q 0 0 (o 71 (.iaddr 32 (.t 67) (.t 70))),
 q 0 0 (o 72 (.load 32 true (.t 71))),
 q 0 1 (o 73 (.mv (.t 0))),
 q 0 1 (o 74 (.mv (.t 3))),
 q 0 1 (o 75 (.mv (.t 10))),
 q 0 1 (o 76 (.bin .add (.t 74) (.t 75))),
 q 0 1 (o 77 (.iaddr 32 (.t 73) (.t 76))),
 q 0 0 (o 78 (.load 32 true (.t 77))),
 q 0 0 (o 79 (.iaddr 32 (.t 59) (.t 62))),
 f (e (.store 32 (.t 79) (.t 72))),
 q 1 1 (o 80 (.iaddr 32 (.t 63) (.t 66))),
 f (e (.store 32 (.t 80) (.t 78)))] [0, 2, 3, 4, 11]) (
.reg none [
 o 81 (.mv (.t 11)),
 o 10 (.mv (.t 81))] [0, 2, 3, 4, 10])))))))))))
def r_slices_siftDownCmpFunc_Id : List RD := []
theorem k_slices_siftDownCmpFunc_Id : chkFn Pg n_slices_siftDownCmpFunc_Id c_slices_siftDownCmpFunc_Id r_slices_siftDownCmpFunc_Id 5 = true := by kernel_rfl
/-- (*slices.xorshift).Next -/
def c_slices_xorshift_Next : CC :=
.seq (.reg none [
 o 2 (.mv (.c (.int .u64 0)))] [0]) (
.seq (.reg (some 9) [
 o 3 (.mv (.t 0)),
 o 4 (.nilchk (.t 3)),
 o 5 (.load 1 false (.t 4)),
 o 6 (.mv (.t 0)),
 o 7 (.nilchk (.t 6)),
 o 8 (.load 1 false (.t 7)),
 o 9 (.bin .shl (.t 8) (.c (.int .u64 13))),
 o 10 (.bin .xor (.t 5) (.t 9)),
 o 11 (.nilchk (.t 3)),
 e (.store 1 (.t 11) (.t 10))] [0]) (
.seq (.reg (some 9) [
 o 12 (.mv (.t 0)),
 o 13 (.nilchk (.t 12)),
 o 14 (.load 1 false (.t 13)),
 o 15 (.mv (.t 0)),
 o 16 (.nilchk (.t 15)),
 o 17 (.load 1 false (.t 16)),
 o 18 (.bin .shr (.t 17) (.c (.int .u64 7))),
 o 19 (.bin .xor (.t 14) (.t 18)),
 o 20 (.nilchk (.t 12)),
 e (.store 1 (.t 20) (.t 19))] [0]) (
.seq (.reg (some 9) [
 o 21 (.mv (.t 0)),
 o 22 (.nilchk (.t 21)),
 o 23 (.load 1 false (.t 22)),
 o 24 (.mv (.t 0)),
 o 25 (.nilchk (.t 24)),
 o 26 (.load 1 false (.t 25)),
 o 27 (.bin .shl (.t 26) (.c (.int .u64 17))),
 o 28 (.bin .xor (.t 23) (.t 27)),
 o 29 (.nilchk (.t 21)),
 e (.store 1 (.t 29) (.t 28))] [0]) (
.seq (.reg none [
 o 30 (.mv (.t 0)),
 o 31 (.nilchk (.t 30)),
 o 32 (.load 1 false (.t 31)),
 o 2 (.mv (.t 32))] [2]) (
.ret)))))
def r_slices_xorshift_Next : List RD := [.tmp 2]
theorem k_slices_xorshift_Next : chkFn Pg n_slices_xorshift_Next c_slices_xorshift_Next r_slices_xorshift_Next 1 = true := by kernel_rfl
/-- (*strings.Builder).Len -/
def c_strings_Builder_Len : CC :=
.seq (.reg none [
 o 2 (.mv (.c (.int .i64 0)))] [0]) (
.seq (.reg none [
 o 3 (.mv (.t 0)),
 o 4 (.nilchk (.t 3)),
 o 5 (.faddr 1 1 (.t 4)),
 o 6 (.load 1 false (.t 5)),
 o 7 (.len 1 (.t 6)),
 o 2 (.mv (.t 7))] [2]) (
.ret))
def r_strings_Builder_Len : List RD := [.tmp 2]
theorem k_strings_Builder_Len : chkFn Pg n_strings_Builder_Len c_strings_Builder_Len r_strings_Builder_Len 1 = true := by kernel_rfl
/-- strings.Index -/
def c_strings_Index : CC :=
.seq (.reg none [
 o 4 (.mv (.c (.int .i64 0)))] [0, 1]) (
.seq (.reg none [
 o 5 (.mv (.t 0)),
 o 6 (.mv (.t 1)),
 o 7 (.call n_stringslite_Index [.t 5, .t 6]),
 o 4 (.mv (.t 7))] [4]) (
.ret))
def r_strings_Index : List RD := [.tmp 4]
theorem k_strings_Index : chkFn Pg n_strings_Index c_strings_Index r_strings_Index 2 = true := by kernel_rfl
/-- quitclaim/word.Bytes -/
def c_word_Bytes : CC :=
.seq (.reg none [
 o 2 (.mv (.c (.str [])))] [0]) (
.seq (.reg none [
 o 6 (.mv (.t 0)),
 o 7 (.len 1 (.t 6)),
 o 8 (.bin .mul (.c (.int .i64 4)) (.t 7)),
 o 9 (.mkslR 1 1 (.int .u8 0) (.c (.int .i64 0)) (.t 8)),
 o 3 (.mv (.t 9))] [0, 3]) (
.seq (.seq (.reg none [
 o 10 (.mv (.t 0)),
 o 11 (.len 1 (.t 10)),
 o 12 (.mv (.c (.int .i64 0)))] [3, 10, 11, 12]) (
.block 0 (
.wk (.loop (.wk (
.seq (.reg none [
 o 13 (.bin .lss (.t 12) (.t 11))] [3, 10, 11, 12, 13]) (
.seq (.cond (.t 13) (.skip) (
.exit 0)) (
.seq (.block 1 (
.seq (.reg none [
 o 14 (.iaddr 1 (.t 10) (.t 12)),
 o 15 (.load 1 false (.t 14)),
 o 5 (.mv (.t 15))] [3, 5, 10, 11, 12]) (
.reg none [
 o 16 (.mv (.t 3)),
 o 17 (.mv (.t 5)),
 o 18 (.bin .shr (.t 17) (.c (.int .u64 24))),
 o 19 (.conv .u8 (.t 18)),
 o 20 (.mv (.t 5)),
 o 21 (.bin .shr (.t 20) (.c (.int .u64 16))),
 o 22 (.conv .u8 (.t 21)),
 o 23 (.mv (.t 5)),
 o 24 (.bin .shr (.t 23) (.c (.int .u64 8))),
 o 25 (.conv .u8 (.t 24)),
 o 26 (.mv (.t 5)),
 o 27 (.conv .u8 (.t 26)),
 o 28 (.lit 1 (.int .u8 0) 4 [(0, .t 19), (1, .t 22), (2, .t 25), (3, .t 27)]),
 o 29 (.append 1 1 (.t 16) (.t 28)),
 o 3 (.mv (.t 29))] [3, 10, 11, 12]))) (
.reg none [
 o 30 (.bin .add (.t 12) (.c (.int .i64 1))),
 o 12 (.mv (.t 30))] [3, 10, 11, 12]))))))))) (
.seq (.reg none [
 o 31 (.mv (.t 3)),
 o 32 (.b2s (.t 31)),
 o 2 (.mv (.t 32))] [2]) (
.ret))))
def r_word_Bytes : List RD := [.tmp 2]
theorem k_word_Bytes : chkFn Pg n_word_Bytes c_word_Bytes r_word_Bytes 1 = true := by kernel_rfl
/-- quitclaim/word.Right -/
def c_word_Right : CC :=
.seq (.reg none [
 o 4 (.mv (.c (.int .u32 0)))] [0, 1]) (
.seq (.reg none [
 o 5 (.mv (.t 0)),
 o 6 (.mv (.t 1)),
 o 7 (.bin .and (.t 6) (.c (.int .i64 31))),
 o 8 (.bin .sub (.c (.int .i64 32)) (.t 7)),
 o 9 (.call n_word_Left [.t 5, .t 8]),
 o 4 (.mv (.t 9))] [4]) (
.ret))
def r_word_Right : List RD := [.tmp 4]
theorem k_word_Right : chkFn Pg n_word_Right c_word_Right r_word_Right 2 = true := by kernel_rfl
end Go.Abs
end
