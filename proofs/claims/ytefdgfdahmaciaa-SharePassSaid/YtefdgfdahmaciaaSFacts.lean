/- A part of the proof: what functions of the program answer, of whatever arguments, reckoned with letters by the interpreter's equations. Its conditions stand in each theorem. -/
import Derived.Test.YtefdgfdahmaciaaProg
import Derived.Test.YtefdgfdahmaciaaAbSim
import Derived.WalkKit
/-! Facts about the program's types. -/
namespace Go.Proofs.Sw
set_option linter.unusedVariables false
set_option linter.unusedSimpArgs false
set_option linter.unusedSectionVars false
open Go.Ab
variable [Globals]
noncomputable def RA7_10 : Code := rfAs Try.f7 10
noncomputable def RB7_10 : Code := rfBd Try.f7 10
noncomputable def RA31_11 : Code := rfAs Try.f31 11
noncomputable def RB31_11 : Code := rfBd Try.f31 11
noncomputable def RA33_6 : Code := rfAs Try.f33 6
noncomputable def RB33_6 : Code := rfBd Try.f33 6
noncomputable def RA46_11 : Code := rfAs Try.f46 11
noncomputable def RB46_11 : Code := rfBd Try.f46 11
noncomputable def RA75_9 : Code := rfAs Try.f75 9
noncomputable def RB75_9 : Code := rfBd Try.f75 9
noncomputable def RA110_3 : Code := rfAs Try.f110 3
noncomputable def RB110_3 : Code := rfBd Try.f110 3
noncomputable def RA5_12 : Code := rfAs Try.f5 12
noncomputable def RB5_12 : Code := rfBd Try.f5 12
noncomputable def RA5_32 : Code := rfAs Try.f5 32
noncomputable def RB5_32 : Code := rfBd Try.f5 32
def tab : Tab := ⟨[(3, 18, 99, [1, 3, 10, 11, 12]), (3, 22, 99, [1, 3, 11, 13]), (5, 19, 163, [2, 3, 4, 5, 7, 9, 10, 11]), (5, 28, 163, [3, 4, 7, 10, 14]), (7, 19, 127, [2, 5, 6, 7, 8, 9, 11, 12, 71, 72, 73]), (7, 27, 127, [2, 5, 6, 112, 113]), (16, 7, 106, [1, 2, 6, 7, 32, 33, 34]), (16, 19, 106, [2, 6, 7, 84, 85, 86]), (19, 4, 139, [1, 2, 3, 4, 5]), (19, 19, 139, [1, 2, 3, 4, 12]), (20, 4, 73, [2, 3, 5]), (20, 9, 73, [2, 3, 6]), (25, 7, 51, [6, 7, 23, 24, 25]), (27, 3, 42, [1, 3, 4]), (28, 9, 139, [0, 1, 8, 9]), (30, 6, 54, [1, 2, 6, 19, 20, 21]), (31, 6, 55, [4, 6, 25, 26, 27]), (31, 14, 55, [6, 44, 45, 46]), (32, 4, 26, [0, 1, 12, 13]), (36, 4, 42, [1, 3, 4, 5]), (37, 5, 34, [1, 2, 3, 4, 5]), (38, 4, 96, [1, 3, 4, 5]), (38, 8, 96, [1, 3, 4, 5, 6, 7]), (38, 12, 96, [1, 3, 4, 5, 7, 8, 9]), (38, 17, 96, [1, 3, 4, 5, 6, 10]), (39, 4, 26, [0, 1, 12, 13]), (46, 6, 62, [1, 4, 5, 23, 24, 25]), (46, 16, 62, [5, 51, 52, 53]), (53, 3, 99, [1, 3, 4]), (53, 8, 99, [1, 3, 4, 5, 6, 7]), (53, 12, 99, [1, 3, 4, 5, 7, 8, 9]), (53, 18, 99, [1, 3, 4, 5, 6, 10]), (54, 3, 37, [2, 3, 4]), (54, 7, 37, [3, 5]), (62, 4, 72, [1, 42, 43, 44]), (62, 10, 72, [1, 58, 59, 60]), (63, 3, 32, [1, 3, 13, 14]), (66, 2, 22, [1, 10, 11, 12]), (67, 4, 79, [1, 4]), (67, 9, 79, [1, 5]), (68, 2, 25, [0, 1, 5]), (73, 4, 57, [0, 5, 20, 21, 22]), (75, 3, 58, [1, 3, 15, 16, 17]), (75, 15, 58, [3, 47, 48, 49]), (80, 3, 39, [0, 1, 15, 16, 17]), (86, 2, 19, [0, 1, 7, 8]), (87, 4, 26, [0, 1, 12, 13]), (100, 4, 57, [1, 43, 44, 45]), (128, 1, 19, [0, 1, 3])], [(7, 6, 1), (30, 11, 7), (3, 6, 1), (3, 13, 1)], [(7, 22, 3, 0), (15, 2, 4, 0), (15, 3, 4, 1), (30, 9, 7, 0), (33, 7, 3, 0), (36, 7, 19, 0), (37, 8, 8, 0), (5, 26, 5, 0), (25, 11, 3, 0), (27, 6, 7, 0), (27, 7, 8, 0), (28, 14, 7, 2), (16, 15, 4, 0), (16, 21, 12, 1), (63, 5, 10, 0), (19, 15, 7, 0), (19, 16, 12, 0), (19, 21, 16, 1)], [(7, 1), (15, 2), (30, 1), (33, 1), (36, 1), (37, 1), (5, 2), (25, 1), (27, 1), (28, 1), (16, 2), (63, 1), (19, 3)], [27, 28, 63, 64, 65, 66, 68, 101], [(5, 21, 7, [1]), (19, 7, 3, [2])], [], [(3, 18), (3, 22), (54, 3), (54, 7)]⟩
theorem lp3_18 : (tab.loops.find? fun e => e.1 == 3 && e.2.1 == 18) = some (3, 18, 99, [1, 3, 10, 11, 12]) := by rfl
noncomputable def LB3_18 : Code := loopOf Try.f3 18
theorem lp3_22 : (tab.loops.find? fun e => e.1 == 3 && e.2.1 == 22) = some (3, 22, 99, [1, 3, 11, 13]) := by rfl
noncomputable def LB3_22 : Code := loopOf Try.f3 22
theorem lp5_19 : (tab.loops.find? fun e => e.1 == 5 && e.2.1 == 19) = some (5, 19, 163, [2, 3, 4, 5, 7, 9, 10, 11]) := by rfl
noncomputable def LB5_19 : Code := loopOf Try.f5 19
theorem lp5_28 : (tab.loops.find? fun e => e.1 == 5 && e.2.1 == 28) = some (5, 28, 163, [3, 4, 7, 10, 14]) := by rfl
noncomputable def LB5_28 : Code := loopOf Try.f5 28
theorem lp7_19 : (tab.loops.find? fun e => e.1 == 7 && e.2.1 == 19) = some (7, 19, 127, [2, 5, 6, 7, 8, 9, 11, 12, 71, 72, 73]) := by rfl
noncomputable def LB7_19 : Code := loopOf Try.f7 19
theorem lp7_27 : (tab.loops.find? fun e => e.1 == 7 && e.2.1 == 27) = some (7, 27, 127, [2, 5, 6, 112, 113]) := by rfl
noncomputable def LB7_27 : Code := loopOf Try.f7 27
theorem lp16_7 : (tab.loops.find? fun e => e.1 == 16 && e.2.1 == 7) = some (16, 7, 106, [1, 2, 6, 7, 32, 33, 34]) := by rfl
noncomputable def LB16_7 : Code := loopOf Try.f16 7
theorem lp16_19 : (tab.loops.find? fun e => e.1 == 16 && e.2.1 == 19) = some (16, 19, 106, [2, 6, 7, 84, 85, 86]) := by rfl
noncomputable def LB16_19 : Code := loopOf Try.f16 19
theorem lp19_4 : (tab.loops.find? fun e => e.1 == 19 && e.2.1 == 4) = some (19, 4, 139, [1, 2, 3, 4, 5]) := by rfl
noncomputable def LB19_4 : Code := loopOf Try.f19 4
theorem lp19_19 : (tab.loops.find? fun e => e.1 == 19 && e.2.1 == 19) = some (19, 19, 139, [1, 2, 3, 4, 12]) := by rfl
noncomputable def LB19_19 : Code := loopOf Try.f19 19
theorem lp20_4 : (tab.loops.find? fun e => e.1 == 20 && e.2.1 == 4) = some (20, 4, 73, [2, 3, 5]) := by rfl
noncomputable def LB20_4 : Code := loopOf Try.f20 4
theorem lp20_9 : (tab.loops.find? fun e => e.1 == 20 && e.2.1 == 9) = some (20, 9, 73, [2, 3, 6]) := by rfl
noncomputable def LB20_9 : Code := loopOf Try.f20 9
theorem lp25_7 : (tab.loops.find? fun e => e.1 == 25 && e.2.1 == 7) = some (25, 7, 51, [6, 7, 23, 24, 25]) := by rfl
noncomputable def LB25_7 : Code := loopOf Try.f25 7
theorem lp27_3 : (tab.loops.find? fun e => e.1 == 27 && e.2.1 == 3) = some (27, 3, 42, [1, 3, 4]) := by rfl
noncomputable def LB27_3 : Code := loopOf Try.f27 3
theorem lp28_9 : (tab.loops.find? fun e => e.1 == 28 && e.2.1 == 9) = some (28, 9, 139, [0, 1, 8, 9]) := by rfl
noncomputable def LB28_9 : Code := loopOf Try.f28 9
theorem lp30_6 : (tab.loops.find? fun e => e.1 == 30 && e.2.1 == 6) = some (30, 6, 54, [1, 2, 6, 19, 20, 21]) := by rfl
noncomputable def LB30_6 : Code := loopOf Try.f30 6
theorem lp31_6 : (tab.loops.find? fun e => e.1 == 31 && e.2.1 == 6) = some (31, 6, 55, [4, 6, 25, 26, 27]) := by rfl
noncomputable def LB31_6 : Code := loopOf Try.f31 6
theorem lp31_14 : (tab.loops.find? fun e => e.1 == 31 && e.2.1 == 14) = some (31, 14, 55, [6, 44, 45, 46]) := by rfl
noncomputable def LB31_14 : Code := loopOf Try.f31 14
theorem lp32_4 : (tab.loops.find? fun e => e.1 == 32 && e.2.1 == 4) = some (32, 4, 26, [0, 1, 12, 13]) := by rfl
noncomputable def LB32_4 : Code := loopOf Try.f32 4
theorem lp36_4 : (tab.loops.find? fun e => e.1 == 36 && e.2.1 == 4) = some (36, 4, 42, [1, 3, 4, 5]) := by rfl
noncomputable def LB36_4 : Code := loopOf Try.f36 4
theorem lp37_5 : (tab.loops.find? fun e => e.1 == 37 && e.2.1 == 5) = some (37, 5, 34, [1, 2, 3, 4, 5]) := by rfl
noncomputable def LB37_5 : Code := loopOf Try.f37 5
theorem lp38_4 : (tab.loops.find? fun e => e.1 == 38 && e.2.1 == 4) = some (38, 4, 96, [1, 3, 4, 5]) := by rfl
noncomputable def LB38_4 : Code := loopOf Try.f38 4
theorem lp38_8 : (tab.loops.find? fun e => e.1 == 38 && e.2.1 == 8) = some (38, 8, 96, [1, 3, 4, 5, 6, 7]) := by rfl
noncomputable def LB38_8 : Code := loopOf Try.f38 8
theorem lp38_12 : (tab.loops.find? fun e => e.1 == 38 && e.2.1 == 12) = some (38, 12, 96, [1, 3, 4, 5, 7, 8, 9]) := by rfl
noncomputable def LB38_12 : Code := loopOf Try.f38 12
theorem lp38_17 : (tab.loops.find? fun e => e.1 == 38 && e.2.1 == 17) = some (38, 17, 96, [1, 3, 4, 5, 6, 10]) := by rfl
noncomputable def LB38_17 : Code := loopOf Try.f38 17
theorem lp39_4 : (tab.loops.find? fun e => e.1 == 39 && e.2.1 == 4) = some (39, 4, 26, [0, 1, 12, 13]) := by rfl
noncomputable def LB39_4 : Code := loopOf Try.f39 4
theorem lp46_6 : (tab.loops.find? fun e => e.1 == 46 && e.2.1 == 6) = some (46, 6, 62, [1, 4, 5, 23, 24, 25]) := by rfl
noncomputable def LB46_6 : Code := loopOf Try.f46 6
theorem lp46_16 : (tab.loops.find? fun e => e.1 == 46 && e.2.1 == 16) = some (46, 16, 62, [5, 51, 52, 53]) := by rfl
noncomputable def LB46_16 : Code := loopOf Try.f46 16
theorem lp53_3 : (tab.loops.find? fun e => e.1 == 53 && e.2.1 == 3) = some (53, 3, 99, [1, 3, 4]) := by rfl
noncomputable def LB53_3 : Code := loopOf Try.f53 3
theorem lp53_8 : (tab.loops.find? fun e => e.1 == 53 && e.2.1 == 8) = some (53, 8, 99, [1, 3, 4, 5, 6, 7]) := by rfl
noncomputable def LB53_8 : Code := loopOf Try.f53 8
theorem lp53_12 : (tab.loops.find? fun e => e.1 == 53 && e.2.1 == 12) = some (53, 12, 99, [1, 3, 4, 5, 7, 8, 9]) := by rfl
noncomputable def LB53_12 : Code := loopOf Try.f53 12
theorem lp53_18 : (tab.loops.find? fun e => e.1 == 53 && e.2.1 == 18) = some (53, 18, 99, [1, 3, 4, 5, 6, 10]) := by rfl
noncomputable def LB53_18 : Code := loopOf Try.f53 18
theorem lp54_3 : (tab.loops.find? fun e => e.1 == 54 && e.2.1 == 3) = some (54, 3, 37, [2, 3, 4]) := by rfl
noncomputable def LB54_3 : Code := loopOf Try.f54 3
theorem lp54_7 : (tab.loops.find? fun e => e.1 == 54 && e.2.1 == 7) = some (54, 7, 37, [3, 5]) := by rfl
noncomputable def LB54_7 : Code := loopOf Try.f54 7
theorem lp62_4 : (tab.loops.find? fun e => e.1 == 62 && e.2.1 == 4) = some (62, 4, 72, [1, 42, 43, 44]) := by rfl
noncomputable def LB62_4 : Code := loopOf Try.f62 4
theorem lp62_10 : (tab.loops.find? fun e => e.1 == 62 && e.2.1 == 10) = some (62, 10, 72, [1, 58, 59, 60]) := by rfl
noncomputable def LB62_10 : Code := loopOf Try.f62 10
theorem lp63_3 : (tab.loops.find? fun e => e.1 == 63 && e.2.1 == 3) = some (63, 3, 32, [1, 3, 13, 14]) := by rfl
noncomputable def LB63_3 : Code := loopOf Try.f63 3
theorem lp66_2 : (tab.loops.find? fun e => e.1 == 66 && e.2.1 == 2) = some (66, 2, 22, [1, 10, 11, 12]) := by rfl
noncomputable def LB66_2 : Code := loopOf Try.f66 2
theorem lp67_4 : (tab.loops.find? fun e => e.1 == 67 && e.2.1 == 4) = some (67, 4, 79, [1, 4]) := by rfl
noncomputable def LB67_4 : Code := loopOf Try.f67 4
theorem lp67_9 : (tab.loops.find? fun e => e.1 == 67 && e.2.1 == 9) = some (67, 9, 79, [1, 5]) := by rfl
noncomputable def LB67_9 : Code := loopOf Try.f67 9
theorem lp68_2 : (tab.loops.find? fun e => e.1 == 68 && e.2.1 == 2) = some (68, 2, 25, [0, 1, 5]) := by rfl
noncomputable def LB68_2 : Code := loopOf Try.f68 2
theorem lp73_4 : (tab.loops.find? fun e => e.1 == 73 && e.2.1 == 4) = some (73, 4, 57, [0, 5, 20, 21, 22]) := by rfl
noncomputable def LB73_4 : Code := loopOf Try.f73 4
theorem lp75_3 : (tab.loops.find? fun e => e.1 == 75 && e.2.1 == 3) = some (75, 3, 58, [1, 3, 15, 16, 17]) := by rfl
noncomputable def LB75_3 : Code := loopOf Try.f75 3
theorem lp75_15 : (tab.loops.find? fun e => e.1 == 75 && e.2.1 == 15) = some (75, 15, 58, [3, 47, 48, 49]) := by rfl
noncomputable def LB75_15 : Code := loopOf Try.f75 15
theorem lp80_3 : (tab.loops.find? fun e => e.1 == 80 && e.2.1 == 3) = some (80, 3, 39, [0, 1, 15, 16, 17]) := by rfl
noncomputable def LB80_3 : Code := loopOf Try.f80 3
theorem lp86_2 : (tab.loops.find? fun e => e.1 == 86 && e.2.1 == 2) = some (86, 2, 19, [0, 1, 7, 8]) := by rfl
noncomputable def LB86_2 : Code := loopOf Try.f86 2
theorem lp87_4 : (tab.loops.find? fun e => e.1 == 87 && e.2.1 == 4) = some (87, 4, 26, [0, 1, 12, 13]) := by rfl
noncomputable def LB87_4 : Code := loopOf Try.f87 4
theorem lp100_4 : (tab.loops.find? fun e => e.1 == 100 && e.2.1 == 4) = some (100, 4, 57, [1, 43, 44, 45]) := by rfl
noncomputable def LB100_4 : Code := loopOf Try.f100 4
theorem lp128_1 : (tab.loops.find? fun e => e.1 == 128 && e.2.1 == 1) = some (128, 1, 19, [0, 1, 3]) := by rfl
noncomputable def LB128_1 : Code := loopOf Try.f128 1
theorem fb7 : inB tab.frames 7 = false := by rfl
theorem fb9 : inB tab.frames 9 = false := by rfl
theorem fb15 : inB tab.frames 15 = false := by rfl
theorem fb17 : inB tab.frames 17 = false := by rfl
theorem fb20 : inB tab.frames 20 = false := by rfl
theorem fb29 : inB tab.frames 29 = false := by rfl
theorem fb30 : inB tab.frames 30 = false := by rfl
theorem fb31 : inB tab.frames 31 = false := by rfl
theorem fb32 : inB tab.frames 32 = false := by rfl
theorem fb33 : inB tab.frames 33 = false := by rfl
theorem fb34 : inB tab.frames 34 = false := by rfl
theorem fb35 : inB tab.frames 35 = false := by rfl
theorem fb36 : inB tab.frames 36 = false := by rfl
theorem fb37 : inB tab.frames 37 = false := by rfl
theorem fb38 : inB tab.frames 38 = false := by rfl
theorem fb39 : inB tab.frames 39 = false := by rfl
theorem fb46 : inB tab.frames 46 = false := by rfl
theorem fb47 : inB tab.frames 47 = false := by rfl
theorem fb48 : inB tab.frames 48 = false := by rfl
theorem fb67 : inB tab.frames 67 = false := by rfl
theorem fb74 : inB tab.frames 74 = false := by rfl
theorem fb62 : inB tab.frames 62 = false := by rfl
theorem fb75 : inB tab.frames 75 = false := by rfl
theorem fb76 : inB tab.frames 76 = false := by rfl
theorem fb77 : inB tab.frames 77 = false := by rfl
theorem fb78 : inB tab.frames 78 = false := by rfl
theorem fb79 : inB tab.frames 79 = false := by rfl
theorem fb80 : inB tab.frames 80 = false := by rfl
theorem fb53 : inB tab.frames 53 = false := by rfl
theorem fb81 : inB tab.frames 81 = false := by rfl
theorem fb85 : inB tab.frames 85 = false := by rfl
theorem fb86 : inB tab.frames 86 = false := by rfl
theorem fb87 : inB tab.frames 87 = false := by rfl
theorem fb102 : inB tab.frames 102 = false := by rfl
theorem fb100 : inB tab.frames 100 = false := by rfl
theorem fb110 : inB tab.frames 110 = false := by rfl
theorem fb123 : inB tab.frames 123 = false := by rfl
theorem fb124 : inB tab.frames 124 = false := by rfl
theorem fb111 : inB tab.frames 111 = false := by rfl
theorem fb128 : inB tab.frames 128 = false := by rfl
theorem fb5 : inB tab.frames 5 = false := by rfl
theorem fb13 : inB tab.frames 13 = false := by rfl
theorem fb14 : inB tab.frames 14 = false := by rfl
theorem fb25 : inB tab.frames 25 = false := by rfl
theorem fb26 : inB tab.frames 26 = false := by rfl
theorem fb27 : inB tab.frames 27 = true := by rfl
theorem fb28 : inB tab.frames 28 = true := by rfl
theorem fb16 : inB tab.frames 16 = false := by rfl
theorem fb63 : inB tab.frames 63 = true := by rfl
theorem fb64 : inB tab.frames 64 = true := by rfl
theorem fb73 : inB tab.frames 73 = false := by rfl
theorem fb65 : inB tab.frames 65 = true := by rfl
theorem fb66 : inB tab.frames 66 = true := by rfl
theorem fb101 : inB tab.frames 101 = true := by rfl
theorem fb3 : inB tab.frames 3 = false := by rfl
theorem fb18 : inB tab.frames 18 = false := by rfl
theorem fb19 : inB tab.frames 19 = false := by rfl
theorem fb68 : inB tab.frames 68 = true := by rfl
theorem fb54 : inB tab.frames 54 = false := by rfl
theorem ev7 (k : Nat) (x0 x1 : AV) (H : Heap) : evalT Try.prog (mkHints tab) (k + 1) (.fn 7) [x0, x1] H = trimO H.length (finishO Try.prog Try.f7.results.toList (evalCode Try.prog (cxG Try.prog (mkHints tab) k 7 none) (Try.f7.body.getD .skip) (fillArgs (fr 127 []) 0 [x0, x1]) (H ++ [.slot]))) := evalT_fn 127 Try.func7 rfl (by decide) rfl
theorem fsl7_1_0 : fslotB tab.fslots 7 1 0 = [] := by rfl
theorem kb7_1_0 : keepB tab.keeps 7 1 0 = false := by rfl
theorem fsl7_3_1 : fslotB tab.fslots 7 3 1 = [] := by rfl
theorem kb7_3_1 : keepB tab.keeps 7 3 1 = false := by rfl
theorem fsl7_5_1 : fslotB tab.fslots 7 5 1 = [] := by rfl
theorem kb7_5_1 : keepB tab.keeps 7 5 1 = false := by rfl
theorem fsl7_6_1 : fslotB tab.fslots 7 6 1 = [] := by rfl
theorem kb7_6_1 : keepB tab.keeps 7 6 1 = true := by rfl
theorem fsl7_7_1 : fslotB tab.fslots 7 7 1 = [] := by rfl
theorem kb7_7_1 : keepB tab.keeps 7 7 1 = false := by rfl
theorem fsl7_9_1 : fslotB tab.fslots 7 9 1 = [] := by rfl
theorem kb7_9_1 : keepB tab.keeps 7 9 1 = false := by rfl
theorem fsl7_12_1 : fslotB tab.fslots 7 12 1 = [] := by rfl
theorem kb7_12_1 : keepB tab.keeps 7 12 1 = false := by rfl
theorem fsl7_13_2 : fslotB tab.fslots 7 13 2 = [] := by rfl
theorem kb7_13_2 : keepB tab.keeps 7 13 2 = false := by rfl
theorem fsl7_15_1 : fslotB tab.fslots 7 15 1 = [] := by rfl
theorem kb7_15_1 : keepB tab.keeps 7 15 1 = false := by rfl
theorem fsl7_16_19 : fslotB tab.fslots 7 16 19 = [] := by rfl
theorem kb7_16_19 : keepB tab.keeps 7 16 19 = false := by rfl
theorem fsl7_18_1 : fslotB tab.fslots 7 18 1 = [] := by rfl
theorem kb7_18_1 : keepB tab.keeps 7 18 1 = false := by rfl
theorem sb7_22_3 : slotB tab.slots 7 22 3 = some 0 := by rfl
theorem fsl7_24_9 : fslotB tab.fslots 7 24 9 = [] := by rfl
theorem kb7_24_9 : keepB tab.keeps 7 24 9 = false := by rfl
theorem fsl7_24_10 : fslotB tab.fslots 7 24 10 = [] := by rfl
theorem kb7_24_10 : keepB tab.keeps 7 24 10 = false := by rfl
theorem fsl7_24_16 : fslotB tab.fslots 7 24 16 = [] := by rfl
theorem kb7_24_16 : keepB tab.keeps 7 24 16 = false := by rfl
theorem fsl7_24_17 : fslotB tab.fslots 7 24 17 = [] := by rfl
theorem kb7_24_17 : keepB tab.keeps 7 24 17 = false := by rfl
theorem fsl7_24_23 : fslotB tab.fslots 7 24 23 = [] := by rfl
theorem kb7_24_23 : keepB tab.keeps 7 24 23 = false := by rfl
theorem fsl7_32_2 : fslotB tab.fslots 7 32 2 = [] := by rfl
theorem kb7_32_2 : keepB tab.keeps 7 32 2 = false := by rfl
theorem rae7_10 (cx : Cx) (F : Fr) (H : Heap) : evalCode Try.prog cx RA7_10 F H = evalCode Try.prog cx (rfAs Try.f7 10) F H := rfl
theorem rbe7_10 (cx : Cx) (F : Fr) (H : Heap) : evalCode Try.prog cx RB7_10 F H = evalCode Try.prog cx (rfBd Try.f7 10) F H := rfl
theorem ag25 : isAggT Try.prog 25 = some true := by kernel_rfl
theorem sz25 : sizeT Try.prog 25 = some 4 := by kernel_rfl
theorem ldp25 (H : Heap) (id off : Nat) : loadA Try.prog H 25 (.ptr id off) = cellsAt H[id]? off 4 := by kernel_rfl
theorem ldi25 (H : Heap) (cells : List IV) (off : Nat) : loadA Try.prog H 25 (.c (.iptr cells off)) = (takeCells cells off 4).map fun l => .agg (l.map .c) := by kernel_rfl
theorem lde25 (H : Heap) (id off ext : Nat) : loadA Try.prog H 25 (.eptr id off ext) = (rowOf H id ext).bind fun r => (takeCells r.2 off 4).map fun l => .agg (l.map .c) := by kernel_rfl
theorem al25 (H : Heap) : allocA Try.prog H 25 = some (.ptr H.length 0, H ++ [.cells 25 [.c (.int .i64 0), .c (.int .i64 0), .c (.slice [] 0 true (some 0)), .c (.slice [] 0 true (some 0))]]) := by kernel_rfl
theorem al3 (H : Heap) : allocA Try.prog H 3 = some (.ptr H.length 0, H ++ [.cells 3 [.c (.int .i64 0)]]) := by kernel_rfl
theorem ag3 : isAggT Try.prog 3 = some false := by kernel_rfl
theorem sz3 : sizeT Try.prog 3 = some 1 := by kernel_rfl
theorem ldp3 (H : Heap) (id off : Nat) : loadA Try.prog H 3 (.ptr id off) = cellAt H[id]? off := by kernel_rfl
theorem ldi3 (H : Heap) (cells : List IV) (off : Nat) : loadA Try.prog H 3 (.c (.iptr cells off)) = (cells[off]?).map .c := by kernel_rfl
theorem lde3 (H : Heap) (id off ext : Nat) : loadA Try.prog H 3 (.eptr id off ext) = (rowOf H id ext).bind fun r => (r.2[off]?).map .c := by kernel_rfl
theorem ln64 (cells : List IV) (n : Nat) (nl : Bool) (cap : Option Nat) : lenA Try.prog 64 (.c (.slice cells n nl cap)) = some (.c (.int .i64 n)) := by kernel_rfl
theorem lnv64 (s n sz : Nat) : lenA Try.prog 64 (lv s sz n) = some (.c (.int .i64 n)) := by
  unfold lv; split
  · rename_i h; subst h; kernel_rfl
  · kernel_rfl
theorem lnh64 (id off n ext sz : Nat) : lenA Try.prog 64 (.hsl id off n ext sz) = some (.c (.int .i64 n)) := by kernel_rfl
theorem ln23 (cells : List IV) (n : Nat) (nl : Bool) (cap : Option Nat) : lenA Try.prog 23 (.c (.slice cells n nl cap)) = some (.c (.int .i64 n)) := by kernel_rfl
theorem lnv23 (s n sz : Nat) : lenA Try.prog 23 (lv s sz n) = some (.c (.int .i64 n)) := by
  unfold lv; split
  · rename_i h; subst h; kernel_rfl
  · kernel_rfl
theorem lnh23 (id off n ext sz : Nat) : lenA Try.prog 23 (.hsl id off n ext sz) = some (.c (.int .i64 n)) := by kernel_rfl
theorem bd25_ : buildA Try.prog 25 [] = some (.agg [.c (.int .i64 0), .c (.int .i64 0), .c (.slice [] 0 true (some 0)), .c (.slice [] 0 true (some 0))]) := by kernel_rfl
theorem ag4 : isAggT Try.prog 4 = some false := by kernel_rfl
theorem sz4 : sizeT Try.prog 4 = some 1 := by kernel_rfl
theorem ia64 (H : Heap) (cells : List IV) (len : Nat) (nl : Bool) (cap : Option Nat) (k : IntKind) (i : Int) : indexAddrA Try.prog H 64 (.c (.slice cells len nl cap)) (.c (.int k i)) = if 0 ≤ i ∧ i < len then some (.c (.iptr cells (i.toNat * 1))) else none := by kernel_rfl
theorem iah64 (H : Heap) (id off len ext sz : Nat) (k : IntKind) (i : Int) : indexAddrA Try.prog H 64 (.hsl id off len ext sz) (.c (.int k i)) = if 0 ≤ i ∧ i < len ∧ sz = 1 ∧ (rowOf H id ext).isSome = true then some (.eptr id (off + i.toNat * 1) ext) else none := by kernel_rfl
theorem ldp4 (H : Heap) (id off : Nat) : loadA Try.prog H 4 (.ptr id off) = cellAt H[id]? off := by kernel_rfl
theorem ldi4 (H : Heap) (cells : List IV) (off : Nat) : loadA Try.prog H 4 (.c (.iptr cells off)) = (cells[off]?).map .c := by kernel_rfl
theorem lde4 (H : Heap) (id off ext : Nat) : loadA Try.prog H 4 (.eptr id off ext) = (rowOf H id ext).bind fun r => (r.2[off]?).map .c := by kernel_rfl
theorem bs23_1_0 (H : Heap) (a0 : IV) : buildSliceA Try.prog H 23 1 [(0, .c a0)] = some (.hsl H.length 0 1 (1 * 1) 1, H ++ [.row false 3 [a0]]) := by kernel_rfl
theorem ap23 (H : Heap) (sl : Option Nat) (s x : AV) : appendA Try.prog H sl 23 s x = apO 3 1 8 sl s H (srcOf H 1 x) := by kernel_rfl
theorem dr7_24 : drawFact Try.f7 24 [0, 1, 3, 7, 15, 31, 63, 127, 127, 383, 1023, 2047, 4095, 8191, 16383, 16383, 49151, 131071, 262143, 524287, 1048575, 2097151, 2097151, 8388607, 16777215, 33554431] = true := by kernel_rfl
theorem fa25_2 (x : AV) : fieldAddrA Try.prog 25 x 2 = addrPlus x 2 := by kernel_rfl
theorem ag22 : isAggT Try.prog 22 = some false := by kernel_rfl
theorem sz22 : sizeT Try.prog 22 = some 1 := by kernel_rfl
theorem ldp22 (H : Heap) (id off : Nat) : loadA Try.prog H 22 (.ptr id off) = cellAt H[id]? off := by kernel_rfl
theorem ldi22 (H : Heap) (cells : List IV) (off : Nat) : loadA Try.prog H 22 (.c (.iptr cells off)) = (cells[off]?).map .c := by kernel_rfl
theorem lde22 (H : Heap) (id off ext : Nat) : loadA Try.prog H 22 (.eptr id off ext) = (rowOf H id ext).bind fun r => (r.2[off]?).map .c := by kernel_rfl
theorem ln22 (cells : List IV) (n : Nat) (nl : Bool) (cap : Option Nat) : lenA Try.prog 22 (.c (.slice cells n nl cap)) = some (.c (.int .i64 n)) := by kernel_rfl
theorem lnv22 (s n sz : Nat) : lenA Try.prog 22 (lv s sz n) = some (.c (.int .i64 n)) := by
  unfold lv; split
  · rename_i h; subst h; kernel_rfl
  · kernel_rfl
theorem lnh22 (id off n ext sz : Nat) : lenA Try.prog 22 (.hsl id off n ext sz) = some (.c (.int .i64 n)) := by kernel_rfl
theorem ag34 : isAggT Try.prog 34 = some true := by kernel_rfl
theorem sz34 : sizeT Try.prog 34 = some 5 := by kernel_rfl
theorem ia22 (H : Heap) (cells : List IV) (len : Nat) (nl : Bool) (cap : Option Nat) (k : IntKind) (i : Int) : indexAddrA Try.prog H 22 (.c (.slice cells len nl cap)) (.c (.int k i)) = if 0 ≤ i ∧ i < len then some (.c (.iptr cells (i.toNat * 5))) else none := by kernel_rfl
theorem iah22 (H : Heap) (id off len ext sz : Nat) (k : IntKind) (i : Int) : indexAddrA Try.prog H 22 (.hsl id off len ext sz) (.c (.int k i)) = if 0 ≤ i ∧ i < len ∧ sz = 5 ∧ (rowOf H id ext).isSome = true then some (.eptr id (off + i.toNat * 5) ext) else none := by kernel_rfl
theorem fa34_1 (x : AV) : fieldAddrA Try.prog 34 x 1 = addrPlus x 1 := by kernel_rfl
theorem fa25_3 (x : AV) : fieldAddrA Try.prog 25 x 3 = addrPlus x 3 := by kernel_rfl
theorem ag23 : isAggT Try.prog 23 = some false := by kernel_rfl
theorem sz23 : sizeT Try.prog 23 = some 1 := by kernel_rfl
theorem ldp23 (H : Heap) (id off : Nat) : loadA Try.prog H 23 (.ptr id off) = cellAt H[id]? off := by kernel_rfl
theorem ldi23 (H : Heap) (cells : List IV) (off : Nat) : loadA Try.prog H 23 (.c (.iptr cells off)) = (cells[off]?).map .c := by kernel_rfl
theorem lde23 (H : Heap) (id off ext : Nat) : loadA Try.prog H 23 (.eptr id off ext) = (rowOf H id ext).bind fun r => (r.2[off]?).map .c := by kernel_rfl
theorem ev9 (k : Nat) (x0 : AV) (H : Heap) : evalT Try.prog (mkHints tab) (k + 1) (.fn 9) [x0] H = trimO H.length (finishO Try.prog Try.f9.results.toList (evalCode Try.prog (cxG Try.prog (mkHints tab) k 9 none) (Try.f9.body.getD .skip) (fillArgs (fr 93 []) 0 [x0]) H)) := by
  have h := evalT_fn 93 Try.func9 rfl (by decide) rfl (P := Try.prog) (h := mkHints tab) (k := k) (args := [x0]) (H := H)
  rw [show (mkHints tab).slots 9 = 0 from rfl, show (List.replicate 0 AObj.slot) = [] from rfl, List.append_nil] at h
  exact h
theorem fsl9_1_0 : fslotB tab.fslots 9 1 0 = [] := by rfl
theorem kb9_1_0 : keepB tab.keeps 9 1 0 = false := by rfl
theorem fsl9_3_1 : fslotB tab.fslots 9 3 1 = [] := by rfl
theorem kb9_3_1 : keepB tab.keeps 9 3 1 = false := by rfl
theorem fsl9_5_1 : fslotB tab.fslots 9 5 1 = [] := by rfl
theorem kb9_5_1 : keepB tab.keeps 9 5 1 = false := by rfl
theorem fsl9_8_1 : fslotB tab.fslots 9 8 1 = [] := by rfl
theorem kb9_8_1 : keepB tab.keeps 9 8 1 = false := by rfl
theorem fsl9_9_1 : fslotB tab.fslots 9 9 1 = [] := by rfl
theorem kb9_9_1 : keepB tab.keeps 9 9 1 = false := by rfl
theorem fsl9_10_1 : fslotB tab.fslots 9 10 1 = [] := by rfl
theorem kb9_10_1 : keepB tab.keeps 9 10 1 = false := by rfl
theorem fsl9_11_1 : fslotB tab.fslots 9 11 1 = [] := by rfl
theorem kb9_11_1 : keepB tab.keeps 9 11 1 = false := by rfl
theorem fsl9_12_16 : fslotB tab.fslots 9 12 16 = [] := by rfl
theorem kb9_12_16 : keepB tab.keeps 9 12 16 = false := by rfl
theorem fsl9_12_22 : fslotB tab.fslots 9 12 22 = [] := by rfl
theorem kb9_12_22 : keepB tab.keeps 9 12 22 = false := by rfl
theorem fsl9_12_29 : fslotB tab.fslots 9 12 29 = [] := by rfl
theorem kb9_12_29 : keepB tab.keeps 9 12 29 = false := by rfl
theorem fsl9_12_40 : fslotB tab.fslots 9 12 40 = [] := by rfl
theorem kb9_12_40 : keepB tab.keeps 9 12 40 = false := by rfl
theorem fsl9_12_44 : fslotB tab.fslots 9 12 44 = [] := by rfl
theorem kb9_12_44 : keepB tab.keeps 9 12 44 = false := by rfl
theorem dr9_12 : drawFact Try.f9 12 [0, 1, 3, 7, 15, 31, 63, 127, 255, 511, 1023, 2047, 4095, 8191, 16383, 32767, 65535, 131071, 262143, 524287, 1048575, 1048575, 4194303, 8388607, 16777215, 33554431, 67108863, 134217727, 33554431, 301989887, 838860799, 2147483647, 33554431, 4328521727, 12918456319, 34359738367, 68719476735, 137438953471, 274877906943, 274877906943, 1099511627775, 2199023255551, 4398046511103, 8796093022207, 17592186044415, 35184372088831, 70368744177663, 140737488355327, 281474976710655] = true := by kernel_rfl
theorem ev15 (k : Nat) (x0 : AV) (H : Heap) : evalT Try.prog (mkHints tab) (k + 1) (.fn 15) [x0] H = trimO H.length (finishO Try.prog Try.f15.results.toList (evalCode Try.prog (cxG Try.prog (mkHints tab) k 15 none) (Try.f15.body.getD .skip) (fillArgs (fr 22 []) 0 [x0]) (H ++ [.slot, .slot]))) := evalT_fn 22 Try.func15 rfl (by decide) rfl
theorem sb15_2_4 : slotB tab.slots 15 2 4 = some 0 := by rfl
theorem sb15_3_4 : slotB tab.slots 15 3 4 = some 1 := by rfl
theorem fa25_0 (x : AV) : fieldAddrA Try.prog 25 x 0 = addrPlus x 0 := by kernel_rfl
theorem fa25_1 (x : AV) : fieldAddrA Try.prog 25 x 1 = addrPlus x 1 := by kernel_rfl
theorem bd25_0_1 (a0 a1 : IV) : buildA Try.prog 25 [(0, .c a0), (1, .c a1)] = some (.agg [.c a0, .c a1, .c (.slice [] 0 true (some 0)), .c (.slice [] 0 true (some 0))]) := by kernel_rfl
theorem ap22 (H : Heap) (sl : Option Nat) (s x : AV) : appendA Try.prog H sl 22 s x = apO 34 5 40 sl s H (srcOf H 5 x) := by kernel_rfl
theorem ev17 (k : Nat) (x0 : AV) (H : Heap) : evalT Try.prog (mkHints tab) (k + 1) (.fn 17) [x0] H = trimO H.length (finishO Try.prog Try.f17.results.toList (evalCode Try.prog (cxG Try.prog (mkHints tab) k 17 none) (Try.f17.body.getD .skip) (fillArgs (fr 12 []) 0 [x0]) H)) := by
  have h := evalT_fn 12 Try.func17 rfl (by decide) rfl (P := Try.prog) (h := mkHints tab) (k := k) (args := [x0]) (H := H)
  rw [show (mkHints tab).slots 17 = 0 from rfl, show (List.replicate 0 AObj.slot) = [] from rfl, List.append_nil] at h
  exact h
theorem fsl17_1_1 : fslotB tab.fslots 17 1 1 = [] := by rfl
theorem kb17_1_1 : keepB tab.keeps 17 1 1 = false := by rfl
theorem ev20 (k : Nat) (x0 x1 : AV) (H : Heap) : evalT Try.prog (mkHints tab) (k + 1) (.fn 20) [x0, x1] H = trimO H.length (finishO Try.prog Try.f20.results.toList (evalCode Try.prog (cxG Try.prog (mkHints tab) k 20 none) (Try.f20.body.getD .skip) (fillArgs (fr 73 []) 0 [x0, x1]) H)) := by
  have h := evalT_fn 73 Try.func20 rfl (by decide) rfl (P := Try.prog) (h := mkHints tab) (k := k) (args := [x0, x1]) (H := H)
  rw [show (mkHints tab).slots 20 = 0 from rfl, show (List.replicate 0 AObj.slot) = [] from rfl, List.append_nil] at h
  exact h
theorem ldp34 (H : Heap) (id off : Nat) : loadA Try.prog H 34 (.ptr id off) = cellsAt H[id]? off 5 := by kernel_rfl
theorem ldi34 (H : Heap) (cells : List IV) (off : Nat) : loadA Try.prog H 34 (.c (.iptr cells off)) = (takeCells cells off 5).map fun l => .agg (l.map .c) := by kernel_rfl
theorem lde34 (H : Heap) (id off ext : Nat) : loadA Try.prog H 34 (.eptr id off ext) = (rowOf H id ext).bind fun r => (takeCells r.2 off 5).map fun l => .agg (l.map .c) := by kernel_rfl
theorem ne34 (H : Heap) (a0 b0 : Int) (a1 b1 : Int) (a2 b2 : Int) (a3 b3 : Int) (a4 b4 : Int) : binA Try.prog H .neq 34 (.agg [.c (.int .i64 a0), .c (.int .i64 a1), .c (.int .i64 a2), .c (.int .i64 a3), .c (.int .i64 a4)]) (.agg [.c (.int .i64 b0), .c (.int .i64 b1), .c (.int .i64 b2), .c (.int .i64 b3), .c (.int .i64 b4)]) = some (.c (.bool (!((a0 == b0) && ((a1 == b1) && ((a2 == b2) && ((a3 == b3) && ((a4 == b4) && true)))))))) := by kernel_rfl
theorem dr20_6 : drawFact Try.f20 6 [0, 1, 0, 7, 15, 0, 32, 0, 224, 480, 1023] = true := by kernel_rfl
theorem ia23 (H : Heap) (cells : List IV) (len : Nat) (nl : Bool) (cap : Option Nat) (k : IntKind) (i : Int) : indexAddrA Try.prog H 23 (.c (.slice cells len nl cap)) (.c (.int k i)) = if 0 ≤ i ∧ i < len then some (.c (.iptr cells (i.toNat * 1))) else none := by kernel_rfl
theorem iah23 (H : Heap) (id off len ext sz : Nat) (k : IntKind) (i : Int) : indexAddrA Try.prog H 23 (.hsl id off len ext sz) (.c (.int k i)) = if 0 ≤ i ∧ i < len ∧ sz = 1 ∧ (rowOf H id ext).isSome = true then some (.eptr id (off + i.toNat * 1) ext) else none := by kernel_rfl
theorem dr20_11 : drawFact Try.f20 11 [0, 1, 0, 7, 15, 0, 32, 0, 224, 480, 1023] = true := by kernel_rfl
theorem ev29 (k : Nat) (H : Heap) : evalT Try.prog (mkHints tab) (k + 1) (.fn 29) [] H = trimO H.length (finishO Try.prog Try.f29.results.toList (evalCode Try.prog (cxG Try.prog (mkHints tab) k 29 none) (Try.f29.body.getD .skip) (fillArgs (fr 40 []) 0 []) H)) := by
  have h := evalT_fn 40 Try.func29 rfl (by decide) rfl (P := Try.prog) (h := mkHints tab) (k := k) (args := []) (H := H)
  rw [show (mkHints tab).slots 29 = 0 from rfl, show (List.replicate 0 AObj.slot) = [] from rfl, List.append_nil] at h
  exact h
theorem fsl29_1_0 : fslotB tab.fslots 29 1 0 = [] := by rfl
theorem kb29_1_0 : keepB tab.keeps 29 1 0 = false := by rfl
theorem fsl29_1_1 : fslotB tab.fslots 29 1 1 = [] := by rfl
theorem kb29_1_1 : keepB tab.keeps 29 1 1 = false := by rfl
theorem fsl29_2_0 : fslotB tab.fslots 29 2 0 = [] := by rfl
theorem kb29_2_0 : keepB tab.keeps 29 2 0 = false := by rfl
theorem fsl29_2_1 : fslotB tab.fslots 29 2 1 = [] := by rfl
theorem kb29_2_1 : keepB tab.keeps 29 2 1 = false := by rfl
theorem fsl29_3_12 : fslotB tab.fslots 29 3 12 = [] := by rfl
theorem kb29_3_12 : keepB tab.keeps 29 3 12 = false := by rfl
theorem fsl29_3_17 : fslotB tab.fslots 29 3 17 = [] := by rfl
theorem kb29_3_17 : keepB tab.keeps 29 3 17 = false := by rfl
theorem fsl29_3_20 : fslotB tab.fslots 29 3 20 = [] := by rfl
theorem kb29_3_20 : keepB tab.keeps 29 3 20 = false := by rfl
theorem fsl29_3_21 : fslotB tab.fslots 29 3 21 = [] := by rfl
theorem kb29_3_21 : keepB tab.keeps 29 3 21 = false := by rfl
theorem fsl29_3_23 : fslotB tab.fslots 29 3 23 = [] := by rfl
theorem kb29_3_23 : keepB tab.keeps 29 3 23 = false := by rfl
theorem bd34_0_1_2_3 (a0 a1 a2 a3 : IV) : buildA Try.prog 34 [(0, .c a0), (1, .c a1), (2, .c a2), (3, .c a3)] = some (.agg [.c a0, .c a1, .c a2, .c a3, .c (.int .i64 0)]) := by kernel_rfl
theorem bs22_1_0 (H : Heap) (a0 a1 a2 a3 a4 : IV) : buildSliceA Try.prog H 22 1 [(0, .agg [.c a0, .c a1, .c a2, .c a3, .c a4])] = some (.hsl H.length 0 1 (1 * 5) 5, H ++ [.row false 34 [a0, a1, a2, a3, a4]]) := by kernel_rfl
theorem bs23_2_0_1 (H : Heap) (a0 a1 : IV) : buildSliceA Try.prog H 23 2 [(0, .c a0), (1, .c a1)] = some (.hsl H.length 0 2 (2 * 1) 1, H ++ [.row false 3 [a0, a1]]) := by kernel_rfl
theorem bd25_0_1_2_3_h1 (a0 a1 a3 : IV) (v2 : AV) (hv2 : v2.isCell = true) : buildA Try.prog 25 [(0, .c a0), (1, .c a1), (2, v2), (3, .c a3)] = some (.agg [.c a0, .c a1, v2, .c a3]) := by
  cases v2 <;> first | (cases hv2; done) | kernel_rfl
theorem bd25_0_1_2_3_h2 (a0 a1 a2 : IV) (v3 : AV) (hv3 : v3.isCell = true) : buildA Try.prog 25 [(0, .c a0), (1, .c a1), (2, .c a2), (3, v3)] = some (.agg [.c a0, .c a1, .c a2, v3]) := by
  cases v3 <;> first | (cases hv3; done) | kernel_rfl
theorem bd25_0_1_2_3_h3 (a0 a1 : IV) (v2 v3 : AV) (hv2 : v2.isCell = true) (hv3 : v3.isCell = true) : buildA Try.prog 25 [(0, .c a0), (1, .c a1), (2, v2), (3, v3)] = some (.agg [.c a0, .c a1, v2, v3]) := by
  cases v2 <;> cases v3 <;> first | (cases hv2; done) | (cases hv3; done) | kernel_rfl
theorem bd25_0_1_2_3 (a0 a1 a2 a3 : IV) : buildA Try.prog 25 [(0, .c a0), (1, .c a1), (2, .c a2), (3, .c a3)] = some (.agg [.c a0, .c a1, .c a2, .c a3]) := by kernel_rfl
theorem bs64_4_0_1_2_3 (H : Heap) (a0 a1 a2 a3 : IV) : buildSliceA Try.prog H 64 4 [(0, .c a0), (1, .c a1), (2, .c a2), (3, .c a3)] = some (.hsl H.length 0 4 (4 * 1) 1, H ++ [.row false 4 [a0, a1, a2, a3]]) := by kernel_rfl
theorem bs23_3_0_1_2 (H : Heap) (a0 a1 a2 : IV) : buildSliceA Try.prog H 23 3 [(0, .c a0), (1, .c a1), (2, .c a2)] = some (.hsl H.length 0 3 (3 * 1) 1, H ++ [.row false 3 [a0, a1, a2]]) := by kernel_rfl
theorem ev30 (k : Nat) (x0 : AV) (H : Heap) : evalT Try.prog (mkHints tab) (k + 1) (.fn 30) [x0] H = trimO H.length (finishO Try.prog Try.f30.results.toList (evalCode Try.prog (cxG Try.prog (mkHints tab) k 30 none) (Try.f30.body.getD .skip) (fillArgs (fr 54 []) 0 [x0]) (H ++ [.slot]))) := evalT_fn 54 Try.func30 rfl (by decide) rfl
theorem fsl30_1_1 : fslotB tab.fslots 30 1 1 = [] := by rfl
theorem kb30_1_1 : keepB tab.keeps 30 1 1 = false := by rfl
theorem fsl30_5_1 : fslotB tab.fslots 30 5 1 = [] := by rfl
theorem kb30_5_1 : keepB tab.keeps 30 5 1 = false := by rfl
theorem fsl30_8_7 : fslotB tab.fslots 30 8 7 = [] := by rfl
theorem kb30_8_7 : keepB tab.keeps 30 8 7 = false := by rfl
theorem sb30_9_7 : slotB tab.slots 30 9 7 = some 0 := by rfl
theorem fsl30_11_7 : fslotB tab.fslots 30 11 7 = [] := by rfl
theorem kb30_11_7 : keepB tab.keeps 30 11 7 = true := by rfl
theorem dr30_11 : drawFact Try.f30 11 [0, 1, 0, 4, 0, 0, 32, 96, 255, 511, 1023] = true := by kernel_rfl
theorem ev31 (k : Nat) (x0 : AV) (H : Heap) : evalT Try.prog (mkHints tab) (k + 1) (.fn 31) [x0] H = trimO H.length (finishO Try.prog Try.f31.results.toList (evalCode Try.prog (cxG Try.prog (mkHints tab) k 31 none) (Try.f31.body.getD .skip) (fillArgs (fr 55 []) 0 [x0]) H)) := by
  have h := evalT_fn 55 Try.func31 rfl (by decide) rfl (P := Try.prog) (h := mkHints tab) (k := k) (args := [x0]) (H := H)
  rw [show (mkHints tab).slots 31 = 0 from rfl, show (List.replicate 0 AObj.slot) = [] from rfl, List.append_nil] at h
  exact h
theorem fsl31_1_1 : fslotB tab.fslots 31 1 1 = [] := by rfl
theorem kb31_1_1 : keepB tab.keeps 31 1 1 = false := by rfl
theorem fsl31_10_1 : fslotB tab.fslots 31 10 1 = [] := by rfl
theorem kb31_10_1 : keepB tab.keeps 31 10 1 = false := by rfl
theorem fsl31_13_1 : fslotB tab.fslots 31 13 1 = [] := by rfl
theorem kb31_13_1 : keepB tab.keeps 31 13 1 = false := by rfl
theorem rae31_11 (cx : Cx) (F : Fr) (H : Heap) : evalCode Try.prog cx RA31_11 F H = evalCode Try.prog cx (rfAs Try.f31 11) F H := rfl
theorem rbe31_11 (cx : Cx) (F : Fr) (H : Heap) : evalCode Try.prog cx RB31_11 F H = evalCode Try.prog cx (rfBd Try.f31 11) F H := rfl
theorem ms64 (H : Heap) (l c : Int) : makeSliceA Try.prog H 64 (.c (.int .i64 l)) (.c (.int .i64 c)) = if 0 ≤ l ∧ l = c ∧ c.toNat * 1 ≤ roomBytes ∧ c.toNat ≤ roomBytes ∧ 1 = 1 ∧ 0 < 1 then some (.hsl H.length 0 l.toNat (c.toNat * 1) 1, H ++ [.row false 4 ((List.replicate c.toNat [.bool false]).flatten)]) else none := by kernel_rfl
theorem al64 (H : Heap) : allocA Try.prog H 64 = some (.ptr H.length 0, H ++ [.cells 64 [.c (.slice [] 0 true (some 0))]]) := by kernel_rfl
theorem ag64 : isAggT Try.prog 64 = some false := by kernel_rfl
theorem sz64 : sizeT Try.prog 64 = some 1 := by kernel_rfl
theorem ldp64 (H : Heap) (id off : Nat) : loadA Try.prog H 64 (.ptr id off) = cellAt H[id]? off := by kernel_rfl
theorem ldi64 (H : Heap) (cells : List IV) (off : Nat) : loadA Try.prog H 64 (.c (.iptr cells off)) = (cells[off]?).map .c := by kernel_rfl
theorem lde64 (H : Heap) (id off ext : Nat) : loadA Try.prog H 64 (.eptr id off ext) = (rowOf H id ext).bind fun r => (r.2[off]?).map .c := by kernel_rfl
theorem al34 (H : Heap) : allocA Try.prog H 34 = some (.ptr H.length 0, H ++ [.cells 34 [.c (.int .i64 0), .c (.int .i64 0), .c (.int .i64 0), .c (.int .i64 0), .c (.int .i64 0)]]) := by kernel_rfl
theorem ev32 (k : Nat) (x0 x1 : AV) (H : Heap) : evalT Try.prog (mkHints tab) (k + 1) (.fn 32) [x0, x1] H = trimO H.length (finishO Try.prog Try.f32.results.toList (evalCode Try.prog (cxG Try.prog (mkHints tab) k 32 none) (Try.f32.body.getD .skip) (fillArgs (fr 26 []) 0 [x0, x1]) H)) := by
  have h := evalT_fn 26 Try.func32 rfl (by decide) rfl (P := Try.prog) (h := mkHints tab) (k := k) (args := [x0, x1]) (H := H)
  rw [show (mkHints tab).slots 32 = 0 from rfl, show (List.replicate 0 AObj.slot) = [] from rfl, List.append_nil] at h
  exact h
theorem neb4 (H : Heap) (a b : Bool) : binA Try.prog H .neq 4 (.c (.bool a)) (.c (.bool b)) = some (.c (.bool (!(a == b)))) := by kernel_rfl
theorem dr32_6 : drawFact Try.f32 6 [0, 0, 3, 7, 0, 0, 48, 112, 255] = true := by kernel_rfl
theorem ev33 (k : Nat) (x0 : AV) (H : Heap) : evalT Try.prog (mkHints tab) (k + 1) (.fn 33) [x0] H = trimO H.length (finishO Try.prog Try.f33.results.toList (evalCode Try.prog (cxG Try.prog (mkHints tab) k 33 none) (Try.f33.body.getD .skip) (fillArgs (fr 17 []) 0 [x0]) (H ++ [.slot]))) := evalT_fn 17 Try.func33 rfl (by decide) rfl
theorem fsl33_2_1 : fslotB tab.fslots 33 2 1 = [] := by rfl
theorem kb33_2_1 : keepB tab.keeps 33 2 1 = false := by rfl
theorem sb33_7_3 : slotB tab.slots 33 7 3 = some 0 := by rfl
theorem rae33_6 (cx : Cx) (F : Fr) (H : Heap) : evalCode Try.prog cx RA33_6 F H = evalCode Try.prog cx (rfAs Try.f33 6) F H := rfl
theorem rbe33_6 (cx : Cx) (F : Fr) (H : Heap) : evalCode Try.prog cx RB33_6 F H = evalCode Try.prog cx (rfBd Try.f33 6) F H := rfl
theorem al23 (H : Heap) : allocA Try.prog H 23 = some (.ptr H.length 0, H ++ [.cells 23 [.c (.slice [] 0 true (some 0))]]) := by kernel_rfl
theorem eqf70 (H : Heap) (f : FuncId) (a b : List AV) : binA Try.prog H .eql 70 (.clo f a b) (.c .nilfn) = some (.c (.bool false)) := by kernel_rfl
theorem ev34 (k : Nat) (x0 : AV) (H : Heap) : evalT Try.prog (mkHints tab) (k + 1) (.fn 34) [x0] H = trimO H.length (finishO Try.prog Try.f34.results.toList (evalCode Try.prog (cxG Try.prog (mkHints tab) k 34 none) (Try.f34.body.getD .skip) (fillArgs (fr 13 []) 0 [x0]) H)) := by
  have h := evalT_fn 13 Try.func34 rfl (by decide) rfl (P := Try.prog) (h := mkHints tab) (k := k) (args := [x0]) (H := H)
  rw [show (mkHints tab).slots 34 = 0 from rfl, show (List.replicate 0 AObj.slot) = [] from rfl, List.append_nil] at h
  exact h
theorem ev35 (k : Nat) (x0 : AV) (H : Heap) : evalT Try.prog (mkHints tab) (k + 1) (.fn 35) [x0] H = trimO H.length (finishO Try.prog Try.f35.results.toList (evalCode Try.prog (cxG Try.prog (mkHints tab) k 35 none) (Try.f35.body.getD .skip) (fillArgs (fr 4 []) 0 [x0]) H)) := by
  have h := evalT_fn 4 Try.func35 rfl (by decide) rfl (P := Try.prog) (h := mkHints tab) (k := k) (args := [x0]) (H := H)
  rw [show (mkHints tab).slots 35 = 0 from rfl, show (List.replicate 0 AObj.slot) = [] from rfl, List.append_nil] at h
  exact h
theorem ev36 (k : Nat) (x0 : AV) (H : Heap) : evalT Try.prog (mkHints tab) (k + 1) (.fn 36) [x0] H = trimO H.length (finishO Try.prog Try.f36.results.toList (evalCode Try.prog (cxG Try.prog (mkHints tab) k 36 none) (Try.f36.body.getD .skip) (fillArgs (fr 42 []) 0 [x0]) (H ++ [.slot]))) := evalT_fn 42 Try.func36 rfl (by decide) rfl
theorem fsl36_1_1 : fslotB tab.fslots 36 1 1 = [] := by rfl
theorem kb36_1_1 : keepB tab.keeps 36 1 1 = false := by rfl
theorem sb36_7_19 : slotB tab.slots 36 7 19 = some 0 := by rfl
theorem fa34_0 (x : AV) : fieldAddrA Try.prog 34 x 0 = addrPlus x 0 := by kernel_rfl
theorem fa34_2 (x : AV) : fieldAddrA Try.prog 34 x 2 = addrPlus x 2 := by kernel_rfl
theorem bs64_1_0 (H : Heap) (a0 : IV) : buildSliceA Try.prog H 64 1 [(0, .c a0)] = some (.hsl H.length 0 1 (1 * 1) 1, H ++ [.row false 4 [a0]]) := by kernel_rfl
theorem ap64 (H : Heap) (sl : Option Nat) (s x : AV) : appendA Try.prog H sl 64 s x = apO 4 1 1 sl s H (srcOf H 1 x) := by kernel_rfl
theorem ev37 (k : Nat) (x0 : AV) (H : Heap) : evalT Try.prog (mkHints tab) (k + 1) (.fn 37) [x0] H = trimO H.length (finishO Try.prog Try.f37.results.toList (evalCode Try.prog (cxG Try.prog (mkHints tab) k 37 none) (Try.f37.body.getD .skip) (fillArgs (fr 34 []) 0 [x0]) (H ++ [.slot]))) := evalT_fn 34 Try.func37 rfl (by decide) rfl
theorem fsl37_1_1 : fslotB tab.fslots 37 1 1 = [] := by rfl
theorem kb37_1_1 : keepB tab.keeps 37 1 1 = false := by rfl
theorem fsl37_3_1 : fslotB tab.fslots 37 3 1 = [] := by rfl
theorem kb37_3_1 : keepB tab.keeps 37 3 1 = false := by rfl
theorem sb37_8_8 : slotB tab.slots 37 8 8 = some 0 := by rfl
theorem dr37_8 : drawFact Try.f37 8 [0, 1, 0, 4, 0, 28, 60, 124, 255, 511, 1023] = true := by kernel_rfl
theorem ev38 (k : Nat) (x0 : AV) (H : Heap) : evalT Try.prog (mkHints tab) (k + 1) (.fn 38) [x0] H = trimO H.length (finishO Try.prog Try.f38.results.toList (evalCode Try.prog (cxG Try.prog (mkHints tab) k 38 none) (Try.f38.body.getD .skip) (fillArgs (fr 96 []) 0 [x0]) H)) := by
  have h := evalT_fn 96 Try.func38 rfl (by decide) rfl (P := Try.prog) (h := mkHints tab) (k := k) (args := [x0]) (H := H)
  rw [show (mkHints tab).slots 38 = 0 from rfl, show (List.replicate 0 AObj.slot) = [] from rfl, List.append_nil] at h
  exact h
theorem fsl38_1_1 : fslotB tab.fslots 38 1 1 = [] := by rfl
theorem kb38_1_1 : keepB tab.keeps 38 1 1 = false := by rfl
theorem fsl38_10_5 : fslotB tab.fslots 38 10 5 = [] := by rfl
theorem kb38_10_5 : keepB tab.keeps 38 10 5 = false := by rfl
theorem ev39 (k : Nat) (x0 x1 : AV) (H : Heap) : evalT Try.prog (mkHints tab) (k + 1) (.fn 39) [x0, x1] H = trimO H.length (finishO Try.prog Try.f39.results.toList (evalCode Try.prog (cxG Try.prog (mkHints tab) k 39 none) (Try.f39.body.getD .skip) (fillArgs (fr 26 []) 0 [x0, x1]) H)) := by
  have h := evalT_fn 26 Try.func39 rfl (by decide) rfl (P := Try.prog) (h := mkHints tab) (k := k) (args := [x0, x1]) (H := H)
  rw [show (mkHints tab).slots 39 = 0 from rfl, show (List.replicate 0 AObj.slot) = [] from rfl, List.append_nil] at h
  exact h
theorem dr39_6 : drawFact Try.f39 6 [0, 0, 3, 7, 0, 0, 48, 112, 255] = true := by kernel_rfl
theorem ev46 (k : Nat) (x0 : AV) (H : Heap) : evalT Try.prog (mkHints tab) (k + 1) (.fn 46) [x0] H = trimO H.length (finishO Try.prog Try.f46.results.toList (evalCode Try.prog (cxG Try.prog (mkHints tab) k 46 none) (Try.f46.body.getD .skip) (fillArgs (fr 62 []) 0 [x0]) H)) := by
  have h := evalT_fn 62 Try.func46 rfl (by decide) rfl (P := Try.prog) (h := mkHints tab) (k := k) (args := [x0]) (H := H)
  rw [show (mkHints tab).slots 46 = 0 from rfl, show (List.replicate 0 AObj.slot) = [] from rfl, List.append_nil] at h
  exact h
theorem fsl46_1_1 : fslotB tab.fslots 46 1 1 = [] := by rfl
theorem kb46_1_1 : keepB tab.keeps 46 1 1 = false := by rfl
theorem fsl46_10_1 : fslotB tab.fslots 46 10 1 = [] := by rfl
theorem kb46_10_1 : keepB tab.keeps 46 10 1 = false := by rfl
theorem fsl46_15_1 : fslotB tab.fslots 46 15 1 = [] := by rfl
theorem kb46_15_1 : keepB tab.keeps 46 15 1 = false := by rfl
theorem rae46_11 (cx : Cx) (F : Fr) (H : Heap) : evalCode Try.prog cx RA46_11 F H = evalCode Try.prog cx (rfAs Try.f46 11) F H := rfl
theorem rbe46_11 (cx : Cx) (F : Fr) (H : Heap) : evalCode Try.prog cx RB46_11 F H = evalCode Try.prog cx (rfBd Try.f46 11) F H := rfl
theorem dr46_14 : drawFact Try.f46 14 [0, 0, 0, 0, 8, 3, 35, 127, 255] = true := by kernel_rfl
theorem ev47 (k : Nat) (x0 x1 : AV) (H : Heap) : evalT Try.prog (mkHints tab) (k + 1) (.fn 47) [x0, x1] H = trimO H.length (finishO Try.prog Try.f47.results.toList (evalCode Try.prog (cxG Try.prog (mkHints tab) k 47 none) (Try.f47.body.getD .skip) (fillArgs (fr 9 []) 0 [x0, x1]) H)) := by
  have h := evalT_fn 9 Try.func47 rfl (by decide) rfl (P := Try.prog) (h := mkHints tab) (k := k) (args := [x0, x1]) (H := H)
  rw [show (mkHints tab).slots 47 = 0 from rfl, show (List.replicate 0 AObj.slot) = [] from rfl, List.append_nil] at h
  exact h
theorem fsl47_1_2 : fslotB tab.fslots 47 1 2 = [] := by rfl
theorem kb47_1_2 : keepB tab.keeps 47 1 2 = false := by rfl
theorem ev48 (k : Nat) (x0 x1 : AV) (H : Heap) : evalT Try.prog (mkHints tab) (k + 1) (.fn 48) [x0, x1] H = trimO H.length (finishO Try.prog Try.f48.results.toList (evalCode Try.prog (cxG Try.prog (mkHints tab) k 48 none) (Try.f48.body.getD .skip) (fillArgs (fr 31 []) 0 [x0, x1]) H)) := by
  have h := evalT_fn 31 Try.func48 rfl (by decide) rfl (P := Try.prog) (h := mkHints tab) (k := k) (args := [x0, x1]) (H := H)
  rw [show (mkHints tab).slots 48 = 0 from rfl, show (List.replicate 0 AObj.slot) = [] from rfl, List.append_nil] at h
  exact h
theorem fsl48_1_17 : fslotB tab.fslots 48 1 17 = [] := by rfl
theorem kb48_1_17 : keepB tab.keeps 48 1 17 = false := by rfl
theorem fsl48_1_24 : fslotB tab.fslots 48 1 24 = [] := by rfl
theorem kb48_1_24 : keepB tab.keeps 48 1 24 = false := by rfl
theorem ev67 (k : Nat) (x0 : AV) (H : Heap) : evalT Try.prog (mkHints tab) (k + 1) (.fn 67) [x0] H = trimO H.length (finishO Try.prog Try.f67.results.toList (evalCode Try.prog (cxG Try.prog (mkHints tab) k 67 none) (Try.f67.body.getD .skip) (fillArgs (fr 79 []) 0 [x0]) H)) := by
  have h := evalT_fn 79 Try.func67 rfl (by decide) rfl (P := Try.prog) (h := mkHints tab) (k := k) (args := [x0]) (H := H)
  rw [show (mkHints tab).slots 67 = 0 from rfl, show (List.replicate 0 AObj.slot) = [] from rfl, List.append_nil] at h
  exact h
theorem fsl67_11_7 : fslotB tab.fslots 67 11 7 = [] := by rfl
theorem kb67_11_7 : keepB tab.keeps 67 11 7 = false := by rfl
theorem dr67_6 : drawFact Try.f67 6 [0, 1, 0, 7, 15, 31, 63, 127, 255, 127, 1023, 2047, 127, 4223, 16383, 32767] = true := by kernel_rfl
theorem dr67_11 : drawFact Try.f67 11 [0, 1, 0, 7, 15, 0, 32, 127, 255] = true := by kernel_rfl
theorem ev74 (k : Nat) (H : Heap) : evalT Try.prog (mkHints tab) (k + 1) (.fn 74) [] H = trimO H.length (finishO Try.prog Try.f74.results.toList (evalCode Try.prog (cxG Try.prog (mkHints tab) k 74 none) (Try.f74.body.getD .skip) (fillArgs (fr 8 []) 0 []) H)) := by
  have h := evalT_fn 8 Try.func74 rfl (by decide) rfl (P := Try.prog) (h := mkHints tab) (k := k) (args := []) (H := H)
  rw [show (mkHints tab).slots 74 = 0 from rfl, show (List.replicate 0 AObj.slot) = [] from rfl, List.append_nil] at h
  exact h
theorem bd34_0_1_2_4 (a0 a1 a2 a3 : IV) : buildA Try.prog 34 [(0, .c a0), (1, .c a1), (2, .c a2), (4, .c a3)] = some (.agg [.c a0, .c a1, .c a2, .c (.int .i64 0), .c a3]) := by kernel_rfl
theorem bd34_0_1_2 (a0 a1 a2 : IV) : buildA Try.prog 34 [(0, .c a0), (1, .c a1), (2, .c a2)] = some (.agg [.c a0, .c a1, .c a2, .c (.int .i64 0), .c (.int .i64 0)]) := by kernel_rfl
theorem bs22_4_0_1_2_3 (H : Heap) (a0 a1 a2 a3 a4 a5 a6 a7 a8 a9 a10 a11 a12 a13 a14 a15 a16 a17 a18 a19 : IV) : buildSliceA Try.prog H 22 4 [(0, .agg [.c a0, .c a1, .c a2, .c a3, .c a4]), (1, .agg [.c a5, .c a6, .c a7, .c a8, .c a9]), (2, .agg [.c a10, .c a11, .c a12, .c a13, .c a14]), (3, .agg [.c a15, .c a16, .c a17, .c a18, .c a19])] = some (.hsl H.length 0 4 (4 * 5) 5, H ++ [.row false 34 [a0, a1, a2, a3, a4, a5, a6, a7, a8, a9, a10, a11, a12, a13, a14, a15, a16, a17, a18, a19]]) := by kernel_rfl
theorem ev62 (k : Nat) (x0 : AV) (H : Heap) : evalT Try.prog (mkHints tab) (k + 1) (.fn 62) [x0] H = trimO H.length (finishO Try.prog Try.f62.results.toList (evalCode Try.prog (cxG Try.prog (mkHints tab) k 62 none) (Try.f62.body.getD .skip) (fillArgs (fr 72 []) 0 [x0]) H)) := by
  have h := evalT_fn 72 Try.func62 rfl (by decide) rfl (P := Try.prog) (h := mkHints tab) (k := k) (args := [x0]) (H := H)
  rw [show (mkHints tab).slots 62 = 0 from rfl, show (List.replicate 0 AObj.slot) = [] from rfl, List.append_nil] at h
  exact h
theorem fsl62_12_3 : fslotB tab.fslots 62 12 3 = [] := by rfl
theorem kb62_12_3 : keepB tab.keeps 62 12 3 = false := by rfl
theorem ev75 (k : Nat) (x0 : AV) (H : Heap) : evalT Try.prog (mkHints tab) (k + 1) (.fn 75) [x0] H = trimO H.length (finishO Try.prog Try.f75.results.toList (evalCode Try.prog (cxG Try.prog (mkHints tab) k 75 none) (Try.f75.body.getD .skip) (fillArgs (fr 58 []) 0 [x0]) H)) := by
  have h := evalT_fn 58 Try.func75 rfl (by decide) rfl (P := Try.prog) (h := mkHints tab) (k := k) (args := [x0]) (H := H)
  rw [show (mkHints tab).slots 75 = 0 from rfl, show (List.replicate 0 AObj.slot) = [] from rfl, List.append_nil] at h
  exact h
theorem fsl75_8_1 : fslotB tab.fslots 75 8 1 = [] := by rfl
theorem kb75_8_1 : keepB tab.keeps 75 8 1 = false := by rfl
theorem fsl75_14_1 : fslotB tab.fslots 75 14 1 = [] := by rfl
theorem kb75_14_1 : keepB tab.keeps 75 14 1 = false := by rfl
theorem rae75_9 (cx : Cx) (F : Fr) (H : Heap) : evalCode Try.prog cx RA75_9 F H = evalCode Try.prog cx (rfAs Try.f75 9) F H := rfl
theorem rbe75_9 (cx : Cx) (F : Fr) (H : Heap) : evalCode Try.prog cx RB75_9 F H = evalCode Try.prog cx (rfBd Try.f75 9) F H := rfl
theorem ev76 (k : Nat) (x0 : AV) (H : Heap) : evalT Try.prog (mkHints tab) (k + 1) (.fn 76) [x0] H = trimO H.length (finishO Try.prog Try.f76.results.toList (evalCode Try.prog (cxG Try.prog (mkHints tab) k 76 none) (Try.f76.body.getD .skip) (fillArgs (fr 13 []) 0 [x0]) H)) := by
  have h := evalT_fn 13 Try.func76 rfl (by decide) rfl (P := Try.prog) (h := mkHints tab) (k := k) (args := [x0]) (H := H)
  rw [show (mkHints tab).slots 76 = 0 from rfl, show (List.replicate 0 AObj.slot) = [] from rfl, List.append_nil] at h
  exact h
theorem ev77 (k : Nat) (x0 : AV) (H : Heap) : evalT Try.prog (mkHints tab) (k + 1) (.fn 77) [x0] H = trimO H.length (finishO Try.prog Try.f77.results.toList (evalCode Try.prog (cxG Try.prog (mkHints tab) k 77 none) (Try.f77.body.getD .skip) (fillArgs (fr 8 []) 0 [x0]) H)) := by
  have h := evalT_fn 8 Try.func77 rfl (by decide) rfl (P := Try.prog) (h := mkHints tab) (k := k) (args := [x0]) (H := H)
  rw [show (mkHints tab).slots 77 = 0 from rfl, show (List.replicate 0 AObj.slot) = [] from rfl, List.append_nil] at h
  exact h
theorem sb77_3_2 : slotB tab.slots 77 3 2 = none := by rfl
theorem eqs23 (H : Heap) (cells : List IV) (len : Nat) (nl : Bool) (cap cap2 : Option Nat) : binA Try.prog H .eql 23 (.c (.slice cells len nl cap)) (.c (.slice [] 0 true cap2)) = some (.c (.bool (nl))) := by kernel_rfl
theorem bs23_0_ (H : Heap) : buildSliceA Try.prog H 23 0 [] = some (.hsl H.length 0 0 (0 * 1) 1, H ++ [.row false 3 []]) := by kernel_rfl
theorem ev78 (k : Nat) (x0 : AV) (H : Heap) : evalT Try.prog (mkHints tab) (k + 1) (.fn 78) [x0] H = trimO H.length (finishO Try.prog Try.f78.results.toList (evalCode Try.prog (cxG Try.prog (mkHints tab) k 78 none) (Try.f78.body.getD .skip) (fillArgs (fr 4 []) 0 [x0]) H)) := by
  have h := evalT_fn 4 Try.func78 rfl (by decide) rfl (P := Try.prog) (h := mkHints tab) (k := k) (args := [x0]) (H := H)
  rw [show (mkHints tab).slots 78 = 0 from rfl, show (List.replicate 0 AObj.slot) = [] from rfl, List.append_nil] at h
  exact h
theorem ev79 (k : Nat) (x0 : AV) (H : Heap) : evalT Try.prog (mkHints tab) (k + 1) (.fn 79) [x0] H = trimO H.length (finishO Try.prog Try.f79.results.toList (evalCode Try.prog (cxG Try.prog (mkHints tab) k 79 none) (Try.f79.body.getD .skip) (fillArgs (fr 23 []) 0 [x0]) H)) := by
  have h := evalT_fn 23 Try.func79 rfl (by decide) rfl (P := Try.prog) (h := mkHints tab) (k := k) (args := [x0]) (H := H)
  rw [show (mkHints tab).slots 79 = 0 from rfl, show (List.replicate 0 AObj.slot) = [] from rfl, List.append_nil] at h
  exact h
theorem fa34_3 (x : AV) : fieldAddrA Try.prog 34 x 3 = addrPlus x 3 := by kernel_rfl
theorem ev80 (k : Nat) (x0 x1 : AV) (H : Heap) : evalT Try.prog (mkHints tab) (k + 1) (.fn 80) [x0, x1] H = trimO H.length (finishO Try.prog Try.f80.results.toList (evalCode Try.prog (cxG Try.prog (mkHints tab) k 80 none) (Try.f80.body.getD .skip) (fillArgs (fr 39 []) 0 [x0, x1]) H)) := by
  have h := evalT_fn 39 Try.func80 rfl (by decide) rfl (P := Try.prog) (h := mkHints tab) (k := k) (args := [x0, x1]) (H := H)
  rw [show (mkHints tab).slots 80 = 0 from rfl, show (List.replicate 0 AObj.slot) = [] from rfl, List.append_nil] at h
  exact h
theorem fsl80_0_1 : fslotB tab.fslots 80 0 1 = [] := by rfl
theorem kb80_0_1 : keepB tab.keeps 80 0 1 = false := by rfl
theorem fsl80_2_1 : fslotB tab.fslots 80 2 1 = [] := by rfl
theorem kb80_2_1 : keepB tab.keeps 80 2 1 = false := by rfl
theorem fsl80_5_8 : fslotB tab.fslots 80 5 8 = [] := by rfl
theorem kb80_5_8 : keepB tab.keeps 80 5 8 = false := by rfl
theorem fsl80_5_13 : fslotB tab.fslots 80 5 13 = [] := by rfl
theorem kb80_5_13 : keepB tab.keeps 80 5 13 = false := by rfl
theorem ev53 (k : Nat) (x0 : AV) (H : Heap) : evalT Try.prog (mkHints tab) (k + 1) (.fn 53) [x0] H = trimO H.length (finishO Try.prog Try.f53.results.toList (evalCode Try.prog (cxG Try.prog (mkHints tab) k 53 none) (Try.f53.body.getD .skip) (fillArgs (fr 99 []) 0 [x0]) H)) := by
  have h := evalT_fn 99 Try.func53 rfl (by decide) rfl (P := Try.prog) (h := mkHints tab) (k := k) (args := [x0]) (H := H)
  rw [show (mkHints tab).slots 53 = 0 from rfl, show (List.replicate 0 AObj.slot) = [] from rfl, List.append_nil] at h
  exact h
theorem fsl53_10_5 : fslotB tab.fslots 53 10 5 = [] := by rfl
theorem kb53_10_5 : keepB tab.keeps 53 10 5 = false := by rfl
theorem ev81 (k : Nat) (x0 : AV) (H : Heap) : evalT Try.prog (mkHints tab) (k + 1) (.fn 81) [x0] H = trimO H.length (finishO Try.prog Try.f81.results.toList (evalCode Try.prog (cxG Try.prog (mkHints tab) k 81 none) (Try.f81.body.getD .skip) (fillArgs (fr 27 []) 0 [x0]) H)) := by
  have h := evalT_fn 27 Try.func81 rfl (by decide) rfl (P := Try.prog) (h := mkHints tab) (k := k) (args := [x0]) (H := H)
  rw [show (mkHints tab).slots 81 = 0 from rfl, show (List.replicate 0 AObj.slot) = [] from rfl, List.append_nil] at h
  exact h
theorem ev85 (k : Nat) (x0 : AV) (H : Heap) : evalT Try.prog (mkHints tab) (k + 1) (.fn 85) [x0] H = trimO H.length (finishO Try.prog Try.f85.results.toList (evalCode Try.prog (cxG Try.prog (mkHints tab) k 85 none) (Try.f85.body.getD .skip) (fillArgs (fr 12 []) 0 [x0]) H)) := by
  have h := evalT_fn 12 Try.func85 rfl (by decide) rfl (P := Try.prog) (h := mkHints tab) (k := k) (args := [x0]) (H := H)
  rw [show (mkHints tab).slots 85 = 0 from rfl, show (List.replicate 0 AObj.slot) = [] from rfl, List.append_nil] at h
  exact h
theorem fsl85_1_1 : fslotB tab.fslots 85 1 1 = [] := by rfl
theorem kb85_1_1 : keepB tab.keeps 85 1 1 = false := by rfl
theorem ev86 (k : Nat) (x0 x1 : AV) (H : Heap) : evalT Try.prog (mkHints tab) (k + 1) (.fn 86) [x0, x1] H = trimO H.length (finishO Try.prog Try.f86.results.toList (evalCode Try.prog (cxG Try.prog (mkHints tab) k 86 none) (Try.f86.body.getD .skip) (fillArgs (fr 19 []) 0 [x0, x1]) H)) := by
  have h := evalT_fn 19 Try.func86 rfl (by decide) rfl (P := Try.prog) (h := mkHints tab) (k := k) (args := [x0, x1]) (H := H)
  rw [show (mkHints tab).slots 86 = 0 from rfl, show (List.replicate 0 AObj.slot) = [] from rfl, List.append_nil] at h
  exact h
theorem eqb4 (H : Heap) (a b : Bool) : binA Try.prog H .eql 4 (.c (.bool a)) (.c (.bool b)) = some (.c (.bool ((a == b)))) := by kernel_rfl
theorem ev87 (k : Nat) (x0 x1 : AV) (H : Heap) : evalT Try.prog (mkHints tab) (k + 1) (.fn 87) [x0, x1] H = trimO H.length (finishO Try.prog Try.f87.results.toList (evalCode Try.prog (cxG Try.prog (mkHints tab) k 87 none) (Try.f87.body.getD .skip) (fillArgs (fr 26 []) 0 [x0, x1]) H)) := by
  have h := evalT_fn 26 Try.func87 rfl (by decide) rfl (P := Try.prog) (h := mkHints tab) (k := k) (args := [x0, x1]) (H := H)
  rw [show (mkHints tab).slots 87 = 0 from rfl, show (List.replicate 0 AObj.slot) = [] from rfl, List.append_nil] at h
  exact h
theorem dr87_6 : drawFact Try.f87 6 [0, 0, 3, 7, 0, 0, 48, 112, 255] = true := by kernel_rfl
theorem ev102 (k : Nat) (x0 x1 : AV) (H : Heap) : evalT Try.prog (mkHints tab) (k + 1) (.fn 102) [x0, x1] H = trimO H.length (finishO Try.prog Try.f102.results.toList (evalCode Try.prog (cxG Try.prog (mkHints tab) k 102 none) (Try.f102.body.getD .skip) (fillArgs (fr 100 []) 0 [x0, x1]) H)) := by
  have h := evalT_fn 100 Try.func102 rfl (by decide) rfl (P := Try.prog) (h := mkHints tab) (k := k) (args := [x0, x1]) (H := H)
  rw [show (mkHints tab).slots 102 = 0 from rfl, show (List.replicate 0 AObj.slot) = [] from rfl, List.append_nil] at h
  exact h
theorem fa34_4 (x : AV) : fieldAddrA Try.prog 34 x 4 = addrPlus x 4 := by kernel_rfl
theorem ev100 (k : Nat) (x0 x1 : AV) (H : Heap) : evalT Try.prog (mkHints tab) (k + 1) (.fn 100) [x0, x1] H = trimO H.length (finishO Try.prog Try.f100.results.toList (evalCode Try.prog (cxG Try.prog (mkHints tab) k 100 none) (Try.f100.body.getD .skip) (fillArgs (fr 57 []) 0 [x0, x1]) H)) := by
  have h := evalT_fn 57 Try.func100 rfl (by decide) rfl (P := Try.prog) (h := mkHints tab) (k := k) (args := [x0, x1]) (H := H)
  rw [show (mkHints tab).slots 100 = 0 from rfl, show (List.replicate 0 AObj.slot) = [] from rfl, List.append_nil] at h
  exact h
theorem fsl100_1_22 : fslotB tab.fslots 100 1 22 = [] := by rfl
theorem kb100_1_22 : keepB tab.keeps 100 1 22 = false := by rfl
theorem fsl100_1_32 : fslotB tab.fslots 100 1 32 = [] := by rfl
theorem kb100_1_32 : keepB tab.keeps 100 1 32 = false := by rfl
theorem fsl100_3_1 : fslotB tab.fslots 100 3 1 = [] := by rfl
theorem kb100_3_1 : keepB tab.keeps 100 3 1 = false := by rfl
theorem ev110 (k : Nat) (x0 x1 : AV) (H : Heap) : evalT Try.prog (mkHints tab) (k + 1) (.fn 110) [x0, x1] H = trimO H.length (finishO Try.prog Try.f110.results.toList (evalCode Try.prog (cxG Try.prog (mkHints tab) k 110 none) (Try.f110.body.getD .skip) (fillArgs (fr 18 []) 0 [x0, x1]) H)) := by
  have h := evalT_fn 18 Try.func110 rfl (by decide) rfl (P := Try.prog) (h := mkHints tab) (k := k) (args := [x0, x1]) (H := H)
  rw [show (mkHints tab).slots 110 = 0 from rfl, show (List.replicate 0 AObj.slot) = [] from rfl, List.append_nil] at h
  exact h
theorem fsl110_1_1 : fslotB tab.fslots 110 1 1 = [] := by rfl
theorem kb110_1_1 : keepB tab.keeps 110 1 1 = false := by rfl
theorem fsl110_2_2 : fslotB tab.fslots 110 2 2 = [] := by rfl
theorem kb110_2_2 : keepB tab.keeps 110 2 2 = false := by rfl
theorem fsl110_5_3 : fslotB tab.fslots 110 5 3 = [] := by rfl
theorem kb110_5_3 : keepB tab.keeps 110 5 3 = false := by rfl
theorem rae110_3 (cx : Cx) (F : Fr) (H : Heap) : evalCode Try.prog cx RA110_3 F H = evalCode Try.prog cx (rfAs Try.f110 3) F H := rfl
theorem rbe110_3 (cx : Cx) (F : Fr) (H : Heap) : evalCode Try.prog cx RB110_3 F H = evalCode Try.prog cx (rfBd Try.f110 3) F H := rfl
theorem ag163 : isAggT Try.prog 163 = some false := by kernel_rfl
theorem sz163 : sizeT Try.prog 163 = some 1 := by kernel_rfl
theorem ldp163 (H : Heap) (id off : Nat) : loadA Try.prog H 163 (.ptr id off) = cellAt H[id]? off := by kernel_rfl
theorem ldi163 (H : Heap) (cells : List IV) (off : Nat) : loadA Try.prog H 163 (.c (.iptr cells off)) = (cells[off]?).map .c := by kernel_rfl
theorem lde163 (H : Heap) (id off ext : Nat) : loadA Try.prog H 163 (.eptr id off ext) = (rowOf H id ext).bind fun r => (r.2[off]?).map .c := by kernel_rfl
theorem ev123 (k : Nat) (x0 : AV) (H : Heap) : evalT Try.prog (mkHints tab) (k + 1) (.fn 123) [x0] H = trimO H.length (finishO Try.prog Try.f123.results.toList (evalCode Try.prog (cxG Try.prog (mkHints tab) k 123 none) (Try.f123.body.getD .skip) (fillArgs (fr 9 []) 0 [x0]) H)) := by
  have h := evalT_fn 9 Try.func123 rfl (by decide) rfl (P := Try.prog) (h := mkHints tab) (k := k) (args := [x0]) (H := H)
  rw [show (mkHints tab).slots 123 = 0 from rfl, show (List.replicate 0 AObj.slot) = [] from rfl, List.append_nil] at h
  exact h
theorem ev124 (k : Nat) (x0 : AV) (H : Heap) : evalT Try.prog (mkHints tab) (k + 1) (.fn 124) [x0] H = trimO H.length (finishO Try.prog Try.f124.results.toList (evalCode Try.prog (cxG Try.prog (mkHints tab) k 124 none) (Try.f124.body.getD .skip) (fillArgs (fr 35 []) 0 [x0]) H)) := by
  have h := evalT_fn 35 Try.func124 rfl (by decide) rfl (P := Try.prog) (h := mkHints tab) (k := k) (args := [x0]) (H := H)
  rw [show (mkHints tab).slots 124 = 0 from rfl, show (List.replicate 0 AObj.slot) = [] from rfl, List.append_nil] at h
  exact h
theorem ev111 (k : Nat) (x0 : AV) (H : Heap) : evalT Try.prog (mkHints tab) (k + 1) (.fn 111) [x0] H = trimO H.length (finishO Try.prog Try.f111.results.toList (evalCode Try.prog (cxG Try.prog (mkHints tab) k 111 none) (Try.f111.body.getD .skip) (fillArgs (fr 4 []) 0 [x0]) H)) := by
  have h := evalT_fn 4 Try.func111 rfl (by decide) rfl (P := Try.prog) (h := mkHints tab) (k := k) (args := [x0]) (H := H)
  rw [show (mkHints tab).slots 111 = 0 from rfl, show (List.replicate 0 AObj.slot) = [] from rfl, List.append_nil] at h
  exact h
theorem ev128 (k : Nat) (x0 x1 : AV) (H : Heap) : evalT Try.prog (mkHints tab) (k + 1) (.fn 128) [x0, x1] H = trimO H.length (finishO Try.prog Try.f128.results.toList (evalCode Try.prog (cxG Try.prog (mkHints tab) k 128 none) (Try.f128.body.getD .skip) (fillArgs (fr 19 []) 0 [x0, x1]) H)) := by
  have h := evalT_fn 19 Try.func128 rfl (by decide) rfl (P := Try.prog) (h := mkHints tab) (k := k) (args := [x0, x1]) (H := H)
  rw [show (mkHints tab).slots 128 = 0 from rfl, show (List.replicate 0 AObj.slot) = [] from rfl, List.append_nil] at h
  exact h
theorem fsl128_3_6 : fslotB tab.fslots 128 3 6 = [] := by rfl
theorem kb128_3_6 : keepB tab.keeps 128 3 6 = false := by rfl
theorem ev5 (k : Nat) (x0 x1 : AV) (H : Heap) : evalT Try.prog (mkHints tab) (k + 1) (.fn 5) [x0, x1] H = trimO H.length (finishO Try.prog Try.f5.results.toList (evalCode Try.prog (cxG Try.prog (mkHints tab) k 5 none) (Try.f5.body.getD .skip) (fillArgs (fr 163 []) 0 [x0, x1]) (H ++ [.slot, .slot]))) := evalT_fn 163 Try.func5 rfl (by decide) rfl
theorem fsl5_1_0 : fslotB tab.fslots 5 1 0 = [] := by rfl
theorem kb5_1_0 : keepB tab.keeps 5 1 0 = false := by rfl
theorem fsl5_3_1 : fslotB tab.fslots 5 3 1 = [] := by rfl
theorem kb5_3_1 : keepB tab.keeps 5 3 1 = false := by rfl
theorem fsl5_5_1 : fslotB tab.fslots 5 5 1 = [] := by rfl
theorem kb5_5_1 : keepB tab.keeps 5 5 1 = false := by rfl
theorem fsl5_6_1 : fslotB tab.fslots 5 6 1 = [] := by rfl
theorem kb5_6_1 : keepB tab.keeps 5 6 1 = false := by rfl
theorem fsl5_7_1 : fslotB tab.fslots 5 7 1 = [] := by rfl
theorem kb5_7_1 : keepB tab.keeps 5 7 1 = false := by rfl
theorem fsl5_8_3 : fslotB tab.fslots 5 8 3 = [] := by rfl
theorem kb5_8_3 : keepB tab.keeps 5 8 3 = false := by rfl
theorem fsl5_16_1 : fslotB tab.fslots 5 16 1 = [] := by rfl
theorem kb5_16_1 : keepB tab.keeps 5 16 1 = false := by rfl
theorem fsl5_21_7 : fslotB tab.fslots 5 21 7 = [1] := by rfl
theorem kb5_21_7 : keepB tab.keeps 5 21 7 = false := by rfl
theorem sb5_26_5 : slotB tab.slots 5 26 5 = some 0 := by rfl
theorem rae5_12 (cx : Cx) (F : Fr) (H : Heap) : evalCode Try.prog cx RA5_12 F H = evalCode Try.prog cx (rfAs Try.f5 12) F H := rfl
theorem rbe5_12 (cx : Cx) (F : Fr) (H : Heap) : evalCode Try.prog cx RB5_12 F H = evalCode Try.prog cx (rfBd Try.f5 12) F H := rfl
theorem rae5_32 (cx : Cx) (F : Fr) (H : Heap) : evalCode Try.prog cx RA5_32 F H = evalCode Try.prog cx (rfAs Try.f5 32) F H := rfl
theorem rbe5_32 (cx : Cx) (F : Fr) (H : Heap) : evalCode Try.prog cx RB5_32 F H = evalCode Try.prog cx (rfBd Try.f5 32) F H := rfl
theorem al4 (H : Heap) : allocA Try.prog H 4 = some (.ptr H.length 0, H ++ [.cells 4 [.c (.bool false)]]) := by kernel_rfl
theorem eqf52 (H : Heap) (f : FuncId) (a b : List AV) : binA Try.prog H .eql 52 (.clo f a b) (.c .nilfn) = some (.c (.bool false)) := by kernel_rfl
theorem al56 (H : Heap) : allocA Try.prog H 56 = some (.ptr H.length 0, H ++ [.cells 56 [.c (.slice [] 0 true (some 0))]]) := by kernel_rfl
theorem fa61_0 (x : AV) : fieldAddrA Try.prog 61 x 0 = addrPlus x 0 := by kernel_rfl
theorem dr5_22 : drawFact Try.f5 22 [0, 1, 3, 7, 0, 16, 0, 112, 240, 496, 0, 2047, 4095] = true := by kernel_rfl
theorem ag56 : isAggT Try.prog 56 = some false := by kernel_rfl
theorem sz56 : sizeT Try.prog 56 = some 1 := by kernel_rfl
theorem ldp56 (H : Heap) (id off : Nat) : loadA Try.prog H 56 (.ptr id off) = cellAt H[id]? off := by kernel_rfl
theorem ldi56 (H : Heap) (cells : List IV) (off : Nat) : loadA Try.prog H 56 (.c (.iptr cells off)) = (cells[off]?).map .c := by kernel_rfl
theorem lde56 (H : Heap) (id off ext : Nat) : loadA Try.prog H 56 (.eptr id off ext) = (rowOf H id ext).bind fun r => (r.2[off]?).map .c := by kernel_rfl
theorem bd62_0_1 (a0 a1 : IV) : buildA Try.prog 62 [(0, .c a0), (1, .c a1)] = some (.agg [.c a0, .c a1]) := by kernel_rfl
theorem bs56_1_0 (H : Heap) (a0 a1 : IV) : buildSliceA Try.prog H 56 1 [(0, .agg [.c a0, .c a1])] = some (.hsl H.length 0 1 (1 * 2) 2, H ++ [.row false 62 [a0, a1]]) := by kernel_rfl
theorem ap56 (H : Heap) (sl : Option Nat) (s x : AV) : appendA Try.prog H sl 56 s x = apO 62 2 16 sl s H (srcOf H 2 x) := by kernel_rfl
theorem ln56 (cells : List IV) (n : Nat) (nl : Bool) (cap : Option Nat) : lenA Try.prog 56 (.c (.slice cells n nl cap)) = some (.c (.int .i64 n)) := by kernel_rfl
theorem lnv56 (s n sz : Nat) : lenA Try.prog 56 (lv s sz n) = some (.c (.int .i64 n)) := by
  unfold lv; split
  · rename_i h; subst h; kernel_rfl
  · kernel_rfl
theorem lnh56 (id off n ext sz : Nat) : lenA Try.prog 56 (.hsl id off n ext sz) = some (.c (.int .i64 n)) := by kernel_rfl
theorem ag62 : isAggT Try.prog 62 = some true := by kernel_rfl
theorem sz62 : sizeT Try.prog 62 = some 2 := by kernel_rfl
theorem ia56 (H : Heap) (cells : List IV) (len : Nat) (nl : Bool) (cap : Option Nat) (k : IntKind) (i : Int) : indexAddrA Try.prog H 56 (.c (.slice cells len nl cap)) (.c (.int k i)) = if 0 ≤ i ∧ i < len then some (.c (.iptr cells (i.toNat * 2))) else none := by kernel_rfl
theorem iah56 (H : Heap) (id off len ext sz : Nat) (k : IntKind) (i : Int) : indexAddrA Try.prog H 56 (.hsl id off len ext sz) (.c (.int k i)) = if 0 ≤ i ∧ i < len ∧ sz = 2 ∧ (rowOf H id ext).isSome = true then some (.eptr id (off + i.toNat * 2) ext) else none := by kernel_rfl
theorem iaa62 (H : Heap) (x : AV) (k : IntKind) (i : Int) : indexAddrA Try.prog H 62 x (.c (.int k i)) = if 0 ≤ i ∧ i < (2 : Nat) then addrPlus x (i.toNat * 1) else none := by kernel_rfl
theorem ev13 (k : Nat) (H : Heap) : evalT Try.prog (mkHints tab) (k + 1) (.fn 13) [] H = trimO H.length (finishO Try.prog Try.f13.results.toList (evalCode Try.prog (cxG Try.prog (mkHints tab) k 13 none) (Try.f13.body.getD .skip) (fillArgs (fr 32 []) 0 []) H)) := by
  have h := evalT_fn 32 Try.func13 rfl (by decide) rfl (P := Try.prog) (h := mkHints tab) (k := k) (args := []) (H := H)
  rw [show (mkHints tab).slots 13 = 0 from rfl, show (List.replicate 0 AObj.slot) = [] from rfl, List.append_nil] at h
  exact h
theorem fsl13_1_4 : fslotB tab.fslots 13 1 4 = [] := by rfl
theorem kb13_1_4 : keepB tab.keeps 13 1 4 = false := by rfl
theorem bd34_0_1 (a0 a1 : IV) : buildA Try.prog 34 [(0, .c a0), (1, .c a1)] = some (.agg [.c a0, .c a1, .c (.int .i64 0), .c (.int .i64 0), .c (.int .i64 0)]) := by kernel_rfl
theorem ev14 (k : Nat) (x0 : AV) (H : Heap) : evalT Try.prog (mkHints tab) (k + 1) (.fn 14) [x0] H = trimO H.length (finishO Try.prog Try.f14.results.toList (evalCode Try.prog (cxG Try.prog (mkHints tab) k 14 none) (Try.f14.body.getD .skip) (fillArgs (fr 13 []) 0 [x0]) H)) := by
  have h := evalT_fn 13 Try.func14 rfl (by decide) rfl (P := Try.prog) (h := mkHints tab) (k := k) (args := [x0]) (H := H)
  rw [show (mkHints tab).slots 14 = 0 from rfl, show (List.replicate 0 AObj.slot) = [] from rfl, List.append_nil] at h
  exact h
theorem ev25 (k : Nat) (x0 : AV) (H : Heap) : evalT Try.prog (mkHints tab) (k + 1) (.fn 25) [x0] H = trimO H.length (finishO Try.prog Try.f25.results.toList (evalCode Try.prog (cxG Try.prog (mkHints tab) k 25 none) (Try.f25.body.getD .skip) (fillArgs (fr 51 []) 0 [x0]) (H ++ [.slot]))) := evalT_fn 51 Try.func25 rfl (by decide) rfl
theorem fsl25_1_1 : fslotB tab.fslots 25 1 1 = [] := by rfl
theorem kb25_1_1 : keepB tab.keeps 25 1 1 = false := by rfl
theorem fsl25_4_1 : fslotB tab.fslots 25 4 1 = [] := by rfl
theorem kb25_4_1 : keepB tab.keeps 25 4 1 = false := by rfl
theorem fsl25_9_3 : fslotB tab.fslots 25 9 3 = [] := by rfl
theorem kb25_9_3 : keepB tab.keeps 25 9 3 = false := by rfl
theorem sb25_11_3 : slotB tab.slots 25 11 3 = some 0 := by rfl
theorem fa97_0 (x : AV) : fieldAddrA Try.prog 97 x 0 = addrPlus x 0 := by kernel_rfl
theorem dr25_10 : drawFact Try.f25 10 [0, 1, 3, 7, 0, 16, 0, 127, 255] = true := by kernel_rfl
theorem ev26 (k : Nat) (x0 : AV) (H : Heap) : evalT Try.prog (mkHints tab) (k + 1) (.fn 26) [x0] H = trimO H.length (finishO Try.prog Try.f26.results.toList (evalCode Try.prog (cxG Try.prog (mkHints tab) k 26 none) (Try.f26.body.getD .skip) (fillArgs (fr 4 []) 0 [x0]) H)) := by
  have h := evalT_fn 4 Try.func26 rfl (by decide) rfl (P := Try.prog) (h := mkHints tab) (k := k) (args := [x0]) (H := H)
  rw [show (mkHints tab).slots 26 = 0 from rfl, show (List.replicate 0 AObj.slot) = [] from rfl, List.append_nil] at h
  exact h
theorem ev27 (k : Nat) (x0 : AV) (H : Heap) : evalT Try.prog (mkHints tab) (k + 1) (.fn 27) [x0] H = trimO H.length (finishO Try.prog Try.f27.results.toList (evalCode Try.prog (cxG Try.prog (mkHints tab) k 27 none) (Try.f27.body.getD .skip) (fillArgs (fr 42 []) 0 [x0]) (H ++ [.slot]))) := evalT_fn 42 Try.func27 rfl (by decide) rfl
theorem sb27_6_7 : slotB tab.slots 27 6 7 = some 0 := by rfl
theorem sb27_7_8 : slotB tab.slots 27 7 8 = some 0 := by rfl
theorem bd61_2 (a0 : IV) : buildA Try.prog 61 [(2, .c a0)] = some (.agg [.c (.slice [] 0 true (some 0)), .c (.slice [] 0 true (some 0)), .c a0]) := by kernel_rfl
theorem dr27_7 : drawFact Try.f27 7 [0, 0, 2, 6, 14, 0, 32, 96, 254, 511, 1023, 2047] = true := by kernel_rfl
theorem ev28 (k : Nat) (x0 x1 x2 : AV) (H : Heap) : evalT Try.prog (mkHints tab) (k + 1) (.fn 28) [x0, x1, x2] H = trimO H.length (finishO Try.prog Try.f28.results.toList (evalCode Try.prog (cxG Try.prog (mkHints tab) k 28 none) (Try.f28.body.getD .skip) (fillArgs (fr 139 []) 0 [x0, x1, x2]) (H ++ [.slot]))) := evalT_fn 139 Try.func28 rfl (by decide) rfl
theorem sb28_14_7 : slotB tab.slots 28 14 7 = some 2 := by rfl
theorem dr28_2 : drawFact Try.f28 2 [0, 1, 3, 7, 0, 16, 63, 127, 255, 511] = true := by kernel_rfl
theorem fa61_2 (x : AV) : fieldAddrA Try.prog 61 x 2 = addrPlus x 2 := by kernel_rfl
theorem bd110_0_1_2_3_4_5 (a0 a1 a2 a3 a4 a5 : IV) : buildA Try.prog 110 [(0, .c a0), (1, .c a1), (2, .c a2), (3, .c a3), (4, .c a4), (5, .c a5)] = some (.agg [.c a0, .c a1, .c a2, .c a3, .c a4, .c a5]) := by kernel_rfl
theorem al110 (H : Heap) : allocA Try.prog H 110 = some (.ptr H.length 0, H ++ [.cells 110 [.c (.int .i64 0), .c (.int .i64 0), .c (.int .i64 0), .c (.int .i64 0), .c (.int .i64 0), .c (.int .i64 0)]]) := by kernel_rfl
theorem ag110 : isAggT Try.prog 110 = some true := by kernel_rfl
theorem sz110 : sizeT Try.prog 110 = some 6 := by kernel_rfl
theorem dr28_3 : drawFact Try.f28 3 [0, 1, 0, 4, 12, 28, 0, 64, 252, 508, 0, 1024, 0, 0, 8192, 24576, 57344, 131071, 0, 524287] = true := by kernel_rfl
theorem fa110_2 (x : AV) : fieldAddrA Try.prog 110 x 2 = addrPlus x 2 := by kernel_rfl
theorem dr28_5 : drawFact Try.f28 5 [0, 1, 3, 7, 0, 16, 63, 127, 255, 511] = true := by kernel_rfl
theorem fa110_1 (x : AV) : fieldAddrA Try.prog 110 x 1 = addrPlus x 1 := by kernel_rfl
theorem fa61_1 (x : AV) : fieldAddrA Try.prog 61 x 1 = addrPlus x 1 := by kernel_rfl
theorem ag59 : isAggT Try.prog 59 = some false := by kernel_rfl
theorem sz59 : sizeT Try.prog 59 = some 1 := by kernel_rfl
theorem ldp59 (H : Heap) (id off : Nat) : loadA Try.prog H 59 (.ptr id off) = cellAt H[id]? off := by kernel_rfl
theorem ldi59 (H : Heap) (cells : List IV) (off : Nat) : loadA Try.prog H 59 (.c (.iptr cells off)) = (cells[off]?).map .c := by kernel_rfl
theorem lde59 (H : Heap) (id off ext : Nat) : loadA Try.prog H 59 (.eptr id off ext) = (rowOf H id ext).bind fun r => (r.2[off]?).map .c := by kernel_rfl
theorem ln59 (cells : List IV) (n : Nat) (nl : Bool) (cap : Option Nat) : lenA Try.prog 59 (.c (.slice cells n nl cap)) = some (.c (.int .i64 n)) := by kernel_rfl
theorem lnv59 (s n sz : Nat) : lenA Try.prog 59 (lv s sz n) = some (.c (.int .i64 n)) := by
  unfold lv; split
  · rename_i h; subst h; kernel_rfl
  · kernel_rfl
theorem lnh59 (id off n ext sz : Nat) : lenA Try.prog 59 (.hsl id off n ext sz) = some (.c (.int .i64 n)) := by kernel_rfl
theorem ia59 (H : Heap) (cells : List IV) (len : Nat) (nl : Bool) (cap : Option Nat) (k : IntKind) (i : Int) : indexAddrA Try.prog H 59 (.c (.slice cells len nl cap)) (.c (.int k i)) = if 0 ≤ i ∧ i < len then some (.c (.iptr cells (i.toNat * 6))) else none := by kernel_rfl
theorem iah59 (H : Heap) (id off len ext sz : Nat) (k : IntKind) (i : Int) : indexAddrA Try.prog H 59 (.hsl id off len ext sz) (.c (.int k i)) = if 0 ≤ i ∧ i < len ∧ sz = 6 ∧ (rowOf H id ext).isSome = true then some (.eptr id (off + i.toNat * 6) ext) else none := by kernel_rfl
theorem ldp110 (H : Heap) (id off : Nat) : loadA Try.prog H 110 (.ptr id off) = cellsAt H[id]? off 6 := by kernel_rfl
theorem ldi110 (H : Heap) (cells : List IV) (off : Nat) : loadA Try.prog H 110 (.c (.iptr cells off)) = (takeCells cells off 6).map fun l => .agg (l.map .c) := by kernel_rfl
theorem lde110 (H : Heap) (id off ext : Nat) : loadA Try.prog H 110 (.eptr id off ext) = (rowOf H id ext).bind fun r => (takeCells r.2 off 6).map fun l => .agg (l.map .c) := by kernel_rfl
theorem fa110_0 (x : AV) : fieldAddrA Try.prog 110 x 0 = addrPlus x 0 := by kernel_rfl
theorem fa110_3 (x : AV) : fieldAddrA Try.prog 110 x 3 = addrPlus x 3 := by kernel_rfl
theorem fa110_5 (x : AV) : fieldAddrA Try.prog 110 x 5 = addrPlus x 5 := by kernel_rfl
theorem fa110_4 (x : AV) : fieldAddrA Try.prog 110 x 4 = addrPlus x 4 := by kernel_rfl
theorem dr28_13 : drawFact Try.f28 13 [0, 1, 0, 4, 3, 31] = true := by kernel_rfl
theorem bs59_1_0 (H : Heap) (a0 a1 a2 a3 a4 a5 : IV) : buildSliceA Try.prog H 59 1 [(0, .agg [.c a0, .c a1, .c a2, .c a3, .c a4, .c a5])] = some (.hsl H.length 0 1 (1 * 6) 6, H ++ [.row false 110 [a0, a1, a2, a3, a4, a5]]) := by kernel_rfl
theorem ap59 (H : Heap) (sl : Option Nat) (s x : AV) : appendA Try.prog H sl 59 s x = apO 110 6 48 sl s H (srcOf H 6 x) := by kernel_rfl
theorem dr28_14 : drawFact Try.f28 14 [0, 0, 2, 6, 14, 0, 32, 126, 255, 511, 1023] = true := by kernel_rfl
theorem ev16 (k : Nat) (x0 : AV) (H : Heap) : evalT Try.prog (mkHints tab) (k + 1) (.fn 16) [x0] H = trimO H.length (finishO Try.prog Try.f16.results.toList (evalCode Try.prog (cxG Try.prog (mkHints tab) k 16 none) (Try.f16.body.getD .skip) (fillArgs (fr 106 []) 0 [x0]) (H ++ [.slot, .slot]))) := evalT_fn 106 Try.func16 rfl (by decide) rfl
theorem fsl16_1_1 : fslotB tab.fslots 16 1 1 = [] := by rfl
theorem kb16_1_1 : keepB tab.keeps 16 1 1 = false := by rfl
theorem fsl16_4_1 : fslotB tab.fslots 16 4 1 = [] := by rfl
theorem kb16_4_1 : keepB tab.keeps 16 4 1 = false := by rfl
theorem fsl16_9_3 : fslotB tab.fslots 16 9 3 = [] := by rfl
theorem kb16_9_3 : keepB tab.keeps 16 9 3 = false := by rfl
theorem fsl16_10_2 : fslotB tab.fslots 16 10 2 = [] := by rfl
theorem kb16_10_2 : keepB tab.keeps 16 10 2 = false := by rfl
theorem fsl16_12_2 : fslotB tab.fslots 16 12 2 = [] := by rfl
theorem kb16_12_2 : keepB tab.keeps 16 12 2 = false := by rfl
theorem sb16_15_4 : slotB tab.slots 16 15 4 = some 0 := by rfl
theorem fsl16_21_10 : fslotB tab.fslots 16 21 10 = [] := by rfl
theorem kb16_21_10 : keepB tab.keeps 16 21 10 = false := by rfl
theorem sb16_21_12 : slotB tab.slots 16 21 12 = some 1 := by rfl
theorem dr16_11 : drawFact Try.f16 11 [0, 1, 3, 7, 0, 16, 63, 127, 0, 511] = true := by kernel_rfl
theorem dr16_16 : drawFact Try.f16 16 [0, 1, 3, 7, 0, 16, 0, 127, 255] = true := by kernel_rfl
theorem dr16_21 : drawFact Try.f16 21 [0, 1, 0, 0, 8, 24, 56, 0, 248, 504, 1020, 2044, 4095, 8191, 16383] = true := by kernel_rfl
theorem ev63 (k : Nat) (x0 : AV) (H : Heap) : evalT Try.prog (mkHints tab) (k + 1) (.fn 63) [x0] H = trimO H.length (finishO Try.prog Try.f63.results.toList (evalCode Try.prog (cxG Try.prog (mkHints tab) k 63 none) (Try.f63.body.getD .skip) (fillArgs (fr 32 []) 0 [x0]) (H ++ [.slot]))) := evalT_fn 32 Try.func63 rfl (by decide) rfl
theorem sb63_5_10 : slotB tab.slots 63 5 10 = some 0 := by rfl
theorem bd97_1_2_3 (a0 a1 a2 : IV) : buildA Try.prog 97 [(1, .c a0), (2, .c a1), (3, .c a2)] = some (.agg [.c (.slice [] 0 true (some 0)), .c a0, .c a1, .c a2]) := by kernel_rfl
theorem dr63_5 : drawFact Try.f63 5 [0, 0, 2, 6, 14, 0, 0, 64, 224, 480, 1022, 2047, 4095, 8191] = true := by kernel_rfl
theorem ev64 (k : Nat) (x0 x1 x2 : AV) (H : Heap) : evalT Try.prog (mkHints tab) (k + 1) (.fn 64) [x0, x1, x2] H = trimO H.length (finishO Try.prog Try.f64.results.toList (evalCode Try.prog (cxG Try.prog (mkHints tab) k 64 none) (Try.f64.body.getD .skip) (fillArgs (fr 74 []) 0 [x0, x1, x2]) H)) := by
  have h := evalT_fn 74 Try.func64 rfl (by decide) rfl (P := Try.prog) (h := mkHints tab) (k := k) (args := [x0, x1, x2]) (H := H)
  rw [show (mkHints tab).slots 64 = 0 from rfl, show (List.replicate 0 AObj.slot) = [] from rfl, List.append_nil] at h
  exact h
theorem fsl64_3_2 : fslotB tab.fslots 64 3 2 = [] := by rfl
theorem kb64_3_2 : keepB tab.keeps 64 3 2 = false := by rfl
theorem dr64_2 : drawFact Try.f64 2 [0, 1, 3, 7, 0, 16, 63, 127, 255, 511] = true := by kernel_rfl
theorem al155 (H : Heap) : allocA Try.prog H 155 = some (.ptr H.length 0, H ++ [.cells 155 [.c (.int .i64 0), .c (.int .i64 0), .c (.int .i64 0), .c (.int .i64 0)]]) := by kernel_rfl
theorem ag155 : isAggT Try.prog 155 = some true := by kernel_rfl
theorem sz155 : sizeT Try.prog 155 = some 4 := by kernel_rfl
theorem fa97_1 (x : AV) : fieldAddrA Try.prog 97 x 1 = addrPlus x 1 := by kernel_rfl
theorem ag95 : isAggT Try.prog 95 = some false := by kernel_rfl
theorem sz95 : sizeT Try.prog 95 = some 1 := by kernel_rfl
theorem ldp95 (H : Heap) (id off : Nat) : loadA Try.prog H 95 (.ptr id off) = cellAt H[id]? off := by kernel_rfl
theorem ldi95 (H : Heap) (cells : List IV) (off : Nat) : loadA Try.prog H 95 (.c (.iptr cells off)) = (cells[off]?).map .c := by kernel_rfl
theorem lde95 (H : Heap) (id off ext : Nat) : loadA Try.prog H 95 (.eptr id off ext) = (rowOf H id ext).bind fun r => (r.2[off]?).map .c := by kernel_rfl
theorem ldp155 (H : Heap) (id off : Nat) : loadA Try.prog H 155 (.ptr id off) = cellsAt H[id]? off 4 := by kernel_rfl
theorem ldi155 (H : Heap) (cells : List IV) (off : Nat) : loadA Try.prog H 155 (.c (.iptr cells off)) = (takeCells cells off 4).map fun l => .agg (l.map .c) := by kernel_rfl
theorem lde155 (H : Heap) (id off ext : Nat) : loadA Try.prog H 155 (.eptr id off ext) = (rowOf H id ext).bind fun r => (takeCells r.2 off 4).map fun l => .agg (l.map .c) := by kernel_rfl
theorem dr64_4 : drawFact Try.f64 4 [0, 1, 3, 7, 0, 31, 63, 127, 127, 255, 1023] = true := by kernel_rfl
theorem fa97_2 (x : AV) : fieldAddrA Try.prog 97 x 2 = addrPlus x 2 := by kernel_rfl
theorem fa97_3 (x : AV) : fieldAddrA Try.prog 97 x 3 = addrPlus x 3 := by kernel_rfl
theorem dr64_6 : drawFact Try.f64 6 [0, 1, 3, 7, 0, 0, 32, 96, 224, 0, 0, 1024, 3072, 7168, 0, 511, 33279, 114175, 245759, 507903, 1048575] = true := by kernel_rfl
theorem dr64_8 : drawFact Try.f64 8 [0, 1, 3, 7, 0, 31, 0, 64, 192, 448, 0, 1984, 63, 8191] = true := by kernel_rfl
theorem ev73 (k : Nat) (x0 x1 : AV) (H : Heap) : evalT Try.prog (mkHints tab) (k + 1) (.fn 73) [x0, x1] H = trimO H.length (finishO Try.prog Try.f73.results.toList (evalCode Try.prog (cxG Try.prog (mkHints tab) k 73 none) (Try.f73.body.getD .skip) (fillArgs (fr 57 []) 0 [x0, x1]) H)) := by
  have h := evalT_fn 57 Try.func73 rfl (by decide) rfl (P := Try.prog) (h := mkHints tab) (k := k) (args := [x0, x1]) (H := H)
  rw [show (mkHints tab).slots 73 = 0 from rfl, show (List.replicate 0 AObj.slot) = [] from rfl, List.append_nil] at h
  exact h
theorem fsl73_0_1 : fslotB tab.fslots 73 0 1 = [] := by rfl
theorem kb73_0_1 : keepB tab.keeps 73 0 1 = false := by rfl
theorem fsl73_2_1 : fslotB tab.fslots 73 2 1 = [] := by rfl
theorem kb73_2_1 : keepB tab.keeps 73 2 1 = false := by rfl
theorem fsl73_6_3 : fslotB tab.fslots 73 6 3 = [] := by rfl
theorem kb73_6_3 : keepB tab.keeps 73 6 3 = false := by rfl
theorem fsl73_8_11 : fslotB tab.fslots 73 8 11 = [] := by rfl
theorem kb73_8_11 : keepB tab.keeps 73 8 11 = false := by rfl
theorem dr73_7 : drawFact Try.f73 7 [0, 1, 3, 7, 0, 16, 0, 127, 255] = true := by kernel_rfl
theorem ev65 (k : Nat) (x0 x1 : AV) (H : Heap) : evalT Try.prog (mkHints tab) (k + 1) (.fn 65) [x0, x1] H = trimO H.length (finishO Try.prog Try.f65.results.toList (evalCode Try.prog (cxG Try.prog (mkHints tab) k 65 none) (Try.f65.body.getD .skip) (fillArgs (fr 34 []) 0 [x0, x1]) H)) := by
  have h := evalT_fn 34 Try.func65 rfl (by decide) rfl (P := Try.prog) (h := mkHints tab) (k := k) (args := [x0, x1]) (H := H)
  rw [show (mkHints tab).slots 65 = 0 from rfl, show (List.replicate 0 AObj.slot) = [] from rfl, List.append_nil] at h
  exact h
theorem fsl65_1_1 : fslotB tab.fslots 65 1 1 = [] := by rfl
theorem kb65_1_1 : keepB tab.keeps 65 1 1 = false := by rfl
theorem fsl65_2_9 : fslotB tab.fslots 65 2 9 = [] := by rfl
theorem kb65_2_9 : keepB tab.keeps 65 2 9 = false := by rfl
theorem fsl65_4_9 : fslotB tab.fslots 65 4 9 = [] := by rfl
theorem kb65_4_9 : keepB tab.keeps 65 4 9 = false := by rfl
theorem dr65_2 : drawFact Try.f65 2 [0, 0, 2, 6, 14, 0, 32, 126, 254, 511, 1023, 2047] = true := by kernel_rfl
theorem dr65_4 : drawFact Try.f65 4 [0, 0, 2, 6, 14, 0, 32, 126, 254, 511, 1023, 2047] = true := by kernel_rfl
theorem ev66 (k : Nat) (x0 x1 : AV) (H : Heap) : evalT Try.prog (mkHints tab) (k + 1) (.fn 66) [x0, x1] H = trimO H.length (finishO Try.prog Try.f66.results.toList (evalCode Try.prog (cxG Try.prog (mkHints tab) k 66 none) (Try.f66.body.getD .skip) (fillArgs (fr 22 []) 0 [x0, x1]) H)) := by
  have h := evalT_fn 22 Try.func66 rfl (by decide) rfl (P := Try.prog) (h := mkHints tab) (k := k) (args := [x0, x1]) (H := H)
  rw [show (mkHints tab).slots 66 = 0 from rfl, show (List.replicate 0 AObj.slot) = [] from rfl, List.append_nil] at h
  exact h
theorem ev101 (k : Nat) (x0 x1 : AV) (H : Heap) : evalT Try.prog (mkHints tab) (k + 1) (.fn 101) [x0, x1] H = trimO H.length (finishO Try.prog Try.f101.results.toList (evalCode Try.prog (cxG Try.prog (mkHints tab) k 101 none) (Try.f101.body.getD .skip) (fillArgs (fr 49 []) 0 [x0, x1]) H)) := by
  have h := evalT_fn 49 Try.func101 rfl (by decide) rfl (P := Try.prog) (h := mkHints tab) (k := k) (args := [x0, x1]) (H := H)
  rw [show (mkHints tab).slots 101 = 0 from rfl, show (List.replicate 0 AObj.slot) = [] from rfl, List.append_nil] at h
  exact h
theorem fsl101_2_1 : fslotB tab.fslots 101 2 1 = [] := by rfl
theorem kb101_2_1 : keepB tab.keeps 101 2 1 = false := by rfl
theorem bd155_0_1_2_3 (a0 a1 a2 a3 : IV) : buildA Try.prog 155 [(0, .c a0), (1, .c a1), (2, .c a2), (3, .c a3)] = some (.agg [.c a0, .c a1, .c a2, .c a3]) := by kernel_rfl
theorem dr101_1 : drawFact Try.f101 1 [0, 1, 0, 4, 12, 28, 0, 64, 252, 508, 0, 1024, 4095, 0, 16383] = true := by kernel_rfl
theorem fa155_2 (x : AV) : fieldAddrA Try.prog 155 x 2 = addrPlus x 2 := by kernel_rfl
theorem dr101_3 : drawFact Try.f101 3 [0, 1, 3, 7, 0, 16, 63, 127, 255, 511] = true := by kernel_rfl
theorem fa155_1 (x : AV) : fieldAddrA Try.prog 155 x 1 = addrPlus x 1 := by kernel_rfl
theorem ev3 (k : Nat) (x0 : AV) (H : Heap) : evalT Try.prog (mkHints tab) (k + 1) (.fn 3) [x0] H = trimO H.length (finishO Try.prog Try.f3.results.toList (evalCode Try.prog (cxG Try.prog (mkHints tab) k 3 none) (Try.f3.body.getD .skip) (fillArgs (fr 99 []) 0 [x0]) H)) := by
  have h := evalT_fn 99 Try.func3 rfl (by decide) rfl (P := Try.prog) (h := mkHints tab) (k := k) (args := [x0]) (H := H)
  rw [show (mkHints tab).slots 3 = 0 from rfl, show (List.replicate 0 AObj.slot) = [] from rfl, List.append_nil] at h
  exact h
theorem fsl3_1_0 : fslotB tab.fslots 3 1 0 = [] := by rfl
theorem kb3_1_0 : keepB tab.keeps 3 1 0 = false := by rfl
theorem fsl3_3_1 : fslotB tab.fslots 3 3 1 = [] := by rfl
theorem kb3_3_1 : keepB tab.keeps 3 3 1 = false := by rfl
theorem fsl3_5_1 : fslotB tab.fslots 3 5 1 = [] := by rfl
theorem kb3_5_1 : keepB tab.keeps 3 5 1 = false := by rfl
theorem fsl3_6_1 : fslotB tab.fslots 3 6 1 = [] := by rfl
theorem kb3_6_1 : keepB tab.keeps 3 6 1 = true := by rfl
theorem fsl3_7_1 : fslotB tab.fslots 3 7 1 = [] := by rfl
theorem kb3_7_1 : keepB tab.keeps 3 7 1 = false := by rfl
theorem fsl3_9_1 : fslotB tab.fslots 3 9 1 = [] := by rfl
theorem kb3_9_1 : keepB tab.keeps 3 9 1 = false := by rfl
theorem fsl3_9_7 : fslotB tab.fslots 3 9 7 = [] := by rfl
theorem kb3_9_7 : keepB tab.keeps 3 9 7 = false := by rfl
theorem fsl3_10_1 : fslotB tab.fslots 3 10 1 = [] := by rfl
theorem kb3_10_1 : keepB tab.keeps 3 10 1 = false := by rfl
theorem fsl3_11_5 : fslotB tab.fslots 3 11 5 = [] := by rfl
theorem kb3_11_5 : keepB tab.keeps 3 11 5 = false := by rfl
theorem fsl3_11_9 : fslotB tab.fslots 3 11 9 = [] := by rfl
theorem kb3_11_9 : keepB tab.keeps 3 11 9 = false := by rfl
theorem fsl3_13_1 : fslotB tab.fslots 3 13 1 = [] := by rfl
theorem kb3_13_1 : keepB tab.keeps 3 13 1 = true := by rfl
theorem fsl3_14_5 : fslotB tab.fslots 3 14 5 = [] := by rfl
theorem kb3_14_5 : keepB tab.keeps 3 14 5 = false := by rfl
theorem fsl3_25_2 : fslotB tab.fslots 3 25 2 = [] := by rfl
theorem kb3_25_2 : keepB tab.keeps 3 25 2 = false := by rfl
theorem cap22 (H : Heap) (id off n ext sz : Nat) : capA Try.prog H 22 (.hsl id off n ext sz) = if (rowOf H id ext).isSome = true then some (.cw true id off ext sz) else none := by kernel_rfl
theorem capc22 (H : Heap) (cells : List IV) (n k : Nat) (nl : Bool) : capA Try.prog H 22 (.c (.slice cells n nl (some k))) = some (.c (.int .i64 k)) := by kernel_rfl
theorem sl22 (H : Heap) (x : AV) (lo hi : Option AV) : sliceA Try.prog H 22 x lo hi none = sliceO H 5 x lo hi := by kernel_rfl
theorem cap23 (H : Heap) (id off n ext sz : Nat) : capA Try.prog H 23 (.hsl id off n ext sz) = if (rowOf H id ext).isSome = true then some (.cw true id off ext sz) else none := by kernel_rfl
theorem capc23 (H : Heap) (cells : List IV) (n k : Nat) (nl : Bool) : capA Try.prog H 23 (.c (.slice cells n nl (some k))) = some (.c (.int .i64 k)) := by kernel_rfl
theorem sl23 (H : Heap) (x : AV) (lo hi : Option AV) : sliceA Try.prog H 23 x lo hi none = sliceO H 1 x lo hi := by kernel_rfl
theorem dr3_16 : drawFact Try.f3 16 [0, 1, 0, 4, 12, 31, 0, 64, 0, 256, 768, 1984, 63, 8191] = true := by kernel_rfl
theorem bd34_0 (a0 : IV) : buildA Try.prog 34 [(0, .c a0)] = some (.agg [.c a0, .c (.int .i64 0), .c (.int .i64 0), .c (.int .i64 0), .c (.int .i64 0)]) := by kernel_rfl
theorem ev18 (k : Nat) (x0 : AV) (H : Heap) : evalT Try.prog (mkHints tab) (k + 1) (.fn 18) [x0] H = trimO H.length (finishO Try.prog Try.f18.results.toList (evalCode Try.prog (cxG Try.prog (mkHints tab) k 18 none) (Try.f18.body.getD .skip) (fillArgs (fr 23 []) 0 [x0]) H)) := by
  have h := evalT_fn 23 Try.func18 rfl (by decide) rfl (P := Try.prog) (h := mkHints tab) (k := k) (args := [x0]) (H := H)
  rw [show (mkHints tab).slots 18 = 0 from rfl, show (List.replicate 0 AObj.slot) = [] from rfl, List.append_nil] at h
  exact h
theorem ev19 (k : Nat) (x0 : AV) (H : Heap) : evalT Try.prog (mkHints tab) (k + 1) (.fn 19) [x0] H = trimO H.length (finishO Try.prog Try.f19.results.toList (evalCode Try.prog (cxG Try.prog (mkHints tab) k 19 none) (Try.f19.body.getD .skip) (fillArgs (fr 139 []) 0 [x0]) (H ++ [.slot, .slot, .slot]))) := evalT_fn 139 Try.func19 rfl (by decide) rfl
theorem fsl19_1_1 : fslotB tab.fslots 19 1 1 = [] := by rfl
theorem kb19_1_1 : keepB tab.keeps 19 1 1 = false := by rfl
theorem fsl19_7_3 : fslotB tab.fslots 19 7 3 = [2] := by rfl
theorem kb19_7_3 : keepB tab.keeps 19 7 3 = false := by rfl
theorem fsl19_8_9 : fslotB tab.fslots 19 8 9 = [] := by rfl
theorem kb19_8_9 : keepB tab.keeps 19 8 9 = false := by rfl
theorem fsl19_11_9 : fslotB tab.fslots 19 11 9 = [] := by rfl
theorem kb19_11_9 : keepB tab.keeps 19 11 9 = false := by rfl
theorem fsl19_12_2 : fslotB tab.fslots 19 12 2 = [] := by rfl
theorem kb19_12_2 : keepB tab.keeps 19 12 2 = false := by rfl
theorem sb19_15_7 : slotB tab.slots 19 15 7 = some 0 := by rfl
theorem sb19_16_12 : slotB tab.slots 19 16 12 = some 0 := by rfl
theorem fsl19_21_14 : fslotB tab.fslots 19 21 14 = [] := by rfl
theorem kb19_21_14 : keepB tab.keeps 19 21 14 = false := by rfl
theorem sb19_21_16 : slotB tab.slots 19 21 16 = some 1 := by rfl
theorem dr19_8 : drawFact Try.f19 8 [0, 0, 2, 6, 14, 0, 32, 126, 254, 511, 1023] = true := by kernel_rfl
theorem dr19_11 : drawFact Try.f19 11 [0, 0, 2, 6, 14, 0, 32, 126, 254, 511, 1023] = true := by kernel_rfl
theorem dr19_13 : drawFact Try.f19 13 [0, 1, 3, 7, 0, 16, 63, 127, 0, 511] = true := by kernel_rfl
theorem bd34_0_1_2_3_4 (a0 a1 a2 a3 a4 : IV) : buildA Try.prog 34 [(0, .c a0), (1, .c a1), (2, .c a2), (3, .c a3), (4, .c a4)] = some (.agg [.c a0, .c a1, .c a2, .c a3, .c a4]) := by kernel_rfl
theorem dr19_17 : drawFact Try.f19 17 [0, 1, 3, 7, 0, 16, 0, 127, 255] = true := by kernel_rfl
theorem dr19_21 : drawFact Try.f19 21 [0, 1, 0, 0, 8, 24, 56, 0, 128, 0, 896, 1920, 4088, 8184, 16380, 32764, 65535, 131071, 262143] = true := by kernel_rfl
theorem ev68 (k : Nat) (x0 x1 : AV) (H : Heap) : evalT Try.prog (mkHints tab) (k + 1) (.fn 68) [x0, x1] H = trimO H.length (finishO Try.prog Try.f68.results.toList (evalCode Try.prog (cxG Try.prog (mkHints tab) k 68 none) (Try.f68.body.getD .skip) (fillArgs (fr 25 []) 0 [x0, x1]) H)) := by
  have h := evalT_fn 25 Try.func68 rfl (by decide) rfl (P := Try.prog) (h := mkHints tab) (k := k) (args := [x0, x1]) (H := H)
  rw [show (mkHints tab).slots 68 = 0 from rfl, show (List.replicate 0 AObj.slot) = [] from rfl, List.append_nil] at h
  exact h
theorem ev54 (k : Nat) (x0 : AV) (H : Heap) : evalT Try.prog (mkHints tab) (k + 1) (.fn 54) [x0] H = trimO H.length (finishO Try.prog Try.f54.results.toList (evalCode Try.prog (cxG Try.prog (mkHints tab) k 54 none) (Try.f54.body.getD .skip) (fillArgs (fr 37 []) 0 [x0]) H)) := by
  have h := evalT_fn 37 Try.func54 rfl (by decide) rfl (P := Try.prog) (h := mkHints tab) (k := k) (args := [x0]) (H := H)
  rw [show (mkHints tab).slots 54 = 0 from rfl, show (List.replicate 0 AObj.slot) = [] from rfl, List.append_nil] at h
  exact h
theorem dr54_1 : drawFact Try.f54 1 [0, 1, 0, 4, 12, 31, 0, 64, 0, 256, 768, 1984, 63, 8191] = true := by kernel_rfl
theorem sp3_18 : spoilFact Try.prog LB3_18 12 10 0 [12, 77, 78, 79, 80, 83, 84, 86, 81, 82, 85] 99 5 34 = true := by kernel_rfl
theorem lbe3_18 (cx : Cx) (F : Fr) (H : Heap) : evalCode Try.prog cx LB3_18 F H = evalCode Try.prog cx (loopOf Try.f3 18) F H := rfl
theorem sp3_22 : spoilFact Try.prog LB3_22 13 11 2 [13, 87, 88, 89, 90, 93, 94, 95, 91, 92] 99 1 3 = true := by kernel_rfl
theorem lbe3_22 (cx : Cx) (F : Fr) (H : Heap) : evalCode Try.prog cx LB3_22 F H = evalCode Try.prog cx (loopOf Try.f3 22) F H := rfl
theorem lbe5_19 (cx : Cx) (F : Fr) (H : Heap) : evalCode Try.prog cx LB5_19 F H = evalCode Try.prog cx (loopOf Try.f5 19) F H := rfl
theorem lbe5_28 (cx : Cx) (F : Fr) (H : Heap) : evalCode Try.prog cx LB5_28 F H = evalCode Try.prog cx (loopOf Try.f5 28) F H := rfl
theorem lbe7_19 (cx : Cx) (F : Fr) (H : Heap) : evalCode Try.prog cx LB7_19 F H = evalCode Try.prog cx (loopOf Try.f7 19) F H := rfl
theorem lbe7_27 (cx : Cx) (F : Fr) (H : Heap) : evalCode Try.prog cx LB7_27 F H = evalCode Try.prog cx (loopOf Try.f7 27) F H := rfl
theorem lbe16_7 (cx : Cx) (F : Fr) (H : Heap) : evalCode Try.prog cx LB16_7 F H = evalCode Try.prog cx (loopOf Try.f16 7) F H := rfl
theorem lbe16_19 (cx : Cx) (F : Fr) (H : Heap) : evalCode Try.prog cx LB16_19 F H = evalCode Try.prog cx (loopOf Try.f16 19) F H := rfl
theorem lbe19_4 (cx : Cx) (F : Fr) (H : Heap) : evalCode Try.prog cx LB19_4 F H = evalCode Try.prog cx (loopOf Try.f19 4) F H := rfl
theorem lbe19_19 (cx : Cx) (F : Fr) (H : Heap) : evalCode Try.prog cx LB19_19 F H = evalCode Try.prog cx (loopOf Try.f19 19) F H := rfl
theorem lbe20_4 (cx : Cx) (F : Fr) (H : Heap) : evalCode Try.prog cx LB20_4 F H = evalCode Try.prog cx (loopOf Try.f20 4) F H := rfl
theorem lbe20_9 (cx : Cx) (F : Fr) (H : Heap) : evalCode Try.prog cx LB20_9 F H = evalCode Try.prog cx (loopOf Try.f20 9) F H := rfl
theorem lbe25_7 (cx : Cx) (F : Fr) (H : Heap) : evalCode Try.prog cx LB25_7 F H = evalCode Try.prog cx (loopOf Try.f25 7) F H := rfl
theorem lbe27_3 (cx : Cx) (F : Fr) (H : Heap) : evalCode Try.prog cx LB27_3 F H = evalCode Try.prog cx (loopOf Try.f27 3) F H := rfl
theorem lbe28_9 (cx : Cx) (F : Fr) (H : Heap) : evalCode Try.prog cx LB28_9 F H = evalCode Try.prog cx (loopOf Try.f28 9) F H := rfl
theorem lbe30_6 (cx : Cx) (F : Fr) (H : Heap) : evalCode Try.prog cx LB30_6 F H = evalCode Try.prog cx (loopOf Try.f30 6) F H := rfl
theorem lbe31_6 (cx : Cx) (F : Fr) (H : Heap) : evalCode Try.prog cx LB31_6 F H = evalCode Try.prog cx (loopOf Try.f31 6) F H := rfl
theorem lbe31_14 (cx : Cx) (F : Fr) (H : Heap) : evalCode Try.prog cx LB31_14 F H = evalCode Try.prog cx (loopOf Try.f31 14) F H := rfl
theorem lbe32_4 (cx : Cx) (F : Fr) (H : Heap) : evalCode Try.prog cx LB32_4 F H = evalCode Try.prog cx (loopOf Try.f32 4) F H := rfl
theorem lbe36_4 (cx : Cx) (F : Fr) (H : Heap) : evalCode Try.prog cx LB36_4 F H = evalCode Try.prog cx (loopOf Try.f36 4) F H := rfl
theorem lbe37_5 (cx : Cx) (F : Fr) (H : Heap) : evalCode Try.prog cx LB37_5 F H = evalCode Try.prog cx (loopOf Try.f37 5) F H := rfl
theorem lbe38_4 (cx : Cx) (F : Fr) (H : Heap) : evalCode Try.prog cx LB38_4 F H = evalCode Try.prog cx (loopOf Try.f38 4) F H := rfl
theorem lbe38_8 (cx : Cx) (F : Fr) (H : Heap) : evalCode Try.prog cx LB38_8 F H = evalCode Try.prog cx (loopOf Try.f38 8) F H := rfl
theorem lbe38_12 (cx : Cx) (F : Fr) (H : Heap) : evalCode Try.prog cx LB38_12 F H = evalCode Try.prog cx (loopOf Try.f38 12) F H := rfl
theorem lbe38_17 (cx : Cx) (F : Fr) (H : Heap) : evalCode Try.prog cx LB38_17 F H = evalCode Try.prog cx (loopOf Try.f38 17) F H := rfl
theorem lbe39_4 (cx : Cx) (F : Fr) (H : Heap) : evalCode Try.prog cx LB39_4 F H = evalCode Try.prog cx (loopOf Try.f39 4) F H := rfl
theorem lbe46_6 (cx : Cx) (F : Fr) (H : Heap) : evalCode Try.prog cx LB46_6 F H = evalCode Try.prog cx (loopOf Try.f46 6) F H := rfl
theorem lbe46_16 (cx : Cx) (F : Fr) (H : Heap) : evalCode Try.prog cx LB46_16 F H = evalCode Try.prog cx (loopOf Try.f46 16) F H := rfl
theorem lbe53_3 (cx : Cx) (F : Fr) (H : Heap) : evalCode Try.prog cx LB53_3 F H = evalCode Try.prog cx (loopOf Try.f53 3) F H := rfl
theorem lbe53_8 (cx : Cx) (F : Fr) (H : Heap) : evalCode Try.prog cx LB53_8 F H = evalCode Try.prog cx (loopOf Try.f53 8) F H := rfl
theorem lbe53_12 (cx : Cx) (F : Fr) (H : Heap) : evalCode Try.prog cx LB53_12 F H = evalCode Try.prog cx (loopOf Try.f53 12) F H := rfl
theorem lbe53_18 (cx : Cx) (F : Fr) (H : Heap) : evalCode Try.prog cx LB53_18 F H = evalCode Try.prog cx (loopOf Try.f53 18) F H := rfl
theorem sp54_3 : spoilFact Try.prog LB54_3 4 2 0 [4, 18, 19, 20, 21, 24, 25, 27, 22, 23, 26] 37 5 34 = true := by kernel_rfl
theorem lbe54_3 (cx : Cx) (F : Fr) (H : Heap) : evalCode Try.prog cx LB54_3 F H = evalCode Try.prog cx (loopOf Try.f54 3) F H := rfl
theorem sp54_7 : spoilFact Try.prog LB54_7 5 3 2 [5, 28, 29, 30, 31, 34, 35, 36, 32, 33] 37 1 3 = true := by kernel_rfl
theorem lbe54_7 (cx : Cx) (F : Fr) (H : Heap) : evalCode Try.prog cx LB54_7 F H = evalCode Try.prog cx (loopOf Try.f54 7) F H := rfl
theorem lbe62_4 (cx : Cx) (F : Fr) (H : Heap) : evalCode Try.prog cx LB62_4 F H = evalCode Try.prog cx (loopOf Try.f62 4) F H := rfl
theorem lbe62_10 (cx : Cx) (F : Fr) (H : Heap) : evalCode Try.prog cx LB62_10 F H = evalCode Try.prog cx (loopOf Try.f62 10) F H := rfl
theorem lbe63_3 (cx : Cx) (F : Fr) (H : Heap) : evalCode Try.prog cx LB63_3 F H = evalCode Try.prog cx (loopOf Try.f63 3) F H := rfl
theorem lbe66_2 (cx : Cx) (F : Fr) (H : Heap) : evalCode Try.prog cx LB66_2 F H = evalCode Try.prog cx (loopOf Try.f66 2) F H := rfl
theorem lbe67_4 (cx : Cx) (F : Fr) (H : Heap) : evalCode Try.prog cx LB67_4 F H = evalCode Try.prog cx (loopOf Try.f67 4) F H := rfl
theorem lbe67_9 (cx : Cx) (F : Fr) (H : Heap) : evalCode Try.prog cx LB67_9 F H = evalCode Try.prog cx (loopOf Try.f67 9) F H := rfl
theorem lbe68_2 (cx : Cx) (F : Fr) (H : Heap) : evalCode Try.prog cx LB68_2 F H = evalCode Try.prog cx (loopOf Try.f68 2) F H := rfl
theorem lbe73_4 (cx : Cx) (F : Fr) (H : Heap) : evalCode Try.prog cx LB73_4 F H = evalCode Try.prog cx (loopOf Try.f73 4) F H := rfl
theorem lbe75_3 (cx : Cx) (F : Fr) (H : Heap) : evalCode Try.prog cx LB75_3 F H = evalCode Try.prog cx (loopOf Try.f75 3) F H := rfl
theorem lbe75_15 (cx : Cx) (F : Fr) (H : Heap) : evalCode Try.prog cx LB75_15 F H = evalCode Try.prog cx (loopOf Try.f75 15) F H := rfl
theorem lbe80_3 (cx : Cx) (F : Fr) (H : Heap) : evalCode Try.prog cx LB80_3 F H = evalCode Try.prog cx (loopOf Try.f80 3) F H := rfl
theorem lbe86_2 (cx : Cx) (F : Fr) (H : Heap) : evalCode Try.prog cx LB86_2 F H = evalCode Try.prog cx (loopOf Try.f86 2) F H := rfl
theorem lbe87_4 (cx : Cx) (F : Fr) (H : Heap) : evalCode Try.prog cx LB87_4 F H = evalCode Try.prog cx (loopOf Try.f87 4) F H := rfl
theorem lbe100_4 (cx : Cx) (F : Fr) (H : Heap) : evalCode Try.prog cx LB100_4 F H = evalCode Try.prog cx (loopOf Try.f100 4) F H := rfl
theorem lbe128_1 (cx : Cx) (F : Fr) (H : Heap) : evalCode Try.prog cx LB128_1 F H = evalCode Try.prog cx (loopOf Try.f128 1) F H := rfl
theorem FACTS : type_of% (And.intro (And.intro (And.intro (And.intro (And.intro (And.intro (And.intro (And.intro (And.intro @fb7 @fb9) (And.intro @fb15 @fb17)) (And.intro (And.intro @fb20 @fb29) (And.intro @fb30 @fb31))) (And.intro (And.intro (And.intro @fb32 @fb33) (And.intro @fb34 @fb35)) (And.intro (And.intro @fb36 @fb37) (And.intro @fb38 @fb39)))) (And.intro (And.intro (And.intro (And.intro @fb46 @fb47) (And.intro @fb48 @fb67)) (And.intro (And.intro @fb74 @fb62) (And.intro @fb75 @fb76))) (And.intro (And.intro (And.intro @fb77 @fb78) (And.intro @fb79 @fb80)) (And.intro (And.intro @fb53 @fb81) (And.intro @fb85 (And.intro @fb86 @fb87)))))) (And.intro (And.intro (And.intro (And.intro (And.intro @fb102 @fb100) (And.intro @fb110 @fb123)) (And.intro (And.intro @fb124 @fb111) (And.intro @fb128 @fb5))) (And.intro (And.intro (And.intro @fb13 @fb14) (And.intro @fb25 @fb26)) (And.intro (And.intro @fb27 @fb28) (And.intro @fb16 @fb63)))) (And.intro (And.intro (And.intro (And.intro @fb64 @fb73) (And.intro @fb65 @fb66)) (And.intro (And.intro @fb101 @fb3) (And.intro @fb18 @fb19))) (And.intro (And.intro (And.intro @fb68 @fb54) (And.intro @fsl7_1_0 @kb7_1_0)) (And.intro (And.intro @fsl7_3_1 @kb7_3_1) (And.intro @fsl7_5_1 (And.intro @kb7_5_1 @fsl7_6_1))))))) (And.intro (And.intro (And.intro (And.intro (And.intro (And.intro @kb7_6_1 @fsl7_7_1) (And.intro @kb7_7_1 @fsl7_9_1)) (And.intro (And.intro @kb7_9_1 @fsl7_12_1) (And.intro @kb7_12_1 @fsl7_13_2))) (And.intro (And.intro (And.intro @kb7_13_2 @fsl7_15_1) (And.intro @kb7_15_1 @fsl7_16_19)) (And.intro (And.intro @kb7_16_19 @fsl7_18_1) (And.intro @kb7_18_1 @sb7_22_3)))) (And.intro (And.intro (And.intro (And.intro @fsl7_24_9 @kb7_24_9) (And.intro @fsl7_24_10 @kb7_24_10)) (And.intro (And.intro @fsl7_24_16 @kb7_24_16) (And.intro @fsl7_24_17 @kb7_24_17))) (And.intro (And.intro (And.intro @fsl7_24_23 @kb7_24_23) (And.intro @fsl7_32_2 @kb7_32_2)) (And.intro (And.intro @rae7_10 @rbe7_10) (And.intro @ldp25 (And.intro @ldi25 @lde25)))))) (And.intro (And.intro (And.intro (And.intro (And.intro @al25 @al3) (And.intro @ldp3 @ldi3)) (And.intro (And.intro @lde3 @ln64) (And.intro @lnv64 @lnh64))) (And.intro (And.intro (And.intro @ln23 @lnv23) (And.intro @lnh23 @bd25_)) (And.intro (And.intro @ia64 @iah64) (And.intro @ldp4 @ldi4)))) (And.intro (And.intro (And.intro (And.intro @lde4 @bs23_1_0) (And.intro @ap23 @fa25_2)) (And.intro (And.intro @ldp22 @ldi22) (And.intro @lde22 @ln22))) (And.intro (And.intro (And.intro @lnv22 @lnh22) (And.intro @ia22 @iah22)) (And.intro (And.intro @fa34_1 @fa25_3) (And.intro @ldp23 (And.intro @ldi23 @lde23)))))))) (And.intro (And.intro (And.intro (And.intro (And.intro (And.intro (And.intro @fsl9_1_0 @kb9_1_0) (And.intro @fsl9_3_1 @kb9_3_1)) (And.intro (And.intro @fsl9_5_1 @kb9_5_1) (And.intro @fsl9_8_1 @kb9_8_1))) (And.intro (And.intro (And.intro @fsl9_9_1 @kb9_9_1) (And.intro @fsl9_10_1 @kb9_10_1)) (And.intro (And.intro @fsl9_11_1 @kb9_11_1) (And.intro @fsl9_12_16 @kb9_12_16)))) (And.intro (And.intro (And.intro (And.intro @fsl9_12_22 @kb9_12_22) (And.intro @fsl9_12_29 @kb9_12_29)) (And.intro (And.intro @fsl9_12_40 @kb9_12_40) (And.intro @fsl9_12_44 @kb9_12_44))) (And.intro (And.intro (And.intro @sb15_2_4 @sb15_3_4) (And.intro @fa25_0 @fa25_1)) (And.intro (And.intro @bd25_0_1 @ap22) (And.intro @fsl17_1_1 (And.intro @kb17_1_1 @ldp34)))))) (And.intro (And.intro (And.intro (And.intro (And.intro @ldi34 @lde34) (And.intro @ne34 @ia23)) (And.intro (And.intro @iah23 @fsl29_1_0) (And.intro @kb29_1_0 @fsl29_1_1))) (And.intro (And.intro (And.intro @kb29_1_1 @fsl29_2_0) (And.intro @kb29_2_0 @fsl29_2_1)) (And.intro (And.intro @kb29_2_1 @fsl29_3_12) (And.intro @kb29_3_12 @fsl29_3_17)))) (And.intro (And.intro (And.intro (And.intro @kb29_3_17 @fsl29_3_20) (And.intro @kb29_3_20 @fsl29_3_21)) (And.intro (And.intro @kb29_3_21 @fsl29_3_23) (And.intro @kb29_3_23 @bd34_0_1_2_3))) (And.intro (And.intro (And.intro @bs22_1_0 @bs23_2_0_1) (And.intro @bd25_0_1_2_3_h1 @bd25_0_1_2_3_h2)) (And.intro (And.intro @bd25_0_1_2_3_h3 @bd25_0_1_2_3) (And.intro @bs64_4_0_1_2_3 (And.intro @bs23_3_0_1_2 @fsl30_1_1))))))) (And.intro (And.intro (And.intro (And.intro (And.intro (And.intro @kb30_1_1 @fsl30_5_1) (And.intro @kb30_5_1 @fsl30_8_7)) (And.intro (And.intro @kb30_8_7 @sb30_9_7) (And.intro @fsl30_11_7 @kb30_11_7))) (And.intro (And.intro (And.intro @fsl31_1_1 @kb31_1_1) (And.intro @fsl31_10_1 @kb31_10_1)) (And.intro (And.intro @fsl31_13_1 @kb31_13_1) (And.intro @rae31_11 @rbe31_11)))) (And.intro (And.intro (And.intro (And.intro @ms64 @al64) (And.intro @ldp64 @ldi64)) (And.intro (And.intro @lde64 @al34) (And.intro @neb4 @fsl33_2_1))) (And.intro (And.intro (And.intro @kb33_2_1 @sb33_7_3) (And.intro @rae33_6 @rbe33_6)) (And.intro (And.intro @al23 @eqf70) (And.intro @fsl36_1_1 (And.intro @kb36_1_1 @sb36_7_19)))))) (And.intro (And.intro (And.intro (And.intro (And.intro @fa34_0 @fa34_2) (And.intro @bs64_1_0 @ap64)) (And.intro (And.intro @fsl37_1_1 @kb37_1_1) (And.intro @fsl37_3_1 @kb37_3_1))) (And.intro (And.intro (And.intro @sb37_8_8 @fsl38_1_1) (And.intro @kb38_1_1 @fsl38_10_5)) (And.intro (And.intro @kb38_10_5 @fsl46_1_1) (And.intro @kb46_1_1 @fsl46_10_1)))) (And.intro (And.intro (And.intro (And.intro @kb46_10_1 @fsl46_15_1) (And.intro @kb46_15_1 @rae46_11)) (And.intro (And.intro @rbe46_11 @fsl47_1_2) (And.intro @kb47_1_2 @fsl48_1_17))) (And.intro (And.intro (And.intro @kb48_1_17 @fsl48_1_24) (And.intro @kb48_1_24 @fsl67_11_7)) (And.intro (And.intro @kb67_11_7 @bd34_0_1_2_4) (And.intro @bd34_0_1_2 (And.intro @bs22_4_0_1_2_3 @fsl62_12_3))))))))) (And.intro (And.intro (And.intro (And.intro (And.intro (And.intro (And.intro (And.intro @kb62_12_3 @fsl75_8_1) (And.intro @kb75_8_1 @fsl75_14_1)) (And.intro (And.intro @kb75_14_1 @rae75_9) (And.intro @rbe75_9 @sb77_3_2))) (And.intro (And.intro (And.intro @eqs23 @bs23_0_) (And.intro @fa34_3 @fsl80_0_1)) (And.intro (And.intro @kb80_0_1 @fsl80_2_1) (And.intro @kb80_2_1 @fsl80_5_8)))) (And.intro (And.intro (And.intro (And.intro @kb80_5_8 @fsl80_5_13) (And.intro @kb80_5_13 @fsl53_10_5)) (And.intro (And.intro @kb53_10_5 @fsl85_1_1) (And.intro @kb85_1_1 @eqb4))) (And.intro (And.intro (And.intro @fa34_4 @fsl100_1_22) (And.intro @kb100_1_22 @fsl100_1_32)) (And.intro (And.intro @kb100_1_32 @fsl100_3_1) (And.intro @kb100_3_1 (And.intro @fsl110_1_1 @kb110_1_1)))))) (And.intro (And.intro (And.intro (And.intro (And.intro @fsl110_2_2 @kb110_2_2) (And.intro @fsl110_5_3 @kb110_5_3)) (And.intro (And.intro @rae110_3 @rbe110_3) (And.intro @ldp163 @ldi163))) (And.intro (And.intro (And.intro @lde163 @fsl128_3_6) (And.intro @kb128_3_6 @fsl5_1_0)) (And.intro (And.intro @kb5_1_0 @fsl5_3_1) (And.intro @kb5_3_1 @fsl5_5_1)))) (And.intro (And.intro (And.intro (And.intro @kb5_5_1 @fsl5_6_1) (And.intro @kb5_6_1 @fsl5_7_1)) (And.intro (And.intro @kb5_7_1 @fsl5_8_3) (And.intro @kb5_8_3 @fsl5_16_1))) (And.intro (And.intro (And.intro @kb5_16_1 @fsl5_21_7) (And.intro @kb5_21_7 @sb5_26_5)) (And.intro (And.intro @rae5_12 @rbe5_12) (And.intro @rae5_32 (And.intro @rbe5_32 @al4))))))) (And.intro (And.intro (And.intro (And.intro (And.intro (And.intro @eqf52 @al56) (And.intro @fa61_0 @ldp56)) (And.intro (And.intro @ldi56 @lde56) (And.intro @bd62_0_1 @bs56_1_0))) (And.intro (And.intro (And.intro @ap56 @ln56) (And.intro @lnv56 @lnh56)) (And.intro (And.intro @ia56 @iah56) (And.intro @iaa62 @fsl13_1_4)))) (And.intro (And.intro (And.intro (And.intro @kb13_1_4 @bd34_0_1) (And.intro @fsl25_1_1 @kb25_1_1)) (And.intro (And.intro @fsl25_4_1 @kb25_4_1) (And.intro @fsl25_9_3 @kb25_9_3))) (And.intro (And.intro (And.intro @sb25_11_3 @fa97_0) (And.intro @sb27_6_7 @sb27_7_8)) (And.intro (And.intro @bd61_2 @sb28_14_7) (And.intro @fa61_2 (And.intro @bd110_0_1_2_3_4_5 @al110)))))) (And.intro (And.intro (And.intro (And.intro (And.intro @fa110_2 @fa110_1) (And.intro @fa61_1 @ldp59)) (And.intro (And.intro @ldi59 @lde59) (And.intro @ln59 @lnv59))) (And.intro (And.intro (And.intro @lnh59 @ia59) (And.intro @iah59 @ldp110)) (And.intro (And.intro @ldi110 @lde110) (And.intro @fa110_0 @fa110_3)))) (And.intro (And.intro (And.intro (And.intro @fa110_5 @fa110_4) (And.intro @bs59_1_0 @ap59)) (And.intro (And.intro @fsl16_1_1 @kb16_1_1) (And.intro @fsl16_4_1 @kb16_4_1))) (And.intro (And.intro (And.intro @fsl16_9_3 @kb16_9_3) (And.intro @fsl16_10_2 @kb16_10_2)) (And.intro (And.intro @fsl16_12_2 @kb16_12_2) (And.intro @sb16_15_4 (And.intro @fsl16_21_10 @kb16_21_10)))))))) (And.intro (And.intro (And.intro (And.intro (And.intro (And.intro (And.intro @sb16_21_12 @sb63_5_10) (And.intro @bd97_1_2_3 @fsl64_3_2)) (And.intro (And.intro @kb64_3_2 @al155) (And.intro @fa97_1 @ldp95))) (And.intro (And.intro (And.intro @ldi95 @lde95) (And.intro @ldp155 @ldi155)) (And.intro (And.intro @lde155 @fa97_2) (And.intro @fa97_3 @fsl73_0_1)))) (And.intro (And.intro (And.intro (And.intro @kb73_0_1 @fsl73_2_1) (And.intro @kb73_2_1 @fsl73_6_3)) (And.intro (And.intro @kb73_6_3 @fsl73_8_11) (And.intro @kb73_8_11 @fsl65_1_1))) (And.intro (And.intro (And.intro @kb65_1_1 @fsl65_2_9) (And.intro @kb65_2_9 @fsl65_4_9)) (And.intro (And.intro @kb65_4_9 @fsl101_2_1) (And.intro @kb101_2_1 (And.intro @bd155_0_1_2_3 @fa155_2)))))) (And.intro (And.intro (And.intro (And.intro (And.intro @fa155_1 @fsl3_1_0) (And.intro @kb3_1_0 @fsl3_3_1)) (And.intro (And.intro @kb3_3_1 @fsl3_5_1) (And.intro @kb3_5_1 @fsl3_6_1))) (And.intro (And.intro (And.intro @kb3_6_1 @fsl3_7_1) (And.intro @kb3_7_1 @fsl3_9_1)) (And.intro (And.intro @kb3_9_1 @fsl3_9_7) (And.intro @kb3_9_7 @fsl3_10_1)))) (And.intro (And.intro (And.intro (And.intro @kb3_10_1 @fsl3_11_5) (And.intro @kb3_11_5 @fsl3_11_9)) (And.intro (And.intro @kb3_11_9 @fsl3_13_1) (And.intro @kb3_13_1 @fsl3_14_5))) (And.intro (And.intro (And.intro @kb3_14_5 @fsl3_25_2) (And.intro @kb3_25_2 @cap22)) (And.intro (And.intro @capc22 @sl22) (And.intro @cap23 (And.intro @capc23 @sl23))))))) (And.intro (And.intro (And.intro (And.intro (And.intro (And.intro @bd34_0 @fsl19_1_1) (And.intro @kb19_1_1 @fsl19_7_3)) (And.intro (And.intro @kb19_7_3 @fsl19_8_9) (And.intro @kb19_8_9 @fsl19_11_9))) (And.intro (And.intro (And.intro @kb19_11_9 @fsl19_12_2) (And.intro @kb19_12_2 @sb19_15_7)) (And.intro (And.intro @sb19_16_12 @fsl19_21_14) (And.intro @kb19_21_14 @sb19_21_16)))) (And.intro (And.intro (And.intro (And.intro @bd34_0_1_2_3_4 @lbe3_18) (And.intro @lbe3_22 @lbe5_19)) (And.intro (And.intro @lbe5_28 @lbe7_19) (And.intro @lbe7_27 @lbe16_7))) (And.intro (And.intro (And.intro @lbe16_19 @lbe19_4) (And.intro @lbe19_19 @lbe20_4)) (And.intro (And.intro @lbe20_9 @lbe25_7) (And.intro @lbe27_3 (And.intro @lbe28_9 @lbe30_6)))))) (And.intro (And.intro (And.intro (And.intro (And.intro @lbe31_6 @lbe31_14) (And.intro @lbe32_4 @lbe36_4)) (And.intro (And.intro @lbe37_5 @lbe38_4) (And.intro @lbe38_8 @lbe38_12))) (And.intro (And.intro (And.intro @lbe38_17 @lbe39_4) (And.intro @lbe46_6 @lbe46_16)) (And.intro (And.intro @lbe53_3 @lbe53_8) (And.intro @lbe53_12 @lbe53_18)))) (And.intro (And.intro (And.intro (And.intro @lbe54_3 @lbe54_7) (And.intro @lbe62_4 @lbe62_10)) (And.intro (And.intro @lbe63_3 @lbe66_2) (And.intro @lbe67_4 @lbe67_9))) (And.intro (And.intro (And.intro @lbe68_2 @lbe73_4) (And.intro @lbe75_3 @lbe75_15)) (And.intro (And.intro @lbe80_3 @lbe86_2) (And.intro @lbe87_4 (And.intro @lbe100_4 @lbe128_1)))))))))) :=
  (And.intro (And.intro (And.intro (And.intro (And.intro (And.intro (And.intro (And.intro (And.intro @fb7 @fb9) (And.intro @fb15 @fb17)) (And.intro (And.intro @fb20 @fb29) (And.intro @fb30 @fb31))) (And.intro (And.intro (And.intro @fb32 @fb33) (And.intro @fb34 @fb35)) (And.intro (And.intro @fb36 @fb37) (And.intro @fb38 @fb39)))) (And.intro (And.intro (And.intro (And.intro @fb46 @fb47) (And.intro @fb48 @fb67)) (And.intro (And.intro @fb74 @fb62) (And.intro @fb75 @fb76))) (And.intro (And.intro (And.intro @fb77 @fb78) (And.intro @fb79 @fb80)) (And.intro (And.intro @fb53 @fb81) (And.intro @fb85 (And.intro @fb86 @fb87)))))) (And.intro (And.intro (And.intro (And.intro (And.intro @fb102 @fb100) (And.intro @fb110 @fb123)) (And.intro (And.intro @fb124 @fb111) (And.intro @fb128 @fb5))) (And.intro (And.intro (And.intro @fb13 @fb14) (And.intro @fb25 @fb26)) (And.intro (And.intro @fb27 @fb28) (And.intro @fb16 @fb63)))) (And.intro (And.intro (And.intro (And.intro @fb64 @fb73) (And.intro @fb65 @fb66)) (And.intro (And.intro @fb101 @fb3) (And.intro @fb18 @fb19))) (And.intro (And.intro (And.intro @fb68 @fb54) (And.intro @fsl7_1_0 @kb7_1_0)) (And.intro (And.intro @fsl7_3_1 @kb7_3_1) (And.intro @fsl7_5_1 (And.intro @kb7_5_1 @fsl7_6_1))))))) (And.intro (And.intro (And.intro (And.intro (And.intro (And.intro @kb7_6_1 @fsl7_7_1) (And.intro @kb7_7_1 @fsl7_9_1)) (And.intro (And.intro @kb7_9_1 @fsl7_12_1) (And.intro @kb7_12_1 @fsl7_13_2))) (And.intro (And.intro (And.intro @kb7_13_2 @fsl7_15_1) (And.intro @kb7_15_1 @fsl7_16_19)) (And.intro (And.intro @kb7_16_19 @fsl7_18_1) (And.intro @kb7_18_1 @sb7_22_3)))) (And.intro (And.intro (And.intro (And.intro @fsl7_24_9 @kb7_24_9) (And.intro @fsl7_24_10 @kb7_24_10)) (And.intro (And.intro @fsl7_24_16 @kb7_24_16) (And.intro @fsl7_24_17 @kb7_24_17))) (And.intro (And.intro (And.intro @fsl7_24_23 @kb7_24_23) (And.intro @fsl7_32_2 @kb7_32_2)) (And.intro (And.intro @rae7_10 @rbe7_10) (And.intro @ldp25 (And.intro @ldi25 @lde25)))))) (And.intro (And.intro (And.intro (And.intro (And.intro @al25 @al3) (And.intro @ldp3 @ldi3)) (And.intro (And.intro @lde3 @ln64) (And.intro @lnv64 @lnh64))) (And.intro (And.intro (And.intro @ln23 @lnv23) (And.intro @lnh23 @bd25_)) (And.intro (And.intro @ia64 @iah64) (And.intro @ldp4 @ldi4)))) (And.intro (And.intro (And.intro (And.intro @lde4 @bs23_1_0) (And.intro @ap23 @fa25_2)) (And.intro (And.intro @ldp22 @ldi22) (And.intro @lde22 @ln22))) (And.intro (And.intro (And.intro @lnv22 @lnh22) (And.intro @ia22 @iah22)) (And.intro (And.intro @fa34_1 @fa25_3) (And.intro @ldp23 (And.intro @ldi23 @lde23)))))))) (And.intro (And.intro (And.intro (And.intro (And.intro (And.intro (And.intro @fsl9_1_0 @kb9_1_0) (And.intro @fsl9_3_1 @kb9_3_1)) (And.intro (And.intro @fsl9_5_1 @kb9_5_1) (And.intro @fsl9_8_1 @kb9_8_1))) (And.intro (And.intro (And.intro @fsl9_9_1 @kb9_9_1) (And.intro @fsl9_10_1 @kb9_10_1)) (And.intro (And.intro @fsl9_11_1 @kb9_11_1) (And.intro @fsl9_12_16 @kb9_12_16)))) (And.intro (And.intro (And.intro (And.intro @fsl9_12_22 @kb9_12_22) (And.intro @fsl9_12_29 @kb9_12_29)) (And.intro (And.intro @fsl9_12_40 @kb9_12_40) (And.intro @fsl9_12_44 @kb9_12_44))) (And.intro (And.intro (And.intro @sb15_2_4 @sb15_3_4) (And.intro @fa25_0 @fa25_1)) (And.intro (And.intro @bd25_0_1 @ap22) (And.intro @fsl17_1_1 (And.intro @kb17_1_1 @ldp34)))))) (And.intro (And.intro (And.intro (And.intro (And.intro @ldi34 @lde34) (And.intro @ne34 @ia23)) (And.intro (And.intro @iah23 @fsl29_1_0) (And.intro @kb29_1_0 @fsl29_1_1))) (And.intro (And.intro (And.intro @kb29_1_1 @fsl29_2_0) (And.intro @kb29_2_0 @fsl29_2_1)) (And.intro (And.intro @kb29_2_1 @fsl29_3_12) (And.intro @kb29_3_12 @fsl29_3_17)))) (And.intro (And.intro (And.intro (And.intro @kb29_3_17 @fsl29_3_20) (And.intro @kb29_3_20 @fsl29_3_21)) (And.intro (And.intro @kb29_3_21 @fsl29_3_23) (And.intro @kb29_3_23 @bd34_0_1_2_3))) (And.intro (And.intro (And.intro @bs22_1_0 @bs23_2_0_1) (And.intro @bd25_0_1_2_3_h1 @bd25_0_1_2_3_h2)) (And.intro (And.intro @bd25_0_1_2_3_h3 @bd25_0_1_2_3) (And.intro @bs64_4_0_1_2_3 (And.intro @bs23_3_0_1_2 @fsl30_1_1))))))) (And.intro (And.intro (And.intro (And.intro (And.intro (And.intro @kb30_1_1 @fsl30_5_1) (And.intro @kb30_5_1 @fsl30_8_7)) (And.intro (And.intro @kb30_8_7 @sb30_9_7) (And.intro @fsl30_11_7 @kb30_11_7))) (And.intro (And.intro (And.intro @fsl31_1_1 @kb31_1_1) (And.intro @fsl31_10_1 @kb31_10_1)) (And.intro (And.intro @fsl31_13_1 @kb31_13_1) (And.intro @rae31_11 @rbe31_11)))) (And.intro (And.intro (And.intro (And.intro @ms64 @al64) (And.intro @ldp64 @ldi64)) (And.intro (And.intro @lde64 @al34) (And.intro @neb4 @fsl33_2_1))) (And.intro (And.intro (And.intro @kb33_2_1 @sb33_7_3) (And.intro @rae33_6 @rbe33_6)) (And.intro (And.intro @al23 @eqf70) (And.intro @fsl36_1_1 (And.intro @kb36_1_1 @sb36_7_19)))))) (And.intro (And.intro (And.intro (And.intro (And.intro @fa34_0 @fa34_2) (And.intro @bs64_1_0 @ap64)) (And.intro (And.intro @fsl37_1_1 @kb37_1_1) (And.intro @fsl37_3_1 @kb37_3_1))) (And.intro (And.intro (And.intro @sb37_8_8 @fsl38_1_1) (And.intro @kb38_1_1 @fsl38_10_5)) (And.intro (And.intro @kb38_10_5 @fsl46_1_1) (And.intro @kb46_1_1 @fsl46_10_1)))) (And.intro (And.intro (And.intro (And.intro @kb46_10_1 @fsl46_15_1) (And.intro @kb46_15_1 @rae46_11)) (And.intro (And.intro @rbe46_11 @fsl47_1_2) (And.intro @kb47_1_2 @fsl48_1_17))) (And.intro (And.intro (And.intro @kb48_1_17 @fsl48_1_24) (And.intro @kb48_1_24 @fsl67_11_7)) (And.intro (And.intro @kb67_11_7 @bd34_0_1_2_4) (And.intro @bd34_0_1_2 (And.intro @bs22_4_0_1_2_3 @fsl62_12_3))))))))) (And.intro (And.intro (And.intro (And.intro (And.intro (And.intro (And.intro (And.intro @kb62_12_3 @fsl75_8_1) (And.intro @kb75_8_1 @fsl75_14_1)) (And.intro (And.intro @kb75_14_1 @rae75_9) (And.intro @rbe75_9 @sb77_3_2))) (And.intro (And.intro (And.intro @eqs23 @bs23_0_) (And.intro @fa34_3 @fsl80_0_1)) (And.intro (And.intro @kb80_0_1 @fsl80_2_1) (And.intro @kb80_2_1 @fsl80_5_8)))) (And.intro (And.intro (And.intro (And.intro @kb80_5_8 @fsl80_5_13) (And.intro @kb80_5_13 @fsl53_10_5)) (And.intro (And.intro @kb53_10_5 @fsl85_1_1) (And.intro @kb85_1_1 @eqb4))) (And.intro (And.intro (And.intro @fa34_4 @fsl100_1_22) (And.intro @kb100_1_22 @fsl100_1_32)) (And.intro (And.intro @kb100_1_32 @fsl100_3_1) (And.intro @kb100_3_1 (And.intro @fsl110_1_1 @kb110_1_1)))))) (And.intro (And.intro (And.intro (And.intro (And.intro @fsl110_2_2 @kb110_2_2) (And.intro @fsl110_5_3 @kb110_5_3)) (And.intro (And.intro @rae110_3 @rbe110_3) (And.intro @ldp163 @ldi163))) (And.intro (And.intro (And.intro @lde163 @fsl128_3_6) (And.intro @kb128_3_6 @fsl5_1_0)) (And.intro (And.intro @kb5_1_0 @fsl5_3_1) (And.intro @kb5_3_1 @fsl5_5_1)))) (And.intro (And.intro (And.intro (And.intro @kb5_5_1 @fsl5_6_1) (And.intro @kb5_6_1 @fsl5_7_1)) (And.intro (And.intro @kb5_7_1 @fsl5_8_3) (And.intro @kb5_8_3 @fsl5_16_1))) (And.intro (And.intro (And.intro @kb5_16_1 @fsl5_21_7) (And.intro @kb5_21_7 @sb5_26_5)) (And.intro (And.intro @rae5_12 @rbe5_12) (And.intro @rae5_32 (And.intro @rbe5_32 @al4))))))) (And.intro (And.intro (And.intro (And.intro (And.intro (And.intro @eqf52 @al56) (And.intro @fa61_0 @ldp56)) (And.intro (And.intro @ldi56 @lde56) (And.intro @bd62_0_1 @bs56_1_0))) (And.intro (And.intro (And.intro @ap56 @ln56) (And.intro @lnv56 @lnh56)) (And.intro (And.intro @ia56 @iah56) (And.intro @iaa62 @fsl13_1_4)))) (And.intro (And.intro (And.intro (And.intro @kb13_1_4 @bd34_0_1) (And.intro @fsl25_1_1 @kb25_1_1)) (And.intro (And.intro @fsl25_4_1 @kb25_4_1) (And.intro @fsl25_9_3 @kb25_9_3))) (And.intro (And.intro (And.intro @sb25_11_3 @fa97_0) (And.intro @sb27_6_7 @sb27_7_8)) (And.intro (And.intro @bd61_2 @sb28_14_7) (And.intro @fa61_2 (And.intro @bd110_0_1_2_3_4_5 @al110)))))) (And.intro (And.intro (And.intro (And.intro (And.intro @fa110_2 @fa110_1) (And.intro @fa61_1 @ldp59)) (And.intro (And.intro @ldi59 @lde59) (And.intro @ln59 @lnv59))) (And.intro (And.intro (And.intro @lnh59 @ia59) (And.intro @iah59 @ldp110)) (And.intro (And.intro @ldi110 @lde110) (And.intro @fa110_0 @fa110_3)))) (And.intro (And.intro (And.intro (And.intro @fa110_5 @fa110_4) (And.intro @bs59_1_0 @ap59)) (And.intro (And.intro @fsl16_1_1 @kb16_1_1) (And.intro @fsl16_4_1 @kb16_4_1))) (And.intro (And.intro (And.intro @fsl16_9_3 @kb16_9_3) (And.intro @fsl16_10_2 @kb16_10_2)) (And.intro (And.intro @fsl16_12_2 @kb16_12_2) (And.intro @sb16_15_4 (And.intro @fsl16_21_10 @kb16_21_10)))))))) (And.intro (And.intro (And.intro (And.intro (And.intro (And.intro (And.intro @sb16_21_12 @sb63_5_10) (And.intro @bd97_1_2_3 @fsl64_3_2)) (And.intro (And.intro @kb64_3_2 @al155) (And.intro @fa97_1 @ldp95))) (And.intro (And.intro (And.intro @ldi95 @lde95) (And.intro @ldp155 @ldi155)) (And.intro (And.intro @lde155 @fa97_2) (And.intro @fa97_3 @fsl73_0_1)))) (And.intro (And.intro (And.intro (And.intro @kb73_0_1 @fsl73_2_1) (And.intro @kb73_2_1 @fsl73_6_3)) (And.intro (And.intro @kb73_6_3 @fsl73_8_11) (And.intro @kb73_8_11 @fsl65_1_1))) (And.intro (And.intro (And.intro @kb65_1_1 @fsl65_2_9) (And.intro @kb65_2_9 @fsl65_4_9)) (And.intro (And.intro @kb65_4_9 @fsl101_2_1) (And.intro @kb101_2_1 (And.intro @bd155_0_1_2_3 @fa155_2)))))) (And.intro (And.intro (And.intro (And.intro (And.intro @fa155_1 @fsl3_1_0) (And.intro @kb3_1_0 @fsl3_3_1)) (And.intro (And.intro @kb3_3_1 @fsl3_5_1) (And.intro @kb3_5_1 @fsl3_6_1))) (And.intro (And.intro (And.intro @kb3_6_1 @fsl3_7_1) (And.intro @kb3_7_1 @fsl3_9_1)) (And.intro (And.intro @kb3_9_1 @fsl3_9_7) (And.intro @kb3_9_7 @fsl3_10_1)))) (And.intro (And.intro (And.intro (And.intro @kb3_10_1 @fsl3_11_5) (And.intro @kb3_11_5 @fsl3_11_9)) (And.intro (And.intro @kb3_11_9 @fsl3_13_1) (And.intro @kb3_13_1 @fsl3_14_5))) (And.intro (And.intro (And.intro @kb3_14_5 @fsl3_25_2) (And.intro @kb3_25_2 @cap22)) (And.intro (And.intro @capc22 @sl22) (And.intro @cap23 (And.intro @capc23 @sl23))))))) (And.intro (And.intro (And.intro (And.intro (And.intro (And.intro @bd34_0 @fsl19_1_1) (And.intro @kb19_1_1 @fsl19_7_3)) (And.intro (And.intro @kb19_7_3 @fsl19_8_9) (And.intro @kb19_8_9 @fsl19_11_9))) (And.intro (And.intro (And.intro @kb19_11_9 @fsl19_12_2) (And.intro @kb19_12_2 @sb19_15_7)) (And.intro (And.intro @sb19_16_12 @fsl19_21_14) (And.intro @kb19_21_14 @sb19_21_16)))) (And.intro (And.intro (And.intro (And.intro @bd34_0_1_2_3_4 @lbe3_18) (And.intro @lbe3_22 @lbe5_19)) (And.intro (And.intro @lbe5_28 @lbe7_19) (And.intro @lbe7_27 @lbe16_7))) (And.intro (And.intro (And.intro @lbe16_19 @lbe19_4) (And.intro @lbe19_19 @lbe20_4)) (And.intro (And.intro @lbe20_9 @lbe25_7) (And.intro @lbe27_3 (And.intro @lbe28_9 @lbe30_6)))))) (And.intro (And.intro (And.intro (And.intro (And.intro @lbe31_6 @lbe31_14) (And.intro @lbe32_4 @lbe36_4)) (And.intro (And.intro @lbe37_5 @lbe38_4) (And.intro @lbe38_8 @lbe38_12))) (And.intro (And.intro (And.intro @lbe38_17 @lbe39_4) (And.intro @lbe46_6 @lbe46_16)) (And.intro (And.intro @lbe53_3 @lbe53_8) (And.intro @lbe53_12 @lbe53_18)))) (And.intro (And.intro (And.intro (And.intro @lbe54_3 @lbe54_7) (And.intro @lbe62_4 @lbe62_10)) (And.intro (And.intro @lbe63_3 @lbe66_2) (And.intro @lbe67_4 @lbe67_9))) (And.intro (And.intro (And.intro @lbe68_2 @lbe73_4) (And.intro @lbe75_3 @lbe75_15)) (And.intro (And.intro @lbe80_3 @lbe86_2) (And.intro @lbe87_4 (And.intro @lbe100_4 @lbe128_1))))))))))
theorem TYPES : type_of% (And.intro (And.intro (And.intro (And.intro @ag25 (And.intro @sz25 @ag3)) (And.intro (And.intro @sz3 @ag4) (And.intro @sz4 @ag22))) (And.intro (And.intro @sz22 (And.intro @ag34 @sz34)) (And.intro (And.intro @ag23 @sz23) (And.intro @ag64 @sz64)))) (And.intro (And.intro (And.intro @ag163 (And.intro @sz163 @ag56)) (And.intro (And.intro @sz56 @ag62) (And.intro @sz62 @ag110))) (And.intro (And.intro @sz110 (And.intro @ag59 @sz59)) (And.intro (And.intro @ag155 @sz155) (And.intro @ag95 @sz95))))) :=
  (And.intro (And.intro (And.intro (And.intro @ag25 (And.intro @sz25 @ag3)) (And.intro (And.intro @sz3 @ag4) (And.intro @sz4 @ag22))) (And.intro (And.intro @sz22 (And.intro @ag34 @sz34)) (And.intro (And.intro @ag23 @sz23) (And.intro @ag64 @sz64)))) (And.intro (And.intro (And.intro @ag163 (And.intro @sz163 @ag56)) (And.intro (And.intro @sz56 @ag62) (And.intro @sz62 @ag110))) (And.intro (And.intro @sz110 (And.intro @ag59 @sz59)) (And.intro (And.intro @ag155 @sz155) (And.intro @ag95 @sz95)))))
end Go.Proofs.Sw
