/- A part of the proof: what functions of the program answer, of whatever arguments, reckoned with letters by the interpreter's equations. Its conditions stand in each theorem. -/
import Derived.Test.YtefdgfdahmaciaaProg
import Derived.Test.YtefdgfdahmaciaaAbSim
import Derived.WalkKit
/-! Facts about the program's types. -/
namespace Go.Proofs.Sw
set_option linter.unusedVariables false
set_option linter.unusedSimpArgs false
set_option linter.unusedSectionVars false
open Go.Ab
variable [Globals]
noncomputable def RA46_11 : Code := rfAs Try.f46 11
noncomputable def RB46_11 : Code := rfBd Try.f46 11
noncomputable def RA110_3 : Code := rfAs Try.f110 3
noncomputable def RB110_3 : Code := rfBd Try.f110 3
noncomputable def RA75_9 : Code := rfAs Try.f75 9
noncomputable def RB75_9 : Code := rfBd Try.f75 9
def tab : Tab := ⟨[(10, 20, 140, [1, 3, 4, 9, 12, 13]), (20, 4, 73, [2, 3, 5]), (20, 9, 73, [2, 3, 6]), (44, 6, 208, [1, 2, 4, 6, 29, 30]), (44, 14, 208, [2, 4, 6, 8, 77, 78, 79]), (44, 22, 208, [2, 4, 6, 8, 9, 10, 77, 78, 79, 137, 138]), (44, 32, 208, [2, 6, 8, 189, 190, 191]), (46, 6, 62, [1, 4, 5, 23, 24, 25]), (46, 16, 62, [5, 51, 52, 53]), (49, 6, 108, [1, 4, 6, 20, 21]), (49, 13, 108, [4, 6, 8, 38, 39]), (51, 5, 190, [1, 2, 3, 4, 5, 6]), (51, 13, 190, [1, 2, 3, 4, 5, 7]), (51, 23, 190, [1, 2, 3, 4, 5, 7, 10, 11, 12]), (51, 30, 190, [1, 2, 3, 4, 5, 7, 10, 13, 14]), (51, 33, 190, [1, 2, 3, 4, 5, 7, 10, 13, 14, 15]), (51, 45, 190, [1, 2, 3, 4, 5, 16]), (52, 4, 76, [1, 3, 4, 5]), (52, 11, 76, [1, 3, 4, 5, 6, 7]), (52, 16, 76, [1, 3, 4, 5, 6, 8]), (53, 3, 99, [1, 3, 4]), (53, 8, 99, [1, 3, 4, 5, 6, 7]), (53, 12, 99, [1, 3, 4, 5, 7, 8, 9]), (53, 18, 99, [1, 3, 4, 5, 6, 10]), (54, 3, 37, [2, 3, 4]), (54, 7, 37, [3, 5]), (62, 4, 72, [1, 42, 43, 44]), (62, 10, 72, [1, 58, 59, 60]), (67, 4, 79, [1, 4]), (67, 9, 79, [1, 5]), (75, 3, 58, [1, 3, 15, 16, 17]), (75, 15, 58, [3, 47, 48, 49]), (82, 8, 203, [1, 4, 6, 7, 8, 39, 40]), (82, 13, 203, [1, 4, 6, 7, 8, 52, 53]), (82, 17, 203, [1, 4, 6, 7, 8, 66, 67, 68]), (82, 28, 203, [6, 7, 8, 172, 173, 174]), (84, 2, 60, [0, 1, 10, 11, 12]), (88, 3, 69, [1, 2, 3, 7, 8]), (88, 8, 69, [1, 2, 3, 9]), (88, 12, 69, [1, 2, 3, 9, 10, 11]), (89, 2, 24, [0, 1, 5]), (90, 2, 37, [1, 3, 4, 9]), (100, 4, 57, [1, 43, 44, 45]), (128, 1, 19, [0, 1, 3])], [(7, 6, 1), (30, 11, 7), (3, 6, 1), (3, 13, 1), (10, 6, 1), (10, 24, 1), (10, 18, 1)], [(15, 2, 4, 0), (15, 3, 4, 1), (44, 28, 4, 0), (44, 34, 9, 1), (51, 43, 4, 0), (51, 47, 16, 1), (82, 5, 3, 2), (82, 5, 5, 3), (82, 5, 7, 4), (82, 14, 6, 0), (82, 25, 6, 0), (82, 30, 10, 1), (83, 1, 8, 2)], [(15, 2), (44, 3), (51, 2), (82, 5), (83, 1)], [27, 28, 54, 63, 64, 65, 66, 68, 82, 83, 84, 101], [(5, 21, 7, [1]), (19, 7, 3, [2]), (44, 8, 9, [2])], [], [(3, 18), (3, 22), (54, 3), (54, 7)], [(51, 13, [5])]⟩
theorem lp10_20 : (tab.loops.find? fun e => e.1 == 10 && e.2.1 == 20) = some (10, 20, 140, [1, 3, 4, 9, 12, 13]) := by rfl
noncomputable def LB10_20 : Code := loopOf Try.f10 20
theorem lp20_4 : (tab.loops.find? fun e => e.1 == 20 && e.2.1 == 4) = some (20, 4, 73, [2, 3, 5]) := by rfl
noncomputable def LB20_4 : Code := loopOf Try.f20 4
theorem lp20_9 : (tab.loops.find? fun e => e.1 == 20 && e.2.1 == 9) = some (20, 9, 73, [2, 3, 6]) := by rfl
noncomputable def LB20_9 : Code := loopOf Try.f20 9
theorem lp44_6 : (tab.loops.find? fun e => e.1 == 44 && e.2.1 == 6) = some (44, 6, 208, [1, 2, 4, 6, 29, 30]) := by rfl
noncomputable def LB44_6 : Code := loopOf Try.f44 6
theorem lp44_14 : (tab.loops.find? fun e => e.1 == 44 && e.2.1 == 14) = some (44, 14, 208, [2, 4, 6, 8, 77, 78, 79]) := by rfl
noncomputable def LB44_14 : Code := loopOf Try.f44 14
theorem lp44_22 : (tab.loops.find? fun e => e.1 == 44 && e.2.1 == 22) = some (44, 22, 208, [2, 4, 6, 8, 9, 10, 77, 78, 79, 137, 138]) := by rfl
noncomputable def LB44_22 : Code := loopOf Try.f44 22
theorem lp44_32 : (tab.loops.find? fun e => e.1 == 44 && e.2.1 == 32) = some (44, 32, 208, [2, 6, 8, 189, 190, 191]) := by rfl
noncomputable def LB44_32 : Code := loopOf Try.f44 32
theorem lp46_6 : (tab.loops.find? fun e => e.1 == 46 && e.2.1 == 6) = some (46, 6, 62, [1, 4, 5, 23, 24, 25]) := by rfl
noncomputable def LB46_6 : Code := loopOf Try.f46 6
theorem lp46_16 : (tab.loops.find? fun e => e.1 == 46 && e.2.1 == 16) = some (46, 16, 62, [5, 51, 52, 53]) := by rfl
noncomputable def LB46_16 : Code := loopOf Try.f46 16
theorem lp49_6 : (tab.loops.find? fun e => e.1 == 49 && e.2.1 == 6) = some (49, 6, 108, [1, 4, 6, 20, 21]) := by rfl
noncomputable def LB49_6 : Code := loopOf Try.f49 6
theorem lp49_13 : (tab.loops.find? fun e => e.1 == 49 && e.2.1 == 13) = some (49, 13, 108, [4, 6, 8, 38, 39]) := by rfl
noncomputable def LB49_13 : Code := loopOf Try.f49 13
theorem lp51_5 : (tab.loops.find? fun e => e.1 == 51 && e.2.1 == 5) = some (51, 5, 190, [1, 2, 3, 4, 5, 6]) := by rfl
noncomputable def LB51_5 : Code := loopOf Try.f51 5
theorem lp51_13 : (tab.loops.find? fun e => e.1 == 51 && e.2.1 == 13) = some (51, 13, 190, [1, 2, 3, 4, 5, 7]) := by rfl
noncomputable def LB51_13 : Code := loopOf Try.f51 13
theorem lp51_23 : (tab.loops.find? fun e => e.1 == 51 && e.2.1 == 23) = some (51, 23, 190, [1, 2, 3, 4, 5, 7, 10, 11, 12]) := by rfl
noncomputable def LB51_23 : Code := loopOf Try.f51 23
theorem lp51_30 : (tab.loops.find? fun e => e.1 == 51 && e.2.1 == 30) = some (51, 30, 190, [1, 2, 3, 4, 5, 7, 10, 13, 14]) := by rfl
noncomputable def LB51_30 : Code := loopOf Try.f51 30
theorem lp51_33 : (tab.loops.find? fun e => e.1 == 51 && e.2.1 == 33) = some (51, 33, 190, [1, 2, 3, 4, 5, 7, 10, 13, 14, 15]) := by rfl
noncomputable def LB51_33 : Code := loopOf Try.f51 33
theorem lp51_45 : (tab.loops.find? fun e => e.1 == 51 && e.2.1 == 45) = some (51, 45, 190, [1, 2, 3, 4, 5, 16]) := by rfl
noncomputable def LB51_45 : Code := loopOf Try.f51 45
theorem lp52_4 : (tab.loops.find? fun e => e.1 == 52 && e.2.1 == 4) = some (52, 4, 76, [1, 3, 4, 5]) := by rfl
noncomputable def LB52_4 : Code := loopOf Try.f52 4
theorem lp52_11 : (tab.loops.find? fun e => e.1 == 52 && e.2.1 == 11) = some (52, 11, 76, [1, 3, 4, 5, 6, 7]) := by rfl
noncomputable def LB52_11 : Code := loopOf Try.f52 11
theorem lp52_16 : (tab.loops.find? fun e => e.1 == 52 && e.2.1 == 16) = some (52, 16, 76, [1, 3, 4, 5, 6, 8]) := by rfl
noncomputable def LB52_16 : Code := loopOf Try.f52 16
theorem lp53_3 : (tab.loops.find? fun e => e.1 == 53 && e.2.1 == 3) = some (53, 3, 99, [1, 3, 4]) := by rfl
noncomputable def LB53_3 : Code := loopOf Try.f53 3
theorem lp53_8 : (tab.loops.find? fun e => e.1 == 53 && e.2.1 == 8) = some (53, 8, 99, [1, 3, 4, 5, 6, 7]) := by rfl
noncomputable def LB53_8 : Code := loopOf Try.f53 8
theorem lp53_12 : (tab.loops.find? fun e => e.1 == 53 && e.2.1 == 12) = some (53, 12, 99, [1, 3, 4, 5, 7, 8, 9]) := by rfl
noncomputable def LB53_12 : Code := loopOf Try.f53 12
theorem lp53_18 : (tab.loops.find? fun e => e.1 == 53 && e.2.1 == 18) = some (53, 18, 99, [1, 3, 4, 5, 6, 10]) := by rfl
noncomputable def LB53_18 : Code := loopOf Try.f53 18
theorem lp54_3 : (tab.loops.find? fun e => e.1 == 54 && e.2.1 == 3) = some (54, 3, 37, [2, 3, 4]) := by rfl
noncomputable def LB54_3 : Code := loopOf Try.f54 3
theorem lp54_7 : (tab.loops.find? fun e => e.1 == 54 && e.2.1 == 7) = some (54, 7, 37, [3, 5]) := by rfl
noncomputable def LB54_7 : Code := loopOf Try.f54 7
theorem lp62_4 : (tab.loops.find? fun e => e.1 == 62 && e.2.1 == 4) = some (62, 4, 72, [1, 42, 43, 44]) := by rfl
noncomputable def LB62_4 : Code := loopOf Try.f62 4
theorem lp62_10 : (tab.loops.find? fun e => e.1 == 62 && e.2.1 == 10) = some (62, 10, 72, [1, 58, 59, 60]) := by rfl
noncomputable def LB62_10 : Code := loopOf Try.f62 10
theorem lp67_4 : (tab.loops.find? fun e => e.1 == 67 && e.2.1 == 4) = some (67, 4, 79, [1, 4]) := by rfl
noncomputable def LB67_4 : Code := loopOf Try.f67 4
theorem lp67_9 : (tab.loops.find? fun e => e.1 == 67 && e.2.1 == 9) = some (67, 9, 79, [1, 5]) := by rfl
noncomputable def LB67_9 : Code := loopOf Try.f67 9
theorem lp75_3 : (tab.loops.find? fun e => e.1 == 75 && e.2.1 == 3) = some (75, 3, 58, [1, 3, 15, 16, 17]) := by rfl
noncomputable def LB75_3 : Code := loopOf Try.f75 3
theorem lp75_15 : (tab.loops.find? fun e => e.1 == 75 && e.2.1 == 15) = some (75, 15, 58, [3, 47, 48, 49]) := by rfl
noncomputable def LB75_15 : Code := loopOf Try.f75 15
theorem lp82_8 : (tab.loops.find? fun e => e.1 == 82 && e.2.1 == 8) = some (82, 8, 203, [1, 4, 6, 7, 8, 39, 40]) := by rfl
noncomputable def LB82_8 : Code := loopOf Try.f82 8
theorem lp82_13 : (tab.loops.find? fun e => e.1 == 82 && e.2.1 == 13) = some (82, 13, 203, [1, 4, 6, 7, 8, 52, 53]) := by rfl
noncomputable def LB82_13 : Code := loopOf Try.f82 13
theorem lp82_17 : (tab.loops.find? fun e => e.1 == 82 && e.2.1 == 17) = some (82, 17, 203, [1, 4, 6, 7, 8, 66, 67, 68]) := by rfl
noncomputable def LB82_17 : Code := loopOf Try.f82 17
theorem lp82_28 : (tab.loops.find? fun e => e.1 == 82 && e.2.1 == 28) = some (82, 28, 203, [6, 7, 8, 172, 173, 174]) := by rfl
noncomputable def LB82_28 : Code := loopOf Try.f82 28
theorem lp84_2 : (tab.loops.find? fun e => e.1 == 84 && e.2.1 == 2) = some (84, 2, 60, [0, 1, 10, 11, 12]) := by rfl
noncomputable def LB84_2 : Code := loopOf Try.f84 2
theorem lp88_3 : (tab.loops.find? fun e => e.1 == 88 && e.2.1 == 3) = some (88, 3, 69, [1, 2, 3, 7, 8]) := by rfl
noncomputable def LB88_3 : Code := loopOf Try.f88 3
theorem lp88_8 : (tab.loops.find? fun e => e.1 == 88 && e.2.1 == 8) = some (88, 8, 69, [1, 2, 3, 9]) := by rfl
noncomputable def LB88_8 : Code := loopOf Try.f88 8
theorem lp88_12 : (tab.loops.find? fun e => e.1 == 88 && e.2.1 == 12) = some (88, 12, 69, [1, 2, 3, 9, 10, 11]) := by rfl
noncomputable def LB88_12 : Code := loopOf Try.f88 12
theorem lp89_2 : (tab.loops.find? fun e => e.1 == 89 && e.2.1 == 2) = some (89, 2, 24, [0, 1, 5]) := by rfl
noncomputable def LB89_2 : Code := loopOf Try.f89 2
theorem lp90_2 : (tab.loops.find? fun e => e.1 == 90 && e.2.1 == 2) = some (90, 2, 37, [1, 3, 4, 9]) := by rfl
noncomputable def LB90_2 : Code := loopOf Try.f90 2
theorem lp100_4 : (tab.loops.find? fun e => e.1 == 100 && e.2.1 == 4) = some (100, 4, 57, [1, 43, 44, 45]) := by rfl
noncomputable def LB100_4 : Code := loopOf Try.f100 4
theorem lp128_1 : (tab.loops.find? fun e => e.1 == 128 && e.2.1 == 1) = some (128, 1, 19, [0, 1, 3]) := by rfl
noncomputable def LB128_1 : Code := loopOf Try.f128 1
theorem fb10 : inB tab.frames 10 = false := by rfl
theorem fb15 : inB tab.frames 15 = false := by rfl
theorem fb17 : inB tab.frames 17 = false := by rfl
theorem fb20 : inB tab.frames 20 = false := by rfl
theorem fb40 : inB tab.frames 40 = false := by rfl
theorem fb42 : inB tab.frames 42 = false := by rfl
theorem fb44 : inB tab.frames 44 = false := by rfl
theorem fb49 : inB tab.frames 49 = false := by rfl
theorem fb50 : inB tab.frames 50 = false := by rfl
theorem fb51 : inB tab.frames 51 = false := by rfl
theorem fb52 : inB tab.frames 52 = false := by rfl
theorem fb53 : inB tab.frames 53 = false := by rfl
theorem fb54 : inB tab.frames 54 = true := by rfl
theorem fb67 : inB tab.frames 67 = false := by rfl
theorem fb79 : inB tab.frames 79 = false := by rfl
theorem fb82 : inB tab.frames 82 = true := by rfl
theorem fb83 : inB tab.frames 83 = true := by rfl
theorem fb84 : inB tab.frames 84 = true := by rfl
theorem fb81 : inB tab.frames 81 = false := by rfl
theorem fb88 : inB tab.frames 88 = false := by rfl
theorem fb89 : inB tab.frames 89 = false := by rfl
theorem fb90 : inB tab.frames 90 = false := by rfl
theorem fb102 : inB tab.frames 102 = false := by rfl
theorem fb46 : inB tab.frames 46 = false := by rfl
theorem fb112 : inB tab.frames 112 = false := by rfl
theorem fb78 : inB tab.frames 78 = false := by rfl
theorem fb85 : inB tab.frames 85 = false := by rfl
theorem fb110 : inB tab.frames 110 = false := by rfl
theorem fb62 : inB tab.frames 62 = false := by rfl
theorem fb111 : inB tab.frames 111 = false := by rfl
theorem fb100 : inB tab.frames 100 = false := by rfl
theorem fb128 : inB tab.frames 128 = false := by rfl
theorem fb123 : inB tab.frames 123 = false := by rfl
theorem fb124 : inB tab.frames 124 = false := by rfl
theorem fb75 : inB tab.frames 75 = false := by rfl
theorem ev10 (k : Nat) (x0 : AV) (H : Heap) : evalT Try.prog (mkHints tab) (k + 1) (.fn 10) [x0] H = trimO H.length (finishO Try.prog Try.f10.results.toList (evalCode Try.prog (cxG Try.prog (mkHints tab) k 10 none) (Try.f10.body.getD .skip) (fillArgs (fr 140 []) 0 [x0]) H)) := by
  have h := evalT_fn 140 Try.func10 rfl (by decide) rfl (P := Try.prog) (h := mkHints tab) (k := k) (args := [x0]) (H := H)
  rw [show (mkHints tab).slots 10 = 0 from rfl, show (List.replicate 0 AObj.slot) = [] from rfl, List.append_nil] at h
  exact h
theorem fsl10_1_0 : fslotB tab.fslots 10 1 0 = [] := by rfl
theorem kb10_1_0 : keepB tab.keeps 10 1 0 = false := by rfl
theorem fsl10_3_1 : fslotB tab.fslots 10 3 1 = [] := by rfl
theorem kb10_3_1 : keepB tab.keeps 10 3 1 = false := by rfl
theorem fsl10_5_1 : fslotB tab.fslots 10 5 1 = [] := by rfl
theorem kb10_5_1 : keepB tab.keeps 10 5 1 = false := by rfl
theorem fsl10_6_1 : fslotB tab.fslots 10 6 1 = [] := by rfl
theorem kb10_6_1 : keepB tab.keeps 10 6 1 = true := by rfl
theorem fsl10_7_1 : fslotB tab.fslots 10 7 1 = [] := by rfl
theorem kb10_7_1 : keepB tab.keeps 10 7 1 = false := by rfl
theorem fsl10_8_1 : fslotB tab.fslots 10 8 1 = [] := by rfl
theorem kb10_8_1 : keepB tab.keeps 10 8 1 = false := by rfl
theorem fsl10_10_1 : fslotB tab.fslots 10 10 1 = [] := by rfl
theorem kb10_10_1 : keepB tab.keeps 10 10 1 = false := by rfl
theorem fsl10_10_15 : fslotB tab.fslots 10 10 15 = [] := by rfl
theorem kb10_10_15 : keepB tab.keeps 10 10 15 = false := by rfl
theorem fsl10_11_1 : fslotB tab.fslots 10 11 1 = [] := by rfl
theorem kb10_11_1 : keepB tab.keeps 10 11 1 = false := by rfl
theorem fsl10_12_1 : fslotB tab.fslots 10 12 1 = [] := by rfl
theorem kb10_12_1 : keepB tab.keeps 10 12 1 = false := by rfl
theorem fsl10_13_1 : fslotB tab.fslots 10 13 1 = [] := by rfl
theorem kb10_13_1 : keepB tab.keeps 10 13 1 = false := by rfl
theorem fsl10_14_9 : fslotB tab.fslots 10 14 9 = [] := by rfl
theorem kb10_14_9 : keepB tab.keeps 10 14 9 = false := by rfl
theorem fsl10_18_1 : fslotB tab.fslots 10 18 1 = [] := by rfl
theorem kb10_18_1 : keepB tab.keeps 10 18 1 = true := by rfl
theorem fsl10_24_1 : fslotB tab.fslots 10 24 1 = [] := by rfl
theorem kb10_24_1 : keepB tab.keeps 10 24 1 = true := by rfl
theorem fsl10_25_1 : fslotB tab.fslots 10 25 1 = [] := by rfl
theorem kb10_25_1 : keepB tab.keeps 10 25 1 = false := by rfl
theorem fsl10_26_5 : fslotB tab.fslots 10 26 5 = [] := by rfl
theorem kb10_26_5 : keepB tab.keeps 10 26 5 = false := by rfl
theorem fsl10_26_10 : fslotB tab.fslots 10 26 10 = [] := by rfl
theorem kb10_26_10 : keepB tab.keeps 10 26 10 = false := by rfl
theorem ag25 : isAggT Try.prog 25 = some true := by kernel_rfl
theorem sz25 : sizeT Try.prog 25 = some 4 := by kernel_rfl
theorem ldp25 (H : Heap) (id off : Nat) : loadA Try.prog H 25 (.ptr id off) = cellsAt H[id]? off 4 := by kernel_rfl
theorem ldi25 (H : Heap) (cells : List IV) (off : Nat) : loadA Try.prog H 25 (.c (.iptr cells off)) = (takeCells cells off 4).map fun l => .agg (l.map .c) := by kernel_rfl
theorem lde25 (H : Heap) (id off ext : Nat) : loadA Try.prog H 25 (.eptr id off ext) = (rowOf H id ext).bind fun r => (takeCells r.2 off 4).map fun l => .agg (l.map .c) := by kernel_rfl
theorem al25 (H : Heap) : allocA Try.prog H 25 = some (.ptr H.length 0, H ++ [.cells 25 [.c (.int .i64 0), .c (.int .i64 0), .c (.slice [] 0 true (some 0)), .c (.slice [] 0 true (some 0))]]) := by kernel_rfl
theorem fa25_1 (x : AV) : fieldAddrA Try.prog 25 x 1 = addrPlus x 1 := by kernel_rfl
theorem ag3 : isAggT Try.prog 3 = some false := by kernel_rfl
theorem sz3 : sizeT Try.prog 3 = some 1 := by kernel_rfl
theorem ldp3 (H : Heap) (id off : Nat) : loadA Try.prog H 3 (.ptr id off) = cellAt H[id]? off := by kernel_rfl
theorem ldi3 (H : Heap) (cells : List IV) (off : Nat) : loadA Try.prog H 3 (.c (.iptr cells off)) = (cells[off]?).map .c := by kernel_rfl
theorem lde3 (H : Heap) (id off ext : Nat) : loadA Try.prog H 3 (.eptr id off ext) = (rowOf H id ext).bind fun r => (r.2[off]?).map .c := by kernel_rfl
theorem fa25_2 (x : AV) : fieldAddrA Try.prog 25 x 2 = addrPlus x 2 := by kernel_rfl
theorem ag22 : isAggT Try.prog 22 = some false := by kernel_rfl
theorem sz22 : sizeT Try.prog 22 = some 1 := by kernel_rfl
theorem ldp22 (H : Heap) (id off : Nat) : loadA Try.prog H 22 (.ptr id off) = cellAt H[id]? off := by kernel_rfl
theorem ldi22 (H : Heap) (cells : List IV) (off : Nat) : loadA Try.prog H 22 (.c (.iptr cells off)) = (cells[off]?).map .c := by kernel_rfl
theorem lde22 (H : Heap) (id off ext : Nat) : loadA Try.prog H 22 (.eptr id off ext) = (rowOf H id ext).bind fun r => (r.2[off]?).map .c := by kernel_rfl
theorem ln22 (cells : List IV) (n : Nat) (nl : Bool) (cap : Option Nat) : lenA Try.prog 22 (.c (.slice cells n nl cap)) = some (.c (.int .i64 n)) := by kernel_rfl
theorem lnv22 (s n sz : Nat) : lenA Try.prog 22 (lv s sz n) = some (.c (.int .i64 n)) := by
  unfold lv; split
  · rename_i h; subst h; kernel_rfl
  · kernel_rfl
theorem lnh22 (id off n ext sz : Nat) : lenA Try.prog 22 (.hsl id off n ext sz) = some (.c (.int .i64 n)) := by kernel_rfl
theorem fa25_0 (x : AV) : fieldAddrA Try.prog 25 x 0 = addrPlus x 0 := by kernel_rfl
theorem ln64 (cells : List IV) (n : Nat) (nl : Bool) (cap : Option Nat) : lenA Try.prog 64 (.c (.slice cells n nl cap)) = some (.c (.int .i64 n)) := by kernel_rfl
theorem lnv64 (s n sz : Nat) : lenA Try.prog 64 (lv s sz n) = some (.c (.int .i64 n)) := by
  unfold lv; split
  · rename_i h; subst h; kernel_rfl
  · kernel_rfl
theorem lnh64 (id off n ext sz : Nat) : lenA Try.prog 64 (.hsl id off n ext sz) = some (.c (.int .i64 n)) := by kernel_rfl
theorem ag4 : isAggT Try.prog 4 = some false := by kernel_rfl
theorem sz4 : sizeT Try.prog 4 = some 1 := by kernel_rfl
theorem ia64 (H : Heap) (cells : List IV) (len : Nat) (nl : Bool) (cap : Option Nat) (k : IntKind) (i : Int) : indexAddrA Try.prog H 64 (.c (.slice cells len nl cap)) (.c (.int k i)) = if 0 ≤ i ∧ i < len then some (.c (.iptr cells (i.toNat * 1))) else none := by kernel_rfl
theorem iah64 (H : Heap) (id off len ext sz : Nat) (k : IntKind) (i : Int) : indexAddrA Try.prog H 64 (.hsl id off len ext sz) (.c (.int k i)) = if 0 ≤ i ∧ i < len ∧ sz = 1 ∧ (rowOf H id ext).isSome = true then some (.eptr id (off + i.toNat * 1) ext) else none := by kernel_rfl
theorem ldp4 (H : Heap) (id off : Nat) : loadA Try.prog H 4 (.ptr id off) = cellAt H[id]? off := by kernel_rfl
theorem ldi4 (H : Heap) (cells : List IV) (off : Nat) : loadA Try.prog H 4 (.c (.iptr cells off)) = (cells[off]?).map .c := by kernel_rfl
theorem lde4 (H : Heap) (id off ext : Nat) : loadA Try.prog H 4 (.eptr id off ext) = (rowOf H id ext).bind fun r => (r.2[off]?).map .c := by kernel_rfl
theorem ev15 (k : Nat) (x0 : AV) (H : Heap) : evalT Try.prog (mkHints tab) (k + 1) (.fn 15) [x0] H = trimO H.length (finishO Try.prog Try.f15.results.toList (evalCode Try.prog (cxG Try.prog (mkHints tab) k 15 none) (Try.f15.body.getD .skip) (fillArgs (fr 22 []) 0 [x0]) (H ++ [.slot, .slot]))) := evalT_fn 22 Try.func15 rfl (by decide) rfl
theorem sb15_2_4 : slotB tab.slots 15 2 4 = some 0 := by rfl
theorem sb15_3_4 : slotB tab.slots 15 3 4 = some 1 := by rfl
theorem bd25_0_1 (a0 a1 : IV) : buildA Try.prog 25 [(0, .c a0), (1, .c a1)] = some (.agg [.c a0, .c a1, .c (.slice [] 0 true (some 0)), .c (.slice [] 0 true (some 0))]) := by kernel_rfl
theorem ap22 (H : Heap) (sl : Option Nat) (s x : AV) : appendA Try.prog H sl 22 s x = apO 34 5 40 sl s H (srcOf H 5 x) := by kernel_rfl
theorem fa25_3 (x : AV) : fieldAddrA Try.prog 25 x 3 = addrPlus x 3 := by kernel_rfl
theorem ag23 : isAggT Try.prog 23 = some false := by kernel_rfl
theorem sz23 : sizeT Try.prog 23 = some 1 := by kernel_rfl
theorem ldp23 (H : Heap) (id off : Nat) : loadA Try.prog H 23 (.ptr id off) = cellAt H[id]? off := by kernel_rfl
theorem ldi23 (H : Heap) (cells : List IV) (off : Nat) : loadA Try.prog H 23 (.c (.iptr cells off)) = (cells[off]?).map .c := by kernel_rfl
theorem lde23 (H : Heap) (id off ext : Nat) : loadA Try.prog H 23 (.eptr id off ext) = (rowOf H id ext).bind fun r => (r.2[off]?).map .c := by kernel_rfl
theorem ap23 (H : Heap) (sl : Option Nat) (s x : AV) : appendA Try.prog H sl 23 s x = apO 3 1 8 sl s H (srcOf H 1 x) := by kernel_rfl
theorem ev17 (k : Nat) (x0 : AV) (H : Heap) : evalT Try.prog (mkHints tab) (k + 1) (.fn 17) [x0] H = trimO H.length (finishO Try.prog Try.f17.results.toList (evalCode Try.prog (cxG Try.prog (mkHints tab) k 17 none) (Try.f17.body.getD .skip) (fillArgs (fr 12 []) 0 [x0]) H)) := by
  have h := evalT_fn 12 Try.func17 rfl (by decide) rfl (P := Try.prog) (h := mkHints tab) (k := k) (args := [x0]) (H := H)
  rw [show (mkHints tab).slots 17 = 0 from rfl, show (List.replicate 0 AObj.slot) = [] from rfl, List.append_nil] at h
  exact h
theorem fsl17_1_1 : fslotB tab.fslots 17 1 1 = [] := by rfl
theorem kb17_1_1 : keepB tab.keeps 17 1 1 = false := by rfl
theorem ev20 (k : Nat) (x0 x1 : AV) (H : Heap) : evalT Try.prog (mkHints tab) (k + 1) (.fn 20) [x0, x1] H = trimO H.length (finishO Try.prog Try.f20.results.toList (evalCode Try.prog (cxG Try.prog (mkHints tab) k 20 none) (Try.f20.body.getD .skip) (fillArgs (fr 73 []) 0 [x0, x1]) H)) := by
  have h := evalT_fn 73 Try.func20 rfl (by decide) rfl (P := Try.prog) (h := mkHints tab) (k := k) (args := [x0, x1]) (H := H)
  rw [show (mkHints tab).slots 20 = 0 from rfl, show (List.replicate 0 AObj.slot) = [] from rfl, List.append_nil] at h
  exact h
theorem ln23 (cells : List IV) (n : Nat) (nl : Bool) (cap : Option Nat) : lenA Try.prog 23 (.c (.slice cells n nl cap)) = some (.c (.int .i64 n)) := by kernel_rfl
theorem lnv23 (s n sz : Nat) : lenA Try.prog 23 (lv s sz n) = some (.c (.int .i64 n)) := by
  unfold lv; split
  · rename_i h; subst h; kernel_rfl
  · kernel_rfl
theorem lnh23 (id off n ext sz : Nat) : lenA Try.prog 23 (.hsl id off n ext sz) = some (.c (.int .i64 n)) := by kernel_rfl
theorem ag34 : isAggT Try.prog 34 = some true := by kernel_rfl
theorem sz34 : sizeT Try.prog 34 = some 5 := by kernel_rfl
theorem ia22 (H : Heap) (cells : List IV) (len : Nat) (nl : Bool) (cap : Option Nat) (k : IntKind) (i : Int) : indexAddrA Try.prog H 22 (.c (.slice cells len nl cap)) (.c (.int k i)) = if 0 ≤ i ∧ i < len then some (.c (.iptr cells (i.toNat * 5))) else none := by kernel_rfl
theorem iah22 (H : Heap) (id off len ext sz : Nat) (k : IntKind) (i : Int) : indexAddrA Try.prog H 22 (.hsl id off len ext sz) (.c (.int k i)) = if 0 ≤ i ∧ i < len ∧ sz = 5 ∧ (rowOf H id ext).isSome = true then some (.eptr id (off + i.toNat * 5) ext) else none := by kernel_rfl
theorem ldp34 (H : Heap) (id off : Nat) : loadA Try.prog H 34 (.ptr id off) = cellsAt H[id]? off 5 := by kernel_rfl
theorem ldi34 (H : Heap) (cells : List IV) (off : Nat) : loadA Try.prog H 34 (.c (.iptr cells off)) = (takeCells cells off 5).map fun l => .agg (l.map .c) := by kernel_rfl
theorem lde34 (H : Heap) (id off ext : Nat) : loadA Try.prog H 34 (.eptr id off ext) = (rowOf H id ext).bind fun r => (takeCells r.2 off 5).map fun l => .agg (l.map .c) := by kernel_rfl
theorem ne34 (H : Heap) (a0 b0 : Int) (a1 b1 : Int) (a2 b2 : Int) (a3 b3 : Int) (a4 b4 : Int) : binA Try.prog H .neq 34 (.agg [.c (.int .i64 a0), .c (.int .i64 a1), .c (.int .i64 a2), .c (.int .i64 a3), .c (.int .i64 a4)]) (.agg [.c (.int .i64 b0), .c (.int .i64 b1), .c (.int .i64 b2), .c (.int .i64 b3), .c (.int .i64 b4)]) = some (.c (.bool (!((a0 == b0) && ((a1 == b1) && ((a2 == b2) && ((a3 == b3) && ((a4 == b4) && true)))))))) := by kernel_rfl
theorem dr20_6 : drawFact Try.f20 6 [0, 1, 0, 7, 15, 0, 32, 0, 224, 480, 1023] = true := by kernel_rfl
theorem ia23 (H : Heap) (cells : List IV) (len : Nat) (nl : Bool) (cap : Option Nat) (k : IntKind) (i : Int) : indexAddrA Try.prog H 23 (.c (.slice cells len nl cap)) (.c (.int k i)) = if 0 ≤ i ∧ i < len then some (.c (.iptr cells (i.toNat * 1))) else none := by kernel_rfl
theorem iah23 (H : Heap) (id off len ext sz : Nat) (k : IntKind) (i : Int) : indexAddrA Try.prog H 23 (.hsl id off len ext sz) (.c (.int k i)) = if 0 ≤ i ∧ i < len ∧ sz = 1 ∧ (rowOf H id ext).isSome = true then some (.eptr id (off + i.toNat * 1) ext) else none := by kernel_rfl
theorem dr20_11 : drawFact Try.f20 11 [0, 1, 0, 7, 15, 0, 32, 0, 224, 480, 1023] = true := by kernel_rfl
theorem ev40 (k : Nat) (H : Heap) : evalT Try.prog (mkHints tab) (k + 1) (.fn 40) [] H = trimO H.length (finishO Try.prog Try.f40.results.toList (evalCode Try.prog (cxG Try.prog (mkHints tab) k 40 none) (Try.f40.body.getD .skip) (fillArgs (fr 27 []) 0 []) H)) := by
  have h := evalT_fn 27 Try.func40 rfl (by decide) rfl (P := Try.prog) (h := mkHints tab) (k := k) (args := []) (H := H)
  rw [show (mkHints tab).slots 40 = 0 from rfl, show (List.replicate 0 AObj.slot) = [] from rfl, List.append_nil] at h
  exact h
theorem fsl40_1_2 : fslotB tab.fslots 40 1 2 = [] := by rfl
theorem kb40_1_2 : keepB tab.keeps 40 1 2 = false := by rfl
theorem bs23_1_0 (H : Heap) (a0 : IV) : buildSliceA Try.prog H 23 1 [(0, .c a0)] = some (.hsl H.length 0 1 (1 * 1) 1, H ++ [.row false 3 [a0]]) := by kernel_rfl
theorem bd25_0_1_3_h1 (a0 a1 : IV) (v2 : AV) (hv2 : v2.isCell = true) : buildA Try.prog 25 [(0, .c a0), (1, .c a1), (3, v2)] = some (.agg [.c a0, .c a1, .c (.slice [] 0 true (some 0)), v2]) := by
  cases v2 <;> first | (cases hv2; done) | kernel_rfl
theorem bd25_0_1_3 (a0 a1 a2 : IV) : buildA Try.prog 25 [(0, .c a0), (1, .c a1), (3, .c a2)] = some (.agg [.c a0, .c a1, .c (.slice [] 0 true (some 0)), .c a2]) := by kernel_rfl
theorem ev42 (k : Nat) (x0 : AV) (H : Heap) : evalT Try.prog (mkHints tab) (k + 1) (.fn 42) [x0] H = trimO H.length (finishO Try.prog Try.f42.results.toList (evalCode Try.prog (cxG Try.prog (mkHints tab) k 42 none) (Try.f42.body.getD .skip) (fillArgs (fr 13 []) 0 [x0]) H)) := by
  have h := evalT_fn 13 Try.func42 rfl (by decide) rfl (P := Try.prog) (h := mkHints tab) (k := k) (args := [x0]) (H := H)
  rw [show (mkHints tab).slots 42 = 0 from rfl, show (List.replicate 0 AObj.slot) = [] from rfl, List.append_nil] at h
  exact h
theorem ev44 (k : Nat) (x0 : AV) (H : Heap) : evalT Try.prog (mkHints tab) (k + 1) (.fn 44) [x0] H = trimO H.length (finishO Try.prog Try.f44.results.toList (evalCode Try.prog (cxG Try.prog (mkHints tab) k 44 none) (Try.f44.body.getD .skip) (fillArgs (fr 208 []) 0 [x0]) (H ++ [.slot, .slot, .slot]))) := evalT_fn 208 Try.func44 rfl (by decide) rfl
theorem fsl44_1_1 : fslotB tab.fslots 44 1 1 = [] := by rfl
theorem kb44_1_1 : keepB tab.keeps 44 1 1 = false := by rfl
theorem fsl44_8_9 : fslotB tab.fslots 44 8 9 = [2] := by rfl
theorem kb44_8_9 : keepB tab.keeps 44 8 9 = false := by rfl
theorem fsl44_11_11 : fslotB tab.fslots 44 11 11 = [] := by rfl
theorem kb44_11_11 : keepB tab.keeps 44 11 11 = false := by rfl
theorem fsl44_17_1 : fslotB tab.fslots 44 17 1 = [] := by rfl
theorem kb44_17_1 : keepB tab.keeps 44 17 1 = false := by rfl
theorem fsl44_27_8 : fslotB tab.fslots 44 27 8 = [] := by rfl
theorem kb44_27_8 : keepB tab.keeps 44 27 8 = false := by rfl
theorem sb44_28_4 : slotB tab.slots 44 28 4 = some 0 := by rfl
theorem sb44_34_9 : slotB tab.slots 44 34 9 = some 1 := by rfl
theorem bd25_ : buildA Try.prog 25 [] = some (.agg [.c (.int .i64 0), .c (.int .i64 0), .c (.slice [] 0 true (some 0)), .c (.slice [] 0 true (some 0))]) := by kernel_rfl
theorem bd125_0 (a0 : IV) : buildA Try.prog 125 [(0, .c a0)] = some (.agg [.c a0, .c (.slice [] 0 true (some 0))]) := by kernel_rfl
theorem fa128_6 (x : AV) : fieldAddrA Try.prog 128 x 6 = addrPlus x 9 := by kernel_rfl
theorem dr44_10 : drawFact Try.f44 10 [0, 1, 3, 7, 0, 16, 63, 127, 255] = true := by kernel_rfl
theorem dr44_11 : drawFact Try.f44 11 [0, 0, 2, 0, 8, 24, 56, 0, 128, 504, 1016, 2047] = true := by kernel_rfl
theorem fa125_1 (x : AV) : fieldAddrA Try.prog 125 x 1 = addrPlus x 1 := by kernel_rfl
theorem ag64 : isAggT Try.prog 64 = some false := by kernel_rfl
theorem sz64 : sizeT Try.prog 64 = some 1 := by kernel_rfl
theorem ldp64 (H : Heap) (id off : Nat) : loadA Try.prog H 64 (.ptr id off) = cellAt H[id]? off := by kernel_rfl
theorem ldi64 (H : Heap) (cells : List IV) (off : Nat) : loadA Try.prog H 64 (.c (.iptr cells off)) = (cells[off]?).map .c := by kernel_rfl
theorem lde64 (H : Heap) (id off ext : Nat) : loadA Try.prog H 64 (.eptr id off ext) = (rowOf H id ext).bind fun r => (r.2[off]?).map .c := by kernel_rfl
theorem dr44_12 : drawFact Try.f44 12 [0, 1, 0, 4, 0, 16, 48, 112, 240, 508, 1023, 0, 4095] = true := by kernel_rfl
theorem al34 (H : Heap) : allocA Try.prog H 34 = some (.ptr H.length 0, H ++ [.cells 34 [.c (.int .i64 0), .c (.int .i64 0), .c (.int .i64 0), .c (.int .i64 0), .c (.int .i64 0)]]) := by kernel_rfl
theorem fa128_1 (x : AV) : fieldAddrA Try.prog 128 x 1 = addrPlus x 4 := by kernel_rfl
theorem fa125_0 (x : AV) : fieldAddrA Try.prog 125 x 0 = addrPlus x 0 := by kernel_rfl
theorem ag123 : isAggT Try.prog 123 = some false := by kernel_rfl
theorem sz123 : sizeT Try.prog 123 = some 1 := by kernel_rfl
theorem ldp123 (H : Heap) (id off : Nat) : loadA Try.prog H 123 (.ptr id off) = cellAt H[id]? off := by kernel_rfl
theorem ldi123 (H : Heap) (cells : List IV) (off : Nat) : loadA Try.prog H 123 (.c (.iptr cells off)) = (cells[off]?).map .c := by kernel_rfl
theorem lde123 (H : Heap) (id off ext : Nat) : loadA Try.prog H 123 (.eptr id off ext) = (rowOf H id ext).bind fun r => (r.2[off]?).map .c := by kernel_rfl
theorem fa128_2 (x : AV) : fieldAddrA Try.prog 128 x 2 = addrPlus x 5 := by kernel_rfl
theorem fa34_2 (x : AV) : fieldAddrA Try.prog 34 x 2 = addrPlus x 2 := by kernel_rfl
theorem dr44_18 : drawFact Try.f44 18 [0, 1, 3, 7, 0, 16, 48, 112, 0, 496, 1008, 2047, 4095, 8191] = true := by kernel_rfl
theorem fa128_3 (x : AV) : fieldAddrA Try.prog 128 x 3 = addrPlus x 6 := by kernel_rfl
theorem fa34_3 (x : AV) : fieldAddrA Try.prog 34 x 3 = addrPlus x 3 := by kernel_rfl
theorem dr44_20 : drawFact Try.f44 20 [0, 1, 3, 7, 0, 16, 48, 112, 0, 496, 1008, 2047, 4095, 8191] = true := by kernel_rfl
theorem bd62_0_1 (a0 a1 : IV) : buildA Try.prog 62 [(0, .c a0), (1, .c a1)] = some (.agg [.c a0, .c a1]) := by kernel_rfl
theorem dr44_21 : drawFact Try.f44 21 [0, 1, 3, 7, 0, 31, 63, 0, 128, 384, 896, 0, 3968, 8064, 16383, 0] = true := by kernel_rfl
theorem dr44_25 : drawFact Try.f44 25 [0, 1, 3, 7, 0, 16, 48, 112, 0, 496, 1023, 2047] = true := by kernel_rfl
theorem fa128_4 (x : AV) : fieldAddrA Try.prog 128 x 4 = addrPlus x 7 := by kernel_rfl
theorem fa34_1 (x : AV) : fieldAddrA Try.prog 34 x 1 = addrPlus x 1 := by kernel_rfl
theorem bs22_1_0 (H : Heap) (a0 a1 a2 a3 a4 : IV) : buildSliceA Try.prog H 22 1 [(0, .agg [.c a0, .c a1, .c a2, .c a3, .c a4])] = some (.hsl H.length 0 1 (1 * 5) 5, H ++ [.row false 34 [a0, a1, a2, a3, a4]]) := by kernel_rfl
theorem fa128_5 (x : AV) : fieldAddrA Try.prog 128 x 5 = addrPlus x 8 := by kernel_rfl
theorem dr44_34 : drawFact Try.f44 34 [0, 1, 0, 4, 12, 28, 0, 124, 252, 511, 1023, 2047] = true := by kernel_rfl
theorem ev49 (k : Nat) (x0 : AV) (H : Heap) : evalT Try.prog (mkHints tab) (k + 1) (.fn 49) [x0] H = trimO H.length (finishO Try.prog Try.f49.results.toList (evalCode Try.prog (cxG Try.prog (mkHints tab) k 49 none) (Try.f49.body.getD .skip) (fillArgs (fr 108 []) 0 [x0]) H)) := by
  have h := evalT_fn 108 Try.func49 rfl (by decide) rfl (P := Try.prog) (h := mkHints tab) (k := k) (args := [x0]) (H := H)
  rw [show (mkHints tab).slots 49 = 0 from rfl, show (List.replicate 0 AObj.slot) = [] from rfl, List.append_nil] at h
  exact h
theorem fsl49_1_1 : fslotB tab.fslots 49 1 1 = [] := by rfl
theorem kb49_1_1 : keepB tab.keeps 49 1 1 = false := by rfl
theorem dr49_16 : drawFact Try.f49 16 [0, 1, 3, 7, 0, 16, 48, 112, 0, 496, 1008, 2047, 4095, 0, 16383] = true := by kernel_rfl
theorem dr49_18 : drawFact Try.f49 18 [0, 1, 3, 7, 0, 31, 63, 0, 128, 384, 896, 0, 3968, 8064, 16383, 32767, 65535, 131071, 262143, 524287, 65535, 1114111, 3211263, 7405567, 65535, 32571391, 66125823, 134217727, 268435455, 65535, 1073741823, 2147483647] = true := by kernel_rfl
theorem ev50 (k : Nat) (x0 : AV) (H : Heap) : evalT Try.prog (mkHints tab) (k + 1) (.fn 50) [x0] H = trimO H.length (finishO Try.prog Try.f50.results.toList (evalCode Try.prog (cxG Try.prog (mkHints tab) k 50 none) (Try.f50.body.getD .skip) (fillArgs (fr 23 []) 0 [x0]) H)) := by
  have h := evalT_fn 23 Try.func50 rfl (by decide) rfl (P := Try.prog) (h := mkHints tab) (k := k) (args := [x0]) (H := H)
  rw [show (mkHints tab).slots 50 = 0 from rfl, show (List.replicate 0 AObj.slot) = [] from rfl, List.append_nil] at h
  exact h
theorem ev51 (k : Nat) (x0 : AV) (H : Heap) : evalT Try.prog (mkHints tab) (k + 1) (.fn 51) [x0] H = trimO H.length (finishO Try.prog Try.f51.results.toList (evalCode Try.prog (cxG Try.prog (mkHints tab) k 51 none) (Try.f51.body.getD .skip) (fillArgs (fr 190 []) 0 [x0]) (H ++ [.slot, .slot]))) := evalT_fn 190 Try.func51 rfl (by decide) rfl
theorem fsl51_1_1 : fslotB tab.fslots 51 1 1 = [] := by rfl
theorem kb51_1_1 : keepB tab.keeps 51 1 1 = false := by rfl
theorem fsl51_7_4 : fslotB tab.fslots 51 7 4 = [] := by rfl
theorem kb51_7_4 : keepB tab.keeps 51 7 4 = false := by rfl
theorem sb51_8_6 : slotB tab.slots 51 8 6 = none := by rfl
theorem fsl51_9_2 : fslotB tab.fslots 51 9 2 = [] := by rfl
theorem kb51_9_2 : keepB tab.keeps 51 9 2 = false := by rfl
theorem sb51_10_5 : slotB tab.slots 51 10 5 = none := by rfl
theorem fsl51_17_1 : fslotB tab.fslots 51 17 1 = [] := by rfl
theorem kb51_17_1 : keepB tab.keeps 51 17 1 = false := by rfl
theorem fsl51_18_10 : fslotB tab.fslots 51 18 10 = [] := by rfl
theorem kb51_18_10 : keepB tab.keeps 51 18 10 = false := by rfl
theorem fsl51_18_11 : fslotB tab.fslots 51 18 11 = [] := by rfl
theorem kb51_18_11 : keepB tab.keeps 51 18 11 = false := by rfl
theorem fsl51_20_6 : fslotB tab.fslots 51 20 6 = [] := by rfl
theorem kb51_20_6 : keepB tab.keeps 51 20 6 = false := by rfl
theorem fsl51_20_7 : fslotB tab.fslots 51 20 7 = [] := by rfl
theorem kb51_20_7 : keepB tab.keeps 51 20 7 = false := by rfl
theorem fsl51_25_7 : fslotB tab.fslots 51 25 7 = [] := by rfl
theorem kb51_25_7 : keepB tab.keeps 51 25 7 = false := by rfl
theorem sb51_26_6 : slotB tab.slots 51 26 6 = none := by rfl
theorem sb51_40_5 : slotB tab.slots 51 40 5 = none := by rfl
theorem sb51_43_4 : slotB tab.slots 51 43 4 = some 0 := by rfl
theorem fsl51_47_13 : fslotB tab.fslots 51 47 13 = [] := by rfl
theorem kb51_47_13 : keepB tab.keeps 51 47 13 = false := by rfl
theorem fsl51_47_14 : fslotB tab.fslots 51 47 14 = [] := by rfl
theorem kb51_47_14 : keepB tab.keeps 51 47 14 = false := by rfl
theorem sb51_47_16 : slotB tab.slots 51 47 16 = some 1 := by rfl
theorem bd134_0_1 (a0 a1 : IV) : buildA Try.prog 134 [(0, .c a0), (1, .c a1)] = some (.agg [.c a0, .c a1]) := by kernel_rfl
theorem bs131_1_0 (H : Heap) (a0 a1 : IV) : buildSliceA Try.prog H 131 1 [(0, .agg [.c a0, .c a1])] = some (.hsl H.length 0 1 (1 * 2) 2, H ++ [.row false 134 [a0, a1]]) := by kernel_rfl
theorem ap131 (H : Heap) (sl : Option Nat) (s x : AV) : appendA Try.prog H sl 131 s x = apO 134 2 16 sl s H (srcOf H 2 x) := by kernel_rfl
theorem fa34_0 (x : AV) : fieldAddrA Try.prog 34 x 0 = addrPlus x 0 := by kernel_rfl
theorem fa34_4 (x : AV) : fieldAddrA Try.prog 34 x 4 = addrPlus x 4 := by kernel_rfl
theorem bd34_0_4_2 (a0 a1 a2 : IV) : buildA Try.prog 34 [(0, .c a0), (4, .c a1), (2, .c a2)] = some (.agg [.c a0, .c (.int .i64 0), .c a2, .c (.int .i64 0), .c a1]) := by kernel_rfl
theorem dr51_18 : drawFact Try.f51 18 [0, 1, 0, 4, 0, 0, 0, 0, 0, 256, 992, 2032, 4095, 0, 16383] = true := by kernel_rfl
theorem ln131 (cells : List IV) (n : Nat) (nl : Bool) (cap : Option Nat) : lenA Try.prog 131 (.c (.slice cells n nl cap)) = some (.c (.int .i64 n)) := by kernel_rfl
theorem lnv131 (s n sz : Nat) : lenA Try.prog 131 (lv s sz n) = some (.c (.int .i64 n)) := by
  unfold lv; split
  · rename_i h; subst h; kernel_rfl
  · kernel_rfl
theorem lnh131 (id off n ext sz : Nat) : lenA Try.prog 131 (.hsl id off n ext sz) = some (.c (.int .i64 n)) := by kernel_rfl
theorem ag134 : isAggT Try.prog 134 = some true := by kernel_rfl
theorem sz134 : sizeT Try.prog 134 = some 2 := by kernel_rfl
theorem ia131 (H : Heap) (cells : List IV) (len : Nat) (nl : Bool) (cap : Option Nat) (k : IntKind) (i : Int) : indexAddrA Try.prog H 131 (.c (.slice cells len nl cap)) (.c (.int k i)) = if 0 ≤ i ∧ i < len then some (.c (.iptr cells (i.toNat * 2))) else none := by kernel_rfl
theorem iah131 (H : Heap) (id off len ext sz : Nat) (k : IntKind) (i : Int) : indexAddrA Try.prog H 131 (.hsl id off len ext sz) (.c (.int k i)) = if 0 ≤ i ∧ i < len ∧ sz = 2 ∧ (rowOf H id ext).isSome = true then some (.eptr id (off + i.toNat * 2) ext) else none := by kernel_rfl
theorem fa134_0 (x : AV) : fieldAddrA Try.prog 134 x 0 = addrPlus x 0 := by kernel_rfl
theorem dr51_25 : drawFact Try.f51 25 [0, 0, 0, 0, 12, 28, 60, 127, 0, 511] = true := by kernel_rfl
theorem ldp134 (H : Heap) (id off : Nat) : loadA Try.prog H 134 (.ptr id off) = cellsAt H[id]? off 2 := by kernel_rfl
theorem ldi134 (H : Heap) (cells : List IV) (off : Nat) : loadA Try.prog H 134 (.c (.iptr cells off)) = (takeCells cells off 2).map fun l => .agg (l.map .c) := by kernel_rfl
theorem lde134 (H : Heap) (id off ext : Nat) : loadA Try.prog H 134 (.eptr id off ext) = (rowOf H id ext).bind fun r => (takeCells r.2 off 2).map fun l => .agg (l.map .c) := by kernel_rfl
theorem fa134_1 (x : AV) : fieldAddrA Try.prog 134 x 1 = addrPlus x 1 := by kernel_rfl
theorem dr51_47 : drawFact Try.f51 47 [0, 1, 0, 0, 0, 0, 32, 96, 0, 256, 0, 1792, 3840, 8184, 16380, 32764, 65535, 131071, 262143] = true := by kernel_rfl
theorem ev52 (k : Nat) (x0 : AV) (H : Heap) : evalT Try.prog (mkHints tab) (k + 1) (.fn 52) [x0] H = trimO H.length (finishO Try.prog Try.f52.results.toList (evalCode Try.prog (cxG Try.prog (mkHints tab) k 52 none) (Try.f52.body.getD .skip) (fillArgs (fr 76 []) 0 [x0]) H)) := by
  have h := evalT_fn 76 Try.func52 rfl (by decide) rfl (P := Try.prog) (h := mkHints tab) (k := k) (args := [x0]) (H := H)
  rw [show (mkHints tab).slots 52 = 0 from rfl, show (List.replicate 0 AObj.slot) = [] from rfl, List.append_nil] at h
  exact h
theorem fsl52_1_1 : fslotB tab.fslots 52 1 1 = [] := by rfl
theorem kb52_1_1 : keepB tab.keeps 52 1 1 = false := by rfl
theorem fsl52_8_2 : fslotB tab.fslots 52 8 2 = [] := by rfl
theorem kb52_8_2 : keepB tab.keeps 52 8 2 = false := by rfl
theorem fsl52_13_4 : fslotB tab.fslots 52 13 4 = [] := by rfl
theorem kb52_13_4 : keepB tab.keeps 52 13 4 = false := by rfl
theorem fsl52_18_8 : fslotB tab.fslots 52 18 8 = [] := by rfl
theorem kb52_18_8 : keepB tab.keeps 52 18 8 = false := by rfl
theorem ev53 (k : Nat) (x0 : AV) (H : Heap) : evalT Try.prog (mkHints tab) (k + 1) (.fn 53) [x0] H = trimO H.length (finishO Try.prog Try.f53.results.toList (evalCode Try.prog (cxG Try.prog (mkHints tab) k 53 none) (Try.f53.body.getD .skip) (fillArgs (fr 99 []) 0 [x0]) H)) := by
  have h := evalT_fn 99 Try.func53 rfl (by decide) rfl (P := Try.prog) (h := mkHints tab) (k := k) (args := [x0]) (H := H)
  rw [show (mkHints tab).slots 53 = 0 from rfl, show (List.replicate 0 AObj.slot) = [] from rfl, List.append_nil] at h
  exact h
theorem sb53_1_3 : slotB tab.slots 53 1 3 = none := by rfl
theorem fsl53_10_5 : fslotB tab.fslots 53 10 5 = [] := by rfl
theorem kb53_10_5 : keepB tab.keeps 53 10 5 = false := by rfl
theorem ms64 (H : Heap) (l c : Int) : makeSliceA Try.prog H none 64 (.c (.int .i64 l)) (.c (.int .i64 c)) = if 0 ≤ l ∧ l = c ∧ c.toNat * 1 ≤ roomBytes ∧ c.toNat ≤ roomBytes ∧ 1 = 1 ∧ 0 < 1 then some (.hsl H.length 0 l.toNat (c.toNat * 1) 1, H ++ [.row false 4 ((List.replicate c.toNat [.bool false]).flatten)]) else none := by kernel_rfl
theorem ev54 (k : Nat) (x0 : AV) (H : Heap) : evalT Try.prog (mkHints tab) (k + 1) (.fn 54) [x0] H = trimO H.length (finishO Try.prog Try.f54.results.toList (evalCode Try.prog (cxG Try.prog (mkHints tab) k 54 none) (Try.f54.body.getD .skip) (fillArgs (fr 37 []) 0 [x0]) H)) := by
  have h := evalT_fn 37 Try.func54 rfl (by decide) rfl (P := Try.prog) (h := mkHints tab) (k := k) (args := [x0]) (H := H)
  rw [show (mkHints tab).slots 54 = 0 from rfl, show (List.replicate 0 AObj.slot) = [] from rfl, List.append_nil] at h
  exact h
theorem cap22 (H : Heap) (id off n ext sz : Nat) : capA Try.prog H 22 (.hsl id off n ext sz) = if (rowOf H id ext).isSome = true then some (.cw true id off ext sz) else none := by kernel_rfl
theorem capc22 (H : Heap) (cells : List IV) (n k : Nat) (nl : Bool) : capA Try.prog H 22 (.c (.slice cells n nl (some k))) = some (.c (.int .i64 k)) := by kernel_rfl
theorem sl22 (H : Heap) (x : AV) (lo hi : Option AV) : sliceA Try.prog H 22 x lo hi none = sliceO H 5 x lo hi := by kernel_rfl
theorem cap23 (H : Heap) (id off n ext sz : Nat) : capA Try.prog H 23 (.hsl id off n ext sz) = if (rowOf H id ext).isSome = true then some (.cw true id off ext sz) else none := by kernel_rfl
theorem capc23 (H : Heap) (cells : List IV) (n k : Nat) (nl : Bool) : capA Try.prog H 23 (.c (.slice cells n nl (some k))) = some (.c (.int .i64 k)) := by kernel_rfl
theorem sl23 (H : Heap) (x : AV) (lo hi : Option AV) : sliceA Try.prog H 23 x lo hi none = sliceO H 1 x lo hi := by kernel_rfl
theorem dr54_1 : drawFact Try.f54 1 [0, 1, 0, 4, 12, 31, 0, 64, 0, 256, 768, 1984, 63, 8191] = true := by kernel_rfl
theorem bd34_0 (a0 : IV) : buildA Try.prog 34 [(0, .c a0)] = some (.agg [.c a0, .c (.int .i64 0), .c (.int .i64 0), .c (.int .i64 0), .c (.int .i64 0)]) := by kernel_rfl
theorem ev67 (k : Nat) (x0 : AV) (H : Heap) : evalT Try.prog (mkHints tab) (k + 1) (.fn 67) [x0] H = trimO H.length (finishO Try.prog Try.f67.results.toList (evalCode Try.prog (cxG Try.prog (mkHints tab) k 67 none) (Try.f67.body.getD .skip) (fillArgs (fr 79 []) 0 [x0]) H)) := by
  have h := evalT_fn 79 Try.func67 rfl (by decide) rfl (P := Try.prog) (h := mkHints tab) (k := k) (args := [x0]) (H := H)
  rw [show (mkHints tab).slots 67 = 0 from rfl, show (List.replicate 0 AObj.slot) = [] from rfl, List.append_nil] at h
  exact h
theorem fsl67_11_7 : fslotB tab.fslots 67 11 7 = [] := by rfl
theorem kb67_11_7 : keepB tab.keeps 67 11 7 = false := by rfl
theorem dr67_6 : drawFact Try.f67 6 [0, 1, 0, 7, 15, 31, 63, 127, 255, 127, 1023, 2047, 127, 4223, 16383, 32767] = true := by kernel_rfl
theorem dr67_11 : drawFact Try.f67 11 [0, 1, 0, 7, 15, 0, 32, 127, 255] = true := by kernel_rfl
theorem ev79 (k : Nat) (x0 : AV) (H : Heap) : evalT Try.prog (mkHints tab) (k + 1) (.fn 79) [x0] H = trimO H.length (finishO Try.prog Try.f79.results.toList (evalCode Try.prog (cxG Try.prog (mkHints tab) k 79 none) (Try.f79.body.getD .skip) (fillArgs (fr 23 []) 0 [x0]) H)) := by
  have h := evalT_fn 23 Try.func79 rfl (by decide) rfl (P := Try.prog) (h := mkHints tab) (k := k) (args := [x0]) (H := H)
  rw [show (mkHints tab).slots 79 = 0 from rfl, show (List.replicate 0 AObj.slot) = [] from rfl, List.append_nil] at h
  exact h
theorem bs23_2_0_1 (H : Heap) (a0 a1 : IV) : buildSliceA Try.prog H 23 2 [(0, .c a0), (1, .c a1)] = some (.hsl H.length 0 2 (2 * 1) 1, H ++ [.row false 3 [a0, a1]]) := by kernel_rfl
theorem ev82 (k : Nat) (x0 : AV) (H : Heap) : evalT Try.prog (mkHints tab) (k + 1) (.fn 82) [x0] H = trimO H.length (finishO Try.prog Try.f82.results.toList (evalCode Try.prog (cxG Try.prog (mkHints tab) k 82 none) (Try.f82.body.getD .skip) (fillArgs (fr 203 []) 0 [x0]) (H ++ [.slot, .slot, .slot, .slot, .slot]))) := evalT_fn 203 Try.func82 rfl (by decide) rfl
theorem fsl82_1_1 : fslotB tab.fslots 82 1 1 = [] := by rfl
theorem kb82_1_1 : keepB tab.keeps 82 1 1 = false := by rfl
theorem sb82_5_3 : slotB tab.slots 82 5 3 = some 2 := by rfl
theorem sb82_5_5 : slotB tab.slots 82 5 5 = some 3 := by rfl
theorem sb82_5_7 : slotB tab.slots 82 5 7 = some 4 := by rfl
theorem sb82_6_2 : slotB tab.slots 82 6 2 = none := by rfl
theorem fsl82_10_4 : fslotB tab.fslots 82 10 4 = [] := by rfl
theorem kb82_10_4 : keepB tab.keeps 82 10 4 = false := by rfl
theorem sb82_14_6 : slotB tab.slots 82 14 6 = some 0 := by rfl
theorem fsl82_21_1 : fslotB tab.fslots 82 21 1 = [] := by rfl
theorem kb82_21_1 : keepB tab.keeps 82 21 1 = false := by rfl
theorem sb82_25_6 : slotB tab.slots 82 25 6 = some 0 := by rfl
theorem sb82_30_10 : slotB tab.slots 82 30 10 = some 1 := by rfl
theorem ms23 (H : Heap) (l c : Int) : makeSliceA Try.prog H none 23 (.c (.int .i64 l)) (.c (.int .i64 c)) = if 0 ≤ l ∧ l = c ∧ c.toNat * 8 ≤ roomBytes ∧ c.toNat ≤ roomBytes ∧ 1 = 1 ∧ 0 < 1 then some (.hsl H.length 0 l.toNat (c.toNat * 1) 1, H ++ [.row false 3 ((List.replicate c.toNat [.int .i64 0]).flatten)]) else none := by kernel_rfl
theorem bd128_0_1_2_3_4 (a0 a1 a2 a3 a4 a5 a6 a7 : IV) : buildA Try.prog 128 [(0, .agg [.c a0, .c a1, .c a2, .c a3]), (1, .c a4), (2, .c a5), (3, .c a6), (4, .c a7)] = some (.agg [.c a0, .c a1, .c a2, .c a3, .c a4, .c a5, .c a6, .c a7, .c (.slice [] 0 true (some 0)), .c (.slice [] 0 true (some 0))]) := by kernel_rfl
theorem dr82_5 : drawFact Try.f82 5 [0, 0, 0, 4, 0, 16, 0, 64, 255, 511, 1023] = true := by kernel_rfl
theorem dr82_20 : drawFact Try.f82 20 [0, 1, 3, 7, 0, 0, 32, 96, 224, 0, 0, 0, 2048, 7168, 15360, 0, 0, 65536, 229376, 491520, 1048063, 2096639, 4194303, 8388607] = true := by kernel_rfl
theorem dr82_22 : drawFact Try.f82 22 [0, 1, 3, 7, 0, 0, 0, 64, 224, 480, 1023, 2047] = true := by kernel_rfl
theorem dr82_23 : drawFact Try.f82 23 [0, 1, 3, 7, 0, 16, 48, 112, 0, 496, 1008, 0, 2048, 6144, 14336, 0, 32768, 98304, 229376, 0, 1015808, 2064384, 0, 0, 8388607, 25165823, 67108863, 134217727] = true := by kernel_rfl
theorem dr82_24 : drawFact Try.f82 24 [0, 1, 3, 7, 0, 0, 0, 64, 0, 256, 768, 1792, 3840, 0, 8192, 24576, 57344, 122880, 130847, 392991, 1048575, 2097151] = true := by kernel_rfl
theorem dr82_30 : drawFact Try.f82 30 [0, 0, 2, 6, 14, 0, 0, 96, 224, 480, 1022, 2047, 4095, 8191] = true := by kernel_rfl
theorem dr82_31 : drawFact Try.f82 31 [0, 1, 3, 7, 0, 0, 48, 112, 0, 511, 1023] = true := by kernel_rfl
theorem ev83 (k : Nat) (x0 x1 x2 : AV) (H : Heap) : evalT Try.prog (mkHints tab) (k + 1) (.fn 83) [x0, x1, x2] H = trimO H.length (finishO Try.prog Try.f83.results.toList (evalCode Try.prog (cxG Try.prog (mkHints tab) k 83 none) (Try.f83.body.getD .skip) (fillArgs (fr 27 []) 0 [x0, x1, x2]) (H ++ [.slot]))) := evalT_fn 27 Try.func83 rfl (by decide) rfl
theorem sb83_1_8 : slotB tab.slots 83 1 8 = some 2 := by rfl
theorem dr83_0 : drawFact Try.f83 0 [0, 1, 3, 7, 0, 0, 32, 96, 224, 480, 1023] = true := by kernel_rfl
theorem bs64_1_0 (H : Heap) (a0 : IV) : buildSliceA Try.prog H 64 1 [(0, .c a0)] = some (.hsl H.length 0 1 (1 * 1) 1, H ++ [.row false 4 [a0]]) := by kernel_rfl
theorem ap64 (H : Heap) (sl : Option Nat) (s x : AV) : appendA Try.prog H sl 64 s x = apO 4 1 1 sl s H (srcOf H 1 x) := by kernel_rfl
theorem ev84 (k : Nat) (x0 x1 : AV) (H : Heap) : evalT Try.prog (mkHints tab) (k + 1) (.fn 84) [x0, x1] H = trimO H.length (finishO Try.prog Try.f84.results.toList (evalCode Try.prog (cxG Try.prog (mkHints tab) k 84 none) (Try.f84.body.getD .skip) (fillArgs (fr 60 []) 0 [x0, x1]) H)) := by
  have h := evalT_fn 60 Try.func84 rfl (by decide) rfl (P := Try.prog) (h := mkHints tab) (k := k) (args := [x0, x1]) (H := H)
  rw [show (mkHints tab).slots 84 = 0 from rfl, show (List.replicate 0 AObj.slot) = [] from rfl, List.append_nil] at h
  exact h
theorem sb84_9_6 : slotB tab.slots 84 9 6 = none := by rfl
theorem dr84_5 : drawFact Try.f84 5 [0, 1, 3, 7, 0, 0, 32, 96, 224, 0, 0, 511, 2559, 7679, 16383, 32767] = true := by kernel_rfl
theorem dr84_8 : drawFact Try.f84 8 [0, 1, 3, 7, 0, 0, 32, 96, 224, 480, 1023] = true := by kernel_rfl
theorem ev81 (k : Nat) (x0 : AV) (H : Heap) : evalT Try.prog (mkHints tab) (k + 1) (.fn 81) [x0] H = trimO H.length (finishO Try.prog Try.f81.results.toList (evalCode Try.prog (cxG Try.prog (mkHints tab) k 81 none) (Try.f81.body.getD .skip) (fillArgs (fr 27 []) 0 [x0]) H)) := by
  have h := evalT_fn 27 Try.func81 rfl (by decide) rfl (P := Try.prog) (h := mkHints tab) (k := k) (args := [x0]) (H := H)
  rw [show (mkHints tab).slots 81 = 0 from rfl, show (List.replicate 0 AObj.slot) = [] from rfl, List.append_nil] at h
  exact h
theorem ev88 (k : Nat) (x0 x1 x2 : AV) (H : Heap) : evalT Try.prog (mkHints tab) (k + 1) (.fn 88) [x0, x1, x2] H = trimO H.length (finishO Try.prog Try.f88.results.toList (evalCode Try.prog (cxG Try.prog (mkHints tab) k 88 none) (Try.f88.body.getD .skip) (fillArgs (fr 69 []) 0 [x0, x1, x2]) H)) := by
  have h := evalT_fn 69 Try.func88 rfl (by decide) rfl (P := Try.prog) (h := mkHints tab) (k := k) (args := [x0, x1, x2]) (H := H)
  rw [show (mkHints tab).slots 88 = 0 from rfl, show (List.replicate 0 AObj.slot) = [] from rfl, List.append_nil] at h
  exact h
theorem fsl88_5_8 : fslotB tab.fslots 88 5 8 = [] := by rfl
theorem kb88_5_8 : keepB tab.keeps 88 5 8 = false := by rfl
theorem fsl88_10_5 : fslotB tab.fslots 88 10 5 = [] := by rfl
theorem kb88_10_5 : keepB tab.keeps 88 10 5 = false := by rfl
theorem fsl88_14_7 : fslotB tab.fslots 88 14 7 = [] := by rfl
theorem kb88_14_7 : keepB tab.keeps 88 14 7 = false := by rfl
theorem dr88_5 : drawFact Try.f88 5 [0, 0, 0, 0, 8, 0, 56, 120, 255, 0, 1023] = true := by kernel_rfl
theorem dr88_14 : drawFact Try.f88 14 [0, 0, 0, 0, 0, 24, 56, 127, 0, 511] = true := by kernel_rfl
theorem ev89 (k : Nat) (x0 x1 : AV) (H : Heap) : evalT Try.prog (mkHints tab) (k + 1) (.fn 89) [x0, x1] H = trimO H.length (finishO Try.prog Try.f89.results.toList (evalCode Try.prog (cxG Try.prog (mkHints tab) k 89 none) (Try.f89.body.getD .skip) (fillArgs (fr 24 []) 0 [x0, x1]) H)) := by
  have h := evalT_fn 24 Try.func89 rfl (by decide) rfl (P := Try.prog) (h := mkHints tab) (k := k) (args := [x0, x1]) (H := H)
  rw [show (mkHints tab).slots 89 = 0 from rfl, show (List.replicate 0 AObj.slot) = [] from rfl, List.append_nil] at h
  exact h
theorem ev90 (k : Nat) (x0 x1 x2 x3 : AV) (H : Heap) : evalT Try.prog (mkHints tab) (k + 1) (.fn 90) [x0, x1, x2, x3] H = trimO H.length (finishO Try.prog Try.f90.results.toList (evalCode Try.prog (cxG Try.prog (mkHints tab) k 90 none) (Try.f90.body.getD .skip) (fillArgs (fr 37 []) 0 [x0, x1, x2, x3]) H)) := by
  have h := evalT_fn 37 Try.func90 rfl (by decide) rfl (P := Try.prog) (h := mkHints tab) (k := k) (args := [x0, x1, x2, x3]) (H := H)
  rw [show (mkHints tab).slots 90 = 0 from rfl, show (List.replicate 0 AObj.slot) = [] from rfl, List.append_nil] at h
  exact h
theorem ev102 (k : Nat) (x0 x1 : AV) (H : Heap) : evalT Try.prog (mkHints tab) (k + 1) (.fn 102) [x0, x1] H = trimO H.length (finishO Try.prog Try.f102.results.toList (evalCode Try.prog (cxG Try.prog (mkHints tab) k 102 none) (Try.f102.body.getD .skip) (fillArgs (fr 100 []) 0 [x0, x1]) H)) := by
  have h := evalT_fn 100 Try.func102 rfl (by decide) rfl (P := Try.prog) (h := mkHints tab) (k := k) (args := [x0, x1]) (H := H)
  rw [show (mkHints tab).slots 102 = 0 from rfl, show (List.replicate 0 AObj.slot) = [] from rfl, List.append_nil] at h
  exact h
theorem ev46 (k : Nat) (x0 : AV) (H : Heap) : evalT Try.prog (mkHints tab) (k + 1) (.fn 46) [x0] H = trimO H.length (finishO Try.prog Try.f46.results.toList (evalCode Try.prog (cxG Try.prog (mkHints tab) k 46 none) (Try.f46.body.getD .skip) (fillArgs (fr 62 []) 0 [x0]) H)) := by
  have h := evalT_fn 62 Try.func46 rfl (by decide) rfl (P := Try.prog) (h := mkHints tab) (k := k) (args := [x0]) (H := H)
  rw [show (mkHints tab).slots 46 = 0 from rfl, show (List.replicate 0 AObj.slot) = [] from rfl, List.append_nil] at h
  exact h
theorem fsl46_1_1 : fslotB tab.fslots 46 1 1 = [] := by rfl
theorem kb46_1_1 : keepB tab.keeps 46 1 1 = false := by rfl
theorem sb46_3_3 : slotB tab.slots 46 3 3 = none := by rfl
theorem sb46_4_2 : slotB tab.slots 46 4 2 = none := by rfl
theorem fsl46_10_1 : fslotB tab.fslots 46 10 1 = [] := by rfl
theorem kb46_10_1 : keepB tab.keeps 46 10 1 = false := by rfl
theorem fsl46_15_1 : fslotB tab.fslots 46 15 1 = [] := by rfl
theorem kb46_15_1 : keepB tab.keeps 46 15 1 = false := by rfl
theorem rae46_11 (cx : Cx) (F : Fr) (H : Heap) : evalCode Try.prog cx RA46_11 F H = evalCode Try.prog cx (rfAs Try.f46 11) F H := rfl
theorem rbe46_11 (cx : Cx) (F : Fr) (H : Heap) : evalCode Try.prog cx RB46_11 F H = evalCode Try.prog cx (rfBd Try.f46 11) F H := rfl
theorem al64 (H : Heap) : allocA Try.prog H 64 = some (.ptr H.length 0, H ++ [.cells 64 [.c (.slice [] 0 true (some 0))]]) := by kernel_rfl
theorem dr46_14 : drawFact Try.f46 14 [0, 0, 0, 0, 8, 3, 35, 127, 255] = true := by kernel_rfl
theorem ev112 (k : Nat) (x0 x1 : AV) (H : Heap) : evalT Try.prog (mkHints tab) (k + 1) (.fn 112) [x0, x1] H = trimO H.length (finishO Try.prog Try.f112.results.toList (evalCode Try.prog (cxG Try.prog (mkHints tab) k 112 none) (Try.f112.body.getD .skip) (fillArgs (fr 9 []) 0 [x0, x1]) H)) := by
  have h := evalT_fn 9 Try.func112 rfl (by decide) rfl (P := Try.prog) (h := mkHints tab) (k := k) (args := [x0, x1]) (H := H)
  rw [show (mkHints tab).slots 112 = 0 from rfl, show (List.replicate 0 AObj.slot) = [] from rfl, List.append_nil] at h
  exact h
theorem ev78 (k : Nat) (x0 : AV) (H : Heap) : evalT Try.prog (mkHints tab) (k + 1) (.fn 78) [x0] H = trimO H.length (finishO Try.prog Try.f78.results.toList (evalCode Try.prog (cxG Try.prog (mkHints tab) k 78 none) (Try.f78.body.getD .skip) (fillArgs (fr 4 []) 0 [x0]) H)) := by
  have h := evalT_fn 4 Try.func78 rfl (by decide) rfl (P := Try.prog) (h := mkHints tab) (k := k) (args := [x0]) (H := H)
  rw [show (mkHints tab).slots 78 = 0 from rfl, show (List.replicate 0 AObj.slot) = [] from rfl, List.append_nil] at h
  exact h
theorem ev85 (k : Nat) (x0 : AV) (H : Heap) : evalT Try.prog (mkHints tab) (k + 1) (.fn 85) [x0] H = trimO H.length (finishO Try.prog Try.f85.results.toList (evalCode Try.prog (cxG Try.prog (mkHints tab) k 85 none) (Try.f85.body.getD .skip) (fillArgs (fr 12 []) 0 [x0]) H)) := by
  have h := evalT_fn 12 Try.func85 rfl (by decide) rfl (P := Try.prog) (h := mkHints tab) (k := k) (args := [x0]) (H := H)
  rw [show (mkHints tab).slots 85 = 0 from rfl, show (List.replicate 0 AObj.slot) = [] from rfl, List.append_nil] at h
  exact h
theorem fsl85_1_1 : fslotB tab.fslots 85 1 1 = [] := by rfl
theorem kb85_1_1 : keepB tab.keeps 85 1 1 = false := by rfl
theorem ev110 (k : Nat) (x0 x1 : AV) (H : Heap) : evalT Try.prog (mkHints tab) (k + 1) (.fn 110) [x0, x1] H = trimO H.length (finishO Try.prog Try.f110.results.toList (evalCode Try.prog (cxG Try.prog (mkHints tab) k 110 none) (Try.f110.body.getD .skip) (fillArgs (fr 18 []) 0 [x0, x1]) H)) := by
  have h := evalT_fn 18 Try.func110 rfl (by decide) rfl (P := Try.prog) (h := mkHints tab) (k := k) (args := [x0, x1]) (H := H)
  rw [show (mkHints tab).slots 110 = 0 from rfl, show (List.replicate 0 AObj.slot) = [] from rfl, List.append_nil] at h
  exact h
theorem fsl110_1_1 : fslotB tab.fslots 110 1 1 = [] := by rfl
theorem kb110_1_1 : keepB tab.keeps 110 1 1 = false := by rfl
theorem fsl110_2_2 : fslotB tab.fslots 110 2 2 = [] := by rfl
theorem kb110_2_2 : keepB tab.keeps 110 2 2 = false := by rfl
theorem fsl110_5_3 : fslotB tab.fslots 110 5 3 = [] := by rfl
theorem kb110_5_3 : keepB tab.keeps 110 5 3 = false := by rfl
theorem rae110_3 (cx : Cx) (F : Fr) (H : Heap) : evalCode Try.prog cx RA110_3 F H = evalCode Try.prog cx (rfAs Try.f110 3) F H := rfl
theorem rbe110_3 (cx : Cx) (F : Fr) (H : Heap) : evalCode Try.prog cx RB110_3 F H = evalCode Try.prog cx (rfBd Try.f110 3) F H := rfl
theorem ag163 : isAggT Try.prog 163 = some false := by kernel_rfl
theorem sz163 : sizeT Try.prog 163 = some 1 := by kernel_rfl
theorem ldp163 (H : Heap) (id off : Nat) : loadA Try.prog H 163 (.ptr id off) = cellAt H[id]? off := by kernel_rfl
theorem ldi163 (H : Heap) (cells : List IV) (off : Nat) : loadA Try.prog H 163 (.c (.iptr cells off)) = (cells[off]?).map .c := by kernel_rfl
theorem lde163 (H : Heap) (id off ext : Nat) : loadA Try.prog H 163 (.eptr id off ext) = (rowOf H id ext).bind fun r => (r.2[off]?).map .c := by kernel_rfl
theorem ev62 (k : Nat) (x0 : AV) (H : Heap) : evalT Try.prog (mkHints tab) (k + 1) (.fn 62) [x0] H = trimO H.length (finishO Try.prog Try.f62.results.toList (evalCode Try.prog (cxG Try.prog (mkHints tab) k 62 none) (Try.f62.body.getD .skip) (fillArgs (fr 72 []) 0 [x0]) H)) := by
  have h := evalT_fn 72 Try.func62 rfl (by decide) rfl (P := Try.prog) (h := mkHints tab) (k := k) (args := [x0]) (H := H)
  rw [show (mkHints tab).slots 62 = 0 from rfl, show (List.replicate 0 AObj.slot) = [] from rfl, List.append_nil] at h
  exact h
theorem fsl62_12_3 : fslotB tab.fslots 62 12 3 = [] := by rfl
theorem kb62_12_3 : keepB tab.keeps 62 12 3 = false := by rfl
theorem ev111 (k : Nat) (x0 : AV) (H : Heap) : evalT Try.prog (mkHints tab) (k + 1) (.fn 111) [x0] H = trimO H.length (finishO Try.prog Try.f111.results.toList (evalCode Try.prog (cxG Try.prog (mkHints tab) k 111 none) (Try.f111.body.getD .skip) (fillArgs (fr 4 []) 0 [x0]) H)) := by
  have h := evalT_fn 4 Try.func111 rfl (by decide) rfl (P := Try.prog) (h := mkHints tab) (k := k) (args := [x0]) (H := H)
  rw [show (mkHints tab).slots 111 = 0 from rfl, show (List.replicate 0 AObj.slot) = [] from rfl, List.append_nil] at h
  exact h
theorem ev100 (k : Nat) (x0 x1 : AV) (H : Heap) : evalT Try.prog (mkHints tab) (k + 1) (.fn 100) [x0, x1] H = trimO H.length (finishO Try.prog Try.f100.results.toList (evalCode Try.prog (cxG Try.prog (mkHints tab) k 100 none) (Try.f100.body.getD .skip) (fillArgs (fr 57 []) 0 [x0, x1]) H)) := by
  have h := evalT_fn 57 Try.func100 rfl (by decide) rfl (P := Try.prog) (h := mkHints tab) (k := k) (args := [x0, x1]) (H := H)
  rw [show (mkHints tab).slots 100 = 0 from rfl, show (List.replicate 0 AObj.slot) = [] from rfl, List.append_nil] at h
  exact h
theorem fsl100_1_22 : fslotB tab.fslots 100 1 22 = [] := by rfl
theorem kb100_1_22 : keepB tab.keeps 100 1 22 = false := by rfl
theorem fsl100_1_32 : fslotB tab.fslots 100 1 32 = [] := by rfl
theorem kb100_1_32 : keepB tab.keeps 100 1 32 = false := by rfl
theorem fsl100_3_1 : fslotB tab.fslots 100 3 1 = [] := by rfl
theorem kb100_3_1 : keepB tab.keeps 100 3 1 = false := by rfl
theorem ev128 (k : Nat) (x0 x1 : AV) (H : Heap) : evalT Try.prog (mkHints tab) (k + 1) (.fn 128) [x0, x1] H = trimO H.length (finishO Try.prog Try.f128.results.toList (evalCode Try.prog (cxG Try.prog (mkHints tab) k 128 none) (Try.f128.body.getD .skip) (fillArgs (fr 19 []) 0 [x0, x1]) H)) := by
  have h := evalT_fn 19 Try.func128 rfl (by decide) rfl (P := Try.prog) (h := mkHints tab) (k := k) (args := [x0, x1]) (H := H)
  rw [show (mkHints tab).slots 128 = 0 from rfl, show (List.replicate 0 AObj.slot) = [] from rfl, List.append_nil] at h
  exact h
theorem fsl128_3_6 : fslotB tab.fslots 128 3 6 = [] := by rfl
theorem kb128_3_6 : keepB tab.keeps 128 3 6 = false := by rfl
theorem ev123 (k : Nat) (x0 : AV) (H : Heap) : evalT Try.prog (mkHints tab) (k + 1) (.fn 123) [x0] H = trimO H.length (finishO Try.prog Try.f123.results.toList (evalCode Try.prog (cxG Try.prog (mkHints tab) k 123 none) (Try.f123.body.getD .skip) (fillArgs (fr 9 []) 0 [x0]) H)) := by
  have h := evalT_fn 9 Try.func123 rfl (by decide) rfl (P := Try.prog) (h := mkHints tab) (k := k) (args := [x0]) (H := H)
  rw [show (mkHints tab).slots 123 = 0 from rfl, show (List.replicate 0 AObj.slot) = [] from rfl, List.append_nil] at h
  exact h
theorem ev124 (k : Nat) (x0 : AV) (H : Heap) : evalT Try.prog (mkHints tab) (k + 1) (.fn 124) [x0] H = trimO H.length (finishO Try.prog Try.f124.results.toList (evalCode Try.prog (cxG Try.prog (mkHints tab) k 124 none) (Try.f124.body.getD .skip) (fillArgs (fr 35 []) 0 [x0]) H)) := by
  have h := evalT_fn 35 Try.func124 rfl (by decide) rfl (P := Try.prog) (h := mkHints tab) (k := k) (args := [x0]) (H := H)
  rw [show (mkHints tab).slots 124 = 0 from rfl, show (List.replicate 0 AObj.slot) = [] from rfl, List.append_nil] at h
  exact h
theorem ev75 (k : Nat) (x0 : AV) (H : Heap) : evalT Try.prog (mkHints tab) (k + 1) (.fn 75) [x0] H = trimO H.length (finishO Try.prog Try.f75.results.toList (evalCode Try.prog (cxG Try.prog (mkHints tab) k 75 none) (Try.f75.body.getD .skip) (fillArgs (fr 58 []) 0 [x0]) H)) := by
  have h := evalT_fn 58 Try.func75 rfl (by decide) rfl (P := Try.prog) (h := mkHints tab) (k := k) (args := [x0]) (H := H)
  rw [show (mkHints tab).slots 75 = 0 from rfl, show (List.replicate 0 AObj.slot) = [] from rfl, List.append_nil] at h
  exact h
theorem sb75_1_2 : slotB tab.slots 75 1 2 = none := by rfl
theorem sb75_7_3 : slotB tab.slots 75 7 3 = none := by rfl
theorem fsl75_8_1 : fslotB tab.fslots 75 8 1 = [] := by rfl
theorem kb75_8_1 : keepB tab.keeps 75 8 1 = false := by rfl
theorem fsl75_14_1 : fslotB tab.fslots 75 14 1 = [] := by rfl
theorem kb75_14_1 : keepB tab.keeps 75 14 1 = false := by rfl
theorem rae75_9 (cx : Cx) (F : Fr) (H : Heap) : evalCode Try.prog cx RA75_9 F H = evalCode Try.prog cx (rfAs Try.f75 9) F H := rfl
theorem rbe75_9 (cx : Cx) (F : Fr) (H : Heap) : evalCode Try.prog cx RB75_9 F H = evalCode Try.prog cx (rfBd Try.f75 9) F H := rfl
theorem lbe10_20 (cx : Cx) (F : Fr) (H : Heap) : evalCode Try.prog cx LB10_20 F H = evalCode Try.prog cx (loopOf Try.f10 20) F H := rfl
theorem lbe20_4 (cx : Cx) (F : Fr) (H : Heap) : evalCode Try.prog cx LB20_4 F H = evalCode Try.prog cx (loopOf Try.f20 4) F H := rfl
theorem lbe20_9 (cx : Cx) (F : Fr) (H : Heap) : evalCode Try.prog cx LB20_9 F H = evalCode Try.prog cx (loopOf Try.f20 9) F H := rfl
theorem lbe44_6 (cx : Cx) (F : Fr) (H : Heap) : evalCode Try.prog cx LB44_6 F H = evalCode Try.prog cx (loopOf Try.f44 6) F H := rfl
theorem lbe44_14 (cx : Cx) (F : Fr) (H : Heap) : evalCode Try.prog cx LB44_14 F H = evalCode Try.prog cx (loopOf Try.f44 14) F H := rfl
theorem lbe44_22 (cx : Cx) (F : Fr) (H : Heap) : evalCode Try.prog cx LB44_22 F H = evalCode Try.prog cx (loopOf Try.f44 22) F H := rfl
theorem lbe44_32 (cx : Cx) (F : Fr) (H : Heap) : evalCode Try.prog cx LB44_32 F H = evalCode Try.prog cx (loopOf Try.f44 32) F H := rfl
theorem lbe46_6 (cx : Cx) (F : Fr) (H : Heap) : evalCode Try.prog cx LB46_6 F H = evalCode Try.prog cx (loopOf Try.f46 6) F H := rfl
theorem lbe46_16 (cx : Cx) (F : Fr) (H : Heap) : evalCode Try.prog cx LB46_16 F H = evalCode Try.prog cx (loopOf Try.f46 16) F H := rfl
theorem lbe49_6 (cx : Cx) (F : Fr) (H : Heap) : evalCode Try.prog cx LB49_6 F H = evalCode Try.prog cx (loopOf Try.f49 6) F H := rfl
theorem lbe49_13 (cx : Cx) (F : Fr) (H : Heap) : evalCode Try.prog cx LB49_13 F H = evalCode Try.prog cx (loopOf Try.f49 13) F H := rfl
theorem lbe51_5 (cx : Cx) (F : Fr) (H : Heap) : evalCode Try.prog cx LB51_5 F H = evalCode Try.prog cx (loopOf Try.f51 5) F H := rfl
theorem lbe51_13 (cx : Cx) (F : Fr) (H : Heap) : evalCode Try.prog cx LB51_13 F H = evalCode Try.prog cx (loopOf Try.f51 13) F H := rfl
theorem lbe51_23 (cx : Cx) (F : Fr) (H : Heap) : evalCode Try.prog cx LB51_23 F H = evalCode Try.prog cx (loopOf Try.f51 23) F H := rfl
theorem lbe51_30 (cx : Cx) (F : Fr) (H : Heap) : evalCode Try.prog cx LB51_30 F H = evalCode Try.prog cx (loopOf Try.f51 30) F H := rfl
theorem lbe51_33 (cx : Cx) (F : Fr) (H : Heap) : evalCode Try.prog cx LB51_33 F H = evalCode Try.prog cx (loopOf Try.f51 33) F H := rfl
theorem lbe51_45 (cx : Cx) (F : Fr) (H : Heap) : evalCode Try.prog cx LB51_45 F H = evalCode Try.prog cx (loopOf Try.f51 45) F H := rfl
theorem lbe52_4 (cx : Cx) (F : Fr) (H : Heap) : evalCode Try.prog cx LB52_4 F H = evalCode Try.prog cx (loopOf Try.f52 4) F H := rfl
theorem lbe52_11 (cx : Cx) (F : Fr) (H : Heap) : evalCode Try.prog cx LB52_11 F H = evalCode Try.prog cx (loopOf Try.f52 11) F H := rfl
theorem lbe52_16 (cx : Cx) (F : Fr) (H : Heap) : evalCode Try.prog cx LB52_16 F H = evalCode Try.prog cx (loopOf Try.f52 16) F H := rfl
theorem lbe53_3 (cx : Cx) (F : Fr) (H : Heap) : evalCode Try.prog cx LB53_3 F H = evalCode Try.prog cx (loopOf Try.f53 3) F H := rfl
theorem lbe53_8 (cx : Cx) (F : Fr) (H : Heap) : evalCode Try.prog cx LB53_8 F H = evalCode Try.prog cx (loopOf Try.f53 8) F H := rfl
theorem lbe53_12 (cx : Cx) (F : Fr) (H : Heap) : evalCode Try.prog cx LB53_12 F H = evalCode Try.prog cx (loopOf Try.f53 12) F H := rfl
theorem lbe53_18 (cx : Cx) (F : Fr) (H : Heap) : evalCode Try.prog cx LB53_18 F H = evalCode Try.prog cx (loopOf Try.f53 18) F H := rfl
theorem sp54_3 : spoilFact Try.prog LB54_3 4 2 0 [4, 18, 19, 20, 21, 24, 25, 27, 22, 23, 26] 37 5 34 = true := by kernel_rfl
theorem lbe54_3 (cx : Cx) (F : Fr) (H : Heap) : evalCode Try.prog cx LB54_3 F H = evalCode Try.prog cx (loopOf Try.f54 3) F H := rfl
theorem sp54_7 : spoilFact Try.prog LB54_7 5 3 2 [5, 28, 29, 30, 31, 34, 35, 36, 32, 33] 37 1 3 = true := by kernel_rfl
theorem lbe54_7 (cx : Cx) (F : Fr) (H : Heap) : evalCode Try.prog cx LB54_7 F H = evalCode Try.prog cx (loopOf Try.f54 7) F H := rfl
theorem lbe62_4 (cx : Cx) (F : Fr) (H : Heap) : evalCode Try.prog cx LB62_4 F H = evalCode Try.prog cx (loopOf Try.f62 4) F H := rfl
theorem lbe62_10 (cx : Cx) (F : Fr) (H : Heap) : evalCode Try.prog cx LB62_10 F H = evalCode Try.prog cx (loopOf Try.f62 10) F H := rfl
theorem lbe67_4 (cx : Cx) (F : Fr) (H : Heap) : evalCode Try.prog cx LB67_4 F H = evalCode Try.prog cx (loopOf Try.f67 4) F H := rfl
theorem lbe67_9 (cx : Cx) (F : Fr) (H : Heap) : evalCode Try.prog cx LB67_9 F H = evalCode Try.prog cx (loopOf Try.f67 9) F H := rfl
theorem lbe75_3 (cx : Cx) (F : Fr) (H : Heap) : evalCode Try.prog cx LB75_3 F H = evalCode Try.prog cx (loopOf Try.f75 3) F H := rfl
theorem lbe75_15 (cx : Cx) (F : Fr) (H : Heap) : evalCode Try.prog cx LB75_15 F H = evalCode Try.prog cx (loopOf Try.f75 15) F H := rfl
theorem lbe82_8 (cx : Cx) (F : Fr) (H : Heap) : evalCode Try.prog cx LB82_8 F H = evalCode Try.prog cx (loopOf Try.f82 8) F H := rfl
theorem lbe82_13 (cx : Cx) (F : Fr) (H : Heap) : evalCode Try.prog cx LB82_13 F H = evalCode Try.prog cx (loopOf Try.f82 13) F H := rfl
theorem lbe82_17 (cx : Cx) (F : Fr) (H : Heap) : evalCode Try.prog cx LB82_17 F H = evalCode Try.prog cx (loopOf Try.f82 17) F H := rfl
theorem lbe82_28 (cx : Cx) (F : Fr) (H : Heap) : evalCode Try.prog cx LB82_28 F H = evalCode Try.prog cx (loopOf Try.f82 28) F H := rfl
theorem lbe84_2 (cx : Cx) (F : Fr) (H : Heap) : evalCode Try.prog cx LB84_2 F H = evalCode Try.prog cx (loopOf Try.f84 2) F H := rfl
theorem lbe88_3 (cx : Cx) (F : Fr) (H : Heap) : evalCode Try.prog cx LB88_3 F H = evalCode Try.prog cx (loopOf Try.f88 3) F H := rfl
theorem lbe88_8 (cx : Cx) (F : Fr) (H : Heap) : evalCode Try.prog cx LB88_8 F H = evalCode Try.prog cx (loopOf Try.f88 8) F H := rfl
theorem lbe88_12 (cx : Cx) (F : Fr) (H : Heap) : evalCode Try.prog cx LB88_12 F H = evalCode Try.prog cx (loopOf Try.f88 12) F H := rfl
theorem lbe89_2 (cx : Cx) (F : Fr) (H : Heap) : evalCode Try.prog cx LB89_2 F H = evalCode Try.prog cx (loopOf Try.f89 2) F H := rfl
theorem lbe90_2 (cx : Cx) (F : Fr) (H : Heap) : evalCode Try.prog cx LB90_2 F H = evalCode Try.prog cx (loopOf Try.f90 2) F H := rfl
theorem lbe100_4 (cx : Cx) (F : Fr) (H : Heap) : evalCode Try.prog cx LB100_4 F H = evalCode Try.prog cx (loopOf Try.f100 4) F H := rfl
theorem lbe128_1 (cx : Cx) (F : Fr) (H : Heap) : evalCode Try.prog cx LB128_1 F H = evalCode Try.prog cx (loopOf Try.f128 1) F H := rfl
theorem FACTS : type_of% (And.intro (And.intro (And.intro (And.intro (And.intro (And.intro (And.intro (And.intro @fb10 @fb15) (And.intro @fb17 (And.intro @fb20 @fb40))) (And.intro (And.intro @fb42 @fb44) (And.intro @fb49 (And.intro @fb50 @fb51)))) (And.intro (And.intro (And.intro @fb52 @fb53) (And.intro @fb54 (And.intro @fb67 @fb79))) (And.intro (And.intro @fb82 @fb83) (And.intro @fb84 (And.intro @fb81 @fb88))))) (And.intro (And.intro (And.intro (And.intro @fb89 @fb90) (And.intro @fb102 (And.intro @fb46 @fb112))) (And.intro (And.intro @fb78 @fb85) (And.intro @fb110 (And.intro @fb62 @fb111)))) (And.intro (And.intro (And.intro @fb100 @fb128) (And.intro @fb123 (And.intro @fb124 @fb75))) (And.intro (And.intro @fsl10_1_0 (And.intro @kb10_1_0 @fsl10_3_1)) (And.intro @kb10_3_1 (And.intro @fsl10_5_1 @kb10_5_1)))))) (And.intro (And.intro (And.intro (And.intro (And.intro @fsl10_6_1 @kb10_6_1) (And.intro @fsl10_7_1 (And.intro @kb10_7_1 @fsl10_8_1))) (And.intro (And.intro @kb10_8_1 @fsl10_10_1) (And.intro @kb10_10_1 (And.intro @fsl10_10_15 @kb10_10_15)))) (And.intro (And.intro (And.intro @fsl10_11_1 @kb10_11_1) (And.intro @fsl10_12_1 (And.intro @kb10_12_1 @fsl10_13_1))) (And.intro (And.intro @kb10_13_1 (And.intro @fsl10_14_9 @kb10_14_9)) (And.intro @fsl10_18_1 (And.intro @kb10_18_1 @fsl10_24_1))))) (And.intro (And.intro (And.intro (And.intro @kb10_24_1 @fsl10_25_1) (And.intro @kb10_25_1 (And.intro @fsl10_26_5 @kb10_26_5))) (And.intro (And.intro @fsl10_26_10 @kb10_26_10) (And.intro @ldp25 (And.intro @ldi25 @lde25)))) (And.intro (And.intro (And.intro @al25 @fa25_1) (And.intro @ldp3 (And.intro @ldi3 @lde3))) (And.intro (And.intro @fa25_2 (And.intro @ldp22 @ldi22)) (And.intro @lde22 (And.intro @ln22 @lnv22))))))) (And.intro (And.intro (And.intro (And.intro (And.intro (And.intro @lnh22 @fa25_0) (And.intro @ln64 (And.intro @lnv64 @lnh64))) (And.intro (And.intro @ia64 @iah64) (And.intro @ldp4 (And.intro @ldi4 @lde4)))) (And.intro (And.intro (And.intro @sb15_2_4 @sb15_3_4) (And.intro @bd25_0_1 (And.intro @ap22 @fa25_3))) (And.intro (And.intro @ldp23 @ldi23) (And.intro @lde23 (And.intro @ap23 @fsl17_1_1))))) (And.intro (And.intro (And.intro (And.intro @kb17_1_1 @ln23) (And.intro @lnv23 (And.intro @lnh23 @ia22))) (And.intro (And.intro @iah22 @ldp34) (And.intro @ldi34 (And.intro @lde34 @ne34)))) (And.intro (And.intro (And.intro @ia23 @iah23) (And.intro @fsl40_1_2 (And.intro @kb40_1_2 @bs23_1_0))) (And.intro (And.intro @bd25_0_1_3_h1 (And.intro @bd25_0_1_3 @fsl44_1_1)) (And.intro @kb44_1_1 (And.intro @fsl44_8_9 @kb44_8_9)))))) (And.intro (And.intro (And.intro (And.intro (And.intro @fsl44_11_11 @kb44_11_11) (And.intro @fsl44_17_1 (And.intro @kb44_17_1 @fsl44_27_8))) (And.intro (And.intro @kb44_27_8 @sb44_28_4) (And.intro @sb44_34_9 (And.intro @bd25_ @bd125_0)))) (And.intro (And.intro (And.intro @fa128_6 @fa125_1) (And.intro @ldp64 (And.intro @ldi64 @lde64))) (And.intro (And.intro @al34 (And.intro @fa128_1 @fa125_0)) (And.intro @ldp123 (And.intro @ldi123 @lde123))))) (And.intro (And.intro (And.intro (And.intro @fa128_2 @fa34_2) (And.intro @fa128_3 (And.intro @fa34_3 @bd62_0_1))) (And.intro (And.intro @fa128_4 @fa34_1) (And.intro @bs22_1_0 (And.intro @fa128_5 @fsl49_1_1)))) (And.intro (And.intro (And.intro @kb49_1_1 @fsl51_1_1) (And.intro @kb51_1_1 (And.intro @fsl51_7_4 @kb51_7_4))) (And.intro (And.intro @sb51_8_6 (And.intro @fsl51_9_2 @kb51_9_2)) (And.intro @sb51_10_5 (And.intro @fsl51_17_1 @kb51_17_1)))))))) (And.intro (And.intro (And.intro (And.intro (And.intro (And.intro (And.intro @fsl51_18_10 @kb51_18_10) (And.intro @fsl51_18_11 (And.intro @kb51_18_11 @fsl51_20_6))) (And.intro (And.intro @kb51_20_6 @fsl51_20_7) (And.intro @kb51_20_7 (And.intro @fsl51_25_7 @kb51_25_7)))) (And.intro (And.intro (And.intro @sb51_26_6 @sb51_40_5) (And.intro @sb51_43_4 (And.intro @fsl51_47_13 @kb51_47_13))) (And.intro (And.intro @fsl51_47_14 @kb51_47_14) (And.intro @sb51_47_16 (And.intro @bd134_0_1 @bs131_1_0))))) (And.intro (And.intro (And.intro (And.intro @ap131 @fa34_0) (And.intro @fa34_4 (And.intro @bd34_0_4_2 @ln131))) (And.intro (And.intro @lnv131 @lnh131) (And.intro @ia131 (And.intro @iah131 @fa134_0)))) (And.intro (And.intro (And.intro @ldp134 @ldi134) (And.intro @lde134 (And.intro @fa134_1 @fsl52_1_1))) (And.intro (And.intro @kb52_1_1 (And.intro @fsl52_8_2 @kb52_8_2)) (And.intro @fsl52_13_4 (And.intro @kb52_13_4 @fsl52_18_8)))))) (And.intro (And.intro (And.intro (And.intro (And.intro @kb52_18_8 @sb53_1_3) (And.intro @fsl53_10_5 (And.intro @kb53_10_5 @ms64))) (And.intro (And.intro @cap22 @capc22) (And.intro @sl22 (And.intro @cap23 @capc23)))) (And.intro (And.intro (And.intro @sl23 @bd34_0) (And.intro @fsl67_11_7 (And.intro @kb67_11_7 @bs23_2_0_1))) (And.intro (And.intro @fsl82_1_1 (And.intro @kb82_1_1 @sb82_5_3)) (And.intro @sb82_5_5 (And.intro @sb82_5_7 @sb82_6_2))))) (And.intro (And.intro (And.intro (And.intro @fsl82_10_4 @kb82_10_4) (And.intro @sb82_14_6 (And.intro @fsl82_21_1 @kb82_21_1))) (And.intro (And.intro @sb82_25_6 @sb82_30_10) (And.intro @ms23 (And.intro @bd128_0_1_2_3_4 @sb83_1_8)))) (And.intro (And.intro (And.intro @bs64_1_0 @ap64) (And.intro @sb84_9_6 (And.intro @fsl88_5_8 @kb88_5_8))) (And.intro (And.intro @fsl88_10_5 (And.intro @kb88_10_5 @fsl88_14_7)) (And.intro @kb88_14_7 (And.intro @fsl46_1_1 @kb46_1_1))))))) (And.intro (And.intro (And.intro (And.intro (And.intro (And.intro @sb46_3_3 @sb46_4_2) (And.intro @fsl46_10_1 (And.intro @kb46_10_1 @fsl46_15_1))) (And.intro (And.intro @kb46_15_1 @rae46_11) (And.intro @rbe46_11 (And.intro @al64 @fsl85_1_1)))) (And.intro (And.intro (And.intro @kb85_1_1 @fsl110_1_1) (And.intro @kb110_1_1 (And.intro @fsl110_2_2 @kb110_2_2))) (And.intro (And.intro @fsl110_5_3 (And.intro @kb110_5_3 @rae110_3)) (And.intro @rbe110_3 (And.intro @ldp163 @ldi163))))) (And.intro (And.intro (And.intro (And.intro @lde163 @fsl62_12_3) (And.intro @kb62_12_3 (And.intro @fsl100_1_22 @kb100_1_22))) (And.intro (And.intro @fsl100_1_32 @kb100_1_32) (And.intro @fsl100_3_1 (And.intro @kb100_3_1 @fsl128_3_6)))) (And.intro (And.intro (And.intro @kb128_3_6 @sb75_1_2) (And.intro @sb75_7_3 (And.intro @fsl75_8_1 @kb75_8_1))) (And.intro (And.intro @fsl75_14_1 (And.intro @kb75_14_1 @rae75_9)) (And.intro @rbe75_9 (And.intro @lbe10_20 @lbe20_4)))))) (And.intro (And.intro (And.intro (And.intro (And.intro @lbe20_9 @lbe44_6) (And.intro @lbe44_14 (And.intro @lbe44_22 @lbe44_32))) (And.intro (And.intro @lbe46_6 @lbe46_16) (And.intro @lbe49_6 (And.intro @lbe49_13 @lbe51_5)))) (And.intro (And.intro (And.intro @lbe51_13 @lbe51_23) (And.intro @lbe51_30 (And.intro @lbe51_33 @lbe51_45))) (And.intro (And.intro @lbe52_4 (And.intro @lbe52_11 @lbe52_16)) (And.intro @lbe53_3 (And.intro @lbe53_8 @lbe53_12))))) (And.intro (And.intro (And.intro (And.intro @lbe53_18 @lbe54_3) (And.intro @lbe54_7 (And.intro @lbe62_4 @lbe62_10))) (And.intro (And.intro @lbe67_4 @lbe67_9) (And.intro @lbe75_3 (And.intro @lbe75_15 @lbe82_8)))) (And.intro (And.intro (And.intro @lbe82_13 @lbe82_17) (And.intro @lbe82_28 (And.intro @lbe84_2 @lbe88_3))) (And.intro (And.intro @lbe88_8 (And.intro @lbe88_12 @lbe89_2)) (And.intro @lbe90_2 (And.intro @lbe100_4 @lbe128_1))))))))) :=
  (And.intro (And.intro (And.intro (And.intro (And.intro (And.intro (And.intro (And.intro @fb10 @fb15) (And.intro @fb17 (And.intro @fb20 @fb40))) (And.intro (And.intro @fb42 @fb44) (And.intro @fb49 (And.intro @fb50 @fb51)))) (And.intro (And.intro (And.intro @fb52 @fb53) (And.intro @fb54 (And.intro @fb67 @fb79))) (And.intro (And.intro @fb82 @fb83) (And.intro @fb84 (And.intro @fb81 @fb88))))) (And.intro (And.intro (And.intro (And.intro @fb89 @fb90) (And.intro @fb102 (And.intro @fb46 @fb112))) (And.intro (And.intro @fb78 @fb85) (And.intro @fb110 (And.intro @fb62 @fb111)))) (And.intro (And.intro (And.intro @fb100 @fb128) (And.intro @fb123 (And.intro @fb124 @fb75))) (And.intro (And.intro @fsl10_1_0 (And.intro @kb10_1_0 @fsl10_3_1)) (And.intro @kb10_3_1 (And.intro @fsl10_5_1 @kb10_5_1)))))) (And.intro (And.intro (And.intro (And.intro (And.intro @fsl10_6_1 @kb10_6_1) (And.intro @fsl10_7_1 (And.intro @kb10_7_1 @fsl10_8_1))) (And.intro (And.intro @kb10_8_1 @fsl10_10_1) (And.intro @kb10_10_1 (And.intro @fsl10_10_15 @kb10_10_15)))) (And.intro (And.intro (And.intro @fsl10_11_1 @kb10_11_1) (And.intro @fsl10_12_1 (And.intro @kb10_12_1 @fsl10_13_1))) (And.intro (And.intro @kb10_13_1 (And.intro @fsl10_14_9 @kb10_14_9)) (And.intro @fsl10_18_1 (And.intro @kb10_18_1 @fsl10_24_1))))) (And.intro (And.intro (And.intro (And.intro @kb10_24_1 @fsl10_25_1) (And.intro @kb10_25_1 (And.intro @fsl10_26_5 @kb10_26_5))) (And.intro (And.intro @fsl10_26_10 @kb10_26_10) (And.intro @ldp25 (And.intro @ldi25 @lde25)))) (And.intro (And.intro (And.intro @al25 @fa25_1) (And.intro @ldp3 (And.intro @ldi3 @lde3))) (And.intro (And.intro @fa25_2 (And.intro @ldp22 @ldi22)) (And.intro @lde22 (And.intro @ln22 @lnv22))))))) (And.intro (And.intro (And.intro (And.intro (And.intro (And.intro @lnh22 @fa25_0) (And.intro @ln64 (And.intro @lnv64 @lnh64))) (And.intro (And.intro @ia64 @iah64) (And.intro @ldp4 (And.intro @ldi4 @lde4)))) (And.intro (And.intro (And.intro @sb15_2_4 @sb15_3_4) (And.intro @bd25_0_1 (And.intro @ap22 @fa25_3))) (And.intro (And.intro @ldp23 @ldi23) (And.intro @lde23 (And.intro @ap23 @fsl17_1_1))))) (And.intro (And.intro (And.intro (And.intro @kb17_1_1 @ln23) (And.intro @lnv23 (And.intro @lnh23 @ia22))) (And.intro (And.intro @iah22 @ldp34) (And.intro @ldi34 (And.intro @lde34 @ne34)))) (And.intro (And.intro (And.intro @ia23 @iah23) (And.intro @fsl40_1_2 (And.intro @kb40_1_2 @bs23_1_0))) (And.intro (And.intro @bd25_0_1_3_h1 (And.intro @bd25_0_1_3 @fsl44_1_1)) (And.intro @kb44_1_1 (And.intro @fsl44_8_9 @kb44_8_9)))))) (And.intro (And.intro (And.intro (And.intro (And.intro @fsl44_11_11 @kb44_11_11) (And.intro @fsl44_17_1 (And.intro @kb44_17_1 @fsl44_27_8))) (And.intro (And.intro @kb44_27_8 @sb44_28_4) (And.intro @sb44_34_9 (And.intro @bd25_ @bd125_0)))) (And.intro (And.intro (And.intro @fa128_6 @fa125_1) (And.intro @ldp64 (And.intro @ldi64 @lde64))) (And.intro (And.intro @al34 (And.intro @fa128_1 @fa125_0)) (And.intro @ldp123 (And.intro @ldi123 @lde123))))) (And.intro (And.intro (And.intro (And.intro @fa128_2 @fa34_2) (And.intro @fa128_3 (And.intro @fa34_3 @bd62_0_1))) (And.intro (And.intro @fa128_4 @fa34_1) (And.intro @bs22_1_0 (And.intro @fa128_5 @fsl49_1_1)))) (And.intro (And.intro (And.intro @kb49_1_1 @fsl51_1_1) (And.intro @kb51_1_1 (And.intro @fsl51_7_4 @kb51_7_4))) (And.intro (And.intro @sb51_8_6 (And.intro @fsl51_9_2 @kb51_9_2)) (And.intro @sb51_10_5 (And.intro @fsl51_17_1 @kb51_17_1)))))))) (And.intro (And.intro (And.intro (And.intro (And.intro (And.intro (And.intro @fsl51_18_10 @kb51_18_10) (And.intro @fsl51_18_11 (And.intro @kb51_18_11 @fsl51_20_6))) (And.intro (And.intro @kb51_20_6 @fsl51_20_7) (And.intro @kb51_20_7 (And.intro @fsl51_25_7 @kb51_25_7)))) (And.intro (And.intro (And.intro @sb51_26_6 @sb51_40_5) (And.intro @sb51_43_4 (And.intro @fsl51_47_13 @kb51_47_13))) (And.intro (And.intro @fsl51_47_14 @kb51_47_14) (And.intro @sb51_47_16 (And.intro @bd134_0_1 @bs131_1_0))))) (And.intro (And.intro (And.intro (And.intro @ap131 @fa34_0) (And.intro @fa34_4 (And.intro @bd34_0_4_2 @ln131))) (And.intro (And.intro @lnv131 @lnh131) (And.intro @ia131 (And.intro @iah131 @fa134_0)))) (And.intro (And.intro (And.intro @ldp134 @ldi134) (And.intro @lde134 (And.intro @fa134_1 @fsl52_1_1))) (And.intro (And.intro @kb52_1_1 (And.intro @fsl52_8_2 @kb52_8_2)) (And.intro @fsl52_13_4 (And.intro @kb52_13_4 @fsl52_18_8)))))) (And.intro (And.intro (And.intro (And.intro (And.intro @kb52_18_8 @sb53_1_3) (And.intro @fsl53_10_5 (And.intro @kb53_10_5 @ms64))) (And.intro (And.intro @cap22 @capc22) (And.intro @sl22 (And.intro @cap23 @capc23)))) (And.intro (And.intro (And.intro @sl23 @bd34_0) (And.intro @fsl67_11_7 (And.intro @kb67_11_7 @bs23_2_0_1))) (And.intro (And.intro @fsl82_1_1 (And.intro @kb82_1_1 @sb82_5_3)) (And.intro @sb82_5_5 (And.intro @sb82_5_7 @sb82_6_2))))) (And.intro (And.intro (And.intro (And.intro @fsl82_10_4 @kb82_10_4) (And.intro @sb82_14_6 (And.intro @fsl82_21_1 @kb82_21_1))) (And.intro (And.intro @sb82_25_6 @sb82_30_10) (And.intro @ms23 (And.intro @bd128_0_1_2_3_4 @sb83_1_8)))) (And.intro (And.intro (And.intro @bs64_1_0 @ap64) (And.intro @sb84_9_6 (And.intro @fsl88_5_8 @kb88_5_8))) (And.intro (And.intro @fsl88_10_5 (And.intro @kb88_10_5 @fsl88_14_7)) (And.intro @kb88_14_7 (And.intro @fsl46_1_1 @kb46_1_1))))))) (And.intro (And.intro (And.intro (And.intro (And.intro (And.intro @sb46_3_3 @sb46_4_2) (And.intro @fsl46_10_1 (And.intro @kb46_10_1 @fsl46_15_1))) (And.intro (And.intro @kb46_15_1 @rae46_11) (And.intro @rbe46_11 (And.intro @al64 @fsl85_1_1)))) (And.intro (And.intro (And.intro @kb85_1_1 @fsl110_1_1) (And.intro @kb110_1_1 (And.intro @fsl110_2_2 @kb110_2_2))) (And.intro (And.intro @fsl110_5_3 (And.intro @kb110_5_3 @rae110_3)) (And.intro @rbe110_3 (And.intro @ldp163 @ldi163))))) (And.intro (And.intro (And.intro (And.intro @lde163 @fsl62_12_3) (And.intro @kb62_12_3 (And.intro @fsl100_1_22 @kb100_1_22))) (And.intro (And.intro @fsl100_1_32 @kb100_1_32) (And.intro @fsl100_3_1 (And.intro @kb100_3_1 @fsl128_3_6)))) (And.intro (And.intro (And.intro @kb128_3_6 @sb75_1_2) (And.intro @sb75_7_3 (And.intro @fsl75_8_1 @kb75_8_1))) (And.intro (And.intro @fsl75_14_1 (And.intro @kb75_14_1 @rae75_9)) (And.intro @rbe75_9 (And.intro @lbe10_20 @lbe20_4)))))) (And.intro (And.intro (And.intro (And.intro (And.intro @lbe20_9 @lbe44_6) (And.intro @lbe44_14 (And.intro @lbe44_22 @lbe44_32))) (And.intro (And.intro @lbe46_6 @lbe46_16) (And.intro @lbe49_6 (And.intro @lbe49_13 @lbe51_5)))) (And.intro (And.intro (And.intro @lbe51_13 @lbe51_23) (And.intro @lbe51_30 (And.intro @lbe51_33 @lbe51_45))) (And.intro (And.intro @lbe52_4 (And.intro @lbe52_11 @lbe52_16)) (And.intro @lbe53_3 (And.intro @lbe53_8 @lbe53_12))))) (And.intro (And.intro (And.intro (And.intro @lbe53_18 @lbe54_3) (And.intro @lbe54_7 (And.intro @lbe62_4 @lbe62_10))) (And.intro (And.intro @lbe67_4 @lbe67_9) (And.intro @lbe75_3 (And.intro @lbe75_15 @lbe82_8)))) (And.intro (And.intro (And.intro @lbe82_13 @lbe82_17) (And.intro @lbe82_28 (And.intro @lbe84_2 @lbe88_3))) (And.intro (And.intro @lbe88_8 (And.intro @lbe88_12 @lbe89_2)) (And.intro @lbe90_2 (And.intro @lbe100_4 @lbe128_1)))))))))
theorem TYPES : type_of% (And.intro (And.intro (And.intro (And.intro @ag25 @sz25) (And.intro @ag3 (And.intro @sz3 @ag22))) (And.intro (And.intro @sz22 @ag4) (And.intro @sz4 (And.intro @ag23 @sz23)))) (And.intro (And.intro (And.intro @ag34 @sz34) (And.intro @ag64 (And.intro @sz64 @ag123))) (And.intro (And.intro @sz123 @ag134) (And.intro @sz134 (And.intro @ag163 @sz163))))) :=
  (And.intro (And.intro (And.intro (And.intro @ag25 @sz25) (And.intro @ag3 (And.intro @sz3 @ag22))) (And.intro (And.intro @sz22 @ag4) (And.intro @sz4 (And.intro @ag23 @sz23)))) (And.intro (And.intro (And.intro @ag34 @sz34) (And.intro @ag64 (And.intro @sz64 @ag123))) (And.intro (And.intro @sz123 @ag134) (And.intro @sz134 (And.intro @ag163 @sz163)))))
end Go.Proofs.Sw
