/- A part of the proof: what functions of the program answer; conditions stand in each theorem. -/
import Derived.Test.YtefdgfdahmaciaaProg
import Derived.Test.YtefdgfdahmaciaaAbSim
import Derived.WalkKit
set_option linter.unusedVariables false
set_option linter.unusedSimpArgs false
set_option linter.unusedSectionVars false
namespace Go.Proofs.Sw
open Go.Ab
variable [Globals]
noncomputable def RA46_11 : Code := rfAs Try.f46 11
noncomputable def RB46_11 : Code := rfBd Try.f46 11
noncomputable def RA110_3 : Code := rfAs Try.f110 3
noncomputable def RB110_3 : Code := rfBd Try.f110 3
def tab : Tab := ⟨[(22, 5, 25, [0, 2, 3, 4]), (23, 3, 97, [1, 2, 7, 8]), (23, 10, 97, [2, 7, 9, 10]), (23, 19, 97, [2, 7, 9, 13, 14]), (24, 4, 27, [0, 1, 5]), (41, 3, 58, [0, 4, 5]), (41, 9, 58, [0, 4, 5, 6, 7]), (43, 3, 22, [1, 3, 4]), (44, 6, 208, [1, 2, 4, 6, 29, 30]), (44, 14, 208, [2, 4, 6, 8, 77, 78, 79]), (44, 22, 208, [2, 4, 6, 8, 9, 10, 77, 78, 79, 137, 138]), (44, 32, 208, [2, 6, 8, 189, 190, 191]), (45, 11, 76, [10, 13, 14]), (46, 6, 62, [1, 4, 5, 23, 24, 25]), (46, 16, 62, [5, 51, 52, 53]), (62, 4, 72, [1, 42, 43, 44]), (62, 10, 72, [1, 58, 59, 60]), (67, 4, 79, [1, 4]), (67, 9, 79, [1, 5]), (69, 2, 29, [0, 1, 4, 5]), (82, 8, 203, [1, 4, 6, 7, 8, 39, 40]), (82, 13, 203, [1, 4, 6, 7, 8, 52, 53]), (82, 17, 203, [1, 4, 6, 7, 8, 66, 67, 68]), (82, 28, 203, [6, 7, 8, 172, 173, 174]), (84, 2, 60, [0, 1, 10, 11, 12]), (100, 4, 57, [1, 43, 44, 45]), (107, 3, 32, [0, 3, 6, 7]), (109, 6, 41, [0, 1, 5]), (125, 3, 34, [1, 3, 4, 6, 9, 10]), (128, 1, 19, [0, 1, 3]), (139, 3, 82, [2, 3, 4, 5, 6]), (139, 7, 82, [2, 3, 4, 5, 6, 7, 8]), (147, 4, 52, [0, 1, 5, 6, 7]), (148, 4, 43, [0, 1, 5, 6, 7]), (149, 5, 124, [0, 1, 6, 7, 8]), (149, 14, 124, [0, 1, 9, 10, 11]), (149, 18, 124, [0, 1, 9, 10, 11, 12, 13]), (154, 5, 25, [3, 4])], [(7, 6, 1), (30, 11, 7), (3, 6, 1), (3, 13, 1), (10, 6, 1), (10, 24, 1), (10, 18, 1), (149, 26, 2), (1000149, 26, 3)], [(41, 11, 10, 0), (41, 12, 3, 1), (44, 28, 4, 0), (44, 34, 9, 1), (22, 6, 5, 0), (82, 5, 3, 2), (82, 5, 5, 3), (82, 5, 7, 4), (82, 14, 6, 0), (82, 25, 6, 0), (82, 30, 10, 1), (83, 1, 8, 2), (23, 16, 3, 0), (23, 21, 10, 1), (107, 8, 3, 0), (125, 5, 15, 0), (140, 2, 11, 0), (140, 2, 12, 1), (147, 10, 4, 0), (148, 14, 5, 0)], [(41, 2), (44, 3), (22, 1), (82, 5), (83, 1), (23, 2), (107, 1), (125, 1), (140, 2), (147, 1), (148, 1)], [27, 28, 54, 63, 64, 65, 66, 68, 71, 82, 83, 84, 92, 101, 113, 145, 153], [(5, 21, 7, [1]), (19, 7, 3, [2]), (44, 8, 9, [2])], [], [(3, 18), (3, 22), (54, 3), (54, 7)], [(51, 13, [5])]⟩
theorem lp22_5 : (tab.loops.find? fun e => e.1 == 22 && e.2.1 == 5) = some (22, 5, 25, [0, 2, 3, 4]) := by rfl
noncomputable def LB22_5 : Code := loopOf Try.f22 5
theorem lp23_3 : (tab.loops.find? fun e => e.1 == 23 && e.2.1 == 3) = some (23, 3, 97, [1, 2, 7, 8]) := by rfl
noncomputable def LB23_3 : Code := loopOf Try.f23 3
theorem lp23_10 : (tab.loops.find? fun e => e.1 == 23 && e.2.1 == 10) = some (23, 10, 97, [2, 7, 9, 10]) := by rfl
noncomputable def LB23_10 : Code := loopOf Try.f23 10
theorem lp23_19 : (tab.loops.find? fun e => e.1 == 23 && e.2.1 == 19) = some (23, 19, 97, [2, 7, 9, 13, 14]) := by rfl
noncomputable def LB23_19 : Code := loopOf Try.f23 19
theorem lp24_4 : (tab.loops.find? fun e => e.1 == 24 && e.2.1 == 4) = some (24, 4, 27, [0, 1, 5]) := by rfl
noncomputable def LB24_4 : Code := loopOf Try.f24 4
theorem lp41_3 : (tab.loops.find? fun e => e.1 == 41 && e.2.1 == 3) = some (41, 3, 58, [0, 4, 5]) := by rfl
noncomputable def LB41_3 : Code := loopOf Try.f41 3
theorem lp41_9 : (tab.loops.find? fun e => e.1 == 41 && e.2.1 == 9) = some (41, 9, 58, [0, 4, 5, 6, 7]) := by rfl
noncomputable def LB41_9 : Code := loopOf Try.f41 9
theorem lp43_3 : (tab.loops.find? fun e => e.1 == 43 && e.2.1 == 3) = some (43, 3, 22, [1, 3, 4]) := by rfl
noncomputable def LB43_3 : Code := loopOf Try.f43 3
theorem lp44_6 : (tab.loops.find? fun e => e.1 == 44 && e.2.1 == 6) = some (44, 6, 208, [1, 2, 4, 6, 29, 30]) := by rfl
noncomputable def LB44_6 : Code := loopOf Try.f44 6
theorem lp44_14 : (tab.loops.find? fun e => e.1 == 44 && e.2.1 == 14) = some (44, 14, 208, [2, 4, 6, 8, 77, 78, 79]) := by rfl
noncomputable def LB44_14 : Code := loopOf Try.f44 14
theorem lp44_22 : (tab.loops.find? fun e => e.1 == 44 && e.2.1 == 22) = some (44, 22, 208, [2, 4, 6, 8, 9, 10, 77, 78, 79, 137, 138]) := by rfl
noncomputable def LB44_22 : Code := loopOf Try.f44 22
theorem lp44_32 : (tab.loops.find? fun e => e.1 == 44 && e.2.1 == 32) = some (44, 32, 208, [2, 6, 8, 189, 190, 191]) := by rfl
noncomputable def LB44_32 : Code := loopOf Try.f44 32
theorem lp45_11 : (tab.loops.find? fun e => e.1 == 45 && e.2.1 == 11) = some (45, 11, 76, [10, 13, 14]) := by rfl
noncomputable def LB45_11 : Code := loopOf Try.f45 11
theorem lp46_6 : (tab.loops.find? fun e => e.1 == 46 && e.2.1 == 6) = some (46, 6, 62, [1, 4, 5, 23, 24, 25]) := by rfl
noncomputable def LB46_6 : Code := loopOf Try.f46 6
theorem lp46_16 : (tab.loops.find? fun e => e.1 == 46 && e.2.1 == 16) = some (46, 16, 62, [5, 51, 52, 53]) := by rfl
noncomputable def LB46_16 : Code := loopOf Try.f46 16
theorem lp62_4 : (tab.loops.find? fun e => e.1 == 62 && e.2.1 == 4) = some (62, 4, 72, [1, 42, 43, 44]) := by rfl
noncomputable def LB62_4 : Code := loopOf Try.f62 4
theorem lp62_10 : (tab.loops.find? fun e => e.1 == 62 && e.2.1 == 10) = some (62, 10, 72, [1, 58, 59, 60]) := by rfl
noncomputable def LB62_10 : Code := loopOf Try.f62 10
theorem lp67_4 : (tab.loops.find? fun e => e.1 == 67 && e.2.1 == 4) = some (67, 4, 79, [1, 4]) := by rfl
noncomputable def LB67_4 : Code := loopOf Try.f67 4
theorem lp67_9 : (tab.loops.find? fun e => e.1 == 67 && e.2.1 == 9) = some (67, 9, 79, [1, 5]) := by rfl
noncomputable def LB67_9 : Code := loopOf Try.f67 9
theorem lp69_2 : (tab.loops.find? fun e => e.1 == 69 && e.2.1 == 2) = some (69, 2, 29, [0, 1, 4, 5]) := by rfl
noncomputable def LB69_2 : Code := loopOf Try.f69 2
theorem lp82_8 : (tab.loops.find? fun e => e.1 == 82 && e.2.1 == 8) = some (82, 8, 203, [1, 4, 6, 7, 8, 39, 40]) := by rfl
noncomputable def LB82_8 : Code := loopOf Try.f82 8
theorem lp82_13 : (tab.loops.find? fun e => e.1 == 82 && e.2.1 == 13) = some (82, 13, 203, [1, 4, 6, 7, 8, 52, 53]) := by rfl
noncomputable def LB82_13 : Code := loopOf Try.f82 13
theorem lp82_17 : (tab.loops.find? fun e => e.1 == 82 && e.2.1 == 17) = some (82, 17, 203, [1, 4, 6, 7, 8, 66, 67, 68]) := by rfl
noncomputable def LB82_17 : Code := loopOf Try.f82 17
theorem lp82_28 : (tab.loops.find? fun e => e.1 == 82 && e.2.1 == 28) = some (82, 28, 203, [6, 7, 8, 172, 173, 174]) := by rfl
noncomputable def LB82_28 : Code := loopOf Try.f82 28
theorem lp84_2 : (tab.loops.find? fun e => e.1 == 84 && e.2.1 == 2) = some (84, 2, 60, [0, 1, 10, 11, 12]) := by rfl
noncomputable def LB84_2 : Code := loopOf Try.f84 2
theorem lp100_4 : (tab.loops.find? fun e => e.1 == 100 && e.2.1 == 4) = some (100, 4, 57, [1, 43, 44, 45]) := by rfl
noncomputable def LB100_4 : Code := loopOf Try.f100 4
theorem lp107_3 : (tab.loops.find? fun e => e.1 == 107 && e.2.1 == 3) = some (107, 3, 32, [0, 3, 6, 7]) := by rfl
noncomputable def LB107_3 : Code := loopOf Try.f107 3
theorem lp109_6 : (tab.loops.find? fun e => e.1 == 109 && e.2.1 == 6) = some (109, 6, 41, [0, 1, 5]) := by rfl
noncomputable def LB109_6 : Code := loopOf Try.f109 6
theorem lp125_3 : (tab.loops.find? fun e => e.1 == 125 && e.2.1 == 3) = some (125, 3, 34, [1, 3, 4, 6, 9, 10]) := by rfl
noncomputable def LB125_3 : Code := loopOf Try.f125 3
theorem lp128_1 : (tab.loops.find? fun e => e.1 == 128 && e.2.1 == 1) = some (128, 1, 19, [0, 1, 3]) := by rfl
noncomputable def LB128_1 : Code := loopOf Try.f128 1
theorem lp139_3 : (tab.loops.find? fun e => e.1 == 139 && e.2.1 == 3) = some (139, 3, 82, [2, 3, 4, 5, 6]) := by rfl
noncomputable def LB139_3 : Code := loopOf Try.f139 3
theorem lp139_7 : (tab.loops.find? fun e => e.1 == 139 && e.2.1 == 7) = some (139, 7, 82, [2, 3, 4, 5, 6, 7, 8]) := by rfl
noncomputable def LB139_7 : Code := loopOf Try.f139 7
theorem lp147_4 : (tab.loops.find? fun e => e.1 == 147 && e.2.1 == 4) = some (147, 4, 52, [0, 1, 5, 6, 7]) := by rfl
noncomputable def LB147_4 : Code := loopOf Try.f147 4
theorem lp148_4 : (tab.loops.find? fun e => e.1 == 148 && e.2.1 == 4) = some (148, 4, 43, [0, 1, 5, 6, 7]) := by rfl
noncomputable def LB148_4 : Code := loopOf Try.f148 4
theorem lp149_5 : (tab.loops.find? fun e => e.1 == 149 && e.2.1 == 5) = some (149, 5, 124, [0, 1, 6, 7, 8]) := by rfl
noncomputable def LB149_5 : Code := loopOf Try.f149 5
theorem lp149_14 : (tab.loops.find? fun e => e.1 == 149 && e.2.1 == 14) = some (149, 14, 124, [0, 1, 9, 10, 11]) := by rfl
noncomputable def LB149_14 : Code := loopOf Try.f149 14
theorem lp149_18 : (tab.loops.find? fun e => e.1 == 149 && e.2.1 == 18) = some (149, 18, 124, [0, 1, 9, 10, 11, 12, 13]) := by rfl
noncomputable def LB149_18 : Code := loopOf Try.f149 18
theorem lp154_5 : (tab.loops.find? fun e => e.1 == 154 && e.2.1 == 5) = some (154, 5, 25, [3, 4]) := by rfl
noncomputable def LB154_5 : Code := loopOf Try.f154 5
theorem fb8 : inB tab.frames 8 = false := by rfl
theorem fb17 : inB tab.frames 17 = false := by rfl
theorem fb40 : inB tab.frames 40 = false := by rfl
theorem fb41 : inB tab.frames 41 = false := by rfl
theorem fb42 : inB tab.frames 42 = false := by rfl
theorem fb43 : inB tab.frames 43 = false := by rfl
theorem fb44 : inB tab.frames 44 = false := by rfl
theorem fb45 : inB tab.frames 45 = false := by rfl
theorem fb67 : inB tab.frames 67 = false := by rfl
theorem fb22 : inB tab.frames 22 = false := by rfl
theorem fb79 : inB tab.frames 79 = false := by rfl
theorem fb82 : inB tab.frames 82 = true := by rfl
theorem fb83 : inB tab.frames 83 = true := by rfl
theorem fb84 : inB tab.frames 84 = true := by rfl
theorem fb23 : inB tab.frames 23 = false := by rfl
theorem fb24 : inB tab.frames 24 = false := by rfl
theorem fb102 : inB tab.frames 102 = false := by rfl
theorem fb69 : inB tab.frames 69 = false := by rfl
theorem fb46 : inB tab.frames 46 = false := by rfl
theorem fb112 : inB tab.frames 112 = false := by rfl
theorem fb70 : inB tab.frames 70 = false := by rfl
theorem fb71 : inB tab.frames 71 = true := by rfl
theorem fb72 : inB tab.frames 72 = false := by rfl
theorem fb78 : inB tab.frames 78 = false := by rfl
theorem fb85 : inB tab.frames 85 = false := by rfl
theorem fb103 : inB tab.frames 103 = false := by rfl
theorem fb104 : inB tab.frames 104 = false := by rfl
theorem fb105 : inB tab.frames 105 = false := by rfl
theorem fb106 : inB tab.frames 106 = false := by rfl
theorem fb107 : inB tab.frames 107 = false := by rfl
theorem fb108 : inB tab.frames 108 = false := by rfl
theorem fb109 : inB tab.frames 109 = false := by rfl
theorem fb110 : inB tab.frames 110 = false := by rfl
theorem fb62 : inB tab.frames 62 = false := by rfl
theorem fb125 : inB tab.frames 125 = false := by rfl
theorem fb126 : inB tab.frames 126 = false := by rfl
theorem fb127 : inB tab.frames 127 = false := by rfl
theorem fb111 : inB tab.frames 111 = false := by rfl
theorem fb100 : inB tab.frames 100 = false := by rfl
theorem fb138 : inB tab.frames 138 = false := by rfl
theorem fb139 : inB tab.frames 139 = false := by rfl
theorem fb140 : inB tab.frames 140 = false := by rfl
theorem fb128 : inB tab.frames 128 = false := by rfl
theorem fb123 : inB tab.frames 123 = false := by rfl
theorem fb124 : inB tab.frames 124 = false := by rfl
theorem fb147 : inB tab.frames 147 = false := by rfl
theorem fb148 : inB tab.frames 148 = false := by rfl
theorem fb149 : inB tab.frames 149 = false := by rfl
theorem fb150 : inB tab.frames 150 = false := by rfl
theorem fb151 : inB tab.frames 151 = false := by rfl
theorem fb154 : inB tab.frames 154 = false := by rfl
theorem fb155 : inB tab.frames 155 = false := by rfl
theorem fb156 : inB tab.frames 156 = false := by rfl
theorem ev8 (k : Nat) (x0 x1 : AV) (H : Heap) : evalT Try.prog (mkHints tab) (k + 1) (.fn 8) [x0, x1] H = trimO H.length (finishO Try.prog Try.f8.results.toList (evalCode Try.prog (cxG Try.prog (mkHints tab) k 8 none) (Try.f8.body.getD .skip) (fillArgs (fr 54 []) 0 [x0, x1]) H)) := by
  have h := evalT_fn 54 Try.func8 rfl (by decide) rfl (P := Try.prog) (h := mkHints tab) (k := k) (args := [x0, x1]) (H := H)
  rw [show (mkHints tab).slots 8 = 0 from rfl, show (List.replicate 0 AObj.slot) = [] from rfl, List.append_nil] at h
  exact h
theorem fsl8_1_0 : fslotB tab.fslots 8 1 0 = [] := by rfl
theorem kb8_1_0 : keepB tab.keeps 8 1 0 = false := by rfl
theorem fsl8_3_1 : fslotB tab.fslots 8 3 1 = [] := by rfl
theorem kb8_3_1 : keepB tab.keeps 8 3 1 = false := by rfl
theorem fsl8_4_1 : fslotB tab.fslots 8 4 1 = [] := by rfl
theorem kb8_4_1 : keepB tab.keeps 8 4 1 = false := by rfl
theorem fsl8_5_1 : fslotB tab.fslots 8 5 1 = [] := by rfl
theorem kb8_5_1 : keepB tab.keeps 8 5 1 = false := by rfl
theorem fsl8_5_19 : fslotB tab.fslots 8 5 19 = [] := by rfl
theorem kb8_5_19 : keepB tab.keeps 8 5 19 = false := by rfl
theorem fsl8_7_1 : fslotB tab.fslots 8 7 1 = [] := by rfl
theorem kb8_7_1 : keepB tab.keeps 8 7 1 = false := by rfl
theorem sb8_7_5 : slotB tab.slots 8 7 5 = none := by rfl
theorem fsl8_8_6 : fslotB tab.fslots 8 8 6 = [] := by rfl
theorem kb8_8_6 : keepB tab.keeps 8 8 6 = false := by rfl
theorem ag25 : isAggT Try.prog 25 = some true := by kernel_rfl
theorem sz25 : sizeT Try.prog 25 = some 4 := by kernel_rfl
theorem ldp25 (H : Heap) (id off : Nat) : loadA Try.prog H 25 (.ptr id off) = cellsAt H[id]? off 4 := by kernel_rfl
theorem ldi25 (H : Heap) (cells : List IV) (off : Nat) : loadA Try.prog H 25 (.c (.iptr cells off)) = (takeCells cells off 4).map fun l => .agg (l.map .c) := by kernel_rfl
theorem lde25 (H : Heap) (id off ext : Nat) : loadA Try.prog H 25 (.eptr id off ext) = (rowOf H id ext).bind fun r => (takeCells r.2 off 4).map fun l => .agg (l.map .c) := by kernel_rfl
theorem ln35 (cells : List IV) (n : Nat) (nl : Bool) (cap : Option Nat) : lenA Try.prog 35 (.c (.slice cells n nl cap)) = some (.c (.int .i64 n)) := by kernel_rfl
theorem lnv35 (s n sz : Nat) : lenA Try.prog 35 (lv s sz n) = some (.c (.int .i64 n)) := by
  unfold lv; split
  · rename_i h; subst h; kernel_rfl
  · kernel_rfl
theorem lnh35 (id off n ext sz : Nat) : lenA Try.prog 35 (.hsl id off n ext sz) = some (.c (.int .i64 n)) := by kernel_rfl
theorem fa25_0 (x : AV) : fieldAddrA Try.prog 25 x 0 = addrPlus x 0 := by kernel_rfl
theorem ag3 : isAggT Try.prog 3 = some false := by kernel_rfl
theorem sz3 : sizeT Try.prog 3 = some 1 := by kernel_rfl
theorem ldp3 (H : Heap) (id off : Nat) : loadA Try.prog H 3 (.ptr id off) = cellAt H[id]? off := by kernel_rfl
theorem ldi3 (H : Heap) (cells : List IV) (off : Nat) : loadA Try.prog H 3 (.c (.iptr cells off)) = (cells[off]?).map .c := by kernel_rfl
theorem lde3 (H : Heap) (id off ext : Nat) : loadA Try.prog H 3 (.eptr id off ext) = (rowOf H id ext).bind fun r => (r.2[off]?).map .c := by kernel_rfl
theorem al25 (H : Heap) : allocA Try.prog H 25 = some (.ptr H.length 0, H ++ [.cells 25 [.c (.int .i64 0), .c (.int .i64 0), .c (.slice [] 0 true (some 0)), .c (.slice [] 0 true (some 0))]]) := by kernel_rfl
theorem ev17 (k : Nat) (x0 : AV) (H : Heap) : evalT Try.prog (mkHints tab) (k + 1) (.fn 17) [x0] H = trimO H.length (finishO Try.prog Try.f17.results.toList (evalCode Try.prog (cxG Try.prog (mkHints tab) k 17 none) (Try.f17.body.getD .skip) (fillArgs (fr 12 []) 0 [x0]) H)) := by
  have h := evalT_fn 12 Try.func17 rfl (by decide) rfl (P := Try.prog) (h := mkHints tab) (k := k) (args := [x0]) (H := H)
  rw [show (mkHints tab).slots 17 = 0 from rfl, show (List.replicate 0 AObj.slot) = [] from rfl, List.append_nil] at h
  exact h
theorem fsl17_1_1 : fslotB tab.fslots 17 1 1 = [] := by rfl
theorem kb17_1_1 : keepB tab.keeps 17 1 1 = false := by rfl
theorem ev40 (k : Nat) (H : Heap) : evalT Try.prog (mkHints tab) (k + 1) (.fn 40) [] H = trimO H.length (finishO Try.prog Try.f40.results.toList (evalCode Try.prog (cxG Try.prog (mkHints tab) k 40 none) (Try.f40.body.getD .skip) (fillArgs (fr 27 []) 0 []) H)) := by
  have h := evalT_fn 27 Try.func40 rfl (by decide) rfl (P := Try.prog) (h := mkHints tab) (k := k) (args := []) (H := H)
  rw [show (mkHints tab).slots 40 = 0 from rfl, show (List.replicate 0 AObj.slot) = [] from rfl, List.append_nil] at h
  exact h
theorem fsl40_1_2 : fslotB tab.fslots 40 1 2 = [] := by rfl
theorem kb40_1_2 : keepB tab.keeps 40 1 2 = false := by rfl
theorem sb40_1_6 : slotB tab.slots 40 1 6 = none := by rfl
theorem bs23_1_0 (H : Heap) (a0 : IV) : buildSliceA Try.prog H 23 1 [(0, .c a0)] = some (.hsl H.length 0 1 (1 * 1) 1, H ++ [.row false 3 [a0]]) := by kernel_rfl
theorem bd25_0_1_3_h1 (a0 a1 : IV) (v2 : AV) (hv2 : v2.isCell = true) : buildA Try.prog 25 [(0, .c a0), (1, .c a1), (3, v2)] = some (.agg [.c a0, .c a1, .c (.slice [] 0 true (some 0)), v2]) := by
  cases v2 <;> first | (cases hv2; done) | kernel_rfl
theorem bd25_0_1_3 (a0 a1 a2 : IV) : buildA Try.prog 25 [(0, .c a0), (1, .c a1), (3, .c a2)] = some (.agg [.c a0, .c a1, .c (.slice [] 0 true (some 0)), .c a2]) := by kernel_rfl
theorem fa25_1 (x : AV) : fieldAddrA Try.prog 25 x 1 = addrPlus x 1 := by kernel_rfl
theorem fa25_3 (x : AV) : fieldAddrA Try.prog 25 x 3 = addrPlus x 3 := by kernel_rfl
theorem ag23 : isAggT Try.prog 23 = some false := by kernel_rfl
theorem sz23 : sizeT Try.prog 23 = some 1 := by kernel_rfl
theorem ldp23 (H : Heap) (id off : Nat) : loadA Try.prog H 23 (.ptr id off) = cellAt H[id]? off := by kernel_rfl
theorem ldi23 (H : Heap) (cells : List IV) (off : Nat) : loadA Try.prog H 23 (.c (.iptr cells off)) = (cells[off]?).map .c := by kernel_rfl
theorem lde23 (H : Heap) (id off ext : Nat) : loadA Try.prog H 23 (.eptr id off ext) = (rowOf H id ext).bind fun r => (r.2[off]?).map .c := by kernel_rfl
theorem ln23 (cells : List IV) (n : Nat) (nl : Bool) (cap : Option Nat) : lenA Try.prog 23 (.c (.slice cells n nl cap)) = some (.c (.int .i64 n)) := by kernel_rfl
theorem lnv23 (s n sz : Nat) : lenA Try.prog 23 (lv s sz n) = some (.c (.int .i64 n)) := by
  unfold lv; split
  · rename_i h; subst h; kernel_rfl
  · kernel_rfl
theorem lnh23 (id off n ext sz : Nat) : lenA Try.prog 23 (.hsl id off n ext sz) = some (.c (.int .i64 n)) := by kernel_rfl
theorem ev41 (k : Nat) (x0 : AV) (H : Heap) : evalT Try.prog (mkHints tab) (k + 1) (.fn 41) [x0] H = trimO H.length (finishO Try.prog Try.f41.results.toList (evalCode Try.prog (cxG Try.prog (mkHints tab) k 41 none) (Try.f41.body.getD .skip) (fillArgs (fr 58 []) 0 [x0]) (H ++ [.slot, .slot]))) := evalT_fn 58 Try.func41 rfl (by decide) rfl
theorem fsl41_11_8 : fslotB tab.fslots 41 11 8 = [] := by rfl
theorem kb41_11_8 : keepB tab.keeps 41 11 8 = false := by rfl
theorem sb41_11_10 : slotB tab.slots 41 11 10 = some 0 := by rfl
theorem sb41_12_3 : slotB tab.slots 41 12 3 = some 1 := by rfl
theorem ag38 : isAggT Try.prog 38 = some false := by kernel_rfl
theorem sz38 : sizeT Try.prog 38 = some 1 := by kernel_rfl
theorem ia35 (H : Heap) (cells : List IV) (len : Nat) (nl : Bool) (cap : Option Nat) (k : IntKind) (i : Int) : indexAddrA Try.prog H 35 (.c (.slice cells len nl cap)) (.c (.int k i)) = if 0 ≤ i ∧ i < len then some (.c (.iptr cells (i.toNat * 1))) else none := by kernel_rfl
theorem iah35 (H : Heap) (id off len ext sz : Nat) (k : IntKind) (i : Int) : indexAddrA Try.prog H 35 (.hsl id off len ext sz) (.c (.int k i)) = if 0 ≤ i ∧ i < len ∧ sz = 1 ∧ (rowOf H id ext).isSome = true then some (.eptr id (off + i.toNat * 1) ext) else none := by kernel_rfl
theorem ldp38 (H : Heap) (id off : Nat) : loadA Try.prog H 38 (.ptr id off) = cellAt H[id]? off := by kernel_rfl
theorem ldi38 (H : Heap) (cells : List IV) (off : Nat) : loadA Try.prog H 38 (.c (.iptr cells off)) = (cells[off]?).map .c := by kernel_rfl
theorem lde38 (H : Heap) (id off ext : Nat) : loadA Try.prog H 38 (.eptr id off ext) = (rowOf H id ext).bind fun r => (r.2[off]?).map .c := by kernel_rfl
theorem ln38 (cells : List IV) (n : Nat) (nl : Bool) (cap : Option Nat) : lenA Try.prog 38 (.c (.slice cells n nl cap)) = some (.c (.int .i64 n)) := by kernel_rfl
theorem lnv38 (s n sz : Nat) : lenA Try.prog 38 (lv s sz n) = some (.c (.int .i64 n)) := by
  unfold lv; split
  · rename_i h; subst h; kernel_rfl
  · kernel_rfl
theorem lnh38 (id off n ext sz : Nat) : lenA Try.prog 38 (.hsl id off n ext sz) = some (.c (.int .i64 n)) := by kernel_rfl
theorem dr41_5 : drawFact Try.f41 5 [0, 0, 3, 7, 15, 0, 32, 96, 224, 511, 1023, 2047, 2047, 8191, 16383, 32767, 65535, 131071] = true := by kernel_rfl
theorem bs40_0_ (H : Heap) : buildSliceA Try.prog H 40 0 [] = some (.hsl H.length 0 0 (0 * 2) 2, H ++ [.row false 43 []]) := by kernel_rfl
theorem ag2 : isAggT Try.prog 2 = some false := by kernel_rfl
theorem sz2 : sizeT Try.prog 2 = some 1 := by kernel_rfl
theorem ia38 (H : Heap) (cells : List IV) (len : Nat) (nl : Bool) (cap : Option Nat) (k : IntKind) (i : Int) : indexAddrA Try.prog H 38 (.c (.slice cells len nl cap)) (.c (.int k i)) = if 0 ≤ i ∧ i < len then some (.c (.iptr cells (i.toNat * 1))) else none := by kernel_rfl
theorem iah38 (H : Heap) (id off len ext sz : Nat) (k : IntKind) (i : Int) : indexAddrA Try.prog H 38 (.hsl id off len ext sz) (.c (.int k i)) = if 0 ≤ i ∧ i < len ∧ sz = 1 ∧ (rowOf H id ext).isSome = true then some (.eptr id (off + i.toNat * 1) ext) else none := by kernel_rfl
theorem ldp2 (H : Heap) (id off : Nat) : loadA Try.prog H 2 (.ptr id off) = cellAt H[id]? off := by kernel_rfl
theorem ldi2 (H : Heap) (cells : List IV) (off : Nat) : loadA Try.prog H 2 (.c (.iptr cells off)) = (cells[off]?).map .c := by kernel_rfl
theorem lde2 (H : Heap) (id off ext : Nat) : loadA Try.prog H 2 (.eptr id off ext) = (rowOf H id ext).bind fun r => (r.2[off]?).map .c := by kernel_rfl
theorem bs40_1_0 (H : Heap) (a0 a1 : IV) : buildSliceA Try.prog H 40 1 [(0, .agg [.c a0, .c a1])] = some (.hsl H.length 0 1 (1 * 2) 2, H ++ [.row false 43 [a0, a1]]) := by kernel_rfl
theorem ap40 (H : Heap) (sl : Option Nat) (s x : AV) : appendA Try.prog H sl 40 s x = apO 43 2 32 sl s H (srcOf H 2 x) := by kernel_rfl
theorem bs37_1_0 (H : Heap) (a0 : IV) : buildSliceA Try.prog H 37 1 [(0, .c a0)] = some (.hsl H.length 0 1 (1 * 1) 1, H ++ [.row false 40 [a0]]) := by kernel_rfl
theorem ap37 (H : Heap) (sl : Option Nat) (s x : AV) : appendA Try.prog H sl 37 s x = apO 40 1 24 sl s H (srcOf H 1 x) := by kernel_rfl
theorem ev42 (k : Nat) (x0 : AV) (H : Heap) : evalT Try.prog (mkHints tab) (k + 1) (.fn 42) [x0] H = trimO H.length (finishO Try.prog Try.f42.results.toList (evalCode Try.prog (cxG Try.prog (mkHints tab) k 42 none) (Try.f42.body.getD .skip) (fillArgs (fr 13 []) 0 [x0]) H)) := by
  have h := evalT_fn 13 Try.func42 rfl (by decide) rfl (P := Try.prog) (h := mkHints tab) (k := k) (args := [x0]) (H := H)
  rw [show (mkHints tab).slots 42 = 0 from rfl, show (List.replicate 0 AObj.slot) = [] from rfl, List.append_nil] at h
  exact h
theorem fa25_2 (x : AV) : fieldAddrA Try.prog 25 x 2 = addrPlus x 2 := by kernel_rfl
theorem ag22 : isAggT Try.prog 22 = some false := by kernel_rfl
theorem sz22 : sizeT Try.prog 22 = some 1 := by kernel_rfl
theorem ldp22 (H : Heap) (id off : Nat) : loadA Try.prog H 22 (.ptr id off) = cellAt H[id]? off := by kernel_rfl
theorem ldi22 (H : Heap) (cells : List IV) (off : Nat) : loadA Try.prog H 22 (.c (.iptr cells off)) = (cells[off]?).map .c := by kernel_rfl
theorem lde22 (H : Heap) (id off ext : Nat) : loadA Try.prog H 22 (.eptr id off ext) = (rowOf H id ext).bind fun r => (r.2[off]?).map .c := by kernel_rfl
theorem ln22 (cells : List IV) (n : Nat) (nl : Bool) (cap : Option Nat) : lenA Try.prog 22 (.c (.slice cells n nl cap)) = some (.c (.int .i64 n)) := by kernel_rfl
theorem lnv22 (s n sz : Nat) : lenA Try.prog 22 (lv s sz n) = some (.c (.int .i64 n)) := by
  unfold lv; split
  · rename_i h; subst h; kernel_rfl
  · kernel_rfl
theorem lnh22 (id off n ext sz : Nat) : lenA Try.prog 22 (.hsl id off n ext sz) = some (.c (.int .i64 n)) := by kernel_rfl
theorem ev43 (k : Nat) (x0 : AV) (H : Heap) : evalT Try.prog (mkHints tab) (k + 1) (.fn 43) [x0] H = trimO H.length (finishO Try.prog Try.f43.results.toList (evalCode Try.prog (cxG Try.prog (mkHints tab) k 43 none) (Try.f43.body.getD .skip) (fillArgs (fr 22 []) 0 [x0]) H)) := by
  have h := evalT_fn 22 Try.func43 rfl (by decide) rfl (P := Try.prog) (h := mkHints tab) (k := k) (args := [x0]) (H := H)
  rw [show (mkHints tab).slots 43 = 0 from rfl, show (List.replicate 0 AObj.slot) = [] from rfl, List.append_nil] at h
  exact h
theorem ag34 : isAggT Try.prog 34 = some true := by kernel_rfl
theorem sz34 : sizeT Try.prog 34 = some 5 := by kernel_rfl
theorem ia22 (H : Heap) (cells : List IV) (len : Nat) (nl : Bool) (cap : Option Nat) (k : IntKind) (i : Int) : indexAddrA Try.prog H 22 (.c (.slice cells len nl cap)) (.c (.int k i)) = if 0 ≤ i ∧ i < len then some (.c (.iptr cells (i.toNat * 5))) else none := by kernel_rfl
theorem iah22 (H : Heap) (id off len ext sz : Nat) (k : IntKind) (i : Int) : indexAddrA Try.prog H 22 (.hsl id off len ext sz) (.c (.int k i)) = if 0 ≤ i ∧ i < len ∧ sz = 5 ∧ (rowOf H id ext).isSome = true then some (.eptr id (off + i.toNat * 5) ext) else none := by kernel_rfl
theorem fa34_0 (x : AV) : fieldAddrA Try.prog 34 x 0 = addrPlus x 0 := by kernel_rfl
theorem ev44 (k : Nat) (x0 : AV) (H : Heap) : evalT Try.prog (mkHints tab) (k + 1) (.fn 44) [x0] H = trimO H.length (finishO Try.prog Try.f44.results.toList (evalCode Try.prog (cxG Try.prog (mkHints tab) k 44 none) (Try.f44.body.getD .skip) (fillArgs (fr 208 []) 0 [x0]) (H ++ [.slot, .slot, .slot]))) := evalT_fn 208 Try.func44 rfl (by decide) rfl
theorem sb44_0_1 : slotB tab.slots 44 0 1 = none := by rfl
theorem fsl44_1_1 : fslotB tab.fslots 44 1 1 = [] := by rfl
theorem kb44_1_1 : keepB tab.keeps 44 1 1 = false := by rfl
theorem fsl44_8_9 : fslotB tab.fslots 44 8 9 = [2] := by rfl
theorem kb44_8_9 : keepB tab.keeps 44 8 9 = false := by rfl
theorem fsl44_11_11 : fslotB tab.fslots 44 11 11 = [] := by rfl
theorem kb44_11_11 : keepB tab.keeps 44 11 11 = false := by rfl
theorem sb44_12_11 : slotB tab.slots 44 12 11 = none := by rfl
theorem sb44_15_3 : slotB tab.slots 44 15 3 = none := by rfl
theorem fsl44_17_1 : fslotB tab.fslots 44 17 1 = [] := by rfl
theorem kb44_17_1 : keepB tab.keeps 44 17 1 = false := by rfl
theorem fsl44_27_8 : fslotB tab.fslots 44 27 8 = [] := by rfl
theorem kb44_27_8 : keepB tab.keeps 44 27 8 = false := by rfl
theorem sb44_28_4 : slotB tab.slots 44 28 4 = some 0 := by rfl
theorem sb44_34_9 : slotB tab.slots 44 34 9 = some 1 := by rfl
theorem bd25_ : buildA Try.prog 25 [] = some (.agg [.c (.int .i64 0), .c (.int .i64 0), .c (.slice [] 0 true (some 0)), .c (.slice [] 0 true (some 0))]) := by kernel_rfl
theorem bd125_0 (a0 : IV) : buildA Try.prog 125 [(0, .c a0)] = some (.agg [.c a0, .c (.slice [] 0 true (some 0))]) := by kernel_rfl
theorem fa128_6 (x : AV) : fieldAddrA Try.prog 128 x 6 = addrPlus x 9 := by kernel_rfl
theorem ia23 (H : Heap) (cells : List IV) (len : Nat) (nl : Bool) (cap : Option Nat) (k : IntKind) (i : Int) : indexAddrA Try.prog H 23 (.c (.slice cells len nl cap)) (.c (.int k i)) = if 0 ≤ i ∧ i < len then some (.c (.iptr cells (i.toNat * 1))) else none := by kernel_rfl
theorem iah23 (H : Heap) (id off len ext sz : Nat) (k : IntKind) (i : Int) : indexAddrA Try.prog H 23 (.hsl id off len ext sz) (.c (.int k i)) = if 0 ≤ i ∧ i < len ∧ sz = 1 ∧ (rowOf H id ext).isSome = true then some (.eptr id (off + i.toNat * 1) ext) else none := by kernel_rfl
theorem dr44_10 : drawFact Try.f44 10 [0, 1, 3, 7, 0, 16, 63, 127, 255] = true := by kernel_rfl
theorem dr44_11 : drawFact Try.f44 11 [0, 0, 2, 0, 8, 24, 56, 0, 128, 504, 1016, 2047] = true := by kernel_rfl
theorem fa125_1 (x : AV) : fieldAddrA Try.prog 125 x 1 = addrPlus x 1 := by kernel_rfl
theorem ag64 : isAggT Try.prog 64 = some false := by kernel_rfl
theorem sz64 : sizeT Try.prog 64 = some 1 := by kernel_rfl
theorem ldp64 (H : Heap) (id off : Nat) : loadA Try.prog H 64 (.ptr id off) = cellAt H[id]? off := by kernel_rfl
theorem ldi64 (H : Heap) (cells : List IV) (off : Nat) : loadA Try.prog H 64 (.c (.iptr cells off)) = (cells[off]?).map .c := by kernel_rfl
theorem lde64 (H : Heap) (id off ext : Nat) : loadA Try.prog H 64 (.eptr id off ext) = (rowOf H id ext).bind fun r => (r.2[off]?).map .c := by kernel_rfl
theorem ln64 (cells : List IV) (n : Nat) (nl : Bool) (cap : Option Nat) : lenA Try.prog 64 (.c (.slice cells n nl cap)) = some (.c (.int .i64 n)) := by kernel_rfl
theorem lnv64 (s n sz : Nat) : lenA Try.prog 64 (lv s sz n) = some (.c (.int .i64 n)) := by
  unfold lv; split
  · rename_i h; subst h; kernel_rfl
  · kernel_rfl
theorem lnh64 (id off n ext sz : Nat) : lenA Try.prog 64 (.hsl id off n ext sz) = some (.c (.int .i64 n)) := by kernel_rfl
theorem bd25_0_1 (a0 a1 : IV) : buildA Try.prog 25 [(0, .c a0), (1, .c a1)] = some (.agg [.c a0, .c a1, .c (.slice [] 0 true (some 0)), .c (.slice [] 0 true (some 0))]) := by kernel_rfl
theorem dr44_12 : drawFact Try.f44 12 [0, 1, 0, 4, 0, 16, 48, 112, 240, 508, 1023, 0, 4095] = true := by kernel_rfl
theorem ldp34 (H : Heap) (id off : Nat) : loadA Try.prog H 34 (.ptr id off) = cellsAt H[id]? off 5 := by kernel_rfl
theorem ldi34 (H : Heap) (cells : List IV) (off : Nat) : loadA Try.prog H 34 (.c (.iptr cells off)) = (takeCells cells off 5).map fun l => .agg (l.map .c) := by kernel_rfl
theorem lde34 (H : Heap) (id off ext : Nat) : loadA Try.prog H 34 (.eptr id off ext) = (rowOf H id ext).bind fun r => (takeCells r.2 off 5).map fun l => .agg (l.map .c) := by kernel_rfl
theorem al34 (H : Heap) : allocA Try.prog H 34 = some (.ptr H.length 0, H ++ [.cells 34 [.c (.int .i64 0), .c (.int .i64 0), .c (.int .i64 0), .c (.int .i64 0), .c (.int .i64 0)]]) := by kernel_rfl
theorem fa128_1 (x : AV) : fieldAddrA Try.prog 128 x 1 = addrPlus x 4 := by kernel_rfl
theorem ag4 : isAggT Try.prog 4 = some false := by kernel_rfl
theorem sz4 : sizeT Try.prog 4 = some 1 := by kernel_rfl
theorem ia64 (H : Heap) (cells : List IV) (len : Nat) (nl : Bool) (cap : Option Nat) (k : IntKind) (i : Int) : indexAddrA Try.prog H 64 (.c (.slice cells len nl cap)) (.c (.int k i)) = if 0 ≤ i ∧ i < len then some (.c (.iptr cells (i.toNat * 1))) else none := by kernel_rfl
theorem iah64 (H : Heap) (id off len ext sz : Nat) (k : IntKind) (i : Int) : indexAddrA Try.prog H 64 (.hsl id off len ext sz) (.c (.int k i)) = if 0 ≤ i ∧ i < len ∧ sz = 1 ∧ (rowOf H id ext).isSome = true then some (.eptr id (off + i.toNat * 1) ext) else none := by kernel_rfl
theorem ldp4 (H : Heap) (id off : Nat) : loadA Try.prog H 4 (.ptr id off) = cellAt H[id]? off := by kernel_rfl
theorem ldi4 (H : Heap) (cells : List IV) (off : Nat) : loadA Try.prog H 4 (.c (.iptr cells off)) = (cells[off]?).map .c := by kernel_rfl
theorem lde4 (H : Heap) (id off ext : Nat) : loadA Try.prog H 4 (.eptr id off ext) = (rowOf H id ext).bind fun r => (r.2[off]?).map .c := by kernel_rfl
theorem fa125_0 (x : AV) : fieldAddrA Try.prog 125 x 0 = addrPlus x 0 := by kernel_rfl
theorem ag123 : isAggT Try.prog 123 = some false := by kernel_rfl
theorem sz123 : sizeT Try.prog 123 = some 1 := by kernel_rfl
theorem ldp123 (H : Heap) (id off : Nat) : loadA Try.prog H 123 (.ptr id off) = cellAt H[id]? off := by kernel_rfl
theorem ldi123 (H : Heap) (cells : List IV) (off : Nat) : loadA Try.prog H 123 (.c (.iptr cells off)) = (cells[off]?).map .c := by kernel_rfl
theorem lde123 (H : Heap) (id off ext : Nat) : loadA Try.prog H 123 (.eptr id off ext) = (rowOf H id ext).bind fun r => (r.2[off]?).map .c := by kernel_rfl
theorem fa128_2 (x : AV) : fieldAddrA Try.prog 128 x 2 = addrPlus x 5 := by kernel_rfl
theorem fa34_2 (x : AV) : fieldAddrA Try.prog 34 x 2 = addrPlus x 2 := by kernel_rfl
theorem dr44_18 : drawFact Try.f44 18 [0, 1, 3, 7, 0, 16, 48, 112, 0, 496, 1008, 2047, 4095, 8191] = true := by kernel_rfl
theorem fa128_3 (x : AV) : fieldAddrA Try.prog 128 x 3 = addrPlus x 6 := by kernel_rfl
theorem fa34_3 (x : AV) : fieldAddrA Try.prog 34 x 3 = addrPlus x 3 := by kernel_rfl
theorem dr44_20 : drawFact Try.f44 20 [0, 1, 3, 7, 0, 16, 48, 112, 0, 496, 1008, 2047, 4095, 8191] = true := by kernel_rfl
theorem bd62_0_1 (a0 a1 : IV) : buildA Try.prog 62 [(0, .c a0), (1, .c a1)] = some (.agg [.c a0, .c a1]) := by kernel_rfl
theorem dr44_21 : drawFact Try.f44 21 [0, 1, 3, 7, 0, 31, 63, 0, 128, 384, 896, 0, 3968, 8064, 16383, 0] = true := by kernel_rfl
theorem dr44_25 : drawFact Try.f44 25 [0, 1, 3, 7, 0, 16, 48, 112, 0, 496, 1023, 2047] = true := by kernel_rfl
theorem fa128_4 (x : AV) : fieldAddrA Try.prog 128 x 4 = addrPlus x 7 := by kernel_rfl
theorem fa34_1 (x : AV) : fieldAddrA Try.prog 34 x 1 = addrPlus x 1 := by kernel_rfl
theorem bs22_1_0 (H : Heap) (a0 a1 a2 a3 a4 : IV) : buildSliceA Try.prog H 22 1 [(0, .agg [.c a0, .c a1, .c a2, .c a3, .c a4])] = some (.hsl H.length 0 1 (1 * 5) 5, H ++ [.row false 34 [a0, a1, a2, a3, a4]]) := by kernel_rfl
theorem ap22 (H : Heap) (sl : Option Nat) (s x : AV) : appendA Try.prog H sl 22 s x = apO 34 5 40 sl s H (srcOf H 5 x) := by kernel_rfl
theorem fa128_5 (x : AV) : fieldAddrA Try.prog 128 x 5 = addrPlus x 8 := by kernel_rfl
theorem ap23 (H : Heap) (sl : Option Nat) (s x : AV) : appendA Try.prog H sl 23 s x = apO 3 1 8 sl s H (srcOf H 1 x) := by kernel_rfl
theorem dr44_34 : drawFact Try.f44 34 [0, 1, 0, 4, 12, 28, 0, 124, 252, 511, 1023, 2047] = true := by kernel_rfl
theorem ev45 (k : Nat) (x0 x1 x2 : AV) (H : Heap) : evalT Try.prog (mkHints tab) (k + 1) (.fn 45) [x0, x1, x2] H = trimO H.length (finishO Try.prog Try.f45.results.toList (evalCode Try.prog (cxG Try.prog (mkHints tab) k 45 none) (Try.f45.body.getD .skip) (fillArgs (fr 76 []) 0 [x0, x1, x2]) H)) := by
  have h := evalT_fn 76 Try.func45 rfl (by decide) rfl (P := Try.prog) (h := mkHints tab) (k := k) (args := [x0, x1, x2]) (H := H)
  rw [show (mkHints tab).slots 45 = 0 from rfl, show (List.replicate 0 AObj.slot) = [] from rfl, List.append_nil] at h
  exact h
theorem fsl45_1_1 : fslotB tab.fslots 45 1 1 = [] := by rfl
theorem kb45_1_1 : keepB tab.keeps 45 1 1 = false := by rfl
theorem fsl45_4_2 : fslotB tab.fslots 45 4 2 = [] := by rfl
theorem kb45_4_2 : keepB tab.keeps 45 4 2 = false := by rfl
theorem fsl45_7_2 : fslotB tab.fslots 45 7 2 = [] := by rfl
theorem kb45_7_2 : keepB tab.keeps 45 7 2 = false := by rfl
theorem fsl45_13_8 : fslotB tab.fslots 45 13 8 = [] := by rfl
theorem kb45_13_8 : keepB tab.keeps 45 13 8 = false := by rfl
theorem ln37 (cells : List IV) (n : Nat) (nl : Bool) (cap : Option Nat) : lenA Try.prog 37 (.c (.slice cells n nl cap)) = some (.c (.int .i64 n)) := by kernel_rfl
theorem lnv37 (s n sz : Nat) : lenA Try.prog 37 (lv s sz n) = some (.c (.int .i64 n)) := by
  unfold lv; split
  · rename_i h; subst h; kernel_rfl
  · kernel_rfl
theorem lnh37 (id off n ext sz : Nat) : lenA Try.prog 37 (.hsl id off n ext sz) = some (.c (.int .i64 n)) := by kernel_rfl
theorem ag40 : isAggT Try.prog 40 = some false := by kernel_rfl
theorem sz40 : sizeT Try.prog 40 = some 1 := by kernel_rfl
theorem ia37 (H : Heap) (cells : List IV) (len : Nat) (nl : Bool) (cap : Option Nat) (k : IntKind) (i : Int) : indexAddrA Try.prog H 37 (.c (.slice cells len nl cap)) (.c (.int k i)) = if 0 ≤ i ∧ i < len then some (.c (.iptr cells (i.toNat * 1))) else none := by kernel_rfl
theorem iah37 (H : Heap) (id off len ext sz : Nat) (k : IntKind) (i : Int) : indexAddrA Try.prog H 37 (.hsl id off len ext sz) (.c (.int k i)) = if 0 ≤ i ∧ i < len ∧ sz = 1 ∧ (rowOf H id ext).isSome = true then some (.eptr id (off + i.toNat * 1) ext) else none := by kernel_rfl
theorem ldp40 (H : Heap) (id off : Nat) : loadA Try.prog H 40 (.ptr id off) = cellAt H[id]? off := by kernel_rfl
theorem ldi40 (H : Heap) (cells : List IV) (off : Nat) : loadA Try.prog H 40 (.c (.iptr cells off)) = (cells[off]?).map .c := by kernel_rfl
theorem lde40 (H : Heap) (id off ext : Nat) : loadA Try.prog H 40 (.eptr id off ext) = (rowOf H id ext).bind fun r => (r.2[off]?).map .c := by kernel_rfl
theorem dr45_13 : drawFact Try.f45 13 [0, 0, 3, 7, 0, 0, 48, 112, 255, 511] = true := by kernel_rfl
theorem ev67 (k : Nat) (x0 : AV) (H : Heap) : evalT Try.prog (mkHints tab) (k + 1) (.fn 67) [x0] H = trimO H.length (finishO Try.prog Try.f67.results.toList (evalCode Try.prog (cxG Try.prog (mkHints tab) k 67 none) (Try.f67.body.getD .skip) (fillArgs (fr 79 []) 0 [x0]) H)) := by
  have h := evalT_fn 79 Try.func67 rfl (by decide) rfl (P := Try.prog) (h := mkHints tab) (k := k) (args := [x0]) (H := H)
  rw [show (mkHints tab).slots 67 = 0 from rfl, show (List.replicate 0 AObj.slot) = [] from rfl, List.append_nil] at h
  exact h
theorem fsl67_11_7 : fslotB tab.fslots 67 11 7 = [] := by rfl
theorem kb67_11_7 : keepB tab.keeps 67 11 7 = false := by rfl
theorem dr67_6 : drawFact Try.f67 6 [0, 1, 0, 7, 15, 31, 63, 127, 255, 127, 1023, 2047, 127, 4223, 16383, 32767] = true := by kernel_rfl
theorem dr67_11 : drawFact Try.f67 11 [0, 1, 0, 7, 15, 0, 32, 127, 255] = true := by kernel_rfl
theorem ev22 (k : Nat) (x0 : AV) (H : Heap) : evalT Try.prog (mkHints tab) (k + 1) (.fn 22) [x0] H = trimO H.length (finishO Try.prog Try.f22.results.toList (evalCode Try.prog (cxG Try.prog (mkHints tab) k 22 none) (Try.f22.body.getD .skip) (fillArgs (fr 25 []) 0 [x0]) (H ++ [.slot]))) := evalT_fn 25 Try.func22 rfl (by decide) rfl
theorem sb22_0_0 : slotB tab.slots 22 0 0 = none := by rfl
theorem sb22_6_5 : slotB tab.slots 22 6 5 = some 0 := by rfl
theorem fsl22_8_3 : fslotB tab.fslots 22 8 3 = [] := by rfl
theorem kb22_8_3 : keepB tab.keeps 22 8 3 = false := by rfl
theorem al43 (H : Heap) : allocA Try.prog H 43 = some (.ptr H.length 0, H ++ [.cells 43 [.c (.bool false), .c (.slice [] 0 true (some 0))]]) := by kernel_rfl
theorem cv2_101 (k : IntKind) (n : Int) : convA Try.prog 2 101 (.c (.int k n)) = some (.c (.int .u64 (IntKind.wrap .u64 n))) := by kernel_rfl
theorem cv101_102 (k : IntKind) (n : Int) : convA Try.prog 101 102 (.c (.int k n)) = some (.c (.int .u32 (IntKind.wrap .u32 n))) := by kernel_rfl
theorem bs41_1_0 (H : Heap) (a0 : IV) : buildSliceA Try.prog H 41 1 [(0, .c a0)] = some (.hsl H.length 0 1 (1 * 1) 1, H ++ [.row false 102 [a0]]) := by kernel_rfl
theorem ap41 (H : Heap) (sl : Option Nat) (s x : AV) : appendA Try.prog H sl 41 s x = apO 102 1 4 sl s H (srcOf H 1 x) := by kernel_rfl
theorem ag43 : isAggT Try.prog 43 = some true := by kernel_rfl
theorem sz43 : sizeT Try.prog 43 = some 2 := by kernel_rfl
theorem ev79 (k : Nat) (x0 : AV) (H : Heap) : evalT Try.prog (mkHints tab) (k + 1) (.fn 79) [x0] H = trimO H.length (finishO Try.prog Try.f79.results.toList (evalCode Try.prog (cxG Try.prog (mkHints tab) k 79 none) (Try.f79.body.getD .skip) (fillArgs (fr 23 []) 0 [x0]) H)) := by
  have h := evalT_fn 23 Try.func79 rfl (by decide) rfl (P := Try.prog) (h := mkHints tab) (k := k) (args := [x0]) (H := H)
  rw [show (mkHints tab).slots 79 = 0 from rfl, show (List.replicate 0 AObj.slot) = [] from rfl, List.append_nil] at h
  exact h
theorem bs23_2_0_1 (H : Heap) (a0 a1 : IV) : buildSliceA Try.prog H 23 2 [(0, .c a0), (1, .c a1)] = some (.hsl H.length 0 2 (2 * 1) 1, H ++ [.row false 3 [a0, a1]]) := by kernel_rfl
theorem ev82 (k : Nat) (x0 : AV) (H : Heap) : evalT Try.prog (mkHints tab) (k + 1) (.fn 82) [x0] H = trimO H.length (finishO Try.prog Try.f82.results.toList (evalCode Try.prog (cxG Try.prog (mkHints tab) k 82 none) (Try.f82.body.getD .skip) (fillArgs (fr 203 []) 0 [x0]) (H ++ [.slot, .slot, .slot, .slot, .slot]))) := evalT_fn 203 Try.func82 rfl (by decide) rfl
theorem fsl82_1_1 : fslotB tab.fslots 82 1 1 = [] := by rfl
theorem kb82_1_1 : keepB tab.keeps 82 1 1 = false := by rfl
theorem sb82_5_3 : slotB tab.slots 82 5 3 = some 2 := by rfl
theorem sb82_5_5 : slotB tab.slots 82 5 5 = some 3 := by rfl
theorem sb82_5_7 : slotB tab.slots 82 5 7 = some 4 := by rfl
theorem sb82_6_2 : slotB tab.slots 82 6 2 = none := by rfl
theorem fsl82_10_4 : fslotB tab.fslots 82 10 4 = [] := by rfl
theorem kb82_10_4 : keepB tab.keeps 82 10 4 = false := by rfl
theorem sb82_14_6 : slotB tab.slots 82 14 6 = some 0 := by rfl
theorem sb82_18_3 : slotB tab.slots 82 18 3 = none := by rfl
theorem fsl82_21_1 : fslotB tab.fslots 82 21 1 = [] := by rfl
theorem kb82_21_1 : keepB tab.keeps 82 21 1 = false := by rfl
theorem sb82_25_6 : slotB tab.slots 82 25 6 = some 0 := by rfl
theorem sb82_30_10 : slotB tab.slots 82 30 10 = some 1 := by rfl
theorem ms23 (H : Heap) (l c : Int) : makeSliceA Try.prog H none 23 (.c (.int .i64 l)) (.c (.int .i64 c)) = if 0 ≤ l ∧ l = c ∧ c.toNat * 8 ≤ roomBytes ∧ c.toNat ≤ roomBytes ∧ 1 = 1 ∧ 0 < 1 then some (.hsl H.length 0 l.toNat (c.toNat * 1) 1, H ++ [.row false 3 ((List.replicate c.toNat [.int .i64 0]).flatten)]) else none := by kernel_rfl
theorem bd128_0_1_2_3_4 (a0 a1 a2 a3 a4 a5 a6 a7 : IV) : buildA Try.prog 128 [(0, .agg [.c a0, .c a1, .c a2, .c a3]), (1, .c a4), (2, .c a5), (3, .c a6), (4, .c a7)] = some (.agg [.c a0, .c a1, .c a2, .c a3, .c a4, .c a5, .c a6, .c a7, .c (.slice [] 0 true (some 0)), .c (.slice [] 0 true (some 0))]) := by kernel_rfl
theorem dr82_5 : drawFact Try.f82 5 [0, 0, 0, 4, 0, 16, 0, 64, 255, 511, 1023] = true := by kernel_rfl
theorem dr82_20 : drawFact Try.f82 20 [0, 1, 3, 7, 0, 0, 32, 96, 224, 0, 0, 0, 2048, 7168, 15360, 0, 0, 65536, 229376, 491520, 1048063, 2096639, 4194303, 8388607] = true := by kernel_rfl
theorem dr82_22 : drawFact Try.f82 22 [0, 1, 3, 7, 0, 0, 0, 64, 224, 480, 1023, 2047] = true := by kernel_rfl
theorem dr82_23 : drawFact Try.f82 23 [0, 1, 3, 7, 0, 16, 48, 112, 0, 496, 1008, 0, 2048, 6144, 14336, 0, 32768, 98304, 229376, 0, 1015808, 2064384, 0, 0, 8388607, 25165823, 67108863, 134217727] = true := by kernel_rfl
theorem dr82_24 : drawFact Try.f82 24 [0, 1, 3, 7, 0, 0, 0, 64, 0, 256, 768, 1792, 3840, 0, 8192, 24576, 57344, 122880, 130847, 392991, 1048575, 2097151] = true := by kernel_rfl
theorem dr82_30 : drawFact Try.f82 30 [0, 0, 2, 6, 14, 0, 0, 96, 224, 480, 1022, 2047, 4095, 8191] = true := by kernel_rfl
theorem dr82_31 : drawFact Try.f82 31 [0, 1, 3, 7, 0, 0, 48, 112, 0, 511, 1023] = true := by kernel_rfl
theorem ev83 (k : Nat) (x0 x1 x2 : AV) (H : Heap) : evalT Try.prog (mkHints tab) (k + 1) (.fn 83) [x0, x1, x2] H = trimO H.length (finishO Try.prog Try.f83.results.toList (evalCode Try.prog (cxG Try.prog (mkHints tab) k 83 none) (Try.f83.body.getD .skip) (fillArgs (fr 27 []) 0 [x0, x1, x2]) (H ++ [.slot]))) := evalT_fn 27 Try.func83 rfl (by decide) rfl
theorem sb83_1_8 : slotB tab.slots 83 1 8 = some 2 := by rfl
theorem dr83_0 : drawFact Try.f83 0 [0, 1, 3, 7, 0, 0, 32, 96, 224, 480, 1023] = true := by kernel_rfl
theorem bs64_1_0 (H : Heap) (a0 : IV) : buildSliceA Try.prog H 64 1 [(0, .c a0)] = some (.hsl H.length 0 1 (1 * 1) 1, H ++ [.row false 4 [a0]]) := by kernel_rfl
theorem ap64 (H : Heap) (sl : Option Nat) (s x : AV) : appendA Try.prog H sl 64 s x = apO 4 1 1 sl s H (srcOf H 1 x) := by kernel_rfl
theorem ev84 (k : Nat) (x0 x1 : AV) (H : Heap) : evalT Try.prog (mkHints tab) (k + 1) (.fn 84) [x0, x1] H = trimO H.length (finishO Try.prog Try.f84.results.toList (evalCode Try.prog (cxG Try.prog (mkHints tab) k 84 none) (Try.f84.body.getD .skip) (fillArgs (fr 60 []) 0 [x0, x1]) H)) := by
  have h := evalT_fn 60 Try.func84 rfl (by decide) rfl (P := Try.prog) (h := mkHints tab) (k := k) (args := [x0, x1]) (H := H)
  rw [show (mkHints tab).slots 84 = 0 from rfl, show (List.replicate 0 AObj.slot) = [] from rfl, List.append_nil] at h
  exact h
theorem sb84_9_6 : slotB tab.slots 84 9 6 = none := by rfl
theorem dr84_5 : drawFact Try.f84 5 [0, 1, 3, 7, 0, 0, 32, 96, 224, 0, 0, 511, 2559, 7679, 16383, 32767] = true := by kernel_rfl
theorem dr84_8 : drawFact Try.f84 8 [0, 1, 3, 7, 0, 0, 32, 96, 224, 480, 1023] = true := by kernel_rfl
theorem ev23 (k : Nat) (x0 x1 : AV) (H : Heap) : evalT Try.prog (mkHints tab) (k + 1) (.fn 23) [x0, x1] H = trimO H.length (finishO Try.prog Try.f23.results.toList (evalCode Try.prog (cxG Try.prog (mkHints tab) k 23 none) (Try.f23.body.getD .skip) (fillArgs (fr 97 []) 0 [x0, x1]) (H ++ [.slot, .slot]))) := evalT_fn 97 Try.func23 rfl (by decide) rfl
theorem sb23_1_2 : slotB tab.slots 23 1 2 = none := by rfl
theorem fsl23_5_6 : fslotB tab.fslots 23 5 6 = [] := by rfl
theorem kb23_5_6 : keepB tab.keeps 23 5 6 = false := by rfl
theorem fsl23_12_6 : fslotB tab.fslots 23 12 6 = [] := by rfl
theorem kb23_12_6 : keepB tab.keeps 23 12 6 = false := by rfl
theorem sb23_16_3 : slotB tab.slots 23 16 3 = some 0 := by rfl
theorem sb23_21_10 : slotB tab.slots 23 21 10 = some 1 := by rfl
theorem ms37 (H : Heap) (l c : Int) : makeSliceA Try.prog H none 37 (.c (.int .i64 l)) (.c (.int .i64 c)) = if 0 ≤ l ∧ l = c ∧ c.toNat * 24 ≤ roomBytes ∧ c.toNat ≤ roomBytes ∧ 1 = 1 ∧ 0 < 1 then some (.hsl H.length 0 l.toNat (c.toNat * 1) 1, H ++ [.row false 40 ((List.replicate c.toNat [.slice [] 0 true (some 0)]).flatten)]) else none := by kernel_rfl
theorem ln40 (cells : List IV) (n : Nat) (nl : Bool) (cap : Option Nat) : lenA Try.prog 40 (.c (.slice cells n nl cap)) = some (.c (.int .i64 n)) := by kernel_rfl
theorem lnv40 (s n sz : Nat) : lenA Try.prog 40 (lv s sz n) = some (.c (.int .i64 n)) := by
  unfold lv; split
  · rename_i h; subst h; kernel_rfl
  · kernel_rfl
theorem lnh40 (id off n ext sz : Nat) : lenA Try.prog 40 (.hsl id off n ext sz) = some (.c (.int .i64 n)) := by kernel_rfl
theorem ev24 (k : Nat) (x0 x1 : AV) (H : Heap) : evalT Try.prog (mkHints tab) (k + 1) (.fn 24) [x0, x1] H = trimO H.length (finishO Try.prog Try.f24.results.toList (evalCode Try.prog (cxG Try.prog (mkHints tab) k 24 none) (Try.f24.body.getD .skip) (fillArgs (fr 27 []) 0 [x0, x1]) H)) := by
  have h := evalT_fn 27 Try.func24 rfl (by decide) rfl (P := Try.prog) (h := mkHints tab) (k := k) (args := [x0, x1]) (H := H)
  rw [show (mkHints tab).slots 24 = 0 from rfl, show (List.replicate 0 AObj.slot) = [] from rfl, List.append_nil] at h
  exact h
theorem fsl24_6_8 : fslotB tab.fslots 24 6 8 = [] := by rfl
theorem kb24_6_8 : keepB tab.keeps 24 6 8 = false := by rfl
theorem ia40 (H : Heap) (cells : List IV) (len : Nat) (nl : Bool) (cap : Option Nat) (k : IntKind) (i : Int) : indexAddrA Try.prog H 40 (.c (.slice cells len nl cap)) (.c (.int k i)) = if 0 ≤ i ∧ i < len then some (.c (.iptr cells (i.toNat * 2))) else none := by kernel_rfl
theorem iah40 (H : Heap) (id off len ext sz : Nat) (k : IntKind) (i : Int) : indexAddrA Try.prog H 40 (.hsl id off len ext sz) (.c (.int k i)) = if 0 ≤ i ∧ i < len ∧ sz = 2 ∧ (rowOf H id ext).isSome = true then some (.eptr id (off + i.toNat * 2) ext) else none := by kernel_rfl
theorem ldp43 (H : Heap) (id off : Nat) : loadA Try.prog H 43 (.ptr id off) = cellsAt H[id]? off 2 := by kernel_rfl
theorem ldi43 (H : Heap) (cells : List IV) (off : Nat) : loadA Try.prog H 43 (.c (.iptr cells off)) = (takeCells cells off 2).map fun l => .agg (l.map .c) := by kernel_rfl
theorem lde43 (H : Heap) (id off ext : Nat) : loadA Try.prog H 43 (.eptr id off ext) = (rowOf H id ext).bind fun r => (takeCells r.2 off 2).map fun l => .agg (l.map .c) := by kernel_rfl
theorem dr24_6 : drawFact Try.f24 6 [0, 0, 3, 7, 0, 0, 48, 112, 255, 511] = true := by kernel_rfl
theorem ev102 (k : Nat) (x0 x1 : AV) (H : Heap) : evalT Try.prog (mkHints tab) (k + 1) (.fn 102) [x0, x1] H = trimO H.length (finishO Try.prog Try.f102.results.toList (evalCode Try.prog (cxG Try.prog (mkHints tab) k 102 none) (Try.f102.body.getD .skip) (fillArgs (fr 100 []) 0 [x0, x1]) H)) := by
  have h := evalT_fn 100 Try.func102 rfl (by decide) rfl (P := Try.prog) (h := mkHints tab) (k := k) (args := [x0, x1]) (H := H)
  rw [show (mkHints tab).slots 102 = 0 from rfl, show (List.replicate 0 AObj.slot) = [] from rfl, List.append_nil] at h
  exact h
theorem fa34_4 (x : AV) : fieldAddrA Try.prog 34 x 4 = addrPlus x 4 := by kernel_rfl
theorem ev69 (k : Nat) (x0 x1 : AV) (H : Heap) : evalT Try.prog (mkHints tab) (k + 1) (.fn 69) [x0, x1] H = trimO H.length (finishO Try.prog Try.f69.results.toList (evalCode Try.prog (cxG Try.prog (mkHints tab) k 69 none) (Try.f69.body.getD .skip) (fillArgs (fr 29 []) 0 [x0, x1]) H)) := by
  have h := evalT_fn 29 Try.func69 rfl (by decide) rfl (P := Try.prog) (h := mkHints tab) (k := k) (args := [x0, x1]) (H := H)
  rw [show (mkHints tab).slots 69 = 0 from rfl, show (List.replicate 0 AObj.slot) = [] from rfl, List.append_nil] at h
  exact h
theorem sb69_0_0 : slotB tab.slots 69 0 0 = none := by rfl
theorem ln41 (cells : List IV) (n : Nat) (nl : Bool) (cap : Option Nat) : lenA Try.prog 41 (.c (.slice cells n nl cap)) = some (.c (.int .i64 n)) := by kernel_rfl
theorem lnv41 (s n sz : Nat) : lenA Try.prog 41 (lv s sz n) = some (.c (.int .i64 n)) := by
  unfold lv; split
  · rename_i h; subst h; kernel_rfl
  · kernel_rfl
theorem lnh41 (id off n ext sz : Nat) : lenA Try.prog 41 (.hsl id off n ext sz) = some (.c (.int .i64 n)) := by kernel_rfl
theorem ag102 : isAggT Try.prog 102 = some false := by kernel_rfl
theorem sz102 : sizeT Try.prog 102 = some 1 := by kernel_rfl
theorem ia41 (H : Heap) (cells : List IV) (len : Nat) (nl : Bool) (cap : Option Nat) (k : IntKind) (i : Int) : indexAddrA Try.prog H 41 (.c (.slice cells len nl cap)) (.c (.int k i)) = if 0 ≤ i ∧ i < len then some (.c (.iptr cells (i.toNat * 1))) else none := by kernel_rfl
theorem iah41 (H : Heap) (id off len ext sz : Nat) (k : IntKind) (i : Int) : indexAddrA Try.prog H 41 (.hsl id off len ext sz) (.c (.int k i)) = if 0 ≤ i ∧ i < len ∧ sz = 1 ∧ (rowOf H id ext).isSome = true then some (.eptr id (off + i.toNat * 1) ext) else none := by kernel_rfl
theorem ldp102 (H : Heap) (id off : Nat) : loadA Try.prog H 102 (.ptr id off) = cellAt H[id]? off := by kernel_rfl
theorem ldi102 (H : Heap) (cells : List IV) (off : Nat) : loadA Try.prog H 102 (.c (.iptr cells off)) = (cells[off]?).map .c := by kernel_rfl
theorem lde102 (H : Heap) (id off ext : Nat) : loadA Try.prog H 102 (.eptr id off ext) = (rowOf H id ext).bind fun r => (r.2[off]?).map .c := by kernel_rfl
theorem sl41 (H : Heap) (x : AV) (lo hi : Option AV) : sliceA Try.prog H 41 x lo hi none = sliceO H 1 x lo hi := by kernel_rfl
theorem bd43_0_1_h1 (a0 : IV) (v1 : AV) (hv1 : v1.isCell = true) : buildA Try.prog 43 [(0, .c a0), (1, v1)] = some (.agg [.c a0, v1]) := by
  cases v1 <;> first | (cases hv1; done) | kernel_rfl
theorem bd43_0_1 (a0 a1 : IV) : buildA Try.prog 43 [(0, .c a0), (1, .c a1)] = some (.agg [.c a0, .c a1]) := by kernel_rfl
theorem ev46 (k : Nat) (x0 : AV) (H : Heap) : evalT Try.prog (mkHints tab) (k + 1) (.fn 46) [x0] H = trimO H.length (finishO Try.prog Try.f46.results.toList (evalCode Try.prog (cxG Try.prog (mkHints tab) k 46 none) (Try.f46.body.getD .skip) (fillArgs (fr 62 []) 0 [x0]) H)) := by
  have h := evalT_fn 62 Try.func46 rfl (by decide) rfl (P := Try.prog) (h := mkHints tab) (k := k) (args := [x0]) (H := H)
  rw [show (mkHints tab).slots 46 = 0 from rfl, show (List.replicate 0 AObj.slot) = [] from rfl, List.append_nil] at h
  exact h
theorem fsl46_1_1 : fslotB tab.fslots 46 1 1 = [] := by rfl
theorem kb46_1_1 : keepB tab.keeps 46 1 1 = false := by rfl
theorem sb46_3_3 : slotB tab.slots 46 3 3 = none := by rfl
theorem sb46_3_4 : slotB tab.slots 46 3 4 = none := by rfl
theorem sb46_4_2 : slotB tab.slots 46 4 2 = none := by rfl
theorem sb46_4_3 : slotB tab.slots 46 4 3 = none := by rfl
theorem fsl46_10_1 : fslotB tab.fslots 46 10 1 = [] := by rfl
theorem kb46_10_1 : keepB tab.keeps 46 10 1 = false := by rfl
theorem sb46_12_0 : slotB tab.slots 46 12 0 = none := by rfl
theorem fsl46_15_1 : fslotB tab.fslots 46 15 1 = [] := by rfl
theorem kb46_15_1 : keepB tab.keeps 46 15 1 = false := by rfl
theorem rae46_11 (cx : Cx) (F : Fr) (H : Heap) : evalCode Try.prog cx RA46_11 F H = evalCode Try.prog cx (rfAs Try.f46 11) F H := rfl
theorem rbe46_11 (cx : Cx) (F : Fr) (H : Heap) : evalCode Try.prog cx RB46_11 F H = evalCode Try.prog cx (rfBd Try.f46 11) F H := rfl
theorem ms64 (H : Heap) (l c : Int) : makeSliceA Try.prog H none 64 (.c (.int .i64 l)) (.c (.int .i64 c)) = if 0 ≤ l ∧ l = c ∧ c.toNat * 1 ≤ roomBytes ∧ c.toNat ≤ roomBytes ∧ 1 = 1 ∧ 0 < 1 then some (.hsl H.length 0 l.toNat (c.toNat * 1) 1, H ++ [.row false 4 ((List.replicate c.toNat [.bool false]).flatten)]) else none := by kernel_rfl
theorem al64 (H : Heap) : allocA Try.prog H 64 = some (.ptr H.length 0, H ++ [.cells 64 [.c (.slice [] 0 true (some 0))]]) := by kernel_rfl
theorem dr46_14 : drawFact Try.f46 14 [0, 0, 0, 0, 8, 3, 35, 127, 255] = true := by kernel_rfl
theorem ev112 (k : Nat) (x0 x1 : AV) (H : Heap) : evalT Try.prog (mkHints tab) (k + 1) (.fn 112) [x0, x1] H = trimO H.length (finishO Try.prog Try.f112.results.toList (evalCode Try.prog (cxG Try.prog (mkHints tab) k 112 none) (Try.f112.body.getD .skip) (fillArgs (fr 9 []) 0 [x0, x1]) H)) := by
  have h := evalT_fn 9 Try.func112 rfl (by decide) rfl (P := Try.prog) (h := mkHints tab) (k := k) (args := [x0, x1]) (H := H)
  rw [show (mkHints tab).slots 112 = 0 from rfl, show (List.replicate 0 AObj.slot) = [] from rfl, List.append_nil] at h
  exact h
theorem ev70 (k : Nat) (x0 : AV) (H : Heap) : evalT Try.prog (mkHints tab) (k + 1) (.fn 70) [x0] H = trimO H.length (finishO Try.prog Try.f70.results.toList (evalCode Try.prog (cxG Try.prog (mkHints tab) k 70 none) (Try.f70.body.getD .skip) (fillArgs (fr 5 []) 0 [x0]) H)) := by
  have h := evalT_fn 5 Try.func70 rfl (by decide) rfl (P := Try.prog) (h := mkHints tab) (k := k) (args := [x0]) (H := H)
  rw [show (mkHints tab).slots 70 = 0 from rfl, show (List.replicate 0 AObj.slot) = [] from rfl, List.append_nil] at h
  exact h
theorem sb70_1_1 : slotB tab.slots 70 1 1 = none := by rfl
theorem ms40 (H : Heap) (l c : Int) : makeSliceA Try.prog H none 40 (.c (.int .i64 l)) (.c (.int .i64 c)) = if 0 ≤ l ∧ l = c ∧ c.toNat * 32 ≤ roomBytes ∧ c.toNat ≤ roomBytes ∧ 2 = 2 ∧ 0 < 2 then some (.hsl H.length 0 l.toNat (c.toNat * 2) 2, H ++ [.row false 43 ((List.replicate c.toNat [.bool false, .slice [] 0 true (some 0)]).flatten)]) else none := by kernel_rfl
theorem ev71 (k : Nat) (x0 x1 : AV) (H : Heap) : evalT Try.prog (mkHints tab) (k + 1) (.fn 71) [x0, x1] H = trimO H.length (finishO Try.prog Try.f71.results.toList (evalCode Try.prog (cxG Try.prog (mkHints tab) k 71 none) (Try.f71.body.getD .skip) (fillArgs (fr 65 []) 0 [x0, x1]) H)) := by
  have h := evalT_fn 65 Try.func71 rfl (by decide) rfl (P := Try.prog) (h := mkHints tab) (k := k) (args := [x0, x1]) (H := H)
  rw [show (mkHints tab).slots 71 = 0 from rfl, show (List.replicate 0 AObj.slot) = [] from rfl, List.append_nil] at h
  exact h
theorem fsl71_3_1 : fslotB tab.fslots 71 3 1 = [] := by rfl
theorem kb71_3_1 : keepB tab.keeps 71 3 1 = false := by rfl
theorem fsl71_3_2 : fslotB tab.fslots 71 3 2 = [] := by rfl
theorem kb71_3_2 : keepB tab.keeps 71 3 2 = false := by rfl
theorem fsl71_5_6 : fslotB tab.fslots 71 5 6 = [] := by rfl
theorem kb71_5_6 : keepB tab.keeps 71 5 6 = false := by rfl
theorem fsl71_7_6 : fslotB tab.fslots 71 7 6 = [] := by rfl
theorem kb71_7_6 : keepB tab.keeps 71 7 6 = false := by rfl
theorem fsl71_9_2 : fslotB tab.fslots 71 9 2 = [] := by rfl
theorem kb71_9_2 : keepB tab.keeps 71 9 2 = false := by rfl
theorem fsl71_9_3 : fslotB tab.fslots 71 9 3 = [] := by rfl
theorem kb71_9_3 : keepB tab.keeps 71 9 3 = false := by rfl
theorem fsl71_11_2 : fslotB tab.fslots 71 11 2 = [] := by rfl
theorem kb71_11_2 : keepB tab.keeps 71 11 2 = false := by rfl
theorem fsl71_11_3 : fslotB tab.fslots 71 11 3 = [] := by rfl
theorem kb71_11_3 : keepB tab.keeps 71 11 3 = false := by rfl
theorem ev72 (k : Nat) (x0 x1 : AV) (H : Heap) : evalT Try.prog (mkHints tab) (k + 1) (.fn 72) [x0, x1] H = trimO H.length (finishO Try.prog Try.f72.results.toList (evalCode Try.prog (cxG Try.prog (mkHints tab) k 72 none) (Try.f72.body.getD .skip) (fillArgs (fr 29 []) 0 [x0, x1]) H)) := by
  have h := evalT_fn 29 Try.func72 rfl (by decide) rfl (P := Try.prog) (h := mkHints tab) (k := k) (args := [x0, x1]) (H := H)
  rw [show (mkHints tab).slots 72 = 0 from rfl, show (List.replicate 0 AObj.slot) = [] from rfl, List.append_nil] at h
  exact h
theorem fsl72_1_1 : fslotB tab.fslots 72 1 1 = [] := by rfl
theorem kb72_1_1 : keepB tab.keeps 72 1 1 = false := by rfl
theorem fsl72_1_3 : fslotB tab.fslots 72 1 3 = [] := by rfl
theorem kb72_1_3 : keepB tab.keeps 72 1 3 = false := by rfl
theorem fsl72_7_4 : fslotB tab.fslots 72 7 4 = [] := by rfl
theorem kb72_7_4 : keepB tab.keeps 72 7 4 = false := by rfl
theorem fsl72_8_4 : fslotB tab.fslots 72 8 4 = [] := by rfl
theorem kb72_8_4 : keepB tab.keeps 72 8 4 = false := by rfl
theorem dr72_1 : drawFact Try.f72 1 [0, 1, 0, 7, 15, 31] = true := by kernel_rfl
theorem fa43_1 (x : AV) : fieldAddrA Try.prog 43 x 1 = addrPlus x 1 := by kernel_rfl
theorem ag41 : isAggT Try.prog 41 = some false := by kernel_rfl
theorem sz41 : sizeT Try.prog 41 = some 1 := by kernel_rfl
theorem ldp41 (H : Heap) (id off : Nat) : loadA Try.prog H 41 (.ptr id off) = cellAt H[id]? off := by kernel_rfl
theorem ldi41 (H : Heap) (cells : List IV) (off : Nat) : loadA Try.prog H 41 (.c (.iptr cells off)) = (cells[off]?).map .c := by kernel_rfl
theorem lde41 (H : Heap) (id off ext : Nat) : loadA Try.prog H 41 (.eptr id off ext) = (rowOf H id ext).bind fun r => (r.2[off]?).map .c := by kernel_rfl
theorem ev78 (k : Nat) (x0 : AV) (H : Heap) : evalT Try.prog (mkHints tab) (k + 1) (.fn 78) [x0] H = trimO H.length (finishO Try.prog Try.f78.results.toList (evalCode Try.prog (cxG Try.prog (mkHints tab) k 78 none) (Try.f78.body.getD .skip) (fillArgs (fr 4 []) 0 [x0]) H)) := by
  have h := evalT_fn 4 Try.func78 rfl (by decide) rfl (P := Try.prog) (h := mkHints tab) (k := k) (args := [x0]) (H := H)
  rw [show (mkHints tab).slots 78 = 0 from rfl, show (List.replicate 0 AObj.slot) = [] from rfl, List.append_nil] at h
  exact h
theorem ev85 (k : Nat) (x0 : AV) (H : Heap) : evalT Try.prog (mkHints tab) (k + 1) (.fn 85) [x0] H = trimO H.length (finishO Try.prog Try.f85.results.toList (evalCode Try.prog (cxG Try.prog (mkHints tab) k 85 none) (Try.f85.body.getD .skip) (fillArgs (fr 12 []) 0 [x0]) H)) := by
  have h := evalT_fn 12 Try.func85 rfl (by decide) rfl (P := Try.prog) (h := mkHints tab) (k := k) (args := [x0]) (H := H)
  rw [show (mkHints tab).slots 85 = 0 from rfl, show (List.replicate 0 AObj.slot) = [] from rfl, List.append_nil] at h
  exact h
theorem fsl85_1_1 : fslotB tab.fslots 85 1 1 = [] := by rfl
theorem kb85_1_1 : keepB tab.keeps 85 1 1 = false := by rfl
theorem ev103 (k : Nat) (x0 x1 : AV) (H : Heap) : evalT Try.prog (mkHints tab) (k + 1) (.fn 103) [x0, x1] H = trimO H.length (finishO Try.prog Try.f103.results.toList (evalCode Try.prog (cxG Try.prog (mkHints tab) k 103 none) (Try.f103.body.getD .skip) (fillArgs (fr 10 []) 0 [x0, x1]) H)) := by
  have h := evalT_fn 10 Try.func103 rfl (by decide) rfl (P := Try.prog) (h := mkHints tab) (k := k) (args := [x0, x1]) (H := H)
  rw [show (mkHints tab).slots 103 = 0 from rfl, show (List.replicate 0 AObj.slot) = [] from rfl, List.append_nil] at h
  exact h
theorem fsl103_1_4 : fslotB tab.fslots 103 1 4 = [] := by rfl
theorem kb103_1_4 : keepB tab.keeps 103 1 4 = false := by rfl
theorem bd43_ : buildA Try.prog 43 [] = some (.agg [.c (.bool false), .c (.slice [] 0 true (some 0))]) := by kernel_rfl
theorem ev104 (k : Nat) (x0 x1 : AV) (H : Heap) : evalT Try.prog (mkHints tab) (k + 1) (.fn 104) [x0, x1] H = trimO H.length (finishO Try.prog Try.f104.results.toList (evalCode Try.prog (cxG Try.prog (mkHints tab) k 104 none) (Try.f104.body.getD .skip) (fillArgs (fr 10 []) 0 [x0, x1]) H)) := by
  have h := evalT_fn 10 Try.func104 rfl (by decide) rfl (P := Try.prog) (h := mkHints tab) (k := k) (args := [x0, x1]) (H := H)
  rw [show (mkHints tab).slots 104 = 0 from rfl, show (List.replicate 0 AObj.slot) = [] from rfl, List.append_nil] at h
  exact h
theorem fsl104_1_0 : fslotB tab.fslots 104 1 0 = [] := by rfl
theorem kb104_1_0 : keepB tab.keeps 104 1 0 = false := by rfl
theorem fsl104_1_2 : fslotB tab.fslots 104 1 2 = [] := by rfl
theorem kb104_1_2 : keepB tab.keeps 104 1 2 = false := by rfl
theorem fsl104_1_4 : fslotB tab.fslots 104 1 4 = [] := by rfl
theorem kb104_1_4 : keepB tab.keeps 104 1 4 = false := by rfl
theorem ev105 (k : Nat) (x0 x1 : AV) (H : Heap) : evalT Try.prog (mkHints tab) (k + 1) (.fn 105) [x0, x1] H = trimO H.length (finishO Try.prog Try.f105.results.toList (evalCode Try.prog (cxG Try.prog (mkHints tab) k 105 none) (Try.f105.body.getD .skip) (fillArgs (fr 10 []) 0 [x0, x1]) H)) := by
  have h := evalT_fn 10 Try.func105 rfl (by decide) rfl (P := Try.prog) (h := mkHints tab) (k := k) (args := [x0, x1]) (H := H)
  rw [show (mkHints tab).slots 105 = 0 from rfl, show (List.replicate 0 AObj.slot) = [] from rfl, List.append_nil] at h
  exact h
theorem fsl105_1_0 : fslotB tab.fslots 105 1 0 = [] := by rfl
theorem kb105_1_0 : keepB tab.keeps 105 1 0 = false := by rfl
theorem fsl105_1_2 : fslotB tab.fslots 105 1 2 = [] := by rfl
theorem kb105_1_2 : keepB tab.keeps 105 1 2 = false := by rfl
theorem fsl105_1_4 : fslotB tab.fslots 105 1 4 = [] := by rfl
theorem kb105_1_4 : keepB tab.keeps 105 1 4 = false := by rfl
theorem ev106 (k : Nat) (x0 : AV) (H : Heap) : evalT Try.prog (mkHints tab) (k + 1) (.fn 106) [x0] H = trimO H.length (finishO Try.prog Try.f106.results.toList (evalCode Try.prog (cxG Try.prog (mkHints tab) k 106 none) (Try.f106.body.getD .skip) (fillArgs (fr 17 []) 0 [x0]) H)) := by
  have h := evalT_fn 17 Try.func106 rfl (by decide) rfl (P := Try.prog) (h := mkHints tab) (k := k) (args := [x0]) (H := H)
  rw [show (mkHints tab).slots 106 = 0 from rfl, show (List.replicate 0 AObj.slot) = [] from rfl, List.append_nil] at h
  exact h
theorem sb106_0_1 : slotB tab.slots 106 0 1 = none := by rfl
theorem fsl106_2_2 : fslotB tab.fslots 106 2 2 = [] := by rfl
theorem kb106_2_2 : keepB tab.keeps 106 2 2 = false := by rfl
theorem fsl106_3_2 : fslotB tab.fslots 106 3 2 = [] := by rfl
theorem kb106_3_2 : keepB tab.keeps 106 3 2 = false := by rfl
theorem ev107 (k : Nat) (x0 x1 : AV) (H : Heap) : evalT Try.prog (mkHints tab) (k + 1) (.fn 107) [x0, x1] H = trimO H.length (finishO Try.prog Try.f107.results.toList (evalCode Try.prog (cxG Try.prog (mkHints tab) k 107 none) (Try.f107.body.getD .skip) (fillArgs (fr 32 []) 0 [x0, x1]) (H ++ [.slot]))) := evalT_fn 32 Try.func107 rfl (by decide) rfl
theorem fsl107_5_5 : fslotB tab.fslots 107 5 5 = [] := by rfl
theorem kb107_5_5 : keepB tab.keeps 107 5 5 = false := by rfl
theorem sb107_5_9 : slotB tab.slots 107 5 9 = none := by rfl
theorem sb107_8_3 : slotB tab.slots 107 8 3 = some 0 := by rfl
theorem dr107_5 : drawFact Try.f107 5 [0, 0, 3, 7, 0, 31, 63, 127, 127, 0, 767, 2047] = true := by kernel_rfl
theorem ev108 (k : Nat) (x0 : AV) (H : Heap) : evalT Try.prog (mkHints tab) (k + 1) (.fn 108) [x0] H = trimO H.length (finishO Try.prog Try.f108.results.toList (evalCode Try.prog (cxG Try.prog (mkHints tab) k 108 none) (Try.f108.body.getD .skip) (fillArgs (fr 9 []) 0 [x0]) H)) := by
  have h := evalT_fn 9 Try.func108 rfl (by decide) rfl (P := Try.prog) (h := mkHints tab) (k := k) (args := [x0]) (H := H)
  rw [show (mkHints tab).slots 108 = 0 from rfl, show (List.replicate 0 AObj.slot) = [] from rfl, List.append_nil] at h
  exact h
theorem fa43_0 (x : AV) : fieldAddrA Try.prog 43 x 0 = addrPlus x 0 := by kernel_rfl
theorem ev109 (k : Nat) (x0 x1 : AV) (H : Heap) : evalT Try.prog (mkHints tab) (k + 1) (.fn 109) [x0, x1] H = trimO H.length (finishO Try.prog Try.f109.results.toList (evalCode Try.prog (cxG Try.prog (mkHints tab) k 109 none) (Try.f109.body.getD .skip) (fillArgs (fr 41 []) 0 [x0, x1]) H)) := by
  have h := evalT_fn 41 Try.func109 rfl (by decide) rfl (P := Try.prog) (h := mkHints tab) (k := k) (args := [x0, x1]) (H := H)
  rw [show (mkHints tab).slots 109 = 0 from rfl, show (List.replicate 0 AObj.slot) = [] from rfl, List.append_nil] at h
  exact h
theorem dr109_8 : drawFact Try.f109 8 [0, 0, 3, 7, 0, 0, 48, 112, 255] = true := by kernel_rfl
theorem dr109_10 : drawFact Try.f109 10 [0, 0, 3, 7, 0, 0, 48, 112, 255] = true := by kernel_rfl
theorem ev110 (k : Nat) (x0 x1 : AV) (H : Heap) : evalT Try.prog (mkHints tab) (k + 1) (.fn 110) [x0, x1] H = trimO H.length (finishO Try.prog Try.f110.results.toList (evalCode Try.prog (cxG Try.prog (mkHints tab) k 110 none) (Try.f110.body.getD .skip) (fillArgs (fr 18 []) 0 [x0, x1]) H)) := by
  have h := evalT_fn 18 Try.func110 rfl (by decide) rfl (P := Try.prog) (h := mkHints tab) (k := k) (args := [x0, x1]) (H := H)
  rw [show (mkHints tab).slots 110 = 0 from rfl, show (List.replicate 0 AObj.slot) = [] from rfl, List.append_nil] at h
  exact h
theorem fsl110_1_1 : fslotB tab.fslots 110 1 1 = [] := by rfl
theorem kb110_1_1 : keepB tab.keeps 110 1 1 = false := by rfl
theorem fsl110_2_2 : fslotB tab.fslots 110 2 2 = [] := by rfl
theorem kb110_2_2 : keepB tab.keeps 110 2 2 = false := by rfl
theorem sb110_4_0 : slotB tab.slots 110 4 0 = none := by rfl
theorem fsl110_5_3 : fslotB tab.fslots 110 5 3 = [] := by rfl
theorem kb110_5_3 : keepB tab.keeps 110 5 3 = false := by rfl
theorem rae110_3 (cx : Cx) (F : Fr) (H : Heap) : evalCode Try.prog cx RA110_3 F H = evalCode Try.prog cx (rfAs Try.f110 3) F H := rfl
theorem rbe110_3 (cx : Cx) (F : Fr) (H : Heap) : evalCode Try.prog cx RB110_3 F H = evalCode Try.prog cx (rfBd Try.f110 3) F H := rfl
theorem ag163 : isAggT Try.prog 163 = some false := by kernel_rfl
theorem sz163 : sizeT Try.prog 163 = some 1 := by kernel_rfl
theorem ldp163 (H : Heap) (id off : Nat) : loadA Try.prog H 163 (.ptr id off) = cellAt H[id]? off := by kernel_rfl
theorem ldi163 (H : Heap) (cells : List IV) (off : Nat) : loadA Try.prog H 163 (.c (.iptr cells off)) = (cells[off]?).map .c := by kernel_rfl
theorem lde163 (H : Heap) (id off ext : Nat) : loadA Try.prog H 163 (.eptr id off ext) = (rowOf H id ext).bind fun r => (r.2[off]?).map .c := by kernel_rfl
theorem ev62 (k : Nat) (x0 : AV) (H : Heap) : evalT Try.prog (mkHints tab) (k + 1) (.fn 62) [x0] H = trimO H.length (finishO Try.prog Try.f62.results.toList (evalCode Try.prog (cxG Try.prog (mkHints tab) k 62 none) (Try.f62.body.getD .skip) (fillArgs (fr 72 []) 0 [x0]) H)) := by
  have h := evalT_fn 72 Try.func62 rfl (by decide) rfl (P := Try.prog) (h := mkHints tab) (k := k) (args := [x0]) (H := H)
  rw [show (mkHints tab).slots 62 = 0 from rfl, show (List.replicate 0 AObj.slot) = [] from rfl, List.append_nil] at h
  exact h
theorem sb62_11_3 : slotB tab.slots 62 11 3 = none := by rfl
theorem fsl62_12_3 : fslotB tab.fslots 62 12 3 = [] := by rfl
theorem kb62_12_3 : keepB tab.keeps 62 12 3 = false := by rfl
theorem ev125 (k : Nat) (x0 x1 x2 x3 : AV) (H : Heap) : evalT Try.prog (mkHints tab) (k + 1) (.fn 125) [x0, x1, x2, x3] H = trimO H.length (finishO Try.prog Try.f125.results.toList (evalCode Try.prog (cxG Try.prog (mkHints tab) k 125 none) (Try.f125.body.getD .skip) (fillArgs (fr 34 []) 0 [x0, x1, x2, x3]) (H ++ [.slot]))) := evalT_fn 34 Try.func125 rfl (by decide) rfl
theorem fsl125_5_6 : fslotB tab.fslots 125 5 6 = [] := by rfl
theorem kb125_5_6 : keepB tab.keeps 125 5 6 = false := by rfl
theorem fsl125_5_12 : fslotB tab.fslots 125 5 12 = [] := by rfl
theorem kb125_5_12 : keepB tab.keeps 125 5 12 = false := by rfl
theorem fsl125_5_13 : fslotB tab.fslots 125 5 13 = [] := by rfl
theorem kb125_5_13 : keepB tab.keeps 125 5 13 = false := by rfl
theorem sb125_5_15 : slotB tab.slots 125 5 15 = some 0 := by rfl
theorem dr125_5 : drawFact Try.f125 5 [0, 0, 0, 0, 12, 28, 62, 0, 0, 0, 768, 1792, 4094, 8190, 16382, 32767, 65535] = true := by kernel_rfl
theorem ev126 (k : Nat) (x0 : AV) (H : Heap) : evalT Try.prog (mkHints tab) (k + 1) (.fn 126) [x0] H = trimO H.length (finishO Try.prog Try.f126.results.toList (evalCode Try.prog (cxG Try.prog (mkHints tab) k 126 none) (Try.f126.body.getD .skip) (fillArgs (fr 17 []) 0 [x0]) H)) := by
  have h := evalT_fn 17 Try.func126 rfl (by decide) rfl (P := Try.prog) (h := mkHints tab) (k := k) (args := [x0]) (H := H)
  rw [show (mkHints tab).slots 126 = 0 from rfl, show (List.replicate 0 AObj.slot) = [] from rfl, List.append_nil] at h
  exact h
theorem sb126_0_0 : slotB tab.slots 126 0 0 = none := by rfl
theorem sb126_1_3 : slotB tab.slots 126 1 3 = none := by rfl
theorem fsl126_3_1 : fslotB tab.fslots 126 3 1 = [] := by rfl
theorem kb126_3_1 : keepB tab.keeps 126 3 1 = false := by rfl
theorem ms41 (H : Heap) (l c : Int) : makeSliceA Try.prog H none 41 (.c (.int .i64 l)) (.c (.int .i64 c)) = if 0 ≤ l ∧ l = c ∧ c.toNat * 4 ≤ roomBytes ∧ c.toNat ≤ roomBytes ∧ 1 = 1 ∧ 0 < 1 then some (.hsl H.length 0 l.toNat (c.toNat * 1) 1, H ++ [.row false 102 ((List.replicate c.toNat [.int .u32 0]).flatten)]) else none := by kernel_rfl
theorem ev127 (k : Nat) (x0 x1 : AV) (H : Heap) : evalT Try.prog (mkHints tab) (k + 1) (.fn 127) [x0, x1] H = trimO H.length (finishO Try.prog Try.f127.results.toList (evalCode Try.prog (cxG Try.prog (mkHints tab) k 127 none) (Try.f127.body.getD .skip) (fillArgs (fr 20 []) 0 [x0, x1]) H)) := by
  have h := evalT_fn 20 Try.func127 rfl (by decide) rfl (P := Try.prog) (h := mkHints tab) (k := k) (args := [x0, x1]) (H := H)
  rw [show (mkHints tab).slots 127 = 0 from rfl, show (List.replicate 0 AObj.slot) = [] from rfl, List.append_nil] at h
  exact h
theorem sb127_0_2 : slotB tab.slots 127 0 2 = none := by rfl
theorem fsl127_1_2 : fslotB tab.fslots 127 1 2 = [] := by rfl
theorem kb127_1_2 : keepB tab.keeps 127 1 2 = false := by rfl
theorem sb127_1_6 : slotB tab.slots 127 1 6 = none := by rfl
theorem sb127_1_7 : slotB tab.slots 127 1 7 = none := by rfl
theorem ev111 (k : Nat) (x0 : AV) (H : Heap) : evalT Try.prog (mkHints tab) (k + 1) (.fn 111) [x0] H = trimO H.length (finishO Try.prog Try.f111.results.toList (evalCode Try.prog (cxG Try.prog (mkHints tab) k 111 none) (Try.f111.body.getD .skip) (fillArgs (fr 4 []) 0 [x0]) H)) := by
  have h := evalT_fn 4 Try.func111 rfl (by decide) rfl (P := Try.prog) (h := mkHints tab) (k := k) (args := [x0]) (H := H)
  rw [show (mkHints tab).slots 111 = 0 from rfl, show (List.replicate 0 AObj.slot) = [] from rfl, List.append_nil] at h
  exact h
theorem ev100 (k : Nat) (x0 x1 : AV) (H : Heap) : evalT Try.prog (mkHints tab) (k + 1) (.fn 100) [x0, x1] H = trimO H.length (finishO Try.prog Try.f100.results.toList (evalCode Try.prog (cxG Try.prog (mkHints tab) k 100 none) (Try.f100.body.getD .skip) (fillArgs (fr 57 []) 0 [x0, x1]) H)) := by
  have h := evalT_fn 57 Try.func100 rfl (by decide) rfl (P := Try.prog) (h := mkHints tab) (k := k) (args := [x0, x1]) (H := H)
  rw [show (mkHints tab).slots 100 = 0 from rfl, show (List.replicate 0 AObj.slot) = [] from rfl, List.append_nil] at h
  exact h
theorem fsl100_1_22 : fslotB tab.fslots 100 1 22 = [] := by rfl
theorem kb100_1_22 : keepB tab.keeps 100 1 22 = false := by rfl
theorem fsl100_1_32 : fslotB tab.fslots 100 1 32 = [] := by rfl
theorem kb100_1_32 : keepB tab.keeps 100 1 32 = false := by rfl
theorem fsl100_3_1 : fslotB tab.fslots 100 3 1 = [] := by rfl
theorem kb100_3_1 : keepB tab.keeps 100 3 1 = false := by rfl
theorem ev138 (k : Nat) (x0 x1 : AV) (H : Heap) : evalT Try.prog (mkHints tab) (k + 1) (.fn 138) [x0, x1] H = trimO H.length (finishO Try.prog Try.f138.results.toList (evalCode Try.prog (cxG Try.prog (mkHints tab) k 138 none) (Try.f138.body.getD .skip) (fillArgs (fr 40 []) 0 [x0, x1]) H)) := by
  have h := evalT_fn 40 Try.func138 rfl (by decide) rfl (P := Try.prog) (h := mkHints tab) (k := k) (args := [x0, x1]) (H := H)
  rw [show (mkHints tab).slots 138 = 0 from rfl, show (List.replicate 0 AObj.slot) = [] from rfl, List.append_nil] at h
  exact h
theorem sb138_0_2 : slotB tab.slots 138 0 2 = none := by rfl
theorem fsl138_2_6 : fslotB tab.fslots 138 2 6 = [] := by rfl
theorem kb138_2_6 : keepB tab.keeps 138 2 6 = false := by rfl
theorem fsl138_2_7 : fslotB tab.fslots 138 2 7 = [] := by rfl
theorem kb138_2_7 : keepB tab.keeps 138 2 7 = false := by rfl
theorem fsl138_3_4 : fslotB tab.fslots 138 3 4 = [] := by rfl
theorem kb138_3_4 : keepB tab.keeps 138 3 4 = false := by rfl
theorem fsl138_4_6 : fslotB tab.fslots 138 4 6 = [] := by rfl
theorem kb138_4_6 : keepB tab.keeps 138 4 6 = false := by rfl
theorem fsl138_4_7 : fslotB tab.fslots 138 4 7 = [] := by rfl
theorem kb138_4_7 : keepB tab.keeps 138 4 7 = false := by rfl
theorem fsl138_5_6 : fslotB tab.fslots 138 5 6 = [] := by rfl
theorem kb138_5_6 : keepB tab.keeps 138 5 6 = false := by rfl
theorem fsl138_5_7 : fslotB tab.fslots 138 5 7 = [] := by rfl
theorem kb138_5_7 : keepB tab.keeps 138 5 7 = false := by rfl
theorem eqb4 (H : Heap) (a b : Bool) : binA Try.prog H .eql 4 (.c (.bool a)) (.c (.bool b)) = some (.c (.bool ((a == b)))) := by kernel_rfl
theorem dr138_2 : drawFact Try.f138 2 [0, 1, 0, 4, 0, 16, 60, 127, 255] = true := by kernel_rfl
theorem dr138_4 : drawFact Try.f138 4 [0, 1, 0, 4, 0, 16, 60, 127, 255] = true := by kernel_rfl
theorem dr138_5 : drawFact Try.f138 5 [0, 1, 0, 4, 0, 16, 60, 127, 255] = true := by kernel_rfl
theorem ev139 (k : Nat) (x0 x1 : AV) (H : Heap) : evalT Try.prog (mkHints tab) (k + 1) (.fn 139) [x0, x1] H = trimO H.length (finishO Try.prog Try.f139.results.toList (evalCode Try.prog (cxG Try.prog (mkHints tab) k 139 none) (Try.f139.body.getD .skip) (fillArgs (fr 82 []) 0 [x0, x1]) H)) := by
  have h := evalT_fn 82 Try.func139 rfl (by decide) rfl (P := Try.prog) (h := mkHints tab) (k := k) (args := [x0, x1]) (H := H)
  rw [show (mkHints tab).slots 139 = 0 from rfl, show (List.replicate 0 AObj.slot) = [] from rfl, List.append_nil] at h
  exact h
theorem sb139_0_2 : slotB tab.slots 139 0 2 = none := by rfl
theorem sb139_1_8 : slotB tab.slots 139 1 8 = none := by rfl
theorem fsl139_14_6 : fslotB tab.fslots 139 14 6 = [] := by rfl
theorem kb139_14_6 : keepB tab.keeps 139 14 6 = false := by rfl
theorem cv102_101 (k : IntKind) (n : Int) : convA Try.prog 102 101 (.c (.int k n)) = some (.c (.int .u64 (IntKind.wrap .u64 n))) := by kernel_rfl
theorem dr139_11 : drawFact Try.f139 11 [0, 0, 2, 0, 14, 30, 62, 0, 128, 0, 896, 1920, 3968, 8190, 16383, 32767] = true := by kernel_rfl
theorem neb4 (H : Heap) (a b : Bool) : binA Try.prog H .neq 4 (.c (.bool a)) (.c (.bool b)) = some (.c (.bool (!(a == b)))) := by kernel_rfl
theorem ev140 (k : Nat) (x0 x1 : AV) (H : Heap) : evalT Try.prog (mkHints tab) (k + 1) (.fn 140) [x0, x1] H = trimO H.length (finishO Try.prog Try.f140.results.toList (evalCode Try.prog (cxG Try.prog (mkHints tab) k 140 none) (Try.f140.body.getD .skip) (fillArgs (fr 42 []) 0 [x0, x1]) (H ++ [.slot, .slot]))) := evalT_fn 42 Try.func140 rfl (by decide) rfl
theorem sb140_0_2 : slotB tab.slots 140 0 2 = none := by rfl
theorem sb140_0_3 : slotB tab.slots 140 0 3 = none := by rfl
theorem fsl140_1_4 : fslotB tab.fslots 140 1 4 = [] := by rfl
theorem kb140_1_4 : keepB tab.keeps 140 1 4 = false := by rfl
theorem fsl140_2_6 : fslotB tab.fslots 140 2 6 = [] := by rfl
theorem kb140_2_6 : keepB tab.keeps 140 2 6 = false := by rfl
theorem fsl140_2_10 : fslotB tab.fslots 140 2 10 = [] := by rfl
theorem kb140_2_10 : keepB tab.keeps 140 2 10 = false := by rfl
theorem sb140_2_11 : slotB tab.slots 140 2 11 = some 0 := by rfl
theorem sb140_2_12 : slotB tab.slots 140 2 12 = some 1 := by rfl
theorem fsl140_4_2 : fslotB tab.fslots 140 4 2 = [] := by rfl
theorem kb140_4_2 : keepB tab.keeps 140 4 2 = false := by rfl
theorem fsl140_4_3 : fslotB tab.fslots 140 4 3 = [] := by rfl
theorem kb140_4_3 : keepB tab.keeps 140 4 3 = false := by rfl
theorem fsl140_5_2 : fslotB tab.fslots 140 5 2 = [] := by rfl
theorem kb140_5_2 : keepB tab.keeps 140 5 2 = false := by rfl
theorem fsl140_5_3 : fslotB tab.fslots 140 5 3 = [] := by rfl
theorem kb140_5_3 : keepB tab.keeps 140 5 3 = false := by rfl
theorem fsl140_5_4 : fslotB tab.fslots 140 5 4 = [] := by rfl
theorem kb140_5_4 : keepB tab.keeps 140 5 4 = false := by rfl
theorem dr140_2 : drawFact Try.f140 2 [0, 1, 0, 4, 15, 0, 63, 0, 128, 0, 1023, 0, 0, 8191, 16383] = true := by kernel_rfl
theorem dr140_4 : drawFact Try.f140 4 [0, 0, 2, 7, 15] = true := by kernel_rfl
theorem dr140_5 : drawFact Try.f140 5 [0, 0, 2, 6, 15, 31] = true := by kernel_rfl
theorem dr140_6 : drawFact Try.f140 6 [0, 0, 1, 7] = true := by kernel_rfl
theorem ev128 (k : Nat) (x0 x1 : AV) (H : Heap) : evalT Try.prog (mkHints tab) (k + 1) (.fn 128) [x0, x1] H = trimO H.length (finishO Try.prog Try.f128.results.toList (evalCode Try.prog (cxG Try.prog (mkHints tab) k 128 none) (Try.f128.body.getD .skip) (fillArgs (fr 19 []) 0 [x0, x1]) H)) := by
  have h := evalT_fn 19 Try.func128 rfl (by decide) rfl (P := Try.prog) (h := mkHints tab) (k := k) (args := [x0, x1]) (H := H)
  rw [show (mkHints tab).slots 128 = 0 from rfl, show (List.replicate 0 AObj.slot) = [] from rfl, List.append_nil] at h
  exact h
theorem fsl128_3_6 : fslotB tab.fslots 128 3 6 = [] := by rfl
theorem kb128_3_6 : keepB tab.keeps 128 3 6 = false := by rfl
theorem ev123 (k : Nat) (x0 : AV) (H : Heap) : evalT Try.prog (mkHints tab) (k + 1) (.fn 123) [x0] H = trimO H.length (finishO Try.prog Try.f123.results.toList (evalCode Try.prog (cxG Try.prog (mkHints tab) k 123 none) (Try.f123.body.getD .skip) (fillArgs (fr 9 []) 0 [x0]) H)) := by
  have h := evalT_fn 9 Try.func123 rfl (by decide) rfl (P := Try.prog) (h := mkHints tab) (k := k) (args := [x0]) (H := H)
  rw [show (mkHints tab).slots 123 = 0 from rfl, show (List.replicate 0 AObj.slot) = [] from rfl, List.append_nil] at h
  exact h
theorem ev124 (k : Nat) (x0 : AV) (H : Heap) : evalT Try.prog (mkHints tab) (k + 1) (.fn 124) [x0] H = trimO H.length (finishO Try.prog Try.f124.results.toList (evalCode Try.prog (cxG Try.prog (mkHints tab) k 124 none) (Try.f124.body.getD .skip) (fillArgs (fr 35 []) 0 [x0]) H)) := by
  have h := evalT_fn 35 Try.func124 rfl (by decide) rfl (P := Try.prog) (h := mkHints tab) (k := k) (args := [x0]) (H := H)
  rw [show (mkHints tab).slots 124 = 0 from rfl, show (List.replicate 0 AObj.slot) = [] from rfl, List.append_nil] at h
  exact h
theorem ev147 (k : Nat) (x0 x1 : AV) (H : Heap) : evalT Try.prog (mkHints tab) (k + 1) (.fn 147) [x0, x1] H = trimO H.length (finishO Try.prog Try.f147.results.toList (evalCode Try.prog (cxG Try.prog (mkHints tab) k 147 none) (Try.f147.body.getD .skip) (fillArgs (fr 52 []) 0 [x0, x1]) (H ++ [.slot]))) := evalT_fn 52 Try.func147 rfl (by decide) rfl
theorem sb147_10_4 : slotB tab.slots 147 10 4 = some 0 := by rfl
theorem ev148 (k : Nat) (x0 x1 : AV) (H : Heap) : evalT Try.prog (mkHints tab) (k + 1) (.fn 148) [x0, x1] H = trimO H.length (finishO Try.prog Try.f148.results.toList (evalCode Try.prog (cxG Try.prog (mkHints tab) k 148 none) (Try.f148.body.getD .skip) (fillArgs (fr 43 []) 0 [x0, x1]) (H ++ [.slot]))) := evalT_fn 43 Try.func148 rfl (by decide) rfl
theorem sb148_14_5 : slotB tab.slots 148 14 5 = some 0 := by rfl
theorem ev149 (k : Nat) (x0 x1 : AV) (H : Heap) : evalT Try.prog (mkHints tab) (k + 1) (.fn 149) [x0, x1] H = trimO H.length (finishO Try.prog Try.f149.results.toList (evalCode Try.prog (cxG Try.prog (mkHints tab) k 149 none) (Try.f149.body.getD .skip) (fillArgs (fr 124 []) 0 [x0, x1]) H)) := by
  have h := evalT_fn 124 Try.func149 rfl (by decide) rfl (P := Try.prog) (h := mkHints tab) (k := k) (args := [x0, x1]) (H := H)
  rw [show (mkHints tab).slots 149 = 0 from rfl, show (List.replicate 0 AObj.slot) = [] from rfl, List.append_nil] at h
  exact h
theorem sb149_2_2 : slotB tab.slots 149 2 2 = none := by rfl
theorem fsl149_10_1 : fslotB tab.fslots 149 10 1 = [] := by rfl
theorem kb149_10_1 : keepB tab.keeps 149 10 1 = false := by rfl
theorem fsl149_10_6 : fslotB tab.fslots 149 10 6 = [] := by rfl
theorem kb149_10_6 : keepB tab.keeps 149 10 6 = false := by rfl
theorem sb149_11_2 : slotB tab.slots 149 11 2 = none := by rfl
theorem fsl149_13_1 : fslotB tab.fslots 149 13 1 = [] := by rfl
theorem kb149_13_1 : keepB tab.keeps 149 13 1 = false := by rfl
theorem fsl149_16_2 : fslotB tab.fslots 149 16 2 = [] := by rfl
theorem kb149_16_2 : keepB tab.keeps 149 16 2 = false := by rfl
theorem sb149_24_3 : slotB tab.slots 149 24 3 = none := by rfl
theorem fsl149_25_2 : fslotB tab.fslots 149 25 2 = [] := by rfl
theorem kb149_25_2 : keepB tab.keeps 149 25 2 = false := by rfl
theorem fsl149_26_2 : fslotB tab.fslots 149 26 2 = [] := by rfl
theorem rb149_26_2 : rawB tab.keeps 149 26 2 = false := by rfl
theorem kb149_26_2 : keepB tab.keeps 149 26 2 = true := by rfl
theorem fsl149_26_3 : fslotB tab.fslots 149 26 3 = [] := by rfl
theorem rb149_26_3 : rawB tab.keeps 149 26 3 = true := by rfl
theorem kb149_26_3 : keepB tab.keeps 149 26 3 = true := by rfl
theorem fsl149_28_1 : fslotB tab.fslots 149 28 1 = [] := by rfl
theorem kb149_28_1 : keepB tab.keeps 149 28 1 = false := by rfl
theorem fd43_1 (cs : List AV) : fieldA Try.prog 43 (.agg cs) 1 = cs[1]? := by kernel_rfl
theorem dr149_27 : drawFact Try.f149 27 [0, 0, 2, 0, 0, 16, 56, 120, 0, 256, 768, 2040, 4095, 8191] = true := by kernel_rfl
theorem ev150 (k : Nat) (x0 : AV) (H : Heap) : evalT Try.prog (mkHints tab) (k + 1) (.fn 150) [x0] H = trimO H.length (finishO Try.prog Try.f150.results.toList (evalCode Try.prog (cxG Try.prog (mkHints tab) k 150 none) (Try.f150.body.getD .skip) (fillArgs (fr 6 []) 0 [x0]) H)) := by
  have h := evalT_fn 6 Try.func150 rfl (by decide) rfl (P := Try.prog) (h := mkHints tab) (k := k) (args := [x0]) (H := H)
  rw [show (mkHints tab).slots 150 = 0 from rfl, show (List.replicate 0 AObj.slot) = [] from rfl, List.append_nil] at h
  exact h
theorem sb150_0_1 : slotB tab.slots 150 0 1 = none := by rfl
theorem fsl150_1_2 : fslotB tab.fslots 150 1 2 = [] := by rfl
theorem kb150_1_2 : keepB tab.keeps 150 1 2 = false := by rfl
theorem ev151 (k : Nat) (x0 x1 : AV) (H : Heap) : evalT Try.prog (mkHints tab) (k + 1) (.fn 151) [x0, x1] H = trimO H.length (finishO Try.prog Try.f151.results.toList (evalCode Try.prog (cxG Try.prog (mkHints tab) k 151 none) (Try.f151.body.getD .skip) (fillArgs (fr 9 []) 0 [x0, x1]) H)) := by
  have h := evalT_fn 9 Try.func151 rfl (by decide) rfl (P := Try.prog) (h := mkHints tab) (k := k) (args := [x0, x1]) (H := H)
  rw [show (mkHints tab).slots 151 = 0 from rfl, show (List.replicate 0 AObj.slot) = [] from rfl, List.append_nil] at h
  exact h
theorem sb151_0_2 : slotB tab.slots 151 0 2 = none := by rfl
theorem fsl151_1_2 : fslotB tab.fslots 151 1 2 = [] := by rfl
theorem kb151_1_2 : keepB tab.keeps 151 1 2 = false := by rfl
theorem fsl151_1_3 : fslotB tab.fslots 151 1 3 = [] := by rfl
theorem kb151_1_3 : keepB tab.keeps 151 1 3 = false := by rfl
theorem dr151_1 : drawFact Try.f151 1 [0, 0, 2, 7, 15] = true := by kernel_rfl
theorem ev154 (k : Nat) (x0 : AV) (H : Heap) : evalT Try.prog (mkHints tab) (k + 1) (.fn 154) [x0] H = trimO H.length (finishO Try.prog Try.f154.results.toList (evalCode Try.prog (cxG Try.prog (mkHints tab) k 154 none) (Try.f154.body.getD .skip) (fillArgs (fr 25 []) 0 [x0]) H)) := by
  have h := evalT_fn 25 Try.func154 rfl (by decide) rfl (P := Try.prog) (h := mkHints tab) (k := k) (args := [x0]) (H := H)
  rw [show (mkHints tab).slots 154 = 0 from rfl, show (List.replicate 0 AObj.slot) = [] from rfl, List.append_nil] at h
  exact h
theorem ev155 (k : Nat) (x0 x1 : AV) (H : Heap) : evalT Try.prog (mkHints tab) (k + 1) (.fn 155) [x0, x1] H = trimO H.length (finishO Try.prog Try.f155.results.toList (evalCode Try.prog (cxG Try.prog (mkHints tab) k 155 none) (Try.f155.body.getD .skip) (fillArgs (fr 14 []) 0 [x0, x1]) H)) := by
  have h := evalT_fn 14 Try.func155 rfl (by decide) rfl (P := Try.prog) (h := mkHints tab) (k := k) (args := [x0, x1]) (H := H)
  rw [show (mkHints tab).slots 155 = 0 from rfl, show (List.replicate 0 AObj.slot) = [] from rfl, List.append_nil] at h
  exact h
theorem ev156 (k : Nat) (x0 : AV) (H : Heap) : evalT Try.prog (mkHints tab) (k + 1) (.fn 156) [x0] H = trimO H.length (finishO Try.prog Try.f156.results.toList (evalCode Try.prog (cxG Try.prog (mkHints tab) k 156 none) (Try.f156.body.getD .skip) (fillArgs (fr 9 []) 0 [x0]) H)) := by
  have h := evalT_fn 9 Try.func156 rfl (by decide) rfl (P := Try.prog) (h := mkHints tab) (k := k) (args := [x0]) (H := H)
  rw [show (mkHints tab).slots 156 = 0 from rfl, show (List.replicate 0 AObj.slot) = [] from rfl, List.append_nil] at h
  exact h
theorem sb156_0_1 : slotB tab.slots 156 0 1 = none := by rfl
theorem fsl156_1_5 : fslotB tab.fslots 156 1 5 = [] := by rfl
theorem kb156_1_5 : keepB tab.keeps 156 1 5 = false := by rfl
theorem lbe22_5 (cx : Cx) (F : Fr) (H : Heap) : evalCode Try.prog cx LB22_5 F H = evalCode Try.prog cx (loopOf Try.f22 5) F H := rfl
theorem lbe23_3 (cx : Cx) (F : Fr) (H : Heap) : evalCode Try.prog cx LB23_3 F H = evalCode Try.prog cx (loopOf Try.f23 3) F H := rfl
theorem lbe23_10 (cx : Cx) (F : Fr) (H : Heap) : evalCode Try.prog cx LB23_10 F H = evalCode Try.prog cx (loopOf Try.f23 10) F H := rfl
theorem lbe23_19 (cx : Cx) (F : Fr) (H : Heap) : evalCode Try.prog cx LB23_19 F H = evalCode Try.prog cx (loopOf Try.f23 19) F H := rfl
theorem lbe24_4 (cx : Cx) (F : Fr) (H : Heap) : evalCode Try.prog cx LB24_4 F H = evalCode Try.prog cx (loopOf Try.f24 4) F H := rfl
theorem lbe41_3 (cx : Cx) (F : Fr) (H : Heap) : evalCode Try.prog cx LB41_3 F H = evalCode Try.prog cx (loopOf Try.f41 3) F H := rfl
theorem lbe41_9 (cx : Cx) (F : Fr) (H : Heap) : evalCode Try.prog cx LB41_9 F H = evalCode Try.prog cx (loopOf Try.f41 9) F H := rfl
theorem lbe43_3 (cx : Cx) (F : Fr) (H : Heap) : evalCode Try.prog cx LB43_3 F H = evalCode Try.prog cx (loopOf Try.f43 3) F H := rfl
theorem lbe44_6 (cx : Cx) (F : Fr) (H : Heap) : evalCode Try.prog cx LB44_6 F H = evalCode Try.prog cx (loopOf Try.f44 6) F H := rfl
theorem lbe44_14 (cx : Cx) (F : Fr) (H : Heap) : evalCode Try.prog cx LB44_14 F H = evalCode Try.prog cx (loopOf Try.f44 14) F H := rfl
theorem lbe44_22 (cx : Cx) (F : Fr) (H : Heap) : evalCode Try.prog cx LB44_22 F H = evalCode Try.prog cx (loopOf Try.f44 22) F H := rfl
theorem lbe44_32 (cx : Cx) (F : Fr) (H : Heap) : evalCode Try.prog cx LB44_32 F H = evalCode Try.prog cx (loopOf Try.f44 32) F H := rfl
theorem lbe45_11 (cx : Cx) (F : Fr) (H : Heap) : evalCode Try.prog cx LB45_11 F H = evalCode Try.prog cx (loopOf Try.f45 11) F H := rfl
theorem lbe46_6 (cx : Cx) (F : Fr) (H : Heap) : evalCode Try.prog cx LB46_6 F H = evalCode Try.prog cx (loopOf Try.f46 6) F H := rfl
theorem lbe46_16 (cx : Cx) (F : Fr) (H : Heap) : evalCode Try.prog cx LB46_16 F H = evalCode Try.prog cx (loopOf Try.f46 16) F H := rfl
theorem lbe62_4 (cx : Cx) (F : Fr) (H : Heap) : evalCode Try.prog cx LB62_4 F H = evalCode Try.prog cx (loopOf Try.f62 4) F H := rfl
theorem lbe62_10 (cx : Cx) (F : Fr) (H : Heap) : evalCode Try.prog cx LB62_10 F H = evalCode Try.prog cx (loopOf Try.f62 10) F H := rfl
theorem lbe67_4 (cx : Cx) (F : Fr) (H : Heap) : evalCode Try.prog cx LB67_4 F H = evalCode Try.prog cx (loopOf Try.f67 4) F H := rfl
theorem lbe67_9 (cx : Cx) (F : Fr) (H : Heap) : evalCode Try.prog cx LB67_9 F H = evalCode Try.prog cx (loopOf Try.f67 9) F H := rfl
theorem lbe69_2 (cx : Cx) (F : Fr) (H : Heap) : evalCode Try.prog cx LB69_2 F H = evalCode Try.prog cx (loopOf Try.f69 2) F H := rfl
theorem lbe82_8 (cx : Cx) (F : Fr) (H : Heap) : evalCode Try.prog cx LB82_8 F H = evalCode Try.prog cx (loopOf Try.f82 8) F H := rfl
theorem lbe82_13 (cx : Cx) (F : Fr) (H : Heap) : evalCode Try.prog cx LB82_13 F H = evalCode Try.prog cx (loopOf Try.f82 13) F H := rfl
theorem lbe82_17 (cx : Cx) (F : Fr) (H : Heap) : evalCode Try.prog cx LB82_17 F H = evalCode Try.prog cx (loopOf Try.f82 17) F H := rfl
theorem lbe82_28 (cx : Cx) (F : Fr) (H : Heap) : evalCode Try.prog cx LB82_28 F H = evalCode Try.prog cx (loopOf Try.f82 28) F H := rfl
theorem lbe84_2 (cx : Cx) (F : Fr) (H : Heap) : evalCode Try.prog cx LB84_2 F H = evalCode Try.prog cx (loopOf Try.f84 2) F H := rfl
theorem lbe100_4 (cx : Cx) (F : Fr) (H : Heap) : evalCode Try.prog cx LB100_4 F H = evalCode Try.prog cx (loopOf Try.f100 4) F H := rfl
theorem lbe107_3 (cx : Cx) (F : Fr) (H : Heap) : evalCode Try.prog cx LB107_3 F H = evalCode Try.prog cx (loopOf Try.f107 3) F H := rfl
theorem lbe109_6 (cx : Cx) (F : Fr) (H : Heap) : evalCode Try.prog cx LB109_6 F H = evalCode Try.prog cx (loopOf Try.f109 6) F H := rfl
theorem lbe125_3 (cx : Cx) (F : Fr) (H : Heap) : evalCode Try.prog cx LB125_3 F H = evalCode Try.prog cx (loopOf Try.f125 3) F H := rfl
theorem lbe128_1 (cx : Cx) (F : Fr) (H : Heap) : evalCode Try.prog cx LB128_1 F H = evalCode Try.prog cx (loopOf Try.f128 1) F H := rfl
theorem lbe139_3 (cx : Cx) (F : Fr) (H : Heap) : evalCode Try.prog cx LB139_3 F H = evalCode Try.prog cx (loopOf Try.f139 3) F H := rfl
theorem lbe139_7 (cx : Cx) (F : Fr) (H : Heap) : evalCode Try.prog cx LB139_7 F H = evalCode Try.prog cx (loopOf Try.f139 7) F H := rfl
theorem lbe147_4 (cx : Cx) (F : Fr) (H : Heap) : evalCode Try.prog cx LB147_4 F H = evalCode Try.prog cx (loopOf Try.f147 4) F H := rfl
theorem lbe148_4 (cx : Cx) (F : Fr) (H : Heap) : evalCode Try.prog cx LB148_4 F H = evalCode Try.prog cx (loopOf Try.f148 4) F H := rfl
theorem lbe149_5 (cx : Cx) (F : Fr) (H : Heap) : evalCode Try.prog cx LB149_5 F H = evalCode Try.prog cx (loopOf Try.f149 5) F H := rfl
theorem lbe149_14 (cx : Cx) (F : Fr) (H : Heap) : evalCode Try.prog cx LB149_14 F H = evalCode Try.prog cx (loopOf Try.f149 14) F H := rfl
theorem lbe149_18 (cx : Cx) (F : Fr) (H : Heap) : evalCode Try.prog cx LB149_18 F H = evalCode Try.prog cx (loopOf Try.f149 18) F H := rfl
theorem lbe154_5 (cx : Cx) (F : Fr) (H : Heap) : evalCode Try.prog cx LB154_5 F H = evalCode Try.prog cx (loopOf Try.f154 5) F H := rfl
theorem FACTS : type_of% (J (J (J @fb8 @fb17 @fb40 @fb41 @fb42 @fb43 @fb44 @fb45) (J @fb67 @fb22 @fb79 @fb82 @fb83 @fb84 @fb23 @fb24) (J @fb102 @fb69 @fb46 @fb112 @fb70 @fb71 @fb72 @fb78) (J @fb85 @fb103 @fb104 @fb105 @fb106 @fb107 @fb108 @fb109) (J @fb110 @fb62 @fb125 @fb126 @fb127 @fb111 @fb100 @fb138) (J @fb139 @fb140 @fb128 @fb123 @fb124 @fb147 @fb148 @fb149) (J @fb150 @fb151 @fb154 @fb155 @fb156 @fsl8_1_0 @kb8_1_0 @fsl8_3_1) (J @kb8_3_1 @fsl8_4_1 @kb8_4_1 @fsl8_5_1 @kb8_5_1 @fsl8_5_19 @kb8_5_19 @fsl8_7_1)) (J (J @kb8_7_1 @sb8_7_5 @fsl8_8_6 @kb8_8_6 @ldp25 @ldi25 @lde25 @ln35) (J @lnv35 @lnh35 @fa25_0 @ldp3 @ldi3 @lde3 @al25 @fsl17_1_1) (J @kb17_1_1 @fsl40_1_2 @kb40_1_2 @sb40_1_6 @bs23_1_0 @bd25_0_1_3_h1 @bd25_0_1_3 @fa25_1) (J @fa25_3 @ldp23 @ldi23 @lde23 @ln23 @lnv23 @lnh23 @fsl41_11_8) (J @kb41_11_8 @sb41_11_10 @sb41_12_3 @ia35 @iah35 @ldp38 @ldi38 @lde38) (J @ln38 @lnv38 @lnh38 @bs40_0_ @ia38 @iah38 @ldp2 @ldi2) (J @lde2 @bs40_1_0 @ap40 @bs37_1_0 @ap37 @fa25_2 @ldp22 @ldi22) (J @lde22 @ln22 @lnv22 @lnh22 @ia22 @iah22 @fa34_0 @sb44_0_1)) (J (J @fsl44_1_1 @kb44_1_1 @fsl44_8_9 @kb44_8_9 @fsl44_11_11 @kb44_11_11 @sb44_12_11 @sb44_15_3) (J @fsl44_17_1 @kb44_17_1 @fsl44_27_8 @kb44_27_8 @sb44_28_4 @sb44_34_9 @bd25_ @bd125_0) (J @fa128_6 @ia23 @iah23 @fa125_1 @ldp64 @ldi64 @lde64 @ln64) (J @lnv64 @lnh64 @bd25_0_1 @ldp34 @ldi34 @lde34 @al34 @fa128_1) (J @ia64 @iah64 @ldp4 @ldi4 @lde4 @fa125_0 @ldp123 @ldi123) (J @lde123 @fa128_2 @fa34_2 @fa128_3 @fa34_3 @bd62_0_1 @fa128_4 @fa34_1) (J @bs22_1_0 @ap22 @fa128_5 @ap23 @fsl45_1_1 @kb45_1_1 @fsl45_4_2 @kb45_4_2) (J @fsl45_7_2 @kb45_7_2 @fsl45_13_8 @kb45_13_8 @ln37 @lnv37 @lnh37 @ia37)) (J (J @iah37 @ldp40 @ldi40 @lde40 @fsl67_11_7 @kb67_11_7 @sb22_0_0 @sb22_6_5) (J @fsl22_8_3 @kb22_8_3 @al43 @cv2_101 @cv101_102 @bs41_1_0 @ap41 @bs23_2_0_1) (J @fsl82_1_1 @kb82_1_1 @sb82_5_3 @sb82_5_5 @sb82_5_7 @sb82_6_2 @fsl82_10_4 @kb82_10_4) (J @sb82_14_6 @sb82_18_3 @fsl82_21_1 @kb82_21_1 @sb82_25_6 @sb82_30_10 @ms23 @bd128_0_1_2_3_4) (J @sb83_1_8 @bs64_1_0 @ap64 @sb84_9_6 @sb23_1_2 @fsl23_5_6 @kb23_5_6 @fsl23_12_6) (J @kb23_12_6 @sb23_16_3 @sb23_21_10 @ms37 @ln40 @lnv40 @lnh40 @fsl24_6_8) (J @kb24_6_8 @ia40 @iah40 @ldp43 @ldi43 @lde43 @fa34_4 @sb69_0_0) (J @ln41 @lnv41 @lnh41 @ia41 @iah41 @ldp102 @ldi102 @lde102)) (J (J @sl41 @bd43_0_1_h1 @bd43_0_1 @fsl46_1_1 @kb46_1_1 @sb46_3_3 @sb46_3_4 @sb46_4_2) (J @sb46_4_3 @fsl46_10_1 @kb46_10_1 @sb46_12_0 @fsl46_15_1 @kb46_15_1 @rae46_11 @rbe46_11) (J @ms64 @al64 @sb70_1_1 @ms40 @fsl71_3_1 @kb71_3_1 @fsl71_3_2 @kb71_3_2) (J @fsl71_5_6 @kb71_5_6 @fsl71_7_6 @kb71_7_6 @fsl71_9_2 @kb71_9_2 @fsl71_9_3 @kb71_9_3) (J @fsl71_11_2 @kb71_11_2 @fsl71_11_3 @kb71_11_3 @fsl72_1_1 @kb72_1_1 @fsl72_1_3 @kb72_1_3) (J @fsl72_7_4 @kb72_7_4 @fsl72_8_4 @kb72_8_4 @fa43_1 @ldp41 @ldi41 @lde41) (J @fsl85_1_1 @kb85_1_1 @fsl103_1_4 @kb103_1_4 @bd43_ @fsl104_1_0 @kb104_1_0 @fsl104_1_2) (J @kb104_1_2 @fsl104_1_4 @kb104_1_4 @fsl105_1_0 @kb105_1_0 @fsl105_1_2 @kb105_1_2 @fsl105_1_4)) (J (J @kb105_1_4 @sb106_0_1 @fsl106_2_2 @kb106_2_2 @fsl106_3_2 @kb106_3_2 @fsl107_5_5 @kb107_5_5) (J @sb107_5_9 @sb107_8_3 @fa43_0 @fsl110_1_1 @kb110_1_1 @fsl110_2_2 @kb110_2_2 @sb110_4_0) (J @fsl110_5_3 @kb110_5_3 @rae110_3 @rbe110_3 @ldp163 @ldi163 @lde163 @sb62_11_3) (J @fsl62_12_3 @kb62_12_3 @fsl125_5_6 @kb125_5_6 @fsl125_5_12 @kb125_5_12 @fsl125_5_13 @kb125_5_13) (J @sb125_5_15 @sb126_0_0 @sb126_1_3 @fsl126_3_1 @kb126_3_1 @ms41 @sb127_0_2 @fsl127_1_2) (J @kb127_1_2 @sb127_1_6 @sb127_1_7 @fsl100_1_22 @kb100_1_22 @fsl100_1_32 @kb100_1_32 @fsl100_3_1) (J @kb100_3_1 @sb138_0_2 @fsl138_2_6 @kb138_2_6 @fsl138_2_7 @kb138_2_7 @fsl138_3_4 @kb138_3_4) (J @fsl138_4_6 @kb138_4_6 @fsl138_4_7 @kb138_4_7 @fsl138_5_6 @kb138_5_6 @fsl138_5_7 @kb138_5_7)) (J (J @eqb4 @sb139_0_2 @sb139_1_8 @fsl139_14_6 @kb139_14_6 @cv102_101 @neb4 @sb140_0_2) (J @sb140_0_3 @fsl140_1_4 @kb140_1_4 @fsl140_2_6 @kb140_2_6 @fsl140_2_10 @kb140_2_10 @sb140_2_11) (J @sb140_2_12 @fsl140_4_2 @kb140_4_2 @fsl140_4_3 @kb140_4_3 @fsl140_5_2 @kb140_5_2 @fsl140_5_3) (J @kb140_5_3 @fsl140_5_4 @kb140_5_4 @fsl128_3_6 @kb128_3_6 @sb147_10_4 @sb148_14_5 @sb149_2_2) (J @fsl149_10_1 @kb149_10_1 @fsl149_10_6 @kb149_10_6 @sb149_11_2 @fsl149_13_1 @kb149_13_1 @fsl149_16_2) (J @kb149_16_2 @sb149_24_3 @fsl149_25_2 @kb149_25_2 @fsl149_26_2 @rb149_26_2 @kb149_26_2 @fsl149_26_3) (J @rb149_26_3 @kb149_26_3 @fsl149_28_1 @kb149_28_1 @fd43_1 @sb150_0_1 @fsl150_1_2 @kb150_1_2) (J @sb151_0_2 @fsl151_1_2 @kb151_1_2 @fsl151_1_3 @kb151_1_3 @sb156_0_1 @fsl156_1_5 @kb156_1_5)) (And.intro (J @lbe22_5 @lbe23_3 @lbe23_10 @lbe23_19 @lbe24_4 @lbe41_3 @lbe41_9 @lbe43_3) (And.intro (J @lbe44_6 @lbe44_14 @lbe44_22 @lbe44_32 @lbe45_11 @lbe46_6 @lbe46_16 @lbe62_4) (And.intro (J @lbe62_10 @lbe67_4 @lbe67_9 @lbe69_2 @lbe82_8 @lbe82_13 @lbe82_17 @lbe82_28) (And.intro (J @lbe84_2 @lbe100_4 @lbe107_3 @lbe109_6 @lbe125_3 @lbe128_1 @lbe139_3 @lbe139_7) (And.intro @lbe147_4 (And.intro @lbe148_4 (And.intro @lbe149_5 (And.intro @lbe149_14 (And.intro @lbe149_18 @lbe154_5)))))))))) :=
  (J (J (J @fb8 @fb17 @fb40 @fb41 @fb42 @fb43 @fb44 @fb45) (J @fb67 @fb22 @fb79 @fb82 @fb83 @fb84 @fb23 @fb24) (J @fb102 @fb69 @fb46 @fb112 @fb70 @fb71 @fb72 @fb78) (J @fb85 @fb103 @fb104 @fb105 @fb106 @fb107 @fb108 @fb109) (J @fb110 @fb62 @fb125 @fb126 @fb127 @fb111 @fb100 @fb138) (J @fb139 @fb140 @fb128 @fb123 @fb124 @fb147 @fb148 @fb149) (J @fb150 @fb151 @fb154 @fb155 @fb156 @fsl8_1_0 @kb8_1_0 @fsl8_3_1) (J @kb8_3_1 @fsl8_4_1 @kb8_4_1 @fsl8_5_1 @kb8_5_1 @fsl8_5_19 @kb8_5_19 @fsl8_7_1)) (J (J @kb8_7_1 @sb8_7_5 @fsl8_8_6 @kb8_8_6 @ldp25 @ldi25 @lde25 @ln35) (J @lnv35 @lnh35 @fa25_0 @ldp3 @ldi3 @lde3 @al25 @fsl17_1_1) (J @kb17_1_1 @fsl40_1_2 @kb40_1_2 @sb40_1_6 @bs23_1_0 @bd25_0_1_3_h1 @bd25_0_1_3 @fa25_1) (J @fa25_3 @ldp23 @ldi23 @lde23 @ln23 @lnv23 @lnh23 @fsl41_11_8) (J @kb41_11_8 @sb41_11_10 @sb41_12_3 @ia35 @iah35 @ldp38 @ldi38 @lde38) (J @ln38 @lnv38 @lnh38 @bs40_0_ @ia38 @iah38 @ldp2 @ldi2) (J @lde2 @bs40_1_0 @ap40 @bs37_1_0 @ap37 @fa25_2 @ldp22 @ldi22) (J @lde22 @ln22 @lnv22 @lnh22 @ia22 @iah22 @fa34_0 @sb44_0_1)) (J (J @fsl44_1_1 @kb44_1_1 @fsl44_8_9 @kb44_8_9 @fsl44_11_11 @kb44_11_11 @sb44_12_11 @sb44_15_3) (J @fsl44_17_1 @kb44_17_1 @fsl44_27_8 @kb44_27_8 @sb44_28_4 @sb44_34_9 @bd25_ @bd125_0) (J @fa128_6 @ia23 @iah23 @fa125_1 @ldp64 @ldi64 @lde64 @ln64) (J @lnv64 @lnh64 @bd25_0_1 @ldp34 @ldi34 @lde34 @al34 @fa128_1) (J @ia64 @iah64 @ldp4 @ldi4 @lde4 @fa125_0 @ldp123 @ldi123) (J @lde123 @fa128_2 @fa34_2 @fa128_3 @fa34_3 @bd62_0_1 @fa128_4 @fa34_1) (J @bs22_1_0 @ap22 @fa128_5 @ap23 @fsl45_1_1 @kb45_1_1 @fsl45_4_2 @kb45_4_2) (J @fsl45_7_2 @kb45_7_2 @fsl45_13_8 @kb45_13_8 @ln37 @lnv37 @lnh37 @ia37)) (J (J @iah37 @ldp40 @ldi40 @lde40 @fsl67_11_7 @kb67_11_7 @sb22_0_0 @sb22_6_5) (J @fsl22_8_3 @kb22_8_3 @al43 @cv2_101 @cv101_102 @bs41_1_0 @ap41 @bs23_2_0_1) (J @fsl82_1_1 @kb82_1_1 @sb82_5_3 @sb82_5_5 @sb82_5_7 @sb82_6_2 @fsl82_10_4 @kb82_10_4) (J @sb82_14_6 @sb82_18_3 @fsl82_21_1 @kb82_21_1 @sb82_25_6 @sb82_30_10 @ms23 @bd128_0_1_2_3_4) (J @sb83_1_8 @bs64_1_0 @ap64 @sb84_9_6 @sb23_1_2 @fsl23_5_6 @kb23_5_6 @fsl23_12_6) (J @kb23_12_6 @sb23_16_3 @sb23_21_10 @ms37 @ln40 @lnv40 @lnh40 @fsl24_6_8) (J @kb24_6_8 @ia40 @iah40 @ldp43 @ldi43 @lde43 @fa34_4 @sb69_0_0) (J @ln41 @lnv41 @lnh41 @ia41 @iah41 @ldp102 @ldi102 @lde102)) (J (J @sl41 @bd43_0_1_h1 @bd43_0_1 @fsl46_1_1 @kb46_1_1 @sb46_3_3 @sb46_3_4 @sb46_4_2) (J @sb46_4_3 @fsl46_10_1 @kb46_10_1 @sb46_12_0 @fsl46_15_1 @kb46_15_1 @rae46_11 @rbe46_11) (J @ms64 @al64 @sb70_1_1 @ms40 @fsl71_3_1 @kb71_3_1 @fsl71_3_2 @kb71_3_2) (J @fsl71_5_6 @kb71_5_6 @fsl71_7_6 @kb71_7_6 @fsl71_9_2 @kb71_9_2 @fsl71_9_3 @kb71_9_3) (J @fsl71_11_2 @kb71_11_2 @fsl71_11_3 @kb71_11_3 @fsl72_1_1 @kb72_1_1 @fsl72_1_3 @kb72_1_3) (J @fsl72_7_4 @kb72_7_4 @fsl72_8_4 @kb72_8_4 @fa43_1 @ldp41 @ldi41 @lde41) (J @fsl85_1_1 @kb85_1_1 @fsl103_1_4 @kb103_1_4 @bd43_ @fsl104_1_0 @kb104_1_0 @fsl104_1_2) (J @kb104_1_2 @fsl104_1_4 @kb104_1_4 @fsl105_1_0 @kb105_1_0 @fsl105_1_2 @kb105_1_2 @fsl105_1_4)) (J (J @kb105_1_4 @sb106_0_1 @fsl106_2_2 @kb106_2_2 @fsl106_3_2 @kb106_3_2 @fsl107_5_5 @kb107_5_5) (J @sb107_5_9 @sb107_8_3 @fa43_0 @fsl110_1_1 @kb110_1_1 @fsl110_2_2 @kb110_2_2 @sb110_4_0) (J @fsl110_5_3 @kb110_5_3 @rae110_3 @rbe110_3 @ldp163 @ldi163 @lde163 @sb62_11_3) (J @fsl62_12_3 @kb62_12_3 @fsl125_5_6 @kb125_5_6 @fsl125_5_12 @kb125_5_12 @fsl125_5_13 @kb125_5_13) (J @sb125_5_15 @sb126_0_0 @sb126_1_3 @fsl126_3_1 @kb126_3_1 @ms41 @sb127_0_2 @fsl127_1_2) (J @kb127_1_2 @sb127_1_6 @sb127_1_7 @fsl100_1_22 @kb100_1_22 @fsl100_1_32 @kb100_1_32 @fsl100_3_1) (J @kb100_3_1 @sb138_0_2 @fsl138_2_6 @kb138_2_6 @fsl138_2_7 @kb138_2_7 @fsl138_3_4 @kb138_3_4) (J @fsl138_4_6 @kb138_4_6 @fsl138_4_7 @kb138_4_7 @fsl138_5_6 @kb138_5_6 @fsl138_5_7 @kb138_5_7)) (J (J @eqb4 @sb139_0_2 @sb139_1_8 @fsl139_14_6 @kb139_14_6 @cv102_101 @neb4 @sb140_0_2) (J @sb140_0_3 @fsl140_1_4 @kb140_1_4 @fsl140_2_6 @kb140_2_6 @fsl140_2_10 @kb140_2_10 @sb140_2_11) (J @sb140_2_12 @fsl140_4_2 @kb140_4_2 @fsl140_4_3 @kb140_4_3 @fsl140_5_2 @kb140_5_2 @fsl140_5_3) (J @kb140_5_3 @fsl140_5_4 @kb140_5_4 @fsl128_3_6 @kb128_3_6 @sb147_10_4 @sb148_14_5 @sb149_2_2) (J @fsl149_10_1 @kb149_10_1 @fsl149_10_6 @kb149_10_6 @sb149_11_2 @fsl149_13_1 @kb149_13_1 @fsl149_16_2) (J @kb149_16_2 @sb149_24_3 @fsl149_25_2 @kb149_25_2 @fsl149_26_2 @rb149_26_2 @kb149_26_2 @fsl149_26_3) (J @rb149_26_3 @kb149_26_3 @fsl149_28_1 @kb149_28_1 @fd43_1 @sb150_0_1 @fsl150_1_2 @kb150_1_2) (J @sb151_0_2 @fsl151_1_2 @kb151_1_2 @fsl151_1_3 @kb151_1_3 @sb156_0_1 @fsl156_1_5 @kb156_1_5)) (And.intro (J @lbe22_5 @lbe23_3 @lbe23_10 @lbe23_19 @lbe24_4 @lbe41_3 @lbe41_9 @lbe43_3) (And.intro (J @lbe44_6 @lbe44_14 @lbe44_22 @lbe44_32 @lbe45_11 @lbe46_6 @lbe46_16 @lbe62_4) (And.intro (J @lbe62_10 @lbe67_4 @lbe67_9 @lbe69_2 @lbe82_8 @lbe82_13 @lbe82_17 @lbe82_28) (And.intro (J @lbe84_2 @lbe100_4 @lbe107_3 @lbe109_6 @lbe125_3 @lbe128_1 @lbe139_3 @lbe139_7) (And.intro @lbe147_4 (And.intro @lbe148_4 (And.intro @lbe149_5 (And.intro @lbe149_14 (And.intro @lbe149_18 @lbe154_5))))))))))
theorem TYPES : type_of% (And.intro (J @ag25 @sz25 @ag3 @sz3 @ag23 @sz23 @ag38 @sz38) (And.intro (J @ag2 @sz2 @ag22 @sz22 @ag34 @sz34 @ag64 @sz64) (And.intro (J @ag4 @sz4 @ag123 @sz123 @ag40 @sz40 @ag43 @sz43) (And.intro @ag102 (And.intro @sz102 (And.intro @ag41 (And.intro @sz41 (And.intro @ag163 @sz163)))))))) :=
  (And.intro (J @ag25 @sz25 @ag3 @sz3 @ag23 @sz23 @ag38 @sz38) (And.intro (J @ag2 @sz2 @ag22 @sz22 @ag34 @sz34 @ag64 @sz64) (And.intro (J @ag4 @sz4 @ag123 @sz123 @ag40 @sz40 @ag43 @sz43) (And.intro @ag102 (And.intro @sz102 (And.intro @ag41 (And.intro @sz41 (And.intro @ag163 @sz163))))))))
theorem FT : type_of% (And.intro @EVb (And.intro @EVc (And.intro @FACTS @TYPES))) :=
  (And.intro @EVb (And.intro @EVc (And.intro @FACTS @TYPES)))
end Go.Proofs.Sw
