/- A part of the proof: what functions of the program answer; conditions stand in each theorem. -/
import Derived.Test.YtiiannaficbjeaaDoorProg
import Derived.Test.YtiiannaficbjeaaDoorAbSim
import Derived.WalkKit
set_option linter.unusedVariables false
set_option linter.unusedSimpArgs false
set_option linter.unusedSectionVars false
namespace Go.Proofs.Sw
open Go.Ab
variable [Globals]
def tab : Tab := ⟨[(14, 4, 73, [2, 3, 5]), (14, 9, 73, [2, 3, 6]), (16, 6, 76, [1, 2, 6, 22, 23, 24]), (16, 9, 76, [1, 2, 6, 9, 22, 23, 24]), (23, 4, 72, [1, 42, 43, 44]), (23, 10, 72, [1, 58, 59, 60]), (24, 11, 49, [8, 10, 34, 35, 36]), (25, 3, 19, [3, 6, 7, 8]), (27, 4, 26, [0, 1, 12, 13]), (50, 4, 57, [1, 43, 44, 45]), (52, 2, 42, [2, 3, 4, 14, 15, 16]), (56, 4, 32, [1, 2, 15, 16, 17]), (85, 7, 49, [0, 1, 5]), (100, 6, 58, [0, 1, 5, 6, 20, 21, 22]), (101, 6, 53, [1, 6, 7, 19, 20, 21]), (102, 3, 67, [1, 5, 17, 18, 19]), (102, 7, 67, [1, 5, 6, 7, 8, 17, 18, 19, 24, 25, 26]), (103, 16, 106, [10, 11, 13, 15, 16, 17]), (106, 2, 22, [0, 3]), (114, 6, 46, [0, 1, 7, 8, 9]), (116, 8, 62, [1, 6, 7, 24, 25, 26]), (117, 4, 119, [0, 1, 5, 7, 8]), (117, 13, 119, [0, 1, 5, 7, 9, 88, 89]), (118, 10, 62, [0, 6, 7, 29, 30, 31]), (123, 3, 52, [0, 1, 2, 7, 8, 12, 13])], [(18, 11, 7), (126, 26, 2), (1000126, 26, 3)], [(16, 15, 3, 0), (24, 13, 6, 0), (25, 5, 4, 0), (76, 1, 10, 1), (76, 1, 11, 2), (82, 4, 11, 0), (82, 4, 12, 1), (103, 12, 2, 0)], [(16, 1), (24, 1), (25, 1), (76, 2), (82, 2), (103, 1)], [20, 33, 34, 36, 40, 41, 42, 43, 52, 68, 71, 76, 117, 123], [(15, 8, 9, [2])], [], [(20, 3), (20, 7)], []⟩
theorem lp14_4 : (tab.loops.find? fun e => e.1 == 14 && e.2.1 == 4) = some (14, 4, 73, [2, 3, 5]) := by rfl
noncomputable def LB14_4 : Code := loopOf Tryd.f14 4
theorem lp14_9 : (tab.loops.find? fun e => e.1 == 14 && e.2.1 == 9) = some (14, 9, 73, [2, 3, 6]) := by rfl
noncomputable def LB14_9 : Code := loopOf Tryd.f14 9
theorem lp16_6 : (tab.loops.find? fun e => e.1 == 16 && e.2.1 == 6) = some (16, 6, 76, [1, 2, 6, 22, 23, 24]) := by rfl
noncomputable def LB16_6 : Code := loopOf Tryd.f16 6
theorem lp16_9 : (tab.loops.find? fun e => e.1 == 16 && e.2.1 == 9) = some (16, 9, 76, [1, 2, 6, 9, 22, 23, 24]) := by rfl
noncomputable def LB16_9 : Code := loopOf Tryd.f16 9
theorem lp23_4 : (tab.loops.find? fun e => e.1 == 23 && e.2.1 == 4) = some (23, 4, 72, [1, 42, 43, 44]) := by rfl
noncomputable def LB23_4 : Code := loopOf Tryd.f23 4
theorem lp23_10 : (tab.loops.find? fun e => e.1 == 23 && e.2.1 == 10) = some (23, 10, 72, [1, 58, 59, 60]) := by rfl
noncomputable def LB23_10 : Code := loopOf Tryd.f23 10
theorem lp24_11 : (tab.loops.find? fun e => e.1 == 24 && e.2.1 == 11) = some (24, 11, 49, [8, 10, 34, 35, 36]) := by rfl
noncomputable def LB24_11 : Code := loopOf Tryd.f24 11
theorem lp25_3 : (tab.loops.find? fun e => e.1 == 25 && e.2.1 == 3) = some (25, 3, 19, [3, 6, 7, 8]) := by rfl
noncomputable def LB25_3 : Code := loopOf Tryd.f25 3
theorem lp27_4 : (tab.loops.find? fun e => e.1 == 27 && e.2.1 == 4) = some (27, 4, 26, [0, 1, 12, 13]) := by rfl
noncomputable def LB27_4 : Code := loopOf Tryd.f27 4
theorem lp50_4 : (tab.loops.find? fun e => e.1 == 50 && e.2.1 == 4) = some (50, 4, 57, [1, 43, 44, 45]) := by rfl
noncomputable def LB50_4 : Code := loopOf Tryd.f50 4
theorem lp52_2 : (tab.loops.find? fun e => e.1 == 52 && e.2.1 == 2) = some (52, 2, 42, [2, 3, 4, 14, 15, 16]) := by rfl
noncomputable def LB52_2 : Code := loopOf Tryd.f52 2
theorem lp56_4 : (tab.loops.find? fun e => e.1 == 56 && e.2.1 == 4) = some (56, 4, 32, [1, 2, 15, 16, 17]) := by rfl
noncomputable def LB56_4 : Code := loopOf Tryd.f56 4
theorem lp85_7 : (tab.loops.find? fun e => e.1 == 85 && e.2.1 == 7) = some (85, 7, 49, [0, 1, 5]) := by rfl
noncomputable def LB85_7 : Code := loopOf Tryd.f85 7
theorem lp100_6 : (tab.loops.find? fun e => e.1 == 100 && e.2.1 == 6) = some (100, 6, 58, [0, 1, 5, 6, 20, 21, 22]) := by rfl
noncomputable def LB100_6 : Code := loopOf Tryd.f100 6
theorem lp101_6 : (tab.loops.find? fun e => e.1 == 101 && e.2.1 == 6) = some (101, 6, 53, [1, 6, 7, 19, 20, 21]) := by rfl
noncomputable def LB101_6 : Code := loopOf Tryd.f101 6
theorem lp102_3 : (tab.loops.find? fun e => e.1 == 102 && e.2.1 == 3) = some (102, 3, 67, [1, 5, 17, 18, 19]) := by rfl
noncomputable def LB102_3 : Code := loopOf Tryd.f102 3
theorem lp102_7 : (tab.loops.find? fun e => e.1 == 102 && e.2.1 == 7) = some (102, 7, 67, [1, 5, 6, 7, 8, 17, 18, 19, 24, 25, 26]) := by rfl
noncomputable def LB102_7 : Code := loopOf Tryd.f102 7
theorem lp103_16 : (tab.loops.find? fun e => e.1 == 103 && e.2.1 == 16) = some (103, 16, 106, [10, 11, 13, 15, 16, 17]) := by rfl
noncomputable def LB103_16 : Code := loopOf Tryd.f103 16
theorem lp106_2 : (tab.loops.find? fun e => e.1 == 106 && e.2.1 == 2) = some (106, 2, 22, [0, 3]) := by rfl
noncomputable def LB106_2 : Code := loopOf Tryd.f106 2
theorem lp114_6 : (tab.loops.find? fun e => e.1 == 114 && e.2.1 == 6) = some (114, 6, 46, [0, 1, 7, 8, 9]) := by rfl
noncomputable def LB114_6 : Code := loopOf Tryd.f114 6
theorem lp116_8 : (tab.loops.find? fun e => e.1 == 116 && e.2.1 == 8) = some (116, 8, 62, [1, 6, 7, 24, 25, 26]) := by rfl
noncomputable def LB116_8 : Code := loopOf Tryd.f116 8
theorem lp117_4 : (tab.loops.find? fun e => e.1 == 117 && e.2.1 == 4) = some (117, 4, 119, [0, 1, 5, 7, 8]) := by rfl
noncomputable def LB117_4 : Code := loopOf Tryd.f117 4
theorem lp117_13 : (tab.loops.find? fun e => e.1 == 117 && e.2.1 == 13) = some (117, 13, 119, [0, 1, 5, 7, 9, 88, 89]) := by rfl
noncomputable def LB117_13 : Code := loopOf Tryd.f117 13
theorem lp118_10 : (tab.loops.find? fun e => e.1 == 118 && e.2.1 == 10) = some (118, 10, 62, [0, 6, 7, 29, 30, 31]) := by rfl
noncomputable def LB118_10 : Code := loopOf Tryd.f118 10
theorem lp123_3 : (tab.loops.find? fun e => e.1 == 123 && e.2.1 == 3) = some (123, 3, 52, [0, 1, 2, 7, 8, 12, 13]) := by rfl
noncomputable def LB123_3 : Code := loopOf Tryd.f123 3
theorem fb4 : inB tab.frames 4 = false := by rfl
theorem fb16 : inB tab.frames 16 = false := by rfl
theorem fb21 : inB tab.frames 21 = false := by rfl
theorem fb22 : inB tab.frames 22 = false := by rfl
theorem fb23 : inB tab.frames 23 = false := by rfl
theorem fb24 : inB tab.frames 24 = false := by rfl
theorem fb25 : inB tab.frames 25 = false := by rfl
theorem fb26 : inB tab.frames 26 = false := by rfl
theorem fb27 : inB tab.frames 27 = false := by rfl
theorem fb37 : inB tab.frames 37 = false := by rfl
theorem fb38 : inB tab.frames 38 = false := by rfl
theorem fb39 : inB tab.frames 39 = false := by rfl
theorem fb14 : inB tab.frames 14 = false := by rfl
theorem fb48 : inB tab.frames 48 = false := by rfl
theorem fb49 : inB tab.frames 49 = false := by rfl
theorem fb50 : inB tab.frames 50 = false := by rfl
theorem fb51 : inB tab.frames 51 = false := by rfl
theorem fb52 : inB tab.frames 52 = true := by rfl
theorem fb53 : inB tab.frames 53 = false := by rfl
theorem fb54 : inB tab.frames 54 = false := by rfl
theorem fb55 : inB tab.frames 55 = false := by rfl
theorem fb56 : inB tab.frames 56 = false := by rfl
theorem fb57 : inB tab.frames 57 = false := by rfl
theorem fb65 : inB tab.frames 65 = false := by rfl
theorem fb66 : inB tab.frames 66 = false := by rfl
theorem fb67 : inB tab.frames 67 = false := by rfl
theorem fb73 : inB tab.frames 73 = false := by rfl
theorem fb35 : inB tab.frames 35 = false := by rfl
theorem fb74 : inB tab.frames 74 = false := by rfl
theorem fb75 : inB tab.frames 75 = false := by rfl
theorem fb76 : inB tab.frames 76 = true := by rfl
theorem fb77 : inB tab.frames 77 = false := by rfl
theorem fb78 : inB tab.frames 78 = false := by rfl
theorem fb79 : inB tab.frames 79 = false := by rfl
theorem fb80 : inB tab.frames 80 = false := by rfl
theorem fb81 : inB tab.frames 81 = false := by rfl
theorem fb84 : inB tab.frames 84 = false := by rfl
theorem fb58 : inB tab.frames 58 = false := by rfl
theorem fb87 : inB tab.frames 87 = false := by rfl
theorem fb88 : inB tab.frames 88 = false := by rfl
theorem fb98 : inB tab.frames 98 = false := by rfl
theorem fb99 : inB tab.frames 99 = false := by rfl
theorem fb85 : inB tab.frames 85 = false := by rfl
theorem fb100 : inB tab.frames 100 = false := by rfl
theorem fb101 : inB tab.frames 101 = false := by rfl
theorem fb102 : inB tab.frames 102 = false := by rfl
theorem fb82 : inB tab.frames 82 = false := by rfl
theorem fb83 : inB tab.frames 83 = false := by rfl
theorem fb105 : inB tab.frames 105 = false := by rfl
theorem fb107 : inB tab.frames 107 = false := by rfl
theorem fb108 : inB tab.frames 108 = false := by rfl
theorem fb113 : inB tab.frames 113 = false := by rfl
theorem fb106 : inB tab.frames 106 = false := by rfl
theorem fb103 : inB tab.frames 103 = false := by rfl
theorem fb104 : inB tab.frames 104 = false := by rfl
theorem fb116 : inB tab.frames 116 = false := by rfl
theorem fb114 : inB tab.frames 114 = false := by rfl
theorem fb115 : inB tab.frames 115 = false := by rfl
theorem fb117 : inB tab.frames 117 = true := by rfl
theorem fb118 : inB tab.frames 118 = false := by rfl
theorem fb122 : inB tab.frames 122 = false := by rfl
theorem fb123 : inB tab.frames 123 = true := by rfl
theorem ev4 (k : Nat) (x0 x1 : AV) (H : Heap) : evalT Tryd.prog (mkHints tab) (k + 1) (.fn 4) [x0, x1] H = trimO H.length (finishO Tryd.prog Tryd.f4.results.toList (evalCode Tryd.prog (cxG Tryd.prog (mkHints tab) k 4 none) (Tryd.f4.body.getD .skip) (fillArgs (fr 98 []) 0 [x0, x1]) H)) := by
  have h := evalT_fn 98 Tryd.func4 rfl (by decide) rfl (P := Tryd.prog) (h := mkHints tab) (k := k) (args := [x0, x1]) (H := H)
  rw [show (mkHints tab).slots 4 = 0 from rfl, show (List.replicate 0 AObj.slot) = [] from rfl, List.append_nil] at h
  exact h
theorem fsl4_1_0 : fslotB tab.fslots 4 1 0 = [] := by rfl
theorem kb4_1_0 : keepB tab.keeps 4 1 0 = false := by rfl
theorem fsl4_3_1 : fslotB tab.fslots 4 3 1 = [] := by rfl
theorem kb4_3_1 : keepB tab.keeps 4 3 1 = false := by rfl
theorem fsl4_5_1 : fslotB tab.fslots 4 5 1 = [] := by rfl
theorem kb4_5_1 : keepB tab.keeps 4 5 1 = false := by rfl
theorem sb4_5_5 : slotB tab.slots 4 5 5 = none := by rfl
theorem fsl4_7_1 : fslotB tab.fslots 4 7 1 = [] := by rfl
theorem kb4_7_1 : keepB tab.keeps 4 7 1 = false := by rfl
theorem fsl4_9_2 : fslotB tab.fslots 4 9 2 = [] := by rfl
theorem kb4_9_2 : keepB tab.keeps 4 9 2 = false := by rfl
theorem fsl4_9_3 : fslotB tab.fslots 4 9 3 = [] := by rfl
theorem kb4_9_3 : keepB tab.keeps 4 9 3 = false := by rfl
theorem fsl4_10_2 : fslotB tab.fslots 4 10 2 = [] := by rfl
theorem kb4_10_2 : keepB tab.keeps 4 10 2 = false := by rfl
theorem fsl4_10_3 : fslotB tab.fslots 4 10 3 = [] := by rfl
theorem kb4_10_3 : keepB tab.keeps 4 10 3 = false := by rfl
theorem fsl4_11_1 : fslotB tab.fslots 4 11 1 = [] := by rfl
theorem kb4_11_1 : keepB tab.keeps 4 11 1 = false := by rfl
theorem fsl4_12_6 : fslotB tab.fslots 4 12 6 = [] := by rfl
theorem kb4_12_6 : keepB tab.keeps 4 12 6 = false := by rfl
theorem fsl4_12_31 : fslotB tab.fslots 4 12 31 = [] := by rfl
theorem kb4_12_31 : keepB tab.keeps 4 12 31 = false := by rfl
theorem ag25 : isAggT Tryd.prog 25 = some true := by kernel_rfl
theorem sz25 : sizeT Tryd.prog 25 = some 4 := by kernel_rfl
theorem ldp25 (H : Heap) (id off : Nat) : loadA Tryd.prog H 25 (.ptr id off) = cellsAt H[id]? off 4 := by kernel_rfl
theorem ldi25 (H : Heap) (cells : List IV) (off : Nat) : loadA Tryd.prog H 25 (.c (.iptr cells off)) = (takeCells cells off 4).map fun l => .agg (l.map .c) := by kernel_rfl
theorem lde25 (H : Heap) (id off ext : Nat) : loadA Tryd.prog H 25 (.eptr id off ext) = (rowOf H id ext).bind fun r => (takeCells r.2 off 4).map fun l => .agg (l.map .c) := by kernel_rfl
theorem ln44 (cells : List IV) (n : Nat) (nl : Bool) (cap : Option Nat) : lenA Tryd.prog 44 (.c (.slice cells n nl cap)) = some (.c (.int .i64 n)) := by kernel_rfl
theorem lnv44 (s n sz : Nat) : lenA Tryd.prog 44 (lv s sz n) = some (.c (.int .i64 n)) := by
  unfold lv; split
  · rename_i h; subst h; kernel_rfl
  · kernel_rfl
theorem lnh44 (id off n ext sz : Nat) : lenA Tryd.prog 44 (.hsl id off n ext sz) = some (.c (.int .i64 n)) := by kernel_rfl
theorem al25 (H : Heap) : allocA Tryd.prog H 25 = some (.ptr H.length 0, H ++ [.cells 25 [.c (.int .i64 0), .c (.int .i64 0), .c (.slice [] 0 true (some 0)), .c (.slice [] 0 true (some 0))]]) := by kernel_rfl
theorem dr4_9 : drawFact Tryd.f4 9 [0, 0, 2, 7, 15, 31, 31, 31, 63, 383, 1023] = true := by kernel_rfl
theorem dr4_10 : drawFact Tryd.f4 10 [0, 0, 2, 7, 15, 31, 31, 31, 63, 383, 1023] = true := by kernel_rfl
theorem fa25_0 (x : AV) : fieldAddrA Tryd.prog 25 x 0 = addrPlus x 0 := by kernel_rfl
theorem ag3 : isAggT Tryd.prog 3 = some false := by kernel_rfl
theorem sz3 : sizeT Tryd.prog 3 = some 1 := by kernel_rfl
theorem ldp3 (H : Heap) (id off : Nat) : loadA Tryd.prog H 3 (.ptr id off) = cellAt H[id]? off := by kernel_rfl
theorem ldi3 (H : Heap) (cells : List IV) (off : Nat) : loadA Tryd.prog H 3 (.c (.iptr cells off)) = (cells[off]?).map .c := by kernel_rfl
theorem lde3 (H : Heap) (id off ext : Nat) : loadA Tryd.prog H 3 (.eptr id off ext) = (rowOf H id ext).bind fun r => (r.2[off]?).map .c := by kernel_rfl
theorem fa25_1 (x : AV) : fieldAddrA Tryd.prog 25 x 1 = addrPlus x 1 := by kernel_rfl
theorem fa25_3 (x : AV) : fieldAddrA Tryd.prog 25 x 3 = addrPlus x 3 := by kernel_rfl
theorem ag23 : isAggT Tryd.prog 23 = some false := by kernel_rfl
theorem sz23 : sizeT Tryd.prog 23 = some 1 := by kernel_rfl
theorem ldp23 (H : Heap) (id off : Nat) : loadA Tryd.prog H 23 (.ptr id off) = cellAt H[id]? off := by kernel_rfl
theorem ldi23 (H : Heap) (cells : List IV) (off : Nat) : loadA Tryd.prog H 23 (.c (.iptr cells off)) = (cells[off]?).map .c := by kernel_rfl
theorem lde23 (H : Heap) (id off ext : Nat) : loadA Tryd.prog H 23 (.eptr id off ext) = (rowOf H id ext).bind fun r => (r.2[off]?).map .c := by kernel_rfl
theorem ev16 (k : Nat) (x0 : AV) (H : Heap) : evalT Tryd.prog (mkHints tab) (k + 1) (.fn 16) [x0] H = trimO H.length (finishO Tryd.prog Tryd.f16.results.toList (evalCode Tryd.prog (cxG Tryd.prog (mkHints tab) k 16 none) (Tryd.f16.body.getD .skip) (fillArgs (fr 76 []) 0 [x0]) (H ++ [.slot]))) := evalT_fn 76 Tryd.func16 rfl (by decide) rfl
theorem sb16_0_1 : slotB tab.slots 16 0 1 = none := by rfl
theorem fsl16_1_1 : fslotB tab.fslots 16 1 1 = [] := by rfl
theorem kb16_1_1 : keepB tab.keeps 16 1 1 = false := by rfl
theorem sb16_7_2 : slotB tab.slots 16 7 2 = none := by rfl
theorem fsl16_8_1 : fslotB tab.fslots 16 8 1 = [] := by rfl
theorem kb16_8_1 : keepB tab.keeps 16 8 1 = false := by rfl
theorem sb16_8_2 : slotB tab.slots 16 8 2 = none := by rfl
theorem fsl16_11_7 : fslotB tab.fslots 16 11 7 = [] := by rfl
theorem kb16_11_7 : keepB tab.keeps 16 11 7 = false := by rfl
theorem sb16_11_11 : slotB tab.slots 16 11 11 = none := by rfl
theorem sb16_15_3 : slotB tab.slots 16 15 3 = some 0 := by rfl
theorem fsl16_17_7 : fslotB tab.fslots 16 17 7 = [] := by rfl
theorem kb16_17_7 : keepB tab.keeps 16 17 7 = false := by rfl
theorem bd25_ : buildA Tryd.prog 25 [] = some (.agg [.c (.int .i64 0), .c (.int .i64 0), .c (.slice [] 0 true (some 0)), .c (.slice [] 0 true (some 0))]) := by kernel_rfl
theorem fa25_2 (x : AV) : fieldAddrA Tryd.prog 25 x 2 = addrPlus x 2 := by kernel_rfl
theorem ag22 : isAggT Tryd.prog 22 = some false := by kernel_rfl
theorem sz22 : sizeT Tryd.prog 22 = some 1 := by kernel_rfl
theorem ldp22 (H : Heap) (id off : Nat) : loadA Tryd.prog H 22 (.ptr id off) = cellAt H[id]? off := by kernel_rfl
theorem ldi22 (H : Heap) (cells : List IV) (off : Nat) : loadA Tryd.prog H 22 (.c (.iptr cells off)) = (cells[off]?).map .c := by kernel_rfl
theorem lde22 (H : Heap) (id off ext : Nat) : loadA Tryd.prog H 22 (.eptr id off ext) = (rowOf H id ext).bind fun r => (r.2[off]?).map .c := by kernel_rfl
theorem ln22 (cells : List IV) (n : Nat) (nl : Bool) (cap : Option Nat) : lenA Tryd.prog 22 (.c (.slice cells n nl cap)) = some (.c (.int .i64 n)) := by kernel_rfl
theorem lnv22 (s n sz : Nat) : lenA Tryd.prog 22 (lv s sz n) = some (.c (.int .i64 n)) := by
  unfold lv; split
  · rename_i h; subst h; kernel_rfl
  · kernel_rfl
theorem lnh22 (id off n ext sz : Nat) : lenA Tryd.prog 22 (.hsl id off n ext sz) = some (.c (.int .i64 n)) := by kernel_rfl
theorem ag61 : isAggT Tryd.prog 61 = some true := by kernel_rfl
theorem sz61 : sizeT Tryd.prog 61 = some 5 := by kernel_rfl
theorem ia22 (H : Heap) (cells : List IV) (len : Nat) (nl : Bool) (cap : Option Nat) (k : IntKind) (i : Int) : indexAddrA Tryd.prog H 22 (.c (.slice cells len nl cap)) (.c (.int k i)) = if 0 ≤ i ∧ i < len then some (.c (.iptr cells (i.toNat * 5))) else none := by kernel_rfl
theorem iah22 (H : Heap) (id off len ext sz : Nat) (k : IntKind) (i : Int) : indexAddrA Tryd.prog H 22 (.hsl id off len ext sz) (.c (.int k i)) = if 0 ≤ i ∧ i < len ∧ sz = 5 ∧ (rowOf H id ext).isSome = true then some (.eptr id (off + i.toNat * 5) ext) else none := by kernel_rfl
theorem ldp61 (H : Heap) (id off : Nat) : loadA Tryd.prog H 61 (.ptr id off) = cellsAt H[id]? off 5 := by kernel_rfl
theorem ldi61 (H : Heap) (cells : List IV) (off : Nat) : loadA Tryd.prog H 61 (.c (.iptr cells off)) = (takeCells cells off 5).map fun l => .agg (l.map .c) := by kernel_rfl
theorem lde61 (H : Heap) (id off ext : Nat) : loadA Tryd.prog H 61 (.eptr id off ext) = (rowOf H id ext).bind fun r => (takeCells r.2 off 5).map fun l => .agg (l.map .c) := by kernel_rfl
theorem al61 (H : Heap) : allocA Tryd.prog H 61 = some (.ptr H.length 0, H ++ [.cells 61 [.c (.int .i64 0), .c (.int .i64 0), .c (.int .i64 0), .c (.int .i64 0), .c (.int .i64 0)]]) := by kernel_rfl
theorem fa61_0 (x : AV) : fieldAddrA Tryd.prog 61 x 0 = addrPlus x 0 := by kernel_rfl
theorem fa61_1 (x : AV) : fieldAddrA Tryd.prog 61 x 1 = addrPlus x 1 := by kernel_rfl
theorem fa61_2 (x : AV) : fieldAddrA Tryd.prog 61 x 2 = addrPlus x 2 := by kernel_rfl
theorem dr16_11 : drawFact Tryd.f16 11 [0, 0, 2, 6, 15, 31, 0, 127, 255, 511, 511, 0, 3071, 8191] = true := by kernel_rfl
theorem sl22 (H : Heap) (x : AV) (lo hi : Option AV) : sliceA Tryd.prog H 22 x lo hi none = sliceO H 5 x lo hi := by kernel_rfl
theorem bs22_1_0 (H : Heap) (a0 a1 a2 a3 a4 : IV) : buildSliceA Tryd.prog H 22 1 [(0, .agg [.c a0, .c a1, .c a2, .c a3, .c a4])] = some (.hsl H.length 0 1 (1 * 5) 5, H ++ [.row false 61 [a0, a1, a2, a3, a4]]) := by kernel_rfl
theorem ap22 (H : Heap) (sl : Option Nat) (s x : AV) : appendA Tryd.prog H sl 22 s x = apO 61 5 40 sl s H (srcOf H 5 x) := by kernel_rfl
theorem bd25_0_1_2_3_h1 (a0 a1 a3 : IV) (v2 : AV) (hv2 : v2.isCell = true) : buildA Tryd.prog 25 [(0, .c a0), (1, .c a1), (2, v2), (3, .c a3)] = some (.agg [.c a0, .c a1, v2, .c a3]) := by
  cases v2 <;> first | (cases hv2; done) | kernel_rfl
theorem bd25_0_1_2_3_h2 (a0 a1 a2 : IV) (v3 : AV) (hv3 : v3.isCell = true) : buildA Tryd.prog 25 [(0, .c a0), (1, .c a1), (2, .c a2), (3, v3)] = some (.agg [.c a0, .c a1, .c a2, v3]) := by
  cases v3 <;> first | (cases hv3; done) | kernel_rfl
theorem bd25_0_1_2_3_h3 (a0 a1 : IV) (v2 v3 : AV) (hv2 : v2.isCell = true) (hv3 : v3.isCell = true) : buildA Tryd.prog 25 [(0, .c a0), (1, .c a1), (2, v2), (3, v3)] = some (.agg [.c a0, .c a1, v2, v3]) := by
  cases v2 <;> cases v3 <;> first | (cases hv2; done) | (cases hv3; done) | kernel_rfl
theorem bd25_0_1_2_3 (a0 a1 a2 a3 : IV) : buildA Tryd.prog 25 [(0, .c a0), (1, .c a1), (2, .c a2), (3, .c a3)] = some (.agg [.c a0, .c a1, .c a2, .c a3]) := by kernel_rfl
theorem dr16_17 : drawFact Tryd.f16 17 [0, 1, 0, 4, 0, 0, 32, 96, 255, 511, 1023] = true := by kernel_rfl
theorem ev21 (k : Nat) (H : Heap) : evalT Tryd.prog (mkHints tab) (k + 1) (.fn 21) [] H = trimO H.length (finishO Tryd.prog Tryd.f21.results.toList (evalCode Tryd.prog (cxG Tryd.prog (mkHints tab) k 21 none) (Tryd.f21.body.getD .skip) (fillArgs (fr 41 []) 0 []) H)) := by
  have h := evalT_fn 41 Tryd.func21 rfl (by decide) rfl (P := Tryd.prog) (h := mkHints tab) (k := k) (args := []) (H := H)
  rw [show (mkHints tab).slots 21 = 0 from rfl, show (List.replicate 0 AObj.slot) = [] from rfl, List.append_nil] at h
  exact h
theorem fsl21_1_0 : fslotB tab.fslots 21 1 0 = [] := by rfl
theorem kb21_1_0 : keepB tab.keeps 21 1 0 = false := by rfl
theorem fsl21_1_1 : fslotB tab.fslots 21 1 1 = [] := by rfl
theorem kb21_1_1 : keepB tab.keeps 21 1 1 = false := by rfl
theorem fsl21_1_2 : fslotB tab.fslots 21 1 2 = [] := by rfl
theorem kb21_1_2 : keepB tab.keeps 21 1 2 = false := by rfl
theorem fsl21_1_3 : fslotB tab.fslots 21 1 3 = [] := by rfl
theorem kb21_1_3 : keepB tab.keeps 21 1 3 = false := by rfl
theorem sb21_1_7 : slotB tab.slots 21 1 7 = none := by rfl
theorem fsl21_2_1 : fslotB tab.fslots 21 2 1 = [] := by rfl
theorem kb21_2_1 : keepB tab.keeps 21 2 1 = false := by rfl
theorem sb21_2_5 : slotB tab.slots 21 2 5 = none := by rfl
theorem fsl21_3_0 : fslotB tab.fslots 21 3 0 = [] := by rfl
theorem kb21_3_0 : keepB tab.keeps 21 3 0 = false := by rfl
theorem fsl21_3_1 : fslotB tab.fslots 21 3 1 = [] := by rfl
theorem kb21_3_1 : keepB tab.keeps 21 3 1 = false := by rfl
theorem sb21_3_5 : slotB tab.slots 21 3 5 = none := by rfl
theorem fsl21_4_4 : fslotB tab.fslots 21 4 4 = [] := by rfl
theorem kb21_4_4 : keepB tab.keeps 21 4 4 = false := by rfl
theorem fsl21_4_8 : fslotB tab.fslots 21 4 8 = [] := by rfl
theorem kb21_4_8 : keepB tab.keeps 21 4 8 = false := by rfl
theorem fsl21_4_15 : fslotB tab.fslots 21 4 15 = [] := by rfl
theorem kb21_4_15 : keepB tab.keeps 21 4 15 = false := by rfl
theorem bs22_4_0_1_2_3 (H : Heap) (a0 a1 a2 a3 a4 a5 a6 a7 a8 a9 a10 a11 a12 a13 a14 a15 a16 a17 a18 a19 : IV) : buildSliceA Tryd.prog H 22 4 [(0, .agg [.c a0, .c a1, .c a2, .c a3, .c a4]), (1, .agg [.c a5, .c a6, .c a7, .c a8, .c a9]), (2, .agg [.c a10, .c a11, .c a12, .c a13, .c a14]), (3, .agg [.c a15, .c a16, .c a17, .c a18, .c a19])] = some (.hsl H.length 0 4 (4 * 5) 5, H ++ [.row false 61 [a0, a1, a2, a3, a4, a5, a6, a7, a8, a9, a10, a11, a12, a13, a14, a15, a16, a17, a18, a19]]) := by kernel_rfl
theorem bs23_1_0 (H : Heap) (a0 : IV) : buildSliceA Tryd.prog H 23 1 [(0, .c a0)] = some (.hsl H.length 0 1 (1 * 1) 1, H ++ [.row false 3 [a0]]) := by kernel_rfl
theorem eq61 (H : Heap) (a0 b0 : Int) (a1 b1 : Int) (a2 b2 : Int) (a3 b3 : Int) (a4 b4 : Int) : binA Tryd.prog H .eql 61 (.agg [.c (.int .i64 a0), .c (.int .i64 a1), .c (.int .i64 a2), .c (.int .i64 a3), .c (.int .i64 a4)]) (.agg [.c (.int .i64 b0), .c (.int .i64 b1), .c (.int .i64 b2), .c (.int .i64 b3), .c (.int .i64 b4)]) = some (.c (.bool (((a0 == b0) && ((a1 == b1) && ((a2 == b2) && ((a3 == b3) && ((a4 == b4) && true)))))))) := by kernel_rfl
theorem dr21_4 : drawFact Tryd.f21 4 [0, 1, 3, 7, 7, 23, 7, 119, 255, 511, 1023, 2047, 4095, 8191, 16383, 16383, 65535, 131071, 262143] = true := by kernel_rfl
theorem ev22 (k : Nat) (x0 : AV) (H : Heap) : evalT Tryd.prog (mkHints tab) (k + 1) (.fn 22) [x0] H = trimO H.length (finishO Tryd.prog Tryd.f22.results.toList (evalCode Tryd.prog (cxG Tryd.prog (mkHints tab) k 22 none) (Tryd.f22.body.getD .skip) (fillArgs (fr 13 []) 0 [x0]) H)) := by
  have h := evalT_fn 13 Tryd.func22 rfl (by decide) rfl (P := Tryd.prog) (h := mkHints tab) (k := k) (args := [x0]) (H := H)
  rw [show (mkHints tab).slots 22 = 0 from rfl, show (List.replicate 0 AObj.slot) = [] from rfl, List.append_nil] at h
  exact h
theorem ev23 (k : Nat) (x0 : AV) (H : Heap) : evalT Tryd.prog (mkHints tab) (k + 1) (.fn 23) [x0] H = trimO H.length (finishO Tryd.prog Tryd.f23.results.toList (evalCode Tryd.prog (cxG Tryd.prog (mkHints tab) k 23 none) (Tryd.f23.body.getD .skip) (fillArgs (fr 72 []) 0 [x0]) H)) := by
  have h := evalT_fn 72 Tryd.func23 rfl (by decide) rfl (P := Tryd.prog) (h := mkHints tab) (k := k) (args := [x0]) (H := H)
  rw [show (mkHints tab).slots 23 = 0 from rfl, show (List.replicate 0 AObj.slot) = [] from rfl, List.append_nil] at h
  exact h
theorem sb23_11_3 : slotB tab.slots 23 11 3 = none := by rfl
theorem fsl23_12_3 : fslotB tab.fslots 23 12 3 = [] := by rfl
theorem kb23_12_3 : keepB tab.keeps 23 12 3 = false := by rfl
theorem ln23 (cells : List IV) (n : Nat) (nl : Bool) (cap : Option Nat) : lenA Tryd.prog 23 (.c (.slice cells n nl cap)) = some (.c (.int .i64 n)) := by kernel_rfl
theorem lnv23 (s n sz : Nat) : lenA Tryd.prog 23 (lv s sz n) = some (.c (.int .i64 n)) := by
  unfold lv; split
  · rename_i h; subst h; kernel_rfl
  · kernel_rfl
theorem lnh23 (id off n ext sz : Nat) : lenA Tryd.prog 23 (.hsl id off n ext sz) = some (.c (.int .i64 n)) := by kernel_rfl
theorem ia23 (H : Heap) (cells : List IV) (len : Nat) (nl : Bool) (cap : Option Nat) (k : IntKind) (i : Int) : indexAddrA Tryd.prog H 23 (.c (.slice cells len nl cap)) (.c (.int k i)) = if 0 ≤ i ∧ i < len then some (.c (.iptr cells (i.toNat * 1))) else none := by kernel_rfl
theorem iah23 (H : Heap) (id off len ext sz : Nat) (k : IntKind) (i : Int) : indexAddrA Tryd.prog H 23 (.hsl id off len ext sz) (.c (.int k i)) = if 0 ≤ i ∧ i < len ∧ sz = 1 ∧ (rowOf H id ext).isSome = true then some (.eptr id (off + i.toNat * 1) ext) else none := by kernel_rfl
theorem ev24 (k : Nat) (x0 x1 : AV) (H : Heap) : evalT Tryd.prog (mkHints tab) (k + 1) (.fn 24) [x0, x1] H = trimO H.length (finishO Tryd.prog Tryd.f24.results.toList (evalCode Tryd.prog (cxG Tryd.prog (mkHints tab) k 24 none) (Tryd.f24.body.getD .skip) (fillArgs (fr 49 []) 0 [x0, x1]) (H ++ [.slot]))) := evalT_fn 49 Tryd.func24 rfl (by decide) rfl
theorem fsl24_1_3 : fslotB tab.fslots 24 1 3 = [] := by rfl
theorem kb24_1_3 : keepB tab.keeps 24 1 3 = false := by rfl
theorem sb24_4_2 : slotB tab.slots 24 4 2 = none := by rfl
theorem fsl24_6_0 : fslotB tab.fslots 24 6 0 = [] := by rfl
theorem kb24_6_0 : keepB tab.keeps 24 6 0 = false := by rfl
theorem fsl24_6_3 : fslotB tab.fslots 24 6 3 = [] := by rfl
theorem kb24_6_3 : keepB tab.keeps 24 6 3 = false := by rfl
theorem sb24_13_6 : slotB tab.slots 24 13 6 = some 0 := by rfl
theorem ln47 (cells : List IV) (n : Nat) (nl : Bool) (cap : Option Nat) : lenA Tryd.prog 47 (.c (.slice cells n nl cap)) = some (.c (.int .i64 n)) := by kernel_rfl
theorem lnv47 (s n sz : Nat) : lenA Tryd.prog 47 (lv s sz n) = some (.c (.int .i64 n)) := by
  unfold lv; split
  · rename_i h; subst h; kernel_rfl
  · kernel_rfl
theorem lnh47 (id off n ext sz : Nat) : lenA Tryd.prog 47 (.hsl id off n ext sz) = some (.c (.int .i64 n)) := by kernel_rfl
theorem ms47 (H : Heap) (l c : Int) : makeSliceA Tryd.prog H none 47 (.c (.int .i64 l)) (.c (.int .i64 c)) = if 0 ≤ l ∧ l = c ∧ c.toNat * 32 ≤ roomBytes ∧ c.toNat ≤ roomBytes ∧ 2 = 2 ∧ 0 < 2 then some (.hsl H.length 0 l.toNat (c.toNat * 2) 2, H ++ [.row false 104 ((List.replicate c.toNat [.bool false, .slice [] 0 true (some 0)]).flatten)]) else none := by kernel_rfl
theorem cp47 (H : Heap) (d s : AV) : copyA Tryd.prog H 47 d s = cpO 2 d H (srcOf H 2 s) := by kernel_rfl
theorem dr24_6 : drawFact Tryd.f24 6 [0, 0, 0, 7, 15] = true := by kernel_rfl
theorem ag104 : isAggT Tryd.prog 104 = some true := by kernel_rfl
theorem sz104 : sizeT Tryd.prog 104 = some 2 := by kernel_rfl
theorem ia47 (H : Heap) (cells : List IV) (len : Nat) (nl : Bool) (cap : Option Nat) (k : IntKind) (i : Int) : indexAddrA Tryd.prog H 47 (.c (.slice cells len nl cap)) (.c (.int k i)) = if 0 ≤ i ∧ i < len then some (.c (.iptr cells (i.toNat * 2))) else none := by kernel_rfl
theorem iah47 (H : Heap) (id off len ext sz : Nat) (k : IntKind) (i : Int) : indexAddrA Tryd.prog H 47 (.hsl id off len ext sz) (.c (.int k i)) = if 0 ≤ i ∧ i < len ∧ sz = 2 ∧ (rowOf H id ext).isSome = true then some (.eptr id (off + i.toNat * 2) ext) else none := by kernel_rfl
theorem ldp104 (H : Heap) (id off : Nat) : loadA Tryd.prog H 104 (.ptr id off) = cellsAt H[id]? off 2 := by kernel_rfl
theorem ldi104 (H : Heap) (cells : List IV) (off : Nat) : loadA Tryd.prog H 104 (.c (.iptr cells off)) = (takeCells cells off 2).map fun l => .agg (l.map .c) := by kernel_rfl
theorem lde104 (H : Heap) (id off ext : Nat) : loadA Tryd.prog H 104 (.eptr id off ext) = (rowOf H id ext).bind fun r => (takeCells r.2 off 2).map fun l => .agg (l.map .c) := by kernel_rfl
theorem bs47_1_0 (H : Heap) (a0 a1 : IV) : buildSliceA Tryd.prog H 47 1 [(0, .agg [.c a0, .c a1])] = some (.hsl H.length 0 1 (1 * 2) 2, H ++ [.row false 104 [a0, a1]]) := by kernel_rfl
theorem ap47 (H : Heap) (sl : Option Nat) (s x : AV) : appendA Tryd.prog H sl 47 s x = apO 104 2 32 sl s H (srcOf H 2 x) := by kernel_rfl
theorem ev25 (k : Nat) (x0 : AV) (H : Heap) : evalT Tryd.prog (mkHints tab) (k + 1) (.fn 25) [x0] H = trimO H.length (finishO Tryd.prog Tryd.f25.results.toList (evalCode Tryd.prog (cxG Tryd.prog (mkHints tab) k 25 none) (Tryd.f25.body.getD .skip) (fillArgs (fr 19 []) 0 [x0]) (H ++ [.slot]))) := evalT_fn 19 Tryd.func25 rfl (by decide) rfl
theorem fsl25_5_2 : fslotB tab.fslots 25 5 2 = [] := by rfl
theorem kb25_5_2 : keepB tab.keeps 25 5 2 = false := by rfl
theorem sb25_5_4 : slotB tab.slots 25 5 4 = some 0 := by rfl
theorem ag2 : isAggT Tryd.prog 2 = some false := by kernel_rfl
theorem sz2 : sizeT Tryd.prog 2 = some 1 := by kernel_rfl
theorem ia44 (H : Heap) (cells : List IV) (len : Nat) (nl : Bool) (cap : Option Nat) (k : IntKind) (i : Int) : indexAddrA Tryd.prog H 44 (.c (.slice cells len nl cap)) (.c (.int k i)) = if 0 ≤ i ∧ i < len then some (.c (.iptr cells (i.toNat * 1))) else none := by kernel_rfl
theorem iah44 (H : Heap) (id off len ext sz : Nat) (k : IntKind) (i : Int) : indexAddrA Tryd.prog H 44 (.hsl id off len ext sz) (.c (.int k i)) = if 0 ≤ i ∧ i < len ∧ sz = 1 ∧ (rowOf H id ext).isSome = true then some (.eptr id (off + i.toNat * 1) ext) else none := by kernel_rfl
theorem ldp2 (H : Heap) (id off : Nat) : loadA Tryd.prog H 2 (.ptr id off) = cellAt H[id]? off := by kernel_rfl
theorem ldi2 (H : Heap) (cells : List IV) (off : Nat) : loadA Tryd.prog H 2 (.c (.iptr cells off)) = (cells[off]?).map .c := by kernel_rfl
theorem lde2 (H : Heap) (id off ext : Nat) : loadA Tryd.prog H 2 (.eptr id off ext) = (rowOf H id ext).bind fun r => (r.2[off]?).map .c := by kernel_rfl
theorem ev26 (k : Nat) (x0 x1 : AV) (H : Heap) : evalT Tryd.prog (mkHints tab) (k + 1) (.fn 26) [x0, x1] H = trimO H.length (finishO Tryd.prog Tryd.f26.results.toList (evalCode Tryd.prog (cxG Tryd.prog (mkHints tab) k 26 none) (Tryd.f26.body.getD .skip) (fillArgs (fr 8 []) 0 [x0, x1]) H)) := by
  have h := evalT_fn 8 Tryd.func26 rfl (by decide) rfl (P := Tryd.prog) (h := mkHints tab) (k := k) (args := [x0, x1]) (H := H)
  rw [show (mkHints tab).slots 26 = 0 from rfl, show (List.replicate 0 AObj.slot) = [] from rfl, List.append_nil] at h
  exact h
theorem fsl26_1_2 : fslotB tab.fslots 26 1 2 = [] := by rfl
theorem kb26_1_2 : keepB tab.keeps 26 1 2 = false := by rfl
theorem ev27 (k : Nat) (x0 x1 : AV) (H : Heap) : evalT Tryd.prog (mkHints tab) (k + 1) (.fn 27) [x0, x1] H = trimO H.length (finishO Tryd.prog Tryd.f27.results.toList (evalCode Tryd.prog (cxG Tryd.prog (mkHints tab) k 27 none) (Tryd.f27.body.getD .skip) (fillArgs (fr 26 []) 0 [x0, x1]) H)) := by
  have h := evalT_fn 26 Tryd.func27 rfl (by decide) rfl (P := Tryd.prog) (h := mkHints tab) (k := k) (args := [x0, x1]) (H := H)
  rw [show (mkHints tab).slots 27 = 0 from rfl, show (List.replicate 0 AObj.slot) = [] from rfl, List.append_nil] at h
  exact h
theorem dr27_6 : drawFact Tryd.f27 6 [0, 0, 3, 7, 0, 0, 48, 112, 255] = true := by kernel_rfl
theorem ev37 (k : Nat) (x0 : AV) (H : Heap) : evalT Tryd.prog (mkHints tab) (k + 1) (.fn 37) [x0] H = trimO H.length (finishO Tryd.prog Tryd.f37.results.toList (evalCode Tryd.prog (cxG Tryd.prog (mkHints tab) k 37 none) (Tryd.f37.body.getD .skip) (fillArgs (fr 68 []) 0 [x0]) H)) := by
  have h := evalT_fn 68 Tryd.func37 rfl (by decide) rfl (P := Tryd.prog) (h := mkHints tab) (k := k) (args := [x0]) (H := H)
  rw [show (mkHints tab).slots 37 = 0 from rfl, show (List.replicate 0 AObj.slot) = [] from rfl, List.append_nil] at h
  exact h
theorem sb37_0_1 : slotB tab.slots 37 0 1 = none := by rfl
theorem fsl37_1_2 : fslotB tab.fslots 37 1 2 = [] := by rfl
theorem kb37_1_2 : keepB tab.keeps 37 1 2 = false := by rfl
theorem fsl37_5_4 : fslotB tab.fslots 37 5 4 = [] := by rfl
theorem kb37_5_4 : keepB tab.keeps 37 5 4 = false := by rfl
theorem fsl37_9_4 : fslotB tab.fslots 37 9 4 = [] := by rfl
theorem kb37_9_4 : keepB tab.keeps 37 9 4 = false := by rfl
theorem fsl37_11_4 : fslotB tab.fslots 37 11 4 = [] := by rfl
theorem kb37_11_4 : keepB tab.keeps 37 11 4 = false := by rfl
theorem fsl37_13_5 : fslotB tab.fslots 37 13 5 = [] := by rfl
theorem kb37_13_5 : keepB tab.keeps 37 13 5 = false := by rfl
theorem fsl37_15_5 : fslotB tab.fslots 37 15 5 = [] := by rfl
theorem kb37_15_5 : keepB tab.keeps 37 15 5 = false := by rfl
theorem fa61_4 (x : AV) : fieldAddrA Tryd.prog 61 x 4 = addrPlus x 4 := by kernel_rfl
theorem fa61_3 (x : AV) : fieldAddrA Tryd.prog 61 x 3 = addrPlus x 3 := by kernel_rfl
theorem ev38 (k : Nat) (x0 x1 : AV) (H : Heap) : evalT Tryd.prog (mkHints tab) (k + 1) (.fn 38) [x0, x1] H = trimO H.length (finishO Tryd.prog Tryd.f38.results.toList (evalCode Tryd.prog (cxG Tryd.prog (mkHints tab) k 38 none) (Tryd.f38.body.getD .skip) (fillArgs (fr 56 []) 0 [x0, x1]) H)) := by
  have h := evalT_fn 56 Tryd.func38 rfl (by decide) rfl (P := Tryd.prog) (h := mkHints tab) (k := k) (args := [x0, x1]) (H := H)
  rw [show (mkHints tab).slots 38 = 0 from rfl, show (List.replicate 0 AObj.slot) = [] from rfl, List.append_nil] at h
  exact h
theorem sb38_0_2 : slotB tab.slots 38 0 2 = none := by rfl
theorem fsl38_3_8 : fslotB tab.fslots 38 3 8 = [] := by rfl
theorem kb38_3_8 : keepB tab.keeps 38 3 8 = false := by rfl
theorem fsl38_6_6 : fslotB tab.fslots 38 6 6 = [] := by rfl
theorem kb38_6_6 : keepB tab.keeps 38 6 6 = false := by rfl
theorem fsl38_6_7 : fslotB tab.fslots 38 6 7 = [] := by rfl
theorem kb38_6_7 : keepB tab.keeps 38 6 7 = false := by rfl
theorem bd61_ : buildA Tryd.prog 61 [] = some (.agg [.c (.int .i64 0), .c (.int .i64 0), .c (.int .i64 0), .c (.int .i64 0), .c (.int .i64 0)]) := by kernel_rfl
theorem ev39 (k : Nat) (x0 : AV) (H : Heap) : evalT Tryd.prog (mkHints tab) (k + 1) (.fn 39) [x0] H = trimO H.length (finishO Tryd.prog Tryd.f39.results.toList (evalCode Tryd.prog (cxG Tryd.prog (mkHints tab) k 39 none) (Tryd.f39.body.getD .skip) (fillArgs (fr 8 []) 0 [x0]) H)) := by
  have h := evalT_fn 8 Tryd.func39 rfl (by decide) rfl (P := Tryd.prog) (h := mkHints tab) (k := k) (args := [x0]) (H := H)
  rw [show (mkHints tab).slots 39 = 0 from rfl, show (List.replicate 0 AObj.slot) = [] from rfl, List.append_nil] at h
  exact h
theorem sb39_3_2 : slotB tab.slots 39 3 2 = none := by rfl
theorem eqs23 (H : Heap) (cells : List IV) (len : Nat) (nl : Bool) (cap cap2 : Option Nat) : binA Tryd.prog H .eql 23 (.c (.slice cells len nl cap)) (.c (.slice [] 0 true cap2)) = some (.c (.bool (nl))) := by kernel_rfl
theorem bs23_0_ (H : Heap) : buildSliceA Tryd.prog H 23 0 [] = some (.hsl H.length 0 0 (0 * 1) 1, H ++ [.row false 3 []]) := by kernel_rfl
theorem ap23 (H : Heap) (sl : Option Nat) (s x : AV) : appendA Tryd.prog H sl 23 s x = apO 3 1 8 sl s H (srcOf H 1 x) := by kernel_rfl
theorem ev14 (k : Nat) (x0 x1 : AV) (H : Heap) : evalT Tryd.prog (mkHints tab) (k + 1) (.fn 14) [x0, x1] H = trimO H.length (finishO Tryd.prog Tryd.f14.results.toList (evalCode Tryd.prog (cxG Tryd.prog (mkHints tab) k 14 none) (Tryd.f14.body.getD .skip) (fillArgs (fr 73 []) 0 [x0, x1]) H)) := by
  have h := evalT_fn 73 Tryd.func14 rfl (by decide) rfl (P := Tryd.prog) (h := mkHints tab) (k := k) (args := [x0, x1]) (H := H)
  rw [show (mkHints tab).slots 14 = 0 from rfl, show (List.replicate 0 AObj.slot) = [] from rfl, List.append_nil] at h
  exact h
theorem ne61 (H : Heap) (a0 b0 : Int) (a1 b1 : Int) (a2 b2 : Int) (a3 b3 : Int) (a4 b4 : Int) : binA Tryd.prog H .neq 61 (.agg [.c (.int .i64 a0), .c (.int .i64 a1), .c (.int .i64 a2), .c (.int .i64 a3), .c (.int .i64 a4)]) (.agg [.c (.int .i64 b0), .c (.int .i64 b1), .c (.int .i64 b2), .c (.int .i64 b3), .c (.int .i64 b4)]) = some (.c (.bool (!((a0 == b0) && ((a1 == b1) && ((a2 == b2) && ((a3 == b3) && ((a4 == b4) && true)))))))) := by kernel_rfl
theorem dr14_6 : drawFact Tryd.f14 6 [0, 1, 0, 7, 15, 0, 32, 0, 224, 480, 1023] = true := by kernel_rfl
theorem dr14_11 : drawFact Tryd.f14 11 [0, 1, 0, 7, 15, 0, 32, 0, 224, 480, 1023] = true := by kernel_rfl
theorem ev48 (k : Nat) (x0 x1 x2 x3 : AV) (H : Heap) : evalT Tryd.prog (mkHints tab) (k + 1) (.fn 48) [x0, x1, x2, x3] H = trimO H.length (finishO Tryd.prog Tryd.f48.results.toList (evalCode Tryd.prog (cxG Tryd.prog (mkHints tab) k 48 none) (Tryd.f48.body.getD .skip) (fillArgs (fr 14 []) 0 [x0, x1, x2, x3]) H)) := by
  have h := evalT_fn 14 Tryd.func48 rfl (by decide) rfl (P := Tryd.prog) (h := mkHints tab) (k := k) (args := [x0, x1, x2, x3]) (H := H)
  rw [show (mkHints tab).slots 48 = 0 from rfl, show (List.replicate 0 AObj.slot) = [] from rfl, List.append_nil] at h
  exact h
theorem sb48_0_0 : slotB tab.slots 48 0 0 = none := by rfl
theorem bd61_0_1_2_4 (a0 a1 a2 a3 : IV) : buildA Tryd.prog 61 [(0, .c a0), (1, .c a1), (2, .c a2), (4, .c a3)] = some (.agg [.c a0, .c a1, .c a2, .c (.int .i64 0), .c a3]) := by kernel_rfl
theorem ev49 (k : Nat) (x0 : AV) (H : Heap) : evalT Tryd.prog (mkHints tab) (k + 1) (.fn 49) [x0] H = trimO H.length (finishO Tryd.prog Tryd.f49.results.toList (evalCode Tryd.prog (cxG Tryd.prog (mkHints tab) k 49 none) (Tryd.f49.body.getD .skip) (fillArgs (fr 15 []) 0 [x0]) H)) := by
  have h := evalT_fn 15 Tryd.func49 rfl (by decide) rfl (P := Tryd.prog) (h := mkHints tab) (k := k) (args := [x0]) (H := H)
  rw [show (mkHints tab).slots 49 = 0 from rfl, show (List.replicate 0 AObj.slot) = [] from rfl, List.append_nil] at h
  exact h
theorem sb49_0_1 : slotB tab.slots 49 0 1 = none := by rfl
theorem fsl49_1_1 : fslotB tab.fslots 49 1 1 = [] := by rfl
theorem kb49_1_1 : keepB tab.keeps 49 1 1 = false := by rfl
theorem fsl49_3_1 : fslotB tab.fslots 49 3 1 = [] := by rfl
theorem kb49_3_1 : keepB tab.keeps 49 3 1 = false := by rfl
theorem sb49_3_2 : slotB tab.slots 49 3 2 = none := by rfl
theorem dr49_4 : drawFact Tryd.f49 4 [0, 0, 0, 6, 1, 31] = true := by kernel_rfl
theorem ev50 (k : Nat) (x0 x1 : AV) (H : Heap) : evalT Tryd.prog (mkHints tab) (k + 1) (.fn 50) [x0, x1] H = trimO H.length (finishO Tryd.prog Tryd.f50.results.toList (evalCode Tryd.prog (cxG Tryd.prog (mkHints tab) k 50 none) (Tryd.f50.body.getD .skip) (fillArgs (fr 57 []) 0 [x0, x1]) H)) := by
  have h := evalT_fn 57 Tryd.func50 rfl (by decide) rfl (P := Tryd.prog) (h := mkHints tab) (k := k) (args := [x0, x1]) (H := H)
  rw [show (mkHints tab).slots 50 = 0 from rfl, show (List.replicate 0 AObj.slot) = [] from rfl, List.append_nil] at h
  exact h
theorem fsl50_1_22 : fslotB tab.fslots 50 1 22 = [] := by rfl
theorem kb50_1_22 : keepB tab.keeps 50 1 22 = false := by rfl
theorem fsl50_1_32 : fslotB tab.fslots 50 1 32 = [] := by rfl
theorem kb50_1_32 : keepB tab.keeps 50 1 32 = false := by rfl
theorem fsl50_3_1 : fslotB tab.fslots 50 3 1 = [] := by rfl
theorem kb50_3_1 : keepB tab.keeps 50 3 1 = false := by rfl
theorem ev51 (k : Nat) (x0 x1 : AV) (H : Heap) : evalT Tryd.prog (mkHints tab) (k + 1) (.fn 51) [x0, x1] H = trimO H.length (finishO Tryd.prog Tryd.f51.results.toList (evalCode Tryd.prog (cxG Tryd.prog (mkHints tab) k 51 none) (Tryd.f51.body.getD .skip) (fillArgs (fr 21 []) 0 [x0, x1]) H)) := by
  have h := evalT_fn 21 Tryd.func51 rfl (by decide) rfl (P := Tryd.prog) (h := mkHints tab) (k := k) (args := [x0, x1]) (H := H)
  rw [show (mkHints tab).slots 51 = 0 from rfl, show (List.replicate 0 AObj.slot) = [] from rfl, List.append_nil] at h
  exact h
theorem fsl51_1_1 : fslotB tab.fslots 51 1 1 = [] := by rfl
theorem kb51_1_1 : keepB tab.keeps 51 1 1 = false := by rfl
theorem ev52 (k : Nat) (x0 x1 x2 x3 : AV) (H : Heap) : evalT Tryd.prog (mkHints tab) (k + 1) (.fn 52) [x0, x1, x2, x3] H = trimO H.length (finishO Tryd.prog Tryd.f52.results.toList (evalCode Tryd.prog (cxG Tryd.prog (mkHints tab) k 52 none) (Tryd.f52.body.getD .skip) (fillArgs (fr 42 []) 0 [x0, x1, x2, x3]) H)) := by
  have h := evalT_fn 42 Tryd.func52 rfl (by decide) rfl (P := Tryd.prog) (h := mkHints tab) (k := k) (args := [x0, x1, x2, x3]) (H := H)
  rw [show (mkHints tab).slots 52 = 0 from rfl, show (List.replicate 0 AObj.slot) = [] from rfl, List.append_nil] at h
  exact h
theorem sb52_3_3 : slotB tab.slots 52 3 3 = none := by rfl
theorem fsl52_4_3 : fslotB tab.fslots 52 4 3 = [] := by rfl
theorem kb52_4_3 : keepB tab.keeps 52 4 3 = false := by rfl
theorem sb52_4_7 : slotB tab.slots 52 4 7 = none := by rfl
theorem fsl52_8_3 : fslotB tab.fslots 52 8 3 = [] := by rfl
theorem kb52_8_3 : keepB tab.keeps 52 8 3 = false := by rfl
theorem ag109 : isAggT Tryd.prog 109 = some true := by kernel_rfl
theorem sz109 : sizeT Tryd.prog 109 = some 5 := by kernel_rfl
theorem ldp109 (H : Heap) (id off : Nat) : loadA Tryd.prog H 109 (.ptr id off) = cellsAt H[id]? off 5 := by kernel_rfl
theorem ldi109 (H : Heap) (cells : List IV) (off : Nat) : loadA Tryd.prog H 109 (.c (.iptr cells off)) = (takeCells cells off 5).map fun l => .agg (l.map .c) := by kernel_rfl
theorem lde109 (H : Heap) (id off ext : Nat) : loadA Tryd.prog H 109 (.eptr id off ext) = (rowOf H id ext).bind fun r => (takeCells r.2 off 5).map fun l => .agg (l.map .c) := by kernel_rfl
theorem al104 (H : Heap) : allocA Tryd.prog H 104 = some (.ptr H.length 0, H ++ [.cells 104 [.c (.bool false), .c (.slice [] 0 true (some 0))]]) := by kernel_rfl
theorem ev53 (k : Nat) (H : Heap) : evalT Tryd.prog (mkHints tab) (k + 1) (.fn 53) [] H = trimO H.length (finishO Tryd.prog Tryd.f53.results.toList (evalCode Tryd.prog (cxG Tryd.prog (mkHints tab) k 53 none) (Tryd.f53.body.getD .skip) (fillArgs (fr 2 []) 0 []) H)) := by
  have h := evalT_fn 2 Tryd.func53 rfl (by decide) rfl (P := Tryd.prog) (h := mkHints tab) (k := k) (args := []) (H := H)
  rw [show (mkHints tab).slots 53 = 0 from rfl, show (List.replicate 0 AObj.slot) = [] from rfl, List.append_nil] at h
  exact h
theorem sb53_0_0 : slotB tab.slots 53 0 0 = none := by rfl
theorem al109 (H : Heap) : allocA Tryd.prog H 109 = some (.ptr H.length 0, H ++ [.cells 109 [.c (.nilfn), .c (.nilfn), .c (.nilfn), .c (.nilfn), .c (.nilfn)]]) := by kernel_rfl
theorem bd109_0_1_2_3_4 (a0 a1 a2 a3 a4 : IV) : buildA Tryd.prog 109 [(0, .c a0), (1, .c a1), (2, .c a2), (3, .c a3), (4, .c a4)] = some (.agg [.c a0, .c a1, .c a2, .c a3, .c a4]) := by kernel_rfl
theorem ev54 (k : Nat) (x0 x1 : AV) (H : Heap) : evalT Tryd.prog (mkHints tab) (k + 1) (.fn 54) [x0, x1] H = trimO H.length (finishO Tryd.prog Tryd.f54.results.toList (evalCode Tryd.prog (cxG Tryd.prog (mkHints tab) k 54 none) (Tryd.f54.body.getD .skip) (fillArgs (fr 5 []) 0 [x0, x1]) H)) := by
  have h := evalT_fn 5 Tryd.func54 rfl (by decide) rfl (P := Tryd.prog) (h := mkHints tab) (k := k) (args := [x0, x1]) (H := H)
  rw [show (mkHints tab).slots 54 = 0 from rfl, show (List.replicate 0 AObj.slot) = [] from rfl, List.append_nil] at h
  exact h
theorem ev55 (k : Nat) (x0 : AV) (H : Heap) : evalT Tryd.prog (mkHints tab) (k + 1) (.fn 55) [x0] H = trimO H.length (finishO Tryd.prog Tryd.f55.results.toList (evalCode Tryd.prog (cxG Tryd.prog (mkHints tab) k 55 none) (Tryd.f55.body.getD .skip) (fillArgs (fr 19 []) 0 [x0]) H)) := by
  have h := evalT_fn 19 Tryd.func55 rfl (by decide) rfl (P := Tryd.prog) (h := mkHints tab) (k := k) (args := [x0]) (H := H)
  rw [show (mkHints tab).slots 55 = 0 from rfl, show (List.replicate 0 AObj.slot) = [] from rfl, List.append_nil] at h
  exact h
theorem sb55_0_0 : slotB tab.slots 55 0 0 = none := by rfl
theorem fsl55_4_8 : fslotB tab.fslots 55 4 8 = [] := by rfl
theorem kb55_4_8 : keepB tab.keeps 55 4 8 = false := by rfl
theorem cv2_116 (k : IntKind) (n : Int) : convA Tryd.prog 2 116 (.c (.int k n)) = some (.c (.int .u64 (IntKind.wrap .u64 n))) := by kernel_rfl
theorem cv116_117 (k : IntKind) (n : Int) : convA Tryd.prog 116 117 (.c (.int k n)) = some (.c (.int .u32 (IntKind.wrap .u32 n))) := by kernel_rfl
theorem bs56_2_0_1 (H : Heap) (a0 a1 : IV) : buildSliceA Tryd.prog H 56 2 [(0, .c a0), (1, .c a1)] = some (.hsl H.length 0 2 (2 * 1) 1, H ++ [.row false 117 [a0, a1]]) := by kernel_rfl
theorem ev56 (k : Nat) (x0 x1 x2 : AV) (H : Heap) : evalT Tryd.prog (mkHints tab) (k + 1) (.fn 56) [x0, x1, x2] H = trimO H.length (finishO Tryd.prog Tryd.f56.results.toList (evalCode Tryd.prog (cxG Tryd.prog (mkHints tab) k 56 none) (Tryd.f56.body.getD .skip) (fillArgs (fr 32 []) 0 [x0, x1, x2]) H)) := by
  have h := evalT_fn 32 Tryd.func56 rfl (by decide) rfl (P := Tryd.prog) (h := mkHints tab) (k := k) (args := [x0, x1, x2]) (H := H)
  rw [show (mkHints tab).slots 56 = 0 from rfl, show (List.replicate 0 AObj.slot) = [] from rfl, List.append_nil] at h
  exact h
theorem sb56_5_3 : slotB tab.slots 56 5 3 = none := by rfl
theorem sb56_6_4 : slotB tab.slots 56 6 4 = none := by rfl
theorem fsl56_7_3 : fslotB tab.fslots 56 7 3 = [] := by rfl
theorem kb56_7_3 : keepB tab.keeps 56 7 3 = false := by rfl
theorem ev57 (k : Nat) (x0 x1 : AV) (H : Heap) : evalT Tryd.prog (mkHints tab) (k + 1) (.fn 57) [x0, x1] H = trimO H.length (finishO Tryd.prog Tryd.f57.results.toList (evalCode Tryd.prog (cxG Tryd.prog (mkHints tab) k 57 none) (Tryd.f57.body.getD .skip) (fillArgs (fr 9 []) 0 [x0, x1]) H)) := by
  have h := evalT_fn 9 Tryd.func57 rfl (by decide) rfl (P := Tryd.prog) (h := mkHints tab) (k := k) (args := [x0, x1]) (H := H)
  rw [show (mkHints tab).slots 57 = 0 from rfl, show (List.replicate 0 AObj.slot) = [] from rfl, List.append_nil] at h
  exact h
theorem fsl57_1_2 : fslotB tab.fslots 57 1 2 = [] := by rfl
theorem kb57_1_2 : keepB tab.keeps 57 1 2 = false := by rfl
theorem ev65 (k : Nat) (x0 : AV) (H : Heap) : evalT Tryd.prog (mkHints tab) (k + 1) (.fn 65) [x0] H = trimO H.length (finishO Tryd.prog Tryd.f65.results.toList (evalCode Tryd.prog (cxG Tryd.prog (mkHints tab) k 65 none) (Tryd.f65.body.getD .skip) (fillArgs (fr 16 []) 0 [x0]) H)) := by
  have h := evalT_fn 16 Tryd.func65 rfl (by decide) rfl (P := Tryd.prog) (h := mkHints tab) (k := k) (args := [x0]) (H := H)
  rw [show (mkHints tab).slots 65 = 0 from rfl, show (List.replicate 0 AObj.slot) = [] from rfl, List.append_nil] at h
  exact h
theorem fsl65_3_2 : fslotB tab.fslots 65 3 2 = [] := by rfl
theorem kb65_3_2 : keepB tab.keeps 65 3 2 = false := by rfl
theorem cv3_145 (k : IntKind) (n : Int) : convA Tryd.prog 3 145 (.c (.int k n)) = some (.c (.int .u64 (IntKind.wrap .u64 n))) := by kernel_rfl
theorem ev66 (k : Nat) (x0 x1 x2 x3 : AV) (H : Heap) : evalT Tryd.prog (mkHints tab) (k + 1) (.fn 66) [x0, x1, x2, x3] H = trimO H.length (finishO Tryd.prog Tryd.f66.results.toList (evalCode Tryd.prog (cxG Tryd.prog (mkHints tab) k 66 none) (Tryd.f66.body.getD .skip) (fillArgs (fr 14 []) 0 [x0, x1, x2, x3]) H)) := by
  have h := evalT_fn 14 Tryd.func66 rfl (by decide) rfl (P := Tryd.prog) (h := mkHints tab) (k := k) (args := [x0, x1, x2, x3]) (H := H)
  rw [show (mkHints tab).slots 66 = 0 from rfl, show (List.replicate 0 AObj.slot) = [] from rfl, List.append_nil] at h
  exact h
theorem sb66_0_0 : slotB tab.slots 66 0 0 = none := by rfl
theorem ev67 (k : Nat) (x0 x1 x2 x3 : AV) (H : Heap) : evalT Tryd.prog (mkHints tab) (k + 1) (.fn 67) [x0, x1, x2, x3] H = trimO H.length (finishO Tryd.prog Tryd.f67.results.toList (evalCode Tryd.prog (cxG Tryd.prog (mkHints tab) k 67 none) (Tryd.f67.body.getD .skip) (fillArgs (fr 135 []) 0 [x0, x1, x2, x3]) H)) := by
  have h := evalT_fn 135 Tryd.func67 rfl (by decide) rfl (P := Tryd.prog) (h := mkHints tab) (k := k) (args := [x0, x1, x2, x3]) (H := H)
  rw [show (mkHints tab).slots 67 = 0 from rfl, show (List.replicate 0 AObj.slot) = [] from rfl, List.append_nil] at h
  exact h
theorem fsl67_16_6 : fslotB tab.fslots 67 16 6 = [] := by rfl
theorem kb67_16_6 : keepB tab.keeps 67 16 6 = false := by rfl
theorem fsl67_25_6 : fslotB tab.fslots 67 25 6 = [] := by rfl
theorem kb67_25_6 : keepB tab.keeps 67 25 6 = false := by rfl
theorem dr67_19 : drawFact Tryd.f67 19 [0, 0, 3, 0, 15, 31] = true := by kernel_rfl
theorem dr67_21 : drawFact Tryd.f67 21 [0, 0, 3, 0, 15, 31] = true := by kernel_rfl
theorem ev73 (k : Nat) (x0 : AV) (H : Heap) : evalT Tryd.prog (mkHints tab) (k + 1) (.fn 73) [x0] H = trimO H.length (finishO Tryd.prog Tryd.f73.results.toList (evalCode Tryd.prog (cxG Tryd.prog (mkHints tab) k 73 none) (Tryd.f73.body.getD .skip) (fillArgs (fr 15 []) 0 [x0]) H)) := by
  have h := evalT_fn 15 Tryd.func73 rfl (by decide) rfl (P := Tryd.prog) (h := mkHints tab) (k := k) (args := [x0]) (H := H)
  rw [show (mkHints tab).slots 73 = 0 from rfl, show (List.replicate 0 AObj.slot) = [] from rfl, List.append_nil] at h
  exact h
theorem fsl73_1_4 : fslotB tab.fslots 73 1 4 = [] := by rfl
theorem kb73_1_4 : keepB tab.keeps 73 1 4 = false := by rfl
theorem ev35 (k : Nat) (x0 : AV) (H : Heap) : evalT Tryd.prog (mkHints tab) (k + 1) (.fn 35) [x0] H = trimO H.length (finishO Tryd.prog Tryd.f35.results.toList (evalCode Tryd.prog (cxG Tryd.prog (mkHints tab) k 35 none) (Tryd.f35.body.getD .skip) (fillArgs (fr 23 []) 0 [x0]) H)) := by
  have h := evalT_fn 23 Tryd.func35 rfl (by decide) rfl (P := Tryd.prog) (h := mkHints tab) (k := k) (args := [x0]) (H := H)
  rw [show (mkHints tab).slots 35 = 0 from rfl, show (List.replicate 0 AObj.slot) = [] from rfl, List.append_nil] at h
  exact h
theorem bs23_2_0_1 (H : Heap) (a0 a1 : IV) : buildSliceA Tryd.prog H 23 2 [(0, .c a0), (1, .c a1)] = some (.hsl H.length 0 2 (2 * 1) 1, H ++ [.row false 3 [a0, a1]]) := by kernel_rfl
theorem ev74 (k : Nat) (x0 : AV) (H : Heap) : evalT Tryd.prog (mkHints tab) (k + 1) (.fn 74) [x0] H = trimO H.length (finishO Tryd.prog Tryd.f74.results.toList (evalCode Tryd.prog (cxG Tryd.prog (mkHints tab) k 74 none) (Tryd.f74.body.getD .skip) (fillArgs (fr 9 []) 0 [x0]) H)) := by
  have h := evalT_fn 9 Tryd.func74 rfl (by decide) rfl (P := Tryd.prog) (h := mkHints tab) (k := k) (args := [x0]) (H := H)
  rw [show (mkHints tab).slots 74 = 0 from rfl, show (List.replicate 0 AObj.slot) = [] from rfl, List.append_nil] at h
  exact h
theorem ev75 (k : Nat) (x0 : AV) (H : Heap) : evalT Tryd.prog (mkHints tab) (k + 1) (.fn 75) [x0] H = trimO H.length (finishO Tryd.prog Tryd.f75.results.toList (evalCode Tryd.prog (cxG Tryd.prog (mkHints tab) k 75 none) (Tryd.f75.body.getD .skip) (fillArgs (fr 35 []) 0 [x0]) H)) := by
  have h := evalT_fn 35 Tryd.func75 rfl (by decide) rfl (P := Tryd.prog) (h := mkHints tab) (k := k) (args := [x0]) (H := H)
  rw [show (mkHints tab).slots 75 = 0 from rfl, show (List.replicate 0 AObj.slot) = [] from rfl, List.append_nil] at h
  exact h
theorem ev76 (k : Nat) (x0 x1 x2 : AV) (H : Heap) : evalT Tryd.prog (mkHints tab) (k + 1) (.fn 76) [x0, x1, x2] H = trimO H.length (finishO Tryd.prog Tryd.f76.results.toList (evalCode Tryd.prog (cxG Tryd.prog (mkHints tab) k 76 none) (Tryd.f76.body.getD .skip) (fillArgs (fr 83 []) 0 [x0, x1, x2]) (H ++ [.slot, .slot]))) := evalT_fn 83 Tryd.func76 rfl (by decide) rfl
theorem sb76_0_2 : slotB tab.slots 76 0 2 = none := by rfl
theorem sb76_1_10 : slotB tab.slots 76 1 10 = some 1 := by rfl
theorem sb76_1_11 : slotB tab.slots 76 1 11 = some 2 := by rfl
theorem fsl76_4_3 : fslotB tab.fslots 76 4 3 = [] := by rfl
theorem kb76_4_3 : keepB tab.keeps 76 4 3 = false := by rfl
theorem fsl76_6_4 : fslotB tab.fslots 76 6 4 = [] := by rfl
theorem kb76_6_4 : keepB tab.keeps 76 6 4 = false := by rfl
theorem fsl76_8_4 : fslotB tab.fslots 76 8 4 = [] := by rfl
theorem kb76_8_4 : keepB tab.keeps 76 8 4 = false := by rfl
theorem fsl76_10_5 : fslotB tab.fslots 76 10 5 = [] := by rfl
theorem kb76_10_5 : keepB tab.keeps 76 10 5 = false := by rfl
theorem fsl76_10_6 : fslotB tab.fslots 76 10 6 = [] := by rfl
theorem kb76_10_6 : keepB tab.keeps 76 10 6 = false := by rfl
theorem fsl76_12_5 : fslotB tab.fslots 76 12 5 = [] := by rfl
theorem kb76_12_5 : keepB tab.keeps 76 12 5 = false := by rfl
theorem fsl76_12_6 : fslotB tab.fslots 76 12 6 = [] := by rfl
theorem kb76_12_6 : keepB tab.keeps 76 12 6 = false := by rfl
theorem fsl76_14_5 : fslotB tab.fslots 76 14 5 = [] := by rfl
theorem kb76_14_5 : keepB tab.keeps 76 14 5 = false := by rfl
theorem fsl76_14_6 : fslotB tab.fslots 76 14 6 = [] := by rfl
theorem kb76_14_6 : keepB tab.keeps 76 14 6 = false := by rfl
theorem fsl76_16_5 : fslotB tab.fslots 76 16 5 = [] := by rfl
theorem kb76_16_5 : keepB tab.keeps 76 16 5 = false := by rfl
theorem fsl76_16_6 : fslotB tab.fslots 76 16 6 = [] := by rfl
theorem kb76_16_6 : keepB tab.keeps 76 16 6 = false := by rfl
theorem dr76_1 : drawFact Tryd.f76 1 [0, 0, 2, 7, 15, 0, 0, 64, 224, 480, 0, 0, 3103, 8191] = true := by kernel_rfl
theorem fa109_0 (x : AV) : fieldAddrA Tryd.prog 109 x 0 = addrPlus x 0 := by kernel_rfl
theorem ag105 : isAggT Tryd.prog 105 = some false := by kernel_rfl
theorem sz105 : sizeT Tryd.prog 105 = some 1 := by kernel_rfl
theorem ldp105 (H : Heap) (id off : Nat) : loadA Tryd.prog H 105 (.ptr id off) = cellAt H[id]? off := by kernel_rfl
theorem ldi105 (H : Heap) (cells : List IV) (off : Nat) : loadA Tryd.prog H 105 (.c (.iptr cells off)) = (cells[off]?).map .c := by kernel_rfl
theorem lde105 (H : Heap) (id off ext : Nat) : loadA Tryd.prog H 105 (.eptr id off ext) = (rowOf H id ext).bind fun r => (r.2[off]?).map .c := by kernel_rfl
theorem fa109_1 (x : AV) : fieldAddrA Tryd.prog 109 x 1 = addrPlus x 1 := by kernel_rfl
theorem ag106 : isAggT Tryd.prog 106 = some false := by kernel_rfl
theorem sz106 : sizeT Tryd.prog 106 = some 1 := by kernel_rfl
theorem ldp106 (H : Heap) (id off : Nat) : loadA Tryd.prog H 106 (.ptr id off) = cellAt H[id]? off := by kernel_rfl
theorem ldi106 (H : Heap) (cells : List IV) (off : Nat) : loadA Tryd.prog H 106 (.c (.iptr cells off)) = (cells[off]?).map .c := by kernel_rfl
theorem lde106 (H : Heap) (id off ext : Nat) : loadA Tryd.prog H 106 (.eptr id off ext) = (rowOf H id ext).bind fun r => (r.2[off]?).map .c := by kernel_rfl
theorem fa109_2 (x : AV) : fieldAddrA Tryd.prog 109 x 2 = addrPlus x 2 := by kernel_rfl
theorem fa109_3 (x : AV) : fieldAddrA Tryd.prog 109 x 3 = addrPlus x 3 := by kernel_rfl
theorem dr76_10 : drawFact Tryd.f76 10 [0, 1, 0, 0, 8, 24, 63, 127, 255] = true := by kernel_rfl
theorem dr76_12 : drawFact Tryd.f76 12 [0, 1, 0, 0, 8, 24, 63, 127, 255] = true := by kernel_rfl
theorem fa109_4 (x : AV) : fieldAddrA Tryd.prog 109 x 4 = addrPlus x 4 := by kernel_rfl
theorem ag107 : isAggT Tryd.prog 107 = some false := by kernel_rfl
theorem sz107 : sizeT Tryd.prog 107 = some 1 := by kernel_rfl
theorem ldp107 (H : Heap) (id off : Nat) : loadA Tryd.prog H 107 (.ptr id off) = cellAt H[id]? off := by kernel_rfl
theorem ldi107 (H : Heap) (cells : List IV) (off : Nat) : loadA Tryd.prog H 107 (.c (.iptr cells off)) = (cells[off]?).map .c := by kernel_rfl
theorem lde107 (H : Heap) (id off ext : Nat) : loadA Tryd.prog H 107 (.eptr id off ext) = (rowOf H id ext).bind fun r => (r.2[off]?).map .c := by kernel_rfl
theorem dr76_14 : drawFact Tryd.f76 14 [0, 1, 0, 0, 8, 24, 63, 127, 127, 511, 1023] = true := by kernel_rfl
theorem dr76_16 : drawFact Tryd.f76 16 [0, 1, 0, 0, 8, 24, 63, 127, 127, 511, 1023] = true := by kernel_rfl
theorem ev77 (k : Nat) (x0 : AV) (H : Heap) : evalT Tryd.prog (mkHints tab) (k + 1) (.fn 77) [x0] H = trimO H.length (finishO Tryd.prog Tryd.f77.results.toList (evalCode Tryd.prog (cxG Tryd.prog (mkHints tab) k 77 none) (Tryd.f77.body.getD .skip) (fillArgs (fr 9 []) 0 [x0]) H)) := by
  have h := evalT_fn 9 Tryd.func77 rfl (by decide) rfl (P := Tryd.prog) (h := mkHints tab) (k := k) (args := [x0]) (H := H)
  rw [show (mkHints tab).slots 77 = 0 from rfl, show (List.replicate 0 AObj.slot) = [] from rfl, List.append_nil] at h
  exact h
theorem sb77_0_1 : slotB tab.slots 77 0 1 = none := by rfl
theorem fsl77_1_5 : fslotB tab.fslots 77 1 5 = [] := by rfl
theorem kb77_1_5 : keepB tab.keeps 77 1 5 = false := by rfl
theorem fa104_0 (x : AV) : fieldAddrA Tryd.prog 104 x 0 = addrPlus x 0 := by kernel_rfl
theorem ag4 : isAggT Tryd.prog 4 = some false := by kernel_rfl
theorem sz4 : sizeT Tryd.prog 4 = some 1 := by kernel_rfl
theorem ldp4 (H : Heap) (id off : Nat) : loadA Tryd.prog H 4 (.ptr id off) = cellAt H[id]? off := by kernel_rfl
theorem ldi4 (H : Heap) (cells : List IV) (off : Nat) : loadA Tryd.prog H 4 (.c (.iptr cells off)) = (cells[off]?).map .c := by kernel_rfl
theorem lde4 (H : Heap) (id off ext : Nat) : loadA Tryd.prog H 4 (.eptr id off ext) = (rowOf H id ext).bind fun r => (r.2[off]?).map .c := by kernel_rfl
theorem fa104_1 (x : AV) : fieldAddrA Tryd.prog 104 x 1 = addrPlus x 1 := by kernel_rfl
theorem ag56 : isAggT Tryd.prog 56 = some false := by kernel_rfl
theorem sz56 : sizeT Tryd.prog 56 = some 1 := by kernel_rfl
theorem ldp56 (H : Heap) (id off : Nat) : loadA Tryd.prog H 56 (.ptr id off) = cellAt H[id]? off := by kernel_rfl
theorem ldi56 (H : Heap) (cells : List IV) (off : Nat) : loadA Tryd.prog H 56 (.c (.iptr cells off)) = (cells[off]?).map .c := by kernel_rfl
theorem lde56 (H : Heap) (id off ext : Nat) : loadA Tryd.prog H 56 (.eptr id off ext) = (rowOf H id ext).bind fun r => (r.2[off]?).map .c := by kernel_rfl
theorem ev78 (k : Nat) (x0 x1 : AV) (H : Heap) : evalT Tryd.prog (mkHints tab) (k + 1) (.fn 78) [x0, x1] H = trimO H.length (finishO Tryd.prog Tryd.f78.results.toList (evalCode Tryd.prog (cxG Tryd.prog (mkHints tab) k 78 none) (Tryd.f78.body.getD .skip) (fillArgs (fr 40 []) 0 [x0, x1]) H)) := by
  have h := evalT_fn 40 Tryd.func78 rfl (by decide) rfl (P := Tryd.prog) (h := mkHints tab) (k := k) (args := [x0, x1]) (H := H)
  rw [show (mkHints tab).slots 78 = 0 from rfl, show (List.replicate 0 AObj.slot) = [] from rfl, List.append_nil] at h
  exact h
theorem sb78_0_2 : slotB tab.slots 78 0 2 = none := by rfl
theorem fsl78_2_6 : fslotB tab.fslots 78 2 6 = [] := by rfl
theorem kb78_2_6 : keepB tab.keeps 78 2 6 = false := by rfl
theorem fsl78_2_7 : fslotB tab.fslots 78 2 7 = [] := by rfl
theorem kb78_2_7 : keepB tab.keeps 78 2 7 = false := by rfl
theorem fsl78_3_4 : fslotB tab.fslots 78 3 4 = [] := by rfl
theorem kb78_3_4 : keepB tab.keeps 78 3 4 = false := by rfl
theorem fsl78_5_4 : fslotB tab.fslots 78 5 4 = [] := by rfl
theorem kb78_5_4 : keepB tab.keeps 78 5 4 = false := by rfl
theorem fsl78_6_3 : fslotB tab.fslots 78 6 3 = [] := by rfl
theorem kb78_6_3 : keepB tab.keeps 78 6 3 = false := by rfl
theorem eqb4 (H : Heap) (a b : Bool) : binA Tryd.prog H .eql 4 (.c (.bool a)) (.c (.bool b)) = some (.c (.bool ((a == b)))) := by kernel_rfl
theorem dr78_2 : drawFact Tryd.f78 2 [0, 1, 0, 4, 0, 16, 60, 127, 255] = true := by kernel_rfl
theorem ev79 (k : Nat) (x0 x1 : AV) (H : Heap) : evalT Tryd.prog (mkHints tab) (k + 1) (.fn 79) [x0, x1] H = trimO H.length (finishO Tryd.prog Tryd.f79.results.toList (evalCode Tryd.prog (cxG Tryd.prog (mkHints tab) k 79 none) (Tryd.f79.body.getD .skip) (fillArgs (fr 9 []) 0 [x0, x1]) H)) := by
  have h := evalT_fn 9 Tryd.func79 rfl (by decide) rfl (P := Tryd.prog) (h := mkHints tab) (k := k) (args := [x0, x1]) (H := H)
  rw [show (mkHints tab).slots 79 = 0 from rfl, show (List.replicate 0 AObj.slot) = [] from rfl, List.append_nil] at h
  exact h
theorem sb79_0_2 : slotB tab.slots 79 0 2 = none := by rfl
theorem fsl79_1_2 : fslotB tab.fslots 79 1 2 = [] := by rfl
theorem kb79_1_2 : keepB tab.keeps 79 1 2 = false := by rfl
theorem fsl79_1_3 : fslotB tab.fslots 79 1 3 = [] := by rfl
theorem kb79_1_3 : keepB tab.keeps 79 1 3 = false := by rfl
theorem dr79_1 : drawFact Tryd.f79 1 [0, 0, 2, 7, 15] = true := by kernel_rfl
theorem ev80 (k : Nat) (x0 x1 : AV) (H : Heap) : evalT Tryd.prog (mkHints tab) (k + 1) (.fn 80) [x0, x1] H = trimO H.length (finishO Tryd.prog Tryd.f80.results.toList (evalCode Tryd.prog (cxG Tryd.prog (mkHints tab) k 80 none) (Tryd.f80.body.getD .skip) (fillArgs (fr 16 []) 0 [x0, x1]) H)) := by
  have h := evalT_fn 16 Tryd.func80 rfl (by decide) rfl (P := Tryd.prog) (h := mkHints tab) (k := k) (args := [x0, x1]) (H := H)
  rw [show (mkHints tab).slots 80 = 0 from rfl, show (List.replicate 0 AObj.slot) = [] from rfl, List.append_nil] at h
  exact h
theorem sb80_0_2 : slotB tab.slots 80 0 2 = none := by rfl
theorem fsl80_1_9 : fslotB tab.fslots 80 1 9 = [] := by rfl
theorem kb80_1_9 : keepB tab.keeps 80 1 9 = false := by rfl
theorem fsl80_1_10 : fslotB tab.fslots 80 1 10 = [] := by rfl
theorem kb80_1_10 : keepB tab.keeps 80 1 10 = false := by rfl
theorem neb4 (H : Heap) (a b : Bool) : binA Tryd.prog H .neq 4 (.c (.bool a)) (.c (.bool b)) = some (.c (.bool (!(a == b)))) := by kernel_rfl
theorem dr80_1 : drawFact Tryd.f80 1 [0, 1, 0, 4, 15, 0, 32, 0, 128, 480, 1023, 2047] = true := by kernel_rfl
theorem ev81 (k : Nat) (x0 x1 : AV) (H : Heap) : evalT Tryd.prog (mkHints tab) (k + 1) (.fn 81) [x0, x1] H = trimO H.length (finishO Tryd.prog Tryd.f81.results.toList (evalCode Tryd.prog (cxG Tryd.prog (mkHints tab) k 81 none) (Tryd.f81.body.getD .skip) (fillArgs (fr 20 []) 0 [x0, x1]) H)) := by
  have h := evalT_fn 20 Tryd.func81 rfl (by decide) rfl (P := Tryd.prog) (h := mkHints tab) (k := k) (args := [x0, x1]) (H := H)
  rw [show (mkHints tab).slots 81 = 0 from rfl, show (List.replicate 0 AObj.slot) = [] from rfl, List.append_nil] at h
  exact h
theorem sb81_0_2 : slotB tab.slots 81 0 2 = none := by rfl
theorem fsl81_1_2 : fslotB tab.fslots 81 1 2 = [] := by rfl
theorem kb81_1_2 : keepB tab.keeps 81 1 2 = false := by rfl
theorem sb81_1_7 : slotB tab.slots 81 1 7 = none := by rfl
theorem sb81_1_8 : slotB tab.slots 81 1 8 = none := by rfl
theorem fsl81_2_2 : fslotB tab.fslots 81 2 2 = [] := by rfl
theorem kb81_2_2 : keepB tab.keeps 81 2 2 = false := by rfl
theorem dr81_2 : drawFact Tryd.f81 2 [0, 0, 2, 6, 7, 31] = true := by kernel_rfl
theorem ev84 (k : Nat) (x0 x1 : AV) (H : Heap) : evalT Tryd.prog (mkHints tab) (k + 1) (.fn 84) [x0, x1] H = trimO H.length (finishO Tryd.prog Tryd.f84.results.toList (evalCode Tryd.prog (cxG Tryd.prog (mkHints tab) k 84 none) (Tryd.f84.body.getD .skip) (fillArgs (fr 9 []) 0 [x0, x1]) H)) := by
  have h := evalT_fn 9 Tryd.func84 rfl (by decide) rfl (P := Tryd.prog) (h := mkHints tab) (k := k) (args := [x0, x1]) (H := H)
  rw [show (mkHints tab).slots 84 = 0 from rfl, show (List.replicate 0 AObj.slot) = [] from rfl, List.append_nil] at h
  exact h
theorem sb84_0_0 : slotB tab.slots 84 0 0 = none := by rfl
theorem fsl84_1_2 : fslotB tab.fslots 84 1 2 = [] := by rfl
theorem kb84_1_2 : keepB tab.keeps 84 1 2 = false := by rfl
theorem fsl84_1_3 : fslotB tab.fslots 84 1 3 = [] := by rfl
theorem kb84_1_3 : keepB tab.keeps 84 1 3 = false := by rfl
theorem ev58 (k : Nat) (x0 x1 : AV) (H : Heap) : evalT Tryd.prog (mkHints tab) (k + 1) (.fn 58) [x0, x1] H = trimO H.length (finishO Tryd.prog Tryd.f58.results.toList (evalCode Tryd.prog (cxG Tryd.prog (mkHints tab) k 58 none) (Tryd.f58.body.getD .skip) (fillArgs (fr 28 []) 0 [x0, x1]) H)) := by
  have h := evalT_fn 28 Tryd.func58 rfl (by decide) rfl (P := Tryd.prog) (h := mkHints tab) (k := k) (args := [x0, x1]) (H := H)
  rw [show (mkHints tab).slots 58 = 0 from rfl, show (List.replicate 0 AObj.slot) = [] from rfl, List.append_nil] at h
  exact h
theorem fsl58_2_4 : fslotB tab.fslots 58 2 4 = [] := by rfl
theorem kb58_2_4 : keepB tab.keeps 58 2 4 = false := by rfl
theorem fsl58_7_4 : fslotB tab.fslots 58 7 4 = [] := by rfl
theorem kb58_7_4 : keepB tab.keeps 58 7 4 = false := by rfl
theorem ev87 (k : Nat) (x0 : AV) (H : Heap) : evalT Tryd.prog (mkHints tab) (k + 1) (.fn 87) [x0] H = trimO H.length (finishO Tryd.prog Tryd.f87.results.toList (evalCode Tryd.prog (cxG Tryd.prog (mkHints tab) k 87 none) (Tryd.f87.body.getD .skip) (fillArgs (fr 8 []) 0 [x0]) H)) := by
  have h := evalT_fn 8 Tryd.func87 rfl (by decide) rfl (P := Tryd.prog) (h := mkHints tab) (k := k) (args := [x0]) (H := H)
  rw [show (mkHints tab).slots 87 = 0 from rfl, show (List.replicate 0 AObj.slot) = [] from rfl, List.append_nil] at h
  exact h
theorem fsl87_1_2 : fslotB tab.fslots 87 1 2 = [] := by rfl
theorem kb87_1_2 : keepB tab.keeps 87 1 2 = false := by rfl
theorem fsl87_2_1 : fslotB tab.fslots 87 2 1 = [] := by rfl
theorem kb87_2_1 : keepB tab.keeps 87 2 1 = false := by rfl
theorem cv145_117 (k : IntKind) (n : Int) : convA Tryd.prog 145 117 (.c (.int k n)) = some (.c (.int .u32 (IntKind.wrap .u32 n))) := by kernel_rfl
theorem ev88 (k : Nat) (x0 : AV) (H : Heap) : evalT Tryd.prog (mkHints tab) (k + 1) (.fn 88) [x0] H = trimO H.length (finishO Tryd.prog Tryd.f88.results.toList (evalCode Tryd.prog (cxG Tryd.prog (mkHints tab) k 88 none) (Tryd.f88.body.getD .skip) (fillArgs (fr 9 []) 0 [x0]) H)) := by
  have h := evalT_fn 9 Tryd.func88 rfl (by decide) rfl (P := Tryd.prog) (h := mkHints tab) (k := k) (args := [x0]) (H := H)
  rw [show (mkHints tab).slots 88 = 0 from rfl, show (List.replicate 0 AObj.slot) = [] from rfl, List.append_nil] at h
  exact h
theorem ev98 (k : Nat) (x0 : AV) (H : Heap) : evalT Tryd.prog (mkHints tab) (k + 1) (.fn 98) [x0] H = trimO H.length (finishO Tryd.prog Tryd.f98.results.toList (evalCode Tryd.prog (cxG Tryd.prog (mkHints tab) k 98 none) (Tryd.f98.body.getD .skip) (fillArgs (fr 12 []) 0 [x0]) H)) := by
  have h := evalT_fn 12 Tryd.func98 rfl (by decide) rfl (P := Tryd.prog) (h := mkHints tab) (k := k) (args := [x0]) (H := H)
  rw [show (mkHints tab).slots 98 = 0 from rfl, show (List.replicate 0 AObj.slot) = [] from rfl, List.append_nil] at h
  exact h
theorem sb98_0_0 : slotB tab.slots 98 0 0 = none := by rfl
theorem fsl98_1_0 : fslotB tab.fslots 98 1 0 = [] := by rfl
theorem kb98_1_0 : keepB tab.keeps 98 1 0 = false := by rfl
theorem fsl98_1_2 : fslotB tab.fslots 98 1 2 = [] := by rfl
theorem kb98_1_2 : keepB tab.keeps 98 1 2 = false := by rfl
theorem sb98_1_6 : slotB tab.slots 98 1 6 = none := by rfl
theorem ev99 (k : Nat) (x0 x1 : AV) (H : Heap) : evalT Tryd.prog (mkHints tab) (k + 1) (.fn 99) [x0, x1] H = trimO H.length (finishO Tryd.prog Tryd.f99.results.toList (evalCode Tryd.prog (cxG Tryd.prog (mkHints tab) k 99 none) (Tryd.f99.body.getD .skip) (fillArgs (fr 13 []) 0 [x0, x1]) H)) := by
  have h := evalT_fn 13 Tryd.func99 rfl (by decide) rfl (P := Tryd.prog) (h := mkHints tab) (k := k) (args := [x0, x1]) (H := H)
  rw [show (mkHints tab).slots 99 = 0 from rfl, show (List.replicate 0 AObj.slot) = [] from rfl, List.append_nil] at h
  exact h
theorem sb99_0_0 : slotB tab.slots 99 0 0 = none := by rfl
theorem ln56 (cells : List IV) (n : Nat) (nl : Bool) (cap : Option Nat) : lenA Tryd.prog 56 (.c (.slice cells n nl cap)) = some (.c (.int .i64 n)) := by kernel_rfl
theorem lnv56 (s n sz : Nat) : lenA Tryd.prog 56 (lv s sz n) = some (.c (.int .i64 n)) := by
  unfold lv; split
  · rename_i h; subst h; kernel_rfl
  · kernel_rfl
theorem lnh56 (id off n ext sz : Nat) : lenA Tryd.prog 56 (.hsl id off n ext sz) = some (.c (.int .i64 n)) := by kernel_rfl
theorem bd104_0_1_h1 (a0 : IV) (v1 : AV) (hv1 : v1.isCell = true) : buildA Tryd.prog 104 [(0, .c a0), (1, v1)] = some (.agg [.c a0, v1]) := by
  cases v1 <;> first | (cases hv1; done) | kernel_rfl
theorem bd104_0_1 (a0 a1 : IV) : buildA Tryd.prog 104 [(0, .c a0), (1, .c a1)] = some (.agg [.c a0, .c a1]) := by kernel_rfl
theorem ev85 (k : Nat) (x0 x1 : AV) (H : Heap) : evalT Tryd.prog (mkHints tab) (k + 1) (.fn 85) [x0, x1] H = trimO H.length (finishO Tryd.prog Tryd.f85.results.toList (evalCode Tryd.prog (cxG Tryd.prog (mkHints tab) k 85 none) (Tryd.f85.body.getD .skip) (fillArgs (fr 49 []) 0 [x0, x1]) H)) := by
  have h := evalT_fn 49 Tryd.func85 rfl (by decide) rfl (P := Tryd.prog) (h := mkHints tab) (k := k) (args := [x0, x1]) (H := H)
  rw [show (mkHints tab).slots 85 = 0 from rfl, show (List.replicate 0 AObj.slot) = [] from rfl, List.append_nil] at h
  exact h
theorem fsl85_1_1 : fslotB tab.fslots 85 1 1 = [] := by rfl
theorem kb85_1_1 : keepB tab.keeps 85 1 1 = false := by rfl
theorem fsl85_1_3 : fslotB tab.fslots 85 1 3 = [] := by rfl
theorem kb85_1_3 : keepB tab.keeps 85 1 3 = false := by rfl
theorem ag117 : isAggT Tryd.prog 117 = some false := by kernel_rfl
theorem sz117 : sizeT Tryd.prog 117 = some 1 := by kernel_rfl
theorem ia56 (H : Heap) (cells : List IV) (len : Nat) (nl : Bool) (cap : Option Nat) (k : IntKind) (i : Int) : indexAddrA Tryd.prog H 56 (.c (.slice cells len nl cap)) (.c (.int k i)) = if 0 ≤ i ∧ i < len then some (.c (.iptr cells (i.toNat * 1))) else none := by kernel_rfl
theorem iah56 (H : Heap) (id off len ext sz : Nat) (k : IntKind) (i : Int) : indexAddrA Tryd.prog H 56 (.hsl id off len ext sz) (.c (.int k i)) = if 0 ≤ i ∧ i < len ∧ sz = 1 ∧ (rowOf H id ext).isSome = true then some (.eptr id (off + i.toNat * 1) ext) else none := by kernel_rfl
theorem ldp117 (H : Heap) (id off : Nat) : loadA Tryd.prog H 117 (.ptr id off) = cellAt H[id]? off := by kernel_rfl
theorem ldi117 (H : Heap) (cells : List IV) (off : Nat) : loadA Tryd.prog H 117 (.c (.iptr cells off)) = (cells[off]?).map .c := by kernel_rfl
theorem lde117 (H : Heap) (id off ext : Nat) : loadA Tryd.prog H 117 (.eptr id off ext) = (rowOf H id ext).bind fun r => (r.2[off]?).map .c := by kernel_rfl
theorem dr85_9 : drawFact Tryd.f85 9 [0, 0, 3, 7, 0, 0, 48, 112, 255, 511] = true := by kernel_rfl
theorem dr85_11 : drawFact Tryd.f85 11 [0, 0, 3, 7, 0, 0, 48, 112, 255, 511] = true := by kernel_rfl
theorem ev100 (k : Nat) (x0 x1 : AV) (H : Heap) : evalT Tryd.prog (mkHints tab) (k + 1) (.fn 100) [x0, x1] H = trimO H.length (finishO Tryd.prog Tryd.f100.results.toList (evalCode Tryd.prog (cxG Tryd.prog (mkHints tab) k 100 none) (Tryd.f100.body.getD .skip) (fillArgs (fr 58 []) 0 [x0, x1]) H)) := by
  have h := evalT_fn 58 Tryd.func100 rfl (by decide) rfl (P := Tryd.prog) (h := mkHints tab) (k := k) (args := [x0, x1]) (H := H)
  rw [show (mkHints tab).slots 100 = 0 from rfl, show (List.replicate 0 AObj.slot) = [] from rfl, List.append_nil] at h
  exact h
theorem sb100_3_3 : slotB tab.slots 100 3 3 = none := by rfl
theorem fsl100_15_1 : fslotB tab.fslots 100 15 1 = [] := by rfl
theorem kb100_15_1 : keepB tab.keeps 100 15 1 = false := by rfl
theorem ms56 (H : Heap) (l c : Int) : makeSliceA Tryd.prog H none 56 (.c (.int .i64 l)) (.c (.int .i64 c)) = if 0 ≤ l ∧ l = c ∧ c.toNat * 4 ≤ roomBytes ∧ c.toNat ≤ roomBytes ∧ 1 = 1 ∧ 0 < 1 then some (.hsl H.length 0 l.toNat (c.toNat * 1) 1, H ++ [.row false 117 ((List.replicate c.toNat [.int .u32 0]).flatten)]) else none := by kernel_rfl
theorem cv117_116 (k : IntKind) (n : Int) : convA Tryd.prog 117 116 (.c (.int k n)) = some (.c (.int .u64 (IntKind.wrap .u64 n))) := by kernel_rfl
theorem ev101 (k : Nat) (x0 x1 : AV) (H : Heap) : evalT Tryd.prog (mkHints tab) (k + 1) (.fn 101) [x0, x1] H = trimO H.length (finishO Tryd.prog Tryd.f101.results.toList (evalCode Tryd.prog (cxG Tryd.prog (mkHints tab) k 101 none) (Tryd.f101.body.getD .skip) (fillArgs (fr 53 []) 0 [x0, x1]) H)) := by
  have h := evalT_fn 53 Tryd.func101 rfl (by decide) rfl (P := Tryd.prog) (h := mkHints tab) (k := k) (args := [x0, x1]) (H := H)
  rw [show (mkHints tab).slots 101 = 0 from rfl, show (List.replicate 0 AObj.slot) = [] from rfl, List.append_nil] at h
  exact h
theorem fsl101_1_2 : fslotB tab.fslots 101 1 2 = [] := by rfl
theorem kb101_1_2 : keepB tab.keeps 101 1 2 = false := by rfl
theorem sb101_3_2 : slotB tab.slots 101 3 2 = none := by rfl
theorem fsl101_15_1 : fslotB tab.fslots 101 15 1 = [] := by rfl
theorem kb101_15_1 : keepB tab.keeps 101 15 1 = false := by rfl
theorem ev102 (k : Nat) (x0 x1 : AV) (H : Heap) : evalT Tryd.prog (mkHints tab) (k + 1) (.fn 102) [x0, x1] H = trimO H.length (finishO Tryd.prog Tryd.f102.results.toList (evalCode Tryd.prog (cxG Tryd.prog (mkHints tab) k 102 none) (Tryd.f102.body.getD .skip) (fillArgs (fr 67 []) 0 [x0, x1]) H)) := by
  have h := evalT_fn 67 Tryd.func102 rfl (by decide) rfl (P := Tryd.prog) (h := mkHints tab) (k := k) (args := [x0, x1]) (H := H)
  rw [show (mkHints tab).slots 102 = 0 from rfl, show (List.replicate 0 AObj.slot) = [] from rfl, List.append_nil] at h
  exact h
theorem sb102_1_5 : slotB tab.slots 102 1 5 = none := by rfl
theorem fsl102_15_1 : fslotB tab.fslots 102 15 1 = [] := by rfl
theorem kb102_15_1 : keepB tab.keeps 102 15 1 = false := by rfl
theorem ev82 (k : Nat) (x0 x1 : AV) (H : Heap) : evalT Tryd.prog (mkHints tab) (k + 1) (.fn 82) [x0, x1] H = trimO H.length (finishO Tryd.prog Tryd.f82.results.toList (evalCode Tryd.prog (cxG Tryd.prog (mkHints tab) k 82 none) (Tryd.f82.body.getD .skip) (fillArgs (fr 49 []) 0 [x0, x1]) (H ++ [.slot, .slot]))) := evalT_fn 49 Tryd.func82 rfl (by decide) rfl
theorem sb82_0_2 : slotB tab.slots 82 0 2 = none := by rfl
theorem sb82_0_3 : slotB tab.slots 82 0 3 = none := by rfl
theorem fsl82_1_4 : fslotB tab.fslots 82 1 4 = [] := by rfl
theorem kb82_1_4 : keepB tab.keeps 82 1 4 = false := by rfl
theorem fsl82_4_6 : fslotB tab.fslots 82 4 6 = [] := by rfl
theorem kb82_4_6 : keepB tab.keeps 82 4 6 = false := by rfl
theorem fsl82_4_10 : fslotB tab.fslots 82 4 10 = [] := by rfl
theorem kb82_4_10 : keepB tab.keeps 82 4 10 = false := by rfl
theorem sb82_4_11 : slotB tab.slots 82 4 11 = some 0 := by rfl
theorem sb82_4_12 : slotB tab.slots 82 4 12 = some 1 := by rfl
theorem fsl82_6_2 : fslotB tab.fslots 82 6 2 = [] := by rfl
theorem kb82_6_2 : keepB tab.keeps 82 6 2 = false := by rfl
theorem fsl82_6_3 : fslotB tab.fslots 82 6 3 = [] := by rfl
theorem kb82_6_3 : keepB tab.keeps 82 6 3 = false := by rfl
theorem fsl82_7_2 : fslotB tab.fslots 82 7 2 = [] := by rfl
theorem kb82_7_2 : keepB tab.keeps 82 7 2 = false := by rfl
theorem fsl82_7_3 : fslotB tab.fslots 82 7 3 = [] := by rfl
theorem kb82_7_3 : keepB tab.keeps 82 7 3 = false := by rfl
theorem fsl82_7_4 : fslotB tab.fslots 82 7 4 = [] := by rfl
theorem kb82_7_4 : keepB tab.keeps 82 7 4 = false := by rfl
theorem bd104_ : buildA Tryd.prog 104 [] = some (.agg [.c (.bool false), .c (.slice [] 0 true (some 0))]) := by kernel_rfl
theorem dr82_4 : drawFact Tryd.f82 4 [0, 1, 0, 4, 15, 0, 63, 0, 128, 0, 1023, 0, 0, 8191, 16383] = true := by kernel_rfl
theorem dr82_6 : drawFact Tryd.f82 6 [0, 0, 2, 7, 15] = true := by kernel_rfl
theorem dr82_7 : drawFact Tryd.f82 7 [0, 0, 2, 6, 15, 31] = true := by kernel_rfl
theorem dr82_8 : drawFact Tryd.f82 8 [0, 0, 1, 7, 15] = true := by kernel_rfl
theorem ev83 (k : Nat) (x0 : AV) (H : Heap) : evalT Tryd.prog (mkHints tab) (k + 1) (.fn 83) [x0] H = trimO H.length (finishO Tryd.prog Tryd.f83.results.toList (evalCode Tryd.prog (cxG Tryd.prog (mkHints tab) k 83 none) (Tryd.f83.body.getD .skip) (fillArgs (fr 11 []) 0 [x0]) H)) := by
  have h := evalT_fn 11 Tryd.func83 rfl (by decide) rfl (P := Tryd.prog) (h := mkHints tab) (k := k) (args := [x0]) (H := H)
  rw [show (mkHints tab).slots 83 = 0 from rfl, show (List.replicate 0 AObj.slot) = [] from rfl, List.append_nil] at h
  exact h
theorem ev105 (k : Nat) (x0 : AV) (H : Heap) : evalT Tryd.prog (mkHints tab) (k + 1) (.fn 105) [x0] H = trimO H.length (finishO Tryd.prog Tryd.f105.results.toList (evalCode Tryd.prog (cxG Tryd.prog (mkHints tab) k 105 none) (Tryd.f105.body.getD .skip) (fillArgs (fr 13 []) 0 [x0]) H)) := by
  have h := evalT_fn 13 Tryd.func105 rfl (by decide) rfl (P := Tryd.prog) (h := mkHints tab) (k := k) (args := [x0]) (H := H)
  rw [show (mkHints tab).slots 105 = 0 from rfl, show (List.replicate 0 AObj.slot) = [] from rfl, List.append_nil] at h
  exact h
theorem fsl105_1_1 : fslotB tab.fslots 105 1 1 = [] := by rfl
theorem kb105_1_1 : keepB tab.keeps 105 1 1 = false := by rfl
theorem sb105_2_2 : slotB tab.slots 105 2 2 = none := by rfl
theorem cp56 (H : Heap) (d s : AV) : copyA Tryd.prog H 56 d s = cpO 1 d H (srcOf H 1 s) := by kernel_rfl
theorem ev107 (k : Nat) (x0 : AV) (H : Heap) : evalT Tryd.prog (mkHints tab) (k + 1) (.fn 107) [x0] H = trimO H.length (finishO Tryd.prog Tryd.f107.results.toList (evalCode Tryd.prog (cxG Tryd.prog (mkHints tab) k 107 none) (Tryd.f107.body.getD .skip) (fillArgs (fr 14 []) 0 [x0]) H)) := by
  have h := evalT_fn 14 Tryd.func107 rfl (by decide) rfl (P := Tryd.prog) (h := mkHints tab) (k := k) (args := [x0]) (H := H)
  rw [show (mkHints tab).slots 107 = 0 from rfl, show (List.replicate 0 AObj.slot) = [] from rfl, List.append_nil] at h
  exact h
theorem iaa174 (H : Heap) (x : AV) (k : IntKind) (i : Int) : indexAddrA Tryd.prog H 174 x (.c (.int k i)) = if 0 ≤ i ∧ i < (32 : Nat) then addrPlus x (i.toNat * 1) else none := by kernel_rfl
theorem ag5 : isAggT Tryd.prog 5 = some false := by kernel_rfl
theorem sz5 : sizeT Tryd.prog 5 = some 1 := by kernel_rfl
theorem ldp5 (H : Heap) (id off : Nat) : loadA Tryd.prog H 5 (.ptr id off) = cellAt H[id]? off := by kernel_rfl
theorem ldi5 (H : Heap) (cells : List IV) (off : Nat) : loadA Tryd.prog H 5 (.c (.iptr cells off)) = (cells[off]?).map .c := by kernel_rfl
theorem lde5 (H : Heap) (id off ext : Nat) : loadA Tryd.prog H 5 (.eptr id off ext) = (rowOf H id ext).bind fun r => (r.2[off]?).map .c := by kernel_rfl
theorem cv5_3 (k : IntKind) (n : Int) : convA Tryd.prog 5 3 (.c (.int k n)) = some (.c (.int .i64 (IntKind.wrap .i64 n))) := by kernel_rfl
theorem ev108 (k : Nat) (x0 : AV) (H : Heap) : evalT Tryd.prog (mkHints tab) (k + 1) (.fn 108) [x0] H = trimO H.length (finishO Tryd.prog Tryd.f108.results.toList (evalCode Tryd.prog (cxG Tryd.prog (mkHints tab) k 108 none) (Tryd.f108.body.getD .skip) (fillArgs (fr 14 []) 0 [x0]) H)) := by
  have h := evalT_fn 14 Tryd.func108 rfl (by decide) rfl (P := Tryd.prog) (h := mkHints tab) (k := k) (args := [x0]) (H := H)
  rw [show (mkHints tab).slots 108 = 0 from rfl, show (List.replicate 0 AObj.slot) = [] from rfl, List.append_nil] at h
  exact h
theorem iaa175 (H : Heap) (x : AV) (k : IntKind) (i : Int) : indexAddrA Tryd.prog H 175 x (.c (.int k i)) = if 0 ≤ i ∧ i < (64 : Nat) then addrPlus x (i.toNat * 1) else none := by kernel_rfl
theorem ev113 (k : Nat) (x0 x1 : AV) (H : Heap) : evalT Tryd.prog (mkHints tab) (k + 1) (.fn 113) [x0, x1] H = trimO H.length (finishO Tryd.prog Tryd.f113.results.toList (evalCode Tryd.prog (cxG Tryd.prog (mkHints tab) k 113 none) (Tryd.f113.body.getD .skip) (fillArgs (fr 23 []) 0 [x0, x1]) H)) := by
  have h := evalT_fn 23 Tryd.func113 rfl (by decide) rfl (P := Tryd.prog) (h := mkHints tab) (k := k) (args := [x0, x1]) (H := H)
  rw [show (mkHints tab).slots 113 = 0 from rfl, show (List.replicate 0 AObj.slot) = [] from rfl, List.append_nil] at h
  exact h
theorem sb113_0_1 : slotB tab.slots 113 0 1 = none := by rfl
theorem fsl113_1_3 : fslotB tab.fslots 113 1 3 = [] := by rfl
theorem kb113_1_3 : keepB tab.keeps 113 1 3 = false := by rfl
theorem fsl113_4_3 : fslotB tab.fslots 113 4 3 = [] := by rfl
theorem kb113_4_3 : keepB tab.keeps 113 4 3 = false := by rfl
theorem ev106 (k : Nat) (x0 : AV) (H : Heap) : evalT Tryd.prog (mkHints tab) (k + 1) (.fn 106) [x0] H = trimO H.length (finishO Tryd.prog Tryd.f106.results.toList (evalCode Tryd.prog (cxG Tryd.prog (mkHints tab) k 106 none) (Tryd.f106.body.getD .skip) (fillArgs (fr 22 []) 0 [x0]) H)) := by
  have h := evalT_fn 22 Tryd.func106 rfl (by decide) rfl (P := Tryd.prog) (h := mkHints tab) (k := k) (args := [x0]) (H := H)
  rw [show (mkHints tab).slots 106 = 0 from rfl, show (List.replicate 0 AObj.slot) = [] from rfl, List.append_nil] at h
  exact h
theorem sm56 (H : Heap) (cells : List IV) (len : Nat) (nl : Bool) (cap : Option Nat) (lo hi : Option AV) (m : AV) : sliceA Tryd.prog H 56 (.c (.slice cells len nl cap)) lo hi (some m) = sliceM 1 cells len nl lo hi m := by kernel_rfl
theorem ev103 (k : Nat) (x0 x1 : AV) (H : Heap) : evalT Tryd.prog (mkHints tab) (k + 1) (.fn 103) [x0, x1] H = trimO H.length (finishO Tryd.prog Tryd.f103.results.toList (evalCode Tryd.prog (cxG Tryd.prog (mkHints tab) k 103 none) (Tryd.f103.body.getD .skip) (fillArgs (fr 106 []) 0 [x0, x1]) (H ++ [.slot]))) := evalT_fn 106 Tryd.func103 rfl (by decide) rfl
theorem fsl103_1_1 : fslotB tab.fslots 103 1 1 = [] := by rfl
theorem kb103_1_1 : keepB tab.keeps 103 1 1 = false := by rfl
theorem fsl103_4_2 : fslotB tab.fslots 103 4 2 = [] := by rfl
theorem kb103_4_2 : keepB tab.keeps 103 4 2 = false := by rfl
theorem fsl103_5_1 : fslotB tab.fslots 103 5 1 = [] := by rfl
theorem kb103_5_1 : keepB tab.keeps 103 5 1 = false := by rfl
theorem fsl103_7_4 : fslotB tab.fslots 103 7 4 = [] := by rfl
theorem kb103_7_4 : keepB tab.keeps 103 7 4 = false := by rfl
theorem fsl103_8_3 : fslotB tab.fslots 103 8 3 = [] := by rfl
theorem kb103_8_3 : keepB tab.keeps 103 8 3 = false := by rfl
theorem fsl103_9_6 : fslotB tab.fslots 103 9 6 = [] := by rfl
theorem kb103_9_6 : keepB tab.keeps 103 9 6 = false := by rfl
theorem fsl103_10_2 : fslotB tab.fslots 103 10 2 = [] := by rfl
theorem kb103_10_2 : keepB tab.keeps 103 10 2 = false := by rfl
theorem fsl103_11_2 : fslotB tab.fslots 103 11 2 = [] := by rfl
theorem kb103_11_2 : keepB tab.keeps 103 11 2 = false := by rfl
theorem sb103_12_2 : slotB tab.slots 103 12 2 = some 0 := by rfl
theorem sb103_14_4 : slotB tab.slots 103 14 4 = none := by rfl
theorem fsl103_18_10 : fslotB tab.fslots 103 18 10 = [] := by rfl
theorem kb103_18_10 : keepB tab.keeps 103 18 10 = false := by rfl
theorem fsl103_19_2 : fslotB tab.fslots 103 19 2 = [] := by rfl
theorem kb103_19_2 : keepB tab.keeps 103 19 2 = false := by rfl
theorem fsl103_20_1 : fslotB tab.fslots 103 20 1 = [] := by rfl
theorem kb103_20_1 : keepB tab.keeps 103 20 1 = false := by rfl
theorem bs56_1_0 (H : Heap) (a0 : IV) : buildSliceA Tryd.prog H 56 1 [(0, .c a0)] = some (.hsl H.length 0 1 (1 * 1) 1, H ++ [.row false 117 [a0]]) := by kernel_rfl
theorem ap56 (H : Heap) (sl : Option Nat) (s x : AV) : appendA Tryd.prog H sl 56 s x = apO 117 1 4 sl s H (srcOf H 1 x) := by kernel_rfl
theorem sl56 (H : Heap) (x : AV) (lo hi : Option AV) : sliceA Tryd.prog H 56 x lo hi none = sliceO H 1 x lo hi := by kernel_rfl
theorem ev104 (k : Nat) (x0 : AV) (H : Heap) : evalT Tryd.prog (mkHints tab) (k + 1) (.fn 104) [x0] H = trimO H.length (finishO Tryd.prog Tryd.f104.results.toList (evalCode Tryd.prog (cxG Tryd.prog (mkHints tab) k 104 none) (Tryd.f104.body.getD .skip) (fillArgs (fr 6 []) 0 [x0]) H)) := by
  have h := evalT_fn 6 Tryd.func104 rfl (by decide) rfl (P := Tryd.prog) (h := mkHints tab) (k := k) (args := [x0]) (H := H)
  rw [show (mkHints tab).slots 104 = 0 from rfl, show (List.replicate 0 AObj.slot) = [] from rfl, List.append_nil] at h
  exact h
theorem sb104_0_1 : slotB tab.slots 104 0 1 = none := by rfl
theorem fsl104_1_2 : fslotB tab.fslots 104 1 2 = [] := by rfl
theorem kb104_1_2 : keepB tab.keeps 104 1 2 = false := by rfl
theorem ev116 (k : Nat) (x0 x1 : AV) (H : Heap) : evalT Tryd.prog (mkHints tab) (k + 1) (.fn 116) [x0, x1] H = trimO H.length (finishO Tryd.prog Tryd.f116.results.toList (evalCode Tryd.prog (cxG Tryd.prog (mkHints tab) k 116 none) (Tryd.f116.body.getD .skip) (fillArgs (fr 62 []) 0 [x0, x1]) H)) := by
  have h := evalT_fn 62 Tryd.func116 rfl (by decide) rfl (P := Tryd.prog) (h := mkHints tab) (k := k) (args := [x0, x1]) (H := H)
  rw [show (mkHints tab).slots 116 = 0 from rfl, show (List.replicate 0 AObj.slot) = [] from rfl, List.append_nil] at h
  exact h
theorem sb116_5_6 : slotB tab.slots 116 5 6 = none := by rfl
theorem fsl116_14_1 : fslotB tab.fslots 116 14 1 = [] := by rfl
theorem kb116_14_1 : keepB tab.keeps 116 14 1 = false := by rfl
theorem ev114 (k : Nat) (x0 x1 : AV) (H : Heap) : evalT Tryd.prog (mkHints tab) (k + 1) (.fn 114) [x0, x1] H = trimO H.length (finishO Tryd.prog Tryd.f114.results.toList (evalCode Tryd.prog (cxG Tryd.prog (mkHints tab) k 114 none) (Tryd.f114.body.getD .skip) (fillArgs (fr 46 []) 0 [x0, x1]) H)) := by
  have h := evalT_fn 46 Tryd.func114 rfl (by decide) rfl (P := Tryd.prog) (h := mkHints tab) (k := k) (args := [x0, x1]) (H := H)
  rw [show (mkHints tab).slots 114 = 0 from rfl, show (List.replicate 0 AObj.slot) = [] from rfl, List.append_nil] at h
  exact h
theorem sb114_3_2 : slotB tab.slots 114 3 2 = none := by rfl
theorem fsl114_11_1 : fslotB tab.fslots 114 11 1 = [] := by rfl
theorem kb114_11_1 : keepB tab.keeps 114 11 1 = false := by rfl
theorem ev115 (k : Nat) (x0 : AV) (H : Heap) : evalT Tryd.prog (mkHints tab) (k + 1) (.fn 115) [x0] H = trimO H.length (finishO Tryd.prog Tryd.f115.results.toList (evalCode Tryd.prog (cxG Tryd.prog (mkHints tab) k 115 none) (Tryd.f115.body.getD .skip) (fillArgs (fr 6 []) 0 [x0]) H)) := by
  have h := evalT_fn 6 Tryd.func115 rfl (by decide) rfl (P := Tryd.prog) (h := mkHints tab) (k := k) (args := [x0]) (H := H)
  rw [show (mkHints tab).slots 115 = 0 from rfl, show (List.replicate 0 AObj.slot) = [] from rfl, List.append_nil] at h
  exact h
theorem fsl115_1_1 : fslotB tab.fslots 115 1 1 = [] := by rfl
theorem kb115_1_1 : keepB tab.keeps 115 1 1 = false := by rfl
theorem ev117 (k : Nat) (x0 x1 : AV) (H : Heap) : evalT Tryd.prog (mkHints tab) (k + 1) (.fn 117) [x0, x1] H = trimO H.length (finishO Tryd.prog Tryd.f117.results.toList (evalCode Tryd.prog (cxG Tryd.prog (mkHints tab) k 117 none) (Tryd.f117.body.getD .skip) (fillArgs (fr 119 []) 0 [x0, x1]) H)) := by
  have h := evalT_fn 119 Tryd.func117 rfl (by decide) rfl (P := Tryd.prog) (h := mkHints tab) (k := k) (args := [x0, x1]) (H := H)
  rw [show (mkHints tab).slots 117 = 0 from rfl, show (List.replicate 0 AObj.slot) = [] from rfl, List.append_nil] at h
  exact h
theorem fsl117_8_3 : fslotB tab.fslots 117 8 3 = [] := by rfl
theorem kb117_8_3 : keepB tab.keeps 117 8 3 = false := by rfl
theorem dr117_2 : drawFact Tryd.f117 2 [0, 0, 3, 7, 15, 31, 0, 0, 128, 448, 960, 1984, 4095, 8191] = true := by kernel_rfl
theorem dr117_3 : drawFact Tryd.f117 3 [0, 0, 0, 4, 14, 30, 62, 127, 0, 0, 0, 1024, 3584, 7680, 15872, 32512, 255, 131071] = true := by kernel_rfl
theorem dr117_4 : drawFact Tryd.f117 4 [0, 1, 3, 7, 15, 15, 15, 79, 239, 495, 1007, 2047, 15, 4111, 15, 15, 32783, 114703, 245775, 507919, 1044495, 2097151, 4194303] = true := by kernel_rfl
theorem ev118 (k : Nat) (x0 x1 : AV) (H : Heap) : evalT Tryd.prog (mkHints tab) (k + 1) (.fn 118) [x0, x1] H = trimO H.length (finishO Tryd.prog Tryd.f118.results.toList (evalCode Tryd.prog (cxG Tryd.prog (mkHints tab) k 118 none) (Tryd.f118.body.getD .skip) (fillArgs (fr 62 []) 0 [x0, x1]) H)) := by
  have h := evalT_fn 62 Tryd.func118 rfl (by decide) rfl (P := Tryd.prog) (h := mkHints tab) (k := k) (args := [x0, x1]) (H := H)
  rw [show (mkHints tab).slots 118 = 0 from rfl, show (List.replicate 0 AObj.slot) = [] from rfl, List.append_nil] at h
  exact h
theorem fsl118_3_1 : fslotB tab.fslots 118 3 1 = [] := by rfl
theorem kb118_3_1 : keepB tab.keeps 118 3 1 = false := by rfl
theorem sb118_8_2 : slotB tab.slots 118 8 2 = none := by rfl
theorem fsl118_17_1 : fslotB tab.fslots 118 17 1 = [] := by rfl
theorem kb118_17_1 : keepB tab.keeps 118 17 1 = false := by rfl
theorem ev122 (k : Nat) (x0 : AV) (H : Heap) : evalT Tryd.prog (mkHints tab) (k + 1) (.fn 122) [x0] H = trimO H.length (finishO Tryd.prog Tryd.f122.results.toList (evalCode Tryd.prog (cxG Tryd.prog (mkHints tab) k 122 none) (Tryd.f122.body.getD .skip) (fillArgs (fr 19 []) 0 [x0]) H)) := by
  have h := evalT_fn 19 Tryd.func122 rfl (by decide) rfl (P := Tryd.prog) (h := mkHints tab) (k := k) (args := [x0]) (H := H)
  rw [show (mkHints tab).slots 122 = 0 from rfl, show (List.replicate 0 AObj.slot) = [] from rfl, List.append_nil] at h
  exact h
theorem cv117_5 (k : IntKind) (n : Int) : convA Tryd.prog 117 5 (.c (.int k n)) = some (.c (.int .u8 (IntKind.wrap .u8 n))) := by kernel_rfl
theorem ev123 (k : Nat) (x0 x1 x2 : AV) (H : Heap) : evalT Tryd.prog (mkHints tab) (k + 1) (.fn 123) [x0, x1, x2] H = trimO H.length (finishO Tryd.prog Tryd.f123.results.toList (evalCode Tryd.prog (cxG Tryd.prog (mkHints tab) k 123 none) (Tryd.f123.body.getD .skip) (fillArgs (fr 52 []) 0 [x0, x1, x2]) H)) := by
  have h := evalT_fn 52 Tryd.func123 rfl (by decide) rfl (P := Tryd.prog) (h := mkHints tab) (k := k) (args := [x0, x1, x2]) (H := H)
  rw [show (mkHints tab).slots 123 = 0 from rfl, show (List.replicate 0 AObj.slot) = [] from rfl, List.append_nil] at h
  exact h
theorem lbe14_4 (cx : Cx) (F : Fr) (H : Heap) : evalCode Tryd.prog cx LB14_4 F H = evalCode Tryd.prog cx (loopOf Tryd.f14 4) F H := rfl
theorem lbe14_9 (cx : Cx) (F : Fr) (H : Heap) : evalCode Tryd.prog cx LB14_9 F H = evalCode Tryd.prog cx (loopOf Tryd.f14 9) F H := rfl
theorem lbe16_6 (cx : Cx) (F : Fr) (H : Heap) : evalCode Tryd.prog cx LB16_6 F H = evalCode Tryd.prog cx (loopOf Tryd.f16 6) F H := rfl
theorem lbe16_9 (cx : Cx) (F : Fr) (H : Heap) : evalCode Tryd.prog cx LB16_9 F H = evalCode Tryd.prog cx (loopOf Tryd.f16 9) F H := rfl
theorem lbe23_4 (cx : Cx) (F : Fr) (H : Heap) : evalCode Tryd.prog cx LB23_4 F H = evalCode Tryd.prog cx (loopOf Tryd.f23 4) F H := rfl
theorem lbe23_10 (cx : Cx) (F : Fr) (H : Heap) : evalCode Tryd.prog cx LB23_10 F H = evalCode Tryd.prog cx (loopOf Tryd.f23 10) F H := rfl
theorem lbe24_11 (cx : Cx) (F : Fr) (H : Heap) : evalCode Tryd.prog cx LB24_11 F H = evalCode Tryd.prog cx (loopOf Tryd.f24 11) F H := rfl
theorem lbe25_3 (cx : Cx) (F : Fr) (H : Heap) : evalCode Tryd.prog cx LB25_3 F H = evalCode Tryd.prog cx (loopOf Tryd.f25 3) F H := rfl
theorem lbe27_4 (cx : Cx) (F : Fr) (H : Heap) : evalCode Tryd.prog cx LB27_4 F H = evalCode Tryd.prog cx (loopOf Tryd.f27 4) F H := rfl
theorem lbe50_4 (cx : Cx) (F : Fr) (H : Heap) : evalCode Tryd.prog cx LB50_4 F H = evalCode Tryd.prog cx (loopOf Tryd.f50 4) F H := rfl
theorem lbe52_2 (cx : Cx) (F : Fr) (H : Heap) : evalCode Tryd.prog cx LB52_2 F H = evalCode Tryd.prog cx (loopOf Tryd.f52 2) F H := rfl
theorem lbe56_4 (cx : Cx) (F : Fr) (H : Heap) : evalCode Tryd.prog cx LB56_4 F H = evalCode Tryd.prog cx (loopOf Tryd.f56 4) F H := rfl
theorem lbe85_7 (cx : Cx) (F : Fr) (H : Heap) : evalCode Tryd.prog cx LB85_7 F H = evalCode Tryd.prog cx (loopOf Tryd.f85 7) F H := rfl
theorem lbe100_6 (cx : Cx) (F : Fr) (H : Heap) : evalCode Tryd.prog cx LB100_6 F H = evalCode Tryd.prog cx (loopOf Tryd.f100 6) F H := rfl
theorem lbe101_6 (cx : Cx) (F : Fr) (H : Heap) : evalCode Tryd.prog cx LB101_6 F H = evalCode Tryd.prog cx (loopOf Tryd.f101 6) F H := rfl
theorem lbe102_3 (cx : Cx) (F : Fr) (H : Heap) : evalCode Tryd.prog cx LB102_3 F H = evalCode Tryd.prog cx (loopOf Tryd.f102 3) F H := rfl
theorem lbe102_7 (cx : Cx) (F : Fr) (H : Heap) : evalCode Tryd.prog cx LB102_7 F H = evalCode Tryd.prog cx (loopOf Tryd.f102 7) F H := rfl
theorem lbe103_16 (cx : Cx) (F : Fr) (H : Heap) : evalCode Tryd.prog cx LB103_16 F H = evalCode Tryd.prog cx (loopOf Tryd.f103 16) F H := rfl
theorem lbe106_2 (cx : Cx) (F : Fr) (H : Heap) : evalCode Tryd.prog cx LB106_2 F H = evalCode Tryd.prog cx (loopOf Tryd.f106 2) F H := rfl
theorem lbe114_6 (cx : Cx) (F : Fr) (H : Heap) : evalCode Tryd.prog cx LB114_6 F H = evalCode Tryd.prog cx (loopOf Tryd.f114 6) F H := rfl
theorem lbe116_8 (cx : Cx) (F : Fr) (H : Heap) : evalCode Tryd.prog cx LB116_8 F H = evalCode Tryd.prog cx (loopOf Tryd.f116 8) F H := rfl
theorem lbe117_4 (cx : Cx) (F : Fr) (H : Heap) : evalCode Tryd.prog cx LB117_4 F H = evalCode Tryd.prog cx (loopOf Tryd.f117 4) F H := rfl
theorem lbe117_13 (cx : Cx) (F : Fr) (H : Heap) : evalCode Tryd.prog cx LB117_13 F H = evalCode Tryd.prog cx (loopOf Tryd.f117 13) F H := rfl
theorem lbe118_10 (cx : Cx) (F : Fr) (H : Heap) : evalCode Tryd.prog cx LB118_10 F H = evalCode Tryd.prog cx (loopOf Tryd.f118 10) F H := rfl
theorem lbe123_3 (cx : Cx) (F : Fr) (H : Heap) : evalCode Tryd.prog cx LB123_3 F H = evalCode Tryd.prog cx (loopOf Tryd.f123 3) F H := rfl
theorem FACTS : type_of% (And.intro (J (J (J @fb4 @fb16 @fb21 @fb22 @fb23 @fb24 @fb25 @fb26) (J @fb27 @fb37 @fb38 @fb39 @fb14 @fb48 @fb49 @fb50) (J @fb51 @fb52 @fb53 @fb54 @fb55 @fb56 @fb57 @fb65) (J @fb66 @fb67 @fb73 @fb35 @fb74 @fb75 @fb76 @fb77) (J @fb78 @fb79 @fb80 @fb81 @fb84 @fb58 @fb87 @fb88) (J @fb98 @fb99 @fb85 @fb100 @fb101 @fb102 @fb82 @fb83) (J @fb105 @fb107 @fb108 @fb113 @fb106 @fb103 @fb104 @fb116) (J @fb114 @fb115 @fb117 @fb118 @fb122 @fb123 @fsl4_1_0 @kb4_1_0)) (J (J @fsl4_3_1 @kb4_3_1 @fsl4_5_1 @kb4_5_1 @sb4_5_5 @fsl4_7_1 @kb4_7_1 @fsl4_9_2) (J @kb4_9_2 @fsl4_9_3 @kb4_9_3 @fsl4_10_2 @kb4_10_2 @fsl4_10_3 @kb4_10_3 @fsl4_11_1) (J @kb4_11_1 @fsl4_12_6 @kb4_12_6 @fsl4_12_31 @kb4_12_31 @ldp25 @ldi25 @lde25) (J @ln44 @lnv44 @lnh44 @al25 @fa25_0 @ldp3 @ldi3 @lde3) (J @fa25_1 @fa25_3 @ldp23 @ldi23 @lde23 @sb16_0_1 @fsl16_1_1 @kb16_1_1) (J @sb16_7_2 @fsl16_8_1 @kb16_8_1 @sb16_8_2 @fsl16_11_7 @kb16_11_7 @sb16_11_11 @sb16_15_3) (J @fsl16_17_7 @kb16_17_7 @bd25_ @fa25_2 @ldp22 @ldi22 @lde22 @ln22) (J @lnv22 @lnh22 @ia22 @iah22 @ldp61 @ldi61 @lde61 @al61)) (J (J @fa61_0 @fa61_1 @fa61_2 @sl22 @bs22_1_0 @ap22 @bd25_0_1_2_3_h1 @bd25_0_1_2_3_h2) (J @bd25_0_1_2_3_h3 @bd25_0_1_2_3 @fsl21_1_0 @kb21_1_0 @fsl21_1_1 @kb21_1_1 @fsl21_1_2 @kb21_1_2) (J @fsl21_1_3 @kb21_1_3 @sb21_1_7 @fsl21_2_1 @kb21_2_1 @sb21_2_5 @fsl21_3_0 @kb21_3_0) (J @fsl21_3_1 @kb21_3_1 @sb21_3_5 @fsl21_4_4 @kb21_4_4 @fsl21_4_8 @kb21_4_8 @fsl21_4_15) (J @kb21_4_15 @bs22_4_0_1_2_3 @bs23_1_0 @eq61 @sb23_11_3 @fsl23_12_3 @kb23_12_3 @ln23) (J @lnv23 @lnh23 @ia23 @iah23 @fsl24_1_3 @kb24_1_3 @sb24_4_2 @fsl24_6_0) (J @kb24_6_0 @fsl24_6_3 @kb24_6_3 @sb24_13_6 @ln47 @lnv47 @lnh47 @ms47) (J @cp47 @ia47 @iah47 @ldp104 @ldi104 @lde104 @bs47_1_0 @ap47)) (J (J @fsl25_5_2 @kb25_5_2 @sb25_5_4 @ia44 @iah44 @ldp2 @ldi2 @lde2) (J @fsl26_1_2 @kb26_1_2 @sb37_0_1 @fsl37_1_2 @kb37_1_2 @fsl37_5_4 @kb37_5_4 @fsl37_9_4) (J @kb37_9_4 @fsl37_11_4 @kb37_11_4 @fsl37_13_5 @kb37_13_5 @fsl37_15_5 @kb37_15_5 @fa61_4) (J @fa61_3 @sb38_0_2 @fsl38_3_8 @kb38_3_8 @fsl38_6_6 @kb38_6_6 @fsl38_6_7 @kb38_6_7) (J @bd61_ @sb39_3_2 @eqs23 @bs23_0_ @ap23 @ne61 @sb48_0_0 @bd61_0_1_2_4) (J @sb49_0_1 @fsl49_1_1 @kb49_1_1 @fsl49_3_1 @kb49_3_1 @sb49_3_2 @fsl50_1_22 @kb50_1_22) (J @fsl50_1_32 @kb50_1_32 @fsl50_3_1 @kb50_3_1 @fsl51_1_1 @kb51_1_1 @sb52_3_3 @fsl52_4_3) (J @kb52_4_3 @sb52_4_7 @fsl52_8_3 @kb52_8_3 @ldp109 @ldi109 @lde109 @al104)) (J (J @sb53_0_0 @al109 @bd109_0_1_2_3_4 @sb55_0_0 @fsl55_4_8 @kb55_4_8 @cv2_116 @cv116_117) (J @bs56_2_0_1 @sb56_5_3 @sb56_6_4 @fsl56_7_3 @kb56_7_3 @fsl57_1_2 @kb57_1_2 @fsl65_3_2) (J @kb65_3_2 @cv3_145 @sb66_0_0 @fsl67_16_6 @kb67_16_6 @fsl67_25_6 @kb67_25_6 @fsl73_1_4) (J @kb73_1_4 @bs23_2_0_1 @sb76_0_2 @sb76_1_10 @sb76_1_11 @fsl76_4_3 @kb76_4_3 @fsl76_6_4) (J @kb76_6_4 @fsl76_8_4 @kb76_8_4 @fsl76_10_5 @kb76_10_5 @fsl76_10_6 @kb76_10_6 @fsl76_12_5) (J @kb76_12_5 @fsl76_12_6 @kb76_12_6 @fsl76_14_5 @kb76_14_5 @fsl76_14_6 @kb76_14_6 @fsl76_16_5) (J @kb76_16_5 @fsl76_16_6 @kb76_16_6 @fa109_0 @ldp105 @ldi105 @lde105 @fa109_1) (J @ldp106 @ldi106 @lde106 @fa109_2 @fa109_3 @fa109_4 @ldp107 @ldi107)) (J (J @lde107 @sb77_0_1 @fsl77_1_5 @kb77_1_5 @fa104_0 @ldp4 @ldi4 @lde4) (J @fa104_1 @ldp56 @ldi56 @lde56 @sb78_0_2 @fsl78_2_6 @kb78_2_6 @fsl78_2_7) (J @kb78_2_7 @fsl78_3_4 @kb78_3_4 @fsl78_5_4 @kb78_5_4 @fsl78_6_3 @kb78_6_3 @eqb4) (J @sb79_0_2 @fsl79_1_2 @kb79_1_2 @fsl79_1_3 @kb79_1_3 @sb80_0_2 @fsl80_1_9 @kb80_1_9) (J @fsl80_1_10 @kb80_1_10 @neb4 @sb81_0_2 @fsl81_1_2 @kb81_1_2 @sb81_1_7 @sb81_1_8) (J @fsl81_2_2 @kb81_2_2 @sb84_0_0 @fsl84_1_2 @kb84_1_2 @fsl84_1_3 @kb84_1_3 @fsl58_2_4) (J @kb58_2_4 @fsl58_7_4 @kb58_7_4 @fsl87_1_2 @kb87_1_2 @fsl87_2_1 @kb87_2_1 @cv145_117) (J @sb98_0_0 @fsl98_1_0 @kb98_1_0 @fsl98_1_2 @kb98_1_2 @sb98_1_6 @sb99_0_0 @ln56)) (J (J @lnv56 @lnh56 @bd104_0_1_h1 @bd104_0_1 @fsl85_1_1 @kb85_1_1 @fsl85_1_3 @kb85_1_3) (J @ia56 @iah56 @ldp117 @ldi117 @lde117 @sb100_3_3 @fsl100_15_1 @kb100_15_1) (J @ms56 @cv117_116 @fsl101_1_2 @kb101_1_2 @sb101_3_2 @fsl101_15_1 @kb101_15_1 @sb102_1_5) (J @fsl102_15_1 @kb102_15_1 @sb82_0_2 @sb82_0_3 @fsl82_1_4 @kb82_1_4 @fsl82_4_6 @kb82_4_6) (J @fsl82_4_10 @kb82_4_10 @sb82_4_11 @sb82_4_12 @fsl82_6_2 @kb82_6_2 @fsl82_6_3 @kb82_6_3) (J @fsl82_7_2 @kb82_7_2 @fsl82_7_3 @kb82_7_3 @fsl82_7_4 @kb82_7_4 @bd104_ @fsl105_1_1) (J @kb105_1_1 @sb105_2_2 @cp56 @iaa174 @ldp5 @ldi5 @lde5 @cv5_3) (J @iaa175 @sb113_0_1 @fsl113_1_3 @kb113_1_3 @fsl113_4_3 @kb113_4_3 @sm56 @fsl103_1_1)) (J (J @kb103_1_1 @fsl103_4_2 @kb103_4_2 @fsl103_5_1 @kb103_5_1 @fsl103_7_4 @kb103_7_4 @fsl103_8_3) (J @kb103_8_3 @fsl103_9_6 @kb103_9_6 @fsl103_10_2 @kb103_10_2 @fsl103_11_2 @kb103_11_2 @sb103_12_2) (J @sb103_14_4 @fsl103_18_10 @kb103_18_10 @fsl103_19_2 @kb103_19_2 @fsl103_20_1 @kb103_20_1 @bs56_1_0) (J @ap56 @sl56 @sb104_0_1 @fsl104_1_2 @kb104_1_2 @sb116_5_6 @fsl116_14_1 @kb116_14_1) (J @sb114_3_2 @fsl114_11_1 @kb114_11_1 @fsl115_1_1 @kb115_1_1 @fsl117_8_3 @kb117_8_3 @fsl118_3_1) (J @kb118_3_1 @sb118_8_2 @fsl118_17_1 @kb118_17_1 @cv117_5 @lbe14_4 @lbe14_9 @lbe16_6) (J @lbe16_9 @lbe23_4 @lbe23_10 @lbe24_11 @lbe25_3 @lbe27_4 @lbe50_4 @lbe52_2) (J @lbe56_4 @lbe85_7 @lbe100_6 @lbe101_6 @lbe102_3 @lbe102_7 @lbe103_16 @lbe106_2))) (And.intro @lbe114_6 (And.intro @lbe116_8 (And.intro @lbe117_4 (And.intro @lbe117_13 (And.intro @lbe118_10 @lbe123_3)))))) :=
  (And.intro (J (J (J @fb4 @fb16 @fb21 @fb22 @fb23 @fb24 @fb25 @fb26) (J @fb27 @fb37 @fb38 @fb39 @fb14 @fb48 @fb49 @fb50) (J @fb51 @fb52 @fb53 @fb54 @fb55 @fb56 @fb57 @fb65) (J @fb66 @fb67 @fb73 @fb35 @fb74 @fb75 @fb76 @fb77) (J @fb78 @fb79 @fb80 @fb81 @fb84 @fb58 @fb87 @fb88) (J @fb98 @fb99 @fb85 @fb100 @fb101 @fb102 @fb82 @fb83) (J @fb105 @fb107 @fb108 @fb113 @fb106 @fb103 @fb104 @fb116) (J @fb114 @fb115 @fb117 @fb118 @fb122 @fb123 @fsl4_1_0 @kb4_1_0)) (J (J @fsl4_3_1 @kb4_3_1 @fsl4_5_1 @kb4_5_1 @sb4_5_5 @fsl4_7_1 @kb4_7_1 @fsl4_9_2) (J @kb4_9_2 @fsl4_9_3 @kb4_9_3 @fsl4_10_2 @kb4_10_2 @fsl4_10_3 @kb4_10_3 @fsl4_11_1) (J @kb4_11_1 @fsl4_12_6 @kb4_12_6 @fsl4_12_31 @kb4_12_31 @ldp25 @ldi25 @lde25) (J @ln44 @lnv44 @lnh44 @al25 @fa25_0 @ldp3 @ldi3 @lde3) (J @fa25_1 @fa25_3 @ldp23 @ldi23 @lde23 @sb16_0_1 @fsl16_1_1 @kb16_1_1) (J @sb16_7_2 @fsl16_8_1 @kb16_8_1 @sb16_8_2 @fsl16_11_7 @kb16_11_7 @sb16_11_11 @sb16_15_3) (J @fsl16_17_7 @kb16_17_7 @bd25_ @fa25_2 @ldp22 @ldi22 @lde22 @ln22) (J @lnv22 @lnh22 @ia22 @iah22 @ldp61 @ldi61 @lde61 @al61)) (J (J @fa61_0 @fa61_1 @fa61_2 @sl22 @bs22_1_0 @ap22 @bd25_0_1_2_3_h1 @bd25_0_1_2_3_h2) (J @bd25_0_1_2_3_h3 @bd25_0_1_2_3 @fsl21_1_0 @kb21_1_0 @fsl21_1_1 @kb21_1_1 @fsl21_1_2 @kb21_1_2) (J @fsl21_1_3 @kb21_1_3 @sb21_1_7 @fsl21_2_1 @kb21_2_1 @sb21_2_5 @fsl21_3_0 @kb21_3_0) (J @fsl21_3_1 @kb21_3_1 @sb21_3_5 @fsl21_4_4 @kb21_4_4 @fsl21_4_8 @kb21_4_8 @fsl21_4_15) (J @kb21_4_15 @bs22_4_0_1_2_3 @bs23_1_0 @eq61 @sb23_11_3 @fsl23_12_3 @kb23_12_3 @ln23) (J @lnv23 @lnh23 @ia23 @iah23 @fsl24_1_3 @kb24_1_3 @sb24_4_2 @fsl24_6_0) (J @kb24_6_0 @fsl24_6_3 @kb24_6_3 @sb24_13_6 @ln47 @lnv47 @lnh47 @ms47) (J @cp47 @ia47 @iah47 @ldp104 @ldi104 @lde104 @bs47_1_0 @ap47)) (J (J @fsl25_5_2 @kb25_5_2 @sb25_5_4 @ia44 @iah44 @ldp2 @ldi2 @lde2) (J @fsl26_1_2 @kb26_1_2 @sb37_0_1 @fsl37_1_2 @kb37_1_2 @fsl37_5_4 @kb37_5_4 @fsl37_9_4) (J @kb37_9_4 @fsl37_11_4 @kb37_11_4 @fsl37_13_5 @kb37_13_5 @fsl37_15_5 @kb37_15_5 @fa61_4) (J @fa61_3 @sb38_0_2 @fsl38_3_8 @kb38_3_8 @fsl38_6_6 @kb38_6_6 @fsl38_6_7 @kb38_6_7) (J @bd61_ @sb39_3_2 @eqs23 @bs23_0_ @ap23 @ne61 @sb48_0_0 @bd61_0_1_2_4) (J @sb49_0_1 @fsl49_1_1 @kb49_1_1 @fsl49_3_1 @kb49_3_1 @sb49_3_2 @fsl50_1_22 @kb50_1_22) (J @fsl50_1_32 @kb50_1_32 @fsl50_3_1 @kb50_3_1 @fsl51_1_1 @kb51_1_1 @sb52_3_3 @fsl52_4_3) (J @kb52_4_3 @sb52_4_7 @fsl52_8_3 @kb52_8_3 @ldp109 @ldi109 @lde109 @al104)) (J (J @sb53_0_0 @al109 @bd109_0_1_2_3_4 @sb55_0_0 @fsl55_4_8 @kb55_4_8 @cv2_116 @cv116_117) (J @bs56_2_0_1 @sb56_5_3 @sb56_6_4 @fsl56_7_3 @kb56_7_3 @fsl57_1_2 @kb57_1_2 @fsl65_3_2) (J @kb65_3_2 @cv3_145 @sb66_0_0 @fsl67_16_6 @kb67_16_6 @fsl67_25_6 @kb67_25_6 @fsl73_1_4) (J @kb73_1_4 @bs23_2_0_1 @sb76_0_2 @sb76_1_10 @sb76_1_11 @fsl76_4_3 @kb76_4_3 @fsl76_6_4) (J @kb76_6_4 @fsl76_8_4 @kb76_8_4 @fsl76_10_5 @kb76_10_5 @fsl76_10_6 @kb76_10_6 @fsl76_12_5) (J @kb76_12_5 @fsl76_12_6 @kb76_12_6 @fsl76_14_5 @kb76_14_5 @fsl76_14_6 @kb76_14_6 @fsl76_16_5) (J @kb76_16_5 @fsl76_16_6 @kb76_16_6 @fa109_0 @ldp105 @ldi105 @lde105 @fa109_1) (J @ldp106 @ldi106 @lde106 @fa109_2 @fa109_3 @fa109_4 @ldp107 @ldi107)) (J (J @lde107 @sb77_0_1 @fsl77_1_5 @kb77_1_5 @fa104_0 @ldp4 @ldi4 @lde4) (J @fa104_1 @ldp56 @ldi56 @lde56 @sb78_0_2 @fsl78_2_6 @kb78_2_6 @fsl78_2_7) (J @kb78_2_7 @fsl78_3_4 @kb78_3_4 @fsl78_5_4 @kb78_5_4 @fsl78_6_3 @kb78_6_3 @eqb4) (J @sb79_0_2 @fsl79_1_2 @kb79_1_2 @fsl79_1_3 @kb79_1_3 @sb80_0_2 @fsl80_1_9 @kb80_1_9) (J @fsl80_1_10 @kb80_1_10 @neb4 @sb81_0_2 @fsl81_1_2 @kb81_1_2 @sb81_1_7 @sb81_1_8) (J @fsl81_2_2 @kb81_2_2 @sb84_0_0 @fsl84_1_2 @kb84_1_2 @fsl84_1_3 @kb84_1_3 @fsl58_2_4) (J @kb58_2_4 @fsl58_7_4 @kb58_7_4 @fsl87_1_2 @kb87_1_2 @fsl87_2_1 @kb87_2_1 @cv145_117) (J @sb98_0_0 @fsl98_1_0 @kb98_1_0 @fsl98_1_2 @kb98_1_2 @sb98_1_6 @sb99_0_0 @ln56)) (J (J @lnv56 @lnh56 @bd104_0_1_h1 @bd104_0_1 @fsl85_1_1 @kb85_1_1 @fsl85_1_3 @kb85_1_3) (J @ia56 @iah56 @ldp117 @ldi117 @lde117 @sb100_3_3 @fsl100_15_1 @kb100_15_1) (J @ms56 @cv117_116 @fsl101_1_2 @kb101_1_2 @sb101_3_2 @fsl101_15_1 @kb101_15_1 @sb102_1_5) (J @fsl102_15_1 @kb102_15_1 @sb82_0_2 @sb82_0_3 @fsl82_1_4 @kb82_1_4 @fsl82_4_6 @kb82_4_6) (J @fsl82_4_10 @kb82_4_10 @sb82_4_11 @sb82_4_12 @fsl82_6_2 @kb82_6_2 @fsl82_6_3 @kb82_6_3) (J @fsl82_7_2 @kb82_7_2 @fsl82_7_3 @kb82_7_3 @fsl82_7_4 @kb82_7_4 @bd104_ @fsl105_1_1) (J @kb105_1_1 @sb105_2_2 @cp56 @iaa174 @ldp5 @ldi5 @lde5 @cv5_3) (J @iaa175 @sb113_0_1 @fsl113_1_3 @kb113_1_3 @fsl113_4_3 @kb113_4_3 @sm56 @fsl103_1_1)) (J (J @kb103_1_1 @fsl103_4_2 @kb103_4_2 @fsl103_5_1 @kb103_5_1 @fsl103_7_4 @kb103_7_4 @fsl103_8_3) (J @kb103_8_3 @fsl103_9_6 @kb103_9_6 @fsl103_10_2 @kb103_10_2 @fsl103_11_2 @kb103_11_2 @sb103_12_2) (J @sb103_14_4 @fsl103_18_10 @kb103_18_10 @fsl103_19_2 @kb103_19_2 @fsl103_20_1 @kb103_20_1 @bs56_1_0) (J @ap56 @sl56 @sb104_0_1 @fsl104_1_2 @kb104_1_2 @sb116_5_6 @fsl116_14_1 @kb116_14_1) (J @sb114_3_2 @fsl114_11_1 @kb114_11_1 @fsl115_1_1 @kb115_1_1 @fsl117_8_3 @kb117_8_3 @fsl118_3_1) (J @kb118_3_1 @sb118_8_2 @fsl118_17_1 @kb118_17_1 @cv117_5 @lbe14_4 @lbe14_9 @lbe16_6) (J @lbe16_9 @lbe23_4 @lbe23_10 @lbe24_11 @lbe25_3 @lbe27_4 @lbe50_4 @lbe52_2) (J @lbe56_4 @lbe85_7 @lbe100_6 @lbe101_6 @lbe102_3 @lbe102_7 @lbe103_16 @lbe106_2))) (And.intro @lbe114_6 (And.intro @lbe116_8 (And.intro @lbe117_4 (And.intro @lbe117_13 (And.intro @lbe118_10 @lbe123_3))))))
theorem TYPES : type_of% (And.intro (J @ag25 @sz25 @ag3 @sz3 @ag23 @sz23 @ag22 @sz22) (And.intro (J @ag61 @sz61 @ag104 @sz104 @ag2 @sz2 @ag109 @sz109) (And.intro (J @ag105 @sz105 @ag106 @sz106 @ag107 @sz107 @ag4 @sz4) (And.intro @ag56 (And.intro @sz56 (And.intro @ag117 (And.intro @sz117 (And.intro @ag5 @sz5)))))))) :=
  (And.intro (J @ag25 @sz25 @ag3 @sz3 @ag23 @sz23 @ag22 @sz22) (And.intro (J @ag61 @sz61 @ag104 @sz104 @ag2 @sz2 @ag109 @sz109) (And.intro (J @ag105 @sz105 @ag106 @sz106 @ag107 @sz107 @ag4 @sz4) (And.intro @ag56 (And.intro @sz56 (And.intro @ag117 (And.intro @sz117 (And.intro @ag5 @sz5))))))))
theorem FT : type_of% (And.intro @EVb (And.intro @EVc (And.intro @FACTS @TYPES))) :=
  (And.intro @EVb (And.intro @EVc (And.intro @FACTS @TYPES)))
end Go.Proofs.Sw
