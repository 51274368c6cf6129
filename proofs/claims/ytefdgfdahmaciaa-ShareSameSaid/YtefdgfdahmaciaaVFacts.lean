/- A part of the proof: what functions of the program answer; conditions stand in each theorem. -/
import Derived.Test.YtefdgfdahmaciaaProg
import Derived.Test.YtefdgfdahmaciaaAbSim
import Derived.WalkKit
set_option linter.unusedVariables false
set_option linter.unusedSimpArgs false
set_option linter.unusedSectionVars false
namespace Go.Proofs.Sw
open Go.Ab
variable [Globals]
def tab : Tab := ⟨[(16, 7, 106, [1, 2, 6, 7, 32, 33, 34]), (16, 19, 106, [2, 6, 7, 84, 85, 86]), (21, 3, 22, [1, 3, 4]), (55, 11, 49, [8, 10, 34, 35, 36]), (56, 3, 19, [3, 6, 7, 8]), (57, 3, 48, [1, 2, 3, 4]), (62, 4, 72, [1, 42, 43, 44]), (62, 10, 72, [1, 58, 59, 60]), (63, 3, 32, [1, 3, 13, 14]), (66, 2, 22, [1, 10, 11, 12]), (67, 4, 79, [1, 4]), (67, 9, 79, [1, 5]), (92, 2, 42, [2, 3, 4, 14, 15, 16]), (96, 6, 37, [1, 20, 21, 22]), (100, 4, 57, [1, 43, 44, 45]), (122, 7, 49, [0, 1, 5]), (131, 6, 58, [0, 1, 5, 6, 20, 21, 22]), (132, 6, 53, [1, 6, 7, 19, 20, 21]), (133, 3, 67, [1, 5, 17, 18, 19]), (133, 7, 67, [1, 5, 6, 7, 8, 17, 18, 19, 24, 25, 26]), (134, 16, 106, [10, 11, 13, 15, 16, 17]), (137, 2, 22, [0, 3]), (142, 6, 46, [0, 1, 7, 8, 9]), (144, 8, 62, [1, 6, 7, 24, 25, 26]), (145, 4, 119, [0, 1, 5, 7, 8]), (145, 13, 119, [0, 1, 5, 7, 9, 88, 89]), (146, 10, 62, [0, 6, 7, 29, 30, 31]), (153, 3, 52, [0, 1, 2, 7, 8, 12, 13])], [(7, 6, 1), (30, 11, 7), (3, 6, 1), (3, 13, 1), (10, 6, 1), (10, 24, 1), (10, 18, 1), (149, 26, 2), (1000149, 26, 3), (12, 10, 1)], [(11, 11, 4, 0), (11, 11, 5, 1), (16, 15, 4, 0), (16, 21, 12, 1), (55, 13, 6, 0), (56, 5, 4, 0), (63, 5, 10, 0), (113, 1, 10, 1), (113, 1, 11, 2), (119, 4, 11, 0), (119, 4, 12, 1), (134, 12, 2, 0)], [(11, 2), (16, 2), (55, 1), (56, 1), (63, 1), (113, 2), (119, 2), (134, 1)], [27, 28, 54, 63, 64, 65, 66, 68, 71, 82, 83, 84, 92, 101, 113, 145, 153], [(5, 21, 7, [1]), (19, 7, 3, [2]), (44, 8, 9, [2])], [], [(3, 18), (3, 22), (54, 3), (54, 7)], [(51, 13, [5])]⟩
theorem lp16_7 : (tab.loops.find? fun e => e.1 == 16 && e.2.1 == 7) = some (16, 7, 106, [1, 2, 6, 7, 32, 33, 34]) := by rfl
noncomputable def LB16_7 : Code := loopOf Try.f16 7
theorem lp16_19 : (tab.loops.find? fun e => e.1 == 16 && e.2.1 == 19) = some (16, 19, 106, [2, 6, 7, 84, 85, 86]) := by rfl
noncomputable def LB16_19 : Code := loopOf Try.f16 19
theorem lp21_3 : (tab.loops.find? fun e => e.1 == 21 && e.2.1 == 3) = some (21, 3, 22, [1, 3, 4]) := by rfl
noncomputable def LB21_3 : Code := loopOf Try.f21 3
theorem lp55_11 : (tab.loops.find? fun e => e.1 == 55 && e.2.1 == 11) = some (55, 11, 49, [8, 10, 34, 35, 36]) := by rfl
noncomputable def LB55_11 : Code := loopOf Try.f55 11
theorem lp56_3 : (tab.loops.find? fun e => e.1 == 56 && e.2.1 == 3) = some (56, 3, 19, [3, 6, 7, 8]) := by rfl
noncomputable def LB56_3 : Code := loopOf Try.f56 3
theorem lp57_3 : (tab.loops.find? fun e => e.1 == 57 && e.2.1 == 3) = some (57, 3, 48, [1, 2, 3, 4]) := by rfl
noncomputable def LB57_3 : Code := loopOf Try.f57 3
theorem lp62_4 : (tab.loops.find? fun e => e.1 == 62 && e.2.1 == 4) = some (62, 4, 72, [1, 42, 43, 44]) := by rfl
noncomputable def LB62_4 : Code := loopOf Try.f62 4
theorem lp62_10 : (tab.loops.find? fun e => e.1 == 62 && e.2.1 == 10) = some (62, 10, 72, [1, 58, 59, 60]) := by rfl
noncomputable def LB62_10 : Code := loopOf Try.f62 10
theorem lp63_3 : (tab.loops.find? fun e => e.1 == 63 && e.2.1 == 3) = some (63, 3, 32, [1, 3, 13, 14]) := by rfl
noncomputable def LB63_3 : Code := loopOf Try.f63 3
theorem lp66_2 : (tab.loops.find? fun e => e.1 == 66 && e.2.1 == 2) = some (66, 2, 22, [1, 10, 11, 12]) := by rfl
noncomputable def LB66_2 : Code := loopOf Try.f66 2
theorem lp67_4 : (tab.loops.find? fun e => e.1 == 67 && e.2.1 == 4) = some (67, 4, 79, [1, 4]) := by rfl
noncomputable def LB67_4 : Code := loopOf Try.f67 4
theorem lp67_9 : (tab.loops.find? fun e => e.1 == 67 && e.2.1 == 9) = some (67, 9, 79, [1, 5]) := by rfl
noncomputable def LB67_9 : Code := loopOf Try.f67 9
theorem lp92_2 : (tab.loops.find? fun e => e.1 == 92 && e.2.1 == 2) = some (92, 2, 42, [2, 3, 4, 14, 15, 16]) := by rfl
noncomputable def LB92_2 : Code := loopOf Try.f92 2
theorem lp96_6 : (tab.loops.find? fun e => e.1 == 96 && e.2.1 == 6) = some (96, 6, 37, [1, 20, 21, 22]) := by rfl
noncomputable def LB96_6 : Code := loopOf Try.f96 6
theorem lp100_4 : (tab.loops.find? fun e => e.1 == 100 && e.2.1 == 4) = some (100, 4, 57, [1, 43, 44, 45]) := by rfl
noncomputable def LB100_4 : Code := loopOf Try.f100 4
theorem lp122_7 : (tab.loops.find? fun e => e.1 == 122 && e.2.1 == 7) = some (122, 7, 49, [0, 1, 5]) := by rfl
noncomputable def LB122_7 : Code := loopOf Try.f122 7
theorem lp131_6 : (tab.loops.find? fun e => e.1 == 131 && e.2.1 == 6) = some (131, 6, 58, [0, 1, 5, 6, 20, 21, 22]) := by rfl
noncomputable def LB131_6 : Code := loopOf Try.f131 6
theorem lp132_6 : (tab.loops.find? fun e => e.1 == 132 && e.2.1 == 6) = some (132, 6, 53, [1, 6, 7, 19, 20, 21]) := by rfl
noncomputable def LB132_6 : Code := loopOf Try.f132 6
theorem lp133_3 : (tab.loops.find? fun e => e.1 == 133 && e.2.1 == 3) = some (133, 3, 67, [1, 5, 17, 18, 19]) := by rfl
noncomputable def LB133_3 : Code := loopOf Try.f133 3
theorem lp133_7 : (tab.loops.find? fun e => e.1 == 133 && e.2.1 == 7) = some (133, 7, 67, [1, 5, 6, 7, 8, 17, 18, 19, 24, 25, 26]) := by rfl
noncomputable def LB133_7 : Code := loopOf Try.f133 7
theorem lp134_16 : (tab.loops.find? fun e => e.1 == 134 && e.2.1 == 16) = some (134, 16, 106, [10, 11, 13, 15, 16, 17]) := by rfl
noncomputable def LB134_16 : Code := loopOf Try.f134 16
theorem lp137_2 : (tab.loops.find? fun e => e.1 == 137 && e.2.1 == 2) = some (137, 2, 22, [0, 3]) := by rfl
noncomputable def LB137_2 : Code := loopOf Try.f137 2
theorem lp142_6 : (tab.loops.find? fun e => e.1 == 142 && e.2.1 == 6) = some (142, 6, 46, [0, 1, 7, 8, 9]) := by rfl
noncomputable def LB142_6 : Code := loopOf Try.f142 6
theorem lp144_8 : (tab.loops.find? fun e => e.1 == 144 && e.2.1 == 8) = some (144, 8, 62, [1, 6, 7, 24, 25, 26]) := by rfl
noncomputable def LB144_8 : Code := loopOf Try.f144 8
theorem lp145_4 : (tab.loops.find? fun e => e.1 == 145 && e.2.1 == 4) = some (145, 4, 119, [0, 1, 5, 7, 8]) := by rfl
noncomputable def LB145_4 : Code := loopOf Try.f145 4
theorem lp145_13 : (tab.loops.find? fun e => e.1 == 145 && e.2.1 == 13) = some (145, 13, 119, [0, 1, 5, 7, 9, 88, 89]) := by rfl
noncomputable def LB145_13 : Code := loopOf Try.f145 13
theorem lp146_10 : (tab.loops.find? fun e => e.1 == 146 && e.2.1 == 10) = some (146, 10, 62, [0, 6, 7, 29, 30, 31]) := by rfl
noncomputable def LB146_10 : Code := loopOf Try.f146 10
theorem lp153_3 : (tab.loops.find? fun e => e.1 == 153 && e.2.1 == 3) = some (153, 3, 52, [0, 1, 2, 7, 8, 12, 13]) := by rfl
noncomputable def LB153_3 : Code := loopOf Try.f153 3
theorem fb11 : inB tab.frames 11 = false := by rfl
theorem fb13 : inB tab.frames 13 = false := by rfl
theorem fb14 : inB tab.frames 14 = false := by rfl
theorem fb16 : inB tab.frames 16 = false := by rfl
theorem fb17 : inB tab.frames 17 = false := by rfl
theorem fb21 : inB tab.frames 21 = false := by rfl
theorem fb55 : inB tab.frames 55 = false := by rfl
theorem fb56 : inB tab.frames 56 = false := by rfl
theorem fb57 : inB tab.frames 57 = false := by rfl
theorem fb58 : inB tab.frames 58 = false := by rfl
theorem fb62 : inB tab.frames 62 = false := by rfl
theorem fb63 : inB tab.frames 63 = true := by rfl
theorem fb64 : inB tab.frames 64 = true := by rfl
theorem fb65 : inB tab.frames 65 = true := by rfl
theorem fb66 : inB tab.frames 66 = true := by rfl
theorem fb67 : inB tab.frames 67 = false := by rfl
theorem fb91 : inB tab.frames 91 = false := by rfl
theorem fb92 : inB tab.frames 92 = true := by rfl
theorem fb93 : inB tab.frames 93 = false := by rfl
theorem fb94 : inB tab.frames 94 = false := by rfl
theorem fb95 : inB tab.frames 95 = false := by rfl
theorem fb96 : inB tab.frames 96 = false := by rfl
theorem fb100 : inB tab.frames 100 = false := by rfl
theorem fb101 : inB tab.frames 101 = true := by rfl
theorem fb79 : inB tab.frames 79 = false := by rfl
theorem fb102 : inB tab.frames 102 = false := by rfl
theorem fb113 : inB tab.frames 113 = true := by rfl
theorem fb114 : inB tab.frames 114 = false := by rfl
theorem fb115 : inB tab.frames 115 = false := by rfl
theorem fb116 : inB tab.frames 116 = false := by rfl
theorem fb117 : inB tab.frames 117 = false := by rfl
theorem fb118 : inB tab.frames 118 = false := by rfl
theorem fb121 : inB tab.frames 121 = false := by rfl
theorem fb99 : inB tab.frames 99 = false := by rfl
theorem fb123 : inB tab.frames 123 = false := by rfl
theorem fb124 : inB tab.frames 124 = false := by rfl
theorem fb129 : inB tab.frames 129 = false := by rfl
theorem fb130 : inB tab.frames 130 = false := by rfl
theorem fb122 : inB tab.frames 122 = false := by rfl
theorem fb131 : inB tab.frames 131 = false := by rfl
theorem fb132 : inB tab.frames 132 = false := by rfl
theorem fb133 : inB tab.frames 133 = false := by rfl
theorem fb119 : inB tab.frames 119 = false := by rfl
theorem fb120 : inB tab.frames 120 = false := by rfl
theorem fb136 : inB tab.frames 136 = false := by rfl
theorem fb141 : inB tab.frames 141 = false := by rfl
theorem fb137 : inB tab.frames 137 = false := by rfl
theorem fb134 : inB tab.frames 134 = false := by rfl
theorem fb135 : inB tab.frames 135 = false := by rfl
theorem fb144 : inB tab.frames 144 = false := by rfl
theorem fb142 : inB tab.frames 142 = false := by rfl
theorem fb143 : inB tab.frames 143 = false := by rfl
theorem fb145 : inB tab.frames 145 = true := by rfl
theorem fb146 : inB tab.frames 146 = false := by rfl
theorem fb152 : inB tab.frames 152 = false := by rfl
theorem fb153 : inB tab.frames 153 = true := by rfl
theorem ev11 (k : Nat) (x0 x1 : AV) (H : Heap) : evalT Try.prog (mkHints tab) (k + 1) (.fn 11) [x0, x1] H = trimO H.length (finishO Try.prog Try.f11.results.toList (evalCode Try.prog (cxG Try.prog (mkHints tab) k 11 none) (Try.f11.body.getD .skip) (fillArgs (fr 124 []) 0 [x0, x1]) (H ++ [.slot, .slot]))) := evalT_fn 124 Try.func11 rfl (by decide) rfl
theorem fsl11_1_0 : fslotB tab.fslots 11 1 0 = [] := by rfl
theorem kb11_1_0 : keepB tab.keeps 11 1 0 = false := by rfl
theorem fsl11_3_1 : fslotB tab.fslots 11 3 1 = [] := by rfl
theorem kb11_3_1 : keepB tab.keeps 11 3 1 = false := by rfl
theorem fsl11_4_1 : fslotB tab.fslots 11 4 1 = [] := by rfl
theorem kb11_4_1 : keepB tab.keeps 11 4 1 = false := by rfl
theorem fsl11_4_15 : fslotB tab.fslots 11 4 15 = [] := by rfl
theorem kb11_4_15 : keepB tab.keeps 11 4 15 = false := by rfl
theorem fsl11_6_1 : fslotB tab.fslots 11 6 1 = [] := by rfl
theorem kb11_6_1 : keepB tab.keeps 11 6 1 = false := by rfl
theorem sb11_6_5 : slotB tab.slots 11 6 5 = none := by rfl
theorem fsl11_9_2 : fslotB tab.fslots 11 9 2 = [] := by rfl
theorem kb11_9_2 : keepB tab.keeps 11 9 2 = false := by rfl
theorem fsl11_9_3 : fslotB tab.fslots 11 9 3 = [] := by rfl
theorem kb11_9_3 : keepB tab.keeps 11 9 3 = false := by rfl
theorem fsl11_10_2 : fslotB tab.fslots 11 10 2 = [] := by rfl
theorem kb11_10_2 : keepB tab.keeps 11 10 2 = false := by rfl
theorem fsl11_10_3 : fslotB tab.fslots 11 10 3 = [] := by rfl
theorem kb11_10_3 : keepB tab.keeps 11 10 3 = false := by rfl
theorem fsl11_11_1 : fslotB tab.fslots 11 11 1 = [] := by rfl
theorem kb11_11_1 : keepB tab.keeps 11 11 1 = false := by rfl
theorem fsl11_11_3 : fslotB tab.fslots 11 11 3 = [] := by rfl
theorem kb11_11_3 : keepB tab.keeps 11 11 3 = false := by rfl
theorem sb11_11_4 : slotB tab.slots 11 11 4 = some 0 := by rfl
theorem sb11_11_5 : slotB tab.slots 11 11 5 = some 1 := by rfl
theorem fsl11_12_6 : fslotB tab.fslots 11 12 6 = [] := by rfl
theorem kb11_12_6 : keepB tab.keeps 11 12 6 = false := by rfl
theorem ag25 : isAggT Try.prog 25 = some true := by kernel_rfl
theorem sz25 : sizeT Try.prog 25 = some 4 := by kernel_rfl
theorem ldp25 (H : Heap) (id off : Nat) : loadA Try.prog H 25 (.ptr id off) = cellsAt H[id]? off 4 := by kernel_rfl
theorem ldi25 (H : Heap) (cells : List IV) (off : Nat) : loadA Try.prog H 25 (.c (.iptr cells off)) = (takeCells cells off 4).map fun l => .agg (l.map .c) := by kernel_rfl
theorem lde25 (H : Heap) (id off ext : Nat) : loadA Try.prog H 25 (.eptr id off ext) = (rowOf H id ext).bind fun r => (takeCells r.2 off 4).map fun l => .agg (l.map .c) := by kernel_rfl
theorem ln38 (cells : List IV) (n : Nat) (nl : Bool) (cap : Option Nat) : lenA Try.prog 38 (.c (.slice cells n nl cap)) = some (.c (.int .i64 n)) := by kernel_rfl
theorem lnv38 (s n sz : Nat) : lenA Try.prog 38 (lv s sz n) = some (.c (.int .i64 n)) := by
  unfold lv; split
  · rename_i h; subst h; kernel_rfl
  · kernel_rfl
theorem lnh38 (id off n ext sz : Nat) : lenA Try.prog 38 (.hsl id off n ext sz) = some (.c (.int .i64 n)) := by kernel_rfl
theorem fa25_0 (x : AV) : fieldAddrA Try.prog 25 x 0 = addrPlus x 0 := by kernel_rfl
theorem ag3 : isAggT Try.prog 3 = some false := by kernel_rfl
theorem sz3 : sizeT Try.prog 3 = some 1 := by kernel_rfl
theorem ldp3 (H : Heap) (id off : Nat) : loadA Try.prog H 3 (.ptr id off) = cellAt H[id]? off := by kernel_rfl
theorem ldi3 (H : Heap) (cells : List IV) (off : Nat) : loadA Try.prog H 3 (.c (.iptr cells off)) = (cells[off]?).map .c := by kernel_rfl
theorem lde3 (H : Heap) (id off ext : Nat) : loadA Try.prog H 3 (.eptr id off ext) = (rowOf H id ext).bind fun r => (r.2[off]?).map .c := by kernel_rfl
theorem al25 (H : Heap) : allocA Try.prog H 25 = some (.ptr H.length 0, H ++ [.cells 25 [.c (.int .i64 0), .c (.int .i64 0), .c (.slice [] 0 true (some 0)), .c (.slice [] 0 true (some 0))]]) := by kernel_rfl
theorem fa25_2 (x : AV) : fieldAddrA Try.prog 25 x 2 = addrPlus x 2 := by kernel_rfl
theorem ag22 : isAggT Try.prog 22 = some false := by kernel_rfl
theorem sz22 : sizeT Try.prog 22 = some 1 := by kernel_rfl
theorem ldp22 (H : Heap) (id off : Nat) : loadA Try.prog H 22 (.ptr id off) = cellAt H[id]? off := by kernel_rfl
theorem ldi22 (H : Heap) (cells : List IV) (off : Nat) : loadA Try.prog H 22 (.c (.iptr cells off)) = (cells[off]?).map .c := by kernel_rfl
theorem lde22 (H : Heap) (id off ext : Nat) : loadA Try.prog H 22 (.eptr id off ext) = (rowOf H id ext).bind fun r => (r.2[off]?).map .c := by kernel_rfl
theorem ln22 (cells : List IV) (n : Nat) (nl : Bool) (cap : Option Nat) : lenA Try.prog 22 (.c (.slice cells n nl cap)) = some (.c (.int .i64 n)) := by kernel_rfl
theorem lnv22 (s n sz : Nat) : lenA Try.prog 22 (lv s sz n) = some (.c (.int .i64 n)) := by
  unfold lv; split
  · rename_i h; subst h; kernel_rfl
  · kernel_rfl
theorem lnh22 (id off n ext sz : Nat) : lenA Try.prog 22 (.hsl id off n ext sz) = some (.c (.int .i64 n)) := by kernel_rfl
theorem fa25_1 (x : AV) : fieldAddrA Try.prog 25 x 1 = addrPlus x 1 := by kernel_rfl
theorem dr11_9 : drawFact Try.f11 9 [0, 0, 2, 7, 15, 31, 31, 31, 63, 383, 1023] = true := by kernel_rfl
theorem dr11_10 : drawFact Try.f11 10 [0, 0, 2, 7, 15, 31, 31, 31, 63, 383, 1023] = true := by kernel_rfl
theorem al85 (H : Heap) : allocA Try.prog H 85 = some (.ptr H.length 0, H ++ [.cells 85 [.c (.int .i64 0), .c (.int .i64 0), .c (.int .i64 0), .c (.int .i64 0), .c (.int .i64 0)]]) := by kernel_rfl
theorem ag85 : isAggT Try.prog 85 = some true := by kernel_rfl
theorem sz85 : sizeT Try.prog 85 = some 5 := by kernel_rfl
theorem dr11_11 : drawFact Try.f11 11 [0, 1, 0, 7, 0, 0, 63, 127] = true := by kernel_rfl
theorem iaa85 (H : Heap) (x : AV) (k : IntKind) (i : Int) : indexAddrA Try.prog H 85 x (.c (.int k i)) = if 0 ≤ i ∧ i < (5 : Nat) then addrPlus x (i.toNat * 1) else none := by kernel_rfl
theorem ev13 (k : Nat) (H : Heap) : evalT Try.prog (mkHints tab) (k + 1) (.fn 13) [] H = trimO H.length (finishO Try.prog Try.f13.results.toList (evalCode Try.prog (cxG Try.prog (mkHints tab) k 13 none) (Try.f13.body.getD .skip) (fillArgs (fr 32 []) 0 []) H)) := by
  have h := evalT_fn 32 Try.func13 rfl (by decide) rfl (P := Try.prog) (h := mkHints tab) (k := k) (args := []) (H := H)
  rw [show (mkHints tab).slots 13 = 0 from rfl, show (List.replicate 0 AObj.slot) = [] from rfl, List.append_nil] at h
  exact h
theorem fsl13_1_4 : fslotB tab.fslots 13 1 4 = [] := by rfl
theorem kb13_1_4 : keepB tab.keeps 13 1 4 = false := by rfl
theorem sb13_1_8 : slotB tab.slots 13 1 8 = none := by rfl
theorem bd34_0_1 (a0 a1 : IV) : buildA Try.prog 34 [(0, .c a0), (1, .c a1)] = some (.agg [.c a0, .c a1, .c (.int .i64 0), .c (.int .i64 0), .c (.int .i64 0)]) := by kernel_rfl
theorem bs22_1_0 (H : Heap) (a0 a1 a2 a3 a4 : IV) : buildSliceA Try.prog H 22 1 [(0, .agg [.c a0, .c a1, .c a2, .c a3, .c a4])] = some (.hsl H.length 0 1 (1 * 5) 5, H ++ [.row false 34 [a0, a1, a2, a3, a4]]) := by kernel_rfl
theorem bs23_1_0 (H : Heap) (a0 : IV) : buildSliceA Try.prog H 23 1 [(0, .c a0)] = some (.hsl H.length 0 1 (1 * 1) 1, H ++ [.row false 3 [a0]]) := by kernel_rfl
theorem bd25_0_1_2_3_h1 (a0 a1 a3 : IV) (v2 : AV) (hv2 : v2.isCell = true) : buildA Try.prog 25 [(0, .c a0), (1, .c a1), (2, v2), (3, .c a3)] = some (.agg [.c a0, .c a1, v2, .c a3]) := by
  cases v2 <;> first | (cases hv2; done) | kernel_rfl
theorem bd25_0_1_2_3_h2 (a0 a1 a2 : IV) (v3 : AV) (hv3 : v3.isCell = true) : buildA Try.prog 25 [(0, .c a0), (1, .c a1), (2, .c a2), (3, v3)] = some (.agg [.c a0, .c a1, .c a2, v3]) := by
  cases v3 <;> first | (cases hv3; done) | kernel_rfl
theorem bd25_0_1_2_3_h3 (a0 a1 : IV) (v2 v3 : AV) (hv2 : v2.isCell = true) (hv3 : v3.isCell = true) : buildA Try.prog 25 [(0, .c a0), (1, .c a1), (2, v2), (3, v3)] = some (.agg [.c a0, .c a1, v2, v3]) := by
  cases v2 <;> cases v3 <;> first | (cases hv2; done) | (cases hv3; done) | kernel_rfl
theorem bd25_0_1_2_3 (a0 a1 a2 a3 : IV) : buildA Try.prog 25 [(0, .c a0), (1, .c a1), (2, .c a2), (3, .c a3)] = some (.agg [.c a0, .c a1, .c a2, .c a3]) := by kernel_rfl
theorem fa25_3 (x : AV) : fieldAddrA Try.prog 25 x 3 = addrPlus x 3 := by kernel_rfl
theorem ag23 : isAggT Try.prog 23 = some false := by kernel_rfl
theorem sz23 : sizeT Try.prog 23 = some 1 := by kernel_rfl
theorem ldp23 (H : Heap) (id off : Nat) : loadA Try.prog H 23 (.ptr id off) = cellAt H[id]? off := by kernel_rfl
theorem ldi23 (H : Heap) (cells : List IV) (off : Nat) : loadA Try.prog H 23 (.c (.iptr cells off)) = (cells[off]?).map .c := by kernel_rfl
theorem lde23 (H : Heap) (id off ext : Nat) : loadA Try.prog H 23 (.eptr id off ext) = (rowOf H id ext).bind fun r => (r.2[off]?).map .c := by kernel_rfl
theorem ln23 (cells : List IV) (n : Nat) (nl : Bool) (cap : Option Nat) : lenA Try.prog 23 (.c (.slice cells n nl cap)) = some (.c (.int .i64 n)) := by kernel_rfl
theorem lnv23 (s n sz : Nat) : lenA Try.prog 23 (lv s sz n) = some (.c (.int .i64 n)) := by
  unfold lv; split
  · rename_i h; subst h; kernel_rfl
  · kernel_rfl
theorem lnh23 (id off n ext sz : Nat) : lenA Try.prog 23 (.hsl id off n ext sz) = some (.c (.int .i64 n)) := by kernel_rfl
theorem ia23 (H : Heap) (cells : List IV) (len : Nat) (nl : Bool) (cap : Option Nat) (k : IntKind) (i : Int) : indexAddrA Try.prog H 23 (.c (.slice cells len nl cap)) (.c (.int k i)) = if 0 ≤ i ∧ i < len then some (.c (.iptr cells (i.toNat * 1))) else none := by kernel_rfl
theorem iah23 (H : Heap) (id off len ext sz : Nat) (k : IntKind) (i : Int) : indexAddrA Try.prog H 23 (.hsl id off len ext sz) (.c (.int k i)) = if 0 ≤ i ∧ i < len ∧ sz = 1 ∧ (rowOf H id ext).isSome = true then some (.eptr id (off + i.toNat * 1) ext) else none := by kernel_rfl
theorem ev14 (k : Nat) (x0 : AV) (H : Heap) : evalT Try.prog (mkHints tab) (k + 1) (.fn 14) [x0] H = trimO H.length (finishO Try.prog Try.f14.results.toList (evalCode Try.prog (cxG Try.prog (mkHints tab) k 14 none) (Try.f14.body.getD .skip) (fillArgs (fr 13 []) 0 [x0]) H)) := by
  have h := evalT_fn 13 Try.func14 rfl (by decide) rfl (P := Try.prog) (h := mkHints tab) (k := k) (args := [x0]) (H := H)
  rw [show (mkHints tab).slots 14 = 0 from rfl, show (List.replicate 0 AObj.slot) = [] from rfl, List.append_nil] at h
  exact h
theorem ev16 (k : Nat) (x0 : AV) (H : Heap) : evalT Try.prog (mkHints tab) (k + 1) (.fn 16) [x0] H = trimO H.length (finishO Try.prog Try.f16.results.toList (evalCode Try.prog (cxG Try.prog (mkHints tab) k 16 none) (Try.f16.body.getD .skip) (fillArgs (fr 106 []) 0 [x0]) (H ++ [.slot, .slot]))) := evalT_fn 106 Try.func16 rfl (by decide) rfl
theorem sb16_0_1 : slotB tab.slots 16 0 1 = none := by rfl
theorem fsl16_1_1 : fslotB tab.fslots 16 1 1 = [] := by rfl
theorem kb16_1_1 : keepB tab.keeps 16 1 1 = false := by rfl
theorem fsl16_4_1 : fslotB tab.fslots 16 4 1 = [] := by rfl
theorem kb16_4_1 : keepB tab.keeps 16 4 1 = false := by rfl
theorem sb16_5_5 : slotB tab.slots 16 5 5 = none := by rfl
theorem sb16_8_3 : slotB tab.slots 16 8 3 = none := by rfl
theorem fsl16_9_3 : fslotB tab.fslots 16 9 3 = [] := by rfl
theorem kb16_9_3 : keepB tab.keeps 16 9 3 = false := by rfl
theorem fsl16_10_2 : fslotB tab.fslots 16 10 2 = [] := by rfl
theorem kb16_10_2 : keepB tab.keeps 16 10 2 = false := by rfl
theorem fsl16_12_2 : fslotB tab.fslots 16 12 2 = [] := by rfl
theorem kb16_12_2 : keepB tab.keeps 16 12 2 = false := by rfl
theorem sb16_15_4 : slotB tab.slots 16 15 4 = some 0 := by rfl
theorem fsl16_21_10 : fslotB tab.fslots 16 21 10 = [] := by rfl
theorem kb16_21_10 : keepB tab.keeps 16 21 10 = false := by rfl
theorem sb16_21_12 : slotB tab.slots 16 21 12 = some 1 := by rfl
theorem bd25_ : buildA Try.prog 25 [] = some (.agg [.c (.int .i64 0), .c (.int .i64 0), .c (.slice [] 0 true (some 0)), .c (.slice [] 0 true (some 0))]) := by kernel_rfl
theorem bd25_0_1 (a0 a1 : IV) : buildA Try.prog 25 [(0, .c a0), (1, .c a1)] = some (.agg [.c a0, .c a1, .c (.slice [] 0 true (some 0)), .c (.slice [] 0 true (some 0))]) := by kernel_rfl
theorem ag34 : isAggT Try.prog 34 = some true := by kernel_rfl
theorem sz34 : sizeT Try.prog 34 = some 5 := by kernel_rfl
theorem ia22 (H : Heap) (cells : List IV) (len : Nat) (nl : Bool) (cap : Option Nat) (k : IntKind) (i : Int) : indexAddrA Try.prog H 22 (.c (.slice cells len nl cap)) (.c (.int k i)) = if 0 ≤ i ∧ i < len then some (.c (.iptr cells (i.toNat * 5))) else none := by kernel_rfl
theorem iah22 (H : Heap) (id off len ext sz : Nat) (k : IntKind) (i : Int) : indexAddrA Try.prog H 22 (.hsl id off len ext sz) (.c (.int k i)) = if 0 ≤ i ∧ i < len ∧ sz = 5 ∧ (rowOf H id ext).isSome = true then some (.eptr id (off + i.toNat * 5) ext) else none := by kernel_rfl
theorem ldp34 (H : Heap) (id off : Nat) : loadA Try.prog H 34 (.ptr id off) = cellsAt H[id]? off 5 := by kernel_rfl
theorem ldi34 (H : Heap) (cells : List IV) (off : Nat) : loadA Try.prog H 34 (.c (.iptr cells off)) = (takeCells cells off 5).map fun l => .agg (l.map .c) := by kernel_rfl
theorem lde34 (H : Heap) (id off ext : Nat) : loadA Try.prog H 34 (.eptr id off ext) = (rowOf H id ext).bind fun r => (takeCells r.2 off 5).map fun l => .agg (l.map .c) := by kernel_rfl
theorem al34 (H : Heap) : allocA Try.prog H 34 = some (.ptr H.length 0, H ++ [.cells 34 [.c (.int .i64 0), .c (.int .i64 0), .c (.int .i64 0), .c (.int .i64 0), .c (.int .i64 0)]]) := by kernel_rfl
theorem fa97_0 (x : AV) : fieldAddrA Try.prog 97 x 0 = addrPlus x 0 := by kernel_rfl
theorem fa34_1 (x : AV) : fieldAddrA Try.prog 34 x 1 = addrPlus x 1 := by kernel_rfl
theorem dr16_11 : drawFact Try.f16 11 [0, 1, 3, 7, 0, 16, 63, 127, 0, 511] = true := by kernel_rfl
theorem bd34_0_1_2 (a0 a1 a2 : IV) : buildA Try.prog 34 [(0, .c a0), (1, .c a1), (2, .c a2)] = some (.agg [.c a0, .c a1, .c a2, .c (.int .i64 0), .c (.int .i64 0)]) := by kernel_rfl
theorem ap22 (H : Heap) (sl : Option Nat) (s x : AV) : appendA Try.prog H sl 22 s x = apO 34 5 40 sl s H (srcOf H 5 x) := by kernel_rfl
theorem dr16_16 : drawFact Try.f16 16 [0, 1, 3, 7, 0, 16, 0, 127, 255] = true := by kernel_rfl
theorem ap23 (H : Heap) (sl : Option Nat) (s x : AV) : appendA Try.prog H sl 23 s x = apO 3 1 8 sl s H (srcOf H 1 x) := by kernel_rfl
theorem dr16_21 : drawFact Try.f16 21 [0, 1, 0, 0, 8, 24, 56, 0, 248, 504, 1020, 2044, 4095, 8191, 16383] = true := by kernel_rfl
theorem ev17 (k : Nat) (x0 : AV) (H : Heap) : evalT Try.prog (mkHints tab) (k + 1) (.fn 17) [x0] H = trimO H.length (finishO Try.prog Try.f17.results.toList (evalCode Try.prog (cxG Try.prog (mkHints tab) k 17 none) (Try.f17.body.getD .skip) (fillArgs (fr 12 []) 0 [x0]) H)) := by
  have h := evalT_fn 12 Try.func17 rfl (by decide) rfl (P := Try.prog) (h := mkHints tab) (k := k) (args := [x0]) (H := H)
  rw [show (mkHints tab).slots 17 = 0 from rfl, show (List.replicate 0 AObj.slot) = [] from rfl, List.append_nil] at h
  exact h
theorem fsl17_1_1 : fslotB tab.fslots 17 1 1 = [] := by rfl
theorem kb17_1_1 : keepB tab.keeps 17 1 1 = false := by rfl
theorem ev21 (k : Nat) (x0 : AV) (H : Heap) : evalT Try.prog (mkHints tab) (k + 1) (.fn 21) [x0] H = trimO H.length (finishO Try.prog Try.f21.results.toList (evalCode Try.prog (cxG Try.prog (mkHints tab) k 21 none) (Try.f21.body.getD .skip) (fillArgs (fr 22 []) 0 [x0]) H)) := by
  have h := evalT_fn 22 Try.func21 rfl (by decide) rfl (P := Try.prog) (h := mkHints tab) (k := k) (args := [x0]) (H := H)
  rw [show (mkHints tab).slots 21 = 0 from rfl, show (List.replicate 0 AObj.slot) = [] from rfl, List.append_nil] at h
  exact h
theorem fa34_0 (x : AV) : fieldAddrA Try.prog 34 x 0 = addrPlus x 0 := by kernel_rfl
theorem ev55 (k : Nat) (x0 x1 : AV) (H : Heap) : evalT Try.prog (mkHints tab) (k + 1) (.fn 55) [x0, x1] H = trimO H.length (finishO Try.prog Try.f55.results.toList (evalCode Try.prog (cxG Try.prog (mkHints tab) k 55 none) (Try.f55.body.getD .skip) (fillArgs (fr 49 []) 0 [x0, x1]) (H ++ [.slot]))) := evalT_fn 49 Try.func55 rfl (by decide) rfl
theorem fsl55_1_3 : fslotB tab.fslots 55 1 3 = [] := by rfl
theorem kb55_1_3 : keepB tab.keeps 55 1 3 = false := by rfl
theorem sb55_4_2 : slotB tab.slots 55 4 2 = none := by rfl
theorem fsl55_6_0 : fslotB tab.fslots 55 6 0 = [] := by rfl
theorem kb55_6_0 : keepB tab.keeps 55 6 0 = false := by rfl
theorem fsl55_6_3 : fslotB tab.fslots 55 6 3 = [] := by rfl
theorem kb55_6_3 : keepB tab.keeps 55 6 3 = false := by rfl
theorem sb55_13_6 : slotB tab.slots 55 13 6 = some 0 := by rfl
theorem ln81 (cells : List IV) (n : Nat) (nl : Bool) (cap : Option Nat) : lenA Try.prog 81 (.c (.slice cells n nl cap)) = some (.c (.int .i64 n)) := by kernel_rfl
theorem lnv81 (s n sz : Nat) : lenA Try.prog 81 (lv s sz n) = some (.c (.int .i64 n)) := by
  unfold lv; split
  · rename_i h; subst h; kernel_rfl
  · kernel_rfl
theorem lnh81 (id off n ext sz : Nat) : lenA Try.prog 81 (.hsl id off n ext sz) = some (.c (.int .i64 n)) := by kernel_rfl
theorem ms81 (H : Heap) (l c : Int) : makeSliceA Try.prog H none 81 (.c (.int .i64 l)) (.c (.int .i64 c)) = if 0 ≤ l ∧ l = c ∧ c.toNat * 32 ≤ roomBytes ∧ c.toNat ≤ roomBytes ∧ 2 = 2 ∧ 0 < 2 then some (.hsl H.length 0 l.toNat (c.toNat * 2) 2, H ++ [.row false 140 ((List.replicate c.toNat [.bool false, .slice [] 0 true (some 0)]).flatten)]) else none := by kernel_rfl
theorem cp81 (H : Heap) (d s : AV) : copyA Try.prog H 81 d s = cpO 2 d H (srcOf H 2 s) := by kernel_rfl
theorem dr55_6 : drawFact Try.f55 6 [0, 0, 0, 7, 15] = true := by kernel_rfl
theorem ag140 : isAggT Try.prog 140 = some true := by kernel_rfl
theorem sz140 : sizeT Try.prog 140 = some 2 := by kernel_rfl
theorem ia81 (H : Heap) (cells : List IV) (len : Nat) (nl : Bool) (cap : Option Nat) (k : IntKind) (i : Int) : indexAddrA Try.prog H 81 (.c (.slice cells len nl cap)) (.c (.int k i)) = if 0 ≤ i ∧ i < len then some (.c (.iptr cells (i.toNat * 2))) else none := by kernel_rfl
theorem iah81 (H : Heap) (id off len ext sz : Nat) (k : IntKind) (i : Int) : indexAddrA Try.prog H 81 (.hsl id off len ext sz) (.c (.int k i)) = if 0 ≤ i ∧ i < len ∧ sz = 2 ∧ (rowOf H id ext).isSome = true then some (.eptr id (off + i.toNat * 2) ext) else none := by kernel_rfl
theorem ldp140 (H : Heap) (id off : Nat) : loadA Try.prog H 140 (.ptr id off) = cellsAt H[id]? off 2 := by kernel_rfl
theorem ldi140 (H : Heap) (cells : List IV) (off : Nat) : loadA Try.prog H 140 (.c (.iptr cells off)) = (takeCells cells off 2).map fun l => .agg (l.map .c) := by kernel_rfl
theorem lde140 (H : Heap) (id off ext : Nat) : loadA Try.prog H 140 (.eptr id off ext) = (rowOf H id ext).bind fun r => (takeCells r.2 off 2).map fun l => .agg (l.map .c) := by kernel_rfl
theorem bs81_1_0 (H : Heap) (a0 a1 : IV) : buildSliceA Try.prog H 81 1 [(0, .agg [.c a0, .c a1])] = some (.hsl H.length 0 1 (1 * 2) 2, H ++ [.row false 140 [a0, a1]]) := by kernel_rfl
theorem ap81 (H : Heap) (sl : Option Nat) (s x : AV) : appendA Try.prog H sl 81 s x = apO 140 2 32 sl s H (srcOf H 2 x) := by kernel_rfl
theorem ev56 (k : Nat) (x0 : AV) (H : Heap) : evalT Try.prog (mkHints tab) (k + 1) (.fn 56) [x0] H = trimO H.length (finishO Try.prog Try.f56.results.toList (evalCode Try.prog (cxG Try.prog (mkHints tab) k 56 none) (Try.f56.body.getD .skip) (fillArgs (fr 19 []) 0 [x0]) (H ++ [.slot]))) := evalT_fn 19 Try.func56 rfl (by decide) rfl
theorem fsl56_5_2 : fslotB tab.fslots 56 5 2 = [] := by rfl
theorem kb56_5_2 : keepB tab.keeps 56 5 2 = false := by rfl
theorem sb56_5_4 : slotB tab.slots 56 5 4 = some 0 := by rfl
theorem ag2 : isAggT Try.prog 2 = some false := by kernel_rfl
theorem sz2 : sizeT Try.prog 2 = some 1 := by kernel_rfl
theorem ia38 (H : Heap) (cells : List IV) (len : Nat) (nl : Bool) (cap : Option Nat) (k : IntKind) (i : Int) : indexAddrA Try.prog H 38 (.c (.slice cells len nl cap)) (.c (.int k i)) = if 0 ≤ i ∧ i < len then some (.c (.iptr cells (i.toNat * 1))) else none := by kernel_rfl
theorem iah38 (H : Heap) (id off len ext sz : Nat) (k : IntKind) (i : Int) : indexAddrA Try.prog H 38 (.hsl id off len ext sz) (.c (.int k i)) = if 0 ≤ i ∧ i < len ∧ sz = 1 ∧ (rowOf H id ext).isSome = true then some (.eptr id (off + i.toNat * 1) ext) else none := by kernel_rfl
theorem ldp2 (H : Heap) (id off : Nat) : loadA Try.prog H 2 (.ptr id off) = cellAt H[id]? off := by kernel_rfl
theorem ldi2 (H : Heap) (cells : List IV) (off : Nat) : loadA Try.prog H 2 (.c (.iptr cells off)) = (cells[off]?).map .c := by kernel_rfl
theorem lde2 (H : Heap) (id off ext : Nat) : loadA Try.prog H 2 (.eptr id off ext) = (rowOf H id ext).bind fun r => (r.2[off]?).map .c := by kernel_rfl
theorem ev57 (k : Nat) (x0 : AV) (H : Heap) : evalT Try.prog (mkHints tab) (k + 1) (.fn 57) [x0] H = trimO H.length (finishO Try.prog Try.f57.results.toList (evalCode Try.prog (cxG Try.prog (mkHints tab) k 57 none) (Try.f57.body.getD .skip) (fillArgs (fr 48 []) 0 [x0]) H)) := by
  have h := evalT_fn 48 Try.func57 rfl (by decide) rfl (P := Try.prog) (h := mkHints tab) (k := k) (args := [x0]) (H := H)
  rw [show (mkHints tab).slots 57 = 0 from rfl, show (List.replicate 0 AObj.slot) = [] from rfl, List.append_nil] at h
  exact h
theorem sb57_0_1 : slotB tab.slots 57 0 1 = none := by rfl
theorem sb57_1_0 : slotB tab.slots 57 1 0 = none := by rfl
theorem ldp85 (H : Heap) (id off : Nat) : loadA Try.prog H 85 (.ptr id off) = cellsAt H[id]? off 5 := by kernel_rfl
theorem ldi85 (H : Heap) (cells : List IV) (off : Nat) : loadA Try.prog H 85 (.c (.iptr cells off)) = (takeCells cells off 5).map fun l => .agg (l.map .c) := by kernel_rfl
theorem lde85 (H : Heap) (id off ext : Nat) : loadA Try.prog H 85 (.eptr id off ext) = (rowOf H id ext).bind fun r => (takeCells r.2 off 5).map fun l => .agg (l.map .c) := by kernel_rfl
theorem ev58 (k : Nat) (x0 x1 : AV) (H : Heap) : evalT Try.prog (mkHints tab) (k + 1) (.fn 58) [x0, x1] H = trimO H.length (finishO Try.prog Try.f58.results.toList (evalCode Try.prog (cxG Try.prog (mkHints tab) k 58 none) (Try.f58.body.getD .skip) (fillArgs (fr 9 []) 0 [x0, x1]) H)) := by
  have h := evalT_fn 9 Try.func58 rfl (by decide) rfl (P := Try.prog) (h := mkHints tab) (k := k) (args := [x0, x1]) (H := H)
  rw [show (mkHints tab).slots 58 = 0 from rfl, show (List.replicate 0 AObj.slot) = [] from rfl, List.append_nil] at h
  exact h
theorem fsl58_1_2 : fslotB tab.fslots 58 1 2 = [] := by rfl
theorem kb58_1_2 : keepB tab.keeps 58 1 2 = false := by rfl
theorem ev62 (k : Nat) (x0 : AV) (H : Heap) : evalT Try.prog (mkHints tab) (k + 1) (.fn 62) [x0] H = trimO H.length (finishO Try.prog Try.f62.results.toList (evalCode Try.prog (cxG Try.prog (mkHints tab) k 62 none) (Try.f62.body.getD .skip) (fillArgs (fr 72 []) 0 [x0]) H)) := by
  have h := evalT_fn 72 Try.func62 rfl (by decide) rfl (P := Try.prog) (h := mkHints tab) (k := k) (args := [x0]) (H := H)
  rw [show (mkHints tab).slots 62 = 0 from rfl, show (List.replicate 0 AObj.slot) = [] from rfl, List.append_nil] at h
  exact h
theorem sb62_11_3 : slotB tab.slots 62 11 3 = none := by rfl
theorem fsl62_12_3 : fslotB tab.fslots 62 12 3 = [] := by rfl
theorem kb62_12_3 : keepB tab.keeps 62 12 3 = false := by rfl
theorem ev63 (k : Nat) (x0 : AV) (H : Heap) : evalT Try.prog (mkHints tab) (k + 1) (.fn 63) [x0] H = trimO H.length (finishO Try.prog Try.f63.results.toList (evalCode Try.prog (cxG Try.prog (mkHints tab) k 63 none) (Try.f63.body.getD .skip) (fillArgs (fr 32 []) 0 [x0]) (H ++ [.slot]))) := evalT_fn 32 Try.func63 rfl (by decide) rfl
theorem sb63_5_10 : slotB tab.slots 63 5 10 = some 0 := by rfl
theorem bd97_1_2_3 (a0 a1 a2 : IV) : buildA Try.prog 97 [(1, .c a0), (2, .c a1), (3, .c a2)] = some (.agg [.c (.slice [] 0 true (some 0)), .c a0, .c a1, .c a2]) := by kernel_rfl
theorem dr63_5 : drawFact Try.f63 5 [0, 0, 2, 6, 14, 0, 0, 64, 224, 480, 1022, 2047, 4095, 8191] = true := by kernel_rfl
theorem ev64 (k : Nat) (x0 x1 x2 : AV) (H : Heap) : evalT Try.prog (mkHints tab) (k + 1) (.fn 64) [x0, x1, x2] H = trimO H.length (finishO Try.prog Try.f64.results.toList (evalCode Try.prog (cxG Try.prog (mkHints tab) k 64 none) (Try.f64.body.getD .skip) (fillArgs (fr 74 []) 0 [x0, x1, x2]) H)) := by
  have h := evalT_fn 74 Try.func64 rfl (by decide) rfl (P := Try.prog) (h := mkHints tab) (k := k) (args := [x0, x1, x2]) (H := H)
  rw [show (mkHints tab).slots 64 = 0 from rfl, show (List.replicate 0 AObj.slot) = [] from rfl, List.append_nil] at h
  exact h
theorem fsl64_3_2 : fslotB tab.fslots 64 3 2 = [] := by rfl
theorem kb64_3_2 : keepB tab.keeps 64 3 2 = false := by rfl
theorem sb64_3_3 : slotB tab.slots 64 3 3 = none := by rfl
theorem fa34_2 (x : AV) : fieldAddrA Try.prog 34 x 2 = addrPlus x 2 := by kernel_rfl
theorem dr64_2 : drawFact Try.f64 2 [0, 1, 3, 7, 0, 16, 63, 127, 255, 511] = true := by kernel_rfl
theorem al155 (H : Heap) : allocA Try.prog H 155 = some (.ptr H.length 0, H ++ [.cells 155 [.c (.int .i64 0), .c (.int .i64 0), .c (.int .i64 0), .c (.int .i64 0)]]) := by kernel_rfl
theorem ag155 : isAggT Try.prog 155 = some true := by kernel_rfl
theorem sz155 : sizeT Try.prog 155 = some 4 := by kernel_rfl
theorem fa97_1 (x : AV) : fieldAddrA Try.prog 97 x 1 = addrPlus x 1 := by kernel_rfl
theorem ag95 : isAggT Try.prog 95 = some false := by kernel_rfl
theorem sz95 : sizeT Try.prog 95 = some 1 := by kernel_rfl
theorem ldp95 (H : Heap) (id off : Nat) : loadA Try.prog H 95 (.ptr id off) = cellAt H[id]? off := by kernel_rfl
theorem ldi95 (H : Heap) (cells : List IV) (off : Nat) : loadA Try.prog H 95 (.c (.iptr cells off)) = (cells[off]?).map .c := by kernel_rfl
theorem lde95 (H : Heap) (id off ext : Nat) : loadA Try.prog H 95 (.eptr id off ext) = (rowOf H id ext).bind fun r => (r.2[off]?).map .c := by kernel_rfl
theorem ldp155 (H : Heap) (id off : Nat) : loadA Try.prog H 155 (.ptr id off) = cellsAt H[id]? off 4 := by kernel_rfl
theorem ldi155 (H : Heap) (cells : List IV) (off : Nat) : loadA Try.prog H 155 (.c (.iptr cells off)) = (takeCells cells off 4).map fun l => .agg (l.map .c) := by kernel_rfl
theorem lde155 (H : Heap) (id off ext : Nat) : loadA Try.prog H 155 (.eptr id off ext) = (rowOf H id ext).bind fun r => (takeCells r.2 off 4).map fun l => .agg (l.map .c) := by kernel_rfl
theorem dr64_4 : drawFact Try.f64 4 [0, 1, 3, 7, 0, 31, 63, 127, 127, 255, 1023] = true := by kernel_rfl
theorem fa97_2 (x : AV) : fieldAddrA Try.prog 97 x 2 = addrPlus x 2 := by kernel_rfl
theorem fa97_3 (x : AV) : fieldAddrA Try.prog 97 x 3 = addrPlus x 3 := by kernel_rfl
theorem dr64_6 : drawFact Try.f64 6 [0, 1, 3, 7, 0, 0, 32, 96, 224, 0, 0, 1024, 3072, 7168, 0, 511, 33279, 114175, 245759, 507903, 1048575] = true := by kernel_rfl
theorem dr64_8 : drawFact Try.f64 8 [0, 1, 3, 7, 0, 31, 0, 64, 192, 448, 0, 1984, 63, 8191] = true := by kernel_rfl
theorem ev65 (k : Nat) (x0 x1 : AV) (H : Heap) : evalT Try.prog (mkHints tab) (k + 1) (.fn 65) [x0, x1] H = trimO H.length (finishO Try.prog Try.f65.results.toList (evalCode Try.prog (cxG Try.prog (mkHints tab) k 65 none) (Try.f65.body.getD .skip) (fillArgs (fr 34 []) 0 [x0, x1]) H)) := by
  have h := evalT_fn 34 Try.func65 rfl (by decide) rfl (P := Try.prog) (h := mkHints tab) (k := k) (args := [x0, x1]) (H := H)
  rw [show (mkHints tab).slots 65 = 0 from rfl, show (List.replicate 0 AObj.slot) = [] from rfl, List.append_nil] at h
  exact h
theorem sb65_0_1 : slotB tab.slots 65 0 1 = none := by rfl
theorem fsl65_1_1 : fslotB tab.fslots 65 1 1 = [] := by rfl
theorem kb65_1_1 : keepB tab.keeps 65 1 1 = false := by rfl
theorem fsl65_2_9 : fslotB tab.fslots 65 2 9 = [] := by rfl
theorem kb65_2_9 : keepB tab.keeps 65 2 9 = false := by rfl
theorem fsl65_4_9 : fslotB tab.fslots 65 4 9 = [] := by rfl
theorem kb65_4_9 : keepB tab.keeps 65 4 9 = false := by rfl
theorem dr65_2 : drawFact Try.f65 2 [0, 0, 2, 6, 14, 0, 32, 126, 254, 511, 1023, 2047] = true := by kernel_rfl
theorem fa34_3 (x : AV) : fieldAddrA Try.prog 34 x 3 = addrPlus x 3 := by kernel_rfl
theorem dr65_4 : drawFact Try.f65 4 [0, 0, 2, 6, 14, 0, 32, 126, 254, 511, 1023, 2047] = true := by kernel_rfl
theorem ev66 (k : Nat) (x0 x1 : AV) (H : Heap) : evalT Try.prog (mkHints tab) (k + 1) (.fn 66) [x0, x1] H = trimO H.length (finishO Try.prog Try.f66.results.toList (evalCode Try.prog (cxG Try.prog (mkHints tab) k 66 none) (Try.f66.body.getD .skip) (fillArgs (fr 22 []) 0 [x0, x1]) H)) := by
  have h := evalT_fn 22 Try.func66 rfl (by decide) rfl (P := Try.prog) (h := mkHints tab) (k := k) (args := [x0, x1]) (H := H)
  rw [show (mkHints tab).slots 66 = 0 from rfl, show (List.replicate 0 AObj.slot) = [] from rfl, List.append_nil] at h
  exact h
theorem ev67 (k : Nat) (x0 : AV) (H : Heap) : evalT Try.prog (mkHints tab) (k + 1) (.fn 67) [x0] H = trimO H.length (finishO Try.prog Try.f67.results.toList (evalCode Try.prog (cxG Try.prog (mkHints tab) k 67 none) (Try.f67.body.getD .skip) (fillArgs (fr 79 []) 0 [x0]) H)) := by
  have h := evalT_fn 79 Try.func67 rfl (by decide) rfl (P := Try.prog) (h := mkHints tab) (k := k) (args := [x0]) (H := H)
  rw [show (mkHints tab).slots 67 = 0 from rfl, show (List.replicate 0 AObj.slot) = [] from rfl, List.append_nil] at h
  exact h
theorem fsl67_11_7 : fslotB tab.fslots 67 11 7 = [] := by rfl
theorem kb67_11_7 : keepB tab.keeps 67 11 7 = false := by rfl
theorem dr67_6 : drawFact Try.f67 6 [0, 1, 0, 7, 15, 31, 63, 127, 255, 127, 1023, 2047, 127, 4223, 16383, 32767] = true := by kernel_rfl
theorem dr67_11 : drawFact Try.f67 11 [0, 1, 0, 7, 15, 0, 32, 127, 255] = true := by kernel_rfl
theorem ev91 (k : Nat) (x0 x1 : AV) (H : Heap) : evalT Try.prog (mkHints tab) (k + 1) (.fn 91) [x0, x1] H = trimO H.length (finishO Try.prog Try.f91.results.toList (evalCode Try.prog (cxG Try.prog (mkHints tab) k 91 none) (Try.f91.body.getD .skip) (fillArgs (fr 21 []) 0 [x0, x1]) H)) := by
  have h := evalT_fn 21 Try.func91 rfl (by decide) rfl (P := Try.prog) (h := mkHints tab) (k := k) (args := [x0, x1]) (H := H)
  rw [show (mkHints tab).slots 91 = 0 from rfl, show (List.replicate 0 AObj.slot) = [] from rfl, List.append_nil] at h
  exact h
theorem fsl91_1_1 : fslotB tab.fslots 91 1 1 = [] := by rfl
theorem kb91_1_1 : keepB tab.keeps 91 1 1 = false := by rfl
theorem ev92 (k : Nat) (x0 x1 x2 x3 : AV) (H : Heap) : evalT Try.prog (mkHints tab) (k + 1) (.fn 92) [x0, x1, x2, x3] H = trimO H.length (finishO Try.prog Try.f92.results.toList (evalCode Try.prog (cxG Try.prog (mkHints tab) k 92 none) (Try.f92.body.getD .skip) (fillArgs (fr 42 []) 0 [x0, x1, x2, x3]) H)) := by
  have h := evalT_fn 42 Try.func92 rfl (by decide) rfl (P := Try.prog) (h := mkHints tab) (k := k) (args := [x0, x1, x2, x3]) (H := H)
  rw [show (mkHints tab).slots 92 = 0 from rfl, show (List.replicate 0 AObj.slot) = [] from rfl, List.append_nil] at h
  exact h
theorem sb92_3_3 : slotB tab.slots 92 3 3 = none := by rfl
theorem fsl92_4_3 : fslotB tab.fslots 92 4 3 = [] := by rfl
theorem kb92_4_3 : keepB tab.keeps 92 4 3 = false := by rfl
theorem sb92_4_7 : slotB tab.slots 92 4 7 = none := by rfl
theorem fsl92_8_3 : fslotB tab.fslots 92 8 3 = [] := by rfl
theorem kb92_8_3 : keepB tab.keeps 92 8 3 = false := by rfl
theorem ag145 : isAggT Try.prog 145 = some true := by kernel_rfl
theorem sz145 : sizeT Try.prog 145 = some 5 := by kernel_rfl
theorem ldp145 (H : Heap) (id off : Nat) : loadA Try.prog H 145 (.ptr id off) = cellsAt H[id]? off 5 := by kernel_rfl
theorem ldi145 (H : Heap) (cells : List IV) (off : Nat) : loadA Try.prog H 145 (.c (.iptr cells off)) = (takeCells cells off 5).map fun l => .agg (l.map .c) := by kernel_rfl
theorem lde145 (H : Heap) (id off ext : Nat) : loadA Try.prog H 145 (.eptr id off ext) = (rowOf H id ext).bind fun r => (takeCells r.2 off 5).map fun l => .agg (l.map .c) := by kernel_rfl
theorem al140 (H : Heap) : allocA Try.prog H 140 = some (.ptr H.length 0, H ++ [.cells 140 [.c (.bool false), .c (.slice [] 0 true (some 0))]]) := by kernel_rfl
theorem ev93 (k : Nat) (H : Heap) : evalT Try.prog (mkHints tab) (k + 1) (.fn 93) [] H = trimO H.length (finishO Try.prog Try.f93.results.toList (evalCode Try.prog (cxG Try.prog (mkHints tab) k 93 none) (Try.f93.body.getD .skip) (fillArgs (fr 2 []) 0 []) H)) := by
  have h := evalT_fn 2 Try.func93 rfl (by decide) rfl (P := Try.prog) (h := mkHints tab) (k := k) (args := []) (H := H)
  rw [show (mkHints tab).slots 93 = 0 from rfl, show (List.replicate 0 AObj.slot) = [] from rfl, List.append_nil] at h
  exact h
theorem sb93_0_0 : slotB tab.slots 93 0 0 = none := by rfl
theorem al145 (H : Heap) : allocA Try.prog H 145 = some (.ptr H.length 0, H ++ [.cells 145 [.c (.nilfn), .c (.nilfn), .c (.nilfn), .c (.nilfn), .c (.nilfn)]]) := by kernel_rfl
theorem bd145_0_1_2_3_4 (a0 a1 a2 a3 a4 : IV) : buildA Try.prog 145 [(0, .c a0), (1, .c a1), (2, .c a2), (3, .c a3), (4, .c a4)] = some (.agg [.c a0, .c a1, .c a2, .c a3, .c a4]) := by kernel_rfl
theorem ev94 (k : Nat) (x0 x1 : AV) (H : Heap) : evalT Try.prog (mkHints tab) (k + 1) (.fn 94) [x0, x1] H = trimO H.length (finishO Try.prog Try.f94.results.toList (evalCode Try.prog (cxG Try.prog (mkHints tab) k 94 none) (Try.f94.body.getD .skip) (fillArgs (fr 5 []) 0 [x0, x1]) H)) := by
  have h := evalT_fn 5 Try.func94 rfl (by decide) rfl (P := Try.prog) (h := mkHints tab) (k := k) (args := [x0, x1]) (H := H)
  rw [show (mkHints tab).slots 94 = 0 from rfl, show (List.replicate 0 AObj.slot) = [] from rfl, List.append_nil] at h
  exact h
theorem ev95 (k : Nat) (x0 : AV) (H : Heap) : evalT Try.prog (mkHints tab) (k + 1) (.fn 95) [x0] H = trimO H.length (finishO Try.prog Try.f95.results.toList (evalCode Try.prog (cxG Try.prog (mkHints tab) k 95 none) (Try.f95.body.getD .skip) (fillArgs (fr 19 []) 0 [x0]) H)) := by
  have h := evalT_fn 19 Try.func95 rfl (by decide) rfl (P := Try.prog) (h := mkHints tab) (k := k) (args := [x0]) (H := H)
  rw [show (mkHints tab).slots 95 = 0 from rfl, show (List.replicate 0 AObj.slot) = [] from rfl, List.append_nil] at h
  exact h
theorem sb95_0_0 : slotB tab.slots 95 0 0 = none := by rfl
theorem fsl95_4_8 : fslotB tab.fslots 95 4 8 = [] := by rfl
theorem kb95_4_8 : keepB tab.keeps 95 4 8 = false := by rfl
theorem cv2_101 (k : IntKind) (n : Int) : convA Try.prog 2 101 (.c (.int k n)) = some (.c (.int .u64 (IntKind.wrap .u64 n))) := by kernel_rfl
theorem cv101_102 (k : IntKind) (n : Int) : convA Try.prog 101 102 (.c (.int k n)) = some (.c (.int .u32 (IntKind.wrap .u32 n))) := by kernel_rfl
theorem bs41_2_0_1 (H : Heap) (a0 a1 : IV) : buildSliceA Try.prog H 41 2 [(0, .c a0), (1, .c a1)] = some (.hsl H.length 0 2 (2 * 1) 1, H ++ [.row false 102 [a0, a1]]) := by kernel_rfl
theorem ev96 (k : Nat) (x0 x1 : AV) (H : Heap) : evalT Try.prog (mkHints tab) (k + 1) (.fn 96) [x0, x1] H = trimO H.length (finishO Try.prog Try.f96.results.toList (evalCode Try.prog (cxG Try.prog (mkHints tab) k 96 none) (Try.f96.body.getD .skip) (fillArgs (fr 37 []) 0 [x0, x1]) H)) := by
  have h := evalT_fn 37 Try.func96 rfl (by decide) rfl (P := Try.prog) (h := mkHints tab) (k := k) (args := [x0, x1]) (H := H)
  rw [show (mkHints tab).slots 96 = 0 from rfl, show (List.replicate 0 AObj.slot) = [] from rfl, List.append_nil] at h
  exact h
theorem sb96_7_3 : slotB tab.slots 96 7 3 = none := by rfl
theorem fsl96_8_5 : fslotB tab.fslots 96 8 5 = [] := by rfl
theorem kb96_8_5 : keepB tab.keeps 96 8 5 = false := by rfl
theorem dr96_8 : drawFact Try.f96 8 [0, 0, 0, 6, 14, 31, 63] = true := by kernel_rfl
theorem ev100 (k : Nat) (x0 x1 : AV) (H : Heap) : evalT Try.prog (mkHints tab) (k + 1) (.fn 100) [x0, x1] H = trimO H.length (finishO Try.prog Try.f100.results.toList (evalCode Try.prog (cxG Try.prog (mkHints tab) k 100 none) (Try.f100.body.getD .skip) (fillArgs (fr 57 []) 0 [x0, x1]) H)) := by
  have h := evalT_fn 57 Try.func100 rfl (by decide) rfl (P := Try.prog) (h := mkHints tab) (k := k) (args := [x0, x1]) (H := H)
  rw [show (mkHints tab).slots 100 = 0 from rfl, show (List.replicate 0 AObj.slot) = [] from rfl, List.append_nil] at h
  exact h
theorem fsl100_1_22 : fslotB tab.fslots 100 1 22 = [] := by rfl
theorem kb100_1_22 : keepB tab.keeps 100 1 22 = false := by rfl
theorem fsl100_1_32 : fslotB tab.fslots 100 1 32 = [] := by rfl
theorem kb100_1_32 : keepB tab.keeps 100 1 32 = false := by rfl
theorem fsl100_3_1 : fslotB tab.fslots 100 3 1 = [] := by rfl
theorem kb100_3_1 : keepB tab.keeps 100 3 1 = false := by rfl
theorem ev101 (k : Nat) (x0 x1 : AV) (H : Heap) : evalT Try.prog (mkHints tab) (k + 1) (.fn 101) [x0, x1] H = trimO H.length (finishO Try.prog Try.f101.results.toList (evalCode Try.prog (cxG Try.prog (mkHints tab) k 101 none) (Try.f101.body.getD .skip) (fillArgs (fr 49 []) 0 [x0, x1]) H)) := by
  have h := evalT_fn 49 Try.func101 rfl (by decide) rfl (P := Try.prog) (h := mkHints tab) (k := k) (args := [x0, x1]) (H := H)
  rw [show (mkHints tab).slots 101 = 0 from rfl, show (List.replicate 0 AObj.slot) = [] from rfl, List.append_nil] at h
  exact h
theorem sb101_0_1 : slotB tab.slots 101 0 1 = none := by rfl
theorem sb101_1_13 : slotB tab.slots 101 1 13 = none := by rfl
theorem fsl101_2_1 : fslotB tab.fslots 101 2 1 = [] := by rfl
theorem kb101_2_1 : keepB tab.keeps 101 2 1 = false := by rfl
theorem fa34_4 (x : AV) : fieldAddrA Try.prog 34 x 4 = addrPlus x 4 := by kernel_rfl
theorem bd155_0_1_2_3 (a0 a1 a2 a3 : IV) : buildA Try.prog 155 [(0, .c a0), (1, .c a1), (2, .c a2), (3, .c a3)] = some (.agg [.c a0, .c a1, .c a2, .c a3]) := by kernel_rfl
theorem dr101_1 : drawFact Try.f101 1 [0, 1, 0, 4, 12, 28, 0, 64, 252, 508, 0, 1024, 4095, 0, 16383] = true := by kernel_rfl
theorem fa155_2 (x : AV) : fieldAddrA Try.prog 155 x 2 = addrPlus x 2 := by kernel_rfl
theorem dr101_3 : drawFact Try.f101 3 [0, 1, 3, 7, 0, 16, 63, 127, 255, 511] = true := by kernel_rfl
theorem fa155_1 (x : AV) : fieldAddrA Try.prog 155 x 1 = addrPlus x 1 := by kernel_rfl
theorem ev79 (k : Nat) (x0 : AV) (H : Heap) : evalT Try.prog (mkHints tab) (k + 1) (.fn 79) [x0] H = trimO H.length (finishO Try.prog Try.f79.results.toList (evalCode Try.prog (cxG Try.prog (mkHints tab) k 79 none) (Try.f79.body.getD .skip) (fillArgs (fr 23 []) 0 [x0]) H)) := by
  have h := evalT_fn 23 Try.func79 rfl (by decide) rfl (P := Try.prog) (h := mkHints tab) (k := k) (args := [x0]) (H := H)
  rw [show (mkHints tab).slots 79 = 0 from rfl, show (List.replicate 0 AObj.slot) = [] from rfl, List.append_nil] at h
  exact h
theorem bs23_2_0_1 (H : Heap) (a0 a1 : IV) : buildSliceA Try.prog H 23 2 [(0, .c a0), (1, .c a1)] = some (.hsl H.length 0 2 (2 * 1) 1, H ++ [.row false 3 [a0, a1]]) := by kernel_rfl
theorem ev102 (k : Nat) (x0 x1 : AV) (H : Heap) : evalT Try.prog (mkHints tab) (k + 1) (.fn 102) [x0, x1] H = trimO H.length (finishO Try.prog Try.f102.results.toList (evalCode Try.prog (cxG Try.prog (mkHints tab) k 102 none) (Try.f102.body.getD .skip) (fillArgs (fr 100 []) 0 [x0, x1]) H)) := by
  have h := evalT_fn 100 Try.func102 rfl (by decide) rfl (P := Try.prog) (h := mkHints tab) (k := k) (args := [x0, x1]) (H := H)
  rw [show (mkHints tab).slots 102 = 0 from rfl, show (List.replicate 0 AObj.slot) = [] from rfl, List.append_nil] at h
  exact h
theorem ev113 (k : Nat) (x0 x1 x2 : AV) (H : Heap) : evalT Try.prog (mkHints tab) (k + 1) (.fn 113) [x0, x1, x2] H = trimO H.length (finishO Try.prog Try.f113.results.toList (evalCode Try.prog (cxG Try.prog (mkHints tab) k 113 none) (Try.f113.body.getD .skip) (fillArgs (fr 83 []) 0 [x0, x1, x2]) (H ++ [.slot, .slot]))) := evalT_fn 83 Try.func113 rfl (by decide) rfl
theorem sb113_0_2 : slotB tab.slots 113 0 2 = none := by rfl
theorem sb113_1_10 : slotB tab.slots 113 1 10 = some 1 := by rfl
theorem sb113_1_11 : slotB tab.slots 113 1 11 = some 2 := by rfl
theorem fsl113_4_3 : fslotB tab.fslots 113 4 3 = [] := by rfl
theorem kb113_4_3 : keepB tab.keeps 113 4 3 = false := by rfl
theorem fsl113_6_4 : fslotB tab.fslots 113 6 4 = [] := by rfl
theorem kb113_6_4 : keepB tab.keeps 113 6 4 = false := by rfl
theorem fsl113_8_4 : fslotB tab.fslots 113 8 4 = [] := by rfl
theorem kb113_8_4 : keepB tab.keeps 113 8 4 = false := by rfl
theorem fsl113_10_5 : fslotB tab.fslots 113 10 5 = [] := by rfl
theorem kb113_10_5 : keepB tab.keeps 113 10 5 = false := by rfl
theorem fsl113_10_6 : fslotB tab.fslots 113 10 6 = [] := by rfl
theorem kb113_10_6 : keepB tab.keeps 113 10 6 = false := by rfl
theorem fsl113_12_5 : fslotB tab.fslots 113 12 5 = [] := by rfl
theorem kb113_12_5 : keepB tab.keeps 113 12 5 = false := by rfl
theorem fsl113_12_6 : fslotB tab.fslots 113 12 6 = [] := by rfl
theorem kb113_12_6 : keepB tab.keeps 113 12 6 = false := by rfl
theorem fsl113_14_5 : fslotB tab.fslots 113 14 5 = [] := by rfl
theorem kb113_14_5 : keepB tab.keeps 113 14 5 = false := by rfl
theorem fsl113_14_6 : fslotB tab.fslots 113 14 6 = [] := by rfl
theorem kb113_14_6 : keepB tab.keeps 113 14 6 = false := by rfl
theorem fsl113_16_5 : fslotB tab.fslots 113 16 5 = [] := by rfl
theorem kb113_16_5 : keepB tab.keeps 113 16 5 = false := by rfl
theorem fsl113_16_6 : fslotB tab.fslots 113 16 6 = [] := by rfl
theorem kb113_16_6 : keepB tab.keeps 113 16 6 = false := by rfl
theorem dr113_1 : drawFact Try.f113 1 [0, 0, 2, 7, 15, 0, 0, 64, 224, 480, 0, 0, 3103, 8191] = true := by kernel_rfl
theorem fa145_0 (x : AV) : fieldAddrA Try.prog 145 x 0 = addrPlus x 0 := by kernel_rfl
theorem ag141 : isAggT Try.prog 141 = some false := by kernel_rfl
theorem sz141 : sizeT Try.prog 141 = some 1 := by kernel_rfl
theorem ldp141 (H : Heap) (id off : Nat) : loadA Try.prog H 141 (.ptr id off) = cellAt H[id]? off := by kernel_rfl
theorem ldi141 (H : Heap) (cells : List IV) (off : Nat) : loadA Try.prog H 141 (.c (.iptr cells off)) = (cells[off]?).map .c := by kernel_rfl
theorem lde141 (H : Heap) (id off ext : Nat) : loadA Try.prog H 141 (.eptr id off ext) = (rowOf H id ext).bind fun r => (r.2[off]?).map .c := by kernel_rfl
theorem fa145_1 (x : AV) : fieldAddrA Try.prog 145 x 1 = addrPlus x 1 := by kernel_rfl
theorem ag142 : isAggT Try.prog 142 = some false := by kernel_rfl
theorem sz142 : sizeT Try.prog 142 = some 1 := by kernel_rfl
theorem ldp142 (H : Heap) (id off : Nat) : loadA Try.prog H 142 (.ptr id off) = cellAt H[id]? off := by kernel_rfl
theorem ldi142 (H : Heap) (cells : List IV) (off : Nat) : loadA Try.prog H 142 (.c (.iptr cells off)) = (cells[off]?).map .c := by kernel_rfl
theorem lde142 (H : Heap) (id off ext : Nat) : loadA Try.prog H 142 (.eptr id off ext) = (rowOf H id ext).bind fun r => (r.2[off]?).map .c := by kernel_rfl
theorem fa145_2 (x : AV) : fieldAddrA Try.prog 145 x 2 = addrPlus x 2 := by kernel_rfl
theorem fa145_3 (x : AV) : fieldAddrA Try.prog 145 x 3 = addrPlus x 3 := by kernel_rfl
theorem dr113_10 : drawFact Try.f113 10 [0, 1, 0, 0, 8, 24, 63, 127, 255] = true := by kernel_rfl
theorem dr113_12 : drawFact Try.f113 12 [0, 1, 0, 0, 8, 24, 63, 127, 255] = true := by kernel_rfl
theorem fa145_4 (x : AV) : fieldAddrA Try.prog 145 x 4 = addrPlus x 4 := by kernel_rfl
theorem ag143 : isAggT Try.prog 143 = some false := by kernel_rfl
theorem sz143 : sizeT Try.prog 143 = some 1 := by kernel_rfl
theorem ldp143 (H : Heap) (id off : Nat) : loadA Try.prog H 143 (.ptr id off) = cellAt H[id]? off := by kernel_rfl
theorem ldi143 (H : Heap) (cells : List IV) (off : Nat) : loadA Try.prog H 143 (.c (.iptr cells off)) = (cells[off]?).map .c := by kernel_rfl
theorem lde143 (H : Heap) (id off ext : Nat) : loadA Try.prog H 143 (.eptr id off ext) = (rowOf H id ext).bind fun r => (r.2[off]?).map .c := by kernel_rfl
theorem dr113_14 : drawFact Try.f113 14 [0, 1, 0, 0, 8, 24, 63, 127, 127, 511, 1023] = true := by kernel_rfl
theorem dr113_16 : drawFact Try.f113 16 [0, 1, 0, 0, 8, 24, 63, 127, 127, 511, 1023] = true := by kernel_rfl
theorem ev114 (k : Nat) (x0 : AV) (H : Heap) : evalT Try.prog (mkHints tab) (k + 1) (.fn 114) [x0] H = trimO H.length (finishO Try.prog Try.f114.results.toList (evalCode Try.prog (cxG Try.prog (mkHints tab) k 114 none) (Try.f114.body.getD .skip) (fillArgs (fr 9 []) 0 [x0]) H)) := by
  have h := evalT_fn 9 Try.func114 rfl (by decide) rfl (P := Try.prog) (h := mkHints tab) (k := k) (args := [x0]) (H := H)
  rw [show (mkHints tab).slots 114 = 0 from rfl, show (List.replicate 0 AObj.slot) = [] from rfl, List.append_nil] at h
  exact h
theorem sb114_0_1 : slotB tab.slots 114 0 1 = none := by rfl
theorem fsl114_1_5 : fslotB tab.fslots 114 1 5 = [] := by rfl
theorem kb114_1_5 : keepB tab.keeps 114 1 5 = false := by rfl
theorem fa140_0 (x : AV) : fieldAddrA Try.prog 140 x 0 = addrPlus x 0 := by kernel_rfl
theorem ag4 : isAggT Try.prog 4 = some false := by kernel_rfl
theorem sz4 : sizeT Try.prog 4 = some 1 := by kernel_rfl
theorem ldp4 (H : Heap) (id off : Nat) : loadA Try.prog H 4 (.ptr id off) = cellAt H[id]? off := by kernel_rfl
theorem ldi4 (H : Heap) (cells : List IV) (off : Nat) : loadA Try.prog H 4 (.c (.iptr cells off)) = (cells[off]?).map .c := by kernel_rfl
theorem lde4 (H : Heap) (id off ext : Nat) : loadA Try.prog H 4 (.eptr id off ext) = (rowOf H id ext).bind fun r => (r.2[off]?).map .c := by kernel_rfl
theorem fa140_1 (x : AV) : fieldAddrA Try.prog 140 x 1 = addrPlus x 1 := by kernel_rfl
theorem ag41 : isAggT Try.prog 41 = some false := by kernel_rfl
theorem sz41 : sizeT Try.prog 41 = some 1 := by kernel_rfl
theorem ldp41 (H : Heap) (id off : Nat) : loadA Try.prog H 41 (.ptr id off) = cellAt H[id]? off := by kernel_rfl
theorem ldi41 (H : Heap) (cells : List IV) (off : Nat) : loadA Try.prog H 41 (.c (.iptr cells off)) = (cells[off]?).map .c := by kernel_rfl
theorem lde41 (H : Heap) (id off ext : Nat) : loadA Try.prog H 41 (.eptr id off ext) = (rowOf H id ext).bind fun r => (r.2[off]?).map .c := by kernel_rfl
theorem ev115 (k : Nat) (x0 x1 : AV) (H : Heap) : evalT Try.prog (mkHints tab) (k + 1) (.fn 115) [x0, x1] H = trimO H.length (finishO Try.prog Try.f115.results.toList (evalCode Try.prog (cxG Try.prog (mkHints tab) k 115 none) (Try.f115.body.getD .skip) (fillArgs (fr 40 []) 0 [x0, x1]) H)) := by
  have h := evalT_fn 40 Try.func115 rfl (by decide) rfl (P := Try.prog) (h := mkHints tab) (k := k) (args := [x0, x1]) (H := H)
  rw [show (mkHints tab).slots 115 = 0 from rfl, show (List.replicate 0 AObj.slot) = [] from rfl, List.append_nil] at h
  exact h
theorem sb115_0_2 : slotB tab.slots 115 0 2 = none := by rfl
theorem fsl115_2_6 : fslotB tab.fslots 115 2 6 = [] := by rfl
theorem kb115_2_6 : keepB tab.keeps 115 2 6 = false := by rfl
theorem fsl115_2_7 : fslotB tab.fslots 115 2 7 = [] := by rfl
theorem kb115_2_7 : keepB tab.keeps 115 2 7 = false := by rfl
theorem fsl115_3_4 : fslotB tab.fslots 115 3 4 = [] := by rfl
theorem kb115_3_4 : keepB tab.keeps 115 3 4 = false := by rfl
theorem fsl115_5_4 : fslotB tab.fslots 115 5 4 = [] := by rfl
theorem kb115_5_4 : keepB tab.keeps 115 5 4 = false := by rfl
theorem fsl115_6_3 : fslotB tab.fslots 115 6 3 = [] := by rfl
theorem kb115_6_3 : keepB tab.keeps 115 6 3 = false := by rfl
theorem eqb4 (H : Heap) (a b : Bool) : binA Try.prog H .eql 4 (.c (.bool a)) (.c (.bool b)) = some (.c (.bool ((a == b)))) := by kernel_rfl
theorem dr115_2 : drawFact Try.f115 2 [0, 1, 0, 4, 0, 16, 60, 127, 255] = true := by kernel_rfl
theorem ev116 (k : Nat) (x0 x1 : AV) (H : Heap) : evalT Try.prog (mkHints tab) (k + 1) (.fn 116) [x0, x1] H = trimO H.length (finishO Try.prog Try.f116.results.toList (evalCode Try.prog (cxG Try.prog (mkHints tab) k 116 none) (Try.f116.body.getD .skip) (fillArgs (fr 9 []) 0 [x0, x1]) H)) := by
  have h := evalT_fn 9 Try.func116 rfl (by decide) rfl (P := Try.prog) (h := mkHints tab) (k := k) (args := [x0, x1]) (H := H)
  rw [show (mkHints tab).slots 116 = 0 from rfl, show (List.replicate 0 AObj.slot) = [] from rfl, List.append_nil] at h
  exact h
theorem sb116_0_2 : slotB tab.slots 116 0 2 = none := by rfl
theorem fsl116_1_2 : fslotB tab.fslots 116 1 2 = [] := by rfl
theorem kb116_1_2 : keepB tab.keeps 116 1 2 = false := by rfl
theorem fsl116_1_3 : fslotB tab.fslots 116 1 3 = [] := by rfl
theorem kb116_1_3 : keepB tab.keeps 116 1 3 = false := by rfl
theorem dr116_1 : drawFact Try.f116 1 [0, 0, 2, 7, 15] = true := by kernel_rfl
theorem ev117 (k : Nat) (x0 x1 : AV) (H : Heap) : evalT Try.prog (mkHints tab) (k + 1) (.fn 117) [x0, x1] H = trimO H.length (finishO Try.prog Try.f117.results.toList (evalCode Try.prog (cxG Try.prog (mkHints tab) k 117 none) (Try.f117.body.getD .skip) (fillArgs (fr 16 []) 0 [x0, x1]) H)) := by
  have h := evalT_fn 16 Try.func117 rfl (by decide) rfl (P := Try.prog) (h := mkHints tab) (k := k) (args := [x0, x1]) (H := H)
  rw [show (mkHints tab).slots 117 = 0 from rfl, show (List.replicate 0 AObj.slot) = [] from rfl, List.append_nil] at h
  exact h
theorem sb117_0_2 : slotB tab.slots 117 0 2 = none := by rfl
theorem fsl117_1_9 : fslotB tab.fslots 117 1 9 = [] := by rfl
theorem kb117_1_9 : keepB tab.keeps 117 1 9 = false := by rfl
theorem fsl117_1_10 : fslotB tab.fslots 117 1 10 = [] := by rfl
theorem kb117_1_10 : keepB tab.keeps 117 1 10 = false := by rfl
theorem neb4 (H : Heap) (a b : Bool) : binA Try.prog H .neq 4 (.c (.bool a)) (.c (.bool b)) = some (.c (.bool (!(a == b)))) := by kernel_rfl
theorem dr117_1 : drawFact Try.f117 1 [0, 1, 0, 4, 15, 0, 32, 0, 128, 480, 1023, 2047] = true := by kernel_rfl
theorem ev118 (k : Nat) (x0 x1 : AV) (H : Heap) : evalT Try.prog (mkHints tab) (k + 1) (.fn 118) [x0, x1] H = trimO H.length (finishO Try.prog Try.f118.results.toList (evalCode Try.prog (cxG Try.prog (mkHints tab) k 118 none) (Try.f118.body.getD .skip) (fillArgs (fr 20 []) 0 [x0, x1]) H)) := by
  have h := evalT_fn 20 Try.func118 rfl (by decide) rfl (P := Try.prog) (h := mkHints tab) (k := k) (args := [x0, x1]) (H := H)
  rw [show (mkHints tab).slots 118 = 0 from rfl, show (List.replicate 0 AObj.slot) = [] from rfl, List.append_nil] at h
  exact h
theorem sb118_0_2 : slotB tab.slots 118 0 2 = none := by rfl
theorem fsl118_1_2 : fslotB tab.fslots 118 1 2 = [] := by rfl
theorem kb118_1_2 : keepB tab.keeps 118 1 2 = false := by rfl
theorem sb118_1_7 : slotB tab.slots 118 1 7 = none := by rfl
theorem sb118_1_8 : slotB tab.slots 118 1 8 = none := by rfl
theorem fsl118_2_2 : fslotB tab.fslots 118 2 2 = [] := by rfl
theorem kb118_2_2 : keepB tab.keeps 118 2 2 = false := by rfl
theorem dr118_2 : drawFact Try.f118 2 [0, 0, 2, 6, 7, 31] = true := by kernel_rfl
theorem ev121 (k : Nat) (x0 x1 : AV) (H : Heap) : evalT Try.prog (mkHints tab) (k + 1) (.fn 121) [x0, x1] H = trimO H.length (finishO Try.prog Try.f121.results.toList (evalCode Try.prog (cxG Try.prog (mkHints tab) k 121 none) (Try.f121.body.getD .skip) (fillArgs (fr 9 []) 0 [x0, x1]) H)) := by
  have h := evalT_fn 9 Try.func121 rfl (by decide) rfl (P := Try.prog) (h := mkHints tab) (k := k) (args := [x0, x1]) (H := H)
  rw [show (mkHints tab).slots 121 = 0 from rfl, show (List.replicate 0 AObj.slot) = [] from rfl, List.append_nil] at h
  exact h
theorem sb121_0_0 : slotB tab.slots 121 0 0 = none := by rfl
theorem fsl121_1_2 : fslotB tab.fslots 121 1 2 = [] := by rfl
theorem kb121_1_2 : keepB tab.keeps 121 1 2 = false := by rfl
theorem fsl121_1_3 : fslotB tab.fslots 121 1 3 = [] := by rfl
theorem kb121_1_3 : keepB tab.keeps 121 1 3 = false := by rfl
theorem ev99 (k : Nat) (x0 x1 : AV) (H : Heap) : evalT Try.prog (mkHints tab) (k + 1) (.fn 99) [x0, x1] H = trimO H.length (finishO Try.prog Try.f99.results.toList (evalCode Try.prog (cxG Try.prog (mkHints tab) k 99 none) (Try.f99.body.getD .skip) (fillArgs (fr 28 []) 0 [x0, x1]) H)) := by
  have h := evalT_fn 28 Try.func99 rfl (by decide) rfl (P := Try.prog) (h := mkHints tab) (k := k) (args := [x0, x1]) (H := H)
  rw [show (mkHints tab).slots 99 = 0 from rfl, show (List.replicate 0 AObj.slot) = [] from rfl, List.append_nil] at h
  exact h
theorem fsl99_2_4 : fslotB tab.fslots 99 2 4 = [] := by rfl
theorem kb99_2_4 : keepB tab.keeps 99 2 4 = false := by rfl
theorem fsl99_7_4 : fslotB tab.fslots 99 7 4 = [] := by rfl
theorem kb99_7_4 : keepB tab.keeps 99 7 4 = false := by rfl
theorem ev123 (k : Nat) (x0 : AV) (H : Heap) : evalT Try.prog (mkHints tab) (k + 1) (.fn 123) [x0] H = trimO H.length (finishO Try.prog Try.f123.results.toList (evalCode Try.prog (cxG Try.prog (mkHints tab) k 123 none) (Try.f123.body.getD .skip) (fillArgs (fr 9 []) 0 [x0]) H)) := by
  have h := evalT_fn 9 Try.func123 rfl (by decide) rfl (P := Try.prog) (h := mkHints tab) (k := k) (args := [x0]) (H := H)
  rw [show (mkHints tab).slots 123 = 0 from rfl, show (List.replicate 0 AObj.slot) = [] from rfl, List.append_nil] at h
  exact h
theorem ev124 (k : Nat) (x0 : AV) (H : Heap) : evalT Try.prog (mkHints tab) (k + 1) (.fn 124) [x0] H = trimO H.length (finishO Try.prog Try.f124.results.toList (evalCode Try.prog (cxG Try.prog (mkHints tab) k 124 none) (Try.f124.body.getD .skip) (fillArgs (fr 35 []) 0 [x0]) H)) := by
  have h := evalT_fn 35 Try.func124 rfl (by decide) rfl (P := Try.prog) (h := mkHints tab) (k := k) (args := [x0]) (H := H)
  rw [show (mkHints tab).slots 124 = 0 from rfl, show (List.replicate 0 AObj.slot) = [] from rfl, List.append_nil] at h
  exact h
theorem ev129 (k : Nat) (x0 : AV) (H : Heap) : evalT Try.prog (mkHints tab) (k + 1) (.fn 129) [x0] H = trimO H.length (finishO Try.prog Try.f129.results.toList (evalCode Try.prog (cxG Try.prog (mkHints tab) k 129 none) (Try.f129.body.getD .skip) (fillArgs (fr 12 []) 0 [x0]) H)) := by
  have h := evalT_fn 12 Try.func129 rfl (by decide) rfl (P := Try.prog) (h := mkHints tab) (k := k) (args := [x0]) (H := H)
  rw [show (mkHints tab).slots 129 = 0 from rfl, show (List.replicate 0 AObj.slot) = [] from rfl, List.append_nil] at h
  exact h
theorem sb129_0_0 : slotB tab.slots 129 0 0 = none := by rfl
theorem fsl129_1_0 : fslotB tab.fslots 129 1 0 = [] := by rfl
theorem kb129_1_0 : keepB tab.keeps 129 1 0 = false := by rfl
theorem fsl129_1_2 : fslotB tab.fslots 129 1 2 = [] := by rfl
theorem kb129_1_2 : keepB tab.keeps 129 1 2 = false := by rfl
theorem sb129_1_6 : slotB tab.slots 129 1 6 = none := by rfl
theorem ev130 (k : Nat) (x0 x1 : AV) (H : Heap) : evalT Try.prog (mkHints tab) (k + 1) (.fn 130) [x0, x1] H = trimO H.length (finishO Try.prog Try.f130.results.toList (evalCode Try.prog (cxG Try.prog (mkHints tab) k 130 none) (Try.f130.body.getD .skip) (fillArgs (fr 13 []) 0 [x0, x1]) H)) := by
  have h := evalT_fn 13 Try.func130 rfl (by decide) rfl (P := Try.prog) (h := mkHints tab) (k := k) (args := [x0, x1]) (H := H)
  rw [show (mkHints tab).slots 130 = 0 from rfl, show (List.replicate 0 AObj.slot) = [] from rfl, List.append_nil] at h
  exact h
theorem sb130_0_0 : slotB tab.slots 130 0 0 = none := by rfl
theorem ln41 (cells : List IV) (n : Nat) (nl : Bool) (cap : Option Nat) : lenA Try.prog 41 (.c (.slice cells n nl cap)) = some (.c (.int .i64 n)) := by kernel_rfl
theorem lnv41 (s n sz : Nat) : lenA Try.prog 41 (lv s sz n) = some (.c (.int .i64 n)) := by
  unfold lv; split
  · rename_i h; subst h; kernel_rfl
  · kernel_rfl
theorem lnh41 (id off n ext sz : Nat) : lenA Try.prog 41 (.hsl id off n ext sz) = some (.c (.int .i64 n)) := by kernel_rfl
theorem bd140_0_1_h1 (a0 : IV) (v1 : AV) (hv1 : v1.isCell = true) : buildA Try.prog 140 [(0, .c a0), (1, v1)] = some (.agg [.c a0, v1]) := by
  cases v1 <;> first | (cases hv1; done) | kernel_rfl
theorem bd140_0_1 (a0 a1 : IV) : buildA Try.prog 140 [(0, .c a0), (1, .c a1)] = some (.agg [.c a0, .c a1]) := by kernel_rfl
theorem ev122 (k : Nat) (x0 x1 : AV) (H : Heap) : evalT Try.prog (mkHints tab) (k + 1) (.fn 122) [x0, x1] H = trimO H.length (finishO Try.prog Try.f122.results.toList (evalCode Try.prog (cxG Try.prog (mkHints tab) k 122 none) (Try.f122.body.getD .skip) (fillArgs (fr 49 []) 0 [x0, x1]) H)) := by
  have h := evalT_fn 49 Try.func122 rfl (by decide) rfl (P := Try.prog) (h := mkHints tab) (k := k) (args := [x0, x1]) (H := H)
  rw [show (mkHints tab).slots 122 = 0 from rfl, show (List.replicate 0 AObj.slot) = [] from rfl, List.append_nil] at h
  exact h
theorem fsl122_1_1 : fslotB tab.fslots 122 1 1 = [] := by rfl
theorem kb122_1_1 : keepB tab.keeps 122 1 1 = false := by rfl
theorem fsl122_1_3 : fslotB tab.fslots 122 1 3 = [] := by rfl
theorem kb122_1_3 : keepB tab.keeps 122 1 3 = false := by rfl
theorem ag102 : isAggT Try.prog 102 = some false := by kernel_rfl
theorem sz102 : sizeT Try.prog 102 = some 1 := by kernel_rfl
theorem ia41 (H : Heap) (cells : List IV) (len : Nat) (nl : Bool) (cap : Option Nat) (k : IntKind) (i : Int) : indexAddrA Try.prog H 41 (.c (.slice cells len nl cap)) (.c (.int k i)) = if 0 ≤ i ∧ i < len then some (.c (.iptr cells (i.toNat * 1))) else none := by kernel_rfl
theorem iah41 (H : Heap) (id off len ext sz : Nat) (k : IntKind) (i : Int) : indexAddrA Try.prog H 41 (.hsl id off len ext sz) (.c (.int k i)) = if 0 ≤ i ∧ i < len ∧ sz = 1 ∧ (rowOf H id ext).isSome = true then some (.eptr id (off + i.toNat * 1) ext) else none := by kernel_rfl
theorem ldp102 (H : Heap) (id off : Nat) : loadA Try.prog H 102 (.ptr id off) = cellAt H[id]? off := by kernel_rfl
theorem ldi102 (H : Heap) (cells : List IV) (off : Nat) : loadA Try.prog H 102 (.c (.iptr cells off)) = (cells[off]?).map .c := by kernel_rfl
theorem lde102 (H : Heap) (id off ext : Nat) : loadA Try.prog H 102 (.eptr id off ext) = (rowOf H id ext).bind fun r => (r.2[off]?).map .c := by kernel_rfl
theorem dr122_9 : drawFact Try.f122 9 [0, 0, 3, 7, 0, 0, 48, 112, 255, 511] = true := by kernel_rfl
theorem dr122_11 : drawFact Try.f122 11 [0, 0, 3, 7, 0, 0, 48, 112, 255, 511] = true := by kernel_rfl
theorem ev131 (k : Nat) (x0 x1 : AV) (H : Heap) : evalT Try.prog (mkHints tab) (k + 1) (.fn 131) [x0, x1] H = trimO H.length (finishO Try.prog Try.f131.results.toList (evalCode Try.prog (cxG Try.prog (mkHints tab) k 131 none) (Try.f131.body.getD .skip) (fillArgs (fr 58 []) 0 [x0, x1]) H)) := by
  have h := evalT_fn 58 Try.func131 rfl (by decide) rfl (P := Try.prog) (h := mkHints tab) (k := k) (args := [x0, x1]) (H := H)
  rw [show (mkHints tab).slots 131 = 0 from rfl, show (List.replicate 0 AObj.slot) = [] from rfl, List.append_nil] at h
  exact h
theorem sb131_3_3 : slotB tab.slots 131 3 3 = none := by rfl
theorem fsl131_15_1 : fslotB tab.fslots 131 15 1 = [] := by rfl
theorem kb131_15_1 : keepB tab.keeps 131 15 1 = false := by rfl
theorem ms41 (H : Heap) (l c : Int) : makeSliceA Try.prog H none 41 (.c (.int .i64 l)) (.c (.int .i64 c)) = if 0 ≤ l ∧ l = c ∧ c.toNat * 4 ≤ roomBytes ∧ c.toNat ≤ roomBytes ∧ 1 = 1 ∧ 0 < 1 then some (.hsl H.length 0 l.toNat (c.toNat * 1) 1, H ++ [.row false 102 ((List.replicate c.toNat [.int .u32 0]).flatten)]) else none := by kernel_rfl
theorem cv102_101 (k : IntKind) (n : Int) : convA Try.prog 102 101 (.c (.int k n)) = some (.c (.int .u64 (IntKind.wrap .u64 n))) := by kernel_rfl
theorem ev132 (k : Nat) (x0 x1 : AV) (H : Heap) : evalT Try.prog (mkHints tab) (k + 1) (.fn 132) [x0, x1] H = trimO H.length (finishO Try.prog Try.f132.results.toList (evalCode Try.prog (cxG Try.prog (mkHints tab) k 132 none) (Try.f132.body.getD .skip) (fillArgs (fr 53 []) 0 [x0, x1]) H)) := by
  have h := evalT_fn 53 Try.func132 rfl (by decide) rfl (P := Try.prog) (h := mkHints tab) (k := k) (args := [x0, x1]) (H := H)
  rw [show (mkHints tab).slots 132 = 0 from rfl, show (List.replicate 0 AObj.slot) = [] from rfl, List.append_nil] at h
  exact h
theorem fsl132_1_2 : fslotB tab.fslots 132 1 2 = [] := by rfl
theorem kb132_1_2 : keepB tab.keeps 132 1 2 = false := by rfl
theorem sb132_3_2 : slotB tab.slots 132 3 2 = none := by rfl
theorem fsl132_15_1 : fslotB tab.fslots 132 15 1 = [] := by rfl
theorem kb132_15_1 : keepB tab.keeps 132 15 1 = false := by rfl
theorem ev133 (k : Nat) (x0 x1 : AV) (H : Heap) : evalT Try.prog (mkHints tab) (k + 1) (.fn 133) [x0, x1] H = trimO H.length (finishO Try.prog Try.f133.results.toList (evalCode Try.prog (cxG Try.prog (mkHints tab) k 133 none) (Try.f133.body.getD .skip) (fillArgs (fr 67 []) 0 [x0, x1]) H)) := by
  have h := evalT_fn 67 Try.func133 rfl (by decide) rfl (P := Try.prog) (h := mkHints tab) (k := k) (args := [x0, x1]) (H := H)
  rw [show (mkHints tab).slots 133 = 0 from rfl, show (List.replicate 0 AObj.slot) = [] from rfl, List.append_nil] at h
  exact h
theorem sb133_1_5 : slotB tab.slots 133 1 5 = none := by rfl
theorem fsl133_15_1 : fslotB tab.fslots 133 15 1 = [] := by rfl
theorem kb133_15_1 : keepB tab.keeps 133 15 1 = false := by rfl
theorem ev119 (k : Nat) (x0 x1 : AV) (H : Heap) : evalT Try.prog (mkHints tab) (k + 1) (.fn 119) [x0, x1] H = trimO H.length (finishO Try.prog Try.f119.results.toList (evalCode Try.prog (cxG Try.prog (mkHints tab) k 119 none) (Try.f119.body.getD .skip) (fillArgs (fr 49 []) 0 [x0, x1]) (H ++ [.slot, .slot]))) := evalT_fn 49 Try.func119 rfl (by decide) rfl
theorem sb119_0_2 : slotB tab.slots 119 0 2 = none := by rfl
theorem sb119_0_3 : slotB tab.slots 119 0 3 = none := by rfl
theorem fsl119_1_4 : fslotB tab.fslots 119 1 4 = [] := by rfl
theorem kb119_1_4 : keepB tab.keeps 119 1 4 = false := by rfl
theorem fsl119_4_6 : fslotB tab.fslots 119 4 6 = [] := by rfl
theorem kb119_4_6 : keepB tab.keeps 119 4 6 = false := by rfl
theorem fsl119_4_10 : fslotB tab.fslots 119 4 10 = [] := by rfl
theorem kb119_4_10 : keepB tab.keeps 119 4 10 = false := by rfl
theorem sb119_4_11 : slotB tab.slots 119 4 11 = some 0 := by rfl
theorem sb119_4_12 : slotB tab.slots 119 4 12 = some 1 := by rfl
theorem fsl119_6_2 : fslotB tab.fslots 119 6 2 = [] := by rfl
theorem kb119_6_2 : keepB tab.keeps 119 6 2 = false := by rfl
theorem fsl119_6_3 : fslotB tab.fslots 119 6 3 = [] := by rfl
theorem kb119_6_3 : keepB tab.keeps 119 6 3 = false := by rfl
theorem fsl119_7_2 : fslotB tab.fslots 119 7 2 = [] := by rfl
theorem kb119_7_2 : keepB tab.keeps 119 7 2 = false := by rfl
theorem fsl119_7_3 : fslotB tab.fslots 119 7 3 = [] := by rfl
theorem kb119_7_3 : keepB tab.keeps 119 7 3 = false := by rfl
theorem fsl119_7_4 : fslotB tab.fslots 119 7 4 = [] := by rfl
theorem kb119_7_4 : keepB tab.keeps 119 7 4 = false := by rfl
theorem bd140_ : buildA Try.prog 140 [] = some (.agg [.c (.bool false), .c (.slice [] 0 true (some 0))]) := by kernel_rfl
theorem dr119_4 : drawFact Try.f119 4 [0, 1, 0, 4, 15, 0, 63, 0, 128, 0, 1023, 0, 0, 8191, 16383] = true := by kernel_rfl
theorem dr119_6 : drawFact Try.f119 6 [0, 0, 2, 7, 15] = true := by kernel_rfl
theorem dr119_7 : drawFact Try.f119 7 [0, 0, 2, 6, 15, 31] = true := by kernel_rfl
theorem dr119_8 : drawFact Try.f119 8 [0, 0, 1, 7, 15] = true := by kernel_rfl
theorem ev120 (k : Nat) (x0 : AV) (H : Heap) : evalT Try.prog (mkHints tab) (k + 1) (.fn 120) [x0] H = trimO H.length (finishO Try.prog Try.f120.results.toList (evalCode Try.prog (cxG Try.prog (mkHints tab) k 120 none) (Try.f120.body.getD .skip) (fillArgs (fr 11 []) 0 [x0]) H)) := by
  have h := evalT_fn 11 Try.func120 rfl (by decide) rfl (P := Try.prog) (h := mkHints tab) (k := k) (args := [x0]) (H := H)
  rw [show (mkHints tab).slots 120 = 0 from rfl, show (List.replicate 0 AObj.slot) = [] from rfl, List.append_nil] at h
  exact h
theorem ev136 (k : Nat) (x0 : AV) (H : Heap) : evalT Try.prog (mkHints tab) (k + 1) (.fn 136) [x0] H = trimO H.length (finishO Try.prog Try.f136.results.toList (evalCode Try.prog (cxG Try.prog (mkHints tab) k 136 none) (Try.f136.body.getD .skip) (fillArgs (fr 13 []) 0 [x0]) H)) := by
  have h := evalT_fn 13 Try.func136 rfl (by decide) rfl (P := Try.prog) (h := mkHints tab) (k := k) (args := [x0]) (H := H)
  rw [show (mkHints tab).slots 136 = 0 from rfl, show (List.replicate 0 AObj.slot) = [] from rfl, List.append_nil] at h
  exact h
theorem fsl136_1_1 : fslotB tab.fslots 136 1 1 = [] := by rfl
theorem kb136_1_1 : keepB tab.keeps 136 1 1 = false := by rfl
theorem sb136_2_2 : slotB tab.slots 136 2 2 = none := by rfl
theorem cp41 (H : Heap) (d s : AV) : copyA Try.prog H 41 d s = cpO 1 d H (srcOf H 1 s) := by kernel_rfl
theorem ev141 (k : Nat) (x0 x1 : AV) (H : Heap) : evalT Try.prog (mkHints tab) (k + 1) (.fn 141) [x0, x1] H = trimO H.length (finishO Try.prog Try.f141.results.toList (evalCode Try.prog (cxG Try.prog (mkHints tab) k 141 none) (Try.f141.body.getD .skip) (fillArgs (fr 23 []) 0 [x0, x1]) H)) := by
  have h := evalT_fn 23 Try.func141 rfl (by decide) rfl (P := Try.prog) (h := mkHints tab) (k := k) (args := [x0, x1]) (H := H)
  rw [show (mkHints tab).slots 141 = 0 from rfl, show (List.replicate 0 AObj.slot) = [] from rfl, List.append_nil] at h
  exact h
theorem sb141_0_1 : slotB tab.slots 141 0 1 = none := by rfl
theorem fsl141_1_3 : fslotB tab.fslots 141 1 3 = [] := by rfl
theorem kb141_1_3 : keepB tab.keeps 141 1 3 = false := by rfl
theorem fsl141_4_3 : fslotB tab.fslots 141 4 3 = [] := by rfl
theorem kb141_4_3 : keepB tab.keeps 141 4 3 = false := by rfl
theorem ev137 (k : Nat) (x0 : AV) (H : Heap) : evalT Try.prog (mkHints tab) (k + 1) (.fn 137) [x0] H = trimO H.length (finishO Try.prog Try.f137.results.toList (evalCode Try.prog (cxG Try.prog (mkHints tab) k 137 none) (Try.f137.body.getD .skip) (fillArgs (fr 22 []) 0 [x0]) H)) := by
  have h := evalT_fn 22 Try.func137 rfl (by decide) rfl (P := Try.prog) (h := mkHints tab) (k := k) (args := [x0]) (H := H)
  rw [show (mkHints tab).slots 137 = 0 from rfl, show (List.replicate 0 AObj.slot) = [] from rfl, List.append_nil] at h
  exact h
theorem sm41 (H : Heap) (cells : List IV) (len : Nat) (nl : Bool) (cap : Option Nat) (lo hi : Option AV) (m : AV) : sliceA Try.prog H 41 (.c (.slice cells len nl cap)) lo hi (some m) = sliceM 1 cells len nl lo hi m := by kernel_rfl
theorem ev134 (k : Nat) (x0 x1 : AV) (H : Heap) : evalT Try.prog (mkHints tab) (k + 1) (.fn 134) [x0, x1] H = trimO H.length (finishO Try.prog Try.f134.results.toList (evalCode Try.prog (cxG Try.prog (mkHints tab) k 134 none) (Try.f134.body.getD .skip) (fillArgs (fr 106 []) 0 [x0, x1]) (H ++ [.slot]))) := evalT_fn 106 Try.func134 rfl (by decide) rfl
theorem fsl134_1_1 : fslotB tab.fslots 134 1 1 = [] := by rfl
theorem kb134_1_1 : keepB tab.keeps 134 1 1 = false := by rfl
theorem fsl134_4_2 : fslotB tab.fslots 134 4 2 = [] := by rfl
theorem kb134_4_2 : keepB tab.keeps 134 4 2 = false := by rfl
theorem fsl134_5_1 : fslotB tab.fslots 134 5 1 = [] := by rfl
theorem kb134_5_1 : keepB tab.keeps 134 5 1 = false := by rfl
theorem fsl134_7_4 : fslotB tab.fslots 134 7 4 = [] := by rfl
theorem kb134_7_4 : keepB tab.keeps 134 7 4 = false := by rfl
theorem fsl134_8_3 : fslotB tab.fslots 134 8 3 = [] := by rfl
theorem kb134_8_3 : keepB tab.keeps 134 8 3 = false := by rfl
theorem fsl134_9_6 : fslotB tab.fslots 134 9 6 = [] := by rfl
theorem kb134_9_6 : keepB tab.keeps 134 9 6 = false := by rfl
theorem fsl134_10_2 : fslotB tab.fslots 134 10 2 = [] := by rfl
theorem kb134_10_2 : keepB tab.keeps 134 10 2 = false := by rfl
theorem fsl134_11_2 : fslotB tab.fslots 134 11 2 = [] := by rfl
theorem kb134_11_2 : keepB tab.keeps 134 11 2 = false := by rfl
theorem sb134_12_2 : slotB tab.slots 134 12 2 = some 0 := by rfl
theorem sb134_14_4 : slotB tab.slots 134 14 4 = none := by rfl
theorem fsl134_18_10 : fslotB tab.fslots 134 18 10 = [] := by rfl
theorem kb134_18_10 : keepB tab.keeps 134 18 10 = false := by rfl
theorem fsl134_19_2 : fslotB tab.fslots 134 19 2 = [] := by rfl
theorem kb134_19_2 : keepB tab.keeps 134 19 2 = false := by rfl
theorem fsl134_20_1 : fslotB tab.fslots 134 20 1 = [] := by rfl
theorem kb134_20_1 : keepB tab.keeps 134 20 1 = false := by rfl
theorem bs41_1_0 (H : Heap) (a0 : IV) : buildSliceA Try.prog H 41 1 [(0, .c a0)] = some (.hsl H.length 0 1 (1 * 1) 1, H ++ [.row false 102 [a0]]) := by kernel_rfl
theorem ap41 (H : Heap) (sl : Option Nat) (s x : AV) : appendA Try.prog H sl 41 s x = apO 102 1 4 sl s H (srcOf H 1 x) := by kernel_rfl
theorem sl41 (H : Heap) (x : AV) (lo hi : Option AV) : sliceA Try.prog H 41 x lo hi none = sliceO H 1 x lo hi := by kernel_rfl
theorem ev135 (k : Nat) (x0 : AV) (H : Heap) : evalT Try.prog (mkHints tab) (k + 1) (.fn 135) [x0] H = trimO H.length (finishO Try.prog Try.f135.results.toList (evalCode Try.prog (cxG Try.prog (mkHints tab) k 135 none) (Try.f135.body.getD .skip) (fillArgs (fr 6 []) 0 [x0]) H)) := by
  have h := evalT_fn 6 Try.func135 rfl (by decide) rfl (P := Try.prog) (h := mkHints tab) (k := k) (args := [x0]) (H := H)
  rw [show (mkHints tab).slots 135 = 0 from rfl, show (List.replicate 0 AObj.slot) = [] from rfl, List.append_nil] at h
  exact h
theorem sb135_0_1 : slotB tab.slots 135 0 1 = none := by rfl
theorem fsl135_1_2 : fslotB tab.fslots 135 1 2 = [] := by rfl
theorem kb135_1_2 : keepB tab.keeps 135 1 2 = false := by rfl
theorem ev144 (k : Nat) (x0 x1 : AV) (H : Heap) : evalT Try.prog (mkHints tab) (k + 1) (.fn 144) [x0, x1] H = trimO H.length (finishO Try.prog Try.f144.results.toList (evalCode Try.prog (cxG Try.prog (mkHints tab) k 144 none) (Try.f144.body.getD .skip) (fillArgs (fr 62 []) 0 [x0, x1]) H)) := by
  have h := evalT_fn 62 Try.func144 rfl (by decide) rfl (P := Try.prog) (h := mkHints tab) (k := k) (args := [x0, x1]) (H := H)
  rw [show (mkHints tab).slots 144 = 0 from rfl, show (List.replicate 0 AObj.slot) = [] from rfl, List.append_nil] at h
  exact h
theorem sb144_5_6 : slotB tab.slots 144 5 6 = none := by rfl
theorem fsl144_14_1 : fslotB tab.fslots 144 14 1 = [] := by rfl
theorem kb144_14_1 : keepB tab.keeps 144 14 1 = false := by rfl
theorem ev142 (k : Nat) (x0 x1 : AV) (H : Heap) : evalT Try.prog (mkHints tab) (k + 1) (.fn 142) [x0, x1] H = trimO H.length (finishO Try.prog Try.f142.results.toList (evalCode Try.prog (cxG Try.prog (mkHints tab) k 142 none) (Try.f142.body.getD .skip) (fillArgs (fr 46 []) 0 [x0, x1]) H)) := by
  have h := evalT_fn 46 Try.func142 rfl (by decide) rfl (P := Try.prog) (h := mkHints tab) (k := k) (args := [x0, x1]) (H := H)
  rw [show (mkHints tab).slots 142 = 0 from rfl, show (List.replicate 0 AObj.slot) = [] from rfl, List.append_nil] at h
  exact h
theorem sb142_3_2 : slotB tab.slots 142 3 2 = none := by rfl
theorem fsl142_11_1 : fslotB tab.fslots 142 11 1 = [] := by rfl
theorem kb142_11_1 : keepB tab.keeps 142 11 1 = false := by rfl
theorem ev143 (k : Nat) (x0 : AV) (H : Heap) : evalT Try.prog (mkHints tab) (k + 1) (.fn 143) [x0] H = trimO H.length (finishO Try.prog Try.f143.results.toList (evalCode Try.prog (cxG Try.prog (mkHints tab) k 143 none) (Try.f143.body.getD .skip) (fillArgs (fr 6 []) 0 [x0]) H)) := by
  have h := evalT_fn 6 Try.func143 rfl (by decide) rfl (P := Try.prog) (h := mkHints tab) (k := k) (args := [x0]) (H := H)
  rw [show (mkHints tab).slots 143 = 0 from rfl, show (List.replicate 0 AObj.slot) = [] from rfl, List.append_nil] at h
  exact h
theorem fsl143_1_1 : fslotB tab.fslots 143 1 1 = [] := by rfl
theorem kb143_1_1 : keepB tab.keeps 143 1 1 = false := by rfl
theorem ev145 (k : Nat) (x0 x1 : AV) (H : Heap) : evalT Try.prog (mkHints tab) (k + 1) (.fn 145) [x0, x1] H = trimO H.length (finishO Try.prog Try.f145.results.toList (evalCode Try.prog (cxG Try.prog (mkHints tab) k 145 none) (Try.f145.body.getD .skip) (fillArgs (fr 119 []) 0 [x0, x1]) H)) := by
  have h := evalT_fn 119 Try.func145 rfl (by decide) rfl (P := Try.prog) (h := mkHints tab) (k := k) (args := [x0, x1]) (H := H)
  rw [show (mkHints tab).slots 145 = 0 from rfl, show (List.replicate 0 AObj.slot) = [] from rfl, List.append_nil] at h
  exact h
theorem fsl145_8_3 : fslotB tab.fslots 145 8 3 = [] := by rfl
theorem kb145_8_3 : keepB tab.keeps 145 8 3 = false := by rfl
theorem dr145_2 : drawFact Try.f145 2 [0, 0, 3, 7, 15, 31, 0, 0, 128, 448, 960, 1984, 4095, 8191] = true := by kernel_rfl
theorem dr145_3 : drawFact Try.f145 3 [0, 0, 0, 4, 14, 30, 62, 127, 0, 0, 0, 1024, 3584, 7680, 15872, 32512, 255, 131071] = true := by kernel_rfl
theorem dr145_4 : drawFact Try.f145 4 [0, 1, 3, 7, 15, 15, 15, 79, 239, 495, 1007, 2047, 15, 4111, 15, 15, 32783, 114703, 245775, 507919, 1044495, 2097151, 4194303] = true := by kernel_rfl
theorem ev146 (k : Nat) (x0 x1 : AV) (H : Heap) : evalT Try.prog (mkHints tab) (k + 1) (.fn 146) [x0, x1] H = trimO H.length (finishO Try.prog Try.f146.results.toList (evalCode Try.prog (cxG Try.prog (mkHints tab) k 146 none) (Try.f146.body.getD .skip) (fillArgs (fr 62 []) 0 [x0, x1]) H)) := by
  have h := evalT_fn 62 Try.func146 rfl (by decide) rfl (P := Try.prog) (h := mkHints tab) (k := k) (args := [x0, x1]) (H := H)
  rw [show (mkHints tab).slots 146 = 0 from rfl, show (List.replicate 0 AObj.slot) = [] from rfl, List.append_nil] at h
  exact h
theorem fsl146_3_1 : fslotB tab.fslots 146 3 1 = [] := by rfl
theorem kb146_3_1 : keepB tab.keeps 146 3 1 = false := by rfl
theorem sb146_8_2 : slotB tab.slots 146 8 2 = none := by rfl
theorem fsl146_17_1 : fslotB tab.fslots 146 17 1 = [] := by rfl
theorem kb146_17_1 : keepB tab.keeps 146 17 1 = false := by rfl
theorem ev152 (k : Nat) (x0 : AV) (H : Heap) : evalT Try.prog (mkHints tab) (k + 1) (.fn 152) [x0] H = trimO H.length (finishO Try.prog Try.f152.results.toList (evalCode Try.prog (cxG Try.prog (mkHints tab) k 152 none) (Try.f152.body.getD .skip) (fillArgs (fr 19 []) 0 [x0]) H)) := by
  have h := evalT_fn 19 Try.func152 rfl (by decide) rfl (P := Try.prog) (h := mkHints tab) (k := k) (args := [x0]) (H := H)
  rw [show (mkHints tab).slots 152 = 0 from rfl, show (List.replicate 0 AObj.slot) = [] from rfl, List.append_nil] at h
  exact h
theorem cv102_5 (k : IntKind) (n : Int) : convA Try.prog 102 5 (.c (.int k n)) = some (.c (.int .u8 (IntKind.wrap .u8 n))) := by kernel_rfl
theorem cv5_3 (k : IntKind) (n : Int) : convA Try.prog 5 3 (.c (.int k n)) = some (.c (.int .i64 (IntKind.wrap .i64 n))) := by kernel_rfl
theorem ev153 (k : Nat) (x0 x1 x2 : AV) (H : Heap) : evalT Try.prog (mkHints tab) (k + 1) (.fn 153) [x0, x1, x2] H = trimO H.length (finishO Try.prog Try.f153.results.toList (evalCode Try.prog (cxG Try.prog (mkHints tab) k 153 none) (Try.f153.body.getD .skip) (fillArgs (fr 52 []) 0 [x0, x1, x2]) H)) := by
  have h := evalT_fn 52 Try.func153 rfl (by decide) rfl (P := Try.prog) (h := mkHints tab) (k := k) (args := [x0, x1, x2]) (H := H)
  rw [show (mkHints tab).slots 153 = 0 from rfl, show (List.replicate 0 AObj.slot) = [] from rfl, List.append_nil] at h
  exact h
theorem lbe16_7 (cx : Cx) (F : Fr) (H : Heap) : evalCode Try.prog cx LB16_7 F H = evalCode Try.prog cx (loopOf Try.f16 7) F H := rfl
theorem lbe16_19 (cx : Cx) (F : Fr) (H : Heap) : evalCode Try.prog cx LB16_19 F H = evalCode Try.prog cx (loopOf Try.f16 19) F H := rfl
theorem lbe21_3 (cx : Cx) (F : Fr) (H : Heap) : evalCode Try.prog cx LB21_3 F H = evalCode Try.prog cx (loopOf Try.f21 3) F H := rfl
theorem lbe55_11 (cx : Cx) (F : Fr) (H : Heap) : evalCode Try.prog cx LB55_11 F H = evalCode Try.prog cx (loopOf Try.f55 11) F H := rfl
theorem lbe56_3 (cx : Cx) (F : Fr) (H : Heap) : evalCode Try.prog cx LB56_3 F H = evalCode Try.prog cx (loopOf Try.f56 3) F H := rfl
theorem lbe57_3 (cx : Cx) (F : Fr) (H : Heap) : evalCode Try.prog cx LB57_3 F H = evalCode Try.prog cx (loopOf Try.f57 3) F H := rfl
theorem lbe62_4 (cx : Cx) (F : Fr) (H : Heap) : evalCode Try.prog cx LB62_4 F H = evalCode Try.prog cx (loopOf Try.f62 4) F H := rfl
theorem lbe62_10 (cx : Cx) (F : Fr) (H : Heap) : evalCode Try.prog cx LB62_10 F H = evalCode Try.prog cx (loopOf Try.f62 10) F H := rfl
theorem lbe63_3 (cx : Cx) (F : Fr) (H : Heap) : evalCode Try.prog cx LB63_3 F H = evalCode Try.prog cx (loopOf Try.f63 3) F H := rfl
theorem lbe66_2 (cx : Cx) (F : Fr) (H : Heap) : evalCode Try.prog cx LB66_2 F H = evalCode Try.prog cx (loopOf Try.f66 2) F H := rfl
theorem lbe67_4 (cx : Cx) (F : Fr) (H : Heap) : evalCode Try.prog cx LB67_4 F H = evalCode Try.prog cx (loopOf Try.f67 4) F H := rfl
theorem lbe67_9 (cx : Cx) (F : Fr) (H : Heap) : evalCode Try.prog cx LB67_9 F H = evalCode Try.prog cx (loopOf Try.f67 9) F H := rfl
theorem lbe92_2 (cx : Cx) (F : Fr) (H : Heap) : evalCode Try.prog cx LB92_2 F H = evalCode Try.prog cx (loopOf Try.f92 2) F H := rfl
theorem lbe96_6 (cx : Cx) (F : Fr) (H : Heap) : evalCode Try.prog cx LB96_6 F H = evalCode Try.prog cx (loopOf Try.f96 6) F H := rfl
theorem lbe100_4 (cx : Cx) (F : Fr) (H : Heap) : evalCode Try.prog cx LB100_4 F H = evalCode Try.prog cx (loopOf Try.f100 4) F H := rfl
theorem lbe122_7 (cx : Cx) (F : Fr) (H : Heap) : evalCode Try.prog cx LB122_7 F H = evalCode Try.prog cx (loopOf Try.f122 7) F H := rfl
theorem lbe131_6 (cx : Cx) (F : Fr) (H : Heap) : evalCode Try.prog cx LB131_6 F H = evalCode Try.prog cx (loopOf Try.f131 6) F H := rfl
theorem lbe132_6 (cx : Cx) (F : Fr) (H : Heap) : evalCode Try.prog cx LB132_6 F H = evalCode Try.prog cx (loopOf Try.f132 6) F H := rfl
theorem lbe133_3 (cx : Cx) (F : Fr) (H : Heap) : evalCode Try.prog cx LB133_3 F H = evalCode Try.prog cx (loopOf Try.f133 3) F H := rfl
theorem lbe133_7 (cx : Cx) (F : Fr) (H : Heap) : evalCode Try.prog cx LB133_7 F H = evalCode Try.prog cx (loopOf Try.f133 7) F H := rfl
theorem lbe134_16 (cx : Cx) (F : Fr) (H : Heap) : evalCode Try.prog cx LB134_16 F H = evalCode Try.prog cx (loopOf Try.f134 16) F H := rfl
theorem lbe137_2 (cx : Cx) (F : Fr) (H : Heap) : evalCode Try.prog cx LB137_2 F H = evalCode Try.prog cx (loopOf Try.f137 2) F H := rfl
theorem lbe142_6 (cx : Cx) (F : Fr) (H : Heap) : evalCode Try.prog cx LB142_6 F H = evalCode Try.prog cx (loopOf Try.f142 6) F H := rfl
theorem lbe144_8 (cx : Cx) (F : Fr) (H : Heap) : evalCode Try.prog cx LB144_8 F H = evalCode Try.prog cx (loopOf Try.f144 8) F H := rfl
theorem lbe145_4 (cx : Cx) (F : Fr) (H : Heap) : evalCode Try.prog cx LB145_4 F H = evalCode Try.prog cx (loopOf Try.f145 4) F H := rfl
theorem lbe145_13 (cx : Cx) (F : Fr) (H : Heap) : evalCode Try.prog cx LB145_13 F H = evalCode Try.prog cx (loopOf Try.f145 13) F H := rfl
theorem lbe146_10 (cx : Cx) (F : Fr) (H : Heap) : evalCode Try.prog cx LB146_10 F H = evalCode Try.prog cx (loopOf Try.f146 10) F H := rfl
theorem lbe153_3 (cx : Cx) (F : Fr) (H : Heap) : evalCode Try.prog cx LB153_3 F H = evalCode Try.prog cx (loopOf Try.f153 3) F H := rfl
theorem FACTS : type_of% (J (J (J @fb11 @fb13 @fb14 @fb16 @fb17 @fb21 @fb55 @fb56) (J @fb57 @fb58 @fb62 @fb63 @fb64 @fb65 @fb66 @fb67) (J @fb91 @fb92 @fb93 @fb94 @fb95 @fb96 @fb100 @fb101) (J @fb79 @fb102 @fb113 @fb114 @fb115 @fb116 @fb117 @fb118) (J @fb121 @fb99 @fb123 @fb124 @fb129 @fb130 @fb122 @fb131) (J @fb132 @fb133 @fb119 @fb120 @fb136 @fb141 @fb137 @fb134) (J @fb135 @fb144 @fb142 @fb143 @fb145 @fb146 @fb152 @fb153) (J @fsl11_1_0 @kb11_1_0 @fsl11_3_1 @kb11_3_1 @fsl11_4_1 @kb11_4_1 @fsl11_4_15 @kb11_4_15)) (J (J @fsl11_6_1 @kb11_6_1 @sb11_6_5 @fsl11_9_2 @kb11_9_2 @fsl11_9_3 @kb11_9_3 @fsl11_10_2) (J @kb11_10_2 @fsl11_10_3 @kb11_10_3 @fsl11_11_1 @kb11_11_1 @fsl11_11_3 @kb11_11_3 @sb11_11_4) (J @sb11_11_5 @fsl11_12_6 @kb11_12_6 @ldp25 @ldi25 @lde25 @ln38 @lnv38) (J @lnh38 @fa25_0 @ldp3 @ldi3 @lde3 @al25 @fa25_2 @ldp22) (J @ldi22 @lde22 @ln22 @lnv22 @lnh22 @fa25_1 @al85 @iaa85) (J @fsl13_1_4 @kb13_1_4 @sb13_1_8 @bd34_0_1 @bs22_1_0 @bs23_1_0 @bd25_0_1_2_3_h1 @bd25_0_1_2_3_h2) (J @bd25_0_1_2_3_h3 @bd25_0_1_2_3 @fa25_3 @ldp23 @ldi23 @lde23 @ln23 @lnv23) (J @lnh23 @ia23 @iah23 @sb16_0_1 @fsl16_1_1 @kb16_1_1 @fsl16_4_1 @kb16_4_1)) (J (J @sb16_5_5 @sb16_8_3 @fsl16_9_3 @kb16_9_3 @fsl16_10_2 @kb16_10_2 @fsl16_12_2 @kb16_12_2) (J @sb16_15_4 @fsl16_21_10 @kb16_21_10 @sb16_21_12 @bd25_ @bd25_0_1 @ia22 @iah22) (J @ldp34 @ldi34 @lde34 @al34 @fa97_0 @fa34_1 @bd34_0_1_2 @ap22) (J @ap23 @fsl17_1_1 @kb17_1_1 @fa34_0 @fsl55_1_3 @kb55_1_3 @sb55_4_2 @fsl55_6_0) (J @kb55_6_0 @fsl55_6_3 @kb55_6_3 @sb55_13_6 @ln81 @lnv81 @lnh81 @ms81) (J @cp81 @ia81 @iah81 @ldp140 @ldi140 @lde140 @bs81_1_0 @ap81) (J @fsl56_5_2 @kb56_5_2 @sb56_5_4 @ia38 @iah38 @ldp2 @ldi2 @lde2) (J @sb57_0_1 @sb57_1_0 @ldp85 @ldi85 @lde85 @fsl58_1_2 @kb58_1_2 @sb62_11_3)) (J (J @fsl62_12_3 @kb62_12_3 @sb63_5_10 @bd97_1_2_3 @fsl64_3_2 @kb64_3_2 @sb64_3_3 @fa34_2) (J @al155 @fa97_1 @ldp95 @ldi95 @lde95 @ldp155 @ldi155 @lde155) (J @fa97_2 @fa97_3 @sb65_0_1 @fsl65_1_1 @kb65_1_1 @fsl65_2_9 @kb65_2_9 @fsl65_4_9) (J @kb65_4_9 @fa34_3 @fsl67_11_7 @kb67_11_7 @fsl91_1_1 @kb91_1_1 @sb92_3_3 @fsl92_4_3) (J @kb92_4_3 @sb92_4_7 @fsl92_8_3 @kb92_8_3 @ldp145 @ldi145 @lde145 @al140) (J @sb93_0_0 @al145 @bd145_0_1_2_3_4 @sb95_0_0 @fsl95_4_8 @kb95_4_8 @cv2_101 @cv101_102) (J @bs41_2_0_1 @sb96_7_3 @fsl96_8_5 @kb96_8_5 @fsl100_1_22 @kb100_1_22 @fsl100_1_32 @kb100_1_32) (J @fsl100_3_1 @kb100_3_1 @sb101_0_1 @sb101_1_13 @fsl101_2_1 @kb101_2_1 @fa34_4 @bd155_0_1_2_3)) (J (J @fa155_2 @fa155_1 @bs23_2_0_1 @sb113_0_2 @sb113_1_10 @sb113_1_11 @fsl113_4_3 @kb113_4_3) (J @fsl113_6_4 @kb113_6_4 @fsl113_8_4 @kb113_8_4 @fsl113_10_5 @kb113_10_5 @fsl113_10_6 @kb113_10_6) (J @fsl113_12_5 @kb113_12_5 @fsl113_12_6 @kb113_12_6 @fsl113_14_5 @kb113_14_5 @fsl113_14_6 @kb113_14_6) (J @fsl113_16_5 @kb113_16_5 @fsl113_16_6 @kb113_16_6 @fa145_0 @ldp141 @ldi141 @lde141) (J @fa145_1 @ldp142 @ldi142 @lde142 @fa145_2 @fa145_3 @fa145_4 @ldp143) (J @ldi143 @lde143 @sb114_0_1 @fsl114_1_5 @kb114_1_5 @fa140_0 @ldp4 @ldi4) (J @lde4 @fa140_1 @ldp41 @ldi41 @lde41 @sb115_0_2 @fsl115_2_6 @kb115_2_6) (J @fsl115_2_7 @kb115_2_7 @fsl115_3_4 @kb115_3_4 @fsl115_5_4 @kb115_5_4 @fsl115_6_3 @kb115_6_3)) (J (J @eqb4 @sb116_0_2 @fsl116_1_2 @kb116_1_2 @fsl116_1_3 @kb116_1_3 @sb117_0_2 @fsl117_1_9) (J @kb117_1_9 @fsl117_1_10 @kb117_1_10 @neb4 @sb118_0_2 @fsl118_1_2 @kb118_1_2 @sb118_1_7) (J @sb118_1_8 @fsl118_2_2 @kb118_2_2 @sb121_0_0 @fsl121_1_2 @kb121_1_2 @fsl121_1_3 @kb121_1_3) (J @fsl99_2_4 @kb99_2_4 @fsl99_7_4 @kb99_7_4 @sb129_0_0 @fsl129_1_0 @kb129_1_0 @fsl129_1_2) (J @kb129_1_2 @sb129_1_6 @sb130_0_0 @ln41 @lnv41 @lnh41 @bd140_0_1_h1 @bd140_0_1) (J @fsl122_1_1 @kb122_1_1 @fsl122_1_3 @kb122_1_3 @ia41 @iah41 @ldp102 @ldi102) (J @lde102 @sb131_3_3 @fsl131_15_1 @kb131_15_1 @ms41 @cv102_101 @fsl132_1_2 @kb132_1_2) (J @sb132_3_2 @fsl132_15_1 @kb132_15_1 @sb133_1_5 @fsl133_15_1 @kb133_15_1 @sb119_0_2 @sb119_0_3)) (J (J @fsl119_1_4 @kb119_1_4 @fsl119_4_6 @kb119_4_6 @fsl119_4_10 @kb119_4_10 @sb119_4_11 @sb119_4_12) (J @fsl119_6_2 @kb119_6_2 @fsl119_6_3 @kb119_6_3 @fsl119_7_2 @kb119_7_2 @fsl119_7_3 @kb119_7_3) (J @fsl119_7_4 @kb119_7_4 @bd140_ @fsl136_1_1 @kb136_1_1 @sb136_2_2 @cp41 @sb141_0_1) (J @fsl141_1_3 @kb141_1_3 @fsl141_4_3 @kb141_4_3 @sm41 @fsl134_1_1 @kb134_1_1 @fsl134_4_2) (J @kb134_4_2 @fsl134_5_1 @kb134_5_1 @fsl134_7_4 @kb134_7_4 @fsl134_8_3 @kb134_8_3 @fsl134_9_6) (J @kb134_9_6 @fsl134_10_2 @kb134_10_2 @fsl134_11_2 @kb134_11_2 @sb134_12_2 @sb134_14_4 @fsl134_18_10) (J @kb134_18_10 @fsl134_19_2 @kb134_19_2 @fsl134_20_1 @kb134_20_1 @bs41_1_0 @ap41 @sl41) (J @sb135_0_1 @fsl135_1_2 @kb135_1_2 @sb144_5_6 @fsl144_14_1 @kb144_14_1 @sb142_3_2 @fsl142_11_1)) (And.intro (J @kb142_11_1 @fsl143_1_1 @kb143_1_1 @fsl145_8_3 @kb145_8_3 @fsl146_3_1 @kb146_3_1 @sb146_8_2) (And.intro (J @fsl146_17_1 @kb146_17_1 @cv102_5 @cv5_3 @lbe16_7 @lbe16_19 @lbe21_3 @lbe55_11) (And.intro (J @lbe56_3 @lbe57_3 @lbe62_4 @lbe62_10 @lbe63_3 @lbe66_2 @lbe67_4 @lbe67_9) (And.intro (J @lbe92_2 @lbe96_6 @lbe100_4 @lbe122_7 @lbe131_6 @lbe132_6 @lbe133_3 @lbe133_7) (J @lbe134_16 @lbe137_2 @lbe142_6 @lbe144_8 @lbe145_4 @lbe145_13 @lbe146_10 @lbe153_3)))))) :=
  (J (J (J @fb11 @fb13 @fb14 @fb16 @fb17 @fb21 @fb55 @fb56) (J @fb57 @fb58 @fb62 @fb63 @fb64 @fb65 @fb66 @fb67) (J @fb91 @fb92 @fb93 @fb94 @fb95 @fb96 @fb100 @fb101) (J @fb79 @fb102 @fb113 @fb114 @fb115 @fb116 @fb117 @fb118) (J @fb121 @fb99 @fb123 @fb124 @fb129 @fb130 @fb122 @fb131) (J @fb132 @fb133 @fb119 @fb120 @fb136 @fb141 @fb137 @fb134) (J @fb135 @fb144 @fb142 @fb143 @fb145 @fb146 @fb152 @fb153) (J @fsl11_1_0 @kb11_1_0 @fsl11_3_1 @kb11_3_1 @fsl11_4_1 @kb11_4_1 @fsl11_4_15 @kb11_4_15)) (J (J @fsl11_6_1 @kb11_6_1 @sb11_6_5 @fsl11_9_2 @kb11_9_2 @fsl11_9_3 @kb11_9_3 @fsl11_10_2) (J @kb11_10_2 @fsl11_10_3 @kb11_10_3 @fsl11_11_1 @kb11_11_1 @fsl11_11_3 @kb11_11_3 @sb11_11_4) (J @sb11_11_5 @fsl11_12_6 @kb11_12_6 @ldp25 @ldi25 @lde25 @ln38 @lnv38) (J @lnh38 @fa25_0 @ldp3 @ldi3 @lde3 @al25 @fa25_2 @ldp22) (J @ldi22 @lde22 @ln22 @lnv22 @lnh22 @fa25_1 @al85 @iaa85) (J @fsl13_1_4 @kb13_1_4 @sb13_1_8 @bd34_0_1 @bs22_1_0 @bs23_1_0 @bd25_0_1_2_3_h1 @bd25_0_1_2_3_h2) (J @bd25_0_1_2_3_h3 @bd25_0_1_2_3 @fa25_3 @ldp23 @ldi23 @lde23 @ln23 @lnv23) (J @lnh23 @ia23 @iah23 @sb16_0_1 @fsl16_1_1 @kb16_1_1 @fsl16_4_1 @kb16_4_1)) (J (J @sb16_5_5 @sb16_8_3 @fsl16_9_3 @kb16_9_3 @fsl16_10_2 @kb16_10_2 @fsl16_12_2 @kb16_12_2) (J @sb16_15_4 @fsl16_21_10 @kb16_21_10 @sb16_21_12 @bd25_ @bd25_0_1 @ia22 @iah22) (J @ldp34 @ldi34 @lde34 @al34 @fa97_0 @fa34_1 @bd34_0_1_2 @ap22) (J @ap23 @fsl17_1_1 @kb17_1_1 @fa34_0 @fsl55_1_3 @kb55_1_3 @sb55_4_2 @fsl55_6_0) (J @kb55_6_0 @fsl55_6_3 @kb55_6_3 @sb55_13_6 @ln81 @lnv81 @lnh81 @ms81) (J @cp81 @ia81 @iah81 @ldp140 @ldi140 @lde140 @bs81_1_0 @ap81) (J @fsl56_5_2 @kb56_5_2 @sb56_5_4 @ia38 @iah38 @ldp2 @ldi2 @lde2) (J @sb57_0_1 @sb57_1_0 @ldp85 @ldi85 @lde85 @fsl58_1_2 @kb58_1_2 @sb62_11_3)) (J (J @fsl62_12_3 @kb62_12_3 @sb63_5_10 @bd97_1_2_3 @fsl64_3_2 @kb64_3_2 @sb64_3_3 @fa34_2) (J @al155 @fa97_1 @ldp95 @ldi95 @lde95 @ldp155 @ldi155 @lde155) (J @fa97_2 @fa97_3 @sb65_0_1 @fsl65_1_1 @kb65_1_1 @fsl65_2_9 @kb65_2_9 @fsl65_4_9) (J @kb65_4_9 @fa34_3 @fsl67_11_7 @kb67_11_7 @fsl91_1_1 @kb91_1_1 @sb92_3_3 @fsl92_4_3) (J @kb92_4_3 @sb92_4_7 @fsl92_8_3 @kb92_8_3 @ldp145 @ldi145 @lde145 @al140) (J @sb93_0_0 @al145 @bd145_0_1_2_3_4 @sb95_0_0 @fsl95_4_8 @kb95_4_8 @cv2_101 @cv101_102) (J @bs41_2_0_1 @sb96_7_3 @fsl96_8_5 @kb96_8_5 @fsl100_1_22 @kb100_1_22 @fsl100_1_32 @kb100_1_32) (J @fsl100_3_1 @kb100_3_1 @sb101_0_1 @sb101_1_13 @fsl101_2_1 @kb101_2_1 @fa34_4 @bd155_0_1_2_3)) (J (J @fa155_2 @fa155_1 @bs23_2_0_1 @sb113_0_2 @sb113_1_10 @sb113_1_11 @fsl113_4_3 @kb113_4_3) (J @fsl113_6_4 @kb113_6_4 @fsl113_8_4 @kb113_8_4 @fsl113_10_5 @kb113_10_5 @fsl113_10_6 @kb113_10_6) (J @fsl113_12_5 @kb113_12_5 @fsl113_12_6 @kb113_12_6 @fsl113_14_5 @kb113_14_5 @fsl113_14_6 @kb113_14_6) (J @fsl113_16_5 @kb113_16_5 @fsl113_16_6 @kb113_16_6 @fa145_0 @ldp141 @ldi141 @lde141) (J @fa145_1 @ldp142 @ldi142 @lde142 @fa145_2 @fa145_3 @fa145_4 @ldp143) (J @ldi143 @lde143 @sb114_0_1 @fsl114_1_5 @kb114_1_5 @fa140_0 @ldp4 @ldi4) (J @lde4 @fa140_1 @ldp41 @ldi41 @lde41 @sb115_0_2 @fsl115_2_6 @kb115_2_6) (J @fsl115_2_7 @kb115_2_7 @fsl115_3_4 @kb115_3_4 @fsl115_5_4 @kb115_5_4 @fsl115_6_3 @kb115_6_3)) (J (J @eqb4 @sb116_0_2 @fsl116_1_2 @kb116_1_2 @fsl116_1_3 @kb116_1_3 @sb117_0_2 @fsl117_1_9) (J @kb117_1_9 @fsl117_1_10 @kb117_1_10 @neb4 @sb118_0_2 @fsl118_1_2 @kb118_1_2 @sb118_1_7) (J @sb118_1_8 @fsl118_2_2 @kb118_2_2 @sb121_0_0 @fsl121_1_2 @kb121_1_2 @fsl121_1_3 @kb121_1_3) (J @fsl99_2_4 @kb99_2_4 @fsl99_7_4 @kb99_7_4 @sb129_0_0 @fsl129_1_0 @kb129_1_0 @fsl129_1_2) (J @kb129_1_2 @sb129_1_6 @sb130_0_0 @ln41 @lnv41 @lnh41 @bd140_0_1_h1 @bd140_0_1) (J @fsl122_1_1 @kb122_1_1 @fsl122_1_3 @kb122_1_3 @ia41 @iah41 @ldp102 @ldi102) (J @lde102 @sb131_3_3 @fsl131_15_1 @kb131_15_1 @ms41 @cv102_101 @fsl132_1_2 @kb132_1_2) (J @sb132_3_2 @fsl132_15_1 @kb132_15_1 @sb133_1_5 @fsl133_15_1 @kb133_15_1 @sb119_0_2 @sb119_0_3)) (J (J @fsl119_1_4 @kb119_1_4 @fsl119_4_6 @kb119_4_6 @fsl119_4_10 @kb119_4_10 @sb119_4_11 @sb119_4_12) (J @fsl119_6_2 @kb119_6_2 @fsl119_6_3 @kb119_6_3 @fsl119_7_2 @kb119_7_2 @fsl119_7_3 @kb119_7_3) (J @fsl119_7_4 @kb119_7_4 @bd140_ @fsl136_1_1 @kb136_1_1 @sb136_2_2 @cp41 @sb141_0_1) (J @fsl141_1_3 @kb141_1_3 @fsl141_4_3 @kb141_4_3 @sm41 @fsl134_1_1 @kb134_1_1 @fsl134_4_2) (J @kb134_4_2 @fsl134_5_1 @kb134_5_1 @fsl134_7_4 @kb134_7_4 @fsl134_8_3 @kb134_8_3 @fsl134_9_6) (J @kb134_9_6 @fsl134_10_2 @kb134_10_2 @fsl134_11_2 @kb134_11_2 @sb134_12_2 @sb134_14_4 @fsl134_18_10) (J @kb134_18_10 @fsl134_19_2 @kb134_19_2 @fsl134_20_1 @kb134_20_1 @bs41_1_0 @ap41 @sl41) (J @sb135_0_1 @fsl135_1_2 @kb135_1_2 @sb144_5_6 @fsl144_14_1 @kb144_14_1 @sb142_3_2 @fsl142_11_1)) (And.intro (J @kb142_11_1 @fsl143_1_1 @kb143_1_1 @fsl145_8_3 @kb145_8_3 @fsl146_3_1 @kb146_3_1 @sb146_8_2) (And.intro (J @fsl146_17_1 @kb146_17_1 @cv102_5 @cv5_3 @lbe16_7 @lbe16_19 @lbe21_3 @lbe55_11) (And.intro (J @lbe56_3 @lbe57_3 @lbe62_4 @lbe62_10 @lbe63_3 @lbe66_2 @lbe67_4 @lbe67_9) (And.intro (J @lbe92_2 @lbe96_6 @lbe100_4 @lbe122_7 @lbe131_6 @lbe132_6 @lbe133_3 @lbe133_7) (J @lbe134_16 @lbe137_2 @lbe142_6 @lbe144_8 @lbe145_4 @lbe145_13 @lbe146_10 @lbe153_3))))))
theorem TYPES : type_of% (And.intro (J @ag25 @sz25 @ag3 @sz3 @ag22 @sz22 @ag85 @sz85) (And.intro (J @ag23 @sz23 @ag34 @sz34 @ag140 @sz140 @ag2 @sz2) (And.intro (J @ag155 @sz155 @ag95 @sz95 @ag145 @sz145 @ag141 @sz141) (And.intro (J @ag142 @sz142 @ag143 @sz143 @ag4 @sz4 @ag41 @sz41) (And.intro @ag102 @sz102))))) :=
  (And.intro (J @ag25 @sz25 @ag3 @sz3 @ag22 @sz22 @ag85 @sz85) (And.intro (J @ag23 @sz23 @ag34 @sz34 @ag140 @sz140 @ag2 @sz2) (And.intro (J @ag155 @sz155 @ag95 @sz95 @ag145 @sz145 @ag141 @sz141) (And.intro (J @ag142 @sz142 @ag143 @sz143 @ag4 @sz4 @ag41 @sz41) (And.intro @ag102 @sz102)))))
theorem FT : type_of% (And.intro @EVb (And.intro @EVc (And.intro @FACTS @TYPES))) :=
  (And.intro @EVb (And.intro @EVc (And.intro @FACTS @TYPES)))
end Go.Proofs.Sw
