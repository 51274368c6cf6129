/- A part of the proof: what functions of the program answer; conditions stand in each theorem. -/
import Derived.Test.YtefdgfdahmaciaaProg
import Derived.Test.YtefdgfdahmaciaaAbSim
import Derived.WalkKit
set_option linter.unusedVariables false
set_option linter.unusedSimpArgs false
set_option linter.unusedSectionVars false
namespace Go.Proofs.Sw
open Go.Ab
variable [Globals]
def tab : Tab := ⟨[(4, 8, 146, [1, 2, 6, 7]), (4, 14, 146, [1, 2, 6, 7, 8, 9]), (4, 27, 146, [15, 18, 19]), (16, 7, 106, [1, 2, 6, 7, 32, 33, 34]), (16, 19, 106, [2, 6, 7, 84, 85, 86]), (21, 3, 22, [1, 3, 4]), (22, 5, 25, [0, 2, 3, 4]), (23, 3, 97, [1, 2, 7, 8]), (23, 10, 97, [2, 7, 9, 10]), (23, 19, 97, [2, 7, 9, 13, 14]), (24, 4, 27, [0, 1, 5]), (62, 4, 72, [1, 42, 43, 44]), (62, 10, 72, [1, 58, 59, 60]), (63, 3, 32, [1, 3, 13, 14]), (66, 2, 22, [1, 10, 11, 12]), (67, 4, 79, [1, 4]), (67, 9, 79, [1, 5]), (69, 2, 29, [0, 1, 4, 5]), (100, 4, 57, [1, 43, 44, 45]), (107, 3, 32, [0, 3, 6, 7]), (109, 6, 41, [0, 1, 5]), (125, 3, 34, [1, 3, 4, 6, 9, 10]), (139, 3, 82, [2, 3, 4, 5, 6]), (139, 7, 82, [2, 3, 4, 5, 6, 7, 8]), (147, 4, 52, [0, 1, 5, 6, 7]), (148, 4, 43, [0, 1, 5, 6, 7]), (149, 5, 124, [0, 1, 6, 7, 8]), (149, 14, 124, [0, 1, 9, 10, 11]), (149, 18, 124, [0, 1, 9, 10, 11, 12, 13]), (154, 5, 25, [3, 4])], [(7, 6, 1), (30, 11, 7), (3, 6, 1), (3, 13, 1), (10, 6, 1), (10, 24, 1), (10, 18, 1), (149, 26, 2), (1000149, 26, 3)], [(4, 16, 10, 0), (4, 17, 3, 1), (16, 15, 4, 0), (16, 21, 12, 1), (22, 6, 5, 0), (23, 16, 3, 0), (23, 21, 10, 1), (63, 5, 10, 0), (107, 8, 3, 0), (125, 5, 15, 0), (140, 2, 11, 0), (140, 2, 12, 1), (147, 10, 4, 0), (148, 14, 5, 0)], [(4, 2), (16, 2), (22, 1), (23, 2), (63, 1), (107, 1), (125, 1), (140, 2), (147, 1), (148, 1)], [27, 28, 54, 63, 64, 65, 66, 68, 71, 82, 83, 84, 92, 101, 113, 145, 153], [(5, 21, 7, [1]), (19, 7, 3, [2]), (44, 8, 9, [2])], [], [(3, 18), (3, 22), (54, 3), (54, 7)], [(51, 13, [5])]⟩
theorem lp4_8 : (tab.loops.find? fun e => e.1 == 4 && e.2.1 == 8) = some (4, 8, 146, [1, 2, 6, 7]) := by rfl
noncomputable def LB4_8 : Code := loopOf Try.f4 8
theorem lp4_14 : (tab.loops.find? fun e => e.1 == 4 && e.2.1 == 14) = some (4, 14, 146, [1, 2, 6, 7, 8, 9]) := by rfl
noncomputable def LB4_14 : Code := loopOf Try.f4 14
theorem lp4_27 : (tab.loops.find? fun e => e.1 == 4 && e.2.1 == 27) = some (4, 27, 146, [15, 18, 19]) := by rfl
noncomputable def LB4_27 : Code := loopOf Try.f4 27
theorem lp16_7 : (tab.loops.find? fun e => e.1 == 16 && e.2.1 == 7) = some (16, 7, 106, [1, 2, 6, 7, 32, 33, 34]) := by rfl
noncomputable def LB16_7 : Code := loopOf Try.f16 7
theorem lp16_19 : (tab.loops.find? fun e => e.1 == 16 && e.2.1 == 19) = some (16, 19, 106, [2, 6, 7, 84, 85, 86]) := by rfl
noncomputable def LB16_19 : Code := loopOf Try.f16 19
theorem lp21_3 : (tab.loops.find? fun e => e.1 == 21 && e.2.1 == 3) = some (21, 3, 22, [1, 3, 4]) := by rfl
noncomputable def LB21_3 : Code := loopOf Try.f21 3
theorem lp22_5 : (tab.loops.find? fun e => e.1 == 22 && e.2.1 == 5) = some (22, 5, 25, [0, 2, 3, 4]) := by rfl
noncomputable def LB22_5 : Code := loopOf Try.f22 5
theorem lp23_3 : (tab.loops.find? fun e => e.1 == 23 && e.2.1 == 3) = some (23, 3, 97, [1, 2, 7, 8]) := by rfl
noncomputable def LB23_3 : Code := loopOf Try.f23 3
theorem lp23_10 : (tab.loops.find? fun e => e.1 == 23 && e.2.1 == 10) = some (23, 10, 97, [2, 7, 9, 10]) := by rfl
noncomputable def LB23_10 : Code := loopOf Try.f23 10
theorem lp23_19 : (tab.loops.find? fun e => e.1 == 23 && e.2.1 == 19) = some (23, 19, 97, [2, 7, 9, 13, 14]) := by rfl
noncomputable def LB23_19 : Code := loopOf Try.f23 19
theorem lp24_4 : (tab.loops.find? fun e => e.1 == 24 && e.2.1 == 4) = some (24, 4, 27, [0, 1, 5]) := by rfl
noncomputable def LB24_4 : Code := loopOf Try.f24 4
theorem lp62_4 : (tab.loops.find? fun e => e.1 == 62 && e.2.1 == 4) = some (62, 4, 72, [1, 42, 43, 44]) := by rfl
noncomputable def LB62_4 : Code := loopOf Try.f62 4
theorem lp62_10 : (tab.loops.find? fun e => e.1 == 62 && e.2.1 == 10) = some (62, 10, 72, [1, 58, 59, 60]) := by rfl
noncomputable def LB62_10 : Code := loopOf Try.f62 10
theorem lp63_3 : (tab.loops.find? fun e => e.1 == 63 && e.2.1 == 3) = some (63, 3, 32, [1, 3, 13, 14]) := by rfl
noncomputable def LB63_3 : Code := loopOf Try.f63 3
theorem lp66_2 : (tab.loops.find? fun e => e.1 == 66 && e.2.1 == 2) = some (66, 2, 22, [1, 10, 11, 12]) := by rfl
noncomputable def LB66_2 : Code := loopOf Try.f66 2
theorem lp67_4 : (tab.loops.find? fun e => e.1 == 67 && e.2.1 == 4) = some (67, 4, 79, [1, 4]) := by rfl
noncomputable def LB67_4 : Code := loopOf Try.f67 4
theorem lp67_9 : (tab.loops.find? fun e => e.1 == 67 && e.2.1 == 9) = some (67, 9, 79, [1, 5]) := by rfl
noncomputable def LB67_9 : Code := loopOf Try.f67 9
theorem lp69_2 : (tab.loops.find? fun e => e.1 == 69 && e.2.1 == 2) = some (69, 2, 29, [0, 1, 4, 5]) := by rfl
noncomputable def LB69_2 : Code := loopOf Try.f69 2
theorem lp100_4 : (tab.loops.find? fun e => e.1 == 100 && e.2.1 == 4) = some (100, 4, 57, [1, 43, 44, 45]) := by rfl
noncomputable def LB100_4 : Code := loopOf Try.f100 4
theorem lp107_3 : (tab.loops.find? fun e => e.1 == 107 && e.2.1 == 3) = some (107, 3, 32, [0, 3, 6, 7]) := by rfl
noncomputable def LB107_3 : Code := loopOf Try.f107 3
theorem lp109_6 : (tab.loops.find? fun e => e.1 == 109 && e.2.1 == 6) = some (109, 6, 41, [0, 1, 5]) := by rfl
noncomputable def LB109_6 : Code := loopOf Try.f109 6
theorem lp125_3 : (tab.loops.find? fun e => e.1 == 125 && e.2.1 == 3) = some (125, 3, 34, [1, 3, 4, 6, 9, 10]) := by rfl
noncomputable def LB125_3 : Code := loopOf Try.f125 3
theorem lp139_3 : (tab.loops.find? fun e => e.1 == 139 && e.2.1 == 3) = some (139, 3, 82, [2, 3, 4, 5, 6]) := by rfl
noncomputable def LB139_3 : Code := loopOf Try.f139 3
theorem lp139_7 : (tab.loops.find? fun e => e.1 == 139 && e.2.1 == 7) = some (139, 7, 82, [2, 3, 4, 5, 6, 7, 8]) := by rfl
noncomputable def LB139_7 : Code := loopOf Try.f139 7
theorem lp147_4 : (tab.loops.find? fun e => e.1 == 147 && e.2.1 == 4) = some (147, 4, 52, [0, 1, 5, 6, 7]) := by rfl
noncomputable def LB147_4 : Code := loopOf Try.f147 4
theorem lp148_4 : (tab.loops.find? fun e => e.1 == 148 && e.2.1 == 4) = some (148, 4, 43, [0, 1, 5, 6, 7]) := by rfl
noncomputable def LB148_4 : Code := loopOf Try.f148 4
theorem lp149_5 : (tab.loops.find? fun e => e.1 == 149 && e.2.1 == 5) = some (149, 5, 124, [0, 1, 6, 7, 8]) := by rfl
noncomputable def LB149_5 : Code := loopOf Try.f149 5
theorem lp149_14 : (tab.loops.find? fun e => e.1 == 149 && e.2.1 == 14) = some (149, 14, 124, [0, 1, 9, 10, 11]) := by rfl
noncomputable def LB149_14 : Code := loopOf Try.f149 14
theorem lp149_18 : (tab.loops.find? fun e => e.1 == 149 && e.2.1 == 18) = some (149, 18, 124, [0, 1, 9, 10, 11, 12, 13]) := by rfl
noncomputable def LB149_18 : Code := loopOf Try.f149 18
theorem lp154_5 : (tab.loops.find? fun e => e.1 == 154 && e.2.1 == 5) = some (154, 5, 25, [3, 4]) := by rfl
noncomputable def LB154_5 : Code := loopOf Try.f154 5
theorem fb4 : inB tab.frames 4 = false := by rfl
theorem fb13 : inB tab.frames 13 = false := by rfl
theorem fb14 : inB tab.frames 14 = false := by rfl
theorem fb16 : inB tab.frames 16 = false := by rfl
theorem fb17 : inB tab.frames 17 = false := by rfl
theorem fb21 : inB tab.frames 21 = false := by rfl
theorem fb22 : inB tab.frames 22 = false := by rfl
theorem fb23 : inB tab.frames 23 = false := by rfl
theorem fb24 : inB tab.frames 24 = false := by rfl
theorem fb62 : inB tab.frames 62 = false := by rfl
theorem fb63 : inB tab.frames 63 = true := by rfl
theorem fb64 : inB tab.frames 64 = true := by rfl
theorem fb65 : inB tab.frames 65 = true := by rfl
theorem fb66 : inB tab.frames 66 = true := by rfl
theorem fb67 : inB tab.frames 67 = false := by rfl
theorem fb69 : inB tab.frames 69 = false := by rfl
theorem fb70 : inB tab.frames 70 = false := by rfl
theorem fb71 : inB tab.frames 71 = true := by rfl
theorem fb72 : inB tab.frames 72 = false := by rfl
theorem fb100 : inB tab.frames 100 = false := by rfl
theorem fb101 : inB tab.frames 101 = true := by rfl
theorem fb79 : inB tab.frames 79 = false := by rfl
theorem fb102 : inB tab.frames 102 = false := by rfl
theorem fb103 : inB tab.frames 103 = false := by rfl
theorem fb104 : inB tab.frames 104 = false := by rfl
theorem fb105 : inB tab.frames 105 = false := by rfl
theorem fb106 : inB tab.frames 106 = false := by rfl
theorem fb107 : inB tab.frames 107 = false := by rfl
theorem fb108 : inB tab.frames 108 = false := by rfl
theorem fb109 : inB tab.frames 109 = false := by rfl
theorem fb123 : inB tab.frames 123 = false := by rfl
theorem fb124 : inB tab.frames 124 = false := by rfl
theorem fb125 : inB tab.frames 125 = false := by rfl
theorem fb126 : inB tab.frames 126 = false := by rfl
theorem fb127 : inB tab.frames 127 = false := by rfl
theorem fb138 : inB tab.frames 138 = false := by rfl
theorem fb139 : inB tab.frames 139 = false := by rfl
theorem fb140 : inB tab.frames 140 = false := by rfl
theorem fb147 : inB tab.frames 147 = false := by rfl
theorem fb148 : inB tab.frames 148 = false := by rfl
theorem fb149 : inB tab.frames 149 = false := by rfl
theorem fb150 : inB tab.frames 150 = false := by rfl
theorem fb151 : inB tab.frames 151 = false := by rfl
theorem fb154 : inB tab.frames 154 = false := by rfl
theorem fb155 : inB tab.frames 155 = false := by rfl
theorem fb156 : inB tab.frames 156 = false := by rfl
theorem ev4 (k : Nat) (x0 x1 : AV) (H : Heap) : evalT Try.prog (mkHints tab) (k + 1) (.fn 4) [x0, x1] H = trimO H.length (finishO Try.prog Try.f4.results.toList (evalCode Try.prog (cxG Try.prog (mkHints tab) k 4 none) (Try.f4.body.getD .skip) (fillArgs (fr 146 []) 0 [x0, x1]) (H ++ [.slot, .slot]))) := evalT_fn 146 Try.func4 rfl (by decide) rfl
theorem fsl4_1_0 : fslotB tab.fslots 4 1 0 = [] := by rfl
theorem kb4_1_0 : keepB tab.keeps 4 1 0 = false := by rfl
theorem fsl4_3_1 : fslotB tab.fslots 4 3 1 = [] := by rfl
theorem kb4_3_1 : keepB tab.keeps 4 3 1 = false := by rfl
theorem fsl4_4_1 : fslotB tab.fslots 4 4 1 = [] := by rfl
theorem kb4_4_1 : keepB tab.keeps 4 4 1 = false := by rfl
theorem fsl4_4_15 : fslotB tab.fslots 4 4 15 = [] := by rfl
theorem kb4_4_15 : keepB tab.keeps 4 4 15 = false := by rfl
theorem fsl4_16_8 : fslotB tab.fslots 4 16 8 = [] := by rfl
theorem kb4_16_8 : keepB tab.keeps 4 16 8 = false := by rfl
theorem sb4_16_10 : slotB tab.slots 4 16 10 = some 0 := by rfl
theorem sb4_17_3 : slotB tab.slots 4 17 3 = some 1 := by rfl
theorem fsl4_18_1 : fslotB tab.fslots 4 18 1 = [] := by rfl
theorem kb4_18_1 : keepB tab.keeps 4 18 1 = false := by rfl
theorem sb4_18_5 : slotB tab.slots 4 18 5 = none := by rfl
theorem fsl4_19_1 : fslotB tab.fslots 4 19 1 = [] := by rfl
theorem kb4_19_1 : keepB tab.keeps 4 19 1 = false := by rfl
theorem fsl4_22_2 : fslotB tab.fslots 4 22 2 = [] := by rfl
theorem kb4_22_2 : keepB tab.keeps 4 22 2 = false := by rfl
theorem fsl4_23_2 : fslotB tab.fslots 4 23 2 = [] := by rfl
theorem kb4_23_2 : keepB tab.keeps 4 23 2 = false := by rfl
theorem fsl4_29_8 : fslotB tab.fslots 4 29 8 = [] := by rfl
theorem kb4_29_8 : keepB tab.keeps 4 29 8 = false := by rfl
theorem ag25 : isAggT Try.prog 25 = some true := by kernel_rfl
theorem sz25 : sizeT Try.prog 25 = some 4 := by kernel_rfl
theorem ldp25 (H : Heap) (id off : Nat) : loadA Try.prog H 25 (.ptr id off) = cellsAt H[id]? off 4 := by kernel_rfl
theorem ldi25 (H : Heap) (cells : List IV) (off : Nat) : loadA Try.prog H 25 (.c (.iptr cells off)) = (takeCells cells off 4).map fun l => .agg (l.map .c) := by kernel_rfl
theorem lde25 (H : Heap) (id off ext : Nat) : loadA Try.prog H 25 (.eptr id off ext) = (rowOf H id ext).bind fun r => (takeCells r.2 off 4).map fun l => .agg (l.map .c) := by kernel_rfl
theorem ln35 (cells : List IV) (n : Nat) (nl : Bool) (cap : Option Nat) : lenA Try.prog 35 (.c (.slice cells n nl cap)) = some (.c (.int .i64 n)) := by kernel_rfl
theorem lnv35 (s n sz : Nat) : lenA Try.prog 35 (lv s sz n) = some (.c (.int .i64 n)) := by
  unfold lv; split
  · rename_i h; subst h; kernel_rfl
  · kernel_rfl
theorem lnh35 (id off n ext sz : Nat) : lenA Try.prog 35 (.hsl id off n ext sz) = some (.c (.int .i64 n)) := by kernel_rfl
theorem fa25_0 (x : AV) : fieldAddrA Try.prog 25 x 0 = addrPlus x 0 := by kernel_rfl
theorem ag3 : isAggT Try.prog 3 = some false := by kernel_rfl
theorem sz3 : sizeT Try.prog 3 = some 1 := by kernel_rfl
theorem ldp3 (H : Heap) (id off : Nat) : loadA Try.prog H 3 (.ptr id off) = cellAt H[id]? off := by kernel_rfl
theorem ldi3 (H : Heap) (cells : List IV) (off : Nat) : loadA Try.prog H 3 (.c (.iptr cells off)) = (cells[off]?).map .c := by kernel_rfl
theorem lde3 (H : Heap) (id off ext : Nat) : loadA Try.prog H 3 (.eptr id off ext) = (rowOf H id ext).bind fun r => (r.2[off]?).map .c := by kernel_rfl
theorem ag38 : isAggT Try.prog 38 = some false := by kernel_rfl
theorem sz38 : sizeT Try.prog 38 = some 1 := by kernel_rfl
theorem ia35 (H : Heap) (cells : List IV) (len : Nat) (nl : Bool) (cap : Option Nat) (k : IntKind) (i : Int) : indexAddrA Try.prog H 35 (.c (.slice cells len nl cap)) (.c (.int k i)) = if 0 ≤ i ∧ i < len then some (.c (.iptr cells (i.toNat * 1))) else none := by kernel_rfl
theorem iah35 (H : Heap) (id off len ext sz : Nat) (k : IntKind) (i : Int) : indexAddrA Try.prog H 35 (.hsl id off len ext sz) (.c (.int k i)) = if 0 ≤ i ∧ i < len ∧ sz = 1 ∧ (rowOf H id ext).isSome = true then some (.eptr id (off + i.toNat * 1) ext) else none := by kernel_rfl
theorem ldp38 (H : Heap) (id off : Nat) : loadA Try.prog H 38 (.ptr id off) = cellAt H[id]? off := by kernel_rfl
theorem ldi38 (H : Heap) (cells : List IV) (off : Nat) : loadA Try.prog H 38 (.c (.iptr cells off)) = (cells[off]?).map .c := by kernel_rfl
theorem lde38 (H : Heap) (id off ext : Nat) : loadA Try.prog H 38 (.eptr id off ext) = (rowOf H id ext).bind fun r => (r.2[off]?).map .c := by kernel_rfl
theorem ln38 (cells : List IV) (n : Nat) (nl : Bool) (cap : Option Nat) : lenA Try.prog 38 (.c (.slice cells n nl cap)) = some (.c (.int .i64 n)) := by kernel_rfl
theorem lnv38 (s n sz : Nat) : lenA Try.prog 38 (lv s sz n) = some (.c (.int .i64 n)) := by
  unfold lv; split
  · rename_i h; subst h; kernel_rfl
  · kernel_rfl
theorem lnh38 (id off n ext sz : Nat) : lenA Try.prog 38 (.hsl id off n ext sz) = some (.c (.int .i64 n)) := by kernel_rfl
theorem dr4_10 : drawFact Try.f4 10 [0, 0, 3, 7, 15, 0, 32, 96, 224, 511, 1023, 2047, 2047, 8191, 16383, 32767, 65535, 131071] = true := by kernel_rfl
theorem bs40_0_ (H : Heap) : buildSliceA Try.prog H 40 0 [] = some (.hsl H.length 0 0 (0 * 2) 2, H ++ [.row false 43 []]) := by kernel_rfl
theorem ag2 : isAggT Try.prog 2 = some false := by kernel_rfl
theorem sz2 : sizeT Try.prog 2 = some 1 := by kernel_rfl
theorem ia38 (H : Heap) (cells : List IV) (len : Nat) (nl : Bool) (cap : Option Nat) (k : IntKind) (i : Int) : indexAddrA Try.prog H 38 (.c (.slice cells len nl cap)) (.c (.int k i)) = if 0 ≤ i ∧ i < len then some (.c (.iptr cells (i.toNat * 1))) else none := by kernel_rfl
theorem iah38 (H : Heap) (id off len ext sz : Nat) (k : IntKind) (i : Int) : indexAddrA Try.prog H 38 (.hsl id off len ext sz) (.c (.int k i)) = if 0 ≤ i ∧ i < len ∧ sz = 1 ∧ (rowOf H id ext).isSome = true then some (.eptr id (off + i.toNat * 1) ext) else none := by kernel_rfl
theorem ldp2 (H : Heap) (id off : Nat) : loadA Try.prog H 2 (.ptr id off) = cellAt H[id]? off := by kernel_rfl
theorem ldi2 (H : Heap) (cells : List IV) (off : Nat) : loadA Try.prog H 2 (.c (.iptr cells off)) = (cells[off]?).map .c := by kernel_rfl
theorem lde2 (H : Heap) (id off ext : Nat) : loadA Try.prog H 2 (.eptr id off ext) = (rowOf H id ext).bind fun r => (r.2[off]?).map .c := by kernel_rfl
theorem bs40_1_0 (H : Heap) (a0 a1 : IV) : buildSliceA Try.prog H 40 1 [(0, .agg [.c a0, .c a1])] = some (.hsl H.length 0 1 (1 * 2) 2, H ++ [.row false 43 [a0, a1]]) := by kernel_rfl
theorem ap40 (H : Heap) (sl : Option Nat) (s x : AV) : appendA Try.prog H sl 40 s x = apO 43 2 32 sl s H (srcOf H 2 x) := by kernel_rfl
theorem bs37_1_0 (H : Heap) (a0 : IV) : buildSliceA Try.prog H 37 1 [(0, .c a0)] = some (.hsl H.length 0 1 (1 * 1) 1, H ++ [.row false 40 [a0]]) := by kernel_rfl
theorem ap37 (H : Heap) (sl : Option Nat) (s x : AV) : appendA Try.prog H sl 37 s x = apO 40 1 24 sl s H (srcOf H 1 x) := by kernel_rfl
theorem al25 (H : Heap) : allocA Try.prog H 25 = some (.ptr H.length 0, H ++ [.cells 25 [.c (.int .i64 0), .c (.int .i64 0), .c (.slice [] 0 true (some 0)), .c (.slice [] 0 true (some 0))]]) := by kernel_rfl
theorem neb4 (H : Heap) (a b : Bool) : binA Try.prog H .neq 4 (.c (.bool a)) (.c (.bool b)) = some (.c (.bool (!(a == b)))) := by kernel_rfl
theorem ln37 (cells : List IV) (n : Nat) (nl : Bool) (cap : Option Nat) : lenA Try.prog 37 (.c (.slice cells n nl cap)) = some (.c (.int .i64 n)) := by kernel_rfl
theorem lnv37 (s n sz : Nat) : lenA Try.prog 37 (lv s sz n) = some (.c (.int .i64 n)) := by
  unfold lv; split
  · rename_i h; subst h; kernel_rfl
  · kernel_rfl
theorem lnh37 (id off n ext sz : Nat) : lenA Try.prog 37 (.hsl id off n ext sz) = some (.c (.int .i64 n)) := by kernel_rfl
theorem ag40 : isAggT Try.prog 40 = some false := by kernel_rfl
theorem sz40 : sizeT Try.prog 40 = some 1 := by kernel_rfl
theorem ia37 (H : Heap) (cells : List IV) (len : Nat) (nl : Bool) (cap : Option Nat) (k : IntKind) (i : Int) : indexAddrA Try.prog H 37 (.c (.slice cells len nl cap)) (.c (.int k i)) = if 0 ≤ i ∧ i < len then some (.c (.iptr cells (i.toNat * 1))) else none := by kernel_rfl
theorem iah37 (H : Heap) (id off len ext sz : Nat) (k : IntKind) (i : Int) : indexAddrA Try.prog H 37 (.hsl id off len ext sz) (.c (.int k i)) = if 0 ≤ i ∧ i < len ∧ sz = 1 ∧ (rowOf H id ext).isSome = true then some (.eptr id (off + i.toNat * 1) ext) else none := by kernel_rfl
theorem ldp40 (H : Heap) (id off : Nat) : loadA Try.prog H 40 (.ptr id off) = cellAt H[id]? off := by kernel_rfl
theorem ldi40 (H : Heap) (cells : List IV) (off : Nat) : loadA Try.prog H 40 (.c (.iptr cells off)) = (cells[off]?).map .c := by kernel_rfl
theorem lde40 (H : Heap) (id off ext : Nat) : loadA Try.prog H 40 (.eptr id off ext) = (rowOf H id ext).bind fun r => (r.2[off]?).map .c := by kernel_rfl
theorem dr4_29 : drawFact Try.f4 29 [0, 0, 3, 7, 0, 0, 48, 112, 255, 511] = true := by kernel_rfl
theorem ev13 (k : Nat) (H : Heap) : evalT Try.prog (mkHints tab) (k + 1) (.fn 13) [] H = trimO H.length (finishO Try.prog Try.f13.results.toList (evalCode Try.prog (cxG Try.prog (mkHints tab) k 13 none) (Try.f13.body.getD .skip) (fillArgs (fr 32 []) 0 []) H)) := by
  have h := evalT_fn 32 Try.func13 rfl (by decide) rfl (P := Try.prog) (h := mkHints tab) (k := k) (args := []) (H := H)
  rw [show (mkHints tab).slots 13 = 0 from rfl, show (List.replicate 0 AObj.slot) = [] from rfl, List.append_nil] at h
  exact h
theorem fsl13_1_4 : fslotB tab.fslots 13 1 4 = [] := by rfl
theorem kb13_1_4 : keepB tab.keeps 13 1 4 = false := by rfl
theorem sb13_1_8 : slotB tab.slots 13 1 8 = none := by rfl
theorem bd34_0_1 (a0 a1 : IV) : buildA Try.prog 34 [(0, .c a0), (1, .c a1)] = some (.agg [.c a0, .c a1, .c (.int .i64 0), .c (.int .i64 0), .c (.int .i64 0)]) := by kernel_rfl
theorem bs22_1_0 (H : Heap) (a0 a1 a2 a3 a4 : IV) : buildSliceA Try.prog H 22 1 [(0, .agg [.c a0, .c a1, .c a2, .c a3, .c a4])] = some (.hsl H.length 0 1 (1 * 5) 5, H ++ [.row false 34 [a0, a1, a2, a3, a4]]) := by kernel_rfl
theorem bs23_1_0 (H : Heap) (a0 : IV) : buildSliceA Try.prog H 23 1 [(0, .c a0)] = some (.hsl H.length 0 1 (1 * 1) 1, H ++ [.row false 3 [a0]]) := by kernel_rfl
theorem bd25_0_1_2_3_h1 (a0 a1 a3 : IV) (v2 : AV) (hv2 : v2.isCell = true) : buildA Try.prog 25 [(0, .c a0), (1, .c a1), (2, v2), (3, .c a3)] = some (.agg [.c a0, .c a1, v2, .c a3]) := by
  cases v2 <;> first | (cases hv2; done) | kernel_rfl
theorem bd25_0_1_2_3_h2 (a0 a1 a2 : IV) (v3 : AV) (hv3 : v3.isCell = true) : buildA Try.prog 25 [(0, .c a0), (1, .c a1), (2, .c a2), (3, v3)] = some (.agg [.c a0, .c a1, .c a2, v3]) := by
  cases v3 <;> first | (cases hv3; done) | kernel_rfl
theorem bd25_0_1_2_3_h3 (a0 a1 : IV) (v2 v3 : AV) (hv2 : v2.isCell = true) (hv3 : v3.isCell = true) : buildA Try.prog 25 [(0, .c a0), (1, .c a1), (2, v2), (3, v3)] = some (.agg [.c a0, .c a1, v2, v3]) := by
  cases v2 <;> cases v3 <;> first | (cases hv2; done) | (cases hv3; done) | kernel_rfl
theorem bd25_0_1_2_3 (a0 a1 a2 a3 : IV) : buildA Try.prog 25 [(0, .c a0), (1, .c a1), (2, .c a2), (3, .c a3)] = some (.agg [.c a0, .c a1, .c a2, .c a3]) := by kernel_rfl
theorem fa25_2 (x : AV) : fieldAddrA Try.prog 25 x 2 = addrPlus x 2 := by kernel_rfl
theorem ag22 : isAggT Try.prog 22 = some false := by kernel_rfl
theorem sz22 : sizeT Try.prog 22 = some 1 := by kernel_rfl
theorem ldp22 (H : Heap) (id off : Nat) : loadA Try.prog H 22 (.ptr id off) = cellAt H[id]? off := by kernel_rfl
theorem ldi22 (H : Heap) (cells : List IV) (off : Nat) : loadA Try.prog H 22 (.c (.iptr cells off)) = (cells[off]?).map .c := by kernel_rfl
theorem lde22 (H : Heap) (id off ext : Nat) : loadA Try.prog H 22 (.eptr id off ext) = (rowOf H id ext).bind fun r => (r.2[off]?).map .c := by kernel_rfl
theorem ln22 (cells : List IV) (n : Nat) (nl : Bool) (cap : Option Nat) : lenA Try.prog 22 (.c (.slice cells n nl cap)) = some (.c (.int .i64 n)) := by kernel_rfl
theorem lnv22 (s n sz : Nat) : lenA Try.prog 22 (lv s sz n) = some (.c (.int .i64 n)) := by
  unfold lv; split
  · rename_i h; subst h; kernel_rfl
  · kernel_rfl
theorem lnh22 (id off n ext sz : Nat) : lenA Try.prog 22 (.hsl id off n ext sz) = some (.c (.int .i64 n)) := by kernel_rfl
theorem fa25_3 (x : AV) : fieldAddrA Try.prog 25 x 3 = addrPlus x 3 := by kernel_rfl
theorem ag23 : isAggT Try.prog 23 = some false := by kernel_rfl
theorem sz23 : sizeT Try.prog 23 = some 1 := by kernel_rfl
theorem ldp23 (H : Heap) (id off : Nat) : loadA Try.prog H 23 (.ptr id off) = cellAt H[id]? off := by kernel_rfl
theorem ldi23 (H : Heap) (cells : List IV) (off : Nat) : loadA Try.prog H 23 (.c (.iptr cells off)) = (cells[off]?).map .c := by kernel_rfl
theorem lde23 (H : Heap) (id off ext : Nat) : loadA Try.prog H 23 (.eptr id off ext) = (rowOf H id ext).bind fun r => (r.2[off]?).map .c := by kernel_rfl
theorem ln23 (cells : List IV) (n : Nat) (nl : Bool) (cap : Option Nat) : lenA Try.prog 23 (.c (.slice cells n nl cap)) = some (.c (.int .i64 n)) := by kernel_rfl
theorem lnv23 (s n sz : Nat) : lenA Try.prog 23 (lv s sz n) = some (.c (.int .i64 n)) := by
  unfold lv; split
  · rename_i h; subst h; kernel_rfl
  · kernel_rfl
theorem lnh23 (id off n ext sz : Nat) : lenA Try.prog 23 (.hsl id off n ext sz) = some (.c (.int .i64 n)) := by kernel_rfl
theorem ia23 (H : Heap) (cells : List IV) (len : Nat) (nl : Bool) (cap : Option Nat) (k : IntKind) (i : Int) : indexAddrA Try.prog H 23 (.c (.slice cells len nl cap)) (.c (.int k i)) = if 0 ≤ i ∧ i < len then some (.c (.iptr cells (i.toNat * 1))) else none := by kernel_rfl
theorem iah23 (H : Heap) (id off len ext sz : Nat) (k : IntKind) (i : Int) : indexAddrA Try.prog H 23 (.hsl id off len ext sz) (.c (.int k i)) = if 0 ≤ i ∧ i < len ∧ sz = 1 ∧ (rowOf H id ext).isSome = true then some (.eptr id (off + i.toNat * 1) ext) else none := by kernel_rfl
theorem ev14 (k : Nat) (x0 : AV) (H : Heap) : evalT Try.prog (mkHints tab) (k + 1) (.fn 14) [x0] H = trimO H.length (finishO Try.prog Try.f14.results.toList (evalCode Try.prog (cxG Try.prog (mkHints tab) k 14 none) (Try.f14.body.getD .skip) (fillArgs (fr 13 []) 0 [x0]) H)) := by
  have h := evalT_fn 13 Try.func14 rfl (by decide) rfl (P := Try.prog) (h := mkHints tab) (k := k) (args := [x0]) (H := H)
  rw [show (mkHints tab).slots 14 = 0 from rfl, show (List.replicate 0 AObj.slot) = [] from rfl, List.append_nil] at h
  exact h
theorem ev16 (k : Nat) (x0 : AV) (H : Heap) : evalT Try.prog (mkHints tab) (k + 1) (.fn 16) [x0] H = trimO H.length (finishO Try.prog Try.f16.results.toList (evalCode Try.prog (cxG Try.prog (mkHints tab) k 16 none) (Try.f16.body.getD .skip) (fillArgs (fr 106 []) 0 [x0]) (H ++ [.slot, .slot]))) := evalT_fn 106 Try.func16 rfl (by decide) rfl
theorem sb16_0_1 : slotB tab.slots 16 0 1 = none := by rfl
theorem fsl16_1_1 : fslotB tab.fslots 16 1 1 = [] := by rfl
theorem kb16_1_1 : keepB tab.keeps 16 1 1 = false := by rfl
theorem fsl16_4_1 : fslotB tab.fslots 16 4 1 = [] := by rfl
theorem kb16_4_1 : keepB tab.keeps 16 4 1 = false := by rfl
theorem sb16_5_5 : slotB tab.slots 16 5 5 = none := by rfl
theorem sb16_8_3 : slotB tab.slots 16 8 3 = none := by rfl
theorem fsl16_9_3 : fslotB tab.fslots 16 9 3 = [] := by rfl
theorem kb16_9_3 : keepB tab.keeps 16 9 3 = false := by rfl
theorem fsl16_10_2 : fslotB tab.fslots 16 10 2 = [] := by rfl
theorem kb16_10_2 : keepB tab.keeps 16 10 2 = false := by rfl
theorem fsl16_12_2 : fslotB tab.fslots 16 12 2 = [] := by rfl
theorem kb16_12_2 : keepB tab.keeps 16 12 2 = false := by rfl
theorem sb16_15_4 : slotB tab.slots 16 15 4 = some 0 := by rfl
theorem fsl16_21_10 : fslotB tab.fslots 16 21 10 = [] := by rfl
theorem kb16_21_10 : keepB tab.keeps 16 21 10 = false := by rfl
theorem sb16_21_12 : slotB tab.slots 16 21 12 = some 1 := by rfl
theorem bd25_ : buildA Try.prog 25 [] = some (.agg [.c (.int .i64 0), .c (.int .i64 0), .c (.slice [] 0 true (some 0)), .c (.slice [] 0 true (some 0))]) := by kernel_rfl
theorem fa25_1 (x : AV) : fieldAddrA Try.prog 25 x 1 = addrPlus x 1 := by kernel_rfl
theorem bd25_0_1 (a0 a1 : IV) : buildA Try.prog 25 [(0, .c a0), (1, .c a1)] = some (.agg [.c a0, .c a1, .c (.slice [] 0 true (some 0)), .c (.slice [] 0 true (some 0))]) := by kernel_rfl
theorem ag34 : isAggT Try.prog 34 = some true := by kernel_rfl
theorem sz34 : sizeT Try.prog 34 = some 5 := by kernel_rfl
theorem ia22 (H : Heap) (cells : List IV) (len : Nat) (nl : Bool) (cap : Option Nat) (k : IntKind) (i : Int) : indexAddrA Try.prog H 22 (.c (.slice cells len nl cap)) (.c (.int k i)) = if 0 ≤ i ∧ i < len then some (.c (.iptr cells (i.toNat * 5))) else none := by kernel_rfl
theorem iah22 (H : Heap) (id off len ext sz : Nat) (k : IntKind) (i : Int) : indexAddrA Try.prog H 22 (.hsl id off len ext sz) (.c (.int k i)) = if 0 ≤ i ∧ i < len ∧ sz = 5 ∧ (rowOf H id ext).isSome = true then some (.eptr id (off + i.toNat * 5) ext) else none := by kernel_rfl
theorem ldp34 (H : Heap) (id off : Nat) : loadA Try.prog H 34 (.ptr id off) = cellsAt H[id]? off 5 := by kernel_rfl
theorem ldi34 (H : Heap) (cells : List IV) (off : Nat) : loadA Try.prog H 34 (.c (.iptr cells off)) = (takeCells cells off 5).map fun l => .agg (l.map .c) := by kernel_rfl
theorem lde34 (H : Heap) (id off ext : Nat) : loadA Try.prog H 34 (.eptr id off ext) = (rowOf H id ext).bind fun r => (takeCells r.2 off 5).map fun l => .agg (l.map .c) := by kernel_rfl
theorem al34 (H : Heap) : allocA Try.prog H 34 = some (.ptr H.length 0, H ++ [.cells 34 [.c (.int .i64 0), .c (.int .i64 0), .c (.int .i64 0), .c (.int .i64 0), .c (.int .i64 0)]]) := by kernel_rfl
theorem fa97_0 (x : AV) : fieldAddrA Try.prog 97 x 0 = addrPlus x 0 := by kernel_rfl
theorem fa34_1 (x : AV) : fieldAddrA Try.prog 34 x 1 = addrPlus x 1 := by kernel_rfl
theorem dr16_11 : drawFact Try.f16 11 [0, 1, 3, 7, 0, 16, 63, 127, 0, 511] = true := by kernel_rfl
theorem bd34_0_1_2 (a0 a1 a2 : IV) : buildA Try.prog 34 [(0, .c a0), (1, .c a1), (2, .c a2)] = some (.agg [.c a0, .c a1, .c a2, .c (.int .i64 0), .c (.int .i64 0)]) := by kernel_rfl
theorem ap22 (H : Heap) (sl : Option Nat) (s x : AV) : appendA Try.prog H sl 22 s x = apO 34 5 40 sl s H (srcOf H 5 x) := by kernel_rfl
theorem dr16_16 : drawFact Try.f16 16 [0, 1, 3, 7, 0, 16, 0, 127, 255] = true := by kernel_rfl
theorem ap23 (H : Heap) (sl : Option Nat) (s x : AV) : appendA Try.prog H sl 23 s x = apO 3 1 8 sl s H (srcOf H 1 x) := by kernel_rfl
theorem dr16_21 : drawFact Try.f16 21 [0, 1, 0, 0, 8, 24, 56, 0, 248, 504, 1020, 2044, 4095, 8191, 16383] = true := by kernel_rfl
theorem ev17 (k : Nat) (x0 : AV) (H : Heap) : evalT Try.prog (mkHints tab) (k + 1) (.fn 17) [x0] H = trimO H.length (finishO Try.prog Try.f17.results.toList (evalCode Try.prog (cxG Try.prog (mkHints tab) k 17 none) (Try.f17.body.getD .skip) (fillArgs (fr 12 []) 0 [x0]) H)) := by
  have h := evalT_fn 12 Try.func17 rfl (by decide) rfl (P := Try.prog) (h := mkHints tab) (k := k) (args := [x0]) (H := H)
  rw [show (mkHints tab).slots 17 = 0 from rfl, show (List.replicate 0 AObj.slot) = [] from rfl, List.append_nil] at h
  exact h
theorem fsl17_1_1 : fslotB tab.fslots 17 1 1 = [] := by rfl
theorem kb17_1_1 : keepB tab.keeps 17 1 1 = false := by rfl
theorem ev21 (k : Nat) (x0 : AV) (H : Heap) : evalT Try.prog (mkHints tab) (k + 1) (.fn 21) [x0] H = trimO H.length (finishO Try.prog Try.f21.results.toList (evalCode Try.prog (cxG Try.prog (mkHints tab) k 21 none) (Try.f21.body.getD .skip) (fillArgs (fr 22 []) 0 [x0]) H)) := by
  have h := evalT_fn 22 Try.func21 rfl (by decide) rfl (P := Try.prog) (h := mkHints tab) (k := k) (args := [x0]) (H := H)
  rw [show (mkHints tab).slots 21 = 0 from rfl, show (List.replicate 0 AObj.slot) = [] from rfl, List.append_nil] at h
  exact h
theorem fa34_0 (x : AV) : fieldAddrA Try.prog 34 x 0 = addrPlus x 0 := by kernel_rfl
theorem ev22 (k : Nat) (x0 : AV) (H : Heap) : evalT Try.prog (mkHints tab) (k + 1) (.fn 22) [x0] H = trimO H.length (finishO Try.prog Try.f22.results.toList (evalCode Try.prog (cxG Try.prog (mkHints tab) k 22 none) (Try.f22.body.getD .skip) (fillArgs (fr 25 []) 0 [x0]) (H ++ [.slot]))) := evalT_fn 25 Try.func22 rfl (by decide) rfl
theorem sb22_0_0 : slotB tab.slots 22 0 0 = none := by rfl
theorem sb22_6_5 : slotB tab.slots 22 6 5 = some 0 := by rfl
theorem fsl22_8_3 : fslotB tab.fslots 22 8 3 = [] := by rfl
theorem kb22_8_3 : keepB tab.keeps 22 8 3 = false := by rfl
theorem al43 (H : Heap) : allocA Try.prog H 43 = some (.ptr H.length 0, H ++ [.cells 43 [.c (.bool false), .c (.slice [] 0 true (some 0))]]) := by kernel_rfl
theorem cv2_101 (k : IntKind) (n : Int) : convA Try.prog 2 101 (.c (.int k n)) = some (.c (.int .u64 (IntKind.wrap .u64 n))) := by kernel_rfl
theorem cv101_102 (k : IntKind) (n : Int) : convA Try.prog 101 102 (.c (.int k n)) = some (.c (.int .u32 (IntKind.wrap .u32 n))) := by kernel_rfl
theorem bs41_1_0 (H : Heap) (a0 : IV) : buildSliceA Try.prog H 41 1 [(0, .c a0)] = some (.hsl H.length 0 1 (1 * 1) 1, H ++ [.row false 102 [a0]]) := by kernel_rfl
theorem ap41 (H : Heap) (sl : Option Nat) (s x : AV) : appendA Try.prog H sl 41 s x = apO 102 1 4 sl s H (srcOf H 1 x) := by kernel_rfl
theorem ag43 : isAggT Try.prog 43 = some true := by kernel_rfl
theorem sz43 : sizeT Try.prog 43 = some 2 := by kernel_rfl
theorem ev23 (k : Nat) (x0 x1 : AV) (H : Heap) : evalT Try.prog (mkHints tab) (k + 1) (.fn 23) [x0, x1] H = trimO H.length (finishO Try.prog Try.f23.results.toList (evalCode Try.prog (cxG Try.prog (mkHints tab) k 23 none) (Try.f23.body.getD .skip) (fillArgs (fr 97 []) 0 [x0, x1]) (H ++ [.slot, .slot]))) := evalT_fn 97 Try.func23 rfl (by decide) rfl
theorem sb23_1_2 : slotB tab.slots 23 1 2 = none := by rfl
theorem fsl23_5_6 : fslotB tab.fslots 23 5 6 = [] := by rfl
theorem kb23_5_6 : keepB tab.keeps 23 5 6 = false := by rfl
theorem fsl23_12_6 : fslotB tab.fslots 23 12 6 = [] := by rfl
theorem kb23_12_6 : keepB tab.keeps 23 12 6 = false := by rfl
theorem sb23_16_3 : slotB tab.slots 23 16 3 = some 0 := by rfl
theorem sb23_21_10 : slotB tab.slots 23 21 10 = some 1 := by rfl
theorem ms37 (H : Heap) (l c : Int) : makeSliceA Try.prog H none 37 (.c (.int .i64 l)) (.c (.int .i64 c)) = if 0 ≤ l ∧ l = c ∧ c.toNat * 24 ≤ roomBytes ∧ c.toNat ≤ roomBytes ∧ 1 = 1 ∧ 0 < 1 then some (.hsl H.length 0 l.toNat (c.toNat * 1) 1, H ++ [.row false 40 ((List.replicate c.toNat [.slice [] 0 true (some 0)]).flatten)]) else none := by kernel_rfl
theorem ln40 (cells : List IV) (n : Nat) (nl : Bool) (cap : Option Nat) : lenA Try.prog 40 (.c (.slice cells n nl cap)) = some (.c (.int .i64 n)) := by kernel_rfl
theorem lnv40 (s n sz : Nat) : lenA Try.prog 40 (lv s sz n) = some (.c (.int .i64 n)) := by
  unfold lv; split
  · rename_i h; subst h; kernel_rfl
  · kernel_rfl
theorem lnh40 (id off n ext sz : Nat) : lenA Try.prog 40 (.hsl id off n ext sz) = some (.c (.int .i64 n)) := by kernel_rfl
theorem ev24 (k : Nat) (x0 x1 : AV) (H : Heap) : evalT Try.prog (mkHints tab) (k + 1) (.fn 24) [x0, x1] H = trimO H.length (finishO Try.prog Try.f24.results.toList (evalCode Try.prog (cxG Try.prog (mkHints tab) k 24 none) (Try.f24.body.getD .skip) (fillArgs (fr 27 []) 0 [x0, x1]) H)) := by
  have h := evalT_fn 27 Try.func24 rfl (by decide) rfl (P := Try.prog) (h := mkHints tab) (k := k) (args := [x0, x1]) (H := H)
  rw [show (mkHints tab).slots 24 = 0 from rfl, show (List.replicate 0 AObj.slot) = [] from rfl, List.append_nil] at h
  exact h
theorem fsl24_6_8 : fslotB tab.fslots 24 6 8 = [] := by rfl
theorem kb24_6_8 : keepB tab.keeps 24 6 8 = false := by rfl
theorem ia40 (H : Heap) (cells : List IV) (len : Nat) (nl : Bool) (cap : Option Nat) (k : IntKind) (i : Int) : indexAddrA Try.prog H 40 (.c (.slice cells len nl cap)) (.c (.int k i)) = if 0 ≤ i ∧ i < len then some (.c (.iptr cells (i.toNat * 2))) else none := by kernel_rfl
theorem iah40 (H : Heap) (id off len ext sz : Nat) (k : IntKind) (i : Int) : indexAddrA Try.prog H 40 (.hsl id off len ext sz) (.c (.int k i)) = if 0 ≤ i ∧ i < len ∧ sz = 2 ∧ (rowOf H id ext).isSome = true then some (.eptr id (off + i.toNat * 2) ext) else none := by kernel_rfl
theorem ldp43 (H : Heap) (id off : Nat) : loadA Try.prog H 43 (.ptr id off) = cellsAt H[id]? off 2 := by kernel_rfl
theorem ldi43 (H : Heap) (cells : List IV) (off : Nat) : loadA Try.prog H 43 (.c (.iptr cells off)) = (takeCells cells off 2).map fun l => .agg (l.map .c) := by kernel_rfl
theorem lde43 (H : Heap) (id off ext : Nat) : loadA Try.prog H 43 (.eptr id off ext) = (rowOf H id ext).bind fun r => (takeCells r.2 off 2).map fun l => .agg (l.map .c) := by kernel_rfl
theorem dr24_6 : drawFact Try.f24 6 [0, 0, 3, 7, 0, 0, 48, 112, 255, 511] = true := by kernel_rfl
theorem ev62 (k : Nat) (x0 : AV) (H : Heap) : evalT Try.prog (mkHints tab) (k + 1) (.fn 62) [x0] H = trimO H.length (finishO Try.prog Try.f62.results.toList (evalCode Try.prog (cxG Try.prog (mkHints tab) k 62 none) (Try.f62.body.getD .skip) (fillArgs (fr 72 []) 0 [x0]) H)) := by
  have h := evalT_fn 72 Try.func62 rfl (by decide) rfl (P := Try.prog) (h := mkHints tab) (k := k) (args := [x0]) (H := H)
  rw [show (mkHints tab).slots 62 = 0 from rfl, show (List.replicate 0 AObj.slot) = [] from rfl, List.append_nil] at h
  exact h
theorem sb62_11_3 : slotB tab.slots 62 11 3 = none := by rfl
theorem fsl62_12_3 : fslotB tab.fslots 62 12 3 = [] := by rfl
theorem kb62_12_3 : keepB tab.keeps 62 12 3 = false := by rfl
theorem ev63 (k : Nat) (x0 : AV) (H : Heap) : evalT Try.prog (mkHints tab) (k + 1) (.fn 63) [x0] H = trimO H.length (finishO Try.prog Try.f63.results.toList (evalCode Try.prog (cxG Try.prog (mkHints tab) k 63 none) (Try.f63.body.getD .skip) (fillArgs (fr 32 []) 0 [x0]) (H ++ [.slot]))) := evalT_fn 32 Try.func63 rfl (by decide) rfl
theorem sb63_5_10 : slotB tab.slots 63 5 10 = some 0 := by rfl
theorem bd97_1_2_3 (a0 a1 a2 : IV) : buildA Try.prog 97 [(1, .c a0), (2, .c a1), (3, .c a2)] = some (.agg [.c (.slice [] 0 true (some 0)), .c a0, .c a1, .c a2]) := by kernel_rfl
theorem dr63_5 : drawFact Try.f63 5 [0, 0, 2, 6, 14, 0, 0, 64, 224, 480, 1022, 2047, 4095, 8191] = true := by kernel_rfl
theorem ev64 (k : Nat) (x0 x1 x2 : AV) (H : Heap) : evalT Try.prog (mkHints tab) (k + 1) (.fn 64) [x0, x1, x2] H = trimO H.length (finishO Try.prog Try.f64.results.toList (evalCode Try.prog (cxG Try.prog (mkHints tab) k 64 none) (Try.f64.body.getD .skip) (fillArgs (fr 74 []) 0 [x0, x1, x2]) H)) := by
  have h := evalT_fn 74 Try.func64 rfl (by decide) rfl (P := Try.prog) (h := mkHints tab) (k := k) (args := [x0, x1, x2]) (H := H)
  rw [show (mkHints tab).slots 64 = 0 from rfl, show (List.replicate 0 AObj.slot) = [] from rfl, List.append_nil] at h
  exact h
theorem fsl64_3_2 : fslotB tab.fslots 64 3 2 = [] := by rfl
theorem kb64_3_2 : keepB tab.keeps 64 3 2 = false := by rfl
theorem sb64_3_3 : slotB tab.slots 64 3 3 = none := by rfl
theorem fa34_2 (x : AV) : fieldAddrA Try.prog 34 x 2 = addrPlus x 2 := by kernel_rfl
theorem dr64_2 : drawFact Try.f64 2 [0, 1, 3, 7, 0, 16, 63, 127, 255, 511] = true := by kernel_rfl
theorem al155 (H : Heap) : allocA Try.prog H 155 = some (.ptr H.length 0, H ++ [.cells 155 [.c (.int .i64 0), .c (.int .i64 0), .c (.int .i64 0), .c (.int .i64 0)]]) := by kernel_rfl
theorem ag155 : isAggT Try.prog 155 = some true := by kernel_rfl
theorem sz155 : sizeT Try.prog 155 = some 4 := by kernel_rfl
theorem fa97_1 (x : AV) : fieldAddrA Try.prog 97 x 1 = addrPlus x 1 := by kernel_rfl
theorem ag95 : isAggT Try.prog 95 = some false := by kernel_rfl
theorem sz95 : sizeT Try.prog 95 = some 1 := by kernel_rfl
theorem ldp95 (H : Heap) (id off : Nat) : loadA Try.prog H 95 (.ptr id off) = cellAt H[id]? off := by kernel_rfl
theorem ldi95 (H : Heap) (cells : List IV) (off : Nat) : loadA Try.prog H 95 (.c (.iptr cells off)) = (cells[off]?).map .c := by kernel_rfl
theorem lde95 (H : Heap) (id off ext : Nat) : loadA Try.prog H 95 (.eptr id off ext) = (rowOf H id ext).bind fun r => (r.2[off]?).map .c := by kernel_rfl
theorem ldp155 (H : Heap) (id off : Nat) : loadA Try.prog H 155 (.ptr id off) = cellsAt H[id]? off 4 := by kernel_rfl
theorem ldi155 (H : Heap) (cells : List IV) (off : Nat) : loadA Try.prog H 155 (.c (.iptr cells off)) = (takeCells cells off 4).map fun l => .agg (l.map .c) := by kernel_rfl
theorem lde155 (H : Heap) (id off ext : Nat) : loadA Try.prog H 155 (.eptr id off ext) = (rowOf H id ext).bind fun r => (takeCells r.2 off 4).map fun l => .agg (l.map .c) := by kernel_rfl
theorem dr64_4 : drawFact Try.f64 4 [0, 1, 3, 7, 0, 31, 63, 127, 127, 255, 1023] = true := by kernel_rfl
theorem fa97_2 (x : AV) : fieldAddrA Try.prog 97 x 2 = addrPlus x 2 := by kernel_rfl
theorem fa97_3 (x : AV) : fieldAddrA Try.prog 97 x 3 = addrPlus x 3 := by kernel_rfl
theorem dr64_6 : drawFact Try.f64 6 [0, 1, 3, 7, 0, 0, 32, 96, 224, 0, 0, 1024, 3072, 7168, 0, 511, 33279, 114175, 245759, 507903, 1048575] = true := by kernel_rfl
theorem dr64_8 : drawFact Try.f64 8 [0, 1, 3, 7, 0, 31, 0, 64, 192, 448, 0, 1984, 63, 8191] = true := by kernel_rfl
theorem ev65 (k : Nat) (x0 x1 : AV) (H : Heap) : evalT Try.prog (mkHints tab) (k + 1) (.fn 65) [x0, x1] H = trimO H.length (finishO Try.prog Try.f65.results.toList (evalCode Try.prog (cxG Try.prog (mkHints tab) k 65 none) (Try.f65.body.getD .skip) (fillArgs (fr 34 []) 0 [x0, x1]) H)) := by
  have h := evalT_fn 34 Try.func65 rfl (by decide) rfl (P := Try.prog) (h := mkHints tab) (k := k) (args := [x0, x1]) (H := H)
  rw [show (mkHints tab).slots 65 = 0 from rfl, show (List.replicate 0 AObj.slot) = [] from rfl, List.append_nil] at h
  exact h
theorem sb65_0_1 : slotB tab.slots 65 0 1 = none := by rfl
theorem fsl65_1_1 : fslotB tab.fslots 65 1 1 = [] := by rfl
theorem kb65_1_1 : keepB tab.keeps 65 1 1 = false := by rfl
theorem fsl65_2_9 : fslotB tab.fslots 65 2 9 = [] := by rfl
theorem kb65_2_9 : keepB tab.keeps 65 2 9 = false := by rfl
theorem fsl65_4_9 : fslotB tab.fslots 65 4 9 = [] := by rfl
theorem kb65_4_9 : keepB tab.keeps 65 4 9 = false := by rfl
theorem dr65_2 : drawFact Try.f65 2 [0, 0, 2, 6, 14, 0, 32, 126, 254, 511, 1023, 2047] = true := by kernel_rfl
theorem fa34_3 (x : AV) : fieldAddrA Try.prog 34 x 3 = addrPlus x 3 := by kernel_rfl
theorem dr65_4 : drawFact Try.f65 4 [0, 0, 2, 6, 14, 0, 32, 126, 254, 511, 1023, 2047] = true := by kernel_rfl
theorem ev66 (k : Nat) (x0 x1 : AV) (H : Heap) : evalT Try.prog (mkHints tab) (k + 1) (.fn 66) [x0, x1] H = trimO H.length (finishO Try.prog Try.f66.results.toList (evalCode Try.prog (cxG Try.prog (mkHints tab) k 66 none) (Try.f66.body.getD .skip) (fillArgs (fr 22 []) 0 [x0, x1]) H)) := by
  have h := evalT_fn 22 Try.func66 rfl (by decide) rfl (P := Try.prog) (h := mkHints tab) (k := k) (args := [x0, x1]) (H := H)
  rw [show (mkHints tab).slots 66 = 0 from rfl, show (List.replicate 0 AObj.slot) = [] from rfl, List.append_nil] at h
  exact h
theorem ev67 (k : Nat) (x0 : AV) (H : Heap) : evalT Try.prog (mkHints tab) (k + 1) (.fn 67) [x0] H = trimO H.length (finishO Try.prog Try.f67.results.toList (evalCode Try.prog (cxG Try.prog (mkHints tab) k 67 none) (Try.f67.body.getD .skip) (fillArgs (fr 79 []) 0 [x0]) H)) := by
  have h := evalT_fn 79 Try.func67 rfl (by decide) rfl (P := Try.prog) (h := mkHints tab) (k := k) (args := [x0]) (H := H)
  rw [show (mkHints tab).slots 67 = 0 from rfl, show (List.replicate 0 AObj.slot) = [] from rfl, List.append_nil] at h
  exact h
theorem fsl67_11_7 : fslotB tab.fslots 67 11 7 = [] := by rfl
theorem kb67_11_7 : keepB tab.keeps 67 11 7 = false := by rfl
theorem dr67_6 : drawFact Try.f67 6 [0, 1, 0, 7, 15, 31, 63, 127, 255, 127, 1023, 2047, 127, 4223, 16383, 32767] = true := by kernel_rfl
theorem dr67_11 : drawFact Try.f67 11 [0, 1, 0, 7, 15, 0, 32, 127, 255] = true := by kernel_rfl
theorem ev69 (k : Nat) (x0 x1 : AV) (H : Heap) : evalT Try.prog (mkHints tab) (k + 1) (.fn 69) [x0, x1] H = trimO H.length (finishO Try.prog Try.f69.results.toList (evalCode Try.prog (cxG Try.prog (mkHints tab) k 69 none) (Try.f69.body.getD .skip) (fillArgs (fr 29 []) 0 [x0, x1]) H)) := by
  have h := evalT_fn 29 Try.func69 rfl (by decide) rfl (P := Try.prog) (h := mkHints tab) (k := k) (args := [x0, x1]) (H := H)
  rw [show (mkHints tab).slots 69 = 0 from rfl, show (List.replicate 0 AObj.slot) = [] from rfl, List.append_nil] at h
  exact h
theorem sb69_0_0 : slotB tab.slots 69 0 0 = none := by rfl
theorem ln41 (cells : List IV) (n : Nat) (nl : Bool) (cap : Option Nat) : lenA Try.prog 41 (.c (.slice cells n nl cap)) = some (.c (.int .i64 n)) := by kernel_rfl
theorem lnv41 (s n sz : Nat) : lenA Try.prog 41 (lv s sz n) = some (.c (.int .i64 n)) := by
  unfold lv; split
  · rename_i h; subst h; kernel_rfl
  · kernel_rfl
theorem lnh41 (id off n ext sz : Nat) : lenA Try.prog 41 (.hsl id off n ext sz) = some (.c (.int .i64 n)) := by kernel_rfl
theorem ag102 : isAggT Try.prog 102 = some false := by kernel_rfl
theorem sz102 : sizeT Try.prog 102 = some 1 := by kernel_rfl
theorem ia41 (H : Heap) (cells : List IV) (len : Nat) (nl : Bool) (cap : Option Nat) (k : IntKind) (i : Int) : indexAddrA Try.prog H 41 (.c (.slice cells len nl cap)) (.c (.int k i)) = if 0 ≤ i ∧ i < len then some (.c (.iptr cells (i.toNat * 1))) else none := by kernel_rfl
theorem iah41 (H : Heap) (id off len ext sz : Nat) (k : IntKind) (i : Int) : indexAddrA Try.prog H 41 (.hsl id off len ext sz) (.c (.int k i)) = if 0 ≤ i ∧ i < len ∧ sz = 1 ∧ (rowOf H id ext).isSome = true then some (.eptr id (off + i.toNat * 1) ext) else none := by kernel_rfl
theorem ldp102 (H : Heap) (id off : Nat) : loadA Try.prog H 102 (.ptr id off) = cellAt H[id]? off := by kernel_rfl
theorem ldi102 (H : Heap) (cells : List IV) (off : Nat) : loadA Try.prog H 102 (.c (.iptr cells off)) = (cells[off]?).map .c := by kernel_rfl
theorem lde102 (H : Heap) (id off ext : Nat) : loadA Try.prog H 102 (.eptr id off ext) = (rowOf H id ext).bind fun r => (r.2[off]?).map .c := by kernel_rfl
theorem sl41 (H : Heap) (x : AV) (lo hi : Option AV) : sliceA Try.prog H 41 x lo hi none = sliceO H 1 x lo hi := by kernel_rfl
theorem bd43_0_1_h1 (a0 : IV) (v1 : AV) (hv1 : v1.isCell = true) : buildA Try.prog 43 [(0, .c a0), (1, v1)] = some (.agg [.c a0, v1]) := by
  cases v1 <;> first | (cases hv1; done) | kernel_rfl
theorem bd43_0_1 (a0 a1 : IV) : buildA Try.prog 43 [(0, .c a0), (1, .c a1)] = some (.agg [.c a0, .c a1]) := by kernel_rfl
theorem ev70 (k : Nat) (x0 : AV) (H : Heap) : evalT Try.prog (mkHints tab) (k + 1) (.fn 70) [x0] H = trimO H.length (finishO Try.prog Try.f70.results.toList (evalCode Try.prog (cxG Try.prog (mkHints tab) k 70 none) (Try.f70.body.getD .skip) (fillArgs (fr 5 []) 0 [x0]) H)) := by
  have h := evalT_fn 5 Try.func70 rfl (by decide) rfl (P := Try.prog) (h := mkHints tab) (k := k) (args := [x0]) (H := H)
  rw [show (mkHints tab).slots 70 = 0 from rfl, show (List.replicate 0 AObj.slot) = [] from rfl, List.append_nil] at h
  exact h
theorem sb70_1_1 : slotB tab.slots 70 1 1 = none := by rfl
theorem ms40 (H : Heap) (l c : Int) : makeSliceA Try.prog H none 40 (.c (.int .i64 l)) (.c (.int .i64 c)) = if 0 ≤ l ∧ l = c ∧ c.toNat * 32 ≤ roomBytes ∧ c.toNat ≤ roomBytes ∧ 2 = 2 ∧ 0 < 2 then some (.hsl H.length 0 l.toNat (c.toNat * 2) 2, H ++ [.row false 43 ((List.replicate c.toNat [.bool false, .slice [] 0 true (some 0)]).flatten)]) else none := by kernel_rfl
theorem ev71 (k : Nat) (x0 x1 : AV) (H : Heap) : evalT Try.prog (mkHints tab) (k + 1) (.fn 71) [x0, x1] H = trimO H.length (finishO Try.prog Try.f71.results.toList (evalCode Try.prog (cxG Try.prog (mkHints tab) k 71 none) (Try.f71.body.getD .skip) (fillArgs (fr 65 []) 0 [x0, x1]) H)) := by
  have h := evalT_fn 65 Try.func71 rfl (by decide) rfl (P := Try.prog) (h := mkHints tab) (k := k) (args := [x0, x1]) (H := H)
  rw [show (mkHints tab).slots 71 = 0 from rfl, show (List.replicate 0 AObj.slot) = [] from rfl, List.append_nil] at h
  exact h
theorem fsl71_3_1 : fslotB tab.fslots 71 3 1 = [] := by rfl
theorem kb71_3_1 : keepB tab.keeps 71 3 1 = false := by rfl
theorem fsl71_3_2 : fslotB tab.fslots 71 3 2 = [] := by rfl
theorem kb71_3_2 : keepB tab.keeps 71 3 2 = false := by rfl
theorem fsl71_5_6 : fslotB tab.fslots 71 5 6 = [] := by rfl
theorem kb71_5_6 : keepB tab.keeps 71 5 6 = false := by rfl
theorem fsl71_7_6 : fslotB tab.fslots 71 7 6 = [] := by rfl
theorem kb71_7_6 : keepB tab.keeps 71 7 6 = false := by rfl
theorem fsl71_9_2 : fslotB tab.fslots 71 9 2 = [] := by rfl
theorem kb71_9_2 : keepB tab.keeps 71 9 2 = false := by rfl
theorem fsl71_9_3 : fslotB tab.fslots 71 9 3 = [] := by rfl
theorem kb71_9_3 : keepB tab.keeps 71 9 3 = false := by rfl
theorem fsl71_11_2 : fslotB tab.fslots 71 11 2 = [] := by rfl
theorem kb71_11_2 : keepB tab.keeps 71 11 2 = false := by rfl
theorem fsl71_11_3 : fslotB tab.fslots 71 11 3 = [] := by rfl
theorem kb71_11_3 : keepB tab.keeps 71 11 3 = false := by rfl
theorem ev72 (k : Nat) (x0 x1 : AV) (H : Heap) : evalT Try.prog (mkHints tab) (k + 1) (.fn 72) [x0, x1] H = trimO H.length (finishO Try.prog Try.f72.results.toList (evalCode Try.prog (cxG Try.prog (mkHints tab) k 72 none) (Try.f72.body.getD .skip) (fillArgs (fr 29 []) 0 [x0, x1]) H)) := by
  have h := evalT_fn 29 Try.func72 rfl (by decide) rfl (P := Try.prog) (h := mkHints tab) (k := k) (args := [x0, x1]) (H := H)
  rw [show (mkHints tab).slots 72 = 0 from rfl, show (List.replicate 0 AObj.slot) = [] from rfl, List.append_nil] at h
  exact h
theorem fsl72_1_1 : fslotB tab.fslots 72 1 1 = [] := by rfl
theorem kb72_1_1 : keepB tab.keeps 72 1 1 = false := by rfl
theorem fsl72_1_3 : fslotB tab.fslots 72 1 3 = [] := by rfl
theorem kb72_1_3 : keepB tab.keeps 72 1 3 = false := by rfl
theorem fsl72_7_4 : fslotB tab.fslots 72 7 4 = [] := by rfl
theorem kb72_7_4 : keepB tab.keeps 72 7 4 = false := by rfl
theorem fsl72_8_4 : fslotB tab.fslots 72 8 4 = [] := by rfl
theorem kb72_8_4 : keepB tab.keeps 72 8 4 = false := by rfl
theorem dr72_1 : drawFact Try.f72 1 [0, 1, 0, 7, 15, 31] = true := by kernel_rfl
theorem fa43_1 (x : AV) : fieldAddrA Try.prog 43 x 1 = addrPlus x 1 := by kernel_rfl
theorem ag41 : isAggT Try.prog 41 = some false := by kernel_rfl
theorem sz41 : sizeT Try.prog 41 = some 1 := by kernel_rfl
theorem ldp41 (H : Heap) (id off : Nat) : loadA Try.prog H 41 (.ptr id off) = cellAt H[id]? off := by kernel_rfl
theorem ldi41 (H : Heap) (cells : List IV) (off : Nat) : loadA Try.prog H 41 (.c (.iptr cells off)) = (cells[off]?).map .c := by kernel_rfl
theorem lde41 (H : Heap) (id off ext : Nat) : loadA Try.prog H 41 (.eptr id off ext) = (rowOf H id ext).bind fun r => (r.2[off]?).map .c := by kernel_rfl
theorem ev100 (k : Nat) (x0 x1 : AV) (H : Heap) : evalT Try.prog (mkHints tab) (k + 1) (.fn 100) [x0, x1] H = trimO H.length (finishO Try.prog Try.f100.results.toList (evalCode Try.prog (cxG Try.prog (mkHints tab) k 100 none) (Try.f100.body.getD .skip) (fillArgs (fr 57 []) 0 [x0, x1]) H)) := by
  have h := evalT_fn 57 Try.func100 rfl (by decide) rfl (P := Try.prog) (h := mkHints tab) (k := k) (args := [x0, x1]) (H := H)
  rw [show (mkHints tab).slots 100 = 0 from rfl, show (List.replicate 0 AObj.slot) = [] from rfl, List.append_nil] at h
  exact h
theorem fsl100_1_22 : fslotB tab.fslots 100 1 22 = [] := by rfl
theorem kb100_1_22 : keepB tab.keeps 100 1 22 = false := by rfl
theorem fsl100_1_32 : fslotB tab.fslots 100 1 32 = [] := by rfl
theorem kb100_1_32 : keepB tab.keeps 100 1 32 = false := by rfl
theorem fsl100_3_1 : fslotB tab.fslots 100 3 1 = [] := by rfl
theorem kb100_3_1 : keepB tab.keeps 100 3 1 = false := by rfl
theorem ev101 (k : Nat) (x0 x1 : AV) (H : Heap) : evalT Try.prog (mkHints tab) (k + 1) (.fn 101) [x0, x1] H = trimO H.length (finishO Try.prog Try.f101.results.toList (evalCode Try.prog (cxG Try.prog (mkHints tab) k 101 none) (Try.f101.body.getD .skip) (fillArgs (fr 49 []) 0 [x0, x1]) H)) := by
  have h := evalT_fn 49 Try.func101 rfl (by decide) rfl (P := Try.prog) (h := mkHints tab) (k := k) (args := [x0, x1]) (H := H)
  rw [show (mkHints tab).slots 101 = 0 from rfl, show (List.replicate 0 AObj.slot) = [] from rfl, List.append_nil] at h
  exact h
theorem sb101_0_1 : slotB tab.slots 101 0 1 = none := by rfl
theorem sb101_1_13 : slotB tab.slots 101 1 13 = none := by rfl
theorem fsl101_2_1 : fslotB tab.fslots 101 2 1 = [] := by rfl
theorem kb101_2_1 : keepB tab.keeps 101 2 1 = false := by rfl
theorem fa34_4 (x : AV) : fieldAddrA Try.prog 34 x 4 = addrPlus x 4 := by kernel_rfl
theorem bd155_0_1_2_3 (a0 a1 a2 a3 : IV) : buildA Try.prog 155 [(0, .c a0), (1, .c a1), (2, .c a2), (3, .c a3)] = some (.agg [.c a0, .c a1, .c a2, .c a3]) := by kernel_rfl
theorem dr101_1 : drawFact Try.f101 1 [0, 1, 0, 4, 12, 28, 0, 64, 252, 508, 0, 1024, 4095, 0, 16383] = true := by kernel_rfl
theorem fa155_2 (x : AV) : fieldAddrA Try.prog 155 x 2 = addrPlus x 2 := by kernel_rfl
theorem dr101_3 : drawFact Try.f101 3 [0, 1, 3, 7, 0, 16, 63, 127, 255, 511] = true := by kernel_rfl
theorem fa155_1 (x : AV) : fieldAddrA Try.prog 155 x 1 = addrPlus x 1 := by kernel_rfl
theorem ev79 (k : Nat) (x0 : AV) (H : Heap) : evalT Try.prog (mkHints tab) (k + 1) (.fn 79) [x0] H = trimO H.length (finishO Try.prog Try.f79.results.toList (evalCode Try.prog (cxG Try.prog (mkHints tab) k 79 none) (Try.f79.body.getD .skip) (fillArgs (fr 23 []) 0 [x0]) H)) := by
  have h := evalT_fn 23 Try.func79 rfl (by decide) rfl (P := Try.prog) (h := mkHints tab) (k := k) (args := [x0]) (H := H)
  rw [show (mkHints tab).slots 79 = 0 from rfl, show (List.replicate 0 AObj.slot) = [] from rfl, List.append_nil] at h
  exact h
theorem bs23_2_0_1 (H : Heap) (a0 a1 : IV) : buildSliceA Try.prog H 23 2 [(0, .c a0), (1, .c a1)] = some (.hsl H.length 0 2 (2 * 1) 1, H ++ [.row false 3 [a0, a1]]) := by kernel_rfl
theorem ev102 (k : Nat) (x0 x1 : AV) (H : Heap) : evalT Try.prog (mkHints tab) (k + 1) (.fn 102) [x0, x1] H = trimO H.length (finishO Try.prog Try.f102.results.toList (evalCode Try.prog (cxG Try.prog (mkHints tab) k 102 none) (Try.f102.body.getD .skip) (fillArgs (fr 100 []) 0 [x0, x1]) H)) := by
  have h := evalT_fn 100 Try.func102 rfl (by decide) rfl (P := Try.prog) (h := mkHints tab) (k := k) (args := [x0, x1]) (H := H)
  rw [show (mkHints tab).slots 102 = 0 from rfl, show (List.replicate 0 AObj.slot) = [] from rfl, List.append_nil] at h
  exact h
theorem ev103 (k : Nat) (x0 x1 : AV) (H : Heap) : evalT Try.prog (mkHints tab) (k + 1) (.fn 103) [x0, x1] H = trimO H.length (finishO Try.prog Try.f103.results.toList (evalCode Try.prog (cxG Try.prog (mkHints tab) k 103 none) (Try.f103.body.getD .skip) (fillArgs (fr 10 []) 0 [x0, x1]) H)) := by
  have h := evalT_fn 10 Try.func103 rfl (by decide) rfl (P := Try.prog) (h := mkHints tab) (k := k) (args := [x0, x1]) (H := H)
  rw [show (mkHints tab).slots 103 = 0 from rfl, show (List.replicate 0 AObj.slot) = [] from rfl, List.append_nil] at h
  exact h
theorem fsl103_1_4 : fslotB tab.fslots 103 1 4 = [] := by rfl
theorem kb103_1_4 : keepB tab.keeps 103 1 4 = false := by rfl
theorem bd43_ : buildA Try.prog 43 [] = some (.agg [.c (.bool false), .c (.slice [] 0 true (some 0))]) := by kernel_rfl
theorem ev104 (k : Nat) (x0 x1 : AV) (H : Heap) : evalT Try.prog (mkHints tab) (k + 1) (.fn 104) [x0, x1] H = trimO H.length (finishO Try.prog Try.f104.results.toList (evalCode Try.prog (cxG Try.prog (mkHints tab) k 104 none) (Try.f104.body.getD .skip) (fillArgs (fr 10 []) 0 [x0, x1]) H)) := by
  have h := evalT_fn 10 Try.func104 rfl (by decide) rfl (P := Try.prog) (h := mkHints tab) (k := k) (args := [x0, x1]) (H := H)
  rw [show (mkHints tab).slots 104 = 0 from rfl, show (List.replicate 0 AObj.slot) = [] from rfl, List.append_nil] at h
  exact h
theorem fsl104_1_0 : fslotB tab.fslots 104 1 0 = [] := by rfl
theorem kb104_1_0 : keepB tab.keeps 104 1 0 = false := by rfl
theorem fsl104_1_2 : fslotB tab.fslots 104 1 2 = [] := by rfl
theorem kb104_1_2 : keepB tab.keeps 104 1 2 = false := by rfl
theorem fsl104_1_4 : fslotB tab.fslots 104 1 4 = [] := by rfl
theorem kb104_1_4 : keepB tab.keeps 104 1 4 = false := by rfl
theorem ev105 (k : Nat) (x0 x1 : AV) (H : Heap) : evalT Try.prog (mkHints tab) (k + 1) (.fn 105) [x0, x1] H = trimO H.length (finishO Try.prog Try.f105.results.toList (evalCode Try.prog (cxG Try.prog (mkHints tab) k 105 none) (Try.f105.body.getD .skip) (fillArgs (fr 10 []) 0 [x0, x1]) H)) := by
  have h := evalT_fn 10 Try.func105 rfl (by decide) rfl (P := Try.prog) (h := mkHints tab) (k := k) (args := [x0, x1]) (H := H)
  rw [show (mkHints tab).slots 105 = 0 from rfl, show (List.replicate 0 AObj.slot) = [] from rfl, List.append_nil] at h
  exact h
theorem fsl105_1_0 : fslotB tab.fslots 105 1 0 = [] := by rfl
theorem kb105_1_0 : keepB tab.keeps 105 1 0 = false := by rfl
theorem fsl105_1_2 : fslotB tab.fslots 105 1 2 = [] := by rfl
theorem kb105_1_2 : keepB tab.keeps 105 1 2 = false := by rfl
theorem fsl105_1_4 : fslotB tab.fslots 105 1 4 = [] := by rfl
theorem kb105_1_4 : keepB tab.keeps 105 1 4 = false := by rfl
theorem ev106 (k : Nat) (x0 : AV) (H : Heap) : evalT Try.prog (mkHints tab) (k + 1) (.fn 106) [x0] H = trimO H.length (finishO Try.prog Try.f106.results.toList (evalCode Try.prog (cxG Try.prog (mkHints tab) k 106 none) (Try.f106.body.getD .skip) (fillArgs (fr 17 []) 0 [x0]) H)) := by
  have h := evalT_fn 17 Try.func106 rfl (by decide) rfl (P := Try.prog) (h := mkHints tab) (k := k) (args := [x0]) (H := H)
  rw [show (mkHints tab).slots 106 = 0 from rfl, show (List.replicate 0 AObj.slot) = [] from rfl, List.append_nil] at h
  exact h
theorem sb106_0_1 : slotB tab.slots 106 0 1 = none := by rfl
theorem fsl106_2_2 : fslotB tab.fslots 106 2 2 = [] := by rfl
theorem kb106_2_2 : keepB tab.keeps 106 2 2 = false := by rfl
theorem fsl106_3_2 : fslotB tab.fslots 106 3 2 = [] := by rfl
theorem kb106_3_2 : keepB tab.keeps 106 3 2 = false := by rfl
theorem ev107 (k : Nat) (x0 x1 : AV) (H : Heap) : evalT Try.prog (mkHints tab) (k + 1) (.fn 107) [x0, x1] H = trimO H.length (finishO Try.prog Try.f107.results.toList (evalCode Try.prog (cxG Try.prog (mkHints tab) k 107 none) (Try.f107.body.getD .skip) (fillArgs (fr 32 []) 0 [x0, x1]) (H ++ [.slot]))) := evalT_fn 32 Try.func107 rfl (by decide) rfl
theorem fsl107_5_5 : fslotB tab.fslots 107 5 5 = [] := by rfl
theorem kb107_5_5 : keepB tab.keeps 107 5 5 = false := by rfl
theorem sb107_5_9 : slotB tab.slots 107 5 9 = none := by rfl
theorem sb107_8_3 : slotB tab.slots 107 8 3 = some 0 := by rfl
theorem dr107_5 : drawFact Try.f107 5 [0, 0, 3, 7, 0, 31, 63, 127, 127, 0, 767, 2047] = true := by kernel_rfl
theorem ev108 (k : Nat) (x0 : AV) (H : Heap) : evalT Try.prog (mkHints tab) (k + 1) (.fn 108) [x0] H = trimO H.length (finishO Try.prog Try.f108.results.toList (evalCode Try.prog (cxG Try.prog (mkHints tab) k 108 none) (Try.f108.body.getD .skip) (fillArgs (fr 9 []) 0 [x0]) H)) := by
  have h := evalT_fn 9 Try.func108 rfl (by decide) rfl (P := Try.prog) (h := mkHints tab) (k := k) (args := [x0]) (H := H)
  rw [show (mkHints tab).slots 108 = 0 from rfl, show (List.replicate 0 AObj.slot) = [] from rfl, List.append_nil] at h
  exact h
theorem fa43_0 (x : AV) : fieldAddrA Try.prog 43 x 0 = addrPlus x 0 := by kernel_rfl
theorem ag4 : isAggT Try.prog 4 = some false := by kernel_rfl
theorem sz4 : sizeT Try.prog 4 = some 1 := by kernel_rfl
theorem ldp4 (H : Heap) (id off : Nat) : loadA Try.prog H 4 (.ptr id off) = cellAt H[id]? off := by kernel_rfl
theorem ldi4 (H : Heap) (cells : List IV) (off : Nat) : loadA Try.prog H 4 (.c (.iptr cells off)) = (cells[off]?).map .c := by kernel_rfl
theorem lde4 (H : Heap) (id off ext : Nat) : loadA Try.prog H 4 (.eptr id off ext) = (rowOf H id ext).bind fun r => (r.2[off]?).map .c := by kernel_rfl
theorem ev109 (k : Nat) (x0 x1 : AV) (H : Heap) : evalT Try.prog (mkHints tab) (k + 1) (.fn 109) [x0, x1] H = trimO H.length (finishO Try.prog Try.f109.results.toList (evalCode Try.prog (cxG Try.prog (mkHints tab) k 109 none) (Try.f109.body.getD .skip) (fillArgs (fr 41 []) 0 [x0, x1]) H)) := by
  have h := evalT_fn 41 Try.func109 rfl (by decide) rfl (P := Try.prog) (h := mkHints tab) (k := k) (args := [x0, x1]) (H := H)
  rw [show (mkHints tab).slots 109 = 0 from rfl, show (List.replicate 0 AObj.slot) = [] from rfl, List.append_nil] at h
  exact h
theorem dr109_8 : drawFact Try.f109 8 [0, 0, 3, 7, 0, 0, 48, 112, 255] = true := by kernel_rfl
theorem dr109_10 : drawFact Try.f109 10 [0, 0, 3, 7, 0, 0, 48, 112, 255] = true := by kernel_rfl
theorem ev123 (k : Nat) (x0 : AV) (H : Heap) : evalT Try.prog (mkHints tab) (k + 1) (.fn 123) [x0] H = trimO H.length (finishO Try.prog Try.f123.results.toList (evalCode Try.prog (cxG Try.prog (mkHints tab) k 123 none) (Try.f123.body.getD .skip) (fillArgs (fr 9 []) 0 [x0]) H)) := by
  have h := evalT_fn 9 Try.func123 rfl (by decide) rfl (P := Try.prog) (h := mkHints tab) (k := k) (args := [x0]) (H := H)
  rw [show (mkHints tab).slots 123 = 0 from rfl, show (List.replicate 0 AObj.slot) = [] from rfl, List.append_nil] at h
  exact h
theorem ev124 (k : Nat) (x0 : AV) (H : Heap) : evalT Try.prog (mkHints tab) (k + 1) (.fn 124) [x0] H = trimO H.length (finishO Try.prog Try.f124.results.toList (evalCode Try.prog (cxG Try.prog (mkHints tab) k 124 none) (Try.f124.body.getD .skip) (fillArgs (fr 35 []) 0 [x0]) H)) := by
  have h := evalT_fn 35 Try.func124 rfl (by decide) rfl (P := Try.prog) (h := mkHints tab) (k := k) (args := [x0]) (H := H)
  rw [show (mkHints tab).slots 124 = 0 from rfl, show (List.replicate 0 AObj.slot) = [] from rfl, List.append_nil] at h
  exact h
theorem ev125 (k : Nat) (x0 x1 x2 x3 : AV) (H : Heap) : evalT Try.prog (mkHints tab) (k + 1) (.fn 125) [x0, x1, x2, x3] H = trimO H.length (finishO Try.prog Try.f125.results.toList (evalCode Try.prog (cxG Try.prog (mkHints tab) k 125 none) (Try.f125.body.getD .skip) (fillArgs (fr 34 []) 0 [x0, x1, x2, x3]) (H ++ [.slot]))) := evalT_fn 34 Try.func125 rfl (by decide) rfl
theorem fsl125_5_6 : fslotB tab.fslots 125 5 6 = [] := by rfl
theorem kb125_5_6 : keepB tab.keeps 125 5 6 = false := by rfl
theorem fsl125_5_12 : fslotB tab.fslots 125 5 12 = [] := by rfl
theorem kb125_5_12 : keepB tab.keeps 125 5 12 = false := by rfl
theorem fsl125_5_13 : fslotB tab.fslots 125 5 13 = [] := by rfl
theorem kb125_5_13 : keepB tab.keeps 125 5 13 = false := by rfl
theorem sb125_5_15 : slotB tab.slots 125 5 15 = some 0 := by rfl
theorem dr125_5 : drawFact Try.f125 5 [0, 0, 0, 0, 12, 28, 62, 0, 0, 0, 768, 1792, 4094, 8190, 16382, 32767, 65535] = true := by kernel_rfl
theorem ev126 (k : Nat) (x0 : AV) (H : Heap) : evalT Try.prog (mkHints tab) (k + 1) (.fn 126) [x0] H = trimO H.length (finishO Try.prog Try.f126.results.toList (evalCode Try.prog (cxG Try.prog (mkHints tab) k 126 none) (Try.f126.body.getD .skip) (fillArgs (fr 17 []) 0 [x0]) H)) := by
  have h := evalT_fn 17 Try.func126 rfl (by decide) rfl (P := Try.prog) (h := mkHints tab) (k := k) (args := [x0]) (H := H)
  rw [show (mkHints tab).slots 126 = 0 from rfl, show (List.replicate 0 AObj.slot) = [] from rfl, List.append_nil] at h
  exact h
theorem sb126_0_0 : slotB tab.slots 126 0 0 = none := by rfl
theorem sb126_1_3 : slotB tab.slots 126 1 3 = none := by rfl
theorem fsl126_3_1 : fslotB tab.fslots 126 3 1 = [] := by rfl
theorem kb126_3_1 : keepB tab.keeps 126 3 1 = false := by rfl
theorem ms41 (H : Heap) (l c : Int) : makeSliceA Try.prog H none 41 (.c (.int .i64 l)) (.c (.int .i64 c)) = if 0 ≤ l ∧ l = c ∧ c.toNat * 4 ≤ roomBytes ∧ c.toNat ≤ roomBytes ∧ 1 = 1 ∧ 0 < 1 then some (.hsl H.length 0 l.toNat (c.toNat * 1) 1, H ++ [.row false 102 ((List.replicate c.toNat [.int .u32 0]).flatten)]) else none := by kernel_rfl
theorem ev127 (k : Nat) (x0 x1 : AV) (H : Heap) : evalT Try.prog (mkHints tab) (k + 1) (.fn 127) [x0, x1] H = trimO H.length (finishO Try.prog Try.f127.results.toList (evalCode Try.prog (cxG Try.prog (mkHints tab) k 127 none) (Try.f127.body.getD .skip) (fillArgs (fr 20 []) 0 [x0, x1]) H)) := by
  have h := evalT_fn 20 Try.func127 rfl (by decide) rfl (P := Try.prog) (h := mkHints tab) (k := k) (args := [x0, x1]) (H := H)
  rw [show (mkHints tab).slots 127 = 0 from rfl, show (List.replicate 0 AObj.slot) = [] from rfl, List.append_nil] at h
  exact h
theorem sb127_0_2 : slotB tab.slots 127 0 2 = none := by rfl
theorem fsl127_1_2 : fslotB tab.fslots 127 1 2 = [] := by rfl
theorem kb127_1_2 : keepB tab.keeps 127 1 2 = false := by rfl
theorem sb127_1_6 : slotB tab.slots 127 1 6 = none := by rfl
theorem sb127_1_7 : slotB tab.slots 127 1 7 = none := by rfl
theorem ev138 (k : Nat) (x0 x1 : AV) (H : Heap) : evalT Try.prog (mkHints tab) (k + 1) (.fn 138) [x0, x1] H = trimO H.length (finishO Try.prog Try.f138.results.toList (evalCode Try.prog (cxG Try.prog (mkHints tab) k 138 none) (Try.f138.body.getD .skip) (fillArgs (fr 40 []) 0 [x0, x1]) H)) := by
  have h := evalT_fn 40 Try.func138 rfl (by decide) rfl (P := Try.prog) (h := mkHints tab) (k := k) (args := [x0, x1]) (H := H)
  rw [show (mkHints tab).slots 138 = 0 from rfl, show (List.replicate 0 AObj.slot) = [] from rfl, List.append_nil] at h
  exact h
theorem sb138_0_2 : slotB tab.slots 138 0 2 = none := by rfl
theorem fsl138_2_6 : fslotB tab.fslots 138 2 6 = [] := by rfl
theorem kb138_2_6 : keepB tab.keeps 138 2 6 = false := by rfl
theorem fsl138_2_7 : fslotB tab.fslots 138 2 7 = [] := by rfl
theorem kb138_2_7 : keepB tab.keeps 138 2 7 = false := by rfl
theorem fsl138_3_4 : fslotB tab.fslots 138 3 4 = [] := by rfl
theorem kb138_3_4 : keepB tab.keeps 138 3 4 = false := by rfl
theorem fsl138_4_6 : fslotB tab.fslots 138 4 6 = [] := by rfl
theorem kb138_4_6 : keepB tab.keeps 138 4 6 = false := by rfl
theorem fsl138_4_7 : fslotB tab.fslots 138 4 7 = [] := by rfl
theorem kb138_4_7 : keepB tab.keeps 138 4 7 = false := by rfl
theorem fsl138_5_6 : fslotB tab.fslots 138 5 6 = [] := by rfl
theorem kb138_5_6 : keepB tab.keeps 138 5 6 = false := by rfl
theorem fsl138_5_7 : fslotB tab.fslots 138 5 7 = [] := by rfl
theorem kb138_5_7 : keepB tab.keeps 138 5 7 = false := by rfl
theorem eqb4 (H : Heap) (a b : Bool) : binA Try.prog H .eql 4 (.c (.bool a)) (.c (.bool b)) = some (.c (.bool ((a == b)))) := by kernel_rfl
theorem dr138_2 : drawFact Try.f138 2 [0, 1, 0, 4, 0, 16, 60, 127, 255] = true := by kernel_rfl
theorem dr138_4 : drawFact Try.f138 4 [0, 1, 0, 4, 0, 16, 60, 127, 255] = true := by kernel_rfl
theorem dr138_5 : drawFact Try.f138 5 [0, 1, 0, 4, 0, 16, 60, 127, 255] = true := by kernel_rfl
theorem ev139 (k : Nat) (x0 x1 : AV) (H : Heap) : evalT Try.prog (mkHints tab) (k + 1) (.fn 139) [x0, x1] H = trimO H.length (finishO Try.prog Try.f139.results.toList (evalCode Try.prog (cxG Try.prog (mkHints tab) k 139 none) (Try.f139.body.getD .skip) (fillArgs (fr 82 []) 0 [x0, x1]) H)) := by
  have h := evalT_fn 82 Try.func139 rfl (by decide) rfl (P := Try.prog) (h := mkHints tab) (k := k) (args := [x0, x1]) (H := H)
  rw [show (mkHints tab).slots 139 = 0 from rfl, show (List.replicate 0 AObj.slot) = [] from rfl, List.append_nil] at h
  exact h
theorem sb139_0_2 : slotB tab.slots 139 0 2 = none := by rfl
theorem sb139_1_8 : slotB tab.slots 139 1 8 = none := by rfl
theorem fsl139_14_6 : fslotB tab.fslots 139 14 6 = [] := by rfl
theorem kb139_14_6 : keepB tab.keeps 139 14 6 = false := by rfl
theorem cv102_101 (k : IntKind) (n : Int) : convA Try.prog 102 101 (.c (.int k n)) = some (.c (.int .u64 (IntKind.wrap .u64 n))) := by kernel_rfl
theorem dr139_11 : drawFact Try.f139 11 [0, 0, 2, 0, 14, 30, 62, 0, 128, 0, 896, 1920, 3968, 8190, 16383, 32767] = true := by kernel_rfl
theorem ev140 (k : Nat) (x0 x1 : AV) (H : Heap) : evalT Try.prog (mkHints tab) (k + 1) (.fn 140) [x0, x1] H = trimO H.length (finishO Try.prog Try.f140.results.toList (evalCode Try.prog (cxG Try.prog (mkHints tab) k 140 none) (Try.f140.body.getD .skip) (fillArgs (fr 42 []) 0 [x0, x1]) (H ++ [.slot, .slot]))) := evalT_fn 42 Try.func140 rfl (by decide) rfl
theorem sb140_0_2 : slotB tab.slots 140 0 2 = none := by rfl
theorem sb140_0_3 : slotB tab.slots 140 0 3 = none := by rfl
theorem fsl140_1_4 : fslotB tab.fslots 140 1 4 = [] := by rfl
theorem kb140_1_4 : keepB tab.keeps 140 1 4 = false := by rfl
theorem fsl140_2_6 : fslotB tab.fslots 140 2 6 = [] := by rfl
theorem kb140_2_6 : keepB tab.keeps 140 2 6 = false := by rfl
theorem fsl140_2_10 : fslotB tab.fslots 140 2 10 = [] := by rfl
theorem kb140_2_10 : keepB tab.keeps 140 2 10 = false := by rfl
theorem sb140_2_11 : slotB tab.slots 140 2 11 = some 0 := by rfl
theorem sb140_2_12 : slotB tab.slots 140 2 12 = some 1 := by rfl
theorem fsl140_4_2 : fslotB tab.fslots 140 4 2 = [] := by rfl
theorem kb140_4_2 : keepB tab.keeps 140 4 2 = false := by rfl
theorem fsl140_4_3 : fslotB tab.fslots 140 4 3 = [] := by rfl
theorem kb140_4_3 : keepB tab.keeps 140 4 3 = false := by rfl
theorem fsl140_5_2 : fslotB tab.fslots 140 5 2 = [] := by rfl
theorem kb140_5_2 : keepB tab.keeps 140 5 2 = false := by rfl
theorem fsl140_5_3 : fslotB tab.fslots 140 5 3 = [] := by rfl
theorem kb140_5_3 : keepB tab.keeps 140 5 3 = false := by rfl
theorem fsl140_5_4 : fslotB tab.fslots 140 5 4 = [] := by rfl
theorem kb140_5_4 : keepB tab.keeps 140 5 4 = false := by rfl
theorem dr140_2 : drawFact Try.f140 2 [0, 1, 0, 4, 15, 0, 63, 0, 128, 0, 1023, 0, 0, 8191, 16383] = true := by kernel_rfl
theorem dr140_4 : drawFact Try.f140 4 [0, 0, 2, 7, 15] = true := by kernel_rfl
theorem dr140_5 : drawFact Try.f140 5 [0, 0, 2, 6, 15, 31] = true := by kernel_rfl
theorem dr140_6 : drawFact Try.f140 6 [0, 0, 1, 7] = true := by kernel_rfl
theorem ev147 (k : Nat) (x0 x1 : AV) (H : Heap) : evalT Try.prog (mkHints tab) (k + 1) (.fn 147) [x0, x1] H = trimO H.length (finishO Try.prog Try.f147.results.toList (evalCode Try.prog (cxG Try.prog (mkHints tab) k 147 none) (Try.f147.body.getD .skip) (fillArgs (fr 52 []) 0 [x0, x1]) (H ++ [.slot]))) := evalT_fn 52 Try.func147 rfl (by decide) rfl
theorem sb147_10_4 : slotB tab.slots 147 10 4 = some 0 := by rfl
theorem ev148 (k : Nat) (x0 x1 : AV) (H : Heap) : evalT Try.prog (mkHints tab) (k + 1) (.fn 148) [x0, x1] H = trimO H.length (finishO Try.prog Try.f148.results.toList (evalCode Try.prog (cxG Try.prog (mkHints tab) k 148 none) (Try.f148.body.getD .skip) (fillArgs (fr 43 []) 0 [x0, x1]) (H ++ [.slot]))) := evalT_fn 43 Try.func148 rfl (by decide) rfl
theorem sb148_14_5 : slotB tab.slots 148 14 5 = some 0 := by rfl
theorem ev149 (k : Nat) (x0 x1 : AV) (H : Heap) : evalT Try.prog (mkHints tab) (k + 1) (.fn 149) [x0, x1] H = trimO H.length (finishO Try.prog Try.f149.results.toList (evalCode Try.prog (cxG Try.prog (mkHints tab) k 149 none) (Try.f149.body.getD .skip) (fillArgs (fr 124 []) 0 [x0, x1]) H)) := by
  have h := evalT_fn 124 Try.func149 rfl (by decide) rfl (P := Try.prog) (h := mkHints tab) (k := k) (args := [x0, x1]) (H := H)
  rw [show (mkHints tab).slots 149 = 0 from rfl, show (List.replicate 0 AObj.slot) = [] from rfl, List.append_nil] at h
  exact h
theorem sb149_2_2 : slotB tab.slots 149 2 2 = none := by rfl
theorem fsl149_10_1 : fslotB tab.fslots 149 10 1 = [] := by rfl
theorem kb149_10_1 : keepB tab.keeps 149 10 1 = false := by rfl
theorem fsl149_10_6 : fslotB tab.fslots 149 10 6 = [] := by rfl
theorem kb149_10_6 : keepB tab.keeps 149 10 6 = false := by rfl
theorem sb149_11_2 : slotB tab.slots 149 11 2 = none := by rfl
theorem fsl149_13_1 : fslotB tab.fslots 149 13 1 = [] := by rfl
theorem kb149_13_1 : keepB tab.keeps 149 13 1 = false := by rfl
theorem fsl149_16_2 : fslotB tab.fslots 149 16 2 = [] := by rfl
theorem kb149_16_2 : keepB tab.keeps 149 16 2 = false := by rfl
theorem sb149_24_3 : slotB tab.slots 149 24 3 = none := by rfl
theorem fsl149_25_2 : fslotB tab.fslots 149 25 2 = [] := by rfl
theorem kb149_25_2 : keepB tab.keeps 149 25 2 = false := by rfl
theorem fsl149_26_2 : fslotB tab.fslots 149 26 2 = [] := by rfl
theorem rb149_26_2 : rawB tab.keeps 149 26 2 = false := by rfl
theorem kb149_26_2 : keepB tab.keeps 149 26 2 = true := by rfl
theorem fsl149_26_3 : fslotB tab.fslots 149 26 3 = [] := by rfl
theorem rb149_26_3 : rawB tab.keeps 149 26 3 = true := by rfl
theorem kb149_26_3 : keepB tab.keeps 149 26 3 = true := by rfl
theorem fsl149_28_1 : fslotB tab.fslots 149 28 1 = [] := by rfl
theorem kb149_28_1 : keepB tab.keeps 149 28 1 = false := by rfl
theorem fd43_1 (cs : List AV) : fieldA Try.prog 43 (.agg cs) 1 = cs[1]? := by kernel_rfl
theorem dr149_27 : drawFact Try.f149 27 [0, 0, 2, 0, 0, 16, 56, 120, 0, 256, 768, 2040, 4095, 8191] = true := by kernel_rfl
theorem ev150 (k : Nat) (x0 : AV) (H : Heap) : evalT Try.prog (mkHints tab) (k + 1) (.fn 150) [x0] H = trimO H.length (finishO Try.prog Try.f150.results.toList (evalCode Try.prog (cxG Try.prog (mkHints tab) k 150 none) (Try.f150.body.getD .skip) (fillArgs (fr 6 []) 0 [x0]) H)) := by
  have h := evalT_fn 6 Try.func150 rfl (by decide) rfl (P := Try.prog) (h := mkHints tab) (k := k) (args := [x0]) (H := H)
  rw [show (mkHints tab).slots 150 = 0 from rfl, show (List.replicate 0 AObj.slot) = [] from rfl, List.append_nil] at h
  exact h
theorem sb150_0_1 : slotB tab.slots 150 0 1 = none := by rfl
theorem fsl150_1_2 : fslotB tab.fslots 150 1 2 = [] := by rfl
theorem kb150_1_2 : keepB tab.keeps 150 1 2 = false := by rfl
theorem ev151 (k : Nat) (x0 x1 : AV) (H : Heap) : evalT Try.prog (mkHints tab) (k + 1) (.fn 151) [x0, x1] H = trimO H.length (finishO Try.prog Try.f151.results.toList (evalCode Try.prog (cxG Try.prog (mkHints tab) k 151 none) (Try.f151.body.getD .skip) (fillArgs (fr 9 []) 0 [x0, x1]) H)) := by
  have h := evalT_fn 9 Try.func151 rfl (by decide) rfl (P := Try.prog) (h := mkHints tab) (k := k) (args := [x0, x1]) (H := H)
  rw [show (mkHints tab).slots 151 = 0 from rfl, show (List.replicate 0 AObj.slot) = [] from rfl, List.append_nil] at h
  exact h
theorem sb151_0_2 : slotB tab.slots 151 0 2 = none := by rfl
theorem fsl151_1_2 : fslotB tab.fslots 151 1 2 = [] := by rfl
theorem kb151_1_2 : keepB tab.keeps 151 1 2 = false := by rfl
theorem fsl151_1_3 : fslotB tab.fslots 151 1 3 = [] := by rfl
theorem kb151_1_3 : keepB tab.keeps 151 1 3 = false := by rfl
theorem dr151_1 : drawFact Try.f151 1 [0, 0, 2, 7, 15] = true := by kernel_rfl
theorem ev154 (k : Nat) (x0 : AV) (H : Heap) : evalT Try.prog (mkHints tab) (k + 1) (.fn 154) [x0] H = trimO H.length (finishO Try.prog Try.f154.results.toList (evalCode Try.prog (cxG Try.prog (mkHints tab) k 154 none) (Try.f154.body.getD .skip) (fillArgs (fr 25 []) 0 [x0]) H)) := by
  have h := evalT_fn 25 Try.func154 rfl (by decide) rfl (P := Try.prog) (h := mkHints tab) (k := k) (args := [x0]) (H := H)
  rw [show (mkHints tab).slots 154 = 0 from rfl, show (List.replicate 0 AObj.slot) = [] from rfl, List.append_nil] at h
  exact h
theorem ev155 (k : Nat) (x0 x1 : AV) (H : Heap) : evalT Try.prog (mkHints tab) (k + 1) (.fn 155) [x0, x1] H = trimO H.length (finishO Try.prog Try.f155.results.toList (evalCode Try.prog (cxG Try.prog (mkHints tab) k 155 none) (Try.f155.body.getD .skip) (fillArgs (fr 14 []) 0 [x0, x1]) H)) := by
  have h := evalT_fn 14 Try.func155 rfl (by decide) rfl (P := Try.prog) (h := mkHints tab) (k := k) (args := [x0, x1]) (H := H)
  rw [show (mkHints tab).slots 155 = 0 from rfl, show (List.replicate 0 AObj.slot) = [] from rfl, List.append_nil] at h
  exact h
theorem ev156 (k : Nat) (x0 : AV) (H : Heap) : evalT Try.prog (mkHints tab) (k + 1) (.fn 156) [x0] H = trimO H.length (finishO Try.prog Try.f156.results.toList (evalCode Try.prog (cxG Try.prog (mkHints tab) k 156 none) (Try.f156.body.getD .skip) (fillArgs (fr 9 []) 0 [x0]) H)) := by
  have h := evalT_fn 9 Try.func156 rfl (by decide) rfl (P := Try.prog) (h := mkHints tab) (k := k) (args := [x0]) (H := H)
  rw [show (mkHints tab).slots 156 = 0 from rfl, show (List.replicate 0 AObj.slot) = [] from rfl, List.append_nil] at h
  exact h
theorem sb156_0_1 : slotB tab.slots 156 0 1 = none := by rfl
theorem fsl156_1_5 : fslotB tab.fslots 156 1 5 = [] := by rfl
theorem kb156_1_5 : keepB tab.keeps 156 1 5 = false := by rfl
theorem lbe4_8 (cx : Cx) (F : Fr) (H : Heap) : evalCode Try.prog cx LB4_8 F H = evalCode Try.prog cx (loopOf Try.f4 8) F H := rfl
theorem lbe4_14 (cx : Cx) (F : Fr) (H : Heap) : evalCode Try.prog cx LB4_14 F H = evalCode Try.prog cx (loopOf Try.f4 14) F H := rfl
theorem lbe4_27 (cx : Cx) (F : Fr) (H : Heap) : evalCode Try.prog cx LB4_27 F H = evalCode Try.prog cx (loopOf Try.f4 27) F H := rfl
theorem lbe16_7 (cx : Cx) (F : Fr) (H : Heap) : evalCode Try.prog cx LB16_7 F H = evalCode Try.prog cx (loopOf Try.f16 7) F H := rfl
theorem lbe16_19 (cx : Cx) (F : Fr) (H : Heap) : evalCode Try.prog cx LB16_19 F H = evalCode Try.prog cx (loopOf Try.f16 19) F H := rfl
theorem lbe21_3 (cx : Cx) (F : Fr) (H : Heap) : evalCode Try.prog cx LB21_3 F H = evalCode Try.prog cx (loopOf Try.f21 3) F H := rfl
theorem lbe22_5 (cx : Cx) (F : Fr) (H : Heap) : evalCode Try.prog cx LB22_5 F H = evalCode Try.prog cx (loopOf Try.f22 5) F H := rfl
theorem lbe23_3 (cx : Cx) (F : Fr) (H : Heap) : evalCode Try.prog cx LB23_3 F H = evalCode Try.prog cx (loopOf Try.f23 3) F H := rfl
theorem lbe23_10 (cx : Cx) (F : Fr) (H : Heap) : evalCode Try.prog cx LB23_10 F H = evalCode Try.prog cx (loopOf Try.f23 10) F H := rfl
theorem lbe23_19 (cx : Cx) (F : Fr) (H : Heap) : evalCode Try.prog cx LB23_19 F H = evalCode Try.prog cx (loopOf Try.f23 19) F H := rfl
theorem lbe24_4 (cx : Cx) (F : Fr) (H : Heap) : evalCode Try.prog cx LB24_4 F H = evalCode Try.prog cx (loopOf Try.f24 4) F H := rfl
theorem lbe62_4 (cx : Cx) (F : Fr) (H : Heap) : evalCode Try.prog cx LB62_4 F H = evalCode Try.prog cx (loopOf Try.f62 4) F H := rfl
theorem lbe62_10 (cx : Cx) (F : Fr) (H : Heap) : evalCode Try.prog cx LB62_10 F H = evalCode Try.prog cx (loopOf Try.f62 10) F H := rfl
theorem lbe63_3 (cx : Cx) (F : Fr) (H : Heap) : evalCode Try.prog cx LB63_3 F H = evalCode Try.prog cx (loopOf Try.f63 3) F H := rfl
theorem lbe66_2 (cx : Cx) (F : Fr) (H : Heap) : evalCode Try.prog cx LB66_2 F H = evalCode Try.prog cx (loopOf Try.f66 2) F H := rfl
theorem lbe67_4 (cx : Cx) (F : Fr) (H : Heap) : evalCode Try.prog cx LB67_4 F H = evalCode Try.prog cx (loopOf Try.f67 4) F H := rfl
theorem lbe67_9 (cx : Cx) (F : Fr) (H : Heap) : evalCode Try.prog cx LB67_9 F H = evalCode Try.prog cx (loopOf Try.f67 9) F H := rfl
theorem lbe69_2 (cx : Cx) (F : Fr) (H : Heap) : evalCode Try.prog cx LB69_2 F H = evalCode Try.prog cx (loopOf Try.f69 2) F H := rfl
theorem lbe100_4 (cx : Cx) (F : Fr) (H : Heap) : evalCode Try.prog cx LB100_4 F H = evalCode Try.prog cx (loopOf Try.f100 4) F H := rfl
theorem lbe107_3 (cx : Cx) (F : Fr) (H : Heap) : evalCode Try.prog cx LB107_3 F H = evalCode Try.prog cx (loopOf Try.f107 3) F H := rfl
theorem lbe109_6 (cx : Cx) (F : Fr) (H : Heap) : evalCode Try.prog cx LB109_6 F H = evalCode Try.prog cx (loopOf Try.f109 6) F H := rfl
theorem lbe125_3 (cx : Cx) (F : Fr) (H : Heap) : evalCode Try.prog cx LB125_3 F H = evalCode Try.prog cx (loopOf Try.f125 3) F H := rfl
theorem lbe139_3 (cx : Cx) (F : Fr) (H : Heap) : evalCode Try.prog cx LB139_3 F H = evalCode Try.prog cx (loopOf Try.f139 3) F H := rfl
theorem lbe139_7 (cx : Cx) (F : Fr) (H : Heap) : evalCode Try.prog cx LB139_7 F H = evalCode Try.prog cx (loopOf Try.f139 7) F H := rfl
theorem lbe147_4 (cx : Cx) (F : Fr) (H : Heap) : evalCode Try.prog cx LB147_4 F H = evalCode Try.prog cx (loopOf Try.f147 4) F H := rfl
theorem lbe148_4 (cx : Cx) (F : Fr) (H : Heap) : evalCode Try.prog cx LB148_4 F H = evalCode Try.prog cx (loopOf Try.f148 4) F H := rfl
theorem lbe149_5 (cx : Cx) (F : Fr) (H : Heap) : evalCode Try.prog cx LB149_5 F H = evalCode Try.prog cx (loopOf Try.f149 5) F H := rfl
theorem lbe149_14 (cx : Cx) (F : Fr) (H : Heap) : evalCode Try.prog cx LB149_14 F H = evalCode Try.prog cx (loopOf Try.f149 14) F H := rfl
theorem lbe149_18 (cx : Cx) (F : Fr) (H : Heap) : evalCode Try.prog cx LB149_18 F H = evalCode Try.prog cx (loopOf Try.f149 18) F H := rfl
theorem lbe154_5 (cx : Cx) (F : Fr) (H : Heap) : evalCode Try.prog cx LB154_5 F H = evalCode Try.prog cx (loopOf Try.f154 5) F H := rfl
theorem FACTS : type_of% (And.intro (J (J @fb4 @fb13 @fb14 @fb16 @fb17 @fb21 @fb22 @fb23) (J @fb24 @fb62 @fb63 @fb64 @fb65 @fb66 @fb67 @fb69) (J @fb70 @fb71 @fb72 @fb100 @fb101 @fb79 @fb102 @fb103) (J @fb104 @fb105 @fb106 @fb107 @fb108 @fb109 @fb123 @fb124) (J @fb125 @fb126 @fb127 @fb138 @fb139 @fb140 @fb147 @fb148) (J @fb149 @fb150 @fb151 @fb154 @fb155 @fb156 @fsl4_1_0 @kb4_1_0) (J @fsl4_3_1 @kb4_3_1 @fsl4_4_1 @kb4_4_1 @fsl4_4_15 @kb4_4_15 @fsl4_16_8 @kb4_16_8) (J @sb4_16_10 @sb4_17_3 @fsl4_18_1 @kb4_18_1 @sb4_18_5 @fsl4_19_1 @kb4_19_1 @fsl4_22_2)) (And.intro (J (J @kb4_22_2 @fsl4_23_2 @kb4_23_2 @fsl4_29_8 @kb4_29_8 @ldp25 @ldi25 @lde25) (J @ln35 @lnv35 @lnh35 @fa25_0 @ldp3 @ldi3 @lde3 @ia35) (J @iah35 @ldp38 @ldi38 @lde38 @ln38 @lnv38 @lnh38 @bs40_0_) (J @ia38 @iah38 @ldp2 @ldi2 @lde2 @bs40_1_0 @ap40 @bs37_1_0) (J @ap37 @al25 @neb4 @ln37 @lnv37 @lnh37 @ia37 @iah37) (J @ldp40 @ldi40 @lde40 @fsl13_1_4 @kb13_1_4 @sb13_1_8 @bd34_0_1 @bs22_1_0) (J @bs23_1_0 @bd25_0_1_2_3_h1 @bd25_0_1_2_3_h2 @bd25_0_1_2_3_h3 @bd25_0_1_2_3 @fa25_2 @ldp22 @ldi22) (J @lde22 @ln22 @lnv22 @lnh22 @fa25_3 @ldp23 @ldi23 @lde23)) (And.intro (J (J @ln23 @lnv23 @lnh23 @ia23 @iah23 @sb16_0_1 @fsl16_1_1 @kb16_1_1) (J @fsl16_4_1 @kb16_4_1 @sb16_5_5 @sb16_8_3 @fsl16_9_3 @kb16_9_3 @fsl16_10_2 @kb16_10_2) (J @fsl16_12_2 @kb16_12_2 @sb16_15_4 @fsl16_21_10 @kb16_21_10 @sb16_21_12 @bd25_ @fa25_1) (J @bd25_0_1 @ia22 @iah22 @ldp34 @ldi34 @lde34 @al34 @fa97_0) (J @fa34_1 @bd34_0_1_2 @ap22 @ap23 @fsl17_1_1 @kb17_1_1 @fa34_0 @sb22_0_0) (J @sb22_6_5 @fsl22_8_3 @kb22_8_3 @al43 @cv2_101 @cv101_102 @bs41_1_0 @ap41) (J @sb23_1_2 @fsl23_5_6 @kb23_5_6 @fsl23_12_6 @kb23_12_6 @sb23_16_3 @sb23_21_10 @ms37) (J @ln40 @lnv40 @lnh40 @fsl24_6_8 @kb24_6_8 @ia40 @iah40 @ldp43)) (And.intro (J (J @ldi43 @lde43 @sb62_11_3 @fsl62_12_3 @kb62_12_3 @sb63_5_10 @bd97_1_2_3 @fsl64_3_2) (J @kb64_3_2 @sb64_3_3 @fa34_2 @al155 @fa97_1 @ldp95 @ldi95 @lde95) (J @ldp155 @ldi155 @lde155 @fa97_2 @fa97_3 @sb65_0_1 @fsl65_1_1 @kb65_1_1) (J @fsl65_2_9 @kb65_2_9 @fsl65_4_9 @kb65_4_9 @fa34_3 @fsl67_11_7 @kb67_11_7 @sb69_0_0) (J @ln41 @lnv41 @lnh41 @ia41 @iah41 @ldp102 @ldi102 @lde102) (J @sl41 @bd43_0_1_h1 @bd43_0_1 @sb70_1_1 @ms40 @fsl71_3_1 @kb71_3_1 @fsl71_3_2) (J @kb71_3_2 @fsl71_5_6 @kb71_5_6 @fsl71_7_6 @kb71_7_6 @fsl71_9_2 @kb71_9_2 @fsl71_9_3) (J @kb71_9_3 @fsl71_11_2 @kb71_11_2 @fsl71_11_3 @kb71_11_3 @fsl72_1_1 @kb72_1_1 @fsl72_1_3)) (And.intro (J (J @kb72_1_3 @fsl72_7_4 @kb72_7_4 @fsl72_8_4 @kb72_8_4 @fa43_1 @ldp41 @ldi41) (J @lde41 @fsl100_1_22 @kb100_1_22 @fsl100_1_32 @kb100_1_32 @fsl100_3_1 @kb100_3_1 @sb101_0_1) (J @sb101_1_13 @fsl101_2_1 @kb101_2_1 @fa34_4 @bd155_0_1_2_3 @fa155_2 @fa155_1 @bs23_2_0_1) (J @fsl103_1_4 @kb103_1_4 @bd43_ @fsl104_1_0 @kb104_1_0 @fsl104_1_2 @kb104_1_2 @fsl104_1_4) (J @kb104_1_4 @fsl105_1_0 @kb105_1_0 @fsl105_1_2 @kb105_1_2 @fsl105_1_4 @kb105_1_4 @sb106_0_1) (J @fsl106_2_2 @kb106_2_2 @fsl106_3_2 @kb106_3_2 @fsl107_5_5 @kb107_5_5 @sb107_5_9 @sb107_8_3) (J @fa43_0 @ldp4 @ldi4 @lde4 @fsl125_5_6 @kb125_5_6 @fsl125_5_12 @kb125_5_12) (J @fsl125_5_13 @kb125_5_13 @sb125_5_15 @sb126_0_0 @sb126_1_3 @fsl126_3_1 @kb126_3_1 @ms41)) (And.intro (J (J @sb127_0_2 @fsl127_1_2 @kb127_1_2 @sb127_1_6 @sb127_1_7 @sb138_0_2 @fsl138_2_6 @kb138_2_6) (J @fsl138_2_7 @kb138_2_7 @fsl138_3_4 @kb138_3_4 @fsl138_4_6 @kb138_4_6 @fsl138_4_7 @kb138_4_7) (J @fsl138_5_6 @kb138_5_6 @fsl138_5_7 @kb138_5_7 @eqb4 @sb139_0_2 @sb139_1_8 @fsl139_14_6) (J @kb139_14_6 @cv102_101 @sb140_0_2 @sb140_0_3 @fsl140_1_4 @kb140_1_4 @fsl140_2_6 @kb140_2_6) (J @fsl140_2_10 @kb140_2_10 @sb140_2_11 @sb140_2_12 @fsl140_4_2 @kb140_4_2 @fsl140_4_3 @kb140_4_3) (J @fsl140_5_2 @kb140_5_2 @fsl140_5_3 @kb140_5_3 @fsl140_5_4 @kb140_5_4 @sb147_10_4 @sb148_14_5) (J @sb149_2_2 @fsl149_10_1 @kb149_10_1 @fsl149_10_6 @kb149_10_6 @sb149_11_2 @fsl149_13_1 @kb149_13_1) (J @fsl149_16_2 @kb149_16_2 @sb149_24_3 @fsl149_25_2 @kb149_25_2 @fsl149_26_2 @rb149_26_2 @kb149_26_2)) (And.intro (J @fsl149_26_3 @rb149_26_3 @kb149_26_3 @fsl149_28_1 @kb149_28_1 @fd43_1 @sb150_0_1 @fsl150_1_2) (And.intro (J @kb150_1_2 @sb151_0_2 @fsl151_1_2 @kb151_1_2 @fsl151_1_3 @kb151_1_3 @sb156_0_1 @fsl156_1_5) (And.intro (J @kb156_1_5 @lbe4_8 @lbe4_14 @lbe4_27 @lbe16_7 @lbe16_19 @lbe21_3 @lbe22_5) (And.intro (J @lbe23_3 @lbe23_10 @lbe23_19 @lbe24_4 @lbe62_4 @lbe62_10 @lbe63_3 @lbe66_2) (And.intro (J @lbe67_4 @lbe67_9 @lbe69_2 @lbe100_4 @lbe107_3 @lbe109_6 @lbe125_3 @lbe139_3) (And.intro @lbe139_7 (And.intro @lbe147_4 (And.intro @lbe148_4 (And.intro @lbe149_5 (And.intro @lbe149_14 (And.intro @lbe149_18 @lbe154_5))))))))))))))))) :=
  (And.intro (J (J @fb4 @fb13 @fb14 @fb16 @fb17 @fb21 @fb22 @fb23) (J @fb24 @fb62 @fb63 @fb64 @fb65 @fb66 @fb67 @fb69) (J @fb70 @fb71 @fb72 @fb100 @fb101 @fb79 @fb102 @fb103) (J @fb104 @fb105 @fb106 @fb107 @fb108 @fb109 @fb123 @fb124) (J @fb125 @fb126 @fb127 @fb138 @fb139 @fb140 @fb147 @fb148) (J @fb149 @fb150 @fb151 @fb154 @fb155 @fb156 @fsl4_1_0 @kb4_1_0) (J @fsl4_3_1 @kb4_3_1 @fsl4_4_1 @kb4_4_1 @fsl4_4_15 @kb4_4_15 @fsl4_16_8 @kb4_16_8) (J @sb4_16_10 @sb4_17_3 @fsl4_18_1 @kb4_18_1 @sb4_18_5 @fsl4_19_1 @kb4_19_1 @fsl4_22_2)) (And.intro (J (J @kb4_22_2 @fsl4_23_2 @kb4_23_2 @fsl4_29_8 @kb4_29_8 @ldp25 @ldi25 @lde25) (J @ln35 @lnv35 @lnh35 @fa25_0 @ldp3 @ldi3 @lde3 @ia35) (J @iah35 @ldp38 @ldi38 @lde38 @ln38 @lnv38 @lnh38 @bs40_0_) (J @ia38 @iah38 @ldp2 @ldi2 @lde2 @bs40_1_0 @ap40 @bs37_1_0) (J @ap37 @al25 @neb4 @ln37 @lnv37 @lnh37 @ia37 @iah37) (J @ldp40 @ldi40 @lde40 @fsl13_1_4 @kb13_1_4 @sb13_1_8 @bd34_0_1 @bs22_1_0) (J @bs23_1_0 @bd25_0_1_2_3_h1 @bd25_0_1_2_3_h2 @bd25_0_1_2_3_h3 @bd25_0_1_2_3 @fa25_2 @ldp22 @ldi22) (J @lde22 @ln22 @lnv22 @lnh22 @fa25_3 @ldp23 @ldi23 @lde23)) (And.intro (J (J @ln23 @lnv23 @lnh23 @ia23 @iah23 @sb16_0_1 @fsl16_1_1 @kb16_1_1) (J @fsl16_4_1 @kb16_4_1 @sb16_5_5 @sb16_8_3 @fsl16_9_3 @kb16_9_3 @fsl16_10_2 @kb16_10_2) (J @fsl16_12_2 @kb16_12_2 @sb16_15_4 @fsl16_21_10 @kb16_21_10 @sb16_21_12 @bd25_ @fa25_1) (J @bd25_0_1 @ia22 @iah22 @ldp34 @ldi34 @lde34 @al34 @fa97_0) (J @fa34_1 @bd34_0_1_2 @ap22 @ap23 @fsl17_1_1 @kb17_1_1 @fa34_0 @sb22_0_0) (J @sb22_6_5 @fsl22_8_3 @kb22_8_3 @al43 @cv2_101 @cv101_102 @bs41_1_0 @ap41) (J @sb23_1_2 @fsl23_5_6 @kb23_5_6 @fsl23_12_6 @kb23_12_6 @sb23_16_3 @sb23_21_10 @ms37) (J @ln40 @lnv40 @lnh40 @fsl24_6_8 @kb24_6_8 @ia40 @iah40 @ldp43)) (And.intro (J (J @ldi43 @lde43 @sb62_11_3 @fsl62_12_3 @kb62_12_3 @sb63_5_10 @bd97_1_2_3 @fsl64_3_2) (J @kb64_3_2 @sb64_3_3 @fa34_2 @al155 @fa97_1 @ldp95 @ldi95 @lde95) (J @ldp155 @ldi155 @lde155 @fa97_2 @fa97_3 @sb65_0_1 @fsl65_1_1 @kb65_1_1) (J @fsl65_2_9 @kb65_2_9 @fsl65_4_9 @kb65_4_9 @fa34_3 @fsl67_11_7 @kb67_11_7 @sb69_0_0) (J @ln41 @lnv41 @lnh41 @ia41 @iah41 @ldp102 @ldi102 @lde102) (J @sl41 @bd43_0_1_h1 @bd43_0_1 @sb70_1_1 @ms40 @fsl71_3_1 @kb71_3_1 @fsl71_3_2) (J @kb71_3_2 @fsl71_5_6 @kb71_5_6 @fsl71_7_6 @kb71_7_6 @fsl71_9_2 @kb71_9_2 @fsl71_9_3) (J @kb71_9_3 @fsl71_11_2 @kb71_11_2 @fsl71_11_3 @kb71_11_3 @fsl72_1_1 @kb72_1_1 @fsl72_1_3)) (And.intro (J (J @kb72_1_3 @fsl72_7_4 @kb72_7_4 @fsl72_8_4 @kb72_8_4 @fa43_1 @ldp41 @ldi41) (J @lde41 @fsl100_1_22 @kb100_1_22 @fsl100_1_32 @kb100_1_32 @fsl100_3_1 @kb100_3_1 @sb101_0_1) (J @sb101_1_13 @fsl101_2_1 @kb101_2_1 @fa34_4 @bd155_0_1_2_3 @fa155_2 @fa155_1 @bs23_2_0_1) (J @fsl103_1_4 @kb103_1_4 @bd43_ @fsl104_1_0 @kb104_1_0 @fsl104_1_2 @kb104_1_2 @fsl104_1_4) (J @kb104_1_4 @fsl105_1_0 @kb105_1_0 @fsl105_1_2 @kb105_1_2 @fsl105_1_4 @kb105_1_4 @sb106_0_1) (J @fsl106_2_2 @kb106_2_2 @fsl106_3_2 @kb106_3_2 @fsl107_5_5 @kb107_5_5 @sb107_5_9 @sb107_8_3) (J @fa43_0 @ldp4 @ldi4 @lde4 @fsl125_5_6 @kb125_5_6 @fsl125_5_12 @kb125_5_12) (J @fsl125_5_13 @kb125_5_13 @sb125_5_15 @sb126_0_0 @sb126_1_3 @fsl126_3_1 @kb126_3_1 @ms41)) (And.intro (J (J @sb127_0_2 @fsl127_1_2 @kb127_1_2 @sb127_1_6 @sb127_1_7 @sb138_0_2 @fsl138_2_6 @kb138_2_6) (J @fsl138_2_7 @kb138_2_7 @fsl138_3_4 @kb138_3_4 @fsl138_4_6 @kb138_4_6 @fsl138_4_7 @kb138_4_7) (J @fsl138_5_6 @kb138_5_6 @fsl138_5_7 @kb138_5_7 @eqb4 @sb139_0_2 @sb139_1_8 @fsl139_14_6) (J @kb139_14_6 @cv102_101 @sb140_0_2 @sb140_0_3 @fsl140_1_4 @kb140_1_4 @fsl140_2_6 @kb140_2_6) (J @fsl140_2_10 @kb140_2_10 @sb140_2_11 @sb140_2_12 @fsl140_4_2 @kb140_4_2 @fsl140_4_3 @kb140_4_3) (J @fsl140_5_2 @kb140_5_2 @fsl140_5_3 @kb140_5_3 @fsl140_5_4 @kb140_5_4 @sb147_10_4 @sb148_14_5) (J @sb149_2_2 @fsl149_10_1 @kb149_10_1 @fsl149_10_6 @kb149_10_6 @sb149_11_2 @fsl149_13_1 @kb149_13_1) (J @fsl149_16_2 @kb149_16_2 @sb149_24_3 @fsl149_25_2 @kb149_25_2 @fsl149_26_2 @rb149_26_2 @kb149_26_2)) (And.intro (J @fsl149_26_3 @rb149_26_3 @kb149_26_3 @fsl149_28_1 @kb149_28_1 @fd43_1 @sb150_0_1 @fsl150_1_2) (And.intro (J @kb150_1_2 @sb151_0_2 @fsl151_1_2 @kb151_1_2 @fsl151_1_3 @kb151_1_3 @sb156_0_1 @fsl156_1_5) (And.intro (J @kb156_1_5 @lbe4_8 @lbe4_14 @lbe4_27 @lbe16_7 @lbe16_19 @lbe21_3 @lbe22_5) (And.intro (J @lbe23_3 @lbe23_10 @lbe23_19 @lbe24_4 @lbe62_4 @lbe62_10 @lbe63_3 @lbe66_2) (And.intro (J @lbe67_4 @lbe67_9 @lbe69_2 @lbe100_4 @lbe107_3 @lbe109_6 @lbe125_3 @lbe139_3) (And.intro @lbe139_7 (And.intro @lbe147_4 (And.intro @lbe148_4 (And.intro @lbe149_5 (And.intro @lbe149_14 (And.intro @lbe149_18 @lbe154_5)))))))))))))))))
theorem TYPES : type_of% (And.intro (J @ag25 @sz25 @ag3 @sz3 @ag38 @sz38 @ag2 @sz2) (And.intro (J @ag40 @sz40 @ag22 @sz22 @ag23 @sz23 @ag34 @sz34) (And.intro (J @ag43 @sz43 @ag155 @sz155 @ag95 @sz95 @ag102 @sz102) (And.intro @ag41 (And.intro @sz41 (And.intro @ag4 @sz4)))))) :=
  (And.intro (J @ag25 @sz25 @ag3 @sz3 @ag38 @sz38 @ag2 @sz2) (And.intro (J @ag40 @sz40 @ag22 @sz22 @ag23 @sz23 @ag34 @sz34) (And.intro (J @ag43 @sz43 @ag155 @sz155 @ag95 @sz95 @ag102 @sz102) (And.intro @ag41 (And.intro @sz41 (And.intro @ag4 @sz4))))))
theorem FT : type_of% (And.intro @EVb (And.intro @EVc (And.intro @FACTS @TYPES))) :=
  (And.intro @EVb (And.intro @EVc (And.intro @FACTS @TYPES)))
end Go.Proofs.Sw
