/- A part of the proof: what functions of the program answer; conditions stand in each theorem. -/
import Derived.Test.YtefdgfdahmaciaaProg
import Derived.Test.YtefdgfdahmaciaaAbSim
import Derived.WalkKit
set_option linter.unusedVariables false
set_option linter.unusedSimpArgs false
set_option linter.unusedSectionVars false
namespace Go.Proofs.Sw
open Go.Ab
variable [Globals]
noncomputable def RA31_11 : Code := rfAs Try.f31 11
noncomputable def RB31_11 : Code := rfBd Try.f31 11
noncomputable def RA33_6 : Code := rfAs Try.f33 6
noncomputable def RB33_6 : Code := rfBd Try.f33 6
noncomputable def RA75_9 : Code := rfAs Try.f75 9
noncomputable def RB75_9 : Code := rfBd Try.f75 9
noncomputable def RA110_3 : Code := rfAs Try.f110 3
noncomputable def RB110_3 : Code := rfBd Try.f110 3
def tab : Tab := ⟨[(12, 12, 89, [1, 2, 3, 7, 9, 48, 49]), (20, 4, 73, [2, 3, 5]), (20, 9, 73, [2, 3, 6]), (30, 6, 54, [1, 2, 6, 19, 20, 21]), (31, 6, 55, [4, 6, 25, 26, 27]), (31, 14, 55, [6, 44, 45, 46]), (32, 4, 26, [0, 1, 12, 13]), (39, 4, 26, [0, 1, 12, 13]), (55, 11, 49, [8, 10, 34, 35, 36]), (60, 3, 19, [3, 6, 7, 8]), (62, 4, 72, [1, 42, 43, 44]), (62, 10, 72, [1, 58, 59, 60]), (75, 3, 58, [1, 3, 15, 16, 17]), (75, 15, 58, [3, 47, 48, 49]), (80, 3, 39, [0, 1, 15, 16, 17]), (92, 2, 42, [2, 3, 4, 14, 15, 16]), (97, 4, 32, [1, 2, 15, 16, 17]), (100, 4, 57, [1, 43, 44, 45]), (122, 7, 49, [0, 1, 5]), (128, 1, 19, [0, 1, 3]), (131, 6, 58, [0, 1, 5, 6, 20, 21, 22]), (132, 6, 53, [1, 6, 7, 19, 20, 21]), (133, 3, 67, [1, 5, 17, 18, 19]), (133, 7, 67, [1, 5, 6, 7, 8, 17, 18, 19, 24, 25, 26]), (134, 16, 106, [10, 11, 13, 15, 16, 17]), (137, 2, 22, [0, 3]), (142, 6, 46, [0, 1, 7, 8, 9]), (144, 8, 62, [1, 6, 7, 24, 25, 26]), (145, 4, 119, [0, 1, 5, 7, 8]), (145, 13, 119, [0, 1, 5, 7, 9, 88, 89]), (146, 10, 62, [0, 6, 7, 29, 30, 31]), (153, 3, 52, [0, 1, 2, 7, 8, 12, 13])], [(7, 6, 1), (30, 11, 7), (3, 6, 1), (3, 13, 1), (10, 6, 1), (10, 24, 1), (10, 18, 1), (149, 26, 2), (1000149, 26, 3), (12, 10, 1)], [(55, 13, 6, 0), (60, 5, 4, 0), (30, 9, 7, 0), (33, 7, 3, 0), (113, 1, 10, 1), (113, 1, 11, 2), (119, 4, 11, 0), (119, 4, 12, 1), (134, 12, 2, 0)], [(55, 1), (60, 1), (30, 1), (33, 1), (113, 2), (119, 2), (134, 1)], [27, 28, 54, 63, 64, 65, 66, 68, 71, 82, 83, 84, 92, 101, 113, 145, 153], [(5, 21, 7, [1]), (19, 7, 3, [2]), (44, 8, 9, [2])], [], [(3, 18), (3, 22), (54, 3), (54, 7)], [(51, 13, [5])]⟩
theorem lp12_12 : (tab.loops.find? fun e => e.1 == 12 && e.2.1 == 12) = some (12, 12, 89, [1, 2, 3, 7, 9, 48, 49]) := by rfl
noncomputable def LB12_12 : Code := loopOf Try.f12 12
theorem lp20_4 : (tab.loops.find? fun e => e.1 == 20 && e.2.1 == 4) = some (20, 4, 73, [2, 3, 5]) := by rfl
noncomputable def LB20_4 : Code := loopOf Try.f20 4
theorem lp20_9 : (tab.loops.find? fun e => e.1 == 20 && e.2.1 == 9) = some (20, 9, 73, [2, 3, 6]) := by rfl
noncomputable def LB20_9 : Code := loopOf Try.f20 9
theorem lp30_6 : (tab.loops.find? fun e => e.1 == 30 && e.2.1 == 6) = some (30, 6, 54, [1, 2, 6, 19, 20, 21]) := by rfl
noncomputable def LB30_6 : Code := loopOf Try.f30 6
theorem lp31_6 : (tab.loops.find? fun e => e.1 == 31 && e.2.1 == 6) = some (31, 6, 55, [4, 6, 25, 26, 27]) := by rfl
noncomputable def LB31_6 : Code := loopOf Try.f31 6
theorem lp31_14 : (tab.loops.find? fun e => e.1 == 31 && e.2.1 == 14) = some (31, 14, 55, [6, 44, 45, 46]) := by rfl
noncomputable def LB31_14 : Code := loopOf Try.f31 14
theorem lp32_4 : (tab.loops.find? fun e => e.1 == 32 && e.2.1 == 4) = some (32, 4, 26, [0, 1, 12, 13]) := by rfl
noncomputable def LB32_4 : Code := loopOf Try.f32 4
theorem lp39_4 : (tab.loops.find? fun e => e.1 == 39 && e.2.1 == 4) = some (39, 4, 26, [0, 1, 12, 13]) := by rfl
noncomputable def LB39_4 : Code := loopOf Try.f39 4
theorem lp55_11 : (tab.loops.find? fun e => e.1 == 55 && e.2.1 == 11) = some (55, 11, 49, [8, 10, 34, 35, 36]) := by rfl
noncomputable def LB55_11 : Code := loopOf Try.f55 11
theorem lp60_3 : (tab.loops.find? fun e => e.1 == 60 && e.2.1 == 3) = some (60, 3, 19, [3, 6, 7, 8]) := by rfl
noncomputable def LB60_3 : Code := loopOf Try.f60 3
theorem lp62_4 : (tab.loops.find? fun e => e.1 == 62 && e.2.1 == 4) = some (62, 4, 72, [1, 42, 43, 44]) := by rfl
noncomputable def LB62_4 : Code := loopOf Try.f62 4
theorem lp62_10 : (tab.loops.find? fun e => e.1 == 62 && e.2.1 == 10) = some (62, 10, 72, [1, 58, 59, 60]) := by rfl
noncomputable def LB62_10 : Code := loopOf Try.f62 10
theorem lp75_3 : (tab.loops.find? fun e => e.1 == 75 && e.2.1 == 3) = some (75, 3, 58, [1, 3, 15, 16, 17]) := by rfl
noncomputable def LB75_3 : Code := loopOf Try.f75 3
theorem lp75_15 : (tab.loops.find? fun e => e.1 == 75 && e.2.1 == 15) = some (75, 15, 58, [3, 47, 48, 49]) := by rfl
noncomputable def LB75_15 : Code := loopOf Try.f75 15
theorem lp80_3 : (tab.loops.find? fun e => e.1 == 80 && e.2.1 == 3) = some (80, 3, 39, [0, 1, 15, 16, 17]) := by rfl
noncomputable def LB80_3 : Code := loopOf Try.f80 3
theorem lp92_2 : (tab.loops.find? fun e => e.1 == 92 && e.2.1 == 2) = some (92, 2, 42, [2, 3, 4, 14, 15, 16]) := by rfl
noncomputable def LB92_2 : Code := loopOf Try.f92 2
theorem lp97_4 : (tab.loops.find? fun e => e.1 == 97 && e.2.1 == 4) = some (97, 4, 32, [1, 2, 15, 16, 17]) := by rfl
noncomputable def LB97_4 : Code := loopOf Try.f97 4
theorem lp100_4 : (tab.loops.find? fun e => e.1 == 100 && e.2.1 == 4) = some (100, 4, 57, [1, 43, 44, 45]) := by rfl
noncomputable def LB100_4 : Code := loopOf Try.f100 4
theorem lp122_7 : (tab.loops.find? fun e => e.1 == 122 && e.2.1 == 7) = some (122, 7, 49, [0, 1, 5]) := by rfl
noncomputable def LB122_7 : Code := loopOf Try.f122 7
theorem lp128_1 : (tab.loops.find? fun e => e.1 == 128 && e.2.1 == 1) = some (128, 1, 19, [0, 1, 3]) := by rfl
noncomputable def LB128_1 : Code := loopOf Try.f128 1
theorem lp131_6 : (tab.loops.find? fun e => e.1 == 131 && e.2.1 == 6) = some (131, 6, 58, [0, 1, 5, 6, 20, 21, 22]) := by rfl
noncomputable def LB131_6 : Code := loopOf Try.f131 6
theorem lp132_6 : (tab.loops.find? fun e => e.1 == 132 && e.2.1 == 6) = some (132, 6, 53, [1, 6, 7, 19, 20, 21]) := by rfl
noncomputable def LB132_6 : Code := loopOf Try.f132 6
theorem lp133_3 : (tab.loops.find? fun e => e.1 == 133 && e.2.1 == 3) = some (133, 3, 67, [1, 5, 17, 18, 19]) := by rfl
noncomputable def LB133_3 : Code := loopOf Try.f133 3
theorem lp133_7 : (tab.loops.find? fun e => e.1 == 133 && e.2.1 == 7) = some (133, 7, 67, [1, 5, 6, 7, 8, 17, 18, 19, 24, 25, 26]) := by rfl
noncomputable def LB133_7 : Code := loopOf Try.f133 7
theorem lp134_16 : (tab.loops.find? fun e => e.1 == 134 && e.2.1 == 16) = some (134, 16, 106, [10, 11, 13, 15, 16, 17]) := by rfl
noncomputable def LB134_16 : Code := loopOf Try.f134 16
theorem lp137_2 : (tab.loops.find? fun e => e.1 == 137 && e.2.1 == 2) = some (137, 2, 22, [0, 3]) := by rfl
noncomputable def LB137_2 : Code := loopOf Try.f137 2
theorem lp142_6 : (tab.loops.find? fun e => e.1 == 142 && e.2.1 == 6) = some (142, 6, 46, [0, 1, 7, 8, 9]) := by rfl
noncomputable def LB142_6 : Code := loopOf Try.f142 6
theorem lp144_8 : (tab.loops.find? fun e => e.1 == 144 && e.2.1 == 8) = some (144, 8, 62, [1, 6, 7, 24, 25, 26]) := by rfl
noncomputable def LB144_8 : Code := loopOf Try.f144 8
theorem lp145_4 : (tab.loops.find? fun e => e.1 == 145 && e.2.1 == 4) = some (145, 4, 119, [0, 1, 5, 7, 8]) := by rfl
noncomputable def LB145_4 : Code := loopOf Try.f145 4
theorem lp145_13 : (tab.loops.find? fun e => e.1 == 145 && e.2.1 == 13) = some (145, 13, 119, [0, 1, 5, 7, 9, 88, 89]) := by rfl
noncomputable def LB145_13 : Code := loopOf Try.f145 13
theorem lp146_10 : (tab.loops.find? fun e => e.1 == 146 && e.2.1 == 10) = some (146, 10, 62, [0, 6, 7, 29, 30, 31]) := by rfl
noncomputable def LB146_10 : Code := loopOf Try.f146 10
theorem lp153_3 : (tab.loops.find? fun e => e.1 == 153 && e.2.1 == 3) = some (153, 3, 52, [0, 1, 2, 7, 8, 12, 13]) := by rfl
noncomputable def LB153_3 : Code := loopOf Try.f153 3
theorem fb12 : inB tab.frames 12 = false := by rfl
theorem fb29 : inB tab.frames 29 = false := by rfl
theorem fb31 : inB tab.frames 31 = false := by rfl
theorem fb34 : inB tab.frames 34 = false := by rfl
theorem fb55 : inB tab.frames 55 = false := by rfl
theorem fb59 : inB tab.frames 59 = false := by rfl
theorem fb60 : inB tab.frames 60 = false := by rfl
theorem fb61 : inB tab.frames 61 = false := by rfl
theorem fb20 : inB tab.frames 20 = false := by rfl
theorem fb30 : inB tab.frames 30 = false := by rfl
theorem fb32 : inB tab.frames 32 = false := by rfl
theorem fb33 : inB tab.frames 33 = false := by rfl
theorem fb39 : inB tab.frames 39 = false := by rfl
theorem fb74 : inB tab.frames 74 = false := by rfl
theorem fb78 : inB tab.frames 78 = false := by rfl
theorem fb79 : inB tab.frames 79 = false := by rfl
theorem fb91 : inB tab.frames 91 = false := by rfl
theorem fb92 : inB tab.frames 92 = true := by rfl
theorem fb93 : inB tab.frames 93 = false := by rfl
theorem fb94 : inB tab.frames 94 = false := by rfl
theorem fb95 : inB tab.frames 95 = false := by rfl
theorem fb97 : inB tab.frames 97 = false := by rfl
theorem fb98 : inB tab.frames 98 = false := by rfl
theorem fb62 : inB tab.frames 62 = false := by rfl
theorem fb75 : inB tab.frames 75 = false := by rfl
theorem fb76 : inB tab.frames 76 = false := by rfl
theorem fb77 : inB tab.frames 77 = false := by rfl
theorem fb35 : inB tab.frames 35 = false := by rfl
theorem fb110 : inB tab.frames 110 = false := by rfl
theorem fb113 : inB tab.frames 113 = true := by rfl
theorem fb114 : inB tab.frames 114 = false := by rfl
theorem fb115 : inB tab.frames 115 = false := by rfl
theorem fb116 : inB tab.frames 116 = false := by rfl
theorem fb117 : inB tab.frames 117 = false := by rfl
theorem fb118 : inB tab.frames 118 = false := by rfl
theorem fb121 : inB tab.frames 121 = false := by rfl
theorem fb99 : inB tab.frames 99 = false := by rfl
theorem fb100 : inB tab.frames 100 = false := by rfl
theorem fb80 : inB tab.frames 80 = false := by rfl
theorem fb85 : inB tab.frames 85 = false := by rfl
theorem fb111 : inB tab.frames 111 = false := by rfl
theorem fb129 : inB tab.frames 129 = false := by rfl
theorem fb130 : inB tab.frames 130 = false := by rfl
theorem fb122 : inB tab.frames 122 = false := by rfl
theorem fb131 : inB tab.frames 131 = false := by rfl
theorem fb132 : inB tab.frames 132 = false := by rfl
theorem fb133 : inB tab.frames 133 = false := by rfl
theorem fb119 : inB tab.frames 119 = false := by rfl
theorem fb120 : inB tab.frames 120 = false := by rfl
theorem fb136 : inB tab.frames 136 = false := by rfl
theorem fb123 : inB tab.frames 123 = false := by rfl
theorem fb124 : inB tab.frames 124 = false := by rfl
theorem fb128 : inB tab.frames 128 = false := by rfl
theorem fb141 : inB tab.frames 141 = false := by rfl
theorem fb137 : inB tab.frames 137 = false := by rfl
theorem fb134 : inB tab.frames 134 = false := by rfl
theorem fb135 : inB tab.frames 135 = false := by rfl
theorem fb144 : inB tab.frames 144 = false := by rfl
theorem fb142 : inB tab.frames 142 = false := by rfl
theorem fb143 : inB tab.frames 143 = false := by rfl
theorem fb145 : inB tab.frames 145 = true := by rfl
theorem fb146 : inB tab.frames 146 = false := by rfl
theorem fb152 : inB tab.frames 152 = false := by rfl
theorem fb153 : inB tab.frames 153 = true := by rfl
theorem ev12 (k : Nat) (x0 x1 x2 : AV) (H : Heap) : evalT Try.prog (mkHints tab) (k + 1) (.fn 12) [x0, x1, x2] H = trimO H.length (finishO Try.prog Try.f12.results.toList (evalCode Try.prog (cxG Try.prog (mkHints tab) k 12 none) (Try.f12.body.getD .skip) (fillArgs (fr 89 []) 0 [x0, x1, x2]) H)) := by
  have h := evalT_fn 89 Try.func12 rfl (by decide) rfl (P := Try.prog) (h := mkHints tab) (k := k) (args := [x0, x1, x2]) (H := H)
  rw [show (mkHints tab).slots 12 = 0 from rfl, show (List.replicate 0 AObj.slot) = [] from rfl, List.append_nil] at h
  exact h
theorem fsl12_1_0 : fslotB tab.fslots 12 1 0 = [] := by rfl
theorem kb12_1_0 : keepB tab.keeps 12 1 0 = false := by rfl
theorem fsl12_3_1 : fslotB tab.fslots 12 3 1 = [] := by rfl
theorem kb12_3_1 : keepB tab.keeps 12 3 1 = false := by rfl
theorem fsl12_5_1 : fslotB tab.fslots 12 5 1 = [] := by rfl
theorem kb12_5_1 : keepB tab.keeps 12 5 1 = false := by rfl
theorem fsl12_10_1 : fslotB tab.fslots 12 10 1 = [] := by rfl
theorem rb12_10_1 : rawB tab.keeps 12 10 1 = false := by rfl
theorem kb12_10_1 : keepB tab.keeps 12 10 1 = true := by rfl
theorem fsl12_17_2 : fslotB tab.fslots 12 17 2 = [] := by rfl
theorem kb12_17_2 : keepB tab.keeps 12 17 2 = false := by rfl
theorem fsl12_17_3 : fslotB tab.fslots 12 17 3 = [] := by rfl
theorem kb12_17_3 : keepB tab.keeps 12 17 3 = false := by rfl
theorem fsl12_18_2 : fslotB tab.fslots 12 18 2 = [] := by rfl
theorem kb12_18_2 : keepB tab.keeps 12 18 2 = false := by rfl
theorem fsl12_18_3 : fslotB tab.fslots 12 18 3 = [] := by rfl
theorem kb12_18_3 : keepB tab.keeps 12 18 3 = false := by rfl
theorem fsl12_19_9 : fslotB tab.fslots 12 19 9 = [] := by rfl
theorem kb12_19_9 : keepB tab.keeps 12 19 9 = false := by rfl
theorem ag25 : isAggT Try.prog 25 = some true := by kernel_rfl
theorem sz25 : sizeT Try.prog 25 = some 4 := by kernel_rfl
theorem ldp25 (H : Heap) (id off : Nat) : loadA Try.prog H 25 (.ptr id off) = cellsAt H[id]? off 4 := by kernel_rfl
theorem ldi25 (H : Heap) (cells : List IV) (off : Nat) : loadA Try.prog H 25 (.c (.iptr cells off)) = (takeCells cells off 4).map fun l => .agg (l.map .c) := by kernel_rfl
theorem lde25 (H : Heap) (id off ext : Nat) : loadA Try.prog H 25 (.eptr id off ext) = (rowOf H id ext).bind fun r => (takeCells r.2 off 4).map fun l => .agg (l.map .c) := by kernel_rfl
theorem ln38 (cells : List IV) (n : Nat) (nl : Bool) (cap : Option Nat) : lenA Try.prog 38 (.c (.slice cells n nl cap)) = some (.c (.int .i64 n)) := by kernel_rfl
theorem lnv38 (s n sz : Nat) : lenA Try.prog 38 (lv s sz n) = some (.c (.int .i64 n)) := by
  unfold lv; split
  · rename_i h; subst h; kernel_rfl
  · kernel_rfl
theorem lnh38 (id off n ext sz : Nat) : lenA Try.prog 38 (.hsl id off n ext sz) = some (.c (.int .i64 n)) := by kernel_rfl
theorem fa25_0 (x : AV) : fieldAddrA Try.prog 25 x 0 = addrPlus x 0 := by kernel_rfl
theorem ag3 : isAggT Try.prog 3 = some false := by kernel_rfl
theorem sz3 : sizeT Try.prog 3 = some 1 := by kernel_rfl
theorem ldp3 (H : Heap) (id off : Nat) : loadA Try.prog H 3 (.ptr id off) = cellAt H[id]? off := by kernel_rfl
theorem ldi3 (H : Heap) (cells : List IV) (off : Nat) : loadA Try.prog H 3 (.c (.iptr cells off)) = (cells[off]?).map .c := by kernel_rfl
theorem lde3 (H : Heap) (id off ext : Nat) : loadA Try.prog H 3 (.eptr id off ext) = (rowOf H id ext).bind fun r => (r.2[off]?).map .c := by kernel_rfl
theorem ln64 (cells : List IV) (n : Nat) (nl : Bool) (cap : Option Nat) : lenA Try.prog 64 (.c (.slice cells n nl cap)) = some (.c (.int .i64 n)) := by kernel_rfl
theorem lnv64 (s n sz : Nat) : lenA Try.prog 64 (lv s sz n) = some (.c (.int .i64 n)) := by
  unfold lv; split
  · rename_i h; subst h; kernel_rfl
  · kernel_rfl
theorem lnh64 (id off n ext sz : Nat) : lenA Try.prog 64 (.hsl id off n ext sz) = some (.c (.int .i64 n)) := by kernel_rfl
theorem fa25_1 (x : AV) : fieldAddrA Try.prog 25 x 1 = addrPlus x 1 := by kernel_rfl
theorem ag4 : isAggT Try.prog 4 = some false := by kernel_rfl
theorem sz4 : sizeT Try.prog 4 = some 1 := by kernel_rfl
theorem ia64 (H : Heap) (cells : List IV) (len : Nat) (nl : Bool) (cap : Option Nat) (k : IntKind) (i : Int) : indexAddrA Try.prog H 64 (.c (.slice cells len nl cap)) (.c (.int k i)) = if 0 ≤ i ∧ i < len then some (.c (.iptr cells (i.toNat * 1))) else none := by kernel_rfl
theorem iah64 (H : Heap) (id off len ext sz : Nat) (k : IntKind) (i : Int) : indexAddrA Try.prog H 64 (.hsl id off len ext sz) (.c (.int k i)) = if 0 ≤ i ∧ i < len ∧ sz = 1 ∧ (rowOf H id ext).isSome = true then some (.eptr id (off + i.toNat * 1) ext) else none := by kernel_rfl
theorem ldp4 (H : Heap) (id off : Nat) : loadA Try.prog H 4 (.ptr id off) = cellAt H[id]? off := by kernel_rfl
theorem ldi4 (H : Heap) (cells : List IV) (off : Nat) : loadA Try.prog H 4 (.c (.iptr cells off)) = (cells[off]?).map .c := by kernel_rfl
theorem lde4 (H : Heap) (id off ext : Nat) : loadA Try.prog H 4 (.eptr id off ext) = (rowOf H id ext).bind fun r => (r.2[off]?).map .c := by kernel_rfl
theorem ag2 : isAggT Try.prog 2 = some false := by kernel_rfl
theorem sz2 : sizeT Try.prog 2 = some 1 := by kernel_rfl
theorem ia38 (H : Heap) (cells : List IV) (len : Nat) (nl : Bool) (cap : Option Nat) (k : IntKind) (i : Int) : indexAddrA Try.prog H 38 (.c (.slice cells len nl cap)) (.c (.int k i)) = if 0 ≤ i ∧ i < len then some (.c (.iptr cells (i.toNat * 1))) else none := by kernel_rfl
theorem iah38 (H : Heap) (id off len ext sz : Nat) (k : IntKind) (i : Int) : indexAddrA Try.prog H 38 (.hsl id off len ext sz) (.c (.int k i)) = if 0 ≤ i ∧ i < len ∧ sz = 1 ∧ (rowOf H id ext).isSome = true then some (.eptr id (off + i.toNat * 1) ext) else none := by kernel_rfl
theorem dr12_17 : drawFact Try.f12 17 [0, 0, 2, 7, 15, 31, 31, 31, 63, 383, 1023] = true := by kernel_rfl
theorem dr12_18 : drawFact Try.f12 18 [0, 0, 2, 7, 15, 31, 31, 31, 63, 383, 1023] = true := by kernel_rfl
theorem ev29 (k : Nat) (H : Heap) : evalT Try.prog (mkHints tab) (k + 1) (.fn 29) [] H = trimO H.length (finishO Try.prog Try.f29.results.toList (evalCode Try.prog (cxG Try.prog (mkHints tab) k 29 none) (Try.f29.body.getD .skip) (fillArgs (fr 40 []) 0 []) H)) := by
  have h := evalT_fn 40 Try.func29 rfl (by decide) rfl (P := Try.prog) (h := mkHints tab) (k := k) (args := []) (H := H)
  rw [show (mkHints tab).slots 29 = 0 from rfl, show (List.replicate 0 AObj.slot) = [] from rfl, List.append_nil] at h
  exact h
theorem fsl29_1_0 : fslotB tab.fslots 29 1 0 = [] := by rfl
theorem kb29_1_0 : keepB tab.keeps 29 1 0 = false := by rfl
theorem fsl29_1_1 : fslotB tab.fslots 29 1 1 = [] := by rfl
theorem kb29_1_1 : keepB tab.keeps 29 1 1 = false := by rfl
theorem sb29_1_5 : slotB tab.slots 29 1 5 = none := by rfl
theorem fsl29_2_0 : fslotB tab.fslots 29 2 0 = [] := by rfl
theorem kb29_2_0 : keepB tab.keeps 29 2 0 = false := by rfl
theorem fsl29_2_1 : fslotB tab.fslots 29 2 1 = [] := by rfl
theorem kb29_2_1 : keepB tab.keeps 29 2 1 = false := by rfl
theorem fsl29_3_12 : fslotB tab.fslots 29 3 12 = [] := by rfl
theorem kb29_3_12 : keepB tab.keeps 29 3 12 = false := by rfl
theorem fsl29_3_17 : fslotB tab.fslots 29 3 17 = [] := by rfl
theorem kb29_3_17 : keepB tab.keeps 29 3 17 = false := by rfl
theorem fsl29_3_20 : fslotB tab.fslots 29 3 20 = [] := by rfl
theorem kb29_3_20 : keepB tab.keeps 29 3 20 = false := by rfl
theorem fsl29_3_21 : fslotB tab.fslots 29 3 21 = [] := by rfl
theorem kb29_3_21 : keepB tab.keeps 29 3 21 = false := by rfl
theorem fsl29_3_23 : fslotB tab.fslots 29 3 23 = [] := by rfl
theorem kb29_3_23 : keepB tab.keeps 29 3 23 = false := by rfl
theorem al25 (H : Heap) : allocA Try.prog H 25 = some (.ptr H.length 0, H ++ [.cells 25 [.c (.int .i64 0), .c (.int .i64 0), .c (.slice [] 0 true (some 0)), .c (.slice [] 0 true (some 0))]]) := by kernel_rfl
theorem bd34_0_1_2_3 (a0 a1 a2 a3 : IV) : buildA Try.prog 34 [(0, .c a0), (1, .c a1), (2, .c a2), (3, .c a3)] = some (.agg [.c a0, .c a1, .c a2, .c a3, .c (.int .i64 0)]) := by kernel_rfl
theorem bs22_1_0 (H : Heap) (a0 a1 a2 a3 a4 : IV) : buildSliceA Try.prog H 22 1 [(0, .agg [.c a0, .c a1, .c a2, .c a3, .c a4])] = some (.hsl H.length 0 1 (1 * 5) 5, H ++ [.row false 34 [a0, a1, a2, a3, a4]]) := by kernel_rfl
theorem bs23_2_0_1 (H : Heap) (a0 a1 : IV) : buildSliceA Try.prog H 23 2 [(0, .c a0), (1, .c a1)] = some (.hsl H.length 0 2 (2 * 1) 1, H ++ [.row false 3 [a0, a1]]) := by kernel_rfl
theorem bd25_0_1_2_3_h1 (a0 a1 a3 : IV) (v2 : AV) (hv2 : v2.isCell = true) : buildA Try.prog 25 [(0, .c a0), (1, .c a1), (2, v2), (3, .c a3)] = some (.agg [.c a0, .c a1, v2, .c a3]) := by
  cases v2 <;> first | (cases hv2; done) | kernel_rfl
theorem bd25_0_1_2_3_h2 (a0 a1 a2 : IV) (v3 : AV) (hv3 : v3.isCell = true) : buildA Try.prog 25 [(0, .c a0), (1, .c a1), (2, .c a2), (3, v3)] = some (.agg [.c a0, .c a1, .c a2, v3]) := by
  cases v3 <;> first | (cases hv3; done) | kernel_rfl
theorem bd25_0_1_2_3_h3 (a0 a1 : IV) (v2 v3 : AV) (hv2 : v2.isCell = true) (hv3 : v3.isCell = true) : buildA Try.prog 25 [(0, .c a0), (1, .c a1), (2, v2), (3, v3)] = some (.agg [.c a0, .c a1, v2, v3]) := by
  cases v2 <;> cases v3 <;> first | (cases hv2; done) | (cases hv3; done) | kernel_rfl
theorem bd25_0_1_2_3 (a0 a1 a2 a3 : IV) : buildA Try.prog 25 [(0, .c a0), (1, .c a1), (2, .c a2), (3, .c a3)] = some (.agg [.c a0, .c a1, .c a2, .c a3]) := by kernel_rfl
theorem bs64_4_0_1_2_3 (H : Heap) (a0 a1 a2 a3 : IV) : buildSliceA Try.prog H 64 4 [(0, .c a0), (1, .c a1), (2, .c a2), (3, .c a3)] = some (.hsl H.length 0 4 (4 * 1) 1, H ++ [.row false 4 [a0, a1, a2, a3]]) := by kernel_rfl
theorem bs23_3_0_1_2 (H : Heap) (a0 a1 a2 : IV) : buildSliceA Try.prog H 23 3 [(0, .c a0), (1, .c a1), (2, .c a2)] = some (.hsl H.length 0 3 (3 * 1) 1, H ++ [.row false 3 [a0, a1, a2]]) := by kernel_rfl
theorem ev31 (k : Nat) (x0 : AV) (H : Heap) : evalT Try.prog (mkHints tab) (k + 1) (.fn 31) [x0] H = trimO H.length (finishO Try.prog Try.f31.results.toList (evalCode Try.prog (cxG Try.prog (mkHints tab) k 31 none) (Try.f31.body.getD .skip) (fillArgs (fr 55 []) 0 [x0]) H)) := by
  have h := evalT_fn 55 Try.func31 rfl (by decide) rfl (P := Try.prog) (h := mkHints tab) (k := k) (args := [x0]) (H := H)
  rw [show (mkHints tab).slots 31 = 0 from rfl, show (List.replicate 0 AObj.slot) = [] from rfl, List.append_nil] at h
  exact h
theorem fsl31_1_1 : fslotB tab.fslots 31 1 1 = [] := by rfl
theorem kb31_1_1 : keepB tab.keeps 31 1 1 = false := by rfl
theorem sb31_1_5 : slotB tab.slots 31 1 5 = none := by rfl
theorem sb31_4_2 : slotB tab.slots 31 4 2 = none := by rfl
theorem sb31_4_3 : slotB tab.slots 31 4 3 = none := by rfl
theorem fsl31_10_1 : fslotB tab.fslots 31 10 1 = [] := by rfl
theorem kb31_10_1 : keepB tab.keeps 31 10 1 = false := by rfl
theorem sb31_11_0 : slotB tab.slots 31 11 0 = none := by rfl
theorem fsl31_13_1 : fslotB tab.fslots 31 13 1 = [] := by rfl
theorem kb31_13_1 : keepB tab.keeps 31 13 1 = false := by rfl
theorem rae31_11 (cx : Cx) (F : Fr) (H : Heap) : evalCode Try.prog cx RA31_11 F H = evalCode Try.prog cx (rfAs Try.f31 11) F H := rfl
theorem rbe31_11 (cx : Cx) (F : Fr) (H : Heap) : evalCode Try.prog cx RB31_11 F H = evalCode Try.prog cx (rfBd Try.f31 11) F H := rfl
theorem ms64 (H : Heap) (l c : Int) : makeSliceA Try.prog H none 64 (.c (.int .i64 l)) (.c (.int .i64 c)) = if 0 ≤ l ∧ l = c ∧ c.toNat * 1 ≤ roomBytes ∧ c.toNat ≤ roomBytes ∧ 1 = 1 ∧ 0 < 1 then some (.hsl H.length 0 l.toNat (c.toNat * 1) 1, H ++ [.row false 4 ((List.replicate c.toNat [.bool false]).flatten)]) else none := by kernel_rfl
theorem al64 (H : Heap) : allocA Try.prog H 64 = some (.ptr H.length 0, H ++ [.cells 64 [.c (.slice [] 0 true (some 0))]]) := by kernel_rfl
theorem ag64 : isAggT Try.prog 64 = some false := by kernel_rfl
theorem sz64 : sizeT Try.prog 64 = some 1 := by kernel_rfl
theorem fa25_3 (x : AV) : fieldAddrA Try.prog 25 x 3 = addrPlus x 3 := by kernel_rfl
theorem ag23 : isAggT Try.prog 23 = some false := by kernel_rfl
theorem sz23 : sizeT Try.prog 23 = some 1 := by kernel_rfl
theorem ldp23 (H : Heap) (id off : Nat) : loadA Try.prog H 23 (.ptr id off) = cellAt H[id]? off := by kernel_rfl
theorem ldi23 (H : Heap) (cells : List IV) (off : Nat) : loadA Try.prog H 23 (.c (.iptr cells off)) = (cells[off]?).map .c := by kernel_rfl
theorem lde23 (H : Heap) (id off ext : Nat) : loadA Try.prog H 23 (.eptr id off ext) = (rowOf H id ext).bind fun r => (r.2[off]?).map .c := by kernel_rfl
theorem ln23 (cells : List IV) (n : Nat) (nl : Bool) (cap : Option Nat) : lenA Try.prog 23 (.c (.slice cells n nl cap)) = some (.c (.int .i64 n)) := by kernel_rfl
theorem lnv23 (s n sz : Nat) : lenA Try.prog 23 (lv s sz n) = some (.c (.int .i64 n)) := by
  unfold lv; split
  · rename_i h; subst h; kernel_rfl
  · kernel_rfl
theorem lnh23 (id off n ext sz : Nat) : lenA Try.prog 23 (.hsl id off n ext sz) = some (.c (.int .i64 n)) := by kernel_rfl
theorem ia23 (H : Heap) (cells : List IV) (len : Nat) (nl : Bool) (cap : Option Nat) (k : IntKind) (i : Int) : indexAddrA Try.prog H 23 (.c (.slice cells len nl cap)) (.c (.int k i)) = if 0 ≤ i ∧ i < len then some (.c (.iptr cells (i.toNat * 1))) else none := by kernel_rfl
theorem iah23 (H : Heap) (id off len ext sz : Nat) (k : IntKind) (i : Int) : indexAddrA Try.prog H 23 (.hsl id off len ext sz) (.c (.int k i)) = if 0 ≤ i ∧ i < len ∧ sz = 1 ∧ (rowOf H id ext).isSome = true then some (.eptr id (off + i.toNat * 1) ext) else none := by kernel_rfl
theorem ldp64 (H : Heap) (id off : Nat) : loadA Try.prog H 64 (.ptr id off) = cellAt H[id]? off := by kernel_rfl
theorem ldi64 (H : Heap) (cells : List IV) (off : Nat) : loadA Try.prog H 64 (.c (.iptr cells off)) = (cells[off]?).map .c := by kernel_rfl
theorem lde64 (H : Heap) (id off ext : Nat) : loadA Try.prog H 64 (.eptr id off ext) = (rowOf H id ext).bind fun r => (r.2[off]?).map .c := by kernel_rfl
theorem al34 (H : Heap) : allocA Try.prog H 34 = some (.ptr H.length 0, H ++ [.cells 34 [.c (.int .i64 0), .c (.int .i64 0), .c (.int .i64 0), .c (.int .i64 0), .c (.int .i64 0)]]) := by kernel_rfl
theorem ag34 : isAggT Try.prog 34 = some true := by kernel_rfl
theorem sz34 : sizeT Try.prog 34 = some 5 := by kernel_rfl
theorem fa34_1 (x : AV) : fieldAddrA Try.prog 34 x 1 = addrPlus x 1 := by kernel_rfl
theorem ldp34 (H : Heap) (id off : Nat) : loadA Try.prog H 34 (.ptr id off) = cellsAt H[id]? off 5 := by kernel_rfl
theorem ldi34 (H : Heap) (cells : List IV) (off : Nat) : loadA Try.prog H 34 (.c (.iptr cells off)) = (takeCells cells off 5).map fun l => .agg (l.map .c) := by kernel_rfl
theorem lde34 (H : Heap) (id off ext : Nat) : loadA Try.prog H 34 (.eptr id off ext) = (rowOf H id ext).bind fun r => (takeCells r.2 off 5).map fun l => .agg (l.map .c) := by kernel_rfl
theorem ev34 (k : Nat) (x0 : AV) (H : Heap) : evalT Try.prog (mkHints tab) (k + 1) (.fn 34) [x0] H = trimO H.length (finishO Try.prog Try.f34.results.toList (evalCode Try.prog (cxG Try.prog (mkHints tab) k 34 none) (Try.f34.body.getD .skip) (fillArgs (fr 13 []) 0 [x0]) H)) := by
  have h := evalT_fn 13 Try.func34 rfl (by decide) rfl (P := Try.prog) (h := mkHints tab) (k := k) (args := [x0]) (H := H)
  rw [show (mkHints tab).slots 34 = 0 from rfl, show (List.replicate 0 AObj.slot) = [] from rfl, List.append_nil] at h
  exact h
theorem fa25_2 (x : AV) : fieldAddrA Try.prog 25 x 2 = addrPlus x 2 := by kernel_rfl
theorem ag22 : isAggT Try.prog 22 = some false := by kernel_rfl
theorem sz22 : sizeT Try.prog 22 = some 1 := by kernel_rfl
theorem ldp22 (H : Heap) (id off : Nat) : loadA Try.prog H 22 (.ptr id off) = cellAt H[id]? off := by kernel_rfl
theorem ldi22 (H : Heap) (cells : List IV) (off : Nat) : loadA Try.prog H 22 (.c (.iptr cells off)) = (cells[off]?).map .c := by kernel_rfl
theorem lde22 (H : Heap) (id off ext : Nat) : loadA Try.prog H 22 (.eptr id off ext) = (rowOf H id ext).bind fun r => (r.2[off]?).map .c := by kernel_rfl
theorem ln22 (cells : List IV) (n : Nat) (nl : Bool) (cap : Option Nat) : lenA Try.prog 22 (.c (.slice cells n nl cap)) = some (.c (.int .i64 n)) := by kernel_rfl
theorem lnv22 (s n sz : Nat) : lenA Try.prog 22 (lv s sz n) = some (.c (.int .i64 n)) := by
  unfold lv; split
  · rename_i h; subst h; kernel_rfl
  · kernel_rfl
theorem lnh22 (id off n ext sz : Nat) : lenA Try.prog 22 (.hsl id off n ext sz) = some (.c (.int .i64 n)) := by kernel_rfl
theorem ev55 (k : Nat) (x0 x1 : AV) (H : Heap) : evalT Try.prog (mkHints tab) (k + 1) (.fn 55) [x0, x1] H = trimO H.length (finishO Try.prog Try.f55.results.toList (evalCode Try.prog (cxG Try.prog (mkHints tab) k 55 none) (Try.f55.body.getD .skip) (fillArgs (fr 49 []) 0 [x0, x1]) (H ++ [.slot]))) := evalT_fn 49 Try.func55 rfl (by decide) rfl
theorem fsl55_1_3 : fslotB tab.fslots 55 1 3 = [] := by rfl
theorem kb55_1_3 : keepB tab.keeps 55 1 3 = false := by rfl
theorem sb55_4_2 : slotB tab.slots 55 4 2 = none := by rfl
theorem fsl55_6_0 : fslotB tab.fslots 55 6 0 = [] := by rfl
theorem kb55_6_0 : keepB tab.keeps 55 6 0 = false := by rfl
theorem fsl55_6_3 : fslotB tab.fslots 55 6 3 = [] := by rfl
theorem kb55_6_3 : keepB tab.keeps 55 6 3 = false := by rfl
theorem sb55_13_6 : slotB tab.slots 55 13 6 = some 0 := by rfl
theorem ln81 (cells : List IV) (n : Nat) (nl : Bool) (cap : Option Nat) : lenA Try.prog 81 (.c (.slice cells n nl cap)) = some (.c (.int .i64 n)) := by kernel_rfl
theorem lnv81 (s n sz : Nat) : lenA Try.prog 81 (lv s sz n) = some (.c (.int .i64 n)) := by
  unfold lv; split
  · rename_i h; subst h; kernel_rfl
  · kernel_rfl
theorem lnh81 (id off n ext sz : Nat) : lenA Try.prog 81 (.hsl id off n ext sz) = some (.c (.int .i64 n)) := by kernel_rfl
theorem ms81 (H : Heap) (l c : Int) : makeSliceA Try.prog H none 81 (.c (.int .i64 l)) (.c (.int .i64 c)) = if 0 ≤ l ∧ l = c ∧ c.toNat * 32 ≤ roomBytes ∧ c.toNat ≤ roomBytes ∧ 2 = 2 ∧ 0 < 2 then some (.hsl H.length 0 l.toNat (c.toNat * 2) 2, H ++ [.row false 140 ((List.replicate c.toNat [.bool false, .slice [] 0 true (some 0)]).flatten)]) else none := by kernel_rfl
theorem cp81 (H : Heap) (d s : AV) : copyA Try.prog H 81 d s = cpO 2 d H (srcOf H 2 s) := by kernel_rfl
theorem dr55_6 : drawFact Try.f55 6 [0, 0, 0, 7, 15] = true := by kernel_rfl
theorem ag140 : isAggT Try.prog 140 = some true := by kernel_rfl
theorem sz140 : sizeT Try.prog 140 = some 2 := by kernel_rfl
theorem ia81 (H : Heap) (cells : List IV) (len : Nat) (nl : Bool) (cap : Option Nat) (k : IntKind) (i : Int) : indexAddrA Try.prog H 81 (.c (.slice cells len nl cap)) (.c (.int k i)) = if 0 ≤ i ∧ i < len then some (.c (.iptr cells (i.toNat * 2))) else none := by kernel_rfl
theorem iah81 (H : Heap) (id off len ext sz : Nat) (k : IntKind) (i : Int) : indexAddrA Try.prog H 81 (.hsl id off len ext sz) (.c (.int k i)) = if 0 ≤ i ∧ i < len ∧ sz = 2 ∧ (rowOf H id ext).isSome = true then some (.eptr id (off + i.toNat * 2) ext) else none := by kernel_rfl
theorem ldp140 (H : Heap) (id off : Nat) : loadA Try.prog H 140 (.ptr id off) = cellsAt H[id]? off 2 := by kernel_rfl
theorem ldi140 (H : Heap) (cells : List IV) (off : Nat) : loadA Try.prog H 140 (.c (.iptr cells off)) = (takeCells cells off 2).map fun l => .agg (l.map .c) := by kernel_rfl
theorem lde140 (H : Heap) (id off ext : Nat) : loadA Try.prog H 140 (.eptr id off ext) = (rowOf H id ext).bind fun r => (takeCells r.2 off 2).map fun l => .agg (l.map .c) := by kernel_rfl
theorem bs81_1_0 (H : Heap) (a0 a1 : IV) : buildSliceA Try.prog H 81 1 [(0, .agg [.c a0, .c a1])] = some (.hsl H.length 0 1 (1 * 2) 2, H ++ [.row false 140 [a0, a1]]) := by kernel_rfl
theorem ap81 (H : Heap) (sl : Option Nat) (s x : AV) : appendA Try.prog H sl 81 s x = apO 140 2 32 sl s H (srcOf H 2 x) := by kernel_rfl
theorem ev59 (k : Nat) (x0 : AV) (H : Heap) : evalT Try.prog (mkHints tab) (k + 1) (.fn 59) [x0] H = trimO H.length (finishO Try.prog Try.f59.results.toList (evalCode Try.prog (cxG Try.prog (mkHints tab) k 59 none) (Try.f59.body.getD .skip) (fillArgs (fr 8 []) 0 [x0]) H)) := by
  have h := evalT_fn 8 Try.func59 rfl (by decide) rfl (P := Try.prog) (h := mkHints tab) (k := k) (args := [x0]) (H := H)
  rw [show (mkHints tab).slots 59 = 0 from rfl, show (List.replicate 0 AObj.slot) = [] from rfl, List.append_nil] at h
  exact h
theorem sb59_3_2 : slotB tab.slots 59 3 2 = none := by rfl
theorem eqs38 (H : Heap) (cells : List IV) (len : Nat) (nl : Bool) (cap cap2 : Option Nat) : binA Try.prog H .eql 38 (.c (.slice cells len nl cap)) (.c (.slice [] 0 true cap2)) = some (.c (.bool (nl))) := by kernel_rfl
theorem bs38_0_ (H : Heap) : buildSliceA Try.prog H 38 0 [] = some (.hsl H.length 0 0 (0 * 1) 1, H ++ [.row false 2 []]) := by kernel_rfl
theorem ap38 (H : Heap) (sl : Option Nat) (s x : AV) : appendA Try.prog H sl 38 s x = apO 2 1 8 sl s H (srcOf H 1 x) := by kernel_rfl
theorem ev60 (k : Nat) (x0 : AV) (H : Heap) : evalT Try.prog (mkHints tab) (k + 1) (.fn 60) [x0] H = trimO H.length (finishO Try.prog Try.f60.results.toList (evalCode Try.prog (cxG Try.prog (mkHints tab) k 60 none) (Try.f60.body.getD .skip) (fillArgs (fr 19 []) 0 [x0]) (H ++ [.slot]))) := evalT_fn 19 Try.func60 rfl (by decide) rfl
theorem fsl60_5_2 : fslotB tab.fslots 60 5 2 = [] := by rfl
theorem kb60_5_2 : keepB tab.keeps 60 5 2 = false := by rfl
theorem sb60_5_4 : slotB tab.slots 60 5 4 = some 0 := by rfl
theorem ldp2 (H : Heap) (id off : Nat) : loadA Try.prog H 2 (.ptr id off) = cellAt H[id]? off := by kernel_rfl
theorem ldi2 (H : Heap) (cells : List IV) (off : Nat) : loadA Try.prog H 2 (.c (.iptr cells off)) = (cells[off]?).map .c := by kernel_rfl
theorem lde2 (H : Heap) (id off ext : Nat) : loadA Try.prog H 2 (.eptr id off ext) = (rowOf H id ext).bind fun r => (r.2[off]?).map .c := by kernel_rfl
theorem ev61 (k : Nat) (x0 x1 : AV) (H : Heap) : evalT Try.prog (mkHints tab) (k + 1) (.fn 61) [x0, x1] H = trimO H.length (finishO Try.prog Try.f61.results.toList (evalCode Try.prog (cxG Try.prog (mkHints tab) k 61 none) (Try.f61.body.getD .skip) (fillArgs (fr 8 []) 0 [x0, x1]) H)) := by
  have h := evalT_fn 8 Try.func61 rfl (by decide) rfl (P := Try.prog) (h := mkHints tab) (k := k) (args := [x0, x1]) (H := H)
  rw [show (mkHints tab).slots 61 = 0 from rfl, show (List.replicate 0 AObj.slot) = [] from rfl, List.append_nil] at h
  exact h
theorem fsl61_1_2 : fslotB tab.fslots 61 1 2 = [] := by rfl
theorem kb61_1_2 : keepB tab.keeps 61 1 2 = false := by rfl
theorem ev20 (k : Nat) (x0 x1 : AV) (H : Heap) : evalT Try.prog (mkHints tab) (k + 1) (.fn 20) [x0, x1] H = trimO H.length (finishO Try.prog Try.f20.results.toList (evalCode Try.prog (cxG Try.prog (mkHints tab) k 20 none) (Try.f20.body.getD .skip) (fillArgs (fr 73 []) 0 [x0, x1]) H)) := by
  have h := evalT_fn 73 Try.func20 rfl (by decide) rfl (P := Try.prog) (h := mkHints tab) (k := k) (args := [x0, x1]) (H := H)
  rw [show (mkHints tab).slots 20 = 0 from rfl, show (List.replicate 0 AObj.slot) = [] from rfl, List.append_nil] at h
  exact h
theorem ia22 (H : Heap) (cells : List IV) (len : Nat) (nl : Bool) (cap : Option Nat) (k : IntKind) (i : Int) : indexAddrA Try.prog H 22 (.c (.slice cells len nl cap)) (.c (.int k i)) = if 0 ≤ i ∧ i < len then some (.c (.iptr cells (i.toNat * 5))) else none := by kernel_rfl
theorem iah22 (H : Heap) (id off len ext sz : Nat) (k : IntKind) (i : Int) : indexAddrA Try.prog H 22 (.hsl id off len ext sz) (.c (.int k i)) = if 0 ≤ i ∧ i < len ∧ sz = 5 ∧ (rowOf H id ext).isSome = true then some (.eptr id (off + i.toNat * 5) ext) else none := by kernel_rfl
theorem ne34 (H : Heap) (a0 b0 : Int) (a1 b1 : Int) (a2 b2 : Int) (a3 b3 : Int) (a4 b4 : Int) : binA Try.prog H .neq 34 (.agg [.c (.int .i64 a0), .c (.int .i64 a1), .c (.int .i64 a2), .c (.int .i64 a3), .c (.int .i64 a4)]) (.agg [.c (.int .i64 b0), .c (.int .i64 b1), .c (.int .i64 b2), .c (.int .i64 b3), .c (.int .i64 b4)]) = some (.c (.bool (!((a0 == b0) && ((a1 == b1) && ((a2 == b2) && ((a3 == b3) && ((a4 == b4) && true)))))))) := by kernel_rfl
theorem dr20_6 : drawFact Try.f20 6 [0, 1, 0, 7, 15, 0, 32, 0, 224, 480, 1023] = true := by kernel_rfl
theorem dr20_11 : drawFact Try.f20 11 [0, 1, 0, 7, 15, 0, 32, 0, 224, 480, 1023] = true := by kernel_rfl
theorem ev30 (k : Nat) (x0 : AV) (H : Heap) : evalT Try.prog (mkHints tab) (k + 1) (.fn 30) [x0] H = trimO H.length (finishO Try.prog Try.f30.results.toList (evalCode Try.prog (cxG Try.prog (mkHints tab) k 30 none) (Try.f30.body.getD .skip) (fillArgs (fr 54 []) 0 [x0]) (H ++ [.slot]))) := evalT_fn 54 Try.func30 rfl (by decide) rfl
theorem sb30_0_1 : slotB tab.slots 30 0 1 = none := by rfl
theorem fsl30_1_1 : fslotB tab.fslots 30 1 1 = [] := by rfl
theorem kb30_1_1 : keepB tab.keeps 30 1 1 = false := by rfl
theorem fsl30_5_1 : fslotB tab.fslots 30 5 1 = [] := by rfl
theorem kb30_5_1 : keepB tab.keeps 30 5 1 = false := by rfl
theorem fsl30_8_7 : fslotB tab.fslots 30 8 7 = [] := by rfl
theorem kb30_8_7 : keepB tab.keeps 30 8 7 = false := by rfl
theorem sb30_9_7 : slotB tab.slots 30 9 7 = some 0 := by rfl
theorem fsl30_11_7 : fslotB tab.fslots 30 11 7 = [] := by rfl
theorem rb30_11_7 : rawB tab.keeps 30 11 7 = false := by rfl
theorem kb30_11_7 : keepB tab.keeps 30 11 7 = true := by rfl
theorem bd25_ : buildA Try.prog 25 [] = some (.agg [.c (.int .i64 0), .c (.int .i64 0), .c (.slice [] 0 true (some 0)), .c (.slice [] 0 true (some 0))]) := by kernel_rfl
theorem ap22 (H : Heap) (sl : Option Nat) (s x : AV) : appendA Try.prog H sl 22 s x = apO 34 5 40 sl s H (srcOf H 5 x) := by kernel_rfl
theorem dr30_11 : drawFact Try.f30 11 [0, 1, 0, 4, 0, 0, 32, 96, 255, 511, 1023] = true := by kernel_rfl
theorem ev32 (k : Nat) (x0 x1 : AV) (H : Heap) : evalT Try.prog (mkHints tab) (k + 1) (.fn 32) [x0, x1] H = trimO H.length (finishO Try.prog Try.f32.results.toList (evalCode Try.prog (cxG Try.prog (mkHints tab) k 32 none) (Try.f32.body.getD .skip) (fillArgs (fr 26 []) 0 [x0, x1]) H)) := by
  have h := evalT_fn 26 Try.func32 rfl (by decide) rfl (P := Try.prog) (h := mkHints tab) (k := k) (args := [x0, x1]) (H := H)
  rw [show (mkHints tab).slots 32 = 0 from rfl, show (List.replicate 0 AObj.slot) = [] from rfl, List.append_nil] at h
  exact h
theorem neb4 (H : Heap) (a b : Bool) : binA Try.prog H .neq 4 (.c (.bool a)) (.c (.bool b)) = some (.c (.bool (!(a == b)))) := by kernel_rfl
theorem dr32_6 : drawFact Try.f32 6 [0, 0, 3, 7, 0, 0, 48, 112, 255] = true := by kernel_rfl
theorem ev33 (k : Nat) (x0 : AV) (H : Heap) : evalT Try.prog (mkHints tab) (k + 1) (.fn 33) [x0] H = trimO H.length (finishO Try.prog Try.f33.results.toList (evalCode Try.prog (cxG Try.prog (mkHints tab) k 33 none) (Try.f33.body.getD .skip) (fillArgs (fr 17 []) 0 [x0]) (H ++ [.slot]))) := evalT_fn 17 Try.func33 rfl (by decide) rfl
theorem sb33_1_0 : slotB tab.slots 33 1 0 = none := by rfl
theorem fsl33_2_1 : fslotB tab.fslots 33 2 1 = [] := by rfl
theorem kb33_2_1 : keepB tab.keeps 33 2 1 = false := by rfl
theorem sb33_7_3 : slotB tab.slots 33 7 3 = some 0 := by rfl
theorem rae33_6 (cx : Cx) (F : Fr) (H : Heap) : evalCode Try.prog cx RA33_6 F H = evalCode Try.prog cx (rfAs Try.f33 6) F H := rfl
theorem rbe33_6 (cx : Cx) (F : Fr) (H : Heap) : evalCode Try.prog cx RB33_6 F H = evalCode Try.prog cx (rfBd Try.f33 6) F H := rfl
theorem al23 (H : Heap) : allocA Try.prog H 23 = some (.ptr H.length 0, H ++ [.cells 23 [.c (.slice [] 0 true (some 0))]]) := by kernel_rfl
theorem eqf70 (H : Heap) (f : FuncId) (a b : List AV) : binA Try.prog H .eql 70 (.clo f a b) (.c .nilfn) = some (.c (.bool false)) := by kernel_rfl
theorem bs23_1_0 (H : Heap) (a0 : IV) : buildSliceA Try.prog H 23 1 [(0, .c a0)] = some (.hsl H.length 0 1 (1 * 1) 1, H ++ [.row false 3 [a0]]) := by kernel_rfl
theorem ap23 (H : Heap) (sl : Option Nat) (s x : AV) : appendA Try.prog H sl 23 s x = apO 3 1 8 sl s H (srcOf H 1 x) := by kernel_rfl
theorem ev39 (k : Nat) (x0 x1 : AV) (H : Heap) : evalT Try.prog (mkHints tab) (k + 1) (.fn 39) [x0, x1] H = trimO H.length (finishO Try.prog Try.f39.results.toList (evalCode Try.prog (cxG Try.prog (mkHints tab) k 39 none) (Try.f39.body.getD .skip) (fillArgs (fr 26 []) 0 [x0, x1]) H)) := by
  have h := evalT_fn 26 Try.func39 rfl (by decide) rfl (P := Try.prog) (h := mkHints tab) (k := k) (args := [x0, x1]) (H := H)
  rw [show (mkHints tab).slots 39 = 0 from rfl, show (List.replicate 0 AObj.slot) = [] from rfl, List.append_nil] at h
  exact h
theorem dr39_6 : drawFact Try.f39 6 [0, 0, 3, 7, 0, 0, 48, 112, 255] = true := by kernel_rfl
theorem ev74 (k : Nat) (H : Heap) : evalT Try.prog (mkHints tab) (k + 1) (.fn 74) [] H = trimO H.length (finishO Try.prog Try.f74.results.toList (evalCode Try.prog (cxG Try.prog (mkHints tab) k 74 none) (Try.f74.body.getD .skip) (fillArgs (fr 8 []) 0 []) H)) := by
  have h := evalT_fn 8 Try.func74 rfl (by decide) rfl (P := Try.prog) (h := mkHints tab) (k := k) (args := []) (H := H)
  rw [show (mkHints tab).slots 74 = 0 from rfl, show (List.replicate 0 AObj.slot) = [] from rfl, List.append_nil] at h
  exact h
theorem sb74_0_0 : slotB tab.slots 74 0 0 = none := by rfl
theorem bd34_0_1_2_4 (a0 a1 a2 a3 : IV) : buildA Try.prog 34 [(0, .c a0), (1, .c a1), (2, .c a2), (4, .c a3)] = some (.agg [.c a0, .c a1, .c a2, .c (.int .i64 0), .c a3]) := by kernel_rfl
theorem bd34_0_1_2 (a0 a1 a2 : IV) : buildA Try.prog 34 [(0, .c a0), (1, .c a1), (2, .c a2)] = some (.agg [.c a0, .c a1, .c a2, .c (.int .i64 0), .c (.int .i64 0)]) := by kernel_rfl
theorem bs22_4_0_1_2_3 (H : Heap) (a0 a1 a2 a3 a4 a5 a6 a7 a8 a9 a10 a11 a12 a13 a14 a15 a16 a17 a18 a19 : IV) : buildSliceA Try.prog H 22 4 [(0, .agg [.c a0, .c a1, .c a2, .c a3, .c a4]), (1, .agg [.c a5, .c a6, .c a7, .c a8, .c a9]), (2, .agg [.c a10, .c a11, .c a12, .c a13, .c a14]), (3, .agg [.c a15, .c a16, .c a17, .c a18, .c a19])] = some (.hsl H.length 0 4 (4 * 5) 5, H ++ [.row false 34 [a0, a1, a2, a3, a4, a5, a6, a7, a8, a9, a10, a11, a12, a13, a14, a15, a16, a17, a18, a19]]) := by kernel_rfl
theorem ev78 (k : Nat) (x0 : AV) (H : Heap) : evalT Try.prog (mkHints tab) (k + 1) (.fn 78) [x0] H = trimO H.length (finishO Try.prog Try.f78.results.toList (evalCode Try.prog (cxG Try.prog (mkHints tab) k 78 none) (Try.f78.body.getD .skip) (fillArgs (fr 4 []) 0 [x0]) H)) := by
  have h := evalT_fn 4 Try.func78 rfl (by decide) rfl (P := Try.prog) (h := mkHints tab) (k := k) (args := [x0]) (H := H)
  rw [show (mkHints tab).slots 78 = 0 from rfl, show (List.replicate 0 AObj.slot) = [] from rfl, List.append_nil] at h
  exact h
theorem ev79 (k : Nat) (x0 : AV) (H : Heap) : evalT Try.prog (mkHints tab) (k + 1) (.fn 79) [x0] H = trimO H.length (finishO Try.prog Try.f79.results.toList (evalCode Try.prog (cxG Try.prog (mkHints tab) k 79 none) (Try.f79.body.getD .skip) (fillArgs (fr 23 []) 0 [x0]) H)) := by
  have h := evalT_fn 23 Try.func79 rfl (by decide) rfl (P := Try.prog) (h := mkHints tab) (k := k) (args := [x0]) (H := H)
  rw [show (mkHints tab).slots 79 = 0 from rfl, show (List.replicate 0 AObj.slot) = [] from rfl, List.append_nil] at h
  exact h
theorem fa34_0 (x : AV) : fieldAddrA Try.prog 34 x 0 = addrPlus x 0 := by kernel_rfl
theorem fa34_2 (x : AV) : fieldAddrA Try.prog 34 x 2 = addrPlus x 2 := by kernel_rfl
theorem fa34_3 (x : AV) : fieldAddrA Try.prog 34 x 3 = addrPlus x 3 := by kernel_rfl
theorem ev91 (k : Nat) (x0 x1 : AV) (H : Heap) : evalT Try.prog (mkHints tab) (k + 1) (.fn 91) [x0, x1] H = trimO H.length (finishO Try.prog Try.f91.results.toList (evalCode Try.prog (cxG Try.prog (mkHints tab) k 91 none) (Try.f91.body.getD .skip) (fillArgs (fr 21 []) 0 [x0, x1]) H)) := by
  have h := evalT_fn 21 Try.func91 rfl (by decide) rfl (P := Try.prog) (h := mkHints tab) (k := k) (args := [x0, x1]) (H := H)
  rw [show (mkHints tab).slots 91 = 0 from rfl, show (List.replicate 0 AObj.slot) = [] from rfl, List.append_nil] at h
  exact h
theorem fsl91_1_1 : fslotB tab.fslots 91 1 1 = [] := by rfl
theorem kb91_1_1 : keepB tab.keeps 91 1 1 = false := by rfl
theorem ev92 (k : Nat) (x0 x1 x2 x3 : AV) (H : Heap) : evalT Try.prog (mkHints tab) (k + 1) (.fn 92) [x0, x1, x2, x3] H = trimO H.length (finishO Try.prog Try.f92.results.toList (evalCode Try.prog (cxG Try.prog (mkHints tab) k 92 none) (Try.f92.body.getD .skip) (fillArgs (fr 42 []) 0 [x0, x1, x2, x3]) H)) := by
  have h := evalT_fn 42 Try.func92 rfl (by decide) rfl (P := Try.prog) (h := mkHints tab) (k := k) (args := [x0, x1, x2, x3]) (H := H)
  rw [show (mkHints tab).slots 92 = 0 from rfl, show (List.replicate 0 AObj.slot) = [] from rfl, List.append_nil] at h
  exact h
theorem sb92_3_3 : slotB tab.slots 92 3 3 = none := by rfl
theorem fsl92_4_3 : fslotB tab.fslots 92 4 3 = [] := by rfl
theorem kb92_4_3 : keepB tab.keeps 92 4 3 = false := by rfl
theorem sb92_4_7 : slotB tab.slots 92 4 7 = none := by rfl
theorem fsl92_8_3 : fslotB tab.fslots 92 8 3 = [] := by rfl
theorem kb92_8_3 : keepB tab.keeps 92 8 3 = false := by rfl
theorem ag145 : isAggT Try.prog 145 = some true := by kernel_rfl
theorem sz145 : sizeT Try.prog 145 = some 5 := by kernel_rfl
theorem ldp145 (H : Heap) (id off : Nat) : loadA Try.prog H 145 (.ptr id off) = cellsAt H[id]? off 5 := by kernel_rfl
theorem ldi145 (H : Heap) (cells : List IV) (off : Nat) : loadA Try.prog H 145 (.c (.iptr cells off)) = (takeCells cells off 5).map fun l => .agg (l.map .c) := by kernel_rfl
theorem lde145 (H : Heap) (id off ext : Nat) : loadA Try.prog H 145 (.eptr id off ext) = (rowOf H id ext).bind fun r => (takeCells r.2 off 5).map fun l => .agg (l.map .c) := by kernel_rfl
theorem al140 (H : Heap) : allocA Try.prog H 140 = some (.ptr H.length 0, H ++ [.cells 140 [.c (.bool false), .c (.slice [] 0 true (some 0))]]) := by kernel_rfl
theorem ev93 (k : Nat) (H : Heap) : evalT Try.prog (mkHints tab) (k + 1) (.fn 93) [] H = trimO H.length (finishO Try.prog Try.f93.results.toList (evalCode Try.prog (cxG Try.prog (mkHints tab) k 93 none) (Try.f93.body.getD .skip) (fillArgs (fr 2 []) 0 []) H)) := by
  have h := evalT_fn 2 Try.func93 rfl (by decide) rfl (P := Try.prog) (h := mkHints tab) (k := k) (args := []) (H := H)
  rw [show (mkHints tab).slots 93 = 0 from rfl, show (List.replicate 0 AObj.slot) = [] from rfl, List.append_nil] at h
  exact h
theorem sb93_0_0 : slotB tab.slots 93 0 0 = none := by rfl
theorem al145 (H : Heap) : allocA Try.prog H 145 = some (.ptr H.length 0, H ++ [.cells 145 [.c (.nilfn), .c (.nilfn), .c (.nilfn), .c (.nilfn), .c (.nilfn)]]) := by kernel_rfl
theorem bd145_0_1_2_3_4 (a0 a1 a2 a3 a4 : IV) : buildA Try.prog 145 [(0, .c a0), (1, .c a1), (2, .c a2), (3, .c a3), (4, .c a4)] = some (.agg [.c a0, .c a1, .c a2, .c a3, .c a4]) := by kernel_rfl
theorem ev94 (k : Nat) (x0 x1 : AV) (H : Heap) : evalT Try.prog (mkHints tab) (k + 1) (.fn 94) [x0, x1] H = trimO H.length (finishO Try.prog Try.f94.results.toList (evalCode Try.prog (cxG Try.prog (mkHints tab) k 94 none) (Try.f94.body.getD .skip) (fillArgs (fr 5 []) 0 [x0, x1]) H)) := by
  have h := evalT_fn 5 Try.func94 rfl (by decide) rfl (P := Try.prog) (h := mkHints tab) (k := k) (args := [x0, x1]) (H := H)
  rw [show (mkHints tab).slots 94 = 0 from rfl, show (List.replicate 0 AObj.slot) = [] from rfl, List.append_nil] at h
  exact h
theorem ev95 (k : Nat) (x0 : AV) (H : Heap) : evalT Try.prog (mkHints tab) (k + 1) (.fn 95) [x0] H = trimO H.length (finishO Try.prog Try.f95.results.toList (evalCode Try.prog (cxG Try.prog (mkHints tab) k 95 none) (Try.f95.body.getD .skip) (fillArgs (fr 19 []) 0 [x0]) H)) := by
  have h := evalT_fn 19 Try.func95 rfl (by decide) rfl (P := Try.prog) (h := mkHints tab) (k := k) (args := [x0]) (H := H)
  rw [show (mkHints tab).slots 95 = 0 from rfl, show (List.replicate 0 AObj.slot) = [] from rfl, List.append_nil] at h
  exact h
theorem sb95_0_0 : slotB tab.slots 95 0 0 = none := by rfl
theorem fsl95_4_8 : fslotB tab.fslots 95 4 8 = [] := by rfl
theorem kb95_4_8 : keepB tab.keeps 95 4 8 = false := by rfl
theorem cv2_101 (k : IntKind) (n : Int) : convA Try.prog 2 101 (.c (.int k n)) = some (.c (.int .u64 (IntKind.wrap .u64 n))) := by kernel_rfl
theorem cv101_102 (k : IntKind) (n : Int) : convA Try.prog 101 102 (.c (.int k n)) = some (.c (.int .u32 (IntKind.wrap .u32 n))) := by kernel_rfl
theorem bs41_2_0_1 (H : Heap) (a0 a1 : IV) : buildSliceA Try.prog H 41 2 [(0, .c a0), (1, .c a1)] = some (.hsl H.length 0 2 (2 * 1) 1, H ++ [.row false 102 [a0, a1]]) := by kernel_rfl
theorem ev97 (k : Nat) (x0 x1 x2 : AV) (H : Heap) : evalT Try.prog (mkHints tab) (k + 1) (.fn 97) [x0, x1, x2] H = trimO H.length (finishO Try.prog Try.f97.results.toList (evalCode Try.prog (cxG Try.prog (mkHints tab) k 97 none) (Try.f97.body.getD .skip) (fillArgs (fr 32 []) 0 [x0, x1, x2]) H)) := by
  have h := evalT_fn 32 Try.func97 rfl (by decide) rfl (P := Try.prog) (h := mkHints tab) (k := k) (args := [x0, x1, x2]) (H := H)
  rw [show (mkHints tab).slots 97 = 0 from rfl, show (List.replicate 0 AObj.slot) = [] from rfl, List.append_nil] at h
  exact h
theorem sb97_5_3 : slotB tab.slots 97 5 3 = none := by rfl
theorem sb97_6_4 : slotB tab.slots 97 6 4 = none := by rfl
theorem fsl97_7_3 : fslotB tab.fslots 97 7 3 = [] := by rfl
theorem kb97_7_3 : keepB tab.keeps 97 7 3 = false := by rfl
theorem ev98 (k : Nat) (x0 x1 : AV) (H : Heap) : evalT Try.prog (mkHints tab) (k + 1) (.fn 98) [x0, x1] H = trimO H.length (finishO Try.prog Try.f98.results.toList (evalCode Try.prog (cxG Try.prog (mkHints tab) k 98 none) (Try.f98.body.getD .skip) (fillArgs (fr 9 []) 0 [x0, x1]) H)) := by
  have h := evalT_fn 9 Try.func98 rfl (by decide) rfl (P := Try.prog) (h := mkHints tab) (k := k) (args := [x0, x1]) (H := H)
  rw [show (mkHints tab).slots 98 = 0 from rfl, show (List.replicate 0 AObj.slot) = [] from rfl, List.append_nil] at h
  exact h
theorem fsl98_1_2 : fslotB tab.fslots 98 1 2 = [] := by rfl
theorem kb98_1_2 : keepB tab.keeps 98 1 2 = false := by rfl
theorem ev62 (k : Nat) (x0 : AV) (H : Heap) : evalT Try.prog (mkHints tab) (k + 1) (.fn 62) [x0] H = trimO H.length (finishO Try.prog Try.f62.results.toList (evalCode Try.prog (cxG Try.prog (mkHints tab) k 62 none) (Try.f62.body.getD .skip) (fillArgs (fr 72 []) 0 [x0]) H)) := by
  have h := evalT_fn 72 Try.func62 rfl (by decide) rfl (P := Try.prog) (h := mkHints tab) (k := k) (args := [x0]) (H := H)
  rw [show (mkHints tab).slots 62 = 0 from rfl, show (List.replicate 0 AObj.slot) = [] from rfl, List.append_nil] at h
  exact h
theorem sb62_11_3 : slotB tab.slots 62 11 3 = none := by rfl
theorem fsl62_12_3 : fslotB tab.fslots 62 12 3 = [] := by rfl
theorem kb62_12_3 : keepB tab.keeps 62 12 3 = false := by rfl
theorem ev75 (k : Nat) (x0 : AV) (H : Heap) : evalT Try.prog (mkHints tab) (k + 1) (.fn 75) [x0] H = trimO H.length (finishO Try.prog Try.f75.results.toList (evalCode Try.prog (cxG Try.prog (mkHints tab) k 75 none) (Try.f75.body.getD .skip) (fillArgs (fr 58 []) 0 [x0]) H)) := by
  have h := evalT_fn 58 Try.func75 rfl (by decide) rfl (P := Try.prog) (h := mkHints tab) (k := k) (args := [x0]) (H := H)
  rw [show (mkHints tab).slots 75 = 0 from rfl, show (List.replicate 0 AObj.slot) = [] from rfl, List.append_nil] at h
  exact h
theorem sb75_1_2 : slotB tab.slots 75 1 2 = none := by rfl
theorem sb75_1_3 : slotB tab.slots 75 1 3 = none := by rfl
theorem sb75_7_3 : slotB tab.slots 75 7 3 = none := by rfl
theorem sb75_7_4 : slotB tab.slots 75 7 4 = none := by rfl
theorem fsl75_8_1 : fslotB tab.fslots 75 8 1 = [] := by rfl
theorem kb75_8_1 : keepB tab.keeps 75 8 1 = false := by rfl
theorem sb75_10_0 : slotB tab.slots 75 10 0 = none := by rfl
theorem fsl75_14_1 : fslotB tab.fslots 75 14 1 = [] := by rfl
theorem kb75_14_1 : keepB tab.keeps 75 14 1 = false := by rfl
theorem rae75_9 (cx : Cx) (F : Fr) (H : Heap) : evalCode Try.prog cx RA75_9 F H = evalCode Try.prog cx (rfAs Try.f75 9) F H := rfl
theorem rbe75_9 (cx : Cx) (F : Fr) (H : Heap) : evalCode Try.prog cx RB75_9 F H = evalCode Try.prog cx (rfBd Try.f75 9) F H := rfl
theorem ev76 (k : Nat) (x0 : AV) (H : Heap) : evalT Try.prog (mkHints tab) (k + 1) (.fn 76) [x0] H = trimO H.length (finishO Try.prog Try.f76.results.toList (evalCode Try.prog (cxG Try.prog (mkHints tab) k 76 none) (Try.f76.body.getD .skip) (fillArgs (fr 13 []) 0 [x0]) H)) := by
  have h := evalT_fn 13 Try.func76 rfl (by decide) rfl (P := Try.prog) (h := mkHints tab) (k := k) (args := [x0]) (H := H)
  rw [show (mkHints tab).slots 76 = 0 from rfl, show (List.replicate 0 AObj.slot) = [] from rfl, List.append_nil] at h
  exact h
theorem ev77 (k : Nat) (x0 : AV) (H : Heap) : evalT Try.prog (mkHints tab) (k + 1) (.fn 77) [x0] H = trimO H.length (finishO Try.prog Try.f77.results.toList (evalCode Try.prog (cxG Try.prog (mkHints tab) k 77 none) (Try.f77.body.getD .skip) (fillArgs (fr 8 []) 0 [x0]) H)) := by
  have h := evalT_fn 8 Try.func77 rfl (by decide) rfl (P := Try.prog) (h := mkHints tab) (k := k) (args := [x0]) (H := H)
  rw [show (mkHints tab).slots 77 = 0 from rfl, show (List.replicate 0 AObj.slot) = [] from rfl, List.append_nil] at h
  exact h
theorem sb77_3_2 : slotB tab.slots 77 3 2 = none := by rfl
theorem eqs23 (H : Heap) (cells : List IV) (len : Nat) (nl : Bool) (cap cap2 : Option Nat) : binA Try.prog H .eql 23 (.c (.slice cells len nl cap)) (.c (.slice [] 0 true cap2)) = some (.c (.bool (nl))) := by kernel_rfl
theorem bs23_0_ (H : Heap) : buildSliceA Try.prog H 23 0 [] = some (.hsl H.length 0 0 (0 * 1) 1, H ++ [.row false 3 []]) := by kernel_rfl
theorem ev35 (k : Nat) (x0 : AV) (H : Heap) : evalT Try.prog (mkHints tab) (k + 1) (.fn 35) [x0] H = trimO H.length (finishO Try.prog Try.f35.results.toList (evalCode Try.prog (cxG Try.prog (mkHints tab) k 35 none) (Try.f35.body.getD .skip) (fillArgs (fr 4 []) 0 [x0]) H)) := by
  have h := evalT_fn 4 Try.func35 rfl (by decide) rfl (P := Try.prog) (h := mkHints tab) (k := k) (args := [x0]) (H := H)
  rw [show (mkHints tab).slots 35 = 0 from rfl, show (List.replicate 0 AObj.slot) = [] from rfl, List.append_nil] at h
  exact h
theorem ev110 (k : Nat) (x0 x1 : AV) (H : Heap) : evalT Try.prog (mkHints tab) (k + 1) (.fn 110) [x0, x1] H = trimO H.length (finishO Try.prog Try.f110.results.toList (evalCode Try.prog (cxG Try.prog (mkHints tab) k 110 none) (Try.f110.body.getD .skip) (fillArgs (fr 18 []) 0 [x0, x1]) H)) := by
  have h := evalT_fn 18 Try.func110 rfl (by decide) rfl (P := Try.prog) (h := mkHints tab) (k := k) (args := [x0, x1]) (H := H)
  rw [show (mkHints tab).slots 110 = 0 from rfl, show (List.replicate 0 AObj.slot) = [] from rfl, List.append_nil] at h
  exact h
theorem fsl110_1_1 : fslotB tab.fslots 110 1 1 = [] := by rfl
theorem kb110_1_1 : keepB tab.keeps 110 1 1 = false := by rfl
theorem fsl110_2_2 : fslotB tab.fslots 110 2 2 = [] := by rfl
theorem kb110_2_2 : keepB tab.keeps 110 2 2 = false := by rfl
theorem sb110_4_0 : slotB tab.slots 110 4 0 = none := by rfl
theorem fsl110_5_3 : fslotB tab.fslots 110 5 3 = [] := by rfl
theorem kb110_5_3 : keepB tab.keeps 110 5 3 = false := by rfl
theorem rae110_3 (cx : Cx) (F : Fr) (H : Heap) : evalCode Try.prog cx RA110_3 F H = evalCode Try.prog cx (rfAs Try.f110 3) F H := rfl
theorem rbe110_3 (cx : Cx) (F : Fr) (H : Heap) : evalCode Try.prog cx RB110_3 F H = evalCode Try.prog cx (rfBd Try.f110 3) F H := rfl
theorem ag163 : isAggT Try.prog 163 = some false := by kernel_rfl
theorem sz163 : sizeT Try.prog 163 = some 1 := by kernel_rfl
theorem ldp163 (H : Heap) (id off : Nat) : loadA Try.prog H 163 (.ptr id off) = cellAt H[id]? off := by kernel_rfl
theorem ldi163 (H : Heap) (cells : List IV) (off : Nat) : loadA Try.prog H 163 (.c (.iptr cells off)) = (cells[off]?).map .c := by kernel_rfl
theorem lde163 (H : Heap) (id off ext : Nat) : loadA Try.prog H 163 (.eptr id off ext) = (rowOf H id ext).bind fun r => (r.2[off]?).map .c := by kernel_rfl
theorem ev113 (k : Nat) (x0 x1 x2 : AV) (H : Heap) : evalT Try.prog (mkHints tab) (k + 1) (.fn 113) [x0, x1, x2] H = trimO H.length (finishO Try.prog Try.f113.results.toList (evalCode Try.prog (cxG Try.prog (mkHints tab) k 113 none) (Try.f113.body.getD .skip) (fillArgs (fr 83 []) 0 [x0, x1, x2]) (H ++ [.slot, .slot]))) := evalT_fn 83 Try.func113 rfl (by decide) rfl
theorem sb113_0_2 : slotB tab.slots 113 0 2 = none := by rfl
theorem sb113_1_10 : slotB tab.slots 113 1 10 = some 1 := by rfl
theorem sb113_1_11 : slotB tab.slots 113 1 11 = some 2 := by rfl
theorem fsl113_4_3 : fslotB tab.fslots 113 4 3 = [] := by rfl
theorem kb113_4_3 : keepB tab.keeps 113 4 3 = false := by rfl
theorem fsl113_6_4 : fslotB tab.fslots 113 6 4 = [] := by rfl
theorem kb113_6_4 : keepB tab.keeps 113 6 4 = false := by rfl
theorem fsl113_8_4 : fslotB tab.fslots 113 8 4 = [] := by rfl
theorem kb113_8_4 : keepB tab.keeps 113 8 4 = false := by rfl
theorem fsl113_10_5 : fslotB tab.fslots 113 10 5 = [] := by rfl
theorem kb113_10_5 : keepB tab.keeps 113 10 5 = false := by rfl
theorem fsl113_10_6 : fslotB tab.fslots 113 10 6 = [] := by rfl
theorem kb113_10_6 : keepB tab.keeps 113 10 6 = false := by rfl
theorem fsl113_12_5 : fslotB tab.fslots 113 12 5 = [] := by rfl
theorem kb113_12_5 : keepB tab.keeps 113 12 5 = false := by rfl
theorem fsl113_12_6 : fslotB tab.fslots 113 12 6 = [] := by rfl
theorem kb113_12_6 : keepB tab.keeps 113 12 6 = false := by rfl
theorem fsl113_14_5 : fslotB tab.fslots 113 14 5 = [] := by rfl
theorem kb113_14_5 : keepB tab.keeps 113 14 5 = false := by rfl
theorem fsl113_14_6 : fslotB tab.fslots 113 14 6 = [] := by rfl
theorem kb113_14_6 : keepB tab.keeps 113 14 6 = false := by rfl
theorem fsl113_16_5 : fslotB tab.fslots 113 16 5 = [] := by rfl
theorem kb113_16_5 : keepB tab.keeps 113 16 5 = false := by rfl
theorem fsl113_16_6 : fslotB tab.fslots 113 16 6 = [] := by rfl
theorem kb113_16_6 : keepB tab.keeps 113 16 6 = false := by rfl
theorem dr113_1 : drawFact Try.f113 1 [0, 0, 2, 7, 15, 0, 0, 64, 224, 480, 0, 0, 3103, 8191] = true := by kernel_rfl
theorem fa145_0 (x : AV) : fieldAddrA Try.prog 145 x 0 = addrPlus x 0 := by kernel_rfl
theorem ag141 : isAggT Try.prog 141 = some false := by kernel_rfl
theorem sz141 : sizeT Try.prog 141 = some 1 := by kernel_rfl
theorem ldp141 (H : Heap) (id off : Nat) : loadA Try.prog H 141 (.ptr id off) = cellAt H[id]? off := by kernel_rfl
theorem ldi141 (H : Heap) (cells : List IV) (off : Nat) : loadA Try.prog H 141 (.c (.iptr cells off)) = (cells[off]?).map .c := by kernel_rfl
theorem lde141 (H : Heap) (id off ext : Nat) : loadA Try.prog H 141 (.eptr id off ext) = (rowOf H id ext).bind fun r => (r.2[off]?).map .c := by kernel_rfl
theorem fa145_1 (x : AV) : fieldAddrA Try.prog 145 x 1 = addrPlus x 1 := by kernel_rfl
theorem ag142 : isAggT Try.prog 142 = some false := by kernel_rfl
theorem sz142 : sizeT Try.prog 142 = some 1 := by kernel_rfl
theorem ldp142 (H : Heap) (id off : Nat) : loadA Try.prog H 142 (.ptr id off) = cellAt H[id]? off := by kernel_rfl
theorem ldi142 (H : Heap) (cells : List IV) (off : Nat) : loadA Try.prog H 142 (.c (.iptr cells off)) = (cells[off]?).map .c := by kernel_rfl
theorem lde142 (H : Heap) (id off ext : Nat) : loadA Try.prog H 142 (.eptr id off ext) = (rowOf H id ext).bind fun r => (r.2[off]?).map .c := by kernel_rfl
theorem fa145_2 (x : AV) : fieldAddrA Try.prog 145 x 2 = addrPlus x 2 := by kernel_rfl
theorem fa145_3 (x : AV) : fieldAddrA Try.prog 145 x 3 = addrPlus x 3 := by kernel_rfl
theorem fa34_4 (x : AV) : fieldAddrA Try.prog 34 x 4 = addrPlus x 4 := by kernel_rfl
theorem dr113_10 : drawFact Try.f113 10 [0, 1, 0, 0, 8, 24, 63, 127, 255] = true := by kernel_rfl
theorem dr113_12 : drawFact Try.f113 12 [0, 1, 0, 0, 8, 24, 63, 127, 255] = true := by kernel_rfl
theorem fa145_4 (x : AV) : fieldAddrA Try.prog 145 x 4 = addrPlus x 4 := by kernel_rfl
theorem ag143 : isAggT Try.prog 143 = some false := by kernel_rfl
theorem sz143 : sizeT Try.prog 143 = some 1 := by kernel_rfl
theorem ldp143 (H : Heap) (id off : Nat) : loadA Try.prog H 143 (.ptr id off) = cellAt H[id]? off := by kernel_rfl
theorem ldi143 (H : Heap) (cells : List IV) (off : Nat) : loadA Try.prog H 143 (.c (.iptr cells off)) = (cells[off]?).map .c := by kernel_rfl
theorem lde143 (H : Heap) (id off ext : Nat) : loadA Try.prog H 143 (.eptr id off ext) = (rowOf H id ext).bind fun r => (r.2[off]?).map .c := by kernel_rfl
theorem dr113_14 : drawFact Try.f113 14 [0, 1, 0, 0, 8, 24, 63, 127, 127, 511, 1023] = true := by kernel_rfl
theorem dr113_16 : drawFact Try.f113 16 [0, 1, 0, 0, 8, 24, 63, 127, 127, 511, 1023] = true := by kernel_rfl
theorem ev114 (k : Nat) (x0 : AV) (H : Heap) : evalT Try.prog (mkHints tab) (k + 1) (.fn 114) [x0] H = trimO H.length (finishO Try.prog Try.f114.results.toList (evalCode Try.prog (cxG Try.prog (mkHints tab) k 114 none) (Try.f114.body.getD .skip) (fillArgs (fr 9 []) 0 [x0]) H)) := by
  have h := evalT_fn 9 Try.func114 rfl (by decide) rfl (P := Try.prog) (h := mkHints tab) (k := k) (args := [x0]) (H := H)
  rw [show (mkHints tab).slots 114 = 0 from rfl, show (List.replicate 0 AObj.slot) = [] from rfl, List.append_nil] at h
  exact h
theorem sb114_0_1 : slotB tab.slots 114 0 1 = none := by rfl
theorem fsl114_1_5 : fslotB tab.fslots 114 1 5 = [] := by rfl
theorem kb114_1_5 : keepB tab.keeps 114 1 5 = false := by rfl
theorem fa140_0 (x : AV) : fieldAddrA Try.prog 140 x 0 = addrPlus x 0 := by kernel_rfl
theorem fa140_1 (x : AV) : fieldAddrA Try.prog 140 x 1 = addrPlus x 1 := by kernel_rfl
theorem ag41 : isAggT Try.prog 41 = some false := by kernel_rfl
theorem sz41 : sizeT Try.prog 41 = some 1 := by kernel_rfl
theorem ldp41 (H : Heap) (id off : Nat) : loadA Try.prog H 41 (.ptr id off) = cellAt H[id]? off := by kernel_rfl
theorem ldi41 (H : Heap) (cells : List IV) (off : Nat) : loadA Try.prog H 41 (.c (.iptr cells off)) = (cells[off]?).map .c := by kernel_rfl
theorem lde41 (H : Heap) (id off ext : Nat) : loadA Try.prog H 41 (.eptr id off ext) = (rowOf H id ext).bind fun r => (r.2[off]?).map .c := by kernel_rfl
theorem ev115 (k : Nat) (x0 x1 : AV) (H : Heap) : evalT Try.prog (mkHints tab) (k + 1) (.fn 115) [x0, x1] H = trimO H.length (finishO Try.prog Try.f115.results.toList (evalCode Try.prog (cxG Try.prog (mkHints tab) k 115 none) (Try.f115.body.getD .skip) (fillArgs (fr 40 []) 0 [x0, x1]) H)) := by
  have h := evalT_fn 40 Try.func115 rfl (by decide) rfl (P := Try.prog) (h := mkHints tab) (k := k) (args := [x0, x1]) (H := H)
  rw [show (mkHints tab).slots 115 = 0 from rfl, show (List.replicate 0 AObj.slot) = [] from rfl, List.append_nil] at h
  exact h
theorem sb115_0_2 : slotB tab.slots 115 0 2 = none := by rfl
theorem fsl115_2_6 : fslotB tab.fslots 115 2 6 = [] := by rfl
theorem kb115_2_6 : keepB tab.keeps 115 2 6 = false := by rfl
theorem fsl115_2_7 : fslotB tab.fslots 115 2 7 = [] := by rfl
theorem kb115_2_7 : keepB tab.keeps 115 2 7 = false := by rfl
theorem fsl115_3_4 : fslotB tab.fslots 115 3 4 = [] := by rfl
theorem kb115_3_4 : keepB tab.keeps 115 3 4 = false := by rfl
theorem fsl115_5_4 : fslotB tab.fslots 115 5 4 = [] := by rfl
theorem kb115_5_4 : keepB tab.keeps 115 5 4 = false := by rfl
theorem fsl115_6_3 : fslotB tab.fslots 115 6 3 = [] := by rfl
theorem kb115_6_3 : keepB tab.keeps 115 6 3 = false := by rfl
theorem eqb4 (H : Heap) (a b : Bool) : binA Try.prog H .eql 4 (.c (.bool a)) (.c (.bool b)) = some (.c (.bool ((a == b)))) := by kernel_rfl
theorem dr115_2 : drawFact Try.f115 2 [0, 1, 0, 4, 0, 16, 60, 127, 255] = true := by kernel_rfl
theorem ev116 (k : Nat) (x0 x1 : AV) (H : Heap) : evalT Try.prog (mkHints tab) (k + 1) (.fn 116) [x0, x1] H = trimO H.length (finishO Try.prog Try.f116.results.toList (evalCode Try.prog (cxG Try.prog (mkHints tab) k 116 none) (Try.f116.body.getD .skip) (fillArgs (fr 9 []) 0 [x0, x1]) H)) := by
  have h := evalT_fn 9 Try.func116 rfl (by decide) rfl (P := Try.prog) (h := mkHints tab) (k := k) (args := [x0, x1]) (H := H)
  rw [show (mkHints tab).slots 116 = 0 from rfl, show (List.replicate 0 AObj.slot) = [] from rfl, List.append_nil] at h
  exact h
theorem sb116_0_2 : slotB tab.slots 116 0 2 = none := by rfl
theorem fsl116_1_2 : fslotB tab.fslots 116 1 2 = [] := by rfl
theorem kb116_1_2 : keepB tab.keeps 116 1 2 = false := by rfl
theorem fsl116_1_3 : fslotB tab.fslots 116 1 3 = [] := by rfl
theorem kb116_1_3 : keepB tab.keeps 116 1 3 = false := by rfl
theorem dr116_1 : drawFact Try.f116 1 [0, 0, 2, 7, 15] = true := by kernel_rfl
theorem ev117 (k : Nat) (x0 x1 : AV) (H : Heap) : evalT Try.prog (mkHints tab) (k + 1) (.fn 117) [x0, x1] H = trimO H.length (finishO Try.prog Try.f117.results.toList (evalCode Try.prog (cxG Try.prog (mkHints tab) k 117 none) (Try.f117.body.getD .skip) (fillArgs (fr 16 []) 0 [x0, x1]) H)) := by
  have h := evalT_fn 16 Try.func117 rfl (by decide) rfl (P := Try.prog) (h := mkHints tab) (k := k) (args := [x0, x1]) (H := H)
  rw [show (mkHints tab).slots 117 = 0 from rfl, show (List.replicate 0 AObj.slot) = [] from rfl, List.append_nil] at h
  exact h
theorem sb117_0_2 : slotB tab.slots 117 0 2 = none := by rfl
theorem fsl117_1_9 : fslotB tab.fslots 117 1 9 = [] := by rfl
theorem kb117_1_9 : keepB tab.keeps 117 1 9 = false := by rfl
theorem fsl117_1_10 : fslotB tab.fslots 117 1 10 = [] := by rfl
theorem kb117_1_10 : keepB tab.keeps 117 1 10 = false := by rfl
theorem dr117_1 : drawFact Try.f117 1 [0, 1, 0, 4, 15, 0, 32, 0, 128, 480, 1023, 2047] = true := by kernel_rfl
theorem ev118 (k : Nat) (x0 x1 : AV) (H : Heap) : evalT Try.prog (mkHints tab) (k + 1) (.fn 118) [x0, x1] H = trimO H.length (finishO Try.prog Try.f118.results.toList (evalCode Try.prog (cxG Try.prog (mkHints tab) k 118 none) (Try.f118.body.getD .skip) (fillArgs (fr 20 []) 0 [x0, x1]) H)) := by
  have h := evalT_fn 20 Try.func118 rfl (by decide) rfl (P := Try.prog) (h := mkHints tab) (k := k) (args := [x0, x1]) (H := H)
  rw [show (mkHints tab).slots 118 = 0 from rfl, show (List.replicate 0 AObj.slot) = [] from rfl, List.append_nil] at h
  exact h
theorem sb118_0_2 : slotB tab.slots 118 0 2 = none := by rfl
theorem fsl118_1_2 : fslotB tab.fslots 118 1 2 = [] := by rfl
theorem kb118_1_2 : keepB tab.keeps 118 1 2 = false := by rfl
theorem sb118_1_7 : slotB tab.slots 118 1 7 = none := by rfl
theorem sb118_1_8 : slotB tab.slots 118 1 8 = none := by rfl
theorem fsl118_2_2 : fslotB tab.fslots 118 2 2 = [] := by rfl
theorem kb118_2_2 : keepB tab.keeps 118 2 2 = false := by rfl
theorem dr118_2 : drawFact Try.f118 2 [0, 0, 2, 6, 7, 31] = true := by kernel_rfl
theorem ev121 (k : Nat) (x0 x1 : AV) (H : Heap) : evalT Try.prog (mkHints tab) (k + 1) (.fn 121) [x0, x1] H = trimO H.length (finishO Try.prog Try.f121.results.toList (evalCode Try.prog (cxG Try.prog (mkHints tab) k 121 none) (Try.f121.body.getD .skip) (fillArgs (fr 9 []) 0 [x0, x1]) H)) := by
  have h := evalT_fn 9 Try.func121 rfl (by decide) rfl (P := Try.prog) (h := mkHints tab) (k := k) (args := [x0, x1]) (H := H)
  rw [show (mkHints tab).slots 121 = 0 from rfl, show (List.replicate 0 AObj.slot) = [] from rfl, List.append_nil] at h
  exact h
theorem sb121_0_0 : slotB tab.slots 121 0 0 = none := by rfl
theorem fsl121_1_2 : fslotB tab.fslots 121 1 2 = [] := by rfl
theorem kb121_1_2 : keepB tab.keeps 121 1 2 = false := by rfl
theorem fsl121_1_3 : fslotB tab.fslots 121 1 3 = [] := by rfl
theorem kb121_1_3 : keepB tab.keeps 121 1 3 = false := by rfl
theorem ev99 (k : Nat) (x0 x1 : AV) (H : Heap) : evalT Try.prog (mkHints tab) (k + 1) (.fn 99) [x0, x1] H = trimO H.length (finishO Try.prog Try.f99.results.toList (evalCode Try.prog (cxG Try.prog (mkHints tab) k 99 none) (Try.f99.body.getD .skip) (fillArgs (fr 28 []) 0 [x0, x1]) H)) := by
  have h := evalT_fn 28 Try.func99 rfl (by decide) rfl (P := Try.prog) (h := mkHints tab) (k := k) (args := [x0, x1]) (H := H)
  rw [show (mkHints tab).slots 99 = 0 from rfl, show (List.replicate 0 AObj.slot) = [] from rfl, List.append_nil] at h
  exact h
theorem fsl99_2_4 : fslotB tab.fslots 99 2 4 = [] := by rfl
theorem kb99_2_4 : keepB tab.keeps 99 2 4 = false := by rfl
theorem fsl99_7_4 : fslotB tab.fslots 99 7 4 = [] := by rfl
theorem kb99_7_4 : keepB tab.keeps 99 7 4 = false := by rfl
theorem ev100 (k : Nat) (x0 x1 : AV) (H : Heap) : evalT Try.prog (mkHints tab) (k + 1) (.fn 100) [x0, x1] H = trimO H.length (finishO Try.prog Try.f100.results.toList (evalCode Try.prog (cxG Try.prog (mkHints tab) k 100 none) (Try.f100.body.getD .skip) (fillArgs (fr 57 []) 0 [x0, x1]) H)) := by
  have h := evalT_fn 57 Try.func100 rfl (by decide) rfl (P := Try.prog) (h := mkHints tab) (k := k) (args := [x0, x1]) (H := H)
  rw [show (mkHints tab).slots 100 = 0 from rfl, show (List.replicate 0 AObj.slot) = [] from rfl, List.append_nil] at h
  exact h
theorem fsl100_1_22 : fslotB tab.fslots 100 1 22 = [] := by rfl
theorem kb100_1_22 : keepB tab.keeps 100 1 22 = false := by rfl
theorem fsl100_1_32 : fslotB tab.fslots 100 1 32 = [] := by rfl
theorem kb100_1_32 : keepB tab.keeps 100 1 32 = false := by rfl
theorem fsl100_3_1 : fslotB tab.fslots 100 3 1 = [] := by rfl
theorem kb100_3_1 : keepB tab.keeps 100 3 1 = false := by rfl
theorem ev80 (k : Nat) (x0 x1 : AV) (H : Heap) : evalT Try.prog (mkHints tab) (k + 1) (.fn 80) [x0, x1] H = trimO H.length (finishO Try.prog Try.f80.results.toList (evalCode Try.prog (cxG Try.prog (mkHints tab) k 80 none) (Try.f80.body.getD .skip) (fillArgs (fr 39 []) 0 [x0, x1]) H)) := by
  have h := evalT_fn 39 Try.func80 rfl (by decide) rfl (P := Try.prog) (h := mkHints tab) (k := k) (args := [x0, x1]) (H := H)
  rw [show (mkHints tab).slots 80 = 0 from rfl, show (List.replicate 0 AObj.slot) = [] from rfl, List.append_nil] at h
  exact h
theorem fsl80_0_1 : fslotB tab.fslots 80 0 1 = [] := by rfl
theorem kb80_0_1 : keepB tab.keeps 80 0 1 = false := by rfl
theorem fsl80_2_1 : fslotB tab.fslots 80 2 1 = [] := by rfl
theorem kb80_2_1 : keepB tab.keeps 80 2 1 = false := by rfl
theorem fsl80_5_8 : fslotB tab.fslots 80 5 8 = [] := by rfl
theorem kb80_5_8 : keepB tab.keeps 80 5 8 = false := by rfl
theorem fsl80_5_13 : fslotB tab.fslots 80 5 13 = [] := by rfl
theorem kb80_5_13 : keepB tab.keeps 80 5 13 = false := by rfl
theorem ev85 (k : Nat) (x0 : AV) (H : Heap) : evalT Try.prog (mkHints tab) (k + 1) (.fn 85) [x0] H = trimO H.length (finishO Try.prog Try.f85.results.toList (evalCode Try.prog (cxG Try.prog (mkHints tab) k 85 none) (Try.f85.body.getD .skip) (fillArgs (fr 12 []) 0 [x0]) H)) := by
  have h := evalT_fn 12 Try.func85 rfl (by decide) rfl (P := Try.prog) (h := mkHints tab) (k := k) (args := [x0]) (H := H)
  rw [show (mkHints tab).slots 85 = 0 from rfl, show (List.replicate 0 AObj.slot) = [] from rfl, List.append_nil] at h
  exact h
theorem fsl85_1_1 : fslotB tab.fslots 85 1 1 = [] := by rfl
theorem kb85_1_1 : keepB tab.keeps 85 1 1 = false := by rfl
theorem ev111 (k : Nat) (x0 : AV) (H : Heap) : evalT Try.prog (mkHints tab) (k + 1) (.fn 111) [x0] H = trimO H.length (finishO Try.prog Try.f111.results.toList (evalCode Try.prog (cxG Try.prog (mkHints tab) k 111 none) (Try.f111.body.getD .skip) (fillArgs (fr 4 []) 0 [x0]) H)) := by
  have h := evalT_fn 4 Try.func111 rfl (by decide) rfl (P := Try.prog) (h := mkHints tab) (k := k) (args := [x0]) (H := H)
  rw [show (mkHints tab).slots 111 = 0 from rfl, show (List.replicate 0 AObj.slot) = [] from rfl, List.append_nil] at h
  exact h
theorem ev129 (k : Nat) (x0 : AV) (H : Heap) : evalT Try.prog (mkHints tab) (k + 1) (.fn 129) [x0] H = trimO H.length (finishO Try.prog Try.f129.results.toList (evalCode Try.prog (cxG Try.prog (mkHints tab) k 129 none) (Try.f129.body.getD .skip) (fillArgs (fr 12 []) 0 [x0]) H)) := by
  have h := evalT_fn 12 Try.func129 rfl (by decide) rfl (P := Try.prog) (h := mkHints tab) (k := k) (args := [x0]) (H := H)
  rw [show (mkHints tab).slots 129 = 0 from rfl, show (List.replicate 0 AObj.slot) = [] from rfl, List.append_nil] at h
  exact h
theorem sb129_0_0 : slotB tab.slots 129 0 0 = none := by rfl
theorem fsl129_1_0 : fslotB tab.fslots 129 1 0 = [] := by rfl
theorem kb129_1_0 : keepB tab.keeps 129 1 0 = false := by rfl
theorem fsl129_1_2 : fslotB tab.fslots 129 1 2 = [] := by rfl
theorem kb129_1_2 : keepB tab.keeps 129 1 2 = false := by rfl
theorem sb129_1_6 : slotB tab.slots 129 1 6 = none := by rfl
theorem ev130 (k : Nat) (x0 x1 : AV) (H : Heap) : evalT Try.prog (mkHints tab) (k + 1) (.fn 130) [x0, x1] H = trimO H.length (finishO Try.prog Try.f130.results.toList (evalCode Try.prog (cxG Try.prog (mkHints tab) k 130 none) (Try.f130.body.getD .skip) (fillArgs (fr 13 []) 0 [x0, x1]) H)) := by
  have h := evalT_fn 13 Try.func130 rfl (by decide) rfl (P := Try.prog) (h := mkHints tab) (k := k) (args := [x0, x1]) (H := H)
  rw [show (mkHints tab).slots 130 = 0 from rfl, show (List.replicate 0 AObj.slot) = [] from rfl, List.append_nil] at h
  exact h
theorem sb130_0_0 : slotB tab.slots 130 0 0 = none := by rfl
theorem ln41 (cells : List IV) (n : Nat) (nl : Bool) (cap : Option Nat) : lenA Try.prog 41 (.c (.slice cells n nl cap)) = some (.c (.int .i64 n)) := by kernel_rfl
theorem lnv41 (s n sz : Nat) : lenA Try.prog 41 (lv s sz n) = some (.c (.int .i64 n)) := by
  unfold lv; split
  · rename_i h; subst h; kernel_rfl
  · kernel_rfl
theorem lnh41 (id off n ext sz : Nat) : lenA Try.prog 41 (.hsl id off n ext sz) = some (.c (.int .i64 n)) := by kernel_rfl
theorem bd140_0_1_h1 (a0 : IV) (v1 : AV) (hv1 : v1.isCell = true) : buildA Try.prog 140 [(0, .c a0), (1, v1)] = some (.agg [.c a0, v1]) := by
  cases v1 <;> first | (cases hv1; done) | kernel_rfl
theorem bd140_0_1 (a0 a1 : IV) : buildA Try.prog 140 [(0, .c a0), (1, .c a1)] = some (.agg [.c a0, .c a1]) := by kernel_rfl
theorem ev122 (k : Nat) (x0 x1 : AV) (H : Heap) : evalT Try.prog (mkHints tab) (k + 1) (.fn 122) [x0, x1] H = trimO H.length (finishO Try.prog Try.f122.results.toList (evalCode Try.prog (cxG Try.prog (mkHints tab) k 122 none) (Try.f122.body.getD .skip) (fillArgs (fr 49 []) 0 [x0, x1]) H)) := by
  have h := evalT_fn 49 Try.func122 rfl (by decide) rfl (P := Try.prog) (h := mkHints tab) (k := k) (args := [x0, x1]) (H := H)
  rw [show (mkHints tab).slots 122 = 0 from rfl, show (List.replicate 0 AObj.slot) = [] from rfl, List.append_nil] at h
  exact h
theorem fsl122_1_1 : fslotB tab.fslots 122 1 1 = [] := by rfl
theorem kb122_1_1 : keepB tab.keeps 122 1 1 = false := by rfl
theorem fsl122_1_3 : fslotB tab.fslots 122 1 3 = [] := by rfl
theorem kb122_1_3 : keepB tab.keeps 122 1 3 = false := by rfl
theorem ag102 : isAggT Try.prog 102 = some false := by kernel_rfl
theorem sz102 : sizeT Try.prog 102 = some 1 := by kernel_rfl
theorem ia41 (H : Heap) (cells : List IV) (len : Nat) (nl : Bool) (cap : Option Nat) (k : IntKind) (i : Int) : indexAddrA Try.prog H 41 (.c (.slice cells len nl cap)) (.c (.int k i)) = if 0 ≤ i ∧ i < len then some (.c (.iptr cells (i.toNat * 1))) else none := by kernel_rfl
theorem iah41 (H : Heap) (id off len ext sz : Nat) (k : IntKind) (i : Int) : indexAddrA Try.prog H 41 (.hsl id off len ext sz) (.c (.int k i)) = if 0 ≤ i ∧ i < len ∧ sz = 1 ∧ (rowOf H id ext).isSome = true then some (.eptr id (off + i.toNat * 1) ext) else none := by kernel_rfl
theorem ldp102 (H : Heap) (id off : Nat) : loadA Try.prog H 102 (.ptr id off) = cellAt H[id]? off := by kernel_rfl
theorem ldi102 (H : Heap) (cells : List IV) (off : Nat) : loadA Try.prog H 102 (.c (.iptr cells off)) = (cells[off]?).map .c := by kernel_rfl
theorem lde102 (H : Heap) (id off ext : Nat) : loadA Try.prog H 102 (.eptr id off ext) = (rowOf H id ext).bind fun r => (r.2[off]?).map .c := by kernel_rfl
theorem dr122_9 : drawFact Try.f122 9 [0, 0, 3, 7, 0, 0, 48, 112, 255, 511] = true := by kernel_rfl
theorem dr122_11 : drawFact Try.f122 11 [0, 0, 3, 7, 0, 0, 48, 112, 255, 511] = true := by kernel_rfl
theorem ev131 (k : Nat) (x0 x1 : AV) (H : Heap) : evalT Try.prog (mkHints tab) (k + 1) (.fn 131) [x0, x1] H = trimO H.length (finishO Try.prog Try.f131.results.toList (evalCode Try.prog (cxG Try.prog (mkHints tab) k 131 none) (Try.f131.body.getD .skip) (fillArgs (fr 58 []) 0 [x0, x1]) H)) := by
  have h := evalT_fn 58 Try.func131 rfl (by decide) rfl (P := Try.prog) (h := mkHints tab) (k := k) (args := [x0, x1]) (H := H)
  rw [show (mkHints tab).slots 131 = 0 from rfl, show (List.replicate 0 AObj.slot) = [] from rfl, List.append_nil] at h
  exact h
theorem sb131_3_3 : slotB tab.slots 131 3 3 = none := by rfl
theorem fsl131_15_1 : fslotB tab.fslots 131 15 1 = [] := by rfl
theorem kb131_15_1 : keepB tab.keeps 131 15 1 = false := by rfl
theorem ms41 (H : Heap) (l c : Int) : makeSliceA Try.prog H none 41 (.c (.int .i64 l)) (.c (.int .i64 c)) = if 0 ≤ l ∧ l = c ∧ c.toNat * 4 ≤ roomBytes ∧ c.toNat ≤ roomBytes ∧ 1 = 1 ∧ 0 < 1 then some (.hsl H.length 0 l.toNat (c.toNat * 1) 1, H ++ [.row false 102 ((List.replicate c.toNat [.int .u32 0]).flatten)]) else none := by kernel_rfl
theorem cv102_101 (k : IntKind) (n : Int) : convA Try.prog 102 101 (.c (.int k n)) = some (.c (.int .u64 (IntKind.wrap .u64 n))) := by kernel_rfl
theorem ev132 (k : Nat) (x0 x1 : AV) (H : Heap) : evalT Try.prog (mkHints tab) (k + 1) (.fn 132) [x0, x1] H = trimO H.length (finishO Try.prog Try.f132.results.toList (evalCode Try.prog (cxG Try.prog (mkHints tab) k 132 none) (Try.f132.body.getD .skip) (fillArgs (fr 53 []) 0 [x0, x1]) H)) := by
  have h := evalT_fn 53 Try.func132 rfl (by decide) rfl (P := Try.prog) (h := mkHints tab) (k := k) (args := [x0, x1]) (H := H)
  rw [show (mkHints tab).slots 132 = 0 from rfl, show (List.replicate 0 AObj.slot) = [] from rfl, List.append_nil] at h
  exact h
theorem fsl132_1_2 : fslotB tab.fslots 132 1 2 = [] := by rfl
theorem kb132_1_2 : keepB tab.keeps 132 1 2 = false := by rfl
theorem sb132_3_2 : slotB tab.slots 132 3 2 = none := by rfl
theorem fsl132_15_1 : fslotB tab.fslots 132 15 1 = [] := by rfl
theorem kb132_15_1 : keepB tab.keeps 132 15 1 = false := by rfl
theorem ev133 (k : Nat) (x0 x1 : AV) (H : Heap) : evalT Try.prog (mkHints tab) (k + 1) (.fn 133) [x0, x1] H = trimO H.length (finishO Try.prog Try.f133.results.toList (evalCode Try.prog (cxG Try.prog (mkHints tab) k 133 none) (Try.f133.body.getD .skip) (fillArgs (fr 67 []) 0 [x0, x1]) H)) := by
  have h := evalT_fn 67 Try.func133 rfl (by decide) rfl (P := Try.prog) (h := mkHints tab) (k := k) (args := [x0, x1]) (H := H)
  rw [show (mkHints tab).slots 133 = 0 from rfl, show (List.replicate 0 AObj.slot) = [] from rfl, List.append_nil] at h
  exact h
theorem sb133_1_5 : slotB tab.slots 133 1 5 = none := by rfl
theorem fsl133_15_1 : fslotB tab.fslots 133 15 1 = [] := by rfl
theorem kb133_15_1 : keepB tab.keeps 133 15 1 = false := by rfl
theorem ev119 (k : Nat) (x0 x1 : AV) (H : Heap) : evalT Try.prog (mkHints tab) (k + 1) (.fn 119) [x0, x1] H = trimO H.length (finishO Try.prog Try.f119.results.toList (evalCode Try.prog (cxG Try.prog (mkHints tab) k 119 none) (Try.f119.body.getD .skip) (fillArgs (fr 49 []) 0 [x0, x1]) (H ++ [.slot, .slot]))) := evalT_fn 49 Try.func119 rfl (by decide) rfl
theorem sb119_0_2 : slotB tab.slots 119 0 2 = none := by rfl
theorem sb119_0_3 : slotB tab.slots 119 0 3 = none := by rfl
theorem fsl119_1_4 : fslotB tab.fslots 119 1 4 = [] := by rfl
theorem kb119_1_4 : keepB tab.keeps 119 1 4 = false := by rfl
theorem fsl119_4_6 : fslotB tab.fslots 119 4 6 = [] := by rfl
theorem kb119_4_6 : keepB tab.keeps 119 4 6 = false := by rfl
theorem fsl119_4_10 : fslotB tab.fslots 119 4 10 = [] := by rfl
theorem kb119_4_10 : keepB tab.keeps 119 4 10 = false := by rfl
theorem sb119_4_11 : slotB tab.slots 119 4 11 = some 0 := by rfl
theorem sb119_4_12 : slotB tab.slots 119 4 12 = some 1 := by rfl
theorem fsl119_6_2 : fslotB tab.fslots 119 6 2 = [] := by rfl
theorem kb119_6_2 : keepB tab.keeps 119 6 2 = false := by rfl
theorem fsl119_6_3 : fslotB tab.fslots 119 6 3 = [] := by rfl
theorem kb119_6_3 : keepB tab.keeps 119 6 3 = false := by rfl
theorem fsl119_7_2 : fslotB tab.fslots 119 7 2 = [] := by rfl
theorem kb119_7_2 : keepB tab.keeps 119 7 2 = false := by rfl
theorem fsl119_7_3 : fslotB tab.fslots 119 7 3 = [] := by rfl
theorem kb119_7_3 : keepB tab.keeps 119 7 3 = false := by rfl
theorem fsl119_7_4 : fslotB tab.fslots 119 7 4 = [] := by rfl
theorem kb119_7_4 : keepB tab.keeps 119 7 4 = false := by rfl
theorem bd140_ : buildA Try.prog 140 [] = some (.agg [.c (.bool false), .c (.slice [] 0 true (some 0))]) := by kernel_rfl
theorem dr119_4 : drawFact Try.f119 4 [0, 1, 0, 4, 15, 0, 63, 0, 128, 0, 1023, 0, 0, 8191, 16383] = true := by kernel_rfl
theorem dr119_6 : drawFact Try.f119 6 [0, 0, 2, 7, 15] = true := by kernel_rfl
theorem dr119_7 : drawFact Try.f119 7 [0, 0, 2, 6, 15, 31] = true := by kernel_rfl
theorem dr119_8 : drawFact Try.f119 8 [0, 0, 1, 7, 15] = true := by kernel_rfl
theorem ev120 (k : Nat) (x0 : AV) (H : Heap) : evalT Try.prog (mkHints tab) (k + 1) (.fn 120) [x0] H = trimO H.length (finishO Try.prog Try.f120.results.toList (evalCode Try.prog (cxG Try.prog (mkHints tab) k 120 none) (Try.f120.body.getD .skip) (fillArgs (fr 11 []) 0 [x0]) H)) := by
  have h := evalT_fn 11 Try.func120 rfl (by decide) rfl (P := Try.prog) (h := mkHints tab) (k := k) (args := [x0]) (H := H)
  rw [show (mkHints tab).slots 120 = 0 from rfl, show (List.replicate 0 AObj.slot) = [] from rfl, List.append_nil] at h
  exact h
theorem ev136 (k : Nat) (x0 : AV) (H : Heap) : evalT Try.prog (mkHints tab) (k + 1) (.fn 136) [x0] H = trimO H.length (finishO Try.prog Try.f136.results.toList (evalCode Try.prog (cxG Try.prog (mkHints tab) k 136 none) (Try.f136.body.getD .skip) (fillArgs (fr 13 []) 0 [x0]) H)) := by
  have h := evalT_fn 13 Try.func136 rfl (by decide) rfl (P := Try.prog) (h := mkHints tab) (k := k) (args := [x0]) (H := H)
  rw [show (mkHints tab).slots 136 = 0 from rfl, show (List.replicate 0 AObj.slot) = [] from rfl, List.append_nil] at h
  exact h
theorem fsl136_1_1 : fslotB tab.fslots 136 1 1 = [] := by rfl
theorem kb136_1_1 : keepB tab.keeps 136 1 1 = false := by rfl
theorem sb136_2_2 : slotB tab.slots 136 2 2 = none := by rfl
theorem cp41 (H : Heap) (d s : AV) : copyA Try.prog H 41 d s = cpO 1 d H (srcOf H 1 s) := by kernel_rfl
theorem ev123 (k : Nat) (x0 : AV) (H : Heap) : evalT Try.prog (mkHints tab) (k + 1) (.fn 123) [x0] H = trimO H.length (finishO Try.prog Try.f123.results.toList (evalCode Try.prog (cxG Try.prog (mkHints tab) k 123 none) (Try.f123.body.getD .skip) (fillArgs (fr 9 []) 0 [x0]) H)) := by
  have h := evalT_fn 9 Try.func123 rfl (by decide) rfl (P := Try.prog) (h := mkHints tab) (k := k) (args := [x0]) (H := H)
  rw [show (mkHints tab).slots 123 = 0 from rfl, show (List.replicate 0 AObj.slot) = [] from rfl, List.append_nil] at h
  exact h
theorem ev124 (k : Nat) (x0 : AV) (H : Heap) : evalT Try.prog (mkHints tab) (k + 1) (.fn 124) [x0] H = trimO H.length (finishO Try.prog Try.f124.results.toList (evalCode Try.prog (cxG Try.prog (mkHints tab) k 124 none) (Try.f124.body.getD .skip) (fillArgs (fr 35 []) 0 [x0]) H)) := by
  have h := evalT_fn 35 Try.func124 rfl (by decide) rfl (P := Try.prog) (h := mkHints tab) (k := k) (args := [x0]) (H := H)
  rw [show (mkHints tab).slots 124 = 0 from rfl, show (List.replicate 0 AObj.slot) = [] from rfl, List.append_nil] at h
  exact h
theorem ev128 (k : Nat) (x0 x1 : AV) (H : Heap) : evalT Try.prog (mkHints tab) (k + 1) (.fn 128) [x0, x1] H = trimO H.length (finishO Try.prog Try.f128.results.toList (evalCode Try.prog (cxG Try.prog (mkHints tab) k 128 none) (Try.f128.body.getD .skip) (fillArgs (fr 19 []) 0 [x0, x1]) H)) := by
  have h := evalT_fn 19 Try.func128 rfl (by decide) rfl (P := Try.prog) (h := mkHints tab) (k := k) (args := [x0, x1]) (H := H)
  rw [show (mkHints tab).slots 128 = 0 from rfl, show (List.replicate 0 AObj.slot) = [] from rfl, List.append_nil] at h
  exact h
theorem fsl128_3_6 : fslotB tab.fslots 128 3 6 = [] := by rfl
theorem kb128_3_6 : keepB tab.keeps 128 3 6 = false := by rfl
theorem ev141 (k : Nat) (x0 x1 : AV) (H : Heap) : evalT Try.prog (mkHints tab) (k + 1) (.fn 141) [x0, x1] H = trimO H.length (finishO Try.prog Try.f141.results.toList (evalCode Try.prog (cxG Try.prog (mkHints tab) k 141 none) (Try.f141.body.getD .skip) (fillArgs (fr 23 []) 0 [x0, x1]) H)) := by
  have h := evalT_fn 23 Try.func141 rfl (by decide) rfl (P := Try.prog) (h := mkHints tab) (k := k) (args := [x0, x1]) (H := H)
  rw [show (mkHints tab).slots 141 = 0 from rfl, show (List.replicate 0 AObj.slot) = [] from rfl, List.append_nil] at h
  exact h
theorem sb141_0_1 : slotB tab.slots 141 0 1 = none := by rfl
theorem fsl141_1_3 : fslotB tab.fslots 141 1 3 = [] := by rfl
theorem kb141_1_3 : keepB tab.keeps 141 1 3 = false := by rfl
theorem fsl141_4_3 : fslotB tab.fslots 141 4 3 = [] := by rfl
theorem kb141_4_3 : keepB tab.keeps 141 4 3 = false := by rfl
theorem ev137 (k : Nat) (x0 : AV) (H : Heap) : evalT Try.prog (mkHints tab) (k + 1) (.fn 137) [x0] H = trimO H.length (finishO Try.prog Try.f137.results.toList (evalCode Try.prog (cxG Try.prog (mkHints tab) k 137 none) (Try.f137.body.getD .skip) (fillArgs (fr 22 []) 0 [x0]) H)) := by
  have h := evalT_fn 22 Try.func137 rfl (by decide) rfl (P := Try.prog) (h := mkHints tab) (k := k) (args := [x0]) (H := H)
  rw [show (mkHints tab).slots 137 = 0 from rfl, show (List.replicate 0 AObj.slot) = [] from rfl, List.append_nil] at h
  exact h
theorem sm41 (H : Heap) (cells : List IV) (len : Nat) (nl : Bool) (cap : Option Nat) (lo hi : Option AV) (m : AV) : sliceA Try.prog H 41 (.c (.slice cells len nl cap)) lo hi (some m) = sliceM 1 cells len nl lo hi m := by kernel_rfl
theorem ev134 (k : Nat) (x0 x1 : AV) (H : Heap) : evalT Try.prog (mkHints tab) (k + 1) (.fn 134) [x0, x1] H = trimO H.length (finishO Try.prog Try.f134.results.toList (evalCode Try.prog (cxG Try.prog (mkHints tab) k 134 none) (Try.f134.body.getD .skip) (fillArgs (fr 106 []) 0 [x0, x1]) (H ++ [.slot]))) := evalT_fn 106 Try.func134 rfl (by decide) rfl
theorem fsl134_1_1 : fslotB tab.fslots 134 1 1 = [] := by rfl
theorem kb134_1_1 : keepB tab.keeps 134 1 1 = false := by rfl
theorem fsl134_4_2 : fslotB tab.fslots 134 4 2 = [] := by rfl
theorem kb134_4_2 : keepB tab.keeps 134 4 2 = false := by rfl
theorem fsl134_5_1 : fslotB tab.fslots 134 5 1 = [] := by rfl
theorem kb134_5_1 : keepB tab.keeps 134 5 1 = false := by rfl
theorem fsl134_7_4 : fslotB tab.fslots 134 7 4 = [] := by rfl
theorem kb134_7_4 : keepB tab.keeps 134 7 4 = false := by rfl
theorem fsl134_8_3 : fslotB tab.fslots 134 8 3 = [] := by rfl
theorem kb134_8_3 : keepB tab.keeps 134 8 3 = false := by rfl
theorem fsl134_9_6 : fslotB tab.fslots 134 9 6 = [] := by rfl
theorem kb134_9_6 : keepB tab.keeps 134 9 6 = false := by rfl
theorem fsl134_10_2 : fslotB tab.fslots 134 10 2 = [] := by rfl
theorem kb134_10_2 : keepB tab.keeps 134 10 2 = false := by rfl
theorem fsl134_11_2 : fslotB tab.fslots 134 11 2 = [] := by rfl
theorem kb134_11_2 : keepB tab.keeps 134 11 2 = false := by rfl
theorem sb134_12_2 : slotB tab.slots 134 12 2 = some 0 := by rfl
theorem sb134_14_4 : slotB tab.slots 134 14 4 = none := by rfl
theorem fsl134_18_10 : fslotB tab.fslots 134 18 10 = [] := by rfl
theorem kb134_18_10 : keepB tab.keeps 134 18 10 = false := by rfl
theorem fsl134_19_2 : fslotB tab.fslots 134 19 2 = [] := by rfl
theorem kb134_19_2 : keepB tab.keeps 134 19 2 = false := by rfl
theorem fsl134_20_1 : fslotB tab.fslots 134 20 1 = [] := by rfl
theorem kb134_20_1 : keepB tab.keeps 134 20 1 = false := by rfl
theorem bs41_1_0 (H : Heap) (a0 : IV) : buildSliceA Try.prog H 41 1 [(0, .c a0)] = some (.hsl H.length 0 1 (1 * 1) 1, H ++ [.row false 102 [a0]]) := by kernel_rfl
theorem ap41 (H : Heap) (sl : Option Nat) (s x : AV) : appendA Try.prog H sl 41 s x = apO 102 1 4 sl s H (srcOf H 1 x) := by kernel_rfl
theorem sl41 (H : Heap) (x : AV) (lo hi : Option AV) : sliceA Try.prog H 41 x lo hi none = sliceO H 1 x lo hi := by kernel_rfl
theorem ev135 (k : Nat) (x0 : AV) (H : Heap) : evalT Try.prog (mkHints tab) (k + 1) (.fn 135) [x0] H = trimO H.length (finishO Try.prog Try.f135.results.toList (evalCode Try.prog (cxG Try.prog (mkHints tab) k 135 none) (Try.f135.body.getD .skip) (fillArgs (fr 6 []) 0 [x0]) H)) := by
  have h := evalT_fn 6 Try.func135 rfl (by decide) rfl (P := Try.prog) (h := mkHints tab) (k := k) (args := [x0]) (H := H)
  rw [show (mkHints tab).slots 135 = 0 from rfl, show (List.replicate 0 AObj.slot) = [] from rfl, List.append_nil] at h
  exact h
theorem sb135_0_1 : slotB tab.slots 135 0 1 = none := by rfl
theorem fsl135_1_2 : fslotB tab.fslots 135 1 2 = [] := by rfl
theorem kb135_1_2 : keepB tab.keeps 135 1 2 = false := by rfl
theorem ev144 (k : Nat) (x0 x1 : AV) (H : Heap) : evalT Try.prog (mkHints tab) (k + 1) (.fn 144) [x0, x1] H = trimO H.length (finishO Try.prog Try.f144.results.toList (evalCode Try.prog (cxG Try.prog (mkHints tab) k 144 none) (Try.f144.body.getD .skip) (fillArgs (fr 62 []) 0 [x0, x1]) H)) := by
  have h := evalT_fn 62 Try.func144 rfl (by decide) rfl (P := Try.prog) (h := mkHints tab) (k := k) (args := [x0, x1]) (H := H)
  rw [show (mkHints tab).slots 144 = 0 from rfl, show (List.replicate 0 AObj.slot) = [] from rfl, List.append_nil] at h
  exact h
theorem sb144_5_6 : slotB tab.slots 144 5 6 = none := by rfl
theorem fsl144_14_1 : fslotB tab.fslots 144 14 1 = [] := by rfl
theorem kb144_14_1 : keepB tab.keeps 144 14 1 = false := by rfl
theorem ev142 (k : Nat) (x0 x1 : AV) (H : Heap) : evalT Try.prog (mkHints tab) (k + 1) (.fn 142) [x0, x1] H = trimO H.length (finishO Try.prog Try.f142.results.toList (evalCode Try.prog (cxG Try.prog (mkHints tab) k 142 none) (Try.f142.body.getD .skip) (fillArgs (fr 46 []) 0 [x0, x1]) H)) := by
  have h := evalT_fn 46 Try.func142 rfl (by decide) rfl (P := Try.prog) (h := mkHints tab) (k := k) (args := [x0, x1]) (H := H)
  rw [show (mkHints tab).slots 142 = 0 from rfl, show (List.replicate 0 AObj.slot) = [] from rfl, List.append_nil] at h
  exact h
theorem sb142_3_2 : slotB tab.slots 142 3 2 = none := by rfl
theorem fsl142_11_1 : fslotB tab.fslots 142 11 1 = [] := by rfl
theorem kb142_11_1 : keepB tab.keeps 142 11 1 = false := by rfl
theorem ev143 (k : Nat) (x0 : AV) (H : Heap) : evalT Try.prog (mkHints tab) (k + 1) (.fn 143) [x0] H = trimO H.length (finishO Try.prog Try.f143.results.toList (evalCode Try.prog (cxG Try.prog (mkHints tab) k 143 none) (Try.f143.body.getD .skip) (fillArgs (fr 6 []) 0 [x0]) H)) := by
  have h := evalT_fn 6 Try.func143 rfl (by decide) rfl (P := Try.prog) (h := mkHints tab) (k := k) (args := [x0]) (H := H)
  rw [show (mkHints tab).slots 143 = 0 from rfl, show (List.replicate 0 AObj.slot) = [] from rfl, List.append_nil] at h
  exact h
theorem fsl143_1_1 : fslotB tab.fslots 143 1 1 = [] := by rfl
theorem kb143_1_1 : keepB tab.keeps 143 1 1 = false := by rfl
theorem ev145 (k : Nat) (x0 x1 : AV) (H : Heap) : evalT Try.prog (mkHints tab) (k + 1) (.fn 145) [x0, x1] H = trimO H.length (finishO Try.prog Try.f145.results.toList (evalCode Try.prog (cxG Try.prog (mkHints tab) k 145 none) (Try.f145.body.getD .skip) (fillArgs (fr 119 []) 0 [x0, x1]) H)) := by
  have h := evalT_fn 119 Try.func145 rfl (by decide) rfl (P := Try.prog) (h := mkHints tab) (k := k) (args := [x0, x1]) (H := H)
  rw [show (mkHints tab).slots 145 = 0 from rfl, show (List.replicate 0 AObj.slot) = [] from rfl, List.append_nil] at h
  exact h
theorem fsl145_8_3 : fslotB tab.fslots 145 8 3 = [] := by rfl
theorem kb145_8_3 : keepB tab.keeps 145 8 3 = false := by rfl
theorem dr145_2 : drawFact Try.f145 2 [0, 0, 3, 7, 15, 31, 0, 0, 128, 448, 960, 1984, 4095, 8191] = true := by kernel_rfl
theorem dr145_3 : drawFact Try.f145 3 [0, 0, 0, 4, 14, 30, 62, 127, 0, 0, 0, 1024, 3584, 7680, 15872, 32512, 255, 131071] = true := by kernel_rfl
theorem dr145_4 : drawFact Try.f145 4 [0, 1, 3, 7, 15, 15, 15, 79, 239, 495, 1007, 2047, 15, 4111, 15, 15, 32783, 114703, 245775, 507919, 1044495, 2097151, 4194303] = true := by kernel_rfl
theorem ev146 (k : Nat) (x0 x1 : AV) (H : Heap) : evalT Try.prog (mkHints tab) (k + 1) (.fn 146) [x0, x1] H = trimO H.length (finishO Try.prog Try.f146.results.toList (evalCode Try.prog (cxG Try.prog (mkHints tab) k 146 none) (Try.f146.body.getD .skip) (fillArgs (fr 62 []) 0 [x0, x1]) H)) := by
  have h := evalT_fn 62 Try.func146 rfl (by decide) rfl (P := Try.prog) (h := mkHints tab) (k := k) (args := [x0, x1]) (H := H)
  rw [show (mkHints tab).slots 146 = 0 from rfl, show (List.replicate 0 AObj.slot) = [] from rfl, List.append_nil] at h
  exact h
theorem fsl146_3_1 : fslotB tab.fslots 146 3 1 = [] := by rfl
theorem kb146_3_1 : keepB tab.keeps 146 3 1 = false := by rfl
theorem sb146_8_2 : slotB tab.slots 146 8 2 = none := by rfl
theorem fsl146_17_1 : fslotB tab.fslots 146 17 1 = [] := by rfl
theorem kb146_17_1 : keepB tab.keeps 146 17 1 = false := by rfl
theorem ev152 (k : Nat) (x0 : AV) (H : Heap) : evalT Try.prog (mkHints tab) (k + 1) (.fn 152) [x0] H = trimO H.length (finishO Try.prog Try.f152.results.toList (evalCode Try.prog (cxG Try.prog (mkHints tab) k 152 none) (Try.f152.body.getD .skip) (fillArgs (fr 19 []) 0 [x0]) H)) := by
  have h := evalT_fn 19 Try.func152 rfl (by decide) rfl (P := Try.prog) (h := mkHints tab) (k := k) (args := [x0]) (H := H)
  rw [show (mkHints tab).slots 152 = 0 from rfl, show (List.replicate 0 AObj.slot) = [] from rfl, List.append_nil] at h
  exact h
theorem cv102_5 (k : IntKind) (n : Int) : convA Try.prog 102 5 (.c (.int k n)) = some (.c (.int .u8 (IntKind.wrap .u8 n))) := by kernel_rfl
theorem cv5_3 (k : IntKind) (n : Int) : convA Try.prog 5 3 (.c (.int k n)) = some (.c (.int .i64 (IntKind.wrap .i64 n))) := by kernel_rfl
theorem ev153 (k : Nat) (x0 x1 x2 : AV) (H : Heap) : evalT Try.prog (mkHints tab) (k + 1) (.fn 153) [x0, x1, x2] H = trimO H.length (finishO Try.prog Try.f153.results.toList (evalCode Try.prog (cxG Try.prog (mkHints tab) k 153 none) (Try.f153.body.getD .skip) (fillArgs (fr 52 []) 0 [x0, x1, x2]) H)) := by
  have h := evalT_fn 52 Try.func153 rfl (by decide) rfl (P := Try.prog) (h := mkHints tab) (k := k) (args := [x0, x1, x2]) (H := H)
  rw [show (mkHints tab).slots 153 = 0 from rfl, show (List.replicate 0 AObj.slot) = [] from rfl, List.append_nil] at h
  exact h
theorem lbe12_12 (cx : Cx) (F : Fr) (H : Heap) : evalCode Try.prog cx LB12_12 F H = evalCode Try.prog cx (loopOf Try.f12 12) F H := rfl
theorem lbe20_4 (cx : Cx) (F : Fr) (H : Heap) : evalCode Try.prog cx LB20_4 F H = evalCode Try.prog cx (loopOf Try.f20 4) F H := rfl
theorem lbe20_9 (cx : Cx) (F : Fr) (H : Heap) : evalCode Try.prog cx LB20_9 F H = evalCode Try.prog cx (loopOf Try.f20 9) F H := rfl
theorem lbe30_6 (cx : Cx) (F : Fr) (H : Heap) : evalCode Try.prog cx LB30_6 F H = evalCode Try.prog cx (loopOf Try.f30 6) F H := rfl
theorem lbe31_6 (cx : Cx) (F : Fr) (H : Heap) : evalCode Try.prog cx LB31_6 F H = evalCode Try.prog cx (loopOf Try.f31 6) F H := rfl
theorem lbe31_14 (cx : Cx) (F : Fr) (H : Heap) : evalCode Try.prog cx LB31_14 F H = evalCode Try.prog cx (loopOf Try.f31 14) F H := rfl
theorem lbe32_4 (cx : Cx) (F : Fr) (H : Heap) : evalCode Try.prog cx LB32_4 F H = evalCode Try.prog cx (loopOf Try.f32 4) F H := rfl
theorem lbe39_4 (cx : Cx) (F : Fr) (H : Heap) : evalCode Try.prog cx LB39_4 F H = evalCode Try.prog cx (loopOf Try.f39 4) F H := rfl
theorem lbe55_11 (cx : Cx) (F : Fr) (H : Heap) : evalCode Try.prog cx LB55_11 F H = evalCode Try.prog cx (loopOf Try.f55 11) F H := rfl
theorem lbe60_3 (cx : Cx) (F : Fr) (H : Heap) : evalCode Try.prog cx LB60_3 F H = evalCode Try.prog cx (loopOf Try.f60 3) F H := rfl
theorem lbe62_4 (cx : Cx) (F : Fr) (H : Heap) : evalCode Try.prog cx LB62_4 F H = evalCode Try.prog cx (loopOf Try.f62 4) F H := rfl
theorem lbe62_10 (cx : Cx) (F : Fr) (H : Heap) : evalCode Try.prog cx LB62_10 F H = evalCode Try.prog cx (loopOf Try.f62 10) F H := rfl
theorem lbe75_3 (cx : Cx) (F : Fr) (H : Heap) : evalCode Try.prog cx LB75_3 F H = evalCode Try.prog cx (loopOf Try.f75 3) F H := rfl
theorem lbe75_15 (cx : Cx) (F : Fr) (H : Heap) : evalCode Try.prog cx LB75_15 F H = evalCode Try.prog cx (loopOf Try.f75 15) F H := rfl
theorem lbe80_3 (cx : Cx) (F : Fr) (H : Heap) : evalCode Try.prog cx LB80_3 F H = evalCode Try.prog cx (loopOf Try.f80 3) F H := rfl
theorem lbe92_2 (cx : Cx) (F : Fr) (H : Heap) : evalCode Try.prog cx LB92_2 F H = evalCode Try.prog cx (loopOf Try.f92 2) F H := rfl
theorem lbe97_4 (cx : Cx) (F : Fr) (H : Heap) : evalCode Try.prog cx LB97_4 F H = evalCode Try.prog cx (loopOf Try.f97 4) F H := rfl
theorem lbe100_4 (cx : Cx) (F : Fr) (H : Heap) : evalCode Try.prog cx LB100_4 F H = evalCode Try.prog cx (loopOf Try.f100 4) F H := rfl
theorem lbe122_7 (cx : Cx) (F : Fr) (H : Heap) : evalCode Try.prog cx LB122_7 F H = evalCode Try.prog cx (loopOf Try.f122 7) F H := rfl
theorem lbe128_1 (cx : Cx) (F : Fr) (H : Heap) : evalCode Try.prog cx LB128_1 F H = evalCode Try.prog cx (loopOf Try.f128 1) F H := rfl
theorem lbe131_6 (cx : Cx) (F : Fr) (H : Heap) : evalCode Try.prog cx LB131_6 F H = evalCode Try.prog cx (loopOf Try.f131 6) F H := rfl
theorem lbe132_6 (cx : Cx) (F : Fr) (H : Heap) : evalCode Try.prog cx LB132_6 F H = evalCode Try.prog cx (loopOf Try.f132 6) F H := rfl
theorem lbe133_3 (cx : Cx) (F : Fr) (H : Heap) : evalCode Try.prog cx LB133_3 F H = evalCode Try.prog cx (loopOf Try.f133 3) F H := rfl
theorem lbe133_7 (cx : Cx) (F : Fr) (H : Heap) : evalCode Try.prog cx LB133_7 F H = evalCode Try.prog cx (loopOf Try.f133 7) F H := rfl
theorem lbe134_16 (cx : Cx) (F : Fr) (H : Heap) : evalCode Try.prog cx LB134_16 F H = evalCode Try.prog cx (loopOf Try.f134 16) F H := rfl
theorem lbe137_2 (cx : Cx) (F : Fr) (H : Heap) : evalCode Try.prog cx LB137_2 F H = evalCode Try.prog cx (loopOf Try.f137 2) F H := rfl
theorem lbe142_6 (cx : Cx) (F : Fr) (H : Heap) : evalCode Try.prog cx LB142_6 F H = evalCode Try.prog cx (loopOf Try.f142 6) F H := rfl
theorem lbe144_8 (cx : Cx) (F : Fr) (H : Heap) : evalCode Try.prog cx LB144_8 F H = evalCode Try.prog cx (loopOf Try.f144 8) F H := rfl
theorem lbe145_4 (cx : Cx) (F : Fr) (H : Heap) : evalCode Try.prog cx LB145_4 F H = evalCode Try.prog cx (loopOf Try.f145 4) F H := rfl
theorem lbe145_13 (cx : Cx) (F : Fr) (H : Heap) : evalCode Try.prog cx LB145_13 F H = evalCode Try.prog cx (loopOf Try.f145 13) F H := rfl
theorem lbe146_10 (cx : Cx) (F : Fr) (H : Heap) : evalCode Try.prog cx LB146_10 F H = evalCode Try.prog cx (loopOf Try.f146 10) F H := rfl
theorem lbe153_3 (cx : Cx) (F : Fr) (H : Heap) : evalCode Try.prog cx LB153_3 F H = evalCode Try.prog cx (loopOf Try.f153 3) F H := rfl
theorem FACTS : type_of% (And.intro (J (J (J @fb12 @fb29 @fb31 @fb34 @fb55 @fb59 @fb60 @fb61) (J @fb20 @fb30 @fb32 @fb33 @fb39 @fb74 @fb78 @fb79) (J @fb91 @fb92 @fb93 @fb94 @fb95 @fb97 @fb98 @fb62) (J @fb75 @fb76 @fb77 @fb35 @fb110 @fb113 @fb114 @fb115) (J @fb116 @fb117 @fb118 @fb121 @fb99 @fb100 @fb80 @fb85) (J @fb111 @fb129 @fb130 @fb122 @fb131 @fb132 @fb133 @fb119) (J @fb120 @fb136 @fb123 @fb124 @fb128 @fb141 @fb137 @fb134) (J @fb135 @fb144 @fb142 @fb143 @fb145 @fb146 @fb152 @fb153)) (J (J @fsl12_1_0 @kb12_1_0 @fsl12_3_1 @kb12_3_1 @fsl12_5_1 @kb12_5_1 @fsl12_10_1 @rb12_10_1) (J @kb12_10_1 @fsl12_17_2 @kb12_17_2 @fsl12_17_3 @kb12_17_3 @fsl12_18_2 @kb12_18_2 @fsl12_18_3) (J @kb12_18_3 @fsl12_19_9 @kb12_19_9 @ldp25 @ldi25 @lde25 @ln38 @lnv38) (J @lnh38 @fa25_0 @ldp3 @ldi3 @lde3 @ln64 @lnv64 @lnh64) (J @fa25_1 @ia64 @iah64 @ldp4 @ldi4 @lde4 @ia38 @iah38) (J @fsl29_1_0 @kb29_1_0 @fsl29_1_1 @kb29_1_1 @sb29_1_5 @fsl29_2_0 @kb29_2_0 @fsl29_2_1) (J @kb29_2_1 @fsl29_3_12 @kb29_3_12 @fsl29_3_17 @kb29_3_17 @fsl29_3_20 @kb29_3_20 @fsl29_3_21) (J @kb29_3_21 @fsl29_3_23 @kb29_3_23 @al25 @bd34_0_1_2_3 @bs22_1_0 @bs23_2_0_1 @bd25_0_1_2_3_h1)) (J (J @bd25_0_1_2_3_h2 @bd25_0_1_2_3_h3 @bd25_0_1_2_3 @bs64_4_0_1_2_3 @bs23_3_0_1_2 @fsl31_1_1 @kb31_1_1 @sb31_1_5) (J @sb31_4_2 @sb31_4_3 @fsl31_10_1 @kb31_10_1 @sb31_11_0 @fsl31_13_1 @kb31_13_1 @rae31_11) (J @rbe31_11 @ms64 @al64 @fa25_3 @ldp23 @ldi23 @lde23 @ln23) (J @lnv23 @lnh23 @ia23 @iah23 @ldp64 @ldi64 @lde64 @al34) (J @fa34_1 @ldp34 @ldi34 @lde34 @fa25_2 @ldp22 @ldi22 @lde22) (J @ln22 @lnv22 @lnh22 @fsl55_1_3 @kb55_1_3 @sb55_4_2 @fsl55_6_0 @kb55_6_0) (J @fsl55_6_3 @kb55_6_3 @sb55_13_6 @ln81 @lnv81 @lnh81 @ms81 @cp81) (J @ia81 @iah81 @ldp140 @ldi140 @lde140 @bs81_1_0 @ap81 @sb59_3_2)) (J (J @eqs38 @bs38_0_ @ap38 @fsl60_5_2 @kb60_5_2 @sb60_5_4 @ldp2 @ldi2) (J @lde2 @fsl61_1_2 @kb61_1_2 @ia22 @iah22 @ne34 @sb30_0_1 @fsl30_1_1) (J @kb30_1_1 @fsl30_5_1 @kb30_5_1 @fsl30_8_7 @kb30_8_7 @sb30_9_7 @fsl30_11_7 @rb30_11_7) (J @kb30_11_7 @bd25_ @ap22 @neb4 @sb33_1_0 @fsl33_2_1 @kb33_2_1 @sb33_7_3) (J @rae33_6 @rbe33_6 @al23 @eqf70 @bs23_1_0 @ap23 @sb74_0_0 @bd34_0_1_2_4) (J @bd34_0_1_2 @bs22_4_0_1_2_3 @fa34_0 @fa34_2 @fa34_3 @fsl91_1_1 @kb91_1_1 @sb92_3_3) (J @fsl92_4_3 @kb92_4_3 @sb92_4_7 @fsl92_8_3 @kb92_8_3 @ldp145 @ldi145 @lde145) (J @al140 @sb93_0_0 @al145 @bd145_0_1_2_3_4 @sb95_0_0 @fsl95_4_8 @kb95_4_8 @cv2_101)) (J (J @cv101_102 @bs41_2_0_1 @sb97_5_3 @sb97_6_4 @fsl97_7_3 @kb97_7_3 @fsl98_1_2 @kb98_1_2) (J @sb62_11_3 @fsl62_12_3 @kb62_12_3 @sb75_1_2 @sb75_1_3 @sb75_7_3 @sb75_7_4 @fsl75_8_1) (J @kb75_8_1 @sb75_10_0 @fsl75_14_1 @kb75_14_1 @rae75_9 @rbe75_9 @sb77_3_2 @eqs23) (J @bs23_0_ @fsl110_1_1 @kb110_1_1 @fsl110_2_2 @kb110_2_2 @sb110_4_0 @fsl110_5_3 @kb110_5_3) (J @rae110_3 @rbe110_3 @ldp163 @ldi163 @lde163 @sb113_0_2 @sb113_1_10 @sb113_1_11) (J @fsl113_4_3 @kb113_4_3 @fsl113_6_4 @kb113_6_4 @fsl113_8_4 @kb113_8_4 @fsl113_10_5 @kb113_10_5) (J @fsl113_10_6 @kb113_10_6 @fsl113_12_5 @kb113_12_5 @fsl113_12_6 @kb113_12_6 @fsl113_14_5 @kb113_14_5) (J @fsl113_14_6 @kb113_14_6 @fsl113_16_5 @kb113_16_5 @fsl113_16_6 @kb113_16_6 @fa145_0 @ldp141)) (J (J @ldi141 @lde141 @fa145_1 @ldp142 @ldi142 @lde142 @fa145_2 @fa145_3) (J @fa34_4 @fa145_4 @ldp143 @ldi143 @lde143 @sb114_0_1 @fsl114_1_5 @kb114_1_5) (J @fa140_0 @fa140_1 @ldp41 @ldi41 @lde41 @sb115_0_2 @fsl115_2_6 @kb115_2_6) (J @fsl115_2_7 @kb115_2_7 @fsl115_3_4 @kb115_3_4 @fsl115_5_4 @kb115_5_4 @fsl115_6_3 @kb115_6_3) (J @eqb4 @sb116_0_2 @fsl116_1_2 @kb116_1_2 @fsl116_1_3 @kb116_1_3 @sb117_0_2 @fsl117_1_9) (J @kb117_1_9 @fsl117_1_10 @kb117_1_10 @sb118_0_2 @fsl118_1_2 @kb118_1_2 @sb118_1_7 @sb118_1_8) (J @fsl118_2_2 @kb118_2_2 @sb121_0_0 @fsl121_1_2 @kb121_1_2 @fsl121_1_3 @kb121_1_3 @fsl99_2_4) (J @kb99_2_4 @fsl99_7_4 @kb99_7_4 @fsl100_1_22 @kb100_1_22 @fsl100_1_32 @kb100_1_32 @fsl100_3_1)) (J (J @kb100_3_1 @fsl80_0_1 @kb80_0_1 @fsl80_2_1 @kb80_2_1 @fsl80_5_8 @kb80_5_8 @fsl80_5_13) (J @kb80_5_13 @fsl85_1_1 @kb85_1_1 @sb129_0_0 @fsl129_1_0 @kb129_1_0 @fsl129_1_2 @kb129_1_2) (J @sb129_1_6 @sb130_0_0 @ln41 @lnv41 @lnh41 @bd140_0_1_h1 @bd140_0_1 @fsl122_1_1) (J @kb122_1_1 @fsl122_1_3 @kb122_1_3 @ia41 @iah41 @ldp102 @ldi102 @lde102) (J @sb131_3_3 @fsl131_15_1 @kb131_15_1 @ms41 @cv102_101 @fsl132_1_2 @kb132_1_2 @sb132_3_2) (J @fsl132_15_1 @kb132_15_1 @sb133_1_5 @fsl133_15_1 @kb133_15_1 @sb119_0_2 @sb119_0_3 @fsl119_1_4) (J @kb119_1_4 @fsl119_4_6 @kb119_4_6 @fsl119_4_10 @kb119_4_10 @sb119_4_11 @sb119_4_12 @fsl119_6_2) (J @kb119_6_2 @fsl119_6_3 @kb119_6_3 @fsl119_7_2 @kb119_7_2 @fsl119_7_3 @kb119_7_3 @fsl119_7_4)) (J (J @kb119_7_4 @bd140_ @fsl136_1_1 @kb136_1_1 @sb136_2_2 @cp41 @fsl128_3_6 @kb128_3_6) (J @sb141_0_1 @fsl141_1_3 @kb141_1_3 @fsl141_4_3 @kb141_4_3 @sm41 @fsl134_1_1 @kb134_1_1) (J @fsl134_4_2 @kb134_4_2 @fsl134_5_1 @kb134_5_1 @fsl134_7_4 @kb134_7_4 @fsl134_8_3 @kb134_8_3) (J @fsl134_9_6 @kb134_9_6 @fsl134_10_2 @kb134_10_2 @fsl134_11_2 @kb134_11_2 @sb134_12_2 @sb134_14_4) (J @fsl134_18_10 @kb134_18_10 @fsl134_19_2 @kb134_19_2 @fsl134_20_1 @kb134_20_1 @bs41_1_0 @ap41) (J @sl41 @sb135_0_1 @fsl135_1_2 @kb135_1_2 @sb144_5_6 @fsl144_14_1 @kb144_14_1 @sb142_3_2) (J @fsl142_11_1 @kb142_11_1 @fsl143_1_1 @kb143_1_1 @fsl145_8_3 @kb145_8_3 @fsl146_3_1 @kb146_3_1) (J @sb146_8_2 @fsl146_17_1 @kb146_17_1 @cv102_5 @cv5_3 @lbe12_12 @lbe20_4 @lbe20_9))) (And.intro (J @lbe30_6 @lbe31_6 @lbe31_14 @lbe32_4 @lbe39_4 @lbe55_11 @lbe60_3 @lbe62_4) (And.intro (J @lbe62_10 @lbe75_3 @lbe75_15 @lbe80_3 @lbe92_2 @lbe97_4 @lbe100_4 @lbe122_7) (And.intro (J @lbe128_1 @lbe131_6 @lbe132_6 @lbe133_3 @lbe133_7 @lbe134_16 @lbe137_2 @lbe142_6) (And.intro @lbe144_8 (And.intro @lbe145_4 (And.intro @lbe145_13 (And.intro @lbe146_10 @lbe153_3)))))))) :=
  (And.intro (J (J (J @fb12 @fb29 @fb31 @fb34 @fb55 @fb59 @fb60 @fb61) (J @fb20 @fb30 @fb32 @fb33 @fb39 @fb74 @fb78 @fb79) (J @fb91 @fb92 @fb93 @fb94 @fb95 @fb97 @fb98 @fb62) (J @fb75 @fb76 @fb77 @fb35 @fb110 @fb113 @fb114 @fb115) (J @fb116 @fb117 @fb118 @fb121 @fb99 @fb100 @fb80 @fb85) (J @fb111 @fb129 @fb130 @fb122 @fb131 @fb132 @fb133 @fb119) (J @fb120 @fb136 @fb123 @fb124 @fb128 @fb141 @fb137 @fb134) (J @fb135 @fb144 @fb142 @fb143 @fb145 @fb146 @fb152 @fb153)) (J (J @fsl12_1_0 @kb12_1_0 @fsl12_3_1 @kb12_3_1 @fsl12_5_1 @kb12_5_1 @fsl12_10_1 @rb12_10_1) (J @kb12_10_1 @fsl12_17_2 @kb12_17_2 @fsl12_17_3 @kb12_17_3 @fsl12_18_2 @kb12_18_2 @fsl12_18_3) (J @kb12_18_3 @fsl12_19_9 @kb12_19_9 @ldp25 @ldi25 @lde25 @ln38 @lnv38) (J @lnh38 @fa25_0 @ldp3 @ldi3 @lde3 @ln64 @lnv64 @lnh64) (J @fa25_1 @ia64 @iah64 @ldp4 @ldi4 @lde4 @ia38 @iah38) (J @fsl29_1_0 @kb29_1_0 @fsl29_1_1 @kb29_1_1 @sb29_1_5 @fsl29_2_0 @kb29_2_0 @fsl29_2_1) (J @kb29_2_1 @fsl29_3_12 @kb29_3_12 @fsl29_3_17 @kb29_3_17 @fsl29_3_20 @kb29_3_20 @fsl29_3_21) (J @kb29_3_21 @fsl29_3_23 @kb29_3_23 @al25 @bd34_0_1_2_3 @bs22_1_0 @bs23_2_0_1 @bd25_0_1_2_3_h1)) (J (J @bd25_0_1_2_3_h2 @bd25_0_1_2_3_h3 @bd25_0_1_2_3 @bs64_4_0_1_2_3 @bs23_3_0_1_2 @fsl31_1_1 @kb31_1_1 @sb31_1_5) (J @sb31_4_2 @sb31_4_3 @fsl31_10_1 @kb31_10_1 @sb31_11_0 @fsl31_13_1 @kb31_13_1 @rae31_11) (J @rbe31_11 @ms64 @al64 @fa25_3 @ldp23 @ldi23 @lde23 @ln23) (J @lnv23 @lnh23 @ia23 @iah23 @ldp64 @ldi64 @lde64 @al34) (J @fa34_1 @ldp34 @ldi34 @lde34 @fa25_2 @ldp22 @ldi22 @lde22) (J @ln22 @lnv22 @lnh22 @fsl55_1_3 @kb55_1_3 @sb55_4_2 @fsl55_6_0 @kb55_6_0) (J @fsl55_6_3 @kb55_6_3 @sb55_13_6 @ln81 @lnv81 @lnh81 @ms81 @cp81) (J @ia81 @iah81 @ldp140 @ldi140 @lde140 @bs81_1_0 @ap81 @sb59_3_2)) (J (J @eqs38 @bs38_0_ @ap38 @fsl60_5_2 @kb60_5_2 @sb60_5_4 @ldp2 @ldi2) (J @lde2 @fsl61_1_2 @kb61_1_2 @ia22 @iah22 @ne34 @sb30_0_1 @fsl30_1_1) (J @kb30_1_1 @fsl30_5_1 @kb30_5_1 @fsl30_8_7 @kb30_8_7 @sb30_9_7 @fsl30_11_7 @rb30_11_7) (J @kb30_11_7 @bd25_ @ap22 @neb4 @sb33_1_0 @fsl33_2_1 @kb33_2_1 @sb33_7_3) (J @rae33_6 @rbe33_6 @al23 @eqf70 @bs23_1_0 @ap23 @sb74_0_0 @bd34_0_1_2_4) (J @bd34_0_1_2 @bs22_4_0_1_2_3 @fa34_0 @fa34_2 @fa34_3 @fsl91_1_1 @kb91_1_1 @sb92_3_3) (J @fsl92_4_3 @kb92_4_3 @sb92_4_7 @fsl92_8_3 @kb92_8_3 @ldp145 @ldi145 @lde145) (J @al140 @sb93_0_0 @al145 @bd145_0_1_2_3_4 @sb95_0_0 @fsl95_4_8 @kb95_4_8 @cv2_101)) (J (J @cv101_102 @bs41_2_0_1 @sb97_5_3 @sb97_6_4 @fsl97_7_3 @kb97_7_3 @fsl98_1_2 @kb98_1_2) (J @sb62_11_3 @fsl62_12_3 @kb62_12_3 @sb75_1_2 @sb75_1_3 @sb75_7_3 @sb75_7_4 @fsl75_8_1) (J @kb75_8_1 @sb75_10_0 @fsl75_14_1 @kb75_14_1 @rae75_9 @rbe75_9 @sb77_3_2 @eqs23) (J @bs23_0_ @fsl110_1_1 @kb110_1_1 @fsl110_2_2 @kb110_2_2 @sb110_4_0 @fsl110_5_3 @kb110_5_3) (J @rae110_3 @rbe110_3 @ldp163 @ldi163 @lde163 @sb113_0_2 @sb113_1_10 @sb113_1_11) (J @fsl113_4_3 @kb113_4_3 @fsl113_6_4 @kb113_6_4 @fsl113_8_4 @kb113_8_4 @fsl113_10_5 @kb113_10_5) (J @fsl113_10_6 @kb113_10_6 @fsl113_12_5 @kb113_12_5 @fsl113_12_6 @kb113_12_6 @fsl113_14_5 @kb113_14_5) (J @fsl113_14_6 @kb113_14_6 @fsl113_16_5 @kb113_16_5 @fsl113_16_6 @kb113_16_6 @fa145_0 @ldp141)) (J (J @ldi141 @lde141 @fa145_1 @ldp142 @ldi142 @lde142 @fa145_2 @fa145_3) (J @fa34_4 @fa145_4 @ldp143 @ldi143 @lde143 @sb114_0_1 @fsl114_1_5 @kb114_1_5) (J @fa140_0 @fa140_1 @ldp41 @ldi41 @lde41 @sb115_0_2 @fsl115_2_6 @kb115_2_6) (J @fsl115_2_7 @kb115_2_7 @fsl115_3_4 @kb115_3_4 @fsl115_5_4 @kb115_5_4 @fsl115_6_3 @kb115_6_3) (J @eqb4 @sb116_0_2 @fsl116_1_2 @kb116_1_2 @fsl116_1_3 @kb116_1_3 @sb117_0_2 @fsl117_1_9) (J @kb117_1_9 @fsl117_1_10 @kb117_1_10 @sb118_0_2 @fsl118_1_2 @kb118_1_2 @sb118_1_7 @sb118_1_8) (J @fsl118_2_2 @kb118_2_2 @sb121_0_0 @fsl121_1_2 @kb121_1_2 @fsl121_1_3 @kb121_1_3 @fsl99_2_4) (J @kb99_2_4 @fsl99_7_4 @kb99_7_4 @fsl100_1_22 @kb100_1_22 @fsl100_1_32 @kb100_1_32 @fsl100_3_1)) (J (J @kb100_3_1 @fsl80_0_1 @kb80_0_1 @fsl80_2_1 @kb80_2_1 @fsl80_5_8 @kb80_5_8 @fsl80_5_13) (J @kb80_5_13 @fsl85_1_1 @kb85_1_1 @sb129_0_0 @fsl129_1_0 @kb129_1_0 @fsl129_1_2 @kb129_1_2) (J @sb129_1_6 @sb130_0_0 @ln41 @lnv41 @lnh41 @bd140_0_1_h1 @bd140_0_1 @fsl122_1_1) (J @kb122_1_1 @fsl122_1_3 @kb122_1_3 @ia41 @iah41 @ldp102 @ldi102 @lde102) (J @sb131_3_3 @fsl131_15_1 @kb131_15_1 @ms41 @cv102_101 @fsl132_1_2 @kb132_1_2 @sb132_3_2) (J @fsl132_15_1 @kb132_15_1 @sb133_1_5 @fsl133_15_1 @kb133_15_1 @sb119_0_2 @sb119_0_3 @fsl119_1_4) (J @kb119_1_4 @fsl119_4_6 @kb119_4_6 @fsl119_4_10 @kb119_4_10 @sb119_4_11 @sb119_4_12 @fsl119_6_2) (J @kb119_6_2 @fsl119_6_3 @kb119_6_3 @fsl119_7_2 @kb119_7_2 @fsl119_7_3 @kb119_7_3 @fsl119_7_4)) (J (J @kb119_7_4 @bd140_ @fsl136_1_1 @kb136_1_1 @sb136_2_2 @cp41 @fsl128_3_6 @kb128_3_6) (J @sb141_0_1 @fsl141_1_3 @kb141_1_3 @fsl141_4_3 @kb141_4_3 @sm41 @fsl134_1_1 @kb134_1_1) (J @fsl134_4_2 @kb134_4_2 @fsl134_5_1 @kb134_5_1 @fsl134_7_4 @kb134_7_4 @fsl134_8_3 @kb134_8_3) (J @fsl134_9_6 @kb134_9_6 @fsl134_10_2 @kb134_10_2 @fsl134_11_2 @kb134_11_2 @sb134_12_2 @sb134_14_4) (J @fsl134_18_10 @kb134_18_10 @fsl134_19_2 @kb134_19_2 @fsl134_20_1 @kb134_20_1 @bs41_1_0 @ap41) (J @sl41 @sb135_0_1 @fsl135_1_2 @kb135_1_2 @sb144_5_6 @fsl144_14_1 @kb144_14_1 @sb142_3_2) (J @fsl142_11_1 @kb142_11_1 @fsl143_1_1 @kb143_1_1 @fsl145_8_3 @kb145_8_3 @fsl146_3_1 @kb146_3_1) (J @sb146_8_2 @fsl146_17_1 @kb146_17_1 @cv102_5 @cv5_3 @lbe12_12 @lbe20_4 @lbe20_9))) (And.intro (J @lbe30_6 @lbe31_6 @lbe31_14 @lbe32_4 @lbe39_4 @lbe55_11 @lbe60_3 @lbe62_4) (And.intro (J @lbe62_10 @lbe75_3 @lbe75_15 @lbe80_3 @lbe92_2 @lbe97_4 @lbe100_4 @lbe122_7) (And.intro (J @lbe128_1 @lbe131_6 @lbe132_6 @lbe133_3 @lbe133_7 @lbe134_16 @lbe137_2 @lbe142_6) (And.intro @lbe144_8 (And.intro @lbe145_4 (And.intro @lbe145_13 (And.intro @lbe146_10 @lbe153_3))))))))
theorem TYPES : type_of% (And.intro (J @ag25 @sz25 @ag3 @sz3 @ag4 @sz4 @ag2 @sz2) (And.intro (J @ag64 @sz64 @ag23 @sz23 @ag34 @sz34 @ag22 @sz22) (And.intro (J @ag140 @sz140 @ag145 @sz145 @ag163 @sz163 @ag141 @sz141) (J @ag142 @sz142 @ag143 @sz143 @ag41 @sz41 @ag102 @sz102)))) :=
  (And.intro (J @ag25 @sz25 @ag3 @sz3 @ag4 @sz4 @ag2 @sz2) (And.intro (J @ag64 @sz64 @ag23 @sz23 @ag34 @sz34 @ag22 @sz22) (And.intro (J @ag140 @sz140 @ag145 @sz145 @ag163 @sz163 @ag141 @sz141) (J @ag142 @sz142 @ag143 @sz143 @ag41 @sz41 @ag102 @sz102))))
theorem FT : type_of% (And.intro @EVb (And.intro @EVc (And.intro @FACTS @TYPES))) :=
  (And.intro @EVb (And.intro @EVc (And.intro @FACTS @TYPES)))
end Go.Proofs.Sw
