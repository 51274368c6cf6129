/- A part of the proof: what functions of the program answer, of whatever arguments, reckoned with letters by the interpreter's equations. Its conditions stand in each theorem. -/
import Derived.Test.YtbmmjfdofbdfeaaDoorProg
import Derived.Test.YtbmmjfdofbdfeaaDoorAbSim
import Derived.WalkKit
/-! Facts about the program's types. -/
namespace Go.Proofs.F13
set_option linter.unusedVariables false
set_option linter.unusedSimpArgs false
set_option linter.unusedSectionVars false
open Go.Ab
variable [Globals]
theorem ev3 (h : Hints) (k : Nat) (x0 : AV) (H : Heap) : evalT Tryd.prog h (k + 1) (.fn 3) [x0] H = finishO Tryd.prog Tryd.f3.results.toList (evalCode Tryd.prog (cxF Tryd.prog h k 3) (Tryd.f3.body.getD .skip) (fillArgs (fr 58 []) 0 [x0]) H) := evalT_fn 58 Tryd.func3 rfl (by decide) rfl
theorem ag25 : isAggT Tryd.prog 25 = some true := by kernel_rfl
theorem sz25 : sizeT Tryd.prog 25 = some 4 := by kernel_rfl
theorem ldp25 (H : Heap) (id off : Nat) : loadA Tryd.prog H 25 (.ptr id off) = cellsAt H[id]? off 4 := by kernel_rfl
theorem ldi25 (H : Heap) (cells : List IV) (off : Nat) : loadA Tryd.prog H 25 (.c (.iptr cells off)) = (takeCells cells off 4).map fun l => .agg (l.map .c) := by kernel_rfl
theorem lde25 (H : Heap) (id off ext : Nat) : loadA Tryd.prog H 25 (.eptr id off ext) = (rowOf H id ext).bind fun r => (takeCells r.2 off 4).map fun l => .agg (l.map .c) := by kernel_rfl
theorem al25 (H : Heap) : allocA Tryd.prog H 25 = some (.ptr H.length 0, H ++ [.cells 25 [.c (.int .i64 0), .c (.int .i64 0), .c (.slice [] 0 true (some 0)), .c (.slice [] 0 true (some 0))]]) := by kernel_rfl
theorem bd25_ : buildA Tryd.prog 25 [] = some (.agg [.c (.int .i64 0), .c (.int .i64 0), .c (.slice [] 0 true (some 0)), .c (.slice [] 0 true (some 0))]) := by kernel_rfl
theorem dr3_11 : drawFact Tryd.f3 11 [0, 1, 3, 7, 7, 23, 63, 127, 255] = true := by kernel_rfl
theorem fa25_2 (x : AV) : fieldAddrA Tryd.prog 25 x 2 = addrPlus x 2 := by kernel_rfl
theorem ag22 : isAggT Tryd.prog 22 = some false := by kernel_rfl
theorem sz22 : sizeT Tryd.prog 22 = some 1 := by kernel_rfl
theorem ldp22 (H : Heap) (id off : Nat) : loadA Tryd.prog H 22 (.ptr id off) = cellAt H[id]? off := by kernel_rfl
theorem ldi22 (H : Heap) (cells : List IV) (off : Nat) : loadA Tryd.prog H 22 (.c (.iptr cells off)) = (cells[off]?).map .c := by kernel_rfl
theorem lde22 (H : Heap) (id off ext : Nat) : loadA Tryd.prog H 22 (.eptr id off ext) = (rowOf H id ext).bind fun r => (r.2[off]?).map .c := by kernel_rfl
theorem ln22 (cells : List IV) (n : Nat) (nl : Bool) (cap : Option Nat) : lenA Tryd.prog 22 (.c (.slice cells n nl cap)) = some (.c (.int .i64 n)) := by kernel_rfl
theorem lnh22 (id off n ext sz : Nat) : lenA Tryd.prog 22 (.hsl id off n ext sz) = some (.c (.int .i64 n)) := by kernel_rfl
theorem ag34 : isAggT Tryd.prog 34 = some true := by kernel_rfl
theorem sz34 : sizeT Tryd.prog 34 = some 5 := by kernel_rfl
theorem ia22 (H : Heap) (cells : List IV) (len : Nat) (nl : Bool) (cap : Option Nat) (k : IntKind) (i : Int) : indexAddrA Tryd.prog H 22 (.c (.slice cells len nl cap)) (.c (.int k i)) = if 0 ≤ i ∧ i < len then some (.c (.iptr cells (i.toNat * 5))) else none := by kernel_rfl
theorem iah22 (H : Heap) (id off len ext sz : Nat) (k : IntKind) (i : Int) : indexAddrA Tryd.prog H 22 (.hsl id off len ext sz) (.c (.int k i)) = if 0 ≤ i ∧ i < len ∧ sz = 5 ∧ (rowOf H id ext).isSome = true then some (.eptr id (off + i.toNat * 5) ext) else none := by kernel_rfl
theorem fa34_1 (x : AV) : fieldAddrA Tryd.prog 34 x 1 = addrPlus x 1 := by kernel_rfl
theorem ag3 : isAggT Tryd.prog 3 = some false := by kernel_rfl
theorem sz3 : sizeT Tryd.prog 3 = some 1 := by kernel_rfl
theorem fa25_3 (x : AV) : fieldAddrA Tryd.prog 25 x 3 = addrPlus x 3 := by kernel_rfl
theorem ag23 : isAggT Tryd.prog 23 = some false := by kernel_rfl
theorem sz23 : sizeT Tryd.prog 23 = some 1 := by kernel_rfl
theorem ldp23 (H : Heap) (id off : Nat) : loadA Tryd.prog H 23 (.ptr id off) = cellAt H[id]? off := by kernel_rfl
theorem ldi23 (H : Heap) (cells : List IV) (off : Nat) : loadA Tryd.prog H 23 (.c (.iptr cells off)) = (cells[off]?).map .c := by kernel_rfl
theorem lde23 (H : Heap) (id off ext : Nat) : loadA Tryd.prog H 23 (.eptr id off ext) = (rowOf H id ext).bind fun r => (r.2[off]?).map .c := by kernel_rfl
theorem ev5 (h : Hints) (k : Nat) (x0 x1 : AV) (H : Heap) : evalT Tryd.prog h (k + 1) (.fn 5) [x0, x1] H = finishO Tryd.prog Tryd.f5.results.toList (evalCode Tryd.prog (cxF Tryd.prog h k 5) (Tryd.f5.body.getD .skip) (fillArgs (fr 112 []) 0 [x0, x1]) H) := evalT_fn 112 Tryd.func5 rfl (by decide) rfl
theorem ldp34 (H : Heap) (id off : Nat) : loadA Tryd.prog H 34 (.ptr id off) = cellsAt H[id]? off 5 := by kernel_rfl
theorem ldi34 (H : Heap) (cells : List IV) (off : Nat) : loadA Tryd.prog H 34 (.c (.iptr cells off)) = (takeCells cells off 5).map fun l => .agg (l.map .c) := by kernel_rfl
theorem lde34 (H : Heap) (id off ext : Nat) : loadA Tryd.prog H 34 (.eptr id off ext) = (rowOf H id ext).bind fun r => (takeCells r.2 off 5).map fun l => .agg (l.map .c) := by kernel_rfl
theorem al34 (H : Heap) : allocA Tryd.prog H 34 = some (.ptr H.length 0, H ++ [.cells 34 [.c (.int .i64 0), .c (.int .i64 0), .c (.int .i64 0), .c (.int .i64 0), .c (.int .i64 0)]]) := by kernel_rfl
theorem dr5_5 : drawFact Tryd.f5 5 [0, 1, 0, 7, 15, 31] = true := by kernel_rfl
theorem bd34_ : buildA Tryd.prog 34 [] = some (.agg [.c (.int .i64 0), .c (.int .i64 0), .c (.int .i64 0), .c (.int .i64 0), .c (.int .i64 0)]) := by kernel_rfl
theorem ne34 (H : Heap) (a0 b0 : Int) (a1 b1 : Int) (a2 b2 : Int) (a3 b3 : Int) (a4 b4 : Int) : binA Tryd.prog H .neq 34 (.agg [.c (.int .i64 a0), .c (.int .i64 a1), .c (.int .i64 a2), .c (.int .i64 a3), .c (.int .i64 a4)]) (.agg [.c (.int .i64 b0), .c (.int .i64 b1), .c (.int .i64 b2), .c (.int .i64 b3), .c (.int .i64 b4)]) = some (.c (.bool (!((a0 == b0) && ((a1 == b1) && ((a2 == b2) && ((a3 == b3) && ((a4 == b4) && true)))))))) := by kernel_rfl
theorem neb4 (H : Heap) (a b : Bool) : binA Tryd.prog H .neq 4 (.c (.bool a)) (.c (.bool b)) = some (.c (.bool (!(a == b)))) := by kernel_rfl
theorem eq34 (H : Heap) (a0 b0 : Int) (a1 b1 : Int) (a2 b2 : Int) (a3 b3 : Int) (a4 b4 : Int) : binA Tryd.prog H .eql 34 (.agg [.c (.int .i64 a0), .c (.int .i64 a1), .c (.int .i64 a2), .c (.int .i64 a3), .c (.int .i64 a4)]) (.agg [.c (.int .i64 b0), .c (.int .i64 b1), .c (.int .i64 b2), .c (.int .i64 b3), .c (.int .i64 b4)]) = some (.c (.bool (((a0 == b0) && ((a1 == b1) && ((a2 == b2) && ((a3 == b3) && ((a4 == b4) && true)))))))) := by kernel_rfl
theorem eqb4 (H : Heap) (a b : Bool) : binA Tryd.prog H .eql 4 (.c (.bool a)) (.c (.bool b)) = some (.c (.bool ((a == b)))) := by kernel_rfl
theorem ev6 (h : Hints) (k : Nat) (x0 : AV) (H : Heap) : evalT Tryd.prog h (k + 1) (.fn 6) [x0] H = finishO Tryd.prog Tryd.f6.results.toList (evalCode Tryd.prog (cxF Tryd.prog h k 6) (Tryd.f6.body.getD .skip) (fillArgs (fr 126 []) 0 [x0]) H) := evalT_fn 126 Tryd.func6 rfl (by decide) rfl
theorem fa34_0 (x : AV) : fieldAddrA Tryd.prog 34 x 0 = addrPlus x 0 := by kernel_rfl
theorem ldp3 (H : Heap) (id off : Nat) : loadA Tryd.prog H 3 (.ptr id off) = cellAt H[id]? off := by kernel_rfl
theorem ldi3 (H : Heap) (cells : List IV) (off : Nat) : loadA Tryd.prog H 3 (.c (.iptr cells off)) = (cells[off]?).map .c := by kernel_rfl
theorem lde3 (H : Heap) (id off ext : Nat) : loadA Tryd.prog H 3 (.eptr id off ext) = (rowOf H id ext).bind fun r => (r.2[off]?).map .c := by kernel_rfl
theorem fa34_2 (x : AV) : fieldAddrA Tryd.prog 34 x 2 = addrPlus x 2 := by kernel_rfl
theorem dr6_17 : drawFact Tryd.f6 17 [0, 1, 0, 4, 15, 31, 0, 127, 255, 511, 511, 0, 3071, 8191] = true := by kernel_rfl
theorem al47 (H : Heap) : allocA Tryd.prog H 47 = some (.ptr H.length 0, H ++ [.cells 47 [.c (.int .i64 0), .c (.int .i64 0), .c (.int .i64 0), .c (.int .i64 0), .c (.int .i64 0)]]) := by kernel_rfl
theorem ag47 : isAggT Tryd.prog 47 = some true := by kernel_rfl
theorem sz47 : sizeT Tryd.prog 47 = some 5 := by kernel_rfl
theorem fa47_2 (x : AV) : fieldAddrA Tryd.prog 47 x 2 = addrPlus x 2 := by kernel_rfl
theorem fa47_3 (x : AV) : fieldAddrA Tryd.prog 47 x 3 = addrPlus x 3 := by kernel_rfl
theorem ev8 (h : Hints) (k : Nat) (H : Heap) : evalT Tryd.prog h (k + 1) (.fn 8) [] H = finishO Tryd.prog Tryd.f8.results.toList (evalCode Tryd.prog (cxF Tryd.prog h k 8) (Tryd.f8.body.getD .skip) (fillArgs (fr 41 []) 0 []) H) := evalT_fn 41 Tryd.func8 rfl (by decide) rfl
theorem bs22_4_0_1_2_3 (H : Heap) (a0 a1 a2 a3 a4 a5 a6 a7 a8 a9 a10 a11 a12 a13 a14 a15 a16 a17 a18 a19 : IV) : buildSliceA Tryd.prog H 22 4 [(0, .agg [.c a0, .c a1, .c a2, .c a3, .c a4]), (1, .agg [.c a5, .c a6, .c a7, .c a8, .c a9]), (2, .agg [.c a10, .c a11, .c a12, .c a13, .c a14]), (3, .agg [.c a15, .c a16, .c a17, .c a18, .c a19])] = some (.hsl H.length 0 4 (4 * 5) 5, H ++ [.row false 34 [a0, a1, a2, a3, a4, a5, a6, a7, a8, a9, a10, a11, a12, a13, a14, a15, a16, a17, a18, a19]]) := by kernel_rfl
theorem bs23_1_0 (H : Heap) (a0 : IV) : buildSliceA Tryd.prog H 23 1 [(0, .c a0)] = some (.hsl H.length 0 1 (1 * 1) 1, H ++ [.row false 3 [a0]]) := by kernel_rfl
theorem bd25_0_1_2_3_h1 (a0 a1 a3 : IV) (i2 o2 l2 e2 s2 : Nat) : buildA Tryd.prog 25 [(0, .c a0), (1, .c a1), (2, .hsl i2 o2 l2 e2 s2), (3, .c a3)] = some (.agg [.c a0, .c a1, .hsl i2 o2 l2 e2 s2, .c a3]) := by kernel_rfl
theorem bd25_0_1_2_3_h2 (a0 a1 a2 : IV) (i3 o3 l3 e3 s3 : Nat) : buildA Tryd.prog 25 [(0, .c a0), (1, .c a1), (2, .c a2), (3, .hsl i3 o3 l3 e3 s3)] = some (.agg [.c a0, .c a1, .c a2, .hsl i3 o3 l3 e3 s3]) := by kernel_rfl
theorem bd25_0_1_2_3_h3 (a0 a1 : IV) (i2 o2 l2 e2 s2 i3 o3 l3 e3 s3 : Nat) : buildA Tryd.prog 25 [(0, .c a0), (1, .c a1), (2, .hsl i2 o2 l2 e2 s2), (3, .hsl i3 o3 l3 e3 s3)] = some (.agg [.c a0, .c a1, .hsl i2 o2 l2 e2 s2, .hsl i3 o3 l3 e3 s3]) := by kernel_rfl
theorem bd25_0_1_2_3 (a0 a1 a2 a3 : IV) : buildA Tryd.prog 25 [(0, .c a0), (1, .c a1), (2, .c a2), (3, .c a3)] = some (.agg [.c a0, .c a1, .c a2, .c a3]) := by kernel_rfl
theorem bs22_1_0 (H : Heap) (a0 a1 a2 a3 a4 : IV) : buildSliceA Tryd.prog H 22 1 [(0, .agg [.c a0, .c a1, .c a2, .c a3, .c a4])] = some (.hsl H.length 0 1 (1 * 5) 5, H ++ [.row false 34 [a0, a1, a2, a3, a4]]) := by kernel_rfl
theorem dr8_4 : drawFact Tryd.f8 4 [0, 1, 3, 7, 7, 23, 7, 119, 255, 511, 1023, 2047, 4095, 8191, 16383, 16383, 65535, 131071, 262143] = true := by kernel_rfl
theorem ev9 (h : Hints) (k : Nat) (x0 : AV) (H : Heap) : evalT Tryd.prog h (k + 1) (.fn 9) [x0] H = finishO Tryd.prog Tryd.f9.results.toList (evalCode Tryd.prog (cxF Tryd.prog h k 9) (Tryd.f9.body.getD .skip) (fillArgs (fr 13 []) 0 [x0]) H) := evalT_fn 13 Tryd.func9 rfl (by decide) rfl
theorem ev10 (h : Hints) (k : Nat) (x0 : AV) (H : Heap) : evalT Tryd.prog h (k + 1) (.fn 10) [x0] H = finishO Tryd.prog Tryd.f10.results.toList (evalCode Tryd.prog (cxF Tryd.prog h k 10) (Tryd.f10.body.getD .skip) (fillArgs (fr 22 []) 0 [x0]) H) := evalT_fn 22 Tryd.func10 rfl (by decide) rfl
theorem fa25_0 (x : AV) : fieldAddrA Tryd.prog 25 x 0 = addrPlus x 0 := by kernel_rfl
theorem fa25_1 (x : AV) : fieldAddrA Tryd.prog 25 x 1 = addrPlus x 1 := by kernel_rfl
theorem bd25_0_1 (a0 a1 : IV) : buildA Tryd.prog 25 [(0, .c a0), (1, .c a1)] = some (.agg [.c a0, .c a1, .c (.slice [] 0 true (some 0)), .c (.slice [] 0 true (some 0))]) := by kernel_rfl
theorem ap22 (H : Heap) (s x : AV) : appendA Tryd.prog H 22 s x = apO 34 5 40 s H (srcOf H 5 x) := by kernel_rfl
theorem ap23 (H : Heap) (s x : AV) : appendA Tryd.prog H 23 s x = apO 3 1 8 s H (srcOf H 1 x) := by kernel_rfl
theorem ev11 (h : Hints) (k : Nat) (x0 : AV) (H : Heap) : evalT Tryd.prog h (k + 1) (.fn 11) [x0] H = finishO Tryd.prog Tryd.f11.results.toList (evalCode Tryd.prog (cxF Tryd.prog h k 11) (Tryd.f11.body.getD .skip) (fillArgs (fr 76 []) 0 [x0]) H) := evalT_fn 76 Tryd.func11 rfl (by decide) rfl
theorem dr11_11 : drawFact Tryd.f11 11 [0, 0, 2, 6, 15, 31, 0, 127, 255, 511, 511, 0, 3071, 8191] = true := by kernel_rfl
theorem sl22 (H : Heap) (x : AV) (lo hi : Option AV) : sliceA Tryd.prog H 22 x lo hi none = sliceO H 5 x lo hi := by kernel_rfl
theorem dr11_17 : drawFact Tryd.f11 17 [0, 1, 0, 4, 0, 0, 32, 96, 255, 511, 1023] = true := by kernel_rfl
theorem ev12 (h : Hints) (k : Nat) (x0 x1 : AV) (H : Heap) : evalT Tryd.prog h (k + 1) (.fn 12) [x0, x1] H = finishO Tryd.prog Tryd.f12.results.toList (evalCode Tryd.prog (cxF Tryd.prog h k 12) (Tryd.f12.body.getD .skip) (fillArgs (fr 73 []) 0 [x0, x1]) H) := evalT_fn 73 Tryd.func12 rfl (by decide) rfl
theorem ln23 (cells : List IV) (n : Nat) (nl : Bool) (cap : Option Nat) : lenA Tryd.prog 23 (.c (.slice cells n nl cap)) = some (.c (.int .i64 n)) := by kernel_rfl
theorem lnh23 (id off n ext sz : Nat) : lenA Tryd.prog 23 (.hsl id off n ext sz) = some (.c (.int .i64 n)) := by kernel_rfl
theorem dr12_6 : drawFact Tryd.f12 6 [0, 1, 0, 7, 15, 0, 32, 0, 224, 480, 1023] = true := by kernel_rfl
theorem ia23 (H : Heap) (cells : List IV) (len : Nat) (nl : Bool) (cap : Option Nat) (k : IntKind) (i : Int) : indexAddrA Tryd.prog H 23 (.c (.slice cells len nl cap)) (.c (.int k i)) = if 0 ≤ i ∧ i < len then some (.c (.iptr cells (i.toNat * 1))) else none := by kernel_rfl
theorem iah23 (H : Heap) (id off len ext sz : Nat) (k : IntKind) (i : Int) : indexAddrA Tryd.prog H 23 (.hsl id off len ext sz) (.c (.int k i)) = if 0 ≤ i ∧ i < len ∧ sz = 1 ∧ (rowOf H id ext).isSome = true then some (.eptr id (off + i.toNat * 1) ext) else none := by kernel_rfl
theorem dr12_11 : drawFact Tryd.f12 11 [0, 1, 0, 7, 15, 0, 32, 0, 224, 480, 1023] = true := by kernel_rfl
theorem ev13 (h : Hints) (k : Nat) (x0 : AV) (H : Heap) : evalT Tryd.prog h (k + 1) (.fn 13) [x0] H = finishO Tryd.prog Tryd.f13.results.toList (evalCode Tryd.prog (cxF Tryd.prog h k 13) (Tryd.f13.body.getD .skip) (fillArgs (fr 12 []) 0 [x0]) H) := evalT_fn 12 Tryd.func13 rfl (by decide) rfl
theorem ev14 (h : Hints) (k : Nat) (x0 : AV) (H : Heap) : evalT Tryd.prog h (k + 1) (.fn 14) [x0] H = finishO Tryd.prog Tryd.f14.results.toList (evalCode Tryd.prog (cxF Tryd.prog h k 14) (Tryd.f14.body.getD .skip) (fillArgs (fr 58 []) 0 [x0]) H) := evalT_fn 58 Tryd.func14 rfl (by decide) rfl
theorem dr14_10 : drawFact Tryd.f14 10 [0, 1, 0, 4, 15, 31, 0, 127, 255, 511, 511, 0, 3071, 8191] = true := by kernel_rfl
theorem ev15 (h : Hints) (k : Nat) (x0 x1 x2 x3 : AV) (H : Heap) : evalT Tryd.prog h (k + 1) (.fn 15) [x0, x1, x2, x3] H = finishO Tryd.prog Tryd.f15.results.toList (evalCode Tryd.prog (cxF Tryd.prog h k 15) (Tryd.f15.body.getD .skip) (fillArgs (fr 14 []) 0 [x0, x1, x2, x3]) H) := evalT_fn 14 Tryd.func15 rfl (by decide) rfl
theorem bd34_0_1_2_4 (a0 a1 a2 a3 : IV) : buildA Tryd.prog 34 [(0, .c a0), (1, .c a1), (2, .c a2), (4, .c a3)] = some (.agg [.c a0, .c a1, .c a2, .c (.int .i64 0), .c a3]) := by kernel_rfl
theorem ev16 (h : Hints) (k : Nat) (x0 : AV) (H : Heap) : evalT Tryd.prog h (k + 1) (.fn 16) [x0] H = finishO Tryd.prog Tryd.f16.results.toList (evalCode Tryd.prog (cxF Tryd.prog h k 16) (Tryd.f16.body.getD .skip) (fillArgs (fr 15 []) 0 [x0]) H) := evalT_fn 15 Tryd.func16 rfl (by decide) rfl
theorem dr16_4 : drawFact Tryd.f16 4 [0, 0, 0, 6, 1, 31] = true := by kernel_rfl
theorem ev17 (h : Hints) (k : Nat) (x0 x1 : AV) (H : Heap) : evalT Tryd.prog h (k + 1) (.fn 17) [x0, x1] H = finishO Tryd.prog Tryd.f17.results.toList (evalCode Tryd.prog (cxF Tryd.prog h k 17) (Tryd.f17.body.getD .skip) (fillArgs (fr 32 []) 0 [x0, x1]) H) := evalT_fn 32 Tryd.func17 rfl (by decide) rfl
theorem dr17_1 : drawFact Tryd.f17 1 [0, 1, 3, 7, 15, 31, 63, 127, 255, 511, 1023, 511, 4095, 8191, 16383, 32767, 65535, 32767, 262143, 524287] = true := by kernel_rfl
theorem ev18 (h : Hints) (k : Nat) (x0 x1 : AV) (H : Heap) : evalT Tryd.prog h (k + 1) (.fn 18) [x0, x1] H = finishO Tryd.prog Tryd.f18.results.toList (evalCode Tryd.prog (cxF Tryd.prog h k 18) (Tryd.f18.body.getD .skip) (fillArgs (fr 100 []) 0 [x0, x1]) H) := evalT_fn 100 Tryd.func18 rfl (by decide) rfl
theorem fa34_3 (x : AV) : fieldAddrA Tryd.prog 34 x 3 = addrPlus x 3 := by kernel_rfl
theorem fa34_4 (x : AV) : fieldAddrA Tryd.prog 34 x 4 = addrPlus x 4 := by kernel_rfl
theorem ev19 (h : Hints) (k : Nat) (x0 : AV) (H : Heap) : evalT Tryd.prog h (k + 1) (.fn 19) [x0] H = finishO Tryd.prog Tryd.f19.results.toList (evalCode Tryd.prog (cxF Tryd.prog h k 19) (Tryd.f19.body.getD .skip) (fillArgs (fr 89 []) 0 [x0]) H) := evalT_fn 89 Tryd.func19 rfl (by decide) rfl
theorem bd34_0_1_2 (a0 a1 a2 : IV) : buildA Tryd.prog 34 [(0, .c a0), (1, .c a1), (2, .c a2)] = some (.agg [.c a0, .c a1, .c a2, .c (.int .i64 0), .c (.int .i64 0)]) := by kernel_rfl
theorem dr19_7 : drawFact Tryd.f19 7 [0, 1, 0, 4, 0, 16, 48, 127, 255] = true := by kernel_rfl
theorem dr19_9 : drawFact Tryd.f19 9 [0, 1, 0, 4, 0, 16, 48, 127, 255] = true := by kernel_rfl
theorem ev20 (h : Hints) (k : Nat) (x0 x1 : AV) (H : Heap) : evalT Tryd.prog h (k + 1) (.fn 20) [x0, x1] H = finishO Tryd.prog Tryd.f20.results.toList (evalCode Tryd.prog (cxF Tryd.prog h k 20) (Tryd.f20.body.getD .skip) (fillArgs (fr 337 []) 0 [x0, x1]) H) := evalT_fn 337 Tryd.func20 rfl (by decide) rfl
theorem dr20_3 : drawFact Tryd.f20 3 [0, 1, 0, 4, 3, 31] = true := by kernel_rfl
theorem dr20_17 : drawFact Tryd.f20 17 [0, 0, 0, 0, 12, 31, 63, 63, 255, 511] = true := by kernel_rfl
theorem dr20_19 : drawFact Tryd.f20 19 [0, 0, 0, 0, 12, 31, 63, 63, 255, 511] = true := by kernel_rfl
theorem ev21 (h : Hints) (k : Nat) (x0 : AV) (H : Heap) : evalT Tryd.prog h (k + 1) (.fn 21) [x0] H = finishO Tryd.prog Tryd.f21.results.toList (evalCode Tryd.prog (cxF Tryd.prog h k 21) (Tryd.f21.body.getD .skip) (fillArgs (fr 51 []) 0 [x0]) H) := evalT_fn 51 Tryd.func21 rfl (by decide) rfl
theorem ldp47 (H : Heap) (id off : Nat) : loadA Tryd.prog H 47 (.ptr id off) = cellsAt H[id]? off 5 := by kernel_rfl
theorem ldi47 (H : Heap) (cells : List IV) (off : Nat) : loadA Tryd.prog H 47 (.c (.iptr cells off)) = (takeCells cells off 5).map fun l => .agg (l.map .c) := by kernel_rfl
theorem lde47 (H : Heap) (id off ext : Nat) : loadA Tryd.prog H 47 (.eptr id off ext) = (rowOf H id ext).bind fun r => (takeCells r.2 off 5).map fun l => .agg (l.map .c) := by kernel_rfl
theorem fa47_0 (x : AV) : fieldAddrA Tryd.prog 47 x 0 = addrPlus x 0 := by kernel_rfl
theorem fa47_4 (x : AV) : fieldAddrA Tryd.prog 47 x 4 = addrPlus x 4 := by kernel_rfl
theorem fa47_1 (x : AV) : fieldAddrA Tryd.prog 47 x 1 = addrPlus x 1 := by kernel_rfl
theorem ev22 (h : Hints) (k : Nat) (x0 x1 : AV) (H : Heap) : evalT Tryd.prog h (k + 1) (.fn 22) [x0, x1] H = finishO Tryd.prog Tryd.f22.results.toList (evalCode Tryd.prog (cxF Tryd.prog h k 22) (Tryd.f22.body.getD .skip) (fillArgs (fr 31 []) 0 [x0, x1]) H) := evalT_fn 31 Tryd.func22 rfl (by decide) rfl
theorem ev23 (h : Hints) (k : Nat) (x0 : AV) (H : Heap) : evalT Tryd.prog h (k + 1) (.fn 23) [x0] H = finishO Tryd.prog Tryd.f23.results.toList (evalCode Tryd.prog (cxF Tryd.prog h k 23) (Tryd.f23.body.getD .skip) (fillArgs (fr 72 []) 0 [x0]) H) := evalT_fn 72 Tryd.func23 rfl (by decide) rfl
theorem ev27 (h : Hints) (k : Nat) (x0 x1 : AV) (H : Heap) : evalT Tryd.prog h (k + 1) (.fn 27) [x0, x1] H = finishO Tryd.prog Tryd.f27.results.toList (evalCode Tryd.prog (cxF Tryd.prog h k 27) (Tryd.f27.body.getD .skip) (fillArgs (fr 26 []) 0 [x0, x1]) H) := evalT_fn 26 Tryd.func27 rfl (by decide) rfl
theorem dr27_6 : drawFact Tryd.f27 6 [0, 0, 3, 7, 0, 0, 48, 112, 255] = true := by kernel_rfl
theorem ev28 (h : Hints) (k : Nat) (x0 : AV) (H : Heap) : evalT Tryd.prog h (k + 1) (.fn 28) [x0] H = finishO Tryd.prog Tryd.f28.results.toList (evalCode Tryd.prog (cxF Tryd.prog h k 28) (Tryd.f28.body.getD .skip) (fillArgs (fr 68 []) 0 [x0]) H) := evalT_fn 68 Tryd.func28 rfl (by decide) rfl
theorem ev29 (h : Hints) (k : Nat) (x0 x1 : AV) (H : Heap) : evalT Tryd.prog h (k + 1) (.fn 29) [x0, x1] H = finishO Tryd.prog Tryd.f29.results.toList (evalCode Tryd.prog (cxF Tryd.prog h k 29) (Tryd.f29.body.getD .skip) (fillArgs (fr 56 []) 0 [x0, x1]) H) := evalT_fn 56 Tryd.func29 rfl (by decide) rfl
theorem ev30 (h : Hints) (k : Nat) (x0 : AV) (H : Heap) : evalT Tryd.prog h (k + 1) (.fn 30) [x0] H = finishO Tryd.prog Tryd.f30.results.toList (evalCode Tryd.prog (cxF Tryd.prog h k 30) (Tryd.f30.body.getD .skip) (fillArgs (fr 8 []) 0 [x0]) H) := evalT_fn 8 Tryd.func30 rfl (by decide) rfl
theorem eqs23 (H : Heap) (cells : List IV) (len : Nat) (nl : Bool) (cap cap2 : Option Nat) : binA Tryd.prog H .eql 23 (.c (.slice cells len nl cap)) (.c (.slice [] 0 true cap2)) = some (.c (.bool (nl))) := by kernel_rfl
theorem bs23_0_ (H : Heap) : buildSliceA Tryd.prog H 23 0 [] = some (.hsl H.length 0 0 (0 * 1) 1, H ++ [.row false 3 []]) := by kernel_rfl
theorem ev31 (h : Hints) (k : Nat) (x0 : AV) (H : Heap) : evalT Tryd.prog h (k + 1) (.fn 31) [x0] H = finishO Tryd.prog Tryd.f31.results.toList (evalCode Tryd.prog (cxF Tryd.prog h k 31) (Tryd.f31.body.getD .skip) (fillArgs (fr 79 []) 0 [x0]) H) := evalT_fn 79 Tryd.func31 rfl (by decide) rfl
theorem dr31_6 : drawFact Tryd.f31 6 [0, 1, 0, 7, 15, 31, 63, 127, 255, 127, 1023, 2047, 127, 4223, 16383, 32767] = true := by kernel_rfl
theorem dr31_11 : drawFact Tryd.f31 11 [0, 1, 0, 7, 15, 0, 32, 127, 255] = true := by kernel_rfl
theorem ev32 (h : Hints) (k : Nat) (x0 : AV) (H : Heap) : evalT Tryd.prog h (k + 1) (.fn 32) [x0] H = finishO Tryd.prog Tryd.f32.results.toList (evalCode Tryd.prog (cxF Tryd.prog h k 32) (Tryd.f32.body.getD .skip) (fillArgs (fr 13 []) 0 [x0]) H) := evalT_fn 13 Tryd.func32 rfl (by decide) rfl
theorem ev33 (h : Hints) (k : Nat) (x0 : AV) (H : Heap) : evalT Tryd.prog h (k + 1) (.fn 33) [x0] H = finishO Tryd.prog Tryd.f33.results.toList (evalCode Tryd.prog (cxF Tryd.prog h k 33) (Tryd.f33.body.getD .skip) (fillArgs (fr 15 []) 0 [x0]) H) := evalT_fn 15 Tryd.func33 rfl (by decide) rfl
theorem ev34 (h : Hints) (k : Nat) (x0 : AV) (H : Heap) : evalT Tryd.prog h (k + 1) (.fn 34) [x0] H = finishO Tryd.prog Tryd.f34.results.toList (evalCode Tryd.prog (cxF Tryd.prog h k 34) (Tryd.f34.body.getD .skip) (fillArgs (fr 16 []) 0 [x0]) H) := evalT_fn 16 Tryd.func34 rfl (by decide) rfl
theorem ev35 (h : Hints) (k : Nat) (x0 x1 x2 x3 : AV) (H : Heap) : evalT Tryd.prog h (k + 1) (.fn 35) [x0, x1, x2, x3] H = finishO Tryd.prog Tryd.f35.results.toList (evalCode Tryd.prog (cxF Tryd.prog h k 35) (Tryd.f35.body.getD .skip) (fillArgs (fr 18 []) 0 [x0, x1, x2, x3]) H) := evalT_fn 18 Tryd.func35 rfl (by decide) rfl
theorem ev36 (h : Hints) (k : Nat) (x0 : AV) (H : Heap) : evalT Tryd.prog h (k + 1) (.fn 36) [x0] H = finishO Tryd.prog Tryd.f36.results.toList (evalCode Tryd.prog (cxF Tryd.prog h k 36) (Tryd.f36.body.getD .skip) (fillArgs (fr 9 []) 0 [x0]) H) := evalT_fn 9 Tryd.func36 rfl (by decide) rfl
theorem ev37 (h : Hints) (k : Nat) (x0 : AV) (H : Heap) : evalT Tryd.prog h (k + 1) (.fn 37) [x0] H = finishO Tryd.prog Tryd.f37.results.toList (evalCode Tryd.prog (cxF Tryd.prog h k 37) (Tryd.f37.body.getD .skip) (fillArgs (fr 12 []) 0 [x0]) H) := evalT_fn 12 Tryd.func37 rfl (by decide) rfl
theorem ev38 (h : Hints) (k : Nat) (x0 x1 : AV) (H : Heap) : evalT Tryd.prog h (k + 1) (.fn 38) [x0, x1] H = finishO Tryd.prog Tryd.f38.results.toList (evalCode Tryd.prog (cxF Tryd.prog h k 38) (Tryd.f38.body.getD .skip) (fillArgs (fr 26 []) 0 [x0, x1]) H) := evalT_fn 26 Tryd.func38 rfl (by decide) rfl
theorem dr38_6 : drawFact Tryd.f38 6 [0, 0, 3, 7, 0, 0, 48, 112, 255] = true := by kernel_rfl
theorem ev39 (h : Hints) (k : Nat) (x0 x1 : AV) (H : Heap) : evalT Tryd.prog h (k + 1) (.fn 39) [x0, x1] H = finishO Tryd.prog Tryd.f39.results.toList (evalCode Tryd.prog (cxF Tryd.prog h k 39) (Tryd.f39.body.getD .skip) (fillArgs (fr 57 []) 0 [x0, x1]) H) := evalT_fn 57 Tryd.func39 rfl (by decide) rfl
theorem ev48 (h : Hints) (k : Nat) (x0 : AV) (H : Heap) : evalT Tryd.prog h (k + 1) (.fn 48) [x0] H = finishO Tryd.prog Tryd.f48.results.toList (evalCode Tryd.prog (cxF Tryd.prog h k 48) (Tryd.f48.body.getD .skip) (fillArgs (fr 16 []) 0 [x0]) H) := evalT_fn 16 Tryd.func48 rfl (by decide) rfl
theorem cv3_97 (k : IntKind) (n : Int) : convA Tryd.prog 3 97 (.c (.int k n)) = some (.c (.int .u64 (IntKind.wrap .u64 n))) := by kernel_rfl
theorem ev49 (h : Hints) (k : Nat) (x0 x1 x2 x3 : AV) (H : Heap) : evalT Tryd.prog h (k + 1) (.fn 49) [x0, x1, x2, x3] H = finishO Tryd.prog Tryd.f49.results.toList (evalCode Tryd.prog (cxF Tryd.prog h k 49) (Tryd.f49.body.getD .skip) (fillArgs (fr 14 []) 0 [x0, x1, x2, x3]) H) := evalT_fn 14 Tryd.func49 rfl (by decide) rfl
theorem ev50 (h : Hints) (k : Nat) (x0 x1 x2 x3 : AV) (H : Heap) : evalT Tryd.prog h (k + 1) (.fn 50) [x0, x1, x2, x3] H = finishO Tryd.prog Tryd.f50.results.toList (evalCode Tryd.prog (cxF Tryd.prog h k 50) (Tryd.f50.body.getD .skip) (fillArgs (fr 135 []) 0 [x0, x1, x2, x3]) H) := evalT_fn 135 Tryd.func50 rfl (by decide) rfl
theorem dr50_19 : drawFact Tryd.f50 19 [0, 0, 3, 0, 15, 31] = true := by kernel_rfl
theorem dr50_21 : drawFact Tryd.f50 21 [0, 0, 3, 0, 15, 31] = true := by kernel_rfl
theorem ev51 (h : Hints) (k : Nat) (x0 : AV) (H : Heap) : evalT Tryd.prog h (k + 1) (.fn 51) [x0] H = finishO Tryd.prog Tryd.f51.results.toList (evalCode Tryd.prog (cxF Tryd.prog h k 51) (Tryd.f51.body.getD .skip) (fillArgs (fr 9 []) 0 [x0]) H) := evalT_fn 9 Tryd.func51 rfl (by decide) rfl
theorem ev52 (h : Hints) (k : Nat) (x0 : AV) (H : Heap) : evalT Tryd.prog h (k + 1) (.fn 52) [x0] H = finishO Tryd.prog Tryd.f52.results.toList (evalCode Tryd.prog (cxF Tryd.prog h k 52) (Tryd.f52.body.getD .skip) (fillArgs (fr 35 []) 0 [x0]) H) := evalT_fn 35 Tryd.func52 rfl (by decide) rfl
theorem ev53 (h : Hints) (k : Nat) (x0 : AV) (H : Heap) : evalT Tryd.prog h (k + 1) (.fn 53) [x0] H = finishO Tryd.prog Tryd.f53.results.toList (evalCode Tryd.prog (cxF Tryd.prog h k 53) (Tryd.f53.body.getD .skip) (fillArgs (fr 23 []) 0 [x0]) H) := evalT_fn 23 Tryd.func53 rfl (by decide) rfl
theorem bs23_2_0_1 (H : Heap) (a0 a1 : IV) : buildSliceA Tryd.prog H 23 2 [(0, .c a0), (1, .c a1)] = some (.hsl H.length 0 2 (2 * 1) 1, H ++ [.row false 3 [a0, a1]]) := by kernel_rfl
theorem ev64 (h : Hints) (k : Nat) (x0 : AV) (H : Heap) : evalT Tryd.prog h (k + 1) (.fn 64) [x0] H = finishO Tryd.prog Tryd.f64.results.toList (evalCode Tryd.prog (cxF Tryd.prog h k 64) (Tryd.f64.body.getD .skip) (fillArgs (fr 8 []) 0 [x0]) H) := evalT_fn 8 Tryd.func64 rfl (by decide) rfl
theorem cv97_96 (k : IntKind) (n : Int) : convA Tryd.prog 97 96 (.c (.int k n)) = some (.c (.int .u32 (IntKind.wrap .u32 n))) := by kernel_rfl
theorem ev65 (h : Hints) (k : Nat) (x0 : AV) (H : Heap) : evalT Tryd.prog h (k + 1) (.fn 65) [x0] H = finishO Tryd.prog Tryd.f65.results.toList (evalCode Tryd.prog (cxF Tryd.prog h k 65) (Tryd.f65.body.getD .skip) (fillArgs (fr 9 []) 0 [x0]) H) := evalT_fn 9 Tryd.func65 rfl (by decide) rfl
theorem ev75 (h : Hints) (k : Nat) (x0 : AV) (H : Heap) : evalT Tryd.prog h (k + 1) (.fn 75) [x0] H = finishO Tryd.prog Tryd.f75.results.toList (evalCode Tryd.prog (cxF Tryd.prog h k 75) (Tryd.f75.body.getD .skip) (fillArgs (fr 14 []) 0 [x0]) H) := evalT_fn 14 Tryd.func75 rfl (by decide) rfl
theorem iaa115 (H : Heap) (x : AV) (k : IntKind) (i : Int) : indexAddrA Tryd.prog H 115 x (.c (.int k i)) = if 0 ≤ i ∧ i < (32 : Nat) then addrPlus x (i.toNat * 1) else none := by kernel_rfl
theorem ag5 : isAggT Tryd.prog 5 = some false := by kernel_rfl
theorem sz5 : sizeT Tryd.prog 5 = some 1 := by kernel_rfl
theorem ldp5 (H : Heap) (id off : Nat) : loadA Tryd.prog H 5 (.ptr id off) = cellAt H[id]? off := by kernel_rfl
theorem ldi5 (H : Heap) (cells : List IV) (off : Nat) : loadA Tryd.prog H 5 (.c (.iptr cells off)) = (cells[off]?).map .c := by kernel_rfl
theorem lde5 (H : Heap) (id off ext : Nat) : loadA Tryd.prog H 5 (.eptr id off ext) = (rowOf H id ext).bind fun r => (r.2[off]?).map .c := by kernel_rfl
theorem cv5_3 (k : IntKind) (n : Int) : convA Tryd.prog 5 3 (.c (.int k n)) = some (.c (.int .i64 (IntKind.wrap .i64 n))) := by kernel_rfl
theorem ev76 (h : Hints) (k : Nat) (x0 : AV) (H : Heap) : evalT Tryd.prog h (k + 1) (.fn 76) [x0] H = finishO Tryd.prog Tryd.f76.results.toList (evalCode Tryd.prog (cxF Tryd.prog h k 76) (Tryd.f76.body.getD .skip) (fillArgs (fr 14 []) 0 [x0]) H) := evalT_fn 14 Tryd.func76 rfl (by decide) rfl
theorem iaa116 (H : Heap) (x : AV) (k : IntKind) (i : Int) : indexAddrA Tryd.prog H 116 x (.c (.int k i)) = if 0 ≤ i ∧ i < (64 : Nat) then addrPlus x (i.toNat * 1) else none := by kernel_rfl
def tab : Tab := ⟨[(3, 14, 58, [1, 3, 4, 43, 44]), (6, 11, 126, [1, 3, 37, 38, 39]), (11, 6, 76, [1, 2, 6, 22, 23, 24]), (11, 9, 76, [1, 2, 6, 9, 22, 23, 24]), (12, 4, 73, [2, 3, 5]), (12, 9, 73, [2, 3, 6]), (14, 4, 58, [1, 2, 3, 4]), (14, 7, 58, [1, 2, 3, 4, 5]), (21, 5, 51, [2, 4, 12, 13, 14]), (23, 4, 72, [1, 42, 43, 44]), (23, 10, 72, [1, 58, 59, 60]), (27, 4, 26, [0, 1, 12, 13]), (31, 4, 79, [1, 4]), (31, 9, 79, [1, 5]), (34, 2, 16, [0, 3, 4]), (38, 4, 26, [0, 1, 12, 13]), (39, 4, 57, [1, 43, 44, 45])], [(3, 6, 1), (11, 17, 7)]⟩
theorem keeps_tab : tab.keeps = [(3, 6, 1), (11, 17, 7)] := by simp [tab]
theorem lp3_14 : (tab.loops.find? fun e => e.1 == 3 && e.2.1 == 14) = some (3, 14, 58, [1, 3, 4, 43, 44]) := by rfl
theorem lp6_11 : (tab.loops.find? fun e => e.1 == 6 && e.2.1 == 11) = some (6, 11, 126, [1, 3, 37, 38, 39]) := by rfl
theorem lp11_6 : (tab.loops.find? fun e => e.1 == 11 && e.2.1 == 6) = some (11, 6, 76, [1, 2, 6, 22, 23, 24]) := by rfl
theorem lp11_9 : (tab.loops.find? fun e => e.1 == 11 && e.2.1 == 9) = some (11, 9, 76, [1, 2, 6, 9, 22, 23, 24]) := by rfl
theorem lp12_4 : (tab.loops.find? fun e => e.1 == 12 && e.2.1 == 4) = some (12, 4, 73, [2, 3, 5]) := by rfl
theorem lp12_9 : (tab.loops.find? fun e => e.1 == 12 && e.2.1 == 9) = some (12, 9, 73, [2, 3, 6]) := by rfl
theorem lp14_4 : (tab.loops.find? fun e => e.1 == 14 && e.2.1 == 4) = some (14, 4, 58, [1, 2, 3, 4]) := by rfl
theorem lp14_7 : (tab.loops.find? fun e => e.1 == 14 && e.2.1 == 7) = some (14, 7, 58, [1, 2, 3, 4, 5]) := by rfl
theorem lp21_5 : (tab.loops.find? fun e => e.1 == 21 && e.2.1 == 5) = some (21, 5, 51, [2, 4, 12, 13, 14]) := by rfl
theorem lp23_4 : (tab.loops.find? fun e => e.1 == 23 && e.2.1 == 4) = some (23, 4, 72, [1, 42, 43, 44]) := by rfl
theorem lp23_10 : (tab.loops.find? fun e => e.1 == 23 && e.2.1 == 10) = some (23, 10, 72, [1, 58, 59, 60]) := by rfl
theorem lp27_4 : (tab.loops.find? fun e => e.1 == 27 && e.2.1 == 4) = some (27, 4, 26, [0, 1, 12, 13]) := by rfl
theorem lp31_4 : (tab.loops.find? fun e => e.1 == 31 && e.2.1 == 4) = some (31, 4, 79, [1, 4]) := by rfl
theorem lp31_9 : (tab.loops.find? fun e => e.1 == 31 && e.2.1 == 9) = some (31, 9, 79, [1, 5]) := by rfl
theorem lp34_2 : (tab.loops.find? fun e => e.1 == 34 && e.2.1 == 2) = some (34, 2, 16, [0, 3, 4]) := by rfl
theorem lp38_4 : (tab.loops.find? fun e => e.1 == 38 && e.2.1 == 4) = some (38, 4, 26, [0, 1, 12, 13]) := by rfl
theorem lp39_4 : (tab.loops.find? fun e => e.1 == 39 && e.2.1 == 4) = some (39, 4, 57, [1, 43, 44, 45]) := by rfl
theorem FACTS : type_of% (And.intro (And.intro (And.intro (And.intro (And.intro (And.intro @keeps_tab @ldp25) (And.intro @ldi25 @lde25)) (And.intro (And.intro @al25 @bd25_) (And.intro @fa25_2 (And.intro @ldp22 @ldi22)))) (And.intro (And.intro (And.intro @lde22 @ln22) (And.intro @lnh22 @ia22)) (And.intro (And.intro @iah22 @fa34_1) (And.intro @fa25_3 (And.intro @ldp23 @ldi23))))) (And.intro (And.intro (And.intro (And.intro @lde23 @ldp34) (And.intro @ldi34 @lde34)) (And.intro (And.intro @al34 @bd34_) (And.intro @ne34 (And.intro @neb4 @eq34)))) (And.intro (And.intro (And.intro @eqb4 @fa34_0) (And.intro @ldp3 (And.intro @ldi3 @lde3))) (And.intro (And.intro @fa34_2 @al47) (And.intro @fa47_2 (And.intro @fa47_3 @bs22_4_0_1_2_3)))))) (And.intro (And.intro (And.intro (And.intro (And.intro @bs23_1_0 @bd25_0_1_2_3_h1) (And.intro @bd25_0_1_2_3_h2 @bd25_0_1_2_3_h3)) (And.intro (And.intro @bd25_0_1_2_3 @bs22_1_0) (And.intro @fa25_0 (And.intro @fa25_1 @bd25_0_1)))) (And.intro (And.intro (And.intro @ap22 @ap23) (And.intro @sl22 @ln23)) (And.intro (And.intro @lnh23 @ia23) (And.intro @iah23 (And.intro @bd34_0_1_2_4 @fa34_3))))) (And.intro (And.intro (And.intro (And.intro @fa34_4 @bd34_0_1_2) (And.intro @ldp47 @ldi47)) (And.intro (And.intro @lde47 @fa47_0) (And.intro @fa47_4 (And.intro @fa47_1 @eqs23)))) (And.intro (And.intro (And.intro @bs23_0_ @cv3_97) (And.intro @bs23_2_0_1 (And.intro @cv97_96 @iaa115))) (And.intro (And.intro @ldp5 @ldi5) (And.intro @lde5 (And.intro @cv5_3 @iaa116))))))) :=
  (And.intro (And.intro (And.intro (And.intro (And.intro (And.intro @keeps_tab @ldp25) (And.intro @ldi25 @lde25)) (And.intro (And.intro @al25 @bd25_) (And.intro @fa25_2 (And.intro @ldp22 @ldi22)))) (And.intro (And.intro (And.intro @lde22 @ln22) (And.intro @lnh22 @ia22)) (And.intro (And.intro @iah22 @fa34_1) (And.intro @fa25_3 (And.intro @ldp23 @ldi23))))) (And.intro (And.intro (And.intro (And.intro @lde23 @ldp34) (And.intro @ldi34 @lde34)) (And.intro (And.intro @al34 @bd34_) (And.intro @ne34 (And.intro @neb4 @eq34)))) (And.intro (And.intro (And.intro @eqb4 @fa34_0) (And.intro @ldp3 (And.intro @ldi3 @lde3))) (And.intro (And.intro @fa34_2 @al47) (And.intro @fa47_2 (And.intro @fa47_3 @bs22_4_0_1_2_3)))))) (And.intro (And.intro (And.intro (And.intro (And.intro @bs23_1_0 @bd25_0_1_2_3_h1) (And.intro @bd25_0_1_2_3_h2 @bd25_0_1_2_3_h3)) (And.intro (And.intro @bd25_0_1_2_3 @bs22_1_0) (And.intro @fa25_0 (And.intro @fa25_1 @bd25_0_1)))) (And.intro (And.intro (And.intro @ap22 @ap23) (And.intro @sl22 @ln23)) (And.intro (And.intro @lnh23 @ia23) (And.intro @iah23 (And.intro @bd34_0_1_2_4 @fa34_3))))) (And.intro (And.intro (And.intro (And.intro @fa34_4 @bd34_0_1_2) (And.intro @ldp47 @ldi47)) (And.intro (And.intro @lde47 @fa47_0) (And.intro @fa47_4 (And.intro @fa47_1 @eqs23)))) (And.intro (And.intro (And.intro @bs23_0_ @cv3_97) (And.intro @bs23_2_0_1 (And.intro @cv97_96 @iaa115))) (And.intro (And.intro @ldp5 @ldi5) (And.intro @lde5 (And.intro @cv5_3 @iaa116)))))))
theorem TYPES : type_of% (And.intro (And.intro (And.intro @ag25 (And.intro @sz25 @ag22)) (And.intro (And.intro @sz22 @ag34) (And.intro @sz34 @ag3))) (And.intro (And.intro @sz3 (And.intro @ag23 @sz23)) (And.intro (And.intro @ag47 @sz47) (And.intro @ag5 @sz5)))) :=
  (And.intro (And.intro (And.intro @ag25 (And.intro @sz25 @ag22)) (And.intro (And.intro @sz22 @ag34) (And.intro @sz34 @ag3))) (And.intro (And.intro @sz3 (And.intro @ag23 @sz23)) (And.intro (And.intro @ag47 @sz47) (And.intro @ag5 @sz5))))
end Go.Proofs.F13
