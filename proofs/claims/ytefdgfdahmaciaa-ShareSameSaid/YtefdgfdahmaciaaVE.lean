/- A part of the proof: what functions of the program answer; conditions stand in each theorem. -/
import Derived.Test.YtefdgfdahmaciaaVD
import Derived.Test.YtefdgfdahmaciaaVC
set_option linter.unusedVariables false
set_option linter.unusedSimpArgs false
set_option linter.unusedSectionVars false
namespace Go.Proofs.Sw
open Go.Ab
variable [Globals]
theorem bd97h (a b : Nat) (x : IV) : buildA Try.prog 97 [(1, .hmap a), (2, .hmap b), (3, .c x)] = some (.agg [.c (.slice [] 0 true (some 0)), .hmap a, .hmap b, .c x]) := by kernel_rfl
theorem loop_newTable (kf : Nat) (ins regs : Int) (x2 x3 : IV) (nx : Int) (n : Nat) (hn : n ≤ 1000000) (k : Nat) (l : Ass) (z : Option Out) (hz : loopR Try.prog tab kf none LB63_3 63 32 [1, 3, 13, 14] 5 k l ([lo 3 0 (encInts (startM ins 0)), .cells 25 [ii ins, ii regs, .c x2, .c x3], .map 95 [], .map 95 [], .cells 97 [lv 0 1 0, .hmap 2, .hmap 3, ii nx]]) = z) (hk : n < k) (a1 : asc l 1 = .ptr 1 0) (a3 : asc l 3 = .ptr 4 0) (a13 : asc l 13 = ii n) (a14 : asc l 14 = ii 0) :
    ∃ l', z = some (.exit 0 (fr 32 l') ([lo 3 n (encInts (startM ins n)), .cells 25 [ii ins, ii regs, .c x2, .c x3], .map 95 [], .map 95 [], .cells 97 [lv 0 1 n, .hmap 2, .hmap 3, ii nx]])) ∧ asc l' 1 = .ptr 1 0 ∧ asc l' 3 = .ptr 4 0 ∧ asc l' 13 = ii n ∧ asc l' 14 = ii n := by
  subst hz
  refine loop_nat n (fun k l H => loopR Try.prog tab kf none LB63_3 63 32 [1, 3, 13, 14] 5 k l H)
    (fun i l H => asc l 1 = .ptr 1 0 ∧ asc l 3 = .ptr 4 0 ∧ asc l 13 = ii n ∧ asc l 14 = ii i ∧ ∃ G, H = ([lo 3 i (encInts (startM ins i)), .cells 25 [ii ins, ii regs, .c x2, .c x3], .map 95 [], .map 95 [], .cells 97 [lv 0 1 i, .hmap 2, .hmap 3, ii nx]]) ++ G)
    (fun z => ∃ l', z = some (.exit 0 (fr 32 l') ([lo 3 n (encInts (startM ins n)), .cells 25 [ii ins, ii regs, .c x2, .c x3], .map 95 [], .map 95 [], .cells 97 [lv 0 1 n, .hmap 2, .hmap 3, ii nx]])) ∧ asc l' 1 = .ptr 1 0 ∧ asc l' 3 = .ptr 4 0 ∧ asc l' 13 = ii n ∧ asc l' 14 = ii n) ?_ n 0 k l _ (by omega) hk ⟨a1, a3, a13, a14, [], by rw [List.append_nil]⟩
  clear hk a1 a3 a13 a14
  rintro i k l H hi ⟨a1, a3, a13, a14, G, rfl⟩
  have ht : trim 5 (fr 32 (keep l [1, 3, 13, 14])) (([lo 3 i (encInts (startM ins i)), .cells 25 [ii ins, ii regs, .c x2, .c x3], .map 95 [], .map 95 [], .cells 97 [lv 0 1 i, .hmap 2, .hmap 3, ii nx]]) ++ G) = ([lo 3 i (encInts (startM ins i)), .cells 25 [ii ins, ii regs, .c x2, .c x3], .map 95 [], .map 95 [], .cells 97 [lv 0 1 i, .hmap 2, .hmap 3, ii nx]]) := trim_app (by simp) (by simp only [a1, a3, a13, a14, EVb, EVc, Int.reduceEq, Int.reduceToNat, Int.reduceLE, Int.reduceLT, Int.reduceAdd, Int.reduceMul, Int.reduceSub, Int.reduceNeg, Nat.reduceAdd, Nat.reduceSub, Nat.reduceMul, Nat.reduceLT, Nat.reduceBEq, Nat.reduceEqDiff, Nat.reduceLeDiff]) (by simp only [EVb, EVc, Int.reduceEq, Int.reduceToNat, Int.reduceLE, Int.reduceLT, Int.reduceAdd, Int.reduceMul, Int.reduceSub, Int.reduceNeg, Nat.reduceAdd, Nat.reduceSub, Nat.reduceMul, Nat.reduceLT, Nat.reduceBEq, Nat.reduceEqDiff, Nat.reduceLeDiff])
  by_cases hc : i < n
  · have hc' : (i : Int) < ((n : Nat) : Int) := by omega
    have hc0 : (0 : Int) ≤ i := by omega
    have hw : IntKind.wrap .i64 ((i : Int) + 1) = ((i + 1 : Nat) : Int) := by rw [wrap64 (by omega) (by omega)]; omega
    have hap := fun X x => lo_length (e := 3) (n := i) (sz := 1) (by_ := 8) (cells := encInts (startM ins i)) (cs := [x]) (X := X) (Nat.le_trans (Nat.mul_le_mul_right 8 (show i + 1 ≤ 1000001 by omega)) (by decide)) (by decide) (by rw [encInts_length, startM_length, Nat.mul_one])
    simp only [loopR_succ, ht]
    simp only [a1, a3, a13, a14, hc', hc0, hw, loopR_succ, loopOf, findLoop, firstRegion, Option.some_or, Option.none_or, Option.getD_some, Option.some.injEq, Try.f63, FT, Int.reduceEq, Int.reduceToNat, Int.reduceLE, Int.reduceLT, Int.reduceAdd, Int.reduceMul, Int.reduceSub, Int.reduceNeg, Nat.reduceAdd, Nat.reduceSub, Nat.reduceMul, Nat.reduceLT, Nat.reduceBEq, Nat.reduceEqDiff, Nat.reduceLeDiff]
    rw [evalCode_drawn Try.f63 5 dr63_5]; rotate_left; rfl
    simp only [a1, a3, a13, a14, hc', hc0, hw, hap, EVd, List.getElem?_nil, Nat.reducePow, Nat.reduceDiv, Nat.reduceMod, FT, Int.reduceEq, Int.reduceToNat, Int.reduceLE, Int.reduceLT, Int.reduceAdd, Int.reduceMul, Int.reduceSub, Int.reduceNeg, Nat.reduceAdd, Nat.reduceSub, Nat.reduceMul, Nat.reduceLT, Nat.reduceBEq, Nat.reduceEqDiff, Nat.reduceLeDiff]
    refine .inr ⟨_, _, hc, rfl, (by rfl), (by rfl), (by rfl), (by rfl), ?_⟩
    rw [startM_succ, encInts_append]
    exact ⟨_, by rfl⟩
  · refine .inl ?_
    obtain rfl : i = n := by omega
    have hc' : ¬ (((i : Nat) : Int) < ((i : Nat) : Int)) := by omega
    simp only [loopR_succ, ht]
    simp only [a1, a3, a13, a14, hc', loopR_succ, loopOf, findLoop, firstRegion, Option.some_or, Option.none_or, Option.getD_some, Option.some.injEq, Try.f63, FT, Int.reduceEq, Int.reduceToNat, Int.reduceLE, Int.reduceLT, Int.reduceAdd, Int.reduceMul, Int.reduceSub, Int.reduceNeg, Nat.reduceAdd, Nat.reduceSub, Nat.reduceMul, Nat.reduceLT, Nat.reduceBEq, Nat.reduceEqDiff, Nat.reduceLeDiff]
    exact ⟨_, rfl, (by rfl), (by rfl), (by rfl), (by rfl)⟩
theorem newTable_ev (k : Nat) (ins : Int) (n : Nat) (x2 x3 : IV) (h1 : 0 < n) (hn : n ≤ 1000000) (hi0 : 0 ≤ ins) (hi1 : ins ≤ 1000000) (hk : n < k) :
    evalT Try.prog (mkHints tab) (k+1) (.fn 63) [.agg [ii ins, ii n, .c x2, .c x3]] [] = some (.ptr 4 0, [rI (startM ins n), .cells 25 [ii ins, ii n, .c x2, .c x3], .map 95 [], .map 95 [], .cells 97 [hI 0 (startM ins n).length, .hmap 2, .hmap 3, ii (ins + 1)]]) := by
  have hw : IntKind.wrap .i64 (ins + 1) = ins + 1 := wrap64 (by omega) (by omega)
  rw [ev63, startM_length]
  simp only [Try.f63, ii, hw, bd97h, FT, Int.reduceEq, Int.reduceToNat, Int.reduceLE, Int.reduceLT, Int.reduceAdd, Int.reduceMul, Int.reduceSub, Int.reduceNeg, Nat.reduceAdd, Nat.reduceSub, Nat.reduceMul, Nat.reduceLT, Nat.reduceBEq, Nat.reduceEqDiff, Nat.reduceLeDiff]
  rw [evalCode_loopB LB63_3 lp63_3]; rotate_left; rfl; rfl; rfl
  generalize hz : loopR _ _ _ _ _ _ _ _ _ _ _ _ = z
  obtain ⟨l', rfl, e1, e3, e4, e5⟩ := loop_newTable k ins n x2 x3 (ins + 1) n hn _ _ z hz hk (by rfl) (by rfl) (by rfl) (by rfl)
  simp only [e3, lv_pos (s := 0) (sz := 1) h1, lo_pos (e := 3) h1, FT, Int.reduceEq, Int.reduceToNat, Int.reduceLE, Int.reduceLT, Int.reduceAdd, Int.reduceMul, Int.reduceSub, Int.reduceNeg, Nat.reduceAdd, Nat.reduceSub, Nat.reduceMul, Nat.reduceLT, Nat.reduceBEq, Nat.reduceEqDiff, Nat.reduceLeDiff]
end Go.Proofs.Sw
namespace Go.Proofs.Sw
open Go.Ab
variable [Globals]
theorem reckonM_held (S : St) (n : Int) (i : Ins) : (reckonM S n i).2.2.held = S.held := by
  unfold reckonM
  split
  · rfl
  · split <;> rfl
theorem reckonM_next (S : St) (n : Int) (i : Ins) : S.next ≤ (reckonM S n i).2.2.next ∧ (reckonM S n i).2.2.next ≤ S.next + 1 := by
  unfold reckonM
  split
  · exact ⟨Int.le_refl _, by show S.next ≤ S.next + 1; omega⟩
  · split
    · exact ⟨Int.le_refl _, by show S.next ≤ S.next + 1; omega⟩
    · exact ⟨by show S.next ≤ S.next + 1; omega, Int.le_refl _⟩
theorem reckonM_keys (S : St) (n : Int) (i : Ins) : (reckonM S n i).2.2.keys.length ≤ S.keys.length + 1 ∧ S.keys.length ≤ (reckonM S n i).2.2.keys.length := by
  unfold reckonM
  split
  · exact ⟨Nat.le_succ _, Nat.le_refl _⟩
  · split
    · exact ⟨Nat.le_succ _, Nat.le_refl _⟩
    · simp
theorem reckonM_one {S : St} {n : Int} {i : Ins} (h : i.op = 1) : reckonM S n i = (S.held.getD i.a.toNat 0, -1, S) := if_pos h
end Go.Proofs.Sw
namespace Go.Proofs.Sw
open Go.Ab
variable [Globals]
abbrev startS (ins : Int) (n : Nat) : St := ⟨startM ins n, [], ins + 1⟩
theorem l14live_ev (k : Nat) : run (k+60) 13 [] = some (bb true) := by kernel_rfl
def long14 (p : Pg) : Bool := decide (150 < p.code.length) || decide (150 < p.outs.length)
theorem l14long_ev (k : Nat) (p : Pg) (nl : Bool) (cap : Option Nat) (nl2 : Bool) (cap2 : Option Nat) : run (k+1) 14 [aP p nl cap nl2 cap2] = some (bb (long14 p)) := by
  rw [run, ev14, ans_trim]
  by_cases h1 : (150 : Int) < p.code.length
  · have : 150 < p.code.length := by omega
    simp only [Try.f14, aP, ii, bb, h1, FT, Int.reduceEq, Int.reduceToNat, Int.reduceLE, Int.reduceLT, Int.reduceAdd, Int.reduceMul, Int.reduceSub, Int.reduceNeg, Nat.reduceAdd, Nat.reduceSub, Nat.reduceMul, Nat.reduceLT, Nat.reduceBEq, Nat.reduceEqDiff, Nat.reduceLeDiff]
    simp [long14, this]
  · have : ¬ 150 < p.code.length := by omega
    simp only [Try.f14, aP, ii, bb, h1, FT, Int.reduceEq, Int.reduceToNat, Int.reduceLE, Int.reduceLT, Int.reduceAdd, Int.reduceMul, Int.reduceSub, Int.reduceNeg, Nat.reduceAdd, Nat.reduceSub, Nat.reduceMul, Nat.reduceLT, Nat.reduceBEq, Nat.reduceEqDiff, Nat.reduceLeDiff]
    by_cases h2 : (150 : Int) < p.outs.length
    · have h3 : 150 < p.outs.length := by omega
      simp [long14, h2, h3]
    · have h3 : ¬ 150 < p.outs.length := by omega
      simp [long14, this, h2, h3]
end Go.Proofs.Sw
namespace Go.Proofs.Sw
open Go.Ab
variable [Globals]
def emitM (v : Int) (held : List Int) (x : Ins) : Ins := if 0 ≤ holdM v held 0 then ⟨1, x.to, holdM v held 0, 0, 0⟩ else askM held x
theorem askM_op (held : List Int) (x : Ins) : (askM held x).op = x.op := rfl
theorem askM_to (held : List Int) (x : Ins) : (askM held x).to = x.to := rfl
theorem askM_c (held : List Int) (x : Ins) : (askM held x).c = x.c := rfl
def passStep (q : St × List Ins) (n : Int) (x : Ins) : St × List Ins :=
  let r := reckonM q.1 n x
  if q.1.held.getD x.to.toNat 0 = r.1 then (r.2.2, q.2) else ({ r.2.2 with held := q.1.held.set x.to.toNat r.1 }, q.2 ++ [emitM r.1 q.1.held x])
def passAt (S0 : St) (code : List Ins) : Nat → St × List Ins
  | 0 => (S0, [])
  | i + 1 => match code[i]? with
    | some x => passStep (passAt S0 code i) i x
    | none => passAt S0 code i
theorem passAt_succ {S0 : St} {code : List Ins} {i : Nat} (h : i < code.length) : passAt S0 code (i + 1) = passStep (passAt S0 code i) i code[i] := by
  rw [passAt, List.getElem?_eq_getElem h]
theorem passAt_facts (S0 : St) (code : List Ins) : ∀ i, (passAt S0 code i).1.held.length = S0.held.length ∧ S0.next ≤ (passAt S0 code i).1.next ∧ (passAt S0 code i).1.next ≤ S0.next + i ∧ (passAt S0 code i).1.keys.length ≤ S0.keys.length + i ∧ (passAt S0 code i).2.length ≤ i
  | 0 => ⟨rfl, Int.le_refl _, by simp [passAt], Nat.le_refl _, Nat.le_refl _⟩
  | i + 1 => by
    obtain ⟨h1, h2, h3, h4, h5⟩ := passAt_facts S0 code i
    rw [passAt]
    split
    · rename_i x hx
      have h6 := reckonM_next (passAt S0 code i).1 i x
      have h7 := reckonM_keys (passAt S0 code i).1 i x
      have h8 := reckonM_held (passAt S0 code i).1 i x
      simp only [passStep]
      split
      · simp only [h8]
        exact ⟨h1, by omega, by omega, by omega, by omega⟩
      · simp only [List.length_set, List.length_append, List.length_cons, List.length_nil]
        exact ⟨h1, by omega, by omega, by omega, by omega⟩
    · exact ⟨h1, h2, by omega, by omega, by omega⟩
abbrev passS (ins : Int) (n : Nat) (code : List Ins) : St := (passAt (startS ins n) code code.length).1
abbrev passC (ins : Int) (n : Nat) (code : List Ins) : List Ins := (passAt (startS ins n) code code.length).2
def outsL (held outs : List Int) : List Int := outs.map fun r => holdM (held.getD r.toNat 0) held 0
def sharePg (ins : Int) (n : Nat) (code : List Ins) (outs : List Int) : Pg := ⟨ins, n, passC ins n code, outsL (passS ins n code).held outs⟩
abbrev codeO (l : List Ins) : AObj := lo 34 l.length (encCode l)
theorem loop_sharePass (kf : Nat) (x0 x1 x2 x3 y0 y1 : IV) (zz : List AV) (hz0 : (zz.all fun e => AV.under 9 e) = true) (S0 : St) (code : List Ins) (nl : Bool) (cap : Option Nat) (hcode : ∀ i ∈ code, mayM i S0.held.length = true) (hlen : code.length ≤ 20000) (hreg : S0.held.length ≤ 128) (hkf : 200 ≤ kf) (hnx : 0 ≤ S0.next ∧ S0.next ≤ 100000) (k : Nat) (l : Ass) (z : Option Out) (hz : loopR Try.prog tab (kf + 8) none LB16_7 16 106 [1, 2, 6, 7, 32, 33, 34] 9 k l ([codeO (passAt S0 code 0).2, .slot, .cells 25 [.c x0, .c x1, .c x2, .c x3], .cells 25 zz, .cells 97 [hI 5 (passAt S0 code 0).1.held.length, .hmap 6, .hmap 7, ii (passAt S0 code 0).1.next], rI (passAt S0 code 0).1.held, knO (passAt S0 code 0).1.keys, fsO (passAt S0 code 0).1.keys, .cells 25 [.c y0, .c y1, lv 0 5 (passAt S0 code 0).2.length, .c (.slice [] 0 true (some 0))]]) = z) (hk : code.length < k) (a1 : asc l 1 = .ptr 2 0) (a2 : asc l 2 = .ptr 3 0) (a6 : asc l 6 = .ptr 4 0) (a7 : asc l 7 = .ptr 8 0) (a32 : asc l 32 = sC code nl cap) (a33 : asc l 33 = ii code.length) (a34 : asc l 34 = ii 0) :
    ∃ l', z = some (.exit 0 (fr 106 l') ([codeO (passAt S0 code code.length).2, .slot, .cells 25 [.c x0, .c x1, .c x2, .c x3], .cells 25 zz, .cells 97 [hI 5 (passAt S0 code code.length).1.held.length, .hmap 6, .hmap 7, ii (passAt S0 code code.length).1.next], rI (passAt S0 code code.length).1.held, knO (passAt S0 code code.length).1.keys, fsO (passAt S0 code code.length).1.keys, .cells 25 [.c y0, .c y1, lv 0 5 (passAt S0 code code.length).2.length, .c (.slice [] 0 true (some 0))]])) ∧ asc l' 1 = .ptr 2 0 ∧ asc l' 2 = .ptr 3 0 ∧ asc l' 6 = .ptr 4 0 ∧ asc l' 7 = .ptr 8 0 ∧ asc l' 32 = sC code nl cap ∧ asc l' 33 = ii code.length ∧ asc l' 34 = ii code.length := by
  subst hz
  refine loop_nat code.length (fun k l H => loopR Try.prog tab (kf + 8) none LB16_7 16 106 [1, 2, 6, 7, 32, 33, 34] 9 k l H)
    (fun i l H => asc l 1 = .ptr 2 0 ∧ asc l 2 = .ptr 3 0 ∧ asc l 6 = .ptr 4 0 ∧ asc l 7 = .ptr 8 0 ∧ asc l 32 = sC code nl cap ∧ asc l 33 = ii code.length ∧ asc l 34 = ii i ∧ ∃ G, H = ([codeO (passAt S0 code i).2, .slot, .cells 25 [.c x0, .c x1, .c x2, .c x3], .cells 25 zz, .cells 97 [hI 5 (passAt S0 code i).1.held.length, .hmap 6, .hmap 7, ii (passAt S0 code i).1.next], rI (passAt S0 code i).1.held, knO (passAt S0 code i).1.keys, fsO (passAt S0 code i).1.keys, .cells 25 [.c y0, .c y1, lv 0 5 (passAt S0 code i).2.length, .c (.slice [] 0 true (some 0))]]) ++ G)
    (fun z => ∃ l', z = some (.exit 0 (fr 106 l') ([codeO (passAt S0 code code.length).2, .slot, .cells 25 [.c x0, .c x1, .c x2, .c x3], .cells 25 zz, .cells 97 [hI 5 (passAt S0 code code.length).1.held.length, .hmap 6, .hmap 7, ii (passAt S0 code code.length).1.next], rI (passAt S0 code code.length).1.held, knO (passAt S0 code code.length).1.keys, fsO (passAt S0 code code.length).1.keys, .cells 25 [.c y0, .c y1, lv 0 5 (passAt S0 code code.length).2.length, .c (.slice [] 0 true (some 0))]])) ∧ asc l' 1 = .ptr 2 0 ∧ asc l' 2 = .ptr 3 0 ∧ asc l' 6 = .ptr 4 0 ∧ asc l' 7 = .ptr 8 0 ∧ asc l' 32 = sC code nl cap ∧ asc l' 33 = ii code.length ∧ asc l' 34 = ii code.length) ?_ code.length 0 k l _ (by omega) hk ⟨a1, a2, a6, a7, a32, a33, a34, [], by rw [List.append_nil]⟩
  clear hk a1 a2 a6 a7 a32 a33 a34
  rintro i k l H hi ⟨a1, a2, a6, a7, a32, a33, a34, G, rfl⟩
  have ht : trim 9 (fr 106 (keep l [1, 2, 6, 7, 32, 33, 34])) (([codeO (passAt S0 code i).2, .slot, .cells 25 [.c x0, .c x1, .c x2, .c x3], .cells 25 zz, .cells 97 [hI 5 (passAt S0 code i).1.held.length, .hmap 6, .hmap 7, ii (passAt S0 code i).1.next], rI (passAt S0 code i).1.held, knO (passAt S0 code i).1.keys, fsO (passAt S0 code i).1.keys, .cells 25 [.c y0, .c y1, lv 0 5 (passAt S0 code i).2.length, .c (.slice [] 0 true (some 0))]]) ++ G) = ([codeO (passAt S0 code i).2, .slot, .cells 25 [.c x0, .c x1, .c x2, .c x3], .cells 25 zz, .cells 97 [hI 5 (passAt S0 code i).1.held.length, .hmap 6, .hmap 7, ii (passAt S0 code i).1.next], rI (passAt S0 code i).1.held, knO (passAt S0 code i).1.keys, fsO (passAt S0 code i).1.keys, .cells 25 [.c y0, .c y1, lv 0 5 (passAt S0 code i).2.length, .c (.slice [] 0 true (some 0))]]) := trim_app (by simp) (by simp only [a1, a2, a6, a7, a32, a33, a34, ents_under, hz0, EVb, EVc, Int.reduceEq, Int.reduceToNat, Int.reduceLE, Int.reduceLT, Int.reduceAdd, Int.reduceMul, Int.reduceSub, Int.reduceNeg, Nat.reduceAdd, Nat.reduceSub, Nat.reduceMul, Nat.reduceLT, Nat.reduceBEq, Nat.reduceEqDiff, Nat.reduceLeDiff]) (by simp only [ents_under, hz0, EVb, EVc, Int.reduceEq, Int.reduceToNat, Int.reduceLE, Int.reduceLT, Int.reduceAdd, Int.reduceMul, Int.reduceSub, Int.reduceNeg, Nat.reduceAdd, Nat.reduceSub, Nat.reduceMul, Nat.reduceLT, Nat.reduceBEq, Nat.reduceEqDiff, Nat.reduceLeDiff])
  by_cases hc : i < code.length
  · have hc' : (i : Int) < ((code.length : Nat) : Int) := by omega
    have hc0 : (0 : Int) ≤ i := by omega
    have hw : IntKind.wrap .i64 ((i : Int) + 1) = ((i + 1 : Nat) : Int) := by rw [wrap64 (by omega) (by omega)]; omega
    have hx := encCode_get hc
    obtain ⟨x, hX⟩ : ∃ x, x = code[i] := ⟨_, rfl⟩
    rw [← hX] at hx
    obtain ⟨f1, f2, f3, f4, f5⟩ := passAt_facts S0 code i
    have hm := mayM_facts (hcode x (by rw [hX]; exact List.getElem_mem hc))
    have hst : passAt S0 code (i + 1) = passStep (passAt S0 code i) i x := by rw [passAt_succ hc, hX]
    rw [hst]
    obtain ⟨S, hS⟩ : ∃ S, S = (passAt S0 code i).1 := ⟨_, rfl⟩
    obtain ⟨out, hO⟩ : ∃ out, out = (passAt S0 code i).2 := ⟨_, rfl⟩
    have hps : passAt S0 code i = (S, out) := by rw [hS, hO]
    rw [hps] at f1 f2 f3 f4 f5 ht ⊢
    simp only at f1 f2 f3 f4 f5 ht
    have hap := fun X cs => lo_length (e := 34) (n := out.length) (sz := 5) (by_ := 40) (cells := encCode out) (cs := cs) (X := X) (Nat.le_trans (Nat.mul_le_mul_right 40 (show out.length + 1 ≤ 20001 by omega)) (by decide)) (by decide) (encCode_length _)
    rw [← f1] at hm
    obtain ⟨⟨m1, m2⟩, ⟨m3, m4⟩, ⟨m5, m6⟩, m7⟩ := hm
    have hR := tReckon_ev (kf + 5) S i x.op x.to x.a x.b x.c ⟨m5, m6⟩ m7 (by omega)
    have hel := encInts_length S.held
    have ht2 : x.to.toNat < S.held.length := by omega
    have hxt := encInts_getD m3 m4
    obtain ⟨ks, nx, hRR⟩ : ∃ ks nx, (reckonM S i x).2.2 = ⟨S.held, ks, nx⟩ := ⟨(reckonM S i x).2.2.keys, (reckonM S i x).2.2.next, by rw [← reckonM_held S i x]⟩
    obtain ⟨v, hv⟩ : ∃ v, v = (reckonM S i x).1 := ⟨_, rfl⟩
    have hA := tAsked_ev (kf + 6) ⟨S.held, ks, nx⟩ x.op x.to x.a x.b x.c (by simp only; omega) (by simp only; omega) ⟨m5, m6⟩ m7
    have hH := tHolder_ev (kf + 7) ⟨S.held, ks, nx⟩ v (by simp only; omega) (by simp only; omega)
    rw [show (reckonM S i ⟨x.op, x.to, x.a, x.b, x.c⟩) = reckonM S i x from rfl, hRR, ← hv] at hR
    rw [show (Ins.mk x.op x.to x.a x.b x.c) = x from rfl] at hA
    simp only [aI, ii] at hR hA hH
    simp only [passStep, ← hv, hRR]
    clear hst hps hcode hX
    by_cases he : S.held.getD x.to.toNat 0 = v
    · rw [if_pos he]
      simp only [loopR_succ, ht]
      simp only [a1, a2, a6, a7, a32, a33, a34, hc', hc0, hw, hx, hR, hA, askM_to, ents_ids, ents_ren, loopR_succ, loopOf, findLoop, firstRegion, Option.some_or, Option.none_or, Option.getD_some, Option.some.injEq, Try.f16, FT, Int.reduceEq, Int.reduceToNat, Int.reduceLE, Int.reduceLT, Int.reduceAdd, Int.reduceMul, Int.reduceSub, Int.reduceNeg, Nat.reduceAdd, Nat.reduceSub, Nat.reduceMul, Nat.reduceLT, Nat.reduceBEq, Nat.reduceEqDiff, Nat.reduceLeDiff]
      rw [evalCode_drawn Try.f16 11 dr16_11]; rotate_left; rfl
      simp only [a1, a2, a6, a7, a32, a33, a34, hc', hc0, hw, hel, hxt, he, m3, m4, EVd, List.getElem?_nil, Nat.reducePow, Nat.reduceDiv, Nat.reduceMod, FT, Int.reduceEq, Int.reduceToNat, Int.reduceLE, Int.reduceLT, Int.reduceAdd, Int.reduceMul, Int.reduceSub, Int.reduceNeg, Nat.reduceAdd, Nat.reduceSub, Nat.reduceMul, Nat.reduceLT, Nat.reduceBEq, Nat.reduceEqDiff, Nat.reduceLeDiff]
      refine .inr ⟨_, _, hc, rfl, (by rfl), (by rfl), (by rfl), (by rfl), (by rfl), (by rfl), (by rfl), ?_⟩
      exact ⟨_, by rfl⟩
    · rw [if_neg he]
      simp only [loopR_succ, ht]
      simp only [a1, a2, a6, a7, a32, a33, a34, hc', hc0, hw, hx, hR, hA, askM_to, ents_ids, ents_ren, loopR_succ, loopOf, findLoop, firstRegion, Option.some_or, Option.none_or, Option.getD_some, Option.some.injEq, Try.f16, FT, Int.reduceEq, Int.reduceToNat, Int.reduceLE, Int.reduceLT, Int.reduceAdd, Int.reduceMul, Int.reduceSub, Int.reduceNeg, Nat.reduceAdd, Nat.reduceSub, Nat.reduceMul, Nat.reduceLT, Nat.reduceBEq, Nat.reduceEqDiff, Nat.reduceLeDiff]
      rw [evalCode_drawn Try.f16 11 dr16_11]; rotate_left; rfl
      simp only [a1, a2, a6, a7, a32, a33, a34, hc', hc0, hw, hel, hxt, he, m3, m4, EVd, List.getElem?_nil, Nat.reducePow, Nat.reduceDiv, Nat.reduceMod, FT, Int.reduceEq, Int.reduceToNat, Int.reduceLE, Int.reduceLT, Int.reduceAdd, Int.reduceMul, Int.reduceSub, Int.reduceNeg, Nat.reduceAdd, Nat.reduceSub, Nat.reduceMul, Nat.reduceLT, Nat.reduceBEq, Nat.reduceEqDiff, Nat.reduceLeDiff]
      by_cases h0 : 0 ≤ holdM v S.held 0
      · have hem : emitM v S.held x = ⟨1, x.to, holdM v S.held 0, 0, 0⟩ := if_pos h0
        rw [hem]
        try simp only [a1, a2, a6, a7, a32, a33, a34, hc', hc0, hw, hH, h0, ents_ids, ents_ren, hap, FT, Int.reduceEq, Int.reduceToNat, Int.reduceLE, Int.reduceLT, Int.reduceAdd, Int.reduceMul, Int.reduceSub, Int.reduceNeg, Nat.reduceAdd, Nat.reduceSub, Nat.reduceMul, Nat.reduceLT, Nat.reduceBEq, Nat.reduceEqDiff, Nat.reduceLeDiff]
        rw [evalCode_drawn Try.f16 16 dr16_16]; rotate_left; rfl
        simp only [a1, a2, a6, a7, a32, a33, a34, hc', hc0, hw, hel, m3, m4, ht2, encInts_set, EVd, List.getElem?_nil, Nat.reducePow, Nat.reduceDiv, Nat.reduceMod, FT, Int.reduceEq, Int.reduceToNat, Int.reduceLE, Int.reduceLT, Int.reduceAdd, Int.reduceMul, Int.reduceSub, Int.reduceNeg, Nat.reduceAdd, Nat.reduceSub, Nat.reduceMul, Nat.reduceLT, Nat.reduceBEq, Nat.reduceEqDiff, Nat.reduceLeDiff]
        refine .inr ⟨_, _, hc, rfl, (by rfl), (by rfl), (by rfl), (by rfl), (by rfl), (by rfl), (by rfl), ?_⟩
        simp only [codeO, List.length_append, List.length_cons, List.length_nil, Nat.zero_add, List.length_set, encCode_append, encCode, enc1, List.append_nil]
        exact ⟨_, by rfl⟩
      · have hem : emitM v S.held x = askM S.held x := if_neg h0
        rw [hem]
        try simp only [a1, a2, a6, a7, a32, a33, a34, hc', hc0, hw, hH, h0, ents_ids, ents_ren, hap, FT, Int.reduceEq, Int.reduceToNat, Int.reduceLE, Int.reduceLT, Int.reduceAdd, Int.reduceMul, Int.reduceSub, Int.reduceNeg, Nat.reduceAdd, Nat.reduceSub, Nat.reduceMul, Nat.reduceLT, Nat.reduceBEq, Nat.reduceEqDiff, Nat.reduceLeDiff]
        rw [evalCode_drawn Try.f16 16 dr16_16]; rotate_left; rfl
        simp only [a1, a2, a6, a7, a32, a33, a34, hc', hc0, hw, hel, m3, m4, ht2, encInts_set, askM_to, EVd, List.getElem?_nil, Nat.reducePow, Nat.reduceDiv, Nat.reduceMod, FT, Int.reduceEq, Int.reduceToNat, Int.reduceLE, Int.reduceLT, Int.reduceAdd, Int.reduceMul, Int.reduceSub, Int.reduceNeg, Nat.reduceAdd, Nat.reduceSub, Nat.reduceMul, Nat.reduceLT, Nat.reduceBEq, Nat.reduceEqDiff, Nat.reduceLeDiff]
        refine .inr ⟨_, _, hc, rfl, (by rfl), (by rfl), (by rfl), (by rfl), (by rfl), (by rfl), (by rfl), ?_⟩
        simp only [codeO, List.length_append, List.length_cons, List.length_nil, Nat.zero_add, List.length_set, encCode_append, encCode, enc1, List.append_nil]
        exact ⟨_, by rfl⟩
  · refine .inl ?_
    obtain rfl : i = code.length := by omega
    have hc' : ¬ (((code.length : Nat) : Int) < ((code.length : Nat) : Int)) := by omega
    simp only [loopR_succ, ht]
    simp only [a1, a2, a6, a7, a32, a33, a34, hc', loopR_succ, loopOf, findLoop, firstRegion, Option.some_or, Option.none_or, Option.getD_some, Option.some.injEq, Try.f16, FT, Int.reduceEq, Int.reduceToNat, Int.reduceLE, Int.reduceLT, Int.reduceAdd, Int.reduceMul, Int.reduceSub, Int.reduceNeg, Nat.reduceAdd, Nat.reduceSub, Nat.reduceMul, Nat.reduceLT, Nat.reduceBEq, Nat.reduceEqDiff, Nat.reduceLeDiff]
    exact ⟨_, rfl, (by rfl), (by rfl), (by rfl), (by rfl), (by rfl), (by rfl), (by rfl)⟩
theorem outsL_take {held outs : List Int} {i : Nat} (h : i < outs.length) : outsL held (outs.take (i + 1)) = outsL held (outs.take i) ++ [holdM (held.getD outs[i].toNat 0) held 0] := by
  rw [List.take_succ_eq_append_getElem h, outsL, outsL, List.map_append]; rfl
theorem outsL_length (held outs : List Int) : (outsL held outs).length = outs.length := by simp [outsL]
theorem loop_sharePass2 (kf : Nat) (x0 x1 x2 x3 y0 y1 : IV) (zz : List AV) (hz0 : (zz.all fun e => AV.under 9 e) = true) (cl : Nat) (cc : List IV) (S : St) (outs : List Int) (nl : Bool) (cap : Option Nat) (hr : ∀ r ∈ outs, 0 ≤ r ∧ r < S.held.length) (hlen : outs.length ≤ 20000) (hreg : S.held.length ≤ 128) (hkf : 200 ≤ kf) (k : Nat) (l : Ass) (z : Option Out) (hz : loopR Try.prog tab (kf + 8) none LB16_19 16 106 [2, 6, 7, 84, 85, 86] 9 k l ([lo 34 cl cc, lo 3 0 (encInts (outsL S.held (outs.take 0))), .cells 25 [.c x0, .c x1, .c x2, .c x3], .cells 25 zz, .cells 97 [hI 5 S.held.length, .hmap 6, .hmap 7, ii S.next], rI S.held, knO S.keys, fsO S.keys, .cells 25 [.c y0, .c y1, lv 0 5 cl, lv 1 1 0]]) = z) (hk : outs.length < k) (a2 : asc l 2 = .ptr 3 0) (a6 : asc l 6 = .ptr 4 0) (a7 : asc l 7 = .ptr 8 0) (a84 : asc l 84 = sI outs nl cap) (a85 : asc l 85 = ii outs.length) (a86 : asc l 86 = ii 0) :
    ∃ l', z = some (.exit 2 (fr 106 l') ([lo 34 cl cc, lo 3 outs.length (encInts (outsL S.held (outs.take outs.length))), .cells 25 [.c x0, .c x1, .c x2, .c x3], .cells 25 zz, .cells 97 [hI 5 S.held.length, .hmap 6, .hmap 7, ii S.next], rI S.held, knO S.keys, fsO S.keys, .cells 25 [.c y0, .c y1, lv 0 5 cl, lv 1 1 outs.length]])) ∧ asc l' 2 = .ptr 3 0 ∧ asc l' 6 = .ptr 4 0 ∧ asc l' 7 = .ptr 8 0 ∧ asc l' 84 = sI outs nl cap ∧ asc l' 85 = ii outs.length ∧ asc l' 86 = ii outs.length := by
  subst hz
  refine loop_nat outs.length (fun k l H => loopR Try.prog tab (kf + 8) none LB16_19 16 106 [2, 6, 7, 84, 85, 86] 9 k l H)
    (fun i l H => asc l 2 = .ptr 3 0 ∧ asc l 6 = .ptr 4 0 ∧ asc l 7 = .ptr 8 0 ∧ asc l 84 = sI outs nl cap ∧ asc l 85 = ii outs.length ∧ asc l 86 = ii i ∧ ∃ G, H = ([lo 34 cl cc, lo 3 i (encInts (outsL S.held (outs.take i))), .cells 25 [.c x0, .c x1, .c x2, .c x3], .cells 25 zz, .cells 97 [hI 5 S.held.length, .hmap 6, .hmap 7, ii S.next], rI S.held, knO S.keys, fsO S.keys, .cells 25 [.c y0, .c y1, lv 0 5 cl, lv 1 1 i]]) ++ G)
    (fun z => ∃ l', z = some (.exit 2 (fr 106 l') ([lo 34 cl cc, lo 3 outs.length (encInts (outsL S.held (outs.take outs.length))), .cells 25 [.c x0, .c x1, .c x2, .c x3], .cells 25 zz, .cells 97 [hI 5 S.held.length, .hmap 6, .hmap 7, ii S.next], rI S.held, knO S.keys, fsO S.keys, .cells 25 [.c y0, .c y1, lv 0 5 cl, lv 1 1 outs.length]])) ∧ asc l' 2 = .ptr 3 0 ∧ asc l' 6 = .ptr 4 0 ∧ asc l' 7 = .ptr 8 0 ∧ asc l' 84 = sI outs nl cap ∧ asc l' 85 = ii outs.length ∧ asc l' 86 = ii outs.length) ?_ outs.length 0 k l _ (by omega) hk ⟨a2, a6, a7, a84, a85, a86, [], by rw [List.append_nil]⟩
  clear hk a2 a6 a7 a84 a85 a86
  rintro i k l H hi ⟨a2, a6, a7, a84, a85, a86, G, rfl⟩
  have ht : trim 9 (fr 106 (keep l [2, 6, 7, 84, 85, 86])) (([lo 34 cl cc, lo 3 i (encInts (outsL S.held (outs.take i))), .cells 25 [.c x0, .c x1, .c x2, .c x3], .cells 25 zz, .cells 97 [hI 5 S.held.length, .hmap 6, .hmap 7, ii S.next], rI S.held, knO S.keys, fsO S.keys, .cells 25 [.c y0, .c y1, lv 0 5 cl, lv 1 1 i]]) ++ G) = ([lo 34 cl cc, lo 3 i (encInts (outsL S.held (outs.take i))), .cells 25 [.c x0, .c x1, .c x2, .c x3], .cells 25 zz, .cells 97 [hI 5 S.held.length, .hmap 6, .hmap 7, ii S.next], rI S.held, knO S.keys, fsO S.keys, .cells 25 [.c y0, .c y1, lv 0 5 cl, lv 1 1 i]]) := trim_app (by simp) (by simp only [a2, a6, a7, a84, a85, a86, ents_under, hz0, EVb, EVc, Int.reduceEq, Int.reduceToNat, Int.reduceLE, Int.reduceLT, Int.reduceAdd, Int.reduceMul, Int.reduceSub, Int.reduceNeg, Nat.reduceAdd, Nat.reduceSub, Nat.reduceMul, Nat.reduceLT, Nat.reduceBEq, Nat.reduceEqDiff, Nat.reduceLeDiff]) (by simp only [ents_under, hz0, EVb, EVc, Int.reduceEq, Int.reduceToNat, Int.reduceLE, Int.reduceLT, Int.reduceAdd, Int.reduceMul, Int.reduceSub, Int.reduceNeg, Nat.reduceAdd, Nat.reduceSub, Nat.reduceMul, Nat.reduceLT, Nat.reduceBEq, Nat.reduceEqDiff, Nat.reduceLeDiff])
  by_cases hc : i < outs.length
  · have hc' : (i : Int) < ((outs.length : Nat) : Int) := by omega
    have hc0 : (0 : Int) ≤ i := by omega
    have hw : IntKind.wrap .i64 ((i : Int) + 1) = ((i + 1 : Nat) : Int) := by rw [wrap64 (by omega) (by omega)]; omega
    have hx := encInts_get hc
    have hlen2 : (outsL S.held (outs.take i)).length = i := by rw [outsL_length, List.length_take]; omega
    have hap := fun x0 X cs => apO_lv (e := 3) (s := 1) (n := i) (m := 1) (sz := 1) (by_ := 8) (cells := encInts (outsL S.held (outs.take i))) (cs := cs) (H := x0 :: lo 3 i (encInts (outsL S.held (outs.take i))) :: X) (by decide) (Nat.le_trans (Nat.mul_le_mul_right 8 (show i + 1 ≤ 20001 by omega)) (by decide)) (by decide) rfl (by rw [encInts_length, hlen2, Nat.mul_one])
    obtain ⟨r, hR⟩ : ∃ r, r = outs[i] := ⟨_, rfl⟩
    obtain ⟨r0, r1⟩ := hr r (by rw [hR]; exact List.getElem_mem hc)
    have hnx := outsL_take (held := S.held) hc
    rw [← hR] at hx hnx
    have hel := encInts_length S.held
    have hxr := encInts_getD r0 r1
    have hH := tHolder_ev (kf + 7) S (S.held.getD r.toNat 0) (by omega) (by omega)
    simp only [ii] at hH
    rw [hnx, encInts_append]
    simp only [loopR_succ, ht]
    simp only [a2, a6, a7, a84, a85, a86, hc', hc0, hw, hx, loopR_succ, loopOf, findLoop, firstRegion, Option.some_or, Option.none_or, Option.getD_some, Option.some.injEq, Try.f16, FT, Int.reduceEq, Int.reduceToNat, Int.reduceLE, Int.reduceLT, Int.reduceAdd, Int.reduceMul, Int.reduceSub, Int.reduceNeg, Nat.reduceAdd, Nat.reduceSub, Nat.reduceMul, Nat.reduceLT, Nat.reduceBEq, Nat.reduceEqDiff, Nat.reduceLeDiff]
    rw [evalCode_drawn Try.f16 21 dr16_21]; rotate_left; rfl
    simp only [a2, a6, a7, a84, a85, a86, hc', hc0, hw, hx, hxr, hel, r0, r1, hH, ents_ids, ents_ren, hap, EVd, List.getElem?_nil, Nat.reducePow, Nat.reduceDiv, Nat.reduceMod, FT, Int.reduceEq, Int.reduceToNat, Int.reduceLE, Int.reduceLT, Int.reduceAdd, Int.reduceMul, Int.reduceSub, Int.reduceNeg, Nat.reduceAdd, Nat.reduceSub, Nat.reduceMul, Nat.reduceLT, Nat.reduceBEq, Nat.reduceEqDiff, Nat.reduceLeDiff]
    refine .inr ⟨_, _, hc, rfl, (by rfl), (by rfl), (by rfl), (by rfl), (by rfl), (by rfl), ?_⟩
    exact ⟨_, by rfl⟩
  · refine .inl ?_
    obtain rfl : i = outs.length := by omega
    have hc' : ¬ (((outs.length : Nat) : Int) < ((outs.length : Nat) : Int)) := by omega
    simp only [loopR_succ, ht]
    simp only [a2, a6, a7, a84, a85, a86, hc', loopR_succ, loopOf, findLoop, firstRegion, Option.some_or, Option.none_or, Option.getD_some, Option.some.injEq, Try.f16, FT, Int.reduceEq, Int.reduceToNat, Int.reduceLE, Int.reduceLT, Int.reduceAdd, Int.reduceMul, Int.reduceSub, Int.reduceNeg, Nat.reduceAdd, Nat.reduceSub, Nat.reduceMul, Nat.reduceLT, Nat.reduceBEq, Nat.reduceEqDiff, Nat.reduceLeDiff]
    exact ⟨_, rfl, (by rfl), (by rfl), (by rfl), (by rfl), (by rfl), (by rfl)⟩
end Go.Proofs.Sw
namespace Go.Proofs.Sw
open Go.Ab
variable [Globals]
theorem sharePass_ev (k : Nat) (ins : Int) (n : Nat) (code : List Ins) (outs : List Int) (nl : Bool) (cap : Option Nat) (nl2 : Bool) (cap2 : Option Nat) (hk : outs.length + code.length + 400 ≤ k) (hr : rightM ⟨ins, n, code, outs⟩ = true) :
    ∃ X, evalT Try.prog (mkHints tab) (k+9) (.fn 16) [aP ⟨ins, n, code, outs⟩ nl cap nl2 cap2] [] =
      some (.tup [.agg [ii ins, ii n, lv 0 5 (passC ins n code).length, .hsl 1 0 outs.length outs.length 1], ii 0], codeO (passC ins n code) :: rI (outsL (passS ins n code).held outs) :: X) := by
  obtain ⟨m, hc⟩ := check_ev (k + 7) ⟨ins, n, code, outs⟩ nl cap nl2 cap2 (by simp only; omega)
  simp only [run, aP, ii, checkE, hr, if_true] at hc
  simp only [rightM, headM, Bool.and_eq_true, decide_eq_true_eq] at hr
  obtain ⟨⟨⟨h1, h2, h3, h4, h5, h6⟩, hos⟩, hcd⟩ := hr
  have hN := newTable_ev (k + 7) ins n (.slice (encCode code) code.length nl cap) (.slice (encInts outs) outs.length nl2 cap2) (by omega) (by omega) (by omega) (by omega) (by omega)
  have hsl := startM_length ins n
  simp only [ii] at hN
  rw [ev16]
  simp only [Try.f16, aP, ii, hc, hN, FT, Int.reduceEq, Int.reduceToNat, Int.reduceLE, Int.reduceLT, Int.reduceAdd, Int.reduceMul, Int.reduceSub, Int.reduceNeg, Nat.reduceAdd, Nat.reduceSub, Nat.reduceMul, Nat.reduceLT, Nat.reduceBEq, Nat.reduceEqDiff, Nat.reduceLeDiff]
  rw [evalCode_loopB LB16_7 lp16_7]; rotate_left; rfl; rfl; rfl
  generalize hz : loopR _ _ _ _ _ _ _ _ _ _ _ _ = z
  obtain ⟨l', rfl, e1, e2, e6, e7, e32, e33, e34⟩ := loop_sharePass k (.int .i64 ins) (.int .i64 n) (.slice (encCode code) code.length nl cap) (.slice (encInts outs) outs.length nl2 cap2) (.int .i64 ins) (.int .i64 n) _ (by rfl) (startS ins n) code nl cap
    (by rw [show (startS ins n).held.length = n from hsl]; exact fun i hi => List.all_eq_true.1 hcd i hi) (by omega) (by rw [show (startS ins n).held.length = n from hsl]; omega) (by omega) (by simp only [startS]; omega) _ _ z hz (by omega) (by rfl) (by rfl) (by rfl) (by rfl) (by rfl) (by rfl) (by rfl)
  clear hz
  have hpl : (passS ins n code).held.length = n := by rw [(passAt_facts _ _ _).1]; exact hsl
  simp only [e1, e2, e6, e7, e32, e33, e34, FT, Int.reduceEq, Int.reduceToNat, Int.reduceLE, Int.reduceLT, Int.reduceAdd, Int.reduceMul, Int.reduceSub, Int.reduceNeg, Nat.reduceAdd, Nat.reduceSub, Nat.reduceMul, Nat.reduceLT, Nat.reduceBEq, Nat.reduceEqDiff, Nat.reduceLeDiff]
  rw [evalCode_loopB LB16_19 lp16_19]; rotate_left; rfl; rfl; rfl
  generalize hz : loopR _ _ _ _ _ _ _ _ _ _ _ _ = z
  obtain ⟨l2, rfl, f2, f6, f7, f84, f85, f86⟩ := loop_sharePass2 k (.int .i64 ins) (.int .i64 n) (.slice (encCode code) code.length nl cap) (.slice (encInts outs) outs.length nl2 cap2) (.int .i64 ins) (.int .i64 n) _ (by rfl) (passC ins n code).length (encCode (passC ins n code)) (passS ins n code) outs nl2 cap2
    (by rw [hpl]; exact fun r hr => by simpa using List.all_eq_true.1 hos r hr) (by omega) (by rw [hpl]; omega) (by omega) _ _ z hz (by omega) (by exact e2) (by exact e6) (by exact e7) (by rfl) (by rfl) (by rfl)
  clear hz
  have e8 := lv_pos (s := 1) (sz := 1) (show 0 < outs.length by omega)
  have e9 := lo_pos (e := 3) (cells := encInts (outsL (passS ins n code).held outs)) (show 0 < outs.length by omega)
  rw [List.take_length]
  simp only [f2, f7, e8, e9, FT, Int.reduceEq, Int.reduceToNat, Int.reduceLE, Int.reduceLT, Int.reduceAdd, Int.reduceMul, Int.reduceSub, Int.reduceNeg, Nat.reduceAdd, Nat.reduceSub, Nat.reduceMul, Nat.reduceLT, Nat.reduceBEq, Nat.reduceEqDiff, Nat.reduceLeDiff]
  exact ⟨_, rfl⟩
end Go.Proofs.Sw
namespace Go.Proofs.Sw
open Go.Ab
variable [Globals]
theorem rMay_ev (k : Nat) (o t a b c regs : Int) : run (k+1) 102 [aI o t a b c, ii regs] = some (bb (mayM ⟨o, t, a, b, c⟩ regs)) := by
  rw [run, ev102, ans_trim]
  simp only [Try.f102, aI, ii, bb, FT, Int.reduceEq, Int.reduceToNat, Int.reduceLE, Int.reduceLT, Int.reduceAdd, Int.reduceMul, Int.reduceSub, Int.reduceNeg, Nat.reduceAdd, Nat.reduceSub, Nat.reduceMul, Nat.reduceLT, Nat.reduceBEq, Nat.reduceEqDiff, Nat.reduceLeDiff]
  repeat' (first
    | (rw [condO_dec]; split <;> simp only [*, FT, Int.reduceEq, Int.reduceToNat, Int.reduceLE, Int.reduceLT, Int.reduceAdd, Int.reduceMul, Int.reduceSub, Int.reduceNeg, Nat.reduceAdd, Nat.reduceSub, Nat.reduceMul, Nat.reduceLT, Nat.reduceBEq, Nat.reduceEqDiff, Nat.reduceLeDiff])
    | (rw [condO_ite]; split <;> simp only [*, FT, Int.reduceEq, Int.reduceToNat, Int.reduceLE, Int.reduceLT, Int.reduceAdd, Int.reduceMul, Int.reduceSub, Int.reduceNeg, Nat.reduceAdd, Nat.reduceSub, Nat.reduceMul, Nat.reduceLT, Nat.reduceBEq, Nat.reduceEqDiff, Nat.reduceLeDiff])
    | (split <;> simp only [*, FT, Int.reduceEq, Int.reduceToNat, Int.reduceLE, Int.reduceLT, Int.reduceAdd, Int.reduceMul, Int.reduceSub, Int.reduceNeg, Nat.reduceAdd, Nat.reduceSub, Nat.reduceMul, Nat.reduceLT, Nat.reduceBEq, Nat.reduceEqDiff, Nat.reduceLeDiff]))
  all_goals first
    | (simp [mayM, constant, *]; done)
    | (rw [Option.some.injEq, AV.c.injEq, IV.bool.injEq, Bool.eq_iff_iff]; simp [mayM, constant, *]; omega)
theorem loop_rCheck_4 (kf : Nat) (ins regs : Int) (cv : AV) (outs : List Int) (nl : Bool) (cap : Option Nat) (hlen : outs.length ≤ 1000000) (k : Nat) (l : Ass) (z : Option Out)
    (hz : loopR Try.prog tab kf none LB67_4 67 79 [1, 4] 1 k l [cP ins regs cv (sI outs nl cap)] = z) (hk : outs.length < k)
    (h1 : asc l 1 = .ptr 0 0) (h4 : asc l 4 = ii (0 : Nat)) :
    ∃ l', (z = some (.exit 0 (fr 79 l') [cP ins regs cv (sI outs nl cap)]) ∧ asc l' 1 = .ptr 0 0 ∧ outs.all (fun r => decide (0 ≤ r ∧ r < regs)) = true) ∨
      (z = some (.ret (fr 79 l') [cP ins regs cv (sI outs nl cap)]) ∧ (∃ n, asc l' 2 = ii n) ∧ asc l' 3 = bb true ∧ outs.all (fun r => decide (0 ≤ r ∧ r < regs)) = false) := by
  subst hz
  refine loop_nat outs.length (fun k l H => loopR Try.prog tab kf none LB67_4 67 79 [1, 4] 1 k l H)
    (fun i l H => asc l 1 = .ptr 0 0 ∧ asc l 4 = ii i ∧ (∀ j, (h : j < i) → ∀ h2 : j < outs.length, 0 ≤ outs[j] ∧ outs[j] < regs) ∧ H = [cP ins regs cv (sI outs nl cap)])
    (fun z => ∃ l', (z = some (.exit 0 (fr 79 l') [cP ins regs cv (sI outs nl cap)]) ∧ asc l' 1 = .ptr 0 0 ∧ outs.all (fun r => decide (0 ≤ r ∧ r < regs)) = true) ∨
      (z = some (.ret (fr 79 l') [cP ins regs cv (sI outs nl cap)]) ∧ (∃ n, asc l' 2 = ii n) ∧ asc l' 3 = bb true ∧ outs.all (fun r => decide (0 ≤ r ∧ r < regs)) = false)) ?_ outs.length 0 k l _ (by omega) hk ⟨h1, h4, fun j h => absurd h (by omega), rfl⟩
  clear h1 h4 hk
  rintro i k l H hi ⟨h1, h4, hp, rfl⟩
  by_cases hc : i < outs.length
  · have hc' : ((i : Int) < outs.length) := by omega
    have hc0 : (0 : Int) ≤ i := by omega
    have hx := encInts_get hc
    have hw := wrap_succ hc (by omega)
    have hall : ¬ (0 ≤ outs[i] ∧ outs[i] < regs) → outs.all (fun r => decide (0 ≤ r ∧ r < regs)) = false := fun h => by
      rw [List.all_eq_false]; exact ⟨outs[i], List.getElem_mem hc, by simpa using h⟩
    simp only [h1, h4, hc', hc0, hx, loopR_succ, loopOf, findLoop, firstRegion, Option.some_or, Option.none_or, Option.getD_some, Option.some.injEq, Try.f67, FT, Int.reduceEq, Int.reduceToNat, Int.reduceLE, Int.reduceLT, Int.reduceAdd, Int.reduceMul, Int.reduceSub, Int.reduceNeg, Nat.reduceAdd, Nat.reduceSub, Nat.reduceMul, Nat.reduceLT, Nat.reduceBEq, Nat.reduceEqDiff, Nat.reduceLeDiff]
    rw [evalCode_drawn Try.f67 6 dr67_6]; rotate_left; rfl
    by_cases hr : outs[i] < 0
    · refine .inl ?_
      simp only [hc', hc0, hx, hr, EVd, List.getElem?_nil, Nat.reducePow, Nat.reduceDiv, Nat.reduceMod, FT, Int.reduceEq, Int.reduceToNat, Int.reduceLE, Int.reduceLT, Int.reduceAdd, Int.reduceMul, Int.reduceSub, Int.reduceNeg, Nat.reduceAdd, Nat.reduceSub, Nat.reduceMul, Nat.reduceLT, Nat.reduceBEq, Nat.reduceEqDiff, Nat.reduceLeDiff]
      exact ⟨_, .inr ⟨rfl, ⟨_, (by rfl)⟩, (by rfl), hall (by omega)⟩⟩
    · by_cases hr2 : regs ≤ outs[i]
      · refine .inl ?_
        simp only [hc', hc0, hx, hr, hr2, EVd, List.getElem?_nil, Nat.reducePow, Nat.reduceDiv, Nat.reduceMod, FT, Int.reduceEq, Int.reduceToNat, Int.reduceLE, Int.reduceLT, Int.reduceAdd, Int.reduceMul, Int.reduceSub, Int.reduceNeg, Nat.reduceAdd, Nat.reduceSub, Nat.reduceMul, Nat.reduceLT, Nat.reduceBEq, Nat.reduceEqDiff, Nat.reduceLeDiff]
        exact ⟨_, .inr ⟨rfl, ⟨_, (by rfl)⟩, (by rfl), hall (by omega)⟩⟩
      · refine .inr ?_
        simp only [hc', hc0, hx, hr, hr2, hw, EVd, List.getElem?_nil, Nat.reducePow, Nat.reduceDiv, Nat.reduceMod, FT, Int.reduceEq, Int.reduceToNat, Int.reduceLE, Int.reduceLT, Int.reduceAdd, Int.reduceMul, Int.reduceSub, Int.reduceNeg, Nat.reduceAdd, Nat.reduceSub, Nat.reduceMul, Nat.reduceLT, Nat.reduceBEq, Nat.reduceEqDiff, Nat.reduceLeDiff]
        refine ⟨_, _, hc, rfl, (by rfl), (by rfl), fun j hj h2 => ?_, rfl⟩
        by_cases e : j = i
        · subst e; omega
        · exact hp j (by omega) h2
  · have hc' : ¬ ((i : Int) < outs.length) := by omega
    refine .inl ?_
    simp only [h1, h4, hc', loopR_succ, loopOf, findLoop, firstRegion, Option.some_or, Option.none_or, Option.getD_some, Option.some.injEq, Try.f67, FT, Int.reduceEq, Int.reduceToNat, Int.reduceLE, Int.reduceLT, Int.reduceAdd, Int.reduceMul, Int.reduceSub, Int.reduceNeg, Nat.reduceAdd, Nat.reduceSub, Nat.reduceMul, Nat.reduceLT, Nat.reduceBEq, Nat.reduceEqDiff, Nat.reduceLeDiff]
    refine ⟨_, .inl ⟨rfl, (by rfl), ?_⟩⟩
    exact all_of fun j hj => by simpa using hp j (by omega) hj
theorem loop_rCheck_9 (kf : Nat) (hkf : 1 ≤ kf) (ins regs : Int) (ov : AV) (hov : AV.under 1 ov = true) (code : List Ins) (nl : Bool) (cap : Option Nat) (hlen : code.length ≤ 1000000) (k : Nat) (l : Ass) (z : Option Out)
    (hz : loopR Try.prog tab kf none LB67_9 67 79 [1, 5] 1 k l [cP ins regs (sC code nl cap) ov] = z) (hk : code.length < k)
    (h1 : asc l 1 = .ptr 0 0) (h5 : asc l 5 = ii (0 : Nat)) :
    ∃ l' H', (z = some (.exit 2 (fr 79 l') H') ∧ code.all (fun i => mayM i regs) = true) ∨
      (z = some (.ret (fr 79 l') H') ∧ (∃ n, asc l' 2 = ii n) ∧ asc l' 3 = bb true ∧ code.all (fun i => mayM i regs) = false) := by
  subst hz
  obtain ⟨kf, rfl⟩ : ∃ j, kf = j + 1 := ⟨kf - 1, by omega⟩
  refine loop_nat code.length (fun k l H => loopR Try.prog tab (kf + 1) none LB67_9 67 79 [1, 5] 1 k l H)
    (fun i l H => asc l 1 = .ptr 0 0 ∧ asc l 5 = ii i ∧ (∀ j, (h : j < i) → ∀ h2 : j < code.length, mayM code[j] regs = true) ∧ H = [cP ins regs (sC code nl cap) ov])
    (fun z => ∃ l' H', (z = some (.exit 2 (fr 79 l') H') ∧ code.all (fun i => mayM i regs) = true) ∨
      (z = some (.ret (fr 79 l') H') ∧ (∃ n, asc l' 2 = ii n) ∧ asc l' 3 = bb true ∧ code.all (fun i => mayM i regs) = false)) ?_ code.length 0 k l _ (by omega) hk ⟨h1, h5, fun j h => absurd h (by omega), rfl⟩
  clear h1 h5 hk
  rintro i k l H hi ⟨h1, h5, hp, rfl⟩
  by_cases hc : i < code.length
  · have hc' : ((i : Int) < code.length) := by omega
    have hc0 : (0 : Int) ≤ i := by omega
    have hx := encCode_get hc
    have hw := wrap_succ hc (by omega)
    obtain ⟨x, hX⟩ : ∃ x, x = code[i] := ⟨_, rfl⟩
    rw [← hX] at hx
    have hm := rMay_ev kf x.op x.to x.a x.b x.c regs
    simp only [run, aI, ii, bb] at hm
    simp only [h1, h5, hc', hc0, hx, loopR_succ, loopOf, findLoop, firstRegion, Option.some_or, Option.none_or, Option.getD_some, Option.some.injEq, Try.f67, FT, Int.reduceEq, Int.reduceToNat, Int.reduceLE, Int.reduceLT, Int.reduceAdd, Int.reduceMul, Int.reduceSub, Int.reduceNeg, Nat.reduceAdd, Nat.reduceSub, Nat.reduceMul, Nat.reduceLT, Nat.reduceBEq, Nat.reduceEqDiff, Nat.reduceLeDiff]
    rw [evalCode_drawn Try.f67 11 dr67_11]; rotate_left; rfl
    cases hd : mayM x regs with
    | false =>
      rw [show mayM ⟨x.op, x.to, x.a, x.b, x.c⟩ regs = false from hd] at hm
      refine .inl ?_
      simp only [hc', hc0, hx, hm, EVd, List.getElem?_nil, Nat.reducePow, Nat.reduceDiv, Nat.reduceMod, FT, Int.reduceEq, Int.reduceToNat, Int.reduceLE, Int.reduceLT, Int.reduceAdd, Int.reduceMul, Int.reduceSub, Int.reduceNeg, Nat.reduceAdd, Nat.reduceSub, Nat.reduceMul, Nat.reduceLT, Nat.reduceBEq, Nat.reduceEqDiff, Nat.reduceLeDiff]
      exact ⟨_, _, .inr ⟨rfl, ⟨_, rfl⟩, (by rfl), all_not hc (by rw [← hX]; exact hd)⟩⟩
    | true =>
      rw [show mayM ⟨x.op, x.to, x.a, x.b, x.c⟩ regs = true from hd] at hm
      refine .inr ?_
      simp only [hc', hc0, hx, hm, hw, EVd, List.getElem?_nil, Nat.reducePow, Nat.reduceDiv, Nat.reduceMod, FT, Int.reduceEq, Int.reduceToNat, Int.reduceLE, Int.reduceLT, Int.reduceAdd, Int.reduceMul, Int.reduceSub, Int.reduceNeg, Nat.reduceAdd, Nat.reduceSub, Nat.reduceMul, Nat.reduceLT, Nat.reduceBEq, Nat.reduceEqDiff, Nat.reduceLeDiff]
      refine ⟨_, _, hc, rfl, (by rfl), (by rfl), fun j hj h2 => ?_, rfl⟩
      by_cases e : j = i
      · subst e; rw [← hX]; exact hd
      · exact hp j (by omega) h2
  · have hc' : ¬ ((i : Int) < code.length) := by omega
    refine .inl ?_
    simp only [h1, h5, hc', loopR_succ, loopOf, findLoop, firstRegion, Option.some_or, Option.none_or, Option.getD_some, Option.some.injEq, Try.f67, FT, Int.reduceEq, Int.reduceToNat, Int.reduceLE, Int.reduceLT, Int.reduceAdd, Int.reduceMul, Int.reduceSub, Int.reduceNeg, Nat.reduceAdd, Nat.reduceSub, Nat.reduceMul, Nat.reduceLT, Nat.reduceBEq, Nat.reduceEqDiff, Nat.reduceLeDiff]
    exact ⟨_, _, .inl ⟨rfl, all_of fun j hj => hp j (by omega) hj⟩⟩
theorem rCheck_ev (k : Nat) (p : Pg) (nl : Bool) (cap : Option Nat) (nl2 : Bool) (cap2 : Option Nat) (hk : p.outs.length + p.code.length + 10 ≤ k) :
    ∃ n, run (k+1) 67 [aP p nl cap nl2 cap2] = some (.tup [ii n, bb (!rightM p)]) := by
  obtain ⟨ins, regs, code, outs⟩ := p
  simp only at hk
  rw [run, ev67, ans_trim]
  simp only [Try.f67, aP, ii, bb, FT, Int.reduceEq, Int.reduceToNat, Int.reduceLE, Int.reduceLT, Int.reduceAdd, Int.reduceMul, Int.reduceSub, Int.reduceNeg, Nat.reduceAdd, Nat.reduceSub, Nat.reduceMul, Nat.reduceLT, Nat.reduceBEq, Nat.reduceEqDiff, Nat.reduceLeDiff]
  by_cases hm : headM ⟨ins, regs, code, outs⟩ = true
  · have hm' := hm
    simp only [headM, decide_eq_true_eq] at hm'
    have q1 : ¬ ins < 1 := by omega
    have q2 : ¬ regs < ins := by omega
    have q3 : ¬ 128 < regs := by omega
    have q4 : ¬ (16384 : Int) < code.length := by omega
    have q5 : ¬ (outs.length : Int) < 1 := by omega
    have q6 : ¬ (128 : Int) < outs.length := by omega
    simp only [q1, q2, q3, q4, q5, q6, FT, Int.reduceEq, Int.reduceToNat, Int.reduceLE, Int.reduceLT, Int.reduceAdd, Int.reduceMul, Int.reduceSub, Int.reduceNeg, Nat.reduceAdd, Nat.reduceSub, Nat.reduceMul, Nat.reduceLT, Nat.reduceBEq, Nat.reduceEqDiff, Nat.reduceLeDiff]
    rw [evalCode_loopB LB67_4 lp67_4]; rotate_left; rfl; rfl; rfl
    generalize hz : loopR _ _ _ _ _ _ _ _ _ _ _ _ = z
    obtain ⟨l1, ⟨rfl, g1, ho⟩ | ⟨rfl, ⟨n, g1⟩, g2, ho⟩⟩ := loop_rCheck_4 k ins regs (sC code nl cap) outs nl2 cap2 (by omega) _ _ z hz (by omega) (by rfl) (by rfl)
    · simp only [g1, FT, Int.reduceEq, Int.reduceToNat, Int.reduceLE, Int.reduceLT, Int.reduceAdd, Int.reduceMul, Int.reduceSub, Int.reduceNeg, Nat.reduceAdd, Nat.reduceSub, Nat.reduceMul, Nat.reduceLT, Nat.reduceBEq, Nat.reduceEqDiff, Nat.reduceLeDiff]
      clear hz
      rw [evalCode_loopB LB67_9 lp67_9]; rotate_left; rfl; rfl; rfl
      generalize hz : loopR _ _ _ _ _ _ _ _ _ _ _ _ = z
      obtain ⟨l2, H2, ⟨rfl, hc⟩ | ⟨rfl, ⟨n, g2⟩, g3, hc⟩⟩ := loop_rCheck_9 k (by omega) ins regs (sI outs nl2 cap2) (by rfl) code nl cap (by omega) _ _ z hz (by omega) (by exact g1) (by rfl)
      · refine ⟨0, ?_⟩
        simp only [FT, Int.reduceEq, Int.reduceToNat, Int.reduceLE, Int.reduceLT, Int.reduceAdd, Int.reduceMul, Int.reduceSub, Int.reduceNeg, Nat.reduceAdd, Nat.reduceSub, Nat.reduceMul, Nat.reduceLT, Nat.reduceBEq, Nat.reduceEqDiff, Nat.reduceLeDiff]
        simp [rightM, hm, show outsM ⟨ins, regs, code, outs⟩ = _ from ho, show codeM ⟨ins, regs, code, outs⟩ = _ from hc]
      · refine ⟨n, ?_⟩
        simp only [g2, g3, FT, Int.reduceEq, Int.reduceToNat, Int.reduceLE, Int.reduceLT, Int.reduceAdd, Int.reduceMul, Int.reduceSub, Int.reduceNeg, Nat.reduceAdd, Nat.reduceSub, Nat.reduceMul, Nat.reduceLT, Nat.reduceBEq, Nat.reduceEqDiff, Nat.reduceLeDiff]
        simp [rightM, hm, show outsM ⟨ins, regs, code, outs⟩ = _ from ho, show codeM ⟨ins, regs, code, outs⟩ = _ from hc]
    · refine ⟨n, ?_⟩
      simp only [g1, g2, FT, Int.reduceEq, Int.reduceToNat, Int.reduceLE, Int.reduceLT, Int.reduceAdd, Int.reduceMul, Int.reduceSub, Int.reduceNeg, Nat.reduceAdd, Nat.reduceSub, Nat.reduceMul, Nat.reduceLT, Nat.reduceBEq, Nat.reduceEqDiff, Nat.reduceLeDiff]
      simp [rightM, hm, show outsM ⟨ins, regs, code, outs⟩ = _ from ho]
  · refine ⟨-1, ?_⟩
    have hr : rightM ⟨ins, regs, code, outs⟩ = false := by simp [rightM, hm]
    rw [hr]
    simp only [headM, decide_eq_true_eq] at hm
    repeat' (first
    | (rw [condO_dec]; split <;> simp only [*, FT, Int.reduceEq, Int.reduceToNat, Int.reduceLE, Int.reduceLT, Int.reduceAdd, Int.reduceMul, Int.reduceSub, Int.reduceNeg, Nat.reduceAdd, Nat.reduceSub, Nat.reduceMul, Nat.reduceLT, Nat.reduceBEq, Nat.reduceEqDiff, Nat.reduceLeDiff])
    | (rw [condO_ite]; split <;> simp only [*, FT, Int.reduceEq, Int.reduceToNat, Int.reduceLE, Int.reduceLT, Int.reduceAdd, Int.reduceMul, Int.reduceSub, Int.reduceNeg, Nat.reduceAdd, Nat.reduceSub, Nat.reduceMul, Nat.reduceLT, Nat.reduceBEq, Nat.reduceEqDiff, Nat.reduceLeDiff])
    | (split <;> simp only [*, FT, Int.reduceEq, Int.reduceToNat, Int.reduceLE, Int.reduceLT, Int.reduceAdd, Int.reduceMul, Int.reduceSub, Int.reduceNeg, Nat.reduceAdd, Nat.reduceSub, Nat.reduceMul, Nat.reduceLT, Nat.reduceBEq, Nat.reduceEqDiff, Nat.reduceLeDiff]))
    all_goals first
      | rfl
      | (exfalso; omega)
theorem rRight_ev (k : Nat) (p : Pg) (nl : Bool) (cap : Option Nat) (nl2 : Bool) (cap2 : Option Nat) (hk : p.outs.length + p.code.length + 11 ≤ k) :
    run (k+1) 17 [aP p nl cap nl2 cap2] = some (bb (rightM p)) := by
  obtain ⟨k, rfl⟩ : ∃ j, k = j + 1 := ⟨k - 1, by omega⟩
  obtain ⟨n, hc⟩ := rCheck_ev k p nl cap nl2 cap2 (by omega)
  simp only [run, aP, ii, bb] at hc
  rw [run, ev17, ans_trim]
  simp only [Try.f17, aP, ii, bb, hc, FT, Int.reduceEq, Int.reduceToNat, Int.reduceLE, Int.reduceLT, Int.reduceAdd, Int.reduceMul, Int.reduceSub, Int.reduceNeg, Nat.reduceAdd, Nat.reduceSub, Nat.reduceMul, Nat.reduceLT, Nat.reduceBEq, Nat.reduceEqDiff, Nat.reduceLeDiff]
  cases hr : rightM p <;> simp
end Go.Proofs.Sw
namespace Go.Proofs.Sw
open Go.Ab
variable [Globals]
theorem sharePass_run (k : Nat) (ins : Int) (n : Nat) (code : List Ins) (outs : List Int) (nl : Bool) (cap : Option Nat) (nl2 : Bool) (cap2 : Option Nat) (hk : outs.length + code.length + 400 ≤ k) (hr : rightM ⟨ins, n, code, outs⟩ = true) :
    ∃ (nl3 : Bool) (cap3 : Option Nat), run (k+9) 16 [aP ⟨ins, n, code, outs⟩ nl cap nl2 cap2] = some (.tup [aP (sharePg ins n code outs) nl3 cap3 false none, ii 0]) := by
  obtain ⟨X, h⟩ := sharePass_ev k ins n code outs nl cap nl2 cap2 hk hr
  obtain ⟨C, hC⟩ : ∃ C, C = passC ins n code := ⟨_, rfl⟩
  obtain ⟨O, hO⟩ : ∃ O, O = outsL (passS ins n code).held outs := ⟨_, rfl⟩
  have hpg : sharePg ins n code outs = ⟨ins, n, C, O⟩ := by rw [hC, hO]; rfl
  have hOl : O.length = outs.length := by rw [hO, outsL_length]
  rw [← hC, ← hO] at h
  rw [hpg]
  have hel := encCode_length C
  have hOe : (encInts O).length = outs.length := by rw [encInts_length, hOl]
  have htk : (encInts O).take outs.length = encInts O := List.take_of_length_le (by rw [hOe]; exact Nat.le_refl _)
  by_cases h0 : C.length = 0
  · have hCn : C = [] := List.eq_nil_of_length_eq_zero h0
    subst hCn
    refine ⟨true, some 0, ?_⟩
    unfold run
    rw [h]
    simp only [List.length_nil, lv_zero, lo_zero, hOe, htk, Nat.le_refl, FT, Int.reduceEq, Int.reduceToNat, Int.reduceLE, Int.reduceLT, Int.reduceAdd, Int.reduceMul, Int.reduceSub, Int.reduceNeg, Nat.reduceAdd, Nat.reduceSub, Nat.reduceMul, Nat.reduceLT, Nat.reduceBEq, Nat.reduceEqDiff, Nat.reduceLeDiff]
    simp only [aP, sC, sI, encCode, List.length_nil, hOl]
  · refine ⟨false, none, ?_⟩
    unfold run
    have e0 : codeO C = .row false 34 (encCode C) := lo_pos (show 0 < C.length by omega)
    rw [h, lv_pos (show 0 < C.length by omega), e0]
    have htc : (encCode C).take (C.length * 5) = encCode C := List.take_of_length_le (by rw [hel]; exact Nat.le_refl _)
    simp only [hel, htc, hOe, htk, Nat.le_refl, FT, Int.reduceEq, Int.reduceToNat, Int.reduceLE, Int.reduceLT, Int.reduceAdd, Int.reduceMul, Int.reduceSub, Int.reduceNeg, Nat.reduceAdd, Nat.reduceSub, Nat.reduceMul, Nat.reduceLT, Nat.reduceBEq, Nat.reduceEqDiff, Nat.reduceLeDiff]
    simp only [aP, sC, sI, hOl]
end Go.Proofs.Sw
namespace Go.Proofs.Sw
open Go.Ab
variable [Globals]
theorem holdM_mem {v : Int} : ∀ {l : List Int}, v ∈ l → ∀ j, ∃ i, i < l.length ∧ holdM v l j = ((j + i : Nat) : Int) ∧ l.getD i 0 = v
  | [], h, _ => by cases h
  | x :: l, h, j => by
    rw [holdM]
    by_cases e : x = v
    · rw [if_pos e]
      exact ⟨0, by simp, by simp, by simpa using e⟩
    · rw [if_neg e]
      rcases List.mem_cons.1 h with h | h
      · exact absurd h.symm e
      · obtain ⟨i, h1, h2, h3⟩ := holdM_mem h (j + 1)
        exact ⟨i + 1, by simpa using h1, by rw [h2]; congr 1; omega, by simpa using h3⟩
theorem holdM_not {v : Int} : ∀ {l : List Int}, v ∉ l → ∀ j, holdM v l j = -1
  | [], _, _ => rfl
  | x :: l, h, j => by
    rw [List.mem_cons, not_or] at h
    rw [holdM, if_neg (fun e => h.1 e.symm), holdM_not h.2]
theorem holdM_ge {v : Int} {l : List Int} : 0 ≤ holdM v l 0 ↔ v ∈ l := by
  by_cases h : v ∈ l
  · obtain ⟨i, _, h2, _⟩ := holdM_mem h 0
    rw [h2]
    exact ⟨fun _ => h, fun _ => by omega⟩
  · rw [holdM_not h]
    exact ⟨fun h' => absurd h' (by decide), fun h' => absurd h' h⟩
theorem holdM_at {v : Int} {l : List Int} (h : v ∈ l) : (0 ≤ holdM v l 0 ∧ holdM v l 0 < l.length) ∧ l.getD (holdM v l 0).toNat 0 = v := by
  obtain ⟨i, h1, h2, h3⟩ := holdM_mem h 0
  rw [h2]
  exact ⟨by omega, by simpa using h3⟩
theorem getD_memI {l : List Int} {r : Int} (h0 : 0 ≤ r) (h : r < l.length) : l.getD r.toNat 0 ∈ l := by
  have : r.toNat < l.length := by omega
  rw [List.getD_eq_getElem?_getD, List.getElem?_eq_getElem this]
  exact List.getElem_mem this
def Fresh (S : St) : Prop := (∀ h ∈ S.held, h < S.next) ∧ ∀ e ∈ S.keys, e.2.1 < S.next
theorem lookK_none_new {S : St} {n : Int} {x : Ins} (h1 : x.op ≠ 1) (hl : lookK (keyM S.held x) S.keys = none) : reckonM S n x = (S.next, n, { S with keys := S.keys ++ [(keyM S.held x, S.next, n)], next := S.next + 1 }) := by
  rw [reckonM, if_neg h1, hl]
theorem lookK_some_old {S : St} {n : Int} {x : Ins} {p : Nat × Ent} (h1 : x.op ≠ 1) (hl : lookK (keyM S.held x) S.keys = some p) : reckonM S n x = (p.2.2.1, p.2.2.2, S) := by
  rw [reckonM, if_neg h1, hl]
theorem emitM_may {S : St} {x : Ins} {v : Int} (hm : mayM x S.held.length = true) : mayM (emitM v S.held x) S.held.length = true := by
  have hm0 := hm
  obtain ⟨⟨m1, m2⟩, ⟨m3, m4⟩, ⟨m5, m6⟩, m7⟩ := mayM_facts hm
  unfold emitM
  split
  · rename_i h
    obtain ⟨⟨g1, g2⟩, _⟩ := holdM_at (holdM_ge.1 h)
    simp only [mayM, constant, Bool.and_eq_true, decide_eq_true_eq]
    exact ⟨⟨⟨⟨by decide, by decide, m3, m4, by simp⟩, by simp⟩, g1, g2⟩, fun h => by rcases h with h | h <;> cases h⟩
  · obtain ⟨⟨g1, g2⟩, _⟩ := holdM_at (getD_memI m5 m6)
    simp only [mayM, Bool.and_eq_true, decide_eq_true_eq] at hm0 ⊢
    obtain ⟨⟨⟨⟨_, _, _, _, q5⟩, q6⟩, _⟩, _⟩ := hm0
    by_cases h34 : x.op = 3 ∨ x.op = 4
    · obtain ⟨b0, b1⟩ := m7 h34
      obtain ⟨⟨g3, g4⟩, _⟩ := holdM_at (getD_memI b0 b1)
      simp only [askM, h34, if_true]
      exact ⟨⟨⟨⟨m1, m2, m3, m4, by rcases h34 with h | h; exact .inl h; exact .inr (.inl h)⟩, q6⟩, g1, g2⟩, fun _ => ⟨g3, g4⟩⟩
    · simp only [askM, h34, if_false]
      exact ⟨⟨⟨⟨m1, m2, m3, m4, q5⟩, q6⟩, g1, g2⟩, by first | trivial | exact fun h => absurd h h34 | exact fun h => h.elim⟩
theorem passAt_may {S0 : St} {code : List Ins} (hcode : ∀ i ∈ code, mayM i S0.held.length = true) : ∀ i, ∀ e ∈ (passAt S0 code i).2, mayM e S0.held.length = true
  | 0, e, h => by cases h
  | i + 1, e, h => by
    rw [passAt] at h
    split at h
    · rename_i x hx
      have hl := (passAt_facts S0 code i).1
      have hm := hcode x (List.mem_of_getElem? hx)
      simp only [passStep] at h
      split at h
      · exact passAt_may hcode i e h
      · rcases List.mem_append.1 h with h | h
        · exact passAt_may hcode i e h
        · simp only [List.mem_cons, List.not_mem_nil, or_false] at h
          subst h
          rw [← hl] at hm ⊢
          exact emitM_may hm
    · exact passAt_may hcode i e h
theorem startS_fresh {ins : Int} {n : Nat} (h : 0 ≤ ins) : Fresh (startS ins n) := by
  refine ⟨fun h hh => ?_, fun e he => by cases he⟩
  simp only [startS, startM, List.mem_map, List.mem_range] at hh ⊢
  obtain ⟨r, _, rfl⟩ := hh
  split <;> omega
theorem share_right {ins : Int} {n : Nat} {code : List Ins} {outs : List Int} (hr : rightM ⟨ins, n, code, outs⟩ = true) : rightM (sharePg ins n code outs) = true := by
  have hr0 := hr
  simp only [rightM, headM, codeM, outsM, Bool.and_eq_true, decide_eq_true_eq, List.all_eq_true] at hr ⊢
  obtain ⟨⟨⟨h1, h2, h3, h4, h5, h6⟩, ho⟩, hc⟩ := hr
  have hl : (startS ins n).held.length = n := startM_length ins n
  have hcode : ∀ i ∈ code, mayM i (startS ins n).held.length = true := by rw [hl]; exact hc
  have hf := passAt_facts (startS ins n) code code.length
  have hpl : (passS ins n code).held.length = n := hf.1.trans hl
  have hlen : (passC ins n code).length ≤ code.length := hf.2.2.2.2
  refine ⟨⟨⟨h1, h2, h3, Nat.le_trans hlen h4, by simp only [sharePg, outsL_length]; exact h5, by simp only [sharePg, outsL_length]; exact h6⟩, fun r hr => ?_⟩, fun e he => ?_⟩
  · simp only [sharePg, outsL, List.mem_map] at hr
    obtain ⟨r0, hr0, rfl⟩ := hr
    have := ho r0 hr0
    have hat := holdM_at (getD_memI (l := (passS ins n code).held) this.1 (by rw [hpl]; exact this.2))
    rw [hpl] at hat
    exact hat.1
  · have := passAt_may hcode code.length e he
    rw [hl] at this
    exact this
end Go.Proofs.Sw
namespace Go.Proofs.Sw
open Go.Ab
variable [Globals]
section
variable {α : Type} (M : Sem α)
structure ShI (S : St) (R : List α) (w : Int → α) : Prop where
  len : R.length = S.held.length
  reg : ∀ r : Nat, r < R.length → R.getD r M.d = w (S.held.getD r 0)
  good : ∀ v, M.G (w v)
  fresh : Fresh S
  pos : 0 ≤ S.next
  keys : ∀ e ∈ S.keys, e.1.a < S.next ∧ e.1.b < S.next ∧ M.f e.1.op e.1.c (w e.1.a) (w e.1.b) = some (w e.2.1)
variable {M}
theorem ShI.at {S : St} {R : List α} {w : Int → α} (h : ShI M S R w) {r : Int} (h0 : 0 ≤ r) (h1 : r < S.held.length) : R.getD r.toNat M.d = w (S.held.getD r.toNat 0) := h.reg r.toNat (by rw [h.len]; omega)
theorem ShI.hold {S : St} {R : List α} {w : Int → α} (h : ShI M S R w) {v : Int} (hv : v ∈ S.held) : R.getD (holdM v S.held 0).toNat M.d = w v := by
  obtain ⟨⟨h0, h1⟩, h2⟩ := holdM_at hv
  rw [h.at h0 h1, h2]
theorem ShI.key {S : St} {R : List α} {w : Int → α} (h : ShI M S R w) {x : Ins} (hm : mayM x S.held.length = true) :
    M.f x.op x.c (R.getD x.a.toNat M.d) (R.getD x.b.toNat M.d) = M.f (keyM S.held x).op (keyM S.held x).c (w (keyM S.held x).a) (w (keyM S.held x).b) := by
  obtain ⟨_, _, ⟨m5, m6⟩, m7⟩ := mayM_facts hm
  rw [h.at m5 m6]
  by_cases h34 : x.op = 3 ∨ x.op = 4
  · obtain ⟨b0, b1⟩ := m7 h34
    rw [h.at b0 b1]
    by_cases hs : x.op = 3 ∧ S.held.getD x.b.toNat 0 < S.held.getD x.a.toNat 0
    · rw [keyM_swap hs.1 hs.2, hs.1]
      exact M.comm _ _ _ (h.good _) (h.good _)
    · rw [keyM_two h34 hs]
  · rw [keyM_one h34]
    exact M.two _ _ _ _ _ (fun e => h34 (.inl e)) (fun e => h34 (.inr e))
theorem ShI.ask {S : St} {R : List α} {w : Int → α} (h : ShI M S R w) {x : Ins} (hm : mayM x S.held.length = true) : stepE M R (askM S.held x) = stepE M R x := by
  obtain ⟨_, _, ⟨m5, m6⟩, m7⟩ := mayM_facts hm
  have ha : R.getD (askM S.held x).a.toNat M.d = R.getD x.a.toNat M.d := by
    show R.getD (holdM _ S.held 0).toNat M.d = _
    rw [h.hold (getD_memI m5 m6), h.at m5 m6]
  unfold stepE
  rw [ha, askM_op, askM_to, askM_c]
  by_cases h34 : x.op = 3 ∨ x.op = 4
  · obtain ⟨b0, b1⟩ := m7 h34
    have hb : R.getD (askM S.held x).b.toNat M.d = R.getD x.b.toNat M.d := by
      show R.getD (if x.op = 3 ∨ x.op = 4 then holdM _ S.held 0 else x.b).toNat M.d = _
      rw [if_pos h34, h.hold (getD_memI b0 b1), h.at b0 b1]
    rw [hb]
  · rw [M.two x.op x.c _ _ (R.getD x.b.toNat M.d) (fun e => h34 (.inl e)) (fun e => h34 (.inr e))]
theorem ShI.put {S : St} {R : List α} {w : Int → α} (h : ShI M S R w) {to v : Int} (h0 : 0 ≤ to) (h1 : to < S.held.length) (hv : v < S.next) : ShI M { S with held := S.held.set to.toNat v } (R.set to.toNat (w v)) w := by
  have h2 : to.toNat < S.held.length := by omega
  refine ⟨by simp [h.len], fun r hr => ?_, h.good, ⟨fun z hz => ?_, h.fresh.2⟩, h.pos, h.keys⟩
  · rw [List.length_set] at hr
    show _ = w ((S.held.set to.toNat v).getD r 0)
    rw [getDA_set (by rw [h.len]; exact h2), getDA_set h2]
    split
    · rfl
    · exact h.reg r hr
  · rcases List.mem_or_eq_of_mem_set hz with hz | rfl
    · exact h.fresh.1 z hz
    · exact hv
theorem ShI.step {S : St} {R : List α} {w : Int → α} (h : ShI M S R w) (n : Int) {x : Ins} (hm : mayM x S.held.length = true) (out : List Ins) (R0 : List α) (hR : runE M out R0 = some R) :
    (stepE M R x = none → runE M (passStep (S, out) n x).2 R0 = none) ∧ ∀ Q, stepE M R x = some Q → ∃ w', runE M (passStep (S, out) n x).2 R0 = some Q ∧ ShI M (passStep (S, out) n x).1 Q w' := by
  obtain ⟨⟨m1, m2⟩, ⟨m3, m4⟩, ⟨m5, m6⟩, m7⟩ := mayM_facts hm
  have hto : x.to.toNat < S.held.length := by omega
  have hk := h.key hm
  have hask := h.ask hm
  have known : ∀ v : Int, v < S.next → reckonM S n x = (v, (reckonM S n x).2.1, S) → stepE M R x = some (R.set x.to.toNat (w v)) →
      ∃ w', runE M (passStep (S, out) n x).2 R0 = some (R.set x.to.toNat (w v)) ∧ ShI M (passStep (S, out) n x).1 (R.set x.to.toNat (w v)) w' := by
    intro v hv hr hs
    by_cases he : S.held.getD x.to.toNat 0 = v
    · have e : passStep (S, out) n x = (S, out) := by simp only [passStep]; rw [hr]; exact if_pos he
      have e2 : R.set x.to.toNat (w v) = R := by
        have := h.at m3 m4
        rw [he] at this
        rw [← this]
        exact set_getD (by rw [h.len]; exact hto)
      rw [e, e2]
      exact ⟨w, hR, h⟩
    · have e : passStep (S, out) n x = ({ S with held := S.held.set x.to.toNat v }, out ++ [emitM v S.held x]) := by simp only [passStep]; rw [hr]; exact if_neg he
      rw [e]
      refine ⟨w, ?_, h.put m3 m4 hv⟩
      show runE M (out ++ [emitM v S.held x]) R0 = _
      rw [runE_snoc, hR]
      show stepE M R (emitM v S.held x) = _
      unfold emitM
      split
      · rename_i hh
        have hh' := h.hold (holdM_ge.1 hh)
        unfold stepE
        rw [M.one]
        show some (R.set x.to.toNat (R.getD (holdM v S.held 0).toNat M.d)) = _
        rw [hh']
      · rw [hask, hs]
  by_cases h1 : x.op = 1
  · have hs : stepE M R x = some (R.set x.to.toNat (w (S.held.getD x.a.toNat 0))) := by
      unfold stepE
      rw [h1, M.one, h.at m5 m6]
      rfl
    rw [hs]
    refine ⟨fun e => (nomatch e), fun Q hQ => ?_⟩
    obtain rfl := Option.some.inj hQ
    exact known _ (h.fresh.1 _ (getD_memI m5 m6)) (by rw [reckonM_one h1]) hs
  · cases hl : lookK (keyM S.held x) S.keys with
    | some p =>
      obtain ⟨hp1, hp2⟩ := lookK_at hl
      obtain ⟨k1, k2, k3⟩ := h.keys _ (List.mem_of_getElem? hp1)
      rw [hp2] at k3
      have hs : stepE M R x = some (R.set x.to.toNat (w p.2.2.1)) := by
        unfold stepE
        rw [hk, k3]
        rfl
      rw [hs]
      refine ⟨fun e => (nomatch e), fun Q hQ => ?_⟩
      obtain rfl := Option.some.inj hQ
      exact known _ (h.fresh.2 _ (List.mem_of_getElem? hp1)) (by rw [lookK_some_old h1 hl]) hs
    | none =>
      have hr := lookK_none_new (n := n) h1 hl
      have hnew : S.next ∉ S.held := fun hh => by have := h.fresh.1 _ hh; omega
      have he : S.held.getD x.to.toNat 0 ≠ S.next := fun e => hnew (by rw [← e]; exact getD_memI m3 m4)
      have hem : emitM S.next S.held x = askM S.held x := if_neg (fun hh => hnew (holdM_ge.1 hh))
      have e : passStep (S, out) n x = ({ S with keys := S.keys ++ [(keyM S.held x, S.next, n)], next := S.next + 1, held := S.held.set x.to.toNat S.next }, out ++ [askM S.held x]) := by
        simp only [passStep]; rw [hr, if_neg he, hem]
      have hrun : runE M (passStep (S, out) n x).2 R0 = stepE M R x := by
        rw [e]
        show runE M (out ++ [askM S.held x]) R0 = _
        rw [runE_snoc, hR]
        exact hask
      rw [hrun]
      refine ⟨fun h => h, fun Q hQ => ?_⟩
      have hQ0 := hQ
      unfold stepE at hQ
      cases hf : M.f x.op x.c (R.getD x.a.toNat M.d) (R.getD x.b.toNat M.d) with
      | none => rw [hf] at hQ; cases hQ
      | some u =>
        rw [hf] at hQ
        obtain rfl := Option.some.inj hQ
        rw [hk] at hf
        have hgu : M.G u := M.good _ _ _ _ _ (h.good _) (h.good _) hf
        refine ⟨fun z => if z = S.next then u else w z, hQ0, ?_⟩
        have hold : ∀ z, z < S.next → (if z = S.next then u else w z) = w z := fun z hz => if_neg (by omega)
        have hka : (keyM S.held x).a < S.next ∧ (keyM S.held x).b < S.next := by
          have g1 := h.fresh.1 _ (getD_memI m5 m6)
          by_cases h34 : x.op = 3 ∨ x.op = 4
          · have g2 := h.fresh.1 _ (getD_memI (m7 h34).1 (m7 h34).2)
            by_cases hs : x.op = 3 ∧ S.held.getD x.b.toNat 0 < S.held.getD x.a.toNat 0
            · rw [keyM_swap hs.1 hs.2]; exact ⟨g2, g1⟩
            · rw [keyM_two h34 hs]; exact ⟨g1, g2⟩
          · rw [keyM_one h34]
            have := h.pos
            exact ⟨g1, by show (-1 : Int) < S.next; omega⟩
        rw [e]
        refine ⟨by simp [h.len], fun r hr => ?_, fun v => ?_, ⟨fun z hz => ?_, fun e he => ?_⟩, by have := h.pos; show 0 ≤ S.next + 1; omega, fun e he => ?_⟩
        · rw [List.length_set] at hr
          show _ = (if (S.held.set x.to.toNat S.next).getD r 0 = S.next then u else w ((S.held.set x.to.toNat S.next).getD r 0))
          rw [getDA_set (by rw [h.len]; exact hto), getDA_set hto]
          by_cases hrt : r = x.to.toNat
          · rw [if_pos hrt, if_pos hrt, if_pos rfl]
          · rw [if_neg hrt, if_neg hrt, hold _ (h.fresh.1 _ (by
              rw [List.getD_eq_getElem?_getD, List.getElem?_eq_getElem (by rw [← h.len]; exact hr)]
              exact List.getElem_mem _))]
            exact h.reg r hr
        · show M.G (if v = S.next then u else w v)
          split
          · exact hgu
          · exact h.good v
        · show z < S.next + 1
          rcases List.mem_or_eq_of_mem_set hz with hz | rfl
          · have := h.fresh.1 z hz; omega
          · omega
        · show e.2.1 < S.next + 1
          rcases List.mem_append.1 he with he | he
          · have := h.fresh.2 e he; omega
          · simp only [List.mem_cons, List.not_mem_nil, or_false] at he
            subst he
            show S.next < S.next + 1
            omega
        · show e.1.a < S.next + 1 ∧ e.1.b < S.next + 1 ∧ M.f e.1.op e.1.c (if e.1.a = S.next then u else w e.1.a) (if e.1.b = S.next then u else w e.1.b) = some (if e.2.1 = S.next then u else w e.2.1)
          rcases List.mem_append.1 he with he | he
          · obtain ⟨k1, k2, k3⟩ := h.keys e he
            have k4 := h.fresh.2 e he
            rw [hold _ k1, hold _ k2, hold _ k4]
            exact ⟨by omega, by omega, k3⟩
          · simp only [List.mem_cons, List.not_mem_nil, or_false] at he
            subst he
            show (keyM S.held x).a < S.next + 1 ∧ (keyM S.held x).b < S.next + 1 ∧ M.f (keyM S.held x).op (keyM S.held x).c (if (keyM S.held x).a = S.next then u else w (keyM S.held x).a) (if (keyM S.held x).b = S.next then u else w (keyM S.held x).b) = some (if S.next = S.next then u else w S.next)
            rw [hold _ hka.1, hold _ hka.2, if_pos rfl]
            exact ⟨by omega, by omega, hf⟩
theorem share_run {S0 : St} {code : List Ins} (hcode : ∀ i ∈ code, mayM i S0.held.length = true) {R0 : List α} {w0 : Int → α} (h0 : ShI M S0 R0 w0) : ∀ i, i ≤ code.length →
    (runE M (code.take i) R0 = none ∧ runE M (passAt S0 code i).2 R0 = none) ∨ ∃ R w, runE M (code.take i) R0 = some R ∧ runE M (passAt S0 code i).2 R0 = some R ∧ ShI M (passAt S0 code i).1 R w
  | 0, _ => .inr ⟨R0, w0, rfl, rfl, h0⟩
  | i + 1, hi => by
    have hlt : i < code.length := hi
    have ih := share_run hcode h0 i (by omega)
    have hps := passAt_succ (S0 := S0) hlt
    rw [List.take_succ_eq_append_getElem hlt, runE_snoc, hps]
    have hm := hcode _ (List.getElem_mem hlt)
    rw [← (passAt_facts S0 code i).1] at hm
    rcases ih with ⟨h1, h2⟩ | ⟨R, w, h1, h2, h3⟩
    · refine .inl ⟨by rw [h1]; rfl, ?_⟩
      simp only [passStep]
      split
      · exact h2
      · show runE M (_ ++ [_]) R0 = none
        rw [runE_snoc, h2]; rfl
    · obtain ⟨s1, s2⟩ := h3.step i hm (passAt S0 code i).2 R0 h2
      rw [h1]
      cases hs : stepE M R code[i] with
      | none => exact .inl ⟨hs, s1 hs⟩
      | some Q =>
        obtain ⟨w', q1, q2⟩ := s2 Q hs
        exact .inr ⟨Q, w', hs, q1, q2⟩
theorem startS_get {ins : Int} {n r : Nat} (h : r < n) : (startM ins n).getD r 0 = if (r : Int) < ins then (r : Int) else ins := by
  unfold startM
  simp only [List.getD_eq_getElem?_getD, List.getElem?_map, List.getElem?_range h, Option.map_some, Option.getD_some]
  split <;> split <;> omega
theorem share_start {ins : Int} {n : Nat} (h0 : 0 ≤ ins) {R0 : List α} (hl : R0.length = n) (hg : ∀ a ∈ R0, M.G a) (hz : ∀ r : Nat, ins ≤ r → r < n → R0.getD r M.d = R0.getD ins.toNat M.d) : ShI M (startS ins n) R0 (fun v => if v < ins then R0.getD v.toNat M.d else R0.getD ins.toNat M.d) := by
  have hgd : ∀ r : Nat, M.G (R0.getD r M.d) := fun r => by
    rw [List.getD_eq_getElem?_getD]
    by_cases h : r < R0.length
    · rw [List.getElem?_eq_getElem h]; exact hg _ (List.getElem_mem h)
    · rw [List.getElem?_eq_none (by omega)]; exact M.gd
  refine ⟨by rw [hl]; exact (startM_length ins n).symm, fun r hr => ?_, fun v => ?_, startS_fresh h0, by show 0 ≤ ins + 1; omega, fun e he => by cases he⟩
  · rw [hl] at hr
    show _ = if (startM ins n).getD r 0 < ins then _ else _
    rw [startS_get hr]
    by_cases h : (r : Int) < ins
    · rw [if_pos h, if_pos h, Int.toNat_natCast]
    · rw [if_neg h, if_neg (by omega)]
      exact hz r (by omega) hr
  · split <;> exact hgd _
theorem share_same {ins : Int} {n : Nat} {code : List Ins} {outs : List Int} (hr : rightM ⟨ins, n, code, outs⟩ = true) {R0 : List α} (hl : R0.length = n) (hg : ∀ a ∈ R0, M.G a) (hz : ∀ r : Nat, ins ≤ r → r < n → R0.getD r M.d = R0.getD ins.toNat M.d) :
    runE M (passC ins n code) R0 = runE M code R0 ∧ ∀ R, runE M code R0 = some R → (outsL (passS ins n code).held outs).map (fun r => R.getD r.toNat M.d) = outs.map (fun r => R.getD r.toNat M.d) := by
  simp only [rightM, headM, codeM, outsM, Bool.and_eq_true, decide_eq_true_eq, List.all_eq_true] at hr
  obtain ⟨⟨⟨h1, h2, h3, h4, h5, h6⟩, ho⟩, hc⟩ := hr
  have hs : (startS ins n).held.length = n := startM_length ins n
  have hcode : ∀ i ∈ code, mayM i (startS ins n).held.length = true := by rw [hs]; exact hc
  have h := share_run (M := M) hcode (share_start (by omega) hl hg hz) code.length (Nat.le_refl _)
  rw [List.take_of_length_le (Nat.le_refl _)] at h
  rcases h with ⟨q1, q2⟩ | ⟨R, w, q1, q2, q3⟩
  · exact ⟨by rw [q1]; exact q2, fun R hR => by rw [q1] at hR; cases hR⟩
  · refine ⟨by rw [q1]; exact q2, fun R' hR => ?_⟩
    rw [q1] at hR
    obtain rfl := Option.some.inj hR
    unfold outsL
    rw [List.map_map]
    refine List.map_congr_left fun r hr => ?_
    have hb := ho r hr
    have hpl : (passS ins n code).held.length = n := (passAt_facts (startS ins n) code code.length).1.trans hs
    show R.getD (holdM ((passS ins n code).held.getD r.toNat 0) (passS ins n code).held 0).toNat M.d = _
    have hb2 : r < (passS ins n code).held.length := by rw [hpl]; exact hb.2
    rw [q3.hold (getD_memI hb.1 hb2), q3.at hb.1 hb2]
end
end Go.Proofs.Sw
namespace Go.Proofs.Sw.W
open Go.Ab
section
variable [Globals]
def cls (op : Int) : Nat := if op = 1 then 0 else if op ≤ 4 then 1 else if op = 5 then 2 else if op = 6 then 3 else 4
def cnt (code : List Ins) (k : Nat) : Nat := code.countP fun x => decide (cls x.op = k)
theorem cnt_snoc (l : List Ins) (x : Ins) (k : Nat) : cnt (l ++ [x]) k = cnt l k + (if cls x.op = k then 1 else 0) := by
  unfold cnt
  rw [List.countP_append, List.countP_singleton]
  by_cases h : cls x.op = k <;> simp [h]
theorem cnt_le (l : List Ins) (k : Nat) : cnt l k ≤ l.length := List.countP_le_length
theorem cnt_emit (v : Int) (held : List Int) (x : Ins) (k : Nat) (hk : 1 ≤ k) : (if cls (emitM v held x).op = k then 1 else 0) ≤ (if cls x.op = k then 1 else 0) := by
  unfold emitM
  split
  · have : ¬ cls 1 = k := by simp [cls]; omega
    rw [if_neg this]; exact Nat.zero_le _
  · rw [askM_op]; exact Nat.le_refl _
theorem cnt_pass (S0 : St) (code : List Ins) (k : Nat) (hk : 1 ≤ k) : ∀ i, cnt (passAt S0 code i).2 k ≤ cnt (code.take i) k
  | 0 => by simp [passAt, cnt]
  | i + 1 => by
    have ih := cnt_pass S0 code k hk i
    by_cases h : i < code.length
    · rw [passAt_succ h, List.take_succ_eq_append_getElem h, cnt_snoc]
      have he := cnt_emit (reckonM (passAt S0 code i).1 i code[i]).1 (passAt S0 code i).1.held code[i] k hk
      simp only [passStep]
      split
      · exact Nat.le_trans ih (Nat.le_add_right _ _)
      · simp only [cnt_snoc]
        exact Nat.add_le_add ih he
    · rw [passAt, List.getElem?_eq_none (by omega), List.take_of_length_le (by omega)]
      rw [List.take_of_length_le (by omega)] at ih
      exact ih
abbrev cC (l : List Ins) : AObj := .cells 85 [ii (cnt l 0), ii (cnt l 1), ii (cnt l 2), ii (cnt l 3), ii (cnt l 4)]
theorem loop_Count (kf : Nat) (x0 x1 x3 : IV) (code : List Ins) (nl : Bool) (cap : Option Nat) (hlen : code.length ≤ 1000000) (k : Nat) (l : Ass) (z : Option Out) (hz : loopR Try.prog tab kf none LB57_3 57 48 [1, 2, 3, 4] 3 k l ([.cells 25 [.c x0, .c x1, sC code nl cap, .c x3], .cells 85 [ii 0, ii 0, ii 0, ii 0, ii 0], cC (code.take 0)]) = z) (hk : code.length < k) (a1 : asc l 1 = .ptr 0 0) (a2 : asc l 2 = .ptr 1 0) (a3 : asc l 3 = .ptr 2 0) (a4 : asc l 4 = ii 0) :
    ∃ l', z = some (.exit 0 (fr 48 l') ([.cells 25 [.c x0, .c x1, sC code nl cap, .c x3], .cells 85 [ii 0, ii 0, ii 0, ii 0, ii 0], cC (code.take code.length)])) ∧ asc l' 1 = .ptr 0 0 ∧ asc l' 2 = .ptr 1 0 ∧ asc l' 3 = .ptr 2 0 ∧ asc l' 4 = ii code.length := by
  subst hz
  refine loop_nat code.length (fun k l H => loopR Try.prog tab kf none LB57_3 57 48 [1, 2, 3, 4] 3 k l H)
    (fun i l H => asc l 1 = .ptr 0 0 ∧ asc l 2 = .ptr 1 0 ∧ asc l 3 = .ptr 2 0 ∧ asc l 4 = ii i ∧ ∃ G, H = ([.cells 25 [.c x0, .c x1, sC code nl cap, .c x3], .cells 85 [ii 0, ii 0, ii 0, ii 0, ii 0], cC (code.take i)]) ++ G)
    (fun z => ∃ l', z = some (.exit 0 (fr 48 l') ([.cells 25 [.c x0, .c x1, sC code nl cap, .c x3], .cells 85 [ii 0, ii 0, ii 0, ii 0, ii 0], cC (code.take code.length)])) ∧ asc l' 1 = .ptr 0 0 ∧ asc l' 2 = .ptr 1 0 ∧ asc l' 3 = .ptr 2 0 ∧ asc l' 4 = ii code.length) ?_ code.length 0 k l _ (by omega) hk ⟨a1, a2, a3, a4, [], by rw [List.append_nil]⟩
  clear hk a1 a2 a3 a4
  rintro i k l H hi ⟨a1, a2, a3, a4, G, rfl⟩
  have ht : trim 3 (fr 48 (keep l [1, 2, 3, 4])) (([.cells 25 [.c x0, .c x1, sC code nl cap, .c x3], .cells 85 [ii 0, ii 0, ii 0, ii 0, ii 0], cC (code.take i)]) ++ G) = ([.cells 25 [.c x0, .c x1, sC code nl cap, .c x3], .cells 85 [ii 0, ii 0, ii 0, ii 0, ii 0], cC (code.take i)]) := trim_app (by simp) (by simp only [a1, a2, a3, a4, EVb, EVc, Int.reduceEq, Int.reduceToNat, Int.reduceLE, Int.reduceLT, Int.reduceAdd, Int.reduceMul, Int.reduceSub, Int.reduceNeg, Nat.reduceAdd, Nat.reduceSub, Nat.reduceMul, Nat.reduceLT, Nat.reduceBEq, Nat.reduceEqDiff, Nat.reduceLeDiff]) (by simp only [EVb, EVc, Int.reduceEq, Int.reduceToNat, Int.reduceLE, Int.reduceLT, Int.reduceAdd, Int.reduceMul, Int.reduceSub, Int.reduceNeg, Nat.reduceAdd, Nat.reduceSub, Nat.reduceMul, Nat.reduceLT, Nat.reduceBEq, Nat.reduceEqDiff, Nat.reduceLeDiff])
  by_cases hc : i < code.length
  · have hc' : (i : Int) < ((code.length : Nat) : Int) := by omega
    have hc0 : (0 : Int) ≤ i := by omega
    have hw : IntKind.wrap .i64 ((i : Int) + 1) = ((i + 1 : Nat) : Int) := by rw [wrap64 (by omega) (by omega)]; omega
    have hx := (encCode_cell hc).1
    have hst := fun j => cnt_snoc (code.take i) code[i] j
    rw [← List.take_succ_eq_append_getElem hc] at hst
    have hle := fun j => cnt_le (code.take i) j
    simp only [List.length_take, Nat.min_eq_left (show i ≤ code.length by omega)] at hle
    have hw0 := fun j => show IntKind.wrap .i64 ((cnt (code.take i) j : Int) + 1) = ((cnt (code.take i) j + 1 : Nat) : Int) by have := hle j; rw [wrap64 (by omega) (by omega)]; omega
    have e := fun a (h : cls code[i].op = a) => show cC (code.take (i + 1)) = .cells 85 [ii (cnt (code.take i) 0 + if a = 0 then 1 else 0 : Nat), ii (cnt (code.take i) 1 + if a = 1 then 1 else 0 : Nat), ii (cnt (code.take i) 2 + if a = 2 then 1 else 0 : Nat), ii (cnt (code.take i) 3 + if a = 3 then 1 else 0 : Nat), ii (cnt (code.take i) 4 + if a = 4 then 1 else 0 : Nat)] by rw [cC, hst, hst, hst, hst, hst, h]
    by_cases h1 : code[i].op = 1
    · rw [e 0 (by simp [cls, h1])]
      simp only [loopR_succ, ht]
      simp only [a1, a2, a3, a4, hc', hc0, hw, hx, h1, hw0, loopR_succ, loopOf, findLoop, firstRegion, Option.some_or, Option.none_or, Option.getD_some, Option.some.injEq, Try.f57, FT, Int.reduceEq, Int.reduceToNat, Int.reduceLE, Int.reduceLT, Int.reduceAdd, Int.reduceMul, Int.reduceSub, Int.reduceNeg, Nat.reduceAdd, Nat.reduceSub, Nat.reduceMul, Nat.reduceLT, Nat.reduceBEq, Nat.reduceEqDiff, Nat.reduceLeDiff]
      exact .inr ⟨_, _, hc, rfl, (by rfl), (by rfl), (by rfl), (by rfl), ⟨_, by rfl⟩⟩
    by_cases h4 : code[i].op ≤ 4
    · rw [e 1 (by simp [cls, h1, h4])]
      simp only [loopR_succ, ht]
      simp only [a1, a2, a3, a4, hc', hc0, hw, hx, h1, h4, hw0, loopR_succ, loopOf, findLoop, firstRegion, Option.some_or, Option.none_or, Option.getD_some, Option.some.injEq, Try.f57, FT, Int.reduceEq, Int.reduceToNat, Int.reduceLE, Int.reduceLT, Int.reduceAdd, Int.reduceMul, Int.reduceSub, Int.reduceNeg, Nat.reduceAdd, Nat.reduceSub, Nat.reduceMul, Nat.reduceLT, Nat.reduceBEq, Nat.reduceEqDiff, Nat.reduceLeDiff]
      exact .inr ⟨_, _, hc, rfl, (by rfl), (by rfl), (by rfl), (by rfl), ⟨_, by rfl⟩⟩
    by_cases h5 : code[i].op = 5
    · rw [e 2 (by simp [cls, h5])]
      simp only [loopR_succ, ht]
      simp only [a1, a2, a3, a4, hc', hc0, hw, hx, h5, hw0, loopR_succ, loopOf, findLoop, firstRegion, Option.some_or, Option.none_or, Option.getD_some, Option.some.injEq, Try.f57, FT, Int.reduceEq, Int.reduceToNat, Int.reduceLE, Int.reduceLT, Int.reduceAdd, Int.reduceMul, Int.reduceSub, Int.reduceNeg, Nat.reduceAdd, Nat.reduceSub, Nat.reduceMul, Nat.reduceLT, Nat.reduceBEq, Nat.reduceEqDiff, Nat.reduceLeDiff]
      exact .inr ⟨_, _, hc, rfl, (by rfl), (by rfl), (by rfl), (by rfl), ⟨_, by rfl⟩⟩
    by_cases h6 : code[i].op = 6
    · rw [e 3 (by simp [cls, h6])]
      simp only [loopR_succ, ht]
      simp only [a1, a2, a3, a4, hc', hc0, hw, hx, h6, hw0, loopR_succ, loopOf, findLoop, firstRegion, Option.some_or, Option.none_or, Option.getD_some, Option.some.injEq, Try.f57, FT, Int.reduceEq, Int.reduceToNat, Int.reduceLE, Int.reduceLT, Int.reduceAdd, Int.reduceMul, Int.reduceSub, Int.reduceNeg, Nat.reduceAdd, Nat.reduceSub, Nat.reduceMul, Nat.reduceLT, Nat.reduceBEq, Nat.reduceEqDiff, Nat.reduceLeDiff]
      exact .inr ⟨_, _, hc, rfl, (by rfl), (by rfl), (by rfl), (by rfl), ⟨_, by rfl⟩⟩
    · rw [e 4 (by simp [cls, h1, h4, h5, h6])]
      simp only [loopR_succ, ht]
      simp only [a1, a2, a3, a4, hc', hc0, hw, hx, h1, h4, h5, h6, hw0, loopR_succ, loopOf, findLoop, firstRegion, Option.some_or, Option.none_or, Option.getD_some, Option.some.injEq, Try.f57, FT, Int.reduceEq, Int.reduceToNat, Int.reduceLE, Int.reduceLT, Int.reduceAdd, Int.reduceMul, Int.reduceSub, Int.reduceNeg, Nat.reduceAdd, Nat.reduceSub, Nat.reduceMul, Nat.reduceLT, Nat.reduceBEq, Nat.reduceEqDiff, Nat.reduceLeDiff]
      exact .inr ⟨_, _, hc, rfl, (by rfl), (by rfl), (by rfl), (by rfl), ⟨_, by rfl⟩⟩
  · refine .inl ?_
    obtain rfl : i = code.length := by omega
    have hc' : ¬ (((code.length : Nat) : Int) < ((code.length : Nat) : Int)) := by omega
    simp only [loopR_succ, ht]
    simp only [a1, a2, a3, a4, hc', loopR_succ, loopOf, findLoop, firstRegion, Option.some_or, Option.none_or, Option.getD_some, Option.some.injEq, Try.f57, FT, Int.reduceEq, Int.reduceToNat, Int.reduceLE, Int.reduceLT, Int.reduceAdd, Int.reduceMul, Int.reduceSub, Int.reduceNeg, Nat.reduceAdd, Nat.reduceSub, Nat.reduceMul, Nat.reduceLT, Nat.reduceBEq, Nat.reduceEqDiff, Nat.reduceLeDiff]
    exact ⟨_, rfl, (by rfl), (by rfl), (by rfl), (by rfl)⟩
theorem Count_ev (k : Nat) (p : Pg) (nl : Bool) (cap : Option Nat) (nl2 : Bool) (cap2 : Option Nat) (hlen : p.code.length ≤ 1000000) (hk : p.code.length < k) : run (k+1) 57 [aP p nl cap nl2 cap2] = some (.agg [ii (cnt p.code 0), ii (cnt p.code 1), ii (cnt p.code 2), ii (cnt p.code 3), ii (cnt p.code 4)]) := by
  rw [run, ev57, ans_trim]
  simp only [Try.f57, aP, ii, FT, Int.reduceEq, Int.reduceToNat, Int.reduceLE, Int.reduceLT, Int.reduceAdd, Int.reduceMul, Int.reduceSub, Int.reduceNeg, Nat.reduceAdd, Nat.reduceSub, Nat.reduceMul, Nat.reduceLT, Nat.reduceBEq, Nat.reduceEqDiff, Nat.reduceLeDiff]
  rw [evalCode_loopB LB57_3 lp57_3]; rotate_left; rfl; rfl; rfl
  generalize hz : loopR _ _ _ _ _ _ _ _ _ _ _ _ = z
  obtain ⟨l', rfl, e1, e2, e3, e4⟩ := loop_Count k _ _ _ p.code nl cap hlen _ _ z hz (by omega) (by rfl) (by rfl) (by rfl) (by rfl)
  clear hz
  rw [List.take_of_length_le (Nat.le_refl _)]
  simp only [e1, e2, e3, cC, FT, Int.reduceEq, Int.reduceToNat, Int.reduceLE, Int.reduceLT, Int.reduceAdd, Int.reduceMul, Int.reduceSub, Int.reduceNeg, Nat.reduceAdd, Nat.reduceSub, Nat.reduceMul, Nat.reduceLT, Nat.reduceBEq, Nat.reduceEqDiff, Nat.reduceLeDiff]
end
end Go.Proofs.Sw.W
namespace Go.Proofs.Sw
open Go.Ab
variable [Globals]
theorem SzR.out {L n : Nat} {R : List Rw} {outs : List Int} (h : ∀ r ∈ R, SzR L n r) (ho : ∀ r ∈ outs, 0 ≤ r ∧ r < (R.length : Int)) : ∀ r ∈ outs.map (fun r => R.getD r.toNat dR), SzR L n r := by
  intro r hr
  obtain ⟨x, hx, rfl⟩ := List.mem_map.1 hr
  exact h _ (getD_rw (ho x hx).1 (ho x hx).2)
end Go.Proofs.Sw
namespace Go.Proofs.Sw.W
open Go.Ab
section
variable [Globals]
theorem iniN_hi {Z : List RI} {n r : Nat} (h : Z.length ≤ r) : ((iniN Z n).map RI.v).getD r 0 = 0 := by
  rw [List.getD_eq_getElem?_getD, iniN, List.map_append, List.getElem?_append_right (by simpa using h), List.map_replicate, List.getElem?_replicate]
  split <;> rfl
theorem out_valsN {R : List RI} {outs : List Int} (ho : ∀ r ∈ outs, 0 ≤ r ∧ r < (R.length : Int)) : (outs.map (fun r => R.getD r.toNat zN)).map RI.v = outs.map fun r => (R.map RI.v).getD r.toNat 0 := by
  rw [List.map_map]
  refine List.map_congr_left fun r hr => ?_
  obtain ⟨h0, h1⟩ := ho r hr
  exact (vals_getN h0 h1 0).symm
theorem ShareSame_good (k : Nat) (ins : Int) (n : Nat) (code : List Ins) (outs : List Int) (nl : Bool) (cap : Option Nat) (nl2 : Bool) (cap2 : Option Nat) (D : List Int) (nl3 : Bool) (cap3 : Option Nat) (hk : 80000 ≤ k) (hD : ∀ x ∈ D, -9223372036854775808 ≤ x ∧ x ≤ 9223372036854775807) (hr : rightM ⟨ins, n, code, outs⟩ = true) (hlg : long14 ⟨ins, n, code, outs⟩ = false) (hln : (D.length : Int) = ins) (hsh : ¬ (12 : Int) < shN code code.length) :
    run (k+61) 11 [aP ⟨ins, n, code, outs⟩ nl cap nl2 cap2, sI D nl3 cap3] = some (bb true) := by
  have hwk := l14live_ev k
  have hlg' := l14long_ev (k + 59) ⟨ins, n, code, outs⟩ nl cap nl2 cap2
  have hl := hlg
  simp only [long14, Bool.or_eq_false_iff, decide_eq_false_iff_not] at hl
  obtain ⟨hl1, hl2⟩ := hl
  have hrt := rRight_ev (k + 59) ⟨ins, n, code, outs⟩ nl cap nl2 cap2 (by show outs.length + code.length + 11 ≤ _; omega)
  have hsf := l14shifts_ev (k + 59) ⟨ins, n, code, outs⟩ nl nl2 cap cap2 (by show code.length ≤ _; omega) (by show code.length < _; omega)
  obtain ⟨nlq, capq, hps⟩ := sharePass_run (k + 51) ins n code outs nl cap nl2 cap2 (by omega) hr
  have hrq := share_right hr
  have hf := passAt_facts (startS ins n) code code.length
  have hcl : (passC ins n code).length ≤ code.length := hf.2.2.2.2
  have hct : ∀ j, 1 ≤ j → cnt (passC ins n code) j ≤ cnt code j := fun j h => by
    have := cnt_pass (startS ins n) code j h code.length
    rwa [List.take_of_length_le (Nat.le_refl _)] at this
  have hr' := hr
  simp only [rightM, headM, codeM, outsM, Bool.and_eq_true, decide_eq_true_eq, List.all_eq_true] at hr'
  obtain ⟨⟨⟨g1, g2, g3, g4, g5, g6⟩, go⟩, gc⟩ := hr'
  have hrq' := hrq
  simp only [sharePg, rightM, headM, codeM, outsM, Bool.and_eq_true, decide_eq_true_eq, List.all_eq_true] at hrq'
  obtain ⟨⟨_, go2⟩, _⟩ := hrq'
  obtain ⟨Z, nlz, capz, hZ, hZs, hof⟩ := rowOf_ev (k + 55) D nl3 cap3 (by omega) hD (by omega)
  have hZl : Z.length = D.length := by rw [← hZ, List.length_map]
  have hss := share_same (M := numSem) hr (R0 := (iniN Z n).map RI.v) (by rw [List.length_map, iniN_length (by omega)]) (fun _ _ => trivial) (fun r h1 h2 => by rw [show numSem.d = (0 : Int) from rfl, iniN_hi (by omega), iniN_hi (by omega)])
  obtain ⟨C, hC⟩ : ∃ C, C = passC ins n code := ⟨_, rfl⟩
  obtain ⟨O, hO⟩ : ∃ O, O = outsL (passS ins n code).held outs := ⟨_, rfl⟩
  have hpg : sharePg ins n code outs = ⟨ins, n, C, O⟩ := by rw [hC, hO]; rfl
  have hOl : O.length = outs.length := by rw [hO, outsL_length]
  rw [← hC] at hcl hct
  rw [← hO] at go2
  rw [← hC, ← hO] at hss
  obtain ⟨hss1, hss2⟩ := hss
  rw [hpg] at hps hrq
  have c1 : ((cnt C 1 : Nat) : Int) ≤ ((cnt code 1 : Nat) : Int) := by have := hct 1 (by omega); omega
  have c2 : ((cnt C 2 : Nat) : Int) ≤ ((cnt code 2 : Nat) : Int) := by have := hct 2 (by omega); omega
  have c3 : ((cnt C 3 : Nat) : Int) ≤ ((cnt code 3 : Nat) : Int) := by have := hct 3 (by omega); omega
  have c4 : ((cnt C 4 : Nat) : Int) ≤ ((cnt code 4 : Nat) : Int) := by have := hct 4 (by omega); omega
  have hn1 := Count_ev (k + 59) ⟨ins, n, code, outs⟩ nl cap nl2 cap2 (by show code.length ≤ _; omega) (by show code.length < _; omega)
  have hn2 := Count_ev (k + 59) ⟨ins, n, C, O⟩ nlq capq false none (by show C.length ≤ _; omega) (by show C.length < _; omega)
  have hcl' : ¬ (code.length : Int) < C.length := by omega
  have hF1 := Run_ev (k + 49) ins n code outs nl cap nl2 cap2 Z nlz capz hr (by omega) hZs (by omega) (by omega)
  have hF2 := Run_ev (k + 49) ins n C O nlq capq false none Z nlz capz hrq (by omega) hZs (by omega) (by omega)
  rw [hss1] at hF2
  rcases hF1 with ⟨he1, j1, hv1⟩ | ⟨R1, nl4, cap4, he1, hR1l, hR1s, hv1⟩
  · rcases hF2 with ⟨_, j2, hv2⟩ | ⟨R2, nl5, cap5, he2, hR2l, hR2s, hv2⟩
    · have hsm := rowSame_ev (k + 55) [] [] true true (some 0) (some 0) (by simp) (fun r hr => (nomatch hr)) (fun r hr => (nomatch hr)) (by omega)
      simp only [decide_true] at hsm
      simp only [run, aP, ii, bb, sN, encN, List.length_nil, hlg, hr, hrq] at hwk hlg' hrt hsf hps hof hv1 hv2 hn1 hn2 hsm
      rw [run, ev11, ans_trim]
      simp only [Try.f11, aP, ii, bb, hwk, hlg', hrt, hsf, hln, hsh, hps, hcl', FT, Int.reduceEq, Int.reduceToNat, Int.reduceLE, Int.reduceLT, Int.reduceAdd, Int.reduceMul, Int.reduceSub, Int.reduceNeg, Nat.reduceAdd, Nat.reduceSub, Nat.reduceMul, Nat.reduceLT, Nat.reduceBEq, Nat.reduceEqDiff, Nat.reduceLeDiff]
      rw [evalCode_drawn Try.f11 9 dr11_9]; rotate_left; rfl
      simp (config := { maxSteps := 4000000 }) only [hof, hv1, EVd, List.getElem?_nil, Nat.reducePow, Nat.reduceDiv, Nat.reduceMod, FT, Int.reduceEq, Int.reduceToNat, Int.reduceLE, Int.reduceLT, Int.reduceAdd, Int.reduceMul, Int.reduceSub, Int.reduceNeg, Nat.reduceAdd, Nat.reduceSub, Nat.reduceMul, Nat.reduceLT, Nat.reduceBEq, Nat.reduceEqDiff, Nat.reduceLeDiff]
      rw [evalCode_drawn Try.f11 10 dr11_10]; rotate_left; rfl
      simp (config := { maxSteps := 4000000 }) only [hof, hv2, EVd, List.getElem?_nil, Nat.reducePow, Nat.reduceDiv, Nat.reduceMod, FT, Int.reduceEq, Int.reduceToNat, Int.reduceLE, Int.reduceLT, Int.reduceAdd, Int.reduceMul, Int.reduceSub, Int.reduceNeg, Nat.reduceAdd, Nat.reduceSub, Nat.reduceMul, Nat.reduceLT, Nat.reduceBEq, Nat.reduceEqDiff, Nat.reduceLeDiff]
      rw [evalCode_drawn Try.f11 11 dr11_11]; rotate_left; rfl
      simp (config := { maxSteps := 4000000 }) only [hn1, hn2, EVd, List.getElem?_nil, Nat.reducePow, Nat.reduceDiv, Nat.reduceMod, FT, Int.reduceEq, Int.reduceToNat, Int.reduceLE, Int.reduceLT, Int.reduceAdd, Int.reduceMul, Int.reduceSub, Int.reduceNeg, Nat.reduceAdd, Nat.reduceSub, Nat.reduceMul, Nat.reduceLT, Nat.reduceBEq, Nat.reduceEqDiff, Nat.reduceLeDiff]
      simp only [hsm, c1, c2, c3, c4, FT, Int.reduceEq, Int.reduceToNat, Int.reduceLE, Int.reduceLT, Int.reduceAdd, Int.reduceMul, Int.reduceSub, Int.reduceNeg, Nat.reduceAdd, Nat.reduceSub, Nat.reduceMul, Nat.reduceLT, Nat.reduceBEq, Nat.reduceEqDiff, Nat.reduceLeDiff]
    · rw [he1] at he2; cases he2
  · rcases hF2 with ⟨he2, j2, hv2⟩ | ⟨R2, nl5, cap5, he2, hR2l, hR2s, hv2⟩
    · rw [he1] at he2; cases he2
    · have hRR : R1.map RI.v = R2.map RI.v := by rw [he1] at he2; exact Option.some.inj he2
      have go1 : ∀ r ∈ outs, 0 ≤ r ∧ r < (R1.length : Int) := fun r hr => by rw [hR1l]; exact go r hr
      have go2' : ∀ r ∈ O, 0 ≤ r ∧ r < (R2.length : Int) := fun r hr => by rw [hR2l]; exact of_decide_eq_true (go2 r hr)
      obtain ⟨Xo, hXo⟩ : ∃ Xo, Xo = outs.map (fun r => R1.getD r.toNat zN) := ⟨_, rfl⟩
      obtain ⟨Yo, hYo⟩ : ∃ Yo, Yo = O.map (fun r => R2.getD r.toNat zN) := ⟨_, rfl⟩
      have hXl : Xo.length = outs.length := by rw [hXo, List.length_map]
      have hXY : Xo.map RI.v = Yo.map RI.v := by
        rw [hXo, hYo, out_valsN go1, out_valsN go2', ← hRR]
        exact (hss2 _ he1).symm
      have hXs : ∀ r ∈ Xo, (nD r.v).length ≤ 20000 := by
        intro r hr
        rw [hXo] at hr
        obtain ⟨x, _, rfl⟩ := List.mem_map.1 hr
        exact Nat.le_trans (getD_small hR1s) (by decide)
      have hYs : ∀ r ∈ Yo, (nD r.v).length ≤ 20000 := by
        intro r hr
        rw [hYo] at hr
        obtain ⟨x, _, rfl⟩ := List.mem_map.1 hr
        exact Nat.le_trans (getD_small hR2s) (by decide)
      rw [← hXo] at hv1
      rw [← hYo] at hv2
      have hsm := rowSame_ev (k + 55) Xo Yo nl4 nl5 cap4 cap5 (by omega) hXs hYs (by omega)
      simp only [hXY, decide_true] at hsm
      simp only [run, aP, ii, bb, sN, hlg, hr, hrq] at hwk hlg' hrt hsf hps hof hv1 hv2 hn1 hn2 hsm
      rw [run, ev11, ans_trim]
      simp only [Try.f11, aP, ii, bb, hwk, hlg', hrt, hsf, hln, hsh, hps, hcl', FT, Int.reduceEq, Int.reduceToNat, Int.reduceLE, Int.reduceLT, Int.reduceAdd, Int.reduceMul, Int.reduceSub, Int.reduceNeg, Nat.reduceAdd, Nat.reduceSub, Nat.reduceMul, Nat.reduceLT, Nat.reduceBEq, Nat.reduceEqDiff, Nat.reduceLeDiff]
      rw [evalCode_drawn Try.f11 9 dr11_9]; rotate_left; rfl
      simp (config := { maxSteps := 4000000 }) only [hof, hv1, EVd, List.getElem?_nil, Nat.reducePow, Nat.reduceDiv, Nat.reduceMod, FT, Int.reduceEq, Int.reduceToNat, Int.reduceLE, Int.reduceLT, Int.reduceAdd, Int.reduceMul, Int.reduceSub, Int.reduceNeg, Nat.reduceAdd, Nat.reduceSub, Nat.reduceMul, Nat.reduceLT, Nat.reduceBEq, Nat.reduceEqDiff, Nat.reduceLeDiff]
      rw [evalCode_drawn Try.f11 10 dr11_10]; rotate_left; rfl
      simp (config := { maxSteps := 4000000 }) only [hof, hv2, EVd, List.getElem?_nil, Nat.reducePow, Nat.reduceDiv, Nat.reduceMod, FT, Int.reduceEq, Int.reduceToNat, Int.reduceLE, Int.reduceLT, Int.reduceAdd, Int.reduceMul, Int.reduceSub, Int.reduceNeg, Nat.reduceAdd, Nat.reduceSub, Nat.reduceMul, Nat.reduceLT, Nat.reduceBEq, Nat.reduceEqDiff, Nat.reduceLeDiff]
      rw [evalCode_drawn Try.f11 11 dr11_11]; rotate_left; rfl
      simp (config := { maxSteps := 4000000 }) only [hn1, hn2, EVd, List.getElem?_nil, Nat.reducePow, Nat.reduceDiv, Nat.reduceMod, FT, Int.reduceEq, Int.reduceToNat, Int.reduceLE, Int.reduceLT, Int.reduceAdd, Int.reduceMul, Int.reduceSub, Int.reduceNeg, Nat.reduceAdd, Nat.reduceSub, Nat.reduceMul, Nat.reduceLT, Nat.reduceBEq, Nat.reduceEqDiff, Nat.reduceLeDiff]
      simp only [hsm, c1, c2, c3, c4, FT, Int.reduceEq, Int.reduceToNat, Int.reduceLE, Int.reduceLT, Int.reduceAdd, Int.reduceMul, Int.reduceSub, Int.reduceNeg, Nat.reduceAdd, Nat.reduceSub, Nat.reduceMul, Nat.reduceLT, Nat.reduceBEq, Nat.reduceEqDiff, Nat.reduceLeDiff]
theorem ShareSame_ev (k : Nat) (p : Pg) (nl : Bool) (cap : Option Nat) (nl2 : Bool) (cap2 : Option Nat) (D : List Int) (nl3 : Bool) (cap3 : Option Nat) (hk : p.outs.length + p.code.length + 80100 ≤ k) (_ : nl = true → p.code = []) (_ : nl2 = true → p.outs = []) (hs : p.code.length * 40 ≤ roomBytes) (_ : p.outs.length * 8 ≤ roomBytes) (hD : ∀ x ∈ D, in64 x) :
    run (k+1) 11 [aP p nl cap nl2 cap2, sI D nl3 cap3] = some (bb true) := by
  have hl6 : p.code.length ≤ 4611686018427387904 := Nat.le_trans (show p.code.length ≤ p.code.length * 40 by omega) (Nat.le_trans hs (by decide))
  obtain ⟨k, rfl⟩ : ∃ j, k = j + 60 := ⟨k - 60, by omega⟩
  have hwk := l14live_ev k
  have hlg' := l14long_ev (k + 59) p nl cap nl2 cap2
  have hrt := rRight_ev (k + 59) p nl cap nl2 cap2 (by omega)
  cases hlg : long14 p with
  | true =>
    simp only [run, aP, ii, sC, sI, bb, hlg] at hwk hlg' hrt
    rw [run, ev11, ans_trim]
    simp only [Try.f11, aP, ii, bb, hwk, hlg', hrt, FT, Int.reduceEq, Int.reduceToNat, Int.reduceLE, Int.reduceLT, Int.reduceAdd, Int.reduceMul, Int.reduceSub, Int.reduceNeg, Nat.reduceAdd, Nat.reduceSub, Nat.reduceMul, Nat.reduceLT, Nat.reduceBEq, Nat.reduceEqDiff, Nat.reduceLeDiff]
  | false =>
    cases hr : rightM p with
    | false =>
      simp only [run, aP, ii, sC, sI, bb, hlg, hr] at hwk hlg' hrt
      rw [run, ev11, ans_trim]
      simp only [Try.f11, aP, ii, bb, hwk, hlg', hrt, FT, Int.reduceEq, Int.reduceToNat, Int.reduceLE, Int.reduceLT, Int.reduceAdd, Int.reduceMul, Int.reduceSub, Int.reduceNeg, Nat.reduceAdd, Nat.reduceSub, Nat.reduceMul, Nat.reduceLT, Nat.reduceBEq, Nat.reduceEqDiff, Nat.reduceLeDiff]
    | true =>
      by_cases hln : (D.length : Int) = p.ins
      · by_cases hsh : (12 : Int) < shN p.code p.code.length
        · have hsf := l14shifts_ev (k + 59) p nl nl2 cap cap2 hl6 (by omega)
          simp only [run, aP, ii, sC, sI, bb, hlg, hr] at hwk hlg' hrt hsf
          rw [run, ev11, ans_trim]
          simp only [Try.f11, aP, ii, bb, hwk, hlg', hrt, hsf, hln, hsh, FT, Int.reduceEq, Int.reduceToNat, Int.reduceLE, Int.reduceLT, Int.reduceAdd, Int.reduceMul, Int.reduceSub, Int.reduceNeg, Nat.reduceAdd, Nat.reduceSub, Nat.reduceMul, Nat.reduceLT, Nat.reduceBEq, Nat.reduceEqDiff, Nat.reduceLeDiff]
        · obtain ⟨ins, regs, code, outs⟩ := p
          obtain ⟨n, hn⟩ : ∃ n : Nat, regs = n := by
            have hr' := hr
            simp only [rightM, headM, Bool.and_eq_true, decide_eq_true_eq] at hr'
            exact ⟨regs.toNat, by omega⟩
          subst hn
          exact ShareSame_good k ins n code outs nl cap nl2 cap2 D nl3 cap3 (by omega) hD hr hlg hln hsh
      · simp only [run, aP, ii, sC, sI, bb, hlg, hr] at hwk hlg' hrt
        rw [run, ev11, ans_trim]
        simp only [Try.f11, aP, ii, bb, hwk, hlg', hrt, hln, FT, Int.reduceEq, Int.reduceToNat, Int.reduceLE, Int.reduceLT, Int.reduceAdd, Int.reduceMul, Int.reduceSub, Int.reduceNeg, Nat.reduceAdd, Nat.reduceSub, Nat.reduceMul, Nat.reduceLT, Nat.reduceBEq, Nat.reduceEqDiff, Nat.reduceLeDiff]
end
end Go.Proofs.Sw.W
