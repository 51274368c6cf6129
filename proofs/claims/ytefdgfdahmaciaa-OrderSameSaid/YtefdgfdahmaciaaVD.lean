/- A part of the proof: what functions of the program answer; conditions stand in each theorem. -/
import Derived.Test.YtefdgfdahmaciaaVC
set_option linter.unusedVariables false
set_option linter.unusedSimpArgs false
set_option linter.unusedSectionVars false
namespace Go.Proofs.Sw
open Go.Ab
variable [Globals]
structure Rw where
  l : List RI
  nl : Bool
  cap : Option Nat
def Rw.vals (r : Rw) : List Int := r.l.map RI.v
abbrev sRw (r : Rw) : AV := sR r.l r.nl r.cap
abbrev iRw (r : Rw) : IV := .slice (encR r.l) r.l.length r.nl r.cap
def encW (R : List Rw) : List IV := R.map fun r => .slice (encR r.l) r.l.length r.nl r.cap
theorem encW_length (R : List Rw) : (encW R).length = R.length := by simp [encW]
theorem encW_append (a b : List Rw) : encW (a ++ b) = encW a ++ encW b := by simp [encW]
def dR : Rw := ⟨[], true, some 0⟩
theorem encW_get {R : List Rw} {r : Int} (h0 : 0 ≤ r) (h : r < R.length) : (encW R)[r.toNat]? = some (iRw (R.getD r.toNat dR)) := by
  have h2 : r.toNat < R.length := by omega
  simp [encW, h2]
theorem encW_getN {R : List Rw} {i : Nat} (h : i < R.length) : (encW R)[i]? = some (iRw (R.getD i dR)) := by
  simp [encW, h]
theorem encW_set {R : List Rw} {r : Nat} {x : Rw} : (encW R).set r (iRw x) = encW (R.set r x) := by
  simp [encW, List.map_set]
abbrev nW : List Rw := []
abbrev rW (R : List Rw) : AObj := .row false 40 (encW R)
abbrev sW (R : List Rw) (nl : Bool) (cap : Option Nat) : AV := .c (.slice (encW R) R.length nl cap)
structure SzR (L n : Nat) (r : Rw) : Prop where
  len : r.l.length = L
  sz : ∀ x ∈ r.l, (nD x.v).length ≤ n
theorem SzR.mono {L n m : Nat} {r : Rw} (h : SzR L n r) (hm : n ≤ m) : SzR L m r := ⟨h.len, fun x hx => Nat.le_trans (h.sz x hx) hm⟩
theorem getD_rw {R : List Rw} {r : Int} (h0 : 0 ≤ r) (h : r < R.length) : R.getD r.toNat dR ∈ R := by
  have : r.toNat < R.length := by omega
  rw [List.getD_eq_getElem?_getD, List.getElem?_eq_getElem this]
  exact List.getElem_mem this
theorem szZ {L n : Nat} {Z : List RI} {l : List Int} (hZ : Z.map RI.v = l) (hl : l.length = L) (h : ∀ v ∈ l, (nD v).length ≤ n) (nl : Bool) (cap : Option Nat) : SzR L n ⟨Z, nl, cap⟩ := by
  refine ⟨by rw [← hl, ← hZ]; simp, fun x hx => h _ ?_⟩
  rw [← hZ]
  exact List.mem_map.2 ⟨x, hx, rfl⟩
theorem getDI_small {a : List Int} {n : Nat} (h : ∀ x ∈ a, (nD x).length ≤ n) (j : Nat) : (nD (a.getD j 0)).length ≤ n := by
  rw [List.getD_eq_getElem?_getD]
  by_cases hj : j < a.length
  · rw [List.getElem?_eq_getElem hj]; exact h _ (List.getElem_mem hj)
  · rw [List.getElem?_eq_none (by omega)]; exact Nat.zero_le _
theorem cmbL_small {c d : Int} {a b : List Int} {p n : Nat} (hc : (nD c).length ≤ p) (hd : (nD d).length ≤ p) (ha : ∀ x ∈ a, (nD x).length ≤ n) (hb : ∀ x ∈ b, (nD x).length ≤ n) : ∀ v ∈ cmbL c d a b, (nD v).length ≤ n + p + 1 := by
  intro v hv
  obtain ⟨j, _, rfl⟩ := List.mem_map.1 hv
  have h1 := nD_mul c (a.getD j 0)
  have h2 := nD_mul d (b.getD j 0)
  have h3 := getDI_small ha j
  have h4 := getDI_small hb j
  exact nD_add _ _ (by omega) (by omega)
theorem overL_small {c : Int} (hc : c ≠ 0) {n : Nat} : ∀ {l q : List Int}, overL l c = some q → (∀ x ∈ l, (nD x).length ≤ n) → ∀ v ∈ q, (nD v).length ≤ n + 2
  | [], q, h, _, v, hv => by obtain rfl := Option.some.inj h; cases hv
  | x :: l, q, h, hl, v, hv => by
    rw [overL] at h
    cases hx : overV x c with
    | none => rw [hx] at h; cases h
    | some y =>
      rw [hx] at h
      cases hq : overL l c with
      | none => rw [hq] at h; cases h
      | some z =>
        rw [hq] at h
        obtain rfl := Option.some.inj h
        rcases List.mem_cons.1 hv with rfl | hv
        · have := overV_len hc hx
          have := hl x List.mem_cons_self
          omega
        · exact overL_small hc hq (fun x hx => hl x (List.mem_cons_of_mem _ hx)) v hv
theorem Rw.small {L n : Nat} {r : Rw} (h : SzR L n r) : ∀ x ∈ r.vals, (nD x).length ≤ n := by
  intro x hx
  obtain ⟨y, hy, rfl⟩ := List.mem_map.1 hx
  exact h.sz y hy
theorem constant_facts {x : Ins} (h : constant x = true) : (x.op = 5 ∨ x.op = 6 → x.c ≠ 0 ∧ -512 ≤ x.c ∧ x.c ≤ 512) ∧ (x.op = 7 ∨ x.op = 8 → 1 ≤ x.c ∧ x.c ≤ 64) := by
  unfold constant at h
  constructor
  · intro e; rw [if_pos e] at h; simpa using h
  · intro e
    rw [if_neg (by omega), if_pos e] at h
    simpa using h
theorem constV_facts {op c : Int} (h5 : op = 5 ∨ op = 6 → c ≠ 0 ∧ -512 ≤ c ∧ c ≤ 512) (h7 : op = 7 ∨ op = 8 → 1 ≤ c ∧ c ≤ 64) (h : 5 ≤ op ∧ op ≤ 8) : constV op c ≠ 0 ∧ (nD (constV op c)).length ≤ 5 := by
  unfold constV
  by_cases e : op = 5 ∨ op = 6
  · rw [if_pos e]
    have := h5 e
    exact ⟨this.1, Nat.le_trans (dig_len (k := 1) (by omega)) (by omega)⟩
  · rw [if_neg e, pwD_vd]
    have := h7 (by omega)
    have hp : 2 ^ c.toNat ≤ 2 ^ 64 := Nat.pow_le_pow_right (by omega) (by omega)
    have hp0 : 0 < 2 ^ c.toNat := Nat.pow_pos (by omega)
    refine ⟨by omega, dig_len (k := 5) ?_⟩
    rw [Int.natAbs_natCast]
    exact Nat.lt_of_le_of_lt hp (by decide)
theorem mayM_const {i : Ins} {regs : Int} (h : mayM i regs = true) : constant i = true := by
  simp only [mayM, Bool.and_eq_true] at h
  exact h.1.1.2
theorem do_ev (k : Nat) (op to a b c : Int) (R : List Rw) (L n : Nat) (hL : L ≤ 1000) (hn : n ≤ 1990) (hR : ∀ r ∈ R, SzR L n r) (hm : mayM ⟨op, to, a, b, c⟩ R.length = true) (hk : 50000 ≤ k) :
    (rowF op c (R.getD a.toNat dR).vals (R.getD b.toNat dR).vals = none ∧ evalT Try.prog (mkHints tab) (k+7) (.fn 71) [aI op to a b c, .hsl 0 0 R.length R.length 1] [rW R] = some (.tup [.c (.slice [] 0 true (some 0)), bb false], [rW R])) ∨
    ∃ z : Rw, rowF op c (R.getD a.toNat dR).vals (R.getD b.toNat dR).vals = some z.vals ∧ SzR L (n + 6) z ∧ evalT Try.prog (mkHints tab) (k+7) (.fn 71) [aI op to a b c, .hsl 0 0 R.length R.length 1] [rW R] = some (.tup [sRw z, bb true], [rW R]) := by
  obtain ⟨⟨m1, m2⟩, ⟨m3, m4⟩, ⟨m5, m6⟩, m7⟩ := mayM_facts hm
  simp only at m1 m2 m3 m4 m5 m6 m7
  obtain ⟨c5, c7⟩ := constant_facts (mayM_const hm)
  simp only at c5 c7
  have hel := encW_length R
  have hxa := encW_get m5 m6
  have hSa := hR _ (getD_rw m5 m6)
  have hna := Rw.small hSa
  obtain ⟨A, hA⟩ : ∃ A, A = R.getD a.toNat dR := ⟨_, rfl⟩
  rw [← hA] at hxa hSa hna ⊢
  have hAl := hSa.len
  by_cases h2 : op = 2
  · obtain ⟨o, ho, h1⟩ := Of_ev (k+4) (-1) (by omega) (by omega) (by omega)
    obtain ⟨Z, nl3, cap3, hZ, hs⟩ := wScale_ev (k+2) A.l o A.nl A.cap (by omega) 1990 (by omega) (by rw [ho]; exact Nat.le_trans (len1 (by decide)) (by omega)) (fun x hx => Nat.le_trans (hSa.sz x hx) hn) (by omega)
    rw [ho, cmbV_L] at hZ
    refine .inr ⟨⟨Z, nl3, cap3⟩, ?_, ?_, ?_⟩
    · rw [rowF, if_pos h2]; exact congrArg some hZ.symm
    · refine (szZ (n := n + 2) hZ (by rw [cmbL_length, List.length_map]; exact hAl) ?_ nl3 cap3).mono (by omega)
      exact cmbL_small (p := 1) (len1 (by decide)) (Nat.zero_le _) hna hna
    · simp only [run, aN, bb, ii] at h1 hs
      rw [ev71]
      simp only [Try.f71, aI, ii, bb, m5, m6, hel, hxa, h2, h1, hs, FT, Int.reduceEq, Int.reduceToNat, Int.reduceLE, Int.reduceLT, Int.reduceAdd, Int.reduceMul, Int.reduceSub, Int.reduceNeg, Nat.reduceAdd, Nat.reduceSub, Nat.reduceMul, Nat.reduceLT, Nat.reduceBEq, Nat.reduceEqDiff, Nat.reduceLeDiff]
  by_cases h3 : op = 3
  · obtain ⟨b0, b1⟩ := m7 (.inl h3)
    have hxb := encW_get b0 b1
    have hSb := hR _ (getD_rw b0 b1)
    have hnb := Rw.small hSb
    obtain ⟨B, hB⟩ : ∃ B, B = R.getD b.toNat dR := ⟨_, rfl⟩
    rw [← hB] at hxb hSb hnb ⊢
    have hBl := hSb.len
    obtain ⟨Z, nl3, cap3, hZ, hs⟩ := wAdd_ev (k+2) A.l B.l A.nl B.nl A.cap B.cap (by omega) (by omega) 1990 (by omega) (by omega) (fun x hx => Nat.le_trans (hSa.sz x hx) hn) (fun x hx => Nat.le_trans (hSb.sz x hx) hn) (by omega)
    rw [cmbV_L] at hZ
    refine .inr ⟨⟨Z, nl3, cap3⟩, ?_, ?_, ?_⟩
    · rw [rowF, if_neg h2, if_pos h3]; exact congrArg some hZ.symm
    · refine (szZ (n := n + 2) hZ (by rw [cmbL_length, List.length_map]; exact hAl) ?_ nl3 cap3).mono (by omega)
      exact cmbL_small (p := 1) (len1 (by decide)) (len1 (by decide)) hna hnb
    · simp only [run, aN, bb, ii] at hs
      rw [ev71]
      simp only [Try.f71, aI, ii, bb, m5, m6, b0, b1, hel, hxa, hxb, h3, hs, FT, Int.reduceEq, Int.reduceToNat, Int.reduceLE, Int.reduceLT, Int.reduceAdd, Int.reduceMul, Int.reduceSub, Int.reduceNeg, Nat.reduceAdd, Nat.reduceSub, Nat.reduceMul, Nat.reduceLT, Nat.reduceBEq, Nat.reduceEqDiff, Nat.reduceLeDiff]
  by_cases h4 : op = 4
  · obtain ⟨b0, b1⟩ := m7 (.inr h4)
    have hxb := encW_get b0 b1
    have hSb := hR _ (getD_rw b0 b1)
    have hnb := Rw.small hSb
    obtain ⟨B, hB⟩ : ∃ B, B = R.getD b.toNat dR := ⟨_, rfl⟩
    rw [← hB] at hxb hSb hnb ⊢
    have hBl := hSb.len
    obtain ⟨Z, nl3, cap3, hZ, hs⟩ := wSub_ev (k+2) A.l B.l A.nl B.nl A.cap B.cap (by omega) (by omega) 1990 (by omega) (by omega) (fun x hx => Nat.le_trans (hSa.sz x hx) hn) (fun x hx => Nat.le_trans (hSb.sz x hx) hn) (by omega)
    rw [cmbV_L] at hZ
    refine .inr ⟨⟨Z, nl3, cap3⟩, ?_, ?_, ?_⟩
    · rw [rowF, if_neg h2, if_neg h3, if_pos h4]; exact congrArg some hZ.symm
    · refine (szZ (n := n + 2) hZ (by rw [cmbL_length, List.length_map]; exact hAl) ?_ nl3 cap3).mono (by omega)
      exact cmbL_small (p := 1) (len1 (by decide)) (len1 (by decide)) hna hnb
    · simp only [run, aN, bb, ii] at hs
      rw [ev71]
      simp only [Try.f71, aI, ii, bb, m5, m6, b0, b1, hel, hxa, hxb, h4, hs, FT, Int.reduceEq, Int.reduceToNat, Int.reduceLE, Int.reduceLT, Int.reduceAdd, Int.reduceMul, Int.reduceSub, Int.reduceNeg, Nat.reduceAdd, Nat.reduceSub, Nat.reduceMul, Nat.reduceLT, Nat.reduceBEq, Nat.reduceEqDiff, Nat.reduceLeDiff]
  by_cases h1 : op = 1
  · refine .inr ⟨A, ?_, hSa.mono (by omega), ?_⟩
    · rw [rowF, if_neg h2, if_neg h3, if_neg h4, if_neg (by omega), if_neg (by omega)]
    · rw [ev71]
      simp only [Try.f71, aI, ii, bb, m5, m6, hel, hxa, h1, FT, Int.reduceEq, Int.reduceToNat, Int.reduceLE, Int.reduceLT, Int.reduceAdd, Int.reduceMul, Int.reduceSub, Int.reduceNeg, Nat.reduceAdd, Nat.reduceSub, Nat.reduceMul, Nat.reduceLT, Nat.reduceBEq, Nat.reduceEqDiff, Nat.reduceLeDiff]
  obtain ⟨hv0, hv5⟩ := constV_facts c5 c7 (by omega)
  obtain ⟨o, ho, hcn⟩ := fConstant_ev (k+3) op to a b c (fun e => by have := c5 e; omega) (fun e => by have := c7 (by omega); omega) (by omega)
  by_cases h57 : op = 5 ∨ op = 7
  · obtain ⟨Z, nl3, cap3, hZ, hs⟩ := wScale_ev (k+2) A.l o A.nl A.cap (by omega) 1990 (by omega) (by rw [ho]; omega) (fun x hx => Nat.le_trans (hSa.sz x hx) hn) (by omega)
    rw [ho, cmbV_L] at hZ
    refine .inr ⟨⟨Z, nl3, cap3⟩, ?_, ?_, ?_⟩
    · rw [rowF, if_neg h2, if_neg h3, if_neg h4, if_pos h57]; exact congrArg some hZ.symm
    · refine szZ (n := n + 6) hZ (by rw [cmbL_length, List.length_map]; exact hAl) ?_ nl3 cap3
      exact cmbL_small (p := 5) hv5 (Nat.zero_le _) hna hna
    · simp only [run, aI, aN, bb, ii] at hcn hs
      rcases h57 with h5 | h7
      · simp only [h5] at hcn hs
        rw [ev71]
        simp only [Try.f71, aI, ii, bb, m5, m6, hel, hxa, h5, hcn, hs, FT, Int.reduceEq, Int.reduceToNat, Int.reduceLE, Int.reduceLT, Int.reduceAdd, Int.reduceMul, Int.reduceSub, Int.reduceNeg, Nat.reduceAdd, Nat.reduceSub, Nat.reduceMul, Nat.reduceLT, Nat.reduceBEq, Nat.reduceEqDiff, Nat.reduceLeDiff]
      · simp only [h7] at hcn hs
        rw [ev71]
        simp only [Try.f71, aI, ii, bb, m5, m6, hel, hxa, h7, hcn, hs, FT, Int.reduceEq, Int.reduceToNat, Int.reduceLE, Int.reduceLT, Int.reduceAdd, Int.reduceMul, Int.reduceSub, Int.reduceNeg, Nat.reduceAdd, Nat.reduceSub, Nat.reduceMul, Nat.reduceLT, Nat.reduceBEq, Nat.reduceEqDiff, Nat.reduceLeDiff]
  · have h68 : op = 6 ∨ op = 8 := by omega
    have hrf : rowF op c A.vals (R.getD b.toNat dR).vals = overL A.vals (constV op c) := by
      rw [rowF, if_neg h2, if_neg h3, if_neg h4, if_neg h57, if_pos h68]
    rw [hrf]
    have hov := wOver_ev k A.l o A.nl A.cap (by omega) (by rw [ho]; exact hv0) (by rw [ho]; omega) (fun x hx => Nat.le_trans (hSa.sz x hx) (by omega)) hk
    rw [ho] at hov
    rcases hov with ⟨hq, hs⟩ | ⟨Z, nl3, cap3, hq, hs⟩
    · refine .inl ⟨hq, ?_⟩
      simp only [run, aI, aN, bb, ii] at hcn hs
      rcases h68 with h6 | h8
      · simp only [h6] at hcn hs
        rw [ev71]
        simp only [Try.f71, aI, ii, bb, m5, m6, hel, hxa, h6, hcn, hs, FT, Int.reduceEq, Int.reduceToNat, Int.reduceLE, Int.reduceLT, Int.reduceAdd, Int.reduceMul, Int.reduceSub, Int.reduceNeg, Nat.reduceAdd, Nat.reduceSub, Nat.reduceMul, Nat.reduceLT, Nat.reduceBEq, Nat.reduceEqDiff, Nat.reduceLeDiff]
      · simp only [h8] at hcn hs
        rw [ev71]
        simp only [Try.f71, aI, ii, bb, m5, m6, hel, hxa, h8, hcn, hs, FT, Int.reduceEq, Int.reduceToNat, Int.reduceLE, Int.reduceLT, Int.reduceAdd, Int.reduceMul, Int.reduceSub, Int.reduceNeg, Nat.reduceAdd, Nat.reduceSub, Nat.reduceMul, Nat.reduceLT, Nat.reduceBEq, Nat.reduceEqDiff, Nat.reduceLeDiff]
    · refine .inr ⟨⟨Z, nl3, cap3⟩, hq, ?_, ?_⟩
      · refine (szZ (n := n + 2) rfl ?_ (overL_small hv0 hq hna) nl3 cap3).mono (by omega)
        rw [overL_length hq]
        show (A.l.map RI.v).length = L
        rw [List.length_map]; exact hAl
      · simp only [run, aI, aN, bb, ii] at hcn hs
        rcases h68 with h6 | h8
        · simp only [h6] at hcn hs
          rw [ev71]
          simp only [Try.f71, aI, ii, bb, m5, m6, hel, hxa, h6, hcn, hs, FT, Int.reduceEq, Int.reduceToNat, Int.reduceLE, Int.reduceLT, Int.reduceAdd, Int.reduceMul, Int.reduceSub, Int.reduceNeg, Nat.reduceAdd, Nat.reduceSub, Nat.reduceMul, Nat.reduceLT, Nat.reduceBEq, Nat.reduceEqDiff, Nat.reduceLeDiff]
        · simp only [h8] at hcn hs
          rw [ev71]
          simp only [Try.f71, aI, ii, bb, m5, m6, hel, hxa, h8, hcn, hs, FT, Int.reduceEq, Int.reduceToNat, Int.reduceLE, Int.reduceLT, Int.reduceAdd, Int.reduceMul, Int.reduceSub, Int.reduceNeg, Nat.reduceAdd, Nat.reduceSub, Nat.reduceMul, Nat.reduceLT, Nat.reduceBEq, Nat.reduceEqDiff, Nat.reduceLeDiff]
end Go.Proofs.Sw
namespace Go.Proofs.Sw
open Go.Ab
variable [Globals]
def zRw (L : Nat) : Rw := ⟨List.replicate L zR, false, none⟩
def iniR (g : List Rw) (L n i : Nat) : List Rw := (List.range n).map fun r => if r < i then (if r < g.length then g.getD r dR else zRw L) else dR
theorem iniR_length (g : List Rw) (L n i : Nat) : (iniR g L n i).length = n := by simp [iniR]
theorem encW_rep (n : Nat) : (List.replicate n [IV.slice [] 0 true (some 0)]).flatten = encW (List.replicate n dR) := by
  induction n with
  | zero => rfl
  | succ n ih => rw [List.replicate_succ, List.flatten_cons, ih]; rfl
theorem iniR_zero (g : List Rw) (L n : Nat) : iniR g L n 0 = List.replicate n dR := by
  unfold iniR
  simp only [Nat.not_lt_zero, if_false]
  rw [List.map_const', List.length_range]
theorem iniR_set {g : List Rw} {L n i : Nat} (hi : i < n) : (iniR g L n i).set i (if i < g.length then g.getD i dR else zRw L) = iniR g L n (i + 1) := by
  apply List.ext_getElem?
  intro r
  rw [List.getElem?_set]
  unfold iniR
  simp only [List.getElem?_map, List.length_map, List.length_range, List.getElem?_range']
  by_cases h : i = r
  · subst h
    simp [hi]
  · rw [if_neg h]
    by_cases hr : r < n
    · simp only [List.getElem?_range hr, Option.map_some]
      by_cases h2 : r < i
      · rw [if_pos h2, if_pos (show r < i + 1 by omega)]
      · rw [if_neg h2, if_neg (show ¬ r < i + 1 by omega)]
    · have : (List.range n)[r]? = none := List.getElem?_eq_none (by simp; omega)
      rw [this]; rfl
abbrev loW (R : List Rw) : AObj := lo 40 R.length (encW R)
abbrev bxP (ins : Int) (n : Nat) (code : List Ins) (nl : Bool) (cap : Option Nat) (outs : List Int) (nl2 : Bool) (cap2 : Option Nat) : AObj := .cells 25 [ii ins, ii n, sC code nl cap, sI outs nl2 cap2]
theorem loop_flw3 (kf : Nat) (ins : Int) (n : Nat) (code : List Ins) (nl : Bool) (cap : Option Nat) (outs : List Int) (nl2 : Bool) (cap2 : Option Nat) (g : List Rw) (nl3 : Bool) (cap3 : Option Nat) (L : Nat) (hL : L ≤ 1000) (hg : 0 < g.length) (hg0 : (g.getD 0 dR).l.length = L) (hn : n ≤ 128) (k : Nat) (l : Ass) (z : Option Out) (hz : loopR Try.prog tab (kf + 1) none LB23_3 23 97 [1, 2, 7, 8] 4 k l ([.slot, .slot, bxP ins n code nl cap outs nl2 cap2, rW (iniR g L n 0)]) = z) (hk : n < k) (a1 : asc l 1 = sW g nl3 cap3) (a2 : asc l 2 = .ptr 2 0) (a7 : asc l 7 = .hsl 3 0 n n 1) (a8 : asc l 8 = ii 0) :
    ∃ l', z = some (.exit 0 (fr 97 l') ([.slot, .slot, bxP ins n code nl cap outs nl2 cap2, rW (iniR g L n n)])) ∧ asc l' 1 = sW g nl3 cap3 ∧ asc l' 2 = .ptr 2 0 ∧ asc l' 7 = .hsl 3 0 n n 1 ∧ asc l' 8 = ii n := by
  subst hz
  refine loop_nat n (fun k l H => loopR Try.prog tab (kf + 1) none LB23_3 23 97 [1, 2, 7, 8] 4 k l H)
    (fun i l H => asc l 1 = sW g nl3 cap3 ∧ asc l 2 = .ptr 2 0 ∧ asc l 7 = .hsl 3 0 n n 1 ∧ asc l 8 = ii i ∧ ∃ G, H = ([.slot, .slot, bxP ins n code nl cap outs nl2 cap2, rW (iniR g L n i)]) ++ G)
    (fun z => ∃ l', z = some (.exit 0 (fr 97 l') ([.slot, .slot, bxP ins n code nl cap outs nl2 cap2, rW (iniR g L n n)])) ∧ asc l' 1 = sW g nl3 cap3 ∧ asc l' 2 = .ptr 2 0 ∧ asc l' 7 = .hsl 3 0 n n 1 ∧ asc l' 8 = ii n) ?_ n 0 k l _ (by omega) hk ⟨a1, a2, a7, a8, [], by rw [List.append_nil]⟩
  clear hk a1 a2 a7 a8
  rintro i k l H hi ⟨a1, a2, a7, a8, G, rfl⟩
  have ht : trim 4 (fr 97 (keep l [1, 2, 7, 8])) (([.slot, .slot, bxP ins n code nl cap outs nl2 cap2, rW (iniR g L n i)]) ++ G) = ([.slot, .slot, bxP ins n code nl cap outs nl2 cap2, rW (iniR g L n i)]) := trim_app (by simp) (by simp only [a1, a2, a7, a8, EVb, EVc, Int.reduceEq, Int.reduceToNat, Int.reduceLE, Int.reduceLT, Int.reduceAdd, Int.reduceMul, Int.reduceSub, Int.reduceNeg, Nat.reduceAdd, Nat.reduceSub, Nat.reduceMul, Nat.reduceLT, Nat.reduceBEq, Nat.reduceEqDiff, Nat.reduceLeDiff]) (by simp only [EVb, EVc, Int.reduceEq, Int.reduceToNat, Int.reduceLE, Int.reduceLT, Int.reduceAdd, Int.reduceMul, Int.reduceSub, Int.reduceNeg, Nat.reduceAdd, Nat.reduceSub, Nat.reduceMul, Nat.reduceLT, Nat.reduceBEq, Nat.reduceEqDiff, Nat.reduceLeDiff])
  by_cases hc : i < n
  · have hc' : (i : Int) < ((n : Nat) : Int) := by omega
    have hc0 : (0 : Int) ≤ i := by omega
    have hw : IntKind.wrap .i64 ((i : Int) + 1) = ((i + 1 : Nat) : Int) := by rw [wrap64 (by omega) (by omega)]; omega
    have hz := Zero_ev kf L (by omega)
    simp only [run, ii] at hz
    have hgl := encW_length g
    have hx0 := encW_getN hg
    have hg0' : (0 : Int) < g.length := by omega
    have hil : (encW (iniR g L n i)).length = n := by rw [encW_length, iniR_length]
    have hset := iniR_set (g := g) (L := L) hc
    have hz1 : (encW (iniR g L n i)).set i (.slice (encR (List.replicate L zR)) (List.replicate L zR).length false none) = encW ((iniR g L n i).set i (zRw L)) := encW_set (x := zRw L)
    have hsl : (encW ((iniR g L n i).set i (zRw L))).length = n := by rw [encW_length, List.length_set, iniR_length]
    by_cases hig : i < g.length
    · have hig' : (i : Int) < g.length := by omega
      have hxi := encW_getN hig
      have hz2 : (encW ((iniR g L n i).set i (zRw L))).set i (iRw (g.getD i dR)) = encW (((iniR g L n i).set i (zRw L)).set i (g.getD i dR)) := encW_set
      rw [List.set_set] at hz2
      rw [if_pos hig] at hset
      rw [hset] at hz2
      simp only [loopR_succ, ht]
      simp only [a1, a2, a7, a8, hc', hc0, hw, hc, hg0', hx0, hg0, hz, hgl, hil, hz1, hsl, hig', hxi, hz2, loopR_succ, loopOf, findLoop, firstRegion, Option.some_or, Option.none_or, Option.getD_some, Option.some.injEq, Try.f23, FT, Int.reduceEq, Int.reduceToNat, Int.reduceLE, Int.reduceLT, Int.reduceAdd, Int.reduceMul, Int.reduceSub, Int.reduceNeg, Nat.reduceAdd, Nat.reduceSub, Nat.reduceMul, Nat.reduceLT, Nat.reduceBEq, Nat.reduceEqDiff, Nat.reduceLeDiff]
      exact .inr ⟨_, _, rfl, (by rfl), (by rfl), (by rfl), (by rfl), ⟨_, by rfl⟩⟩
    · have hig' : ¬ (i : Int) < g.length := by omega
      rw [if_neg hig] at hset
      rw [hset] at hz1
      simp only [loopR_succ, ht]
      simp only [a1, a2, a7, a8, hc', hc0, hw, hc, hg0', hx0, hg0, hz, hgl, hil, hz1, hig', loopR_succ, loopOf, findLoop, firstRegion, Option.some_or, Option.none_or, Option.getD_some, Option.some.injEq, Try.f23, FT, Int.reduceEq, Int.reduceToNat, Int.reduceLE, Int.reduceLT, Int.reduceAdd, Int.reduceMul, Int.reduceSub, Int.reduceNeg, Nat.reduceAdd, Nat.reduceSub, Nat.reduceMul, Nat.reduceLT, Nat.reduceBEq, Nat.reduceEqDiff, Nat.reduceLeDiff]
      exact .inr ⟨_, _, rfl, (by rfl), (by rfl), (by rfl), (by rfl), ⟨_, by rfl⟩⟩
  · refine .inl ?_
    obtain rfl : i = n := by omega
    have hc' : ¬ (((i : Nat) : Int) < ((i : Nat) : Int)) := by omega
    simp only [loopR_succ, ht]
    simp only [a1, a2, a7, a8, hc', loopR_succ, loopOf, findLoop, firstRegion, Option.some_or, Option.none_or, Option.getD_some, Option.some.injEq, Try.f23, FT, Int.reduceEq, Int.reduceToNat, Int.reduceLE, Int.reduceLT, Int.reduceAdd, Int.reduceMul, Int.reduceSub, Int.reduceNeg, Nat.reduceAdd, Nat.reduceSub, Nat.reduceMul, Nat.reduceLT, Nat.reduceBEq, Nat.reduceEqDiff, Nat.reduceLeDiff]
    exact ⟨_, rfl, (by rfl), (by rfl), (by rfl), (by rfl)⟩
theorem mayM_b {x : Ins} {n : Nat} (h : mayM x n = true) : 0 ≤ x.b ∧ x.b < (n : Int) := by
  obtain ⟨_, _, m6, m7⟩ := mayM_facts h
  by_cases e : x.op = 3 ∨ x.op = 4
  · exact m7 e
  · simp only [mayM, Bool.and_eq_true, decide_eq_true_eq] at h
    obtain ⟨⟨⟨⟨_, _, _, _, h5⟩, _⟩, _⟩, _⟩ := h
    omega
theorem vals_getD {R : List Rw} {r : Int} (h0 : 0 ≤ r) (h : r < R.length) (d : List Int) : (R.map Rw.vals).getD r.toNat d = (R.getD r.toNat dR).vals := by
  have : r.toNat < R.length := by omega
  simp [List.getD_eq_getElem?_getD, this]
theorem stepE_rows {L : Nat} {R : List Rw} {x : Ins} (h : mayM x R.length = true) : stepE (rowSem L) (R.map Rw.vals) x = (rowF x.op x.c (R.getD x.a.toNat dR).vals (R.getD x.b.toNat dR).vals).map fun v => (R.map Rw.vals).set x.to.toNat v := by
  obtain ⟨_, _, ⟨a0, a1⟩, _⟩ := mayM_facts h
  obtain ⟨b0, b1⟩ := mayM_b h
  unfold stepE
  rw [vals_getD a0 a1, vals_getD b0 b1]
  rfl
theorem encCode_cell {l : List Ins} {i : Nat} (h : i < l.length) : (encCode l)[i * 5]? = some (.int .i64 l[i].op) ∧ (encCode l)[i * 5 + 1]? = some (.int .i64 l[i].to) := by
  have hd := encCode_drop l i
  rw [List.drop_eq_getElem_cons h, encCode] at hd
  constructor
  · have := congrArg (·[0]?) hd
    simpa [List.getElem?_drop] using this
  · have := congrArg (·[1]?) hd
    simpa [List.getElem?_drop] using this
theorem loop_flw10 (kf : Nat) (ins : Int) (n : Nat) (code : List Ins) (nl : Bool) (cap : Option Nat) (outs : List Int) (nl2 : Bool) (cap2 : Option Nat) (L : Nat) (hL : L ≤ 1000) (hn : n ≤ 128) (R0 : List Rw) (hR0 : R0.length = n) (hS0 : ∀ r ∈ R0, SzR L 4 r) (hcode : ∀ x ∈ code, mayM x n = true) (hcl : code.length ≤ 200) (hkf : 50000 ≤ kf) (k : Nat) (l : Ass) (z : Option Out) (hz : loopR Try.prog tab (kf + 7) none LB23_10 23 97 [2, 7, 9, 10] 4 k l ([loW nW, .slot, bxP ins n code nl cap outs nl2 cap2, rW R0]) = z) (hk : code.length < k) (a2 : asc l 2 = .ptr 2 0) (a7 : asc l 7 = .hsl 3 0 n n 1) (a9 : asc l 9 = lv 0 1 nW.length) (a10 : asc l 10 = ii 0) :
    (∃ l' R Z, z = some (.exit 2 (fr 97 l') [loW Z, .slot, bxP ins n code nl cap outs nl2 cap2, rW R]) ∧ asc l' 2 = .ptr 2 0 ∧ asc l' 7 = .hsl 3 0 n n 1 ∧ asc l' 9 = lv 0 1 Z.length ∧ runE (rowSem L) code (R0.map Rw.vals) = some (R.map Rw.vals) ∧ R.length = n ∧ (∀ r ∈ R, SzR L (4 + 6 * code.length) r) ∧ Z.length ≤ 200) ∨ (runE (rowSem L) code (R0.map Rw.vals) = none ∧ ∃ (l' : Ass) (Z : List Rw) (j : Nat) (X : Heap), z = some (.ret (fr 97 l') (loW Z :: X)) ∧ asc l' 4 = lv 0 1 Z.length ∧ asc l' 5 = ii j ∧ asc l' 6 = .c (.slice [] 0 true (some 0))) := by
  subst hz
  refine loop_nat code.length (fun k l H => loopR Try.prog tab (kf + 7) none LB23_10 23 97 [2, 7, 9, 10] 4 k l H)
    (fun i l H => ∃ (R : List Rw), ∃ (Z : List Rw), asc l 2 = .ptr 2 0 ∧ asc l 7 = .hsl 3 0 n n 1 ∧ asc l 9 = lv 0 1 Z.length ∧ asc l 10 = ii i ∧ (runE (rowSem L) (code.take i) (R0.map Rw.vals) = some (R.map Rw.vals) ∧ R.length = n ∧ (∀ r ∈ R, SzR L (4 + 6 * i) r) ∧ Z.length = i) ∧ ∃ G, H = ([loW Z, .slot, bxP ins n code nl cap outs nl2 cap2, rW R]) ++ G)
    (fun z => (∃ l' R Z, z = some (.exit 2 (fr 97 l') [loW Z, .slot, bxP ins n code nl cap outs nl2 cap2, rW R]) ∧ asc l' 2 = .ptr 2 0 ∧ asc l' 7 = .hsl 3 0 n n 1 ∧ asc l' 9 = lv 0 1 Z.length ∧ runE (rowSem L) code (R0.map Rw.vals) = some (R.map Rw.vals) ∧ R.length = n ∧ (∀ r ∈ R, SzR L (4 + 6 * code.length) r) ∧ Z.length ≤ 200) ∨ (runE (rowSem L) code (R0.map Rw.vals) = none ∧ ∃ (l' : Ass) (Z : List Rw) (j : Nat) (X : Heap), z = some (.ret (fr 97 l') (loW Z :: X)) ∧ asc l' 4 = lv 0 1 Z.length ∧ asc l' 5 = ii j ∧ asc l' 6 = .c (.slice [] 0 true (some 0)))) ?_ code.length 0 k l _ (by omega) hk ⟨R0, nW, a2, a7, a9, a10, ⟨rfl, hR0, hS0, rfl⟩, [], by rw [List.append_nil]⟩
  clear hk a2 a7 a9 a10
  rintro i k l H hi ⟨R, Z, a2, a7, a9, a10, hp, G, rfl⟩
  have ht : trim 4 (fr 97 (keep l [2, 7, 9, 10])) (([loW Z, .slot, bxP ins n code nl cap outs nl2 cap2, rW R]) ++ G) = ([loW Z, .slot, bxP ins n code nl cap outs nl2 cap2, rW R]) := trim_app (by simp) (by simp only [a2, a7, a9, a10, lo_under, lv_under, EVb, EVc, Int.reduceEq, Int.reduceToNat, Int.reduceLE, Int.reduceLT, Int.reduceAdd, Int.reduceMul, Int.reduceSub, Int.reduceNeg, Nat.reduceAdd, Nat.reduceSub, Nat.reduceMul, Nat.reduceLT, Nat.reduceBEq, Nat.reduceEqDiff, Nat.reduceLeDiff]) (by simp only [lo_under, lv_under, EVb, EVc, Int.reduceEq, Int.reduceToNat, Int.reduceLE, Int.reduceLT, Int.reduceAdd, Int.reduceMul, Int.reduceSub, Int.reduceNeg, Nat.reduceAdd, Nat.reduceSub, Nat.reduceMul, Nat.reduceLT, Nat.reduceBEq, Nat.reduceEqDiff, Nat.reduceLeDiff])
  by_cases hc : i < code.length
  · have hc' : (i : Int) < ((code.length : Nat) : Int) := by omega
    have hc0 : (0 : Int) ≤ i := by omega
    have hw : IntKind.wrap .i64 ((i : Int) + 1) = ((i + 1 : Nat) : Int) := by rw [wrap64 (by omega) (by omega)]; omega
    obtain ⟨hp, hRl, hRS, hZl⟩ := hp
    have hx := encCode_get hc
    have hxt := (encCode_cell hc).2
    obtain ⟨x, hX⟩ : ∃ x, x = code[i] := ⟨_, rfl⟩
    rw [← hX] at hx hxt
    have hm := hcode x (by rw [hX]; exact List.getElem_mem hc)
    rw [← hRl] at hm
    have hm' := hm
    obtain ⟨_, ⟨t0, t1⟩, _, _⟩ := mayM_facts hm'
    have hd := do_ev kf x.op x.to x.a x.b x.c R L (4 + 6 * i) hL (by omega) hRS hm hkf
    have hst := stepE_rows (L := L) hm
    have hrun : runE (rowSem L) (code.take (i + 1)) (R0.map Rw.vals) = stepE (rowSem L) (R.map Rw.vals) x := by
      rw [List.take_succ_eq_append_getElem hc, runE_snoc, hp, ← hX]; rfl
    rw [hst] at hrun
    have hel := encW_length R
    have htk : (encW R).take R.length = encW R := List.take_of_length_le (by rw [hel]; exact Nat.le_refl _)
    subst hRl
    simp only [aI, ii, bb] at hd
    have hap := fun (X : Heap) (y : IV) => lo_length (e := 40) (n := Z.length) (sz := 1) (by_ := 24) (cells := encW Z) (cs := [y]) (X := X) (Nat.le_trans (Nat.mul_le_mul_right 24 (show Z.length + 1 ≤ 20001 by omega)) (by decide)) (by decide) (by rw [encW_length, Nat.mul_one])
    have hsz : (loW Z).under 4 = true := lo_under
    rcases hd with ⟨hq, hd⟩ | ⟨y, hq, hSy, hd⟩
    · rw [hq] at hrun
      refine .inl (.inr ⟨?_, ?_⟩)
      · have e := List.take_append_drop (i + 1) code
        rw [← e, runE_append, hrun]; rfl
      · simp only [loopR_succ, ht]
        simp only [a2, a7, a9, a10, hc', hc0, hw, hx, hel, htk, hd, hsz, loopR_succ, loopOf, findLoop, firstRegion, Option.some_or, Option.none_or, Option.getD_some, Option.some.injEq, Try.f23, FT, Int.reduceEq, Int.reduceToNat, Int.reduceLE, Int.reduceLT, Int.reduceAdd, Int.reduceMul, Int.reduceSub, Int.reduceNeg, Nat.reduceAdd, Nat.reduceSub, Nat.reduceMul, Nat.reduceLT, Nat.reduceBEq, Nat.reduceEqDiff, Nat.reduceLeDiff]
        exact ⟨_, Z, i, _, rfl, (by rfl), (by rfl), (by rfl)⟩
    · rw [hq] at hrun
      have hset : (encW R).set x.to.toNat (.slice (encR y.l) y.l.length y.nl y.cap) = encW (R.set x.to.toNat y) := encW_set (x := y)
      have happ : encW Z ++ [.slice (encR y.l) y.l.length y.nl y.cap] = encW (Z ++ [y]) := by rw [encW_append]; rfl
      have hzl1 : (Z ++ [y]).length = Z.length + 1 := by simp
      have ht0 : x.to.toNat < R.length := by omega
      simp only [loopR_succ, ht]
      simp only [a2, a7, a9, a10, hc', hc0, hw, hx, hxt, hel, htk, hd, t0, t1, ht0, hset, hap, hsz, loopR_succ, loopOf, findLoop, firstRegion, Option.some_or, Option.none_or, Option.getD_some, Option.some.injEq, Try.f23, FT, Int.reduceEq, Int.reduceToNat, Int.reduceLE, Int.reduceLT, Int.reduceAdd, Int.reduceMul, Int.reduceSub, Int.reduceNeg, Nat.reduceAdd, Nat.reduceSub, Nat.reduceMul, Nat.reduceLT, Nat.reduceBEq, Nat.reduceEqDiff, Nat.reduceLeDiff]
      refine .inr ⟨_, _, hc, rfl, R.set x.to.toNat y, Z ++ [y], (by rfl), (by rfl), (by rw [hzl1]; rfl), (by rfl), ⟨?_, by simp, ?_, ?_⟩, ⟨_, by rw [loW, hzl1, ← happ]⟩⟩
      · rw [hrun, List.map_set]; rfl
      · intro r hr
        rcases List.mem_or_eq_of_mem_set hr with hr | rfl
        · exact (hRS r hr).mono (by omega)
        · exact hSy.mono (by omega)
      · omega
  · refine .inl ?_
    obtain rfl : i = code.length := by omega
    have hc' : ¬ (((code.length : Nat) : Int) < ((code.length : Nat) : Int)) := by omega
    obtain ⟨hp, hRl, hRS, hZl⟩ := hp
    have hsz : (loW Z).under 4 = true := lo_under
    rw [List.take_of_length_le (Nat.le_refl _)] at hp
    simp only [loopR_succ, ht]
    simp only [a2, a7, a9, a10, hc', hsz, loopR_succ, loopOf, findLoop, firstRegion, Option.some_or, Option.none_or, Option.getD_some, Option.some.injEq, Try.f23, FT, Int.reduceEq, Int.reduceToNat, Int.reduceLE, Int.reduceLT, Int.reduceAdd, Int.reduceMul, Int.reduceSub, Int.reduceNeg, Nat.reduceAdd, Nat.reduceSub, Nat.reduceMul, Nat.reduceLT, Nat.reduceBEq, Nat.reduceEqDiff, Nat.reduceLeDiff]
    exact .inl ⟨_, R, Z, rfl, (by rfl), (by rfl), (by rfl), hp, hRl, hRS, by omega⟩
def outR (R : List Rw) (outs : List Int) (i : Nat) : List Rw := (outs.take i).map fun r => R.getD r.toNat dR
theorem outR_succ {R : List Rw} {outs : List Int} {i : Nat} (h : i < outs.length) : outR R outs (i + 1) = outR R outs i ++ [R.getD outs[i].toNat dR] := by
  unfold outR
  rw [List.take_succ_eq_append_getElem h, List.map_append]; rfl
theorem outR_length {R : List Rw} {outs : List Int} {i : Nat} (h : i ≤ outs.length) : (outR R outs i).length = i := by
  unfold outR
  rw [List.length_map, List.length_take]; omega
theorem loop_flw19 (kf : Nat) (ins : Int) (n : Nat) (code : List Ins) (nl : Bool) (cap : Option Nat) (outs : List Int) (nl2 : Bool) (cap2 : Option Nat) (Z R : List Rw) (hR : R.length = n) (hout : ∀ r ∈ outs, 0 ≤ r ∧ r < (n : Int)) (ho : outs.length ≤ 200) (k : Nat) (l : Ass) (z : Option Out) (hz : loopR Try.prog tab kf none LB23_19 23 97 [2, 7, 9, 13, 14] 4 k l ([loW Z, lo 40 0 (encW (outR R outs 0)), bxP ins n code nl cap outs nl2 cap2, rW R]) = z) (hk : outs.length < k) (a2 : asc l 2 = .ptr 2 0) (a7 : asc l 7 = .hsl 3 0 n n 1) (a9 : asc l 9 = lv 0 1 Z.length) (a13 : asc l 13 = lv 1 1 0) (a14 : asc l 14 = ii 0) :
    ∃ l', z = some (.exit 4 (fr 97 l') ([loW Z, lo 40 outs.length (encW (outR R outs outs.length)), bxP ins n code nl cap outs nl2 cap2, rW R])) ∧ asc l' 2 = .ptr 2 0 ∧ asc l' 7 = .hsl 3 0 n n 1 ∧ asc l' 9 = lv 0 1 Z.length ∧ asc l' 13 = lv 1 1 outs.length ∧ asc l' 14 = ii outs.length := by
  subst hz
  refine loop_nat outs.length (fun k l H => loopR Try.prog tab kf none LB23_19 23 97 [2, 7, 9, 13, 14] 4 k l H)
    (fun i l H => asc l 2 = .ptr 2 0 ∧ asc l 7 = .hsl 3 0 n n 1 ∧ asc l 9 = lv 0 1 Z.length ∧ asc l 13 = lv 1 1 i ∧ asc l 14 = ii i ∧ ∃ G, H = ([loW Z, lo 40 i (encW (outR R outs i)), bxP ins n code nl cap outs nl2 cap2, rW R]) ++ G)
    (fun z => ∃ l', z = some (.exit 4 (fr 97 l') ([loW Z, lo 40 outs.length (encW (outR R outs outs.length)), bxP ins n code nl cap outs nl2 cap2, rW R])) ∧ asc l' 2 = .ptr 2 0 ∧ asc l' 7 = .hsl 3 0 n n 1 ∧ asc l' 9 = lv 0 1 Z.length ∧ asc l' 13 = lv 1 1 outs.length ∧ asc l' 14 = ii outs.length) ?_ outs.length 0 k l _ (by omega) hk ⟨a2, a7, a9, a13, a14, [], by rw [List.append_nil]⟩
  clear hk a2 a7 a9 a13 a14
  rintro i k l H hi ⟨a2, a7, a9, a13, a14, G, rfl⟩
  have ht : trim 4 (fr 97 (keep l [2, 7, 9, 13, 14])) (([loW Z, lo 40 i (encW (outR R outs i)), bxP ins n code nl cap outs nl2 cap2, rW R]) ++ G) = ([loW Z, lo 40 i (encW (outR R outs i)), bxP ins n code nl cap outs nl2 cap2, rW R]) := trim_app (by simp) (by simp only [a2, a7, a9, a13, a14, lo_under, lv_under, EVb, EVc, Int.reduceEq, Int.reduceToNat, Int.reduceLE, Int.reduceLT, Int.reduceAdd, Int.reduceMul, Int.reduceSub, Int.reduceNeg, Nat.reduceAdd, Nat.reduceSub, Nat.reduceMul, Nat.reduceLT, Nat.reduceBEq, Nat.reduceEqDiff, Nat.reduceLeDiff]) (by simp only [lo_under, lv_under, EVb, EVc, Int.reduceEq, Int.reduceToNat, Int.reduceLE, Int.reduceLT, Int.reduceAdd, Int.reduceMul, Int.reduceSub, Int.reduceNeg, Nat.reduceAdd, Nat.reduceSub, Nat.reduceMul, Nat.reduceLT, Nat.reduceBEq, Nat.reduceEqDiff, Nat.reduceLeDiff])
  by_cases hc : i < outs.length
  · have hc' : (i : Int) < ((outs.length : Nat) : Int) := by omega
    have hc0 : (0 : Int) ≤ i := by omega
    have hw : IntKind.wrap .i64 ((i : Int) + 1) = ((i + 1 : Nat) : Int) := by rw [wrap64 (by omega) (by omega)]; omega
    have hx := encInts_get hc
    have hb := hout _ (List.getElem_mem hc)
    have hb' : outs[i] < (R.length : Int) := by rw [hR]; exact hb.2
    have hxr := encW_get hb.1 hb'
    have hol := outR_length (R := R) (Nat.le_of_lt hc)
    have hos := outR_succ (R := R) hc
    have hel := encW_length R
    have hel2 := encInts_length outs
    subst hR
    have hap := fun (X : Heap) (y : IV) => apO_lv (e := 40) (s := 1) (n := i) (m := 1) (sz := 1) (by_ := 24) (cells := encW (outR R outs i)) (cs := [y]) (H := loW Z :: lo 40 i (encW (outR R outs i)) :: X) (by decide) (Nat.le_trans (Nat.mul_le_mul_right 24 (show i + 1 ≤ 20001 by omega)) (by decide)) (by decide) (by rfl) (by rw [encW_length, hol, Nat.mul_one])
    have happ : encW (outR R outs i) ++ [iRw (R.getD outs[i].toNat dR)] = encW (outR R outs (i + 1)) := by rw [hos, encW_append]; rfl
    simp only [loopR_succ, ht]
    simp only [a2, a7, a9, a13, a14, hc', hc0, hw, hx, hb, hb', hxr, hel, hel2, hap, happ, loopR_succ, loopOf, findLoop, firstRegion, Option.some_or, Option.none_or, Option.getD_some, Option.some.injEq, Try.f23, FT, Int.reduceEq, Int.reduceToNat, Int.reduceLE, Int.reduceLT, Int.reduceAdd, Int.reduceMul, Int.reduceSub, Int.reduceNeg, Nat.reduceAdd, Nat.reduceSub, Nat.reduceMul, Nat.reduceLT, Nat.reduceBEq, Nat.reduceEqDiff, Nat.reduceLeDiff]
    exact .inr ⟨_, _, hc, rfl, (by rfl), (by rfl), (by rfl), (by rfl), (by rfl), ⟨_, by rfl⟩⟩
  · refine .inl ?_
    obtain rfl : i = outs.length := by omega
    have hc' : ¬ (((outs.length : Nat) : Int) < ((outs.length : Nat) : Int)) := by omega
    simp only [loopR_succ, ht]
    simp only [a2, a7, a9, a13, a14, hc', loopR_succ, loopOf, findLoop, firstRegion, Option.some_or, Option.none_or, Option.getD_some, Option.some.injEq, Try.f23, FT, Int.reduceEq, Int.reduceToNat, Int.reduceLE, Int.reduceLT, Int.reduceAdd, Int.reduceMul, Int.reduceSub, Int.reduceNeg, Nat.reduceAdd, Nat.reduceSub, Nat.reduceMul, Nat.reduceLT, Nat.reduceBEq, Nat.reduceEqDiff, Nat.reduceLeDiff]
    exact ⟨_, rfl, (by rfl), (by rfl), (by rfl), (by rfl), (by rfl)⟩
theorem outR_full (R : List Rw) (outs : List Int) : outR R outs outs.length = outs.map fun r => R.getD r.toNat dR := by
  unfold outR
  rw [List.take_of_length_le (Nat.le_refl _)]
theorem Follow_ev (k : Nat) (ins : Int) (n : Nat) (code : List Ins) (outs : List Int) (nl : Bool) (cap : Option Nat) (nl2 : Bool) (cap2 : Option Nat) (g : List Rw) (nl3 : Bool) (cap3 : Option Nat) (L : Nat) (hL : L ≤ 1000) (hg : 0 < g.length) (hgL : ∀ r ∈ g, SzR L 4 r) (hr : rightM ⟨ins, n, code, outs⟩ = true) (hcl : code.length ≤ 200) (hol : outs.length ≤ 200) (hk : 50000 ≤ k) :
    (runE (rowSem L) code ((iniR g L n n).map Rw.vals) = none ∧ ∃ (ss : List IV) (sn : Nat) (sb : Bool) (sc : Option Nat) (j : Nat), run (k+9) 23 [aP ⟨ins, n, code, outs⟩ nl cap nl2 cap2, sW g nl3 cap3] = some (.tup [.c (.slice ss sn sb sc), ii j, .c (.slice [] 0 true (some 0))])) ∨
    ∃ (ss : List IV) (sn : Nat) (sb : Bool) (sc : Option Nat) (R : List Rw) (nl4 : Bool) (cap4 : Option Nat), runE (rowSem L) code ((iniR g L n n).map Rw.vals) = some (R.map Rw.vals) ∧ R.length = n ∧ (∀ r ∈ R, SzR L (4 + 6 * code.length) r) ∧ run (k+9) 23 [aP ⟨ins, n, code, outs⟩ nl cap nl2 cap2, sW g nl3 cap3] = some (.tup [.c (.slice ss sn sb sc), ii (-1), sW (outs.map fun r => R.getD r.toNat dR) nl4 cap4]) := by
  have hr' := hr
  simp only [rightM, headM, codeM, outsM, Bool.and_eq_true, decide_eq_true_eq, List.all_eq_true] at hr'
  obtain ⟨⟨⟨h1, h2, h3, h4, h5, h6⟩, ho⟩, hcd⟩ := hr'
  have q1 : (0 : Int) ≤ (n : Int) := by omega
  have q2 : n * 24 ≤ roomBytes := Nat.le_trans (show n * 24 ≤ 3072 by omega) (by decide)
  have q3 : n ≤ roomBytes := Nat.le_trans (show n ≤ 128 by omega) (by decide)
  have hini : (iniR g L n 0) = List.replicate n dR := iniR_zero g L n
  have hg0 : (g.getD 0 dR).l.length = L := by
    rw [List.getD_eq_getElem?_getD, List.getElem?_eq_getElem hg]
    exact (hgL _ (List.getElem_mem hg)).len
  have hsz : ∀ r ∈ iniR g L n n, SzR L 4 r := by
    intro r hr
    unfold iniR at hr
    obtain ⟨j, hj, rfl⟩ := List.mem_map.1 hr
    rw [if_pos (List.mem_range.1 hj)]
    split
    · rename_i hjl
      rw [List.getD_eq_getElem?_getD, List.getElem?_eq_getElem hjl]
      exact hgL _ (List.getElem_mem hjl)
    · exact ⟨by simp [zRw], fun x hx => by rw [List.eq_of_mem_replicate hx]; exact Nat.zero_le _⟩
  obtain ⟨R0, hR0⟩ : ∃ R0, R0 = iniR g L n n := ⟨_, rfl⟩
  have hR0l : R0.length = n := by rw [hR0, iniR_length]
  have hlf := loop_flw3 (k+7) ins n code nl cap outs nl2 cap2 g nl3 cap3 L hL hg hg0 (by omega)
  have hlt := loop_flw10 (k+1) ins n code nl cap outs nl2 cap2 L hL (by omega) R0 hR0l (by rw [hR0]; exact hsz) hcd hcl (by omega)
  rw [← hR0] at hlf ⊢
  rw [run, ev23, ans_trim]
  simp only [Try.f23, aP, ii, bb, q1, q2, q3, encW_rep, ← hini, FT, Int.reduceEq, Int.reduceToNat, Int.reduceLE, Int.reduceLT, Int.reduceAdd, Int.reduceMul, Int.reduceSub, Int.reduceNeg, Nat.reduceAdd, Nat.reduceSub, Nat.reduceMul, Nat.reduceLT, Nat.reduceBEq, Nat.reduceEqDiff, Nat.reduceLeDiff]
  rw [evalCode_loopB LB23_3 lp23_3]; rotate_left; rfl; rfl; rfl
  generalize hz : loopR _ _ _ _ _ _ _ _ _ _ _ _ = z
  obtain ⟨l', rfl, e1, e2, e7, e8⟩ := hlf _ _ z hz (by omega) (by rfl) (by rfl) (by rfl) (by rfl)
  clear hz hlf
  simp only [e1, e2, e7, FT, Int.reduceEq, Int.reduceToNat, Int.reduceLE, Int.reduceLT, Int.reduceAdd, Int.reduceMul, Int.reduceSub, Int.reduceNeg, Nat.reduceAdd, Nat.reduceSub, Nat.reduceMul, Nat.reduceLT, Nat.reduceBEq, Nat.reduceEqDiff, Nat.reduceLeDiff]
  rw [evalCode_loopB LB23_10 lp23_10]; rotate_left; rfl; rfl; rfl
  generalize hz : loopR _ _ _ _ _ _ _ _ _ _ _ _ = z
  obtain ⟨l', R, Z, rfl, e2, e7, e9, hrun, hRl, hRS, hZ⟩ | ⟨hrun, l', Z, j, X, rfl, e4, e5, e6⟩ := hlt _ _ z hz (by omega) (by exact e2) (by exact e7) (by rfl) (by rfl)
  · clear hz hlt
    simp only [e2, e7, e9, FT, Int.reduceEq, Int.reduceToNat, Int.reduceLE, Int.reduceLT, Int.reduceAdd, Int.reduceMul, Int.reduceSub, Int.reduceNeg, Nat.reduceAdd, Nat.reduceSub, Nat.reduceMul, Nat.reduceLT, Nat.reduceBEq, Nat.reduceEqDiff, Nat.reduceLeDiff]
    rw [evalCode_loopB LB23_19 lp23_19]; rotate_left; rfl; rfl; rfl
    generalize hz : loopR _ _ _ _ _ _ _ _ _ _ _ _ = z
    obtain ⟨l', rfl, f2, f7, f9, f13, f14⟩ := loop_flw19 (k+8) ins n code nl cap outs nl2 cap2 Z R hRl ho hol _ _ z hz (by omega) (by exact e2) (by exact e7) (by exact e9) (by rfl) (by rfl)
    clear hz
    rw [outR_full]
    have hlo : ∀ {e : TypeId} {m : Nat} {cells : List IV}, (lo e m cells).under 0 = true := lo_under
    have hZe := encW_length Z
    have hOe : (encW (outs.map fun r => R.getD r.toNat dR)).length = outs.length := by rw [encW_length, List.length_map]
    refine .inr ?_
    by_cases hZ0 : Z.length = 0
    · obtain rfl : Z = [] := List.eq_nil_of_length_eq_zero hZ0
      refine ⟨[], 0, true, some 0, R, decide (outs.length = 0), if outs.length = 0 then some 0 else none, hrun, hRl, hRS, ?_⟩
      simp only [f9, f13, hOe, sW, lv_zero, List.length_map, FT, Int.reduceEq, Int.reduceToNat, Int.reduceLE, Int.reduceLT, Int.reduceAdd, Int.reduceMul, Int.reduceSub, Int.reduceNeg, Nat.reduceAdd, Nat.reduceSub, Nat.reduceMul, Nat.reduceLT, Nat.reduceBEq, Nat.reduceEqDiff, Nat.reduceLeDiff]
      try rfl
    · refine ⟨encW Z, Z.length, false, none, R, decide (outs.length = 0), if outs.length = 0 then some 0 else none, hrun, hRl, hRS, ?_⟩
      simp only [f9, f13, hZe, hZ0, hOe, sW, List.length_map, FT, Int.reduceEq, Int.reduceToNat, Int.reduceLE, Int.reduceLT, Int.reduceAdd, Int.reduceMul, Int.reduceSub, Int.reduceNeg, Nat.reduceAdd, Nat.reduceSub, Nat.reduceMul, Nat.reduceLT, Nat.reduceBEq, Nat.reduceEqDiff, Nat.reduceLeDiff]
      try rfl
  · clear hz hlt
    refine .inl ⟨hrun, ?_⟩
    have hZe := encW_length Z
    by_cases hZ0 : Z.length = 0
    · obtain rfl : Z = [] := List.eq_nil_of_length_eq_zero hZ0
      refine ⟨[], 0, true, some 0, j, ?_⟩
      simp only [e4, e5, e6, lv_zero, FT, Int.reduceEq, Int.reduceToNat, Int.reduceLE, Int.reduceLT, Int.reduceAdd, Int.reduceMul, Int.reduceSub, Int.reduceNeg, Nat.reduceAdd, Nat.reduceSub, Nat.reduceMul, Nat.reduceLT, Nat.reduceBEq, Nat.reduceEqDiff, Nat.reduceLeDiff]
      try rfl
    · refine ⟨encW Z, Z.length, false, none, j, ?_⟩
      simp only [e4, e5, e6, hZe, hZ0, FT, Int.reduceEq, Int.reduceToNat, Int.reduceLE, Int.reduceLT, Int.reduceAdd, Int.reduceMul, Int.reduceSub, Int.reduceNeg, Nat.reduceAdd, Nat.reduceSub, Nat.reduceMul, Nat.reduceLT, Nat.reduceBEq, Nat.reduceEqDiff, Nat.reduceLeDiff]
      try rfl
end Go.Proofs.Sw
namespace Go.Proofs.Sw
open Go.Ab
variable [Globals]
structure Gr where
  l : List Int
  nl : Bool
  cap : Option Nat
abbrev iGr (g : Gr) : IV := .slice (encInts g.l) g.l.length g.nl g.cap
def encG (D : List Gr) : List IV := D.map fun g => .slice (encInts g.l) g.l.length g.nl g.cap
theorem encG_length (D : List Gr) : (encG D).length = D.length := by simp [encG]
theorem encG_get {D : List Gr} {i : Nat} (h : i < D.length) : (encG D)[i]? = some (iGr (D.getD i ⟨[], true, none⟩)) := by
  simp [encG, h]
abbrev dG : Gr := ⟨[], true, none⟩
abbrev sG (D : List Gr) (nl : Bool) (cap : Option Nat) : AV := .c (.slice (encG D) D.length nl cap)
def in64 (x : Int) : Prop := -9223372036854775808 ≤ x ∧ x ≤ 9223372036854775807
theorem nD_in64 {x : Int} (h : in64 x) : (nD x).length ≤ 4 := dig_len (k := 4) (by
  unfold in64 at h
  have : (65536 : Nat) ^ 4 = 18446744073709551616 := by decide
  rw [this]
  omega)
def GrOk (D : List Gr) : Prop := ∀ g ∈ D, ∀ x ∈ g.l, in64 x
theorem getD_G {D : List Gr} {i : Nat} (h : i < D.length) : D.getD i dG = D[i] := by
  rw [List.getD_eq_getElem?_getD, List.getElem?_eq_getElem h]; rfl
theorem szQ {Z : List RI} {r : List Int} (h : Z.map RI.v = r) (hin : ∀ x ∈ r, in64 x) : SzR r.length 4 ⟨Z, false, none⟩ := ⟨by rw [← h]; simp, fun x hx => nD_in64 (hin _ (by rw [← h]; exact List.mem_map.2 ⟨x, hx, rfl⟩))⟩
structure GQ (D : List Gr) (Q : List Rw) (i : Nat) : Prop where
  len : Q.length = i
  vals : Q.map Rw.vals = (D.take i).map Gr.l
  sz : ∀ r ∈ Q, SzR (D.getD 0 dG).l.length 4 r
  fit : (D.getD 0 dG).l.length ≤ 20 ∨ i = 0
abbrev nZ : List RI := []
theorem bs37h {H : Heap} {id n : Nat} {cells : List IV} (h : H[id]? = some (.row false 43 cells)) (hl : cells.length = n * 2) : buildSliceA Try.prog H 37 1 [(0, .hsl id 0 n (n * 2) 2)] = some (.hsl H.length 0 1 (1 * 1) 1, H.set id (.row true 43 cells) ++ [.row false 40 [.slice cells n false none]]) := by
  have b := bs37_1_0 (H.set id (.row true 43 cells)) (.slice cells n false none)
  have hr : rowOf H id (n * 2) = some (43, cells) := rowOf_eq h hl
  have hf : frzParts H [(0, .hsl id 0 n (n * 2) 2)] = some ([(0, [.slice cells n false none])], H.set id (.row true 43 cells)) := by
    rw [frzParts, kcells_hsl, frzs, frz_hsl, hr]
    simp only [Option.bind_some, Nat.zero_add, Nat.le_refl, if_true, List.drop_zero, frzs, frzParts]
    rw [List.take_of_length_le (by rw [hl]; exact Nat.le_refl _)]
  have hf2 : frzParts (H.set id (.row true 43 cells)) [(0, .c (.slice cells n false none))] = some ([(0, [.slice cells n false none])], H.set id (.row true 43 cells)) := rfl
  unfold buildSliceA at b ⊢
  rw [hf2] at b
  rw [hf]
  rw [List.length_set] at b
  exact b
theorem loop_giA (kf : Nat) (D : List Gr) (nl : Bool) (cap : Option Nat) (q : Nat) (hq : q < D.length) (Q : List Rw) (hQl : Q.length = q) (g : Gr) (hr : D.getD q dG = g) (r : List Int) (hgr : g.l = r) (hin : ∀ x ∈ r, in64 x) (hl : r.length ≤ 20) (hq6 : D.length ≤ 4611686018427387904) (hkf : 50 ≤ kf) (k : Nat) (l : Ass) (z : Option Out) (hz : loopR Try.prog tab (kf + 2) none LB41_9 41 58 [0, 4, 5, 6, 7] 3 k l ([.slot, lo 40 q (encW Q), .row false 43 (encR nZ)]) = z) (hk : r.length < k) (a0 : asc l 0 = sG D nl cap) (a4 : asc l 4 = lv 1 1 q) (a5 : asc l 5 = ii q) (a6 : asc l 6 = .hsl 2 0 0 (0 * 2) 2) (a7 : asc l 7 = ii 0) :
    ∃ (l' : Ass) (Z : List RI), z = some (.exit 2 (fr 58 l') ([.slot, lo 40 q (encW Q), .row false 43 (encR Z)])) ∧ asc l' 0 = sG D nl cap ∧ asc l' 4 = lv 1 1 q ∧ asc l' 5 = ii q ∧ asc l' 6 = .hsl 2 0 r.length (r.length * 2) 2 ∧ Z.map RI.v = r := by
  subst hz
  refine loop_nat r.length (fun k l H => loopR Try.prog tab (kf + 2) none LB41_9 41 58 [0, 4, 5, 6, 7] 3 k l H)
    (fun i l H => ∃ (Z : List RI), asc l 0 = sG D nl cap ∧ asc l 4 = lv 1 1 q ∧ asc l 5 = ii q ∧ asc l 6 = .hsl 2 0 i (i * 2) 2 ∧ asc l 7 = ii i ∧ ((Z.map RI.v = r.take i)) ∧ ∃ G, H = ([.slot, lo 40 q (encW Q), .row false 43 (encR Z)]) ++ G)
    (fun z => ∃ (l' : Ass) (Z : List RI), z = some (.exit 2 (fr 58 l') ([.slot, lo 40 q (encW Q), .row false 43 (encR Z)])) ∧ asc l' 0 = sG D nl cap ∧ asc l' 4 = lv 1 1 q ∧ asc l' 5 = ii q ∧ asc l' 6 = .hsl 2 0 r.length (r.length * 2) 2 ∧ Z.map RI.v = r) ?_ r.length 0 k l _ (by omega) hk ⟨nZ, a0, a4, a5, a6, a7, rfl, [], by rw [List.append_nil]⟩
  clear hk a0 a4 a5 a6 a7
  rintro i k l H hi ⟨Z, a0, a4, a5, a6, a7, hp, G, rfl⟩
  have ht : trim 3 (fr 58 (keep l [0, 4, 5, 6, 7])) (([.slot, lo 40 q (encW Q), .row false 43 (encR Z)]) ++ G) = ([.slot, lo 40 q (encW Q), .row false 43 (encR Z)]) := trim_app (by simp) (by simp only [a0, a4, a5, a6, a7, lo_under, lv_under, EVb, EVc, Int.reduceEq, Int.reduceToNat, Int.reduceLE, Int.reduceLT, Int.reduceAdd, Int.reduceMul, Int.reduceSub, Int.reduceNeg, Nat.reduceAdd, Nat.reduceSub, Nat.reduceMul, Nat.reduceLT, Nat.reduceBEq, Nat.reduceEqDiff, Nat.reduceLeDiff]) (by simp only [lo_under, lv_under, EVb, EVc, Int.reduceEq, Int.reduceToNat, Int.reduceLE, Int.reduceLT, Int.reduceAdd, Int.reduceMul, Int.reduceSub, Int.reduceNeg, Nat.reduceAdd, Nat.reduceSub, Nat.reduceMul, Nat.reduceLT, Nat.reduceBEq, Nat.reduceEqDiff, Nat.reduceLeDiff])
  by_cases hc : i < r.length
  · have hc' : (i : Int) < ((r.length : Nat) : Int) := by omega
    have hc0 : (0 : Int) ≤ i := by omega
    have hw : IntKind.wrap .i64 ((i : Int) + 1) = ((i + 1 : Nat) : Int) := by rw [wrap64 (by omega) (by omega)]; omega
    have hxg := encG_get hq
    rw [hr, iGr, hgr] at hxg
    have hgl := encG_length D
    have hq0 : (0 : Int) ≤ q := by omega
    have hq1 : (q : Int) < D.length := by omega
    have hx := encInts_get hc
    have hel := encInts_length r
    obtain ⟨h64a, h64b⟩ := hin _ (List.getElem_mem hc)
    obtain ⟨u, hu, hof⟩ := Of_ev kf r[i] h64a h64b (by omega)
    have hZl : Z.length = i := by have := congrArg List.length hp; simpa [List.length_take, Nat.min_eq_left (Nat.le_of_lt hc)] using this
    simp only [run, ii, aN, bb] at hof
    have hap := fun (X : Heap) (sl : Option Nat) (y y2 : IV) => apO_row (e := 43) (sz := 2) (by_ := 32) (m := 1) (len := i) (id := 2) (sl := sl) (H := .slot :: lo 40 q (encW Q) :: .row false 43 (encR Z) :: X) (cells := encR Z) (cs := [y, y2]) (by decide) (Nat.le_trans (Nat.mul_le_mul_right 32 (show i + 1 ≤ 21 by omega)) (by decide)) (by decide) (by rfl) (by rw [encR_length, hZl])
    simp only [loopR_succ, ht]
    simp only [a0, a4, a5, a6, a7, hc', hc0, hw, hxg, hgl, hq0, hq1, hx, hel, hof, hap, loopR_succ, loopOf, findLoop, firstRegion, Option.some_or, Option.none_or, Option.getD_some, Option.some.injEq, Try.f41, FT, Int.reduceEq, Int.reduceToNat, Int.reduceLE, Int.reduceLT, Int.reduceAdd, Int.reduceMul, Int.reduceSub, Int.reduceNeg, Nat.reduceAdd, Nat.reduceSub, Nat.reduceMul, Nat.reduceLT, Nat.reduceBEq, Nat.reduceEqDiff, Nat.reduceLeDiff]
    refine .inr ⟨_, _, hc, rfl, Z ++ [u], (by rfl), (by rfl), (by rfl), (by rfl), (by rfl), ?_, ⟨_, by rw [encR_append]; exact rfl⟩⟩
    rw [List.map_append, hp, List.take_succ_eq_append_getElem hc]
    simp [hu]
  · refine .inl ?_
    obtain rfl : i = r.length := by omega
    have hc' : ¬ (((r.length : Nat) : Int) < ((r.length : Nat) : Int)) := by omega
    have hxg := encG_get hq
    rw [hr, iGr, hgr] at hxg
    have hgl := encG_length D
    have hq0 : (0 : Int) ≤ q := by omega
    have hq1 : (q : Int) < D.length := by omega
    simp only [loopR_succ, ht]
    simp only [a0, a4, a5, a6, a7, hc', hxg, hgl, hq0, hq1, loopR_succ, loopOf, findLoop, firstRegion, Option.some_or, Option.none_or, Option.getD_some, Option.some.injEq, Try.f41, FT, Int.reduceEq, Int.reduceToNat, Int.reduceLE, Int.reduceLT, Int.reduceAdd, Int.reduceMul, Int.reduceSub, Int.reduceNeg, Nat.reduceAdd, Nat.reduceSub, Nat.reduceMul, Nat.reduceLT, Nat.reduceBEq, Nat.reduceEqDiff, Nat.reduceLeDiff]
    rw [List.take_of_length_le (Nat.le_refl _)] at hp
    exact ⟨_, Z, rfl, (by rfl), (by rfl), (by rfl), (by rfl), hp⟩
theorem loop_goA (kf : Nat) (D : List Gr) (nl : Bool) (cap : Option Nat) (hG : GrOk D) (hs : D.length * 24 ≤ roomBytes) (hq6 : D.length ≤ 4611686018427387904) (hkf : 50 ≤ kf) (k : Nat) (l : Ass) (z : Option Out) (hz : loopR Try.prog tab (kf + 2) none LB41_3 41 58 [0, 4, 5] 2 k l ([.slot, lo 40 0 (encW nW)]) = z) (hk : D.length < k) (a0 : asc l 0 = sG D nl cap) (a4 : asc l 4 = lv 1 1 0) (a5 : asc l 5 = ii 0) :
    (∃ (l' : Ass) (Q : List Rw), z = some (.exit 0 (fr 58 l') [.slot, lo 40 D.length (encW Q)]) ∧ asc l' 0 = sG D nl cap ∧ asc l' 4 = lv 1 1 D.length ∧ GQ D Q D.length) ∨ ∃ (l' : Ass) (H : Heap), z = some (.ret (fr 58 l') H) ∧ asc l' 2 = .c (.slice [] 0 true (some 0)) ∧ asc l' 3 = bb false := by
  subst hz
  refine loop_nat D.length (fun k l H => loopR Try.prog tab (kf + 2) none LB41_3 41 58 [0, 4, 5] 2 k l H)
    (fun i l H => ∃ (Q : List Rw), asc l 0 = sG D nl cap ∧ asc l 4 = lv 1 1 i ∧ asc l 5 = ii i ∧ (GQ D Q i) ∧ ∃ G, H = ([.slot, lo 40 i (encW Q)]) ++ G)
    (fun z => (∃ (l' : Ass) (Q : List Rw), z = some (.exit 0 (fr 58 l') [.slot, lo 40 D.length (encW Q)]) ∧ asc l' 0 = sG D nl cap ∧ asc l' 4 = lv 1 1 D.length ∧ GQ D Q D.length) ∨ ∃ (l' : Ass) (H : Heap), z = some (.ret (fr 58 l') H) ∧ asc l' 2 = .c (.slice [] 0 true (some 0)) ∧ asc l' 3 = bb false) ?_ D.length 0 k l _ (by omega) hk ⟨nW, a0, a4, a5, ⟨rfl, rfl, fun r hr => (nomatch hr), .inr rfl⟩, [], by rw [List.append_nil]⟩
  clear hk a0 a4 a5
  rintro i k l H hi ⟨Q, a0, a4, a5, hp, G, rfl⟩
  have ht : trim 2 (fr 58 (keep l [0, 4, 5])) (([.slot, lo 40 i (encW Q)]) ++ G) = ([.slot, lo 40 i (encW Q)]) := trim_app (by simp) (by simp only [a0, a4, a5, lo_under, lv_under, EVb, EVc, Int.reduceEq, Int.reduceToNat, Int.reduceLE, Int.reduceLT, Int.reduceAdd, Int.reduceMul, Int.reduceSub, Int.reduceNeg, Nat.reduceAdd, Nat.reduceSub, Nat.reduceMul, Nat.reduceLT, Nat.reduceBEq, Nat.reduceEqDiff, Nat.reduceLeDiff]) (by simp only [lo_under, lv_under, EVb, EVc, Int.reduceEq, Int.reduceToNat, Int.reduceLE, Int.reduceLT, Int.reduceAdd, Int.reduceMul, Int.reduceSub, Int.reduceNeg, Nat.reduceAdd, Nat.reduceSub, Nat.reduceMul, Nat.reduceLT, Nat.reduceBEq, Nat.reduceEqDiff, Nat.reduceLeDiff])
  by_cases hc : i < D.length
  · have hc' : (i : Int) < ((D.length : Nat) : Int) := by omega
    have hc0 : (0 : Int) ≤ i := by omega
    have hw : IntKind.wrap .i64 ((i : Int) + 1) = ((i + 1 : Nat) : Int) := by rw [wrap64 (by omega) (by omega)]; omega
    have hxi := encG_get hc
    have hx0 := encG_get (show 0 < D.length by omega)
    have hgl := encG_length D
    have h00 : (0 : Int) < D.length := by omega
    obtain ⟨g, hg⟩ : ∃ g, D.getD i dG = g := ⟨_, rfl⟩
    obtain ⟨g0, hg0⟩ : ∃ g0, D.getD 0 dG = g0 := ⟨_, rfl⟩
    rw [hg] at hxi
    rw [hg0] at hx0
    have hgm : g ∈ D := by rw [← hg, getD_G hc]; exact List.getElem_mem hc
    by_cases hle : g.l.length = g0.l.length
    · by_cases h20 : 20 < g.l.length
      · have h20' : (20 : Int) < (g0.l.length : Int) := by omega
        refine .inl (.inr ?_)
        simp only [loopR_succ, ht]
        simp only [a0, a4, a5, hc', hc0, hw, hxi, hx0, hgl, h00, loopR_succ, loopOf, findLoop, firstRegion, Option.some_or, Option.none_or, Option.getD_some, Option.some.injEq, Try.f41, FT, Int.reduceEq, Int.reduceToNat, Int.reduceLE, Int.reduceLT, Int.reduceAdd, Int.reduceMul, Int.reduceSub, Int.reduceNeg, Nat.reduceAdd, Nat.reduceSub, Nat.reduceMul, Nat.reduceLT, Nat.reduceBEq, Nat.reduceEqDiff, Nat.reduceLeDiff]
        rw [evalCode_drawn Try.f41 5 dr41_5]; rotate_left; rfl
        simp only [a0, a4, a5, hc', hc0, hw, hxi, hx0, hgl, h00, hle, h20', EVd, List.getElem?_nil, Nat.reducePow, Nat.reduceDiv, Nat.reduceMod, FT, Int.reduceEq, Int.reduceToNat, Int.reduceLE, Int.reduceLT, Int.reduceAdd, Int.reduceMul, Int.reduceSub, Int.reduceNeg, Nat.reduceAdd, Nat.reduceSub, Nat.reduceMul, Nat.reduceLT, Nat.reduceBEq, Nat.reduceEqDiff, Nat.reduceLeDiff]
        try simp only [a0, a4, a5, hc', hc0, hw, hxi, hx0, hgl, h00, hle, h20', FT, Int.reduceEq, Int.reduceToNat, Int.reduceLE, Int.reduceLT, Int.reduceAdd, Int.reduceMul, Int.reduceSub, Int.reduceNeg, Nat.reduceAdd, Nat.reduceSub, Nat.reduceMul, Nat.reduceLT, Nat.reduceBEq, Nat.reduceEqDiff, Nat.reduceLeDiff]
        exact ⟨_, _, rfl, (by rfl), (by rfl)⟩
      · have h20' : ¬ (20 : Int) < (g0.l.length : Int) := by omega
        simp only [loopR_succ, ht]
        simp only [a0, a4, a5, hc', hc0, hw, hxi, hx0, hgl, h00, loopR_succ, loopOf, findLoop, firstRegion, Option.some_or, Option.none_or, Option.getD_some, Option.some.injEq, Try.f41, FT, Int.reduceEq, Int.reduceToNat, Int.reduceLE, Int.reduceLT, Int.reduceAdd, Int.reduceMul, Int.reduceSub, Int.reduceNeg, Nat.reduceAdd, Nat.reduceSub, Nat.reduceMul, Nat.reduceLT, Nat.reduceBEq, Nat.reduceEqDiff, Nat.reduceLeDiff]
        rw [evalCode_drawn Try.f41 5 dr41_5]; rotate_left; rfl
        simp only [a0, a4, a5, hc', hc0, hw, hxi, hx0, hgl, h00, hle, h20', EVd, List.getElem?_nil, Nat.reducePow, Nat.reduceDiv, Nat.reduceMod, FT, Int.reduceEq, Int.reduceToNat, Int.reduceLE, Int.reduceLT, Int.reduceAdd, Int.reduceMul, Int.reduceSub, Int.reduceNeg, Nat.reduceAdd, Nat.reduceSub, Nat.reduceMul, Nat.reduceLT, Nat.reduceBEq, Nat.reduceEqDiff, Nat.reduceLeDiff]
        try simp only [a0, a4, a5, hc', hc0, hw, hxi, hx0, hgl, h00, hle, h20', FT, Int.reduceEq, Int.reduceToNat, Int.reduceLE, Int.reduceLT, Int.reduceAdd, Int.reduceMul, Int.reduceSub, Int.reduceNeg, Nat.reduceAdd, Nat.reduceSub, Nat.reduceMul, Nat.reduceLT, Nat.reduceBEq, Nat.reduceEqDiff, Nat.reduceLeDiff]
        rw [evalCode_loopB LB41_9 lp41_9]; rotate_left; rfl; rfl; rfl
        generalize hz : loopR _ _ _ _ _ _ _ _ _ _ _ _ = z
        obtain ⟨l2, Z, rfl, e0, e4, e5, e6, hZ⟩ := loop_giA kf D nl cap i hc Q hp.len g hg g.l rfl (hG g hgm) (by omega) hq6 hkf _ _ z hz (by omega) (by rfl) (by rfl) (by rfl) (by rfl) (by rfl)
        clear hz
        have hZl : Z.length = g.l.length := by have := congrArg List.length hZ; simpa using this
        have hel := encR_length Z
        rw [hZl] at hel
        have hQ1 : encW [⟨Z, false, none⟩] = [.slice (encR Z) g.l.length false none] := by rw [encW, List.map_cons, List.map_nil, hZl]
        have htk : (encR Z).take (g.l.length * 2) = encR Z := List.take_of_length_le (by rw [hel]; exact Nat.le_refl _)
        have hap := fun (X : Heap) (y : IV) => apO_lv (e := 40) (s := 1) (n := i) (m := 1) (sz := 1) (by_ := 24) (cells := encW Q) (cs := [y]) (H := .slot :: lo 40 i (encW Q) :: X) (by decide) (Nat.le_trans (Nat.mul_le_mul_right 24 (show i + 1 ≤ D.length by omega)) hs) (by decide) (by rfl) (by rw [encW_length, hp.len, Nat.mul_one])
        have hbs := fun (X : Heap) => bs37h (H := .slot :: lo 40 i (encW Q) :: .row false 43 (encR Z) :: X) (id := 2) (n := g.l.length) (cells := encR Z) (by rfl) hel
        simp only [e0, e4, e5, e6, hel, htk, hap, hbs, hw, Nat.le_refl, FT, Int.reduceEq, Int.reduceToNat, Int.reduceLE, Int.reduceLT, Int.reduceAdd, Int.reduceMul, Int.reduceSub, Int.reduceNeg, Nat.reduceAdd, Nat.reduceSub, Nat.reduceMul, Nat.reduceLT, Nat.reduceBEq, Nat.reduceEqDiff, Nat.reduceLeDiff]
        refine .inr ⟨_, _, hc, rfl, Q ++ [⟨Z, false, none⟩], (by exact e0), (by rfl), (by rfl), ⟨by simp [hp.len], ?_, ?_, ?_⟩, ⟨_, by rw [encW_append, hQ1]⟩⟩
        · rw [List.map_append, hp.vals, List.take_succ_eq_append_getElem hc, List.map_append]
          show _ ++ [Z.map RI.v] = _ ++ [D[i].l]
          rw [hZ, ← getD_G hc, hg]
        · intro r hr
          rcases List.mem_append.1 hr with hr | hr
          · exact hp.sz r hr
          · rw [List.mem_singleton.1 hr, hg0, ← hle]
            exact szQ hZ (hG g hgm)
        · left; rw [hg0]; omega
    · have hle' : ¬ (g.l.length : Int) = (g0.l.length : Int) := by omega
      refine .inl (.inr ?_)
      simp only [loopR_succ, ht]
      simp only [a0, a4, a5, hc', hc0, hw, hxi, hx0, hgl, h00, loopR_succ, loopOf, findLoop, firstRegion, Option.some_or, Option.none_or, Option.getD_some, Option.some.injEq, Try.f41, FT, Int.reduceEq, Int.reduceToNat, Int.reduceLE, Int.reduceLT, Int.reduceAdd, Int.reduceMul, Int.reduceSub, Int.reduceNeg, Nat.reduceAdd, Nat.reduceSub, Nat.reduceMul, Nat.reduceLT, Nat.reduceBEq, Nat.reduceEqDiff, Nat.reduceLeDiff]
      rw [evalCode_drawn Try.f41 5 dr41_5]; rotate_left; rfl
      simp only [a0, a4, a5, hc', hc0, hw, hxi, hx0, hgl, h00, hle', EVd, List.getElem?_nil, Nat.reducePow, Nat.reduceDiv, Nat.reduceMod, FT, Int.reduceEq, Int.reduceToNat, Int.reduceLE, Int.reduceLT, Int.reduceAdd, Int.reduceMul, Int.reduceSub, Int.reduceNeg, Nat.reduceAdd, Nat.reduceSub, Nat.reduceMul, Nat.reduceLT, Nat.reduceBEq, Nat.reduceEqDiff, Nat.reduceLeDiff]
      try simp only [a0, a4, a5, hc', hc0, hw, hxi, hx0, hgl, h00, hle', FT, Int.reduceEq, Int.reduceToNat, Int.reduceLE, Int.reduceLT, Int.reduceAdd, Int.reduceMul, Int.reduceSub, Int.reduceNeg, Nat.reduceAdd, Nat.reduceSub, Nat.reduceMul, Nat.reduceLT, Nat.reduceBEq, Nat.reduceEqDiff, Nat.reduceLeDiff]
      exact ⟨_, _, rfl, (by rfl), (by rfl)⟩
  · refine .inl ?_
    obtain rfl : i = D.length := by omega
    have hc' : ¬ (((D.length : Nat) : Int) < ((D.length : Nat) : Int)) := by omega
    simp only [loopR_succ, ht]
    simp only [a0, a4, a5, hc', loopR_succ, loopOf, findLoop, firstRegion, Option.some_or, Option.none_or, Option.getD_some, Option.some.injEq, Try.f41, FT, Int.reduceEq, Int.reduceToNat, Int.reduceLE, Int.reduceLT, Int.reduceAdd, Int.reduceMul, Int.reduceSub, Int.reduceNeg, Nat.reduceAdd, Nat.reduceSub, Nat.reduceMul, Nat.reduceLT, Nat.reduceBEq, Nat.reduceEqDiff, Nat.reduceLeDiff]
    exact .inl ⟨_, Q, rfl, (by rfl), (by rfl), hp⟩
def shN (code : List Ins) : Nat → Nat
  | 0 => 0
  | i + 1 => if (code.getD i ⟨0, 0, 0, 0, 0⟩).op = 7 then shN code i + 1 else shN code i
theorem shN_le (code : List Ins) : ∀ i, shN code i ≤ i
  | 0 => Nat.le_refl _
  | i + 1 => by have := shN_le code i; rw [shN]; split <;> omega
theorem loop_l16shifts (kf : Nat) (x0 x1 x3 : IV) (code : List Ins) (nl : Bool) (cap : Option Nat) (hlen : code.length ≤ 4611686018427387904) (k : Nat) (l : Ass) (z : Option Out) (hz : loopR Try.prog tab kf none LB43_3 43 22 [1, 3, 4] 1 k l ([.cells 25 [.c x0, .c x1, sC code nl cap, .c x3]]) = z) (hk : code.length < k) (a1 : asc l 1 = .ptr 0 0) (a3 : asc l 3 = ii (shN code 0)) (a4 : asc l 4 = ii 0) :
    ∃ l', z = some (.exit 0 (fr 22 l') ([.cells 25 [.c x0, .c x1, sC code nl cap, .c x3]])) ∧ asc l' 1 = .ptr 0 0 ∧ asc l' 3 = ii (shN code code.length) ∧ asc l' 4 = ii code.length := by
  subst hz
  refine loop_nat code.length (fun k l H => loopR Try.prog tab kf none LB43_3 43 22 [1, 3, 4] 1 k l H)
    (fun i l H => asc l 1 = .ptr 0 0 ∧ asc l 3 = ii (shN code i) ∧ asc l 4 = ii i ∧ ∃ G, H = ([.cells 25 [.c x0, .c x1, sC code nl cap, .c x3]]) ++ G)
    (fun z => ∃ l', z = some (.exit 0 (fr 22 l') ([.cells 25 [.c x0, .c x1, sC code nl cap, .c x3]])) ∧ asc l' 1 = .ptr 0 0 ∧ asc l' 3 = ii (shN code code.length) ∧ asc l' 4 = ii code.length) ?_ code.length 0 k l _ (by omega) hk ⟨a1, a3, a4, [], by rw [List.append_nil]⟩
  clear hk a1 a3 a4
  rintro i k l H hi ⟨a1, a3, a4, G, rfl⟩
  have ht : trim 1 (fr 22 (keep l [1, 3, 4])) (([.cells 25 [.c x0, .c x1, sC code nl cap, .c x3]]) ++ G) = ([.cells 25 [.c x0, .c x1, sC code nl cap, .c x3]]) := trim_app (by simp) (by simp only [a1, a3, a4, EVb, EVc, Int.reduceEq, Int.reduceToNat, Int.reduceLE, Int.reduceLT, Int.reduceAdd, Int.reduceMul, Int.reduceSub, Int.reduceNeg, Nat.reduceAdd, Nat.reduceSub, Nat.reduceMul, Nat.reduceLT, Nat.reduceBEq, Nat.reduceEqDiff, Nat.reduceLeDiff]) (by simp only [EVb, EVc, Int.reduceEq, Int.reduceToNat, Int.reduceLE, Int.reduceLT, Int.reduceAdd, Int.reduceMul, Int.reduceSub, Int.reduceNeg, Nat.reduceAdd, Nat.reduceSub, Nat.reduceMul, Nat.reduceLT, Nat.reduceBEq, Nat.reduceEqDiff, Nat.reduceLeDiff])
  by_cases hc : i < code.length
  · have hc' : (i : Int) < ((code.length : Nat) : Int) := by omega
    have hc0 : (0 : Int) ≤ i := by omega
    have hw : IntKind.wrap .i64 ((i : Int) + 1) = ((i + 1 : Nat) : Int) := by rw [wrap64 (by omega) (by omega)]; omega
    have hx := (encCode_cell hc).1
    have hsl := shN_le code i
    have hw2 : IntKind.wrap .i64 ((shN code i : Int) + 1) = ((shN code i + 1 : Nat) : Int) := by rw [wrap64 (by omega) (by omega)]; omega
    have hg : (code.getD i ⟨0, 0, 0, 0, 0⟩) = code[i] := by rw [List.getD_eq_getElem?_getD, List.getElem?_eq_getElem hc]; rfl
    have hst : shN code (i + 1) = if code[i].op = 7 then shN code i + 1 else shN code i := by rw [shN, hg]
    rw [hst]
    by_cases h7 : code[i].op = 7
    · rw [if_pos h7]
      simp only [loopR_succ, ht]
      simp only [a1, a3, a4, hc', hc0, hw, hx, h7, hw2, loopR_succ, loopOf, findLoop, firstRegion, Option.some_or, Option.none_or, Option.getD_some, Option.some.injEq, Try.f43, FT, Int.reduceEq, Int.reduceToNat, Int.reduceLE, Int.reduceLT, Int.reduceAdd, Int.reduceMul, Int.reduceSub, Int.reduceNeg, Nat.reduceAdd, Nat.reduceSub, Nat.reduceMul, Nat.reduceLT, Nat.reduceBEq, Nat.reduceEqDiff, Nat.reduceLeDiff]
      exact .inr ⟨_, _, hc, rfl, (by rfl), (by rfl), (by rfl), ⟨_, by rfl⟩⟩
    · rw [if_neg h7]
      simp only [loopR_succ, ht]
      simp only [a1, a3, a4, hc', hc0, hw, hx, h7, loopR_succ, loopOf, findLoop, firstRegion, Option.some_or, Option.none_or, Option.getD_some, Option.some.injEq, Try.f43, FT, Int.reduceEq, Int.reduceToNat, Int.reduceLE, Int.reduceLT, Int.reduceAdd, Int.reduceMul, Int.reduceSub, Int.reduceNeg, Nat.reduceAdd, Nat.reduceSub, Nat.reduceMul, Nat.reduceLT, Nat.reduceBEq, Nat.reduceEqDiff, Nat.reduceLeDiff]
      exact .inr ⟨_, _, hc, rfl, (by rfl), (by rfl), (by rfl), ⟨_, by rfl⟩⟩
  · refine .inl ?_
    obtain rfl : i = code.length := by omega
    have hc' : ¬ (((code.length : Nat) : Int) < ((code.length : Nat) : Int)) := by omega
    simp only [loopR_succ, ht]
    simp only [a1, a3, a4, hc', loopR_succ, loopOf, findLoop, firstRegion, Option.some_or, Option.none_or, Option.getD_some, Option.some.injEq, Try.f43, FT, Int.reduceEq, Int.reduceToNat, Int.reduceLE, Int.reduceLT, Int.reduceAdd, Int.reduceMul, Int.reduceSub, Int.reduceNeg, Nat.reduceAdd, Nat.reduceSub, Nat.reduceMul, Nat.reduceLT, Nat.reduceBEq, Nat.reduceEqDiff, Nat.reduceLeDiff]
    exact ⟨_, rfl, (by rfl), (by rfl), (by rfl)⟩
theorem l16shifts_ev (k : Nat) (p : Pg) (nl nl2 : Bool) (cap cap2 : Option Nat) (hlen : p.code.length ≤ 4611686018427387904) (hk : p.code.length < k) : run (k+1) 43 [aP p nl cap nl2 cap2] = some (ii (shN p.code p.code.length)) := by
  rw [run, ev43, ans_trim]
  simp only [Try.f43, aP, ii, FT, Int.reduceEq, Int.reduceToNat, Int.reduceLE, Int.reduceLT, Int.reduceAdd, Int.reduceMul, Int.reduceSub, Int.reduceNeg, Nat.reduceAdd, Nat.reduceSub, Nat.reduceMul, Nat.reduceLT, Nat.reduceBEq, Nat.reduceEqDiff, Nat.reduceLeDiff]
  rw [evalCode_loopB LB43_3 lp43_3]; rotate_left; rfl; rfl; rfl
  generalize hz : loopR _ _ _ _ _ _ _ _ _ _ _ _ = z
  obtain ⟨l', rfl, e1, e3, e4⟩ := loop_l16shifts k _ _ _ p.code nl cap hlen _ _ z hz (by omega) (by rfl) (by rfl) (by rfl)
  clear hz
  simp only [e3, FT, Int.reduceEq, Int.reduceToNat, Int.reduceLE, Int.reduceLT, Int.reduceAdd, Int.reduceMul, Int.reduceSub, Int.reduceNeg, Nat.reduceAdd, Nat.reduceSub, Nat.reduceMul, Nat.reduceLT, Nat.reduceBEq, Nat.reduceEqDiff, Nat.reduceLeDiff]
theorem grids_ev (k : Nat) (D : List Gr) (nl : Bool) (cap : Option Nat) (hG : GrOk D) (hs : D.length * 24 ≤ roomBytes) (hq6 : D.length ≤ 4611686018427387904) (hk : D.length + 100 ≤ k) :
    run (k+3) 41 [sG D nl cap] = some (.tup [.c (.slice [] 0 true (some 0)), bb false]) ∨ ∃ (Q : List Rw) (nl2 : Bool) (cap2 : Option Nat), GQ D Q D.length ∧ run (k+3) 41 [sG D nl cap] = some (.tup [sW Q nl2 cap2, bb true]) := by
  rw [run, ev41, ans_trim]
  simp only [Try.f41, FT, Int.reduceEq, Int.reduceToNat, Int.reduceLE, Int.reduceLT, Int.reduceAdd, Int.reduceMul, Int.reduceSub, Int.reduceNeg, Nat.reduceAdd, Nat.reduceSub, Nat.reduceMul, Nat.reduceLT, Nat.reduceBEq, Nat.reduceEqDiff, Nat.reduceLeDiff]
  rw [evalCode_loopB LB41_3 lp41_3]; rotate_left; rfl; rfl; rfl
  generalize hz : loopR _ _ _ _ _ _ _ _ _ _ _ _ = z
  obtain ⟨l', Q, rfl, e0, e4, hQ⟩ | ⟨l', H, rfl, e2, e3⟩ := loop_goA k D nl cap hG hs hq6 (by omega) _ _ z hz (by omega) (by rfl) (by rfl) (by rfl)
  · clear hz
    have hel := encW_length Q
    rw [hQ.len] at hel
    refine .inr ⟨Q, decide (D.length = 0), if D.length = 0 then some 0 else none, hQ, ?_⟩
    simp only [e4, hel, sW, hQ.len, FT, Int.reduceEq, Int.reduceToNat, Int.reduceLE, Int.reduceLT, Int.reduceAdd, Int.reduceMul, Int.reduceSub, Int.reduceNeg, Nat.reduceAdd, Nat.reduceSub, Nat.reduceMul, Nat.reduceLT, Nat.reduceBEq, Nat.reduceEqDiff, Nat.reduceLeDiff]
    try rfl
  · clear hz
    exact .inl (by simp only [e2, e3, FT, Int.reduceEq, Int.reduceToNat, Int.reduceLE, Int.reduceLT, Int.reduceAdd, Int.reduceMul, Int.reduceSub, Int.reduceNeg, Nat.reduceAdd, Nat.reduceSub, Nat.reduceMul, Nat.reduceLT, Nat.reduceBEq, Nat.reduceEqDiff, Nat.reduceLeDiff])
end Go.Proofs.Sw
namespace Go.Proofs.Sw
open Go.Ab
variable [Globals]
theorem ini_vals {D : List Gr} {Q : List Rw} {n : Nat} (h : GQ D Q D.length) (h0 : 0 < D.length) : (∀ a ∈ (iniR Q (D.getD 0 dG).l.length n n).map Rw.vals, (rowSem (D.getD 0 dG).l.length).G a) ∧
    ∀ r : Nat, D.length ≤ r → r < n → ((iniR Q (D.getD 0 dG).l.length n n).map Rw.vals).getD r (rowSem (D.getD 0 dG).l.length).d = List.replicate (D.getD 0 dG).l.length 0 := by
  obtain ⟨L, hL⟩ : ∃ L, L = (D.getD 0 dG).l.length := ⟨_, rfl⟩
  have hsz := h.sz
  rw [← hL] at hsz ⊢
  have hzr : (zRw L).vals = List.replicate L 0 := by
    show (List.replicate L zR).map RI.v = _
    rw [List.map_replicate]; rfl
  constructor
  · intro a ha
    obtain ⟨r, hr, rfl⟩ := List.mem_map.1 ha
    unfold iniR at hr
    obtain ⟨j, hj, rfl⟩ := List.mem_map.1 hr
    rw [if_pos (List.mem_range.1 hj)]
    show (Rw.vals _).length = L
    split
    · rename_i hjl
      rw [List.getD_eq_getElem?_getD, List.getElem?_eq_getElem hjl]
      show (List.map RI.v _).length = L
      rw [List.length_map]
      exact (hsz _ (List.getElem_mem hjl)).len
    · rw [hzr, List.length_replicate]
  · intro r hr1 hr2
    have hl := h.len
    rw [List.getD_eq_getElem?_getD]
    unfold iniR
    rw [List.map_map, List.getElem?_map, List.getElem?_range hr2]
    show Rw.vals (if r < n then _ else _) = _
    rw [if_pos hr2, if_neg (by omega), hzr]
theorem SzR.out {L n : Nat} {R : List Rw} {outs : List Int} (h : ∀ r ∈ R, SzR L n r) (ho : ∀ r ∈ outs, 0 ≤ r ∧ r < (R.length : Int)) : ∀ r ∈ outs.map (fun r => R.getD r.toNat dR), SzR L n r := by
  intro r hr
  obtain ⟨x, hx, rfl⟩ := List.mem_map.1 hr
  exact h _ (getD_rw (ho x hx).1 (ho x hx).2)
theorem out_vals {R : List Rw} {outs : List Int} (ho : ∀ r ∈ outs, 0 ≤ r ∧ r < (R.length : Int)) (d : List Int) : (outs.map (fun r => R.getD r.toNat dR)).map Rw.vals = outs.map fun r => (R.map Rw.vals).getD r.toNat d := by
  rw [List.map_map]
  refine List.map_congr_left fun r hr => ?_
  show (R.getD r.toNat dR).vals = _
  rw [vals_getD (ho r hr).1 (ho r hr).2]
end Go.Proofs.Sw
namespace Go.Proofs.Sw
open Go.Ab
variable [Globals]
def encB (l : List Bool) : List IV := l.map .bool
theorem encB_length (l : List Bool) : (encB l).length = l.length := by simp [encB]
theorem encB_get {l : List Bool} {r : Int} (h0 : 0 ≤ r) (h : r < l.length) : (encB l)[r.toNat]? = some (.bool (l.getD r.toNat false)) := by
  have h2 : r.toNat < l.length := by omega
  simp [encB, h2]
theorem encB_set {l : List Bool} {r : Nat} {b : Bool} : (encB l).set r (.bool b) = encB (l.set r b) := by
  simp [encB, List.map_set]
theorem encB_rep (n : Nat) : (List.replicate n [IV.bool false]).flatten = encB (List.replicate n false) := by
  induction n with
  | zero => rfl
  | succ n ih => rw [List.replicate_succ, List.flatten_cons, ih]; rfl
def mark (l : List Bool) (b : Bool) : List Int → List Bool
  | [] => l
  | r :: rs => mark (l.set r.toNat b) b rs
theorem mark_length (b : Bool) : ∀ (rs : List Int) (l : List Bool), (mark l b rs).length = l.length
  | [], l => rfl
  | r :: rs, l => by rw [mark, mark_length b rs]; simp
theorem mark_snoc (b : Bool) (r : Int) : ∀ (rs : List Int) (l : List Bool), mark l b (rs ++ [r]) = (mark l b rs).set r.toNat b
  | [], l => rfl
  | x :: rs, l => by rw [List.cons_append, mark, mark_snoc b r rs]; rfl
def needL (asked : List Bool) : List Ins → List Bool × List Bool
  | [] => (asked, [])
  | i :: rest =>
    let r := needL asked rest
    if r.1.getD i.to.toNat false = true then (mark (r.1.set i.to.toNat false) true (asks i), true :: r.2) else (r.1, false :: r.2)
def asked0 (regs : Nat) (outs : List Int) : List Bool := mark (List.replicate regs false) true outs
def neededM (p : Pg) : List Bool := (needL (asked0 p.regs.toNat p.outs) p.code).2
abbrev sB (l : List Bool) (nl : Bool) (cap : Option Nat) : AV := .c (.slice (encB l) l.length nl cap)
abbrev rB (l : List Bool) : AObj := .row false 4 (encB l)
end Go.Proofs.Sw
namespace Go.Proofs.Sw
open Go.Ab
variable [Globals]
theorem Back_raw (k : Nat) (x y z w : AV) (hx : [x, y, z, w].all AV.isCell = true) (H : Heap) : evalT Try.prog (mkHints tab) (k+1) (.fn 78) [.agg [x, y, z, w]] H = some (.clo 110 [] [.ptr H.length 0], H ++ [.cells 25 [x, y, z, w]]) := by
  simp only [List.all_cons, List.all_nil, Bool.and_true, Bool.and_eq_true] at hx
  rw [ev78]
  simp only [Try.f78, hx, FT, Int.reduceEq, Int.reduceToNat, Int.reduceLE, Int.reduceLT, Int.reduceAdd, Int.reduceMul, Int.reduceSub, Int.reduceNeg, Nat.reduceAdd, Nat.reduceSub, Nat.reduceMul, Nat.reduceLT, Nat.reduceBEq, Nat.reduceEqDiff, Nat.reduceLeDiff]
  rfl
theorem Back_ans (k : Nat) (x y z w : AV) (hx : [x, y, z, w].all AV.isCell = true) : ans (evalT Try.prog (mkHints tab) (k+1) (.fn 78) [.agg [x, y, z, w]] []) = none := by
  rw [Back_raw k x y z w hx]; rfl
theorem Backward_raw (k : Nat) (x : IV) (H : Heap) : evalT Try.prog (mkHints tab) (k+1) (.fn 111) [.c x] H = some (.clo 128 [] [.ptr H.length 0], H ++ [.cells 22 [.c x]]) := by
  rw [ev111]
  simp only [Try.f111, FT, Int.reduceEq, Int.reduceToNat, Int.reduceLE, Int.reduceLT, Int.reduceAdd, Int.reduceMul, Int.reduceSub, Int.reduceNeg, Nat.reduceAdd, Nat.reduceSub, Nat.reduceMul, Nat.reduceLT, Nat.reduceBEq, Nat.reduceEqDiff, Nat.reduceLeDiff]
  rfl
theorem Backward_ans (k : Nat) (x : IV) : ans (evalT Try.prog (mkHints tab) (k+1) (.fn 111) [.c x] []) = none := by
  rw [Backward_raw]; rfl
end Go.Proofs.Sw
namespace Go.Proofs.Sw
open Go.Ab
variable [Globals]
theorem needL_length (aq : List Bool) : ∀ code : List Ins, (needL aq code).1.length = aq.length ∧ (needL aq code).2.length = code.length
  | [] => ⟨rfl, rfl⟩
  | i :: rest => by
    obtain ⟨h1, h2⟩ := needL_length aq rest
    simp only [needL]
    split
    · exact ⟨by rw [mark_length]; simp [h1], by simp [h2]⟩
    · exact ⟨h1, by simp [h2]⟩
theorem rep_set (i : Nat) (fl : List Bool) : (List.replicate (i + 1) false ++ fl).set i true = List.replicate i false ++ (true :: fl) := by
  rw [List.replicate_succ', List.append_assoc, List.set_append_right _ _ (by simp)]
  simp
theorem rep_keep (i : Nat) (fl : List Bool) : List.replicate (i + 1) false ++ fl = List.replicate i false ++ (false :: fl) := by
  rw [List.replicate_succ', List.append_assoc]; rfl
end Go.Proofs.Sw
namespace Go.Proofs.Sw
open Go.Ab
variable [Globals]
theorem oStart_ev (k : Nat) (ins : Int) (x1 x2 x3 : IV) (r : Int) : run (k+1) 112 [.agg [ii ins, .c x1, .c x2, .c x3], ii r] = some (ii (if ins < r then ins else r)) := by
  rw [run, ev112, ans_trim]
  simp only [Try.f112, ii, FT, Int.reduceEq, Int.reduceToNat, Int.reduceLE, Int.reduceLT, Int.reduceAdd, Int.reduceMul, Int.reduceSub, Int.reduceNeg, Nat.reduceAdd, Nat.reduceSub, Nat.reduceMul, Nat.reduceLT, Nat.reduceBEq, Nat.reduceEqDiff, Nat.reduceLeDiff]
structure Lv where
  held : List Int
  a : List Int
  b : List Int
  sets : List Int
  unt : List Int
def lvB (held : List Int) (x : Ins) : Int := if x.op = 3 ∨ x.op = 4 then held.getD x.b.toNat 0 else held.getD x.a.toNat 0
def lvStep (q : Lv) (k : Nat) (x : Ins) : Lv :=
  ⟨q.held.set x.to.toNat q.unt.length, q.a.set k (q.held.getD x.a.toNat 0), q.b.set k (lvB q.held x), q.sets.set k q.unt.length, ((q.unt.set (q.held.getD x.a.toNat 0).toNat k).set (lvB q.held x).toNat k) ++ [-1]⟩
def lvAt (q0 : Lv) (need : List Bool) (code : List Ins) : Nat → Lv
  | 0 => q0
  | i + 1 => match code[i]? with
    | some x => if need.getD i false = true then lvStep (lvAt q0 need code i) i x else lvAt q0 need code i
    | none => lvAt q0 need code i
theorem lvAt_succ {q0 : Lv} {need : List Bool} {code : List Ins} {i : Nat} (h : i < code.length) : lvAt q0 need code (i + 1) = if need.getD i false = true then lvStep (lvAt q0 need code i) i code[i] else lvAt q0 need code i := by
  rw [lvAt, List.getElem?_eq_getElem h]
structure LvOk (q : Lv) (n c : Nat) : Prop where
  held : q.held.length = n
  a : q.a.length = c
  b : q.b.length = c
  sets : q.sets.length = c
  pos : 0 < q.unt.length
  vals : ∀ v ∈ q.held, 0 ≤ v ∧ v < q.unt.length
theorem getD_mem {l : List Int} {r : Nat} (h : r < l.length) : l.getD r 0 ∈ l := by
  rw [List.getD_eq_getElem?_getD, List.getElem?_eq_getElem h]
  exact List.getElem_mem h
theorem lvB_ok {q : Lv} {n c : Nat} (h : LvOk q n c) {x : Ins} (m5 : 0 ≤ x.a ∧ x.a < n) (m7 : x.op = 3 ∨ x.op = 4 → 0 ≤ x.b ∧ x.b < n) : 0 ≤ lvB q.held x ∧ lvB q.held x < q.unt.length := by
  unfold lvB
  split
  · rename_i h34
    have := m7 h34
    exact h.vals _ (getD_mem (by rw [h.held]; omega))
  · exact h.vals _ (getD_mem (by rw [h.held]; omega))
theorem lvStep_ok {q : Lv} {n c k : Nat} {x : Ins} (h : LvOk q n c) : LvOk (lvStep q k x) n c := by
  refine ⟨by simp [lvStep, h.held], by simp [lvStep, h.a], by simp [lvStep, h.b], by simp [lvStep, h.sets], by simp [lvStep], fun v hv => ?_⟩
  simp only [lvStep, List.length_append, List.length_set, List.length_cons, List.length_nil] at hv ⊢
  rcases List.mem_or_eq_of_mem_set hv with hv | rfl
  · have := h.vals v hv; omega
  · omega
theorem lvStep_unt {q : Lv} {k : Nat} {x : Ins} : (lvStep q k x).unt.length = q.unt.length + 1 := by simp [lvStep]
theorem lvAt_ok {q0 : Lv} {need : List Bool} {code : List Ins} {n c : Nat} (h : LvOk q0 n c) : ∀ i, LvOk (lvAt q0 need code i) n c ∧ (lvAt q0 need code i).unt.length ≤ q0.unt.length + i
  | 0 => ⟨h, Nat.le_refl _⟩
  | i + 1 => by
    obtain ⟨h1, h2⟩ := lvAt_ok (need := need) (code := code) h i
    rw [lvAt]
    split
    · split
      · exact ⟨lvStep_ok h1, by rw [lvStep_unt]; omega⟩
      · exact ⟨h1, by omega⟩
    · exact ⟨h1, by omega⟩
theorem startM_app {ins : Int} {n i : Nat} (h : i < n) : (startM ins i ++ List.replicate (n - i) 0).set i (if ins < (i : Int) then ins else (i : Int)) = startM ins (i + 1) ++ List.replicate (n - (i + 1)) 0 := by
  rw [List.set_append_right _ _ (by rw [startM_length]; exact Nat.le_refl _), startM_length, Nat.sub_self, startM_succ]
  obtain ⟨m, hm⟩ : ∃ m, n - i = m + 1 := ⟨n - i - 1, by omega⟩
  rw [hm, show n - (i + 1) = m by omega, List.replicate_succ, List.set_cons_zero, List.append_assoc]
  rfl
theorem encInts_rep (n : Nat) : (List.replicate n [IV.int .i64 0]).flatten = encInts (List.replicate n 0) := by
  induction n with
  | zero => rfl
  | succ n ih => rw [List.replicate_succ, List.flatten_cons, ih]; rfl
theorem loop_lives8 (kf : Nat) (ins : Int) (x1 x2 x3 : IV) (nd : List Bool) (c3 c4 c5 : List IV) (zz : List AV) (hz0 : (zz.all fun e => AV.under 8 e) = true) (cl : Int) (n : Nat) (hn : n ≤ 1000000) (k : Nat) (l : Ass) (z : Option Out) (hz : loopR Try.prog tab (kf + 1) none LB82_8 82 203 [1, 4, 6, 7, 8, 39, 40] 8 k l ([.slot, .slot, .row false 3 c3, .row false 3 c4, .row false 3 c5, .cells 25 [ii ins, .c x1, .c x2, .c x3], .cells 128 zz, rI (startM ins 0 ++ List.replicate (n - 0) 0)]) = z) (hk : n < k) (a1 : asc l 1 = .ptr 5 0) (a4 : asc l 4 = sB nd false none) (a6 : asc l 6 = ii cl) (a7 : asc l 7 = .ptr 6 0) (a8 : asc l 8 = hI 7 n) (a39 : asc l 39 = ii n) (a40 : asc l 40 = ii 0) :
    ∃ l', z = some (.exit 0 (fr 203 l') ([.slot, .slot, .row false 3 c3, .row false 3 c4, .row false 3 c5, .cells 25 [ii ins, .c x1, .c x2, .c x3], .cells 128 zz, rI (startM ins n ++ List.replicate (n - n) 0)])) ∧ asc l' 1 = .ptr 5 0 ∧ asc l' 4 = sB nd false none ∧ asc l' 6 = ii cl ∧ asc l' 7 = .ptr 6 0 ∧ asc l' 8 = hI 7 n ∧ asc l' 39 = ii n ∧ asc l' 40 = ii n := by
  subst hz
  refine loop_nat n (fun k l H => loopR Try.prog tab (kf + 1) none LB82_8 82 203 [1, 4, 6, 7, 8, 39, 40] 8 k l H)
    (fun i l H => asc l 1 = .ptr 5 0 ∧ asc l 4 = sB nd false none ∧ asc l 6 = ii cl ∧ asc l 7 = .ptr 6 0 ∧ asc l 8 = hI 7 n ∧ asc l 39 = ii n ∧ asc l 40 = ii i ∧ ∃ G, H = ([.slot, .slot, .row false 3 c3, .row false 3 c4, .row false 3 c5, .cells 25 [ii ins, .c x1, .c x2, .c x3], .cells 128 zz, rI (startM ins i ++ List.replicate (n - i) 0)]) ++ G)
    (fun z => ∃ l', z = some (.exit 0 (fr 203 l') ([.slot, .slot, .row false 3 c3, .row false 3 c4, .row false 3 c5, .cells 25 [ii ins, .c x1, .c x2, .c x3], .cells 128 zz, rI (startM ins n ++ List.replicate (n - n) 0)])) ∧ asc l' 1 = .ptr 5 0 ∧ asc l' 4 = sB nd false none ∧ asc l' 6 = ii cl ∧ asc l' 7 = .ptr 6 0 ∧ asc l' 8 = hI 7 n ∧ asc l' 39 = ii n ∧ asc l' 40 = ii n) ?_ n 0 k l _ (by omega) hk ⟨a1, a4, a6, a7, a8, a39, a40, [], by rw [List.append_nil]⟩
  clear hk a1 a4 a6 a7 a8 a39 a40
  rintro i k l H hi ⟨a1, a4, a6, a7, a8, a39, a40, G, rfl⟩
  have ht : trim 8 (fr 203 (keep l [1, 4, 6, 7, 8, 39, 40])) (([.slot, .slot, .row false 3 c3, .row false 3 c4, .row false 3 c5, .cells 25 [ii ins, .c x1, .c x2, .c x3], .cells 128 zz, rI (startM ins i ++ List.replicate (n - i) 0)]) ++ G) = ([.slot, .slot, .row false 3 c3, .row false 3 c4, .row false 3 c5, .cells 25 [ii ins, .c x1, .c x2, .c x3], .cells 128 zz, rI (startM ins i ++ List.replicate (n - i) 0)]) := trim_app (by simp) (by simp only [a1, a4, a6, a7, a8, a39, a40, hz0, EVb, EVc, Int.reduceEq, Int.reduceToNat, Int.reduceLE, Int.reduceLT, Int.reduceAdd, Int.reduceMul, Int.reduceSub, Int.reduceNeg, Nat.reduceAdd, Nat.reduceSub, Nat.reduceMul, Nat.reduceLT, Nat.reduceBEq, Nat.reduceEqDiff, Nat.reduceLeDiff]) (by simp only [hz0, EVb, EVc, Int.reduceEq, Int.reduceToNat, Int.reduceLE, Int.reduceLT, Int.reduceAdd, Int.reduceMul, Int.reduceSub, Int.reduceNeg, Nat.reduceAdd, Nat.reduceSub, Nat.reduceMul, Nat.reduceLT, Nat.reduceBEq, Nat.reduceEqDiff, Nat.reduceLeDiff])
  by_cases hc : i < n
  · have hc' : (i : Int) < ((n : Nat) : Int) := by omega
    have hc0 : (0 : Int) ≤ i := by omega
    have hw : IntKind.wrap .i64 ((i : Int) + 1) = ((i + 1 : Nat) : Int) := by rw [wrap64 (by omega) (by omega)]; omega
    have hS := oStart_ev kf ins x1 x2 x3 i
    simp only [run, ii] at hS
    have hel : (encInts (startM ins i ++ List.replicate (n - i) 0)).length = n := by rw [encInts_length, List.length_append, startM_length, List.length_replicate]; omega
    simp only [loopR_succ, ht]
    simp only [a1, a4, a6, a7, a8, a39, a40, hc', hc0, hw, hS, hel, loopR_succ, loopOf, findLoop, firstRegion, Option.some_or, Option.none_or, Option.getD_some, Option.some.injEq, Try.f82, FT, Int.reduceEq, Int.reduceToNat, Int.reduceLE, Int.reduceLT, Int.reduceAdd, Int.reduceMul, Int.reduceSub, Int.reduceNeg, Nat.reduceAdd, Nat.reduceSub, Nat.reduceMul, Nat.reduceLT, Nat.reduceBEq, Nat.reduceEqDiff, Nat.reduceLeDiff]
    try simp only [a1, a4, a6, a7, a8, a39, a40, hc', hc0, hw, hS, hel, encInts_set, startM_app hc, if_pos hc, FT, Int.reduceEq, Int.reduceToNat, Int.reduceLE, Int.reduceLT, Int.reduceAdd, Int.reduceMul, Int.reduceSub, Int.reduceNeg, Nat.reduceAdd, Nat.reduceSub, Nat.reduceMul, Nat.reduceLT, Nat.reduceBEq, Nat.reduceEqDiff, Nat.reduceLeDiff]
    refine .inr ⟨_, _, hc, rfl, (by rfl), (by rfl), (by rfl), (by rfl), (by rfl), (by rfl), (by rfl), ?_⟩
    exact ⟨_, by rfl⟩
  · refine .inl ?_
    obtain rfl : i = n := by omega
    have hc' : ¬ (((i : Nat) : Int) < ((i : Nat) : Int)) := by omega
    simp only [loopR_succ, ht]
    simp only [a1, a4, a6, a7, a8, a39, a40, hc', loopR_succ, loopOf, findLoop, firstRegion, Option.some_or, Option.none_or, Option.getD_some, Option.some.injEq, Try.f82, FT, Int.reduceEq, Int.reduceToNat, Int.reduceLE, Int.reduceLT, Int.reduceAdd, Int.reduceMul, Int.reduceSub, Int.reduceNeg, Nat.reduceAdd, Nat.reduceSub, Nat.reduceMul, Nat.reduceLT, Nat.reduceBEq, Nat.reduceEqDiff, Nat.reduceLeDiff]
    exact ⟨_, rfl, (by rfl), (by rfl), (by rfl), (by rfl), (by rfl), (by rfl), (by rfl)⟩
theorem loop_lives13 (kf : Nat) (x0 x1 x2 x3 : IV) (nd : List Bool) (c3 c4 c5 hc7 : List IV) (y0 y1 y2 y3 y4 : IV) (cl : Int) (n c m : Nat) (hm : m ≤ 1000000) (k : Nat) (l : Ass) (z : Option Out) (hz : loopR Try.prog tab kf none LB82_13 82 203 [1, 4, 6, 7, 8, 52, 53] 8 k l ([lo 3 0 (encInts (List.replicate 0 (-1))), .slot, .row false 3 c3, .row false 3 c4, .row false 3 c5, .cells 25 [.c x0, .c x1, .c x2, .c x3], .cells 128 [.c y0, .c y1, .c y2, .c y3, .c y4, hI 2 c, hI 3 c, hI 4 c, .c (.slice [] 0 true (some 0)), lv 0 1 0], .row false 3 hc7]) = z) (hk : m < k) (a1 : asc l 1 = .ptr 5 0) (a4 : asc l 4 = sB nd false none) (a6 : asc l 6 = ii cl) (a7 : asc l 7 = .ptr 6 0) (a8 : asc l 8 = hI 7 n) (a52 : asc l 52 = ii m) (a53 : asc l 53 = ii 0) :
    ∃ l', z = some (.exit 2 (fr 203 l') ([lo 3 m (encInts (List.replicate m (-1))), .slot, .row false 3 c3, .row false 3 c4, .row false 3 c5, .cells 25 [.c x0, .c x1, .c x2, .c x3], .cells 128 [.c y0, .c y1, .c y2, .c y3, .c y4, hI 2 c, hI 3 c, hI 4 c, .c (.slice [] 0 true (some 0)), lv 0 1 m], .row false 3 hc7])) ∧ asc l' 1 = .ptr 5 0 ∧ asc l' 4 = sB nd false none ∧ asc l' 6 = ii cl ∧ asc l' 7 = .ptr 6 0 ∧ asc l' 8 = hI 7 n ∧ asc l' 52 = ii m ∧ asc l' 53 = ii m := by
  subst hz
  refine loop_nat m (fun k l H => loopR Try.prog tab kf none LB82_13 82 203 [1, 4, 6, 7, 8, 52, 53] 8 k l H)
    (fun i l H => asc l 1 = .ptr 5 0 ∧ asc l 4 = sB nd false none ∧ asc l 6 = ii cl ∧ asc l 7 = .ptr 6 0 ∧ asc l 8 = hI 7 n ∧ asc l 52 = ii m ∧ asc l 53 = ii i ∧ ∃ G, H = ([lo 3 i (encInts (List.replicate i (-1))), .slot, .row false 3 c3, .row false 3 c4, .row false 3 c5, .cells 25 [.c x0, .c x1, .c x2, .c x3], .cells 128 [.c y0, .c y1, .c y2, .c y3, .c y4, hI 2 c, hI 3 c, hI 4 c, .c (.slice [] 0 true (some 0)), lv 0 1 i], .row false 3 hc7]) ++ G)
    (fun z => ∃ l', z = some (.exit 2 (fr 203 l') ([lo 3 m (encInts (List.replicate m (-1))), .slot, .row false 3 c3, .row false 3 c4, .row false 3 c5, .cells 25 [.c x0, .c x1, .c x2, .c x3], .cells 128 [.c y0, .c y1, .c y2, .c y3, .c y4, hI 2 c, hI 3 c, hI 4 c, .c (.slice [] 0 true (some 0)), lv 0 1 m], .row false 3 hc7])) ∧ asc l' 1 = .ptr 5 0 ∧ asc l' 4 = sB nd false none ∧ asc l' 6 = ii cl ∧ asc l' 7 = .ptr 6 0 ∧ asc l' 8 = hI 7 n ∧ asc l' 52 = ii m ∧ asc l' 53 = ii m) ?_ m 0 k l _ (by omega) hk ⟨a1, a4, a6, a7, a8, a52, a53, [], by rw [List.append_nil]⟩
  clear hk a1 a4 a6 a7 a8 a52 a53
  rintro i k l H hi ⟨a1, a4, a6, a7, a8, a52, a53, G, rfl⟩
  have ht : trim 8 (fr 203 (keep l [1, 4, 6, 7, 8, 52, 53])) (([lo 3 i (encInts (List.replicate i (-1))), .slot, .row false 3 c3, .row false 3 c4, .row false 3 c5, .cells 25 [.c x0, .c x1, .c x2, .c x3], .cells 128 [.c y0, .c y1, .c y2, .c y3, .c y4, hI 2 c, hI 3 c, hI 4 c, .c (.slice [] 0 true (some 0)), lv 0 1 i], .row false 3 hc7]) ++ G) = ([lo 3 i (encInts (List.replicate i (-1))), .slot, .row false 3 c3, .row false 3 c4, .row false 3 c5, .cells 25 [.c x0, .c x1, .c x2, .c x3], .cells 128 [.c y0, .c y1, .c y2, .c y3, .c y4, hI 2 c, hI 3 c, hI 4 c, .c (.slice [] 0 true (some 0)), lv 0 1 i], .row false 3 hc7]) := trim_app (by simp) (by simp only [a1, a4, a6, a7, a8, a52, a53, EVb, EVc, Int.reduceEq, Int.reduceToNat, Int.reduceLE, Int.reduceLT, Int.reduceAdd, Int.reduceMul, Int.reduceSub, Int.reduceNeg, Nat.reduceAdd, Nat.reduceSub, Nat.reduceMul, Nat.reduceLT, Nat.reduceBEq, Nat.reduceEqDiff, Nat.reduceLeDiff]) (by simp only [EVb, EVc, Int.reduceEq, Int.reduceToNat, Int.reduceLE, Int.reduceLT, Int.reduceAdd, Int.reduceMul, Int.reduceSub, Int.reduceNeg, Nat.reduceAdd, Nat.reduceSub, Nat.reduceMul, Nat.reduceLT, Nat.reduceBEq, Nat.reduceEqDiff, Nat.reduceLeDiff])
  by_cases hc : i < m
  · have hc' : (i : Int) < ((m : Nat) : Int) := by omega
    have hc0 : (0 : Int) ≤ i := by omega
    have hw : IntKind.wrap .i64 ((i : Int) + 1) = ((i + 1 : Nat) : Int) := by rw [wrap64 (by omega) (by omega)]; omega
    have hap := fun X x => lo_length (e := 3) (n := i) (sz := 1) (by_ := 8) (cells := encInts (List.replicate i (-1))) (cs := [x]) (X := X) (Nat.le_trans (Nat.mul_le_mul_right 8 (show i + 1 ≤ 1000001 by omega)) (by decide)) (by decide) (by rw [encInts_length, List.length_replicate, Nat.mul_one])
    simp only [loopR_succ, ht]
    simp only [a1, a4, a6, a7, a8, a52, a53, hc', hc0, hw, hap, loopR_succ, loopOf, findLoop, firstRegion, Option.some_or, Option.none_or, Option.getD_some, Option.some.injEq, Try.f82, FT, Int.reduceEq, Int.reduceToNat, Int.reduceLE, Int.reduceLT, Int.reduceAdd, Int.reduceMul, Int.reduceSub, Int.reduceNeg, Nat.reduceAdd, Nat.reduceSub, Nat.reduceMul, Nat.reduceLT, Nat.reduceBEq, Nat.reduceEqDiff, Nat.reduceLeDiff]
    refine .inr ⟨_, _, hc, rfl, (by rfl), (by rfl), (by rfl), (by rfl), (by rfl), (by rfl), (by rfl), ?_⟩
    rw [List.replicate_succ', encInts_append]
    exact ⟨_, by rfl⟩
  · refine .inl ?_
    obtain rfl : i = m := by omega
    have hc' : ¬ (((i : Nat) : Int) < ((i : Nat) : Int)) := by omega
    simp only [loopR_succ, ht]
    simp only [a1, a4, a6, a7, a8, a52, a53, hc', loopR_succ, loopOf, findLoop, firstRegion, Option.some_or, Option.none_or, Option.getD_some, Option.some.injEq, Try.f82, FT, Int.reduceEq, Int.reduceToNat, Int.reduceLE, Int.reduceLT, Int.reduceAdd, Int.reduceMul, Int.reduceSub, Int.reduceNeg, Nat.reduceAdd, Nat.reduceSub, Nat.reduceMul, Nat.reduceLT, Nat.reduceBEq, Nat.reduceEqDiff, Nat.reduceLeDiff]
    exact ⟨_, rfl, (by rfl), (by rfl), (by rfl), (by rfl), (by rfl), (by rfl), (by rfl)⟩
end Go.Proofs.Sw
