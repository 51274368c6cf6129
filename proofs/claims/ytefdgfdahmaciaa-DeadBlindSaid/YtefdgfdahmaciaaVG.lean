/- A part of the proof: what functions of the program answer; conditions stand in each theorem. -/
import Derived.Test.YtefdgfdahmaciaaVE
import Derived.SizedLaws
import Derived.Test.YtefdgfdahmaciaaVD
set_option linter.unusedVariables false
set_option linter.unusedSimpArgs false
set_option linter.unusedSectionVars false
namespace Go.Proofs.Sw
open Go.Ab
section
variable [Globals]
variable {H : Type} {enc : TypeId × Value → H} {W : World} {spare : Nat → Bool} {held : Bool} {fuel : Nat}
theorem rel_len {ivs : List IV} {n : Nat} {nl : Bool} {cap : Option Nat} {a : Option Addr} {len c : Nat} (h : IRel (Old W) W (.slice ivs n nl cap) (.slice a len c)) : n = len := by
  cases h; rfl
theorem slice_len {t e : TypeId} {cs : List Value} {x : DataW H × List MemPlace} {v : Value} {ivs : List IV} {n : Nat} {nl : Bool} {cap : Option Nat} (ht : Try.prog.underlying t = some (.slice e)) (h : DataW.trod enc Try.prog W 0 spare held fuel t cs = some x) (hv : cs = [v]) (hr : IRel (Old W) W (.slice ivs n nl cap) v) :
    (∃ el sp, x.1 = .slice el sp ∧ el.length = n) ∨ n = 0 := by
  rcases DataW.trod_slice ht h with ⟨rfl, _⟩ | ⟨a, len, cp, elems, rest, m, _, rfl, rfl, _, _, _, hel, _, _, _⟩
  · obtain rfl : v = .slice none 0 0 := by simpa using hv.symm
    exact .inr (rel_len hr)
  · obtain rfl : v = .slice (some a) len cp := by simpa using hv.symm
    exact .inl ⟨_, _, rfl, by rw [List.length_map, hel]; exact (rel_len hr).symm⟩
theorem pg_rel {q : Pg} {nl nl2 : Bool} {v : Value} (h : VRel (Old W) [] [] W (aP q nl none nl2 none) v) {c0 c1 c2 c3 : Value} (hc : v.cells.toList = [c0, c1, c2, c3]) :
    IRel (Old W) W (.slice (encCode q.code) q.code.length nl none) c2 ∧ IRel (Old W) W (.slice (encInts q.outs) q.outs.length nl2 none) c3 := by
  cases h with
  | agg h1 h2 r =>
    rename_i cs
    have e : cs.toList = [c0, c1, c2, c3] := hc
    have g : ∀ i c, [c0, c1, c2, c3][i]? = some c → cs.getD i undef = c := fun i c hi => by
      have : cs[i]? = some c := by rw [← Array.getElem?_toList, e]; exact hi
      rw [Array.getD_eq_getD_getElem?, this]; rfl
    constructor
    · have := r 2 _ rfl
      rw [g 2 c2 rfl] at this
      cases this with
      | c h => exact h
    · have := r 3 _ rfl
      rw [g 3 c3 rfl] at this
      cases this with
      | c h => exact h
set_option maxRecDepth 10000 in
theorem open_pgZ {q : Pg} {nl nl2 : Bool} {v : Value} {d : DataW H} {p : List MemPlace} (h : DataW.Trod enc Try.prog W 0 spare held 25 v d p) (hr : VRel (Old W) [] [] W (aP q nl none nl2 none) v) (hz : (d.weights Try.prog 25).all (· ≤ reachBytes) = true) :
    q.code.length * 40 ≤ reachBytes ∧ q.outs.length * 8 ≤ reachBytes := by
  obtain ⟨m, hm⟩ := h
  generalize hcs : v.cells.toList = cs at hm
  obtain ⟨xs, n, rfl, hx0, hl, hx, hf⟩ := DataW.trod_struct Try.underlying25 hm
  rw [cells25] at hl
  have hx' : xs.length = 4 := hx.trans (by kernel_rfl)
  simp only [Prod.mk.injEq] at hx0
  obtain ⟨rfl, _⟩ := hx0
  simp only [DataW.weights, Try.underlying25] at hz
  match cs, hl with
  | [c0, c1, c2, c3], _ =>
    have g2 : DataW.trod enc Try.prog W 0 spare held n 22 (([c0, c1, c2, c3].drop 2).take (Try.prog.cellsOf 22)) = xs[2]? := hf 2 _ rfl
    have g3 : DataW.trod enc Try.prog W 0 spare held n 23 (([c0, c1, c2, c3].drop 3).take (Try.prog.cellsOf 23)) = xs[3]? := hf 3 _ rfl
    rw [cells22, List.getElem?_eq_getElem (by omega)] at g2
    rw [cells23, List.getElem?_eq_getElem (by omega)] at g3
    obtain ⟨r2, r3⟩ := pg_rel hr hcs
    have b34 : Try.prog.bytesOf 34 = 40 := by kernel_rfl
    have b3 : Try.prog.bytesOf 3 = 8 := by kernel_rfl
    constructor
    · rcases slice_len Try.underlying22 g2 rfl r2 with ⟨el, sp, e, he⟩ | h0
      · have := sized_slice hz (j := 2) (t := 22) (e := 34) (elems := el) (spare := sp) rfl (by rw [List.getElem?_map, List.getElem?_eq_getElem (by omega), Option.map_some, e]) Try.underlying22
        rw [b34, he] at this
        exact Nat.le_trans (Nat.mul_le_mul_right 40 (Nat.le_add_right _ _)) this
      · rw [h0]; decide
    · rcases slice_len Try.underlying23 g3 rfl r3 with ⟨el, sp, e, he⟩ | h0
      · have := sized_slice hz (j := 3) (t := 23) (e := 3) (elems := el) (spare := sp) rfl (by rw [List.getElem?_map, List.getElem?_eq_getElem (by omega), Option.map_some, e]) Try.underlying23
        rw [b3, he] at this
        exact Nat.le_trans (Nat.mul_le_mul_right 8 (Nat.le_add_right _ _)) this
      · rw [h0]; decide
theorem reach_room {n : Nat} (h : n ≤ reachBytes) : n ≤ Go.Ab.roomBytes := Nat.le_trans h (by decide)
end
end Go.Proofs.Sw
namespace Go.Proofs.Sw
open Go.Ab
section
variable [Globals]
variable {H : Type} {enc : TypeId × Value → H} {W : World} {spare : Nat → Bool} {held : Bool} {fuel : Nat} {cs : List Value} {x : DataW H × List MemPlace}
theorem cells2 : Try.prog.cellsOf 2 = 1 := by kernel_rfl
theorem elem_i64 (n : Nat) (cs' : List Value) (y : DataW H × List MemPlace) (h : DataW.trod enc Try.prog W 0 spare held n 2 cs' = some y) : ∃ ivs, (∃ z : Int, in64 z ∧ ivs = [.int .i64 z]) ∧ ivs.length = 1 ∧ Rel W ivs cs' := by
  obtain ⟨z, rfl, hz⟩ := open_num Try.underlying2 h
  refine ⟨_, ⟨z, ?_, rfl⟩, rfl, Rel.cons (.int _ _) Rel.nil⟩
  have hz' := hz
  simp [Lit.wf, IntKind.min, IntKind.max, IntKind.bits, IntKind.signed] at hz'
  unfold in64
  omega
theorem i64s_of : ∀ (chunks : List (List IV)), (∀ c ∈ chunks, (∃ z : Int, in64 z ∧ c = [.int .i64 z]) ∧ c.length = 1) → ∃ l : List Int, chunks.flatten = encInts l ∧ chunks.length = l.length ∧ ∀ z ∈ l, in64 z
  | [], _ => ⟨[], rfl, rfl, fun z hz => by cases hz⟩
  | c :: cs, h => by
    obtain ⟨l, h1, h2, h3⟩ := i64s_of cs fun c hc => h c (by simp [hc])
    obtain ⟨⟨z, hz, rfl⟩, _⟩ := h c (by simp)
    refine ⟨z :: l, by rw [List.flatten_cons, h1]; rfl, by simp [h2], fun y hy => ?_⟩
    rcases List.mem_cons.1 hy with rfl | hy
    · exact hz
    · exact h3 y hy
end
end Go.Proofs.Sw
namespace Go.Proofs.Sw
open Go.Ab
section
variable [Globals]
variable {H : Type} {enc : TypeId × Value → H} {W : World} {spare : Nat → Bool} {held : Bool}
theorem open_intsV {v : Value} {d : DataW H} {p : List MemPlace} (hv : ∃ a len cap, v = .slice a len cap) (h : DataW.Trod enc Try.prog W 0 spare held 38 v d p) :
    ∃ (D : List Int) (nl : Bool), VRel (Old W) [] [] W (sI D nl none) v ∧ (∀ x ∈ D, in64 x) ∧ D.length ≤ maxLen ∧ (nl = true → D = []) := by
  obtain ⟨m, hm⟩ := h
  generalize hcs : v.cells.toList = cs at hm
  obtain ⟨v', ch, nl, rfl, oc, hg, hl, hnn, r⟩ := open_slice (fun ivs => ∃ z : Int, in64 z ∧ ivs = [.int .i64 z]) Try.underlying38 cells2 (by omega) elem_i64 hm
  obtain ⟨D, h1, h2, h3⟩ := i64s_of ch hg
  rw [h1, h2] at r
  refine ⟨D, nl, ?_, h3, by rw [← h2]; exact hl, fun h => List.eq_nil_of_length_eq_zero (by rw [← h2, hnn h]; rfl)⟩
  obtain ⟨a, len, cap, rfl⟩ := hv
  obtain rfl : Value.slice a len cap = v' := by simpa [Value.cells] using hcs
  exact .c r
end
end Go.Proofs.Sw
