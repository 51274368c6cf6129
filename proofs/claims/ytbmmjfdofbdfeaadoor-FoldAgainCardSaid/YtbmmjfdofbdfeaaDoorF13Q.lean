/- A part of the proof: what functions of the program answer, of whatever arguments, reckoned with letters by the interpreter's equations. Its conditions stand in each theorem. -/
import Derived.Test.YtbmmjfdofbdfeaaDoorF13P


namespace Go.Proofs.F13
set_option linter.unusedVariables false
set_option linter.unusedSimpArgs false
set_option linter.unusedSectionVars false
open Go.Ab
theorem append_stands {H : Heap} {n : Nat} {v : AV} {st : List Ins} {x : Ins} (h : Stands H n v st) (hn : n ≤ H.length) (hlen : st.length < 1000000) :
    ∃ v' H', apO 34 5 40 v H (some (enc1 x, 1)) = some (v', H') ∧ Stands H' H'.length v' (x :: st) ∧ H.length ≤ H'.length ∧ ∀ (i : Nat) (t : TypeId) (cs : List AV), H[i]? = some (AObj.cells t cs) → H'[i]? = some (AObj.cells t cs) := by
  have he : encCode (x :: st).reverse = encCode st.reverse ++ enc1 x := by
    rw [List.reverse_cons, encCode_append]; simp [encCode]
  have hl : (encCode st.reverse).length = st.length * 5 := by rw [encCode_length, List.length_reverse]
  have hb : (st.length + 1) * 40 ≤ roomBytes := by unfold roomBytes; omega
  rcases h with ⟨rfl, rfl⟩ | ⟨id, j, junk, rfl, hj, hid, hr⟩
  · refine ⟨_, _, apO_nil (by omega) (by decide), .inr ⟨H.length, 0, [], ?_, rfl, by simp, ?_⟩, by simp, fun i t cs hi => concat_old hi⟩
    · simp [encCode, enc1]
    · simp [encCode, enc1]
  · have hcl : (encCode st.reverse ++ junk).length = st.length * 5 + j * 5 := by rw [List.length_append, hl, hj]
    have h1 : rowOf H id (encCode st.reverse ++ junk).length = some (34, encCode st.reverse ++ junk) := rowOf_eq hr rfl
    have h2 : rowLive H id = true := by unfold rowLive; rw [hr]
    have htake : (encCode st.reverse ++ junk).take (st.length * 5) = encCode st.reverse := by rw [← hl, List.take_left]
    have hil : id < H.length := by omega
    have hold : ∀ (o : AObj) (i : Nat) (t : TypeId) (cs : List AV), H[i]? = some (.cells t cs) → (H.set id o)[i]? = some (.cells t cs) := by
      intro o i t cs hi
      rw [List.getElem?_set_ne (by intro e; subst e; rw [hr] at hi; cases hi)]
      exact hi
    by_cases hin : (st.length + 1) * 5 ≤ (encCode st.reverse ++ junk).length
    · refine ⟨.hsl id 0 (st.length + 1) (encCode st.reverse ++ junk).length 5, H.set id (.row false 34 (encCode (x :: st).reverse ++ junk.drop 5)), ?_, .inr ⟨id, j - 1, junk.drop 5, ?_, ?_, ?_, ?_⟩, ?_, hold _⟩
      · have hdrop : (encCode st.reverse ++ junk).drop ((st.length + 1) * 5) = junk.drop 5 := by
          rw [show (st.length + 1) * 5 = (encCode st.reverse).length + 5 by rw [hl]; omega, List.drop_append, List.drop_eq_nil_of_le (by omega), List.nil_append, Nat.add_sub_cancel_left]
        simp only [apO, Option.bind_some, h1]
        rw [if_neg (by omega), if_pos ⟨trivial, trivial, by omega, hb, trivial, h2⟩, if_pos hin, htake, hdrop, he]
      · rw [he]; simp [enc1, hj]; simp [hcl] at hin; omega
      · rw [List.length_drop, hj]; omega
      · rw [List.length_set]; exact hil
      · exact List.getElem?_set_self hil
      · rw [List.length_set]; exact Nat.le_refl _
    · have hj0 : j = 0 := by rw [hcl] at hin; omega
      subst hj0
      have hjk : junk = [] := List.eq_nil_of_length_eq_zero (by omega)
      subst hjk
      refine ⟨.hsl id 0 (st.length + 1) ((st.length + 1) * 5) 5, H.set id (.row false 34 (encCode (x :: st).reverse ++ [])), ?_, .inr ⟨id, 0, [], ?_, rfl, ?_, ?_⟩, ?_, hold _⟩
      · simp only [apO, Option.bind_some, h1]
        rw [if_neg (by omega), if_pos ⟨trivial, trivial, by omega, hb, trivial, h2⟩, if_neg hin, htake, he, List.append_nil]
      · rw [List.append_nil, encCode_length]; simp
      · rw [List.length_set]; exact hil
      · exact List.getElem?_set_self hil
      · rw [List.length_set]; exact Nat.le_refl _
theorem outer_trim {H : Heap} {l : Ass} {v : AV} {st : List Ins} {t0 t1 : TypeId} {c0 c1 : List AV} (h6 : asc l 6 = v) (hS : Stands H H.length v st) (g0 : H[0]? = some (.cells t0 c0)) (g1 : H[1]? = some (.cells t1 c1)) :
    ∃ H1, trim 2 (fr 76 l) H = H1 ∧ Stands H1 H1.length v st ∧ H1[0]? = some (.cells t0 c0) ∧ H1[1]? = some (.cells t1 c1) ∧ 2 ≤ H1.length := by
  have hl : 2 ≤ H.length := by have := (List.getElem?_eq_some_iff.1 g1).1; omega
  unfold trim
  split
  · rename_i hc
    refine ⟨_, rfl, ?_, by rw [List.getElem?_take_of_lt (by omega)]; exact g0, by rw [List.getElem?_take_of_lt (by omega)]; exact g1, by simp; omega⟩
    rcases hS with h | ⟨id, j, junk, rfl, hj, hid, hr⟩
    · exact .inl h
    · exfalso
      have h1 := PT.all_get (p := AV.under 2) rfl _ hc.1 6
      have h2 : (fr 76 l).t.get 6 = asc l 6 := get_fr (by omega)
      rw [h2, h6, under_hsl, decide_eq_true_eq] at h1
      rcases (show id = 0 ∨ id = 1 by omega) with rfl | rfl
      · rw [g0] at hr; cases hr
      · rw [g1] at hr; cases hr
  · exact ⟨_, rfl, hS, g0, g1, hl⟩
end Go.Proofs.F13
