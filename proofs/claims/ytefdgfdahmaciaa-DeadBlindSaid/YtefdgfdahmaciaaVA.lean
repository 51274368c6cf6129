/- A part of the proof: what functions of the program answer; conditions stand in each theorem. -/
import Derived.Test.YtefdgfdahmaciaaVFacts
import Derived.Test.YtefdgfdahmaciaaAbSim
set_option linter.unusedVariables false
set_option linter.unusedSimpArgs false
set_option linter.unusedSectionVars false
namespace Go.Proofs.Sw.W
def vd : List Nat → Nat
  | [] => 0
  | d :: l => d + 4294967296 * vd l
def okD (l : List Nat) : Prop := ∀ d ∈ l, d < 4294967296
theorem okD_nil : okD [] := fun _ h => by cases h
theorem okD_cons {d : Nat} {l : List Nat} : okD (d :: l) ↔ d < 4294967296 ∧ okD l := by
  constructor
  · intro h; exact ⟨h d (by simp), fun x hx => h x (by simp [hx])⟩
  · rintro ⟨h1, h2⟩ x hx
    rcases List.mem_cons.1 hx with rfl | hx
    · exact h1
    · exact h2 x hx
theorem okD_append {a b : List Nat} : okD (a ++ b) ↔ okD a ∧ okD b := by
  constructor
  · intro h; exact ⟨fun x hx => h x (by simp [hx]), fun x hx => h x (by simp [hx])⟩
  · rintro ⟨h1, h2⟩ x hx
    rcases List.mem_append.1 hx with hx | hx
    · exact h1 x hx
    · exact h2 x hx
theorem vd_append : ∀ (a b : List Nat), vd (a ++ b) = vd a + 4294967296 ^ a.length * vd b
  | [], b => by simp [vd]
  | d :: a, b => by
    rw [List.cons_append, vd, vd, vd_append a b, List.length_cons, Nat.pow_succ, Nat.mul_add]
    rw [show 4294967296 * (4294967296 ^ a.length * vd b) = 4294967296 ^ a.length * 4294967296 * vd b by rw [Nat.mul_comm (4294967296 ^ a.length) 4294967296, Nat.mul_assoc]]
    omega
theorem vd_lt : ∀ {l : List Nat}, okD l → vd l < 4294967296 ^ l.length
  | [], _ => by simp [vd]
  | d :: l, h => by
    obtain ⟨h1, h2⟩ := okD_cons.1 h
    have := vd_lt h2
    rw [vd, List.length_cons, Nat.pow_succ]
    have h3 : 4294967296 * (vd l + 1) ≤ 4294967296 * 4294967296 ^ l.length := Nat.mul_le_mul_left _ this
    rw [Nat.mul_comm (4294967296 ^ l.length) 4294967296]
    omega
theorem vd_snoc (a : List Nat) (x : Nat) : vd (a ++ [x]) = vd a + 4294967296 ^ a.length * x := by
  rw [vd_append]; simp [vd]
def trimD : List Nat → List Nat
  | [] => []
  | d :: l => if trimD l = [] ∧ d = 0 then [] else d :: trimD l
theorem vd_trim : ∀ l, vd (trimD l) = vd l
  | [] => rfl
  | d :: l => by
    have ih := vd_trim l
    rw [trimD]
    split
    · rename_i h
      rw [h.1] at ih
      simp only [vd] at ih ⊢
      omega
    · rw [vd, vd, ih]
theorem trim_take : ∀ l, trimD l = l.take (trimD l).length
  | [] => rfl
  | d :: l => by
    have ih := trim_take l
    rw [trimD]
    split
    · rfl
    · rw [List.length_cons, List.take_succ_cons, ← ih]
theorem trim_len (l : List Nat) : (trimD l).length ≤ l.length := by
  rw [trim_take l]; simp; omega
theorem trim_ok {l : List Nat} (h : okD l) : okD (trimD l) := by
  rw [trim_take l]; exact fun d hd => h d (List.mem_of_mem_take hd)
theorem trim_zero : ∀ {l : List Nat} {i : Nat}, (trimD l).length ≤ i → i < l.length → l.getD i 0 = 0
  | [], i, _, h => by simp at h
  | d :: l, i, h1, h2 => by
    rw [trimD] at h1
    split at h1
    · rename_i h
      cases i with
      | zero => simpa using h.2
      | succ i =>
        have := trim_zero (l := l) (i := i) (by rw [h.1]; simp) (by simpa using h2)
        simpa using this
    · cases i with
      | zero => simp at h1
      | succ i =>
        have := trim_zero (l := l) (i := i) (by simpa using h1) (by simpa using h2)
        simpa using this
theorem trim_last : ∀ {l : List Nat}, trimD l ≠ [] → (trimD l).getD ((trimD l).length - 1) 0 ≠ 0
  | [], h => absurd rfl h
  | d :: l, h => by
    rw [trimD] at h ⊢
    split at h
    · exact absurd rfl h
    · rename_i hc
      rw [if_neg hc]
      by_cases hl : trimD l = []
      · rw [hl]
        simpa using fun e => hc ⟨hl, e⟩
      · have ih := trim_last hl
        have hp : 0 < (trimD l).length := List.length_pos_iff.2 hl
        obtain ⟨m, hm⟩ : ∃ m, (trimD l).length = m + 1 := ⟨(trimD l).length - 1, by omega⟩
        rw [List.length_cons, hm]
        rw [hm] at ih
        simpa using ih
theorem trim_app0 : ∀ (l : List Nat), trimD (l ++ [0]) = trimD l
  | [] => rfl
  | d :: l => by rw [List.cons_append, trimD, trimD, trim_app0 l]
theorem trim_trim (l : List Nat) : trimD (trimD l) = trimD l := by
  induction l with
  | nil => rfl
  | cons d l ih =>
    rw [trimD]
    split
    · rfl
    · rename_i h
      rw [trimD, ih, if_neg h]
structure Can (l : List Nat) : Prop where
  ok : okD l
  tr : trimD l = l
theorem can_trim {l : List Nat} (h : okD l) : Can (trimD l) := ⟨trim_ok h, trim_trim l⟩
theorem can_nil : Can [] := ⟨okD_nil, rfl⟩
theorem can_tail {d : Nat} {l : List Nat} (h : Can (d :: l)) : Can l := by
  refine ⟨(okD_cons.1 h.ok).2, ?_⟩
  have := h.tr
  rw [trimD] at this
  split at this
  · cases this
  · exact (List.cons.inj this).2
theorem can_zero {l : List Nat} (h : Can l) (h0 : vd l = 0) : l = [] := by
  induction l with
  | nil => rfl
  | cons d l ih =>
    rw [vd] at h0
    have hl := ih (can_tail h) (by omega)
    have := h.tr
    rw [trimD, hl, if_pos ⟨rfl, by omega⟩] at this
    cases this
theorem can_inj : ∀ {a b : List Nat}, Can a → Can b → vd a = vd b → a = b
  | [], b, _, hb, h => (can_zero hb h.symm).symm
  | x :: a, [], ha, _, h => can_zero ha h
  | x :: a, y :: b, ha, hb, h => by
    have h1 := (okD_cons.1 ha.ok).1
    have h2 := (okD_cons.1 hb.ok).1
    rw [vd, vd] at h
    have e1 : x = y := by omega
    have e2 : vd a = vd b := by omega
    rw [e1, can_inj (can_tail ha) (can_tail hb) e2]
def digF : Nat → Nat → List Nat
  | 0, _ => []
  | f + 1, n => if n = 0 then [] else n % 4294967296 :: digF f (n / 4294967296)
def dig (n : Nat) : List Nat := digF n n
theorem digF_spec : ∀ (f n : Nat), n ≤ f → vd (digF f n) = n ∧ Can (digF f n)
  | 0, n, h => by
    have : n = 0 := by omega
    subst this
    exact ⟨rfl, can_nil⟩
  | f + 1, n, h => by
    rw [digF]
    split
    · rename_i h0; subst h0; exact ⟨rfl, can_nil⟩
    · rename_i h0
      obtain ⟨h1, h2⟩ := digF_spec f (n / 4294967296) (by omega)
      refine ⟨by rw [vd, h1]; omega, okD_cons.2 ⟨by omega, h2.ok⟩, ?_⟩
      rw [trimD, h2.tr, if_neg]
      rintro ⟨h3, h4⟩
      rw [h3] at h1
      simp only [vd] at h1
      omega
theorem vd_dig (n : Nat) : vd (dig n) = n := (digF_spec n n (Nat.le_refl _)).1
theorem can_dig (n : Nat) : Can (dig n) := (digF_spec n n (Nat.le_refl _)).2
theorem dig_of {l : List Nat} (h : okD l) : trimD l = dig (vd l) := can_inj (can_trim h) (can_dig _) (by rw [vd_trim, vd_dig])
theorem dig_zero : dig 0 = [] := rfl
theorem dig_pos {n : Nat} (h : 0 < n) : dig n ≠ [] := fun e => by
  have := vd_dig n
  rw [e] at this
  simp only [vd] at this
  omega
theorem dig_nil {n : Nat} : dig n = [] ↔ n = 0 := by
  constructor
  · intro h
    by_cases h0 : n = 0
    · exact h0
    · exact absurd h (dig_pos (by omega))
  · rintro rfl; rfl
theorem dig_len {n k : Nat} (h : n < 4294967296 ^ k) : (dig n).length ≤ k := by
  by_cases hk : (dig n).length ≤ k
  · exact hk
  · exfalso
    have hc := can_dig n
    have hv := vd_dig n
    obtain ⟨l, x, hx⟩ : ∃ l x, dig n = l ++ [x] := by
      have hne : dig n ≠ [] := fun e => by rw [e] at hk; simp at hk
      exact ⟨(dig n).dropLast, (dig n).getLast hne, (List.dropLast_concat_getLast hne).symm⟩
    have hx0 : x ≠ 0 := fun e => by
      subst e
      have := hc.tr
      rw [hx, trim_app0] at this
      have h2 := trim_len l
      have h3 := congrArg List.length this
      simp at h3
      omega
    rw [hx] at hv hk
    rw [vd_snoc] at hv
    rw [List.length_append] at hk
    simp only [List.length_cons, List.length_nil] at hk
    have h1 : 4294967296 ^ k ≤ 4294967296 ^ l.length := Nat.pow_le_pow_right (by omega) (by omega)
    have h2 : 4294967296 ^ l.length * 1 ≤ 4294967296 ^ l.length * x := Nat.mul_le_mul_left _ (by omega)
    omega
theorem okD_get {l : List Nat} (h : okD l) (i : Nat) : l.getD i 0 < 4294967296 := by
  by_cases hi : i < l.length
  · rw [List.getD_eq_getElem?_getD, List.getElem?_eq_getElem hi]
    exact h _ (List.getElem_mem hi)
  · rw [List.getD_eq_getElem?_getD, List.getElem?_eq_none (by omega)]; simp
theorem vd_take (l : List Nat) (i : Nat) : vd (l.take (i + 1)) = vd (l.take i) + 4294967296 ^ i * l.getD i 0 := by
  by_cases h : i < l.length
  · rw [List.take_succ_eq_append_getElem h, vd_snoc, List.length_take, List.getD_eq_getElem?_getD, List.getElem?_eq_getElem h]
    rw [show min i l.length = i by omega]; rfl
  · rw [List.take_of_length_le (by omega), List.take_of_length_le (by omega), List.getD_eq_getElem?_getD, List.getElem?_eq_none (by omega)]; simp
theorem getD_out {l : List Nat} {i : Nat} (h : l.length ≤ i) : l.getD i 0 = 0 := by
  rw [List.getD_eq_getElem?_getD, List.getElem?_eq_none h]; rfl
theorem vd_ge {b : List Nat} (hb : Can b) (h : b ≠ []) : 4294967296 ^ (b.length - 1) ≤ vd b := by
  obtain ⟨l, x, hx⟩ : ∃ l x, b = l ++ [x] := ⟨b.dropLast, b.getLast h, (List.dropLast_concat_getLast h).symm⟩
  have hx0 : x ≠ 0 := fun e => by
    subst e
    have := hb.tr
    rw [hx, trim_app0] at this
    have h2 := trim_len l
    have h3 := congrArg List.length this
    simp at h3
    omega
  rw [hx, vd_snoc, List.length_append]
  simp only [List.length_cons, List.length_nil, Nat.zero_add, Nat.add_sub_cancel]
  have : 4294967296 ^ l.length * 1 ≤ 4294967296 ^ l.length * x := Nat.mul_le_mul_left _ (by omega)
  omega
theorem can_len {a b : List Nat} (ha : okD a) (hb : Can b) (h : a.length < b.length) : vd a < vd b := by
  have h1 := vd_lt ha
  have h2 := vd_ge hb (fun e => by rw [e] at h; simp at h)
  have h3 : 4294967296 ^ a.length ≤ 4294967296 ^ (b.length - 1) := Nat.pow_le_pow_right (by omega) (by omega)
  omega
theorem vd_split (l : List Nat) (j : Nat) (h : j < l.length) : vd l = vd (l.take j) + 4294967296 ^ j * (l.getD j 0 + 4294967296 * vd (l.drop (j + 1))) := by
  have h1 : l = l.take j ++ l.drop j := (List.take_append_drop j l).symm
  have h2 : l.drop j = l.getD j 0 :: l.drop (j + 1) := by
    rw [List.drop_eq_getElem_cons h, List.getD_eq_getElem?_getD, List.getElem?_eq_getElem h]; rfl
  have h3 : (l.take j).length = j := by rw [List.length_take]; omega
  calc vd l = vd (l.take j ++ l.drop j) := by rw [← h1]
    _ = _ := by rw [vd_append, h3, h2, vd]
theorem vd_lt_at {a b : List Nat} (ha : okD a) {j : Nat} (hja : j < a.length) (hjb : j < b.length) (hd : a.drop (j + 1) = b.drop (j + 1)) (h : a.getD j 0 < b.getD j 0) : vd a < vd b := by
  have h1 : vd (a.take j) < 4294967296 ^ j := by
    have := vd_lt (l := a.take j) (fun d hd => ha d (List.mem_of_mem_take hd))
    rwa [List.length_take, show min j a.length = j by omega] at this
  rw [vd_split a j hja, vd_split b j hjb, hd]
  have h2 : 4294967296 ^ j * (a.getD j 0 + 4294967296 * vd (b.drop (j + 1)) + 1) ≤ 4294967296 ^ j * (b.getD j 0 + 4294967296 * vd (b.drop (j + 1))) := Nat.mul_le_mul_left _ (by omega)
  rw [Nat.mul_add, Nat.mul_one] at h2
  omega
theorem vd_set : ∀ (l : List Nat) (k v : Nat), k < l.length → vd (l.set k v) + 4294967296 ^ k * l.getD k 0 = vd l + 4294967296 ^ k * v
  | [], k, v, h => by simp at h
  | d :: l, 0, v, _ => by simp [vd]; omega
  | d :: l, k + 1, v, h => by
    have ih := vd_set l k v (by simpa using h)
    rw [List.set_cons_succ, vd, vd, Nat.pow_succ]
    have e1 : (d :: l).getD (k + 1) 0 = l.getD k 0 := by simp
    rw [e1, Nat.mul_comm (4294967296 ^ k) 4294967296, Nat.mul_assoc, Nat.mul_assoc]
    omega
theorem okD_set {l : List Nat} {k v : Nat} (h : okD l) (hv : v < 4294967296) : okD (l.set k v) := fun d hd => by
  rcases List.mem_or_eq_of_mem_set hd with hd | rfl
  · exact h d hd
  · exact hv
theorem vd_rep (L : Nat) : vd (List.replicate L 0) = 0 := by
  induction L with
  | zero => rfl
  | succ n ih => rw [List.replicate_succ, vd, ih]
theorem dig_len_mono {m n : Nat} (h : m ≤ n) : (dig m).length ≤ (dig n).length := by
  by_cases hlt : (dig n).length < (dig m).length
  · have := can_len (can_dig n).ok (can_dig m) hlt
    rw [vd_dig, vd_dig] at this
    omega
  · omega
def cmpN (m n : Nat) : Int := if m < n then -1 else if n < m then 1 else 0
end Go.Proofs.Sw.W
namespace Go.Proofs.Sw
def vd : List Nat → Nat
  | [] => 0
  | d :: l => d + 65536 * vd l
def okD (l : List Nat) : Prop := ∀ d ∈ l, d < 65536
theorem okD_nil : okD [] := fun _ h => by cases h
theorem okD_cons {d : Nat} {l : List Nat} : okD (d :: l) ↔ d < 65536 ∧ okD l := by
  constructor
  · intro h; exact ⟨h d (by simp), fun x hx => h x (by simp [hx])⟩
  · rintro ⟨h1, h2⟩ x hx
    rcases List.mem_cons.1 hx with rfl | hx
    · exact h1
    · exact h2 x hx
theorem okD_append {a b : List Nat} : okD (a ++ b) ↔ okD a ∧ okD b := by
  constructor
  · intro h; exact ⟨fun x hx => h x (by simp [hx]), fun x hx => h x (by simp [hx])⟩
  · rintro ⟨h1, h2⟩ x hx
    rcases List.mem_append.1 hx with hx | hx
    · exact h1 x hx
    · exact h2 x hx
theorem vd_append : ∀ (a b : List Nat), vd (a ++ b) = vd a + 65536 ^ a.length * vd b
  | [], b => by simp [vd]
  | d :: a, b => by
    rw [List.cons_append, vd, vd, vd_append a b, List.length_cons, Nat.pow_succ, Nat.mul_add]
    rw [show 65536 * (65536 ^ a.length * vd b) = 65536 ^ a.length * 65536 * vd b by rw [Nat.mul_comm (65536 ^ a.length) 65536, Nat.mul_assoc]]
    omega
theorem vd_lt : ∀ {l : List Nat}, okD l → vd l < 65536 ^ l.length
  | [], _ => by simp [vd]
  | d :: l, h => by
    obtain ⟨h1, h2⟩ := okD_cons.1 h
    have := vd_lt h2
    rw [vd, List.length_cons, Nat.pow_succ]
    have h3 : 65536 * (vd l + 1) ≤ 65536 * 65536 ^ l.length := Nat.mul_le_mul_left _ this
    rw [Nat.mul_comm (65536 ^ l.length) 65536]
    omega
theorem vd_snoc (a : List Nat) (x : Nat) : vd (a ++ [x]) = vd a + 65536 ^ a.length * x := by
  rw [vd_append]; simp [vd]
def trimD : List Nat → List Nat
  | [] => []
  | d :: l => if trimD l = [] ∧ d = 0 then [] else d :: trimD l
theorem vd_trim : ∀ l, vd (trimD l) = vd l
  | [] => rfl
  | d :: l => by
    have ih := vd_trim l
    rw [trimD]
    split
    · rename_i h
      rw [h.1] at ih
      simp only [vd] at ih ⊢
      omega
    · rw [vd, vd, ih]
theorem trim_take : ∀ l, trimD l = l.take (trimD l).length
  | [] => rfl
  | d :: l => by
    have ih := trim_take l
    rw [trimD]
    split
    · rfl
    · rw [List.length_cons, List.take_succ_cons, ← ih]
theorem trim_len (l : List Nat) : (trimD l).length ≤ l.length := by
  rw [trim_take l]; simp; omega
theorem trim_ok {l : List Nat} (h : okD l) : okD (trimD l) := by
  rw [trim_take l]; exact fun d hd => h d (List.mem_of_mem_take hd)
theorem trim_zero : ∀ {l : List Nat} {i : Nat}, (trimD l).length ≤ i → i < l.length → l.getD i 0 = 0
  | [], i, _, h => by simp at h
  | d :: l, i, h1, h2 => by
    rw [trimD] at h1
    split at h1
    · rename_i h
      cases i with
      | zero => simpa using h.2
      | succ i =>
        have := trim_zero (l := l) (i := i) (by rw [h.1]; simp) (by simpa using h2)
        simpa using this
    · cases i with
      | zero => simp at h1
      | succ i =>
        have := trim_zero (l := l) (i := i) (by simpa using h1) (by simpa using h2)
        simpa using this
theorem trim_last : ∀ {l : List Nat}, trimD l ≠ [] → (trimD l).getD ((trimD l).length - 1) 0 ≠ 0
  | [], h => absurd rfl h
  | d :: l, h => by
    rw [trimD] at h ⊢
    split at h
    · exact absurd rfl h
    · rename_i hc
      rw [if_neg hc]
      by_cases hl : trimD l = []
      · rw [hl]
        simpa using fun e => hc ⟨hl, e⟩
      · have ih := trim_last hl
        have hp : 0 < (trimD l).length := List.length_pos_iff.2 hl
        obtain ⟨m, hm⟩ : ∃ m, (trimD l).length = m + 1 := ⟨(trimD l).length - 1, by omega⟩
        rw [List.length_cons, hm]
        rw [hm] at ih
        simpa using ih
theorem trim_app0 : ∀ (l : List Nat), trimD (l ++ [0]) = trimD l
  | [] => rfl
  | d :: l => by rw [List.cons_append, trimD, trimD, trim_app0 l]
theorem trim_trim (l : List Nat) : trimD (trimD l) = trimD l := by
  induction l with
  | nil => rfl
  | cons d l ih =>
    rw [trimD]
    split
    · rfl
    · rename_i h
      rw [trimD, ih, if_neg h]
structure Can (l : List Nat) : Prop where
  ok : okD l
  tr : trimD l = l
theorem can_trim {l : List Nat} (h : okD l) : Can (trimD l) := ⟨trim_ok h, trim_trim l⟩
theorem can_nil : Can [] := ⟨okD_nil, rfl⟩
theorem can_tail {d : Nat} {l : List Nat} (h : Can (d :: l)) : Can l := by
  refine ⟨(okD_cons.1 h.ok).2, ?_⟩
  have := h.tr
  rw [trimD] at this
  split at this
  · cases this
  · exact (List.cons.inj this).2
theorem can_zero {l : List Nat} (h : Can l) (h0 : vd l = 0) : l = [] := by
  induction l with
  | nil => rfl
  | cons d l ih =>
    rw [vd] at h0
    have hl := ih (can_tail h) (by omega)
    have := h.tr
    rw [trimD, hl, if_pos ⟨rfl, by omega⟩] at this
    cases this
theorem can_inj : ∀ {a b : List Nat}, Can a → Can b → vd a = vd b → a = b
  | [], b, _, hb, h => (can_zero hb h.symm).symm
  | x :: a, [], ha, _, h => can_zero ha h
  | x :: a, y :: b, ha, hb, h => by
    have h1 := (okD_cons.1 ha.ok).1
    have h2 := (okD_cons.1 hb.ok).1
    rw [vd, vd] at h
    have e1 : x = y := by omega
    have e2 : vd a = vd b := by omega
    rw [e1, can_inj (can_tail ha) (can_tail hb) e2]
def digF : Nat → Nat → List Nat
  | 0, _ => []
  | f + 1, n => if n = 0 then [] else n % 65536 :: digF f (n / 65536)
def dig (n : Nat) : List Nat := digF n n
theorem digF_spec : ∀ (f n : Nat), n ≤ f → vd (digF f n) = n ∧ Can (digF f n)
  | 0, n, h => by
    have : n = 0 := by omega
    subst this
    exact ⟨rfl, can_nil⟩
  | f + 1, n, h => by
    rw [digF]
    split
    · rename_i h0; subst h0; exact ⟨rfl, can_nil⟩
    · rename_i h0
      obtain ⟨h1, h2⟩ := digF_spec f (n / 65536) (by omega)
      refine ⟨by rw [vd, h1]; omega, okD_cons.2 ⟨by omega, h2.ok⟩, ?_⟩
      rw [trimD, h2.tr, if_neg]
      rintro ⟨h3, h4⟩
      rw [h3] at h1
      simp only [vd] at h1
      omega
theorem vd_dig (n : Nat) : vd (dig n) = n := (digF_spec n n (Nat.le_refl _)).1
theorem can_dig (n : Nat) : Can (dig n) := (digF_spec n n (Nat.le_refl _)).2
theorem dig_of {l : List Nat} (h : okD l) : trimD l = dig (vd l) := can_inj (can_trim h) (can_dig _) (by rw [vd_trim, vd_dig])
theorem dig_zero : dig 0 = [] := rfl
theorem dig_pos {n : Nat} (h : 0 < n) : dig n ≠ [] := fun e => by
  have := vd_dig n
  rw [e] at this
  simp only [vd] at this
  omega
theorem dig_nil {n : Nat} : dig n = [] ↔ n = 0 := by
  constructor
  · intro h
    by_cases h0 : n = 0
    · exact h0
    · exact absurd h (dig_pos (by omega))
  · rintro rfl; rfl
theorem dig_len {n k : Nat} (h : n < 65536 ^ k) : (dig n).length ≤ k := by
  by_cases hk : (dig n).length ≤ k
  · exact hk
  · exfalso
    have hc := can_dig n
    have hv := vd_dig n
    obtain ⟨l, x, hx⟩ : ∃ l x, dig n = l ++ [x] := by
      have hne : dig n ≠ [] := fun e => by rw [e] at hk; simp at hk
      exact ⟨(dig n).dropLast, (dig n).getLast hne, (List.dropLast_concat_getLast hne).symm⟩
    have hx0 : x ≠ 0 := fun e => by
      subst e
      have := hc.tr
      rw [hx, trim_app0] at this
      have h2 := trim_len l
      have h3 := congrArg List.length this
      simp at h3
      omega
    rw [hx] at hv hk
    rw [vd_snoc] at hv
    rw [List.length_append] at hk
    simp only [List.length_cons, List.length_nil] at hk
    have h1 : 65536 ^ k ≤ 65536 ^ l.length := Nat.pow_le_pow_right (by omega) (by omega)
    have h2 : 65536 ^ l.length * 1 ≤ 65536 ^ l.length * x := Nat.mul_le_mul_left _ (by omega)
    omega
end Go.Proofs.Sw
namespace Go.Proofs.Sw
open Go.Ab
variable [Globals]
structure Ins where
  op : Int
  to : Int
  a : Int
  b : Int
  c : Int
  deriving DecidableEq
abbrev ii (n : Int) : AV := .c (.int .i64 n)
abbrev bb (n : Bool) : AV := .c (.bool n)
abbrev aI (o t a b c : Int) : AV := .agg [ii o, ii t, ii a, ii b, ii c]
noncomputable abbrev run (k f : Nat) (args : List AV) : Option AV := ans (evalT Try.prog (mkHints tab) k (.fn f) args [])
abbrev nlE {α : Type} (l : List α) : Bool := decide (l.length = 0)
abbrev cpE {α : Type} (l : List α) : Option Nat := if l.length = 0 then some 0 else none
def two (op : Int) : Bool := decide (op = 3) || decide (op = 4)
theorem two_ev (k : Nat) (op : Int) : run (k+1) 123 [ii op] = some (bb (two op)) := by
  rw [run, ev123, ans_trim]
  simp only [Try.f123, EVb, condO_ite, Int.reduceEq, Int.reduceToNat, Int.reduceLE, Int.reduceLT, Int.reduceAdd, Int.reduceMul, Int.reduceSub, Int.reduceNeg, Nat.reduceAdd, Nat.reduceSub, Nat.reduceMul, Nat.reduceLT, Nat.reduceBEq, Nat.reduceEqDiff, Nat.reduceLeDiff, FACTS, TYPES]
  unfold two
  split <;> simp_all only [EVb, condO_ite, Int.reduceEq, Int.reduceToNat, Int.reduceLE, Int.reduceLT, Int.reduceAdd, Int.reduceMul, Int.reduceSub, Int.reduceNeg, Nat.reduceAdd, Nat.reduceSub, Nat.reduceMul, Nat.reduceLT, Nat.reduceBEq, Nat.reduceEqDiff, Nat.reduceLeDiff] <;> simp
def constant (i : Ins) : Bool :=
  if i.op = 5 ∨ i.op = 6 then decide (i.c ≠ 0 ∧ -512 ≤ i.c ∧ i.c ≤ 512)
  else if i.op = 7 ∨ i.op = 8 then decide (1 ≤ i.c ∧ i.c ≤ 64)
  else decide (i.c = 0)
theorem constant_ev (k : Nat) (o t a b c : Int) : run (k+1) 124 [aI o t a b c] = some (bb (constant ⟨o, t, a, b, c⟩)) := by
  rw [run, ev124, ans_trim]
  simp only [Try.f124, aI, ii, EVb, condO_ite, Int.reduceEq, Int.reduceToNat, Int.reduceLE, Int.reduceLT, Int.reduceAdd, Int.reduceMul, Int.reduceSub, Int.reduceNeg, Nat.reduceAdd, Nat.reduceSub, Nat.reduceMul, Nat.reduceLT, Nat.reduceBEq, Nat.reduceEqDiff, Nat.reduceLeDiff, FACTS, TYPES]
  repeat' (split <;> simp only [*, EVb, condO_ite, Int.reduceEq, Int.reduceToNat, Int.reduceLE, Int.reduceLT, Int.reduceAdd, Int.reduceMul, Int.reduceSub, Int.reduceNeg, Nat.reduceAdd, Nat.reduceSub, Nat.reduceMul, Nat.reduceLT, Nat.reduceBEq, Nat.reduceEqDiff, Nat.reduceLeDiff, FACTS])
  all_goals simp [constant, *]
def asks (i : Ins) : List Int := if i.op = 3 ∨ i.op = 4 then [i.a, i.b] else if 1 ≤ i.op ∧ i.op ≤ 8 then [i.a] else []
def encInts (l : List Int) : List IV := l.map (.int .i64)
abbrev sI (l : List Int) (nl : Bool) (cap : Option Nat) : AV := .c (.slice (encInts l) l.length nl cap)
abbrev sE (l : List Int) : AV := sI l (nlE l) (cpE l)
theorem asks_ev (k : Nat) (o t a b c : Int) : run (k+1) 79 [aI o t a b c] = some (sE (asks ⟨o, t, a, b, c⟩)) := by
  rw [run, ev79, ans_trim]
  simp only [Try.f79, aI, ii, EVb, condO_ite, Int.reduceEq, Int.reduceToNat, Int.reduceLE, Int.reduceLT, Int.reduceAdd, Int.reduceMul, Int.reduceSub, Int.reduceNeg, Nat.reduceAdd, Nat.reduceSub, Nat.reduceMul, Nat.reduceLT, Nat.reduceBEq, Nat.reduceEqDiff, Nat.reduceLeDiff, FACTS, TYPES]
  repeat' (split <;> simp only [*, EVb, condO_ite, Int.reduceEq, Int.reduceToNat, Int.reduceLE, Int.reduceLT, Int.reduceAdd, Int.reduceMul, Int.reduceSub, Int.reduceNeg, Nat.reduceAdd, Nat.reduceSub, Nat.reduceMul, Nat.reduceLT, Nat.reduceBEq, Nat.reduceEqDiff, Nat.reduceLeDiff, FACTS])
  all_goals simp [asks, encInts, *]
  all_goals (have hn : ¬ (1 ≤ o ∧ o ≤ 8) := by omega); (simp only [hn, if_false]; exact ⟨fun _ => by omega, rfl, fun _ => by omega⟩)
def mayM (i : Ins) (regs : Int) : Bool :=
  decide (1 ≤ i.op ∧ i.op ≤ 8 ∧ 0 ≤ i.to ∧ i.to < regs ∧ (i.op = 3 ∨ i.op = 4 ∨ i.b = 0)) && constant i && decide (0 ≤ i.a ∧ i.a < regs) && decide ((i.op = 3 ∨ i.op = 4) → 0 ≤ i.b ∧ i.b < regs)
theorem asks_two {i : Ins} (h : i.op = 3 ∨ i.op = 4) : asks i = [i.a, i.b] := if_pos h
theorem asks_one {i : Ins} (h : ¬ (i.op = 3 ∨ i.op = 4)) (h2 : 1 ≤ i.op ∧ i.op ≤ 8) : asks i = [i.a] := by unfold asks; rw [if_neg h, if_pos h2]
theorem may_ev (k : Nat) (o t a b c regs : Int) : run (k+4) 100 [aI o t a b c, ii regs] = some (bb (mayM ⟨o, t, a, b, c⟩ regs)) := by
  rw [run, ev100, ans_trim]
  simp only [Try.f100, aI, ii, bb, EVb, condO_ite, Int.reduceEq, Int.reduceToNat, Int.reduceLE, Int.reduceLT, Int.reduceAdd, Int.reduceMul, Int.reduceSub, Int.reduceNeg, Nat.reduceAdd, Nat.reduceSub, Nat.reduceMul, Nat.reduceLT, Nat.reduceBEq, Nat.reduceEqDiff, Nat.reduceLeDiff, FACTS, TYPES, two_ev, constant_ev, asks_ev]
  repeat' (split <;> simp only [*, EVb, condO_ite, Int.reduceEq, Int.reduceToNat, Int.reduceLE, Int.reduceLT, Int.reduceAdd, Int.reduceMul, Int.reduceSub, Int.reduceNeg, Nat.reduceAdd, Nat.reduceSub, Nat.reduceMul, Nat.reduceLT, Nat.reduceBEq, Nat.reduceEqDiff, Nat.reduceLeDiff, FACTS, two_ev, constant_ev, asks_ev])
  all_goals first
    | (simp [mayM, two, *] at *; omega)
    | (simp [mayM, two, *] at *; done)
    | skip
  · rw [asks_two (i := ⟨o, t, a, b, c⟩) (by simp [two] at *; simp [*])]
    simp only [sI, encInts, List.map_cons, List.map_nil, EVb, condO_ite, Int.reduceEq, Int.reduceToNat, Int.reduceLE, Int.reduceLT, Int.reduceAdd, Int.reduceMul, Int.reduceSub, Int.reduceNeg, Nat.reduceAdd, Nat.reduceSub, Nat.reduceMul, Nat.reduceLT, Nat.reduceBEq, Nat.reduceEqDiff, Nat.reduceLeDiff, FACTS]
    rw [evalCode_loopB LB100_4 lp100_4]; rotate_left; rfl; rfl; rfl
    simp only [sI, encInts, List.map_cons, List.map_nil, loopR_succ, loopOf, findLoop, firstRegion, Option.some_or, Option.none_or, Option.getD_some, Option.some.injEq, Try.f100, EVb, condO_ite, Int.reduceEq, Int.reduceToNat, Int.reduceLE, Int.reduceLT, Int.reduceAdd, Int.reduceMul, Int.reduceSub, Int.reduceNeg, Nat.reduceAdd, Nat.reduceSub, Nat.reduceMul, Nat.reduceLT, Nat.reduceBEq, Nat.reduceEqDiff, Nat.reduceLeDiff, FACTS]
    repeat' (split <;> simp only [*, sI, encInts, List.map_cons, List.map_nil, loopR_succ, loopOf, findLoop, firstRegion, Option.some_or, Option.none_or, Try.f100, EVb, condO_ite, Int.reduceEq, Int.reduceToNat, Int.reduceLE, Int.reduceLT, Int.reduceAdd, Int.reduceMul, Int.reduceSub, Int.reduceNeg, Nat.reduceAdd, Nat.reduceSub, Nat.reduceMul, Nat.reduceLT, Nat.reduceBEq, Nat.reduceEqDiff, Nat.reduceLeDiff, FACTS])
    all_goals (simp [mayM, two, *] at *; try omega)
  · rw [asks_one (i := ⟨o, t, a, 0, c⟩) (by simp [two] at *; simp [*]) (by simp; omega)]
    simp only [sI, encInts, List.map_cons, List.map_nil, EVb, condO_ite, Int.reduceEq, Int.reduceToNat, Int.reduceLE, Int.reduceLT, Int.reduceAdd, Int.reduceMul, Int.reduceSub, Int.reduceNeg, Nat.reduceAdd, Nat.reduceSub, Nat.reduceMul, Nat.reduceLT, Nat.reduceBEq, Nat.reduceEqDiff, Nat.reduceLeDiff, FACTS]
    rw [evalCode_loopB LB100_4 lp100_4]; rotate_left; rfl; rfl; rfl
    simp only [sI, encInts, List.map_cons, List.map_nil, loopR_succ, loopOf, findLoop, firstRegion, Option.some_or, Option.none_or, Option.getD_some, Option.some.injEq, Try.f100, EVb, condO_ite, Int.reduceEq, Int.reduceToNat, Int.reduceLE, Int.reduceLT, Int.reduceAdd, Int.reduceMul, Int.reduceSub, Int.reduceNeg, Nat.reduceAdd, Nat.reduceSub, Nat.reduceMul, Nat.reduceLT, Nat.reduceBEq, Nat.reduceEqDiff, Nat.reduceLeDiff, FACTS]
    repeat' (split <;> simp only [*, sI, encInts, List.map_cons, List.map_nil, loopR_succ, loopOf, findLoop, firstRegion, Option.some_or, Option.none_or, Try.f100, EVb, condO_ite, Int.reduceEq, Int.reduceToNat, Int.reduceLE, Int.reduceLT, Int.reduceAdd, Int.reduceMul, Int.reduceSub, Int.reduceNeg, Nat.reduceAdd, Nat.reduceSub, Nat.reduceMul, Nat.reduceLT, Nat.reduceBEq, Nat.reduceEqDiff, Nat.reduceLeDiff, FACTS])
    all_goals (simp [mayM, two, *] at *; try omega)
end Go.Proofs.Sw
namespace Go.Proofs.Sw
open Go.Ab
variable [Globals]
abbrev enc1 (i : Ins) : List IV := [.int .i64 i.op, .int .i64 i.to, .int .i64 i.a, .int .i64 i.b, .int .i64 i.c]
def encCode : List Ins → List IV
  | [] => []
  | i :: l => enc1 i ++ encCode l
theorem encInts_length (l : List Int) : (encInts l).length = l.length := by simp [encInts]
theorem encCode_length : ∀ (l : List Ins), (encCode l).length = l.length * 5
  | [] => rfl
  | i :: l => by rw [encCode, List.length_append, encCode_length l]; simp; omega
theorem encCode_append : ∀ (l m : List Ins), encCode (l ++ m) = encCode l ++ encCode m
  | [], m => rfl
  | i :: l, m => by rw [List.cons_append, encCode, encCode, encCode_append l m, List.append_assoc]
theorem encInts_get {l : List Int} {i : Nat} (h : i < l.length) : (encInts l)[i]? = some (.int .i64 l[i]) := by
  simp [encInts, h]
theorem encCode_drop : ∀ (l : List Ins) (i : Nat), (encCode l).drop (i * 5) = encCode (l.drop i)
  | [], i => by simp [encCode]
  | x :: l, 0 => by simp
  | x :: l, i + 1 => by
    rw [encCode, List.drop_succ_cons, ← encCode_drop l i, show (i + 1) * 5 = (enc1 x).length + i * 5 by simp; omega, List.drop_append]
    simp
theorem encCode_get {l : List Ins} {i : Nat} (h : i < l.length) : (if i * 5 + 5 ≤ (encCode l).length then some (((encCode l).drop (i * 5)).take 5) else none) = some (enc1 l[i]) := by
  rw [encCode_length, if_pos (by omega), encCode_drop]
  have : l.drop i = l[i] :: l.drop (i + 1) := (List.drop_eq_getElem_cons h)
  rw [this, encCode]
  simp
theorem wrap_succ {i n : Nat} (h : i < n) (hn : n ≤ 4611686018427387904) : IntKind.wrap .i64 ((i : Int) + 1) = ((i + 1 : Nat) : Int) := by
  rw [wrap64 (by omega) (by omega)]; simp
structure Pg where
  ins : Int
  regs : Int
  code : List Ins
  outs : List Int
  deriving DecidableEq
abbrev sC (code : List Ins) (nl : Bool) (cap : Option Nat) : AV := .c (.slice (encCode code) code.length nl cap)
abbrev aP (p : Pg) (nl : Bool) (cap : Option Nat) (nl2 : Bool) (cap2 : Option Nat) : AV := .agg [ii p.ins, ii p.regs, sC p.code nl cap, sI p.outs nl2 cap2]
abbrev cP (ins regs : Int) (v ov : AV) : AObj := .cells 25 [ii ins, ii regs, v, ov]
def headM (p : Pg) : Bool := decide (1 ≤ p.ins ∧ p.ins ≤ p.regs ∧ p.regs ≤ 128 ∧ p.code.length ≤ 16384 ∧ 1 ≤ p.outs.length ∧ p.outs.length ≤ 128)
def outsM (p : Pg) : Bool := p.outs.all (fun r => decide (0 ≤ r ∧ r < p.regs))
def codeM (p : Pg) : Bool := p.code.all (fun i => mayM i p.regs)
def rightM (p : Pg) : Bool := headM p && outsM p && codeM p
def checkE (p : Pg) : Int := if rightM p then 0 else 80
section
variable (kf : Nat) (ins regs : Int) (cv ov : AV)
theorem loop_Check_4 (outs : List Int) (nl : Bool) (cap : Option Nat) (hlen : outs.length ≤ 4611686018427387904) (k : Nat) (l : Ass) (H : Heap) (z : Option Out)
    (hz : loopR Try.prog tab kf none LB62_4 62 72 [1, 42, 43, 44] 1 k l H = z) (hk : outs.length < k)
    (h1 : asc l 1 = .ptr 0 0) (h42 : asc l 42 = sI outs nl cap) (h43 : asc l 43 = ii outs.length) (h44 : asc l 44 = ii (0 : Nat)) (hH : H = [cP ins regs cv ov]) :
    ∃ l', (z = some (.exit 0 (fr 72 l') H) ∧ asc l' 1 = .ptr 0 0 ∧ outs.all (fun r => decide (0 ≤ r ∧ r < regs)) = true) ∨
      (z = some (.ret (fr 72 l') H) ∧ asc l' 2 = ii (-1) ∧ asc l' 3 = ii 80 ∧ outs.all (fun r => decide (0 ≤ r ∧ r < regs)) = false) := by
  subst hH
  subst hz
  refine loop_nat outs.length (fun k l H => loopR Try.prog tab kf none LB62_4 62 72 [1, 42, 43, 44] 1 k l H)
    (fun i l H => asc l 1 = .ptr 0 0 ∧ asc l 42 = sI outs nl cap ∧ asc l 43 = ii outs.length ∧ asc l 44 = ii i ∧ (∀ j, (h : j < i) → ∀ h2 : j < outs.length, 0 ≤ outs[j] ∧ outs[j] < regs) ∧ H = [cP ins regs cv ov])
    (fun z => ∃ l', (z = some (.exit 0 (fr 72 l') [cP ins regs cv ov]) ∧ asc l' 1 = .ptr 0 0 ∧ outs.all (fun r => decide (0 ≤ r ∧ r < regs)) = true) ∨
      (z = some (.ret (fr 72 l') [cP ins regs cv ov]) ∧ asc l' 2 = ii (-1) ∧ asc l' 3 = ii 80 ∧ outs.all (fun r => decide (0 ≤ r ∧ r < regs)) = false)) ?_ outs.length 0 k l _ (by omega) hk ⟨h1, h42, h43, h44, fun j h => absurd h (by omega), rfl⟩
  clear h1 h42 h43 h44 hk
  rintro i k l H hi ⟨h1, h42, h43, h44, hp, rfl⟩
  by_cases hc : i < outs.length
  · have hc' : ((i : Int) < outs.length) := by omega
    have hc0 : (0 : Int) ≤ i := by omega
    have hx := encInts_get hc
    have hw := wrap_succ hc hlen
    have hall : ¬ (0 ≤ outs[i] ∧ outs[i] < regs) → outs.all (fun r => decide (0 ≤ r ∧ r < regs)) = false := fun h => by
      rw [List.all_eq_false]; exact ⟨outs[i], List.getElem_mem hc, by simpa using h⟩
    by_cases hr : outs[i] < 0
    · refine .inl ?_
      simp only [h1, h42, h43, h44, hc', hc0, hx, hr, loopR_succ, loopOf, findLoop, firstRegion, Option.some_or, Option.none_or, Option.getD_some, Option.some.injEq, Try.f62, EVb, EVc, Int.reduceEq, Int.reduceToNat, Int.reduceLE, Int.reduceLT, Int.reduceAdd, Int.reduceMul, Int.reduceSub, Int.reduceNeg, Nat.reduceAdd, Nat.reduceSub, Nat.reduceMul, Nat.reduceLT, Nat.reduceBEq, Nat.reduceEqDiff, Nat.reduceLeDiff, FACTS]
      exact ⟨_, .inr ⟨rfl, (by rfl), (by rfl), hall (by omega)⟩⟩
    · by_cases hr2 : regs ≤ outs[i]
      · refine .inl ?_
        simp only [h1, h42, h43, h44, hc', hc0, hx, hr, hr2, loopR_succ, loopOf, findLoop, firstRegion, Option.some_or, Option.none_or, Option.getD_some, Option.some.injEq, Try.f62, EVb, EVc, Int.reduceEq, Int.reduceToNat, Int.reduceLE, Int.reduceLT, Int.reduceAdd, Int.reduceMul, Int.reduceSub, Int.reduceNeg, Nat.reduceAdd, Nat.reduceSub, Nat.reduceMul, Nat.reduceLT, Nat.reduceBEq, Nat.reduceEqDiff, Nat.reduceLeDiff, FACTS]
        exact ⟨_, .inr ⟨rfl, (by rfl), (by rfl), hall (by omega)⟩⟩
      · refine .inr ?_
        simp only [h1, h42, h43, h44, hc', hc0, hx, hr, hr2, hw, loopR_succ, loopOf, findLoop, firstRegion, Option.some_or, Option.none_or, Option.getD_some, Option.some.injEq, Try.f62, EVb, EVc, Int.reduceEq, Int.reduceToNat, Int.reduceLE, Int.reduceLT, Int.reduceAdd, Int.reduceMul, Int.reduceSub, Int.reduceNeg, Nat.reduceAdd, Nat.reduceSub, Nat.reduceMul, Nat.reduceLT, Nat.reduceBEq, Nat.reduceEqDiff, Nat.reduceLeDiff, FACTS]
        refine ⟨_, _, hc, rfl, (by rfl), (by rfl), (by rfl), (by rfl), fun j hj h2 => ?_, rfl⟩
        by_cases e : j = i
        · subst e; omega
        · exact hp j (by omega) h2
  · have hc' : ¬ ((i : Int) < outs.length) := by omega
    refine .inl ?_
    simp only [h1, h42, h43, h44, hc', loopR_succ, loopOf, findLoop, firstRegion, Option.some_or, Option.none_or, Option.getD_some, Option.some.injEq, Try.f62, EVb, EVc, Int.reduceEq, Int.reduceToNat, Int.reduceLE, Int.reduceLT, Int.reduceAdd, Int.reduceMul, Int.reduceSub, Int.reduceNeg, Nat.reduceAdd, Nat.reduceSub, Nat.reduceMul, Nat.reduceLT, Nat.reduceBEq, Nat.reduceEqDiff, Nat.reduceLeDiff, FACTS]
    refine ⟨_, .inl ⟨rfl, (by rfl), ?_⟩⟩
    rw [List.all_eq_true]
    intro x hx
    obtain ⟨j, hj, rfl⟩ := List.getElem_of_mem hx
    simpa using hp j (by omega) hj
end
end Go.Proofs.Sw
namespace Go.Ab
variable [Globals]
theorem scalar_frzs {H : Heap} : ∀ {cs : List AV}, cs.all AV.scalar0 = true → ∃ l, frzs H cs = some (l, H) ∧ l.map AV.c = cs
  | [], _ => ⟨[], rfl, rfl⟩
  | x :: cs, h => by
    rw [List.all_cons, Bool.and_eq_true] at h
    obtain ⟨l, h1, h2⟩ := scalar_frzs (H := H) h.2
    cases x with
    | c x => exact ⟨x :: l, by rw [frzs, frz, Option.bind_some]; simp only [h1, Option.bind_some], by rw [List.map_cons, h2]⟩
    | _ => cases h.1
theorem scalar_frzV {H : Heap} {x : AV} (h : x.scalar1 = true) : frzV H x = some (x, H) := by
  cases x with
  | c x => rfl
  | agg cs =>
    obtain ⟨l, h1, h2⟩ := scalar_frzs (H := H) (cs := cs) h
    rw [frzV_agg, h1, Option.map_some, h2]
  | _ => cases h
theorem scalar_frzTup {H : Heap} : ∀ {cs : List AV}, cs.all AV.scalar1 = true → frzTup H cs = some (cs, H)
  | [], _ => rfl
  | x :: cs, h => by
    rw [List.all_cons, Bool.and_eq_true] at h
    rw [frzTup, scalar_frzV h.1, Option.bind_some]
    simp only [scalar_frzTup (H := H) h.2, Option.bind_some]
theorem scalar_frzR {H : Heap} {x : AV} (h : x.scalar = true) : frzR H x = some (x, H) := by
  cases x with
  | tup vs => rw [frzR, scalar_frzTup h]; rfl
  | c x => exact scalar_frzV (x := .c x) h
  | agg cs => exact scalar_frzV (x := .agg cs) h
  | _ => cases h
theorem doCallS_or {P : Program} {tab : Tab} {kf f r i : Nat} {ar : Option Nat} {g : FuncId} {args bs : List AV} {H H1 : Heap} {v : AV} (hf : inB tab.frames g = false) (hk : keepB tab.keeps f r i = false) (ha : args.all AV.pure = false) (hz : frzTup H args = some (bs, H1)) (hv : ans (evalT P (mkHints tab) kf (.fn g) bs []) = some v) :
    doCallS (cxG P (mkHints tab) kf f ar) r i g args H = some (v, H) ∨ doCallS (cxG P (mkHints tab) kf f ar) r i g args H = some (v, H1) := by
  unfold doCallS doCall pureCall
  rw [if_neg (by rw [show (cxG P (mkHints tab) kf f ar).hints.framed g = false from hf]; simp), if_neg (by rw [show (cxG P (mkHints tab) kf f ar).hints.raw (cxG P (mkHints tab) kf f ar).fn r i = false from rawB_of hk]; simp), if_neg (by rw [show (cxG P (mkHints tab) kf f ar).hints.keep (cxG P (mkHints tab) kf f ar).fn r i = false from hk]; simp), if_neg (by rw [ha]; simp), hz]
  simp only [Option.bind_some]
  rw [show (cxG P (mkHints tab) kf f ar).call g bs [] = evalT P (mkHints tab) kf (.fn g) bs [] from rfl]
  cases he : evalT P (mkHints tab) kf (.fn g) bs [] with
  | none => rw [he] at hv; cases hv
  | some q =>
    rw [he] at hv
    simp only [Option.bind_some]
    by_cases hs : q.1.scalar = true
    · rw [if_pos hs]
      have h1 : (frzR q.2 q.1).map (fun s => s.1) = some v := hv
      rw [scalar_frzR hs] at h1
      injection h1 with h1
      simp only at h1
      rw [h1]
      exact .inl rfl
    · rw [if_neg hs]
      have h1 : (frzR q.2 q.1).map (fun s => s.1) = some v := hv
      obtain ⟨s, h2, h3⟩ := Option.map_eq_some_iff.1 h1
      rw [h2]
      refine .inr ?_
      rw [Option.map_some, h3]
end Go.Ab
namespace Go.Proofs.Sw
open Go.Ab
variable [Globals]
def encD (l : List Nat) : List IV := l.map fun (d : Nat) => .int .u32 (d : Int)
abbrev sD (l : List Nat) (nl : Bool) (cap : Option Nat) : AV := .c (.slice (encD l) l.length nl cap)
abbrev rD (l : List Nat) : AObj := .row false 102 (encD l)
theorem encD_length (l : List Nat) : (encD l).length = l.length := by simp [encD]
theorem encD_get {l : List Nat} {i : Nat} (h : i < l.length) : (encD l)[i]? = some (.int .u32 (l.getD i 0 : Nat)) := by
  simp [encD, h]
theorem encD_append (a b : List Nat) : encD (a ++ b) = encD a ++ encD b := by simp [encD]
theorem encD_take (l : List Nat) (n : Nat) : (encD l).take n = encD (l.take n) := by simp [encD, List.map_take]
theorem encD_set {l : List Nat} {i : Nat} {d : Nat} : (encD l).set i (.int .u32 (d : Int)) = encD (l.set i d) := by simp [encD, List.map_set]
theorem okD_get {l : List Nat} (h : okD l) (i : Nat) : l.getD i 0 < 65536 := by
  by_cases hi : i < l.length
  · rw [List.getD_eq_getElem?_getD, List.getElem?_eq_getElem hi]
    exact h _ (List.getElem_mem hi)
  · rw [List.getD_eq_getElem?_getD, List.getElem?_eq_none (by omega)]; simp
theorem wrap32 {n : Int} (h0 : 0 ≤ n) (h : n < 4294967296) : IntKind.wrap .u32 n = n := by
  have e : IntKind.wrap .u32 n = n % 4294967296 := rfl
  rw [e]
  exact Int.emod_eq_of_lt h0 h
theorem wrapu64 {n : Int} (h0 : 0 ≤ n) (h : n < 18446744073709551616) : IntKind.wrap .u64 n = n := by
  have e : IntKind.wrap .u64 n = n % 18446744073709551616 := rfl
  rw [e]
  exact Int.emod_eq_of_lt h0 h
theorem wr32 {n : Nat} (h : n < 4294967296) : IntKind.wrap .u32 ((n : Nat) : Int) = ((n : Nat) : Int) := wrap32 (by omega) (by omega)
theorem wr64 {n : Nat} (h : n < 18446744073709551616) : IntKind.wrap .u64 ((n : Nat) : Int) = ((n : Nat) : Int) := wrapu64 (by omega) (by omega)
structure RI where
  v : Int
  nl : Bool
  cap : Option Nat
def sgn (neg : Bool) (n : Nat) : Int := if neg = true then -(n : Int) else n
theorem sgn_abs (neg : Bool) (n : Nat) : (sgn neg n).natAbs = n := by unfold sgn; split <;> omega
theorem strict_slice {a : List IV} {b : Nat} {c : Bool} {d : Option Nat} : IV.strict (.slice a b c d) = false := rfl
end Go.Proofs.Sw
namespace Go.Proofs.Sw.W
open Go.Ab
variable [Globals]
theorem sliceMD {a : List Nat} {nl : Bool} {n : Nat} (hn : n ≤ a.length) : sliceM 1 (encD a) a.length nl none (some (.c (.int .i64 (n : Int)))) (.c (.int .i64 (n : Int))) = some (sD (a.take n) nl (some n)) := by
  have h1 : (a.take n).length = n := by rw [List.length_take]; omega
  have hb : boundA 0 (some (.c (.int .i64 (n : Int)))) = some n := by simp [boundA]
  unfold sliceM
  rw [hb]
  simp only [Option.bind_some, boundA]
  rw [if_pos ⟨Nat.zero_le _, Nat.le_refl _, hn, rfl, .inl (by rw [encD_length, Nat.mul_one])⟩]
  simp only [Nat.zero_mul, List.drop_zero, Nat.sub_zero, Nat.mul_one]
  rw [encD_take, sD, h1]
theorem loop_trim (kf : Nat) (a : List Nat) (nl : Bool) (cap : Option Nat) (hl : a.length ≤ 1000000) (k : Nat) (l : Ass) (z : Option Out) (hz : loopR Try.prog tab kf none LB137_2 137 22 [0, 3] 0 k l ([]) = z) (hk : a.length - (trimD a).length < k) (a0 : asc l 0 = sD a nl cap) (a3 : asc l 3 = ii ((a.length - 0 : Nat) : Int)) :
    ∃ l', z = some (.exit 0 (fr 22 l') []) ∧ asc l' 0 = sD a nl cap ∧ asc l' 3 = ii (trimD a).length := by
  subst hz
  refine loop_nat (a.length - (trimD a).length) (fun k l H => loopR Try.prog tab kf none LB137_2 137 22 [0, 3] 0 k l H)
    (fun i l H => asc l 0 = sD a nl cap ∧ asc l 3 = ii ((a.length - i : Nat) : Int) ∧ ∃ G, H = ([]) ++ G)
    (fun z => ∃ l', z = some (.exit 0 (fr 22 l') []) ∧ asc l' 0 = sD a nl cap ∧ asc l' 3 = ii (trimD a).length) ?_ (a.length - (trimD a).length) 0 k l _ (by omega) hk ⟨a0, a3, [], by rw [List.append_nil]⟩
  clear hk a0 a3
  rintro i k l H hi ⟨a0, a3, G, rfl⟩
  have ht : trim 0 (fr 22 (keep l [0, 3])) (([]) ++ H) = ([]) := trim_app (by simp) (by simp only [a0, a3, EVb, EVc, Int.reduceEq, Int.reduceToNat, Int.reduceLE, Int.reduceLT, Int.reduceAdd, Int.reduceMul, Int.reduceSub, Int.reduceNeg, Nat.reduceAdd, Nat.reduceSub, Nat.reduceMul, Nat.reduceLT, Nat.reduceBEq, Nat.reduceEqDiff, Nat.reduceLeDiff]) (by simp only [EVb, EVc, Int.reduceEq, Int.reduceToNat, Int.reduceLE, Int.reduceLT, Int.reduceAdd, Int.reduceMul, Int.reduceSub, Int.reduceNeg, Nat.reduceAdd, Nat.reduceSub, Nat.reduceMul, Nat.reduceLT, Nat.reduceBEq, Nat.reduceEqDiff, Nat.reduceLeDiff])
  by_cases hc : i < (a.length - (trimD a).length)
  · have hc' : (i : Int) < ((a.length - (trimD a).length : Nat) : Int) := by omega
    have hc0 : (0 : Int) ≤ i := by omega
    have hw : IntKind.wrap .i64 ((i : Int) + 1) = ((i + 1 : Nat) : Int) := by rw [wrap64 (by omega) (by omega)]; omega
    have htl := trim_len a
    obtain ⟨j, hj⟩ : ∃ j, a.length - i = j + 1 := ⟨a.length - i - 1, by omega⟩
    have e1 : a.length - (i + 1) = j := by omega
    have hz := trim_zero (l := a) (i := j) (by omega) (by omega)
    have hx := encD_get (l := a) (i := j) (by omega)
    rw [hz] at hx
    rw [hj] at a3
    rw [e1]
    have hp1 : (0 : Int) < ((j + 1 : Nat) : Int) := by omega
    have hw1 : IntKind.wrap .i64 (((j + 1 : Nat) : Int) - 1) = (j : Int) := by rw [wrap64 (by omega) (by omega)]; omega
    have hj0 : (0 : Int) ≤ j := by omega
    have hj1 : (j : Int) < a.length := by omega
    simp only [loopR_succ, ht]
    simp only [a0, a3, hc', hc0, hw, hx, hp1, hw1, hj0, hj1, loopR_succ, loopOf, findLoop, firstRegion, Option.some_or, Option.none_or, Option.getD_some, Option.some.injEq, Try.f137, FT, Int.reduceEq, Int.reduceToNat, Int.reduceLE, Int.reduceLT, Int.reduceAdd, Int.reduceMul, Int.reduceSub, Int.reduceNeg, Nat.reduceAdd, Nat.reduceSub, Nat.reduceMul, Nat.reduceLT, Nat.reduceBEq, Nat.reduceEqDiff, Nat.reduceLeDiff]
    exact .inr ⟨_, _, hc, rfl, (by rfl), (by rfl), ⟨[], by rfl⟩⟩
  · refine .inl ?_
    obtain rfl : i = (a.length - (trimD a).length) := by omega
    have hc' : ¬ ((((a.length - (trimD a).length) : Nat) : Int) < (((a.length - (trimD a).length) : Nat) : Int)) := by omega
    have htl := trim_len a
    have e1 : a.length - (a.length - (trimD a).length) = (trimD a).length := by omega
    rw [e1] at a3
    by_cases h0 : (trimD a).length = 0
    · rw [h0] at a3 ⊢
      simp only [loopR_succ, ht]
      simp only [a0, a3, loopR_succ, loopOf, findLoop, firstRegion, Option.some_or, Option.none_or, Option.getD_some, Option.some.injEq, Try.f137, FT, Int.reduceEq, Int.reduceToNat, Int.reduceLE, Int.reduceLT, Int.reduceAdd, Int.reduceMul, Int.reduceSub, Int.reduceNeg, Nat.reduceAdd, Nat.reduceSub, Nat.reduceMul, Nat.reduceLT, Nat.reduceBEq, Nat.reduceEqDiff, Nat.reduceLeDiff]
      exact ⟨_, rfl, (by rfl), (by rfl)⟩
    · obtain ⟨j, hj⟩ : ∃ j, (trimD a).length = j + 1 := ⟨(trimD a).length - 1, by omega⟩
      have hlast := trim_last (l := a) (fun e => h0 (by rw [e]; rfl))
      have hx := encD_get (l := a) (i := j) (by omega)
      have hg : a.getD j 0 = (trimD a).getD j 0 := by
        rw [trim_take a, List.getD_eq_getElem?_getD, List.getD_eq_getElem?_getD, List.getElem?_take, if_pos (by omega)]
      rw [hj, show j + 1 - 1 = j by omega, ← hg] at hlast
      obtain ⟨y, hy⟩ : ∃ y, y = a.getD j 0 := ⟨_, rfl⟩
      rw [← hy] at hlast hx
      have hne : ¬ (y : Int) = 0 := by omega
      rw [hj] at a3 ⊢
      have hp1 : (0 : Int) < ((j + 1 : Nat) : Int) := by omega
      have hw1 : IntKind.wrap .i64 (((j + 1 : Nat) : Int) - 1) = (j : Int) := by rw [wrap64 (by omega) (by omega)]; omega
      have hj0 : (0 : Int) ≤ j := by omega
      have hj1 : (j : Int) < a.length := by omega
      simp only [loopR_succ, ht]
      simp only [a0, a3, hx, hp1, hw1, hj0, hj1, hne, loopR_succ, loopOf, findLoop, firstRegion, Option.some_or, Option.none_or, Option.getD_some, Option.some.injEq, Try.f137, FT, Int.reduceEq, Int.reduceToNat, Int.reduceLE, Int.reduceLT, Int.reduceAdd, Int.reduceMul, Int.reduceSub, Int.reduceNeg, Nat.reduceAdd, Nat.reduceSub, Nat.reduceMul, Nat.reduceLT, Nat.reduceBEq, Nat.reduceEqDiff, Nat.reduceLeDiff]
      exact ⟨_, rfl, (by rfl), (by rfl)⟩
theorem trim_ev (k : Nat) (a : List Nat) (nl : Bool) (cap : Option Nat) (hl : a.length ≤ 1000000) (hk : a.length < k) : run (k+1) 137 [sD a nl cap] = some (sD (trimD a) nl (some (trimD a).length)) := by
  have htl := trim_len a
  have htk := trim_take a
  have h0 : (0 : Int) ≤ (trimD a).length := by omega
  rw [run, ev137, ans_trim]
  simp only [Try.f137, ii, FT, Int.reduceEq, Int.reduceToNat, Int.reduceLE, Int.reduceLT, Int.reduceAdd, Int.reduceMul, Int.reduceSub, Int.reduceNeg, Nat.reduceAdd, Nat.reduceSub, Nat.reduceMul, Nat.reduceLT, Nat.reduceBEq, Nat.reduceEqDiff, Nat.reduceLeDiff]
  rw [evalCode_loopB LB137_2 lp137_2]; rotate_left; rfl; rfl; rfl
  generalize hz : loopR _ _ _ _ _ _ _ _ _ _ _ _ = z
  obtain ⟨l', rfl, e0, e3⟩ := loop_trim k a nl cap hl _ _ z hz (by omega) (by rfl) (by rfl)
  clear hz
  have hsl := sliceMD (a := a) (nl := nl) htl
  rw [← htk] at hsl
  simp only [e0, e3, ii, hsl, FT, Int.reduceEq, Int.reduceToNat, Int.reduceLE, Int.reduceLT, Int.reduceAdd, Int.reduceMul, Int.reduceSub, Int.reduceNeg, Nat.reduceAdd, Nat.reduceSub, Nat.reduceMul, Nat.reduceLT, Nat.reduceBEq, Nat.reduceEqDiff, Nat.reduceLeDiff]
theorem trim_call {k f r i id : Nat} {a : List Nat} {H : Heap} (h : H[id]? = some (rD a)) (hl : a.length ≤ 1000000) (hk : a.length < k) (hkp : keepB tab.keeps f r i = false := by rfl) :
    ∃ H2, doCallS (cxG Try.prog (mkHints tab) (k+1) f none) r i 137 [.hsl id 0 a.length a.length 1] H = some (sD (trimD a) false (some (trimD a).length), H2) ∧ H2.length = H.length ∧ ∀ j, j ≠ id → H2[j]? = H[j]? := by
  have hz : frzTup H [.hsl id 0 a.length a.length 1] = some ([sD a false none], H.set id (.row true 102 (encD a))) := by
    have hr : rowOf H id a.length = some (102, encD a) := rowOf_eq h (encD_length a)
    rw [frzTup, frzV_hsl, frz_hsl, hr]
    simp only [Option.bind_some, Nat.zero_add, Nat.mul_one, Nat.le_refl, if_true, List.drop_zero, Option.map_some, frzTup]
    rw [List.take_of_length_le (by rw [encD_length]; exact Nat.le_refl _)]
  have hv := trim_ev k a false none hl hk
  rcases doCallS_or (P := Try.prog) (tab := tab) (kf := k + 1) (f := f) (r := r) (i := i) (ar := none) (g := 137) (by rfl) hkp (by rfl) hz hv with e | e
  · exact ⟨_, e, rfl, fun _ _ => rfl⟩
  · exact ⟨_, e, by simp, fun j hj => by rw [List.getElem?_set_ne (fun h => hj h.symm)]⟩
theorem loop_cmp (kf : Nat) (a b : List Nat) (nl nl2 : Bool) (cap cap2 : Option Nat) (ha : okD a) (hb : okD b) (hlab : b.length = a.length) (hla : a.length ≤ 100000) (k : Nat) (l : Ass) (z : Option Out) (hz : loopR Try.prog tab kf none LB122_7 122 49 [0, 1, 5] 0 k l ([]) = z) (hk : a.length < k) (a0 : asc l 0 = sD a nl cap) (a1 : asc l 1 = sD b nl2 cap2) (a5 : asc l 5 = ii ((a.length : Int) - 1 - 0)) :
    ∃ l', (z = some (.exit 1 (fr 49 l') []) ∧ a = b) ∨ (z = some (.ret (fr 49 l') []) ∧ asc l' 4 = ii (cmpN (vd a) (vd b))) := by
  subst hz
  refine loop_nat a.length (fun k l H => loopR Try.prog tab kf none LB122_7 122 49 [0, 1, 5] 0 k l H)
    (fun i l H => asc l 0 = sD a nl cap ∧ asc l 1 = sD b nl2 cap2 ∧ asc l 5 = ii ((a.length : Int) - 1 - i) ∧ (a.drop (a.length - i) = b.drop (a.length - i)) ∧ ∃ G, H = ([]) ++ G)
    (fun z => ∃ l', (z = some (.exit 1 (fr 49 l') []) ∧ a = b) ∨ (z = some (.ret (fr 49 l') []) ∧ asc l' 4 = ii (cmpN (vd a) (vd b)))) ?_ a.length 0 k l _ (by omega) hk ⟨a0, a1, a5, by simp [hlab], [], by rw [List.append_nil]⟩
  clear hk a0 a1 a5
  rintro i k l H hi ⟨a0, a1, a5, hp, G, rfl⟩
  have ht : trim 0 (fr 49 (keep l [0, 1, 5])) (([]) ++ H) = ([]) := trim_app (by simp) (by simp only [a0, a1, a5, EVb, EVc, Int.reduceEq, Int.reduceToNat, Int.reduceLE, Int.reduceLT, Int.reduceAdd, Int.reduceMul, Int.reduceSub, Int.reduceNeg, Nat.reduceAdd, Nat.reduceSub, Nat.reduceMul, Nat.reduceLT, Nat.reduceBEq, Nat.reduceEqDiff, Nat.reduceLeDiff]) (by simp only [EVb, EVc, Int.reduceEq, Int.reduceToNat, Int.reduceLE, Int.reduceLT, Int.reduceAdd, Int.reduceMul, Int.reduceSub, Int.reduceNeg, Nat.reduceAdd, Nat.reduceSub, Nat.reduceMul, Nat.reduceLT, Nat.reduceBEq, Nat.reduceEqDiff, Nat.reduceLeDiff])
  by_cases hc : i < a.length
  · have hc' : (i : Int) < ((a.length : Nat) : Int) := by omega
    have hc0 : (0 : Int) ≤ i := by omega
    have hw : IntKind.wrap .i64 ((i : Int) + 1) = ((i + 1 : Nat) : Int) := by rw [wrap64 (by omega) (by omega)]; omega
    obtain ⟨j, hj⟩ : ∃ j, a.length = j + 1 + i := ⟨a.length - 1 - i, by omega⟩
    have e1 : a.length - i = j + 1 := by omega
    have e2 : a.length - (i + 1) = j := by omega
    have e3 : (a.length : Int) - 1 - (i : Int) = (j : Int) := by omega
    have e4 : (a.length : Int) - 1 - ((i + 1 : Nat) : Int) = (j : Int) - 1 := by omega
    rw [e3] at a5
    rw [e1] at hp
    rw [e2, e4]
    have hj0 : (0 : Int) ≤ j := by omega
    have hj1 : (j : Int) < a.length := by omega
    have hj2 : (j : Int) < b.length := by omega
    have hx := encD_get (l := a) (i := j) (by omega)
    have hy := encD_get (l := b) (i := j) (by omega)
    have hw2 : IntKind.wrap .i64 ((j : Int) - 1) = (j : Int) - 1 := by rw [wrap64 (by omega) (by omega)]
    by_cases h1 : a.getD j 0 < b.getD j 0
    · have h1' : ((a.getD j 0 : Nat) : Int) < ((b.getD j 0 : Nat) : Int) := by omega
      have hv := vd_lt_at ha (show j < a.length by omega) (show j < b.length by omega) hp h1
      have hcm : cmpN (vd a) (vd b) = -1 := if_pos hv
      refine .inl ?_
      simp only [loopR_succ, ht]
      simp only [a0, a1, a5, hc', hc0, hw, hj0, loopR_succ, loopOf, findLoop, firstRegion, Option.some_or, Option.none_or, Option.getD_some, Option.some.injEq, Try.f122, FT, Int.reduceEq, Int.reduceToNat, Int.reduceLE, Int.reduceLT, Int.reduceAdd, Int.reduceMul, Int.reduceSub, Int.reduceNeg, Nat.reduceAdd, Nat.reduceSub, Nat.reduceMul, Nat.reduceLT, Nat.reduceBEq, Nat.reduceEqDiff, Nat.reduceLeDiff]
      rw [evalCode_drawn Try.f122 9 dr122_9]; rotate_left; rfl
      simp only [a0, a1, a5, hc', hc0, hw, hj0, hj1, hj2, hx, hy, h1', EVd, List.getElem?_nil, Nat.reducePow, Nat.reduceDiv, Nat.reduceMod, FT, Int.reduceEq, Int.reduceToNat, Int.reduceLE, Int.reduceLT, Int.reduceAdd, Int.reduceMul, Int.reduceSub, Int.reduceNeg, Nat.reduceAdd, Nat.reduceSub, Nat.reduceMul, Nat.reduceLT, Nat.reduceBEq, Nat.reduceEqDiff, Nat.reduceLeDiff]
      rw [hcm]
      exact ⟨_, .inr ⟨rfl, (by rfl)⟩⟩
    · have h1' : ¬ ((a.getD j 0 : Nat) : Int) < ((b.getD j 0 : Nat) : Int) := by omega
      by_cases h2 : b.getD j 0 < a.getD j 0
      · have h2' : ((b.getD j 0 : Nat) : Int) < ((a.getD j 0 : Nat) : Int) := by omega
        have hv := vd_lt_at hb (show j < b.length by omega) (show j < a.length by omega) hp.symm h2
        have hcm : cmpN (vd a) (vd b) = 1 := by unfold cmpN; rw [if_neg (by omega), if_pos hv]
        refine .inl ?_
        simp only [loopR_succ, ht]
        simp only [a0, a1, a5, hc', hc0, hw, hj0, loopR_succ, loopOf, findLoop, firstRegion, Option.some_or, Option.none_or, Option.getD_some, Option.some.injEq, Try.f122, FT, Int.reduceEq, Int.reduceToNat, Int.reduceLE, Int.reduceLT, Int.reduceAdd, Int.reduceMul, Int.reduceSub, Int.reduceNeg, Nat.reduceAdd, Nat.reduceSub, Nat.reduceMul, Nat.reduceLT, Nat.reduceBEq, Nat.reduceEqDiff, Nat.reduceLeDiff]
        rw [evalCode_drawn Try.f122 9 dr122_9]; rotate_left; rfl
        simp only [a0, a1, a5, hc', hc0, hw, hj0, hj1, hj2, hx, hy, h1', EVd, List.getElem?_nil, Nat.reducePow, Nat.reduceDiv, Nat.reduceMod, FT, Int.reduceEq, Int.reduceToNat, Int.reduceLE, Int.reduceLT, Int.reduceAdd, Int.reduceMul, Int.reduceSub, Int.reduceNeg, Nat.reduceAdd, Nat.reduceSub, Nat.reduceMul, Nat.reduceLT, Nat.reduceBEq, Nat.reduceEqDiff, Nat.reduceLeDiff]
        rw [evalCode_drawn Try.f122 11 dr122_11]; rotate_left; rfl
        simp only [a0, a1, a5, hc', hc0, hw, hj0, hj1, hj2, hx, hy, h2', EVd, List.getElem?_nil, Nat.reducePow, Nat.reduceDiv, Nat.reduceMod, FT, Int.reduceEq, Int.reduceToNat, Int.reduceLE, Int.reduceLT, Int.reduceAdd, Int.reduceMul, Int.reduceSub, Int.reduceNeg, Nat.reduceAdd, Nat.reduceSub, Nat.reduceMul, Nat.reduceLT, Nat.reduceBEq, Nat.reduceEqDiff, Nat.reduceLeDiff]
        rw [hcm]
        exact ⟨_, .inr ⟨rfl, (by rfl)⟩⟩
      · have h2' : ¬ ((b.getD j 0 : Nat) : Int) < ((a.getD j 0 : Nat) : Int) := by omega
        have hp2 : a.drop j = b.drop j := by
          rw [List.drop_eq_getElem_cons (show j < a.length by omega), List.drop_eq_getElem_cons (show j < b.length by omega), hp]
          have e5 : a.getD j 0 = a[j] := by rw [List.getD_eq_getElem?_getD, List.getElem?_eq_getElem (show j < a.length by omega)]; rfl
          have e6 : b.getD j 0 = b[j] := by rw [List.getD_eq_getElem?_getD, List.getElem?_eq_getElem (show j < b.length by omega)]; rfl
          congr 1
          omega
        simp only [loopR_succ, ht]
        simp only [a0, a1, a5, hc', hc0, hw, hj0, loopR_succ, loopOf, findLoop, firstRegion, Option.some_or, Option.none_or, Option.getD_some, Option.some.injEq, Try.f122, FT, Int.reduceEq, Int.reduceToNat, Int.reduceLE, Int.reduceLT, Int.reduceAdd, Int.reduceMul, Int.reduceSub, Int.reduceNeg, Nat.reduceAdd, Nat.reduceSub, Nat.reduceMul, Nat.reduceLT, Nat.reduceBEq, Nat.reduceEqDiff, Nat.reduceLeDiff]
        rw [evalCode_drawn Try.f122 9 dr122_9]; rotate_left; rfl
        simp only [a0, a1, a5, hc', hc0, hw, hj0, hj1, hj2, hx, hy, h1', EVd, List.getElem?_nil, Nat.reducePow, Nat.reduceDiv, Nat.reduceMod, FT, Int.reduceEq, Int.reduceToNat, Int.reduceLE, Int.reduceLT, Int.reduceAdd, Int.reduceMul, Int.reduceSub, Int.reduceNeg, Nat.reduceAdd, Nat.reduceSub, Nat.reduceMul, Nat.reduceLT, Nat.reduceBEq, Nat.reduceEqDiff, Nat.reduceLeDiff]
        rw [evalCode_drawn Try.f122 11 dr122_11]; rotate_left; rfl
        simp only [a0, a1, a5, hc', hc0, hw, hj0, hj1, hj2, hx, hy, h2', hw2, EVd, List.getElem?_nil, Nat.reducePow, Nat.reduceDiv, Nat.reduceMod, FT, Int.reduceEq, Int.reduceToNat, Int.reduceLE, Int.reduceLT, Int.reduceAdd, Int.reduceMul, Int.reduceSub, Int.reduceNeg, Nat.reduceAdd, Nat.reduceSub, Nat.reduceMul, Nat.reduceLT, Nat.reduceBEq, Nat.reduceEqDiff, Nat.reduceLeDiff]
        exact .inr ⟨_, _, hc, rfl, (by rfl), (by rfl), (by rfl), hp2, ⟨_, by rfl⟩⟩
  · refine .inl ?_
    obtain rfl : i = a.length := by omega
    have hc' : ¬ (((a.length : Nat) : Int) < ((a.length : Nat) : Int)) := by omega
    have hlt : ¬ ((0 : Int) ≤ (a.length : Int) - 1 - a.length) := by omega
    rw [Nat.sub_self, List.drop_zero, List.drop_zero] at hp
    simp only [loopR_succ, ht]
    simp only [a0, a1, a5, hlt, loopR_succ, loopOf, findLoop, firstRegion, Option.some_or, Option.none_or, Option.getD_some, Option.some.injEq, Try.f122, FT, Int.reduceEq, Int.reduceToNat, Int.reduceLE, Int.reduceLT, Int.reduceAdd, Int.reduceMul, Int.reduceSub, Int.reduceNeg, Nat.reduceAdd, Nat.reduceSub, Nat.reduceMul, Nat.reduceLT, Nat.reduceBEq, Nat.reduceEqDiff, Nat.reduceLeDiff]
    exact ⟨_, .inl ⟨rfl, hp⟩⟩
theorem cmp_can (k : Nat) (a b : List Nat) (nl nl2 : Bool) (cap cap2 : Option Nat) (ha : okD a) (hb : okD b) (hla : a.length ≤ 100000) (hlb : b.length ≤ 100000) (hk : a.length < k ∧ b.length < k) : run (k+2) 122 [sD a nl cap, sD b nl2 cap2] = some (ii (cmpN (vd a) (vd b))) := by
  have h1 := trim_ev k a nl cap (by omega) (by omega)
  have h2 := trim_ev k b nl2 cap2 (by omega) (by omega)
  have hva := vd_trim a
  have hvb := vd_trim b
  have hca := can_trim ha
  have hcb := can_trim hb
  have hta := trim_len a
  have htb := trim_len b
  obtain ⟨A, hA⟩ : ∃ A, A = trimD a := ⟨_, rfl⟩
  obtain ⟨B, hB⟩ : ∃ B, B = trimD b := ⟨_, rfl⟩
  rw [← hA] at h1 hva hca hta
  rw [← hB] at h2 hvb hcb htb
  rw [← hva, ← hvb]
  simp only [run] at h1 h2
  rw [run, ev122, ans_trim]
  by_cases hlt : A.length < B.length
  · have hlt' : (A.length : Int) < B.length := by omega
    have hcm : cmpN (vd A) (vd B) = -1 := if_pos (can_len hca.ok hcb hlt)
    rw [hcm]
    simp only [Try.f122, ii, h1, h2, hlt', FT, Int.reduceEq, Int.reduceToNat, Int.reduceLE, Int.reduceLT, Int.reduceAdd, Int.reduceMul, Int.reduceSub, Int.reduceNeg, Nat.reduceAdd, Nat.reduceSub, Nat.reduceMul, Nat.reduceLT, Nat.reduceBEq, Nat.reduceEqDiff, Nat.reduceLeDiff]
  · have hlt' : ¬ (A.length : Int) < B.length := by omega
    by_cases hgt : B.length < A.length
    · have hgt' : (B.length : Int) < A.length := by omega
      have hcm : cmpN (vd A) (vd B) = 1 := by
        have := can_len hcb.ok hca hgt
        unfold cmpN
        rw [if_neg (by omega), if_pos this]
      rw [hcm]
      simp only [Try.f122, ii, h1, h2, hlt', hgt', FT, Int.reduceEq, Int.reduceToNat, Int.reduceLE, Int.reduceLT, Int.reduceAdd, Int.reduceMul, Int.reduceSub, Int.reduceNeg, Nat.reduceAdd, Nat.reduceSub, Nat.reduceMul, Nat.reduceLT, Nat.reduceBEq, Nat.reduceEqDiff, Nat.reduceLeDiff]
    · have hgt' : ¬ (B.length : Int) < A.length := by omega
      have hw1 : IntKind.wrap .i64 ((A.length : Int) - 1) = (A.length : Int) - 1 := by rw [wrap64 (by omega) (by omega)]
      simp only [Try.f122, ii, h1, h2, hlt', hgt', hw1, FT, Int.reduceEq, Int.reduceToNat, Int.reduceLE, Int.reduceLT, Int.reduceAdd, Int.reduceMul, Int.reduceSub, Int.reduceNeg, Nat.reduceAdd, Nat.reduceSub, Nat.reduceMul, Nat.reduceLT, Nat.reduceBEq, Nat.reduceEqDiff, Nat.reduceLeDiff]
      rw [evalCode_loopB LB122_7 lp122_7]; rotate_left; rfl; rfl; rfl
      generalize hz : loopR _ _ _ _ _ _ _ _ _ _ _ _ = z
      obtain ⟨l', ⟨rfl, he⟩ | ⟨rfl, he⟩⟩ := loop_cmp (k + 1) A B nl nl2 (some A.length) (some B.length) hca.ok hcb.ok (by omega) (by omega) _ _ z hz (by omega) (by rfl) (by rfl) (by rw [show (A.length : Int) - 1 - 0 = (A.length : Int) - 1 by omega]; rfl)
      · clear hz
        have hcm : cmpN (vd A) (vd B) = 0 := by
          rw [he]
          unfold cmpN
          rw [if_neg (by omega), if_neg (by omega)]
        rw [hcm]
        simp only [FT, Int.reduceEq, Int.reduceToNat, Int.reduceLE, Int.reduceLT, Int.reduceAdd, Int.reduceMul, Int.reduceSub, Int.reduceNeg, Nat.reduceAdd, Nat.reduceSub, Nat.reduceMul, Nat.reduceLT, Nat.reduceBEq, Nat.reduceEqDiff, Nat.reduceLeDiff]
      · clear hz
        simp only [he, FT, Int.reduceEq, Int.reduceToNat, Int.reduceLE, Int.reduceLT, Int.reduceAdd, Int.reduceMul, Int.reduceSub, Int.reduceNeg, Nat.reduceAdd, Nat.reduceSub, Nat.reduceMul, Nat.reduceLT, Nat.reduceBEq, Nat.reduceEqDiff, Nat.reduceLeDiff]
end Go.Proofs.Sw.W
namespace Go.Proofs.Sw.W
open Go.Ab
variable [Globals]
theorem wrap32m (n : Nat) : IntKind.wrap .u32 (n : Int) = ((n % 4294967296 : Nat) : Int) := by
  have e : IntKind.wrap .u32 (n : Int) = (n : Int) % 4294967296 := rfl
  rw [e]; omega
theorem of64 {n : Nat} (h : n < 18446744073709551616) : (BitVec.ofInt 64 (n : Int)).toNat = n := by
  rw [BitVec.ofInt_natCast, BitVec.toNat_ofNat]
  exact Nat.mod_eq_of_lt h
theorem of32 {n : Nat} (h : n < 4294967296) : (BitVec.ofInt 32 (n : Int)).toNat = n := by
  rw [BitVec.ofInt_natCast, BitVec.toNat_ofNat]
  exact Nat.mod_eq_of_lt h
theorem shr64 {H : Heap} {t : TypeId} {a : Nat} : binA Try.prog H .shr t (.c (.int .u64 (a : Int))) (.c (.int .u64 32)) = some (.c (.int .u64 ((a / 4294967296 : Nat) : Int))) := by
  have e : binA Try.prog H .shr t (.c (.int .u64 (a : Int))) (.c (.int .u64 32)) = some (.c (.int .u64 ((a : Int).fdiv 4294967296))) := rfl
  rw [e, Int.fdiv_eq_ediv_of_nonneg _ (by omega)]
  rfl
theorem shl64 {H : Heap} {t : TypeId} {a : Nat} (h : a < 4294967296) : binA Try.prog H .shl t (.c (.int .u64 (a : Int))) (.c (.int .u64 32)) = some (.c (.int .u64 ((a * 4294967296 : Nat) : Int))) := by
  have e : binA Try.prog H .shl t (.c (.int .u64 (a : Int))) (.c (.int .u64 32)) = some (.c (.int .u64 (IntKind.wrap .u64 ((a : Int) * 4294967296)))) := rfl
  rw [e, show (a : Int) * 4294967296 = ((a * 4294967296 : Nat) : Int) by omega, wr64 (by omega)]
theorem shlN {H : Heap} {t : TypeId} {a n : Nat} (h : a < 4294967296) (hn : n < 32) : binA Try.prog H .shl t (.c (.int .u64 (a : Int))) (.c (.int .i64 (n : Int))) = some (.c (.int .u64 ((a * 2 ^ n : Nat) : Int))) := by
  have e : binA Try.prog H .shl t (.c (.int .u64 (a : Int))) (.c (.int .i64 (n : Int))) = if 0 ≤ (n : Int) then some (.c (.int .u64 (IntKind.wrap .u64 (a * 2 ^ (min (n : Int).toNat 64))))) else none := rfl
  have hp : 2 ^ n < 4294967296 := Nat.lt_of_lt_of_le (Nat.pow_lt_pow_right (by omega) hn) (by decide)
  have hm : a * 2 ^ n < 18446744073709551616 := Nat.lt_of_lt_of_le (Nat.mul_lt_mul'' h hp) (by decide)
  rw [e, if_pos (by omega), Int.toNat_natCast, Nat.min_eq_left (by omega)]
  rw [show (a : Int) * (2 : Int) ^ n = ((a * 2 ^ n : Nat) : Int) by simp, wr64 hm]
theorem shrN {H : Heap} {t : TypeId} {a n : Nat} (hn : n < 32) : binA Try.prog H .shr t (.c (.int .u64 (a : Int))) (.c (.int .i64 (n : Int))) = some (.c (.int .u64 ((a / 2 ^ n : Nat) : Int))) := by
  have e : binA Try.prog H .shr t (.c (.int .u64 (a : Int))) (.c (.int .i64 (n : Int))) = if 0 ≤ (n : Int) then some (.c (.int .u64 ((a : Int).fdiv (2 ^ (min (n : Int).toNat 64))))) else none := rfl
  rw [e, if_pos (by omega), Int.toNat_natCast, Nat.min_eq_left (by omega)]
  rw [show (2 : Int) ^ n = ((2 ^ n : Nat) : Int) by simp, Int.fdiv_eq_ediv_of_nonneg _ (Int.natCast_nonneg _)]
  rfl
theorem or64 {H : Heap} {t : TypeId} {a b : Nat} (ha : a < 4294967296) (hb : b < 4294967296) : binA Try.prog H .or t (.c (.int .u64 ((a * 4294967296 : Nat) : Int))) (.c (.int .u64 (b : Int))) = some (.c (.int .u64 ((a * 4294967296 + b : Nat) : Int))) := by
  have e : binA Try.prog H .or t (.c (.int .u64 ((a * 4294967296 : Nat) : Int))) (.c (.int .u64 (b : Int))) = some (.c (.int .u64 (IntKind.wrap .u64 ((BitVec.ofInt 64 ((a * 4294967296 : Nat) : Int) ||| BitVec.ofInt 64 (b : Int)).toNat : Nat)))) := rfl
  have h := Nat.two_pow_add_eq_or_of_lt (i := 32) (b := b) (by omega) a
  rw [e, BitVec.toNat_or, of64 (by omega), of64 (by omega), Nat.mul_comm a, show (4294967296 : Nat) = 2 ^ 32 from rfl, ← h, wr64 (by omega)]
theorem or64' {H : Heap} {t : TypeId} {a b : Nat} (ha : a < 4294967296) (hb : b < 4294967296) : binA Try.prog H .or t (.c (.int .u64 (b : Int))) (.c (.int .u64 ((a * 4294967296 : Nat) : Int))) = some (.c (.int .u64 ((a * 4294967296 + b : Nat) : Int))) := by
  have e : binA Try.prog H .or t (.c (.int .u64 (b : Int))) (.c (.int .u64 ((a * 4294967296 : Nat) : Int))) = some (.c (.int .u64 (IntKind.wrap .u64 ((BitVec.ofInt 64 (b : Int) ||| BitVec.ofInt 64 ((a * 4294967296 : Nat) : Int)).toNat : Nat)))) := rfl
  have h := Nat.two_pow_add_eq_or_of_lt (i := 32) (b := b) (by omega) a
  rw [e, BitVec.toNat_or, of64 (by omega), of64 (by omega), Nat.or_comm, Nat.mul_comm a, show (4294967296 : Nat) = 2 ^ 32 from rfl, ← h, wr64 (by omega)]
theorem and64m {H : Heap} {t : TypeId} {a : Nat} (ha : a < 18446744073709551616) : binA Try.prog H .and t (.c (.int .u64 (a : Int))) (.c (.int .u64 4294967295)) = some (.c (.int .u64 ((a % 4294967296 : Nat) : Int))) := by
  have e : binA Try.prog H .and t (.c (.int .u64 (a : Int))) (.c (.int .u64 4294967295)) = some (.c (.int .u64 (IntKind.wrap .u64 ((BitVec.ofInt 64 (a : Int) &&& BitVec.ofInt 64 ((4294967295 : Nat) : Int)).toNat : Nat)))) := rfl
  have h := Nat.and_two_pow_sub_one_eq_mod a 32
  rw [e, BitVec.toNat_and, of64 ha, of64 (by omega), show (4294967295 : Nat) = 2 ^ 32 - 1 from rfl, h, wr64 (by omega)]
theorem and64o {H : Heap} {t : TypeId} {a : Nat} (ha : a < 18446744073709551616) : binA Try.prog H .and t (.c (.int .u64 (a : Int))) (.c (.int .u64 1)) = some (.c (.int .u64 ((a % 2 : Nat) : Int))) := by
  have e : binA Try.prog H .and t (.c (.int .u64 (a : Int))) (.c (.int .u64 1)) = some (.c (.int .u64 (IntKind.wrap .u64 ((BitVec.ofInt 64 (a : Int) &&& BitVec.ofInt 64 ((1 : Nat) : Int)).toNat : Nat)))) := rfl
  have h := Nat.and_two_pow_sub_one_eq_mod a 1
  rw [e, BitVec.toNat_and, of64 ha, of64 (by omega), show (1 : Nat) = 2 ^ 1 - 1 from rfl, h, wr64 (by omega)]
theorem encD_rep0 (L : Nat) : (List.replicate L [IV.int .u32 0]).flatten = encD (List.replicate L 0) := by simp [encD]
theorem cpD {d s : List Nat} {X : Heap} {n : Nat} (hd : d.length = n) (hs : s.length = n) : cpO 1 (.hsl 0 0 n n 1) (rD d :: X) (some (encD s, n)) = some (n, rD s :: X) := by
  have hr : rowOf (rD d :: X) 0 n = some (102, encD d) := rowOf_eq (fz := false) rfl (by rw [encD_length, hd])
  unfold cpO
  simp only [Option.bind_some, hr]
  rw [if_pos ⟨by omega, trivial, rfl⟩]
  have h1 : (encD s).take n = encD s := List.take_of_length_le (by rw [encD_length]; omega)
  have h2 : (encD d).drop n = [] := List.drop_eq_nil_of_le (by rw [encD_length]; omega)
  simp [h1, h2]
theorem norm_ev (k : Nat) (a : List Nat) (nl : Bool) (cap : Option Nat) (hl : a.length ≤ 1000000) (hk : a.length < k) : ∃ nl3 cap3, run (k+2) 136 [sD a nl cap] = some (sD (trimD a) nl3 cap3) := by
  have h1 := trim_ev k a nl cap hl hk
  have hta := trim_len a
  obtain ⟨A, hA⟩ : ∃ A, A = trimD a := ⟨_, rfl⟩
  rw [← hA] at h1 hta ⊢
  have q1 : (0 : Int) ≤ A.length := by omega
  have q2 : A.length * 4 ≤ roomBytes := Nat.le_trans (show A.length * 4 ≤ 4000000 by omega) (by decide)
  have q3 : A.length ≤ roomBytes := Nat.le_trans (show A.length ≤ 1000000 by omega) (by decide)
  have hel := encD_length A
  have hel0 := encD_length (List.replicate A.length 0)
  rw [List.length_replicate] at hel0
  simp only [run] at h1
  rw [run, ev136, ans_trim]
  simp only [Try.f136, h1, q1, q2, q3, encD_rep0, hel, hel0, FT, Int.reduceEq, Int.reduceToNat, Int.reduceLE, Int.reduceLT, Int.reduceAdd, Int.reduceMul, Int.reduceSub, Int.reduceNeg, Nat.reduceAdd, Nat.reduceSub, Nat.reduceMul, Nat.reduceLT, Nat.reduceBEq, Nat.reduceEqDiff, Nat.reduceLeDiff]
  rw [cpD (List.length_replicate ..) rfl]
  have htk : (encD A).take A.length = encD A := List.take_of_length_le (by rw [hel]; exact Nat.le_refl _)
  simp only [hel, htk, Nat.le_refl, FT, Int.reduceEq, Int.reduceToNat, Int.reduceLE, Int.reduceLT, Int.reduceAdd, Int.reduceMul, Int.reduceSub, Int.reduceNeg, Nat.reduceAdd, Nat.reduceSub, Nat.reduceMul, Nat.reduceLT, Nat.reduceBEq, Nat.reduceEqDiff, Nat.reduceLeDiff]
  exact ⟨_, _, rfl⟩
end Go.Proofs.Sw.W
namespace Go.Proofs.Sw.W
open Go.Ab
theorem take_set (l : List Nat) (i v : Nat) : (l.set i v).take i = l.take i := by
  apply List.ext_getElem?
  intro j
  rw [List.getElem?_take, List.getElem?_take]
  by_cases h : j < i
  · rw [if_pos h, if_pos h, List.getElem?_set, if_neg (by omega)]
  · rw [if_neg h, if_neg h]
theorem getD_set_self {l : List Nat} {i v : Nat} (h : i < l.length) : (l.set i v).getD i 0 = v := by
  rw [List.getD_eq_getElem?_getD, List.getElem?_set_self h]; rfl
theorem getD_set_ne {l : List Nat} {i j v : Nat} (h : i ≠ j) : (l.set i v).getD j 0 = l.getD j 0 := by
  rw [List.getD_eq_getElem?_getD, List.getElem?_set, if_neg h, ← List.getD_eq_getElem?_getD]
theorem vd_put {l : List Nat} {i v : Nat} (h : i < l.length) : vd ((l.set i v).take (i + 1)) = vd (l.take i) + 4294967296 ^ i * v := by
  rw [vd_take, take_set, getD_set_self h]
structure AdI (a b O : List Nat) (L c i : Nat) : Prop where
  len : O.length = L
  ok : okD O
  c1 : c ≤ 1
  vl : vd (O.take i) + 4294967296 ^ i * c = vd (a.take i) + vd (b.take i)
theorem AdI.step {a b O : List Nat} {L c i : Nat} (h : AdI a b O L c i) (ha : okD a) (hb : okD b) (hi : i < L) : AdI a b (O.set i ((c + a.getD i 0 + b.getD i 0) % 4294967296)) L ((c + a.getD i 0 + b.getD i 0) / 4294967296) (i + 1) := by
  have h1 := okD_get ha i
  have h2 := okD_get hb i
  have h3 := h.c1
  refine ⟨by rw [List.length_set]; exact h.len, okD_set h.ok (by omega), by omega, ?_⟩
  have hv := h.vl
  rw [vd_put (by rw [h.len]; exact hi), vd_take, vd_take]
  obtain ⟨s, hs⟩ : ∃ s, s = c + a.getD i 0 + b.getD i 0 := ⟨_, rfl⟩
  rw [← hs]
  have e1 : 4294967296 ^ (i + 1) * (s / 4294967296) = 4294967296 ^ i * (4294967296 * (s / 4294967296)) := by rw [Nat.pow_succ, Nat.mul_assoc]
  have e2 : 4294967296 ^ i * (s % 4294967296) + 4294967296 ^ i * (4294967296 * (s / 4294967296)) = 4294967296 ^ i * s := by rw [← Nat.mul_add]; congr 1; omega
  have e3 : 4294967296 ^ i * s = 4294967296 ^ i * c + 4294967296 ^ i * a.getD i 0 + 4294967296 ^ i * b.getD i 0 := by rw [hs, Nat.mul_add, Nat.mul_add]
  omega
structure SuI (a b O : List Nat) (L c i : Nat) : Prop where
  len : O.length = L
  ok : okD O
  c1 : c ≤ 1
  vl : vd (O.take i) + vd (b.take i) = vd (a.take i) + 4294967296 ^ i * c
def suD (x y : Nat) : Nat := if x < y then x + 4294967296 - y else x - y
theorem SuI.step {a b O : List Nat} {L c i : Nat} (h : SuI a b O L c i) (ha : okD a) (hb : okD b) (hi : i < L) : SuI a b (O.set i (suD (a.getD i 0) (c + b.getD i 0))) L (if a.getD i 0 < c + b.getD i 0 then 1 else 0) (i + 1) := by
  have h1 := okD_get ha i
  have h2 := okD_get hb i
  have h3 := h.c1
  obtain ⟨x, hx⟩ : ∃ x, x = a.getD i 0 := ⟨_, rfl⟩
  obtain ⟨y, hy⟩ : ∃ y, y = b.getD i 0 := ⟨_, rfl⟩
  rw [← hx] at h1 ⊢
  rw [← hy] at h2 ⊢
  have hlt : suD x (c + y) < 4294967296 := by unfold suD; split <;> omega
  refine ⟨by rw [List.length_set]; exact h.len, okD_set h.ok hlt, by split <;> omega, ?_⟩
  have hv := h.vl
  rw [vd_put (by rw [h.len]; exact hi), vd_take, vd_take, ← hx, ← hy]
  have e0 : suD x (c + y) + (c + y) = x + 4294967296 * (if x < c + y then 1 else 0) := by unfold suD; split <;> omega
  have e1 : 4294967296 ^ (i + 1) * (if x < c + y then 1 else 0) = 4294967296 ^ i * (4294967296 * (if x < c + y then 1 else 0)) := by rw [Nat.pow_succ, Nat.mul_assoc]
  have e2 := congrArg (4294967296 ^ i * ·) e0
  simp only [Nat.mul_add] at e2
  rw [e1]
  omega
section
variable [Globals]
theorem loop_add (kf : Nat) (a b : List Nat) (nl nl2 : Bool) (cap cap2 : Option Nat) (ha : okD a) (hb : okD b) (L : Nat) (hL : L = a.length + 1) (hla : a.length ≤ 100000) (O0 : List Nat) (c0 : Nat) (h0 : AdI a b O0 L c0 0) (k : Nat) (l : Ass) (z : Option Out) (hz : loopR Try.prog tab kf none LB131_6 131 58 [0, 1, 5, 6, 20, 21, 22] 1 k l ([rD O0]) = z) (hk : a.length < k) (a0 : asc l 0 = sD a nl cap) (a1 : asc l 1 = sD b nl2 cap2) (a5 : asc l 5 = .hsl 0 0 L L 1) (a6 : asc l 6 = .c (.int .u64 (c0 : Int))) (a20 : asc l 20 = sD a nl cap) (a21 : asc l 21 = ii a.length) (a22 : asc l 22 = ii 0) :
    ∃ l' O cy, z = some (.exit 0 (fr 58 l') [rD O]) ∧ asc l' 0 = sD a nl cap ∧ asc l' 5 = .hsl 0 0 L L 1 ∧ asc l' 6 = .c (.int .u64 ((cy : Nat) : Int)) ∧ AdI a b O L cy a.length := by
  subst hz
  refine loop_nat a.length (fun k l H => loopR Try.prog tab kf none LB131_6 131 58 [0, 1, 5, 6, 20, 21, 22] 1 k l H)
    (fun i l H => ∃ (O : List Nat), ∃ (cy : Nat), asc l 0 = sD a nl cap ∧ asc l 1 = sD b nl2 cap2 ∧ asc l 5 = .hsl 0 0 L L 1 ∧ asc l 6 = .c (.int .u64 (cy : Int)) ∧ asc l 20 = sD a nl cap ∧ asc l 21 = ii a.length ∧ asc l 22 = ii i ∧ (AdI a b O L cy i) ∧ H = ([rD O]))
    (fun z => ∃ l' O cy, z = some (.exit 0 (fr 58 l') [rD O]) ∧ asc l' 0 = sD a nl cap ∧ asc l' 5 = .hsl 0 0 L L 1 ∧ asc l' 6 = .c (.int .u64 ((cy : Nat) : Int)) ∧ AdI a b O L cy a.length) ?_ a.length 0 k l _ (by omega) hk ⟨O0, c0, a0, a1, a5, a6, a20, a21, a22, h0, rfl⟩
  clear hk a0 a1 a5 a6 a20 a21 a22
  rintro i k l H hi ⟨O, cy, a0, a1, a5, a6, a20, a21, a22, hp, rfl⟩
  have ht : trim 1 (fr 58 (keep l [0, 1, 5, 6, 20, 21, 22])) ([rD O]) = ([rD O]) := by
    exact trim_same rfl
  by_cases hc : i < a.length
  · have hc' : (i : Int) < ((a.length : Nat) : Int) := by omega
    have hc0 : (0 : Int) ≤ i := by omega
    have hw : IntKind.wrap .i64 ((i : Int) + 1) = ((i + 1 : Nat) : Int) := by rw [wrap64 (by omega) (by omega)]; omega
    have hx := encD_get (l := a) hc
    have hela := encD_length a
    have helb := encD_length b
    have helO := encD_length O
    have hOl := hp.len
    have hc1 := hp.c1
    have h1 := okD_get ha i
    have h2 := okD_get hb i
    have hiL : i < L := by omega
    have hiL' : (i : Int) < L := by omega
    have hst := hp.step ha hb hiL
    have hcv1 : IntKind.wrap .u64 ((a.getD i 0 : Nat) : Int) = ((a.getD i 0 : Nat) : Int) := wr64 (by omega)
    have hs1 : IntKind.wrap .u64 ((cy : Int) + ((a.getD i 0 : Nat) : Int)) = ((cy + a.getD i 0 : Nat) : Int) := by rw [show (cy : Int) + ((a.getD i 0 : Nat) : Int) = ((cy + a.getD i 0 : Nat) : Int) by omega, wr64 (by omega)]
    have hset := fun v : Nat => encD_set (l := O) (i := i) (d := v)
    by_cases hib : i < b.length
    · have hib' : (i : Int) < b.length := by omega
      have hy := encD_get (l := b) hib
      have hcv2 : IntKind.wrap .u64 ((b.getD i 0 : Nat) : Int) = ((b.getD i 0 : Nat) : Int) := wr64 (by omega)
      have hs2 : IntKind.wrap .u64 (((cy + a.getD i 0 : Nat) : Int) + ((b.getD i 0 : Nat) : Int)) = ((cy + a.getD i 0 + b.getD i 0 : Nat) : Int) := by rw [show ((cy + a.getD i 0 : Nat) : Int) + ((b.getD i 0 : Nat) : Int) = ((cy + a.getD i 0 + b.getD i 0 : Nat) : Int) by omega, wr64 (by omega)]
      simp only [loopR_succ, ht]
      simp only [a0, a1, a5, a6, a20, a21, a22, hc', hc0, hw, hx, hy, hela, helb, helO, hOl, hib', hiL, hiL', hcv1, hcv2, hs1, hs2, wrap32m, shr64, hset, loopR_succ, loopOf, findLoop, firstRegion, Option.some_or, Option.none_or, Option.getD_some, Option.some.injEq, Try.f131, FT, Int.reduceEq, Int.reduceToNat, Int.reduceLE, Int.reduceLT, Int.reduceAdd, Int.reduceMul, Int.reduceSub, Int.reduceNeg, Nat.reduceAdd, Nat.reduceSub, Nat.reduceMul, Nat.reduceLT, Nat.reduceBEq, Nat.reduceEqDiff, Nat.reduceLeDiff]
      exact .inr ⟨_, _, hc, rfl, _, _, (by rfl), (by rfl), (by rfl), (by rfl), (by rfl), (by rfl), (by rfl), hst, rfl⟩
    · have hib' : ¬ (i : Int) < b.length := by omega
      rw [getD_out (l := b) (by omega), Nat.add_zero] at hst
      simp only [loopR_succ, ht]
      simp only [a0, a1, a5, a6, a20, a21, a22, hc', hc0, hw, hx, hela, helb, helO, hOl, hib', hiL, hiL', hcv1, hs1, wrap32m, shr64, hset, loopR_succ, loopOf, findLoop, firstRegion, Option.some_or, Option.none_or, Option.getD_some, Option.some.injEq, Try.f131, FT, Int.reduceEq, Int.reduceToNat, Int.reduceLE, Int.reduceLT, Int.reduceAdd, Int.reduceMul, Int.reduceSub, Int.reduceNeg, Nat.reduceAdd, Nat.reduceSub, Nat.reduceMul, Nat.reduceLT, Nat.reduceBEq, Nat.reduceEqDiff, Nat.reduceLeDiff]
      exact .inr ⟨_, _, hc, rfl, _, _, (by rfl), (by rfl), (by rfl), (by rfl), (by rfl), (by rfl), (by rfl), hst, rfl⟩
  · refine .inl ?_
    obtain rfl : i = a.length := by omega
    have hc' : ¬ (((a.length : Nat) : Int) < ((a.length : Nat) : Int)) := by omega
    simp only [loopR_succ, ht]
    simp only [a0, a1, a5, a6, a20, a21, a22, hc', loopR_succ, loopOf, findLoop, firstRegion, Option.some_or, Option.none_or, Option.getD_some, Option.some.injEq, Try.f131, FT, Int.reduceEq, Int.reduceToNat, Int.reduceLE, Int.reduceLT, Int.reduceAdd, Int.reduceMul, Int.reduceSub, Int.reduceNeg, Nat.reduceAdd, Nat.reduceSub, Nat.reduceMul, Nat.reduceLT, Nat.reduceBEq, Nat.reduceEqDiff, Nat.reduceLeDiff]
    exact ⟨_, O, cy, rfl, (by rfl), (by rfl), (by rfl), hp⟩
theorem add_end {a b O : List Nat} {L c : Nat} (h : AdI a b O L c a.length) (hL : L = a.length + 1) (hab : b.length ≤ a.length) : okD (O.set a.length c) ∧ (O.set a.length c).length = L ∧ vd (O.set a.length c) = vd a + vd b := by
  have h1 := h.c1
  have hv := h.vl
  refine ⟨okD_set h.ok (by omega), by rw [List.length_set]; exact h.len, ?_⟩
  have h2 : (O.set a.length c).take (a.length + 1) = O.set a.length c := List.take_of_length_le (by rw [List.length_set, h.len]; omega)
  rw [← h2, vd_put (by rw [h.len]; omega), hv, List.take_of_length_le (Nat.le_refl _), List.take_of_length_le hab]
theorem add_evA (k : Nat) (a b : List Nat) (nl nl2 : Bool) (cap cap2 : Option Nat) (ha : okD a) (hb : okD b) (hab : b.length ≤ a.length) (hla : a.length ≤ 100000) (hlb : b.length ≤ 100000) (hk : a.length + b.length + 10 < k) : run (k+2) 131 [sD a nl cap, sD b nl2 cap2] = some (sD (dig (vd a + vd b)) false (some (dig (vd a + vd b)).length)) := by
  have hlt : ¬ (a.length : Int) < b.length := by omega
  obtain ⟨L, hL⟩ : ∃ L, L = a.length + 1 := ⟨_, rfl⟩
  have hw1 : IntKind.wrap .i64 ((a.length : Int) + 1) = (L : Int) := by rw [wrap64 (by omega) (by omega), hL]; omega
  have q1 : (0 : Int) ≤ (L : Int) := by omega
  have q2 : L * 4 ≤ roomBytes := Nat.le_trans (show L * 4 ≤ 4000000 by omega) (by decide)
  have q3 : L ≤ roomBytes := Nat.le_trans (show L ≤ 1000000 by omega) (by decide)
  rw [run, ev131, ans_trim]
  simp only [Try.f131, hlt, hw1, q1, q2, q3, encD_rep0, FT, Int.reduceEq, Int.reduceToNat, Int.reduceLE, Int.reduceLT, Int.reduceAdd, Int.reduceMul, Int.reduceSub, Int.reduceNeg, Nat.reduceAdd, Nat.reduceSub, Nat.reduceMul, Nat.reduceLT, Nat.reduceBEq, Nat.reduceEqDiff, Nat.reduceLeDiff]
  rw [evalCode_loopB LB131_6 lp131_6]; rotate_left; rfl; rfl; rfl
  generalize hz : loopR _ _ _ _ _ _ _ _ _ _ _ _ = z
  obtain ⟨l', O, cy, rfl, e0, e5, e6, hI⟩ := loop_add (k + 1) a b nl nl2 cap cap2 (by assumption) (by assumption) L hL (by omega) (List.replicate L 0) 0 ⟨by simp, fun d hd => by rw [List.eq_of_mem_replicate hd]; omega, by omega, by simp [vd]⟩ _ _ z hz (by omega) (by rfl) (by rfl) (by rfl) (by rfl) (by rfl) (by rfl) (by rfl)
  clear hz
  obtain ⟨hok, hPl, hPv⟩ := add_end hI hL (by omega)
  have hset := encD_set (l := O) (i := a.length) (d := cy)
  have helO := encD_length O
  have hOl := hI.len
  have hcy := hI.c1
  have hcv : (cy % 4294967296 : Nat) = cy := Nat.mod_eq_of_lt (by omega)
  have hj0 : (0 : Int) ≤ (a.length : Int) := by omega
  have hjL : (a.length : Int) < (L : Int) := by omega
  have hjN : a.length < L := by omega
  obtain ⟨P, hP⟩ : ∃ P, P = O.set a.length cy := ⟨_, rfl⟩
  rw [← hP] at hset hok hPl hPv
  have hdo := dig_of hok
  rw [hPv] at hdo
  rw [← hPl] at e5
  obtain ⟨H2, hds, _, hold⟩ := trim_call (k := k) (f := 131) (r := 15) (i := 1) (id := 0) (a := P) (H := [rD P]) (by rfl) (by omega) (by omega)
  have htr := trim_ev k P false none (by omega) (by omega)
  have hel := encD_length P
  have htk : (encD P).take P.length = encD P := List.take_of_length_le (by rw [hel]; exact Nat.le_refl _)
  simp only [run] at htr
  rw [hdo] at hds htr
  simp only [hPl] at hds hel htk e5
  simp only [sD, hPl] at htr
  simp only [e0, e5, e6, wrap32m, hcv, helO, hOl, hj0, hjL, hjN, hset, hel, htk, htr, hds, strict_slice, strict_c, strict1_c, strict0_c, Nat.le_refl, FT, Int.reduceEq, Int.reduceToNat, Int.reduceLE, Int.reduceLT, Int.reduceAdd, Int.reduceMul, Int.reduceSub, Int.reduceNeg, Nat.reduceAdd, Nat.reduceSub, Nat.reduceMul, Nat.reduceLT, Nat.reduceBEq, Nat.reduceEqDiff, Nat.reduceLeDiff]
theorem add_evB (k : Nat) (a b : List Nat) (nl nl2 : Bool) (cap cap2 : Option Nat) (ha : okD a) (hb : okD b) (hab : a.length < b.length) (hla : a.length ≤ 100000) (hlb : b.length ≤ 100000) (hk : a.length + b.length + 10 < k) : run (k+2) 131 [sD a nl cap, sD b nl2 cap2] = some (sD (dig (vd b + vd a)) false (some (dig (vd b + vd a)).length)) := by
  have hlt : (a.length : Int) < b.length := by omega
  obtain ⟨L, hL⟩ : ∃ L, L = b.length + 1 := ⟨_, rfl⟩
  have hw1 : IntKind.wrap .i64 ((b.length : Int) + 1) = (L : Int) := by rw [wrap64 (by omega) (by omega), hL]; omega
  have q1 : (0 : Int) ≤ (L : Int) := by omega
  have q2 : L * 4 ≤ roomBytes := Nat.le_trans (show L * 4 ≤ 4000000 by omega) (by decide)
  have q3 : L ≤ roomBytes := Nat.le_trans (show L ≤ 1000000 by omega) (by decide)
  rw [run, ev131, ans_trim]
  simp only [Try.f131, hlt, hw1, q1, q2, q3, encD_rep0, FT, Int.reduceEq, Int.reduceToNat, Int.reduceLE, Int.reduceLT, Int.reduceAdd, Int.reduceMul, Int.reduceSub, Int.reduceNeg, Nat.reduceAdd, Nat.reduceSub, Nat.reduceMul, Nat.reduceLT, Nat.reduceBEq, Nat.reduceEqDiff, Nat.reduceLeDiff]
  rw [evalCode_loopB LB131_6 lp131_6]; rotate_left; rfl; rfl; rfl
  generalize hz : loopR _ _ _ _ _ _ _ _ _ _ _ _ = z
  obtain ⟨l', O, cy, rfl, e0, e5, e6, hI⟩ := loop_add (k + 1) b a nl2 nl cap2 cap (by assumption) (by assumption) L hL (by omega) (List.replicate L 0) 0 ⟨by simp, fun d hd => by rw [List.eq_of_mem_replicate hd]; omega, by omega, by simp [vd]⟩ _ _ z hz (by omega) (by rfl) (by rfl) (by rfl) (by rfl) (by rfl) (by rfl) (by rfl)
  clear hz
  obtain ⟨hok, hPl, hPv⟩ := add_end hI hL (by omega)
  have hset := encD_set (l := O) (i := b.length) (d := cy)
  have helO := encD_length O
  have hOl := hI.len
  have hcy := hI.c1
  have hcv : (cy % 4294967296 : Nat) = cy := Nat.mod_eq_of_lt (by omega)
  have hj0 : (0 : Int) ≤ (b.length : Int) := by omega
  have hjL : (b.length : Int) < (L : Int) := by omega
  have hjN : b.length < L := by omega
  obtain ⟨P, hP⟩ : ∃ P, P = O.set b.length cy := ⟨_, rfl⟩
  rw [← hP] at hset hok hPl hPv
  have hdo := dig_of hok
  rw [hPv] at hdo
  rw [← hPl] at e5
  obtain ⟨H2, hds, _, hold⟩ := trim_call (k := k) (f := 131) (r := 15) (i := 1) (id := 0) (a := P) (H := [rD P]) (by rfl) (by omega) (by omega)
  have htr := trim_ev k P false none (by omega) (by omega)
  have hel := encD_length P
  have htk : (encD P).take P.length = encD P := List.take_of_length_le (by rw [hel]; exact Nat.le_refl _)
  simp only [run] at htr
  rw [hdo] at hds htr
  simp only [hPl] at hds hel htk e5
  simp only [sD, hPl] at htr
  simp only [e0, e5, e6, wrap32m, hcv, helO, hOl, hj0, hjL, hjN, hset, hel, htk, htr, hds, strict_slice, strict_c, strict1_c, strict0_c, Nat.le_refl, FT, Int.reduceEq, Int.reduceToNat, Int.reduceLE, Int.reduceLT, Int.reduceAdd, Int.reduceMul, Int.reduceSub, Int.reduceNeg, Nat.reduceAdd, Nat.reduceSub, Nat.reduceMul, Nat.reduceLT, Nat.reduceBEq, Nat.reduceEqDiff, Nat.reduceLeDiff]
theorem add_ev (k : Nat) (a b : List Nat) (nl nl2 : Bool) (cap cap2 : Option Nat) (ha : okD a) (hb : okD b) (hla : a.length ≤ 100000) (hlb : b.length ≤ 100000) (hk : a.length + b.length + 10 < k) : run (k+2) 131 [sD a nl cap, sD b nl2 cap2] = some (sD (dig (vd a + vd b)) false (some (dig (vd a + vd b)).length)) := by
  by_cases h : b.length ≤ a.length
  · exact add_evA k a b nl nl2 cap cap2 ha hb h hla hlb hk
  · rw [Nat.add_comm (vd a)]
    exact add_evB k a b nl nl2 cap cap2 ha hb (by omega) hla hlb hk
end
end Go.Proofs.Sw.W
namespace Go.Proofs.Sw.W
open Go.Ab
def wsb (x y : Nat) : Nat := if x < y then x + 18446744073709551616 - y else x - y
theorem wsb_facts {x y : Nat} (hx : x < 4294967296) (hy : y ≤ 4294967296) : wsb x y < 18446744073709551616 ∧ wsb x y % 4294967296 = suD x y ∧ wsb x y / 4294967296 % 2 = if x < y then 1 else 0 := by
  unfold wsb suD
  by_cases h : x < y
  · simp only [h, if_true]; omega
  · simp only [h, if_false]; omega
section
variable [Globals]
theorem wrap_sub {x y : Nat} (hx : x < 4294967296) (hy : y ≤ 4294967296) : IntKind.wrap .u64 ((x : Int) - (y : Int)) = ((wsb x y : Nat) : Int) := by
  have e : IntKind.wrap .u64 ((x : Int) - (y : Int)) = ((x : Int) - (y : Int)) % 18446744073709551616 := rfl
  rw [e]
  unfold wsb
  split <;> omega
theorem loop_sub (kf : Nat) (a b : List Nat) (nl nl2 : Bool) (cap cap2 : Option Nat) (ha : okD a) (hb : okD b) (L : Nat) (hL : L = a.length) (hla : a.length ≤ 100000) (O0 : List Nat) (c0 : Nat) (h0 : SuI a b O0 L c0 0) (k : Nat) (l : Ass) (z : Option Out) (hz : loopR Try.prog tab kf none LB132_6 132 53 [1, 6, 7, 19, 20, 21] 1 k l ([rD O0]) = z) (hk : a.length < k) (a1 : asc l 1 = sD b nl2 cap2) (a6 : asc l 6 = .hsl 0 0 L L 1) (a7 : asc l 7 = .c (.int .u64 (c0 : Int))) (a19 : asc l 19 = sD a nl cap) (a20 : asc l 20 = ii a.length) (a21 : asc l 21 = ii 0) :
    ∃ l' O cy, z = some (.exit 0 (fr 53 l') [rD O]) ∧ asc l' 6 = .hsl 0 0 L L 1 ∧ SuI a b O L cy a.length := by
  subst hz
  refine loop_nat a.length (fun k l H => loopR Try.prog tab kf none LB132_6 132 53 [1, 6, 7, 19, 20, 21] 1 k l H)
    (fun i l H => ∃ (O : List Nat), ∃ (cy : Nat), asc l 1 = sD b nl2 cap2 ∧ asc l 6 = .hsl 0 0 L L 1 ∧ asc l 7 = .c (.int .u64 (cy : Int)) ∧ asc l 19 = sD a nl cap ∧ asc l 20 = ii a.length ∧ asc l 21 = ii i ∧ (SuI a b O L cy i) ∧ H = ([rD O]))
    (fun z => ∃ l' O cy, z = some (.exit 0 (fr 53 l') [rD O]) ∧ asc l' 6 = .hsl 0 0 L L 1 ∧ SuI a b O L cy a.length) ?_ a.length 0 k l _ (by omega) hk ⟨O0, c0, a1, a6, a7, a19, a20, a21, h0, rfl⟩
  clear hk a1 a6 a7 a19 a20 a21
  rintro i k l H hi ⟨O, cy, a1, a6, a7, a19, a20, a21, hp, rfl⟩
  have ht : trim 1 (fr 53 (keep l [1, 6, 7, 19, 20, 21])) ([rD O]) = ([rD O]) := by
    exact trim_same rfl
  by_cases hc : i < a.length
  · have hc' : (i : Int) < ((a.length : Nat) : Int) := by omega
    have hc0 : (0 : Int) ≤ i := by omega
    have hw : IntKind.wrap .i64 ((i : Int) + 1) = ((i + 1 : Nat) : Int) := by rw [wrap64 (by omega) (by omega)]; omega
    have hx := encD_get (l := a) hc
    have hela := encD_length a
    have helb := encD_length b
    have helO := encD_length O
    have hOl := hp.len
    have hc1 := hp.c1
    have h1 := okD_get ha i
    have h2 := okD_get hb i
    have hiL : i < L := by omega
    have hiL' : (i : Int) < L := by omega
    have hst := hp.step ha hb hiL
    have hcv1 : IntKind.wrap .u64 ((a.getD i 0 : Nat) : Int) = ((a.getD i 0 : Nat) : Int) := wr64 (by omega)
    have hset := fun v : Nat => encD_set (l := O) (i := i) (d := v)
    by_cases hib : i < b.length
    · have hib' : (i : Int) < b.length := by omega
      have hy := encD_get (l := b) hib
      have hcv2 : IntKind.wrap .u64 ((b.getD i 0 : Nat) : Int) = ((b.getD i 0 : Nat) : Int) := wr64 (by omega)
      have hs2 : IntKind.wrap .u64 ((cy : Int) + ((b.getD i 0 : Nat) : Int)) = ((cy + b.getD i 0 : Nat) : Int) := by rw [show (cy : Int) + ((b.getD i 0 : Nat) : Int) = ((cy + b.getD i 0 : Nat) : Int) by omega, wr64 (by omega)]
      have hs3 := wrap_sub h1 (show cy + b.getD i 0 ≤ 4294967296 by omega)
      obtain ⟨g1, g2, g3⟩ := wsb_facts h1 (show cy + b.getD i 0 ≤ 4294967296 by omega)
      have ha1 := fun (X : Heap) (t : TypeId) => and64o (H := X) (t := t) (a := wsb (a.getD i 0) (cy + b.getD i 0) / 4294967296) (by omega)
      rw [← g2, ← g3] at hst
      simp only [loopR_succ, ht]
      simp only [a1, a6, a7, a19, a20, a21, hc', hc0, hw, hx, hy, hela, helb, helO, hOl, hib', hiL, hiL', hcv1, hcv2, hs2, hs3, wrap32m, shr64, ha1, hset, loopR_succ, loopOf, findLoop, firstRegion, Option.some_or, Option.none_or, Option.getD_some, Option.some.injEq, Try.f132, FT, Int.reduceEq, Int.reduceToNat, Int.reduceLE, Int.reduceLT, Int.reduceAdd, Int.reduceMul, Int.reduceSub, Int.reduceNeg, Nat.reduceAdd, Nat.reduceSub, Nat.reduceMul, Nat.reduceLT, Nat.reduceBEq, Nat.reduceEqDiff, Nat.reduceLeDiff]
      exact .inr ⟨_, _, hc, rfl, _, _, (by rfl), (by rfl), (by rfl), (by rfl), (by rfl), (by rfl), hst, rfl⟩
    · have hib' : ¬ (i : Int) < b.length := by omega
      have hs3 := wrap_sub h1 (show cy ≤ 4294967296 by omega)
      obtain ⟨g1, g2, g3⟩ := wsb_facts h1 (show cy ≤ 4294967296 by omega)
      have ha1 := fun (X : Heap) (t : TypeId) => and64o (H := X) (t := t) (a := wsb (a.getD i 0) cy / 4294967296) (by omega)
      rw [getD_out (l := b) (by omega), Nat.add_zero, ← g2, ← g3] at hst
      simp only [loopR_succ, ht]
      simp only [a1, a6, a7, a19, a20, a21, hc', hc0, hw, hx, hela, helb, helO, hOl, hib', hiL, hiL', hcv1, hs3, wrap32m, shr64, ha1, hset, loopR_succ, loopOf, findLoop, firstRegion, Option.some_or, Option.none_or, Option.getD_some, Option.some.injEq, Try.f132, FT, Int.reduceEq, Int.reduceToNat, Int.reduceLE, Int.reduceLT, Int.reduceAdd, Int.reduceMul, Int.reduceSub, Int.reduceNeg, Nat.reduceAdd, Nat.reduceSub, Nat.reduceMul, Nat.reduceLT, Nat.reduceBEq, Nat.reduceEqDiff, Nat.reduceLeDiff]
      exact .inr ⟨_, _, hc, rfl, _, _, (by rfl), (by rfl), (by rfl), (by rfl), (by rfl), (by rfl), hst, rfl⟩
  · refine .inl ?_
    obtain rfl : i = a.length := by omega
    have hc' : ¬ (((a.length : Nat) : Int) < ((a.length : Nat) : Int)) := by omega
    simp only [loopR_succ, ht]
    simp only [a1, a6, a7, a19, a20, a21, hc', loopR_succ, loopOf, findLoop, firstRegion, Option.some_or, Option.none_or, Option.getD_some, Option.some.injEq, Try.f132, FT, Int.reduceEq, Int.reduceToNat, Int.reduceLE, Int.reduceLT, Int.reduceAdd, Int.reduceMul, Int.reduceSub, Int.reduceNeg, Nat.reduceAdd, Nat.reduceSub, Nat.reduceMul, Nat.reduceLT, Nat.reduceBEq, Nat.reduceEqDiff, Nat.reduceLeDiff]
    exact ⟨_, O, cy, rfl, (by rfl), hp⟩
theorem sub_end {a b O : List Nat} {c : Nat} (h : SuI a b O a.length c a.length) (hab : b.length ≤ a.length) (hv : vd b ≤ vd a) : vd O = vd a - vd b := by
  have h1 := h.vl
  have h2 := h.c1
  rw [List.take_of_length_le (by rw [h.len]; exact Nat.le_refl _), List.take_of_length_le hab, List.take_of_length_le (Nat.le_refl _)] at h1
  have h3 := vd_lt h.ok
  rw [h.len] at h3
  have : c = 0 ∨ c = 1 := by omega
  rcases this with rfl | rfl
  · omega
  · omega
theorem sub_ev (k : Nat) (a b : List Nat) (nl nl2 : Bool) (cap cap2 : Option Nat) (ha : Can a) (hb : Can b) (hv : vd b ≤ vd a) (hla : a.length ≤ 100000) (hlb : b.length ≤ 100000) (hk : a.length + b.length + 10 < k) : run (k+3) 132 [sD a nl cap, sD b nl2 cap2] = some (.tup [sD (dig (vd a - vd b)) false (some (dig (vd a - vd b)).length), ii 0]) := by
  have hab : b.length ≤ a.length := by
    by_cases h : a.length < b.length
    · have := can_len ha.ok hb h; omega
    · omega
  have hcm := cmp_can k a b nl nl2 cap cap2 ha.ok hb.ok hla hlb (by omega)
  have hcv : ¬ cmpN (vd a) (vd b) < 0 := by unfold cmpN; rw [if_neg (by omega)]; split <;> decide
  have q1 : (0 : Int) ≤ (a.length : Int) := by omega
  have q2 : a.length * 4 ≤ roomBytes := Nat.le_trans (show a.length * 4 ≤ 4000000 by omega) (by decide)
  have q3 : a.length ≤ roomBytes := Nat.le_trans (show a.length ≤ 1000000 by omega) (by decide)
  simp only [run, ii] at hcm
  rw [run, ev132, ans_trim]
  simp only [Try.f132, hcm, hcv, q1, q2, q3, encD_rep0, ii, FT, Int.reduceEq, Int.reduceToNat, Int.reduceLE, Int.reduceLT, Int.reduceAdd, Int.reduceMul, Int.reduceSub, Int.reduceNeg, Nat.reduceAdd, Nat.reduceSub, Nat.reduceMul, Nat.reduceLT, Nat.reduceBEq, Nat.reduceEqDiff, Nat.reduceLeDiff]
  rw [evalCode_loopB LB132_6 lp132_6]; rotate_left; rfl; rfl; rfl
  generalize hz : loopR _ _ _ _ _ _ _ _ _ _ _ _ = z
  obtain ⟨l', P, cy, rfl, e6, hI⟩ := loop_sub (k + 2) a b nl nl2 cap cap2 ha.ok hb.ok a.length rfl hla (List.replicate a.length 0) 0 ⟨by simp, fun d hd => by rw [List.eq_of_mem_replicate hd]; omega, by omega, by simp [vd]⟩ _ _ z hz (by omega) (by rfl) (by rfl) (by rfl) (by rfl) (by rfl) (by rfl)
  clear hz
  have hPl := hI.len
  have hok := hI.ok
  have hPv : vd P = vd a - vd b := sub_end hI hab hv
  have hdo := dig_of hok
  rw [hPv] at hdo
  rw [← hPl] at e6
  obtain ⟨H2, hds, _, hold⟩ := trim_call (k := k + 1) (f := 132) (r := 15) (i := 1) (id := 0) (a := P) (H := [rD P]) (by rfl) (by omega) (by omega)
  have htr := trim_ev (k + 1) P false none (by omega) (by omega)
  have hel := encD_length P
  have htk : (encD P).take P.length = encD P := List.take_of_length_le (by rw [hel]; exact Nat.le_refl _)
  simp only [run] at htr
  rw [hdo] at hds htr
  simp only [hPl] at hds hel htk e6
  simp only [sD, hPl] at htr
  simp only [e6, hel, htk, htr, hds, strict_slice, strict_c, strict1_c, strict0_c, Nat.le_refl, FT, Int.reduceEq, Int.reduceToNat, Int.reduceLE, Int.reduceLT, Int.reduceAdd, Int.reduceMul, Int.reduceSub, Int.reduceNeg, Nat.reduceAdd, Nat.reduceSub, Nat.reduceMul, Nat.reduceLT, Nat.reduceBEq, Nat.reduceEqDiff, Nat.reduceLeDiff]
end
end Go.Proofs.Sw.W
