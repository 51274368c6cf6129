/- A part of the proof: an interpreter on abstract values, proved right for every program; no condition. -/
import Derived.Test.YtiiannaficbjeaaDoorAbRun
namespace Go.Ab
set_option linter.unusedVariables false
set_option linter.unusedSimpArgs false
set_option linter.unusedSectionVars false
def upd (g : Nat → AV) (i : Nat) (x : AV) : Nat → AV := fun j => if j = i then x else g j
noncomputable def PT.of : Nat → (Nat → AV) → PT
  | 0, _ => .nil
  | d + 1, g => .node (g 0) (PT.of d fun m => g (2 * m + 1)) (PT.of d fun m => g (2 * m + 2))
theorem PT.get_of : ∀ (d : Nat) (g : Nat → AV) (i : Nat), i + 1 < 2 ^ d → (PT.of d g).get i = g i
  | 0, _, i, h => by simp at h
  | d + 1, g, i, h => by
    have hp : 2 ^ (d + 1) = 2 * 2 ^ d := by rw [Nat.pow_succ]; omega
    rw [PT.of, PT.get_node]
    split
    · rename_i e; rw [e]
    · split
      · rw [PT.get_of d _ _ (by omega)]; congr 1; omega
      · rw [PT.get_of d _ _ (by omega)]; congr 1; omega
theorem PT.set_of (x : AV) : ∀ (d : Nat) (g : Nat → AV) (i : Nat), (PT.of d g).set x i = PT.of d (upd g i x)
  | 0, _, i => rfl
  | d + 1, g, i => by
    rw [PT.of, PT.set_node, PT.of]
    split
    · rename_i e
      subst e
      rfl
    · split
      · rw [PT.set_of x d]
        have h1 : upd g i x 0 = g 0 := by unfold upd; rw [if_neg (by omega)]
        have h2 : upd (fun m => g (2 * m + 1)) ((i - 1) / 2) x = fun m => upd g i x (2 * m + 1) := by
          funext m
          unfold upd
          by_cases e : m = (i - 1) / 2
          · rw [if_pos e, if_pos (by omega)]
          · rw [if_neg e, if_neg (by omega)]
        have h3 : (fun m => upd g i x (2 * m + 2)) = fun m => g (2 * m + 2) := by
          funext m
          unfold upd
          rw [if_neg (by omega)]
        rw [h1, h2, h3]
      · rw [PT.set_of x d]
        have h1 : upd g i x 0 = g 0 := by unfold upd; rw [if_neg (by omega)]
        have h2 : upd (fun m => g (2 * m + 2)) ((i - 1) / 2) x = fun m => upd g i x (2 * m + 2) := by
          funext m
          unfold upd
          by_cases e : m = (i - 1) / 2
          · rw [if_pos e, if_pos (by omega)]
          · rw [if_neg e, if_neg (by omega)]
        have h3 : (fun m => upd g i x (2 * m + 1)) = fun m => g (2 * m + 1) := by
          funext m
          unfold upd
          rw [if_neg (by omega)]
        rw [h1, h2, h3]
theorem PT.full_of : ∀ d, PT.full d = PT.of d fun _ => .unk
  | 0 => rfl
  | d + 1 => by rw [PT.full, PT.of, PT.full_of d]
theorem PT.all_of (p : AV → Bool) : ∀ (d : Nat) (g : Nat → AV), (∀ i, i + 1 < 2 ^ d → p (g i) = true) → (PT.of d g).all p = true
  | 0, _, _ => rfl
  | d + 1, g, h => by
    have hp : 2 ^ (d + 1) = 2 * 2 ^ d := by rw [Nat.pow_succ]; omega
    have h0 : 1 ≤ 2 ^ d := Nat.one_le_two_pow
    have h1 := h 0 (by omega)
    have h2 := PT.all_of p d (fun m => g (2 * m + 1)) (fun i hi => h _ (by omega))
    have h3 := PT.all_of p d (fun m => g (2 * m + 2)) (fun i hi => h _ (by omega))
    show Bool.rec (motive := fun _ => Bool) false (Bool.rec (motive := fun _ => Bool) false ((PT.of d fun m => g (2 * m + 2)).all p) ((PT.of d fun m => g (2 * m + 1)).all p)) (p (g 0)) = true
    rw [h1, h2, h3]
abbrev Ass := List (Nat × AV)
def asc : Ass → Nat → AV
  | [], _ => .unk
  | (i, x) :: l, j => if j = i then x else asc l j
theorem asc_hit {i : Nat} {x : AV} {l : Ass} : asc ((i, x) :: l) i = x := if_pos rfl
theorem asc_miss {i j : Nat} {x : AV} {l : Ass} (h : (j == i) = false) : asc ((i, x) :: l) j = asc l j := if_neg (by simpa using h)
theorem asc_nil {i : Nat} : asc [] i = .unk := rfl
noncomputable def fr (n : Nat) (l : Ass) : Fr := ⟨n, PT.of (Nat.log2 n + 1) fun i => if i < n then asc l i else .unk⟩
theorem log_lt {n i : Nat} (h : i < n) : i + 1 < 2 ^ (Nat.log2 n + 1) := by
  have := @Nat.lt_log2_self n
  omega
theorem get_fr {n t : Nat} {l : Ass} (h : t < n) : (fr n l).get t = asc l t := by
  show (PT.of _ _).get t = _
  rw [PT.get_of _ _ _ (log_lt h), if_pos h]
theorem set_fr {n t : Nat} {l : Ass} {x : AV} (h : t < n) : (fr n l).set t x = fr n ((t, x) :: l) := by
  rw [Fr.set_eq, if_pos (show t < (fr n l).n from h)]
  unfold fr
  show Fr.mk n ((PT.of _ _).set x t) = _
  rw [PT.set_of]
  congr 2
  funext i
  show (if i = t then x else if i < n then asc l i else .unk) = if i < n then (if i = t then x else asc l i) else .unk
  by_cases e : i = t
  · subst e; rw [if_pos rfl, if_pos h, if_pos rfl]
  · rw [if_neg e, if_neg e]
theorem fr_ext {n : Nat} {l l' : Ass} (h : ∀ i, i < n → asc l i = asc l' i) : fr n l = fr n l' := by
  unfold fr
  congr 2
  funext i
  by_cases e : i < n
  · rw [if_pos e, if_pos e, h i e]
  · rw [if_neg e, if_neg e]
theorem all_fr {p : AV → Bool} {n : Nat} {l : Ass} (hu : p .unk = true) (h : ∀ i, i < n → p (asc l i) = true) : (fr n l).t.all p = true := by
  refine PT.all_of _ _ _ fun i _ => ?_
  by_cases e : i < n
  · rw [if_pos e]; exact h i e
  · rw [if_neg e]; exact hu
theorem frame0_eq {n : Nat} {args : List AV} : frame0 n args = fillArgs (fr (args.length + (n - args.length)) []) 0 args := by
  unfold frame0
  congr 1
  unfold fr
  rw [PT.full_of]
  congr 2
  funext i
  simp [asc]
theorem fill_nil {F : Fr} {i : Nat} : fillArgs F i [] = F := rfl
theorem fill_cons {n i : Nat} {l : Ass} {x : AV} {xs : List AV} (h : i < n) : fillArgs (fr n l) i (x :: xs) = fillArgs (fr n ((i, x) :: l)) (i + 1) xs := by
  rw [fillArgs, set_fr h]
def keep (l : Ass) : List Nat → Ass
  | [] => []
  | i :: is => (i, asc l i) :: keep l is
theorem keep_asc (l : Ass) : ∀ (is : List Nat) (j : Nat), asc (keep l is) j = if is.contains j then asc l j else .unk
  | [], j => by simp [keep, asc]
  | i :: is, j => by
    rw [keep, asc, keep_asc l is j]
    by_cases e : j = i
    · subst e; simp
    · rw [if_neg e]; simp [e]
theorem clear_asc {n : Nat} : ∀ (cl : List Nat) (l : Ass), ∃ l', clearAll (fr n l) cl = fr n l' ∧ ∀ j, j < n → asc l' j = if cl.contains j then .unk else asc l j
  | [], l => ⟨l, rfl, fun j _ => by simp⟩
  | t :: ts, l => by
    rw [clearAll]
    by_cases h : t < n
    · rw [set_fr h]
      obtain ⟨l', e, h2⟩ := clear_asc ts ((t, .unk) :: l)
      refine ⟨l', e, fun j hj => ?_⟩
      rw [h2 j hj, asc]
      by_cases e : j = t
      · subst e; simp
      · simp [e]
    · rw [Fr.set_eq, if_neg (show ¬ t < (fr n l).n from h)]
      obtain ⟨l', e, h2⟩ := clear_asc ts l
      refine ⟨l', e, fun j hj => ?_⟩
      rw [h2 j hj]
      have : j ≠ t := by omega
      simp [this]
def liveOk (n : Nat) (live cl : List Nat) : Bool := (List.range n).all fun i => live.contains i != cl.contains i
theorem clear_live {n : Nat} {live cl : List Nat} {l : Ass} (h : liveOk n live cl = true) : clearAll (fr n l) cl = fr n (keep l live) := by
  obtain ⟨l', e, h2⟩ := clear_asc (n := n) cl l
  rw [e]
  refine fr_ext fun i hi => ?_
  rw [h2 i hi, keep_asc]
  unfold liveOk at h
  have := List.all_eq_true.1 h i (List.mem_range.2 hi)
  cases h1 : live.contains i <;> cases h3 : cl.contains i <;> rw [h1, h3] at this <;> first | rfl | cases this
theorem trim_same {n : Nat} {F : Fr} {H : Heap} (h : H.length = n) : trim n F H = H := by
  unfold trim
  split
  · rw [← h, List.take_length]
  · rfl
theorem trim_take {n : Nat} {F : Fr} {H : Heap} (h1 : F.t.all (AV.under n) = true) (h2 : (H.take n).all (AObj.under n) = true) : trim n F H = H.take n := by
  unfold trim
  rw [if_pos ⟨h1, h2⟩]
theorem asc_all {p : AV → Bool} (hu : p .unk = true) : ∀ (l : Ass) (i : Nat), (l.all fun e => p e.2) = true → p (asc l i) = true
  | [], _, _ => hu
  | (j, x) :: l, i, h => by
    rw [List.all_cons, Bool.and_eq_true] at h
    rw [asc]
    split
    · exact h.1
    · exact asc_all hu l i h.2
theorem trim_fr {n N : Nat} {l : Ass} {H : Heap} (h1 : (l.all fun e => AV.under n e.2) = true) (h2 : (H.take n).all (AObj.under n) = true) : trim n (fr N l) H = H.take n :=
  trim_take (all_fr rfl fun i _ => asc_all rfl l i h1) h2
theorem under_c {n : Nat} {x : IV} : AV.under n (.c x) = true := rfl
theorem under_ptr {n id off : Nat} : AV.under n (.ptr id off) = decide (id < n) := rfl
theorem under_hsl {n id off len ext sz : Nat} : AV.under n (.hsl id off len ext sz) = decide (id < n) := rfl
theorem under_unk {n : Nat} : AV.under n .unk = true := rfl
theorem under_agg {n : Nat} {cs : List AV} : AV.under n (.agg cs) = cs.all (AV.under0 n) := rfl
theorem under0_c {n : Nat} {x : IV} : AV.under0 n (.c x) = true := rfl
theorem under0_ptr {n id off : Nat} : AV.under0 n (.ptr id off) = decide (id < n) := rfl
theorem under0_hsl {n id off len ext sz : Nat} : AV.under0 n (.hsl id off len ext sz) = decide (id < n) := rfl
theorem ounder_cells {n : Nat} {t : TypeId} {cs : List AV} : AObj.under n (.cells t cs) = cs.all (AV.under n) := rfl
theorem ounder_row {n : Nat} {t : TypeId} {fz : Bool} {cs : List IV} : AObj.under n (.row fz t cs) = true := rfl
def thenO (x : Option Out) (f : Fr → Heap → Option Out) : Option Out :=
  match x with
  | some (.norm F H) => f F H
  | r => r
theorem thenO_norm {F : Fr} {H : Heap} {f : Fr → Heap → Option Out} : thenO (some (.norm F H)) f = f F H := rfl
theorem thenO_exit {id : Nat} {F : Fr} {H : Heap} {f : Fr → Heap → Option Out} : thenO (some (.exit id F H)) f = some (.exit id F H) := rfl
theorem thenO_ret {F : Fr} {H : Heap} {f : Fr → Heap → Option Out} : thenO (some (.ret F H)) f = some (.ret F H) := rfl
theorem thenO_none {f : Fr → Heap → Option Out} : thenO none f = none := rfl
def condO (v : AV) (f g : Fr → Heap → Option Out) (F : Fr) (H : Heap) : Option Out :=
  match v with
  | .c (.bool true) => f F H
  | .c (.bool false) => g F H
  | _ => none
theorem condO_true {f g : Fr → Heap → Option Out} {F : Fr} {H : Heap} : condO (.c (.bool true)) f g F H = f F H := rfl
theorem condO_false {f g : Fr → Heap → Option Out} {F : Fr} {H : Heap} : condO (.c (.bool false)) f g F H = g F H := rfl
theorem condO_not {b : Bool} {f g : Fr → Heap → Option Out} {F : Fr} {H : Heap} : condO (.c (.bool !b)) f g F H = condO (.c (.bool b)) g f F H := by cases b <;> rfl
theorem condO_dec {p : Prop} [Decidable p] {f g : Fr → Heap → Option Out} {F : Fr} {H : Heap} : condO (.c (.bool (decide p))) f g F H = if p then f F H else g F H := by by_cases h : p <;> simp [h, condO]
theorem condO_ite {b : Bool} {f g : Fr → Heap → Option Out} {F : Fr} {H : Heap} : condO (.c (.bool b)) f g F H = if b = true then f F H else g F H := by cases b <;> rfl
def blockO (id : Nat) (x : Option Out) : Option Out :=
  match x with
  | some (.exit id' F' H') => if id' = id then some (.norm F' H') else some (.exit id' F' H')
  | r => r
theorem blockO_norm {id : Nat} {F : Fr} {H : Heap} : blockO id (some (.norm F H)) = some (.norm F H) := rfl
theorem blockO_exit {id id' : Nat} {F : Fr} {H : Heap} : blockO id (some (.exit id' F H)) = if id' = id then some (.norm F H) else some (.exit id' F H) := rfl
theorem blockO_ret {id : Nat} {F : Fr} {H : Heap} : blockO id (some (.ret F H)) = some (.ret F H) := rfl
theorem blockO_none {id : Nat} : blockO id none = none := rfl
def regO (x : Option (Fr × Heap)) : Option Out :=
  match x with
  | some (F, H) => some (.norm F H)
  | none => none
theorem regO_some {F : Fr} {H : Heap} : regO (some (F, H)) = some (.norm F H) := rfl
theorem regO_none : regO none = none := rfl
section
variable [Globals] {P : Program} {cx : Cx}
noncomputable def opsThen (P : Program) (cx : Cx) (r : Nat) (ops : Array Oper) (os : List Oper) (i : Nat) (x : Option (Fr × Heap)) : Option (Fr × Heap) :=
  match x with
  | some (F, H) => evalOps P cx r ops os i F H
  | none => none
theorem evalOps_nil {r : Nat} {ops : Array Oper} {i : Nat} {F : Fr} {H : Heap} : evalOps P cx r ops [] i F H = some (F, H) := rfl
theorem evalOps_cons {r : Nat} {ops : Array Oper} {o : Oper} {os : List Oper} {i : Nat} {F : Fr} {H : Heap} :
    evalOps P cx r ops (o :: os) i F H = opsThen P cx r ops os (i + 1) (stepOp P cx r ops i o F H) := by
  rw [evalOps]
  cases stepOp P cx r ops i o F H <;> rfl
theorem opsThen_some {r : Nat} {ops : Array Oper} {os : List Oper} {i : Nat} {F : Fr} {H : Heap} : opsThen P cx r ops os i (some (F, H)) = evalOps P cx r ops os i F H := rfl
theorem opsThen_none {r : Nat} {ops : Array Oper} {os : List Oper} {i : Nat} : opsThen P cx r ops os i none = none := rfl
theorem evalCode_region {id : Nat} {ops : Array Oper} {F : Fr} {H : Heap} : evalCode P cx (.region id ops false) F H = regO (evalOps P cx id ops ops.toList 0 F H) := by
  simp only [evalCode, Bool.false_eq_true, if_false]
  cases evalOps P cx id ops ops.toList 0 F H <;> rfl
theorem evalCode_skip {F : Fr} {H : Heap} : evalCode P cx .skip F H = some (.norm F H) := rfl
theorem evalCode_label {l : Nat} {F : Fr} {H : Heap} : evalCode P cx (.label l) F H = some (.norm F H) := rfl
theorem evalCode_ret {F : Fr} {H : Heap} : evalCode P cx .ret F H = some (.ret F H) := rfl
theorem evalCode_exit {id : Nat} {F : Fr} {H : Heap} : evalCode P cx (.exit id) F H = some (.exit id F H) := rfl
theorem evalCode_scope {b : Code} {F : Fr} {H : Heap} : evalCode P cx (.scope b) F H = evalCode P cx b F H := rfl
theorem evalCode_seq {a b : Code} {F : Fr} {H : Heap} : evalCode P cx (.seq a b) F H = thenO (evalCode P cx a F H) (evalCode P cx b) := by
  simp only [evalCode, thenO]
  split <;> simp_all
theorem evalCode_cond {c : Operand} {a b : Code} {F : Fr} {H : Heap} : evalCode P cx (.cond c a b) F H = condO (evalA F c) (evalCode P cx a) (evalCode P cx b) F H := by
  simp only [evalCode]
  rfl
theorem evalCode_block {id : Nat} {b : Code} {F : Fr} {H : Heap} : evalCode P cx (.block id b) F H = blockO id (evalCode P cx b F H) := by
  simp only [evalCode, blockO]
  split <;> simp_all
theorem iter_succ {f : Fr → Heap → Option Out} {cl : List Nat} {n k : Nat} {F : Fr} {H : Heap} :
    iter f cl [] n (k + 1) F H = thenO (f (clearAll F cl) (trim n (clearAll F cl) H)) (iter f cl [] n k) := by
  rw [iter]
  simp only [fzAll]
  rcases f (clearAll F cl) (trim n (clearAll F cl) H) with _ | o
  · rfl
  · cases o <;> rfl
noncomputable def stepV (dst : Option Tmp) (F : Fr) (x : Option (AV × Heap)) : Option (Fr × Heap) :=
  match x with
  | some (v, H) => some (setD F dst v, H)
  | none => none
theorem stepV_some {dst : Option Tmp} {F : Fr} {v : AV} {H : Heap} : stepV dst F (some (v, H)) = some (setD F dst v, H) := rfl
theorem stepV_none {dst : Option Tmp} {F : Fr} : stepV dst F none = none := rfl
theorem setD_some {n d : Nat} {l : Ass} {v : AV} (h : d < n) : setD (fr n l) (some d) v = fr n ((d, v) :: l) := set_fr h
theorem setD_none {F : Fr} {v : AV} : setD F none v = F := rfl
theorem stepOp_free {r : Nat} {ops : Array Oper} {i : Nat} {F : Fr} {H : Heap} {dst : Option Tmp} {op : Op} {type : TypeId} {pos : String} {after : Array Edge} :
    stepOp P cx r ops i ⟨dst, op, type, pos, after, none⟩ F H = stepV dst F (execA P cx r i F H ⟨dst, op, type, pos, after, none⟩) := by
  simp only [stepOp, wantedA, stepV]
  cases execA P cx r i F H ⟨dst, op, type, pos, after, none⟩ <;> rfl
noncomputable def guardO (v : AV) (want : Bool) (x : Option (Fr × Heap)) (y : Fr) (H : Heap) : Option (Fr × Heap) :=
  match v with
  | .c (.bool b) => if b = want then x else some (y, H)
  | .tup [] => some (y, H)
  | _ => none
theorem guardO_true {b : Bool} {x : Option (Fr × Heap)} {y : Fr} {H : Heap} : guardO (.c (.bool b)) true x y H = if b = true then x else some (y, H) := rfl
theorem guardO_false {b : Bool} {x : Option (Fr × Heap)} {y : Fr} {H : Heap} : guardO (.c (.bool b)) false x y H = if b = true then some (y, H) else x := by cases b <;> rfl
theorem ite_bnot {α : Type} {b : Bool} {x y : α} : (if (!b) = true then x else y) = if b = true then y else x := by cases b <;> rfl
theorem guardO_tup {want : Bool} {x : Option (Fr × Heap)} {y : Fr} {H : Heap} : guardO (.tup []) want x y H = some (y, H) := rfl
noncomputable def guardV (F : Fr) : Option Oper → AV
  | some ⟨some d, _, _, _, _, _⟩ => F.get d
  | _ => .unk
theorem guardV_some {F : Fr} {d : Tmp} {op : Op} {type : TypeId} {pos : String} {after : Array Edge} {g : Option (Nat × Bool)} : guardV F (some ⟨some d, op, type, pos, after, g⟩) = F.get d := rfl
theorem stepOp_guard {r : Nat} {ops : Array Oper} {i : Nat} {F : Fr} {H : Heap} {dst : Option Tmp} {op : Op} {type : TypeId} {pos : String} {after : Array Edge} {j : Nat} {want : Bool} :
    stepOp P cx r ops i ⟨dst, op, type, pos, after, some (j, want)⟩ F H = guardO (guardV F ops[j]?) want (stepV dst F (execA P cx r i F H ⟨dst, op, type, pos, after, some (j, want)⟩)) (setD F dst (.tup [])) H := by
  simp only [stepOp, wantedA, stepV, guardO, guardV]
  rcases h : ops[j]? with _ | o
  · simp
  · obtain ⟨d, op', t', p', a', g'⟩ := o
    cases d with
    | none => simp
    | some d =>
      simp only [Option.bind_some]
      cases hv : F.get d with
      | c x =>
        cases x with
        | bool b =>
          by_cases e : b = want
          · subst e
            simp
            cases execA P cx r i F H ⟨dst, op, type, pos, after, some (j, b)⟩ <;> rfl
          · have : (b == want) = false := by simpa using e
            simp [this, e]
        | _ => simp
      | tup vs => cases vs <;> simp
      | _ => simp
def valO (H : Heap) (x : Option AV) : Option (AV × Heap) :=
  match x with
  | some v => some (v, H)
  | none => none
theorem valO_some {H : Heap} {v : AV} : valO H (some v) = some (v, H) := rfl
theorem valO_none {H : Heap} : valO H none = none := rfl
def callO (cx : Cx) (r i : Nat) (v : AV) (args : List AV) (H : Heap) : Option (AV × Heap) :=
  match v with
  | .yld id => cx.round id args H
  | .c (.fn g) => doCall cx r i g args H
  | .clo g first captured => doCall cx r i g (first ++ args ++ captured) H
  | _ => none
theorem callO_fn {r i : Nat} {g : FuncId} {args : List AV} {H : Heap} : callO cx r i (.c (.fn g)) args H = doCall cx r i g args H := rfl
theorem callO_clo {r i : Nat} {g : FuncId} {a b : List AV} {args : List AV} {H : Heap} : callO cx r i (.clo g a b) args H = doCall cx r i g (a ++ args ++ b) H := rfl
theorem callO_yld {r i id : Nat} {args : List AV} {H : Heap} : callO cx r i (.yld id) args H = cx.round id args H := rfl
theorem doCall_frz {r i : Nat} {g : FuncId} {args args' : List AV} {H H1 H' : Heap} {v : AV} (hfr : cx.hints.framed g = false) (hr : cx.hints.raw cx.fn r i = false) (hk : cx.hints.keep cx.fn r i = false) (ha : args.all AV.pure = false) (hz : frzTup H args = some (args', H1))
    (hc : cx.call g args' [] = some (v, H')) (hs : v.scalar = true) : doCall cx r i g args H = some (v, H) := by
  unfold doCall pureCall
  rw [if_neg (by rw [hfr]; simp), if_neg (by rw [hr]; simp), if_neg (by rw [hk]; simp), if_neg (by rw [ha]; simp), hz]
  simp [hc, hs]
section
variable {r i : Nat} {F : Fr} {H : Heap} {dst : Option Tmp} {type : TypeId} {pos : String} {after : Array Edge} {guard : Option (Nat × Bool)}
theorem exec_move {x : Operand} : execA P cx r i F H ⟨dst, .move x, type, pos, after, guard⟩ = some (evalA F x, H) := rfl
theorem exec_assign {x : Operand} : execA P cx r i F H ⟨dst, .assign x, type, pos, after, guard⟩ = some (evalA F x, H) := rfl
def pickA (c a b : AV) : Option AV :=
  match c with
  | .c (.bool t) => some (if t = true then a else b)
  | _ => none
theorem pickA_bool {t : Bool} {a b : AV} : pickA (.c (.bool t)) a b = some (if t = true then a else b) := rfl
theorem exec_pick {c a b : Operand} : execA P cx r i F H ⟨dst, .pick c a b, type, pos, after, guard⟩ = valO H (pickA (evalA F c) (evalA F a) (evalA F b)) := by
  simp only [execA, pureOp, effOp, yieldA, calleeA]
  have : ∀ x : Option AV, (match x with | some v => some (v, H) | none => (none : Option (FuncId × List AV)).bind fun c => doCall cx r i c.1 c.2 H) = valO H x := by
    intro x; cases x <;> rfl
  exact this (pickA _ _ _)
theorem exec_load {t : TypeId} {x : Operand} : execA P cx r i F H ⟨dst, .load t x, type, pos, after, guard⟩ = valO H (loadA P H t (evalA F x)) := by
  simp only [execA, pureOp, effOp, yieldA, calleeA, valO]; split <;> simp_all
theorem exec_nilCheck {x : Operand} : execA P cx r i F H ⟨dst, .nilCheck x, type, pos, after, guard⟩ = valO H (nilCheckA (evalA F x)) := by
  simp only [execA, pureOp, effOp, yieldA, calleeA, valO]; split <;> simp_all
theorem exec_binOp {op : BinOp} {t yt : TypeId} {x y : Operand} : execA P cx r i F H ⟨dst, .binOp op t x y yt, type, pos, after, guard⟩ = valO H (binA P H op t (evalA F x) (evalA F y)) := by
  simp only [execA, pureOp, effOp, yieldA, calleeA, valO]; split <;> simp_all
theorem exec_unOp {op : UnOp} {t : TypeId} {x : Operand} : execA P cx r i F H ⟨dst, .unOp op t x, type, pos, after, guard⟩ = valO H (unA op (evalA F x)) := by
  simp only [execA, pureOp, effOp, yieldA, calleeA, valO]; split <;> simp_all
theorem exec_convert {s d : TypeId} {x : Operand} : execA P cx r i F H ⟨dst, .convert s d x, type, pos, after, guard⟩ = valO H (convA P s d (evalA F x)) := by
  simp only [execA, pureOp, effOp, yieldA, calleeA, valO]; split <;> simp_all
theorem exec_fieldAddr {s : TypeId} {x : Operand} {f : Nat} : execA P cx r i F H ⟨dst, .fieldAddr s x f, type, pos, after, guard⟩ = valO H (fieldAddrA P s (evalA F x) f) := by
  simp only [execA, pureOp, effOp, yieldA, calleeA, valO]; split <;> simp_all
theorem exec_field {s : TypeId} {x : Operand} {f : Nat} : execA P cx r i F H ⟨dst, .field s x f, type, pos, after, guard⟩ = valO H (fieldA P s (evalA F x) f) := by
  simp only [execA, pureOp, effOp, yieldA, calleeA, valO]; split <;> simp_all
theorem exec_indexAddr {t : TypeId} {x y : Operand} : execA P cx r i F H ⟨dst, .indexAddr t x y, type, pos, after, guard⟩ = valO H (indexAddrA P H t (evalA F x) (evalA F y)) := by
  simp only [execA, pureOp, effOp, yieldA, calleeA, valO]; split <;> simp_all
theorem exec_index {t : TypeId} {x y : Operand} : execA P cx r i F H ⟨dst, .index t x y, type, pos, after, guard⟩ = valO H (indexA P t (evalA F x) (evalA F y)) := by
  simp only [execA, pureOp, effOp, yieldA, calleeA, valO]; split <;> simp_all
theorem exec_slice {t : TypeId} {x : Operand} {lo hi mx : Option Operand} : execA P cx r i F H ⟨dst, .slice t x lo hi mx, type, pos, after, guard⟩ = valO H (sliceA P H t (evalA F x) (lo.map (evalA F)) (hi.map (evalA F)) (mx.map (evalA F))) := by
  simp only [execA, pureOp, effOp, yieldA, calleeA, valO]; split <;> simp_all
theorem exec_build {t : TypeId} {ps : Array (Nat × Operand)} : execA P cx r i F H ⟨dst, .build t ps, type, pos, after, guard⟩ = valO H (buildA P t (ps.toList.map fun p => (p.1, evalA F p.2))) := by
  simp only [execA, pureOp, effOp, yieldA, calleeA, valO]; split <;> simp_all
def extractA (v : AV) (i : Nat) : Option AV :=
  match v with
  | .tup vs => vs[i]?
  | _ => none
theorem exec_extract {t : Operand} {j : Nat} : execA P cx r i F H ⟨dst, .extract t j, type, pos, after, guard⟩ = valO H (extractA (evalA F t) j) := by
  simp only [execA, pureOp, effOp, yieldA, calleeA, valO, extractA]
  cases evalA F t <;> simp
  split <;> simp_all
theorem extractA_tup {vs : List AV} {j : Nat} : extractA (.tup vs) j = vs[j]? := rfl
theorem exec_makeFunc {f : FuncId} {a b : Array Operand} : execA P cx r i F H ⟨dst, .makeFunc (.func f) a b, type, pos, after, guard⟩ =
    some (if a.size = 0 ∧ b.size = 0 then .c (.fn f) else .clo f (a.toList.map (evalA F)) (b.toList.map (evalA F)), H) := by
  simp only [execA, pureOp]
theorem exec_alloc {t : TypeId} : execA P cx r i F H ⟨dst, .alloc t, type, pos, after, guard⟩ = allocS P H (cx.hints.slot cx.fn r i) t := by
  simp only [execA, pureOp, effOp, yieldA, calleeA]; split <;> simp_all
theorem allocS_none {t : TypeId} {H : Heap} : allocS P H none t = allocA P H t := rfl
theorem exec_box {t : TypeId} {x : Operand} : execA P cx r i F H ⟨dst, .box t x, type, pos, after, guard⟩ = boxA H t (evalA F x) := by
  simp only [execA, pureOp, effOp, yieldA, calleeA]; split <;> simp_all
def unkO (x : Option Heap) : Option (AV × Heap) :=
  match x with
  | some H => some (.unk, H)
  | none => none
theorem unkO_some {H : Heap} : unkO (some H) = some (.unk, H) := rfl
theorem exec_store {t : TypeId} {a x : Operand} : execA P cx r i F H ⟨dst, .store t a x, type, pos, after, guard⟩ = unkO (storeA P H t (evalA F a) (evalA F x)) := by
  simp only [execA, pureOp, effOp, yieldA, calleeA, unkO]
  cases storeA P H t (evalA F a) (evalA F x) <;> simp
def numO (x : Option (Nat × Heap)) : Option (AV × Heap) :=
  match x with
  | some r => some (.c (.int .i64 r.1), r.2)
  | none => none
theorem numO_some {r : Nat × Heap} : numO (some r) = some (.c (.int .i64 r.1), r.2) := rfl
def tupO (x : Option Heap) : Option (AV × Heap) :=
  match x with
  | some H => some (.tup [], H)
  | none => none
theorem tupO_some {H : Heap} : tupO (some H) = some (.tup [], H) := rfl
theorem exec_makeSlice {t : TypeId} {l c : Operand} : execA P cx r i F H ⟨dst, .makeSlice t l c, type, pos, after, guard⟩ = makeSliceA P H (cx.hints.slot cx.fn r i) t (evalA F l) (evalA F c) := by
  simp only [execA, pureOp, effOp, yieldA, calleeA]; split <;> simp_all
theorem exec_buildSlice {t : TypeId} {n : Nat} {ps : Array (Nat × Operand)} : execA P cx r i F H ⟨dst, .buildSlice t n ps, type, pos, after, guard⟩ = buildSliceA P H t n (ps.toList.map fun p => (p.1, evalA F p.2)) := by
  simp only [execA, pureOp, effOp, yieldA, calleeA]; split <;> simp_all
theorem exec_len {x : Operand} {t : TypeId} : execA P cx r i F H ⟨dst, .call ⟨.builtin .len, #[x], #[t]⟩, type, pos, after, guard⟩ = valO H (lenA P t (evalA F x)) := by
  simp only [execA, pureOp, effOp, yieldA, calleeA, valO]; split <;> simp_all
theorem exec_append {x y : Operand} {t : TypeId} : execA P cx r i F H ⟨dst, .call ⟨.builtin .append, #[x, y], #[t, t]⟩, type, pos, after, guard⟩ = appendA P H (cx.hints.slot cx.fn r i) t (evalA F x) (evalA F y) := by
  simp only [execA, pureOp, effOp, yieldA, calleeA, if_true]; split <;> simp_all
theorem exec_clear {x : Operand} {t : TypeId} : execA P cx r i F H ⟨dst, .call ⟨.builtin .clear, #[x], #[t]⟩, type, pos, after, guard⟩ = tupO (clearA P H t (evalA F x)) := by
  simp only [execA, pureOp, effOp, yieldA, calleeA, tupO]
  cases clearA P H t (evalA F x) <;> simp
theorem exec_copy {x y : Operand} {t t2 : TypeId} : execA P cx r i F H ⟨dst, .call ⟨.builtin .copy, #[x, y], #[t, t2]⟩, type, pos, after, guard⟩ = numO (copyA P H t (evalA F x) (evalA F y)) := by
  simp only [execA, pureOp, effOp, yieldA, calleeA, numO]
  cases copyA P H t (evalA F x) (evalA F y) <;> simp
theorem exec_lookup {t : TypeId} {x k : Operand} {ok : Bool} : execA P cx r i F H ⟨dst, .lookup t x k ok, type, pos, after, guard⟩ = valO H (lookupA P H t (evalA F x) (evalA F k) ok) := by
  simp only [execA, pureOp, effOp, yieldA, calleeA, valO]; split <;> simp_all
theorem exec_makeMap {t : TypeId} : execA P cx r i F H ⟨dst, .makeMap t none, type, pos, after, guard⟩ = some (.hmap H.length, H ++ [.map t []]) := by
  simp only [execA, pureOp, effOp, yieldA, calleeA, makeMapA, Option.map_none]
theorem exec_mapUpdate {t : TypeId} {m k x : Operand} : execA P cx r i F H ⟨dst, .mapUpdate t m k x, type, pos, after, guard⟩ = unkO (mapUpdateA P H t (evalA F m) (evalA F k) (evalA F x)) := by
  simp only [execA, pureOp, effOp, yieldA, calleeA, unkO]
  cases mapUpdateA P H t (evalA F m) (evalA F k) (evalA F x) <;> simp
theorem exec_cap {x : Operand} {t : TypeId} : execA P cx r i F H ⟨dst, .call ⟨.builtin .cap, #[x], #[t]⟩, type, pos, after, guard⟩ = valO H (capA P H t (evalA F x)) := by
  simp only [execA, pureOp, effOp, yieldA, calleeA, valO]; split <;> simp_all
theorem exec_min {x y : Operand} {ts : Array TypeId} : execA P cx r i F H ⟨dst, .call ⟨.builtin .min, #[x, y], ts⟩, type, pos, after, guard⟩ = valO H (foldA min2A (evalA F x) [evalA F y]) := by
  simp only [execA, pureOp, effOp, yieldA, calleeA, valO]; split <;> simp_all
theorem exec_max {x y : Operand} {ts : Array TypeId} : execA P cx r i F H ⟨dst, .call ⟨.builtin .max, #[x, y], ts⟩, type, pos, after, guard⟩ = valO H (foldA max2A (evalA F x) [evalA F y]) := by
  simp only [execA, pureOp, effOp, yieldA, calleeA, valO]; split <;> simp_all
theorem exec_mapEntry {t : TypeId} {m k : Operand} : execA P cx r i F H ⟨dst, .mapEntry t m k, type, pos, after, guard⟩ = mapEntryA P H t (evalA F m) (evalA F k) := by
  simp only [execA, pureOp, effOp, yieldA, calleeA]
  cases mapEntryA P H t (evalA F m) (evalA F k) <;> simp
theorem exec_entryStore {t : TypeId} {m s x : Operand} : execA P cx r i F H ⟨dst, .entryStore t m s x, type, pos, after, guard⟩ = unkO (entryStoreA H (evalA F m) (evalA F s) (evalA F x)) := by
  simp only [execA, pureOp, effOp, yieldA, calleeA, unkO]
  cases entryStoreA H (evalA F m) (evalA F s) (evalA F x) <;> simp
theorem exec_call {f : Operand} {args : Array Operand} {ts : Array TypeId} : execA P cx r i F H ⟨dst, .call ⟨.value f, args, ts⟩, type, pos, after, guard⟩ = callO cx r i (evalA F f) (args.toList.map (evalA F)) H := by
  simp only [execA, pureOp, effOp, yieldA, calleeA, callO]
  cases evalA F f <;> simp
  rename_i x
  cases x <;> simp
end
theorem evalA_tmp {n t : Nat} {l : Ass} (h : t < n) : evalA (fr n l) (.tmp t) = asc l t := get_fr h
theorem evalA_const {F : Fr} {v : Value} : evalA F (.const v) = ofValue v := rfl
theorem evalA_func {F : Fr} {f : FuncId} : evalA F (.func f) = .c (.fn f) := rfl
theorem ofValue_int {k : IntKind} {n : Int} : ofValue (.int k n) = .c (.int k n) := rfl
theorem ofValue_bool {b : Bool} : ofValue (.bool b) = .c (.bool b) := rfl
theorem ofValue_str {s : ByteArray} : ofValue (.string s) = .c (.str s) := rfl
theorem ofValue_nilp : ofValue (.pointer none) = .c .nilp := rfl
theorem ofValue_nils : ofValue (.slice none 0 0) = .c (.slice [] 0 true (some 0)) := rfl
theorem ofValue_nilm : ofValue (.map none) = .c .nilmap := rfl
theorem ofValue_nilf : ofValue .nilFunc = .c .nilfn := rfl
theorem binA_eq {H : Heap} {t : TypeId} {k k' : IntKind} {a b : Int} (h : k = k') : binA P H .eql t (.c (.int k a)) (.c (.int k' b)) = some (.c (.bool (decide (a = b)))) := by
  subst h; simp [binA, intOp, BEq.beq]
theorem binA_ne {H : Heap} {t : TypeId} {k k' : IntKind} {a b : Int} (h : k = k') : binA P H .neq t (.c (.int k a)) (.c (.int k' b)) = some (.c (.bool (!decide (a = b)))) := by
  subst h; simp [binA, intOp, bne, BEq.beq]
theorem binA_lt {H : Heap} {t : TypeId} {k k' : IntKind} {a b : Int} (h : k = k') : binA P H .lss t (.c (.int k a)) (.c (.int k' b)) = some (.c (.bool (decide (a < b)))) := by
  subst h; simp [binA, intOp]
theorem binA_le {H : Heap} {t : TypeId} {k k' : IntKind} {a b : Int} (h : k = k') : binA P H .leq t (.c (.int k a)) (.c (.int k' b)) = some (.c (.bool (decide (a ≤ b)))) := by
  subst h; simp [binA, intOp]
theorem binA_gt {H : Heap} {t : TypeId} {k k' : IntKind} {a b : Int} (h : k = k') : binA P H .gtr t (.c (.int k a)) (.c (.int k' b)) = some (.c (.bool (decide (b < a)))) := by
  subst h; simp [binA, intOp]
theorem binA_ge {H : Heap} {t : TypeId} {k k' : IntKind} {a b : Int} (h : k = k') : binA P H .geq t (.c (.int k a)) (.c (.int k' b)) = some (.c (.bool (decide (b ≤ a)))) := by
  subst h; simp [binA, intOp]
theorem binA_add {H : Heap} {t : TypeId} {k k' : IntKind} {a b : Int} (h : k = k') : binA P H .add t (.c (.int k a)) (.c (.int k' b)) = some (.c (.int k (k.wrap (a + b)))) := by
  subst h; simp [binA, intOp]
theorem binA_sub {H : Heap} {t : TypeId} {k k' : IntKind} {a b : Int} (h : k = k') : binA P H .sub t (.c (.int k a)) (.c (.int k' b)) = some (.c (.int k (k.wrap (a - b)))) := by
  subst h; simp [binA, intOp]
theorem binA_mul {H : Heap} {t : TypeId} {k k' : IntKind} {a b : Int} (h : k = k') : binA P H .mul t (.c (.int k a)) (.c (.int k' b)) = some (.c (.int k (k.wrap (a * b)))) := by
  subst h; simp [binA, intOp]
theorem binA_quo {H : Heap} {t : TypeId} {k k' : IntKind} {a b : Int} (h : k = k') : binA P H .quo t (.c (.int k a)) (.c (.int k' b)) = if b = 0 then none else some (.c (.int k (k.wrap (a.tdiv b)))) := by
  subst h; simp [binA, intOp]; split <;> simp
theorem binA_rem {H : Heap} {t : TypeId} {k k' : IntKind} {a b : Int} (h : k = k') : binA P H .rem t (.c (.int k a)) (.c (.int k' b)) = if b = 0 then none else some (.c (.int k (a.tmod b))) := by
  subst h; simp [binA, intOp]; split <;> simp
theorem binA_and {H : Heap} {t : TypeId} {k k' : IntKind} {a b : Int} (h : k = k') : binA P H .and t (.c (.int k a)) (.c (.int k' b)) = some (.c (.int k (k.wrap (BitVec.ofInt k.bits a &&& BitVec.ofInt k.bits b).toNat))) := by
  subst h; simp [binA, intOp]
theorem unA_not {b : Bool} : unA .not (.c (.bool b)) = some (.c (.bool !b)) := rfl
theorem unA_neg {k : IntKind} {n : Int} : unA .neg (.c (.int k n)) = some (.c (.int k (k.wrap (0 - n)))) := rfl
theorem wrap64 {n : Int} (h1 : -9223372036854775808 ≤ n) (h2 : n ≤ 9223372036854775807) : IntKind.wrap .i64 n = n := by
  have e : (2 ^ IntKind.bits .i64 : Int) = 18446744073709551616 := by decide
  have e2 : (2 ^ (IntKind.bits .i64 - 1) : Int) = 9223372036854775808 := by decide
  have e3 : IntKind.signed .i64 = true := rfl
  unfold IntKind.wrap
  simp only [e, e2, e3, Bool.true_and, decide_eq_true_eq]
  split <;> omega
def cellAt (o : Option AObj) (off : Nat) : Option AV :=
  match o with
  | some (.cells _ cs) => cs[off]?
  | _ => none
theorem cellAt_some {t : TypeId} {cs : List AV} {off : Nat} : cellAt (some (.cells t cs)) off = cs[off]? := rfl
def cellsAt (o : Option AObj) (off n : Nat) : Option AV :=
  match o with
  | some (.cells _ cs) => (takeCells cs off n).map .agg
  | _ => none
theorem cellsAt_some {t : TypeId} {cs : List AV} {off n : Nat} : cellsAt (some (.cells t cs)) off n = (takeCells cs off n).map .agg := rfl
theorem takeCells_eq {α : Type} {cs : List α} {off n : Nat} : takeCells cs off n = if off + n ≤ cs.length then some ((cs.drop off).take n) else none := rfl
theorem addrPlus_ptr {id off n : Nat} : addrPlus (.ptr id off) n = some (.ptr id (off + n)) := rfl
theorem addrPlus_eptr {id off ext n : Nat} : addrPlus (.eptr id off ext) n = some (.eptr id (off + n) ext) := rfl
theorem addrPlus_iptr {cells : List IV} {off n : Nat} : addrPlus (.c (.iptr cells off)) n = some (.c (.iptr cells (off + n))) := rfl
theorem nilCheckA_ptr {id off : Nat} : nilCheckA (.ptr id off) = some (.ptr id off) := rfl
theorem nilCheckA_iptr {cells : List IV} {off : Nat} : nilCheckA (.c (.iptr cells off)) = some (.c (.iptr cells off)) := rfl
theorem kcells_c {x : IV} : (AV.c x).kcells = [.c x] := rfl
theorem kcells_agg {cs : List AV} : (AV.agg cs).kcells = cs := rfl
theorem kcells_hsl {id off len ext sz : Nat} : (AV.hsl id off len ext sz).kcells = [.hsl id off len ext sz] := rfl
theorem kcells_ptr {id off : Nat} : (AV.ptr id off).kcells = [.ptr id off] := rfl
theorem isCell_c {x : IV} : (AV.c x).isCell = true := rfl
theorem isCell_hsl {id off len ext sz : Nat} : (AV.hsl id off len ext sz).isCell = true := rfl
theorem isCell_ptr {id off : Nat} : (AV.ptr id off).isCell = true := rfl
theorem isCell_yld {id : Nat} : (AV.yld id).isCell = true := rfl
theorem isCell_clo {f : FuncId} {a b : List AV} : (AV.clo f a b).isCell = true := rfl
theorem boxA_eq {H : Heap} {e : TypeId} {x : AV} (h : x.kcells.all AV.isCell = true) : boxA H e x = some (.ptr H.length 0, H ++ [.cells e x.kcells]) := if_pos h
def putO (H : Heap) (id off : Nat) (vs : List AV) (o : Option AObj) : Option Heap :=
  match o with
  | some (.cells e cs) => (putCells cs off vs).map fun cs' => H.set id (.cells e cs')
  | _ => none
theorem putO_some {H : Heap} {id off : Nat} {vs cs : List AV} {e : TypeId} : putO H id off vs (some (.cells e cs)) = (putCells cs off vs).map fun cs' => H.set id (.cells e cs') := rfl
theorem storeA_ptr {H : Heap} {t : TypeId} {id off : Nat} {x : AV} (hs : sizeT P t = some x.kcells.length) (hc : x.kcells.all AV.isCell = true) :
    storeA P H t (.ptr id off) x = putO H id off x.kcells H[id]? := by
  unfold storeA putO
  rw [if_pos hs]
  simp only [hc, if_true]
  cases H[id]? with
  | none => rfl
  | some o => cases o <;> rfl
theorem putCells_one {α : Type} {cs : List α} {off : Nat} {x : α} : putCells cs off [x] = if off < cs.length then some (cs.set off x) else none := rfl
theorem putCells_two {α : Type} {cs l : List α} {off : Nat} {x y : α} : putCells cs off (x :: y :: l) = if off + (x :: y :: l).length ≤ cs.length then some (cs.take off ++ (x :: y :: l) ++ cs.drop (off + (x :: y :: l).length)) else none := rfl
def sliceO (H : Heap) (sz : Nat) (x : AV) (lo hi : Option AV) : Option AV :=
  match x with
  | .c (.slice cells len nl cap) => (boundA len hi).bind fun h => (boundA 0 lo).bind fun l =>
    if l ≤ h ∧ h ≤ len ∧ cells.length = len * sz then some (.c (.slice ((cells.drop (l * sz)).take ((h - l) * sz)) (h - l) nl (cap.map (· - l)))) else none
  | .hsl id off len ext sz' => match lo, hi with
    | none, some (.cw true id2 off2 ext2 sz2) => if id2 = id ∧ off2 = off ∧ ext2 = ext ∧ sz2 = sz' ∧ sz' = sz ∧ 0 < sz ∧ (rowOf H id ext).isSome = true then some (.cw false id off ext sz') else none
    | _, _ => (boundA len hi).bind fun h => (boundA 0 lo).bind fun l =>
      if l ≤ h ∧ off + h * sz ≤ ext ∧ h ≤ len ∧ sz' = sz ∧ (rowOf H id ext).isSome = true then
        some (if l = h ∧ l ≠ 0 then .c (.slice [] 0 false none) else .hsl id (off + l * sz) (h - l) ext sz)
      else none
  | _ => none
theorem sliceO_cw {H : Heap} {sz id off len ext : Nat} (hs : 0 < sz) (hr : (rowOf H id ext).isSome = true) : sliceO H sz (.hsl id off len ext sz) none (some (.cw true id off ext sz)) = some (.cw false id off ext sz) := by
  show (if _ then _ else _) = _
  rw [if_pos ⟨rfl, rfl, rfl, rfl, rfl, hs, hr⟩]
def apO (e : TypeId) (sz by_ : Nat) (sl : Option Nat) (s : AV) (H : Heap) (x : Option (List IV × Nat)) : Option (AV × Heap) :=
  x.bind fun r =>
    match s with
    | .c (.slice cells len nl cap) =>
      if r.2 = 0 then some (.c (.slice cells len nl cap), H) else
      match cap with
      | some c => if c < len + r.2 ∧ (len + r.2) * by_ ≤ roomBytes ∧ cells.length = len * sz then
          match slotAt H sl with
          | some s => some (.hsl s 0 (len + r.2) ((len + r.2) * sz) sz, H.set s (.row false e (cells ++ r.1)))
          | none => some (.hsl H.length 0 (len + r.2) ((len + r.2) * sz) sz, H ++ [.row false e (cells ++ r.1)])
        else none
      | none => none
    | .hsl id off len ext sz' => (rowOf H id ext).bind fun q =>
      if r.2 = 0 then some (.hsl id off len ext sz', H) else
      if off = 0 ∧ sz' = sz ∧ len * sz ≤ ext ∧ (len + r.2) * by_ ≤ roomBytes ∧ q.1 = e ∧ rowLive H id = true then
        if (len + r.2) * sz ≤ ext then some (.hsl id 0 (len + r.2) ext sz, H.set id (.row false e (q.2.take (len * sz) ++ r.1 ++ q.2.drop ((len + r.2) * sz))))
        else some (.hsl id 0 (len + r.2) ((len + r.2) * sz) sz, H.set id (.row false e (q.2.take (len * sz) ++ r.1)))
      else none
    | _ => none
theorem apO_row {e : TypeId} {sz by_ m len id : Nat} {sl : Option Nat} {H : Heap} {cells cs : List IV} (h : 0 < m) (hb : (len + m) * by_ ≤ roomBytes) (hs : 0 < sz) (hr : H[id]? = some (.row false e cells)) (hl : cells.length = len * sz) :
    apO e sz by_ sl (.hsl id 0 len (len * sz) sz) H (some (cs, m)) = some (.hsl id 0 (len + m) ((len + m) * sz) sz, H.set id (.row false e (cells ++ cs))) := by
  have h1 : rowOf H id (len * sz) = some (e, cells) := by unfold rowOf; rw [hr]; simp [hl]
  have h2 : rowLive H id = true := by unfold rowLive; rw [hr]
  have h3 : ¬ (len + m) * sz ≤ len * sz := by
    have := (Nat.mul_lt_mul_right hs).2 (show len < len + m by omega)
    omega
  simp only [apO, Option.bind_some, h1]
  rw [if_neg (by omega)]
  simp only [h2, hb, h3, true_and, and_true, Nat.le_refl, if_true, if_false]
  rw [← hl, List.take_length]
def rowO (o : Option AObj) (ext : Nat) : Option (TypeId × List IV) :=
  match o with
  | some (.row _ t cs) => if cs.length = ext then some (t, cs) else none
  | _ => none
theorem rowOf_rowO {H : Heap} {id ext : Nat} : rowOf H id ext = rowO H[id]? ext := rfl
theorem rowO_some {fz : Bool} {t : TypeId} {cs : List IV} {ext : Nat} : rowO (some (.row fz t cs)) ext = if cs.length = ext then some (t, cs) else none := rfl
theorem rowOf_eq {H : Heap} {id ext : Nat} {fz : Bool} {t : TypeId} {cells : List IV} (hr : H[id]? = some (.row fz t cells)) (hl : cells.length = ext) : rowOf H id ext = some (t, cells) := by
  unfold rowOf; rw [hr]; simp [hl]
def finV (H : Heap) (x : Option (List AV)) : Option (AV × Heap) :=
  match x with
  | some [v] => some (v, H)
  | some vs => some (.tup vs, H)
  | none => none
theorem finV_one {H : Heap} {v : AV} : finV H (some [v]) = some (v, H) := rfl
theorem finV_nil {H : Heap} : finV H (some []) = some (.tup [], H) := rfl
theorem finV_more {H : Heap} {v v2 : AV} {vs : List AV} : finV H (some (v :: v2 :: vs)) = some (.tup (v :: v2 :: vs), H) := rfl
noncomputable def finishO (P : Program) (rs : List ResultVar) (x : Option Out) : Option (AV × Heap) :=
  match x with
  | some (.norm F H) => finV H (resultsL P F H rs)
  | some (.ret F H) => finV H (resultsL P F H rs)
  | _ => none
theorem finishO_norm {rs : List ResultVar} {F : Fr} {H : Heap} : finishO P rs (some (.norm F H)) = finV H (resultsL P F H rs) := rfl
theorem finishO_ret {rs : List ResultVar} {F : Fr} {H : Heap} : finishO P rs (some (.ret F H)) = finV H (resultsL P F H rs) := rfl
def consO (x : Option AV) (y : Option (List AV)) : Option (List AV) := x.bind fun v => y.map fun vs => v :: vs
theorem consO_some {v : AV} {vs : List AV} : consO (some v) (some vs) = some (v :: vs) := rfl
theorem resultsL_nil {F : Fr} {H : Heap} : resultsL P F H [] = some [] := rfl
theorem resultsL_cons {F : Fr} {H : Heap} {r : ResultVar} {rs : List ResultVar} : resultsL P F H (r :: rs) = consO (resultA P F H r) (resultsL P F H rs) := rfl
theorem resultA_tmp {n t : Nat} {l : Ass} {H : Heap} (h : t < n) : resultA P (fr n l) H (.tmp t) = some (asc l t) := by rw [resultA, get_fr h]
theorem resultA_cell {n a : Nat} {t : TypeId} {l : Ass} {H : Heap} (h : a < n) : resultA P (fr n l) H (.cell a t) = loadA P H t (asc l a) := by rw [resultA, get_fr h]
noncomputable def cxG (P : Program) (h : Hints) (k : Nat) (f : FuncId) (ar : Option Nat) : Cx := ⟨h, f, k, fun g => evalT P h k (.fn g), fun i => evalT P h k (.round i), ar⟩
theorem cxG_hints {h : Hints} {k : Nat} {ar : Option Nat} {f : FuncId} : (cxG P h k f ar).hints = h := rfl
theorem cxG_fn {h : Hints} {k : Nat} {ar : Option Nat} {f : FuncId} : (cxG P h k f ar).fn = f := rfl
theorem cxG_round {h : Hints} {k : Nat} {ar : Option Nat} {f id : Nat} {args : List AV} {H : Heap} : (cxG P h k f ar).round id args H = evalT P h k (.round id) args H := rfl
theorem cxG_call {h : Hints} {k : Nat} {ar : Option Nat} {f g : FuncId} {args : List AV} {H : Heap} : (cxG P h k f ar).call g args H = evalT P h k (.fn g) args H := rfl
noncomputable def trimO (m : Nat) (x : Option (AV × Heap)) : Option (AV × Heap) := x.map (trimV m)
theorem trimO_some {m : Nat} {v : AV} {H : Heap} : trimO m (some (v, H)) = some (trimV m (v, H)) := rfl
theorem evalT_fn (n : Nat) {h : Hints} {k f : Nat} {fn : Func} {c : Code} {args : List AV} {H : Heap} (hf : P.funcs[f]? = some fn) (hb : fn.body = some c) (hn : (fn.name == "runtime.NumGoroutine") = false) (hN : args.length + (fn.ntmps - args.length) = n) (hs : h.special f = false := by rfl) :
    evalT P h (k + 1) (.fn f) args H = trimO H.length (finishO P fn.results.toList (evalCode P (cxG P h k f none) c (fillArgs (fr n []) 0 args) (H ++ List.replicate (h.slots f) .slot))) := by
  subst hN
  rw [evalT, if_neg (by rw [hs]; simp), hf]
  simp only [hb, hn, if_true]
  rw [runBody, frame0_eq]
  have : ∀ (F' : Fr) (H' : Heap), ((resultsA P fn F' H').map fun v => (v, H')) = finV H' (resultsL P F' H' fn.results.toList) := by
    intro F' H'
    rw [resultsA]
    rcases resultsL P F' H' fn.results.toList with _ | vs
    · rfl
    · rcases vs with _ | ⟨v, _ | ⟨v2, vs⟩⟩ <;> rfl
  unfold finishO trimO
  simp only [cxG]
  cases evalCode P ⟨h, f, k, fun g => evalT P h k (.fn g), fun i => evalT P h k (.round i), none⟩ c (fillArgs (fr (args.length + (fn.ntmps - args.length)) []) 0 args) (H ++ List.replicate (h.slots f) .slot) with
  | none => rfl
  | some o => cases o <;> simp [this]
def ans (x : Option (AV × Heap)) : Option AV := x.bind fun r => (frzR r.2 r.1).map fun s => s.1
theorem ans_c {x : IV} {H : Heap} : ans (some (.c x, H)) = some (.c x) := rfl
theorem ans_clo {f : FuncId} {a b : List AV} {H : Heap} : ans (some (.clo f a b, H)) = none := rfl
theorem ans_tup0 {H : Heap} : ans (some (.tup [], H)) = some (.tup []) := rfl
theorem frz_take {m : Nat} {H : Heap} {x : AV} (hx : x.under0 m = true) : frz (H.take m) x = (frz H x).map fun r => (r.1, r.2.take m) := by
  cases x with
  | c y => rfl
  | hsl id off len ext sz =>
    have hlt : id < m := of_decide_eq_true hx
    have hr : rowOf (H.take m) id ext = rowOf H id ext := by unfold rowOf; rw [List.getElem?_take_of_lt hlt]
    show ((rowOf (H.take m) id ext).bind _) = ((rowOf H id ext).bind _).map _
    rw [hr]
    cases rowOf H id ext with
    | none => rfl
    | some r =>
      simp only [Option.bind_some]
      split
      · simp only [Option.map_some, List.take_set]
      · rfl
  | _ => rfl
theorem frzs_take {m : Nat} : ∀ {xs : List AV} {H : Heap}, (xs.all (AV.under0 m)) = true → frzs (H.take m) xs = (frzs H xs).map fun r => (r.1, r.2.take m)
  | [], _, _ => rfl
  | x :: xs, H, hx => by
    rw [List.all_cons, Bool.and_eq_true] at hx
    simp only [frzs]
    rw [frz_take hx.1]
    cases frz H x with
    | none => rfl
    | some r =>
      simp only [Option.map_some, Option.bind_some]
      rw [frzs_take hx.2]
      cases frzs r.2 xs <;> rfl
theorem frzV_take {m : Nat} {H : Heap} {x : AV} (hx : x.under m = true) : frzV (H.take m) x = (frzV H x).map fun r => (r.1, r.2.take m) := by
  have one : ∀ y : AV, y.under0 m = true → ((frz (H.take m) y).map fun r => (AV.c r.1, r.2)) = ((frz H y).map fun r => (AV.c r.1, r.2)).map fun r => (r.1, r.2.take m) := by
    intro y hy
    rw [frz_take hy]
    cases frz H y <;> rfl
  cases x with
  | agg cs =>
    show (frzs (H.take m) cs).map _ = ((frzs H cs).map _).map _
    rw [frzs_take hx]
    cases frzs H cs <;> rfl
  | c y => exact one (.c y) rfl
  | hsl id off len ext sz => exact one (.hsl id off len ext sz) hx
  | cw => rfl
  | unk => rfl
  | tup vs => rfl
  | ptr => rfl
  | eptr => rfl
  | hmap => rfl
  | yld => rfl
  | clo => rfl
theorem frzTup_take {m : Nat} : ∀ {xs : List AV} {H : Heap}, (xs.all (AV.under m)) = true → frzTup (H.take m) xs = (frzTup H xs).map fun r => (r.1, r.2.take m)
  | [], _, _ => rfl
  | x :: xs, H, hx => by
    rw [List.all_cons, Bool.and_eq_true] at hx
    simp only [frzTup]
    rw [frzV_take hx.1]
    cases frzV H x with
    | none => rfl
    | some r =>
      simp only [Option.map_some, Option.bind_some]
      rw [frzTup_take hx.2]
      cases frzTup r.2 xs <;> rfl
theorem ans_trim {m : Nat} {x : Option (AV × Heap)} : ans (trimO m x) = ans x := by
  rcases x with _ | ⟨v, H⟩
  · rfl
  · rw [trimO_some]
    unfold trimV
    split
    · rename_i h
      have hv := h.1
      show ((frzR (H.take m) v).map fun s => s.1) = (frzR H v).map fun s => s.1
      cases v with
      | tup vs =>
        show ((frzTup (H.take m) vs).map fun r => (AV.tup r.1, r.2)).map _ = ((frzTup H vs).map fun r => (AV.tup r.1, r.2)).map _
        rw [frzTup_take hv]
        cases frzTup H vs <;> rfl
      | _ =>
        simp only [frzR]
        rw [frzV_take (by simpa only [AV.underV] using hv), Option.map_map]
        rfl
    · rfl
theorem ans_hsl {id off len ext sz : Nat} {H : Heap} : ans (some (.hsl id off len ext sz, H)) = (rowOf H id ext).bind fun r => if off + len * sz ≤ ext then some (.c (.slice ((r.2.drop off).take (len * sz)) len false none)) else none := by
  unfold ans frzR frzV frz
  simp only [Option.bind_some]
  cases rowOf H id ext with
  | none => rfl
  | some q => simp only [Option.bind_some]; split <;> rfl
def ansO (a : Option AV) (x : Option (AV × Heap)) (H : Heap) : Option (AV × Heap) :=
  match a with
  | some v => some (v, H)
  | none => x
theorem ansO_none {x : Option (AV × Heap)} {H : Heap} : ansO none x H = x := rfl
theorem ansO_some {v : AV} {x : Option (AV × Heap)} {H : Heap} : ansO (some v) x H = some (v, H) := rfl
theorem doCall_ans {r i : Nat} {g : FuncId} {args : List AV} {H : Heap} (hfr : cx.hints.framed g = false) (hr : cx.hints.raw cx.fn r i = false) (hk : cx.hints.keep cx.fn r i = false) (ha : args.all AV.pure = true) :
    doCall cx r i g args H = ansO (ans (cx.call g args [])) (cx.call g args H) H := by
  unfold doCall pureCall
  rw [if_neg (by rw [hfr]; simp), if_neg (by rw [hr]; simp), if_neg (by rw [hk]; simp), if_pos ha]
  unfold ans ansO
  rcases cx.call g args [] with _ | ⟨v, H'⟩
  · rfl
  · simp only [Option.bind_some]
    cases frzR H' v <;> rfl
theorem frzTup_nil {H : Heap} : frzTup H [] = some ([], H) := rfl
def frz2 (x : Option (AV × Heap)) (f : Heap → Option (List AV × Heap)) : Option (List AV × Heap) := x.bind fun r => (f r.2).bind fun s => some (r.1 :: s.1, s.2)
theorem frz2_some {v : AV} {H : Heap} {f : Heap → Option (List AV × Heap)} : frz2 (some (v, H)) f = (f H).bind fun s => some (v :: s.1, s.2) := rfl
theorem frzTup_cons {H : Heap} {x : AV} {xs : List AV} : frzTup H (x :: xs) = frz2 (frzV H x) (fun H => frzTup H xs) := rfl
theorem frzV_c {H : Heap} {x : IV} : frzV H (.c x) = some (.c x, H) := rfl
theorem frzV_hsl {H : Heap} {id off len ext sz : Nat} : frzV H (.hsl id off len ext sz) = (frz H (.hsl id off len ext sz)).map fun r => (.c r.1, r.2) := rfl
theorem frzV_agg {H : Heap} {cs : List AV} : frzV H (.agg cs) = (frzs H cs).map fun r => (.agg (r.1.map .c), r.2) := rfl
theorem frzs_nil {H : Heap} : frzs H [] = some ([], H) := rfl
theorem frzs_cell {H : Heap} {x : IV} {xs : List AV} : frzs H (.c x :: xs) = (frzs H xs).bind fun s => some (x :: s.1, s.2) := rfl
theorem frzs_hsl {H : Heap} {id off len ext sz : Nat} {xs : List AV} : frzs H (.hsl id off len ext sz :: xs) = (frz H (.hsl id off len ext sz)).bind fun r => (frzs r.2 xs).bind fun s => some (r.1 :: s.1, s.2) := rfl
theorem frz_hsl {H : Heap} {id off len ext sz : Nat} : frz H (.hsl id off len ext sz) = (rowOf H id ext).bind fun r => if off + len * sz ≤ ext then some (.slice ((r.2.drop off).take (len * sz)) len false none, H.set id (.row true r.1 r.2)) else none := rfl
def IV.strict : IV → Bool
  | .slice _ _ _ _ => false
  | .iptr _ _ => false
  | _ => true
def AV.strict0 : AV → Bool
  | .c x => x.strict
  | _ => false
def AV.strict1 : AV → Bool
  | .c x => x.strict
  | .agg cs => cs.all AV.strict0
  | _ => false
def AV.strict : AV → Bool
  | .tup vs => vs.all AV.strict1
  | x => x.strict1
theorem strict_c {x : IV} : (AV.c x).strict = x.strict := rfl
theorem strict_agg {cs : List AV} : (AV.agg cs).strict = cs.all AV.strict0 := rfl
theorem strict_tup {vs : List AV} : (AV.tup vs).strict = vs.all AV.strict1 := rfl
theorem strict1_c {x : IV} : (AV.c x).strict1 = x.strict := rfl
theorem strict1_agg {cs : List AV} : (AV.agg cs).strict1 = cs.all AV.strict0 := rfl
theorem strict0_c {x : IV} : (AV.c x).strict0 = x.strict := rfl
theorem strict_int {k : IntKind} {n : Int} : (IV.int k n).strict = true := rfl
theorem strict_bool {b : Bool} : (IV.bool b).strict = true := rfl
theorem strict_str {b : ByteArray} : (IV.str b).strict = true := rfl
theorem frz_strict {H : Heap} {x : AV} {r : IV × Heap} (h : frz H x = some r) (hs : r.1.strict = true) : x = .c r.1 ∧ r.2 = H ∧ r.1.scalar = true := by
  cases x with
  | c y =>
    simp only [frz, Option.some.injEq] at h
    subst h
    refine ⟨rfl, rfl, ?_⟩
    cases y <;> first | rfl | cases hs
  | hsl id off len ext sz =>
    rw [frz_hsl] at h
    obtain ⟨q, _, h⟩ := Option.bind_eq_some_iff.1 h
    split at h
    · injection h with h; subst h; cases hs
    · cases h
  | _ => cases h
theorem frzs_strict : ∀ {H : Heap} {cs : List AV} {r : List IV × Heap}, frzs H cs = some r → (r.1.all IV.strict) = true → cs = r.1.map .c ∧ r.2 = H ∧ cs.all AV.scalar0 = true
  | H, [], r, h, _ => by simp only [frzs, Option.some.injEq] at h; subst h; exact ⟨rfl, rfl, rfl⟩
  | H, x :: xs, r, h, hs => by
    rw [frzs] at h
    obtain ⟨q, h1, h⟩ := Option.bind_eq_some_iff.1 h
    obtain ⟨s, h2, h⟩ := Option.bind_eq_some_iff.1 h
    injection h with h
    subst h
    rw [List.all_cons, Bool.and_eq_true] at hs
    obtain ⟨e1, e2, e3⟩ := frz_strict h1 hs.1
    obtain ⟨e4, e5, e6⟩ := frzs_strict h2 hs.2
    subst e1
    refine ⟨by rw [e4]; rfl, by rw [e5, e2], ?_⟩
    rw [List.all_cons, e6, Bool.and_true]
    exact e3
theorem frzV_strict {H : Heap} {x : AV} {r : AV × Heap} (h : frzV H x = some r) (hs : r.1.strict1 = true) : x = r.1 ∧ r.2 = H ∧ x.scalar1 = true := by
  have one : ∀ {y : AV} {s : AV × Heap}, ((frz H y).map fun r => (AV.c r.1, r.2)) = some s → s.1.strict1 = true → y = s.1 ∧ s.2 = H ∧ y.scalar1 = true := by
    intro y s h hs
    obtain ⟨q, h1, rfl⟩ := Option.map_eq_some_iff.1 h
    obtain ⟨e1, e2, e3⟩ := frz_strict h1 hs
    subst e1
    exact ⟨rfl, e2, e3⟩
  cases x with
  | agg cs =>
    obtain ⟨q, h1, rfl⟩ := Option.map_eq_some_iff.1 h
    have : q.1.all IV.strict = true := by
      have h2 : (q.1.map AV.c).all AV.strict0 = true := hs
      rw [List.all_map] at h2
      exact h2
    obtain ⟨e1, e2, e3⟩ := frzs_strict h1 this
    subst e1
    exact ⟨rfl, e2, e3⟩
  | c y => exact one h hs
  | hsl id off len ext sz => exact one h hs
  | _ => cases h
theorem frzTup_strict : ∀ {H : Heap} {xs : List AV} {r : List AV × Heap}, frzTup H xs = some r → r.1.all AV.strict1 = true → xs = r.1 ∧ r.2 = H ∧ xs.all AV.scalar1 = true
  | H, [], r, h, _ => by simp only [frzTup, Option.some.injEq] at h; subst h; exact ⟨rfl, rfl, rfl⟩
  | H, x :: xs, r, h, hs => by
    rw [frzTup] at h
    obtain ⟨q, h1, h⟩ := Option.bind_eq_some_iff.1 h
    obtain ⟨s, h2, h⟩ := Option.bind_eq_some_iff.1 h
    injection h with h
    subst h
    rw [List.all_cons, Bool.and_eq_true] at hs
    obtain ⟨e1, e2, e3⟩ := frzV_strict h1 hs.1
    obtain ⟨e4, e5, e6⟩ := frzTup_strict h2 hs.2
    subst e1
    refine ⟨by rw [e4], by rw [e5, e2], ?_⟩
    rw [List.all_cons, e6, Bool.and_true]
    exact e3
theorem ans_strict {x : Option (AV × Heap)} {v : AV} (h : ans x = some v) (hs : v.strict = true) : ∃ H, x = some (v, H) ∧ v.scalar = true := by
  obtain ⟨⟨u, H⟩, rfl, h⟩ := Option.bind_eq_some_iff.1 h
  obtain ⟨s, h1, rfl⟩ := Option.map_eq_some_iff.1 h
  have two : ∀ (y : AV), frzV H y = some s → (∀ vs, y ≠ .tup vs) → s.1.strict = true → y = s.1 ∧ y.scalar = true := by
    intro y hy hne hs
    have hs1 : s.1.strict1 = true := by
      cases y with
      | agg cs =>
        rw [frzV_agg] at hy
        obtain ⟨q, _, rfl⟩ := Option.map_eq_some_iff.1 hy
        exact hs
      | c z =>
        rw [frzV_c] at hy
        injection hy with hy
        subst hy
        exact hs
      | hsl id off len ext sz =>
        rw [frzV_hsl] at hy
        obtain ⟨q, _, rfl⟩ := Option.map_eq_some_iff.1 hy
        exact hs
      | _ => cases hy
    obtain ⟨e1, e2, e3⟩ := frzV_strict hy hs1
    refine ⟨e1, ?_⟩
    cases y with
    | tup vs => exact absurd rfl (hne vs)
    | _ => exact e3
  by_cases hu : ∃ vs, u = .tup vs
  · obtain ⟨vs, rfl⟩ := hu
    obtain ⟨q, h2, rfl⟩ := Option.map_eq_some_iff.1 (show (frzTup H vs).map (fun r => (AV.tup r.1, r.2)) = some s from h1)
    obtain ⟨e1, e2, e3⟩ := frzTup_strict h2 hs
    subst e1
    exact ⟨H, rfl, e3⟩
  · have h2 : frzV H u = some s := by
      have h1' : frzR H u = some s := h1
      cases u with
      | tup vs => exact absurd ⟨vs, rfl⟩ hu
      | _ => exact h1'
    obtain ⟨e1, e2⟩ := two u h2 (fun vs h => hu ⟨vs, h⟩) hs
    exact ⟨H, by rw [e1], e1 ▸ e2⟩
def doCallS (cx : Cx) (r i : Nat) (g : FuncId) (args : List AV) (H : Heap) : Option (AV × Heap) := doCall cx r i g args H
def frzD (a : Option AV) (H : Heap) (x : Option (AV × Heap)) : Option (AV × Heap) :=
  match a with
  | some v => if v.strict = true then some (v, H) else x
  | none => x
theorem frzD_some {v : AV} {H : Heap} {x : Option (AV × Heap)} : frzD (some v) H x = if v.strict = true then some (v, H) else x := rfl
def frzC (call : List AV → Option (AV × Heap)) (raw : Option (AV × Heap)) (a : Option (List AV × Heap)) (H : Heap) (x : Option (AV × Heap)) : Option (AV × Heap) :=
  match a with
  | some a => frzD (ans (call a.1)) H x
  | none => raw
theorem frzC_none {call : List AV → Option (AV × Heap)} {raw : Option (AV × Heap)} {H : Heap} {x : Option (AV × Heap)} : frzC call raw none H x = raw := rfl
theorem frzC_some {call : List AV → Option (AV × Heap)} {raw : Option (AV × Heap)} {as : List AV} {H H1 : Heap} {x : Option (AV × Heap)} : frzC call raw (some (as, H1)) H x = frzD (ans (call as)) H x := rfl
theorem doCall_frzC {r i : Nat} {g : FuncId} {args : List AV} {H : Heap} (hfr : cx.hints.framed g = false) (hr : cx.hints.raw cx.fn r i = false) (hk : cx.hints.keep cx.fn r i = false) (ha : args.all AV.pure = false) :
    doCall cx r i g args H = frzC (fun as => cx.call g as []) (cx.call g args H) (frzTup H args) H (doCallS cx r i g args H) := by
  cases hz : frzTup H args with
  | none =>
    rw [frzC_none]
    unfold doCall pureCall
    rw [if_neg (by rw [hfr]; simp), if_neg (by rw [hr]; simp), if_neg (by rw [hk]; simp), if_neg (by rw [ha]; simp), hz]
    rfl
  | some a =>
    show _ = frzD (ans (cx.call g a.1 [])) H _
    cases hv : ans (cx.call g a.1 []) with
    | none => rfl
    | some v =>
      rw [frzD_some]
      split
      · rename_i hs
        obtain ⟨H', e, hsc⟩ := ans_strict hv hs
        exact doCall_frz hfr hr hk ha hz e hsc
      · rfl
theorem pure_c {x : IV} : (AV.c x).pure = true := rfl
theorem pure_agg {cs : List AV} : (AV.agg cs).pure = cs.all AV.pure0 := rfl
theorem pure0_c {x : IV} : (AV.c x).pure0 = true := rfl
def opsIn (r : Nat) : Code → Option (Array Oper)
  | .region id ops _ => if id = r then some ops else none
  | .seq a b => (opsIn r a).or (opsIn r b)
  | .cond _ a b => (opsIn r a).or (opsIn r b)
  | .block _ b => opsIn r b
  | .loop b => opsIn r b
  | .scope b => opsIn r b
  | .rangeFunc _ _ a b => (opsIn r a).or (opsIn r b)
  | _ => none
def opsOf (fn : Func) (r : Nat) : Array Oper := match fn.body with
  | some c => (opsIn r c).getD #[]
  | none => #[]
def drawFact (fn : Func) (r : Nat) (ms : List Nat) : Bool := regionOk (opsOf fn r) && decide (masksL (opsOf fn r).toList [] = ms)
noncomputable def drawFin (P : Program) (ms : List Nat) (F : Fr) (H : Heap) (x : Option (List Rec)) : Option (Fr × Heap) :=
  match x with
  | some rs => if effsOk ms rs 0 [] false = true ∧ readsAll P ms H rs rs 0 = true then some (lastF rs F, lastH rs H) else none
  | none => none
theorem drawFin_some {ms : List Nat} {F : Fr} {H : Heap} {rs : List Rec} : drawFin P ms F H (some rs) = if effsOk ms rs 0 [] false = true ∧ readsAll P ms H rs rs 0 = true then some (lastF rs F, lastH rs H) else none := rfl
theorem evalCode_drawn (fn : Func) (r : Nat) {ms : List Nat} (hd : drawFact fn r ms = true) {ops : Array Oper} {F : Fr} {H : Heap} (ho : opsOf fn r = ops) :
    evalCode P cx (.region r ops true) F H = regO (drawFin P ms F H (drawGo P cx r ops ops.toList 0 F H)) := by
  subst ho
  unfold drawFact at hd
  rw [Bool.and_eq_true, decide_eq_true_eq] at hd
  simp only [evalCode, if_true, evalDraw, hd.1]
  rw [hd.2]
  unfold drawFin
  rcases drawGo P cx r (opsOf fn r) (opsOf fn r).toList 0 F H with _ | rs
  · rfl
  · simp only [Option.bind_some]
    split <;> rfl
noncomputable def freeV (P : Program) (cx : Cx) (r i : Nat) (ρ : Operand → AV) (o : Oper) : Option AV :=
  match freeBuild P ρ o with
  | some v => some v
  | none => freeCall cx r i ρ o
noncomputable def drawE (P : Program) (cx : Cx) (r : Nat) (ops : Array Oper) (o : Oper) (os : List Oper) (i : Nat) (F : Fr) (H : Heap) (x : Option (AV × Heap)) : Option (List Rec) :=
  match x with
  | some s => (drawGo P cx r ops os (i + 1) (setD F o.dst s.1) s.2).map (⟨o, s.1, true, true, false, F, H, s.2⟩ :: ·)
  | none => none
noncomputable def drawQ (P : Program) (cx : Cx) (r : Nat) (ops : Array Oper) (o : Oper) (os : List Oper) (i : Nat) (F : Fr) (H : Heap) (x : Option AV) (y : Option (AV × Heap)) : Option (List Rec) :=
  match x with
  | some v => (drawGo P cx r ops os (i + 1) (setD F o.dst v) H).map (⟨o, v, false, true, true, F, H, H⟩ :: ·)
  | none => drawE P cx r ops o os i F H y
noncomputable def drawP (P : Program) (cx : Cx) (r : Nat) (ops : Array Oper) (o : Oper) (os : List Oper) (i : Nat) (F : Fr) (H : Heap) (x y : Option AV) (z : Option (AV × Heap)) : Option (List Rec) :=
  match x with
  | some v => (drawGo P cx r ops os (i + 1) (setD F o.dst v) H).map (⟨o, v, false, true, false, F, H, H⟩ :: ·)
  | none => drawQ P cx r ops o os i F H y z
noncomputable def drawN (P : Program) (cx : Cx) (r : Nat) (ops : Array Oper) (o : Oper) (os : List Oper) (i : Nat) (F : Fr) (H : Heap) : Option (List Rec) :=
  (drawGo P cx r ops os (i + 1) (setD F o.dst (.tup [])) H).map (⟨o, .tup [], false, false, false, F, H, H⟩ :: ·)
noncomputable def drawG (v : AV) (want : Bool) (x y : Option (List Rec)) : Option (List Rec) :=
  match v with
  | .c (.bool b) => if b = want then x else y
  | .tup [] => y
  | _ => none
section
variable {r : Nat} {ops : Array Oper} {i : Nat} {F : Fr} {H : Heap} {dst : Option Tmp} {op : Op} {type : TypeId} {pos : String} {after : Array Edge} {os : List Oper} {guard : Option (Nat × Bool)}
theorem drawE_some {v : AV} {H' : Heap} : drawE P cx r ops ⟨dst, op, type, pos, after, guard⟩ os i F H (some (v, H')) = (drawGo P cx r ops os (i + 1) (setD F dst v) H').map (⟨⟨dst, op, type, pos, after, guard⟩, v, true, true, false, F, H, H'⟩ :: ·) := rfl
theorem drawQ_some {v : AV} {y : Option (AV × Heap)} : drawQ P cx r ops ⟨dst, op, type, pos, after, guard⟩ os i F H (some v) y = (drawGo P cx r ops os (i + 1) (setD F dst v) H).map (⟨⟨dst, op, type, pos, after, guard⟩, v, false, true, true, F, H, H⟩ :: ·) := rfl
theorem drawQ_none {y : Option (AV × Heap)} : drawQ P cx r ops ⟨dst, op, type, pos, after, guard⟩ os i F H none y = drawE P cx r ops ⟨dst, op, type, pos, after, guard⟩ os i F H y := rfl
theorem drawP_some {v : AV} {y : Option AV} {z : Option (AV × Heap)} : drawP P cx r ops ⟨dst, op, type, pos, after, guard⟩ os i F H (some v) y z = (drawGo P cx r ops os (i + 1) (setD F dst v) H).map (⟨⟨dst, op, type, pos, after, guard⟩, v, false, true, false, F, H, H⟩ :: ·) := rfl
theorem drawP_none {y : Option AV} {z : Option (AV × Heap)} : drawP P cx r ops ⟨dst, op, type, pos, after, guard⟩ os i F H none y z = drawQ P cx r ops ⟨dst, op, type, pos, after, guard⟩ os i F H y z := rfl
theorem drawN_eq : drawN P cx r ops ⟨dst, op, type, pos, after, guard⟩ os i F H = (drawGo P cx r ops os (i + 1) (setD F dst (.tup [])) H).map (⟨⟨dst, op, type, pos, after, guard⟩, .tup [], false, false, false, F, H, H⟩ :: ·) := rfl
theorem drawG_true {b : Bool} {x y : Option (List Rec)} : drawG (.c (.bool b)) true x y = if b = true then x else y := rfl
theorem drawG_false {b : Bool} {x y : Option (List Rec)} : drawG (.c (.bool b)) false x y = if b = true then y else x := by cases b <;> rfl
theorem drawG_tup {want : Bool} {x y : Option (List Rec)} : drawG (.tup []) want x y = y := rfl
theorem drawGo_nil : drawGo P cx r ops [] i F H = some [] := rfl
theorem drawX (o : Oper) : (match pureOp P (evalA F) H o with
      | some v => (drawGo P cx r ops os (i + 1) (setD F o.dst v) H).map (⟨o, v, false, true, false, F, H, H⟩ :: ·)
      | none => match (match freeBuild P (evalA F) o with | some v => some v | none => freeCall cx r i (evalA F) o) with
        | some v => (drawGo P cx r ops os (i + 1) (setD F o.dst v) H).map (⟨o, v, false, true, true, F, H, H⟩ :: ·)
        | none => match execD P cx r i F H o with
          | some s => (drawGo P cx r ops os (i + 1) (setD F o.dst s.1) s.2).map (⟨o, s.1, true, true, false, F, H, s.2⟩ :: ·)
          | none => none) = drawP P cx r ops o os i F H (pureOp P (evalA F) H o) (freeV P cx r i (evalA F) o) (execA P cx r i F H o) := by
  unfold drawP
  cases pureOp P (evalA F) H o with
  | some v => rfl
  | none =>
    unfold drawQ freeV drawE execD
    simp only
    cases freeBuild P (evalA F) o with
    | some v => rfl
    | none => cases freeCall cx r i (evalA F) o <;> rfl
theorem drawGo_free : drawGo P cx r ops (⟨dst, op, type, pos, after, none⟩ :: os) i F H =
    drawP P cx r ops ⟨dst, op, type, pos, after, none⟩ os i F H (pureOp P (evalA F) H ⟨dst, op, type, pos, after, none⟩) (freeV P cx r i (evalA F) ⟨dst, op, type, pos, after, none⟩) (execA P cx r i F H ⟨dst, op, type, pos, after, none⟩) := by
  rw [← drawX, drawGo]
  rfl
theorem drawGo_guard {j : Nat} {want : Bool} : drawGo P cx r ops (⟨dst, op, type, pos, after, some (j, want)⟩ :: os) i F H =
    drawG (guardV F ops[j]?) want (drawP P cx r ops ⟨dst, op, type, pos, after, some (j, want)⟩ os i F H (pureOp P (evalA F) H ⟨dst, op, type, pos, after, some (j, want)⟩) (freeV P cx r i (evalA F) ⟨dst, op, type, pos, after, some (j, want)⟩) (execA P cx r i F H ⟨dst, op, type, pos, after, some (j, want)⟩))
      (drawN P cx r ops ⟨dst, op, type, pos, after, some (j, want)⟩ os i F H) := by
  rw [← drawX, drawGo]
  simp only [wantedA, drawG, guardV, drawN]
  rcases h : ops[j]? with _ | o
  · simp
  · obtain ⟨d, op', t', p', a', g'⟩ := o
    cases d with
    | none => simp
    | some d =>
      simp only [Option.bind_some]
      cases hv : F.get d with
      | c x =>
        cases x with
        | bool b =>
          by_cases e : b = want
          · subst e
            simp
            rfl
          · have : (b == want) = false := by simpa using e
            simp [this, e]
        | _ => simp
      | tup vs => cases vs <;> simp
      | _ => simp
end
section
variable {ρ : Operand → AV} {H : Heap} {dst : Option Tmp} {type : TypeId} {pos : String} {after : Array Edge} {guard : Option (Nat × Bool)} {r i : Nat}
theorem pure_move {x : Operand} : pureOp P ρ H ⟨dst, .move x, type, pos, after, guard⟩ = some (ρ x) := rfl
theorem pure_assign {x : Operand} : pureOp P ρ H ⟨dst, .assign x, type, pos, after, guard⟩ = some (ρ x) := rfl
theorem pure_pick {c a b : Operand} : pureOp P ρ H ⟨dst, .pick c a b, type, pos, after, guard⟩ = pickA (ρ c) (ρ a) (ρ b) := rfl
theorem pure_load {t : TypeId} {x : Operand} : pureOp P ρ H ⟨dst, .load t x, type, pos, after, guard⟩ = loadA P H t (ρ x) := rfl
theorem pure_nilCheck {x : Operand} : pureOp P ρ H ⟨dst, .nilCheck x, type, pos, after, guard⟩ = nilCheckA (ρ x) := rfl
theorem pure_binOp {op : BinOp} {t yt : TypeId} {x y : Operand} : pureOp P ρ H ⟨dst, .binOp op t x y yt, type, pos, after, guard⟩ = binA P H op t (ρ x) (ρ y) := rfl
theorem pure_unOp {op : UnOp} {t : TypeId} {x : Operand} : pureOp P ρ H ⟨dst, .unOp op t x, type, pos, after, guard⟩ = unA op (ρ x) := rfl
theorem pure_convert {s d : TypeId} {x : Operand} : pureOp P ρ H ⟨dst, .convert s d x, type, pos, after, guard⟩ = convA P s d (ρ x) := rfl
theorem pure_fieldAddr {s : TypeId} {x : Operand} {f : Nat} : pureOp P ρ H ⟨dst, .fieldAddr s x f, type, pos, after, guard⟩ = fieldAddrA P s (ρ x) f := rfl
theorem pure_field {s : TypeId} {x : Operand} {f : Nat} : pureOp P ρ H ⟨dst, .field s x f, type, pos, after, guard⟩ = fieldA P s (ρ x) f := rfl
theorem pure_indexAddr {t : TypeId} {x y : Operand} : pureOp P ρ H ⟨dst, .indexAddr t x y, type, pos, after, guard⟩ = indexAddrA P H t (ρ x) (ρ y) := rfl
theorem pure_index {t : TypeId} {x y : Operand} : pureOp P ρ H ⟨dst, .index t x y, type, pos, after, guard⟩ = indexA P t (ρ x) (ρ y) := rfl
theorem pure_slice {t : TypeId} {x : Operand} {lo hi mx : Option Operand} : pureOp P ρ H ⟨dst, .slice t x lo hi mx, type, pos, after, guard⟩ = sliceA P H t (ρ x) (lo.map ρ) (hi.map ρ) (mx.map ρ) := rfl
theorem pure_build {t : TypeId} {ps : Array (Nat × Operand)} : pureOp P ρ H ⟨dst, .build t ps, type, pos, after, guard⟩ = buildA P t (ps.toList.map fun p => (p.1, ρ p.2)) := rfl
theorem pure_extract {t : Operand} {j : Nat} : pureOp P ρ H ⟨dst, .extract t j, type, pos, after, guard⟩ = extractA (ρ t) j := rfl
theorem pure_makeFunc {f : FuncId} {a b : Array Operand} : pureOp P ρ H ⟨dst, .makeFunc (.func f) a b, type, pos, after, guard⟩ = some (if a.size = 0 ∧ b.size = 0 then .c (.fn f) else .clo f (a.toList.map ρ) (b.toList.map ρ)) := rfl
theorem pure_len {x : Operand} {t : TypeId} : pureOp P ρ H ⟨dst, .call ⟨.builtin .len, #[x], #[t]⟩, type, pos, after, guard⟩ = lenA P t (ρ x) := rfl
theorem pure_append {x y : Operand} {t t2 : TypeId} : pureOp P ρ H ⟨dst, .call ⟨.builtin .append, #[x, y], #[t, t2]⟩, type, pos, after, guard⟩ = none := rfl
theorem pure_lookup {t : TypeId} {x k : Operand} {ok : Bool} : pureOp P ρ H ⟨dst, .lookup t x k ok, type, pos, after, guard⟩ = lookupA P H t (ρ x) (ρ k) ok := rfl
theorem pure_makeMap {t : TypeId} {x : Option Operand} : pureOp P ρ H ⟨dst, .makeMap t x, type, pos, after, guard⟩ = none := rfl
theorem pure_mapUpdate {t : TypeId} {m k x : Operand} : pureOp P ρ H ⟨dst, .mapUpdate t m k x, type, pos, after, guard⟩ = none := rfl
theorem pure_cap {x : Operand} {t : TypeId} : pureOp P ρ H ⟨dst, .call ⟨.builtin .cap, #[x], #[t]⟩, type, pos, after, guard⟩ = capA P H t (ρ x) := rfl
theorem pure_min {x y : Operand} {ts : Array TypeId} : pureOp P ρ H ⟨dst, .call ⟨.builtin .min, #[x, y], ts⟩, type, pos, after, guard⟩ = foldA min2A (ρ x) [ρ y] := rfl
theorem pure_max {x y : Operand} {ts : Array TypeId} : pureOp P ρ H ⟨dst, .call ⟨.builtin .max, #[x, y], ts⟩, type, pos, after, guard⟩ = foldA max2A (ρ x) [ρ y] := rfl
theorem min2_int {k k2 : IntKind} {a b : Int} : foldA min2A (.c (.int k a)) [.c (.int k2 b)] = some (.c (.int k (if b < a then b else a))) := rfl
theorem max2_int {k k2 : IntKind} {a b : Int} : foldA max2A (.c (.int k a)) [.c (.int k2 b)] = some (.c (.int k (if b > a then b else a))) := rfl
theorem pure_mapEntry {t : TypeId} {m k : Operand} : pureOp P ρ H ⟨dst, .mapEntry t m k, type, pos, after, guard⟩ = none := rfl
theorem pure_entryStore {t : TypeId} {m s x : Operand} : pureOp P ρ H ⟨dst, .entryStore t m s x, type, pos, after, guard⟩ = none := rfl
theorem pure_copy {x y : Operand} {t t2 : TypeId} : pureOp P ρ H ⟨dst, .call ⟨.builtin .copy, #[x, y], #[t, t2]⟩, type, pos, after, guard⟩ = none := rfl
theorem pure_call {f : Operand} {args : Array Operand} {ts : Array TypeId} : pureOp P ρ H ⟨dst, .call ⟨.value f, args, ts⟩, type, pos, after, guard⟩ = none := rfl
theorem pure_alloc {t : TypeId} : pureOp P ρ H ⟨dst, .alloc t, type, pos, after, guard⟩ = none := rfl
theorem pure_box {t : TypeId} {x : Operand} : pureOp P ρ H ⟨dst, .box t x, type, pos, after, guard⟩ = none := rfl
theorem pure_store {t : TypeId} {a x : Operand} : pureOp P ρ H ⟨dst, .store t a x, type, pos, after, guard⟩ = none := rfl
theorem pure_makeSlice {t : TypeId} {l c : Operand} : pureOp P ρ H ⟨dst, .makeSlice t l c, type, pos, after, guard⟩ = none := rfl
theorem pure_buildSlice {t : TypeId} {n : Nat} {ps : Array (Nat × Operand)} : pureOp P ρ H ⟨dst, .buildSlice t n ps, type, pos, after, guard⟩ = none := rfl
theorem free_alloc {t : TypeId} : freeV P cx r i ρ ⟨dst, .alloc t, type, pos, after, guard⟩ = none := rfl
theorem free_box {t : TypeId} {x : Operand} : freeV P cx r i ρ ⟨dst, .box t x, type, pos, after, guard⟩ = none := rfl
theorem free_store {t : TypeId} {a x : Operand} : freeV P cx r i ρ ⟨dst, .store t a x, type, pos, after, guard⟩ = none := rfl
theorem free_makeSlice {t : TypeId} {l c : Operand} : freeV P cx r i ρ ⟨dst, .makeSlice t l c, type, pos, after, guard⟩ = none := rfl
theorem free_append {x y : Operand} {t t2 : TypeId} : freeV P cx r i ρ ⟨dst, .call ⟨.builtin .append, #[x, y], #[t, t2]⟩, type, pos, after, guard⟩ = none := rfl
theorem free_makeMap {t : TypeId} {x : Option Operand} : freeV P cx r i ρ ⟨dst, .makeMap t x, type, pos, after, guard⟩ = none := rfl
theorem free_mapUpdate {t : TypeId} {m k x : Operand} : freeV P cx r i ρ ⟨dst, .mapUpdate t m k x, type, pos, after, guard⟩ = none := rfl
theorem free_mapEntry {t : TypeId} {m k : Operand} : freeV P cx r i ρ ⟨dst, .mapEntry t m k, type, pos, after, guard⟩ = none := rfl
theorem free_entryStore {t : TypeId} {m s x : Operand} : freeV P cx r i ρ ⟨dst, .entryStore t m s x, type, pos, after, guard⟩ = none := rfl
theorem free_copy {x y : Operand} {t t2 : TypeId} : freeV P cx r i ρ ⟨dst, .call ⟨.builtin .copy, #[x, y], #[t, t2]⟩, type, pos, after, guard⟩ = none := rfl
def pureV (v : AV) : AV := if v.pure = true then v else .unk
theorem pureV_c {x : IV} : pureV (.c x) = .c x := rfl
theorem pureV_agg {cs : List AV} (h : cs.all AV.pure0 = true) : pureV (.agg cs) = .agg cs := if_pos h
theorem free_buildSlice {t : TypeId} {n : Nat} {ps : Array (Nat × Operand)} : freeV P cx r i ρ ⟨dst, .buildSlice t n ps, type, pos, after, guard⟩ = ans (buildSliceA P [] t n (ps.toList.map fun p => (p.1, pureV (ρ p.2)))) := by
  show (match ans (buildSliceA P [] t n (ps.toList.map fun p => (p.1, pureV (ρ p.2)))) with | some v => some v | none => none) = _
  cases ans (buildSliceA P [] t n (ps.toList.map fun p => (p.1, pureV (ρ p.2)))) <;> rfl
noncomputable def freeO (cx : Cx) (r i : Nat) (v : AV) (args : List AV) : Option AV :=
  match v with
  | .c (.fn g) => if args.all AV.pure = true ∧ cx.hints.raw cx.fn r i = false ∧ cx.hints.keep cx.fn r i = false ∧ cx.hints.framed g = false then ans (cx.call g args []) else none
  | .clo g first captured => if (first ++ args ++ captured).all AV.pure = true ∧ cx.hints.raw cx.fn r i = false ∧ cx.hints.keep cx.fn r i = false ∧ cx.hints.framed g = false then ans (cx.call g (first ++ args ++ captured) []) else none
  | _ => none
theorem freeO_fn {g : FuncId} {args : List AV} (hfr : cx.hints.framed g = false) (ha : args.all AV.pure = true) (hr : cx.hints.raw cx.fn r i = false) (hk : cx.hints.keep cx.fn r i = false) : freeO cx r i (.c (.fn g)) args = ans (cx.call g args []) := if_pos ⟨ha, hr, hk, hfr⟩
theorem freeO_keep {g : FuncId} {args : List AV} (hk : cx.hints.keep cx.fn r i = true) : freeO cx r i (.c (.fn g)) args = none := if_neg (fun h => by rw [hk] at h; cases h.2.2.1)
theorem free_call {f : Operand} {args : Array Operand} {ts : Array TypeId} : freeV P cx r i ρ ⟨dst, .call ⟨.value f, args, ts⟩, type, pos, after, guard⟩ = freeO cx r i (ρ f) (args.toList.map ρ) := by
  simp only [freeV, freeBuild, freeCall, calleeA, freeO]
  cases ρ f with
  | c x => cases x <;> rfl
  | _ => rfl
end
section
variable {q q' : Rec} {rs : List Rec} {ms : List Nat}
theorem effsOk_eff {o : Oper} {v : AV} {run free : Bool} {F : Fr} {G G' : Heap} {j : Nat} {es : List Nat} {f : Bool} : effsOk ms (⟨o, v, true, run, free, F, G, G'⟩ :: rs) j es f = if (looseOf ⟨o, v, true, run, free, F, G, G'⟩).isNone = true then (es.all (fun i => (ms.getD j 0).testBit i) && effsOk ms rs (j + 1) (j :: es) true) else (!f && effsOk ms rs (j + 1) (j :: es) f) := by rw [effsOk]; rfl
theorem effsOk_no {o : Oper} {v : AV} {run free : Bool} {F : Fr} {G G' : Heap} {j : Nat} {es : List Nat} {f : Bool} : effsOk ms (⟨o, v, false, run, free, F, G, G'⟩ :: rs) j es f = effsOk ms rs (j + 1) es f := by rw [effsOk]; rfl
theorem effsOk_nil {j : Nat} {es : List Nat} {f : Bool} : effsOk ms [] j es f = true := rfl
theorem lastOk_nil {m k : Nat} : lastOk m [] k = true := rfl
theorem lastOk_eff {o : Oper} {v : AV} {run free : Bool} {F : Fr} {G G' : Heap} {m k : Nat} : lastOk m (⟨o, v, true, run, free, F, G, G'⟩ :: rs) k = ((!(looseOf ⟨o, v, true, run, free, F, G, G'⟩).isNone || !m.testBit k) && lastOk m rs (k + 1)) := by rw [lastOk]; rfl
theorem lastOk_no {o : Oper} {v : AV} {run free : Bool} {F : Fr} {G G' : Heap} {m k : Nat} : lastOk m (⟨o, v, false, run, free, F, G, G'⟩ :: rs) k = lastOk m rs (k + 1) := by rw [lastOk]; rfl
theorem readAll_nil {j k : Nat} : readAll P ms q j [] k = true := rfl
theorem readAll_eff {o : Oper} {v : AV} {run free : Bool} {F : Fr} {G G' : Heap} {j k : Nat} : readAll P ms q j (⟨o, v, true, run, free, F, G, G'⟩ :: rs) k = ((if (looseOf ⟨o, v, true, run, free, F, G, G'⟩).isNone = true then (ms.getD k 0).testBit j || !lastOk (ms.getD j 0) rs (k + 1) || sameAt P q G' else true) && readAll P ms q j rs (k + 1)) := by rw [readAll]; rfl
theorem readAll_no {o : Oper} {v : AV} {run free : Bool} {F : Fr} {G G' : Heap} {j k : Nat} : readAll P ms q j (⟨o, v, false, run, free, F, G, G'⟩ :: rs) k = readAll P ms q j rs (k + 1) := by rw [readAll]; rfl
theorem looseN_alloc {dst : Option Tmp} {e : TypeId} {type : TypeId} {pos : String} {after : Array Edge} {guard : Option (Nat × Bool)} {s a : Nat} {run free : Bool} {F : Fr} {G G' : Heap} : (looseOf ⟨⟨dst, .alloc e, type, pos, after, guard⟩, .ptr s a, true, run, free, F, G, G'⟩).isNone = (looseAtC s G[s]? G'[s]?).isNone := rfl
theorem looseAtC_slot {s : Nat} {e : TypeId} {cs : List AV} : (looseAtC s (some .slot) (some (.cells e cs))).isNone = false := rfl
theorem looseAtC_none {s : Nat} {x : Option AObj} : (looseAtC s none x).isNone = true := rfl
theorem looseN_box {dst : Option Tmp} {e : TypeId} {x : Operand} {type : TypeId} {pos : String} {after : Array Edge} {guard : Option (Nat × Bool)} {v : AV} {run free : Bool} {F : Fr} {G G' : Heap} : (looseOf ⟨⟨dst, .box e x, type, pos, after, guard⟩, v, true, run, free, F, G, G'⟩).isNone = true := rfl
theorem looseN_store {dst : Option Tmp} {t : TypeId} {a x : Operand} {type : TypeId} {pos : String} {after : Array Edge} {guard : Option (Nat × Bool)} {v : AV} {run free : Bool} {F : Fr} {G G' : Heap} : (looseOf ⟨⟨dst, .store t a x, type, pos, after, guard⟩, v, true, run, free, F, G, G'⟩).isNone = true := rfl
theorem looseN_buildSlice {dst : Option Tmp} {t : TypeId} {n : Nat} {ps : Array (Nat × Operand)} {type : TypeId} {pos : String} {after : Array Edge} {guard : Option (Nat × Bool)} {v : AV} {run free : Bool} {F : Fr} {G G' : Heap} : (looseOf ⟨⟨dst, .buildSlice t n ps, type, pos, after, guard⟩, v, true, run, free, F, G, G'⟩).isNone = true := rfl
theorem looseN_call {dst : Option Tmp} {c : Call} {type : TypeId} {pos : String} {after : Array Edge} {guard : Option (Nat × Bool)} {v : AV} {run free : Bool} {F : Fr} {G G' : Heap} : (looseOf ⟨⟨dst, .call c, type, pos, after, guard⟩, v, true, run, free, F, G, G'⟩).isNone = true := rfl
theorem looseN_makeMap {dst : Option Tmp} {t : TypeId} {x : Option Operand} {type : TypeId} {pos : String} {after : Array Edge} {guard : Option (Nat × Bool)} {v : AV} {run free : Bool} {F : Fr} {G G' : Heap} : (looseOf ⟨⟨dst, .makeMap t x, type, pos, after, guard⟩, v, true, run, free, F, G, G'⟩).isNone = true := rfl
theorem looseN_mapUpdate {dst : Option Tmp} {t : TypeId} {m k x : Operand} {type : TypeId} {pos : String} {after : Array Edge} {guard : Option (Nat × Bool)} {v : AV} {run free : Bool} {F : Fr} {G G' : Heap} : (looseOf ⟨⟨dst, .mapUpdate t m k x, type, pos, after, guard⟩, v, true, run, free, F, G, G'⟩).isNone = true := rfl
theorem looseN_mapEntry {dst : Option Tmp} {t : TypeId} {m k : Operand} {type : TypeId} {pos : String} {after : Array Edge} {guard : Option (Nat × Bool)} {v : AV} {run free : Bool} {F : Fr} {G G' : Heap} : (looseOf ⟨⟨dst, .mapEntry t m k, type, pos, after, guard⟩, v, true, run, free, F, G, G'⟩).isNone = true := rfl
theorem looseN_entryStore {dst : Option Tmp} {t : TypeId} {m k x : Operand} {type : TypeId} {pos : String} {after : Array Edge} {guard : Option (Nat × Bool)} {v : AV} {run free : Bool} {F : Fr} {G G' : Heap} : (looseOf ⟨⟨dst, .entryStore t m k x, type, pos, after, guard⟩, v, true, run, free, F, G, G'⟩).isNone = true := rfl
theorem looseN_ms {dst : Option Tmp} {t : TypeId} {l c : Operand} {type : TypeId} {pos : String} {after : Array Edge} {guard : Option (Nat × Bool)} {s a b d e : Nat} {run free : Bool} {F : Fr} {G G' : Heap} : (looseOf ⟨⟨dst, .makeSlice t l c, type, pos, after, guard⟩, .hsl s a b d e, true, run, free, F, G, G'⟩).isNone = (looseAt s G[s]? G'[s]?).isNone := rfl
theorem looseAt_slot {s : Nat} {e : TypeId} {cs : List IV} : (looseAt s (some .slot) (some (.row false e cs))).isNone = false := rfl
theorem looseAt_none {s : Nat} {x : Option AObj} : (looseAt s none x).isNone = true := rfl
theorem readsAll_nil {H : Heap} {all : List Rec} {j : Nat} : readsAll P ms H all [] j = true := rfl
theorem readsAll_pure {o : Oper} {v : AV} {F : Fr} {G G' H : Heap} {all : List Rec} {j : Nat} : readsAll P ms H all (⟨o, v, false, true, false, F, G, G'⟩ :: rs) j = (((!lastOk (ms.getD j 0) all 0 || sameAt P ⟨o, v, false, true, false, F, G, G'⟩ H) && readAll P ms ⟨o, v, false, true, false, F, G, G'⟩ j all 0) && readsAll P ms H all rs (j + 1)) := by rw [readsAll]; rfl
theorem readsAll_eff {o : Oper} {v : AV} {run free : Bool} {F : Fr} {G G' H : Heap} {all : List Rec} {j : Nat} : readsAll P ms H all (⟨o, v, true, run, free, F, G, G'⟩ :: rs) j = readsAll P ms H all rs (j + 1) := by rw [readsAll]; rfl
theorem readsAll_free {o : Oper} {v : AV} {run : Bool} {F : Fr} {G G' H : Heap} {all : List Rec} {j : Nat} : readsAll P ms H all (⟨o, v, false, run, true, F, G, G'⟩ :: rs) j = readsAll P ms H all rs (j + 1) := by rw [readsAll]; simp
theorem readsAll_not {o : Oper} {v : AV} {free : Bool} {F : Fr} {G G' H : Heap} {all : List Rec} {j : Nat} : readsAll P ms H all (⟨o, v, false, false, free, F, G, G'⟩ :: rs) j = readsAll P ms H all rs (j + 1) := by rw [readsAll]; simp
def eqO (x : Option AV) (v : AV) : Bool :=
  match x with
  | some y => AV.eqb y v
  | none => false
theorem eqO_some {y v : AV} : eqO (some y) v = AV.eqb y v := rfl
theorem sameAt_eq {o : Oper} {v : AV} {eff run free : Bool} {F : Fr} {G G' K : Heap} : sameAt P ⟨o, v, eff, run, free, F, G, G'⟩ K = eqO (pureOp P (evalA F) K o) v := rfl
theorem lastF_nil {F : Fr} : lastF [] F = F := rfl
theorem lastF_cons {dst : Option Tmp} {op : Op} {type : TypeId} {pos : String} {after : Array Edge} {guard : Option (Nat × Bool)} {v : AV} {eff run free : Bool} {F F0 : Fr} {G G' : Heap} : lastF (⟨⟨dst, op, type, pos, after, guard⟩, v, eff, run, free, F0, G, G'⟩ :: rs) F = lastF rs (setD F dst v) := rfl
theorem lastH_nil {H : Heap} : lastH [] H = H := rfl
theorem lastH_eff {o : Oper} {v : AV} {run free : Bool} {F : Fr} {G G' H : Heap} : lastH (⟨o, v, true, run, free, F, G, G'⟩ :: rs) H = lastH rs G' := rfl
theorem lastH_no {o : Oper} {v : AV} {run free : Bool} {F : Fr} {G G' H : Heap} : lastH (⟨o, v, false, run, free, F, G, G'⟩ :: rs) H = lastH rs H := rfl
end
def atSlot (H : Heap) (s : Nat) : AV × Heap → Option (AV × Heap)
  | (.hsl _ a b d e, [o]) => some (.hsl s a b d e, H.set s o)
  | _ => none
theorem atSlot_eq {H : Heap} {s i a b d e : Nat} {o : AObj} : atSlot H s (.hsl i a b d e, [o]) = some (.hsl s a b d e, H.set s o) := rfl
def atSlotC (H : Heap) (s : Nat) (r : AV × Heap) : Option (AV × Heap) :=
  match r with
  | (.ptr _ a, [o]) => some (.ptr s a, H.set s o)
  | _ => none
theorem atSlotC_eq {H : Heap} {s i a : Nat} {o : AObj} : atSlotC H s (.ptr i a, [o]) = some (.ptr s a, H.set s o) := rfl
theorem allocS_slot {P : Program} {H : Heap} {s : Nat} {t : TypeId} (hs : H[s]? = some .slot) : allocS P H (some s) t = (allocA P [] t).bind (atSlotC H s) := by
  have h1 : slotAt H (some s) = some s := by simp [slotAt, hs]
  unfold allocS allocA
  rw [h1]
  cases zeroCells P t <;> rfl
theorem makeSlice_slot {P : Program} {H : Heap} {s : Nat} {t : TypeId} {x y : AV} (hs : H[s]? = some .slot) : makeSliceA P H (some s) t x y = (makeSliceA P [] none t x y).bind (atSlot H s) := by
  have h1 : slotAt H (some s) = some s := by simp [slotAt, hs]
  have h2 : slotAt [] none = none := rfl
  unfold makeSliceA
  split
  · rename_i l c
    rcases elemOfSlice P t with _ | e
    · rfl
    simp only [Option.bind_some]
    rcases sizeT P e with _ | sz
    · rfl
    simp only [Option.bind_some]
    rcases bytesT P e with _ | by_
    · rfl
    simp only [Option.bind_some]
    rcases zeroCells P e with _ | z
    · rfl
    simp only [Option.bind_some, h1, h2]
    split <;> rfl
  · rfl
structure Tab where
  loops : List (Nat × Nat × Nat × List Nat)
  keeps : List (Nat × Nat × Nat)
  slots : List (Nat × Nat × Nat × Nat)
  nslots : List (Nat × Nat)
  frames : List Nat
  fslots : List (Nat × Nat × Nat × List Nat)
  specials : List Nat
  spoils : List (Nat × Nat)
  fzs : List (Nat × Nat × List Nat)
def fzB : List (Nat × Nat × List Nat) → Nat → Nat → List Nat
  | [], _, _ => []
  | (a, b, c) :: l, f, r => if ((a == f) && (b == r)) = true then c else fzB l f r
def pairB : List (Nat × Nat) → Nat → Nat → Bool
  | [], _, _ => false
  | (a, b) :: l, f, r => ((a == f) && (b == r)) || pairB l f r
def fslotB : List (Nat × Nat × Nat × List Nat) → Nat → Nat → Nat → List Nat
  | [], _, _, _ => []
  | (a, b, c, d) :: l, f, r, i => if ((a == f) && ((b == r) && (c == i))) = true then d else fslotB l f r i
def keepB : List (Nat × Nat × Nat) → Nat → Nat → Nat → Bool
  | [], _, _, _ => false
  | (a, b, c) :: l, f, r, i => ((a == f || a == f + 1000000) && ((b == r) && (c == i))) || keepB l f r i
def rawB : List (Nat × Nat × Nat) → Nat → Nat → Nat → Bool
  | [], _, _, _ => false
  | (a, b, c) :: l, f, r, i => ((a == f + 1000000) && ((b == r) && (c == i))) || rawB l f r i
theorem rawB_of : ∀ {l : List (Nat × Nat × Nat)} {f r i : Nat}, keepB l f r i = false → rawB l f r i = false
  | [], _, _, _, _ => rfl
  | (a, b, c) :: l, f, r, i, h => by
    rw [keepB, Bool.or_eq_false_iff] at h
    rw [rawB, rawB_of h.2, Bool.or_false]
    have h1 := h.1
    by_cases e : (a == f + 1000000) = true
    · rw [e, Bool.or_true, Bool.true_and] at h1
      rw [e, Bool.true_and]; exact h1
    · have e' : (a == f + 1000000) = false := by simpa using e
      rw [e']; rfl
def slotB : List (Nat × Nat × Nat × Nat) → Nat → Nat → Nat → Option Nat
  | [], _, _, _ => none
  | (a, b, c, d) :: l, f, r, i => if ((a == f) && ((b == r) && (c == i))) = true then some d else slotB l f r i
def nslotB : List (Nat × Nat) → Nat → Nat
  | [], _ => 0
  | (a, n) :: l, f => if (a == f) = true then n else nslotB l f
def mkHints (tab : Tab) : Hints where
  clear := fun f r => match tab.loops.find? fun e => e.1 == f && e.2.1 == r with
    | some e => (List.range e.2.2.1).filter fun i => !e.2.2.2.contains i
    | none => []
  keep := fun f r i => keepB tab.keeps f r i
  raw := fun f r i => rawB tab.keeps f r i
  slots := fun f => nslotB tab.nslots f
  slot := fun f r i => slotB tab.slots f r i
  framed := fun g => inB tab.frames g
  fslots := fun f r i => fslotB tab.fslots f r i
  special := fun f => inB tab.specials f
  spoil := fun f r => pairB tab.spoils f r
  fz := fun f r => fzB tab.fzs f r
theorem mk_slot {tab : Tab} {f r i : Nat} : (mkHints tab).slot f r i = slotB tab.slots f r i := rfl
theorem raw_mk {tab : Tab} {f r i : Nat} : (mkHints tab).raw f r i = rawB tab.keeps f r i := rfl
theorem liveOk_mk (n : Nat) (live : List Nat) : liveOk n live ((List.range n).filter fun i => !live.contains i) = true := by
  unfold liveOk
  rw [List.all_eq_true]
  intro i hi
  have hn := List.mem_range.1 hi
  cases h : live.contains i
  · have : ((List.range n).filter fun i => !live.contains i).contains i = true := by
      rw [List.contains_iff_mem, List.mem_filter]
      exact ⟨hi, by rw [h]; rfl⟩
    rw [this]; rfl
  · have : ((List.range n).filter fun i => !live.contains i).contains i = false := by
      rw [Bool.eq_false_iff]
      intro hc
      rw [List.contains_iff_mem, List.mem_filter, h] at hc
      cases hc.2
    rw [this]; rfl
def findLoop (r : Nat) : Code → Option Code
  | .seq a b => (findLoop r a).or (findLoop r b)
  | .cond _ a b => (findLoop r a).or (findLoop r b)
  | .block _ b => findLoop r b
  | .loop b => if firstRegion b = some r then some b else findLoop r b
  | .scope b => findLoop r b
  | .rangeFunc _ _ a b => (findLoop r a).or (findLoop r b)
  | _ => none
def loopOf (fn : Func) (r : Nat) : Code := match fn.body with
  | some c => (findLoop r c).getD .skip
  | none => .skip
noncomputable def contR (P : Program) (tab : Tab) (kf : Nat) (ar : Option Nat) (b : Code) (f n : Nat) (live : List Nat) (m k : Nat) (F : Fr) (H : Heap) : Option Out :=
  iter (evalCode P (cxG P (mkHints tab) kf f ar) b) ((List.range n).filter fun i => !live.contains i) [] m k F H
noncomputable def loopR (P : Program) (tab : Tab) (kf : Nat) (ar : Option Nat) (b : Code) (f n : Nat) (live : List Nat) (m k : Nat) (l : Ass) (H : Heap) : Option Out := contR P tab kf ar b f n live m k (fr n l) H
theorem contR_fr {tab : Tab} {kf : Nat} {ar : Option Nat} {b : Code} {f n m k : Nat} {live : List Nat} {l : Ass} {H : Heap} : contR P tab kf ar b f n live m k (fr n l) H = loopR P tab kf ar b f n live m k l H := rfl
theorem loopR_succ {tab : Tab} {kf : Nat} {ar : Option Nat} {b : Code} {f n m k : Nat} {live : List Nat} {l : Ass} {H : Heap} :
    loopR P tab kf ar b f n live m (k + 1) l H = thenO (evalCode P (cxG P (mkHints tab) kf f ar) b (fr n (keep l live)) (trim m (fr n (keep l live)) H)) (contR P tab kf ar b f n live m k) := by
  rw [loopR, contR, iter_succ, clear_live (liveOk_mk n live)]
  rfl
theorem evalCode_loopX {b : Code} {F : Fr} {H : Heap} (h : aroundOk cx.around H.length = true) (hsp : (if ((firstRegion b).map (cx.hints.spoil cx.fn)).getD false = true then spoilA P b F H else none) = none) : evalCode P cx (.loop b) F H = iter (evalCode P cx b) (((firstRegion b).map (cx.hints.clear cx.fn)).getD []) (((firstRegion b).map (cx.hints.fz cx.fn)).getD []) H.length cx.fuel F H := by
  simp only [evalCode, hsp]
  rw [if_pos h]
theorem evalCode_loopB (B : Code) {r : Nat} {tab : Tab} {kf f n : Nat} {ar : Option Nat} {live : List Nat} {b : Code} {l : Ass} {H : Heap} (ht : (tab.loops.find? fun e => e.1 == f && e.2.1 == r) = some (f, r, n, live)) (hb : firstRegion b = some r) (hl : B = b) (ha : aroundOk ar H.length = true) (hsp : pairB tab.spoils f r = false := by rfl) (hfz : fzB tab.fzs f r = [] := by rfl) :
    evalCode P (cxG P (mkHints tab) kf f ar) (.loop b) (fr n l) H = loopR P tab kf ar B f n live H.length kf l H := by
  subst hl
  rw [evalCode_loopX ha (by rw [hb, if_neg (by rw [show ((some r).map ((cxG P (mkHints tab) kf f ar).hints.spoil (cxG P (mkHints tab) kf f ar).fn)).getD false = pairB tab.spoils f r from rfl, hsp]; simp)]), loopR, contR, hb]
  have e1 : ((some r).map ((cxG P (mkHints tab) kf f ar).hints.clear (cxG P (mkHints tab) kf f ar).fn)).getD [] = (List.range n).filter fun i => !live.contains i := by
    show (mkHints tab).clear f r = _
    unfold mkHints
    simp only [ht]
  have e2 : ((some r).map ((cxG P (mkHints tab) kf f ar).hints.fz (cxG P (mkHints tab) kf f ar).fn)).getD [] = [] := hfz
  rw [e1, e2]
  rfl
noncomputable def contZ (P : Program) (tab : Tab) (kf : Nat) (ar : Option Nat) (b : Code) (f n : Nat) (live fz : List Nat) (m k : Nat) (F : Fr) (H : Heap) : Option Out :=
  iter (evalCode P (cxG P (mkHints tab) kf f ar) b) ((List.range n).filter fun i => !live.contains i) fz m k F H
noncomputable def loopZ (P : Program) (tab : Tab) (kf : Nat) (ar : Option Nat) (b : Code) (f n : Nat) (live fz : List Nat) (m k : Nat) (l : Ass) (H : Heap) : Option Out := contZ P tab kf ar b f n live fz m k (fr n l) H
theorem contZ_fr {tab : Tab} {kf : Nat} {ar : Option Nat} {b : Code} {f n m k : Nat} {live fz : List Nat} {l : Ass} {H : Heap} : contZ P tab kf ar b f n live fz m k (fr n l) H = loopZ P tab kf ar b f n live fz m k l H := rfl
theorem clear_nil {F : Fr} : clearAll F [] = F := rfl
theorem clear_cons {n t : Nat} {l : Ass} {ts : List Nat} (h : t < n) : clearAll (fr n l) (t :: ts) = clearAll (fr n ((t, .unk) :: l)) ts := by rw [clearAll, set_fr h]
theorem doCall_cxG {tab : Tab} {kf f r i : Nat} {ar : Option Nat} {g : FuncId} {args : List AV} {H : Heap} (hf : inB tab.frames g = false) (hk : keepB tab.keeps f r i = false) (ha : args.all AV.pure = true) :
    doCall (cxG P (mkHints tab) kf f ar) r i g args H = ansO (ans (evalT P (mkHints tab) kf (.fn g) args [])) (evalT P (mkHints tab) kf (.fn g) args H) H := doCall_ans hf (rawB_of hk) hk ha
theorem doCall_cxZ {tab : Tab} {kf f r i : Nat} {ar : Option Nat} {g : FuncId} {args : List AV} {H : Heap} (hf : inB tab.frames g = false) (hk : keepB tab.keeps f r i = false) (ha : args.all AV.pure = false) :
    doCall (cxG P (mkHints tab) kf f ar) r i g args H = frzC (fun as => evalT P (mkHints tab) kf (.fn g) as []) (evalT P (mkHints tab) kf (.fn g) args H) (frzTup H args) H (doCallS (cxG P (mkHints tab) kf f ar) r i g args H) := doCall_frzC hf (rawB_of hk) hk ha
theorem pure0_hsl {id off len ext sz : Nat} : (AV.hsl id off len ext sz).pure0 = false := rfl
theorem pure_hsl {id off len ext sz : Nat} : (AV.hsl id off len ext sz).pure = false := rfl
theorem pure0_ptr {id off : Nat} : (AV.ptr id off).pure0 = false := rfl
theorem pure_ptr {id off : Nat} : (AV.ptr id off).pure = false := rfl
theorem freeO_cxG {tab : Tab} {kf f r i : Nat} {ar : Option Nat} {g : FuncId} {args : List AV} (hf : inB tab.frames g = false) (hk : keepB tab.keeps f r i = false) (ha : args.all AV.pure = true) :
    freeO (cxG P (mkHints tab) kf f ar) r i (.c (.fn g)) args = ans (evalT P (mkHints tab) kf (.fn g) args []) := freeO_fn hf ha (rawB_of hk) hk
theorem freeO_cxN {tab : Tab} {kf f r i : Nat} {ar : Option Nat} {g : FuncId} {args : List AV} (ha : args.all AV.pure = false) :
    freeO (cxG P (mkHints tab) kf f ar) r i (.c (.fn g)) args = none := if_neg (fun h => by rw [ha] at h; cases h.1)
theorem freeO_yld {r i id : Nat} {args : List AV} : freeO cx r i (.yld id) args = none := rfl
theorem freeO_cxK {tab : Tab} {kf f r i : Nat} {ar : Option Nat} {g : FuncId} {args : List AV} (hk : keepB tab.keeps f r i = true) :
    freeO (cxG P (mkHints tab) kf f ar) r i (.c (.fn g)) args = none := freeO_keep hk
theorem keep_nil {l : Ass} : keep l [] = [] := rfl
theorem keep_cons {l : Ass} {i : Nat} {is : List Nat} : keep l (i :: is) = (i, asc l i) :: keep l is := rfl
end
section
variable [Globals] {P : Program} {cx : Cx}
def lv (s sz : Nat) (n : Nat) : AV := if n = 0 then .c (.slice [] 0 true (some 0)) else .hsl s 0 n (n * sz) sz
def lo (e : TypeId) (n : Nat) (cells : List IV) : AObj := if n = 0 then .slot else .row false e cells
theorem lv_zero {s sz : Nat} : lv s sz 0 = .c (.slice [] 0 true (some 0)) := rfl
theorem lo_zero {e : TypeId} {cells : List IV} : lo e 0 cells = .slot := rfl
theorem lv_pos {s sz n : Nat} (h : 0 < n) : lv s sz n = .hsl s 0 n (n * sz) sz := if_neg (by omega)
theorem lo_pos {e : TypeId} {n : Nat} {cells : List IV} (h : 0 < n) : lo e n cells = .row false e cells := if_neg (by omega)
theorem lv_cell {s sz n : Nat} : (lv s sz n).isCell = true := by unfold lv; split <;> rfl
theorem lv_kcells {s sz n : Nat} : (lv s sz n).kcells = [lv s sz n] := by unfold lv; split <;> rfl
theorem lv_under {s sz n m : Nat} : AV.under m (lv s sz n) = (decide (n = 0) || decide (s < m)) := by
  unfold lv; split
  · rename_i h; simp [h]; rfl
  · rename_i h; simp [h]; rfl
theorem lv_underA {s sz n m : Nat} : AV.underA m (lv s sz n) = (decide (n = 0) || decide (s < m)) := by
  unfold lv; split
  · rename_i h; simp [h]; rfl
  · rename_i h; simp [h]; rfl
theorem lv_under0 {s sz n m : Nat} : AV.under0 m (lv s sz n) = (decide (n = 0) || decide (s < m)) := by
  unfold lv; split
  · rename_i h; simp [h]; rfl
  · rename_i h; simp [h]; rfl
theorem lo_under {e : TypeId} {n m : Nat} {cells : List IV} : AObj.under m (lo e n cells) = true := by unfold lo; split <;> rfl
theorem apO_lv {e : TypeId} {sz by_ m n s : Nat} {H : Heap} {cells cs : List IV} (h : 0 < m) (hb : (n + m) * by_ ≤ roomBytes) (hs : 0 < sz) (hH : H[s]? = some (lo e n cells)) (hl : cells.length = n * sz) :
    apO e sz by_ (some s) (lv s sz n) H (some (cs, m)) = some (lv s sz (n + m), H.set s (lo e (n + m) (cells ++ cs))) := by
  rw [lv_pos (show 0 < n + m by omega), lo_pos (show 0 < n + m by omega)]
  rcases Nat.eq_zero_or_pos n with rfl | hn
  · have hc : cells = [] := List.eq_nil_of_length_eq_zero (by simpa using hl)
    subst hc
    rw [lv_zero]
    rw [lo_zero] at hH
    simp only [apO, Option.bind_some, slotAt, hH]
    rw [if_neg (by omega), if_pos ⟨by omega, hb, by simp⟩]
  · rw [lv_pos hn]
    rw [lo_pos hn] at hH
    exact apO_row h hb hs hH hl
def rfObj (ps : Array Tmp) (as b : Code) (f : FuncId) (st : LoopState) (pend : Option Code) (F : Fr) : AObj := .loop st pend f F ps as b
theorem rfObj_under {ps : Array Tmp} {as b : Code} {f m n : Nat} {st : LoopState} {pend : Option Code} {l : Ass} (h : (l.all fun e => AV.under m e.2) = true) : AObj.under m (rfObj ps as b f st pend (fr n l)) = true :=
  all_fr rfl fun i _ => asc_all rfl l i h
noncomputable def rangeO (cx : Cx) (F : Fr) (n : Nat) (g : Option (FuncId × List AV)) (H : Heap) : Option Out :=
  match g with
  | some g => (cx.call g.1 g.2 H).bind fun r => endLoopA F n r.2
  | none => none
theorem rangeO_some {F : Fr} {n : Nat} {g : FuncId} {as : List AV} {H : Heap} : rangeO cx F n (some (g, as)) H = (cx.call g as H).bind fun r => endLoopA F n r.2 := rfl
theorem funcA_clo {g : FuncId} {a b : List AV} {x : AV} : funcA (.clo g a b) x = some (g, a ++ [x] ++ b) := rfl
theorem funcA_fn {g : FuncId} {x : AV} : funcA (.c (.fn g)) x = some (g, [x]) := rfl
def endO (F : Fr) (n : Nat) (H : Heap) (o : Option AObj) : Option Out :=
  match o with
  | some (.loop st pend f F0 ps as b) => if st = .busy then none else
    match pend with
    | none => some (.norm F (H.set n (.loop .exhausted pend f F0 ps as b)))
    | some .ret => some (.ret F (H.set n (.loop .exhausted pend f F0 ps as b)))
    | some (.exit id) => some (.exit id F (H.set n (.loop .exhausted pend f F0 ps as b)))
    | some _ => none
  | _ => none
theorem endLoop_endO {F : Fr} {n : Nat} {H : Heap} : endLoopA F n H = endO F n H H[n]? := rfl
theorem endO_ready {F F0 : Fr} {n f : Nat} {ps : Array Tmp} {as b : Code} {H : Heap} : endO F n H (some (rfObj ps as b f .ready none F0)) = some (.norm F (H.set n (rfObj ps as b f .exhausted none F0))) := by
  show (if LoopState.ready = .busy then none else _) = _
  rw [if_neg (by intro h; cases h)]
  rfl
theorem endO_norm {F F0 : Fr} {n f : Nat} {ps : Array Tmp} {as b : Code} {H : Heap} : endO F n H (some (rfObj ps as b f .done none F0)) = some (.norm F (H.set n (rfObj ps as b f .exhausted none F0))) := by
  show (if LoopState.done = .busy then none else _) = _
  rw [if_neg (by intro h; cases h)]
  rfl
theorem endO_ret {F F0 : Fr} {n f : Nat} {ps : Array Tmp} {as b : Code} {H : Heap} : endO F n H (some (rfObj ps as b f .done (some .ret) F0)) = some (.ret F (H.set n (rfObj ps as b f .exhausted (some .ret) F0))) := by
  show (if LoopState.done = .busy then none else _) = _
  rw [if_neg (by intro h; cases h)]
  rfl
theorem endO_exit {F F0 : Fr} {n f id : Nat} {ps : Array Tmp} {as b : Code} {H : Heap} : endO F n H (some (rfObj ps as b f .done (some (.exit id)) F0)) = some (.exit id F (H.set n (rfObj ps as b f .exhausted (some (.exit id)) F0))) := by
  show (if LoopState.done = .busy then none else _) = _
  rw [if_neg (by intro h; cases h)]
  rfl
noncomputable def roundB (P : Program) (h : Hints) (k id f : Nat) (b : Code) (x : Option Out) : Option (AV × Heap) :=
  match x with
  | some (.norm F1 H1) => match H1[id]? with
    | some (.loop .ready pend f' F' ps' as' b') => (evalCode P (cxG P h k f (some id)) b F1 (H1.set id (.loop .busy pend f' F' ps' as' b'))).bind (endRoundA id)
    | _ => none
  | _ => none
noncomputable def roundC (P : Program) (h : Hints) (k id f : Nat) (b : Code) (F1 : Fr) (H1 : Heap) (o : Option AObj) : Option (AV × Heap) :=
  match o with
  | some (.loop .ready pend f' F' ps' as' b') => (evalCode P (cxG P h k f (some id)) b F1 (H1.set id (.loop .busy pend f' F' ps' as' b'))).bind (endRoundA id)
  | _ => none
theorem roundB_norm {h : Hints} {k id f : Nat} {b : Code} {F1 : Fr} {H1 : Heap} : roundB P h k id f b (some (.norm F1 H1)) = roundC P h k id f b F1 H1 H1[id]? := rfl
theorem roundC_rf {h : Hints} {k id f f' : Nat} {ps : Array Tmp} {as b b2 : Code} {F1 F' : Fr} {H1 : Heap} {pend : Option Code} :
    roundC P h k id f b2 F1 H1 (some (rfObj ps as b f' .ready pend F')) = (evalCode P (cxG P h k f (some id)) b2 F1 (H1.set id (rfObj ps as b f' .busy pend F'))).bind (endRoundA id) := rfl
def loopSetO (H : Heap) (l : Nat) (st : LoopState) (pend : Option Code) (o : Option AObj) : Option Heap :=
  match o with
  | some (.loop _ _ f F ps as b) => some (H.set l (.loop st pend f F ps as b))
  | _ => none
theorem loopSetO_rf {H : Heap} {l f : Nat} {ps : Array Tmp} {as b : Code} {st st' : LoopState} {pend pend' : Option Code} {F : Fr} : loopSetO H l st pend (some (rfObj ps as b f st' pend' F)) = some (H.set l (rfObj ps as b f st pend F)) := rfl
theorem endRound_norm {id : Nat} {F : Fr} {H : Heap} : endRoundA id (.norm F H) = (loopSetO H id .ready none H[id]?).map fun H' => (.c (.bool true), H') := rfl
theorem endRound_ret {id : Nat} {F : Fr} {H : Heap} : endRoundA id (.ret F H) = (loopSetO H id .done (some .ret) H[id]?).map fun H' => (.c (.bool false), H') := rfl
theorem endRound_exit {id j : Nat} {F : Fr} {H : Heap} : endRoundA id (.exit j F H) = (loopSetO H id .done (some (.exit j)) H[id]?).map fun H' => (.c (.bool false), H') := rfl
theorem setAll_nil {F : Fr} {xs : List AV} : setAll F [] xs = F := by cases xs <;> rfl
theorem setAll_cons {n t : Nat} {l : Ass} {x : AV} {ts : List Tmp} {xs : List AV} (h : t < n) : setAll (fr n l) (t :: ts) (x :: xs) = setAll (fr n ((t, x) :: l)) ts xs := by
  show setAll ((fr n l).set t x) ts xs = _
  rw [set_fr h]
end
section
variable [Globals] {P : Program} {cx : Cx}
theorem under_hmap {n id : Nat} : AV.under n (.hmap id) = decide (id < n) := rfl
theorem under_yld {n id : Nat} : AV.under n (.yld id) = decide (id < n) := rfl
theorem under_tup0 {n : Nat} {vs : List AV} : AV.under n (.tup vs) = vs.all (AV.underA n) := rfl
theorem underA_c {n : Nat} {x : IV} : AV.underA n (.c x) = true := rfl
theorem underA_ptr {n id off : Nat} : AV.underA n (.ptr id off) = decide (id < n) := rfl
theorem underA_hsl {n id off len ext sz : Nat} : AV.underA n (.hsl id off len ext sz) = decide (id < n) := rfl
theorem underA_unk {n : Nat} : AV.underA n .unk = true := rfl
theorem underA_agg {n : Nat} {cs : List AV} : AV.underA n (.agg cs) = cs.all (AV.under0 n) := rfl
theorem underA_hmap {n id : Nat} : AV.underA n (.hmap id) = decide (id < n) := rfl
theorem underA_yld {n id : Nat} : AV.underA n (.yld id) = decide (id < n) := rfl
theorem underA_clo {n f : Nat} {a b : List AV} : AV.underA n (.clo f a b) = (a.all (AV.under1 n) && b.all (AV.under1 n)) := rfl
theorem under_clo {n f : Nat} {a b : List AV} : AV.under n (.clo f a b) = (a.all (AV.under1 n) && b.all (AV.under1 n)) := rfl
theorem under1_c {n : Nat} {x : IV} : AV.under1 n (.c x) = true := rfl
theorem under1_ptr {n id off : Nat} : AV.under1 n (.ptr id off) = decide (id < n) := rfl
theorem under1_yld {n id : Nat} : AV.under1 n (.yld id) = decide (id < n) := rfl
theorem underV_c {n : Nat} {x : IV} : AV.underV n (.c x) = true := rfl
theorem underV_ptr {n id off : Nat} : AV.underV n (.ptr id off) = decide (id < n) := rfl
theorem underV_hsl {n id off len ext sz : Nat} : AV.underV n (.hsl id off len ext sz) = decide (id < n) := rfl
theorem underV_agg {n : Nat} {cs : List AV} : AV.underV n (.agg cs) = cs.all (AV.under0 n) := rfl
theorem underV_hmap {n id : Nat} : AV.underV n (.hmap id) = decide (id < n) := rfl
theorem underV_clo {n f : Nat} {a b : List AV} : AV.underV n (.clo f a b) = (a.all (AV.under1 n) && b.all (AV.under1 n)) := rfl
theorem underV_tup {n : Nat} {vs : List AV} : AV.underV n (.tup vs) = vs.all (AV.under n) := rfl
theorem ounder_map {n : Nat} {t : TypeId} {es : List (AV × AV)} : AObj.under n (.map t es) = es.all fun e => e.1.under n && e.2.under n := rfl
theorem ounder_slot {n : Nat} : AObj.under n .slot = true := rfl
theorem trimV_eq {m : Nat} {v : AV} {H : Heap} : trimV m (v, H) = if v.underV m = true ∧ (H.take m).all (AObj.under m) = true then (v, H.take m) else (v, H) := rfl
theorem frz2_none {f : Heap → Option (List AV × Heap)} : frz2 none f = none := rfl
theorem frzV_ptr {H : Heap} {id off : Nat} : frzV H (.ptr id off) = none := rfl
theorem frzV_hmap {H : Heap} {id : Nat} : frzV H (.hmap id) = none := rfl
theorem pure_hmap {id : Nat} : (AV.hmap id).pure = false := rfl
theorem kcells_yld {id : Nat} : (AV.yld id).kcells = [.yld id] := rfl
theorem kcells_clo {f : FuncId} {a b : List AV} : (AV.clo f a b).kcells = [.clo f a b] := rfl
theorem kcells_hmap {id : Nat} : (AV.hmap id).kcells = [.hmap id] := rfl
theorem isCell_hmap {id : Nat} : (AV.hmap id).isCell = true := rfl
end
section
variable [Globals] {P : Program} {cx : Cx}
def setRowO (H : Heap) (id off ext : Nat) (new : List IV) (o : Option AObj) : Option Heap :=
  match o with
  | some (.row false e cs) => if cs.length = ext then (putCells cs off new).map fun cs' => H.set id (.row false e cs') else none
  | _ => none
theorem setRowO_row {H : Heap} {id off ext : Nat} {new cs : List IV} {e : TypeId} : setRowO H id off ext new (some (.row false e cs)) = if cs.length = ext then (putCells cs off new).map fun cs' => H.set id (.row false e cs') else none := rfl
theorem storeA_eptr {H : Heap} {t : TypeId} {id off ext : Nat} {x : AV} (hs : sizeT P t = some x.kcells.length) :
    storeA P H t (.eptr id off ext) x = (frzs H x.kcells).bind fun r => setRowO r.2 id off ext r.1 r.2[id]? := by
  unfold storeA
  rw [if_pos hs]
  simp only
  congr 1
  funext r
  unfold rowOf rowLive setRowO
  rcases r.2[id]? with _ | o
  · rfl
  · cases o with
    | row fz e cs =>
      simp only
      by_cases h : cs.length = ext
      · cases fz <;> simp [h]
      · cases fz <;> simp [h]
    | _ => rfl
end
section
variable [Globals] {P : Program} {cx : Cx}
theorem ans_tupG {vs : List AV} {H : Heap} : ans (some (.tup vs, H)) = (frzTup H vs).map fun r => .tup r.1 := by
  show ((frzTup H vs).map fun r => (AV.tup r.1, r.2)).map _ = _
  cases frzTup H vs <;> rfl
theorem ans_aggG {cs : List AV} {H : Heap} : ans (some (.agg cs, H)) = (frzs H cs).map fun r => .agg (r.1.map .c) := by
  show ((frzs H cs).map fun r => (AV.agg (r.1.map .c), r.2)).map _ = _
  cases frzs H cs <;> rfl
theorem srcOf_hsl {H : Heap} {sz id off len ext sz' : Nat} : srcOf H sz (.hsl id off len ext sz') = (rowOf H id ext).bind fun r => if off + len * sz ≤ ext ∧ sz' = sz then some ((r.2.drop off).take (len * sz), len) else none := rfl
theorem srcOf_cc {H : Heap} {sz len : Nat} {cells : List IV} {nl : Bool} {cap : Option Nat} : srcOf H sz (.c (.slice cells len nl cap)) = if cells.length = len * sz then some (cells, len) else none := rfl
def lvO (H : Heap) (s sz n : Nat) (o : Option AObj) : Option (IV × Heap) :=
  if n = 0 then some (.slice [] 0 true (some 0), H) else
    match o with
    | some (.row _ t cs) => if cs.length = n * sz then some (.slice cs n false none, H.set s (.row true t cs)) else none
    | _ => none
theorem frz_lvO {H : Heap} {s sz n : Nat} : frz H (lv s sz n) = lvO H s sz n H[s]? := by
  unfold lv lvO
  split
  · rfl
  · rw [frz_hsl]
    unfold rowOf
    rcases h : H[s]? with _ | o
    · rfl
    · cases o with
      | row fz t cs =>
        simp only
        split
        · rename_i hl
          simp only [Option.bind_some]
          rw [if_pos (by omega)]
          simp only [List.drop_zero]
          rw [← hl, List.take_length]
        · rfl
      | _ => rfl
theorem lvO_lo {H : Heap} {s sz n : Nat} {e : TypeId} {cells : List IV} : lvO H s sz n (some (lo e n cells)) = if cells.length = n * sz then some (.slice cells n (decide (n = 0)) (if n = 0 then some 0 else none), if n = 0 then H else H.set s (.row true e cells)) else (if n = 0 then some (.slice [] 0 true (some 0), H) else none) := by
  unfold lvO lo
  by_cases hn : n = 0
  · subst hn
    simp only [if_true]
    split
    · rename_i h
      have : cells = [] := List.eq_nil_of_length_eq_zero (by simpa using h)
      subst this
      rfl
    · rfl
  · simp [hn]
theorem frzV_lv {H : Heap} {s sz n : Nat} : frzV H (lv s sz n) = (frz H (lv s sz n)).map fun r => (.c r.1, r.2) := by unfold lv; split <;> rfl
theorem frzs_lv {H : Heap} {s sz n : Nat} {xs : List AV} : frzs H (lv s sz n :: xs) = (frz H (lv s sz n)).bind fun r => (frzs r.2 xs).bind fun q => some (r.1 :: q.1, q.2) := rfl
theorem ans_lvG {s sz n : Nat} {H : Heap} : ans (some (lv s sz n, H)) = (frz H (lv s sz n)).map fun r => .c r.1 := by
  have : frzR H (lv s sz n) = (frz H (lv s sz n)).map fun r => (.c r.1, r.2) := by unfold lv; split <;> rfl
  show (frzR H (lv s sz n)).map _ = _
  rw [this]
  cases frz H (lv s sz n) <;> rfl
theorem lv_underV {s sz n m : Nat} : AV.underV m (lv s sz n) = (decide (n = 0) || decide (s < m)) := by
  unfold lv; split
  · rename_i h; simp [h]; rfl
  · rename_i h; simp [h]; rfl
end
def cpO (sz : Nat) (d : AV) (H : Heap) (x : Option (List IV × Nat)) : Option (Nat × Heap) := x.bind fun r =>
    match d with
    | .c (.slice _ len _ _) => if len = 0 ∨ r.2 = 0 then some (0, H) else none
    | .hsl id off len ext sz' => (rowOf H id ext).bind fun q =>
      if off + len * sz ≤ ext ∧ sz' = sz ∧ rowLive H id = true then
        some (min r.2 len, H.set id (.row false q.1 (q.2.take off ++ r.1.take (min r.2 len * sz) ++ q.2.drop (off + min r.2 len * sz))))
      else none
    | _ => none
def sliceM (sz : Nat) (cells : List IV) (len : Nat) (nl : Bool) (lo hi : Option AV) (m : AV) : Option AV :=
  (boundA 0 hi).bind fun h => (boundA 0 (some m)).bind fun k => (boundA 0 lo).bind fun l =>
      if l ≤ h ∧ h ≤ k ∧ k ≤ len ∧ hi.isSome = true ∧ (cells.length = len * sz ∨ k = 0) then some (.c (.slice ((cells.drop (l * sz)).take ((h - l) * sz)) (h - l) nl (some (k - l)))) else none
theorem loop_nat (N : Nat) (f : Nat → Ass → Heap → Option Out) (Inv : Nat → Ass → Heap → Prop) (Post : Option Out → Prop)
    (hstep : ∀ i k l H, i ≤ N → Inv i l H → Post (f (k + 1) l H) ∨ ∃ l' H', i < N ∧ f (k + 1) l H = f k l' H' ∧ Inv (i + 1) l' H') :
    ∀ n i k l H, i + n = N → n < k → Inv i l H → Post (f k l H) := by
  intro n
  induction n with
  | zero =>
    intro i k l H hi hk hI
    obtain ⟨k, rfl⟩ : ∃ j, k = j + 1 := ⟨k - 1, by omega⟩
    rcases hstep i k l H (by omega) hI with h | ⟨l', H', h, _⟩
    · exact h
    · omega
  | succ n ih =>
    intro i k l H hi hk hI
    obtain ⟨k, rfl⟩ : ∃ j, k = j + 1 := ⟨k - 1, by omega⟩
    rcases hstep i k l H (by omega) hI with h | ⟨l', H', _, h, hI'⟩
    · exact h
    · rw [h]
      exact ih (i + 1) k l' H' (by omega) (by omega) hI'
theorem trim_app {m N : Nat} {l : Ass} {H G : Heap} (hm : H.length = m) (h1 : (l.all fun e => AV.under m e.2) = true) (h2 : H.all (AObj.under m) = true) : trim m (fr N l) (H ++ G) = H := by
  subst hm
  rw [trim_fr h1 (by rw [List.take_left' rfl]; exact h2), List.take_left' rfl]
section
variable [Globals] {P : Program}
def frameA (call : List AV → Heap → Option (AV × Heap)) (sl ids : List Nat) (H : Heap) (a : Option (List AV)) (H0 : Option Heap) : Option (AV × Heap) :=
  a.bind fun a0 => H0.bind fun H0 => (call a0 H0).bind fun r =>
    let new := (reach 64 r.2 (countUp 0 ids ++ r.1.ids) []).drop ids.length
    let p := places H new.length sl H.length
    let Hp := H ++ List.replicate p.2 .slot
    if nodupB (ids ++ p.1) = true ∧ nodupB (countUp 0 ids ++ new) = true ∧ allSlots Hp p.1 = true then
      frameBack Hp (countUp 0 ids ++ new) (ids ++ p.1) r
    else none
def frameN (call : List AV → Heap → Option (AV × Heap)) (sl : List Nat) (H : Heap) (args : List AV) (ids : List Nat) : Option (AV × Heap) :=
  frameA call sl ids H (renAs (posIn ids) args) (pick (posIn ids) H ids)
theorem frameN_eq {call : List AV → Heap → Option (AV × Heap)} {sl ids : List Nat} {H : Heap} {args : List AV} : frameN call sl H args ids = frameA call sl ids H (renAs (posIn ids) args) (pick (posIn ids) H ids) := rfl
def frameE (H : Heap) (ids new : List Nat) (v : AV) (H1 : Heap) (p : List Nat × Nat) : Option (AV × Heap) :=
    if nodupB (ids ++ p.1) = true ∧ nodupB (countUp 0 ids ++ new) = true ∧ allSlots (H ++ List.replicate p.2 .slot) p.1 = true then
      frameBack (H ++ List.replicate p.2 .slot) (countUp 0 ids ++ new) (ids ++ p.1) (v, H1)
    else none
def frameD (H : Heap) (sl ids : List Nat) (v : AV) (H1 : Heap) (new : List Nat) : Option (AV × Heap) := frameE H ids new v H1 (places H new.length sl H.length)
def frameC (H : Heap) (sl ids : List Nat) (x : Option (AV × Heap)) : Option (AV × Heap) :=
  match x with
  | some (v, H1) => frameD H sl ids v H1 ((reach 64 H1 (countUp 0 ids ++ v.ids) []).drop ids.length)
  | none => none
theorem frameA_some {call : List AV → Heap → Option (AV × Heap)} {sl ids : List Nat} {H H0 : Heap} {a0 : List AV} : frameA call sl ids H (some a0) (some H0) = frameC H sl ids (call a0 H0) := by
  unfold frameA frameC
  simp only [Option.bind_some]
  rcases call a0 H0 with _ | ⟨v, H1⟩ <;> rfl
theorem frameC_some {sl ids : List Nat} {H H1 : Heap} {v : AV} : frameC H sl ids (some (v, H1)) = frameD H sl ids v H1 ((reach 64 H1 (countUp 0 ids ++ v.ids) []).drop ids.length) := rfl
theorem frameC_none {sl ids : List Nat} {H : Heap} : frameC H sl ids none = none := rfl
theorem frameD_eq {sl ids new : List Nat} {H H1 : Heap} {v : AV} : frameD H sl ids v H1 new = frameE H ids new v H1 (places H new.length sl H.length) := rfl
theorem frameE_eq {ids new a : List Nat} {n : Nat} {H H1 : Heap} {v : AV} : frameE H ids new v H1 (a, n) = if nodupB (ids ++ a) = true ∧ nodupB (countUp 0 ids ++ new) = true ∧ allSlots (H ++ List.replicate n .slot) a = true then
      frameBack (H ++ List.replicate n .slot) (countUp 0 ids ++ new) (ids ++ a) (v, H1)
    else none := rfl
def frameF (H : Heap) (L : List Nat) (os : Option Heap) (v : Option AV) : Option (AV × Heap) := os.bind fun os => v.map fun v => (v, setMany H L os)
theorem frameBack_eq {H H1 : Heap} {L0 L : List Nat} {v : AV} : frameBack H L0 L (v, H1) = frameF H L (pick (through L0 L) H1 L0) (v.ren (through L0 L)) := rfl
theorem frameF_some {H os : Heap} {L : List Nat} {v : AV} : frameF H L (some os) (some v) = some (v, setMany H L os) := rfl
theorem doCall_cxF {tab : Tab} {kf f r i : Nat} {ar : Option Nat} {g : FuncId} {args : List AV} {H : Heap} (hf : inB tab.frames g = true) :
    doCall (cxG P (mkHints tab) kf f ar) r i g args H = frameN (fun a H0 => evalT P (mkHints tab) kf (.fn g) a H0) (fslotB tab.fslots f r i) H args (reach 64 H (idsAL args) []) := by
  unfold doCall
  rw [if_pos (show (cxG P (mkHints tab) kf f ar).hints.framed g = true from hf)]
  rfl
theorem freeO_cxF {tab : Tab} {kf f r i : Nat} {ar : Option Nat} {g : FuncId} {args : List AV} (hf : inB tab.frames g = true) :
    freeO (cxG P (mkHints tab) kf f ar) r i (.c (.fn g)) args = none := if_neg fun h => by
  have := h.2.2.2
  rw [show (cxG P (mkHints tab) kf f ar).hints.framed g = true from hf] at this
  cases this
end
theorem reach_nil {k : Nat} {H : Heap} {seen : List Nat} : reach (k + 1) H [] seen = seen := rfl
theorem reach_cons {k i : Nat} {H : Heap} {todo seen : List Nat} : reach (k + 1) H (i :: todo) seen = if inB seen i = true then reach k H todo seen else reach k H (todo ++ objIds H[i]?) (seen ++ [i]) := rfl
theorem inB_nil {g : Nat} : inB [] g = false := rfl
theorem inB_cons {a g : Nat} {l : List Nat} : inB (a :: l) g = ((a == g) || inB l g) := rfl
theorem ids1L_nil : ids1L [] = [] := rfl
theorem ids1L_cons {x : AV} {xs : List AV} : ids1L (x :: xs) = x.ids1 ++ ids1L xs := rfl
theorem ids0L_nil : ids0L [] = [] := rfl
theorem ids0L_cons {x : AV} {xs : List AV} : ids0L (x :: xs) = x.ids0 ++ ids0L xs := rfl
theorem idsAL_nil : idsAL [] = [] := rfl
theorem idsAL_cons {x : AV} {xs : List AV} : idsAL (x :: xs) = x.idsA ++ idsAL xs := rfl
section
variable {x : IV} {id off len ext sz f : Nat} {a b cs vs : List AV}
theorem ids1_c : (AV.c x).ids1 = [] := rfl
theorem ids1_ptr : (AV.ptr id off).ids1 = [id] := rfl
theorem ids1_eptr : (AV.eptr id off ext).ids1 = [id] := rfl
theorem ids1_hsl : (AV.hsl id off len ext sz).ids1 = [id] := rfl
theorem ids1_hmap : (AV.hmap id).ids1 = [id] := rfl
theorem ids0_c : (AV.c x).ids0 = [] := rfl
theorem ids0_ptr : (AV.ptr id off).ids0 = [id] := rfl
theorem ids0_eptr : (AV.eptr id off ext).ids0 = [id] := rfl
theorem ids0_hsl : (AV.hsl id off len ext sz).ids0 = [id] := rfl
theorem ids0_hmap : (AV.hmap id).ids0 = [id] := rfl
theorem ids0_clo : (AV.clo f a b).ids0 = ids1L a ++ ids1L b := rfl
theorem idsA_c : (AV.c x).idsA = [] := rfl
theorem idsA_ptr : (AV.ptr id off).idsA = [id] := rfl
theorem idsA_eptr : (AV.eptr id off ext).idsA = [id] := rfl
theorem idsA_hsl : (AV.hsl id off len ext sz).idsA = [id] := rfl
theorem idsA_hmap : (AV.hmap id).idsA = [id] := rfl
theorem idsA_clo : (AV.clo f a b).idsA = ids1L a ++ ids1L b := rfl
theorem idsA_agg : (AV.agg cs).idsA = ids0L cs := rfl
theorem ids_c : (AV.c x).ids = [] := rfl
theorem ids_ptr : (AV.ptr id off).ids = [id] := rfl
theorem ids_hsl : (AV.hsl id off len ext sz).ids = [id] := rfl
theorem ids_hmap : (AV.hmap id).ids = [id] := rfl
theorem ids_clo : (AV.clo f a b).ids = ids1L a ++ ids1L b := rfl
theorem ids_agg : (AV.agg cs).ids = ids0L cs := rfl
theorem ids_tup : (AV.tup vs).ids = idsAL vs := rfl
theorem objIds_cells {t : TypeId} : objIds (some (.cells t cs)) = ids0L cs := rfl
theorem objIds_row {fz : Bool} {t : TypeId} {cs : List IV} : objIds (some (.row fz t cs)) = [] := rfl
theorem objIds_map {t : TypeId} {es : List (AV × AV)} : objIds (some (.map t es)) = entIds es := rfl
theorem objIds_dead : objIds (some .dead) = [] := rfl
theorem objIds_slot : objIds (some .slot) = [] := rfl
theorem entIds_nil : entIds [] = [] := rfl
variable {ρ : Nat → Option Nat}
theorem ren1_c : (AV.c x).ren1 ρ = some (.c x) := rfl
theorem ren1_ptr : (AV.ptr id off).ren1 ρ = (ρ id).map fun j => .ptr j off := rfl
theorem ren1_eptr : (AV.eptr id off ext).ren1 ρ = (ρ id).map fun j => .eptr j off ext := rfl
theorem ren1_hsl : (AV.hsl id off len ext sz).ren1 ρ = (ρ id).map fun j => .hsl j off len ext sz := rfl
theorem ren1_hmap : (AV.hmap id).ren1 ρ = (ρ id).map fun j => .hmap j := rfl
theorem ren0_c : (AV.c x).ren0 ρ = some (.c x) := rfl
theorem ren0_ptr : (AV.ptr id off).ren0 ρ = (ρ id).map fun j => .ptr j off := rfl
theorem ren0_eptr : (AV.eptr id off ext).ren0 ρ = (ρ id).map fun j => .eptr j off ext := rfl
theorem ren0_hsl : (AV.hsl id off len ext sz).ren0 ρ = (ρ id).map fun j => .hsl j off len ext sz := rfl
theorem ren0_hmap : (AV.hmap id).ren0 ρ = (ρ id).map fun j => .hmap j := rfl
theorem ren0_clo : (AV.clo f a b).ren0 ρ = (ren1s ρ a).bind fun a' => (ren1s ρ b).map fun b' => .clo f a' b' := rfl
theorem renA_c : (AV.c x).renA ρ = some (.c x) := rfl
theorem renA_unk : AV.unk.renA ρ = some .unk := rfl
theorem renA_ptr : (AV.ptr id off).renA ρ = (ρ id).map fun j => .ptr j off := rfl
theorem renA_eptr : (AV.eptr id off ext).renA ρ = (ρ id).map fun j => .eptr j off ext := rfl
theorem renA_hsl : (AV.hsl id off len ext sz).renA ρ = (ρ id).map fun j => .hsl j off len ext sz := rfl
theorem renA_hmap : (AV.hmap id).renA ρ = (ρ id).map fun j => .hmap j := rfl
theorem renA_clo : (AV.clo f a b).renA ρ = (ren1s ρ a).bind fun a' => (ren1s ρ b).map fun b' => .clo f a' b' := rfl
theorem renA_agg : (AV.agg cs).renA ρ = (ren0s ρ cs).map .agg := rfl
theorem ren_c : (AV.c x).ren ρ = some (.c x) := rfl
theorem ren_unk : AV.unk.ren ρ = some .unk := rfl
theorem ren_ptr : (AV.ptr id off).ren ρ = (ρ id).map fun j => .ptr j off := rfl
theorem ren_hsl : (AV.hsl id off len ext sz).ren ρ = (ρ id).map fun j => .hsl j off len ext sz := rfl
theorem ren_hmap : (AV.hmap id).ren ρ = (ρ id).map fun j => .hmap j := rfl
theorem ren_clo : (AV.clo f a b).ren ρ = (ren1s ρ a).bind fun a' => (ren1s ρ b).map fun b' => .clo f a' b' := rfl
theorem ren_agg : (AV.agg cs).ren ρ = (ren0s ρ cs).map .agg := rfl
theorem ren_tup : (AV.tup vs).ren ρ = (renAs ρ vs).map .tup := rfl
theorem ren1s_nil : ren1s ρ [] = some [] := rfl
theorem ren1s_cons {x : AV} {xs : List AV} : ren1s ρ (x :: xs) = (x.ren1 ρ).bind fun y => (ren1s ρ xs).map fun ys => y :: ys := rfl
theorem ren0s_nil : ren0s ρ [] = some [] := rfl
theorem ren0s_cons {x : AV} {xs : List AV} : ren0s ρ (x :: xs) = (x.ren0 ρ).bind fun y => (ren0s ρ xs).map fun ys => y :: ys := rfl
theorem renAs_nil : renAs ρ [] = some [] := rfl
theorem renAs_cons {x : AV} {xs : List AV} : renAs ρ (x :: xs) = (x.renA ρ).bind fun y => (renAs ρ xs).map fun ys => y :: ys := rfl
theorem renEs_nil : renEs ρ [] = some [] := rfl
theorem oren_cells {t : TypeId} : (AObj.cells t cs).ren ρ = (ren0s ρ cs).map (.cells t) := rfl
theorem oren_row {fz : Bool} {t : TypeId} {cs : List IV} : (AObj.row fz t cs).ren ρ = some (.row fz t cs) := rfl
theorem oren_map {t : TypeId} {es : List (AV × AV)} : (AObj.map t es).ren ρ = (renEs ρ es).map (.map t) := rfl
theorem oren_dead : AObj.dead.ren ρ = some .dead := rfl
theorem oren_slot : AObj.slot.ren ρ = some .slot := rfl
end
theorem posIn_nil {i : Nat} : posIn [] i = none := rfl
theorem posIn_cons {x i : Nat} {xs : List Nat} : posIn (x :: xs) i = if i = x then some 0 else (posIn xs i).map (· + 1) := rfl
theorem pick_nil {ρ : Nat → Option Nat} {H : Heap} : pick ρ H [] = some [] := rfl
def pickO (o : Option AObj) (ρ : Nat → Option Nat) (rest : Option Heap) : Option Heap :=
  match o with
  | some o => (o.ren ρ).bind fun o' => rest.map fun os => o' :: os
  | none => none
theorem pickO_some {o : AObj} {ρ : Nat → Option Nat} {rest : Option Heap} : pickO (some o) ρ rest = (o.ren ρ).bind fun o' => rest.map fun os => o' :: os := rfl
theorem pick_cons {ρ : Nat → Option Nat} {H : Heap} {i : Nat} {is : List Nat} : pick ρ H (i :: is) = pickO H[i]? ρ (pick ρ H is) := by
  rw [pick]
  cases H[i]? <;> rfl
theorem setMany_nil {α : Type} {H os : List α} : setMany H [] os = H := by cases os <;> rfl
theorem setMany_cons {α : Type} {H os : List α} {i : Nat} {is : List Nat} {o : α} : setMany H (i :: is) (o :: os) = (setMany H is os).set i o := rfl
theorem nodupB_nil : nodupB [] = true := rfl
theorem nodupB_cons {x : Nat} {xs : List Nat} : nodupB (x :: xs) = (!inB xs x && nodupB xs) := rfl
theorem isSlot_slot : isSlot (some .slot) = true := rfl
theorem isSlot_row {fz : Bool} {t : TypeId} {cs : List IV} : isSlot (some (.row fz t cs)) = false := rfl
theorem isSlot_cells {t : TypeId} {cs : List AV} : isSlot (some (.cells t cs)) = false := rfl
theorem places_zero {H : Heap} {sl : List Nat} {nx : Nat} : places H 0 sl nx = ([], 0) := rfl
theorem places_nil {H : Heap} {c nx : Nat} : places H (c + 1) [] nx = (nx :: (places H c [] (nx + 1)).1, (places H c [] (nx + 1)).2 + 1) := rfl
theorem places_cons {H : Heap} {c s nx : Nat} {sl : List Nat} : places H (c + 1) (s :: sl) nx = if isSlot H[s]? = true then (s :: (places H c sl nx).1, (places H c sl nx).2) else (nx :: (places H c sl (nx + 1)).1, (places H c sl (nx + 1)).2 + 1) := rfl
theorem allSlots_nil {H : Heap} : allSlots H [] = true := rfl
theorem allSlots_cons {H : Heap} {i : Nat} {is : List Nat} : allSlots H (i :: is) = (isSlot H[i]? && allSlots H is) := rfl
theorem through_eq {a b : List Nat} {j : Nat} : through a b j = (posIn a j).bind fun p => b[p]? := rfl
theorem countUp_nil {α : Type} {i : Nat} : countUp i ([] : List α) = [] := rfl
theorem countUp_cons {α : Type} {i : Nat} {x : α} {l : List α} : countUp i (x :: l) = i :: countUp (i + 1) l := rfl
theorem rep_zero {o : AObj} : List.replicate 0 o = [] := rfl
theorem rep_succ {o : AObj} {n : Nat} : List.replicate (n + 1) o = o :: List.replicate n o := rfl
theorem J {a b c d e f g h : Prop} (q : a) (r : b) (s : c) (t : d) (u : e) (v : f) (w : g) (x : h) : a ∧ b ∧ c ∧ d ∧ e ∧ f ∧ g ∧ h := ⟨q, r, s, t, u, v, w, x⟩
theorem EVb : type_of% (J (J (J @evalCode_seq @evalCode_cond @evalCode_block @evalCode_region @evalCode_skip @evalCode_label @evalCode_ret @evalCode_exit) (J @evalCode_scope @thenO_norm @thenO_exit @thenO_ret @thenO_none @blockO_norm @blockO_exit @blockO_ret) (J @blockO_none @regO_some @regO_none @evalOps_nil @evalOps_cons @opsThen_some @opsThen_none @stepV_some) (J @stepV_none @setD_some @setD_none @stepOp_free @stepOp_guard @guardO_true @guardO_false @ite_bnot) (J @guardO_tup @guardV_some @valO_some @valO_none @callO_fn @callO_clo @callO_yld @exec_move) (J @exec_assign @exec_pick @pickA_bool @exec_load @exec_nilCheck @exec_binOp @exec_unOp @exec_convert) (J @exec_fieldAddr @exec_field @exec_indexAddr @exec_index @exec_slice @exec_build @exec_extract @extractA_tup) (J @exec_makeFunc @exec_alloc @exec_box @exec_store @unkO_some @exec_makeSlice @makeSlice_slot @allocS_slot)) (J (J @allocS_none @atSlot_eq @atSlotC_eq @exec_buildSlice @exec_len @exec_append @exec_copy @numO_some) (J @exec_lookup @exec_makeMap @exec_mapUpdate @exec_mapEntry @exec_entryStore @exec_min @exec_max @exec_cap) (J @sliceO_cw @clear_nil @clear_cons @min2_int @max2_int @exec_call @evalA_tmp @get_fr) (J @evalA_const @evalA_func @ofValue_int @ofValue_bool @ofValue_str @ofValue_nilp @ofValue_nils @ofValue_nilm) (J @ofValue_nilf @binA_eq @binA_ne @binA_lt @binA_le @binA_gt @binA_ge @binA_add) (J @binA_sub @binA_mul @binA_quo @binA_rem @binA_and @unA_not @unA_neg @finishO_norm) (J @finishO_ret @finV_one @finV_nil @finV_more @consO_some @resultsL_nil @resultsL_cons @resultA_tmp) (J @resultA_cell @ans_hsl @rowOf_rowO @rowO_some @Option.bind_some.{0,0} @Option.isSome_some.{0} @fill_nil @fill_cons)) (J (J @asc_hit @asc_miss @asc_nil @ans_c @ans_tupG @ans_aggG @srcOf_hsl @srcOf_cc) (J @frz_lvO @lvO_lo @frzV_lv @frzs_lv @ans_lvG @lv_underV @ans_clo @ansO_none) (J @ans_tup0 @ansO_some @doCall_cxG @doCall_cxZ @frzTup_nil @frz2_some @frz2_none @frzTup_cons) (J @frzV_c @frzV_hsl @frzV_agg @frzV_ptr @frzV_hmap @frzs_nil @frzs_cell @frzs_hsl) (J @frz_hsl @frzC_some @frzC_none @frzD_some @strict_c @strict_agg @strict_tup @strict1_c) (J @strict1_agg @strict0_c @strict_int @strict_bool @strict_str @pure0_hsl @pure_hsl @pure0_ptr) (J @pure_ptr @pure_hmap @Bool.and_false @Bool.false_and @pure_c @pure_agg @pure0_c @raw_mk) (J @Bool.false_or @Bool.or_false @Bool.or_true @Bool.true_or @exec_clear @tupO_some @cxG_hints @cxG_fn)) (J (J @cxG_call @cxG_round @mk_slot @keep_nil @keep_cons @Option.getD_some.{0} @trim_same @trim_fr) (J @under_c @under_ptr @under_hsl @under_unk @under_agg @under_hmap @under_yld @under_tup0) (J @under_clo @underA_c @underA_ptr @underA_hsl @underA_unk @underA_agg @underA_hmap @underA_yld) (J @underA_clo @lv_underA @under0_c @under0_ptr @under0_hsl @under1_c @under1_ptr @under1_yld) (J @underV_c @underV_ptr @underV_hsl @underV_agg @underV_hmap @underV_clo @underV_tup @ounder_cells) (J @ounder_row @ounder_map @ounder_slot @lo_under @lv_under @lv_under0 @rfObj_under @lv_cell) (J @lv_kcells @contR_fr @contZ_fr @trimO_some @trimV_eq @funcA_clo @funcA_fn @rangeO_some) (J @endLoop_endO @endO_ready @endO_norm @endO_ret @endO_exit @roundB_norm @roundC_rf @endRound_norm)) (J (J @endRound_ret @endRound_exit @loopSetO_rf @setAll_nil @setAll_cons @cellAt_some @cellsAt_some @takeCells_eq) (J @addrPlus_ptr @addrPlus_eptr @addrPlus_iptr @nilCheckA_ptr @nilCheckA_iptr @kcells_c @kcells_agg @kcells_hsl) (J @kcells_ptr @kcells_hmap @kcells_yld @kcells_clo @isCell_c @isCell_hsl @isCell_ptr @isCell_hmap) (J @isCell_yld @isCell_clo @boxA_eq @putO_some @storeA_ptr @storeA_eptr @setRowO_row @putCells_one) (J @putCells_two @List.all_cons.{0} @List.all_nil.{0} @Bool.and_true @Bool.true_and @List.nil_append.{0} @List.cons_append.{0} @List.drop_zero.{0}) (J @List.take_zero.{0} @List.drop_succ_cons.{0} @List.take_succ_cons.{0} @List.take_nil.{0} @List.drop_nil.{0} @List.set_cons_zero.{0} @List.set_cons_succ.{0} @Nat.zero_add) (J @Nat.add_zero @Nat.zero_mul @List.length_cons.{0} @List.length_nil.{0} @List.map_cons.{0,0} @List.map_nil.{0,0} @List.getElem?_cons_zero.{0} @List.getElem?_cons_succ.{0}) (J @List.getElem?_toArray.{0} @List.size_toArray.{0} @Nat.lt_irrefl @Nat.mul_one @Int.toNat_natCast @decide_eq_true_eq @decide_true @decide_false)) (J (J @beq_self_eq_true.{0} @Bool.true_beq @Bool.false_beq @Bool.false_eq_true @Bool.true_eq_false @Bool.not_true @Bool.not_false @if_true.{1}) (J @if_false.{1} @ite_not.{1} @ne_eq.{1} @not_true @not_false_eq_true @Option.map_some.{0,0} @Option.map_none.{0,0} @Int.cast_ofNat_Int) (J @true_and @and_true @and_self @wrap64 @doCall_cxF @frameN_eq @frameA_some @frameC_some) (J @frameC_none @frameD_eq @frameE_eq @frameBack_eq @frameF_some @reach_nil @reach_cons @inB_nil) (J @inB_cons @ids1L_nil @ids1L_cons @ids0L_nil @ids0L_cons @idsAL_nil @idsAL_cons @ids1_c) (J @ids1_ptr @ids1_eptr @ids1_hsl @ids1_hmap @ids0_c @ids0_ptr @ids0_eptr @ids0_hsl) (J @ids0_hmap @ids0_clo @idsA_c @idsA_ptr @idsA_eptr @idsA_hsl @idsA_hmap @idsA_clo) (J @idsA_agg @ids_c @ids_ptr @ids_hsl @ids_hmap @ids_clo @ids_agg @ids_tup)) (J (J @objIds_cells @objIds_row @objIds_map @objIds_dead @objIds_slot @entIds_nil @ren1_c @ren1_ptr) (J @ren1_eptr @ren1_hsl @ren1_hmap @ren0_c @ren0_ptr @ren0_eptr @ren0_hsl @ren0_hmap) (J @ren0_clo @renA_c @renA_unk @renA_ptr @renA_eptr @renA_hsl @renA_hmap @renA_clo) (J @renA_agg @ren_c @ren_unk @ren_ptr @ren_hsl @ren_hmap @ren_clo @ren_agg) (J @ren_tup @ren1s_nil @ren1s_cons @ren0s_nil @ren0s_cons @renAs_nil @renAs_cons @renEs_nil) (J @oren_cells @oren_row @oren_map @oren_dead @oren_slot @posIn_nil @posIn_cons @pick_nil) (J @pick_cons @pickO_some @setMany_nil @setMany_cons @nodupB_nil @nodupB_cons @isSlot_slot @isSlot_row) (J @isSlot_cells @places_zero @places_nil @places_cons @allSlots_nil @allSlots_cons @through_eq @countUp_nil)) (And.intro @countUp_cons (And.intro @rep_zero @rep_succ))) :=
  (J (J (J @evalCode_seq @evalCode_cond @evalCode_block @evalCode_region @evalCode_skip @evalCode_label @evalCode_ret @evalCode_exit) (J @evalCode_scope @thenO_norm @thenO_exit @thenO_ret @thenO_none @blockO_norm @blockO_exit @blockO_ret) (J @blockO_none @regO_some @regO_none @evalOps_nil @evalOps_cons @opsThen_some @opsThen_none @stepV_some) (J @stepV_none @setD_some @setD_none @stepOp_free @stepOp_guard @guardO_true @guardO_false @ite_bnot) (J @guardO_tup @guardV_some @valO_some @valO_none @callO_fn @callO_clo @callO_yld @exec_move) (J @exec_assign @exec_pick @pickA_bool @exec_load @exec_nilCheck @exec_binOp @exec_unOp @exec_convert) (J @exec_fieldAddr @exec_field @exec_indexAddr @exec_index @exec_slice @exec_build @exec_extract @extractA_tup) (J @exec_makeFunc @exec_alloc @exec_box @exec_store @unkO_some @exec_makeSlice @makeSlice_slot @allocS_slot)) (J (J @allocS_none @atSlot_eq @atSlotC_eq @exec_buildSlice @exec_len @exec_append @exec_copy @numO_some) (J @exec_lookup @exec_makeMap @exec_mapUpdate @exec_mapEntry @exec_entryStore @exec_min @exec_max @exec_cap) (J @sliceO_cw @clear_nil @clear_cons @min2_int @max2_int @exec_call @evalA_tmp @get_fr) (J @evalA_const @evalA_func @ofValue_int @ofValue_bool @ofValue_str @ofValue_nilp @ofValue_nils @ofValue_nilm) (J @ofValue_nilf @binA_eq @binA_ne @binA_lt @binA_le @binA_gt @binA_ge @binA_add) (J @binA_sub @binA_mul @binA_quo @binA_rem @binA_and @unA_not @unA_neg @finishO_norm) (J @finishO_ret @finV_one @finV_nil @finV_more @consO_some @resultsL_nil @resultsL_cons @resultA_tmp) (J @resultA_cell @ans_hsl @rowOf_rowO @rowO_some @Option.bind_some.{0,0} @Option.isSome_some.{0} @fill_nil @fill_cons)) (J (J @asc_hit @asc_miss @asc_nil @ans_c @ans_tupG @ans_aggG @srcOf_hsl @srcOf_cc) (J @frz_lvO @lvO_lo @frzV_lv @frzs_lv @ans_lvG @lv_underV @ans_clo @ansO_none) (J @ans_tup0 @ansO_some @doCall_cxG @doCall_cxZ @frzTup_nil @frz2_some @frz2_none @frzTup_cons) (J @frzV_c @frzV_hsl @frzV_agg @frzV_ptr @frzV_hmap @frzs_nil @frzs_cell @frzs_hsl) (J @frz_hsl @frzC_some @frzC_none @frzD_some @strict_c @strict_agg @strict_tup @strict1_c) (J @strict1_agg @strict0_c @strict_int @strict_bool @strict_str @pure0_hsl @pure_hsl @pure0_ptr) (J @pure_ptr @pure_hmap @Bool.and_false @Bool.false_and @pure_c @pure_agg @pure0_c @raw_mk) (J @Bool.false_or @Bool.or_false @Bool.or_true @Bool.true_or @exec_clear @tupO_some @cxG_hints @cxG_fn)) (J (J @cxG_call @cxG_round @mk_slot @keep_nil @keep_cons @Option.getD_some.{0} @trim_same @trim_fr) (J @under_c @under_ptr @under_hsl @under_unk @under_agg @under_hmap @under_yld @under_tup0) (J @under_clo @underA_c @underA_ptr @underA_hsl @underA_unk @underA_agg @underA_hmap @underA_yld) (J @underA_clo @lv_underA @under0_c @under0_ptr @under0_hsl @under1_c @under1_ptr @under1_yld) (J @underV_c @underV_ptr @underV_hsl @underV_agg @underV_hmap @underV_clo @underV_tup @ounder_cells) (J @ounder_row @ounder_map @ounder_slot @lo_under @lv_under @lv_under0 @rfObj_under @lv_cell) (J @lv_kcells @contR_fr @contZ_fr @trimO_some @trimV_eq @funcA_clo @funcA_fn @rangeO_some) (J @endLoop_endO @endO_ready @endO_norm @endO_ret @endO_exit @roundB_norm @roundC_rf @endRound_norm)) (J (J @endRound_ret @endRound_exit @loopSetO_rf @setAll_nil @setAll_cons @cellAt_some @cellsAt_some @takeCells_eq) (J @addrPlus_ptr @addrPlus_eptr @addrPlus_iptr @nilCheckA_ptr @nilCheckA_iptr @kcells_c @kcells_agg @kcells_hsl) (J @kcells_ptr @kcells_hmap @kcells_yld @kcells_clo @isCell_c @isCell_hsl @isCell_ptr @isCell_hmap) (J @isCell_yld @isCell_clo @boxA_eq @putO_some @storeA_ptr @storeA_eptr @setRowO_row @putCells_one) (J @putCells_two @List.all_cons.{0} @List.all_nil.{0} @Bool.and_true @Bool.true_and @List.nil_append.{0} @List.cons_append.{0} @List.drop_zero.{0}) (J @List.take_zero.{0} @List.drop_succ_cons.{0} @List.take_succ_cons.{0} @List.take_nil.{0} @List.drop_nil.{0} @List.set_cons_zero.{0} @List.set_cons_succ.{0} @Nat.zero_add) (J @Nat.add_zero @Nat.zero_mul @List.length_cons.{0} @List.length_nil.{0} @List.map_cons.{0,0} @List.map_nil.{0,0} @List.getElem?_cons_zero.{0} @List.getElem?_cons_succ.{0}) (J @List.getElem?_toArray.{0} @List.size_toArray.{0} @Nat.lt_irrefl @Nat.mul_one @Int.toNat_natCast @decide_eq_true_eq @decide_true @decide_false)) (J (J @beq_self_eq_true.{0} @Bool.true_beq @Bool.false_beq @Bool.false_eq_true @Bool.true_eq_false @Bool.not_true @Bool.not_false @if_true.{1}) (J @if_false.{1} @ite_not.{1} @ne_eq.{1} @not_true @not_false_eq_true @Option.map_some.{0,0} @Option.map_none.{0,0} @Int.cast_ofNat_Int) (J @true_and @and_true @and_self @wrap64 @doCall_cxF @frameN_eq @frameA_some @frameC_some) (J @frameC_none @frameD_eq @frameE_eq @frameBack_eq @frameF_some @reach_nil @reach_cons @inB_nil) (J @inB_cons @ids1L_nil @ids1L_cons @ids0L_nil @ids0L_cons @idsAL_nil @idsAL_cons @ids1_c) (J @ids1_ptr @ids1_eptr @ids1_hsl @ids1_hmap @ids0_c @ids0_ptr @ids0_eptr @ids0_hsl) (J @ids0_hmap @ids0_clo @idsA_c @idsA_ptr @idsA_eptr @idsA_hsl @idsA_hmap @idsA_clo) (J @idsA_agg @ids_c @ids_ptr @ids_hsl @ids_hmap @ids_clo @ids_agg @ids_tup)) (J (J @objIds_cells @objIds_row @objIds_map @objIds_dead @objIds_slot @entIds_nil @ren1_c @ren1_ptr) (J @ren1_eptr @ren1_hsl @ren1_hmap @ren0_c @ren0_ptr @ren0_eptr @ren0_hsl @ren0_hmap) (J @ren0_clo @renA_c @renA_unk @renA_ptr @renA_eptr @renA_hsl @renA_hmap @renA_clo) (J @renA_agg @ren_c @ren_unk @ren_ptr @ren_hsl @ren_hmap @ren_clo @ren_agg) (J @ren_tup @ren1s_nil @ren1s_cons @ren0s_nil @ren0s_cons @renAs_nil @renAs_cons @renEs_nil) (J @oren_cells @oren_row @oren_map @oren_dead @oren_slot @posIn_nil @posIn_cons @pick_nil) (J @pick_cons @pickO_some @setMany_nil @setMany_cons @nodupB_nil @nodupB_cons @isSlot_slot @isSlot_row) (J @isSlot_cells @places_zero @places_nil @places_cons @allSlots_nil @allSlots_cons @through_eq @countUp_nil)) (And.intro @countUp_cons (And.intro @rep_zero @rep_succ)))
theorem EVc : type_of% (And.intro @condO_true (And.intro @condO_false @condO_not)) :=
  (And.intro @condO_true (And.intro @condO_false @condO_not))
theorem EVd : type_of% (And.intro (J (J @drawFin_some @drawE_some @drawQ_some @drawQ_none @drawP_some @drawP_none @drawN_eq @drawG_true) (J @drawG_false @drawG_tup @drawGo_nil @drawGo_free @drawGo_guard @pure_move @pure_assign @pure_pick) (J @pure_load @pure_nilCheck @pure_binOp @pure_unOp @pure_convert @pure_fieldAddr @pure_field @pure_indexAddr) (J @pure_index @pure_slice @pure_build @pure_extract @pure_makeFunc @pure_len @pure_append @pure_copy) (J @pure_lookup @pure_makeMap @pure_mapUpdate @pure_min @pure_max @pure_cap @pure_mapEntry @pure_entryStore) (J @pure_call @pure_alloc @pure_box @pure_store @pure_makeSlice @pure_buildSlice @free_alloc @free_box) (J @free_store @free_makeSlice @free_append @free_copy @free_makeMap @free_mapUpdate @free_mapEntry @free_entryStore) (J @pureV_c @pureV_agg @free_buildSlice @freeO_cxG @freeO_cxN @freeO_cxK @freeO_cxF @freeO_yld)) (And.intro (J @free_call @effsOk_eff @looseN_alloc @looseN_box @looseN_store @looseN_buildSlice @looseN_call @looseN_makeMap) (And.intro (J @looseN_mapUpdate @looseN_mapEntry @looseN_entryStore @looseN_ms @looseAt_slot @looseAt_none @looseAtC_none @looseAtC_slot) (And.intro (J @effsOk_no @effsOk_nil @lastOk_nil @lastOk_eff @lastOk_no @readAll_nil @readAll_eff @readAll_no) (And.intro (J @readsAll_nil @readsAll_pure @readsAll_eff @readsAll_free @readsAll_not @eqO_some @sameAt_eq @lastF_nil) (And.intro (J @lastF_cons @lastH_nil @lastH_eff @lastH_no @AV.eqb_self @Nat.testBit_zero @Nat.testBit_eq_decide_div_mod_eq @List.getD_cons_zero.{0}) @List.getD_cons_succ.{0})))))) :=
  (And.intro (J (J @drawFin_some @drawE_some @drawQ_some @drawQ_none @drawP_some @drawP_none @drawN_eq @drawG_true) (J @drawG_false @drawG_tup @drawGo_nil @drawGo_free @drawGo_guard @pure_move @pure_assign @pure_pick) (J @pure_load @pure_nilCheck @pure_binOp @pure_unOp @pure_convert @pure_fieldAddr @pure_field @pure_indexAddr) (J @pure_index @pure_slice @pure_build @pure_extract @pure_makeFunc @pure_len @pure_append @pure_copy) (J @pure_lookup @pure_makeMap @pure_mapUpdate @pure_min @pure_max @pure_cap @pure_mapEntry @pure_entryStore) (J @pure_call @pure_alloc @pure_box @pure_store @pure_makeSlice @pure_buildSlice @free_alloc @free_box) (J @free_store @free_makeSlice @free_append @free_copy @free_makeMap @free_mapUpdate @free_mapEntry @free_entryStore) (J @pureV_c @pureV_agg @free_buildSlice @freeO_cxG @freeO_cxN @freeO_cxK @freeO_cxF @freeO_yld)) (And.intro (J @free_call @effsOk_eff @looseN_alloc @looseN_box @looseN_store @looseN_buildSlice @looseN_call @looseN_makeMap) (And.intro (J @looseN_mapUpdate @looseN_mapEntry @looseN_entryStore @looseN_ms @looseAt_slot @looseAt_none @looseAtC_none @looseAtC_slot) (And.intro (J @effsOk_no @effsOk_nil @lastOk_nil @lastOk_eff @lastOk_no @readAll_nil @readAll_eff @readAll_no) (And.intro (J @readsAll_nil @readsAll_pure @readsAll_eff @readsAll_free @readsAll_not @eqO_some @sameAt_eq @lastF_nil) (And.intro (J @lastF_cons @lastH_nil @lastH_eff @lastH_no @AV.eqb_self @Nat.testBit_zero @Nat.testBit_eq_decide_div_mod_eq @List.getD_cons_zero.{0}) @List.getD_cons_succ.{0}))))))
end Go.Ab
