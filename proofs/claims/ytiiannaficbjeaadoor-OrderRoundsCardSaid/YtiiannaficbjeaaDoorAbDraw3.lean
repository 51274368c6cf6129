/- A part of the proof: an interpreter on abstract values, proved right for every program; no condition. -/
import Derived.Test.YtiiannaficbjeaaDoorAbDraw2
namespace Go.Ab
set_option linter.unusedVariables false
set_option linter.unusedSimpArgs false
set_option linter.unusedSectionVars false
theorem QdT {ms:List Nat} {i:Nat}:∀ (es:List Edge),(Qde ms es).testBit i=true→∃ e ∈ es,Region.binds .any e=true∧(e.on=i∨(ms.getD e.on 0).testBit i=true):=by
 intro es
 induction es with
 | nil=>intro h;simp [Qde] at h
 | cons e es ih =>
  intro h
  unfold Qde at h
  split at h
  ·rename_i hb
   simp only[Nat.testBit_or,Bool.or_eq_true] at h
   rcases h with (h | h) | h
   ·rw[Nat.testBit_two_pow] at h
    exact⟨e,by simp,hb,.inl (of_decide_eq_true h)⟩
   ·exact⟨e,by simp,hb,.inr h⟩
   ·obtain⟨e',h1,h2⟩:=ih h
    exact⟨e',by simp [h1],h2⟩
  ·obtain⟨e',h1,h2⟩:=ih h
   exact⟨e',by simp [h1],h2⟩
theorem Qtg {ms:List Nat}:∀ (os:List Oper) (j:Nat),Qrv ms os j=true→∀ k o,os[k]?=some o →
  ms.getD (j+k) 0=Qde ms o.after.toList∧∀ e ∈ o.after.toList,Region.binds .any e=true→e.on<j+k:=by
 intro os
 induction os with
 | nil=>intro j _ k o h;simp at h
 | cons o os ih =>
  intro j h k o' hk
  simp only[Qrv,Bool.and_eq_true,decide_eq_true_eq,List.all_eq_true,Bool.or_eq_true,Bool.not_eq_true'] at h
  cases k with
  | zero =>
   simp at hk
   subst hk
   exact⟨h.1.1,fun e he hb=>(h.1.2 e he).resolve_left (by simp [hb])⟩
  | succ k =>
   have:=ih (j+1) h.2 k o' (by simpa using hk)
   rw[show j+1+k=j+(k+1) by omega] at this
   exact this
theorem QyL {ms:List Nat} {rd:List Tmp} {j:Nat}:∀ (os:List Oper) (i:Nat),QxP ms rd j os i=true→∀ k o d,os[k]?=some o→o.dst=some d→d ∈ rd →
  (ms.getD j 0).testBit (i+k)=true∨(ms.getD (i+k) 0).testBit j=true:=by
 intro os
 induction os with
 | nil=>intro j _ k o d h;simp at h
 | cons o os ih =>
  intro i h k o' d hk hd hm
  simp only[QxP,Bool.and_eq_true] at h
  cases k with
  | zero =>
   simp at hk
   subst hk
   have:=h.1
   rw[hd] at this
   simp only[Bool.or_eq_true,Bool.not_eq_true',Nat.add_zero] at this ⊢
   rcases this with (h | h) | h
   ·rw[List.contains_iff_mem.2 hm] at h;cases h
   ·exact .inl h
   ·exact .inr h
  | succ k =>
   have:=ih (i+1) h.2 k o' d (by simpa using hk) hd hm
   rw[show i+1+k=i+(k+1) by omega] at this
   exact this
theorem Qta {ms:List Nat} {ops:Array Oper}:∀ (os:List Oper) (j:Nat),QqN ms ops os j=true→∀ k o,os[k]?=some o→QxP ms (readsOf ops o) (j+k) ops.toList 0=true:=by
 intro os
 induction os with
 | nil=>intro j _ k o h;simp at h
 | cons o os ih =>
  intro j h k o' hk
  simp only[QqN,Bool.and_eq_true] at h
  cases k with
  | zero=>simp at hk;subst hk;exact h.1
  | succ k =>
   have:=ih (j+1) h.2 k o' (by simpa using hk)
   rw[show j+1+k=j+(k+1) by omega] at this
   exact this
theorem Qyp:∀ (os:List Oper),Q0c os=true→∀ (i j:Nat) (o o':Oper) (d:Tmp),os[i]?=some o→os[j]?=some o'→o.dst=some d→o'.dst=some d→i=j:=by
 intro os
 induction os with
 | nil=>intro _ i j o o' d h;simp at h
 | cons o os ih =>
  intro h i j o1 o2 d h1 h2 e1 e2
  simp only[Q0c,Bool.and_eq_true] at h
  cases i with
  | zero =>
   cases j with
   | zero=>rfl
   | succ j =>
    simp at h1 h2
    subst h1
    rw[e1] at h
    simp only[List.all_eq_true,decide_eq_true_eq] at h
    exact absurd e2 (h.1 o2 (List.mem_of_getElem? h2))
  | succ i =>
   cases j with
   | zero =>
    simp at h1 h2
    subst h2
    rw[e2] at h
    simp only[List.all_eq_true,decide_eq_true_eq] at h
    exact absurd e1 (h.1 o1 (List.mem_of_getElem? h1))
   | succ j=>exact congrArg Nat.succ (ih h.2 i j o1 o2 d (by simpa using h1) (by simpa using h2) e1 e2)
noncomputable def Qb7 (L:Nat→Bool):Nat→List Rec→Fr→Fr
 | _,[],F=>F
 | i,r::rs,F=>Qb7 L (i+1) rs (if L i=true then setD F r.o.dst r.val else F)
def Qwu (r:Rec) (H:Heap):Heap :=
 match QaD r with
 | some p=>H.set p.1 p.2
 | none=>r.G'
theorem Q4V {r:Rec} {H:Heap} (h:r.full=true):Qwu r H=r.G':=by
 unfold Rec.full at h
 unfold Qwu
 cases hl:QaD r with
 | none=>rfl
 | some p=>rw [hl] at h;simp at h
theorem Q6q {r:Rec} (h:r.eff=true):r.full=true∨∃ p,QaD r=some p:=by
 unfold Rec.full
 cases hl:QaD r with
 | none=>exact .inl (by simp [h])
 | some p=>exact .inr ⟨p,rfl⟩
theorem Qr2 {r:Rec} (h:r.full=true):r.eff=true:=by
 unfold Rec.full at h
 simp only[Bool.and_eq_true] at h
 exact h.1
theorem Q39 {r:Rec} {p:Nat × AObj} (h:QaD r=some p):r.full=false:=by
 unfold Rec.full
 rw[h]
 simp
def Qck (L:Nat→Bool):Nat→List Rec→Heap→Heap
 | _,[],H=>H
 | i,r::rs,H=>Qck L (i+1) rs (if L i=true∧r.eff=true then Qwu r H else H)
theorem QB9 {F:Fr} {d:Option Tmp} {v:AV}:(setD F d v).n=F.n:=by cases d<;>simp [setD,Fr.n_set]
theorem QyB {F:Fr} {d:Option Tmp} {v:AV} {t:Nat}:(setD F d v).ok t=F.ok t:=by cases d<;>simp [setD,Fr.ok_set]
theorem QjP {F:Fr} {d:Option Tmp} {v:AV} {t:Nat}:(setD F d v).get t=if d=some t∧F.ok t=true then v else F.get t:=by
 cases d with
 | none=>simp [setD]
 | some d=>simp only [setD,Fr.get_set,Option.some.injEq]
theorem Qrm {L:Nat→Bool}:∀ (rs:List Rec) (i:Nat) (F:Fr),(Qb7 L i rs F).n=F.n:=by
 intro rs
 induction rs with
 | nil=>intro i F;rfl
 | cons r rs ih =>
  intro i F
  rw[Qb7,ih]
  split
  ·exact QB9
  ·rfl
theorem Q9x {L:Nat→Bool} {t:Nat}:∀ (rs:List Rec) (i:Nat) (F:Fr),(Qb7 L i rs F).ok t=F.ok t:=by
 intro rs
 induction rs with
 | nil=>intro i F;rfl
 | cons r rs ih =>
  intro i F
  rw[Qb7,ih]
  split
  ·exact QyB
  ·rfl
theorem QcC {L:Nat→Bool} {t:Nat}:∀ (rs:List Rec) (i:Nat) (F:Fr),(∀ k r,rs[k]?=some r→r.o.dst=some t→L (i+k)=false)→(Qb7 L i rs F).get t=F.get t:=by
 intro rs
 induction rs with
 | nil=>intro i F _;rfl
 | cons r rs ih =>
  intro i F h
  rw[Qb7,ih]
  ·split
   ·rename_i hL
    rw[QjP]
    split
    ·rename_i hd
     have:=h 0 r rfl hd.1
     rw[Nat.add_zero,hL] at this
     cases this
    ·rfl
   ·rfl
  ·intro k r' hk hd
   have:=h (k+1) r' (by simpa using hk) hd
   rwa [show i+(k+1)=i+1+k by omega] at this
theorem QfK {L:Nat→Bool} {t:Nat}:∀ (rs:List Rec) (i:Nat) (F:Fr),F.ok t=false→(Qb7 L i rs F).get t=F.get t:=by
 intro rs
 induction rs with
 | nil=>intro i F _;rfl
 | cons r rs ih =>
  intro i F h
  rw[Qb7,ih]
  ·split
   ·rw[QjP,if_neg (by rintro ⟨_,h'⟩;rw [h] at h';cases h')]
   ·rfl
  ·split
   ·rw[QyB];exact h
   ·exact h
theorem Qer {L:Nat→Bool} {t:Nat}:∀ (rs:List Rec) (i:Nat) (F:Fr) (k:Nat) (r:Rec),rs[k]?=some r→r.o.dst=some t→L (i+k)=true→F.ok t=true →
  (∀ k' r',rs[k']?=some r'→r'.o.dst=some t→k'=k)→(Qb7 L i rs F).get t=r.val:=by
 intro rs
 induction rs with
 | nil=>intro i F k r h;simp at h
 | cons q rs ih =>
  intro i F k r hk hd hL hlt hu
  rw[Qb7]
  cases k with
  | zero =>
   simp at hk
   subst hk
   rw[QcC]
   ·rw[if_pos (by simpa using hL),QjP,if_pos ⟨hd,hlt⟩]
   ·intro k' r' hk' hd'
    have:=hu (k' + 1) r' (by simpa using hk') hd'
    omega
  | succ k =>
   refine ih (i+1) _ k r (by simpa using hk) hd (by rwa [show i+1+k=i+(k+1) by omega]) ?_ ?_
   ·split
    ·rw[QyB];exact hlt
    ·exact hlt
   ·intro k' r' hk' hd'
    have:=hu (k' + 1) r' (by simpa using hk') hd'
    omega
theorem Qm3 {L L':Nat→Bool}:∀ (rs:List Rec) (i:Nat) (H:Heap),(∀ k r,rs[k]?=some r→r.eff=true→L (i+k)=L' (i+k))→Qck L i rs H=Qck L' i rs H:=by
 intro rs
 induction rs with
 | nil=>intro i H _;rfl
 | cons r rs ih =>
  intro i H h
  rw[Qck,Qck,ih]
  ·congr 1
   by_cases hr:r.eff=true
   ·rw[show L i=L' i from h 0 r rfl hr]
   ·simp[hr]
  ·intro k r' hk he
   have:=h (k+1) r' (by simpa using hk) he
   rwa [show i+(k+1)=i+1+k by omega] at this
def Qdp (L:Nat→Bool):Nat→List Rec→Heap→Heap
 | _,[],H=>H
 | i,r::rs,H=>Qdp L (i+1) rs (if L i=true∧r.eff=true then (match QaD r with | some p=>H.set p.1 p.2 | none=>H) else H)
theorem QfF {L:Nat→Bool}:∀ (rs:List Rec) (i:Nat) (H:Heap),
  (∀ (k k':Nat) (q q':Rec),rs[k]?=some q→q.full=true→rs[k']?=some q'→q'.eff=true→q'.full=false→k' < k) →
  (Qck L i rs H=Qdp L i rs H∧∀ k r,rs[k]?=some r→r.full=true→L (i+k)=false) ∨
  (∃ k r,rs[k]?=some r∧r.full=true∧L (i+k)=true∧Qck L i rs H=r.G'∧∀ k' r',rs[k']?=some r'→r'.full=true→k<k'→L (i+k')=false):=by
 intro rs
 induction rs with
 | nil=>intro i H _;exact .inl ⟨rfl,fun k r h=>by simp at h⟩
 | cons r rs ih =>
  intro i H hlf
  have hlf':∀ (k k':Nat) (q q':Rec),rs[k]?=some q→q.full=true→rs[k']?=some q'→q'.eff=true→q'.full=false→k' < k:=fun k k' q q' h1 h2 h3 h4 h5=>by
   have:=hlf (k+1) (k' + 1) q q' (by simpa using h1) h2 (by simpa using h3) h4 h5
   omega
  rw[Qck]
  rcases ih (i+1) (if L i=true∧r.eff=true then Qwu r H else H) hlf' with ⟨h1,h2⟩ | ⟨k,q,h1,h2,h3,h4,h5⟩
  ·by_cases hc:L i=true∧r.full=true
   ·refine .inr ⟨0,r,rfl,hc.2,by simpa using hc.1, ?_,fun k' r' hk' he hlt=>?_⟩
    ·rw[h1,if_pos ⟨hc.1,Qr2 hc.2⟩,Q4V hc.2]
     have hno:∀ (rs:List Rec) (j:Nat) (K:Heap),(∀ (k:Nat) (q:Rec),rs[k]?=some q→q.eff=true→q.full=true)→Qdp L j rs K=K:=by
      intro rs
      induction rs with
      | nil=>intro j K _;rfl
      | cons p rs ihp =>
       intro j K hp
       rw[Qdp,ihp (j+1) _ (fun k q hk=>hp (k+1) q (by simpa using hk))]
       split
       ·rename_i hh
        have:=hp 0 p rfl hh.2
        cases hl:QaD p with
        | none=>rfl
        | some x=>rw [Q39 hl] at this;cases this
       ·rfl
     refine hno rs (i+1) _ fun k q hk he=>?_
     cases hq:q.full with
     | true=>rfl
     | false =>
      have:=hlf 0 (k+1) r q rfl hc.2 (by simpa using hk) he hq
      omega
    ·cases k' with
     | zero=>omega
     | succ k' =>
      have:=h2 k' r' (by simpa using hk') he
      rwa [show i+1+k'=i+(k' + 1) by omega] at this
   ·refine .inl ⟨?_,fun k' r' hk' he=>?_⟩
    ·rw[h1,Qdp]
     congr 1
     by_cases hL:L i=true∧r.eff=true
     ·rw[if_pos hL,if_pos hL]
      rcases Q6q hL.2 with hf | ⟨p,hp⟩
      ·exact absurd ⟨hL.1,hf⟩ hc
      ·unfold Qwu
       rw[hp]
     ·rw[if_neg hL,if_neg hL]
    ·cases k' with
     | zero =>
      simp at hk'
      subst hk'
      have:¬ L i=true:=fun h=>hc ⟨h,he⟩
      simpa using this
     | succ k' =>
      have:=h2 k' r' (by simpa using hk') he
      rwa [show i+1+k'=i+(k' + 1) by omega] at this
  ·refine .inr ⟨k+1,q,by simpa using h1,h2,by rwa [show i+(k+1)=i+1+k by omega],h4,fun k' r' hk' he hlt=>?_⟩
   cases k' with
   | zero=>omega
   | succ k' =>
    have:=h5 k' r' (by simpa using hk') he (by omega)
    rwa [show i+1+k'=i+(k' + 1) by omega] at this
theorem Qs9 {L:Nat→Bool} {s:Nat}:∀ (rs:List Rec) (i:Nat) (H:Heap),(∀ (k:Nat) (r:Rec) (p:Nat × AObj),rs[k]?=some r→r.eff=true→L (i+k)=true→QaD r=some p→p.1≠s)→(Qdp L i rs H)[s]?=H[s]?:=by
 intro rs
 induction rs with
 | nil=>intro i H _;rfl
 | cons r rs ih =>
  intro i H h
  rw[Qdp,ih (i+1) _ (fun k q p hk he hL hp=>h (k+1) q p (by simpa using hk) he (by rwa [show i+(k+1)=i+1+k by omega]) hp)]
  split
  ·rename_i hc
   cases hl:QaD r with
   | none=>rfl
   | some p =>
    have:=h 0 r p rfl hc.2 (by simpa using hc.1) hl
    simp only
    rw[List.getElem?_set_ne this]
  ·rfl
theorem Q5L {L:Nat→Bool} {s:Nat}:∀ (rs:List Rec) (i:Nat) (H:Heap),(∀ (k:Nat) (r:Rec) (p:Nat × AObj),rs[k]?=some r→QaD r=some p→p.2≠.slot)→(Qdp L i rs H)[s]?=some .slot →
  H[s]?=some .slot∧∀ (k:Nat) (r:Rec) (p:Nat × AObj),rs[k]?=some r→r.eff=true→L (i+k)=true→QaD r=some p→p.1≠s:=by
 intro rs
 induction rs with
 | nil=>intro i H _ h;exact ⟨h,fun k r p hk=>by simp at hk⟩
 | cons r rs ih =>
  intro i H hns h
  rw[Qdp] at h
  obtain⟨h1,h2⟩:=ih (i+1) _ (fun k q p hk hp=>hns (k+1) q p (by simpa using hk) hp) h
  have h0:H[s]?=some .slot∧∀ p,r.eff=true→L i=true→QaD r=some p→p.1≠s:=by
   by_cases hc:L i=true∧r.eff=true
   ·rw[if_pos hc] at h1
    cases hl:QaD r with
    | none =>
     rw[hl] at h1
     exact⟨h1,fun p _ _ hp=>by cases hp⟩
    | some p =>
     rw[hl] at h1
     simp only at h1
     have hn:=hns 0 r p rfl hl
     by_cases hps:p.1=s
     ·rw[← hps,List.getElem?_set_self'] at h1
      cases hg:H[p.1]? with
      | none=>rw [hg] at h1;cases h1
      | some o =>
       rw[hg] at h1
       simp only[Option.map_eq_map,Option.map_some,Function.const,Option.some.injEq] at h1
       exact absurd h1 hn
     ·rw[List.getElem?_set_ne hps] at h1
      exact⟨h1,fun q _ _ hq=>by injection hq with hq;rw [← hq];exact hps⟩
   ·rw[if_neg hc] at h1
    exact⟨h1,fun p he hL _=>absurd ⟨hL,he⟩ hc⟩
  refine⟨h0.1,fun k q p hk he hL hp=>?_⟩
  cases k with
  | zero =>
   simp at hk
   subst hk
   exact h0.2 p he (by simpa using hL) hp
  | succ k=>exact h2 k q p (by simpa using hk) he (by rwa [show i+(k+1)=i+1+k by omega] at hL) hp
theorem Q5b {L L':Nat→Bool} {j:Nat} {q:Rec} {p:Nat × AObj} (he:q.eff=true) (hl:QaD q=some p):∀ (rs:List Rec) (i k0:Nat) (H:Heap),rs[k0]?=some q→j=i+k0→L j=false→(∀ n,L' n=if n=j then true else L n) →
  (∀ (k:Nat) (r:Rec) (p':Nat × AObj),rs[k]?=some r→r.eff=true→L (i+k)=true→QaD r=some p'→p'.1≠p.1)→Qdp L' i rs H=(Qdp L i rs H).set p.1 p.2:=by
 have hset:∀ (rs:List Rec) (i:Nat) (H:Heap),(∀ (k:Nat) (r:Rec) (p':Nat × AObj),rs[k]?=some r→r.eff=true→L (i+k)=true→QaD r=some p'→p'.1≠p.1)→Qdp L i rs (H.set p.1 p.2)=(Qdp L i rs H).set p.1 p.2:=by
  intro rs
  induction rs with
  | nil=>intro i H _;rfl
  | cons r rs ih =>
   intro i H h
   rw[Qdp,Qdp,← ih (i+1) _ (fun k q p' hk he hL hp=>h (k+1) q p' (by simpa using hk) he (by rwa [show i+(k+1)=i+1+k by omega]) hp)]
   congr 1
   split
   ·rename_i hc
    cases hl:QaD r with
    | none=>rfl
    | some p' =>
     have:=h 0 r p' rfl hc.2 (by simpa using hc.1) hl
     exact List.set_comm _ _ (Ne.symm this)
   ·rfl
 intro rs
 induction rs with
 | nil=>intro i k0 H h;simp at h
 | cons r rs ih =>
  intro i k0 H hk hj hLj hL' hd
  cases k0 with
  | zero =>
   simp at hk
   subst hk
   have e1:L' i=true:=by rw [hL',if_pos (by omega)]
   have e2:¬ L i=true:=by rw [show i=j by omega,hLj];simp
   rw[Qdp,Qdp,if_pos ⟨e1,he⟩,if_neg (fun h=>e2 h.1),hl]
   simp only
   rw[← hset rs (i+1) H (fun k q p' hk he hL hp=>hd (k+1) q p' (by simpa using hk) he (by rwa [show i+(k+1)=i+1+k by omega]) hp)]
   have hcg:∀ (rs:List Rec) (i':Nat) (K:Heap),i<i'→Qdp L' i' rs K=Qdp L i' rs K:=by
    intro rs
    induction rs with
    | nil=>intro i' K _;rfl
    | cons r rs ih2 =>
     intro i' K hi
     rw[Qdp,Qdp,ih2 (i' + 1) _ (by omega),show L' i'=L i' by rw [hL',if_neg (by omega)]]
   exact hcg rs (i+1) _ (by omega)
  | succ k0 =>
   rw[Qdp,Qdp,ih (i+1) k0 _ (by simpa using hk) (by omega) hLj hL' (fun k q p' hk he hL hp=>hd (k+1) q p' (by simpa using hk) he (by rwa [show i+(k+1)=i+1+k by omega]) hp),show L' i=L i by rw [hL',if_neg (by omega)]]
theorem Q5x {L:Nat→Bool}:∀ (rs:List Rec) (i:Nat) (H:Heap),(∀ n,i≤n→L n=false)→Qck L i rs H=H:=by
 intro rs
 induction rs with
 | nil=>intro i H _;rfl
 | cons r rs ih=>intro i H h;rw [Qck,ih (i+1) _ (fun n hn=>h n (by omega)),h i (Nat.le_refl _)];simp
theorem Q4O {L:Nat→Bool}:∀ (rs:List Rec) (i:Nat) (H:Heap),(∀ k,k<rs.length→L (i+k)=true)→(∀ (k:Nat) (q:Rec),rs[k]?=some q→q.G=Qck (fun n=>decide (n<i+k)) i rs H) →
  (∀ (k:Nat) (q:Rec) (p:Nat × AObj),rs[k]?=some q→q.eff=true→QaD q=some p→q.G'=q.G.set p.1 p.2)→Qck L i rs H=QhE rs H:=by
 intro rs
 induction rs with
 | nil=>intro i H _ _ _;rfl
 | cons r rs ih =>
  intro i H h hG hs
  have h0:r.G=H:=by
   rw[hG 0 r rfl,Qck,Q5x rs (i+1) _ (fun n hn=>by simp;omega)]
   simp
  have hst:(if r.eff=true then Qwu r H else H)=(if r.eff=true then r.G' else H):=by
   split
   ·rename_i he
    unfold Qwu
    cases hl:QaD r with
    | none=>rfl
    | some p=>rw [hs 0 r p rfl he hl,h0]
   ·rfl
  rw[Qck,QhE,← ih (i+1)]
  ·rw[show L i=true from h 0 (by simp)]
   simp only[true_and,hst]
  ·intro k hk
   have:=h (k+1) (by simpa using hk)
   rwa [show i+(k+1)=i+1+k by omega] at this
  ·intro k q hk
   rw[hG (k+1) q (by simpa using hk),Qck,show i+(k+1)=i+1+k by omega]
   congr 1
   have:decide (i<i+1+k)=true:=by simp;omega
   rw[this]
   simp only[true_and,hst]
  ·intro k q p hk
   exact hs (k+1) q p (by simpa using hk)
theorem Qzi {L:Nat→Bool}:∀ (rs:List Rec) (i:Nat) (F:Fr),(∀ k,k<rs.length→L (i+k)=true)→Qb7 L i rs F=QkY rs F:=by
 intro rs
 induction rs with
 | nil=>intro i H _;rfl
 | cons r rs ih =>
  intro i H h
  rw[Qb7,QkY,ih]
  ·rw[show L i=true from h 0 (by simp)]
   simp
  ·intro k hk
   have:=h (k+1) (by simpa using hk)
   rwa [show i+(k+1)=i+1+k by omega] at this
theorem Qrk [Globals] {P:Program} {cx:Cx} {r i:Nat} {F:Fr} {o:Oper} {v:AV} (h:QdO cx r i (Qa2 F) o=some v) (K:Heap):QaH P cx r i F K o=some (v,K):=by
 unfold QdO at h
 split at h<;>first | (cases h;done) | skip
 rename_i c hc
 split at h<;>first | (cases h;done) | skip
 rename_i hcond
 obtain⟨hp,hraw,hkeep,hfrm⟩:=hcond
 have hpc:QbP cx r i c.1 c.2 K=some (v,K):=by
  obtain⟨x,hx,h⟩:=Option.bind_eq_some_iff.1 h
  obtain⟨s,hs,rfl⟩:=Option.map_eq_some_iff.1 h
  unfold QbP QdV
  rw[if_neg (by rw [hfrm];simp),if_neg (by rw [hraw];simp),if_neg (by rw [hkeep];simp),if_pos hp,hx]
  simp[hs]
 unfold QaH
 have hno:Qa0 P (Qa2 F) K o=none∧QbF P (cx.hints.slot cx.fn r i) (Qa2 F) K o=none∧Qba (Qa2 F) o=none:=by
  unfold QaG at hc
  split at hc<;>first | (cases hc;done) | skip
  rename_i f args at_ ho
  refine⟨by simp only [Qa0,ho],by simp only [QbF,ho], ?_⟩
  unfold Qba
  rw[ho]
  simp only
  split at hc
  ·rename_i e;rw [e]
  ·rename_i e;rw [e]
  ·cases hc
 rw[hno.1,hno.2.1,hno.2.2,hc]
 exact hpc
theorem Q61 [Globals] {P:Program} {cx:Cx} {r i:Nat} {F:Fr} {o:Oper} {v:AV} (h:(match Qb2 P (Qa2 F) o with | some v=>some v | none=>QdO cx r i (Qa2 F) o)=some v) (K:Heap):QcU P cx r i F K o=some (v,K):=by
 unfold QcU
 split at h
 ·rename_i x hx
  injection h with h
  subst h
  rw[hx]
 ·rename_i hx
  rw[hx]
  exact Qrk h K
theorem Q9q [Globals] {P:Program} {cx:Cx} {r i:Nat} {F:Fr} {H:Heap} {o:Oper} {t:TypeId} {l c:Operand} (h:o.op=.makeSlice t l c) :
  QcU P cx r i F H o=QaU P H (cx.hints.slot cx.fn r i) t (Qa2 F l) (Qa2 F c):=by
 obtain⟨dst,op,ty,pos,after,guard⟩:=o
 simp only at h
 subst h
 simp only[QcU,Qb2,QaH,Qa0,QbF,Qba,QaG]
 cases QaU P H (cx.hints.slot cx.fn r i) t (Qa2 F l) (Qa2 F c)<;>simp
theorem QxW {H:Heap} {sl:Option Nat} {s:Nat} (h:QbV H sl=some s):sl=some s:=by
 unfold QbV at h
 split at h
 ·split at h
  ·exact h
  ·cases h
 ·cases h
theorem QBx {P:Program} {G G':Heap} {sl:Option Nat} {t:TypeId} {x y:AV} {s a b d e:Nat} (h:QaU P G sl t x y=some (.hsl s a b d e,G')) (hs:G[s]?=some .slot) :
  ∃ ty cs,G'=G.set s (.row false ty cs)∧∀ K:Heap,K[s]?=some .slot→QaU P K sl t x y=some (.hsl s a b d e,K.set s (.row false ty cs)):=by
 unfold QaU at h
 split at h<;>first | (cases h;done) | skip
 obtain⟨e1,he,h⟩:=Option.bind_eq_some_iff.1 h
 obtain⟨sz,hsz,h⟩:=Option.bind_eq_some_iff.1 h
 obtain⟨by_,hby,h⟩:=Option.bind_eq_some_iff.1 h
 obtain⟨z,hz,h⟩:=Option.bind_eq_some_iff.1 h
 split at h<;>first | (cases h;done) | skip
 rename_i hb
 have hfin:=h
 cases hslot:QbV G sl with
 | none =>
  simp only[hslot,Option.some.injEq,Prod.mk.injEq,AV.hsl.injEq] at hfin
  obtain⟨⟨h1,_⟩,_⟩:=hfin
  rw[← h1,List.getElem?_eq_none (Nat.le_refl _)] at hs
  cases hs
 | some s' =>
  simp only[hslot,Option.some.injEq,Prod.mk.injEq,AV.hsl.injEq] at hfin
  obtain⟨⟨h1,h2,h3,h4,h5⟩,h6⟩:=hfin
  subst h1
  subst h2
  subst h3
  subst h4
  subst h5
  refine⟨_,_,h6.symm,fun K hK=>?_⟩
  have hsl:QbV K sl=some s':=by rw [QxW hslot];simp [QbV,hK]
  unfold QaU
  simp only[he,hsz,hby,hz,Option.bind_some]
  rw[if_pos hb]
  simp only[hsl]
theorem Q6E [Globals] {P:Program} {cx:Cx} {r i:Nat} {F:Fr} {H:Heap} {o:Oper} {e:TypeId} (h:o.op=.alloc e) :
  QcU P cx r i F H o=Qel P H (cx.hints.slot cx.fn r i) e:=by
 obtain⟨dst,op,ty,pos,after,guard⟩:=o
 simp only at h
 subst h
 simp only[QcU,Qb2,QaH,Qa0,QbF,Qba,QaG]
 cases Qel P H (cx.hints.slot cx.fn r i) e<;>simp
theorem QBm {P:Program} {G G':Heap} {sl:Option Nat} {e:TypeId} {s a:Nat} (h:Qel P G sl e=some (.ptr s a,G')) (hs:G[s]?=some .slot) :
  ∃ ty cs,G'=G.set s (.cells ty cs)∧∀ K:Heap,K[s]?=some .slot→Qel P K sl e=some (.ptr s a,K.set s (.cells ty cs)):=by
 unfold Qel at h
 cases hslot:QbV G sl with
 | none =>
  simp only[hslot] at h
  unfold Qdt at h
  obtain⟨z,hz,h⟩:=Option.map_eq_some_iff.1 h
  simp only[Prod.mk.injEq,AV.ptr.injEq] at h
  rw[← h.1.1,List.getElem?_eq_none (Nat.le_refl _)] at hs
  cases hs
 | some s' =>
  simp only[hslot] at h
  obtain⟨z,hz,h⟩:=Option.map_eq_some_iff.1 h
  simp only[Prod.mk.injEq,AV.ptr.injEq] at h
  obtain⟨⟨h1,h2⟩,h3⟩:=h
  subst h1
  subst h2
  refine⟨_,_,h3.symm,fun K hK=>?_⟩
  have hsl:QbV K sl=some s':=by rw [QxW hslot];simp [QbV,hK]
  unfold Qel
  simp only[hsl,hz,Option.map_some]
theorem QfE [Globals] {P:Program} {cx:Cx} {r i:Nat} {q:Rec} {p:Nat × AObj} (h:QcU P cx r i q.F q.G q.o=some (q.val,q.G')) (hl:QaD q=some p) :
  q.G'=q.G.set p.1 p.2∧q.G[p.1]?=some .slot∧∀ K:Heap,K[p.1]?=some .slot→QcU P cx r i q.F K q.o=some (q.val,K.set p.1 p.2):=by
 unfold QaD at hl
 split at hl<;>first | (cases hl;done) | skip
 ·rename_i t l c s a b d e hop hval
  rw[Q9q hop,hval] at h
  have hs:q.G[s]?=some .slot∧q.G'[s]?=some p.2∧p.1=s:=by
   unfold looseAt at hl
   split at hl<;>first | (cases hl;done) | skip
   rename_i h1 h2
   injection hl with hl
   subst hl
   exact⟨h1,h2,rfl⟩
  obtain⟨h1,h2,h3⟩:=hs
  obtain⟨ty,cs,g1,g2⟩:=QBx h h1
  have hp2:p.2=.row false ty cs:=by
   rw[g1,List.getElem?_set_self (List.getElem?_eq_some_iff.1 h1).1] at h2
   injection h2 with h2
   exact h2.symm
  rw[h3,hp2]
  exact⟨g1,h1,fun K hK=>by rw [Q9q hop,hval];exact g2 K hK⟩
 ·rename_i e s a hop hval
  rw[Q6E hop,hval] at h
  have hs:q.G[s]?=some .slot∧q.G'[s]?=some p.2∧p.1=s:=by
   unfold QfP at hl
   split at hl<;>first | (cases hl;done) | skip
   rename_i h1 h2
   injection hl with hl
   subst hl
   exact⟨h1,h2,rfl⟩
  obtain⟨h1,h2,h3⟩:=hs
  obtain⟨ty,cs,g1,g2⟩:=QBm h h1
  have hp2:p.2=.cells ty cs:=by
   rw[g1,List.getElem?_set_self (List.getElem?_eq_some_iff.1 h1).1] at h2
   injection h2 with h2
   exact h2.symm
  rw[h3,hp2]
  exact⟨g1,h1,fun K hK=>by rw [Q6E hop,hval];exact g2 K hK⟩
theorem Q5Z {q:Rec} {p:Nat × AObj} (hl:QaD q=some p):p.2≠.slot:=by
 unfold QaD at hl
 split at hl<;>first | (cases hl;done) | skip
 ·unfold looseAt at hl
  split at hl<;>first | (cases hl;done) | skip
  injection hl with hl
  subst hl
  intro h
  cases h
 ·unfold QfP at hl
  split at hl<;>first | (cases hl;done) | skip
  injection hl with hl
  subst hl
  intro h
  cases h
theorem Qy8 [Globals] {P:Program} {cx:Cx} {r:Nat} {ops:Array Oper}:∀ (os:List Oper) (i:Nat) (F:Fr) (H:Heap) (rs:List Rec),Qca P cx r ops os i F H=some rs →
  rs.length=os.length∧∀ k q,rs[k]?=some q→os[k]?=some q.o∧q.F=Qb7 (fun n=>decide (n<i+k)) i rs F∧q.G=Qck (fun n=>decide (n<i+k)) i rs H ∧
   (q.run=false→QbS ops q.o q.F=some false∧q.val=.tup []∧q.eff=false) ∧
   (q.run=true→QbS ops q.o q.F=some true∧(q.eff=true→QcU P cx r (i+k) q.F q.G q.o=some (q.val,q.G'))∧(q.free=true→∀ K,QcU P cx r (i+k) q.F K q.o=some (q.val,K))):=by
 intro os
 induction os with
 | nil =>
  intro i F H rs h
  injection h with h
  subst h
  exact⟨rfl,fun k q h=>by simp at h⟩
 | cons o os ih =>
  have key:∀ (i:Nat) (F:Fr) (H:Heap) (q:Rec) (rs':List Rec),q.o=o→q.F=F→q.G=H→Qca P cx r ops os (i+1) (setD F o.dst q.val) (if q.eff=true then q.G' else H)=some rs' →
    (q.run=false→QbS ops q.o q.F=some false∧q.val=.tup []∧q.eff=false) →
    (q.run=true→QbS ops q.o q.F=some true∧(q.eff=true→QcU P cx r i q.F q.G q.o=some (q.val,q.G'))∧(q.free=true→∀ K,QcU P cx r i q.F K q.o=some (q.val,K)))→(q.eff=true→q.run=true) →
    (q::rs').length=(o::os).length∧∀ k p,(q::rs')[k]?=some p→(o::os)[k]?=some p.o∧p.F=Qb7 (fun n=>decide (n<i+k)) i (q::rs') F∧p.G=Qck (fun n=>decide (n<i+k)) i (q::rs') H ∧
     (p.run=false→QbS ops p.o p.F=some false∧p.val=.tup []∧p.eff=false) ∧
     (p.run=true→QbS ops p.o p.F=some true∧(p.eff=true→QcU P cx r (i+k) p.F p.G p.o=some (p.val,p.G'))∧(p.free=true→∀ K,QcU P cx r (i+k) p.F K p.o=some (p.val,K))):=by
   intro i F H q rs' e1 e2 e3 hd h0 h1 hrun
   have h1':=h1
   obtain⟨hl,hr⟩:=ih (i+1) _ _ rs' hd
   refine⟨by simp [hl],fun k p hk=>?_⟩
   cases k with
   | zero =>
    simp at hk
    subst hk
    refine⟨by simp [e1], ?_, ?_,h0,h1⟩
    ·rw[e2,Qb7]
     symm
     have hno:∀ (rs:List Rec) (i':Nat) (F:Fr),i≤i'→Qb7 (fun n=>decide (n<i+0)) i' rs F=F:=by
      intro rs
      induction rs with
      | nil=>intro i' F _;rfl
      | cons r rs ih=>intro i' F hi;rw [Qb7,ih (i' + 1) _ (by omega)];simp;omega
     rw[hno _ _ _ (by omega)]
     simp
    ·rw[e3,Qck]
     symm
     have hno:∀ (rs:List Rec) (i':Nat) (F:Heap),i≤i'→Qck (fun n=>decide (n<i+0)) i' rs F=F:=by
      intro rs
      induction rs with
      | nil=>intro i' F _;rfl
      | cons r rs ih=>intro i' F hi;rw [Qck,ih (i' + 1) _ (by omega)];simp;omega
     rw[hno _ _ _ (by omega)]
     simp
   | succ k =>
    simp at hk
    obtain⟨h1,h2,h3,h4,h5⟩:=hr k p hk
    refine⟨by simpa using h1, ?_, ?_,h4,fun hr=>⟨(h5 hr).1,fun he=>by rw [show i+(k+1)=i+1+k by omega];exact (h5 hr).2.1 he,fun hf=>by rw [show i+(k+1)=i+1+k by omega];exact (h5 hr).2.2 hf⟩⟩
    ·rw[h2,Qb7,show i+(k+1)=i+1+k by omega,e1]
     congr 1
     rw[if_pos (by simp;omega)]
    ·rw[h3,Qck,show i+(k+1)=i+1+k by omega]
     congr 1
     have:decide (i<i+1+k)=true:=by simp;omega
     rw[this]
     simp only[true_and]
     split
     ·rename_i he
      unfold Qwu
      cases hlo:QaD q with
      | none=>rfl
      | some x =>
       rw[(QfE ((h1' (hrun he)).2.1 he) hlo).1,e3]
     ·rfl
  intro i F H rs h
  simp only[Qca] at h
  split at h
  ·cases h
  ·rename_i hw
   obtain⟨rs',hrs,rfl⟩:=Option.map_eq_some_iff.1 h
   exact key i F H ⟨o,.tup [],false,false,false,F,H,H⟩ rs' rfl rfl rfl (by simpa using hrs) (fun _=>⟨hw,rfl,rfl⟩) (fun h=>by cases h) (fun h=>by cases h)
  ·rename_i hw
   split at h
   ·rename_i v hp
    obtain⟨rs',hrs,rfl⟩:=Option.map_eq_some_iff.1 h
    exact key i F H ⟨o,v,false,true,false,F,H,H⟩ rs' rfl rfl rfl (by simpa using hrs) (fun h=>by cases h) (fun _=>⟨hw,(fun h=>by cases h),(fun h=>by cases h)⟩) (fun h=>by cases h)
   ·split at h
    ·rename_i v hv
     obtain⟨rs',hrs,rfl⟩:=Option.map_eq_some_iff.1 h
     exact key i F H ⟨o,v,false,true,true,F,H,H⟩ rs' rfl rfl rfl (by simpa using hrs) (fun h=>by cases h) (fun _=>⟨hw,(fun h=>by cases h),fun _ K=>Q61 hv K⟩) (fun h=>by cases h)
    split at h
    ·rename_i s he
     obtain⟨rs',hrs,rfl⟩:=Option.map_eq_some_iff.1 h
     exact key i F H ⟨o,s.1,true,true,false,F,H,s.2⟩ rs' rfl rfl rfl (by simpa using hrs) (fun h=>by cases h) (fun _=>⟨hw,(fun _=>he),(fun h=>by cases h)⟩) (fun _=>rfl)
    ·cases h
theorem QlQ {ms:List Nat}:∀ (rs:List Rec) (j:Nat) (es:List Nat) (f:Bool),Qds ms rs j es f=true→∀ (k:Nat) (r:Rec),rs[k]?=some r→r.eff=true →
  (r.full=true→(∀ i ∈ es,(ms.getD (j+k) 0).testBit i=true)∧∀ (k':Nat) (r':Rec),rs[k']?=some r'→r'.eff=true→k' < k→(ms.getD (j+k) 0).testBit (j+k')=true) ∧
  (r.full=false→f=false∧∀ (k':Nat) (r':Rec),rs[k']?=some r'→r'.full=true→k<k'):=by
 intro rs
 induction rs with
 | nil=>intro j es f _ k r h;simp at h
 | cons q rs ih =>
  intro j es f h k r hk he
  have hfull:∀ (r:Rec),r.eff=true→r.full=(QaD r).isNone:=fun r h=>by unfold Rec.full;rw [h];simp
  simp only[Qds] at h
  cases k with
  | zero =>
   simp at hk
   subst hk
   rw[if_pos he,← hfull q he] at h
   refine⟨fun hf=>?_,fun hf=>?_⟩
   ·rw[if_pos hf] at h
    simp only[Bool.and_eq_true,List.all_eq_true] at h
    exact⟨h.1,fun k' r' _ _ hlt=>by omega⟩
   ·rw[if_neg (by rw [hf];simp)] at h
    simp only[Bool.and_eq_true,Bool.not_eq_true'] at h
    refine⟨h.1,fun k' r' hk' hf'=>?_⟩
    cases k' with
    | zero =>
     simp at hk'
     subst hk'
     rw[hf] at hf'
     cases hf'
    | succ k'=>omega
  | succ k =>
   have hk':rs[k]?=some r:=by simpa using hk
   by_cases hq:q.eff=true
   ·rw[if_pos hq,← hfull q hq] at h
    by_cases hqf:q.full=true
    ·rw[if_pos hqf] at h
     simp only[Bool.and_eq_true] at h
     obtain⟨h1,h2⟩:=ih (j+1) (j::es) true h.2 k r hk' he
     rw[show j+1+k=j+(k+1) by omega] at h1
     refine⟨fun hf=>?_,fun hf=>by have:=(h2 hf).1;cases this⟩
     obtain⟨g1,g2⟩:=h1 hf
     refine⟨fun i hi=>g1 i (by simp [hi]),fun k' r' hk2 he2 hlt=>?_⟩
     cases k' with
     | zero=>exact g1 j (by simp)
     | succ k' =>
      have:=g2 k' r' (by simpa using hk2) he2 (by omega)
      rwa [show j+1+k'=j+(k' + 1) by omega] at this
    ·rw[if_neg hqf] at h
     simp only[Bool.and_eq_true] at h
     obtain⟨h1,h2⟩:=ih (j+1) (j::es) f h.2 k r hk' he
     rw[show j+1+k=j+(k+1) by omega] at h1
     refine⟨fun hf=>?_,fun hf=>⟨(h2 hf).1,fun k' r' hk2 hf2=>?_⟩⟩
     ·obtain⟨g1,g2⟩:=h1 hf
      refine⟨fun i hi=>g1 i (by simp [hi]),fun k' r' hk2 he2 hlt=>?_⟩
      cases k' with
      | zero=>exact g1 j (by simp)
      | succ k' =>
       have:=g2 k' r' (by simpa using hk2) he2 (by omega)
       rwa [show j+1+k'=j+(k' + 1) by omega] at this
     ·cases k' with
      | zero =>
       simp at hk2
       subst hk2
       exact absurd hf2 hqf
      | succ k' =>
       have:=(h2 hf).2 k' r' (by simpa using hk2) hf2
       omega
   ·rw[if_neg hq] at h
    obtain⟨h1,h2⟩:=ih (j+1) es f h k r hk' he
    rw[show j+1+k=j+(k+1) by omega] at h1
    refine⟨fun hf=>?_,fun hf=>⟨(h2 hf).1,fun k' r' hk2 hf2=>?_⟩⟩
    ·obtain⟨g1,g2⟩:=h1 hf
     refine⟨g1,fun k' r' hk2 he2 hlt=>?_⟩
     cases k' with
     | zero =>
      simp at hk2
      subst hk2
      exact absurd he2 hq
     | succ k' =>
      have:=g2 k' r' (by simpa using hk2) he2 (by omega)
      rwa [show j+1+k'=j+(k' + 1) by omega] at this
    ·cases k' with
     | zero =>
      simp at hk2
      subst hk2
      exact absurd (Qr2 hf2) hq
     | succ k' =>
      have:=(h2 hf).2 k' r' (by simpa using hk2) hf2
      omega
theorem QkR [Globals] {P:Program} {r:Rec} {K:Heap} (h:sameAt P r K=true):Qa0 P (Qa2 r.F) K r.o=some r.val:=by
 unfold sameAt at h
 split at h
 ·rename_i v hv
  rw[hv,AV.eq_of_eqb _ _ h]
 ·cases h
theorem QiY {m:Nat}:∀ (rs:List Rec) (k:Nat),QdB m rs k=false→∃ i r,rs[i]?=some r∧r.full=true∧m.testBit (k+i)=true:=by
 intro rs
 induction rs with
 | nil=>intro k h;cases h
 | cons r rs ih =>
  intro k h
  simp only[QdB,Bool.and_eq_false_iff] at h
  rcases h with h | h
  ·simp only[Bool.or_eq_false_iff,Bool.not_eq_false'] at h
   exact⟨0,r,rfl,by simpa using h.1,by simpa using h.2⟩
  ·obtain⟨i,q,h1,h2,h3⟩:=ih (k+1) h
   exact⟨i+1,q,by simpa using h1,h2,by rwa [show k+(i+1)=k+1+i by omega]⟩
theorem Qv9 [Globals] {P:Program} {ms:List Nat} {r:Rec} {j:Nat}:∀ (rs:List Rec) (k0:Nat),readAll P ms r j rs k0=true→∀ k q,rs[k]?=some q→q.full=true →
  (ms.getD (k0+k) 0).testBit j=true∨(∃ i q',rs[i]?=some q'∧q'.full=true∧k<i∧(ms.getD j 0).testBit (k0+i)=true)∨sameAt P r q.G'=true:=by
 intro rs
 induction rs with
 | nil=>intro k0 _ k q h;simp at h
 | cons q0 rs ih =>
  intro k0 h k q hk he
  simp only[readAll,Bool.and_eq_true] at h
  cases k with
  | zero =>
   simp at hk
   subst hk
   have h1:=h.1
   rw[if_pos he] at h1
   simp only[Bool.or_eq_true,Bool.not_eq_true'] at h1
   rcases h1 with (h1 | h1) | h1
   ·exact .inl h1
   ·obtain⟨i,q',h2,h3,h4⟩:=QiY _ _ h1
    exact .inr (.inl ⟨i+1,q',by simpa using h2,h3,by omega,by rwa [show k0+(i+1)=k0+1+i by omega]⟩)
   ·exact .inr (.inr h1)
  | succ k =>
   have:=ih (k0+1) h.2 k q (by simpa using hk) he
   rw[show k0+1+k=k0+(k+1) by omega] at this
   rcases this with h1 | ⟨i,q',h2,h3,h4,h5⟩ | h1
   ·exact .inl h1
   ·exact .inr (.inl ⟨i+1,q',by simpa using h2,h3,by omega,by rwa [show k0+(i+1)=k0+1+i by omega]⟩)
   ·exact .inr (.inr h1)
theorem QqR [Globals] {P:Program} {ms:List Nat} {H:Heap} {all:List Rec}:∀ (rs:List Rec) (j:Nat),Qb6 P ms H all rs j=true→∀ k r,rs[k]?=some r→r.eff=false→r.run=true→r.free=false →
  (QdB (ms.getD (j+k) 0) all 0=false∨sameAt P r H=true)∧readAll P ms r (j+k) all 0=true:=by
 intro rs
 induction rs with
 | nil=>intro j _ k r h;simp at h
 | cons q rs ih =>
  intro j h k r hk he hr hfr
  simp only[Qb6,Bool.and_eq_true] at h
  cases k with
  | zero =>
   simp at hk
   subst hk
   have h1:=h.1
   rw[if_pos ⟨he,hr,hfr⟩] at h1
   simp only[Bool.and_eq_true,Bool.or_eq_true,Bool.not_eq_true'] at h1
   exact h1
  | succ k =>
   have:=ih (j+1) h.2 k r (by simpa using hk) he hr hfr
   rwa [show j+1+k=j+(k+1) by omega] at this
end Go.Ab
