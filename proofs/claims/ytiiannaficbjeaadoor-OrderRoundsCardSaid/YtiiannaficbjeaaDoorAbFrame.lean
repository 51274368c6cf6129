/- A part of the proof: an interpreter on abstract values, proved right for every program; no condition. -/
import Derived.Test.YtiiannaficbjeaaDoorAbSound
namespace Go.Ab
set_option linter.unusedVariables false
set_option linter.unusedSimpArgs false
set_option linter.unusedSectionVars false
section
variable {S S':Nat→Prop} {σ σ' σ1 σ2:List Nat} {H H' H1 H2:Heap} {w w':World} {P:Program} {ρ:Nat→Option Nat}
def Emb (ρ:Nat→Option Nat) (σ1:List Nat) (H1:Heap) (σ2:List Nat) (H2:Heap):Prop :=
 ∀ i j,ρ i=some j→σ2[j]?=σ1[i]?∧QaR H2 j=QaR H1 i∧∀ fz t cs,H2[j]?=some (.row fz t cs)→H1[i]?=some (.row fz t cs)
theorem VRel.ren1 (hE:Emb ρ σ1 H1 σ2 H2) {x y:AV} {v:Value} (h:VRel S σ1 H1 w x v) (hx:x.ren1 ρ=some y):VRel S σ2 H2 w y v:=by
 cases h with
 | c h=>injection hx with hx;subst hx;exact .c h
 | ptr hs hd =>
  obtain⟨j,hj,rfl⟩:=Option.map_eq_some_iff.1 hx
  obtain⟨e1,e2,_⟩:=hE _ _ hj
  exact .ptr (by rw [e1];exact hs) (by rw [e2];exact hd)
 | eptr hd h =>
  obtain⟨j,hj,rfl⟩:=Option.map_eq_some_iff.1 hx
  obtain⟨e1,e2,e3⟩:=hE _ _ hj
  refine .eptr (by rw [e2];exact hd) fun fz t cs hc=>?_
  obtain⟨h1,h2⟩:=h fz t cs (e3 _ _ _ hc)
  exact⟨h1,fun he=>by rw [e1];exact h2 he⟩
 | hsl hd h =>
  obtain⟨j,hj,rfl⟩:=Option.map_eq_some_iff.1 hx
  obtain⟨e1,e2,e3⟩:=hE _ _ hj
  refine .hsl (by rw [e2];exact hd) fun fz t cs hc=>?_
  obtain⟨h1,h2⟩:=h fz t cs (e3 _ _ _ hc)
  exact⟨h1,fun he=>by rw [e1];exact h2 he⟩
 | hmap hs hd =>
  obtain⟨j,hj,rfl⟩:=Option.map_eq_some_iff.1 hx
  obtain⟨e1,e2,_⟩:=hE _ _ hj
  exact .hmap (by rw [e1];exact hs) (by rw [e2];exact hd)
 | _=>cases hx
theorem AV.ren1_cell {x y:AV} (hx:x.ren1 ρ=some y):y.isCell=true:=by
 cases x with
 | c x=>injection hx with hx;subst hx;rfl
 | ptr id off=>obtain ⟨j,hj,rfl⟩:=Option.map_eq_some_iff.1 hx;rfl
 | eptr id off ext=>obtain ⟨j,hj,rfl⟩:=Option.map_eq_some_iff.1 hx;rfl
 | hsl id off len ext sz=>obtain ⟨j,hj,rfl⟩:=Option.map_eq_some_iff.1 hx;rfl
 | hmap id=>obtain ⟨j,hj,rfl⟩:=Option.map_eq_some_iff.1 hx;rfl
 | _=>cases hx
theorem QkT:∀ {xs ys:List AV},Qh6 ρ xs=some ys→ys.length=xs.length∧∀ (i:Nat) (y:AV),ys[i]?=some y→∃ x:AV,xs[i]?=some x∧x.ren1 ρ=some y
 | [],ys,h=>by injection h with h;subst h;exact ⟨rfl,fun i y h=>by simp at h⟩
 | x::xs,ys,h=>by
  rw[Qh6] at h
  obtain⟨y,hy,h⟩:=Option.bind_eq_some_iff.1 h
  obtain⟨zs,hz,rfl⟩:=Option.map_eq_some_iff.1 h
  obtain⟨h1,h2⟩:=QkT hz
  refine⟨by simp [h1],fun i z hi=>?_⟩
  cases i with
  | zero=>simp at hi;subst hi;exact ⟨x,rfl,hy⟩
  | succ i=>simpa using h2 i z (by simpa using hi)
theorem VRel.ren0 (hE:Emb ρ σ1 H1 σ2 H2) {x y:AV} {v:Value} (h:VRel S σ1 H1 w x v) (hx:x.ren0 ρ=some y):VRel S σ2 H2 w y v:=by
 cases h with
 | clo h1 h2 r1 r2 =>
  obtain⟨a,ha,hx⟩:=Option.bind_eq_some_iff.1 hx
  obtain⟨b,hb,rfl⟩:=Option.map_eq_some_iff.1 hx
  obtain⟨l1,g1⟩:=QkT ha
  obtain⟨l2,g2⟩:=QkT hb
  exact .clo (by rw [l1];exact h1) (by rw [l2];exact h2)
   (fun i z hz=>by obtain ⟨x,e1,e2⟩:=g1 i z hz;exact (r1 i x e1).ren1 hE e2) (fun i z hz=>by obtain ⟨x,e1,e2⟩:=g2 i z hz;exact (r2 i x e1).ren1 hE e2)
 | c h=>exact VRel.ren1 hE (.c h) hx
 | ptr hs hd=>exact VRel.ren1 hE (.ptr hs hd) hx
 | eptr hd h=>exact VRel.ren1 hE (.eptr hd h) hx
 | hsl hd h=>exact VRel.ren1 hE (.hsl hd h) hx
 | hmap hs hd=>exact VRel.ren1 hE (.hmap hs hd) hx
 | yld hs hd=>cases hx
 | cw=>cases hx
 | agg=>cases hx
 | tup=>cases hx
 | unk=>cases hx
theorem AV.ren0_cell {x y:AV} (hx:x.ren0 ρ=some y):y.isCell=true:=by
 cases x with
 | clo f a b =>
  obtain⟨a,ha,hx⟩:=Option.bind_eq_some_iff.1 hx
  obtain⟨b,hb,rfl⟩:=Option.map_eq_some_iff.1 hx
  rfl
 | c x=>exact AV.ren1_cell (ρ:=ρ) (x:=.c x) hx
 | ptr id off=>exact AV.ren1_cell (ρ:=ρ) (x:=.ptr id off) hx
 | eptr id off ext=>exact AV.ren1_cell (ρ:=ρ) (x:=.eptr id off ext) hx
 | hsl id off len ext sz=>exact AV.ren1_cell (ρ:=ρ) (x:=.hsl id off len ext sz) hx
 | hmap id=>exact AV.ren1_cell (ρ:=ρ) (x:=.hmap id) hx
 | _=>cases hx
theorem QkI:∀ {xs ys:List AV},Qk3 ρ xs=some ys→ys.length=xs.length∧∀ (i:Nat) (y:AV),ys[i]?=some y→∃ x:AV,xs[i]?=some x∧x.ren0 ρ=some y
 | [],ys,h=>by injection h with h;subst h;exact ⟨rfl,fun i y h=>by simp at h⟩
 | x::xs,ys,h=>by
  rw[Qk3] at h
  obtain⟨y,hy,h⟩:=Option.bind_eq_some_iff.1 h
  obtain⟨zs,hz,rfl⟩:=Option.map_eq_some_iff.1 h
  obtain⟨h1,h2⟩:=QkI hz
  refine⟨by simp [h1],fun i z hi=>?_⟩
  cases i with
  | zero=>simp at hi;subst hi;exact ⟨x,rfl,hy⟩
  | succ i=>simpa using h2 i z (by simpa using hi)
theorem VRel.renA (hE:Emb ρ σ1 H1 σ2 H2) {x y:AV} {v:Value} (h:VRel S σ1 H1 w x v) (hx:x.renA ρ=some y):VRel S σ2 H2 w y v:=by
 cases h with
 | agg h1 h2 r =>
  obtain⟨a,ha,rfl⟩:=Option.map_eq_some_iff.1 hx
  obtain⟨l1,g1⟩:=QkI ha
  refine .agg (by rw [l1];exact h1) (fun z hz=>?_) (fun i z hz=>by obtain ⟨x,e1,e2⟩:=g1 i z hz;exact (r i x e1).ren0 hE e2)
  obtain⟨i,hi,rfl⟩:=List.mem_iff_getElem.1 hz
  obtain⟨x,_,e2⟩:=g1 i _ (List.getElem?_eq_getElem hi)
  exact AV.ren0_cell e2
 | unk=>injection hx with hx;subst hx;exact .unk
 | c h=>exact VRel.ren0 hE (.c h) hx
 | ptr hs hd=>exact VRel.ren0 hE (.ptr hs hd) hx
 | eptr hd h=>exact VRel.ren0 hE (.eptr hd h) hx
 | hsl hd h=>exact VRel.ren0 hE (.hsl hd h) hx
 | hmap hs hd=>exact VRel.ren0 hE (.hmap hs hd) hx
 | clo h1 h2 r1 r2=>exact VRel.ren0 hE (.clo h1 h2 r1 r2) hx
 | yld hs hd=>cases hx
 | cw=>cases hx
 | tup=>cases hx
theorem QvD:∀ {xs ys:List AV},QhS ρ xs=some ys→ys.length=xs.length∧∀ (i:Nat) (y:AV),ys[i]?=some y→∃ x:AV,xs[i]?=some x∧x.renA ρ=some y
 | [],ys,h=>by injection h with h;subst h;exact ⟨rfl,fun i y h=>by simp at h⟩
 | x::xs,ys,h=>by
  rw[QhS] at h
  obtain⟨y,hy,h⟩:=Option.bind_eq_some_iff.1 h
  obtain⟨zs,hz,rfl⟩:=Option.map_eq_some_iff.1 h
  obtain⟨h1,h2⟩:=QvD hz
  refine⟨by simp [h1],fun i z hi=>?_⟩
  cases i with
  | zero=>simp at hi;subst hi;exact ⟨x,rfl,hy⟩
  | succ i=>simpa using h2 i z (by simpa using hi)
theorem QuE (hE:Emb ρ σ1 H1 σ2 H2):∀ {xs ys:List AV} {vs:List Value},QhS ρ xs=some ys→All2 (VRel S σ1 H1 w) xs vs→All2 (VRel S σ2 H2 w) ys vs
 | [],ys,vs,h,ha=>by injection h with h;subst h;cases ha;exact .nil
 | x::xs,ys,vs,h,ha=>by
  rw[QhS] at h
  obtain⟨y,hy,h⟩:=Option.bind_eq_some_iff.1 h
  obtain⟨zs,hz,rfl⟩:=Option.map_eq_some_iff.1 h
  cases ha with
  | cons h1 h2=>exact .cons (h1.renA hE hy) (QuE hE hz h2)
theorem VRel.ren (hE:Emb ρ σ1 H1 σ2 H2) {x y:AV} {v:Value} (h:VRel S σ1 H1 w x v) (hx:x.ren ρ=some y):VRel S σ2 H2 w y v:=by
 cases h with
 | tup h1 r =>
  obtain⟨a,ha,rfl⟩:=Option.map_eq_some_iff.1 hx
  obtain⟨l1,g1⟩:=QvD ha
  exact .tup (by rw [l1];exact h1) (fun i z hz=>by obtain ⟨x,e1,e2⟩:=g1 i z hz;exact (r i x e1).renA hE e2)
 | c h=>exact VRel.renA hE (.c h) hx
 | ptr hs hd=>exact VRel.renA hE (.ptr hs hd) hx
 | eptr hd h=>exact VRel.renA hE (.eptr hd h) hx
 | hsl hd h=>exact VRel.renA hE (.hsl hd h) hx
 | hmap hs hd=>exact VRel.renA hE (.hmap hs hd) hx
 | clo h1 h2 r1 r2=>exact VRel.renA hE (.clo h1 h2 r1 r2) hx
 | agg h1 h2 r=>exact VRel.renA hE (.agg h1 h2 r) hx
 | unk=>exact VRel.renA hE .unk hx
 | yld hs hd=>cases hx
 | cw=>cases hx
theorem QxY:∀ {xs ys:List (AV × AV)},QmN ρ xs=some ys→ys.length=xs.length∧∀ (i:Nat) (k v:AV),ys[i]?=some (k,v)→∃ k0 v0,xs[i]?=some (k0,v0)∧k0.renA ρ=some k∧v0.renA ρ=some v
 | [],ys,h=>by injection h with h;subst h;exact ⟨rfl,fun i k v h=>by simp at h⟩
 | (a,b)::xs,ys,h=>by
  rw[QmN] at h
  obtain⟨k,hk,h⟩:=Option.bind_eq_some_iff.1 h
  obtain⟨v,hv,h⟩:=Option.bind_eq_some_iff.1 h
  obtain⟨zs,hz,rfl⟩:=Option.map_eq_some_iff.1 h
  obtain⟨h1,h2⟩:=QxY hz
  refine⟨by simp [h1],fun i k' v' hi=>?_⟩
  cases i with
  | zero =>
   simp at hi
   obtain⟨rfl,rfl⟩:=hi
   exact⟨a,b,rfl,hk,hv⟩
  | succ i=>simpa using h2 i k' v' (by simpa using hi)
theorem ORel.ren (hE:Emb ρ σ1 H1 σ2 H2) {o o':AObj} {b:Nat} (h:ORel S σ1 H1 w b o) (hx:o.ren ρ=some o'):ORel S σ2 H2 w b o':=by
 cases o with
 | cells t cs =>
  obtain⟨a,ha,rfl⟩:=Option.map_eq_some_iff.1 hx
  obtain⟨l1,g1⟩:=QkI ha
  obtain⟨vs,h1,h2,h3,h4⟩:=h
  refine⟨vs,h1,by rw [l1];exact h2,fun z hz=>?_,fun i z hz=>by obtain ⟨x,e1,e2⟩:=g1 i z hz;exact (h4 i x e1).ren0 hE e2⟩
  obtain⟨i,hi,rfl⟩:=List.mem_iff_getElem.1 hz
  obtain⟨x,_,e2⟩:=g1 i _ (List.getElem?_eq_getElem hi)
  exact AV.ren0_cell e2
 | row fz t cs=>injection hx with hx;subst hx;exact h
 | map t es =>
  obtain⟨a,ha,rfl⟩:=Option.map_eq_some_iff.1 hx
  obtain⟨l1,g1⟩:=QxY ha
  obtain⟨ms,clock,h1,h2,h3,h4,h5⟩:=h
  refine⟨ms,clock,h1,by rw [l1];exact h2,h3,h4,fun i k v hi=>?_⟩
  obtain⟨k0,v0,e1,e2,e3⟩:=g1 i k v hi
  obtain⟨e,q1,q2,q3⟩:=h5 i k0 v0 e1
  exact⟨e,q1,q2.renA hE e2,q3.renA hE e3⟩
 | loop=>cases hx
 | dead=>injection hx with hx;subst hx;trivial
 | slot=>injection hx with hx;subst hx;trivial
theorem AObj.ren_tag {o o':AObj} (hx:o.ren ρ=some o'):o'.tag=o.tag:=by
 cases o with
 | cells t cs=>obtain ⟨a,ha,rfl⟩:=Option.map_eq_some_iff.1 hx;rfl
 | row fz t cs=>injection hx with hx;subst hx;rfl
 | map t es=>obtain ⟨a,ha,rfl⟩:=Option.map_eq_some_iff.1 hx;rfl
 | loop=>cases hx
 | dead=>injection hx with hx;subst hx;rfl
 | slot=>injection hx with hx;subst hx;rfl
theorem AObj.ren_live {o o':AObj} (hx:o.ren ρ=some o'):o'.live=o.live:=by
 cases o with
 | cells t cs=>obtain ⟨a,ha,rfl⟩:=Option.map_eq_some_iff.1 hx;rfl
 | row fz t cs=>injection hx with hx;subst hx;rfl
 | map t es=>obtain ⟨a,ha,rfl⟩:=Option.map_eq_some_iff.1 hx;rfl
 | loop=>cases hx
 | dead=>injection hx with hx;subst hx;rfl
 | slot=>injection hx with hx;subst hx;rfl
theorem AObj.ren_slot {o o':AObj} (hx:o.ren ρ=some o'):o'=.slot↔o=.slot:=by
 cases o with
 | cells t cs=>obtain ⟨a,ha,rfl⟩:=Option.map_eq_some_iff.1 hx;simp
 | row fz t cs=>injection hx with hx;subst hx;simp
 | map t es=>obtain ⟨a,ha,rfl⟩:=Option.map_eq_some_iff.1 hx;simp
 | loop=>cases hx
 | dead=>injection hx with hx;subst hx;simp
 | slot=>injection hx with hx;subst hx;simp
theorem AObj.ren_row {o:AObj} {fz:Bool} {t:TypeId} {cs:List IV} (hx:o.ren ρ=some (.row fz t cs)):o=.row fz t cs:=by
 cases o with
 | cells t cs=>obtain ⟨a,ha,h⟩:=Option.map_eq_some_iff.1 hx;cases h
 | row fz t cs=>injection hx
 | map t es=>obtain ⟨a,ha,h⟩:=Option.map_eq_some_iff.1 hx;cases h
 | loop=>cases hx
 | dead=>injection hx with hx;try cases hx
 | slot=>injection hx with hx;try cases hx
theorem QjT:∀ {is:List Nat} {os:Heap},pick ρ H is=some os→os.length=is.length∧∀ (p:Nat) (i:Nat),is[p]?=some i→∃ o o',H[i]?=some o∧o.ren ρ=some o'∧os[p]?=some o'
 | [],os,h=>by injection h with h;subst h;exact ⟨rfl,fun p i h=>by simp at h⟩
 | i::is,os,h=>by
  rw[pick] at h
  obtain⟨o,ho,h⟩:=Option.bind_eq_some_iff.1 h
  obtain⟨o',ho',h⟩:=Option.bind_eq_some_iff.1 h
  obtain⟨os',hos,rfl⟩:=Option.map_eq_some_iff.1 h
  obtain⟨h1,h2⟩:=QjT hos
  refine⟨by simp [h1],fun p j hp=>?_⟩
  cases p with
  | zero=>simp at hp;subst hp;exact ⟨o,o',ho,ho',rfl⟩
  | succ p=>simpa using h2 p j (by simpa using hp)
theorem Qen:∀ {is:List Nat} {i p:Nat},QbE is i=some p→is[p]?=some i
 | [],_,_,h=>by cases h
 | x::xs,i,p,h=>by
  rw[QbE] at h
  split at h
  ·rename_i e;injection h with h;subst h;subst e;rfl
  ·obtain⟨q,hq,rfl⟩:=Option.map_eq_some_iff.1 h
   simpa using Qen hq
theorem QhV:∀ {is:List Nat} {i:Nat},QbE is i=none→i ∉ is
 | [],_,_=>by simp
 | x::xs,i,h=>by
  rw[QbE] at h
  split at h
  ·cases h
  ·rename_i e
   have:QbE xs i=none:=by cases hq:QbE xs i with | none=>rfl | some q=>rw [hq] at h;cases h
   have:=QhV this
   simp[e,this]
theorem Qm9:∀ {l:List Nat} {i:Nat},inB l i=true↔i ∈ l
 | [],i=>by simp [inB]
 | x::l,i=>by rw [inB,Bool.or_eq_true,Qm9,List.mem_cons,beq_iff_eq,eq_comm]
theorem Qhd:∀ {is:List Nat},Qcb is=true→∀ {p q i:Nat},is[p]?=some i→is[q]?=some i→p=q
 | [],_,p,q,i,h,_=>by simp at h
 | x::xs,hn,p,q,i,h1,h2=>by
  rw[Qcb,Bool.and_eq_true,Bool.not_eq_true',Bool.eq_false_iff,ne_eq,Qm9] at hn
  cases p with
  | zero =>
   cases q with
   | zero=>rfl
   | succ q =>
    simp at h1 h2
    subst h1
    exact absurd (List.mem_of_getElem? h2) hn.1
  | succ p =>
   cases q with
   | zero =>
    simp at h1 h2
    subst h2
    exact absurd (List.mem_of_getElem? h1) hn.1
   | succ q=>exact congrArg (· + 1) (Qhd hn.2 (p:=p) (q:=q) (i:=i) (by simpa using h1) (by simpa using h2))
theorem QAQ {is:List Nat} (hn:Qcb is=true) {p i:Nat} (h:is[p]?=some i):QbE is i=some p:=by
 cases hq:QbE is i with
 | none=>exact absurd (List.mem_of_getElem? h) (QhV hq)
 | some q=>rw [Qhd hn (Qen hq) h]
theorem Qdd {α:Type}:∀ (is:List Nat) (os H:List α),(Qc0 H is os).length=H.length
 | [],os,H=>by cases os<;>rfl
 | i::is,[],H=>rfl
 | i::is,o::os,H=>by rw [Qc0,List.length_set,Qdd is os H]
theorem QgA {α:Type}:∀ (is:List Nat) (os H:List α),is.length=os.length→(∀ i ∈ is,i<H.length)→∀ j,(Qc0 H is os)[j]?=match QbE is j with | some p=>os[p]? | none=>H[j]?
 | [],os,H,_,_,j=>by cases os<;>rfl
 | i::is,[],H,hl,_,j=>by simp at hl
 | i::is,o::os,H,hl,hb,j=>by
  rw[Qc0,List.getElem?_set,Qdd,QbE]
  by_cases e:i=j
  ·subst e
   simp[hb i (by simp)]
  ·rw[if_neg e,if_neg (Ne.symm e),QgA is os H (by simpa using hl) (fun k hk=>hb k (by simp [hk]))]
   cases QbE is j<;>simp
theorem Qja:∀ {is:List Nat},Qdb H is=true→∀ i ∈ is,H[i]?=some .slot
 | [],_,i,h=>by simp at h
 | k::is,h,i,hi=>by
  rw[Qdb,Bool.and_eq_true] at h
  rcases List.mem_cons.1 hi with rfl | hi
  ·have h1:=h.1
   unfold Qjb at h1
   split at h1
   ·assumption
   ·cases h1
  ·exact Qja h.2 i hi
theorem QA5 [Globals] (hI:Inv S σ H w) {ids:List Nat} {H0:Heap} (hp:pick (QbE ids) H ids=some H0) (hn:Qcb ids=true) :
  ∃ σ0,Emb (QbE ids) σ H σ0 H0∧Inv S σ0 H0 w∧σ0.length=ids.length∧∀ (p:Nat) (i:Nat),ids[p]?=some i→σ0[p]?=σ[i]?:=by
 obtain⟨hl,hg⟩:=QjT hp
 have hil:∀ (p:Nat) (i:Nat),ids[p]?=some i→i<σ.length:=fun p i hi=>by
  obtain⟨o,_,h1,_⟩:=hg p i hi
  rw[hI.len]
  exact(List.getElem?_eq_some_iff.1 h1).1
 obtain⟨σ0,hσ0⟩:∃ σ0,σ0=ids.map fun i=>σ.getD i 0:=⟨_,rfl⟩
 have hs:∀ (p:Nat) (i:Nat),ids[p]?=some i→σ0[p]?=σ[i]?:=fun p i hi=>by
  have:=hil p i hi
  rw[hσ0,List.getElem?_map,hi]
  simp[this]
 have hsl:σ0.length=ids.length:=by rw [hσ0,List.length_map]
 have hinv:∀ (p:Nat) (o':AObj),H0[p]?=some o'→∃ i o,ids[p]?=some i∧H[i]?=some o∧o.ren (QbE ids)=some o':=fun p o' ho=>by
  have hlt:p<ids.length:=by rw [← hl];exact (List.getElem?_eq_some_iff.1 ho).1
  obtain⟨o,q,h1,h2,h3⟩:=hg p ids[p] (List.getElem?_eq_getElem hlt)
  rw[ho] at h3
  injection h3 with h3
  subst h3
  exact⟨_,o,List.getElem?_eq_getElem hlt,h1,h2⟩
 have hE:Emb (QbE ids) σ H σ0 H0:=by
  intro i j hij
  have hi:=Qen hij
  obtain⟨o,o',h1,h2,h3⟩:=hg j i hi
  refine⟨hs j i hi, ?_,fun fz t cs h=>?_⟩
  ·unfold QaR
   rw[h1,h3]
   simp[AObj.ren_tag h2]
  ·rw[h3] at h
   injection h with h
   subst h
   rw[h1,AObj.ren_row h2]
 refine⟨σ0,hE,⟨by rw [hsl,hl],fun p b o' hb ho hne=>?_,hI.st,fun p b o' hb ho hlv=>?_,fun p q b o' o'' hb hb' ho ho' hlv hlv'=>?_,fun p b o' hb ho=>?_,fun p b t cs hb ho=>?_,hI.glob⟩,hsl,hs⟩
 ·obtain⟨i,o,h1,h2,h3⟩:=hinv p o' ho
  rw[hs p i h1] at hb
  exact hI.lt i b o hb h2 (fun e=>hne ((AObj.ren_slot h3).2 e))
 ·obtain⟨i,o,h1,h2,h3⟩:=hinv p o' ho
  rw[hs p i h1] at hb
  exact hI.free i b o hb h2 (by rw [← AObj.ren_live h3];exact hlv)
 ·obtain⟨i,o,h1,h2,h3⟩:=hinv p o' ho
  obtain⟨j,o2,k1,k2,k3⟩:=hinv q o'' ho'
  rw[hs p i h1] at hb
  rw[hs q j k1] at hb'
  have:=hI.inj i j b o o2 hb hb' h2 k2 (by rw [← AObj.ren_live h3];exact hlv) (by rw [← AObj.ren_live k3];exact hlv')
  subst this
  exact Qhd hn h1 k1
 ·obtain⟨i,o,h1,h2,h3⟩:=hinv p o' ho
  rw[hs p i h1] at hb
  exact(hI.obj i b o hb h2).ren hE h3
 ·obtain⟨i,o,h1,h2,h3⟩:=hinv p _ ho
  rw[hs p i h1] at hb
  rw[AObj.ren_row h3] at h2
  exact hI.fz i b t cs hb h2
theorem QAU [Globals] (hI:Inv S σ H w) {L0 L:List Nat} {σ0:List Nat} {H0:Heap} (hI0:Inv S σ0 H0 w) {σ1:List Nat} {H1:Heap} (hI1:Inv S' σ1 H1 w') (hT:Tr S σ0 H0 w S' σ1 H1 w')
  {k:Nat} (hk0:H0.length=k) (hkl:k≤L.length) (hsame:∀ p i,p<k→L[p]?=some i→σ0[p]?=σ[i]?∧∀ o0,H0[p]?=some o0→∃ o,H[i]?=some o∧o.live=o0.live∧o.tag=o0.tag∧∀ fz t cs,o0=.row fz t cs→o=.row fz t cs)
  (hL0:∀ p,p<k→L0[p]?=some p) (hslot:∀ p i,k≤p→L[p]?=some i→H[i]?=some .slot) (hn0:Qcb L0=true) (hn:Qcb L=true) (hlen:L0.length=L.length) (hlt:∀ i ∈ L,i<H.length)
  {os:Heap} (hp:pick (through L0 L) H1 L0=some os) :
  ∃ σ',Inv S' σ' (Qc0 H L os) w'∧Tr S σ H w S' σ' (Qc0 H L os) w'∧Emb (through L0 L) σ1 H1 σ' (Qc0 H L os):=by
 obtain⟨hosl,hg⟩:=QjT hp
 obtain⟨H',hH'⟩:∃ H',H'=Qc0 H L os:=⟨_,rfl⟩
 obtain⟨ss,hss⟩:∃ ss,ss=L0.map fun i=>σ1.getD i 0:=⟨_,rfl⟩
 obtain⟨σ',hσ'⟩:∃ σ',σ'=Qc0 σ L ss:=⟨_,rfl⟩
 rw[← hH']
 have hHg:∀ j,H'[j]?=match QbE L j with | some p=>os[p]? | none=>H[j]?:=fun j=>by
  rw[hH'];exact QgA L os H (by rw [hosl,hlen]) hlt j
 have hσg:∀ j,σ'[j]?=match QbE L j with | some p=>ss[p]? | none=>σ[j]?:=fun j=>by
  rw[hσ'];exact QgA L ss σ (by rw [hss,List.length_map,hlen]) (fun i hi=>by rw [hI.len];exact hlt i hi) j
 have hH'l:H'.length=H.length:=by rw [hH',Qdd]
 have hσ'l:σ'.length=σ.length:=by rw [hσ',Qdd]
 have hss1:∀ (p q:Nat),L0[p]?=some q→q<H1.length→ss[p]?=σ1[q]?:=fun p q hq hlt=>by
  rw[hss,List.getElem?_map,hq]
  have:q<σ1.length:=by rw [hI1.len];exact hlt
  simp[this]
 have hnew:∀ (j p:Nat),QbE L j=some p→∃ q o o',L[p]?=some j∧L0[p]?=some q∧H1[q]?=some o∧o.ren (through L0 L)=some o'∧H'[j]?=some o'∧σ'[j]?=σ1[q]?:=fun j p hjp=>by
  have h1:=Qen hjp
  have hplt:p<L0.length:=by rw [hlen];exact (List.getElem?_eq_some_iff.1 h1).1
  have h2:L0[p]?=some L0[p]:=List.getElem?_eq_getElem hplt
  obtain⟨o,o',g1,g2,g3⟩:=hg p _ h2
  refine⟨_,o,o',h1,h2,g1,g2, ?_, ?_⟩
  ·rw[hHg,hjp];exact g3
  ·rw[hσg,hjp];exact hss1 p _ h2 (List.getElem?_eq_some_iff.1 g1).1
 have hold:∀ j,QbE L j=none→H'[j]?=H[j]?∧σ'[j]?=σ[j]?:=fun j hj=>⟨by rw [hHg,hj],by rw [hσg,hj]⟩
 have hE:Emb (through L0 L) σ1 H1 σ' H':=by
  intro i j hij
  obtain⟨p,hp1,hp2⟩:=Option.bind_eq_some_iff.1 hij
  have h0:=Qen hp1
  obtain⟨q,o,o',e1,e2,e3,e4,e5,e6⟩:=hnew j p (QAQ hn hp2)
  rw[h0] at e2
  injection e2 with e2
  subst e2
  refine⟨e6, ?_,fun fz t cs h=>?_⟩
  ·unfold QaR;rw [e3,e5];simp [AObj.ren_tag e4]
  ·rw[e5] at h
   injection h with h
   subst h
   rw[e3,AObj.ren_row e4]
 have howned:∀ b,Qdq σ0 H0 b→∃ p i,p<k∧L[p]?=some i∧σ[i]?=some b∧∃ o,H[i]?=some o∧o.live=true:=fun b hb=>by
  obtain⟨p,o0,h1,h2,h3⟩:=hb
  have hpk:p<k:=by rw [← hk0];exact (List.getElem?_eq_some_iff.1 h2).1
  have hpL:p<L.length:=by omega
  obtain⟨g1,g2⟩:=hsame p L[p] hpk (List.getElem?_eq_getElem hpL)
  obtain⟨o,g3,g4,_⟩:=g2 o0 h2
  exact⟨p,L[p],hpk,List.getElem?_eq_getElem hpL,by rw [← g1];exact h1,o,g3,by rw [g4];exact h3⟩
 have howned':∀ b,Qdq σ0 H0 b→Qdq σ H b:=fun b hb=>by
  obtain⟨p,i,_,_,h1,o,h2,h3⟩:=howned b hb
  exact⟨i,o,h1,h2,h3⟩
 have hnot:∀ (j b:Nat) (o:AObj),QbE L j=none→σ[j]?=some b→H[j]?=some o→o.live=true→¬ Qdq σ0 H0 b:=fun j b o hj h1 h2 h3 hb=>by
  obtain⟨p,i,_,hi,g1,o2,g2,g3⟩:=howned b hb
  have:=hI.inj j i b o o2 h1 g1 h2 g2 h3 g3
  subst this
  exact QhV hj (List.mem_of_getElem? hi)
 have hkeep:∀ b,b<w.heap.size→¬ Qdq σ H b→w'.heap[b]?=w.heap[b]?:=fun b hb hno=>hT.keep b hb fun h=>hno (howned' b h)
 have hTr:Tr S σ H w S' σ' H' w':=by
  refine⟨hT.os,hT.tape,hT.output,hT.size,hkeep,hT.shape,hT.st,fun b hb=>?_,by omega,fun i hi h4=>?_,fun i hi h4 h0=>?_,fun i fz t cs hi h4 h=>?_,fun b hb=>?_⟩
  ·rcases hT.st' b hb with h | h | h
   ·exact .inl h
   ·exact .inr (.inl h)
   ·exact .inr (.inr (howned' b h))
  ·cases hj:QbE L i with
   | none=>unfold QaR;rw [(hold i hj).1]
   | some p =>
    obtain⟨q,o,o',e1,e2,e3,e4,e5,e6⟩:=hnew i p hj
    rcases Nat.lt_or_ge p k with hpk | hpk
    ·have hq:q=p:=by rw [hL0 p hpk] at e2;injection e2 with e2;exact e2.symm
     subst hq
     have hq0:q<H0.length:=by omega
     obtain⟨g1,g2⟩:=hsame q i hpk e1
     obtain⟨o2,g3,g4,g5,g6⟩:=g2 _ (List.getElem?_eq_getElem hq0)
     have ht:QaR H i=QaR H0 q:=by unfold QaR;rw [g3,List.getElem?_eq_getElem hq0];simp [g5]
     have ht1:=hT.tag q hq0 (by rw [← ht];exact h4)
     have ht2:QaR H' i=QaR H1 q:=by unfold QaR;rw [e3,e5];simp [AObj.ren_tag e4]
     rw[ht2,ht1,ht]
    ·have:=hslot p i hpk e1
     exact absurd (show QaR H i=some 4 by unfold QaR;rw [this];rfl) h4
  ·cases hj:QbE L i with
   | none=>exact (hold i hj).2
   | some p =>
    obtain⟨q,o,o',e1,e2,e3,e4,e5,e6⟩:=hnew i p hj
    rcases Nat.lt_or_ge p k with hpk | hpk
    ·have hq:q=p:=by rw [hL0 p hpk] at e2;injection e2 with e2;exact e2.symm
     subst hq
     have hq0:q<H0.length:=by omega
     obtain⟨g1,g2⟩:=hsame q i hpk e1
     obtain⟨o2,g3,g4,g5,g6⟩:=g2 _ (List.getElem?_eq_getElem hq0)
     have ht:QaR H i=QaR H0 q:=by unfold QaR;rw [g3,List.getElem?_eq_getElem hq0];simp [g5]
     rw[e6,hT.fix q hq0 (by rw [← ht];exact h4) (by rw [← ht];exact h0),g1]
    ·have:=hslot p i hpk e1
     exact absurd (show QaR H i=some 4 by unfold QaR;rw [this];rfl) h4
  ·cases hj:QbE L i with
   | none=>rw [(hold i hj).1] at h;exact ⟨fz,cs,h,Nat.le_refl _,fun _=>(hold i hj).2⟩
   | some p =>
    obtain⟨q,o,o',e1,e2,e3,e4,e5,e6⟩:=hnew i p hj
    rw[e5] at h
    injection h with h
    subst h
    have e4':=AObj.ren_row e4
    subst e4'
    rcases Nat.lt_or_ge p k with hpk | hpk
    ·have hq:q=p:=by rw [hL0 p hpk] at e2;injection e2 with e2;exact e2.symm
     subst hq
     have hq0:q<H0.length:=by omega
     obtain⟨g1,g2⟩:=hsame q i hpk e1
     obtain⟨o2,g3,g4,g5,g6⟩:=g2 _ (List.getElem?_eq_getElem hq0)
     have ht:QaR H i=QaR H0 q:=by unfold QaR;rw [g3,List.getElem?_eq_getElem hq0];simp [g5]
     obtain⟨fz0,cs0,r1,r2,r3⟩:=hT.row q fz t cs hq0 (by rw [← ht];exact h4) e3
     refine⟨fz0,cs0, ?_,r2,fun he=>by rw [e6,r3 he,g1]⟩
     rw[List.getElem?_eq_getElem hq0] at r1
     injection r1 with r1
     rw[g3,g6 fz0 t cs0 r1]
    ·have:=hslot p i hpk e1
     exact absurd (show QaR H i=some 4 by unfold QaR;rw [this];rfl) h4
  ·obtain⟨i,o,h1,h2,h3⟩:=hb
   cases hj:QbE L i with
   | none =>
    obtain⟨g1,g2⟩:=hold i hj
    exact .inr ⟨i,o,by rw [← g2];exact h1,by rw [← g1];exact h2,h3⟩
   | some p =>
    obtain⟨q,o1,o',e1,e2,e3,e4,e5,e6⟩:=hnew i p hj
    rw[e5] at h2
    injection h2 with h2
    subst h2
    rcases hT.fresh b ⟨q,o1,by rw [← e6];exact h1,e3,by rw [← AObj.ren_live e4];exact h3⟩ with h | h
    ·exact .inl h
    ·exact .inr (howned' b h)
 refine⟨σ',⟨by rw [hσ'l,hH'l];exact hI.len,fun i b o hb ho hne=>?_,hI1.st,fun i b o hb ho hl=>?_,fun i j b o o2 hi hj ho ho2 hl hl2=>?_,fun i b o hb ho=>?_,fun i b t cs hb ho=>?_,fun g cells h=>(hI.glob g cells h).tr hI hTr⟩,hTr,hE⟩
 ·cases hj:QbE L i with
  | none =>
   obtain⟨g1,g2⟩:=hold i hj
   exact Nat.lt_of_lt_of_le (hI.lt i b o (by rw [← g2];exact hb) (by rw [← g1];exact ho) hne) hT.size
  | some p =>
   obtain⟨q,o1,o',e1,e2,e3,e4,e5,e6⟩:=hnew i p hj
   rw[e5] at ho
   injection ho with ho
   subst ho
   exact hI1.lt q b o1 (by rw [← e6];exact hb) e3 (fun e=>hne ((AObj.ren_slot e4).2 e))
 ·cases hj:QbE L i with
  | none =>
   obtain⟨g1,g2⟩:=hold i hj
   rw[g2] at hb
   rw[g1] at ho
   intro hS
   rcases hT.st' b hS with h | h | h
   ·exact hI.free i b o hb ho hl h
   ·have:=hI.lt i b o hb ho (Qbx hl);omega
   ·exact hnot i b o hj hb ho hl h
  | some p =>
   obtain⟨q,o1,o',e1,e2,e3,e4,e5,e6⟩:=hnew i p hj
   rw[e5] at ho
   injection ho with ho
   subst ho
   exact hI1.free q b o1 (by rw [← e6];exact hb) e3 (by rw [← AObj.ren_live e4];exact hl)
 ·have cross:∀ (i j b:Nat) (o o2:AObj) (p:Nat),QbE L i=some p→QbE L j=none→σ'[i]?=some b→σ'[j]?=some b→H'[i]?=some o→H'[j]?=some o2→o.live=true→o2.live=true→False:=by
   intro i j b o o2 p hi hj hb hb2 ho ho2 hl hl2
   obtain⟨q,o1,o',e1,e2,e3,e4,e5,e6⟩:=hnew i p hi
   rw[e5] at ho
   injection ho with ho
   subst ho
   obtain⟨g1,g2⟩:=hold j hj
   rw[g2] at hb2
   rw[g1] at ho2
   rcases hT.fresh b ⟨q,o1,by rw [← e6];exact hb,e3,by rw [← AObj.ren_live e4];exact hl⟩ with h | h
   ·have:=hI.lt j b o2 hb2 ho2 (Qbx hl2);omega
   ·exact hnot j b o2 hj hb2 ho2 hl2 h
  cases hi':QbE L i with
  | none =>
   cases hj':QbE L j with
   | none =>
    obtain⟨g1,g2⟩:=hold i hi'
    obtain⟨g3,g4⟩:=hold j hj'
    exact hI.inj i j b o o2 (by rw [← g2];exact hi) (by rw [← g4];exact hj) (by rw [← g1];exact ho) (by rw [← g3];exact ho2) hl hl2
   | some p=>exact (cross j i b o2 o p hj' hi' hj hi ho2 ho hl2 hl).elim
  | some p =>
   cases hj':QbE L j with
   | none=>exact (cross i j b o o2 p hi' hj' hi hj ho ho2 hl hl2).elim
   | some p2 =>
    obtain⟨q,o1,o',e1,e2,e3,e4,e5,e6⟩:=hnew i p hi'
    obtain⟨q2,o3,o4,f1,f2,f3,f4,f5,f6⟩:=hnew j p2 hj'
    rw[e5] at ho
    injection ho with ho
    subst ho
    rw[f5] at ho2
    injection ho2 with ho2
    subst ho2
    have:=hI1.inj q q2 b o1 o3 (by rw [← e6];exact hi) (by rw [← f6];exact hj) e3 f3 (by rw [← AObj.ren_live e4];exact hl) (by rw [← AObj.ren_live f4];exact hl2)
    subst this
    have:=Qhd hn0 e2 f2
    subst this
    rw[e1] at f1
    injection f1
 ·cases hj:QbE L i with
  | none =>
   obtain⟨g1,g2⟩:=hold i hj
   rw[g2] at hb
   rw[g1] at ho
   have hob:=hI.obj i b o hb ho
   by_cases hl:o.live=true
   ·have hlt:=hI.lt i b o hb ho (Qbx hl)
    exact hob.tr hI hTr (hT.keep b hlt (hnot i b o hj hb ho hl))
   ·cases o with
    | dead=>trivial
    | slot=>trivial
    | row fz t cs =>
     cases fz with
     | false=>exact absurd rfl hl
     | true =>
      have hS:=hI.fz i b t cs hb ho
      exact hob.tr hI hTr (hT.keep b (hI.st b hS) (hI0.not_owned hS))
    | _=>exact absurd rfl hl
  | some p =>
   obtain⟨q,o1,o',e1,e2,e3,e4,e5,e6⟩:=hnew i p hj
   rw[e5] at ho
   injection ho with ho
   subst ho
   exact(hI1.obj q b o1 (by rw [← e6];exact hb) e3).ren hE e4
 ·cases hj:QbE L i with
  | none =>
   obtain⟨g1,g2⟩:=hold i hj
   exact hT.st b (hI.fz i b t cs (by rw [← g2];exact hb) (by rw [← g1];exact ho))
  | some p =>
   obtain⟨q,o1,o',e1,e2,e3,e4,e5,e6⟩:=hnew i p hj
   rw[e5] at ho
   injection ho with ho
   subst ho
   have e4':=AObj.ren_row e4
   subst e4'
   exact hI1.fz q b t cs (by rw [← e6];exact hb) e3
theorem QoZ {α:Type}:∀ (l:List α) (i:Nat),Qch i l=(List.range l.length).map (i + ·)
 | [],_=>rfl
 | x::l,i=>by
  rw[Qch,QoZ l,List.length_cons,List.range_succ_eq_map,List.map_cons,List.map_map,Nat.add_zero]
  congr 1
  refine List.map_congr_left fun j _=>?_
  show i+1+j=i+(j+1)
  omega
theorem QrD {α:Type} (l:List α):Qch 0 l=List.range l.length:=by rw [QoZ];simp
theorem QkM [Globals] {cx:Cx} (hc:Qbw P cx.call) {sl:List Nat} {g:FuncId} {args:List AV} {H H':Heap} {r:AV} (h:QkZ cx sl g args H=some (r,H')) :
  (∃ fn,P.funcs[g]?=some fn∧fn.body.isSome=true∧(fn.name == "runtime.NumGoroutine")=false) ∧
  ∀ (S:Nat→Prop) (σ:List Nat) (w:World) (vs:Array Value),Inv S σ H w→All2 (VRel S σ H w) args vs.toList→Calls P g vs w (Qcw S σ H w r H'):=by
 unfold QkZ at h
 obtain⟨ids,hids⟩:∃ ids,ids=reach 64 H (Qrs args) []:=⟨_,rfl⟩
 simp only[← hids,QrD] at h
 obtain⟨args0,ha0,h⟩:=Option.bind_eq_some_iff.1 h
 obtain⟨H0,hH0,h⟩:=Option.bind_eq_some_iff.1 h
 obtain⟨⟨r1,H1⟩,hcall,h⟩:=Option.bind_eq_some_iff.1 h
 simp only at h
 obtain⟨new,hnew⟩:∃ new,new=(reach 64 H1 (List.range ids.length++r1.ids) []).drop ids.length:=⟨_,rfl⟩
 rw[← hnew] at h
 obtain⟨p,hp⟩:∃ p,p=places H new.length sl H.length:=⟨_,rfl⟩
 rw[← hp] at h
 split at h
 rotate_left
 ·cases h
 rename_i hcond
 obtain⟨hn,hn0,hsl⟩:=hcond
 unfold Qew at h
 obtain⟨os,hos,h⟩:=Option.bind_eq_some_iff.1 h
 obtain⟨v,hv,h⟩:=Option.map_eq_some_iff.1 h
 injection h with h1 h2
 subst h1
 subst h2
 obtain⟨hfn,hcl⟩:=hc g args0 H0 r1 H1 hcall
 refine⟨hfn,fun S σ w vs hI ha=>?_⟩
 have hnids:Qcb ids=true:=by
  have gen:∀ (a b:List Nat),Qcb (a++b)=true→Qcb a=true:=by
   intro a
   induction a with
   | nil=>intro b _;rfl
   | cons x xs ih =>
    intro b h
    rw[List.cons_append,Qcb,Bool.and_eq_true,Bool.not_eq_true',Bool.eq_false_iff,ne_eq,Qm9] at h
    rw[Qcb,Bool.and_eq_true,Bool.not_eq_true',Bool.eq_false_iff,ne_eq,Qm9]
    exact⟨fun hx=>h.1 (List.mem_append.2 (.inl hx)),ih b h.2⟩
  exact gen _ _ hn
 obtain⟨σ0,hE0,hI0,hσl,hσ0⟩:=QA5 hI hH0 hnids
 obtain⟨hHl,hHg⟩:=QjT hH0
 have ha':=QuE hE0 ha0 ha
 refine(hcl S σ0 w vs hI0 ha').mono ?_
 rintro e w' ⟨u,S',σ1,rfl,hI1,hT1,hu⟩
 obtain⟨hIp,hTp⟩:=hI.slots p.2
 have hids_lt:∀ i ∈ ids,i<H.length:=fun i hi=>by
  obtain⟨q,hq,rfl⟩:=List.mem_iff_getElem.1 hi
  obtain⟨o,_,h1,_⟩:=hHg q _ (List.getElem?_eq_getElem hq)
  exact(List.getElem?_eq_some_iff.1 h1).1
 have hpl:∀ (c:Nat) (sl:List Nat) (nx:Nat),(places H c sl nx).1.length=c:=by
  intro c
  induction c with
  | zero=>intro sl nx;rfl
  | succ c ih =>
   intro sl nx
   cases sl with
   | nil=>rw [places];simp [ih]
   | cons s sl =>
    rw[places]
    split<;>simp [ih]
 have hmem:=Qja hsl
 obtain⟨σ',hI',hT',hE'⟩:=QAU (k:=ids.length) (L0:=List.range ids.length++new) (L:=ids++p.1) hIp hI0 hI1 hT1 hHl (by simp)
  (fun q i hq hi=>by
   rw[List.getElem?_append_left hq] at hi
   have hil:=hids_lt i (List.mem_of_getElem? hi)
   refine⟨by rw [hσ0 q i hi,List.getElem?_append_left (by rw [hI.len];exact hil)],fun o0 ho0=>?_⟩
   obtain⟨o,o',h1,h2,h3⟩:=hHg q i hi
   rw[ho0] at h3
   injection h3 with h3
   subst h3
   exact⟨o,by rw [List.getElem?_append_left hil];exact h1,(AObj.ren_live h2).symm,(AObj.ren_tag h2).symm,fun fz t cs e=>by subst e;exact AObj.ren_row h2⟩)
  (fun q hq=>by rw [List.getElem?_append_left (by simpa using hq),List.getElem?_range hq])
  (fun q i hq hi=>by rw [List.getElem?_append_right hq] at hi;exact hmem i (List.mem_of_getElem? hi))
  hn0 hn (by rw [List.length_append,List.length_append,List.length_range,hp,hpl])
  (fun i hi=>by
   rcases List.mem_append.1 hi with h | h
   ·rw[List.length_append];have:=hids_lt i h;omega
   ·exact(List.getElem?_eq_some_iff.1 (hmem i h)).1) hos
 exact⟨u,S',σ',rfl,hI',hTp.trans hT',hu.ren hE' hv⟩
end
end Go.Ab
