/- A part of the proof: an interpreter on abstract values, proved right for every program; no condition. -/
import Derived.Test.YtiiannaficbjeaaDoorAbPure3
namespace Go.Ab
set_option linter.unusedVariables false
set_option linter.unusedSimpArgs false
set_option linter.unusedSectionVars false
open Go.RowKit
section
variable {S S':Nat→Prop} {σ σ':List Nat} {H H':Heap} {w w':World} {P:Program}
theorem ORel.tr [Globals] {b:Nat} {o:AObj} (h:ORel S σ H w b o) (hI:Inv S σ H w) (hT:Tr S σ H w S' σ' H' w') (hb:w'.heap[b]?=w.heap[b]?):ORel S' σ' H' w' b o:=by
 cases o with
 | cells t cs =>
  obtain⟨vs,h1,h2,h3,h4⟩:=h
  exact⟨vs,hb.trans h1,h2,h3,fun i x hi=>(h4 i x hi).tr hI hT⟩
 | row fz t cs =>
  obtain⟨cur,h1,h2,h3⟩:=h
  exact⟨cur,hb.trans h1,h2,fun i x hi=>(h3 i x hi).tr hI hT⟩
 | map t es =>
  obtain⟨ms,clock,h1,h2,h3,h4,h5⟩:=h
  refine⟨ms,clock,hb.trans h1,h2,h3,h4,fun i k v hi=>?_⟩
  obtain⟨e,he,hk,hv⟩:=h5 i k v hi
  exact⟨e,he,hk.tr hI hT,hv.tr hI hT⟩
 | loop st pend f tmps params assign body =>
  obtain⟨vs,d,g,h1,h2,h3⟩:=h
  exact⟨vs,d,g,hb.trans h1,h2,fun i=>(h3 i).tr hI hT⟩
 | dead=>trivial
 | slot=>trivial
theorem Inv.obj_tr [Globals] {i b:Nat} {o:AObj} (hI:Inv S σ H w) (h:σ[i]?=some b) (ho:H[i]?=some o) (hT:Tr S σ H w S' σ' H' w') (hb:b<w.heap.size→w'.heap[b]?=w.heap[b]?):ORel S' σ' H' w' b o:=by
 by_cases hs:o=.slot
 ·subst hs;trivial
 ·exact(hI.obj i b o h ho).tr hI hT (hb (hI.lt i b o h ho hs))
theorem Qbx {o:AObj} (h:o.live=true):o≠.slot:=by rintro rfl;cases h
theorem QiS {o:AObj} {n b:Nat} (hl:σ.length=H.length) (h:Qdq (σ++[n]) (H++[o]) b):b=n∨Qdq σ H b:=by
 obtain⟨i,q,h1,h2,h3⟩:=h
 rcases Nat.lt_or_ge i H.length with hi | hi
 ·rw[List.getElem?_append_left (by omega)] at h1
  rw[List.getElem?_append_left hi] at h2
  exact .inr ⟨i,q,h1,h2,h3⟩
 ·rw[List.getElem?_append_right (by omega)] at h1
  have:i-σ.length=0:=by
   have:=(List.getElem?_eq_some_iff.1 h1).1
   simp at this
   omega
  rw[this] at h1
  simp at h1
  exact .inl h1.symm
theorem Qu7 {o:AObj} {i:Nat} (hi:i<H.length):QaR (H++[o]) i=QaR H i:=by
 unfold QaR
 rw[List.getElem?_append_left hi]
theorem Inv.growTr [Globals] (hI:Inv S σ H w) (o:AObj) (obj:Obj):Tr S σ H w S (σ++[w.heap.size]) (H++[o]) (w.alloc obj):=by
 have hold:∀ k,k<w.heap.size→(w.alloc obj).heap[k]?=w.heap[k]?:=fun k hk=>Below.heap_alloc w obj k hk
 refine⟨rfl,rfl,rfl,by simp,fun b hb _=>hold b hb,fun b cur t fr h=>⟨cur, ?_,rfl⟩,fun _ h=>h,fun _ h=>.inl h,by simp,fun i hi _=>Qu7 hi,fun i hi _ _=>?_,fun i fz t cs hi _ h=>⟨fz,cs, ?_,Nat.le_refl _,fun _=>?_⟩,fun b h=>?_⟩
 ·rw[hold b (Array.getElem?_eq_some_iff.1 h).1];exact h
 ·exact List.getElem?_append_left (by rw [hI.len];exact hi)
 ·rwa [List.getElem?_append_left hi] at h
 ·exact List.getElem?_append_left (by rw [hI.len];exact hi)
 ·rcases QiS hI.len h with rfl | h
  ·exact .inl (Nat.le_refl _)
  ·exact .inr h
theorem VRel.grow [Globals] (hI:Inv S σ H w) {x:AV} {v:Value} (h:VRel S σ H w x v) (o:AObj) (obj:Obj):VRel S (σ++[w.heap.size]) (H++[o]) (w.alloc obj) x v:=h.tr hI (hI.growTr o obj)
theorem Inv.grow [Globals] (hI:Inv S σ H w) (o:AObj) (obj:Obj) (hn:ORel S (σ++[w.heap.size]) (H++[o]) (w.alloc obj) w.heap.size o) (hlv:∀ t cs,o≠.row true t cs:=by intro t cs h;cases h) :
  Inv S (σ++[w.heap.size]) (H++[o]) (w.alloc obj)∧Tr S σ H w S (σ++[w.heap.size]) (H++[o]) (w.alloc obj):=by
 have hold:∀ k,k<w.heap.size→(w.alloc obj).heap[k]?=w.heap[k]?:=fun k hk=>Below.heap_alloc w obj k hk
 have hT:Tr S σ H w S (σ++[w.heap.size]) (H++[o]) (w.alloc obj):=hI.growTr o obj
 have hidx:∀ (i b:Nat),(σ++[w.heap.size])[i]?=some b→(i<H.length∧σ[i]?=some b)∨(i=H.length∧b=w.heap.size):=by
  intro i b h
  rcases Nat.lt_or_ge i H.length with hi | hi
  ·rw[List.getElem?_append_left (by rw [hI.len];exact hi)] at h
   exact .inl ⟨hi,h⟩
  ·rw[List.getElem?_append_right (by rw [hI.len];exact hi)] at h
   have h0:=(List.getElem?_eq_some_iff.1 h).1
   simp at h0
   have:i=H.length:=by rw [← hI.len];have:=hI.len;omega
   subst this
   rw[hI.len,Nat.sub_self] at h
   simp at h
   exact .inr ⟨rfl,h.symm⟩
 refine⟨⟨by simp [hI.len],fun i b q h hq hne=>?_,fun b h=>?_,fun i b q h hq hl hS=>?_,fun i j b q q' hi hj hq hq' hl hl'=>?_,fun i b q h hq=>?_,fun i b t cs h hq=>?_,fun g cells h=>(hI.glob g cells h).tr hI hT⟩,hT⟩
 ·rcases hidx i b h with ⟨hi,h⟩ | ⟨_,rfl⟩
  ·rw[List.getElem?_append_left hi] at hq
   have:=hI.lt i b q h hq hne;simp;omega
  ·simp
 ·have:=hI.st b h;simp;omega
 ·rcases hidx i b h with ⟨hi,h⟩ | ⟨_,rfl⟩
  ·rw[List.getElem?_append_left hi] at hq
   exact hI.free i b q h hq hl hS
  ·have:=hI.st _ hS;omega
 ·rcases hidx i b hi with ⟨li,hi⟩ | ⟨rfl,rfl⟩
  ·rcases hidx j b hj with ⟨lj,hj⟩ | ⟨rfl,rfl⟩
   ·rw[List.getElem?_append_left li] at hq
    rw[List.getElem?_append_left lj] at hq'
    exact hI.inj i j b q q' hi hj hq hq' hl hl'
   ·rw[List.getElem?_append_left li] at hq
    have:=hI.lt i _ q hi hq (Qbx hl);omega
  ·rcases hidx j _ hj with ⟨lj,hj⟩ | ⟨rfl,_⟩
   ·rw[List.getElem?_append_left lj] at hq'
    have:=hI.lt j _ q' hj hq' (Qbx hl');omega
   ·rfl
 ·rcases hidx i b h with ⟨hi,h⟩ | ⟨rfl,rfl⟩
  ·rw[List.getElem?_append_left hi] at hq
   exact hI.obj_tr h hq hT (hold b)
  ·rw[List.getElem?_append_right (Nat.le_refl _),Nat.sub_self] at hq
   simp at hq
   subst hq
   exact hn
 ·rcases hidx i b h with ⟨hi,h⟩ | ⟨rfl,rfl⟩
  ·rw[List.getElem?_append_left hi] at hq
   exact hI.fz i b t cs h hq
  ·rw[List.getElem?_append_right (Nat.le_refl _),Nat.sub_self] at hq
   simp at hq
   exact absurd hq (hlv t cs)
theorem Qc1 {α:Type} {l:List α} {i j:Nat} {x:α} (hi:i<l.length):(l.set i x)[j]?=if i=j then some x else l[j]?:=by
 rw[List.getElem?_set]
 split
 ·rename_i e;subst e;simp [hi]
 ·rfl
theorem Inv.put [Globals] (hI:Inv S σ H w) {i b:Nat} {o o':AObj} (hi:H[i]?=some o) (hσ:σ[i]?=some b) (hl:o.live=true) (ho:w'.os=w.os) (ht:w'.tape=w.tape) (hp:w'.output=w.output)
  (hs:w'.heap.size=w.heap.size) (hw:∀ k,k≠b→w'.heap[k]?=w.heap[k]?) (hsh:∀ (cur:Array Value) (t:TypeId) (fr:Nat × Nat),w.heap[b]?=some (.cells cur t fr)→∃ cur',w'.heap[b]?=some (.cells cur' t fr)∧cur'.size=cur.size)
  (htag:o'.tag=o.tag) (hrow:∀ fz t cs,o'=.row fz t cs→∃ fz0 cs0,o=.row fz0 t cs0∧cs0.length≤cs.length) (hn:Tr S σ H w S σ (H.set i o') w'→ORel S σ (H.set i o') w' b o') (hlv:∀ t cs,o'≠.row true t cs:=by intro t cs h;cases h) :
  Inv S σ (H.set i o') w'∧Tr S σ H w S σ (H.set i o') w':=by
 have hil:i<H.length:=(List.getElem?_eq_some_iff.1 hi).1
 have hget:∀ j,(H.set i o')[j]?=if i=j then some o' else H[j]?:=fun j=>Qc1 hil
 have hlive:∀ (j:Nat) (q:AObj),(H.set i o')[j]?=some q→q.live=true→∃ q':AObj,H[j]?=some q'∧q'.live=true:=by
  intro j q hq hq2
  rw[hget] at hq
  split at hq
  ·rename_i e;subst e;exact ⟨o,hi,hl⟩
  ·exact⟨q,hq,hq2⟩
 have hT:Tr S σ H w S σ (H.set i o') w':=by
  refine⟨ho,ht,hp,by omega,fun k hk hn=>hw k (fun e=>hn (e ▸ ⟨i,o,hσ,hi,hl⟩)),fun k cur t fr h=>?_,fun _ h=>h,fun _ h=>.inl h,by simp,fun j hj _=>?_,fun _ _ _ _=>rfl,fun j fz t cs hj _ h=>?_,fun k h=>?_⟩
  ·by_cases hk:k=b
   ·subst hk;exact hsh cur t fr h
   ·exact⟨cur,by rw [hw k hk];exact h,rfl⟩
  ·unfold QaR
   rw[hget]
   split
   ·rename_i e;subst e;rw [hi];simp [htag]
   ·rfl
  ·rw[hget] at h
   split at h
   ·rename_i e
    subst e
    injection h with h
    obtain⟨fz0,cs0,h1,h2⟩:=hrow fz t cs h
    exact⟨fz0,cs0,by rw [hi,h1],h2,fun _=>rfl⟩
   ·exact⟨fz,cs,h,Nat.le_refl _,fun _=>rfl⟩
  ·obtain⟨j,q,h1,h2,h3⟩:=h
   obtain⟨q',h4,h5⟩:=hlive j q h2 h3
   exact .inr ⟨j,q',h1,h4,h5⟩
 refine⟨⟨by simp [hI.len],fun j k q h hq hne=>by
   rw[hs]
   rw[hget] at hq
   split at hq
   ·rename_i e;subst e;exact hI.lt _ k o h hi (Qbx hl)
   ·exact hI.lt j k q h hq hne,fun k h=>by rw [hs];exact hI.st k h,fun j k q h hq hq2=>?_,fun j k c q q' h1 h2 hq hq' hl1 hl2=>?_,fun j k q h hq=>?_,fun j k t cs h hq=>?_,fun g cells h=>(hI.glob g cells h).tr hI hT⟩,hT⟩
 ·obtain⟨q',h4,h5⟩:=hlive j q hq hq2
  exact hI.free j k q' h h4 h5
 ·obtain⟨p,h4,h5⟩:=hlive j q hq hl1
  obtain⟨p',h6,h7⟩:=hlive k q' hq' hl2
  exact hI.inj j k c p p' h1 h2 h4 h6 h5 h7
 ·rw[hget] at hq
  split at hq
  ·rename_i e
   subst e
   injection hq with hq
   subst hq
   rw[hσ] at h
   injection h with h
   subst h
   exact hn hT
  ·rename_i e
   by_cases hq2:q.live=true
   ·refine(hI.obj j k q h hq).tr hI hT (hw k fun ek=>?_)
    subst ek
    exact e (hI.inj i j _ o q hσ h hi hq hl hq2)
   ·by_cases hd:q=.dead∨q=.slot
    ·rcases hd with rfl | rfl<;>trivial
    ·have hS:S k:=by
      cases q with
      | dead=>exact absurd (.inl rfl) hd
      | slot=>exact absurd (.inr rfl) hd
      | row fz t cs =>
       cases fz with
       | true=>exact hI.fz j k t cs h hq
       | false=>exact absurd rfl hq2
      | _=>exact absurd rfl hq2
     refine(hI.obj j k q h hq).tr hI hT (hw k fun ek=>?_)
     subst ek
     exact hI.free i _ o hσ hi hl hS
 ·rw[hget] at hq
  split at hq
  ·injection hq with hq
   exact absurd hq (hlv t cs)
  ·exact hI.fz j k t cs h hq
theorem Inv.move [Globals] (hI:Inv S σ H w) {i:Nat} {t:TypeId} {cs cs':List IV} (hi:H[i]?=some (.row false t cs)) (hlt:cs.length<cs'.length) (obj:Obj)
  (hn:Tr S σ H w S (σ.set i w.heap.size) (H.set i (.row false t cs')) (w.alloc obj)→ORel S (σ.set i w.heap.size) (H.set i (.row false t cs')) (w.alloc obj) w.heap.size (.row false t cs')) :
  Inv S (σ.set i w.heap.size) (H.set i (.row false t cs')) (w.alloc obj)∧Tr S σ H w S (σ.set i w.heap.size) (H.set i (.row false t cs')) (w.alloc obj):=by
 have hil:i<H.length:=(List.getElem?_eq_some_iff.1 hi).1
 have hget:∀ j,(H.set i (.row false t cs'))[j]?=if i=j then some (AObj.row false t cs') else H[j]?:=fun j=>Qc1 hil
 have hσ:∀ j,(σ.set i w.heap.size)[j]?=if i=j then some w.heap.size else σ[j]?:=fun j=>Qc1 (by rw [hI.len];exact hil)
 have hold:∀ k,k<w.heap.size→(w.alloc obj).heap[k]?=w.heap[k]?:=fun k hk=>Below.heap_alloc w obj k hk
 have hcase:∀ (j b:Nat) (q:AObj),(σ.set i w.heap.size)[j]?=some b→(H.set i (.row false t cs'))[j]?=some q→(j=i∧b=w.heap.size∧q=.row false t cs')∨(j≠i∧σ[j]?=some b∧H[j]?=some q):=by
  intro j b q h1 h2
  rw[hσ] at h1
  rw[hget] at h2
  by_cases e:i=j
  ·subst e
   rw[if_pos rfl] at h1 h2
   injection h1 with h1
   injection h2 with h2
   exact .inl ⟨rfl,h1.symm,h2.symm⟩
  ·rw[if_neg e] at h1 h2
   exact .inr ⟨fun h=>e h.symm,h1,h2⟩
 have hT:Tr S σ H w S (σ.set i w.heap.size) (H.set i (.row false t cs')) (w.alloc obj):=by
  refine⟨rfl,rfl,rfl,by simp,fun b hb _=>hold b hb,fun b cur t fr h=>⟨cur,by rw [hold b (Array.getElem?_eq_some_iff.1 h).1];exact h,rfl⟩,fun _ h=>h,fun _ h=>.inl h,by simp,fun j hj _=>?_,fun j hj _ hne=>?_,fun j fz2 t2 cs2 hj _ h=>?_,fun b h=>?_⟩
  ·unfold QaR
   rw[hget]
   split
   ·rename_i e;subst e;rw [hi];rfl
   ·rfl
  ·rw[hσ,if_neg]
   intro e
   subst e
   exact hne (by unfold QaR;rw [hi];rfl)
  ·rw[hget] at h
   split at h
   ·rename_i e
    subst e
    injection h with h
    injection h with h0 h1 h2
    subst h1
    subst h2
    exact⟨false,cs,hi,by omega,fun he=>by omega⟩
   ·rename_i e
    exact⟨fz2,cs2,h,Nat.le_refl _,fun _=>by rw [hσ,if_neg e]⟩
  ·obtain⟨j,q,h1,h2,h3⟩:=h
   rcases hcase j b q h1 h2 with ⟨_,rfl,_⟩ | ⟨_,h1,h2⟩
   ·exact .inl (Nat.le_refl _)
   ·exact .inr ⟨j,q,h1,h2,h3⟩
 refine⟨⟨by simp [hI.len],fun j b q h hq hne=>?_,fun b h=>?_,fun j b q h hq hl hS=>?_,fun j k b q q' h1 h2 hq hq' hl hl'=>?_,fun j b q h hq=>?_,fun j b t2 cs2 h hq=>?_,fun g cells h=>(hI.glob g cells h).tr hI hT⟩,hT⟩
 ·rcases hcase j b q h hq with ⟨_,rfl,_⟩ | ⟨_,g1,g2⟩
  ·simp
  ·have:=hI.lt j b q g1 g2 hne;simp;omega
 ·have:=hI.st b h;simp;omega
 ·rcases hcase j b q h hq with ⟨_,rfl,_⟩ | ⟨_,h1,h2⟩
  ·have:=hI.st _ hS;omega
  ·exact hI.free j b q h1 h2 hl hS
 ·rcases hcase j b q h1 hq with ⟨e1,rfl,_⟩ | ⟨e1,g1,g2⟩
  ·rcases hcase k _ q' h2 hq' with ⟨e2,_,_⟩ | ⟨e2,g3,g4⟩
   ·rw[e1,e2]
   ·have:=hI.lt k _ q' g3 g4 (Qbx hl');omega
  ·rcases hcase k b q' h2 hq' with ⟨e2,rfl,_⟩ | ⟨e2,g3,g4⟩
   ·have:=hI.lt j _ q g1 g2 (Qbx hl);omega
   ·exact hI.inj j k b q q' g1 g3 g2 g4 hl hl'
 ·rcases hcase j b q h hq with ⟨_,rfl,rfl⟩ | ⟨_,h1,h2⟩
  ·exact hn hT
  ·exact hI.obj_tr h1 h2 hT (hold b)
 ·rcases hcase j b _ h hq with ⟨_,rfl,e⟩ | ⟨_,h1,h2⟩
  ·cases e
  ·exact hI.fz j b t2 cs2 h1 h2
theorem Inv.fillO [Globals] (hI:Inv S σ H w) {i:Nat} {ob:AObj} (hob:∀ t cs,ob≠.row true t cs) (hi:H[i]?=some .slot) (obj:Obj)
  (hn:Tr S σ H w S (σ.set i w.heap.size) (H.set i ob) (w.alloc obj)→ORel S (σ.set i w.heap.size) (H.set i ob) (w.alloc obj) w.heap.size ob) :
  Inv S (σ.set i w.heap.size) (H.set i ob) (w.alloc obj)∧Tr S σ H w S (σ.set i w.heap.size) (H.set i ob) (w.alloc obj):=by
 have hil:i<H.length:=(List.getElem?_eq_some_iff.1 hi).1
 have hget:∀ j,(H.set i ob)[j]?=if i=j then some ob else H[j]?:=fun j=>Qc1 hil
 have hσ:∀ j,(σ.set i w.heap.size)[j]?=if i=j then some w.heap.size else σ[j]?:=fun j=>Qc1 (by rw [hI.len];exact hil)
 have hold:∀ k,k<w.heap.size→(w.alloc obj).heap[k]?=w.heap[k]?:=fun k hk=>Below.heap_alloc w obj k hk
 have hcase:∀ (j b:Nat) (q:AObj),(σ.set i w.heap.size)[j]?=some b→(H.set i ob)[j]?=some q→(j=i∧b=w.heap.size∧q=ob)∨(j≠i∧σ[j]?=some b∧H[j]?=some q):=by
  intro j b q h1 h2
  rw[hσ] at h1
  rw[hget] at h2
  by_cases e:i=j
  ·subst e
   rw[if_pos rfl] at h1 h2
   injection h1 with h1
   injection h2 with h2
   exact .inl ⟨rfl,h1.symm,h2.symm⟩
  ·rw[if_neg e] at h1 h2
   exact .inr ⟨fun h=>e h.symm,h1,h2⟩
 have hT:Tr S σ H w S (σ.set i w.heap.size) (H.set i ob) (w.alloc obj):=by
  refine⟨rfl,rfl,rfl,by simp,fun b hb _=>hold b hb,fun b cur t fr h=>⟨cur,by rw [hold b (Array.getElem?_eq_some_iff.1 h).1];exact h,rfl⟩,fun _ h=>h,fun _ h=>.inl h,by simp,fun j hj h4=>?_,fun j hj h4 hne=>?_,fun j fz2 t2 cs2 hj h4 h=>?_,fun b h=>?_⟩
  ·unfold QaR
   rw[hget]
   split
   ·rename_i e;subst e;exact absurd (by unfold QaR;rw [hi];rfl) h4
   ·rfl
  ·rw[hσ,if_neg]
   intro e
   subst e
   exact h4 (by unfold QaR;rw [hi];rfl)
  ·rw[hget] at h
   split at h
   ·rename_i e
    subst e
    exact absurd (by unfold QaR;rw [hi];rfl) h4
   ·rename_i e
    exact⟨fz2,cs2,h,Nat.le_refl _,fun _=>by rw [hσ,if_neg e]⟩
  ·obtain⟨j,q,h1,h2,h3⟩:=h
   rcases hcase j b q h1 h2 with ⟨_,rfl,_⟩ | ⟨_,h1,h2⟩
   ·exact .inl (Nat.le_refl _)
   ·exact .inr ⟨j,q,h1,h2,h3⟩
 refine⟨⟨by simp [hI.len],fun j b q h hq hne=>?_,fun b h=>?_,fun j b q h hq hl hS=>?_,fun j k b q q' h1 h2 hq hq' hl hl'=>?_,fun j b q h hq=>?_,fun j b t2 cs2 h hq=>?_,fun g cells h=>(hI.glob g cells h).tr hI hT⟩,hT⟩
 ·rcases hcase j b q h hq with ⟨_,rfl,_⟩ | ⟨_,g1,g2⟩
  ·simp
  ·have:=hI.lt j b q g1 g2 hne;simp;omega
 ·have:=hI.st b h;simp;omega
 ·rcases hcase j b q h hq with ⟨_,rfl,_⟩ | ⟨_,h1,h2⟩
  ·have:=hI.st _ hS;omega
  ·exact hI.free j b q h1 h2 hl hS
 ·rcases hcase j b q h1 hq with ⟨e1,rfl,_⟩ | ⟨e1,g1,g2⟩
  ·rcases hcase k _ q' h2 hq' with ⟨e2,_,_⟩ | ⟨e2,g3,g4⟩
   ·rw[e1,e2]
   ·have:=hI.lt k _ q' g3 g4 (Qbx hl');omega
  ·rcases hcase k b q' h2 hq' with ⟨e2,rfl,_⟩ | ⟨e2,g3,g4⟩
   ·have:=hI.lt j _ q g1 g2 (Qbx hl);omega
   ·exact hI.inj j k b q q' g1 g3 g2 g4 hl hl'
 ·rcases hcase j b q h hq with ⟨_,rfl,rfl⟩ | ⟨_,h1,h2⟩
  ·exact hn hT
  ·exact hI.obj_tr h1 h2 hT (hold b)
 ·rcases hcase j b _ h hq with ⟨_,rfl,e⟩ | ⟨_,h1,h2⟩
  ·exact absurd e.symm (hob _ _)
  ·exact hI.fz j b t2 cs2 h1 h2
theorem Inv.fill [Globals] (hI:Inv S σ H w) {i:Nat} {t:TypeId} {cs':List IV} (hi:H[i]?=some .slot) (obj:Obj)
  (hn:Tr S σ H w S (σ.set i w.heap.size) (H.set i (.row false t cs')) (w.alloc obj)→ORel S (σ.set i w.heap.size) (H.set i (.row false t cs')) (w.alloc obj) w.heap.size (.row false t cs')) :
  Inv S (σ.set i w.heap.size) (H.set i (.row false t cs')) (w.alloc obj)∧Tr S σ H w S (σ.set i w.heap.size) (H.set i (.row false t cs')) (w.alloc obj) :=
 hI.fillO (fun _ _ h=>by cases h) hi obj hn
theorem Inv.slots [Globals] (hI:Inv S σ H w) (n:Nat):Inv S (σ++List.replicate n 0) (H++List.replicate n .slot) w∧Tr S σ H w S (σ++List.replicate n 0) (H++List.replicate n .slot) w:=by
 have hidx:∀ (i b:Nat) (o:AObj),(σ++List.replicate n 0)[i]?=some b→(H++List.replicate n AObj.slot)[i]?=some o→(σ[i]?=some b∧H[i]?=some o)∨o=.slot:=by
  intro i b o h1 h2
  rcases Nat.lt_or_ge i H.length with hi | hi
  ·rw[List.getElem?_append_left (by rw [hI.len];exact hi)] at h1
   rw[List.getElem?_append_left hi] at h2
   exact .inl ⟨h1,h2⟩
  ·rw[List.getElem?_append_right hi,List.getElem?_replicate] at h2
   split at h2
   ·injection h2 with h2;exact .inr h2.symm
   ·cases h2
 have hT:Tr S σ H w S (σ++List.replicate n 0) (H++List.replicate n .slot) w:=by
  refine⟨rfl,rfl,rfl,Nat.le_refl _,fun b _ _=>rfl,fun b cur t fr h=>⟨cur,h,rfl⟩,fun _ h=>h,fun _ h=>.inl h,by simp,fun i hi _=>?_,fun i hi _ _=>?_,fun i fz t cs hi _ h=>⟨fz,cs, ?_,Nat.le_refl _,fun _=>?_⟩,fun b h=>?_⟩
  ·unfold QaR;rw [List.getElem?_append_left hi]
  ·exact List.getElem?_append_left (by rw [hI.len];exact hi)
  ·rwa [List.getElem?_append_left hi] at h
  ·exact List.getElem?_append_left (by rw [hI.len];exact hi)
  ·obtain⟨i,o,h1,h2,h3⟩:=h
   rcases hidx i b o h1 h2 with ⟨g1,g2⟩ | rfl
   ·exact .inr ⟨i,o,g1,g2,h3⟩
   ·cases h3
 refine⟨⟨by simp [hI.len],fun i b o h ho hne=>?_,hI.st,fun i b o h ho hl=>?_,fun i j b o o' hi hj ho ho' hl hl'=>?_,fun i b o h ho=>?_,fun i b t cs h ho=>?_,hI.glob⟩,hT⟩
 ·rcases hidx i b o h ho with ⟨g1,g2⟩ | rfl
  ·exact hI.lt i b o g1 g2 hne
  ·exact absurd rfl hne
 ·rcases hidx i b o h ho with ⟨g1,g2⟩ | rfl
  ·exact hI.free i b o g1 g2 hl
  ·cases hl
 ·rcases hidx i b o hi ho with ⟨g1,g2⟩ | rfl
  ·rcases hidx j b o' hj ho' with ⟨g3,g4⟩ | rfl
   ·exact hI.inj i j b o o' g1 g3 g2 g4 hl hl'
   ·cases hl'
  ·cases hl
 ·rcases hidx i b o h ho with ⟨g1,g2⟩ | rfl
  ·exact hI.obj_tr g1 g2 hT fun _=>rfl
  ·trivial
 ·rcases hidx i b _ h ho with ⟨g1,g2⟩ | e
  ·exact hI.fz i b t cs g1 g2
  ·cases e
theorem Inv.freeze [Globals] (hI:Inv S σ H w) {i b:Nat} {fz:Bool} {t:TypeId} {cs:List IV} (hi:H[i]?=some (.row fz t cs)) (hσ:σ[i]?=some b) :
  Inv (fun k=>S k∨k=b) σ (H.set i (.row true t cs)) w∧Tr S σ H w (fun k=>S k∨k=b) σ (H.set i (.row true t cs)) w:=by
 have hil:i<H.length:=(List.getElem?_eq_some_iff.1 hi).1
 have hget:∀ j,(H.set i (.row true t cs))[j]?=if i=j then some (AObj.row true t cs) else H[j]?:=fun j=>Qc1 hil
 have hcase:∀ (j:Nat) (q:AObj),(H.set i (.row true t cs))[j]?=some q→q.live=true→j≠i∧H[j]?=some q:=by
  intro j q h hl
  rw[hget] at h
  split at h
  ·injection h with h;subst h;simp [AObj.live] at hl
  ·rename_i e;exact ⟨fun h=>e h.symm,h⟩
 have hb:S b∨Qdq σ H b:=by
  cases fz with
  | true=>exact .inl (hI.fz i b t cs hσ hi)
  | false=>exact .inr ⟨i,_,hσ,hi,rfl⟩
 have hT:Tr S σ H w (fun k=>S k∨k=b) σ (H.set i (.row true t cs)) w:=by
  refine⟨rfl,rfl,rfl,Nat.le_refl _,fun _ _ _=>rfl,fun _ cur _ _ h=>⟨cur,h,rfl⟩,fun _ h=>.inl h,fun k h=>?_,by simp,fun j hj _=>?_,fun _ _ _ _=>rfl,fun j fz2 t2 cs2 hj _ h=>?_,fun k h=>?_⟩
  ·rcases h with h | rfl
   ·exact .inl h
   ·rcases hb with hb | hb
    ·exact .inl hb
    ·exact .inr (.inr hb)
  ·unfold QaR
   rw[hget]
   split
   ·rename_i e;subst e;rw [hi];rfl
   ·rfl
  ·rw[hget] at h
   split at h
   ·rename_i e
    subst e
    injection h with h
    injection h with _ e1 e2
    subst e1
    subst e2
    exact⟨fz,cs,hi,Nat.le_refl _,fun _=>rfl⟩
   ·exact⟨fz2,cs2,h,Nat.le_refl _,fun _=>rfl⟩
  ·obtain⟨j,q,h1,h2,h3⟩:=h
   exact .inr ⟨j,q,h1,(hcase j q h2 h3).2,h3⟩
 refine⟨⟨by simp [hI.len],fun j k q h hq hne=>by
   rw[hget] at hq
   split at hq
   ·rename_i e;subst e;exact hI.lt _ k _ h hi (by intro e;cases e)
   ·exact hI.lt j k q h hq hne,fun k h=>?_,fun j k q h hq hl hS=>?_,fun j k c q q' h1 h2 hq hq' hl hl'=>?_,fun j k q h hq=>?_,fun j k t2 cs2 h hq=>?_,fun g cells h=>(hI.glob g cells h).tr hI hT⟩,hT⟩
 ·rcases h with h | rfl
  ·exact hI.st k h
  ·exact hI.lt i _ _ hσ hi (by intro e;cases e)
 ·obtain⟨e,h2⟩:=hcase j q hq hl
  rcases hS with hS | rfl
  ·exact hI.free j k q h h2 hl hS
  ·rcases hb with hb | ⟨i2,o2,g1,g2,g3⟩
   ·exact hI.free j _ q h h2 hl hb
   ·cases fz with
    | true=>exact hI.free j _ q h h2 hl (hI.fz i _ t cs hσ hi)
    | false=>exact e (hI.inj j i _ q _ h hσ h2 hi hl rfl)
 ·exact hI.inj j k c q q' h1 h2 (hcase j q hq hl).2 (hcase k q' hq' hl').2 hl hl'
 ·rw[hget] at hq
  split at hq
  ·rename_i e
   subst e
   injection hq with hq
   subst hq
   rw[hσ] at h
   injection h with h
   subst h
   obtain⟨cur,g1,g2,g3⟩:=hI.obj _ _ _ hσ hi
   exact⟨cur,g1,g2,fun i x hi=>(g3 i x hi).tr hI hT⟩
  ·exact(hI.obj j k q h hq).tr hI hT rfl
 ·rw[hget] at hq
  split at hq
  ·rename_i e
   subst e
   rw[hσ] at h
   injection h with h
   exact .inr h.symm
  ·exact .inl (hI.fz j k t2 cs2 h hq)
theorem Inv.drew [Globals] (hI:Inv S σ H w):Inv S σ H w.drew :=
 ⟨hI.len,hI.lt,hI.st,hI.free,hI.inj,fun i b o h ho=>(hI.obj i b o h ho).tr hI (Tr.drew S σ H w) rfl,hI.fz,fun g cells h=>(hI.glob g cells h).tr hI (Tr.drew S σ H w)⟩
end
end Go.Ab
