/- A part of the proof: an interpreter on abstract values, proved right for every program; no condition. -/
import Derived.Test.YtiiannaficbjeaaDoorAbEffM
namespace Go.Ab
set_option linter.unusedVariables false
set_option linter.unusedSimpArgs false
set_option linter.unusedSectionVars false
open Go.RowKit
section
variable {S S':Nat→Prop} {σ σ':List Nat} {H H':Heap} {w w':World} {P:Program}
theorem Qsm [Globals] (hI:Inv S σ H w) {sz m:Nat} {x:AV} {v:Value} {new:List IV} (h:Qj7 H sz x=some (new,m)) (hx:VRel S σ H w x v) :
  ∃ (a:Option Addr) (c:Nat) (us:Nat→Value),v=.slice a m c∧new.length=m * sz∧(∀ j,j<new.length→∃ ad,a=some ad∧ad.block<w.heap.size∧w.cell? (ad.add j)=some (us j))∧(a=none→m=0)∧∀ (j:Nat) (x:IV),new[j]?=some x→IRel S w x (us j):=by
 unfold Qj7 at h
 split at h<;>first | (cases h;done) | skip
 ·split at h<;>first | (cases h;done) | skip
  rename_i hl
  injection h with h
  injection h with h1 h2
  subst h1
  subst h2
  cases hx with
  | c hx =>
  cases hx with
  | slice us hn hz hk hlc hm hc hr =>
  rename_i a
  exact⟨a,_,us,rfl,hl,fun j hj=>by obtain ⟨ad,e1,e2,e3⟩:=hc j hj;exact ⟨ad,e1,hI.st _ e2,e3⟩,fun ha=>by have:=hz ha;omega,hr⟩
 ·obtain⟨r,hr,h⟩:=Option.bind_eq_some_iff.1 h
  split at h<;>first | (cases h;done) | skip
  rename_i id off len ext sz' _ hb
  injection h with h
  injection h with h1 h2
  subst h1
  subst h2
  obtain⟨hb1,rfl⟩:=hb
  obtain⟨b,cur,cap,hσ,rfl,hw,hlc,hcm,hoc,h4,h5,h6⟩:=QcR hx hI hr
  refine⟨_,_,fun j=>cur.getD (off+j) undef,rfl,by simp;omega,fun j hj=>⟨_,rfl,hI.lt _ _ _ hσ (Qcl hr).choose_spec.1 (by intro e;cases e), ?_⟩,(fun he=>by cases he),fun j y hy=>?_⟩
  ·simp only[List.length_take,List.length_drop] at hj
   rw[QeB,cell_of_row w b _ cur _ _ hw]
   have:off+j<cur.size:=by omega
   simp[Array.getD,this]
  ·have hjl:j<len * sz':=by have:=(List.getElem?_eq_some_iff.1 hy).1;simp at this;omega
   rw[List.getElem?_take_of_lt hjl,List.getElem?_drop] at hy
   exact h6 _ _ hy
theorem QeX (us:Nat→Value) (n j:Nat) (u:Value) (h:((List.range n).map us)[j]?=some u):j<n∧u=us j:=by
 rw[List.getElem?_map] at h
 obtain⟨k,hk,rfl⟩:=Option.map_eq_some_iff.1 h
 obtain⟨h1,h2⟩:=List.getElem?_eq_some_iff.1 hk
 simp at h1 h2
 subst h2
 exact⟨h1,rfl⟩
theorem Qi2 {t ty e:TypeId} {i:TypeInfo} {z:Value} (ht:P.underlying t=some (.slice e)) (hi:P.info? e=some i) (hz:i.zero=some z) (hzs:z.cells.size=i.size)
  {base:Option Addr} {len kc m c:Nat} {ad:Addr} (olds news:List Value) (hlo:olds.length=len * i.size) (holds:∀ j u,olds[j]?=some u→∃ b,base=some b∧w.cell? (b.add j)=some u) (hnil:base=none→kc=0∧len=0)
  (hl:news.length=m * i.size) (hnews:∀ j u,news[j]?=some u→w.cell? (ad.add j)=some u) (hg:kc<len+m) (h47:len+m≤140737488355328) (hb:(len+m) * i.bytes≤140737488355328) :
  ∃ cap' arr,len+m≤cap'∧cap'≤maxLen∧(Builtin.append_ #[t,t] ty #[.slice base len kc,.slice (some ad) m c]).run P w=.ok (.slice (some ⟨w.heap.size,0,none⟩) (len+m) cap') (w.drew.alloc (.cells arr e)) ∧
   arr.size=cap' * i.size∧∀ j,j<olds.length+news.length→arr.getD j undef=(olds++news).getD j undef:=by
 have hm63:len+m≤maxLen:=by simp only [maxLen];omega
 have hget:∀ (rest:Array Value) j,j<olds.length+news.length→(olds.toArray++news.toArray++rest).getD j undef=(olds++news).getD j undef:=by
  intro rest j hj
  rw[Array.getD_eq_getD_getElem?,List.getD_eq_getElem?_getD]
  congr 1
  rw[Array.getElem?_append_left (by simp;omega)]
  simp
 cases base with
 | none =>
  obtain⟨rfl,rfl⟩:=hnil rfl
  have hce:olds=[]:=List.eq_nil_of_length_eq_zero (by simpa using hlo)
  subst hce
  have hr:=run_append_nil (P:=P) w t ty e i z ht hi hz ad m c news hl hnews (by omega) (by omega) (by simp at hb;omega)
  have hge:=grownCap_ge w m 0 e
  refine⟨grownCap w m 0 e,news.toArray++Builtin.zeroCells z.cells (grownCap w m 0 e-m),by omega,grownCap_le_maxLen w m 0 e (by simpa using hm63),by simpa using hr, ?_,fun j hj=>?_⟩
  ·simp only[Array.size_append,List.size_toArray,size_zeroCells,hl,hzs,← Nat.add_mul]
   congr 1
   omega
  ·simpa using hget (Builtin.zeroCells z.cells (grownCap w m 0 e-m)) j hj
 | some b =>
  have holds':∀ j u,olds[j]?=some u→w.cell? (b.add j)=some u:=by
   intro j u hj
   obtain⟨b',e1,h⟩:=holds j u hj
   injection e1 with e1
   subst e1
   exact h
  have hr:=run_append_grow (P:=P) w t ty e i z ht hi hz b len kc olds hlo holds' ad m c news hl hnews (by omega) (by omega) (growslice_fits (by omega) hb)
  have hge:=grownCap_ge w (len+m) kc e
  refine⟨grownCap w (len+m) kc e,_,hge,grownCap_le_maxLen w _ _ e hm63,hr, ?_,fun j hj=>hget _ j hj⟩
  simp only[Array.size_append,List.size_toArray,size_zeroCells,hlo,hl,hzs,← Nat.add_mul]
  congr 1
  omega
theorem Qej {R:IV→Value→Prop} {xs ys:List IV} {us vs:List Value} (h1:xs.length=us.length) (hx:∀ (i:Nat) (x:IV),xs[i]?=some x→R x (us.getD i undef)) (hy:∀ (i:Nat) (x:IV),ys[i]?=some x→R x (vs.getD i undef)) :
  ∀ (i:Nat) (x:IV),(xs++ys)[i]?=some x→R x ((us++vs).getD i undef):=by
 intro i x hi
 rw[List.getD_eq_getElem?_getD]
 by_cases h:i<xs.length
 ·rw[List.getElem?_append_left h] at hi
  rw[List.getElem?_append_left (by omega)]
  have:=hx i x hi
  rwa [List.getD_eq_getElem?_getD] at this
 ·rw[List.getElem?_append_right (by omega)] at hi
  rw[List.getElem?_append_right (by omega),← h1]
  have:=hy _ x hi
  rwa [List.getD_eq_getElem?_getD] at this
theorem QhO (us:Nat→Value) (n j:Nat) (h:j<n):((List.range n).map us).getD j undef=us j:=by
 rw[List.getD_eq_getElem?_getD,List.getElem?_map,List.getElem?_range h]
 rfl
theorem QhA {α:Type} (cs new:List α) (off i:Nat) (h1:off+new.length≤cs.length) :
  (cs.take off++new++cs.drop (off+new.length))[i]?=if off≤i∧i<off+new.length then new[i-off]? else cs[i]?:=by
 by_cases hi:i<off
 ·rw[if_neg (by omega),List.append_assoc,List.getElem?_append_left (by simp;omega),List.getElem?_take_of_lt hi]
 ·by_cases hj:i<off+new.length
  ·rw[if_pos ⟨by omega,hj⟩,List.append_assoc,List.getElem?_append_right (by simp;omega),List.getElem?_append_left (by simp;omega)]
   congr 1
   simp
   omega
  ·rw[if_neg (by omega),List.getElem?_append_right (by simp;omega),List.getElem?_drop]
   congr 1
   simp
   omega
theorem Qvf [Globals] (hI:Inv S σ H w) {sl:Option Nat} {t:TypeId} {s x av:AV} {vs vx:Value} (h:Qed P H sl t s x=some (av,H')) (hs:VRel S σ H w s vs) (hx:VRel S σ H w x vx) (ty:TypeId) :
  ∃ u w',(Builtin.append_ #[t,t] ty #[vs,vx]).run P w=.ok u w'∧∃ σ',Inv S σ' H' w'∧Tr S σ H w S σ' H' w'∧VRel S σ' H' w' av u:=by
 unfold Qed at h
 obtain⟨e,he,h⟩:=Option.bind_eq_some_iff.1 h
 obtain⟨sz,hsz,h⟩:=Option.bind_eq_some_iff.1 h
 obtain⟨by_,hby,h⟩:=Option.bind_eq_some_iff.1 h
 obtain⟨⟨new,m⟩,hsrc,h⟩:=Option.bind_eq_some_iff.1 h
 split at h<;>first | (cases h;done) | skip
 rename_i hne
 simp only[not_or,ne_eq,Decidable.not_not] at hne
 obtain⟨n1,n2,n3⟩:=hne
 obtain⟨z,hz,hzlen⟩:=Option.map_eq_some_iff.1 n3
 obtain⟨i,zv,hi,hzv,_,hzl,hzr⟩:=Qce (S:=S) (σ:=σ) (H:=H) (w:=w) hz
 have hs':i.size=sz:=by have:=hsz;simp [Qb0,hi] at this;exact this
 have hby':i.bytes=by_:=by have:=hby;simp [Qux,hi] at this;exact this
 subst hs'
 subst hby'
 have hzs:zv.cells.size=i.size:=by omega
 have hu:=Qdl he
 obtain⟨a,c,us,rfl,hnl,hcells,hanil,hnr⟩:=Qsm hI hsrc hx
 have hzero:∀ (base:Option Addr) (len cap:Nat),len≤cap→m=0→(Builtin.append_ #[t,t] ty #[.slice base len cap,.slice a m c]).run P w=.ok (.slice base len cap) w:=by
  intro base len cap hle hm
  subst hm
  cases a<;>cases base<;>simp [Builtin.append_,run_underlying hu,sizeOf,typeInfo,hi,Builtin.lenOf,hle,Builtin.firstCells,loadCells,loadCellsFrom,storeCells]
 have hnewsD:∀ (k:Nat) (y:IV),new[k]?=some y→IRel S w y (((List.range new.length).map us).getD k undef):=by
  intro k y hk
  rw[QhO us _ _ (List.getElem?_eq_some_iff.1 hk).1]
  exact hnr k y hk
 simp only at h
 split at h<;>first | (cases h;done) | skip
 ·cases hs with
  | c hs =>
  have hs0:=hs
  cases hs with
  | slice us2 hn hz2 hk hlc hm hc hr =>
  rename_i cells len nl capk _ _ _ _ kc base
  split at h
  ·rename_i hm0
   injection h with h
   injection h with h1 h2
   subst h1
   subst h2
   exact⟨_,w,hzero _ _ _ hlc hm0,σ,hI,Tr.refl _ _ _ _,.c hs0⟩
  ·rename_i hm0
   split at h<;>first | (cases h;done) | skip
   split at h<;>first | (cases h;done) | skip
   rename_i hb
   have hfin:=h
   obtain⟨b1,b2,b3⟩:=hb
   have hcap:=hk _ rfl
   subst hcap
   unfold roomBytes at b2
   have hle47:len+m≤140737488355328:=Nat.le_trans (Nat.le_mul_of_pos_right (len+m) (Nat.pos_of_ne_zero n2)) b2
   obtain⟨ad,rfl⟩:∃ ad,a=some ad:=by
    cases a with
    | none=>exact absurd (hanil rfl) hm0
    | some ad=>exact ⟨ad,rfl⟩
   obtain⟨cap',arr,g1,g2,g3,g4,g5⟩:=Qi2 (P:=P) (w:=w) (ty:=ty) (base:=base) (kc:=kc) (c:=c) (ad:=ad) hu hi hzv hzs ((List.range cells.length).map us2) ((List.range new.length).map us) (by simp [b3])
    (fun j u hj=>by
     obtain⟨h1,rfl⟩:=QeX us2 _ _ _ hj
     obtain⟨ad',e1,_,e3⟩:=hc j h1
     exact⟨ad',e1,e3⟩)
    (fun hb=>by have:=hz2 hb;omega) (by simp [hnl])
    (fun j u hj=>by
     obtain⟨h1,rfl⟩:=QeX us _ _ _ hj
     obtain⟨ad',e1,_,e3⟩:=hcells j h1
     injection e1 with e1
     subst e1
     exact e3) b1 hle47 b2
   simp only[List.length_map,List.length_range] at g5
   have hn':∀ (σ':List Nat) (H':Heap),ORel S σ' H' (w.drew.alloc (.cells arr e)) w.drew.heap.size (.row false e (cells++new)):=by
    intro σ' H'
    refine⟨arr,heap_alloc_new w.drew _, ?_,fun k y hk=>?_⟩
    ·rw[g4,List.length_append,b3,hnl,← Nat.add_mul]
     exact Nat.mul_le_mul_right _ g1
    ·have hlt:k<cells.length+new.length:=by have:=(List.getElem?_eq_some_iff.1 hk).1;simpa using this
     rw[g5 k hlt]
     have:=Qej (R:=IRel S w) (us:=(List.range cells.length).map us2) (vs:=(List.range new.length).map us) (by simp) (fun k y hk=>by rw [QhO us2 _ _ (List.getElem?_eq_some_iff.1 hk).1];exact hr k y hk) hnewsD k y hk
     exact this.mono (fun _ h=>h) fun b hb=>Below.heap_alloc w.drew _ b (hI.st b hb)
   cases hslot:QbV H sl with
   | none =>
    simp only[hslot,Option.some.injEq,Prod.mk.injEq] at hfin
    obtain⟨h1,h2⟩:=hfin
    subst h1
    subst h2
    obtain⟨hI',hT⟩:=hI.drew.grow _ (.cells arr e) (hn' _ _)
    refine⟨_,_,g3,_,hI',(Tr.drew S σ H w).trans hT,.hsl QfA fun fz' t' cs' hcs'=>?_⟩
    rw[List.getElem?_append_right (Nat.le_refl _),Nat.sub_self] at hcs'
    simp at hcs'
    obtain⟨rfl,rfl,rfl⟩:=hcs'
    refine⟨by simp [b3,hnl,Nat.add_mul],fun _=>⟨w.heap.size,arr,e,Qd3 hI.len,rfl,heap_alloc_new w.drew _,g1,g2,by omega⟩⟩
   | some s =>
    simp only[hslot,Option.some.injEq,Prod.mk.injEq] at hfin
    obtain⟨h1,h2⟩:=hfin
    subst h1
    subst h2
    have hsi:H[s]?=some .slot:=Qg7 hslot
    have hsl:=(List.getElem?_eq_some_iff.1 hsi).1
    obtain⟨hI',hT⟩:=hI.drew.fill hsi (.cells arr e) (fun _=>hn' _ _)
    have hget:(H.set s (.row false e (cells++new)))[s]?=some (.row false e (cells++new)):=by rw [Qc1 hsl,if_pos rfl]
    refine⟨_,_,g3,_,hI',(Tr.drew S σ H w).trans hT,.hsl (by unfold QaR;rw [hget];rfl) fun fz' t' cs' hcs'=>?_⟩
    rw[hget] at hcs'
    injection hcs' with hcs'
    injection hcs' with e0 e1 e2
    subst e2
    refine⟨by simp [b3,hnl,Nat.add_mul],fun _=>⟨w.heap.size,arr,e,by rw [Qc1 (by rw [hI.len];exact hsl),if_pos rfl];rfl,rfl,heap_alloc_new w.drew _,g1,g2,by omega⟩⟩
 ·obtain⟨q,hq,hf⟩:=Option.bind_eq_some_iff.1 h
  rename_i id off len ext sz' _ _ _ _
  obtain⟨b,cur,cap,hσ,rfl,hw,hlc,hcm,hoc,h4,h5,h6⟩:=QcR hs hI hq
  split at hf
  ·rename_i hm0
   injection hf with hf
   injection hf with h1 h2
   subst h1
   subst h2
   exact⟨_,w,hzero _ _ _ hlc hm0,σ,hI,Tr.refl _ _ _ _,hs⟩
  ·rename_i hm0
   split at hf<;>first | (cases hf;done) | skip
   rename_i hb
   obtain⟨rfl,rfl,b3,b4,rfl,hlive⟩:=hb
   have hqi:=(QdY hq hlive).1
   unfold roomBytes at b4
   have hle47:len+m≤140737488355328:=Nat.le_trans (Nat.le_mul_of_pos_right (len+m) (Nat.pos_of_ne_zero n2)) b4
   obtain⟨ad,rfl⟩:∃ ad,a=some ad:=by
    cases a with
    | none=>exact absurd (hanil rfl) hm0
    | some ad=>exact ⟨ad,rfl⟩
   have hnews:∀ j u,((List.range new.length).map us)[j]?=some u→w.cell? (ad.add j)=some u:=by
    intro j u hj
    obtain⟨h1,rfl⟩:=QeX us _ _ _ hj
    obtain⟨ad',e1,_,e3⟩:=hcells j h1
    injection e1 with e1
    subst e1
    exact e3
   have hone:∀ u ∈ (List.range new.length).map us,u.oneCell'=true:=by
    intro u hu
    obtain⟨k,hk,rfl⟩:=List.mem_map.1 hu
    rw[List.mem_range] at hk
    exact(hnr k _ (List.getElem?_eq_getElem hk)).oneCell
   have htag:QaR H id=some 0:=by cases hs with | hsl hd _=>exact hd
   by_cases hroom:len+m≤cap
   ·-- in place
    have hcs:cap * i.size=cur.size:=by omega
    have hfit:len * i.size+((List.range new.length).map us).length≤cur.size:=by
     rw[← hcs]
     simp only[List.length_map,List.length_range,hnl,← Nat.add_mul]
     exact Nat.mul_le_mul_right _ hroom
    have hrun:=run_append_room (P:=P) w t ty q.1 i hu hi b len cap cur hw ad m c _ (by simp [hnl]) hnews hone hroom hfit
    generalize harr:(cur.toList.take (len * i.size)++(List.range new.length).map us++cur.toList.drop (len * i.size+((List.range new.length).map us).length)).toArray=arr at hrun
    have hasz:arr.size=cur.size:=by
     rw[← harr]
     simp at hfit ⊢
     omega
    have hsh:∀ (cur0:Array Value) (t:TypeId) (fr:Nat × Nat),w.heap[b]?=some (.cells cur0 t fr)→∃ cur',(w.setRow b arr).heap[b]?=some (.cells cur' t fr)∧cur'.size=cur0.size:=by
     intro cur' t' fr hw'
     rw[hw] at hw'
     injection hw' with hw'
     injection hw' with e1 e2 e3
     subst e1
     subst e2
     subst e3
     exact⟨_,setRow_heap w b _ _ _ _ hw,hasz⟩
    have harrD:∀ k,arr.getD k undef=if len * i.size≤k∧k<len * i.size+new.length then us (k-len * i.size) else cur.getD k undef:=by
     intro k
     rw[← harr,Array.getD_eq_getD_getElem?,List.getElem?_toArray,QhA _ _ _ _ (by simpa using hfit)]
     simp only[List.length_map,List.length_range]
     split
     ·rename_i hk
      rw[List.getElem?_map,List.getElem?_range (by omega)]
      rfl
     ·rw[Array.getD_eq_getD_getElem?]
      simp
    have hput:∀ (cs':List IV),(∀ (k:Nat) (y:IV),cs'[k]?=some y→IRel S w y (arr.getD k undef))→cs'.length≤cur.size→q.2.length≤cs'.length →
      Inv S σ (H.set id (.row false q.1 cs')) (w.setRow b arr)∧Tr S σ H w S σ (H.set id (.row false q.1 cs')) (w.setRow b arr):=by
     intro cs' hc1 hc2 hc3
     exact hI.put (w':=w.setRow b arr) (o':=.row false q.1 cs') hqi hσ rfl rfl rfl rfl (by simp) (fun k hk=>setRow_other w b k _ hk) hsh rfl (fun fz' t' cs2 he=>by injection he with e0 e1 e2;subst e1;subst e2;exact ⟨false,q.2,rfl,hc3⟩)
      (fun hT=>⟨arr,setRow_heap w b _ _ _ _ hw,by omega,fun k y hk=>(hc1 k y hk).tr hI hT⟩)
    have hget:∀ cs':List IV,(H.set id (.row false q.1 cs'))[id]?=some (.row false q.1 cs'):=fun cs'=>by
     rw[Qc1 (List.getElem?_eq_some_iff.1 hqi).1,if_pos rfl]
    have hres:∀ (cs':List IV) (ext':Nat),ext'=cs'.length→VRel S σ (H.set id (.row false q.1 cs')) (w.setRow b arr) (.hsl id 0 (len+m) ext' i.size) (.slice (some ⟨b,0,none⟩) (len+m) cap):=by
     intro cs' ext' he
     refine .hsl (by unfold QaR;rw [hget];rfl) fun fz' t' cs2 hc2=>?_
     rw[hget] at hc2
     injection hc2 with hc2
     injection hc2 with e0 e1 e2
     subst e1
     subst e2
     exact⟨by omega,fun _=>⟨b,arr,q.1,hσ,rfl,setRow_heap w b _ _ _ _ hw,hroom,hcm,by omega⟩⟩
    have hm:(len+m) * i.size=len * i.size+new.length:=by rw [hnl,Nat.add_mul]
    by_cases hle:(len+m) * i.size≤ext
    ·rw[if_pos hle] at hf
     injection hf with hf
     injection hf with h1 h2
     subst h1
     subst h2
     have hlen:(q.2.take (len * i.size)++new++q.2.drop ((len+m) * i.size)).length=q.2.length:=by
      simp
      omega
     obtain⟨hI',hT⟩:=hput (q.2.take (len * i.size)++new++q.2.drop ((len+m) * i.size)) (fun k y hk=>by
      rw[hm,QhA _ _ _ _ (by omega)] at hk
      rw[harrD]
      split at hk
      ·rename_i hb
       rw[if_pos hb]
       exact hnr _ _ hk
      ·rename_i hb
       rw[if_neg hb]
       exact h6 _ _ hk) (by omega) (by omega)
     exact⟨_,_,hrun,σ,hI',hT,hres _ _ (by omega)⟩
    ·rw[if_neg hle] at hf
     injection hf with hf
     injection hf with h1 h2
     subst h1
     subst h2
     have hlen:(q.2.take (len * i.size)++new).length=(len+m) * i.size:=by
      simp
      omega
     obtain⟨hI',hT⟩:=hput (q.2.take (len * i.size)++new) (fun k y hk=>by
      have hkl:k<(len+m) * i.size:=by have:=(List.getElem?_eq_some_iff.1 hk).1;omega
      rw[harrD]
      by_cases hb:k<len * i.size
      ·rw[if_neg (by omega)]
       rw[List.getElem?_append_left (by simp;omega),List.getElem?_take_of_lt hb] at hk
       exact h6 _ _ hk
      ·rw[if_pos (by omega)]
       rw[List.getElem?_append_right (by simp;omega)] at hk
       have e:k-(q.2.take (len * i.size)).length=k-len * i.size:=by simp;omega
       rw[e] at hk
       exact hnr _ _ hk) (by simp at hfit;omega) (by omega)
     exact⟨_,_,hrun,σ,hI',hT,hres _ _ (by omega)⟩
   ·-- it grows
    have hcs:cap * i.size=cur.size:=by omega
    have hext:¬ (len+m) * i.size≤ext:=by
     intro hle
     have h1:(len+m) * i.size≤cap * i.size:=by omega
     exact hroom (Nat.le_of_mul_le_mul_right h1 (Nat.pos_of_ne_zero n1))
    rw[if_neg hext] at hf
    injection hf with hf
    injection hf with h1 h2
    subst h1
    subst h2
    obtain⟨cap',arr,g1,g2,g3,g4,g5⟩:=Qi2 (P:=P) (w:=w) (ty:=ty) (base:=some ⟨b,0,none⟩) (kc:=cap) (c:=c) (ad:=ad) hu hi hzv hzs ((List.range (len * i.size)).map fun j=>cur.getD j undef) ((List.range new.length).map us) (by simp)
     (fun j u hj=>by
      obtain⟨h1,rfl⟩:=QeX _ _ _ _ hj
      refine⟨_,rfl, ?_⟩
      rw[QgD,cell_of_row w b j cur _ _ hw]
      have:j<cur.size:=by omega
      simp[Array.getD,this])
     (fun hb=>by cases hb) (by simp [hnl]) hnews (by omega) hle47 b4
    simp only[List.length_map,List.length_range] at g5
    have hm:(len+m) * i.size=len * i.size+new.length:=by rw [hnl,Nat.add_mul]
    have hlen:(q.2.take (len * i.size)++new).length=(len+m) * i.size:=by
     simp
     omega
    obtain⟨hI',hT⟩:=hI.drew.move (t:=q.1) (cs:=q.2) (cs':=q.2.take (len * i.size)++new) hqi (by omega) (.cells arr q.1) (fun hT=>by
     refine⟨arr,heap_alloc_new w.drew _, ?_,fun k y hk=>?_⟩
     ·rw[hlen,g4]
      exact Nat.mul_le_mul_right _ g1
     ·have hkl:k<(len+m) * i.size:=by have:=(List.getElem?_eq_some_iff.1 hk).1;omega
      rw[g5 k (by omega)]
      have:=Qej (R:=IRel S w) (xs:=q.2.take (len * i.size)) (ys:=new) (us:=(List.range (len * i.size)).map fun j=>cur.getD j undef) (vs:=(List.range new.length).map us) (by simp;omega)
       (fun k y hk=>by
        have hk2:k<len * i.size:=by have:=(List.getElem?_eq_some_iff.1 hk).1;simp at this;omega
        rw[QhO _ _ _ hk2]
        rw[List.getElem?_take_of_lt hk2] at hk
        exact h6 _ _ hk) hnewsD k y hk
      exact this.mono (fun _ h=>h) fun b hb=>Below.heap_alloc w.drew _ b (hI.st b hb))
    refine⟨_,_,g3,_,hI',(Tr.drew S σ H w).trans hT,.hsl ?_ fun fz' t' cs2 hc2=>?_⟩
    ·unfold QaR
     rw[Qc1 (List.getElem?_eq_some_iff.1 hqi).1,if_pos rfl]
     rfl
    ·rw[Qc1 (List.getElem?_eq_some_iff.1 hqi).1,if_pos rfl] at hc2
     injection hc2 with hc2
     injection hc2 with e0 e1 e2
     subst e1
     subst e2
     refine⟨by omega,fun _=>⟨w.heap.size,arr,q.1, ?_,rfl,heap_alloc_new w.drew _,g1,g2,by omega⟩⟩
     rw[Qc1 (by rw [hI.len];exact (List.getElem?_eq_some_iff.1 hqi).1),if_pos rfl]
     rfl
theorem Qyn [Globals] (hI:Inv S σ H w) {t:TypeId} {x:AV} {v:Value} (h:Qua P H t x=some H') (hx:VRel S σ H w x v) (ty:TypeId) :
  ∃ w',(Builtin.clear_ #[t] ty #[v]).run P w=.ok (.tuple #[]) w'∧Inv S σ H' w'∧Tr S σ H w S σ H' w':=by
 unfold Qua at h
 obtain⟨e,he,h⟩:=Option.bind_eq_some_iff.1 h
 obtain⟨sz,hsz,h⟩:=Option.bind_eq_some_iff.1 h
 obtain⟨z,hz,h⟩:=Option.bind_eq_some_iff.1 h
 have hu:=Qdl he
 cases x with
 | c y =>
  cases y with
  | slice cells len nl kc =>
   have h2:(if len=0 then some H else none)=some H':=h
   split at h2<;>first | (cases h2;done) | skip
   rename_i hl
   injection h2 with h2
   subst h2
   subst hl
   cases hx with
   | c hx =>
   cases hx with
   | slice us hn hzz hk hl hm hc hr =>
   rename_i cap a
   refine⟨w, ?_,hI,Tr.refl S σ H w⟩
   cases a<;>simp [Builtin.clear_,run_underlying hu]
  | _=>cases h
 | hsl id off len ext sz' =>
  obtain⟨q,hq,h⟩:=Option.bind_eq_some_iff.1 h
  split at h<;>first | (cases h;done) | skip
  rename_i hb
  obtain⟨hfit,rfl,hzl,hlive,hlen⟩:=hb
  injection h with h
  subst h
  obtain⟨hqi,hext⟩:=QdY hq hlive
  cases hx with
  | hsl hd hh =>
  rename_i cap a
  obtain⟨b,cur,hσ,hw,hcl,hrel,_⟩:=hI.row hq
  obtain⟨b',cur',e',hσ',rfl,hw',h4,h5,h6⟩:=(hh _ _ _ hqi).2 hext
  rw[hσ] at hσ'
  injection hσ' with hσ'
  subst hσ'
  rw[hw] at hw'
  injection hw' with hw'
  injection hw' with e1 e2 _
  subst e1
  subst e2
  obtain⟨i,zv,hi,hzv,_,hzl2,hzr⟩:=Qce (S:=S) (σ:=σ) (H:=H) (w:=w) hz
  have hzs:zv.cells.size=sz':=by omega
  have hms:(madeCells zv.cells (len * z.length)).size=len * sz':=by rw [size_madeCells,hzl]
  have h1:∀ u ∈ (madeCells zv.cells (len * z.length)).toList,u.oneCell'=true:=by
   intro u hu
   obtain⟨k,hk⟩:=List.getElem?_of_mem hu
   have hkl:k<len * z.length:=by have:=(List.getElem?_eq_some_iff.1 hk).1;simpa [size_madeCells] using this
   have hg:((List.replicate len z).flatten)[k]?=some ((List.replicate len z).flatten[k]'(by rw [QqH];exact hkl)):=List.getElem?_eq_getElem _
   have:=QjQ (t:=t) hzl2 hzr len k _ hg
   rw[← Qbf,List.getD_eq_getElem?_getD,hk] at this
   exact this.oneCell
  have hst:=run_storeCells_at P b off q.1 (madeCells zv.cells (len * z.length)).toList 0 cur w hw (by simp [hms];omega) h1
  have hrun:(Builtin.clear_ #[t] ty #[.slice (some ⟨b,off,none⟩) len cap]).run P w=.ok (.tuple #[]) (w.setRow b (cur.toList.take (off+0)++(madeCells zv.cells (len * z.length)).toList++cur.toList.drop (off+0+(madeCells zv.cells (len * z.length)).toList.length)).toArray):=by
   have hz0:Builtin.zeroCells zv.cells len=madeCells zv.cells (len * z.length):=by rw [hzl2];rfl
   obtain⟨n,rfl⟩:∃ n,len=n+1:=⟨len-1,by omega⟩
   simp[Builtin.clear_,run_underlying hu,zeroValue,typeInfo,hi,hzv,hz0,hst]
  have hasz:(cur.toList.take (off+0)++(madeCells zv.cells (len * z.length)).toList++cur.toList.drop (off+0+(madeCells zv.cells (len * z.length)).toList.length)).toArray.size=cur.size:=by
   simp[hms]
   omega
  generalize harr:(cur.toList.take (off+0)++(madeCells zv.cells (len * z.length)).toList++cur.toList.drop (off+0+(madeCells zv.cells (len * z.length)).toList.length)).toArray=arr at hrun hasz
  have hsh:∀ (cur0:Array Value) (t:TypeId) (fr:Nat × Nat),w.heap[b]?=some (.cells cur0 t fr)→∃ cur',(w.setRow b arr).heap[b]?=some (.cells cur' t fr)∧cur'.size=cur0.size:=by
   intro cur' t' fr hw'
   rw[hw] at hw'
   injection hw' with hw'
   injection hw' with e1 e2 e3
   subst e1
   subst e2
   subst e3
   exact⟨_,setRow_heap w b _ _ _ _ hw,hasz⟩
  have hfl:((List.replicate len z).flatten).length=len * sz':=by rw [QqH,hzl]
  have hrows:∀ (k:Nat) (y:IV),(q.2.take off++(List.replicate len z).flatten++q.2.drop (off+len * sz'))[k]?=some y→IRel S w y (arr.getD k undef):=by
   intro k y hk
   rw[← hfl,QhA _ _ _ _ (by rw [hfl];omega)] at hk
   rw[← harr,Array.getD_eq_getD_getElem?,List.getElem?_toArray,Nat.add_zero,QhA _ _ _ _ (by simp [hms];omega)]
   simp only[Array.length_toList,hms]
   rw[hfl] at hk
   split at hk
   ·rename_i hki
    rw[if_pos hki]
    have:=QjQ (t:=t) hzl2 hzr len (k-off) y hk
    rw[← Qbf,List.getD_eq_getElem?_getD] at this
    exact this
   ·rename_i hki
    rw[if_neg hki]
    have:=hrel k y hk
    rw[← Qbf,List.getD_eq_getElem?_getD] at this
    exact this
  have hnl:(q.2.take off++(List.replicate len z).flatten++q.2.drop (off+len * sz')).length=q.2.length:=by
   simp[hzl]
   omega
  obtain⟨hI',hT⟩:=hI.put (w':=w.setRow b arr) (o':=.row false q.1 (q.2.take off++(List.replicate len z).flatten++q.2.drop (off+len * sz'))) hqi hσ rfl rfl rfl rfl (by simp) (fun k hk=>setRow_other w b k _ hk) hsh rfl
   (fun fz' t' cs2 he=>by injection he with e0 e1 e2;subst e1;subst e2;exact ⟨false,q.2,rfl,by rw [hnl];exact Nat.le_refl _⟩)
   (fun hT=>⟨arr,setRow_heap w b _ _ _ _ hw,by rw [hnl,hasz];exact hcl,fun k y hk=>(hrows k y hk).tr hI hT⟩)
  exact⟨_,hrun,hI',hT⟩
 | _=>cases h
theorem Q50 [Globals] (hI:Inv S σ H w) {t t2:TypeId} {d s:AV} {vd vs:Value} {n:Nat} (h:Q7L P H t d s=some (n,H')) (hd:VRel S σ H w d vd) (hs:VRel S σ H w s vs) (ty:TypeId) :
  ∃ w',(Builtin.copy_ #[t,t2] ty #[vd,vs]).run P w=.ok (.int .i64 n) w'∧Inv S σ H' w'∧Tr S σ H w S σ H' w':=by
 unfold Q7L at h
 obtain⟨e,he,h⟩:=Option.bind_eq_some_iff.1 h
 obtain⟨sz,hsz,h⟩:=Option.bind_eq_some_iff.1 h
 obtain⟨⟨new,m⟩,hsrc,h⟩:=Option.bind_eq_some_iff.1 h
 have hu:=Qdl he
 have hsize:=run_sizeOf (w:=w) hsz
 obtain⟨a,c,us,rfl,hnl,hcells,hanil,hnr⟩:=Qsm hI hsrc hs
 simp only at h
 have hnothing:∀ (base:Option Addr) (len cap:Nat),len=0∨m=0→(Builtin.copy_ #[t,t2] ty #[.slice base len cap,.slice a m c]).run P w=.ok (.int .i64 (0:Nat)) w:=by
  intro base len cap h0
  have hmin:Nat.min m len=0:=by rcases h0 with rfl | rfl<;>simp
  cases a<;>cases base<;>simp [Builtin.copy_,run_underlying hu,hsize,Builtin.lenOf,hmin,Builtin.firstCells,loadCells,loadCellsFrom,storeCells,goInt]
 split at h<;>first | (cases h;done) | skip
 ·split at h<;>first | (cases h;done) | skip
  rename_i h0
  injection h with h
  injection h with e1 e2
  subst e1
  subst e2
  cases hd with
  | c hd =>
  cases hd with
  | slice us2 hn hz hk hl hm hc hr =>
  exact⟨w,hnothing _ _ _ h0,hI,Tr.refl S σ H w⟩
 ·obtain⟨q,hq,h⟩:=Option.bind_eq_some_iff.1 h
  rename_i id off len ext sz' _ _ _ _
  split at h<;>first | (cases h;done) | skip
  rename_i hb
  obtain⟨hfit,rfl,hlive⟩:=hb
  injection h with h
  injection h with e1 e2
  subst e1
  subst e2
  obtain⟨hqi,hext⟩:=QdY hq hlive
  obtain⟨b,cur,cap,hσ,rfl,hw,hlc,hcm,hoc,h4,h5,h6⟩:=QcR hd hI hq
  have hmn:min m len * sz'≤m * sz':=Nat.mul_le_mul_right sz' (Nat.min_le_left m len)
  have hln:min m len * sz'≤len * sz':=Nat.mul_le_mul_right sz' (Nat.min_le_right m len)
  by_cases hz:min m len * sz'=0
  ·-- nothing goes over
   have hsame:q.2.take off++new.take (min m len * sz')++q.2.drop (off+min m len * sz')=q.2:=by rw [hz];simp
   have hset:H.set id (.row false q.1 (q.2.take off++new.take (min m len * sz')++q.2.drop (off+min m len * sz')))=H:=by
    rw[hsame]
    apply List.ext_getElem?
    intro i
    rw[List.getElem?_set]
    split
    ·rename_i e;subst e;split
     ·exact hqi.symm
     ·rename_i hlt;rw [List.getElem?_eq_none (by omega)]
    ·rfl
   rw[hset]
   refine⟨w, ?_,hI,Tr.refl S σ H w⟩
   have hzz:Nat.min m len * sz'=0:=hz
   cases a with
   | none =>
    have hm0:=hanil rfl
    subst hm0
    simp[Builtin.copy_,run_underlying hu,hsize,Builtin.lenOf,Builtin.firstCells,storeCells,goInt]
   | some ad=>simp [Builtin.copy_,run_underlying hu,hsize,Builtin.lenOf,hzz,Builtin.firstCells,loadCells,loadCellsFrom,storeCells,goInt]
  ·obtain⟨ad,rfl⟩:∃ ad,a=some ad:=by
    cases a with
    | none=>exact absurd (by rw [hanil rfl];simp) hz
    | some ad=>exact ⟨ad,rfl⟩
   have hNl:(new.take (min m len * sz')).length=min m len * sz':=by rw [List.length_take,hnl];omega
   have hvs:∀ j v,((List.range (min m len * sz')).map us)[j]?=some v→w.cell? (ad.add j)=some v:=by
    intro j v hj
    obtain⟨h1,rfl⟩:=QeX us _ _ _ hj
    obtain⟨ad',e1,_,e3⟩:=hcells j (by omega)
    injection e1 with e1
    subst e1
    exact e3
   have hone:∀ u ∈ (List.range (min m len * sz')).map us,u.oneCell'=true:=by
    intro u hu
    obtain⟨k,hk,rfl⟩:=List.mem_map.1 hu
    rw[List.mem_range] at hk
    exact(hnr k _ (List.getElem?_eq_getElem (by omega))).oneCell
   have hcurl:off+min m len * sz'≤cur.size:=by omega
   have hl:=run_loadCells_list (P:=P) w ad ((List.range (min m len * sz')).map us) hvs
   have hst:=run_storeCells_at P b off q.1 ((List.range (min m len * sz')).map us) 0 cur w hw (by simpa using hcurl) hone
   have hrun:(Builtin.copy_ #[t,t2] ty #[.slice (some ⟨b,off,none⟩) len cap,.slice (some ad) m c]).run P w=.ok (.int .i64 ((min m len:Nat):Int)) (w.setRow b (cur.toList.take (off+0)++(List.range (min m len * sz')).map us++cur.toList.drop (off+0+((List.range (min m len * sz')).map us).length)).toArray):=by
    simp only[List.length_map,List.length_range] at hl
    have hmin:Nat.min m len=min m len:=rfl
    simp only[Nat.add_zero] at hst
    have hmin':m.min len=min m len:=rfl
    simp[Builtin.copy_,run_underlying hu,Builtin.lenOf,Builtin.firstCells,hsize,hmin',hl,hst,goInt]
   generalize harr:(cur.toList.take (off+0)++(List.range (min m len * sz')).map us++cur.toList.drop (off+0+((List.range (min m len * sz')).map us).length)).toArray=arr at hrun
   have hasz:arr.size=cur.size:=by
    rw[← harr]
    simp
    omega
   have hsh:∀ (cur0:Array Value) (t:TypeId) (fr:Nat × Nat),w.heap[b]?=some (.cells cur0 t fr)→∃ cur',(w.setRow b arr).heap[b]?=some (.cells cur' t fr)∧cur'.size=cur0.size:=by
    intro cur' t' fr hw'
    rw[hw] at hw'
    injection hw' with hw'
    injection hw' with e1 e2 e3
    subst e1
    subst e2
    subst e3
    exact⟨_,setRow_heap w b _ _ _ _ hw,hasz⟩
   have harrD:∀ k,arr.getD k undef=if off≤k∧k<off+min m len * sz' then us (k-off) else cur.getD k undef:=by
    intro k
    rw[← harr,Array.getD_eq_getD_getElem?,List.getElem?_toArray,Nat.add_zero,QhA _ _ _ _ (by simpa using hcurl)]
    simp only[List.length_map,List.length_range]
    split
    ·rename_i hk
     rw[List.getElem?_map,List.getElem?_range (by omega)]
     rfl
    ·rw[Array.getD_eq_getD_getElem?]
     simp
   have hrows:∀ (k:Nat) (y:IV),(q.2.take off++new.take (min m len * sz')++q.2.drop (off+min m len * sz'))[k]?=some y→IRel S w y (arr.getD k undef):=by
    intro k y hk
    have hg:=QhA q.2 (new.take (min m len * sz')) off k (by rw [hNl];omega)
    rw[hNl] at hg
    rw[hg] at hk
    rw[harrD]
    split at hk
    ·rename_i hki
     rw[if_pos hki]
     rw[List.getElem?_take_of_lt (by omega)] at hk
     exact hnr _ _ hk
    ·rename_i hki
     rw[if_neg hki]
     exact h6 k y hk
   have hnl':(q.2.take off++new.take (min m len * sz')++q.2.drop (off+min m len * sz')).length=q.2.length:=by
    simp only[List.length_append,List.length_take,List.length_drop,hnl]
    omega
   obtain⟨hI',hT⟩:=hI.put (w':=w.setRow b arr) (o':=.row false q.1 (q.2.take off++new.take (min m len * sz')++q.2.drop (off+min m len * sz'))) hqi hσ rfl rfl rfl rfl (by simp) (fun k hk=>setRow_other w b k _ hk) hsh rfl
    (fun fz' t' cs2 he=>by injection he with e0 e1 e2;subst e1;subst e2;exact ⟨false,q.2,rfl,by rw [hnl'];exact Nat.le_refl _⟩)
    (fun hT=>⟨arr,setRow_heap w b _ _ _ _ hw,by rw [hnl',hasz];omega,fun k y hk=>(hrows k y hk).tr hI hT⟩)
   exact⟨_,hrun,hI',hT⟩
theorem QkN [Globals] (hI:Inv S σ H w) {sl:Option Nat} {ρa:Operand→AV} {ρ:Operand→Value} (hρ:∀ x,VRel S σ H w (ρa x) (ρ x)) {o:Oper} {av:AV} (h:QbF P sl ρa H o=some (av,H')) :
  ∃ v w',((execOp ρ o).run P w=.ok (.value v) w'∨((execOp ρ o).run P w=.ok .skip w'∧v=undef))∧∃ S' σ',Inv S' σ' H' w'∧Tr S σ H w S' σ' H' w'∧VRel S' σ' H' w' av v:=by
 unfold QbF at h
 unfold execOp
 split at h<;>first | (cases h;done) | skip
 ·rename_i e ho
  simp only[ho]
  obtain⟨u,w',h1,σ',h2,h3,h4⟩:=Qvq (P:=P) hI h
  exact⟨u,w',.inl (by simp [h1]),S,σ',h2,h3,h4⟩
 ·rename_i e x ho
  simp only[ho]
  obtain⟨u,h1,h2,h3,h4⟩:=Q89 (P:=P) hI h (hρ x)
  exact⟨_,_,.inl (by simp [Instr.box,h1]),S,_,h2,h3,h4⟩
 ·rename_i t a x ho
  simp only[ho]
  obtain⟨H1,h1,h⟩:=Option.map_eq_some_iff.1 h
  injection h with h2 h3
  subst h2
  subst h3
  obtain⟨S',w',h2,h3,h4⟩:=Qzy (P:=P) hI h1 (hρ a) (hρ x)
  exact⟨undef,w',.inr ⟨by simp [h2],rfl⟩,S',σ,h3,h4,.unk⟩
 ·rename_i t l c ho
  simp only[ho]
  obtain⟨u,w',h1,σ',h2,h3,h4⟩:=QlK (P:=P) hI h (hρ l) (hρ c)
  exact⟨u,w',.inl (by simp [h1]),S,σ',h2,h3,h4⟩
 ·rename_i t len parts ho
  simp only[ho]
  obtain⟨u,w',h1,S',σ',h2,h3,h4⟩:=Qj4 (P:=P) hI (qs:=parts.map fun (i,x)=>(i,ρ x)) h (by rw [Array.toList_map];exact All2.map_parts hρ parts.toList)
  exact⟨u,w',.inl (by simp [h1]),S',σ',h2,h3,h4⟩
 ·rename_i args argTypes ho
  simp only[ho]
  split at h<;>first | (cases h;done) | skip
  rename_i s x t t2 ha ht
  split at h<;>first | (cases h;done) | skip
  rename_i ht2
  subst ht2
  have ea:args=#[s,x]:=by rw [← Array.toArray_toList (xs:=args),ha]
  have et:argTypes=#[t2,t2]:=by rw [← Array.toArray_toList (xs:=argTypes),ht]
  subst ea
  subst et
  obtain⟨u,w',h1,σ',h2,h3,h4⟩:=Qvf (P:=P) hI h (hρ s) (hρ x) o.type
  exact⟨u,w',.inl (by simp [resolve,invoke,builtin,h1]),S,σ',h2,h3,h4⟩
 ·rename_i args argTypes ho
  simp only[ho]
  split at h<;>first | (cases h;done) | skip
  rename_i x t ha ht
  have ea:args=#[x]:=by rw [← Array.toArray_toList (xs:=args),ha]
  have et:argTypes=#[t]:=by rw [← Array.toArray_toList (xs:=argTypes),ht]
  subst ea
  subst et
  obtain⟨H1,h1,h⟩:=Option.map_eq_some_iff.1 h
  injection h with h2 h3
  subst h2
  subst h3
  obtain⟨w',g1,g2,g3⟩:=Qyn (P:=P) hI h1 (hρ x) o.type
  exact⟨.tuple #[],w',.inl (by simp [resolve,invoke,builtin,g1]),S,σ,g2,g3,.tup rfl fun i x hi=>by simp at hi⟩
 ·rename_i args argTypes ho
  simp only[ho]
  split at h<;>first | (cases h;done) | skip
  rename_i d s t t2 ha ht
  have ea:args=#[d,s]:=by rw [← Array.toArray_toList (xs:=args),ha]
  have et:argTypes=#[t,t2]:=by rw [← Array.toArray_toList (xs:=argTypes),ht]
  subst ea
  subst et
  obtain⟨⟨n,H1⟩,h1,h⟩:=Option.map_eq_some_iff.1 h
  injection h with h2 h3
  subst h2
  subst h3
  obtain⟨w',g1,g2,g3⟩:=Q50 (P:=P) (t2:=t2) hI h1 (hρ d) (hρ s) o.type
  exact⟨_,w',.inl (by simp [resolve,invoke,builtin,g1]),S,σ,g2,g3,.c (.int _ _)⟩
 ·rename_i t r ho
  simp only[ho]
  obtain⟨u,w',h1,σ',h2,h3,h4⟩:=Qr3 (P:=P) (v:=r.map ρ) hI h (by simp) (fun a u ha hu=>by
   obtain⟨y,hy,rfl⟩:=Option.map_eq_some_iff.1 ha
   obtain⟨y',hy',rfl⟩:=Option.map_eq_some_iff.1 hu
   rw[hy] at hy'
   injection hy' with hy'
   subst hy'
   exact hρ y)
  exact⟨u,w',.inl (by simp [h1]),S,σ',h2,h3,h4⟩
 ·rename_i t m k x ho
  simp only[ho]
  obtain⟨H1,h1,h⟩:=Option.map_eq_some_iff.1 h
  injection h with h2 h3
  subst h2
  subst h3
  obtain⟨w',h2,h3,h4⟩:=Qlj (P:=P) hI h1 (hρ m) (hρ k) (hρ x)
  exact⟨undef,w',.inr ⟨by simp [h2],rfl⟩,S,σ,h3,h4,.unk⟩
 ·rename_i t m k ho
  simp only[ho]
  obtain⟨u,w',h2,h3,h4,h5⟩:=QmM (P:=P) hI h (hρ m) (hρ k)
  exact⟨u,w',.inl (by simp [h2]),S,σ,h3,h4,h5⟩
 ·rename_i t m s x ho
  simp only[ho]
  obtain⟨H1,h1,h⟩:=Option.map_eq_some_iff.1 h
  injection h with h2 h3
  subst h2
  subst h3
  obtain⟨w',h2,h3,h4⟩:=Qj5 (P:=P) (t:=t) hI h1 (hρ m) (hρ s) (hρ x)
  exact⟨undef,w',.inr ⟨by simp [h2],rfl⟩,S,σ,h3,h4,.unk⟩
end
end Go.Ab
