/- A part of the proof: an interpreter on abstract values, proved right for every program; no condition. -/
import Derived.Test.YtiiannaficbjeaaDoorAbHeap
namespace Go.Ab
set_option linter.unusedVariables false
set_option linter.unusedSimpArgs false
set_option linter.unusedSectionVars false
open Go.RowKit
section
variable {S S':Nat→Prop} {σ σ':List Nat} {H H':Heap} {w w':World} {P:Program}
theorem All2.imp {α β:Type} {R R':α→β→Prop} {xs:List α} {ys:List β} (h:All2 R xs ys) (f:∀ x y,R x y→R' x y):All2 R' xs ys:=by
 induction h with
 | nil=>exact .nil
 | cons h _ ih=>exact .cons (f _ _ h) ih
theorem All2.length {α β:Type} {R:α→β→Prop} {xs:List α} {ys:List β} (h:All2 R xs ys):xs.length=ys.length:=by
 induction h with
 | nil=>rfl
 | cons _ _ ih=>simp [ih]
theorem All2.get {α β:Type} {R:α→β→Prop} {xs:List α} {ys:List β} (h:All2 R xs ys) {i:Nat} {x:α} (hi:xs[i]?=some x):∃ y,ys[i]?=some y∧R x y:=by
 induction h generalizing i with
 | nil=>simp at hi
 | cons h _ ih =>
  cases i with
  | zero=>simp at hi;subst hi;exact ⟨_,rfl,h⟩
  | succ i=>simpa using ih (by simpa using hi)
theorem CRel.all2:∀ {cs:List AV} {l:List Value},l.length=cs.length→(∀ i x,cs[i]?=some x→VRel S σ H w x (l.getD i undef))→All2 (VRel S σ H w) cs l
 | [],[],_,_=>.nil
 | c::cs,v::l,hl,h=>.cons (by simpa using h 0 c rfl) (CRel.all2 (by simpa using hl) fun i x hi=>by simpa using h (i+1) x (by simpa using hi))
theorem CRel.list [Globals] {cs:List AV} {vs:Array Value} (h:CRel S σ H w cs vs):All2 (VRel S σ H w) cs vs.toList :=
 CRel.all2 (by simpa using h.1) fun i x hi=>by
  have:=h.2 i x hi
  rw[Array.getD_eq_getD_getElem?] at this
  simpa using this
theorem QsI [Globals] (hI:Inv S σ H w) {x:AV} {v:Value} {y:IV} (h:frz H x=some (y,H')) (hx:VRel S σ H w x v) :
  ∃ S',Inv S' σ H' w∧Tr S σ H w S' σ H' w∧IRel S' w y v:=by
 unfold frz at h
 split at h<;>first | (cases h;done) | skip
 ·injection h with h
  injection h with h1 h2
  subst h1
  subst h2
  cases hx with
  | c hx=>exact ⟨S,hI,Tr.refl _ _ _ _,hx⟩
 ·obtain⟨r,hr,h⟩:=Option.bind_eq_some_iff.1 h
  split at h<;>first | (cases h;done) | skip
  rename_i id off len ext sz _ hle
  injection h with h
  injection h with h1 h2
  subst h1
  subst h2
  obtain⟨b,cur,cap,hb,rfl,hw,hlc,hcm,hoc,h4,h5,h6⟩:=QcR hx hI hr
  obtain⟨fz0,hrow,_⟩:=Qcl hr
  obtain⟨hI',hT⟩:=hI.freeze hrow hb
  refine⟨_,hI',hT,.slice (fun j=>cur.getD (off+j) undef) rfl (fun he=>by cases he) (fun k hk=>by cases hk) hlc hcm (fun j hj=>?_) (fun j x hj=>?_)⟩
  ·simp only[List.length_take,List.length_drop] at hj
   refine⟨_,rfl,.inr rfl, ?_⟩
   rw[QeB,cell_of_row w b _ cur _ _ hw]
   have:off+j<cur.size:=by omega
   simp[Array.getD,this]
  ·have hjl:j<len * sz:=by have:=(List.getElem?_eq_some_iff.1 hj).1;simp at this;omega
   rw[List.getElem?_take_of_lt hjl,List.getElem?_drop] at hj
   exact(h6 _ _ hj).tr hI hT
theorem Qii [Globals]:∀ (xs:List AV) (vs:List Value) (S:Nat→Prop) (H:Heap) (ys:List IV) (H':Heap),Inv S σ H w→frzs H xs=some (ys,H')→All2 (VRel S σ H w) xs vs →
  ∃ S',Inv S' σ H' w∧Tr S σ H w S' σ H' w∧All2 (IRel S' w) ys vs:=by
 intro xs
 induction xs with
 | nil =>
  intro vs S H ys H' hI h hv
  injection h with h
  injection h with h1 h2
  subst h1
  subst h2
  cases hv
  exact⟨S,hI,Tr.refl _ _ _ _,.nil⟩
 | cons x xs ih =>
  intro vs S H ys H' hI h hv
  cases hv with
  | cons hx hv =>
  simp only[frzs] at h
  obtain⟨⟨y,H1⟩,h1,h⟩:=Option.bind_eq_some_iff.1 h
  obtain⟨⟨ys',H2⟩,h2,h⟩:=Option.bind_eq_some_iff.1 h
  injection h with h
  injection h with h3 h4
  simp only at h3 h4 h2
  subst h3
  subst h4
  obtain⟨S1,hI1,hT1,hy⟩:=QsI hI h1 hx
  obtain⟨S2,hI2,hT2,hys⟩:=ih _ S1 H1 ys' H2 hI1 h2 (hv.imp fun a b hab=>hab.tr hI hT1)
  exact⟨S2,hI2,hT1.trans hT2,.cons (hy.tr hI1 hT2) hys⟩
theorem QeL [Globals] {t:TypeId} {b off:Nat} {e:TypeId} {cur:Array Value} {v:Value} (hs:Qb0 P t=some v.cells.size) (hw:w.heap[b]?=some (.cells cur e (0,0)))
  (hle:off+v.cells.size≤cur.size) (h1:∀ u ∈ v.cells.toList,u.oneCell'=true) :
  ∃ l,Qbh cur.toList off v.cells.toList=some l∧(storeVar t ⟨b,off,none⟩ v).run P w=.ok () (w.setRow b l.toArray):=by
 have hst:=run_storeCells_at P b off e v.cells.toList 0 cur w hw (by simpa using hle) h1
 have hp:∃ l,Qbh cur.toList off v.cells.toList=some l:=by
  unfold Qbh
  split
  ·rename_i x hx
   have:v.cells.size=1:=by rw [← Array.length_toList,hx];rfl
   rw[if_pos (by simp;omega)]
   exact⟨_,rfl⟩
  ·rw[if_pos (by simp;omega)]
   exact⟨_,rfl⟩
 obtain⟨l,hl⟩:=hp
 refine⟨l,hl, ?_⟩
 have hs':=run_sizeOf (w:=w) hs
 simp only[Nat.add_zero] at hst
 simp only[storeVar,Sem.run_bind,hs',Result.andThen_ok]
 rw[if_neg (by simp)]
 rw[(QbG hl).2]
 simpa using hst
theorem VRel.cells_one [Globals] {x:AV} {v:Value} (h:VRel S σ H w x v) (hc:∀ y ∈ x.kcells,AV.isCell y=true):∀ u ∈ v.cells.toList,u.oneCell'=true:=by
 intro u hu
 have hk:=h.kcells hc
 obtain⟨i,hi,he⟩:=List.getElem_of_mem hu
 have hlen:i<x.kcells.length:=by have:=hk.1;simp at hi;omega
 have:=hk.2 i _ (List.getElem?_eq_getElem hlen)
 rw[Array.getD_eq_getD_getElem?] at this
 have e:v.cells[i]?=some u:=by rw [← he];simp at hi;simp [hi]
 rw[e] at this
 exact this.oneCell (hc _ (List.getElem_mem hlen))
theorem Q6v [Globals] {α:Type} {R:α→Value→Prop} {cs new cs':List α} {cur vs l:List Value} {off:Nat} (hp:Qbh cs off new=some cs') (hq:Qbh cur off vs=some l) (hlen:new.length=vs.length)
  (hr:∀ i x,cs[i]?=some x→R x (cur.getD i undef)) (hn:∀ i x,new[i]?=some x→R x (vs.getD i undef)):∀ i x,cs'[i]?=some x→R x (l.getD i undef):=by
 intro i x hi
 rw[Qfy hp] at hi
 rw[List.getD_eq_getElem?_getD,Qfy hq]
 by_cases hb:off≤i∧i<off+new.length
 ·rw[if_pos hb] at hi
  rw[if_pos (by omega)]
  have:=hn _ _ hi
  rwa [List.getD_eq_getElem?_getD] at this
 ·rw[if_neg hb] at hi
  rw[if_neg (by omega)]
  have:=hr _ _ hi
  rwa [List.getD_eq_getElem?_getD] at this
theorem Qbf (a:Array Value) (i:Nat):a.toList.getD i undef=a.getD i undef:=by
 rw[List.getD_eq_getElem?_getD,Array.getD_eq_getD_getElem?]
 simp
theorem All2.getD [Globals] {α:Type} {R:α→Value→Prop} {xs:List α} {ys:List Value} (h:All2 R xs ys) (i:Nat) (x:α) (hi:xs[i]?=some x):R x (ys.getD i undef):=by
 obtain⟨y,hy,hr⟩:=h.get hi
 rw[List.getD_eq_getElem?_getD,hy]
 exact hr
theorem QsK [Globals] {cs new l:List AV} {off:Nat} (h:Qbh cs off new=some l) {x:AV} (hx:x ∈ l):x ∈ cs∨x ∈ new:=by
 obtain⟨_,rfl⟩:=QbG h
 simp only[List.append_assoc,List.mem_append] at hx
 rcases hx with hx | hx | hx
 ·exact .inl (List.mem_of_mem_take hx)
 ·exact .inr hx
 ·exact .inl (List.mem_of_mem_drop hx)
theorem Qpt:∀ {xs:List AV} {H:Heap} {r:List IV × Heap},frzs H xs=some r→∀ y ∈ xs,AV.isCell y=true:=by
 intro xs
 induction xs with
 | nil=>intro H r _ y hy;cases hy
 | cons x xs ih =>
  intro H r h y hy
  simp only[frzs] at h
  obtain⟨p,h1,h⟩:=Option.bind_eq_some_iff.1 h
  obtain⟨q,h2,h⟩:=Option.bind_eq_some_iff.1 h
  rcases List.mem_cons.1 hy with rfl | hy
  ·unfold frz at h1
   split at h1<;>first | rfl | cases h1
  ·exact ih h2 y hy
theorem Qzy [Globals] (hI:Inv S σ H w) {t:TypeId} {a x:AV} {va vx:Value} (h:QgU P H t a x=some H') (ha:VRel S σ H w a va) (hx:VRel S σ H w x vx) :
  ∃ S' w',(Instr.storeAt t va vx).run P w=.ok () w'∧Inv S' σ H' w'∧Tr S σ H w S' σ H' w':=by
 unfold QgU at h
 split at h<;>first | (cases h;done) | skip
 rename_i hsz
 split at h<;>first | (cases h;done) | skip
 ·split at h<;>first | (cases h;done) | skip
  rename_i id off _ e cs ho
  split at h<;>first | (cases h;done) | skip
  rename_i hc
  simp only[List.all_eq_true] at hc
  obtain⟨cs',hp,rfl⟩:=Option.map_eq_some_iff.1 h
  cases ha with
  | ptr hs hd =>
  rename_i b
  obtain⟨b',hb,vs,h3,h4,h5,h6⟩:=hI.at_ ho
  rw[hs] at hb
  injection hb with hb
  subst hb
  have hk:=hx.kcells hc
  have hle:=(QbG hp).1
  obtain⟨l,hl,hrun⟩:=QeL (P:=P) (t:=t) (off:=off) (v:=vx) (by rw [hsz,hk.1]) h3 (by have:=hk.1;omega) (hx.cells_one hc)
  have hll:l.length=vs.size:=by rw [QbW hl];simp
  have hsh:∀ (cur:Array Value) (t:TypeId) (fr:Nat × Nat),w.heap[b]?=some (.cells cur t fr)→∃ cur',(w.setRow b l.toArray).heap[b]?=some (.cells cur' t fr)∧cur'.size=cur.size:=by
   intro cur t' fr hw
   rw[h3] at hw
   injection hw with hw
   injection hw with e1 e2 e3
   subst e1
   subst e2
   subst e3
   exact⟨_,setRow_heap w b _ _ _ _ h3,by simp [hll]⟩
  have hn:Tr S σ H w S σ (H.set id (.cells e cs')) (w.setRow b l.toArray)→ORel S σ (H.set id (.cells e cs')) (w.setRow b l.toArray) b (.cells e cs'):=by
   intro hT
   refine⟨l.toArray,setRow_heap w b _ _ _ _ h3,by simp [hll,h4,QbW hp],fun y hy=>?_,fun i y hi=>?_⟩
   ·rcases QsK hp hy with hy | hy
    ·exact h5 y hy
    ·exact hc y hy
   ·have:=Q6v (R:=VRel S σ (H.set id (.cells e cs')) (w.setRow b l.toArray)) hp hl (by simpa using hk.1.symm) (fun i y hi=>by rw [Qbf];exact (h6 i y hi).tr hI hT) (fun i y hi=>by rw [Qbf];exact (hk.2 i y hi).tr hI hT) i y hi
    rw[← Qbf]
    exact this
  obtain⟨hI',hT⟩:=hI.put (w':=w.setRow b l.toArray) (o':=.cells e cs') ho hs rfl rfl rfl rfl (by simp) (fun k hk=>setRow_other w b k _ hk) hsh rfl (fun fz' t' cs2 he=>by cases he) hn
  exact⟨S,_,by simpa [Instr.storeAt,Instr.sureAddr] using hrun,hI',hT⟩
 ·obtain⟨⟨ys,H1⟩,hf,h⟩:=Option.bind_eq_some_iff.1 h
  obtain⟨q,hq,h⟩:=Option.bind_eq_some_iff.1 h
  rename_i id off ext _ _
  split at h<;>first | (cases h;done) | skip
  rename_i hlive
  obtain⟨cs',hp,rfl⟩:=Option.map_eq_some_iff.1 h
  simp only at hq hp hlive
  have hcell:∀ y ∈ x.kcells,AV.isCell y=true:=Qpt hf
  have hk:=hx.kcells hcell
  obtain⟨S1,hI1,hT1,hys⟩:=Qii x.kcells vx.cells.toList S H ys H1 hI hf hk.list
  have ha1:=ha.tr hI hT1
  cases ha1 with
  | eptr hd hh =>
  obtain⟨b,cur,hb,h3,h4,h5,_⟩:=hI1.row hq
  obtain⟨b',hb',rfl⟩:=(Qmw hq hh).2 (QkW hq)
  rw[hb] at hb'
  injection hb' with hb'
  subst hb'
  have hle:=(QbG hp).1
  have hylen:=hys.length
  obtain⟨l,hl,hrun⟩:=QeL (P:=P) (t:=t) (off:=off) (v:=vx) (by rw [hsz,hk.1]) h3 (by simp at hylen;omega) (hx.cells_one hcell)
  have hll:l.length=cur.size:=by rw [QbW hl];simp
  have hsh:∀ (cur:Array Value) (t:TypeId) (fr:Nat × Nat),w.heap[b]?=some (.cells cur t fr)→∃ cur',(w.setRow b l.toArray).heap[b]?=some (.cells cur' t fr)∧cur'.size=cur.size:=by
   intro cur' t' fr hw
   rw[h3] at hw
   injection hw with hw
   injection hw with e1 e2 e3
   subst e1
   subst e2
   subst e3
   exact⟨_,setRow_heap w b _ _ _ _ h3,by simp [hll]⟩
  have hn:Tr S1 σ H1 w S1 σ (H1.set id (.row false q.1 cs')) (w.setRow b l.toArray)→ORel S1 σ (H1.set id (.row false q.1 cs')) (w.setRow b l.toArray) b (.row false q.1 cs'):=by
   intro hT
   refine⟨l.toArray,setRow_heap w b _ _ _ _ h3,by simp [hll,QbW hp];exact h4,fun i y hi=>?_⟩
   have:=Q6v (R:=IRel S1 (w.setRow b l.toArray)) hp hl (by simpa using hylen) (fun i y hi=>by rw [Qbf];exact (h5 i y hi).tr hI1 hT) (fun i y hi=>(hys.getD i y hi).tr hI1 hT) i y hi
   rw[← Qbf]
   exact this
  obtain⟨hI',hT⟩:=hI1.put (w':=w.setRow b l.toArray) (o':=.row false q.1 cs') (QdY hq hlive).1 hb rfl rfl rfl rfl (by simp) (fun k hk=>setRow_other w b k _ hk) hsh rfl
   (fun fz' t' cs2 he=>by injection he with e0 e1 e2;subst e1;subst e2;exact ⟨false,q.2,rfl,by rw [QbW hp];exact Nat.le_refl _⟩) hn
  exact⟨S1,_,by simpa [Instr.storeAt,Instr.sureAddr] using hrun,hI',hT1.trans hT⟩
end
end Go.Ab
