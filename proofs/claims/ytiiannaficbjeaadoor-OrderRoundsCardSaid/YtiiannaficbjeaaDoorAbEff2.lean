/- A part of the proof: an interpreter on abstract values, proved right for every program; no condition. -/
import Derived.Test.YtiiannaficbjeaaDoorAbEff
namespace Go.Ab
set_option linter.unusedVariables false
set_option linter.unusedSimpArgs false
set_option linter.unusedSectionVars false
open Go.RowKit
section
variable {S S':Nat→Prop} {σ σ':List Nat} {H H':Heap} {w w':World} {P:Program}
theorem Qd3 {n:Nat} (hl:σ.length=H.length):(σ++[n])[H.length]?=some n:=by rw [← hl];simp
theorem QfA {o:AObj}:QaR (H++[o]) H.length=some o.tag:=by simp [QaR]
theorem Q89 [Globals] (hI:Inv S σ H w) {e:TypeId} {x av:AV} {v:Value} (h:boxA H e x=some (av,H')) (hx:VRel S σ H w x v) :
  ∃ u,(newVar e v).run P w=.ok u (w.alloc (.cells v.cells e))∧Inv S (σ++[w.heap.size]) H' (w.alloc (.cells v.cells e)) ∧
   Tr S σ H w S (σ++[w.heap.size]) H' (w.alloc (.cells v.cells e))∧VRel S (σ++[w.heap.size]) H' (w.alloc (.cells v.cells e)) av (.pointer (some u)):=by
 unfold boxA at h
 split at h<;>first | (cases h;done) | skip
 rename_i hc
 simp only[List.all_eq_true] at hc
 injection h with h
 injection h with h1 h2
 subst h1
 subst h2
 have hk:=hx.kcells hc
 have hold:∀ k,k<w.heap.size→(w.alloc (.cells v.cells e)).heap[k]?=w.heap[k]?:=fun k hk=>Below.heap_alloc w _ k hk
 have key:=hI.grow (.cells e x.kcells) (.cells v.cells e)
 have hn:ORel S (σ++[w.heap.size]) (H++[.cells e x.kcells]) (w.alloc (.cells v.cells e)) w.heap.size (.cells e x.kcells):=by
  refine⟨v.cells,heap_alloc_new w _,hk.1,hc,fun i y hi=>?_⟩
  exact VRel.grow hI (hk.2 i y hi) _ _
 obtain⟨hI',hT⟩:=key hn
 exact⟨⟨w.heap.size,0,none⟩,by simp [newVar,newRow],hI',hT,.ptr (Qd3 hI.len) QfA⟩
theorem QyA [Globals] (hI:Inv S σ H w) {e:TypeId} {av:AV} (h:Qdt P H e=some (av,H')) :
  ∃ u w',(Instr.alloc e true (.tuple #[])).run P w=.ok u w'∧∃ σ',Inv S σ' H' w'∧Tr S σ H w S σ' H' w'∧VRel S σ' H' w' av u:=by
 unfold Qdt at h
 obtain⟨z,hz,h⟩:=Option.map_eq_some_iff.1 h
 injection h with h1 h2
 subst h1
 subst h2
 obtain⟨i,zv,hi,hzv,hzr,_⟩:=Qce (S:=S) (σ:=σ) (H:=H) (w:=w) hz
 have hn:ORel S (σ++[w.heap.size]) (H++[.cells e (z.map .c)]) (w.alloc (.cells zv.cells e)) w.heap.size (.cells e (z.map .c)) :=
  ⟨zv.cells,heap_alloc_new w _,hzr.1,fun x hx=>by obtain ⟨y,_,rfl⟩:=List.mem_map.1 hx;rfl,fun i y hi=>VRel.grow hI (hzr.2 i y hi) _ _⟩
 obtain⟨hI',hT⟩:=hI.grow (.cells e (z.map .c)) (.cells zv.cells e) hn
 refine⟨.pointer (some ⟨w.heap.size,0,none⟩),w.alloc (.cells zv.cells e), ?_,σ++[w.heap.size],hI',hT,.ptr (Qd3 hI.len) QfA⟩
 simp[Instr.alloc,zeroValue,typeInfo,hi,hzv,newVar,newRow]
theorem QAK {α:Type} (z:List α):∀ (n j:Nat),j<n * z.length→((List.replicate n z).flatten)[j]?=z[j % z.length]?:=by
 intro n
 induction n with
 | zero=>intro j hj;simp at hj
 | succ n ih =>
  intro j hj
  rw[List.replicate_succ,List.flatten_cons]
  rw[Nat.succ_mul] at hj
  by_cases h:j<z.length
  ·rw[List.getElem?_append_left h,Nat.mod_eq_of_lt h]
  ·rw[List.getElem?_append_right (by omega),ih (j-z.length) (by omega),show j % z.length=(j-z.length) % z.length from Nat.mod_eq_sub_mod (by omega)]
theorem QqH {α:Type} (z:List α) (n:Nat):((List.replicate n z).flatten).length=n * z.length:=by simp
theorem QjQ [Globals] {t:TypeId} {z:List IV} {v:Value} (hlen:z.length=v.cells.size) (hr:∀ (k:Nat) (x:IV),z[k]?=some x→IRel S w x (v.cells.getD k undef)) (n:Nat) :
  ∀ (i:Nat) (x:IV),((List.replicate n z).flatten)[i]?=some x→IRel S w x ((madeCells v.cells (n * z.length)).getD i undef):=by
 intro i x hi
 have hlt:i<n * z.length:=by have:=(List.getElem?_eq_some_iff.1 hi).1;rwa [QqH] at this
 rw[QAK z n i hlt] at hi
 have h0:0<z.length:=by
  rcases Nat.eq_zero_or_pos z.length with h | h
  ·rw[h] at hlt;simp at hlt
  ·exact h
 have hm:i % z.length<z.length:=Nat.mod_lt _ h0
 have:=hr _ _ hi
 have e:(madeCells v.cells (n * z.length)).getD i undef=v.cells.getD (i % z.length) undef:=by
  have h1:i<(madeCells v.cells (n * z.length)).size:=by rw [size_madeCells];exact hlt
  have h2:i % z.length<v.cells.size:=by omega
  rw[Array.getD_eq_getD_getElem?,Array.getD_eq_getD_getElem?,Array.getElem?_eq_getElem h1,Array.getElem?_eq_getElem h2]
  have h3:v.cells[i % z.length]! = v.cells[i % z.length]:=getElem!_pos v.cells (i % z.length) h2
  simp[madeCells,← hlen,h3]
 rw[e]
 exact this
theorem Qg7 {sl:Option Nat} {s:Nat} (h:QbV H sl=some s):H[s]?=some .slot:=by
 unfold QbV at h
 split at h
 ·split at h
  ·rename_i h2;injection h with h;subst h;exact h2
  ·cases h
 ·cases h
theorem QlK [Globals] (hI:Inv S σ H w) {sl:Option Nat} {t:TypeId} {l c av:AV} {vl vc:Value} (h:QaU P H sl t l c=some (av,H')) (hl:VRel S σ H w l vl) (hc:VRel S σ H w c vc) :
  ∃ u w',(Instr.makeSlice t vl vc).run P w=.ok u w'∧∃ σ',Inv S σ' H' w'∧Tr S σ H w S σ' H' w'∧VRel S σ' H' w' av u:=by
 unfold QaU at h
 split at h<;>first | (cases h;done) | skip
 rename_i l c
 cases hl with
 | c hl =>
 cases hc with
 | c hc =>
 cases hl;cases hc
 obtain⟨e,he,h⟩:=Option.bind_eq_some_iff.1 h
 obtain⟨sz,hsz,h⟩:=Option.bind_eq_some_iff.1 h
 obtain⟨by_,hby,h⟩:=Option.bind_eq_some_iff.1 h
 obtain⟨z,hz,h⟩:=Option.bind_eq_some_iff.1 h
 split at h<;>first | (cases h;done) | skip
 rename_i hb
 have hfin:=h
 obtain⟨b1,rfl,b3,b4,b5,b6⟩:=hb
 obtain⟨i,zv,hi,hzv,_,hzl,hzr⟩:=Qce (S:=S) (σ:=σ) (H:=H) (w:=w) hz
 have hs:i.size=sz:=by have:=hsz;simp [Qb0,hi] at this;exact this
 have hby':i.bytes=by_:=by have:=hby;simp [Qux,hi] at this;exact this
 subst hs
 subst hby'
 unfold roomBytes at b3 b4
 have hbb:(i.bytes:Int) * l≤281474976710656:=by
  have e1:l=(l.toNat:Int):=by omega
  rw[e1,← Int.natCast_mul,Nat.mul_comm]
  omega
 have hrun:=run_make (P:=P) w t e i zv (Qdl he) hi hzv .i64 .i64 l l b1 (Int.le_refl _) hbb (by omega)
 have hn:∀ (σ':List Nat) (H':Heap),ORel S σ' H' (w.alloc (.cells (madeCells zv.cells (l.toNat * i.size)) e)) w.heap.size (.row false e ((List.replicate l.toNat z).flatten)):=by
  intro σ' H'
  refine⟨_,heap_alloc_new w _,by simp [size_madeCells,b5],fun k x hk=>?_⟩
  have:=QjQ (t:=t) hzl hzr l.toNat k x hk
  rw[b5] at this
  exact this.tr hI (hI.growTr .dead _)
 cases hslot:QbV H sl with
 | some s =>
  simp only[hslot,Option.some.injEq,Prod.mk.injEq] at hfin
  obtain⟨h1,h2⟩:=hfin
  subst h1
  subst h2
  have hsi:H[s]?=some .slot:=Qg7 hslot
  have hsl:=(List.getElem?_eq_some_iff.1 hsi).1
  obtain⟨hI',hT⟩:=hI.fill hsi (.cells (madeCells zv.cells (l.toNat * i.size)) e) (fun _=>hn _ _)
  have hget:(H.set s (.row false e ((List.replicate l.toNat z).flatten)))[s]?=some (.row false e ((List.replicate l.toNat z).flatten)):=by rw [Qc1 hsl,if_pos rfl]
  refine⟨_,_,hrun,_,hI',hT,.hsl (by unfold QaR;rw [hget];rfl) fun fz' t' cs hcs=>?_⟩
  rw[hget] at hcs
  injection hcs with hcs
  injection hcs with e0 e1 e2
  subst e2
  refine⟨by simp [b5],fun _=>⟨w.heap.size,_,e,by rw [Qc1 (by rw [hI.len];exact hsl),if_pos rfl],rfl,heap_alloc_new w _,Nat.le_refl _,by simp [maxLen];omega,by simp [size_madeCells]⟩⟩
 | none =>
  simp only[hslot,Option.some.injEq,Prod.mk.injEq] at hfin
  obtain⟨h1,h2⟩:=hfin
  subst h1
  subst h2
  obtain⟨hI',hT⟩:=hI.grow _ (.cells (madeCells zv.cells (l.toNat * i.size)) e) (hn _ _)
  refine⟨_,_,hrun,_,hI',hT,.hsl QfA fun fz' t' cs hcs=>?_⟩
  rw[List.getElem?_append_right (Nat.le_refl _),Nat.sub_self] at hcs
  simp at hcs
  obtain⟨rfl,rfl,rfl⟩:=hcs
  refine⟨by simp [b5],fun _=>⟨w.heap.size,_,e,Qd3 hI.len,rfl,heap_alloc_new w _,Nat.le_refl _,by simp [maxLen];omega,by simp [size_madeCells]⟩⟩
theorem Qvq [Globals] (hI:Inv S σ H w) {sl:Option Nat} {e:TypeId} {av:AV} (h:Qel P H sl e=some (av,H')) :
  ∃ u w',(Instr.alloc e true (.tuple #[])).run P w=.ok u w'∧∃ σ',Inv S σ' H' w'∧Tr S σ H w S σ' H' w'∧VRel S σ' H' w' av u:=by
 unfold Qel at h
 cases hslot:QbV H sl with
 | none =>
  simp only[hslot] at h
  exact QyA hI h
 | some s =>
  simp only[hslot] at h
  obtain⟨z,hz,h⟩:=Option.map_eq_some_iff.1 h
  injection h with h1 h2
  subst h1
  subst h2
  obtain⟨i,zv,hi,hzv,hzr,_⟩:=Qce (S:=S) (σ:=σ) (H:=H) (w:=w) hz
  have hn:∀ (σ':List Nat) (H':Heap),ORel S σ' H' (w.alloc (.cells zv.cells e)) w.heap.size (.cells e (z.map .c)):=by
   intro σ' H'
   refine⟨zv.cells,heap_alloc_new w _,hzr.1,fun x hx=>by obtain ⟨y,_,rfl⟩:=List.mem_map.1 hx;rfl,fun i y hi=>?_⟩
   have hr:=hzr.2 i y hi
   obtain⟨x,_,rfl⟩:=List.mem_map.1 (List.mem_of_getElem? hi)
   cases hr with
   | c hx=>exact .c (hx.tr hI (hI.growTr .dead _))
  have hsi:H[s]?=some .slot:=Qg7 hslot
  have hsl:=(List.getElem?_eq_some_iff.1 hsi).1
  obtain⟨hI',hT⟩:=hI.fillO (fun _ _ h=>by cases h) hsi (.cells zv.cells e) (fun _=>hn _ _)
  have hget:(H.set s (.cells e (z.map .c)))[s]?=some (.cells e (z.map .c)):=by rw [Qc1 hsl,if_pos rfl]
  refine⟨.pointer (some ⟨w.heap.size,0,none⟩),w.alloc (.cells zv.cells e), ?_,_,hI',hT,.ptr (by rw [Qc1 (by rw [hI.len];exact hsl),if_pos rfl]) (by unfold QaR;rw [hget];rfl)⟩
  simp[Instr.alloc,zeroValue,typeInfo,hi,hzv,newVar,newRow]
theorem QmF [Globals]:∀ (ps:List (Nat × AV)) (qs:List (Nat × Value)) (S:Nat→Prop) (H:Heap) (ys:List (Nat × List IV)) (H':Heap),Inv S σ H w→Qec H ps=some (ys,H') →
  All2 (fun p q=>p.1=q.1∧VRel S σ H w p.2 q.2) ps qs →
  ∃ S',Inv S' σ H' w∧Tr S σ H w S' σ H' w∧All2 (fun (p:Nat × List IV) (q:Nat × Value)=>p.1=q.1∧q.2.cells.size=p.2.length∧∀ i x,p.2[i]?=some x→IRel S' w x (q.2.cells.getD i undef)) ys qs:=by
 intro ps
 induction ps with
 | nil =>
  intro qs S H ys H' hI h hv
  injection h with h
  injection h with h1 h2
  subst h1
  subst h2
  cases hv
  exact⟨S,hI,Tr.refl _ _ _ _,.nil⟩
 | cons p ps ih =>
  intro qs S H ys H' hI h hv
  cases hv with
  | cons hpq hv =>
  rename_i q qs
  simp only[Qec] at h
  obtain⟨⟨y,H1⟩,h1,h⟩:=Option.bind_eq_some_iff.1 h
  obtain⟨⟨ys',H2⟩,h2,h⟩:=Option.bind_eq_some_iff.1 h
  injection h with h
  injection h with h3 h4
  simp only at h3 h4 h2
  subst h3
  subst h4
  have hk:=hpq.2.kcells (Qpt h1)
  obtain⟨S1,hI1,hT1,hy⟩:=Qii _ _ S H y H1 hI h1 hk.list
  obtain⟨S2,hI2,hT2,hys⟩:=ih _ S1 H1 ys' H2 hI1 h2 (hv.imp fun a b hab=>⟨hab.1,hab.2.tr hI hT1⟩)
  refine⟨S2,hI2,hT1.trans hT2,.cons ⟨hpq.1,by have:=hy.length;simp at this;exact this.symm,fun i x hi=>?_⟩ hys⟩
  have:=hy.getD i x hi
  rw[Qbf] at this
  exact this.tr hI1 hT2
theorem QEm [Globals] {pa:Nat→Option (Nat × Nat)}:∀ (ps:List (Nat × List IV)) (qs:List (Nat × Value)) (cs cs':List IV) (va:Array Value),
  QhG pa cs ps=some cs'→All2 (fun (p:Nat × List IV) (q:Nat × Value)=>p.1=q.1∧q.2.cells.size=p.2.length∧∀ i x,p.2[i]?=some x→IRel S w x (q.2.cells.getD i undef)) ps qs →
  va.size=cs.length→(∀ i x,cs[i]?=some x→IRel S w x (va.getD i undef))→∃ va',Instr.fill pa va qs=some va'∧va'.size=cs'.length∧∀ i x,cs'[i]?=some x→IRel S w x (va'.getD i undef):=by
 intro ps qs cs cs' va h hq hs hr
 have hq':All2 (fun (p:Nat × List AV) (q:Nat × Value)=>p.1=q.1∧CRel S [] [] w p.2 q.2.cells) (ps.map fun p=>(p.1,p.2.map .c)) qs:=by
  clear h
  induction hq with
  | nil=>exact .nil
  | cons hpq _ ih =>
   refine .cons ⟨hpq.1,by simp [hpq.2.1],fun i x hi=>?_⟩ ih
   simp only[List.getElem?_map] at hi
   obtain⟨y,hy,rfl⟩:=Option.map_eq_some_iff.1 hi
   exact .c (hpq.2.2 i y hy)
 have hm:∀ (ps:List (Nat × List IV)) (cs:List IV),QhG pa (cs.map AV.c) (ps.map fun p=>(p.1,p.2.map .c))=(QhG pa cs ps).map (·.map AV.c):=by
  intro ps
  induction ps with
  | nil=>intro cs;rfl
  | cons p ps ih =>
   intro cs
   simp only[List.map_cons,QhG]
   cases pa p.1 with
   | none=>rfl
   | some r =>
    obtain⟨off,size⟩:=r
    simp only[List.length_map]
    split
    ·have hp:Qbh (cs.map AV.c) off (p.2.map .c)=(Qbh cs off p.2).map (·.map AV.c):=by
      unfold Qbh
      rcases p.2 with _ | ⟨y,_ | ⟨y',l⟩⟩<;>simp<;>split<;>simp [List.map_take,List.map_drop,List.map_set]
     rw[hp]
     cases Qbh cs off p.2 with
     | none=>rfl
     | some c1=>simpa using ih c1
    ·rfl
 obtain⟨va',h1,h2⟩:=Qp4 (S:=S) (σ:=[]) (H:=[]) (w:=w) (pa:=pa) (pc:=pa) (fun _ _ h=>h) _ _ _ _ _ (by rw [hm,h];rfl) hq' ⟨by simpa using hs,fun i x hi=>by
  rw[List.getElem?_map] at hi
  obtain⟨y,hy,rfl⟩:=Option.map_eq_some_iff.1 hi
  exact .c (hr i y hy)⟩
 refine⟨va',h1,by simpa using h2.1,fun i x hi=>?_⟩
 have:=h2.2 i (.c x) (by rw [List.getElem?_map,hi];rfl)
 cases this with
 | c h=>exact h
theorem Q9u [Globals] {α:Type} {pa:Nat→Option (Nat × Nat)}:∀ (ps:List (Nat × List α)) (cs cs':List α),QhG pa cs ps=some cs'→cs'.length=cs.length:=by
 intro ps
 induction ps with
 | nil=>intro cs cs' h;injection h with h;rw [h]
 | cons p ps ih =>
  intro cs cs' h
  simp only[QhG] at h
  split at h<;>first | (cases h;done) | skip
  split at h<;>first | (cases h;done) | skip
  obtain⟨c1,hc1,h⟩:=Option.bind_eq_some_iff.1 h
  rw[ih c1 cs' h,QbW hc1]
theorem Qj4 [Globals] (hI:Inv S σ H w) {t:TypeId} {len:Nat} {ps:List (Nat × AV)} {qs:Array (Nat × Value)} {av:AV} (h:QaI P H t len ps=some (av,H'))
  (hq:All2 (fun p q=>p.1=q.1∧VRel S σ H w p.2 q.2) ps qs.toList) :
  ∃ u w',(Instr.buildSlice t len qs).run P w=.ok u w'∧∃ S' σ',Inv S' σ' H' w'∧Tr S σ H w S' σ' H' w'∧VRel S' σ' H' w' av u:=by
 unfold QaI at h
 obtain⟨e,he,h⟩:=Option.bind_eq_some_iff.1 h
 obtain⟨sz,hsz,h⟩:=Option.bind_eq_some_iff.1 h
 obtain⟨z,hz,h⟩:=Option.bind_eq_some_iff.1 h
 split at h<;>first | (cases h;done) | skip
 rename_i hb
 obtain⟨b1,b2,b3,b4⟩:=hb
 obtain⟨⟨ys,H1⟩,hf,h⟩:=Option.bind_eq_some_iff.1 h
 obtain⟨cs,hcs,h⟩:=Option.map_eq_some_iff.1 h
 injection h with h1 h2
 simp only at h1 h2 hcs
 subst h1
 subst h2
 obtain⟨S1,hI1,hT1,hys⟩:=QmF ps qs.toList S H ys H1 hI hf hq
 obtain⟨i,zv,hi,hzv,_,hzl,hzr⟩:=Qce (S:=S1) (σ:=σ) (H:=H1) (w:=w) hz
 have hs:i.size=sz:=by have:=hsz;simp [Qb0,hi] at this;exact this
 subst hs
 have hlen:cs.length=len * i.size:=by rw [Q9u _ _ _ hcs];simp [b2]
 obtain⟨va,hva,hvs,hvr⟩:=QEm (S:=S1) (w:=w) ys qs.toList _ cs (madeCells zv.cells (len * i.size)) hcs hys (by simp [size_madeCells,b2]) (by
  intro k x hk
  have:=QjQ (t:=t) hzl hzr len k x hk
  rwa [b2] at this)
 have hn:ORel S1 (σ++[w.heap.size]) (H1++[.row false e cs]) (w.alloc (.cells va e)) w.heap.size (.row false e cs) :=
  ⟨va,heap_alloc_new w _,by omega,fun k x hk=>(hvr k x hk).tr hI1 (hI1.growTr .dead _)⟩
 obtain⟨hI',hT⟩:=hI1.grow _ (.cells va e) hn
 refine⟨.slice (some ⟨w.heap.size,0,none⟩) len len,_, ?_,S1,_,hI',hT1.trans hT,.hsl QfA fun fz' t' cs' hcs'=>?_⟩
 ·have hz':¬ (16777216<len * i.size):=by omega
  have ev:Instr.fill (fun j=>some (j * i.size,i.size)) ((Array.range (len * i.size)).map (zv.cells[· % zv.cells.size]!)) qs.toList=some va:=hva
  by_cases h0:len * i.size=0
  ·have hl0:len=0:=by
    rcases Nat.mul_eq_zero.1 h0 with h | h
    ·exact h
    ·omega
   subst hl0
   have ev0:Instr.fill (fun j=>some (j * i.size,i.size)) #[] qs.toList=some va:=by
    rw[h0] at ev
    simpa [Array.range_zero'] using ev
   simp[Instr.buildSlice,run_underlying (Qdl he),sizeOf,typeInfo,hi,newRow,ev0,Array.range_zero']
  ·have h0':¬ (len=0∨i.size=0):=fun h=>h0 (Nat.mul_eq_zero.2 h)
   simp[Instr.buildSlice,run_underlying (Qdl he),sizeOf,typeInfo,zeroValue,hi,hzv,h0',hz',newRow,ev]
   intro h;exact absurd h h0
 ·rw[List.getElem?_append_right (Nat.le_refl _),Nat.sub_self] at hcs'
  simp at hcs'
  obtain⟨rfl,rfl,rfl⟩:=hcs'
  refine⟨by omega,fun _=>⟨w.heap.size,_,e,Qd3 hI1.len,rfl,heap_alloc_new w _,Nat.le_refl _,by simp [maxLen];omega,by omega⟩⟩
end
end Go.Ab
