/- A part of the proof: an interpreter on abstract values, proved right for every program; no condition. -/
import Derived.Test.YtiiannaficbjeaaDoorAbSound3
namespace Go.Ab
set_option linter.unusedVariables false
set_option linter.unusedSimpArgs false
set_option linter.unusedSectionVars false
open Go.RowKit
section
variable {S S' S'':Nat→Prop} {σ σ' σ'':List Nat} {H H' H'':Heap} {w w' w'':World} {P:Program}
theorem Qzb {t:TypeId} {v u:Value} (h:(Instr.loadAt t v).run P w=.ok u w):∃ ad,v=.pointer (some ad)∧(loadVar t ad).run P w=.ok u w:=by
 cases v with
 | pointer a =>
  cases a with
  | none=>simp [Instr.loadAt,Instr.sureAddr] at h
  | some ad=>exact ⟨ad,rfl,by simpa [Instr.loadAt,Instr.sureAddr] using h⟩
 | _=>simp [Instr.loadAt,Instr.sureAddr] at h
def resV (tmps:Array Value) (x:ResultVar):Sem Value :=
 match x with
 | .tmp t=>pure (tmps.getD t undef)
 | .cell a t=>do loadVar t (← asAddr (tmps.getD a undef))
theorem QmQ [Globals] (hI:Inv S σ H w) {F:Fr} {tmps:Array Value} (hF:FRel S σ H w F tmps):∀ (rs:List ResultVar) (vs:List AV),Qcu P F H rs=some vs →
  ∃ us,(rs.mapM (resV tmps)).run P w=.ok us w∧All2 (VRel S σ H w) vs us:=by
 have hget:∀ t,VRel S σ H w (F.get t) (tmps.getD t undef):=hF.2
 intro rs
 induction rs with
 | nil =>
  intro vs h
  injection h with h
  subst h
  exact⟨[],by simp,.nil⟩
 | cons r rs ih =>
  intro vs h
  simp only[Qcu] at h
  obtain⟨v,hv,h⟩:=Option.bind_eq_some_iff.1 h
  obtain⟨vs',hvs,rfl⟩:=Option.map_eq_some_iff.1 h
  obtain⟨us,h1,h2⟩:=ih vs' hvs
  cases r with
  | tmp t =>
   injection hv with hv
   subst hv
   refine⟨tmps.getD t undef::us, ?_,.cons (hget t) h2⟩
   rw[List.mapM_cons]
   have e:(resV tmps (.tmp t)).run P w=.ok (tmps.getD t undef) w:=rfl
   simp only[Sem.run_bind,Sem.run_pure,Result.andThen_ok,e,h1]
  | cell a t =>
   obtain⟨u,h3,h4⟩:=QkU (P:=P) hI hv (hget a)
   obtain⟨ad,h5,h6⟩:=Qzb h3
   refine⟨u::us, ?_,.cons h4 h2⟩
   rw[List.mapM_cons]
   have e:(resV tmps (.cell a t)).run P w=.ok u w:=by
    show (do loadVar t (← asAddr (tmps.getD a undef))).run P w=.ok u w
    rw[h5]
    simp only[Sem.run_bind]
    exact h6
   simp only[Sem.run_bind,Sem.run_pure,Result.andThen_ok,e,h1]
theorem QqO [Globals] (hI:Inv S σ H w) {F:Fr} {tmps:Array Value} (hF:FRel S σ H w F tmps) {fn:Func} {v:AV} (h:QdQ P fn F H=some v) :
  ∃ u,(results fn tmps).run P w=.ok u w∧VRel S σ H w v u:=by
 unfold QdQ at h
 obtain⟨vs,hvs,h⟩:=Option.map_eq_some_iff.1 h
 obtain⟨us,h1,h2⟩:=QmQ (P:=P) hI hF _ vs hvs
 have hrun:(results fn tmps).run P w=.ok (if h:us.toArray.size=1 then us.toArray[0] else .tuple us.toArray) w:=by
  have e:results fn tmps=(do let vs ← fn.results.mapM (resV tmps);pure (if h:vs.size=1 then vs[0] else .tuple vs)):=rfl
  rw[e,Array.mapM_eq_mapM_toList]
  simp only[Sem.run_bind,Sem.run_map,Sem.run_pure,h1,Result.andThen_ok]
 refine⟨_,hrun, ?_⟩
 have hl:=h2.length
 split at h
 ·rename_i v'
  subst h
  cases h2 with
  | cons h3 h4 =>
   cases h4
   simpa using h3
 ·rename_i hne
  subst h
  have:us.length≠1:=by
   intro he
   rw[he] at hl
   obtain⟨x,hx⟩:=List.length_eq_one_iff.1 hl
   exact hne x hx
  rw[dif_neg (by simpa using this)]
  refine .tup (by simp [hl]) fun i x hi=>?_
  have:=h2.getD i x hi
  rw[List.getD_eq_getElem?_getD] at this
  rw[Array.getD_eq_getD_getElem?]
  simpa using this
theorem QAH:∀ (xs:List AV) (vs:List Value) (i:Nat) (F:Fr) (tmps:Array Value),All2 (VRel S σ H w) xs vs→FRel S σ H w F tmps →
  ∃ tmps':Array Value,FRel S σ H w (Qao F i xs) tmps'∧tmps'.size=tmps.size∧∀ k,tmps'.getD k undef=if i≤k∧k<i+vs.length∧k<tmps.size then vs.getD (k-i) undef else tmps.getD k undef:=by
 intro xs
 induction xs with
 | nil =>
  intro vs i F tmps ha hF
  cases ha
  exact⟨tmps,hF,rfl,fun k=>by rw [if_neg (by simp;omega)]⟩
 | cons x xs ih =>
  intro vs i F tmps ha hF
  cases ha with
  | cons hx ha =>
  rename_i v vs
  obtain⟨t',h1,h2,h3⟩:=ih vs (i+1) (F.set i x) (tmps.setIfInBounds i v) ha (hF.set hx i)
  refine⟨t',h1,by simpa using h2,fun k=>?_⟩
  rw[h3]
  simp only[Array.size_setIfInBounds,List.length_cons]
  by_cases hk:i+1≤k∧k<i+1+vs.length∧k<tmps.size
  ·rw[if_pos hk,if_pos ⟨by omega,by omega,hk.2.2⟩,show k-i=(k-(i+1))+1 by omega,List.getD_cons_succ]
  ·rw[if_neg hk,Array.getD_eq_getD_getElem?,Array.getElem?_setIfInBounds]
   by_cases e:i=k
   ·subst e
    rw[if_pos rfl]
    by_cases hlt:i<tmps.size
    ·rw[if_pos hlt,if_pos ⟨Nat.le_refl _,by omega,hlt⟩]
     simp
    ·rw[if_neg hlt,if_neg (by rintro ⟨_,_,h⟩;exact hlt h),Array.getD_eq_getD_getElem?,Array.getElem?_eq_none (by omega)]
   ·rw[if_neg e,if_neg (by rintro ⟨a,b,c⟩;exact hk ⟨by omega,by omega,c⟩),Array.getD_eq_getD_getElem?]
theorem QAr {args:List AV} {vs:Array Value} (h:All2 (VRel S σ H w) args vs.toList) (n:Nat) :
  FRel S σ H w (Qst n args) (vs++Array.replicate (n-vs.size) undef):=by
 have hl:=h.length
 simp only[Array.length_toList] at hl
 have h0:FRel S σ H w ⟨args.length+(n-args.length),PT.full (Nat.log2 (args.length+(n-args.length))+1)⟩ (Array.replicate (args.length+(n-args.length)) undef) :=
  ⟨by simp,fun i=>by rw [show (Fr.get ⟨args.length+(n-args.length),PT.full (Nat.log2 (args.length+(n-args.length))+1)⟩ i)=.unk from PT.full_get _ _];exact .unk⟩
 obtain⟨t',h1,h2,h3⟩:=QAH args vs.toList 0 _ _ h h0
 refine⟨?_,fun i=>?_⟩
 ·rw[Qst,h1.1,h2]
  simp[hl]
 ·have:=h1.2 i
  rw[h3] at this
  have e:(vs++Array.replicate (n-vs.size) undef).getD i undef=if 0≤i∧i<0+vs.toList.length∧i<(Array.replicate (args.length+(n-args.length)) undef:Array Value).size then vs.toList.getD (i-0) undef else (Array.replicate (args.length+(n-args.length)) undef:Array Value).getD i undef:=by
   simp only[Array.length_toList,Array.size_replicate,Nat.zero_add,Nat.sub_zero]
   by_cases hi:i<vs.size
   ·rw[if_pos ⟨by omega,hi,by omega⟩,Qbf,Array.getD_eq_getD_getElem?,Array.getElem?_append_left hi,Array.getD_eq_getD_getElem?]
   ·rw[if_neg (by omega),Array.getD_eq_getD_getElem?,Array.getElem?_append_right (by omega),Array.getD_eq_getD_getElem?]
    simp only[Array.getElem?_replicate]
    split<;>split<;>rfl
  rw[e]
  exact this
theorem VRel.out [Globals] {r:Nat} {o:Obj} (hI:Inv S σ H w) (hS:¬ S r) (ho:¬ Qdq σ H r) {x:AV} {v:Value} (h:VRel S σ H w x v):VRel S σ H (w.putObj r o) x v:=by
 have hi:∀ (x:IV) (v:Value),IRel S w x v→IRel S (w.putObj r o) x v:=fun x v h=>h.mono (fun _ h=>h) fun b hb=>World.putObj_heap_other fun e=>hS (e ▸ hb)
 induction h with
 | c h=>exact .c (hi _ _ h)
 | ptr hs hd=>exact .ptr hs hd
 | eptr hd h=>exact .eptr hd h
 | hsl hd h =>
  refine .hsl hd fun fz t cs hc=>?_
  obtain⟨h1,h2⟩:=h fz t cs hc
  refine⟨h1,fun he=>?_⟩
  obtain⟨b,cur,e,hb,ha,hw,hrest⟩:=h2 he
  refine⟨b,cur,e,hb,ha, ?_,hrest⟩
  rw[World.putObj_heap_other]
  ·exact hw
  ·intro e
   subst e
   cases fz with
   | true=>exact hS (hI.fz _ _ _ _ hb hc)
   | false=>exact ho ⟨_,_,hb,hc,rfl⟩
 | cw hd h =>
  refine .cw hd fun fz t cs hc=>?_
  obtain⟨h1,h2⟩:=h fz t cs hc
  refine⟨h1,fun he=>?_⟩
  obtain⟨b,cur,e,cap,hb,hw,hrest⟩:=h2 he
  refine⟨b,cur,e,cap,hb, ?_,hrest⟩
  rw[World.putObj_heap_other]
  ·exact hw
  ·intro e
   subst e
   cases fz with
   | true=>exact hS (hI.fz _ _ _ _ hb hc)
   | false=>exact ho ⟨_,_,hb,hc,rfl⟩
 | hmap hs hd=>exact .hmap hs hd
 | yld hs hd=>exact .yld hs hd
 | clo h1 h2 _ _ ih1 ih2=>exact .clo h1 h2 ih1 ih2
 | agg h1 h2 _ ih=>exact .agg h1 h2 ih
 | tup h1 _ ih=>exact .tup h1 ih
 | unk=>exact .unk
theorem Inv.out [Globals] {r:Nat} {o:Obj} (hI:Inv S σ H w) (hS:¬ S r) (ho:¬ Qdq σ H r):Inv S σ H (w.putObj r o):=by
 refine⟨hI.len,fun i b o h ho hne=>by simpa using hI.lt i b o h ho hne,fun b h=>by simpa using hI.st b h,hI.free,hI.inj,fun i b q h hq=>?_,hI.fz,fun g cells h=>(hI.glob g cells h).mono (fun _ h=>h) fun b hb=>World.putObj_heap_other fun e=>hS (e ▸ hb)⟩
 have hv:∀ x v,VRel S σ H w x v→VRel S σ H (w.putObj r o) x v:=fun x v h=>h.out hI hS ho
 have hi:∀ (x:IV) (v:Value),IRel S w x v→IRel S (w.putObj r o) x v:=fun x v h=>h.mono (fun _ h=>h) fun b hb=>World.putObj_heap_other fun e=>hS (e ▸ hb)
 have hne:q≠.dead∧q≠.slot→b≠r:=by
  intro hd e
  subst e
  by_cases hl:q.live=true
  ·exact ho ⟨i,q,h,hq,hl⟩
  ·cases q with
   | dead=>exact hd.1 rfl
   | slot=>exact hd.2 rfl
   | row fz t cs =>
    cases fz with
    | true=>exact hS (hI.fz i _ t cs h hq)
    | false=>exact hl rfl
   | _=>exact hl rfl
 have hold:=hI.obj i b q h hq
 cases q with
 | dead=>trivial
 | slot=>trivial
 | cells t cs =>
  obtain⟨vs,h1,h2,h3,h4⟩:=hold
  exact⟨vs,by rw [World.putObj_heap_other (hne (by simp))];exact h1,h2,h3,fun i x hx=>hv _ _ (h4 i x hx)⟩
 | row fz t cs =>
  obtain⟨cur,h1,h2,h3⟩:=hold
  exact⟨cur,by rw [World.putObj_heap_other (hne (by simp))];exact h1,h2,fun i x hx=>hi _ _ (h3 i x hx)⟩
 | map t es =>
  obtain⟨ms,clock,h1,h2,h3,h4,h5⟩:=hold
  refine⟨ms,clock,by rw [World.putObj_heap_other (hne (by simp))];exact h1,h2,h3,h4,fun i k v hx=>?_⟩
  obtain⟨e,he,hk,hval⟩:=h5 i k v hx
  exact⟨e,he,hv _ _ hk,hv _ _ hval⟩
 | loop st pend f tmps ps as bd =>
  obtain⟨vs,d,g,h1,h2,h3⟩:=hold
  exact⟨vs,d,g,by rw [World.putObj_heap_other (hne (by simp))];exact h1,h2,fun i=>hv _ _ (h3 i)⟩
theorem Tr.out {r:Nat} {o:Obj} (hT:Tr S σ H w S' σ' H' w') (hr:w.heap.size≤r):Tr S σ H w S' σ' H' (w'.putObj r o):=by
 refine⟨hT.os,hT.tape,hT.output,by simpa using hT.size,fun b hb hn=>?_,fun b cur t fr h=>?_,hT.st,hT.st',hT.len,hT.tag,hT.fix,hT.row,hT.fresh⟩
 ·rw[World.putObj_heap_other (by omega)]
  exact hT.keep b hb hn
 ·have:=(Array.getElem?_eq_some_iff.1 h).1
  rw[World.putObj_heap_other (by omega)]
  exact hT.shape b cur t fr h
theorem Qxj [Globals] {fn:Func} {F:Fence} {n:Nat} {F':Fr} {tmps:Array Value} {v:AV} (hres:QdQ P fn F' H'=some v) :
  ∀ (ms:List Nat) (w':World),Inv S' σ' H' w'→FRel S' σ' H' w' F' tmps→Tr S σ H w S' σ' H' w'→ms.Nodup →
   (∀ r ∈ ms,w.heap.size≤r∧r<w'.heap.size∧w'.heap[r]?=some (.deferred (some []))∧¬ S' r∧¬ Qdq σ' H' r) →
   LeavesInM F n P fn tmps (Qcw S σ H w v H') (ms.map (fun r=>({ target:=.collected r,args:=#[] }:Deferred))) .returning w':=by
 intro ms
 induction ms with
 | nil =>
  intro w' hI hF hT _ _
  obtain⟨u,hu,hv⟩:=QqO hI hF hres
  exact⟨u,hu,u,S',σ',rfl,hI,hT,hv⟩
 | cons r ms ih =>
  intro w' hI hF hT hnd hall
  obtain⟨g1,g2,g3,g4,g5⟩:=hall r (by simp)
  rw[List.nodup_cons] at hnd
  refine⟨by simp,.inl ⟨r,_,rfl,run_takeDeferred g3,ih _ (hI.out g4 g5) ⟨hF.1,fun i=>(hF.2 i).out hI g4 g5⟩ (hT.out g1) hnd.2 fun k hk=>?_⟩⟩
  obtain⟨k1,k2,k3,k4,k5⟩:=hall k (by simp [hk])
  have hne:k≠r:=fun e=>hnd.1 (e ▸ hk)
  exact⟨k1,by simpa using k2,by rw [World.putObj_heap_other hne];exact k3,k4,k5⟩
theorem Qzv [Globals] (hm:P.follows .mixedOrders=true) (hsp:Qbw P Globals.fn) (hints:Hints):∀ k,Qbw P (fun g=>Qav P hints k (.fn g))∧Qcy P (fun i=>Qav P hints k (.round i)):=by
 intro k
 induction k with
 | zero =>
  constructor
  ·intro g args H r H' h
   cases h
  ·intro id args H r H' h
   cases h
 | succ k ih =>
  obtain⟨ihc,ihr⟩:=ih
  refine⟨fun g args H r H' h=>?_, ?_⟩
  ·simp only[Qav] at h
   split at h
   ·exact hsp g args H r H' h
   split at h<;>first | (cases h;done) | skip
   rename_i fn hfn
   split at h<;>first | (cases h;done) | skip
   rename_i c hbody
   split at h<;>first | (cases h;done) | skip
   rename_i hname
   obtain⟨⟨r1,H1⟩,h,htr⟩:=Option.map_eq_some_iff.1 h
   refine⟨⟨fn,hfn,by simp [hbody],hname⟩,fun S σ w vs hI ha=>?_⟩
   refine Calls.mono (R:=Qcw S σ H w r1 H1) ?_ (fun e w' hp=>hp.trimV htr)
   refine(callsIn_wide (n:=0)).1 (callsIn_of_wp_marks (F:=Fence.wide) hfn hbody trivial ?_)
   obtain⟨hI0,hT0⟩:=hI.slots (hints.slots g)
   have hFr:=QAr (ha.imp fun _ _ hab=>hab.tr hI hT0) fn.ntmps
   unfold Qyf at h
   have hcode:=fun out ho=>QhU (n:=0) (rd:=none) (P:=P) (cx:=⟨hints,g,k,fun g=>Qav P hints k (.fn g),fun i=>Qav P hints k (.round i),none⟩) ihc ihr hm c _ (H++List.replicate (hints.slots g) .slot) out ho S _ w { tmps:=vs++Array.replicate (fn.ntmps-vs.size) undef,defers:=[] } hI0 hFr trivial
   have key:∀ (F':Fr) (H1':Heap) (a':Act) (w':World),Next S (σ++List.replicate (hints.slots g) 0) (H++List.replicate (hints.slots g) .slot) w [] F' H1' a' w'→(QdQ P fn F' H1').map (fun v=>(v,H1'))=some (r1,H1) →
     LeavesInM Fence.wide 0 P fn a'.tmps (Qcw S σ H w r1 H1) a'.defers .returning w':=by
    intro F' H1' a' w' hN hres
    obtain⟨v,hv,he⟩:=Option.map_eq_some_iff.1 hres
    injection he with e1 e2
    subst e1
    subst e2
    obtain⟨S',σ',hI',hT,hF',ms,hds,hnd,hall⟩:=hN
    rw[hds,List.append_nil]
    exact Qxj hv ms w' hI' hF' (hT0.trans hT) hnd hall
   split at h<;>first | (cases h;done) | skip
   ·rename_i F' H1 he
    refine wpIn_mono (hcode _ he) ?_
    rintro e a' w' hp
    cases e<;>first | exact hp.elim | skip
    exact key _ _ _ _ hp h
   ·rename_i F' H1 he
    refine wpIn_mono (hcode _ he) ?_
    rintro e a' w' hp
    cases e<;>first | exact hp.elim | skip
    exact key _ _ _ _ hp h
  ·have:=Qy0 (P:=P) (cx:=⟨hints,0,k,fun g=>Qav P hints k (.fn g),fun i=>Qav P hints k (.round i),none⟩) ihc ihr hm
   intro id args H r H' h
   simp only[Qav] at h
   exact this id args H r H' h
theorem QyX [Globals] (hm:P.follows .mixedOrders=true) (hsp:Qbw P Globals.fn) (hints:Hints) (k:Nat):Qbw P (QGG P hints k):=(Qzv hm hsp hints k).1
end
end Go.Ab
