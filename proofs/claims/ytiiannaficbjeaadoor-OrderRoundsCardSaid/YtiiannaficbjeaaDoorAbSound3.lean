/- A part of the proof: an interpreter on abstract values, proved right for every program; no condition. -/
import Derived.Test.YtiiannaficbjeaaDoorAbDraw5
namespace Go.Ab
set_option linter.unusedVariables false
set_option linter.unusedSimpArgs false
set_option linter.unusedSectionVars false
open Go.RowKit
section
variable {S S' S'':Nat→Prop} {σ σ' σ'':List Nat} {H H' H'':Heap} {w w' w'':World} {P:Program} {rd:Option Nat} {n:Nat}
def Post [Globals] (S:Nat→Prop) (σ:List Nat) (H:Heap) (w:World) (ds:List Deferred):Out→Exit→Act→World→Prop
 | .norm F' H',.normal,a,w'=>Next S σ H w ds F' H' a w'
 | .exit id F' H',.exit id',a,w'=>id'=id∧Next S σ H w ds F' H' a w'
 | .ret F' H',.ret,a,w'=>Next S σ H w ds F' H' a w'
 | _,_,_,_=>False
theorem Post.comp [Globals] {ds ds':List Deferred} {o:Out} {e:Exit} {a:Act} (hT:Tr S σ H w S' σ' H' w') (hM:QbO w S' σ' H' w' ds ds') (h:Post S' σ' H' w' ds' o e a w''):Post S σ H w ds o e a w'':=by
 cases o<;>cases e<;>first | exact h.elim | exact Next.comp hT hM h | exact ⟨h.1,Next.comp hT hM h.2⟩
theorem Inv.allocOut [Globals] (hI:Inv S σ H w) (obj:Obj):Inv S σ H (w.alloc obj)∧Tr S σ H w S σ H (w.alloc obj):=by
 have hold:∀ k,k<w.heap.size→(w.alloc obj).heap[k]?=w.heap[k]?:=fun k hk=>Below.heap_alloc w obj k hk
 have hT:Tr S σ H w S σ H (w.alloc obj):=⟨rfl,rfl,rfl,by simp,fun b hb _=>hold b hb,fun b cur t fr h=>⟨cur,by rw [hold b (Array.getElem?_eq_some_iff.1 h).1];exact h,rfl⟩,fun _ h=>h,fun _ h=>.inl h,
  Nat.le_refl _,fun _ _ _=>rfl,fun _ _ _ _=>rfl,fun _ fz _ cs _ _ h=>⟨fz,cs,h,Nat.le_refl _,fun _=>rfl⟩,fun _ h=>.inr h⟩
 exact⟨⟨hI.len,fun i b o h ho hne=>by have:=hI.lt i b o h ho hne;simp;omega,fun b h=>by have:=hI.st b h;simp;omega,hI.free,hI.inj,fun i b o h ho=>hI.obj_tr h ho hT (hold b),hI.fz,fun g cells h=>(hI.glob g cells h).tr hI hT⟩,hT⟩
theorem Qzt [Globals] (hI:Inv S σ H w) {F:Fr} {a:Act} (hF:FRel S σ H w F a.tmps) {ar:Option Nat} (hA:Qc6 σ H ar rd) (fn f:FuncId) (ps:Array Tmp) (as b:Code) :
  ∃ (l:Nat) (mark:List Deferred) (w1:World),(Instr.enterLoop fn a.tmps ps as b rd).run P w=.ok (l,mark) w1 ∧
   Inv S (σ++[l]) (H++[.loop .ready none f F ps as b]) w1∧Tr S σ H w S (σ++[l]) (H++[.loop .ready none f F ps as b]) w1 ∧
   QbO w S (σ++[l]) (H++[.loop .ready none f F ps as b]) w1 a.defers (mark++a.defers):=by
 cases ar with
 | none =>
  cases rd with
  | some _=>exact hA.elim
  | none =>
   obtain⟨hI1,hT1⟩:=hI.allocOut (.deferred (some []))
   have hF1:=hF.tr hI hT1
   obtain⟨hI2,hT2⟩:=hI1.grow (.loop .ready none f F ps as b) (.loop { state:=.ready,pending:=none,fn,tmps:=a.tmps,params:=ps,assign:=as,body:=b,defers:=w.heap.size })
    ⟨a.tmps,w.heap.size,fn,World.alloc_heap_new _ _,hF1.1.symm,fun i=>(hF1.2 i).tr hI1 (hI1.growTr _ _)⟩
   refine⟨w.heap.size+1,_,_,run_enterLoop_outer fn a.tmps ps as b,by simpa using hI2,by simpa using hT1.trans hT2,[w.heap.size],rfl,by simp,fun r hr=>?_⟩
   simp only[List.mem_singleton] at hr
   subst hr
   refine⟨Nat.le_refl _,by simp;omega, ?_,fun hS=>?_,fun ho=>?_⟩
   ·rw[Below.heap_alloc _ _ _ (by simp)]
    exact World.alloc_heap_new _ _
   ·have:=hI.st _ hS;omega
   ·rcases QiS hI.len ho with h | ⟨i,o,h1,h2,h3⟩
    ·omega
    ·have:=hI.lt i _ o h1 h2 (Qbx h3);omega
 | some l0 =>
  cases rd with
  | none=>exact hA.elim
  | some b0 =>
   obtain⟨h1,h2⟩:=hA
   obtain⟨o0,ho0⟩:∃ o0,H[l0]?=some o0:=⟨H[l0]'(QdN h2),List.getElem?_eq_getElem _⟩
   unfold QaR at h2
   rw[ho0] at h2
   cases o0<;>simp [AObj.tag] at h2
   rename_i st pend f0 F0 ps0 as0 bd0
   obtain⟨vs0,d0,g0,hb0,_,_⟩:=hI.obj l0 b0 _ h1 ho0
   obtain⟨hI2,hT2⟩:=hI.grow (.loop .ready none f F ps as b) (.loop { state:=.ready,pending:=none,fn,tmps:=a.tmps,params:=ps,assign:=as,body:=b,defers:=d0 })
    ⟨a.tmps,d0,fn,World.alloc_heap_new _ _,hF.1.symm,fun i=>(hF.2 i).tr hI (hI.growTr _ _)⟩
   refine⟨w.heap.size,[],_, ?_,hI2,hT2,QbO.refl _ _ _ _ _ _⟩
   unfold Instr.enterLoop
   simp only[Sem.run_bind,run_getLoop hb0,Result.andThen,Sem.run_pure,run_newObj_alloc]
theorem Qr1 [Globals] (hI:Inv S σ H w) {l b:Nat} {st st':LoopState} {pend pend':Option Code} {f:FuncId} {F:Fr} {ps:Array Tmp} {as bd:Code} (hH:H[l]?=some (.loop st pend f F ps as bd)) (hb:σ[l]?=some b) :
  ∃ rec:Loop,w.heap[b]?=some (.loop rec)∧rec.state=st∧rec.pending=pend ∧
   Inv S σ (H.set l (.loop st' pend' f F ps as bd)) (w.putObj b (.loop { rec with state:=st',pending:=pend' })) ∧
   Tr S σ H w S σ (H.set l (.loop st' pend' f F ps as bd)) (w.putObj b (.loop { rec with state:=st',pending:=pend' })):=by
 obtain⟨vs,d,g,h1,h2,h3⟩:=hI.obj l b _ hb hH
 refine⟨_,h1,rfl,rfl,hI.put hH hb rfl rfl rfl rfl (by simp) (fun k hk=>World.putObj_heap_other hk) (fun cur t fr h=>by rw [h1] at h;cases h) rfl (fun fz t cs h=>by cases h) fun hT=>?_⟩
 exact⟨vs,d,g,World.putObj_heap_same (hI.lt l b _ hb hH (by intro e;cases e)),h2,fun i=>(h3 i).tr hI hT⟩
theorem Qrg [Globals] {F:Fr} {l:Nat} {out:Out} (h:QfL F l H=some out) (hI:Inv S σ H w) {b:Nat} (hb:σ[l]?=some b) :
  ∃ (jump:Option Code) (w':World) (H':Heap),(Instr.endLoop b).run P w=.ok jump w'∧Inv S σ H' w'∧Tr S σ H w S σ H' w' ∧
   ((jump=none∧out=.norm F H')∨(jump=some .ret∧out=.ret F H')∨∃ id,jump=some (.exit id)∧out=.exit id F H'):=by
 unfold QfL at h
 split at h<;>first | (cases h;done) | skip
 rename_i st pend f F0 ps as bd hH
 split at h<;>first | (cases h;done) | skip
 rename_i hst
 obtain⟨rec,h1,h2,h3,h4,h5⟩:=Qr1 (st':=.exhausted) (pend':=pend) hI hH hb
 have hr:({ rec with state:=LoopState.exhausted,pending:=pend }:Loop)={ rec with state:=.exhausted }:=by rw [← h3]
 rw[hr] at h4 h5
 refine⟨rec.pending,_,_,run_endLoop h1 (by rw [h2];exact hst),h4,h5, ?_⟩
 rw[h3]
 split at h<;>first | (cases h;done) | skip
 ·injection h with h;exact .inl ⟨rfl,h.symm⟩
 ·injection h with h;exact .inr (.inl ⟨rfl,h.symm⟩)
 ·injection h with h;exact .inr (.inr ⟨_,rfl,h.symm⟩)
theorem Q5i [Globals] {v x:AV} {u y:Value} (hv:VRel S σ H w v u) (hx:VRel S σ H w x y) {g:FuncId} {args:List AV} (h:QyG v x=some (g,args))
  (hfn:∃ fn,P.funcs[g]?=some fn∧fn.body.isSome=true∧(fn.name == "runtime.NumGoroutine")=false) :
  ∃ (d:Deferred) (vs:Array Value),(∀ w1:World,(Deferred.ofValue u #[y]).run P w1=.ok d w1∧(invoke d.target d.args).run P w1=.ok (.enter g vs) w1)∧All2 (VRel S σ H w) args vs.toList:=by
 obtain⟨fn,h1,h2,h3⟩:=hfn
 have hcf:∀ (vs:Array Value) (w1:World),(callFunc g vs).run P w1=.ok (.enter g vs) w1:=by
  intro vs w1
  have hb:fn.body.isNone=false:=by cases hb:fn.body<;>simp_all
  unfold callFunc
  rw[Sem.run_bind,run_program,Result.andThen_ok,h1]
  simp only[h3,hb,Bool.false_eq_true,if_false,Sem.run_pure]
 unfold QyG at h
 split at h<;>first | (cases h;done) | skip
 ·rename_i g0
  injection h with h
  injection h with e1 e2
  subst e1
  subst e2
  cases hv with
  | c hv =>
  cases hv
  exact⟨{ target:=.fn (.func g0) #[],args:=#[]++#[y] },#[y],fun w1=>⟨by simp only [Deferred.ofValue,Sem.run_pure],by simp [invoke,hcf]⟩,.cons hx .nil⟩
 ·rename_i g0 first0 cap0
  injection h with h
  injection h with e1 e2
  subst e1
  subst e2
  cases hv with
  | clo l1 l2 r1 r2 =>
  rename_i vf vc
  refine⟨{ target:=.fn (.func g0) vc,args:=vf++#[y] },vf++#[y]++vc,fun w1=>⟨by simp only [Deferred.ofValue,Sem.run_pure],by simp [invoke,hcf]⟩, ?_⟩
  rw[Array.toList_append,Array.toList_append]
  have k1:CRel S σ H w _ vf:=⟨l1,r1⟩
  have k2:CRel S σ H w _ vc:=⟨l2,r2⟩
  exact QeA (QeA k1.list (.cons hx .nil)) k2.list
def QtV (F:Fence) (n:Nat) (P:Program) (c:Code) (Q:Exit→Act→World→Prop) (a:Act) (w:World):Prop :=
 ∀ (b:Frame) (k:List Item) (cs:List Frame),b.roundOf=F.round→F.fn b.fn→F.room (cs.length+1+n) →
  ∃ e a' w',Q e a' w'∧ArrivesIn (Machine.fenced P F) P (lone (b.atR a (.code c :: .inLoop c::k)) cs w) b k cs e a' w'
theorem Qgz {F:Fence} {c:Code} {Q:Exit→Act→World→Prop} {a:Act} (h:c.wpIn F n P (Exit.then (QtV F n P c Q) Q) a w):QtV F n P c Q a w:=by
 intro b k cs hro hb hr
 obtain⟨e,a₁,w₁,hq,harr⟩:=h b (.inLoop c::k) cs hro hb hr
 cases e with
 | normal =>
  obtain⟨e₂,a₂,w₂,hq₂,harr₂⟩:=hq b k cs hro hb hr
  exact⟨e₂,a₂,w₂,hq₂,.of_steps (StepsIn.trans harr (.one (fenced_calm hb hr rfl) stepR_inLoop)) harr₂⟩
 | exit id=>exact ⟨_,a₁,w₁,hq,.pass (x:=.inLoop c) rfl (fun _ _=>.inl (by simp)) harr⟩
 | goto l=>exact ⟨_,a₁,w₁,hq,.pass (x:=.inLoop c) rfl (fun _ _=>.inl (by simp)) harr⟩
 | ret=>exact ⟨_,a₁,w₁,hq,.pass (x:=.inLoop c) rfl (fun _ _=>.inl (by simp)) harr⟩
 | panic ch=>exact ⟨_,a₁,w₁,hq,.pass (x:=.inLoop c) rfl (fun _ _=>.inl (by simp)) harr⟩
 | outgrown=>exact ⟨_,a₁,w₁,hq,.pass (x:=.inLoop c) rfl (fun _ _=>.inl (by simp)) harr⟩
theorem Qgs {F:Fence} {c:Code} {Q:Exit→Act→World→Prop} {a:Act} (h:QtV F n P c Q a w):(Code.loop c).wpIn F n P Q a w:=by
 intro b k cs hro hb hr
 obtain⟨e,a',w',hq,harr⟩:=h b k cs hro hb hr
 exact⟨e,a',w',hq,.of_steps (.one (fenced_calm hb hr rfl) stepR_loop) harr⟩
theorem QcF {b:Frame} {a:Act} {k:List Item} {cs:List Frame} {c:Code}:step P (lone (b.atR a (.code (.scope c)::k)) cs w)=.next (lone (b.atR a (.code c :: .inScope c::k)) cs w) :=
 step_lone_go (by simp [stepG,stepG.exec,Frame.atR])
theorem QmT {b:Frame} {a:Act} {k:List Item} {cs:List Frame} {c:Code}:step P (lone (b.atR a (.inScope c::k)) cs w)=.next (lone (b.atR a k) cs w) :=
 step_lone_go (by simp [stepG,stepG.exec,Frame.atR])
theorem Qz0 [Globals] {F:Fence} {c:Code} {Q:Exit→Act→World→Prop} {a:Act} (h:c.wpIn F n P (Exit.noGoto Q) a w):(Code.scope c).wpIn F n P Q a w:=by
 intro b k cs hro hb hr
 obtain⟨e,a₁,w₁,hq,harr⟩:=h b (.inScope c::k) cs hro hb hr
 have h0:(lone (b.atR a (.code (.scope c)::k)) cs w).fenced P F:=fenced_calm hb hr rfl
 cases e with
 | normal=>exact ⟨.normal,a₁,w₁,hq,.head h0 QcF (StepsIn.trans harr (.one (fenced_calm hb hr rfl) QmT))⟩
 | exit id =>
  refine⟨.exit id,a₁,w₁,hq,fun k' hk=>.head h0 QcF (harr.1 k' (by simp [exitTo,hk])),fun hr2 hk=>?_⟩
  obtain⟨k₁,h1,h2⟩:=harr.2 hr2 (by simp [exitTo,hk])
  exact⟨k₁,h1,.head h0 QcF h2⟩
 | goto l=>exact hq.elim
 | ret=>exact ⟨_,a₁,w₁,hq,.of_steps (.one h0 QcF) harr⟩
 | panic ch=>exact ⟨_,a₁,w₁,hq,.of_steps (.one h0 QcF) harr⟩
 | outgrown=>exact ⟨_,a₁,w₁,hq,.of_steps (.one h0 QcF) harr⟩
structure Kept (ts:List Nat) (a0 a:Act):Prop where
 defers:a.defers=a0.defers
 size:a.tmps.size=a0.tmps.size
 same:∀ i,i ∉ ts→a.tmps.getD i undef=a0.tmps.getD i undef
theorem Q9n (a:Act) (d:Nat) (v:Value) (i:Nat):(a.put (some d) v).tmps.getD i undef=if d=i∧d<a.tmps.size then v else a.tmps.getD i undef:=by
 show (a.tmps.setIfInBounds d v).getD i undef=_
 rw[Array.getD_eq_getD_getElem?,Array.getElem?_setIfInBounds]
 by_cases e:d=i
 ·subst e
  by_cases h:d<a.tmps.size
  ·simp[h]
  ·simp[h]
 ·rw[if_neg e,if_neg (fun h=>e h.1),Array.getD_eq_getD_getElem?]
theorem QAS (a:Act) (d:Nat) (v:Value):(a.put (some d) v).tmps.size=a.tmps.size:=by
 show (a.tmps.setIfInBounds d v).size=_
 simp
theorem Kept.put {ts:List Nat} {a0 a:Act} (h:Kept ts a0 a) {d:Nat} (hd:d ∈ ts) (v:Value):Kept ts a0 (a.put (some d) v) :=
 ⟨by rw [put_defers];exact h.defers,by rw [QAS];exact h.size,fun i hi=>by
  rw[Q9n,if_neg (fun (e:d=i∧d<a.tmps.size)=>hi (e.1 ▸ hd))]
  exact h.same i hi⟩
structure OneBlock (b:Nat) (w w':World):Prop where
 os:w'.os=w.os
 tape:w'.tape=w.tape
 output:w'.output=w.output
 size:w'.heap.size=w.heap.size
 other:∀ k,k≠b→w'.heap[k]?=w.heap[k]?
 at_:∀ (cur:Array Value) (t:TypeId) (fr:Nat × Nat),w.heap[b]?=some (.cells cur t fr)→∃ cur',w'.heap[b]?=some (.cells cur' t fr)∧cur'.size=cur.size
theorem OneBlock.refl (b:Nat) (w:World):OneBlock b w w:=⟨rfl,rfl,rfl,rfl,fun _ _=>rfl,fun cur t fr h=>⟨cur,h,rfl⟩⟩
theorem OneBlock.setRow {b:Nat} {w0 w:World} (h:OneBlock b w0 w) {cur arr:Array Value} {e:TypeId} (hw:w.heap[b]?=some (.cells cur e (0,0))) (hs:arr.size=cur.size):OneBlock b w0 (w.setRow b arr) :=
 ⟨h.os,h.tape,h.output,by rw [← h.size];simp,fun k hk=>by rw [setRow_other w b k _ hk];exact h.other k hk,fun c t fr hc=>by
  obtain⟨c',h1,h2⟩:=h.at_ c t fr hc
  rw[hw] at h1
  injection h1 with h1
  injection h1 with e1 e2 e3
  subst e1
  subst e2
  subst e3
  exact⟨arr,setRow_heap w b _ _ _ _ hw,by omega⟩⟩
theorem Inv.spoiled [Globals] (hI:Inv S σ H w) {id b:Nat} {t:TypeId} {cs:List IV} (hi:H[id]?=some (.row false t cs)) (hσ:σ[id]?=some b) (h:OneBlock b w w') :
  Inv S σ (H.set id .dead) w'∧Tr S σ H w S σ (H.set id .dead) w' :=
 hI.put hi hσ rfl h.os h.tape h.output h.size h.other h.at_ rfl (fun fz t cs h=>by cases h) (fun _=>trivial)
theorem Qdr [Globals] {ops:Array Oper} {i:Nat} {is:List Nat} {o:Oper} {a:Act} {Q:Exit→Act→World→Prop} (ho:ops[i]?=some o) (hg:o.guard=none) (hd:∀ c,o.op≠.defer c) {v:Value}
  (hx:(execOp a.eval o).run P w=.ok (.value v) w'∨((execOp a.eval o).run P w=.ok .skip w'∧v=undef)) (hk:wpOpsIn (Fw rd) n P ops Q is (a.put o.dst v) w'):wpOpsIn (Fw rd) n P ops Q (i::is) a w:=by
 unfold wpOpsIn
 rw[ho]
 have hw:Region.wanted o (yielded ops a.tmps)=true:=by unfold Region.wanted;rw [hg]
 simp only[hw,if_true]
 exact QfH hd hx hk
theorem Q26 {s:Sem Value} {v:Value} (h:s.run P w=.ok v w'):(do pure (Go.Next.value (← s)):Sem Go.Next).run P w=.ok (.value v) w':=by simp [h]
theorem QeW {o:Oper} {d k:Nat} (h:QcL o=some (d,k)):o.dst=some d∧o.guard=none∧(∀ c,o.op≠.defer c)∧∀ (ρ:Operand→Value) (w:World),(execOp ρ o).run P w=.ok (.value (ρ (.tmp k))) w:=by
 unfold QcL at h
 split at h<;>first | (cases h;done) | skip
 injection h with h
 injection h with h1 h2
 subst h1
 subst h2
 exact⟨rfl,rfl,(fun c h=>by cases h),fun ρ w=>rfl⟩
theorem QA7 {o:Oper} {d k:Nat} (h:Q7B o=some (d,k)):o.dst=some d∧o.guard=none∧(∀ c,o.op≠.defer c)∧∀ (ρ:Operand→Value) (w:World),(execOp ρ o).run P w=.ok (.value (ρ (.tmp k))) w:=by
 unfold Q7B at h
 split at h<;>first | (cases h;done) | skip
 injection h with h
 injection h with h1 h2
 subst h1
 subst h2
 exact⟨rfl,rfl,(fun c h=>by cases h),fun ρ w=>rfl⟩
theorem QBs {o:Oper} {d a:Nat} {t:TypeId} (h:Q8p o=some (d,a,t)) {e:TypeId} (hu:P.underlying t=some (.slice e)):o.dst=some d∧o.guard=none∧(∀ c,o.op≠.defer c) ∧
  ∀ (ρ:Operand→Value) (w:World) (ad:Option Addr) (l c:Nat),ρ (.tmp a)=.slice ad l c→(execOp ρ o).run P w=.ok (.value (.int .i64 l)) w:=by
 unfold Q8p at h
 split at h<;>first | (cases h;done) | skip
 split at h<;>first | (cases h;done) | skip
 rename_i d0 args ts _ _ _ _ _ a' t' ha ht
 injection h with h
 injection h with h1 h2
 injection h2 with h2 h3
 subst h1
 subst h2
 subst h3
 have ea:args=#[Operand.tmp a']:=by rw [← Array.toArray_toList (xs:=args),ha]
 have et:ts=#[t']:=by rw [← Array.toArray_toList (xs:=ts),ht]
 subst ea
 subst et
 refine⟨rfl,rfl,(fun c h=>by cases h),fun ρ w ad l c hv=>?_⟩
 simp[execOp,resolve,invoke,builtin,Builtin.len_,run_underlying hu,goInt,hv]
theorem QBg [Globals] {o:Oper} {d a b:Nat} (h:Q7T o=some (d,a,b)):o.dst=some d∧o.guard=none∧(∀ c,o.op≠.defer c) ∧
  ∀ (ρ:Operand→Value) (S:Nat→Prop) (w:World) (x y:Int),Inv S [] [] w→ρ (.tmp a)=.int .i64 x→ρ (.tmp b)=.int .i64 y→(execOp ρ o).run P w=.ok (.value (.bool (decide (x<y)))) w:=by
 unfold Q7T at h
 split at h<;>first | (cases h;done) | skip
 rename_i d' t' a' b' yt _ _ _
 injection h with h
 injection h with h1 h2
 injection h2 with h2 h3
 subst h1
 subst h2
 subst h3
 refine⟨rfl,rfl,(fun c h=>by cases h),fun ρ S w x y hI hx hy=>?_⟩
 obtain⟨r,h1,h2⟩:=QhX (P:=P) hI (op:=.lss) (t:=t') (x:=.c (.int .i64 x)) (y:=.c (.int .i64 y)) (u:=.int .i64 x) (v:=.int .i64 y) (av:=.c (.bool (decide (x<y)))) (by simp [binA,Qey]) (.c (.int _ _)) (.c (.int _ _)) (.tmp a') (.tmp b')
 cases h2 with
 | c h2 =>
 cases h2
 unfold execOp
 simp only[hx,hy]
 exact Q26 h1
theorem Q8J [Globals] {o:Oper} {d a:Nat} (h:QxC o=some (d,a)):o.dst=some d∧o.guard=none∧(∀ c,o.op≠.defer c) ∧
  ∀ (ρ:Operand→Value) (S:Nat→Prop) (w:World) (x:Int),Inv S [] [] w→ρ (.const (.int .i64 1))=.int .i64 1→ρ (.tmp a)=.int .i64 x→(execOp ρ o).run P w=.ok (.value (.int .i64 (IntKind.wrap .i64 (x+1)))) w:=by
 unfold QxC at h
 split at h<;>first | (cases h;done) | skip
 rename_i d' t' a' yt _ _ _
 injection h with h
 injection h with h1 h2
 subst h1
 subst h2
 refine⟨rfl,rfl,(fun c h=>by cases h),fun ρ S w x hI h0 hx=>?_⟩
 obtain⟨r,h1,h2⟩:=QhX (P:=P) hI (op:=.add) (t:=t') (x:=.c (.int .i64 x)) (y:=.c (.int .i64 1)) (u:=.int .i64 x) (v:=.int .i64 1) (av:=.c (.int .i64 (IntKind.wrap .i64 (x+1)))) (by simp [binA,Qey]) (.c (.int _ _)) (.c (.int _ _)) (.tmp a') (.const (.int .i64 1))
 cases h2 with
 | c h2 =>
 cases h2
 unfold execOp
 simp only[hx,h0]
 exact Q26 h1
theorem QA3 {o:Oper} {d a b:Nat} {t:TypeId} (h:Q5d o=some (d,t,a,b)) {e:TypeId} (hu:P.underlying t=some (.slice e)) {sz:Nat} (hs:Qb0 P e=some sz):o.dst=some d∧o.guard=none∧(∀ c,o.op≠.defer c) ∧
  ∀ (ρ:Operand→Value) (w:World) (bk off l c i:Nat),ρ (.tmp a)=.slice (some ⟨bk,off,none⟩) l c→ρ (.tmp b)=.int .i64 i→i<l→(execOp ρ o).run P w=.ok (.value (.pointer (some ⟨bk,off+i * sz,none⟩))) w:=by
 unfold Q5d at h
 split at h<;>first | (cases h;done) | skip
 injection h with h
 injection h with h1 h2
 injection h2 with h2 h3
 injection h3 with h3 h4
 subst h1
 subst h2
 subst h3
 subst h4
 refine⟨rfl,rfl,(fun c h=>by cases h),fun ρ w bk off l c i ha hb hi=>?_⟩
 have hs':=run_sizeOf (w:=w) hs
 have h0:(0:Int)≤i∧(i:Int)<l:=by omega
 simp[execOp,Instr.indexAt,asIntOf,run_underlying hu,hs',QeB,ha,hb,hi]
theorem QAB [Globals] {o:Oper} {t:TypeId} {a:Nat} {v:Operand} (h:Q4T o=some (t,a,v)):o.dst=none∧o.guard=none∧(∀ c,o.op≠.defer c) ∧
  ∀ (ρ:Operand→Value) (w:World) (bk off:Nat) (e:TypeId) (cur:Array Value),ρ (.tmp a)=.pointer (some ⟨bk,off,none⟩)→w.heap[bk]?=some (.cells cur e (0,0))→Qb0 P t=some (ρ v).cells.size →
   off+(ρ v).cells.size≤cur.size→(∀ u ∈ (ρ v).cells.toList,u.oneCell'=true)→∃ arr:Array Value,arr.size=cur.size∧(execOp ρ o).run P w=.ok .skip (w.setRow bk arr):=by
 unfold Q4T at h
 split at h<;>first | (cases h;done) | skip
 rename_i t1 a1 v1 _ _ _
 injection h with h
 injection h with h1 h2
 injection h2 with h2 h3
 subst h1
 subst h2
 subst h3
 refine⟨rfl,rfl,(fun c h=>by cases h),fun ρ w bk off e cur ha hw hs hle h1=>?_⟩
 obtain⟨l,hl,hrun⟩:=QeL (P:=P) hs hw hle h1
 refine⟨l.toArray,by rw [List.size_toArray,QbW hl];simp, ?_⟩
 have hrun':(Instr.storeAt t1 (ρ (.tmp a1)) (ρ v1)).run P w=.ok () (w.setRow bk l.toArray):=by
  rw[ha]
  simpa [Instr.storeAt,Instr.sureAddr] using hrun
 simp[execOp,hrun']
theorem getp (a:Act) {d:Nat} (hd:d<a.tmps.size) (v:Value) (i:Nat):(a.put (some d) v).eval (.tmp i)=if d=i then v else a.eval (.tmp i):=by
 show (a.put (some d) v).tmps.getD i undef=_
 rw[Q9n]
 by_cases e:d=i
 ·rw[if_pos ⟨e,hd⟩,if_pos e]
 ·rw[if_neg (fun h=>e h.1),if_neg e];rfl
theorem Quz {l:List Oper} {d0 k d1 s d2 t d3:Nat} (h:Ql4 l=some (d0,k,d1,s,d2,t,d3)):∃ p0 p1 p2 p3,l=[p0,p1,p2,p3]∧QcL p0=some (d0,k)∧QcL p1=some (d1,s)∧Q8p p2=some (d2,d1,t)∧Q7T p3=some (d3,d0,d2):=by
 unfold Ql4 at h
 split at h<;>first | (cases h;done) | skip
 obtain⟨⟨x1,x2⟩,h1,h⟩:=Option.bind_eq_some_iff.1 h
 obtain⟨⟨y1,y2⟩,h2,h⟩:=Option.bind_eq_some_iff.1 h
 obtain⟨⟨z1,z2,z3⟩,h3,h⟩:=Option.bind_eq_some_iff.1 h
 obtain⟨⟨u1,u2,u3⟩,h4,h⟩:=Option.bind_eq_some_iff.1 h
 split at h<;>first | (cases h;done) | skip
 rename_i hc
 simp only at hc
 obtain⟨rfl,rfl,rfl⟩:=hc
 simp only[Option.some.injEq,Prod.mk.injEq] at h
 obtain⟨rfl,rfl,rfl,rfl,rfl,rfl,rfl⟩:=h
 exact⟨_,_,_,_,rfl,h1,h2,h3,h4⟩
theorem Qxx {l:List Oper} {e0 k e1:Nat} (h:Ql3 l=some (e0,k,e1)):∃ p0 p1 p2,l=[p0,p1,p2]∧QcL p0=some (e0,k)∧QxC p1=some (e1,e0)∧Q7B p2=some (k,e1):=by
 unfold Ql3 at h
 split at h<;>first | (cases h;done) | skip
 obtain⟨⟨x1,x2⟩,h1,h⟩:=Option.bind_eq_some_iff.1 h
 obtain⟨⟨y1,y2⟩,h2,h⟩:=Option.bind_eq_some_iff.1 h
 obtain⟨⟨z1,z2⟩,h3,h⟩:=Option.bind_eq_some_iff.1 h
 split at h<;>first | (cases h;done) | skip
 rename_i hc
 simp only at hc
 obtain⟨rfl,rfl,rfl⟩:=hc
 simp only[Option.some.injEq,Prod.mk.injEq] at h
 obtain⟨rfl,rfl,rfl⟩:=h
 exact⟨_,_,_,rfl,h1,h2,h3⟩
theorem Qx8 {l:List Oper} {f0 s f1 k:Nat} {mid:List Oper} {f3:Nat} {t et:TypeId} {v:Operand} (h:Qms l=some (f0,s,f1,k,mid,f3,t,et,v)) :
  ∃ p0 p1 p2 p3,l=p0::p1::(mid++[p2,p3])∧(mid=[]∨∃ m,mid=[m])∧QcL p0=some (f0,s)∧QcL p1=some (f1,k)∧Q5d p2=some (f3,t,f0,f1)∧Q4T p3=some (et,f3,v):=by
 have one:∀ (m:List Oper) (r0 r1 i st:Oper),QjK m r0 r1 i st=some (f0,s,f1,k,mid,f3,t,et,v)→m=mid∧QcL r0=some (f0,s)∧QcL r1=some (f1,k)∧Q5d i=some (f3,t,f0,f1)∧Q4T st=some (et,f3,v):=by
  intro m r0 r1 i st h
  unfold QjK at h
  obtain⟨⟨x1,x2⟩,h1,h⟩:=Option.bind_eq_some_iff.1 h
  obtain⟨⟨y1,y2⟩,h2,h⟩:=Option.bind_eq_some_iff.1 h
  obtain⟨⟨z1,z2,z3,z4⟩,h3,h⟩:=Option.bind_eq_some_iff.1 h
  obtain⟨⟨u1,u2,u3⟩,h4,h⟩:=Option.bind_eq_some_iff.1 h
  split at h<;>first | (cases h;done) | skip
  rename_i hc
  simp only at hc
  obtain⟨rfl,rfl,rfl⟩:=hc
  simp only[Option.some.injEq,Prod.mk.injEq] at h
  obtain⟨rfl,rfl,rfl,rfl,rfl,rfl,rfl,rfl,rfl⟩:=h
  exact⟨rfl,h1,h2,h3,h4⟩
 unfold Qms at h
 split at h<;>first | (cases h;done) | skip
 ·obtain⟨rfl,h1,h2,h3,h4⟩:=one _ _ _ _ _ h
  exact⟨_,_,_,_,rfl,.inl rfl,h1,h2,h3,h4⟩
 ·obtain⟨rfl,h1,h2,h3,h4⟩:=one _ _ _ _ _ h
  exact⟨_,_,_,_,rfl,.inr ⟨_,rfl⟩,h1,h2,h3,h4⟩
theorem Q9r {b:Code} {q:SpoilR} (h:Q0H b=some q):∃ r0 r1 r2 y p0 p1 p2 p3 m0 m1 m2 m3 g0 g1 g2,
  b=.seq (.seq (.region r0 ⟨[p0,p1,p2,p3]⟩ false) (.cond (.tmp q.d3) .skip (.exit q.x))) (.seq (.block y (.region r1 ⟨m0::m1::(q.mid++[m2,m3])⟩ false)) (.region r2 ⟨[g0,g1,g2]⟩ false)) ∧
  QcL p0=some (q.d0,q.k)∧QcL p1=some (q.d1,q.s)∧Q8p p2=some (q.d2,q.d1,q.t)∧Q7T p3=some (q.d3,q.d0,q.d2) ∧
  (q.mid=[]∨∃ m,q.mid=[m])∧QcL m0=some (q.f0,q.s)∧QcL m1=some (q.f1,q.k)∧Q5d m2=some (q.f3,q.t,q.f0,q.f1)∧Q4T m3=some (q.et,q.f3,q.v) ∧
  QcL g0=some (q.e0,q.k)∧QxC g1=some (q.e1,q.e0)∧Q7B g2=some (q.k,q.e1):=by
 unfold Q0H at h
 split at h<;>first | (cases h;done) | skip
 rename_i r0 o0 c x y r1 o1 r2 o2
 obtain⟨⟨d0,k,d1,s,d2,t,d3⟩,h1,h⟩:=Option.bind_eq_some_iff.1 h
 obtain⟨⟨f0,s',f1,k',mid,f3,t',et,v⟩,h2,h⟩:=Option.bind_eq_some_iff.1 h
 obtain⟨⟨e0,k2,e1⟩,h3,h⟩:=Option.bind_eq_some_iff.1 h
 split at h<;>first | (cases h;done) | skip
 rename_i hc
 simp only at hc
 obtain⟨rfl,rfl,rfl,rfl,rfl⟩:=hc
 injection h with h
 subst h
 obtain⟨p0,p1,p2,p3,e1',a1,a2,a3,a4⟩:=Quz h1
 obtain⟨m0,m1,m2,m3,e2',b0,b1,b2,b3,b4⟩:=Qx8 h2
 obtain⟨g0,g1,g2,e3',c1,c2,c3⟩:=Qxx h3
 refine⟨r0,r1,r2,y,p0,p1,p2,p3,m0,m1,m2,m3,g0,g1,g2, ?_,a1,a2,a3,a4,b0,b1,b2,b3,b4,c1,c2,c3⟩
 rw[← Array.toArray_toList (xs:=o0),← Array.toArray_toList (xs:=o1),← Array.toArray_toList (xs:=o2),e1',e2',e3']
theorem Qmr:∀ (ts:List Nat) (F:Fr) (i:Nat),(QaJ F ts).get i=F.get i∨(QaJ F ts).get i=.unk
 | [],_,_=>.inl rfl
 | t::ts,F,i=>by
  rcases Qmr ts (F.set t .unk) i with h | h
  ·rw[QaJ,h,Fr.get_set]
   split
   ·exact .inr rfl
   ·exact .inl rfl
  ·exact .inr h
theorem Q4y:∀ (ts:List Nat) (F:Fr) (i:Nat),i ∈ ts→F.ok i=true→(QaJ F ts).get i=.unk
 | t::ts,F,i,h,ho=>by
  rw[QaJ]
  by_cases e:t=i
  ·subst e
   have h1:(F.set t .unk).get t=.unk:=by rw [Fr.get_set,if_pos ⟨rfl,ho⟩]
   rcases Qmr ts (F.set t .unk) t with h2 | h2
   ·rw[h2,h1]
   ·exact h2
  ·exact Q4y ts _ i (by rcases List.mem_cons.1 h with h | h;exact absurd h.symm e;exact h) (by rw [Fr.ok_set];exact ho)
theorem Q7X:∀ (ts:List Nat) (F:Fr),(QaJ F ts).n=F.n
 | [],_=>rfl
 | t::ts,F=>by rw [QaJ,Q7X ts,Fr.n_set]
theorem ok_lt {F:Fr} {d:Nat} (h:F.ok d=true):d<F.n:=by
 unfold Fr.ok at h
 rw[Bool.and_eq_true] at h
 exact QcZ.1 h.1
theorem QyW [Globals] {b:Code} {F:Fr} {H:Heap} {out:Out} (h:Qju P b F H=some out) {S:Nat→Prop} {σ:List Nat} {w:World} {a:Act} (hI:Inv S σ H w) (hF:FRel S σ H w F a.tmps) :
  (Code.loop b).wpIn (Fw rd) n P (Post S σ H w a.defers out) a w:=by
 unfold Qju at h
 obtain⟨q,hq,h⟩:=Option.bind_eq_some_iff.1 h
 split at h<;>first | (cases h;done) | skip
 rename_i id off ext sz n0 e hs hk hu
 split at h<;>first | (cases h;done) | skip
 rename_i t cs hrow
 split at h<;>first | (cases h;done) | skip
 rename_i hcond
 obtain⟨hext,hn0,hsz,hset,hval,hok,hnd⟩:=hcond
 injection h with h
 subst h
 obtain⟨r0,r1,r2,y,p0,p1,p2,p3,m0,m1,m2,m3,g0,g1,g2,rfl,hp0,hp1,hp2,hp3,hmid,hm0,hm1,hm2,hm3,hg0,hg1,hg2⟩:=Q9r hq
 have hvs:=hF.2 q.s
 rw[hs] at hvs
 obtain⟨b0,cur,te,cap,hσ,hw,hcm,hoc,hsv⟩:∃ b0 cur te cap,σ[id]?=some b0∧w.heap[b0]?=some (.cells cur te (0,0))∧cap≤maxLen∧off+cap * sz=cur.size∧a.tmps.getD q.s undef=.slice (some ⟨b0,off,none⟩) cap cap:=by
  generalize a.tmps.getD q.s undef=u at hvs
  cases hvs with
  | cw hd hh=>exact (hh _ _ _ hrow).2 hext.symm
 have hvk:a.tmps.getD q.k undef=.int .i64 n0:=by
  have:=hF.2 q.k
  rw[hk] at this
  generalize a.tmps.getD q.k undef=u at this ⊢
  cases this with
  | c hx=>cases hx;rfl
 have hlt:∀ d ∈ q.writes,d<a.tmps.size:=fun d hd=>by rw [← hF.1];exact ok_lt (List.all_eq_true.1 hok d hd)
 have hsn:q.s ∉ q.writes:=by
  rw[Qcb,Bool.and_eq_true,Bool.not_eq_true',Bool.eq_false_iff,ne_eq,Qm9] at hnd
  exact hnd.1
 have hdst:∀ d ∈ q.writes,q.s≠d:=fun d hd e=>hsn (e ▸ hd)
 have hfin:∀ (a1:Act) (w1:World),Kept q.writes a a1→OneBlock b0 w w1→Post S σ H w a.defers (.exit q.x (QaJ F q.writes) (H.set id .dead)) (.exit q.x) a1 w1:=by
  intro a1 w1 hK hO
  obtain⟨hI1,hT1⟩:=hI.spoiled hrow hσ hO
  refine⟨rfl,S,σ,hI1,hT1,⟨by rw [Q7X,hK.size,hF.1],fun i=>?_⟩,by rw [hK.defers];exact QbO.refl _ _ _ _ _ _⟩
  by_cases hi:i ∈ q.writes
  ·rw[Q4y _ _ _ hi (List.all_eq_true.1 hok i hi)];exact .unk
  ·rw[hK.same i hi]
   rcases Qmr q.writes F i with h | h
   ·rw[h];exact (hF.2 i).tr hI hT1
   ·rw[h];exact .unk
 have ne:∀ {i j:Nat} (p r:Nat),(q.s::q.writes)[p]?=some i→(q.s::q.writes)[r]?=some j→p≠r→i≠j:=fun p r h1 h2 hpr e=>hpr (Qhd hnd h1 (e ▸ h2))
 have wk:q.k ∈ q.writes:=by simp [SpoilR.writes]
 have wd0:q.d0 ∈ q.writes:=by simp [SpoilR.writes]
 have wd1:q.d1 ∈ q.writes:=by simp [SpoilR.writes]
 have wd2:q.d2 ∈ q.writes:=by simp [SpoilR.writes]
 have wd3:q.d3 ∈ q.writes:=by simp [SpoilR.writes]
 have wf0:q.f0 ∈ q.writes:=by simp [SpoilR.writes]
 have wf1:q.f1 ∈ q.writes:=by simp [SpoilR.writes]
 have wf3:q.f3 ∈ q.writes:=by simp [SpoilR.writes]
 have we0:q.e0 ∈ q.writes:=by simp [SpoilR.writes]
 have we1:q.e1 ∈ q.writes:=by simp [SpoilR.writes]
 have hcells:∀ (w1:World) (av:AV) (u:Value),Qmu P sz (some av)=true→VRel S [] [] w1 av u→u.cells.size=sz∧∀ x ∈ u.cells.toList,x.oneCell'=true:=by
  intro w1 av u ho hv
  simp only[Qmu,Bool.and_eq_true,List.all_eq_true,beq_iff_eq] at ho
  exact⟨by rw [(hv.kcells ho.1).1,ho.2],hv.cells_one ho.1⟩
 have head:∀ (a1:Act) (w1:World) (i:Nat),Kept q.writes a a1→OneBlock b0 w w1→a1.eval (.tmp q.k)=.int .i64 i→∀ (K:Act→World→Prop),
   (i<cap→∀ a2 w2,Kept q.writes a a2→OneBlock b0 w w2→a2.eval (.tmp q.k)=.int .i64 ((i+1:Nat):Int)→K a2 w2) →
   (Code.seq (.seq (.region r0 ⟨[p0,p1,p2,p3]⟩ false) (.cond (.tmp q.d3) .skip (.exit q.x))) (.seq (.block y (.region r1 ⟨m0::m1::(q.mid++[m2,m3])⟩ false)) (.region r2 ⟨[g0,g1,g2]⟩ false))).wpIn (Fw rd) n P
    (Exit.then K (Post S σ H w a.defers (.exit q.x (QaJ F q.writes) (H.set id .dead)))) a1 w1:=by
  intro a1 w1 i hK hO hki K hnext
  obtain⟨cur1,hw1,hc1⟩:=hO.at_ cur te (0,0) hw
  have hI1:Inv S [] [] w1:=QdK (hI.spoiled hrow hσ hO).1
  have hs1:a1.eval (.tmp q.s)=.slice (some ⟨b0,off,none⟩) cap cap:=by
   show a1.tmps.getD q.s undef=_
   rw[hK.same _ hsn];exact hsv
  have z:∀ {a2:Act} {d:Nat},Kept q.writes a a2→d ∈ q.writes→d<a2.tmps.size:=fun hK2 hd=>by rw [hK2.size];exact hlt _ hd
  refine wpIn_seq (wpIn_seq (wpIn_region ?_))
  show wpOpsIn (Fw rd) n P ⟨[p0,p1,p2,p3]⟩ _ [0,1,2,3] a1 w1
  obtain⟨x0,x1,x2,x3⟩:=QeW (P:=P) hp0
  refine Qdr (o:=p0) rfl x1 x2 (.inl (x3 _ _)) ?_
  rw[x0,hki]
  have hK2:=hK.put wd0 (.int .i64 i)
  have v2:=fun j=>getp a1 (z hK wd0) (.int .i64 i) j
  generalize a1.put (some q.d0) (.int .i64 i)=a2 at hK2 v2
  obtain⟨x0,x1,x2,x3⟩:=QeW (P:=P) hp1
  refine Qdr (o:=p1) rfl x1 x2 (.inl (x3 _ _)) ?_
  rw[x0,v2,if_neg (hdst _ wd0).symm,hs1]
  have hK3:=hK2.put wd1 (.slice (some ⟨b0,off,none⟩) cap cap)
  have v3:=fun j=>getp a2 (z hK2 wd1) (.slice (some ⟨b0,off,none⟩) cap cap) j
  generalize a2.put (some q.d1) (.slice (some ⟨b0,off,none⟩) cap cap)=a3 at hK3 v3
  obtain⟨x0,x1,x2,x3⟩:=QBs hp2 hu
  refine Qdr (o:=p2) rfl x1 x2 (.inl (x3 _ _ _ _ _ (by rw [v3,if_pos rfl]))) ?_
  rw[x0]
  have hK4:=hK3.put wd2 (.int .i64 cap)
  have v4:=fun j=>getp a3 (z hK3 wd2) (.int .i64 cap) j
  generalize a3.put (some q.d2) (.int .i64 cap)=a4 at hK4 v4
  obtain⟨x0,x1,x2,x3⟩:=QBg (P:=P) hp3
  refine Qdr (o:=p3) rfl x1 x2 (.inl (x3 _ S _ i cap hI1 (by rw [v4,if_neg (ne 4 2 rfl rfl (by decide)),v3,if_neg (ne 3 2 rfl rfl (by decide)),v2,if_pos rfl]) (by rw [v4,if_pos rfl]))) ?_
  rw[x0]
  have hK5:=hK4.put wd3 (.bool (decide ((i:Int)<cap)))
  have v5:=fun j=>getp a4 (z hK4 wd3) (.bool (decide ((i:Int)<cap))) j
  generalize a4.put (some q.d3) (.bool (decide ((i:Int)<cap)))=a5 at hK5 v5
  show (Code.cond (.tmp q.d3) .skip (.exit q.x)).wpIn (Fw rd) n P _ a5 w1
  have hcond5:a5.eval (.tmp q.d3)=.bool (decide ((i:Int)<cap)):=by rw [v5,if_pos rfl]
  by_cases hic:i<cap
  rotate_left
  ·rw[decide_eq_false (by omega)] at hcond5
   exact wpIn_cond_false hcond5 (wpIn_exit (hfin a5 w1 hK5 hO))
  rw[decide_eq_true (by omega)] at hcond5
  refine wpIn_cond_true hcond5 (wpIn_skip ?_)
  show (Code.seq (.block y (.region r1 ⟨m0::m1::(q.mid++[m2,m3])⟩ false)) (.region r2 ⟨[g0,g1,g2]⟩ false)).wpIn (Fw rd) n P _ a5 w1
  have s5:a5.eval (.tmp q.s)=.slice (some ⟨b0,off,none⟩) cap cap:=by
   rw[v5,if_neg (hdst _ wd3).symm,v4,if_neg (hdst _ wd2).symm,v3,if_neg (hdst _ wd1).symm,v2,if_neg (hdst _ wd0).symm,hs1]
  have k5:a5.eval (.tmp q.k)=.int .i64 i:=by
   rw[v5,if_neg (ne 5 1 rfl rfl (by decide)),v4,if_neg (ne 4 1 rfl rfl (by decide)),v3,if_neg (ne 3 1 rfl rfl (by decide)),v2,if_neg (ne 2 1 rfl rfl (by decide)),hki]
  have tail:∀ (a6:Act) (w2:World),Kept q.writes a a6→OneBlock b0 w w2→a6.eval (.tmp q.k)=.int .i64 i →
    (Code.region r2 ⟨[g0,g1,g2]⟩ false).wpIn (Fw rd) n P (Exit.then K (Post S σ H w a.defers (.exit q.x (QaJ F q.writes) (H.set id .dead)))) a6 w2:=by
   intro a6 w2 hK6 hO6 hk6
   have hI6:Inv S [] [] w2:=QdK (hI.spoiled hrow hσ hO6).1
   refine wpIn_region ?_
   show wpOpsIn (Fw rd) n P ⟨[g0,g1,g2]⟩ _ [0,1,2] a6 w2
   obtain⟨x0,x1,x2,x3⟩:=QeW (P:=P) hg0
   refine Qdr (o:=g0) rfl x1 x2 (.inl (x3 _ _)) ?_
   rw[x0,hk6]
   have hK7:=hK6.put we0 (.int .i64 i)
   have v7:=fun j=>getp a6 (z hK6 we0) (.int .i64 i) j
   generalize a6.put (some q.e0) (.int .i64 i)=a7 at hK7 v7
   obtain⟨x0,x1,x2,x3⟩:=Q8J (P:=P) hg1
   refine Qdr (o:=g1) rfl x1 x2 (.inl (x3 _ S _ i hI6 rfl (by rw [v7,if_pos rfl]))) ?_
   have hwr:IntKind.wrap .i64 ((i:Int)+1)=((i+1:Nat):Int):=by
    have hcm':cap≤9223372036854775807:=by simpa [maxLen] using hcm
    have e:(2 ^ IntKind.bits .i64:Int)=18446744073709551616:=by decide
    have e2:(2 ^ (IntKind.bits .i64-1):Int)=9223372036854775808:=by decide
    have e3:IntKind.signed .i64=true:=rfl
    unfold IntKind.wrap
    simp only[e,e2,e3,Bool.true_and,decide_eq_true_eq]
    split<;>omega
   rw[x0,hwr]
   have hK8:=hK7.put we1 (.int .i64 ((i+1:Nat):Int))
   have v8:=fun j=>getp a7 (z hK7 we1) (.int .i64 ((i+1:Nat):Int)) j
   generalize a7.put (some q.e1) (.int .i64 ((i+1:Nat):Int))=a8 at hK8 v8
   obtain⟨x0,x1,x2,x3⟩:=QA7 (P:=P) hg2
   refine Qdr (o:=g2) rfl x1 x2 (.inl (x3 _ _)) ?_
   rw[x0,v8,if_pos rfl]
   have hK9:=hK8.put wk (.int .i64 ((i+1:Nat):Int))
   have v9:=fun j=>getp a8 (z hK8 wk) (.int .i64 ((i+1:Nat):Int)) j
   generalize a8.put (some q.k) (.int .i64 ((i+1:Nat):Int))=a9 at hK9 v9
   exact hnext hic a9 w2 hK9 hO6 (by rw [v9,if_pos rfl])
  have put:∀ (a6:Act) (u:Value) (ops:Array Oper) (j:Nat),ops[j]?=some m2→ops[j+1]?=some m3→Kept q.writes a a6→a6.eval (.tmp q.f0)=.slice (some ⟨b0,off,none⟩) cap cap→a6.eval (.tmp q.f1)=.int .i64 i→a6.eval (.tmp q.k)=.int .i64 i →
    (∀ v,(a6.put (some q.f3) v).eval q.v=u)→u.cells.size=sz→(∀ x ∈ u.cells.toList,x.oneCell'=true) →
    wpOpsIn (Fw rd) n P ops (Exit.inBlock y (Exit.then (fun a' w'=>(Code.region r2 ⟨[g0,g1,g2]⟩ false).wpIn (Fw rd) n P (Exit.then K (Post S σ H w a.defers (.exit q.x (QaJ F q.writes) (H.set id .dead)))) a' w') (Exit.then K (Post S σ H w a.defers (.exit q.x (QaJ F q.writes) (H.set id .dead)))))) [j,j+1] a6 w1:=by
   intro a6 u ops j ho2 ho3 hK6 h0 h1 hk6 huv hus huo
   obtain⟨x0,x1,x2,x3⟩:=QA3 hm2 hu hsz
   refine Qdr (o:=m2) ho2 x1 x2 (.inl (x3 _ _ b0 off cap cap i h0 h1 hic)) ?_
   rw[x0]
   have hK7:=hK6.put wf3 (.pointer (some ⟨b0,off+i * sz,none⟩))
   have v7:=fun j=>getp a6 (z hK6 wf3) (.pointer (some ⟨b0,off+i * sz,none⟩)) j
   have hu7:=huv (.pointer (some ⟨b0,off+i * sz,none⟩))
   generalize a6.put (some q.f3) (.pointer (some ⟨b0,off+i * sz,none⟩))=a7 at hK7 v7 hu7
   obtain⟨x0,x1,x2,x3⟩:=QAB (P:=P) hm3
   have hle:i * sz+sz≤cap * sz:=by
    have:(i+1) * sz≤cap * sz:=Nat.mul_le_mul_right _ (by omega)
    rwa [Nat.add_mul,Nat.one_mul] at this
   obtain⟨arr,harr,hrun⟩:=x3 a7.eval w1 b0 (off+i * sz) te cur1 (by rw [v7,if_pos rfl]) hw1 (by rw [hu7,hus];exact hset) (by rw [hu7,hus];omega) (by rw [hu7];exact huo)
   refine Qdr (o:=m3) ho3 x1 x2 (.inr ⟨hrun,rfl⟩) ?_
   rw[x0]
   exact tail a7 _ hK7 (hO.setRow hw1 harr) (by rw [v7,if_neg (ne 8 1 rfl rfl (by decide)),hk6])
  refine wpIn_seq (wpIn_block (wpIn_region ?_))
  obtain⟨y0,y1,y2,y3⟩:=QeW (P:=P) hm0
  obtain⟨z0,z1,z2,z3⟩:=QeW (P:=P) hm1
  have first:∀ (ops:Array Oper) (is:List Nat) (Q:Exit→Act→World→Prop),ops[0]?=some m0→ops[1]?=some m1 →
    (∀ a7,Kept q.writes a a7→a7.eval (.tmp q.f0)=.slice (some ⟨b0,off,none⟩) cap cap→a7.eval (.tmp q.f1)=.int .i64 i→a7.eval (.tmp q.k)=.int .i64 i→wpOpsIn (Fw rd) n P ops Q is a7 w1) →
    wpOpsIn (Fw rd) n P ops Q (0::1::is) a5 w1:=by
   intro ops is Q ho0 ho1 hgo
   refine Qdr (o:=m0) ho0 y1 y2 (.inl (y3 _ _)) ?_
   rw[y0,s5]
   have hK6:=hK5.put wf0 (.slice (some ⟨b0,off,none⟩) cap cap)
   have v6:=fun j=>getp a5 (z hK5 wf0) (.slice (some ⟨b0,off,none⟩) cap cap) j
   generalize a5.put (some q.f0) (.slice (some ⟨b0,off,none⟩) cap cap)=a6 at hK6 v6
   refine Qdr (o:=m1) ho1 z1 z2 (.inl (z3 _ _)) ?_
   rw[z0,v6,if_neg (ne 6 1 rfl rfl (by decide)),k5]
   have hK7:=hK6.put wf1 (.int .i64 i)
   have v7:=fun j=>getp a6 (z hK6 wf1) (.int .i64 i) j
   generalize a6.put (some q.f1) (.int .i64 i)=a7 at hK7 v7
   exact hgo a7 hK7 (by rw [v7,if_neg (ne 7 6 rfl rfl (by decide)),v6,if_pos rfl]) (by rw [v7,if_pos rfl]) (by rw [v7,if_neg (ne 7 1 rfl rfl (by decide)),v6,if_neg (ne 6 1 rfl rfl (by decide)),k5])
  rcases hmid with hmid | ⟨m,hmid⟩
  ·rw[hmid] at hval ⊢
   cases hqv:q.v with
   | const c =>
    rw[hqv] at hval
    obtain⟨c1,c2⟩:=hcells w1 _ c hval (Qc9 c)
    show wpOpsIn (Fw rd) n P ⟨[m0,m1,m2,m3]⟩ _ [0,1,2,3] a5 w1
    exact first _ _ _ rfl rfl fun a7 hK7 h0 h1 h2=>put a7 c _ 2 rfl rfl hK7 h0 h1 h2 (fun v=>by rw [hqv];rfl) c1 c2
   | _=>rw [hqv] at hval;cases hval
  ·rw[hmid] at hval ⊢
   have hq2:∃ d op ty pos aft d',m=⟨some d,op,ty,pos,aft,none⟩∧q.v=.tmp d'∧d=d'∧∃ av,Qa0 P Q1r [] ⟨some d,op,ty,pos,aft,none⟩=some av∧Qmu P sz (some av)=true:=by
    unfold Q8n at hval
    split at hval
    ·rename_i h1 _;cases h1
    ·rename_i d op ty pos aft d' h1 h2
     injection h1 with h1 _
     split at hval
     ·rename_i hdd
      cases hpo:Qa0 P Q1r [] ⟨some d,op,ty,pos,aft,none⟩ with
      | none=>rw [hpo] at hval;cases hval
      | some av=>exact ⟨d,op,ty,pos,aft,d',h1,h2,hdd,av,hpo,by rw [hpo] at hval;exact hval⟩
     ·cases hval
    ·cases hval
   obtain⟨d,op,ty,pos,aft,_,rfl,hqv,rfl,av,hpo,hav⟩:=hq2
   have hdw:d ∈ q.writes:=by simp [SpoilR.writes,hmid,Q6Y]
   have hd11:(q.s::q.writes)[11]?=some d:=by simp [SpoilR.writes,hmid,Q6Y]
   show wpOpsIn (Fw rd) n P ⟨[m0,m1,⟨some d,op,ty,pos,aft,none⟩,m2,m3]⟩ _ [0,1,2,3,4] a5 w1
   refine first _ _ _ rfl rfl fun a7 hK7 h0 h1 h2=>?_
   have hρ:∀ x,VRel S [] [] w1 (Q1r x) (a7.eval x):=by
    intro x
    cases x with
    | const c=>exact Qc9 c
    | _=>exact .unk
   obtain⟨u,hu1,hu2⟩:=Qjc (P:=P) hI1 hρ hpo
   obtain⟨c1,c2⟩:=hcells w1 av u hav hu2
   refine Qdr (o:=⟨some d,op,ty,pos,aft,none⟩) rfl rfl (Qix hpo) (.inl hu1) ?_
   have hK8:=hK7.put hdw u
   have v8:=fun j=>getp a7 (z hK7 hdw) u j
   have e8:(a7.put (some d) u)=a7.put (Oper.dst ⟨some d,op,ty,pos,aft,none⟩) u:=rfl
   rw[← e8]
   generalize a7.put (some d) u=a8 at hK8 v8
   refine put a8 u _ 3 rfl rfl hK8 (by rw [v8,if_neg (ne 11 6 hd11 rfl (by decide)),h0]) (by rw [v8,if_neg (ne 11 7 hd11 rfl (by decide)),h1]) (by rw [v8,if_neg (ne 11 1 hd11 rfl (by decide)),h2]) (fun v=>?_) c1 c2
   rw[hqv,getp a8 (z hK8 wf3) v d,if_neg (ne 8 11 rfl hd11 (by decide)),v8,if_pos rfl]
 have loop:∀ (m:Nat) (a1:Act) (w1:World) (i:Nat),cap≤i+m→Kept q.writes a a1→OneBlock b0 w w1→a1.eval (.tmp q.k)=.int .i64 i →
   QtV (Fw rd) n P (Code.seq (.seq (.region r0 ⟨[p0,p1,p2,p3]⟩ false) (.cond (.tmp q.d3) .skip (.exit q.x))) (.seq (.block y (.region r1 ⟨m0::m1::(q.mid++[m2,m3])⟩ false)) (.region r2 ⟨[g0,g1,g2]⟩ false)))
    (Post S σ H w a.defers (.exit q.x (QaJ F q.writes) (H.set id .dead))) a1 w1:=by
  intro m
  induction m with
  | zero=>intro a1 w1 i hi hK hO hki;exact Qgz (head a1 w1 i hK hO hki _ fun hlt=>absurd hlt (by omega))
  | succ m ih=>intro a1 w1 i hi hK hO hki;exact Qgz (head a1 w1 i hK hO hki _ fun hlt a2 w2 hK2 hO2 hk2=>ih a2 w2 (i+1) (by omega) hK2 hO2 hk2)
 refine Qgs (loop cap a w n0.toNat (by omega) ⟨rfl,rfl,fun _ _=>rfl⟩ (OneBlock.refl _ _) ?_)
 show a.tmps.getD q.k undef=_
 rw[hvk]
 congr 1
 omega
theorem QhU [Globals] {cx:Cx} (hc:Qbw P cx.call) (hrn:Qcy P cx.round) (hm:P.follows .mixedOrders=true):∀ (c:Code) (F:Fr) (H:Heap) (out:Out),Qad P cx c F H=some out →
  ∀ (S:Nat→Prop) (σ:List Nat) (w:World) (a:Act),Inv S σ H w→FRel S σ H w F a.tmps→Qc6 σ H cx.around rd→c.wpIn (Fw rd) n P (Post S σ H w a.defers out) a w:=by
 intro c
 induction c with
 | skip =>
  intro F H out h S σ w a hI hF hA
  injection h with h
  subst h
  exact wpIn_skip ⟨S,σ,hI,Tr.refl _ _ _ _,hF,QbO.refl _ _ _ _ _ _⟩
 | label l =>
  intro F H out h S σ w a hI hF hA
  injection h with h
  subst h
  exact wpIn_label ⟨S,σ,hI,Tr.refl _ _ _ _,hF,QbO.refl _ _ _ _ _ _⟩
 | region id ops draw =>
  intro F H out h S σ w a hI hF hA
  simp only[Qad] at h
  cases draw with
  | true =>
   rw[if_pos rfl] at h
   obtain⟨⟨F',H'⟩,h1,rfl⟩:=Option.map_eq_some_iff.1 h
   exact Q6a hc hrn hm h1 hI hF fun a' w' hn=>hn
  | false =>
   rw[if_neg (by simp)] at h
   obtain⟨⟨F',H'⟩,h1,rfl⟩:=Option.map_eq_some_iff.1 h
   refine wpIn_region ?_
   have h2:=Q8y (rd:=rd) (n:=n) hc hrn _ 0 F H F' H' h1 (fun k _=>by simp) S σ w a (Post S σ H w a.defers (.norm F' H')) hI hF (fun a' w' hn=>hn)
   rw[List.range_eq_range']
   simpa using h2
 | seq x y ihx ihy =>
  intro F H out h S σ w a hI hF hA
  simp only[Qad] at h
  refine wpIn_seq ?_
  split at h
  ·rename_i F1 H1 hx
   refine wpIn_mono (ihx F H _ hx S σ w a hI hF hA) ?_
   rintro e a' w' hp
   cases e<;>first | exact hp.elim | skip
   obtain⟨S',σ',hI',hT,hF',hds⟩:=hp
   refine wpIn_mono (ihy F1 H1 out h S' σ' w' a' hI' hF' (hA.tr hT)) ?_
   intro e2 a2 w2 hp2
   exact hp2.comp hT hds
  ·rename_i hne
   refine wpIn_mono (ihx F H _ h S σ w a hI hF hA) ?_
   rintro e a' w' hp
   cases e with
   | normal =>
    cases out with
    | norm F' H'=>exact absurd h (hne F' H')
    | _=>exact hp.elim
   | _=>exact hp
 | cond c x y ihx ihy =>
  intro F H out h S σ w a hI hF hA
  simp only[Qad] at h
  have hr:=Qhu hI hF c
  split at h<;>first | (cases h;done) | skip
  ·rename_i hc'
   rw[hc'] at hr
   generalize hu:a.eval c=u at hr
   cases hr with
   | c hx =>
   cases hx
   exact wpIn_cond_true hu (ihx F H out h S σ w a hI hF hA)
  ·rename_i hc'
   rw[hc'] at hr
   generalize hu:a.eval c=u at hr
   cases hr with
   | c hx =>
   cases hx
   exact wpIn_cond_false hu (ihy F H out h S σ w a hI hF hA)
 | block id b ih =>
  intro F H out h S σ w a hI hF hA
  simp only[Qad] at h
  refine wpIn_block ?_
  split at h
  ·rename_i id' F' H' hb
   refine wpIn_mono (ih F H _ hb S σ w a hI hF hA) ?_
   rintro e a' w' hp
   cases e<;>first | exact hp.elim | skip
   obtain⟨rfl,hp⟩:=hp
   simp only[Exit.inBlock]
   split at h
   ·rename_i hid
    injection h with h
    subst h
    rw[if_pos hid]
    exact hp
   ·rename_i hid
    injection h with h
    subst h
    rw[if_neg hid]
    exact⟨rfl,hp⟩
  ·rename_i hne
   refine wpIn_mono (ih F H _ h S σ w a hI hF hA) ?_
   rintro e a' w' hp
   cases e with
   | exit id2 =>
    cases out with
    | exit id3 F' H'=>exact absurd h (hne id3 F' H')
    | _=>exact hp.elim
   | _=>exact hp
 | loop b ih =>
  intro F H out h S σ w a hI hF hA
  simp only[Qad] at h
  split at h
  ·rename_i o ho
   injection h with h
   subst h
   split at ho<;>first | (cases ho;done) | skip
   exact QyW ho hI hF
  split at h<;>first | (cases h;done) | skip
  rename_i haok
  refine Qgs ?_
  generalize ((Qab b).map (cx.hints.clear cx.fn)).getD []=cl at h
  generalize ((Qab b).map (cx.hints.fz cx.fn)).getD []=fz at h
  generalize hn0:H.length=n0 at h haok
  have key:∀ (k:Nat) (F1:Fr) (H1:Heap) (out:Out),iter (Qad P cx b) cl fz n0 k F1 H1=some out→∀ (S1:Nat→Prop) (σ1:List Nat) (w1:World) (a1:Act),Inv S1 σ1 H1 w1→FRel S1 σ1 H1 w1 F1 a1.tmps→Tr S σ H w S1 σ1 H1 w1→QbO w S1 σ1 H1 w1 a.defers a1.defers →
    QtV (Fw rd) n P b (Post S σ H w a.defers out) a1 w1:=by
   intro k
   induction k with
   | zero=>intro F1 H1 out h;cases h
   | succ k ihk =>
    intro F1 H1 out h S1 σ1 w1 a1 hI1 hF1 hT1 hd1
    simp only[iter] at h
    have hFc0:=hF1.clear cl
    split at h
    ·cases h
    rename_i q hq
    obtain⟨F3,H3⟩:=q
    obtain⟨S3,hI3,hFc,hTz⟩:=Q46 fz hI1 hFc0 hq
    have hT3:=hT1.trans hTz
    have hd3:=hd1.comp hT1.size hTz (QbO.refl _ _ _ _ _ _)
    have hA1:=hA.tr hT3
    obtain⟨σ2,hI2,hF2,hT2,hA2,hM2⟩:∃ σ2,Inv S3 σ2 (trim n0 F3 H3) w1∧FRel S3 σ2 (trim n0 F3 H3) w1 F3 a1.tmps∧Tr S σ H w S3 σ2 (trim n0 F3 H3) w1 ∧
      Qc6 σ2 (trim n0 F3 H3) cx.around rd∧QbO w S3 σ2 (trim n0 F3 H3) w1 a.defers a1.defers:=by
     unfold trim
     split
     ·rename_i hu
      obtain⟨u1,u2⟩:=hu
      exact⟨σ1.take n0,hI3.trim u2,⟨hFc.1,fun i=>(hFc.2 i).trim (PT.all_get rfl _ u1 i)⟩,hT3.trim hn0.symm,hA1.trim haok,hd3.trim⟩
     ·exact⟨σ1,hI3,hFc,hT3,hA1,hd3⟩
    refine Qgz ?_
    split at h
    ·rename_i F2 H2 hb
     refine wpIn_mono (ih _ _ _ hb S3 σ2 w1 a1 hI2 hF2 hA2) ?_
     rintro e a' w' hp
     cases e<;>first | exact hp.elim | skip
     obtain⟨S3,σ3,hI3,hT3,hF3,hd3⟩:=hp
     exact ihk F2 H2 out h S3 σ3 w' a' hI3 hF3 (hT2.trans hT3) (hM2.comp hT2.size hT3 hd3)
    ·rename_i hne
     refine wpIn_mono (ih _ _ _ h S3 σ2 w1 a1 hI2 hF2 hA2) ?_
     rintro e a' w' hp
     have hp':=hp.comp hT2 hM2
     cases e with
     | normal =>
      cases out with
      | norm F' H'=>exact absurd h (hne F' H')
      | _=>exact hp.elim
     | _=>exact hp'
  exact key cx.fuel F H out h S σ w a hI hF (Tr.refl _ _ _ _) (QbO.refl _ _ _ _ _ _)
 | scope b ih =>
  intro F H out h S σ w a hI hF hA
  simp only[Qad] at h
  refine Qz0 (wpIn_mono (ih F H out h S σ w a hI hF hA) ?_)
  intro e a' w' hp
  cases e with
  | goto l=>cases out<;>exact hp.elim
  | _=>exact hp
 | exit id =>
  intro F H out h S σ w a hI hF hA
  injection h with h
  subst h
  exact wpIn_exit ⟨rfl,S,σ,hI,Tr.refl _ _ _ _,hF,QbO.refl _ _ _ _ _ _⟩
 | ret =>
  intro F H out h S σ w a hI hF hA
  injection h with h
  subst h
  exact wpIn_ret ⟨S,σ,hI,Tr.refl _ _ _ _,hF,QbO.refl _ _ _ _ _ _⟩
 | rangeFunc f ps as b _ _ =>
  intro F H out h S σ w a hI hF hA
  simp only[Qad] at h
  obtain⟨⟨g,args⟩,hg,h⟩:=Option.bind_eq_some_iff.1 h
  obtain⟨⟨v,H2⟩,hcall,h⟩:=Option.bind_eq_some_iff.1 h
  simp only at hcall h
  obtain⟨hfn,hcs⟩:=hc g args _ v H2 hcall
  refine wpIn_rangeFunc fun fn _=>?_
  obtain⟨l,mark,w1,he,hI1,hT1,hM1⟩:=Qzt (P:=P) hI hF hA fn cx.fn ps as b
  have hl1:(σ++[l])[H.length]?=some l:=by rw [← hI.len];simp
  have ht1:QaR (H++[AObj.loop .ready none cx.fn F ps as b]) H.length=some 3:=by simp [QaR,AObj.tag]
  obtain⟨d,vs,hrun,hargs⟩:=Q5i (P:=P) ((Qhu hI hF f).tr hI hT1) (VRel.yld hl1 ht1) hg hfn
  refine⟨l,mark,w1,d,w1,g,vs,w1,he, ?_,fun _ _=>trivial,(hrun w1).2,(fun hd=>by cases hd),Qnu ((hcs S _ w1 vs hI1 hargs).mono ?_)⟩
  ·have:=(hrun w1).1
   simpa [resolve,rangeCall,Act.eval] using this
  ·rintro e w2 ⟨u,S2,σ2,rfl,hI2,hT2,hv⟩
   have hl2:σ2[H.length]?=some l:=by rw [hT2.fix _ (by simp) (by rw [ht1];simp) (by rw [ht1];simp)];exact hl1
   obtain⟨jump,w3,H3,hend,hI3,hT3,hj⟩:=Qrg (P:=P) h hI2 hl2
   have hT:Tr S σ H w S2 σ2 H3 w3:=hT1.trans (hT2.trans hT3)
   have hN:Next S σ H w a.defers F H3 { a with defers:=mark++a.defers } w3 :=
    ⟨S2,σ2,hI3,hT,hF.tr hI hT,hM1.comp hT1.size (hT2.trans hT3) (QbO.refl _ _ _ _ _ _)⟩
   refine⟨jump,w3,hend, ?_⟩
   rcases hj with ⟨rfl,rfl⟩ | ⟨rfl,rfl⟩ | ⟨id,rfl,rfl⟩
   ·exact hN
   ·exact wpIn_ret hN
   ·exact wpIn_exit ⟨rfl,hN⟩
 | goto l=>intro F H out h;cases h
 | refuse why=>intro F H out h;cases h
theorem Q5W:∀ (ts:List Tmp) (xs:List AV) (vs:List Value) (F:Fr) (tmps:Array Value),ts.length=xs.length→All2 (VRel S σ H w) xs vs→FRel S σ H w F tmps →
  FRel S σ H w (Qep F ts xs) ((ts.zip vs).foldl (fun tmps (t,a)=>tmps.setIfInBounds t a) tmps):=by
 intro ts
 induction ts with
 | nil=>intro xs vs F tmps h ha hF;cases xs<;>exact hF
 | cons t ts ih =>
  intro xs vs F tmps h ha hF
  cases ha with
  | nil=>simp at h
  | cons hx ha =>
   rw[Qep,List.zip_cons_cons,List.foldl_cons]
   exact ih _ _ _ _ (by simpa using h) ha (hF.set hx t)
theorem QqP [Globals] {l:Nat} {st:LoopState} {pend:Option Code} (h:Qij H l st pend=some H') (hI:Inv S σ H w) {b:Nat} (hb:σ[l]?=some b) :
  ∃ rec:Loop,w.heap[b]?=some (.loop rec)∧Inv S σ H' (w.putObj b (.loop { rec with state:=st,pending:=pend }))∧Tr S σ H w S σ H' (w.putObj b (.loop { rec with state:=st,pending:=pend })):=by
 unfold Qij at h
 split at h<;>first | (cases h;done) | skip
 rename_i st0 pend0 f F ps as bd hH
 injection h with h
 subst h
 obtain⟨rec,h1,_,_,h4,h5⟩:=Qr1 (st':=st) (pend':=pend) hI hH hb
 exact⟨rec,h1,h4,h5⟩
theorem Qy0 [Globals] {cx:Cx} (hc:Qbw P cx.call) (hrn:Qcy P cx.round) (hm:P.follows .mixedOrders=true):Qcy P (Qro P cx):=by
 intro id args H r H' h S σ w b vs hI hb ha
 unfold Qro at h
 split at h<;>first | (cases h;done) | skip
 rename_i st pend f F ps as bd hH
 split at h<;>first | (cases h;done) | skip
 rename_i hsz
 obtain⟨tv,d,g,h1,h2,h3⟩:=hI.obj id b _ hb hH
 have hl:=ha.length
 simp only[Array.length_toList] at hl
 refine⟨_,h1,by simp;omega,fun rd n=>roundIn_of_wpIn (F:=Fw rd) trivial ?_⟩
 split at h<;>first | (cases h;done) | skip
 rename_i q hq
 obtain⟨S0,hI0,hT0,ha0⟩:∃ S0,Inv S0 σ q.2 w∧Tr S σ H w S0 σ q.2 w∧All2 (VRel S0 σ q.2 w) q.1 vs.toList:=by
  unfold QtK at hq
  split at hq
  ·obtain⟨S0,hI0,hT0,ha0,_⟩:=QdW args vs.toList S H q.1 q.2 hI hq ha
   exact⟨S0,hI0,hT0,ha0⟩
  ·injection hq with hq
   subst hq
   exact⟨S,hI,Tr.refl _ _ _ _,ha⟩
 have hl0:=ha0.length
 simp only[Array.length_toList] at hl0
 split at h<;>first | (cases h;done) | skip
 rename_i F1 H1 has
 split at h<;>first | (cases h;done) | skip
 rename_i pend1 f1 F01 ps1 as1 bd1 hH1
 obtain⟨out,hbody,hend⟩:=Option.bind_eq_some_iff.1 h
 have hFr:FRel S0 σ q.2 w (Qep F ps.toList q.1) ((ps.zip vs).foldl (fun tmps (t,a)=>tmps.setIfInBounds t a) tv):=by
  have hF0:FRel S σ H w F tv:=⟨h2.symm,h3⟩
  have:=Q5W ps.toList q.1 vs.toList F tv (by simp only [Array.length_toList];omega) ha0 (hF0.tr hI hT0)
  rw[← Array.foldl_toList,Array.toList_zip]
  exact this
 have hA0:Qc6 σ H (some id) (some b):=⟨hb,by simp [QaR,hH,AObj.tag]⟩
 have hA:=hA0.tr hT0
 have w1:=QhU (n:=n) (rd:=some b) (P:=P) (cx:={ cx with fn:=f,around:=some id }) hc hrn hm as _ q.2 _ has S0 σ w { tmps:=(ps.zip vs).foldl (fun tmps (t,a)=>tmps.setIfInBounds t a) tv,defers:=[] } hI0 hFr hA
 refine wpIn_mono (F:=Fw (some b)) w1 ?_
 intro e a1 w1 hp
 cases e<;>first | exact hp.elim | skip
 obtain⟨S1,σ1,hI1,hT1,hF1,hM1⟩:=hp
 have hA1:=hA.tr hT1
 obtain⟨rec,g1,g2,g3,hI2,hT2⟩:=Qr1 (st':=.busy) (pend':=pend1) hI1 hH1 hA1.1
 have hr:({ rec with state:=LoopState.busy,pending:=pend1 }:Loop)={ rec with state:=.busy }:=by rw [← g3]
 rw[hr] at hI2 hT2
 refine⟨_,run_beginRound g1 g2, ?_⟩
 have w2:=QhU (n:=n) (rd:=some b) (P:=P) (cx:={ cx with fn:=f,around:=some id }) hc hrn hm bd F1 _ _ hbody S1 σ1 _ a1 hI2 (hF1.tr hI1 hT2) (hA1.tr hT2)
 refine wpIn_mono (F:=Fw (some b)) w2 ?_
 have key:∀ (jump:Option Code) (F2:Fr) (H2:Heap) (a2:Act) (w2:World),Next S1 σ1 (H1.set id (.loop .busy pend1 f1 F01 ps1 as1 bd1)) (w1.putObj b (.loop { rec with state:=.busy })) a1.defers F2 H2 a2 w2 →
   (Qij H2 id (if jump.isNone=true then .ready else .done) jump).map (fun H'=>(AV.c (.bool jump.isNone),H'))=some (r,H') →
   ∃ v w',(Instr.endRound b jump).run P w2=.ok v w'∧Qcw S σ H w r H' (.returned v) w':=by
  intro jump F2 H2 a2 w2 hN hls
  obtain⟨H3,hl3,he⟩:=Option.map_eq_some_iff.1 hls
  injection he with e1 e2
  subst e1
  subst e2
  obtain⟨S2,σ2,hI3,hT3,hF3,hM3⟩:=hN
  have hb2:σ2[id]?=some b:=((hA1.tr hT2).tr hT3).1
  obtain⟨rec2,k1,k2,k3⟩:=QqP hl3 hI3 hb2
  exact⟨_,_,run_endRound jump k1,_,S2,σ2,rfl,k2,hT0.trans (hT1.trans (hT2.trans (hT3.trans k3))),.c (.bool _)⟩
 intro e a2 w2 hp
 cases e with
 | normal =>
  cases out<;>first | exact hp.elim | skip
  exact key none _ _ _ _ hp hend
 | ret =>
  cases out<;>first | exact hp.elim | skip
  exact key (some .ret) _ _ _ _ hp hend
 | exit j =>
  cases out<;>first | exact hp.elim | skip
  obtain⟨rfl,hp⟩:=hp
  exact key (some (.exit _)) _ _ _ _ hp hend
 | _=>cases out<;>exact hp.elim
end
end Go.Ab
