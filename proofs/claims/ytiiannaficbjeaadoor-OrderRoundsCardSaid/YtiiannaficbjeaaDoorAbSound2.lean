/- A part of the proof: an interpreter on abstract values, proved right for every program; no condition. -/
import Derived.Test.YtiiannaficbjeaaDoorAbFrame
namespace Go.Ab
set_option linter.unusedVariables false
set_option linter.unusedSimpArgs false
set_option linter.unusedSectionVars false
open Go.RowKit
section
variable {S S' S'':Nat→Prop} {σ σ' σ'':List Nat} {H H' H'':Heap} {w w' w'':World} {P:Program} {rd:Option Nat} {n:Nat}
theorem Qf1 {ops:Array Oper} {o:Oper} {F:Fr} {tmps:Array Value} {b:Bool} (h:QbS ops o F=some b) (hF:FRel S σ H w F tmps):Region.wanted o (yielded ops tmps)=b:=by
 unfold QbS at h
 unfold Region.wanted
 split at h
 ·rename_i hg
  injection h with h
  simp[hg,h]
 ·rename_i j want hg
  split at h<;>first | (cases h;done) | skip
  rename_i d hd
  split at h<;>first | (cases h;done) | skip
  rotate_left
  ·rename_i hb
   injection h with h
   have:=hF.2 d
   rw[hb] at this
   generalize hu:tmps.getD d undef=u at this
   cases this with
   | @tup _ us h1 _ =>
   have hus:us=#[]:=by simpa using h1
   subst hus
   simp only[hg,yielded,hd,Option.bind_some,← h]
   rw[Array.getD_eq_getD_getElem?] at hu
   cases ht:tmps[d]? with
   | none=>simp
   | some x =>
    rw[ht] at hu
    have hx:x=.tuple #[]:=hu
    subst hx
    simp
  rename_i b' hb
  injection h with h
  have:=hF.2 d
  rw[hb] at this
  generalize hu:tmps.getD d undef=u at this
  cases this with
  | c hx =>
  cases hx
  have e:tmps[d]?=some (.bool b'):=by
   rw[Array.getD_eq_getD_getElem?] at hu
   cases ht:tmps[d]? with
   | none=>rw [ht] at hu;cases hu
   | some x=>rw [ht] at hu;exact congrArg some hu
  simp only[hg,yielded,hd,Option.bind_some,e,← h]
  simp
theorem QfH {o:Oper} {a:Act} {next:Act→World→Prop} {Q:Exit→Act→World→Prop} (hd:∀ c,o.op≠.defer c) {v:Value}
  (h:(execOp a.eval o).run P w=.ok (.value v) w'∨((execOp a.eval o).run P w=.ok .skip w'∧v=undef)) (hk:next (a.put o.dst v) w'):o.wpIn (Fw rd) n P a w next Q:=by
 refine⟨fun _ _=>trivial, ?_⟩
 rw[Oper.semAt_eq _ _ _ hd]
 rcases h with h | ⟨h,rfl⟩
 ·rw[h];exact hk
 ·rw[h];exact hk
theorem Qix {ρ:Operand→AV} {o:Oper} {v:AV} (h:Qa0 P ρ H o=some v):∀ c,o.op≠.defer c:=by
 intro c hc
 unfold Qa0 at h
 rw[hc] at h
 cases h
theorem QkF {sl:Option Nat} {ρ:Operand→AV} {o:Oper} {v:AV × Heap} (h:QbF P sl ρ H o=some v):∀ c,o.op≠.defer c:=by
 intro c hc
 unfold QbF at h
 rw[hc] at h
 cases h
theorem QvG {ρ:Operand→AV} {o:Oper} {v:FuncId × List AV} (h:QaG ρ o=some v):∀ c,o.op≠.defer c:=by
 intro c hc
 unfold QaG at h
 rw[hc] at h
 cases h
theorem QeA {α β:Type} {R:α→β→Prop} {xs xs':List α} {ys ys':List β} (h:All2 R xs ys) (h':All2 R xs' ys'):All2 R (xs++xs') (ys++ys'):=by
 induction h with
 | nil=>exact h'
 | cons h _ ih=>exact .cons h ih
theorem Qw9 [Globals] {ρa:Operand→AV} {ρ:Operand→Value} (hρ:∀ x,VRel S σ H w (ρa x) (ρ x)) {o:Oper} {g:FuncId} {args:List AV} (h:QaG ρa o=some (g,args))
  (hfn:∃ fn,P.funcs[g]?=some fn∧fn.body.isSome=true∧(fn.name == "runtime.NumGoroutine")=false) :
  ∃ vs:Array Value,(execOp ρ o).run P w=.ok (.enter g vs) w∧All2 (VRel S σ H w) args vs.toList:=by
 obtain⟨fn,h1,h2,h3⟩:=hfn
 have hcf:∀ vs:Array Value,(callFunc g vs).run P w=.ok (.enter g vs) w:=by
  intro vs
  have hb:fn.body.isNone=false:=by cases hb:fn.body<;>simp_all
  unfold callFunc
  rw[Sem.run_bind,run_program,Result.andThen_ok,h1]
  simp only[h3,hb,Bool.false_eq_true,if_false,Sem.run_pure]
 unfold QaG at h
 split at h<;>first | (cases h;done) | skip
 rename_i f args' at_ ho
 unfold execOp
 simp only[ho]
 have hf:=hρ f
 split at h<;>first | (cases h;done) | skip
 ·rename_i g' hfa
  injection h with h
  injection h with e1 e2
  subst e1
  subst e2
  rw[hfa] at hf
  generalize hv:ρ f=u at hf
  cases hf with
  | c hx =>
  cases hx
  refine⟨args'.map ρ, ?_, ?_⟩
  ·simp[resolve,hv,Deferred.ofValue,invoke,hcf]
  ·rw[Array.toList_map];exact All2.map_ops hρ args'.toList
 ·rename_i g' first captured hfa
  injection h with h
  injection h with e1 e2
  subst e1
  subst e2
  rw[hfa] at hf
  generalize hv:ρ f=u at hf
  cases hf with
  | clo l1 l2 r1 r2 =>
  rename_i vf vc
  refine⟨vf++args'.map ρ++vc, ?_, ?_⟩
  ·simp[resolve,hv,Deferred.ofValue,invoke,hcf]
  ·rw[Array.toList_append,Array.toList_append,Array.toList_map]
   have k1:CRel S σ H w _ vf:=⟨l1,r1⟩
   have k2:CRel S σ H w _ vc:=⟨l2,r2⟩
   exact QeA (QeA k1.list (All2.map_ops hρ args'.toList)) k2.list
theorem QvY [Globals] {cx:Cx} (hc:Qbw P cx.call) {r i:Nat} {g:FuncId} {args:List AV} {H H':Heap} {v:AV} (h:QbP cx r i g args H=some (v,H')) :
  (∃ fn,P.funcs[g]?=some fn∧fn.body.isSome=true∧(fn.name == "runtime.NumGoroutine")=false) ∧
  ∀ (S:Nat→Prop) (σ:List Nat) (w:World) (vs:Array Value),Inv S σ H w→All2 (VRel S σ H w) args vs.toList→Calls P g vs w (Qcw S σ H w v H'):=by
 unfold QbP at h
 split at h
 ·exact QkM hc h
 split at h
 ·exact hc g args H v H' h
 ·split at h
  ·exact QmD hc h
  ·split at h
   ·rename_i x hx
    injection h with h
    subst h
    exact QmO hc hx
   ·exact hc g args H v H' h
theorem Qym [Globals] {ρa:Operand→AV} {ρ:Operand→Value} (hρ:∀ x,VRel S σ H w (ρa x) (ρ x)) {o:Oper} {id:Nat} {args:List AV} (h:Qba ρa o=some (id,args)) :
  ∃ (b:Nat) (vs:Array Value),σ[id]?=some b∧All2 (VRel S σ H w) args vs.toList∧(∀ c,o.op≠.defer c) ∧
   ∀ rec:Loop,w.heap[b]?=some (.loop rec)→vs.size=rec.params.size →
    (execOp ρ o).run P w=.ok (.round b rec.fn ((rec.params.zip vs).foldl (fun tmps (t,a)=>tmps.setIfInBounds t a) rec.tmps) rec.assign rec.body) w:=by
 unfold Qba at h
 split at h<;>first | (cases h;done) | skip
 rename_i f args' at_ ho
 have hf:=hρ f
 split at h<;>first | (cases h;done) | skip
 rename_i id' hfa
 injection h with h
 injection h with e1 e2
 subst e1
 subst e2
 rw[hfa] at hf
 generalize hv:ρ f=u at hf
 cases hf with
 | yld hs hd =>
 rename_i b
 refine⟨b,args'.map ρ,hs, ?_,fun c hc=>(by rw [ho] at hc;cases hc),fun rec hb hsz=>?_⟩
 ·rw[Array.toList_map];exact All2.map_ops hρ args'.toList
 ·have hsz':¬ (args'.size≠rec.params.size):=by simpa using hsz
  unfold execOp
  simp only[ho]
  have hy:=run_yield (P:=P) (args:=args'.map ρ) hb hsz
  simp only[resolve,hv,Deferred.ofValue,invoke,Sem.run_bind,Sem.run_pure,Result.andThen_ok,Array.empty_append,hy]
def Next [Globals] (S:Nat→Prop) (σ:List Nat) (H:Heap) (w:World) (ds:List Deferred) (F':Fr) (H':Heap) (a:Act) (w':World):Prop :=
 ∃ S' σ',Inv S' σ' H' w'∧Tr S σ H w S' σ' H' w'∧FRel S' σ' H' w' F' a.tmps∧QbO w S' σ' H' w' ds a.defers
theorem Qd5 [Globals] {a:Act} {S':Nat→Prop} {σ':List Nat} {H':Heap} {w':World} (dst:Option Tmp) (v:Value):QbO w S' σ' H' w' a.defers (a.put dst v).defers:=by
 rw[put_defers]
 exact QbO.refl _ _ _ _ _ _
theorem QhI [Globals] {cx:Cx} (hc:Qbw P cx.call) (hrn:Qcy P cx.round) {r i:Nat} {ops:Array Oper} {o:Oper} {F F':Fr} {H H':Heap} (h:Qfg P cx r ops i o F H=some (F',H'))
  {S:Nat→Prop} {σ:List Nat} {w:World} {a:Act} (hI:Inv S σ H w) (hF:FRel S σ H w F a.tmps) (next:Act→World→Prop) (Q:Exit→Act→World→Prop)
  (hk:∀ a' w',Next S σ H w a.defers F' H' a' w'→next a' w') :
  if Region.wanted o (yielded ops a.tmps)=true then o.wpIn (Fw rd) n P a w next Q else ((∀ f,o.about P w a.eval=some f→(Fw rd).fn f)∧next (a.put o.dst undef) w):=by
 unfold Qfg at h
 split at h<;>first | (cases h;done) | skip
 ·rename_i hw
  rw[Qf1 hw hF,if_pos rfl]
  obtain⟨⟨v,H1⟩,h1,h⟩:=Option.map_eq_some_iff.1 h
  injection h with e1 e2
  simp only at e1 e2
  subst e1
  subst e2
  unfold QaH at h1
  have hρ:=fun x=>Qhu hI hF x
  split at h1
  ·rename_i v' hp
   injection h1 with h1
   injection h1 with e1 e2
   subst e1
   subst e2
   obtain⟨u,hr,hv⟩:=Qjc hI hρ hp
   exact QfH (Qix hp) (.inl hr) (hk _ _ ⟨S,σ,hI,Tr.refl _ _ _ _,hF.put hv _,Qd5 _ _⟩)
  ·split at h1
   ·rename_i s' he
    injection h1 with h1
    subst h1
    obtain⟨u,w',hr,S',σ',hI',hT,hv⟩:=QkN hI hρ he
    exact QfH (QkF he) hr (hk _ _ ⟨S',σ',hI',hT,(hF.tr hI hT).put hv _,Qd5 _ _⟩)
   ·split at h1
    ·rename_i y hy
     obtain⟨b,vs,hs,ha,hnd,hrun⟩:=Qym (P:=P) hρ hy
     obtain⟨rec,hb,hsz,hround⟩:=hrn _ _ _ _ _ h1 S σ w b vs hI hs ha
     refine⟨fun _ _=>trivial, ?_⟩
     rw[Oper.semAt_eq _ _ _ hnd,hrun rec hb hsz]
     refine⟨(fun hd=>by cases hd),RoundIn.mono (hround rd (n-1)) ?_⟩
     rintro e w' ⟨u,S',σ',rfl,hI',hT,hv⟩
     exact hk _ _ ⟨S',σ',hI',hT,(hF.tr hI hT).put hv _,Qd5 _ _⟩
    ·obtain⟨⟨g,args⟩,hg,h1⟩:=Option.bind_eq_some_iff.1 h1
     obtain⟨hfn,hcall⟩:=QvY hc h1
     obtain⟨vs,hr,ha⟩:=Qw9 hρ hg hfn
     refine⟨fun _ _=>trivial, ?_⟩
     rw[Oper.semAt_eq _ _ _ (QvG hg),hr]
     refine⟨(fun hd=>by cases hd),Qnu ((hcall S σ w vs hI ha).mono ?_)⟩
     rintro e w' ⟨u,S',σ',rfl,hI',hT,hv⟩
     exact hk _ _ ⟨S',σ',hI',hT,(hF.tr hI hT).put hv _,Qd5 _ _⟩
 ·rename_i hw
  rw[Qf1 hw hF,if_neg (by simp)]
  injection h with h
  injection h with e1 e2
  subst e1
  subst e2
  exact⟨fun _ _=>trivial,hk _ _ ⟨S,σ,hI,Tr.refl _ _ _ _,hF.put (VRel.tup rfl fun i x hi=>by simp at hi) _,Qd5 _ _⟩⟩
theorem Next.comp [Globals] {ds ds':List Deferred} {F':Fr} {a:Act} (hT:Tr S σ H w S' σ' H' w') (hM:QbO w S' σ' H' w' ds ds') (h:Next S' σ' H' w' ds' F' H'' a w''):Next S σ H w ds F' H'' a w'':=by
 obtain⟨S2,σ2,h1,h2,h3,h4⟩:=h
 exact⟨S2,σ2,h1,hT.trans h2,h3,hM.comp hT.size h2 h4⟩
theorem Q8y [Globals] {cx:Cx} (hc:Qbw P cx.call) (hrn:Qcy P cx.round) {r:Nat} {ops:Array Oper}:∀ (os:List Oper) (i:Nat) (F:Fr) (H:Heap) (F':Fr) (H':Heap),Qd9 P cx r ops os i F H=some (F',H') →
  (∀ k,k<os.length→ops[i+k]?=os[k]?) →
  ∀ (S:Nat→Prop) (σ:List Nat) (w:World) (a:Act) (Q:Exit→Act→World→Prop),Inv S σ H w→FRel S σ H w F a.tmps→(∀ a' w',Next S σ H w a.defers F' H' a' w'→Q .normal a' w')→wpOpsIn (Fw rd) n P ops Q (List.range' i os.length) a w:=by
 intro os
 induction os with
 | nil =>
  intro i F H F' H' h _ S σ w a Q hI hF hk
  injection h with h
  injection h with e1 e2
  subst e1
  subst e2
  exact hk a w ⟨S,σ,hI,Tr.refl _ _ _ _,hF,QbO.refl _ _ _ _ _ _⟩
 | cons o os ih =>
  intro i F H F' H' h hops S σ w a Q hI hF hk
  have ho:ops[i]?=some o:=by have:=hops 0 (by simp);simpa using this
  have hrest:∀ k,k<os.length→ops[i+1+k]?=os[k]?:=fun k hk=>by
   have:=hops (k+1) (by simp;omega)
   rw[show i+1+k=i+(k+1) by omega,this]
   simp
  unfold Qd9 at h
  rw[List.length_cons,List.range'_succ]
  unfold wpOpsIn
  rw[ho]
  split at h<;>first | (cases h;done) | skip
  rename_i F1 H1 hs
  have:=QhI (rd:=rd) (n:=n) hc hrn hs hI hF (wpOpsIn (Fw rd) n P ops Q (List.range' (i+1) os.length)) Q (fun a' w' hn=>by
   obtain⟨S',σ',hI',hT,hF',hd⟩:=hn
   exact ih (i+1) F1 H1 F' H' h hrest S' σ' w' a' Q hI' hF' fun a2 w2 hn2=>hk a2 w2 (hn2.comp hT hd))
  exact this
end
end Go.Ab
