/- A part of the proof: an interpreter on abstract values, proved right for every program; no condition. -/
import Derived.Test.YtiiannaficbjeaaDoorAbDraw
import Derived.Test.YtiiannaficbjeaaDoorAbSound2
namespace Go.Ab
set_option linter.unusedVariables false
set_option linter.unusedSimpArgs false
set_option linter.unusedSectionVars false
theorem QeT {α:Type} {ρ ρ':Operand→α} {ps:List (Nat × Operand)} (h:∀ p ∈ ps,ρ p.2=ρ' p.2):(ps.map fun p=>(p.1,ρ p.2))=ps.map fun p=>(p.1,ρ' p.2) :=
 List.map_congr_left fun p hp=>by rw [h p hp]
theorem Qdv {α:Type} {ρ ρ':Operand→α} {x:Option Operand} (h:∀ y,x=some y→ρ y=ρ' y):x.map ρ=x.map ρ':=by
 cases x with
 | none=>rfl
 | some y=>simp [h y rfl]
theorem Qjw [Globals] {P:Program} {ρ ρ':Operand→AV} {H:Heap} {o:Oper} (h:∀ x ∈ o.op.operands.toList,ρ x=ρ' x):Qa0 P ρ H o=Qa0 P ρ' H o:=by
 unfold Qa0
 cases ho:o.op with
 | call c =>
  rw[ho] at h
  obtain⟨callee,args,argTypes⟩:=c
  have ha:∀ x ∈ args.toList,ρ x=ρ' x:=fun x hx=>h x (by cases callee<;>simp [Op.operands,Call.operands] at hx ⊢<;>first | exact .inr hx | exact hx)
  cases callee with
  | builtin b =>
   cases b with
   | len =>
    simp only
    split
    ·rename_i x t e1 e2
     rw[ha x (by simp [e1])]
    ·rfl
   | max =>
    simp only
    split
    ·rename_i x xs e1
     rw[ha x (by simp [e1]),List.map_congr_left (f:=ρ) (g:=ρ') fun y hy=>ha y (by simp [e1,hy])]
    ·rfl
   | min =>
    simp only
    split
    ·rename_i x xs e1
     rw[ha x (by simp [e1]),List.map_congr_left (f:=ρ) (g:=ρ') fun y hy=>ha y (by simp [e1,hy])]
    ·rfl
   | cap =>
    simp only
    split
    ·rename_i x t e1 e2
     rw[ha x (by simp [e1])]
    ·rfl
   | _=>rfl
  | _=>rfl
 | build t ps =>
  rw[ho] at h
  simp only
  rw[QeT (ρ:=ρ) (ρ':=ρ') fun p hp=>h p.2 (by simp [Op.operands];exact ⟨p.1,by simpa using hp⟩)]
 | makeFunc f first captured =>
  rw[ho] at h
  cases f with
  | func f =>
   simp only
   rw[List.map_congr_left (f:=ρ) (g:=ρ') (l:=first.toList) fun y hy=>h y (by simp [Op.operands] at hy ⊢;exact .inl hy),
    List.map_congr_left (f:=ρ) (g:=ρ') (l:=captured.toList) fun y hy=>h y (by simp [Op.operands] at hy ⊢;exact .inr hy)]
  | _=>rfl
 | slice t x l hh m =>
  rw[ho] at h
  simp only
  rw[h x (by simp [Op.operands]),Qdv (x:=l) (ρ:=ρ) (ρ':=ρ') fun y hy=>h y (by simp [Op.operands,hy]),
   Qdv (x:=hh) (ρ:=ρ) (ρ':=ρ') fun y hy=>h y (by simp [Op.operands,hy]),Qdv (x:=m) (ρ:=ρ) (ρ':=ρ') fun y hy=>h y (by simp [Op.operands,hy])]
 | _ =>
  first
   | rfl
   | (rw [ho] at h;simp only [Op.operands] at h;simp [h])
theorem Qk8 [Globals] {P:Program} {sl:Option Nat} {ρ ρ':Operand→AV} {H:Heap} {o:Oper} (h:∀ x ∈ o.op.operands.toList,ρ x=ρ' x):QbF P sl ρ H o=QbF P sl ρ' H o:=by
 unfold QbF
 cases ho:o.op with
 | call c =>
  rw[ho] at h
  obtain⟨callee,args,argTypes⟩:=c
  have ha:∀ x ∈ args.toList,ρ x=ρ' x:=fun x hx=>h x (by cases callee<;>simp [Op.operands,Call.operands] at hx ⊢<;>first | exact .inr hx | exact hx)
  cases callee with
  | builtin b =>
   cases b with
   | append =>
    simp only
    split
    ·rename_i s x t t2 e1 e2
     rw[ha x (by simp [e1]),ha s (by simp [e1])]
    ·rfl
   | clear =>
    simp only
    split
    ·rename_i x t e1 e2
     rw[ha x (by simp [e1])]
    ·rfl
   | copy =>
    simp only
    split
    ·rename_i d s t t2 e1 e2
     rw[ha d (by simp [e1]),ha s (by simp [e1])]
    ·rfl
   | _=>rfl
  | _=>rfl
 | makeMap t r =>
  rw[ho] at h
  simp only
  rw[Qdv (x:=r) (ρ:=ρ) (ρ':=ρ') fun y hy=>h y (by simp [Op.operands,hy])]
 | buildSlice t len ps =>
  rw[ho] at h
  simp only
  rw[QeT (ρ:=ρ) (ρ':=ρ') fun p hp=>h p.2 (by simp [Op.operands];exact ⟨p.1,by simpa using hp⟩)]
 | _ =>
  first
   | rfl
   | (rw [ho] at h;simp only [Op.operands] at h;simp [h])
theorem Qrh {ρ ρ':Operand→AV} {o:Oper} (h:∀ x ∈ o.op.operands.toList,ρ x=ρ' x):QaG ρ o=QaG ρ' o:=by
 unfold QaG
 cases ho:o.op with
 | call c =>
  rw[ho] at h
  obtain⟨callee,args,argTypes⟩:=c
  cases callee with
  | value f =>
   simp only[Op.operands,Call.operands] at h
   simp only
   rw[h f (by simp),List.map_congr_left (f:=ρ) (g:=ρ') (l:=args.toList) fun y hy=>h y (by simp at hy ⊢;exact .inr hy)]
  | _=>rfl
 | _=>rfl
theorem Qs3 {ρ ρ':Operand→AV} {o:Oper} (h:∀ x ∈ o.op.operands.toList,ρ x=ρ' x):Qba ρ o=Qba ρ' o:=by
 unfold Qba
 cases ho:o.op with
 | call c =>
  rw[ho] at h
  obtain⟨callee,args,argTypes⟩:=c
  cases callee with
  | value f =>
   simp only[Op.operands,Call.operands] at h
   simp only
   rw[h f (by simp),List.map_congr_left (f:=ρ) (g:=ρ') (l:=args.toList) fun y hy=>h y (by simp at hy ⊢;exact .inr hy)]
  | _=>rfl
 | _=>rfl
theorem QyD [Globals] {P:Program} {cx:Cx} {r i:Nat} {F F':Fr} {H:Heap} {o:Oper} (h:∀ x ∈ o.op.operands.toList,Qa2 F x=Qa2 F' x):QaH P cx r i F H o=QaH P cx r i F' H o:=by
 unfold QaH
 rw[Qjw h,Qk8 h,Qrh h,Qs3 h]
theorem Qlz [Globals] {P:Program} {ρ ρ':Operand→AV} {o:Oper} (h:∀ x ∈ o.op.operands.toList,ρ x=ρ' x):Qb2 P ρ o=Qb2 P ρ' o:=by
 unfold Qb2
 rw[Qk8 (ρ:=QnC ρ) (ρ':=QnC ρ') fun x hx=>by unfold QnC;rw [h x hx]]
theorem Qg9 [Globals] {P:Program} {cx:Cx} {r i:Nat} {F F':Fr} {H:Heap} {o:Oper} (h:∀ x ∈ o.op.operands.toList,Qa2 F x=Qa2 F' x):QcU P cx r i F H o=QcU P cx r i F' H o:=by
 unfold QcU
 rw[Qlz h,QyD h]
theorem Q5n [Globals] {P:Program} {cx:Cx} {r i:Nat} {F:Fr} {H:Heap} {o:Oper} {v:AV} (h:Qa0 P (Qa2 F) H o=some v):QcU P cx r i F H o=some (v,H):=by
 unfold QcU
 have hb:Qb2 P (Qa2 F) o=none:=by
  unfold Qb2
  split
  ·rename_i ho
   simp[Qa0,ho] at h
  ·rfl
 rw[hb]
 simp only[QaH,h]
theorem Qyx [Globals] {P:Program} {rd:Option Nat} {n:Nat} {cx:Cx} (hc:Qbw P cx.call) (hrn:Qcy P cx.round) {r i:Nat} {ops:Array Oper} {o:Oper} {F F':Fr} {H H':Heap} (h:QyZ P cx r ops i o F H=some (F',H'))
  {S:Nat→Prop} {σ:List Nat} {w:World} {a:Act} (hI:Inv S σ H w) (hF:FRel S σ H w F a.tmps) (next:Act→World→Prop) (Q:Exit→Act→World→Prop)
  (hk:∀ a' w',Next S σ H w a.defers F' H' a' w'→next a' w') :
  if Region.wanted o (yielded ops a.tmps)=true then o.wpIn (Fw rd) n P a w next Q else ((∀ f,o.about P w a.eval=some f→(Fw rd).fn f)∧next (a.put o.dst undef) w):=by
 cases hw:QbS ops o F with
 | none=>simp [QyZ,hw] at h
 | some b =>
  cases b with
  | false=>exact QhI hc hrn (r:=r) (i:=i) (by simpa [QyZ,Qfg,hw] using h) hI hF next Q hk
  | true =>
   cases hb:Qb2 P (Qa2 F) o with
   | none=>exact QhI hc hrn (r:=r) (i:=i) (by simpa [QyZ,Qfg,QcU,hw,hb] using h) hI hF next Q hk
   | some v =>
    simp only[QyZ,QcU,hw,hb,Option.map_some,Option.some.injEq,Prod.mk.injEq] at h
    obtain⟨rfl,rfl⟩:=h
    rw[Qf1 hw hF,if_pos rfl]
    unfold Qb2 at hb
    split at hb<;>first | (cases hb;done) | skip
    obtain⟨⟨v1,H1⟩,he,hb⟩:=Option.bind_eq_some_iff.1 hb
    obtain⟨⟨v2,H2⟩,hf,rfl⟩:=Option.map_eq_some_iff.1 hb
    have hρ:∀ x,VRel S [] [] w (QnC (Qa2 F) x) (a.eval x):=fun x=>by
     unfold QnC
     split
     ·rename_i hp;exact (Qhu hI hF x).pure hp [] []
     ·exact .unk
    obtain⟨u,w',hr,S',σ',hI',hT,hv⟩:=QkN (QdK hI) hρ he
    obtain⟨S2,hI2,hT2,hv2,hst⟩:=Qf8 hI' hf hv
    obtain⟨hI3,hT3⟩:=outside hI (hT.trans hT2) hI2
    exact QfH (QkF he) hr (hk _ _ ⟨S2,σ,hI3,hT3,(hF.tr hI hT3).put (hv2.still hst σ _) _,Qd5 _ _⟩)
theorem QqF {ops:Array Oper} {o:Oper} {F F':Fr} (h:∀ j b d,o.guard=some (j,b)→(ops[j]?).bind (·.dst)=some d→F.get d=F'.get d):QbS ops o F=QbS ops o F':=by
 unfold QbS
 split
 ·rfl
 ·rename_i j want hg
  split
  ·rename_i d hd
   rw[h j want d hg hd]
  ·rfl
theorem Qy9 [Globals] {ops:Array Oper} {o:Oper} {F F':Fr} (h:∀ t ∈ readsOf ops o,F.get t=F'.get t) :
  (∀ x ∈ o.op.operands.toList,Qa2 F x=Qa2 F' x)∧(∀ j b d,o.guard=some (j,b)→(ops[j]?).bind (·.dst)=some d→F.get d=F'.get d):=by
 refine⟨fun x hx=>?_,fun j b d hg hd=>h d ?_⟩
 ·cases x with
  | tmp t =>
   have:=h t (List.mem_append_left _ (List.mem_filterMap.2 ⟨.tmp t,hx,rfl⟩))
   simpa [Qa2] using this
  | _=>rfl
 ·refine List.mem_append_right _ ?_
  rw[hg]
  simp only[hd]
  exact List.mem_singleton.2 rfl
def HM (H K:Heap):Prop:=∀ (i:Nat) (o:AObj),H[i]?=some o→o≠.slot→K[i]?=some o
theorem Qq2 {H K:Heap} (h:HM H K) {id ext:Nat} {r:TypeId × List IV} (hr:rowOf H id ext=some r):rowOf K id ext=some r:=by
 unfold rowOf at hr ⊢
 split at hr
 ·rename_i fz t cs heq
  rw[h _ _ heq (by intro h;cases h)]
  exact hr
 ·cases hr
theorem QdL {H K:Heap} (h:HM H K) {id ext:Nat} (hr:(rowOf H id ext).isSome=true):(rowOf K id ext).isSome=true:=by
 obtain⟨r,hr⟩:=Option.isSome_iff_exists.1 hr
 rw[Qq2 h hr]
 rfl
theorem Q58 {P:Program} {H K:Heap} (h:HM H K) {t:TypeId} {x v:AV} (hx:QaK P H t x=some v):QaK P K t x=some v:=by
 unfold QaK at hx ⊢
 split at hx
 ·exact hx
 ·split at hx
  ·rename_i heq
   rw[h _ _ heq (by intro h;cases h)]
   exact hx
  ·cases hx
 ·obtain⟨r,hr,hx⟩:=Option.bind_eq_some_iff.1 hx
  simp only[Qq2 h hr,Option.bind_some]
  exact hx
 ·cases hx
theorem Qmy {P:Program} {H K:Heap} (h:HM H K) {t:TypeId} {x i v:AV} (hx:Qa9 P H t x i=some v):Qa9 P K t x i=some v:=by
 unfold Qa9 at hx ⊢
 split at hx
 ·split at hx
  ·rename_i hu
   try simp only [hu]
   obtain⟨sz,hs,hx⟩:=Option.bind_eq_some_iff.1 hx
   simp only[hs,Option.bind_some]
   split at hx
   ·exact hx
   ·split at hx
    ·rename_i hc
     rw[if_pos ⟨hc.1,hc.2.1,hc.2.2.1,QdL h hc.2.2.2⟩]
     exact hx
    ·cases hx
   ·cases hx
  ·rename_i hu
   try simp only [hu]
   exact hx
  ·cases hx
 ·cases hx
theorem Qzc {P:Program} {H K:Heap} (h:HM H K) {t:TypeId} {x v:AV} {lo hi mx:Option AV} (hx:Qfo P H t x lo hi mx=some v):Qfo P K t x lo hi mx=some v:=by
 unfold Qfo at hx ⊢
 split at hx
 ·rename_i hu
  try simp only [hu]
  exact hx
 ·rename_i hu
  try simp only [hu]
  obtain⟨sz,hs,hx⟩:=Option.bind_eq_some_iff.1 hx
  simp only[hs,Option.bind_some]
  split at hx
  ·exact hx
  ·split at hx
   ·split at hx
    ·rename_i hc
     rw[if_pos ⟨hc.1,hc.2.1,hc.2.2.1,hc.2.2.2.1,hc.2.2.2.2.1,hc.2.2.2.2.2.1,QdL h hc.2.2.2.2.2.2⟩]
     exact hx
    ·cases hx
   ·obtain⟨a,ha,hx⟩:=Option.bind_eq_some_iff.1 hx
    obtain⟨b,hb,hx⟩:=Option.bind_eq_some_iff.1 hx
    split at hx
    ·rename_i hc
     simp only[ha,hb,Option.bind_some]
     rw[if_pos ⟨hc.1,hc.2.1,hc.2.2.1,hc.2.2.2.1,QdL h hc.2.2.2.2⟩]
     exact hx
    ·cases hx
  ·cases hx
 ·rename_i hu
  try simp only [hu]
  exact hx
 ·cases hx
theorem Qtu {P:Program} {H K:Heap} (h:HM H K) {t:TypeId} {x y:AV} {b:Bool} (hx:eqlA P H t x y=some b):eqlA P K t x y=some b:=by
 unfold eqlA at hx ⊢
 split at hx
 all_goals first
  | exact hx
  | (
    split at hx
    ·rename_i hc
     rw[if_pos ⟨hc.1,QdL h hc.2⟩]
     exact hx
    ·cases hx)
theorem Qtf {P:Program} {H K:Heap} (h:HM H K) {t:TypeId} {x k v:AV} {ok:Bool} (hx:QbJ P H t x k ok=some v):QbJ P K t x k ok=some v:=by
 unfold QbJ at hx ⊢
 obtain⟨m,hm,hx2⟩:=Option.bind_eq_some_iff.1 hx
 clear hx
 rw[hm,Option.bind_some]
 by_cases hk:QdU P m.1 k=true
 ·rw[if_pos hk] at hx2
  rw[if_pos hk]
  cases x
  case hmap id =>
   obtain⟨es,he,hx3⟩:=Option.bind_eq_some_iff.1 hx2
   clear hx2
   simp only at he ⊢
   split at he
   ·rename_i heq
    injection he with he
    subst he
    rw[h _ _ heq (by intro h;cases h)]
    exact hx3
   ·cases he
  case c y =>
   cases y
   all_goals exact hx2
  all_goals exact hx2
 ·rw[if_neg hk] at hx2
  cases hx2
theorem Q7C {P:Program} {H K:Heap} (h:HM H K) {t:TypeId} {x v:AV} (hx:capA P H t x=some v):capA P K t x=some v:=by
 unfold capA at hx ⊢
 split at hx
 all_goals first
  | (rename_i hu;(try simp only [hu]);exact hx)
  | (
    rename_i hu
    try simp only [hu]
    split at hx
    ·rename_i hc
     rw[if_pos (QdL h hc)]
     exact hx
    ·cases hx)
  | cases hx
theorem Q7D {P:Program} {H K:Heap} (h:HM H K) {op:BinOp} {t:TypeId} {x y v:AV} (hx:binA P H op t x y=some v):binA P K op t x y=some v:=by
 unfold binA at hx ⊢
 split at hx
 ·exact hx
 ·exact hx
 ·split at hx
  ·obtain⟨b,hb,rfl⟩:=Option.map_eq_some_iff.1 hx
   rw[Qtu h hb]
   rfl
  ·obtain⟨b,hb,rfl⟩:=Option.map_eq_some_iff.1 hx
   rw[Qtu h hb]
   rfl
  ·cases hx
theorem QyR [Globals] {P:Program} {ρ:Operand→AV} {H K:Heap} (h:HM H K) {o:Oper} {v:AV} (hx:Qa0 P ρ H o=some v):Qa0 P ρ K o=some v:=by
 obtain⟨dst,op,ty,pos,after,guard⟩:=o
 unfold Qa0 at hx ⊢
 cases op
 case load=>exact Q58 h hx
 case makeFunc fn first captured=>cases fn<;>exact hx
 case binOp=>exact Q7D h hx
 case slice=>exact Qzc h hx
 case indexAddr=>exact Qmy h hx
 case lookup=>exact Qtf h hx
 case call c =>
  obtain⟨callee,args,argTypes⟩:=c
  cases callee
  case builtin b =>
   cases b
   case cap =>
    simp only at hx ⊢
    split at hx
    ·rename_i e1 e2
     exact Q7C h hx
    ·cases hx
   all_goals exact hx
  all_goals exact hx
 all_goals exact hx
end Go.Ab
