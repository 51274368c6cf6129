/- A part of the proof: an interpreter on abstract values, proved right for every program; no condition. -/
import Derived.Test.YtiiannaficbjeaaDoorAbPure
namespace Go.Ab
set_option linter.unusedVariables false
set_option linter.unusedSimpArgs false
set_option linter.unusedSectionVars false
section
variable {S:Nat→Prop} {σ:List Nat} {H:Heap} {w:World} {P:Program}
theorem Qjg [Globals] {a b:AV} {v:Value} {n:Nat} (h:QaC a n=some b) (hr:VRel S σ H w a v) :
  ∃ ad:Addr,v=.pointer (some ad)∧VRel S σ H w b (.pointer (some (ad.add n))):=by
 unfold QaC at h
 split at h<;>first | (injection h with h;subst h) | cases h
 ·cases hr with
  | c hr =>
   cases hr with
   | iptr ad us hc hr =>
    refine⟨_,rfl,.c ?_⟩
    rw[add_add]
    exact .iptr ad us hc hr
 ·cases hr with
  | ptr hs hd=>exact ⟨_,rfl,by rw [QeB];exact .ptr hs hd⟩
 ·cases hr with
  | eptr hd hh =>
   refine⟨_,rfl,.eptr hd fun fz t cs hc=>⟨(hh fz t cs hc).1,fun he=>?_⟩⟩
   obtain⟨b,h1,rfl⟩:=(hh fz t cs hc).2 he
   exact⟨b,h1,by rw [QeB]⟩
theorem QmV {o:Oper} {x:Operand} (ho:o.op=.nilCheck x) {av:AV} {ρ:Operand→Value} {y:AV} {v:Value} (hv:ρ x=v) (hy:VRel S σ H w y v) (h:QdH y=some av) :
  ∃ u,(execOp ρ o).run P w=.ok (.value u) w∧VRel S σ H w av u:=by
 unfold QdH at h
 refine⟨v, ?_, ?_⟩
 ·unfold execOp
  simp only[ho,hv]
  split at h<;>first | (cases h;done) | skip
  ·cases hy with
   | c hy=>cases hy with
    | iptr ad us hc hr=>rfl
  ·cases hy with
   | c hy=>cases hy with
    | fn f=>rfl
  all_goals (cases hy;rfl)
 ·split at h<;>first | (injection h with h;subst h;exact hy) | cases h
theorem run_sizeOf {t:TypeId} {n:Nat} (h:Qb0 P t=some n):(sizeOf t).run P w=.ok n w:=by
 obtain⟨i,hi,rfl⟩:=Option.map_eq_some_iff.1 h
 simp[sizeOf,typeInfo,hi]
theorem Qi6 {s:TypeId} {f:Nat} {fd:Field} (h:QqK P s f=some fd):∃ fs,P.underlying s=some (.struct fs)∧fs[f]?=some fd:=by
 unfold QqK at h
 split at h
 ·rename_i fs hu;exact ⟨fs,hu,h⟩
 ·cases h
theorem Qmf [Globals] {s:TypeId} {f:Nat} {x av:AV} {v:Value} (h:Qa3 P s x f=some av) (hx:VRel S σ H w x v) :
  ∃ u,(Instr.fieldAt s v f).run P w=.ok u w∧VRel S σ H w av u:=by
 unfold Qa3 at h
 obtain⟨fd,hfd,h⟩:=Option.bind_eq_some_iff.1 h
 obtain⟨n,hn,h⟩:=Option.bind_eq_some_iff.1 h
 split at h
 ·cases h
 ·rename_i hn0
  obtain⟨fs,hu,hf⟩:=Qi6 hfd
  obtain⟨ad,rfl,hr⟩:=Qjg h hx
  refine⟨_, ?_,hr⟩
  have hs:=run_sizeOf (w:=w) hn
  simp[Instr.fieldAt,run_underlying hu,hf,Instr.sureAddr,fieldPlace,hs,hn0]
theorem Qnw [Globals] {t:TypeId} {cs:List AV} {vs:Array Value} {off:Nat} {av:AV} (h:QBa P t cs off=some av) (h1:vs.size=cs.length) (h2:∀ x ∈ cs,AV.isCell x=true)
  (hr:∀ i x,cs[i]?=some x→VRel S σ H w x (vs.getD i undef)):∃ u,(part t vs off).run P w=.ok u w∧VRel S σ H w av u:=by
 unfold QBa Qem at h
 obtain⟨b,hb,h⟩:=Option.bind_eq_some_iff.1 h
 cases b with
 | true =>
  simp only at h
  obtain⟨n,hn,h⟩:=Option.bind_eq_some_iff.1 h
  obtain⟨l,hl,rfl⟩:=Option.map_eq_some_iff.1 h
  have hs:=run_sizeOf (w:=w) hn
  refine⟨.agg (vs.extract off (off+n)), ?_, ?_⟩
  ·unfold part
   rw[Sem.run_bind,Qme hb,Result.andThen_ok]
   simp only[if_true,Sem.run_bind,hs,Result.andThen_ok,Sem.run_pure]
  ·have hle:=(Qc7 hl).1
   have:=VRel.agg_of (S:=S) (σ:=σ) (H:=H) (w:=w) (fun j=>vs.getD j undef) hl h2 hr
   have e:vs.extract off (off+n)=((List.range n).map fun j=>vs.getD (off+j) undef).toArray:=by
    apply Array.ext
    ·simp;omega
    ·intro i hi1 hi2
     have hi:i<n:=by simpa using hi2
     have:off+i<vs.size:=by omega
     simp[Array.getD,this]
   rw[e]
   exact this
 | false =>
  simp only at h
  obtain⟨hlt,he⟩:=List.getElem?_eq_some_iff.1 h
  have hv:vs[off]?=some (vs.getD off undef):=by
   have:off<vs.size:=by omega
   simp[Array.getD,this]
  have hr':=hr _ _ h
  generalize vs.getD off undef=u at hv hr'
  refine⟨u, ?_,hr'⟩
  unfold part
  rw[Sem.run_bind,Qme hb,Result.andThen_ok,hv]
  rfl
theorem Qyy [Globals] {s:TypeId} {f:Nat} {x av:AV} {v:Value} (h:QoM P s x f=some av) (hx:VRel S σ H w x v) :
  ∃ u,(Instr.field s v f).run P w=.ok u w∧VRel S σ H w av u:=by
 unfold QoM at h
 split at h
 ·obtain⟨fd,hfd,h⟩:=Option.bind_eq_some_iff.1 h
  obtain⟨fs,hu,hf⟩:=Qi6 hfd
  cases hx with
  | agg h1 h2 hr =>
   obtain⟨u,hp,hv⟩:=Qnw h h1 h2 hr
   exact⟨u,by simp [Instr.field,run_underlying hu,hf,asAgg,hp],hv⟩
 ·cases h
theorem Q9X {id off len ext sz:Nat} {v:Value} (h:VRel S σ H w (.hsl id off len ext sz) v):QaR H id=some 0:=by
 cases h with
 | hsl hd _=>exact hd
theorem QcR [Globals] {id off len ext sz:Nat} {v:Value} (h:VRel S σ H w (.hsl id off len ext sz) v) (hI:Inv S σ H w) {r:TypeId × List IV} (hr:rowOf H id ext=some r) :
  ∃ b cur cap,σ[id]?=some b∧v=.slice (some ⟨b,off,none⟩) len cap∧w.heap[b]?=some (.cells cur r.1 (0,0))∧len≤cap∧cap≤maxLen∧off+cap * sz=cur.size ∧
   r.2.length≤cur.size∧ext=r.2.length∧(∀ i x,r.2[i]?=some x→IRel S w x (cur.getD i undef)):=by
 cases h with
 | hsl hd hh =>
  have h2:=QkW hr
  obtain⟨b,cur,e,hb,ha,hw,hlc,hcm,hoc⟩:=(Qmw hr hh).2 h2
  subst ha
  obtain⟨b',cur',hb',hw',h4,h5,_⟩:=hI.row hr
  rw[hb] at hb'
  injection hb' with hb'
  subst hb'
  rw[hw] at hw'
  injection hw' with hw'
  injection hw' with e1 e2
  subst e1
  subst e2
  exact⟨b,cur,_,hb,rfl,hw,hlc,hcm,hoc,h4,h2,h5⟩
theorem QjY [Globals] (hI:Inv S σ H w) {t:TypeId} {x i av:AV} {v vi:Value} (h:Qa9 P H t x i=some av) (hx:VRel S σ H w x v) (hi:VRel S σ H w i vi) :
  ∃ u,(Instr.indexAt t v vi).run P w=.ok u w∧VRel S σ H w av u:=by
 unfold Qa9 at h
 split at h<;>first | (cases h;done) | skip
 rename_i k n
 cases hi with
 | c hi =>
 cases hi
 split at h<;>first | (cases h;done) | skip
 ·rename_i e hu
  obtain⟨sz,hsz,h⟩:=Option.bind_eq_some_iff.1 h
  have hs:=run_sizeOf (w:=w) hsz
  split at h<;>first | (cases h;done) | skip
  ·split at h<;>first | (cases h;done) | skip
   rename_i hb
   injection h with h
   subst h
   cases hx with
   | c hx =>
   cases hx with
   | slice us hn hz hk hl hm hc hr =>
   rename_i a
   cases a with
   | none =>
    have:=hz rfl
    omega
   | some ad =>
    refine⟨.pointer (some (ad.add (n.toNat * sz))), ?_, ?_⟩
    ·simp[Instr.indexAt,asIntOf,run_underlying hu,hb,hs]
    ·refine .c (.iptr ad us (fun j hj=>?_) hr)
     obtain⟨ad',h1,h2,h3⟩:=hc j hj
     injection h1 with h1
     subst h1
     exact⟨h2,h3⟩
  ·split at h<;>first | (cases h;done) | skip
   rename_i id off len ext sz' _ hb
   injection h with h
   subst h
   obtain⟨h0,h1,rfl,h3⟩:=hb
   obtain⟨r,hr⟩:=Option.isSome_iff_exists.1 h3
   obtain⟨b,cur,cap,hb,rfl,hw,hlc,hcm,hoc,h4,h2,h5⟩:=QcR hx hI hr
   refine⟨.pointer (some ⟨b,off+n.toNat * sz',none⟩), ?_,.eptr ?_ fun fz' t' cs hc=>?_⟩
   ·simp[Instr.indexAt,asIntOf,run_underlying hu,h0,h1,hs,QeB]
   ·cases hx with
    | hsl hd _=>exact hd
   ·obtain⟨fz,hrow,_⟩:=Qcl hr
    rw[hrow] at hc
    injection hc with hc
    injection hc with e0 e1 e2
    subst e2
    exact⟨by omega,fun _=>⟨b,hb,rfl⟩⟩
 ·rename_i m e hu
  obtain⟨sz,hsz,h⟩:=Option.bind_eq_some_iff.1 h
  have hs:=run_sizeOf (w:=w) hsz
  split at h<;>first | (cases h;done) | skip
  rename_i hb
  obtain⟨ad,rfl,hr⟩:=Qjg h hx
  refine⟨_, ?_,hr⟩
  simp[Instr.indexAt,asIntOf,run_underlying hu,Instr.sureAddr,hb,hs]
theorem Qye [Globals] {t:TypeId} {x i av:AV} {v vi:Value} (h:QpE P t x i=some av) (hx:VRel S σ H w x v) (hi:VRel S σ H w i vi) :
  ∃ u,(Instr.index t v vi).run P w=.ok u w∧VRel S σ H w av u:=by
 unfold QpE at h
 split at h<;>first | (cases h;done) | skip
 rename_i k n
 cases hi with
 | c hi =>
 cases hi
 split at h<;>first | (cases h;done) | skip
 ·rename_i m e cs hu
  obtain⟨sz,hsz,h⟩:=Option.bind_eq_some_iff.1 h
  have hs:=run_sizeOf (w:=w) hsz
  split at h<;>first | (cases h;done) | skip
  rename_i hb
  cases hx with
  | agg h1 h2 hr =>
   obtain⟨u,hp,hv⟩:=Qnw h h1 h2 hr
   exact⟨u,by simp [Instr.index,asIntOf,run_underlying hu,hb,hs,hp],hv⟩
 ·rename_i s hu
  cases hx with
  | c hx =>
  cases hx
  split at h<;>first | (cases h;done) | skip
  rename_i hb
  obtain⟨b,hb',rfl⟩:=Option.map_eq_some_iff.1 h
  exact⟨.int .u8 b.toNat,by simp [Instr.index,asIntOf,run_underlying hu,hb,hb'],.c (.int _ _)⟩
theorem Qd6 {d n:Nat} {x:Option AV} {v:Option Value} (h:Qcp d x=some n) (hv:x.isSome=v.isSome) (hr:∀ a u,x=some a→v=some u→VRel S σ H w a u) :
  (x=none∧v=none∧n=d)∨∃ k i,v=some (.int k i)∧0≤i∧n=i.toNat:=by
 unfold Qcp at h
 split at h<;>first | (cases h;done) | skip
 ·injection h with h
  cases v with
  | none=>exact .inl ⟨rfl,rfl,h.symm⟩
  | some u=>cases hv
 ·rename_i k i
  split at h<;>first | (cases h;done) | skip
  rename_i h0
  injection h with h
  cases v with
  | none=>cases hv
  | some u =>
   have:=hr _ _ rfl rfl
   cases this with
   | c hh=>cases hh;exact .inr ⟨k,i,rfl,h0,h.symm⟩
theorem Qib [Globals] {isSlice:Bool} {len cap l h:Nat} {lo hi:Option AV} {vlo vhi:Option Value} (hh:Qcp len hi=some h) (hl:Qcp 0 lo=some l)
  (h1:hi.isSome=vhi.isSome) (h2:lo.isSome=vlo.isSome) (r1:∀ a u,hi=some a→vhi=some u→VRel S σ H w a u) (r2:∀ a u,lo=some a→vlo=some u→VRel S σ H w a u)
  (hle:l≤h) (hc:h≤cap):(Instr.sliceBounds isSlice len cap vlo vhi none).run P w=.ok (l,h,cap) w:=by
 rcases Qd6 hh h1 r1 with ⟨_,rfl,rfl⟩ | ⟨k,i,rfl,h0,rfl⟩
 ·rcases Qd6 hl h2 r2 with ⟨_,rfl,rfl⟩ | ⟨k,i,rfl,h0,rfl⟩
  ·simp[Instr.sliceBounds]
  ·have:0≤i∧i≤(h:Int):=⟨h0,by omega⟩
   simp[Instr.sliceBounds,Instr.sliceBound,asIntOf,this]
 ·have e1:0≤i∧i≤(cap:Int):=⟨h0,by omega⟩
  rcases Qd6 hl h2 r2 with ⟨_,rfl,rfl⟩ | ⟨k',i',rfl,h0',rfl⟩
  ·simp[Instr.sliceBounds,Instr.sliceBound,asIntOf,e1]
  ·have e2:0≤i'∧i'≤((i.toNat:Nat):Int):=⟨h0',by omega⟩
   have e2':0≤i'∧i'≤max i 0:=⟨h0',by omega⟩
   simp[Instr.sliceBounds,Instr.sliceBound,asIntOf,e1,e2,e2']
theorem IRel.sub [Globals] {cells:List IV} {len cap:Nat} {isNil:Bool} {kc:Option Nat} {a:Option Addr} {sz l h:Nat} (hx:IRel S w (.slice cells len isNil kc) (.slice a len cap))
  (hle:l≤h) (hh:h≤len) (hcl:cells.length=len * sz) :
  IRel S w (.slice ((cells.drop (l * sz)).take ((h-l) * sz)) (h-l) isNil (kc.map (· - l))) (.slice (if cap=l then a else a.map (·.add (l * sz))) (h-l) (cap-l)):=by
 cases hx with
 | slice us hn hz hk hl hm hc hr =>
 have hmul:(h-l) * sz+l * sz=h * sz:=by rw [← Nat.add_mul];congr 1;omega
 have hmul2:h * sz≤len * sz:=Nat.mul_le_mul_right _ hh
 refine .slice (fun j=>us (l * sz+j)) ?_ ?_ ?_ (by omega) (by omega) (fun j hj=>?_) (fun j x hx=>?_)
 ·split
  ·exact hn
  ·rw[hn];cases a<;>rfl
 ·intro he
  have:a=none:=by
   split at he
   ·exact he
   ·cases a with
    | none=>rfl
    | some _=>cases he
  have:=hz this
  omega
 ·intro k hk'
  obtain⟨q,hq,rfl⟩:=Option.map_eq_some_iff.1 hk'
  rw[hk q hq]
 ·simp only[List.length_take,List.length_drop] at hj
  obtain⟨ad,h1,h2,h3⟩:=hc (l * sz+j) (by omega)
  subst h1
  have hne:cap≠l:=by
   intro he
   have:h=l:=by omega
   subst this
   simp at hj
  rw[if_neg hne]
  exact⟨_,rfl,by rw [QxU];exact h2,by rw [add_add];exact h3⟩
 ·have hj:j<(h-l) * sz:=by
   have:=(List.getElem?_eq_some_iff.1 hx).1
   simp at this
   omega
  rw[List.getElem?_take_of_lt hj,List.getElem?_drop] at hx
  exact hr _ _ hx
theorem Qy7 [Globals] {isSlice:Bool} {len cap l h k:Nat} {lo hi mx:Option AV} {vlo vhi vmx:Option Value} (hh:Qcp 0 hi=some h) (hk:Qcp 0 mx=some k) (hl:Qcp 0 lo=some l)
  (h1:hi.isSome=vhi.isSome) (h2:lo.isSome=vlo.isSome) (h3:mx.isSome=vmx.isSome) (r1:∀ a u,hi=some a→vhi=some u→VRel S σ H w a u) (r2:∀ a u,lo=some a→vlo=some u→VRel S σ H w a u)
  (r3:∀ a u,mx=some a→vmx=some u→VRel S σ H w a u) (s1:hi.isSome=true) (s3:mx.isSome=true)
  (hle:l≤h) (hhk:h≤k) (hc:k≤cap):(Instr.sliceBounds isSlice len cap vlo vhi vmx).run P w=.ok (l,h,k) w:=by
 rcases Qd6 hh h1 r1 with ⟨rfl,_,_⟩ | ⟨kk,i,rfl,h0,rfl⟩
 ·cases s1
 rcases Qd6 hk h3 r3 with ⟨rfl,_,_⟩ | ⟨kk2,i2,rfl,h02,rfl⟩
 ·cases s3
 have e1:0≤i2∧i2≤(cap:Int):=⟨h02,by omega⟩
 have e3:0≤i∧i≤((i2.toNat:Nat):Int):=⟨h0,by omega⟩
 have e3':0≤i∧i≤max i2 0:=⟨h0,by omega⟩
 rcases Qd6 hl h2 r2 with ⟨_,rfl,rfl⟩ | ⟨k',i',rfl,h0',rfl⟩
 ·simp[Instr.sliceBounds,Instr.sliceBound,asIntOf,e1,e3,e3']
 ·have e2:0≤i'∧i'≤((i.toNat:Nat):Int):=⟨h0',by omega⟩
  have e2':0≤i'∧i'≤max i 0:=⟨h0',by omega⟩
  simp[Instr.sliceBounds,Instr.sliceBound,asIntOf,e1,e2,e2',e3,e3']
theorem Qzj [Globals] (hI:Inv S σ H w) {t:TypeId} {x av:AV} {v:Value} {lo hi mx:Option AV} {vlo vhi vmx:Option Value} (h:Qfo P H t x lo hi mx=some av) (hx:VRel S σ H w x v)
  (h1:hi.isSome=vhi.isSome) (h2:lo.isSome=vlo.isSome) (h3:mx.isSome=vmx.isSome) (r1:∀ a u,hi=some a→vhi=some u→VRel S σ H w a u) (r2:∀ a u,lo=some a→vlo=some u→VRel S σ H w a u)
  (r3:∀ a u,mx=some a→vmx=some u→VRel S σ H w a u) :
  ∃ u,(Instr.sliceAt t v vlo vhi vmx).run P w=.ok u w∧VRel S σ H w av u:=by
 unfold Qfo at h
 split at h<;>first | (cases h;done) | skip
 ·rename_i hu
  cases vmx with
  | some _=>cases h3
  | none =>
  split at h<;>first | (cases h;done) | skip
  obtain⟨hh,hhh,h⟩:=Option.bind_eq_some_iff.1 h
  obtain⟨l,hll,h⟩:=Option.bind_eq_some_iff.1 h
  split at h<;>first | (cases h;done) | skip
  rename_i hb
  injection h with h
  subst h
  cases hx with
  | c hx =>
  cases hx
  exact⟨_,by simp [Instr.sliceAt,Instr.slice,run_underlying hu,Qib (P:=P) (w:=w) (isSlice:=false) hhh hll h1 h2 r1 r2 hb.1 hb.2],.c (.str _)⟩
 ·rename_i e hu
  cases vmx with
  | some _=>cases h3
  | none =>
  obtain⟨sz,hsz,h⟩:=Option.bind_eq_some_iff.1 h
  have hs:=run_sizeOf (w:=w) hsz
  split at h<;>first | (cases h;done) | skip
  ·obtain⟨hh,hhh,h⟩:=Option.bind_eq_some_iff.1 h
   obtain⟨l,hll,h⟩:=Option.bind_eq_some_iff.1 h
   split at h<;>first | (cases h;done) | skip
   rename_i hb
   injection h with h
   subst h
   cases hx with
   | c hx =>
   have hx0:=hx
   cases hx with
   | slice us hn hz hk hl hm hc hr =>
   rename_i cap a
   exact⟨_,by simp [Instr.sliceAt,Instr.slice,run_underlying hu,Qib (P:=P) (w:=w) (isSlice:=true) hhh hll h1 h2 r1 r2 hb.1 (Nat.le_trans hb.2.1 hl),hs],.c (hx0.sub hb.1 hb.2.1 hb.2.2)⟩
  ·split at h
   ·split at h<;>first | (cases h;done) | skip
    rename_i hb
    injection h with h
    subst h
    obtain⟨rfl,rfl,rfl,rfl,rfl,g0,g5⟩:=hb
    rename_i id2 off2 ext2 sz2
    obtain⟨r,hr⟩:=Option.isSome_iff_exists.1 g5
    have hx0:=hx
    obtain⟨b,cur,cap,hb,rfl,hw,hlc,hcm,hoc,h4,h5,h6⟩:=QcR hx hI hr
    have hd:=Q9X hx0
    obtain⟨vh,rfl⟩:∃ vh,vhi=some vh:=Option.isSome_iff_exists.1 (by rw [← h1];rfl)
    have hvlo:vlo=none:=Option.not_isSome_iff_eq_none.1 (by rw [← h2];simp)
    subst hvlo
    have rv:=r1 _ _ rfl rfl
    obtain⟨fz,hrow,_⟩:=Qcl hr
    have hcap:vh=.int .i64 cap:=by
     cases rv with
     | cw hd2 hh2 =>
     obtain⟨b2,cur2,e2,cap2,q1,q2,q3,q4,q5⟩:=(hh2 _ _ _ hrow).2 h5
     rw[hb] at q1
     injection q1 with q1
     subst q1
     rw[hw] at q2
     injection q2 with q2
     injection q2 with q2 _ _
     subst q2
     have:cap2=cap:=Nat.eq_of_mul_eq_mul_right g0 (by omega)
     subst this
     exact q5
    subst hcap
    refine⟨.slice (some ⟨b,off2,none⟩) cap cap, ?_,.cw hd fun fz' t' cs hc=>?_⟩
    ·simp[Instr.sliceAt,Instr.slice,run_underlying hu,Instr.sliceBounds,Instr.sliceBound,asIntOf,hs]
     intro _
     rfl
    ·rw[hrow] at hc
     injection hc with hc
     injection hc with e0 e1 e2
     subst e2
     exact⟨by omega,fun _=>⟨b,cur,_,cap,hb,hw,hcm,hoc,rfl⟩⟩
   obtain⟨hh,hhh,h⟩:=Option.bind_eq_some_iff.1 h
   obtain⟨l,hll,h⟩:=Option.bind_eq_some_iff.1 h
   split at h<;>first | (cases h;done) | skip
   rename_i id off len ext sz' _ _ _ _ _ _ hb
   injection h with h
   subst h
   obtain⟨g1,g2,g3,rfl,g5⟩:=hb
   obtain⟨r,hr⟩:=Option.isSome_iff_exists.1 g5
   have hx0:=hx
   obtain⟨b,cur,cap,hb,rfl,hw,hlc,hcm,hoc,h4,h5,h6⟩:=QcR hx hI hr
   have hd:QaR H id=some 0:=by cases hx0 with | hsl hd _=>exact hd
   have hmul:(cap-l) * sz' + l * sz'=cap * sz':=by rw [← Nat.add_mul];congr 1;omega
   refine⟨.slice (if cap=l then some ⟨b,off,none⟩ else (some (⟨b,off,none⟩:Addr)).map (·.add (l * sz'))) (hh-l) (cap-l), ?_, ?_⟩
   ·simp only[Instr.sliceAt,Instr.slice,Sem.run_bind,run_underlying hu,Result.andThen_ok,Qib (P:=P) (w:=w) (isSlice:=true) hhh hll h1 h2 r1 r2 g1 (Nat.le_trans g3 hlc),hs,Sem.run_pure]
   ·split
    ·rename_i he
     obtain⟨rfl,he2⟩:=he
     rw[show l-l=0 by omega]
     refine .c (.slice (fun _=>undef) ?_ ?_ (fun k hk=>by cases hk) (Nat.zero_le _) (by omega) (fun j hj=>by simp at hj) (fun j x hx=>by simp at hx))
     ·split<;>rfl
     ·intro he3;split at he3<;>cases he3
    ·rename_i he
     refine .hsl hd fun fz' t' cs hc=>?_
     obtain⟨fz,hrow,_⟩:=Qcl hr
     rw[hrow] at hc
     injection hc with hc
     injection hc with e0 e1 e2
     subst e2
     refine⟨by omega,fun _=>⟨b,cur,_,hb, ?_,hw,by omega,by omega,by omega⟩⟩
     split
     ·have:l=0:=by
       by_cases h0:l=0
       ·exact h0
       ·exact absurd ⟨by omega,h0⟩ he
      subst this
      simp
     ·simp[QeB]
 ·rename_i e m hu
  obtain⟨sz,hsz,h⟩:=Option.bind_eq_some_iff.1 h
  split at h<;>first | (cases h;done) | skip
  obtain⟨hh,hhh,h⟩:=Option.bind_eq_some_iff.1 h
  obtain⟨k,hkk,h⟩:=Option.bind_eq_some_iff.1 h
  obtain⟨l,hll,h⟩:=Option.bind_eq_some_iff.1 h
  split at h<;>first | (cases h;done) | skip
  rename_i hb
  injection h with h
  subst h
  obtain⟨g1,g2,g3,g4,g5⟩:=hb
  have hs:=run_sizeOf (w:=w) hsz
  cases hx with
  | c hx =>
  have hx0:=hx
  cases hx with
  | slice us hn' hz hk hl hm hc hr =>
  rename_i cells len nl cap0 _ _ _ cap a
  have hrun:(Instr.sliceAt t (.slice a len cap) vlo vhi vmx).run P w=.ok (.slice (if k=l then a else a.map (·.add (l * sz))) (hh-l) (k-l)) w:=by
   simp[Instr.sliceAt,Instr.slice,run_underlying hu,Qy7 (P:=P) (w:=w) (isSlice:=true) (len:=len) (cap:=cap) hhh hkk hll h1 h2 h3 r1 r2 r3 g4 rfl g1 g2 (by omega),hs]
  refine⟨_,hrun,.c ?_⟩
  rcases g5 with g5 | rfl
  ·have hmul:k * sz≤len * sz:=Nat.mul_le_mul_right _ g3
   have hsub:IRel S w (.slice (cells.take (k * sz)) k nl (some k)) (.slice a k k) :=
    .slice us hn' (fun h=>by have:=hz h;omega) (fun q hq=>by injection hq) (Nat.le_refl _) (by omega) (fun j hj=>hc j (by simp at hj;omega)) (fun j x hx=>hr j x (by rw [List.getElem?_take] at hx;split at hx;exact hx;cases hx))
   have:=hsub.sub (sz:=sz) (l:=l) (h:=hh) g1 g2 (by simp;omega)
   have e:((cells.take (k * sz)).drop (l * sz)).take ((hh-l) * sz)=(cells.drop (l * sz)).take ((hh-l) * sz):=by
    rw[List.drop_take,List.take_take]
    congr 1
    have h1:(hh-l) * sz+l * sz=hh * sz:=by rw [← Nat.add_mul];congr 1;omega
    have h2:hh * sz≤k * sz:=Nat.mul_le_mul_right _ g2
    omega
   rw[e] at this
   exact this
  ·obtain rfl:hh=0:=by omega
   obtain rfl:l=0:=by omega
   simp only[if_true,Nat.sub_self,Nat.zero_mul,List.take_zero]
   exact .slice (fun _=>undef) hn' (fun _=>rfl) (fun q hq=>by injection hq) (Nat.le_refl _) (Nat.zero_le _) (fun j hj=>by simp at hj) (fun j x hx=>by simp at hx)
theorem QeP {t:TypeId} {x y:IV} {b:Bool} {u v:Value} {d:Nat} (h:Qdn P t x y=some b) (hx:IRel S w x u) (hy:IRel S w y v) :
  (Op.equalIn (d+1) t u v).run P w=.ok b w:=by
 unfold Qdn at h
 split at h<;>first | (cases h;done) | skip
 ·rename_i hu
  split at h<;>first | (cases h;done) | skip
  injection h with h
  subst h
  rename_i hk
  subst hk
  cases hx;cases hy
  exact run_equalIn_int w d t _ _ _ _ hu
 ·rename_i hu
  injection h with h
  subst h
  cases hx;cases hy
  exact run_equalIn_bool' w d t _ _ hu
 ·rename_i hu
  injection h with h
  subst h
  cases hx;cases hy
  exact run_equalIn_string w d t _ _ hu
theorem Qe2 [Globals] {t:TypeId} {vs:Array Value} {off:Nat} (ht:Qb1 P t=some false) (hlt:off<vs.size):(part t vs off).run P w=.ok (vs.getD off undef) w:=by
 have hv:vs[off]?=some (vs.getD off undef):=by simp [Array.getD,hlt]
 generalize vs.getD off undef=u at hv
 unfold part
 rw[Sem.run_bind,Qme ht,Result.andThen_ok,hv]
 rfl
theorem Qgr [Globals] {d:Nat} {xs ys:Array Value}:∀ (fs:List Field) (n:Nat) (cs ds:List AV) (b:Bool),QbC P n fs cs ds=some b→n+cs.length=xs.size→n+ds.length=ys.size →
  (∀ i x,cs[i]?=some x→VRel S σ H w x (xs.getD (n+i) undef))→(∀ i x,ds[i]?=some x→VRel S σ H w x (ys.getD (n+i) undef)) →
  (Op.eqFields (d+1) xs ys fs).run P w=.ok b w:=by
 intro fs
 induction fs with
 | nil =>
  intro n cs ds b h h1 h2 r1 r2
  rcases cs with _ | ⟨c,cs⟩<;>rcases ds with _ | ⟨e,ds⟩<;>simp [QbC] at h
  subst h
  rfl
 | cons f fs ih =>
  intro n cs ds b h h1 h2 r1 r2
  rcases cs with _ | ⟨c,xs'⟩<;>rcases ds with _ | ⟨e,ys'⟩<;>first | (simp [QbC] at h;done) | skip
  cases c<;>first | (simp [QbC] at h;done) | skip
  rename_i x
  cases e<;>first | (simp [QbC] at h;done) | skip
  rename_i y
  simp only[QbC] at h
  split at h<;>first | (cases h;done) | skip
  rename_i hc
  obtain⟨c1,c2,c3⟩:=hc
  obtain⟨p,hp,h⟩:=Option.bind_eq_some_iff.1 h
  obtain⟨q,hq,rfl⟩:=Option.map_eq_some_iff.1 h
  have hx:=r1 0 _ rfl
  have hy:=r2 0 _ rfl
  cases hx with
  | c hx =>
  cases hy with
  | c hy =>
  have hs:=QeP (P:=P) (d:=d) hp hx hy
  have ih':=ih (n+1) xs' ys' q hq (by simp at h1;omega) (by simp at h2;omega) (fun i x hi=>by have:=r1 (i+1) x (by simpa using hi);rwa [show n+(i+1)=n+1+i by omega] at this)
   (fun i x hi=>by have:=r2 (i+1) x (by simpa using hi);rwa [show n+(i+1)=n+1+i by omega] at this)
  have g1:=Qe2 (w:=w) (vs:=xs) (off:=f.offset) c3 (by simp at h1;omega)
  have g2:=Qe2 (w:=w) (vs:=ys) (off:=f.offset) c3 (by simp at h2;omega)
  simp only[Nat.add_zero] at hs
  rw[← c2] at hs
  unfold Op.eqFields
  rw[if_pos c1]
  simp only[Sem.run_bind,g1,g2,Result.andThen_ok,hs,Sem.run_ite,Sem.run_pure,ih']
  cases p<;>simp
theorem Qge {t e:TypeId} {a:Option Addr} {n c n' c':Nat} (d:Nat) (hu:P.underlying t=some (.slice e)):(Op.equalIn (d+1) t (.slice a n c) (.slice none n' c')).run P w=.ok a.isNone w:=by
 cases a<;>simp [Op.equalIn,run_underlying hu]
theorem QiW {t e:TypeId} {a:Addr} (d:Nat) (hu:P.underlying t=some (.pointer e)):(Op.equalIn (d+1) t (.pointer (some a)) (.pointer none)).run P w=.ok false w:=by
 simp[Op.equalIn,run_underlying hu]
theorem Qw1 {t e:TypeId} (d:Nat) (hu:P.underlying t=some (.pointer e)):(Op.equalIn (d+1) t (.pointer none) (.pointer none)).run P w=.ok true w:=by
 simp[Op.equalIn,run_underlying hu]
theorem Qgy {t:TypeId} {ps rs:Array TypeId} {v:Bool} {f:Fn} {a c:Array Value} (d:Nat) (hu:P.underlying t=some (.func ps rs v)):(Op.equalIn (d+1) t (.func f a c) .nilFunc).run P w=.ok false w:=by
 simp[Op.equalIn,run_underlying hu]
theorem Q55 {t:TypeId} {ps rs:Array TypeId} {v:Bool} (d:Nat) (hu:P.underlying t=some (.func ps rs v)):(Op.equalIn (d+1) t .nilFunc .nilFunc).run P w=.ok true w:=by
 simp[Op.equalIn,run_underlying hu]
theorem Qdl {t e:TypeId} (h:QbM P t=some e):P.underlying t=some (.slice e):=by
 unfold QbM at h
 split at h
 ·rename_i e' hu;injection h with h;rw [hu,h]
 ·cases h
theorem Qmx {t:TypeId} {fs:Array Field} (h:P.underlying t=some (.struct fs)):P.fieldsOf t=fs:=by simp [Program.fieldsOf,h]
theorem QoL [Globals] (hI:Inv S σ H w) {t:TypeId} {x y:AV} {u v:Value} {b:Bool} (h:eqlA P H t x y=some b) (hx:VRel S σ H w x u) (hy:VRel S σ H w y v) (op:BinOp) (ox oy:Operand) :
  (eqGuard op t ox oy u v).run P w=.ok () w∧(Op.equal t u v).run P w=.ok b w∧(∀ k n,u≠.int k n)∧(∀ s,u≠.string s)∧(∀ k b,u≠.float k b)∧(∀ k a b,u≠.complex k a b):=by
 unfold eqlA at h
 split at h<;>first | (cases h;done) | skip
 ·rename_i xs ys
  split at h<;>first | (cases h;done) | skip
  rename_i fs hu
  split at h<;>first | (cases h;done) | skip
  rename_i hc
  cases hx with
  | agg h1 h2 r1 =>
  cases hy with
  | agg h3 h4 r2 =>
  have hf:=Qmx hu
  refine⟨run_eqGuard_agg w op t ox oy _ _ hc.2, ?_,by simp,by simp,by simp,by simp⟩
  show (Op.equalIn (9999+1) t _ _).run P w=_
  rw[run_equalIn_struct w 9999 t _ _ (by rw [hf];exact hu) hc.1,hf]
  exact Qgr (d:=9998) fs.toList 0 xs ys b h (by omega) (by omega) (by simpa using r1) (by simpa using r2)
 ·split at h<;>first | (cases h;done) | skip
  rename_i hu
  injection h with h
  subst h
  cases hx with
  | c hx =>
  cases hy with
  | c hy =>
  cases hx;cases hy
  refine⟨by cases op<;>rfl, ?_,by simp,by simp,by simp,by simp⟩
  exact run_equalIn_bool' w 9999 t _ _ hu
 ·split at h<;>first | (cases h;done) | skip
  rename_i hu
  injection h with h
  subst h
  obtain⟨e,he⟩:=Option.isSome_iff_exists.1 hu
  have hu:=Qdl he
  cases hx with
  | c hx =>
  cases hy with
  | c hy =>
  cases hx with
  | slice us hn hz hk hl hm hc hr =>
  cases hy with
  | slice us' hn' hz' hk' hl' hm' hc' hr' =>
  rename_i a1 _ a2
  have:a2=none:=by
   cases a2 with
   | none=>rfl
   | some _=>cases hn'
  subst this
  refine⟨by cases op<;>rfl, ?_,by simp,by simp,by simp,by simp⟩
  subst hn
  exact Qge 9999 hu
 ·split at h<;>first | (cases h;done) | skip
  rename_i hu
  injection h with h
  subst h
  obtain⟨e,he⟩:=Option.isSome_iff_exists.1 hu.1
  obtain⟨r,hr⟩:=Option.isSome_iff_exists.1 hu.2
  have hu:=Qdl he
  obtain⟨b,cur,cap,hb,rfl,hw,hlc,hcm,hoc,h4,h5,h6⟩:=QcR hx hI hr
  cases hy with
  | c hy =>
  cases hy with
  | slice us' hn' hz' hk' hl' hm' hc' hr' =>
  rename_i a2
  have:a2=none:=by
   cases a2 with
   | none=>rfl
   | some _=>cases hn'
  subst this
  exact⟨by cases op<;>rfl,Qge 9999 hu,by simp,by simp,by simp,by simp⟩
 ·split at h<;>first | (cases h;done) | skip
  rename_i hu
  injection h with h
  subst h
  cases hx
  cases hy with
  | c hy =>
  cases hy
  exact⟨by cases op<;>rfl,QiW 9999 hu,by simp,by simp,by simp,by simp⟩
 ·split at h<;>first | (cases h;done) | skip
  rename_i hu
  injection h with h
  subst h
  cases hx with
  | c hx =>
  cases hx
  cases hy with
  | c hy =>
  cases hy
  exact⟨by cases op<;>rfl,QiW 9999 hu,by simp,by simp,by simp,by simp⟩
 ·split at h<;>first | (cases h;done) | skip
  rename_i hu
  injection h with h
  subst h
  cases hx with
  | c hx =>
  cases hx
  cases hy with
  | c hy =>
  cases hy
  exact⟨by cases op<;>rfl,Qw1 9999 hu,by simp,by simp,by simp,by simp⟩
 ·split at h<;>first | (cases h;done) | skip
  rename_i hu
  injection h with h
  subst h
  cases hx with
  | c hx =>
  cases hx
  cases hy with
  | c hy =>
  cases hy
  exact⟨by cases op<;>rfl,Qgy 9999 hu,by simp,by simp,by simp,by simp⟩
 ·split at h<;>first | (cases h;done) | skip
  rename_i hu
  injection h with h
  subst h
  cases hx
  cases hy with
  | c hy =>
  cases hy
  exact⟨by cases op<;>rfl,Qgy 9999 hu,by simp,by simp,by simp,by simp⟩
 ·split at h<;>first | (cases h;done) | skip
  rename_i hu
  injection h with h
  subst h
  cases hx
  cases hy with
  | c hy =>
  cases hy
  exact⟨by cases op<;>rfl,Qgy 9999 hu,by simp,by simp,by simp,by simp⟩
 ·split at h<;>first | (cases h;done) | skip
  rename_i hu
  injection h with h
  subst h
  cases hx with
  | c hx =>
  cases hx
  cases hy with
  | c hy =>
  cases hy
  exact⟨by cases op<;>rfl,Q55 9999 hu,by simp,by simp,by simp,by simp⟩
end
end Go.Ab
