/- A part of the proof: an interpreter on abstract values, proved right for every program; no condition. -/
import Derived.Test.YtiiannaficbjeaaDoorAbOps
import Derived.Laws.StructEq
import Derived.Laws.Slices
import Derived.Laws.Build
namespace Go.Ab
set_option linter.unusedVariables false
set_option linter.unusedSimpArgs false
set_option linter.unusedSectionVars false
section
variable {S:Nat→Prop} {σ:List Nat} {H:Heap} {w:World} {P:Program}
theorem add_add (a:Addr) (i j:Nat):(a.add i).add j=a.add (i+j):=by
 unfold Addr.add
 by_cases hi:i=0<;>by_cases hj:j=0<;>simp [hi,hj,Nat.add_assoc]
theorem Qc7 {α:Type} {cs l:List α} {off n:Nat} (h:Qbb cs off n=some l) :
  off+n≤cs.length∧l.length=n∧(∀ i,i<n→l[i]?=cs[off+i]?)∧∀ x ∈ l,x ∈ cs:=by
 unfold Qbb at h
 split at h
 ·rename_i hle
  injection h with h
  subst h
  refine⟨hle,by simp;omega,fun i hi=>?_,fun x hx=>List.mem_of_mem_drop (List.mem_of_mem_take hx)⟩
  rw[List.getElem?_take_of_lt hi,List.getElem?_drop]
 ·cases h
theorem Qme {t:TypeId} {b:Bool} (ht:Qb1 P t=some b):(isAgg t).run P w=.ok b w:=by
 unfold Qb1 at ht
 unfold isAgg
 rw[Sem.run_bind]
 split at ht
 ·rename_i hu;injection ht with ht;subst ht;rw [run_underlying hu w];rfl
 ·rename_i hu;injection ht with ht;subst ht;rw [run_underlying hu w];rfl
 ·rename_i d h1 h2 hu
  injection ht with ht
  subst ht
  rw[run_underlying hu w]
  cases d<;>first | rfl | exact (h1 _ rfl).elim | exact (h2 _ _ rfl).elim
 ·cases ht
theorem QeO {t:TypeId} {n:Nat} {a:Addr} (f:Nat→Value) (ht:Qb1 P t=some true) (hn:Qb0 P t=some n)
  (h:∀ j,j<n→w.cell? (a.add j)=some (f j)):(loadVar t a).run P w=.ok (.agg ((List.range n).map f).toArray) w:=by
 obtain⟨i,hi,rfl⟩:=Option.map_eq_some_iff.1 hn
 have hl:=run_loadCells (P:=P) w a i.size f h
 unfold Qb1 at ht
 split at ht<;>first | cases ht | skip
 all_goals (rename_i hu;simp [loadVar,isAgg,run_underlying hu,sizeOf,typeInfo,hi,hl])
theorem QeF {t:TypeId} {a:Addr} {v:Value} (ht:Qb1 P t=some false) (h:w.cell? a=some v):(loadVar t a).run P w=.ok v w:=by
 unfold Qb1 at ht
 split at ht<;>first | cases ht | skip
 rename_i d h1 h2 hu
 have:(isAgg t).run P w=.ok false w:=by
  unfold isAgg
  rw[Sem.run_bind,run_underlying hu w]
  cases d<;>first | rfl | exact (h1 _ rfl).elim | exact (h2 _ _ rfl).elim
 simp[loadVar,this,h]
theorem VRel.agg_of [Globals] {cs l:List AV} {off n:Nat} (f:Nat→Value) (hl:Qbb cs off n=some l) (hc:∀ x ∈ cs,AV.isCell x=true)
  (hr:∀ i x,cs[i]?=some x→VRel S σ H w x (f i)):VRel S σ H w (.agg l) (.agg ((List.range n).map fun j=>f (off+j)).toArray):=by
 obtain⟨hle,hln,hg,hm⟩:=Qc7 hl
 refine .agg (by simp [hln]) (fun x hx=>hc x (hm x hx)) (fun i x hi=>?_)
 have hin:i<n:=by have:=(List.getElem?_eq_some_iff.1 hi).1;omega
 rw[hg i hin] at hi
 simpa [Array.getD,hin] using hr _ _ hi
theorem VRel.agg_iv [Globals] {cs l:List IV} {off n:Nat} (f:Nat→Value) (hl:Qbb cs off n=some l)
  (hr:∀ i x,cs[i]?=some x→IRel S w x (f i)):VRel S σ H w (.agg (l.map .c)) (.agg ((List.range n).map fun j=>f (off+j)).toArray):=by
 obtain⟨hle,hln,hg,hm⟩:=Qc7 hl
 refine .agg (by simp [hln]) (fun x hx=>by obtain ⟨y,_,rfl⟩:=List.mem_map.1 hx;rfl) (fun i x hi=>?_)
 have hin:i<n:=by have:=(List.getElem?_eq_some_iff.1 hi).1;simp at this;omega
 rw[List.getElem?_map,hg i hin] at hi
 obtain⟨y,hy,rfl⟩:=Option.map_eq_some_iff.1 hi
 exact .c (by simpa [Array.getD,hin] using hr _ _ hy)
theorem Qji [Globals] {t:TypeId} {cs:List IV} {off:Nat} {av:AV} {ad:Addr} (us:Nat→Value) (h:Q3B P t cs off=some av)
  (hc:∀ j,j<cs.length→w.cell? (ad.add j)=some (us j)) (hr:∀ j x,cs[j]?=some x→IRel S w x (us j)) :
  ∃ v,(loadVar t (ad.add off)).run P w=.ok v w∧VRel S σ H w av v:=by
 unfold Q3B at h
 obtain⟨b,hb,h⟩:=Option.bind_eq_some_iff.1 h
 cases b with
 | true =>
  simp only at h
  obtain⟨n,hn,h⟩:=Option.bind_eq_some_iff.1 h
  obtain⟨l,hl,rfl⟩:=Option.map_eq_some_iff.1 h
  have hle:=(Qc7 hl).1
  exact⟨_,QeO (fun j=>us (off+j)) hb hn (fun j hj=>by rw [add_add];exact hc _ (by omega)),.agg_iv us hl hr⟩
 | false =>
  simp only at h
  obtain⟨x,hx,rfl⟩:=Option.map_eq_some_iff.1 h
  exact⟨_,QeF hb (hc _ (List.getElem?_eq_some_iff.1 hx).1),.c (hr _ _ hx)⟩
theorem Qj6 [Globals] {t:TypeId} {cs:List AV} {off:Nat} {av:AV} {ad:Addr} (us:Nat→Value) (h:Qem P t cs off=some av) (h1:∀ x ∈ cs,AV.isCell x=true)
  (hc:∀ j,j<cs.length→w.cell? (ad.add j)=some (us j)) (hr:∀ j x,cs[j]?=some x→VRel S σ H w x (us j)) :
  ∃ v,(loadVar t (ad.add off)).run P w=.ok v w∧VRel S σ H w av v:=by
 unfold Qem at h
 obtain⟨b,hb,h⟩:=Option.bind_eq_some_iff.1 h
 cases b with
 | true =>
  simp only at h
  obtain⟨n,hn,h⟩:=Option.bind_eq_some_iff.1 h
  obtain⟨l,hl,rfl⟩:=Option.map_eq_some_iff.1 h
  have hle:=(Qc7 hl).1
  exact⟨_,QeO (fun j=>us (off+j)) hb hn (fun j hj=>by rw [add_add];exact hc _ (by omega)),.agg_of us hl h1 hr⟩
 | false =>
  simp only at h
  exact⟨_,QeF hb (hc _ (List.getElem?_eq_some_iff.1 h).1),hr _ _ h⟩
theorem QgD (b j:Nat):(⟨b,0,none⟩:Addr).add j=⟨b,j,none⟩:=by unfold Addr.add;split<;>simp_all
theorem QeB (b o j:Nat):(⟨b,o,none⟩:Addr).add j=⟨b,o+j,none⟩:=by unfold Addr.add;split<;>simp_all
theorem Inv.at_ [Globals] (hI:Inv S σ H w) {i:Nat} {o:AObj} (h:H[i]?=some o):∃ b,σ[i]?=some b∧ORel S σ H w b o:=by
 have hl:i<σ.length:=by rw [hI.len];exact (List.getElem?_eq_some_iff.1 h).1
 exact⟨σ[i],List.getElem?_eq_getElem hl,hI.obj i _ o (List.getElem?_eq_getElem hl) h⟩
theorem Qcl {id ext:Nat} {r:TypeId × List IV} (h:rowOf H id ext=some r):∃ fz,H[id]?=some (.row fz r.1 r.2)∧ext=r.2.length:=by
 unfold rowOf at h
 split at h
 ·split at h
  ·rename_i h1 h2
   injection h with h
   subst h
   exact⟨_,h1,h2.symm⟩
  ·cases h
 ·cases h
theorem QkW [Globals] {id ext:Nat} {r:TypeId × List IV} (h:rowOf H id ext=some r):ext=r.2.length:=by
 obtain⟨_,_,h⟩:=Qcl h
 exact h
theorem Qmw [Globals] {p:TypeId→List IV→Prop} {id ext:Nat} {r:TypeId × List IV} (h:rowOf H id ext=some r) (hh:∀ fz t cs,H[id]?=some (.row fz t cs)→p t cs):p r.1 r.2:=by
 obtain⟨fz,h1,_⟩:=Qcl h
 exact hh fz _ _ h1
theorem QdY [Globals] {id ext:Nat} {r:TypeId × List IV} (h:rowOf H id ext=some r) (hl:Qcd H id=true):H[id]?=some (.row false r.1 r.2)∧ext=r.2.length:=by
 obtain⟨fz,h1,h2⟩:=Qcl h
 refine⟨?_,h2⟩
 unfold Qcd at hl
 rw[h1] at hl
 cases fz
 ·exact h1
 ·cases hl
theorem Inv.row [Globals] (hI:Inv S σ H w) {id ext:Nat} {r:TypeId × List IV} (h:rowOf H id ext=some r) :
  ∃ b cur,σ[id]?=some b∧w.heap[b]?=some (.cells cur r.1 (0,0))∧r.2.length≤cur.size∧(∀ i x,r.2[i]?=some x→IRel S w x (cur.getD i undef)) ∧
   ∀ j,j<cur.size→w.cell? ((⟨b,0,none⟩:Addr).add j)=some (cur.getD j undef):=by
 obtain⟨fz,h1,h2⟩:=Qcl h
 obtain⟨b,hb,cur,h3,h4,h5⟩:=hI.at_ h1
 refine⟨b,cur,hb,h3,h4,h5,fun j hj=>?_⟩
 rw[QgD,cell_of_row w b j cur _ _ h3]
 simp[Array.getD,hj]
theorem QkU [Globals] (hI:Inv S σ H w) {t:TypeId} {x av:AV} {v:Value} (h:QaK P H t x=some av) (hx:VRel S σ H w x v) :
  ∃ u,(Instr.loadAt t v).run P w=.ok u w∧VRel S σ H w av u:=by
 unfold QaK at h
 split at h
 ·cases hx with
  | c hx =>
   cases hx with
   | iptr ad us hc hr =>
    obtain⟨u,h1,h2⟩:=Qji (P:=P) (σ:=σ) (H:=H) (ad:=ad) us h (fun j hj=>(hc j hj).2) hr
    exact⟨u,by simpa [Instr.loadAt,Instr.sureAddr] using h1,h2⟩
 ·cases hx with
  | ptr hs hd =>
   split at h
   ·rename_i t' cs ho
    obtain⟨b,hb,vs,h3,h4,h5,h6⟩:=hI.at_ ho
    rw[hs] at hb
    injection hb with hb
    subst hb
    obtain⟨u,h1,h2⟩:=Qj6 (P:=P) (S:=S) (σ:=σ) (H:=H) (w:=w) (ad:=⟨_,0,none⟩) (fun j=>vs.getD j undef) h h5
     (fun j hj=>by rw [QgD,cell_of_row w _ j vs _ _ h3];simp [Array.getD,h4,hj]) h6
    rw[QgD] at h1
    exact⟨u,by simpa [Instr.loadAt,Instr.sureAddr] using h1,h2⟩
   ·cases h
 ·cases hx with
  | eptr hd hh =>
   obtain⟨r,hr,h⟩:=Option.bind_eq_some_iff.1 h
   obtain⟨b,cur,hb,h3,h4,h5,h6⟩:=hI.row hr
   obtain⟨b',hb',rfl⟩:=(Qmw hr hh).2 (QkW hr)
   rw[hb] at hb'
   injection hb' with hb'
   subst hb'
   obtain⟨u,h1,h2⟩:=Qji (P:=P) (S:=S) (σ:=σ) (H:=H) (w:=w) (ad:=⟨b,0,none⟩) (fun j=>cur.getD j undef) h (fun j hj=>h6 j (by omega)) h5
   rw[QgD] at h1
   exact⟨u,by simpa [Instr.loadAt,Instr.sureAddr] using h1,h2⟩
 ·cases h
theorem Qqc {v:Value} {x:IV} (h:QuY v=some x):IRel S w x v:=by
 unfold QuY at h
 split at h<;>first | (injection h with h;subst h) | cases h
 ·exact .bool _
 ·exact .int _ _
 ·exact .str _
 ·exact .nilp
 ·exact .slice (fun _=>undef) rfl (fun _=>rfl) (fun k hk=>by injection hk) (Nat.le_refl _) (Nat.zero_le _) (fun j hj=>by simp at hj) (fun j x hx=>by simp at hx)
 ·exact .nilmap
 ·exact .nilfn
 ·exact .niliface
theorem Qgx [Globals]:∀ {vs:List Value} {xs:List IV},QhN vs=some xs→xs.length=vs.length∧∀ (i:Nat) (x:IV),xs[i]?=some x→∃ v:Value,vs[i]?=some v∧IRel S w x v
 | [],xs,h=>by injection h with h;subst h;simp
 | v::vs,xs,h=>by
  unfold QhN at h
  obtain⟨y,hy,h⟩:=Option.bind_eq_some_iff.1 h
  obtain⟨ys,hys,h⟩:=Option.bind_eq_some_iff.1 h
  injection h with h
  subst h
  obtain⟨h1,h2⟩:=Qgx hys
  refine⟨by simp [h1],fun i x hi=>?_⟩
  cases i with
  | zero=>simp at hi;subst hi;exact ⟨v,rfl,Qqc hy⟩
  | succ i=>simpa using h2 i x (by simpa using hi)
theorem Qc9 [Globals] (v:Value):VRel S σ H w (ofValue v) v:=by
 unfold ofValue
 split
 ·rename_i vs
  cases h:QhN vs.toList with
  | none=>exact .unk
  | some xs =>
   obtain⟨h1,h2⟩:=Qgx (S:=S) (w:=w) h
   refine .agg (by simp [h1]) (fun x hx=>by obtain ⟨y,_,rfl⟩:=List.mem_map.1 hx;rfl) (fun i x hi=>?_)
   rw[List.getElem?_map] at hi
   obtain⟨y,hy,rfl⟩:=Option.map_eq_some_iff.1 hi
   obtain⟨u,hu,hr⟩:=h2 i y hy
   refine .c ?_
   have:vs[i]?=some u:=by simpa using hu
   obtain⟨hlt,he⟩:=Array.getElem?_eq_some_iff.1 this
   simpa [Array.getD,hlt,he] using hr
 ·cases h:QuY v with
  | none=>exact .unk
  | some x=>exact .c (Qqc h)
def FRel (S:Nat→Prop) (σ:List Nat) (H:Heap) (w:World) (F:Fr) (tmps:Array Value):Prop :=
 F.n=tmps.size∧∀ i,VRel S σ H w (F.get i) (tmps.getD i undef)
theorem Qhu [Globals] (hI:Inv S σ H w) {F:Fr} {a:Act} (hF:FRel S σ H w F a.tmps) (x:Operand):VRel S σ H w (Qa2 F x) (a.eval x):=by
 cases x with
 | tmp t=>exact hF.2 t
 | const v=>exact Qc9 v
 | global g =>
  simp only[Qa2]
  split
  ·rename_i cells h
   exact .c (hI.glob g cells h)
  ·exact .unk
 | func f=>exact .c (.fn f)
end
end Go.Ab
