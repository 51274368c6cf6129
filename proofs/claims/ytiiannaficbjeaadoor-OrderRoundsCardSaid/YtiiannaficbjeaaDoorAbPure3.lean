/- A part of the proof: an interpreter on abstract values, proved right for every program; no condition. -/
import Derived.Test.YtiiannaficbjeaaDoorAbMap
namespace Go.Ab
set_option linter.unusedVariables false
set_option linter.unusedSimpArgs false
set_option linter.unusedSectionVars false
section
variable {S:Nat→Prop} {σ:List Nat} {H:Heap} {w:World} {P:Program}
theorem Qy2 {op:BinOp} {k:IntKind} {a b:Int} {x:IV} (h:Qey op k a b=some x) (t:TypeId) (ox oy:Operand) :
  ∃ v,(do eqGuard op t ox oy (.int k a) (.int k b);binOp op t (.int k a) (.int k b)).run P w=.ok v w∧IRel S w x v:=by
 cases op<;>simp only [Qey] at h<;>first | (cases h;done) | skip
 case quo =>
  split at h<;>first | (cases h;done) | skip
  rename_i hb
  injection h with h
  subst h
  (refine ⟨_, ?_,.int _ _⟩;simp [eqGuard,binOp,Op.intDiv,hb])
 case rem =>
  split at h<;>first | (cases h;done) | skip
  rename_i hb
  injection h with h
  subst h
  (refine ⟨_, ?_,.int _ _⟩;simp [eqGuard,binOp,Op.intDiv,hb])
 all_goals
  injection h with h
  subst h
  first
   | (refine ⟨_, ?_,.int _ _⟩;simp [eqGuard,binOp,Op.intArith,Op.intBits,Op.intCmp])
   | (refine ⟨_, ?_,.bool _⟩;simp [eqGuard,binOp,Op.intArith,Op.intBits,Op.intCmp])
theorem Qyd {op:BinOp} {a b:ByteArray} {x:IV} (h:QDy op a b=some x) (t:TypeId) (ox oy:Operand) :
  ∃ v,(do eqGuard op t ox oy (.string a) (.string b);binOp op t (.string a) (.string b)).run P w=.ok v w∧IRel S w x v:=by
 cases op<;>simp only [QDy] at h<;>first | (cases h;done) | skip
 case add =>
  split at h<;>first | (cases h;done) | skip
  rename_i hb
  injection h with h
  subst h
  have:(a.size:Int)+(b.size:Int)≤9223372036854775807:=by omega
  (refine ⟨_, ?_,.str _⟩;simp [eqGuard,binOp,Op.stringOp,this])
 all_goals
  injection h with h
  subst h
  (refine ⟨_, ?_,.bool _⟩;simp [eqGuard,binOp,Op.stringOp])
theorem QhX [Globals] (hI:Inv S σ H w) {op:BinOp} {t:TypeId} {x y av:AV} {u v:Value} (h:binA P H op t x y=some av) (hx:VRel S σ H w x u) (hy:VRel S σ H w y v) (ox oy:Operand) :
  ∃ r,(do eqGuard op t ox oy u v;binOp op t u v).run P w=.ok r w∧VRel S σ H w av r:=by
 unfold binA at h
 split at h
 ·rename_i k a k' b
  cases hx with
  | c hx =>
  cases hy with
  | c hy =>
  cases hx;cases hy
  split at h
  ·split at h<;>first | (cases h;done) | skip
   rename_i hb
   injection h with h
   subst h
   have:¬ b<0:=by omega
   (refine ⟨_, ?_,.c (.int _ _)⟩;simp [eqGuard,binOp,Op.shift,this])
  ·split at h<;>first | (cases h;done) | skip
   rename_i hb
   injection h with h
   subst h
   have:¬ b<0:=by omega
   (refine ⟨_, ?_,.c (.int _ _)⟩;simp [eqGuard,binOp,Op.shift,this])
  ·split at h<;>first | (cases h;done) | skip
   rename_i hk
   subst hk
   obtain⟨z,hz,rfl⟩:=Option.map_eq_some_iff.1 h
   obtain⟨r,h1,h2⟩:=Qy2 (S:=S) (P:=P) (w:=w) hz t ox oy
   exact⟨r,h1,.c h2⟩
 ·cases hx with
  | c hx =>
  cases hy with
  | c hy =>
  cases hx;cases hy
  obtain⟨z,hz,rfl⟩:=Option.map_eq_some_iff.1 h
  obtain⟨r,h1,h2⟩:=Qyd (S:=S) (P:=P) (w:=w) hz t ox oy
  exact⟨r,h1,.c h2⟩
 ·split at h<;>first | (cases h;done) | skip
  ·obtain⟨b,hb,rfl⟩:=Option.map_eq_some_iff.1 h
   obtain⟨h1,h2,h3,h4,h5,h6⟩:=QoL hI hb hx hy .eql ox oy
   refine⟨.bool b, ?_,.c (.bool _)⟩
   have:(binOp .eql t u v)=(do pure (.bool (← Op.equal t u v))):=by
    unfold binOp
    cases u<;>first | rfl | (exfalso;exact h3 _ _ rfl) | (exfalso;exact h4 _ rfl) | (exfalso;exact h5 _ _ rfl) | (exfalso;exact h6 _ _ _ rfl)
   simp[Sem.run_bind,h1,this,h2]
  ·obtain⟨b,hb,rfl⟩:=Option.map_eq_some_iff.1 h
   obtain⟨h1,h2,h3,h4,h5,h6⟩:=QoL hI hb hx hy .neq ox oy
   refine⟨.bool !b, ?_,.c (.bool _)⟩
   have:(binOp .neq t u v)=(do pure (.bool (!(← Op.equal t u v)))):=by
    unfold binOp
    cases u<;>first | rfl | (exfalso;exact h3 _ _ rfl) | (exfalso;exact h4 _ rfl) | (exfalso;exact h5 _ _ rfl) | (exfalso;exact h6 _ _ _ rfl)
   simp[Sem.run_bind,h1,this,h2]
theorem QAn {op:UnOp} {x av:AV} {u:Value} (h:unA op x=some av) (hx:VRel S σ H w x u):∃ r,(Op.unary op u).run P w=.ok r w∧VRel S σ H w av r:=by
 unfold unA at h
 split at h<;>first | (cases h;done) | skip
 ·injection h with h;subst h
  cases hx with
  | c hx=>cases hx;(refine ⟨_, ?_,.c (.int _ _)⟩;simp [Op.unary,Op.intArith])
 ·obtain⟨z,hz,rfl⟩:=Option.map_eq_some_iff.1 h
  cases hx with
  | c hx =>
  cases hx
  simp only[Qey] at hz
  injection hz with hz
  subst hz
  (refine ⟨_, ?_,.c (.int _ _)⟩;simp [Op.unary,Op.intBits])
 ·injection h with h;subst h
  cases hx with
  | c hx=>cases hx;(refine ⟨_, ?_,.c (.bool _)⟩;simp [Op.unary])
theorem QyV {src dst:TypeId} {x av:AV} {u:Value} (h:Qke P src dst x=some av) (hx:VRel S σ H w x u):∃ r,(convert src dst u).run P w=.ok r w∧VRel S σ H w av r:=by
 unfold Qke at h
 split at h<;>first | (cases h;done) | skip
 rename_i k k' n hd
 split at h<;>first | (cases h;done) | skip
 rename_i d hs
 injection h with h;subst h
 cases hx with
 | c hx =>
 cases hx
 (refine ⟨_, ?_,.c (.int _ _)⟩;simp [convert,run_underlying hs,run_underlying hd,Conv.intToInt])
theorem Q5S {t:TypeId} {x av:AV} {u:Value} (h:lenA P t x=some av) (hx:VRel S σ H w x u) (ty:TypeId):∃ r,(Builtin.len_ #[t] ty #[u]).run P w=.ok r w∧VRel S σ H w av r:=by
 unfold lenA at h
 split at h<;>first | (cases h;done) | skip
 ·rename_i hu;injection h with h;subst h
  cases hx with
  | c hx=>cases hx;(refine ⟨_, ?_,.c (.int _ _)⟩;simp [Builtin.len_,run_underlying hu,goInt])
 ·rename_i hu;injection h with h;subst h
  (refine ⟨_, ?_,.c (.int _ _)⟩;simp [Builtin.len_,run_underlying hu,goInt])
 ·rename_i hu;injection h with h;subst h
  cases hx with
  | c hx=>cases hx;(refine ⟨_, ?_,.c (.int _ _)⟩;simp [Builtin.len_,run_underlying hu,goInt])
 ·rename_i hu;injection h with h;subst h
  cases hx;(refine ⟨_, ?_,.c (.int _ _)⟩;simp [Builtin.len_,run_underlying hu,goInt])
theorem Q5V [Globals] (hI:Inv S σ H w) {t:TypeId} {x av:AV} {u:Value} (h:capA P H t x=some av) (hx:VRel S σ H w x u) (ty:TypeId):∃ r,(Builtin.cap_ #[t] ty #[u]).run P w=.ok r w∧VRel S σ H w av r:=by
 unfold capA at h
 split at h<;>first | (cases h;done) | skip
 ·rename_i hu;injection h with h;subst h
  cases hx with
  | c hx =>
  cases hx with
  | slice us hn hz hk hl hm hc hr =>
  have:=hk _ rfl
  subst this
  (refine ⟨_, ?_,.c (.int _ _)⟩;simp [Builtin.cap_,run_underlying hu,goInt])
 ·rename_i hu
  split at h<;>first | (cases h;done) | skip
  rename_i hs
  injection h with h
  subst h
  obtain⟨r,hr⟩:=Option.isSome_iff_exists.1 hs
  have hx0:=hx
  obtain⟨b,cur,cap,hb,rfl,hw,hlc,hcm,hoc,h4,h5,h6⟩:=QcR hx hI hr
  have hd:=Q9X hx0
  obtain⟨fz,hrow,_⟩:=Qcl hr
  refine⟨.int .i64 cap,by simp [Builtin.cap_,run_underlying hu,goInt],.cw hd fun fz' t' cs hc=>?_⟩
  rw[hrow] at hc
  injection hc with hc
  injection hc with e0 e1 e2
  subst e2
  exact⟨by omega,fun _=>⟨b,cur,_,cap,hb,hw,hcm,hoc,rfl⟩⟩
theorem All2.map_ops {R:AV→Value→Prop} {f:Operand→AV} {g:Operand→Value} (h:∀ x,R (f x) (g x)):∀ l:List Operand,All2 R (l.map f) (l.map g)
 | []=>.nil
 | x::xs=>.cons (h x) (All2.map_ops h xs)
theorem QoB {f:AV→AV→Option AV} {g:Value→Value→Sem Value} (hfg:∀ x y z u v,f x y=some z→VRel S σ H w x u→VRel S σ H w y v→∃ r,(g u v).run P w=.ok r w∧VRel S σ H w z r) :
  ∀ (ys:List AV) (vs:List Value) (x z:AV) (u:Value),Qlc f x ys=some z→VRel S σ H w x u→All2 (VRel S σ H w) ys vs→∃ r,(vs.foldlM g u).run P w=.ok r w∧VRel S σ H w z r:=by
 intro ys
 induction ys with
 | nil =>
  intro vs x z u h hx hv
  cases hv
  injection h with h
  subst h
  exact⟨u,rfl,hx⟩
 | cons y ys ih =>
  intro vs x z u h hx hv
  cases hv with
  | cons hy hv =>
  simp only[Qlc] at h
  obtain⟨m,hm,h⟩:=Option.bind_eq_some_iff.1 h
  obtain⟨r,h1,h2⟩:=hfg _ _ _ _ _ hm hx hy
  obtain⟨r',h3,h4⟩:=ih _ _ _ _ h h2 hv
  exact⟨r',by simp [List.foldlM_cons,h1,h3],h4⟩
theorem Q57:∀ (x y z:AV) (u v:Value),Q5p x y=some z→VRel S σ H w x u→VRel S σ H w y v→∃ r,(Builtin.max2 u v).run P w=.ok r w∧VRel S σ H w z r:=by
 intro x y z u v h hx hy
 unfold Q5p at h
 split at h<;>first | (cases h;done) | skip
 injection h with h;subst h
 cases hx with
 | c hx =>
 cases hy with
 | c hy =>
 cases hx;cases hy
 (refine ⟨_, ?_,.c (.int _ _)⟩;simp [Builtin.max2])
theorem Q5s:∀ (x y z:AV) (u v:Value),Q4Y x y=some z→VRel S σ H w x u→VRel S σ H w y v→∃ r,(Builtin.min2 u v).run P w=.ok r w∧VRel S σ H w z r:=by
 intro x y z u v h hx hy
 unfold Q4Y at h
 split at h<;>first | (cases h;done) | skip
 injection h with h;subst h
 cases hx with
 | c hx =>
 cases hy with
 | c hy =>
 cases hx;cases hy
 (refine ⟨_, ?_,.c (.int _ _)⟩;simp [Builtin.min2])
theorem QbG {α:Type} {cs new l:List α} {off:Nat} (h:Qbh cs off new=some l) :
  off+new.length≤cs.length∧l=cs.take off++new++cs.drop (off+new.length):=by
 unfold Qbh at h
 split at h
 ·rename_i x
  split at h<;>first | (cases h;done) | skip
  rename_i hlt
  injection h with h
  subst h
  refine⟨hlt, ?_⟩
  rw[List.set_eq_take_append_cons_drop,if_pos hlt]
  simp
 ·split at h<;>first | (cases h;done) | skip
  rename_i hle
  injection h with h
  exact⟨hle,h.symm⟩
theorem QbW [Globals] {α:Type} {cs new l:List α} {off:Nat} (h:Qbh cs off new=some l):l.length=cs.length:=by
 obtain⟨h1,rfl⟩:=QbG h
 simp
 omega
theorem Qfy [Globals] {α:Type} {cs new l:List α} {off:Nat} (h:Qbh cs off new=some l) (i:Nat) :
  l[i]?=if off≤i∧i<off+new.length then new[i-off]? else cs[i]?:=by
 obtain⟨h1,rfl⟩:=QbG h
 by_cases hi:i<off
 ·rw[if_neg (by omega),List.append_assoc,List.getElem?_append_left (by simp;omega),List.getElem?_take_of_lt hi]
 ·by_cases hj:i<off+new.length
  ·rw[if_pos ⟨by omega,hj⟩,List.append_assoc,List.getElem?_append_right (by simp;omega),List.getElem?_append_left (by simp;omega)]
   congr 1
   simp
   omega
  ·rw[if_neg (by omega),List.getElem?_append_right (by simp;omega),List.getElem?_drop]
   congr 1
   simp
   omega
theorem QqV (off:Nat):∀ (vs:List Value) (n:Nat) (a:Array Value),
  ∀ i:Nat,((vs.zipIdx n).foldl (fun (cs:Array Value) (x:Value × Nat)=>cs.setIfInBounds (off+x.2) x.1) a)[i]?=if off+n≤i∧i<off+n+vs.length∧i<a.size then vs[i-(off+n)]? else a[i]?:=by
 intro vs
 induction vs with
 | nil =>
  intro n a i
  simp
  intro h1 h2
  omega
 | cons v vs ih =>
  intro n a i
  simp only[List.zipIdx_cons,List.foldl_cons]
  rw[ih (n+1) _]
  simp only[Array.size_setIfInBounds,List.length_cons]
  by_cases h1:off+(n+1)≤i∧i<off+(n+1)+vs.length∧i<a.size
  ·rw[if_pos h1,if_pos (by omega)]
   rw[show i-(off+n)=(i-(off+(n+1)))+1 by omega]
   simp
  ·rw[if_neg h1]
   by_cases h2:i=off+n
   ·subst h2
    by_cases h3:off+n<a.size
    ·rw[if_pos (by omega)]
     simp[h3]
    ·rw[if_neg (by omega)]
     simp[h3]
   ·rw[if_neg (by omega)]
    rw[Array.getElem?_setIfInBounds_ne (by omega)]
def CRel (S:Nat→Prop) (σ:List Nat) (H:Heap) (w:World) (cs:List AV) (vs:Array Value):Prop:=vs.size=cs.length∧∀ i x,cs[i]?=some x→VRel S σ H w x (vs.getD i undef)
theorem VRel.kcells {x:AV} {v:Value} (h:VRel S σ H w x v) (hc:∀ y ∈ x.kcells,AV.isCell y=true):CRel S σ H w x.kcells v.cells:=by
 cases x with
 | agg cs=>cases h with | agg h1 h2 r=>exact ⟨h1,r⟩
 | tup vs=>have:=hc (.tup vs) (by simp [AV.kcells]);simp [AV.isCell] at this
 | unk=>have:=hc .unk (by simp [AV.kcells]);simp [AV.isCell] at this
 | cw m i o e z=>have:=hc (.cw m i o e z) (by simp [AV.kcells]);simp [AV.isCell] at this
 | _ =>
  have h1:=h.oneCell rfl
  have e:v.cells=#[v]:=by cases v<;>first | rfl | simp [Value.oneCell'] at h1
  rw[e]
  refine⟨rfl,fun i y hy=>?_⟩
  simp only[AV.kcells,List.getElem?_singleton] at hy
  split at hy<;>first | (cases hy;done) | skip
  rename_i hi
  injection hy with hy
  subst hy
  subst hi
  exact h
theorem Qp4 [Globals] {pa pc:Nat→Option (Nat × Nat)} (hp:∀ i r,pa i=some r→pc i=some r):∀ (ps:List (Nat × List AV)) (qs:List (Nat × Value)) (cs cs':List AV) (va:Array Value),
  QhG pa cs ps=some cs'→All2 (fun p q=>p.1=q.1∧CRel S σ H w p.2 q.2.cells) ps qs→CRel S σ H w cs va→∃ va',Instr.fill pc va qs=some va'∧CRel S σ H w cs' va':=by
 intro ps
 induction ps with
 | nil =>
  intro qs cs cs' va h hq hr
  cases hq
  injection h with h
  subst h
  exact⟨va,rfl,hr⟩
 | cons p ps ih =>
  intro qs cs cs' va h hq hr
  cases hq with
  | cons hpq hq =>
  rename_i q qs
  obtain⟨i,l⟩:=p
  obtain⟨j,v⟩:=q
  obtain⟨rfl,hc⟩:=hpq
  simp only[QhG] at h
  split at h<;>first | (cases h;done) | skip
  rename_i off size hpl
  split at h<;>first | (cases h;done) | skip
  rename_i hsz
  obtain⟨c1,hc1,h⟩:=Option.bind_eq_some_iff.1 h
  have hle:=(QbG hc1).1
  have hs1:=hc.1
  have hs2:=hr.1
  simp only at hsz hs1
  have hnew:CRel S σ H w c1 (v.cells.zipIdx.foldl (fun (cs:Array Value) (x:Value × Nat)=>cs.setIfInBounds (off+x.2) x.1) va):=by
   have hg:=QqV off v.cells.toList 0 va
   have ef:v.cells.zipIdx.foldl (fun (cs:Array Value) (x:Value × Nat)=>cs.setIfInBounds (off+x.2) x.1) va=(v.cells.toList.zipIdx 0).foldl (fun (cs:Array Value) (x:Value × Nat)=>cs.setIfInBounds (off+x.2) x.1) va:=by
    rw[← Array.foldl_toList,Array.toList_zipIdx]
   rw[ef]
   have hsize:((v.cells.toList.zipIdx 0).foldl (fun (cs:Array Value) (x:Value × Nat)=>cs.setIfInBounds (off+x.2) x.1) va).size=va.size:=by
    generalize v.cells.toList.zipIdx 0=l
    clear hg ef
    clear hs2 hr
    induction l generalizing va with
    | nil=>rfl
    | cons y ys ih=>rw [List.foldl_cons,ih];simp
   refine⟨by rw [hsize,QbW hc1];exact hs2,fun k x hk=>?_⟩
   rw[Qfy hc1] at hk
   have hgk:=hg k
   simp only[Nat.add_zero,Array.length_toList] at hgk
   rw[Array.getD_eq_getD_getElem?,hgk]
   by_cases hb:off≤k∧k<off+l.length
   ·rw[if_pos hb] at hk
    rw[if_pos (by omega)]
    have:=hc.2 _ _ hk
    rw[Array.getD_eq_getD_getElem?] at this
    simpa using this
   ·rw[if_neg hb] at hk
    rw[if_neg (by omega)]
    have:=hr.2 _ _ hk
    rw[Array.getD_eq_getD_getElem?] at this
    exact this
  obtain⟨va',h1,h2⟩:=ih qs c1 cs' _ h hq hnew
  refine⟨va', ?_,h2⟩
  simp only[Instr.fill,hp _ _ hpl]
  rw[if_neg (by simp;omega)]
  exact h1
theorem Qyt [Globals] {pa:Nat→Option (Nat × Nat)}:∀ (ps:List (Nat × List AV)) (cs cs':List AV),QhG pa cs ps=some cs'→(∀ p ∈ ps,∀ x ∈ p.2,AV.isCell x=true)→(∀ x ∈ cs,AV.isCell x=true)→∀ x ∈ cs',AV.isCell x=true:=by
 intro ps
 induction ps with
 | nil=>intro cs cs' h _ hc;injection h with h;subst h;exact hc
 | cons p ps ih =>
  intro cs cs' h hp hc
  simp only[QhG] at h
  split at h<;>first | (cases h;done) | skip
  split at h<;>first | (cases h;done) | skip
  obtain⟨c1,hc1,h⟩:=Option.bind_eq_some_iff.1 h
  refine ih c1 cs' h (fun q hq=>hp q (by simp [hq])) ?_
  obtain⟨_,rfl⟩:=QbG hc1
  intro x hx
  simp only[List.append_assoc,List.mem_append] at hx
  rcases hx with hx | hx | hx
  ·exact hc x (List.mem_of_mem_take hx)
  ·exact hp _ (by simp) x hx
  ·exact hc x (List.mem_of_mem_drop hx)
theorem Qce [Globals] {t:TypeId} {z:List IV} (h:zeroCells P t=some z):∃ i v,P.info? t=some i∧i.zero=some v∧CRel S σ H w (z.map .c) v.cells∧z.length=v.cells.size∧∀ (k:Nat) (x:IV),z[k]?=some x→IRel S w x (v.cells.getD k undef):=by
 unfold zeroCells at h
 obtain⟨i,hi,h⟩:=Option.bind_eq_some_iff.1 h
 obtain⟨v,hv,h⟩:=Option.bind_eq_some_iff.1 h
 obtain⟨h1,h2⟩:=Qgx (S:=S) (w:=w) h
 have h3:∀ (k:Nat) (x:IV),z[k]?=some x→IRel S w x (v.cells.getD k undef):=by
  intro k x hk
  obtain⟨u,hu,hr⟩:=h2 k x hk
  have hu':v.cells[k]?=some u:=by simpa using hu
  rw[Array.getD_eq_getD_getElem?,hu']
  exact hr
 refine⟨i,v,hi,hv,⟨by simp [h1],fun k x hk=>?_⟩,by simp [h1],h3⟩
 rw[List.getElem?_map] at hk
 obtain⟨y,hy,rfl⟩:=Option.map_eq_some_iff.1 hk
 exact .c (h3 k y hy)
theorem Q5E [Globals] {ps:List (Nat × AV)} {l:List (Nat × Value)} (hcells:∀ x ∈ ps,∀ y ∈ x.2.kcells,AV.isCell y=true) (hq:All2 (fun p q=>p.1=q.1∧VRel S σ H w p.2 q.2) ps l) :
  All2 (fun (p:Nat × List AV) (q:Nat × Value)=>p.1=q.1∧CRel S σ H w p.2 q.2.cells) (ps.map fun p=>(p.1,p.2.kcells)) l:=by
 induction hq with
 | nil=>exact .nil
 | cons hpq _ ih=>exact .cons ⟨hpq.1,hpq.2.kcells (fun y hy=>hcells _ (by simp) y hy)⟩ (ih fun x hx=>hcells x (by simp [hx]))
theorem Qz2 [Globals] {t:TypeId} {ps:List (Nat × AV)} {av:AV} {qs:Array (Nat × Value)} (h:QbD P t ps=some av) (hq:All2 (fun p q=>p.1=q.1∧VRel S σ H w p.2 q.2) ps qs.toList) :
  ∃ v,(Instr.build t qs).run P w=.ok v w∧VRel S σ H w av v:=by
 unfold QbD at h
 split at h<;>first | (cases h;done) | skip
 rename_i hcells
 obtain⟨z,hz,h⟩:=Option.bind_eq_some_iff.1 h
 obtain⟨pl,hpl,h⟩:=Option.bind_eq_some_iff.1 h
 obtain⟨cs,hcs,rfl⟩:=Option.map_eq_some_iff.1 h
 obtain⟨it,zv,hit,hzv,hzr,_⟩:=Qce (S:=S) (σ:=σ) (H:=H) (w:=w) hz
 simp only[List.all_eq_true] at hcells
 have hq':All2 (fun (p:Nat × List AV) (q:Nat × Value)=>p.1=q.1∧CRel S σ H w p.2 q.2.cells) (ps.map fun p=>(p.1,p.2.kcells)) qs.toList:=by
  exact Q5E hcells hq
 obtain⟨va,hva,hr⟩:=Qp4 (S:=S) (σ:=σ) (H:=H) (w:=w) (pa:=pl) (pc:=pl) (fun i r hi=>hi) _ _ _ _ _ hcs hq' hzr
 refine⟨.agg va,run_build w t qs va ?_,.agg hr.1 ?_ hr.2⟩
 ·unfold placeOf at hpl
  unfold Program.built
  split at hpl<;>first | (cases hpl;done) | skip
  ·rename_i e hu
   obtain⟨ie,hie,rfl⟩:=Option.map_eq_some_iff.1 hpl
   simp only[hit,hu,hzv,hie]
   exact hva
  ·rename_i fields hu
   obtain⟨places,hpp,rfl⟩:=Option.map_eq_some_iff.1 hpl
   simp only[hit,hu,hzv,hpp]
   exact hva
 ·refine Qyt _ _ _ hcs (fun p hp x hx=>?_) (fun x hx=>by obtain ⟨y,_,rfl⟩:=List.mem_map.1 hx;rfl)
  obtain⟨q,hq,rfl⟩:=List.mem_map.1 hp
  exact hcells q hq x hx
theorem All2.map_parts {R:AV→Value→Prop} {f:Operand→AV} {g:Operand→Value} (h:∀ x,R (f x) (g x)):∀ l:List (Nat × Operand),All2 (fun (p:Nat × AV) (q:Nat × Value)=>p.1=q.1∧R p.2 q.2) (l.map fun p=>(p.1,f p.2)) (l.map fun p=>(p.1,g p.2))
 | []=>.nil
 | x::xs=>.cons ⟨rfl,h x.2⟩ (All2.map_parts h xs)
theorem Qjc [Globals] (hI:Inv S σ H w) {ρa:Operand→AV} {ρ:Operand→Value} (hρ:∀ x,VRel S σ H w (ρa x) (ρ x)) {o:Oper} {av:AV} (h:Qa0 P ρa H o=some av) :
  ∃ v,(execOp ρ o).run P w=.ok (.value v) w∧VRel S σ H w av v:=by
 have lift:∀ {s:Sem Value} {av:AV},(∃ v,s.run P w=.ok v w∧VRel S σ H w av v)→∃ v,(do pure (Next.value (← s)):Sem Next).run P w=.ok (.value v) w∧VRel S σ H w av v:=by
  rintro s av ⟨v,h1,h2⟩
  exact⟨v,by simp [h1],h2⟩
 unfold Qa0 at h
 unfold execOp
 split at h<;>first | (cases h;done) | skip
 ·rename_i x ho;injection h with h;subst h;simp only [ho];exact ⟨_,rfl,hρ _⟩
 ·rename_i x ho;injection h with h;subst h;simp only [ho];exact ⟨_,rfl,hρ _⟩
 ·rename_i c a b ho
  simp only[ho]
  split at h<;>first | (cases h;done) | skip
  rename_i t hc
  injection h with h;subst h
  have h1:=hρ c
  rw[hc] at h1
  generalize ρ c=u at h1
  cases h1 with
  | c h1 =>
  cases h1
  refine⟨if t then ρ a else ρ b,by simp [asBool], ?_⟩
  cases t
  ·exact hρ b
  ·exact hρ a
 ·rename_i t a ho;simp only [ho];exact lift (QkU hI h (hρ a))
 ·rename_i x ho
  have:=QmV (P:=P) ho (ρ:=ρ) rfl (hρ x) h
  unfold execOp at this
  exact this
 ·rename_i op t x y yt ho;simp only [ho];exact lift (QhX hI h (hρ x) (hρ y) x y)
 ·rename_i op t x ho;simp only [ho];exact lift (QAn h (hρ x))
 ·rename_i s d x ho;simp only [ho];exact lift (QyV h (hρ x))
 ·rename_i f first captured ho
  simp only[ho]
  injection h with h
  subst h
  refine lift ⟨_,rfl, ?_⟩
  split
  ·rename_i he
   obtain⟨e1,e2⟩:=he
   rw[Array.eq_empty_of_size_eq_zero e1,Array.eq_empty_of_size_eq_zero e2,Array.map_empty]
   exact .c (.fn f)
  ·refine .clo (by simp) (by simp) (fun i x hi=>?_) (fun i x hi=>?_)
   ·rw[List.getElem?_map] at hi
    obtain⟨y,hy,rfl⟩:=Option.map_eq_some_iff.1 hi
    have:(first.map ρ)[i]?=some (ρ y):=by simp [show first[i]?=some y by simpa using hy]
    rw[Array.getD_eq_getD_getElem?,this]
    exact hρ y
   ·rw[List.getElem?_map] at hi
    obtain⟨y,hy,rfl⟩:=Option.map_eq_some_iff.1 hi
    have:(captured.map ρ)[i]?=some (ρ y):=by simp [show captured[i]?=some y by simpa using hy]
    rw[Array.getD_eq_getD_getElem?,this]
    exact hρ y
 ·rename_i t x lo hi mx ho
  simp only[ho]
  refine lift (Qzj hI h (hρ x) (by simp) (by simp) (by simp) ?_ ?_ ?_)
  all_goals
   intro a u ha hu
   obtain⟨y,hy,rfl⟩:=Option.map_eq_some_iff.1 ha
   obtain⟨y',hy',rfl⟩:=Option.map_eq_some_iff.1 hu
   rw[hy] at hy'
   injection hy' with hy'
   subst hy'
   exact hρ y
 ·rename_i s x f ho;simp only [ho];exact lift (Qmf h (hρ x))
 ·rename_i s x f ho;simp only [ho];exact lift (Qyy h (hρ x))
 ·rename_i t x i ho;simp only [ho];exact lift (QjY hI h (hρ x) (hρ i))
 ·rename_i t x i ho;simp only [ho];exact lift (Qye h (hρ x) (hρ i))
 ·rename_i t i ho
  simp only[ho]
  split at h<;>first | (cases h;done) | skip
  rename_i vs hc
  have h1:=hρ t
  rw[hc] at h1
  generalize ρ t=u at h1
  cases h1 with
  | tup h1 r =>
  have hlt:=(List.getElem?_eq_some_iff.1 h).1
  refine lift ⟨_, ?_,r i av h⟩
  simp[Instr.extract,Array.getD,show i<_ from h1 ▸ hlt]
 ·rename_i t parts ho
  simp only[ho]
  refine lift (Qz2 (qs:=parts.map fun (i,x)=>(i,ρ x)) h ?_)
  rw[Array.toList_map]
  exact All2.map_parts hρ parts.toList
 ·rename_i t x i ok ho;simp only [ho];exact lift (Qud hI h (hρ x) (hρ i))
 ·rename_i args argTypes ho
  simp only[ho]
  split at h<;>first | (cases h;done) | skip
  rename_i x t ha ht
  have ea:args=#[x]:=by rw [← Array.toArray_toList (xs:=args),ha]
  have et:argTypes=#[t]:=by rw [← Array.toArray_toList (xs:=argTypes),ht]
  subst ea
  subst et
  obtain⟨r,h1,h2⟩:=Q5S h (hρ x) o.type
  exact⟨r,by simp [resolve,invoke,builtin,h1],h2⟩
 ·rename_i args argTypes ho
  simp only[ho]
  split at h<;>first | (cases h;done) | skip
  rename_i x xs ha
  have ea:args=(x::xs).toArray:=by rw [← Array.toArray_toList (xs:=args),ha]
  subst ea
  obtain⟨r,h1,h2⟩:=QoB (S:=S) (σ:=σ) (H:=H) (w:=w) (P:=P) Q57 (xs.map ρa) (xs.map ρ) _ _ _ h (hρ x) (All2.map_ops hρ xs)
  exact⟨r,by simp [resolve,invoke,builtin,Builtin.max_,h1],h2⟩
 ·rename_i args argTypes ho
  simp only[ho]
  split at h<;>first | (cases h;done) | skip
  rename_i x xs ha
  have ea:args=(x::xs).toArray:=by rw [← Array.toArray_toList (xs:=args),ha]
  subst ea
  obtain⟨r,h1,h2⟩:=QoB (S:=S) (σ:=σ) (H:=H) (w:=w) (P:=P) Q5s (xs.map ρa) (xs.map ρ) _ _ _ h (hρ x) (All2.map_ops hρ xs)
  exact⟨r,by simp [resolve,invoke,builtin,Builtin.min_,h1],h2⟩
 ·rename_i args argTypes ho
  simp only[ho]
  split at h<;>first | (cases h;done) | skip
  rename_i x t ha ht
  have ea:args=#[x]:=by rw [← Array.toArray_toList (xs:=args),ha]
  have et:argTypes=#[t]:=by rw [← Array.toArray_toList (xs:=argTypes),ht]
  subst ea
  subst et
  obtain⟨r,h1,h2⟩:=Q5V hI h (hρ x) o.type
  exact⟨r,by simp [resolve,invoke,builtin,h1],h2⟩
end
end Go.Ab
