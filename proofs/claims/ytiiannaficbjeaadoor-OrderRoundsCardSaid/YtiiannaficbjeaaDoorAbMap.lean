/- A part of the proof: an interpreter on abstract values, proved right for every program; no condition. -/
import Derived.Test.YtiiannaficbjeaaDoorAbPure2
namespace Go.Ab
set_option linter.unusedVariables false
set_option linter.unusedSimpArgs false
set_option linter.unusedSectionVars false
section
variable {S:Nat→Prop} {σ:List Nat} {H:Heap} {w:World} {P:Program}
inductive All2 {α β:Type} (R:α→β→Prop):List α→List β→Prop
 | nil:All2 R [] []
 | cons {x:α} {y:β} {xs:List α} {ys:List β} (h:R x y) (t:All2 R xs ys):All2 R (x::xs) (y::ys)
theorem QcV {r:Nat} {es:Array MapEntry} {clock:Nat} (hb:w.heap[r]?=some (.map es clock)):(getObj r).run P w=.ok (.map es clock) w:=by
 simp[getObj,Sem.run,hb]
theorem Qeu {r:Nat} {es:Array MapEntry} {clock:Nat} (o:Obj) (hb:w.heap[r]?=some (.map es clock)):(setObj r o).run P w=.ok () { w with heap:=w.heap.setIfInBounds r o }:=by
 simp[setObj,Sem.run,hb]
theorem QiV {t:TypeId} (h:Qef P t=true):(∃ k,P.underlying t=some (.int k))∨P.underlying t=some .bool:=by
 unfold Qef at h
 split at h
 ·rename_i k hu;exact .inl ⟨k,hu⟩
 ·rename_i hu;exact .inr hu
 ·cases h
theorem QdJ {t:TypeId} (h:Qef P t=true) (em:Bool) (n:Nat) (v:Value):(Instr.checkKey em (n+1) t v).run P w=.ok () w:=by
 rcases QiV h with ⟨k,hu⟩ | hu<;>simp [Instr.checkKey,run_underlying hu]
theorem Qeg [Globals] {kt:TypeId} {k:AV} {v:Value} (h:QdU P kt k=true) (hk:VRel S σ H w k v) (em:Bool):(Instr.checkKey em 10000 kt v).run P w=.ok () w:=by
 unfold QdU at h
 split at h<;>first | (cases h;done) | skip
 ·rename_i hu;exact QdJ (by unfold Qef;rw [hu]) em 9999 v
 ·rename_i hu;exact QdJ (by unfold Qef;rw [hu]) em 9999 v
 ·rename_i fs cs hu
  cases hk with
  | agg h1 h2 r =>
  rename_i vs
  rw[show (10000:Nat)=9998+1+1 from rfl,Instr.checkKey]
  simp only[Sem.run_bind,run_underlying hu,Result.andThen_ok]
  rw[← Array.forIn_toList]
  rw[List.all_eq_true] at h
  generalize fs.toList=L at h
  induction L with
  | nil=>simp
  | cons f L ih =>
   have hf:=h f (by simp)
   simp only[Bool.and_eq_true,beq_iff_eq,decide_eq_true_eq] at hf
   obtain⟨⟨f1,f2⟩,f3⟩:=hf
   have p1:=Qe2 (P:=P) (w:=w) (vs:=vs) (off:=f.offset) f1 (by omega)
   have p2:=QdJ (w:=w) f3 em 9998 (vs.getD f.offset undef)
   have ih':=ih fun x hx=>h x (by simp [hx])
   by_cases hn:f.name = "_"
   ·simpa only [List.forIn_cons,Sem.run_bind,hn,ne_eq,not_true,if_false,Result.andThen_ok,Sem.run_pure] using ih'
   ·simpa only [List.forIn_cons,Sem.run_bind,hn,ne_eq,not_false_eq_true,if_true,Result.andThen_ok,p1,p2,Sem.run_pure] using ih'
theorem Qy6 [Globals] {t:TypeId} {x y:AV} {u v:Value} {b:Bool} (h:Qh3 P t x y=some b) (hx:VRel S σ H w x u) (hy:VRel S σ H w y v):(Op.equal t u v).run P w=.ok b w:=by
 unfold Qh3 at h
 split at h<;>first | (cases h;done) | skip
 ·cases hx with
  | c hx =>
  cases hy with
  | c hy =>
  exact QeP (d:=9999) h hx hy
 ·rename_i xs ys
  split at h<;>first | (cases h;done) | skip
  rename_i fs hu
  split at h<;>first | (cases h;done) | skip
  rename_i hc
  cases hx with
  | agg h1 h2 r1 =>
  cases hy with
  | agg h3 h4 r2 =>
  have hf:=Qmx hu
  show (Op.equalIn (9999+1) t _ _).run P w=_
  rw[run_equalIn_struct w 9999 t _ _ (by rw [hf];exact hu) hc.1,hf]
  exact Qgr (d:=9998) fs.toList 0 xs ys b h (by omega) (by omega) (by simpa using r1) (by simpa using r2)
theorem Qfl {t:TypeId} {x y:IV} {b:Bool} (h:Qdn P t x y=some b) :
  (∃ q k m n,P.underlying t=some (.int q)∧x=.int k m∧y=.int k n∧b=(m == n))∨(∃ m n,P.underlying t=some .bool∧x=.bool m∧y=.bool n∧b=(m == n))∨P.underlying t=some .string:=by
 unfold Qdn at h
 split at h<;>first | (cases h;done) | skip
 ·rename_i hu
  split at h<;>first | (cases h;done) | skip
  rename_i hk
  subst hk
  injection h with h
  exact .inl ⟨_,_,_,_,hu,rfl,rfl,h.symm⟩
 ·rename_i hu
  injection h with h
  exact .inr (.inl ⟨_,_,hu,rfl,rfl,h.symm⟩)
 ·rename_i hu
  exact .inr (.inr hu)
theorem Qmd {t:TypeId} {x y:IV} {u v:Value} (h:Qdn P t x y=some true) (hx:IRel S w x u) (hy:IRel S w y v) (hs:Qef P t=true) (n:Nat):Instr.sameBits n v u=true:=by
 rcases Qfl h with ⟨q,k,a,c,_,rfl,rfl,hb⟩ | ⟨a,c,_,rfl,rfl,hb⟩ | hu
 ·cases hx;cases hy
  have:a=c:=by simpa using hb.symm
  subst this
  cases n<;>simp [Instr.sameBits]
 ·cases hx;cases hy
  have:a=c:=by simpa using hb.symm
  subst this
  cases n<;>simp [Instr.sameBits]
 ·rcases QiV hs with ⟨k,hu'⟩ | hu'<;>rw [hu] at hu'<;>cases hu'
theorem QqW [Globals] {m:Nat}:∀ (fs:List Field) (n:Nat) (cs ds:List AV),QbC P n fs cs ds=some true→(∀ f ∈ fs,Qef P f.type=true)→∀ (us vs:List Value),us.length=cs.length→vs.length=ds.length →
  (∀ i x,cs[i]?=some x→VRel S σ H w x (us.getD i undef))→(∀ i x,ds[i]?=some x→VRel S σ H w x (vs.getD i undef))→vs.length=us.length∧((vs.zip us).all fun (x,y)=>Instr.sameBits m x y)=true:=by
 intro fs
 induction fs with
 | nil =>
  intro n cs ds h hs us vs h1 h2 r1 r2
  rcases cs with _ | ⟨c,cs⟩<;>rcases ds with _ | ⟨e,ds⟩<;>simp [QbC] at h
  rw[List.eq_nil_of_length_eq_zero h1,List.eq_nil_of_length_eq_zero h2]
  simp
 | cons f fs ih =>
  intro n cs ds h hs us vs h1 h2 r1 r2
  rcases cs with _ | ⟨c,xs'⟩<;>rcases ds with _ | ⟨e,ys'⟩<;>first | (simp [QbC] at h;done) | skip
  cases c<;>first | (simp [QbC] at h;done) | skip
  rename_i x
  cases e<;>first | (simp [QbC] at h;done) | skip
  rename_i y
  simp only[QbC] at h
  split at h<;>first | (cases h;done) | skip
  obtain⟨p,hp,h⟩:=Option.bind_eq_some_iff.1 h
  obtain⟨q,hq,hpq⟩:=Option.map_eq_some_iff.1 h
  simp only[Bool.and_eq_true] at hpq
  obtain⟨rfl,rfl⟩:=hpq
  rcases us with _ | ⟨u,us⟩
  ·simp at h1
  rcases vs with _ | ⟨v,vs⟩
  ·simp at h2
  have hx:=r1 0 _ rfl
  have hy:=r2 0 _ rfl
  cases hx with
  | c hx =>
  cases hy with
  | c hy =>
  have hb:=Qmd hp hx hy (hs f (by simp)) m
  obtain⟨i1,i2⟩:=ih (n+1) xs' ys' hq (fun g hg=>hs g (by simp [hg])) us vs (by simpa using h1) (by simpa using h2) (fun i x hi=>by simpa using r1 (i+1) x (by simpa using hi)) (fun i x hi=>by simpa using r2 (i+1) x (by simpa using hi))
  refine⟨by simp [i1], ?_⟩
  simp only[List.getD_cons_zero] at hb
  simp only[List.zip_cons_cons,List.all_cons,hb,i2,Bool.and_self]
theorem QDM {t:TypeId} {a:IV} (h:QdU P t (.c a)=true):Qef P t=true:=by
 unfold QdU at h
 unfold Qef
 split at h<;>first | (cases h;done) | skip
 ·rename_i hu _;rw [hu]
 ·rename_i hu _;rw [hu]
 ·rename_i e;cases e
theorem QpJ [Globals] {t:TypeId} {x y:AV} {u v:Value} (h:Qh3 P t x y=some true) (hk:QdU P t x=true) (hx:VRel S σ H w x u) (hy:VRel S σ H w y v):Instr.sameBits 10000 v u=true:=by
 unfold Qh3 at h
 split at h<;>first | (cases h;done) | skip
 ·cases hx with
  | c hx =>
  cases hy with
  | c hy =>
  exact Qmd h hx hy (QDM hk) 10000
 ·rename_i xs ys
  split at h<;>first | (cases h;done) | skip
  rename_i fs hu
  split at h<;>first | (cases h;done) | skip
  unfold QdU at hk
  rw[hu] at hk
  simp only[List.all_eq_true,Bool.and_eq_true] at hk
  cases hx with
  | agg h1 h2 r1 =>
  cases hy with
  | agg h3 h4 r2 =>
  rename_i us vs
  obtain⟨e1,e2⟩:=QqW (m:=9999) fs.toList 0 xs ys h (fun f hf=>(hk f hf).2) us.toList vs.toList (by simpa using h1) (by simpa using h3)
   (fun i x hi=>by have:=r1 i x hi;rw [Array.getD_eq_getD_getElem?] at this;rw [List.getD_eq_getElem?_getD];simpa using this) (fun i x hi=>by have:=r2 i x hi;rw [Array.getD_eq_getD_getElem?] at this;rw [List.getD_eq_getElem?_getD];simpa using this)
  simp only[Instr.sameBits,Bool.and_eq_true,beq_iff_eq]
  exact⟨by simpa using e1,e2⟩
abbrev Ents [Globals] (S:Nat→Prop) (σ:List Nat) (H:Heap) (w:World) (es:List (AV × AV)) (ms:List MapEntry):Prop:=All2 (fun (e:AV × AV) (m:MapEntry)=>VRel S σ H w e.1 m.key∧VRel S σ H w e.2 m.val) es ms
def Found [Globals] (S:Nat→Prop) (σ:List Nat) (H:Heap) (w:World) (P:Program) (kt:TypeId) (k:AV) (es:List (AV × AV)) (i:Nat) (r:Option (Nat × AV)) (q:Option (Nat × Value)):Prop :=
 match r with
 | none=>q=none
 | some p=>∃ (u:Value) (e:AV × AV),q=some (i+p.1,u)∧VRel S σ H w p.2 u∧es[p.1]?=some e∧Qh3 P kt k e.1=some true
theorem Found.step [Globals] {kt:TypeId} {k:AV} {e:AV × AV} {es:List (AV × AV)} {i:Nat} {r:Option (Nat × AV)} {q:Option (Nat × Value)} (h:Found S σ H w P kt k es (i+1) r q):Found S σ H w P kt k (e::es) i (r.map fun p=>(p.1+1,p.2)) q:=by
 cases r with
 | none=>exact h
 | some p =>
  obtain⟨u,e',h1,h2,h3,h4⟩:=h
  exact⟨u,e',by rw [h1];simp only [Option.map_some];congr 2;omega,h2,by simpa using h3,h4⟩
theorem Qhi [Globals] {kt:TypeId} {kd:TypeDesc} (hu:P.underlying kt=some kd) (hkd:(∃ k,kd=.int k)∨kd=.bool) {k:IV} {v:Value} (hk:IRel S w k v) :
  ∀ (es:List (AV × AV)) (ms:List MapEntry),Ents S σ H w es ms→∀ (i:Nat) (r:Option (Nat × AV)),QhJ P kt (.c k) es=some r→∃ q,Instr.findNow kd v ms i=some q∧Found S σ H w P kt (.c k) es i r q:=by
 intro es ms he
 induction he with
 | nil=>intro i r h;injection h with h;subst h;exact ⟨none,rfl,rfl⟩
 | cons hem _ ih =>
  rename_i e m es ms _
  intro i r h
  obtain⟨hk1,hv1⟩:=hem
  simp only[QhJ] at h
  obtain⟨b,hb,h⟩:=Option.bind_eq_some_iff.1 h
  have hs:Instr.sameNow kd v m.key=some b:=by
   generalize e.1=e1 at hb hk1
   cases e1 with
   | c a' =>
    cases hk1 with
    | c hk1 =>
    rcases Qfl (show Qdn P kt k a'=some b from hb) with ⟨q,kk,a,c,hu',rfl,rfl,hb'⟩ | ⟨a,c,hu',rfl,rfl,hb'⟩ | hu'
    ·rw[hu] at hu'
     injection hu' with hu'
     subst hu'
     generalize m.key=mk at hk1
     cases hk;cases hk1
     simp[Instr.sameNow,hb']
    ·rw[hu] at hu'
     injection hu' with hu'
     subst hu'
     generalize m.key=mk at hk1
     cases hk;cases hk1
     simp[Instr.sameNow,hb']
    ·rw[hu] at hu'
     injection hu' with hu'
     subst hu'
     rcases hkd with ⟨_,h⟩ | h<;>cases h
   | _=>cases hb
  cases b with
  | true =>
   simp only[if_true,Option.some.injEq] at h
   subst h
   exact⟨some (i,m.val),by simp [Instr.findNow,hs],m.val,e,rfl,hv1,rfl,hb⟩
  | false =>
   simp only[Bool.false_eq_true,if_false] at h
   obtain⟨r',hr',rfl⟩:=Option.map_eq_some_iff.1 h
   obtain⟨q,hq,hf⟩:=ih (i+1) r' hr'
   exact⟨q,by simp [Instr.findNow,hs,hq],hf.step⟩
theorem Qj2 [Globals] {kt:TypeId} {k:AV} {v:Value} (hk:VRel S σ H w k v) :
  ∀ (es:List (AV × AV)) (ms:List MapEntry),Ents S σ H w es ms→∀ (i:Nat) (r:Option (Nat × AV)),QhJ P kt k es=some r→∃ q,(Instr.findAsking kt v ms i).run P w=.ok q w∧Found S σ H w P kt k es i r q:=by
 intro es ms he
 induction he with
 | nil=>intro i r h;injection h with h;subst h;exact ⟨none,rfl,rfl⟩
 | cons hem _ ih =>
  rename_i e m es ms _
  intro i r h
  obtain⟨hk1,hv1⟩:=hem
  simp only[QhJ] at h
  obtain⟨b,hb,h⟩:=Option.bind_eq_some_iff.1 h
  have hs:=Qy6 (P:=P) hb hk hk1
  cases b with
  | true =>
   simp only[if_true,Option.some.injEq] at h
   subst h
   exact⟨some (i,m.val),by simp [Instr.findAsking,hs],m.val,e,rfl,hv1,rfl,hb⟩
  | false =>
   simp only[Bool.false_eq_true,if_false] at h
   obtain⟨r',hr',rfl⟩:=Option.map_eq_some_iff.1 h
   obtain⟨q,hq,hf⟩:=ih (i+1) r' hr'
   exact⟨q,by simp [Instr.findAsking,hs,hq],hf.step⟩
theorem Qez [Globals] {kt:TypeId} {k:AV} {v:Value} (ho:QdU P kt k=true) (hk:VRel S σ H w k v) {es:List (AV × AV)} {ms:List MapEntry} (he:Ents S σ H w es ms) {r:Option (Nat × AV)} (h:QhJ P kt k es=some r) :
  ∃ q,(Instr.findKey kt v ms).run P w=.ok q w∧Found S σ H w P kt k es 0 r q:=by
 have ho':=ho
 unfold QdU at ho
 split at ho<;>first | (cases ho;done) | skip
 ·rename_i kk x hu
  cases hk with
  | c hk =>
  obtain⟨q,hq,hf⟩:=Qhi hu (.inl ⟨_,rfl⟩) hk es ms he 0 r h
  exact⟨q,by simp [Instr.findKey,run_underlying hu,hq],hf⟩
 ·rename_i x hu
  cases hk with
  | c hk =>
  obtain⟨q,hq,hf⟩:=Qhi hu (.inr rfl) hk es ms he 0 r h
  exact⟨q,by simp [Instr.findKey,run_underlying hu,hq],hf⟩
 ·rename_i fs cs hu
  obtain⟨q,hq,hf⟩:=Qj2 (P:=P) hk es ms he 0 r h
  refine⟨q, ?_,hf⟩
  cases he with
  | nil =>
   simp only[Instr.findAsking,Sem.run_pure] at hq
   injection hq with hq
   subst hq
   simp[Instr.findKey,run_underlying hu,Instr.findNow]
  | cons hem _ =>
   rename_i e m es ms _
   have:Instr.findNow (.struct fs) v (m::ms) 0=none:=by simp [Instr.findNow,Instr.sameNow]
   simp[Instr.findKey,run_underlying hu,this,hq]
theorem All2.of_get {α β:Type} {R:α→β→Prop}:∀ {xs:List α} {ys:List β},ys.length=xs.length→(∀ (i:Nat) (x:α),xs[i]?=some x→∃ y,ys[i]?=some y∧R x y)→All2 R xs ys
 | [],[],_,_=>.nil
 | x::xs,y::ys,hl,h=>by
  obtain⟨y',h1,h2⟩:=h 0 x rfl
  simp at h1
  subst h1
  exact .cons h2 (All2.of_get (by simpa using hl) fun i x hi=>by simpa using h (i+1) x (by simpa using hi))
theorem QrN [Globals] {es:List (AV × AV)} {ms:Array MapEntry} (h1:ms.size=es.length) (h:∀ (i:Nat) (k v:AV),es[i]?=some (k,v)→∃ e:MapEntry,ms[i]?=some e∧VRel S σ H w k e.key∧VRel S σ H w v e.val):Ents S σ H w es ms.toList :=
 All2.of_get (by simpa using h1) fun i x hi=>by
  obtain⟨e,he,h2,h3⟩:=h i x.1 x.2 hi
  exact⟨e,by simpa using he,h2,h3⟩
theorem QgO {t k e:TypeId} (h:mapT P t=some (k,e)):P.underlying t=some (.map k e):=by
 unfold mapT at h
 split at h
 ·rename_i hu;injection h with h;injection h with h1 h2;rw [hu,h1,h2]
 ·cases h
theorem Qud [Globals] (hI:Inv S σ H w) {t:TypeId} {x k av:AV} {u v:Value} {ok:Bool} (h:QbJ P H t x k ok=some av) (hx:VRel S σ H w x u) (hk:VRel S σ H w k v) :
  ∃ r,(Instr.lookup t u v ok).run P w=.ok r w∧VRel S σ H w av r:=by
 unfold QbJ at h
 obtain⟨⟨kt,et⟩,hm,h⟩:=Option.bind_eq_some_iff.1 h
 split at h<;>first | (cases h;done) | skip
 rename_i hok
 have hu:=QgO hm
 obtain⟨es,hes,h⟩:=Option.bind_eq_some_iff.1 h
 obtain⟨r,hr,h⟩:=Option.bind_eq_some_iff.1 h
 have hent:∃ ms:Array MapEntry,Ents S σ H w es ms.toList∧((u=.map none∧ms=#[])∨∃ b c,u=.map (some b)∧w.heap[b]?=some (.map ms c)):=by
  split at hes<;>first | (cases hes;done) | skip
  ·injection hes with hes
   subst hes
   cases hx with
   | c hx=>cases hx;exact ⟨#[],.nil,.inl ⟨rfl,rfl⟩⟩
  ·rename_i id
   split at hes<;>first | (cases hes;done) | skip
   rename_i mt es' hH
   injection hes with hes
   subst hes
   cases hx with
   | hmap hs hd =>
   obtain⟨ms,c,g1,g2,g3,g4,g5⟩:=hI.obj _ _ _ hs hH
   exact⟨ms,QrN g2 g5,.inr ⟨_,c,rfl,g1⟩⟩
 obtain⟨ms,he,hu2⟩:=hent
 have hck:=Qeg (P:=P) hok hk ms.isEmpty
 obtain⟨q,hq,hf⟩:=Qez hok hk he hr
 cases r with
 | some p =>
  obtain⟨y,e,rfl,h2,_,_⟩:=hf
  simp only at h
  injection h with h
  subst h
  have hrun:(Instr.lookup t u v ok).run P w=.ok (if ok then .tuple #[y,.bool true] else y) w:=by
   rcases hu2 with ⟨rfl,rfl⟩ | ⟨b,c,rfl,hb⟩
   ·unfold Instr.lookup
    simp only[Sem.run_bind,run_underlying hu,Result.andThen_ok,Sem.run_pure,hck,hq]
   ·unfold Instr.lookup
    simp only[Sem.run_bind,run_underlying hu,Result.andThen_ok,QcV hb,Sem.run_pure,hck,hq]
  refine⟨_,hrun, ?_⟩
  cases ok
  ·exact h2
  ·exact .tup rfl fun i x hi=>by
    match i with
    | 0=>simp at hi;subst hi;exact h2
    | 1=>simp at hi;subst hi;exact .c (.bool true)
    | i+2=>simp at hi
 | none =>
  obtain rfl:q=none:=hf
  obtain⟨z,hz,rfl⟩:=Option.map_eq_some_iff.1 h
  unfold zeroV at hz
  obtain⟨zv,hzv,rfl⟩:=Option.map_eq_some_iff.1 hz
  obtain⟨i,hi,hzi⟩:=Option.bind_eq_some_iff.1 hzv
  have hz:(zeroValue et).run P w=.ok zv w:=by simp [zeroValue,typeInfo,hi,hzi]
  have hrun:(Instr.lookup t u v ok).run P w=.ok (if ok then .tuple #[zv,.bool false] else zv) w:=by
   rcases hu2 with ⟨rfl,rfl⟩ | ⟨b,c,rfl,hb⟩
   ·unfold Instr.lookup
    simp only[Sem.run_bind,run_underlying hu,Result.andThen_ok,Sem.run_pure,hck,hq,hz]
   ·unfold Instr.lookup
    simp only[Sem.run_bind,run_underlying hu,Result.andThen_ok,QcV hb,Sem.run_pure,hck,hq,hz]
  refine⟨_,hrun, ?_⟩
  cases ok
  ·exact Qc9 zv
  ·exact .tup rfl fun i x hi=>by
    match i with
    | 0=>simp at hi;subst hi;exact Qc9 zv
    | 1=>simp at hi;subst hi;exact .c (.bool false)
    | i+2=>simp at hi
end
end Go.Ab
