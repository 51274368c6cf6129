/- A part of the proof: an interpreter on abstract values, proved right for every program; no condition. -/
import Derived.Test.YtiiannaficbjeaaDoorAbEff2
import Derived.RangeFuncRecord
namespace Go.Ab
set_option linter.unusedVariables false
set_option linter.unusedSimpArgs false
set_option linter.unusedSectionVars false
open Go.RowKit
section
variable {S S':Nat→Prop} {σ σ':List Nat} {H H':Heap} {w w':World} {P:Program}
theorem Qr3 [Globals] (hI:Inv S σ H w) {t:TypeId} {r:Option AV} {v:Option Value} {av:AV} (h:QjW P H t r=some (av,H')) (h1:r.isSome=v.isSome) (h2:∀ a u,r=some a→v=some u→VRel S σ H w a u) :
  ∃ u w',(Instr.makeMap t v).run P w=.ok u w'∧∃ σ',Inv S σ' H' w'∧Tr S σ H w S σ' H' w'∧VRel S σ' H' w' av u:=by
 obtain⟨hI',hT⟩:=hI.grow (.map t []) (.map #[] 0) ⟨#[],0,heap_alloc_new w _,rfl,rfl,fun i e h=>by simp at h,fun i k v h=>by simp at h⟩
 have hv:VRel S (σ++[w.heap.size]) (H++[.map t []]) (w.alloc (.map #[] 0)) (.hmap H.length) (.map (some w.heap.size)):=.hmap (Qd3 hI.len) QfA
 unfold QjW at h
 split at h<;>first | (cases h;done) | skip
 ·injection h with h
  injection h with e1 e2
  subst e1
  subst e2
  cases v with
  | some _=>cases h1
  | none=>exact ⟨_,_,by simp [Instr.makeMap,run_newObj_alloc],_,hI',hT,hv⟩
 ·obtain⟨⟨kt,et⟩,hm,h⟩:=Option.map_eq_some_iff.1 h
  injection h with e1 e2
  subst e1
  subst e2
  cases v with
  | none=>cases h1
  | some u =>
   have hr:=h2 _ _ rfl rfl
   cases hr with
   | c hr =>
   cases hr
   exact⟨_,_,by simp [Instr.makeMap,run_underlying (QgO hm),asInt,asIntOf,run_newObj_alloc],_,hI',hT,hv⟩
theorem All2.set {α β:Type} {R:α→β→Prop} {x:α} {y:β} (hxy:R x y):∀ {xs:List α} {ys:List β} (i:Nat),All2 R xs ys→All2 R (xs.set i x) (ys.set i y)
 | _,_,_,.nil=>.nil
 | _,_,0,.cons _ t=>.cons hxy t
 | _,_,i+1,.cons h t=>.cons h (All2.set hxy i t)
theorem All2.snoc {α β:Type} {R:α→β→Prop} {x:α} {y:β} (hxy:R x y):∀ {xs:List α} {ys:List β},All2 R xs ys→All2 R (xs++[x]) (ys++[y])
 | _,_,.nil=>.cons hxy .nil
 | _,_,.cons h t=>.cons h (All2.snoc hxy t)
theorem All2.len {α β:Type} {R:α→β→Prop} {xs:List α} {ys:List β} (h:All2 R xs ys):xs.length=ys.length:=by
 induction h with
 | nil=>rfl
 | cons _ _ ih=>simp [ih]
theorem All2.at_ {α β:Type} {R:α→β→Prop} {xs:List α} {ys:List β} (h:All2 R xs ys) {i:Nat} {x:α} (hi:xs[i]?=some x):∃ y,ys[i]?=some y∧R x y:=by
 induction h generalizing i with
 | nil=>simp at hi
 | cons h _ ih =>
  cases i with
  | zero=>simp at hi;subst hi;exact ⟨_,rfl,h⟩
  | succ i=>simpa using ih (by simpa using hi)
theorem Qlj [Globals] (hI:Inv S σ H w) {t:TypeId} {x k v:AV} {ux uk uv:Value} (h:Qd2 P H t x k v=some H') (hx:VRel S σ H w x ux) (hk:VRel S σ H w k uk) (hv:VRel S σ H w v uv) :
  ∃ w',(Instr.mapUpdate t ux uk uv).run P w=.ok () w'∧Inv S σ H' w'∧Tr S σ H w S σ H' w':=by
 obtain⟨⟨kt,et⟩,hm,h⟩:=Option.bind_eq_some_iff.1 (show (mapT P t).bind _=some H' from h)
 have hu:=QgO hm
 split at h<;>first | (cases h;done) | skip
 rename_i hok
 obtain⟨id,rfl⟩:∃ id,x=.hmap id:=by
  cases x<;>first | (cases h;done) | exact ⟨_,rfl⟩
 simp only at h
 split at h<;>first | (cases h;done) | skip
 rename_i mt es hH
 obtain⟨r,hr,h⟩:=Option.map_eq_some_iff.1 h
 cases hx with
 | hmap hs hd =>
 rename_i b
 obtain⟨ms,c,g1,g2,g3,g4,g5⟩:=hI.obj _ _ _ hs hH
 have he:=QrN g2 g5
 have hck:=Qeg (P:=P) hok hk false
 obtain⟨q,hq,hf⟩:=Qez hok hk he hr
 have hblt:=(Array.getElem?_eq_some_iff.1 g1).1
 have put:∀ (es':List (AV × AV)) (ms':Array MapEntry) (c':Nat),ms'.size=es'.length→c'=ms'.size→(∀ (i:Nat) (e:MapEntry),ms'[i]?=some e→e.born=i)→Ents S σ H w es' ms'.toList →
   Inv S σ (H.set id (.map mt es')) (w.putObj b (.map ms' c'))∧Tr S σ H w S σ (H.set id (.map mt es')) (w.putObj b (.map ms' c')):=by
  intro es' ms' c' n1 n2 n3 n4
  refine hI.put hH hs rfl rfl rfl rfl (by simp) (fun k hk=>World.putObj_heap_other hk) (fun cur t fr h=>by rw [g1] at h;cases h) rfl (fun fz t cs h=>by cases h) fun hT=>?_
  refine⟨ms',c',World.putObj_heap_same hblt,n1,n2,n3,fun i k v hi=>?_⟩
  obtain⟨e,e1,e2,e3⟩:=n4.at_ hi
  exact⟨e,by simpa using e1,e2.tr hI hT,e3.tr hI hT⟩
 cases r with
 | none =>
  obtain rfl:q=none:=hf
  simp only at h
  subst h
  obtain⟨hI',hT⟩:=put (es++[(k,v)]) (ms.push { key:=uk,val:=uv,born:=c }) (c+1) (by simp [g2]) (by simp [g3]) (fun i e hi=>by
   rw[Array.getElem?_push] at hi
   split at hi
   ·rename_i hii
    injection hi with hi
    subst hi
    rw[hii]
    exact g3
   ·exact g4 i e hi) (by rw [Array.toList_push];exact All2.snoc (R:=fun (e:AV × AV) (m:MapEntry)=>VRel S σ H w e.1 m.key∧VRel S σ H w e.2 m.val) ⟨hk,hv⟩ he)
  refine⟨_, ?_,hI',hT⟩
  unfold Instr.mapUpdate
  simp only[Sem.run_bind,run_underlying hu,Result.andThen_ok,QcV g1,hck,hq]
  rw[Qeu _ g1]
  rfl
 | some p =>
  obtain⟨y,e0,rfl,h2,h3,h4⟩:=hf
  simp only[Nat.zero_add] at hq
  simp only at h
  subst h
  obtain⟨m0,m1,m2,m3⟩:=he.at_ h3
  have hm0:ms[p.1]?=some m0:=by simpa using m1
  have hp:p.1<ms.size:=(Array.getElem?_eq_some_iff.1 hm0).1
  have hbits:=QpJ h4 hok hk m2
  have hms:ms.modify p.1 (fun e=>{ e with key:=uk,val:=uv })=ms.set p.1 { m0 with key:=uk,val:=uv } hp:=by
   apply Array.ext
   ·simp
   ·intro i h1 h2
    have hm0':ms[p.1]=m0:=(Array.getElem?_eq_some_iff.1 hm0).2
    rw[Array.getElem_modify,Array.getElem_set]
    split
    ·rename_i e;subst e;rw [hm0']
    ·rfl
  obtain⟨hI',hT⟩:=put (es.set p.1 (k,v)) (ms.modify p.1 fun e=>{ e with key:=uk,val:=uv }) c (by simp [g2]) (by simp [g3]) (fun i e hi=>by
   rw[hms,Array.getElem?_set] at hi
   split at hi
   ·rename_i e1
    injection hi with hi
    subst hi
    subst e1
    exact g4 _ m0 hm0
   ·exact g4 i e hi) (by rw [hms,Array.toList_set];exact All2.set (R:=fun (e:AV × AV) (m:MapEntry)=>VRel S σ H w e.1 m.key∧VRel S σ H w e.2 m.val) ⟨hk,hv⟩ p.1 he)
  refine⟨_, ?_,hI',hT⟩
  have hbits':Instr.sameBits 10000 m0.key uk=true:=hbits
  unfold Instr.mapUpdate
  simp only[Sem.run_bind,run_underlying hu,Result.andThen_ok,QcV g1,hck,hq,hm0,Option.map_some,Option.getD_some,Instr.keyThatStays,hbits',if_true,Sem.run_pure]
  rw[Qeu _ g1]
  rfl
theorem QmM [Globals] (hI:Inv S σ H w) {t:TypeId} {x k av:AV} {ux uk:Value} (h:Qc4 P H t x k=some (av,H')) (hx:VRel S σ H w x ux) (hk:VRel S σ H w k uk) :
  ∃ r w',(Instr.mapEntry t ux uk).run P w=.ok r w'∧Inv S σ H' w'∧Tr S σ H w S σ H' w'∧VRel S σ H' w' av r:=by
 obtain⟨⟨kt,et⟩,hm,h⟩:=Option.bind_eq_some_iff.1 (show (mapT P t).bind _=some (av,H') from h)
 have hu:=QgO hm
 split at h<;>first | (cases h;done) | skip
 rename_i hok
 obtain⟨id,rfl⟩:∃ id,x=.hmap id:=by
  cases x<;>first | (cases h;done) | exact ⟨_,rfl⟩
 simp only at h
 split at h<;>first | (cases h;done) | skip
 rename_i mt es hH
 obtain⟨r,hr,h⟩:=Option.bind_eq_some_iff.1 h
 cases hx with
 | hmap hs hd =>
 rename_i b
 obtain⟨ms,c,g1,g2,g3,g4,g5⟩:=hI.obj _ _ _ hs hH
 have he:=QrN g2 g5
 have hck:=Qeg (P:=P) hok hk false
 obtain⟨q,hq,hf⟩:=Qez hok hk he hr
 have hblt:=(Array.getElem?_eq_some_iff.1 g1).1
 have put:∀ (es':List (AV × AV)) (ms':Array MapEntry) (c':Nat),ms'.size=es'.length→c'=ms'.size→(∀ (i:Nat) (e:MapEntry),ms'[i]?=some e→e.born=i)→Ents S σ H w es' ms'.toList →
   Inv S σ (H.set id (.map mt es')) (w.putObj b (.map ms' c'))∧Tr S σ H w S σ (H.set id (.map mt es')) (w.putObj b (.map ms' c')):=by
  intro es' ms' c' n1 n2 n3 n4
  refine hI.put hH hs rfl rfl rfl rfl (by simp) (fun k hk=>World.putObj_heap_other hk) (fun cur t fr h=>by rw [g1] at h;cases h) rfl (fun fz t cs h=>by cases h) fun hT=>?_
  refine⟨ms',c',World.putObj_heap_same hblt,n1,n2,n3,fun i k v hi=>?_⟩
  obtain⟨e,e1,e2,e3⟩:=n4.at_ hi
  exact⟨e,by simpa using e1,e2.tr hI hT,e3.tr hI hT⟩
 cases r with
 | none =>
  obtain rfl:q=none:=hf
  simp only at h
  obtain⟨z,hz,h⟩:=Option.map_eq_some_iff.1 h
  injection h with e1 e2
  subst e1
  subst e2
  unfold zeroV at hz
  obtain⟨zv,hzv,rfl⟩:=Option.map_eq_some_iff.1 hz
  obtain⟨i,hi,hzi⟩:=Option.bind_eq_some_iff.1 hzv
  have hz:(zeroValue et).run P w=.ok zv w:=by simp [zeroValue,typeInfo,hi,hzi]
  obtain⟨hI',hT⟩:=put (es++[(k,ofValue zv)]) (ms.push { key:=uk,val:=zv,born:=c }) (c+1) (by simp [g2]) (by simp [g3]) (fun i e hi=>by
   rw[Array.getElem?_push] at hi
   split at hi
   ·rename_i hii
    injection hi with hi
    subst hi
    rw[hii]
    exact g3
   ·exact g4 i e hi) (by rw [Array.toList_push];exact All2.snoc (R:=fun (e:AV × AV) (m:MapEntry)=>VRel S σ H w e.1 m.key∧VRel S σ H w e.2 m.val) ⟨hk,Qc9 zv⟩ he)
  refine⟨.tuple #[zv,goInt c],_, ?_,hI',hT,.tup rfl fun i x hi=>by
   match i with
   | 0=>simp at hi;subst hi;exact Qc9 zv
   | 1 =>
    simp at hi;subst hi
    have:c=es.length:=by rw [g3,g2]
    rw[← this]
    exact .c (.int _ _)
   | i+2=>simp at hi⟩
  unfold Instr.mapEntry
  simp only[Sem.run_bind,run_underlying hu,Result.andThen_ok,QcV g1,hck,hq,hz]
  rw[Qeu _ g1]
  rfl
 | some p =>
  obtain⟨y,e0,rfl,h2,h3,h4⟩:=hf
  simp only[Nat.zero_add] at hq
  simp only[h3,Option.map_some] at h
  injection h with h
  injection h with e1 e2
  subst e1
  subst e2
  obtain⟨m0,m1,m2,m3⟩:=he.at_ h3
  have hm0:ms[p.1]?=some m0:=by simpa using m1
  have hp:p.1<ms.size:=(Array.getElem?_eq_some_iff.1 hm0).1
  have hbits:=QpJ h4 hok hk m2
  have hms:ms.modify p.1 (fun e=>{ e with key:=uk })=ms.set p.1 { m0 with key:=uk } hp:=by
   apply Array.ext
   ·simp
   ·intro i h1 h2
    have hm0':ms[p.1]=m0:=(Array.getElem?_eq_some_iff.1 hm0).2
    rw[Array.getElem_modify,Array.getElem_set]
    split
    ·rename_i e;subst e;rw [hm0']
    ·rfl
  obtain⟨hI',hT⟩:=put (es.set p.1 (k,e0.2)) (ms.modify p.1 fun e=>{ e with key:=uk }) c (by simp [g2]) (by simp [g3]) (fun i e hi=>by
   rw[hms,Array.getElem?_set] at hi
   split at hi
   ·rename_i e1
    injection hi with hi
    subst hi
    subst e1
    exact g4 _ m0 hm0
   ·exact g4 i e hi) (by rw [hms,Array.toList_set];exact All2.set (R:=fun (e:AV × AV) (m:MapEntry)=>VRel S σ H w e.1 m.key∧VRel S σ H w e.2 m.val) (x:=(k,e0.2)) (y:={ m0 with key:=uk }) ⟨hk,m3⟩ p.1 he)
  have hb0:m0.born=p.1:=g4 _ m0 hm0
  refine⟨.tuple #[y,goInt p.1],_, ?_,hI',hT,.tup rfl fun i x hi=>by
   match i with
   | 0=>simp at hi;subst hi;exact h2.tr hI hT
   | 1=>simp at hi;subst hi;exact .c (.int _ _)
   | i+2=>simp at hi⟩
  have hbits':Instr.sameBits 10000 m0.key uk=true:=hbits
  unfold Instr.mapEntry
  simp only[Sem.run_bind,run_underlying hu,Result.andThen_ok,QcV g1,hck,hq,hm0,Option.map_some,Option.getD_some,Instr.keyThatStays,hbits',if_true,Sem.run_pure,hb0]
  rw[Qeu _ g1]
  rfl
theorem Qj5 [Globals] (hI:Inv S σ H w) {t:TypeId} {x s v:AV} {ux us uv:Value} (h:Qb9 H x s v=some H') (hx:VRel S σ H w x ux) (hs':VRel S σ H w s us) (hv:VRel S σ H w v uv) :
  ∃ w',(Instr.entryStore t ux us uv).run P w=.ok () w'∧Inv S σ H' w'∧Tr S σ H w S σ H' w':=by
 unfold Qb9 at h
 split at h<;>first | (cases h;done) | skip
 rename_i id kd n
 split at h<;>first | (cases h;done) | skip
 rename_i mt es hH
 split at h<;>first | (cases h;done) | skip
 rename_i hn
 obtain⟨⟨ek,ev⟩,h3,rfl⟩:=Option.map_eq_some_iff.1 h
 cases hs' with
 | c hs' =>
 cases hs'
 cases hx with
 | hmap hs hd =>
 rename_i b
 obtain⟨ms,c,g1,g2,g3,g4,g5⟩:=hI.obj _ _ _ hs hH
 have he:=QrN g2 g5
 have hblt:=(Array.getElem?_eq_some_iff.1 g1).1
 have put:∀ (es':List (AV × AV)) (ms':Array MapEntry) (c':Nat),ms'.size=es'.length→c'=ms'.size→(∀ (i:Nat) (e:MapEntry),ms'[i]?=some e→e.born=i)→Ents S σ H w es' ms'.toList →
   Inv S σ (H.set id (.map mt es')) (w.putObj b (.map ms' c'))∧Tr S σ H w S σ (H.set id (.map mt es')) (w.putObj b (.map ms' c')):=by
  intro es' ms' c' n1 n2 n3 n4
  refine hI.put hH hs rfl rfl rfl rfl (by simp) (fun k hk=>World.putObj_heap_other hk) (fun cur t fr h=>by rw [g1] at h;cases h) rfl (fun fz t cs h=>by cases h) fun hT=>?_
  refine⟨ms',c',World.putObj_heap_same hblt,n1,n2,n3,fun i k v hi=>?_⟩
  obtain⟨e,e1,e2,e3⟩:=n4.at_ hi
  exact⟨e,by simpa using e1,e2.tr hI hT,e3.tr hI hT⟩
 obtain⟨m0,m1,m2,m3⟩:=he.at_ h3
 have hm0:ms[n.toNat]?=some m0:=by simpa using m1
 have hp:n.toNat<ms.size:=(Array.getElem?_eq_some_iff.1 hm0).1
 have hms:ms.modify n.toNat (fun e=>{ e with val:=uv })=ms.set n.toNat { m0 with val:=uv } hp:=by
  apply Array.ext
  ·simp
  ·intro i h1 h2
   have hm0':ms[n.toNat]=m0:=(Array.getElem?_eq_some_iff.1 hm0).2
   rw[Array.getElem_modify,Array.getElem_set]
   split
   ·rename_i e;subst e;rw [hm0']
   ·rfl
 have hb0:m0.born=n.toNat:=g4 _ m0 hm0
 have hfi:ms.findIdx? (fun e=>(e.born:Int) == n)=some n.toNat:=by
  rw[Array.findIdx?_eq_some_iff_getElem]
  refine⟨hp, ?_,fun j hj=>?_⟩
  ·have hm0':ms[n.toNat]=m0:=(Array.getElem?_eq_some_iff.1 hm0).2
   rw[hm0',hb0]
   simp;omega
  ·have:=g4 j ms[j] (Array.getElem?_eq_getElem (by omega))
   rw[this]
   simp;omega
 obtain⟨hI',hT⟩:=put (es.set n.toNat (ek,v)) (ms.modify n.toNat fun e=>{ e with val:=uv }) c (by simp [g2]) (by simp [g3]) (fun i e hi=>by
  rw[hms,Array.getElem?_set] at hi
  split at hi
  ·rename_i e1
   injection hi with hi
   subst hi
   subst e1
   exact g4 _ m0 hm0
  ·exact g4 i e hi) (by rw [hms,Array.toList_set];exact All2.set (R:=fun (e:AV × AV) (m:MapEntry)=>VRel S σ H w e.1 m.key∧VRel S σ H w e.2 m.val) (x:=(ek,v)) (y:={ m0 with val:=uv }) ⟨m2,hv⟩ n.toNat he)
 refine⟨_, ?_,hI',hT⟩
 unfold Instr.entryStore
 simp only[Sem.run_bind,Result.andThen_ok,QcV g1,asInt,asIntOf,Sem.run_pure,hfi]
 rw[Qeu _ g1]
 rfl
end
end Go.Ab
