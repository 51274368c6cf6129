/- A part of the proof: an interpreter on abstract values, proved right for every program; no condition. -/
import Derived.Test.YtiiannaficbjeaaDoorAbDraw3
import Derived.OrdersIn
namespace Go.Ab
set_option linter.unusedVariables false
set_option linter.unusedSimpArgs false
set_option linter.unusedSectionVars false
open Go.RowKit
section
variable {S:Nat→Prop} {σ:List Nat} {w:World} {P:Program} {rd:Option Nat} {n:Nat}
structure Drawn [Globals] (P:Program) (cx:Cx) (r:Nat) (ops:Array Oper) (F:Fr) (H:Heap) (ms:List Nat) (rs:List Rec):Prop where
 len:rs.length=ops.size
 at_:∀ (k:Nat) (q:Rec),rs[k]?=some q→ops[k]?=some q.o∧q.F=Qb7 (fun n=>decide (n<k)) 0 rs F∧q.G=Qck (fun n=>decide (n<k)) 0 rs H ∧
   (q.run=false→QbS ops q.o q.F=some false∧q.val=.tup []∧q.eff=false) ∧
   (q.run=true→QbS ops q.o q.F=some true∧(q.eff=true→QcU P cx r k q.F q.G q.o=some (q.val,q.G'))∧(q.free=true→∀ K,QcU P cx r k q.F K q.o=some (q.val,K)))
 mask:∀ (k:Nat) (o:Oper),ops[k]?=some o→ms.getD k 0=Qde ms o.after.toList∧∀ e ∈ o.after.toList,Region.binds .any e=true→e.on<k
 reads:∀ (j i:Nat) (oj oi:Oper) (d:Tmp),ops[j]?=some oj→ops[i]?=some oi→oi.dst=some d→d ∈ readsOf ops oj→(ms.getD j 0).testBit i=true∨(ms.getD i 0).testBit j=true
 dsts:∀ (i j:Nat) (o o':Oper) (d:Tmp),ops[i]?=some o→ops[j]?=some o'→o.dst=some d→o'.dst=some d→i=j
 effs:∀ (k k':Nat) (q q':Rec),rs[k]?=some q→q.full=true→rs[k']?=some q'→q'.eff=true→k' < k→(ms.getD k 0).testBit k'=true
 first:∀ (k k':Nat) (q q':Rec),rs[k]?=some q→q.full=true→rs[k']?=some q'→q'.eff=true→q'.full=false→k' < k
 same:∀ (j:Nat) (q:Rec),rs[j]?=some q→q.eff=false→q.run=true→q.free=false →
  ((∃ (i:Nat) (q':Rec),rs[i]?=some q'∧q'.full=true∧(ms.getD j 0).testBit i=true)∨sameAt P q H=true) ∧
  ∀ (k:Nat) (q':Rec),rs[k]?=some q'→q'.full=true→(ms.getD k 0).testBit j=true∨(∃ (i:Nat) (q2:Rec),rs[i]?=some q2∧q2.full=true∧k<i∧(ms.getD j 0).testBit i=true)∨sameAt P q q'.G'=true
theorem QqM [Globals] {cx:Cx} {r:Nat} {ops:Array Oper} {F F':Fr} {H H':Heap} (h:Qhq P cx r ops F H=some (F',H')) :
  ∃ ms rs,Drawn P cx r ops F H ms rs∧F'=QkY rs F∧H'=QhE rs H:=by
 unfold Qhq at h
 split at h<;>first | (cases h;done) | skip
 rename_i hok
 obtain⟨rs,hrs,h⟩:=Option.bind_eq_some_iff.1 h
 simp only at h
 split at h<;>first | (cases h;done) | skip
 rename_i hc
 injection h with h
 injection h with e1 e2
 simp only[QrC,Bool.and_eq_true] at hok
 obtain⟨⟨h1,h2⟩,h3⟩:=hok
 obtain⟨hl,hat⟩:=Qy8 _ _ _ _ _ hrs
 refine⟨QuF ops.toList [],rs,⟨by simpa using hl,fun k q hk=>?_,fun k o hk=>?_,fun j i oj oi d hj hi hd hm=>?_,fun i j o o' d hi hj e1 e2=>?_,fun k k' q q' hk he hk' he' hlt=>?_,fun k k' q q' hk he hk' he' hf'=>?_,fun j q hj he hr hfr=>?_⟩,e1.symm,e2.symm⟩
 ·have:=hat k q hk
  simpa using this
 ·have:=Qtg _ _ h1 k o (by simpa using hk)
  simpa using this
 ·have:=QyL _ _ (Qta _ _ h2 j oj (by simpa using hj)) i oi d (by simpa using hi) hd hm
  simpa using this
 ·exact Qyp _ h3 i j o o' d (by simpa using hi) (by simpa using hj) e1 e2
 ·have:=((QlQ _ _ _ _ hc.1 k q hk (Qr2 he)).1 he).2 k' q' hk' he' hlt
  simpa using this
 ·exact((QlQ _ _ _ _ hc.1 k' q' hk' he').2 hf').2 k q hk he
 ·obtain⟨h4,h5⟩:=QqR _ _ hc.2 j q hj he hr hfr
  simp only[Nat.zero_add] at h4 h5
  refine⟨?_,fun k q' hk he'=>?_⟩
  ·rcases h4 with h4 | h4
   ·obtain⟨i,q',g1,g2,g3⟩:=QiY _ _ h4
    exact .inl ⟨i,q',g1,g2,by simpa using g3⟩
   ·exact .inr h4
  ·have:=Qv9 _ _ h5 k q' hk he'
   simpa using this
def Closed (ms:List Nat) (size:Nat) (L:Nat→Bool):Prop:=∀ j,j<size→L j=true→∀ i,(ms.getD j 0).testBit i=true→L i=true
theorem Drawn.step [Globals] {cx:Cx} {r:Nat} {ops:Array Oper} {F:Fr} {H:Heap} {ms:List Nat} {rs:List Rec} (hD:Drawn P cx r ops F H ms rs) {L L':Nat→Bool} {j:Nat} {o:Oper}
  (hj:ops[j]?=some o) (hC:Closed ms ops.size L) (hun:L j=false) (hrdy:∀ i,(ms.getD j 0).testBit i=true→L i=true) (hL':∀ i,L' i=if i=j then true else L i) :
  ∃ F',QyZ P cx r ops j o (Qb7 L 0 rs F) (Qck L 0 rs H)=some (F',Qck L' 0 rs H)∧F'.n=(Qb7 L' 0 rs F).n∧∀ t,F'.get t=(Qb7 L' 0 rs F).get t:=by
 have hjlt:j<ops.size:=(Array.getElem?_eq_some_iff.1 hj).1
 obtain⟨q,hq⟩:∃ q,rs[j]?=some q:=⟨rs[j]'(by rw [hD.len];exact hjlt),List.getElem?_eq_getElem _⟩
 obtain⟨ho,hF,hG,h0,h1⟩:=hD.at_ j q hq
 rw[hj] at ho
 injection ho with ho
 subst ho
 have hrec:∀ (k:Nat) (p:Rec),rs[k]?=some p→ops[k]?=some p.o:=fun k p hk=>(hD.at_ k p hk).1
 have hlt:∀ (k:Nat) (p:Rec),rs[k]?=some p→k<ops.size:=fun k p hk=>by rw [← hD.len];exact (List.getElem?_eq_some_iff.1 hk).1
 have huniq:∀ (t:Tmp) (k k':Nat) (p p':Rec),rs[k]?=some p→p.o.dst=some t→rs[k']?=some p'→p'.o.dst=some t→k'=k :=
  fun t k k' p p' hk hd hk' hd'=>hD.dsts k' k p'.o p.o t (hrec _ _ hk') (hrec _ _ hk) hd' hd
 have hag:∀ t ∈ readsOf ops q.o,(Qb7 L 0 rs F).get t=q.F.get t:=by
  intro t ht
  rw[hF]
  by_cases hex:∃ (k:Nat) (p:Rec),rs[k]?=some p∧p.o.dst=some t
  ·obtain⟨k,p,hk,hd⟩:=hex
   by_cases htl:F.ok t=true
   ·rcases hD.reads j k q.o p.o t hj (hrec k p hk) hd ht with hb | hb
    ·have hkj:k<j:=by
      obtain⟨m1,m2⟩:=hD.mask j q.o hj
      rw[m1] at hb
      have:∀ (es:List Edge),(∀ e ∈ es,Region.binds .any e=true→e.on<j)→(Qde ms es).testBit k=true→k<j:=by
       intro es hes hb
       obtain⟨e,he,hbd,h | h⟩:=QdT es hb
       ·rw[← h];exact hes e he hbd
       ·have hlt':=hes e he hbd
        clear hb
        have:∀ (m:Nat),m<j→(ms.getD m 0).testBit k=true→k<j:=by
         intro m
         induction m using Nat.strongRecOn with
         | ind m ihm =>
          intro hm hb
          obtain⟨om,hom⟩:∃ om,ops[m]?=some om:=⟨ops[m]'(by omega),Array.getElem?_eq_getElem _⟩
          obtain⟨m1,m2⟩:=hD.mask m om hom
          rw[m1] at hb
          obtain⟨e',he',hbd',h' | h'⟩:=QdT _ hb
          ·have:=m2 e' he' hbd';omega
          ·have:=m2 e' he' hbd'
           exact ihm e'.on this (by omega) h'
        exact this e.on hlt' h
      exact this _ m2 hb
     rw[Qer rs 0 F k p hk hd (by simpa using hrdy k hb) htl (fun k' p' hk' hd'=>huniq t k k' p p' hk hd hk' hd'),
      Qer rs 0 F k p hk hd (by simpa using hkj) htl (fun k' p' hk' hd'=>huniq t k k' p p' hk hd hk' hd')]
    ·have hLk:L k=false:=by
      cases hLk:L k with
      | false=>rfl
      | true =>
       have:=hC k (hlt k p hk) hLk j hb
       rw[hun] at this
       cases this
     have hjk:¬ k<j:=by
      intro hkj
      have:∀ (m:Nat),m<j→(ms.getD m 0).testBit j=true→False:=by
       intro m
       induction m using Nat.strongRecOn with
       | ind m ihm =>
        intro hm hb
        obtain⟨om,hom⟩:∃ om,ops[m]?=some om:=⟨ops[m]'(by omega),Array.getElem?_eq_getElem _⟩
        obtain⟨m1,m2⟩:=hD.mask m om hom
        rw[m1] at hb
        obtain⟨e',he',hbd',h' | h'⟩:=QdT _ hb
        ·have:=m2 e' he' hbd';omega
        ·have:=m2 e' he' hbd'
         exact ihm e'.on this (by omega) h'
      exact this k hkj hb
     have hall:∀ (k':Nat) (p':Rec),rs[k']?=some p'→p'.o.dst=some t→k'=k:=fun k' p' hk' hd'=>huniq t k k' p p' hk hd hk' hd'
     rw[QcC rs 0 F (fun k' p' hk' hd'=>by rw [hall k' p' hk' hd',Nat.zero_add];exact hLk),
      QcC rs 0 F (fun k' p' hk' hd'=>by rw [hall k' p' hk' hd',Nat.zero_add];simpa using hjk)]
   ·rw[QfK _ _ _ (by simpa using htl),QfK _ _ _ (by simpa using htl)]
  ·have hno:∀ (L':Nat→Bool) (k:Nat) (p:Rec),rs[k]?=some p→p.o.dst=some t→L' (0+k)=false:=fun L' k p hk hd=>absurd ⟨k,p,hk,hd⟩ hex
   rw[QcC rs 0 F (hno L),QcC rs 0 F (hno _)]
 obtain⟨hev,hgu⟩:=Qy9 hag
 have hwant:=QqF (ops:=ops) (o:=q.o) hgu
 have hF':∀ t,(setD (Qb7 L 0 rs F) q.o.dst q.val).get t=(Qb7 L' 0 rs F).get t:=by
  intro t
  rw[QjP,Q9x]
  by_cases hd:q.o.dst=some t∧F.ok t=true
  ·rw[if_pos hd,Qer rs 0 F j q hq hd.1 (by rw [hL'];simp) hd.2 (fun k' p' hk' hd'=>huniq t j k' q p' hq hd.1 hk' hd')]
  ·rw[if_neg hd]
   by_cases htl:F.ok t=true
   ·have hd':q.o.dst≠some t:=fun h=>hd ⟨h,htl⟩
    by_cases hex:∃ (k:Nat) (p:Rec),rs[k]?=some p∧p.o.dst=some t∧L k=true
    ·obtain⟨k,p,hk,hdk,hLk⟩:=hex
     rw[Qer rs 0 F k p hk hdk (by simpa using hLk) htl (fun k' p' hk' hd'=>huniq t k k' p p' hk hdk hk' hd'),
      Qer rs 0 F k p hk hdk (by rw [hL'];simp [hLk]) htl (fun k' p' hk' hd'=>huniq t k k' p p' hk hdk hk' hd')]
    ·have hno:∀ (k:Nat) (p:Rec),rs[k]?=some p→p.o.dst=some t→L k=false:=by
      intro k p hk hdk
      cases hLk:L k with
      | false=>rfl
      | true=>exact absurd ⟨k,p,hk,hdk,hLk⟩ hex
     rw[QcC rs 0 F (fun k p hk hdk=>by rw [Nat.zero_add];exact hno k p hk hdk),
      QcC rs 0 F (fun k p hk hdk=>by
       rw[Nat.zero_add,hL']
       split
       ·rename_i hkj
        subst hkj
        rw[hq] at hk
        injection hk with hk
        subst hk
        exact absurd hdk hd'
       ·exact hno k p hk hdk)]
   ·rw[QfK _ _ _ (by simpa using htl),QfK _ _ _ (by simpa using htl)]
 have hHsame:q.eff=false→Qck L' 0 rs H=Qck L 0 rs H:=by
  intro he
  refine Qm3 rs 0 H fun k p hk hpe=>?_
  rw[Nat.zero_add,hL']
  split
  ·rename_i hkj
   subst hkj
   rw[hq] at hk
   injection hk with hk
   subst hk
   rw[he] at hpe
   cases hpe
  ·rfl
 have hn':∀ x,(setD (Qb7 L 0 rs F) q.o.dst x).n=(Qb7 L' 0 rs F).n:=fun x=>by rw [QB9,Qrm,Qrm]
 have hfree0:∀ (k:Nat) (x:Rec) (p:Nat × AObj),rs[k]?=some x→x.eff=true→QaD x=some p →
   H[p.1]?=some .slot∧∀ (k':Nat) (x':Rec) (p':Nat × AObj),rs[k']?=some x'→x'.eff=true→k' < k→QaD x'=some p'→p'.1≠p.1:=by
  intro k x p hk hx hp
  obtain⟨_,_,hGk,h0k,h1k⟩:=hD.at_ k x hk
  have hxr:x.run=true:=by
   cases hh:x.run with
   | true=>rfl
   | false=>have:=(h0k hh).2.2;rw [hx] at this;cases this
  have hsl:=(QfE ((h1k hxr).2.1 hx) hp).2.1
  have hg:Qck (fun n=>decide (n<k)) 0 rs H=Qdp (fun n=>decide (n<k)) 0 rs H:=by
   rcases QfF (L:=fun n=>decide (n<k)) rs 0 H hD.first with ⟨g1,g2⟩ | ⟨k2,y,g1,g2,g3,g4,g5⟩
   ·exact g1
   ·have:=hD.first k2 k y x g1 g2 hk hx (Q39 hp)
    simp at g3
    omega
  rw[hGk,hg] at hsl
  obtain⟨f1,f2⟩:=Q5L rs 0 H (fun k r p _ hp=>Q5Z hp) hsl
  exact⟨f1,fun k' x' p' hk' hx' hlt' hp'=>f2 k' x' p' hk' hx' (by simp;omega) hp'⟩
 unfold QyZ
 rw[hwant]
 cases hrun:q.run with
 | false =>
  obtain⟨e1,e2,e3⟩:=h0 hrun
  rw[e1]
  simp only
  rw[hHsame e3]
  exact⟨_,rfl,hn' _,by rw [← e2];exact hF'⟩
 | true =>
  obtain⟨e1,e2,e3⟩:=h1 hrun
  rw[e1]
  simp only
  cases heff:q.eff with
  | false =>
   cases hfree:q.free with
   | true =>
    rw[Qg9 hev,e3 hfree]
    simp only[Option.map_some]
    rw[hHsame heff]
    exact⟨_,rfl,hn' _,hF'⟩
   | false =>
   obtain⟨s1,s2⟩:=hD.same j q hq heff hrun hfree
   have hp:Qa0 P (Qa2 q.F) (Qck L 0 rs H) q.o=some q.val:=by
    rcases QfF (L:=L) rs 0 H hD.first with ⟨g1,g2⟩ | ⟨k,p,g1,g2,g3,g4,g5⟩
    ·rw[g1]
     have s1':sameAt P q H=true:=by
      refine s1.resolve_left ?_
      rintro⟨i,q',i1,i2,i3⟩
      have:=g2 i q' i1 i2
      rw[Nat.zero_add,hrdy i i3] at this
      cases this
     refine QyR (fun s o hs hne=>?_) (QkR s1')
     rw[Qs9 rs 0 H (fun k r p hk he _ hp hps=>?_)]
     ·exact hs
     ·have:=(hfree0 k r p hk he hp).1
      rw[hps,hs] at this
      injection this with this
      exact hne this
    ·rw[g4]
     rw[Nat.zero_add] at g3
     rcases s2 k p g1 g2 with hb | ⟨i,q2,i1,i2,i3,i4⟩ | hs
     ·have:=hC k (hlt k p g1) g3 j hb
      rw[hun] at this
      cases this
     ·have:=g5 i q2 i1 i2 i3
      rw[Nat.zero_add,hrdy i i4] at this
      cases this
     ·exact QkR hs
   rw[← Qjw hev] at hp
   rw[Q5n hp]
   simp only[Option.map_some]
   rw[hHsame heff]
   exact⟨_,rfl,hn' _,hF'⟩
  | true =>
   have hex:=e2 heff
   cases hfl:q.full with
   | true =>
    have hHj:Qck L 0 rs H=q.G:=by
     rw[hG]
     refine Qm3 rs 0 H fun k p hk hpe=>?_
     rw[Nat.zero_add]
     by_cases hkj:k<j
     ·rw[hrdy k (hD.effs j k q p hq hfl hk hpe hkj)]
      simp[hkj]
     ·have:L k=false:=by
       by_cases hkj':k=j
       ·rw[hkj'];exact hun
       ·cases hLk:L k with
        | false=>rfl
        | true =>
         cases hpf:p.full with
         | false =>
          have:=hD.first j k q p hq hfl hk hpe hpf
          omega
         | true =>
          have hb:=hD.effs k j p q hk hpf hq heff (by omega)
          have:=hC k (hlt k p hk) hLk j hb
          rw[hun] at this
          cases this
      rw[this]
      simp[hkj]
    rw[Qg9 hev,hHj,hex]
    simp only[Option.map_some]
    refine⟨_, ?_,hn' _,hF'⟩
    congr 2
    rcases QfF (L:=L') rs 0 H hD.first with ⟨g1,g2⟩ | ⟨k,p,g1,g2,g3,g4,g5⟩
    ·have:=g2 j q hq hfl
     rw[Nat.zero_add,hL'] at this
     simp at this
    ·rw[g4]
     rw[Nat.zero_add] at g3
     have hkj:k=j:=by
      rcases Nat.lt_trichotomy k j with h | h | h
      ·have:=g5 j q hq hfl h
       rw[Nat.zero_add,hL'] at this
       simp at this
      ·exact h
      ·rw[hL',if_neg (by omega)] at g3
       have hb:=hD.effs k j p q g1 g2 hq heff h
       have:=hC k (hlt k p g1) g3 j hb
       rw[hun] at this
       cases this
     subst hkj
     rw[hq] at g1
     injection g1 with g1
     rw[g1]
   | false =>
    obtain⟨p,hp⟩:∃ p,QaD q=some p:=(Q6q heff).resolve_left (by rw [hfl];simp)
    have hnone:∀ (k:Nat) (x:Rec),rs[k]?=some x→x.full=true→L k=false:=by
     intro k x hk hx
     cases hLk:L k with
     | false=>rfl
     | true =>
      have hjk:=hD.first k j x q hk hx hq heff hfl
      have hb:=hD.effs k j x q hk hx hq heff hjk
      have:=hC k (hlt k x hk) hLk j hb
      rw[hun] at this
      cases this
    have hnone':∀ (k:Nat) (x:Rec),rs[k]?=some x→x.full=true→L' k=false:=by
     intro k x hk hx
     rw[hL']
     split
     ·rename_i hkj
      subst hkj
      rw[hq] at hk
      injection hk with hk
      rw[← hk,hfl] at hx
      cases hx
     ·exact hnone k x hk hx
    have hf1:∀ (M:Nat→Bool),(∀ (k:Nat) (x:Rec),rs[k]?=some x→x.full=true→M k=false)→Qck M 0 rs H=Qdp M 0 rs H:=by
     intro M hM
     rcases QfF (L:=M) rs 0 H hD.first with ⟨g1,g2⟩ | ⟨k,x,g1,g2,g3,g4,g5⟩
     ·exact g1
     ·have:=hM k x g1 g2
      rw[Nat.zero_add,this] at g3
      cases g3
    have hdist:∀ (k:Nat) (x:Rec) (p':Nat × AObj),rs[k]?=some x→x.eff=true→L (0+k)=true→QaD x=some p'→p'.1≠p.1:=by
     intro k x p' hk hx hLk hp'
     have hkj:k≠j:=by
      intro h
      rw[h,Nat.zero_add,hun] at hLk
      cases hLk
     rcases Nat.lt_or_ge k j with h | h
     ·exact(hfree0 j q p hq heff hp).2 k x p' hk hx h hp'
     ·exact Ne.symm ((hfree0 k x p' hk hx hp').2 j q p hq heff (by omega) hp)
    have hK:(Qck L 0 rs H)[p.1]?=some .slot:=by
     rw[hf1 L hnone,Qs9 rs 0 H hdist]
     exact(hfree0 j q p hq heff hp).1
    rw[Qg9 hev,(QfE hex hp).2.2 _ hK]
    simp only[Option.map_some]
    refine⟨_, ?_,hn' _,hF'⟩
    rw[hf1 L hnone,hf1 L' hnone',Q5b heff hp rs 0 j H hq (by omega) hun hL' hdist]
end
end Go.Ab
