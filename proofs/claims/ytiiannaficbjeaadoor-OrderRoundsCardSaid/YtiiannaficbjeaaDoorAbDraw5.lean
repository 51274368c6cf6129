/- A part of the proof: an interpreter on abstract values, proved right for every program; no condition. -/
import Derived.Test.YtiiannaficbjeaaDoorAbDraw4
namespace Go.Ab
set_option linter.unusedVariables false
set_option linter.unusedSimpArgs false
set_option linter.unusedSectionVars false
open Go.RowKit
section
variable {P:Program} {rd:Option Nat} {n:Nat}
def left (size:Nat) (listed:Array Bool):List Nat:=(List.range size).filter fun i=>!listed.getD i true
theorem Qxn {listed:Array Bool} {i:Nat} (h:i<listed.size) (b c:Bool):listed.getD i b=listed.getD i c:=by
 rw[Array.getD_eq_getD_getElem?,Array.getD_eq_getD_getElem?,Array.getElem?_eq_getElem h]
 rfl
theorem QmI [Globals] {cx:Cx} (hc:Qbw P cx.call) (hrn:Qcy P cx.round) {r:Nat} {ops:Array Oper} {F:Fr} {H:Heap} {ms:List Nat} {rs:List Rec} (hD:Drawn P cx r ops F H ms rs)
  {S:Nat→Prop} {σ:List Nat} {w:World} {ds:List Deferred} {Q:Exit→Act→World→Prop} (hQ:∀ a' w',Next S σ H w ds (QkY rs F) (QhE rs H) a' w'→Q .normal a' w') :
  ∀ (fuel:Nat) (listed:Array Bool) (a:Act) (w1:World),listed.size=ops.size→(left ops.size listed).length≤fuel→Closed ms ops.size (fun i=>listed.getD i true) →
   Next S σ H w ds (Qb7 (fun i=>listed.getD i true) 0 rs F) (Qck (fun i=>listed.getD i true) 0 rs H) a w1→wpAnyIn (Fw rd) n P .any ops Q fuel listed a w1:=by
 intro fuel
 have hdone:∀ (listed:Array Bool) (a:Act) (w1:World),listed.size=ops.size→Region.ready .any ops listed=[] →
   Next S σ H w ds (Qb7 (fun i=>listed.getD i true) 0 rs F) (Qck (fun i=>listed.getD i true) 0 rs H) a w1→Q .normal a w1:=by
  intro listed a w1 hsz hr hN
  have hall:∀ i,i<ops.size→listed.getD i true=true:=by
   intro i
   induction i using Nat.strongRecOn with
   | ind i ih =>
    intro hi
    cases hL:listed.getD i true with
    | true=>rfl
    | false =>
     have ho:ops[i]?=some ops[i]:=Array.getElem?_eq_getElem hi
     have:i ∈ Region.ready .any ops listed:=mem_ready.2 ⟨hL,_,ho,fun e he hb=>by
      have hlt:=(hD.mask i _ ho).2 e (by simpa using he) hb
      rw[Qxn (c:=true) (by omega)]
      exact ih e.on hlt (by omega)⟩
     rw[hr] at this
     cases this
  have h1:∀ k,k<rs.length→(fun i=>listed.getD i true) (0+k)=true:=fun k hk=>by
   rw[Nat.zero_add]
   exact hall k (by rw [← hD.len];exact hk)
  rw[Qzi rs 0 F h1,Q4O rs 0 H h1 (fun k q hk=>by rw [(hD.at_ k q hk).2.2.1];simp) (fun k q p hk he hp=>by
   obtain⟨_,_,_,h0,h2⟩:=hD.at_ k q hk
   have hxr:q.run=true:=by
    cases hh:q.run with
    | true=>rfl
    | false=>have:=(h0 hh).2.2;rw [he] at this;cases this
   exact(QfE ((h2 hxr).2.1 he) hp).1)] at hN
  exact hQ a w1 hN
 induction fuel with
 | zero =>
  intro listed a w1 hsz hl hC hN
  have hr:Region.ready .any ops listed=[]:=by
   cases hr:Region.ready .any ops listed with
   | nil=>rfl
   | cons x xs =>
    have hx:x ∈ Region.ready .any ops listed:=by rw [hr];simp
    obtain⟨h1,o,h2,_⟩:=mem_ready.1 hx
    have:x ∈ left ops.size listed:=List.mem_filter.2 ⟨List.mem_range.2 (Array.getElem?_eq_some_iff.1 h2).1,by rw [h1];rfl⟩
    have:=List.length_pos_of_mem this
    omega
  exact⟨hr,hdone listed a w1 hsz hr hN⟩
 | succ fuel ih =>
  intro listed a w1 hsz hl hC hN
  refine⟨fun hr=>hdone listed a w1 hsz hr hN,fun j hj=>?_⟩
  obtain⟨hun,o,ho,hall⟩:=mem_ready.1 hj
  have hjlt:j<ops.size:=(Array.getElem?_eq_some_iff.1 ho).1
  have hL':∀ i,(listed.setIfInBounds j true).getD i true=if i=j then true else listed.getD i true:=by
   intro i
   rw[Array.getD_eq_getD_getElem?,Array.getElem?_setIfInBounds]
   split
   ·rename_i e
    subst e
    rw[if_pos (by omega)]
    simp
   ·rename_i e
    rw[if_neg (fun h=>e h.symm),Array.getD_eq_getD_getElem?]
  have hrdy:∀ i,(ms.getD j 0).testBit i=true→listed.getD i true=true:=by
   intro i hb
   rw[(hD.mask j o ho).1] at hb
   obtain⟨e,he,hbd,h⟩:=QdT _ hb
   have h1:=hall e (by simpa using he) hbd
   have hlt:=(hD.mask j o ho).2 e he hbd
   rw[Qxn (c:=true) (by omega)] at h1
   rcases h with h | h
   ·rw[← h];exact h1
   ·exact hC e.on (by omega) h1 i h
  obtain⟨F1,hs,hF1n,hF1g⟩:=hD.step (L:=fun i=>listed.getD i true) (L':=fun i=>(listed.setIfInBounds j true).getD i true) ho hC hun hrdy hL'
  obtain⟨S',σ',hI',hT',hF',hds⟩:=hN
  unfold wpOpIn
  rw[ho]
  simp only
  refine Qyx (rd:=rd) (n:=n) hc hrn hs hI' hF' _ Q fun a' w' hn=>?_
  have hn:Next S' σ' (Qck (fun i=>listed.getD i true) 0 rs H) w1 a.defers (Qb7 (fun i=>(listed.setIfInBounds j true).getD i true) 0 rs F) (Qck (fun i=>(listed.setIfInBounds j true).getD i true) 0 rs H) a' w':=by
   obtain⟨S2,σ2,g1,g2,g3,g4⟩:=hn
   exact⟨S2,σ2,g1,g2,⟨by rw [← hF1n];exact g3.1,fun i=>by rw [← hF1g];exact g3.2 i⟩,g4⟩
  refine ih _ a' w' (by simpa using hsz) ?_ ?_ ?_
  ·have e:left ops.size (listed.setIfInBounds j true)=(left ops.size listed).filter (fun i=>i≠j):=by
    unfold left
    rw[List.filter_filter]
    refine List.filter_congr fun i _=>?_
    rw[hL']
    by_cases h:i=j<;>simp [h]
   have hmem:j ∈ left ops.size listed:=List.mem_filter.2 ⟨List.mem_range.2 hjlt,by rw [hun];rfl⟩
   have:((left ops.size listed).filter (fun i=>i≠j)).length<(left ops.size listed).length :=
    List.length_filter_lt_length_iff_exists.2 ⟨j,hmem,by simp⟩
   rw[e]
   omega
  ·intro k hk hLk i hb
   simp only[hL'] at hLk ⊢
   split
   ·rfl
   ·split at hLk
    ·rename_i hkj
     subst hkj
     exact hrdy i hb
    ·exact hC k hk hLk i hb
  ·exact hn.comp hT' hds
theorem Q6a [Globals] {cx:Cx} (hc:Qbw P cx.call) (hrn:Qcy P cx.round) (hm:P.follows .mixedOrders=true) {r:Nat} {ops:Array Oper} {F F':Fr} {H H':Heap}
  (h:Qhq P cx r ops F H=some (F',H')) {S:Nat→Prop} {σ:List Nat} {w:World} {a:Act} (hI:Inv S σ H w) (hF:FRel S σ H w F a.tmps) {Q:Exit→Act→World→Prop}
  (hQ:∀ a' w',Next S σ H w a.defers F' H' a' w'→Q .normal a' w'):(Code.region r ops true).wpIn (Fw rd) n P Q a w:=by
 obtain⟨ms,rs,hD,rfl,rfl⟩:=QqM h
 refine wpIn_region_any hm ?_
 have hI':=hI.drew
 have hT':=Tr.drew S σ H w
 refine QmI hc hrn hD hQ ops.size _ a _ (by simp) ?_ ?_ ?_
 ·unfold left
  exact Nat.le_trans (List.length_filter_le _ _) (by simp)
 ·intro j hj hL
  simp[Array.getD_eq_getD_getElem?,hj] at hL
 ·have h1:∀ i,i<ops.size→(Array.replicate ops.size false).getD i true=false:=fun i hi=>by simp [Array.getD_eq_getD_getElem?,hi]
  have e1:FRel S σ H { w with drawn:=w.drawn+1 } (Qb7 (fun i=>(Array.replicate ops.size false).getD i true) 0 rs F) a.tmps:=by
   have hF':=hF.tr hI hT'
   refine⟨by rw [Qrm];exact hF'.1,fun t=>?_⟩
   rw[QcC rs 0 F fun k q hk _=>by
    rw[Nat.zero_add]
    exact h1 k (by rw [← hD.len];exact (List.getElem?_eq_some_iff.1 hk).1)]
   exact hF'.2 t
  have e2:Qck (fun i=>(Array.replicate ops.size false).getD i true) 0 rs H=H:=by
   have hno:∀ (rs':List Rec) (i:Nat) (K:Heap),i+rs'.length≤ops.size→Qck (fun i=>(Array.replicate ops.size false).getD i true) i rs' K=K:=by
    intro rs'
    induction rs' with
    | nil=>intro i K _;rfl
    | cons r rs' ih =>
     intro i K hi
     simp only[List.length_cons] at hi
     rw[Qck,ih (i+1) _ (by omega),h1 i (by omega)]
     simp
   exact hno rs 0 H (by rw [hD.len];omega)
  rw[e2]
  exact⟨S,σ,hI',hT',e1,QbO.refl _ _ _ _ _ _⟩
end
end Go.Ab
