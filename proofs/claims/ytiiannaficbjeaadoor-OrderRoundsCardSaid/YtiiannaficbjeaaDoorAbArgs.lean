/- A part of the proof: an interpreter on abstract values, proved right for every program; no condition. -/
import Derived.Test.YtiiannaficbjeaaDoorAbTop
import Derived.ChangeArms
import Derived.ChangeShapes
import Derived.ChangeSlices
import Derived.DataReads
namespace Go.Ab
set_option linter.unusedVariables false
set_option linter.unusedSimpArgs false
set_option linter.unusedSectionVars false
section
variable {H:Type} {enc:TypeId × Value→H} {P:Program} {W:World} {spare:Nat→Bool} {held:Bool}
abbrev Old (W:World):Nat→Prop:=fun b=>b<W.heap.size
def Rel (W:World) (ivs:List IV) (cs:List Value):Prop:=ivs.length=cs.length∧∀ (i:Nat) (x:IV),ivs[i]?=some x→IRel (Old W) W x (cs.getD i undef)
theorem Rel.nil:Rel W [] []:=⟨rfl,fun i x h=>by simp at h⟩
theorem Rel.cons {x:IV} {v:Value} {ivs:List IV} {cs:List Value} (h:IRel (Old W) W x v) (hs:Rel W ivs cs):Rel W (x::ivs) (v::cs):=by
 refine⟨by simp [hs.1],fun i y hi=>?_⟩
 cases i with
 | zero=>simp at hi;subst hi;exact h
 | succ i=>exact hs.2 i y (by simpa using hi)
theorem Rel.append {a b:List IV} {cs ds:List Value} (h:Rel W a cs) (hs:Rel W b ds):Rel W (a++b) (cs++ds):=by
 refine⟨by simp [h.1,hs.1],fun i y hi=>?_⟩
 rcases Nat.lt_or_ge i a.length with hl | hl
 ·rw[List.getElem?_append_left hl] at hi
  have:=h.2 i y hi
  rwa [List.getD_eq_getElem?_getD,List.getElem?_append_left (by rw [← h.1];exact hl),← List.getD_eq_getElem?_getD]
 ·rw[List.getElem?_append_right hl] at hi
  have:=hs.2 _ y hi
  rwa [List.getD_eq_getElem?_getD,List.getElem?_append_right (by rw [← h.1];exact hl),← h.1,← List.getD_eq_getElem?_getD]
theorem QDz {a:Addr} {v:Value} (h:W.cell? a=some v):a.block<W.heap.size:=by
 rcases Nat.lt_or_ge a.block W.heap.size with hlt | hge
 ·exact hlt
 ·unfold World.cell? at h
  rw[Array.getElem?_eq_none hge] at h
  simp at h
theorem Q6n {sz:Nat} (hsz:0<sz):∀ (chunks:List (List IV)) (j:Nat),(∀ c ∈ chunks,c.length=sz)→j<chunks.flatten.length→chunks.flatten[j]?=(chunks[j / sz]?).bind fun c=>c[j % sz]?
 | [],j,_,h=>by simp at h
 | c::cs,j,hc,h=>by
  have hl:=hc c (by simp)
  rw[List.flatten_cons]
  rcases Nat.lt_or_ge j sz with hj | hj
  ·rw[List.getElem?_append_left (by omega),Nat.div_eq_of_lt hj,Nat.mod_eq_of_lt hj]
   rfl
  ·rw[List.getElem?_append_right (by omega),hl,Q6n hsz cs (j-sz) (fun c hc'=>hc c (by simp [hc'])) (by simp [hl] at h ⊢;omega)]
   have e1:j / sz=(j-sz) / sz+1:=by
    rw[Nat.div_eq_sub_div hsz hj]
   have e2:j % sz=(j-sz) % sz:=Nat.mod_eq_sub_mod hj
   rw[e1,e2]
   rfl
theorem QnE {sz:Nat}:∀ (chunks:List (List IV)),(∀ c ∈ chunks,c.length=sz)→chunks.flatten.length=chunks.length * sz
 | [],_=>by simp
 | c::cs,h=>by
  rw[List.flatten_cons,List.length_append,h c (by simp),QnE cs fun c hc=>h c (by simp [hc]),List.length_cons,Nat.succ_mul]
  omega
theorem QB6 (a:Addr) (i j:Nat):(a.add i).add j=a.add (i+j):=by
 unfold Addr.add
 by_cases hi:i=0<;>by_cases hj:j=0<;>simp [hi,hj,Nat.add_assoc]
theorem open_slice {t e:TypeId} {sz fuel:Nat} {cs:List Value} {x:DataW H × List MemPlace} (Good:List IV→Prop) (ht:P.underlying t=some (.slice e)) (hc:P.cellsOf e=sz) (hsz:0<sz)
  (he:∀ (n:Nat) (cs':List Value) (y:DataW H × List MemPlace),DataW.trod enc P W 0 spare held n e cs'=some y→∃ ivs,Good ivs∧ivs.length=sz∧Rel W ivs cs')
  (h:DataW.trod enc P W 0 spare held fuel t cs=some x) :
  ∃ (v:Value) (chunks:List (List IV)) (nl:Bool),cs=[v]∧v.oneCell'=true∧(∀ c ∈ chunks,Good c∧c.length=sz)∧chunks.length≤maxLen∧(nl=true→chunks=[])∧IRel (Old W) W (.slice chunks.flatten chunks.length nl none) v:=by
 rcases DataW.trod_slice ht h with ⟨rfl,_⟩ | ⟨a,len,cap,elems,rest,n,_,rfl,_,_,hlc,hcm,hel,hget,_,_⟩
 ·refine⟨_,[],true,rfl,rfl,fun c hc=>by simp at hc,Nat.zero_le _,fun _=>rfl, ?_⟩
  exact .slice (fun _=>undef) rfl (fun _=>rfl) (fun k hk=>by cases hk) (Nat.le_refl _) (Nat.zero_le _) (fun j hj=>by simp at hj) (fun j x hj=>by simp at hj)
 ·have hch:∀ i,i<len→∃ ivs,Good ivs∧ivs.length=sz∧∀ q y,ivs[q]?=some y→∃ v,W.cell? (a.add (i * sz+q))=some v∧IRel (Old W) W y v:=by
   intro i hi
   have h1:=hget i hi
   rw[List.getElem?_eq_getElem (show i<elems.length by omega),hc] at h1
   obtain⟨vals,hv,ht'⟩:=Option.bind_eq_some_iff.1 h1
   obtain⟨ivs,hg,hl,hr⟩:=he _ _ _ ht'
   obtain⟨_,hcl,hcg⟩:=World.cells?_some hv
   refine⟨ivs,hg,hl,fun q y hq=>?_⟩
   have hql:q<sz:=by rw [← hl];exact (List.getElem?_eq_some_iff.1 hq).1
   refine⟨vals.getD q undef, ?_,hr.2 q y hq⟩
   rw[← QB6]
   have hqv:q<vals.length:=by rw [← hr.1,hl];exact hql
   rw[List.getD_eq_getElem?_getD,List.getElem?_eq_getElem hqv]
   have:=hcg q (by omega)
   simpa [hqv] using this
  obtain⟨f,hf⟩:∃ f:Nat→List IV,∀ i,i<len→Good (f i)∧(f i).length=sz∧∀ q y,(f i)[q]?=some y→∃ v,W.cell? (a.add (i * sz+q))=some v∧IRel (Old W) W y v:=by
   refine⟨fun i=>if hi:i<len then (hch i hi).choose else [],fun i hi=>?_⟩
   simp only[hi,dite_true]
   exact(hch i hi).choose_spec
  have hall:∀ c ∈ (List.range len).map f,c.length=sz:=by
   intro c hc
   obtain⟨i,hi,rfl⟩:=List.mem_map.1 hc
   exact(hf i (List.mem_range.1 hi)).2.1
  have hfl:=QnE _ hall
  have hat:∀ j y,((List.range len).map f).flatten[j]?=some y→∃ v,W.cell? (a.add j)=some v∧IRel (Old W) W y v:=by
   intro j y hj
   have hjl:=(List.getElem?_eq_some_iff.1 hj).1
   rw[Q6n hsz _ _ hall hjl] at hj
   obtain⟨c,h1,h2⟩:=Option.bind_eq_some_iff.1 hj
   rw[hfl] at hjl
   simp only[List.length_map,List.length_range] at hjl
   have hjd:j / sz<len:=(Nat.div_lt_iff_lt_mul hsz).2 hjl
   rw[List.getElem?_map,List.getElem?_range hjd] at h1
   simp only[Option.map_some,Option.some.injEq] at h1
   subst h1
   obtain⟨v,hv,hr⟩:=(hf _ hjd).2.2 _ _ h2
   rw[Nat.mul_comm,Nat.div_add_mod] at hv
   exact⟨v,hv,hr⟩
  refine⟨_,(List.range len).map f,false,rfl,rfl,fun c hc=>?_,by simp;omega,fun h=>(by cases h), ?_⟩
  ·obtain⟨i,hi,rfl⟩:=List.mem_map.1 hc
   exact⟨(hf i (List.mem_range.1 hi)).1,(hf i (List.mem_range.1 hi)).2.1⟩
  ·have hlen:((List.range len).map f).length=len:=by simp
   rw[hlen]
   refine .slice (fun j=>(W.cell? (a.add j)).getD undef) rfl (fun h=>by cases h) (fun k hk=>by cases hk) hlc hcm (fun j hj=>?_) (fun j y hj=>?_)
   ·obtain⟨v,hv,_⟩:=hat j _ (List.getElem?_eq_getElem hj)
    refine⟨a,rfl, ?_,by rw [hv];rfl⟩
    have:=QDz hv
    rwa [QxU] at this
   ·obtain⟨v,hv,hr⟩:=hat j y hj
    rw[hv]
    exact hr
theorem Qdz {t:TypeId} {k:IntKind} {fuel:Nat} {cs:List Value} {x:DataW H × List MemPlace} (ht:P.underlying t=some (.int k)) (h:DataW.trod enc P W 0 spare held fuel t cs=some x) :
  ∃ n,cs=[.int k n]∧(Lit.int k n).wf=true:=by
 obtain⟨n,h1,_,h2⟩:=DataW.trod_int ht h
 exact⟨n,h1,h2⟩
theorem VRel.of_rel [Globals] {xs:List IV} {vs:Array Value} (h:Rel W xs vs.toList):VRel (Old W) [] [] W (.agg (xs.map .c)) (.agg vs):=by
 refine .agg (by have:=h.1;simp at this;simp [this]) (fun x hx=>by obtain ⟨y,_,rfl⟩:=List.mem_map.1 hx;rfl) (fun i x hi=>?_)
 rw[List.getElem?_map] at hi
 obtain⟨y,hy,rfl⟩:=Option.map_eq_some_iff.1 hi
 have:=h.2 i y hy
 have hi2:i<vs.size:=by
  have:=(List.getElem?_eq_some_iff.1 hy).1
  rw[h.1] at this
  simpa using this
 refine .c ?_
 rw[List.getD_eq_getElem?_getD,Array.getElem?_toList,Array.getElem?_eq_getElem hi2] at this
 simpa [Array.getD,hi2] using this
end
end Go.Ab
