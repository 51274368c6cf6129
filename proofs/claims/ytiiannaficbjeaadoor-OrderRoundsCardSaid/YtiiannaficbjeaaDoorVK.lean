/- A part of the proof: what functions of the program answer; conditions stand in each theorem. -/
import Derived.Test.YtiiannaficbjeaaDoorVJ
import Derived.Test.YtiiannaficbjeaaDoorVA
import Derived.Test.YtiiannaficbjeaaDoorVC
import Derived.Test.YtiiannaficbjeaaDoorVB
set_option linter.unusedVariables false
set_option linter.unusedSimpArgs false
set_option linter.unusedSectionVars false
namespace Go.Proofs.Sw
open Go.Ab Go.Proofs.YtiiannaficbjeaaDoor.tab
abbrev oI (i:Ins):AObj:=.cells 61 [ii i.op,ii i.to,ii i.a,ii i.b,ii i.c]
def fdV (s:Option (List IV)) (st:List Ins):AV:=match s with
 | none=>.c (.slice [] 0 true (some 0))
 | some J=>.hsl 0 0 st.length (Qak st.reverse++J).length 5
def fdO (s:Option (List IV)) (st:List Ins):AObj:=match s with
 | none=>.slot
 | some J=>.row false 61 (Qak st.reverse++J)
def FdOk (s:Option (List IV)) (st:List Ins):Prop:=match s with
 | none=>st=[]
 | some J=>∃ j,J.length=j * 5
theorem Qlv {s:Option (List IV)} {st:List Ins} {n:Nat}:(fdO s st).under n=true:=by cases s<;>rfl
theorem Qm6 {s:Option (List IV)} {st:List Ins} {n:Nat} (h:0<n):AV.under n (fdV s st)=true:=by
 cases s
 ·rfl
 ·show decide (0<n)=true
  exact decide_eq_true h
theorem Qzs (st:List Ins) (x:Ins) (J:List IV):Qbb (Qak (x::st).reverse++J) (st.length * 5) 5=some (enc1 x):=by
 have h:=Qau st.reverse
 rw[List.length_reverse] at h
 rw[Qeb,List.reverse_cons,Qbv,List.append_assoc,← h,List.drop_left,if_pos (by simp [Qak,enc1])]
 simp[Qak,enc1]
theorem QDp {s:Option (List IV)} {st:List Ins} {x:Ins} (hs:FdOk s st) (hlen:st.length<1000000) (X:Heap):∃ s',FdOk s' (x::st)∧apO 61 5 40 (some 0) (fdV s st) (fdO s st::X) (some (enc1 x,1))=some (fdV s' (x::st),fdO s' (x::st)::X):=by
 have he:Qak (x::st).reverse=Qak st.reverse++enc1 x:=by
  rw[List.reverse_cons,Qbv];simp [Qak]
 have hl:(Qak st.reverse).length=st.length * 5:=by rw [Qau,List.length_reverse]
 have hb:(st.length+1) * 40≤roomBytes:=by unfold roomBytes;omega
 cases s with
 | none =>
  have h0:st=[]:=hs
  subst h0
  refine⟨some [],⟨0,rfl⟩, ?_⟩
  simp only[fdV,fdO,apO,Option.bind_some,QbV]
  rw[if_neg (by omega),if_pos ⟨by omega,by decide,by simp⟩]
  simp[Qak,enc1,QbV,fdO,fdV]
 | some J =>
  obtain⟨j,hj⟩:∃ j,J.length=j * 5:=hs
  have hcl:(Qak st.reverse++J).length=st.length * 5+j * 5:=by rw [List.length_append,hl,hj]
  have h1:rowOf (fdO (some J) st::X) 0 (Qak st.reverse++J).length=some (61,Qak st.reverse++J):=Qrf (fz:=false) rfl rfl
  have h2:Qcd (fdO (some J) st::X) 0=true:=rfl
  have htake:(Qak st.reverse++J).take (st.length * 5)=Qak st.reverse:=by rw [← hl,List.take_left]
  by_cases hin:(st.length+1) * 5≤(Qak st.reverse++J).length
  ·refine⟨some (J.drop 5),⟨j-1,by rw [List.length_drop,hj];omega⟩, ?_⟩
   have hdrop:(Qak st.reverse++J).drop ((st.length+1) * 5)=J.drop 5:=by
    rw[show (st.length+1) * 5=(Qak st.reverse).length+5 by rw [hl];omega,List.drop_append,List.drop_eq_nil_of_le (by omega),List.nil_append,Nat.add_sub_cancel_left]
   have hel:(Qak st.reverse++enc1 x++J.drop 5).length=(Qak st.reverse++J).length:=by
    simp only[List.length_append,List.length_drop,hl,hj] at hin ⊢
    simp[enc1]
    omega
   show apO 61 5 40 (some 0) (.hsl 0 0 st.length (Qak st.reverse++J).length 5) _ _=_
   simp only[apO,Option.bind_some,h1]
   rw[if_neg (by omega),if_pos ⟨trivial,trivial,by omega,hb,trivial,h2⟩,if_pos hin,htake,hdrop]
   simp only[fdV,fdO,he,hel]
   rfl
  ·have hj0:j=0:=by rw [hcl] at hin;omega
   subst hj0
   have hjk:J=[]:=List.eq_nil_of_length_eq_zero (by omega)
   subst hjk
   refine⟨some [],⟨0,rfl⟩, ?_⟩
   show apO 61 5 40 (some 0) (.hsl 0 0 st.length (Qak st.reverse++[]).length 5) _ _=_
   simp only[apO,Option.bind_some,h1]
   rw[if_neg (by omega),if_pos ⟨trivial,trivial,by omega,hb,trivial,h2⟩,if_neg hin,htake]
   have hel:(Qak st.reverse++enc1 x++[]).length=(st.length+1) * 5:=by simp [hl,enc1];omega
   simp only[fdV,fdO,he,hel,List.append_nil] at hel ⊢
   rw[hel]
   rfl
end Go.Proofs.Sw
namespace Go.Proofs.Sw
open Go.Ab Go.Proofs.YtiiannaficbjeaaDoor.tab
theorem Q5y {y x:Ins} {regs:Int} (hy:mayM y regs=true) (hx:mayM x regs=true):Two y x:=by
 obtain⟨⟨y1,y2⟩,_,_,_⟩:=QaO hy
 obtain⟨⟨x1,x2⟩,_,_,_⟩:=QaO hx
 have cy:=((QcM _ _).1 hy).2.1
 have cx:=((QcM _ _).1 hx).2.1
 obtain⟨a1,a2,a3⟩:=(Qdg _).1 cy
 obtain⟨b1,b2,b3⟩:=(Qdg _).1 cx
 constructor<;>omega
theorem Q63 (kf:Nat) (hkf:15≤kf) (regs:Int) (o0 o1 c8:AObj) (h0:o0.under 5=true) (h1:o1.under 5=true) (h8:c8.under 5=true) (v22 v23 v24:AV) (u22:v22.under 5=true) (u23:v23.under 5=true) (u24:v24.under 5=true) :
  ∀ (st:List Ins) (x:Ins) (s:Option (List IV)) (k:Nat) (l:Ass) (G:Heap) (z:Option Out),Qar Tryd.prog tab kf none Q7Q 16 76 [1,2,6,9,22,23,24] 5 k l ([fdO s st,o0,o1,c8,oI x]++G)=z →
  st.length<k→st.length<1000000→FdOk s st→(∀ i ∈ st,mayM i regs=true)→mayM x regs=true →
  asc l 1=.ptr 1 0→asc l 2=.ptr 2 0→asc l 6=fdV s st→asc l 9=.ptr 4 0→asc l 22=v22→asc l 23=v23→asc l 24=v24 →
  ∃ (l':Ass) (st':List Ins) (y:Ins) (s':Option (List IV)) (G':Heap),((z=some (.exit 1 (fr 76 l') ([fdO s' st',o0,o1,c8,oI y]++G'))∧push st x=st')∨(z=some (.exit 2 (fr 76 l') ([fdO s' st',o0,o1,c8,oI y]++G'))∧push st x=y::st'))∧FdOk s' st'∧st'.length≤st.length∧(∀ i ∈ st',mayM i regs=true)∧mayM y regs=true ∧
   asc l' 1=.ptr 1 0∧asc l' 2=.ptr 2 0∧asc l' 6=fdV s' st'∧asc l' 9=.ptr 4 0∧asc l' 22=v22∧asc l' 23=v23∧asc l' 24=v24:=by
 obtain⟨kf,rfl⟩:∃ j,kf=j+15:=⟨kf-15,by omega⟩
 have key:∀ (st:List Ins) (x:Ins) (s:Option (List IV)) (l:Ass) (G:Heap),asc l 1=.ptr 1 0→asc l 2=.ptr 2 0→asc l 6=fdV s st→asc l 9=.ptr 4 0→asc l 22=v22→asc l 23=v23→asc l 24=v24 →
   trim 5 (fr 76 (keep l [1,2,6,9,22,23,24])) ([fdO s st,o0,o1,c8,oI x]++G)=[fdO s st,o0,o1,c8,oI x]:=by
  intro st x s l G a1 a2 a6 a9 a22 a23 a24
  exact Qa4 (by simp) (by simp only [a1,a2,a6,a9,a22,a23,a24,u22,u23,u24,Qm6 (show 0<5 by omega),EVb,EVc,seval]) (by simp only [h0,h1,h8,Qlv,EVb,EVc,seval])
 intro st
 induction st with
 | nil =>
  intro x s k l G z hz hk hk2 hs hst hx a1 a2 a6 a9 a22 a23 a24
  obtain⟨k,rfl⟩:∃ j,k=j+1:=⟨k-1,by simp at hk;omega⟩
  have ht:=key [] x s l G a1 a2 a6 a9 a22 a23 a24
  cases hn:nothing x with
  | true =>
   obtain⟨n1,n2⟩:=of_decide_eq_true hn
   simp only[Qaa,ht] at hz
   simp only[a1,a2,a6,a9,a22,a23,a24,n1,n2,Qaa,Qag,Qae,Qab,LP,Tryd.f16,FT,seval] at hz
   exact⟨_,[],x,s,[],.inl ⟨hz.symm,QbY hn⟩,hs,by simp,hst,hx,(by rfl),(by rfl),(by rfl),(by rfl),(by rfl),(by rfl),(by rfl)⟩
  | false =>
   have hn':¬ (x.op=1∧x.to=x.a):=of_decide_eq_false hn
   cases s with
   | none =>
    by_cases n1:x.op=1
    ·have n2:¬ x.to=x.a:=fun h=>hn' ⟨n1,h⟩
     simp only[Qaa,ht] at hz
     simp only[a1,a2,a6,a9,a22,a23,a24,n1,n2,fdV,Qaa,Qag,Qae,Qab,LP,Tryd.f16,FT,seval] at hz
     exact⟨_,[],x,none,[],.inr ⟨hz.symm,Qe7 hn⟩,hs,by simp,hst,hx,(by rfl),(by rfl),(by rfl),(by rfl),(by rfl),(by rfl),(by rfl)⟩
    ·simp only[Qaa,ht] at hz
     simp only[a1,a2,a6,a9,a22,a23,a24,n1,fdV,Qaa,Qag,Qae,Qab,LP,Tryd.f16,FT,seval] at hz
     exact⟨_,[],x,none,[],.inr ⟨hz.symm,Qe7 hn⟩,hs,by simp,hst,hx,(by rfl),(by rfl),(by rfl),(by rfl),(by rfl),(by rfl),(by rfl)⟩
   | some J =>
    by_cases n1:x.op=1
    ·have n2:¬ x.to=x.a:=fun h=>hn' ⟨n1,h⟩
     simp only[Qaa,ht] at hz
     simp only[a1,a2,a6,a9,a22,a23,a24,n1,n2,fdV,List.length_nil,Qaa,Qag,Qae,Qab,LP,Tryd.f16,FT,seval] at hz
     exact⟨_,[],x,some J,[],.inr ⟨hz.symm,Qe7 hn⟩,hs,by simp,hst,hx,(by rfl),(by rfl),(by rfl),(by rfl),(by rfl),(by rfl),(by rfl)⟩
    ·simp only[Qaa,ht] at hz
     simp only[a1,a2,a6,a9,a22,a23,a24,n1,fdV,List.length_nil,Qaa,Qag,Qae,Qab,LP,Tryd.f16,FT,seval] at hz
     exact⟨_,[],x,some J,[],.inr ⟨hz.symm,Qe7 hn⟩,hs,by simp,hst,hx,(by rfl),(by rfl),(by rfl),(by rfl),(by rfl),(by rfl),(by rfl)⟩
 | cons y st ih =>
  intro x s k l G z hz hk hk2 hs hst hx a1 a2 a6 a9 a22 a23 a24
  obtain⟨k,rfl⟩:∃ j,k=j+1:=⟨k-1,by simp at hk;omega⟩
  have ht:=key (y::st) x s l G a1 a2 a6 a9 a22 a23 a24
  cases s with
  | none=>cases hs
  | some J =>
   obtain⟨j,hj⟩:∃ j,J.length=j * 5:=hs
   cases hn:nothing x with
   | true =>
    obtain⟨n1,n2⟩:=of_decide_eq_true hn
    have hs:FdOk (some J) (y::st):=⟨j,hj⟩
    simp only[Qaa,ht] at hz
    simp only[a1,a2,a6,a9,a22,a23,a24,n1,n2,Qaa,Qag,Qae,Qab,LP,Tryd.f16,FT,seval] at hz
    exact⟨_,(y::st),x,some J,[],.inl ⟨hz.symm,QbY hn⟩,hs,by simp,hst,hx,(by rfl),(by rfl),(by rfl),(by rfl),(by rfl),(by rfl),(by rfl)⟩
   | false =>
    have hn':¬ (x.op=1∧x.to=x.a):=of_decide_eq_false hn
    obtain⟨N,hNl⟩:∃ N,N=(y::st).length:=⟨_,rfl⟩
    have hN1:N=st.length+1:=hNl
    obtain⟨CC,hCC⟩:∃ CC,CC=Qak (y::st).reverse++J:=⟨_,rfl⟩
    have hN0:¬ (N:Int)=0:=by omega
    have hy:=hst y (by simp)
    have hw:IntKind.wrap .i64 ((N:Int)-1)=(st.length:Int):=by rw [wrap64 (by omega) (by simp at hk2;omega)];omega
    have hc1:(0:Int)≤st.length:=by omega
    have hc2:(st.length:Int)<(N:Int):=by omega
    have htk:=Qzs st y J
    rw[← hCC,Qeb] at htk
    have hM:=QD5 (kf+8) y.op y.to y.a y.b y.c x.op x.to x.a x.b x.c (Q5y hy hx)
    have hfv:fdV (some J) (y::st)=.hsl 0 0 N CC.length 5:=by rw [hNl,hCC];rfl
    have hfo:fdO (some J) (y::st)=.row false 61 CC:=by rw [hCC];rfl
    cases hm:QfU y x with
    | none =>
     rw[show QfU ⟨y.op,y.to,y.a,y.b,y.c⟩ ⟨x.op,x.to,x.a,x.b,x.c⟩=none from hm] at hM
     simp only[duo,run,encI,aI,ii,bb,zIn] at hM
     have hs:FdOk (some J) (y::st):=⟨j,hj⟩
     by_cases n1:x.op=1
     ·have n2:¬ x.to=x.a:=fun h=>hn' ⟨n1,h⟩
      simp only[Qaa,ht] at hz
      simp only[a1,a2,a6,a9,a22,a23,a24,hfv,hfo,hN0,n1,n2,Qaa,Qag,Qae,Qab,LP,Tryd.f16,FT,seval] at hz
      rw[Qaf Tryd.f16 11 Qr7] at hz;rotate_left;rfl
      simp only[a1,a2,a6,a9,a22,a23,a24,hw,hc1,hc2,htk,hM,EVd,List.getElem?_nil,Nat.reducePow,Nat.reduceDiv,Nat.reduceMod,FT,seval] at hz
      exact⟨_,y::st,x,some J,_,.inr ⟨hz.symm.trans (by rw [hfo];rfl),Qfu hn hm⟩,hs,Nat.le_refl _,hst,hx,(by rfl),(by rfl),(by rw [hfv];rfl),(by rfl),(by rfl),(by rfl),(by rfl)⟩
     ·simp only[Qaa,ht] at hz
      simp only[a1,a2,a6,a9,a22,a23,a24,hfv,hfo,hN0,n1,Qaa,Qag,Qae,Qab,LP,Tryd.f16,FT,seval] at hz
      rw[Qaf Tryd.f16 11 Qr7] at hz;rotate_left;rfl
      simp only[a1,a2,a6,a9,a22,a23,a24,hw,hc1,hc2,htk,hM,EVd,List.getElem?_nil,Nat.reducePow,Nat.reduceDiv,Nat.reduceMod,FT,seval] at hz
      exact⟨_,y::st,x,some J,_,.inr ⟨hz.symm.trans (by rw [hfo];rfl),Qfu hn hm⟩,hs,Nat.le_refl _,hst,hx,(by rfl),(by rfl),(by rw [hfv];rfl),(by rfl),(by rfl),(by rfl),(by rfl)⟩
    | some w =>
     have hC2:Qak st.reverse++(enc1 y++J)=CC:=by rw [hCC,List.reverse_cons,Qbv,List.append_assoc];simp [Qak,enc1]
     have hfv':fdV (some (enc1 y++J)) st=.hsl 0 0 st.length CC.length 5:=by rw [← hC2];rfl
     have hfo':fdO (some (enc1 y++J)) st=.row false 61 CC:=by rw [← hC2];rfl
     have hsl:∀ X,QeM (.row false 61 CC::X) 5 (.hsl 0 0 N CC.length 5) none (some (.c (.int .i64 (st.length:Int))))=some (.hsl 0 0 st.length CC.length 5):=by
      intro X
      have h1:(rowOf (.row false 61 CC::X) 0 CC.length).isSome=true:=by
       rw[Qrf (fz:=false) rfl rfl];rfl
      have h2:0+st.length * 5≤CC.length:=by
       rw[← hC2,List.length_append,Qau];simp
      simp only[QeM,Qcp,hc1,if_true,Option.bind_some,Int.toNat_natCast]
      rw[if_pos ⟨Nat.zero_le _,h2,by omega,trivial,h1⟩]
      simp
     rw[show QfU ⟨y.op,y.to,y.a,y.b,y.c⟩ ⟨x.op,x.to,x.a,x.b,x.c⟩=some w from hm] at hM
     simp only[duo,run,encI,aI,ii,bb] at hM
     by_cases n1:x.op=1
     ·have n2:¬ x.to=x.a:=fun h=>hn' ⟨n1,h⟩
      simp only[Qaa,ht] at hz
      simp only[a1,a2,a6,a9,a22,a23,a24,hfv,hfo,hN0,n1,n2,Qaa,Qag,Qae,Qab,LP,Tryd.f16,FT,seval] at hz
      rw[Qaf Tryd.f16 11 Qr7] at hz;rotate_left;rfl
      simp only[a1,a2,a6,a9,a22,a23,a24,hw,hc1,hc2,htk,hM,hsl,EVd,List.getElem?_nil,Nat.reducePow,Nat.reduceDiv,Nat.reduceMod,FT,seval] at hz
      obtain⟨l',st',y',s',G',e0,e1,e2,e3⟩:=ih w (some (enc1 y++J)) k _ [oI w] z (by rw [← hz,hfo'];rfl) (by simp at hk;omega) (by simp at hk2;omega) ⟨j+1,by rw [List.length_append,hj];simp [enc1];omega⟩ (fun i hi=>hst i (by simp [hi])) (QjV hy hx hm) (by rfl) (by rfl) (by rw [hfv'];rfl) (by rfl) (by rfl) (by rfl) (by rfl)
      exact⟨l',st',y',s',G',by rw [QeQ hn hm];exact e0,e1,by simp only [List.length_cons];omega,e3⟩
     ·simp only[Qaa,ht] at hz
      simp only[a1,a2,a6,a9,a22,a23,a24,hfv,hfo,hN0,n1,Qaa,Qag,Qae,Qab,LP,Tryd.f16,FT,seval] at hz
      rw[Qaf Tryd.f16 11 Qr7] at hz;rotate_left;rfl
      simp only[a1,a2,a6,a9,a22,a23,a24,hw,hc1,hc2,htk,hM,hsl,EVd,List.getElem?_nil,Nat.reducePow,Nat.reduceDiv,Nat.reduceMod,FT,seval] at hz
      obtain⟨l',st',y',s',G',e0,e1,e2,e3⟩:=ih w (some (enc1 y++J)) k _ [oI w] z (by rw [← hz,hfo'];rfl) (by simp at hk;omega) (by simp at hk2;omega) ⟨j+1,by rw [List.length_append,hj];simp [enc1];omega⟩ (fun i hi=>hst i (by simp [hi])) (QjV hy hx hm) (by rfl) (by rfl) (by rw [hfv'];rfl) (by rfl) (by rfl) (by rfl) (by rfl)
      exact⟨l',st',y',s',G',by rw [QeQ hn hm];exact e0,e1,by simp only [List.length_cons];omega,e3⟩
end Go.Proofs.Sw
namespace Go.Proofs.Sw
open Go.Ab Go.Proofs.YtiiannaficbjeaaDoor.tab
def Qcn (code:List Ins) (i:Nat):List Ins:=(code.take i).foldl (fun st i=>push st (QcT i)) []
theorem Qyo {code:List Ins} {i:Nat} (h:i<code.length):Qcn code (i+1)=push (Qcn code i) (QcT code[i]):=by
 unfold Qcn
 rw[List.take_succ_eq_append_getElem h,List.foldl_append]
 rfl
theorem Q5w (code:List Ins) (i:Nat):(Qcn code i).length≤i:=by
 have:=QrS (code.take i) []
 simp only[List.length_nil,Nat.zero_add,List.length_take] at this
 unfold Qcn
 omega
theorem Q53 {code:List Ins} {regs:Int} (h:∀ i ∈ code,mayM i regs=true) (i:Nat):∀ j ∈ Qcn code i,mayM j regs=true :=
 QrM _ [] (fun j hj=>h j (List.mem_of_mem_take hj)) (fun j hj=>(nomatch hj))
theorem c_le {i:Ins} {regs:Int} (h:mayM i regs=true):i.c≤512:=by
 obtain⟨⟨a1,a2⟩,_,_,_⟩:=QaO h
 obtain⟨b1,b2,b3⟩:=(Qdg _).1 ((QcM _ _).1 h).2.1
 omega
theorem Q9e (kf:Nat) (o0 o1:AObj) (h0:∀ n,o0.under n=true) (h1:∀ n,o1.under n=true) (code:List Ins) (nl:Bool) (cap:Option Nat) (n:Int) (hcm:∀ i ∈ code,mayM i n=true) (hl:code.length≤20000) (hkf:code.length+20<kf) (k:Nat) (l:Ass) (z:Option Out) (hz:Qar Tryd.prog tab (kf+16) none Q3Y 16 76 [1,2,6,22,23,24] 3 k l ([fdO none (Qcn code 0),o0,o1])=z) (hk:code.length<k) (a1:asc l 1=.ptr 1 0) (a2:asc l 2=.ptr 2 0) (a6:asc l 6=fdV none (Qcn code 0)) (a22:asc l 22=sC code nl cap) (a23:asc l 23=ii code.length) (a24:asc l 24=ii 0) :
  ∃ l' s,z=some (.exit 0 (fr 76 l') [fdO s (Qcn code code.length),o0,o1])∧asc l' 1=.ptr 1 0∧asc l' 2=.ptr 2 0∧asc l' 6=fdV s (Qcn code code.length)∧FdOk s (Qcn code code.length):=by
 subst hz
 refine Qa1 code.length (fun k l H=>Qar Tryd.prog tab (kf+16) none Q3Y 16 76 [1,2,6,22,23,24] 3 k l H)
  (fun i l H=>∃ (s:Option (List IV)),asc l 1=.ptr 1 0∧asc l 2=.ptr 2 0∧asc l 6=fdV s (Qcn code i)∧asc l 22=sC code nl cap∧asc l 23=ii code.length∧asc l 24=ii i∧(FdOk s (Qcn code i))∧∃ G,H=([fdO s (Qcn code i),o0,o1])++G)
  (fun z=>∃ l' s,z=some (.exit 0 (fr 76 l') [fdO s (Qcn code code.length),o0,o1])∧asc l' 1=.ptr 1 0∧asc l' 2=.ptr 2 0∧asc l' 6=fdV s (Qcn code code.length)∧FdOk s (Qcn code code.length)) ?_ code.length 0 k l _ (by omega) hk ⟨none,a1,a2,a6,a22,a23,a24,rfl,[],by rw [List.append_nil]⟩
 clear hk a1 a2 a6 a22 a23 a24
 rintro i k l H hi ⟨s,a1,a2,a6,a22,a23,a24,hp,G,rfl⟩
 have ht:trim 3 (fr 76 (keep l [1,2,6,22,23,24])) (([fdO s (Qcn code i),o0,o1])++G)=([fdO s (Qcn code i),o0,o1]):=Qa4 (by simp) (by simp only [a1,a2,a6,a22,a23,a24,h0,h1,Qlv,Qm6 (show 0<3 by omega),EVb,EVc,seval]) (by simp only [h0,h1,Qlv,Qm6 (show 0<3 by omega),EVb,EVc,seval])
 by_cases hc:i<code.length
 ·have hc':(i:Int)<((code.length:Nat):Int):=by omega
  have hc0:(0:Int)≤i:=by omega
  have hw:IntKind.wrap .i64 ((i:Int)+1)=((i+1:Nat):Int):=by rw [wrap64 (by omega) (by omega)];omega
  have hi:=hcm _ (List.getElem_mem hc)
  have hx:=Qbg hc
  have hcc:=c_le hi
  have hp2:=hp
  have hp:=QzF (kf+10) code[i].op code[i].to code[i].a code[i].b code[i].c hcc
  have hmem:=Q53 hcm i
  have hlen:=Q5w code i
  have hsucc:=Qyo hc
  rw[hsucc]
  obtain⟨st,hst⟩:∃ st,st=Qcn code i:=⟨_,rfl⟩
  rw[← hst] at hp2 hmem hlen ht a6 ⊢
  have hpm:=Qfa hi
  have hpe:QcT ⟨code[i].op,code[i].to,code[i].a,code[i].b,code[i].c⟩=QcT code[i]:=rfl
  rw[hpe] at hp
  obtain⟨x,hxx⟩:∃ x,x=QcT code[i]:=⟨_,rfl⟩
  rw[← hxx] at hp hpm ⊢
  simp only[run,aI,ii,encI] at hp
  simp only[Qaa,ht]
  simp only[a1,a2,a6,a22,a23,a24,hc',hc0,hw,hx,hp,Qaa,Qag,Qae,Qab,LP,Tryd.f16,FT,seval]
  rw[Qai Q7Q QFF];rotate_left;rfl;rfl;rfl
  generalize hz:Qar _ _ _ _ _ _ _ _ _ _ _ _=z
  obtain⟨l',st',y,s',G',he,hs',hl',hm',hy',b1,b2,b6,b9,b22,b23,b24⟩:=Q63 (kf+16) (by omega) n o0 o1 (oI code[i]) (h0 5) (h1 5) (by rfl) (sC code nl cap) (ii code.length) (ii i) (by rfl) (by rfl) (by rfl) st x s _ _ [] z hz (by omega) (by omega) hp2 hmem hpm (by rfl) (by rfl) (by rfl) (by rfl) (by rfl) (by rfl) (by rfl)
  clear hz
  rcases he with ⟨rfl,he⟩ | ⟨rfl,he⟩
  ·simp only[b1,b2,b6,b9,b22,b23,b24,hw,FT,seval]
   exact .inr ⟨_,_,hc,rfl,s',(by exact b1),(by exact b2),(by rw [he];exact b6),(by exact b22),(by exact b23),(by rfl),by rw [he];exact hs',⟨_,by rw [he]⟩⟩
  ·obtain⟨s2,hs2,_⟩:=QDp (x:=y) hs' (by omega) []
   have hap:∀ X,∃ s2,FdOk s2 (y::st')∧apO 61 5 40 (some 0) (fdV s' st') (fdO s' st' :: X) (some (enc1 y,1))=some (fdV s2 (y::st'),fdO s2 (y::st')::X):=fun X=>QDp (x:=y) hs' (by omega) X
   obtain⟨s2,hs2,hap⟩:=hap (o0::o1::oI code[i]::oI y::(G'++[.row false 61 (enc1 y)]))
   have hat:∀ o:AObj,(G'++[o])[G'.length]?=some o:=fun o=>by simp
   simp only[enc1] at hap
   simp only[b1,b2,b6,b9,b22,b23,b24,hw,hap,hat,FT,seval]
   exact .inr ⟨_,_,hc,rfl,s2,(by exact b1),(by exact b2),(by rw [he];rfl),(by exact b22),(by exact b23),(by rfl),by rw [he];exact hs2,⟨_,by rw [he]⟩⟩
 ·refine .inl ?_
  obtain rfl:i=code.length:=by omega
  have hc':¬ (((code.length:Nat):Int)<((code.length:Nat):Int)):=by omega
  simp only[Qaa,ht]
  simp only[a1,a2,a6,a22,a23,a24,hc',Qaa,Qag,Qae,Qab,LP,Tryd.f16,FT,seval]
  exact⟨_,s,rfl,(by rfl),(by rfl),(by rfl),hp⟩
theorem QA8 (k:Nat) (outs:List Int) (cap:Option Nat) (hl:0<outs.length) (ho:outs.length≤1000000):run (k+1) 39 [sI outs false cap]=some (sI outs false none):=by
 have h:=Qhh k outs cap hl ho
 have hel:=Qaj outs
 rw[run,h]
 have htk:(Qal outs).take outs.length=Qal outs:=by rw [← hel,List.take_length]
 simp only[hel,htk,Nat.le_refl,FT,seval]
theorem QyS (k n:Nat) (ins:Int) (code:List Ins) (outs:List Int) (nl:Bool) (cap:Option Nat) (nl2:Bool) (cap2:Option Nat) (hk:outs.length+code.length+60≤k) (hn2:nl2=true→outs=[]) (hr:Qax ⟨ins,n,code,outs⟩=true) :
  ∃ (nl3:Bool) (cap3:Option Nat),(nl3=true→QmR code=[])∧run (k+1) 16 [aP ⟨ins,n,code,outs⟩ nl cap nl2 cap2]=some (.tup [aP (Q5k ⟨ins,n,code,outs⟩) nl3 cap3 false none,ii 0]):=by
 have hr':=hr
 simp only[Qax,Qdh,QfT,QfV,Bool.and_eq_true,decide_eq_true_eq,List.all_eq_true] at hr'
 obtain⟨⟨⟨g1,g2,g3,g4,g5,g6⟩,go⟩,gc⟩:=hr'
 obtain rfl:nl2=false:=by
  cases nl2 with
  | false=>rfl
  | true=>have:=hn2 rfl;subst this;simp at g5
 obtain⟨k,rfl⟩:∃ j,k=j+16:=⟨k-16,by omega⟩
 obtain⟨cn,hck⟩:=QdR (k+15) ⟨ins,n,code,outs⟩ nl cap false cap2 (by simp only;omega)
 have hcl:=QA8 (k+15) outs cap2 (by omega) (by omega)
 simp only[run,aP,ii,bb,sI,sC,QdS,hr] at hck hcl
 rw[run,ev16,Qaq]
 simp only[Tryd.f16,aP,ii,bb,hck,FT,seval]
 rw[Qai Q3Y QGh];rotate_left;rfl;rfl;rfl
 generalize hz:Qar _ _ _ _ _ _ _ _ _ _ _ _=z
 obtain⟨l',s,rfl,e1,e2,e6,hs⟩:=Q9e k (.cells 25 [ii ins,ii n,sC code nl cap,sI outs false cap2]) (.cells 25 [ii 0,ii 0,.c (.slice [] 0 true (some 0)),.c (.slice [] 0 true (some 0))]) (fun _=>rfl) (fun _=>rfl) code nl cap n gc (by omega) (by omega) _ _ z hz (by omega) (by rfl) (by rfl) (by rfl) (by rfl) (by rfl) (by rfl)
 clear hz
 have hfc:QmR code=(Qcn code code.length).reverse:=by unfold Qcn QmR;rw [List.take_length]
 have hfp:Q5k ⟨ins,n,code,outs⟩=⟨ins,n,(Qcn code code.length).reverse,outs⟩:=by rw [← hfc];rfl
 rw[hfp]
 obtain⟨st,hst⟩:∃ st,st=Qcn code code.length:=⟨_,rfl⟩
 rw[← hst] at e6 hs ⊢
 cases s with
 | none =>
  have h0:st=[]:=hs
  subst h0
  refine⟨true,some 0,(fun _=>by rw [hfc,← hst];rfl), ?_⟩
  simp only[FT,seval]
  rw[Qaf Tryd.f16 17 Q6F];rotate_left;rfl
  simp only[e1,e2,e6,fdV,fdO,hcl,EVd,List.getElem?_nil,Nat.reducePow,Nat.reduceDiv,Nat.reduceMod,FT,seval]
  rfl
 | some J =>
  refine⟨false,none,(fun h=>by cases h), ?_⟩
  simp only[FT,seval]
  rw[Qaf Tryd.f16 17 Q6F];rotate_left;rfl
  have hle:st.length * 5≤(Qak st.reverse++J).length:=by rw [List.length_append,Qau,List.length_reverse];omega
  have htk:(Qak st.reverse++J).take (st.length * 5)=Qak st.reverse:=by
   have:(Qak st.reverse).length=st.length * 5:=by rw [Qau,List.length_reverse]
   rw[← this,List.take_left]
  obtain⟨CC,hCC⟩:∃ CC,CC=Qak st.reverse++J:=⟨_,rfl⟩
  rw[← hCC] at hle htk
  have hfv:fdV (some J) st=.hsl 0 0 st.length CC.length 5:=by rw [hCC];rfl
  have hfo:fdO (some J) st=.row false 61 CC:=by rw [hCC];rfl
  simp only[e1,e2,e6,hfv,hfo,hcl,hle,htk,EVd,List.getElem?_nil,Nat.reducePow,Nat.reduceDiv,Nat.reduceMod,FT,seval]
  simp only[sC,sI,List.length_reverse]
end Go.Proofs.Sw
namespace Go.Proofs.Sw
open Go.Ab
variable [Globals]
theorem QsT (k:Nat) (ins:Int) (n:Nat) (code:List Ins) (outs:List Int) (nl:Bool) (cap:Option Nat) (nl2:Bool) (cap2:Option Nat) (hk:outs.length+code.length+400≤k) (hr:Qax ⟨ins,n,code,outs⟩=true) :
  ∃ X,Qav Tryd.prog (Qac tab) (k+9) (.fn 17) [aP ⟨ins,n,code,outs⟩ nl cap nl2 cap2] [] =
   some (.tup [.agg [ii ins,ii n,lv 0 5 (passC ins n code).length,.hsl 1 0 outs.length outs.length 1],ii 0],codeO (passC ins n code)::rI (QdG (passS ins n code).held outs)::X):=by
 obtain⟨m,hc⟩:=QdR (k+7) ⟨ins,n,code,outs⟩ nl cap nl2 cap2 (by simp only;omega)
 simp only[run,aP,ii,QdS,hr,if_true] at hc
 simp only[Qax,Qdh,Bool.and_eq_true,decide_eq_true_eq] at hr
 obtain⟨⟨⟨h1,h2,h3,h4,h5,h6⟩,hos⟩,hcd⟩:=hr
 have hN:=Qyj (k+7) ins n (.slice (Qak code) code.length nl cap) (.slice (Qal outs) outs.length nl2 cap2) (by omega) (by omega) (by omega) (by omega) (by omega)
 have hsl:=Qbk ins n
 simp only[ii] at hN
 rw[ev17]
 simp only[Tryd.f17,aP,ii,hc,hN,FT,seval]
 rw[Qai Q16 QGp];rotate_left;rfl;rfl;rfl
 generalize hz:Qar _ _ _ _ _ _ _ _ _ _ _ _=z
 obtain⟨l',rfl,e1,e2,e6,e7,e32,e33,e34⟩:=QmE k (.int .i64 ins) (.int .i64 n) (.slice (Qak code) code.length nl cap) (.slice (Qal outs) outs.length nl2 cap2) (.int .i64 ins) (.int .i64 n) _ (by rfl) (startS ins n) code nl cap
  (by rw [show (startS ins n).held.length=n from hsl];exact fun i hi=>List.all_eq_true.1 hcd i hi) (by omega) (by rw [show (startS ins n).held.length=n from hsl];omega) (by omega) (by simp only [startS];omega) _ _ z hz (by omega) (by rfl) (by rfl) (by rfl) (by rfl) (by rfl) (by rfl) (by rfl)
 clear hz
 have hpl:(passS ins n code).held.length=n:=by rw [(Qcc _ _ _).1];exact hsl
 simp only[e1,e2,e6,e7,e32,e33,e34,FT,seval]
 rw[Qai QrL QDI];rotate_left;rfl;rfl;rfl
 generalize hz:Qar _ _ _ _ _ _ _ _ _ _ _ _=z
 obtain⟨l2,rfl,f2,f6,f7,f84,f85,f86⟩:=Qkr k (.int .i64 ins) (.int .i64 n) (.slice (Qak code) code.length nl cap) (.slice (Qal outs) outs.length nl2 cap2) (.int .i64 ins) (.int .i64 n) _ (by rfl) (passC ins n code).length (Qak (passC ins n code)) (passS ins n code) outs nl2 cap2
  (by rw [hpl];exact fun r hr=>by simpa using List.all_eq_true.1 hos r hr) (by omega) (by rw [hpl];omega) (by omega) _ _ z hz (by omega) (by exact e2) (by exact e6) (by exact e7) (by rfl) (by rfl) (by rfl)
 clear hz
 have e8:=Qct (s:=1) (sz:=1) (show 0<outs.length by omega)
 have e9:=Qcm (e:=3) (cells:=Qal (QdG (passS ins n code).held outs)) (show 0<outs.length by omega)
 rw[List.take_length]
 simp only[f2,f7,e8,e9,FT,seval]
 exact⟨_,rfl⟩
end Go.Proofs.Sw
namespace Go.Proofs.Sw
open Go.Ab Go.Proofs.YtiiannaficbjeaaDoor.tab
theorem QmC (k:Nat) (ins:Int) (n:Nat) (code:List Ins) (outs:List Int) (nl:Bool) (cap:Option Nat) (nl2:Bool) (cap2:Option Nat) (hk:outs.length+code.length+400≤k) (hr:Qax ⟨ins,n,code,outs⟩=true) :
  ∃ (nl3:Bool) (cap3:Option Nat),(nl3=true→(QeN ins n code outs).code=[])∧run (k+9) 17 [aP ⟨ins,n,code,outs⟩ nl cap nl2 cap2]=some (.tup [aP (QeN ins n code outs) nl3 cap3 false none,ii 0]):=by
 obtain⟨X,h⟩:=QsT k ins n code outs nl cap nl2 cap2 hk hr
 obtain⟨C,hC⟩:∃ C,C=passC ins n code:=⟨_,rfl⟩
 obtain⟨O,hO⟩:∃ O,O=QdG (passS ins n code).held outs:=⟨_,rfl⟩
 have hpg:QeN ins n code outs=⟨ins,n,C,O⟩:=by rw [hC,hO];rfl
 have hOl:O.length=outs.length:=by rw [hO,Qdk]
 rw[← hC,← hO] at h
 rw[hpg]
 have hel:=Qau C
 have hOe:(Qal O).length=outs.length:=by rw [Qaj,hOl]
 have htk:(Qal O).take outs.length=Qal O:=List.take_of_length_le (by rw [hOe];exact Nat.le_refl _)
 by_cases h0:C.length=0
 ·have hCn:C=[]:=List.eq_nil_of_length_eq_zero h0
  subst hCn
  refine⟨true,some 0,(fun _=>rfl), ?_⟩
  unfold run
  rw[h]
  simp only[List.length_nil,Qg1,Qru,hOe,htk,Nat.le_refl,FT,seval]
  simp only[aP,sC,sI,Qak,List.length_nil,hOl]
 ·refine⟨false,none,(fun h=>by cases h), ?_⟩
  unfold run
  have e0:codeO C=.row false 61 (Qak C):=Qcm (show 0<C.length by omega)
  rw[h,Qct (show 0<C.length by omega),e0]
  have htc:(Qak C).take (C.length * 5)=Qak C:=List.take_of_length_le (by rw [hel];exact Nat.le_refl _)
  simp only[hel,htc,hOe,htk,Nat.le_refl,FT,seval]
  simp only[aP,sC,sI,hOl]
def Qg4 (i:Nat) (p:Pg):Pg:=if i=0 then Q5k p else if i=1 then QiR p else QeG p
def nowP (p:Pg):Nat→Pg
 | 0=>p
 | j+1=>Qg4 (j % 3) (nowP p j)
theorem Comes.step {p q:Pg} (h:Comes p q) (i:Nat):Comes p (Qg4 i q):=by
 unfold Qg4
 split
 ·exact h.fold
 ·split
  ·exact h.share
  ·exact h.dead
theorem QaV {p:Pg} (h:Qax p=true):∀ j,Comes p (nowP p j)
 | 0=>Comes.refl h
 | j+1=>(QaV h j).step _
def QcP (p:Pg):Nat→Nat→Nat
 | 0,r=>r
 | f+1,r=>if nowP p (3 * r)=nowP p (3 * r+3) then r+1 else QcP p f (r+1)
def rT (p:Pg):Nat:=QcP p 16 0
theorem QiF (p:Pg):∀ f r,(f=0→True)→r≤QcP p f r∧QcP p f r≤r+f∧(0<f→r<QcP p f r)∧(∀ i,r<i→i<QcP p f r→nowP p (3 * i)≠nowP p (3 * (i-1)))∧(0<f→QcP p f r=r+f∨nowP p (3 * QcP p f r)=nowP p (3 * (QcP p f r-1)))
 | 0,r,_=>⟨by rw [QcP];omega,by rw [QcP];omega,fun h=>by omega,fun i h1 h2=>by rw [QcP] at h2;omega,fun h=>by omega⟩
 | f+1,r,_=>by
  obtain⟨h1,h2,h3,h4,h5⟩:=QiF p f (r+1) (fun _=>trivial)
  rw[QcP]
  split
  ·rename_i he
   refine⟨by omega,by omega,fun _=>by omega,fun i a b=>by omega,fun _=>.inr ?_⟩
   rw[show 3 * (r+1)=3 * r+3 by omega,Nat.add_sub_cancel,← he]
  ·rename_i hne
   refine⟨by omega,by omega,fun _=>by omega,fun i a b=>?_,fun _=>?_⟩
   ·by_cases e:i=r+1
    ·subst e
     rw[show 3 * (r+1)=3 * r+3 by omega,Nat.add_sub_cancel]
     exact fun h=>hne h.symm
    ·exact h4 i (by omega) b
   ·rcases Nat.eq_zero_or_pos f with h0 | hp
    ·subst h0
     left
     rw[QcP]
    ·rcases h5 hp with h | h
     ·left;omega
     ·right;exact h
theorem QcX (p:Pg):1≤rT p∧rT p≤16∧(∀ i,0<i→i<rT p→nowP p (3 * i)≠nowP p (3 * (i-1)))∧(rT p=16∨nowP p (3 * rT p)=nowP p (3 * (rT p-1))):=by
 obtain⟨h1,h2,h3,h4,h5⟩:=QiF p 16 0 (fun _=>trivial)
 have h3':=h3 (by omega)
 refine⟨h3',by unfold rT;omega,h4, ?_⟩
 rcases h5 (by omega) with h | h
 ·left;unfold rT;omega
 ·right;exact h
abbrev sFold:ByteArray:=⟨#[102,111,108,100]⟩
abbrev sShare:ByteArray:=⟨#[115,104,97,114,101]⟩
abbrev sDead:ByteArray:=⟨#[100,101,97,100]⟩
abbrev sPack:ByteArray:=⟨#[112,97,99,107]⟩
def nmP (p:Pg) (j:Nat):ByteArray:=if j<3 * rT p then (if j % 3=0 then sFold else if j % 3=1 then sShare else sDead) else sPack
def ylP (p:Pg) (j:Nat):Pg:=if j<3 * rT p then nowP p (j+1) else Qbo (nowP p (3 * rT p))
theorem Qfi {p:Pg} (h:Qax p=true) (j:Nat):Comes p (ylP p j):=by
 unfold ylP
 split
 ·exact QaV h _
 ·exact(QaV h _).pack
def Qy1 (q:Pg) (b:Nat) (V:AV) (rows:Heap):Prop :=
 (V=.agg [ii q.ins,ii q.regs,.hsl b 0 q.code.length (q.code.length * 5) 5,.hsl (b+1) 0 q.outs.length q.outs.length 1]∧rows=[.row false 61 (Qak q.code),rI q.outs]) ∨
 (q.code=[]∧V=.agg [ii q.ins,ii q.regs,.c (.slice [] 0 true (some 0)),.hsl b 0 q.outs.length q.outs.length 1]∧rows=[rI q.outs])
theorem keepA {x y:IV} {N m:Nat} {a b c d:AObj} {t1 t2:TypeId} {E O:List IV} (hc:c=.row false t1 E) (hd:d=.row false t2 O) (H:Heap) :
  Qe3 (some (.agg [.c x,.c y,.hsl 2 0 N (N * 5) 5,.hsl 3 0 m m 1],[a,b,c,d])) H=some (.agg [.c x,.c y,.hsl H.length 0 N (N * 5) 5,.hsl (H.length+1) 0 m m 1],H++[c,d]):=by
 subst hc hd
 simp[Qe3,AV.imp,imps1,AV.imp1,imps0,AV.imp0,rowsOf,Go.Ab.rowAt]
theorem Qat {x y:IV} {m:Nat} {a b d:AObj} {t2:TypeId} {O:List IV} (hd:d=.row false t2 O) (H:Heap) :
  Qe3 (some (.agg [.c x,.c y,.c (.slice [] 0 true (some 0)),.hsl 2 0 m m 1],[a,b,d])) H=some (.agg [.c x,.c y,.c (.slice [] 0 true (some 0)),.hsl H.length 0 m m 1],H++[d]):=by
 subst hd
 simp[Qe3,AV.imp,imps1,AV.imp1,imps0,AV.imp0,rowsOf,Go.Ab.rowAt]
theorem Qic (k:Nat) (q:Pg) (nl:Bool) (cap cap2:Option Nat) (hn:nl=true→q.code=[]) (hC:q.code.length≤1000000) (hO:0<q.outs.length) (hO2:q.outs.length≤1000000) :
  ∃ (V:Nat→AV) (rows:Heap),(∀ b,Qy1 q b (V b) rows)∧∀ H,Qe3 (Qav Tryd.prog (Qac tab) (k+2) (.fn 30) [aP q nl cap false cap2] []) H=some (V H.length,H++rows):=by
 obtain⟨ins,n,C,O⟩:=q
 simp only at hn hC hO hO2
 cases nl with
 | false =>
  obtain⟨a,b,h⟩:=Qnp k ins n C O cap cap2 hC hO hO2
  exact⟨fun b=>.agg [ii ins,ii n,.hsl b 0 C.length (C.length * 5) 5,.hsl (b+1) 0 O.length O.length 1],[.row false 61 (Qak C),rI O],fun b=>.inl ⟨rfl,rfl⟩,fun H=>by rw [h];exact keepA rfl rfl H⟩
 | true =>
  have h0:=hn rfl
  subst h0
  obtain⟨a,b,h⟩:=Qqs k ins n O cap cap2 hO hO2
  exact⟨fun b=>.agg [ii ins,ii n,.c (.slice [] 0 true (some 0)),.hsl b 0 O.length O.length 1],[rI O],fun b=>.inr ⟨rfl,rfl,rfl⟩,fun H=>by rw [h];exact Qat rfl H⟩
def pfn (i:Nat):Nat:=if i=0 then 16 else if i=1 then 17 else 18
theorem QfQ (k i:Nat) (q:Pg) (nl:Bool) (cap cap2:Option Nat) (hr:Qax q=true) (hk:q.outs.length+q.code.length+500≤k) :
  ∃ (nl3:Bool) (cap3:Option Nat),(nl3=true→(Qg4 i q).code=[])∧run (k+9) (pfn i) [aP q nl cap false cap2]=some (.tup [aP (Qg4 i q) nl3 cap3 false none,ii 0]):=by
 obtain⟨ins,regs,code,outs⟩:=q
 obtain⟨n,e,en,g1,g2,g3,g4,g5,g6,go,gc⟩:=QaQ hr
 simp only at e en g1 g2 g3 g4 g5 g6 go gc hk
 subst e
 unfold Qg4 pfn
 split
 ·exact QyS (k+8) n ins code outs nl cap false cap2 (by omega) (fun h=>by cases h) hr
 ·split
  ·have:=QmC k ins n code outs nl cap false cap2 (by omega) hr
   unfold QiR
   rw[en]
   exact this
  ·exact⟨_,_,fun h=>by
    have:nlE (QeG ⟨ins,n,code,outs⟩).code=true:=h
    simpa [nlE] using this,Qyw (k+8) n ins code outs nl cap cap2 (by omega) hr⟩
theorem QEF {x y e:IV} {N m:Nat} {E O:List IV} {H X:Heap} (hN:0<N) :
  Qe3 (some (.tup [.agg [.c x,.c y,lv 0 5 N,.hsl 1 0 m m 1],.c e],lo 61 N E :: .row false 3 O::X)) H=some (.tup [.agg [.c x,.c y,.hsl H.length 0 N (N * 5) 5,.hsl (H.length+1) 0 m m 1],.c e],H++[.row false 61 E,.row false 3 O]):=by
 rw[Qct hN,Qcm hN]
 simp[Qe3,AV.imp,imps1,AV.imp1,imps0,AV.imp0,rowsOf,Go.Ab.rowAt]
theorem QEu {x y e:IV} {m:Nat} {O:List IV} {H X:Heap} {o:AObj} :
  Qe3 (some (.tup [.agg [.c x,.c y,.c (.slice [] 0 true (some 0)),.hsl 1 0 m m 1],.c e],o :: .row false 3 O::X)) H=some (.tup [.agg [.c x,.c y,.c (.slice [] 0 true (some 0)),.hsl H.length 0 m m 1],.c e],H++[.row false 3 O]):=by
 simp[Qe3,AV.imp,imps1,AV.imp1,imps0,AV.imp0,rowsOf,Go.Ab.rowAt]
theorem Q7F (k:Nat) (q:Pg) (nl:Bool) (cap cap2:Option Nat) (hr:Qax q=true) (hk:q.outs.length+q.code.length+3000≤k) :
  ∃ (V:Nat→AV) (rows:Heap),(∀ b,Qy1 (Qbo q) b (V b) rows)∧∀ H,Qe3 (Qav Tryd.prog (Qac tab) (k+3) (.fn 15) [aP q nl cap false cap2] []) H=some (.tup [V H.length,ii 0],H++rows):=by
 obtain⟨ins,regs,code,outs⟩:=q
 obtain⟨n,e,en,g1,g2,g3,g4,g5,g6,go,gc⟩:=QaQ hr
 simp only at e en g1 g2 g3 g4 g5 g6 go gc hk
 subst e
 obtain⟨X,h⟩:=Q8i k ins n code outs nl cap false cap2 hk hr
 obtain⟨_,hol,hin⟩:=Qgt hr
 obtain⟨⟨i2,r2,C,O⟩,hq⟩:∃ q,q=Qbo ⟨ins,n,code,outs⟩:=⟨_,rfl⟩
 rw[← hq] at h hol hin ⊢
 simp only at h hol hin
 subst hin
 rw[← hol] at h
 rcases Nat.eq_zero_or_pos C.length with h0 | hp
 ·obtain rfl:=List.eq_nil_of_length_eq_zero h0
  refine⟨fun b=>.agg [ii i2,ii r2,.c (.slice [] 0 true (some 0)),.hsl b 0 O.length O.length 1],[rI O],fun b=>.inr ⟨rfl,rfl,rfl⟩,fun H=>?_⟩
  rw[h]
  exact QEu
 ·refine⟨fun b=>.agg [ii i2,ii r2,.hsl b 0 C.length (C.length * 5) 5,.hsl (b+1) 0 O.length O.length 1],[.row false 61 (Qak C),rI O],fun b=>.inl ⟨rfl,rfl⟩,fun H=>?_⟩
  rw[h]
  exact QEF hp
end Go.Proofs.Sw
namespace Go.Proofs.Sw
open Go.Ab Go.Proofs.YtiiannaficbjeaaDoor.tab
abbrev psO:AObj:=.row false 64 [.str sFold,.fn 16,.str sShare,.fn 17,.str sDead,.fn 18]
abbrev cPg (q:Pg) (nl:Bool) (cap:Option Nat) (nl2:Bool) (cap2:Option Nat):AObj:=.cells 25 [ii q.ins,ii q.regs,sC q.code nl cap,sI q.outs nl2 cap2]
theorem QeC {L:Heap} {m:Nat} (h:L.length=m) (i:Nat) (X:Heap):(L++X)[m+i]?=X[i]?:=by
 rw[List.getElem?_append_right (by omega),h,Nat.add_sub_cancel_left]
theorem Qfx {L:Heap} {m:Nat} (h:L.length=m) (X:Heap):(L++X)[m]?=X[0]?:=QeC h 0 X
theorem Qsx {L:Heap} {m:Nat} (h:L.length=m) (i:Nat) (o:AObj) (X:Heap):(L++X).set (m+i) o=L++X.set i o:=by
 rw[List.set_append_right _ _ (by omega),h,Nat.add_sub_cancel_left]
theorem QhD {L:Heap} {m:Nat} (h:L.length=m) (o:AObj) (X:Heap):(L++X).set m o=L++X.set 0 o:=Qsx h 0 o X
structure RBody (p:Pg) (nl:Bool) (cap cap2:Option Nat) (kf y m b:Nat) (J:Nat→Heap→Prop) (cont:Nat→Bool):Prop where
 len:∀ j L,J j L→L.length=m
 und:∀ j L n,J j L→m≤n→L.all (AObj.under n)=true
 box:∀ j L,J j L→L[b]?=some (cPg p nl cap false cap2)
 ylt:y<m
 blt:b<m
 body:∀ j L M V rows,j≤3 * rT p→J j L→(∀ i,i<j→cont i=true)→(M.length=2∨M.length=3∨M.length=4)→Qy1 (ylP p j) (m+M.length) V rows →
  ∃ L' G,Qav Tryd.prog (Qac tab) kf (.round y) [.c (.str (nmP p j)),V] (L++(M++rows))=some (bb (cont j),L'++(M++G))∧J (j+1) L'
section
variable {p:Pg} {nl0:Bool} {cap0 cap20:Option Nat} {K y m b:Nat} {J:Nat→Heap→Prop} {cont:Nat→Bool}
theorem QGI (hB:RBody p nl0 cap0 cap20 (K+9) y m b J cont) (hr:Qax p=true) (hk:p.outs.length+p.code.length+500≤K) (r:Nat) (hT:r<rT p) (j:Nat) (hj:j=3 * r+0) (hci:∀ i,i<j→cont i=true) (L:Heap) (hJ:J (j) L) (nl:Bool) (cap:Option Nat) (hn:nl=true→(nowP p (j)).code=[]) (cap2:Option Nat) (c7:AObj) (u7:∀ n,c7.under n=true)
  (k:Nat) (l:Ass) (G:Heap) (a0:asc l 0=.yld y) (a5:asc l 5=.ptr m 0) (a6:asc l 6=.hsl (m+1) 0 3 6 2) (a7:asc l 7=.ptr (m+2) 0) (a23:asc l 23=ii r) (a26:asc l 26=.hsl (m+1) 0 3 6 2) (a27:asc l 27=ii 3) (a28:asc l 28=ii 0) :
  ∃ (L':Heap) (nl':Bool) (cap' cap2':Option Nat) (l':Ass) (G':Heap),((cont (j)=false∧Qar Tryd.prog tab (K+9) none QeE 29 59 [0,5,6,7,23,26,27,28] (m+3) (k+1) l (L++([cPg (nowP p (j)) nl cap false cap2,psO,c7]++G))=some (.ret (fr 59 l') (L'++G'))) ∨
    (cont (j)=true∧Qar Tryd.prog tab (K+9) none QeE 29 59 [0,5,6,7,23,26,27,28] (m+3) (k+1) l (L++([cPg (nowP p (j)) nl cap false cap2,psO,c7]++G))=Qar Tryd.prog tab (K+9) none QeE 29 59 [0,5,6,7,23,26,27,28] (m+3) k l' (L'++([cPg (nowP p (j+1)) nl' cap' false cap2',psO,c7]++G'))∧(nl'=true→(nowP p (j+1)).code=[])∧asc l' 0=.yld y∧asc l' 5=.ptr m 0∧asc l' 6=.hsl (m+1) 0 3 6 2∧asc l' 7=.ptr (m+2) 0∧asc l' 23=ii r∧asc l' 26=.hsl (m+1) 0 3 6 2∧asc l' 27=ii 3∧asc l' 28=ii (0+1)))∧J (j+1) L':=by
 have hL:=hB.len _ _ hJ
 have hy:=hB.ylt
 obtain⟨q,hq⟩:∃ q,q=nowP p j:=⟨_,rfl⟩
 have hcq:=QaV hr j
 have hnx:nowP p (j+1)=Qg4 0 q:=by
  rw[nowP,← hq,show j % 3=0 by omega]
 rw[← hq] at hcq hn
 rw[hnx]
 have hcq2:=hcq.step 0
 obtain⟨n1,e1,en1,w1,w2,w3,w4,w5,w6,_,_⟩:=QaQ hcq2.right
 have hlc:=hcq.code
 have hlo:=hcq.outs
 obtain⟨nl3,cap3,hn3,hps⟩:=QfQ K 0 q nl cap cap2 hcq.right (by omega)
 obtain⟨q2,hq2⟩:∃ q2,q2=Qg4 0 q:=⟨_,rfl⟩
 rw[← hq2] at hn3 hps w4 w5 w6 ⊢
 obtain⟨V,rows,hV,hcp⟩:=Qic (K+7) q2 nl3 cap3 none hn3 (by omega) (by omega) (by omega)
 have hyl:ylP p j=q2:=by
  unfold ylP
  rw[if_pos (by omega),hnx,← hq2]
 have hnm:nmP p j=sFold:=by
  unfold nmP
  rw[if_pos (by omega)]
  have:j % 3=0:=by omega
  rw[this]
  rfl
 have hpf:pfn 0=16:=rfl
 obtain⟨L',G',hbd,hJ'⟩:=hB.body j L [cPg q2 nl3 cap3 false none,psO,c7,.cells 64 [.c (.str sFold),.c (.fn 16)]] (V (m+4)) rows (by omega) hJ hci (.inr (.inr rfl)) (by rw [hyl];exact hV _)
 rw[hnm] at hbd
 have g0:=fun X=>Qfx hL X
 have g1:=fun X=>QeC hL 1 X
 have g2:=fun X=>QeC hL 2 X
 have g3:=fun X=>QeC hL 3 X
 have s0:=fun o X=>QhD hL o X
 have s3:=fun o X=>Qsx hL 3 o X
 have hln:∀ X,(L++X).length=m+X.length:=fun X=>by rw [List.length_append,hL]
 have d0:decide (y<m+3)=true:=decide_eq_true (by omega)
 have d1:decide (m<m+3)=true:=decide_eq_true (by omega)
 have d2:decide (m+1<m+3)=true:=decide_eq_true (by omega)
 have d3:decide (m+2<m+3)=true:=decide_eq_true (by omega)
 have hund:=hB.und _ _ (m+3) hJ (by omega)
 have ht:trim (m+3) (fr 59 (keep l [0,5,6,7,23,26,27,28])) (L++([cPg q nl cap false cap2,psO,c7]++G))=L++[cPg q nl cap false cap2,psO,c7]:=by
  rw[← List.append_assoc]
  exact Qa4 (by rw [hln];rfl) (by simp only [a0,a5,a6,a7,a23,a26,a27,a28,d0,d1,d2,d3,EVb,EVc,seval]) (by rw [List.all_append,hund];simp only [u7,EVb,EVc,seval])
 simp only[run,aP,ii,hpf] at hps
 simp only[aP,ii] at hcp
 simp only[List.cons_append,List.nil_append] at hbd
 rw[← hq]
 simp only[Qaa,ht]
 simp only[a0,a5,a6,a7,a23,a26,a27,a28,g0,g1,g2,g3,s0,s3,hln,hps,List.append_assoc,Qaa,Qag,Qae,Qab,LP,Tryd.f29,FT,seval]
 rw[Qaf Tryd.f29 11 Qzd];rotate_left;rfl
 cases hc:cont j with
 | true =>
  rw[hc] at hbd
  simp only[a0,a5,a6,a7,a23,a26,a27,a28,g0,g1,g2,g3,s0,s3,hln,hcp,hbd,List.append_assoc,Qb8,Qcr,EVd,List.getElem?_nil,Nat.reducePow,Nat.reduceDiv,Nat.reduceMod,FT,seval]
  exact⟨L',nl3,cap3,none,_,_,.inr ⟨(by rfl),hn3,(by rfl),(by rfl),(by rfl),(by rfl),(by rfl),(by rfl),(by rfl),(by rfl)⟩,hJ'⟩
 | false =>
  rw[hc] at hbd
  simp only[a0,a5,a6,a7,a23,a26,a27,a28,g0,g1,g2,g3,s0,s3,hln,hcp,hbd,List.append_assoc,Qb8,Qcr,EVd,List.getElem?_nil,Nat.reducePow,Nat.reduceDiv,Nat.reduceMod,FT,seval]
  exact⟨L',nl3,cap3,none,_,_,.inl (by rfl),hJ'⟩
theorem QGQ (hB:RBody p nl0 cap0 cap20 (K+9) y m b J cont) (hr:Qax p=true) (hk:p.outs.length+p.code.length+500≤K) (r:Nat) (hT:r<rT p) (j:Nat) (hj:j=3 * r+1) (hci:∀ i,i<j→cont i=true) (L:Heap) (hJ:J (j) L) (nl:Bool) (cap:Option Nat) (hn:nl=true→(nowP p (j)).code=[]) (cap2:Option Nat) (c7:AObj) (u7:∀ n,c7.under n=true)
  (k:Nat) (l:Ass) (G:Heap) (a0:asc l 0=.yld y) (a5:asc l 5=.ptr m 0) (a6:asc l 6=.hsl (m+1) 0 3 6 2) (a7:asc l 7=.ptr (m+2) 0) (a23:asc l 23=ii r) (a26:asc l 26=.hsl (m+1) 0 3 6 2) (a27:asc l 27=ii 3) (a28:asc l 28=ii 1) :
  ∃ (L':Heap) (nl':Bool) (cap' cap2':Option Nat) (l':Ass) (G':Heap),((cont (j)=false∧Qar Tryd.prog tab (K+9) none QeE 29 59 [0,5,6,7,23,26,27,28] (m+3) (k+1) l (L++([cPg (nowP p (j)) nl cap false cap2,psO,c7]++G))=some (.ret (fr 59 l') (L'++G'))) ∨
    (cont (j)=true∧Qar Tryd.prog tab (K+9) none QeE 29 59 [0,5,6,7,23,26,27,28] (m+3) (k+1) l (L++([cPg (nowP p (j)) nl cap false cap2,psO,c7]++G))=Qar Tryd.prog tab (K+9) none QeE 29 59 [0,5,6,7,23,26,27,28] (m+3) k l' (L'++([cPg (nowP p (j+1)) nl' cap' false cap2',psO,c7]++G'))∧(nl'=true→(nowP p (j+1)).code=[])∧asc l' 0=.yld y∧asc l' 5=.ptr m 0∧asc l' 6=.hsl (m+1) 0 3 6 2∧asc l' 7=.ptr (m+2) 0∧asc l' 23=ii r∧asc l' 26=.hsl (m+1) 0 3 6 2∧asc l' 27=ii 3∧asc l' 28=ii (1+1)))∧J (j+1) L':=by
 have hL:=hB.len _ _ hJ
 have hy:=hB.ylt
 obtain⟨q,hq⟩:∃ q,q=nowP p j:=⟨_,rfl⟩
 have hcq:=QaV hr j
 have hnx:nowP p (j+1)=Qg4 1 q:=by
  rw[nowP,← hq,show j % 3=1 by omega]
 rw[← hq] at hcq hn
 rw[hnx]
 have hcq2:=hcq.step 1
 obtain⟨n1,e1,en1,w1,w2,w3,w4,w5,w6,_,_⟩:=QaQ hcq2.right
 have hlc:=hcq.code
 have hlo:=hcq.outs
 obtain⟨nl3,cap3,hn3,hps⟩:=QfQ K 1 q nl cap cap2 hcq.right (by omega)
 obtain⟨q2,hq2⟩:∃ q2,q2=Qg4 1 q:=⟨_,rfl⟩
 rw[← hq2] at hn3 hps w4 w5 w6 ⊢
 obtain⟨V,rows,hV,hcp⟩:=Qic (K+7) q2 nl3 cap3 none hn3 (by omega) (by omega) (by omega)
 have hyl:ylP p j=q2:=by
  unfold ylP
  rw[if_pos (by omega),hnx,← hq2]
 have hnm:nmP p j=sShare:=by
  unfold nmP
  rw[if_pos (by omega)]
  have:j % 3=1:=by omega
  rw[this]
  rfl
 have hpf:pfn 1=17:=rfl
 obtain⟨L',G',hbd,hJ'⟩:=hB.body j L [cPg q2 nl3 cap3 false none,psO,c7,.cells 64 [.c (.str sShare),.c (.fn 17)]] (V (m+4)) rows (by omega) hJ hci (.inr (.inr rfl)) (by rw [hyl];exact hV _)
 rw[hnm] at hbd
 have g0:=fun X=>Qfx hL X
 have g1:=fun X=>QeC hL 1 X
 have g2:=fun X=>QeC hL 2 X
 have g3:=fun X=>QeC hL 3 X
 have s0:=fun o X=>QhD hL o X
 have s3:=fun o X=>Qsx hL 3 o X
 have hln:∀ X,(L++X).length=m+X.length:=fun X=>by rw [List.length_append,hL]
 have d0:decide (y<m+3)=true:=decide_eq_true (by omega)
 have d1:decide (m<m+3)=true:=decide_eq_true (by omega)
 have d2:decide (m+1<m+3)=true:=decide_eq_true (by omega)
 have d3:decide (m+2<m+3)=true:=decide_eq_true (by omega)
 have hund:=hB.und _ _ (m+3) hJ (by omega)
 have ht:trim (m+3) (fr 59 (keep l [0,5,6,7,23,26,27,28])) (L++([cPg q nl cap false cap2,psO,c7]++G))=L++[cPg q nl cap false cap2,psO,c7]:=by
  rw[← List.append_assoc]
  exact Qa4 (by rw [hln];rfl) (by simp only [a0,a5,a6,a7,a23,a26,a27,a28,d0,d1,d2,d3,EVb,EVc,seval]) (by rw [List.all_append,hund];simp only [u7,EVb,EVc,seval])
 simp only[run,aP,ii,hpf] at hps
 simp only[aP,ii] at hcp
 simp only[List.cons_append,List.nil_append] at hbd
 rw[← hq]
 simp only[Qaa,ht]
 simp only[a0,a5,a6,a7,a23,a26,a27,a28,g0,g1,g2,g3,s0,s3,hln,hps,List.append_assoc,Qaa,Qag,Qae,Qab,LP,Tryd.f29,FT,seval]
 rw[Qaf Tryd.f29 11 Qzd];rotate_left;rfl
 cases hc:cont j with
 | true =>
  rw[hc] at hbd
  simp only[a0,a5,a6,a7,a23,a26,a27,a28,g0,g1,g2,g3,s0,s3,hln,hcp,hbd,List.append_assoc,Qb8,Qcr,EVd,List.getElem?_nil,Nat.reducePow,Nat.reduceDiv,Nat.reduceMod,FT,seval]
  exact⟨L',nl3,cap3,none,_,_,.inr ⟨(by rfl),hn3,(by rfl),(by rfl),(by rfl),(by rfl),(by rfl),(by rfl),(by rfl),(by rfl)⟩,hJ'⟩
 | false =>
  rw[hc] at hbd
  simp only[a0,a5,a6,a7,a23,a26,a27,a28,g0,g1,g2,g3,s0,s3,hln,hcp,hbd,List.append_assoc,Qb8,Qcr,EVd,List.getElem?_nil,Nat.reducePow,Nat.reduceDiv,Nat.reduceMod,FT,seval]
  exact⟨L',nl3,cap3,none,_,_,.inl (by rfl),hJ'⟩
theorem QGy (hB:RBody p nl0 cap0 cap20 (K+9) y m b J cont) (hr:Qax p=true) (hk:p.outs.length+p.code.length+500≤K) (r:Nat) (hT:r<rT p) (j:Nat) (hj:j=3 * r+2) (hci:∀ i,i<j→cont i=true) (L:Heap) (hJ:J (j) L) (nl:Bool) (cap:Option Nat) (hn:nl=true→(nowP p (j)).code=[]) (cap2:Option Nat) (c7:AObj) (u7:∀ n,c7.under n=true)
  (k:Nat) (l:Ass) (G:Heap) (a0:asc l 0=.yld y) (a5:asc l 5=.ptr m 0) (a6:asc l 6=.hsl (m+1) 0 3 6 2) (a7:asc l 7=.ptr (m+2) 0) (a23:asc l 23=ii r) (a26:asc l 26=.hsl (m+1) 0 3 6 2) (a27:asc l 27=ii 3) (a28:asc l 28=ii 2) :
  ∃ (L':Heap) (nl':Bool) (cap' cap2':Option Nat) (l':Ass) (G':Heap),((cont (j)=false∧Qar Tryd.prog tab (K+9) none QeE 29 59 [0,5,6,7,23,26,27,28] (m+3) (k+1) l (L++([cPg (nowP p (j)) nl cap false cap2,psO,c7]++G))=some (.ret (fr 59 l') (L'++G'))) ∨
    (cont (j)=true∧Qar Tryd.prog tab (K+9) none QeE 29 59 [0,5,6,7,23,26,27,28] (m+3) (k+1) l (L++([cPg (nowP p (j)) nl cap false cap2,psO,c7]++G))=Qar Tryd.prog tab (K+9) none QeE 29 59 [0,5,6,7,23,26,27,28] (m+3) k l' (L'++([cPg (nowP p (j+1)) nl' cap' false cap2',psO,c7]++G'))∧(nl'=true→(nowP p (j+1)).code=[])∧asc l' 0=.yld y∧asc l' 5=.ptr m 0∧asc l' 6=.hsl (m+1) 0 3 6 2∧asc l' 7=.ptr (m+2) 0∧asc l' 23=ii r∧asc l' 26=.hsl (m+1) 0 3 6 2∧asc l' 27=ii 3∧asc l' 28=ii (2+1)))∧J (j+1) L':=by
 have hL:=hB.len _ _ hJ
 have hy:=hB.ylt
 obtain⟨q,hq⟩:∃ q,q=nowP p j:=⟨_,rfl⟩
 have hcq:=QaV hr j
 have hnx:nowP p (j+1)=Qg4 2 q:=by
  rw[nowP,← hq,show j % 3=2 by omega]
 rw[← hq] at hcq hn
 rw[hnx]
 have hcq2:=hcq.step 2
 obtain⟨n1,e1,en1,w1,w2,w3,w4,w5,w6,_,_⟩:=QaQ hcq2.right
 have hlc:=hcq.code
 have hlo:=hcq.outs
 obtain⟨nl3,cap3,hn3,hps⟩:=QfQ K 2 q nl cap cap2 hcq.right (by omega)
 obtain⟨q2,hq2⟩:∃ q2,q2=Qg4 2 q:=⟨_,rfl⟩
 rw[← hq2] at hn3 hps w4 w5 w6 ⊢
 obtain⟨V,rows,hV,hcp⟩:=Qic (K+7) q2 nl3 cap3 none hn3 (by omega) (by omega) (by omega)
 have hyl:ylP p j=q2:=by
  unfold ylP
  rw[if_pos (by omega),hnx,← hq2]
 have hnm:nmP p j=sDead:=by
  unfold nmP
  rw[if_pos (by omega)]
  have:j % 3=2:=by omega
  rw[this]
  rfl
 have hpf:pfn 2=18:=rfl
 obtain⟨L',G',hbd,hJ'⟩:=hB.body j L [cPg q2 nl3 cap3 false none,psO,c7,.cells 64 [.c (.str sDead),.c (.fn 18)]] (V (m+4)) rows (by omega) hJ hci (.inr (.inr rfl)) (by rw [hyl];exact hV _)
 rw[hnm] at hbd
 have g0:=fun X=>Qfx hL X
 have g1:=fun X=>QeC hL 1 X
 have g2:=fun X=>QeC hL 2 X
 have g3:=fun X=>QeC hL 3 X
 have s0:=fun o X=>QhD hL o X
 have s3:=fun o X=>Qsx hL 3 o X
 have hln:∀ X,(L++X).length=m+X.length:=fun X=>by rw [List.length_append,hL]
 have d0:decide (y<m+3)=true:=decide_eq_true (by omega)
 have d1:decide (m<m+3)=true:=decide_eq_true (by omega)
 have d2:decide (m+1<m+3)=true:=decide_eq_true (by omega)
 have d3:decide (m+2<m+3)=true:=decide_eq_true (by omega)
 have hund:=hB.und _ _ (m+3) hJ (by omega)
 have ht:trim (m+3) (fr 59 (keep l [0,5,6,7,23,26,27,28])) (L++([cPg q nl cap false cap2,psO,c7]++G))=L++[cPg q nl cap false cap2,psO,c7]:=by
  rw[← List.append_assoc]
  exact Qa4 (by rw [hln];rfl) (by simp only [a0,a5,a6,a7,a23,a26,a27,a28,d0,d1,d2,d3,EVb,EVc,seval]) (by rw [List.all_append,hund];simp only [u7,EVb,EVc,seval])
 simp only[run,aP,ii,hpf] at hps
 simp only[aP,ii] at hcp
 simp only[List.cons_append,List.nil_append] at hbd
 rw[← hq]
 simp only[Qaa,ht]
 simp only[a0,a5,a6,a7,a23,a26,a27,a28,g0,g1,g2,g3,s0,s3,hln,hps,List.append_assoc,Qaa,Qag,Qae,Qab,LP,Tryd.f29,FT,seval]
 rw[Qaf Tryd.f29 11 Qzd];rotate_left;rfl
 cases hc:cont j with
 | true =>
  rw[hc] at hbd
  simp only[a0,a5,a6,a7,a23,a26,a27,a28,g0,g1,g2,g3,s0,s3,hln,hcp,hbd,List.append_assoc,Qb8,Qcr,EVd,List.getElem?_nil,Nat.reducePow,Nat.reduceDiv,Nat.reduceMod,FT,seval]
  exact⟨L',nl3,cap3,none,_,_,.inr ⟨(by rfl),hn3,(by rfl),(by rfl),(by rfl),(by rfl),(by rfl),(by rfl),(by rfl),(by rfl)⟩,hJ'⟩
 | false =>
  rw[hc] at hbd
  simp only[a0,a5,a6,a7,a23,a26,a27,a28,g0,g1,g2,g3,s0,s3,hln,hcp,hbd,List.append_assoc,Qb8,Qcr,EVd,List.getElem?_nil,Nat.reducePow,Nat.reduceDiv,Nat.reduceMod,FT,seval]
  exact⟨L',nl3,cap3,none,_,_,.inl (by rfl),hJ'⟩
end
end Go.Proofs.Sw
namespace Go.Proofs.Sw
open Go.Ab Go.Proofs.YtiiannaficbjeaaDoor.tab
section
variable {p:Pg} {nl0:Bool} {cap0 cap20:Option Nat} {K y m b:Nat} {J:Nat→Heap→Prop} {cont:Nat→Bool}
theorem Q8A (hB:RBody p nl0 cap0 cap20 (K+9) y m b J cont) (hr:Qax p=true) (hk:p.outs.length+p.code.length+500≤K) (r:Nat) (hT:r<rT p) (hci:∀ i,i<3 * r→cont i=true) (L:Heap) (hJ:J (3 * r) L) (nl:Bool) (cap:Option Nat) (hn:nl=true→(nowP p (3 * r)).code=[]) (cap2:Option Nat) (c7:AObj) (u7:∀ n,c7.under n=true)
  (k:Nat) (l:Ass) (G:Heap) (z:Option Out) (hz:Qar Tryd.prog tab (K+9) none QeE 29 59 [0,5,6,7,23,26,27,28] (m+3) (k+4) l (L++([cPg (nowP p (3 * r)) nl cap false cap2,psO,c7]++G))=z)
  (a0:asc l 0=.yld y) (a5:asc l 5=.ptr m 0) (a6:asc l 6=.hsl (m+1) 0 3 6 2) (a7:asc l 7=.ptr (m+2) 0) (a23:asc l 23=ii r) (a26:asc l 26=.hsl (m+1) 0 3 6 2) (a27:asc l 27=ii 3) (a28:asc l 28=ii 0) :
  (∃ j l' L' G',z=some (.ret (fr 59 l') (L'++G'))∧J (j+1) L'∧3 * r≤j∧j<3 * r+3∧cont j=false∧∀ i,3 * r≤i→i<j→cont i=true) ∨
  (∃ l' L' nl' cap' cap2',z=some (.exit 2 (fr 59 l') (L'++[cPg (nowP p (3 * r+3)) nl' cap' false cap2',psO,c7]))∧J (3 * r+3) L'∧(nl'=true→(nowP p (3 * r+3)).code=[])∧(∀ i,3 * r≤i→i<3 * r+3→cont i=true) ∧
   asc l' 0=.yld y∧asc l' 5=.ptr m 0∧asc l' 6=.hsl (m+1) 0 3 6 2∧asc l' 7=.ptr (m+2) 0∧asc l' 23=ii r):=by
 subst hz
 obtain⟨L1,nl1,cap1,cap21,l1,G1,h1,hJ1⟩:=QGI hB hr hk r hT (3 * r) rfl hci L hJ nl cap hn cap2 c7 u7 (k+3) l G a0 a5 a6 a7 a23 a26 a27 a28
 rcases h1 with ⟨c1,e1⟩ | ⟨c1,e1,hn1,b0,b5,b6,b7,b23,b26,b27,b28⟩
 ·exact .inl ⟨3 * r,l1,L1,G1,e1,hJ1,Nat.le_refl _,by omega,c1,fun i h1 h2=>by omega⟩
 rw[show k+4=k+3+1 by omega,e1]
 clear e1
 obtain⟨L2,nl2,cap2',QB2,l2,G2,h2,hJ2⟩:=QGQ hB hr hk r hT (3 * r+1) rfl (fun i h=>by
  by_cases e:i=3 * r
  ·rw[e];exact c1
  ·exact hci i (by omega)) L1 hJ1 nl1 cap1 hn1 cap21 c7 u7 (k+2) l1 G1 b0 b5 b6 b7 b23 b26 b27 b28
 rcases h2 with ⟨c2,e2⟩ | ⟨c2,e2,hn2,d0,d5,d6,d7,d23,d26,d27,d28⟩
 ·exact .inl ⟨3 * r+1,l2,L2,G2,e2,hJ2,by omega,by omega,c2,fun i h1 h2=>by rw [show i=3 * r by omega];exact c1⟩
 rw[show k+3=k+2+1 by omega,e2]
 clear e2
 obtain⟨L3,nl3,cap3,Q4N,l3,G3,h3,hJ3⟩:=QGy hB hr hk r hT (3 * r+2) rfl (fun i h=>by
  by_cases e:i=3 * r
  ·rw[e];exact c1
  ·by_cases e2:i=3 * r+1
   ·rw[e2];exact c2
   ·exact hci i (by omega)) L2 hJ2 nl2 cap2' hn2 QB2 c7 u7 (k+1) l2 G2 d0 d5 d6 d7 d23 d26 d27 d28
 rcases h3 with ⟨c3,e3⟩ | ⟨c3,e3,hn3,f0,f5,f6,f7,f23,f26,f27,f28⟩
 ·exact .inl ⟨3 * r+2,l3,L3,G3,e3,hJ3,by omega,by omega,c3,fun i h1 h2=>by
   by_cases e:i=3 * r
   ·rw[e];exact c1
   ·rw[show i=3 * r+1 by omega];exact c2⟩
 rw[show k+2=k+1+1 by omega,e3]
 clear e3
 have hy:=hB.ylt
 have hL:=hB.len _ _ hJ3
 have hln:∀ X,(L3++X).length=m+X.length:=fun X=>by rw [List.length_append,hL]
 have q0:decide (y<m+3)=true:=decide_eq_true (by omega)
 have q1:decide (m<m+3)=true:=decide_eq_true (by omega)
 have q2:decide (m+1<m+3)=true:=decide_eq_true (by omega)
 have q3:decide (m+2<m+3)=true:=decide_eq_true (by omega)
 have hund:=hB.und _ _ (m+3) hJ3 (by omega)
 have ht:trim (m+3) (fr 59 (keep l3 [0,5,6,7,23,26,27,28])) (L3++([cPg (nowP p (3 * r+2+1)) nl3 cap3 false Q4N,psO,c7]++G3))=L3++[cPg (nowP p (3 * r+2+1)) nl3 cap3 false Q4N,psO,c7]:=by
  rw[← List.append_assoc]
  exact Qa4 (by rw [hln];rfl) (by simp only [f0,f5,f6,f7,f23,f26,f27,f28,q0,q1,q2,q3,EVb,EVc,seval]) (by rw [List.all_append,hund];simp only [u7,EVb,EVc,seval])
 simp only[Qaa,ht]
 simp only[f0,f5,f6,f7,f23,f26,f27,f28,Int.lt_irrefl,Qaa,Qag,Qae,Qab,LP,Tryd.f29,FT,seval]
 refine .inr ⟨_,L3,nl3,cap3,Q4N,(by rfl),hJ3,hn3,fun i h1 h2=>?_,(by rfl),(by rfl),(by rfl),(by rfl),(by rfl)⟩
 by_cases e:i=3 * r
 ·rw[e];exact c1
 ·by_cases e2:i=3 * r+1
  ·rw[e2];exact c2
  ·rw[show i=3 * r+2 by omega];exact c3
def ROut (p:Pg) (y m:Nat) (J:Nat→Heap→Prop) (cont:Nat→Bool) (z:Option Out):Prop :=
 (∃ j l' L' G',z=some (.ret (fr 59 l') (L'++G'))∧J (j+1) L'∧j<3 * rT p∧cont j=false∧∀ i,i<j→cont i=true) ∨
 (∃ l' L' nl' cap' cap2' M,z=some (.exit 0 (fr 59 l') (L'++(cPg (nowP p (3 * rT p)) nl' cap' false cap2' :: psO::M)))∧(M.length=0∨M.length=1)∧J (3 * rT p) L'∧(∀ i,i<3 * rT p→cont i=true)∧asc l' 0=.yld y∧asc l' 5=.ptr m 0)
theorem Q8r (hB:RBody p nl0 cap0 cap20 (K+9) y m b J cont) (hr:Qax p=true) (hk:p.outs.length+p.code.length+500≤K):∀ (d r:Nat) (L:Heap) (nl:Bool) (cap cap2:Option Nat) (k:Nat) (l:Ass) (G:Heap) (z:Option Out),r+d=rT p→0<d→J (3 * r) L→(nl=true→(nowP p (3 * r)).code=[]) →
  Qar Tryd.prog tab (K+9) none Q60 29 59 [0,5,6,23] (m+2) k l (L++([cPg (nowP p (3 * r)) nl cap false cap2,psO]++G))=z→d+1<k →
  asc l 0=.yld y→asc l 5=.ptr m 0→asc l 6=.hsl (m+1) 0 3 6 2→asc l 23=ii r→(∀ i,i<3 * r→cont i=true)→ROut p y m J cont z:=by
 intro d
 induction d with
 | zero=>intro r L nl cap cap2 k l G z _ h0;omega
 | succ d ih =>
  intro r L nl cap cap2 k l G z hrd _ hJ hn hz hkd a0 a5 a6 a23 hci
  obtain⟨k,rfl⟩:∃ j,k=j+1:=⟨k-1,by omega⟩
  obtain⟨hT1,hT16,hTne,hTlast⟩:=QcX p
  have hL:=hB.len _ _ hJ
  have hy:=hB.ylt
  have hln:∀ X,(L++X).length=m+X.length:=fun X=>by rw [List.length_append,hL]
  have q0:decide (y<m+2)=true:=decide_eq_true (by omega)
  have q1:decide (m<m+2)=true:=decide_eq_true (by omega)
  have q2:decide (m+1<m+2)=true:=decide_eq_true (by omega)
  have hund:=hB.und _ _ (m+2) hJ (by omega)
  have ht:trim (m+2) (fr 59 (keep l [0,5,6,23])) (L++([cPg (nowP p (3 * r)) nl cap false cap2,psO]++G))=L++[cPg (nowP p (3 * r)) nl cap false cap2,psO]:=by
   rw[← List.append_assoc]
   exact Qa4 (by rw [hln];rfl) (by simp only [a0,a5,a6,a23,q0,q1,q2,EVb,EVc,seval]) (by rw [List.all_append,hund];simp only [EVb,EVc,seval])
  have hr16:(r:Int)<16:=by omega
  have g0:=fun X=>Qfx hL X
  have g2:=fun X=>QeC hL 2 X
  have s2:=fun o X=>Qsx hL 2 o X
  simp only[Qaa,ht] at hz
  simp only[a0,a5,a6,a23,hr16,g0,g2,s2,hln,List.append_assoc,Qaa,Qag,Qae,Qab,LP,Tryd.f29,FT,seval] at hz
  rw[Qai QeE QHd] at hz;rotate_left;rfl;rfl;rfl
  rw[hln] at hz
  generalize hz2:Qar _ _ _ _ _ _ _ _ _ _ _ _=z2 at hz
  rcases Q8A hB hr hk r (by omega) hci L hJ nl cap hn cap2 (cPg (nowP p (3 * r)) nl cap false cap2) (fun _=>rfl) (K+5) _ [] z2 (by exact hz2) (by rfl) (by rfl) (by rfl) (by rfl) (by rfl) (by rfl) (by rfl) (by rfl) with
   ⟨j,l',L',G',rfl,hJ',hj1,hj2,hcj,hci2⟩ | ⟨l',L',nl',cap',cap2',rfl,hJ',hn',hci2,b0,b5,b6,b7,b23⟩
  ·clear hz2
   simp only[FT,seval] at hz
   refine .inl ⟨j,l',L',G',hz.symm,hJ',by omega,hcj,fun i hi=>?_⟩
   by_cases h:i<3 * r
   ·exact hci i h
   ·exact hci2 i (by omega) hi
  ·clear hz2
   have hL':=hB.len _ _ hJ'
   have g0:=fun X=>Qfx hL' X
   have g2:=fun X=>QeC hL' 2 X
   have hcA:=QaV hr (3 * r)
   have hcB:=QaV hr (3 * r+3)
   have cA1:=hcA.code
   have cA2:=hcA.outs
   have hs:=QBb (K+8) (nowP p (3 * r)) (nowP p (3 * r+3)) nl false nl' false cap cap2 cap' cap2' (by obtain ⟨_,_,_,_,_,_,h,_⟩:=QaQ hcA.right;omega) (by obtain ⟨_,_,_,_,_,_,_,_,h,_⟩:=QaQ hcA.right;omega) (by omega)
   have hci3:∀ i,i<3 * r+3→cont i=true:=fun i hi=>by
    by_cases h:i<3 * r
    ·exact hci i h
    ·exact hci2 i (by omega) hi
   have hw:IntKind.wrap .i64 ((r:Int)+1)=((r+1:Nat):Int):=by rw [wrap64 (by omega) (by omega)];omega
   by_cases he:nowP p (3 * r)=nowP p (3 * r+3)
   ·have hTr:rT p=r+1:=by
     by_cases h:r+1<rT p
     ·exact absurd he.symm (hTne (r+1) (by omega) h)
     ·omega
    rw[decide_eq_true he] at hs
    simp only[run,aP,ii,bb] at hs
    simp only[b0,b5,b6,b7,b23,g0,g2,hs,FT,seval] at hz
    unfold ROut
    rw[hTr,show 3 * (r+1)=3 * r+3 by omega]
    exact .inr ⟨_,L',nl',cap',cap2',[cPg (nowP p (3 * r)) nl cap false cap2],hz.symm,.inr rfl,hJ',hci3,b0,b5⟩
   ·rw[decide_eq_false he] at hs
    simp only[run,aP,ii,bb] at hs
    simp only[b0,b5,b6,b7,b23,g0,g2,hs,hw,FT,seval] at hz
    rcases Nat.eq_zero_or_pos d with h0 | hp
    ·subst h0
     have hTr:rT p=r+1:=by omega
     have h16:r+1=16:=by
      rcases hTlast with h | h
      ·omega
      ·rw[hTr,show 3 * (r+1)=3 * r+3 by omega,Nat.add_sub_cancel] at h
       exact absurd h.symm he
     obtain⟨k,rfl⟩:∃ j,k=j+1:=⟨k-1,by omega⟩
     have hln':∀ X,(L'++X).length=m+X.length:=fun X=>by rw [List.length_append,hL']
     have hund':=hB.und _ _ (m+2) hJ' (by omega)
     have hr16':((r+1:Nat):Int)=16:=by omega
     rw[hr16'] at hz
     generalize hl2:((23,AV.c (.int .i64 16))::_:Ass)=l2 at hz
     have d0:asc l2 0=.yld y:=by rw [← hl2];exact b0
     have d5:asc l2 5=.ptr m 0:=by rw [← hl2];exact b5
     have d6:asc l2 6=.hsl (m+1) 0 3 6 2:=by rw [← hl2];exact b6
     have d23:asc l2 23=ii 16:=by rw [← hl2];rfl
     have ht':trim (m+2) (fr 59 (keep l2 [0,5,6,23])) (L'++[cPg (nowP p (3 * r+3)) nl' cap' false cap2',psO,cPg (nowP p (3 * r)) nl cap false cap2])=L'++[cPg (nowP p (3 * r+3)) nl' cap' false cap2',psO]:=by
      rw[show L'++[cPg (nowP p (3 * r+3)) nl' cap' false cap2',psO,cPg (nowP p (3 * r)) nl cap false cap2]=(L'++[cPg (nowP p (3 * r+3)) nl' cap' false cap2',psO])++[cPg (nowP p (3 * r)) nl cap false cap2] by simp]
      exact Qa4 (by rw [hln'];rfl) (by simp only [d0,d5,d6,d23,q0,q1,q2,EVb,EVc,seval]) (by rw [List.all_append,hund'];simp only [EVb,EVc,seval])
     simp only[Qaa,ht'] at hz
     simp only[d0,d5,d6,d23,Int.lt_irrefl,Qaa,Qag,Qae,Qab,LP,Tryd.f29,FT,seval] at hz
     unfold ROut
     rw[hTr,show 3 * (r+1)=3 * r+3 by omega]
     exact .inr ⟨_,L',nl',cap',cap2',[],hz.symm,.inl rfl,hJ',hci3,(by rfl),(by rfl)⟩
    ·exact ih (r+1) L' nl' cap' cap2' k _ [cPg (nowP p (3 * r)) nl cap false cap2] z (by omega) hp (by rw [show 3 * (r+1)=3 * r+3 by omega];exact hJ') (by rw [show 3 * (r+1)=3 * r+3 by omega];exact hn') (by rw [show 3 * (r+1)=3 * r+3 by omega];exact hz) (by omega) (by exact b0) (by exact b5) (by exact b6) (by rfl) (by rw [show 3 * (r+1)=3 * r+3 by omega];exact hci3)
end
end Go.Proofs.Sw
namespace Go.Proofs.Sw
open Go.Ab Go.Proofs.YtiiannaficbjeaaDoor.tab
section
variable {p:Pg} {nl0:Bool} {cap0 cap20:Option Nat} {K y m b:Nat} {J:Nat→Heap→Prop} {cont:Nat→Bool}
theorem Qid (hB:RBody p nl0 cap0 cap20 (K+9) y m b J cont) (hr:Qax p=true) (hk:p.outs.length+p.code.length+3500≤K) (hn0:nl0=true→p.code=[]) (L:Heap) (hJ:J 0 L) :
  ∃ L' j,Qav Tryd.prog (Qac tab) (K+10) (.fn 29) [.yld y,.ptr b 0] L=some (.tup [],L')∧J (j+1) L'∧j≤3 * rT p∧(∀ i,i<j→cont i=true)∧(j=3 * rT p∨cont j=false):=by
 have hL:=hB.len _ _ hJ
 have hbx:=hB.box _ _ hJ
 obtain⟨n1,e1,en1,w1,w2,w3,w4,w5,w6,_,_⟩:=QaQ hr
 have hck:=QdR (K+8) p nl0 cap0 false cap20 (by omega)
 obtain⟨cn,hck⟩:=hck
 rw[QdS,if_pos hr] at hck
 have hcpy:=QAX (K+7) p.ins p.regs p.code p.outs nl0 cap0 cap20 hn0 (by omega) (by omega) (by omega)
 obtain⟨nl3,cap3,hn3,hcpy⟩:=hcpy
 have hln:∀ X,(L++X).length=m+X.length:=fun X=>by rw [List.length_append,hL]
 have s0:=fun o X=>QhD hL o X
 have hbx2:∀ X,(L++X)[b]?=some (cPg p nl0 cap0 false cap20):=fun X=>by rw [List.getElem?_append_left (by rw [hL];exact hB.blt)];exact hbx
 simp only[run,aP,ii] at hck hcpy
 rw[ev29]
 have g0:=fun X=>Qfx hL X
 simp only[Tryd.f29,hbx,hck,hcpy,hL,hln,s0,g0,hbx2,List.append_assoc,ii,FT,seval]
 rw[Qai Q60 QFn];rotate_left;rfl;rfl;rfl
 rw[hln]
 generalize hz:Qar _ _ _ _ _ _ _ _ _ _ _ _=z
 obtain⟨hT1,hT16,_,_⟩:=QcX p
 rcases Q8r hB hr (by omega) (rT p) 0 L nl3 cap3 none (K+9) _ [] z (by omega) (by omega) hJ hn3 (by exact hz) (by omega) (by rfl) (by rfl) (by rfl) (by rfl) (fun i h=>by omega) with
  ⟨j,l',L',G',rfl,hJ',hj,hcj,hci⟩ | ⟨l',L',nl',cap',cap2',M,rfl,hM,hJ',hci,b0,b5⟩
 ·clear hz
  have hL':=hB.len _ _ hJ'
  have hund':=hB.und _ _ m hJ' (Nat.le_refl _)
  have htk:∀ X,(L'++X).take m=L':=fun X=>by rw [← hL',List.take_left]
  refine⟨L',j, ?_,hJ',by omega,hci,.inr hcj⟩
  simp only[htk,hund',FT,seval]
 ·clear hz
  have hcq:=QaV hr (3 * rT p)
  have hlc:=hcq.code
  have hlo:=hcq.outs
  have hyl:ylP p (3 * rT p)=Qbo (nowP p (3 * rT p)):=by unfold ylP;rw [if_neg (by omega)]
  have hnm:nmP p (3 * rT p)=sPack:=by unfold nmP;rw [if_neg (by omega)]
  obtain⟨V,rows,hV,hcp⟩:=Q7F (K+6) (nowP p (3 * rT p)) nl' cap' cap2' hcq.right (by omega)
  have hcp':=hcp
  match M,hM with
  | [],_ =>
   have hL':=hB.len _ _ hJ'
   have hund':=hB.und _ _ m hJ' (Nat.le_refl _)
   have k0:=fun X=>Qfx hL' X
   have t0:=fun o X=>QhD hL' o X
   have hln':∀ X,(L'++X).length=m+X.length:=fun X=>by rw [List.length_append,hL']
   rcases hV (m+2) with ⟨hVe,hro⟩ | ⟨hC0,hVe,hro⟩
   ·obtain⟨L2,G2,hbd,hJ2⟩:=hB.body (3 * rT p) L' (.cells 25 [ii (Qbo (nowP p (3 * rT p))).ins,ii (Qbo (nowP p (3 * rT p))).regs,.hsl (m+2) 0 (Qbo (nowP p (3 * rT p))).code.length ((Qbo (nowP p (3 * rT p))).code.length * 5) 5,.hsl (m+2+1) 0 (Qbo (nowP p (3 * rT p))).outs.length (Qbo (nowP p (3 * rT p))).outs.length 1]::psO::[]) _ _ (Nat.le_refl _) hJ' hci (by simp) (by rw [hyl];exact .inl ⟨rfl,rfl⟩)
    have hL2:=hB.len _ _ hJ2
    have hund2:=hB.und _ _ m hJ2 (Nat.le_refl _)
    have htk2:∀ X,(L2++X).take m=L2:=fun X=>by rw [← hL2,List.take_left]
    refine⟨L2,3 * rT p, ?_,hJ2,Nat.le_refl _,hci,.inl rfl⟩
    rw[hnm] at hbd
    simp only[List.cons_append,List.nil_append,List.length_cons,List.length_nil,Nat.reduceAdd] at hbd
    simp only[aP,ii] at hcp' hbd hVe
    simp only[b0,b5,k0,t0,hln',hcp',hVe,hro,hbd,Qb8,List.append_assoc,htk2,hund2,FT,seval]
   ·obtain⟨L2,G2,hbd,hJ2⟩:=hB.body (3 * rT p) L' (.cells 25 [ii (Qbo (nowP p (3 * rT p))).ins,ii (Qbo (nowP p (3 * rT p))).regs,.c (.slice [] 0 true (some 0)),.hsl (m+2) 0 (Qbo (nowP p (3 * rT p))).outs.length (Qbo (nowP p (3 * rT p))).outs.length 1]::psO::[]) _ _ (Nat.le_refl _) hJ' hci (by simp) (by rw [hyl];exact .inr ⟨hC0,rfl,rfl⟩)
    have hL2:=hB.len _ _ hJ2
    have hund2:=hB.und _ _ m hJ2 (Nat.le_refl _)
    have htk2:∀ X,(L2++X).take m=L2:=fun X=>by rw [← hL2,List.take_left]
    refine⟨L2,3 * rT p, ?_,hJ2,Nat.le_refl _,hci,.inl rfl⟩
    rw[hnm] at hbd
    simp only[List.cons_append,List.nil_append,List.length_cons,List.length_nil,Nat.reduceAdd] at hbd
    simp only[aP,ii] at hcp' hbd hVe
    simp only[b0,b5,k0,t0,hln',hcp',hVe,hro,hbd,Qb8,List.append_assoc,htk2,hund2,FT,seval]
  | [c7],_ =>
   have hL':=hB.len _ _ hJ'
   have hund':=hB.und _ _ m hJ' (Nat.le_refl _)
   have k0:=fun X=>Qfx hL' X
   have t0:=fun o X=>QhD hL' o X
   have hln':∀ X,(L'++X).length=m+X.length:=fun X=>by rw [List.length_append,hL']
   rcases hV (m+3) with ⟨hVe,hro⟩ | ⟨hC0,hVe,hro⟩
   ·obtain⟨L2,G2,hbd,hJ2⟩:=hB.body (3 * rT p) L' (.cells 25 [ii (Qbo (nowP p (3 * rT p))).ins,ii (Qbo (nowP p (3 * rT p))).regs,.hsl (m+3) 0 (Qbo (nowP p (3 * rT p))).code.length ((Qbo (nowP p (3 * rT p))).code.length * 5) 5,.hsl (m+3+1) 0 (Qbo (nowP p (3 * rT p))).outs.length (Qbo (nowP p (3 * rT p))).outs.length 1]::psO::[c7]) _ _ (Nat.le_refl _) hJ' hci (by simp) (by rw [hyl];exact .inl ⟨rfl,rfl⟩)
    have hL2:=hB.len _ _ hJ2
    have hund2:=hB.und _ _ m hJ2 (Nat.le_refl _)
    have htk2:∀ X,(L2++X).take m=L2:=fun X=>by rw [← hL2,List.take_left]
    refine⟨L2,3 * rT p, ?_,hJ2,Nat.le_refl _,hci,.inl rfl⟩
    rw[hnm] at hbd
    simp only[List.cons_append,List.nil_append,List.length_cons,List.length_nil,Nat.reduceAdd] at hbd
    simp only[aP,ii] at hcp' hbd hVe
    simp only[b0,b5,k0,t0,hln',hcp',hVe,hro,hbd,Qb8,List.append_assoc,htk2,hund2,FT,seval]
   ·obtain⟨L2,G2,hbd,hJ2⟩:=hB.body (3 * rT p) L' (.cells 25 [ii (Qbo (nowP p (3 * rT p))).ins,ii (Qbo (nowP p (3 * rT p))).regs,.c (.slice [] 0 true (some 0)),.hsl (m+3) 0 (Qbo (nowP p (3 * rT p))).outs.length (Qbo (nowP p (3 * rT p))).outs.length 1]::psO::[c7]) _ _ (Nat.le_refl _) hJ' hci (by simp) (by rw [hyl];exact .inr ⟨hC0,rfl,rfl⟩)
    have hL2:=hB.len _ _ hJ2
    have hund2:=hB.und _ _ m hJ2 (Nat.le_refl _)
    have htk2:∀ X,(L2++X).take m=L2:=fun X=>by rw [← hL2,List.take_left]
    refine⟨L2,3 * rT p, ?_,hJ2,Nat.le_refl _,hci,.inl rfl⟩
    rw[hnm] at hbd
    simp only[List.cons_append,List.nil_append,List.length_cons,List.length_nil,Nat.reduceAdd] at hbd
    simp only[aP,ii] at hcp' hbd hVe
    simp only[b0,b5,k0,t0,hln',hcp',hVe,hro,hbd,Qb8,List.append_assoc,htk2,hund2,FT,seval]
end
end Go.Proofs.Sw
