/- A part of the proof: what functions of the program answer; conditions stand in each theorem. -/
import Derived.Test.YtiiannaficbjeaaDoorVC
import Derived.Test.YtiiannaficbjeaaDoorVA
import Derived.Test.YtiiannaficbjeaaDoorVB
set_option linter.unusedVariables false
set_option linter.unusedSimpArgs false
set_option linter.unusedSectionVars false
namespace Go.Proofs.Sw
open Go.Ab
variable [Globals]
def untO (held:List Int) (N:Int) (unt:List Int):List Int→List Int
 | []=>unt
 | r::rs=>untO held N (unt.set (held.getD r.toNat 0).toNat N) rs
theorem Qe8 (held:List Int) (N:Int):∀ (rs unt:List Int),(untO held N unt rs).length=unt.length
 | [],_=>rfl
 | r::rs,unt=>by rw [untO,Qe8 held N rs];simp
theorem Qul (held:List Int) (N:Int) (r:Int):∀ (rs unt:List Int),untO held N unt (rs++[r])=(untO held N unt rs).set (held.getD r.toNat 0).toNat N
 | [],_=>rfl
 | x::rs,unt=>by rw [List.cons_append,untO,Qul held N r rs];rfl
def Qfr (held outs:List Int):List Int:=outs.map fun r=>held.getD r.toNat 0
theorem QiA (held outs:List Int):(Qfr held outs).length=outs.length:=by simp [Qfr]
theorem Q5Y {held outs:List Int} {i:Nat} (h:i<outs.length):Qfr held (outs.take (i+1))=Qfr held (outs.take i)++[held.getD outs[i].toNat 0]:=by
 rw[List.take_succ_eq_append_getElem h,Qfr,Qfr,List.map_append];rfl
theorem Quc (kf:Nat) (x0 x1 x2 x3:IV) (y0 y1 y2 y3 y4:IV) (n c:Nat) (N:Int) (c3 c4 c5:List IV) (q:Lv) (outs:List Int) (nl:Bool) (cap:Option Nat) (hq:LvOk q n c) (hr:∀ r ∈ outs,0≤r∧r<(n:Int)) (hlen:outs.length≤20000) (k:Nat) (l:Ass) (z:Option Out) (hz:Qar Tryd.prog tab kf none QqZ 33 203 [6,7,8,172,173,174] 8 k l ([rI (untO q.held N q.unt (outs.take 0)),lo 3 0 (Qal (Qfr q.held (outs.take 0))),.row false 3 c3,.row false 3 c4,.row false 3 c5,.cells 25 [.c x0,.c x1,.c x2,.c x3],.cells 78 [.c y0,.c y1,.c y2,.c y3,.c y4,hI 2 c,hI 3 c,hI 4 c,lv 1 1 0,hI 0 q.unt.length],rI q.held])=z) (hk:outs.length<k) (a6:asc l 6=ii N) (a7:asc l 7=.ptr 6 0) (a8:asc l 8=hI 7 n) (a172:asc l 172=sI outs nl cap) (a173:asc l 173=ii outs.length) (a174:asc l 174=ii 0) :
  ∃ l',z=some (.exit 6 (fr 203 l') ([rI (untO q.held N q.unt (outs.take outs.length)),lo 3 outs.length (Qal (Qfr q.held (outs.take outs.length))),.row false 3 c3,.row false 3 c4,.row false 3 c5,.cells 25 [.c x0,.c x1,.c x2,.c x3],.cells 78 [.c y0,.c y1,.c y2,.c y3,.c y4,hI 2 c,hI 3 c,hI 4 c,lv 1 1 outs.length,hI 0 q.unt.length],rI q.held]))∧asc l' 6=ii N∧asc l' 7=.ptr 6 0∧asc l' 8=hI 7 n∧asc l' 172=sI outs nl cap∧asc l' 173=ii outs.length∧asc l' 174=ii outs.length:=by
 subst hz
 refine Qa1 outs.length (fun k l H=>Qar Tryd.prog tab kf none QqZ 33 203 [6,7,8,172,173,174] 8 k l H)
  (fun i l H=>asc l 6=ii N∧asc l 7=.ptr 6 0∧asc l 8=hI 7 n∧asc l 172=sI outs nl cap∧asc l 173=ii outs.length∧asc l 174=ii i∧∃ G,H=([rI (untO q.held N q.unt (outs.take i)),lo 3 i (Qal (Qfr q.held (outs.take i))),.row false 3 c3,.row false 3 c4,.row false 3 c5,.cells 25 [.c x0,.c x1,.c x2,.c x3],.cells 78 [.c y0,.c y1,.c y2,.c y3,.c y4,hI 2 c,hI 3 c,hI 4 c,lv 1 1 i,hI 0 q.unt.length],rI q.held])++G)
  (fun z=>∃ l',z=some (.exit 6 (fr 203 l') ([rI (untO q.held N q.unt (outs.take outs.length)),lo 3 outs.length (Qal (Qfr q.held (outs.take outs.length))),.row false 3 c3,.row false 3 c4,.row false 3 c5,.cells 25 [.c x0,.c x1,.c x2,.c x3],.cells 78 [.c y0,.c y1,.c y2,.c y3,.c y4,hI 2 c,hI 3 c,hI 4 c,lv 1 1 outs.length,hI 0 q.unt.length],rI q.held]))∧asc l' 6=ii N∧asc l' 7=.ptr 6 0∧asc l' 8=hI 7 n∧asc l' 172=sI outs nl cap∧asc l' 173=ii outs.length∧asc l' 174=ii outs.length) ?_ outs.length 0 k l _ (by omega) hk ⟨a6,a7,a8,a172,a173,a174,[],by rw [List.append_nil]⟩
 clear hk a6 a7 a8 a172 a173 a174
 rintro i k l H hi ⟨a6,a7,a8,a172,a173,a174,G,rfl⟩
 have ht:trim 8 (fr 203 (keep l [6,7,8,172,173,174])) (([rI (untO q.held N q.unt (outs.take i)),lo 3 i (Qal (Qfr q.held (outs.take i))),.row false 3 c3,.row false 3 c4,.row false 3 c5,.cells 25 [.c x0,.c x1,.c x2,.c x3],.cells 78 [.c y0,.c y1,.c y2,.c y3,.c y4,hI 2 c,hI 3 c,hI 4 c,lv 1 1 i,hI 0 q.unt.length],rI q.held])++G)=([rI (untO q.held N q.unt (outs.take i)),lo 3 i (Qal (Qfr q.held (outs.take i))),.row false 3 c3,.row false 3 c4,.row false 3 c5,.cells 25 [.c x0,.c x1,.c x2,.c x3],.cells 78 [.c y0,.c y1,.c y2,.c y3,.c y4,hI 2 c,hI 3 c,hI 4 c,lv 1 1 i,hI 0 q.unt.length],rI q.held]):=Qa4 (by simp) (by simp only [a6,a7,a8,a172,a173,a174,EVb,EVc,seval]) (by simp only [EVb,EVc,seval])
 by_cases hc:i<outs.length
 ·have hc':(i:Int)<((outs.length:Nat):Int):=by omega
  have hc0:(0:Int)≤i:=by omega
  have hw:IntKind.wrap .i64 ((i:Int)+1)=((i+1:Nat):Int):=by rw [wrap64 (by omega) (by omega)];omega
  have hx:=QaT hc
  have hlen2:(Qfr q.held (outs.take i)).length=i:=by rw [QiA,List.length_take];omega
  have hap:=fun x0 X cs=>Qgq (e:=3) (s:=1) (n:=i) (m:=1) (sz:=1) (by_:=8) (cells:=Qal (Qfr q.held (outs.take i))) (cs:=cs) (H:=x0::lo 3 i (Qal (Qfr q.held (outs.take i)))::X) (by decide) (Nat.le_trans (Nat.mul_le_mul_right 8 (show i+1≤20001 by omega)) (by decide)) (by decide) rfl (by rw [Qaj,hlen2,Nat.mul_one])
  obtain⟨r,hR⟩:∃ r,r=outs[i]:=⟨_,rfl⟩
  obtain⟨r0,r1⟩:=hr r (by rw [hR];exact List.getElem_mem hc)
  have hnx:=Q5Y (held:=q.held) hc
  have hny:untO q.held N q.unt (outs.take (i+1))=(untO q.held N q.unt (outs.take i)).set (q.held.getD r.toNat 0).toNat N:=by rw [List.take_succ_eq_append_getElem hc,Qul,hR]
  rw[← hR] at hx hnx
  have hul:=Qe8 q.held N (outs.take i) q.unt
  obtain⟨U,hU⟩:∃ U,U=untO q.held N q.unt (outs.take i):=⟨_,rfl⟩
  rw[← hU] at hul hny ht ⊢
  have hel:=Qaj q.held
  have hhl:=hq.held
  have heu:=Qaj U
  have hxr:=QaL r0 (show r<q.held.length by omega)
  obtain⟨v,hv⟩:∃ v,v=q.held.getD r.toNat 0:=⟨_,rfl⟩
  obtain⟨v0,v1⟩:=hq.vals v (by rw [hv];exact QfG (by omega))
  rw[← hv] at hxr hnx hny
  have hv2:v.toNat<q.unt.length:=by omega
  rw[hnx,hny]
  simp only[Qaa,ht]
  simp only[a6,a7,a8,a172,a173,a174,hc',hc0,hw,hx,Qaa,Qag,Qae,Qab,LP,Tryd.f33,FT,seval]
  rw[Qaf Tryd.f33 30 QDw];rotate_left;rfl
  simp only[a6,a7,a8,a172,a173,a174,hc',hc0,hw,hx,hxr,hel,hhl,r0,r1,hap,EVd,List.getElem?_nil,Nat.reducePow,Nat.reduceDiv,Nat.reduceMod,FT,seval]
  rw[Qaf Tryd.f33 31 QEx];rotate_left;rfl
  simp only[a6,a7,a8,a172,a173,a174,hc',hc0,hw,hx,hxr,hel,hhl,heu,hul,r0,r1,v0,v1,hv2,QbK,EVd,List.getElem?_nil,Nat.reducePow,Nat.reduceDiv,Nat.reduceMod,FT,seval]
  refine .inr ⟨_,_,hc,rfl,(by rfl),(by rfl),(by rfl),(by rfl),(by rfl),(by rfl), ?_⟩
  simp only[rI,QbL]
  exact⟨_,by rfl⟩
 ·refine .inl ?_
  obtain rfl:i=outs.length:=by omega
  have hc':¬ (((outs.length:Nat):Int)<((outs.length:Nat):Int)):=by omega
  simp only[Qaa,ht]
  simp only[a6,a7,a8,a172,a173,a174,hc',Qaa,Qag,Qae,Qab,LP,Tryd.f33,FT,seval]
  exact⟨_,rfl,(by rfl),(by rfl),(by rfl),(by rfl),(by rfl),(by rfl)⟩
def Qbd (ins:Int) (n c:Nat):Lv:=⟨Qbs ins n,List.replicate c 0,List.replicate c 0,List.replicate c 0,List.replicate (ins.toNat+1) (-1)⟩
theorem QfM {ins:Int} {n c:Nat} (h:0≤ins):LvOk (Qbd ins n c) n c:=by
 refine⟨Qbk _ _,by simp [Qbd],by simp [Qbd],by simp [Qbd],by simp [Qbd],fun v hv=>?_⟩
 simp only[Qbd,Qbs,List.mem_map,List.length_replicate] at hv ⊢
 obtain⟨r,_,rfl⟩:=hv
 split<;>omega
def QbU (p:Pg):Lv:=lvAt (Qbd p.ins p.regs.toNat p.code.length) (QaB p) p.code p.code.length
def untM (p:Pg):List Int:=untO (QbU p).held p.code.length (QbU p).unt p.outs
def QyO (p:Pg):List Int:=Qfr (QbU p).held p.outs
theorem Qig (a:List Bool) (c:List Ins):(QaP a c).2.length=c.length:=(Qbn a c).2
theorem bd128 (a b c d e:IV) (i1 n1 m1 s1 i2 n2 m2 s2 i3 n3 m3 s3:Nat):QbD Tryd.prog 78 [(0,.agg [.c a,.c b,.c c,.c d]),(1,.c e),(2,.hsl i1 0 n1 m1 s1),(3,.hsl i2 0 n2 m2 s2),(4,.hsl i3 0 n3 m3 s3)]=some (.agg [.c a,.c b,.c c,.c d,.c e,.hsl i1 0 n1 m1 s1,.hsl i2 0 n2 m2 s2,.hsl i3 0 n3 m3 s3,.c (.slice [] 0 true (some 0)),.c (.slice [] 0 true (some 0))]):=by kernel_rfl
theorem QAz (k:Nat) (ins:Int) (n:Nat) (code:List Ins) (outs:List Int) (nl:Bool) (cap:Option Nat) (nl2:Bool) (cap2:Option Nat) (hk:outs.length+code.length+400≤k) (hr:Qax ⟨ins,n,code,outs⟩=true) :
  ∃ X,Qav Tryd.prog (Qac tab) (k+2) (.fn 33) [aP ⟨ins,n,code,outs⟩ nl cap nl2 cap2] [] =
   some (.tup [.ptr 6 0,ii 0],[rI (untM ⟨ins,n,code,outs⟩),rI (QyO ⟨ins,n,code,outs⟩),rI (QbU ⟨ins,n,code,outs⟩).a,rI (QbU ⟨ins,n,code,outs⟩).b,rI (QbU ⟨ins,n,code,outs⟩).sets,X,
    .cells 78 [ii ins,ii n,sC code nl cap,sI outs nl2 cap2,sB (QaB ⟨ins,n,code,outs⟩) false none,hI 2 code.length,hI 3 code.length,hI 4 code.length,hI 1 outs.length,hI 0 (QbU ⟨ins,n,code,outs⟩).unt.length],rI (QbU ⟨ins,n,code,outs⟩).held]):=by
 have hN:=Q7f k n ins code outs nl cap nl2 cap2 (by omega) hr
 have hr':=hr
 simp only[Qax,Qdh,Bool.and_eq_true,decide_eq_true_eq] at hr'
 obtain⟨⟨hh,ho⟩,hc⟩:=hr'
 have hout:∀ r ∈ outs,0≤r∧r<(n:Int):=fun r h=>by have:=List.all_eq_true.1 ho r h;simpa using this
 have hcode:∀ i ∈ code,mayM i n=true:=fun i h=>List.all_eq_true.1 hc i h
 have q1:(0:Int)≤n:=by omega
 have q2:n≤roomBytes:=Nat.le_trans (show n≤128 by omega) (by decide)
 have q3:(0:Int)≤code.length:=by omega
 have q4:code.length≤roomBytes:=Nat.le_trans (show code.length≤1000000 by omega) (by decide)
 have q5:code.length * 8≤roomBytes:=Nat.le_trans (show code.length * 8≤1000000 by omega) (by decide)
 have q6:n * 8≤roomBytes:=Nat.le_trans (show n * 8≤1000000 by omega) (by decide)
 obtain⟨g,rfl⟩:∃ g:Nat,ins=g:=⟨ins.toNat,by omega⟩
 have hw:IntKind.wrap .i64 ((g:Int)+1)=((g+1:Nat):Int):=by rw [wrap64 (by omega) (by omega)];omega
 simp only[run,aP,ii,sB] at hN
 rw[ev33]
 simp only[Tryd.f33,aP,ii,hN,FT,seval]
 rw[Qaf Tryd.f33 5 QGP];rotate_left;rfl
 simp only[q1,q2,q3,q4,q5,q6,Qyh,bd128,EVd,List.getElem?_nil,Nat.reducePow,Nat.reduceDiv,Nat.reduceMod,FT,seval]
 rw[Qai Q20 QHR];rotate_left;rfl;rfl;rfl
 generalize hz:Qar _ _ _ _ _ _ _ _ _ _ _ _=z
 rw[show List.replicate n (0:Int)=Qbs g 0++List.replicate (n-0) 0 from by simp [Qbs]] at hz
 obtain⟨l1,rfl,e1,e4,e6,e7,e8,_,_⟩:=Qzg k g _ _ _ (QaB ⟨(g:Int),n,code,outs⟩) _ _ _ _ (by simp only [FT,seval]) _ n (by omega) _ _ z hz (by omega) (by rfl) (by rfl) (by rfl) (by rfl) (by rfl) (by rfl) (by rfl)
 clear hz
 simp only[e1,e4,e6,e7,e8,hw,FT,seval]
 rw[Qai QrF QEq];rotate_left;rfl;rfl;rfl
 generalize hz:Qar _ _ _ _ _ _ _ _ _ _ _ _=z
 obtain⟨l2,rfl,f1,f4,f6,f7,f8,_,_⟩:=Qu2 (k+1) _ _ _ _ (QaB ⟨(g:Int),n,code,outs⟩) _ _ _ _ _ _ _ _ _ _ n code.length (g+1) (by omega) _ _ z hz (by omega) e1 e4 e6 e7 e8 (by rfl) (by rfl)
 clear hz
 obtain⟨q0,hq0⟩:∃ q0,q0=Qbd g n code.length:=⟨_,rfl⟩
 have d1:lo 3 (g+1) (Qal (List.replicate (g+1) (-1)))=rI q0.unt:=by rw [Qcm (by omega),hq0];rfl
 have d2:lv 0 1 (g+1)=hI 0 q0.unt.length:=by rw [Qct (by omega),hq0];simp [Qbd]
 have d3:List.replicate code.length 0=q0.a:=by rw [hq0];rfl
 have d4:q0.b=q0.a:=by rw [hq0];rfl
 have d5:q0.sets=q0.a:=by rw [hq0];rfl
 have d6:Qbs (g:Int) n++List.replicate (n-n) 0=q0.held:=by rw [hq0,Nat.sub_self];simp [Qbd]
 simp only[f1,f4,f6,f7,f8,d1,d2,d3,d6,FT,seval]
 rw[Qai QqS QDD];rotate_left;rfl;rfl;rfl
 generalize hz:Qar _ _ _ _ _ _ _ _ _ _ _ _=z
 have hok0:LvOk q0 n code.length:=by rw [hq0];exact QfM (by omega)
 have hul0:q0.unt.length≤1000:=by rw [hq0];simp [Qbd];omega
 clear d1 d2 d3 d4 d5 d6
 subst hq0
 obtain⟨l3,rfl,g1,g4,g6,g7,g8,_,_,_⟩:=QuM k _ _ _ _ _ _ _ _ _ n (QaB ⟨(g:Int),n,code,outs⟩) (Qbd g n code.length) code (Qig _ _) nl cap hok0 hul0 hcode (by omega) _ _ z hz (by omega) f1 f4 f6 f7 f8 (by rfl) (by rfl) (by rfl)
 clear hz
 obtain⟨q,hq⟩:∃ q,q=QbU ⟨(g:Int),n,code,outs⟩:=⟨_,rfl⟩
 have hqe:lvAt (Qbd g n code.length) (QaB ⟨(g:Int),n,code,outs⟩) code code.length=q:=by rw [hq];rfl
 have hok:LvOk q n code.length:=by rw [← hqe];exact (Qg3 hok0 _).1
 simp only[hqe,g1,g6,g7,g8,FT,seval]
 rw[Qai QqZ QDS];rotate_left;rfl;rfl;rfl
 generalize hz:Qar _ _ _ _ _ _ _ _ _ _ _ _=z
 obtain⟨l4,rfl,_,k7,_,_,_,_⟩:=Quc (k+1) _ _ _ _ _ _ _ _ _ n code.length code.length _ _ _ q outs nl2 cap2 hok hout (by omega) _ _ z hz (by omega) g6 g7 g8 (by rfl) (by rfl) (by rfl)
 clear hz
 have hop:0<outs.length:=by omega
 simp only[k7,List.take_length,Qcm (e:=3) hop,Qct (s:=1) (sz:=1) hop,FT,seval]
 simp only[untM,QyO,← hq]
 exact⟨_,by rfl⟩
abbrev entsI (ps:List (Int × Int)):List (AV × AV):=ps.map fun e=>(ii e.1,ii e.2)
def Qcj (k:Int):List (Int × Int)→Option (Nat × Int)
 | []=>none
 | e::es=>if k=e.1 then some (0,e.2) else (Qcj k es).map fun p=>(p.1+1,p.2)
def atI (ps:List (Int × Int)) (v:Int):Int:=match Qcj v ps with | some p=>p.2 | none=>0
theorem QET (a b:Int):Qh3 Tryd.prog 3 (.c (.int .i64 a)) (.c (.int .i64 b))=some (a == b):=by kernel_rfl
theorem QAm (a:Int):QdU Tryd.prog 3 (.c (.int .i64 a))=true:=by kernel_rfl
theorem QDL:mapT Tryd.prog 72=some (3,3):=by kernel_rfl
theorem QDf:zeroV Tryd.prog 3=some (ii 0):=by kernel_rfl
theorem QqX (k:Int):∀ es:List (Int × Int),QhJ Tryd.prog 3 (ii k) (entsI es)=some ((Qcj k es).map fun p=>(p.1,ii p.2))
 | []=>rfl
 | e::es=>by
  rw[entsI,List.map_cons,QhJ,QET,Option.bind_some]
  by_cases h:k=e.1
  ·simp[Qcj,h]
  ·rw[beq_false_of_ne h,if_neg (by simp),show (es.map fun e=>(ii e.1,ii e.2))=entsI es from rfl,QqX k es,Qcj,if_neg h]
   cases Qcj k es<;>rfl
theorem Qo0 (es:List (Int × Int)) (k v:Int):entsI es++[(ii k,ii v)]=entsI (es++[(k,v)]):=by simp [entsI]
theorem QrQ {H:Heap} {id:Nat} {es:List (Int × Int)} {k v:Int} (h:H[id]?=some (.map 72 (entsI es))) (hl:Qcj k es=none) :
  Qd2 Tryd.prog H 72 (.hmap id) (ii k) (ii v)=some (H.set id (.map 72 (entsI (es++[(k,v)])))):=by
 unfold Qd2
 rw[QDL,Option.bind_some,if_pos (QAm _)]
 simp only[h,QqX,hl,Option.map_none,Option.map_some,Qo0]
theorem Q68 {H:Heap} {id:Nat} {es:List (Int × Int)} {k:Int} (h:H[id]?=some (.map 72 (entsI es))) :
  QbJ Tryd.prog H 72 (.hmap id) (ii k) false=some (ii (atI es k)):=by
 unfold QbJ
 rw[QDL,Option.bind_some,if_pos (QAm _)]
 simp only[h,Option.bind_some,QqX,atI]
 cases Qcj k es<;>simp [QDf]
theorem Q4X {H:Heap} {id:Nat} {es:List (Int × Int)} {k:Int} (h:H[id]?=some (.map 72 (entsI es))) (hl:Qcj k es=none) :
  Qc4 Tryd.prog H 72 (.hmap id) (ii k)=some (.tup [ii 0,ii es.length],H.set id (.map 72 (entsI (es++[(k,0)])))):=by
 unfold Qc4
 rw[QDL,Option.bind_some,if_pos (QAm _)]
 simp only[h,QqX,hl,Option.map_none,Option.bind_some,QDf,Option.map_some,Qo0,entsI,List.length_map]
theorem Q5Q {H:Heap} {id:Nat} {es:List (Int × Int)} {k x:Int} (h:H[id]?=some (.map 72 (entsI (es++[(k,0)])))) :
  Qb9 H (.hmap id) (ii es.length) (ii x)=some (H.set id (.map 72 (entsI (es++[(k,x)])))):=by
 unfold Qb9
 simp only[h]
 rw[if_pos (by omega),Int.toNat_natCast]
 simp[entsI]
theorem QaY (m:Nat) (es:List (Int × Int)):((entsI es).all fun e=>AV.under m e.1&&AV.under m e.2)=true:=by
 induction es with
 | nil=>rfl
 | cons e es ih=>rw [entsI,List.map_cons,List.all_cons,ih];rfl
theorem Qet:∀ es:List (Int × Int),Qi7 (entsI es)=[]
 | []=>rfl
 | e::es=>by rw [entsI,List.map_cons,Qi7,show es.map (fun e=>(ii e.1,ii e.2))=entsI es from rfl,Qet es];rfl
theorem Qev (ρ:Nat→Option Nat):∀ es:List (Int × Int),QmN ρ (entsI es)=some (entsI es)
 | []=>rfl
 | e::es=>by rw [entsI,List.map_cons,QmN,show es.map (fun e=>(ii e.1,ii e.2))=entsI es from rfl,Qev ρ es];rfl
theorem Qg0 (a b:List Bool):encB (a++b)=encB a++encB b:=by simp [encB]
theorem QDm {l:List Bool} {s:Nat} {H:Heap} {cs:List IV} (hH:H[s]?=some (lo 4 l.length (encB l))) (hb:l.length≤1000000) :
  apO 4 1 1 (some s) (lv s 1 l.length) H (some (cs,1))=some (lv s 1 (l.length+1),H.set s (lo 4 (l.length+1) (encB l++cs))) :=
 Qgq (by decide) (Nat.le_trans (Nat.mul_le_mul_right 1 (show l.length+1≤1000001 by omega)) (by decide)) (by decide) hH (by rw [QaM,Nat.mul_one])
theorem QE9 (k:Nat) (ps:List (Int × Int)) (fl:List Bool) (v u:Int) (hf:fl=[]) (hl:Qcj v ps=none) (hn:fl.length≤100000) :
  ∃ G,Qav Tryd.prog (Qac tab) (k+1) (.fn 34) [.ptr 0 0,ii v,ii u] [.cells 75 [.hmap 1,lv 2 1 fl.length],.map 72 (entsI ps)] =
   some (.tup [],.cells 75 [.hmap 1,hI 2 (fl.length+1)] :: .map 72 (entsI (ps++[(v,(fl.length:Int))]))::rB (fl++[decide (u<0)])::G):=by
 have hH:[.cells 75 [.hmap 1,lv 2 1 fl.length],.map 72 (entsI ps)]++[.slot]=[.cells 75 [.hmap 1,lv 2 1 fl.length],.map 72 (entsI ps),lo 4 fl.length (encB fl)]:=by
  first
  | (subst hf;rfl)
  | (rw [Qcm (List.length_pos_iff.2 hf)];rfl)
 have hu:=fun x0 X w=>QrQ (H:=x0 :: .map 72 (entsI ps)::X) (id:=1) (v:=w) rfl hl
 have hap:=fun x0 x1 X cs=>QDm (l:=fl) (s:=2) (H:=x0::x1::lo 4 fl.length (encB fl)::X) (cs:=cs) rfl (by omega)
 rw[ev34,hH]
 simp only[Tryd.f34,ii,FT,seval]
 rw[Qaf Tryd.f34 0 QC9];rotate_left;rfl
 simp only[hu,hap,QaY,Qct (s:=2) (sz:=1) (Nat.succ_pos fl.length),Qcm (e:=4) (Nat.succ_pos fl.length),EVd,List.getElem?_nil,Nat.reducePow,Nat.reduceDiv,Nat.reduceMod,FT,seval]
 exact⟨_,by simp only [rB,Qg0];rfl⟩
theorem Q7E (k:Nat) (ps:List (Int × Int)) (fl:List Bool) (v u:Int) (hf:fl≠[]) (hl:Qcj v ps=none) (hn:fl.length≤100000) :
  ∃ G,Qav Tryd.prog (Qac tab) (k+1) (.fn 34) [.ptr 0 0,ii v,ii u] [.cells 75 [.hmap 1,lv 2 1 fl.length],.map 72 (entsI ps),rB fl] =
   some (.tup [],.cells 75 [.hmap 1,hI 2 (fl.length+1)] :: .map 72 (entsI (ps++[(v,(fl.length:Int))]))::rB (fl++[decide (u<0)])::G):=by
 have hH:[.cells 75 [.hmap 1,lv 2 1 fl.length],.map 72 (entsI ps),rB fl]++[.slot]=[.cells 75 [.hmap 1,lv 2 1 fl.length],.map 72 (entsI ps),lo 4 fl.length (encB fl),.slot]:=by
  first
  | (subst hf;rfl)
  | (rw [Qcm (List.length_pos_iff.2 hf)];rfl)
 have hu:=fun x0 X w=>QrQ (H:=x0 :: .map 72 (entsI ps)::X) (id:=1) (v:=w) rfl hl
 have hap:=fun x0 x1 X cs=>QDm (l:=fl) (s:=2) (H:=x0::x1::lo 4 fl.length (encB fl)::X) (cs:=cs) rfl (by omega)
 rw[ev34,hH]
 simp only[Tryd.f34,ii,FT,seval]
 rw[Qaf Tryd.f34 0 QC9];rotate_left;rfl
 simp only[hu,hap,QaY,Qct (s:=2) (sz:=1) (Nat.succ_pos fl.length),Qcm (e:=4) (Nat.succ_pos fl.length),EVd,List.getElem?_nil,Nat.reducePow,Nat.reduceDiv,Nat.reduceMod,FT,seval]
 exact⟨_,by simp only [rB,Qg0];rfl⟩
def Qbe (fl:List Bool):Nat:=fl.findIdx id
def Qie (fl:List Bool):List Bool:=if Qbe fl<fl.length then fl.set (Qbe fl) false else fl++[false]
theorem Qeh (fl:List Bool):Qbe fl≤fl.length:=List.findIdx_le_length
theorem Q7d (kf:Nat) (ps:List (Int × Int)) (fl:List Bool) (v:Int) (hl:Qcj v ps=none) (hn:fl.length≤100000) (k:Nat) (l:Ass) (z:Option Out) (hz:Qar Tryd.prog tab kf none Q12 36 60 [0,1,10,11,12] 3 k l ([.cells 75 [.hmap 1,hI 2 fl.length],.map 72 (entsI ps),rB fl])=z) (hk:fl.length<k) (a0:asc l 0=.ptr 0 0) (a1:asc l 1=ii v) (a10:asc l 10=hI 2 fl.length) (a11:asc l 11=ii fl.length) (a12:asc l 12=ii 0) :
  ∃ l',(z=some (.exit 0 (fr 60 l') [.cells 75 [.hmap 1,hI 2 fl.length],.map 72 (entsI ps),rB fl])∧asc l' 0=.ptr 0 0∧asc l' 1=ii v∧fl.findIdx id=fl.length)∨(z=some (.ret (fr 60 l') [.cells 75 [.hmap 1,hI 2 fl.length],.map 72 (entsI (ps++[(v,(fl.findIdx id:Int))])),rB (fl.set (fl.findIdx id) false)])∧asc l' 4=ii (fl.findIdx id)∧fl.findIdx id<fl.length):=by
 subst hz
 refine Qa1 fl.length (fun k l H=>Qar Tryd.prog tab kf none Q12 36 60 [0,1,10,11,12] 3 k l H)
  (fun i l H=>asc l 0=.ptr 0 0∧asc l 1=ii v∧asc l 10=hI 2 fl.length∧asc l 11=ii fl.length∧asc l 12=ii i∧(fl.findIdx id=i+(fl.drop i).findIdx id)∧∃ G,H=([.cells 75 [.hmap 1,hI 2 fl.length],.map 72 (entsI ps),rB fl])++G)
  (fun z=>∃ l',(z=some (.exit 0 (fr 60 l') [.cells 75 [.hmap 1,hI 2 fl.length],.map 72 (entsI ps),rB fl])∧asc l' 0=.ptr 0 0∧asc l' 1=ii v∧fl.findIdx id=fl.length)∨(z=some (.ret (fr 60 l') [.cells 75 [.hmap 1,hI 2 fl.length],.map 72 (entsI (ps++[(v,(fl.findIdx id:Int))])),rB (fl.set (fl.findIdx id) false)])∧asc l' 4=ii (fl.findIdx id)∧fl.findIdx id<fl.length)) ?_ fl.length 0 k l _ (by omega) hk ⟨a0,a1,a10,a11,a12,by simp,[],by rw [List.append_nil]⟩
 clear hk a0 a1 a10 a11 a12
 rintro i k l H hi ⟨a0,a1,a10,a11,a12,hp,G,rfl⟩
 have ht:trim 3 (fr 60 (keep l [0,1,10,11,12])) (([.cells 75 [.hmap 1,hI 2 fl.length],.map 72 (entsI ps),rB fl])++G)=([.cells 75 [.hmap 1,hI 2 fl.length],.map 72 (entsI ps),rB fl]):=Qa4 (by simp) (by simp only [a0,a1,a10,a11,a12,QaY,EVb,EVc,seval]) (by simp only [QaY,EVb,EVc,seval])
 by_cases hc:i<fl.length
 ·have hc':(i:Int)<((fl.length:Nat):Int):=by omega
  have hc0:(0:Int)≤i:=by omega
  have hw:IntKind.wrap .i64 ((i:Int)+1)=((i+1:Nat):Int):=by rw [wrap64 (by omega) (by omega)];omega
  have hx:=QqG hc
  have hel:=QaM fl
  have hd:=List.drop_eq_getElem_cons hc
  have hge:fl.getD i false=fl[i]:=by rw [List.getD_eq_getElem?_getD,List.getElem?_eq_getElem hc];rfl
  rw[hge] at hx
  obtain⟨b,hb⟩:∃ b,b=fl[i]:=⟨_,rfl⟩
  rw[← hb] at hd hx
  rw[hd,List.findIdx_cons] at hp
  have he1:=fun x0 X=>Q4X (H:=x0 :: .map 72 (entsI ps)::X) (id:=1) rfl hl
  have he2:=fun x0 X w=>Q5Q (H:=x0 :: .map 72 (entsI (ps++[(v,0)]))::X) (id:=1) (es:=ps) (k:=v) (x:=w) rfl
  cases b with
  | true =>
   refine .inl ?_
   simp only[id_eq,cond_true,Nat.add_zero] at hp
   simp only[Qaa,ht]
   simp only[a0,a1,a10,a11,a12,hc',hc0,hw,hel,hx,Qaa,Qag,Qae,Qab,LP,Tryd.f36,FT,seval]
   rw[Qaf Tryd.f36 5 QFp];rotate_left;rfl
   simp only[a0,a1,a10,a11,a12,hc',hc0,hw,hel,hx,he1,he2,QaY,Qd0,if_pos hc,EVd,List.getElem?_nil,Nat.reducePow,Nat.reduceDiv,Nat.reduceMod,FT,seval]
   rw[hp]
   exact⟨_,.inr ⟨rfl,(by rfl),hc⟩⟩
  | false =>
   simp only[id_eq,cond_false] at hp
   have hp2:fl.findIdx id=i+1+(fl.drop (i+1)).findIdx id:=by omega
   simp only[Qaa,ht]
   simp only[a0,a1,a10,a11,a12,hc',hc0,hw,hel,hx,Qaa,Qag,Qae,Qab,LP,Tryd.f36,FT,seval]
   exact .inr ⟨_,_,hc,rfl,(by rfl),(by rfl),(by rfl),(by rfl),(by rfl),hp2,[],by rfl⟩
 ·refine .inl ?_
  obtain rfl:i=fl.length:=by omega
  have hc':¬ (((fl.length:Nat):Int)<((fl.length:Nat):Int)):=by omega
  simp only[Qaa,ht]
  simp only[a0,a1,a10,a11,a12,hc',Qaa,Qag,Qae,Qab,LP,Tryd.f36,FT,seval]
  rw[List.drop_length] at hp
  exact⟨_,.inl ⟨rfl,(by rfl),(by rfl),by simpa using hp⟩⟩
theorem QGJ {l:List Bool} {s:Nat} {sl:Option Nat} {H:Heap} {cs:List IV} (hH:H[s]?=some (rB l)) (hb:l.length≤1000000) :
  apO 4 1 1 sl (hI s l.length) H (some (cs,1))=some (hI s (l.length+1),H.set s (.row false 4 (encB l++cs))):=by
 have:=Qma (e:=4) (sz:=1) (by_:=1) (m:=1) (sl:=sl) (len:=l.length) (cs:=cs) (by decide) (Nat.le_trans (Nat.mul_le_mul_right 1 (show l.length+1≤1000001 by omega)) (by decide)) (by decide) hH (by rw [QaM,Nat.mul_one])
 rw[Nat.mul_one,Nat.mul_one] at this
 exact this
theorem Q8q (k:Nat) (ps:List (Int × Int)) (fl:List Bool) (v:Int) (hl:Qcj v ps=none) (hn:fl.length≤100000) (h0:fl≠[]) (hk:fl.length<k) :
  ∃ G,Qav Tryd.prog (Qac tab) (k+1) (.fn 36) [.ptr 0 0,ii v] [.cells 75 [.hmap 1,hI 2 fl.length],.map 72 (entsI ps),rB fl] =
   some (ii (Qbe fl),.cells 75 [.hmap 1,hI 2 (Qie fl).length] :: .map 72 (entsI (ps++[(v,(Qbe fl:Int))]))::rB (Qie fl)::G):=by
 have hlp:0<fl.length:=List.length_pos_iff.2 h0
 rw[ev36]
 simp only[Tryd.f36,ii,FT,seval]
 rw[Qai Q12 QFT];rotate_left;rfl;rfl;rfl
 generalize hz:Qar _ _ _ _ _ _ _ _ _ _ _ _=z
 obtain⟨l',⟨rfl,e0,e1,hx⟩ | ⟨rfl,e4,hx⟩⟩:=Q7d k ps fl v hl hn _ _ z hz hk (by rfl) (by rfl) (by rfl) (by rfl) (by rfl)
 ·clear hz
  have hu:=fun x0 X w=>QrQ (H:=x0 :: .map 72 (entsI ps)::X) (id:=1) (v:=w) rfl hl
  have hap:=fun x0 x1 X cs=>QGJ (l:=fl) (s:=2) (sl:=none) (H:=x0::x1::rB fl::X) (cs:=cs) rfl (by omega)
  have hw:IntKind.wrap .i64 (((fl.length+1:Nat):Int)-1)=fl.length:=by rw [wrap64 (by omega) (by omega)];omega
  have hlm:Qbe fl=fl.length:=hx
  have hgf:Qie fl=fl++[false]:=by unfold Qie;rw [if_neg (by omega)]
  simp only[e0,e1,FT,seval]
  rw[Qaf Tryd.f36 8 QGU];rotate_left;rfl
  simp only[e0,e1,hu,hap,hw,QaY,EVd,List.getElem?_nil,Nat.reducePow,Nat.reduceDiv,Nat.reduceMod,FT,seval]
  rw[hlm,hgf]
  simp only[List.length_append,List.length_cons,List.length_nil,Nat.zero_add]
  exact⟨_,by simp only [rB,Qg0];rfl⟩
 ·clear hz
  have hlm:fl.findIdx id=Qbe fl:=rfl
  have hgf:Qie fl=fl.set (Qbe fl) false:=by unfold Qie;exact if_pos hx
  rw[hlm] at e4
  simp only[e4,hlm,QaY,FT,seval]
  rw[hgf]
  simp only[List.length_set]
  exact⟨[],rfl⟩
theorem QhL {k:Int}:∀ {es:List (Int × Int)},(∀ e ∈ es,e.1≠k)→Qcj k es=none
 | [],_=>rfl
 | e::es,h=>by
  rw[Qcj,if_neg (fun hk=>h e (by simp) hk.symm),QhL (fun e he=>h e (by simp [he]))]
  rfl
def layF (unt:List Int) (i:Nat):List Bool:=(unt.take i).map fun u=>decide (u<0)
def layP (i:Nat):List (Int × Int):=(List.range i).map fun (v:Nat)=>((v:Int),(v:Int))
theorem QvI (i:Nat):layP (i+1)=layP i++[((i:Int),(i:Int))]:=by simp [layP,List.range_succ]
theorem Qfm (i:Nat):Qcj i (layP i)=none:=QhL (by
 intro e he
 simp only[layP,List.mem_map,List.mem_range] at he
 obtain⟨v,hv,rfl⟩:=he
 simp only
 omega)
theorem Qgv {unt:List Int} {i:Nat} (h:i≤unt.length):(layF unt i).length=i:=by simp [layF];omega
theorem Q77 {unt:List Int} {i:Nat} (h:i<unt.length):layF unt (i+1)=layF unt i++[decide (unt.getD i 0<0)]:=by
 rw[layF,List.take_succ_eq_append_getElem h,List.map_append,List.getD_eq_getElem?_getD,List.getElem?_eq_getElem h];rfl
abbrev lifeC (y0 y1 y2 y3 y4:IV) (c no m:Nat):List AV:=[.c y0,.c y1,.c y2,.c y3,.c y4,hI 6 c,hI 7 c,hI 8 c,hI 9 no,hI 10 m]
theorem Q59 (kf:Nat) (x0 x1 x2 x3 z0 z1 z2 z3 y0 y1 y2 y3 y4:IV) (c no:Nat) (c6 c7 c8 c9:List IV) (unt:List Int) (g:Nat) (hg:g<unt.length) (hu:unt.length≤100000) (k:Nat) (l:Ass) (z:Option Out) (hz:Qar Tryd.prog tab (kf+1) none Q4H 15 208 [1,2,4,6,29,30] 13 k l ([.slot,.slot,lo 4 0 (encB (layF unt 0)),.cells 25 [.c x0,.c x1,.c x2,.c x3],.cells 25 [.c z0,.c z1,.c z2,.c z3],.cells 78 (lifeC y0 y1 y2 y3 y4 c no unt.length),.row false 3 c6,.row false 3 c7,.row false 3 c8,.row false 3 c9,rI unt,.map 72 (entsI (layP 0)),.cells 75 [.hmap 11,lv 2 1 0]])=z) (hk:g<k) (a1:asc l 1=.ptr 3 0) (a2:asc l 2=.ptr 4 0) (a4:asc l 4=.ptr 5 0) (a6:asc l 6=.ptr 12 0) (a29:asc l 29=ii g) (a30:asc l 30=ii 0) :
  ∃ l',z=some (.exit 0 (fr 208 l') ([.slot,.slot,lo 4 g (encB (layF unt g)),.cells 25 [.c x0,.c x1,.c x2,.c x3],.cells 25 [.c z0,.c z1,.c z2,.c z3],.cells 78 (lifeC y0 y1 y2 y3 y4 c no unt.length),.row false 3 c6,.row false 3 c7,.row false 3 c8,.row false 3 c9,rI unt,.map 72 (entsI (layP g)),.cells 75 [.hmap 11,lv 2 1 g]]))∧asc l' 1=.ptr 3 0∧asc l' 2=.ptr 4 0∧asc l' 4=.ptr 5 0∧asc l' 6=.ptr 12 0∧asc l' 29=ii g∧asc l' 30=ii g:=by
 subst hz
 refine Qa1 g (fun k l H=>Qar Tryd.prog tab (kf+1) none Q4H 15 208 [1,2,4,6,29,30] 13 k l H)
  (fun i l H=>asc l 1=.ptr 3 0∧asc l 2=.ptr 4 0∧asc l 4=.ptr 5 0∧asc l 6=.ptr 12 0∧asc l 29=ii g∧asc l 30=ii i∧∃ G,H=([.slot,.slot,lo 4 i (encB (layF unt i)),.cells 25 [.c x0,.c x1,.c x2,.c x3],.cells 25 [.c z0,.c z1,.c z2,.c z3],.cells 78 (lifeC y0 y1 y2 y3 y4 c no unt.length),.row false 3 c6,.row false 3 c7,.row false 3 c8,.row false 3 c9,rI unt,.map 72 (entsI (layP i)),.cells 75 [.hmap 11,lv 2 1 i]])++G)
  (fun z=>∃ l',z=some (.exit 0 (fr 208 l') ([.slot,.slot,lo 4 g (encB (layF unt g)),.cells 25 [.c x0,.c x1,.c x2,.c x3],.cells 25 [.c z0,.c z1,.c z2,.c z3],.cells 78 (lifeC y0 y1 y2 y3 y4 c no unt.length),.row false 3 c6,.row false 3 c7,.row false 3 c8,.row false 3 c9,rI unt,.map 72 (entsI (layP g)),.cells 75 [.hmap 11,lv 2 1 g]]))∧asc l' 1=.ptr 3 0∧asc l' 2=.ptr 4 0∧asc l' 4=.ptr 5 0∧asc l' 6=.ptr 12 0∧asc l' 29=ii g∧asc l' 30=ii g) ?_ g 0 k l _ (by omega) hk ⟨a1,a2,a4,a6,a29,a30,[],by rw [List.append_nil]⟩
 clear hk a1 a2 a4 a6 a29 a30
 rintro i k l H hi ⟨a1,a2,a4,a6,a29,a30,G,rfl⟩
 have ht:trim 13 (fr 208 (keep l [1,2,4,6,29,30])) (([.slot,.slot,lo 4 i (encB (layF unt i)),.cells 25 [.c x0,.c x1,.c x2,.c x3],.cells 25 [.c z0,.c z1,.c z2,.c z3],.cells 78 (lifeC y0 y1 y2 y3 y4 c no unt.length),.row false 3 c6,.row false 3 c7,.row false 3 c8,.row false 3 c9,rI unt,.map 72 (entsI (layP i)),.cells 75 [.hmap 11,lv 2 1 i]])++G)=([.slot,.slot,lo 4 i (encB (layF unt i)),.cells 25 [.c x0,.c x1,.c x2,.c x3],.cells 25 [.c z0,.c z1,.c z2,.c z3],.cells 78 (lifeC y0 y1 y2 y3 y4 c no unt.length),.row false 3 c6,.row false 3 c7,.row false 3 c8,.row false 3 c9,rI unt,.map 72 (entsI (layP i)),.cells 75 [.hmap 11,lv 2 1 i]]):=Qa4 (by simp) (by simp only [a1,a2,a4,a6,a29,a30,QaY,EVb,EVc,seval]) (by simp only [QaY,EVb,EVc,seval])
 by_cases hc:i<g
 ·have hc':(i:Int)<((g:Nat):Int):=by omega
  have hc0:(0:Int)≤i:=by omega
  have hw:IntKind.wrap .i64 ((i:Int)+1)=((i+1:Nat):Int):=by rw [wrap64 (by omega) (by omega)];omega
  have hul:(Qal unt).length=unt.length:=Qaj _
  have hx:=QaL (l:=unt) (r:=(i:Int)) hc0 (by omega)
  rw[Int.toNat_natCast] at hx
  have hiu:(i:Int)<unt.length:=by omega
  have hfl:=Qgv (unt:=unt) (i:=i) (by omega)
  rw[QvI,Q77 (by omega)]
  obtain⟨u,hU⟩:∃ u,u=unt.getD i 0:=⟨_,rfl⟩
  rw[← hU] at hx ⊢
  by_cases hi0:i=0
  ·have hlv:lv 2 1 i=.c (.slice [] 0 true (some 0)):=by rw [hi0];rfl
   have hlo:lo 4 i (encB (layF unt i))=.slot:=by rw [hi0];rfl
   obtain⟨G2,hL⟩:=QE9 kf (layP i) (layF unt i) i u (by rw [hi0];rfl) (Qfm i) (by omega)
   simp only[hfl,ii,hlv] at hL
   simp only[Qaa,ht]
   simp only[a1,a2,a4,a6,a29,a30,hc',hc0,hw,hul,hx,hiu,Qet,Qev,hL,hlv,hlo,Qaa,Qag,Qae,Qab,LP,Tryd.f15,FT,seval]
   refine .inr ⟨_,_,hc,rfl,(by rfl),(by rfl),(by rfl),(by rfl),(by rfl),(by rfl), ?_⟩
   rw[Qct (s:=2) (sz:=1) (Nat.succ_pos i),Qcm (e:=4) (Nat.succ_pos i),Nat.mul_one]
   exact⟨_,by rfl⟩
  ·have hip:0<i:=by omega
   have hlv:lv 2 1 i=hI 2 i:=by rw [Qct hip,Nat.mul_one]
   have hlo:lo 4 i (encB (layF unt i))=rB (layF unt i):=by rw [Qcm hip]
   obtain⟨G2,hL⟩:=Q7E kf (layP i) (layF unt i) i u (by intro h;rw [h] at hfl;simp at hfl;omega) (Qfm i) (by omega)
   simp only[hfl,ii,hlv] at hL
   simp only[Qaa,ht]
   simp only[a1,a2,a4,a6,a29,a30,hc',hc0,hw,hul,hx,hiu,Qet,Qev,hL,hlv,hlo,Qaa,Qag,Qae,Qab,LP,Tryd.f15,FT,seval]
   refine .inr ⟨_,_,hc,rfl,(by rfl),(by rfl),(by rfl),(by rfl),(by rfl),(by rfl), ?_⟩
   rw[Qct (s:=2) (sz:=1) (Nat.succ_pos i),Qcm (e:=4) (Nat.succ_pos i),Nat.mul_one]
   exact⟨_,by rfl⟩
 ·refine .inl ?_
  obtain rfl:i=g:=by omega
  have hc':¬ (((i:Nat):Int)<((i:Nat):Int)):=by omega
  simp only[Qaa,ht]
  simp only[a1,a2,a4,a6,a29,a30,hc',Qaa,Qag,Qae,Qab,LP,Tryd.f15,FT,seval]
  exact⟨_,rfl,(by rfl),(by rfl),(by rfl),(by rfl),(by rfl),(by rfl)⟩
structure Pk where
 at_:List (Int × Int)
 free:List Bool
 code:List Ins
 regs:Int
def QbH (at_:List (Int × Int)) (unt:List Int) (k:Nat) (f:List Bool) (v:Int):List Bool:=if unt.getD v.toNat 0=k then f.set (atI at_ v).toNat true else f
def Qd8 (L:Lv) (unt:List Int) (q:Pk) (k:Nat) (x:Ins):Pk :=
 let f2:=QbH q.at_ unt k (QbH q.at_ unt k q.free (L.a.getD k 0)) (L.b.getD k 0)
 ⟨q.at_++[(L.sets.getD k 0,(Qbe f2:Int))],Qie f2,q.code++[⟨x.op,Qbe f2,atI q.at_ (L.a.getD k 0),if x.op=3∨x.op=4 then atI q.at_ (L.b.getD k 0) else x.b,x.c⟩],
  if ((Qbe f2:Nat):Int)+1 > q.regs then ((Qbe f2:Nat):Int)+1 else q.regs⟩
def pkAt (L:Lv) (unt:List Int) (q0:Pk) (need:List Bool) (code:List Ins):Nat→Pk
 | 0=>q0
 | i+1=>match code[i]? with
  | some x=>if need.getD i false=true then Qd8 L unt (pkAt L unt q0 need code i) i x else pkAt L unt q0 need code i
  | none=>pkAt L unt q0 need code i
theorem Qkc {L:Lv} {unt:List Int} {q0:Pk} {need:List Bool} {code:List Ins} {i:Nat} (h:i<code.length):pkAt L unt q0 need code (i+1)=if need.getD i false=true then Qd8 L unt (pkAt L unt q0 need code i) i code[i] else pkAt L unt q0 need code i:=by
 rw[pkAt,List.getElem?_eq_getElem h]
structure PkOk (q:Pk):Prop where
 pos:0<q.free.length
 at_:∀ e ∈ q.at_,0≤e.2∧e.2<q.free.length
theorem Qva {k:Int}:∀ {es:List (Int × Int)} {p:Nat × Int},Qcj k es=some p→(k,p.2) ∈ es
 | [],_,h=>by cases h
 | e::es,p,h=>by
  rw[Qcj] at h
  split at h
  ·rename_i hk
   injection h with h
   subst h
   rw[hk]
   exact List.mem_cons_self ..
  ·obtain⟨q,hq,rfl⟩:=Option.map_eq_some_iff.1 h
   have:=Qva hq
   exact List.mem_cons_of_mem _ this
theorem PkOk.at_lt {q:Pk} (h:PkOk q) (v:Int):0≤atI q.at_ v∧atI q.at_ v<q.free.length:=by
 unfold atI
 cases hl:Qcj v q.at_ with
 | none=>have:=h.pos;simp only;omega
 | some p=>exact h.at_ _ (Qva hl)
theorem QbN {a:List (Int × Int)} {unt:List Int} {k:Nat} {f:List Bool} {v:Int}:(QbH a unt k f v).length=f.length:=by
 unfold QbH;split<;>simp
theorem QeH (f:List Bool):(Qie f).length=max f.length (Qbe f+1):=by
 have:=Qeh f
 unfold Qie
 split<;>simp<;>omega
theorem Q8L {L:Lv} {unt:List Int} {q:Pk} {k:Nat} {x:Ins} (h:PkOk q):PkOk (Qd8 L unt q k x):=by
 have hp:=h.pos
 have hl:=QeH (QbH q.at_ unt k (QbH q.at_ unt k q.free (L.a.getD k 0)) (L.b.getD k 0))
 rw[QbN,QbN] at hl
 refine⟨by simp only [Qd8];omega,fun e he=>?_⟩
 simp only[Qd8,List.mem_append,List.mem_singleton] at he ⊢
 rcases he with he | rfl
 ·have:=h.at_ e he;omega
 ·simp only;omega
theorem idx62 (a b:Int) {i:Nat} (h:i<2):QpE Tryd.prog 80 (.agg [.c (.int .i64 a),.c (.int .i64 b)]) (.c (.int .i64 (i:Int)))=some (.c (.int .i64 (if i=0 then a else b))):=by
 obtain rfl | rfl:i=0∨i=1:=by omega
 ·kernel_rfl
 ·kernel_rfl
theorem Q2D {o0 o1 o2 o3 o4 o5 o6 o7 o8 o9 o10:AObj} {X:Heap} {es:List (Int × Int)} {k:Int} :
  QbJ Tryd.prog (o0::o1::o2::o3::o4::o5::o6::o7::o8::o9::o10 :: .map 72 (entsI es)::X) 72 (.hmap 11) (.c (.int .i64 k)) false=some (.c (.int .i64 (atI es k))):=Q68 rfl
def QdF (at_:List (Int × Int)) (unt:List Int) (k:Nat) (f:List Bool) (a b:Int):Nat→List Bool
 | 0=>f
 | 1=>QbH at_ unt k f a
 | _=>QbH at_ unt k (QbH at_ unt k f a) b
theorem Qyr {at_:List (Int × Int)} {unt:List Int} {k:Nat} {f:List Bool} {a b:Int} {i:Nat} (h:i<2):QdF at_ unt k f a b (i+1)=QbH at_ unt k (QdF at_ unt k f a b i) (if i=0 then a else b):=by
 obtain rfl | rfl:i=0∨i=1:=by omega
 ·rfl
 ·rfl
theorem Qe4 {at_:List (Int × Int)} {unt:List Int} {k:Nat} {f:List Bool} {a b:Int} {i:Nat}:(QdF at_ unt k f a b i).length=f.length:=by
 unfold QdF
 split<;>simp [QbN]
theorem QlJ (kf:Nat) (o0 o1 o3 o4 o6 o7 o8 o9 o13 o14:AObj) (uo0:AObj.under 15 o0=true) (uo1:AObj.under 15 o1=true) (uo3:AObj.under 15 o3=true) (uo4:AObj.under 15 o4=true) (uo6:AObj.under 15 o6=true) (uo7:AObj.under 15 o7=true) (uo8:AObj.under 15 o8=true) (uo9:AObj.under 15 o9=true) (uo13:AObj.under 15 o13=true) (uo14:AObj.under 15 o14=true) (y0 y1 y2 y3 y4:IV) (c no:Nat) (unt:List Int) (q:Pk) (hq:PkOk q) (kk:Nat) (a b:Int) (ha:0≤a∧a<unt.length) (hb:0≤b∧b<unt.length) (cl:Int) (sc:IV) (k:Nat) (l:Ass) (z:Option Out) (hz:Qar Tryd.prog tab kf none Qkx 15 208 [2,4,6,8,9,10,77,78,79,137,138] 15 k l ([o0,o1,rB (QdF q.at_ unt kk q.free a b 0),o3,o4,.cells 78 (lifeC y0 y1 y2 y3 y4 c no unt.length),o6,o7,o8,o9,rI unt,.map 72 (entsI q.at_),.cells 75 [.hmap 11,hI 2 q.free.length],o13,o14])=z) (hk:2<k) (a2:asc l 2=.ptr 4 0) (a4:asc l 4=.ptr 5 0) (a6:asc l 6=.ptr 12 0) (a8:asc l 8=.ptr 13 0) (a9:asc l 9=ii kk) (a10:asc l 10=.ptr 14 0) (a77:asc l 77=.c sc) (a78:asc l 78=ii cl) (a79:asc l 79=ii kk) (a137:asc l 137=.agg [ii a,ii b]) (a138:asc l 138=ii 0) :
  ∃ l',z=some (.exit 4 (fr 208 l') ([o0,o1,rB (QdF q.at_ unt kk q.free a b 2),o3,o4,.cells 78 (lifeC y0 y1 y2 y3 y4 c no unt.length),o6,o7,o8,o9,rI unt,.map 72 (entsI q.at_),.cells 75 [.hmap 11,hI 2 q.free.length],o13,o14]))∧asc l' 2=.ptr 4 0∧asc l' 4=.ptr 5 0∧asc l' 6=.ptr 12 0∧asc l' 8=.ptr 13 0∧asc l' 9=ii kk∧asc l' 10=.ptr 14 0∧asc l' 77=.c sc∧asc l' 78=ii cl∧asc l' 79=ii kk∧asc l' 137=.agg [ii a,ii b]∧asc l' 138=ii 2:=by
 subst hz
 refine Qa1 2 (fun k l H=>Qar Tryd.prog tab kf none Qkx 15 208 [2,4,6,8,9,10,77,78,79,137,138] 15 k l H)
  (fun i l H=>asc l 2=.ptr 4 0∧asc l 4=.ptr 5 0∧asc l 6=.ptr 12 0∧asc l 8=.ptr 13 0∧asc l 9=ii kk∧asc l 10=.ptr 14 0∧asc l 77=.c sc∧asc l 78=ii cl∧asc l 79=ii kk∧asc l 137=.agg [ii a,ii b]∧asc l 138=ii i∧∃ G,H=([o0,o1,rB (QdF q.at_ unt kk q.free a b i),o3,o4,.cells 78 (lifeC y0 y1 y2 y3 y4 c no unt.length),o6,o7,o8,o9,rI unt,.map 72 (entsI q.at_),.cells 75 [.hmap 11,hI 2 q.free.length],o13,o14])++G)
  (fun z=>∃ l',z=some (.exit 4 (fr 208 l') ([o0,o1,rB (QdF q.at_ unt kk q.free a b 2),o3,o4,.cells 78 (lifeC y0 y1 y2 y3 y4 c no unt.length),o6,o7,o8,o9,rI unt,.map 72 (entsI q.at_),.cells 75 [.hmap 11,hI 2 q.free.length],o13,o14]))∧asc l' 2=.ptr 4 0∧asc l' 4=.ptr 5 0∧asc l' 6=.ptr 12 0∧asc l' 8=.ptr 13 0∧asc l' 9=ii kk∧asc l' 10=.ptr 14 0∧asc l' 77=.c sc∧asc l' 78=ii cl∧asc l' 79=ii kk∧asc l' 137=.agg [ii a,ii b]∧asc l' 138=ii 2) ?_ 2 0 k l _ (by omega) hk ⟨a2,a4,a6,a8,a9,a10,a77,a78,a79,a137,a138,[],by rw [List.append_nil]⟩
 clear hk a2 a4 a6 a8 a9 a10 a77 a78 a79 a137 a138
 rintro i k l H hi ⟨a2,a4,a6,a8,a9,a10,a77,a78,a79,a137,a138,G,rfl⟩
 have ht:trim 15 (fr 208 (keep l [2,4,6,8,9,10,77,78,79,137,138])) (([o0,o1,rB (QdF q.at_ unt kk q.free a b i),o3,o4,.cells 78 (lifeC y0 y1 y2 y3 y4 c no unt.length),o6,o7,o8,o9,rI unt,.map 72 (entsI q.at_),.cells 75 [.hmap 11,hI 2 q.free.length],o13,o14])++G)=([o0,o1,rB (QdF q.at_ unt kk q.free a b i),o3,o4,.cells 78 (lifeC y0 y1 y2 y3 y4 c no unt.length),o6,o7,o8,o9,rI unt,.map 72 (entsI q.at_),.cells 75 [.hmap 11,hI 2 q.free.length],o13,o14]):=Qa4 (by simp) (by simp only [a2,a4,a6,a8,a9,a10,a77,a78,a79,a137,a138,QaY,uo0,uo1,uo3,uo4,uo6,uo7,uo8,uo9,uo13,uo14,EVb,EVc,seval]) (by simp only [QaY,uo0,uo1,uo3,uo4,uo6,uo7,uo8,uo9,uo13,uo14,EVb,EVc,seval])
 by_cases hc:i<2
 ·have hc':(i:Int)<((2:Nat):Int):=by omega
  have hc0:(0:Int)≤i:=by omega
  have hw:IntKind.wrap .i64 ((i:Int)+1)=((i+1:Nat):Int):=by rw [wrap64 (by omega) (by omega)];omega
  have hc2:(i:Int)<2:=by omega
  have hix:=idx62 a b hc
  obtain⟨v,hv⟩:∃ v,v=if i=0 then a else b:=⟨_,rfl⟩
  rw[Qyr hc]
  rw[← hv] at hix ⊢
  have hvb:0≤v∧v<unt.length:=by rw [hv];split<;>assumption
  obtain⟨v0,v1⟩:=hvb
  have hul:=Qaj unt
  have hx:=QaL v0 v1
  have hfl:=Qe4 (at_:=q.at_) (unt:=unt) (k:=kk) (f:=q.free) (a:=a) (b:=b) (i:=i)
  obtain⟨f,hf⟩:∃ f,f=QdF q.at_ unt kk q.free a b i:=⟨_,rfl⟩
  rw[← hf] at hfl ht ⊢
  have hbl:=QaM f
  obtain⟨r0,r1⟩:=hq.at_lt v
  have r2:(atI q.at_ v).toNat<q.free.length:=by omega
  by_cases hk:unt.getD v.toNat 0=kk
  ·have hfo:QbH q.at_ unt kk f v=f.set (atI q.at_ v).toNat true:=by unfold QbH;rw [if_pos hk]
   simp only[Qaa,ht]
   simp only[a2,a4,a6,a8,a9,a10,a77,a78,a79,a137,a138,hc',hc0,hw,hix,hc2,hul,hx,v0,v1,hk,Qaa,Qag,Qae,Qab,LP,Tryd.f15,FT,seval]
   rw[Qaf Tryd.f15 25 QEe];rotate_left;rfl
   simp only[a2,a4,a6,a8,a9,a10,a77,a78,a79,a137,a138,hc',hc0,hw,Q2D,hbl,hfl,r0,r1,r2,Qd0,EVd,List.getElem?_nil,Nat.reducePow,Nat.reduceDiv,Nat.reduceMod,FT,seval]
   rw[hfo]
   refine .inr ⟨_,_,hc,rfl,(by rfl),(by rfl),(by rfl),(by rfl),(by rfl),(by rfl),(by rfl),(by rfl),(by rfl),(by rfl),(by rfl), ?_⟩
   exact⟨_,by rfl⟩
  ·have hfo:QbH q.at_ unt kk f v=f:=by unfold QbH;rw [if_neg hk]
   rw[hfo]
   simp only[Qaa,ht]
   simp only[a2,a4,a6,a8,a9,a10,a77,a78,a79,a137,a138,hc',hc0,hw,hix,hc2,hul,hx,v0,v1,hk,Qaa,Qag,Qae,Qab,LP,Tryd.f15,FT,seval]
   refine .inr ⟨_,_,hc,rfl,(by rfl),(by rfl),(by rfl),(by rfl),(by rfl),(by rfl),(by rfl),(by rfl),(by rfl),(by rfl),(by rfl), ?_⟩
   exact⟨_,by rfl⟩
 ·refine .inl ?_
  obtain rfl:i=2:=by omega
  have hc':¬ (((2:Nat):Int)<((2:Nat):Int)):=by omega
  simp only[Qaa,ht]
  simp only[a2,a4,a6,a8,a9,a10,a77,a78,a79,a137,a138,hc',Qaa,Qag,Qae,Qab,LP,Tryd.f15,FT,seval]
  exact⟨_,rfl,(by rfl),(by rfl),(by rfl),(by rfl),(by rfl),(by rfl),(by rfl),(by rfl),(by rfl),(by rfl),(by rfl)⟩
abbrev cdO (l:List Ins):AObj:=lo 61 l.length (Qak l)
theorem Qn6 {L:Lv} {unt:List Int} {q0:Pk} {need:List Bool} {code:List Ins} (h0:PkOk q0):∀ i,PkOk (pkAt L unt q0 need code i)∧(pkAt L unt q0 need code i).free.length≤q0.free.length+i∧(pkAt L unt q0 need code i).code.length≤q0.code.length+i
 | 0=>⟨h0,Nat.le_refl _,Nat.le_refl _⟩
 | i+1=>by
  obtain⟨h1,h2,h3⟩:=Qn6 (L:=L) (unt:=unt) (need:=need) (code:=code) h0 i
  rw[pkAt]
  split
  ·split
   ·refine⟨Q8L h1, ?_, ?_⟩
    ·have:=QeH (QbH (pkAt L unt q0 need code i).at_ unt i (QbH (pkAt L unt q0 need code i).at_ unt i (pkAt L unt q0 need code i).free (L.a.getD i 0)) (L.b.getD i 0))
     have h4:=Qeh (QbH (pkAt L unt q0 need code i).at_ unt i (QbH (pkAt L unt q0 need code i).at_ unt i (pkAt L unt q0 need code i).free (L.a.getD i 0)) (L.b.getD i 0))
     rw[QbN,QbN] at this h4
     simp only[Qd8]
     omega
    ·simp only[Qd8,List.length_append,List.length_cons,List.length_nil]
     omega
   ·exact⟨h1,by omega,by omega⟩
  ·exact⟨h1,by omega,by omega⟩
set_option maxHeartbeats 8000000 in
theorem Qmo (kf:Nat) (x0 x1 x2 x3 z0 z1 z2 z3 y0 y2 y3 y1:IV) (no:Nat) (ins:Int) (c9:List IV) (L:Lv) (unt:List Int) (q0:Pk) (need:List Bool) (code:List Ins) (hnd:need.length=code.length) (nl:Bool) (cap:Option Nat) (h0:PkOk q0) (hf0:q0.free.length≤1000) (hc0':q0.code=[]) (hrg:0≤q0.regs) (hlen:code.length≤20000) (hn:200≤kf) (hkf:code.length+2000≤kf)
(la:L.a.length=code.length) (lb:L.b.length=code.length) (ls:L.sets.length=code.length)
(hval:∀ i,i<code.length→need.getD i false=true→(0≤L.a.getD i 0∧L.a.getD i 0<unt.length)∧(0≤L.b.getD i 0∧L.b.getD i 0<unt.length))
(hfresh:∀ i,i<code.length→need.getD i false=true→Qcj (L.sets.getD i 0) (pkAt L unt q0 need code i).at_=none) (k:Nat) (l:Ass) (z:Option Out) (hz:Qar Tryd.prog tab (kf+1) none QkE 15 208 [2,4,6,8,77,78,79] 14 k l ([cdO (pkAt L unt q0 need code 0).code,.slot,rB (pkAt L unt q0 need code 0).free,.cells 25 [.c x0,.c x1,.c x2,.c x3],.cells 25 [.c z0,.c z1,.c z2,.c z3],.cells 78 (lifeC y0 y1 y2 y3 (.slice (encB need) need.length false none) code.length no unt.length),rI L.a,rI L.b,rI L.sets,.row false 3 c9,rI unt,.map 72 (entsI (pkAt L unt q0 need code 0).at_),.cells 75 [.hmap 11,hI 2 (pkAt L unt q0 need code 0).free.length],.cells 25 [ii ins,ii (pkAt L unt q0 need code 0).regs,lv 0 5 (pkAt L unt q0 need code 0).code.length,.c (.slice [] 0 true (some 0))]])=z) (hk:code.length<k) (a2:asc l 2=.ptr 4 0) (a4:asc l 4=.ptr 5 0) (a6:asc l 6=.ptr 12 0) (a8:asc l 8=.ptr 13 0) (a77:asc l 77=sC code nl cap) (a78:asc l 78=ii code.length) (a79:asc l 79=ii 0) :
  ∃ l',z=some (.exit 2 (fr 208 l') ([cdO (pkAt L unt q0 need code code.length).code,.slot,rB (pkAt L unt q0 need code code.length).free,.cells 25 [.c x0,.c x1,.c x2,.c x3],.cells 25 [.c z0,.c z1,.c z2,.c z3],.cells 78 (lifeC y0 y1 y2 y3 (.slice (encB need) need.length false none) code.length no unt.length),rI L.a,rI L.b,rI L.sets,.row false 3 c9,rI unt,.map 72 (entsI (pkAt L unt q0 need code code.length).at_),.cells 75 [.hmap 11,hI 2 (pkAt L unt q0 need code code.length).free.length],.cells 25 [ii ins,ii (pkAt L unt q0 need code code.length).regs,lv 0 5 (pkAt L unt q0 need code code.length).code.length,.c (.slice [] 0 true (some 0))]]))∧asc l' 2=.ptr 4 0∧asc l' 4=.ptr 5 0∧asc l' 6=.ptr 12 0∧asc l' 8=.ptr 13 0∧asc l' 77=sC code nl cap∧asc l' 78=ii code.length∧asc l' 79=ii code.length:=by
 subst hz
 refine Qa1 code.length (fun k l H=>Qar Tryd.prog tab (kf+1) none QkE 15 208 [2,4,6,8,77,78,79] 14 k l H)
  (fun i l H=>asc l 2=.ptr 4 0∧asc l 4=.ptr 5 0∧asc l 6=.ptr 12 0∧asc l 8=.ptr 13 0∧asc l 77=sC code nl cap∧asc l 78=ii code.length∧asc l 79=ii i∧∃ G,H=([cdO (pkAt L unt q0 need code i).code,.slot,rB (pkAt L unt q0 need code i).free,.cells 25 [.c x0,.c x1,.c x2,.c x3],.cells 25 [.c z0,.c z1,.c z2,.c z3],.cells 78 (lifeC y0 y1 y2 y3 (.slice (encB need) need.length false none) code.length no unt.length),rI L.a,rI L.b,rI L.sets,.row false 3 c9,rI unt,.map 72 (entsI (pkAt L unt q0 need code i).at_),.cells 75 [.hmap 11,hI 2 (pkAt L unt q0 need code i).free.length],.cells 25 [ii ins,ii (pkAt L unt q0 need code i).regs,lv 0 5 (pkAt L unt q0 need code i).code.length,.c (.slice [] 0 true (some 0))]])++G)
  (fun z=>∃ l',z=some (.exit 2 (fr 208 l') ([cdO (pkAt L unt q0 need code code.length).code,.slot,rB (pkAt L unt q0 need code code.length).free,.cells 25 [.c x0,.c x1,.c x2,.c x3],.cells 25 [.c z0,.c z1,.c z2,.c z3],.cells 78 (lifeC y0 y1 y2 y3 (.slice (encB need) need.length false none) code.length no unt.length),rI L.a,rI L.b,rI L.sets,.row false 3 c9,rI unt,.map 72 (entsI (pkAt L unt q0 need code code.length).at_),.cells 75 [.hmap 11,hI 2 (pkAt L unt q0 need code code.length).free.length],.cells 25 [ii ins,ii (pkAt L unt q0 need code code.length).regs,lv 0 5 (pkAt L unt q0 need code code.length).code.length,.c (.slice [] 0 true (some 0))]]))∧asc l' 2=.ptr 4 0∧asc l' 4=.ptr 5 0∧asc l' 6=.ptr 12 0∧asc l' 8=.ptr 13 0∧asc l' 77=sC code nl cap∧asc l' 78=ii code.length∧asc l' 79=ii code.length) ?_ code.length 0 k l _ (by omega) hk ⟨a2,a4,a6,a8,a77,a78,a79,[],by rw [List.append_nil]⟩
 clear hk a2 a4 a6 a8 a77 a78 a79
 rintro i k l H hi ⟨a2,a4,a6,a8,a77,a78,a79,G,rfl⟩
 have ht:trim 14 (fr 208 (keep l [2,4,6,8,77,78,79])) (([cdO (pkAt L unt q0 need code i).code,.slot,rB (pkAt L unt q0 need code i).free,.cells 25 [.c x0,.c x1,.c x2,.c x3],.cells 25 [.c z0,.c z1,.c z2,.c z3],.cells 78 (lifeC y0 y1 y2 y3 (.slice (encB need) need.length false none) code.length no unt.length),rI L.a,rI L.b,rI L.sets,.row false 3 c9,rI unt,.map 72 (entsI (pkAt L unt q0 need code i).at_),.cells 75 [.hmap 11,hI 2 (pkAt L unt q0 need code i).free.length],.cells 25 [ii ins,ii (pkAt L unt q0 need code i).regs,lv 0 5 (pkAt L unt q0 need code i).code.length,.c (.slice [] 0 true (some 0))]])++G)=([cdO (pkAt L unt q0 need code i).code,.slot,rB (pkAt L unt q0 need code i).free,.cells 25 [.c x0,.c x1,.c x2,.c x3],.cells 25 [.c z0,.c z1,.c z2,.c z3],.cells 78 (lifeC y0 y1 y2 y3 (.slice (encB need) need.length false none) code.length no unt.length),rI L.a,rI L.b,rI L.sets,.row false 3 c9,rI unt,.map 72 (entsI (pkAt L unt q0 need code i).at_),.cells 75 [.hmap 11,hI 2 (pkAt L unt q0 need code i).free.length],.cells 25 [ii ins,ii (pkAt L unt q0 need code i).regs,lv 0 5 (pkAt L unt q0 need code i).code.length,.c (.slice [] 0 true (some 0))]]):=Qa4 (by simp) (by simp only [a2,a4,a6,a8,a77,a78,a79,QaY,EVb,EVc,seval]) (by simp only [QaY,EVb,EVc,seval])
 by_cases hc:i<code.length
 ·have hc':(i:Int)<((code.length:Nat):Int):=by omega
  have hc0:(0:Int)≤i:=by omega
  have hw:IntKind.wrap .i64 ((i:Int)+1)=((i+1:Nat):Int):=by rw [wrap64 (by omega) (by omega)];omega
  have hx:=Qbg hc
  obtain⟨x,hX⟩:∃ x,x=code[i]:=⟨_,rfl⟩
  have hst:pkAt L unt q0 need code (i+1)=if need.getD i false=true then Qd8 L unt (pkAt L unt q0 need code i) i x else pkAt L unt q0 need code i:=by rw [Qkc hc,hX]
  rw[← hX] at hx
  obtain⟨hok,hfl,hcl⟩:=Qn6 (L:=L) (unt:=unt) (need:=need) (code:=code) h0 i
  have hfr:=hfresh i hc
  have hvl:=hval i hc
  obtain⟨q,hQ⟩:∃ q,q=pkAt L unt q0 need code i:=⟨_,rfl⟩
  rw[hst]
  rw[← hQ] at hok hfl hcl hfr ht ⊢
  have hnb:=QqG (l:=need) (i:=i) (by omega)
  have hnl:(encB need).length=code.length:=by rw [QaM,hnd]
  have ga:=QaL (l:=L.a) (r:=(i:Int)) hc0 (by omega)
  have gb:=QaL (l:=L.b) (r:=(i:Int)) hc0 (by omega)
  have gs:=QaL (l:=L.sets) (r:=(i:Int)) hc0 (by omega)
  rw[Int.toNat_natCast] at ga gb gs
  have eal:=Qaj L.a
  have ebl:=Qaj L.b
  have esl:=Qaj L.sets
  have hA:=QeJ (kf+0) x.op x.to x.a x.b x.c
  simp only[run,aI,ii] at hA
  cases hni:need.getD i false with
  | false =>
   rw[if_neg (by simp)]
   rw[hni] at hnb
   simp only[Qaa,ht]
   simp only[a2,a4,a6,a8,a77,a78,a79,hc',hc0,hw,hx,hnb,hnl,hnd,Qaa,Qag,Qae,Qab,LP,Tryd.f15,FT,seval]
   refine .inr ⟨_,_,hc,rfl,(by rfl),(by rfl),(by rfl),(by rfl),(by rfl),(by rfl),(by rfl), ?_⟩
   exact⟨_,by rfl⟩
  | true =>
   rw[if_pos rfl]
   rw[hni] at hnb
   simp only[Qaa,ht]
   simp only[a2,a4,a6,a8,a77,a78,a79,hc',hc0,hw,hx,hnb,hnl,hnd,hA,Qaa,Qag,Qae,Qab,LP,Tryd.f15,FT,seval]
   rw[Qaf Tryd.f15 18 QDX];rotate_left;rfl
   simp only[a2,a4,a6,a8,a77,a78,a79,hc',hc0,hw,Q2D,ga,eal,la,EVd,List.getElem?_nil,Nat.reducePow,Nat.reduceDiv,Nat.reduceMod,FT,seval]
   by_cases h34:x.op=3∨x.op=4
   ·have hl2:(asks ⟨x.op,x.to,x.a,x.b,x.c⟩).length=2:=by rw [Qdc h34];rfl
    have h12:(1:Int)<((2:Nat):Int):=by decide
    try simp only [a2,a4,a6,a8,a77,a78,a79,hc',hc0,hw,hl2,h12,FT,seval]
    rw[Qaf Tryd.f15 20 QEr];rotate_left;rfl
    simp only[a2,a4,a6,a8,a77,a78,a79,hc',hc0,hw,Q2D,gb,ebl,lb,EVd,List.getElem?_nil,Nat.reducePow,Nat.reduceDiv,Nat.reduceMod,FT,seval]
    rw[Qaf Tryd.f15 21 Q8g];rotate_left;rfl
    simp only[a2,a4,a6,a8,a77,a78,a79,hc',hc0,hw,ga,gb,eal,ebl,la,lb,EVd,List.getElem?_nil,Nat.reducePow,Nat.reduceDiv,Nat.reduceMod,FT,seval]
    rw[Qai Qkx Q8t];rotate_left;rfl;rfl;rfl
    generalize hz:Qar _ _ _ _ _ _ _ _ _ _ _ _=z
    obtain⟨⟨va0,va1⟩,⟨vb0,vb1⟩⟩:=hvl hni
    obtain⟨l',rfl,e2,e4,e6,e8,e9,e10,e77,e78,e79,_,_⟩:=QlJ (kf+1) _ _ _ _ _ _ _ _ _ _ (by simp only [FT,seval]) (by simp only [FT,seval]) (by simp only [FT,seval]) (by simp only [FT,seval]) (by simp only [FT,seval]) (by simp only [FT,seval]) (by simp only [FT,seval]) (by simp only [FT,seval]) (by simp only [FT,seval]) (by simp only [FT,seval]) _ _ _ _ _ _ _ unt q hok i (L.a.getD i 0) (L.b.getD i 0) ⟨va0,va1⟩ ⟨vb0,vb1⟩ code.length _ _ _ z hz (by omega) (by rfl) (by rfl) (by rfl) (by rfl) (by rfl) (by rfl) (by rfl) (by rfl) (by rfl) (by rfl) (by rfl)
    clear hz
    obtain⟨f2,hf2⟩:∃ f2,f2=QdF q.at_ unt i q.free (L.a.getD i 0) (L.b.getD i 0) 2:=⟨_,rfl⟩
    have hf2l:f2.length=q.free.length:=by rw [hf2,Qe4]
    obtain⟨G2,hG⟩:=Q8q kf q.at_ f2 (L.sets.getD i 0) (hfr hni) (by omega) (by intro h;rw [h] at hf2l;have:=hok.pos;simp at hf2l;omega) (by omega)
    rw[← hf2,← hf2l]
    simp only[ii] at hG
    have hps:Qd8 L unt q i x=⟨q.at_++[(L.sets.getD i 0,(Qbe f2:Int))],Qie f2,q.code++[⟨x.op,Qbe f2,atI q.at_ (L.a.getD i 0),atI q.at_ (L.b.getD i 0),x.c⟩],if ((Qbe f2:Nat):Int)+1 > q.regs then ((Qbe f2:Nat):Int)+1 else q.regs⟩:=by
     rw[hf2]
     simp only[Qd8,if_pos h34,QdF]
    rw[hps]
    have hlm:=Qeh f2
    have hwr:IntKind.wrap .i64 ((Qbe f2:Int)+1)=(Qbe f2:Int)+1:=by rw [wrap64 (by omega) (by omega)]
    have hap:=fun X cs=>QcN (e:=61) (n:=q.code.length) (sz:=5) (by_:=40) (cells:=Qak q.code) (cs:=cs) (X:=X) (Nat.le_trans (Nat.mul_le_mul_right 40 (show q.code.length+1≤30001 by simp only [hc0',List.length_nil] at hcl;omega)) (by decide)) (by decide) (Qau _)
    try simp only [a2,a4,a6,a8,a77,a78,a79,hc',hc0,hw,e2,e4,e6,e8,e9,e10,e77,e78,e79,gs,esl,ls,Qet,Qev,hG,hap,hwr,FT,seval]
    refine .inr ⟨_,_,hc,rfl,e2,e4,e6,e8,e77,e78,(by rfl), ?_⟩
    simp only[cdO,List.length_append,List.length_cons,List.length_nil,Nat.zero_add,Qbv,Qak,enc1,List.append_nil]
    exact⟨_,by rfl⟩
   ·have hl1:¬ (1:Int)<((asks ⟨x.op,x.to,x.a,x.b,x.c⟩).length:Int):=by
     unfold asks
     rw[if_neg h34]
     split<;>simp
    try simp only [a2,a4,a6,a8,a77,a78,a79,hc',hc0,hw,hl1,FT,seval]
    rw[Qaf Tryd.f15 21 Q8g];rotate_left;rfl
    simp only[a2,a4,a6,a8,a77,a78,a79,hc',hc0,hw,ga,gb,eal,ebl,la,lb,EVd,List.getElem?_nil,Nat.reducePow,Nat.reduceDiv,Nat.reduceMod,FT,seval]
    rw[Qai Qkx Q8t];rotate_left;rfl;rfl;rfl
    generalize hz:Qar _ _ _ _ _ _ _ _ _ _ _ _=z
    obtain⟨⟨va0,va1⟩,⟨vb0,vb1⟩⟩:=hvl hni
    obtain⟨l',rfl,e2,e4,e6,e8,e9,e10,e77,e78,e79,_,_⟩:=QlJ (kf+1) _ _ _ _ _ _ _ _ _ _ (by simp only [FT,seval]) (by simp only [FT,seval]) (by simp only [FT,seval]) (by simp only [FT,seval]) (by simp only [FT,seval]) (by simp only [FT,seval]) (by simp only [FT,seval]) (by simp only [FT,seval]) (by simp only [FT,seval]) (by simp only [FT,seval]) _ _ _ _ _ _ _ unt q hok i (L.a.getD i 0) (L.b.getD i 0) ⟨va0,va1⟩ ⟨vb0,vb1⟩ code.length _ _ _ z hz (by omega) (by rfl) (by rfl) (by rfl) (by rfl) (by rfl) (by rfl) (by rfl) (by rfl) (by rfl) (by rfl) (by rfl)
    clear hz
    obtain⟨f2,hf2⟩:∃ f2,f2=QdF q.at_ unt i q.free (L.a.getD i 0) (L.b.getD i 0) 2:=⟨_,rfl⟩
    have hf2l:f2.length=q.free.length:=by rw [hf2,Qe4]
    obtain⟨G2,hG⟩:=Q8q kf q.at_ f2 (L.sets.getD i 0) (hfr hni) (by omega) (by intro h;rw [h] at hf2l;have:=hok.pos;simp at hf2l;omega) (by omega)
    rw[← hf2,← hf2l]
    simp only[ii] at hG
    have hps:Qd8 L unt q i x=⟨q.at_++[(L.sets.getD i 0,(Qbe f2:Int))],Qie f2,q.code++[⟨x.op,Qbe f2,atI q.at_ (L.a.getD i 0),x.b,x.c⟩],if ((Qbe f2:Nat):Int)+1 > q.regs then ((Qbe f2:Nat):Int)+1 else q.regs⟩:=by
     rw[hf2]
     simp only[Qd8,if_neg h34,QdF]
    rw[hps]
    have hlm:=Qeh f2
    have hwr:IntKind.wrap .i64 ((Qbe f2:Int)+1)=(Qbe f2:Int)+1:=by rw [wrap64 (by omega) (by omega)]
    have hap:=fun X cs=>QcN (e:=61) (n:=q.code.length) (sz:=5) (by_:=40) (cells:=Qak q.code) (cs:=cs) (X:=X) (Nat.le_trans (Nat.mul_le_mul_right 40 (show q.code.length+1≤30001 by simp only [hc0',List.length_nil] at hcl;omega)) (by decide)) (by decide) (Qau _)
    try simp only [a2,a4,a6,a8,a77,a78,a79,hc',hc0,hw,e2,e4,e6,e8,e9,e10,e77,e78,e79,gs,esl,ls,Qet,Qev,hG,hap,hwr,FT,seval]
    refine .inr ⟨_,_,hc,rfl,e2,e4,e6,e8,e77,e78,(by rfl), ?_⟩
    simp only[cdO,List.length_append,List.length_cons,List.length_nil,Nat.zero_add,Qbv,Qak,enc1,List.append_nil]
    exact⟨_,by rfl⟩
 ·refine .inl ?_
  obtain rfl:i=code.length:=by omega
  have hc':¬ (((code.length:Nat):Int)<((code.length:Nat):Int)):=by omega
  simp only[Qaa,ht]
  simp only[a2,a4,a6,a8,a77,a78,a79,hc',Qaa,Qag,Qae,Qab,LP,Tryd.f15,FT,seval]
  exact⟨_,rfl,(by rfl),(by rfl),(by rfl),(by rfl),(by rfl),(by rfl),(by rfl)⟩
def atL (at_:List (Int × Int)) (vs:List Int):List Int:=vs.map fun v=>atI at_ v
theorem QAW {at_:List (Int × Int)} {vs:List Int} {i:Nat} (h:i<vs.length):atL at_ (vs.take (i+1))=atL at_ (vs.take i)++[atI at_ vs[i]]:=by
 rw[List.take_succ_eq_append_getElem h,atL,atL,List.map_append];rfl
theorem Q6c (at_:List (Int × Int)) (vs:List Int):(atL at_ vs).length=vs.length:=by simp [atL]
theorem QlA (kf:Nat) (o0 o2 o3 o4 o5 o6 o7 o8 o10:AObj) (uo0:AObj.under 14 o0=true) (uo2:AObj.under 14 o2=true) (uo3:AObj.under 14 o3=true) (uo4:AObj.under 14 o4=true) (uo5:AObj.under 14 o5=true) (uo6:AObj.under 14 o6=true) (uo7:AObj.under 14 o7=true) (uo8:AObj.under 14 o8=true) (uo10:AObj.under 14 o10=true) (at_:List (Int × Int)) (fl cl:Nat) (i0 i1:IV) (vs:List Int) (hlen:vs.length≤20000) (k:Nat) (l:Ass) (z:Option Out) (hz:Qar Tryd.prog tab kf none Qmg 15 208 [2,6,8,189,190,191] 14 k l ([o0,lo 3 0 (Qal (atL at_ (vs.take 0))),o2,o3,o4,o5,o6,o7,o8,rI vs,o10,.map 72 (entsI at_),.cells 75 [.hmap 11,hI 2 fl],.cells 25 [.c i0,.c i1,lv 0 5 cl,lv 1 1 0]])=z) (hk:vs.length<k) (a2:asc l 2=.ptr 4 0) (a6:asc l 6=.ptr 12 0) (a8:asc l 8=.ptr 13 0) (a189:asc l 189=hI 9 vs.length) (a190:asc l 190=ii vs.length) (a191:asc l 191=ii 0) :
  ∃ l',z=some (.exit 6 (fr 208 l') ([o0,lo 3 vs.length (Qal (atL at_ (vs.take vs.length))),o2,o3,o4,o5,o6,o7,o8,rI vs,o10,.map 72 (entsI at_),.cells 75 [.hmap 11,hI 2 fl],.cells 25 [.c i0,.c i1,lv 0 5 cl,lv 1 1 vs.length]]))∧asc l' 2=.ptr 4 0∧asc l' 6=.ptr 12 0∧asc l' 8=.ptr 13 0∧asc l' 189=hI 9 vs.length∧asc l' 190=ii vs.length∧asc l' 191=ii vs.length:=by
 subst hz
 refine Qa1 vs.length (fun k l H=>Qar Tryd.prog tab kf none Qmg 15 208 [2,6,8,189,190,191] 14 k l H)
  (fun i l H=>asc l 2=.ptr 4 0∧asc l 6=.ptr 12 0∧asc l 8=.ptr 13 0∧asc l 189=hI 9 vs.length∧asc l 190=ii vs.length∧asc l 191=ii i∧∃ G,H=([o0,lo 3 i (Qal (atL at_ (vs.take i))),o2,o3,o4,o5,o6,o7,o8,rI vs,o10,.map 72 (entsI at_),.cells 75 [.hmap 11,hI 2 fl],.cells 25 [.c i0,.c i1,lv 0 5 cl,lv 1 1 i]])++G)
  (fun z=>∃ l',z=some (.exit 6 (fr 208 l') ([o0,lo 3 vs.length (Qal (atL at_ (vs.take vs.length))),o2,o3,o4,o5,o6,o7,o8,rI vs,o10,.map 72 (entsI at_),.cells 75 [.hmap 11,hI 2 fl],.cells 25 [.c i0,.c i1,lv 0 5 cl,lv 1 1 vs.length]]))∧asc l' 2=.ptr 4 0∧asc l' 6=.ptr 12 0∧asc l' 8=.ptr 13 0∧asc l' 189=hI 9 vs.length∧asc l' 190=ii vs.length∧asc l' 191=ii vs.length) ?_ vs.length 0 k l _ (by omega) hk ⟨a2,a6,a8,a189,a190,a191,[],by rw [List.append_nil]⟩
 clear hk a2 a6 a8 a189 a190 a191
 rintro i k l H hi ⟨a2,a6,a8,a189,a190,a191,G,rfl⟩
 have ht:trim 14 (fr 208 (keep l [2,6,8,189,190,191])) (([o0,lo 3 i (Qal (atL at_ (vs.take i))),o2,o3,o4,o5,o6,o7,o8,rI vs,o10,.map 72 (entsI at_),.cells 75 [.hmap 11,hI 2 fl],.cells 25 [.c i0,.c i1,lv 0 5 cl,lv 1 1 i]])++G)=([o0,lo 3 i (Qal (atL at_ (vs.take i))),o2,o3,o4,o5,o6,o7,o8,rI vs,o10,.map 72 (entsI at_),.cells 75 [.hmap 11,hI 2 fl],.cells 25 [.c i0,.c i1,lv 0 5 cl,lv 1 1 i]]):=Qa4 (by simp) (by simp only [a2,a6,a8,a189,a190,a191,QaY,uo0,uo2,uo3,uo4,uo5,uo6,uo7,uo8,uo10,EVb,EVc,seval]) (by simp only [QaY,uo0,uo2,uo3,uo4,uo5,uo6,uo7,uo8,uo10,EVb,EVc,seval])
 by_cases hc:i<vs.length
 ·have hc':(i:Int)<((vs.length:Nat):Int):=by omega
  have hc0:(0:Int)≤i:=by omega
  have hw:IntKind.wrap .i64 ((i:Int)+1)=((i+1:Nat):Int):=by rw [wrap64 (by omega) (by omega)];omega
  have hx:=QaT hc
  have hlen2:(atL at_ (vs.take i)).length=i:=by rw [Q6c,List.length_take];omega
  have hap:=fun x0 X cs=>Qgq (e:=3) (s:=1) (n:=i) (m:=1) (sz:=1) (by_:=8) (cells:=Qal (atL at_ (vs.take i))) (cs:=cs) (H:=x0::lo 3 i (Qal (atL at_ (vs.take i)))::X) (by decide) (Nat.le_trans (Nat.mul_le_mul_right 8 (show i+1≤20001 by omega)) (by decide)) (by decide) rfl (by rw [Qaj,hlen2,Nat.mul_one])
  have hnx:=QAW (at_:=at_) hc
  obtain⟨v,hv⟩:∃ v,v=vs[i]:=⟨_,rfl⟩
  rw[← hv] at hx hnx
  have hel:=Qaj vs
  rw[hnx,QbL]
  simp only[Qaa,ht]
  simp only[a2,a6,a8,a189,a190,a191,hc',hc0,hw,hx,hel,Qaa,Qag,Qae,Qab,LP,Tryd.f15,FT,seval]
  rw[Qaf Tryd.f15 34 QD2];rotate_left;rfl
  simp only[a2,a6,a8,a189,a190,a191,hc',hc0,hw,hx,hel,Q2D,hap,EVd,List.getElem?_nil,Nat.reducePow,Nat.reduceDiv,Nat.reduceMod,FT,seval]
  refine .inr ⟨_,_,hc,rfl,(by rfl),(by rfl),(by rfl),(by rfl),(by rfl),(by rfl), ?_⟩
  exact⟨_,by rfl⟩
 ·refine .inl ?_
  obtain rfl:i=vs.length:=by omega
  have hc':¬ (((vs.length:Nat):Int)<((vs.length:Nat):Int)):=by omega
  simp only[Qaa,ht]
  simp only[a2,a6,a8,a189,a190,a191,hc',Qaa,Qag,Qae,Qab,LP,Tryd.f15,FT,seval]
  exact⟨_,rfl,(by rfl),(by rfl),(by rfl),(by rfl),(by rfl),(by rfl)⟩
theorem QfN {l:List Int} {i k:Nat} {v:Int}:(l.set i v).getD k 0=if i=k∧i<l.length then v else l.getD k 0:=by
 rw[List.getD_eq_getElem?_getD,List.getD_eq_getElem?_getD,List.getElem?_set]
 by_cases h:i=k
 ·subst h
  by_cases h2:i<l.length
  ·simp[h2]
  ·simp[h2]
 ·simp[h]
theorem Q86 {q0:Lv} {need:List Bool} {code:List Ins} {n:Nat} (h0:LvOk q0 n code.length) {k:Nat} {x:Ins} (hx:code[k]?=some x) (hk:need.getD k false=true):∀ j,k<j→j≤code.length →
  (lvAt q0 need code j).a.getD k 0=(lvAt q0 need code k).held.getD x.a.toNat 0∧(lvAt q0 need code j).b.getD k 0=lvB (lvAt q0 need code k).held x∧(lvAt q0 need code j).sets.getD k 0=(lvAt q0 need code k).unt.length
 | 0,h,_=>by omega
 | j+1,h,hj=>by
  have hjl:j<code.length:=by omega
  obtain⟨hok,_⟩:=Qg3 (need:=need) (code:=code) h0 j
  rw[Qfv hjl]
  by_cases hkj:k=j
  ·subst hkj
   have e:code[k]=x:=by rw [List.getElem?_eq_getElem hjl] at hx;injection hx
   rw[if_pos hk,e]
   simp only[Qdi,QfN,hok.a,hok.b,hok.sets,hjl,and_self,if_true]
  ·obtain⟨h1,h2,h3⟩:=Q86 h0 hx hk j (by omega) (by omega)
   split
   ·simp only[Qdi,QfN,show ¬ j=k from fun h=>hkj h.symm,false_and,if_false]
    exact⟨h1,h2,h3⟩
   ·exact⟨h1,h2,h3⟩
theorem QlY {q0:Lv} {need:List Bool} {code:List Ins} (i:Nat):(lvAt q0 need code i).unt.length≤(lvAt q0 need code (i+1)).unt.length:=by
 by_cases h:i<code.length
 ·rw[Qfv h]
  split
  ·rw[QfD];omega
  ·exact Nat.le_refl _
 ·rw[lvAt,List.getElem?_eq_none (by omega)]
  exact Nat.le_refl _
theorem Q6W {q0:Lv} {need:List Bool} {code:List Ins} {n:Nat} {L:Lv} {unt:List Int} {p0:Pk} (h0:LvOk q0 n code.length) (hL:L=lvAt q0 need code code.length) (hk0:∀ e ∈ p0.at_,e.1<q0.unt.length) :
  ∀ i,i≤code.length→∀ e ∈ (pkAt L unt p0 need code i).at_,e.1<(lvAt q0 need code i).unt.length
 | 0,_,e,he=>hk0 e he
 | i+1,hi,e,he=>by
  have hil:i<code.length:=by omega
  have ih:=Q6W (unt:=unt) h0 hL hk0 i (by omega)
  rw[Qkc hil] at he
  rw[Qfv hil]
  by_cases hn:need.getD i false=true
  ·rw[if_pos hn] at he ⊢
   rw[QfD]
   simp only[Qd8,List.mem_append,List.mem_singleton] at he
   rcases he with he | rfl
   ·have:=ih e he;omega
   ·have:=(Q86 h0 (List.getElem?_eq_getElem hil) hn code.length hil (Nat.le_refl _)).2.2
    rw[← hL] at this
    simp only[this]
    omega
  ·rw[if_neg hn] at he ⊢
   exact ih e he
theorem QrK {q0:Lv} {need:List Bool} {code:List Ins} {n:Nat} {L:Lv} {unt:List Int} {p0:Pk} (h0:LvOk q0 n code.length) (hL:L=lvAt q0 need code code.length) (hk0:∀ e ∈ p0.at_,e.1<q0.unt.length) (i:Nat) (hi:i<code.length) (hn:need.getD i false=true) :
  Qcj (L.sets.getD i 0) (pkAt L unt p0 need code i).at_=none:=QhL fun e he=>by
 have h1:=Q6W (unt:=unt) h0 hL hk0 i (by omega) e he
 have h2:=(Q86 h0 (List.getElem?_eq_getElem hi) hn code.length hi (Nat.le_refl _)).2.2
 rw[← hL] at h2
 omega
theorem Qm2 (b:Bool):∀ (rs:List Int) (l:List Bool) (j:Nat),j<l.length→(mark l b rs).getD j false=if (rs.any fun r=>r.toNat == j)=true then b else l.getD j false
 | [],l,j,_=>by simp [mark]
 | r::rs,l,j,h=>by
  rw[mark,Qm2 b rs _ j (by simpa using h)]
  by_cases hr:r.toNat=j
  ·subst hr
   simp[h]
  ·simp only[List.any_cons,beq_iff_eq,hr,decide_false,Bool.false_or,show (r.toNat == j)=false by simpa using hr]
   split
   ·rfl
   ·simp[List.getElem?_set_ne hr]
def Qko (outs:List Int) (r:Int):List Ins→List Bool→Bool
 | i::rest,f::fl=>(f&&(asks i).any (· == r)) || (!(decide (i.to=r))&&Qko outs r rest fl)
 | _,_=>outs.any (· == r)
def QgG (outs:List Int):List Ins→List Bool
 | []=>[]
 | i::rest=>Qko outs i.to rest (QgG outs rest)::QgG outs rest
theorem Qrd {x:Ins} {n:Nat} (h:mayM x n=true):(0≤x.to∧x.to<(n:Int))∧∀ r ∈ asks x,0≤r∧r<(n:Int):=by
 have hm:=h
 simp only[mayM,Bool.and_eq_true,decide_eq_true_eq] at hm
 refine⟨by omega,fun r hr=>?_⟩
 unfold asks at hr
 split at hr
 ·rcases List.mem_cons.1 hr with rfl | hr
  ·omega
  ·rcases List.mem_cons.1 hr with rfl | hr
   ·omega
   ·cases hr
 ·split at hr
  ·rcases List.mem_cons.1 hr with rfl | hr
   ·omega
   ·cases hr
  ·cases hr
theorem Qmp {n:Nat} {r:Int} (h0:0≤r):∀ ls:List Int,(∀ a ∈ ls,0≤a∧a<(n:Int))→(ls.any fun a=>a.toNat == r.toNat)=ls.any (· == r)
 | [],_=>rfl
 | a::ls,h=>by
  obtain⟨g,_⟩:=h a (by simp)
  rw[List.any_cons,List.any_cons,Qmp h0 ls fun b hb=>h b (by simp [hb])]
  congr 1
  rw[Bool.eq_iff_iff]
  simp only[beq_iff_eq]
  omega
theorem Qqg {n:Nat} {outs:List Int} (ho:∀ r ∈ outs,0≤r∧r<(n:Int)) {r:Int} (h0:0≤r) (h1:r<n):(QbB n outs).getD r.toNat false=outs.any (· == r):=by
 unfold QbB
 rw[Qm2 _ _ _ _ (by simp;omega),Qmp (n:=n) h0 outs ho]
 cases hh:outs.any (· == r)
 ·rw[if_neg (by simp),List.getD_eq_getElem?_getD,List.getElem?_replicate];split<;>rfl
 ·rfl
theorem Q6Q (n:Nat) (outs:List Int) (ho:∀ r ∈ outs,0≤r∧r<(n:Int)):∀ code:List Ins,(∀ i ∈ code,mayM i n=true) →
  (QaP (QbB n outs) code).2=QgG outs code∧(QaP (QbB n outs) code).1.length=n∧∀ r:Int,0≤r→r<n→(QaP (QbB n outs) code).1.getD r.toNat false=Qko outs r code (QgG outs code)
 | [],_=>⟨rfl,by simp [QaP,QbB,Qbr],fun r h0 h1=>by rw [QaP];exact Qqg ho h0 h1⟩
 | i::rest,h=>by
  obtain⟨g1,g2,g3⟩:=Q6Q n outs ho rest fun j hj=>h j (by simp [hj])
  obtain⟨⟨t0,t1⟩,ha⟩:=Qrd (h i (by simp))
  have ht:=g3 i.to t0 t1
  rw[QaP,QgG]
  rw[ht,g1]
  cases hf:Qko outs i.to rest (QgG outs rest) with
  | true =>
   rw[if_pos rfl]
   refine⟨rfl,by simp [Qbr,g2],fun r h0 h1=>?_⟩
   rw[Qm2 _ _ _ _ (by simp [g2];omega),Qmp (n:=n) h0 _ ha,Qko,Bool.true_and]
   by_cases hr:i.to=r
   ·rw[hr]
    have:((QaP (QbB n outs) rest).1.set r.toNat false).getD r.toNat false=false:=by
     simp[g2,show r.toNat<n by omega]
    rw[this]
    cases (asks i).any (· == r)<;>simp
   ·have:((QaP (QbB n outs) rest).1.set i.to.toNat false).getD r.toNat false=Qko outs r rest (QgG outs rest):=by
     rw[← g3 r h0 h1]
     simp[List.getElem?_set_ne (show i.to.toNat≠r.toNat by omega)]
    rw[this,decide_eq_false hr]
    cases (asks i).any (· == r)<;>simp
  | false =>
   rw[if_neg (by simp)]
   refine⟨rfl,g2,fun r h0 h1=>?_⟩
   rw[Qko,Bool.false_and,Bool.false_or]
   by_cases hr:i.to=r
   ·rw[← hr,ht,hf];simp
   ·rw[decide_eq_false hr,g3 r h0 h1];simp
theorem Q7z (n:Nat) (ins:Int) (code:List Ins) (outs:List Int) (hr:Qax ⟨ins,n,code,outs⟩=true):QgG outs code=QaB ⟨ins,n,code,outs⟩:=by
 simp only[Qax,Qdh,Bool.and_eq_true,decide_eq_true_eq] at hr
 obtain⟨⟨hh,ho⟩,hc⟩:=hr
 have hout:∀ r ∈ outs,0≤r∧r<(n:Int):=fun r h=>by have:=List.all_eq_true.1 ho r h;simpa using this
 have hcode:∀ i ∈ code,mayM i n=true:=fun i h=>List.all_eq_true.1 hc i h
 exact((Q6Q n outs hout code hcode).1).symm
end Go.Proofs.Sw
