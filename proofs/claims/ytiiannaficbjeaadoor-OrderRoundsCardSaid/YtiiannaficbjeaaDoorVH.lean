/- A part of the proof: what functions of the program answer; conditions stand in each theorem. -/
import Derived.Test.YtiiannaficbjeaaDoorVG
set_option linter.unusedVariables false
set_option linter.unusedSimpArgs false
set_option linter.unusedSectionVars false
namespace Go.Proofs.Sw
open Go.Ab
variable [Globals]
theorem Q8G (kf:Nat) (x0 y0:IV) (X y:List Nat) (nl nl2:Bool) (cap cap2:Option Nat) (o2:AObj) (ho2:AObj.under 4 o2=true) (O:List Nat) (p L:Nat) (hO:MuOk y L p O) (hX:okD X) (hy:okD y) (hp:p<X.length) (hL:L=X.length+y.length+1) (hLb:L≤200000) (k:Nat) (l:Ass) (z:Option Out) (hz:Qar Tryd.prog tab kf none Qr4 120 82 [2,3,4,5,6,7,8] 4 k l ([.cells 58 [.c x0,sD X nl cap],.cells 58 [.c y0,sD y nl2 cap2],o2,rD (mS O (X.getD p 0) y p 0).1])=z) (hk:mN O (X.getD p 0) y p<k) (a2:asc l 2=.ptr 0 0) (a3:asc l 3=.ptr 1 0) (a4:asc l 4=.ptr 2 0) (a5:asc l 5=.hsl 3 0 L L 1) (a6:asc l 6=ii p) (a7:asc l 7=.c (.int .u64 ((mS O (X.getD p 0) y p 0).2:Nat))) (a8:asc l 8=ii 0) :
  ∃ l',z=some (.exit 2 (fr 82 l') ([.cells 58 [.c x0,sD X nl cap],.cells 58 [.c y0,sD y nl2 cap2],o2,rD (mS O (X.getD p 0) y p (mN O (X.getD p 0) y p)).1]))∧asc l' 2=.ptr 0 0∧asc l' 3=.ptr 1 0∧asc l' 4=.ptr 2 0∧asc l' 5=.hsl 3 0 L L 1∧asc l' 6=ii p∧asc l' 7=.c (.int .u64 ((mS O (X.getD p 0) y p (mN O (X.getD p 0) y p)).2:Nat))∧asc l' 8=ii (mN O (X.getD p 0) y p):=by
 subst hz
 have hn:mN O (X.getD p 0) y p≤y.length+1:=by unfold mN;split<;>omega
 refine Qa1 (mN O (X.getD p 0) y p) (fun k l H=>Qar Tryd.prog tab kf none Qr4 120 82 [2,3,4,5,6,7,8] 4 k l H)
  (fun i l H=>asc l 2=.ptr 0 0∧asc l 3=.ptr 1 0∧asc l 4=.ptr 2 0∧asc l 5=.hsl 3 0 L L 1∧asc l 6=ii p∧asc l 7=.c (.int .u64 ((mS O (X.getD p 0) y p i).2:Nat))∧asc l 8=ii i∧∃ G,H=([.cells 58 [.c x0,sD X nl cap],.cells 58 [.c y0,sD y nl2 cap2],o2,rD (mS O (X.getD p 0) y p i).1])++G)
  (fun z=>∃ l',z=some (.exit 2 (fr 82 l') ([.cells 58 [.c x0,sD X nl cap],.cells 58 [.c y0,sD y nl2 cap2],o2,rD (mS O (X.getD p 0) y p (mN O (X.getD p 0) y p)).1]))∧asc l' 2=.ptr 0 0∧asc l' 3=.ptr 1 0∧asc l' 4=.ptr 2 0∧asc l' 5=.hsl 3 0 L L 1∧asc l' 6=ii p∧asc l' 7=.c (.int .u64 ((mS O (X.getD p 0) y p (mN O (X.getD p 0) y p)).2:Nat))∧asc l' 8=ii (mN O (X.getD p 0) y p)) ?_ (mN O (X.getD p 0) y p) 0 k l _ (by omega) hk ⟨a2,a3,a4,a5,a6,a7,a8,[],by rw [List.append_nil]⟩
 clear hk a2 a3 a4 a5 a6 a7 a8
 rintro i k l H hi ⟨a2,a3,a4,a5,a6,a7,a8,G,rfl⟩
 have ht:trim 4 (fr 82 (keep l [2,3,4,5,6,7,8])) (([.cells 58 [.c x0,sD X nl cap],.cells 58 [.c y0,sD y nl2 cap2],o2,rD (mS O (X.getD p 0) y p i).1])++G)=([.cells 58 [.c x0,sD X nl cap],.cells 58 [.c y0,sD y nl2 cap2],o2,rD (mS O (X.getD p 0) y p i).1]):=Qa4 (by simp) (by simp only [a2,a3,a4,a5,a6,a7,a8,ho2,EVb,EVc,seval]) (by simp only [ho2,EVb,EVc,seval])
 by_cases hc:i<(mN O (X.getD p 0) y p)
 ·have hc':(i:Int)<((mN O (X.getD p 0) y p:Nat):Int):=by omega
  have hc0:(0:Int)≤i:=by omega
  have hw:IntKind.wrap .i64 ((i:Int)+1)=((i+1:Nat):Int):=by rw [wrap64 (by omega) (by omega)];omega
  have hx:=QaW hX p
  obtain⟨h1,h2,h3,h4⟩:=Qhk hO hx hy i (by omega)
  have hms:mS O (X.getD p 0) y p (i+1)=((mS O (X.getD p 0) y p i).1.set (p+i) (((mS O (X.getD p 0) y p i).2+(mS O (X.getD p 0) y p i).1.getD (p+i) 0+(X.getD p 0) * y.getD i 0) % 65536),((mS O (X.getD p 0) y p i).2+(mS O (X.getD p 0) y p i).1.getD (p+i) 0+(X.getD p 0) * y.getD i 0) / 65536):=rfl
  have hor:i<y.length∨0<(mS O (X.getD p 0) y p i).2:=by
   unfold mN at hc
   split at hc
   ·rename_i hp
    by_cases e:i=y.length
    ·rw[← e] at hp;exact .inr hp
    ·omega
   ·omega
  rw[hms]
  obtain⟨P,hPP⟩:∃ P,P=(mS O (X.getD p 0) y p i).1:=⟨_,rfl⟩
  obtain⟨c,hcc⟩:∃ c,c=(mS O (X.getD p 0) y p i).2:=⟨_,rfl⟩
  rw[← hPP] at h1 h2 ht ⊢
  rw[← hcc] at h3 a7 hor ⊢
  have hd:=QaW h2 (p+i)
  have hP:=Qby (l:=P) (i:=p+i) (by omega)
  have hel:=Qa8 P
  rw[h1] at hel
  have hXg:=Qby hp
  obtain⟨x,hxx⟩:∃ x,x=X.getD p 0:=⟨_,rfl⟩
  rw[← hxx] at hx hXg hc ⊢
  have hpX:(p:Int)<X.length:=by omega
  have hp0:(0:Int)≤p:=by omega
  have wp:IntKind.wrap .i64 ((p:Int)+(i:Int))=((p+i:Nat):Int):=by rw [wrap64 (by omega) (by omega)];omega
  have hpN:p+i<L:=by omega
  have hpl:(0:Int)≤((p+i:Nat):Int):=by omega
  have hpl2:((p+i:Nat):Int)<((L:Nat):Int):=by omega
  obtain⟨d,hdd⟩:∃ d,d=P.getD (p+i) 0:=⟨_,rfl⟩
  rw[← hdd] at hd hP ⊢
  have d1:=wr64 (n:=d) (by omega)
  have w0:IntKind.wrap .u64 ((c:Int)+(d:Int))=((c+d:Nat):Int):=by rw [QhB (by omega) (by omega)];omega
  by_cases hib:i<y.length
  ·have hib':(i:Int)<y.length:=by omega
   have hyg:=Qby hib
   have hyd:=QaW hy i
   obtain⟨yy,hyy⟩:∃ yy,yy=y.getD i 0:=⟨_,rfl⟩
   rw[← hyy] at hyg hyd ⊢
   have hmu:=Q1p hx hyd
   have d2:=wr64 (n:=x) (by omega)
   have d3:=wr64 (n:=yy) (by omega)
   have w1:IntKind.wrap .u64 ((x:Int) * (yy:Int))=((x * yy:Nat):Int):=by
    rw[show (x:Int) * (yy:Int)=((x * yy:Nat):Int) by simp,QhB (by omega) (by omega)]
   have w2:IntKind.wrap .u64 (((c+d:Nat):Int)+((x * yy:Nat):Int))=((c+d+x * yy:Nat):Int):=by rw [QhB (by omega) (by omega)];omega
   have r1:=Qiz (c+d+x * yy)
   have r2:=Qj0 (c+d+x * yy)
   have r3:=wr32 (n:=(c+d+x * yy) % 65536) (by omega)
   have r4:=wr64 (n:=(c+d+x * yy) / 65536) (by omega)
   simp only[Qaa,ht]
   simp only[a2,a3,a4,a5,a6,a7,a8,hc',hc0,hw,hP,hel,hpl,hpl2,hpN,wp,d1,w0,r1,r2,r3,r4,hib',Qaa,Qag,Qae,Qab,LP,Tryd.f120,FT,seval]
   rw[Qaf Tryd.f120 11 QAR];rotate_left;rfl
   simp only[a2,a3,a4,a5,a6,a7,a8,hc',hc0,hw,hP,hel,hXg,hyg,hpX,hp0,hib',d2,d3,w1,w2,EVd,List.getElem?_nil,Nat.reducePow,Nat.reduceDiv,Nat.reduceMod,FT,seval]
   try simp only [a2,a3,a4,a5,a6,a7,a8,hc',hc0,hw,hP,hel,hpl,hpl2,hpN,wp,r1,r2,r3,r4,Qe6,FT,seval]
   refine .inr ⟨_,_,hc,rfl,(by rfl),(by rfl),(by rfl),(by rfl),(by rfl),(by rfl),(by rfl), ?_⟩
   exact⟨_,by rfl⟩
  ·have hib':¬ (i:Int)<y.length:=by omega
   have hcp:(0:Int)<((c:Nat):Int):=by omega
   rw[Qea (show y.length≤i by omega)]
   simp only[Nat.mul_zero,Nat.add_zero]
   have r1:=Qiz (c+d)
   have r2:=Qj0 (c+d)
   have r3:=wr32 (n:=(c+d) % 65536) (by omega)
   have r4:=wr64 (n:=(c+d) / 65536) (by omega)
   simp only[Qaa,ht]
   simp only[a2,a3,a4,a5,a6,a7,a8,hc',hc0,hw,hP,hel,hpl,hpl2,hpN,wp,d1,w0,r1,r2,r3,r4,hib',hcp,Qe6,Qaa,Qag,Qae,Qab,LP,Tryd.f120,FT,seval]
   refine .inr ⟨_,_,hc,rfl,(by rfl),(by rfl),(by rfl),(by rfl),(by rfl),(by rfl),(by rfl), ?_⟩
   exact⟨_,by rfl⟩
 ·refine .inl ?_
  obtain rfl:i=(mN O (X.getD p 0) y p):=by omega
  have hc':¬ ((((mN O (X.getD p 0) y p):Nat):Int)<(((mN O (X.getD p 0) y p):Nat):Int)):=by omega
  have hend:=QCM (p:=p) hO (QaW hX p) hy
  have hnb:¬ ((mN O (X.getD p 0) y p:Nat):Int)<y.length:=by unfold mN;split<;>omega
  rw[hend] at a7
  simp only[Qaa,ht]
  simp only[a2,a3,a4,a5,a6,a7,a8,hc',hnb,Qaa,Qag,Qae,Qab,LP,Tryd.f120,FT,seval]
  exact⟨_,rfl,(by rfl),(by rfl),(by rfl),(by rfl),(by rfl),(by rw [hend];rfl),(by rfl)⟩
theorem Q9B (kf:Nat) (x0 y0:IV) (X y:List Nat) (nl nl2:Bool) (cap cap2:Option Nat) (o2:AObj) (ho2:AObj.under 4 o2=true) (L:Nat) (hX:okD X) (hy:okD y) (hL:L=X.length+y.length+1) (hLb:L≤200000) (hkf:y.length+5<kf) (k:Nat) (l:Ass) (z:Option Out) (hz:Qar Tryd.prog tab kf none Qrn 120 82 [2,3,4,5,6] 4 k l ([.cells 58 [.c x0,sD X nl cap],.cells 58 [.c y0,sD y nl2 cap2],o2,rD (muA X y L 0)])=z) (hk:X.length<k) (a2:asc l 2=.ptr 0 0) (a3:asc l 3=.ptr 1 0) (a4:asc l 4=.ptr 2 0) (a5:asc l 5=.hsl 3 0 L L 1) (a6:asc l 6=ii 0) :
  ∃ l',z=some (.exit 0 (fr 82 l') ([.cells 58 [.c x0,sD X nl cap],.cells 58 [.c y0,sD y nl2 cap2],o2,rD (muA X y L X.length)]))∧asc l' 2=.ptr 0 0∧asc l' 3=.ptr 1 0∧asc l' 4=.ptr 2 0∧asc l' 5=.hsl 3 0 L L 1∧asc l' 6=ii X.length:=by
 subst hz
 refine Qa1 X.length (fun k l H=>Qar Tryd.prog tab kf none Qrn 120 82 [2,3,4,5,6] 4 k l H)
  (fun i l H=>asc l 2=.ptr 0 0∧asc l 3=.ptr 1 0∧asc l 4=.ptr 2 0∧asc l 5=.hsl 3 0 L L 1∧asc l 6=ii i∧∃ G,H=([.cells 58 [.c x0,sD X nl cap],.cells 58 [.c y0,sD y nl2 cap2],o2,rD (muA X y L i)])++G)
  (fun z=>∃ l',z=some (.exit 0 (fr 82 l') ([.cells 58 [.c x0,sD X nl cap],.cells 58 [.c y0,sD y nl2 cap2],o2,rD (muA X y L X.length)]))∧asc l' 2=.ptr 0 0∧asc l' 3=.ptr 1 0∧asc l' 4=.ptr 2 0∧asc l' 5=.hsl 3 0 L L 1∧asc l' 6=ii X.length) ?_ X.length 0 k l _ (by omega) hk ⟨a2,a3,a4,a5,a6,[],by rw [List.append_nil]⟩
 clear hk a2 a3 a4 a5 a6
 rintro i k l H hi ⟨a2,a3,a4,a5,a6,G,rfl⟩
 have ht:trim 4 (fr 82 (keep l [2,3,4,5,6])) (([.cells 58 [.c x0,sD X nl cap],.cells 58 [.c y0,sD y nl2 cap2],o2,rD (muA X y L i)])++G)=([.cells 58 [.c x0,sD X nl cap],.cells 58 [.c y0,sD y nl2 cap2],o2,rD (muA X y L i)]):=Qa4 (by simp) (by simp only [a2,a3,a4,a5,a6,ho2,EVb,EVc,seval]) (by simp only [ho2,EVb,EVc,seval])
 by_cases hc:i<X.length
 ·have hc':(i:Int)<((X.length:Nat):Int):=by omega
  have hc0:(0:Int)≤i:=by omega
  have hw:IntKind.wrap .i64 ((i:Int)+1)=((i+1:Nat):Int):=by rw [wrap64 (by omega) (by omega)];omega
  have hcX:(i:Int)<X.length:=by omega
  have hn:mN (muA X y L i) (X.getD i 0) y i≤y.length+1:=by unfold mN;split<;>omega
  simp only[Qaa,ht]
  simp only[a2,a3,a4,a5,a6,hcX,Qaa,Qag,Qae,Qab,LP,Tryd.f120,FT,seval]
  rw[Qai Qr4 QDT];rotate_left;rfl;rfl;rfl
  generalize hz:Qar _ _ _ _ _ _ _ _ _ _ _ _=z
  obtain⟨l2,rfl,f2,f3,f4,f5,f6,f7,f8⟩:=Q8G kf x0 y0 X y nl nl2 cap cap2 o2 ho2 (muA X y L i) i L (QBy hX hy L i) hX hy hc hL hLb _ _ z hz (by omega) (by rfl) (by rfl) (by rfl) (by rfl) (by rfl) (by rfl) (by rfl)
  clear hz
  simp only[f2,f3,f4,f5,f6,hw,FT,seval]
  exact .inr ⟨_,_,hc,rfl,(by exact f2),(by exact f3),(by exact f4),(by exact f5),(by rfl),⟨[],by rfl⟩⟩
 ·refine .inl ?_
  obtain rfl:i=X.length:=by omega
  have hc':¬ (((X.length:Nat):Int)<((X.length:Nat):Int)):=by omega
  have hlt:¬ ((X.length:Nat):Int)<X.length:=by omega
  simp only[Qaa,ht]
  simp only[a2,a3,a4,a5,a6,hc',hlt,Qaa,Qag,Qae,Qab,LP,Tryd.f120,FT,seval]
  exact⟨_,rfl,(by rfl),(by rfl),(by rfl),(by rfl),(by rfl)⟩
theorem QjI (L:Nat):(List.replicate L [IV.int .u32 0]).flatten=encD (List.replicate L 0):=by simp [encD]
theorem QBQ (k:Nat) (x y:RI) (hx:(nD x.v).length≤50000) (hy:(nD y.v).length≤50000) (hk:(nD x.v).length+(nD y.v).length+10≤k):∃ z:RI,z.v=x.v * y.v∧run (k+2) 120 [aN x,aN y]=some (aN z):=by
 rw[run,ev120,Qaq]
 have hw1:IntKind.wrap .i64 (((nD x.v).length:Int)+((nD y.v).length:Int))=(((nD x.v).length+(nD y.v).length:Nat):Int):=by rw [wrap64 (by omega) (by omega)];omega
 have hw2:IntKind.wrap .i64 ((((nD x.v).length+(nD y.v).length:Nat):Int)+1)=(((nD x.v).length+(nD y.v).length+1:Nat):Int):=by rw [wrap64 (by omega) (by omega)];omega
 obtain⟨L,hL⟩:∃ L,L=(nD x.v).length+(nD y.v).length+1:=⟨_,rfl⟩
 rw[← hL] at hw2
 have q1:(0:Int)≤L:=by omega
 have q2:L * 4≤roomBytes:=Nat.le_trans (show L * 4≤1000000 by omega) (by decide)
 have q3:L≤roomBytes:=Nat.le_trans (show L≤1000000 by omega) (by decide)
 simp only[Tryd.f120,aN,bb,hw1,hw2,q1,q2,q3,QjI,FT,seval]
 rw[Qai Qrn QD3];rotate_left;rfl;rfl;rfl
 generalize hz:Qar _ _ _ _ _ _ _ _ _ _ _ _=z
 have hdx:=(QaF x.v.natAbs).ok
 have hdy:=(QaF y.v.natAbs).ok
 obtain⟨l2,rfl,f2,f3,f4,f5,f6⟩:=Q9B (k+1) _ _ (nD x.v) (nD y.v) x.nl y.nl x.cap y.cap _ (by rfl) L hdx hdy hL (by omega) (by omega) _ _ z hz (by omega) (by rfl) (by rfl) (by rfl) (by rfl) (by rfl)
 clear hz
 have hok:=QBy hdx hdy L (nD x.v).length
 have hvd:=QFe hdx hdy hL (nD x.v).length (Nat.le_refl _)
 rw[List.take_length,Qb3,Qb3] at hvd
 obtain⟨P,hP⟩:∃ P,P=muA (nD x.v) (nD y.v) L (nD x.v).length:=⟨_,rfl⟩
 rw[← hP] at hok hvd ⊢
 obtain⟨H2,hds,hl2,hold⟩:=QdI (k:=k) (f:=120) (r:=14) (i:=6) (id:=3) (neg:=!(decide (x.v<0) == decide (y.v<0))) (d:=P) (H:=[.cells 58 [.c (.bool (decide (x.v<0))),sD (nD x.v) x.nl x.cap],.cells 58 [.c (.bool (decide (y.v<0))),sD (nD y.v) y.nl y.cap],.cells 58 [.c (.bool false),.c (.slice [] 0 true (some 0))],rD P]) (by rfl) hok.ok (by rw [hok.len];omega) (by rw [hok.len];omega)
 have h21:=hold 2 (by omega)
 simp only[List.getElem?_cons_zero,List.getElem?_cons_succ] at h21
 rw[hok.len,hvd] at hds
 have hv:sgn (!(decide (x.v<0) == decide (y.v<0))) (x.v.natAbs * y.v.natAbs)=x.v * y.v:=by
  rw[← Int.natAbs_mul]
  unfold sgn
  by_cases h1:x.v<0<;>by_cases h2:y.v<0
  ·have:=Int.mul_pos_of_neg_of_neg h1 h2
   simp only[h1,h2,decide_true]
   simp
   omega
  ·have:=Int.mul_nonpos_of_nonpos_of_nonneg (show x.v≤0 by omega) (show 0≤y.v by omega)
   simp only[h1,h2,decide_true,decide_false]
   simp
   omega
  ·have:=Int.mul_nonpos_of_nonneg_of_nonpos (show 0≤x.v by omega) (show y.v≤0 by omega)
   simp only[h1,h2,decide_true,decide_false]
   simp
   omega
  ·have:=Int.mul_nonneg (show 0≤x.v by omega) (show 0≤y.v by omega)
   simp only[h1,h2,decide_false]
   simp
   omega
 rw[hv] at hds
 have hnn:=Qcf k (!(decide (x.v<0) == decide (y.v<0))) P false none hok.ok (by rw [hok.len];omega) (by rw [hok.len];omega)
 rw[hvd,hv,sD,hok.len] at hnn
 have hel:=Qa8 P
 rw[hok.len] at hel
 have htk:(encD P).take L=encD P:=List.take_of_length_le (by rw [hel];exact Nat.le_refl _)
 simp only[run,bb] at hnn
 have hset:∀ X:AObj,(H2.set 2 X)[2]?=some X:=fun X=>List.getElem?_set_self (by rw [hl2];simp)
 refine⟨⟨x.v * y.v,false,none⟩,rfl, ?_⟩
 simp only[f2,f3,f4,f5,f6,hds,h21,hset,Qco,Qdw,Qcv,QcI,Qcg,hel,htk,hnn,Nat.le_refl,FT,seval]
theorem QFy (k:Nat) (x:RI) (hx:(nD x.v).length≤50000) (hk:(nD x.v).length+10≤k):∃ z:RI,z.v=-x.v∧run (k+2) 131 [aN x]=some (aN z):=by
 have h1:=Qcf k (!decide (x.v<0)) (nD x.v) x.nl x.cap (QaF _).ok (by omega) (by omega)
 rw[Qb3] at h1
 have hv:sgn (!decide (x.v<0)) x.v.natAbs=-x.v:=by
  unfold sgn
  by_cases h:x.v<0
  ·simp[h];omega
  ·simp[h];omega
 rw[hv] at h1
 refine⟨⟨-x.v,x.nl,x.cap⟩,rfl, ?_⟩
 simp only[run,bb,aN] at h1
 rw[run,ev131,Qaq]
 simp only[Tryd.f131,aN,bb,h1,FT,seval]
theorem QHO (k:Nat) (x:RI) (hx:(nD x.v).length≤50000) (hk:(nD x.v).length+10≤k):∃ z:RI,z.v=x.v.natAbs∧run (k+2) 127 [aN x]=some (aN z):=by
 have h1:=Qcf k false (nD x.v) x.nl x.cap (QaF _).ok (by omega) (by omega)
 rw[Qb3] at h1
 have hv:sgn false x.v.natAbs=x.v.natAbs:=by simp [sgn]
 rw[hv] at h1
 refine⟨⟨x.v.natAbs,x.nl,x.cap⟩,rfl, ?_⟩
 simp only[run,bb,aN] at h1
 rw[run,ev127,Qaq]
 simp only[Tryd.f127,aN,bb,h1,FT,seval]
theorem QF2 (k:Nat) (x y:RI) (hx:(nD x.v).length≤50000) (hy:(nD y.v).length≤50000) (hk:(nD x.v).length+(nD y.v).length+20≤k):∃ z:RI,z.v=x.v-y.v∧run (k+3) 128 [aN x,aN y]=some (aN z):=by
 obtain⟨y2,hv,h1⟩:=QFy k y hy (by omega)
 have hn:nD y2.v=nD y.v:=by rw [nD,nD,hv,Int.natAbs_neg]
 obtain⟨z,hz,h2⟩:=Q8h k x y2 hx (by rw [hn];exact hy) (by rw [hn];omega)
 refine⟨z,by rw [hz,hv];omega, ?_⟩
 simp only[run,aN,bb] at h1 h2
 rw[run,ev128,Qaq]
 simp only[Tryd.f128,aN,bb,FT,seval]
 rw[Qaf Tryd.f128 1 QD4];rotate_left;rfl
 simp only[h1,h2,EVd,List.getElem?_nil,Nat.reducePow,Nat.reduceDiv,Nat.reduceMod,FT,seval]
def pwD (n:Nat):List Nat:=(List.replicate (n / 16+1) 0).set (n / 16) (2 ^ (n % 16))
theorem QCD (n:Nat):okD (pwD n):=Qmi (fun d hd=>by rw [List.eq_of_mem_replicate hd];omega) (Nat.lt_of_lt_of_le (Nat.pow_lt_pow_right (by omega) (Nat.mod_lt n (show 16 > 0 by omega))) (by decide))
theorem Qg8 (n:Nat):(pwD n).length=n / 16+1:=by simp [pwD]
theorem shlU {H:Heap} {t:TypeId} {n:Nat} (h:n<16):binA Tryd.prog H .shl t (.c (.int .u32 1)) (.c (.int .i64 (n:Int)))=some (.c (.int .u32 ((2 ^ n:Nat):Int))):=by
 have e:binA Tryd.prog H .shl t (.c (.int .u32 1)) (.c (.int .i64 (n:Int)))=if 0≤(n:Int) then some (.c (.int .u32 (IntKind.wrap .u32 (1 * 2 ^ (min (n:Int).toNat 32))))) else none:=rfl
 have hp:2 ^ n<65536:=Nat.lt_of_lt_of_le (Nat.pow_lt_pow_right (by omega) h) (by decide)
 rw[e,if_pos (by omega),Int.toNat_natCast,Nat.min_eq_left (by omega),Int.one_mul]
 rw[show (2:Int) ^ n=((2 ^ n:Nat):Int) by simp,wr32 (by omega)]
theorem QAI (k n:Nat) (hn:n≤1000) (hk:n+10≤k):∃ z:RI,z.v=(vd (pwD n):Nat)∧run (k+2) 111 [ii n]=some (aN z):=by
 have t1:((n:Nat):Int).tdiv 16=((n / 16:Nat):Int):=rfl
 have t2:((n:Nat):Int).tmod 16=((n % 16:Nat):Int):=rfl
 have w1:IntKind.wrap .i64 ((n / 16:Nat):Int)=((n / 16:Nat):Int):=by rw [wrap64 (by omega) (by omega)]
 have w2:IntKind.wrap .i64 (((n / 16:Nat):Int)+1)=((n / 16+1:Nat):Int):=by rw [wrap64 (by omega) (by omega)];omega
 have hp:2 ^ (n % 16)<65536:=Nat.lt_of_lt_of_le (Nat.pow_lt_pow_right (by omega) (Nat.mod_lt n (show 16 > 0 by omega))) (by decide)
 have hsh:=fun (H:Heap) (t:TypeId)=>shlU (H:=H) (t:=t) (n:=n % 16) (by omega)
 have hel:(encD (List.replicate (n / 16+1) 0)).length=n / 16+1:=by simp [encD]
 have hi0:(0:Int)≤((n / 16:Nat):Int):=by omega
 have hi1:((n / 16:Nat):Int)<((n / 16+1:Nat):Int):=by omega
 have hi2:n / 16<n / 16+1:=by omega
 have q1:(0:Int)≤((n / 16+1:Nat):Int):=by omega
 have q2:(n / 16+1) * 4≤roomBytes:=Nat.le_trans (show (n / 16+1) * 4≤1000000 by omega) (by decide)
 have q3:n / 16+1≤roomBytes:=Nat.le_trans (show n / 16+1≤1000000 by omega) (by decide)
 rw[run,ev111,Qaq]
 obtain⟨H2,hds,hl2,hold⟩:=QdI (k:=k) (f:=111) (r:=3) (i:=1) (id:=1) (neg:=false) (d:=pwD n) (H:=[.cells 58 [.c (.bool false),.c (.slice [] 0 true (some 0))],rD (pwD n)]) (by rfl) (QCD n) (by rw [Qg8];omega) (by rw [Qg8];omega)
 have h21:=hold 0 (by omega)
 simp only[List.getElem?_cons_zero,List.getElem?_cons_succ] at h21
 have hv:sgn false (vd (pwD n))=(vd (pwD n):Nat):=rfl
 rw[Qg8,hv] at hds
 have hset:∀ X:AObj,(H2.set 0 X)[0]?=some X:=fun X=>List.getElem?_set_self (by rw [hl2];simp)
 have hnn:=Qcf k false (pwD n) false none (QCD n) (by rw [Qg8];omega) (by rw [Qg8];omega)
 rw[hv,sD,Qg8] at hnn
 simp only[run,bb] at hnn
 have hel2:=Qa8 (pwD n)
 rw[Qg8] at hel2
 have htk:(encD (pwD n)).take (n / 16+1)=encD (pwD n):=List.take_of_length_le (by rw [hel2];exact Nat.le_refl _)
 have hfo:(List.replicate (n / 16+1) 0).set (n / 16) (2 ^ (n % 16))=pwD n:=rfl
 refine⟨⟨(vd (pwD n):Nat),false,none⟩,rfl, ?_⟩
 simp only[Tryd.f111,ii,t1,t2,w1,w2,q1,q2,q3,QjI,hsh,hel,hi0,hi1,hi2,Qe6,hfo,hel2,htk,hnn,hds,h21,hset,Qco,Qdw,Qcv,QcI,Qcg,Nat.le_refl,FT,seval]
def tb (t:Nat):Nat:=if t=0 then 0 else Nat.log2 t+1
theorem QAZ {t i:Nat}:i<tb t↔0<t / 2 ^ i:=by
 unfold tb
 by_cases h:t=0
 ·subst h;simp
 ·rw[if_neg h]
  have h1:i≤t.log2↔2 ^ i≤t:=Nat.le_log2 h
  have h2:0<t / 2 ^ i↔2 ^ i≤t:=by
   have hp:0<2 ^ i:=Nat.pow_pos (by omega)
   constructor
   ·intro h3
    by_cases h4:2 ^ i≤t
    ·exact h4
    ·rw[Nat.div_eq_of_lt (by omega)] at h3;omega
   ·intro h3;exact Nat.div_pos h3 hp
  omega
theorem QEd {t:Nat} (h:t<65536):tb t≤16:=by
 by_cases h1:16<tb t
 ·rw[QAZ] at h1
  rw[Nat.div_eq_of_lt (by exact h)] at h1
  omega
 ·omega
def Qbm (d:List Nat):Nat:=if d.length=0 then 0 else 16 * (d.length-1)+tb (d.getD (d.length-1) 0)
theorem QjD {d:List Nat} (h:okD d):Qbm d≤16 * d.length:=by
 unfold Qbm
 have:=QEd (QaW h (d.length-1))
 split<;>omega
theorem Q9a (kf:Nat) (t n0:Nat) (ht0:t<65536) (hn0:n0≤100000000) (k:Nat) (l:Ass) (z:Option Out) (hz:Qar Tryd.prog tab kf none QqU 129 25 [3,4] 0 k l ([])=z) (hk:tb t<k) (a3:asc l 3=ii ((n0+0:Nat):Int)) (a4:asc l 4=.c (.int .u32 ((t / 2 ^ 0:Nat):Int))) :
  ∃ l',z=some (.exit 0 (fr 25 l') ([]))∧asc l' 3=ii ((n0+(tb t):Nat):Int)∧asc l' 4=.c (.int .u32 ((t / 2 ^ (tb t):Nat):Int)):=by
 subst hz
 have hle:=QEd ht0
 refine Qa1 (tb t) (fun k l H=>Qar Tryd.prog tab kf none QqU 129 25 [3,4] 0 k l H)
  (fun i l H=>asc l 3=ii ((n0+i:Nat):Int)∧asc l 4=.c (.int .u32 ((t / 2 ^ i:Nat):Int))∧∃ G,H=([])++G)
  (fun z=>∃ l',z=some (.exit 0 (fr 25 l') ([]))∧asc l' 3=ii ((n0+(tb t):Nat):Int)∧asc l' 4=.c (.int .u32 ((t / 2 ^ (tb t):Nat):Int))) ?_ (tb t) 0 k l _ (by omega) hk ⟨a3,a4,[],by rw [List.append_nil]⟩
 clear hk a3 a4
 rintro i k l H hi ⟨a3,a4,G,rfl⟩
 have ht:trim 0 (fr 25 (keep l [3,4])) (([])++H)=([]):=Qa4 (by simp) (by simp only [a3,a4,EVb,EVc,seval]) (by simp only [EVb,EVc,seval])
 by_cases hc:i<(tb t)
 ·have hc':(i:Int)<((tb t:Nat):Int):=by omega
  have hc0:(0:Int)≤i:=by omega
  have hw:IntKind.wrap .i64 ((i:Int)+1)=((i+1:Nat):Int):=by rw [wrap64 (by omega) (by omega)];omega
  have hp:=QAZ.1 hc
  have hdd:t / 2 ^ (i+1)=t / 2 ^ i / 2:=by rw [Nat.pow_succ,Nat.div_div_eq_div_mul]
  rw[hdd]
  have hs:t / 2 ^ i≤t:=Nat.div_le_self _ _
  obtain⟨x,hx⟩:∃ x,x=t / 2 ^ i:=⟨_,rfl⟩
  rw[← hx] at hp a4 hs ⊢
  have hp1:(0:Int)<((x:Nat):Int):=by omega
  have hw1:IntKind.wrap .i64 (((n0+i:Nat):Int)+1)=((n0+(i+1):Nat):Int):=by rw [wrap64 (by omega) (by omega)];omega
  have hr2:((x:Nat):Int).tdiv 2=((x / 2:Nat):Int):=rfl
  have hr4:=wr32 (n:=x / 2) (by omega)
  simp only[Qaa,ht]
  simp only[a3,a4,hc',hc0,hw,hp1,hw1,hr2,hr4,Qaa,Qag,Qae,Qab,LP,Tryd.f129,FT,seval]
  exact .inr ⟨_,_,hc,rfl,(by rfl),(by rfl),⟨[],by rfl⟩⟩
 ·refine .inl ?_
  obtain rfl:i=(tb t):=by omega
  have hc':¬ ((((tb t):Nat):Int)<(((tb t):Nat):Int)):=by omega
  have h0:t / 2 ^ (tb t)=0:=by
   exact Nat.eq_zero_of_not_pos ((not_congr (QAZ (t:=t) (i:=tb t))).1 (by omega))
  rw[h0] at a4
  have hn0:¬ (0:Int)<((0:Nat):Int):=by omega
  simp only[Qaa,ht]
  simp only[a3,a4,hc',hn0,Qaa,Qag,Qae,Qab,LP,Tryd.f129,FT,seval]
  exact⟨_,rfl,(by rfl),(by rw [h0];rfl)⟩
theorem QDP (k:Nat) (d:List Nat) (nl:Bool) (cap:Option Nat) (hd:okD d) (hl:d.length≤1000000) (hk:30<k):run (k+1) 129 [sD d nl cap]=some (ii (Qbm d)):=by
 rw[run,ev129,Qaq]
 unfold Qbm
 by_cases h0:d.length=0
 ·have h0':(d.length:Int)=0:=by omega
  rw[if_pos h0]
  simp only[Tryd.f129,ii,h0',FT,seval]
 ·have h0':¬ (d.length:Int)=0:=by omega
  rw[if_neg h0]
  obtain⟨j,hj⟩:∃ j,d.length=j+1:=⟨d.length-1,by omega⟩
  have e1:d.length-1=j:=by omega
  rw[e1]
  have hx:=Qby (l:=d) (i:=j) (by omega)
  have hw1:IntKind.wrap .i64 (((j+1:Nat):Int)-1)=((j:Nat):Int):=by rw [wrap64 (by omega) (by omega)];omega
  have hw2:IntKind.wrap .i64 (16 * ((j:Nat):Int))=((16 * j:Nat):Int):=by rw [wrap64 (by omega) (by omega)];omega
  have hw3:IntKind.wrap .i64 ((16:Int) * ((j:Nat):Int))=((16 * j:Nat):Int):=hw2
  have hj0:(0:Int)≤(j:Nat):=by omega
  have hj1:((j:Nat):Int)<((j+1:Nat):Int):=by omega
  have hj2:j<j+1:=by omega
  have ht0:=QaW hd j
  obtain⟨t,ht⟩:∃ t,t=d.getD j 0:=⟨_,rfl⟩
  rw[← ht] at hx ht0 ⊢
  rw[hj] at h0'
  simp only[Tryd.f129,ii,sD,hj,h0',hw1,hw2,hx,hj0,hj1,hj2,FT,seval]
  rw[Qai QqU QDx];rotate_left;rfl;rfl;rfl
  generalize hz:Qar _ _ _ _ _ _ _ _ _ _ _ _=z
  obtain⟨l2,rfl,f3,f4⟩:=Q9a k t (16 * j) ht0 (by omega) _ _ z hz (by have:=QEd ht0;omega) (by rfl) (by rw [Nat.pow_zero,Nat.div_one];rfl)
  clear hz
  simp only[f3,f4,FT,seval]
def bitV (d:List Nat) (k:Nat):Nat:=(BitVec.ofInt 32 (((d.getD (k / 16) 0) / 2 ^ (k % 16):Nat):Int) &&& BitVec.ofInt 32 1).toNat
theorem Qyb (d:List Nat) (k:Nat):bitV d k≤1:=by
 unfold bitV
 rw[BitVec.toNat_and]
 exact Nat.and_le_right
theorem andU {H:Heap} {t:TypeId} {a:Nat}:binA Tryd.prog H .and t (.c (.int .u32 (a:Int))) (.c (.int .u32 1))=some (.c (.int .u32 ((BitVec.ofInt 32 (a:Int) &&& BitVec.ofInt 32 1).toNat:Nat))):=by
 have e:binA Tryd.prog H .and t (.c (.int .u32 (a:Int))) (.c (.int .u32 1))=some (.c (.int .u32 (IntKind.wrap .u32 ((BitVec.ofInt 32 (a:Int) &&& BitVec.ofInt 32 1).toNat:Nat)))):=rfl
 rw[e,wr32]
 have:(BitVec.ofInt 32 (a:Int) &&& BitVec.ofInt 32 1).toNat≤1:=by rw [BitVec.toNat_and];exact Nat.and_le_right
 omega
theorem shrU {H:Heap} {t:TypeId} {a n:Nat} (h:n<16):binA Tryd.prog H .shr t (.c (.int .u32 (a:Int))) (.c (.int .i64 (n:Int)))=some (.c (.int .u32 ((a / 2 ^ n:Nat):Int))):=by
 have e:binA Tryd.prog H .shr t (.c (.int .u32 (a:Int))) (.c (.int .i64 (n:Int)))=if 0≤(n:Int) then some (.c (.int .u32 ((a:Int).fdiv (2 ^ (min (n:Int).toNat 32))))) else none:=rfl
 rw[e,if_pos (by omega),Int.toNat_natCast,Nat.min_eq_left (by omega)]
 rw[show (2:Int) ^ n=((2 ^ n:Nat):Int) by simp,Int.fdiv_eq_ediv_of_nonneg _ (Int.natCast_nonneg _)]
 rfl
theorem QH3 (k:Nat) (d:List Nat) (nl:Bool) (cap:Option Nat) (hl:d.length≤1000000) (n:Nat) (hn:n / 16<d.length):run (k+1) 130 [sD d nl cap,ii n]=some (.c (.int .u32 (bitV d n:Nat))):=by
 have t1:((n:Nat):Int).tdiv 16=((n / 16:Nat):Int):=rfl
 have t2:((n:Nat):Int).tmod 16=((n % 16:Nat):Int):=rfl
 have w1:IntKind.wrap .i64 ((n / 16:Nat):Int)=((n / 16:Nat):Int):=by rw [wrap64 (by omega) (by omega)]
 have hx:=Qby hn
 have q0:(0:Int)≤((n / 16:Nat):Int):=by omega
 have q1:((n / 16:Nat):Int)<d.length:=by omega
 have hsh:=fun (H:Heap) (t:TypeId)=>shrU (H:=H) (t:=t) (a:=d.getD (n / 16) 0) (n:=n % 16) (by omega)
 have han:=fun (H:Heap) (t:TypeId)=>andU (H:=H) (t:=t) (a:=d.getD (n / 16) 0 / 2 ^ (n % 16))
 have hb:(BitVec.ofInt 32 (((d.getD (n / 16) 0) / 2 ^ (n % 16):Nat):Int) &&& BitVec.ofInt 32 1).toNat=bitV d n:=rfl
 rw[run,ev130,Qaq]
 simp only[Tryd.f130,ii,t1,t2,w1,hx,q0,q1,hn,hsh,han,hb,FT,Int.reduceEq,Int.reduceToNat,Int.reduceLE,Int.reduceLT,Int.reduceAdd,Int.reduceMul,Int.reduceSub,Int.reduceNeg,Nat.reduceAdd,Nat.reduceSub,Nat.reduceMul,Nat.reduceLT,Nat.reduceBEq,Nat.reduceEqDiff,Nat.reduceLeDiff]
def dvS (a:List Nat) (b:Nat):Nat→List Nat × Nat
 | 0=>(List.replicate a.length 0,0)
 | i+1=>((dvS a b i).1.set (a.length-1-i) (((dvS a b i).2 * 65536+a.getD (a.length-1-i) 0) / b),((dvS a b i).2 * 65536+a.getD (a.length-1-i) 0) % b)
theorem QlR {a:List Nat} {b:Nat} (ha:okD a) (hb:0<b):∀ i,(dvS a b i).1.length=a.length∧okD (dvS a b i).1∧(dvS a b i).2<b
 | 0=>⟨by simp [dvS],fun d hd=>by rw [dvS] at hd;rw [List.eq_of_mem_replicate hd];omega,by rw [dvS];exact hb⟩
 | i+1=>by
  obtain⟨h1,h2,h3⟩:=QlR ha hb i
  refine⟨by rw [dvS,List.length_set];exact h1,Qmi h2 ?_,Nat.mod_lt _ hb⟩
  have:=QaW ha (a.length-1-i)
  rw[Nat.div_lt_iff_lt_mul hb]
  have h4:((dvS a b i).2+1) * 65536≤b * 65536:=Nat.mul_le_mul_right _ h3
  rw[Nat.mul_comm 65536 b]
  omega
theorem Q82 (kf:Nat) (a:List Nat) (b:Nat) (nl nl2:Bool) (cap cap2:Option Nat) (ha:okD a) (hb0:0<b) (hb1:b<65536) (hla:a.length≤100000) (k:Nat) (l:Ass) (z:Option Out) (hz:Qar Tryd.prog tab kf none Qri 126 124 [0,1,6,7,8] 1 k l ([rD (dvS a b 0).1])=z) (hk:a.length<k) (a0:asc l 0=sD a nl cap) (a1:asc l 1=sD [b] nl2 cap2) (a6:asc l 6=.hsl 0 0 a.length a.length 1) (a7:asc l 7=.c (.int .u64 ((dvS a b 0).2:Nat))) (a8:asc l 8=ii ((a.length:Int)-1-0)) :
  ∃ l',z=some (.exit 0 (fr 124 l') ([rD (dvS a b a.length).1]))∧asc l' 0=sD a nl cap∧asc l' 1=sD [b] nl2 cap2∧asc l' 6=.hsl 0 0 a.length a.length 1∧asc l' 7=.c (.int .u64 ((dvS a b a.length).2:Nat))∧asc l' 8=ii ((a.length:Int)-1-a.length):=by
 subst hz
 refine Qa1 a.length (fun k l H=>Qar Tryd.prog tab kf none Qri 126 124 [0,1,6,7,8] 1 k l H)
  (fun i l H=>asc l 0=sD a nl cap∧asc l 1=sD [b] nl2 cap2∧asc l 6=.hsl 0 0 a.length a.length 1∧asc l 7=.c (.int .u64 ((dvS a b i).2:Nat))∧asc l 8=ii ((a.length:Int)-1-i)∧∃ G,H=([rD (dvS a b i).1])++G)
  (fun z=>∃ l',z=some (.exit 0 (fr 124 l') ([rD (dvS a b a.length).1]))∧asc l' 0=sD a nl cap∧asc l' 1=sD [b] nl2 cap2∧asc l' 6=.hsl 0 0 a.length a.length 1∧asc l' 7=.c (.int .u64 ((dvS a b a.length).2:Nat))∧asc l' 8=ii ((a.length:Int)-1-a.length)) ?_ a.length 0 k l _ (by omega) hk ⟨a0,a1,a6,a7,a8,[],by rw [List.append_nil]⟩
 clear hk a0 a1 a6 a7 a8
 rintro i k l H hi ⟨a0,a1,a6,a7,a8,G,rfl⟩
 have ht:trim 1 (fr 124 (keep l [0,1,6,7,8])) (([rD (dvS a b i).1])++G)=([rD (dvS a b i).1]):=Qa4 (by simp) (by simp only [a0,a1,a6,a7,a8,EVb,EVc,seval]) (by simp only [EVb,EVc,seval])
 by_cases hc:i<a.length
 ·have hc':(i:Int)<((a.length:Nat):Int):=by omega
  have hc0:(0:Int)≤i:=by omega
  have hw:IntKind.wrap .i64 ((i:Int)+1)=((i+1:Nat):Int):=by rw [wrap64 (by omega) (by omega)];omega
  obtain⟨j,hj⟩:∃ j,a.length=j+1+i:=⟨a.length-1-i,by omega⟩
  have e2:a.length-1-i=j:=by omega
  have e3:(a.length:Int)-1-(i:Int)=(j:Int):=by omega
  have e4:(a.length:Int)-1-((i+1:Nat):Int)=(j:Int)-1:=by omega
  rw[e3] at a8
  rw[e4]
  obtain⟨h1,h2,h3⟩:=QlR ha hb0 i
  have hS:dvS a b (i+1)=((dvS a b i).1.set j (((dvS a b i).2 * 65536+a.getD j 0) / b),((dvS a b i).2 * 65536+a.getD j 0) % b):=by rw [← e2];rfl
  rw[hS]
  obtain⟨Q,hQ⟩:∃ Q,Q=(dvS a b i).1:=⟨_,rfl⟩
  obtain⟨r,hr⟩:∃ r,r=(dvS a b i).2:=⟨_,rfl⟩
  rw[← hQ] at h1 h2 ht ⊢
  rw[← hr] at h3 a7 ⊢
  have hel:=Qa8 Q
  rw[h1] at hel
  have hx:=Qby (l:=a) (i:=j) (by omega)
  have hd:=QaW ha j
  obtain⟨x,hxx⟩:∃ x,x=a.getD j 0:=⟨_,rfl⟩
  rw[← hxx] at hx hd ⊢
  have hj0:(0:Int)≤j:=by omega
  have hj1:(j:Int)<a.length:=by omega
  have hjN:j<a.length:=by omega
  have hw2:IntKind.wrap .i64 ((j:Int)-1)=(j:Int)-1:=by rw [wrap64 (by omega) (by omega)]
  have d1:=wr64 (n:=x) (by omega)
  have d2:=wr64 (n:=b) (by omega)
  have w1:IntKind.wrap .u64 ((r:Int) * 65536)=((r * 65536:Nat):Int):=by rw [QhB (by omega) (by omega)];omega
  have w2:IntKind.wrap .u64 (((r * 65536:Nat):Int)+(x:Int))=((r * 65536+x:Nat):Int):=by rw [QhB (by omega) (by omega)];omega
  have hlt:r * 65536+x<4294967296:=by omega
  obtain⟨y,hy⟩:∃ y,y=r * 65536+x:=⟨_,rfl⟩
  rw[← hy] at w2 hlt ⊢
  have hqb:y / b≤y:=Nat.div_le_self _ _
  have hrb:y % b<b:=Nat.mod_lt _ hb0
  have hbz:¬ ((b:Nat):Int)=0:=by omega
  have t1:((y:Nat):Int).tdiv ((b:Nat):Int)=((y / b:Nat):Int):=rfl
  have t2:((y:Nat):Int).tmod ((b:Nat):Int)=((y % b:Nat):Int):=rfl
  have w3:=wr64 (n:=y / b) (by omega)
  have w4:=wr32 (n:=y / b) (by omega)
  have hb':encD [b]=[.int .u32 (b:Int)]:=rfl
  simp only[Qaa,ht]
  simp only[a0,a1,a6,a7,a8,hc',hc0,hw,hel,hx,hj0,hj1,hjN,hw2,d1,d2,w1,w2,w3,w4,hbz,t1,t2,hb',Qe6,Qaa,Qag,Qae,Qab,LP,Tryd.f126,FT,seval]
  exact .inr ⟨_,_,hc,rfl,(by rfl),(by rfl),(by rfl),(by rfl),(by rfl),⟨_,by rfl⟩⟩
 ·refine .inl ?_
  obtain rfl:i=a.length:=by omega
  have hc':¬ (((a.length:Nat):Int)<((a.length:Nat):Int)):=by omega
  have hlt:¬ ((0:Int)≤(a.length:Int)-1-a.length):=by omega
  simp only[Qaa,ht]
  simp only[a0,a1,a6,a7,a8,hc',hlt,Qaa,Qag,Qae,Qab,LP,Tryd.f126,FT,seval]
  exact⟨_,rfl,(by rfl),(by rfl),(by rfl),(by rfl),(by rfl)⟩
def szD (a b:List Nat):Int:=if a.length<b.length then -1 else if b.length<a.length then 1 else cmpN (vd a) (vd b)
theorem QB1 (k:Nat) (a b:List Nat) (nl nl2:Bool) (cap cap2:Option Nat) (ha:okD a) (hb:okD b) (hla:a.length≤100000) (hk:a.length<k):run (k+1) 97 [sD a nl cap,sD b nl2 cap2]=some (ii (szD a b)):=by
 rw[run,ev97,Qaq]
 unfold szD
 by_cases h1:a.length<b.length
 ·have h1':(a.length:Int)<b.length:=by omega
  have h0:¬ (a.length:Int)=b.length:=by omega
  rw[if_pos h1]
  simp only[Tryd.f97,ii,h0,h1',FT,seval]
 ·have h1':¬ (a.length:Int)<b.length:=by omega
  rw[if_neg h1]
  by_cases h2:b.length<a.length
  ·have h0:¬ (a.length:Int)=b.length:=by omega
   rw[if_pos h2]
   simp only[Tryd.f97,ii,h0,h1',FT,seval]
  ·have h0:(a.length:Int)=b.length:=by omega
   have hw1:IntKind.wrap .i64 ((a.length:Int)-1)=(a.length:Int)-1:=by rw [wrap64 (by omega) (by omega)]
   have h00:(b.length:Int)=a.length:=by omega
   rw[if_neg h2]
   simp only[Tryd.f97,ii,h00,hw1,FT,seval]
   rw[Qai Qsa QBU];rotate_left;rfl;rfl;rfl
   generalize hz:Qar _ _ _ _ _ _ _ _ _ _ _ _=z
   obtain⟨l',⟨rfl,he⟩ | ⟨rfl,he⟩⟩:=Qv5 k a b nl nl2 cap cap2 ha hb (by omega) hla _ _ z hz hk (by rfl) (by rfl) (by rw [show (a.length:Int)-1-0=(a.length:Int)-1 by omega];rfl)
   ·clear hz
    have hcm:cmpN (vd a) (vd b)=0:=by
     rw[he]
     unfold cmpN
     rw[if_neg (by omega),if_neg (by omega)]
    rw[hcm]
    simp only[FT,seval]
   ·clear hz
    simp only[he,FT,seval]
def rv (o:Option (Nat × List Nat)) (n:Nat):AV:=match o with
 | none=>.c (.slice [] 0 true (some 0))
 | some (id,T)=>.hsl id 0 n (n+T.length) 1
def RA (o:Option (Nat × List Nat)) (R:List Nat) (H:Heap):Prop:=match o with
 | none=>R=[]
 | some (id,T)=>0<id∧H[id]?=some (rD (R++T))
theorem Qy3 {n:Nat}:rv none n=.c (.slice [] 0 true (some 0)):=rfl
theorem QdC {id n:Nat} {T:List Nat}:rv (some (id,T)) n=.hsl id 0 n (n+T.length) 1:=rfl
theorem QGC {o:Option (Nat × List Nat)} {R:List Nat} {H:Heap} (h:RA o R H):lenA Tryd.prog 56 (rv o R.length)=some (.c (.int .i64 R.length)):=by
 cases o with
 | none =>
  have e:R=[]:=h
  subst e
  simp only[Qy3,List.length_nil,FT,seval]
  try rfl
 | some q =>
  obtain⟨id,T⟩:=q
  simp only[QdC,FT,seval]
theorem QBi {m N i id off len ext sz:Nat} {l:Ass} {H:Heap} (hi:i<N) (h:asc l i=.hsl id off len ext sz) (hm:m≤H.length):∃ H',trim m (fr N l) H=H'∧m≤H'.length∧(∀ j,j<m→H'[j]?=H[j]?)∧H'[id]?=H[id]?:=by
 by_cases hid:id<m
 ·obtain⟨H',h1,h2,h3⟩:=QBt (L:=m) (F:=fr N l) hm
  exact⟨H',h1,h2,h3,h3 id hid⟩
 ·refine⟨H,QAJ hi ?_,hm,fun _ _=>rfl,rfl⟩
  rw[h]
  show decide (id<m)=false
  exact decide_eq_false hid
def dbS (R:List Nat) (c:Nat):Nat→List Nat × Nat
 | 0=>(R,c)
 | i+1=>((dbS R c i).1.set i (((dbS R c i).2+2 * (dbS R c i).1.getD i 0) % 65536),((dbS R c i).2+2 * (dbS R c i).1.getD i 0) / 65536)
theorem Qp7 {R:List Nat} {c:Nat} (hR:okD R) (hc:c≤2):∀ i,(dbS R c i).1.length=R.length∧okD (dbS R c i).1∧(dbS R c i).2≤2
 | 0=>⟨rfl,hR,hc⟩
 | i+1=>by
  obtain⟨h1,h2,h3⟩:=Qp7 hR hc i
  have:=QaW h2 i
  exact⟨by rw [dbS,List.length_set];exact h1,Qmi h2 (Nat.mod_lt _ (by omega)),by rw [dbS];simp only;omega⟩
def dbH (o:Option (Nat × List Nat)) (P:List Nat) (H:Heap):Heap:=match o with
 | none=>H
 | some (id,T)=>H.set id (rD (P++T))
theorem QhH (o:Option (Nat × List Nat)) (P:List Nat) (H:Heap):(dbH o P H).length=H.length:=by
 unfold dbH;split<;>simp
theorem QAx {o:Option (Nat × List Nat)} {R:List Nat} {H:Heap} (h:RA o R H):dbH o R H=H:=by
 unfold dbH
 split
 ·rfl
 ·obtain⟨h1,h2⟩:=h
  obtain⟨h3,h4⟩:=List.getElem?_eq_some_iff.1 h2
  rw[← h4,List.set_getElem_self]
theorem Q4S (kf:Nat) (o:Option (Nat × List Nat)) (R:List Nat) (c:Nat) (H0:Heap) (M:Nat) (hM:H0.length=M) (hA:RA o R H0) (hR:okD R) (hc2:c≤2) (hRl:R.length≤1000000) (v0 v1 v9 v11:AV) (k:Nat) (l:Ass) (z:Option Out) (hz:Qar Tryd.prog tab kf none QjE 126 124 [0,1,9,10,11,12,13] M k l H0=z) (hk:R.length<k) (a0:asc l 0=v0) (a1:asc l 1=v1) (a9:asc l 9=v9) (a10:asc l 10=rv o R.length) (a11:asc l 11=v11) (a12:asc l 12=.c (.int .u32 ((dbS R c 0).2:Nat))) (a13:asc l 13=ii 0) :
  ∃ l',z=some (.exit 4 (fr 124 l') (dbH o (dbS R c R.length).1 H0))∧asc l' 0=v0∧asc l' 1=v1∧asc l' 9=v9∧asc l' 10=rv o R.length∧asc l' 11=v11∧asc l' 12=.c (.int .u32 ((dbS R c R.length).2:Nat)):=by
 subst hz
 refine Qa1 R.length (fun k l H=>Qar Tryd.prog tab kf none QjE 126 124 [0,1,9,10,11,12,13] M k l H)
  (fun i l H=>asc l 0=v0∧asc l 1=v1∧asc l 9=v9∧asc l 10=rv o R.length∧asc l 11=v11∧asc l 12=.c (.int .u32 ((dbS R c i).2:Nat))∧asc l 13=ii i∧((H=dbH o (dbS R c i).1 H0)))
  (fun z=>∃ l',z=some (.exit 4 (fr 124 l') (dbH o (dbS R c R.length).1 H0))∧asc l' 0=v0∧asc l' 1=v1∧asc l' 9=v9∧asc l' 10=rv o R.length∧asc l' 11=v11∧asc l' 12=.c (.int .u32 ((dbS R c R.length).2:Nat))) ?_ R.length 0 k l _ (by omega) hk ⟨a0,a1,a9,a10,a11,a12,a13,(QAx hA).symm⟩
 clear hk a0 a1 a9 a10 a11 a12 a13
 rintro i k l H hi ⟨a0,a1,a9,a10,a11,a12,a13,hp⟩
 have ht:trim M (fr 124 (keep l [0,1,9,10,11,12,13])) H=H:=by
  exact Qc8 (by rw [hp,QhH];exact hM)
 by_cases hc:i<R.length
 ·have hc':(i:Int)<((R.length:Nat):Int):=by omega
  have hc0:(0:Int)≤i:=by omega
  have hw:IntKind.wrap .i64 ((i:Int)+1)=((i+1:Nat):Int):=by rw [wrap64 (by omega) (by omega)];omega
  obtain⟨h1,h2,h3⟩:=Qp7 hR hc2 i
  obtain⟨id,T,rfl⟩:∃ id T,o=some (id,T):=by
   cases o with
   | none =>
    have:R=[]:=hA
    rw[this] at hc;cases hc
   | some q=>exact ⟨q.1,q.2,rfl⟩
  rw[QdC] at a10
  have hS:dbS R c (i+1)=((dbS R c i).1.set i (((dbS R c i).2+2 * (dbS R c i).1.getD i 0) % 65536),((dbS R c i).2+2 * (dbS R c i).1.getD i 0) / 65536):=rfl
  rw[hS]
  obtain⟨hA1,hA2⟩:=hA
  have hidl:=(List.getElem?_eq_some_iff.1 hA2).1
  obtain⟨P,hP⟩:∃ P,P=(dbS R c i).1:=⟨_,rfl⟩
  obtain⟨d,hd⟩:∃ d,d=(dbS R c i).2:=⟨_,rfl⟩
  rw[← hP] at h1 h2 hp ⊢
  rw[← hd] at h3 a12 ⊢
  have hHi:H[id]?=some (rD (P++T)):=by rw [hp];exact List.getElem?_set_self hidl
  have hel:(encD (P++T)).length=R.length+T.length:=by rw [Qa8,List.length_append,h1]
  have hro:rowOf H id (R.length+T.length)=some (117,encD (P++T)):=by
   unfold rowOf;rw [hHi];simp [hel]
  have hli:Qcd H id=true:=by unfold Qcd;rw [hHi]
  have hg:(P++T).getD i 0=P.getD i 0:=by
   rw[List.getD_eq_getElem?_getD,List.getD_eq_getElem?_getD,List.getElem?_append_left (by omega)]
  have hx:=Qby (l:=P++T) (i:=i) (by rw [List.length_append];omega)
  rw[hg] at hx
  have hsd:(P++T).set i ((d+2 * P.getD i 0) % 65536)=P.set i ((d+2 * P.getD i 0) % 65536)++T:=List.set_append_left _ _ (by omega)
  have hdg:=QaW h2 i
  obtain⟨x,hxx⟩:∃ x,x=P.getD i 0:=⟨_,rfl⟩
  rw[← hxx] at hx hsd hdg ⊢
  have w1:IntKind.wrap .u32 (2 * (x:Int))=((2 * x:Nat):Int):=by rw [wrap32 (by omega) (by omega)];omega
  have w2:IntKind.wrap .u32 ((d:Int)+((2 * x:Nat):Int))=((d+2 * x:Nat):Int):=by rw [wrap32 (by omega) (by omega)];omega
  have t1:=Qiz (d+2 * x)
  have t2:=Qj0 (d+2 * x)
  have w3:=wr32 (n:=(d+2 * x) / 65536) (by omega)
  have hiE:(i:Int)<((R.length+T.length:Nat):Int):=by omega
  have hiN:i<R.length+T.length:=by omega
  have hle:R.length≤R.length+T.length:=by omega
  simp only[Qaa,ht]
  simp only[a0,a1,a9,a10,a11,a12,a13,hc',hc0,hw,hro,hli,hHi,hel,hx,w1,w2,t1,t2,w3,hiE,hiN,hle,Qe6,hsd,Qaa,Qag,Qae,Qab,LP,Tryd.f126,FT,seval]
  refine .inr ⟨_,_,hc,rfl,(by rfl),(by rfl),(by rfl),(by rfl),(by rfl),(by rfl),(by rfl), ?_⟩
  rw[hp]
  simp[dbH]
 ·refine .inl ?_
  obtain rfl:i=R.length:=by omega
  have hc':¬ (((R.length:Nat):Int)<((R.length:Nat):Int)):=by omega
  have hln:=QGC hA
  simp only[Qaa,ht]
  simp only[a0,a1,a9,a10,a11,a12,a13,hc',hln,Qaa,Qag,Qae,Qab,LP,Tryd.f126,FT,seval]
  rw[hp]
  exact⟨_,rfl,(by rfl),(by rfl),(by rfl),(by rfl),(by rfl),(by rfl)⟩
theorem Quw (k:Nat) (a b:List Nat) (nl nl2:Bool) (cap cap2:Option Nat) (ha:okD a) (hb:okD b) (hla:a.length≤100000) (hlb:b.length≤100000) (hk:a.length<k) (hN:0<a.length) :
  Qav Tryd.prog (Qac tab) (k+1) (.fn 125) [sD a nl cap,sD b nl2 cap2] []=some (.hsl 0 0 a.length a.length 1,[rD (QdM a b)]):=by
 have hel:(encD (outM a b a.length)).length=a.length:=by rw [Qa8,QcY]
 rw[QFg]
 simp only[Tryd.f125,FT,seval]
 rw[Qai QlO Q64];rotate_left;rfl;rfl;rfl
 generalize hz:Qar _ _ _ _ _ _ _ _ _ _ _ _=z
 obtain⟨l',rfl,e0,e1,e5,e6,e7⟩:=Qnl k a b nl nl2 cap cap2 ha hb hla hlb _ _ z hz (by omega) (by rfl) (by rfl) (by rfl) (by rfl) (by rfl)
 clear hz
 have g1:=Qct (s:=0) (sz:=1) hN
 have g2:=Qcm (e:=117) (cells:=encD (outM a b a.length)) hN
 rw[Nat.mul_one] at g1
 rw[g1] at e5
 rw[g2]
 simp only[e0,e1,e5,e6,e7,hel,FT,seval]
 try rfl
theorem Q5u (kf:Nat) (d:List Nat) (hl:d.length≤1000000) (H0:Heap) (M:Nat) (hM:H0.length=M) (id:Nat) (hd:H0[id]?=some (rD d)) (v0 v4:AV) (k:Nat) (l:Ass) (z:Option Out) (hz:Qar Tryd.prog tab kf none QlB 59 29 [0,1,4,5] M k l H0=z) (hk:d.length-(Qa6 d).length<k) (a0:asc l 0=v0) (a1:asc l 1=.hsl id 0 d.length d.length 1) (a4:asc l 4=v4) (a5:asc l 5=ii ((d.length-0:Nat):Int)) :
  ∃ l',z=some (.exit 0 (fr 29 l') H0)∧asc l' 0=v0∧asc l' 1=.hsl id 0 d.length d.length 1∧asc l' 4=v4∧asc l' 5=ii (Qa6 d).length:=by
 subst hz
 refine Qa1 (d.length-(Qa6 d).length) (fun k l H=>Qar Tryd.prog tab kf none QlB 59 29 [0,1,4,5] M k l H)
  (fun i l H=>asc l 0=v0∧asc l 1=.hsl id 0 d.length d.length 1∧asc l 4=v4∧asc l 5=ii ((d.length-i:Nat):Int)∧((H=H0)))
  (fun z=>∃ l',z=some (.exit 0 (fr 29 l') H0)∧asc l' 0=v0∧asc l' 1=.hsl id 0 d.length d.length 1∧asc l' 4=v4∧asc l' 5=ii (Qa6 d).length) ?_ (d.length-(Qa6 d).length) 0 k l _ (by omega) hk ⟨a0,a1,a4,a5,rfl⟩
 clear hk a0 a1 a4 a5
 rintro i k l H hi ⟨a0,a1,a4,a5,hp⟩
 have ht:trim M (fr 29 (keep l [0,1,4,5])) H=H:=by
  rw[hp]
  exact Qc8 hM
 by_cases hc:i<(d.length-(Qa6 d).length)
 ·have hc':(i:Int)<((d.length-(Qa6 d).length:Nat):Int):=by omega
  have hc0:(0:Int)≤i:=by omega
  have hw:IntKind.wrap .i64 ((i:Int)+1)=((i+1:Nat):Int):=by rw [wrap64 (by omega) (by omega)];omega
  have htl:=QbQ d
  obtain⟨j,hj⟩:∃ j,d.length-i=j+1:=⟨d.length-i-1,by omega⟩
  have e1:d.length-(i+1)=j:=by omega
  have hz:=QgL (l:=d) (i:=j) (by omega) (by omega)
  have hx:=Qby (l:=d) (i:=j) (by omega)
  rw[hz] at hx
  rw[hj] at a5
  rw[e1]
  have hel:=Qa8 d
  have hro:rowOf H id d.length=some (117,encD d):=by
   rw[hp];unfold rowOf;rw [hd];simp [hel]
  have hp1:(0:Int)<((j+1:Nat):Int):=by omega
  have hw1:IntKind.wrap .i64 (((j+1:Nat):Int)-1)=(j:Int):=by rw [wrap64 (by omega) (by omega)];omega
  have hj0:(0:Int)≤j:=by omega
  have hj1:(j:Int)<d.length:=by omega
  have hjN:j<d.length:=by omega
  simp only[Qaa,ht]
  simp only[a0,a1,a4,a5,hc',hc0,hw,hro,hel,hx,hp1,hw1,hj0,hj1,hjN,Qaa,Qag,Qae,Qab,LP,Tryd.f59,FT,seval]
  exact .inr ⟨_,_,hc,rfl,(by rfl),(by rfl),(by rfl),(by rfl),hp⟩
 ·refine .inl ?_
  obtain rfl:i=(d.length-(Qa6 d).length):=by omega
  have hc':¬ ((((d.length-(Qa6 d).length):Nat):Int)<(((d.length-(Qa6 d).length):Nat):Int)):=by omega
  have htl:=QbQ d
  have e1:d.length-(d.length-(Qa6 d).length)=(Qa6 d).length:=by omega
  rw[e1] at a5
  have hel:=Qa8 d
  have hro:rowOf H id d.length=some (117,encD d):=by
   rw[hp];unfold rowOf;rw [hd];simp [hel]
  by_cases h0:(Qa6 d).length=0
  ·rw[h0] at a5 ⊢
   simp only[Qaa,ht]
   simp only[a0,a1,a4,a5,Qaa,Qag,Qae,Qab,LP,Tryd.f59,FT,seval]
   rw[hp]
   exact⟨_,rfl,(by rfl),(by rfl),(by rfl),(by rfl)⟩
  ·obtain⟨j,hj⟩:∃ j,(Qa6 d).length=j+1:=⟨(Qa6 d).length-1,by omega⟩
   have hlast:=QkX (l:=d) (fun e=>h0 (by rw [e];rfl))
   have hx:=Qby (l:=d) (i:=j) (by omega)
   have hg:d.getD j 0=(Qa6 d).getD j 0:=by
    rw[QbA d,List.getD_eq_getElem?_getD,List.getD_eq_getElem?_getD,List.getElem?_take,if_pos (by omega)]
   rw[hj,show j+1-1=j by omega,← hg] at hlast
   obtain⟨y,hy⟩:∃ y,y=d.getD j 0:=⟨_,rfl⟩
   rw[← hy] at hlast hx
   have hne:¬ (y:Int)=0:=by omega
   rw[hj] at a5 ⊢
   have hp1:(0:Int)<((j+1:Nat):Int):=by omega
   have hw1:IntKind.wrap .i64 (((j+1:Nat):Int)-1)=(j:Int):=by rw [wrap64 (by omega) (by omega)];omega
   have hj0:(0:Int)≤j:=by omega
   have hj1:(j:Int)<d.length:=by omega
   have hjN:j<d.length:=by omega
   simp only[Qaa,ht]
   simp only[a0,a1,a4,a5,hro,hel,hx,hp1,hw1,hj0,hj1,hjN,hne,Qaa,Qag,Qae,Qab,LP,Tryd.f59,FT,seval]
   rw[hp]
   exact⟨_,rfl,(by rfl),(by rfl),(by rfl),(by rfl)⟩
theorem Q4h (k:Nat) (d:List Nat) (hl:d.length≤1000000) (H:Heap) (id:Nat) (hd:H[id]?=some (rD d)) (hk:d.length<k) :
  ∃ G,Qav Tryd.prog (Qac tab) (k+1) (.fn 59) [bb false,.hsl id 0 d.length d.length 1] H=some (.agg [bb false,.hsl id 0 (Qa6 d).length d.length 1],H++G):=by
 have htl:=QbQ d
 have hidl:=(List.getElem?_eq_some_iff.1 hd).1
 rw[ev59]
 simp only[Tryd.f59,bb,FT,seval]
 rw[Qai QlB QCc];rotate_left;rfl;rfl;rfl
 generalize hz:Qar _ _ _ _ _ _ _ _ _ _ _ _=z
 have hd':(H++[AObj.cells 58 [.c (.bool false),.c (.slice [] 0 true (some 0))]])[id]?=some (rD d):=by
  rw[List.getElem?_append_left hidl];exact hd
 obtain⟨l',rfl,e0,e1,e4,e5⟩:=Q5u k d hl _ _ rfl id hd' _ _ _ _ z hz (by omega) (by rfl) (by rfl) (by rfl) (by rfl)
 clear hz
 have hel:=Qa8 d
 have hro:∀ G,rowOf (H++G) id d.length=some (117,encD d):=fun G=>by
  unfold rowOf;rw [List.getElem?_append_left hidl,hd];simp [hel]
 have hnew:(H++[AObj.cells 58 [.c (.bool false),.c (.slice [] 0 true (some 0))]])[H.length]?=some (AObj.cells 58 [.c (.bool false),.c (.slice [] 0 true (some 0))]):=by simp
 have h1:((Qa6 d).length:Int)≤d.length:=by omega
 have h0:(0:Int)≤(Qa6 d).length:=by omega
 have hsl:∀ G,QeM (H++G) 1 (.hsl id 0 d.length d.length 1) none (some (ii (Qa6 d).length))=some (.hsl id 0 (Qa6 d).length d.length 1):=fun G=>by
  simp only[QeM,Qcp]
  rw[hro G]
  simp[htl]
 have hset:∀ a b:AObj,(H++[a]).set H.length b=H++[b]:=fun a b=>by rw [List.set_append_right _ _ (Nat.le_refl _),Nat.sub_self];rfl
 have hnew2:∀ a:AObj,(H++[a])[H.length]?=some a:=fun a=>by simp
 simp only[e0,e1,e4,e5,hsl,hnew,hset,hnew2,FT,seval]
 split
 ·exact⟨[],by simp⟩
 ·exact⟨_,rfl⟩
def orV (q k:Nat):Nat:=(BitVec.ofInt 32 (q:Int) ||| BitVec.ofInt 32 ((2 ^ (k % 16):Nat):Int)).toNat
theorem p16 (k:Nat):2 ^ (k % 16)<65536:=Nat.lt_of_lt_of_le (Nat.pow_lt_pow_right (by omega) (Nat.mod_lt k (show 16 > 0 by omega))) (by decide)
theorem Qf0 {n:Nat} (h:n<65536):(BitVec.ofInt 32 (n:Int)).toNat=n:=by
 rw[BitVec.ofInt_natCast,BitVec.toNat_ofNat]
 exact Nat.mod_eq_of_lt (by omega)
theorem QCH {q k:Nat} (h:q<65536):orV q k<65536:=by
 unfold orV
 rw[BitVec.toNat_or,Qf0 h,Qf0 (p16 k)]
 exact Nat.or_lt_two_pow (n:=16) h (p16 k)
theorem orU {H:Heap} {t:TypeId} {q k:Nat} (h:q<65536):binA Tryd.prog H .or t (.c (.int .u32 (q:Int))) (.c (.int .u32 ((2 ^ (k % 16):Nat):Int)))=some (.c (.int .u32 (orV q k:Nat))):=by
 have e:binA Tryd.prog H .or t (.c (.int .u32 (q:Int))) (.c (.int .u32 ((2 ^ (k % 16):Nat):Int)))=some (.c (.int .u32 (IntKind.wrap .u32 (orV q k:Nat)))):=rfl
 rw[e,wr32]
 have:=QCH (k:=k) h
 omega
def dgR (a R:List Nat) (k:Nat):List Nat:=if 0<(dbS R (bitV a k) R.length).2 then (dbS R (bitV a k) R.length).1++[(dbS R (bitV a k) R.length).2] else (dbS R (bitV a k) R.length).1
def dgS (a b:List Nat):Nat→List Nat × List Nat
 | 0=>(List.replicate a.length 0,[])
 | i+1=>if 0≤szD (dgR a (dgS a b i).2 (Qbm a-1-i)) b
  then ((dgS a b i).1.set ((Qbm a-1-i) / 16) (orV ((dgS a b i).1.getD ((Qbm a-1-i) / 16) 0) (Qbm a-1-i)),Qa6 (QdM (dgR a (dgS a b i).2 (Qbm a-1-i)) b))
  else ((dgS a b i).1,dgR a (dgS a b i).2 (Qbm a-1-i))
theorem QB5 {l:List Nat} {d:Nat} (h:okD l) (hd:d<65536):okD (l++[d]):=fun x hx=>by
 rcases List.mem_append.1 hx with hx | hx
 ·exact h x hx
 ·rw[List.mem_singleton.1 hx];exact hd
theorem Q9c {a R:List Nat} {k:Nat} (hR:okD R):okD (dgR a R k)∧(dgR a R k).length≤R.length+1:=by
 obtain⟨h1,h2,h3⟩:=Qp7 hR (show bitV a k≤2 by have:=Qyb a k;omega) R.length
 unfold dgR
 split
 ·exact⟨QB5 h2 (by omega),by rw [List.length_append,h1];simp⟩
 ·exact⟨h2,by omega⟩
theorem QnF {a b:List Nat} (hb:okD b):∀ i,(dgS a b i).1.length=a.length∧okD (dgS a b i).1∧okD (dgS a b i).2∧(dgS a b i).2.length≤i
 | 0=>⟨by simp [dgS],fun d hd=>by rw [dgS] at hd;rw [List.eq_of_mem_replicate hd];omega,QrI,by simp [dgS]⟩
 | i+1=>by
  obtain⟨h1,h2,h3,h4⟩:=QnF (a:=a) hb i
  obtain⟨h5,h6⟩:=Q9c (a:=a) (k:=Qbm a-1-i) h3
  rw[dgS]
  split
  ·refine⟨by rw [List.length_set];exact h1,Qmi h2 (QCH (QaW h2 _)), ?_, ?_⟩
   ·rw[QbA]
    exact fun d hd=>Qhy h5 hb d (List.mem_of_mem_take hd)
   ·have h7:=QbQ (QdM (dgR a (dgS a b i).2 (Qbm a-1-i)) b)
    rw[Qd7] at h7
    simp only
    omega
  ·exact⟨h1,h2,h5,by simp only;omega⟩
theorem Q88:∀ l:List Nat,(encD l).all IV.scalar=true
 | []=>rfl
 | b::l=>by
  show (IV.int .u32 (b:Int)::encD l).all IV.scalar=true
  rw[List.all_cons,Q88 l];rfl
theorem QGD {N:Nat} {l:List Nat} {H:Heap}:QDs (some (.hsl 0 0 N N 1,[rD l])) H=some (.hsl H.length 0 N N 1,H++[rD l]):=by
 show (if _∧_ then _ else _)=_
 rw[if_pos ⟨rfl,by show (List.all (encD l) IV.scalar&&true)=true;rw [Q88];rfl⟩]
 rfl
theorem appR {o:Option (Nat × List Nat)} {P:List Nat} {H:Heap} {x y:Nat} (h:RA o P H) (hb:P.length≤1000000) (h0:1≤H.length):∃ id T H3,apO 117 1 4 none (rv o P.length) (H++[rD [y]]) (some ([.int .u32 (x:Int)],1))=some (rv (some (id,T)) (P.length+1),H3)∧0<id∧H3[id]?=some (rD (P++[x]++T))∧H3[0]?=H[0]?:=by
 cases o with
 | none =>
  have e:P=[]:=h
  subst e
  have:=QDQ (e:=117) (sz:=1) (by_:=4) (m:=1) (nl:=true) (H:=H++[rD [y]]) (cs:=[.int .u32 (x:Int)]) (by decide) (Nat.le_trans (show 1 * 4≤1000000 by decide) (by decide))
  refine⟨(H++[rD [y]]).length,[],(H++[rD [y]])++[rD [x]],this,by simp,by simp, ?_⟩
  rw[List.getElem?_append_left (by simp),List.getElem?_append_left (by omega)]
 | some q =>
  obtain⟨id,T⟩:=q
  obtain⟨h1,h2⟩:=h
  have hidl:=(List.getElem?_eq_some_iff.1 h2).1
  have h3:(H++[rD [y]])[id]?=some (rD (P++T)):=by rw [List.getElem?_append_left hidl];exact h2
  have hel:(encD (P++T)).length=P.length+T.length:=by rw [Qa8,List.length_append]
  have hro:rowOf (H++[rD [y]]) id (P.length+T.length)=some (117,encD (P++T)):=by unfold rowOf;rw [h3];simp [hel]
  have hli:Qcd (H++[rD [y]]) id=true:=by unfold Qcd;rw [h3]
  have hrb:(P.length+1) * 4≤Ab.roomBytes:=Nat.le_trans (show (P.length+1) * 4≤4000004 by omega) (by decide)
  have htk:(encD (P++T)).take P.length=encD P:=by rw [Qfb,List.take_left' rfl]
  have h0':∀ X:AObj,((H++[rD [y]]).set id X)[0]?=H[0]?:=fun X=>by
   rw[List.getElem?_set_ne (by omega),List.getElem?_append_left (by omega)]
  have hst:∀ X:AObj,((H++[rD [y]]).set id X)[id]?=some X:=fun X=>List.getElem?_set_self (by simp;omega)
  cases T with
  | nil =>
   refine⟨id,[],(H++[rD [y]]).set id (rD (P++[x])), ?_,h1,by rw [hst];simp,h0' _⟩
   simp only[QdC,List.length_nil,Nat.add_zero] at hro ⊢
   unfold apO
   simp only[Option.bind_some,hro]
   rw[if_neg (by omega),if_pos ⟨trivial,trivial,by omega,hrb,trivial,hli⟩,if_neg (by omega)]
   simp only[Nat.mul_one,htk]
   simp[encD,rD]
  | cons t T =>
   refine⟨id,T,(H++[rD [y]]).set id (rD (P++[x]++T)), ?_,h1,by rw [hst],h0' _⟩
   simp only[QdC] at hro ⊢
   unfold apO
   simp only[Option.bind_some,hro]
   have hdr:(encD (P++t::T)).drop (P.length+1)=encD T:=by
    rw[encD,← List.map_drop]
    congr 1
    rw[List.drop_append]
    simp
   rw[if_neg (by omega),if_pos ⟨trivial,trivial,by omega,hrb,trivial,hli⟩,if_pos (by simp)]
   simp only[Nat.mul_one,htk,hdr]
   simp[encD,rD]
   try omega
theorem Q5z (kf:Nat) (a b:List Nat) (nl nl2:Bool) (cap cap2:Option Nat) (ha:okD a) (hb:okD b) (hb0:0<b.length) (hla:a.length≤5000) (hlb:b.length≤5000) (H0:Heap) (hH0:H0=[rD (List.replicate a.length 0)]) (hkf:16 * a.length+100<kf) (k:Nat) (l:Ass) (z:Option Out) (hz:Qar Tryd.prog tab (kf+1) none QjF 126 124 [0,1,9,10,11] 1 k l H0=z) (hk:Qbm a<k) (a0:asc l 0=sD a nl cap) (a1:asc l 1=sD b nl2 cap2) (a9:asc l 9=.hsl 0 0 a.length a.length 1) (a10:asc l 10=rv none (dgS a b 0).2.length) (a11:asc l 11=ii ((Qbm a:Int)-1-0)) :
  ∃ l' o' H',z=some (.exit 2 (fr 124 l') H')∧asc l' 9=.hsl 0 0 a.length a.length 1∧asc l' 10=rv o' (dgS a b (Qbm a)).2.length∧H'[0]?=some (rD (dgS a b (Qbm a)).1)∧RA o' (dgS a b (Qbm a)).2 H':=by
 subst hz
 have hbl:=QjD ha
 refine Qa1 (Qbm a) (fun k l H=>Qar Tryd.prog tab (kf+1) none QjF 126 124 [0,1,9,10,11] 1 k l H)
  (fun i l H=>∃ (o:Option (Nat × List Nat)),asc l 0=sD a nl cap∧asc l 1=sD b nl2 cap2∧asc l 9=.hsl 0 0 a.length a.length 1∧asc l 10=rv o (dgS a b i).2.length∧asc l 11=ii ((Qbm a:Int)-1-i)∧((H[0]?=some (rD (dgS a b i).1)∧RA o (dgS a b i).2 H∧(o=none→H.length=1))))
  (fun z=>∃ l' o' H',z=some (.exit 2 (fr 124 l') H')∧asc l' 9=.hsl 0 0 a.length a.length 1∧asc l' 10=rv o' (dgS a b (Qbm a)).2.length∧H'[0]?=some (rD (dgS a b (Qbm a)).1)∧RA o' (dgS a b (Qbm a)).2 H') ?_ (Qbm a) 0 k l _ (by omega) hk ⟨none,a0,a1,a9,a10,a11,⟨by rw [hH0];rfl,rfl,fun _=>by rw [hH0];rfl⟩⟩
 clear hk a0 a1 a9 a10 a11
 rintro i k l H hi ⟨o,a0,a1,a9,a10,a11,hp⟩
 obtain⟨H',ht,hle',q0,qA,ql⟩:∃ H',trim 1 (fr 124 (keep l [0,1,9,10,11])) H=H'∧1≤H'.length∧H'[0]?=some (rD (dgS a b i).1)∧RA o (dgS a b i).2 H'∧(o=none→H'.length=1):=by
  obtain⟨p0,pA,pl⟩:=hp
  have hL:1≤H.length:=(List.getElem?_eq_some_iff.1 p0).1
  cases o with
  | none=>exact ⟨H,Qc8 (pl rfl),hL,p0,pA,pl⟩
  | some q =>
   obtain⟨id,T⟩:=q
   obtain⟨H',t1,t2,t3,t4⟩:=QBi (m:=1) (N:=124) (i:=10) (l:=keep l [0,1,9,10,11]) (by decide) (by exact a10) hL
   exact⟨H',t1,t2,by rw [t3 0 (by omega)];exact p0,⟨pA.1,by rw [t4];exact pA.2⟩,fun h=>by cases h⟩
 by_cases hc:i<(Qbm a)
 ·have hc':(i:Int)<((Qbm a:Nat):Int):=by omega
  have hc0:(0:Int)≤i:=by omega
  have hw:IntKind.wrap .i64 ((i:Int)+1)=((i+1:Nat):Int):=by rw [wrap64 (by omega) (by omega)];omega
  obtain⟨j,hj⟩:∃ j,Qbm a=j+1+i:=⟨Qbm a-1-i,by omega⟩
  have e2:Qbm a-1-i=j:=by omega
  have e3:(Qbm a:Int)-1-(i:Int)=(j:Int):=by omega
  have e4:(Qbm a:Int)-1-((i+1:Nat):Int)=(j:Int)-1:=by omega
  rw[e3] at a11
  rw[e4]
  have hj0:(0:Int)≤j:=by omega
  have hw2:IntKind.wrap .i64 ((j:Int)-1)=(j:Int)-1:=by rw [wrap64 (by omega) (by omega)]
  obtain⟨h1,h2,h3,h4⟩:=QnF (a:=a) hb i
  have hS:dgS a b (i+1)=if 0≤szD (dgR a (dgS a b i).2 j) b then ((dgS a b i).1.set (j / 16) (orV ((dgS a b i).1.getD (j / 16) 0) j),Qa6 (QdM (dgR a (dgS a b i).2 j) b)) else ((dgS a b i).1,dgR a (dgS a b i).2 j):=by rw [← e2];rfl
  rw[hS]
  obtain⟨Q,hQ⟩:∃ Q,Q=(dgS a b i).1:=⟨_,rfl⟩
  obtain⟨R,hRR⟩:∃ R,R=(dgS a b i).2:=⟨_,rfl⟩
  rw[← hQ] at h1 h2 q0 ⊢
  rw[← hRR] at h3 h4 qA a10 ⊢
  obtain⟨hd1,hd2⟩:=Q9c (a:=a) (k:=j) h3
  have hbit:=QH3 kf a nl cap (by omega) j (by omega)
  simp only[run,ii] at hbit
  have hbl1:=Qyb a j
  obtain⟨g1,g2,g3⟩:=Qp7 h3 (show bitV a j≤2 by omega) R.length
  have hdR:dgR a R j=if 0<(dbS R (bitV a j) R.length).2 then (dbS R (bitV a j) R.length).1++[(dbS R (bitV a j) R.length).2] else (dbS R (bitV a j) R.length).1:=rfl
  have hsz:=fun nl' cap'=>QB1 kf (dgR a R j) b nl' nl2 cap' cap2 hd1 hb (by omega) (by omega)
  simp only[run,ii] at hsz
  simp only[Qaa,ht]
  simp only[a0,a1,a9,a10,a11,hj0,hbit,Qaa,Qag,Qae,Qab,LP,Tryd.f126,FT,seval]
  rw[Qai QjE QAG];rotate_left;rfl;rfl;rfl
  generalize hz:Qar _ _ _ _ _ _ _ _ _ _ _ _=z
  obtain⟨l2,rfl,f0,f1,f9,f10,f11,f12⟩:=Q4S (kf+1) o R (bitV a j) H' _ rfl qA h3 (by omega) (by omega) _ _ _ _ _ _ z hz (by omega) (by rfl) (by rfl) (by rfl) (by rfl) (by rfl) (by rfl) (by rfl)
  clear hz
  obtain⟨P,hP⟩:∃ P,P=(dbS R (bitV a j) R.length).1:=⟨_,rfl⟩
  obtain⟨c,hcc⟩:∃ c,c=(dbS R (bitV a j) R.length).2:=⟨_,rfl⟩
  rw[← hP,← hcc] at hdR
  rw[← hP] at g1 g2 ⊢
  rw[← hcc] at g3 f12
  have hA2:RA o P (dbH o P H'):=by
   cases o with
   | none=>have e:R=[]:=qA;subst e;exact List.eq_nil_of_length_eq_zero g1
   | some q=>exact ⟨qA.1,List.getElem?_set_self (List.getElem?_eq_some_iff.1 qA.2).1⟩
  have h20:(dbH o P H')[0]?=some (rD Q):=by
   cases o with
   | none=>exact q0
   | some q=>show (H'.set q.1 _)[0]?=_;rw [List.getElem?_set_ne (by have:=qA.1;omega)];exact q0
  have h2l:1≤(dbH o P H').length:=by rw [QhH];exact hle'
  obtain⟨R1,hR1⟩:∃ R1,R1=dgR a R j:=⟨_,rfl⟩
  rw[← hR1] at hd1 hd2 hdR hsz ⊢
  have hsz1:=hsz false none
  by_cases hcar:0<c
  ·have hcar':(0:Int)<(c:Int):=by omega
   rw[if_pos hcar] at hdR
   obtain⟨id,T,H3,hap,hid,h3i,h30⟩:=appR (x:=c) (y:=c) hA2 (by omega) h2l
   rw[h20] at h30
   rw[← hdR] at h3i
   have hn:R.length+1=R1.length:=by rw [hdR,List.length_append,g1];rfl
   rw[g1,hn] at hap
   have hap':apO 117 1 4 none (rv o R.length) (dbH o P H'++[AObj.row false 117 [IV.int .u32 (c:Int)]]) (some ([IV.int .u32 (c:Int)],1))=some (rv (some (id,T)) R1.length,H3):=hap
   obtain⟨H2,hH2⟩:∃ H2,H2=dbH o P H':=⟨_,rfl⟩
   rw[← hH2] at hap' ⊢
   have hgn:∀ X:AObj,(H2++[X])[H2.length]?=some X:=fun X=>by simp
   have hel:(encD (R1++T)).length=R1.length+T.length:=by rw [Qa8,List.length_append]
   have hro:rowOf H3 id (R1.length+T.length)=some (117,encD (R1++T)):=by unfold rowOf;rw [h3i];simp [hel]
   have hte:(encD (R1++T)).take R1.length=encD R1:=by rw [Qfb,List.take_left' rfl]
   have hle3:R1.length≤R1.length+T.length:=by omega
   by_cases hge:0≤szD R1 b
   ·rw[if_pos hge]
    have hR1p:0<R1.length:=by
     by_cases hz0:R1.length<b.length
     ·unfold szD at hge;rw [if_pos hz0] at hge;exact absurd hge (by decide)
     ·omega
    have hmr:=Quw kf R1 b false nl2 none cap2 hd1 hb (by omega) (by omega) (by omega) hR1p
    have hml:=Qd7 R1 b
    have htl:=QbQ (QdM R1 b)
    obtain⟨M,hM⟩:∃ M,M=QdM R1 b:=⟨_,rfl⟩
    rw[← hM] at hmr hml htl ⊢
    obtain⟨G,hnr⟩:=Q4h kf M (by omega) (H3++[rD M]) H3.length (by simp) (by omega)
    have h3l:=(List.getElem?_eq_some_iff.1 h30).1
    obtain⟨H5,hH5⟩:∃ H5,H5=H3++[rD M]++G:=⟨_,rfl⟩
    have h50:H5[0]?=some (rD Q):=by
     rw[hH5,List.getElem?_append_left (by simp),List.getElem?_append_left (by omega)];exact h30
    have h5i:H5[H3.length]?=some (rD M):=by
     rw[hH5,List.getElem?_append_left (by simp)];simp
    rw[← hH5,hml] at hnr
    simp only[bb] at hnr
    have t1:((j:Nat):Int).tdiv 16=((j / 16:Nat):Int):=rfl
    have t2:((j:Nat):Int).tmod 16=((j % 16:Nat):Int):=rfl
    have w1:IntKind.wrap .i64 ((j / 16:Nat):Int)=((j / 16:Nat):Int):=by rw [wrap64 (by omega) (by omega)]
    have hsh:=fun (H:Heap) (t:TypeId)=>shlU (H:=H) (t:=t) (n:=j % 16) (by omega)
    have hor:=fun (H:Heap) (t:TypeId)=>orU (H:=H) (t:=t) (q:=Q.getD (j / 16) 0) (k:=j) (QaW h2 _)
    have hx:=Qby (l:=Q) (i:=j / 16) (by omega)
    have heq:=Qa8 Q
    rw[h1] at heq
    have hroq:rowOf H5 0 a.length=some (117,encD Q):=by unfold rowOf;rw [h50];simp [heq]
    have hliq:Qcd H5 0=true:=by unfold Qcd;rw [h50]
    have hja:(0:Int)≤((j / 16:Nat):Int):=by omega
    have hjb:((j / 16:Nat):Int)<(a.length:Int):=by omega
    have hjc:j / 16<a.length:=by omega
    simp only[f0,f1,f9,f10,f11,f12,hcar',hap',hgn,QdC,hro,hel,hte,hle3,hsz1,hge,hmr,QoG,QGD,hnr,QkO,Qq1,FT,seval]
    rw[Qaf Tryd.f126 27 QzI];rotate_left;rfl
    simp only[f0,f1,f9,f11,t1,t2,w1,hsh,hor,hx,heq,hroq,hliq,hja,hjb,hjc,h50,Qe6,hw2,EVd,List.getElem?_nil,Nat.reducePow,Nat.reduceDiv,Nat.reduceMod,FT,seval]
    have hTn:(Qa6 M).length+(M.drop (Qa6 M).length).length=R1.length:=by rw [List.length_drop];omega
    have hTe:Qa6 M++M.drop (Qa6 M).length=M:=by
     have h:=List.take_append_drop (Qa6 M).length M
     rw[← QbA M] at h
     exact h
    refine .inr ⟨_,_,hc,rfl,some (H3.length,M.drop (Qa6 M).length),(by exact f0),(by exact f1),(by exact f9),(by rw [QdC,hTn];rfl),(by rfl), ?_,⟨by omega, ?_⟩,fun h=>by cases h⟩
    ·exact List.getElem?_set_self (by have:=(List.getElem?_eq_some_iff.1 h50).1;omega)
    ·rw[List.getElem?_set_ne (by omega),hTe];exact h5i
   ·rw[if_neg hge]
    simp only[f0,f1,f9,f10,f11,f12,hcar',hap',hgn,QdC,hro,hel,hte,hle3,hsz1,hge,hw2,FT,seval]
    refine .inr ⟨_,_,hc,rfl,some (id,T),(by exact f0),(by exact f1),(by exact f9),(by first | rfl | exact f10),(by rfl),h30,⟨hid,h3i⟩,fun h=>by cases h⟩
  ·have hcar':¬ (0:Int)<(c:Int):=by omega
   rw[if_neg hcar] at hdR
   subst hdR
   cases o with
   | none =>
    have e:R1=[]:=hA2
    subst e
    have hsz0:ans (Qav Tryd.prog (Qac tab) (kf+1) (.fn 97) [.c (.slice [] 0 true (some 0)),sD b nl2 cap2] [])=some (.c (.int .i64 (szD [] b))):=hsz true (some 0)
    have hm:szD [] b=-1:=by unfold szD;rw [if_pos (by simpa using hb0)]
    have hmn:¬ (0:Int)≤-1:=by omega
    rw[hm] at hsz0 ⊢
    rw[if_neg hmn]
    simp only[f0,f1,f9,f10,f11,f12,hcar',Qy3,hsz0,hmn,hw2,FT,seval]
    refine .inr ⟨_,_,hc,rfl,none,(by exact f0),(by exact f1),(by exact f9),(by exact f10),(by rfl),h20,rfl,fun _=>by rw [QhH];exact ql rfl⟩
   | some q =>
    obtain⟨id,T⟩:=q
    obtain⟨hid,h3i⟩:=hA2
    obtain⟨H3,hH3⟩:∃ H3,H3=dbH (some (id,T)) R1 H':=⟨_,rfl⟩
    have h30:=h20
    rw[← hH3] at h30 h3i ⊢
    rw[← g1] at f10
    have hel:(encD (R1++T)).length=R1.length+T.length:=by rw [Qa8,List.length_append]
    have hro:rowOf H3 id (R1.length+T.length)=some (117,encD (R1++T)):=by unfold rowOf;rw [h3i];simp [hel]
    have hte:(encD (R1++T)).take R1.length=encD R1:=by rw [Qfb,List.take_left' rfl]
    have hle3:R1.length≤R1.length+T.length:=by omega
    by_cases hge:0≤szD R1 b
    ·rw[if_pos hge]
     have hR1p:0<R1.length:=by
      by_cases hz0:R1.length<b.length
      ·unfold szD at hge;rw [if_pos hz0] at hge;exact absurd hge (by decide)
      ·omega
     have hmr:=Quw kf R1 b false nl2 none cap2 hd1 hb (by omega) (by omega) (by omega) hR1p
     have hml:=Qd7 R1 b
     have htl:=QbQ (QdM R1 b)
     obtain⟨M,hM⟩:∃ M,M=QdM R1 b:=⟨_,rfl⟩
     rw[← hM] at hmr hml htl ⊢
     obtain⟨G,hnr⟩:=Q4h kf M (by omega) (H3++[rD M]) H3.length (by simp) (by omega)
     have h3l:=(List.getElem?_eq_some_iff.1 h30).1
     obtain⟨H5,hH5⟩:∃ H5,H5=H3++[rD M]++G:=⟨_,rfl⟩
     have h50:H5[0]?=some (rD Q):=by
      rw[hH5,List.getElem?_append_left (by simp),List.getElem?_append_left (by omega)];exact h30
     have h5i:H5[H3.length]?=some (rD M):=by
      rw[hH5,List.getElem?_append_left (by simp)];simp
     rw[← hH5,hml] at hnr
     simp only[bb] at hnr
     have t1:((j:Nat):Int).tdiv 16=((j / 16:Nat):Int):=rfl
     have t2:((j:Nat):Int).tmod 16=((j % 16:Nat):Int):=rfl
     have w1:IntKind.wrap .i64 ((j / 16:Nat):Int)=((j / 16:Nat):Int):=by rw [wrap64 (by omega) (by omega)]
     have hsh:=fun (H:Heap) (t:TypeId)=>shlU (H:=H) (t:=t) (n:=j % 16) (by omega)
     have hor:=fun (H:Heap) (t:TypeId)=>orU (H:=H) (t:=t) (q:=Q.getD (j / 16) 0) (k:=j) (QaW h2 _)
     have hx:=Qby (l:=Q) (i:=j / 16) (by omega)
     have heq:=Qa8 Q
     rw[h1] at heq
     have hroq:rowOf H5 0 a.length=some (117,encD Q):=by unfold rowOf;rw [h50];simp [heq]
     have hliq:Qcd H5 0=true:=by unfold Qcd;rw [h50]
     have hja:(0:Int)≤((j / 16:Nat):Int):=by omega
     have hjb:((j / 16:Nat):Int)<(a.length:Int):=by omega
     have hjc:j / 16<a.length:=by omega
     simp only[f0,f1,f9,f10,f11,f12,hcar',QdC,hro,hel,hte,hle3,hsz1,hge,hmr,QoG,QGD,hnr,QkO,Qq1,FT,seval]
     rw[Qaf Tryd.f126 27 QzI];rotate_left;rfl
     simp only[f0,f1,f9,f11,t1,t2,w1,hsh,hor,hx,heq,hroq,hliq,hja,hjb,hjc,h50,Qe6,hw2,EVd,List.getElem?_nil,Nat.reducePow,Nat.reduceDiv,Nat.reduceMod,FT,seval]
     have hTn:(Qa6 M).length+(M.drop (Qa6 M).length).length=R1.length:=by rw [List.length_drop];omega
     have hTe:Qa6 M++M.drop (Qa6 M).length=M:=by
      have h:=List.take_append_drop (Qa6 M).length M
      rw[← QbA M] at h
      exact h
     refine .inr ⟨_,_,hc,rfl,some (H3.length,M.drop (Qa6 M).length),(by exact f0),(by exact f1),(by exact f9),(by rw [QdC,hTn];rfl),(by rfl), ?_,⟨by omega, ?_⟩,fun h=>by cases h⟩
     ·exact List.getElem?_set_self (by have:=(List.getElem?_eq_some_iff.1 h50).1;omega)
     ·rw[List.getElem?_set_ne (by omega),hTe];exact h5i
    ·rw[if_neg hge]
     simp only[f0,f1,f9,f10,f11,f12,hcar',QdC,hro,hel,hte,hle3,hsz1,hge,hw2,FT,seval]
     refine .inr ⟨_,_,hc,rfl,some (id,T),(by exact f0),(by exact f1),(by exact f9),(by first | rfl | exact f10),(by rfl),h30,⟨hid,h3i⟩,fun h=>by cases h⟩
 ·refine .inl ?_
  obtain rfl:i=(Qbm a):=by omega
  have hc':¬ ((((Qbm a):Nat):Int)<(((Qbm a):Nat):Int)):=by omega
  have hlt:¬ ((0:Int)≤(Qbm a:Int)-1-Qbm a):=by omega
  simp only[Qaa,ht]
  simp only[a0,a1,a9,a10,a11,hlt,Qaa,Qag,Qae,Qab,LP,Tryd.f126,FT,seval]
  exact⟨_,_,_,rfl,(by rfl),(by rfl),q0,qA⟩
def dvQ (a b:List Nat):List Nat:=if b.length=1 then Qa6 (dvS a (b.getD 0 0) a.length).1 else Qa6 (dgS a b (Qbm a)).1
def dvR (a b:List Nat):List Nat:=if b.length=1 then Qa6 [(dvS a (b.getD 0 0) a.length).2] else (dgS a b (Qbm a)).2
theorem Q4U (k:Nat) (a:List Nat) (b:Nat) (nl nl2:Bool) (cap cap2:Option Nat) (ha:okD a) (hb0:0<b) (hb1:b<65536) (hla:a.length≤5000) (hk:16 * a.length+200<k) :
  ∃ nl3 cap3 nl4 cap4,run (k+2) 126 [sD a nl cap,sD [b] nl2 cap2]=some (.tup [sD (Qa6 (dvS a b a.length).1) nl3 cap3,sD (Qa6 [(dvS a b a.length).2]) nl4 cap4]):=by
 have q1:(0:Int)≤a.length:=by omega
 have q2:a.length * 4≤roomBytes:=Nat.le_trans (show a.length * 4≤1000000 by omega) (by decide)
 have q3:a.length≤roomBytes:=Nat.le_trans (show a.length≤1000000 by omega) (by decide)
 have hw:IntKind.wrap .i64 ((a.length:Int)-1)=(a.length:Int)-1:=by rw [wrap64 (by omega) (by omega)]
 have hb':encD [b]=[.int .u32 (b:Int)]:=rfl
 rw[run,QFs,Qaq]
 simp only[Tryd.f126,sD,List.length_cons,List.length_nil,q1,q2,q3,hw,QjI,FT,seval]
 rw[Qai Qri QEs];rotate_left;rfl;rfl;rfl
 generalize hz:Qar _ _ _ _ _ _ _ _ _ _ _ _=z
 obtain⟨l2,rfl,f0,f1,f6,f7,f8⟩:=Q82 (k+1) a b nl nl2 cap cap2 ha hb0 hb1 (by omega) _ _ z hz (by omega) (by rfl) (by rfl) (by rfl) (by rfl) (by rw [show (a.length:Int)-1-0=(a.length:Int)-1 by omega];rfl)
 clear hz
 obtain⟨h1,h2,h3⟩:=QlR ha hb0 a.length
 obtain⟨Q,hQ⟩:∃ Q,Q=(dvS a b a.length).1:=⟨_,rfl⟩
 obtain⟨r,hr⟩:∃ r,r=(dvS a b a.length).2:=⟨_,rfl⟩
 rw[← hQ] at h1 h2 ⊢
 rw[← hr] at h3 f7 ⊢
 have hel:=Qa8 Q
 rw[h1] at hel
 have htk:(encD Q).take a.length=encD Q:=List.take_of_length_le (by rw [hel];exact Nat.le_refl _)
 have hw3:=wr32 (n:=r) (by omega)
 have hor:okD [r]:=fun d hd=>by rw [List.mem_singleton.1 hd];omega
 rw[Ql5 h2,Ql5 hor]
 have hn1:=Qcf k false Q false none h2 (by omega) (by omega)
 have hn2:=Qcf k false [r] false none hor (by simp) (by simp only [List.length_cons,List.length_nil];omega)
 have her:encD [r]=[.int .u32 (r:Int)]:=rfl
 obtain⟨H2,hds,hl2,hold⟩:=QdI (k:=k) (f:=126) (r:=10) (i:=1) (id:=0) (neg:=false) (d:=Q) (H:=[rD Q]) (by rfl) h2 (by omega) (by omega)
 have hgn:∀ X:AObj,(H2++[X])[H2.length]?=some X:=fun X=>by simp
 obtain⟨H3,hds2,hl3,hold3⟩:=QdI (k:=k) (f:=126) (r:=10) (i:=6) (id:=H2.length) (neg:=false) (d:=[r]) (H:=H2++[rD [r]]) (by simp) hor (by simp) (by simp only [List.length_cons,List.length_nil];omega)
 have hs1:sgn false (vd Q)=(vd Q:Nat):=rfl
 have hs2:sgn false (vd [r])=(vd [r]:Nat):=rfl
 rw[sD,h1,hs1] at hn1
 rw[h1,hs1] at hds
 rw[hs2] at hn2 hds2
 simp only[rD,her,List.length_cons,List.length_nil,bb] at hds2
 simp only[run,bb,sD,her,List.length_cons,List.length_nil] at hn1 hn2
 simp only[bb] at hds
 refine⟨false,none,false,none, ?_⟩
 simp only[f0,f1,f6,f7,f8,hel,htk,hw3,hn1,hn2,hds,hds2,hgn,Nat.le_refl,Qco,Qdw,Qcv,QcI,Qcg,FT,seval]
 simp only[Int.natAbs_natCast]
theorem Q5M (k:Nat) (a b:List Nat) (nl nl2:Bool) (cap cap2:Option Nat) (ha:okD a) (hb:okD b) (hb0:0<b.length) (hb1:b.length≠1) (hla:a.length≤5000) (hlb:b.length≤5000) (hk:16 * a.length+200<k) :
  ∃ nl3 cap3 nl4 cap4,run (k+2) 126 [sD a nl cap,sD b nl2 cap2]=some (.tup [sD (Qa6 (dgS a b (Qbm a)).1) nl3 cap3,sD (dgS a b (Qbm a)).2 nl4 cap4]):=by
 have q1:(0:Int)≤a.length:=by omega
 have q2:a.length * 4≤roomBytes:=Nat.le_trans (show a.length * 4≤1000000 by omega) (by decide)
 have q3:a.length≤roomBytes:=Nat.le_trans (show a.length≤1000000 by omega) (by decide)
 have hbl:=QjD ha
 have hb1':¬ (b.length:Int)=1:=by omega
 have hw:IntKind.wrap .i64 ((Qbm a:Int)-1)=(Qbm a:Int)-1:=by rw [wrap64 (by omega) (by omega)]
 have hbi:=QDP k a nl cap ha (by omega) (by omega)
 simp only[run,ii] at hbi
 rw[run,QFs,Qaq]
 simp only[Tryd.f126,hb1',q1,q2,q3,hw,hbi,QjI,FT,seval]
 rw[Qai QjF QAP];rotate_left;rfl;rfl;rfl
 generalize hz:Qar _ _ _ _ _ _ _ _ _ _ _ _=z
 obtain⟨l2,o,H',rfl,f9,f10,h0,hA⟩:=Q5z k a b nl nl2 cap cap2 ha hb hb0 hla hlb _ rfl (by omega) _ _ z hz (by omega) (by rfl) (by rfl) (by rfl) (by rfl) (by rw [show (Qbm a:Int)-1-0=(Qbm a:Int)-1 by omega];rfl)
 clear hz
 obtain⟨h1,h2,h3,h4⟩:=QnF (a:=a) hb (Qbm a)
 obtain⟨Q,hQ⟩:∃ Q,Q=(dgS a b (Qbm a)).1:=⟨_,rfl⟩
 obtain⟨R,hR⟩:∃ R,R=(dgS a b (Qbm a)).2:=⟨_,rfl⟩
 rw[← hQ] at h1 h2 h0 ⊢
 rw[← hR] at h3 h4 hA f10 ⊢
 have hel:=Qa8 Q
 rw[h1] at hel
 have htk:(encD Q).take a.length=encD Q:=List.take_of_length_le (by rw [hel];exact Nat.le_refl _)
 rw[Ql5 h2]
 have hn1:=Qcf k false Q false none h2 (by omega) (by omega)
 obtain⟨H2,hds,hl2,hold⟩:=QdI (k:=k) (f:=126) (r:=28) (i:=1) (id:=0) (neg:=false) (d:=Q) (H:=H') h0 h2 (by omega) (by omega)
 have hs1:sgn false (vd Q)=(vd Q:Nat):=rfl
 rw[sD,h1,hs1] at hn1
 rw[h1,hs1] at hds
 simp only[run,bb,sD] at hn1
 simp only[bb] at hds
 have hroq:rowOf H' 0 a.length=some (117,encD Q):=by unfold rowOf;rw [h0];simp [hel]
 cases o with
 | none =>
  have e:R=[]:=hA
  subst e
  refine⟨false,none,true,some 0, ?_⟩
  simp only[f9,f10,Qy3,hel,htk,h0,hroq,hn1,hds,Nat.le_refl,Qco,Qdw,Qcv,QcI,Qcg,FT,seval]
  simp only[Int.natAbs_natCast]
  rfl
 | some q =>
  obtain⟨id,T⟩:=q
  obtain⟨hid,h3i⟩:=hA
  have h2i:H2[id]?=some (rD (R++T)):=by rw [hold id (by omega)];exact h3i
  have hel3:(encD (R++T)).length=R.length+T.length:=by rw [Qa8,List.length_append]
  have hro3:rowOf H2 id (R.length+T.length)=some (117,encD (R++T)):=by unfold rowOf;rw [h2i];simp [hel3]
  have hte3:(encD (R++T)).take R.length=encD R:=by rw [Qfb,List.take_left' rfl]
  have hle3:R.length≤R.length+T.length:=by omega
  refine⟨false,none,false,none, ?_⟩
  simp only[f9,f10,QdC,hel,htk,h0,h2i,hroq,hn1,hds,hel3,hro3,hte3,hle3,Nat.le_refl,Qco,Qdw,Qcv,QcI,Qcg,FT,seval]
  simp only[Int.natAbs_natCast]
theorem QAf (k:Nat) (a b:List Nat) (nl nl2:Bool) (cap cap2:Option Nat) (ha:okD a) (hb:okD b) (hb0:0<b.length) (hbz:b.length=1→0<b.getD 0 0) (hla:a.length≤5000) (hlb:b.length≤5000) (hk:16 * a.length+200<k) :
  ∃ nl3 cap3 nl4 cap4,run (k+2) 126 [sD a nl cap,sD b nl2 cap2]=some (.tup [sD (dvQ a b) nl3 cap3,sD (dvR a b) nl4 cap4]):=by
 unfold dvQ dvR
 by_cases h1:b.length=1
 ·rw[if_pos h1,if_pos h1]
  obtain⟨x,rfl⟩:∃ x,b=[x]:=by
   cases b with
   | nil=>cases hb0
   | cons x t =>
    cases t with
    | nil=>exact ⟨x,rfl⟩
    | cons y t=>simp at h1
  exact Q4U k a x nl nl2 cap cap2 ha (hbz rfl) (hb x (by simp)) hla hk
 ·rw[if_neg h1,if_neg h1]
  exact Q5M k a b nl nl2 cap cap2 ha hb hb0 h1 hla hlb hk
theorem QCL {a b:List Nat} (ha:okD a) (hb:okD b) (hb0:0<b.length) (hbz:b.length=1→0<b.getD 0 0):okD (dvQ a b)∧(dvQ a b).length≤a.length:=by
 unfold dvQ
 split
 ·rename_i h
  obtain⟨h1,h2,h3⟩:=QlR ha (hbz h) a.length
  refine⟨by rw [QbA];exact fun d hd=>h2 d (List.mem_of_mem_take hd), ?_⟩
  have:=QbQ (dvS a (b.getD 0 0) a.length).1
  omega
 ·obtain⟨h1,h2,h3,h4⟩:=QnF (a:=a) hb (Qbm a)
  refine⟨by rw [QbA];exact fun d hd=>h2 d (List.mem_of_mem_take hd), ?_⟩
  have:=QbQ (dgS a b (Qbm a)).1
  omega
theorem QFH {a b:List Nat} (ha:okD a) (hb:okD b) (hb0:0<b.length) (hbz:b.length=1→0<b.getD 0 0):okD (dvR a b)∧(dvR a b).length≤16 * a.length+1:=by
 unfold dvR
 split
 ·rename_i h
  obtain⟨h1,h2,h3⟩:=QlR ha (hbz h) a.length
  have hb1:=QaW hb 0
  have hor:okD [(dvS a (b.getD 0 0) a.length).2]:=fun d hd=>by rw [List.mem_singleton.1 hd];omega
  refine⟨by rw [QbA];exact fun d hd=>hor d (List.mem_of_mem_take hd), ?_⟩
  have:=QbQ [(dvS a (b.getD 0 0) a.length).2]
  simp only[List.length_cons,List.length_nil] at this
  omega
 ·obtain⟨h1,h2,h3,h4⟩:=QnF (a:=a) hb (Qbm a)
  have:=QjD ha
  exact⟨h3,by omega⟩
end Go.Proofs.Sw
