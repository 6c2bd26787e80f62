/- Own work: contracts. -/
import Derived.Test.YtebhdkihcdmmjaaGreatConF
import Derived.Test.YtebhdkihcdmmjaaGreatConB
import Derived.Test.YtebhdkihcdmmjaaGreatConE
import Derived.Test.YtebhdkihcdmmjaaGreatLibB
import Derived.Test.YtebhdkihcdmmjaaGreatConC
set_option linter.all false
set_option maxHeartbeats 8000000
set_option maxRecDepth 100000
namespace Go.Proofs
open Go.Hx Tryz
variable {tot:Int}{l:List Int}{r:List Nat}{a k n w:Nat}{be ch:Nat->List Int}{I:Nat->Nat->Nat}{H:Zn}{lvh:Zo}{d:Zq}{D:Zx}{T:Zz}
def Tw {i g o:Nat}{e:TypeId}{cells:List Zo}(hg:H.get i=some (.J g e cells))(hn:n=l.length)(h0:l≠[])(hl:(l.length:Int)<2 ^ 62)(hx:∀j (h:j<l.length),cells[o+j]?=some (aa l[j])):
  ae prog G0 150 [.U i g o n 1] H fun r H'=>r=.ret (aa (iD l))/\H'=H :=
 ae.frame (args':=[af l]) aF rfl (fun j hj _=>match j,hj with|0,_=>Fz.ints trivial hg hn hx) (T3 l h0 hl cW _ ⟨_,rfl,.lit _⟩)
def fD (a:List Int)(l:List Int):Nat->List Int
 |0=>l
 |n+1=>(fD a l n).set n (a.getD n 0)
def nE (a l:List Int)(n:Nat):(fD a l n).length=l.length:=by
 induction n with
 |zero=>rfl
 |succ n ih=>unfold fD;rw[Vm,ih]
def FR {a:List Int}(n i:Nat)(hi:i<l.length):(fD a l n).getD i 0=if i<n then a.getD i 0 else l.getD i 0:=by
 induction n with
 |zero=>rfl
 |succ n ih =>
  unfold fD;by_cases hn:n<l.length
  ·rw[nk _ _ _ _ _ (by rw[nE];exact hn),ih];by_cases h:n=i
   ·subst h;rw[UX rfl,UX V]
   ·rw[UW h];by_cases h2:i<n
    ·rw[UX h2,UX V]
    ·rw[UW h2,UW V]
  ·rw[List.set_eq_of_length_le (by rw[nE];omega),ih,UX V,UX V]
def Tx {a:List Int}(h:a.length=l.length):fD a l l.length=a:=by
 apply VG;intro i;by_cases hi:i<l.length
 ·have h1:=FR (a:=a) l.length i hi;rw[UX hi]at h1;obtain⟨x,hx⟩:=aw (l:=fD a l l.length) (i:=i) (by rw[nE];exact hi);obtain⟨y,hy⟩:=aw (l:=a) (i:=i) V;rw[kJ hx,kJ hy]at h1;rw[hx,hy,h1]
 ·rw[U3 (by rw[nE];omega),U3 V]
def cz (D:Zx)(T:Zz)(k:Nat):List Int:=kF (D.cs k) (D.cd k) (T.ex k)
def iH (D:Zx)(T:Zz)(k n:Nat):Zz:={ T with be:=fC T.be k (fD (cz D T k) (T.be k) n),ex:=if 0<k then fC T.ex (k-1) (dP (T.ab k) (cz D T k) n (T.ex (k-1))) else T.ex }
def tS (D:Zx)(T:Zz)(k:Nat):Zz:={ T with be:=fC T.be k (cz D T k),ex:=if 0<k then fC T.ex (k-1) (dP (T.ab k) (cz D T k) (D.cs k) (T.ex (k-1))) else T.ex }
def gQ (D:Zx)(T:Zz)(k n:Nat)(tot:Int):Int:=if 0<k then tot else tot+SS n fun c=>(cz D T k).getD c 0
def nG (r:List Nat)(s:Nat)(I:Nat->Nat->Nat)(H H':Zn):Prop:=∀i,i≠s->(∀k j,k<r.length->j<6->i≠I k j)->H'.get i=H.get i
def Ty (hl:T.Len D n)(hk:k<n):iH D T k (D.cs k)=tS D T k:=by
 unfold iH tS;have:fD (cz D T k) (T.be k) (D.cs k)=cz D T k:=by
  rw[<- hl.be k hk];exact Tx (by unfold cz;rw[EX];exact(hl.be k hk).symm)
 rw[this]
def At {m:Nat}(hl:T.Len D n):(iH D T k m).Len D n:=by
 refine⟨hl.ab,hl.oc,fun k' hk=>?_,fun k' hk=>?_,hl.ch⟩
 ·unfold iH;simp only;split
  ·by_cases e:k'=k-1
   ·rw[e,lI,tG];rw[<- e];exact hl.ex k' hk
   ·rw[lJ e];exact hl.ex k' hk
  ·exact hl.ex k' hk
 ·unfold iH;simp only;by_cases e:k'=k
  ·rw[e,lI,nE];rw[<- e];exact hl.be k' hk
  ·rw[lJ e];exact hl.be k' hk
def oL (D:Zx)(T:Zz)(k n:Nat):Zz:={ iH D T k n with be:=fC T.be k (fD (cz D T k) (T.be k) (n+1)) }
def Tz {m:Nat}(hl:T.Len D n):(oL D T k m).Len D n:=by
 have h1:=At (k:=k) (m:=m) hl;exact⟨h1.ab,h1.oc,h1.ex,(At (k:=k) (m:=m+1) hl).be,h1.ch⟩
def TA (D:Zx)(T:Zz)(k:Nat):iH D T k 0=T:=by
 have h1:fC T.be k (T.be k)=T.be:=by funext k';unfold fC;split;{ rename_i e;rw[e] };rfl
 have h2:∀f:Nat->List Int,fC f (k-1) (f (k-1))=f:=fun f=>by funext k';unfold fC;split;{ rename_i e;rw[e] };rfl
 unfold iH;simp only[fD];rw[h1];have h3:(if 0<k then fC T.ex (k-1) (dP (T.ab k) (cz D T k) 0 (T.ex (k-1))) else T.ex)=T.ex:=by
  split
  ·exact h2 T.ex
  ·rfl
 rw[h3]
def TB {lo s:Nat}(hrl:r.length<=64)(hk:k<r.length)(hsz:(ay d r).cs k*(ay d r).cd k<2 ^ 40)(hcd:1<=(ay d r).cd k)(hcd2:(ay d r).cd k<2 ^ 40)(hcs2:(ay d r).cs k<2 ^ 40)
  (hab:0<k->∀c,c<(ay d r).cs k->0<=(T.ab k).getD c 0/\(T.ab k).getD c 0<((ay d r).cs (k-1)*(ay d r).cd (k-1):Nat))
  (hb1:0<k->∀n,n<(ay d r).cs k->-9223372036854775808<=(dP (T.ab k) (cz (ay d r) T k) n (T.ex (k-1))).getD ((T.ab k).getD n 0).toNat 0+(cz (ay d r) T k).getD n 0/\(dP (T.ab k) (cz (ay d r) T k) n (T.ex (k-1))).getD ((T.ab k).getD n 0).toNat 0+(cz (ay d r) T k).getD n 0<=9223372036854775807)
  (hb2:k=0->∀n,n<(ay d r).cs k->-9223372036854775808<=tot+(SS (n+1) fun c=>(cz (ay d r) T k).getD c 0)/\tot+(SS (n+1) fun c=>(cz (ay d r) T k).getD c 0)<=9223372036854775807)
  (H:Zn) (hS:ZA d r lo s lvh I T tot H) (K:Zt->Zn->Prop)
  (hK:∀H',H'.A=H.A->nG r s I H H'->ZA d r lo s lvh I (tS (ay d r) T k) (gQ (ay d r) T k ((ay d r).cs k) tot) H'->K (.ret (.nf [])) H'):
  ae prog G0 116 [.O s 0 0,aa k] H K:=by
 obtain⟨D,hD⟩:∃D,D=ay d r:=⟨_,rfl⟩
 rw[<- hD]at hsz hcd hcd2 hcs2 hab hb1 hb2 hK;obtain⟨il,gl,hlv,glv,_,_⟩:=hS.Ap hk;have lso:=ag hS.top;have llv:=ag glv;have l0:=ag (hS.nk.nJ k hk);rw[<- hD]at l0;have l4:=ag (hS.nk.nH k 4 hk V V);simp only[dM,mo]at l0 l4;have hpk:=Ao (I:=I) hk;have hpn:=bf hpk;have hpl:=pW I r.length;have hki:(k:Int)<r.length:=V
 have hbe4:=hS.nk.len.be k hk;rw[<- hD]at hbe4;refine ae.sw (n:=92) (rs:=[]) func116 ?_;refine W.sq ?_;simp only[go_sem,lso,hlv,llv,hpk,hki];refine W.sq ?_;simp only[go_sem,l0,l4];refine W.en (fun E=>E 0=.O s 0 0 /\ E 1=aa k /\ E 4=.O (I k 0) 0 0 /\ E 17=aa (D.cs k) /\ E 18=aa 0) (by simp only[go_sem]) fun E ⟨e0,e1,e4,e17,e18⟩=>?_
 refine W.block ?_;refine W.aS 4951760157141521099596234784 (by rfl) (fun ρ Hx=>∃c:Nat,ρ 18=aa c/\c<=D.cs k/\Hx.A=H.A/\nG r s I H Hx/\ZA d r lo s lvh I (iH D T k c) (gQ D T k c tot) Hx) (fun ρ Hx=>D.cs k-(iv (ρ 18)).toNat) ?_ ?_
 ·simp only[go_sem,e18];refine⟨0,rfl,V,fun _ _ _=>rfl,?_⟩;have:gQ D T k 0 tot=tot:=by unfold gQ;split<;>simp[pF]
  rw[TA,this];exact hS
 rintro ρ Hx ⟨c,h18,hc,nx,hout,hSx⟩;refine W.en (fun E1=>E1 0=.O s 0 0 /\ E1 1=aa k /\ E1 4=.O (I k 0) 0 0 /\ E1 17=aa (D.cs k) /\ E1 18=aa c) (by simp only[go_sem,e0,e1,e4,e17,h18]) fun E1 ⟨f0,f1,f4,f17,f18⟩=>?_
 by_cases hb:(c:Int)<D.cs k;rotate_left
 ·refine W.vs ?_;simp only[go_sem,f17,f18,hb];have hcc:c=D.cs k:=V
  have hle:=hS.nk.len;rw[<- hD]at hle;rw[hcc,Ty hle hk]at hSx;exact aj.mk V (hK Hx nx hout hSx)
 refine W.sq ?_;simp only[go_sem,f17,f18,hb];refine W.sq ?_;simp only[go_sem];refine W.seq (W.block ?_);refine W.sq ?_;simp only[go_sem,f18]
  -- the greatest of the case's branches
 have lx0:=ag (hSx.nk.nJ k hk);rw[<- hD]at lx0;have g3:=hSx.nk.nH k 3 hk V V;have g4:=hSx.nk.nH k 4 hk V V;have lx3:=ag g3;have lx4:=ag g4;have hle:=hSx.nk.len;rw[<- hD]at hle;have hex:(iH D T k c).ex k=T.ex k:=by
  unfold iH;simp only;split
  ·rw[lJ V]
  ·rfl
 have hbe:(iH D T k c).be k=fD (cz D T k) (T.be k) c:=lI ..;simp only[dM,mo,hex,hbe]at lx0 lx3 lx4 g3;have hexl:=hle.ex k hk;rw[hex]at hexl;have hbr:(c+1)*D.cd k<=D.cs k*D.cd k:=Vv _ V;have hbr2:c*D.cd k+D.cd k=(c+1)*D.cd k:=by rw[VD,Xe]
 obtain⟨part,hpart⟩:∃p,p=jj (D.cd k) c (T.ex k):=⟨_,rfl⟩
 have hprl:part.length=D.cd k:=by rw[hpart];unfold jj;rw[Vd,VM];omega
 have hpr0:part≠[]:=fun h=>by rw[h]at hprl;simp at hprl;omega
 have hprg:∀j (h:j<part.length),(ints (T.ex k))[c*D.cd k+j]?=some (aa part[j]):=fun j hj=>by
  have h1:(jj (D.cd k) c (T.ex k))[j]?=some part[j]:=by rw[<- hpart];exact UV hj
  unfold jj at h1;rw[Vg (by rw[hprl]at hj;exact hj),We]at h1;rw[gX,h1];rfl
 have hmx:(cz D T k).getD c 0=iD part:=by rw[hpart];exact zY (V)
 have i3:=(hSx.nk.nq k 3 hk V).2;have ll3:(ints (T.ex k)).length=D.cs k*D.cd k:=by rw[bG];exact hexl
 have ll4:(ints (fD (cz D T k) (T.be k) c)).length=D.cs k:=by rw[bG,nE];exact hbe4
 have w1:=UU ((c:Int)*(D.cd k:Int)) (by rw[<- Wj];omega);have w2:=UU ((c:Int)+1) V;have w3:=UU (((c:Int)+1)*(D.cd k:Int)) (by rw[show (c:Int)+1=((c+1:Nat):Int) by omega,<- Wj];omega);have q1:(c:Int)*(D.cd k:Int)=((c*D.cd k:Nat):Int):=Zj
 have q2:((c:Int)+1)*(D.cd k:Int)=(((c+1)*D.cd k:Nat):Int):=Zj
 rw[q1]at w1;rw[q2]at w3;refine W.seq ?_;refine W.dr 24 [0,1,3,7,0,0,32,96,224,0,0,1024,3072,7168,15872,0,32768,0,131072,393216,917504,2064384,4194272,8388576] mixed ?_;simp only[go_sem,f4,lx0,q1,w1,w2,q2,w3,lx3,lx4,ll4,hb];have e1':setAt (ints (fD (cz D T k) (T.be k) c)) c [.lit (.int .i64 (iD part))]=ints (fD (cz D T k) (T.be k) (c+1)):=by
  rw[iQ (by rw[nE];omega)];show _=ints ((fD (cz D T k) (T.be k) c).set c ((cz D T k).getD c 0));rw[hmx]
 refine⟨V,V,aa (iD part),[I k 3],bF.mk (fun x hx=>by rw[List.mem_singleton.1 hx];exact i3) (fun H2 h2 _=>Tw (h2 _ Zj |>.trans g3) (by rw[hprl];omega) hpr0 V hprg),⟨rfl,rfl,by show c+1<=_;omega⟩,?_⟩;simp only[go_sem,e1'];obtain⟨H4,hH4⟩:∃H4,H4=Hx.upd (I k 4) (.J 0 3 (ints (fD (cz D T k) (T.be k) (c+1)))):=⟨_,rfl⟩
 rw[<- hH4];have hTm:ZA d r lo s lvh I (oL D T k c) (gQ D T k c tot) H4:=by
  rw[hH4];have hb4:dM (oL D T k c) k 4=.J 0 3 (ints (fD (cz D T k) (T.be k) (c+1))):=by show Zu.J 0 _ (ints (fC T.be k _ k))=_;rw[lI]
  rw[<- hb4];refine hSx.upd hk V V (fun k' j' h1 h2 h3 h4=>?_) ?_
  ·match j',h2,h3 with
   |1,_,_=>rfl
   |2,_,_=>rfl
   |3,_,_=>rfl
   |4,_,_ =>
    have:k'≠k:=fun e=>h4 ⟨e,rfl⟩;show Zu.J 0 _ (ints (fC T.be k _ k'))=Zu.J 0 _ (ints (fC T.be k _ k'));rw[lJ this,lJ this]
   |5,_,_=>rfl
  ·rw[<- hD];have:=hS.nk.len;rw[<- hD]at this;exact Tz this
 have n4:H4.A=H.A:=by rw[hH4,aP];exact nx
 have o4:nG r s I H H4:=fun i h1 h2=>by rw[hH4,ah,UW (h2 k 4 hk V)];exact hout i h1 h2
 clear hH4;have ls4:=ag hTm.top;have l04:=ag (hTm.nk.nJ k hk);rw[<- hD]at l04;have l44:=ag (hTm.nk.nH k 4 hk V V);have hbe':(oL D T k c).be k=fD (cz D T k) (T.be k) (c+1):=lI ..;simp only[dM,mo,hbe']at l04 l44;obtain⟨bc,hbc⟩:∃bc,bc=(cz D T k).getD c 0:=⟨_,rfl⟩
 have gbc:(ints (fD (cz D T k) (T.be k) (c+1)))[c]?=some (aa bc):=by
  have h1:=FR (a:=cz D T k) (l:=T.be k) (c+1) c V;rw[UX V]at h1;obtain⟨x,hx⟩:=aw (l:=fD (cz D T k) (T.be k) (c+1)) (i:=c) (by rw[nE];omega);rw[kJ hx]at h1;rw[gX,hx,hbc,<- h1];rfl
 have nbc:=bf gbc;have ll5:(ints (fD (cz D T k) (T.be k) (c+1))).length=D.cs k:=by rw[bG,nE];exact hbe4
 refine W.en (fun E2=>E2 0=.O s 0 0 /\ E2 1=aa k /\ E2 4=.O (I k 0) 0 0 /\ E2 5=aa c /\ E2 18=aa c) (by simp only[go_sem,f0,f1,f4,f18]) fun E2 ⟨m0,m1,m4,m5,m18⟩=>?_
 have wc:=UU ((c:Int)+1) V;by_cases hk0:0<k
 ·have hk0i:(0:Int)<k:=V
  refine W.sq ?_;simp only[go_sem,m1,hk0i];refine W.cond (t:=true) rfl ?_;have hk1:k-1<r.length:=V
  have hpk1:=Ao (I:=I) hk1;have l14:=ag (hTm.nk.nJ (k-1) hk1);rw[<- hD]at l14;have l1e:=ag (hTm.nk.nH (k-1) 3 hk1 V V);have l1a:=ag (hTm.nk.nH k 1 hk V V);have hexm:(oL D T k c).ex (k-1)=dP (T.ab k) (cz D T k) c (T.ex (k-1)):=by
   show (if 0<k then fC T.ex (k-1) _ else T.ex) (k-1)=_;rw[UX hk0,lI]
  have habm:(oL D T k c).ab k=T.ab k:=rfl;simp only[dM,mo,hexm,habm]at l14 l1e l1a;obtain⟨il4,gl4,hlv4,glv4,_,_⟩:=hTm.Ap hk;rw[hlv4]at ls4;have llv4:=ag glv4;have w5:=UU ((k:Int)-1) V;have ek:(k:Int)-1=((k-1:Nat):Int):=V
  rw[ek]at w5;have hk1i:((k-1:Nat):Int)<r.length:=V
  have hpn4:=bf hpk1;have habl:=hS.nk.len.ab k hk;rw[<- hD]at habl;obtain⟨av,hav⟩:=aw (l:=T.ab k) (i:=c) V;have hab1:=hab hk0 c V;rw[kJ hav]at hab1;obtain⟨aN,haN⟩:=U2 hab1.1;subst haN;have gav:(ints (T.ab k))[c]?=some (aa aN):=by rw[gX,hav];rfl
  have nav:=bf gav;have lla:(ints (T.ab k)).length=D.cs k:=by rw[bG];exact habl
  have hexl1:=hS.nk.len.ex (k-1) hk1;rw[<- hD]at hexl1;have aNl:aN<(dP (T.ab k) (cz D T k) c (T.ex (k-1))).length:=by rw[tG,hexl1];omega
  obtain⟨xv,hxv⟩:=aw aNl;have gxv:(ints (dP (T.ab k) (cz D T k) c (T.ex (k-1))))[aN]?=some (aa xv):=by rw[gX,hxv];rfl
  have nxv:=bf gxv;have llx:(ints (dP (T.ab k) (cz D T k) c (T.ex (k-1)))).length=D.cs (k-1)*D.cd (k-1):=by rw[bG,tG];exact hexl1
  have hb1':=hb1 hk0 c V;have etn:((T.ab k).getD c 0).toNat=aN:=by rw[kJ hav];omega
  rw[etn,kJ hxv,<- hbc]at hb1';have w6:=UU (xv+bc) V;have aNi:(aN:Int)<(D.cs (k-1)*D.cd (k-1):Nat):=V
  have e6:setAt (ints (dP (T.ab k) (cz D T k) c (T.ex (k-1)))) aN [.lit (.int .i64 (xv+bc))]=ints (dP (T.ab k) (cz D T k) (c+1) (T.ex (k-1))):=by
   rw[iQ aNl,wh,etn,kJ hxv,hbc]
  refine W.dr 27 [0,1,3,7,0,16,63,127,255,511,1023,0,2048,6144,14336,0,63488,129024,262143,524287,0,1048576,3145728,7340032,0,32505856,66060288] mixed ?_;simp only[go_sem,m0,m1,m4,m5,ls4,ek,w5,hk1i,llv4,hpk1,l14,l04,l44,l1a,l1e,gav,gxv,llx,gbc,hb,w6,aNi,e6];refine⟨V,?_⟩;refine W.vs ?_;simp only[go_sem,m18,wc];obtain⟨H5,hH5⟩:∃H5,H5=H4.upd (I (k-1) 3) (.J 0 3 (ints (dP (T.ab k) (cz D T k) (c+1) (T.ex (k-1))))):=⟨_,rfl⟩
  rw[<- hH5];have n5:H5.A=H.A:=by rw[hH5,aP];exact n4
  refine⟨V,⟨c+1,rfl,V,n5,fun i h1 h2=>by rw[hH5,ah,UW (h2 (k-1) 3 hk1 V)];exact o4 i h1 h2,?_⟩,by rw[h18];simp only[aa,bh];omega⟩;have et:gQ D T k (c+1) tot=gQ D T k c tot:=by unfold gQ;rw[UX hk0,UX hk0]
  have hb3:dM (iH D T k (c+1)) (k-1) 3=.J 0 3 (ints (dP (T.ab k) (cz D T k) (c+1) (T.ex (k-1)))):=by
   show Zu.J 0 _ (ints ((if 0<k then fC T.ex (k-1) _ else T.ex) (k-1)))=_;rw[UX hk0,lI]
  rw[et,hH5,<- hb3];refine hTm.upd hk1 V V (fun k' j' h1 h2 h3 h4=>?_) ?_
  ·match j',h2,h3 with
   |1,_,_=>rfl
   |2,_,_=>rfl
   |3,_,_ =>
    have:k'≠k-1:=fun e=>h4 ⟨e,rfl⟩;show Zu.J 0 _ (ints ((if 0<k then fC T.ex (k-1) _ else T.ex) k'))=Zu.J 0 _ (ints ((if 0<k then fC T.ex (k-1) _ else T.ex) k'));rw[UX hk0,UX hk0,lJ this,lJ this]
   |4,_,_=>rfl
   |5,_,_=>rfl
  ·rw[<- hD];have:=hS.nk.len;rw[<- hD]at this;exact At this
 ·have hk0i:¬(0:Int)<k:=V
  have hk00:k=0:=V
  refine W.sq ?_;simp only[go_sem,m1,hk0i];refine W.cond (t:=false) rfl ?_;have hb2':=hb2 hk00 c V;have etc:gQ D T k (c+1) tot=gQ D T k c tot+bc:=by
   unfold gQ;rw[UW hk0,UW hk0,ia,hbc];omega
  have hb3':gQ D T k (c+1) tot=tot+(SS (c+1) fun c=>(cz D T k).getD c 0):=by unfold gQ;rw[UW hk0]
  rw[<- hb3',etc]at hb2';have w6:=UU (gQ D T k c tot+bc) V;refine W.dr 11 [0,1,3,7,0,16,48,112,0,496,1008] mixed ?_;simp only[go_sem,m0,m4,m5,ls4,l04,l44,gbc,hb,w6];refine W.vs ?_;simp only[go_sem,m18,wc];obtain⟨H5,hH5⟩:∃H5,H5=H4.upd s (.J 0 184 [.lit (.int .i64 d.nl),.Q d.C.length (aH d.C),.lit (.int .u64 (d.X:Int)),.Q d.Y.length (bB d.Y),lvh,af (eh d),af (dN d),.lit (.int .i64 (gQ D T k c tot+bc))]):=⟨_,rfl⟩
  have hbl:H5.A=H.A:=by rw[hH5,aP];exact n4
  have hTT:oL D T k c=iH D T k (c+1):=by
   unfold oL iH;rw[UW hk0,UW hk0]
  have hS5:ZA d r lo s lvh I (iH D T k (c+1)) (gQ D T k (c+1) tot) H5:=by
   rw[hH5,<- hTT,etc];exact hTm.FH
  have hO5:nG r s I H H5:=fun i h1 h2=>by rw[hH5,ah,UW h1];exact o4 i h1 h2
  have key:H.A<=H5.A/\(∃c_1:Nat,Zo.lit (.int .i64 ((c:Int)+1))=Zo.lit (.int .i64 (c_1:Int))/\c_1<=D.cs k/\H5.A=H.A/\nG r s I H H5/\ZA d r lo s lvh I (iH D T k c_1) (gQ D T k c_1 tot) H5)/\D.cs k-((c:Int)+1).toNat<D.cs k-(iv (ρ 18)).toNat :=
   ⟨V,⟨c+1,rfl,V,hbl,hO5,hS5⟩,by rw[h18];simp only[aa,bh];omega⟩
  rw[hH5]at key;exact key
def F7 (hok:Zv d)(h6:d.C.length<=6){vals:List Int}(hf:cK (au d.C) vals):-18662400000000<=di d vals/\di d vals<=18662400000000:=by
 have hb:∀w∈iV d vals,0<=w/\w<=60:=fun w hw=>by
  obtain⟨v,hv,rfl⟩:=Vb.1 hw;exact F3 hok hf (U9.1 hv)
 have h1:=pB (b:=60) V hb;have h2:=Eh (iV d vals).length (by rw[wU];omega);have h3:0<=cL d vals/\cL d vals<=46656000000:=⟨h1.1,X4 h1.2 h2⟩
 have h4:=Ay hok.Y.2 hok.Y.1 vals;unfold di;generalize cL d vals=w at *
 generalize cX d.C d.Y vals=u at *
 constructor
 ·have h1:w*(-400)<=w*u:=VE h4.1 h3.1;omega
 ·have h1:w*u<=w*400:=VE h4.2 h3.1;omega
def Ug (d:Zq):List Zo:=[.lit (.int .i64 d.nl),.Q d.C.length (aH d.C),.lit (.int .u64 (d.X:Int)),.Q d.Y.length (bB d.Y),.lit (.slice none 0 0),af (eh d),af (dN d),.lit (.int .i64 0)]
structure ExH (d:Zq)(p:List (List Int))(v0 db eb pb rb sb so:Nat)(rv:Zo)(H:Zn):Prop where
 hd:H.get db=some (lG d)
 he:H.get eb=some (.J 0 3 [.lit (.int .i64 v0)])
 hp:H.get pb=some (.J 0 74 [aZ p])
 hr:H.get rb=some (.J 0 74 [rv])
 hs:H.get sb=some (.J 0 134 [.O so 0 0])
 hso:H.get so=some (.J 0 184 (Ug d))
def ExH.ng {p:List (List Int)}{v0 db eb pb rb sb so:Nat}{rv:Zo}{H':Zn}(h:ExH d p v0 db eb pb rb sb so rv H)(hk:∀id,id=db\/id=eb\/id=pb\/id=rb\/id=sb\/id=so->H'.get id=H.get id):ExH d p v0 db eb pb rb sb so rv H' :=
 ⟨(hk _ Zj).trans h.hd,(hk _ Zj).trans h.he,(hk _ Zj).trans h.hp,(hk _ Zj).trans h.hr,(hk _ Zj).trans h.hs,(hk _ Zj).trans h.hso⟩
def wV (hok:Zv d){v:Nat}{x:Zp}(hx:d.C[v]?=some x):(cr d.C x:Int)=aB (aT d.C x)/\bV x.F d.C.length/\iG x.F d.C.length/\eW (aT d.C x):=by
 have hxp:bV x.F d.C.length:=by
  have:=(hok.nC.node _ (an (jF (c:=fun _ _=>0) hx))).2;rw[(iN ..).2,ig]at this;exact this
 have ps:=oJ hok.n.n1.2 hxp hok.n.L;exact⟨by have:=ps.prod;unfold cr;omega,hxp,fun q hq=>by have:=hxp.2 q hq;omega,ps⟩
def fk (w a k:Nat):Nat:=if k<a then w+1 else w
def jG (D:Zx)(be ch:Nat->List Int)(w a b c:Nat):Zz:=⟨fun k=>dn D k (fk w a k),fun k=>ef D k (fk w b k),fun k=>bE D k (fk w c k),be,ch⟩
def iT (D:Zx)(be ch:Nat->List Int)(w:Nat):Zz:=⟨fun k=>dn D k w,fun k=>ef D k w,fun k=>bE D k w,be,ch⟩
def tT (h:k<a):fk w a k=w+1:=UX h
def wL (h:a<=k):fk w a k=w:=UW (V)
def wM (h:k≠a):fk w (a+1) k=fk w a k:=by unfold fk;split<;>split<;>omega
def wN (n:Nat)(T T':Zz):Prop:=∀k j,k<n->dM T k j=dM T' k j
def ZA.same {lo s:Nat}{T':Zz}(h:ZA d r lo s lvh I T tot H)(ht:wN r.length T T')(hl:T'.Len (ay d r) r.length):ZA d r lo s lvh I T' tot H :=
 ⟨h.top,h.nI,h.lv,h.sep,h.nK,⟨h.nk.inj,h.nk.nq,h.nk.nJ,fun k j h1 h2 h3=>by rw[<- ht k j h1];exact h.nk.nH k j h1 h2 h3,hl⟩⟩
def wO (hb:∀k,k<n->(be k).length=D.cs k)(hc:∀k,k<n->(ch k).length=D.cs k)(w a b c:Nat):(jG D be ch w a b c).Len D n :=
 ⟨fun k _=>rD D k _,fun k _=>pQ D k _,fun k _=>mj D k _,hb,hc⟩
def FT (hb:∀k,k<n->(be k).length=D.cs k)(hc:∀k,k<n->(ch k).length=D.cs k)(w:Nat):(iT D be ch w).Len D n :=
 ⟨fun k _=>rD D k _,fun k _=>pQ D k _,fun k _=>mj D k _,hb,hc⟩
def TN (w n:Nat):wN n (jG D be ch w n n n) (iT D be ch (w+1)):=fun k j hk=>by
 have e:fk w n k=w+1:=tT hk;unfold dM jG iT;simp only[e]
def eZ (d:Zq)(r:List Nat)(w:Nat):Int:=if r.length=0 then SS w (ay d r).nu else 0
def TO (hok:Zv d)(hr:ZB d r)(hrl:r.length<=64){lo s:Nat}(hw:w<cI d.C)
  (hsz:∀k,k<r.length->(ay d r).cs k*(ay d r).cd k<2 ^ 40) (hcs:∀k,k<r.length->(ay d r).cs k<2 ^ 40)
  (hbd:∀(k b:Nat),k+1=r.length->∀n,n<=cI d.C->-4000000000000000000<=(bE (ay d r) k n).getD b 0/\(bE (ay d r) k n).getD b 0<=4000000000000000000) (hbt:∀n,n<=cI d.C->-4000000000000000000<=SS n (ay d r).nu/\SS n (ay d r).nu<=4000000000000000000)
  (hbg:-4000000000000000000<=di d (wv d w)/\di d (wv d w)<=4000000000000000000)
  (N:Nat) (H:Zn) (hS:ZA d r lo s lvh I (iT (ay d r) be ch w) (eZ d r w) H) (hN:N<H.A) (hNs:N≠s/\∀k j,k<r.length->j<6->N≠I k j) (hNg:H.get N=some (.J 0 3 (ints (wv d w)))) (n:Nat) (hn:n=d.C.length)
  (K:Zt->Zn->Prop) (hK:∀H',H'.A=H.A->nG r s I H H'->ZA d r lo s lvh I (iT (ay d r) be ch (w+1)) (eZ d r (w+1)) H'->K (.ret (.nf [])) H'):
  ae prog G0 114 [.O s 0 0,aa w,.U N 0 0 n 1] H K:=by
 subst hn;obtain⟨D,hD⟩:∃D,D=ay d r:=⟨_,rfl⟩
 obtain⟨vals,hvals⟩:∃vals,vals=wv d w:=⟨_,rfl⟩
 rw[<- hvals]at hNg hbg;have hfit:cK (au d.C) vals:=by rw[hvals];exact iC hok w
 have hvl:vals.length=d.C.length:=by rw[hfit.1,eO]
 have n8:=hok.n.n1.2;have hDo:=wg hok hr.mem;rw[<- hD]at hsz hcs hbd hbt hS hK hDo;have hlb:=hS.nk.len.be;have hlc:=hS.nk.len.ch;rw[<- hD]at hlb hlc;have hpl:=pW I r.length;have lso:=ag hS.top;have hll:iI H lvh=some (aa r.length):=by
  rcases hS.lv with ⟨h1,h2⟩|⟨id,g,_,_,h1,h2⟩
  ·have:r.length=0:=(by rw[<- hpl,h2];rfl);rw[h1,this];rfl
  ·rw[h1];unfold iI;simp[ag h2,hpl,aa]
 refine ae.sw (n:=120) (rs:=[]) func114 ?_;refine W.sq ?_;simp only[go_sem];refine W.sq ?_;simp only[go_sem,lso,hll];refine W.en (fun E=>E 0=.O s 0 0 /\ E 1=aa w /\ E 2=.U N 0 0 d.C.length 1 /\ E 6=aa 0 /\ E 13=lvh /\ E 14=aa r.length /\ E 15=aa 0) (by simp only[go_sem]) fun E ⟨e0,e1,e2,e6,e13,e14,e15⟩=>?_
 refine W.aS 1267650600228229401496703173568 (by rfl) (fun ρ Hx=>∃k:Nat,ρ 15=aa k/\k<=r.length/\ρ 6=aa (jD D k w)/\Hx.A=H.A/\nG r s I H Hx/\ZA d r lo s lvh I (jG D be ch w k k k) (eZ d r w) Hx) (fun ρ Hx=>r.length-(iv (ρ 15)).toNat) ?_ ?_
 ·simp only[go_sem,e15,e6];exact⟨0,rfl,V,rfl,fun _ _ _=>rfl,hS⟩
 rintro ρ Hx ⟨k,h15,hk,h6,nx,hout,hSx⟩;refine W.en (fun E1=>E1 0=.O s 0 0 /\ E1 1=aa w /\ E1 2=.U N 0 0 d.C.length 1 /\ E1 6=aa (jD D k w) /\ E1 13=lvh /\ E1 14=aa r.length /\ E1 15=aa k) (by simp only[go_sem,e0,e1,e2,h6,e13,e14,h15]) fun E1 ⟨f0,f1,f2,f6,f13,f14,f15⟩=>?_
 by_cases hb:(k:Int)<r.length;rotate_left
 ·refine W.vs ?_;simp only[go_sem,f14,f15,hb];have hkr:k=r.length:=V
  rw[hkr]at hSx;have hS2:ZA d r lo s lvh I (iT D be ch (w+1)) (eZ d r w) Hx:=hSx.same (TN w r.length) (by rw[<- hD];exact FT hlb hlc _);have ls2:=ag hS2.top;have hll2:iI Hx lvh=some (aa r.length):=by
   rcases hS2.lv with ⟨h1,h2⟩|⟨id,g,_,_,h1,h2⟩
   ·have:r.length=0:=(by rw[<- hpl,h2];rfl);rw[h1,this];rfl
   ·rw[h1];unfold iI;simp[ag h2,hpl,aa]
  have ggl:(dN d)[w]?=some (di d (wv d w)):=Ax hw;have gg:(ints (dN d))[w]?=some (aa (di d (wv d w))):=by rw[gX,ggl];rfl
  have ggn:=bf gg;have ggi:(w:Int)<(dN d).length:=by have:=aO ggl;omega
  by_cases hr0:(r.length:Int)=0
  ·have hr00:r.length=0:=V;refine W.sq ?_;simp only[go_sem,f0,ls2,hll2,hr0];refine W.cond (t:=true) rfl ?_;have et:eZ d r (w+1)=eZ d r w+di d (wv d w):=by
    unfold eZ;rw[UX hr00,UX hr00,ia];rfl
   have hbt':=hbt (w+1) V;have et2:eZ d r (w+1)=SS (w+1) D.nu:=(by unfold eZ;rw[UX hr00,hD]);rw[<- et2,et]at hbt';have w6:=UU (eZ d r w+di d (wv d w)) V;refine W.dr 11 [0,1,3,7,0,16,48,112,0,496,1008] mixed ?_;simp only[go_sem,f0,f1,ls2,gg,ggn,ggi,w6];refine aj.mk (by rw[aP];omega) (hK _ (by rw[aP];exact nx) (fun i h1 h2=>by rw[ah,UW h1];exact hout i h1 h2) ?_);rw[et];exact hS2.FH
  ·have hr00:¬r.length=0:=V;refine W.sq ?_;simp only[go_sem,f0,ls2,hll2,hr0];refine W.cond (t:=false) rfl ?_;have et:eZ d r (w+1)=eZ d r w:=(by unfold eZ;rw[UW hr00,UW hr00]);refine W.vs ?_;simp only[go_sem];refine aj.mk V (hK Hx nx hout ?_);rw[et];exact hS2
 have hk2:k<r.length:=V
 refine W.sq ?_;simp only[go_sem,f14,f15,hb];refine W.sq ?_;simp only[go_sem];refine W.seq (W.block ?_);obtain⟨il,gl,hlv,glv,_,_⟩:=hSx.Ap hk2;have llv:=ag glv;have hpk:=Ao (I:=I) hk2;have hpn:=bf hpk;refine W.sq ?_;simp only[go_sem,f13,f15,hlv,llv,hpk,hb];obtain⟨v,hv⟩:=aw hk2;have hvd:r.getD k 0=v:=gf hv;have hm:=hr.mem v (an hv);obtain⟨x,hx⟩:=aw (bM.1 hm).1;obtain⟨hrn,hxp,hin,ps⟩:=wV hok hx;obtain⟨r1,r2⟩:=lk hok hx hfit;have hxc:=hok.n.L x (an hx);obtain⟨e1',e2'⟩:=iO hx V;have ecs:D.cs k=cr d.C x:=by rw[hD];show dB d (r.getD k 0)=_;rw[hvd];exact e1'
 have ecd:(D.cd k:Int)=x.L:=by rw[hD];show (eF d (r.getD k 0):Int)=_;rw[hvd];exact e2'
 obtain⟨c,hc⟩:∃c,c=D.nw k w:=⟨_,rfl⟩
 have hcr:c=cO d.C v vals:=by rw[hc,hD,hvals];show cO d.C (r.getD k 0) (wv d w)=_;rw[hvd]
 obtain⟨y,hy⟩:∃y,y=D.nG k w:=⟨_,rfl⟩
 have hcl:c<D.cs k:=by rw[hc];exact hDo.nw k w (by rw[hD];exact hk2) (by rw[hD];exact hw)
 have hyl:y<D.cd k:=by rw[hy];exact hDo.nG k w (by rw[hD];exact hk2) (by rw[hD];exact hw)
 obtain⟨yv,hyv⟩:=aw (l:=vals) (i:=v) (by rw[hvl];exact(bM.1 hm).1);have hyf:=hfit.2 v _ yv (cS hx) hyv;have hyy:yv=(y:Int):=by
  have:y=(vals.getD v 0).toNat:=by rw[hy,hD,hvals];show ((wv d w).getD (r.getD k 0) 0).toNat=_;rw[hvd]
  rw[kJ hyv]at this;omega
 have hgN:Hx.get N=some (.J 0 3 (ints vals)):=(hout N hNs.1 hNs.2).trans hNg;have hpc:bF prog G0 (.Z 147 [] []) [.Q d.C.length (aH d.C),.lit (.int .i64 v),.U N 0 0 d.C.length 1] Hx (.lit (.int .i64 (c:Int))) [N]:=by
  have:=Ft d.C v x vals hx hin ps hfit Hx N d.C.length V hgN hvl.symm;rw[hcr,r1];exact this
 have lx:=ag hSx.top;have l0:=ag (hSx.nk.nJ k hk2);rw[<- hD]at l0;simp only[mo,hvd]at l0;refine W.seq ?_;refine W.dr 10 [0,1,3,7,15,0,32,96,224,0] mixed ?_;simp only[go_sem,f0,f2,lx,l0];refine ao.mono (hpc.2 Hx (fun _ _=>rfl) Zm) fun rr H3 hrr=>?_;obtain⟨rfl,rfl⟩:=hrr;refine⟨trivial,?_⟩;simp only[go_sem]
  -- ny
 have hle1:=(rD D k w)
 have gab:=hSx.nk.nH k 1 hk2 V V;have lab:=ag gab;have tab1:(jG D be ch w k k k).ab k=dn D k w:=by show dn D k (fk w k k)=_;rw[wL Zm]
 simp only[dM,tab1]at lab;have lla:(ints (dn D k w)).length=D.cs k:=by rw[bG];exact hle1
 have hci:(c:Int)<D.cs k:=V
 have e1s:setAt (ints (dn D k w)) c [.lit (.int .i64 (jD D k w:Nat))]=ints (dn D k (w+1)):=by
  rw[iQ V];show _=ints ((dn D k w).set (D.nw k w) (jD D k w));rw[hc]
 refine W.en (fun E2=>E2 0=.O s 0 0 /\ E2 1=aa w /\ E2 2=.U N 0 0 d.C.length 1 /\ E2 6=aa (jD D k w) /\ E2 7=aa k /\ E2 8=.O (I k 0) 0 0 /\ E2 9=aa c /\ E2 15=aa k) (by simp only[go_sem,f0,f1,f2,f6,f15]) fun E2 ⟨m0,m1,m2,m6,m7,m8,m9,m15⟩=>?_
 refine W.sq ?_;simp only[go_sem,m8,m9,m6,l0,lab,lla,hci,e1s];refine⟨V,?_⟩;obtain⟨H4,hH4⟩:∃H4,H4=H3.upd (I k 1) (.J 0 3 (ints (dn D k (w+1)))):=⟨_,rfl⟩
 rw[<- hH4];have hS4:ZA d r lo s lvh I (jG D be ch w (k+1) k k) (eZ d r w) H4:=by
  have hb:dM (jG D be ch w (k+1) k k) k 1=.J 0 3 (ints (dn D k (w+1))):=by show Zu.J 0 _ (ints (dn D k (fk w (k+1) k)))=_;rw[tT (VY k)]
  rw[hH4,<- hb];refine hSx.upd hk2 V V (fun k' j' h1 h2 h3 h4=>?_) (by rw[<- hD];exact wO hlb hlc _ _ _ _)
  match j',h2,h3 with
  |1,_,_ =>
   show Zu.J 0 _ (ints (dn D k' (fk w (k+1) k')))=Zu.J 0 _ (ints (dn D k' (fk w k k')));rw[wM fun e=>h4 ⟨e,rfl⟩]
  |2,_,_=>rfl
  |3,_,_=>rfl
  |4,_,_=>rfl
  |5,_,_=>rfl
 have n4:H4.A=H.A:=by rw[hH4,aP];exact nx
 have o4:nG r s I H H4:=fun i h1 h2=>by rw[hH4,ah,UW (h2 k 1 hk2 V)];exact hout i h1 h2
 clear hH4 lab lx l0
  -- occurs
 have lx:=ag hS4.top;have l0:=ag (hS4.nk.nJ k hk2);rw[<- hD]at l0;have loc:=ag (hS4.nk.nH k 2 hk2 V V);have toc:(jG D be ch w (k+1) k k).oc k=ef D k w:=by show ef D k (fk w k k)=_;rw[wL Zm]
 simp only[mo,hvd]at l0;simp only[dM,toc]at loc;have llo:(gi (ef D k w)).length=D.cs k:=by rw[FG];exact pQ D k w
 obtain⟨o,ho⟩:=aw (l:=ef D k w) (i:=c) (by rw[pQ];omega);have go:(gi (ef D k w))[c]?=some (.lit (.bool o)):=by rw[Th,ho];rfl
 have gon:=bf go;have gwl:(eh d)[w]?=some (cL d (wv d w)):=by unfold eh;rw[List.getElem?_map,Vz hw];rfl
 have gw:(ints (eh d))[w]?=some (aa (cL d (wv d w))):=by rw[gX,gwl];rfl
 have gwn:=bf gw;have gwi:(w:Int)<(eh d).length:=by have:=aO gwl;omega
 have hwt:D.wt w=cL d (wv d w):=by rw[hD];rfl
 have eos:∀b:Bool,b=(o ||decide (0<cL d (wv d w)))->setAt (gi (ef D k w)) c [.lit (.bool b)]=gi (ef D k (w+1)):=fun b hb2=>by
  rw[Ti (by rw[pQ];omega)];show _=gi ((ef D k w).set (D.nw k w) ((ef D k w).getD (D.nw k w) false ||decide (0<D.wt w)));rw[<- hc,kJ ho,hwt,hb2]
 obtain⟨H5,hH5⟩:∃H5,H5=H4.upd (I k 2) (.J 0 4 (gi (ef D k (w+1)))):=⟨_,rfl⟩
 refine W.sS (fun s'=>s'.H=H5/\s'.ρ 0=.O s 0 0/\s'.ρ 1=aa w/\s'.ρ 2=.U N 0 0 d.C.length 1/\s'.ρ 7=aa k/\s'.ρ 8=.O (I k 0) 0 0/\s'.ρ 9=aa c/\s'.ρ 15=aa k) ?_ ?_
 ·refine W.dr 22 [0,1,3,7,0,0,32,96,224,0,992,2016,4064,8160,16352,32736,65504,8160,262112,524256,1048544,2097120] mixed ?_;cases o with
  |true =>
   have eos':=eos true Zj;simp only[go_sem,m0,m1,m2,m7,m8,m9,m15,l0,loc,llo,go,hci,eos'];exact⟨V,hH5.symm⟩
  |false =>
   by_cases hp:0<cL d (wv d w)
   ·have eos':=eos true (by simp[hp]);simp only[go_sem,m0,m1,m2,m7,m8,m9,m15,lx,l0,loc,llo,go,hci,gw,gwn,gwi,hp,eos'];exact⟨V,hH5.symm⟩
   ·have eos':=eos false (by simp[hp]);simp only[go_sem,m0,m1,m2,m7,m8,m9,m15,lx,l0,loc,llo,go,hci,gw,gwn,gwi,hp,eos'];exact⟨V,hH5.symm⟩
 rintro⟨ρ6,Hq⟩ ⟨hq,p0,p1,p2,p7,p8,p9,p15⟩;simp only at hq p0 p1 p2 p7 p8 p9 p15;subst hq;have hS5:ZA d r lo s lvh I (jG D be ch w (k+1) (k+1) k) (eZ d r w) Hq:=by
  have hb:dM (jG D be ch w (k+1) (k+1) k) k 2=.J 0 4 (gi (ef D k (w+1))):=by show Zu.J 0 _ (gi (ef D k (fk w (k+1) k)))=_;rw[tT (VY k)]
  rw[hH5,<- hb];refine hS4.upd hk2 V V (fun k' j' h1 h2 h3 h4=>?_) (by rw[<- hD];exact wO hlb hlc _ _ _ _)
  match j',h2,h3 with
  |1,_,_=>rfl
  |2,_,_ =>
   show Zu.J 0 _ (gi (ef D k' (fk w (k+1) k')))=Zu.J 0 _ (gi (ef D k' (fk w k k')));rw[wM fun e=>h4 ⟨e,rfl⟩]
  |3,_,_=>rfl
  |4,_,_=>rfl
  |5,_,_=>rfl
 have n5:Hq.A=H.A:=by rw[hH5,aP];exact n4
 have o5:nG r s I H Hq:=fun i h1 h2=>by rw[hH5,ah,UW (h2 k 2 hk2 V)];exact o4 i h1 h2
 clear hH5 loc lx l0;have lx:=ag hS5.top;have l0:=ag (hS5.nk.nJ k hk2);rw[<- hD]at l0;simp only[mo,hvd]at l0;have lN:=ag ((o5 N hNs.1 hNs.2).trans hNg);have gy:(ints vals)[v]?=some (aa y):=by rw[gX,hyv,hyy];rfl
 have gyn:=bf gy;have lln:(ints vals).length=d.C.length:=by rw[bG];exact hvl
 have hvi:(v:Int)<d.C.length:=by have:=(bM.1 hm).1;omega
 have hbr:c*D.cd k+y<D.cs k*D.cd k:=by
  have h3:(c+1)*D.cd k<=D.cs k*D.cd k:=Vv _ hcl;rw[VD,Xe]at h3;omega
 have hsz':=hsz k hk2;obtain⟨b,hbe⟩:∃b:Nat,b=c*D.cd k+y:=⟨_,rfl⟩
 have hbD:D.br k w=b:=by rw[hbe,hc,hy];rfl
 have eb1:(c:Int)*(D.cd k:Int)=((c*D.cd k:Nat):Int):=Zj
 have eb2:((c*D.cd k:Nat):Int)+(y:Int)=(b:Int):=by rw[hbe];omega
 rw[<- hbe]at hbr;have w1:=UU ((c*D.cd k:Nat):Int) V;have w2:=UU (b:Int) V;refine W.seq ?_;refine W.dr 13 [0,0,2,6,14,31,0,0,128,384,896,1984,4032] mixed ?_;simp only[go_sem,p2,p8,p9,l0,lN,gy,hvi,eb1,w1,eb2,w2];refine W.en (fun E3=>E3 0=.O s 0 0 /\ E3 1=aa w /\ E3 6=aa b /\ E3 7=aa k /\ E3 8=.O (I k 0) 0 0 /\ E3 15=aa k) (by simp only[go_sem,p0,p1,p7,p8,p15]) fun E3 ⟨s0,s1,s6,s7,s8,s15⟩=>?_
 have hll5:iI Hq lvh=some (aa r.length):=by
  rcases hS5.lv with ⟨h1,h2⟩|⟨id,g,_,_,h1,h2⟩
  ·have:r.length=0:=(by rw[<- hpl,h2];rfl);rw[h1,this];rfl
  ·rw[h1];unfold iI;simp[ag h2,hpl,aa]
 have wl:=UU ((r.length:Int)-1) V;have wk:=UU ((k:Int)+1) V;have hbrI:jD D (k+1) w=b:=by unfold jD;rw[UW V,Ws];exact hbD
 by_cases hlast:(k:Int)=(r.length:Int)-1
 ·have hKl:k+1=D.K:=by rw[hD];show k+1=r.length;omega
  have hdec:(decide ((k:Int)=(r.length:Int)-1))=true:=Vl hlast;refine W.sq ?_;simp only[go_sem,s0,s7,lx,hll5,wl,hdec];refine W.cond (t:=true) rfl ?_;have lex:=ag (hS5.nk.nH k 3 hk2 V V);have tex:(jG D be ch w (k+1) (k+1) k).ex k=bE D k w:=by show bE D k (fk w k k)=_;rw[wL Zm]
  simp only[dM,tex]at lex;have lle:(ints (bE D k w)).length=D.cs k*D.cd k:=by rw[bG];exact mj D k w
  obtain⟨ev,hev⟩:=aw (l:=bE D k w) (i:=b) (by rw[mj];exact hbr);have gev:(ints (bE D k w))[b]?=some (aa ev):=by rw[gX,hev];rfl
  have gevn:=bf gev;have ggl:(dN d)[w]?=some (di d vals):=by rw[hvals];exact Ax hw
  have gg:(ints (dN d))[w]?=some (aa (di d vals)):=by rw[gX,ggl];rfl
  have ggn:=bf gg;have ggi:(w:Int)<(dN d).length:=by have:=aO ggl;omega
  have hbi:(b:Int)<(D.cs k*D.cd k:Nat):=V
  have hgw:D.nu w=di d vals:=by rw[hD,hvals];rfl
  have hKr:k+1=r.length:=by rw[hD]at hKl;exact hKl
  have esucc:bE D k (w+1)=(bE D k w).set b (ev+di d vals):=by
   show (if k+1=D.K then (bE D k w).set (D.br k w) ((bE D k w).getD (D.br k w) 0+D.nu w) else bE D k w)=_;rw[UX hKl,hbD,kJ hev,hgw]
  have hbd':=hbd k b hKr w V;rw[kJ hev]at hbd';have w6:=UU (ev+di d vals) V;have ees:setAt (ints (bE D k w)) b [.lit (.int .i64 (ev+di d vals))]=ints (bE D k (w+1)):=by rw[iQ (by rw[mj];exact hbr),esucc]
  refine W.dr 14 [0,1,3,7,0,31,63,0,128,384,896,0,3968,8064] mixed ?_;simp only[go_sem,s0,s1,s6,s8,lx,l0,lex,lle,gev,gg,ggn,ggi,hbi,w6,ees];refine⟨V,?_⟩;refine W.vs ?_;simp only[go_sem,s15,s6,wk];rw[<- hlv];obtain⟨H6,hH6⟩:∃H6,H6=Hq.upd (I k 3) (.J 0 3 (ints (bE D k (w+1)))):=⟨_,rfl⟩
  rw[<- hH6];have n6:H6.A=H.A:=by rw[hH6,aP];exact n5
  refine⟨V,⟨k+1,rfl,V,by rw[hbrI],n6,fun i h1 h2=>by rw[hH6,ah,UW (h2 k 3 hk2 V)];exact o5 i h1 h2,?_⟩,by rw[h15];simp only[aa,bh];omega⟩;have hb:dM (jG D be ch w (k+1) (k+1) (k+1)) k 3=.J 0 3 (ints (bE D k (w+1))):=by show Zu.J 0 _ (ints (bE D k (fk w (k+1) k)))=_;rw[tT (VY k)]
  rw[hH6,<- hb];refine hS5.upd hk2 V V (fun k' j' h1 h2 h3 h4=>?_) (by rw[<- hD];exact wO hlb hlc _ _ _ _)
  match j',h2,h3 with
  |1,_,_=>rfl
  |2,_,_=>rfl
  |3,_,_ =>
   show Zu.J 0 _ (ints (bE D k' (fk w (k+1) k')))=Zu.J 0 _ (ints (bE D k' (fk w k k')));rw[wM fun e=>h4 ⟨e,rfl⟩]
  |4,_,_=>rfl
  |5,_,_=>rfl
 ·have hKl:k+1≠D.K:=by rw[hD];show k+1≠r.length;omega
  refine W.sq ?_;simp only[go_sem,s0,s7,lx,hll5,wl,hlast];refine W.cond (t:=false) rfl ?_;refine W.vs ?_;simp only[go_sem];refine W.vs ?_;simp only[go_sem,s15,s6,wk];rw[<- hlv];refine⟨V,⟨k+1,rfl,V,by rw[hbrI],n5,o5,hS5.same (fun k' j' h1=>?_) (by rw[<- hD];exact wO hlb hlc _ _ _ _)⟩,by rw[h15];simp only[aa,bh];omega⟩;by_cases e:k'=k
  ·subst e;have e0:bE D k' (fk w k' k')=bE D k' (fk w (k'+1) k'):=by
    rw[wL Zm,tT (VY k')];show _=(if k'+1=D.K then _ else bE D k' w)
    rw[UW hKl]
   unfold dM jG;simp only[e0]
  ·unfold dM jG;simp only[wM e]
end Go.Proofs
namespace Go.Hx
variable {P:Program}
end Go.Hx
namespace Go.Proofs
open Go.Hx Tryz
variable {tot:Int}{r:List Nat}{i lo n:Nat}{I:Nat->Nat->Nat}{H:Zn}{lvh:Zo}{d:Zq}{T:Zz}
def FU (r:List Nat)(s:Nat)(lvh:Zo)(I:Nat->Nat->Nat)(n0:Nat):Prop:=s<n0/\(∀k j,k<r.length->j<6->I k j<n0)/\∀id g n,lvh=.U id g 0 n 1->id<n0
def ZA.bnd {s:Nat}(h:ZA d r lo s lvh I T tot H):FU r s lvh I H.A :=
 ⟨h.nI.2,fun k j h1 h2=>(h.nk.nq k j h1 h2).2,fun id g n hv=>by
  rcases h.lv with ⟨h1,_⟩|⟨id',g',_,h2,h3,_⟩
  ·rw[h1]at hv;cases hv
  ·rw[h3]at hv;rw[<- (Zo.U.inj hv).1];exact h2⟩
def ZA.oM {s n0:Nat}{H':Zn}(h:ZA d r lo s lvh I T tot H)(hb:FU r s lvh I n0)(hn:H.A<=H'.A)(hk:∀i,i<n0->H'.get i=H.get i):ZA d r lo s lvh I T tot H' :=
 ⟨by rw[hk s hb.1];exact h.top,by have:=h.nI;omega,h.lv.ng Zm hn fun i g _ _ _ hv=>hk i (hb.2.2 _ _ _ hv),h.sep,h.nK,h.nk.ng hn fun k j h1 h2=>hk _ (hb.2.1 k j h1 h2)⟩
def ZA.len {s:Nat}(h:ZA d r lo s lvh I T tot H):iI H lvh=some (aa r.length):=by
 have hpl:=pW I r.length;rcases h.lv with ⟨h1,h2⟩|⟨id,g,_,_,h1,h2⟩
 ·have:r.length=0:=by rw[<- hpl,h2];rfl
  rw[h1,this];rfl
 ·rw[h1];unfold iI;simp[ag h2,hpl,aa]
def oN (n:Nat):List (List Zo):=(List.range n).map fun (i:Nat)=>[aa ((n:Int)-1-(i:Int))]
def Au (n:Nat):(oN n).length=n:=by simp[oN]
def FV (h:i<n):(oN n)[i]?=some [aa ((n:Int)-1-i)]:=by unfold oN;rw[List.getElem?_map,Vz h];rfl
def TP {y:List Zo}(h:(oN n)[i]?=some y):i<n/\y=[aa ((n:Int)-1-i)]:=by
 have hl:=aO h;rw[Au]at hl;rw[FV hl]at h;exact⟨hl,(Option.some.inj h).symm⟩
def TQ :∀x∈oN n,x.length=1:=fun x hx=>by
 unfold oN at hx;obtain⟨i,_,rfl⟩:=Vb.1 hx;rfl
def TS (d:Zq)(s bx n:Nat)(H:Zn):Prop:=H.get bx=some (.J 0 134 [.O s 0 0])/\∃lvh tot,H.get s=some (.J 0 184 [.lit (.int .i64 d.nl),.Q d.C.length (aH d.C),.lit (.int .u64 (d.X:Int)),.Q d.Y.length (bB d.Y),lvh,af (eh d),af (dN d),.lit (.int .i64 tot)])/\iI H lvh=some (aa n)
def TT (d:Zq)(s bx n:Nat)(hn:n<=64):tV prog G0 149 [] [.O bx 0 0] (oN n) (TS d s bx n):=by
 intro idy J Stop H K hS hJ0 hY hK hSt;obtain⟨h1,lvh,tot,h2,h3⟩:=hS 0 H hJ0;have l1:=ag h1;have l2:=ag h2;have w0:=UU ((n:Int)-1) V;show ae _ _ _ ([.np idy]++[.O bx 0 0]) _ _;refine ae.st (n:=18) (rs:=[]) func149 ?_;simp only[go_sem,l1,l2,h3,w0];refine W.aS 261128 (by rfl) (fun ρ H'=>∃i:Nat,ρ 3=aa ((n:Int)-1-i)/\i<=n/\J i H'/\H.A<=H'.A) (fun ρ H=>(iv (ρ 3)+1).toNat) ?_ ?_
 ·simp only[go_sem];exact⟨0,Zj,V,hJ0⟩
 rintro ρ H' ⟨i,h3,hi,hj,hnx⟩;refine W.vs ?_;by_cases hb:(0:Int)<=(n:Int)-1-i
 ·have hin:i<n:=V
  have w1:=UU ((n:Int)-1-i-1) V;simp only[go_sem,h3,hb];refine hY _ _ H' _ (FV hin) hj hnx (fun H2 hj2 hn2=>⟨trivial,?_⟩) (fun H2 hs2 hn2=>⟨trivial,?_⟩)
  ·simp only[go_sem,h3,w1];exact⟨V,⟨i+1,by congr 2;omega,V,hj2,V⟩,V⟩
  ·simp only[go_sem];exact aj.mk V (hSt H2 hs2 V)
 ·simp only[go_sem,h3,hb];have ei:i=n:=V
  exact aj.mk V (hK H' (by rw[Au,<- ei];exact hj) hnx)
def TU (s:Nat)(H:Zn)(K:Zt->Zn->Prop)(hK:K (.ret (.Z 149 [] [.O H.A 0 0])) (ext H [.J 0 134 [.O s 0 0]])):
  ae prog G0 115 [.O s 0 0] H K:=by
 refine ae.st (n:=4) (rs:=[.tmp 2]) func115 ?_;simp only[go_sem];exact aj.mk (by simp[aV]) hK
def TV (hok:Zv d)(hr:ZB d r)(hrl:r.length<=64){s:Nat}{be ch:Nat->List Int}
  (hsz:∀k,k<r.length->(ay d r).cs k*(ay d r).cd k<2 ^ 40) (hcs:∀k,k<r.length->(ay d r).cs k<2 ^ 40)
  (hbd:∀(k b:Nat),k+1=r.length->∀n,n<=cI d.C->-4000000000000000000<=(bE (ay d r) k n).getD b 0/\(bE (ay d r) k n).getD b 0<=4000000000000000000) (hbt:∀n,n<=cI d.C->-4000000000000000000<=SS n (ay d r).nu/\SS n (ay d r).nu<=4000000000000000000)
  (hbg:∀w,w<cI d.C->-4000000000000000000<=di d (wv d w)/\di d (wv d w)<=4000000000000000000)
  (H:Zn) (hS:ZA d r lo s lvh I (iT (ay d r) be ch 0) (eZ d r 0) H)
  (K:Zt->Zn->Prop) (hK:∀H',H.A<=H'.A->(∀i,i<H.A->i≠s->(∀k j,k<r.length->j<6->i≠I k j)->H'.get i=H.get i)->ZA d r lo s lvh I (iT (ay d r) be ch (cI d.C)) (eZ d r (cI d.C)) H'->K (.ret (.nf [])) H'):
  ae prog G0 113 [.O s 0 0,.Z 114 [.O s 0 0] []] H K:=by
 have n8:=hok.n.n1;have hcards:∀c∈au d.C,1<=c/\c<=4:=fun c hc=>by
  obtain⟨x,hx,rfl⟩:=Vb.1 hc;exact hok.n.L x hx
 have sm:eW (au d.C):=rL (by rw[eO];omega) hcards;have hB0:=hS.bnd;have hsol:=hS.nI.2;have lso:=ag hS.top;have lsoe:∀L,(ext H L).na s 0=_:=fun L=>(eo hsol).trans lso;refine ae.st (n:=19) (rs:=[]) func113 ?_;simp only[go_sem,lsoe];refine ao.Z (Fv d.C V _ _ ⟨trivial,?_⟩);simp only[go_sem];refine ao.Z (Fq (au d.C) _ _ ⟨trivial,?_⟩);simp only[go_sem];obtain⟨H2,hH2⟩:∃H2,H2=ext (ext H [.J 0 193 (Zo.Z 114 [.O s 0 0] []).cells]) [.J 0 72 [af (au d.C)]]:=⟨_,rfl⟩
 have n2:H2.A=H.A+2:=by rw[hH2];rfl
 have o2:Zs H H2:=by rw[hH2];exact(Zs.ext _ _).trans (.ext _ _)
 have g0:H2.get H.A=some (.J 0 193 [.Z 114 [.O s 0 0] []]):=by rw[hH2,dY];exact bO H _ 0 (Zj)
 have g1:H2.get (H.A+1)=some (.J 0 72 [af (au d.C)]):=by rw[hH2,dY];exact bO H _ 1 (Zj)
 refine W.env fun E hE'=>?_;have e3:E 3=.O H.A 0 0:=by rw[hE'];simp only[go_sem]
 have e12:E 12=.Z 176 [] [.O (H.A+1) 0 0]:=by rw[hE'];rfl
 clear hE';show W _ _ _ _ _ _ ⟨E,ext (ext H [.J 0 193 (Zo.Z 114 [.O s 0 0] []).cells]) [.J 0 72 [af (au d.C)]]⟩;rw[<- hH2];have hit:=Fp (au d.C) (fun c hc=>(hcards c hc).1) sm (H.A+1) (H2.A+1) V;have hsn:∀i,H.A<=i->i≠s/\∀k j,k<r.length->j<6->i≠I k j:=fun i hi=>⟨by have:=hB0.1;omega,fun k j h1 h2=>by have:=hB0.2.1 k j h1 h2;omega⟩
 refine W.Gd (f:=176) (first:=[]) (cap:=[.O (H.A+1) 0 0]) (by show E 12=_;exact e12) hit
  (fun k Hx=>H2.A<Hx.A/\(∀id,id<H2.A->id≠s->(∀k j,k<r.length->j<6->id≠I k j)->Hx.get id=H2.get id)/\ZA d r lo s lvh I (iT (ay d r) be ch k) (eZ d r k) Hx)
  (fun _ _=>False)
  (fun k Hx h=>(h.2.1 _ V (hsn _ V).1 (hsn _ V).2).trans g1)
  (fun k H1 H3 h hw=>⟨by have:=hw.1;omega,fun id h1 h2 h3=>(hw.2 _ V (by have:=h.1;omega)).trans (h.2.1 id h1 h2 h3),h.2.2.oM hB0 hw.1 fun id hi=>hw.2 id V (by have:=h.1;omega)⟩)
  (fun k Hx h=>h.1)
  (fun k H1 b h=>⟨h.1,fun id h1 h2 h3=>by rw[ah,UW V];exact h.2.1 id h1 h2 h3,h.2.2.oM hB0 (by rw[aP];exact Nat.le_refl _) fun id hi=>by rw[ah,UW V]⟩)
  (fun _ _ _ h=>h) (fun k H1 b h=>by unfold rK at h ⊢;rw[ah,UW V];exact h)
  (fun b=>⟨by rw[aV];simp,fun id h1 h2 h3=>dz h1,hS.oM hB0 (by rw[aV];omega) fun id hi=>by rw[dz V,o2.nc _ hi]⟩) (Zk)
  (fun x hx=>by
   obtain⟨k,hk⟩:=U1.1 hx;obtain⟨_,rfl⟩:=wD hk;rfl) (fun _ _ _=>trivial) (fun _ _ _=>trivial) (fun k y Hx B Bb hy hj hcs' hn hB hBb=>?_) (fun Hx hj hn=>?_) (fun _ hs _=>hs.elim) (fun _ _ hs _=>hs.elim)
 ·obtain⟨hk,rfl⟩:=wD hy;refine W.vs ?_;simp only[go_sem,jK,dq,mw,V1,Xj,WA,WJ,hB];obtain⟨H3,hH3⟩:∃H3,H3=Hx.upd H2.A Bb:=⟨_,rfl⟩
  rw[<- hH3];obtain⟨st,pd,n',en,ps',as',bo,hBe⟩:=hBb;have n3:H3.A=Hx.A:=by rw[hH3];rfl
  have o3:∀id,id≠H2.A->H3.get id=Hx.get id:=fun id h=>by rw[hH3,ah,UW h]
  have jB:H3.get H2.A=some Bb:=by rw[hH3,ah,UX rfl]
  have k0:=ag ((o3 _ V).trans ((hj.2.1 H.A V (hsn _ V).1 (hsn _ V).2).trans g0));have kN:H3.get (H2.A+1)=some (.J 0 3 (ints (bW (au d.C) k))):=(o3 _ V).trans hcs';have hS3:ZA d r lo s lvh I (iT (ay d r) be ch k) (eZ d r k) H3:=hj.2.2.oM hB0 V fun id hi=>o3 id V;refine W.en (fun E1=>E1 3=.O H.A 0 0 /\ E1 4=aa k /\ E1 5=.U (H2.A+1) 0 0 d.C.length 1) (by simp only[go_sem,dq,e3,eO]) fun E1 ⟨m3,m4,m5⟩=>?_
  refine W.vs ?_;simp only[go_sem,m3,m4,m5,k0];refine ao.Z (TO hok hr hrl hk hsz hcs hbd hbt (hbg k hk) (H2.A+1) H3 hS3 V (hsn _ V) kN d.C.length rfl _ fun H4 h4n h4o h4S=>⟨⟨_,_,_,_,_,_,_,by rw[h4o _ (hsn _ V).1 (hsn _ V).2,jB,hBe]⟩,?_⟩);simp only[go_sem,ij];refine⟨by rw[h4o _ (hsn _ V).1 (hsn _ V).2];exact jB,V,⟨V,fun id h1 h2 h3=>by rw[h4o _ h2 h3,o3 _ V];exact hj.2.1 id h1 h2 h3,h4S⟩,?_⟩;unfold rK;rw[h4o _ (hsn _ V).1 (hsn _ V).2];exact kN
 ·simp only[go_sem];have hl:(nD (au d.C) (H2.A+1)).length=cI d.C:=Ah ..;rw[hl]at hj;exact aj.mk V (hK Hx V (fun id h1 h2 h3=>(hj.2.1 id V h2 h3).trans (o2.nc _ h1)) hj.2.2)
end Go.Proofs
namespace Go.Hx
variable {P:Program} {t:TypeId} {x y:Operand} {k':IntKind} {a:Int}
def Av (h:0<=a/\a<4294967296):aU P .and t x y (.lit (.int .u64 a)) (.lit (.int .u64 4294967295))=some (.lit (.int .u64 a)):=by
 obtain⟨n,rfl⟩:=U2 h.1;rw[pZ];have e1:(BitVec.ofInt 64 (n:Int)).toNat=n:=by rw[BitVec.ofInt_natCast,BitVec.toNat_ofNat,Xg V]
 have e:(BitVec.ofInt (IntKind.bits .u64) (n:Int) &&& BitVec.ofInt (IntKind.bits .u64) 4294967295).toNat=n:=by
  show (BitVec.ofInt 64 (n:Int) &&& BitVec.ofInt 64 ((4294967295:Nat):Int)).toNat=n;rw[BitVec.toNat_and,e1,show (BitVec.ofInt 64 ((4294967295:Nat):Int)).toNat=2 ^ 32-1 by rfl,YB];omega
 rw[e,Vt _ V]
def tU (h:0<=a/\a<4294967296):aU P .shr t x y (.lit (.int .u64 a)) (.lit (.int k' 32))=some (.lit (.int .u64 0)):=by
 rw[rS Zk];have e:a.fdiv (2 ^ (min (32:Int).toNat (IntKind.bits .u64)))=a / 4294967296:=XZ a Zk;rw[e,Xm h.1 h.2]
end Go.Hx
namespace Go.Proofs
open Go.Hx Tryz
variable {a:Int}{m n:Nat}
def TW (y:Nat)(hy:y<4294967296)(H:Zn)(K:Zt->Zn->Prop)(hK:K (.ret (.nf [.lit (.int .u64 0),.lit (.int .u64 y)])) H):ae prog G0 141 [.lit (.int .u64 1),.lit (.int .u64 y)] H K:=by
 have ky:(0:Int)<=(y:Int)/\(y:Int)<4294967296:=V
 have k1:(0:Int)<=(1:Int)/\(1:Int)<4294967296:=V
 have k0:(0:Int)<=(0:Int)/\(0:Int)<4294967296:=V
 have v:=Vt (y:Int) V;have z1:IntKind.u64.wrap 0=0:=rfl;refine ae.sw (n:=51) (rs:=[.tmp 4,.tmp 5]) func141 ?_;refine W.sq ?_;simp only[go_sem];refine W.env fun E0 hE0=>?_;have a0_0:E0 0=.lit (.int .u64 1):=by rw[hE0];rfl
 have a0_1:E0 1=.lit (.int .u64 y):=by rw[hE0];rfl
 clear hE0;refine W.sq ?_;simp only[go_sem,a0_0,Av,k1];refine W.env fun E1 hE1=>?_;have a1_0:E1 0=.lit (.int .u64 1):=by rw[hE1];exact a0_0
 have a1_1:E1 1=.lit (.int .u64 y):=by rw[hE1];exact a0_1
 have a1_6:E1 6=.lit (.int .u64 1):=by rw[hE1];rfl
 clear hE1;refine W.sq ?_;simp only[go_sem,a1_0,tU,k1];refine W.env fun E2 hE2=>?_;have a2_0:E2 0=.lit (.int .u64 1):=by rw[hE2];exact a1_0
 have a2_1:E2 1=.lit (.int .u64 y):=by rw[hE2];exact a1_1
 have a2_6:E2 6=.lit (.int .u64 1):=by rw[hE2];exact a1_6
 have a2_7:E2 7=.lit (.int .u64 0):=by rw[hE2];rfl
 clear hE2;refine W.sq ?_;simp only[go_sem,a2_1,Av,ky];refine W.env fun E3 hE3=>?_;have a3_0:E3 0=.lit (.int .u64 1):=by rw[hE3];exact a2_0
 have a3_1:E3 1=.lit (.int .u64 y):=by rw[hE3];exact a2_1
 have a3_6:E3 6=.lit (.int .u64 1):=by rw[hE3];exact a2_6
 have a3_7:E3 7=.lit (.int .u64 0):=by rw[hE3];exact a2_7
 have a3_8:E3 8=.lit (.int .u64 y):=by rw[hE3];rfl
 clear hE3;refine W.sq ?_;simp only[go_sem,a3_1,tU,ky];refine W.env fun E4 hE4=>?_;have a4_0:E4 0=.lit (.int .u64 1):=by rw[hE4];exact a3_0
 have a4_1:E4 1=.lit (.int .u64 y):=by rw[hE4];exact a3_1
 have a4_6:E4 6=.lit (.int .u64 1):=by rw[hE4];exact a3_6
 have a4_7:E4 7=.lit (.int .u64 0):=by rw[hE4];exact a3_7
 have a4_8:E4 8=.lit (.int .u64 y):=by rw[hE4];exact a3_8
 have a4_9:E4 9=.lit (.int .u64 0):=by rw[hE4];rfl
 clear hE4;refine W.sq ?_;simp only[go_sem,a4_6,a4_8,v,XX];refine W.env fun E5 hE5=>?_;have a5_0:E5 0=.lit (.int .u64 1):=by rw[hE5];exact a4_0
 have a5_1:E5 1=.lit (.int .u64 y):=by rw[hE5];exact a4_1
 have a5_6:E5 6=.lit (.int .u64 1):=by rw[hE5];exact a4_6
 have a5_7:E5 7=.lit (.int .u64 0):=by rw[hE5];exact a4_7
 have a5_8:E5 8=.lit (.int .u64 y):=by rw[hE5];exact a4_8
 have a5_9:E5 9=.lit (.int .u64 0):=by rw[hE5];exact a4_9
 have a5_10:E5 10=.lit (.int .u64 y):=by rw[hE5];rfl
 clear hE5;refine W.sq ?_;simp only[go_sem,a5_7,a5_8,a5_10,tU,ky,z1,Yn,Xt];refine W.env fun E6 hE6=>?_;have a6_0:E6 0=.lit (.int .u64 1):=by rw[hE6];exact a5_0
 have a6_1:E6 1=.lit (.int .u64 y):=by rw[hE6];exact a5_1
 have a6_6:E6 6=.lit (.int .u64 1):=by rw[hE6];exact a5_6
 have a6_7:E6 7=.lit (.int .u64 0):=by rw[hE6];exact a5_7
 have a6_8:E6 8=.lit (.int .u64 y):=by rw[hE6];exact a5_8
 have a6_9:E6 9=.lit (.int .u64 0):=by rw[hE6];exact a5_9
 have a6_10:E6 10=.lit (.int .u64 y):=by rw[hE6];exact a5_10
 have a6_11:E6 11=.lit (.int .u64 0):=by rw[hE6];rfl
 clear hE6;refine W.sq ?_;simp only[go_sem,a6_11,Av,k0];refine W.env fun E7 hE7=>?_;have a7_0:E7 0=.lit (.int .u64 1):=by rw[hE7];exact a6_0
 have a7_1:E7 1=.lit (.int .u64 y):=by rw[hE7];exact a6_1
 have a7_6:E7 6=.lit (.int .u64 1):=by rw[hE7];exact a6_6
 have a7_7:E7 7=.lit (.int .u64 0):=by rw[hE7];exact a6_7
 have a7_8:E7 8=.lit (.int .u64 y):=by rw[hE7];exact a6_8
 have a7_9:E7 9=.lit (.int .u64 0):=by rw[hE7];exact a6_9
 have a7_10:E7 10=.lit (.int .u64 y):=by rw[hE7];exact a6_10
 have a7_11:E7 11=.lit (.int .u64 0):=by rw[hE7];exact a6_11
 have a7_12:E7 12=.lit (.int .u64 0):=by rw[hE7];rfl
 clear hE7;refine W.sq ?_;simp only[go_sem,a7_11,tU,k0];refine W.env fun E8 hE8=>?_;have a8_0:E8 0=.lit (.int .u64 1):=by rw[hE8];exact a7_0
 have a8_1:E8 1=.lit (.int .u64 y):=by rw[hE8];exact a7_1
 have a8_6:E8 6=.lit (.int .u64 1):=by rw[hE8];exact a7_6
 have a8_7:E8 7=.lit (.int .u64 0):=by rw[hE8];exact a7_7
 have a8_8:E8 8=.lit (.int .u64 y):=by rw[hE8];exact a7_8
 have a8_9:E8 9=.lit (.int .u64 0):=by rw[hE8];exact a7_9
 have a8_10:E8 10=.lit (.int .u64 y):=by rw[hE8];exact a7_10
 have a8_11:E8 11=.lit (.int .u64 0):=by rw[hE8];exact a7_11
 have a8_12:E8 12=.lit (.int .u64 0):=by rw[hE8];exact a7_12
 have a8_13:E8 13=.lit (.int .u64 0):=by rw[hE8];rfl
 clear hE8;refine W.sq ?_;simp only[go_sem,a8_6,a8_9,a8_12,z1,YD,Xt];refine W.env fun E9 hE9=>?_;have a9_0:E9 0=.lit (.int .u64 1):=by rw[hE9];exact a8_0
 have a9_1:E9 1=.lit (.int .u64 y):=by rw[hE9];exact a8_1
 have a9_6:E9 6=.lit (.int .u64 1):=by rw[hE9];exact a8_6
 have a9_7:E9 7=.lit (.int .u64 0):=by rw[hE9];exact a8_7
 have a9_8:E9 8=.lit (.int .u64 y):=by rw[hE9];exact a8_8
 have a9_9:E9 9=.lit (.int .u64 0):=by rw[hE9];exact a8_9
 have a9_10:E9 10=.lit (.int .u64 y):=by rw[hE9];exact a8_10
 have a9_11:E9 11=.lit (.int .u64 0):=by rw[hE9];exact a8_11
 have a9_12:E9 12=.lit (.int .u64 0):=by rw[hE9];rfl
 have a9_13:E9 13=.lit (.int .u64 0):=by rw[hE9];exact a8_13
 clear hE9;refine W.sq ?_;simp only[go_sem,a9_7,a9_9,a9_12,a9_13,tU,k0,z1,YD,Xt];refine W.env fun E10 hE10=>?_;have a10_0:E10 0=.lit (.int .u64 1):=by rw[hE10];exact a9_0
 have a10_1:E10 1=.lit (.int .u64 y):=by rw[hE10];exact a9_1
 have a10_6:E10 6=.lit (.int .u64 1):=by rw[hE10];exact a9_6
 have a10_7:E10 7=.lit (.int .u64 0):=by rw[hE10];exact a9_7
 have a10_8:E10 8=.lit (.int .u64 y):=by rw[hE10];exact a9_8
 have a10_9:E10 9=.lit (.int .u64 0):=by rw[hE10];exact a9_9
 have a10_10:E10 10=.lit (.int .u64 y):=by rw[hE10];exact a9_10
 have a10_11:E10 11=.lit (.int .u64 0):=by rw[hE10];exact a9_11
 have a10_12:E10 12=.lit (.int .u64 0):=by rw[hE10];exact a9_12
 have a10_13:E10 13=.lit (.int .u64 0):=by rw[hE10];exact a9_13
 have a10_4:E10 4=.lit (.int .u64 0):=by rw[hE10];rfl
 clear hE10;refine W.vs ?_;simp only[go_sem,a10_0,a10_1,a10_4,v,XX];exact aj.mk Zm hK
def TX (y:Nat)(hy:y<4294967296)(H:Zn)(K:Zt->Zn->Prop)(hK:K (.ret (.nf [.lit (.int .u64 0),.lit (.int .u64 y)])) H):ae prog G0 148 [.lit (.int .u64 1),.lit (.int .u64 y)] H K:=by
 have v:=Vt (y:Int) V;have z1:IntKind.u64.wrap 0=0:=rfl;have z2:IntKind.u64.wrap 1=1:=rfl;refine ae.st (n:=30) (rs:=[.tmp 4,.tmp 5]) func148 ?_;simp only[go_sem];refine ao.Z (TW y hy _ _ ⟨trivial,?_⟩);simp only[go_sem];exact aj.mk Zm hK
def iU (a:Int)(m n:Nat):List Int:=List.replicate n a++List.replicate (m-n) 0
def FW (h:n<=m):(iU a m n).length=m:=by unfold iU;simp;omega
def TY (h:n<=m):setAt (ints (iU a m n)) n (((ints (iU a m n)).take n).take (min n (m-n)))=ints (iU a m (n+min n (m-n))):=by
 unfold iU ints setAt;simp only[VQ,X3,List.length_append,Wi,Vd];apply List.ext_getElem
 ·simp;omega
 ·intro i h1 h2;simp[List.getElem_append,Xu];split
  ·rfl
  ·rw[UW V]
def TZ (a:Int)(m:Nat)(hm:1<=m/\m<2 ^ 30)(H:Zn)(K:Zt->Zn->Prop)(hK:K (.ret (.U H.A 0 0 m 1)) (ext H [.J 0 3 (ints (List.replicate m a))])):
  ae prog G0 112 [af [a],aa m] H K:=by
 have v:=Vt (m:Int) V;have z2:IntKind.u64.wrap 1=1:=rfl;have v2:=UU (m:Int) V;have h0:¬(m:Int)<0:=V
 have h9:¬(9223372036854775807:Int)<(m:Int):=V
 refine ae.sw (n:=48) (rs:=[.tmp 4]) func112 ?_;refine W.sq ?_;simp only[go_sem];refine W.sq ?_;simp only[go_sem,h0];refine W.sq ?_;simp only[go_sem,v,z2];refine ao.Z (TX m V _ _ ⟨trivial,?_⟩);simp only[go_sem];refine W.sq ?_;simp only[go_sem,h9];have hm0:(0:Int)<=m:=V
 refine W.sq ?_;simp only[go_sem,v2,hm0];refine⟨V,?_⟩;obtain⟨H1,hH1⟩:∃H1,H1=ext H [.J 0 3 (List.replicate m (.lit (.int .i64 0)))]:=⟨_,rfl⟩
 have e0:List.replicate m (Zo.lit (.int .i64 0))=ints (iU a m 0):=by simp[iU,ints,aa]
 have g1:H1.get H.A=some (.J 0 3 (ints (iU a m 0))):=by rw[hH1,<- e0];exact dZ
 have n1:H1.A=H.A+1:=hH1▸rfl
 have ex1:∀(b:Zu) (i:Nat),i≠H.A->(ext H [b]).get i=H.get i:=fun b i h=>by
  unfold ext;simp only[VX];rw[UW V]
 have o1:∀i,i≠H.A->H1.get i=H.get i:=fun i h=>by rw[hH1];exact ex1 _ i h
 rw[<- hH1];clear hH1;have l1:=ag g1;have ll1:(ints (iU a m 0)).length=m:=by rw[bG,FW V]
 have ec:List.take 1 (ints [a])++List.drop (List.take 1 (ints [a])).length (ints (iU a m 0))=ints (iU a m 1):=by
  obtain⟨q,hq⟩:∃q,m=q+1:=⟨m-1,V⟩
  rw[hq];simp[iU,ints,WD]
 have em:min 1 m=1:=Xq hm.1;refine W.sq ?_;simp only[go_sem,l1,ll1,em];refine⟨rfl,?_⟩;refine W.en (fun E=>E 7=.U H.A 0 0 m 1 /\ E 8=aa 1) (by simp only[go_sem]) fun E ⟨e7,e8⟩=>?_
 refine W.seq (W.block ?_);refine W.aS 140720308486400 (by rfl) (fun ρ Hx=>∃n:Nat,ρ 8=aa n/\1<=n/\n<=m/\Hx.A=H.A+1/\(∀i,i≠H.A->Hx.get i=H.get i)/\Hx.get H.A=some (.J 0 3 (ints (iU a m n)))) (fun ρ Hx=>m-(iv (ρ 8)).toNat) ?_ ?_
 ·simp only[go_sem,e8,ec];exact⟨1,rfl,Zm,hm.1,by rw[aP];exact n1,fun i h=>by rw[ah,UW h];exact o1 i h,by rw[ah,UX rfl]⟩
 rintro ρ Hx ⟨n,h8,hn1,hn,nx,xo,xg⟩;refine W.en (fun E1=>E1 7=.U H.A 0 0 m 1 /\ E1 8=aa n) (by simp only[go_sem,e7,h8]) fun E1 ⟨f7,f8⟩=>?_
 have lx:=ag xg;have llx:(ints (iU a m n)).length=m:=by rw[bG,FW hn]
 by_cases hb:(n:Int)<m;rotate_left
 ·refine W.vs ?_;simp only[go_sem,f7,f8,lx,hb];have hnm:n=m:=V
  refine W.vs ?_;simp only[go_sem,f7];have hx:Hx=ext H [.J 0 3 (ints (List.replicate m a))]:=by
   have hg:∀i,Hx.get i=(ext H [.J 0 3 (ints (List.replicate m a))]).get i:=fun i=>by
    by_cases h:i=H.A
    ·rw[h,xg,hnm,dZ];simp[iU]
    ·rw[xo i h,ex1 _ i h]
   cases Hx;simp only at nx hg;unfold ext;congr 1
   ·funext i
    exact hg i
  rw[hx];exact aj.mk (by rw[aV];exact Nat.le_add_right ..) hK
 have em2:n+min n (m-n)<=m:=V
 have w1:=UU ((n:Int)+(min n (m-n):Nat)) V;have ecp:=TY (a:=a) hn;refine W.sq ?_;simp only[go_sem,f7,f8,lx,hb];refine W.block ?_;refine W.dr 8 [0,0,0,6,0,0,48,126] mixed ?_;simp only[go_sem,f7,f8,lx,llx,w1,ecp];refine⟨V,V,⟨V,by rw[Vo];intro x hx;exact Vo.1 (kW _) x (Vk hx)⟩,by rw[aP,aP];omega,⟨n+min n (m-n),Zj,V,em2,by rw[aP];exact nx,fun i h=>by rw[ah,UW h];exact xo i h,by rw[ah,UX rfl]⟩,by rw[h8];simp only[aa,bh];omega⟩
end Go.Proofs
namespace Go.Hx
variable {P:Program} {G:Nat->Option (List Zo)} {all:Array Oper} {tail:St->Prop} {b i:Nat} {bs:List Nat} {acc:List (Nat × FP)} {K:FP->St->Prop} {s:St} {d:Option Tmp} {ty:TypeId} {pos:String} {aft:Array Edge} {g:Option (Nat × Bool)}
variable {H:Zn}
def Cb (bs:List Nat):Ev.dR P G all tail bs i acc [] s=tail s:=by cases bs<;>rfl
def Cc (op:Op)(rest:List Oper):Ev.dR P G all tail (b :: bs) i acc (⟨d,op,ty,pos,aft,none⟩ :: rest) s =
  Ev.bI P G ⟨d,op,ty,pos,aft,none⟩ (fun f s'=>jt b f acc/\Ev.dR P G all tail bs (i+1) (fI i f acc) rest s') s:=by
 simp[Ev.dR,gS,bq]
def Cd (fv:Operand)(args:Array Operand)(ats:Array TypeId):Ev.bI P G ⟨d,.call ⟨.value fv,args,ats⟩,ty,pos,aft,g⟩ K s =
  ∃v e k f,Ev.nP P G (ar G s.ρ fv) (args.toList.map (ar G s.ρ)) s.H v e k f/\K f ⟨aI s.ρ d v,⟨Ev.cV e s.H.get,s.H.A+k⟩⟩:=rfl
def MD (x:Operand):Ev.bI P G ⟨d,.move x,ty,pos,aft,g⟩ K s=bI P G ⟨d,.move x,ty,pos,aft,g⟩ K s:=rfl
def Ce (t:TypeId)(x:Operand):Ev.bI P G ⟨d,.load t x,ty,pos,aft,g⟩ K s=bI P G ⟨d,.load t x,ty,pos,aft,g⟩ K s:=rfl
def ME (x:Operand):Ev.bI P G ⟨d,.nilCheck x,ty,pos,aft,g⟩ K s=bI P G ⟨d,.nilCheck x,ty,pos,aft,g⟩ K s:=rfl
def Cf (t:TypeId)(x:Operand)(f:Nat):Ev.bI P G ⟨d,.fieldAddr t x f,ty,pos,aft,g⟩ K s=bI P G ⟨d,.fieldAddr t x f,ty,pos,aft,g⟩ K s:=rfl
def MF (t:TypeId)(x y:Operand):Ev.bI P G ⟨d,.makeSlice t x y,ty,pos,aft,g⟩ K s=bI P G ⟨d,.makeSlice t x y,ty,pos,aft,g⟩ K s:=rfl
def MG (t:TypeId)(l:Nat)(p:Array (Nat × Operand)):Ev.bI P G ⟨d,.buildSlice t l p,ty,pos,aft,g⟩ K s=bI P G ⟨d,.buildSlice t l p,ty,pos,aft,g⟩ K s:=rfl
def Cg (t:TypeId)(p:Array (Nat × Operand)):Ev.bI P G ⟨d,.build t p,ty,pos,aft,g⟩ K s=bI P G ⟨d,.build t p,ty,pos,aft,g⟩ K s:=rfl
def MH (t:TypeId)(x:Operand):Ev.bI P G ⟨d,.box t x,ty,pos,aft,g⟩ K s=bI P G ⟨d,.box t x,ty,pos,aft,g⟩ K s:=rfl
def MI (op:BinOp)(t:TypeId)(x y:Operand)(u:TypeId):Ev.bI P G ⟨d,.binOp op t x y u,ty,pos,aft,g⟩ K s=bI P G ⟨d,.binOp op t x y u,ty,pos,aft,g⟩ K s:=rfl
def Ci (f:Builtin)(args:Array Operand)(ats:Array TypeId):Ev.bI P G ⟨d,.call ⟨.builtin f,args,ats⟩,ty,pos,aft,g⟩ K s=bI P G ⟨d,.call ⟨.builtin f,args,ats⟩,ty,pos,aft,g⟩ K s:=rfl
def Cj (a:Nat):Ev.nU a (a+1)=[a]:=by
 unfold Ev.nU;rw[XE];simp[VH]
def Ck {bk:Zu}:(⟨Ev.cV (Ev.fR H.A (H.A+1) (fun _=>true) (ext ⟨fun _=>none,H.A⟩ [bk]).get) H.get,H.A+1⟩:Zn)=ext H [bk]:=by
 unfold ext;simp only[VX];congr 1
 funext j
 unfold Ev.cV Ev.fR;by_cases h:H.A<=j/\j<H.A+1
 ·have:j=H.A:=V
  subst this;simp
 ·simp[h]
def aJ.MJ {lo k g':Nat}{e e':TypeId}{v:Zo}{cs c:List Zo}(h:aJ lo H e v cs)(hk:H.get k=some (.J g' e' c))(hne:e'≠e):∀g n,v≠.U k g 0 n 1:=fun g n hv=>by
 rcases h with ⟨h1,_⟩|⟨i,g2,_,_,h3,h4⟩
 ·rw[h1]at hv;cases hv
 ·rw[h3]at hv;obtain rfl:=(Zo.U.inj hv).1;rw[h4]at hk;cases hk;exact hne rfl
def MK (t:TypeId):Ev.bI P G ⟨d,.alloc t,ty,pos,aft,g⟩ K s=bI P G ⟨d,.alloc t,ty,pos,aft,g⟩ K s:=rfl
end Go.Hx
namespace Go.Proofs
open Go.Hx Tryz
variable {a tot:Int}{c g k m:Nat}{ch:Nat->List Int}{d:Zq}{D:Zx}
def T0 {H:Zn}{ib:Nat}(hm:1<=m/\m<2 ^ 30)(hi:ib<H.A)(hg:H.get ib=some (.J 0 3 [aa a])):
  Ev.nP prog G0 (.Z 112 [] []) [.U ib 0 0 1 1,aa m] H (.U H.A 0 0 m 1) (Ev.fR H.A (H.A+1) (fun _=>true) (ext ⟨fun _=>none,H.A⟩ [.J 0 3 (ints (List.replicate m a))]).get) 1 ⟨Ev.nU H.A (H.A+1),[ib]⟩:=by
 have e:H.A+1-H.A=1:=V
 have hnx:(ext (⟨fun _=>none,H.A⟩:Zn) [.J 0 3 (ints (List.replicate m a))]).A=H.A+1:=rfl;have:=Ev.nP.mk (P:=prog) (G:=G0) (H:=H) (f:=112) (first:=[]) (cap:=[]) (args:=[.U ib 0 0 1 1,aa m]) (args':=[af [a],aa m]) (v:=.U H.A 0 0 m 1) ⟨fun _=>none,H.A⟩ (ext ⟨fun _=>none,H.A⟩ [.J 0 3 (ints (List.replicate m a))]) (fun _=>False) (fun _=>true) [ib] aF
  (fun r hr=>by rw[List.mem_singleton.1 hr];exact hi) rfl (by rw[hnx];exact Xf _) (fun _ h=>h.elim) (fun _ _=>rfl) rfl
  (fun H2 hag i h h'=>match i,h with
   |0,_=>Fz.ints (fun h=>h) ((hag ib Zj).trans hg) rfl (fun j hj=>by
     have:j=0:=(by simp at hj;omega);subst this;rfl)
   |1,_=>.lit _)
  (TZ a m hm ⟨fun _=>none,H.A⟩ _ ⟨rfl,rfl⟩) ?_ ?_
 ·rw[hnx,e]at this;exact this
 ·exact .U (.inr ⟨Zm,by rw[hnx];exact VY _,rfl⟩)
 ·intro id h1 h2 _;have:id=H.A:=by rw[hnx]at h2;omega
  subst this;exact⟨0,_,_,dZ (H:=⟨fun _=>none,H.A⟩),fun i hi=>by simp only[ints,Ve];exact .lit _⟩
def cw (l:List Int):Nat:=(l.map Int.natAbs).sum
def tH (a b:List Int):cw (a++b)=cw a+cw b:=by simp[cw]
def pR (x:Int)(l:List Int):cw (x :: l)=x.natAbs+cw l:=by simp[cw]
def Ab (n:Nat):cw (List.replicate n 0)=0:=by simp[cw]
def Ff (l:List Int)(i:Nat)(a:Int):cw (l.set i a)<=cw l+(a-l.getD i 0).natAbs:=by
 induction l generalizing i with
 |nil=>simp[cw]
 |cons x l ih =>
  cases i with
  |zero=>simp only[List.set_cons_zero,pR,Ze];omega
  |succ i =>
   have:=ih i;simp only[List.set_cons_succ,pR,Zf];omega
def wu (l:List Int)(i:Nat):(l.getD i 0).natAbs<=cw l:=by
 induction l generalizing i with
 |nil=>simp[cw]
 |cons x l ih =>
  cases i with
  |zero=>simp only[pR,Ze];omega
  |succ i=>have:=ih i;simp only[pR,Zf];omega
def Sp {l:List Int}(h:a∈l):a.natAbs<=cw l:=by
 obtain⟨i,hi⟩:=U1.1 h;have:=wu l i;rw[UZ,hi]at this;exact this
def Sq (l:List Int):(iD l).natAbs<=cw l:=by
 by_cases h:l=[]
 ·subst h;simp[iD]
 ·exact Sp (zx h)
def Sr (l:List Int)(n:Nat):cw (l.take n)+cw (l.drop n)=cw l:=by rw[<- tH,VL]
def Ss (cs cd:Nat)(ex:List Int):kF (cs+1) cd ex=kF cs cd ex++[iD (jj cd cs ex)]:=by unfold kF;rw[VH,VQ];rfl
def Ac (cs cd:Nat)(ex:List Int):cw (kF cs cd ex)<=cw (ex.take (cs*cd)):=by
 induction cs with
 |zero=>simp[kF,cw]
 |succ cs ih =>
  rw[Ss,tH,pR];have h1:=Sq (jj cd cs ex);have h2:ex.take ((cs+1)*cd)=ex.take (cs*cd)++jj cd cs ex:=by
   unfold jj;rw[VD,Xe,List.take_add]
  have h3:cw []=0:=rfl;rw[h2,tH,h3];omega
def rH (l:List Int)(n:Nat):cw (l.take n)<=cw l:=by have:=Sr l n;omega
def Fg (ab be ex:List Int)(n:Nat):cw (dP ab be n ex)<=cw ex+cw (be.take n):=by
 induction n with
 |zero=>simp[dP]
 |succ n ih =>
  rw[wh];have h1:=Ff (dP ab be n ex) (ab.getD n 0).toNat ((dP ab be n ex).getD (ab.getD n 0).toNat 0+be.getD n 0);have h2:cw (be.take n)+(be.getD n 0).natAbs<=cw (be.take (n+1)):=by
   by_cases h:n<be.length
   ·obtain⟨x,hx⟩:=aw h;rw[bd hx,tH,pR,UZ,hx];show cw (be.take n)+x.natAbs<=_;omega
   ·rw[UY V,UY V,UZ,U3 V];simp
  omega
def Fh (hg:∀w,w<D.N->(D.nu w).natAbs<=g)(k:Nat):∀n,n<=D.N->cw (bE D k n)<=g*n:=by
 intro n
 induction n with
 |zero=>intro _;unfold bE;rw[Ab];exact Wo _
 |succ n ih =>
  intro hn;have h1:=ih V;have h2:=hg n V;rw[W2,Nat.mul_one];unfold bE;split
  ·have:=Ff (bE D k n) (D.br k n) ((bE D k n).getD (D.br k n) 0+D.nu n);omega
  ·omega
def Fi (hg:∀w,w<D.N->(D.nu w).natAbs<=g):∀(m k:Nat),k+1+m=D.K->cw (EF D k)<=g*D.N:=by
 intro m
 induction m with
 |zero =>
  intro k hk;rw[z7 V];exact Fh hg k _ (Nat.le_refl _)
 |succ m ih =>
  intro k hk;rw[z8 V];have h1:=ih (k+1) V;have h2:=Fg (dn D (k+1) D.N) (BF D (k+1)) (bE D k D.N) (D.cs (k+1));have h3:=rH (BF D (k+1)) (D.cs (k+1));have h4:cw (BF D (k+1))<=cw (EF D (k+1)):=VC (Ac _ _ _) (rH _ _);rw[tF V,Ab]at h2;rw[tF V];omega
def Su (hg:∀w,w<D.N->(D.nu w).natAbs<=g)(hk:k<D.K)(hk0:0<k)(n:Nat):cw (dP (dn D k D.N) (BF D k) n (bE D (k-1) D.N))<=g*D.N:=by
 have h1:=Fi hg (D.K-1-k) k V;have h2:=Fg (dn D k D.N) (BF D k) (bE D (k-1) D.N) n;have h3:=rH (BF D k) n;have h4:cw (BF D k)<=cw (EF D k):=VC (Ac _ _ _) (rH _ _);rw[tF V,Ab]at h2;rw[tF V];omega
def Sv (l:List Int):∀n,(SS n fun c=>l.getD c 0).natAbs<=cw (l.take n):=by
 intro n
 induction n with
 |zero=>rw[pF];simp
 |succ n ih =>
  rw[ia];by_cases h:n<l.length
  ·obtain⟨x,hx⟩:=aw h;rw[bd hx,tH,pR,UZ,hx];show _<=cw (l.take n)+(x.natAbs+cw [])
   simp only[Option.getD_some];omega
  ·rw[UY V]at ih;rw[UY V,UZ,U3 V];simp only[Option.getD_none,Xt];exact ih
def Sw (hg:∀w,w<D.N->(D.nu w).natAbs<=g):∀n,n<=D.N->(SS n D.nu).natAbs<=g*n:=by
 intro n
 induction n with
 |zero=>intro _;rw[pF];simp
 |succ n ih =>
  intro hn;have:=ih V;have:=hg n V;rw[ia,W2,Nat.mul_one];omega
def Sx (hok:Zv d)(h6:d.C.length<=6)(r:List Nat):(∀w,w<(ay d r).N->((ay d r).nu w).natAbs<=18662400000000)/\18662400000000*(ay d r).N<=20000000000000000:=by
 have h1:=(Ei hok.nC).1;rw[Fl]at h1;refine⟨fun w _=>?_,by show 18662400000000*cI d.C<=_;omega⟩;have:=F7 hok h6 (iC hok w);show (di d (wv d w)).natAbs<=_;omega
def eI (D:Zx)(ch:Nat->List Int)(j:Nat):Zz:=⟨fun k=>dn D k D.N,fun k=>ef D k D.N,fun k=>if j<=k+1 then EF D k else bE D k D.N,fun k=>if j<=k then BF D k else List.replicate (D.cs k) 0,ch⟩
def pX (D:Zx):Nat->List Int:=fun k=>List.replicate (D.cs k) 0
def iS (D:Zx):Nat->List Int:=fun k=>List.replicate (D.cs k) (-1)
def fw (D:Zx)(j:Nat):Int:=if D.K=0\/j=0 then rE D else 0
def FI (hc:∀k,k<D.K->(ch k).length=D.cs k)(j:Nat):(eI D ch j).Len D D.K:=by
 refine⟨fun k _=>rD D k _,fun k _=>pQ D k _,fun k _=>?_,fun k _=>?_,hc⟩
 ·unfold eI;simp only;split
  ·exact zZ D k
  ·exact mj D k _
 ·unfold eI;simp only;split
  ·exact EX ..
  ·simp
def Tk (D:Zx)(ch:Nat->List Int):wN D.K (iT D (pX D) ch D.N) (eI D ch D.K):=fun k j hk=>by
 have e1:(if D.K<=k then BF D k else List.replicate (D.cs k) 0)=List.replicate (D.cs k) 0:=UW V;have e2:(if D.K<=k+1 then EF D k else bE D k D.N)=bE D k D.N:=by
  split
  ·exact z7 (V)
  ·rfl
 unfold dM iT eI pX;simp only[e1,e2]
def Aq (hk:k<D.K):cz D (eI D ch (k+1)) k=BF D k:=by
 unfold cz BF;have:(eI D ch (k+1)).ex k=EF D k:=UX Zm;rw[this]
def Tl (hk:k<D.K):wN D.K (tS D (eI D ch (k+1)) k) (eI D ch k):=fun k' j hk'=>by
 have hA:=Aq (ch:=ch) hk;have e1:fC (eI D ch (k+1)).be k (cz D (eI D ch (k+1)) k) k'=if k<=k' then BF D k' else List.replicate (D.cs k') 0:=by
  by_cases e:k'=k
  ·rw[e,lI,hA,UX Zm]
  ·rw[lJ e];show (if k+1<=k' then BF D k' else List.replicate (D.cs k') 0)=_;by_cases h:k<=k'
   ·rw[UX h,UX V]
   ·rw[UW h,UW V]
 have e2:(if 0<k then fC (eI D ch (k+1)).ex (k-1) (dP ((eI D ch (k+1)).ab k) (cz D (eI D ch (k+1)) k) (D.cs k) ((eI D ch (k+1)).ex (k-1))) else (eI D ch (k+1)).ex) k'=if k<=k'+1 then EF D k' else bE D k' D.N:=by
  by_cases h0:0<k
  ·rw[UX h0,hA];by_cases e:k'=k-1
   ·rw[e,lI,UX V];have h1:(eI D ch (k+1)).ex (k-1)=bE D (k-1) D.N:=UW V;have h2:=z8 (D:=D) (k:=k-1) V;rw[Nat.sub_add_cancel h0]at h2;rw[h1,h2];rfl
   ·rw[lJ e];show (if k+1<=k'+1 then EF D k' else bE D k' D.N)=_;by_cases h:k<=k'+1
    ·rw[UX h,UX V]
    ·rw[UW h,UW V]
  ·rw[UW h0];show (if k+1<=k'+1 then EF D k' else bE D k' D.N)=_;rw[UX V,UX V]
 unfold dM tS eI at *
 simp only at e1 e2;simp only[e1,e2]
def Tm (hk:k<D.K):gQ D (eI D ch (k+1)) k (D.cs k) (fw D (k+1))=fw D k:=by
 have hA:=Aq (ch:=ch) hk;have h0:fw D (k+1)=0:=by unfold fw;rw[UW V]
 unfold gQ;rw[h0,hA];by_cases h:0<k
 ·rw[UX h];unfold fw;rw[UW V]
 ·have:k=0:=V
  subst this;rw[UW h];unfold fw rE;rw[UX V,UW V];simp
def Ar :∀(f need:Nat) (out r:List Nat),gG d f need out=some r->r.length<=out.length+f:=by
 intro f
 induction f with
 |zero =>
  intro need out r h;unfold gG at h;split at h
  ·cases h;omega
  ·cases h
 |succ f ih =>
  intro need out r h;unfold gG at h;split at h
  ·cases h;omega
  ·split at h
   ·cases h
   ·have:=ih _ _ r h;rw[List.length_append,VX]at this;omega
def Tn (hok:Zv d){r:List Nat}(hr:ZB d r):∀k,k<r.length->1<=(ay d r).cs k/\(ay d r).cs k<=1024/\1<=(ay d r).cd k/\(ay d r).cd k<=4/\(ay d r).cs k*(ay d r).cd k<=4096:=fun k hk=>by
 obtain⟨v,hv⟩:=aw hk;have hvd:r.getD k 0=v:=gf hv;have hm:=hr.mem v (an hv);obtain⟨x,hx⟩:=aw (bM.1 hm).1;obtain⟨hrn,hxp,_,_⟩:=wV hok hx;have hxc:=hok.n.L x (an hx);obtain⟨e1',e2'⟩:=iO hx V;have ecs:(ay d r).cs k=cr d.C x:=by show dB d (r.getD k 0)=_;rw[hvd];exact e1'
 have ecd:((ay d r).cd k:Int)=x.L:=by show (eF d (r.getD k 0):Int)=_;rw[hvd];exact e2'
 have hsz0:=hok.nC.size;rw[jX]at hsz0;have:=zC hxp hok.n.L;have h1:=z9 hok hr k hk;have a1:(ay d r).cs k<=1024:=V
 have a2:(ay d r).cd k<=4:=V
 exact⟨h1,a1,V,a2,Xi a1 a2⟩
def Da (d:Zq)(r:List Nat)(u:Nat):Zu:=.J 0 157 (gY d r u)
def vm (d:Zq)(hf:ZM d)(dec:Int)(H:Zn)(K:Zt->Zn->Prop)
  (hE:dA d=4->K (.ret (.nf [.lit (.pointer none),aa 210])) H)
  (hE2:dA d≠4->dA d≠0->K (.ret (.nf [.lit (.pointer none),aa (dA d)])) H)
  (hN:dA d=0->dec ∉ aG (gH d)->K (.ret (.nf [.lit (.pointer none),aa 2])) H)
  (hK:∀(r:List Nat) (u:Nat) (H':Zn),dA d=0->gH d=r->dec=u->u∈r->H'=ext H [lG d,Da d r u]->K (.ret (.nf [.O (H.A+1) 0 0,aa 0])) H'):
  ae prog G0 40 [dk d,aa dec] H K:=by
 refine ae.Z ⟨_,func40,rfl,rfl⟩ fun hcl=>?_;refine ae.sw (n:=27) (rs:=[.tmp 4,.tmp 5]) func40 ?_;refine W.sq ?_;simp only[go_sem,ie,cZ];obtain⟨H1,hH1⟩:∃H1,H1=ext H [.J 0 38 [.lit (.int .i64 d.nl),.Q d.C.length (aH d.C),.lit (.int .u64 (d.X:Int)),.Q d.Y.length (bB d.Y)]]:=⟨_,rfl⟩
 have g1:=dp hH1
 have o1:Zs H H1:=hH1▸.ext _ _
 rw[<- hH1];have l1:=ag g1;refine W.sq ?_;simp only[go_sem,l1];refine ao.Z (B9 d hf H1 _ ⟨trivial,?_⟩);simp only[go_sem];by_cases h4:dA d=4
 ·refine W.sq ?_;simp only[go_sem,h4];exact aj.bH aF hcl o1 (.nf rfl fun i hi _=>match i,hi with|0,_=>.lit _|1,_=>.lit _) (hE h4)
 refine W.sq ?_;simp only[go_sem,h4];by_cases h0:dA d=0;rotate_left
 ·refine W.sq ?_;simp only[go_sem,h0];exact aj.bH aF hcl o1 (.nf rfl fun i hi _=>match i,hi with|0,_=>.lit _|1,_=>.lit _) (hE2 h4 h0)
 refine W.sq ?_;simp only[go_sem,h0];have hrl:((aG (gH d)).length:Int)<2 ^ 62:=by
  have h1:=hf.C.1;have h2:(aE d).length<=d.C.length:=pD;unfold gH;rw[UX h0];cases hr:iJ d with
  |none=>simp[aG]
  |some r =>
   have h3:=Ar _ _ _ _ hr;simp[aG]at h3 ⊢;omega
 refine W.sq ?_;simp only[go_sem];refine ao.Z (C6 (aG (gH d)) dec hrl H1 _ ⟨trivial,?_⟩);by_cases hm:dec∈aG (gH d);rotate_left
 ·rw[VP hm];simp only[go_sem];exact aj.bH aF hcl o1 (.nf rfl fun i hi _=>match i,hi with|0,_=>.lit _|1,_=>.lit _) (hN h0 hm)
 rw[Vl hm];simp only[go_sem];obtain⟨u,hu,rfl⟩:∃u:Nat,u∈gH d/\(u:Int)=dec:=by
  unfold aG at hm;obtain⟨u,h1,h2⟩:=Vb.1 hm;exact⟨u,h1,h2⟩
 refine W.vs ?_;simp only[go_sem,l1];refine aj.mk (by rw[hH1,aV,aV];simp;omega) ?_;have:=hK (gH d) u (ext H [lG d,Da d (gH d) u]) h0 rfl rfl hu rfl;rw[hH1,dY];exact this
structure BldH (d:Zq)(r:List Nat)(lo s n:Nat)(lvh:Zo)(I:Nat->Nat->Nat)(H:Zn):Prop where
 top:H.get s=some (.J 0 184 [.lit (.int .i64 d.nl),.Q d.C.length (aH d.C),.lit (.int .u64 (d.X:Int)),.Q d.Y.length (bB d.Y),lvh,af (eh d),af (dN d),.lit (.int .i64 0)])
 nI:s<H.A
 lv:aJ lo H 187 lvh (lH I n)
 sep:∀k j,k<n->j<6->s≠I k j
 nK:∀id g m,lvh=.U id g 0 m 1->id≠s/\∀k j,k<n->j<6->id≠I k j
 nk:Z5 (ay d r) r lo n I (iT (ay d r) (pX (ay d r)) (iS (ay d r)) 0) H
 nv:n=0->lvh=.lit (.slice none 0 0)
def To (d:Zq)(hf:ZM d)(h6:d.C.length<=6)(H:Zn)(K:Zt->Zn->Prop)
  (hE:∀H',Zs H H'->dA d=4->K (.ret (.nf [.lit (.pointer none),.lit (.int .i64 210)])) H')
  (hE2:∀H',Zs H H'->dA d≠4->dA d≠0->K (.ret (.nf [.lit (.pointer none),aa (dA d)])) H')
  (hK:∀(r:List Nat) (s:Nat) (lvh:Zo) (I:Nat->Nat->Nat) (H':Zn),iJ d=some r->Zv d->Zs H H'->ZA d r H.A s lvh I (eI (ay d r) (iS (ay d r)) 0) (fw (ay d r) 0) H'->(r=[]->lvh=.lit (.slice none 0 0))->K (.ret (.nf [.O s 0 0,.lit (.int .i64 0)])) H'):
  ae prog G0 67 [dk d] H K:=by
 refine ae.sw (n:=96) (rs:=[.tmp 2,.tmp 3]) func67 ?_;refine W.sq ?_;simp only[go_sem,ie,cZ];obtain⟨H1,hH1⟩:∃H1,H1=ext H [.J 0 38 [.lit (.int .i64 d.nl),.Q d.C.length (aH d.C),.lit (.int .u64 (d.X:Int)),.Q d.Y.length (bB d.Y)]]:=⟨_,rfl⟩
 have g1:=dp hH1
 have n1:H1.A=H.A+1:=hH1▸rfl
 have o1:Zs H H1:=hH1▸.ext _ _
 rw[<- hH1];clear hH1;have l1:=ag g1;refine W.sq ?_;simp only[go_sem,l1];refine ao.Z (B9 d hf _ _ ⟨trivial,?_⟩);simp only[go_sem];refine W.en (fun E=>E 1=.O H.A 0 0 /\ E 4=af (aG (gH d)) /\ E 5=aa (dA d)) (by simp only[go_sem]) fun E ⟨e1,e4,e5⟩=>?_
 by_cases h4:dA d=4
 ·refine W.sq ?_;simp only[go_sem,e5,h4];exact aj.mk o1.A (hE H1 o1 h4)
 refine W.sq ?_;simp only[go_sem,e5,h4];by_cases h0:dA d=0;rotate_left
 ·refine W.sq ?_;simp only[go_sem,e5,h0];exact aj.mk o1.A (hE2 H1 o1 h4 h0)
 have hok:Zv d:=by
  unfold dA at h0;by_cases h:Zv d
  ·exact h
  ·rw[oF h]at h0;simp at h0
 obtain⟨r,hr⟩:∃r,iJ d=some r:=by
  unfold dA at h0;rw[mm hok]at h0;simp only[if_true]at h0;split at h0
  ·rename_i hs;exact Vx.1 hs
  ·cases h0
 have hrv:gH d=r:=by unfold gH;rw[UX h0,hr];rfl
 rw[hrv]at e4;have hrl8:r.length<=8:=by
  have h1:=Ar _ _ _ _ hr;have h2:(aE d).length<=d.C.length:=pD;have h3:=hok.n.n1;simp at h1;omega
 have hrl:r.length<=64:=V
 have hro:=tE hr;refine W.sq ?_;simp only[go_sem,e5,h0];refine W.sq ?_;simp only[go_sem,e1,l1];obtain⟨H2,hH2⟩:∃H2,H2=ext H1 [.J 0 184 [.lit (.int .i64 d.nl),.Q d.C.length (aH d.C),.lit (.int .u64 (d.X:Int)),.Q d.Y.length (bB d.Y),.lit (.slice none 0 0),.lit (.slice none 0 0),.lit (.slice none 0 0),.lit (.int .i64 0)],.J 0 134 [.O H1.A 0 0]]:=⟨_,rfl⟩
 have g2:=dp hH2
 have g3:=gE hH2 1 rfl
 have n2:H2.A=H1.A+2:=hH2▸rfl
 have o2:Zs H1 H2:=hH2▸.ext _ _
 rw[<- hH2];clear hH2;have l1':=ag ((o2.nc _ V).trans g1);have l2:=ag g2;have l3:=ag g3;refine W.en (fun E2=>E2 1=.O H.A 0 0 /\ E2 4=af (aG r) /\ E2 6=.O (H1.A+1) 0 0) (by simp only[go_sem,e1,e4]) fun E2 ⟨f1,f4,f6⟩=>?_
 clear e1 e4 e5 l1;refine W.sS (fun s'=>s'.ρ 4=af (aG r)/\s'.ρ 6=.O (H1.A+1) 0 0/\s'.H.A=H2.A/\(∀i,i≠H1.A->s'.H.get i=H2.get i)/\s'.H.get H1.A=some (.J 0 184 [.lit (.int .i64 d.nl),.Q d.C.length (aH d.C),.lit (.int .u64 (d.X:Int)),.Q d.Y.length (bB d.Y),.lit (.slice none 0 0),af (eh d),af (dN d),.lit (.int .i64 0)])) ?_ ?_
 ·refine W.dr 10 [0,0,0,4,12,28,28,61,189,445] mixed ?_;simp only[go_sem,f1,f6,l1',l3];refine⟨.nf [af (eh d),af (dN d)],[],bF.pure fun H9=>Uf d hok hf.X H9 _ ⟨rfl,rfl⟩,?_⟩;simp only[go_sem,f1,f4,f6,l2];refine⟨fun x hx=>V,by rw[aP,aP],fun i h=>?_,?_⟩
  ·rw[ah,UW h,ah,UW h]
  ·rw[ah,UX rfl]
 rintro⟨ρ3,H3⟩ ⟨k4,k6,n3,o3,g4⟩;simp only at k4 k6 n3 o3 g4;clear f1 f4 f6 l1' l2 l3;have g5:H3.get (H1.A+1)=_:=(o3 _ V).trans g3;have hnl:(aG r).length=r.length:=by simp[aG]
 refine W.sq ?_;simp only[go_sem,k4,hnl];refine W.en (fun E3=>E3 6=.O (H1.A+1) 0 0 /\ E3 36=.Q r.length (ints (aG r)) /\ E3 37=aa r.length /\ E3 38=aa 0) (by simp only[go_sem,k6]) fun E3 ⟨m6,m36,m37,m38⟩=>?_
 clear k4 k6;refine W.aS 38685626227667858712692480 (by rfl) (fun ρ Hx=>∃(n:Nat) (lvh:Zo) (I:Nat->Nat->Nat),ρ 38=aa n/\n<=r.length/\H3.A<=Hx.A/\(∀i,i<H3.A->i≠H1.A->Hx.get i=H3.get i)/\BldH d r H3.A H1.A n lvh I Hx) (fun ρ Hx=>r.length-(iv (ρ 38)).toNat) ?_ ?_
 ·simp only[go_sem,m38];refine⟨0,.lit (.slice none 0 0),fun _ _=>0,rfl,Wo _,⟨g4,V,.nil,fun k j h=>absurd h (Va _),fun id g m h=>(by cases h),?_,fun _=>rfl⟩⟩;exact⟨fun k j k' j' h=>absurd h (Va _),fun k j h=>absurd h (Va _),fun k h=>absurd h (Va _),fun k j h=>absurd h (Va _),⟨fun k h=>absurd h (Va _),fun k h=>absurd h (Va _),fun k h=>absurd h (Va _),fun k h=>absurd h (Va _),fun k h=>absurd h (Va _)⟩⟩
 rintro ρ Hx ⟨n,lvh,I,h38,hn,nx,hout,hB⟩;refine W.en (fun E4=>E4 6=.O (H1.A+1) 0 0 /\ E4 36=.Q r.length (ints (aG r)) /\ E4 37=aa r.length /\ E4 38=aa n) (by simp only[go_sem,m6,m36,m37,h38]) fun E4 ⟨f6,f36,f37,f38⟩=>?_
 have gp:=(hout (H1.A+1) V V).trans g5;have lp:=ag gp;have ls:=ag hB.top;by_cases hb:(n:Int)<r.length;rotate_left
 ·refine W.vs ?_;simp only[go_sem,f37,f38,hb];have hnr:n=r.length:=V
  subst hnr;have hD0:=Tn hok hro;obtain⟨hg1,hg2⟩:=Sx hok h6 r;have ht0:eZ d r 0=0:=by unfold eZ;split<;>rfl
  have hS0:ZA d r H.A H1.A lvh I (iT (ay d r) (pX (ay d r)) (iS (ay d r)) 0) (eZ d r 0) Hx:=by
   rw[ht0];exact⟨hB.top,⟨V,hB.nI⟩,hB.lv.ng V Zm fun _ _ _ _ _ _=>rfl,hB.sep,hB.nK,⟨hB.nk.inj,fun k j h1 h2=>by have:=hB.nk.nq k j h1 h2;omega,hB.nk.nJ,hB.nk.nH,hB.nk.len⟩⟩
  refine W.sq ?_;simp only[go_sem,f6,lp];refine ao.Z (TV hok hro hrl (fun k hk=>by have:=hD0 k hk;omega) (fun k hk=>by have:=hD0 k hk;omega) (fun k b hk n hn=>?_) (fun n hn=>?_) (fun w hw=>?_) Hx hS0 _ fun H4 n4 o4 hS4=>⟨trivial,?_⟩)
  ·have h1:=Fh hg1 k n hn;have h2:=wu (bE (ay d r) k n) b;have h3:18662400000000*n<=18662400000000*(ay d r).N:=V2 _ hn;omega
  ·have h1:=Sw hg1 n hn;have h3:18662400000000*n<=18662400000000*(ay d r).N:=V2 _ hn;omega
  ·have:=F7 hok h6 (iC hok w);omega
  simp only[go_sem];have gp4:H4.get (H1.A+1)=some (.J 0 134 [.O H1.A 0 0]):=(o4 _ (by have:=nx;omega) V (fun k j h1 h2 e=>by have:=(hB.nk.nq k j h1 h2).1;omega)).trans gp;have lp4:=ag gp4;refine W.sq ?_;simp only[go_sem,f6,lp4];refine ao.Z (TU H1.A H4 _ ⟨trivial,?_⟩);simp only[go_sem];obtain⟨H5,hH5⟩:∃H5,H5=ext H4 [.J 0 134 [.O H1.A 0 0]]:=⟨_,rfl⟩
  have n5:H5.A=H4.A+1:=hH5▸rfl
  have o5:Zs H4 H5:=hH5▸.ext _ _
  have gbx:=dp hH5
  rw[<- hH5];clear hH5;have hT5:ZA d r H.A H1.A lvh I (eI (ay d r) (iS (ay d r)) r.length) (fw (ay d r) r.length) H5:=by
   have h1:=(hS4.same (Tk (ay d r) (iS (ay d r))) (FI (fun k _=>by simp[iS]) _)).oM hS4.bnd V fun i hi=>o5.nc i hi;have h2:eZ d r (cI d.C)=fw (ay d r) r.length:=by
    unfold eZ fw;by_cases h:r.length=0
    ·rw[UX h,UX (.inl h)];unfold rE;rw[UX (show (ay d r).K=0 from h)];rfl
    ·rw[UW h,UW (by rintro(h1|h1)<;>exact h h1)]
   rw[<- h2];exact h1
  have hB5:=hT5.bnd;refine W.env fun E6 hE6=>?_;have w6:E6 6=.O (H1.A+1) 0 0:=by rw[hE6];simp only[go_sem,f6]
  have w90:E6 90=.Z 149 [] [.O H4.A 0 0]:=by rw[hE6];rfl
  clear hE6;have hni:∀k j,k<r.length->j<6->I k j<H4.A:=fun k j h1 h2=>(hS4.nk.nq k j h1 h2).2;have hns:H1.A<H4.A:=hS4.nI.2;have hpI:∀k j,k<r.length->j<6->H1.A+1≠I k j:=fun k j h1 h2 e=>by have:=(hB.nk.nq k j h1 h2).1;omega
  refine W.rU (f:=149) (first:=[]) (cap:=[.O H4.A 0 0]) (by show E6 90=_;exact w90) (TT d H1.A H4.A r.length hrl)
   (fun k Hy=>H5.A<Hy.A/\(∀i,i<H5.A->i≠H1.A->(∀k j,k<r.length->j<6->i≠I k j)->Hy.get i=H5.get i)/\ZA d r H.A H1.A lvh I (eI (ay d r) (iS (ay d r)) (r.length-k)) (fw (ay d r) (r.length-k)) Hy)
   (fun _ _=>False)
   (fun k Hy h=>⟨(h.2.1 _ V V fun k j h1 h2 e=>by have:=hni k j h1 h2;omega).trans gbx,_,_,h.2.2.top,h.2.2.len⟩)
   (fun k Hy b h=>⟨h.1,fun i h1 h2 h3=>by rw[ah,UW V];exact h.2.1 i h1 h2 h3,h.2.2.oM hB5 (by rw[aP];exact Nat.le_refl _) fun i hi=>by rw[ah,UW V]⟩)
   (fun _ _ _ h=>h)
   (fun b=>⟨by rw[aV];simp,fun i h1 _ _=>dz h1,hT5.oM hB5 (by rw[aV];omega) fun i hi=>dz hi⟩)
   Zk (fun x hx=>by rw[TQ x hx];rfl) (fun _ _ _=>trivial) (fun _ _ _=>trivial) (fun k y Hy B Bb hy hj hn hBq hBb=>?_) (fun Hy hj hn=>?_) (fun _ hs _=>hs.elim) (fun _ _ hs _=>hs.elim)
  ·obtain⟨hk,rfl⟩:=TP hy;obtain⟨kk,hkk⟩:∃kk,kk=r.length-1-k:=⟨_,rfl⟩
   have e1:(r.length:Int)-1-(k:Int)=(kk:Int):=V;have e2:r.length-k=kk+1:=V;have e3:r.length-(k+1)=kk:=V;rw[e1];rw[e2]at hj;rw[e3];refine W.vs ?_;simp only[go_sem,jK,dq,mw,V1,Xj,WA,WJ,hBq];obtain⟨H6,hH6⟩:∃H6,H6=Hy.upd H5.A Bb:=⟨_,rfl⟩
   rw[<- hH6];obtain⟨st,pd,n',en,ps',as',bo,hBe⟩:=hBb;have n6:H6.A=Hy.A:=(by rw[hH6];rfl);have o6:∀id,id≠H5.A->H6.get id=Hy.get id:=fun id h=>by rw[hH6,ah,UW h]
   have jB:H6.get H5.A=some Bb:=(by rw[hH6,ah,UX rfl]);have hS6:=hj.2.2.oM hB5 (H':=H6) V fun i hi=>o6 i V;have lp6:=ag ((o6 (H1.A+1) V).trans ((hj.2.1 _ V V hpI).trans ((o5.nc _ V).trans gp4)));refine W.env fun E7 hE7=>?_;have t6:E7 6=.O (H1.A+1) 0 0:=(by rw[hE7];simp only[go_sem,dq,w6]);have t11:E7 11=aa kk:=(by rw[hE7];simp only[go_sem,dq]);clear hE7;have hkl:kk<r.length:=V;have hd1:=hD0 kk hkl;have hbf:=Aq (D:=ay d r) (ch:=iS (ay d r)) (k:=kk) hkl;have hex:0<kk->(eI (ay d r) (iS (ay d r)) (kk+1)).ex (kk-1)=bE (ay d r) (kk-1) (ay d r).N:=fun h=>UW V;have hBs:cw (BF (ay d r) kk)<=20000000000000000:=by
    have h1:cw (BF (ay d r) kk)<=cw (EF (ay d r) kk):=VC (Ac _ _ _) (rH _ _);have h2:=Fi hg1 (r.length-1-kk) kk (show kk+1+(r.length-1-kk)=r.length by omega);omega
   refine W.vs ?_;simp only[go_sem,t6,t11,lp6];refine ao.Z (TB hrl hkl V hd1.2.2.1 V V (fun h0 c hc=>?_) (fun h0 n hn=>?_) (fun h0 n hn=>?_) H6 hS6 _ fun H7 h7n h7o h7S=>⟨⟨st,pd,n',en,ps',as',bo,by rw[h7o _ V (fun k j h1 h2 e=>by have:=hni k j h1 h2;omega),jB,hBe]⟩,?_⟩)
   ·have hDo:=wg hok hro.mem;have hd2:=hD0 (kk-1) V;have hpos:0<(ay d r).cs (kk-1)*(ay d r).cd (kk-1):=YH V V;obtain⟨a,ha⟩:=aw (l:=dn (ay d r) kk (ay d r).N) (i:=c) (by rw[rD];exact hc);have h1:=EW hDo (show kk<(ay d r).K from hkl) (ay d r).N Zm a (an ha);have hab':((eI (ay d r) (iS (ay d r)) (kk+1)).ab kk).getD c 0=a:=kJ ha;rw[hab'];rcases h1.2.2 h0 with h2|h2
    ·exact⟨h1.1,h2⟩
    ·rw[h2];exact⟨Int.le_refl _,Int.ofNat_lt.2 hpos⟩
   ·rw[hbf,hex h0];have h1:=Su hg1 (show kk<(ay d r).K from hkl) h0 n;have h2:=wu (dP (dn (ay d r) kk (ay d r).N) (BF (ay d r) kk) n (bE (ay d r) (kk-1) (ay d r).N)) (((eI (ay d r) (iS (ay d r)) (kk+1)).ab kk).getD n 0).toNat;have h3:=wu (BF (ay d r) kk) n;have h4:(eI (ay d r) (iS (ay d r)) (kk+1)).ab kk=dn (ay d r) kk (ay d r).N:=rfl;rw[h4]at h2 ⊢;omega
   ·rw[hbf];have h1:=Sv (BF (ay d r) kk) (n+1);have h2:=rH (BF (ay d r) kk) (n+1);have h3:fw (ay d r) (kk+1)=0:=(by unfold fw;rw[UW (by rintro(h|h);{ have:r.length=0:=h;omega };omega)]);rw[h3];omega
   simp only[go_sem,ij];refine⟨by rw[h7o _ V (fun k j h1 h2 e=>by have:=hni k j h1 h2;omega)];exact jB,V,V,fun i h1 h2 h3=>by rw[h7o i h2 h3,o6 i V];exact hj.2.1 i h1 h2 h3,?_⟩;rw[Tm (show kk<(ay d r).K from hkl)]at h7S;exact h7S.same (Tl (show kk<(ay d r).K from hkl)) (FI (fun k _=>by simp[iS]) _)
  ·simp only[go_sem];have lpy:=ag ((hj.2.1 (H1.A+1) V V hpI).trans ((o5.nc _ V).trans gp4));refine W.vs ?_;simp only[go_sem,w6,lpy];have hov:Zs H Hy:=⟨by have:=o1.A;omega,fun i hi=>by
    have q1:∀k j,k<r.length->j<6->i≠I k j:=fun k j h1 h2 e=>by have:=(hB.nk.nq k j h1 h2).1;omega
    rw[hj.2.1 i V V q1,o5.nc i V,o4 i V V q1,hout i V V,o3 i V,o2.nc i V,o1.nc i hi]⟩
   have hSf:=hj.2.2;rw[Au,XJ]at hSf;exact aj.mk hov.A (hK r H1.A lvh I Hy hr hok hov hSf fun h=>hB.nv (by rw[h];rfl))
 have hn2:n<r.length:=V
 obtain⟨v,hv⟩:=aw hn2;have hvd:r.getD n 0=v:=gf hv;have hm:=hro.mem v (an hv);obtain⟨x,hx⟩:=aw (bM.1 hm).1;obtain⟨hrn,hxp,hin,ps⟩:=wV hok hx;have hxc:=hok.n.L x (an hx);obtain⟨e1',e2'⟩:=iO hx V;obtain⟨D,hD⟩:∃D,D=ay d r:=⟨_,rfl⟩
 have ecs:D.cs n=cr d.C x:=by rw[hD];show dB d (r.getD n 0)=_;rw[hvd];exact e1'
 have ecd:(D.cd n:Int)=x.L:=by rw[hD];show (eF d (r.getD n 0):Int)=_;rw[hvd];exact e2'
 have gv:(ints (aG r))[n]?=some (aa v):=by rw[gX];simp[aG,hv]
 have gvn:=bf gv;have hvi:(v:Int)<d.C.length:=by have:=(bM.1 hm).1;omega
 have q0:=mO hx;have qn:=fM hx;refine W.sq ?_;simp only[go_sem,f37,f38,hb];refine W.sq ?_;simp only[go_sem];refine W.seq (W.block ?_);refine W.sq ?_;simp only[go_sem,f36,f38,hb,gv,gvn];refine W.seq ?_;refine W.dr 17 [0,1,3,7,15,0,63,0,128,384,896,1920,0,8064,16256,32640,127] mixed ?_;simp only[go_sem,f6,lp,ls,q0,qn,hvi];refine⟨aa (cr d.C x),[],bF.pure fun H9=>Fw d.C v x hx hin ps H9 _ (by rw[hrn];exact⟨rfl,rfl⟩),?_⟩;simp only[go_sem];obtain⟨cN,hcN⟩:∃cN,cN=D.cs n:=⟨_,rfl⟩
 obtain⟨cD,hcD⟩:∃cD,cD=D.cd n:=⟨_,rfl⟩
 refine W.env fun E5 hE5=>?_;have s6:E5 6=.O (H1.A+1) 0 0:=by rw[hE5];simp only[go_sem,f6]
 have s8:E5 8=aa v:=by rw[hE5];simp only[go_sem]
 have s9:E5 9=aa cN:=by rw[hE5,hcN,ecs];simp only[go_sem]
 have s10:E5 10=aa cD:=by rw[hE5,hcD,ecd];simp only[go_sem]
 have s38:E5 38=aa n:=by rw[hE5];simp only[go_sem,f38]
 clear hE5;have hc1:1<=cN:=by rw[hcN,hD];exact z9 hok hro n hn2
 have hsz0:=hok.nC.size;rw[jX]at hsz0;have hcb:cN<=1024:=by have:=zC hxp hok.n.L;omega
 have hdb:cD<=4:=V
 have w0:=UU ((cN:Int)*(cD:Int)) (by rw[<- Wj];have:=Xi hcb hdb;omega);obtain⟨cE,hcE⟩:∃cE,cE=cN*cD:=⟨_,rfl⟩
 have q1:(cN:Int)*(cD:Int)=(cE:Int):=by rw[hcE];simp
 have hcd2:cE<=4096:=by rw[hcE];exact Xi hcb hdb
 rw[q1]at w0;have z1:(0:Int)<=(cN:Int):=V
 have z2:(0:Int)<=(cE:Int):=V
 refine Ev.W.AT 24 [0,0,2,6,14,0,0,0,128,0,512,0,0,6144,14336,0,32768,0,0,393216,1048544,2097120,4194272,8388606] mixed Zl Zl ?_;simp only[go_sem,s6,s8,s9,s10,lp,ls,q1,w0,z1,z2,Cb,Cc,Cd,MD,Ce,ME,Cf,MF,MG,Cg,MH,MI];obtain⟨H4,hH4⟩:∃H4,H4=ext (ext Hx [.J 0 3 (List.replicate cN (.lit (.int .i64 0))),.J 0 4 (List.replicate cN (.lit (.bool false))),.J 0 3 (List.replicate cE (.lit (.int .i64 0))),.J 0 3 (List.replicate cN (.lit (.int .i64 0)))]) [.J 0 3 [.lit (.int .i64 (-1))]]:=⟨_,rfl⟩
 rw[<- hH4];have n4:H4.A=Hx.A+4+1:=by rw[hH4];rfl
 have o4:Zs Hx H4:=by rw[hH4];exact(Zs.ext _ _).trans (.ext _ _)
 have b0:H4.get Hx.A=some (.J 0 3 (List.replicate cN (.lit (.int .i64 0)))):=by rw[hH4,dY];exact bO Hx _ 0 (Zj)
 have b1:H4.get (Hx.A+1)=some (.J 0 4 (List.replicate cN (.lit (.bool false)))):=by rw[hH4,dY];exact bO Hx _ 1 (Zj)
 have b2:H4.get (Hx.A+2)=some (.J 0 3 (List.replicate cE (.lit (.int .i64 0)))):=by rw[hH4,dY];exact bO Hx _ 2 (Zj)
 have b3:H4.get (Hx.A+3)=some (.J 0 3 (List.replicate cN (.lit (.int .i64 0)))):=by rw[hH4,dY];exact bO Hx _ 3 (Zj)
 have b4:H4.get (Hx.A+4)=some (.J 0 3 [.lit (.int .i64 (-1))]):=by rw[hH4,dY];exact bO Hx _ 4 (Zj)
 clear hH4;refine⟨V,by repeat' (first|refine And.intro ?_ ?_|(intro x hx;omega)),V,by repeat' (first|refine And.intro ?_ ?_|(intro x hx;omega)),V,by repeat' (first|refine And.intro ?_ ?_|(intro x hx;omega)),V,by repeat' (first|refine And.intro ?_ ?_|(intro x hx;omega)),by repeat' (first|refine And.intro ?_ ?_|(intro x hx;omega)),?_⟩;refine⟨_,_,1,_,T0 (a:=-1) (m:=cN) ⟨hc1,V⟩ V b4,?_⟩;have hEf:(⟨Ev.cV (Ev.fR H4.A (H4.A+1) (fun _=>true) (ext ⟨fun _=>none,H4.A⟩ [.J 0 3 (ints (List.replicate cN (-1)))]).get) H4.get,Hx.A+4+1+1⟩:Zn)=ext H4 [.J 0 3 (ints (List.replicate cN (-1)))]:=by rw[<- n4];exact Ck
 rw[Cj,hEf,n4];simp only[go_sem];obtain⟨H5,hH5⟩:∃H5,H5=ext (ext H4 [.J 0 3 (ints (List.replicate cN (-1)))]) [.J 0 191 [.lit (.int .i64 (v:Nat)),.lit (.int .i64 (cD:Nat)),.U Hx.A 0 0 cN 1,.U (Hx.A+1) 0 0 cN 1,.U (Hx.A+2) 0 0 cE 1,.U (Hx.A+3) 0 0 cN 1,.U (Hx.A+4+1) 0 0 cN 1]]:=⟨_,rfl⟩
 rw[<- hH5];have n5:H5.A=Hx.A+4+1+1+1:=by rw[hH5];show H4.A+1+1=_;omega
 have o5:Zs H4 H5:=by rw[hH5];exact(Zs.ext _ _).trans (.ext _ _)
 have b5:H5.get (Hx.A+4+1)=some (.J 0 3 (ints (List.replicate cN (-1)))):=by rw[hH5,<- n4,dY];exact bO H4 _ 0 (Zj)
 have b6:H5.get (Hx.A+4+1+1)=some (.J 0 191 [.lit (.int .i64 (v:Nat)),.lit (.int .i64 (cD:Nat)),.U Hx.A 0 0 cN 1,.U (Hx.A+1) 0 0 cN 1,.U (Hx.A+2) 0 0 cE 1,.U (Hx.A+3) 0 0 cN 1,.U (Hx.A+4+1) 0 0 cN 1]):=by rw[hH5,show Hx.A+4+1+1=H4.A+1 by omega,dY];exact bO H4 _ 1 (Zj)
 clear hH5;obtain⟨lv2,H6,hA2,oP,n6,hp6⟩:=jL (P:=prog) (H:=H5) (t:=182) (x:=.O (Hx.A+4+1+1) 0 0) (n:=H5.A+1) Tryz.underlying182 Tryz.CU Tryz.CW rfl (by rw[Tryz.CV,pW];omega) (hB.lv.ng Zm V fun i g h1 h2 h3 _=>by rw[o5.nc i V,o4.nc i h2]) (by have:=hB.nI;omega) rfl;have hA3:bU prog (ext H5 [.J 0 187 [.O (Hx.A+4+1+1) 0 0]]) (H5.A+1) 182 182 lvh (.U (Hx.A+4+1+1+1) 0 0 1 1)=some (lv2,H6):=by rw[<- n5];exact hA2
 have lv21:=oP.one;have lv2c:=oP.cells;have k6:∀i g e c,i<Hx.A->Hx.get i=some (.J g e c)->e≠187->H6.get i=Hx.get i:=fun i g e c h1 h2 h3=>by
  rw[hp6 i V (hB.lv.MJ h2 h3),o5.nc i V,o4.nc i h1]
 have hsl:=hB.nI;have gs6:=(k6 _ _ _ _ hsl hB.top Zk).trans hB.top;have ls6:=ag gs6;obtain⟨I2,hI2⟩:∃I2:Nat->Nat->Nat,I2=fun k j=>if k=n then (match j with|0=>Hx.A+4+1+1|1=>Hx.A|2=>Hx.A+1|3=>Hx.A+2|4=>Hx.A+3|_=>Hx.A+4+1) else I k j:=⟨_,rfl⟩
 have hIo:∀k j,k≠n->I2 k j=I k j:=fun k j h=>by rw[hI2];simp only;rw[UW h]
 have hIn:∀j,I2 n j=(match j with|0=>Hx.A+4+1+1|1=>Hx.A|2=>Hx.A+1|3=>Hx.A+2|4=>Hx.A+3|_=>Hx.A+4+1):=fun j=>by rw[hI2];exact UX rfl
 have hInr:∀j,Hx.A<=I2 n j/\I2 n j<Hx.A+7:=fun j=>by rw[hIn];split<;>omega
 clear hI2;have lvL:∀i,Hx.A<=i->∀g m,lvh≠.U i g 0 m 1:=fun i hi g m hv=>by
  rcases hB.lv with ⟨h1,_⟩|⟨i2,g2,_,h2,h3,_⟩
  ·rw[h1]at hv;cases hv
  ·rw[h3]at hv;have:=(Zo.U.inj hv).1;omega
 have new6:∀i,Hx.A<=i->i<H5.A->H6.get i=H5.get i:=fun i h1 h2=>hp6 i h2 (lvL i h1);obtain⟨H7,hH7⟩:∃H7,H7=H6.upd H1.A (.J 0 184 [.lit (.int .i64 d.nl),.Q d.C.length (aH d.C),.lit (.int .u64 (d.X:Int)),.Q d.Y.length (bB d.Y),lv2,af (eh d),af (dN d),.lit (.int .i64 0)]):=⟨_,rfl⟩
 have n7:H7.A=H6.A:=by rw[hH7,aP]
 have o7:∀i,i≠H1.A->H7.get i=H6.get i:=fun i h=>by rw[hH7,ah,UW h]
 have g7:H7.get H1.A=some (.J 0 184 [.lit (.int .i64 d.nl),.Q d.C.length (aH d.C),.lit (.int .u64 (d.X:Int)),.Q d.Y.length (bB d.Y),lv2,af (eh d),af (dN d),.lit (.int .i64 0)]):=by rw[hH7,ah,UX rfl]
 have old7:∀k j g e c,k<n->j<6->Hx.get (I k j)=some (.J g e c)->e≠187->H7.get (I k j)=Hx.get (I k j):=fun k j g e c h1 h2 h3 h4=>by
  rw[o7 _ fun e=>hB.sep k j h1 h2 e.symm];exact k6 _ _ _ _ (hB.nk.nq k j h1 h2).2 h3 h4
 have new7:∀i,Hx.A<=i->i<H5.A->H7.get i=H5.get i:=fun i h1 h2=>by rw[o7 i V];exact new6 i h1 h2
 have Az:∀k j,1<=j->∃g e c,dM (iT (ay d r) (pX (ay d r)) (iS (ay d r)) 0) k j=.J g e c/\e≠187:=fun k j hj=>by
  match j,hj with
  |1,_=>exact⟨_,_,_,rfl,Zk⟩
  |2,_=>exact⟨_,_,_,rfl,Zk⟩
  |3,_=>exact⟨_,_,_,rfl,Zk⟩
  |4,_=>exact⟨_,_,_,rfl,Zk⟩
  |(j+5),_=>exact⟨_,_,_,rfl,Zk⟩
 have z0:∀m:Nat,ints (List.replicate m 0)=List.replicate m (.lit (.int .i64 0)):=fun m=>by simp[ints,aa]
 have levs7:Z5 (ay d r) r H3.A (n+1) I2 (iT (ay d r) (pX (ay d r)) (iS (ay d r)) 0) H7:=by
  refine⟨fun k j k' j' h1 h2 h3 h4 he=>?_,fun k j h1 h2=>?_,fun k h1=>?_,fun k j h1 h2 h3=>?_,FT (fun k _=>by simp[pX]) (fun k _=>by simp[iS]) 0⟩
  ·by_cases a1:k=n
   ·by_cases a2:k'=n
    ·refine⟨V,?_⟩;rw[a1,a2,hIn,hIn]at he
     match j,h3,j',h4 with
     |0,_,0,_=>rfl
     |0,_,1,_=>exact absurd he (by simp only;omega)
     |0,_,2,_=>exact absurd he (by simp only;omega)
     |0,_,3,_=>exact absurd he (by simp only;omega)
     |0,_,4,_=>exact absurd he (by simp only;omega)
     |0,_,5,_=>exact absurd he (by simp only;omega)
     |1,_,0,_=>exact absurd he (by simp only;omega)
     |1,_,1,_=>rfl
     |1,_,2,_=>exact absurd he (by simp only;omega)
     |1,_,3,_=>exact absurd he (by simp only;omega)
     |1,_,4,_=>exact absurd he (by simp only;omega)
     |1,_,5,_=>exact absurd he (by simp only;omega)
     |2,_,0,_=>exact absurd he (by simp only;omega)
     |2,_,1,_=>exact absurd he (by simp only;omega)
     |2,_,2,_=>rfl
     |2,_,3,_=>exact absurd he (by simp only;omega)
     |2,_,4,_=>exact absurd he (by simp only;omega)
     |2,_,5,_=>exact absurd he (by simp only;omega)
     |3,_,0,_=>exact absurd he (by simp only;omega)
     |3,_,1,_=>exact absurd he (by simp only;omega)
     |3,_,2,_=>exact absurd he (by simp only;omega)
     |3,_,3,_=>rfl
     |3,_,4,_=>exact absurd he (by simp only;omega)
     |3,_,5,_=>exact absurd he (by simp only;omega)
     |4,_,0,_=>exact absurd he (by simp only;omega)
     |4,_,1,_=>exact absurd he (by simp only;omega)
     |4,_,2,_=>exact absurd he (by simp only;omega)
     |4,_,3,_=>exact absurd he (by simp only;omega)
     |4,_,4,_=>rfl
     |4,_,5,_=>exact absurd he (by simp only;omega)
     |5,_,0,_=>exact absurd he (by simp only;omega)
     |5,_,1,_=>exact absurd he (by simp only;omega)
     |5,_,2,_=>exact absurd he (by simp only;omega)
     |5,_,3,_=>exact absurd he (by simp only;omega)
     |5,_,4,_=>exact absurd he (by simp only;omega)
     |5,_,5,_=>rfl
    ·rw[a1,hIo k' j' a2]at he;have:=(hB.nk.nq k' j' V h4).2;have:=hInr j;omega
   ·by_cases a2:k'=n
    ·rw[a2,hIo k j a1]at he;have:=(hB.nk.nq k j V h3).2;have:=hInr j';omega
    ·rw[hIo k j a1,hIo k' j' a2]at he;exact hB.nk.inj k j k' j' V V h3 h4 he
  ·by_cases a1:k=n
   ·rw[a1];have:=hInr j;have:=hB.nI;omega
   ·rw[hIo k j a1];have:=hB.nk.nq k j V h2;omega
  ·by_cases a1:k=n
   ·rw[a1,hIn];simp only;rw[new7 _ V V,b6];unfold mo;rw[hvd,<- hD,<- hcN,<- hcD,<- hcE,hIn,hIn,hIn,hIn,hIn];rfl
   ·rw[hIo k 0 a1,old7 k 0 _ _ _ V V (hB.nk.nJ k V) Zk,hB.nk.nJ k V];unfold mo;rw[hIo k 1 a1,hIo k 2 a1,hIo k 3 a1,hIo k 4 a1,hIo k 5 a1]
  ·by_cases a1:k=n
   ·rw[a1,hIn]
    match j,h2,h3 with
    |1,_,_ =>
     show H7.get Hx.A=some (.J 0 _ (ints (List.replicate ((ay d r).cs n) 0)));rw[new7 _ V V,o5.nc _ V,b0,z0,<- hD,<- hcN]
    |2,_,_ =>
     show H7.get (Hx.A+1)=some (.J 0 _ (gi (List.replicate ((ay d r).cs n) false)));rw[new7 _ V V,o5.nc _ V,b1,<- hD,<- hcN];simp[gi]
    |3,_,_ =>
     show H7.get (Hx.A+2)=some (.J 0 _ (ints (List.replicate ((ay d r).cs n*(ay d r).cd n) 0)));rw[new7 _ V V,o5.nc _ V,b2,z0,<- hD,<- hcN,<- hcD,<- hcE]
    |4,_,_ =>
     show H7.get (Hx.A+3)=some (.J 0 _ (ints (List.replicate ((ay d r).cs n) 0)));rw[new7 _ V V,o5.nc _ V,b3,z0,<- hD,<- hcN]
    |5,_,_ =>
     show H7.get (Hx.A+4+1)=some (.J 0 _ (ints (List.replicate ((ay d r).cs n) (-1))));rw[new7 _ V V,b5,<- hD,<- hcN]
   ·have h9:=hB.nk.nH k j V h2 h3;obtain⟨g,e,c,h8,h7⟩:=Az k j h2;rw[hIo k j a1,old7 k j g e c V h3 (by rw[h9,h8]) h7,h9]
 have hpt:lH I2 (n+1)=lH I n++[.O (Hx.A+4+1+1) 0 0]:=by
  unfold lH;rw[VH,VQ];congr 1
  ·exact Vn fun k hk=>by rw[hIo k 0 (by have:=U9.1 hk;omega)]
  ·simp only[List.map_cons,List.map_nil];rw[hIn];rfl
 have hB7:BldH d r H3.A H1.A (n+1) lv2 I2 H7:=by
  refine⟨g7,V,?_,fun k j h1 h2=>?_,fun id g m hv=>?_,levs7,fun h=>absurd h (Nat.succ_ne_zero n)⟩
  ·rw[hpt];refine oP.ng Zm V fun i g _ _ h3 _=>o7 i ?_;rintro rfl;rw[gs6]at h3;cases h3
  ·by_cases a1:k=n
   ·rw[a1];have:=hInr j;omega
   ·rw[hIo k j a1];exact hB.sep k j V h2
  ·have hid:H6.get id=some (.J g 187 (lH I n++[.O (Hx.A+4+1+1) 0 0])):=by
    rcases oP with ⟨h1,_⟩|⟨i2,g2,_,_,h3,h4⟩
    ·rw[h1]at hv;cases hv
    ·rw[h3]at hv;obtain⟨e1,e2,_⟩:=Zo.U.inj hv;rw[<- e1,<- e2];exact h4
   have hid7:id≠H1.A:=by
    rintro rfl;rw[gs6]at hid;cases hid
   refine⟨hid7,fun k j h1 h2 he=>?_⟩;have h9:=(o7 id hid7).trans hid;rw[he]at h9
   match j,h2 with
   |0,_ =>
    rw[levs7.nJ k h1]at h9;cases h9
   |(j+1),h2 =>
    rw[levs7.nH k (j+1) h1 V h2]at h9;obtain⟨g3,e3,c3,h8,h7⟩:=Az k (j+1) V;rw[h8]at h9;cases h9;exact h7 rfl
 have wn:=UU ((n:Int)+1) V;have key:H3.A<=H7.A/\(∃(n_1:Nat) (lvh:Zo) (I:Nat->Nat->Nat),Zo.lit (.int .i64 ((n:Int)+1))=Zo.lit (.int .i64 (n_1:Int))/\n_1<=r.length/\H3.A<=H7.A/\(∀(i:Nat),i<H3.A->¬i=H1.A->H7.get i=H3.get i)/\BldH d r H3.A H1.A n_1 lvh I H7)/\r.length-((n:Int)+1).toNat<r.length-(iv (ρ 38)).toNat:=by
  refine⟨V,⟨n+1,lv2,I2,rfl,V,V,fun i h1 h2=>?_,hB7⟩,by rw[h38];simp only[aa,bh];omega⟩;rw[o7 i h2,hp6 i V (hB.lv.ne h1),o5.nc i V,o4.nc i V,hout i h1 h2]
 rcases hB.lv with ⟨hv0,hv1⟩|⟨i3,g3',q1',q2',hv0,hv1⟩
 ·refine⟨by repeat' (first|refine And.intro ?_ ?_|(intro x hx;omega)),by repeat' (first|refine And.intro ?_ ?_|(intro x hx;omega)),by repeat' (first|refine And.intro ?_ ?_|(intro x hx;omega)),?_⟩;rw[hv0]at hA3;simp only[go_sem,hv0,Ci,hA3,ls6,lv21,lv2c];refine⟨fun x hx=>V,?_⟩;refine W.vs ?_;simp only[go_sem,s38,wn];rw[hH7]at key;exact key
 ·rw[pW]at hv0;refine⟨by repeat' (first|refine And.intro ?_ ?_|(intro x hx;omega)),by repeat' (first|refine And.intro ?_ ?_|(intro x hx;omega)),by repeat' (first|refine And.intro ?_ ?_|(intro x hx;omega)),?_⟩;rw[hv0]at hA3;simp only[go_sem,hv0,Ci,hA3,ls6,lv21,lv2c];refine⟨fun x hx=>V,?_⟩;refine W.vs ?_;simp only[go_sem,s38,wn];rw[hH7]at key;exact key
def jZ (D:Zx)(T:Zz)(k m:Nat)(bad:List Bool):Nat->List Bool
 |0=>List.replicate m false
 |n+1=>if ((T.oc k).getD n false && !rO (D.cd k) n (T.ex k) (T.be k) (T.ch k) bad)=true then (jZ D T k m bad n).set ((T.ab k).getD n 0).toNat true else jZ D T k m bad n
def FJ (D:Zx)(T:Zz)(k m:Nat)(bad:List Bool)(n:Nat):(jZ D T k m bad n).length=m:=by
 induction n with
 |zero=>simp[jZ]
 |succ n ih=>unfold jZ;split<;>simp[ih]
variable {T:Zz}
def FK {bad:List Bool}(b:Nat)(hb:b<m):∀n,((jZ D T k m bad n).getD b false=true↔∃c,c<n/\((T.ab k).getD c 0).toNat=b/\(T.oc k).getD c false=true/\rO (D.cd k) c (T.ex k) (T.be k) (T.ch k) bad=false):=by
 intro n
 induction n with
 |zero=>simp[jZ,UZ,Wn,hb]
 |succ n ih =>
  unfold jZ;by_cases h:((T.oc k).getD n false && !rO (D.cd k) n (T.ex k) (T.be k) (T.ch k) bad)=true
  ·rw[UX h];simp only[Vr,W9]at h;by_cases e:((T.ab k).getD n 0).toNat=b
   ·constructor
    ·intro _;exact⟨n,V,e,h.1,h.2⟩
    ·intro _;rw[UZ,e,Vi (by rw[FJ];exact hb)];rfl
   ·rw[UZ,Vw e,<- UZ,ih];constructor
    ·rintro⟨c,h1,h2⟩;exact⟨c,V,h2⟩
    ·rintro⟨c,h1,h2,h3⟩;refine⟨c,?_,h2,h3⟩;rcases WY (XG h1) with h4|h4
     ·exact h4
     ·rw[h4]at h2;exact absurd h2 e
  ·rw[UW h,ih];constructor
   ·rintro⟨c,h1,h2⟩;exact⟨c,V,h2⟩
   ·rintro⟨c,h1,h2,h3,h4⟩;refine⟨c,?_,h2,h3,h4⟩;rcases WY (XG h1) with h5|h5
    ·exact h5
    ·subst h5;exact absurd (by rw[h3,h4];rfl) h
def mq (D:Zx)(T:Zz):Nat->Nat->List Bool
 |0,k=>List.replicate (D.cs k*D.cd k) false
 |n+1,k=>jZ D T (k+1) (D.cs k*D.cd k) (mq D T n (k+1)) (D.cs (k+1))
def kK (T:Zz):Ch:=fun k c=>if (T.ch k).getD c 0=-1 then none else some ((T.ch k).getD c 0).toNat
def lK (T:Zz)(tot:Int):ZF where
 ny k c:=((T.ab k).getD c 0).toNat
 nM k c:=(T.oc k).getD c false
 E k b:=(T.ex k).getD b 0
 B k c:=(T.be k).getD c 0
 T:=tot
structure Zz.Rng (D:Zx)(T:Zz):Prop where
 ab:∀k c,0<k->k<D.K->c<D.cs k->0<=(T.ab k).getD c 0/\((T.ab k).getD c 0).toNat<D.cs (k-1)*D.cd (k-1)
 ch:∀k c,k<D.K->c<D.cs k->(T.ch k).getD c 0=-1\/0<=(T.ch k).getD c 0
def FL (hR:T.Rng D):∀(n k:Nat),k+1+n=D.K->∀c,c<D.cs k->rO (D.cd k) c (T.ex k) (T.be k) (T.ch k) (mq D T n k)=kD D (lK T tot) (kK T) (n+1) k c:=by
 intro n
 induction n with
 |zero =>
  intro k hk c hc;rw[Wk];rw[rC];unfold rO ic;rw[XQ];have hm:=hR.ch k c V hc;constructor
  ·rintro⟨x,hx,h⟩;simp only[Vr,Vu,decide_eq_true_eq]at h;refine⟨x,U9.1 hx,h.1.1,fun c' _ _ _=>rfl,fun y hy=>?_⟩;unfold kK at hy;split at hy
   ·cases hy
   ·rename_i h9;rcases h.2 with h2|h2
    ·exact absurd h2 h9
    ·cases hy;omega
  ·rintro⟨x,hx,h1,_,h3⟩;refine⟨x,U9.2 hx,?_⟩;simp only[Vr,Vu,decide_eq_true_eq];refine⟨⟨h1,?_⟩,?_⟩
   ·unfold mq;rw[UZ,Wn];split<;>rfl
   ·by_cases h9:(T.ch k).getD c 0=-1
    ·exact .inl h9
    ·right;have:=h3 _ (UW h9);omega
 |succ n ih =>
  intro k hk c hc;rw[Wk];rw[rC];unfold rO ic;rw[XQ];have hm:=hR.ch k c V hc;have hbd:∀x,x<D.cd k->((mq D T (n+1) k).getD (c*D.cd k+x) false=true↔∃c',c'<D.cs (k+1)/\(lK T tot).ny (k+1) c'=c*D.cd k+x/\(lK T tot).nM (k+1) c'=true/\kD D (lK T tot) (kK T) (n+1) (k+1) c'=false):=fun x hx=>by
   have hlt:c*D.cd k+x<D.cs k*D.cd k:=by
    have h3:(c+1)*D.cd k<=D.cs k*D.cd k:=Vv _ hc;rw[VD,Xe]at h3;omega
   unfold mq;rw[FK _ hlt];constructor
   ·rintro⟨c',h1,h2,h3,h4⟩;exact⟨c',h1,h2,h3,by rw[<- ih (k+1) V c' h1];exact h4⟩
   ·rintro⟨c',h1,h2,h3,h4⟩;exact⟨c',h1,h2,h3,by rw[ih (k+1) V c' h1];exact h4⟩
  constructor
  ·rintro⟨x,hx,h⟩;simp only[Vr,Vu,decide_eq_true_eq,W9]at h;have hx':=U9.1 hx;refine⟨x,hx',h.1.1,fun c' h1 h2 h3=>?_,fun y hy=>?_⟩
   ·cases hal:kD D (lK T tot) (kK T) (n+1) (k+1) c' with
    |true=>rfl
    |false =>
     have:=(hbd x hx').2 ⟨c',h1,h2,h3,hal⟩;rw[h.1.2]at this;cases this
   ·unfold kK at hy;split at hy
    ·cases hy
    ·rename_i h9;rcases h.2 with h2|h2
     ·exact absurd h2 h9
     ·cases hy;omega
  ·rintro⟨x,hx,h1,h2,h3⟩;refine⟨x,U9.2 hx,?_⟩;simp only[Vr,Vu,decide_eq_true_eq,W9];refine⟨⟨h1,?_⟩,?_⟩
   ·rw[<- WW];intro h;obtain⟨c',a1,a2,a3,a4⟩:=(hbd x hx).1 h;rw[h2 c' a1 a2 a3]at a4;cases a4
   ·by_cases h9:(T.ch k).getD c 0=-1
    ·exact .inl h9
    ·right;have:=h3 _ (UW h9);omega
def As (D:Zx)(T:Zz):Bool:=if D.K=0 then true else !(jZ D T 0 1 (mq D T (D.K-1) 0) (D.cs 0)).contains true
def Tp (hR:T.Rng D)(h0:∀c,c<D.cs 0->((T.ab 0).getD c 0).toNat=0):As D T=true↔jW D (lK T tot) (kK T):=by
 unfold As jW;by_cases hK:D.K=0
 ·rw[UX hK];exact⟨fun _ h=>V,fun _=>rfl⟩
 rw[UW hK];have hmem:(jZ D T 0 1 (mq D T (D.K-1) 0) (D.cs 0)).contains true=true↔(jZ D T 0 1 (mq D T (D.K-1) 0) (D.cs 0)).getD 0 false=true:=by
  have hl:=FJ D T 0 1 (mq D T (D.K-1) 0) (D.cs 0)
  match hsp:jZ D T 0 1 (mq D T (D.K-1) 0) (D.cs 0),hl with
  | [a],_=>cases a<;>simp
 rw[W9,<- WW,hmem,FK 0 V];constructor
 ·intro h _ c hc ho;cases hal:kD D (lK T tot) (kK T) D.K 0 c with
  |true=>rfl
  |false =>
   refine absurd ⟨c,hc,h0 c hc,ho,?_⟩ h;rw[FL (tot:=tot) hR (D.K-1) 0 V c hc,show D.K-1+1=D.K by omega];exact hal
 ·rintro h ⟨c,h1,_,h3,h4⟩;have:=h V c h1 h3;rw[FL (tot:=tot) hR (D.K-1) 0 V c h1,show D.K-1+1=D.K by omega]at h4;rw[this]at h4;cases h4
def lL (T:Zz)(k c:Nat)(x:Nat):Zz:={ T with ch:=fC T.ch k ((T.ch k).set c (x:Int)) }
def tP (D:Zx)(T:Zz)(k c:Nat):Nat:=jE (fun x=>As D (lL T k c x)) (D.cd k-1) 0
def tQ (D:Zx)(T:Zz)(k:Nat):Nat->Zz
 |0=>T
 |n+1=>lL (tQ D T k n) k n (tP D (tQ D T k n) k n)
def FM (T:Zz)(k c x k' c':Nat)(hc:c<(T.ch k).length):((lL T k c x).ch k').getD c' 0=if k'=k/\c'=c then (x:Int) else (T.ch k').getD c' 0:=by
 unfold lL;simp only;by_cases e:k'=k
 ·subst e;rw[lI,nk _ _ _ _ _ hc];by_cases e2:c=c'
  ·rw[UX e2,UX ⟨rfl,e2.symm⟩]
  ·rw[UW e2,UW fun h=>e2 h.2.symm]
 ·rw[lJ e,UW fun h=>e h.1]
def FN {x:Nat}(hc:c<(T.ch k).length):kK (lL T k c x)=kG (kK T) k c x:=by
 funext k' c'
 unfold kK;rw[FM _ _ _ _ _ _ hc];by_cases h:k'=k/\c'=c
 ·rw[UX h,h.1,h.2,np,UW V];simp
 ·rw[UW h,nr h]
def FO (hR:T.Rng D){x:Nat}(hc:c<(T.ch k).length):(lL T k c x).Rng D :=
 ⟨hR.ab,fun k' c' h1 h2=>by
  rw[FM _ _ _ _ _ _ hc];split
  ·right;omega
  ·exact hR.ch k' c' h1 h2⟩
def Tq {n:Nat}(hl:T.Len D n)(k c x:Nat):(lL T k c x).Len D n :=
 ⟨hl.ab,hl.oc,hl.ex,hl.be,fun k' h=>by
  unfold lL;simp only;by_cases e:k'=k
  ·rw[e,lI,Vm,<- e];exact hl.ch k' h
  ·rw[lJ e];exact hl.ch k' h⟩
def FQ {f g:Nat->Bool}:∀n x,(∀y,x<=y->y<x+n->f y=g y)->jE f n x=jE g n x:=by
 intro n
 induction n with
 |zero=>intro x _;rfl
 |succ n ih =>
  intro x h;unfold jE;rw[h x Zm V,ih (x+1) fun y h1 h2=>h y V V]
def Tr (hR:T.Rng D)(h0:∀c,c<D.cs 0->((T.ab 0).getD c 0).toNat=0)(hc:c<(T.ch k).length):tP D T k c=iR D (lK T tot) (kK T) k c:=by
 unfold tP iR;refine FQ _ _ fun y _ _=>?_;have h1:=Tp (D:=D) (T:=lL T k c y) (tot:=tot) (FO hR hc) h0;rw[FN hc]at h1;have h2:lK (lL T k c y) tot=lK T tot:=rfl;rw[h2]at h1;rw[Wk,h1,tI]
end Go.Proofs
