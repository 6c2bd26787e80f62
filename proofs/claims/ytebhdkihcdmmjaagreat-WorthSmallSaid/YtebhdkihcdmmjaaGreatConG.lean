/- Own work: contracts. -/
import Derived.Test.YtebhdkihcdmmjaaGreatConF
import Derived.Test.YtebhdkihcdmmjaaGreatConB
import Derived.Test.YtebhdkihcdmmjaaGreatConE
import Derived.Test.YtebhdkihcdmmjaaGreatLibB
import Derived.Test.YtebhdkihcdmmjaaGreatConC
set_option linter.all false
set_option maxHeartbeats 8000000
set_option maxRecDepth 100000
namespace Go.Proofs
open Go.Hx Tryz
variable {tot:Int}{l:List Int}{r:List Nat}{a k n w:Nat}{be ch:Nat->List Int}{I:Nat->Nat->Nat}{H:ZH}{lvh:ZI}{d:ZK}{D:ZR}{T:ZT}
def TM {i g o:Nat}{e:TypeId}{cells:List ZI}(hg:H.get i=some (.J g e cells))(hn:n=l.length)(h0:l≠[])(hl:(l.length:Int)<2 ^ 62)(hx:∀j (h:j<l.length),cells[o+j]?=some (aa l[j])):
  ae prog G0 150 [.U i g o n 1] H fun r H'=>r=.ret (aa (iG l))/\H'=H :=
 ae.frame (args':=[af l]) aF rfl (fun j hj _=>match j,hj with|0,_=>Fz.ints trivial hg hn hx) (Uj l h0 hl cR _ ⟨_,rfl,.lit _⟩)
def fH (a:List Int)(l:List Int):Nat->List Int
 |0=>l
 |n+1=>(fH a l n).set n (a.getD n 0)
def nH (a l:List Int)(n:Nat):(fH a l n).length=l.length:=by
 induction n with
 |zero=>rfl
 |succ n ih=>unfold fH;rw[VE,ih]
def F7 {a:List Int}(n i:Nat)(hi:i<l.length):(fH a l n).getD i 0=if i<n then a.getD i 0 else l.getD i 0:=by
 induction n with
 |zero=>rfl
 |succ n ih =>
  unfold fH;by_cases hn:n<l.length
  ·rw[nt _ _ _ _ _ (by rw[nH];exact hn),ih];by_cases h:n=i
   ·subst h;rw[Vf rfl,Vf V]
   ·rw[Ve h];by_cases h2:i<n
    ·rw[Vf h2,Vf V]
    ·rw[Ve h2,Ve V]
  ·rw[List.set_eq_of_length_le (by rw[nH];omega),ih,Vf V,Vf V]
def TN {a:List Int}(h:a.length=l.length):fH a l l.length=a:=by
 apply V2;intro i;by_cases hi:i<l.length
 ·have h1:=F7 (a:=a) l.length i hi;rw[Vf hi]at h1;obtain⟨x,hx⟩:=ay (l:=fH a l l.length) (i:=i) (by rw[nH];exact hi);obtain⟨y,hy⟩:=ay (l:=a) (i:=i) V;rw[kJ hx,kJ hy]at h1;rw[hx,hy,h1]
 ·rw[Vm (by rw[nH];omega),Vm V]
def cw (D:ZR)(T:ZT)(k:Nat):List Int:=kF (D.cs k) (D.cd k) (T.ex k)
def iJ (D:ZR)(T:ZT)(k n:Nat):ZT:={ T with be:=fG T.be k (fH (cw D T k) (T.be k) n),ex:=if 0<k then fG T.ex (k-1) (dS (T.ab k) (cw D T k) n (T.ex (k-1))) else T.ex }
def tW (D:ZR)(T:ZT)(k:Nat):ZT:={ T with be:=fG T.be k (cw D T k),ex:=if 0<k then fG T.ex (k-1) (dS (T.ab k) (cw D T k) (D.cs k) (T.ex (k-1))) else T.ex }
def gS (D:ZR)(T:ZT)(k n:Nat)(tot:Int):Int:=if 0<k then tot else tot+SS n fun c=>(cw D T k).getD c 0
def nI (r:List Nat)(s:Nat)(I:Nat->Nat->Nat)(H H':ZH):Prop:=∀i,i≠s->(∀k j,k<r.length->j<6->i≠I k j)->H'.get i=H.get i
def TO (hl:T.Len D n)(hk:k<n):iJ D T k (D.cs k)=tW D T k:=by
 unfold iJ tW;have:fH (cw D T k) (T.be k) (D.cs k)=cw D T k:=by
  rw[<- hl.be k hk];exact TN (by unfold cw;rw[Fp];exact(hl.be k hk).symm)
 rw[this]
def AD {m:Nat}(hl:T.Len D n):(iJ D T k m).Len D n:=by
 refine⟨hl.ab,hl.oc,fun k' hk=>?_,fun k' hk=>?_,hl.ch⟩
 ·unfold iJ;simp only;split
  ·by_cases e:k'=k-1
   ·rw[e,lK,tK];rw[<- e];exact hl.ex k' hk
   ·rw[lL e];exact hl.ex k' hk
  ·exact hl.ex k' hk
 ·unfold iJ;simp only;by_cases e:k'=k
  ·rw[e,lK,nH];rw[<- e];exact hl.be k' hk
  ·rw[lL e];exact hl.be k' hk
def oO (D:ZR)(T:ZT)(k n:Nat):ZT:={ iJ D T k n with be:=fG T.be k (fH (cw D T k) (T.be k) (n+1)) }
def TP {m:Nat}(hl:T.Len D n):(oO D T k m).Len D n:=by
 have h1:=AD (k:=k) (m:=m) hl;exact⟨h1.ab,h1.oc,h1.ex,(AD (k:=k) (m:=m+1) hl).be,h1.ch⟩
def TQ (D:ZR)(T:ZT)(k:Nat):iJ D T k 0=T:=by
 have h1:fG T.be k (T.be k)=T.be:=by funext k';unfold fG;split;{ rename_i e;rw[e] };rfl
 have h2:∀f:Nat->List Int,fG f (k-1) (f (k-1))=f:=fun f=>by funext k';unfold fG;split;{ rename_i e;rw[e] };rfl
 unfold iJ;simp only[fH];rw[h1];have h3:(if 0<k then fG T.ex (k-1) (dS (T.ab k) (cw D T k) 0 (T.ex (k-1))) else T.ex)=T.ex:=by
  split
  ·exact h2 T.ex
  ·rfl
 rw[h3]
def TS {lo s:Nat}(hrl:r.length<=64)(hk:k<r.length)(hsz:(az d r).cs k*(az d r).cd k<2 ^ 40)(hcd:1<=(az d r).cd k)(hcd2:(az d r).cd k<2 ^ 40)(hcs2:(az d r).cs k<2 ^ 40)
  (hab:0<k->∀c,c<(az d r).cs k->0<=(T.ab k).getD c 0/\(T.ab k).getD c 0<((az d r).cs (k-1)*(az d r).cd (k-1):Nat))
  (hb1:0<k->∀n,n<(az d r).cs k->-9223372036854775808<=(dS (T.ab k) (cw (az d r) T k) n (T.ex (k-1))).getD ((T.ab k).getD n 0).toNat 0+(cw (az d r) T k).getD n 0/\(dS (T.ab k) (cw (az d r) T k) n (T.ex (k-1))).getD ((T.ab k).getD n 0).toNat 0+(cw (az d r) T k).getD n 0<=9223372036854775807)
  (hb2:k=0->∀n,n<(az d r).cs k->-9223372036854775808<=tot+(SS (n+1) fun c=>(cw (az d r) T k).getD c 0)/\tot+(SS (n+1) fun c=>(cw (az d r) T k).getD c 0)<=9223372036854775807)
  (H:ZH) (hS:ZU d r lo s lvh I T tot H) (K:ZN->ZH->Prop)
  (hK:∀H',H'.A=H.A->nI r s I H H'->ZU d r lo s lvh I (tW (az d r) T k) (gS (az d r) T k ((az d r).cs k) tot) H'->K (.ret (.nc [])) H'):
  ae prog G0 116 [.O s 0 0,aa k] H K:=by
 obtain⟨D,hD⟩:∃D,D=az d r:=⟨_,rfl⟩
 rw[<- hD]at hsz hcd hcd2 hcs2 hab hb1 hb2 hK;obtain⟨il,gl,hlv,glv,_,_⟩:=hS.Az hk;have lso:=ah hS.top;have llv:=ah glv;have l0:=ah (hS.nj.nJ k hk);rw[<- hD]at l0;have l4:=ah (hS.nj.nG k 4 hk V V);simp only[dN,mz]at l0 l4;have hpk:=Ay (I:=I) hk;have hpn:=bd hpk;have hpl:=pZ I r.length;have hki:(k:Int)<r.length:=V
 have hbe4:=hS.nj.len.be k hk;rw[<- hD]at hbe4;refine ae.sw (n:=92) (rs:=[]) func116 ?_;refine W.sq ?_;simp only[go_sem,lso,hlv,llv,hpk,hki];refine W.sq ?_;simp only[go_sem,l0,l4];refine W.en (fun E=>E 0=.O s 0 0 /\ E 1=aa k /\ E 4=.O (I k 0) 0 0 /\ E 17=aa (D.cs k) /\ E 18=aa 0) (by simp only[go_sem]) fun E ⟨e0,e1,e4,e17,e18⟩=>?_
 refine W.block ?_;refine W.aT 4951760157141521099596234784 (by rfl) (fun ρ Hx=>∃c:Nat,ρ 18=aa c/\c<=D.cs k/\Hx.A=H.A/\nI r s I H Hx/\ZU d r lo s lvh I (iJ D T k c) (gS D T k c tot) Hx) (fun ρ Hx=>D.cs k-(iv (ρ 18)).toNat) ?_ ?_
 ·simp only[go_sem,e18];refine⟨0,rfl,V,fun _ _ _=>rfl,?_⟩;have:gS D T k 0 tot=tot:=by unfold gS;split<;>simp[pI]
  rw[TQ,this];exact hS
 rintro ρ Hx ⟨c,h18,hc,nx,hout,hSx⟩;refine W.en (fun E1=>E1 0=.O s 0 0 /\ E1 1=aa k /\ E1 4=.O (I k 0) 0 0 /\ E1 17=aa (D.cs k) /\ E1 18=aa c) (by simp only[go_sem,e0,e1,e4,e17,h18]) fun E1 ⟨f0,f1,f4,f17,f18⟩=>?_
 by_cases hb:(c:Int)<D.cs k;rotate_left
 ·refine W.vs ?_;simp only[go_sem,f17,f18,hb];have hcc:c=D.cs k:=V
  have hle:=hS.nj.len;rw[<- hD]at hle;rw[hcc,TO hle hk]at hSx;exact ak.mk V (hK Hx nx hout hSx)
 refine W.sq ?_;simp only[go_sem,f17,f18,hb];refine W.sq ?_;simp only[go_sem];refine W.seq (W.block ?_);refine W.sq ?_;simp only[go_sem,f18]
  -- the greatest of the case's branches
 have lx0:=ah (hSx.nj.nJ k hk);rw[<- hD]at lx0;have g3:=hSx.nj.nG k 3 hk V V;have g4:=hSx.nj.nG k 4 hk V V;have lx3:=ah g3;have lx4:=ah g4;have hle:=hSx.nj.len;rw[<- hD]at hle;have hex:(iJ D T k c).ex k=T.ex k:=by
  unfold iJ;simp only;split
  ·rw[lL V]
  ·rfl
 have hbe:(iJ D T k c).be k=fH (cw D T k) (T.be k) c:=lK ..;simp only[dN,mz,hex,hbe]at lx0 lx3 lx4 g3;have hexl:=hle.ex k hk;rw[hex]at hexl;have hbr:(c+1)*D.cd k<=D.cs k*D.cd k:=VH _ V;have hbr2:c*D.cd k+D.cd k=(c+1)*D.cd k:=by rw[VU,Xt]
 obtain⟨part,hpart⟩:∃p,p=jk (D.cd k) c (T.ex k):=⟨_,rfl⟩
 have hprl:part.length=D.cd k:=by rw[hpart];unfold jk;rw[Vr,V4];omega
 have hpr0:part≠[]:=fun h=>by rw[h]at hprl;simp at hprl;omega
 have hprg:∀j (h:j<part.length),(ints (T.ex k))[c*D.cd k+j]?=some (aa part[j]):=fun j hj=>by
  have h1:(jk (D.cd k) c (T.ex k))[j]?=some part[j]:=by rw[<- hpart];exact Vd hj
  unfold jk at h1;rw[Vy (by rw[hprl]at hj;exact hj),Wv]at h1;rw[gY,h1];rfl
 have hmx:(cw D T k).getD c 0=iG part:=by rw[hpart];exact Ae (V)
 have i3:=(hSx.nj.np k 3 hk V).2;have ll3:(ints (T.ex k)).length=D.cs k*D.cd k:=by rw[bE];exact hexl
 have ll4:(ints (fH (cw D T k) (T.be k) c)).length=D.cs k:=by rw[bE,nH];exact hbe4
 have w1:=Vb ((c:Int)*(D.cd k:Int)) (by rw[<- WB];omega);have w2:=Vb ((c:Int)+1) V;have w3:=Vb (((c:Int)+1)*(D.cd k:Int)) (by rw[show (c:Int)+1=((c+1:Nat):Int) by omega,<- WB];omega);have q1:(c:Int)*(D.cd k:Int)=((c*D.cd k:Nat):Int):=ZD
 have q2:((c:Int)+1)*(D.cd k:Int)=(((c+1)*D.cd k:Nat):Int):=ZD
 rw[q1]at w1;rw[q2]at w3;refine W.seq ?_;refine W.dr 24 [0,1,3,7,0,0,32,96,224,0,0,1024,3072,7168,15872,0,32768,0,131072,393216,917504,2064384,4194272,8388576] mixed ?_;simp only[go_sem,f4,lx0,q1,w1,w2,q2,w3,lx3,lx4,ll4,hb];have e1':setAt (ints (fH (cw D T k) (T.be k) c)) c [.lit (.int .i64 (iG part))]=ints (fH (cw D T k) (T.be k) (c+1)):=by
  rw[iS (by rw[nH];omega)];show _=ints ((fH (cw D T k) (T.be k) c).set c ((cw D T k).getD c 0));rw[hmx]
 refine⟨V,V,aa (iG part),[I k 3],bD.mk (fun x hx=>by rw[List.mem_singleton.1 hx];exact i3) (fun H2 h2 _=>TM (h2 _ ZD |>.trans g3) (by rw[hprl];omega) hpr0 V hprg),⟨rfl,rfl,by show c+1<=_;omega⟩,?_⟩;simp only[go_sem,e1'];obtain⟨H4,hH4⟩:∃H4,H4=Hx.upd (I k 4) (.J 0 3 (ints (fH (cw D T k) (T.be k) (c+1)))):=⟨_,rfl⟩
 rw[<- hH4];have hTm:ZU d r lo s lvh I (oO D T k c) (gS D T k c tot) H4:=by
  rw[hH4];have hb4:dN (oO D T k c) k 4=.J 0 3 (ints (fH (cw D T k) (T.be k) (c+1))):=by show ZO.J 0 _ (ints (fG T.be k _ k))=_;rw[lK]
  rw[<- hb4];refine hSx.upd hk V V (fun k' j' h1 h2 h3 h4=>?_) ?_
  ·match j',h2,h3 with
   |1,_,_=>rfl
   |2,_,_=>rfl
   |3,_,_=>rfl
   |4,_,_ =>
    have:k'≠k:=fun e=>h4 ⟨e,rfl⟩;show ZO.J 0 _ (ints (fG T.be k _ k'))=ZO.J 0 _ (ints (fG T.be k _ k'));rw[lL this,lL this]
   |5,_,_=>rfl
  ·rw[<- hD];have:=hS.nj.len;rw[<- hD]at this;exact TP this
 have n4:H4.A=H.A:=by rw[hH4,aQ];exact nx
 have o4:nI r s I H H4:=fun i h1 h2=>by rw[hH4,aj,Ve (h2 k 4 hk V)];exact hout i h1 h2
 clear hH4;have ls4:=ah hTm.top;have l04:=ah (hTm.nj.nJ k hk);rw[<- hD]at l04;have l44:=ah (hTm.nj.nG k 4 hk V V);have hbe':(oO D T k c).be k=fH (cw D T k) (T.be k) (c+1):=lK ..;simp only[dN,mz,hbe']at l04 l44;obtain⟨bc,hbc⟩:∃bc,bc=(cw D T k).getD c 0:=⟨_,rfl⟩
 have gbc:(ints (fH (cw D T k) (T.be k) (c+1)))[c]?=some (aa bc):=by
  have h1:=F7 (a:=cw D T k) (l:=T.be k) (c+1) c V;rw[Vf V]at h1;obtain⟨x,hx⟩:=ay (l:=fH (cw D T k) (T.be k) (c+1)) (i:=c) (by rw[nH];omega);rw[kJ hx]at h1;rw[gY,hx,hbc,<- h1];rfl
 have nbc:=bd gbc;have ll5:(ints (fH (cw D T k) (T.be k) (c+1))).length=D.cs k:=by rw[bE,nH];exact hbe4
 refine W.en (fun E2=>E2 0=.O s 0 0 /\ E2 1=aa k /\ E2 4=.O (I k 0) 0 0 /\ E2 5=aa c /\ E2 18=aa c) (by simp only[go_sem,f0,f1,f4,f18]) fun E2 ⟨m0,m1,m4,m5,m18⟩=>?_
 have wc:=Vb ((c:Int)+1) V;by_cases hk0:0<k
 ·have hk0i:(0:Int)<k:=V
  refine W.sq ?_;simp only[go_sem,m1,hk0i];refine W.cond (t:=true) rfl ?_;have hk1:k-1<r.length:=V
  have hpk1:=Ay (I:=I) hk1;have l14:=ah (hTm.nj.nJ (k-1) hk1);rw[<- hD]at l14;have l1e:=ah (hTm.nj.nG (k-1) 3 hk1 V V);have l1a:=ah (hTm.nj.nG k 1 hk V V);have hexm:(oO D T k c).ex (k-1)=dS (T.ab k) (cw D T k) c (T.ex (k-1)):=by
   show (if 0<k then fG T.ex (k-1) _ else T.ex) (k-1)=_;rw[Vf hk0,lK]
  have habm:(oO D T k c).ab k=T.ab k:=rfl;simp only[dN,mz,hexm,habm]at l14 l1e l1a;obtain⟨il4,gl4,hlv4,glv4,_,_⟩:=hTm.Az hk;rw[hlv4]at ls4;have llv4:=ah glv4;have w5:=Vb ((k:Int)-1) V;have ek:(k:Int)-1=((k-1:Nat):Int):=V
  rw[ek]at w5;have hk1i:((k-1:Nat):Int)<r.length:=V
  have hpn4:=bd hpk1;have habl:=hS.nj.len.ab k hk;rw[<- hD]at habl;obtain⟨av,hav⟩:=ay (l:=T.ab k) (i:=c) V;have hab1:=hab hk0 c V;rw[kJ hav]at hab1;obtain⟨aN,haN⟩:=Vk hab1.1;subst haN;have gav:(ints (T.ab k))[c]?=some (aa aN):=by rw[gY,hav];rfl
  have nav:=bd gav;have lla:(ints (T.ab k)).length=D.cs k:=by rw[bE];exact habl
  have hexl1:=hS.nj.len.ex (k-1) hk1;rw[<- hD]at hexl1;have aNl:aN<(dS (T.ab k) (cw D T k) c (T.ex (k-1))).length:=by rw[tK,hexl1];omega
  obtain⟨xv,hxv⟩:=ay aNl;have gxv:(ints (dS (T.ab k) (cw D T k) c (T.ex (k-1))))[aN]?=some (aa xv):=by rw[gY,hxv];rfl
  have nxv:=bd gxv;have llx:(ints (dS (T.ab k) (cw D T k) c (T.ex (k-1)))).length=D.cs (k-1)*D.cd (k-1):=by rw[bE,tK];exact hexl1
  have hb1':=hb1 hk0 c V;have etn:((T.ab k).getD c 0).toNat=aN:=by rw[kJ hav];omega
  rw[etn,kJ hxv,<- hbc]at hb1';have w6:=Vb (xv+bc) V;have aNi:(aN:Int)<(D.cs (k-1)*D.cd (k-1):Nat):=V
  have e6:setAt (ints (dS (T.ab k) (cw D T k) c (T.ex (k-1)))) aN [.lit (.int .i64 (xv+bc))]=ints (dS (T.ab k) (cw D T k) (c+1) (T.ex (k-1))):=by
   rw[iS aNl,wy,etn,kJ hxv,hbc]
  refine W.dr 27 [0,1,3,7,0,16,63,127,255,511,1023,0,2048,6144,14336,0,63488,129024,262143,524287,0,1048576,3145728,7340032,0,32505856,66060288] mixed ?_;simp only[go_sem,m0,m1,m4,m5,ls4,ek,w5,hk1i,llv4,hpk1,l14,l04,l44,l1a,l1e,gav,gxv,llx,gbc,hb,w6,aNi,e6];refine⟨V,?_⟩;refine W.vs ?_;simp only[go_sem,m18,wc];obtain⟨H5,hH5⟩:∃H5,H5=H4.upd (I (k-1) 3) (.J 0 3 (ints (dS (T.ab k) (cw D T k) (c+1) (T.ex (k-1))))):=⟨_,rfl⟩
  rw[<- hH5];have n5:H5.A=H.A:=by rw[hH5,aQ];exact n4
  refine⟨V,⟨c+1,rfl,V,n5,fun i h1 h2=>by rw[hH5,aj,Ve (h2 (k-1) 3 hk1 V)];exact o4 i h1 h2,?_⟩,by rw[h18];simp only[aa,bf];omega⟩;have et:gS D T k (c+1) tot=gS D T k c tot:=by unfold gS;rw[Vf hk0,Vf hk0]
  have hb3:dN (iJ D T k (c+1)) (k-1) 3=.J 0 3 (ints (dS (T.ab k) (cw D T k) (c+1) (T.ex (k-1)))):=by
   show ZO.J 0 _ (ints ((if 0<k then fG T.ex (k-1) _ else T.ex) (k-1)))=_;rw[Vf hk0,lK]
  rw[et,hH5,<- hb3];refine hTm.upd hk1 V V (fun k' j' h1 h2 h3 h4=>?_) ?_
  ·match j',h2,h3 with
   |1,_,_=>rfl
   |2,_,_=>rfl
   |3,_,_ =>
    have:k'≠k-1:=fun e=>h4 ⟨e,rfl⟩;show ZO.J 0 _ (ints ((if 0<k then fG T.ex (k-1) _ else T.ex) k'))=ZO.J 0 _ (ints ((if 0<k then fG T.ex (k-1) _ else T.ex) k'));rw[Vf hk0,Vf hk0,lL this,lL this]
   |4,_,_=>rfl
   |5,_,_=>rfl
  ·rw[<- hD];have:=hS.nj.len;rw[<- hD]at this;exact AD this
 ·have hk0i:¬(0:Int)<k:=V
  have hk00:k=0:=V
  refine W.sq ?_;simp only[go_sem,m1,hk0i];refine W.cond (t:=false) rfl ?_;have hb2':=hb2 hk00 c V;have etc:gS D T k (c+1) tot=gS D T k c tot+bc:=by
   unfold gS;rw[Ve hk0,Ve hk0,ie,hbc];omega
  have hb3':gS D T k (c+1) tot=tot+(SS (c+1) fun c=>(cw D T k).getD c 0):=by unfold gS;rw[Ve hk0]
  rw[<- hb3',etc]at hb2';have w6:=Vb (gS D T k c tot+bc) V;refine W.dr 11 [0,1,3,7,0,16,48,112,0,496,1008] mixed ?_;simp only[go_sem,m0,m4,m5,ls4,l04,l44,gbc,hb,w6];refine W.vs ?_;simp only[go_sem,m18,wc];obtain⟨H5,hH5⟩:∃H5,H5=H4.upd s (.J 0 184 [.lit (.int .i64 d.nl),.Q d.C.length (aI d.C),.lit (.int .u64 (d.Y:Int)),.Q d.Z.length (bt d.Z),lvh,af (eE d),af (dO d),.lit (.int .i64 (gS D T k c tot+bc))]):=⟨_,rfl⟩
  have hbl:H5.A=H.A:=by rw[hH5,aQ];exact n4
  have hTT:oO D T k c=iJ D T k (c+1):=by
   unfold oO iJ;rw[Ve hk0,Ve hk0]
  have hS5:ZU d r lo s lvh I (iJ D T k (c+1)) (gS D T k (c+1) tot) H5:=by
   rw[hH5,<- hTT,etc];exact hTm.FX
  have hO5:nI r s I H H5:=fun i h1 h2=>by rw[hH5,aj,Ve h1];exact o4 i h1 h2
  have key:H.A<=H5.A/\(∃c_1:Nat,ZI.lit (.int .i64 ((c:Int)+1))=ZI.lit (.int .i64 (c_1:Int))/\c_1<=D.cs k/\H5.A=H.A/\nI r s I H H5/\ZU d r lo s lvh I (iJ D T k c_1) (gS D T k c_1 tot) H5)/\D.cs k-((c:Int)+1).toNat<D.cs k-(iv (ρ 18)).toNat :=
   ⟨V,⟨c+1,rfl,V,hbl,hO5,hS5⟩,by rw[h18];simp only[aa,bf];omega⟩
  rw[hH5]at key;exact key
def Gm (hok:ZP d)(h6:d.C.length<=6){vals:List Int}(hf:cM (aw d.C) vals):-18662400000000<=dm d vals/\dm d vals<=18662400000000:=by
 have hb:∀w∈iX d vals,0<=w/\w<=60:=fun w hw=>by
  obtain⟨v,hv,rfl⟩:=Vu.1 hw;exact Gi hok hf (Vp.1 hv)
 have h1:=pF (b:=60) V hb;have h2:=Eu (iX d vals).length (by rw[xe];omega);have h3:0<=cO d vals/\cO d vals<=46656000000:=⟨h1.1,Yq h1.2 h2⟩
 have h4:=AI hok.Z.2 hok.Z.1 vals;unfold dm;generalize cO d vals=w at *
 generalize cZ d.C d.Z vals=u at *
 constructor
 ·have h1:w*(-400)<=w*u:=VV h4.1 h3.1;omega
 ·have h1:w*u<=w*400:=VV h4.2 h3.1;omega
def Uv (d:ZK):List ZI:=[.lit (.int .i64 d.nl),.Q d.C.length (aI d.C),.lit (.int .u64 (d.Y:Int)),.Q d.Z.length (bt d.Z),.lit (.slice none 0 0),af (eE d),af (dO d),.lit (.int .i64 0)]
structure ExH (d:ZK)(p:List (List Int))(v0 db eb pb rb sb so:Nat)(rv:ZI)(H:ZH):Prop where
 hd:H.get db=some (lH d)
 he:H.get eb=some (.J 0 3 [.lit (.int .i64 v0)])
 hp:H.get pb=some (.J 0 74 [ba p])
 hr:H.get rb=some (.J 0 74 [rv])
 hs:H.get sb=some (.J 0 134 [.O so 0 0])
 hso:H.get so=some (.J 0 184 (Uv d))
def ExH.ng {p:List (List Int)}{v0 db eb pb rb sb so:Nat}{rv:ZI}{H':ZH}(h:ExH d p v0 db eb pb rb sb so rv H)(hk:∀id,id=db\/id=eb\/id=pb\/id=rb\/id=sb\/id=so->H'.get id=H.get id):ExH d p v0 db eb pb rb sb so rv H' :=
 ⟨(hk _ ZD).trans h.hd,(hk _ ZD).trans h.he,(hk _ ZD).trans h.hp,(hk _ ZD).trans h.hr,(hk _ ZD).trans h.hs,(hk _ ZD).trans h.hso⟩
def xf (hok:ZP d){v:Nat}{x:ZJ}(hx:d.C[v]?=some x):(cr d.C x:Int)=aD (aU d.C x)/\bZ x.F d.C.length/\iI x.F d.C.length/\fh (aU d.C x):=by
 have hxp:bZ x.F d.C.length:=by
  have:=(hok.nC.node _ (Va (jG (c:=fun _ _=>0) hx))).2;rw[(iP ..).2,ik]at this;exact this
 have ps:=oM hok.n.n1.2 hxp hok.n.L;exact⟨by have:=ps.prod;unfold cr;omega,hxp,fun q hq=>by have:=hxp.2 q hq;omega,ps⟩
def fw (w a k:Nat):Nat:=if k<a then w+1 else w
def jH (D:ZR)(be ch:Nat->List Int)(w a b c:Nat):ZT:=⟨fun k=>dq D k (fw w a k),fun k=>eC D k (fw w b k),fun k=>bC D k (fw w c k),be,ch⟩
def iV (D:ZR)(be ch:Nat->List Int)(w:Nat):ZT:=⟨fun k=>dq D k w,fun k=>eC D k w,fun k=>bC D k w,be,ch⟩
def tX (h:k<a):fw w a k=w+1:=Vf h
def wV (h:a<=k):fw w a k=w:=Ve (V)
def wW (h:k≠a):fw w (a+1) k=fw w a k:=by unfold fw;split<;>split<;>omega
def xa (n:Nat)(T T':ZT):Prop:=∀k j,k<n->dN T k j=dN T' k j
def ZU.same {lo s:Nat}{T':ZT}(h:ZU d r lo s lvh I T tot H)(ht:xa r.length T T')(hl:T'.Len (az d r) r.length):ZU d r lo s lvh I T' tot H :=
 ⟨h.top,h.nI,h.lv,h.sep,h.nK,⟨h.nj.inj,h.nj.np,h.nj.nJ,fun k j h1 h2 h3=>by rw[<- ht k j h1];exact h.nj.nG k j h1 h2 h3,hl⟩⟩
def xb (hb:∀k,k<n->(be k).length=D.cs k)(hc:∀k,k<n->(ch k).length=D.cs k)(w a b c:Nat):(jH D be ch w a b c).Len D n :=
 ⟨fun k _=>rH D k _,fun k _=>pT D k _,fun k _=>mu D k _,hb,hc⟩
def F9 (hb:∀k,k<n->(be k).length=D.cs k)(hc:∀k,k<n->(ch k).length=D.cs k)(w:Nat):(iV D be ch w).Len D n :=
 ⟨fun k _=>rH D k _,fun k _=>pT D k _,fun k _=>mu D k _,hb,hc⟩
def T5 (w n:Nat):xa n (jH D be ch w n n n) (iV D be ch (w+1)):=fun k j hk=>by
 have e:fw w n k=w+1:=tX hk;unfold dN jH iV;simp only[e]
def fj (d:ZK)(r:List Nat)(w:Nat):Int:=if r.length=0 then SS w (az d r).nt else 0
def T6 (hok:ZP d)(hr:ZX d r)(hrl:r.length<=64){lo s:Nat}(hw:w<cJ d.C)
  (hsz:∀k,k<r.length->(az d r).cs k*(az d r).cd k<2 ^ 40) (hcs:∀k,k<r.length->(az d r).cs k<2 ^ 40)
  (hbd:∀(k b:Nat),k+1=r.length->∀n,n<=cJ d.C->-4000000000000000000<=(bC (az d r) k n).getD b 0/\(bC (az d r) k n).getD b 0<=4000000000000000000) (hbt:∀n,n<=cJ d.C->-4000000000000000000<=SS n (az d r).nt/\SS n (az d r).nt<=4000000000000000000)
  (hbg:-4000000000000000000<=dm d (wv d w)/\dm d (wv d w)<=4000000000000000000)
  (N:Nat) (H:ZH) (hS:ZU d r lo s lvh I (iV (az d r) be ch w) (fj d r w) H) (hN:N<H.A) (hNs:N≠s/\∀k j,k<r.length->j<6->N≠I k j) (hNg:H.get N=some (.J 0 3 (ints (wv d w)))) (n:Nat) (hn:n=d.C.length)
  (K:ZN->ZH->Prop) (hK:∀H',H'.A=H.A->nI r s I H H'->ZU d r lo s lvh I (iV (az d r) be ch (w+1)) (fj d r (w+1)) H'->K (.ret (.nc [])) H'):
  ae prog G0 114 [.O s 0 0,aa w,.U N 0 0 n 1] H K:=by
 subst hn;obtain⟨D,hD⟩:∃D,D=az d r:=⟨_,rfl⟩
 obtain⟨vals,hvals⟩:∃vals,vals=wv d w:=⟨_,rfl⟩
 rw[<- hvals]at hNg hbg;have hfit:cM (aw d.C) vals:=by rw[hvals];exact iF hok w
 have hvl:vals.length=d.C.length:=by rw[hfit.1,eW]
 have n8:=hok.n.n1.2;have hDo:=wx hok hr.mem;rw[<- hD]at hsz hcs hbd hbt hS hK hDo;have hlb:=hS.nj.len.be;have hlc:=hS.nj.len.ch;rw[<- hD]at hlb hlc;have hpl:=pZ I r.length;have lso:=ah hS.top;have hll:iK H lvh=some (aa r.length):=by
  rcases hS.lv with ⟨h1,h2⟩|⟨id,g,_,_,h1,h2⟩
  ·have:r.length=0:=(by rw[<- hpl,h2];rfl);rw[h1,this];rfl
  ·rw[h1];unfold iK;simp[ah h2,hpl,aa]
 refine ae.sw (n:=120) (rs:=[]) func114 ?_;refine W.sq ?_;simp only[go_sem];refine W.sq ?_;simp only[go_sem,lso,hll];refine W.en (fun E=>E 0=.O s 0 0 /\ E 1=aa w /\ E 2=.U N 0 0 d.C.length 1 /\ E 6=aa 0 /\ E 13=lvh /\ E 14=aa r.length /\ E 15=aa 0) (by simp only[go_sem]) fun E ⟨e0,e1,e2,e6,e13,e14,e15⟩=>?_
 refine W.aT 1267650600228229401496703173568 (by rfl) (fun ρ Hx=>∃k:Nat,ρ 15=aa k/\k<=r.length/\ρ 6=aa (jE D k w)/\Hx.A=H.A/\nI r s I H Hx/\ZU d r lo s lvh I (jH D be ch w k k k) (fj d r w) Hx) (fun ρ Hx=>r.length-(iv (ρ 15)).toNat) ?_ ?_
 ·simp only[go_sem,e15,e6];exact⟨0,rfl,V,rfl,fun _ _ _=>rfl,hS⟩
 rintro ρ Hx ⟨k,h15,hk,h6,nx,hout,hSx⟩;refine W.en (fun E1=>E1 0=.O s 0 0 /\ E1 1=aa w /\ E1 2=.U N 0 0 d.C.length 1 /\ E1 6=aa (jE D k w) /\ E1 13=lvh /\ E1 14=aa r.length /\ E1 15=aa k) (by simp only[go_sem,e0,e1,e2,h6,e13,e14,h15]) fun E1 ⟨f0,f1,f2,f6,f13,f14,f15⟩=>?_
 by_cases hb:(k:Int)<r.length;rotate_left
 ·refine W.vs ?_;simp only[go_sem,f14,f15,hb];have hkr:k=r.length:=V
  rw[hkr]at hSx;have hS2:ZU d r lo s lvh I (iV D be ch (w+1)) (fj d r w) Hx:=hSx.same (T5 w r.length) (by rw[<- hD];exact F9 hlb hlc _);have ls2:=ah hS2.top;have hll2:iK Hx lvh=some (aa r.length):=by
   rcases hS2.lv with ⟨h1,h2⟩|⟨id,g,_,_,h1,h2⟩
   ·have:r.length=0:=(by rw[<- hpl,h2];rfl);rw[h1,this];rfl
   ·rw[h1];unfold iK;simp[ah h2,hpl,aa]
  have ggl:(dO d)[w]?=some (dm d (wv d w)):=AH hw;have gg:(ints (dO d))[w]?=some (aa (dm d (wv d w))):=by rw[gY,ggl];rfl
  have ggn:=bd gg;have ggi:(w:Int)<(dO d).length:=by have:=aP ggl;omega
  by_cases hr0:(r.length:Int)=0
  ·have hr00:r.length=0:=V;refine W.sq ?_;simp only[go_sem,f0,ls2,hll2,hr0];refine W.cond (t:=true) rfl ?_;have et:fj d r (w+1)=fj d r w+dm d (wv d w):=by
    unfold fj;rw[Vf hr00,Vf hr00,ie];rfl
   have hbt':=hbt (w+1) V;have et2:fj d r (w+1)=SS (w+1) D.nt:=(by unfold fj;rw[Vf hr00,hD]);rw[<- et2,et]at hbt';have w6:=Vb (fj d r w+dm d (wv d w)) V;refine W.dr 11 [0,1,3,7,0,16,48,112,0,496,1008] mixed ?_;simp only[go_sem,f0,f1,ls2,gg,ggn,ggi,w6];refine ak.mk (by rw[aQ];omega) (hK _ (by rw[aQ];exact nx) (fun i h1 h2=>by rw[aj,Ve h1];exact hout i h1 h2) ?_);rw[et];exact hS2.FX
  ·have hr00:¬r.length=0:=V;refine W.sq ?_;simp only[go_sem,f0,ls2,hll2,hr0];refine W.cond (t:=false) rfl ?_;have et:fj d r (w+1)=fj d r w:=(by unfold fj;rw[Ve hr00,Ve hr00]);refine W.vs ?_;simp only[go_sem];refine ak.mk V (hK Hx nx hout ?_);rw[et];exact hS2
 have hk2:k<r.length:=V
 refine W.sq ?_;simp only[go_sem,f14,f15,hb];refine W.sq ?_;simp only[go_sem];refine W.seq (W.block ?_);obtain⟨il,gl,hlv,glv,_,_⟩:=hSx.Az hk2;have llv:=ah glv;have hpk:=Ay (I:=I) hk2;have hpn:=bd hpk;refine W.sq ?_;simp only[go_sem,f13,f15,hlv,llv,hpk,hb];obtain⟨v,hv⟩:=ay hk2;have hvd:r.getD k 0=v:=gF hv;have hm:=hr.mem v (Va hv);obtain⟨x,hx⟩:=ay (bL.1 hm).1;obtain⟨hrn,hxp,hin,ps⟩:=xf hok hx;obtain⟨r1,r2⟩:=lk hok hx hfit;have hxc:=hok.n.L x (Va hx);obtain⟨e1',e2'⟩:=iQ hx V;have ecs:D.cs k=cr d.C x:=by rw[hD];show dC d (r.getD k 0)=_;rw[hvd];exact e1'
 have ecd:(D.cd k:Int)=x.L:=by rw[hD];show (eK d (r.getD k 0):Int)=_;rw[hvd];exact e2'
 obtain⟨c,hc⟩:∃c,c=D.nu k w:=⟨_,rfl⟩
 have hcr:c=cP d.C v vals:=by rw[hc,hD,hvals];show cP d.C (r.getD k 0) (wv d w)=_;rw[hvd]
 obtain⟨y,hy⟩:∃y,y=D.nH k w:=⟨_,rfl⟩
 have hcl:c<D.cs k:=by rw[hc];exact hDo.nu k w (by rw[hD];exact hk2) (by rw[hD];exact hw)
 have hyl:y<D.cd k:=by rw[hy];exact hDo.nH k w (by rw[hD];exact hk2) (by rw[hD];exact hw)
 obtain⟨yv,hyv⟩:=ay (l:=vals) (i:=v) (by rw[hvl];exact(bL.1 hm).1);have hyf:=hfit.2 v _ yv (cW hx) hyv;have hyy:yv=(y:Int):=by
  have:y=(vals.getD v 0).toNat:=by rw[hy,hD,hvals];show ((wv d w).getD (r.getD k 0) 0).toNat=_;rw[hvd]
  rw[kJ hyv]at this;omega
 have hgN:Hx.get N=some (.J 0 3 (ints vals)):=(hout N hNs.1 hNs.2).trans hNg;have hpc:bD prog G0 (.X 147 [] []) [.Q d.C.length (aI d.C),.lit (.int .i64 v),.U N 0 0 d.C.length 1] Hx (.lit (.int .i64 (c:Int))) [N]:=by
  have:=FJ d.C v x vals hx hin ps hfit Hx N d.C.length V hgN hvl.symm;rw[hcr,r1];exact this
 have lx:=ah hSx.top;have l0:=ah (hSx.nj.nJ k hk2);rw[<- hD]at l0;simp only[mz,hvd]at l0;refine W.seq ?_;refine W.dr 10 [0,1,3,7,15,0,32,96,224,0] mixed ?_;simp only[go_sem,f0,f2,lx,l0];refine ao.mono (hpc.2 Hx (fun _ _=>rfl) ZG) fun rr H3 hrr=>?_;obtain⟨rfl,rfl⟩:=hrr;refine⟨trivial,?_⟩;simp only[go_sem]
  -- ny
 have hle1:=(rH D k w)
 have gab:=hSx.nj.nG k 1 hk2 V V;have lab:=ah gab;have tab1:(jH D be ch w k k k).ab k=dq D k w:=by show dq D k (fw w k k)=_;rw[wV ZG]
 simp only[dN,tab1]at lab;have lla:(ints (dq D k w)).length=D.cs k:=by rw[bE];exact hle1
 have hci:(c:Int)<D.cs k:=V
 have e1s:setAt (ints (dq D k w)) c [.lit (.int .i64 (jE D k w:Nat))]=ints (dq D k (w+1)):=by
  rw[iS V];show _=ints ((dq D k w).set (D.nu k w) (jE D k w));rw[hc]
 refine W.en (fun E2=>E2 0=.O s 0 0 /\ E2 1=aa w /\ E2 2=.U N 0 0 d.C.length 1 /\ E2 6=aa (jE D k w) /\ E2 7=aa k /\ E2 8=.O (I k 0) 0 0 /\ E2 9=aa c /\ E2 15=aa k) (by simp only[go_sem,f0,f1,f2,f6,f15]) fun E2 ⟨m0,m1,m2,m6,m7,m8,m9,m15⟩=>?_
 refine W.sq ?_;simp only[go_sem,m8,m9,m6,l0,lab,lla,hci,e1s];refine⟨V,?_⟩;obtain⟨H4,hH4⟩:∃H4,H4=H3.upd (I k 1) (.J 0 3 (ints (dq D k (w+1)))):=⟨_,rfl⟩
 rw[<- hH4];have hS4:ZU d r lo s lvh I (jH D be ch w (k+1) k k) (fj d r w) H4:=by
  have hb:dN (jH D be ch w (k+1) k k) k 1=.J 0 3 (ints (dq D k (w+1))):=by show ZO.J 0 _ (ints (dq D k (fw w (k+1) k)))=_;rw[tX (Wg k)]
  rw[hH4,<- hb];refine hSx.upd hk2 V V (fun k' j' h1 h2 h3 h4=>?_) (by rw[<- hD];exact xb hlb hlc _ _ _ _)
  match j',h2,h3 with
  |1,_,_ =>
   show ZO.J 0 _ (ints (dq D k' (fw w (k+1) k')))=ZO.J 0 _ (ints (dq D k' (fw w k k')));rw[wW fun e=>h4 ⟨e,rfl⟩]
  |2,_,_=>rfl
  |3,_,_=>rfl
  |4,_,_=>rfl
  |5,_,_=>rfl
 have n4:H4.A=H.A:=by rw[hH4,aQ];exact nx
 have o4:nI r s I H H4:=fun i h1 h2=>by rw[hH4,aj,Ve (h2 k 1 hk2 V)];exact hout i h1 h2
 clear hH4 lab lx l0
  -- occurs
 have lx:=ah hS4.top;have l0:=ah (hS4.nj.nJ k hk2);rw[<- hD]at l0;have loc:=ah (hS4.nj.nG k 2 hk2 V V);have toc:(jH D be ch w (k+1) k k).oc k=eC D k w:=by show eC D k (fw w k k)=_;rw[wV ZG]
 simp only[mz,hvd]at l0;simp only[dN,toc]at loc;have llo:(gH (eC D k w)).length=D.cs k:=by rw[FW];exact pT D k w
 obtain⟨o,ho⟩:=ay (l:=eC D k w) (i:=c) (by rw[pT];omega);have go:(gH (eC D k w))[c]?=some (.lit (.bool o)):=by rw[Tx,ho];rfl
 have gon:=bd go;have gwl:(eE d)[w]?=some (cO d (wv d w)):=by unfold eE;rw[List.getElem?_map,VQ hw];rfl
 have gw:(ints (eE d))[w]?=some (aa (cO d (wv d w))):=by rw[gY,gwl];rfl
 have gwn:=bd gw;have gwi:(w:Int)<(eE d).length:=by have:=aP gwl;omega
 have hwt:D.wt w=cO d (wv d w):=by rw[hD];rfl
 have eos:∀b:Bool,b=(o ||decide (0<cO d (wv d w)))->setAt (gH (eC D k w)) c [.lit (.bool b)]=gH (eC D k (w+1)):=fun b hb2=>by
  rw[Ty (by rw[pT];omega)];show _=gH ((eC D k w).set (D.nu k w) ((eC D k w).getD (D.nu k w) false ||decide (0<D.wt w)));rw[<- hc,kJ ho,hwt,hb2]
 obtain⟨H5,hH5⟩:∃H5,H5=H4.upd (I k 2) (.J 0 4 (gH (eC D k (w+1)))):=⟨_,rfl⟩
 refine W.sX (fun s'=>s'.H=H5/\s'.ρ 0=.O s 0 0/\s'.ρ 1=aa w/\s'.ρ 2=.U N 0 0 d.C.length 1/\s'.ρ 7=aa k/\s'.ρ 8=.O (I k 0) 0 0/\s'.ρ 9=aa c/\s'.ρ 15=aa k) ?_ ?_
 ·refine W.dr 22 [0,1,3,7,0,0,32,96,224,0,992,2016,4064,8160,16352,32736,65504,8160,262112,524256,1048544,2097120] mixed ?_;cases o with
  |true =>
   have eos':=eos true ZD;simp only[go_sem,m0,m1,m2,m7,m8,m9,m15,l0,loc,llo,go,hci,eos'];exact⟨V,hH5.symm⟩
  |false =>
   by_cases hp:0<cO d (wv d w)
   ·have eos':=eos true (by simp[hp]);simp only[go_sem,m0,m1,m2,m7,m8,m9,m15,lx,l0,loc,llo,go,hci,gw,gwn,gwi,hp,eos'];exact⟨V,hH5.symm⟩
   ·have eos':=eos false (by simp[hp]);simp only[go_sem,m0,m1,m2,m7,m8,m9,m15,lx,l0,loc,llo,go,hci,gw,gwn,gwi,hp,eos'];exact⟨V,hH5.symm⟩
 rintro⟨ρ6,Hq⟩ ⟨hq,p0,p1,p2,p7,p8,p9,p15⟩;simp only at hq p0 p1 p2 p7 p8 p9 p15;subst hq;have hS5:ZU d r lo s lvh I (jH D be ch w (k+1) (k+1) k) (fj d r w) Hq:=by
  have hb:dN (jH D be ch w (k+1) (k+1) k) k 2=.J 0 4 (gH (eC D k (w+1))):=by show ZO.J 0 _ (gH (eC D k (fw w (k+1) k)))=_;rw[tX (Wg k)]
  rw[hH5,<- hb];refine hS4.upd hk2 V V (fun k' j' h1 h2 h3 h4=>?_) (by rw[<- hD];exact xb hlb hlc _ _ _ _)
  match j',h2,h3 with
  |1,_,_=>rfl
  |2,_,_ =>
   show ZO.J 0 _ (gH (eC D k' (fw w (k+1) k')))=ZO.J 0 _ (gH (eC D k' (fw w k k')));rw[wW fun e=>h4 ⟨e,rfl⟩]
  |3,_,_=>rfl
  |4,_,_=>rfl
  |5,_,_=>rfl
 have n5:Hq.A=H.A:=by rw[hH5,aQ];exact n4
 have o5:nI r s I H Hq:=fun i h1 h2=>by rw[hH5,aj,Ve (h2 k 2 hk2 V)];exact o4 i h1 h2
 clear hH5 loc lx l0;have lx:=ah hS5.top;have l0:=ah (hS5.nj.nJ k hk2);rw[<- hD]at l0;simp only[mz,hvd]at l0;have lN:=ah ((o5 N hNs.1 hNs.2).trans hNg);have gy:(ints vals)[v]?=some (aa y):=by rw[gY,hyv,hyy];rfl
 have gyn:=bd gy;have lln:(ints vals).length=d.C.length:=by rw[bE];exact hvl
 have hvi:(v:Int)<d.C.length:=by have:=(bL.1 hm).1;omega
 have hbr:c*D.cd k+y<D.cs k*D.cd k:=by
  have h3:(c+1)*D.cd k<=D.cs k*D.cd k:=VH _ hcl;rw[VU,Xt]at h3;omega
 have hsz':=hsz k hk2;obtain⟨b,hbe⟩:∃b:Nat,b=c*D.cd k+y:=⟨_,rfl⟩
 have hbD:D.br k w=b:=by rw[hbe,hc,hy];rfl
 have eb1:(c:Int)*(D.cd k:Int)=((c*D.cd k:Nat):Int):=ZD
 have eb2:((c*D.cd k:Nat):Int)+(y:Int)=(b:Int):=by rw[hbe];omega
 rw[<- hbe]at hbr;have w1:=Vb ((c*D.cd k:Nat):Int) V;have w2:=Vb (b:Int) V;refine W.seq ?_;refine W.dr 13 [0,0,2,6,14,31,0,0,128,384,896,1984,4032] mixed ?_;simp only[go_sem,p2,p8,p9,l0,lN,gy,hvi,eb1,w1,eb2,w2];refine W.en (fun E3=>E3 0=.O s 0 0 /\ E3 1=aa w /\ E3 6=aa b /\ E3 7=aa k /\ E3 8=.O (I k 0) 0 0 /\ E3 15=aa k) (by simp only[go_sem,p0,p1,p7,p8,p15]) fun E3 ⟨s0,s1,s6,s7,s8,s15⟩=>?_
 have hll5:iK Hq lvh=some (aa r.length):=by
  rcases hS5.lv with ⟨h1,h2⟩|⟨id,g,_,_,h1,h2⟩
  ·have:r.length=0:=(by rw[<- hpl,h2];rfl);rw[h1,this];rfl
  ·rw[h1];unfold iK;simp[ah h2,hpl,aa]
 have wl:=Vb ((r.length:Int)-1) V;have wk:=Vb ((k:Int)+1) V;have hbrI:jE D (k+1) w=b:=by unfold jE;rw[Ve V,WJ];exact hbD
 by_cases hlast:(k:Int)=(r.length:Int)-1
 ·have hKl:k+1=D.K:=by rw[hD];show k+1=r.length;omega
  have hdec:(decide ((k:Int)=(r.length:Int)-1))=true:=VB hlast;refine W.sq ?_;simp only[go_sem,s0,s7,lx,hll5,wl,hdec];refine W.cond (t:=true) rfl ?_;have lex:=ah (hS5.nj.nG k 3 hk2 V V);have tex:(jH D be ch w (k+1) (k+1) k).ex k=bC D k w:=by show bC D k (fw w k k)=_;rw[wV ZG]
  simp only[dN,tex]at lex;have lle:(ints (bC D k w)).length=D.cs k*D.cd k:=by rw[bE];exact mu D k w
  obtain⟨ev,hev⟩:=ay (l:=bC D k w) (i:=b) (by rw[mu];exact hbr);have gev:(ints (bC D k w))[b]?=some (aa ev):=by rw[gY,hev];rfl
  have gevn:=bd gev;have ggl:(dO d)[w]?=some (dm d vals):=by rw[hvals];exact AH hw
  have gg:(ints (dO d))[w]?=some (aa (dm d vals)):=by rw[gY,ggl];rfl
  have ggn:=bd gg;have ggi:(w:Int)<(dO d).length:=by have:=aP ggl;omega
  have hbi:(b:Int)<(D.cs k*D.cd k:Nat):=V
  have hgw:D.nt w=dm d vals:=by rw[hD,hvals];rfl
  have hKr:k+1=r.length:=by rw[hD]at hKl;exact hKl
  have esucc:bC D k (w+1)=(bC D k w).set b (ev+dm d vals):=by
   show (if k+1=D.K then (bC D k w).set (D.br k w) ((bC D k w).getD (D.br k w) 0+D.nt w) else bC D k w)=_;rw[Vf hKl,hbD,kJ hev,hgw]
  have hbd':=hbd k b hKr w V;rw[kJ hev]at hbd';have w6:=Vb (ev+dm d vals) V;have ees:setAt (ints (bC D k w)) b [.lit (.int .i64 (ev+dm d vals))]=ints (bC D k (w+1)):=by rw[iS (by rw[mu];exact hbr),esucc]
  refine W.dr 14 [0,1,3,7,0,31,63,0,128,384,896,0,3968,8064] mixed ?_;simp only[go_sem,s0,s1,s6,s8,lx,l0,lex,lle,gev,gg,ggn,ggi,hbi,w6,ees];refine⟨V,?_⟩;refine W.vs ?_;simp only[go_sem,s15,s6,wk];rw[<- hlv];obtain⟨H6,hH6⟩:∃H6,H6=Hq.upd (I k 3) (.J 0 3 (ints (bC D k (w+1)))):=⟨_,rfl⟩
  rw[<- hH6];have n6:H6.A=H.A:=by rw[hH6,aQ];exact n5
  refine⟨V,⟨k+1,rfl,V,by rw[hbrI],n6,fun i h1 h2=>by rw[hH6,aj,Ve (h2 k 3 hk2 V)];exact o5 i h1 h2,?_⟩,by rw[h15];simp only[aa,bf];omega⟩;have hb:dN (jH D be ch w (k+1) (k+1) (k+1)) k 3=.J 0 3 (ints (bC D k (w+1))):=by show ZO.J 0 _ (ints (bC D k (fw w (k+1) k)))=_;rw[tX (Wg k)]
  rw[hH6,<- hb];refine hS5.upd hk2 V V (fun k' j' h1 h2 h3 h4=>?_) (by rw[<- hD];exact xb hlb hlc _ _ _ _)
  match j',h2,h3 with
  |1,_,_=>rfl
  |2,_,_=>rfl
  |3,_,_ =>
   show ZO.J 0 _ (ints (bC D k' (fw w (k+1) k')))=ZO.J 0 _ (ints (bC D k' (fw w k k')));rw[wW fun e=>h4 ⟨e,rfl⟩]
  |4,_,_=>rfl
  |5,_,_=>rfl
 ·have hKl:k+1≠D.K:=by rw[hD];show k+1≠r.length;omega
  refine W.sq ?_;simp only[go_sem,s0,s7,lx,hll5,wl,hlast];refine W.cond (t:=false) rfl ?_;refine W.vs ?_;simp only[go_sem];refine W.vs ?_;simp only[go_sem,s15,s6,wk];rw[<- hlv];refine⟨V,⟨k+1,rfl,V,by rw[hbrI],n5,o5,hS5.same (fun k' j' h1=>?_) (by rw[<- hD];exact xb hlb hlc _ _ _ _)⟩,by rw[h15];simp only[aa,bf];omega⟩;by_cases e:k'=k
  ·subst e;have e0:bC D k' (fw w k' k')=bC D k' (fw w (k'+1) k'):=by
    rw[wV ZG,tX (Wg k')];show _=(if k'+1=D.K then _ else bC D k' w)
    rw[Ve hKl]
   unfold dN jH;simp only[e0]
  ·unfold dN jH;simp only[wW e]
end Go.Proofs
namespace Go.Hx
variable {P:Program}
end Go.Hx
namespace Go.Proofs
open Go.Hx Tryz
variable {tot:Int}{r:List Nat}{i lo n:Nat}{I:Nat->Nat->Nat}{H:ZH}{lvh:ZI}{d:ZK}{T:ZT}
def Ga (r:List Nat)(s:Nat)(lvh:ZI)(I:Nat->Nat->Nat)(n0:Nat):Prop:=s<n0/\(∀k j,k<r.length->j<6->I k j<n0)/\∀id g n,lvh=.U id g 0 n 1->id<n0
def ZU.bnd {s:Nat}(h:ZU d r lo s lvh I T tot H):Ga r s lvh I H.A :=
 ⟨h.nI.2,fun k j h1 h2=>(h.nj.np k j h1 h2).2,fun id g n hv=>by
  rcases h.lv with ⟨h1,_⟩|⟨id',g',_,h2,h3,_⟩
  ·rw[h1]at hv;cases hv
  ·rw[h3]at hv;rw[<- (ZI.U.inj hv).1];exact h2⟩
def ZU.oS {s n0:Nat}{H':ZH}(h:ZU d r lo s lvh I T tot H)(hb:Ga r s lvh I n0)(hn:H.A<=H'.A)(hk:∀i,i<n0->H'.get i=H.get i):ZU d r lo s lvh I T tot H' :=
 ⟨by rw[hk s hb.1];exact h.top,by have:=h.nI;omega,h.lv.ng ZG hn fun i g _ _ _ hv=>hk i (hb.2.2 _ _ _ hv),h.sep,h.nK,h.nj.ng hn fun k j h1 h2=>hk _ (hb.2.1 k j h1 h2)⟩
def ZU.len {s:Nat}(h:ZU d r lo s lvh I T tot H):iK H lvh=some (aa r.length):=by
 have hpl:=pZ I r.length;rcases h.lv with ⟨h1,h2⟩|⟨id,g,_,_,h1,h2⟩
 ·have:r.length=0:=by rw[<- hpl,h2];rfl
  rw[h1,this];rfl
 ·rw[h1];unfold iK;simp[ah h2,hpl,aa]
def oT (n:Nat):List (List ZI):=(List.range n).map fun (i:Nat)=>[aa ((n:Int)-1-(i:Int))]
def AE (n:Nat):(oT n).length=n:=by simp[oT]
def Gb (h:i<n):(oT n)[i]?=some [aa ((n:Int)-1-i)]:=by unfold oT;rw[List.getElem?_map,VQ h];rfl
def T7 {y:List ZI}(h:(oT n)[i]?=some y):i<n/\y=[aa ((n:Int)-1-i)]:=by
 have hl:=aP h;rw[AE]at hl;rw[Gb hl]at h;exact⟨hl,(Option.some.inj h).symm⟩
def T8 :∀x∈oT n,x.length=1:=fun x hx=>by
 unfold oT at hx;obtain⟨i,_,rfl⟩:=Vu.1 hx;rfl
def T9 (d:ZK)(s bx n:Nat)(H:ZH):Prop:=H.get bx=some (.J 0 134 [.O s 0 0])/\∃lvh tot,H.get s=some (.J 0 184 [.lit (.int .i64 d.nl),.Q d.C.length (aI d.C),.lit (.int .u64 (d.Y:Int)),.Q d.Z.length (bt d.Z),lvh,af (eE d),af (dO d),.lit (.int .i64 tot)])/\iK H lvh=some (aa n)
def Ua (d:ZK)(s bx n:Nat)(hn:n<=64):tZ prog G0 149 [] [.O bx 0 0] (oT n) (T9 d s bx n):=by
 intro idy J Stop H K hS hJ0 hY hK hSt;obtain⟨h1,lvh,tot,h2,h3⟩:=hS 0 H hJ0;have l1:=ah h1;have l2:=ah h2;have w0:=Vb ((n:Int)-1) V;show ae _ _ _ ([.nk idy]++[.O bx 0 0]) _ _;refine ae.st (n:=18) (rs:=[]) func149 ?_;simp only[go_sem,l1,l2,h3,w0];refine W.aT 261128 (by rfl) (fun ρ H'=>∃i:Nat,ρ 3=aa ((n:Int)-1-i)/\i<=n/\J i H'/\H.A<=H'.A) (fun ρ H=>(iv (ρ 3)+1).toNat) ?_ ?_
 ·simp only[go_sem];exact⟨0,ZD,V,hJ0⟩
 rintro ρ H' ⟨i,h3,hi,hj,hnx⟩;refine W.vs ?_;by_cases hb:(0:Int)<=(n:Int)-1-i
 ·have hin:i<n:=V
  have w1:=Vb ((n:Int)-1-i-1) V;simp only[go_sem,h3,hb];refine hY _ _ H' _ (Gb hin) hj hnx (fun H2 hj2 hn2=>⟨trivial,?_⟩) (fun H2 hs2 hn2=>⟨trivial,?_⟩)
  ·simp only[go_sem,h3,w1];exact⟨V,⟨i+1,by congr 2;omega,V,hj2,V⟩,V⟩
  ·simp only[go_sem];exact ak.mk V (hSt H2 hs2 V)
 ·simp only[go_sem,h3,hb];have ei:i=n:=V
  exact ak.mk V (hK H' (by rw[AE,<- ei];exact hj) hnx)
def Ub (s:Nat)(H:ZH)(K:ZN->ZH->Prop)(hK:K (.ret (.X 149 [] [.O H.A 0 0])) (ext H [.J 0 134 [.O s 0 0]])):
  ae prog G0 115 [.O s 0 0] H K:=by
 refine ae.st (n:=4) (rs:=[.tmp 2]) func115 ?_;simp only[go_sem];exact ak.mk (by simp[aX]) hK
def Uc (hok:ZP d)(hr:ZX d r)(hrl:r.length<=64){s:Nat}{be ch:Nat->List Int}
  (hsz:∀k,k<r.length->(az d r).cs k*(az d r).cd k<2 ^ 40) (hcs:∀k,k<r.length->(az d r).cs k<2 ^ 40)
  (hbd:∀(k b:Nat),k+1=r.length->∀n,n<=cJ d.C->-4000000000000000000<=(bC (az d r) k n).getD b 0/\(bC (az d r) k n).getD b 0<=4000000000000000000) (hbt:∀n,n<=cJ d.C->-4000000000000000000<=SS n (az d r).nt/\SS n (az d r).nt<=4000000000000000000)
  (hbg:∀w,w<cJ d.C->-4000000000000000000<=dm d (wv d w)/\dm d (wv d w)<=4000000000000000000)
  (H:ZH) (hS:ZU d r lo s lvh I (iV (az d r) be ch 0) (fj d r 0) H)
  (K:ZN->ZH->Prop) (hK:∀H',H.A<=H'.A->(∀i,i<H.A->i≠s->(∀k j,k<r.length->j<6->i≠I k j)->H'.get i=H.get i)->ZU d r lo s lvh I (iV (az d r) be ch (cJ d.C)) (fj d r (cJ d.C)) H'->K (.ret (.nc [])) H'):
  ae prog G0 113 [.O s 0 0,.X 114 [.O s 0 0] []] H K:=by
 have n8:=hok.n.n1;have hcards:∀c∈aw d.C,1<=c/\c<=4:=fun c hc=>by
  obtain⟨x,hx,rfl⟩:=Vu.1 hc;exact hok.n.L x hx
 have sm:fh (aw d.C):=rP (by rw[eW];omega) hcards;have hB0:=hS.bnd;have hsol:=hS.nI.2;have lso:=ah hS.top;have lsoe:∀L,(ext H L).na s 0=_:=fun L=>(eF hsol).trans lso;refine ae.st (n:=19) (rs:=[]) func113 ?_;simp only[go_sem,lsoe];refine ao.X (FL d.C V _ _ ⟨trivial,?_⟩);simp only[go_sem];refine ao.X (FH (aw d.C) _ _ ⟨trivial,?_⟩);simp only[go_sem];obtain⟨H2,hH2⟩:∃H2,H2=ext (ext H [.J 0 193 (ZI.X 114 [.O s 0 0] []).cells]) [.J 0 72 [af (aw d.C)]]:=⟨_,rfl⟩
 have n2:H2.A=H.A+2:=by rw[hH2];rfl
 have o2:ZM H H2:=by rw[hH2];exact(ZM.ext _ _).trans (.ext _ _)
 have g0:H2.get H.A=some (.J 0 193 [.X 114 [.O s 0 0] []]):=by rw[hH2,ef];exact bN H _ 0 (ZD)
 have g1:H2.get (H.A+1)=some (.J 0 72 [af (aw d.C)]):=by rw[hH2,ef];exact bN H _ 1 (ZD)
 refine W.env fun E hE'=>?_;have e3:E 3=.O H.A 0 0:=by rw[hE'];simp only[go_sem]
 have e12:E 12=.X 176 [] [.O (H.A+1) 0 0]:=by rw[hE'];rfl
 clear hE';show W _ _ _ _ _ _ ⟨E,ext (ext H [.J 0 193 (ZI.X 114 [.O s 0 0] []).cells]) [.J 0 72 [af (aw d.C)]]⟩;rw[<- hH2];have hit:=FG (aw d.C) (fun c hc=>(hcards c hc).1) sm (H.A+1) (H2.A+1) V;have hsn:∀i,H.A<=i->i≠s/\∀k j,k<r.length->j<6->i≠I k j:=fun i hi=>⟨by have:=hB0.1;omega,fun k j h1 h2=>by have:=hB0.2.1 k j h1 h2;omega⟩
 refine W.Gt (f:=176) (first:=[]) (cap:=[.O (H.A+1) 0 0]) (by show E 12=_;exact e12) hit
  (fun k Hx=>H2.A<Hx.A/\(∀id,id<H2.A->id≠s->(∀k j,k<r.length->j<6->id≠I k j)->Hx.get id=H2.get id)/\ZU d r lo s lvh I (iV (az d r) be ch k) (fj d r k) Hx)
  (fun _ _=>False)
  (fun k Hx h=>(h.2.1 _ V (hsn _ V).1 (hsn _ V).2).trans g1)
  (fun k H1 H3 h hw=>⟨by have:=hw.1;omega,fun id h1 h2 h3=>(hw.2 _ V (by have:=h.1;omega)).trans (h.2.1 id h1 h2 h3),h.2.2.oS hB0 hw.1 fun id hi=>hw.2 id V (by have:=h.1;omega)⟩)
  (fun k Hx h=>h.1)
  (fun k H1 b h=>⟨h.1,fun id h1 h2 h3=>by rw[aj,Ve V];exact h.2.1 id h1 h2 h3,h.2.2.oS hB0 (by rw[aQ];exact Nat.le_refl _) fun id hi=>by rw[aj,Ve V]⟩)
  (fun _ _ _ h=>h) (fun k H1 b h=>by unfold rO at h ⊢;rw[aj,Ve V];exact h)
  (fun b=>⟨by rw[aX];simp,fun id h1 h2 h3=>dA h1,hS.oS hB0 (by rw[aX];omega) fun id hi=>by rw[dA V,o2.nf _ hi]⟩) (ZE)
  (fun x hx=>by
   obtain⟨k,hk⟩:=Vj.1 hx;obtain⟨_,rfl⟩:=wL hk;rfl) (fun _ _ _=>trivial) (fun _ _ _=>trivial) (fun k y Hx B Bb hy hj hcs' hn hB hBb=>?_) (fun Hx hj hn=>?_) (fun _ hs _=>hs.elim) (fun _ _ hs _=>hs.elim)
 ·obtain⟨hk,rfl⟩:=wL hy;refine W.vs ?_;simp only[go_sem,jM,dw,mC,Wi,XA,WY,W6,hB];obtain⟨H3,hH3⟩:∃H3,H3=Hx.upd H2.A Bb:=⟨_,rfl⟩
  rw[<- hH3];obtain⟨st,pd,n',en,ps',as',bo,hBe⟩:=hBb;have n3:H3.A=Hx.A:=by rw[hH3];rfl
  have o3:∀id,id≠H2.A->H3.get id=Hx.get id:=fun id h=>by rw[hH3,aj,Ve h]
  have jB:H3.get H2.A=some Bb:=by rw[hH3,aj,Vf rfl]
  have k0:=ah ((o3 _ V).trans ((hj.2.1 H.A V (hsn _ V).1 (hsn _ V).2).trans g0));have kN:H3.get (H2.A+1)=some (.J 0 3 (ints (bV (aw d.C) k))):=(o3 _ V).trans hcs';have hS3:ZU d r lo s lvh I (iV (az d r) be ch k) (fj d r k) H3:=hj.2.2.oS hB0 V fun id hi=>o3 id V;refine W.en (fun E1=>E1 3=.O H.A 0 0 /\ E1 4=aa k /\ E1 5=.U (H2.A+1) 0 0 d.C.length 1) (by simp only[go_sem,dw,e3,eW]) fun E1 ⟨m3,m4,m5⟩=>?_
  refine W.vs ?_;simp only[go_sem,m3,m4,m5,k0];refine ao.X (T6 hok hr hrl hk hsz hcs hbd hbt (hbg k hk) (H2.A+1) H3 hS3 V (hsn _ V) kN d.C.length rfl _ fun H4 h4n h4o h4S=>⟨⟨_,_,_,_,_,_,_,by rw[h4o _ (hsn _ V).1 (hsn _ V).2,jB,hBe]⟩,?_⟩);simp only[go_sem,im];refine⟨by rw[h4o _ (hsn _ V).1 (hsn _ V).2];exact jB,V,⟨V,fun id h1 h2 h3=>by rw[h4o _ h2 h3,o3 _ V];exact hj.2.1 id h1 h2 h3,h4S⟩,?_⟩;unfold rO;rw[h4o _ (hsn _ V).1 (hsn _ V).2];exact kN
 ·simp only[go_sem];have hl:(nG (aw d.C) (H2.A+1)).length=cJ d.C:=Ar ..;rw[hl]at hj;exact ak.mk V (hK Hx V (fun id h1 h2 h3=>(hj.2.1 id V h2 h3).trans (o2.nf _ h1)) hj.2.2)
end Go.Proofs
namespace Go.Hx
variable {P:Program} {t:TypeId} {x y:Operand} {k':IntKind} {a:Int}
def AF (h:0<=a/\a<4294967296):aV P .and t x y (.lit (.int .u64 a)) (.lit (.int .u64 4294967295))=some (.lit (.int .u64 a)):=by
 obtain⟨n,rfl⟩:=Vk h.1;rw[qd];have e1:(BitVec.ofInt 64 (n:Int)).toNat=n:=by rw[BitVec.ofInt_natCast,BitVec.toNat_ofNat,Xw V]
 have e:(BitVec.ofInt (IntKind.bits .u64) (n:Int) &&& BitVec.ofInt (IntKind.bits .u64) 4294967295).toNat=n:=by
  show (BitVec.ofInt 64 (n:Int) &&& BitVec.ofInt 64 ((4294967295:Nat):Int)).toNat=n;rw[BitVec.toNat_and,e1,show (BitVec.ofInt 64 ((4294967295:Nat):Int)).toNat=2 ^ 32-1 by rfl,YV];omega
 rw[e,VL _ V]
def tY (h:0<=a/\a<4294967296):aV P .shr t x y (.lit (.int .u64 a)) (.lit (.int k' 32))=some (.lit (.int .u64 0)):=by
 rw[rW ZE];have e:a.fdiv (2 ^ (min (32:Int).toNat (IntKind.bits .u64)))=a / 4294967296:=Ym a ZE;rw[e,XD h.1 h.2]
end Go.Hx
namespace Go.Proofs
open Go.Hx Tryz
variable {a:Int}{m n:Nat}
def Ud (y:Nat)(hy:y<4294967296)(H:ZH)(K:ZN->ZH->Prop)(hK:K (.ret (.nc [.lit (.int .u64 0),.lit (.int .u64 y)])) H):ae prog G0 141 [.lit (.int .u64 1),.lit (.int .u64 y)] H K:=by
 have ky:(0:Int)<=(y:Int)/\(y:Int)<4294967296:=V
 have k1:(0:Int)<=(1:Int)/\(1:Int)<4294967296:=V
 have k0:(0:Int)<=(0:Int)/\(0:Int)<4294967296:=V
 have v:=VL (y:Int) V;have z1:IntKind.u64.wrap 0=0:=rfl;refine ae.sw (n:=51) (rs:=[.tmp 4,.tmp 5]) func141 ?_;refine W.sq ?_;simp only[go_sem];refine W.env fun E0 hE0=>?_;have a0_0:E0 0=.lit (.int .u64 1):=by rw[hE0];rfl
 have a0_1:E0 1=.lit (.int .u64 y):=by rw[hE0];rfl
 clear hE0;refine W.sq ?_;simp only[go_sem,a0_0,AF,k1];refine W.env fun E1 hE1=>?_;have a1_0:E1 0=.lit (.int .u64 1):=by rw[hE1];exact a0_0
 have a1_1:E1 1=.lit (.int .u64 y):=by rw[hE1];exact a0_1
 have a1_6:E1 6=.lit (.int .u64 1):=by rw[hE1];rfl
 clear hE1;refine W.sq ?_;simp only[go_sem,a1_0,tY,k1];refine W.env fun E2 hE2=>?_;have a2_0:E2 0=.lit (.int .u64 1):=by rw[hE2];exact a1_0
 have a2_1:E2 1=.lit (.int .u64 y):=by rw[hE2];exact a1_1
 have a2_6:E2 6=.lit (.int .u64 1):=by rw[hE2];exact a1_6
 have a2_7:E2 7=.lit (.int .u64 0):=by rw[hE2];rfl
 clear hE2;refine W.sq ?_;simp only[go_sem,a2_1,AF,ky];refine W.env fun E3 hE3=>?_;have a3_0:E3 0=.lit (.int .u64 1):=by rw[hE3];exact a2_0
 have a3_1:E3 1=.lit (.int .u64 y):=by rw[hE3];exact a2_1
 have a3_6:E3 6=.lit (.int .u64 1):=by rw[hE3];exact a2_6
 have a3_7:E3 7=.lit (.int .u64 0):=by rw[hE3];exact a2_7
 have a3_8:E3 8=.lit (.int .u64 y):=by rw[hE3];rfl
 clear hE3;refine W.sq ?_;simp only[go_sem,a3_1,tY,ky];refine W.env fun E4 hE4=>?_;have a4_0:E4 0=.lit (.int .u64 1):=by rw[hE4];exact a3_0
 have a4_1:E4 1=.lit (.int .u64 y):=by rw[hE4];exact a3_1
 have a4_6:E4 6=.lit (.int .u64 1):=by rw[hE4];exact a3_6
 have a4_7:E4 7=.lit (.int .u64 0):=by rw[hE4];exact a3_7
 have a4_8:E4 8=.lit (.int .u64 y):=by rw[hE4];exact a3_8
 have a4_9:E4 9=.lit (.int .u64 0):=by rw[hE4];rfl
 clear hE4;refine W.sq ?_;simp only[go_sem,a4_6,a4_8,v,Yl];refine W.env fun E5 hE5=>?_;have a5_0:E5 0=.lit (.int .u64 1):=by rw[hE5];exact a4_0
 have a5_1:E5 1=.lit (.int .u64 y):=by rw[hE5];exact a4_1
 have a5_6:E5 6=.lit (.int .u64 1):=by rw[hE5];exact a4_6
 have a5_7:E5 7=.lit (.int .u64 0):=by rw[hE5];exact a4_7
 have a5_8:E5 8=.lit (.int .u64 y):=by rw[hE5];exact a4_8
 have a5_9:E5 9=.lit (.int .u64 0):=by rw[hE5];exact a4_9
 have a5_10:E5 10=.lit (.int .u64 y):=by rw[hE5];rfl
 clear hE5;refine W.sq ?_;simp only[go_sem,a5_7,a5_8,a5_10,tY,ky,z1,YI,XM];refine W.env fun E6 hE6=>?_;have a6_0:E6 0=.lit (.int .u64 1):=by rw[hE6];exact a5_0
 have a6_1:E6 1=.lit (.int .u64 y):=by rw[hE6];exact a5_1
 have a6_6:E6 6=.lit (.int .u64 1):=by rw[hE6];exact a5_6
 have a6_7:E6 7=.lit (.int .u64 0):=by rw[hE6];exact a5_7
 have a6_8:E6 8=.lit (.int .u64 y):=by rw[hE6];exact a5_8
 have a6_9:E6 9=.lit (.int .u64 0):=by rw[hE6];exact a5_9
 have a6_10:E6 10=.lit (.int .u64 y):=by rw[hE6];exact a5_10
 have a6_11:E6 11=.lit (.int .u64 0):=by rw[hE6];rfl
 clear hE6;refine W.sq ?_;simp only[go_sem,a6_11,AF,k0];refine W.env fun E7 hE7=>?_;have a7_0:E7 0=.lit (.int .u64 1):=by rw[hE7];exact a6_0
 have a7_1:E7 1=.lit (.int .u64 y):=by rw[hE7];exact a6_1
 have a7_6:E7 6=.lit (.int .u64 1):=by rw[hE7];exact a6_6
 have a7_7:E7 7=.lit (.int .u64 0):=by rw[hE7];exact a6_7
 have a7_8:E7 8=.lit (.int .u64 y):=by rw[hE7];exact a6_8
 have a7_9:E7 9=.lit (.int .u64 0):=by rw[hE7];exact a6_9
 have a7_10:E7 10=.lit (.int .u64 y):=by rw[hE7];exact a6_10
 have a7_11:E7 11=.lit (.int .u64 0):=by rw[hE7];exact a6_11
 have a7_12:E7 12=.lit (.int .u64 0):=by rw[hE7];rfl
 clear hE7;refine W.sq ?_;simp only[go_sem,a7_11,tY,k0];refine W.env fun E8 hE8=>?_;have a8_0:E8 0=.lit (.int .u64 1):=by rw[hE8];exact a7_0
 have a8_1:E8 1=.lit (.int .u64 y):=by rw[hE8];exact a7_1
 have a8_6:E8 6=.lit (.int .u64 1):=by rw[hE8];exact a7_6
 have a8_7:E8 7=.lit (.int .u64 0):=by rw[hE8];exact a7_7
 have a8_8:E8 8=.lit (.int .u64 y):=by rw[hE8];exact a7_8
 have a8_9:E8 9=.lit (.int .u64 0):=by rw[hE8];exact a7_9
 have a8_10:E8 10=.lit (.int .u64 y):=by rw[hE8];exact a7_10
 have a8_11:E8 11=.lit (.int .u64 0):=by rw[hE8];exact a7_11
 have a8_12:E8 12=.lit (.int .u64 0):=by rw[hE8];exact a7_12
 have a8_13:E8 13=.lit (.int .u64 0):=by rw[hE8];rfl
 clear hE8;refine W.sq ?_;simp only[go_sem,a8_6,a8_9,a8_12,z1,YX,XM];refine W.env fun E9 hE9=>?_;have a9_0:E9 0=.lit (.int .u64 1):=by rw[hE9];exact a8_0
 have a9_1:E9 1=.lit (.int .u64 y):=by rw[hE9];exact a8_1
 have a9_6:E9 6=.lit (.int .u64 1):=by rw[hE9];exact a8_6
 have a9_7:E9 7=.lit (.int .u64 0):=by rw[hE9];exact a8_7
 have a9_8:E9 8=.lit (.int .u64 y):=by rw[hE9];exact a8_8
 have a9_9:E9 9=.lit (.int .u64 0):=by rw[hE9];exact a8_9
 have a9_10:E9 10=.lit (.int .u64 y):=by rw[hE9];exact a8_10
 have a9_11:E9 11=.lit (.int .u64 0):=by rw[hE9];exact a8_11
 have a9_12:E9 12=.lit (.int .u64 0):=by rw[hE9];rfl
 have a9_13:E9 13=.lit (.int .u64 0):=by rw[hE9];exact a8_13
 clear hE9;refine W.sq ?_;simp only[go_sem,a9_7,a9_9,a9_12,a9_13,tY,k0,z1,YX,XM];refine W.env fun E10 hE10=>?_;have a10_0:E10 0=.lit (.int .u64 1):=by rw[hE10];exact a9_0
 have a10_1:E10 1=.lit (.int .u64 y):=by rw[hE10];exact a9_1
 have a10_6:E10 6=.lit (.int .u64 1):=by rw[hE10];exact a9_6
 have a10_7:E10 7=.lit (.int .u64 0):=by rw[hE10];exact a9_7
 have a10_8:E10 8=.lit (.int .u64 y):=by rw[hE10];exact a9_8
 have a10_9:E10 9=.lit (.int .u64 0):=by rw[hE10];exact a9_9
 have a10_10:E10 10=.lit (.int .u64 y):=by rw[hE10];exact a9_10
 have a10_11:E10 11=.lit (.int .u64 0):=by rw[hE10];exact a9_11
 have a10_12:E10 12=.lit (.int .u64 0):=by rw[hE10];exact a9_12
 have a10_13:E10 13=.lit (.int .u64 0):=by rw[hE10];exact a9_13
 have a10_4:E10 4=.lit (.int .u64 0):=by rw[hE10];rfl
 clear hE10;refine W.vs ?_;simp only[go_sem,a10_0,a10_1,a10_4,v,Yl];exact ak.mk ZG hK
def Ue (y:Nat)(hy:y<4294967296)(H:ZH)(K:ZN->ZH->Prop)(hK:K (.ret (.nc [.lit (.int .u64 0),.lit (.int .u64 y)])) H):ae prog G0 148 [.lit (.int .u64 1),.lit (.int .u64 y)] H K:=by
 have v:=VL (y:Int) V;have z1:IntKind.u64.wrap 0=0:=rfl;have z2:IntKind.u64.wrap 1=1:=rfl;refine ae.st (n:=30) (rs:=[.tmp 4,.tmp 5]) func148 ?_;simp only[go_sem];refine ao.X (Ud y hy _ _ ⟨trivial,?_⟩);simp only[go_sem];exact ak.mk ZG hK
def iW (a:Int)(m n:Nat):List Int:=List.replicate n a++List.replicate (m-n) 0
def Gc (h:n<=m):(iW a m n).length=m:=by unfold iW;simp;omega
def Uf (h:n<=m):setAt (ints (iW a m n)) n (((ints (iW a m n)).take n).take (min n (m-n)))=ints (iW a m (n+min n (m-n))):=by
 unfold iW ints setAt;simp only[V5,Yp,List.length_append,WA,Vr];apply List.ext_getElem
 ·simp;omega
 ·intro i h1 h2;simp[List.getElem_append,XN];split
  ·rfl
  ·rw[Ve V]
def Ug (a:Int)(m:Nat)(hm:1<=m/\m<2 ^ 30)(H:ZH)(K:ZN->ZH->Prop)(hK:K (.ret (.U H.A 0 0 m 1)) (ext H [.J 0 3 (ints (List.replicate m a))])):
  ae prog G0 112 [af [a],aa m] H K:=by
 have v:=VL (m:Int) V;have z2:IntKind.u64.wrap 1=1:=rfl;have v2:=Vb (m:Int) V;have h0:¬(m:Int)<0:=V
 have h9:¬(9223372036854775807:Int)<(m:Int):=V
 refine ae.sw (n:=48) (rs:=[.tmp 4]) func112 ?_;refine W.sq ?_;simp only[go_sem];refine W.sq ?_;simp only[go_sem,h0];refine W.sq ?_;simp only[go_sem,v,z2];refine ao.X (Ue m V _ _ ⟨trivial,?_⟩);simp only[go_sem];refine W.sq ?_;simp only[go_sem,h9];have hm0:(0:Int)<=m:=V
 refine W.sq ?_;simp only[go_sem,v2,hm0];refine⟨V,?_⟩;obtain⟨H1,hH1⟩:∃H1,H1=ext H [.J 0 3 (List.replicate m (.lit (.int .i64 0)))]:=⟨_,rfl⟩
 have e0:List.replicate m (ZI.lit (.int .i64 0))=ints (iW a m 0):=by simp[iW,ints,aa]
 have g1:H1.get H.A=some (.J 0 3 (ints (iW a m 0))):=by rw[hH1,<- e0];exact eh
 have n1:H1.A=H.A+1:=hH1▸rfl
 have ex1:∀(b:ZO) (i:Nat),i≠H.A->(ext H [b]).get i=H.get i:=fun b i h=>by
  unfold ext;simp only[Wf];rw[Ve V]
 have o1:∀i,i≠H.A->H1.get i=H.get i:=fun i h=>by rw[hH1];exact ex1 _ i h
 rw[<- hH1];clear hH1;have l1:=ah g1;have ll1:(ints (iW a m 0)).length=m:=by rw[bE,Gc V]
 have ec:List.take 1 (ints [a])++List.drop (List.take 1 (ints [a])).length (ints (iW a m 0))=ints (iW a m 1):=by
  obtain⟨q,hq⟩:∃q,m=q+1:=⟨m-1,V⟩
  rw[hq];simp[iW,ints,W1]
 have em:min 1 m=1:=XI hm.1;refine W.sq ?_;simp only[go_sem,l1,ll1,em];refine⟨rfl,?_⟩;refine W.en (fun E=>E 7=.U H.A 0 0 m 1 /\ E 8=aa 1) (by simp only[go_sem]) fun E ⟨e7,e8⟩=>?_
 refine W.seq (W.block ?_);refine W.aT 140720308486400 (by rfl) (fun ρ Hx=>∃n:Nat,ρ 8=aa n/\1<=n/\n<=m/\Hx.A=H.A+1/\(∀i,i≠H.A->Hx.get i=H.get i)/\Hx.get H.A=some (.J 0 3 (ints (iW a m n)))) (fun ρ Hx=>m-(iv (ρ 8)).toNat) ?_ ?_
 ·simp only[go_sem,e8,ec];exact⟨1,rfl,ZG,hm.1,by rw[aQ];exact n1,fun i h=>by rw[aj,Ve h];exact o1 i h,by rw[aj,Vf rfl]⟩
 rintro ρ Hx ⟨n,h8,hn1,hn,nx,xo,xg⟩;refine W.en (fun E1=>E1 7=.U H.A 0 0 m 1 /\ E1 8=aa n) (by simp only[go_sem,e7,h8]) fun E1 ⟨f7,f8⟩=>?_
 have lx:=ah xg;have llx:(ints (iW a m n)).length=m:=by rw[bE,Gc hn]
 by_cases hb:(n:Int)<m;rotate_left
 ·refine W.vs ?_;simp only[go_sem,f7,f8,lx,hb];have hnm:n=m:=V
  refine W.vs ?_;simp only[go_sem,f7];have hx:Hx=ext H [.J 0 3 (ints (List.replicate m a))]:=by
   have hg:∀i,Hx.get i=(ext H [.J 0 3 (ints (List.replicate m a))]).get i:=fun i=>by
    by_cases h:i=H.A
    ·rw[h,xg,hnm,eh];simp[iW]
    ·rw[xo i h,ex1 _ i h]
   cases Hx;simp only at nx hg;unfold ext;congr 1
   ·funext i
    exact hg i
  rw[hx];exact ak.mk (by rw[aX];exact Nat.le_add_right ..) hK
 have em2:n+min n (m-n)<=m:=V
 have w1:=Vb ((n:Int)+(min n (m-n):Nat)) V;have ecp:=Uf (a:=a) hn;refine W.sq ?_;simp only[go_sem,f7,f8,lx,hb];refine W.block ?_;refine W.dr 8 [0,0,0,6,0,0,48,126] mixed ?_;simp only[go_sem,f7,f8,lx,llx,w1,ecp];refine⟨V,V,⟨V,by rw[VG];intro x hx;exact VG.1 (kV _) x (VD hx)⟩,by rw[aQ,aQ];omega,⟨n+min n (m-n),ZD,V,em2,by rw[aQ];exact nx,fun i h=>by rw[aj,Ve h];exact xo i h,by rw[aj,Vf rfl]⟩,by rw[h8];simp only[aa,bf];omega⟩
end Go.Proofs
namespace Go.Hx
variable {P:Program} {G:Nat->Option (List ZI)} {all:Array Oper} {tail:St->Prop} {b i:Nat} {bs:List Nat} {acc:List (Nat × FP)} {K:FP->St->Prop} {s:St} {d:Option Tmp} {ty:TypeId} {pos:String} {aft:Array Edge} {g:Option (Nat × Bool)}
variable {H:ZH}
def Cn (bs:List Nat):Ev.dY P G all tail bs i acc [] s=tail s:=by cases bs<;>rfl
def Co (op:Op)(rest:List Oper):Ev.dY P G all tail (b :: bs) i acc (⟨d,op,ty,pos,aft,none⟩ :: rest) s =
  Ev.bF P G ⟨d,op,ty,pos,aft,none⟩ (fun f s'=>ju b f acc/\Ev.dY P G all tail bs (i+1) (fP i f acc) rest s') s:=by
 simp[Ev.dY,gU,bj]
def Cp (fv:Operand)(args:Array Operand)(ats:Array TypeId):Ev.bF P G ⟨d,.call ⟨.value fv,args,ats⟩,ty,pos,aft,g⟩ K s =
  ∃v e k f,Ev.nW P G (au G s.ρ fv) (args.toList.map (au G s.ρ)) s.H v e k f/\K f ⟨aJ s.ρ d v,⟨Ev.cY e s.H.get,s.H.A+k⟩⟩:=rfl
def MS (x:Operand):Ev.bF P G ⟨d,.move x,ty,pos,aft,g⟩ K s=bF P G ⟨d,.move x,ty,pos,aft,g⟩ K s:=rfl
def Cq (t:TypeId)(x:Operand):Ev.bF P G ⟨d,.load t x,ty,pos,aft,g⟩ K s=bF P G ⟨d,.load t x,ty,pos,aft,g⟩ K s:=rfl
def MT (x:Operand):Ev.bF P G ⟨d,.nilCheck x,ty,pos,aft,g⟩ K s=bF P G ⟨d,.nilCheck x,ty,pos,aft,g⟩ K s:=rfl
def Cr (t:TypeId)(x:Operand)(f:Nat):Ev.bF P G ⟨d,.fieldAddr t x f,ty,pos,aft,g⟩ K s=bF P G ⟨d,.fieldAddr t x f,ty,pos,aft,g⟩ K s:=rfl
def MU (t:TypeId)(x y:Operand):Ev.bF P G ⟨d,.makeSlice t x y,ty,pos,aft,g⟩ K s=bF P G ⟨d,.makeSlice t x y,ty,pos,aft,g⟩ K s:=rfl
def MV (t:TypeId)(l:Nat)(p:Array (Nat × Operand)):Ev.bF P G ⟨d,.buildSlice t l p,ty,pos,aft,g⟩ K s=bF P G ⟨d,.buildSlice t l p,ty,pos,aft,g⟩ K s:=rfl
def Cs (t:TypeId)(p:Array (Nat × Operand)):Ev.bF P G ⟨d,.build t p,ty,pos,aft,g⟩ K s=bF P G ⟨d,.build t p,ty,pos,aft,g⟩ K s:=rfl
def MW (t:TypeId)(x:Operand):Ev.bF P G ⟨d,.box t x,ty,pos,aft,g⟩ K s=bF P G ⟨d,.box t x,ty,pos,aft,g⟩ K s:=rfl
def MX (op:BinOp)(t:TypeId)(x y:Operand)(u:TypeId):Ev.bF P G ⟨d,.binOp op t x y u,ty,pos,aft,g⟩ K s=bF P G ⟨d,.binOp op t x y u,ty,pos,aft,g⟩ K s:=rfl
def Ct (f:Builtin)(args:Array Operand)(ats:Array TypeId):Ev.bF P G ⟨d,.call ⟨.builtin f,args,ats⟩,ty,pos,aft,g⟩ K s=bF P G ⟨d,.call ⟨.builtin f,args,ats⟩,ty,pos,aft,g⟩ K s:=rfl
def Cu (a:Nat):Ev.nY a (a+1)=[a]:=by
 unfold Ev.nY;rw[X0];simp[VW]
def Cv {bk:ZO}:(⟨Ev.cY (Ev.fX H.A (H.A+1) (fun _=>true) (ext ⟨fun _=>none,H.A⟩ [bk]).get) H.get,H.A+1⟩:ZH)=ext H [bk]:=by
 unfold ext;simp only[Wf];congr 1
 funext j
 unfold Ev.cY Ev.fX;by_cases h:H.A<=j/\j<H.A+1
 ·have:j=H.A:=V
  subst this;simp
 ·simp[h]
def aK.MY {lo k g':Nat}{e e':TypeId}{v:ZI}{cs c:List ZI}(h:aK lo H e v cs)(hk:H.get k=some (.J g' e' c))(hne:e'≠e):∀g n,v≠.U k g 0 n 1:=fun g n hv=>by
 rcases h with ⟨h1,_⟩|⟨i,g2,_,_,h3,h4⟩
 ·rw[h1]at hv;cases hv
 ·rw[h3]at hv;obtain rfl:=(ZI.U.inj hv).1;rw[h4]at hk;cases hk;exact hne rfl
def MZ (t:TypeId):Ev.bF P G ⟨d,.alloc t,ty,pos,aft,g⟩ K s=bF P G ⟨d,.alloc t,ty,pos,aft,g⟩ K s:=rfl
end Go.Hx
namespace Go.Proofs
open Go.Hx Tryz
variable {a tot:Int}{c g k m:Nat}{ch:Nat->List Int}{d:ZK}{D:ZR}
def Uh {H:ZH}{ib:Nat}(hm:1<=m/\m<2 ^ 30)(hi:ib<H.A)(hg:H.get ib=some (.J 0 3 [aa a])):
  Ev.nW prog G0 (.X 112 [] []) [.U ib 0 0 1 1,aa m] H (.U H.A 0 0 m 1) (Ev.fX H.A (H.A+1) (fun _=>true) (ext ⟨fun _=>none,H.A⟩ [.J 0 3 (ints (List.replicate m a))]).get) 1 ⟨Ev.nY H.A (H.A+1),[ib]⟩:=by
 have e:H.A+1-H.A=1:=V
 have hnx:(ext (⟨fun _=>none,H.A⟩:ZH) [.J 0 3 (ints (List.replicate m a))]).A=H.A+1:=rfl;have:=Ev.nW.mk (P:=prog) (G:=G0) (H:=H) (f:=112) (first:=[]) (cap:=[]) (args:=[.U ib 0 0 1 1,aa m]) (args':=[af [a],aa m]) (v:=.U H.A 0 0 m 1) ⟨fun _=>none,H.A⟩ (ext ⟨fun _=>none,H.A⟩ [.J 0 3 (ints (List.replicate m a))]) (fun _=>False) (fun _=>true) [ib] aF
  (fun r hr=>by rw[List.mem_singleton.1 hr];exact hi) rfl (by rw[hnx];exact Xu _) (fun _ h=>h.elim) (fun _ _=>rfl) rfl
  (fun H2 hag i h h'=>match i,h with
   |0,_=>Fz.ints (fun h=>h) ((hag ib ZD).trans hg) rfl (fun j hj=>by
     have:j=0:=(by simp at hj;omega);subst this;rfl)
   |1,_=>.lit _)
  (Ug a m hm ⟨fun _=>none,H.A⟩ _ ⟨rfl,rfl⟩) ?_ ?_
 ·rw[hnx,e]at this;exact this
 ·exact .U (.inr ⟨ZG,by rw[hnx];exact Wg _,rfl⟩)
 ·intro id h1 h2 _;have:id=H.A:=by rw[hnx]at h2;omega
  subst this;exact⟨0,_,_,eh (H:=⟨fun _=>none,H.A⟩),fun i hi=>by simp only[ints,Vt];exact .lit _⟩
def cu (l:List Int):Nat:=(l.map Int.natAbs).sum
def tL (a b:List Int):cu (a++b)=cu a+cu b:=by simp[cu]
def pU (x:Int)(l:List Int):cu (x :: l)=x.natAbs+cu l:=by simp[cu]
def Ak (n:Nat):cu (List.replicate n 0)=0:=by simp[cu]
def Fx (l:List Int)(i:Nat)(a:Int):cu (l.set i a)<=cu l+(a-l.getD i 0).natAbs:=by
 induction l generalizing i with
 |nil=>simp[cu]
 |cons x l ih =>
  cases i with
  |zero=>simp only[List.set_cons_zero,pU,Zy];omega
  |succ i =>
   have:=ih i;simp only[List.set_cons_succ,pU,Zz];omega
def wD (l:List Int)(i:Nat):(l.getD i 0).natAbs<=cu l:=by
 induction l generalizing i with
 |nil=>simp[cu]
 |cons x l ih =>
  cases i with
  |zero=>simp only[pU,Zy];omega
  |succ i=>have:=ih i;simp only[pU,Zz];omega
def SF {l:List Int}(h:a∈l):a.natAbs<=cu l:=by
 obtain⟨i,hi⟩:=Vj.1 h;have:=wD l i;rw[Vh,hi]at this;exact this
def SG (l:List Int):(iG l).natAbs<=cu l:=by
 by_cases h:l=[]
 ·subst h;simp[iG]
 ·exact SF (zF h)
def SH (l:List Int)(n:Nat):cu (l.take n)+cu (l.drop n)=cu l:=by rw[<- tL,VX]
def SI (cs cd:Nat)(ex:List Int):kF (cs+1) cd ex=kF cs cd ex++[iG (jk cd cs ex)]:=by unfold kF;rw[VW,V5];rfl
def Al (cs cd:Nat)(ex:List Int):cu (kF cs cd ex)<=cu (ex.take (cs*cd)):=by
 induction cs with
 |zero=>simp[kF,cu]
 |succ cs ih =>
  rw[SI,tL,pU];have h1:=SG (jk cd cs ex);have h2:ex.take ((cs+1)*cd)=ex.take (cs*cd)++jk cd cs ex:=by
   unfold jk;rw[VU,Xt,List.take_add]
  have h3:cu []=0:=rfl;rw[h2,tL,h3];omega
def rL (l:List Int)(n:Nat):cu (l.take n)<=cu l:=by have:=SH l n;omega
def Fy (ab be ex:List Int)(n:Nat):cu (dS ab be n ex)<=cu ex+cu (be.take n):=by
 induction n with
 |zero=>simp[dS]
 |succ n ih =>
  rw[wy];have h1:=Fx (dS ab be n ex) (ab.getD n 0).toNat ((dS ab be n ex).getD (ab.getD n 0).toNat 0+be.getD n 0);have h2:cu (be.take n)+(be.getD n 0).natAbs<=cu (be.take (n+1)):=by
   by_cases h:n<be.length
   ·obtain⟨x,hx⟩:=ay h;rw[bb hx,tL,pU,Vh,hx];show cu (be.take n)+x.natAbs<=_;omega
   ·rw[Vg V,Vg V,Vh,Vm V];simp
  omega
def FA (hg:∀w,w<D.N->(D.nt w).natAbs<=g)(k:Nat):∀n,n<=D.N->cu (bC D k n)<=g*n:=by
 intro n
 induction n with
 |zero=>intro _;unfold bC;rw[Ak];exact WH _
 |succ n ih =>
  intro hn;have h1:=ih V;have h2:=hg n V;rw[Xg,Nat.mul_one];unfold bC;split
  ·have:=Fx (bC D k n) (D.br k n) ((bC D k n).getD (D.br k n) 0+D.nt n);omega
  ·omega
def FB (hg:∀w,w<D.N->(D.nt w).natAbs<=g):∀(m k:Nat),k+1+m=D.K->cu (EF D k)<=g*D.N:=by
 intro m
 induction m with
 |zero =>
  intro k hk;rw[Ag V];exact FA hg k _ (Nat.le_refl _)
 |succ m ih =>
  intro k hk;rw[Ah V];have h1:=ih (k+1) V;have h2:=Fy (dq D (k+1) D.N) (BF D (k+1)) (bC D k D.N) (D.cs (k+1));have h3:=rL (BF D (k+1)) (D.cs (k+1));have h4:cu (BF D (k+1))<=cu (EF D (k+1)):=VO (Al _ _ _) (rL _ _);rw[tJ V,Ak]at h2;rw[tJ V];omega
def SJ (hg:∀w,w<D.N->(D.nt w).natAbs<=g)(hk:k<D.K)(hk0:0<k)(n:Nat):cu (dS (dq D k D.N) (BF D k) n (bC D (k-1) D.N))<=g*D.N:=by
 have h1:=FB hg (D.K-1-k) k V;have h2:=Fy (dq D k D.N) (BF D k) (bC D (k-1) D.N) n;have h3:=rL (BF D k) n;have h4:cu (BF D k)<=cu (EF D k):=VO (Al _ _ _) (rL _ _);rw[tJ V,Ak]at h2;rw[tJ V];omega
def SK (l:List Int):∀n,(SS n fun c=>l.getD c 0).natAbs<=cu (l.take n):=by
 intro n
 induction n with
 |zero=>rw[pI];simp
 |succ n ih =>
  rw[ie];by_cases h:n<l.length
  ·obtain⟨x,hx⟩:=ay h;rw[bb hx,tL,pU,Vh,hx];show _<=cu (l.take n)+(x.natAbs+cu [])
   simp only[Option.getD_some];omega
  ·rw[Vg V]at ih;rw[Vg V,Vh,Vm V];simp only[Option.getD_none,XM];exact ih
def SL (hg:∀w,w<D.N->(D.nt w).natAbs<=g):∀n,n<=D.N->(SS n D.nt).natAbs<=g*n:=by
 intro n
 induction n with
 |zero=>intro _;rw[pI];simp
 |succ n ih =>
  intro hn;have:=ih V;have:=hg n V;rw[ie,Xg,Nat.mul_one];omega
def SM (hok:ZP d)(h6:d.C.length<=6)(r:List Nat):(∀w,w<(az d r).N->((az d r).nt w).natAbs<=18662400000000)/\18662400000000*(az d r).N<=20000000000000000:=by
 have h1:=(Ew hok.nC).1;rw[FD]at h1;refine⟨fun w _=>?_,by show 18662400000000*cJ d.C<=_;omega⟩;have:=Gm hok h6 (iF hok w);show (dm d (wv d w)).natAbs<=_;omega
def eN (D:ZR)(ch:Nat->List Int)(j:Nat):ZT:=⟨fun k=>dq D k D.N,fun k=>eC D k D.N,fun k=>if j<=k+1 then EF D k else bC D k D.N,fun k=>if j<=k then BF D k else List.replicate (D.cs k) 0,ch⟩
def qb (D:ZR):Nat->List Int:=fun k=>List.replicate (D.cs k) 0
def iU (D:ZR):Nat->List Int:=fun k=>List.replicate (D.cs k) (-1)
def fC (D:ZR)(j:Nat):Int:=if D.K=0\/j=0 then rI D else 0
def FY (hc:∀k,k<D.K->(ch k).length=D.cs k)(j:Nat):(eN D ch j).Len D D.K:=by
 refine⟨fun k _=>rH D k _,fun k _=>pT D k _,fun k _=>?_,fun k _=>?_,hc⟩
 ·unfold eN;simp only;split
  ·exact Af D k
  ·exact mu D k _
 ·unfold eN;simp only;split
  ·exact Fp ..
  ·simp
def TA (D:ZR)(ch:Nat->List Int):xa D.K (iV D (qb D) ch D.N) (eN D ch D.K):=fun k j hk=>by
 have e1:(if D.K<=k then BF D k else List.replicate (D.cs k) 0)=List.replicate (D.cs k) 0:=Ve V;have e2:(if D.K<=k+1 then EF D k else bC D k D.N)=bC D k D.N:=by
  split
  ·exact Ag (V)
  ·rfl
 unfold dN iV eN qb;simp only[e1,e2]
def AA (hk:k<D.K):cw D (eN D ch (k+1)) k=BF D k:=by
 unfold cw BF;have:(eN D ch (k+1)).ex k=EF D k:=Vf ZG;rw[this]
def TB (hk:k<D.K):xa D.K (tW D (eN D ch (k+1)) k) (eN D ch k):=fun k' j hk'=>by
 have hA:=AA (ch:=ch) hk;have e1:fG (eN D ch (k+1)).be k (cw D (eN D ch (k+1)) k) k'=if k<=k' then BF D k' else List.replicate (D.cs k') 0:=by
  by_cases e:k'=k
  ·rw[e,lK,hA,Vf ZG]
  ·rw[lL e];show (if k+1<=k' then BF D k' else List.replicate (D.cs k') 0)=_;by_cases h:k<=k'
   ·rw[Vf h,Vf V]
   ·rw[Ve h,Ve V]
 have e2:(if 0<k then fG (eN D ch (k+1)).ex (k-1) (dS ((eN D ch (k+1)).ab k) (cw D (eN D ch (k+1)) k) (D.cs k) ((eN D ch (k+1)).ex (k-1))) else (eN D ch (k+1)).ex) k'=if k<=k'+1 then EF D k' else bC D k' D.N:=by
  by_cases h0:0<k
  ·rw[Vf h0,hA];by_cases e:k'=k-1
   ·rw[e,lK,Vf V];have h1:(eN D ch (k+1)).ex (k-1)=bC D (k-1) D.N:=Ve V;have h2:=Ah (D:=D) (k:=k-1) V;rw[Nat.sub_add_cancel h0]at h2;rw[h1,h2];rfl
   ·rw[lL e];show (if k+1<=k'+1 then EF D k' else bC D k' D.N)=_;by_cases h:k<=k'+1
    ·rw[Vf h,Vf V]
    ·rw[Ve h,Ve V]
  ·rw[Ve h0];show (if k+1<=k'+1 then EF D k' else bC D k' D.N)=_;rw[Vf V,Vf V]
 unfold dN tW eN at *
 simp only at e1 e2;simp only[e1,e2]
def TC (hk:k<D.K):gS D (eN D ch (k+1)) k (D.cs k) (fC D (k+1))=fC D k:=by
 have hA:=AA (ch:=ch) hk;have h0:fC D (k+1)=0:=by unfold fC;rw[Ve V]
 unfold gS;rw[h0,hA];by_cases h:0<k
 ·rw[Vf h];unfold fC;rw[Ve V]
 ·have:k=0:=V
  subst this;rw[Ve h];unfold fC rI;rw[Vf V,Ve V];simp
def AB :∀(f need:Nat) (out r:List Nat),gK d f need out=some r->r.length<=out.length+f:=by
 intro f
 induction f with
 |zero =>
  intro need out r h;unfold gK at h;split at h
  ·cases h;omega
  ·cases h
 |succ f ih =>
  intro need out r h;unfold gK at h;split at h
  ·cases h;omega
  ·split at h
   ·cases h
   ·have:=ih _ _ r h;rw[List.length_append,Wf]at this;omega
def TD (hok:ZP d){r:List Nat}(hr:ZX d r):∀k,k<r.length->1<=(az d r).cs k/\(az d r).cs k<=1024/\1<=(az d r).cd k/\(az d r).cd k<=4/\(az d r).cs k*(az d r).cd k<=4096:=fun k hk=>by
 obtain⟨v,hv⟩:=ay hk;have hvd:r.getD k 0=v:=gF hv;have hm:=hr.mem v (Va hv);obtain⟨x,hx⟩:=ay (bL.1 hm).1;obtain⟨hrn,hxp,_,_⟩:=xf hok hx;have hxc:=hok.n.L x (Va hx);obtain⟨e1',e2'⟩:=iQ hx V;have ecs:(az d r).cs k=cr d.C x:=by show dC d (r.getD k 0)=_;rw[hvd];exact e1'
 have ecd:((az d r).cd k:Int)=x.L:=by show (eK d (r.getD k 0):Int)=_;rw[hvd];exact e2'
 have hsz0:=hok.nC.size;rw[jX]at hsz0;have:=zJ hxp hok.n.L;have h1:=Ai hok hr k hk;have a1:(az d r).cs k<=1024:=V
 have a2:(az d r).cd k<=4:=V
 exact⟨h1,a1,V,a2,Xz a1 a2⟩
def Dl (d:ZK)(r:List Nat)(u:Nat):ZO:=.J 0 157 (gZ d r u)
def vp (d:ZK)(hf:Z6 d)(dec:Int)(H:ZH)(K:ZN->ZH->Prop)
  (hE:dB d=4->K (.ret (.nc [.lit (.pointer none),aa 210])) H)
  (hE2:dB d≠4->dB d≠0->K (.ret (.nc [.lit (.pointer none),aa (dB d)])) H)
  (hN:dB d=0->dec ∉ aH (gL d)->K (.ret (.nc [.lit (.pointer none),aa 2])) H)
  (hK:∀(r:List Nat) (u:Nat) (H':ZH),dB d=0->gL d=r->dec=u->u∈r->H'=ext H [lH d,Dl d r u]->K (.ret (.nc [.O (H.A+1) 0 0,aa 0])) H'):
  ae prog G0 40 [dh d,aa dec] H K:=by
 refine ae.X ⟨_,func40,rfl,rfl⟩ fun hcl=>?_;refine ae.sw (n:=27) (rs:=[.tmp 4,.tmp 5]) func40 ?_;refine W.sq ?_;simp only[go_sem,ij,c9];obtain⟨H1,hH1⟩:∃H1,H1=ext H [.J 0 38 [.lit (.int .i64 d.nl),.Q d.C.length (aI d.C),.lit (.int .u64 (d.Y:Int)),.Q d.Z.length (bt d.Z)]]:=⟨_,rfl⟩
 have g1:=dI hH1
 have o1:ZM H H1:=hH1▸.ext _ _
 rw[<- hH1];have l1:=ah g1;refine W.sq ?_;simp only[go_sem,l1];refine ao.X (Cl d hf H1 _ ⟨trivial,?_⟩);simp only[go_sem];by_cases h4:dB d=4
 ·refine W.sq ?_;simp only[go_sem,h4];exact ak.bB aF hcl o1 (.nc rfl fun i hi _=>match i,hi with|0,_=>.lit _|1,_=>.lit _) (hE h4)
 refine W.sq ?_;simp only[go_sem,h4];by_cases h0:dB d=0;rotate_left
 ·refine W.sq ?_;simp only[go_sem,h0];exact ak.bB aF hcl o1 (.nc rfl fun i hi _=>match i,hi with|0,_=>.lit _|1,_=>.lit _) (hE2 h4 h0)
 refine W.sq ?_;simp only[go_sem,h0];have hrl:((aH (gL d)).length:Int)<2 ^ 62:=by
  have h1:=hf.C.1;have h2:(aG d).length<=d.C.length:=pH;unfold gL;rw[Vf h0];cases hr:iL d with
  |none=>simp[aH]
  |some r =>
   have h3:=AB _ _ _ _ hr;simp[aH]at h3 ⊢;omega
 refine W.sq ?_;simp only[go_sem];refine ao.X (Dh (aH (gL d)) dec hrl H1 _ ⟨trivial,?_⟩);by_cases hm:dec∈aH (gL d);rotate_left
 ·rw[V1 hm];simp only[go_sem];exact ak.bB aF hcl o1 (.nc rfl fun i hi _=>match i,hi with|0,_=>.lit _|1,_=>.lit _) (hN h0 hm)
 rw[VB hm];simp only[go_sem];obtain⟨u,hu,rfl⟩:∃u:Nat,u∈gL d/\(u:Int)=dec:=by
  unfold aH at hm;obtain⟨u,h1,h2⟩:=Vu.1 hm;exact⟨u,h1,h2⟩
 refine W.vs ?_;simp only[go_sem,l1];refine ak.mk (by rw[hH1,aX,aX];simp;omega) ?_;have:=hK (gL d) u (ext H [lH d,Dl d (gL d) u]) h0 rfl rfl hu rfl;rw[hH1,ef];exact this
structure BldH (d:ZK)(r:List Nat)(lo s n:Nat)(lvh:ZI)(I:Nat->Nat->Nat)(H:ZH):Prop where
 top:H.get s=some (.J 0 184 [.lit (.int .i64 d.nl),.Q d.C.length (aI d.C),.lit (.int .u64 (d.Y:Int)),.Q d.Z.length (bt d.Z),lvh,af (eE d),af (dO d),.lit (.int .i64 0)])
 nI:s<H.A
 lv:aK lo H 187 lvh (lJ I n)
 sep:∀k j,k<n->j<6->s≠I k j
 nK:∀id g m,lvh=.U id g 0 m 1->id≠s/\∀k j,k<n->j<6->id≠I k j
 nj:nni (az d r) r lo n I (iV (az d r) (qb (az d r)) (iU (az d r)) 0) H
 nv:n=0->lvh=.lit (.slice none 0 0)
def TE (d:ZK)(hf:Z6 d)(h6:d.C.length<=6)(H:ZH)(K:ZN->ZH->Prop)
  (hE:∀H',ZM H H'->dB d=4->K (.ret (.nc [.lit (.pointer none),.lit (.int .i64 210)])) H')
  (hE2:∀H',ZM H H'->dB d≠4->dB d≠0->K (.ret (.nc [.lit (.pointer none),aa (dB d)])) H')
  (hK:∀(r:List Nat) (s:Nat) (lvh:ZI) (I:Nat->Nat->Nat) (H':ZH),iL d=some r->ZP d->ZM H H'->ZU d r H.A s lvh I (eN (az d r) (iU (az d r)) 0) (fC (az d r) 0) H'->(r=[]->lvh=.lit (.slice none 0 0))->K (.ret (.nc [.O s 0 0,.lit (.int .i64 0)])) H'):
  ae prog G0 67 [dh d] H K:=by
 refine ae.sw (n:=96) (rs:=[.tmp 2,.tmp 3]) func67 ?_;refine W.sq ?_;simp only[go_sem,ij,c9];obtain⟨H1,hH1⟩:∃H1,H1=ext H [.J 0 38 [.lit (.int .i64 d.nl),.Q d.C.length (aI d.C),.lit (.int .u64 (d.Y:Int)),.Q d.Z.length (bt d.Z)]]:=⟨_,rfl⟩
 have g1:=dI hH1
 have n1:H1.A=H.A+1:=hH1▸rfl
 have o1:ZM H H1:=hH1▸.ext _ _
 rw[<- hH1];clear hH1;have l1:=ah g1;refine W.sq ?_;simp only[go_sem,l1];refine ao.X (Cl d hf _ _ ⟨trivial,?_⟩);simp only[go_sem];refine W.en (fun E=>E 1=.O H.A 0 0 /\ E 4=af (aH (gL d)) /\ E 5=aa (dB d)) (by simp only[go_sem]) fun E ⟨e1,e4,e5⟩=>?_
 by_cases h4:dB d=4
 ·refine W.sq ?_;simp only[go_sem,e5,h4];exact ak.mk o1.A (hE H1 o1 h4)
 refine W.sq ?_;simp only[go_sem,e5,h4];by_cases h0:dB d=0;rotate_left
 ·refine W.sq ?_;simp only[go_sem,e5,h0];exact ak.mk o1.A (hE2 H1 o1 h4 h0)
 have hok:ZP d:=by
  unfold dB at h0;by_cases h:ZP d
  ·exact h
  ·rw[oJ h]at h0;simp at h0
 obtain⟨r,hr⟩:∃r,iL d=some r:=by
  unfold dB at h0;rw[mw hok]at h0;simp only[if_true]at h0;split at h0
  ·rename_i hs;exact VJ.1 hs
  ·cases h0
 have hrv:gL d=r:=by unfold gL;rw[Vf h0,hr];rfl
 rw[hrv]at e4;have hrl8:r.length<=8:=by
  have h1:=AB _ _ _ _ hr;have h2:(aG d).length<=d.C.length:=pH;have h3:=hok.n.n1;simp at h1;omega
 have hrl:r.length<=64:=V
 have hro:=tI hr;refine W.sq ?_;simp only[go_sem,e5,h0];refine W.sq ?_;simp only[go_sem,e1,l1];obtain⟨H2,hH2⟩:∃H2,H2=ext H1 [.J 0 184 [.lit (.int .i64 d.nl),.Q d.C.length (aI d.C),.lit (.int .u64 (d.Y:Int)),.Q d.Z.length (bt d.Z),.lit (.slice none 0 0),.lit (.slice none 0 0),.lit (.slice none 0 0),.lit (.int .i64 0)],.J 0 134 [.O H1.A 0 0]]:=⟨_,rfl⟩
 have g2:=dI hH2
 have g3:=gE hH2 1 rfl
 have n2:H2.A=H1.A+2:=hH2▸rfl
 have o2:ZM H1 H2:=hH2▸.ext _ _
 rw[<- hH2];clear hH2;have l1':=ah ((o2.nf _ V).trans g1);have l2:=ah g2;have l3:=ah g3;refine W.en (fun E2=>E2 1=.O H.A 0 0 /\ E2 4=af (aH r) /\ E2 6=.O (H1.A+1) 0 0) (by simp only[go_sem,e1,e4]) fun E2 ⟨f1,f4,f6⟩=>?_
 clear e1 e4 e5 l1;refine W.sX (fun s'=>s'.ρ 4=af (aH r)/\s'.ρ 6=.O (H1.A+1) 0 0/\s'.H.A=H2.A/\(∀i,i≠H1.A->s'.H.get i=H2.get i)/\s'.H.get H1.A=some (.J 0 184 [.lit (.int .i64 d.nl),.Q d.C.length (aI d.C),.lit (.int .u64 (d.Y:Int)),.Q d.Z.length (bt d.Z),.lit (.slice none 0 0),af (eE d),af (dO d),.lit (.int .i64 0)])) ?_ ?_
 ·refine W.dr 10 [0,0,0,4,12,28,28,61,189,445] mixed ?_;simp only[go_sem,f1,f6,l1',l3];refine⟨.nc [af (eE d),af (dO d)],[],bD.pure fun H9=>Uu d hok hf.Y H9 _ ⟨rfl,rfl⟩,?_⟩;simp only[go_sem,f1,f4,f6,l2];refine⟨fun x hx=>V,by rw[aQ,aQ],fun i h=>?_,?_⟩
  ·rw[aj,Ve h,aj,Ve h]
  ·rw[aj,Vf rfl]
 rintro⟨ρ3,H3⟩ ⟨k4,k6,n3,o3,g4⟩;simp only at k4 k6 n3 o3 g4;clear f1 f4 f6 l1' l2 l3;have g5:H3.get (H1.A+1)=_:=(o3 _ V).trans g3;have hnl:(aH r).length=r.length:=by simp[aH]
 refine W.sq ?_;simp only[go_sem,k4,hnl];refine W.en (fun E3=>E3 6=.O (H1.A+1) 0 0 /\ E3 36=.Q r.length (ints (aH r)) /\ E3 37=aa r.length /\ E3 38=aa 0) (by simp only[go_sem,k6]) fun E3 ⟨m6,m36,m37,m38⟩=>?_
 clear k4 k6;refine W.aT 38685626227667858712692480 (by rfl) (fun ρ Hx=>∃(n:Nat) (lvh:ZI) (I:Nat->Nat->Nat),ρ 38=aa n/\n<=r.length/\H3.A<=Hx.A/\(∀i,i<H3.A->i≠H1.A->Hx.get i=H3.get i)/\BldH d r H3.A H1.A n lvh I Hx) (fun ρ Hx=>r.length-(iv (ρ 38)).toNat) ?_ ?_
 ·simp only[go_sem,m38];refine⟨0,.lit (.slice none 0 0),fun _ _=>0,rfl,WH _,⟨g4,V,.nil,fun k j h=>absurd h (Vs _),fun id g m h=>(by cases h),?_,fun _=>rfl⟩⟩;exact⟨fun k j k' j' h=>absurd h (Vs _),fun k j h=>absurd h (Vs _),fun k h=>absurd h (Vs _),fun k j h=>absurd h (Vs _),⟨fun k h=>absurd h (Vs _),fun k h=>absurd h (Vs _),fun k h=>absurd h (Vs _),fun k h=>absurd h (Vs _),fun k h=>absurd h (Vs _)⟩⟩
 rintro ρ Hx ⟨n,lvh,I,h38,hn,nx,hout,hB⟩;refine W.en (fun E4=>E4 6=.O (H1.A+1) 0 0 /\ E4 36=.Q r.length (ints (aH r)) /\ E4 37=aa r.length /\ E4 38=aa n) (by simp only[go_sem,m6,m36,m37,h38]) fun E4 ⟨f6,f36,f37,f38⟩=>?_
 have gp:=(hout (H1.A+1) V V).trans g5;have lp:=ah gp;have ls:=ah hB.top;by_cases hb:(n:Int)<r.length;rotate_left
 ·refine W.vs ?_;simp only[go_sem,f37,f38,hb];have hnr:n=r.length:=V
  subst hnr;have hD0:=TD hok hro;obtain⟨hg1,hg2⟩:=SM hok h6 r;have ht0:fj d r 0=0:=by unfold fj;split<;>rfl
  have hS0:ZU d r H.A H1.A lvh I (iV (az d r) (qb (az d r)) (iU (az d r)) 0) (fj d r 0) Hx:=by
   rw[ht0];exact⟨hB.top,⟨V,hB.nI⟩,hB.lv.ng V ZG fun _ _ _ _ _ _=>rfl,hB.sep,hB.nK,⟨hB.nj.inj,fun k j h1 h2=>by have:=hB.nj.np k j h1 h2;omega,hB.nj.nJ,hB.nj.nG,hB.nj.len⟩⟩
  refine W.sq ?_;simp only[go_sem,f6,lp];refine ao.X (Uc hok hro hrl (fun k hk=>by have:=hD0 k hk;omega) (fun k hk=>by have:=hD0 k hk;omega) (fun k b hk n hn=>?_) (fun n hn=>?_) (fun w hw=>?_) Hx hS0 _ fun H4 n4 o4 hS4=>⟨trivial,?_⟩)
  ·have h1:=FA hg1 k n hn;have h2:=wD (bC (az d r) k n) b;have h3:18662400000000*n<=18662400000000*(az d r).N:=Wj _ hn;omega
  ·have h1:=SL hg1 n hn;have h3:18662400000000*n<=18662400000000*(az d r).N:=Wj _ hn;omega
  ·have:=Gm hok h6 (iF hok w);omega
  simp only[go_sem];have gp4:H4.get (H1.A+1)=some (.J 0 134 [.O H1.A 0 0]):=(o4 _ (by have:=nx;omega) V (fun k j h1 h2 e=>by have:=(hB.nj.np k j h1 h2).1;omega)).trans gp;have lp4:=ah gp4;refine W.sq ?_;simp only[go_sem,f6,lp4];refine ao.X (Ub H1.A H4 _ ⟨trivial,?_⟩);simp only[go_sem];obtain⟨H5,hH5⟩:∃H5,H5=ext H4 [.J 0 134 [.O H1.A 0 0]]:=⟨_,rfl⟩
  have n5:H5.A=H4.A+1:=hH5▸rfl
  have o5:ZM H4 H5:=hH5▸.ext _ _
  have gbx:=dI hH5
  rw[<- hH5];clear hH5;have hT5:ZU d r H.A H1.A lvh I (eN (az d r) (iU (az d r)) r.length) (fC (az d r) r.length) H5:=by
   have h1:=(hS4.same (TA (az d r) (iU (az d r))) (FY (fun k _=>by simp[iU]) _)).oS hS4.bnd V fun i hi=>o5.nf i hi;have h2:fj d r (cJ d.C)=fC (az d r) r.length:=by
    unfold fj fC;by_cases h:r.length=0
    ·rw[Vf h,Vf (.inl h)];unfold rI;rw[Vf (show (az d r).K=0 from h)];rfl
    ·rw[Ve h,Ve (by rintro(h1|h1)<;>exact h h1)]
   rw[<- h2];exact h1
  have hB5:=hT5.bnd;refine W.env fun E6 hE6=>?_;have w6:E6 6=.O (H1.A+1) 0 0:=by rw[hE6];simp only[go_sem,f6]
  have w90:E6 90=.X 149 [] [.O H4.A 0 0]:=by rw[hE6];rfl
  clear hE6;have hni:∀k j,k<r.length->j<6->I k j<H4.A:=fun k j h1 h2=>(hS4.nj.np k j h1 h2).2;have hns:H1.A<H4.A:=hS4.nI.2;have hpI:∀k j,k<r.length->j<6->H1.A+1≠I k j:=fun k j h1 h2 e=>by have:=(hB.nj.np k j h1 h2).1;omega
  refine W.rY (f:=149) (first:=[]) (cap:=[.O H4.A 0 0]) (by show E6 90=_;exact w90) (Ua d H1.A H4.A r.length hrl)
   (fun k Hy=>H5.A<Hy.A/\(∀i,i<H5.A->i≠H1.A->(∀k j,k<r.length->j<6->i≠I k j)->Hy.get i=H5.get i)/\ZU d r H.A H1.A lvh I (eN (az d r) (iU (az d r)) (r.length-k)) (fC (az d r) (r.length-k)) Hy)
   (fun _ _=>False)
   (fun k Hy h=>⟨(h.2.1 _ V V fun k j h1 h2 e=>by have:=hni k j h1 h2;omega).trans gbx,_,_,h.2.2.top,h.2.2.len⟩)
   (fun k Hy b h=>⟨h.1,fun i h1 h2 h3=>by rw[aj,Ve V];exact h.2.1 i h1 h2 h3,h.2.2.oS hB5 (by rw[aQ];exact Nat.le_refl _) fun i hi=>by rw[aj,Ve V]⟩)
   (fun _ _ _ h=>h)
   (fun b=>⟨by rw[aX];simp,fun i h1 _ _=>dA h1,hT5.oS hB5 (by rw[aX];omega) fun i hi=>dA hi⟩)
   ZE (fun x hx=>by rw[T8 x hx];rfl) (fun _ _ _=>trivial) (fun _ _ _=>trivial) (fun k y Hy B Bb hy hj hn hBq hBb=>?_) (fun Hy hj hn=>?_) (fun _ hs _=>hs.elim) (fun _ _ hs _=>hs.elim)
  ·obtain⟨hk,rfl⟩:=T7 hy;obtain⟨kk,hkk⟩:∃kk,kk=r.length-1-k:=⟨_,rfl⟩
   have e1:(r.length:Int)-1-(k:Int)=(kk:Int):=V;have e2:r.length-k=kk+1:=V;have e3:r.length-(k+1)=kk:=V;rw[e1];rw[e2]at hj;rw[e3];refine W.vs ?_;simp only[go_sem,jM,dw,mC,Wi,XA,WY,W6,hBq];obtain⟨H6,hH6⟩:∃H6,H6=Hy.upd H5.A Bb:=⟨_,rfl⟩
   rw[<- hH6];obtain⟨st,pd,n',en,ps',as',bo,hBe⟩:=hBb;have n6:H6.A=Hy.A:=(by rw[hH6];rfl);have o6:∀id,id≠H5.A->H6.get id=Hy.get id:=fun id h=>by rw[hH6,aj,Ve h]
   have jB:H6.get H5.A=some Bb:=(by rw[hH6,aj,Vf rfl]);have hS6:=hj.2.2.oS hB5 (H':=H6) V fun i hi=>o6 i V;have lp6:=ah ((o6 (H1.A+1) V).trans ((hj.2.1 _ V V hpI).trans ((o5.nf _ V).trans gp4)));refine W.env fun E7 hE7=>?_;have t6:E7 6=.O (H1.A+1) 0 0:=(by rw[hE7];simp only[go_sem,dw,w6]);have t11:E7 11=aa kk:=(by rw[hE7];simp only[go_sem,dw]);clear hE7;have hkl:kk<r.length:=V;have hd1:=hD0 kk hkl;have hbf:=AA (D:=az d r) (ch:=iU (az d r)) (k:=kk) hkl;have hex:0<kk->(eN (az d r) (iU (az d r)) (kk+1)).ex (kk-1)=bC (az d r) (kk-1) (az d r).N:=fun h=>Ve V;have hBs:cu (BF (az d r) kk)<=20000000000000000:=by
    have h1:cu (BF (az d r) kk)<=cu (EF (az d r) kk):=VO (Al _ _ _) (rL _ _);have h2:=FB hg1 (r.length-1-kk) kk (show kk+1+(r.length-1-kk)=r.length by omega);omega
   refine W.vs ?_;simp only[go_sem,t6,t11,lp6];refine ao.X (TS hrl hkl V hd1.2.2.1 V V (fun h0 c hc=>?_) (fun h0 n hn=>?_) (fun h0 n hn=>?_) H6 hS6 _ fun H7 h7n h7o h7S=>⟨⟨st,pd,n',en,ps',as',bo,by rw[h7o _ V (fun k j h1 h2 e=>by have:=hni k j h1 h2;omega),jB,hBe]⟩,?_⟩)
   ·have hDo:=wx hok hro.mem;have hd2:=hD0 (kk-1) V;have hpos:0<(az d r).cs (kk-1)*(az d r).cd (kk-1):=Y2 V V;obtain⟨a,ha⟩:=ay (l:=dq (az d r) kk (az d r).N) (i:=c) (by rw[rH];exact hc);have h1:=Fo hDo (show kk<(az d r).K from hkl) (az d r).N ZG a (Va ha);have hab':((eN (az d r) (iU (az d r)) (kk+1)).ab kk).getD c 0=a:=kJ ha;rw[hab'];rcases h1.2.2 h0 with h2|h2
    ·exact⟨h1.1,h2⟩
    ·rw[h2];exact⟨Int.le_refl _,Int.ofNat_lt.2 hpos⟩
   ·rw[hbf,hex h0];have h1:=SJ hg1 (show kk<(az d r).K from hkl) h0 n;have h2:=wD (dS (dq (az d r) kk (az d r).N) (BF (az d r) kk) n (bC (az d r) (kk-1) (az d r).N)) (((eN (az d r) (iU (az d r)) (kk+1)).ab kk).getD n 0).toNat;have h3:=wD (BF (az d r) kk) n;have h4:(eN (az d r) (iU (az d r)) (kk+1)).ab kk=dq (az d r) kk (az d r).N:=rfl;rw[h4]at h2 ⊢;omega
   ·rw[hbf];have h1:=SK (BF (az d r) kk) (n+1);have h2:=rL (BF (az d r) kk) (n+1);have h3:fC (az d r) (kk+1)=0:=(by unfold fC;rw[Ve (by rintro(h|h);{ have:r.length=0:=h;omega };omega)]);rw[h3];omega
   simp only[go_sem,im];refine⟨by rw[h7o _ V (fun k j h1 h2 e=>by have:=hni k j h1 h2;omega)];exact jB,V,V,fun i h1 h2 h3=>by rw[h7o i h2 h3,o6 i V];exact hj.2.1 i h1 h2 h3,?_⟩;rw[TC (show kk<(az d r).K from hkl)]at h7S;exact h7S.same (TB (show kk<(az d r).K from hkl)) (FY (fun k _=>by simp[iU]) _)
  ·simp only[go_sem];have lpy:=ah ((hj.2.1 (H1.A+1) V V hpI).trans ((o5.nf _ V).trans gp4));refine W.vs ?_;simp only[go_sem,w6,lpy];have hov:ZM H Hy:=⟨by have:=o1.A;omega,fun i hi=>by
    have q1:∀k j,k<r.length->j<6->i≠I k j:=fun k j h1 h2 e=>by have:=(hB.nj.np k j h1 h2).1;omega
    rw[hj.2.1 i V V q1,o5.nf i V,o4 i V V q1,hout i V V,o3 i V,o2.nf i V,o1.nf i hi]⟩
   have hSf:=hj.2.2;rw[AE,X6]at hSf;exact ak.mk hov.A (hK r H1.A lvh I Hy hr hok hov hSf fun h=>hB.nv (by rw[h];rfl))
 have hn2:n<r.length:=V
 obtain⟨v,hv⟩:=ay hn2;have hvd:r.getD n 0=v:=gF hv;have hm:=hro.mem v (Va hv);obtain⟨x,hx⟩:=ay (bL.1 hm).1;obtain⟨hrn,hxp,hin,ps⟩:=xf hok hx;have hxc:=hok.n.L x (Va hx);obtain⟨e1',e2'⟩:=iQ hx V;obtain⟨D,hD⟩:∃D,D=az d r:=⟨_,rfl⟩
 have ecs:D.cs n=cr d.C x:=by rw[hD];show dC d (r.getD n 0)=_;rw[hvd];exact e1'
 have ecd:(D.cd n:Int)=x.L:=by rw[hD];show (eK d (r.getD n 0):Int)=_;rw[hvd];exact e2'
 have gv:(ints (aH r))[n]?=some (aa v):=by rw[gY];simp[aH,hv]
 have gvn:=bd gv;have hvi:(v:Int)<d.C.length:=by have:=(bL.1 hm).1;omega
 have q0:=mS hx;have qn:=fU hx;refine W.sq ?_;simp only[go_sem,f37,f38,hb];refine W.sq ?_;simp only[go_sem];refine W.seq (W.block ?_);refine W.sq ?_;simp only[go_sem,f36,f38,hb,gv,gvn];refine W.seq ?_;refine W.dr 17 [0,1,3,7,15,0,63,0,128,384,896,1920,0,8064,16256,32640,127] mixed ?_;simp only[go_sem,f6,lp,ls,q0,qn,hvi];refine⟨aa (cr d.C x),[],bD.pure fun H9=>FM d.C v x hx hin ps H9 _ (by rw[hrn];exact⟨rfl,rfl⟩),?_⟩;simp only[go_sem];obtain⟨cN,hcN⟩:∃cN,cN=D.cs n:=⟨_,rfl⟩
 obtain⟨cD,hcD⟩:∃cD,cD=D.cd n:=⟨_,rfl⟩
 refine W.env fun E5 hE5=>?_;have s6:E5 6=.O (H1.A+1) 0 0:=by rw[hE5];simp only[go_sem,f6]
 have s8:E5 8=aa v:=by rw[hE5];simp only[go_sem]
 have s9:E5 9=aa cN:=by rw[hE5,hcN,ecs];simp only[go_sem]
 have s10:E5 10=aa cD:=by rw[hE5,hcD,ecd];simp only[go_sem]
 have s38:E5 38=aa n:=by rw[hE5];simp only[go_sem,f38]
 clear hE5;have hc1:1<=cN:=by rw[hcN,hD];exact Ai hok hro n hn2
 have hsz0:=hok.nC.size;rw[jX]at hsz0;have hcb:cN<=1024:=by have:=zJ hxp hok.n.L;omega
 have hdb:cD<=4:=V
 have w0:=Vb ((cN:Int)*(cD:Int)) (by rw[<- WB];have:=Xz hcb hdb;omega);obtain⟨cE,hcE⟩:∃cE,cE=cN*cD:=⟨_,rfl⟩
 have q1:(cN:Int)*(cD:Int)=(cE:Int):=by rw[hcE];simp
 have hcd2:cE<=4096:=by rw[hcE];exact Xz hcb hdb
 rw[q1]at w0;have z1:(0:Int)<=(cN:Int):=V
 have z2:(0:Int)<=(cE:Int):=V
 refine Ev.W.A6 24 [0,0,2,6,14,0,0,0,128,0,512,0,0,6144,14336,0,32768,0,0,393216,1048544,2097120,4194272,8388606] mixed ZF ZF ?_;simp only[go_sem,s6,s8,s9,s10,lp,ls,q1,w0,z1,z2,Cn,Co,Cp,MS,Cq,MT,Cr,MU,MV,Cs,MW,MX];obtain⟨H4,hH4⟩:∃H4,H4=ext (ext Hx [.J 0 3 (List.replicate cN (.lit (.int .i64 0))),.J 0 4 (List.replicate cN (.lit (.bool false))),.J 0 3 (List.replicate cE (.lit (.int .i64 0))),.J 0 3 (List.replicate cN (.lit (.int .i64 0)))]) [.J 0 3 [.lit (.int .i64 (-1))]]:=⟨_,rfl⟩
 rw[<- hH4];have n4:H4.A=Hx.A+4+1:=by rw[hH4];rfl
 have o4:ZM Hx H4:=by rw[hH4];exact(ZM.ext _ _).trans (.ext _ _)
 have b0:H4.get Hx.A=some (.J 0 3 (List.replicate cN (.lit (.int .i64 0)))):=by rw[hH4,ef];exact bN Hx _ 0 (ZD)
 have b1:H4.get (Hx.A+1)=some (.J 0 4 (List.replicate cN (.lit (.bool false)))):=by rw[hH4,ef];exact bN Hx _ 1 (ZD)
 have b2:H4.get (Hx.A+2)=some (.J 0 3 (List.replicate cE (.lit (.int .i64 0)))):=by rw[hH4,ef];exact bN Hx _ 2 (ZD)
 have b3:H4.get (Hx.A+3)=some (.J 0 3 (List.replicate cN (.lit (.int .i64 0)))):=by rw[hH4,ef];exact bN Hx _ 3 (ZD)
 have b4:H4.get (Hx.A+4)=some (.J 0 3 [.lit (.int .i64 (-1))]):=by rw[hH4,ef];exact bN Hx _ 4 (ZD)
 clear hH4;refine⟨V,by repeat' (first|refine And.intro ?_ ?_|(intro x hx;omega)),V,by repeat' (first|refine And.intro ?_ ?_|(intro x hx;omega)),V,by repeat' (first|refine And.intro ?_ ?_|(intro x hx;omega)),V,by repeat' (first|refine And.intro ?_ ?_|(intro x hx;omega)),by repeat' (first|refine And.intro ?_ ?_|(intro x hx;omega)),?_⟩;refine⟨_,_,1,_,Uh (a:=-1) (m:=cN) ⟨hc1,V⟩ V b4,?_⟩;have hEf:(⟨Ev.cY (Ev.fX H4.A (H4.A+1) (fun _=>true) (ext ⟨fun _=>none,H4.A⟩ [.J 0 3 (ints (List.replicate cN (-1)))]).get) H4.get,Hx.A+4+1+1⟩:ZH)=ext H4 [.J 0 3 (ints (List.replicate cN (-1)))]:=by rw[<- n4];exact Cv
 rw[Cu,hEf,n4];simp only[go_sem];obtain⟨H5,hH5⟩:∃H5,H5=ext (ext H4 [.J 0 3 (ints (List.replicate cN (-1)))]) [.J 0 191 [.lit (.int .i64 (v:Nat)),.lit (.int .i64 (cD:Nat)),.U Hx.A 0 0 cN 1,.U (Hx.A+1) 0 0 cN 1,.U (Hx.A+2) 0 0 cE 1,.U (Hx.A+3) 0 0 cN 1,.U (Hx.A+4+1) 0 0 cN 1]]:=⟨_,rfl⟩
 rw[<- hH5];have n5:H5.A=Hx.A+4+1+1+1:=by rw[hH5];show H4.A+1+1=_;omega
 have o5:ZM H4 H5:=by rw[hH5];exact(ZM.ext _ _).trans (.ext _ _)
 have b5:H5.get (Hx.A+4+1)=some (.J 0 3 (ints (List.replicate cN (-1)))):=by rw[hH5,<- n4,ef];exact bN H4 _ 0 (ZD)
 have b6:H5.get (Hx.A+4+1+1)=some (.J 0 191 [.lit (.int .i64 (v:Nat)),.lit (.int .i64 (cD:Nat)),.U Hx.A 0 0 cN 1,.U (Hx.A+1) 0 0 cN 1,.U (Hx.A+2) 0 0 cE 1,.U (Hx.A+3) 0 0 cN 1,.U (Hx.A+4+1) 0 0 cN 1]):=by rw[hH5,show Hx.A+4+1+1=H4.A+1 by omega,ef];exact bN H4 _ 1 (ZD)
 clear hH5;obtain⟨lv2,H6,hA2,oP,n6,hp6⟩:=jN (P:=prog) (H:=H5) (t:=182) (x:=.O (Hx.A+4+1+1) 0 0) (n:=H5.A+1) Tryz.underlying182 Tryz.C7 Tryz.C9 rfl (by rw[Tryz.C8,pZ];omega) (hB.lv.ng ZG V fun i g h1 h2 h3 _=>by rw[o5.nf i V,o4.nf i h2]) (by have:=hB.nI;omega) rfl;have hA3:bU prog (ext H5 [.J 0 187 [.O (Hx.A+4+1+1) 0 0]]) (H5.A+1) 182 182 lvh (.U (Hx.A+4+1+1+1) 0 0 1 1)=some (lv2,H6):=by rw[<- n5];exact hA2
 have lv21:=oP.one;have lv2c:=oP.cells;have k6:∀i g e c,i<Hx.A->Hx.get i=some (.J g e c)->e≠187->H6.get i=Hx.get i:=fun i g e c h1 h2 h3=>by
  rw[hp6 i V (hB.lv.MY h2 h3),o5.nf i V,o4.nf i h1]
 have hsl:=hB.nI;have gs6:=(k6 _ _ _ _ hsl hB.top ZE).trans hB.top;have ls6:=ah gs6;obtain⟨I2,hI2⟩:∃I2:Nat->Nat->Nat,I2=fun k j=>if k=n then (match j with|0=>Hx.A+4+1+1|1=>Hx.A|2=>Hx.A+1|3=>Hx.A+2|4=>Hx.A+3|_=>Hx.A+4+1) else I k j:=⟨_,rfl⟩
 have hIo:∀k j,k≠n->I2 k j=I k j:=fun k j h=>by rw[hI2];simp only;rw[Ve h]
 have hIn:∀j,I2 n j=(match j with|0=>Hx.A+4+1+1|1=>Hx.A|2=>Hx.A+1|3=>Hx.A+2|4=>Hx.A+3|_=>Hx.A+4+1):=fun j=>by rw[hI2];exact Vf rfl
 have hInr:∀j,Hx.A<=I2 n j/\I2 n j<Hx.A+7:=fun j=>by rw[hIn];split<;>omega
 clear hI2;have lvL:∀i,Hx.A<=i->∀g m,lvh≠.U i g 0 m 1:=fun i hi g m hv=>by
  rcases hB.lv with ⟨h1,_⟩|⟨i2,g2,_,h2,h3,_⟩
  ·rw[h1]at hv;cases hv
  ·rw[h3]at hv;have:=(ZI.U.inj hv).1;omega
 have new6:∀i,Hx.A<=i->i<H5.A->H6.get i=H5.get i:=fun i h1 h2=>hp6 i h2 (lvL i h1);obtain⟨H7,hH7⟩:∃H7,H7=H6.upd H1.A (.J 0 184 [.lit (.int .i64 d.nl),.Q d.C.length (aI d.C),.lit (.int .u64 (d.Y:Int)),.Q d.Z.length (bt d.Z),lv2,af (eE d),af (dO d),.lit (.int .i64 0)]):=⟨_,rfl⟩
 have n7:H7.A=H6.A:=by rw[hH7,aQ]
 have o7:∀i,i≠H1.A->H7.get i=H6.get i:=fun i h=>by rw[hH7,aj,Ve h]
 have g7:H7.get H1.A=some (.J 0 184 [.lit (.int .i64 d.nl),.Q d.C.length (aI d.C),.lit (.int .u64 (d.Y:Int)),.Q d.Z.length (bt d.Z),lv2,af (eE d),af (dO d),.lit (.int .i64 0)]):=by rw[hH7,aj,Vf rfl]
 have old7:∀k j g e c,k<n->j<6->Hx.get (I k j)=some (.J g e c)->e≠187->H7.get (I k j)=Hx.get (I k j):=fun k j g e c h1 h2 h3 h4=>by
  rw[o7 _ fun e=>hB.sep k j h1 h2 e.symm];exact k6 _ _ _ _ (hB.nj.np k j h1 h2).2 h3 h4
 have new7:∀i,Hx.A<=i->i<H5.A->H7.get i=H5.get i:=fun i h1 h2=>by rw[o7 i V];exact new6 i h1 h2
 have AJ:∀k j,1<=j->∃g e c,dN (iV (az d r) (qb (az d r)) (iU (az d r)) 0) k j=.J g e c/\e≠187:=fun k j hj=>by
  match j,hj with
  |1,_=>exact⟨_,_,_,rfl,ZE⟩
  |2,_=>exact⟨_,_,_,rfl,ZE⟩
  |3,_=>exact⟨_,_,_,rfl,ZE⟩
  |4,_=>exact⟨_,_,_,rfl,ZE⟩
  |(j+5),_=>exact⟨_,_,_,rfl,ZE⟩
 have z0:∀m:Nat,ints (List.replicate m 0)=List.replicate m (.lit (.int .i64 0)):=fun m=>by simp[ints,aa]
 have levs7:nni (az d r) r H3.A (n+1) I2 (iV (az d r) (qb (az d r)) (iU (az d r)) 0) H7:=by
  refine⟨fun k j k' j' h1 h2 h3 h4 he=>?_,fun k j h1 h2=>?_,fun k h1=>?_,fun k j h1 h2 h3=>?_,F9 (fun k _=>by simp[qb]) (fun k _=>by simp[iU]) 0⟩
  ·by_cases a1:k=n
   ·by_cases a2:k'=n
    ·refine⟨V,?_⟩;rw[a1,a2,hIn,hIn]at he
     match j,h3,j',h4 with
     |0,_,0,_=>rfl
     |0,_,1,_=>exact absurd he (by simp only;omega)
     |0,_,2,_=>exact absurd he (by simp only;omega)
     |0,_,3,_=>exact absurd he (by simp only;omega)
     |0,_,4,_=>exact absurd he (by simp only;omega)
     |0,_,5,_=>exact absurd he (by simp only;omega)
     |1,_,0,_=>exact absurd he (by simp only;omega)
     |1,_,1,_=>rfl
     |1,_,2,_=>exact absurd he (by simp only;omega)
     |1,_,3,_=>exact absurd he (by simp only;omega)
     |1,_,4,_=>exact absurd he (by simp only;omega)
     |1,_,5,_=>exact absurd he (by simp only;omega)
     |2,_,0,_=>exact absurd he (by simp only;omega)
     |2,_,1,_=>exact absurd he (by simp only;omega)
     |2,_,2,_=>rfl
     |2,_,3,_=>exact absurd he (by simp only;omega)
     |2,_,4,_=>exact absurd he (by simp only;omega)
     |2,_,5,_=>exact absurd he (by simp only;omega)
     |3,_,0,_=>exact absurd he (by simp only;omega)
     |3,_,1,_=>exact absurd he (by simp only;omega)
     |3,_,2,_=>exact absurd he (by simp only;omega)
     |3,_,3,_=>rfl
     |3,_,4,_=>exact absurd he (by simp only;omega)
     |3,_,5,_=>exact absurd he (by simp only;omega)
     |4,_,0,_=>exact absurd he (by simp only;omega)
     |4,_,1,_=>exact absurd he (by simp only;omega)
     |4,_,2,_=>exact absurd he (by simp only;omega)
     |4,_,3,_=>exact absurd he (by simp only;omega)
     |4,_,4,_=>rfl
     |4,_,5,_=>exact absurd he (by simp only;omega)
     |5,_,0,_=>exact absurd he (by simp only;omega)
     |5,_,1,_=>exact absurd he (by simp only;omega)
     |5,_,2,_=>exact absurd he (by simp only;omega)
     |5,_,3,_=>exact absurd he (by simp only;omega)
     |5,_,4,_=>exact absurd he (by simp only;omega)
     |5,_,5,_=>rfl
    ·rw[a1,hIo k' j' a2]at he;have:=(hB.nj.np k' j' V h4).2;have:=hInr j;omega
   ·by_cases a2:k'=n
    ·rw[a2,hIo k j a1]at he;have:=(hB.nj.np k j V h3).2;have:=hInr j';omega
    ·rw[hIo k j a1,hIo k' j' a2]at he;exact hB.nj.inj k j k' j' V V h3 h4 he
  ·by_cases a1:k=n
   ·rw[a1];have:=hInr j;have:=hB.nI;omega
   ·rw[hIo k j a1];have:=hB.nj.np k j V h2;omega
  ·by_cases a1:k=n
   ·rw[a1,hIn];simp only;rw[new7 _ V V,b6];unfold mz;rw[hvd,<- hD,<- hcN,<- hcD,<- hcE,hIn,hIn,hIn,hIn,hIn];rfl
   ·rw[hIo k 0 a1,old7 k 0 _ _ _ V V (hB.nj.nJ k V) ZE,hB.nj.nJ k V];unfold mz;rw[hIo k 1 a1,hIo k 2 a1,hIo k 3 a1,hIo k 4 a1,hIo k 5 a1]
  ·by_cases a1:k=n
   ·rw[a1,hIn]
    match j,h2,h3 with
    |1,_,_ =>
     show H7.get Hx.A=some (.J 0 _ (ints (List.replicate ((az d r).cs n) 0)));rw[new7 _ V V,o5.nf _ V,b0,z0,<- hD,<- hcN]
    |2,_,_ =>
     show H7.get (Hx.A+1)=some (.J 0 _ (gH (List.replicate ((az d r).cs n) false)));rw[new7 _ V V,o5.nf _ V,b1,<- hD,<- hcN];simp[gH]
    |3,_,_ =>
     show H7.get (Hx.A+2)=some (.J 0 _ (ints (List.replicate ((az d r).cs n*(az d r).cd n) 0)));rw[new7 _ V V,o5.nf _ V,b2,z0,<- hD,<- hcN,<- hcD,<- hcE]
    |4,_,_ =>
     show H7.get (Hx.A+3)=some (.J 0 _ (ints (List.replicate ((az d r).cs n) 0)));rw[new7 _ V V,o5.nf _ V,b3,z0,<- hD,<- hcN]
    |5,_,_ =>
     show H7.get (Hx.A+4+1)=some (.J 0 _ (ints (List.replicate ((az d r).cs n) (-1))));rw[new7 _ V V,b5,<- hD,<- hcN]
   ·have h9:=hB.nj.nG k j V h2 h3;obtain⟨g,e,c,h8,h7⟩:=AJ k j h2;rw[hIo k j a1,old7 k j g e c V h3 (by rw[h9,h8]) h7,h9]
 have hpt:lJ I2 (n+1)=lJ I n++[.O (Hx.A+4+1+1) 0 0]:=by
  unfold lJ;rw[VW,V5];congr 1
  ·exact VF fun k hk=>by rw[hIo k 0 (by have:=Vp.1 hk;omega)]
  ·simp only[List.map_cons,List.map_nil];rw[hIn];rfl
 have hB7:BldH d r H3.A H1.A (n+1) lv2 I2 H7:=by
  refine⟨g7,V,?_,fun k j h1 h2=>?_,fun id g m hv=>?_,levs7,fun h=>absurd h (Nat.succ_ne_zero n)⟩
  ·rw[hpt];refine oP.ng ZG V fun i g _ _ h3 _=>o7 i ?_;rintro rfl;rw[gs6]at h3;cases h3
  ·by_cases a1:k=n
   ·rw[a1];have:=hInr j;omega
   ·rw[hIo k j a1];exact hB.sep k j V h2
  ·have hid:H6.get id=some (.J g 187 (lJ I n++[.O (Hx.A+4+1+1) 0 0])):=by
    rcases oP with ⟨h1,_⟩|⟨i2,g2,_,_,h3,h4⟩
    ·rw[h1]at hv;cases hv
    ·rw[h3]at hv;obtain⟨e1,e2,_⟩:=ZI.U.inj hv;rw[<- e1,<- e2];exact h4
   have hid7:id≠H1.A:=by
    rintro rfl;rw[gs6]at hid;cases hid
   refine⟨hid7,fun k j h1 h2 he=>?_⟩;have h9:=(o7 id hid7).trans hid;rw[he]at h9
   match j,h2 with
   |0,_ =>
    rw[levs7.nJ k h1]at h9;cases h9
   |(j+1),h2 =>
    rw[levs7.nG k (j+1) h1 V h2]at h9;obtain⟨g3,e3,c3,h8,h7⟩:=AJ k (j+1) V;rw[h8]at h9;cases h9;exact h7 rfl
 have wn:=Vb ((n:Int)+1) V;have key:H3.A<=H7.A/\(∃(n_1:Nat) (lvh:ZI) (I:Nat->Nat->Nat),ZI.lit (.int .i64 ((n:Int)+1))=ZI.lit (.int .i64 (n_1:Int))/\n_1<=r.length/\H3.A<=H7.A/\(∀(i:Nat),i<H3.A->¬i=H1.A->H7.get i=H3.get i)/\BldH d r H3.A H1.A n_1 lvh I H7)/\r.length-((n:Int)+1).toNat<r.length-(iv (ρ 38)).toNat:=by
  refine⟨V,⟨n+1,lv2,I2,rfl,V,V,fun i h1 h2=>?_,hB7⟩,by rw[h38];simp only[aa,bf];omega⟩;rw[o7 i h2,hp6 i V (hB.lv.ne h1),o5.nf i V,o4.nf i V,hout i h1 h2]
 rcases hB.lv with ⟨hv0,hv1⟩|⟨i3,g3',q1',q2',hv0,hv1⟩
 ·refine⟨by repeat' (first|refine And.intro ?_ ?_|(intro x hx;omega)),by repeat' (first|refine And.intro ?_ ?_|(intro x hx;omega)),by repeat' (first|refine And.intro ?_ ?_|(intro x hx;omega)),?_⟩;rw[hv0]at hA3;simp only[go_sem,hv0,Ct,hA3,ls6,lv21,lv2c];refine⟨fun x hx=>V,?_⟩;refine W.vs ?_;simp only[go_sem,s38,wn];rw[hH7]at key;exact key
 ·rw[pZ]at hv0;refine⟨by repeat' (first|refine And.intro ?_ ?_|(intro x hx;omega)),by repeat' (first|refine And.intro ?_ ?_|(intro x hx;omega)),by repeat' (first|refine And.intro ?_ ?_|(intro x hx;omega)),?_⟩;rw[hv0]at hA3;simp only[go_sem,hv0,Ct,hA3,ls6,lv21,lv2c];refine⟨fun x hx=>V,?_⟩;refine W.vs ?_;simp only[go_sem,s38,wn];rw[hH7]at key;exact key
def jZ (D:ZR)(T:ZT)(k m:Nat)(bad:List Bool):Nat->List Bool
 |0=>List.replicate m false
 |n+1=>if ((T.oc k).getD n false && !rS (D.cd k) n (T.ex k) (T.be k) (T.ch k) bad)=true then (jZ D T k m bad n).set ((T.ab k).getD n 0).toNat true else jZ D T k m bad n
def FZ (D:ZR)(T:ZT)(k m:Nat)(bad:List Bool)(n:Nat):(jZ D T k m bad n).length=m:=by
 induction n with
 |zero=>simp[jZ]
 |succ n ih=>unfold jZ;split<;>simp[ih]
variable {T:ZT}
def F1 {bad:List Bool}(b:Nat)(hb:b<m):∀n,((jZ D T k m bad n).getD b false=true↔∃c,c<n/\((T.ab k).getD c 0).toNat=b/\(T.oc k).getD c false=true/\rS (D.cd k) c (T.ex k) (T.be k) (T.ch k) bad=false):=by
 intro n
 induction n with
 |zero=>simp[jZ,Vh,WG,hb]
 |succ n ih =>
  unfold jZ;by_cases h:((T.oc k).getD n false && !rS (D.cd k) n (T.ex k) (T.be k) (T.ch k) bad)=true
  ·rw[Vf h];simp only[VI,Xo]at h;by_cases e:((T.ab k).getD n 0).toNat=b
   ·constructor
    ·intro _;exact⟨n,V,e,h.1,h.2⟩
    ·intro _;rw[Vh,e,Vz (by rw[FZ];exact hb)];rfl
   ·rw[Vh,VN e,<- Vh,ih];constructor
    ·rintro⟨c,h1,h2⟩;exact⟨c,V,h2⟩
    ·rintro⟨c,h1,h2,h3⟩;refine⟨c,?_,h2,h3⟩;rcases XE (X3 h1) with h4|h4
     ·exact h4
     ·rw[h4]at h2;exact absurd h2 e
  ·rw[Ve h,ih];constructor
   ·rintro⟨c,h1,h2⟩;exact⟨c,V,h2⟩
   ·rintro⟨c,h1,h2,h3,h4⟩;refine⟨c,?_,h2,h3,h4⟩;rcases XE (X3 h1) with h5|h5
    ·exact h5
    ·subst h5;exact absurd (by rw[h3,h4];rfl) h
def mA (D:ZR)(T:ZT):Nat->Nat->List Bool
 |0,k=>List.replicate (D.cs k*D.cd k) false
 |n+1,k=>jZ D T (k+1) (D.cs k*D.cd k) (mA D T n (k+1)) (D.cs (k+1))
def kK (T:ZT):Ch:=fun k c=>if (T.ch k).getD c 0=-1 then none else some ((T.ch k).getD c 0).toNat
def lM (T:ZT)(tot:Int):Z0 where
 ny k c:=((T.ab k).getD c 0).toNat
 nM k c:=(T.oc k).getD c false
 E k b:=(T.ex k).getD b 0
 B k c:=(T.be k).getD c 0
 T:=tot
structure ZT.Rng (D:ZR)(T:ZT):Prop where
 ab:∀k c,0<k->k<D.K->c<D.cs k->0<=(T.ab k).getD c 0/\((T.ab k).getD c 0).toNat<D.cs (k-1)*D.cd (k-1)
 ch:∀k c,k<D.K->c<D.cs k->(T.ch k).getD c 0=-1\/0<=(T.ch k).getD c 0
def F2 (hR:T.Rng D):∀(n k:Nat),k+1+n=D.K->∀c,c<D.cs k->rS (D.cd k) c (T.ex k) (T.be k) (T.ch k) (mA D T n k)=kD D (lM T tot) (kK T) (n+1) k c:=by
 intro n
 induction n with
 |zero =>
  intro k hk c hc;rw[WC];rw[rG];unfold rS ig;rw[Yd];have hm:=hR.ch k c V hc;constructor
  ·rintro⟨x,hx,h⟩;simp only[VI,VM,decide_eq_true_eq]at h;refine⟨x,Vp.1 hx,h.1.1,fun c' _ _ _=>rfl,fun y hy=>?_⟩;unfold kK at hy;split at hy
   ·cases hy
   ·rename_i h9;rcases h.2 with h2|h2
    ·exact absurd h2 h9
    ·cases hy;omega
  ·rintro⟨x,hx,h1,_,h3⟩;refine⟨x,Vp.2 hx,?_⟩;simp only[VI,VM,decide_eq_true_eq];refine⟨⟨h1,?_⟩,?_⟩
   ·unfold mA;rw[Vh,WG];split<;>rfl
   ·by_cases h9:(T.ch k).getD c 0=-1
    ·exact .inl h9
    ·right;have:=h3 _ (Ve h9);omega
 |succ n ih =>
  intro k hk c hc;rw[WC];rw[rG];unfold rS ig;rw[Yd];have hm:=hR.ch k c V hc;have hbd:∀x,x<D.cd k->((mA D T (n+1) k).getD (c*D.cd k+x) false=true↔∃c',c'<D.cs (k+1)/\(lM T tot).ny (k+1) c'=c*D.cd k+x/\(lM T tot).nM (k+1) c'=true/\kD D (lM T tot) (kK T) (n+1) (k+1) c'=false):=fun x hx=>by
   have hlt:c*D.cd k+x<D.cs k*D.cd k:=by
    have h3:(c+1)*D.cd k<=D.cs k*D.cd k:=VH _ hc;rw[VU,Xt]at h3;omega
   unfold mA;rw[F1 _ hlt];constructor
   ·rintro⟨c',h1,h2,h3,h4⟩;exact⟨c',h1,h2,h3,by rw[<- ih (k+1) V c' h1];exact h4⟩
   ·rintro⟨c',h1,h2,h3,h4⟩;exact⟨c',h1,h2,h3,by rw[ih (k+1) V c' h1];exact h4⟩
  constructor
  ·rintro⟨x,hx,h⟩;simp only[VI,VM,decide_eq_true_eq,Xo]at h;have hx':=Vp.1 hx;refine⟨x,hx',h.1.1,fun c' h1 h2 h3=>?_,fun y hy=>?_⟩
   ·cases hal:kD D (lM T tot) (kK T) (n+1) (k+1) c' with
    |true=>rfl
    |false =>
     have:=(hbd x hx').2 ⟨c',h1,h2,h3,hal⟩;rw[h.1.2]at this;cases this
   ·unfold kK at hy;split at hy
    ·cases hy
    ·rename_i h9;rcases h.2 with h2|h2
     ·exact absurd h2 h9
     ·cases hy;omega
  ·rintro⟨x,hx,h1,h2,h3⟩;refine⟨x,Vp.2 hx,?_⟩;simp only[VI,VM,decide_eq_true_eq,Xo];refine⟨⟨h1,?_⟩,?_⟩
   ·rw[<- Xd];intro h;obtain⟨c',a1,a2,a3,a4⟩:=(hbd x hx).1 h;rw[h2 c' a1 a2 a3]at a4;cases a4
   ·by_cases h9:(T.ch k).getD c 0=-1
    ·exact .inl h9
    ·right;have:=h3 _ (Ve h9);omega
def AC (D:ZR)(T:ZT):Bool:=if D.K=0 then true else !(jZ D T 0 1 (mA D T (D.K-1) 0) (D.cs 0)).contains true
def TF (hR:T.Rng D)(h0:∀c,c<D.cs 0->((T.ab 0).getD c 0).toNat=0):AC D T=true↔jW D (lM T tot) (kK T):=by
 unfold AC jW;by_cases hK:D.K=0
 ·rw[Vf hK];exact⟨fun _ h=>V,fun _=>rfl⟩
 rw[Ve hK];have hmem:(jZ D T 0 1 (mA D T (D.K-1) 0) (D.cs 0)).contains true=true↔(jZ D T 0 1 (mA D T (D.K-1) 0) (D.cs 0)).getD 0 false=true:=by
  have hl:=FZ D T 0 1 (mA D T (D.K-1) 0) (D.cs 0)
  match hsp:jZ D T 0 1 (mA D T (D.K-1) 0) (D.cs 0),hl with
  | [a],_=>cases a<;>simp
 rw[Xo,<- Xd,hmem,F1 0 V];constructor
 ·intro h _ c hc ho;cases hal:kD D (lM T tot) (kK T) D.K 0 c with
  |true=>rfl
  |false =>
   refine absurd ⟨c,hc,h0 c hc,ho,?_⟩ h;rw[F2 (tot:=tot) hR (D.K-1) 0 V c hc,show D.K-1+1=D.K by omega];exact hal
 ·rintro h ⟨c,h1,_,h3,h4⟩;have:=h V c h1 h3;rw[F2 (tot:=tot) hR (D.K-1) 0 V c h1,show D.K-1+1=D.K by omega]at h4;rw[this]at h4;cases h4
def lO (T:ZT)(k c:Nat)(x:Nat):ZT:={ T with ch:=fG T.ch k ((T.ch k).set c (x:Int)) }
def tT (D:ZR)(T:ZT)(k c:Nat):Nat:=jF (fun x=>AC D (lO T k c x)) (D.cd k-1) 0
def tU (D:ZR)(T:ZT)(k:Nat):Nat->ZT
 |0=>T
 |n+1=>lO (tU D T k n) k n (tT D (tU D T k n) k n)
def F3 (T:ZT)(k c x k' c':Nat)(hc:c<(T.ch k).length):((lO T k c x).ch k').getD c' 0=if k'=k/\c'=c then (x:Int) else (T.ch k').getD c' 0:=by
 unfold lO;simp only;by_cases e:k'=k
 ·subst e;rw[lK,nt _ _ _ _ _ hc];by_cases e2:c=c'
  ·rw[Vf e2,Vf ⟨rfl,e2.symm⟩]
  ·rw[Ve e2,Ve fun h=>e2 h.2.symm]
 ·rw[lL e,Ve fun h=>e h.1]
def F4 {x:Nat}(hc:c<(T.ch k).length):kK (lO T k c x)=kG (kK T) k c x:=by
 funext k' c'
 unfold kK;rw[F3 _ _ _ _ _ _ hc];by_cases h:k'=k/\c'=c
 ·rw[Vf h,h.1,h.2,nu,Ve V];simp
 ·rw[Ve h,ny h]
def F5 (hR:T.Rng D){x:Nat}(hc:c<(T.ch k).length):(lO T k c x).Rng D :=
 ⟨hR.ab,fun k' c' h1 h2=>by
  rw[F3 _ _ _ _ _ _ hc];split
  ·right;omega
  ·exact hR.ch k' c' h1 h2⟩
def TG {n:Nat}(hl:T.Len D n)(k c x:Nat):(lO T k c x).Len D n :=
 ⟨hl.ab,hl.oc,hl.ex,hl.be,fun k' h=>by
  unfold lO;simp only;by_cases e:k'=k
  ·rw[e,lK,VE,<- e];exact hl.ch k' h
  ·rw[lL e];exact hl.ch k' h⟩
def F6 {f g:Nat->Bool}:∀n x,(∀y,x<=y->y<x+n->f y=g y)->jF f n x=jF g n x:=by
 intro n
 induction n with
 |zero=>intro x _;rfl
 |succ n ih =>
  intro x h;unfold jF;rw[h x ZG V,ih (x+1) fun y h1 h2=>h y V V]
def TH (hR:T.Rng D)(h0:∀c,c<D.cs 0->((T.ab 0).getD c 0).toNat=0)(hc:c<(T.ch k).length):tT D T k c=iT D (lM T tot) (kK T) k c:=by
 unfold tT iT;refine F6 _ _ fun y _ _=>?_;have h1:=TF (D:=D) (T:=lO T k c y) (tot:=tot) (F5 hR hc) h0;rw[F4 hc]at h1;have h2:lM (lO T k c y) tot=lM T tot:=rfl;rw[h2]at h1;rw[WC,h1,tM]
end Go.Proofs
