/- Own work: contracts. -/
import Derived.Test.YtebhdkihcdmmjaaGreatConF
import Derived.Test.YtebhdkihcdmmjaaGreatConB
import Derived.Test.YtebhdkihcdmmjaaGreatConE
import Derived.Test.YtebhdkihcdmmjaaGreatLibB
import Derived.Test.YtebhdkihcdmmjaaGreatConC
set_option linter.all false
set_option maxHeartbeats 8000000
set_option maxRecDepth 100000
namespace Go.Proofs
open Go.Hx Tryz
variable {tot:Int}{l:List Int}{r:List Nat}{a k n w:Nat}{be ch:Nat->List Int}{I:Nat->Nat->Nat}{H:ZK}{lvh:ZL}{d:ZN}{D:ZU}{T:ZW}
def TP {i g o:Nat}{e:TypeId}{cells:List ZL}(hg:H.get i=some (.J g e cells))(hn:n=l.length)(h0:l≠[])(hl:(l.length:Int)<2 ^ 62)(hx:∀j (h:j<l.length),cells[o+j]?=some (aa l[j])):
  ae prog G0 150 [.U i g o n 1] H fun r H'=>r=.ret (aa (iF l))/\H'=H :=
 ae.frame (args':=[af l]) aF rfl (fun j hj _=>match j,hj with|0,_=>Fz.ints trivial hg hn hx) (Um l h0 hl cW _ ⟨_,rfl,.lit _⟩)
def fF (a:List Int)(l:List Int):Nat->List Int
 |0=>l
 |n+1=>(fF a l n).set n (a.getD n 0)
def nL (a l:List Int)(n:Nat):(fF a l n).length=l.length:=by
 induction n with
 |zero=>rfl
 |succ n ih=>unfold fF;rw[VF,ih]
def Gj {a:List Int}(n i:Nat)(hi:i<l.length):(fF a l n).getD i 0=if i<n then a.getD i 0 else l.getD i 0:=by
 induction n with
 |zero=>rfl
 |succ n ih =>
  unfold fF;by_cases hn:n<l.length
  ·rw[nC _ _ _ _ _ (by rw[nL];exact hn),ih];by_cases h:n=i
   ·subst h;rw[Vh rfl,Vh V]
   ·rw[Vg h];by_cases h2:i<n
    ·rw[Vh h2,Vh V]
    ·rw[Vg h2,Vg V]
  ·rw[List.set_eq_of_length_le (by rw[nL];omega),ih,Vh V,Vh V]
def TQ {a:List Int}(h:a.length=l.length):fF a l l.length=a:=by
 apply V3;intro i;by_cases hi:i<l.length
 ·have h1:=Gj (a:=a) l.length i hi;rw[Vh hi]at h1;obtain⟨x,hx⟩:=ay (l:=fF a l l.length) (i:=i) (by rw[nL];exact hi);obtain⟨y,hy⟩:=ay (l:=a) (i:=i) V;rw[kK hx,kK hy]at h1;rw[hx,hy,h1]
 ·rw[Vo (by rw[nL];omega),Vo V]
def cu (D:ZU)(T:ZW)(k:Nat):List Int:=kG (D.cs k) (D.cd k) (T.ex k)
def iJ (D:ZU)(T:ZW)(k n:Nat):ZW:={ T with be:=fE T.be k (fF (cu D T k) (T.be k) n),ex:=if 0<k then fE T.ex (k-1) (dS (T.ab k) (cu D T k) n (T.ex (k-1))) else T.ex }
def ui (D:ZU)(T:ZW)(k:Nat):ZW:={ T with be:=fE T.be k (cu D T k),ex:=if 0<k then fE T.ex (k-1) (dS (T.ab k) (cu D T k) (D.cs k) (T.ex (k-1))) else T.ex }
def gS (D:ZU)(T:ZW)(k n:Nat)(tot:Int):Int:=if 0<k then tot else tot+SS n fun c=>(cu D T k).getD c 0
def nM (r:List Nat)(s:Nat)(I:Nat->Nat->Nat)(H H':ZK):Prop:=∀i,i≠s->(∀k j,k<r.length->j<6->i≠I k j)->H'.get i=H.get i
def TS (hl:T.Len D n)(hk:k<n):iJ D T k (D.cs k)=ui D T k:=by
 unfold iJ ui;have:fF (cu D T k) (T.be k) (D.cs k)=cu D T k:=by
  rw[<- hl.be k hk];exact TQ (by unfold cu;rw[FD];exact(hl.be k hk).symm)
 rw[this]
def AQ {m:Nat}(hl:T.Len D n):(iJ D T k m).Len D n:=by
 refine⟨hl.ab,hl.oc,fun k' hk=>?_,fun k' hk=>?_,hl.ch⟩
 ·unfold iJ;simp only;split
  ·by_cases e:k'=k-1
   ·rw[e,lK,tW];rw[<- e];exact hl.ex k' hk
   ·rw[lL e];exact hl.ex k' hk
  ·exact hl.ex k' hk
 ·unfold iJ;simp only;by_cases e:k'=k
  ·rw[e,lK,nL];rw[<- e];exact hl.be k' hk
  ·rw[lL e];exact hl.be k' hk
def oX (D:ZU)(T:ZW)(k n:Nat):ZW:={ iJ D T k n with be:=fE T.be k (fF (cu D T k) (T.be k) (n+1)) }
def TT {m:Nat}(hl:T.Len D n):(oX D T k m).Len D n:=by
 have h1:=AQ (k:=k) (m:=m) hl;exact⟨h1.ab,h1.oc,h1.ex,(AQ (k:=k) (m:=m+1) hl).be,h1.ch⟩
def TU (D:ZU)(T:ZW)(k:Nat):iJ D T k 0=T:=by
 have h1:fE T.be k (T.be k)=T.be:=by funext k';unfold fE;split;{ rename_i e;rw[e] };rfl
 have h2:∀f:Nat->List Int,fE f (k-1) (f (k-1))=f:=fun f=>by funext k';unfold fE;split;{ rename_i e;rw[e] };rfl
 unfold iJ;simp only[fF];rw[h1];have h3:(if 0<k then fE T.ex (k-1) (dS (T.ab k) (cu D T k) 0 (T.ex (k-1))) else T.ex)=T.ex:=by
  split
  ·exact h2 T.ex
  ·rfl
 rw[h3]
def TV {lo s:Nat}(hrl:r.length<=64)(hk:k<r.length)(hsz:(aA d r).cs k*(aA d r).cd k<2 ^ 40)(hcd:1<=(aA d r).cd k)(hcd2:(aA d r).cd k<2 ^ 40)(hcs2:(aA d r).cs k<2 ^ 40)
  (hab:0<k->∀c,c<(aA d r).cs k->0<=(T.ab k).getD c 0/\(T.ab k).getD c 0<((aA d r).cs (k-1)*(aA d r).cd (k-1):Nat))
  (hb1:0<k->∀n,n<(aA d r).cs k->-9223372036854775808<=(dS (T.ab k) (cu (aA d r) T k) n (T.ex (k-1))).getD ((T.ab k).getD n 0).toNat 0+(cu (aA d r) T k).getD n 0/\(dS (T.ab k) (cu (aA d r) T k) n (T.ex (k-1))).getD ((T.ab k).getD n 0).toNat 0+(cu (aA d r) T k).getD n 0<=9223372036854775807)
  (hb2:k=0->∀n,n<(aA d r).cs k->-9223372036854775808<=tot+(SS (n+1) fun c=>(cu (aA d r) T k).getD c 0)/\tot+(SS (n+1) fun c=>(cu (aA d r) T k).getD c 0)<=9223372036854775807)
  (H:ZK) (hS:ZX d r lo s lvh I T tot H) (K:ZQ->ZK->Prop)
  (hK:∀H',H'.A=H.A->nM r s I H H'->ZX d r lo s lvh I (ui (aA d r) T k) (gS (aA d r) T k ((aA d r).cs k) tot) H'->K (.ret (.nc [])) H'):
  ae prog G0 116 [.O s 0 0,aa k] H K:=by
 obtain⟨D,hD⟩:∃D,D=aA d r:=⟨_,rfl⟩
 rw[<- hD]at hsz hcd hcd2 hcs2 hab hb1 hb2 hK;obtain⟨il,gl,hlv,glv,_,_⟩:=hS.AN hk;have lso:=ag hS.top;have llv:=ag glv;have l0:=ag (hS.nj.nJ k hk);rw[<- hD]at l0;have l4:=ag (hS.nj.nF k 4 hk V V);simp only[dL,my]at l0 l4;have hpk:=AM (I:=I) hk;have hpn:=aZ hpk;have hpl:=qm I r.length;have hki:(k:Int)<r.length:=V
 have hbe4:=hS.nj.len.be k hk;rw[<- hD]at hbe4;refine ae.sw (n:=92) (rs:=[]) func116 ?_;refine W.sq ?_;simp only[go_sem,lso,hlv,llv,hpk,hki];refine W.sq ?_;simp only[go_sem,l0,l4];refine W.en (fun E=>E 0=.O s 0 0 /\ E 1=aa k /\ E 4=.O (I k 0) 0 0 /\ E 17=aa (D.cs k) /\ E 18=aa 0) (by simp only[go_sem]) fun E ⟨e0,e1,e4,e17,e18⟩=>?_
 refine W.block ?_;refine W.aS 4951760157141521099596234784 (by rfl) (fun ρ Hx=>∃c:Nat,ρ 18=aa c/\c<=D.cs k/\Hx.A=H.A/\nM r s I H Hx/\ZX d r lo s lvh I (iJ D T k c) (gS D T k c tot) Hx) (fun ρ Hx=>D.cs k-(iv (ρ 18)).toNat) ?_ ?_
 ·simp only[go_sem,e18];refine⟨0,rfl,V,fun _ _ _=>rfl,?_⟩;have:gS D T k 0 tot=tot:=by unfold gS;split<;>simp[pU]
  rw[TU,this];exact hS
 rintro ρ Hx ⟨c,h18,hc,nx,hout,hSx⟩;refine W.en (fun E1=>E1 0=.O s 0 0 /\ E1 1=aa k /\ E1 4=.O (I k 0) 0 0 /\ E1 17=aa (D.cs k) /\ E1 18=aa c) (by simp only[go_sem,e0,e1,e4,e17,h18]) fun E1 ⟨f0,f1,f4,f17,f18⟩=>?_
 by_cases hb:(c:Int)<D.cs k;rotate_left
 ·refine W.vs ?_;simp only[go_sem,f17,f18,hb];have hcc:c=D.cs k:=V
  have hle:=hS.nj.len;rw[<- hD]at hle;rw[hcc,TS hle hk]at hSx;exact aj.mk V (hK Hx nx hout hSx)
 refine W.sq ?_;simp only[go_sem,f17,f18,hb];refine W.sq ?_;simp only[go_sem];refine W.seq (W.block ?_);refine W.sq ?_;simp only[go_sem,f18]
  -- the greatest of the case's branches
 have lx0:=ag (hSx.nj.nJ k hk);rw[<- hD]at lx0;have g3:=hSx.nj.nF k 3 hk V V;have g4:=hSx.nj.nF k 4 hk V V;have lx3:=ag g3;have lx4:=ag g4;have hle:=hSx.nj.len;rw[<- hD]at hle;have hex:(iJ D T k c).ex k=T.ex k:=by
  unfold iJ;simp only;split
  ·rw[lL V]
  ·rfl
 have hbe:(iJ D T k c).be k=fF (cu D T k) (T.be k) c:=lK ..;simp only[dL,my,hex,hbe]at lx0 lx3 lx4 g3;have hexl:=hle.ex k hk;rw[hex]at hexl;have hbr:(c+1)*D.cd k<=D.cs k*D.cd k:=VO _ V;have hbr2:c*D.cd k+D.cd k=(c+1)*D.cd k:=by rw[VT,Xv]
 obtain⟨part,hpart⟩:∃p,p=ji (D.cd k) c (T.ex k):=⟨_,rfl⟩
 have hprl:part.length=D.cd k:=by rw[hpart];unfold ji;rw[Vv,V5];omega
 have hpr0:part≠[]:=fun h=>by rw[h]at hprl;simp at hprl;omega
 have hprg:∀j (h:j<part.length),(ints (T.ex k))[c*D.cd k+j]?=some (aa part[j]):=fun j hj=>by
  have h1:(ji (D.cd k) c (T.ex k))[j]?=some part[j]:=by rw[<- hpart];exact Vf hj
  unfold ji at h1;rw[Vz (by rw[hprl]at hj;exact hj),Wz]at h1;rw[gZ,h1];rfl
 have hmx:(cu D T k).getD c 0=iF part:=by rw[hpart];exact As (V)
 have i3:=(hSx.nj.np k 3 hk V).2;have ll3:(ints (T.ex k)).length=D.cs k*D.cd k:=by rw[bD];exact hexl
 have ll4:(ints (fF (cu D T k) (T.be k) c)).length=D.cs k:=by rw[bD,nL];exact hbe4
 have w1:=Vd ((c:Int)*(D.cd k:Int)) (by rw[<- WE];omega);have w2:=Vd ((c:Int)+1) V;have w3:=Vd (((c:Int)+1)*(D.cd k:Int)) (by rw[show (c:Int)+1=((c+1:Nat):Int) by omega,<- WE];omega);have q1:(c:Int)*(D.cd k:Int)=((c*D.cd k:Nat):Int):=ZG
 have q2:((c:Int)+1)*(D.cd k:Int)=(((c+1)*D.cd k:Nat):Int):=ZG
 rw[q1]at w1;rw[q2]at w3;refine W.seq ?_;refine W.dr 24 [0,1,3,7,0,0,32,96,224,0,0,1024,3072,7168,15872,0,32768,0,131072,393216,917504,2064384,4194272,8388576] mixed ?_;simp only[go_sem,f4,lx0,q1,w1,w2,q2,w3,lx3,lx4,ll4,hb];have e1':setAt (ints (fF (cu D T k) (T.be k) c)) c [.lit (.int .i64 (iF part))]=ints (fF (cu D T k) (T.be k) (c+1)):=by
  rw[iR (by rw[nL];omega)];show _=ints ((fF (cu D T k) (T.be k) c).set c ((cu D T k).getD c 0));rw[hmx]
 refine⟨V,V,aa (iF part),[I k 3],aY.mk (fun x hx=>by rw[List.mem_singleton.1 hx];exact i3) (fun H2 h2 _=>TP (h2 _ ZG |>.trans g3) (by rw[hprl];omega) hpr0 V hprg),⟨rfl,rfl,by show c+1<=_;omega⟩,?_⟩;simp only[go_sem,e1'];obtain⟨H4,hH4⟩:∃H4,H4=Hx.upd (I k 4) (.J 0 3 (ints (fF (cu D T k) (T.be k) (c+1)))):=⟨_,rfl⟩
 rw[<- hH4];have hTm:ZX d r lo s lvh I (oX D T k c) (gS D T k c tot) H4:=by
  rw[hH4];have hb4:dL (oX D T k c) k 4=.J 0 3 (ints (fF (cu D T k) (T.be k) (c+1))):=by show ZR.J 0 _ (ints (fE T.be k _ k))=_;rw[lK]
  rw[<- hb4];refine hSx.upd hk V V (fun k' j' h1 h2 h3 h4=>?_) ?_
  ·match j',h2,h3 with
   |1,_,_=>rfl
   |2,_,_=>rfl
   |3,_,_=>rfl
   |4,_,_ =>
    have:k'≠k:=fun e=>h4 ⟨e,rfl⟩;show ZR.J 0 _ (ints (fE T.be k _ k'))=ZR.J 0 _ (ints (fE T.be k _ k'));rw[lL this,lL this]
   |5,_,_=>rfl
  ·rw[<- hD];have:=hS.nj.len;rw[<- hD]at this;exact TT this
 have n4:H4.A=H.A:=by rw[hH4,aQ];exact nx
 have o4:nM r s I H H4:=fun i h1 h2=>by rw[hH4,ah,Vg (h2 k 4 hk V)];exact hout i h1 h2
 clear hH4;have ls4:=ag hTm.top;have l04:=ag (hTm.nj.nJ k hk);rw[<- hD]at l04;have l44:=ag (hTm.nj.nF k 4 hk V V);have hbe':(oX D T k c).be k=fF (cu D T k) (T.be k) (c+1):=lK ..;simp only[dL,my,hbe']at l04 l44;obtain⟨bc,hbc⟩:∃bc,bc=(cu D T k).getD c 0:=⟨_,rfl⟩
 have gbc:(ints (fF (cu D T k) (T.be k) (c+1)))[c]?=some (aa bc):=by
  have h1:=Gj (a:=cu D T k) (l:=T.be k) (c+1) c V;rw[Vh V]at h1;obtain⟨x,hx⟩:=ay (l:=fF (cu D T k) (T.be k) (c+1)) (i:=c) (by rw[nL];omega);rw[kK hx]at h1;rw[gZ,hx,hbc,<- h1];rfl
 have nbc:=aZ gbc;have ll5:(ints (fF (cu D T k) (T.be k) (c+1))).length=D.cs k:=by rw[bD,nL];exact hbe4
 refine W.en (fun E2=>E2 0=.O s 0 0 /\ E2 1=aa k /\ E2 4=.O (I k 0) 0 0 /\ E2 5=aa c /\ E2 18=aa c) (by simp only[go_sem,f0,f1,f4,f18]) fun E2 ⟨m0,m1,m4,m5,m18⟩=>?_
 have wc:=Vd ((c:Int)+1) V;by_cases hk0:0<k
 ·have hk0i:(0:Int)<k:=V
  refine W.sq ?_;simp only[go_sem,m1,hk0i];refine W.cond (t:=true) rfl ?_;have hk1:k-1<r.length:=V
  have hpk1:=AM (I:=I) hk1;have l14:=ag (hTm.nj.nJ (k-1) hk1);rw[<- hD]at l14;have l1e:=ag (hTm.nj.nF (k-1) 3 hk1 V V);have l1a:=ag (hTm.nj.nF k 1 hk V V);have hexm:(oX D T k c).ex (k-1)=dS (T.ab k) (cu D T k) c (T.ex (k-1)):=by
   show (if 0<k then fE T.ex (k-1) _ else T.ex) (k-1)=_;rw[Vh hk0,lK]
  have habm:(oX D T k c).ab k=T.ab k:=rfl;simp only[dL,my,hexm,habm]at l14 l1e l1a;obtain⟨il4,gl4,hlv4,glv4,_,_⟩:=hTm.AN hk;rw[hlv4]at ls4;have llv4:=ag glv4;have w5:=Vd ((k:Int)-1) V;have ek:(k:Int)-1=((k-1:Nat):Int):=V
  rw[ek]at w5;have hk1i:((k-1:Nat):Int)<r.length:=V
  have hpn4:=aZ hpk1;have habl:=hS.nj.len.ab k hk;rw[<- hD]at habl;obtain⟨av,hav⟩:=ay (l:=T.ab k) (i:=c) V;have hab1:=hab hk0 c V;rw[kK hav]at hab1;obtain⟨aN,haN⟩:=Vm hab1.1;subst haN;have gav:(ints (T.ab k))[c]?=some (aa aN):=by rw[gZ,hav];rfl
  have nav:=aZ gav;have lla:(ints (T.ab k)).length=D.cs k:=by rw[bD];exact habl
  have hexl1:=hS.nj.len.ex (k-1) hk1;rw[<- hD]at hexl1;have aNl:aN<(dS (T.ab k) (cu D T k) c (T.ex (k-1))).length:=by rw[tW,hexl1];omega
  obtain⟨xv,hxv⟩:=ay aNl;have gxv:(ints (dS (T.ab k) (cu D T k) c (T.ex (k-1))))[aN]?=some (aa xv):=by rw[gZ,hxv];rfl
  have nxv:=aZ gxv;have llx:(ints (dS (T.ab k) (cu D T k) c (T.ex (k-1)))).length=D.cs (k-1)*D.cd (k-1):=by rw[bD,tW];exact hexl1
  have hb1':=hb1 hk0 c V;have etn:((T.ab k).getD c 0).toNat=aN:=by rw[kK hav];omega
  rw[etn,kK hxv,<- hbc]at hb1';have w6:=Vd (xv+bc) V;have aNi:(aN:Int)<(D.cs (k-1)*D.cd (k-1):Nat):=V
  have e6:setAt (ints (dS (T.ab k) (cu D T k) c (T.ex (k-1)))) aN [.lit (.int .i64 (xv+bc))]=ints (dS (T.ab k) (cu D T k) (c+1) (T.ex (k-1))):=by
   rw[iR aNl,wM,etn,kK hxv,hbc]
  refine W.dr 27 [0,1,3,7,0,16,63,127,255,511,1023,0,2048,6144,14336,0,63488,129024,262143,524287,0,1048576,3145728,7340032,0,32505856,66060288] mixed ?_;simp only[go_sem,m0,m1,m4,m5,ls4,ek,w5,hk1i,llv4,hpk1,l14,l04,l44,l1a,l1e,gav,gxv,llx,gbc,hb,w6,aNi,e6];refine⟨V,?_⟩;refine W.vs ?_;simp only[go_sem,m18,wc];obtain⟨H5,hH5⟩:∃H5,H5=H4.upd (I (k-1) 3) (.J 0 3 (ints (dS (T.ab k) (cu D T k) (c+1) (T.ex (k-1))))):=⟨_,rfl⟩
  rw[<- hH5];have n5:H5.A=H.A:=by rw[hH5,aQ];exact n4
  refine⟨V,⟨c+1,rfl,V,n5,fun i h1 h2=>by rw[hH5,ah,Vg (h2 (k-1) 3 hk1 V)];exact o4 i h1 h2,?_⟩,by rw[h18];simp only[aa,bf];omega⟩;have et:gS D T k (c+1) tot=gS D T k c tot:=by unfold gS;rw[Vh hk0,Vh hk0]
  have hb3:dL (iJ D T k (c+1)) (k-1) 3=.J 0 3 (ints (dS (T.ab k) (cu D T k) (c+1) (T.ex (k-1)))):=by
   show ZR.J 0 _ (ints ((if 0<k then fE T.ex (k-1) _ else T.ex) (k-1)))=_;rw[Vh hk0,lK]
  rw[et,hH5,<- hb3];refine hTm.upd hk1 V V (fun k' j' h1 h2 h3 h4=>?_) ?_
  ·match j',h2,h3 with
   |1,_,_=>rfl
   |2,_,_=>rfl
   |3,_,_ =>
    have:k'≠k-1:=fun e=>h4 ⟨e,rfl⟩;show ZR.J 0 _ (ints ((if 0<k then fE T.ex (k-1) _ else T.ex) k'))=ZR.J 0 _ (ints ((if 0<k then fE T.ex (k-1) _ else T.ex) k'));rw[Vh hk0,Vh hk0,lL this,lL this]
   |4,_,_=>rfl
   |5,_,_=>rfl
  ·rw[<- hD];have:=hS.nj.len;rw[<- hD]at this;exact AQ this
 ·have hk0i:¬(0:Int)<k:=V
  have hk00:k=0:=V
  refine W.sq ?_;simp only[go_sem,m1,hk0i];refine W.cond (t:=false) rfl ?_;have hb2':=hb2 hk00 c V;have etc:gS D T k (c+1) tot=gS D T k c tot+bc:=by
   unfold gS;rw[Vg hk0,Vg hk0,ig,hbc];omega
  have hb3':gS D T k (c+1) tot=tot+(SS (c+1) fun c=>(cu D T k).getD c 0):=by unfold gS;rw[Vg hk0]
  rw[<- hb3',etc]at hb2';have w6:=Vd (gS D T k c tot+bc) V;refine W.dr 11 [0,1,3,7,0,16,48,112,0,496,1008] mixed ?_;simp only[go_sem,m0,m4,m5,ls4,l04,l44,gbc,hb,w6];refine W.vs ?_;simp only[go_sem,m18,wc];obtain⟨H5,hH5⟩:∃H5,H5=H4.upd s (.J 0 184 [.lit (.int .i64 d.Z),.Q d.C.length (aG d.C),.lit (.int .u64 (d.nl:Int)),.Q d.Y.length (bA d.Y),lvh,af (eC d),af (dM d),.lit (.int .i64 (gS D T k c tot+bc))]):=⟨_,rfl⟩
  have hbl:H5.A=H.A:=by rw[hH5,aQ];exact n4
  have hTT:oX D T k c=iJ D T k (c+1):=by
   unfold oX iJ;rw[Vg hk0,Vg hk0]
  have hS5:ZX d r lo s lvh I (iJ D T k (c+1)) (gS D T k (c+1) tot) H5:=by
   rw[hH5,<- hTT,etc];exact hTm.Ga
  have hO5:nM r s I H H5:=fun i h1 h2=>by rw[hH5,ah,Vg h1];exact o4 i h1 h2
  have key:H.A<=H5.A/\(∃c_1:Nat,ZL.lit (.int .i64 ((c:Int)+1))=ZL.lit (.int .i64 (c_1:Int))/\c_1<=D.cs k/\H5.A=H.A/\nM r s I H H5/\ZX d r lo s lvh I (iJ D T k c_1) (gS D T k c_1 tot) H5)/\D.cs k-((c:Int)+1).toNat<D.cs k-(iv (ρ 18)).toNat :=
   ⟨V,⟨c+1,rfl,V,hbl,hO5,hS5⟩,by rw[h18];simp only[aa,bf];omega⟩
  rw[hH5]at key;exact key
def Gy (hok:ZS d)(h6:d.C.length<=6){vals:List Int}(hf:cJ (au d.C) vals):-18662400000000<=dk d vals/\dk d vals<=18662400000000:=by
 have hb:∀w∈iW d vals,0<=w/\w<=60:=fun w hw=>by
  obtain⟨v,hv,rfl⟩:=Vu.1 hw;exact Gu hok hf (Vs.1 hv)
 have h1:=pS (b:=60) V hb;have h2:=EM (iW d vals).length (by rw[xB];omega);have h3:0<=cK d vals/\cK d vals<=46656000000:=⟨h1.1,Yp h1.2 h2⟩
 have h4:=AV hok.Y.2 hok.Y.1 vals;unfold dk;generalize cK d vals=w at *
 generalize cX d.C d.Y vals=u at *
 constructor
 ·have h1:w*(-400)<=w*u:=VU h4.1 h3.1;omega
 ·have h1:w*u<=w*400:=VU h4.2 h3.1;omega
def Uz (d:ZN):List ZL:=[.lit (.int .i64 d.Z),.Q d.C.length (aG d.C),.lit (.int .u64 (d.nl:Int)),.Q d.Y.length (bA d.Y),.lit (.slice none 0 0),af (eC d),af (dM d),.lit (.int .i64 0)]
structure ExH (d:ZN)(p:List (List Int))(v0 db eb pb rb sb so:Nat)(rv:ZL)(H:ZK):Prop where
 hd:H.get db=some (lH d)
 he:H.get eb=some (.J 0 3 [.lit (.int .i64 v0)])
 hp:H.get pb=some (.J 0 74 [bb p])
 hr:H.get rb=some (.J 0 74 [rv])
 hs:H.get sb=some (.J 0 134 [.O so 0 0])
 hso:H.get so=some (.J 0 184 (Uz d))
def ExH.ng {p:List (List Int)}{v0 db eb pb rb sb so:Nat}{rv:ZL}{H':ZK}(h:ExH d p v0 db eb pb rb sb so rv H)(hk:∀id,id=db\/id=eb\/id=pb\/id=rb\/id=sb\/id=so->H'.get id=H.get id):ExH d p v0 db eb pb rb sb so rv H' :=
 ⟨(hk _ ZG).trans h.hd,(hk _ ZG).trans h.he,(hk _ ZG).trans h.hp,(hk _ ZG).trans h.hr,(hk _ ZG).trans h.hs,(hk _ ZG).trans h.hso⟩
def xC (hok:ZS d){v:Nat}{x:ZM}(hx:d.C[v]?=some x):(bZ d.C x:Int)=aC (aT d.C x)/\bW x.F d.C.length/\iI x.F d.C.length/\fb (aT d.C x):=by
 have hxp:bW x.F d.C.length:=by
  have:=(hok.nB.node _ (an (jG (c:=fun _ _=>0) hx))).2;rw[(iP ..).2,ik]at this;exact this
 have ps:=oV hok.n.n1.2 hxp hok.n.L;exact⟨by have:=ps.prod;unfold bZ;omega,hxp,fun q hq=>by have:=hxp.2 q hq;omega,ps⟩
def fw (w a k:Nat):Nat:=if k<a then w+1 else w
def jH (D:ZU)(be ch:Nat->List Int)(w a b c:Nat):ZW:=⟨fun k=>dp D k (fw w a k),fun k=>ep D k (fw w b k),fun k=>bC D k (fw w c k),be,ch⟩
def iU (D:ZU)(be ch:Nat->List Int)(w:Nat):ZW:=⟨fun k=>dp D k w,fun k=>ep D k w,fun k=>bC D k w,be,ch⟩
def uj (h:k<a):fw w a k=w+1:=Vh h
def xq (h:a<=k):fw w a k=w:=Vg (V)
def xt (h:k≠a):fw w (a+1) k=fw w a k:=by unfold fw;split<;>split<;>omega
def xu (n:Nat)(T T':ZW):Prop:=∀k j,k<n->dL T k j=dL T' k j
def ZX.same {lo s:Nat}{T':ZW}(h:ZX d r lo s lvh I T tot H)(ht:xu r.length T T')(hl:T'.Len (aA d r) r.length):ZX d r lo s lvh I T' tot H :=
 ⟨h.top,h.nH,h.lv,h.sep,h.nK,⟨h.nj.inj,h.nj.np,h.nj.nJ,fun k j h1 h2 h3=>by rw[<- ht k j h1];exact h.nj.nF k j h1 h2 h3,hl⟩⟩
def xw (hb:∀k,k<n->(be k).length=D.cs k)(hc:∀k,k<n->(ch k).length=D.cs k)(w a b c:Nat):(jH D be ch w a b c).Len D n :=
 ⟨fun k _=>rU D k _,fun k _=>qf D k _,fun k _=>mr D k _,hb,hc⟩
def Gl (hb:∀k,k<n->(be k).length=D.cs k)(hc:∀k,k<n->(ch k).length=D.cs k)(w:Nat):(iU D be ch w).Len D n :=
 ⟨fun k _=>rU D k _,fun k _=>qf D k _,fun k _=>mr D k _,hb,hc⟩
def T8 (w n:Nat):xu n (jH D be ch w n n n) (iU D be ch (w+1)):=fun k j hk=>by
 have e:fw w n k=w+1:=uj hk;unfold dL jH iU;simp only[e]
def fg (d:ZN)(r:List Nat)(w:Nat):Int:=if r.length=0 then SS w (aA d r).nr else 0
def T9 (hok:ZS d)(hr:Z0 d r)(hrl:r.length<=64){lo s:Nat}(hw:w<cH d.C)
  (hsz:∀k,k<r.length->(aA d r).cs k*(aA d r).cd k<2 ^ 40) (hcs:∀k,k<r.length->(aA d r).cs k<2 ^ 40)
  (hbd:∀(k b:Nat),k+1=r.length->∀n,n<=cH d.C->-4000000000000000000<=(bC (aA d r) k n).getD b 0/\(bC (aA d r) k n).getD b 0<=4000000000000000000) (hbt:∀n,n<=cH d.C->-4000000000000000000<=SS n (aA d r).nr/\SS n (aA d r).nr<=4000000000000000000)
  (hbg:-4000000000000000000<=dk d (wv d w)/\dk d (wv d w)<=4000000000000000000)
  (N:Nat) (H:ZK) (hS:ZX d r lo s lvh I (iU (aA d r) be ch w) (fg d r w) H) (hN:N<H.A) (hNs:N≠s/\∀k j,k<r.length->j<6->N≠I k j) (hNg:H.get N=some (.J 0 3 (ints (wv d w)))) (n:Nat) (hn:n=d.C.length)
  (K:ZQ->ZK->Prop) (hK:∀H',H'.A=H.A->nM r s I H H'->ZX d r lo s lvh I (iU (aA d r) be ch (w+1)) (fg d r (w+1)) H'->K (.ret (.nc [])) H'):
  ae prog G0 114 [.O s 0 0,aa w,.U N 0 0 n 1] H K:=by
 subst hn;obtain⟨D,hD⟩:∃D,D=aA d r:=⟨_,rfl⟩
 obtain⟨vals,hvals⟩:∃vals,vals=wv d w:=⟨_,rfl⟩
 rw[<- hvals]at hNg hbg;have hfit:cJ (au d.C) vals:=by rw[hvals];exact iE hok w
 have hvl:vals.length=d.C.length:=by rw[hfit.1,eU]
 have n8:=hok.n.n1.2;have hDo:=wL hok hr.mem;rw[<- hD]at hsz hcs hbd hbt hS hK hDo;have hlb:=hS.nj.len.be;have hlc:=hS.nj.len.ch;rw[<- hD]at hlb hlc;have hpl:=qm I r.length;have lso:=ag hS.top;have hll:iK H lvh=some (aa r.length):=by
  rcases hS.lv with ⟨h1,h2⟩|⟨id,g,_,_,h1,h2⟩
  ·have:r.length=0:=(by rw[<- hpl,h2];rfl);rw[h1,this];rfl
  ·rw[h1];unfold iK;simp[ag h2,hpl,aa]
 refine ae.sw (n:=120) (rs:=[]) func114 ?_;refine W.sq ?_;simp only[go_sem];refine W.sq ?_;simp only[go_sem,lso,hll];refine W.en (fun E=>E 0=.O s 0 0 /\ E 1=aa w /\ E 2=.U N 0 0 d.C.length 1 /\ E 6=aa 0 /\ E 13=lvh /\ E 14=aa r.length /\ E 15=aa 0) (by simp only[go_sem]) fun E ⟨e0,e1,e2,e6,e13,e14,e15⟩=>?_
 refine W.aS 1267650600228229401496703173568 (by rfl) (fun ρ Hx=>∃k:Nat,ρ 15=aa k/\k<=r.length/\ρ 6=aa (jE D k w)/\Hx.A=H.A/\nM r s I H Hx/\ZX d r lo s lvh I (jH D be ch w k k k) (fg d r w) Hx) (fun ρ Hx=>r.length-(iv (ρ 15)).toNat) ?_ ?_
 ·simp only[go_sem,e15,e6];exact⟨0,rfl,V,rfl,fun _ _ _=>rfl,hS⟩
 rintro ρ Hx ⟨k,h15,hk,h6,nx,hout,hSx⟩;refine W.en (fun E1=>E1 0=.O s 0 0 /\ E1 1=aa w /\ E1 2=.U N 0 0 d.C.length 1 /\ E1 6=aa (jE D k w) /\ E1 13=lvh /\ E1 14=aa r.length /\ E1 15=aa k) (by simp only[go_sem,e0,e1,e2,h6,e13,e14,h15]) fun E1 ⟨f0,f1,f2,f6,f13,f14,f15⟩=>?_
 by_cases hb:(k:Int)<r.length;rotate_left
 ·refine W.vs ?_;simp only[go_sem,f14,f15,hb];have hkr:k=r.length:=V
  rw[hkr]at hSx;have hS2:ZX d r lo s lvh I (iU D be ch (w+1)) (fg d r w) Hx:=hSx.same (T8 w r.length) (by rw[<- hD];exact Gl hlb hlc _);have ls2:=ag hS2.top;have hll2:iK Hx lvh=some (aa r.length):=by
   rcases hS2.lv with ⟨h1,h2⟩|⟨id,g,_,_,h1,h2⟩
   ·have:r.length=0:=(by rw[<- hpl,h2];rfl);rw[h1,this];rfl
   ·rw[h1];unfold iK;simp[ag h2,hpl,aa]
  have ggl:(dM d)[w]?=some (dk d (wv d w)):=AU hw;have gg:(ints (dM d))[w]?=some (aa (dk d (wv d w))):=by rw[gZ,ggl];rfl
  have ggn:=aZ gg;have ggi:(w:Int)<(dM d).length:=by have:=aO ggl;omega
  by_cases hr0:(r.length:Int)=0
  ·have hr00:r.length=0:=V;refine W.sq ?_;simp only[go_sem,f0,ls2,hll2,hr0];refine W.cond (t:=true) rfl ?_;have et:fg d r (w+1)=fg d r w+dk d (wv d w):=by
    unfold fg;rw[Vh hr00,Vh hr00,ig];rfl
   have hbt':=hbt (w+1) V;have et2:fg d r (w+1)=SS (w+1) D.nr:=(by unfold fg;rw[Vh hr00,hD]);rw[<- et2,et]at hbt';have w6:=Vd (fg d r w+dk d (wv d w)) V;refine W.dr 11 [0,1,3,7,0,16,48,112,0,496,1008] mixed ?_;simp only[go_sem,f0,f1,ls2,gg,ggn,ggi,w6];refine aj.mk (by rw[aQ];omega) (hK _ (by rw[aQ];exact nx) (fun i h1 h2=>by rw[ah,Vg h1];exact hout i h1 h2) ?_);rw[et];exact hS2.Ga
  ·have hr00:¬r.length=0:=V;refine W.sq ?_;simp only[go_sem,f0,ls2,hll2,hr0];refine W.cond (t:=false) rfl ?_;have et:fg d r (w+1)=fg d r w:=(by unfold fg;rw[Vg hr00,Vg hr00]);refine W.vs ?_;simp only[go_sem];refine aj.mk V (hK Hx nx hout ?_);rw[et];exact hS2
 have hk2:k<r.length:=V
 refine W.sq ?_;simp only[go_sem,f14,f15,hb];refine W.sq ?_;simp only[go_sem];refine W.seq (W.block ?_);obtain⟨il,gl,hlv,glv,_,_⟩:=hSx.AN hk2;have llv:=ag glv;have hpk:=AM (I:=I) hk2;have hpn:=aZ hpk;refine W.sq ?_;simp only[go_sem,f13,f15,hlv,llv,hpk,hb];obtain⟨v,hv⟩:=ay hk2;have hvd:r.getD k 0=v:=gD hv;have hm:=hr.mem v (an hv);obtain⟨x,hx⟩:=ay (bN.1 hm).1;obtain⟨hrn,hxp,hin,ps⟩:=xC hok hx;obtain⟨r1,r2⟩:=lu hok hx hfit;have hxc:=hok.n.L x (an hx);obtain⟨e1',e2'⟩:=iQ hx V;have ecs:D.cs k=bZ d.C x:=by rw[hD];show dB d (r.getD k 0)=_;rw[hvd];exact e1'
 have ecd:(D.cd k:Int)=x.L:=by rw[hD];show (eM d (r.getD k 0):Int)=_;rw[hvd];exact e2'
 obtain⟨c,hc⟩:∃c,c=D.nt k w:=⟨_,rfl⟩
 have hcr:c=cM d.C v vals:=by rw[hc,hD,hvals];show cM d.C (r.getD k 0) (wv d w)=_;rw[hvd]
 obtain⟨y,hy⟩:∃y,y=D.nI k w:=⟨_,rfl⟩
 have hcl:c<D.cs k:=by rw[hc];exact hDo.nt k w (by rw[hD];exact hk2) (by rw[hD];exact hw)
 have hyl:y<D.cd k:=by rw[hy];exact hDo.nI k w (by rw[hD];exact hk2) (by rw[hD];exact hw)
 obtain⟨yv,hyv⟩:=ay (l:=vals) (i:=v) (by rw[hvl];exact(bN.1 hm).1);have hyf:=hfit.2 v _ yv (cS hx) hyv;have hyy:yv=(y:Int):=by
  have:y=(vals.getD v 0).toNat:=by rw[hy,hD,hvals];show ((wv d w).getD (r.getD k 0) 0).toNat=_;rw[hvd]
  rw[kK hyv]at this;omega
 have hgN:Hx.get N=some (.J 0 3 (ints vals)):=(hout N hNs.1 hNs.2).trans hNg;have hpc:aY prog G0 (.X 147 [] []) [.Q d.C.length (aG d.C),.lit (.int .i64 v),.U N 0 0 d.C.length 1] Hx (.lit (.int .i64 (c:Int))) [N]:=by
  have:=FW d.C v x vals hx hin ps hfit Hx N d.C.length V hgN hvl.symm;rw[hcr,r1];exact this
 have lx:=ag hSx.top;have l0:=ag (hSx.nj.nJ k hk2);rw[<- hD]at l0;simp only[my,hvd]at l0;refine W.seq ?_;refine W.dr 10 [0,1,3,7,15,0,32,96,224,0] mixed ?_;simp only[go_sem,f0,f2,lx,l0];refine ak.mono (hpc.2 Hx (fun _ _=>rfl) ZJ) fun rr H3 hrr=>?_;obtain⟨rfl,rfl⟩:=hrr;refine⟨trivial,?_⟩;simp only[go_sem]
  -- nw
 have hle1:=(rU D k w)
 have gab:=hSx.nj.nF k 1 hk2 V V;have lab:=ag gab;have tab1:(jH D be ch w k k k).ab k=dp D k w:=by show dp D k (fw w k k)=_;rw[xq ZJ]
 simp only[dL,tab1]at lab;have lla:(ints (dp D k w)).length=D.cs k:=by rw[bD];exact hle1
 have hci:(c:Int)<D.cs k:=V
 have e1s:setAt (ints (dp D k w)) c [.lit (.int .i64 (jE D k w:Nat))]=ints (dp D k (w+1)):=by
  rw[iR V];show _=ints ((dp D k w).set (D.nt k w) (jE D k w));rw[hc]
 refine W.en (fun E2=>E2 0=.O s 0 0 /\ E2 1=aa w /\ E2 2=.U N 0 0 d.C.length 1 /\ E2 6=aa (jE D k w) /\ E2 7=aa k /\ E2 8=.O (I k 0) 0 0 /\ E2 9=aa c /\ E2 15=aa k) (by simp only[go_sem,f0,f1,f2,f6,f15]) fun E2 ⟨m0,m1,m2,m6,m7,m8,m9,m15⟩=>?_
 refine W.sq ?_;simp only[go_sem,m8,m9,m6,l0,lab,lla,hci,e1s];refine⟨V,?_⟩;obtain⟨H4,hH4⟩:∃H4,H4=H3.upd (I k 1) (.J 0 3 (ints (dp D k (w+1)))):=⟨_,rfl⟩
 rw[<- hH4];have hS4:ZX d r lo s lvh I (jH D be ch w (k+1) k k) (fg d r w) H4:=by
  have hb:dL (jH D be ch w (k+1) k k) k 1=.J 0 3 (ints (dp D k (w+1))):=by show ZR.J 0 _ (ints (dp D k (fw w (k+1) k)))=_;rw[uj (Wi k)]
  rw[hH4,<- hb];refine hSx.upd hk2 V V (fun k' j' h1 h2 h3 h4=>?_) (by rw[<- hD];exact xw hlb hlc _ _ _ _)
  match j',h2,h3 with
  |1,_,_ =>
   show ZR.J 0 _ (ints (dp D k' (fw w (k+1) k')))=ZR.J 0 _ (ints (dp D k' (fw w k k')));rw[xt fun e=>h4 ⟨e,rfl⟩]
  |2,_,_=>rfl
  |3,_,_=>rfl
  |4,_,_=>rfl
  |5,_,_=>rfl
 have n4:H4.A=H.A:=by rw[hH4,aQ];exact nx
 have o4:nM r s I H H4:=fun i h1 h2=>by rw[hH4,ah,Vg (h2 k 1 hk2 V)];exact hout i h1 h2
 clear hH4 lab lx l0
  -- occurs
 have lx:=ag hS4.top;have l0:=ag (hS4.nj.nJ k hk2);rw[<- hD]at l0;have loc:=ag (hS4.nj.nF k 2 hk2 V V);have toc:(jH D be ch w (k+1) k k).oc k=ep D k w:=by show ep D k (fw w k k)=_;rw[xq ZJ]
 simp only[my,hvd]at l0;simp only[dL,toc]at loc;have llo:(gG (ep D k w)).length=D.cs k:=by rw[F9];exact qf D k w
 obtain⟨o,ho⟩:=ay (l:=ep D k w) (i:=c) (by rw[qf];omega);have go:(gG (ep D k w))[c]?=some (.lit (.bool o)):=by rw[TA,ho];rfl
 have gon:=aZ go;have gwl:(eC d)[w]?=some (cK d (wv d w)):=by unfold eC;rw[List.getElem?_map,VR hw];rfl
 have gw:(ints (eC d))[w]?=some (aa (cK d (wv d w))):=by rw[gZ,gwl];rfl
 have gwn:=aZ gw;have gwi:(w:Int)<(eC d).length:=by have:=aO gwl;omega
 have hwt:D.wt w=cK d (wv d w):=by rw[hD];rfl
 have eos:∀b:Bool,b=(o ||decide (0<cK d (wv d w)))->setAt (gG (ep D k w)) c [.lit (.bool b)]=gG (ep D k (w+1)):=fun b hb2=>by
  rw[TB (by rw[qf];omega)];show _=gG ((ep D k w).set (D.nt k w) ((ep D k w).getD (D.nt k w) false ||decide (0<D.wt w)));rw[<- hc,kK ho,hwt,hb2]
 obtain⟨H5,hH5⟩:∃H5,H5=H4.upd (I k 2) (.J 0 4 (gG (ep D k (w+1)))):=⟨_,rfl⟩
 refine W.tt (fun s'=>s'.H=H5/\s'.ρ 0=.O s 0 0/\s'.ρ 1=aa w/\s'.ρ 2=.U N 0 0 d.C.length 1/\s'.ρ 7=aa k/\s'.ρ 8=.O (I k 0) 0 0/\s'.ρ 9=aa c/\s'.ρ 15=aa k) ?_ ?_
 ·refine W.dr 22 [0,1,3,7,0,0,32,96,224,0,992,2016,4064,8160,16352,32736,65504,8160,262112,524256,1048544,2097120] mixed ?_;cases o with
  |true =>
   have eos':=eos true ZG;simp only[go_sem,m0,m1,m2,m7,m8,m9,m15,l0,loc,llo,go,hci,eos'];exact⟨V,hH5.symm⟩
  |false =>
   by_cases hp:0<cK d (wv d w)
   ·have eos':=eos true (by simp[hp]);simp only[go_sem,m0,m1,m2,m7,m8,m9,m15,lx,l0,loc,llo,go,hci,gw,gwn,gwi,hp,eos'];exact⟨V,hH5.symm⟩
   ·have eos':=eos false (by simp[hp]);simp only[go_sem,m0,m1,m2,m7,m8,m9,m15,lx,l0,loc,llo,go,hci,gw,gwn,gwi,hp,eos'];exact⟨V,hH5.symm⟩
 rintro⟨ρ6,Hq⟩ ⟨hq,p0,p1,p2,p7,p8,p9,p15⟩;simp only at hq p0 p1 p2 p7 p8 p9 p15;subst hq;have hS5:ZX d r lo s lvh I (jH D be ch w (k+1) (k+1) k) (fg d r w) Hq:=by
  have hb:dL (jH D be ch w (k+1) (k+1) k) k 2=.J 0 4 (gG (ep D k (w+1))):=by show ZR.J 0 _ (gG (ep D k (fw w (k+1) k)))=_;rw[uj (Wi k)]
  rw[hH5,<- hb];refine hS4.upd hk2 V V (fun k' j' h1 h2 h3 h4=>?_) (by rw[<- hD];exact xw hlb hlc _ _ _ _)
  match j',h2,h3 with
  |1,_,_=>rfl
  |2,_,_ =>
   show ZR.J 0 _ (gG (ep D k' (fw w (k+1) k')))=ZR.J 0 _ (gG (ep D k' (fw w k k')));rw[xt fun e=>h4 ⟨e,rfl⟩]
  |3,_,_=>rfl
  |4,_,_=>rfl
  |5,_,_=>rfl
 have n5:Hq.A=H.A:=by rw[hH5,aQ];exact n4
 have o5:nM r s I H Hq:=fun i h1 h2=>by rw[hH5,ah,Vg (h2 k 2 hk2 V)];exact o4 i h1 h2
 clear hH5 loc lx l0;have lx:=ag hS5.top;have l0:=ag (hS5.nj.nJ k hk2);rw[<- hD]at l0;simp only[my,hvd]at l0;have lN:=ag ((o5 N hNs.1 hNs.2).trans hNg);have gy:(ints vals)[v]?=some (aa y):=by rw[gZ,hyv,hyy];rfl
 have gyn:=aZ gy;have lln:(ints vals).length=d.C.length:=by rw[bD];exact hvl
 have hvi:(v:Int)<d.C.length:=by have:=(bN.1 hm).1;omega
 have hbr:c*D.cd k+y<D.cs k*D.cd k:=by
  have h3:(c+1)*D.cd k<=D.cs k*D.cd k:=VO _ hcl;rw[VT,Xv]at h3;omega
 have hsz':=hsz k hk2;obtain⟨b,hbe⟩:∃b:Nat,b=c*D.cd k+y:=⟨_,rfl⟩
 have hbD:D.br k w=b:=by rw[hbe,hc,hy];rfl
 have eb1:(c:Int)*(D.cd k:Int)=((c*D.cd k:Nat):Int):=ZG
 have eb2:((c*D.cd k:Nat):Int)+(y:Int)=(b:Int):=by rw[hbe];omega
 rw[<- hbe]at hbr;have w1:=Vd ((c*D.cd k:Nat):Int) V;have w2:=Vd (b:Int) V;refine W.seq ?_;refine W.dr 13 [0,0,2,6,14,31,0,0,128,384,896,1984,4032] mixed ?_;simp only[go_sem,p2,p8,p9,l0,lN,gy,hvi,eb1,w1,eb2,w2];refine W.en (fun E3=>E3 0=.O s 0 0 /\ E3 1=aa w /\ E3 6=aa b /\ E3 7=aa k /\ E3 8=.O (I k 0) 0 0 /\ E3 15=aa k) (by simp only[go_sem,p0,p1,p7,p8,p15]) fun E3 ⟨s0,s1,s6,s7,s8,s15⟩=>?_
 have hll5:iK Hq lvh=some (aa r.length):=by
  rcases hS5.lv with ⟨h1,h2⟩|⟨id,g,_,_,h1,h2⟩
  ·have:r.length=0:=(by rw[<- hpl,h2];rfl);rw[h1,this];rfl
  ·rw[h1];unfold iK;simp[ag h2,hpl,aa]
 have wl:=Vd ((r.length:Int)-1) V;have wk:=Vd ((k:Int)+1) V;have hbrI:jE D (k+1) w=b:=by unfold jE;rw[Vg V,WM];exact hbD
 by_cases hlast:(k:Int)=(r.length:Int)-1
 ·have hKl:k+1=D.K:=by rw[hD];show k+1=r.length;omega
  have hdec:(decide ((k:Int)=(r.length:Int)-1))=true:=VD hlast;refine W.sq ?_;simp only[go_sem,s0,s7,lx,hll5,wl,hdec];refine W.cond (t:=true) rfl ?_;have lex:=ag (hS5.nj.nF k 3 hk2 V V);have tex:(jH D be ch w (k+1) (k+1) k).ex k=bC D k w:=by show bC D k (fw w k k)=_;rw[xq ZJ]
  simp only[dL,tex]at lex;have lle:(ints (bC D k w)).length=D.cs k*D.cd k:=by rw[bD];exact mr D k w
  obtain⟨ev,hev⟩:=ay (l:=bC D k w) (i:=b) (by rw[mr];exact hbr);have gev:(ints (bC D k w))[b]?=some (aa ev):=by rw[gZ,hev];rfl
  have gevn:=aZ gev;have ggl:(dM d)[w]?=some (dk d vals):=by rw[hvals];exact AU hw
  have gg:(ints (dM d))[w]?=some (aa (dk d vals)):=by rw[gZ,ggl];rfl
  have ggn:=aZ gg;have ggi:(w:Int)<(dM d).length:=by have:=aO ggl;omega
  have hbi:(b:Int)<(D.cs k*D.cd k:Nat):=V
  have hgw:D.nr w=dk d vals:=by rw[hD,hvals];rfl
  have hKr:k+1=r.length:=by rw[hD]at hKl;exact hKl
  have esucc:bC D k (w+1)=(bC D k w).set b (ev+dk d vals):=by
   show (if k+1=D.K then (bC D k w).set (D.br k w) ((bC D k w).getD (D.br k w) 0+D.nr w) else bC D k w)=_;rw[Vh hKl,hbD,kK hev,hgw]
  have hbd':=hbd k b hKr w V;rw[kK hev]at hbd';have w6:=Vd (ev+dk d vals) V;have ees:setAt (ints (bC D k w)) b [.lit (.int .i64 (ev+dk d vals))]=ints (bC D k (w+1)):=by rw[iR (by rw[mr];exact hbr),esucc]
  refine W.dr 14 [0,1,3,7,0,31,63,0,128,384,896,0,3968,8064] mixed ?_;simp only[go_sem,s0,s1,s6,s8,lx,l0,lex,lle,gev,gg,ggn,ggi,hbi,w6,ees];refine⟨V,?_⟩;refine W.vs ?_;simp only[go_sem,s15,s6,wk];rw[<- hlv];obtain⟨H6,hH6⟩:∃H6,H6=Hq.upd (I k 3) (.J 0 3 (ints (bC D k (w+1)))):=⟨_,rfl⟩
  rw[<- hH6];have n6:H6.A=H.A:=by rw[hH6,aQ];exact n5
  refine⟨V,⟨k+1,rfl,V,by rw[hbrI],n6,fun i h1 h2=>by rw[hH6,ah,Vg (h2 k 3 hk2 V)];exact o5 i h1 h2,?_⟩,by rw[h15];simp only[aa,bf];omega⟩;have hb:dL (jH D be ch w (k+1) (k+1) (k+1)) k 3=.J 0 3 (ints (bC D k (w+1))):=by show ZR.J 0 _ (ints (bC D k (fw w (k+1) k)))=_;rw[uj (Wi k)]
  rw[hH6,<- hb];refine hS5.upd hk2 V V (fun k' j' h1 h2 h3 h4=>?_) (by rw[<- hD];exact xw hlb hlc _ _ _ _)
  match j',h2,h3 with
  |1,_,_=>rfl
  |2,_,_=>rfl
  |3,_,_ =>
   show ZR.J 0 _ (ints (bC D k' (fw w (k+1) k')))=ZR.J 0 _ (ints (bC D k' (fw w k k')));rw[xt fun e=>h4 ⟨e,rfl⟩]
  |4,_,_=>rfl
  |5,_,_=>rfl
 ·have hKl:k+1≠D.K:=by rw[hD];show k+1≠r.length;omega
  refine W.sq ?_;simp only[go_sem,s0,s7,lx,hll5,wl,hlast];refine W.cond (t:=false) rfl ?_;refine W.vs ?_;simp only[go_sem];refine W.vs ?_;simp only[go_sem,s15,s6,wk];rw[<- hlv];refine⟨V,⟨k+1,rfl,V,by rw[hbrI],n5,o5,hS5.same (fun k' j' h1=>?_) (by rw[<- hD];exact xw hlb hlc _ _ _ _)⟩,by rw[h15];simp only[aa,bf];omega⟩;by_cases e:k'=k
  ·subst e;have e0:bC D k' (fw w k' k')=bC D k' (fw w (k'+1) k'):=by
    rw[xq ZJ,uj (Wi k')];show _=(if k'+1=D.K then _ else bC D k' w)
    rw[Vg hKl]
   unfold dL jH;simp only[e0]
  ·unfold dL jH;simp only[xt e]
end Go.Proofs
namespace Go.Hx
variable {P:Program}
end Go.Hx
namespace Go.Proofs
open Go.Hx Tryz
variable {tot:Int}{r:List Nat}{i lo n:Nat}{I:Nat->Nat->Nat}{H:ZK}{lvh:ZL}{d:ZN}{T:ZW}
def Gm (r:List Nat)(s:Nat)(lvh:ZL)(I:Nat->Nat->Nat)(n0:Nat):Prop:=s<n0/\(∀k j,k<r.length->j<6->I k j<n0)/\∀id g n,lvh=.U id g 0 n 1->id<n0
def ZX.bnd {s:Nat}(h:ZX d r lo s lvh I T tot H):Gm r s lvh I H.A :=
 ⟨h.nH.2,fun k j h1 h2=>(h.nj.np k j h1 h2).2,fun id g n hv=>by
  rcases h.lv with ⟨h1,_⟩|⟨id',g',_,h2,h3,_⟩
  ·rw[h1]at hv;cases hv
  ·rw[h3]at hv;rw[<- (ZL.U.inj hv).1];exact h2⟩
def ZX.oY {s n0:Nat}{H':ZK}(h:ZX d r lo s lvh I T tot H)(hb:Gm r s lvh I n0)(hn:H.A<=H'.A)(hk:∀i,i<n0->H'.get i=H.get i):ZX d r lo s lvh I T tot H' :=
 ⟨by rw[hk s hb.1];exact h.top,by have:=h.nH;omega,h.lv.ng ZJ hn fun i g _ _ _ hv=>hk i (hb.2.2 _ _ _ hv),h.sep,h.nK,h.nj.ng hn fun k j h1 h2=>hk _ (hb.2.1 k j h1 h2)⟩
def ZX.len {s:Nat}(h:ZX d r lo s lvh I T tot H):iK H lvh=some (aa r.length):=by
 have hpl:=qm I r.length;rcases h.lv with ⟨h1,h2⟩|⟨id,g,_,_,h1,h2⟩
 ·have:r.length=0:=by rw[<- hpl,h2];rfl
  rw[h1,this];rfl
 ·rw[h1];unfold iK;simp[ag h2,hpl,aa]
def oZ (n:Nat):List (List ZL):=(List.range n).map fun (i:Nat)=>[aa ((n:Int)-1-(i:Int))]
def AR (n:Nat):(oZ n).length=n:=by simp[oZ]
def Gn (h:i<n):(oZ n)[i]?=some [aa ((n:Int)-1-i)]:=by unfold oZ;rw[List.getElem?_map,VR h];rfl
def Ua {y:List ZL}(h:(oZ n)[i]?=some y):i<n/\y=[aa ((n:Int)-1-i)]:=by
 have hl:=aO h;rw[AR]at hl;rw[Gn hl]at h;exact⟨hl,(Option.some.inj h).symm⟩
def Ub :∀x∈oZ n,x.length=1:=fun x hx=>by
 unfold oZ at hx;obtain⟨i,_,rfl⟩:=Vu.1 hx;rfl
def Uc (d:ZN)(s bx n:Nat)(H:ZK):Prop:=H.get bx=some (.J 0 134 [.O s 0 0])/\∃lvh tot,H.get s=some (.J 0 184 [.lit (.int .i64 d.Z),.Q d.C.length (aG d.C),.lit (.int .u64 (d.nl:Int)),.Q d.Y.length (bA d.Y),lvh,af (eC d),af (dM d),.lit (.int .i64 tot)])/\iK H lvh=some (aa n)
def Ud (d:ZN)(s bx n:Nat)(hn:n<=64):um prog G0 149 [] [.O bx 0 0] (oZ n) (Uc d s bx n):=by
 intro idy J Stop H K hS hJ0 hY hK hSt;obtain⟨h1,lvh,tot,h2,h3⟩:=hS 0 H hJ0;have l1:=ag h1;have l2:=ag h2;have w0:=Vd ((n:Int)-1) V;show ae _ _ _ ([.nk idy]++[.O bx 0 0]) _ _;refine ae.st (n:=18) (rs:=[]) func149 ?_;simp only[go_sem,l1,l2,h3,w0];refine W.aS 261128 (by rfl) (fun ρ H'=>∃i:Nat,ρ 3=aa ((n:Int)-1-i)/\i<=n/\J i H'/\H.A<=H'.A) (fun ρ H=>(iv (ρ 3)+1).toNat) ?_ ?_
 ·simp only[go_sem];exact⟨0,ZG,V,hJ0⟩
 rintro ρ H' ⟨i,h3,hi,hj,hnx⟩;refine W.vs ?_;by_cases hb:(0:Int)<=(n:Int)-1-i
 ·have hin:i<n:=V
  have w1:=Vd ((n:Int)-1-i-1) V;simp only[go_sem,h3,hb];refine hY _ _ H' _ (Gn hin) hj hnx (fun H2 hj2 hn2=>⟨trivial,?_⟩) (fun H2 hs2 hn2=>⟨trivial,?_⟩)
  ·simp only[go_sem,h3,w1];exact⟨V,⟨i+1,by congr 2;omega,V,hj2,V⟩,V⟩
  ·simp only[go_sem];exact aj.mk V (hSt H2 hs2 V)
 ·simp only[go_sem,h3,hb];have ei:i=n:=V
  exact aj.mk V (hK H' (by rw[AR,<- ei];exact hj) hnx)
def Ue (s:Nat)(H:ZK)(K:ZQ->ZK->Prop)(hK:K (.ret (.X 149 [] [.O H.A 0 0])) (ext H [.J 0 134 [.O s 0 0]])):
  ae prog G0 115 [.O s 0 0] H K:=by
 refine ae.st (n:=4) (rs:=[.tmp 2]) func115 ?_;simp only[go_sem];exact aj.mk (by simp[aW]) hK
def Uf (hok:ZS d)(hr:Z0 d r)(hrl:r.length<=64){s:Nat}{be ch:Nat->List Int}
  (hsz:∀k,k<r.length->(aA d r).cs k*(aA d r).cd k<2 ^ 40) (hcs:∀k,k<r.length->(aA d r).cs k<2 ^ 40)
  (hbd:∀(k b:Nat),k+1=r.length->∀n,n<=cH d.C->-4000000000000000000<=(bC (aA d r) k n).getD b 0/\(bC (aA d r) k n).getD b 0<=4000000000000000000) (hbt:∀n,n<=cH d.C->-4000000000000000000<=SS n (aA d r).nr/\SS n (aA d r).nr<=4000000000000000000)
  (hbg:∀w,w<cH d.C->-4000000000000000000<=dk d (wv d w)/\dk d (wv d w)<=4000000000000000000)
  (H:ZK) (hS:ZX d r lo s lvh I (iU (aA d r) be ch 0) (fg d r 0) H)
  (K:ZQ->ZK->Prop) (hK:∀H',H.A<=H'.A->(∀i,i<H.A->i≠s->(∀k j,k<r.length->j<6->i≠I k j)->H'.get i=H.get i)->ZX d r lo s lvh I (iU (aA d r) be ch (cH d.C)) (fg d r (cH d.C)) H'->K (.ret (.nc [])) H'):
  ae prog G0 113 [.O s 0 0,.X 114 [.O s 0 0] []] H K:=by
 have n8:=hok.n.n1;have hcards:∀c∈au d.C,1<=c/\c<=4:=fun c hc=>by
  obtain⟨x,hx,rfl⟩:=Vu.1 hc;exact hok.n.L x hx
 have sm:fb (au d.C):=se (by rw[eU];omega) hcards;have hB0:=hS.bnd;have hsol:=hS.nH.2;have lso:=ag hS.top;have lsoe:∀L,(ext H L).na s 0=_:=fun L=>(eF hsol).trans lso;refine ae.st (n:=19) (rs:=[]) func113 ?_;simp only[go_sem,lsoe];refine ak.X (FY d.C V _ _ ⟨trivial,?_⟩);simp only[go_sem];refine ak.X (FU (au d.C) _ _ ⟨trivial,?_⟩);simp only[go_sem];obtain⟨H2,hH2⟩:∃H2,H2=ext (ext H [.J 0 193 (ZL.X 114 [.O s 0 0] []).cells]) [.J 0 72 [af (au d.C)]]:=⟨_,rfl⟩
 have n2:H2.A=H.A+2:=by rw[hH2];rfl
 have o2:ZP H H2:=by rw[hH2];exact(ZP.ext _ _).trans (.ext _ _)
 have g0:H2.get H.A=some (.J 0 193 [.X 114 [.O s 0 0] []]):=by rw[hH2,ee];exact bM H _ 0 (ZG)
 have g1:H2.get (H.A+1)=some (.J 0 72 [af (au d.C)]):=by rw[hH2,ee];exact bM H _ 1 (ZG)
 refine W.env fun E hE'=>?_;have e3:E 3=.O H.A 0 0:=by rw[hE'];simp only[go_sem]
 have e12:E 12=.X 176 [] [.O (H.A+1) 0 0]:=by rw[hE'];rfl
 clear hE';show W _ _ _ _ _ _ ⟨E,ext (ext H [.J 0 193 (ZL.X 114 [.O s 0 0] []).cells]) [.J 0 72 [af (au d.C)]]⟩;rw[<- hH2];have hit:=FT (au d.C) (fun c hc=>(hcards c hc).1) sm (H.A+1) (H2.A+1) V;have hsn:∀i,H.A<=i->i≠s/\∀k j,k<r.length->j<6->i≠I k j:=fun i hi=>⟨by have:=hB0.1;omega,fun k j h1 h2=>by have:=hB0.2.1 k j h1 h2;omega⟩
 refine W.GF (f:=176) (first:=[]) (cap:=[.O (H.A+1) 0 0]) (by show E 12=_;exact e12) hit
  (fun k Hx=>H2.A<Hx.A/\(∀id,id<H2.A->id≠s->(∀k j,k<r.length->j<6->id≠I k j)->Hx.get id=H2.get id)/\ZX d r lo s lvh I (iU (aA d r) be ch k) (fg d r k) Hx)
  (fun _ _=>False)
  (fun k Hx h=>(h.2.1 _ V (hsn _ V).1 (hsn _ V).2).trans g1)
  (fun k H1 H3 h hw=>⟨by have:=hw.1;omega,fun id h1 h2 h3=>(hw.2 _ V (by have:=h.1;omega)).trans (h.2.1 id h1 h2 h3),h.2.2.oY hB0 hw.1 fun id hi=>hw.2 id V (by have:=h.1;omega)⟩)
  (fun k Hx h=>h.1)
  (fun k H1 b h=>⟨h.1,fun id h1 h2 h3=>by rw[ah,Vg V];exact h.2.1 id h1 h2 h3,h.2.2.oY hB0 (by rw[aQ];exact Nat.le_refl _) fun id hi=>by rw[ah,Vg V]⟩)
  (fun _ _ _ h=>h) (fun k H1 b h=>by unfold sd at h ⊢;rw[ah,Vg V];exact h)
  (fun b=>⟨by rw[aW];simp,fun id h1 h2 h3=>dz h1,hS.oY hB0 (by rw[aW];omega) fun id hi=>by rw[dz V,o2.nf _ hi]⟩) (ZH)
  (fun x hx=>by
   obtain⟨k,hk⟩:=Vl.1 hx;obtain⟨_,rfl⟩:=xc hk;rfl) (fun _ _ _=>trivial) (fun _ _ _=>trivial) (fun k y Hx B Bb hy hj hcs' hn hB hBb=>?_) (fun Hx hj hn=>?_) (fun _ hs _=>hs.elim) (fun _ _ hs _=>hs.elim)
 ·obtain⟨hk,rfl⟩:=xc hy;refine W.vs ?_;simp only[go_sem,jL,dq,mE,Wk,XB,WX,W5,hB];obtain⟨H3,hH3⟩:∃H3,H3=Hx.upd H2.A Bb:=⟨_,rfl⟩
  rw[<- hH3];obtain⟨st,pd,n',en,ps',as',bo,hBe⟩:=hBb;have n3:H3.A=Hx.A:=by rw[hH3];rfl
  have o3:∀id,id≠H2.A->H3.get id=Hx.get id:=fun id h=>by rw[hH3,ah,Vg h]
  have jB:H3.get H2.A=some Bb:=by rw[hH3,ah,Vh rfl]
  have k0:=ag ((o3 _ V).trans ((hj.2.1 H.A V (hsn _ V).1 (hsn _ V).2).trans g0));have kN:H3.get (H2.A+1)=some (.J 0 3 (ints (bU (au d.C) k))):=(o3 _ V).trans hcs';have hS3:ZX d r lo s lvh I (iU (aA d r) be ch k) (fg d r k) H3:=hj.2.2.oY hB0 V fun id hi=>o3 id V;refine W.en (fun E1=>E1 3=.O H.A 0 0 /\ E1 4=aa k /\ E1 5=.U (H2.A+1) 0 0 d.C.length 1) (by simp only[go_sem,dq,e3,eU]) fun E1 ⟨m3,m4,m5⟩=>?_
  refine W.vs ?_;simp only[go_sem,m3,m4,m5,k0];refine ak.X (T9 hok hr hrl hk hsz hcs hbd hbt (hbg k hk) (H2.A+1) H3 hS3 V (hsn _ V) kN d.C.length rfl _ fun H4 h4n h4o h4S=>⟨⟨_,_,_,_,_,_,_,by rw[h4o _ (hsn _ V).1 (hsn _ V).2,jB,hBe]⟩,?_⟩);simp only[go_sem,im];refine⟨by rw[h4o _ (hsn _ V).1 (hsn _ V).2];exact jB,V,⟨V,fun id h1 h2 h3=>by rw[h4o _ h2 h3,o3 _ V];exact hj.2.1 id h1 h2 h3,h4S⟩,?_⟩;unfold sd;rw[h4o _ (hsn _ V).1 (hsn _ V).2];exact kN
 ·simp only[go_sem];have hl:(nK (au d.C) (H2.A+1)).length=cH d.C:=AF ..;rw[hl]at hj;exact aj.mk V (hK Hx V (fun id h1 h2 h3=>(hj.2.1 id V h2 h3).trans (o2.nf _ h1)) hj.2.2)
end Go.Proofs
namespace Go.Hx
variable {P:Program} {t:TypeId} {x y:Operand} {k':IntKind} {a:Int}
def AS (h:0<=a/\a<4294967296):aU P .and t x y (.lit (.int .u64 a)) (.lit (.int .u64 4294967295))=some (.lit (.int .u64 a)):=by
 obtain⟨n,rfl⟩:=Vm h.1;rw[qt];have e1:(BitVec.ofInt 64 (n:Int)).toNat=n:=by rw[BitVec.ofInt_natCast,BitVec.toNat_ofNat,Xy V]
 have e:(BitVec.ofInt (IntKind.bits .u64) (n:Int) &&& BitVec.ofInt (IntKind.bits .u64) 4294967295).toNat=n:=by
  show (BitVec.ofInt 64 (n:Int) &&& BitVec.ofInt 64 ((4294967295:Nat):Int)).toNat=n;rw[BitVec.toNat_and,e1,show (BitVec.ofInt 64 ((4294967295:Nat):Int)).toNat=2 ^ 32-1 by rfl,YW];omega
 rw[e,VK _ V]
def uk (h:0<=a/\a<4294967296):aU P .shr t x y (.lit (.int .u64 a)) (.lit (.int k' 32))=some (.lit (.int .u64 0)):=by
 rw[su ZH];have e:a.fdiv (2 ^ (min (32:Int).toNat (IntKind.bits .u64)))=a / 4294967296:=Yk a ZH;rw[e,XE h.1 h.2]
end Go.Hx
namespace Go.Proofs
open Go.Hx Tryz
variable {a:Int}{m n:Nat}
def Ug (y:Nat)(hy:y<4294967296)(H:ZK)(K:ZQ->ZK->Prop)(hK:K (.ret (.nc [.lit (.int .u64 0),.lit (.int .u64 y)])) H):ae prog G0 141 [.lit (.int .u64 1),.lit (.int .u64 y)] H K:=by
 have ky:(0:Int)<=(y:Int)/\(y:Int)<4294967296:=V
 have k1:(0:Int)<=(1:Int)/\(1:Int)<4294967296:=V
 have k0:(0:Int)<=(0:Int)/\(0:Int)<4294967296:=V
 have v:=VK (y:Int) V;have z1:IntKind.u64.wrap 0=0:=rfl;refine ae.sw (n:=51) (rs:=[.tmp 4,.tmp 5]) func141 ?_;refine W.sq ?_;simp only[go_sem];refine W.env fun E0 hE0=>?_;have a0_0:E0 0=.lit (.int .u64 1):=by rw[hE0];rfl
 have a0_1:E0 1=.lit (.int .u64 y):=by rw[hE0];rfl
 clear hE0;refine W.sq ?_;simp only[go_sem,a0_0,AS,k1];refine W.env fun E1 hE1=>?_;have a1_0:E1 0=.lit (.int .u64 1):=by rw[hE1];exact a0_0
 have a1_1:E1 1=.lit (.int .u64 y):=by rw[hE1];exact a0_1
 have a1_6:E1 6=.lit (.int .u64 1):=by rw[hE1];rfl
 clear hE1;refine W.sq ?_;simp only[go_sem,a1_0,uk,k1];refine W.env fun E2 hE2=>?_;have a2_0:E2 0=.lit (.int .u64 1):=by rw[hE2];exact a1_0
 have a2_1:E2 1=.lit (.int .u64 y):=by rw[hE2];exact a1_1
 have a2_6:E2 6=.lit (.int .u64 1):=by rw[hE2];exact a1_6
 have a2_7:E2 7=.lit (.int .u64 0):=by rw[hE2];rfl
 clear hE2;refine W.sq ?_;simp only[go_sem,a2_1,AS,ky];refine W.env fun E3 hE3=>?_;have a3_0:E3 0=.lit (.int .u64 1):=by rw[hE3];exact a2_0
 have a3_1:E3 1=.lit (.int .u64 y):=by rw[hE3];exact a2_1
 have a3_6:E3 6=.lit (.int .u64 1):=by rw[hE3];exact a2_6
 have a3_7:E3 7=.lit (.int .u64 0):=by rw[hE3];exact a2_7
 have a3_8:E3 8=.lit (.int .u64 y):=by rw[hE3];rfl
 clear hE3;refine W.sq ?_;simp only[go_sem,a3_1,uk,ky];refine W.env fun E4 hE4=>?_;have a4_0:E4 0=.lit (.int .u64 1):=by rw[hE4];exact a3_0
 have a4_1:E4 1=.lit (.int .u64 y):=by rw[hE4];exact a3_1
 have a4_6:E4 6=.lit (.int .u64 1):=by rw[hE4];exact a3_6
 have a4_7:E4 7=.lit (.int .u64 0):=by rw[hE4];exact a3_7
 have a4_8:E4 8=.lit (.int .u64 y):=by rw[hE4];exact a3_8
 have a4_9:E4 9=.lit (.int .u64 0):=by rw[hE4];rfl
 clear hE4;refine W.sq ?_;simp only[go_sem,a4_6,a4_8,v,Yi];refine W.env fun E5 hE5=>?_;have a5_0:E5 0=.lit (.int .u64 1):=by rw[hE5];exact a4_0
 have a5_1:E5 1=.lit (.int .u64 y):=by rw[hE5];exact a4_1
 have a5_6:E5 6=.lit (.int .u64 1):=by rw[hE5];exact a4_6
 have a5_7:E5 7=.lit (.int .u64 0):=by rw[hE5];exact a4_7
 have a5_8:E5 8=.lit (.int .u64 y):=by rw[hE5];exact a4_8
 have a5_9:E5 9=.lit (.int .u64 0):=by rw[hE5];exact a4_9
 have a5_10:E5 10=.lit (.int .u64 y):=by rw[hE5];rfl
 clear hE5;refine W.sq ?_;simp only[go_sem,a5_7,a5_8,a5_10,uk,ky,z1,YI,XL];refine W.env fun E6 hE6=>?_;have a6_0:E6 0=.lit (.int .u64 1):=by rw[hE6];exact a5_0
 have a6_1:E6 1=.lit (.int .u64 y):=by rw[hE6];exact a5_1
 have a6_6:E6 6=.lit (.int .u64 1):=by rw[hE6];exact a5_6
 have a6_7:E6 7=.lit (.int .u64 0):=by rw[hE6];exact a5_7
 have a6_8:E6 8=.lit (.int .u64 y):=by rw[hE6];exact a5_8
 have a6_9:E6 9=.lit (.int .u64 0):=by rw[hE6];exact a5_9
 have a6_10:E6 10=.lit (.int .u64 y):=by rw[hE6];exact a5_10
 have a6_11:E6 11=.lit (.int .u64 0):=by rw[hE6];rfl
 clear hE6;refine W.sq ?_;simp only[go_sem,a6_11,AS,k0];refine W.env fun E7 hE7=>?_;have a7_0:E7 0=.lit (.int .u64 1):=by rw[hE7];exact a6_0
 have a7_1:E7 1=.lit (.int .u64 y):=by rw[hE7];exact a6_1
 have a7_6:E7 6=.lit (.int .u64 1):=by rw[hE7];exact a6_6
 have a7_7:E7 7=.lit (.int .u64 0):=by rw[hE7];exact a6_7
 have a7_8:E7 8=.lit (.int .u64 y):=by rw[hE7];exact a6_8
 have a7_9:E7 9=.lit (.int .u64 0):=by rw[hE7];exact a6_9
 have a7_10:E7 10=.lit (.int .u64 y):=by rw[hE7];exact a6_10
 have a7_11:E7 11=.lit (.int .u64 0):=by rw[hE7];exact a6_11
 have a7_12:E7 12=.lit (.int .u64 0):=by rw[hE7];rfl
 clear hE7;refine W.sq ?_;simp only[go_sem,a7_11,uk,k0];refine W.env fun E8 hE8=>?_;have a8_0:E8 0=.lit (.int .u64 1):=by rw[hE8];exact a7_0
 have a8_1:E8 1=.lit (.int .u64 y):=by rw[hE8];exact a7_1
 have a8_6:E8 6=.lit (.int .u64 1):=by rw[hE8];exact a7_6
 have a8_7:E8 7=.lit (.int .u64 0):=by rw[hE8];exact a7_7
 have a8_8:E8 8=.lit (.int .u64 y):=by rw[hE8];exact a7_8
 have a8_9:E8 9=.lit (.int .u64 0):=by rw[hE8];exact a7_9
 have a8_10:E8 10=.lit (.int .u64 y):=by rw[hE8];exact a7_10
 have a8_11:E8 11=.lit (.int .u64 0):=by rw[hE8];exact a7_11
 have a8_12:E8 12=.lit (.int .u64 0):=by rw[hE8];exact a7_12
 have a8_13:E8 13=.lit (.int .u64 0):=by rw[hE8];rfl
 clear hE8;refine W.sq ?_;simp only[go_sem,a8_6,a8_9,a8_12,z1,YY,XL];refine W.env fun E9 hE9=>?_;have a9_0:E9 0=.lit (.int .u64 1):=by rw[hE9];exact a8_0
 have a9_1:E9 1=.lit (.int .u64 y):=by rw[hE9];exact a8_1
 have a9_6:E9 6=.lit (.int .u64 1):=by rw[hE9];exact a8_6
 have a9_7:E9 7=.lit (.int .u64 0):=by rw[hE9];exact a8_7
 have a9_8:E9 8=.lit (.int .u64 y):=by rw[hE9];exact a8_8
 have a9_9:E9 9=.lit (.int .u64 0):=by rw[hE9];exact a8_9
 have a9_10:E9 10=.lit (.int .u64 y):=by rw[hE9];exact a8_10
 have a9_11:E9 11=.lit (.int .u64 0):=by rw[hE9];exact a8_11
 have a9_12:E9 12=.lit (.int .u64 0):=by rw[hE9];rfl
 have a9_13:E9 13=.lit (.int .u64 0):=by rw[hE9];exact a8_13
 clear hE9;refine W.sq ?_;simp only[go_sem,a9_7,a9_9,a9_12,a9_13,uk,k0,z1,YY,XL];refine W.env fun E10 hE10=>?_;have a10_0:E10 0=.lit (.int .u64 1):=by rw[hE10];exact a9_0
 have a10_1:E10 1=.lit (.int .u64 y):=by rw[hE10];exact a9_1
 have a10_6:E10 6=.lit (.int .u64 1):=by rw[hE10];exact a9_6
 have a10_7:E10 7=.lit (.int .u64 0):=by rw[hE10];exact a9_7
 have a10_8:E10 8=.lit (.int .u64 y):=by rw[hE10];exact a9_8
 have a10_9:E10 9=.lit (.int .u64 0):=by rw[hE10];exact a9_9
 have a10_10:E10 10=.lit (.int .u64 y):=by rw[hE10];exact a9_10
 have a10_11:E10 11=.lit (.int .u64 0):=by rw[hE10];exact a9_11
 have a10_12:E10 12=.lit (.int .u64 0):=by rw[hE10];exact a9_12
 have a10_13:E10 13=.lit (.int .u64 0):=by rw[hE10];exact a9_13
 have a10_4:E10 4=.lit (.int .u64 0):=by rw[hE10];rfl
 clear hE10;refine W.vs ?_;simp only[go_sem,a10_0,a10_1,a10_4,v,Yi];exact aj.mk ZJ hK
def Uh (y:Nat)(hy:y<4294967296)(H:ZK)(K:ZQ->ZK->Prop)(hK:K (.ret (.nc [.lit (.int .u64 0),.lit (.int .u64 y)])) H):ae prog G0 148 [.lit (.int .u64 1),.lit (.int .u64 y)] H K:=by
 have v:=VK (y:Int) V;have z1:IntKind.u64.wrap 0=0:=rfl;have z2:IntKind.u64.wrap 1=1:=rfl;refine ae.st (n:=30) (rs:=[.tmp 4,.tmp 5]) func148 ?_;simp only[go_sem];refine ak.X (Ug y hy _ _ ⟨trivial,?_⟩);simp only[go_sem];exact aj.mk ZJ hK
def iV (a:Int)(m n:Nat):List Int:=List.replicate n a++List.replicate (m-n) 0
def Gp (h:n<=m):(iV a m n).length=m:=by unfold iV;simp;omega
def Ui (h:n<=m):setAt (ints (iV a m n)) n (((ints (iV a m n)).take n).take (min n (m-n)))=ints (iV a m (n+min n (m-n))):=by
 unfold iV ints setAt;simp only[V8,Yo,List.length_append,WD,Vv];apply List.ext_getElem
 ·simp;omega
 ·intro i h1 h2;simp[List.getElem_append,XM];split
  ·rfl
  ·rw[Vg V]
def Uj (a:Int)(m:Nat)(hm:1<=m/\m<2 ^ 30)(H:ZK)(K:ZQ->ZK->Prop)(hK:K (.ret (.U H.A 0 0 m 1)) (ext H [.J 0 3 (ints (List.replicate m a))])):
  ae prog G0 112 [af [a],aa m] H K:=by
 have v:=VK (m:Int) V;have z2:IntKind.u64.wrap 1=1:=rfl;have v2:=Vd (m:Int) V;have h0:¬(m:Int)<0:=V
 have h9:¬(9223372036854775807:Int)<(m:Int):=V
 refine ae.sw (n:=48) (rs:=[.tmp 4]) func112 ?_;refine W.sq ?_;simp only[go_sem];refine W.sq ?_;simp only[go_sem,h0];refine W.sq ?_;simp only[go_sem,v,z2];refine ak.X (Uh m V _ _ ⟨trivial,?_⟩);simp only[go_sem];refine W.sq ?_;simp only[go_sem,h9];have hm0:(0:Int)<=m:=V
 refine W.sq ?_;simp only[go_sem,v2,hm0];refine⟨V,?_⟩;obtain⟨H1,hH1⟩:∃H1,H1=ext H [.J 0 3 (List.replicate m (.lit (.int .i64 0)))]:=⟨_,rfl⟩
 have e0:List.replicate m (ZL.lit (.int .i64 0))=ints (iV a m 0):=by simp[iV,ints,aa]
 have g1:H1.get H.A=some (.J 0 3 (ints (iV a m 0))):=by rw[hH1,<- e0];exact ef
 have n1:H1.A=H.A+1:=hH1▸rfl
 have ex1:∀(b:ZR) (i:Nat),i≠H.A->(ext H [b]).get i=H.get i:=fun b i h=>by
  unfold ext;simp only[Wh];rw[Vg V]
 have o1:∀i,i≠H.A->H1.get i=H.get i:=fun i h=>by rw[hH1];exact ex1 _ i h
 rw[<- hH1];clear hH1;have l1:=ag g1;have ll1:(ints (iV a m 0)).length=m:=by rw[bD,Gp V]
 have ec:List.take 1 (ints [a])++List.drop (List.take 1 (ints [a])).length (ints (iV a m 0))=ints (iV a m 1):=by
  obtain⟨q,hq⟩:∃q,m=q+1:=⟨m-1,V⟩
  rw[hq];simp[iV,ints,W0]
 have em:min 1 m=1:=XJ hm.1;refine W.sq ?_;simp only[go_sem,l1,ll1,em];refine⟨rfl,?_⟩;refine W.en (fun E=>E 7=.U H.A 0 0 m 1 /\ E 8=aa 1) (by simp only[go_sem]) fun E ⟨e7,e8⟩=>?_
 refine W.seq (W.block ?_);refine W.aS 140720308486400 (by rfl) (fun ρ Hx=>∃n:Nat,ρ 8=aa n/\1<=n/\n<=m/\Hx.A=H.A+1/\(∀i,i≠H.A->Hx.get i=H.get i)/\Hx.get H.A=some (.J 0 3 (ints (iV a m n)))) (fun ρ Hx=>m-(iv (ρ 8)).toNat) ?_ ?_
 ·simp only[go_sem,e8,ec];exact⟨1,rfl,ZJ,hm.1,by rw[aQ];exact n1,fun i h=>by rw[ah,Vg h];exact o1 i h,by rw[ah,Vh rfl]⟩
 rintro ρ Hx ⟨n,h8,hn1,hn,nx,xo,xg⟩;refine W.en (fun E1=>E1 7=.U H.A 0 0 m 1 /\ E1 8=aa n) (by simp only[go_sem,e7,h8]) fun E1 ⟨f7,f8⟩=>?_
 have lx:=ag xg;have llx:(ints (iV a m n)).length=m:=by rw[bD,Gp hn]
 by_cases hb:(n:Int)<m;rotate_left
 ·refine W.vs ?_;simp only[go_sem,f7,f8,lx,hb];have hnm:n=m:=V
  refine W.vs ?_;simp only[go_sem,f7];have hx:Hx=ext H [.J 0 3 (ints (List.replicate m a))]:=by
   have hg:∀i,Hx.get i=(ext H [.J 0 3 (ints (List.replicate m a))]).get i:=fun i=>by
    by_cases h:i=H.A
    ·rw[h,xg,hnm,ef];simp[iV]
    ·rw[xo i h,ex1 _ i h]
   cases Hx;simp only at nx hg;unfold ext;congr 1
   ·funext i
    exact hg i
  rw[hx];exact aj.mk (by rw[aW];exact Nat.le_add_right ..) hK
 have em2:n+min n (m-n)<=m:=V
 have w1:=Vd ((n:Int)+(min n (m-n):Nat)) V;have ecp:=Ui (a:=a) hn;refine W.sq ?_;simp only[go_sem,f7,f8,lx,hb];refine W.block ?_;refine W.dr 8 [0,0,0,6,0,0,48,126] mixed ?_;simp only[go_sem,f7,f8,lx,llx,w1,ecp];refine⟨V,V,⟨V,by rw[VG];intro x hx;exact VG.1 (kW _) x (VE hx)⟩,by rw[aQ,aQ];omega,⟨n+min n (m-n),ZG,V,em2,by rw[aQ];exact nx,fun i h=>by rw[ah,Vg h];exact xo i h,by rw[ah,Vh rfl]⟩,by rw[h8];simp only[aa,bf];omega⟩
end Go.Proofs
namespace Go.Hx
variable {P:Program} {G:Nat->Option (List ZL)} {all:Array Oper} {tail:St->Prop} {b i:Nat} {bs:List Nat} {acc:List (Nat × FP)} {K:FP->St->Prop} {s:St} {d:Option Tmp} {ty:TypeId} {pos:String} {aft:Array Edge} {g:Option (Nat × Bool)}
variable {H:ZK}
def CC (bs:List Nat):Ev.dW P G all tail bs i acc [] s=tail s:=by cases bs<;>rfl
def CD (op:Op)(rest:List Oper):Ev.dW P G all tail (b :: bs) i acc (⟨d,op,ty,pos,aft,none⟩ :: rest) s =
  Ev.bE P G ⟨d,op,ty,pos,aft,none⟩ (fun f s'=>jt b f acc/\Ev.dW P G all tail bs (i+1) (fK i f acc) rest s') s:=by
 simp[Ev.dW,gU,bj]
def CE (fv:Operand)(args:Array Operand)(ats:Array TypeId):Ev.bE P G ⟨d,.call ⟨.value fv,args,ats⟩,ty,pos,aft,g⟩ K s =
  ∃v e k f,Ev.nY P G (ar G s.ρ fv) (args.toList.map (ar G s.ρ)) s.H v e k f/\K f ⟨aH s.ρ d v,⟨Ev.cV e s.H.get,s.H.A+k⟩⟩:=rfl
def M6 (x:Operand):Ev.bE P G ⟨d,.move x,ty,pos,aft,g⟩ K s=bE P G ⟨d,.move x,ty,pos,aft,g⟩ K s:=rfl
def CF (t:TypeId)(x:Operand):Ev.bE P G ⟨d,.load t x,ty,pos,aft,g⟩ K s=bE P G ⟨d,.load t x,ty,pos,aft,g⟩ K s:=rfl
def M7 (x:Operand):Ev.bE P G ⟨d,.nilCheck x,ty,pos,aft,g⟩ K s=bE P G ⟨d,.nilCheck x,ty,pos,aft,g⟩ K s:=rfl
def CG (t:TypeId)(x:Operand)(f:Nat):Ev.bE P G ⟨d,.fieldAddr t x f,ty,pos,aft,g⟩ K s=bE P G ⟨d,.fieldAddr t x f,ty,pos,aft,g⟩ K s:=rfl
def M8 (t:TypeId)(x y:Operand):Ev.bE P G ⟨d,.makeSlice t x y,ty,pos,aft,g⟩ K s=bE P G ⟨d,.makeSlice t x y,ty,pos,aft,g⟩ K s:=rfl
def M9 (t:TypeId)(l:Nat)(p:Array (Nat × Operand)):Ev.bE P G ⟨d,.buildSlice t l p,ty,pos,aft,g⟩ K s=bE P G ⟨d,.buildSlice t l p,ty,pos,aft,g⟩ K s:=rfl
def CH (t:TypeId)(p:Array (Nat × Operand)):Ev.bE P G ⟨d,.build t p,ty,pos,aft,g⟩ K s=bE P G ⟨d,.build t p,ty,pos,aft,g⟩ K s:=rfl
def Na (t:TypeId)(x:Operand):Ev.bE P G ⟨d,.box t x,ty,pos,aft,g⟩ K s=bE P G ⟨d,.box t x,ty,pos,aft,g⟩ K s:=rfl
def Nb (op:BinOp)(t:TypeId)(x y:Operand)(u:TypeId):Ev.bE P G ⟨d,.binOp op t x y u,ty,pos,aft,g⟩ K s=bE P G ⟨d,.binOp op t x y u,ty,pos,aft,g⟩ K s:=rfl
def CI (f:Builtin)(args:Array Operand)(ats:Array TypeId):Ev.bE P G ⟨d,.call ⟨.builtin f,args,ats⟩,ty,pos,aft,g⟩ K s=bE P G ⟨d,.call ⟨.builtin f,args,ats⟩,ty,pos,aft,g⟩ K s:=rfl
def CJ (a:Nat):Ev.oa a (a+1)=[a]:=by
 unfold Ev.oa;rw[XX];simp[VX]
def CK {bk:ZR}:(⟨Ev.cV (Ev.fT H.A (H.A+1) (fun _=>true) (ext ⟨fun _=>none,H.A⟩ [bk]).get) H.get,H.A+1⟩:ZK)=ext H [bk]:=by
 unfold ext;simp only[Wh];congr 1
 funext j
 unfold Ev.cV Ev.fT;by_cases h:H.A<=j/\j<H.A+1
 ·have:j=H.A:=V
  subst this;simp
 ·simp[h]
def aI.Nc {lo k g':Nat}{e e':TypeId}{v:ZL}{cs c:List ZL}(h:aI lo H e v cs)(hk:H.get k=some (.J g' e' c))(hne:e'≠e):∀g n,v≠.U k g 0 n 1:=fun g n hv=>by
 rcases h with ⟨h1,_⟩|⟨i,g2,_,_,h3,h4⟩
 ·rw[h1]at hv;cases hv
 ·rw[h3]at hv;obtain rfl:=(ZL.U.inj hv).1;rw[h4]at hk;cases hk;exact hne rfl
def Nd (t:TypeId):Ev.bE P G ⟨d,.alloc t,ty,pos,aft,g⟩ K s=bE P G ⟨d,.alloc t,ty,pos,aft,g⟩ K s:=rfl
end Go.Hx
namespace Go.Proofs
open Go.Hx Tryz
variable {a tot:Int}{c g k m:Nat}{ch:Nat->List Int}{d:ZN}{D:ZU}
def Uk {H:ZK}{ib:Nat}(hm:1<=m/\m<2 ^ 30)(hi:ib<H.A)(hg:H.get ib=some (.J 0 3 [aa a])):
  Ev.nY prog G0 (.X 112 [] []) [.U ib 0 0 1 1,aa m] H (.U H.A 0 0 m 1) (Ev.fT H.A (H.A+1) (fun _=>true) (ext ⟨fun _=>none,H.A⟩ [.J 0 3 (ints (List.replicate m a))]).get) 1 ⟨Ev.oa H.A (H.A+1),[ib]⟩:=by
 have e:H.A+1-H.A=1:=V
 have hnx:(ext (⟨fun _=>none,H.A⟩:ZK) [.J 0 3 (ints (List.replicate m a))]).A=H.A+1:=rfl;have:=Ev.nY.mk (P:=prog) (G:=G0) (H:=H) (f:=112) (first:=[]) (cap:=[]) (args:=[.U ib 0 0 1 1,aa m]) (args':=[af [a],aa m]) (v:=.U H.A 0 0 m 1) ⟨fun _=>none,H.A⟩ (ext ⟨fun _=>none,H.A⟩ [.J 0 3 (ints (List.replicate m a))]) (fun _=>False) (fun _=>true) [ib] aF
  (fun r hr=>by rw[List.mem_singleton.1 hr];exact hi) rfl (by rw[hnx];exact Xw _) (fun _ h=>h.elim) (fun _ _=>rfl) rfl
  (fun H2 hag i h h'=>match i,h with
   |0,_=>Fz.ints (fun h=>h) ((hag ib ZG).trans hg) rfl (fun j hj=>by
     have:j=0:=(by simp at hj;omega);subst this;rfl)
   |1,_=>.lit _)
  (Uj a m hm ⟨fun _=>none,H.A⟩ _ ⟨rfl,rfl⟩) ?_ ?_
 ·rw[hnx,e]at this;exact this
 ·exact .U (.inr ⟨ZJ,by rw[hnx];exact Wi _,rfl⟩)
 ·intro id h1 h2 _;have:id=H.A:=by rw[hnx]at h2;omega
  subst this;exact⟨0,_,_,ef (H:=⟨fun _=>none,H.A⟩),fun i hi=>by simp only[ints,Vw];exact .lit _⟩
def cr (l:List Int):Nat:=(l.map Int.natAbs).sum
def tX (a b:List Int):cr (a++b)=cr a+cr b:=by simp[cr]
def qg (x:Int)(l:List Int):cr (x :: l)=x.natAbs+cr l:=by simp[cr]
def Ay (n:Nat):cr (List.replicate n 0)=0:=by simp[cr]
def FK (l:List Int)(i:Nat)(a:Int):cr (l.set i a)<=cr l+(a-l.getD i 0).natAbs:=by
 induction l generalizing i with
 |nil=>simp[cr]
 |cons x l ih =>
  cases i with
  |zero=>simp only[List.set_cons_zero,qg,Zz];omega
  |succ i =>
   have:=ih i;simp only[List.set_cons_succ,qg,ZA];omega
def wQ (l:List Int)(i:Nat):(l.getD i 0).natAbs<=cr l:=by
 induction l generalizing i with
 |nil=>simp[cr]
 |cons x l ih =>
  cases i with
  |zero=>simp only[qg,Zz];omega
  |succ i=>have:=ih i;simp only[qg,ZA];omega
def SI {l:List Int}(h:a∈l):a.natAbs<=cr l:=by
 obtain⟨i,hi⟩:=Vl.1 h;have:=wQ l i;rw[Vj,hi]at this;exact this
def SJ (l:List Int):(iF l).natAbs<=cr l:=by
 by_cases h:l=[]
 ·subst h;simp[iF]
 ·exact SI (zZ h)
def SK (l:List Int)(n:Nat):cr (l.take n)+cr (l.drop n)=cr l:=by rw[<- tX,V2]
def SL (cs cd:Nat)(ex:List Int):kG (cs+1) cd ex=kG cs cd ex++[iF (ji cd cs ex)]:=by unfold kG;rw[VX,V8];rfl
def Az (cs cd:Nat)(ex:List Int):cr (kG cs cd ex)<=cr (ex.take (cs*cd)):=by
 induction cs with
 |zero=>simp[kG,cr]
 |succ cs ih =>
  rw[SL,tX,qg];have h1:=SJ (ji cd cs ex);have h2:ex.take ((cs+1)*cd)=ex.take (cs*cd)++ji cd cs ex:=by
   unfold ji;rw[VT,Xv,List.take_add]
  have h3:cr []=0:=rfl;rw[h2,tX,h3];omega
def rY (l:List Int)(n:Nat):cr (l.take n)<=cr l:=by have:=SK l n;omega
def FL (ab be ex:List Int)(n:Nat):cr (dS ab be n ex)<=cr ex+cr (be.take n):=by
 induction n with
 |zero=>simp[dS]
 |succ n ih =>
  rw[wM];have h1:=FK (dS ab be n ex) (ab.getD n 0).toNat ((dS ab be n ex).getD (ab.getD n 0).toNat 0+be.getD n 0);have h2:cr (be.take n)+(be.getD n 0).natAbs<=cr (be.take (n+1)):=by
   by_cases h:n<be.length
   ·obtain⟨x,hx⟩:=ay h;rw[bd hx,tX,qg,Vj,hx];show cr (be.take n)+x.natAbs<=_;omega
   ·rw[Vi V,Vi V,Vj,Vo V];simp
  omega
def FM (hg:∀w,w<D.N->(D.nr w).natAbs<=g)(k:Nat):∀n,n<=D.N->cr (bC D k n)<=g*n:=by
 intro n
 induction n with
 |zero=>intro _;unfold bC;rw[Ay];exact WK _
 |succ n ih =>
  intro hn;have h1:=ih V;have h2:=hg n V;rw[Xi,Nat.mul_one];unfold bC;split
  ·have:=FK (bC D k n) (D.br k n) ((bC D k n).getD (D.br k n) 0+D.nr n);omega
  ·omega
def FN (hg:∀w,w<D.N->(D.nr w).natAbs<=g):∀(m k:Nat),k+1+m=D.K->cr (EF D k)<=g*D.N:=by
 intro m
 induction m with
 |zero =>
  intro k hk;rw[Au V];exact FM hg k _ (Nat.le_refl _)
 |succ m ih =>
  intro k hk;rw[Av V];have h1:=ih (k+1) V;have h2:=FL (dp D (k+1) D.N) (BF D (k+1)) (bC D k D.N) (D.cs (k+1));have h3:=rY (BF D (k+1)) (D.cs (k+1));have h4:cr (BF D (k+1))<=cr (EF D (k+1)):=VM (Az _ _ _) (rY _ _);rw[tV V,Ay]at h2;rw[tV V];omega
def SM (hg:∀w,w<D.N->(D.nr w).natAbs<=g)(hk:k<D.K)(hk0:0<k)(n:Nat):cr (dS (dp D k D.N) (BF D k) n (bC D (k-1) D.N))<=g*D.N:=by
 have h1:=FN hg (D.K-1-k) k V;have h2:=FL (dp D k D.N) (BF D k) (bC D (k-1) D.N) n;have h3:=rY (BF D k) n;have h4:cr (BF D k)<=cr (EF D k):=VM (Az _ _ _) (rY _ _);rw[tV V,Ay]at h2;rw[tV V];omega
def SN (l:List Int):∀n,(SS n fun c=>l.getD c 0).natAbs<=cr (l.take n):=by
 intro n
 induction n with
 |zero=>rw[pU];simp
 |succ n ih =>
  rw[ig];by_cases h:n<l.length
  ·obtain⟨x,hx⟩:=ay h;rw[bd hx,tX,qg,Vj,hx];show _<=cr (l.take n)+(x.natAbs+cr [])
   simp only[Option.getD_some];omega
  ·rw[Vi V]at ih;rw[Vi V,Vj,Vo V];simp only[Option.getD_none,XL];exact ih
def SO (hg:∀w,w<D.N->(D.nr w).natAbs<=g):∀n,n<=D.N->(SS n D.nr).natAbs<=g*n:=by
 intro n
 induction n with
 |zero=>intro _;rw[pU];simp
 |succ n ih =>
  intro hn;have:=ih V;have:=hg n V;rw[ig,Xi,Nat.mul_one];omega
def SP (hok:ZS d)(h6:d.C.length<=6)(r:List Nat):(∀w,w<(aA d r).N->((aA d r).nr w).natAbs<=18662400000000)/\18662400000000*(aA d r).N<=20000000000000000:=by
 have h1:=(EN hok.nB).1;rw[FQ]at h1;refine⟨fun w _=>?_,by show 18662400000000*cH d.C<=_;omega⟩;have:=Gy hok h6 (iE hok w);show (dk d (wv d w)).natAbs<=_;omega
def eN (D:ZU)(ch:Nat->List Int)(j:Nat):ZW:=⟨fun k=>dp D k D.N,fun k=>ep D k D.N,fun k=>if j<=k+1 then EF D k else bC D k D.N,fun k=>if j<=k then BF D k else List.replicate (D.cs k) 0,ch⟩
def qo (D:ZU):Nat->List Int:=fun k=>List.replicate (D.cs k) 0
def iT (D:ZU):Nat->List Int:=fun k=>List.replicate (D.cs k) (-1)
def dJ (D:ZU)(j:Nat):Int:=if D.K=0\/j=0 then rV D else 0
def Gb (hc:∀k,k<D.K->(ch k).length=D.cs k)(j:Nat):(eN D ch j).Len D D.K:=by
 refine⟨fun k _=>rU D k _,fun k _=>qf D k _,fun k _=>?_,fun k _=>?_,hc⟩
 ·unfold eN;simp only;split
  ·exact At D k
  ·exact mr D k _
 ·unfold eN;simp only;split
  ·exact FD ..
  ·simp
def TD (D:ZU)(ch:Nat->List Int):xu D.K (iU D (qo D) ch D.N) (eN D ch D.K):=fun k j hk=>by
 have e1:(if D.K<=k then BF D k else List.replicate (D.cs k) 0)=List.replicate (D.cs k) 0:=Vg V;have e2:(if D.K<=k+1 then EF D k else bC D k D.N)=bC D k D.N:=by
  split
  ·exact Au (V)
  ·rfl
 unfold dL iU eN qo;simp only[e1,e2]
def AO (hk:k<D.K):cu D (eN D ch (k+1)) k=BF D k:=by
 unfold cu BF;have:(eN D ch (k+1)).ex k=EF D k:=Vh ZJ;rw[this]
def TE (hk:k<D.K):xu D.K (ui D (eN D ch (k+1)) k) (eN D ch k):=fun k' j hk'=>by
 have hA:=AO (ch:=ch) hk;have e1:fE (eN D ch (k+1)).be k (cu D (eN D ch (k+1)) k) k'=if k<=k' then BF D k' else List.replicate (D.cs k') 0:=by
  by_cases e:k'=k
  ·rw[e,lK,hA,Vh ZJ]
  ·rw[lL e];show (if k+1<=k' then BF D k' else List.replicate (D.cs k') 0)=_;by_cases h:k<=k'
   ·rw[Vh h,Vh V]
   ·rw[Vg h,Vg V]
 have e2:(if 0<k then fE (eN D ch (k+1)).ex (k-1) (dS ((eN D ch (k+1)).ab k) (cu D (eN D ch (k+1)) k) (D.cs k) ((eN D ch (k+1)).ex (k-1))) else (eN D ch (k+1)).ex) k'=if k<=k'+1 then EF D k' else bC D k' D.N:=by
  by_cases h0:0<k
  ·rw[Vh h0,hA];by_cases e:k'=k-1
   ·rw[e,lK,Vh V];have h1:(eN D ch (k+1)).ex (k-1)=bC D (k-1) D.N:=Vg V;have h2:=Av (D:=D) (k:=k-1) V;rw[Nat.sub_add_cancel h0]at h2;rw[h1,h2];rfl
   ·rw[lL e];show (if k+1<=k'+1 then EF D k' else bC D k' D.N)=_;by_cases h:k<=k'+1
    ·rw[Vh h,Vh V]
    ·rw[Vg h,Vg V]
  ·rw[Vg h0];show (if k+1<=k'+1 then EF D k' else bC D k' D.N)=_;rw[Vh V,Vh V]
 unfold dL ui eN at *
 simp only at e1 e2;simp only[e1,e2]
def TF (hk:k<D.K):gS D (eN D ch (k+1)) k (D.cs k) (dJ D (k+1))=dJ D k:=by
 have hA:=AO (ch:=ch) hk;have h0:dJ D (k+1)=0:=by unfold dJ;rw[Vg V]
 unfold gS;rw[h0,hA];by_cases h:0<k
 ·rw[Vh h];unfold dJ;rw[Vg V]
 ·have:k=0:=V
  subst this;rw[Vg h];unfold dJ rV;rw[Vh V,Vg V];simp
def xj :∀(f need:Nat) (out r:List Nat),gJ d f need out=some r->r.length<=out.length+f:=by
 intro f
 induction f with
 |zero =>
  intro need out r h;unfold gJ at h;split at h
  ·cases h;omega
  ·cases h
 |succ f ih =>
  intro need out r h;unfold gJ at h;split at h
  ·cases h;omega
  ·split at h
   ·cases h
   ·have:=ih _ _ r h;rw[List.length_append,Wh]at this;omega
def TG (hok:ZS d){r:List Nat}(hr:Z0 d r):∀k,k<r.length->1<=(aA d r).cs k/\(aA d r).cs k<=1024/\1<=(aA d r).cd k/\(aA d r).cd k<=4/\(aA d r).cs k*(aA d r).cd k<=4096:=fun k hk=>by
 obtain⟨v,hv⟩:=ay hk;have hvd:r.getD k 0=v:=gD hv;have hm:=hr.mem v (an hv);obtain⟨x,hx⟩:=ay (bN.1 hm).1;obtain⟨hrn,hxp,_,_⟩:=xC hok hx;have hxc:=hok.n.L x (an hx);obtain⟨e1',e2'⟩:=iQ hx V;have ecs:(aA d r).cs k=bZ d.C x:=by show dB d (r.getD k 0)=_;rw[hvd];exact e1'
 have ecd:((aA d r).cd k:Int)=x.L:=by show (eM d (r.getD k 0):Int)=_;rw[hvd];exact e2'
 have hsz0:=hok.nB.size;rw[jX]at hsz0;have:=z9 hxp hok.n.L;have h1:=Aw hok hr k hk;have a1:(aA d r).cs k<=1024:=V
 have a2:(aA d r).cd k<=4:=V
 exact⟨h1,a1,V,a2,XA a1 a2⟩
def DB (d:ZN)(r:List Nat)(u:Nat):ZR:=.J 0 157 (hZ d r u)
def vK (d:ZN)(hf:Z9 d)(dec:Int)(H:ZK)(K:ZQ->ZK->Prop)
  (hE:dA d=4->K (.ret (.nc [.lit (.pointer none),aa 210])) H)
  (hE2:dA d≠4->dA d≠0->K (.ret (.nc [.lit (.pointer none),aa (dA d)])) H)
  (hN:dA d=0->dec ∉ aE (gK d)->K (.ret (.nc [.lit (.pointer none),aa 2])) H)
  (hK:∀(r:List Nat) (u:Nat) (H':ZK),dA d=0->gK d=r->dec=u->u∈r->H'=ext H [lH d,DB d r u]->K (.ret (.nc [.O (H.A+1) 0 0,aa 0])) H'):
  ae prog G0 40 [da d,aa dec] H K:=by
 refine ae.X ⟨_,func40,rfl,rfl⟩ fun hcl=>?_;refine ae.sw (n:=27) (rs:=[.tmp 4,.tmp 5]) func40 ?_;refine W.sq ?_;simp only[go_sem,gR,cR];obtain⟨H1,hH1⟩:∃H1,H1=ext H [.J 0 38 [.lit (.int .i64 d.Z),.Q d.C.length (aG d.C),.lit (.int .u64 (d.nl:Int)),.Q d.Y.length (bA d.Y)]]:=⟨_,rfl⟩
 have g1:=dh hH1
 have o1:ZP H H1:=hH1▸.ext _ _
 rw[<- hH1];have l1:=ag g1;refine W.sq ?_;simp only[go_sem,l1];refine ak.X (vm d hf H1 _ ⟨trivial,?_⟩);simp only[go_sem];by_cases h4:dA d=4
 ·refine W.sq ?_;simp only[go_sem,h4];exact aj.bB aF hcl o1 (.nc rfl fun i hi _=>match i,hi with|0,_=>.lit _|1,_=>.lit _) (hE h4)
 refine W.sq ?_;simp only[go_sem,h4];by_cases h0:dA d=0;rotate_left
 ·refine W.sq ?_;simp only[go_sem,h0];exact aj.bB aF hcl o1 (.nc rfl fun i hi _=>match i,hi with|0,_=>.lit _|1,_=>.lit _) (hE2 h4 h0)
 refine W.sq ?_;simp only[go_sem,h0];have hrl:((aE (gK d)).length:Int)<2 ^ 62:=by
  have h1:=hf.C.1;have h2:(aJ d).length<=d.C.length:=rF;unfold gK;rw[Vh h0];cases hr:iL d with
  |none=>simp[aE]
  |some r =>
   have h3:=xj _ _ _ _ hr;simp[aE]at h3 ⊢;omega
 refine W.sq ?_;simp only[go_sem];refine ak.X (Dx (aE (gK d)) dec hrl H1 _ ⟨trivial,?_⟩);by_cases hm:dec∈aE (gK d);rotate_left
 ·rw[V7 hm];simp only[go_sem];exact aj.bB aF hcl o1 (.nc rfl fun i hi _=>match i,hi with|0,_=>.lit _|1,_=>.lit _) (hN h0 hm)
 rw[VD hm];simp only[go_sem];obtain⟨u,hu,rfl⟩:∃u:Nat,u∈gK d/\(u:Int)=dec:=by
  unfold aE at hm;obtain⟨u,h1,h2⟩:=Vu.1 hm;exact⟨u,h1,h2⟩
 refine W.vs ?_;simp only[go_sem,l1];refine aj.mk (by rw[hH1,aW,aW];simp;omega) ?_;have:=hK (gK d) u (ext H [lH d,DB d (gK d) u]) h0 rfl rfl hu rfl;rw[hH1,ee];exact this
structure BldH (d:ZN)(r:List Nat)(lo s n:Nat)(lvh:ZL)(I:Nat->Nat->Nat)(H:ZK):Prop where
 top:H.get s=some (.J 0 184 [.lit (.int .i64 d.Z),.Q d.C.length (aG d.C),.lit (.int .u64 (d.nl:Int)),.Q d.Y.length (bA d.Y),lvh,af (eC d),af (dM d),.lit (.int .i64 0)])
 nH:s<H.A
 lv:aI lo H 187 lvh (lJ I n)
 sep:∀k j,k<n->j<6->s≠I k j
 nK:∀id g m,lvh=.U id g 0 m 1->id≠s/\∀k j,k<n->j<6->id≠I k j
 nj:nnm (aA d r) r lo n I (iU (aA d r) (qo (aA d r)) (iT (aA d r)) 0) H
 nv:n=0->lvh=.lit (.slice none 0 0)
def TH (d:ZN)(hf:Z9 d)(h6:d.C.length<=6)(H:ZK)(K:ZQ->ZK->Prop)
  (hE:∀H',ZP H H'->dA d=4->K (.ret (.nc [.lit (.pointer none),.lit (.int .i64 210)])) H')
  (hE2:∀H',ZP H H'->dA d≠4->dA d≠0->K (.ret (.nc [.lit (.pointer none),aa (dA d)])) H')
  (hK:∀(r:List Nat) (s:Nat) (lvh:ZL) (I:Nat->Nat->Nat) (H':ZK),iL d=some r->ZS d->ZP H H'->ZX d r H.A s lvh I (eN (aA d r) (iT (aA d r)) 0) (dJ (aA d r) 0) H'->(r=[]->lvh=.lit (.slice none 0 0))->K (.ret (.nc [.O s 0 0,.lit (.int .i64 0)])) H'):
  ae prog G0 67 [da d] H K:=by
 refine ae.sw (n:=96) (rs:=[.tmp 2,.tmp 3]) func67 ?_;refine W.sq ?_;simp only[go_sem,gR,cR];obtain⟨H1,hH1⟩:∃H1,H1=ext H [.J 0 38 [.lit (.int .i64 d.Z),.Q d.C.length (aG d.C),.lit (.int .u64 (d.nl:Int)),.Q d.Y.length (bA d.Y)]]:=⟨_,rfl⟩
 have g1:=dh hH1
 have n1:H1.A=H.A+1:=hH1▸rfl
 have o1:ZP H H1:=hH1▸.ext _ _
 rw[<- hH1];clear hH1;have l1:=ag g1;refine W.sq ?_;simp only[go_sem,l1];refine ak.X (vm d hf _ _ ⟨trivial,?_⟩);simp only[go_sem];refine W.en (fun E=>E 1=.O H.A 0 0 /\ E 4=af (aE (gK d)) /\ E 5=aa (dA d)) (by simp only[go_sem]) fun E ⟨e1,e4,e5⟩=>?_
 by_cases h4:dA d=4
 ·refine W.sq ?_;simp only[go_sem,e5,h4];exact aj.mk o1.A (hE H1 o1 h4)
 refine W.sq ?_;simp only[go_sem,e5,h4];by_cases h0:dA d=0;rotate_left
 ·refine W.sq ?_;simp only[go_sem,e5,h0];exact aj.mk o1.A (hE2 H1 o1 h4 h0)
 have hok:ZS d:=by
  unfold dA at h0;by_cases h:ZS d
  ·exact h
  ·rw[oS h]at h0;simp at h0
 obtain⟨r,hr⟩:∃r,iL d=some r:=by
  unfold dA at h0;rw[mv hok]at h0;simp only[if_true]at h0;split at h0
  ·rename_i hs;exact VQ.1 hs
  ·cases h0
 have hrv:gK d=r:=by unfold gK;rw[Vh h0,hr];rfl
 rw[hrv]at e4;have hrl8:r.length<=8:=by
  have h1:=xj _ _ _ _ hr;have h2:(aJ d).length<=d.C.length:=rF;have h3:=hok.n.n1;simp at h1;omega
 have hrl:r.length<=64:=V
 have hro:=tU hr;refine W.sq ?_;simp only[go_sem,e5,h0];refine W.sq ?_;simp only[go_sem,e1,l1];obtain⟨H2,hH2⟩:∃H2,H2=ext H1 [.J 0 184 [.lit (.int .i64 d.Z),.Q d.C.length (aG d.C),.lit (.int .u64 (d.nl:Int)),.Q d.Y.length (bA d.Y),.lit (.slice none 0 0),.lit (.slice none 0 0),.lit (.slice none 0 0),.lit (.int .i64 0)],.J 0 134 [.O H1.A 0 0]]:=⟨_,rfl⟩
 have g2:=dh hH2
 have g3:=gE hH2 1 rfl
 have n2:H2.A=H1.A+2:=hH2▸rfl
 have o2:ZP H1 H2:=hH2▸.ext _ _
 rw[<- hH2];clear hH2;have l1':=ag ((o2.nf _ V).trans g1);have l2:=ag g2;have l3:=ag g3;refine W.en (fun E2=>E2 1=.O H.A 0 0 /\ E2 4=af (aE r) /\ E2 6=.O (H1.A+1) 0 0) (by simp only[go_sem,e1,e4]) fun E2 ⟨f1,f4,f6⟩=>?_
 clear e1 e4 e5 l1;refine W.tt (fun s'=>s'.ρ 4=af (aE r)/\s'.ρ 6=.O (H1.A+1) 0 0/\s'.H.A=H2.A/\(∀i,i≠H1.A->s'.H.get i=H2.get i)/\s'.H.get H1.A=some (.J 0 184 [.lit (.int .i64 d.Z),.Q d.C.length (aG d.C),.lit (.int .u64 (d.nl:Int)),.Q d.Y.length (bA d.Y),.lit (.slice none 0 0),af (eC d),af (dM d),.lit (.int .i64 0)])) ?_ ?_
 ·refine W.dr 10 [0,0,0,4,12,28,28,61,189,445] mixed ?_;simp only[go_sem,f1,f6,l1',l3];refine⟨.nc [af (eC d),af (dM d)],[],aY.pure fun H9=>Uy d hok hf.nl H9 _ ⟨rfl,rfl⟩,?_⟩;simp only[go_sem,f1,f4,f6,l2];refine⟨fun x hx=>V,by rw[aQ,aQ],fun i h=>?_,?_⟩
  ·rw[ah,Vg h,ah,Vg h]
  ·rw[ah,Vh rfl]
 rintro⟨ρ3,H3⟩ ⟨k4,k6,n3,o3,g4⟩;simp only at k4 k6 n3 o3 g4;clear f1 f4 f6 l1' l2 l3;have g5:H3.get (H1.A+1)=_:=(o3 _ V).trans g3;have hnl:(aE r).length=r.length:=by simp[aE]
 refine W.sq ?_;simp only[go_sem,k4,hnl];refine W.en (fun E3=>E3 6=.O (H1.A+1) 0 0 /\ E3 36=.Q r.length (ints (aE r)) /\ E3 37=aa r.length /\ E3 38=aa 0) (by simp only[go_sem,k6]) fun E3 ⟨m6,m36,m37,m38⟩=>?_
 clear k4 k6;refine W.aS 38685626227667858712692480 (by rfl) (fun ρ Hx=>∃(n:Nat) (lvh:ZL) (I:Nat->Nat->Nat),ρ 38=aa n/\n<=r.length/\H3.A<=Hx.A/\(∀i,i<H3.A->i≠H1.A->Hx.get i=H3.get i)/\BldH d r H3.A H1.A n lvh I Hx) (fun ρ Hx=>r.length-(iv (ρ 38)).toNat) ?_ ?_
 ·simp only[go_sem,m38];refine⟨0,.lit (.slice none 0 0),fun _ _=>0,rfl,WK _,⟨g4,V,.nil,fun k j h=>absurd h (Vt _),fun id g m h=>(by cases h),?_,fun _=>rfl⟩⟩;exact⟨fun k j k' j' h=>absurd h (Vt _),fun k j h=>absurd h (Vt _),fun k h=>absurd h (Vt _),fun k j h=>absurd h (Vt _),⟨fun k h=>absurd h (Vt _),fun k h=>absurd h (Vt _),fun k h=>absurd h (Vt _),fun k h=>absurd h (Vt _),fun k h=>absurd h (Vt _)⟩⟩
 rintro ρ Hx ⟨n,lvh,I,h38,hn,nx,hout,hB⟩;refine W.en (fun E4=>E4 6=.O (H1.A+1) 0 0 /\ E4 36=.Q r.length (ints (aE r)) /\ E4 37=aa r.length /\ E4 38=aa n) (by simp only[go_sem,m6,m36,m37,h38]) fun E4 ⟨f6,f36,f37,f38⟩=>?_
 have gp:=(hout (H1.A+1) V V).trans g5;have lp:=ag gp;have ls:=ag hB.top;by_cases hb:(n:Int)<r.length;rotate_left
 ·refine W.vs ?_;simp only[go_sem,f37,f38,hb];have hnr:n=r.length:=V
  subst hnr;have hD0:=TG hok hro;obtain⟨hg1,hg2⟩:=SP hok h6 r;have ht0:fg d r 0=0:=by unfold fg;split<;>rfl
  have hS0:ZX d r H.A H1.A lvh I (iU (aA d r) (qo (aA d r)) (iT (aA d r)) 0) (fg d r 0) Hx:=by
   rw[ht0];exact⟨hB.top,⟨V,hB.nH⟩,hB.lv.ng V ZJ fun _ _ _ _ _ _=>rfl,hB.sep,hB.nK,⟨hB.nj.inj,fun k j h1 h2=>by have:=hB.nj.np k j h1 h2;omega,hB.nj.nJ,hB.nj.nF,hB.nj.len⟩⟩
  refine W.sq ?_;simp only[go_sem,f6,lp];refine ak.X (Uf hok hro hrl (fun k hk=>by have:=hD0 k hk;omega) (fun k hk=>by have:=hD0 k hk;omega) (fun k b hk n hn=>?_) (fun n hn=>?_) (fun w hw=>?_) Hx hS0 _ fun H4 n4 o4 hS4=>⟨trivial,?_⟩)
  ·have h1:=FM hg1 k n hn;have h2:=wQ (bC (aA d r) k n) b;have h3:18662400000000*n<=18662400000000*(aA d r).N:=Wl _ hn;omega
  ·have h1:=SO hg1 n hn;have h3:18662400000000*n<=18662400000000*(aA d r).N:=Wl _ hn;omega
  ·have:=Gy hok h6 (iE hok w);omega
  simp only[go_sem];have gp4:H4.get (H1.A+1)=some (.J 0 134 [.O H1.A 0 0]):=(o4 _ (by have:=nx;omega) V (fun k j h1 h2 e=>by have:=(hB.nj.np k j h1 h2).1;omega)).trans gp;have lp4:=ag gp4;refine W.sq ?_;simp only[go_sem,f6,lp4];refine ak.X (Ue H1.A H4 _ ⟨trivial,?_⟩);simp only[go_sem];obtain⟨H5,hH5⟩:∃H5,H5=ext H4 [.J 0 134 [.O H1.A 0 0]]:=⟨_,rfl⟩
  have n5:H5.A=H4.A+1:=hH5▸rfl
  have o5:ZP H4 H5:=hH5▸.ext _ _
  have gbx:=dh hH5
  rw[<- hH5];clear hH5;have hT5:ZX d r H.A H1.A lvh I (eN (aA d r) (iT (aA d r)) r.length) (dJ (aA d r) r.length) H5:=by
   have h1:=(hS4.same (TD (aA d r) (iT (aA d r))) (Gb (fun k _=>by simp[iT]) _)).oY hS4.bnd V fun i hi=>o5.nf i hi;have h2:fg d r (cH d.C)=dJ (aA d r) r.length:=by
    unfold fg dJ;by_cases h:r.length=0
    ·rw[Vh h,Vh (.inl h)];unfold rV;rw[Vh (show (aA d r).K=0 from h)];rfl
    ·rw[Vg h,Vg (by rintro(h1|h1)<;>exact h h1)]
   rw[<- h2];exact h1
  have hB5:=hT5.bnd;refine W.env fun E6 hE6=>?_;have w6:E6 6=.O (H1.A+1) 0 0:=by rw[hE6];simp only[go_sem,f6]
  have w90:E6 90=.X 149 [] [.O H4.A 0 0]:=by rw[hE6];rfl
  clear hE6;have hni:∀k j,k<r.length->j<6->I k j<H4.A:=fun k j h1 h2=>(hS4.nj.np k j h1 h2).2;have hns:H1.A<H4.A:=hS4.nH.2;have hpI:∀k j,k<r.length->j<6->H1.A+1≠I k j:=fun k j h1 h2 e=>by have:=(hB.nj.np k j h1 h2).1;omega
  refine W.sy (f:=149) (first:=[]) (cap:=[.O H4.A 0 0]) (by show E6 90=_;exact w90) (Ud d H1.A H4.A r.length hrl)
   (fun k Hy=>H5.A<Hy.A/\(∀i,i<H5.A->i≠H1.A->(∀k j,k<r.length->j<6->i≠I k j)->Hy.get i=H5.get i)/\ZX d r H.A H1.A lvh I (eN (aA d r) (iT (aA d r)) (r.length-k)) (dJ (aA d r) (r.length-k)) Hy)
   (fun _ _=>False)
   (fun k Hy h=>⟨(h.2.1 _ V V fun k j h1 h2 e=>by have:=hni k j h1 h2;omega).trans gbx,_,_,h.2.2.top,h.2.2.len⟩)
   (fun k Hy b h=>⟨h.1,fun i h1 h2 h3=>by rw[ah,Vg V];exact h.2.1 i h1 h2 h3,h.2.2.oY hB5 (by rw[aQ];exact Nat.le_refl _) fun i hi=>by rw[ah,Vg V]⟩)
   (fun _ _ _ h=>h)
   (fun b=>⟨by rw[aW];simp,fun i h1 _ _=>dz h1,hT5.oY hB5 (by rw[aW];omega) fun i hi=>dz hi⟩)
   ZH (fun x hx=>by rw[Ub x hx];rfl) (fun _ _ _=>trivial) (fun _ _ _=>trivial) (fun k y Hy B Bb hy hj hn hBq hBb=>?_) (fun Hy hj hn=>?_) (fun _ hs _=>hs.elim) (fun _ _ hs _=>hs.elim)
  ·obtain⟨hk,rfl⟩:=Ua hy;obtain⟨kk,hkk⟩:∃kk,kk=r.length-1-k:=⟨_,rfl⟩
   have e1:(r.length:Int)-1-(k:Int)=(kk:Int):=V;have e2:r.length-k=kk+1:=V;have e3:r.length-(k+1)=kk:=V;rw[e1];rw[e2]at hj;rw[e3];refine W.vs ?_;simp only[go_sem,jL,dq,mE,Wk,XB,WX,W5,hBq];obtain⟨H6,hH6⟩:∃H6,H6=Hy.upd H5.A Bb:=⟨_,rfl⟩
   rw[<- hH6];obtain⟨st,pd,n',en,ps',as',bo,hBe⟩:=hBb;have n6:H6.A=Hy.A:=(by rw[hH6];rfl);have o6:∀id,id≠H5.A->H6.get id=Hy.get id:=fun id h=>by rw[hH6,ah,Vg h]
   have jB:H6.get H5.A=some Bb:=(by rw[hH6,ah,Vh rfl]);have hS6:=hj.2.2.oY hB5 (H':=H6) V fun i hi=>o6 i V;have lp6:=ag ((o6 (H1.A+1) V).trans ((hj.2.1 _ V V hpI).trans ((o5.nf _ V).trans gp4)));refine W.env fun E7 hE7=>?_;have t6:E7 6=.O (H1.A+1) 0 0:=(by rw[hE7];simp only[go_sem,dq,w6]);have t11:E7 11=aa kk:=(by rw[hE7];simp only[go_sem,dq]);clear hE7;have hkl:kk<r.length:=V;have hd1:=hD0 kk hkl;have hbf:=AO (D:=aA d r) (ch:=iT (aA d r)) (k:=kk) hkl;have hex:0<kk->(eN (aA d r) (iT (aA d r)) (kk+1)).ex (kk-1)=bC (aA d r) (kk-1) (aA d r).N:=fun h=>Vg V;have hBs:cr (BF (aA d r) kk)<=20000000000000000:=by
    have h1:cr (BF (aA d r) kk)<=cr (EF (aA d r) kk):=VM (Az _ _ _) (rY _ _);have h2:=FN hg1 (r.length-1-kk) kk (show kk+1+(r.length-1-kk)=r.length by omega);omega
   refine W.vs ?_;simp only[go_sem,t6,t11,lp6];refine ak.X (TV hrl hkl V hd1.2.2.1 V V (fun h0 c hc=>?_) (fun h0 n hn=>?_) (fun h0 n hn=>?_) H6 hS6 _ fun H7 h7n h7o h7S=>⟨⟨st,pd,n',en,ps',as',bo,by rw[h7o _ V (fun k j h1 h2 e=>by have:=hni k j h1 h2;omega),jB,hBe]⟩,?_⟩)
   ·have hDo:=wL hok hro.mem;have hd2:=hD0 (kk-1) V;have hpos:0<(aA d r).cs (kk-1)*(aA d r).cd (kk-1):=Y2 V V;obtain⟨a,ha⟩:=ay (l:=dp (aA d r) kk (aA d r).N) (i:=c) (by rw[rU];exact hc);have h1:=FC hDo (show kk<(aA d r).K from hkl) (aA d r).N ZJ a (an ha);have hab':((eN (aA d r) (iT (aA d r)) (kk+1)).ab kk).getD c 0=a:=kK ha;rw[hab'];rcases h1.2.2 h0 with h2|h2
    ·exact⟨h1.1,h2⟩
    ·rw[h2];exact⟨Int.le_refl _,Int.ofNat_lt.2 hpos⟩
   ·rw[hbf,hex h0];have h1:=SM hg1 (show kk<(aA d r).K from hkl) h0 n;have h2:=wQ (dS (dp (aA d r) kk (aA d r).N) (BF (aA d r) kk) n (bC (aA d r) (kk-1) (aA d r).N)) (((eN (aA d r) (iT (aA d r)) (kk+1)).ab kk).getD n 0).toNat;have h3:=wQ (BF (aA d r) kk) n;have h4:(eN (aA d r) (iT (aA d r)) (kk+1)).ab kk=dp (aA d r) kk (aA d r).N:=rfl;rw[h4]at h2 ⊢;omega
   ·rw[hbf];have h1:=SN (BF (aA d r) kk) (n+1);have h2:=rY (BF (aA d r) kk) (n+1);have h3:dJ (aA d r) (kk+1)=0:=(by unfold dJ;rw[Vg (by rintro(h|h);{ have:r.length=0:=h;omega };omega)]);rw[h3];omega
   simp only[go_sem,im];refine⟨by rw[h7o _ V (fun k j h1 h2 e=>by have:=hni k j h1 h2;omega)];exact jB,V,V,fun i h1 h2 h3=>by rw[h7o i h2 h3,o6 i V];exact hj.2.1 i h1 h2 h3,?_⟩;rw[TF (show kk<(aA d r).K from hkl)]at h7S;exact h7S.same (TE (show kk<(aA d r).K from hkl)) (Gb (fun k _=>by simp[iT]) _)
  ·simp only[go_sem];have lpy:=ag ((hj.2.1 (H1.A+1) V V hpI).trans ((o5.nf _ V).trans gp4));refine W.vs ?_;simp only[go_sem,w6,lpy];have hov:ZP H Hy:=⟨by have:=o1.A;omega,fun i hi=>by
    have q1:∀k j,k<r.length->j<6->i≠I k j:=fun k j h1 h2 e=>by have:=(hB.nj.np k j h1 h2).1;omega
    rw[hj.2.1 i V V q1,o5.nf i V,o4 i V V q1,hout i V V,o3 i V,o2.nf i V,o1.nf i hi]⟩
   have hSf:=hj.2.2;rw[AR,X3]at hSf;exact aj.mk hov.A (hK r H1.A lvh I Hy hr hok hov hSf fun h=>hB.nv (by rw[h];rfl))
 have hn2:n<r.length:=V
 obtain⟨v,hv⟩:=ay hn2;have hvd:r.getD n 0=v:=gD hv;have hm:=hro.mem v (an hv);obtain⟨x,hx⟩:=ay (bN.1 hm).1;obtain⟨hrn,hxp,hin,ps⟩:=xC hok hx;have hxc:=hok.n.L x (an hx);obtain⟨e1',e2'⟩:=iQ hx V;obtain⟨D,hD⟩:∃D,D=aA d r:=⟨_,rfl⟩
 have ecs:D.cs n=bZ d.C x:=by rw[hD];show dB d (r.getD n 0)=_;rw[hvd];exact e1'
 have ecd:(D.cd n:Int)=x.L:=by rw[hD];show (eM d (r.getD n 0):Int)=_;rw[hvd];exact e2'
 have gv:(ints (aE r))[n]?=some (aa v):=by rw[gZ];simp[aE,hv]
 have gvn:=aZ gv;have hvi:(v:Int)<d.C.length:=by have:=(bN.1 hm).1;omega
 have q0:=mV hx;have qn:=fQ hx;refine W.sq ?_;simp only[go_sem,f37,f38,hb];refine W.sq ?_;simp only[go_sem];refine W.seq (W.block ?_);refine W.sq ?_;simp only[go_sem,f36,f38,hb,gv,gvn];refine W.seq ?_;refine W.dr 17 [0,1,3,7,15,0,63,0,128,384,896,1920,0,8064,16256,32640,127] mixed ?_;simp only[go_sem,f6,lp,ls,q0,qn,hvi];refine⟨aa (bZ d.C x),[],aY.pure fun H9=>FZ d.C v x hx hin ps H9 _ (by rw[hrn];exact⟨rfl,rfl⟩),?_⟩;simp only[go_sem];obtain⟨cN,hcN⟩:∃cN,cN=D.cs n:=⟨_,rfl⟩
 obtain⟨cD,hcD⟩:∃cD,cD=D.cd n:=⟨_,rfl⟩
 refine W.env fun E5 hE5=>?_;have s6:E5 6=.O (H1.A+1) 0 0:=by rw[hE5];simp only[go_sem,f6]
 have s8:E5 8=aa v:=by rw[hE5];simp only[go_sem]
 have s9:E5 9=aa cN:=by rw[hE5,hcN,ecs];simp only[go_sem]
 have s10:E5 10=aa cD:=by rw[hE5,hcD,ecd];simp only[go_sem]
 have s38:E5 38=aa n:=by rw[hE5];simp only[go_sem,f38]
 clear hE5;have hc1:1<=cN:=by rw[hcN,hD];exact Aw hok hro n hn2
 have hsz0:=hok.nB.size;rw[jX]at hsz0;have hcb:cN<=1024:=by have:=z9 hxp hok.n.L;omega
 have hdb:cD<=4:=V
 have w0:=Vd ((cN:Int)*(cD:Int)) (by rw[<- WE];have:=XA hcb hdb;omega);obtain⟨cE,hcE⟩:∃cE,cE=cN*cD:=⟨_,rfl⟩
 have q1:(cN:Int)*(cD:Int)=(cE:Int):=by rw[hcE];simp
 have hcd2:cE<=4096:=by rw[hcE];exact XA hcb hdb
 rw[q1]at w0;have z1:(0:Int)<=(cN:Int):=V
 have z2:(0:Int)<=(cE:Int):=V
 refine Ev.W.Bk 24 [0,0,2,6,14,0,0,0,128,0,512,0,0,6144,14336,0,32768,0,0,393216,1048544,2097120,4194272,8388606] mixed ZI ZI ?_;simp only[go_sem,s6,s8,s9,s10,lp,ls,q1,w0,z1,z2,CC,CD,CE,M6,CF,M7,CG,M8,M9,CH,Na,Nb];obtain⟨H4,hH4⟩:∃H4,H4=ext (ext Hx [.J 0 3 (List.replicate cN (.lit (.int .i64 0))),.J 0 4 (List.replicate cN (.lit (.bool false))),.J 0 3 (List.replicate cE (.lit (.int .i64 0))),.J 0 3 (List.replicate cN (.lit (.int .i64 0)))]) [.J 0 3 [.lit (.int .i64 (-1))]]:=⟨_,rfl⟩
 rw[<- hH4];have n4:H4.A=Hx.A+4+1:=by rw[hH4];rfl
 have o4:ZP Hx H4:=by rw[hH4];exact(ZP.ext _ _).trans (.ext _ _)
 have b0:H4.get Hx.A=some (.J 0 3 (List.replicate cN (.lit (.int .i64 0)))):=by rw[hH4,ee];exact bM Hx _ 0 (ZG)
 have b1:H4.get (Hx.A+1)=some (.J 0 4 (List.replicate cN (.lit (.bool false)))):=by rw[hH4,ee];exact bM Hx _ 1 (ZG)
 have b2:H4.get (Hx.A+2)=some (.J 0 3 (List.replicate cE (.lit (.int .i64 0)))):=by rw[hH4,ee];exact bM Hx _ 2 (ZG)
 have b3:H4.get (Hx.A+3)=some (.J 0 3 (List.replicate cN (.lit (.int .i64 0)))):=by rw[hH4,ee];exact bM Hx _ 3 (ZG)
 have b4:H4.get (Hx.A+4)=some (.J 0 3 [.lit (.int .i64 (-1))]):=by rw[hH4,ee];exact bM Hx _ 4 (ZG)
 clear hH4;refine⟨V,by repeat' (first|refine And.intro ?_ ?_|(intro x hx;omega)),V,by repeat' (first|refine And.intro ?_ ?_|(intro x hx;omega)),V,by repeat' (first|refine And.intro ?_ ?_|(intro x hx;omega)),V,by repeat' (first|refine And.intro ?_ ?_|(intro x hx;omega)),by repeat' (first|refine And.intro ?_ ?_|(intro x hx;omega)),?_⟩;refine⟨_,_,1,_,Uk (a:=-1) (m:=cN) ⟨hc1,V⟩ V b4,?_⟩;have hEf:(⟨Ev.cV (Ev.fT H4.A (H4.A+1) (fun _=>true) (ext ⟨fun _=>none,H4.A⟩ [.J 0 3 (ints (List.replicate cN (-1)))]).get) H4.get,Hx.A+4+1+1⟩:ZK)=ext H4 [.J 0 3 (ints (List.replicate cN (-1)))]:=by rw[<- n4];exact CK
 rw[CJ,hEf,n4];simp only[go_sem];obtain⟨H5,hH5⟩:∃H5,H5=ext (ext H4 [.J 0 3 (ints (List.replicate cN (-1)))]) [.J 0 191 [.lit (.int .i64 (v:Nat)),.lit (.int .i64 (cD:Nat)),.U Hx.A 0 0 cN 1,.U (Hx.A+1) 0 0 cN 1,.U (Hx.A+2) 0 0 cE 1,.U (Hx.A+3) 0 0 cN 1,.U (Hx.A+4+1) 0 0 cN 1]]:=⟨_,rfl⟩
 rw[<- hH5];have n5:H5.A=Hx.A+4+1+1+1:=by rw[hH5];show H4.A+1+1=_;omega
 have o5:ZP H4 H5:=by rw[hH5];exact(ZP.ext _ _).trans (.ext _ _)
 have b5:H5.get (Hx.A+4+1)=some (.J 0 3 (ints (List.replicate cN (-1)))):=by rw[hH5,<- n4,ee];exact bM H4 _ 0 (ZG)
 have b6:H5.get (Hx.A+4+1+1)=some (.J 0 191 [.lit (.int .i64 (v:Nat)),.lit (.int .i64 (cD:Nat)),.U Hx.A 0 0 cN 1,.U (Hx.A+1) 0 0 cN 1,.U (Hx.A+2) 0 0 cE 1,.U (Hx.A+3) 0 0 cN 1,.U (Hx.A+4+1) 0 0 cN 1]):=by rw[hH5,show Hx.A+4+1+1=H4.A+1 by omega,ee];exact bM H4 _ 1 (ZG)
 clear hH5;obtain⟨lv2,H6,hA2,oP,n6,hp6⟩:=jv (P:=prog) (H:=H5) (t:=182) (x:=.O (Hx.A+4+1+1) 0 0) (n:=H5.A+1) Tryz.underlying182 Tryz.Dn Tryz.Dp rfl (by rw[Tryz.Do,qm];omega) (hB.lv.ng ZJ V fun i g h1 h2 h3 _=>by rw[o5.nf i V,o4.nf i h2]) (by have:=hB.nH;omega) rfl;have hA3:bS prog (ext H5 [.J 0 187 [.O (Hx.A+4+1+1) 0 0]]) (H5.A+1) 182 182 lvh (.U (Hx.A+4+1+1+1) 0 0 1 1)=some (lv2,H6):=by rw[<- n5];exact hA2
 have lv21:=oP.one;have lv2c:=oP.cells;have k6:∀i g e c,i<Hx.A->Hx.get i=some (.J g e c)->e≠187->H6.get i=Hx.get i:=fun i g e c h1 h2 h3=>by
  rw[hp6 i V (hB.lv.Nc h2 h3),o5.nf i V,o4.nf i h1]
 have hsl:=hB.nH;have gs6:=(k6 _ _ _ _ hsl hB.top ZH).trans hB.top;have ls6:=ag gs6;obtain⟨I2,hI2⟩:∃I2:Nat->Nat->Nat,I2=fun k j=>if k=n then (match j with|0=>Hx.A+4+1+1|1=>Hx.A|2=>Hx.A+1|3=>Hx.A+2|4=>Hx.A+3|_=>Hx.A+4+1) else I k j:=⟨_,rfl⟩
 have hIo:∀k j,k≠n->I2 k j=I k j:=fun k j h=>by rw[hI2];simp only;rw[Vg h]
 have hIn:∀j,I2 n j=(match j with|0=>Hx.A+4+1+1|1=>Hx.A|2=>Hx.A+1|3=>Hx.A+2|4=>Hx.A+3|_=>Hx.A+4+1):=fun j=>by rw[hI2];exact Vh rfl
 have hInr:∀j,Hx.A<=I2 n j/\I2 n j<Hx.A+7:=fun j=>by rw[hIn];split<;>omega
 clear hI2;have lvL:∀i,Hx.A<=i->∀g m,lvh≠.U i g 0 m 1:=fun i hi g m hv=>by
  rcases hB.lv with ⟨h1,_⟩|⟨i2,g2,_,h2,h3,_⟩
  ·rw[h1]at hv;cases hv
  ·rw[h3]at hv;have:=(ZL.U.inj hv).1;omega
 have new6:∀i,Hx.A<=i->i<H5.A->H6.get i=H5.get i:=fun i h1 h2=>hp6 i h2 (lvL i h1);obtain⟨H7,hH7⟩:∃H7,H7=H6.upd H1.A (.J 0 184 [.lit (.int .i64 d.Z),.Q d.C.length (aG d.C),.lit (.int .u64 (d.nl:Int)),.Q d.Y.length (bA d.Y),lv2,af (eC d),af (dM d),.lit (.int .i64 0)]):=⟨_,rfl⟩
 have n7:H7.A=H6.A:=by rw[hH7,aQ]
 have o7:∀i,i≠H1.A->H7.get i=H6.get i:=fun i h=>by rw[hH7,ah,Vg h]
 have g7:H7.get H1.A=some (.J 0 184 [.lit (.int .i64 d.Z),.Q d.C.length (aG d.C),.lit (.int .u64 (d.nl:Int)),.Q d.Y.length (bA d.Y),lv2,af (eC d),af (dM d),.lit (.int .i64 0)]):=by rw[hH7,ah,Vh rfl]
 have old7:∀k j g e c,k<n->j<6->Hx.get (I k j)=some (.J g e c)->e≠187->H7.get (I k j)=Hx.get (I k j):=fun k j g e c h1 h2 h3 h4=>by
  rw[o7 _ fun e=>hB.sep k j h1 h2 e.symm];exact k6 _ _ _ _ (hB.nj.np k j h1 h2).2 h3 h4
 have new7:∀i,Hx.A<=i->i<H5.A->H7.get i=H5.get i:=fun i h1 h2=>by rw[o7 i V];exact new6 i h1 h2
 have AW:∀k j,1<=j->∃g e c,dL (iU (aA d r) (qo (aA d r)) (iT (aA d r)) 0) k j=.J g e c/\e≠187:=fun k j hj=>by
  match j,hj with
  |1,_=>exact⟨_,_,_,rfl,ZH⟩
  |2,_=>exact⟨_,_,_,rfl,ZH⟩
  |3,_=>exact⟨_,_,_,rfl,ZH⟩
  |4,_=>exact⟨_,_,_,rfl,ZH⟩
  |(j+5),_=>exact⟨_,_,_,rfl,ZH⟩
 have z0:∀m:Nat,ints (List.replicate m 0)=List.replicate m (.lit (.int .i64 0)):=fun m=>by simp[ints,aa]
 have levs7:nnm (aA d r) r H3.A (n+1) I2 (iU (aA d r) (qo (aA d r)) (iT (aA d r)) 0) H7:=by
  refine⟨fun k j k' j' h1 h2 h3 h4 he=>?_,fun k j h1 h2=>?_,fun k h1=>?_,fun k j h1 h2 h3=>?_,Gl (fun k _=>by simp[qo]) (fun k _=>by simp[iT]) 0⟩
  ·by_cases a1:k=n
   ·by_cases a2:k'=n
    ·refine⟨V,?_⟩;rw[a1,a2,hIn,hIn]at he
     match j,h3,j',h4 with
     |0,_,0,_=>rfl
     |0,_,1,_=>exact absurd he (by simp only;omega)
     |0,_,2,_=>exact absurd he (by simp only;omega)
     |0,_,3,_=>exact absurd he (by simp only;omega)
     |0,_,4,_=>exact absurd he (by simp only;omega)
     |0,_,5,_=>exact absurd he (by simp only;omega)
     |1,_,0,_=>exact absurd he (by simp only;omega)
     |1,_,1,_=>rfl
     |1,_,2,_=>exact absurd he (by simp only;omega)
     |1,_,3,_=>exact absurd he (by simp only;omega)
     |1,_,4,_=>exact absurd he (by simp only;omega)
     |1,_,5,_=>exact absurd he (by simp only;omega)
     |2,_,0,_=>exact absurd he (by simp only;omega)
     |2,_,1,_=>exact absurd he (by simp only;omega)
     |2,_,2,_=>rfl
     |2,_,3,_=>exact absurd he (by simp only;omega)
     |2,_,4,_=>exact absurd he (by simp only;omega)
     |2,_,5,_=>exact absurd he (by simp only;omega)
     |3,_,0,_=>exact absurd he (by simp only;omega)
     |3,_,1,_=>exact absurd he (by simp only;omega)
     |3,_,2,_=>exact absurd he (by simp only;omega)
     |3,_,3,_=>rfl
     |3,_,4,_=>exact absurd he (by simp only;omega)
     |3,_,5,_=>exact absurd he (by simp only;omega)
     |4,_,0,_=>exact absurd he (by simp only;omega)
     |4,_,1,_=>exact absurd he (by simp only;omega)
     |4,_,2,_=>exact absurd he (by simp only;omega)
     |4,_,3,_=>exact absurd he (by simp only;omega)
     |4,_,4,_=>rfl
     |4,_,5,_=>exact absurd he (by simp only;omega)
     |5,_,0,_=>exact absurd he (by simp only;omega)
     |5,_,1,_=>exact absurd he (by simp only;omega)
     |5,_,2,_=>exact absurd he (by simp only;omega)
     |5,_,3,_=>exact absurd he (by simp only;omega)
     |5,_,4,_=>exact absurd he (by simp only;omega)
     |5,_,5,_=>rfl
    ·rw[a1,hIo k' j' a2]at he;have:=(hB.nj.np k' j' V h4).2;have:=hInr j;omega
   ·by_cases a2:k'=n
    ·rw[a2,hIo k j a1]at he;have:=(hB.nj.np k j V h3).2;have:=hInr j';omega
    ·rw[hIo k j a1,hIo k' j' a2]at he;exact hB.nj.inj k j k' j' V V h3 h4 he
  ·by_cases a1:k=n
   ·rw[a1];have:=hInr j;have:=hB.nH;omega
   ·rw[hIo k j a1];have:=hB.nj.np k j V h2;omega
  ·by_cases a1:k=n
   ·rw[a1,hIn];simp only;rw[new7 _ V V,b6];unfold my;rw[hvd,<- hD,<- hcN,<- hcD,<- hcE,hIn,hIn,hIn,hIn,hIn];rfl
   ·rw[hIo k 0 a1,old7 k 0 _ _ _ V V (hB.nj.nJ k V) ZH,hB.nj.nJ k V];unfold my;rw[hIo k 1 a1,hIo k 2 a1,hIo k 3 a1,hIo k 4 a1,hIo k 5 a1]
  ·by_cases a1:k=n
   ·rw[a1,hIn]
    match j,h2,h3 with
    |1,_,_ =>
     show H7.get Hx.A=some (.J 0 _ (ints (List.replicate ((aA d r).cs n) 0)));rw[new7 _ V V,o5.nf _ V,b0,z0,<- hD,<- hcN]
    |2,_,_ =>
     show H7.get (Hx.A+1)=some (.J 0 _ (gG (List.replicate ((aA d r).cs n) false)));rw[new7 _ V V,o5.nf _ V,b1,<- hD,<- hcN];simp[gG]
    |3,_,_ =>
     show H7.get (Hx.A+2)=some (.J 0 _ (ints (List.replicate ((aA d r).cs n*(aA d r).cd n) 0)));rw[new7 _ V V,o5.nf _ V,b2,z0,<- hD,<- hcN,<- hcD,<- hcE]
    |4,_,_ =>
     show H7.get (Hx.A+3)=some (.J 0 _ (ints (List.replicate ((aA d r).cs n) 0)));rw[new7 _ V V,o5.nf _ V,b3,z0,<- hD,<- hcN]
    |5,_,_ =>
     show H7.get (Hx.A+4+1)=some (.J 0 _ (ints (List.replicate ((aA d r).cs n) (-1))));rw[new7 _ V V,b5,<- hD,<- hcN]
   ·have h9:=hB.nj.nF k j V h2 h3;obtain⟨g,e,c,h8,h7⟩:=AW k j h2;rw[hIo k j a1,old7 k j g e c V h3 (by rw[h9,h8]) h7,h9]
 have hpt:lJ I2 (n+1)=lJ I n++[.O (Hx.A+4+1+1) 0 0]:=by
  unfold lJ;rw[VX,V8];congr 1
  ·exact VI fun k hk=>by rw[hIo k 0 (by have:=Vs.1 hk;omega)]
  ·simp only[List.map_cons,List.map_nil];rw[hIn];rfl
 have hB7:BldH d r H3.A H1.A (n+1) lv2 I2 H7:=by
  refine⟨g7,V,?_,fun k j h1 h2=>?_,fun id g m hv=>?_,levs7,fun h=>absurd h (Nat.succ_ne_zero n)⟩
  ·rw[hpt];refine oP.ng ZJ V fun i g _ _ h3 _=>o7 i ?_;rintro rfl;rw[gs6]at h3;cases h3
  ·by_cases a1:k=n
   ·rw[a1];have:=hInr j;omega
   ·rw[hIo k j a1];exact hB.sep k j V h2
  ·have hid:H6.get id=some (.J g 187 (lJ I n++[.O (Hx.A+4+1+1) 0 0])):=by
    rcases oP with ⟨h1,_⟩|⟨i2,g2,_,_,h3,h4⟩
    ·rw[h1]at hv;cases hv
    ·rw[h3]at hv;obtain⟨e1,e2,_⟩:=ZL.U.inj hv;rw[<- e1,<- e2];exact h4
   have hid7:id≠H1.A:=by
    rintro rfl;rw[gs6]at hid;cases hid
   refine⟨hid7,fun k j h1 h2 he=>?_⟩;have h9:=(o7 id hid7).trans hid;rw[he]at h9
   match j,h2 with
   |0,_ =>
    rw[levs7.nJ k h1]at h9;cases h9
   |(j+1),h2 =>
    rw[levs7.nF k (j+1) h1 V h2]at h9;obtain⟨g3,e3,c3,h8,h7⟩:=AW k (j+1) V;rw[h8]at h9;cases h9;exact h7 rfl
 have wn:=Vd ((n:Int)+1) V;have key:H3.A<=H7.A/\(∃(n_1:Nat) (lvh:ZL) (I:Nat->Nat->Nat),ZL.lit (.int .i64 ((n:Int)+1))=ZL.lit (.int .i64 (n_1:Int))/\n_1<=r.length/\H3.A<=H7.A/\(∀(i:Nat),i<H3.A->¬i=H1.A->H7.get i=H3.get i)/\BldH d r H3.A H1.A n_1 lvh I H7)/\r.length-((n:Int)+1).toNat<r.length-(iv (ρ 38)).toNat:=by
  refine⟨V,⟨n+1,lv2,I2,rfl,V,V,fun i h1 h2=>?_,hB7⟩,by rw[h38];simp only[aa,bf];omega⟩;rw[o7 i h2,hp6 i V (hB.lv.ne h1),o5.nf i V,o4.nf i V,hout i h1 h2]
 rcases hB.lv with ⟨hv0,hv1⟩|⟨i3,g3',q1',q2',hv0,hv1⟩
 ·refine⟨by repeat' (first|refine And.intro ?_ ?_|(intro x hx;omega)),by repeat' (first|refine And.intro ?_ ?_|(intro x hx;omega)),by repeat' (first|refine And.intro ?_ ?_|(intro x hx;omega)),?_⟩;rw[hv0]at hA3;simp only[go_sem,hv0,CI,hA3,ls6,lv21,lv2c];refine⟨fun x hx=>V,?_⟩;refine W.vs ?_;simp only[go_sem,s38,wn];rw[hH7]at key;exact key
 ·rw[qm]at hv0;refine⟨by repeat' (first|refine And.intro ?_ ?_|(intro x hx;omega)),by repeat' (first|refine And.intro ?_ ?_|(intro x hx;omega)),by repeat' (first|refine And.intro ?_ ?_|(intro x hx;omega)),?_⟩;rw[hv0]at hA3;simp only[go_sem,hv0,CI,hA3,ls6,lv21,lv2c];refine⟨fun x hx=>V,?_⟩;refine W.vs ?_;simp only[go_sem,s38,wn];rw[hH7]at key;exact key
def jZ (D:ZU)(T:ZW)(k m:Nat)(bad:List Bool):Nat->List Bool
 |0=>List.replicate m false
 |n+1=>if ((T.oc k).getD n false && !sj (D.cd k) n (T.ex k) (T.be k) (T.ch k) bad)=true then (jZ D T k m bad n).set ((T.ab k).getD n 0).toNat true else jZ D T k m bad n
def Gc (D:ZU)(T:ZW)(k m:Nat)(bad:List Bool)(n:Nat):(jZ D T k m bad n).length=m:=by
 induction n with
 |zero=>simp[jZ]
 |succ n ih=>unfold jZ;split<;>simp[ih]
variable {T:ZW}
def Gd {bad:List Bool}(b:Nat)(hb:b<m):∀n,((jZ D T k m bad n).getD b false=true↔∃c,c<n/\((T.ab k).getD c 0).toNat=b/\(T.oc k).getD c false=true/\sj (D.cd k) c (T.ex k) (T.be k) (T.ch k) bad=false):=by
 intro n
 induction n with
 |zero=>simp[jZ,Vj,WJ,hb]
 |succ n ih =>
  unfold jZ;by_cases h:((T.oc k).getD n false && !sj (D.cd k) n (T.ex k) (T.be k) (T.ch k) bad)=true
  ·rw[Vh h];simp only[VL,Xq]at h;by_cases e:((T.ab k).getD n 0).toNat=b
   ·constructor
    ·intro _;exact⟨n,V,e,h.1,h.2⟩
    ·intro _;rw[Vj,e,VB (by rw[Gc];exact hb)];rfl
   ·rw[Vj,VP e,<- Vj,ih];constructor
    ·rintro⟨c,h1,h2⟩;exact⟨c,V,h2⟩
    ·rintro⟨c,h1,h2,h3⟩;refine⟨c,?_,h2,h3⟩;rcases XF (X0 h1) with h4|h4
     ·exact h4
     ·rw[h4]at h2;exact absurd h2 e
  ·rw[Vg h,ih];constructor
   ·rintro⟨c,h1,h2⟩;exact⟨c,V,h2⟩
   ·rintro⟨c,h1,h2,h3,h4⟩;refine⟨c,?_,h2,h3,h4⟩;rcases XF (X0 h1) with h5|h5
    ·exact h5
    ·subst h5;exact absurd (by rw[h3,h4];rfl) h
def mz (D:ZU)(T:ZW):Nat->Nat->List Bool
 |0,k=>List.replicate (D.cs k*D.cd k) false
 |n+1,k=>jZ D T (k+1) (D.cs k*D.cd k) (mz D T n (k+1)) (D.cs (k+1))
def kL (T:ZW):Ch:=fun k c=>if (T.ch k).getD c 0=-1 then none else some ((T.ch k).getD c 0).toNat
def lM (T:ZW)(tot:Int):Z3 where
 nw k c:=((T.ab k).getD c 0).toNat
 nM k c:=(T.oc k).getD c false
 E k b:=(T.ex k).getD b 0
 B k c:=(T.be k).getD c 0
 T:=tot
structure ZW.Rng (D:ZU)(T:ZW):Prop where
 ab:∀k c,0<k->k<D.K->c<D.cs k->0<=(T.ab k).getD c 0/\((T.ab k).getD c 0).toNat<D.cs (k-1)*D.cd (k-1)
 ch:∀k c,k<D.K->c<D.cs k->(T.ch k).getD c 0=-1\/0<=(T.ch k).getD c 0
def Ge (hR:T.Rng D):∀(n k:Nat),k+1+n=D.K->∀c,c<D.cs k->sj (D.cd k) c (T.ex k) (T.be k) (T.ch k) (mz D T n k)=kE D (lM T tot) (kL T) (n+1) k c:=by
 intro n
 induction n with
 |zero =>
  intro k hk c hc;rw[WG];rw[rT];unfold sj ij;rw[Ya];have hm:=hR.ch k c V hc;constructor
  ·rintro⟨x,hx,h⟩;simp only[VL,VN,decide_eq_true_eq]at h;refine⟨x,Vs.1 hx,h.1.1,fun c' _ _ _=>rfl,fun y hy=>?_⟩;unfold kL at hy;split at hy
   ·cases hy
   ·rename_i h9;rcases h.2 with h2|h2
    ·exact absurd h2 h9
    ·cases hy;omega
  ·rintro⟨x,hx,h1,_,h3⟩;refine⟨x,Vs.2 hx,?_⟩;simp only[VL,VN,decide_eq_true_eq];refine⟨⟨h1,?_⟩,?_⟩
   ·unfold mz;rw[Vj,WJ];split<;>rfl
   ·by_cases h9:(T.ch k).getD c 0=-1
    ·exact .inl h9
    ·right;have:=h3 _ (Vg h9);omega
 |succ n ih =>
  intro k hk c hc;rw[WG];rw[rT];unfold sj ij;rw[Ya];have hm:=hR.ch k c V hc;have hbd:∀x,x<D.cd k->((mz D T (n+1) k).getD (c*D.cd k+x) false=true↔∃c',c'<D.cs (k+1)/\(lM T tot).nw (k+1) c'=c*D.cd k+x/\(lM T tot).nM (k+1) c'=true/\kE D (lM T tot) (kL T) (n+1) (k+1) c'=false):=fun x hx=>by
   have hlt:c*D.cd k+x<D.cs k*D.cd k:=by
    have h3:(c+1)*D.cd k<=D.cs k*D.cd k:=VO _ hc;rw[VT,Xv]at h3;omega
   unfold mz;rw[Gd _ hlt];constructor
   ·rintro⟨c',h1,h2,h3,h4⟩;exact⟨c',h1,h2,h3,by rw[<- ih (k+1) V c' h1];exact h4⟩
   ·rintro⟨c',h1,h2,h3,h4⟩;exact⟨c',h1,h2,h3,by rw[ih (k+1) V c' h1];exact h4⟩
  constructor
  ·rintro⟨x,hx,h⟩;simp only[VL,VN,decide_eq_true_eq,Xq]at h;have hx':=Vs.1 hx;refine⟨x,hx',h.1.1,fun c' h1 h2 h3=>?_,fun y hy=>?_⟩
   ·cases hal:kE D (lM T tot) (kL T) (n+1) (k+1) c' with
    |true=>rfl
    |false =>
     have:=(hbd x hx').2 ⟨c',h1,h2,h3,hal⟩;rw[h.1.2]at this;cases this
   ·unfold kL at hy;split at hy
    ·cases hy
    ·rename_i h9;rcases h.2 with h2|h2
     ·exact absurd h2 h9
     ·cases hy;omega
  ·rintro⟨x,hx,h1,h2,h3⟩;refine⟨x,Vs.2 hx,?_⟩;simp only[VL,VN,decide_eq_true_eq,Xq];refine⟨⟨h1,?_⟩,?_⟩
   ·rw[<- Xe];intro h;obtain⟨c',a1,a2,a3,a4⟩:=(hbd x hx).1 h;rw[h2 c' a1 a2 a3]at a4;cases a4
   ·by_cases h9:(T.ch k).getD c 0=-1
    ·exact .inl h9
    ·right;have:=h3 _ (Vg h9);omega
def AP (D:ZU)(T:ZW):Bool:=if D.K=0 then true else !(jZ D T 0 1 (mz D T (D.K-1) 0) (D.cs 0)).contains true
def TI (hR:T.Rng D)(h0:∀c,c<D.cs 0->((T.ab 0).getD c 0).toNat=0):AP D T=true↔jW D (lM T tot) (kL T):=by
 unfold AP jW;by_cases hK:D.K=0
 ·rw[Vh hK];exact⟨fun _ h=>V,fun _=>rfl⟩
 rw[Vg hK];have hmem:(jZ D T 0 1 (mz D T (D.K-1) 0) (D.cs 0)).contains true=true↔(jZ D T 0 1 (mz D T (D.K-1) 0) (D.cs 0)).getD 0 false=true:=by
  have hl:=Gc D T 0 1 (mz D T (D.K-1) 0) (D.cs 0)
  match hsp:jZ D T 0 1 (mz D T (D.K-1) 0) (D.cs 0),hl with
  | [a],_=>cases a<;>simp
 rw[Xq,<- Xe,hmem,Gd 0 V];constructor
 ·intro h _ c hc ho;cases hal:kE D (lM T tot) (kL T) D.K 0 c with
  |true=>rfl
  |false =>
   refine absurd ⟨c,hc,h0 c hc,ho,?_⟩ h;rw[Ge (tot:=tot) hR (D.K-1) 0 V c hc,show D.K-1+1=D.K by omega];exact hal
 ·rintro h ⟨c,h1,_,h3,h4⟩;have:=h V c h1 h3;rw[Ge (tot:=tot) hR (D.K-1) 0 V c h1,show D.K-1+1=D.K by omega]at h4;rw[this]at h4;cases h4
def lO (T:ZW)(k c:Nat)(x:Nat):ZW:={ T with ch:=fE T.ch k ((T.ch k).set c (x:Int)) }
def ue (D:ZU)(T:ZW)(k c:Nat):Nat:=jF (fun x=>AP D (lO T k c x)) (D.cd k-1) 0
def uf (D:ZU)(T:ZW)(k:Nat):Nat->ZW
 |0=>T
 |n+1=>lO (uf D T k n) k n (ue D (uf D T k n) k n)
def Gf (T:ZW)(k c x k' c':Nat)(hc:c<(T.ch k).length):((lO T k c x).ch k').getD c' 0=if k'=k/\c'=c then (x:Int) else (T.ch k').getD c' 0:=by
 unfold lO;simp only;by_cases e:k'=k
 ·subst e;rw[lK,nC _ _ _ _ _ hc];by_cases e2:c=c'
  ·rw[Vh e2,Vh ⟨rfl,e2.symm⟩]
  ·rw[Vg e2,Vg fun h=>e2 h.2.symm]
 ·rw[lL e,Vg fun h=>e h.1]
def Gg {x:Nat}(hc:c<(T.ch k).length):kL (lO T k c x)=kH (kL T) k c x:=by
 funext k' c'
 unfold kL;rw[Gf _ _ _ _ _ _ hc];by_cases h:k'=k/\c'=c
 ·rw[Vh h,h.1,h.2,nD,Vg V];simp
 ·rw[Vg h,nE h]
def Gh (hR:T.Rng D){x:Nat}(hc:c<(T.ch k).length):(lO T k c x).Rng D :=
 ⟨hR.ab,fun k' c' h1 h2=>by
  rw[Gf _ _ _ _ _ _ hc];split
  ·right;omega
  ·exact hR.ch k' c' h1 h2⟩
def TJ {n:Nat}(hl:T.Len D n)(k c x:Nat):(lO T k c x).Len D n :=
 ⟨hl.ab,hl.oc,hl.ex,hl.be,fun k' h=>by
  unfold lO;simp only;by_cases e:k'=k
  ·rw[e,lK,VF,<- e];exact hl.ch k' h
  ·rw[lL e];exact hl.ch k' h⟩
def Gi {f g:Nat->Bool}:∀n x,(∀y,x<=y->y<x+n->f y=g y)->jF f n x=jF g n x:=by
 intro n
 induction n with
 |zero=>intro x _;rfl
 |succ n ih =>
  intro x h;unfold jF;rw[h x ZJ V,ih (x+1) fun y h1 h2=>h y V V]
def TK (hR:T.Rng D)(h0:∀c,c<D.cs 0->((T.ab 0).getD c 0).toNat=0)(hc:c<(T.ch k).length):ue D T k c=iS D (lM T tot) (kL T) k c:=by
 unfold ue iS;refine Gi _ _ fun y _ _=>?_;have h1:=TI (D:=D) (T:=lO T k c y) (tot:=tot) (Gh hR hc) h0;rw[Gg hc]at h1;have h2:lM (lO T k c y) tot=lM T tot:=rfl;rw[h2]at h1;rw[WG,h1,tY]
end Go.Proofs
