/- Own work: contracts. -/
import Derived.Test.YtjhbjbninamhnaaGreatConF
import Derived.Test.YtjhbjbninamhnaaGreatConC
import Derived.Test.YtjhbjbninamhnaaGreatConE
import Derived.Test.YtjhbjbninamhnaaGreatConB
import Derived.Test.YtjhbjbninamhnaaGreatLibB
set_option linter.all false
set_option maxHeartbeats 8000000
set_option maxRecDepth 100000
namespace Go.Proofs
open Go.Hx Tryz
variable {tot:Int}{l:List Int}{a k n r v0 w:Nat}{be ch:Nat->List Int}{c:Nat->Nat->Int}{I:Nat->Nat->Nat}{lvh:W9}{d:Xa}{D:Xg}{T:Xj}{H:Xn}
def QH {i g o:Nat}{e:TypeId}{cells:List W9}(hg:H.get i=some (.J g e cells))(hn:n=l.length)(h0:l≠[])(hl:(l.length:Int)<2 ^ 62)(hx:∀j (h:j<l.length),cells[o+j]?=some (aa l[j])):
  ae prog G0 28 [.Q i g o n 1] H fun r H'=>r=.ret (aa (ij l))/\H'=H :=
 ae.frame (args':=[ah l]) aH rfl (fun j hj _=>match j,hj with|0,_=>Fz.ints trivial hg hn hx) (Rk l h0 hl dp _ ⟨_,rfl,.lit _⟩)
def fB (a:List Int)(l:List Int):Nat->List Int
 |0=>l
 |n+1=>(fB a l n).set n (a.getD n 0)
def mX (a l:List Int)(n:Nat):(fB a l n).length=l.length:=by
 induction n with
 |zero=>rfl
 |succ n ih=>unfold fB;rw[Tl,ih]
def DP {a:List Int}(n i:Nat)(hi:i<l.length):(fB a l n).getD i 0=if i<n then a.getD i 0 else l.getD i 0:=by
 induction n with
 |zero=>rfl
 |succ n ih =>
  unfold fB;by_cases hn:n<l.length
  ·rw[oq _ _ _ _ _ (by rw[mX];exact hn),ih];by_cases h:n=i
   ·subst h;rw[SU rfl,SU O]
   ·rw[SQ h];by_cases h2:i<n
    ·rw[SU h2,SU O]
    ·rw[SQ h2,SQ O]
  ·rw[List.set_eq_of_length_le (by rw[mX];omega),ih,SU O,SU O]
def QI {a:List Int}(h:a.length=l.length):fB a l l.length=a:=by
 apply Ts;intro i;by_cases hi:i<l.length
 ·have h1:=DP (a:=a) l.length i hi;rw[SU hi]at h1;obtain⟨x,hx⟩:=aq (l:=fB a l l.length) (i:=i) (by rw[mX];exact hi);obtain⟨y,hy⟩:=aq (l:=a) (i:=i) O;rw[gW hx,gW hy]at h1;rw[hx,hy,h1]
 ·rw[SX (by rw[mX];omega),SX O]
def bY (D:Xg)(T:Xj)(k:Nat):List Int:=ka (D.cs k) (D.cd k) (T.ex k)
def ir (D:Xg)(T:Xj)(k n:Nat):Xj:={ T with be:=eE T.be k (fB (bY D T k) (T.be k) n),ex:=if 0<k then eE T.ex (k-1) (dG (T.ab k) (bY D T k) n (T.ex (k-1))) else T.ex }
def te (D:Xg)(T:Xj)(k:Nat):Xj:={ T with be:=eE T.be k (bY D T k),ex:=if 0<k then eE T.ex (k-1) (dG (T.ab k) (bY D T k) (D.cs k) (T.ex (k-1))) else T.ex }
def gK (D:Xg)(T:Xj)(k n:Nat)(tot:Int):Int:=if 0<k then tot else tot+SS n fun c=>(bY D T k).getD c 0
def jO (r:List Nat)(s:Nat)(I:Nat->Nat->Nat)(H H':Xn):Prop:=∀i,i≠s->(∀k j,k<r.length->j<6->i≠I k j)->H'.get i=H.get i
def QJ (hl:T.Len D n)(hk:k<n):ir D T k (D.cs k)=te D T k:=by
 unfold ir te;have:fB (bY D T k) (T.be k) (D.cs k)=bY D T k:=by
  rw[<- hl.be k hk];exact QI (by unfold bY;rw[CZ];exact(hl.be k hk).symm)
 rw[this]
def zo {m:Nat}(hl:T.Len D n):(ir D T k m).Len D n:=by
 refine⟨hl.ab,hl.oc,fun k' hk=>?_,fun k' hk=>?_,hl.ch⟩
 ·unfold ir;simp only;split
  ·by_cases e:k'=k-1
   ·rw[e,ko,sF];rw[<- e];exact hl.ex k' hk
   ·rw[jk e];exact hl.ex k' hk
  ·exact hl.ex k' hk
 ·unfold ir;simp only;by_cases e:k'=k
  ·rw[e,ko,mX];rw[<- e];exact hl.be k' hk
  ·rw[jk e];exact hl.be k' hk
def ox (D:Xg)(T:Xj)(k n:Nat):Xj:={ ir D T k n with be:=eE T.be k (fB (bY D T k) (T.be k) (n+1)) }
def QK {m:Nat}(hl:T.Len D n):(ox D T k m).Len D n:=by
 have h1:=zo (k:=k) (m:=m) hl;exact⟨h1.ab,h1.oc,h1.ex,(zo (k:=k) (m:=m+1) hl).be,h1.ch⟩
def QL (D:Xg)(T:Xj)(k:Nat):ir D T k 0=T:=by
 have h1:eE T.be k (T.be k)=T.be:=by funext k';unfold eE;split;{ rename_i e;rw[e] };rfl
 have h2:∀f:Nat->List Int,eE f (k-1) (f (k-1))=f:=fun f=>by funext k';unfold eE;split;{ rename_i e;rw[e] };rfl
 unfold ir;simp only[fB];rw[h1];have h3:(if 0<k then eE T.ex (k-1) (dG (T.ab k) (bY D T k) 0 (T.ex (k-1))) else T.ex)=T.ex:=by
  split
  ·exact h2 T.ex
  ·rfl
 rw[h3]
def QM {r:List Nat}{lo s:Nat}(hrl:r.length<=64)(hk:k<r.length)(hsz:(ao d r).cs k*(ao d r).cd k<2 ^ 40)(hcd:1<=(ao d r).cd k)(hcd2:(ao d r).cd k<2 ^ 40)(hcs2:(ao d r).cs k<2 ^ 40)
  (hab:0<k->∀c,c<(ao d r).cs k->0<=(T.ab k).getD c 0/\(T.ab k).getD c 0<((ao d r).cs (k-1)*(ao d r).cd (k-1):Nat))
  (hb1:0<k->∀n,n<(ao d r).cs k->-9223372036854775808<=(dG (T.ab k) (bY (ao d r) T k) n (T.ex (k-1))).getD ((T.ab k).getD n 0).toNat 0+(bY (ao d r) T k).getD n 0/\(dG (T.ab k) (bY (ao d r) T k) n (T.ex (k-1))).getD ((T.ab k).getD n 0).toNat 0+(bY (ao d r) T k).getD n 0<=9223372036854775807)
  (hb2:k=0->∀n,n<(ao d r).cs k->-9223372036854775808<=tot+(SS (n+1) fun c=>(bY (ao d r) T k).getD c 0)/\tot+(SS (n+1) fun c=>(bY (ao d r) T k).getD c 0)<=9223372036854775807)
  (H:Xn) (hS:Xi d r lo s lvh I T tot H) (K:Xd->Xn->Prop)
  (hK:∀H',H'.A=H.A->jO r s I H H'->Xi d r lo s lvh I (te (ao d r) T k) (gK (ao d r) T k ((ao d r).cs k) tot) H'->K (.ret (.na [])) H'):
  ae prog G0 107 [.R s 0 0,aa k] H K:=by
 obtain⟨D,hD⟩:∃D,D=ao d r:=⟨_,rfl⟩
 rw[<- hD]at hsz hcd hcd2 hcs2 hab hb1 hb2 hK;obtain⟨il,gl,hlv,glv,_,_⟩:=hS.vM hk;have lso:=af hS.top;have llv:=af glv;have l0:=af (hS.nc.nw k hk);rw[<- hD]at l0;have l4:=af (hS.nc.nr k 4 hk O O);simp only[de,gJ]at l0 l4;have hpk:=sX (I:=I) hk;have hpn:=aM hpk;have hpl:=jK I r.length;have hki:(k:Int)<r.length:=O
 have hbe4:=hS.nc.len.be k hk;rw[<- hD]at hbe4;refine ae.sw (n:=92) (rs:=[]) func107 ?_;refine W.sq ?_;simp only[go_sem,lso,hlv,llv,hpk,hki];refine W.sq ?_;simp only[go_sem,l0,l4];refine W.en (fun E=>E 0=.R s 0 0 /\ E 1=aa k /\ E 4=.R (I k 0) 0 0 /\ E 17=aa (D.cs k) /\ E 18=aa 0) (by simp only[go_sem]) fun E ⟨e0,e1,e4,e17,e18⟩=>?_
 refine W.block ?_;refine W.aP 4951760157141521099596234784 (by rfl) (fun ρ Hx=>∃c:Nat,ρ 18=aa c/\c<=D.cs k/\Hx.A=H.A/\jO r s I H Hx/\Xi d r lo s lvh I (ir D T k c) (gK D T k c tot) Hx) (fun ρ Hx=>D.cs k-(iv (ρ 18)).toNat) ?_ ?_
 ·simp only[go_sem,e18];refine⟨0,rfl,O,fun _ _ _=>rfl,?_⟩;have:gK D T k 0 tot=tot:=by unfold gK;split<;>simp[mE]
  rw[QL,this];exact hS
 rintro ρ Hx ⟨c,h18,hc,nx,hout,hSx⟩;refine W.en (fun E1=>E1 0=.R s 0 0 /\ E1 1=aa k /\ E1 4=.R (I k 0) 0 0 /\ E1 17=aa (D.cs k) /\ E1 18=aa c) (by simp only[go_sem,e0,e1,e4,e17,h18]) fun E1 ⟨f0,f1,f4,f17,f18⟩=>?_
 by_cases hb:(c:Int)<D.cs k;rotate_left
 ·refine W.vs ?_;simp only[go_sem,f17,f18,hb];have hcc:c=D.cs k:=O
  have hle:=hS.nc.len;rw[<- hD]at hle;rw[hcc,QJ hle hk]at hSx;exact ar.mk O (hK Hx nx hout hSx)
 refine W.sq ?_;simp only[go_sem,f17,f18,hb];refine W.sq ?_;simp only[go_sem];refine W.seq (W.block ?_);refine W.sq ?_;simp only[go_sem,f18]
  -- the greatest of the case's branches
 have lx0:=af (hSx.nc.nw k hk);rw[<- hD]at lx0;have g3:=hSx.nc.nr k 3 hk O O;have g4:=hSx.nc.nr k 4 hk O O;have lx3:=af g3;have lx4:=af g4;have hle:=hSx.nc.len;rw[<- hD]at hle;have hex:(ir D T k c).ex k=T.ex k:=by
  unfold ir;simp only;split
  ·rw[jk O]
  ·rfl
 have hbe:(ir D T k c).be k=fB (bY D T k) (T.be k) c:=ko ..;simp only[de,gJ,hex,hbe]at lx0 lx3 lx4 g3;have hexl:=hle.ex k hk;rw[hex]at hexl;have hbr:(c+1)*D.cd k<=D.cs k*D.cd k:=Tr _ O;have hbr2:c*D.cd k+D.cd k=(c+1)*D.cd k:=by rw[TJ,UV]
 obtain⟨part,hpart⟩:∃p,p=iV (D.cd k) c (T.ex k):=⟨_,rfl⟩
 have hprl:part.length=D.cd k:=by rw[hpart];unfold iV;rw[Td,TB];omega
 have hpr0:part≠[]:=fun h=>by rw[h]at hprl;simp at hprl;omega
 have hprg:∀j (h:j<part.length),(ints (T.ex k))[c*D.cd k+j]?=some (aa part[j]):=fun j hj=>by
  have h1:(iV (D.cd k) c (T.ex k))[j]?=some part[j]:=by rw[<- hpart];exact SP hj
  unfold iV at h1;rw[TL (by rw[hprl]at hj;exact hj),T9]at h1;rw[eG,h1];rfl
 have hmx:(bY D T k).getD c 0=ij part:=by rw[hpart];exact yU (O)
 have i3:=(hSx.nc.ng k 3 hk O).2;have ll3:(ints (T.ex k)).length=D.cs k*D.cd k:=by rw[aS];exact hexl
 have ll4:(ints (fB (bY D T k) (T.be k) c)).length=D.cs k:=by rw[aS,mX];exact hbe4
 have w1:=SN ((c:Int)*(D.cd k:Int)) (by rw[<- Vr];omega);have w2:=SN ((c:Int)+1) O;have w3:=SN (((c:Int)+1)*(D.cd k:Int)) (by rw[show (c:Int)+1=((c+1:Nat):Int) by omega,<- Vr];omega);have q1:(c:Int)*(D.cd k:Int)=((c*D.cd k:Nat):Int):=W5
 have q2:((c:Int)+1)*(D.cd k:Int)=(((c+1)*D.cd k:Nat):Int):=W5
 rw[q1]at w1;rw[q2]at w3;refine W.seq ?_;refine W.dr 24 [0,1,3,7,0,0,32,96,224,0,0,1024,3072,7168,15872,0,32768,0,131072,393216,917504,2064384,4194272,8388576] mixed ?_;simp only[go_sem,f4,lx0,q1,w1,w2,q2,w3,lx3,lx4,ll4,hb];have e1':setAt (ints (fB (bY D T k) (T.be k) c)) c [.lit (.int .i64 (ij part))]=ints (fB (bY D T k) (T.be k) (c+1)):=by
  rw[gU (by rw[mX];omega)];show _=ints ((fB (bY D T k) (T.be k) c).set c ((bY D T k).getD c 0));rw[hmx]
 refine⟨O,O,aa (ij part),[I k 3],bp.mk (fun x hx=>by rw[List.mem_singleton.1 hx];exact i3) (fun H2 h2 _=>QH (h2 _ W5 |>.trans g3) (by rw[hprl];omega) hpr0 O hprg),⟨rfl,rfl,by show c+1<=_;omega⟩,?_⟩;simp only[go_sem,e1'];obtain⟨H4,hH4⟩:∃H4,H4=Hx.upd (I k 4) (.J 0 3 (ints (fB (bY D T k) (T.be k) (c+1)))):=⟨_,rfl⟩
 rw[<- hH4];have hTm:Xi d r lo s lvh I (ox D T k c) (gK D T k c tot) H4:=by
  rw[hH4];have hb4:de (ox D T k c) k 4=.J 0 3 (ints (fB (bY D T k) (T.be k) (c+1))):=by show Xe.J 0 _ (ints (eE T.be k _ k))=_;rw[ko]
  rw[<- hb4];refine hSx.upd hk O O (fun k' j' h1 h2 h3 h4=>?_) ?_
  ·match j',h2,h3 with
   |1,_,_=>rfl
   |2,_,_=>rfl
   |3,_,_=>rfl
   |4,_,_ =>
    have:k'≠k:=fun e=>h4 ⟨e,rfl⟩;show Xe.J 0 _ (ints (eE T.be k _ k'))=Xe.J 0 _ (ints (eE T.be k _ k'));rw[jk this,jk this]
   |5,_,_=>rfl
  ·rw[<- hD];have:=hS.nc.len;rw[<- hD]at this;exact QK this
 have n4:H4.A=H.A:=by rw[hH4,aF];exact nx
 have o4:jO r s I H H4:=fun i h1 h2=>by rw[hH4,ag,SQ (h2 k 4 hk O)];exact hout i h1 h2
 clear hH4;have ls4:=af hTm.top;have l04:=af (hTm.nc.nw k hk);rw[<- hD]at l04;have l44:=af (hTm.nc.nr k 4 hk O O);have hbe':(ox D T k c).be k=fB (bY D T k) (T.be k) (c+1):=ko ..;simp only[de,gJ,hbe']at l04 l44;obtain⟨bc,hbc⟩:∃bc,bc=(bY D T k).getD c 0:=⟨_,rfl⟩
 have gbc:(ints (fB (bY D T k) (T.be k) (c+1)))[c]?=some (aa bc):=by
  have h1:=DP (a:=bY D T k) (l:=T.be k) (c+1) c O;rw[SU O]at h1;obtain⟨x,hx⟩:=aq (l:=fB (bY D T k) (T.be k) (c+1)) (i:=c) (by rw[mX];omega);rw[gW hx]at h1;rw[eG,hx,hbc,<- h1];rfl
 have nbc:=aM gbc;have ll5:(ints (fB (bY D T k) (T.be k) (c+1))).length=D.cs k:=by rw[aS,mX];exact hbe4
 refine W.en (fun E2=>E2 0=.R s 0 0 /\ E2 1=aa k /\ E2 4=.R (I k 0) 0 0 /\ E2 5=aa c /\ E2 18=aa c) (by simp only[go_sem,f0,f1,f4,f18]) fun E2 ⟨m0,m1,m4,m5,m18⟩=>?_
 have wc:=SN ((c:Int)+1) O;by_cases hk0:0<k
 ·have hk0i:(0:Int)<k:=O
  refine W.sq ?_;simp only[go_sem,m1,hk0i];refine W.cond (t:=true) rfl ?_;have hk1:k-1<r.length:=O
  have hpk1:=sX (I:=I) hk1;have l14:=af (hTm.nc.nw (k-1) hk1);rw[<- hD]at l14;have l1e:=af (hTm.nc.nr (k-1) 3 hk1 O O);have l1a:=af (hTm.nc.nr k 1 hk O O);have hexm:(ox D T k c).ex (k-1)=dG (T.ab k) (bY D T k) c (T.ex (k-1)):=by
   show (if 0<k then eE T.ex (k-1) _ else T.ex) (k-1)=_;rw[SU hk0,ko]
  have habm:(ox D T k c).ab k=T.ab k:=rfl;simp only[de,gJ,hexm,habm]at l14 l1e l1a;obtain⟨il4,gl4,hlv4,glv4,_,_⟩:=hTm.vM hk;rw[hlv4]at ls4;have llv4:=af glv4;have w5:=SN ((k:Int)-1) O;have ek:(k:Int)-1=((k-1:Nat):Int):=O
  rw[ek]at w5;have hk1i:((k-1:Nat):Int)<r.length:=O
  have hpn4:=aM hpk1;have habl:=hS.nc.len.ab k hk;rw[<- hD]at habl;obtain⟨av,hav⟩:=aq (l:=T.ab k) (i:=c) O;have hab1:=hab hk0 c O;rw[gW hav]at hab1;obtain⟨aN,haN⟩:=S5 hab1.1;subst haN;have gav:(ints (T.ab k))[c]?=some (aa aN):=by rw[eG,hav];rfl
  have nav:=aM gav;have lla:(ints (T.ab k)).length=D.cs k:=by rw[aS];exact habl
  have hexl1:=hS.nc.len.ex (k-1) hk1;rw[<- hD]at hexl1;have aNl:aN<(dG (T.ab k) (bY D T k) c (T.ex (k-1))).length:=by rw[sF,hexl1];omega
  obtain⟨xv,hxv⟩:=aq aNl;have gxv:(ints (dG (T.ab k) (bY D T k) c (T.ex (k-1))))[aN]?=some (aa xv):=by rw[eG,hxv];rfl
  have nxv:=aM gxv;have llx:(ints (dG (T.ab k) (bY D T k) c (T.ex (k-1)))).length=D.cs (k-1)*D.cd (k-1):=by rw[aS,sF];exact hexl1
  have hb1':=hb1 hk0 c O;have etn:((T.ab k).getD c 0).toNat=aN:=by rw[gW hav];omega
  rw[etn,gW hxv,<- hbc]at hb1';have w6:=SN (xv+bc) O;have aNi:(aN:Int)<(D.cs (k-1)*D.cd (k-1):Nat):=O
  have e6:setAt (ints (dG (T.ab k) (bY D T k) c (T.ex (k-1)))) aN [.lit (.int .i64 (xv+bc))]=ints (dG (T.ab k) (bY D T k) (c+1) (T.ex (k-1))):=by
   rw[gU aNl,vv,etn,gW hxv,hbc]
  refine W.dr 27 [0,1,3,7,0,16,63,127,255,511,1023,0,2048,6144,14336,0,63488,129024,262143,524287,0,1048576,3145728,7340032,0,32505856,66060288] mixed ?_;simp only[go_sem,m0,m1,m4,m5,ls4,ek,w5,hk1i,llv4,hpk1,l14,l04,l44,l1a,l1e,gav,gxv,llx,gbc,hb,w6,aNi,e6];refine⟨O,?_⟩;refine W.vs ?_;simp only[go_sem,m18,wc];obtain⟨H5,hH5⟩:∃H5,H5=H4.upd (I (k-1) 3) (.J 0 3 (ints (dG (T.ab k) (bY D T k) (c+1) (T.ex (k-1))))):=⟨_,rfl⟩
  rw[<- hH5];have n5:H5.A=H.A:=by rw[hH5,aF];exact n4
  refine⟨O,⟨c+1,rfl,O,n5,fun i h1 h2=>by rw[hH5,ag,SQ (h2 (k-1) 3 hk1 O)];exact o4 i h1 h2,?_⟩,by rw[h18];simp only[aa,bj];omega⟩;have et:gK D T k (c+1) tot=gK D T k c tot:=by unfold gK;rw[SU hk0,SU hk0]
  have hb3:de (ir D T k (c+1)) (k-1) 3=.J 0 3 (ints (dG (T.ab k) (bY D T k) (c+1) (T.ex (k-1)))):=by
   show Xe.J 0 _ (ints ((if 0<k then eE T.ex (k-1) _ else T.ex) (k-1)))=_;rw[SU hk0,ko]
  rw[et,hH5,<- hb3];refine hTm.upd hk1 O O (fun k' j' h1 h2 h3 h4=>?_) ?_
  ·match j',h2,h3 with
   |1,_,_=>rfl
   |2,_,_=>rfl
   |3,_,_ =>
    have:k'≠k-1:=fun e=>h4 ⟨e,rfl⟩;show Xe.J 0 _ (ints ((if 0<k then eE T.ex (k-1) _ else T.ex) k'))=Xe.J 0 _ (ints ((if 0<k then eE T.ex (k-1) _ else T.ex) k'));rw[SU hk0,SU hk0,jk this,jk this]
   |4,_,_=>rfl
   |5,_,_=>rfl
  ·rw[<- hD];have:=hS.nc.len;rw[<- hD]at this;exact zo this
 ·have hk0i:¬(0:Int)<k:=O
  have hk00:k=0:=O
  refine W.sq ?_;simp only[go_sem,m1,hk0i];refine W.cond (t:=false) rfl ?_;have hb2':=hb2 hk00 c O;have etc:gK D T k (c+1) tot=gK D T k c tot+bc:=by
   unfold gK;rw[SQ hk0,SQ hk0,eZ,hbc];omega
  have hb3':gK D T k (c+1) tot=tot+(SS (c+1) fun c=>(bY D T k).getD c 0):=by unfold gK;rw[SQ hk0]
  rw[<- hb3',etc]at hb2';have w6:=SN (gK D T k c tot+bc) O;refine W.dr 11 [0,1,3,7,0,16,48,112,0,496,1008] mixed ?_;simp only[go_sem,m0,m4,m5,ls4,l04,l44,gbc,hb,w6];refine W.vs ?_;simp only[go_sem,m18,wc];obtain⟨H5,hH5⟩:∃H5,H5=H4.upd s (.J 0 130 [.lit (.int .i64 d.Y),.M d.C.length (aE d.C),.lit (.int .u64 (d.U:Int)),.M d.V.length (aZ d.V),lvh,ah (df d),ah (c7 d),.lit (.int .i64 (gK D T k c tot+bc))]):=⟨_,rfl⟩
  have hbl:H5.A=H.A:=by rw[hH5,aF];exact n4
  have hTT:ox D T k c=ir D T k (c+1):=by
   unfold ox ir;rw[SQ hk0,SQ hk0]
  have hS5:Xi d r lo s lvh I (ir D T k (c+1)) (gK D T k (c+1) tot) H5:=by
   rw[hH5,<- hTT,etc];exact hTm.DB
  have hO5:jO r s I H H5:=fun i h1 h2=>by rw[hH5,ag,SQ h1];exact o4 i h1 h2
  have key:H.A<=H5.A/\(∃c_1:Nat,W9.lit (.int .i64 ((c:Int)+1))=W9.lit (.int .i64 (c_1:Int))/\c_1<=D.cs k/\H5.A=H.A/\jO r s I H H5/\Xi d r lo s lvh I (ir D T k c_1) (gK D T k c_1 tot) H5)/\D.cs k-((c:Int)+1).toNat<D.cs k-(iv (ρ 18)).toNat :=
   ⟨O,⟨c+1,rfl,O,hbl,hO5,hS5⟩,by rw[h18];simp only[aa,bj];omega⟩
  rw[hH5]at key;exact key
def gY (d:Xa)(c:Nat->Nat->Int)(v0 r:Nat)(x:Int)(k:Nat):Int :=
 SS k fun w=>if iU d c v0 (wv d w)=true/\cQ d.C v0 (wv d w)=r/\(wv d w).getD v0 0=x then cB d (wv d w) else 0
def ku (d:Xa)(c:Nat->Nat->Int)(v0 r k:Nat):List Int:=(List.range (cO d v0)).map fun (x:Nat)=>gY d c v0 r (x:Int) k
def fG (d:Xa)(c:Nat->Nat->Int)(v0 k:Nat):List (List Int):=(List.range (b9 d v0)).map fun r=>ku d c v0 r k
def v7 (d:Xa)(c:Nat->Nat->Int)(v0 r k:Nat):(ku d c v0 r k).length=cO d v0:=by simp[ku]
def tu (d:Xa)(c:Nat->Nat->Int)(v0 k:Nat):(fG d c v0 k).length=b9 d v0:=by simp[fG]
def zz (h:r<b9 d v0):(fG d c v0 k)[r]?=some (ku d c v0 r k):=by unfold fG;rw[List.getElem?_map,Th h];rfl
def zA {x:Nat}(h:x<cO d v0):(ku d c v0 r k)[x]?=some (gY d c v0 r (x:Int) k):=by unfold ku;rw[List.getElem?_map,Th h];rfl
def Rq (d:Xa)(c:Nat->Nat->Int)(v0 r:Nat):ku d c v0 r 0=List.replicate (cO d v0) 0:=by
 unfold ku gY;simp only[mE];rw[Wm,TU]
def Ed (d:Xa)(c:Nat->Nat->Int)(v0:Nat):fG d c v0 0=List.replicate (b9 d v0) (List.replicate (cO d v0) 0):=by
 unfold fG;simp only[Rq];rw[Wm,TU]
def Rr (h:iU d c v0 (wv d k)=false):fG d c v0 (k+1)=fG d c v0 k:=by
 unfold fG ku gY;simp only[eZ,h];simp
def Rs {x:Nat}(h:iU d c v0 (wv d k)=true)(hr:cQ d.C v0 (wv d k)=r)(hx:(wv d k).getD v0 0=(x:Int))(hrn:r<b9 d v0)(hxn:x<cO d v0):
  fG d c v0 (k+1)=(fG d c v0 k).set r ((ku d c v0 r k).set x (gY d c v0 r (x:Int) k+cB d (wv d k))):=by
 apply Ts;intro i;rw[Ug,tu];by_cases hi:i<b9 d v0
 ·rw[zz hi,zz hi];by_cases hri:r=i
  ·subst hri;rw[SU rfl,SU hi];congr 1;apply Ts;intro j;rw[Ug,v7];by_cases hj:j<cO d v0
   ·rw[zA hj,zA hj];by_cases hxj:x=j
    ·subst hxj;rw[SU rfl,SU hj];unfold gY;rw[eZ,SU ⟨h,hr,hx⟩]
    ·rw[SQ hxj];unfold gY;rw[eZ,SQ fun e=>hxj (by have:=e.2.2;rw[hx]at this;exact Int.ofNat.inj this)];simp
   ·rw[SX (by rw[v7];omega),SX (by rw[v7];omega),SQ O]
    try (split<;>rfl)
  ·rw[SQ hri];congr 1;unfold ku;refine Tf fun j _=>?_;unfold gY;rw[eZ,SQ fun e=>hri (by rw[<- hr];exact e.2.1)];simp
 ·rw[SX (by rw[tu];omega),SX (by rw[tu];omega),SQ O]
  try (split<;>rfl)
def wh (hok:Xf d)(h6:d.C.length<=6){vals:List Int}(hf:bI (aj d.C) vals):-18662400000000<=cB d vals/\cB d vals<=18662400000000:=by
 have hb:∀w∈iN d vals,0<=w/\w<=60:=fun w hw=>by
  obtain⟨v,hv,rfl⟩:=S4.1 hw;exact D9 hok hf (S7.1 hv)
 have h1:=nU (b:=60) O hb;have h2:=Cj (iN d vals).length (by rw[vY];omega);have h3:0<=cr d vals/\cr d vals<=46656000000:=⟨h1.1,VL h1.2 h2⟩
 have h4:=zy hok.V.2 hok.V.1 vals;unfold cB;generalize cr d vals=w at *
 generalize bB d.C d.V vals=u at *
 constructor
 ·have h1:w*(-400)<=w*u:=Tm h4.1 h3.1;omega
 ·have h1:w*u<=w*400:=Tm h4.2 h3.1;omega
def Rt (hok:Xf d)(h6:d.C.length<=6)(c:Nat->Nat->Int)(v0 r:Nat)(x:Int)(k:Nat):-(18662400000000*k:Int)<=gY d c v0 r x k/\gY d c v0 r x k<=18662400000000*k:=by
 induction k with
 |zero=>simp[gY,mE]
 |succ k ih =>
  have e:gY d c v0 r x (k+1)=gY d c v0 r x k+(if iU d c v0 (wv d k)=true/\cQ d.C v0 (wv d k)=r/\(wv d k).getD v0 0=x then cB d (wv d k) else 0):=by unfold gY;rw[eZ]
  rw[e];have:=wh hok h6 (iF hok k)
  push_cast
  split<;>omega
def Ru (hok:Xf d):bD d.C<=1024:=by
 have:=(yD hok.nu).1
 rwa [vD]at this
def wo (d:Xa):List W9:=[.lit (.int .i64 d.Y),.M d.C.length (aE d.C),.lit (.int .u64 (d.U:Int)),.M d.V.length (aZ d.V),.lit (.slice none 0 0),ah (df d),ah (c7 d),.lit (.int .i64 0)]
structure ExH (d:Xa)(p:List (List Int))(v0 db eb pb rb sb so:Nat)(rv:W9)(H:Xn):Prop where
 hd:H.get db=some (kg d)
 he:H.get eb=some (.J 0 3 [.lit (.int .i64 v0)])
 hp:H.get pb=some (.J 0 33 [aO p])
 hr:H.get rb=some (.J 0 33 [rv])
 hs:H.get sb=some (.J 0 110 [.R so 0 0])
 hso:H.get so=some (.J 0 130 (wo d))
def ExH.nb {p:List (List Int)}{db eb pb rb sb so:Nat}{rv:W9}{H':Xn}(h:ExH d p v0 db eb pb rb sb so rv H)(hk:∀id,id=db\/id=eb\/id=pb\/id=rb\/id=sb\/id=so->H'.get id=H.get id):ExH d p v0 db eb pb rb sb so rv H' :=
 ⟨(hk _ W5).trans h.hd,(hk _ W5).trans h.he,(hk _ W5).trans h.hp,(hk _ W5).trans h.hr,(hk _ W5).trans h.hs,(hk _ W5).trans h.hso⟩
def ri (hok:Xf d){v:Nat}{x:Xl}(hx:d.C[v]?=some x):(bM d.C x:Int)=aA (aV d.C x)/\cw x.F d.C.length/\fR x.F d.C.length/\dR (aV d.C x):=by
 have hxp:cw x.F d.C.length:=by
  have:=(hok.nu.node _ (an (ki (c:=fun _ _=>0) hx))).2;rw[(jx ..).2,iJ]at this;exact this
 have ps:=mf hok.n.n1.2 hxp hok.n.L;exact⟨by have:=ps.prod;unfold bM;omega,hxp,fun q hq=>by have:=hxp.2 q hq;omega,ps⟩
def Rv (d:Xa)(hok:Xf d)(hf:Xv d)(h6:d.C.length<=6)(p:List (List Int))(hp:Xo d p)(v0:Nat)(hv0:v0∈aK d)(k:Nat)(hk:k<bD d.C)(db eb pb rb sb so N n lo:Nat)(rv:W9)(ids:List Nat)
  (H:Xn) (hE:ExH d p v0 db eb pb rb sb so rv H) (hM:Xr lo H 46 3 rv ids ((fG d (fixC p) v0 k).map ints)) (hg:H.get N=some (.J 0 3 (ints (wv d k)))) (hN:N<H.A) (hn:n=d.C.length)
  (K:Xd->Xn->Prop) (hK:∀H',H'.A=H.A->(∀id,id ∉ ids->H'.get id=H.get id)->Xr lo H' 46 3 rv ids ((fG d (fixC p) v0 (k+1)).map ints)->K (.ret (.na [])) H'):
  ae prog G0 68 [aa k,.Q N 0 0 n 1,.R db 0 0,.R eb 0 0,.R pb 0 0,.R rb 0 0,.R sb 0 0] H K:=by
 subst hn;obtain⟨vals,hvals⟩:∃vals,vals=wv d k:=⟨_,rfl⟩
 rw[<- hvals]at hg;have hfit:bI (aj d.C) vals:=by rw[hvals];exact iF hok k
 have hvl:vals.length=d.C.length:=by rw[hfit.1,cZ]
 have n8:=hok.n.n1.2;have hD:=hf.U;obtain⟨v01,v02⟩:=gS.1 hv0;have ld:=af hE.hd;have le:=af hE.he;have lp:=af hE.hp;have lr:=af hE.hr;have ls:=af hE.hs;have lso:=af hE.hso;have lN:=af hg;unfold cu at ld;unfold wo at lso;have hpl:p.length<=d.C.length:=by rw[hp.len];exact nZ
 refine ae.st (n:=70) (rs:=[]) func68 ?_;simp only[go_sem,ld];refine W.aP 140737488340480 (by rfl) (fun ρ H'=>H'=H/\∃v:Nat,ρ 14=aa v/\v<=d.C.length/\ρ 9=aa (bd d.U v)/\∀u,u<v->d.U.testBit u=true->u=v0\/jX d (fixC p) vals u=true) (fun ρ H=>d.C.length-(iv (ρ 14)).toNat) ?_ ?_
 ·simp only[go_sem];exact⟨0,rfl,O,rfl,fun u hu=>absurd hu (Tb _)⟩
 rintro ρ H' ⟨rfl,v,h14,hv,h9,hag⟩;refine W.vs ?_;by_cases hb:(v:Int)<d.C.length
 ·obtain⟨x,hx⟩:=aq (l:=d.C) (i:=v) O;have s1:=fun t x y=>mi (P:=prog) (t:=t) (x:=x) (y:=y) (k':=.i64) (s:=v) hD;have s2:=fun t x y=>nj (P:=prog) (t:=t) (x:=x) (y:=y) (s:=v) hD;have w1:=SN ((v:Int)+1) O;have hpv:bd d.U v<=v:=by
   have:(eY d.U v).length<=v:=nZ;exact this
  have w2:=SN ((bd d.U v:Int)+1) O;cases hbit:d.U.testBit v
  ·simp only[go_sem,h14,hb,ld,s1,s2,hbit,w1];exact⟨⟨v+1,W5,O,by rw[pe,hbit];exact h9,fun u hu hub=>by
    by_cases huv:u=v
    ·subst huv;rw[hbit]at hub;cases hub
    ·exact hag u O hub⟩,O⟩
  by_cases hvv:v=v0
  ·subst hvv;simp only[go_sem,h14,hb,ld,s1,s2,hbit];refine W.dr 19 [0,0,3,7,15,15,63,127,15,271,15,15,3855,8191,16383,15,15,98319,229391] mixed ?_;simp only[go_sem,h14,h9,le,w1,w2];exact⟨⟨v+1,W5,O,by rw[pe,hbit];simp,fun u hu hub=>by
    by_cases huv:u=v
    ·exact .inl huv
    ·exact hag u O hub⟩,O⟩
  have hvv2:¬(v:Int)=v0:=O
  obtain⟨hrn,hxp,hin,ps⟩:=ri hok hx;obtain⟨r1,r2⟩:=mF hok hx hfit;have hvm:v∈aK d:=gS.2 ⟨O,hbit⟩;have hplt:=yu hp hvm;obtain⟨l,hl⟩:=aq hplt;obtain⟨ll,lr'⟩:=hp.row _ v x l (qT hx hbit) hx hl;obtain⟨a,ha⟩:=aq (l:=l) (i:=cQ d.C v vals) O;obtain⟨b,hbv⟩:=aq (l:=vals) (i:=v) O;have hca:fixC p (bd d.U v) (cQ d.C v vals)=a:=by unfold fixC;rw[bq hl,bq ha]
  have hpc:bp prog G0 (.Z 69 [] []) [.M d.C.length (aE d.C),.lit (.int .i64 v),.Q N 0 0 d.C.length 1] H' (.lit (.int .i64 (cQ d.C v vals))) [N]:=by
   have:=sT d.C v x vals hx hin ps hfit H' N d.C.length hN hg hvl.symm;rw[<- r1]at this;exact this
  have gl:(p.map fun r=>W9.M r.length (ints r))[bd d.U v]?=some (.M l.length (ints l)):=by rw[List.getElem?_map,hl];rfl
  have gne:=aM hl;have hpi:(bd d.U v:Int)<p.length:=O
  have hlne:=aM ha;have hli:(cQ d.C v vals:Int)<l.length:=by have:=aI ha;omega
  have hvne:=aM hbv;have hvi:(v:Int)<vals.length:=O
  have hagN:jX d (fixC p) vals v=decide (a=b):=by unfold jX;rw[hca,bq hbv]
  simp only[go_sem,h14,hb,ld,s1,s2,hbit];refine W.dr 19 [0,0,3,7,15,15,63,127,15,271,15,15,3855,8191,16383,15,15,98319,229391] mixed ?_;simp only[go_sem,h9,ld,le,lp,hvv2,aO,hl,gne,hpi];refine⟨.lit (.int .i64 (cQ d.C v vals)),[N],hpc,?_⟩;have hvn:(v:Int)<d.C.length:=hb;by_cases hab:a=b
  ·subst hab;simp only[go_sem,h14,h9,lN,ha,hlne,hli,hbv,hvn,w1,w2];exact⟨⟨v+1,W5,O,by rw[pe,hbit];simp,fun u hu hub=>by
    by_cases huv:u=v
    ·subst huv;exact .inr (by rw[hagN];simp)
    ·exact hag u O hub⟩,O⟩
  ·simp only[go_sem,lN,ha,hlne,hli,hbv,hvn,hab];have hno:iU d (fixC p) v0 (wv d k)=false:=by
    rw[<- hvals];unfold iU;rw[List.all_eq_false];exact⟨v,hvm,by rw[hagN];simp[hvv,hab]⟩
   exact ar.mk W8 (hK H' rfl (fun _ _=>rfl) (by rw[Rr hno];exact hM))
 ·have hyes:iU d (fixC p) v0 (wv d k)=true:=by
   rw[<- hvals];unfold iU;rw[Tn];intro u hu;obtain⟨u1,u2⟩:=gS.1 hu;rcases hag u O u2 with h|h
   ·simp[h]
   ·simp[h]
  obtain⟨x,hx⟩:=aq v01;have hxc:=hok.n.L x (an hx);obtain⟨nr,nc⟩:=ji hx O;obtain⟨hrn,hxp,hin,ps⟩:=ri hok hx;obtain⟨r1,r2⟩:=mF hok hx hfit;obtain⟨b,hbv⟩:=aq (l:=vals) (i:=v0) O;have hbr:=hfit.2 v0 x.L b (cC hx) hbv;obtain⟨xb,rfl⟩:=S5 hbr.1;obtain⟨r,hr⟩:∃r,r=cQ d.C v0 vals:=⟨_,rfl⟩
  rw[<- hr]at r1 r2;have hrn2:r<b9 d v0:=O
  have hxn:xb<cO d v0:=O
  have hpc:bp prog G0 (.Z 69 [] []) [.M d.C.length (aE d.C),.lit (.int .i64 v0),.Q N 0 0 d.C.length 1] H' (.lit (.int .i64 r)) [N]:=by
   have:=sT d.C v0 x vals hx hin ps hfit H' N d.C.length hN hg hvl.symm;rw[<- r1]at this;exact this
  obtain⟨nr,htab⟩:∃t,t=fG d (fixC p) v0 k:=⟨_,rfl⟩
  obtain⟨row,hrow⟩:∃t,t=ku d (fixC p) v0 r k:=⟨_,rfl⟩
  have htl:nr.length=b9 d v0:=by rw[htab];exact tu ..
  have hrl:row.length=cO d v0:=by rw[hrow];exact v7 ..
  have htr:nr[r]?=some row:=by rw[htab,hrow];exact zz hrn2
  have hrx:row[xb]?=some (gY d (fixC p) v0 r (xb:Int) k):=by rw[hrow];exact zA hxn
  rw[<- htab]at hM;have ht0:nr≠[]:=fun h=>by rw[h]at htr;simp at htr
  obtain⟨tb,tg,tb1,tb2,hrv,hgt,htn⟩:=hM.El (by simpa using ht0);have htn:=htn W6;rw[S8]at hrv;obtain⟨id,hid⟩:=aq (l:=ids) (i:=r) (by rw[hM.len,S8];omega);have hmr:(nr.map ints)[r]?=some (ints row):=by rw[List.getElem?_map,htr];rfl
  have hgid:=hM.row r id _ hid hmr;obtain⟨hs,hhs⟩:∃hs,hs=List.zipWith (fun i n=>W9.Q i 0 0 n 1) ids ((nr.map ints).map List.length):=⟨_,rfl⟩
  rw[<- hhs]at hgt;have hhk:hs[r]?=some (.Q id 0 0 (cO d v0) 1):=by
   rw[hhs,WG,hid,List.getElem?_map,hmr];show some (W9.Q id 0 0 (ints row).length 1)=_;rw[aS,hrl]
  have hhn:=aM hhk;have lt:=af hgt;have lid:=af hgid;have bk:=Rt hok h6 (fixC p) v0 r (xb:Int) k;have bg:=wh hok h6 hfit;have bw:=Ru hok;have w1:=SN (gY d (fixC p) v0 r (xb:Int) k+cB d vals) O;have hgk:(c7 d)[k]?=some (cB d vals):=by rw[hvals];exact vZ hk
  have hgn:=aM hgk;have hkl:(k:Int)<(c7 d).length:=by rw[zx];omega
  have hrt:(r:Int)<nr.length:=O
  have hxr:(xb:Int)<cO d v0:=O
  have hrxn:=aM hrx;have hvne:=aM hbv;have hvi:(v0:Int)<vals.length:=O
  have hvn:(v0:Int)<d.C.length:=O
  have hset:setAt (ints row) xb [.lit (.int .i64 (gY d (fixC p) v0 r (xb:Int) k+cB d vals))]=ints (row.set xb (gY d (fixC p) v0 r (xb:Int) k+cB d vals)):=gU O;simp only[go_sem,h14,hb];refine W.en (fun E=>E 0=aa k /\ E 1=.Q N 0 0 d.C.length 1 /\ E 2=.R db 0 0 /\ E 3=.R eb 0 0 /\ E 5=.R rb 0 0 /\ E 6=.R sb 0 0) (by simp only[go_sem]) fun E ⟨e0,e1,e2,e3,e5,e6⟩=>?_
  refine W.vs ?_;simp only[go_sem];refine W.dr 21 [0,0,2,0,0,30,63,127,0,0,768,1792,4095,8191,0,16384,49152,114688,0,507904,1032192] mixed ?_;simp only[go_sem,e1,e2,e3,e5,ld,le,lr];refine⟨.lit (.int .i64 r),[N],hpc,?_⟩;rw[hrv]at lr;simp only[go_sem,e0,e1,e2,e3,e5,e6,le,ls,lso,lN,hrv,lt,hrt,hhk,lid,hbv,hvn,hrx,hxr,hgk,hgn,hkl,w1,hset];have hy:=Rs (r:=r) (x:=xb) hyes (by rw[<- hvals,hr]) (by rw[<- hvals];exact bq hbv) hrn2 hxn;rw[<- hvals,<- htab,<- hrow]at hy;refine⟨O,ar.mk (by rw[aF];exact Nat.le_refl _) (hK _ rfl (fun i hi=>by rw[ag,SQ];rintro rfl;exact hi (an hid)) ?_)⟩;rw[hy,Vo];exact hM.store W6 hid hmr (by rw[aS,aS,Tl])
def fj (w a k:Nat):Nat:=if k<a then w+1 else w
def jm (D:Xg)(be ch:Nat->List Int)(w a b c:Nat):Xj:=⟨fun k=>cI D k (fj w a k),fun k=>dQ D k (fj w b k),fun k=>bA D k (fj w c k),be,ch⟩
def iL (D:Xg)(be ch:Nat->List Int)(w:Nat):Xj:=⟨fun k=>cI D k w,fun k=>dQ D k w,fun k=>bA D k w,be,ch⟩
def ti (h:k<a):fj w a k=w+1:=SU h
def vR (h:a<=k):fj w a k=w:=SQ (O)
def vS (h:k≠a):fj w (a+1) k=fj w a k:=by unfold fj;split<;>split<;>omega
def vT (n:Nat)(T T':Xj):Prop:=∀k j,k<n->de T k j=de T' k j
def Xi.same {r:List Nat}{lo s:Nat}{T':Xj}(h:Xi d r lo s lvh I T tot H)(ht:vT r.length T T')(hl:T'.Len (ao d r) r.length):Xi d r lo s lvh I T' tot H :=
 ⟨h.top,h.nz,h.lv,h.sep,h.nE,⟨h.nc.inj,h.nc.ng,h.nc.nw,fun k j h1 h2 h3=>by rw[<- ht k j h1];exact h.nc.nr k j h1 h2 h3,hl⟩⟩
def vU (hb:∀k,k<n->(be k).length=D.cs k)(hc:∀k,k<n->(ch k).length=D.cs k)(w a b c:Nat):(jm D be ch w a b c).Len D n :=
 ⟨fun k _=>oo D k _,fun k _=>px D k _,fun k _=>mb D k _,hb,hc⟩
def DW (hb:∀k,k<n->(be k).length=D.cs k)(hc:∀k,k<n->(ch k).length=D.cs k)(w:Nat):(iL D be ch w).Len D n :=
 ⟨fun k _=>oo D k _,fun k _=>px D k _,fun k _=>mb D k _,hb,hc⟩
def Ra (w n:Nat):vT n (jm D be ch w n n n) (iL D be ch (w+1)):=fun k j hk=>by
 have e:fj w n k=w+1:=ti hk;unfold de jm iL;simp only[e]
def eK (d:Xa)(r:List Nat)(w:Nat):Int:=if r.length=0 then SS w (ao d r).nk else 0
def Rb (hok:Xf d){r:List Nat}(hr:Xu d r)(hrl:r.length<=64){lo s:Nat}(hw:w<bD d.C)
  (hsz:∀k,k<r.length->(ao d r).cs k*(ao d r).cd k<2 ^ 40) (hcs:∀k,k<r.length->(ao d r).cs k<2 ^ 40)
  (hbd:∀(k b:Nat),k+1=r.length->∀n,n<=bD d.C->-4000000000000000000<=(bA (ao d r) k n).getD b 0/\(bA (ao d r) k n).getD b 0<=4000000000000000000) (hbt:∀n,n<=bD d.C->-4000000000000000000<=SS n (ao d r).nk/\SS n (ao d r).nk<=4000000000000000000)
  (hbg:-4000000000000000000<=cB d (wv d w)/\cB d (wv d w)<=4000000000000000000)
  (N:Nat) (H:Xn) (hS:Xi d r lo s lvh I (iL (ao d r) be ch w) (eK d r w) H) (hN:N<H.A) (hNs:N≠s/\∀k j,k<r.length->j<6->N≠I k j) (hNg:H.get N=some (.J 0 3 (ints (wv d w)))) (n:Nat) (hn:n=d.C.length)
  (K:Xd->Xn->Prop) (hK:∀H',H'.A=H.A->jO r s I H H'->Xi d r lo s lvh I (iL (ao d r) be ch (w+1)) (eK d r (w+1)) H'->K (.ret (.na [])) H'):
  ae prog G0 105 [.R s 0 0,aa w,.Q N 0 0 n 1] H K:=by
 subst hn;obtain⟨D,hD⟩:∃D,D=ao d r:=⟨_,rfl⟩
 obtain⟨vals,hvals⟩:∃vals,vals=wv d w:=⟨_,rfl⟩
 rw[<- hvals]at hNg hbg;have hfit:bI (aj d.C) vals:=by rw[hvals];exact iF hok w
 have hvl:vals.length=d.C.length:=by rw[hfit.1,cZ]
 have n8:=hok.n.n1.2;have hDo:=qM hok hr.mem;rw[<- hD]at hsz hcs hbd hbt hS hK hDo;have hlb:=hS.nc.len.be;have hlc:=hS.nc.len.ch;rw[<- hD]at hlb hlc;have hpl:=jK I r.length;have lso:=af hS.top;have hll:iC H lvh=some (aa r.length):=by
  rcases hS.lv with ⟨h1,h2⟩|⟨id,g,_,_,h1,h2⟩
  ·have:r.length=0:=(by rw[<- hpl,h2];rfl);rw[h1,this];rfl
  ·rw[h1];unfold iC;simp[af h2,hpl,aa]
 refine ae.sw (n:=120) (rs:=[]) func105 ?_;refine W.sq ?_;simp only[go_sem];refine W.sq ?_;simp only[go_sem,lso,hll];refine W.en (fun E=>E 0=.R s 0 0 /\ E 1=aa w /\ E 2=.Q N 0 0 d.C.length 1 /\ E 6=aa 0 /\ E 13=lvh /\ E 14=aa r.length /\ E 15=aa 0) (by simp only[go_sem]) fun E ⟨e0,e1,e2,e6,e13,e14,e15⟩=>?_
 refine W.aP 1267650600228229401496703173568 (by rfl) (fun ρ Hx=>∃k:Nat,ρ 15=aa k/\k<=r.length/\ρ 6=aa (jj D k w)/\Hx.A=H.A/\jO r s I H Hx/\Xi d r lo s lvh I (jm D be ch w k k k) (eK d r w) Hx) (fun ρ Hx=>r.length-(iv (ρ 15)).toNat) ?_ ?_
 ·simp only[go_sem,e15,e6];exact⟨0,rfl,O,rfl,fun _ _ _=>rfl,hS⟩
 rintro ρ Hx ⟨k,h15,hk,h6,nx,hout,hSx⟩;refine W.en (fun E1=>E1 0=.R s 0 0 /\ E1 1=aa w /\ E1 2=.Q N 0 0 d.C.length 1 /\ E1 6=aa (jj D k w) /\ E1 13=lvh /\ E1 14=aa r.length /\ E1 15=aa k) (by simp only[go_sem,e0,e1,e2,h6,e13,e14,h15]) fun E1 ⟨f0,f1,f2,f6,f13,f14,f15⟩=>?_
 by_cases hb:(k:Int)<r.length;rotate_left
 ·refine W.vs ?_;simp only[go_sem,f14,f15,hb];have hkr:k=r.length:=O
  rw[hkr]at hSx;have hS2:Xi d r lo s lvh I (iL D be ch (w+1)) (eK d r w) Hx:=hSx.same (Ra w r.length) (by rw[<- hD];exact DW hlb hlc _);have ls2:=af hS2.top;have hll2:iC Hx lvh=some (aa r.length):=by
   rcases hS2.lv with ⟨h1,h2⟩|⟨id,g,_,_,h1,h2⟩
   ·have:r.length=0:=(by rw[<- hpl,h2];rfl);rw[h1,this];rfl
   ·rw[h1];unfold iC;simp[af h2,hpl,aa]
  have ggl:(c7 d)[w]?=some (cB d (wv d w)):=vZ hw;have gg:(ints (c7 d))[w]?=some (aa (cB d (wv d w))):=by rw[eG,ggl];rfl
  have ggn:=aM gg;have ggi:(w:Int)<(c7 d).length:=by have:=aI ggl;omega
  by_cases hr0:(r.length:Int)=0
  ·have hr00:r.length=0:=O;refine W.sq ?_;simp only[go_sem,f0,ls2,hll2,hr0];refine W.cond (t:=true) rfl ?_;have et:eK d r (w+1)=eK d r w+cB d (wv d w):=by
    unfold eK;rw[SU hr00,SU hr00,eZ];rfl
   have hbt':=hbt (w+1) O;have et2:eK d r (w+1)=SS (w+1) D.nk:=(by unfold eK;rw[SU hr00,hD]);rw[<- et2,et]at hbt';have w6:=SN (eK d r w+cB d (wv d w)) O;refine W.dr 11 [0,1,3,7,0,16,48,112,0,496,1008] mixed ?_;simp only[go_sem,f0,f1,ls2,gg,ggn,ggi,w6];refine ar.mk (by rw[aF];omega) (hK _ (by rw[aF];exact nx) (fun i h1 h2=>by rw[ag,SQ h1];exact hout i h1 h2) ?_);rw[et];exact hS2.DB
  ·have hr00:¬r.length=0:=O;refine W.sq ?_;simp only[go_sem,f0,ls2,hll2,hr0];refine W.cond (t:=false) rfl ?_;have et:eK d r (w+1)=eK d r w:=(by unfold eK;rw[SQ hr00,SQ hr00]);refine W.vs ?_;simp only[go_sem];refine ar.mk O (hK Hx nx hout ?_);rw[et];exact hS2
 have hk2:k<r.length:=O
 refine W.sq ?_;simp only[go_sem,f14,f15,hb];refine W.sq ?_;simp only[go_sem];refine W.seq (W.block ?_);obtain⟨il,gl,hlv,glv,_,_⟩:=hSx.vM hk2;have llv:=af glv;have hpk:=sX (I:=I) hk2;have hpn:=aM hpk;refine W.sq ?_;simp only[go_sem,f13,f15,hlv,llv,hpk,hb];obtain⟨v,hv⟩:=aq hk2;have hvd:r.getD k 0=v:=fQ hv;have hm:=hr.mem v (an hv);obtain⟨x,hx⟩:=aq (dS.1 hm).1;obtain⟨hrn,hxp,hin,ps⟩:=ri hok hx;obtain⟨r1,r2⟩:=mF hok hx hfit;have hxc:=hok.n.L x (an hx);obtain⟨e1',e2'⟩:=ji hx O;have ecs:D.cs k=bM d.C x:=by rw[hD];show b9 d (r.getD k 0)=_;rw[hvd];exact e1'
 have ecd:(D.cd k:Int)=x.L:=by rw[hD];show (cO d (r.getD k 0):Int)=_;rw[hvd];exact e2'
 obtain⟨c,hc⟩:∃c,c=D.nj k w:=⟨_,rfl⟩
 have hcr:c=cQ d.C v vals:=by rw[hc,hD,hvals];show cQ d.C (r.getD k 0) (wv d w)=_;rw[hvd]
 obtain⟨y,hy⟩:∃y,y=D.nB k w:=⟨_,rfl⟩
 have hcl:c<D.cs k:=by rw[hc];exact hDo.nj k w (by rw[hD];exact hk2) (by rw[hD];exact hw)
 have hyl:y<D.cd k:=by rw[hy];exact hDo.nB k w (by rw[hD];exact hk2) (by rw[hD];exact hw)
 obtain⟨yv,hyv⟩:=aq (l:=vals) (i:=v) (by rw[hvl];exact(dS.1 hm).1);have hyf:=hfit.2 v _ yv (cC hx) hyv;have hyy:yv=(y:Int):=by
  have:y=(vals.getD v 0).toNat:=by rw[hy,hD,hvals];show ((wv d w).getD (r.getD k 0) 0).toNat=_;rw[hvd]
  rw[gW hyv]at this;omega
 have hgN:Hx.get N=some (.J 0 3 (ints vals)):=(hout N hNs.1 hNs.2).trans hNg;have hpc:bp prog G0 (.Z 69 [] []) [.M d.C.length (aE d.C),.lit (.int .i64 v),.Q N 0 0 d.C.length 1] Hx (.lit (.int .i64 (c:Int))) [N]:=by
  have:=sT d.C v x vals hx hin ps hfit Hx N d.C.length O hgN hvl.symm;rw[hcr,r1];exact this
 have lx:=af hSx.top;have l0:=af (hSx.nc.nw k hk2);rw[<- hD]at l0;simp only[gJ,hvd]at l0;refine W.seq ?_;refine W.dr 10 [0,1,3,7,15,0,32,96,224,0] mixed ?_;simp only[go_sem,f0,f2,lx,l0];refine az.mono (hpc.2 Hx (fun _ _=>rfl) W8) fun rr H3 hrr=>?_;obtain⟨rfl,rfl⟩:=hrr;refine⟨trivial,?_⟩;simp only[go_sem]
  -- np
 have hle1:=(oo D k w)
 have gab:=hSx.nc.nr k 1 hk2 O O;have lab:=af gab;have tab1:(jm D be ch w k k k).ab k=cI D k w:=by show cI D k (fj w k k)=_;rw[vR W8]
 simp only[de,tab1]at lab;have lla:(ints (cI D k w)).length=D.cs k:=by rw[aS];exact hle1
 have hci:(c:Int)<D.cs k:=O
 have e1s:setAt (ints (cI D k w)) c [.lit (.int .i64 (jj D k w:Nat))]=ints (cI D k (w+1)):=by
  rw[gU O];show _=ints ((cI D k w).set (D.nj k w) (jj D k w));rw[hc]
 refine W.en (fun E2=>E2 0=.R s 0 0 /\ E2 1=aa w /\ E2 2=.Q N 0 0 d.C.length 1 /\ E2 6=aa (jj D k w) /\ E2 7=aa k /\ E2 8=.R (I k 0) 0 0 /\ E2 9=aa c /\ E2 15=aa k) (by simp only[go_sem,f0,f1,f2,f6,f15]) fun E2 ⟨m0,m1,m2,m6,m7,m8,m9,m15⟩=>?_
 refine W.sq ?_;simp only[go_sem,m8,m9,m6,l0,lab,lla,hci,e1s];refine⟨O,?_⟩;obtain⟨H4,hH4⟩:∃H4,H4=H3.upd (I k 1) (.J 0 3 (ints (cI D k (w+1)))):=⟨_,rfl⟩
 rw[<- hH4];have hS4:Xi d r lo s lvh I (jm D be ch w (k+1) k k) (eK d r w) H4:=by
  have hb:de (jm D be ch w (k+1) k k) k 1=.J 0 3 (ints (cI D k (w+1))):=by show Xe.J 0 _ (ints (cI D k (fj w (k+1) k)))=_;rw[ti (Un k)]
  rw[hH4,<- hb];refine hSx.upd hk2 O O (fun k' j' h1 h2 h3 h4=>?_) (by rw[<- hD];exact vU hlb hlc _ _ _ _)
  match j',h2,h3 with
  |1,_,_ =>
   show Xe.J 0 _ (ints (cI D k' (fj w (k+1) k')))=Xe.J 0 _ (ints (cI D k' (fj w k k')));rw[vS fun e=>h4 ⟨e,rfl⟩]
  |2,_,_=>rfl
  |3,_,_=>rfl
  |4,_,_=>rfl
  |5,_,_=>rfl
 have n4:H4.A=H.A:=by rw[hH4,aF];exact nx
 have o4:jO r s I H H4:=fun i h1 h2=>by rw[hH4,ag,SQ (h2 k 1 hk2 O)];exact hout i h1 h2
 clear hH4 lab lx l0
  -- occurs
 have lx:=af hS4.top;have l0:=af (hS4.nc.nw k hk2);rw[<- hD]at l0;have loc:=af (hS4.nc.nr k 2 hk2 O O);have toc:(jm D be ch w (k+1) k k).oc k=dQ D k w:=by show dQ D k (fj w k k)=_;rw[vR W8]
 simp only[gJ,hvd]at l0;simp only[de,toc]at loc;have llo:(cK (dQ D k w)).length=D.cs k:=by rw[q9];exact px D k w
 obtain⟨o,ho⟩:=aq (l:=dQ D k w) (i:=c) (by rw[px];omega);have go:(cK (dQ D k w))[c]?=some (.lit (.bool o)):=by rw[vK,ho];rfl
 have gon:=aM go;have gwl:(df d)[w]?=some (cr d (wv d w)):=by unfold df;rw[List.getElem?_map,Th hw];rfl
 have gw:(ints (df d))[w]?=some (aa (cr d (wv d w))):=by rw[eG,gwl];rfl
 have gwn:=aM gw;have gwi:(w:Int)<(df d).length:=by have:=aI gwl;omega
 have hwt:D.wt w=cr d (wv d w):=by rw[hD];rfl
 have eos:∀b:Bool,b=(o ||decide (0<cr d (wv d w)))->setAt (cK (dQ D k w)) c [.lit (.bool b)]=cK (dQ D k (w+1)):=fun b hb2=>by
  rw[DA (by rw[px];omega)];show _=cK ((dQ D k w).set (D.nj k w) ((dQ D k w).getD (D.nj k w) false ||decide (0<D.wt w)));rw[<- hc,gW ho,hwt,hb2]
 obtain⟨H5,hH5⟩:∃H5,H5=H4.upd (I k 2) (.J 0 4 (cK (dQ D k (w+1)))):=⟨_,rfl⟩
 refine W.lO (fun s'=>s'.H=H5/\s'.ρ 0=.R s 0 0/\s'.ρ 1=aa w/\s'.ρ 2=.Q N 0 0 d.C.length 1/\s'.ρ 7=aa k/\s'.ρ 8=.R (I k 0) 0 0/\s'.ρ 9=aa c/\s'.ρ 15=aa k) ?_ ?_
 ·refine W.dr 22 [0,1,3,7,0,0,32,96,224,0,992,2016,4064,8160,16352,32736,65504,8160,262112,524256,1048544,2097120] mixed ?_;cases o with
  |true =>
   have eos':=eos true W5;simp only[go_sem,m0,m1,m2,m7,m8,m9,m15,l0,loc,llo,go,hci,eos'];exact⟨O,hH5.symm⟩
  |false =>
   by_cases hp:0<cr d (wv d w)
   ·have eos':=eos true (by simp[hp]);simp only[go_sem,m0,m1,m2,m7,m8,m9,m15,lx,l0,loc,llo,go,hci,gw,gwn,gwi,hp,eos'];exact⟨O,hH5.symm⟩
   ·have eos':=eos false (by simp[hp]);simp only[go_sem,m0,m1,m2,m7,m8,m9,m15,lx,l0,loc,llo,go,hci,gw,gwn,gwi,hp,eos'];exact⟨O,hH5.symm⟩
 rintro⟨ρ6,Hq⟩ ⟨hq,p0,p1,p2,p7,p8,p9,p15⟩;simp only at hq p0 p1 p2 p7 p8 p9 p15;subst hq;have hS5:Xi d r lo s lvh I (jm D be ch w (k+1) (k+1) k) (eK d r w) Hq:=by
  have hb:de (jm D be ch w (k+1) (k+1) k) k 2=.J 0 4 (cK (dQ D k (w+1))):=by show Xe.J 0 _ (cK (dQ D k (fj w (k+1) k)))=_;rw[ti (Un k)]
  rw[hH5,<- hb];refine hS4.upd hk2 O O (fun k' j' h1 h2 h3 h4=>?_) (by rw[<- hD];exact vU hlb hlc _ _ _ _)
  match j',h2,h3 with
  |1,_,_=>rfl
  |2,_,_ =>
   show Xe.J 0 _ (cK (dQ D k' (fj w (k+1) k')))=Xe.J 0 _ (cK (dQ D k' (fj w k k')));rw[vS fun e=>h4 ⟨e,rfl⟩]
  |3,_,_=>rfl
  |4,_,_=>rfl
  |5,_,_=>rfl
 have n5:Hq.A=H.A:=by rw[hH5,aF];exact n4
 have o5:jO r s I H Hq:=fun i h1 h2=>by rw[hH5,ag,SQ (h2 k 2 hk2 O)];exact o4 i h1 h2
 clear hH5 loc lx l0;have lx:=af hS5.top;have l0:=af (hS5.nc.nw k hk2);rw[<- hD]at l0;simp only[gJ,hvd]at l0;have lN:=af ((o5 N hNs.1 hNs.2).trans hNg);have gy:(ints vals)[v]?=some (aa y):=by rw[eG,hyv,hyy];rfl
 have gyn:=aM gy;have lln:(ints vals).length=d.C.length:=by rw[aS];exact hvl
 have hvi:(v:Int)<d.C.length:=by have:=(dS.1 hm).1;omega
 have hbr:c*D.cd k+y<D.cs k*D.cd k:=by
  have h3:(c+1)*D.cd k<=D.cs k*D.cd k:=Tr _ hcl;rw[TJ,UV]at h3;omega
 have hsz':=hsz k hk2;obtain⟨b,hbe⟩:∃b:Nat,b=c*D.cd k+y:=⟨_,rfl⟩
 have hbD:D.br k w=b:=by rw[hbe,hc,hy];rfl
 have eb1:(c:Int)*(D.cd k:Int)=((c*D.cd k:Nat):Int):=W5
 have eb2:((c*D.cd k:Nat):Int)+(y:Int)=(b:Int):=by rw[hbe];omega
 rw[<- hbe]at hbr;have w1:=SN ((c*D.cd k:Nat):Int) O;have w2:=SN (b:Int) O;refine W.seq ?_;refine W.dr 13 [0,0,2,6,14,31,0,0,128,384,896,1984,4032] mixed ?_;simp only[go_sem,p2,p8,p9,l0,lN,gy,hvi,eb1,w1,eb2,w2];refine W.en (fun E3=>E3 0=.R s 0 0 /\ E3 1=aa w /\ E3 6=aa b /\ E3 7=aa k /\ E3 8=.R (I k 0) 0 0 /\ E3 15=aa k) (by simp only[go_sem,p0,p1,p7,p8,p15]) fun E3 ⟨s0,s1,s6,s7,s8,s15⟩=>?_
 have hll5:iC Hq lvh=some (aa r.length):=by
  rcases hS5.lv with ⟨h1,h2⟩|⟨id,g,_,_,h1,h2⟩
  ·have:r.length=0:=(by rw[<- hpl,h2];rfl);rw[h1,this];rfl
  ·rw[h1];unfold iC;simp[af h2,hpl,aa]
 have wl:=SN ((r.length:Int)-1) O;have wk:=SN ((k:Int)+1) O;have hbrI:jj D (k+1) w=b:=by unfold jj;rw[SQ O,Uk];exact hbD
 by_cases hlast:(k:Int)=(r.length:Int)-1
 ·have hKl:k+1=D.K:=by rw[hD];show k+1=r.length;omega
  have hdec:(decide ((k:Int)=(r.length:Int)-1))=true:=Ty hlast;refine W.sq ?_;simp only[go_sem,s0,s7,lx,hll5,wl,hdec];refine W.cond (t:=true) rfl ?_;have lex:=af (hS5.nc.nr k 3 hk2 O O);have tex:(jm D be ch w (k+1) (k+1) k).ex k=bA D k w:=by show bA D k (fj w k k)=_;rw[vR W8]
  simp only[de,tex]at lex;have lle:(ints (bA D k w)).length=D.cs k*D.cd k:=by rw[aS];exact mb D k w
  obtain⟨ev,hev⟩:=aq (l:=bA D k w) (i:=b) (by rw[mb];exact hbr);have gev:(ints (bA D k w))[b]?=some (aa ev):=by rw[eG,hev];rfl
  have gevn:=aM gev;have ggl:(c7 d)[w]?=some (cB d vals):=by rw[hvals];exact vZ hw
  have gg:(ints (c7 d))[w]?=some (aa (cB d vals)):=by rw[eG,ggl];rfl
  have ggn:=aM gg;have ggi:(w:Int)<(c7 d).length:=by have:=aI ggl;omega
  have hbi:(b:Int)<(D.cs k*D.cd k:Nat):=O
  have hgw:D.nk w=cB d vals:=by rw[hD,hvals];rfl
  have hKr:k+1=r.length:=by rw[hD]at hKl;exact hKl
  have esucc:bA D k (w+1)=(bA D k w).set b (ev+cB d vals):=by
   show (if k+1=D.K then (bA D k w).set (D.br k w) ((bA D k w).getD (D.br k w) 0+D.nk w) else bA D k w)=_;rw[SU hKl,hbD,gW hev,hgw]
  have hbd':=hbd k b hKr w O;rw[gW hev]at hbd';have w6:=SN (ev+cB d vals) O;have ees:setAt (ints (bA D k w)) b [.lit (.int .i64 (ev+cB d vals))]=ints (bA D k (w+1)):=by rw[gU (by rw[mb];exact hbr),esucc]
  refine W.dr 14 [0,1,3,7,0,31,63,0,128,384,896,0,3968,8064] mixed ?_;simp only[go_sem,s0,s1,s6,s8,lx,l0,lex,lle,gev,gg,ggn,ggi,hbi,w6,ees];refine⟨O,?_⟩;refine W.vs ?_;simp only[go_sem,s15,s6,wk];rw[<- hlv];obtain⟨H6,hH6⟩:∃H6,H6=Hq.upd (I k 3) (.J 0 3 (ints (bA D k (w+1)))):=⟨_,rfl⟩
  rw[<- hH6];have n6:H6.A=H.A:=by rw[hH6,aF];exact n5
  refine⟨O,⟨k+1,rfl,O,by rw[hbrI],n6,fun i h1 h2=>by rw[hH6,ag,SQ (h2 k 3 hk2 O)];exact o5 i h1 h2,?_⟩,by rw[h15];simp only[aa,bj];omega⟩;have hb:de (jm D be ch w (k+1) (k+1) (k+1)) k 3=.J 0 3 (ints (bA D k (w+1))):=by show Xe.J 0 _ (ints (bA D k (fj w (k+1) k)))=_;rw[ti (Un k)]
  rw[hH6,<- hb];refine hS5.upd hk2 O O (fun k' j' h1 h2 h3 h4=>?_) (by rw[<- hD];exact vU hlb hlc _ _ _ _)
  match j',h2,h3 with
  |1,_,_=>rfl
  |2,_,_=>rfl
  |3,_,_ =>
   show Xe.J 0 _ (ints (bA D k' (fj w (k+1) k')))=Xe.J 0 _ (ints (bA D k' (fj w k k')));rw[vS fun e=>h4 ⟨e,rfl⟩]
  |4,_,_=>rfl
  |5,_,_=>rfl
 ·have hKl:k+1≠D.K:=by rw[hD];show k+1≠r.length;omega
  refine W.sq ?_;simp only[go_sem,s0,s7,lx,hll5,wl,hlast];refine W.cond (t:=false) rfl ?_;refine W.vs ?_;simp only[go_sem];refine W.vs ?_;simp only[go_sem,s15,s6,wk];rw[<- hlv];refine⟨O,⟨k+1,rfl,O,by rw[hbrI],n5,o5,hS5.same (fun k' j' h1=>?_) (by rw[<- hD];exact vU hlb hlc _ _ _ _)⟩,by rw[h15];simp only[aa,bj];omega⟩;by_cases e:k'=k
  ·subst e;have e0:bA D k' (fj w k' k')=bA D k' (fj w (k'+1) k'):=by
    rw[vR W8,ti (Un k')];show _=(if k'+1=D.K then _ else bA D k' w)
    rw[SQ hKl]
   unfold de jm;simp only[e0]
  ·unfold de jm;simp only[vS e]
end Go.Proofs
namespace Go.Hx
variable {P:Program}
variable {nn:List (List W9)}{ids:List Nat}{lo:Nat}{e0 e1:TypeId}{v:W9}{H:Xn}
def Xr.wq {n0:Nat}{H':Xn}(h:Xr lo H e1 e0 v ids nn)(hb:∀i∈ids,i<n0)(ht:∀i g n,v=.Q i g 0 n 1->i<n0)(hn:H.A<=H'.A)(hk:∀id,id<n0->H'.get id=H.get id):Xr lo H' e1 e0 v ids nn :=
 ⟨h.len,h.nd,fun i hi=>⟨(h.ng i hi).1,by have:=(h.ng i hi).2;omega⟩,h.top.nb W8 hn fun id g _ _ _ hv=>hk id (ht id g _ hv),fun k id r h1 h2=>by
  rw[hk id (hb id (an h1))];exact h.row k id r h1 h2⟩
def Xr.Rw (h:Xr lo H e1 e0 v ids nn):∀i g n,v=.Q i g 0 n 1->i<H.A:=fun i g n hv=>by
 rcases h.top with ⟨h1,_⟩|⟨j,g2,_,h2,h3,_⟩
 ·rw[h1]at hv;cases hv
 ·rw[h3]at hv;rw[<- (W9.Q.inj hv).1];exact h2
end Go.Hx
namespace Go.Proofs
open Go.Hx Tryz
variable {tot:Int}{r:List Nat}{i lo n:Nat}{I:Nat->Nat->Nat}{lvh:W9}{d:Xa}{T:Xj}{H:Xn}
def Rx (d:Xa)(hok:Xf d)(hf:Xv d)(h6:d.C.length<=6)(p:List (List Int))(hp:Xo d p)(v0:Nat)(hv0:v0∈aK d)(db eb pb rb sb so lo:Nat)(rv:W9)(ids:List Nat)
  (H:Xn) (hE:ExH d p v0 db eb pb rb sb so rv H) (hlt:db<H.A/\eb<H.A/\pb<H.A/\rb<H.A/\sb<H.A/\so<H.A) (hni:db ∉ ids/\eb ∉ ids/\pb ∉ ids/\rb ∉ ids/\sb ∉ ids/\so ∉ ids)
  (hM:Xr lo H 46 3 rv ids ((fG d (fixC p) v0 0).map ints))
  (K:Xd->Xn->Prop) (hK:∀H',H.A<=H'.A->(∀id,id<H.A->id ∉ ids->H'.get id=H.get id)->Xr lo H' 46 3 rv ids ((fG d (fixC p) v0 (bD d.C)).map ints)->K (.ret (.na [])) H'):
  ae prog G0 67 [.R so 0 0,.Z 68 [] [.R db 0 0,.R eb 0 0,.R pb 0 0,.R rb 0 0,.R sb 0 0]] H K:=by
 have n8:=hok.n.n1;have hcards:∀c∈aj d.C,1<=c/\c<=4:=fun c hc=>by
  obtain⟨x,hx,rfl⟩:=S4.1 hc;exact hok.n.L x hx
 have sm:dR (aj d.C):=mU (by rw[cZ];omega) hcards;obtain⟨hdl,hel,hpl,hrl,hsl,hsol⟩:=hlt;obtain⟨hdi,hei,hpi,hri,hsi,hsoi⟩:=hni;have hidl:∀i∈ids,i<H.A:=fun i hi=>(hM.ng i hi).2;have htl:=hM.Rw;have lso:=af hE.hso;unfold wo at lso;have lsoe:∀L,(ext H L).X so 0=_:=fun L=>(c9 hsol).trans lso;refine ae.st (n:=19) (rs:=[]) func67 ?_;simp only[go_sem,lsoe];refine az.Z (sV d.C O _ _ ⟨trivial,?_⟩);simp only[go_sem];refine az.Z (sR (aj d.C) _ _ ⟨trivial,?_⟩);simp only[go_sem];obtain⟨H2,hH2⟩:∃H2,H2=ext (ext H [.J 0 136 (W9.Z 68 [] [.R db 0 0,.R eb 0 0,.R pb 0 0,.R rb 0 0,.R sb 0 0]).cells]) [.J 0 46 [ah (aj d.C)]]:=⟨_,rfl⟩
 have n2:H2.A=H.A+2:=by rw[hH2];rfl
 have o2:Xb H H2:=by rw[hH2];exact(Xb.ext _ _).trans (.ext _ _)
 have g0:H2.get H.A=some (.J 0 136 [.Z 68 [] [.R db 0 0,.R eb 0 0,.R pb 0 0,.R rb 0 0,.R sb 0 0]]):=by rw[hH2,dD];exact bL H _ 0 (W5)
 have g1:H2.get (H.A+1)=some (.J 0 46 [ah (aj d.C)]):=by rw[hH2,dD];exact bL H _ 1 (W5)
 refine W.env fun E hE'=>?_;have e3:E 3=.R H.A 0 0:=by rw[hE'];simp only[go_sem]
 have e12:E 12=.Z 143 [] [.R (H.A+1) 0 0]:=by rw[hE'];rfl
 clear hE';show W _ _ _ _ _ _ ⟨E,ext (ext H [.J 0 136 (W9.Z 68 [] [.R db 0 0,.R eb 0 0,.R pb 0 0,.R rb 0 0,.R sb 0 0]).cells]) [.J 0 46 [ah (aj d.C)]]⟩;rw[<- hH2];have hit:=sQ (aj d.C) (fun c hc=>(hcards c hc).1) sm (H.A+1) (H2.A+1) O;have hni2:∀i,H.A<=i->i ∉ ids:=fun i hi hm=>by have:=hidl i hm;omega
 refine W.tz (f:=143) (first:=[]) (cap:=[.R (H.A+1) 0 0]) (by show E 12=_;exact e12) hit
  (fun k Hx=>H2.A<Hx.A/\(∀id,id<H2.A->id ∉ ids->Hx.get id=H2.get id)/\Xr lo Hx 46 3 rv ids ((fG d (fixC p) v0 k).map ints))
  (fun _ _=>False)
  (fun k Hx h=>(h.2.1 _ O (hni2 _ O)).trans g1)
  (fun k H1 H3 h hw=>⟨by have:=hw.1;omega,fun id h1 h2=>(hw.2 _ O (by have:=h.1;omega)).trans (h.2.1 id h1 h2),h.2.2.wq hidl htl hw.1 fun id hi=>hw.2 id O (by have:=h.1;omega)⟩)
  (fun k Hx h=>h.1)
  (fun k H1 b h=>⟨h.1,fun id h1 h2=>by rw[ag,SQ O];exact h.2.1 id h1 h2,h.2.2.wq hidl htl (by rw[aF];exact Nat.le_refl _) fun id hi=>by rw[ag,SQ O]⟩)
  (fun _ _ _ h=>h) (fun k H1 b h=>by unfold lj at h ⊢;rw[ag,SQ O];exact h)
  (fun b=>⟨by rw[aX];simp,fun id h1 h2=>bQ h1,hM.wq hidl htl (by rw[aX];omega) fun id hi=>by rw[bQ O,o2.nl _ hi]⟩) (W6)
  (fun x hx=>by
   obtain⟨k,hk⟩:=SY.1 hx;obtain⟨_,rfl⟩:=me hk;rfl) (fun _ _ _=>trivial) (fun _ _ _=>trivial) (fun k y Hx B Bb hy hj hcs hn hB hBb=>?_) (fun Hx hj hn=>?_) (fun _ hs _=>hs.elim) (fun _ _ hs _=>hs.elim)
 ·obtain⟨hk,rfl⟩:=me hy;refine W.vs ?_;simp only[go_sem,ic,cG,jn,TF,Ur,TV,T1,hB];obtain⟨H3,hH3⟩:∃H3,H3=Hx.upd H2.A Bb:=⟨_,rfl⟩
  rw[<- hH3];obtain⟨st,pd,n',en,ps',as',bo,hBe⟩:=hBb;have n3:H3.A=Hx.A:=by rw[hH3];rfl
  have o3:∀id,id≠H2.A->H3.get id=Hx.get id:=fun id h=>by rw[hH3,ag,SQ h]
  have jB:H3.get H2.A=some Bb:=by rw[hH3,ag,SU rfl]
  have k0:=af ((o3 _ O).trans ((hj.2.1 H.A O (hni2 _ O)).trans g0));have kN:H3.get (H2.A+1)=some (.J 0 3 (ints (bH (aj d.C) k))):=(o3 _ O).trans hcs;have kold:∀id,id<H.A->id ∉ ids->H3.get id=H.get id:=fun id h1 h2=>by rw[o3 _ O,hj.2.1 _ O h2,o2.nl _ h1]
  have hE3:ExH d p v0 db eb pb rb sb so rv H3:=hE.nb fun id hi=>by
   rcases hi with rfl|rfl|rfl|rfl|rfl|rfl
   ·exact kold _ hdl hdi
   ·exact kold _ hel hei
   ·exact kold _ hpl hpi
   ·exact kold _ hrl hri
   ·exact kold _ hsl hsi
   ·exact kold _ hsol hsoi
  have hM3:Xr lo H3 46 3 rv ids ((fG d (fixC p) v0 k).map ints):=hj.2.2.wq hidl htl O fun id hi=>o3 id O;refine W.en (fun E1=>E1 3=.R H.A 0 0 /\ E1 4=aa k /\ E1 5=.Q (H2.A+1) 0 0 d.C.length 1) (by simp only[go_sem,cG,e3,cZ]) fun E1 ⟨m3,m4,m5⟩=>?_
  refine W.vs ?_;simp only[go_sem,m3,m4,m5,k0];refine az.Z (Rv d hok hf h6 p hp v0 hv0 k hk db eb pb rb sb so (H2.A+1) d.C.length lo rv ids H3 hE3 hM3 kN O rfl _ fun H4 h4n h4o h4M=>⟨⟨_,_,_,_,_,_,_,by rw[h4o _ (hni2 _ O),jB,hBe]⟩,?_⟩);simp only[go_sem,eM];refine⟨by rw[h4o _ (hni2 _ O)];exact jB,O,⟨O,fun id h1 h2=>by rw[h4o _ h2,o3 _ O];exact hj.2.1 id h1 h2,h4M⟩,?_⟩;unfold lj;rw[h4o _ (hni2 _ O)];exact kN
 ·simp only[go_sem];have hl:(mc (aj d.C) (H2.A+1)).length=bD d.C:=qW ..;rw[hl]at hj;exact ar.mk O (hK Hx O (fun id h1 h2=>(hj.2.1 id O h2).trans (o2.nl _ h1)) hj.2.2)
def DX (r:List Nat)(s:Nat)(lvh:W9)(I:Nat->Nat->Nat)(n0:Nat):Prop:=s<n0/\(∀k j,k<r.length->j<6->I k j<n0)/\∀id g n,lvh=.Q id g 0 n 1->id<n0
def Xi.tj {s:Nat}(h:Xi d r lo s lvh I T tot H):DX r s lvh I H.A :=
 ⟨h.nz.2,fun k j h1 h2=>(h.nc.ng k j h1 h2).2,fun id g n hv=>by
  rcases h.lv with ⟨h1,_⟩|⟨id',g',_,h2,h3,_⟩
  ·rw[h1]at hv;cases hv
  ·rw[h3]at hv;rw[<- (W9.Q.inj hv).1];exact h2⟩
def Xi.iY {s n0:Nat}{H':Xn}(h:Xi d r lo s lvh I T tot H)(hb:DX r s lvh I n0)(hn:H.A<=H'.A)(hk:∀i,i<n0->H'.get i=H.get i):Xi d r lo s lvh I T tot H' :=
 ⟨by rw[hk s hb.1];exact h.top,by have:=h.nz;omega,h.lv.nb W8 hn fun i g _ _ _ hv=>hk i (hb.2.2 _ _ _ hv),h.sep,h.nE,h.nc.nb hn fun k j h1 h2=>hk _ (hb.2.1 k j h1 h2)⟩
def Xi.len {s:Nat}(h:Xi d r lo s lvh I T tot H):iC H lvh=some (aa r.length):=by
 have hpl:=jK I r.length;rcases h.lv with ⟨h1,h2⟩|⟨id,g,_,_,h1,h2⟩
 ·have:r.length=0:=by rw[<- hpl,h2];rfl
  rw[h1,this];rfl
 ·rw[h1];unfold iC;simp[af h2,hpl,aa]
def oE (n:Nat):List (List W9):=(List.range n).map fun (i:Nat)=>[aa ((n:Int)-1-(i:Int))]
def vV (n:Nat):(oE n).length=n:=by simp[oE]
def DY (h:i<n):(oE n)[i]?=some [aa ((n:Int)-1-i)]:=by unfold oE;rw[List.getElem?_map,Th h];rfl
def DZ {y:List W9}(h:(oE n)[i]?=some y):i<n/\y=[aa ((n:Int)-1-i)]:=by
 have hl:=aI h;rw[vV]at hl;rw[DY hl]at h;exact⟨hl,(Option.some.inj h).symm⟩
def D0 :∀x∈oE n,x.length=1:=fun x hx=>by
 unfold oE at hx;obtain⟨i,_,rfl⟩:=S4.1 hx;rfl
def Rc (d:Xa)(s bx n:Nat)(H:Xn):Prop:=H.get bx=some (.J 0 110 [.R s 0 0])/\∃lvh tot,H.get s=some (.J 0 130 [.lit (.int .i64 d.Y),.M d.C.length (aE d.C),.lit (.int .u64 (d.U:Int)),.M d.V.length (aZ d.V),lvh,ah (df d),ah (c7 d),.lit (.int .i64 tot)])/\iC H lvh=some (aa n)
def D1 (d:Xa)(s bx n:Nat)(hn:n<=64):wA prog G0 137 [] [.R bx 0 0] (oE n) (Rc d s bx n):=by
 intro idy J Stop H K hS hJ0 hY hK hSt;obtain⟨h1,lvh,tot,h2,h3⟩:=hS 0 H hJ0;have l1:=af h1;have l2:=af h2;have w0:=SN ((n:Int)-1) O;show ae _ _ _ ([.ni idy]++[.R bx 0 0]) _ _;refine ae.st (n:=18) (rs:=[]) func137 ?_;simp only[go_sem,l1,l2,h3,w0];refine W.aP 261128 (by rfl) (fun ρ H'=>∃i:Nat,ρ 3=aa ((n:Int)-1-i)/\i<=n/\J i H'/\H.A<=H'.A) (fun ρ H=>(iv (ρ 3)+1).toNat) ?_ ?_
 ·simp only[go_sem];exact⟨0,W5,O,hJ0⟩
 rintro ρ H' ⟨i,h3,hi,hj,hnx⟩;refine W.vs ?_;by_cases hb:(0:Int)<=(n:Int)-1-i
 ·have hin:i<n:=O
  have w1:=SN ((n:Int)-1-i-1) O;simp only[go_sem,h3,hb];refine hY _ _ H' _ (DY hin) hj hnx (fun H2 hj2 hn2=>⟨trivial,?_⟩) (fun H2 hs2 hn2=>⟨trivial,?_⟩)
  ·simp only[go_sem,h3,w1];exact⟨O,⟨i+1,by congr 2;omega,O,hj2,O⟩,O⟩
  ·simp only[go_sem];exact ar.mk O (hSt H2 hs2 O)
 ·simp only[go_sem,h3,hb];have ei:i=n:=O
  exact ar.mk O (hK H' (by rw[vV,<- ei];exact hj) hnx)
def D2 (s:Nat)(H:Xn)(K:Xd->Xn->Prop)(hK:K (.ret (.Z 137 [] [.R H.A 0 0])) (ext H [.J 0 110 [.R s 0 0]])):
  ae prog G0 106 [.R s 0 0] H K:=by
 refine ae.st (n:=4) (rs:=[.tmp 2]) func106 ?_;simp only[go_sem];exact ar.mk (by simp[aX]) hK
def Rd (hok:Xf d)(hr:Xu d r)(hrl:r.length<=64){s:Nat}{be ch:Nat->List Int}
  (hsz:∀k,k<r.length->(ao d r).cs k*(ao d r).cd k<2 ^ 40) (hcs:∀k,k<r.length->(ao d r).cs k<2 ^ 40)
  (hbd:∀(k b:Nat),k+1=r.length->∀n,n<=bD d.C->-4000000000000000000<=(bA (ao d r) k n).getD b 0/\(bA (ao d r) k n).getD b 0<=4000000000000000000) (hbt:∀n,n<=bD d.C->-4000000000000000000<=SS n (ao d r).nk/\SS n (ao d r).nk<=4000000000000000000)
  (hbg:∀w,w<bD d.C->-4000000000000000000<=cB d (wv d w)/\cB d (wv d w)<=4000000000000000000)
  (H:Xn) (hS:Xi d r lo s lvh I (iL (ao d r) be ch 0) (eK d r 0) H)
  (K:Xd->Xn->Prop) (hK:∀H',H.A<=H'.A->(∀i,i<H.A->i≠s->(∀k j,k<r.length->j<6->i≠I k j)->H'.get i=H.get i)->Xi d r lo s lvh I (iL (ao d r) be ch (bD d.C)) (eK d r (bD d.C)) H'->K (.ret (.na [])) H'):
  ae prog G0 67 [.R s 0 0,.Z 105 [.R s 0 0] []] H K:=by
 have n8:=hok.n.n1;have hcards:∀c∈aj d.C,1<=c/\c<=4:=fun c hc=>by
  obtain⟨x,hx,rfl⟩:=S4.1 hc;exact hok.n.L x hx
 have sm:dR (aj d.C):=mU (by rw[cZ];omega) hcards;have hB0:=hS.tj;have hsol:=hS.nz.2;have lso:=af hS.top;have lsoe:∀L,(ext H L).X s 0=_:=fun L=>(c9 hsol).trans lso;refine ae.st (n:=19) (rs:=[]) func67 ?_;simp only[go_sem,lsoe];refine az.Z (sV d.C O _ _ ⟨trivial,?_⟩);simp only[go_sem];refine az.Z (sR (aj d.C) _ _ ⟨trivial,?_⟩);simp only[go_sem];obtain⟨H2,hH2⟩:∃H2,H2=ext (ext H [.J 0 136 (W9.Z 105 [.R s 0 0] []).cells]) [.J 0 46 [ah (aj d.C)]]:=⟨_,rfl⟩
 have n2:H2.A=H.A+2:=by rw[hH2];rfl
 have o2:Xb H H2:=by rw[hH2];exact(Xb.ext _ _).trans (.ext _ _)
 have g0:H2.get H.A=some (.J 0 136 [.Z 105 [.R s 0 0] []]):=by rw[hH2,dD];exact bL H _ 0 (W5)
 have g1:H2.get (H.A+1)=some (.J 0 46 [ah (aj d.C)]):=by rw[hH2,dD];exact bL H _ 1 (W5)
 refine W.env fun E hE'=>?_;have e3:E 3=.R H.A 0 0:=by rw[hE'];simp only[go_sem]
 have e12:E 12=.Z 143 [] [.R (H.A+1) 0 0]:=by rw[hE'];rfl
 clear hE';show W _ _ _ _ _ _ ⟨E,ext (ext H [.J 0 136 (W9.Z 105 [.R s 0 0] []).cells]) [.J 0 46 [ah (aj d.C)]]⟩;rw[<- hH2];have hit:=sQ (aj d.C) (fun c hc=>(hcards c hc).1) sm (H.A+1) (H2.A+1) O;have hsn:∀i,H.A<=i->i≠s/\∀k j,k<r.length->j<6->i≠I k j:=fun i hi=>⟨by have:=hB0.1;omega,fun k j h1 h2=>by have:=hB0.2.1 k j h1 h2;omega⟩
 refine W.tz (f:=143) (first:=[]) (cap:=[.R (H.A+1) 0 0]) (by show E 12=_;exact e12) hit
  (fun k Hx=>H2.A<Hx.A/\(∀id,id<H2.A->id≠s->(∀k j,k<r.length->j<6->id≠I k j)->Hx.get id=H2.get id)/\Xi d r lo s lvh I (iL (ao d r) be ch k) (eK d r k) Hx)
  (fun _ _=>False)
  (fun k Hx h=>(h.2.1 _ O (hsn _ O).1 (hsn _ O).2).trans g1)
  (fun k H1 H3 h hw=>⟨by have:=hw.1;omega,fun id h1 h2 h3=>(hw.2 _ O (by have:=h.1;omega)).trans (h.2.1 id h1 h2 h3),h.2.2.iY hB0 hw.1 fun id hi=>hw.2 id O (by have:=h.1;omega)⟩)
  (fun k Hx h=>h.1)
  (fun k H1 b h=>⟨h.1,fun id h1 h2 h3=>by rw[ag,SQ O];exact h.2.1 id h1 h2 h3,h.2.2.iY hB0 (by rw[aF];exact Nat.le_refl _) fun id hi=>by rw[ag,SQ O]⟩)
  (fun _ _ _ h=>h) (fun k H1 b h=>by unfold lj at h ⊢;rw[ag,SQ O];exact h)
  (fun b=>⟨by rw[aX];simp,fun id h1 h2 h3=>bQ h1,hS.iY hB0 (by rw[aX];omega) fun id hi=>by rw[bQ O,o2.nl _ hi]⟩) (W6)
  (fun x hx=>by
   obtain⟨k,hk⟩:=SY.1 hx;obtain⟨_,rfl⟩:=me hk;rfl) (fun _ _ _=>trivial) (fun _ _ _=>trivial) (fun k y Hx B Bb hy hj hcs' hn hB hBb=>?_) (fun Hx hj hn=>?_) (fun _ hs _=>hs.elim) (fun _ _ hs _=>hs.elim)
 ·obtain⟨hk,rfl⟩:=me hy;refine W.vs ?_;simp only[go_sem,ic,cG,jn,TF,Ur,TV,T1,hB];obtain⟨H3,hH3⟩:∃H3,H3=Hx.upd H2.A Bb:=⟨_,rfl⟩
  rw[<- hH3];obtain⟨st,pd,n',en,ps',as',bo,hBe⟩:=hBb;have n3:H3.A=Hx.A:=by rw[hH3];rfl
  have o3:∀id,id≠H2.A->H3.get id=Hx.get id:=fun id h=>by rw[hH3,ag,SQ h]
  have jB:H3.get H2.A=some Bb:=by rw[hH3,ag,SU rfl]
  have k0:=af ((o3 _ O).trans ((hj.2.1 H.A O (hsn _ O).1 (hsn _ O).2).trans g0));have kN:H3.get (H2.A+1)=some (.J 0 3 (ints (bH (aj d.C) k))):=(o3 _ O).trans hcs';have hS3:Xi d r lo s lvh I (iL (ao d r) be ch k) (eK d r k) H3:=hj.2.2.iY hB0 O fun id hi=>o3 id O;refine W.en (fun E1=>E1 3=.R H.A 0 0 /\ E1 4=aa k /\ E1 5=.Q (H2.A+1) 0 0 d.C.length 1) (by simp only[go_sem,cG,e3,cZ]) fun E1 ⟨m3,m4,m5⟩=>?_
  refine W.vs ?_;simp only[go_sem,m3,m4,m5,k0];refine az.Z (Rb hok hr hrl hk hsz hcs hbd hbt (hbg k hk) (H2.A+1) H3 hS3 O (hsn _ O) kN d.C.length rfl _ fun H4 h4n h4o h4S=>⟨⟨_,_,_,_,_,_,_,by rw[h4o _ (hsn _ O).1 (hsn _ O).2,jB,hBe]⟩,?_⟩);simp only[go_sem,eM];refine⟨by rw[h4o _ (hsn _ O).1 (hsn _ O).2];exact jB,O,⟨O,fun id h1 h2 h3=>by rw[h4o _ h2 h3,o3 _ O];exact hj.2.1 id h1 h2 h3,h4S⟩,?_⟩;unfold lj;rw[h4o _ (hsn _ O).1 (hsn _ O).2];exact kN
 ·simp only[go_sem];have hl:(mc (aj d.C) (H2.A+1)).length=bD d.C:=qW ..;rw[hl]at hj;exact ar.mk O (hK Hx O (fun id h1 h2 h3=>(hj.2.1 id O h2 h3).trans (o2.nl _ h1)) hj.2.2)
end Go.Proofs
namespace Go.Hx
variable {P:Program} {t:TypeId} {x y:Operand} {k':IntKind} {a:Int}
def zt (h:0<=a/\a<4294967296):bn P .and t x y (.lit (.int .u64 a)) (.lit (.int .u64 4294967295))=some (.lit (.int .u64 a)):=by
 obtain⟨n,rfl⟩:=S5 h.1;rw[tw];have e1:(BitVec.ofInt 64 (n:Int)).toNat=n:=by rw[BitVec.ofInt_natCast,BitVec.toNat_ofNat,Vh O]
 have e:(BitVec.ofInt (IntKind.bits .u64) (n:Int) &&& BitVec.ofInt (IntKind.bits .u64) 4294967295).toNat=n:=by
  show (BitVec.ofInt 64 (n:Int) &&& BitVec.ofInt 64 ((4294967295:Nat):Int)).toNat=n;rw[BitVec.toNat_and,e1,show (BitVec.ofInt 64 ((4294967295:Nat):Int)).toNat=2 ^ 32-1 by rfl,Nat.and_two_pow_sub_one_eq_mod];omega
 rw[e,Ut _ O]
def tn (h:0<=a/\a<4294967296):bn P .shr t x y (.lit (.int .u64 a)) (.lit (.int k' 32))=some (.lit (.int .u64 0)):=by
 rw[tv W6];have e:a.fdiv (2 ^ (min (32:Int).toNat (IntKind.bits .u64)))=a / 4294967296:=Wr a W6;rw[e,UY h.1 h.2]
end Go.Hx
namespace Go.Proofs
open Go.Hx Tryz
variable {a:Int}{m n:Nat}
def Re (y:Nat)(hy:y<4294967296)(H:Xn)(K:Xd->Xn->Prop)(hK:K (.ret (.na [.lit (.int .u64 0),.lit (.int .u64 y)])) H):ae prog G0 149 [.lit (.int .u64 1),.lit (.int .u64 y)] H K:=by
 have ky:(0:Int)<=(y:Int)/\(y:Int)<4294967296:=O
 have k1:(0:Int)<=(1:Int)/\(1:Int)<4294967296:=O
 have k0:(0:Int)<=(0:Int)/\(0:Int)<4294967296:=O
 have v:=Ut (y:Int) O;have z1:IntKind.u64.wrap 0=0:=rfl;refine ae.sw (n:=51) (rs:=[.tmp 4,.tmp 5]) func149 ?_;refine W.sq ?_;simp only[go_sem];refine W.env fun E0 hE0=>?_;have a0_0:E0 0=.lit (.int .u64 1):=by rw[hE0];rfl
 have a0_1:E0 1=.lit (.int .u64 y):=by rw[hE0];rfl
 clear hE0;refine W.sq ?_;simp only[go_sem,a0_0,zt,k1];refine W.env fun E1 hE1=>?_;have a1_0:E1 0=.lit (.int .u64 1):=by rw[hE1];exact a0_0
 have a1_1:E1 1=.lit (.int .u64 y):=by rw[hE1];exact a0_1
 have a1_6:E1 6=.lit (.int .u64 1):=by rw[hE1];rfl
 clear hE1;refine W.sq ?_;simp only[go_sem,a1_0,tn,k1];refine W.env fun E2 hE2=>?_;have a2_0:E2 0=.lit (.int .u64 1):=by rw[hE2];exact a1_0
 have a2_1:E2 1=.lit (.int .u64 y):=by rw[hE2];exact a1_1
 have a2_6:E2 6=.lit (.int .u64 1):=by rw[hE2];exact a1_6
 have a2_7:E2 7=.lit (.int .u64 0):=by rw[hE2];rfl
 clear hE2;refine W.sq ?_;simp only[go_sem,a2_1,zt,ky];refine W.env fun E3 hE3=>?_;have a3_0:E3 0=.lit (.int .u64 1):=by rw[hE3];exact a2_0
 have a3_1:E3 1=.lit (.int .u64 y):=by rw[hE3];exact a2_1
 have a3_6:E3 6=.lit (.int .u64 1):=by rw[hE3];exact a2_6
 have a3_7:E3 7=.lit (.int .u64 0):=by rw[hE3];exact a2_7
 have a3_8:E3 8=.lit (.int .u64 y):=by rw[hE3];rfl
 clear hE3;refine W.sq ?_;simp only[go_sem,a3_1,tn,ky];refine W.env fun E4 hE4=>?_;have a4_0:E4 0=.lit (.int .u64 1):=by rw[hE4];exact a3_0
 have a4_1:E4 1=.lit (.int .u64 y):=by rw[hE4];exact a3_1
 have a4_6:E4 6=.lit (.int .u64 1):=by rw[hE4];exact a3_6
 have a4_7:E4 7=.lit (.int .u64 0):=by rw[hE4];exact a3_7
 have a4_8:E4 8=.lit (.int .u64 y):=by rw[hE4];exact a3_8
 have a4_9:E4 9=.lit (.int .u64 0):=by rw[hE4];rfl
 clear hE4;refine W.sq ?_;simp only[go_sem,a4_6,a4_8,v,VG];refine W.env fun E5 hE5=>?_;have a5_0:E5 0=.lit (.int .u64 1):=by rw[hE5];exact a4_0
 have a5_1:E5 1=.lit (.int .u64 y):=by rw[hE5];exact a4_1
 have a5_6:E5 6=.lit (.int .u64 1):=by rw[hE5];exact a4_6
 have a5_7:E5 7=.lit (.int .u64 0):=by rw[hE5];exact a4_7
 have a5_8:E5 8=.lit (.int .u64 y):=by rw[hE5];exact a4_8
 have a5_9:E5 9=.lit (.int .u64 0):=by rw[hE5];exact a4_9
 have a5_10:E5 10=.lit (.int .u64 y):=by rw[hE5];rfl
 clear hE5;refine W.sq ?_;simp only[go_sem,a5_7,a5_8,a5_10,tn,ky,z1,We,UU];refine W.env fun E6 hE6=>?_;have a6_0:E6 0=.lit (.int .u64 1):=by rw[hE6];exact a5_0
 have a6_1:E6 1=.lit (.int .u64 y):=by rw[hE6];exact a5_1
 have a6_6:E6 6=.lit (.int .u64 1):=by rw[hE6];exact a5_6
 have a6_7:E6 7=.lit (.int .u64 0):=by rw[hE6];exact a5_7
 have a6_8:E6 8=.lit (.int .u64 y):=by rw[hE6];exact a5_8
 have a6_9:E6 9=.lit (.int .u64 0):=by rw[hE6];exact a5_9
 have a6_10:E6 10=.lit (.int .u64 y):=by rw[hE6];exact a5_10
 have a6_11:E6 11=.lit (.int .u64 0):=by rw[hE6];rfl
 clear hE6;refine W.sq ?_;simp only[go_sem,a6_11,zt,k0];refine W.env fun E7 hE7=>?_;have a7_0:E7 0=.lit (.int .u64 1):=by rw[hE7];exact a6_0
 have a7_1:E7 1=.lit (.int .u64 y):=by rw[hE7];exact a6_1
 have a7_6:E7 6=.lit (.int .u64 1):=by rw[hE7];exact a6_6
 have a7_7:E7 7=.lit (.int .u64 0):=by rw[hE7];exact a6_7
 have a7_8:E7 8=.lit (.int .u64 y):=by rw[hE7];exact a6_8
 have a7_9:E7 9=.lit (.int .u64 0):=by rw[hE7];exact a6_9
 have a7_10:E7 10=.lit (.int .u64 y):=by rw[hE7];exact a6_10
 have a7_11:E7 11=.lit (.int .u64 0):=by rw[hE7];exact a6_11
 have a7_12:E7 12=.lit (.int .u64 0):=by rw[hE7];rfl
 clear hE7;refine W.sq ?_;simp only[go_sem,a7_11,tn,k0];refine W.env fun E8 hE8=>?_;have a8_0:E8 0=.lit (.int .u64 1):=by rw[hE8];exact a7_0
 have a8_1:E8 1=.lit (.int .u64 y):=by rw[hE8];exact a7_1
 have a8_6:E8 6=.lit (.int .u64 1):=by rw[hE8];exact a7_6
 have a8_7:E8 7=.lit (.int .u64 0):=by rw[hE8];exact a7_7
 have a8_8:E8 8=.lit (.int .u64 y):=by rw[hE8];exact a7_8
 have a8_9:E8 9=.lit (.int .u64 0):=by rw[hE8];exact a7_9
 have a8_10:E8 10=.lit (.int .u64 y):=by rw[hE8];exact a7_10
 have a8_11:E8 11=.lit (.int .u64 0):=by rw[hE8];exact a7_11
 have a8_12:E8 12=.lit (.int .u64 0):=by rw[hE8];exact a7_12
 have a8_13:E8 13=.lit (.int .u64 0):=by rw[hE8];rfl
 clear hE8;refine W.sq ?_;simp only[go_sem,a8_6,a8_9,a8_12,z1,WK,UU];refine W.env fun E9 hE9=>?_;have a9_0:E9 0=.lit (.int .u64 1):=by rw[hE9];exact a8_0
 have a9_1:E9 1=.lit (.int .u64 y):=by rw[hE9];exact a8_1
 have a9_6:E9 6=.lit (.int .u64 1):=by rw[hE9];exact a8_6
 have a9_7:E9 7=.lit (.int .u64 0):=by rw[hE9];exact a8_7
 have a9_8:E9 8=.lit (.int .u64 y):=by rw[hE9];exact a8_8
 have a9_9:E9 9=.lit (.int .u64 0):=by rw[hE9];exact a8_9
 have a9_10:E9 10=.lit (.int .u64 y):=by rw[hE9];exact a8_10
 have a9_11:E9 11=.lit (.int .u64 0):=by rw[hE9];exact a8_11
 have a9_12:E9 12=.lit (.int .u64 0):=by rw[hE9];rfl
 have a9_13:E9 13=.lit (.int .u64 0):=by rw[hE9];exact a8_13
 clear hE9;refine W.sq ?_;simp only[go_sem,a9_7,a9_9,a9_12,a9_13,tn,k0,z1,WK,UU];refine W.env fun E10 hE10=>?_;have a10_0:E10 0=.lit (.int .u64 1):=by rw[hE10];exact a9_0
 have a10_1:E10 1=.lit (.int .u64 y):=by rw[hE10];exact a9_1
 have a10_6:E10 6=.lit (.int .u64 1):=by rw[hE10];exact a9_6
 have a10_7:E10 7=.lit (.int .u64 0):=by rw[hE10];exact a9_7
 have a10_8:E10 8=.lit (.int .u64 y):=by rw[hE10];exact a9_8
 have a10_9:E10 9=.lit (.int .u64 0):=by rw[hE10];exact a9_9
 have a10_10:E10 10=.lit (.int .u64 y):=by rw[hE10];exact a9_10
 have a10_11:E10 11=.lit (.int .u64 0):=by rw[hE10];exact a9_11
 have a10_12:E10 12=.lit (.int .u64 0):=by rw[hE10];exact a9_12
 have a10_13:E10 13=.lit (.int .u64 0):=by rw[hE10];exact a9_13
 have a10_4:E10 4=.lit (.int .u64 0):=by rw[hE10];rfl
 clear hE10;refine W.vs ?_;simp only[go_sem,a10_0,a10_1,a10_4,v,VG];exact ar.mk W8 hK
def Rf (y:Nat)(hy:y<4294967296)(H:Xn)(K:Xd->Xn->Prop)(hK:K (.ret (.na [.lit (.int .u64 0),.lit (.int .u64 y)])) H):ae prog G0 136 [.lit (.int .u64 1),.lit (.int .u64 y)] H K:=by
 have v:=Ut (y:Int) O;have z1:IntKind.u64.wrap 0=0:=rfl;have z2:IntKind.u64.wrap 1=1:=rfl;refine ae.st (n:=30) (rs:=[.tmp 4,.tmp 5]) func136 ?_;simp only[go_sem];refine az.Z (Re y hy _ _ ⟨trivial,?_⟩);simp only[go_sem];exact ar.mk W8 hK
def iM (a:Int)(m n:Nat):List Int:=List.replicate n a++List.replicate (m-n) 0
def D3 (h:n<=m):(iM a m n).length=m:=by unfold iM;simp;omega
def Rg (h:n<=m):setAt (ints (iM a m n)) n (((ints (iM a m n)).take n).take (min n (m-n)))=ints (iM a m (n+min n (m-n))):=by
 unfold iM ints setAt;simp only[TT,V7,List.length_append,Uq,Td];apply List.ext_getElem
 ·simp;omega
 ·intro i h1 h2;simp[List.getElem_append,Vb];split
  ·rfl
  ·rw[SQ O]
def Rh (a:Int)(m:Nat)(hm:1<=m/\m<2 ^ 30)(H:Xn)(K:Xd->Xn->Prop)(hK:K (.ret (.Q H.A 0 0 m 1)) (ext H [.J 0 3 (ints (List.replicate m a))])):
  ae prog G0 104 [ah [a],aa m] H K:=by
 have v:=Ut (m:Int) O;have z2:IntKind.u64.wrap 1=1:=rfl;have v2:=SN (m:Int) O;have h0:¬(m:Int)<0:=O
 have h9:¬(9223372036854775807:Int)<(m:Int):=O
 refine ae.sw (n:=48) (rs:=[.tmp 4]) func104 ?_;refine W.sq ?_;simp only[go_sem];refine W.sq ?_;simp only[go_sem,h0];refine W.sq ?_;simp only[go_sem,v,z2];refine az.Z (Rf m O _ _ ⟨trivial,?_⟩);simp only[go_sem];refine W.sq ?_;simp only[go_sem,h9];have hm0:(0:Int)<=m:=O
 refine W.sq ?_;simp only[go_sem,v2,hm0];refine⟨O,?_⟩;obtain⟨H1,hH1⟩:∃H1,H1=ext H [.J 0 3 (List.replicate m (.lit (.int .i64 0)))]:=⟨_,rfl⟩
 have e0:List.replicate m (W9.lit (.int .i64 0))=ints (iM a m 0):=by simp[iM,ints,aa]
 have g1:H1.get H.A=some (.J 0 3 (ints (iM a m 0))):=by rw[hH1,<- e0];exact da
 have n1:H1.A=H.A+1:=hH1▸rfl
 have ex1:∀(b:Xe) (i:Nat),i≠H.A->(ext H [b]).get i=H.get i:=fun b i h=>by
  unfold ext;simp only[TR];rw[SQ O]
 have o1:∀i,i≠H.A->H1.get i=H.get i:=fun i h=>by rw[hH1];exact ex1 _ i h
 rw[<- hH1];clear hH1;have l1:=af g1;have ll1:(ints (iM a m 0)).length=m:=by rw[aS,D3 O]
 have ec:List.take 1 (ints [a])++List.drop (List.take 1 (ints [a])).length (ints (iM a m 0))=ints (iM a m 1):=by
  obtain⟨q,hq⟩:∃q,m=q+1:=⟨m-1,O⟩
  rw[hq];simp[iM,ints,Uo]
 have em:min 1 m=1:=U0 hm.1;refine W.sq ?_;simp only[go_sem,l1,ll1,em];refine⟨rfl,?_⟩;refine W.en (fun E=>E 7=.Q H.A 0 0 m 1 /\ E 8=aa 1) (by simp only[go_sem]) fun E ⟨e7,e8⟩=>?_
 refine W.seq (W.block ?_);refine W.aP 140720308486400 (by rfl) (fun ρ Hx=>∃n:Nat,ρ 8=aa n/\1<=n/\n<=m/\Hx.A=H.A+1/\(∀i,i≠H.A->Hx.get i=H.get i)/\Hx.get H.A=some (.J 0 3 (ints (iM a m n)))) (fun ρ Hx=>m-(iv (ρ 8)).toNat) ?_ ?_
 ·simp only[go_sem,e8,ec];exact⟨1,rfl,W8,hm.1,by rw[aF];exact n1,fun i h=>by rw[ag,SQ h];exact o1 i h,by rw[ag,SU rfl]⟩
 rintro ρ Hx ⟨n,h8,hn1,hn,nx,xo,xg⟩;refine W.en (fun E1=>E1 7=.Q H.A 0 0 m 1 /\ E1 8=aa n) (by simp only[go_sem,e7,h8]) fun E1 ⟨f7,f8⟩=>?_
 have lx:=af xg;have llx:(ints (iM a m n)).length=m:=by rw[aS,D3 hn]
 by_cases hb:(n:Int)<m;rotate_left
 ·refine W.vs ?_;simp only[go_sem,f7,f8,lx,hb];have hnm:n=m:=O
  refine W.vs ?_;simp only[go_sem,f7];have hx:Hx=ext H [.J 0 3 (ints (List.replicate m a))]:=by
   have hg:∀i,Hx.get i=(ext H [.J 0 3 (ints (List.replicate m a))]).get i:=fun i=>by
    by_cases h:i=H.A
    ·rw[h,xg,hnm,da];simp[iM]
    ·rw[xo i h,ex1 _ i h]
   cases Hx;simp only at nx hg;unfold ext;congr 1
   ·funext i
    exact hg i
  rw[hx];exact ar.mk (by rw[aX];exact Wf ..) hK
 have em2:n+min n (m-n)<=m:=O
 have w1:=SN ((n:Int)+(min n (m-n):Nat)) O;have ecp:=Rg (a:=a) hn;refine W.sq ?_;simp only[go_sem,f7,f8,lx,hb];refine W.block ?_;refine W.dr 8 [0,0,0,6,0,0,48,126] mixed ?_;simp only[go_sem,f7,f8,lx,llx,w1,ecp];refine⟨O,O,⟨O,by rw[Tn];intro x hx;exact Tn.1 (lK _) x (Tj hx)⟩,by rw[aF,aF];omega,⟨n+min n (m-n),W5,O,em2,by rw[aF];exact nx,fun i h=>by rw[ag,SQ h];exact xo i h,by rw[ag,SU rfl]⟩,by rw[h8];simp only[aa,bj];omega⟩
end Go.Proofs
namespace Go.Hx
variable {P:Program} {G:Nat->Option (List W9)} {all:Array Oper} {tail:St->Prop} {b i:Nat} {bs:List Nat} {acc:List (Nat × FP)} {K:FP->St->Prop} {s:St} {d:Option Tmp} {ty:TypeId} {pos:String} {aft:Array Edge} {g:Option (Nat × Bool)}
variable {H:Xn}
def Lq (bs:List Nat):Ev.dI P G all tail bs i acc [] s=tail s:=by cases bs<;>rfl
def Lr (op:Op)(rest:List Oper):Ev.dI P G all tail (b :: bs) i acc (⟨d,op,ty,pos,aft,none⟩ :: rest) s =
  Ev.bF P G ⟨d,op,ty,pos,aft,none⟩ (fun f s'=>je b f acc/\Ev.dI P G all tail bs (i+1) (iA i f acc) rest s') s:=by
 simp[Ev.dI,gL,bh]
def Ls (fv:Operand)(args:Array Operand)(ats:Array TypeId):Ev.bF P G ⟨d,.call ⟨.value fv,args,ats⟩,ty,pos,aft,g⟩ K s =
  ∃v e k f,Ev.qc P G (aw G s.ρ fv) (args.toList.map (aw G s.ρ)) s.H v e k f/\K f ⟨aQ s.ρ d v,⟨Ev.dh e s.H.get,s.H.A+k⟩⟩:=rfl
def Lt (x:Operand):Ev.bF P G ⟨d,.move x,ty,pos,aft,g⟩ K s=bF P G ⟨d,.move x,ty,pos,aft,g⟩ K s:=rfl
def Lu (t:TypeId)(x:Operand):Ev.bF P G ⟨d,.load t x,ty,pos,aft,g⟩ K s=bF P G ⟨d,.load t x,ty,pos,aft,g⟩ K s:=rfl
def Lv (x:Operand):Ev.bF P G ⟨d,.nilCheck x,ty,pos,aft,g⟩ K s=bF P G ⟨d,.nilCheck x,ty,pos,aft,g⟩ K s:=rfl
def Lw (t:TypeId)(x:Operand)(f:Nat):Ev.bF P G ⟨d,.fieldAddr t x f,ty,pos,aft,g⟩ K s=bF P G ⟨d,.fieldAddr t x f,ty,pos,aft,g⟩ K s:=rfl
def Lx (t:TypeId)(x y:Operand):Ev.bF P G ⟨d,.makeSlice t x y,ty,pos,aft,g⟩ K s=bF P G ⟨d,.makeSlice t x y,ty,pos,aft,g⟩ K s:=rfl
def Ly (t:TypeId)(l:Nat)(p:Array (Nat × Operand)):Ev.bF P G ⟨d,.buildSlice t l p,ty,pos,aft,g⟩ K s=bF P G ⟨d,.buildSlice t l p,ty,pos,aft,g⟩ K s:=rfl
def Lz (t:TypeId)(p:Array (Nat × Operand)):Ev.bF P G ⟨d,.build t p,ty,pos,aft,g⟩ K s=bF P G ⟨d,.build t p,ty,pos,aft,g⟩ K s:=rfl
def LA (t:TypeId)(x:Operand):Ev.bF P G ⟨d,.box t x,ty,pos,aft,g⟩ K s=bF P G ⟨d,.box t x,ty,pos,aft,g⟩ K s:=rfl
def LB (op:BinOp)(t:TypeId)(x y:Operand)(u:TypeId):Ev.bF P G ⟨d,.binOp op t x y u,ty,pos,aft,g⟩ K s=bF P G ⟨d,.binOp op t x y u,ty,pos,aft,g⟩ K s:=rfl
def Bm (f:Builtin)(args:Array Operand)(ats:Array TypeId):Ev.bF P G ⟨d,.call ⟨.builtin f,args,ats⟩,ty,pos,aft,g⟩ K s=bF P G ⟨d,.call ⟨.builtin f,args,ats⟩,ty,pos,aft,g⟩ K s:=rfl
def LC (a:Nat):Ev.qe a (a+1)=[a]:=by
 unfold Ev.qe;rw[Vq];simp[TP]
def LD {bk:Xe}:(⟨Ev.dh (Ev.jr H.A (H.A+1) (fun _=>true) (ext ⟨fun _=>none,H.A⟩ [bk]).get) H.get,H.A+1⟩:Xn)=ext H [bk]:=by
 unfold ext;simp only[TR];congr 1
 funext j
 unfold Ev.dh Ev.jr;by_cases h:H.A<=j/\j<H.A+1
 ·have:j=H.A:=O
  subst this;simp
 ·simp[h]
def aD.LF {lo k g':Nat}{e e':TypeId}{v:W9}{cs c:List W9}(h:aD lo H e v cs)(hk:H.get k=some (.J g' e' c))(hne:e'≠e):∀g n,v≠.Q k g 0 n 1:=fun g n hv=>by
 rcases h with ⟨h1,_⟩|⟨i,g2,_,_,h3,h4⟩
 ·rw[h1]at hv;cases hv
 ·rw[h3]at hv;obtain rfl:=(W9.Q.inj hv).1;rw[h4]at hk;cases hk;exact hne rfl
end Go.Hx
namespace Go.Proofs
open Go.Hx Tryz
variable {a:Int}{g k:Nat}{ch:Nat->List Int}{d:Xa}{D:Xg}
def Ri {H:Xn}{ib m:Nat}(hm:1<=m/\m<2 ^ 30)(hi:ib<H.A)(hg:H.get ib=some (.J 0 3 [aa a])):
  Ev.qc prog G0 (.Z 104 [] []) [.Q ib 0 0 1 1,aa m] H (.Q H.A 0 0 m 1) (Ev.jr H.A (H.A+1) (fun _=>true) (ext ⟨fun _=>none,H.A⟩ [.J 0 3 (ints (List.replicate m a))]).get) 1 ⟨Ev.qe H.A (H.A+1),[ib]⟩:=by
 have e:H.A+1-H.A=1:=O
 have hnx:(ext (⟨fun _=>none,H.A⟩:Xn) [.J 0 3 (ints (List.replicate m a))]).A=H.A+1:=rfl;have:=Ev.qc.mk (P:=prog) (G:=G0) (H:=H) (f:=104) (first:=[]) (cap:=[]) (args:=[.Q ib 0 0 1 1,aa m]) (args':=[ah [a],aa m]) (v:=.Q H.A 0 0 m 1) ⟨fun _=>none,H.A⟩ (ext ⟨fun _=>none,H.A⟩ [.J 0 3 (ints (List.replicate m a))]) (fun _=>False) (fun _=>true) [ib] aH
  (fun r hr=>by rw[List.mem_singleton.1 hr];exact hi) rfl (by rw[hnx];exact Vm _) (fun _ h=>h.elim) (fun _ _=>rfl) rfl
  (fun H2 hag i h h'=>match i,h with
   |0,_=>Fz.ints (fun h=>h) ((hag ib W5).trans hg) rfl (fun j hj=>by
     have:j=0:=(by simp at hj;omega);subst this;rfl)
   |1,_=>.lit _)
  (Rh a m hm ⟨fun _=>none,H.A⟩ _ ⟨rfl,rfl⟩) ?_ ?_
 ·rw[hnx,e]at this;exact this
 ·exact .Q (.inr ⟨W8,by rw[hnx];exact Un _,rfl⟩)
 ·intro id h1 h2 _;have:id=H.A:=by rw[hnx]at h2;omega
  subst this;exact⟨0,_,_,da (H:=⟨fun _=>none,H.A⟩),fun i hi=>by simp only[ints,S9];exact .lit _⟩
def bX (l:List Int):Nat:=(l.map Int.natAbs).sum
def sG (a b:List Int):bX (a++b)=bX a+bX b:=by simp[bX]
def pz (x:Int)(l:List Int):bX (x :: l)=x.natAbs+bX l:=by simp[bX]
def y8 (n:Nat):bX (List.replicate n 0)=0:=by simp[bX]
def C9 (l:List Int)(i:Nat)(a:Int):bX (l.set i a)<=bX l+(a-l.getD i 0).natAbs:=by
 induction l generalizing i with
 |nil=>simp[bX]
 |cons x l ih =>
  cases i with
  |zero=>simp only[List.set_cons_zero,pz,WZ];omega
  |succ i =>
   have:=ih i;simp only[List.set_cons_succ,pz,W0];omega
def vz (l:List Int)(i:Nat):(l.getD i 0).natAbs<=bX l:=by
 induction l generalizing i with
 |nil=>simp[bX]
 |cons x l ih =>
  cases i with
  |zero=>simp only[pz,WZ];omega
  |succ i=>have:=ih i;simp only[pz,W0];omega
def Pk {l:List Int}(h:a∈l):a.natAbs<=bX l:=by
 obtain⟨i,hi⟩:=SY.1 h;have:=vz l i;rw[SV,hi]at this;exact this
def Pl (l:List Int):(ij l).natAbs<=bX l:=by
 by_cases h:l=[]
 ·subst h;simp[ij]
 ·exact Pk (yr h)
def Pm (l:List Int)(n:Nat):bX (l.take n)+bX (l.drop n)=bX l:=by rw[<- sG,TA]
def Pn (cs cd:Nat)(ex:List Int):ka (cs+1) cd ex=ka cs cd ex++[ij (iV cd cs ex)]:=by unfold ka;rw[TP,TT];rfl
def y9 (cs cd:Nat)(ex:List Int):bX (ka cs cd ex)<=bX (ex.take (cs*cd)):=by
 induction cs with
 |zero=>simp[ka,bX]
 |succ cs ih =>
  rw[Pn,sG,pz];have h1:=Pl (iV cd cs ex);have h2:ex.take ((cs+1)*cd)=ex.take (cs*cd)++iV cd cs ex:=by
   unfold iV;rw[TJ,UV,List.take_add]
  have h3:bX []=0:=rfl;rw[h2,sG,h3];omega
def qS (l:List Int)(n:Nat):bX (l.take n)<=bX l:=by have:=Pm l n;omega
def Da (ab be ex:List Int)(n:Nat):bX (dG ab be n ex)<=bX ex+bX (be.take n):=by
 induction n with
 |zero=>simp[dG]
 |succ n ih =>
  rw[vv];have h1:=C9 (dG ab be n ex) (ab.getD n 0).toNat ((dG ab be n ex).getD (ab.getD n 0).toNat 0+be.getD n 0);have h2:bX (be.take n)+(be.getD n 0).natAbs<=bX (be.take (n+1)):=by
   by_cases h:n<be.length
   ·obtain⟨x,hx⟩:=aq h;rw[aU hx,sG,pz,SV,hx];show bX (be.take n)+x.natAbs<=_;omega
   ·rw[SR O,SR O,SV,SX O];simp
  omega
def Db (hg:∀w,w<D.N->(D.nk w).natAbs<=g)(k:Nat):∀n,n<=D.N->bX (bA D k n)<=g*n:=by
 intro n
 induction n with
 |zero=>intro _;unfold bA;rw[y8];exact Uh _
 |succ n ih =>
  intro hn;have h1:=ih O;have h2:=hg n O;rw[Vl,Nat.mul_one];unfold bA;split
  ·have:=C9 (bA D k n) (D.br k n) ((bA D k n).getD (D.br k n) 0+D.nk n);omega
  ·omega
def Dc (hg:∀w,w<D.N->(D.nk w).natAbs<=g):∀(m k:Nat),k+1+m=D.K->bX (EF D k)<=g*D.N:=by
 intro m
 induction m with
 |zero =>
  intro k hk;rw[yW O];exact Db hg k _ (Nat.le_refl _)
 |succ m ih =>
  intro k hk;rw[yX O];have h1:=ih (k+1) O;have h2:=Da (cI D (k+1) D.N) (BF D (k+1)) (bA D k D.N) (D.cs (k+1));have h3:=qS (BF D (k+1)) (D.cs (k+1));have h4:bX (BF D (k+1))<=bX (EF D (k+1)):=Tw (y9 _ _ _) (qS _ _);rw[sE O,y8]at h2;rw[sE O];omega
def Po (hg:∀w,w<D.N->(D.nk w).natAbs<=g)(hk:k<D.K)(hk0:0<k)(n:Nat):bX (dG (cI D k D.N) (BF D k) n (bA D (k-1) D.N))<=g*D.N:=by
 have h1:=Dc hg (D.K-1-k) k O;have h2:=Da (cI D k D.N) (BF D k) (bA D (k-1) D.N) n;have h3:=qS (BF D k) n;have h4:bX (BF D k)<=bX (EF D k):=Tw (y9 _ _ _) (qS _ _);rw[sE O,y8]at h2;rw[sE O];omega
def Pp (l:List Int):∀n,(SS n fun c=>l.getD c 0).natAbs<=bX (l.take n):=by
 intro n
 induction n with
 |zero=>rw[mE];simp
 |succ n ih =>
  rw[eZ];by_cases h:n<l.length
  ·obtain⟨x,hx⟩:=aq h;rw[aU hx,sG,pz,SV,hx];show _<=bX (l.take n)+(x.natAbs+bX [])
   simp only[Option.getD_some];omega
  ·rw[SR O]at ih;rw[SR O,SV,SX O];simp only[Option.getD_none,UU];exact ih
def Pq (hg:∀w,w<D.N->(D.nk w).natAbs<=g):∀n,n<=D.N->(SS n D.nk).natAbs<=g*n:=by
 intro n
 induction n with
 |zero=>intro _;rw[mE];simp
 |succ n ih =>
  intro hn;have:=ih O;have:=hg n O;rw[eZ,Vl,Nat.mul_one];omega
def Pr (hok:Xf d)(h6:d.C.length<=6)(r:List Nat):(∀w,w<(ao d r).N->((ao d r).nk w).natAbs<=18662400000000)/\18662400000000*(ao d r).N<=20000000000000000:=by
 have h1:=(yD hok.nu).1;rw[vD]at h1;refine⟨fun w _=>?_,by show 18662400000000*bD d.C<=_;omega⟩;have:=wh hok h6 (iF hok w);show (cB d (wv d w)).natAbs<=_;omega
def dm (D:Xg)(ch:Nat->List Int)(j:Nat):Xj:=⟨fun k=>cI D k D.N,fun k=>dQ D k D.N,fun k=>if j<=k+1 then EF D k else bA D k D.N,fun k=>if j<=k then BF D k else List.replicate (D.cs k) 0,ch⟩
def pH (D:Xg):Nat->List Int:=fun k=>List.replicate (D.cs k) 0
def ep (D:Xg):Nat->List Int:=fun k=>List.replicate (D.cs k) (-1)
def eD (D:Xg)(j:Nat):Int:=if D.K=0\/j=0 then qN D else 0
def zm (hc:∀k,k<D.K->(ch k).length=D.cs k)(j:Nat):(dm D ch j).Len D D.K:=by
 refine⟨fun k _=>oo D k _,fun k _=>px D k _,fun k _=>?_,fun k _=>?_,hc⟩
 ·unfold dm;simp only;split
  ·exact yV D k
  ·exact mb D k _
 ·unfold dm;simp only;split
  ·exact CZ ..
  ·simp
def Qm (D:Xg)(ch:Nat->List Int):vT D.K (iL D (pH D) ch D.N) (dm D ch D.K):=fun k j hk=>by
 have e1:(if D.K<=k then BF D k else List.replicate (D.cs k) 0)=List.replicate (D.cs k) 0:=SQ O;have e2:(if D.K<=k+1 then EF D k else bA D k D.N)=bA D k D.N:=by
  split
  ·exact yW (O)
  ·rfl
 unfold de iL dm pH;simp only[e1,e2]
def zn (hk:k<D.K):bY D (dm D ch (k+1)) k=BF D k:=by
 unfold bY BF;have:(dm D ch (k+1)).ex k=EF D k:=SU W8;rw[this]
def Qn (hk:k<D.K):vT D.K (te D (dm D ch (k+1)) k) (dm D ch k):=fun k' j hk'=>by
 have hA:=zn (ch:=ch) hk;have e1:eE (dm D ch (k+1)).be k (bY D (dm D ch (k+1)) k) k'=if k<=k' then BF D k' else List.replicate (D.cs k') 0:=by
  by_cases e:k'=k
  ·rw[e,ko,hA,SU W8]
  ·rw[jk e];show (if k+1<=k' then BF D k' else List.replicate (D.cs k') 0)=_;by_cases h:k<=k'
   ·rw[SU h,SU O]
   ·rw[SQ h,SQ O]
 have e2:(if 0<k then eE (dm D ch (k+1)).ex (k-1) (dG ((dm D ch (k+1)).ab k) (bY D (dm D ch (k+1)) k) (D.cs k) ((dm D ch (k+1)).ex (k-1))) else (dm D ch (k+1)).ex) k'=if k<=k'+1 then EF D k' else bA D k' D.N:=by
  by_cases h0:0<k
  ·rw[SU h0,hA];by_cases e:k'=k-1
   ·rw[e,ko,SU O];have h1:(dm D ch (k+1)).ex (k-1)=bA D (k-1) D.N:=SQ O;have h2:=yX (D:=D) (k:=k-1) O;rw[Nat.sub_add_cancel h0]at h2;rw[h1,h2];rfl
   ·rw[jk e];show (if k+1<=k'+1 then EF D k' else bA D k' D.N)=_;by_cases h:k<=k'+1
    ·rw[SU h,SU O]
    ·rw[SQ h,SQ O]
  ·rw[SQ h0];show (if k+1<=k'+1 then EF D k' else bA D k' D.N)=_;rw[SU O,SU O]
 unfold de te dm at *
 simp only at e1 e2;simp only[e1,e2]
def Qo (hk:k<D.K):gK D (dm D ch (k+1)) k (D.cs k) (eD D (k+1))=eD D k:=by
 have hA:=zn (ch:=ch) hk;have h0:eD D (k+1)=0:=by unfold eD;rw[SQ O]
 unfold gK;rw[h0,hA];by_cases h:0<k
 ·rw[SU h];unfold eD;rw[SQ O]
 ·have:k=0:=O
  subst this;rw[SQ h];unfold eD qN;rw[SU O,SQ O];simp
def DC :∀(f need:Nat) (out r:List Nat),fY d f need out=some r->r.length<=out.length+f:=by
 intro f
 induction f with
 |zero =>
  intro need out r h;unfold fY at h;split at h
  ·cases h;omega
  ·cases h
 |succ f ih =>
  intro need out r h;unfold fY at h;split at h
  ·cases h;omega
  ·split at h
   ·cases h
   ·have:=ih _ _ r h;rw[List.length_append,TR]at this;omega
def DD (hok:Xf d){r:List Nat}(hr:Xu d r):∀k,k<r.length->1<=(ao d r).cs k/\(ao d r).cs k<=1024/\1<=(ao d r).cd k/\(ao d r).cd k<=4/\(ao d r).cs k*(ao d r).cd k<=4096:=fun k hk=>by
 obtain⟨v,hv⟩:=aq hk;have hvd:r.getD k 0=v:=fQ hv;have hm:=hr.mem v (an hv);obtain⟨x,hx⟩:=aq (dS.1 hm).1;obtain⟨hrn,hxp,_,_⟩:=ri hok hx;have hxc:=hok.n.L x (an hx);obtain⟨e1',e2'⟩:=ji hx O;have ecs:(ao d r).cs k=bM d.C x:=by show b9 d (r.getD k 0)=_;rw[hvd];exact e1'
 have ecd:((ao d r).cd k:Int)=x.L:=by show (cO d (r.getD k 0):Int)=_;rw[hvd];exact e2'
 have hsz0:=hok.nu.size;rw[kh]at hsz0;have:=yz hxp hok.n.L;have h1:=qO hok hr k hk;have a1:(ao d r).cs k<=1024:=O
 have a2:(ao d r).cd k<=4:=O
 exact⟨h1,a1,O,a2,VO a1 a2⟩
end Go.Proofs
