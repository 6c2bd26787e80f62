/- Own work: contracts. -/
import Derived.Test.YteolcdbjdgimhaaGreatConG
import Derived.Test.YteolcdbjdgimhaaGreatConC
import Derived.Test.YteolcdbjdgimhaaGreatConF
import Derived.Test.YteolcdbjdgimhaaGreatConA
import Derived.Test.YteolcdbjdgimhaaGreatConE
set_option linter.all false
set_option maxHeartbeats 8000000
set_option maxRecDepth 100000
namespace Go.Proofs
open Go.Hx Tryz
variable {r:List Nat}{a k n w:Nat}{be ch:Nat->List Int}{I:Nat->Nat->Nat}{lvh:ZK}{d:ZM}{D:ZS}
def fM (w a k:Nat):Nat:=if k<a then w+1 else w
def ke (D:ZS)(be ch:Nat->List Int)(w a b c:Nat):ZV:=⟨fun k=>dh D k (fM w a k),fun k=>eK D k (fM w b k),fun k=>bP D k (fM w c k),be,ch⟩
def jo (D:ZS)(be ch:Nat->List Int)(w:Nat):ZV:=⟨fun k=>dh D k w,fun k=>eK D k w,fun k=>bP D k w,be,ch⟩
def uX (h:k<a):fM w a k=w+1:=VA h
def xL (h:a<=k):fM w a k=w:=Vx (O)
def xM (h:k≠a):fM w (a+1) k=fM w a k:=by unfold fM;split<;>split<;>omega
def xO (n:Nat)(T T':ZV):Prop:=∀k j,k<n->dO T k j=dO T' k j
def ZW.same {lo s:Nat}{T T':ZV}{tot:Int}{H:ZJ}(h:ZW d r lo s lvh I T tot H)(ht:xO r.length T T')(hl:T'.Len (aw d r) r.length):ZW d r lo s lvh I T' tot H :=
 ⟨h.top,h.nE,h.lv,h.sep,h.nJ,⟨h.ng.inj,h.ng.nk,h.ng.nB,fun k j h1 h2 h3=>by rw[<- ht k j h1];exact h.ng.ny k j h1 h2 h3,hl⟩⟩
def xP (hb:∀k,k<n->(be k).length=D.cs k)(hc:∀k,k<n->(ch k).length=D.cs k)(w a b c:Nat):(ke D be ch w a b c).Len D n :=
 ⟨fun k _=>pU D k _,fun k _=>qQ D k _,fun k _=>nk D k _,hb,hc⟩
def FU (hb:∀k,k<n->(be k).length=D.cs k)(hc:∀k,k<n->(ch k).length=D.cs k)(w:Nat):(jo D be ch w).Len D n :=
 ⟨fun k _=>pU D k _,fun k _=>qQ D k _,fun k _=>nk D k _,hb,hc⟩
def Uc (w n:Nat):xO n (ke D be ch w n n n) (jo D be ch (w+1)):=fun k j hk=>by
 have e:fM w n k=w+1:=uX hk;unfold dO ke jo;simp only[e]
def fA (d:ZM)(r:List Nat)(w:Nat):Int:=if r.length=0 then SS w (aw d r).nr else 0
def Ud (hok:ZR d)(hr:Z6 d r)(hrl:r.length<=64){lo s:Nat}(hw:w<bO d.C)
  (hsz:∀k,k<r.length->(aw d r).cs k*(aw d r).cd k<2 ^ 40) (hcs:∀k,k<r.length->(aw d r).cs k<2 ^ 40)
  (hbd:∀(k b:Nat),k+1=r.length->∀n,n<=bO d.C->-4000000000000000000<=(bP (aw d r) k n).getD b 0/\(bP (aw d r) k n).getD b 0<=4000000000000000000) (hbt:∀n,n<=bO d.C->-4000000000000000000<=SS n (aw d r).nr/\SS n (aw d r).nr<=4000000000000000000)
  (hbg:-4000000000000000000<=dC d (wv d w)/\dC d (wv d w)<=4000000000000000000)
  (N:Nat) (H:ZJ) (hS:ZW d r lo s lvh I (jo (aw d r) be ch w) (fA d r w) H) (hN:N<H.A) (hNs:N≠s/\∀k j,k<r.length->j<6->N≠I k j) (hNg:H.get N=some (.J 0 3 (ints (wv d w)))) (n:Nat) (hn:n=d.C.length)
  (K:ZP->ZJ->Prop) (hK:∀H',H'.A=H.A->kK r s I H H'->ZW d r lo s lvh I (jo (aw d r) be ch (w+1)) (fA d r (w+1)) H'->K (.ret (.nf [])) H'):
  ag prog G0 112 [.M s 0 0,aa w,.U N 0 0 n 1] H K:=by
 subst hn;obtain⟨D,hD⟩:∃D,D=aw d r:=⟨_,rfl⟩
 obtain⟨vals,hvals⟩:∃vals,vals=wv d w:=⟨_,rfl⟩
 rw[<- hvals]at hNg hbg;have hfit:bZ (ak d.C) vals:=by rw[hvals];exact iV hok w
 have hvl:vals.length=d.C.length:=by rw[hfit.1,dk]
 have n8:=hok.n.n1.2;have hDo:=sJ hok hr.mem;rw[<- hD]at hsz hcs hbd hbt hS hK hDo;have hlb:=hS.ng.len.be;have hlc:=hS.ng.len.ch;rw[<- hD]at hlb hlc;have hpl:=kG I r.length;have lso:=ae hS.top;have hll:gF H lvh=some (aa r.length):=by
  rcases hS.lv with ⟨h1,h2⟩|⟨id,g,_,_,h1,h2⟩
  ·have:r.length=0:=(by rw[<- hpl,h2];rfl);rw[h1,this];rfl
  ·rw[h1];unfold gF;simp[ae h2,hpl,aa]
 refine ag.sw (n:=120) (rs:=[]) func112 ?_;refine W.sq ?_;simp only[go_sem];refine W.sq ?_;simp only[go_sem,lso,hll];refine W.en (fun E=>E 0=.M s 0 0 /\ E 1=aa w /\ E 2=.U N 0 0 d.C.length 1 /\ E 6=aa 0 /\ E 13=lvh /\ E 14=aa r.length /\ E 15=aa 0) (by simp only[go_sem]) fun E ⟨e0,e1,e2,e6,e13,e14,e15⟩=>?_
 refine W.aP 1267650600228229401496703173568 (by rfl) (fun ρ Hx=>∃k:Nat,ρ 15=aa k/\k<=r.length/\ρ 6=aa (jY D k w)/\Hx.A=H.A/\kK r s I H Hx/\ZW d r lo s lvh I (ke D be ch w k k k) (fA d r w) Hx) (fun ρ Hx=>r.length-(iv (ρ 15)).toNat) ?_ ?_
 ·simp only[go_sem,e15,e6];exact⟨0,rfl,O,rfl,fun _ _ _=>rfl,hS⟩
 rintro ρ Hx ⟨k,h15,hk,h6,nx,hout,hSx⟩;refine W.en (fun E1=>E1 0=.M s 0 0 /\ E1 1=aa w /\ E1 2=.U N 0 0 d.C.length 1 /\ E1 6=aa (jY D k w) /\ E1 13=lvh /\ E1 14=aa r.length /\ E1 15=aa k) (by simp only[go_sem,e0,e1,e2,h6,e13,e14,h15]) fun E1 ⟨f0,f1,f2,f6,f13,f14,f15⟩=>?_
 by_cases hb:(k:Int)<r.length;rotate_left
 ·refine W.vs ?_;simp only[go_sem,f14,f15,hb];have hkr:k=r.length:=O
  rw[hkr]at hSx;have hS2:ZW d r lo s lvh I (jo D be ch (w+1)) (fA d r w) Hx:=hSx.same (Uc w r.length) (by rw[<- hD];exact FU hlb hlc _);have ls2:=ae hS2.top;have hll2:gF Hx lvh=some (aa r.length):=by
   rcases hS2.lv with ⟨h1,h2⟩|⟨id,g,_,_,h1,h2⟩
   ·have:r.length=0:=(by rw[<- hpl,h2];rfl);rw[h1,this];rfl
   ·rw[h1];unfold gF;simp[ae h2,hpl,aa]
  have ggl:(cP d)[w]?=some (dC d (wv d w)):=tk hw;have gg:(ints (cP d))[w]?=some (aa (dC d (wv d w))):=by rw[fa,ggl];rfl
  have ggn:=aO gg;have ggi:(w:Int)<(cP d).length:=by have:=aI ggl;omega
  by_cases hr0:(r.length:Int)=0
  ·have hr00:r.length=0:=O;refine W.sq ?_;simp only[go_sem,f0,ls2,hll2,hr0];refine W.cond (t:=true) rfl ?_;have et:fA d r (w+1)=fA d r w+dC d (wv d w):=by
    unfold fA;rw[VA hr00,VA hr00,fH];rfl
   have hbt':=hbt (w+1) O;have et2:fA d r (w+1)=SS (w+1) D.nr:=(by unfold fA;rw[VA hr00,hD]);rw[<- et2,et]at hbt';have w6:=Vv (fA d r w+dC d (wv d w)) O;refine W.dr 11 [0,1,3,7,0,16,48,112,0,496,1008] mixed ?_;simp only[go_sem,f0,f1,ls2,gg,ggn,ggi,w6];refine aq.mk (by rw[aA];omega) (hK _ (by rw[aA];exact nx) (fun i h1 h2=>by rw[af,Vx h1];exact hout i h1 h2) ?_);rw[et];exact hS2.FA
  ·have hr00:¬r.length=0:=O;refine W.sq ?_;simp only[go_sem,f0,ls2,hll2,hr0];refine W.cond (t:=false) rfl ?_;have et:fA d r (w+1)=fA d r w:=(by unfold fA;rw[Vx hr00,Vx hr00]);refine W.vs ?_;simp only[go_sem];refine aq.mk O (hK Hx nx hout ?_);rw[et];exact hS2
 have hk2:k<r.length:=O
 refine W.sq ?_;simp only[go_sem,f14,f15,hb];refine W.sq ?_;simp only[go_sem];refine W.seq (W.block ?_);obtain⟨il,gl,hlv,glv,_,_⟩:=hSx.xI hk2;have llv:=ae glv;have hpk:=uS (I:=I) hk2;have hpn:=aO hpk;refine W.sq ?_;simp only[go_sem,f13,f15,hlv,llv,hpk,hb];obtain⟨v,hv⟩:=ao hk2;have hvd:r.getD k 0=v:=gT hv;have hm:=hr.mem v (an hv);obtain⟨x,hx⟩:=ao (fQ.1 hm).1;obtain⟨hrn,hxp,hin,ps⟩:=tp hok hx;obtain⟨r1,r2⟩:=kX hok hx hfit;have hxc:=hok.n.L x (an hx);obtain⟨e1',e2'⟩:=jF hx O;have ecs:D.cs k=bB d.C x:=by rw[hD];show bT d (r.getD k 0)=_;rw[hvd];exact e1'
 have ecd:(D.cd k:Int)=x.L:=by rw[hD];show (cO d (r.getD k 0):Int)=_;rw[hvd];exact e2'
 obtain⟨c,hc⟩:∃c,c=D.nq k w:=⟨_,rfl⟩
 have hcr:c=cY d.C v vals:=by rw[hc,hD,hvals];show cY d.C (r.getD k 0) (wv d w)=_;rw[hvd]
 obtain⟨y,hy⟩:∃y,y=D.nG k w:=⟨_,rfl⟩
 have hcl:c<D.cs k:=by rw[hc];exact hDo.nq k w (by rw[hD];exact hk2) (by rw[hD];exact hw)
 have hyl:y<D.cd k:=by rw[hy];exact hDo.nG k w (by rw[hD];exact hk2) (by rw[hD];exact hw)
 obtain⟨yv,hyv⟩:=ao (l:=vals) (i:=v) (by rw[hvl];exact(fQ.1 hm).1);have hyf:=hfit.2 v _ yv (dw hx) hyv;have hyy:yv=(y:Int):=by
  have:y=(vals.getD v 0).toNat:=by rw[hy,hD,hvals];show ((wv d w).getD (r.getD k 0) 0).toNat=_;rw[hvd]
  rw[iH hyv]at this;omega
 have hgN:Hx.get N=some (.J 0 3 (ints vals)):=(hout N hNs.1 hNs.2).trans hNg;have hpc:bL prog G0 (.Z 98 [] []) [.Q d.C.length (aG d.C),.lit (.int .i64 v),.U N 0 0 d.C.length 1] Hx (.lit (.int .i64 (c:Int))) [N]:=by
  have:=sW d.C v x vals hx hin ps hfit Hx N d.C.length O hgN hvl.symm;rw[hcr,r1];exact this
 have lx:=ae hSx.top;have l0:=ae (hSx.ng.nB k hk2);rw[<- hD]at l0;simp only[iq,hvd]at l0;refine W.seq ?_;refine W.dr 10 [0,1,3,7,15,0,32,96,224,0] mixed ?_;simp only[go_sem,f0,f2,lx,l0];refine au.mono (hpc.2 Hx (fun _ _=>rfl) ZI) fun rr H3 hrr=>?_;obtain⟨rfl,rfl⟩:=hrr;refine⟨trivial,?_⟩;simp only[go_sem]
  -- nw
 have hle1:=(pU D k w)
 have gab:=hSx.ng.ny k 1 hk2 O O;have lab:=ae gab;have tab1:(ke D be ch w k k k).ab k=dh D k w:=by show dh D k (fM w k k)=_;rw[xL ZI]
 simp only[dO,tab1]at lab;have lla:(ints (dh D k w)).length=D.cs k:=by rw[aR];exact hle1
 have hci:(c:Int)<D.cs k:=O
 have e1s:setAt (ints (dh D k w)) c [.lit (.int .i64 (jY D k w:Nat))]=ints (dh D k (w+1)):=by
  rw[gJ O];show _=ints ((dh D k w).set (D.nq k w) (jY D k w));rw[hc]
 refine W.en (fun E2=>E2 0=.M s 0 0 /\ E2 1=aa w /\ E2 2=.U N 0 0 d.C.length 1 /\ E2 6=aa (jY D k w) /\ E2 7=aa k /\ E2 8=.M (I k 0) 0 0 /\ E2 9=aa c /\ E2 15=aa k) (by simp only[go_sem,f0,f1,f2,f6,f15]) fun E2 ⟨m0,m1,m2,m6,m7,m8,m9,m15⟩=>?_
 refine W.sq ?_;simp only[go_sem,m8,m9,m6,l0,lab,lla,hci,e1s];refine⟨O,?_⟩;obtain⟨H4,hH4⟩:∃H4,H4=H3.upd (I k 1) (.J 0 3 (ints (dh D k (w+1)))):=⟨_,rfl⟩
 rw[<- hH4];have hS4:ZW d r lo s lvh I (ke D be ch w (k+1) k k) (fA d r w) H4:=by
  have hb:dO (ke D be ch w (k+1) k k) k 1=.J 0 3 (ints (dh D k (w+1))):=by show ZQ.J 0 _ (ints (dh D k (fM w (k+1) k)))=_;rw[uX (W3 k)]
  rw[hH4,<- hb];refine hSx.upd hk2 O O (fun k' j' h1 h2 h3 h4=>?_) (by rw[<- hD];exact xP hlb hlc _ _ _ _)
  match j',h2,h3 with
  |1,_,_ =>
   show ZQ.J 0 _ (ints (dh D k' (fM w (k+1) k')))=ZQ.J 0 _ (ints (dh D k' (fM w k k')));rw[xM fun e=>h4 ⟨e,rfl⟩]
  |2,_,_=>rfl
  |3,_,_=>rfl
  |4,_,_=>rfl
  |5,_,_=>rfl
 have n4:H4.A=H.A:=by rw[hH4,aA];exact nx
 have o4:kK r s I H H4:=fun i h1 h2=>by rw[hH4,af,Vx (h2 k 1 hk2 O)];exact hout i h1 h2
 clear hH4 lab lx l0
  -- occurs
 have lx:=ae hS4.top;have l0:=ae (hS4.ng.nB k hk2);rw[<- hD]at l0;have loc:=ae (hS4.ng.ny k 2 hk2 O O);have toc:(ke D be ch w (k+1) k k).oc k=eK D k w:=by show eK D k (fM w k k)=_;rw[xL ZI]
 simp only[iq,hvd]at l0;simp only[dO,toc]at loc;have llo:(dm (eK D k w)).length=D.cs k:=by rw[ta];exact qQ D k w
 obtain⟨o,ho⟩:=ao (l:=eK D k w) (i:=c) (by rw[qQ];omega);have go:(dm (eK D k w))[c]?=some (.lit (.bool o)):=by rw[xH,ho];rfl
 have gon:=aO go;have gwl:(dL d)[w]?=some (dR d (wv d w)):=by unfold dL;rw[List.getElem?_map,VT hw];rfl
 have gw:(ints (dL d))[w]?=some (aa (dR d (wv d w))):=by rw[fa,gwl];rfl
 have gwn:=aO gw;have gwi:(w:Int)<(dL d).length:=by have:=aI gwl;omega
 have hwt:D.wt w=dR d (wv d w):=by rw[hD];rfl
 have eos:∀b:Bool,b=(o ||decide (0<dR d (wv d w)))->setAt (dm (eK D k w)) c [.lit (.bool b)]=dm (eK D k (w+1)):=fun b hb2=>by
  rw[Fy (by rw[qQ];omega)];show _=dm ((eK D k w).set (D.nq k w) ((eK D k w).getD (D.nq k w) false ||decide (0<D.wt w)));rw[<- hc,iH ho,hwt,hb2]
 obtain⟨H5,hH5⟩:∃H5,H5=H4.upd (I k 2) (.J 0 4 (dm (eK D k (w+1)))):=⟨_,rfl⟩
 refine W.lZ (fun s'=>s'.H=H5/\s'.ρ 0=.M s 0 0/\s'.ρ 1=aa w/\s'.ρ 2=.U N 0 0 d.C.length 1/\s'.ρ 7=aa k/\s'.ρ 8=.M (I k 0) 0 0/\s'.ρ 9=aa c/\s'.ρ 15=aa k) ?_ ?_
 ·refine W.dr 22 [0,1,3,7,0,0,32,96,224,0,992,2016,4064,8160,16352,32736,65504,8160,262112,524256,1048544,2097120] mixed ?_;cases o with
  |true =>
   have eos':=eos true ZF;simp only[go_sem,m0,m1,m2,m7,m8,m9,m15,l0,loc,llo,go,hci,eos'];exact⟨O,hH5.symm⟩
  |false =>
   by_cases hp:0<dR d (wv d w)
   ·have eos':=eos true (by simp[hp]);simp only[go_sem,m0,m1,m2,m7,m8,m9,m15,lx,l0,loc,llo,go,hci,gw,gwn,gwi,hp,eos'];exact⟨O,hH5.symm⟩
   ·have eos':=eos false (by simp[hp]);simp only[go_sem,m0,m1,m2,m7,m8,m9,m15,lx,l0,loc,llo,go,hci,gw,gwn,gwi,hp,eos'];exact⟨O,hH5.symm⟩
 rintro⟨ρ6,Hq⟩ ⟨hq,p0,p1,p2,p7,p8,p9,p15⟩;simp only at hq p0 p1 p2 p7 p8 p9 p15;subst hq;have hS5:ZW d r lo s lvh I (ke D be ch w (k+1) (k+1) k) (fA d r w) Hq:=by
  have hb:dO (ke D be ch w (k+1) (k+1) k) k 2=.J 0 4 (dm (eK D k (w+1))):=by show ZQ.J 0 _ (dm (eK D k (fM w (k+1) k)))=_;rw[uX (W3 k)]
  rw[hH5,<- hb];refine hS4.upd hk2 O O (fun k' j' h1 h2 h3 h4=>?_) (by rw[<- hD];exact xP hlb hlc _ _ _ _)
  match j',h2,h3 with
  |1,_,_=>rfl
  |2,_,_ =>
   show ZQ.J 0 _ (dm (eK D k' (fM w (k+1) k')))=ZQ.J 0 _ (dm (eK D k' (fM w k k')));rw[xM fun e=>h4 ⟨e,rfl⟩]
  |3,_,_=>rfl
  |4,_,_=>rfl
  |5,_,_=>rfl
 have n5:Hq.A=H.A:=by rw[hH5,aA];exact n4
 have o5:kK r s I H Hq:=fun i h1 h2=>by rw[hH5,af,Vx (h2 k 2 hk2 O)];exact o4 i h1 h2
 clear hH5 loc lx l0;have lx:=ae hS5.top;have l0:=ae (hS5.ng.nB k hk2);rw[<- hD]at l0;simp only[iq,hvd]at l0;have lN:=ae ((o5 N hNs.1 hNs.2).trans hNg);have gy:(ints vals)[v]?=some (aa y):=by rw[fa,hyv,hyy];rfl
 have gyn:=aO gy;have lln:(ints vals).length=d.C.length:=by rw[aR];exact hvl
 have hvi:(v:Int)<d.C.length:=by have:=(fQ.1 hm).1;omega
 have hbr:c*D.cd k+y<D.cs k*D.cd k:=by
  have h3:(c+1)*D.cd k<=D.cs k*D.cd k:=We _ hcl;rw[Wx,XJ]at h3;omega
 have hsz':=hsz k hk2;obtain⟨b,hbe⟩:∃b:Nat,b=c*D.cd k+y:=⟨_,rfl⟩
 have hbD:D.br k w=b:=by rw[hbe,hc,hy];rfl
 have eb1:(c:Int)*(D.cd k:Int)=((c*D.cd k:Nat):Int):=ZF
 have eb2:((c*D.cd k:Nat):Int)+(y:Int)=(b:Int):=by rw[hbe];omega
 rw[<- hbe]at hbr;have w1:=Vv ((c*D.cd k:Nat):Int) O;have w2:=Vv (b:Int) O;refine W.seq ?_;refine W.dr 13 [0,0,2,6,14,31,0,0,128,384,896,1984,4032] mixed ?_;simp only[go_sem,p2,p8,p9,l0,lN,gy,hvi,eb1,w1,eb2,w2];refine W.en (fun E3=>E3 0=.M s 0 0 /\ E3 1=aa w /\ E3 6=aa b /\ E3 7=aa k /\ E3 8=.M (I k 0) 0 0 /\ E3 15=aa k) (by simp only[go_sem,p0,p1,p7,p8,p15]) fun E3 ⟨s0,s1,s6,s7,s8,s15⟩=>?_
 have hll5:gF Hq lvh=some (aa r.length):=by
  rcases hS5.lv with ⟨h1,h2⟩|⟨id,g,_,_,h1,h2⟩
  ·have:r.length=0:=(by rw[<- hpl,h2];rfl);rw[h1,this];rfl
  ·rw[h1];unfold gF;simp[ae h2,hpl,aa]
 have wl:=Vv ((r.length:Int)-1) O;have wk:=Vv ((k:Int)+1) O;have hbrI:jY D (k+1) w=b:=by unfold jY;rw[Vx O,W0];exact hbD
 by_cases hlast:(k:Int)=(r.length:Int)-1
 ·have hKl:k+1=D.K:=by rw[hD];show k+1=r.length;omega
  have hdec:(decide ((k:Int)=(r.length:Int)-1))=true:=V8 hlast;refine W.sq ?_;simp only[go_sem,s0,s7,lx,hll5,wl,hdec];refine W.cond (t:=true) rfl ?_;have lex:=ae (hS5.ng.ny k 3 hk2 O O);have tex:(ke D be ch w (k+1) (k+1) k).ex k=bP D k w:=by show bP D k (fM w k k)=_;rw[xL ZI]
  simp only[dO,tex]at lex;have lle:(ints (bP D k w)).length=D.cs k*D.cd k:=by rw[aR];exact nk D k w
  obtain⟨ev,hev⟩:=ao (l:=bP D k w) (i:=b) (by rw[nk];exact hbr);have gev:(ints (bP D k w))[b]?=some (aa ev):=by rw[fa,hev];rfl
  have gevn:=aO gev;have ggl:(cP d)[w]?=some (dC d vals):=by rw[hvals];exact tk hw
  have gg:(ints (cP d))[w]?=some (aa (dC d vals)):=by rw[fa,ggl];rfl
  have ggn:=aO gg;have ggi:(w:Int)<(cP d).length:=by have:=aI ggl;omega
  have hbi:(b:Int)<(D.cs k*D.cd k:Nat):=O
  have hgw:D.nr w=dC d vals:=by rw[hD,hvals];rfl
  have hKr:k+1=r.length:=by rw[hD]at hKl;exact hKl
  have esucc:bP D k (w+1)=(bP D k w).set b (ev+dC d vals):=by
   show (if k+1=D.K then (bP D k w).set (D.br k w) ((bP D k w).getD (D.br k w) 0+D.nr w) else bP D k w)=_;rw[VA hKl,hbD,iH hev,hgw]
  have hbd':=hbd k b hKr w O;rw[iH hev]at hbd';have w6:=Vv (ev+dC d vals) O;have ees:setAt (ints (bP D k w)) b [.lit (.int .i64 (ev+dC d vals))]=ints (bP D k (w+1)):=by rw[gJ (by rw[nk];exact hbr),esucc]
  refine W.dr 14 [0,1,3,7,0,31,63,0,128,384,896,0,3968,8064] mixed ?_;simp only[go_sem,s0,s1,s6,s8,lx,l0,lex,lle,gev,gg,ggn,ggi,hbi,w6,ees];refine⟨O,?_⟩;refine W.vs ?_;simp only[go_sem,s15,s6,wk];rw[<- hlv];obtain⟨H6,hH6⟩:∃H6,H6=Hq.upd (I k 3) (.J 0 3 (ints (bP D k (w+1)))):=⟨_,rfl⟩
  rw[<- hH6];have n6:H6.A=H.A:=by rw[hH6,aA];exact n5
  refine⟨O,⟨k+1,rfl,O,by rw[hbrI],n6,fun i h1 h2=>by rw[hH6,af,Vx (h2 k 3 hk2 O)];exact o5 i h1 h2,?_⟩,by rw[h15];simp only[aa,aZ];omega⟩;have hb:dO (ke D be ch w (k+1) (k+1) (k+1)) k 3=.J 0 3 (ints (bP D k (w+1))):=by show ZQ.J 0 _ (ints (bP D k (fM w (k+1) k)))=_;rw[uX (W3 k)]
  rw[hH6,<- hb];refine hS5.upd hk2 O O (fun k' j' h1 h2 h3 h4=>?_) (by rw[<- hD];exact xP hlb hlc _ _ _ _)
  match j',h2,h3 with
  |1,_,_=>rfl
  |2,_,_=>rfl
  |3,_,_ =>
   show ZQ.J 0 _ (ints (bP D k' (fM w (k+1) k')))=ZQ.J 0 _ (ints (bP D k' (fM w k k')));rw[xM fun e=>h4 ⟨e,rfl⟩]
  |4,_,_=>rfl
  |5,_,_=>rfl
 ·have hKl:k+1≠D.K:=by rw[hD];show k+1≠r.length;omega
  refine W.sq ?_;simp only[go_sem,s0,s7,lx,hll5,wl,hlast];refine W.cond (t:=false) rfl ?_;refine W.vs ?_;simp only[go_sem];refine W.vs ?_;simp only[go_sem,s15,s6,wk];rw[<- hlv];refine⟨O,⟨k+1,rfl,O,by rw[hbrI],n5,o5,hS5.same (fun k' j' h1=>?_) (by rw[<- hD];exact xP hlb hlc _ _ _ _)⟩,by rw[h15];simp only[aa,aZ];omega⟩;by_cases e:k'=k
  ·subst e;have e0:bP D k' (fM w k' k')=bP D k' (fM w (k'+1) k'):=by
    rw[xL ZI,uX (W3 k')];show _=(if k'+1=D.K then _ else bP D k' w)
    rw[Vx hKl]
   unfold dO ke;simp only[e0]
  ·unfold dO ke;simp only[xM e]
end Go.Proofs
namespace Go.Hx
variable {P:Program}
variable {ids:List Nat}{lo:Nat}{e0 e1:TypeId}{H:ZJ}{v:ZK}
def Z2.xV {n0:Nat}{H':ZJ}{na:List (List ZK)}(h:Z2 lo H e1 e0 v ids na)(hb:∀i∈ids,i<n0)(ht:∀i g n,v=.U i g 0 n 1->i<n0)(hn:H.A<=H'.A)(hk:∀id,id<n0->H'.get id=H.get id):Z2 lo H' e1 e0 v ids na :=
 ⟨h.len,h.nd,fun i hi=>⟨(h.nk i hi).1,by have:=(h.nk i hi).2;omega⟩,h.top.nc ZI hn fun id g _ _ _ hv=>hk id (ht id g _ hv),fun k id r h1 h2=>by
  rw[hk id (hb id (an h1))];exact h.row k id r h1 h2⟩
def Z2.UH {na:List (List ZK)}(h:Z2 lo H e1 e0 v ids na):∀i g n,v=.U i g 0 n 1->i<H.A:=fun i g n hv=>by
 rcases h.top with ⟨h1,_⟩|⟨j,g2,_,h2,h3,_⟩
 ·rw[h1]at hv;cases hv
 ·rw[h3]at hv;rw[<- (ZK.U.inj hv).1];exact h2
end Go.Hx
namespace Go.Proofs
open Go.Hx Tryz
variable {tot:Int}{r:List Nat}{i lo n:Nat}{I:Nat->Nat->Nat}{H:ZJ}{lvh:ZK}{d:ZM}{T:ZV}
def UI (d:ZM)(hok:ZR d)(hf:Z1 d)(h6:d.C.length<=6)(p:List (List Int))(hp:ZU d p)(v0:Nat)(hv0:v0∈aB d)(db eb pb rb sb so lo:Nat)(rv:ZK)(ids:List Nat)
  (H:ZJ) (hE:ExH d p v0 db eb pb rb sb so rv H) (hlt:db<H.A/\eb<H.A/\pb<H.A/\rb<H.A/\sb<H.A/\so<H.A) (hni:db ∉ ids/\eb ∉ ids/\pb ∉ ids/\rb ∉ ids/\sb ∉ ids/\so ∉ ids)
  (hM:Z2 lo H 42 3 rv ids ((gK d (fixC p) v0 0).map ints))
  (K:ZP->ZJ->Prop) (hK:∀H',H.A<=H'.A->(∀id,id<H.A->id ∉ ids->H'.get id=H.get id)->Z2 lo H' 42 3 rv ids ((gK d (fixC p) v0 (bO d.C)).map ints)->K (.ret (.nf [])) H'):
  ag prog G0 111 [.M so 0 0,.Z 122 [] [.M db 0 0,.M eb 0 0,.M pb 0 0,.M rb 0 0,.M sb 0 0]] H K:=by
 have n8:=hok.n.n1;have hcards:∀c∈ak d.C,1<=c/\c<=4:=fun c hc=>by
  obtain⟨x,hx,rfl⟩:=VI.1 hc;exact hok.n.L x hx
 have sm:dV (ak d.C):=nu (by rw[dk];omega) hcards;obtain⟨hdl,hel,hpl,hrl,hsl,hsol⟩:=hlt;obtain⟨hdi,hei,hpi,hri,hsi,hsoi⟩:=hni;have hidl:∀i∈ids,i<H.A:=fun i hi=>(hM.nk i hi).2;have htl:=hM.UH;have lso:=ae hE.hso;unfold xU at lso;have lsoe:∀L,(ext H L).V so 0=_:=fun L=>(ea hsol).trans lso;refine ag.st (n:=19) (rs:=[]) func111 ?_;simp only[go_sem,lsoe];refine au.Z (sY d.C O _ _ ⟨trivial,?_⟩);simp only[go_sem];refine au.Z (sU (ak d.C) _ _ ⟨trivial,?_⟩);simp only[go_sem];obtain⟨H2,hH2⟩:∃H2,H2=ext (ext H [.J 0 184 (ZK.Z 122 [] [.M db 0 0,.M eb 0 0,.M pb 0 0,.M rb 0 0,.M sb 0 0]).cells]) [.J 0 42 [ah (ak d.C)]]:=⟨_,rfl⟩
 have n2:H2.A=H.A+2:=by rw[hH2];rfl
 have o2:ZN H H2:=by rw[hH2];exact(ZN.ext _ _).trans (.ext _ _)
 have g0:H2.get H.A=some (.J 0 184 [.Z 122 [] [.M db 0 0,.M eb 0 0,.M pb 0 0,.M rb 0 0,.M sb 0 0]]):=by rw[hH2,cW];exact bH H _ 0 (ZF)
 have g1:H2.get (H.A+1)=some (.J 0 42 [ah (ak d.C)]):=by rw[hH2,cW];exact bH H _ 1 (ZF)
 refine W.env fun E hE'=>?_;have e3:E 3=.M H.A 0 0:=by rw[hE'];simp only[go_sem]
 have e12:E 12=.Z 131 [] [.M (H.A+1) 0 0]:=by rw[hE'];rfl
 clear hE';show W _ _ _ _ _ _ ⟨E,ext (ext H [.J 0 184 (ZK.Z 122 [] [.M db 0 0,.M eb 0 0,.M pb 0 0,.M rb 0 0,.M sb 0 0]).cells]) [.J 0 42 [ah (ak d.C)]]⟩;rw[<- hH2];have hit:=sT (ak d.C) (fun c hc=>(hcards c hc).1) sm (H.A+1) (H2.A+1) O;have hni2:∀i,H.A<=i->i ∉ ids:=fun i hi hm=>by have:=hidl i hm;omega
 refine W.tu (f:=131) (first:=[]) (cap:=[.M (H.A+1) 0 0]) (by show E 12=_;exact e12) hit
  (fun k Hx=>H2.A<Hx.A/\(∀id,id<H2.A->id ∉ ids->Hx.get id=H2.get id)/\Z2 lo Hx 42 3 rv ids ((gK d (fixC p) v0 k).map ints))
  (fun _ _=>False)
  (fun k Hx h=>(h.2.1 _ O (hni2 _ O)).trans g1)
  (fun k H1 H3 h hw=>⟨by have:=hw.1;omega,fun id h1 h2=>(hw.2 _ O (by have:=h.1;omega)).trans (h.2.1 id h1 h2),h.2.2.xV hidl htl hw.1 fun id hi=>hw.2 id O (by have:=h.1;omega)⟩)
  (fun k Hx h=>h.1)
  (fun k H1 b h=>⟨h.1,fun id h1 h2=>by rw[af,Vx O];exact h.2.1 id h1 h2,h.2.2.xV hidl htl (by rw[aA];exact Nat.le_refl _) fun id hi=>by rw[af,Vx O]⟩)
  (fun _ _ _ h=>h) (fun k H1 b h=>by unfold lH at h ⊢;rw[af,Vx O];exact h)
  (fun b=>⟨by rw[aM];simp,fun id h1 h2=>aX h1,hM.xV hidl htl (by rw[aM];omega) fun id hi=>by rw[aX O,o2.nb _ hi]⟩) (ZG)
  (fun x hx=>by
   obtain⟨k,hk⟩:=VG.1 hx;obtain⟨_,rfl⟩:=lG hk;rfl) (fun _ _ _=>trivial) (fun _ _ _=>trivial) (fun k y Hx B Bb hy hj hcs hn hB hBb=>?_) (fun Hx hj hn=>?_) (fun _ hs _=>hs.elim) (fun _ _ hs _=>hs.elim)
 ·obtain⟨hk,rfl⟩:=lG hy;refine W.vs ?_;simp only[go_sem,eZ,bb,fO,V6,Ws,V7,Wb,hB];obtain⟨H3,hH3⟩:∃H3,H3=Hx.upd H2.A Bb:=⟨_,rfl⟩
  rw[<- hH3];obtain⟨st,pd,n',en,ps',as',bo,hBe⟩:=hBb;have n3:H3.A=Hx.A:=by rw[hH3];rfl
  have o3:∀id,id≠H2.A->H3.get id=Hx.get id:=fun id h=>by rw[hH3,af,Vx h]
  have jB:H3.get H2.A=some Bb:=by rw[hH3,af,VA rfl]
  have k0:=ae ((o3 _ O).trans ((hj.2.1 H.A O (hni2 _ O)).trans g0));have kN:H3.get (H2.A+1)=some (.J 0 3 (ints (aS (ak d.C) k))):=(o3 _ O).trans hcs;have kold:∀id,id<H.A->id ∉ ids->H3.get id=H.get id:=fun id h1 h2=>by rw[o3 _ O,hj.2.1 _ O h2,o2.nb _ h1]
  have hE3:ExH d p v0 db eb pb rb sb so rv H3:=hE.nc fun id hi=>by
   rcases hi with rfl|rfl|rfl|rfl|rfl|rfl
   ·exact kold _ hdl hdi
   ·exact kold _ hel hei
   ·exact kold _ hpl hpi
   ·exact kold _ hrl hri
   ·exact kold _ hsl hsi
   ·exact kold _ hsol hsoi
  have hM3:Z2 lo H3 42 3 rv ids ((gK d (fixC p) v0 k).map ints):=hj.2.2.xV hidl htl O fun id hi=>o3 id O;refine W.en (fun E1=>E1 3=.M H.A 0 0 /\ E1 4=aa k /\ E1 5=.U (H2.A+1) 0 0 d.C.length 1) (by simp only[go_sem,bb,e3,dk]) fun E1 ⟨m3,m4,m5⟩=>?_
  refine W.vs ?_;simp only[go_sem,m3,m4,m5,k0];refine au.Z (UG d hok hf h6 p hp v0 hv0 k hk db eb pb rb sb so (H2.A+1) d.C.length lo rv ids H3 hE3 hM3 kN O rfl _ fun H4 h4n h4o h4M=>⟨⟨_,_,_,_,_,_,_,by rw[h4o _ (hni2 _ O),jB,hBe]⟩,?_⟩);simp only[go_sem,dE];refine⟨by rw[h4o _ (hni2 _ O)];exact jB,O,⟨O,fun id h1 h2=>by rw[h4o _ h2,o3 _ O];exact hj.2.1 id h1 h2,h4M⟩,?_⟩;unfold lH;rw[h4o _ (hni2 _ O)];exact kN
 ·simp only[go_sem];have hl:(nt (ak d.C) (H2.A+1)).length=bO d.C:=qX ..;rw[hl]at hj;exact aq.mk O (hK Hx O (fun id h1 h2=>(hj.2.1 id O h2).trans (o2.nb _ h1)) hj.2.2)
def FV (r:List Nat)(s:Nat)(lvh:ZK)(I:Nat->Nat->Nat)(n0:Nat):Prop:=s<n0/\(∀k j,k<r.length->j<6->I k j<n0)/\∀id g n,lvh=.U id g 0 n 1->id<n0
def ZW.uY {s:Nat}(h:ZW d r lo s lvh I T tot H):FV r s lvh I H.A :=
 ⟨h.nE.2,fun k j h1 h2=>(h.ng.nk k j h1 h2).2,fun id g n hv=>by
  rcases h.lv with ⟨h1,_⟩|⟨id',g',_,h2,h3,_⟩
  ·rw[h1]at hv;cases hv
  ·rw[h3]at hv;rw[<- (ZK.U.inj hv).1];exact h2⟩
def ZW.jM {s n0:Nat}{H':ZJ}(h:ZW d r lo s lvh I T tot H)(hb:FV r s lvh I n0)(hn:H.A<=H'.A)(hk:∀i,i<n0->H'.get i=H.get i):ZW d r lo s lvh I T tot H' :=
 ⟨by rw[hk s hb.1];exact h.top,by have:=h.nE;omega,h.lv.nc ZI hn fun i g _ _ _ hv=>hk i (hb.2.2 _ _ _ hv),h.sep,h.nJ,h.ng.nc hn fun k j h1 h2=>hk _ (hb.2.1 k j h1 h2)⟩
def ZW.len {s:Nat}(h:ZW d r lo s lvh I T tot H):gF H lvh=some (aa r.length):=by
 have hpl:=kG I r.length;rcases h.lv with ⟨h1,h2⟩|⟨id,g,_,_,h1,h2⟩
 ·have:r.length=0:=by rw[<- hpl,h2];rfl
  rw[h1,this];rfl
 ·rw[h1];unfold gF;simp[ae h2,hpl,aa]
def qg (n:Nat):List (List ZK):=(List.range n).map fun (i:Nat)=>[aa ((n:Int)-1-(i:Int))]
def xQ (n:Nat):(qg n).length=n:=by simp[qg]
def FW (h:i<n):(qg n)[i]?=some [aa ((n:Int)-1-i)]:=by unfold qg;rw[List.getElem?_map,VT h];rfl
def FX {y:List ZK}(h:(qg n)[i]?=some y):i<n/\y=[aa ((n:Int)-1-i)]:=by
 have hl:=aI h;rw[xQ]at hl;rw[FW hl]at h;exact⟨hl,(Option.some.inj h).symm⟩
def FY :∀x∈qg n,x.length=1:=fun x hx=>by
 unfold qg at hx;obtain⟨i,_,rfl⟩:=VI.1 hx;rfl
def Ue (d:ZM)(s bx n:Nat)(H:ZJ):Prop:=H.get bx=some (.J 0 134 [.M s 0 0])/\∃lvh tot,H.get s=some (.J 0 178 [.lit (.int .i64 d.X),.Q d.C.length (aG d.C),.lit (.int .u64 (d.Y:Int)),.Q d.nn.length (bj d.nn),lvh,ah (dL d),ah (cP d),.lit (.int .i64 tot)])/\gF H lvh=some (aa n)
def FZ (d:ZM)(s bx n:Nat)(hn:n<=64):vo prog G0 138 [] [.M bx 0 0] (qg n) (Ue d s bx n):=by
 intro idy J Stop H K hS hJ0 hY hK hSt;obtain⟨h1,lvh,tot,h2,h3⟩:=hS 0 H hJ0;have l1:=ae h1;have l2:=ae h2;have w0:=Vv ((n:Int)-1) O;show ag _ _ _ ([.np idy]++[.M bx 0 0]) _ _;refine ag.st (n:=18) (rs:=[]) func138 ?_;simp only[go_sem,l1,l2,h3,w0];refine W.aP 261128 (by rfl) (fun ρ H'=>∃i:Nat,ρ 3=aa ((n:Int)-1-i)/\i<=n/\J i H'/\H.A<=H'.A) (fun ρ H=>(iv (ρ 3)+1).toNat) ?_ ?_
 ·simp only[go_sem];exact⟨0,ZF,O,hJ0⟩
 rintro ρ H' ⟨i,h3,hi,hj,hnx⟩;refine W.vs ?_;by_cases hb:(0:Int)<=(n:Int)-1-i
 ·have hin:i<n:=O
  have w1:=Vv ((n:Int)-1-i-1) O;simp only[go_sem,h3,hb];refine hY _ _ H' _ (FW hin) hj hnx (fun H2 hj2 hn2=>⟨trivial,?_⟩) (fun H2 hs2 hn2=>⟨trivial,?_⟩)
  ·simp only[go_sem,h3,w1];exact⟨O,⟨i+1,by congr 2;omega,O,hj2,O⟩,O⟩
  ·simp only[go_sem];exact aq.mk O (hSt H2 hs2 O)
 ·simp only[go_sem,h3,hb];have ei:i=n:=O
  exact aq.mk O (hK H' (by rw[xQ,<- ei];exact hj) hnx)
def F1 (s:Nat)(H:ZJ)(K:ZP->ZJ->Prop)(hK:K (.ret (.Z 138 [] [.M H.A 0 0])) (ext H [.J 0 134 [.M s 0 0]])):
  ag prog G0 113 [.M s 0 0] H K:=by
 refine ag.st (n:=4) (rs:=[.tmp 2]) func113 ?_;simp only[go_sem];exact aq.mk (by simp[aM]) hK
def Uf (hok:ZR d)(hr:Z6 d r)(hrl:r.length<=64){s:Nat}{be ch:Nat->List Int}
  (hsz:∀k,k<r.length->(aw d r).cs k*(aw d r).cd k<2 ^ 40) (hcs:∀k,k<r.length->(aw d r).cs k<2 ^ 40)
  (hbd:∀(k b:Nat),k+1=r.length->∀n,n<=bO d.C->-4000000000000000000<=(bP (aw d r) k n).getD b 0/\(bP (aw d r) k n).getD b 0<=4000000000000000000) (hbt:∀n,n<=bO d.C->-4000000000000000000<=SS n (aw d r).nr/\SS n (aw d r).nr<=4000000000000000000)
  (hbg:∀w,w<bO d.C->-4000000000000000000<=dC d (wv d w)/\dC d (wv d w)<=4000000000000000000)
  (H:ZJ) (hS:ZW d r lo s lvh I (jo (aw d r) be ch 0) (fA d r 0) H)
  (K:ZP->ZJ->Prop) (hK:∀H',H.A<=H'.A->(∀i,i<H.A->i≠s->(∀k j,k<r.length->j<6->i≠I k j)->H'.get i=H.get i)->ZW d r lo s lvh I (jo (aw d r) be ch (bO d.C)) (fA d r (bO d.C)) H'->K (.ret (.nf [])) H'):
  ag prog G0 111 [.M s 0 0,.Z 112 [.M s 0 0] []] H K:=by
 have n8:=hok.n.n1;have hcards:∀c∈ak d.C,1<=c/\c<=4:=fun c hc=>by
  obtain⟨x,hx,rfl⟩:=VI.1 hc;exact hok.n.L x hx
 have sm:dV (ak d.C):=nu (by rw[dk];omega) hcards;have hB0:=hS.uY;have hsol:=hS.nE.2;have lso:=ae hS.top;have lsoe:∀L,(ext H L).V s 0=_:=fun L=>(ea hsol).trans lso;refine ag.st (n:=19) (rs:=[]) func111 ?_;simp only[go_sem,lsoe];refine au.Z (sY d.C O _ _ ⟨trivial,?_⟩);simp only[go_sem];refine au.Z (sU (ak d.C) _ _ ⟨trivial,?_⟩);simp only[go_sem];obtain⟨H2,hH2⟩:∃H2,H2=ext (ext H [.J 0 184 (ZK.Z 112 [.M s 0 0] []).cells]) [.J 0 42 [ah (ak d.C)]]:=⟨_,rfl⟩
 have n2:H2.A=H.A+2:=by rw[hH2];rfl
 have o2:ZN H H2:=by rw[hH2];exact(ZN.ext _ _).trans (.ext _ _)
 have g0:H2.get H.A=some (.J 0 184 [.Z 112 [.M s 0 0] []]):=by rw[hH2,cW];exact bH H _ 0 (ZF)
 have g1:H2.get (H.A+1)=some (.J 0 42 [ah (ak d.C)]):=by rw[hH2,cW];exact bH H _ 1 (ZF)
 refine W.env fun E hE'=>?_;have e3:E 3=.M H.A 0 0:=by rw[hE'];simp only[go_sem]
 have e12:E 12=.Z 131 [] [.M (H.A+1) 0 0]:=by rw[hE'];rfl
 clear hE';show W _ _ _ _ _ _ ⟨E,ext (ext H [.J 0 184 (ZK.Z 112 [.M s 0 0] []).cells]) [.J 0 42 [ah (ak d.C)]]⟩;rw[<- hH2];have hit:=sT (ak d.C) (fun c hc=>(hcards c hc).1) sm (H.A+1) (H2.A+1) O;have hsn:∀i,H.A<=i->i≠s/\∀k j,k<r.length->j<6->i≠I k j:=fun i hi=>⟨by have:=hB0.1;omega,fun k j h1 h2=>by have:=hB0.2.1 k j h1 h2;omega⟩
 refine W.tu (f:=131) (first:=[]) (cap:=[.M (H.A+1) 0 0]) (by show E 12=_;exact e12) hit
  (fun k Hx=>H2.A<Hx.A/\(∀id,id<H2.A->id≠s->(∀k j,k<r.length->j<6->id≠I k j)->Hx.get id=H2.get id)/\ZW d r lo s lvh I (jo (aw d r) be ch k) (fA d r k) Hx)
  (fun _ _=>False)
  (fun k Hx h=>(h.2.1 _ O (hsn _ O).1 (hsn _ O).2).trans g1)
  (fun k H1 H3 h hw=>⟨by have:=hw.1;omega,fun id h1 h2 h3=>(hw.2 _ O (by have:=h.1;omega)).trans (h.2.1 id h1 h2 h3),h.2.2.jM hB0 hw.1 fun id hi=>hw.2 id O (by have:=h.1;omega)⟩)
  (fun k Hx h=>h.1)
  (fun k H1 b h=>⟨h.1,fun id h1 h2 h3=>by rw[af,Vx O];exact h.2.1 id h1 h2 h3,h.2.2.jM hB0 (by rw[aA];exact Nat.le_refl _) fun id hi=>by rw[af,Vx O]⟩)
  (fun _ _ _ h=>h) (fun k H1 b h=>by unfold lH at h ⊢;rw[af,Vx O];exact h)
  (fun b=>⟨by rw[aM];simp,fun id h1 h2 h3=>aX h1,hS.jM hB0 (by rw[aM];omega) fun id hi=>by rw[aX O,o2.nb _ hi]⟩) (ZG)
  (fun x hx=>by
   obtain⟨k,hk⟩:=VG.1 hx;obtain⟨_,rfl⟩:=lG hk;rfl) (fun _ _ _=>trivial) (fun _ _ _=>trivial) (fun k y Hx B Bb hy hj hcs' hn hB hBb=>?_) (fun Hx hj hn=>?_) (fun _ hs _=>hs.elim) (fun _ _ hs _=>hs.elim)
 ·obtain⟨hk,rfl⟩:=lG hy;refine W.vs ?_;simp only[go_sem,eZ,bb,fO,V6,Ws,V7,Wb,hB];obtain⟨H3,hH3⟩:∃H3,H3=Hx.upd H2.A Bb:=⟨_,rfl⟩
  rw[<- hH3];obtain⟨st,pd,n',en,ps',as',bo,hBe⟩:=hBb;have n3:H3.A=Hx.A:=by rw[hH3];rfl
  have o3:∀id,id≠H2.A->H3.get id=Hx.get id:=fun id h=>by rw[hH3,af,Vx h]
  have jB:H3.get H2.A=some Bb:=by rw[hH3,af,VA rfl]
  have k0:=ae ((o3 _ O).trans ((hj.2.1 H.A O (hsn _ O).1 (hsn _ O).2).trans g0));have kN:H3.get (H2.A+1)=some (.J 0 3 (ints (aS (ak d.C) k))):=(o3 _ O).trans hcs';have hS3:ZW d r lo s lvh I (jo (aw d r) be ch k) (fA d r k) H3:=hj.2.2.jM hB0 O fun id hi=>o3 id O;refine W.en (fun E1=>E1 3=.M H.A 0 0 /\ E1 4=aa k /\ E1 5=.U (H2.A+1) 0 0 d.C.length 1) (by simp only[go_sem,bb,e3,dk]) fun E1 ⟨m3,m4,m5⟩=>?_
  refine W.vs ?_;simp only[go_sem,m3,m4,m5,k0];refine au.Z (Ud hok hr hrl hk hsz hcs hbd hbt (hbg k hk) (H2.A+1) H3 hS3 O (hsn _ O) kN d.C.length rfl _ fun H4 h4n h4o h4S=>⟨⟨_,_,_,_,_,_,_,by rw[h4o _ (hsn _ O).1 (hsn _ O).2,jB,hBe]⟩,?_⟩);simp only[go_sem,dE];refine⟨by rw[h4o _ (hsn _ O).1 (hsn _ O).2];exact jB,O,⟨O,fun id h1 h2 h3=>by rw[h4o _ h2 h3,o3 _ O];exact hj.2.1 id h1 h2 h3,h4S⟩,?_⟩;unfold lH;rw[h4o _ (hsn _ O).1 (hsn _ O).2];exact kN
 ·simp only[go_sem];have hl:(nt (ak d.C) (H2.A+1)).length=bO d.C:=qX ..;rw[hl]at hj;exact aq.mk O (hK Hx O (fun id h1 h2 h3=>(hj.2.1 id O h2 h3).trans (o2.nb _ h1)) hj.2.2)
end Go.Proofs
namespace Go.Hx
variable {P:Program} {t:TypeId} {x y:Operand} {k':IntKind} {a:Int}
def AN (h:0<=a/\a<4294967296):bI P .and t x y (.lit (.int .u64 a)) (.lit (.int .u64 4294967295))=some (.lit (.int .u64 a)):=by
 obtain⟨n,rfl⟩:=VE h.1;rw[vm];have e1:(BitVec.ofInt 64 (n:Int)).toNat=n:=by rw[BitVec.ofInt_natCast,BitVec.toNat_ofNat,X7 O]
 have e:(BitVec.ofInt (IntKind.bits .u64) (n:Int) &&& BitVec.ofInt (IntKind.bits .u64) 4294967295).toNat=n:=by
  show (BitVec.ofInt 64 (n:Int) &&& BitVec.ofInt 64 ((4294967295:Nat):Int)).toNat=n;rw[BitVec.toNat_and,e1,show (BitVec.ofInt 64 ((4294967295:Nat):Int)).toNat=2 ^ 32-1 by rfl,Nat.and_two_pow_sub_one_eq_mod];omega
 rw[e,W8 _ O]
def uZ (h:0<=a/\a<4294967296):bI P .shr t x y (.lit (.int .u64 a)) (.lit (.int k' 32))=some (.lit (.int .u64 0)):=by
 rw[vk ZG];have e:a.fdiv (2 ^ (min (32:Int).toNat (IntKind.bits .u64)))=a / 4294967296:=Y5 a ZG;rw[e,XH h.1 h.2]
end Go.Hx
namespace Go.Proofs
open Go.Hx Tryz
variable {a:Int}{m n:Nat}
def Ug (y:Nat)(hy:y<4294967296)(H:ZJ)(K:ZP->ZJ->Prop)(hK:K (.ret (.nf [.lit (.int .u64 0),.lit (.int .u64 y)])) H):ag prog G0 145 [.lit (.int .u64 1),.lit (.int .u64 y)] H K:=by
 have ky:(0:Int)<=(y:Int)/\(y:Int)<4294967296:=O
 have k1:(0:Int)<=(1:Int)/\(1:Int)<4294967296:=O
 have k0:(0:Int)<=(0:Int)/\(0:Int)<4294967296:=O
 have v:=W8 (y:Int) O;have z1:IntKind.u64.wrap 0=0:=rfl;refine ag.sw (n:=51) (rs:=[.tmp 4,.tmp 5]) func145 ?_;refine W.sq ?_;simp only[go_sem];refine W.env fun E0 hE0=>?_;have a0_0:E0 0=.lit (.int .u64 1):=by rw[hE0];rfl
 have a0_1:E0 1=.lit (.int .u64 y):=by rw[hE0];rfl
 clear hE0;refine W.sq ?_;simp only[go_sem,a0_0,AN,k1];refine W.env fun E1 hE1=>?_;have a1_0:E1 0=.lit (.int .u64 1):=by rw[hE1];exact a0_0
 have a1_1:E1 1=.lit (.int .u64 y):=by rw[hE1];exact a0_1
 have a1_6:E1 6=.lit (.int .u64 1):=by rw[hE1];rfl
 clear hE1;refine W.sq ?_;simp only[go_sem,a1_0,uZ,k1];refine W.env fun E2 hE2=>?_;have a2_0:E2 0=.lit (.int .u64 1):=by rw[hE2];exact a1_0
 have a2_1:E2 1=.lit (.int .u64 y):=by rw[hE2];exact a1_1
 have a2_6:E2 6=.lit (.int .u64 1):=by rw[hE2];exact a1_6
 have a2_7:E2 7=.lit (.int .u64 0):=by rw[hE2];rfl
 clear hE2;refine W.sq ?_;simp only[go_sem,a2_1,AN,ky];refine W.env fun E3 hE3=>?_;have a3_0:E3 0=.lit (.int .u64 1):=by rw[hE3];exact a2_0
 have a3_1:E3 1=.lit (.int .u64 y):=by rw[hE3];exact a2_1
 have a3_6:E3 6=.lit (.int .u64 1):=by rw[hE3];exact a2_6
 have a3_7:E3 7=.lit (.int .u64 0):=by rw[hE3];exact a2_7
 have a3_8:E3 8=.lit (.int .u64 y):=by rw[hE3];rfl
 clear hE3;refine W.sq ?_;simp only[go_sem,a3_1,uZ,ky];refine W.env fun E4 hE4=>?_;have a4_0:E4 0=.lit (.int .u64 1):=by rw[hE4];exact a3_0
 have a4_1:E4 1=.lit (.int .u64 y):=by rw[hE4];exact a3_1
 have a4_6:E4 6=.lit (.int .u64 1):=by rw[hE4];exact a3_6
 have a4_7:E4 7=.lit (.int .u64 0):=by rw[hE4];exact a3_7
 have a4_8:E4 8=.lit (.int .u64 y):=by rw[hE4];exact a3_8
 have a4_9:E4 9=.lit (.int .u64 0):=by rw[hE4];rfl
 clear hE4;refine W.sq ?_;simp only[go_sem,a4_6,a4_8,v,Yh];refine W.env fun E5 hE5=>?_;have a5_0:E5 0=.lit (.int .u64 1):=by rw[hE5];exact a4_0
 have a5_1:E5 1=.lit (.int .u64 y):=by rw[hE5];exact a4_1
 have a5_6:E5 6=.lit (.int .u64 1):=by rw[hE5];exact a4_6
 have a5_7:E5 7=.lit (.int .u64 0):=by rw[hE5];exact a4_7
 have a5_8:E5 8=.lit (.int .u64 y):=by rw[hE5];exact a4_8
 have a5_9:E5 9=.lit (.int .u64 0):=by rw[hE5];exact a4_9
 have a5_10:E5 10=.lit (.int .u64 y):=by rw[hE5];rfl
 clear hE5;refine W.sq ?_;simp only[go_sem,a5_7,a5_8,a5_10,uZ,ky,z1,YS,XP];refine W.env fun E6 hE6=>?_;have a6_0:E6 0=.lit (.int .u64 1):=by rw[hE6];exact a5_0
 have a6_1:E6 1=.lit (.int .u64 y):=by rw[hE6];exact a5_1
 have a6_6:E6 6=.lit (.int .u64 1):=by rw[hE6];exact a5_6
 have a6_7:E6 7=.lit (.int .u64 0):=by rw[hE6];exact a5_7
 have a6_8:E6 8=.lit (.int .u64 y):=by rw[hE6];exact a5_8
 have a6_9:E6 9=.lit (.int .u64 0):=by rw[hE6];exact a5_9
 have a6_10:E6 10=.lit (.int .u64 y):=by rw[hE6];exact a5_10
 have a6_11:E6 11=.lit (.int .u64 0):=by rw[hE6];rfl
 clear hE6;refine W.sq ?_;simp only[go_sem,a6_11,AN,k0];refine W.env fun E7 hE7=>?_;have a7_0:E7 0=.lit (.int .u64 1):=by rw[hE7];exact a6_0
 have a7_1:E7 1=.lit (.int .u64 y):=by rw[hE7];exact a6_1
 have a7_6:E7 6=.lit (.int .u64 1):=by rw[hE7];exact a6_6
 have a7_7:E7 7=.lit (.int .u64 0):=by rw[hE7];exact a6_7
 have a7_8:E7 8=.lit (.int .u64 y):=by rw[hE7];exact a6_8
 have a7_9:E7 9=.lit (.int .u64 0):=by rw[hE7];exact a6_9
 have a7_10:E7 10=.lit (.int .u64 y):=by rw[hE7];exact a6_10
 have a7_11:E7 11=.lit (.int .u64 0):=by rw[hE7];exact a6_11
 have a7_12:E7 12=.lit (.int .u64 0):=by rw[hE7];rfl
 clear hE7;refine W.sq ?_;simp only[go_sem,a7_11,uZ,k0];refine W.env fun E8 hE8=>?_;have a8_0:E8 0=.lit (.int .u64 1):=by rw[hE8];exact a7_0
 have a8_1:E8 1=.lit (.int .u64 y):=by rw[hE8];exact a7_1
 have a8_6:E8 6=.lit (.int .u64 1):=by rw[hE8];exact a7_6
 have a8_7:E8 7=.lit (.int .u64 0):=by rw[hE8];exact a7_7
 have a8_8:E8 8=.lit (.int .u64 y):=by rw[hE8];exact a7_8
 have a8_9:E8 9=.lit (.int .u64 0):=by rw[hE8];exact a7_9
 have a8_10:E8 10=.lit (.int .u64 y):=by rw[hE8];exact a7_10
 have a8_11:E8 11=.lit (.int .u64 0):=by rw[hE8];exact a7_11
 have a8_12:E8 12=.lit (.int .u64 0):=by rw[hE8];exact a7_12
 have a8_13:E8 13=.lit (.int .u64 0):=by rw[hE8];rfl
 clear hE8;refine W.sq ?_;simp only[go_sem,a8_6,a8_9,a8_12,z1,Zm,XP];refine W.env fun E9 hE9=>?_;have a9_0:E9 0=.lit (.int .u64 1):=by rw[hE9];exact a8_0
 have a9_1:E9 1=.lit (.int .u64 y):=by rw[hE9];exact a8_1
 have a9_6:E9 6=.lit (.int .u64 1):=by rw[hE9];exact a8_6
 have a9_7:E9 7=.lit (.int .u64 0):=by rw[hE9];exact a8_7
 have a9_8:E9 8=.lit (.int .u64 y):=by rw[hE9];exact a8_8
 have a9_9:E9 9=.lit (.int .u64 0):=by rw[hE9];exact a8_9
 have a9_10:E9 10=.lit (.int .u64 y):=by rw[hE9];exact a8_10
 have a9_11:E9 11=.lit (.int .u64 0):=by rw[hE9];exact a8_11
 have a9_12:E9 12=.lit (.int .u64 0):=by rw[hE9];rfl
 have a9_13:E9 13=.lit (.int .u64 0):=by rw[hE9];exact a8_13
 clear hE9;refine W.sq ?_;simp only[go_sem,a9_7,a9_9,a9_12,a9_13,uZ,k0,z1,Zm,XP];refine W.env fun E10 hE10=>?_;have a10_0:E10 0=.lit (.int .u64 1):=by rw[hE10];exact a9_0
 have a10_1:E10 1=.lit (.int .u64 y):=by rw[hE10];exact a9_1
 have a10_6:E10 6=.lit (.int .u64 1):=by rw[hE10];exact a9_6
 have a10_7:E10 7=.lit (.int .u64 0):=by rw[hE10];exact a9_7
 have a10_8:E10 8=.lit (.int .u64 y):=by rw[hE10];exact a9_8
 have a10_9:E10 9=.lit (.int .u64 0):=by rw[hE10];exact a9_9
 have a10_10:E10 10=.lit (.int .u64 y):=by rw[hE10];exact a9_10
 have a10_11:E10 11=.lit (.int .u64 0):=by rw[hE10];exact a9_11
 have a10_12:E10 12=.lit (.int .u64 0):=by rw[hE10];exact a9_12
 have a10_13:E10 13=.lit (.int .u64 0):=by rw[hE10];exact a9_13
 have a10_4:E10 4=.lit (.int .u64 0):=by rw[hE10];rfl
 clear hE10;refine W.vs ?_;simp only[go_sem,a10_0,a10_1,a10_4,v,Yh];exact aq.mk ZI hK
def Uh (y:Nat)(hy:y<4294967296)(H:ZJ)(K:ZP->ZJ->Prop)(hK:K (.ret (.nf [.lit (.int .u64 0),.lit (.int .u64 y)])) H):ag prog G0 130 [.lit (.int .u64 1),.lit (.int .u64 y)] H K:=by
 have v:=W8 (y:Int) O;have z1:IntKind.u64.wrap 0=0:=rfl;have z2:IntKind.u64.wrap 1=1:=rfl;refine ag.st (n:=30) (rs:=[.tmp 4,.tmp 5]) func130 ?_;simp only[go_sem];refine au.Z (Ug y hy _ _ ⟨trivial,?_⟩);simp only[go_sem];exact aq.mk ZI hK
def jq (a:Int)(m n:Nat):List Int:=List.replicate n a++List.replicate (m-n) 0
def F2 (h:n<=m):(jq a m n).length=m:=by unfold jq;simp;omega
def Ui (h:n<=m):setAt (ints (jq a m n)) n (((ints (jq a m n)).take n).take (min n (m-n)))=ints (jq a m (n+min n (m-n))):=by
 unfold jq ints setAt;simp only[Wk,X0,List.length_append,VR,VK];apply List.ext_getElem
 ·simp;omega
 ·intro i h1 h2;simp[List.getElem_append,XQ];split
  ·rfl
  ·rw[Vx O]
def F3 (a:Int)(m:Nat)(hm:1<=m/\m<2 ^ 30)(H:ZJ)(K:ZP->ZJ->Prop)(hK:K (.ret (.U H.A 0 0 m 1)) (ext H [.J 0 3 (ints (List.replicate m a))])):
  ag prog G0 95 [ah [a],aa m] H K:=by
 have v:=W8 (m:Int) O;have z2:IntKind.u64.wrap 1=1:=rfl;have v2:=Vv (m:Int) O;have h0:¬(m:Int)<0:=O
 have h9:¬(9223372036854775807:Int)<(m:Int):=O
 refine ag.sw (n:=48) (rs:=[.tmp 4]) func95 ?_;refine W.sq ?_;simp only[go_sem];refine W.sq ?_;simp only[go_sem,h0];refine W.sq ?_;simp only[go_sem,v,z2];refine au.Z (Uh m O _ _ ⟨trivial,?_⟩);simp only[go_sem];refine W.sq ?_;simp only[go_sem,h9];have hm0:(0:Int)<=m:=O
 refine W.sq ?_;simp only[go_sem,v2,hm0];refine⟨O,?_⟩;obtain⟨H1,hH1⟩:∃H1,H1=ext H [.J 0 3 (List.replicate m (.lit (.int .i64 0)))]:=⟨_,rfl⟩
 have e0:List.replicate m (ZK.lit (.int .i64 0))=ints (jq a m 0):=by simp[jq,ints,aa]
 have g1:H1.get H.A=some (.J 0 3 (ints (jq a m 0))):=by rw[hH1,<- e0];exact cI
 have n1:H1.A=H.A+1:=hH1▸rfl
 have ex1:∀(b:ZQ) (i:Nat),i≠H.A->(ext H [b]).get i=H.get i:=fun b i h=>by
  unfold ext;simp only[Wl];rw[Vx O]
 have o1:∀i,i≠H.A->H1.get i=H.get i:=fun i h=>by rw[hH1];exact ex1 _ i h
 rw[<- hH1];clear hH1;have l1:=ae g1;have ll1:(ints (jq a m 0)).length=m:=by rw[aR,F2 O]
 have ec:List.take 1 (ints [a])++List.drop (List.take 1 (ints [a])).length (ints (jq a m 0))=ints (jq a m 1):=by
  obtain⟨q,hq⟩:∃q,m=q+1:=⟨m-1,O⟩
  rw[hq];simp[jq,ints,WC]
 have em:min 1 m=1:=Xk hm.1;refine W.sq ?_;simp only[go_sem,l1,ll1,em];refine⟨rfl,?_⟩;refine W.en (fun E=>E 7=.U H.A 0 0 m 1 /\ E 8=aa 1) (by simp only[go_sem]) fun E ⟨e7,e8⟩=>?_
 refine W.seq (W.block ?_);refine W.aP 140720308486400 (by rfl) (fun ρ Hx=>∃n:Nat,ρ 8=aa n/\1<=n/\n<=m/\Hx.A=H.A+1/\(∀i,i≠H.A->Hx.get i=H.get i)/\Hx.get H.A=some (.J 0 3 (ints (jq a m n)))) (fun ρ Hx=>m-(iv (ρ 8)).toNat) ?_ ?_
 ·simp only[go_sem,e8,ec];exact⟨1,rfl,ZI,hm.1,by rw[aA];exact n1,fun i h=>by rw[af,Vx h];exact o1 i h,by rw[af,VA rfl]⟩
 rintro ρ Hx ⟨n,h8,hn1,hn,nx,xo,xg⟩;refine W.en (fun E1=>E1 7=.U H.A 0 0 m 1 /\ E1 8=aa n) (by simp only[go_sem,e7,h8]) fun E1 ⟨f7,f8⟩=>?_
 have lx:=ae xg;have llx:(ints (jq a m n)).length=m:=by rw[aR,F2 hn]
 by_cases hb:(n:Int)<m;rotate_left
 ·refine W.vs ?_;simp only[go_sem,f7,f8,lx,hb];have hnm:n=m:=O
  refine W.vs ?_;simp only[go_sem,f7];have hx:Hx=ext H [.J 0 3 (ints (List.replicate m a))]:=by
   have hg:∀i,Hx.get i=(ext H [.J 0 3 (ints (List.replicate m a))]).get i:=fun i=>by
    by_cases h:i=H.A
    ·rw[h,xg,hnm,cI];simp[jq]
    ·rw[xo i h,ex1 _ i h]
   cases Hx;simp only at nx hg;unfold ext;congr 1
   ·funext i
    exact hg i
  rw[hx];exact aq.mk (by rw[aM];exact Nat.le_add_right ..) hK
 have em2:n+min n (m-n)<=m:=O
 have w1:=Vv ((n:Int)+(min n (m-n):Nat)) O;have ecp:=Ui (a:=a) hn;refine W.sq ?_;simp only[go_sem,f7,f8,lx,hb];refine W.block ?_;refine W.dr 8 [0,0,0,6,0,0,48,126] mixed ?_;simp only[go_sem,f7,f8,lx,llx,w1,ecp];refine⟨O,O,⟨O,by rw[VZ];intro x hx;exact VZ.1 (ko _) x (VU hx)⟩,by rw[aA,aA];omega,⟨n+min n (m-n),ZF,O,em2,by rw[aA];exact nx,fun i h=>by rw[af,Vx h];exact xo i h,by rw[af,VA rfl]⟩,by rw[h8];simp only[aa,aZ];omega⟩
end Go.Proofs
namespace Go.Hx
section
variable {P:Program} {G:Nat->Option (List ZK)} {rd:Option Nat} {Q:AX->St->Prop} {d:Option Tmp} {ty:TypeId} {pos:String} {aft:Array Edge} {g:Option (Nat × Bool)} {K:St->Prop} {s:St} {t:TypeId} {H:ZJ}
def Pv:bd P G rd Q ⟨d,.makeMap t none,ty,pos,aft,g⟩ K s=bG (s.H.lay s.H.A (.mp [])) fun H'=>K ⟨aW s.ρ d (.np s.H.A),H'⟩:=by
 simp only[bd,ar,iB]
def Pw (x i:Operand):bd P G rd Q ⟨d,.lookup t x i false,ty,pos,aft,g⟩ K s=bG (nJ P s.H t (ay G s.ρ x) (ay G s.ρ i) false) fun v=>K ⟨aW s.ρ d v,s.H⟩:=by
 simp only[bd,ar,iB]
def Px (m k x:Operand):bd P G rd Q ⟨d,.mapUpdate t m k x,ty,pos,aft,g⟩ K s=bG (kg P s.H t (ay G s.ρ m) (ay G s.ρ k) (ay G s.ρ x)) fun vH=>K ⟨aW s.ρ d vH.1,vH.2⟩:=rfl
def Py {K:FP->St->Prop}(x i:Operand):bV P G ⟨d,.lookup t x i false,ty,pos,aft,g⟩ K s=bd P G none QF ⟨d,.lookup t x i false,ty,pos,aft,g⟩ (K ⟨[],fj (ay G s.ρ x)⟩) s:=(rfl)
def Pz {id j:Nat}{k v:Int}{es:List (Int × Int)}(ht:o9 P t=true)(h:H.get id=some (.mp es))(hf:gW k 0 es=some (j,v)):nJ P H t (.np id) (.lit (.int .i64 k)) false=some (.lit (.int .i64 v)):=by
 unfold nJ;rw[VA ht];simp[h,hf,tA]
def PA {id:Nat}{k v:Int}{es:List (Int × Int)}(ht:o9 P t=true)(h:H.get id=some (.mp es)):kg P H t (.np id) (.lit (.int .i64 k)) (.lit (.int .i64 v))=some (.lit undef,H.upd id (.mp (rC es k v))):=by
 unfold kg;rw[VA ht];simp[h]
def C8 (k e:TypeId)(n:Nat)(cells:List ZK)(off:Nat):mJ (some (.map k e)) n cells off=cells[off]?:=rfl
def PB (id:Nat):(ZK.np id).cells=[.np id]:=rfl
def PC (id:Nat):(ZK.np id).one=true:=rfl
def C9 (id:Nat):fj (.np id)=[id]:=rfl
end
def PD {k:Int}:∀ {es:List (Int × Int)} {i:Nat},(∀p∈es,p.1≠k)->gW k i es=none:=by
 intro es
 induction es with
 |nil=>intro i _;rfl
 |cons p es ih =>
  intro i h;obtain⟨a,b⟩:=p;have h1:=h (a,b) (YK ..);unfold gW;rw[Vx fun e=>h1 e.symm];exact ih fun q hq=>h q (Xv _ hq)
def PE {k v:Int}:∀ {es:List (Int × Int)} {i j:Nat},es[j]?=some (k,v)->(∀j' a b,j'<j->es[j']?=some (a,b)->a≠k)->gW k i es=some (i+j,v):=by
 intro es
 induction es with
 |nil=>intro i j h;simp at h
 |cons p es ih =>
  intro i j h hn;obtain⟨a,b⟩:=p;unfold gW;cases j with
  |zero=>simp only[List.getElem?_cons_zero,Option.some.injEq,Prod.mk.injEq]at h;rw[VA h.1.symm,h.2];rfl
  |succ j =>
   rw[Vx fun e=>hn 0 a b (Nat.zero_lt_succ _) rfl e.symm];rw[ih (i:=i+1) (j:=j) (by simpa using h) fun j' a b hj hb=>hn (j'+1) a b O (by simpa using hb)];congr 2;omega
end Go.Hx
namespace Go.Proofs
open Go.Hx Tryz
variable {k r v:Nat}{c:Nat->Nat->Int}{d:ZM}
def bR (d:ZM)(k:Nat):Nat:=(bS ((aL d).take k)).length
def Da (h:(aB d)[k]?=some v):bR d (k+1)=bR d k+(df d v).1.toNat:=by
 unfold bR;rw[aU (nV h),zf,List.length_append,VR]
def zw (hok:ZR d):∀k,k<=(aB d).length->bR d k<=1024*k:=by
 intro k
 induction k with
 |zero=>intro _;exact Nat.le_refl _
 |succ k ih =>
  intro hk;obtain⟨v,hv⟩:=ao (l:=aB d) (i:=k) O;have:=kU hok _ (an (nV hv));have:=ih O;rw[Da hv];omega
def mQ (d:ZM)(k:Nat):List (Int × Int):=(List.range k).map fun j=>(((aB d).getD j 0:Nat),(bR d j:Int))
def Db {j:Nat}(hj:j<k)(h:(aB d)[j]?=some v):(mQ d k)[j]?=some ((v:Int),(bR d j:Int)):=by
 unfold mQ;rw[List.getElem?_map,VT hj];simp[VB,h]
def PF (h:(aB d)[k]?=some v):rC (mQ d k) v (bR d k)=mQ d (k+1):=by
 unfold rC;rw[PD fun p hp=>?_]
 ·unfold mQ;rw[Wy,Wk];simp[VB,h]
 ·obtain⟨j,hj,rfl⟩:=VI.1 hp;have hj:=VP.1 hj;obtain⟨u,hu⟩:=ao (l:=aB d) (i:=j) (by have:=aI h;omega);have h1:=(fw h).2.2;have h2:=(fw hu).2.2;simp only[VB,hu,Option.getD_some,ne_eq,Int.ofNat_inj];intro e;rw[e]at h2;omega
def PG (h:(aB d)[k]?=some v):gW v 0 (mQ d (aB d).length)=some (k,(bR d k:Int)):=by
 have h1:=(fw h).2.2;have:=PE (i:=0) (Db (aI h) h) fun j' a b hj hb e=>by
  obtain⟨u,hu⟩:=ao (l:=aB d) (i:=j') (by have:=aI h;omega);rw[Db (by have:=aI h;omega) hu]at hb;have h2:=(fw hu).2.2;cases hb;have:u=v:=O
  rw[this]at h2;omega
 rwa [Nat.zero_add]at this
def gH (d:ZM)(vals:List Int):List (Int × Int):=(aB d).map fun v=>(((bR d (aY d.Y v)+cY d.C v vals:Nat):Int),vals.getD v 0)
def jA (d:ZM):List (List (Int × Int)):=(List.range (bO d.C)).map fun (w:Nat)=>gH d (wv d w)
def PH {vals:List Int}(h:(aB d)[k]?=some v):(gH d vals)[k]?=some (((bR d k+cY d.C v vals:Nat):Int),vals.getD v 0):=by
 unfold gH;rw[List.getElem?_map,h];simp[(fw h).2.2.symm]
def Dc {w:Nat}(h:w<bO d.C):(jA d)[w]?=some (gH d (wv d w)):=by unfold jA;rw[List.getElem?_map,VT h];rfl
def zx (d:ZM)(vals:List Int):(gH d vals).length=(aB d).length:=by simp[gH]
def pC (d:ZM):(jA d).length=bO d.C:=by simp[jA]
def PI (d:ZM)(hok:ZR d)(H:ZJ)(K:ZP->ZJ->Prop)
  (hK:∀H' C nv cv,ZN H H'->H.A<=C->C<H'.A->H'.get C=some (.J 0 119 [nv,ah (cP d),cv])->aD H.A H' 95 nv ((jA d).map jz)->aD H.A H' 3 cv (ints (cX d))->K (.ret (.M C 0 0)) H'):
  ag prog G0 52 [cM d] H K:=by
 refine ag.Z ⟨_,func52,rfl,rfl⟩ fun hcl=>?_;have hf:=uz hok;have n8:=hok.n.n1;refine ag.st (n:=92) (rs:=[.tmp 2]) func52 ?_;simp only[go_sem,fW,bq];refine W.dr 6 [0,0,2,6,14,14] mixed ?_;simp only[go_sem];refine⟨.nf [ah (dL d),ah (cP d)],[],bL.pure fun H2=>AS d hok hf.Y H2 _ ⟨rfl,rfl⟩,?_⟩;simp only[go_sem,Pv,PB,PC];refine au.Z (vh d _ _ ⟨trivial,?_⟩);simp only[go_sem];obtain⟨R,hR⟩:∃R,R=ext (ext H [.J 0 38 [.lit (.int .i64 d.X),.Q d.C.length (aG d.C),.lit (.int .u64 (d.Y:Int)),.Q d.nn.length (bj d.nn)],.J 0 119 [.lit (.slice none 0 0),ah (cP d),.lit (.slice none 0 0)],.J 0 115 [.M (H.A+1) 0 0],.mp [],.J 0 164 [.np (H.A+3)]]) [dU d]:=⟨_,rfl⟩
 have nR:R.A=H.A+6:=by rw[hR];rfl
 have oR:ZN H R:=by rw[hR];exact(ZN.ext _ _).trans (.ext _ _)
 have g0:R.get H.A=some (dU d):=by rw[hR,cW];exact bH H _ 0 (ZF)
 have g1:R.get (H.A+1)=some (.J 0 119 [.lit (.slice none 0 0),ah (cP d),.lit (.slice none 0 0)]):=by rw[hR,cW];exact bH H _ 1 (ZF)
 have g2:R.get (H.A+2)=some (.J 0 115 [.M (H.A+1) 0 0]):=by rw[hR,cW];exact bH H _ 2 (ZF)
 have g3:R.get (H.A+3)=some (.mp []):=by rw[hR,cW];exact bH H _ 3 (ZF)
 have g4:R.get (H.A+4)=some (.J 0 164 [.np (H.A+3)]):=by rw[hR,cW];exact bH H _ 4 (ZF)
 have g5:R.get (H.A+5)=some (dU d):=by rw[hR,cW];exact bH H _ 5 (ZF)
 unfold ah at hR;rw[<- hR];refine W.env fun E hE=>?_;have e1:E 1=.M H.A 0 0:=by rw[hE];simp only[go_sem]
 have e3:E 3=.M (H.A+2) 0 0:=by rw[hE];simp only[go_sem]
 have e4:E 4=.M (H.A+4) 0 0:=by rw[hE];simp only[go_sem]
 have e24:E 24=.Z 80 [] [.M (H.A+5) 0 0]:=by rw[hE];rfl
 clear hE hR;have hm164:o9 prog 164=true:=ZH
 have hdn:(aB d).length<=d.C.length:=ia;have hrl:=uf d;have hst:∀k,k<=(aB d).length->bR d k<=8192:=fun k hk=>by
  have:=zw hok k hk;omega
 refine W.jN (f:=80) (first:=[]) (cap:=[.M (H.A+5) 0 0]) (by show E 24=_;exact e24) (vf d (by have:=hf.C.1;omega) hf.Y (H.A+5))
  (fun k Hx=>R.A<=Hx.A/\(∀id,id<R.A->id≠H.A+1->id≠H.A+3->Hx.get id=R.get id)/\Hx.get (H.A+3)=some (.mp (mQ d k))/\∃cv,Hx.get (H.A+1)=some (.J 0 119 [.lit (.slice none 0 0),ah (cP d),cv])/\aD (R.A+1) Hx 3 cv (ints (bS ((aL d).take k))))
  (fun _ _=>False)
  (fun k Hx h=>by rw[h.2.1 _ O O O];exact g5)
  (fun k Hx b h=>⟨h.1,fun id h1 h2 h3=>by rw[af,Vx O];exact h.2.1 id h1 h2 h3,by rw[af,Vx O];exact h.2.2.1,by
   obtain⟨cv,a1,a2⟩:=h.2.2.2;exact⟨cv,by rw[af,Vx O];exact a1,a2.nc ZI ZI fun id g h1 h2 _ _=>by rw[af,Vx O]⟩⟩)
  (fun _ _ _ h=>h)
  (fun b=>⟨by rw[aM];omega,fun id h1 _ _=>aX h1,by rw[aX O];exact g3,_,by rw[aX O];exact g1,.nil⟩)
  ZG lD (fun _ _ _=>trivial) (fun _ _ _=>trivial) (fun k y Hx B Bb hy hj hn hB hBb=>?_) (fun Hx hj hn=>?_) (fun _ hs _=>hs.elim) (fun _ _ hs _=>hs.elim)
 ·obtain⟨v,hv,rfl⟩:=kE hy;have hvm:v∈aB d:=an hv;obtain⟨v1,v2,v3⟩:=fw hv;refine W.vs ?_;simp only[go_sem,eZ,bb,fO,V6,Ws,V7,Wb,hB];obtain⟨H3,hH3⟩:∃H3,H3=Hx.upd R.A Bb:=⟨_,rfl⟩
  rw[<- hH3];obtain⟨st,pd,n',en,ps',as',bo,hBe⟩:=hBb;have n3:H3.A=Hx.A:=by rw[hH3];rfl
  have o3:∀id,id≠R.A->H3.get id=Hx.get id:=fun id h=>by rw[hH3,af,Vx h]
  have jB:H3.get R.A=some Bb:=by rw[hH3,af,VA rfl]
  obtain⟨cv,a1,a2⟩:=hj.2.2.2;have kold:∀id,id<R.A->id≠H.A+1->id≠H.A+3->H3.get id=R.get id:=fun id h h1 h2=>(o3 _ O).trans (hj.2.1 _ h h1 h2);have k0:=(kold _ O O O).trans g0;have l2:=ae ((kold _ O O O).trans g2);have l4:=ae ((kold _ O O O).trans g4);have k1:=(o3 (H.A+1) O).trans a1;have k3:=(o3 (H.A+3) O).trans hj.2.2.1;have l1:=ae k1;have a3:aD (R.A+1) H3 3 cv (ints (bS ((aL d).take k))):=a2.nc ZI O fun id g h1 h2 _ _=>o3 id O;have hcl1:gF H3 cv=some (aa (bR d k)):=by
   rcases a3 with ⟨h1,h2⟩|⟨i,g',_,_,h1,h2⟩
   ·have:bR d k=0:=(by have:=congrArg List.length h2;rw[aR]at this;exact this);rw[h1,this];rfl
   ·rw[h1];unfold gF;simp[ae h2,aa,bR,aR]
  unfold bq at k0;have l0:=ae k0;refine W.en (fun E1=>E1 1=.M H.A 0 0 /\ E1 3=.M (H.A+2) 0 0 /\ E1 4=.M (H.A+4) 0 0 /\ E1 6=aa v) (by simp only[go_sem,bb,e1,e3,e4]) fun E1 ⟨m1,m3,m4,m6⟩=>?_
  refine W.vs ?_;simp only[go_sem];refine W.dr 7 [0,0,0,4,12,28,60] mixed ?_;have hU:kg prog H3 164 (.np (H.A+3)) (.lit (.int .i64 v)) (.lit (.int .i64 (bR d k)))=some (.lit undef,H3.upd (H.A+3) (.mp (mQ d (k+1)))):=by
   rw[PA hm164 k3,PF hv]
  simp only[go_sem,m3,m4,m6,l1,l2,l4,hcl1,Px,C8,hU];obtain⟨H4,hH4⟩:∃H4,H4=H3.upd (H.A+3) (.mp (mQ d (k+1))):=⟨_,rfl⟩
  have n4:H4.A=Hx.A:=by rw[hH4,aA];exact n3
  have o4:∀id,id≠H.A+3->H4.get id=H3.get id:=fun id h=>by rw[hH4,af,Vx h]
  have k43:H4.get (H.A+3)=some (.mp (mQ d (k+1))):=by rw[hH4,af,VA rfl]
  rw[<- hH4];obtain⟨x,hx⟩:=ao v1;obtain⟨m,hm⟩:∃m,m=(df d v).1.toNat:=⟨_,rfl⟩
  have hrng:=mZ hok v1 v2;have hne:=eT hx;have f0:=iS hx;have hvl:(v:Int)<d.C.length:=O
  have hxp:cQ x.F d.C.length:=by
   have:=(hok.nA.node _ (an (jm (c:=fun _ _=>0) hx))).2;rw[(jD ..).2,ik]at this;exact this
  have hin:fm x.F d.C.length:=fun q hq=>by have:=hxp.2 q hq;omega
  have hmp:aj (aV d.C x)=(m:Int)/\1<=m/\m<=1024:=by
   unfold df at hm hrng;rw[hx]at hm hrng;simp only at hm hrng;unfold bB at hm hrng;omega
  have hrc:df d v=((m:Int),x.L):=by
   unfold df at hm ⊢;rw[hx]at hm ⊢;simp only at hm ⊢;rw[hm];rfl
  have hb0:aD (R.A+1) H4 3 cv (ints (bS ((aL d).take k))):=a3.nc ZI O fun id g h1 h2 _ _=>o4 id O;have hcs:=hst k (by have:=aI hv;omega);have hs:dV (aV d.C x):=jK n8.2 hxp hok.n.L;obtain⟨cv2,H6,hA,hO,hn6,hp6⟩:=sd (P:=prog) (H:=ext H4 [.J 0 3 [aa x.L]]) (t:=42) (src:=ints (List.replicate m x.L)) (n:=H4.A+1) Tryz.underlying42 Tryz.fE Tryz.fF (by unfold ints;rw[List.all_map];exact VZ.2 fun _ _=>rfl) (by rw[Tryz.gG,aR,aR,VR];unfold bR at hcs;omega) (hb0.over (.ext _ _)) (by rw[aM];omega) rfl;rw[aR,VR]at hA;have hrep:bL prog G0 (.Z 95 [] []) [.U H4.A 0 0 1 1,.lit (.int .i64 m)] (ext H4 [.J 0 3 [.lit (.int .i64 x.L)]]) (.Q m (ints (List.replicate m x.L))) [H4.A] :=
   bL.mk (fun i hi=>by obtain rfl:=List.mem_singleton.1 hi;rw[aM];simp) fun H2 h2 _=>ag.frame aJ (args':=[ah [x.L],aa m]) rfl (fun i hi _=>match i,hi with
    |0,_=>Fz.pZ (cs:=[aa x.L]) ((h2 _ ZF).trans cI) rfl (fun c hc=>⟨.int .i64 x.L,List.mem_singleton.1 hc⟩)
    |1,_=>.lit _) (F3 x.L m O cZ _ ⟨_,rfl,by
     have:=(aD.new (H:=cZ) (e:=3) (cs:=ints (List.replicate m x.L))).mB;rw[aR,VR]at this;unfold ah at this;rw[VR]at this;exact this⟩)
  simp only[aa]at hA;have l1':=ae ((o4 (H.A+1) O).trans k1);have l2':=ae ((o4 (H.A+2) O).trans ((kold _ O O O).trans g2));have l0':=ae ((o4 H.A O).trans k0);unfold bq at l0';have c1:=hb0.cells;have c2:=hO.cells;have t1:=hb0.one;have t2:=hO.one;refine W.dr 18 [0,0,2,6,14,0,32,0,224,480,992,2016,0,4096,0,28672,65504,131070] mixed ?_;have q0:∀b,(ext H4 [b]).V H.A 0=_:=fun b=>(ea O).trans l0';have q1:∀b,(ext H4 [b]).V (H.A+1) 0=_:=fun b=>(ea O).trans l1';have z0:∀x:Nat,x=H4.A->¬x=H.A:=fun x h=>O
  have z1:∀x:Nat,x=H4.A->¬x=H.A+1:=fun x h=>O
  have z2:∀x:Nat,x=H4.A->¬x=H.A+2:=fun x h=>O
  simp only[go_sem,m1,m3,m6,l0',l1',l2',q0,hne,f0,hvl];refine⟨⟨z1,z1,z1,z2,z2⟩,z0,z0,.lit (.int .i64 m),[],bL.pure fun H2=>pX d.C v x hx hin hs H2 _ ⟨by rw[hmp.1];rfl,rfl⟩,?_⟩;simp only[go_sem];refine⟨.Q m (ints (List.replicate m x.L)),[H4.A],hrep,?_⟩;have p6:∀id,id<R.A+1->H6.get id=H4.get id:=fun id h=>(hp6 id (by rw[aM];omega) (hb0.ne O)).trans (aX O);have l16:H6.V (H.A+1) 0=_:=ae ((p6 (H.A+1) O).trans ((o4 (H.A+1) O).trans k1));have hdj:nU (if lX cv=true then { nD:=aT cv,rs:=aT cv } else { nD:=[H4.A+1],rs:=[] }) { nD:=[],rs:=[H.A+2] }:=by
   rcases hb0 with ⟨h,_⟩|⟨i,g,h1,_,h,_⟩
   ·rw[h];simp only[go_sem];omega
   ·rw[h];simp only[go_sem];omega
  simp only[go_sem,m1,m3,m6,hA,l16,c2,t2,dE,hdj];rw[aM]at hn6;simp only[Wl]at hn6;refine⟨by rw[af,Vx O,p6 _ O,o4 _ O];exact jB,by rw[aA];omega,by rw[aA];omega,fun id h h1 h2=>by rw[af,Vx h1,p6 _ O,o4 _ h2];exact kold id h h1 h2,by rw[af,Vx O,p6 _ O];exact k43,cv2,by rw[af,VA rfl],?_⟩;have e:ints (bS ((aL d).take (k+1)))=ints (bS ((aL d).take k))++ints (List.replicate m x.L):=by
   rw[aU (nV hv),zf,hrc,Int.toNat_natCast];unfold ints;rw[Wk]
  rw[e];exact hO.nc ZI (by rw[aA];exact Nat.le_refl _) fun id g h1 _ _ _=>by rw[af,Vx O]
 ·rw[jZ]at hj;obtain⟨cv,a1,a2⟩:=hj.2.2.2;have hxn:=hj.1;have hall:(aL d).take (aB d).length=aL d:=Vy O;rw[hall]at a2;have l0:=ae ((hj.2.1 H.A O O O).trans g0);unfold bq at l0;have hcards:∀c∈ak d.C,1<=c/\c<=4:=fun c hc=>by
   obtain⟨x,hx,rfl⟩:=VI.1 hc;exact hok.n.L x hx
  have sm:dV (ak d.C):=nu (by rw[dk];omega) hcards;have hsz:=sm.prod;have hpp:=dY fun c hc=>(hcards c hc).1;have hw:((bO d.C:Nat):Int)=aj (ak d.C):=by unfold bO;omega
  simp only[go_sem,e1,l0];refine au.Z (sY d.C O _ _ ⟨trivial,?_⟩);simp only[go_sem];refine au.Z (sU (ak d.C) _ _ ⟨trivial,?_⟩);simp only[go_sem];obtain⟨Ra,hRa⟩:∃Ra,Ra=ext Hx [.J 0 42 [ah (ak d.C)]]:=⟨_,rfl⟩
  have nRa:Ra.A=Hx.A+1:=hRa▸rfl
  have ra0:∀id,id<Hx.A->Ra.get id=Hx.get id:=fun id h=>by rw[hRa];exact aX h
  have ra1:=de hRa
  unfold ah at hRa;rw[<- hRa];refine W.env fun E1 hE1=>?_;have m1:E1 1=.M H.A 0 0:=by rw[hE1];simp only[go_sem,e1]
  have m3:E1 3=.M (H.A+2) 0 0:=by rw[hE1];simp only[go_sem,e3]
  have m4:E1 4=.M (H.A+4) 0 0:=by rw[hE1];simp only[go_sem,e4]
  have m57:E1 57=.Z 131 [] [.M Hx.A 0 0]:=by rw[hE1];rfl
  clear hE1;have aold:∀id,id<R.A->id≠H.A+1->id≠H.A+3->Ra.get id=R.get id:=fun id h h1 h2=>(ra0 id O).trans (hj.2.1 id h h1 h2);have ra3:=(ra0 (H.A+3) O).trans hj.2.2.1;have aC:=(ra0 (H.A+1) O).trans a1;refine W.tu (f:=131) (first:=[]) (cap:=[.M Hx.A 0 0]) (by show E1 57=_;exact m57) (sT (ak d.C) (fun c hc=>(hcards c hc).1) sm Hx.A (Ra.A+1) O)
   (fun k Hz=>Ra.A<Hz.A/\(∀id,id<Ra.A->id≠H.A+1->Hz.get id=Ra.get id)/\∃nv,Hz.get (H.A+1)=some (.J 0 119 [nv,ah (cP d),cv])/\aD (Ra.A+2) Hz 95 nv (((jA d).take k).map jz))
   (fun _ _=>False)
   (fun k Hz h=>(h.2.1 _ O O).trans ra1)
   (fun k H1 H3 h hw=>⟨by have:=hw.1;omega,fun id h1 h2=>(hw.2 _ O (by have:=h.1;omega)).trans (h.2.1 id h1 h2),by
    obtain⟨nv,b1,b2⟩:=h.2.2;exact⟨nv,(hw.2 _ O (by have:=h.1;omega)).trans b1,b2.nc ZI hw.1 fun id g h1 h2 _ _=>hw.2 id O h2⟩⟩)
   (fun k Hz h=>h.1)
   (fun k H1 b h=>⟨h.1,fun id h1 h2=>by rw[af,Vx O];exact h.2.1 id h1 h2,by
    obtain⟨nv,b1,b2⟩:=h.2.2;exact⟨nv,by rw[af,Vx O];exact b1,b2.nc ZI ZI fun id g h1 h2 _ _=>by rw[af,Vx O]⟩⟩)
   (fun _ _ _ h=>h) (fun k H1 b h=>by unfold lH at h ⊢;rw[af,Vx O];exact h)
   (fun b=>⟨by rw[aM];simp,fun id h1 h2=>aX h1,_,by rw[aX O];exact aC,.nil⟩) (ZG)
   (fun x hx=>by
    obtain⟨k,hk⟩:=VG.1 hx;obtain⟨_,rfl⟩:=lG hk;rfl) (fun _ _ _=>trivial) (fun _ _ _=>trivial) (fun k y Hz B Bb hy hjz hcs hnz hB hBb=>?_) (fun Hz hjz hnz=>?_) (fun _ hs _=>hs.elim) (fun _ _ hs _=>hs.elim)
  ·obtain⟨hk,rfl⟩:=lG hy;have hB2:∀b,(ext Hz [b]).get Ra.A=some B:=fun b=>(aX (by have:=hjz.1;omega)).trans hB;refine W.vs ?_;simp only[go_sem,eZ,bb,fO,V6,Ws,V7,Wb,hB2];obtain⟨st,pd,n',en,ps',as',bo,hBe⟩:=hBb;obtain⟨nv,b1,b2⟩:=hjz.2.2;have hzn:=hjz.1;obtain⟨vals,hvals⟩:∃vals,vals=wv d k:=⟨_,rfl⟩
   have hfit:bZ (ak d.C) vals:=(by rw[hvals];exact pF (fun c hc=>(hcards c hc).1) _);have hcv:Hz.get (Ra.A+1)=some (.J 0 3 (ints vals)):=(by rw[hvals];exact hcs);have hvl:vals.length=d.C.length:=(by rw[hfit.1,dk]);obtain⟨H3,hH3⟩:∃H3,H3=(ext Hz [.J 0 42 [.U (Ra.A+1) 0 0 (ak d.C).length 1]]).upd Ra.A Bb:=⟨_,rfl⟩
   rw[<- hH3];have n3:H3.A=Hz.A+1:=(by rw[hH3];rfl);have o3:∀id,id<Hz.A->id≠Ra.A->H3.get id=Hz.get id:=fun id h h2=>by rw[hH3,af,Vx h2,aX h]
   have jB:H3.get Ra.A=some Bb:=(by rw[hH3,af,VA rfl]);have k8:H3.get Hz.A=some (.J 0 42 [.U (Ra.A+1) 0 0 (ak d.C).length 1]):=(by rw[hH3,af,Vx O,cI]);clear hH3;have zold:∀id,id<R.A->id≠H.A+1->id≠H.A+3->H3.get id=R.get id:=fun id h h1 h2=>(o3 id O O).trans ((hjz.2.1 id O h1).trans (aold id h h1 h2));have k3:=(o3 (H.A+3) O O).trans ((hjz.2.1 (H.A+3) O O).trans ra3);have kC:=(o3 (H.A+1) O O).trans b1;have kN:=(o3 (Ra.A+1) O O).trans hcv;have l0:=ae ((zold H.A O O O).trans g0);unfold bq at l0;refine W.env fun E2 hE2=>?_;have p1:E2 1=.M H.A 0 0:=(by rw[hE2];simp only[go_sem,bb,m1]);have p3:E2 3=.M (H.A+2) 0 0:=(by rw[hE2];simp only[go_sem,bb,m3]);have p4:E2 4=.M (H.A+4) 0 0:=(by rw[hE2];simp only[go_sem,bb,m4]);have p8:E2 8=.M Hz.A 0 0:=(by rw[hE2];simp only[go_sem,bb]);clear hE2;have q0:∀b,(ext H3 [b]).V H.A 0=_:=fun b=>(ea O).trans l0;refine W.vs ?_;simp only[go_sem,p1,q0];refine au.Z (vh d _ _ ⟨?_,?_⟩)
   ·exact⟨st,pd,n',en,ps',as',bo,by rw[aX (by rw[aM];simp;omega),aX O,jB,hBe]⟩
   simp only[go_sem];obtain⟨R2,hR2⟩:∃R2,R2=ext (ext H3 [.J 0 95 [.lit (.slice none 0 0)]]) [dU d]:=⟨_,rfl⟩
   have nR2:R2.A=Hz.A+3:=(by rw[hR2,aM,aM,n3];rfl);have r2old:∀id,id<H3.A->R2.get id=H3.get id:=fun id h=>by rw[hR2,aX (by rw[aM];omega),aX h]
   have r29:R2.get (Hz.A+1)=some (.J 0 95 [.lit (.slice none 0 0)]):=(by rw[hR2,aX (by rw[aM];simp;omega),<- n3,cI]);have r2b:R2.get (Hz.A+2)=some (dU d):=by
    have:(ext H3 [.J 0 95 [.lit (.slice none 0 0)]]).A=Hz.A+2:=(by rw[aM,n3];rfl);rw[hR2,<- this,cI]
   rw[<- hR2];refine W.env fun E3 hE3=>?_;have s1:E3 1=.M H.A 0 0:=(by rw[hE3];simp only[go_sem,p1]);have s3:E3 3=.M (H.A+2) 0 0:=(by rw[hE3];simp only[go_sem,p3]);have s4:E3 4=.M (H.A+4) 0 0:=(by rw[hE3];simp only[go_sem,p4]);have s8:E3 8=.M Hz.A 0 0:=(by rw[hE3];simp only[go_sem,p8]);have s9:E3 9=.M (Hz.A+1) 0 0:=(by rw[hE3];simp only[go_sem,n3]);have s61:E3 61=.Z 80 [] [.M (Hz.A+2) 0 0]:=(by rw[hE3];simp only[go_sem,n3]);clear hE3 hR2;have jB2:R2.get Ra.A=some Bb:=(r2old _ O).trans jB;refine W.jN (f:=80) (first:=[]) (cap:=[.M (Hz.A+2) 0 0]) (by show E3 61=_;exact s61) (vf d (by have:=hf.C.1;omega) hf.Y (Hz.A+2))
    (fun j Hw=>R2.A<=Hw.A/\(∀id,id<R2.A->id≠Hz.A+1->Hw.get id=R2.get id)/\∃rv,Hw.get (Hz.A+1)=some (.J 0 95 [rv])/\eO (R2.A+1) Hw 97 2 rv j (fJ ((gH d vals).take j)))
    (fun _ _=>False)
    (fun j Hw h=>by rw[h.2.1 _ O O];exact r2b)
    (fun j Hw b h=>⟨h.1,fun id h1 h2=>by rw[af,Vx O];exact h.2.1 id h1 h2,by
     obtain⟨rv,c1,c2⟩:=h.2.2;exact⟨rv,by rw[af,Vx O];exact c1,c2.nc ZI fun id g h1 h2 _=>by rw[af,Vx O]⟩⟩)
    (fun _ _ _ h=>h)
    (fun b=>⟨by rw[aM];omega,fun id h1 _=>aX h1,_,by rw[aX O];exact r29,.nil⟩)
    ZG lD (fun j Hw h=>⟨st,pd,n',en,ps',as',bo,by rw[h.2.1 _ O O,jB2,hBe]⟩) (fun _ _ h=>h.elim) (fun j y2 Hw B2 Bb2 hy2 hjw hnw hB2' hBb2=>?_) (fun Hw hjw hnw=>?_) (fun _ hs _=>hs.elim) (fun _ _ hs _=>hs.elim)
   ·obtain⟨v,hv,rfl⟩:=kE hy2;have hvm:v∈aB d:=an hv;obtain⟨v1,v2,v3⟩:=fw hv;refine W.vs ?_;simp only[go_sem,eZ,bb,fO,V6,Ws,V7,Wb,hB2'];obtain⟨st2,pd2,n2',en2,ps2',as2',bo2,hBe2⟩:=hBb2;obtain⟨rv,c1,c2⟩:=hjw.2.2;have hwn:=hjw.1;obtain⟨H5,hH5⟩:∃H5,H5=Hw.upd R2.A Bb2:=⟨_,rfl⟩
    rw[<- hH5];have n5:H5.A=Hw.A:=(by rw[hH5];rfl);have o5:∀id,id≠R2.A->H5.get id=Hw.get id:=fun id h=>by rw[hH5,af,Vx h]
    have jB5:H5.get R2.A=some Bb2:=(by rw[hH5,af,VA rfl]);clear hH5;have w3:∀id,id<H3.A->H5.get id=H3.get id:=fun id h=>(o5 id O).trans ((hjw.2.1 id O O).trans (r2old id h));have l9:=ae ((o5 (Hz.A+1) O).trans c1);have l0':=(kT (w3 H.A O) 0).trans l0;have l4:=ae ((w3 (H.A+4) O).trans ((zold _ O O O).trans g4));have l8:=ae ((w3 Hz.A O).trans k8);have k35:=(w3 (H.A+3) O).trans k3;have kN5:=(w3 (Ra.A+1) O).trans kN;have lN:=ae kN5;have hO5:eO (R2.A+1) H5 97 2 rv j (fJ ((gH d vals).take j)):=c2.nc O fun id g h1 h2 _=>o5 id O;refine W.env fun E4 hE4=>?_;have u1:E4 1=.M H.A 0 0:=(by rw[hE4];simp only[go_sem,bb,s1]);have u3:E4 3=.M (H.A+2) 0 0:=(by rw[hE4];simp only[go_sem,bb,s3]);have u4:E4 4=.M (H.A+4) 0 0:=(by rw[hE4];simp only[go_sem,bb,s4]);have u8:E4 8=.M Hz.A 0 0:=(by rw[hE4];simp only[go_sem,bb,s8]);have u9:E4 9=.M (Hz.A+1) 0 0:=(by rw[hE4];simp only[go_sem,bb,s9]);have u11:E4 11=aa v:=(by rw[hE4];simp only[go_sem,bb]);clear hE4;obtain⟨x,hx⟩:=ao v1;have hrng:=mZ hok v1 v2;have hxp:cQ x.F d.C.length:=by
     have:=(hok.nA.node _ (an (jm (c:=fun _ _=>0) hx))).2;rw[(jD ..).2,ik]at this;exact this
    have hin:fm x.F d.C.length:=fun q hq=>by have:=hxp.2 q hq;omega
    have hs:dV (aV d.C x):=jK n8.2 hxp hok.n.L;obtain⟨r1,r2⟩:=kX hok hx hfit;have hrl2:bB d.C x<=1024:=by
     unfold df at hrng;rw[hx]at hrng;simp only at hrng;omega
    obtain⟨ri,hri⟩:∃ri,ri=cY d.C v vals:=⟨_,rfl⟩
    rw[<- hri]at r1 r2;obtain⟨a,ha⟩:=ao (l:=vals) (i:=v) O;have hva:(ints vals)[v]?=some (aa a):=(by unfold ints;rw[List.getElem?_map,ha];rfl);have hvne:=aO ha;have hstj:=hst j (by have:=aI hv;omega);have w1:=Vv ((bR d j:Int)+ri) O;have hL:=Pz hm164 k35 (PG hv);have hcl:=dk d.C;have hvc:(v:Int)<d.C.length:=O;have hpc:bL prog G0 (.Z 98 [] []) [.Q d.C.length (aG d.C),.lit (.int .i64 v),.U (Ra.A+1) 0 0 d.C.length 1] H5 (.lit (.int .i64 ri)) [Ra.A+1]:=by
     have:=sW d.C v x vals hx hin hs hfit H5 (Ra.A+1) d.C.length O kN5 hvl.symm;rw[<- r1]at this;exact this
    have c21:=hO5.cells;have c22:=hO5.one;obtain⟨rv2,H6,hA,hO6,hn6,hp6⟩:=vr (P:=prog) (t:=95) (m:=H5.A+1) (xs:=[aa ((bR d j:Int)+ri),aa a]) Tryz.underlying95 Tryz.zq Tryz.zu rfl rfl (by rw[Tryz.zt];have:=aI hv;omega) hO5 O rfl;simp only[aa]at hA;have d21:=hO6.cells;have d22:=hO6.one;have p6:∀id,id<R2.A+1->H6.get id=H5.get id:=fun id h=>hp6 id O (hO5.ne O);have l96:H6.V (Hz.A+1) 0=_:=ae ((p6 (Hz.A+1) O).trans ((o5 (Hz.A+1) O).trans c1));have e5:∀b,(ext H5 [b]).V (Hz.A+1) 0=_:=fun b=>(ea O).trans l9;refine W.vs ?_;simp only[go_sem];refine W.dr 16 [0,0,0,6,0,16,0,0,240,510,0,0,3072,7168,16382,32766] mixed ?_;simp only[go_sem,u1,u4,u8,u9,u11,l0',l4,l8,l9,Py,Pw,C9,C8,hL,hcl];refine⟨.lit (.int .i64 ri),[Ra.A+1],hpc,?_⟩;simp only[go_sem,u1,u4,u8,u9,u11,l8,lN,hva,hvc,w1,hA,l96,d21,d22,C9,dE,hcl];refine⟨fun x h=>O,by rw[af,Vx O,p6 _ O];exact jB5,by rw[aA];omega,by rw[aA];omega,fun id h h1=>by rw[af,Vx h1,p6 _ O,o5 _ O];exact hjw.2.1 id h h1,rv2,by rw[af,VA rfl],?_⟩;have e:fJ ((gH d vals).take (j+1))=fJ ((gH d vals).take j)++[aa ((bR d j:Int)+ri),aa a]:=by
     rw[aU (PH hv),D1,bM ha,<- hri,Int.natCast_add]
    rw[e];exact hO6.nc (by rw[aA];exact Nat.le_refl _) fun id g h1 _ _=>by rw[af,Vx O]
   ·rw[jZ]at hjw;obtain⟨rv,c1,c2⟩:=hjw.2.2;have hwn:=hjw.1;have hall3:(gH d vals).take (aB d).length=gH d vals:=Vy (by rw[zx];omega);rw[hall3,<- zx d vals]at c2;simp only[go_sem];refine W.BQ (eF.kq (s:=⟨E3,Hw⟩) aJ (n:=Hz.A) (ob:=Hz.A+1) (cells':=[jz (gH d vals)]) c1 rfl fun _ i h h'=>?_) ZI ⟨st,pd,n',en,ps',as',bo,by rw[Cw O O,hjw.2.1 _ O O,jB2,hBe]⟩ ?_
    ·obtain rfl:i=0:=(by simp at h;omega);show Fz _ Hw Hw.A rv (jz (gH d vals));unfold jz;rcases c2 with ⟨h1,hz,hc⟩|⟨id,gg,q1,q2,h1,q4,q5⟩
     ·rw[h1,hz,hc];exact .nil
     ·rw[h1];refine .nz ⟨O,O⟩ q5 q4 fun j hj h2 h3=>?_;have e0:(0:Nat)+j=j:=Nat.zero_add j;have h4:j<(fJ (gH d vals)).length:=O;have:=fun Hq=>D2 (S:=fun id=>Hz.A<=id/\id≠Hz.A+1) (H:=Hq) (nx:=Hw.A) (gH d vals) _ (Wo h4);simpa only[e0] using this _
    obtain⟨Hm,hHm⟩:∃Hm,Hm=Hw.kq Hz.A (Hz.A+1) (.J 0 95 [jz (gH d vals)]):=⟨_,rfl⟩
    rw[<- hHm];have nm:Hm.A=Hw.A:=(by rw[hHm];rfl);have om:∀id,id<Hz.A->Hm.get id=H3.get id:=fun id h=>by rw[hHm,Cw h O,hjw.2.1 _ O O,r2old _ O]
    have km:Hm.get (Hz.A+1)=some (.J 0 95 [jz (gH d vals)]):=(by rw[hHm,Cv]);clear hHm;have y9:=ae km;have yC:=ae ((om (H.A+1) O).trans kC);have y2:=ae ((om (H.A+2) O).trans ((zold _ O O O).trans g2));have hOn:aD (Ra.A+2) Hm 95 nv (((jA d).take k).map jz):=b2.nc ZI O fun id g h1 h2 _ _=>(om id h2).trans (o3 id h2 O);have hkw:k<bO d.C:=O;obtain⟨nv2,H6,hA,hO6,hn6,hp6⟩:=iR (P:=prog) (t:=117) (x:=jz (gH d vals)) (n:=Hm.A+1) Tryz.underlying117 Tryz.CZ Tryz.C2 rfl (by rw[Tryz.C0,VJ,VK,pC];omega) hOn O rfl;have d11:=hOn.cells;have d12:=hOn.one;have d21:=hO6.cells;have d22:=hO6.one;have p6:∀id,id<Ra.A+2->H6.get id=Hm.get id:=fun id h=>hp6 id O (hOn.ne O);have yC6:H6.V (H.A+1) 0=_:=ae ((p6 (H.A+1) O).trans ((om (H.A+1) O).trans kC));have yCe:∀b,(ext Hm [b]).V (H.A+1) 0=_:=fun b=>(ea O).trans yC;unfold jz at y9 hA;refine W.dr 8 [0,0,2,6,14,0,32,126] mixed ?_;simp only[go_sem,s3,s9,y2,y9,yC,yC6,hA,d21,d22,dE];have z1:∀x:Nat,x=Hm.A->¬x=H.A+1:=fun x h=>O
    have z2:∀x:Nat,x=Hm.A->¬x=H.A+2:=fun x h=>O
    have kNm:=(om (Ra.A+1) O).trans kN;refine⟨⟨z1,z1,z1,z2,z2⟩,?_,by rw[af,Vx O,p6 _ O,om _ O];exact jB,by rw[aA];omega,⟨by rw[aA];omega,fun id h h1=>by rw[af,Vx h1,p6 _ O,om _ O,o3 _ O O];exact hjz.2.1 id h h1,nv2,by rw[af,VA rfl],?_⟩,?_⟩
    ·rcases hOn with ⟨h,_⟩|⟨i,g,h1,_,h,_⟩
     ·rw[h];simp only[go_sem];omega
     ·rw[h];simp only[go_sem];omega
    ·rw[aU (Dc hkw),Wk,<- hvals];exact hO6.nc ZI (by rw[aA];exact Nat.le_refl _) fun id g h1 _ _ _=>by rw[af,Vx O]
    ·show (H6.upd _ _).get _=_;rw[af,Vx O,p6 _ O,kNm,hvals];rfl
  ·rw[qX]at hjz;obtain⟨nv,b1,b2⟩:=hjz.2.2;have hall2:(jA d).take (aj (ak d.C)).toNat=jA d:=Vy (by rw[pC];omega);rw[hall2]at b2;have ov:ZN H Hz:=⟨O,fun id h=>(hjz.2.1 id O O).trans ((aold id O O O).trans (oR.nb id h))⟩
   have l2:=ae ((hjz.2.1 (H.A+2) O O).trans ((aold (H.A+2) O O O).trans g2));have a3:aD H.A Hz 3 cv (ints (cX d)):=a2.nc O O fun id g h1 h2 _ _=>(hjz.2.1 id O O).trans (ra0 id h2);simp only[go_sem,m3,l2];exact aq.mk ov.A (hK Hz (H.A+1) nv cv ov O O b1 (b2.nc O ZI fun _ _ _ _ _ _=>rfl) a3)
def jt (d:ZM)(c:Nat->Nat->Int)(v:Nat):List (List Int):=(List.range (bT d v)).map fun r=>kx d c v r (cO d v)
def UJ (d:ZM)(c:Nat->Nat->Int)(v:Nat):gK d c v (bO d.C)=jt d c v:=rfl
def UK (d:ZM)(hok:ZR d)(hf:Z1 d)(h6:d.C.length<=6)(p:List (List Int))(hp:ZU d p)(hpf:mA p)(v0:Nat)(hv0:v0∈aB d)
  (H:ZJ) (K:ZP->ZJ->Prop) (hK:K (.ret (.nf [aE (jt d (fixC p) v0),aa 0])) H):ag prog G0 81 [cM d,aE p,aa v0] H K:=by
 refine ag.Z ⟨_,func81,rfl,rfl⟩ fun hcl=>?_;have n8:=hok.n.n1;have hD:=hf.Y;obtain⟨v01,v02⟩:=fR.1 hv0;obtain⟨x,hx⟩:=ao v01;have hxc:=hok.n.L x (an hx);obtain⟨nr,nc⟩:=jF hx O;obtain⟨hrn,hxp,hin,ps⟩:=tp hok hx;have hrc:=mZ hok v01 v02;have hnr:1<=bT d v0/\bT d v0<=1024:=by unfold bT;omega
 refine ag.st (n:=74) (rs:=[.tmp 6,.tmp 7]) func81 ?_;simp only[go_sem,fW,bq];refine au.Z (xD d hf p hpf _ _ ⟨trivial,?_⟩);rw[ow hok hp];have c1:¬(v0:Int)<0:=O
 have c2:¬(v0:Int) >= d.C.length:=O
 have s1:=fun t x y=>nE (P:=prog) (t:=t) (x:=x) (y:=y) (k':=.i64) (s:=v0) hD;have s2:=fun t x y=>oV (P:=prog) (t:=t) (x:=x) (y:=y) (s:=v0) hD;simp only[go_sem,c1,c2,s1,s2,v02];obtain⟨R,hR⟩:∃R,R=ext H [.J 0 38 [.lit (.int .i64 d.X),.Q d.C.length (aG d.C),.lit (.int .u64 (d.Y:Int)),.Q d.nn.length (bj d.nn)],.J 0 33 [aE p],.J 0 3 [.lit (.int .i64 v0)],
  .J 0 178 [.lit (.int .i64 d.X),.Q d.C.length (aG d.C),.lit (.int .u64 (d.Y:Int)),.Q d.nn.length (bj d.nn),.lit (.slice none 0 0),.lit (.slice none 0 0),.lit (.slice none 0 0),.lit (.int .i64 0)],.J 0 134 [.M (H.A+3) 0 0]]:=⟨_,rfl⟩
 have nR:R.A=H.A+5:=hR▸rfl
 have oR:ZN H R:=hR▸.ext _ _
 have g0:R.get H.A=some (dU d):=by rw[hR];exact bH H _ 0 (ZF)
 have g1:=gE hR 1 rfl
 have g2:=gE hR 2 rfl
 have g3:=gE hR 3 rfl
 have g4:=gE hR 4 rfl
 rw[<- hR];refine W.en (fun E=>E 3=.M H.A 0 0 /\ E 4=.M (H.A+1) 0 0 /\ E 5=.M (H.A+2) 0 0 /\ E 9=.M (H.A+4) 0 0) (by simp only[go_sem]) fun E ⟨e3,e4,e5,e9⟩=>?_
 have l0:=ae g0;have l1:=ae g1;have l2:=ae g2;have l3:=ae g3;have l4:=ae g4;unfold bq at l0;refine W.dr 10 [0,0,0,4,12,28,28,61,189,445] mixed ?_;simp only[go_sem,e3,e9,l0,l4];refine⟨.nf [ah (dL d),ah (cP d)],[],bL.pure fun H2=>AS d hok hD H2 _ ⟨rfl,rfl⟩,?_⟩;simp only[go_sem,e3,e9,l3];refine⟨fun x h=>O,?_⟩;obtain⟨R2,hR2⟩:∃R2,R2=(R.upd (H.A+3) (.J 0 178 [.lit (.int .i64 d.X),.Q d.C.length (aG d.C),.lit (.int .u64 (d.Y:Int)),.Q d.nn.length (bj d.nn),.lit (.slice none 0 0),.Q (dL d).length (ints (dL d)),.lit (.slice none 0 0),.lit (.int .i64 0)])).upd (H.A+3)
  (.J 0 178 [.lit (.int .i64 d.X),.Q d.C.length (aG d.C),.lit (.int .u64 (d.Y:Int)),.Q d.nn.length (bj d.nn),.lit (.slice none 0 0),.Q (dL d).length (ints (dL d)),.Q (cP d).length (ints (cP d)),.lit (.int .i64 0)]):=⟨_,rfl⟩
 rw[<- hR2];have nR2:R2.A=H.A+5:=by rw[hR2];exact nR
 have oR2:ZN H R2:=by rw[hR2];exact(oR.upd O _).upd O _
 have k2:∀id,id≠H.A+3->R2.get id=R.get id:=fun id h=>by rw[hR2,af,Vx h,af,Vx h]
 have k3:R2.get (H.A+3)=some (.J 0 178 (xU d)):=by rw[hR2,af,VA rfl];rfl
 have m0:=ae ((k2 _ O).trans g0);have m2:=ae ((k2 _ O).trans g2);unfold bq at m0;simp only[go_sem,e5,m0,m2];refine au.Z (pX d.C v0 x hx hin ps _ _ ⟨trivial,?_⟩);rw[<- hrn];simp only[go_sem];obtain⟨n,hn⟩:∃n,n=bB d.C x:=⟨_,rfl⟩
 obtain⟨cN,hcN⟩:∃c,c=cO d v0:=⟨_,rfl⟩
 rw[<- hn]at nr ⊢;rw[nr]at hnr;rw[<- hcN]at nc;refine⟨O,?_⟩;obtain⟨R3,hR3⟩:∃R3,R3=ext R2 [.J 0 42 (List.replicate n (.lit (.slice none 0 0))),.J 0 33 [.U R2.A 0 0 n 1]]:=⟨_,rfl⟩
 have nR3:R3.A=H.A+7:=by rw[hR3,aM,nR2];rfl
 have oR3:ZN R2 R3:=hR3▸.ext _ _
 have k5:=de hR3
 have k6:=gE hR3 1 rfl
 rw[<- hR3];refine W.en (fun E1=>E1 3=.M H.A 0 0 /\ E1 4=.M (H.A+1) 0 0 /\ E1 5=.M (H.A+2) 0 0 /\ E1 9=.M (H.A+4) 0 0 /\ E1 10=.M (R2.A+1) 0 0 /\ E1 55=aa n /\ E1 56=aa 0) (by simp only[go_sem,e3,e4,e5,e9]) fun E1 ⟨f3,f4,f5,f9,f10,f55,f56⟩=>?_
 let cs:Nat->List ZK:=fun k=>(List.range k).map (fun j=>ZK.U (H.A+7+j) 0 0 cN 1)++List.replicate (n-k) (.lit (.slice none 0 0))
 have csl:∀k,k<=n->(cs k).length=n:=fun k hk=>by show (_++_:List ZK).length=n;simp;omega
 have cs_set:∀k,k<n->setAt (cs k) k [.U (H.A+7+k) 0 0 cN 1]=cs (k+1):=fun k hk=>by
  show setAt (_++List.replicate (n-k) _) k _=_++_;rw[show n-k=(n-(k+1))+1 by omega,WC,U3 ZF,Wy,Wk,List.append_assoc];rfl
 have cs0:cs 0=List.replicate n (.lit (.slice none 0 0)):=by show _++_=_;simp
 refine W.aP 1180519563123373377536 (by rfl) (fun ρ H'=>∃k:Nat,ρ 56=aa k/\k<=n/\H'.A=H.A+7+k/\(∀id,id<H.A+7->id≠R2.A->H'.get id=R3.get id)/\H'.get R2.A=some (.J 0 42 (cs k))/\∀j,j<k->H'.get (H.A+7+j)=some (.J 0 3 (ints (List.replicate cN 0)))) (fun ρ H=>n-(iv (ρ 56)).toNat) ?_ ?_
 ·simp only[go_sem,f56];exact⟨0,rfl,O,O,by rw[cs0];exact k5,fun j hj=>absurd hj (VN _)⟩
 rintro ρ H' ⟨k,h56,hk,hnx,hold,htop,hrows⟩;refine W.en (fun E2=>E2 3=.M H.A 0 0 /\ E2 4=.M (H.A+1) 0 0 /\ E2 5=.M (H.A+2) 0 0 /\ E2 9=.M (H.A+4) 0 0 /\ E2 10=.M (R2.A+1) 0 0 /\ E2 55=aa n /\ E2 56=aa k) (by simp only[go_sem,f3,f4,f5,f9,f10,f55,h56]) fun E2 ⟨p3,p4,p5,p9,p10,p55,p56⟩=>?_
 have q0:=(hold H.A O O).trans ((oR3.nb _ O).trans ((k2 _ O).trans g0));have q1:=(hold (H.A+1) O O).trans ((oR3.nb _ O).trans ((k2 _ O).trans g1));have q2:=(hold (H.A+2) O O).trans ((oR3.nb _ O).trans ((k2 _ O).trans g2));have q3:=(hold (H.A+3) O O).trans ((oR3.nb _ O).trans k3);have q4:=(hold (H.A+4) O O).trans ((oR3.nb _ O).trans ((k2 _ O).trans g4));have q6:=(hold (R2.A+1) O O).trans k6;refine W.vs ?_;by_cases hb:(k:Int)<n
 ·have ec:=iS hx;rw[<- nc]at ec;have hne:=eT hx;have hvn:(v0:Int)<d.C.length:=O
  have w1:=Vv ((k:Int)+1) O;have i0:=ae q0;have i2:=ae q2;have i6:=ae q6;have it:=ae htop;unfold bq at i0;have hcb:(cN:Int)*8<=2 ^ 46/\(cN:Int)<=2 ^ 46:=O
  have hrep:List.replicate cN (ZK.lit (.int .i64 0))=ints (List.replicate cN 0):=by simp[ints,aa]
  have hset:=cs_set k O;rw[<- hnx]at hset;have hcl:=csl k O;have i0e:∀L,(ext H' L).V H.A 0=_:=fun L=>(ea O).trans i0;have ite:∀L,(ext H' L).V R2.A 0=_:=fun L=>(ea O).trans it;simp only[go_sem,p55,p56,hb];refine W.dr 9 [0,0,0,4,0,28,60,124,252] mixed ?_;simp only[go_sem,p3,p5,p10,p56,hb,i0,i2,i6,ite,ec,hne,hvn,hcb,hrep,hset,w1];refine⟨fun x h=>O,O,by rw[aA,aM];omega,⟨k+1,ZF,O,by rw[aA,aM,hnx];rfl,fun id h1 h2=>by rw[af,Vx h2,aX O];exact hold id h1 h2,by rw[af,VA rfl],fun j hj=>?_⟩,by rw[h56];simp only[aa,aZ];omega⟩;rw[af,Vx O];by_cases hjk:j=k
  ·subst hjk;rw[<- hnx];exact cI
  ·rw[aX O];exact hrows j (O)
 ·have hkn:k=n:=O
  subst hkn;have i4:=ae q4;simp only[go_sem,p3,p4,p5,p9,p10,p55,p56,hb,i4];have csn:cs k=(List.range k).map (fun j=>ZK.U (H.A+7+j) 0 0 cN 1):=by show _++_=_;simp
  obtain⟨ids,hids⟩:∃ids,ids=(List.range k).map (fun j=>H.A+7+j):=⟨_,rfl⟩
  have hidm:∀i∈ids,H.A+7<=i/\i<H'.A:=fun i hi=>by
   rw[hids]at hi;obtain⟨j,hj,rfl⟩:=VI.1 hi;have:=VP.1 hj;omega
  have hzip:List.zipWith (fun i n=>ZK.U i 0 0 n 1) ids (((gK d (fixC p) v0 0).map ints).map List.length)=cs k:=by
   rw[csn,hids,Gk,nr,<- hcN];apply V9;intro j;rw[YA,List.getElem?_map,List.getElem?_map,List.getElem?_map,List.getElem?_map,Wc];by_cases hj:j<k
   ·rw[VT hj,VA hj];simp[aR]
   ·rw[VD (by rw[WG];omega)];rfl
  have hM:Z2 H.A H' 42 3 (.U R2.A 0 0 k 1) ids ((gK d (fixC p) v0 0).map ints):=by
   refine⟨by rw[hids,VJ,VJ,WG,vj,nr],by rw[hids];exact(X3 (f:=fun j=>H.A+7+j)).2 (List.Pairwise.imp (fun {a b} h e=>h O) Xp),fun i hi=>by have:=hidm i hi;omega,.inr ⟨R2.A,0,O,O,by rw[hzip,csl k ZI],by rw[hzip];exact htop⟩,fun j id r h1 h2=>?_⟩;rw[hids,List.getElem?_map]at h1;rw[Gk,nr,<- hcN,List.getElem?_map,Wc]at h2;by_cases hj:j<k
   ·rw[VT hj]at h1;rw[VA hj]at h2;cases h1;cases h2;exact hrows j hj
   ·rw[Vx hj]at h2;cases h2
  have hnotin:∀i,i<H.A+7->i ∉ ids:=fun i hi hm=>by have:=hidm i hm;omega
  have hE:ExH d p v0 H.A (H.A+2) (H.A+1) (R2.A+1) (H.A+4) (H.A+3) (.U R2.A 0 0 k 1) H':=⟨q0,q2,q1,q6,q4,q3⟩
  refine au.Z (UI d hok hf h6 p hp v0 hv0 H.A (H.A+2) (H.A+1) (R2.A+1) (H.A+4) (H.A+3) H.A (.U R2.A 0 0 k 1) ids H' hE ⟨O,O,O,O,O,O⟩ ⟨hnotin _ O,hnotin _ O,hnotin _ O,hnotin _ O,hnotin _ O,hnotin _ O⟩ hM _ fun H4 h4n h4o h4M=>⟨trivial,?_⟩);have j6:=ae ((h4o (R2.A+1) O (hnotin _ O)).trans q6);simp only[go_sem,p10,j6];rw[UJ]at h4M;refine aq.bC aJ hcl ⟨O,fun id hi=>?_⟩ ?_ hK
  ·rw[h4o id O (hnotin _ O),hold id O O,oR3.nb _ O,oR2.nb _ hi]
  ·have:=h4M.fz (S:=fun id=>H.A<=id) (nx:=H.A) (fun i hi=>hi) fun r hr c hc=>by
    obtain⟨l,_,rfl⟩:=VI.1 hr;obtain⟨z,_,rfl⟩:=VI.1 hc;exact .lit _
   rw[Xg,VJ]at this;refine .nf rfl fun i hi _=>match i,hi with
    |0,_=>?_
    |1,_=>.lit _
   have e:(List.map ((fun r=>ZK.Q r.length r) ∘ ints) (jt d (fixC p) v0))=(jt d (fixC p) v0).map ah:=V1 fun l _=>by show ZK.Q (ints l).length (ints l)=_;rw[aR];rfl
   rw[e]at this;exact this
def UL (h:r<bT d v):(fk d c v)[r]?=some (((kx d c v r (cO d v)).idxOf (pM d c v r):Nat):Int):=by
 unfold fk;rw[List.getElem?_map,VT h];rfl
def UM (h:r<bT d v):(jt d c v)[r]?=some (kx d c v r (cO d v)):=by
 unfold jt;rw[List.getElem?_map,VT h];rfl
def UN (d:ZM)(c:Nat->Nat->Int)(v:Nat):(jt d c v).length=bT d v:=by simp[jt]
def Gm (d:ZM)(hok:ZR d)(hf:Z1 d)(h6:d.C.length<=6)(p:List (List Int))(hp:ZU d p)(hpf:mA p)(v0:Nat)(hv0:v0∈aB d)
  (H:ZJ) (K:ZP->ZJ->Prop) (hK:∀v H',ZN H H'->aD H.A H' 3 v (ints (fk d (fixC p) v0))->aq prog G0 H K (.nf [v,.lit (.bool (decide (iW d p v0))),aa 0]) H'):ag prog G0 40 [cM d,aE p,aa (aY d.Y v0),aa v0] H K:=by
 obtain⟨v01,v02⟩:=fR.1 hv0;obtain⟨x,hx⟩:=ao v01;have hxc:=hok.n.L x (an hx);obtain⟨nr,nc⟩:=jF hx O;have hrc:=mZ hok v01 v02;have hnr:1<=bT d v0/\bT d v0<=1024:=by unfold bT;omega
 have hcN:1<=cO d v0/\cO d v0<=4:=O
 have hplt:=uu hp hv0;obtain⟨l,hl⟩:=ao hplt;obtain⟨ll,lr⟩:=hp.row _ v0 x l (qU hx v02) hx hl;have gl:(p.map ah)[aY d.Y v0]?=some (ah l):=by rw[List.getElem?_map,hl];rfl
 have gne:=aO hl;have hpi:(aY d.Y v0:Int)<p.length:=O
 refine ag.st (n:=59) (rs:=[.tmp 8,.tmp 9,.tmp 10]) func40 ?_;simp only[go_sem,fW,bq];refine au.Z (UK d hok hf h6 p hp hpf v0 hv0 _ _ ⟨trivial,?_⟩);simp only[go_sem,aE];obtain⟨R,hR⟩:∃R,R=ext H [.J 0 38 [.lit (.int .i64 d.X),.Q d.C.length (aG d.C),.lit (.int .u64 (d.Y:Int)),.Q d.nn.length (bj d.nn)]]:=⟨_,rfl⟩
 have nR:R.A=H.A+1:=hR▸rfl
 have oR:ZN H R:=hR▸.ext _ _
 rw[<- hR];have htl:=UN d (fixC p) v0;refine W.en (fun E=>E 1=aE p /\ E 2=aa (aY d.Y v0) /\ E 8=.lit (.slice none 0 0) /\ E 9=.lit (.bool true) /\ E 26=aE (jt d (fixC p) v0) /\ E 27=aa (bT d v0) /\ E 28=aa 0) (by simp only[go_sem,aE,htl]) fun E ⟨e1,e2,e8,e9,e26,e27,e28⟩=>?_
 refine W.aP 144115187807478528 (by rfl) (fun ρ H'=>∃(k:Nat) (b:Bool),ρ 28=aa k/\k<=bT d v0/\ZN R H'/\aD R.A H' 3 (ρ 8) (ints ((fk d (fixC p) v0).take k))/\ρ 9=.lit (.bool b)/\(b=true↔∀r,r<k->ig d (fixC p) v0 r (fixC p (aY d.Y v0) r)=pM d (fixC p) v0 r)) (fun ρ H=>bT d v0-(iv (ρ 28)).toNat) ?_ ?_
 ·simp only[go_sem,e8,e9,e28];exact⟨0,true,rfl,O,.refl _,.nil,rfl,ZF⟩
 rintro ρ H' ⟨k,b,h28,hk,ov,h8,h9,hb9⟩;obtain⟨v8,hv8⟩:∃v8,v8=ρ 8:=⟨_,rfl⟩
 rw[<- hv8]at h8;refine W.en (fun E2=>E2 1=aE p /\ E2 2=aa (aY d.Y v0) /\ E2 8=v8 /\ E2 9=.lit (.bool b) /\ E2 26=aE (jt d (fixC p) v0) /\ E2 27=aa (bT d v0) /\ E2 28=aa k) (by simp only[go_sem,e1,e2,hv8,h9,e26,e27,h28]) fun E2 ⟨p1,p2,p8,p9,p26,p27,p28⟩=>?_
 refine W.vs ?_;have ovn:=ov.A;by_cases hb:(k:Int)<bT d v0
 ·have hkn:k<bT d v0:=O
  obtain⟨row,hrow⟩:∃row,row=kx d (fixC p) v0 k (cO d v0):=⟨_,rfl⟩
  have hrl:row.length=cO d v0:=by rw[hrow];exact zS ..
  have htg:(jt d (fixC p) v0)[k]?=some row:=by rw[hrow];exact UM hkn
  have htg2:((jt d (fixC p) v0).map ah)[k]?=some (ah row):=by rw[List.getElem?_map,htg];rfl
  have htne:=aO htg;have htk:(k:Int)<(jt d (fixC p) v0).length:=O
  have hr0:row≠[]:=fun h=>by rw[h]at hrl;simp at hrl;omega
  obtain⟨m,hm⟩:∃m,m=pM d (fixC p) v0 k:=⟨_,rfl⟩
  have hmr:iE row=m:=by rw[hm,hrow];rfl
  have hmm:m∈row:=by rw[<- hmr];exact wQ hr0
  have hbg:(fk d (fixC p) v0)[k]?=some ((row.idxOf m:Nat):Int):=by rw[hrow,hm];exact UL hkn
  obtain⟨a,ha⟩:=ao (l:=l) (i:=k) O;have har:=lr a (an ha);obtain⟨ax,rfl⟩:=VE har.1;have hax:ax<cO d v0:=O
  have hra:row[ax]?=some (ig d (fixC p) v0 k (ax:Int)):=by rw[hrow];exact zR hax
  have hca:fixC p (aY d.Y v0) k=(ax:Int):=by unfold fixC;rw[bM hl,bM ha]
  have hlne:=aO ha;have hkl:(k:Int)<l.length:=O
  have hrane:=aO hra;have haxl:(ax:Int)<row.length:=O
  have w1:=Vv ((k:Int)+1) O;simp only[go_sem,p26,p27,p28,hb,aE,htg2,htne,htk];refine au.Z (F4 row hr0 O _ _ ⟨trivial,?_⟩);rw[hmr];simp only[go_sem];refine au.Z (Um row m hmm O _ _ ⟨trivial,?_⟩);obtain⟨pv,H2,hA,ov2,hO,hn2,_⟩:=kL ((row.idxOf m:Nat):Int) ov h8 (by rw[VK,wR];omega);have hnext:∀b':Bool,(b'=true↔b=true/\ig d (fixC p) v0 k (ax:Int)=m)->(b'=true↔∀r,r<k+1->ig d (fixC p) v0 r (fixC p (aY d.Y v0) r)=pM d (fixC p) v0 r):=fun b' h=>by
   rw[h,hb9];constructor
   ·rintro⟨h1,h2⟩ r hr;by_cases hrk:r=k
    ·subst hrk;rw[hca,h2,hm]
    ·exact h1 r (O)
   ·intro h1;exact⟨fun r hr=>h1 r O,by rw[hm,<- hca];exact h1 k O⟩
  have hstep:ints ((fk d (fixC p) v0).take (k+1))=ints ((fk d (fixC p) v0).take k++[((row.idxOf m:Nat):Int)]):=by rw[aU hbg]
  have ov2n:=ov2.A;cases b with
  |false =>
   simp only[go_sem,p8,p9,p28,hA,w1];refine⟨O,⟨k+1,false,ZF,O,ov2,by rw[hstep];exact hO,rfl,hnext false ZF⟩,by rw[h28];simp only[aa,aZ];omega⟩
  |true =>
   by_cases hq:ig d (fixC p) v0 k (ax:Int)=m
   ·simp only[go_sem,p1,p2,p8,p9,p28,hA,w1,aE,gl,gne,hpi,ha,hlne,hkl,hra,hrane,haxl,hq];refine⟨O,⟨k+1,true,ZF,O,ov2,by rw[hstep];exact hO,rfl,hnext true (by simp[hq])⟩,by rw[h28];simp only[aa,aZ];omega⟩
   ·simp only[go_sem,p1,p2,p8,p9,p28,hA,w1,aE,gl,gne,hpi,ha,hlne,hkl,hra,hrane,haxl,hq];refine⟨O,⟨k+1,false,ZF,O,ov2,by rw[hstep];exact hO,rfl,hnext false (by simp[hq])⟩,by rw[h28];simp only[aa,aZ];omega⟩
 ·simp only[go_sem,p8,p9,p27,p28,hb];have hkn:k=bT d v0:=O
  rw[Vy (by rw[wR];omega)]at h8;have hbb:b=decide (iW d p v0):=by
   rw[Xl,hb9,decide_eq_true_eq,hkn];rfl
  rw[hbb];exact hK _ _ (oR.trans ov) (h8.nc O ZI fun _ _ _ _ _ _=>rfl)
def UO (d:ZM)(hok:ZR d)(hf:Z1 d)(h6:d.C.length<=6)(p:List (List Int))(hp:ZU d p)(hpf:mA p)(v0:Nat)(hv0:v0∈aB d)
  (H:ZJ) (K:ZP->ZJ->Prop) (hK:K (.ret (.nf [ah (fk d (fixC p) v0),.lit (.bool (decide (iW d p v0))),aa 0])) H):ag prog G0 40 [cM d,aE p,aa (aY d.Y v0),aa v0] H K:=by
 refine ag.Z ⟨_,func40,rfl,rfl⟩ fun hcl=>Gm d hok hf h6 p hp hpf v0 hv0 H K fun v H' ov ho=>aq.bC aJ hcl ov ?_ hK;exact .nf rfl fun i hi _=>match i,hi with
  |0,_=>ho.hJ fun i hi=>hi
  |1,_=>.lit _
  |2,_=>.lit _
def tq {S:Nat->Prop}{H:ZJ}{nx:Nat}(d:ZM):Fz S H nx (cM d) (cM d):=by
 refine .agg rfl fun i hi _=>?_
 match i,hi with
 |0,_=>exact .lit _
 |1,_=>exact sZ _
 |2,_=>exact .lit _
 |3,_=>exact .Q rfl fun j h h'=>zW d.nn _ (Wo h)
def UP (d:ZM)(hok:ZR d)(hf:Z1 d)(h6:d.C.length<=6)(p:List (List Int))(hp:ZU d p)(hpf:mA p)(v0:Nat)(hv0:v0∈aB d)(H:ZJ)(lo:Nat)(qv:ZK)(hq:aD lo H 42 qv (p.map ah))
  (K:ZP->ZJ->Prop) (hK:K (.ret (.nf [ah (fk d (fixC p) v0),.lit (.bool (decide (iW d p v0))),aa 0])) H):ag prog G0 40 [cM d,qv,aa (aY d.Y v0),aa v0] H K:=by
 refine(ag.frame (H:=H) (args:=[cM d,qv,aa (aY d.Y v0),aa v0]) (args':=[cM d,aE p,aa (aY d.Y v0),aa v0]) (v':=.nf [ah (fk d (fixC p) v0),.lit (.bool (decide (iW d p v0))),aa 0]) aJ rfl (fun i hi _=>?_) (Gm d hok hf h6 p hp hpf v0 hv0 cZ _ fun v H' ov ho=>aq.mk ov.A ⟨_,rfl,?_⟩)).mono ?_
 ·match i,hi with
  |0,_=>exact tq d
  |1,_ =>
   have:=hq.fz (S:=fun _=>True) (nx:=0) (cs':=p.map ah) (fun _ _=>trivial) rfl fun i hi _=>by simp only[VO];exact .dK _
   rw[VJ]at this;exact this
  |2,_=>exact .lit _
  |3,_=>exact .lit _
 ·refine .nf rfl fun i hi _=>?_
  match i,hi with
  |0,_=>exact aD.mB ho
  |1,_=>exact .lit _
  |2,_=>exact .lit _
 ·rintro r H' ⟨rfl,rfl⟩;exact hK
noncomputable def tt (d:ZM)(p:List (List Int)):Bool:=if eA d p=0 then decide (isLocal d p) else false
def UQ {p:List (List Int)}(h:eA d p=0):ZR d/\ZU d p:=by
 unfold eA at h;by_cases h1:ZR d
 ·rw[ep h1]at h;by_cases h2:ZU d p
  ·exact⟨h1,h2⟩
  ·rw[gU h2]at h;cases h
 ·rw[gU h1]at h;cases h
def xW (d:ZM)(hf:Z1 d)(h6:d.C.length<=6)(p:List (List Int))(hpf:mA p)(H:ZJ)(K:ZP->ZJ->Prop)(hK:K (.ret (.nf [.lit (.bool (tt d p)),aa (eA d p)])) H):
  ag prog G0 10 [cM d,aE p] H K:=by
 refine ag.Z ⟨_,func10,rfl,rfl⟩ fun hcl=>?_;refine ag.st (n:=38) (rs:=[.cell 4 4,.cell 5 46]) func10 ?_;simp only[go_sem,fW,bq];refine au.Z (xD d hf p hpf _ _ ⟨trivial,?_⟩);by_cases he:eA d p=0;rotate_left
 ·simp only[go_sem,he];have hl:tt d p=false:=Vx he;rw[hl]at hK;refine aq.bC aJ hcl (.ext _ _) ?_ hK;exact .nf rfl fun i hi _=>match i,hi with
   |0,_=>.lit _
   |1,_=>.lit _
 obtain⟨hok,hp⟩:=UQ he;have hl:tt d p=decide (isLocal d p):=VA he;rw[hl,he]at hK;rw[he];simp only[go_sem];refine au.Z (vh d _ _ ⟨trivial,?_⟩);simp only[go_sem];obtain⟨R,hR⟩:∃R,R=ext (ext H [.J 0 38 [.lit (.int .i64 d.X),.Q d.C.length (aG d.C),.lit (.int .u64 (d.Y:Int)),.Q d.nn.length (bj d.nn)],.J 0 33 [aE p],.J 0 4 [.lit (.bool false)],.J 0 46 [.lit (.int .i64 0)]]) [dU d]:=⟨_,rfl⟩
 have nR:R.A=H.A+5:=by rw[hR];rfl
 have oR:ZN H R:=by rw[hR];exact(ZN.ext _ _).trans (.ext _ _)
 have g0:R.get H.A=some (dU d):=by rw[hR,cW];exact bH H _ 0 (ZF)
 have g1:R.get (H.A+1)=some (.J 0 33 [aE p]):=by rw[hR,cW];exact bH H _ 1 (ZF)
 have g2:R.get (H.A+2)=some (.J 0 4 [.lit (.bool false)]):=by rw[hR,cW];exact bH H _ 2 (ZF)
 have g3:R.get (H.A+3)=some (.J 0 46 [.lit (.int .i64 0)]):=by rw[hR,cW];exact bH H _ 3 (ZF)
 have g4:R.get (H.A+4)=some (dU d):=by rw[hR,cW];exact bH H _ 4 (ZF)
 rw[<- hR];refine W.env fun E hE=>?_;have e2:E 2=.M H.A 0 0:=by rw[hE];simp only[go_sem]
 have e3:E 3=.M (H.A+1) 0 0:=by rw[hE];simp only[go_sem]
 have e4:E 4=.M (H.A+2) 0 0:=by rw[hE];simp only[go_sem]
 have e5:E 5=.M (H.A+3) 0 0:=by rw[hE];simp only[go_sem]
 have e19:E 19=.Z 80 [] [.M (H.A+4) 0 0]:=by rw[hE];rfl
 clear hE;refine W.jN (f:=80) (first:=[]) (cap:=[.M (H.A+4) 0 0]) (by show E 19=_;exact e19) (vf d (by have:=hf.C.1;omega) hf.Y (H.A+4))
  (fun k Hx=>R.A<=Hx.A/\(∀id,id<R.A->Hx.get id=R.get id)/\∀j v,j<k->(aB d)[j]?=some v->iW d p v)
  (fun c Hx=>c=.ret/\R.A<=Hx.A/\(∀id,id<H.A->Hx.get id=R.get id)/\Hx.get (H.A+2)=some (.J 0 4 [.lit (.bool false)])/\Hx.get (H.A+3)=some (.J 0 46 [.lit (.int .i64 0)])/\¬isLocal d p)
  (fun k Hx h=>by rw[h.2.1 _ O];exact g4)
  (fun k Hx b h=>⟨h.1,fun id h1=>by rw[af,Vx O];exact h.2.1 id h1,h.2.2⟩)
  (fun c Hx b h=>⟨h.1,h.2.1,fun id h1=>by rw[af,Vx O];exact h.2.2.1 id h1,by rw[af,Vx O];exact h.2.2.2.1,by rw[af,Vx O];exact h.2.2.2.2.1,h.2.2.2.2.2⟩)
  (fun b=>⟨by rw[aM];omega,fun id h1=>aX h1,fun j v hj=>absurd hj (VN _)⟩)
  ZG lD (fun _ _ _=>trivial) (fun _ _ _=>trivial) (fun k y Hx B Bb hy hj hn hB hBb=>?_) (fun Hx hj hn=>?_) (fun Hx hs hn=>?_) (fun i Hx hs hn=>by cases hs.1)
 ·obtain⟨v,hv,rfl⟩:=kE hy;have hvm:v∈aB d:=an hv;obtain⟨v1,v2,v3⟩:=fw hv;refine W.vs ?_;simp only[go_sem,eZ,bb,fO,V6,Ws,V7,Wb,hB];obtain⟨H3,hH3⟩:∃H3,H3=Hx.upd R.A Bb:=⟨_,rfl⟩
  rw[<- hH3];obtain⟨st,pd,n',en,ps',as',bo,hBe⟩:=hBb;have n3:H3.A=Hx.A:=by rw[hH3];rfl
  have o3:∀id,id≠R.A->H3.get id=Hx.get id:=fun id h=>by rw[hH3,af,Vx h]
  have jB:H3.get R.A=some Bb:=by rw[hH3,af,VA rfl]
  have kold:∀id,id<R.A->H3.get id=R.get id:=fun id h=>(o3 _ O).trans (hj.2.1 _ h);have l0:=ae ((kold _ O).trans g0);have l1:=ae ((kold _ O).trans g1);have l2:=ae ((kold _ O).trans g2);have l3:=ae ((kold _ O).trans g3);unfold bq at l0;refine W.env fun E1 hE1=>?_;have m2:E1 2=.M H.A 0 0:=by rw[hE1];simp only[go_sem,bb,e2]
  have m3:E1 3=.M (H.A+1) 0 0:=by rw[hE1];simp only[go_sem,bb,e3]
  have m4:E1 4=.M (H.A+2) 0 0:=by rw[hE1];simp only[go_sem,bb,e4]
  have m5:E1 5=.M (H.A+3) 0 0:=by rw[hE1];simp only[go_sem,bb,e5]
  have m7:E1 7=aa (aY d.Y v):=by rw[hE1,v3];simp only[go_sem,bb]
  have m8:E1 8=aa v:=by rw[hE1];simp only[go_sem,bb]
  clear hE1;refine W.vs ?_;simp only[go_sem,m2,m3,m7,m8,l0,l1];refine au.Z (UO d hok hf h6 p hp hpf v hvm _ _ ⟨⟨st,pd,n',en,ps',as',bo,by rw[jB,hBe]⟩,?_⟩);have l3u:∀b,(H3.upd (H.A+2) b).V (H.A+3) 0=_:=fun b=>(cH O).trans l3;by_cases hbest:iW d p v
  ·rw[V8 hbest];simp only[go_sem,dE];exact⟨jB,O,O,fun id h=>kold id h,fun j w hj2 hw=>by
    by_cases hjk:j=k
    ·subst hjk;rw[hv]at hw;cases hw;exact hbest
    ·exact hj.2.2 j w O hw⟩
  ·rw[W2 hbest];simp only[go_sem,m4,m5,l2,l3u,dE];refine⟨by simp only[af];rw[Vx O,Vx O];exact jB,by simp only[aA];omega,by simp only[aA];omega,fun id h=>by simp only[af];rw[Vx O,Vx O];exact kold id O,by rw[af,Vx O,af,VA rfl],by rw[af,VA rfl],fun hl=>hbest (hl v hvm)⟩
 ·rw[jZ]at hj;have hloc:isLocal d p:=fun v hv=>by
   obtain⟨j,hjv⟩:=VG.1 hv;exact hj.2.2 j v (aI hjv) hjv
  have l2:=ae ((hj.2.1 _ O).trans g2);have l3:=ae ((hj.2.1 _ O).trans g3);have l3u:∀b,(Hx.upd (H.A+2) b).V (H.A+3) 0=_:=fun b=>(cH O).trans l3;have l2u:∀c b',((Hx.upd (H.A+2) (.J 0 4 [c])).upd (H.A+3) b').V (H.A+2) 0=some (4,[c]):=fun c b'=>(cH O).trans lP;simp only[go_sem,e4,e5,l2,l3u,l2u];rw[V8 hloc]at hK;have ovx:ZN H Hx:=⟨O,fun id h=>(hj.2.1 _ O).trans (oR.nb _ h)⟩
  refine aq.bC aJ hcl ((ovx.upd O _).upd O _) ?_ hK;exact .nf rfl fun i hi _=>match i,hi with
   |0,_=>.lit _
   |1,_=>.lit _
 ·obtain⟨_,h1,h2,h3,h4,h5⟩:=hs;have l2:=ae h3;have l3:=ae h4;simp only[go_sem,e4,e5,l2,l3];rw[W2 h5]at hK;refine aq.bC aJ hcl ⟨O,fun id h=>(h2 _ h).trans (oR.nb _ h)⟩ ?_ hK;exact .nf rfl fun i hi _=>match i,hi with
   |0,_=>.lit _
   |1,_=>.lit _
end Go.Proofs
namespace Go.Hx
variable {P:Program}
def aD.Un {lo:Nat}{H:ZJ}{e:TypeId}{v:ZK}{cs:List ZK}(h:aD lo H e v cs){k:Nat}(hk:k<cs.length):∃id g,v=.U id g 0 cs.length 1/\lo<=id/\id<H.A/\H.get id=some (.J g e cs)/\∀x,aD lo (H.upd id (.J g e (cs.set k x))) e v (cs.set k x):=by
 rcases h with ⟨_,rfl⟩|⟨id,g,h1,h2,rfl,h4⟩
 ·simp at hk
 ·exact⟨id,g,rfl,h1,h2,h4,fun x=>.inr ⟨id,g,h1,by rw[aA];exact h2,by rw[VW],by rw[af,VA rfl]⟩⟩
end Go.Hx
namespace Go.Proofs
open Go.Hx Tryz
variable {b:Bool}{p q r:List (List Int)}{k n v:Nat}{d:ZM}
def F5 {f:Nat->Int}{B:Int}(h:∀i,i<n->-B<=f i/\f i<=B):-(B*n)<=SS n f/\SS n f<=B*n:=by
 induction n with
 |zero=>simp[oh]
 |succ n ih =>
  rw[fH];have h1:=ih fun i hi=>h i O;have h2:=h n (O)
  push_cast
  rw[Yj,Yi];omega
def vd (hok:ZR d)(h6:d.C.length<=6)(c:Nat->Nat->Int):-20000000000000000<=fI d c/\fI d c<=20000000000000000:=by
 have hw:=Gl hok;have:=F5 (n:=bO d.C) (B:=18662400000000) (f:=fun w=>if iU d c (wv d w)=true then dC d (wv d w) else 0) fun i _=>by
  have:=tn hok h6 (iV hok i);split<;>omega
 unfold fI;omega
def ti (d:ZM)(q:List (List Int)):List (List Int):=(aB d).foldl (qH d) q
def tj (d:ZM)(q:List (List Int)):Nat->List (List Int)
 |0=>q
 |n+1=>ti d (tj d q n)
structure Imp (d:ZM)(p q:List (List Int))(n:Nat):Prop where
 ok:ZU d q
 same:n=0->q=p
 loc:isLocal d p->n=0
 sum:fI d (fixC p)+n<=fI d (fixC q)
 it:q=tj d p n
 bef:∀j,j<n->¬isLocal d (tj d p j)
def Imp.start (h:ZU d p):Imp d p p 0:=⟨h,fun _=>rfl,fun _=>rfl,ZF,rfl,fun j h=>absurd h (VN _)⟩
def Imp.uniq {q':List (List Int)}{n':Nat}(h:Imp d p q n)(hl:isLocal d q)(h':Imp d p q' n')(hl':isLocal d q'):q=q'/\n=n':=by
 have e:n=n':=by
  rcases Xh n n' with hlt|e|hlt
  ·exact absurd (h.it ▸ hl) (h'.bef n hlt)
  ·exact e
  ·exact absurd (h'.it ▸ hl') (h.bef n' hlt)
 subst e;exact⟨by rw[h.it,h'.it],rfl⟩
structure Rnd (d:ZM)(q:List (List Int))(k:Nat)(b:Bool)(r:List (List Int)):Prop where
 ok:ZU d r
 no:b=false->r=q/\∀j v,j<k->(aB d)[j]?=some v->iW d q v
 yes:b=true->¬isLocal d q/\fI d (fixC q)<fI d (fixC r)
 fold:r=((aB d).take k).foldl (qH d) q
def Rnd.start (h:ZU d q):Rnd d q 0 false q:=⟨h,fun _=>⟨rfl,fun j v hj=>absurd hj (VN _)⟩,fun h=>Bool.noConfusion h,rfl⟩
def F6 (h:r=((aB d).take k).foldl (qH d) q)(hv:(aB d)[k]?=some v):qH d r v=((aB d).take (k+1)).foldl (qH d) q:=by
 rw[aU hv,WD,<- h];rfl
def Rnd.F7 (h:Rnd d q k b r)(hv:(aB d)[k]?=some v)(hb:iW d r v):Rnd d q (k+1) b r :=
 ⟨h.ok,fun e=>⟨(h.no e).1,fun j w hj hw=>by
  by_cases hjk:j=k
  ·subst hjk;rw[hv]at hw;cases hw;rw[<- (h.no e).1];exact hb
  ·exact(h.no e).2 j w O hw⟩,h.yes,by rw[<- F6 h.fold hv];unfold qH;rw[VA hb]⟩
def Rnd.step (hok:ZR d)(h:Rnd d q k b r)(hv:(aB d)[k]?=some v)(hb:¬iW d r v):Rnd d q (k+1) true (r.set (aY d.Y v) (fk d (fixC r) v)):=by
 have hvm:v∈aB d:=an hv;refine⟨DH hok h.ok hvm,fun e=>(Bool.noConfusion e),fun _=>?_,by rw[<- F6 h.fold hv];unfold qH;rw[Vx hb]⟩;have hg:=DJ hok h.ok hvm hb;cases b with
 |false =>
  have e:=(h.no rfl).1;subst e;exact⟨fun hl=>hb (hl v hvm),hg⟩
 |true =>
  obtain⟨h1,h2⟩:=h.yes rfl;exact⟨h1,O⟩
def Rnd.done (h:Rnd d q (aB d).length false r):r=q/\isLocal d q :=
 ⟨(h.no rfl).1,fun v hv=>by
  obtain⟨j,hj⟩:=VG.1 hv;exact(h.no rfl).2 j v (aI hj) hj⟩
def Imp.round (h:Imp d p q n)(hr:Rnd d q (aB d).length true r):Imp d p r (n+1):=by
 obtain⟨h1,h2⟩:=hr.yes rfl;refine⟨hr.ok,fun e=>O,fun hl=>?_,?_,?_,fun j hj=>?_⟩;rotate_left 2
 ·show r=ti d (tj d p n);rw[<- h.it,hr.fold,XG];rfl
 ·by_cases hjn:j=n
  ·subst hjn;rw[<- h.it];exact h1
  ·exact h.bef j (O)
 ·have hn:=h.loc hl;rw[h.same hn]at h1;exact absurd hl h1
 ·have:=h.sum
  push_cast
  omega
def Imp.bound (hok:ZR d)(h6:d.C.length<=6)(h:Imp d p q n):n<=40000000000000000:=by
 have h1:=vd hok h6 (fixC p);have h2:=vd hok h6 (fixC q);have:=h.sum;omega
def Uo (d:ZM)(hok:ZR d)(h6:d.C.length<=6)(q:List (List Int))(hq:ZU d q)(H:ZJ)(lo:Nat)(qv:ZK)(ho:aD lo H 42 qv (q.map ah))
  (K:ZP->ZJ->Prop) (hK:K (.ret (.nf [eM (bE d q) (d.X ^ d.C.length),aa 0])) H):ag prog G0 23 [cM d,qv] H K:=by
 refine(ag.frame (H:=H) (args:=[cM d,qv]) (args':=[cM d,aE q]) (v':=.nf [eM (bE d q) (d.X ^ d.C.length),aa 0]) aJ rfl (fun i hi _=>?_) (xq d (uz hok) q (qK hok hq) (wZ h6 q) cZ _ ⟨_,rfl,?_⟩)).mono ?_
 ·match i,hi with
  |0,_=>exact tq d
  |1,_ =>
   have:=ho.fz (S:=fun _=>True) (nx:=0) (cs':=q.map ah) (fun _ _=>trivial) rfl fun i hi _=>by simp only[VO];exact .dK _
   rw[VJ]at this;exact this
 ·rw[Ab hok hq,ow hok hq];refine .nf rfl fun i hi _=>?_
  match i,hi with
  |0,_=>exact .agg rfl fun i hi _=>match i,hi with|0,_=>.lit _|1,_=>.lit _
  |1,_=>exact .lit _
 ·rintro r H' ⟨rfl,rfl⟩;exact hK
def PM (hv:(aB d)[k]?=some v):bS ((aL d).drop k)=List.replicate (df d v).1.toNat (df d v).2++bS ((aL d).drop (k+1)):=by
 rw[pE (nV hv),qB]
def zz (d:ZM)(k:Nat):cX d=bS ((aL d).take k)++bS ((aL d).drop k):=by
 rw[<- zg,V5];rfl
def De {r:Nat}(hv:(aB d)[k]?=some v)(hr:r<(df d v).1.toNat):(bS ((aL d).drop k))[r]?=some (df d v).2:=by
 rw[PM hv,VH (by rw[VR];exact hr),Wc,VA hr]
def zA {r:Nat}(hv:(aB d)[k]?=some v)(hr:r<(df d v).1.toNat):(cX d)[bR d k+r]?=some (df d v).2:=by
 rw[zz d k];unfold bR;rw[VS O,XE];exact De hv hr
def Df (d:ZM):(cX d).length=bR d (aB d).length:=by
 unfold bR cX;rw[Vy (by rw[uf];exact Nat.le_refl _)]
def PN {r:Nat}(hv:(aB d)[k]?=some v)(hr:r<(df d v).1.toNat)(i:Int):(aS (cX d) i).getD (bR d k+r) 0=fixC (bA (aL d) i) k r:=by
 have h1:=wG (zA hv hr) i;have h2:=wG (De hv hr) i;have e:(cX d).drop (bR d k+r+1)=(bS ((aL d).drop k)).drop (r+1):=by
  conv=>lhs;rw[zz d k]
  rw[W6];unfold bR;rw[List.drop_append];simp
 rw[bM h1,e];unfold fixC;rw[bM (ui i (nV hv)),VB,V4 hr,h2];rfl
def wI (hok:ZR d)(i:Int):ZU d (bA (aL d) i):=pO.2 (Cz (fun p hp=>by have:=kU hok p hp;omega) i)
def PO (hok:ZR d){vals:List Int}(hf:bZ (ak d.C) vals)(i:Int):mg (aS (cX d) i) (gH d vals)=iU d (fixC (bA (aL d) i)) vals:=by
 have key:∀v∈aB d,((aS (cX d) i).getD (bR d (aY d.Y v)+cY d.C v vals) 0)=fixC (bA (aL d) i) (aY d.Y v) (cY d.C v vals):=fun v hv=>by
  obtain⟨k,hk⟩:=VG.1 hv;obtain⟨v1,v2,v3⟩:=fw hk;obtain⟨x,hx⟩:=ao v1;have r2:=(kX hok hx hf).2;rw[<- v3]at hk;refine PN hk ?_ i;unfold df;rw[hx];exact r2
 rw[Xl];unfold mg iU gH;rw[VZ,VZ];constructor
 ·intro h v hv;have:=of_decide_eq_true (h _ (VI.2 ⟨v,hv,rfl⟩));simp only[Int.toNat_natCast]at this;rw[key v hv]at this;exact V8 this
 ·intro h p hp;obtain⟨v,hv,rfl⟩:=VI.1 hp;have:=of_decide_eq_true (h v hv);refine V8 ?_;simp only[Int.toNat_natCast];rw[key v hv];exact this
def Dh (hok:ZR d)(i:Int):jd (cP d) (jA d) (aS (cX d) i) (jA d).length=bE d (bA (aL d) i):=by
 rw[pL hok (wI hok i),pC];unfold jd fI;refine ie fun w hw=>?_;rw[bM (Dc hw),bM (tk hw),PO hok (iV hok w)]
def Di (hok:ZR d):bO d.C<=65536:=by
 have h:=hok.n.n1.2;have hc:∀c∈ak d.C,0<=c/\c<=4:=fun c hc=>by
  obtain⟨x,hx,rfl⟩:=VI.1 hc;have:=hok.n.L x hx;omega
 have h1:=oa (b:=4) O hc;rw[dk]at h1;have h2:(4:Int) ^ d.C.length<=4 ^ 8:=by
  have:(4:Nat) ^ d.C.length<=4 ^ 8:=V0 O h
  exact_mod_cast this
 have h3:(4:Int) ^ 8=65536:=rfl;unfold bO;omega
def Dj (hok:ZR d)(h6:d.C.length<=6)(i:Int):ValOk (cP d) (jA d) (aS (cX d) i) where
 gl:=by rw[xS,pC]
 len:=by rw[pC];have:=Di hok;omega
 row l hl:=by
  obtain⟨w,hw,rfl⟩:=VI.1 hl;have hdn:(aB d).length<=d.C.length:=ia;refine⟨by rw[zx];omega,fun p hp=>?_⟩;obtain⟨v,hv,rfl⟩:=VI.1 hp;obtain⟨k,hk⟩:=VG.1 hv;obtain⟨v1,v2,v3⟩:=fw hk;obtain⟨x,hx⟩:=ao v1;have r2:=(kX hok hx (iV hok w)).2;rw[<- v3]at hk;have h:=aI (zA (r:=cY d.C v (wv d w)) hk (by unfold df;rw[hx];exact r2));rw[mi];refine⟨Int.natCast_nonneg _,?_⟩;simp only;omega
 nll:=by
  have:=zw hok (aB d).length ZI;have hdn:(aB d).length<=d.C.length:=ia;rw[mi,Df];omega
 sum k hk:=by
  have h:=F5 (n:=k) (f:=fun w=>if mg (aS (cX d) i) ((jA d).getD w [])=true then (cP d).getD w 0 else 0) (B:=18662400000000) fun w hw=>by
   rw[pC]at hk;rw[bM (tk (d:=d) (k:=w) O)];have:=tn hok h6 (iV hok w);split<;>omega
  have hw:=Di hok;rw[pC]at hk;unfold jd;omega
end Go.Proofs
