/- Own work: contracts. -/
import Derived.Test.YtjhbjbninamhnaaGreatConG
import Derived.Test.YtjhbjbninamhnaaGreatConE
import Derived.Test.YtjhbjbninamhnaaGreatConC
set_option linter.all false
set_option maxHeartbeats 8000000
set_option maxRecDepth 100000
namespace Go.Proofs
open Go.Hx Tryz
variable {ch ch':Ch}{tot:Int}{ks l r:List Nat}{cs:List W9}{c i id j k lo m n x:Nat}{f:Nat->Nat}{I:Nat->Nat->Nat}{lvh v:W9}{d:Xa}{D:Xg}{t:Xs}
structure BldH (d:Xa)(r:List Nat)(lo s n:Nat)(lvh:W9)(I:Nat->Nat->Nat)(H:Xn):Prop where
 top:H.get s=some (.J 0 130 [.lit (.int .i64 d.Y),.M d.C.length (aE d.C),.lit (.int .u64 (d.U:Int)),.M d.V.length (aZ d.V),lvh,ah (df d),ah (c7 d),.lit (.int .i64 0)])
 nz:s<H.A
 lv:aD lo H 170 lvh (iX I n)
 sep:∀k j,k<n->j<6->s≠I k j
 nE:∀id g m,lvh=.Q id g 0 m 1->id≠s/\∀k j,k<n->j<6->id≠I k j
 nc:XF (ao d r) r lo n I (iL (ao d r) (pH (ao d r)) (ep (ao d r)) 0) H
 nv:n=0->lvh=.lit (.slice none 0 0)
def DE (d:Xa)(hf:Xv d)(h6:d.C.length<=6)(H:Xn)(K:Xd->Xn->Prop)
  (hE:∀H',Xb H H'->cJ d=4->K (.ret (.na [.lit (.pointer none),.lit (.int .i64 210)])) H')
  (hE2:∀H',Xb H H'->cJ d≠4->cJ d≠0->K (.ret (.na [.lit (.pointer none),aa (cJ d)])) H')
  (hK:∀(r:List Nat) (s:Nat) (lvh:W9) (I:Nat->Nat->Nat) (H':Xn),fL d=some r->Xf d->Xb H H'->Xi d r H.A s lvh I (dm (ao d r) (ep (ao d r)) 0) (eD (ao d r) 0) H'->(r=[]->lvh=.lit (.slice none 0 0))->K (.ret (.na [.R s 0 0,.lit (.int .i64 0)])) H'):
  ae prog G0 46 [eC d] H K:=by
 refine ae.sw (n:=96) (rs:=[.tmp 2,.tmp 3]) func46 ?_;refine W.sq ?_;simp only[go_sem,iI,cu];obtain⟨H1,hH1⟩:∃H1,H1=ext H [.J 0 38 [.lit (.int .i64 d.Y),.M d.C.length (aE d.C),.lit (.int .u64 (d.U:Int)),.M d.V.length (aZ d.V)]]:=⟨_,rfl⟩
 have g1:=dv hH1
 have n1:H1.A=H.A+1:=hH1▸rfl
 have o1:Xb H H1:=hH1▸.ext _ _
 rw[<- hH1];clear hH1;have l1:=af g1;refine W.sq ?_;simp only[go_sem,l1];refine az.Z (Lj d hf _ _ ⟨trivial,?_⟩);simp only[go_sem];refine W.en (fun E=>E 1=.R H.A 0 0 /\ E 4=ah (bf (nP d)) /\ E 5=aa (cJ d)) (by simp only[go_sem]) fun E ⟨e1,e4,e5⟩=>?_
 by_cases h4:cJ d=4
 ·refine W.sq ?_;simp only[go_sem,e5,h4];exact ar.mk o1.A (hE H1 o1 h4)
 refine W.sq ?_;simp only[go_sem,e5,h4];by_cases h0:cJ d=0;rotate_left
 ·refine W.sq ?_;simp only[go_sem,e5,h0];exact ar.mk o1.A (hE2 H1 o1 h4 h0)
 have hok:Xf d:=by
  unfold cJ at h0;by_cases h:Xf d
  ·exact h
  ·rw[jI h]at h0;simp at h0
 obtain⟨r,hr⟩:∃r,fL d=some r:=by
  unfold cJ at h0;rw[eI hok]at h0;simp only[if_true]at h0;split at h0
  ·rename_i hs;exact Tp.1 hs
  ·cases h0
 have hrv:nP d=r:=by unfold nP;rw[SU h0,hr];rfl
 rw[hrv]at e4;have hrl8:r.length<=8:=by
  have h1:=DC _ _ _ _ hr;have h2:(aK d).length<=d.C.length:=nZ;have h3:=hok.n.n1;simp at h1;omega
 have hrl:r.length<=64:=O
 have hro:=ma hr;refine W.sq ?_;simp only[go_sem,e5,h0];refine W.sq ?_;simp only[go_sem,e1,l1];obtain⟨H2,hH2⟩:∃H2,H2=ext H1 [.J 0 130 [.lit (.int .i64 d.Y),.M d.C.length (aE d.C),.lit (.int .u64 (d.U:Int)),.M d.V.length (aZ d.V),.lit (.slice none 0 0),.lit (.slice none 0 0),.lit (.slice none 0 0),.lit (.int .i64 0)],.J 0 110 [.R H1.A 0 0]]:=⟨_,rfl⟩
 have g2:=dv hH2
 have g3:=gE hH2 1 rfl
 have n2:H2.A=H1.A+2:=hH2▸rfl
 have o2:Xb H1 H2:=hH2▸.ext _ _
 rw[<- hH2];clear hH2;have l1':=af ((o2.nl _ O).trans g1);have l2:=af g2;have l3:=af g3;refine W.en (fun E2=>E2 1=.R H.A 0 0 /\ E2 4=ah (bf r) /\ E2 6=.R (H1.A+1) 0 0) (by simp only[go_sem,e1,e4]) fun E2 ⟨f1,f4,f6⟩=>?_
 clear e1 e4 e5 l1;refine W.lO (fun s'=>s'.ρ 4=ah (bf r)/\s'.ρ 6=.R (H1.A+1) 0 0/\s'.H.A=H2.A/\(∀i,i≠H1.A->s'.H.get i=H2.get i)/\s'.H.get H1.A=some (.J 0 130 [.lit (.int .i64 d.Y),.M d.C.length (aE d.C),.lit (.int .u64 (d.U:Int)),.M d.V.length (aZ d.V),.lit (.slice none 0 0),ah (df d),ah (c7 d),.lit (.int .i64 0)])) ?_ ?_
 ·refine W.dr 10 [0,0,0,4,12,28,28,61,189,445] mixed ?_;simp only[go_sem,f1,f6,l1',l3];refine⟨.na [ah (df d),ah (c7 d)],[],bp.pure fun H9=>Ec d hok hf.U H9 _ ⟨rfl,rfl⟩,?_⟩;simp only[go_sem,f1,f4,f6,l2];refine⟨fun x hx=>O,by rw[aF,aF],fun i h=>?_,?_⟩
  ·rw[ag,SQ h,ag,SQ h]
  ·rw[ag,SU rfl]
 rintro⟨ρ3,H3⟩ ⟨k4,k6,n3,o3,g4⟩;simp only at k4 k6 n3 o3 g4;clear f1 f4 f6 l1' l2 l3;have g5:H3.get (H1.A+1)=_:=(o3 _ O).trans g3;have hnl:(bf r).length=r.length:=by simp[bf]
 refine W.sq ?_;simp only[go_sem,k4,hnl];refine W.en (fun E3=>E3 6=.R (H1.A+1) 0 0 /\ E3 36=.M r.length (ints (bf r)) /\ E3 37=aa r.length /\ E3 38=aa 0) (by simp only[go_sem,k6]) fun E3 ⟨m6,m36,m37,m38⟩=>?_
 clear k4 k6;refine W.aP 38685626227667858712692480 (by rfl) (fun ρ Hx=>∃(n:Nat) (lvh:W9) (I:Nat->Nat->Nat),ρ 38=aa n/\n<=r.length/\H3.A<=Hx.A/\(∀i,i<H3.A->i≠H1.A->Hx.get i=H3.get i)/\BldH d r H3.A H1.A n lvh I Hx) (fun ρ Hx=>r.length-(iv (ρ 38)).toNat) ?_ ?_
 ·simp only[go_sem,m38];refine⟨0,.lit (.slice none 0 0),fun _ _=>0,rfl,Uh _,⟨g4,O,.nil,fun k j h=>absurd h (Tb _),fun id g m h=>(by cases h),?_,fun _=>rfl⟩⟩;exact⟨fun k j k' j' h=>absurd h (Tb _),fun k j h=>absurd h (Tb _),fun k h=>absurd h (Tb _),fun k j h=>absurd h (Tb _),⟨fun k h=>absurd h (Tb _),fun k h=>absurd h (Tb _),fun k h=>absurd h (Tb _),fun k h=>absurd h (Tb _),fun k h=>absurd h (Tb _)⟩⟩
 rintro ρ Hx ⟨n,lvh,I,h38,hn,nx,hout,hB⟩;refine W.en (fun E4=>E4 6=.R (H1.A+1) 0 0 /\ E4 36=.M r.length (ints (bf r)) /\ E4 37=aa r.length /\ E4 38=aa n) (by simp only[go_sem,m6,m36,m37,h38]) fun E4 ⟨f6,f36,f37,f38⟩=>?_
 have gp:=(hout (H1.A+1) O O).trans g5;have lp:=af gp;have ls:=af hB.top;by_cases hb:(n:Int)<r.length;rotate_left
 ·refine W.vs ?_;simp only[go_sem,f37,f38,hb];have hnr:n=r.length:=O
  subst hnr;have hD0:=DD hok hro;obtain⟨hg1,hg2⟩:=Pr hok h6 r;have ht0:eK d r 0=0:=by unfold eK;split<;>rfl
  have hS0:Xi d r H.A H1.A lvh I (iL (ao d r) (pH (ao d r)) (ep (ao d r)) 0) (eK d r 0) Hx:=by
   rw[ht0];exact⟨hB.top,⟨O,hB.nz⟩,hB.lv.nb O W8 fun _ _ _ _ _ _=>rfl,hB.sep,hB.nE,⟨hB.nc.inj,fun k j h1 h2=>by have:=hB.nc.ng k j h1 h2;omega,hB.nc.nw,hB.nc.nr,hB.nc.len⟩⟩
  refine W.sq ?_;simp only[go_sem,f6,lp];refine az.Z (Rd hok hro hrl (fun k hk=>by have:=hD0 k hk;omega) (fun k hk=>by have:=hD0 k hk;omega) (fun k b hk n hn=>?_) (fun n hn=>?_) (fun w hw=>?_) Hx hS0 _ fun H4 n4 o4 hS4=>⟨trivial,?_⟩)
  ·have h1:=Db hg1 k n hn;have h2:=vz (bA (ao d r) k n) b;have h3:18662400000000*n<=18662400000000*(ao d r).N:=Ud _ hn;omega
  ·have h1:=Pq hg1 n hn;have h3:18662400000000*n<=18662400000000*(ao d r).N:=Ud _ hn;omega
  ·have:=wh hok h6 (iF hok w);omega
  simp only[go_sem];have gp4:H4.get (H1.A+1)=some (.J 0 110 [.R H1.A 0 0]):=(o4 _ (by have:=nx;omega) O (fun k j h1 h2 e=>by have:=(hB.nc.ng k j h1 h2).1;omega)).trans gp;have lp4:=af gp4;refine W.sq ?_;simp only[go_sem,f6,lp4];refine az.Z (D2 H1.A H4 _ ⟨trivial,?_⟩);simp only[go_sem];obtain⟨H5,hH5⟩:∃H5,H5=ext H4 [.J 0 110 [.R H1.A 0 0]]:=⟨_,rfl⟩
  have n5:H5.A=H4.A+1:=hH5▸rfl
  have o5:Xb H4 H5:=hH5▸.ext _ _
  have gbx:=dv hH5
  rw[<- hH5];clear hH5;have hT5:Xi d r H.A H1.A lvh I (dm (ao d r) (ep (ao d r)) r.length) (eD (ao d r) r.length) H5:=by
   have h1:=(hS4.same (Qm (ao d r) (ep (ao d r))) (zm (fun k _=>by simp[ep]) _)).iY hS4.tj O fun i hi=>o5.nl i hi;have h2:eK d r (bD d.C)=eD (ao d r) r.length:=by
    unfold eK eD;by_cases h:r.length=0
    ·rw[SU h,SU (.inl h)];unfold qN;rw[SU (show (ao d r).K=0 from h)];rfl
    ·rw[SQ h,SQ (by rintro(h1|h1)<;>exact h h1)]
   rw[<- h2];exact h1
  have hB5:=hT5.tj;refine W.env fun E6 hE6=>?_;have w6:E6 6=.R (H1.A+1) 0 0:=by rw[hE6];simp only[go_sem,f6]
  have w90:E6 90=.Z 137 [] [.R H4.A 0 0]:=by rw[hE6];rfl
  clear hE6;have hni:∀k j,k<r.length->j<6->I k j<H4.A:=fun k j h1 h2=>(hS4.nc.ng k j h1 h2).2;have hns:H1.A<H4.A:=hS4.nz.2;have hpI:∀k j,k<r.length->j<6->H1.A+1≠I k j:=fun k j h1 h2 e=>by have:=(hB.nc.ng k j h1 h2).1;omega
  refine W.pK (f:=137) (first:=[]) (cap:=[.R H4.A 0 0]) (by show E6 90=_;exact w90) (D1 d H1.A H4.A r.length hrl)
   (fun k Hy=>H5.A<Hy.A/\(∀i,i<H5.A->i≠H1.A->(∀k j,k<r.length->j<6->i≠I k j)->Hy.get i=H5.get i)/\Xi d r H.A H1.A lvh I (dm (ao d r) (ep (ao d r)) (r.length-k)) (eD (ao d r) (r.length-k)) Hy)
   (fun _ _=>False)
   (fun k Hy h=>⟨(h.2.1 _ O O fun k j h1 h2 e=>by have:=hni k j h1 h2;omega).trans gbx,_,_,h.2.2.top,h.2.2.len⟩)
   (fun k Hy b h=>⟨h.1,fun i h1 h2 h3=>by rw[ag,SQ O];exact h.2.1 i h1 h2 h3,h.2.2.iY hB5 (by rw[aF];exact Nat.le_refl _) fun i hi=>by rw[ag,SQ O]⟩)
   (fun _ _ _ h=>h)
   (fun b=>⟨by rw[aX];simp,fun i h1 _ _=>bQ h1,hT5.iY hB5 (by rw[aX];omega) fun i hi=>bQ hi⟩)
   W6 (fun x hx=>by rw[D0 x hx];rfl) (fun _ _ _=>trivial) (fun _ _ _=>trivial) (fun k y Hy B Bb hy hj hn hBq hBb=>?_) (fun Hy hj hn=>?_) (fun _ hs _=>hs.elim) (fun _ _ hs _=>hs.elim)
  ·obtain⟨hk,rfl⟩:=DZ hy;obtain⟨kk,hkk⟩:∃kk,kk=r.length-1-k:=⟨_,rfl⟩
   have e1:(r.length:Int)-1-(k:Int)=(kk:Int):=O;have e2:r.length-k=kk+1:=O;have e3:r.length-(k+1)=kk:=O;rw[e1];rw[e2]at hj;rw[e3];refine W.vs ?_;simp only[go_sem,ic,cG,jn,TF,Ur,TV,T1,hBq];obtain⟨H6,hH6⟩:∃H6,H6=Hy.upd H5.A Bb:=⟨_,rfl⟩
   rw[<- hH6];obtain⟨st,pd,n',en,ps',as',bo,hBe⟩:=hBb;have n6:H6.A=Hy.A:=(by rw[hH6];rfl);have o6:∀id,id≠H5.A->H6.get id=Hy.get id:=fun id h=>by rw[hH6,ag,SQ h]
   have jB:H6.get H5.A=some Bb:=(by rw[hH6,ag,SU rfl]);have hS6:=hj.2.2.iY hB5 (H':=H6) O fun i hi=>o6 i O;have lp6:=af ((o6 (H1.A+1) O).trans ((hj.2.1 _ O O hpI).trans ((o5.nl _ O).trans gp4)));refine W.env fun E7 hE7=>?_;have t6:E7 6=.R (H1.A+1) 0 0:=(by rw[hE7];simp only[go_sem,cG,w6]);have t11:E7 11=aa kk:=(by rw[hE7];simp only[go_sem,cG]);clear hE7;have hkl:kk<r.length:=O;have hd1:=hD0 kk hkl;have hbf:=zn (D:=ao d r) (ch:=ep (ao d r)) (k:=kk) hkl;have hex:0<kk->(dm (ao d r) (ep (ao d r)) (kk+1)).ex (kk-1)=bA (ao d r) (kk-1) (ao d r).N:=fun h=>SQ O;have hBs:bX (BF (ao d r) kk)<=20000000000000000:=by
    have h1:bX (BF (ao d r) kk)<=bX (EF (ao d r) kk):=Tw (y9 _ _ _) (qS _ _);have h2:=Dc hg1 (r.length-1-kk) kk (show kk+1+(r.length-1-kk)=r.length by omega);omega
   refine W.vs ?_;simp only[go_sem,t6,t11,lp6];refine az.Z (QM hrl hkl O hd1.2.2.1 O O (fun h0 c hc=>?_) (fun h0 n hn=>?_) (fun h0 n hn=>?_) H6 hS6 _ fun H7 h7n h7o h7S=>⟨⟨st,pd,n',en,ps',as',bo,by rw[h7o _ O (fun k j h1 h2 e=>by have:=hni k j h1 h2;omega),jB,hBe]⟩,?_⟩)
   ·have hDo:=qM hok hro.mem;have hd2:=hD0 (kk-1) O;have hpos:0<(ao d r).cs (kk-1)*(ao d r).cd (kk-1):=V1 O O;obtain⟨a,ha⟩:=aq (l:=cI (ao d r) kk (ao d r).N) (i:=c) (by rw[oo];exact hc);have h1:=yT hDo (show kk<(ao d r).K from hkl) (ao d r).N W8 a (an ha);have hab':((dm (ao d r) (ep (ao d r)) (kk+1)).ab kk).getD c 0=a:=gW ha;rw[hab'];rcases h1.2.2 h0 with h2|h2
    ·exact⟨h1.1,h2⟩
    ·rw[h2];exact⟨Int.le_refl _,Int.ofNat_lt.2 hpos⟩
   ·rw[hbf,hex h0];have h1:=Po hg1 (show kk<(ao d r).K from hkl) h0 n;have h2:=vz (dG (cI (ao d r) kk (ao d r).N) (BF (ao d r) kk) n (bA (ao d r) (kk-1) (ao d r).N)) (((dm (ao d r) (ep (ao d r)) (kk+1)).ab kk).getD n 0).toNat;have h3:=vz (BF (ao d r) kk) n;have h4:(dm (ao d r) (ep (ao d r)) (kk+1)).ab kk=cI (ao d r) kk (ao d r).N:=rfl;rw[h4]at h2 ⊢;omega
   ·rw[hbf];have h1:=Pp (BF (ao d r) kk) (n+1);have h2:=qS (BF (ao d r) kk) (n+1);have h3:eD (ao d r) (kk+1)=0:=(by unfold eD;rw[SQ (by rintro(h|h);{ have:r.length=0:=h;omega };omega)]);rw[h3];omega
   simp only[go_sem,eM];refine⟨by rw[h7o _ O (fun k j h1 h2 e=>by have:=hni k j h1 h2;omega)];exact jB,O,O,fun i h1 h2 h3=>by rw[h7o i h2 h3,o6 i O];exact hj.2.1 i h1 h2 h3,?_⟩;rw[Qo (show kk<(ao d r).K from hkl)]at h7S;exact h7S.same (Qn (show kk<(ao d r).K from hkl)) (zm (fun k _=>by simp[ep]) _)
  ·simp only[go_sem];have lpy:=af ((hj.2.1 (H1.A+1) O O hpI).trans ((o5.nl _ O).trans gp4));refine W.vs ?_;simp only[go_sem,w6,lpy];have hov:Xb H Hy:=⟨by have:=o1.A;omega,fun i hi=>by
    have q1:∀k j,k<r.length->j<6->i≠I k j:=fun k j h1 h2 e=>by have:=(hB.nc.ng k j h1 h2).1;omega
    rw[hj.2.1 i O O q1,o5.nl i O,o4 i O O q1,hout i O O,o3 i O,o2.nl i O,o1.nl i hi]⟩
   have hSf:=hj.2.2;rw[vV,Vx]at hSf;exact ar.mk hov.A (hK r H1.A lvh I Hy hr hok hov hSf fun h=>hB.nv (by rw[h];rfl))
 have hn2:n<r.length:=O
 obtain⟨v,hv⟩:=aq hn2;have hvd:r.getD n 0=v:=fQ hv;have hm:=hro.mem v (an hv);obtain⟨x,hx⟩:=aq (dS.1 hm).1;obtain⟨hrn,hxp,hin,ps⟩:=ri hok hx;have hxc:=hok.n.L x (an hx);obtain⟨e1',e2'⟩:=ji hx O;obtain⟨D,hD⟩:∃D,D=ao d r:=⟨_,rfl⟩
 have ecs:D.cs n=bM d.C x:=by rw[hD];show b9 d (r.getD n 0)=_;rw[hvd];exact e1'
 have ecd:(D.cd n:Int)=x.L:=by rw[hD];show (cO d (r.getD n 0):Int)=_;rw[hvd];exact e2'
 have gv:(ints (bf r))[n]?=some (aa v):=by rw[eG];simp[bf,hv]
 have gvn:=aM gv;have hvi:(v:Int)<d.C.length:=by have:=(dS.1 hm).1;omega
 have q0:=jV hx;have qn:=eV hx;refine W.sq ?_;simp only[go_sem,f37,f38,hb];refine W.sq ?_;simp only[go_sem];refine W.seq (W.block ?_);refine W.sq ?_;simp only[go_sem,f36,f38,hb,gv,gvn];refine W.seq ?_;refine W.dr 17 [0,1,3,7,15,0,63,0,128,384,896,1920,0,8064,16256,32640,127] mixed ?_;simp only[go_sem,f6,lp,ls,q0,qn,hvi];refine⟨aa (bM d.C x),[],bp.pure fun H9=>vI d.C v x hx hin ps H9 _ (by rw[hrn];exact⟨rfl,rfl⟩),?_⟩;simp only[go_sem];obtain⟨cN,hcN⟩:∃cN,cN=D.cs n:=⟨_,rfl⟩
 obtain⟨cD,hcD⟩:∃cD,cD=D.cd n:=⟨_,rfl⟩
 refine W.env fun E5 hE5=>?_;have s6:E5 6=.R (H1.A+1) 0 0:=by rw[hE5];simp only[go_sem,f6]
 have s8:E5 8=aa v:=by rw[hE5];simp only[go_sem]
 have s9:E5 9=aa cN:=by rw[hE5,hcN,ecs];simp only[go_sem]
 have s10:E5 10=aa cD:=by rw[hE5,hcD,ecd];simp only[go_sem]
 have s38:E5 38=aa n:=by rw[hE5];simp only[go_sem,f38]
 clear hE5;have hc1:1<=cN:=by rw[hcN,hD];exact qO hok hro n hn2
 have hsz0:=hok.nu.size;rw[kh]at hsz0;have hcb:cN<=1024:=by have:=yz hxp hok.n.L;omega
 have hdb:cD<=4:=O
 have w0:=SN ((cN:Int)*(cD:Int)) (by rw[<- Vr];have:=VO hcb hdb;omega);obtain⟨cE,hcE⟩:∃cE,cE=cN*cD:=⟨_,rfl⟩
 have q1:(cN:Int)*(cD:Int)=(cE:Int):=by rw[hcE];simp
 have hcd2:cE<=4096:=by rw[hcE];exact VO hcb hdb
 rw[q1]at w0;have z1:(0:Int)<=(cN:Int):=O
 have z2:(0:Int)<=(cE:Int):=O
 refine Ev.W.Fi 24 [0,0,2,6,14,0,0,0,128,0,512,0,0,6144,14336,0,32768,0,0,393216,1048544,2097120,4194272,8388606] mixed W7 W7 ?_;simp only[go_sem,s6,s8,s9,s10,lp,ls,q1,w0,z1,z2,Lq,Lr,Ls,Lt,Lu,Lv,Lw,Lx,Ly,Lz,LA,LB];obtain⟨H4,hH4⟩:∃H4,H4=ext (ext Hx [.J 0 3 (List.replicate cN (.lit (.int .i64 0))),.J 0 4 (List.replicate cN (.lit (.bool false))),.J 0 3 (List.replicate cE (.lit (.int .i64 0))),.J 0 3 (List.replicate cN (.lit (.int .i64 0)))]) [.J 0 3 [.lit (.int .i64 (-1))]]:=⟨_,rfl⟩
 rw[<- hH4];have n4:H4.A=Hx.A+4+1:=by rw[hH4];rfl
 have o4:Xb Hx H4:=by rw[hH4];exact(Xb.ext _ _).trans (.ext _ _)
 have b0:H4.get Hx.A=some (.J 0 3 (List.replicate cN (.lit (.int .i64 0)))):=by rw[hH4,dD];exact bL Hx _ 0 (W5)
 have b1:H4.get (Hx.A+1)=some (.J 0 4 (List.replicate cN (.lit (.bool false)))):=by rw[hH4,dD];exact bL Hx _ 1 (W5)
 have b2:H4.get (Hx.A+2)=some (.J 0 3 (List.replicate cE (.lit (.int .i64 0)))):=by rw[hH4,dD];exact bL Hx _ 2 (W5)
 have b3:H4.get (Hx.A+3)=some (.J 0 3 (List.replicate cN (.lit (.int .i64 0)))):=by rw[hH4,dD];exact bL Hx _ 3 (W5)
 have b4:H4.get (Hx.A+4)=some (.J 0 3 [.lit (.int .i64 (-1))]):=by rw[hH4,dD];exact bL Hx _ 4 (W5)
 clear hH4;refine⟨O,by repeat' (first|refine And.intro ?_ ?_|(intro x hx;omega)),O,by repeat' (first|refine And.intro ?_ ?_|(intro x hx;omega)),O,by repeat' (first|refine And.intro ?_ ?_|(intro x hx;omega)),O,by repeat' (first|refine And.intro ?_ ?_|(intro x hx;omega)),by repeat' (first|refine And.intro ?_ ?_|(intro x hx;omega)),?_⟩;refine⟨_,_,1,_,Ri (a:=-1) (m:=cN) ⟨hc1,O⟩ O b4,?_⟩;have hEf:(⟨Ev.dh (Ev.jr H4.A (H4.A+1) (fun _=>true) (ext ⟨fun _=>none,H4.A⟩ [.J 0 3 (ints (List.replicate cN (-1)))]).get) H4.get,Hx.A+4+1+1⟩:Xn)=ext H4 [.J 0 3 (ints (List.replicate cN (-1)))]:=by rw[<- n4];exact LD
 rw[LC,hEf,n4];simp only[go_sem];obtain⟨H5,hH5⟩:∃H5,H5=ext (ext H4 [.J 0 3 (ints (List.replicate cN (-1)))]) [.J 0 173 [.lit (.int .i64 (v:Nat)),.lit (.int .i64 (cD:Nat)),.Q Hx.A 0 0 cN 1,.Q (Hx.A+1) 0 0 cN 1,.Q (Hx.A+2) 0 0 cE 1,.Q (Hx.A+3) 0 0 cN 1,.Q (Hx.A+4+1) 0 0 cN 1]]:=⟨_,rfl⟩
 rw[<- hH5];have n5:H5.A=Hx.A+4+1+1+1:=by rw[hH5];show H4.A+1+1=_;omega
 have o5:Xb H4 H5:=by rw[hH5];exact(Xb.ext _ _).trans (.ext _ _)
 have b5:H5.get (Hx.A+4+1)=some (.J 0 3 (ints (List.replicate cN (-1)))):=by rw[hH5,<- n4,dD];exact bL H4 _ 0 (W5)
 have b6:H5.get (Hx.A+4+1+1)=some (.J 0 173 [.lit (.int .i64 (v:Nat)),.lit (.int .i64 (cD:Nat)),.Q Hx.A 0 0 cN 1,.Q (Hx.A+1) 0 0 cN 1,.Q (Hx.A+2) 0 0 cE 1,.Q (Hx.A+3) 0 0 cN 1,.Q (Hx.A+4+1) 0 0 cN 1]):=by rw[hH5,show Hx.A+4+1+1=H4.A+1 by omega,dD];exact bL H4 _ 1 (W5)
 clear hH5;obtain⟨lv2,H6,hA2,oP,n6,hp6⟩:=iT (P:=prog) (H:=H5) (t:=128) (x:=.R (Hx.A+4+1+1) 0 0) (n:=H5.A+1) Tryz.underlying128 Tryz.BD Tryz.BG rfl (by rw[Tryz.BE,jK];omega) (hB.lv.nb W8 O fun i g h1 h2 h3 _=>by rw[o5.nl i O,o4.nl i h2]) (by have:=hB.nz;omega) rfl;have hA3:bT prog (ext H5 [.J 0 170 [.R (Hx.A+4+1+1) 0 0]]) (H5.A+1) 128 128 lvh (.Q (Hx.A+4+1+1+1) 0 0 1 1)=some (lv2,H6):=by rw[<- n5];exact hA2
 have lv21:=oP.one;have lv2c:=oP.cells;have k6:∀i g e c,i<Hx.A->Hx.get i=some (.J g e c)->e≠170->H6.get i=Hx.get i:=fun i g e c h1 h2 h3=>by
  rw[hp6 i O (hB.lv.LF h2 h3),o5.nl i O,o4.nl i h1]
 have hsl:=hB.nz;have gs6:=(k6 _ _ _ _ hsl hB.top W6).trans hB.top;have ls6:=af gs6;obtain⟨I2,hI2⟩:∃I2:Nat->Nat->Nat,I2=fun k j=>if k=n then (match j with|0=>Hx.A+4+1+1|1=>Hx.A|2=>Hx.A+1|3=>Hx.A+2|4=>Hx.A+3|_=>Hx.A+4+1) else I k j:=⟨_,rfl⟩
 have hIo:∀k j,k≠n->I2 k j=I k j:=fun k j h=>by rw[hI2];simp only;rw[SQ h]
 have hIn:∀j,I2 n j=(match j with|0=>Hx.A+4+1+1|1=>Hx.A|2=>Hx.A+1|3=>Hx.A+2|4=>Hx.A+3|_=>Hx.A+4+1):=fun j=>by rw[hI2];exact SU rfl
 have hInr:∀j,Hx.A<=I2 n j/\I2 n j<Hx.A+7:=fun j=>by rw[hIn];split<;>omega
 clear hI2;have lvL:∀i,Hx.A<=i->∀g m,lvh≠.Q i g 0 m 1:=fun i hi g m hv=>by
  rcases hB.lv with ⟨h1,_⟩|⟨i2,g2,_,h2,h3,_⟩
  ·rw[h1]at hv;cases hv
  ·rw[h3]at hv;have:=(W9.Q.inj hv).1;omega
 have new6:∀i,Hx.A<=i->i<H5.A->H6.get i=H5.get i:=fun i h1 h2=>hp6 i h2 (lvL i h1);obtain⟨H7,hH7⟩:∃H7,H7=H6.upd H1.A (.J 0 130 [.lit (.int .i64 d.Y),.M d.C.length (aE d.C),.lit (.int .u64 (d.U:Int)),.M d.V.length (aZ d.V),lv2,ah (df d),ah (c7 d),.lit (.int .i64 0)]):=⟨_,rfl⟩
 have n7:H7.A=H6.A:=by rw[hH7,aF]
 have o7:∀i,i≠H1.A->H7.get i=H6.get i:=fun i h=>by rw[hH7,ag,SQ h]
 have g7:H7.get H1.A=some (.J 0 130 [.lit (.int .i64 d.Y),.M d.C.length (aE d.C),.lit (.int .u64 (d.U:Int)),.M d.V.length (aZ d.V),lv2,ah (df d),ah (c7 d),.lit (.int .i64 0)]):=by rw[hH7,ag,SU rfl]
 have old7:∀k j g e c,k<n->j<6->Hx.get (I k j)=some (.J g e c)->e≠170->H7.get (I k j)=Hx.get (I k j):=fun k j g e c h1 h2 h3 h4=>by
  rw[o7 _ fun e=>hB.sep k j h1 h2 e.symm];exact k6 _ _ _ _ (hB.nc.ng k j h1 h2).2 h3 h4
 have new7:∀i,Hx.A<=i->i<H5.A->H7.get i=H5.get i:=fun i h1 h2=>by rw[o7 i O];exact new6 i h1 h2
 have na:∀k j,1<=j->∃g e c,de (iL (ao d r) (pH (ao d r)) (ep (ao d r)) 0) k j=.J g e c/\e≠170:=fun k j hj=>by
  match j,hj with
  |1,_=>exact⟨_,_,_,rfl,W6⟩
  |2,_=>exact⟨_,_,_,rfl,W6⟩
  |3,_=>exact⟨_,_,_,rfl,W6⟩
  |4,_=>exact⟨_,_,_,rfl,W6⟩
  |(j+5),_=>exact⟨_,_,_,rfl,W6⟩
 have z0:∀m:Nat,ints (List.replicate m 0)=List.replicate m (.lit (.int .i64 0)):=fun m=>by simp[ints,aa]
 have levs7:XF (ao d r) r H3.A (n+1) I2 (iL (ao d r) (pH (ao d r)) (ep (ao d r)) 0) H7:=by
  refine⟨fun k j k' j' h1 h2 h3 h4 he=>?_,fun k j h1 h2=>?_,fun k h1=>?_,fun k j h1 h2 h3=>?_,DW (fun k _=>by simp[pH]) (fun k _=>by simp[ep]) 0⟩
  ·by_cases a1:k=n
   ·by_cases a2:k'=n
    ·refine⟨O,?_⟩;rw[a1,a2,hIn,hIn]at he
     match j,h3,j',h4 with
     |0,_,0,_=>rfl
     |0,_,1,_=>exact absurd he (by simp only;omega)
     |0,_,2,_=>exact absurd he (by simp only;omega)
     |0,_,3,_=>exact absurd he (by simp only;omega)
     |0,_,4,_=>exact absurd he (by simp only;omega)
     |0,_,5,_=>exact absurd he (by simp only;omega)
     |1,_,0,_=>exact absurd he (by simp only;omega)
     |1,_,1,_=>rfl
     |1,_,2,_=>exact absurd he (by simp only;omega)
     |1,_,3,_=>exact absurd he (by simp only;omega)
     |1,_,4,_=>exact absurd he (by simp only;omega)
     |1,_,5,_=>exact absurd he (by simp only;omega)
     |2,_,0,_=>exact absurd he (by simp only;omega)
     |2,_,1,_=>exact absurd he (by simp only;omega)
     |2,_,2,_=>rfl
     |2,_,3,_=>exact absurd he (by simp only;omega)
     |2,_,4,_=>exact absurd he (by simp only;omega)
     |2,_,5,_=>exact absurd he (by simp only;omega)
     |3,_,0,_=>exact absurd he (by simp only;omega)
     |3,_,1,_=>exact absurd he (by simp only;omega)
     |3,_,2,_=>exact absurd he (by simp only;omega)
     |3,_,3,_=>rfl
     |3,_,4,_=>exact absurd he (by simp only;omega)
     |3,_,5,_=>exact absurd he (by simp only;omega)
     |4,_,0,_=>exact absurd he (by simp only;omega)
     |4,_,1,_=>exact absurd he (by simp only;omega)
     |4,_,2,_=>exact absurd he (by simp only;omega)
     |4,_,3,_=>exact absurd he (by simp only;omega)
     |4,_,4,_=>rfl
     |4,_,5,_=>exact absurd he (by simp only;omega)
     |5,_,0,_=>exact absurd he (by simp only;omega)
     |5,_,1,_=>exact absurd he (by simp only;omega)
     |5,_,2,_=>exact absurd he (by simp only;omega)
     |5,_,3,_=>exact absurd he (by simp only;omega)
     |5,_,4,_=>exact absurd he (by simp only;omega)
     |5,_,5,_=>rfl
    ·rw[a1,hIo k' j' a2]at he;have:=(hB.nc.ng k' j' O h4).2;have:=hInr j;omega
   ·by_cases a2:k'=n
    ·rw[a2,hIo k j a1]at he;have:=(hB.nc.ng k j O h3).2;have:=hInr j';omega
    ·rw[hIo k j a1,hIo k' j' a2]at he;exact hB.nc.inj k j k' j' O O h3 h4 he
  ·by_cases a1:k=n
   ·rw[a1];have:=hInr j;have:=hB.nz;omega
   ·rw[hIo k j a1];have:=hB.nc.ng k j O h2;omega
  ·by_cases a1:k=n
   ·rw[a1,hIn];simp only;rw[new7 _ O O,b6];unfold gJ;rw[hvd,<- hD,<- hcN,<- hcD,<- hcE,hIn,hIn,hIn,hIn,hIn];rfl
   ·rw[hIo k 0 a1,old7 k 0 _ _ _ O O (hB.nc.nw k O) W6,hB.nc.nw k O];unfold gJ;rw[hIo k 1 a1,hIo k 2 a1,hIo k 3 a1,hIo k 4 a1,hIo k 5 a1]
  ·by_cases a1:k=n
   ·rw[a1,hIn]
    match j,h2,h3 with
    |1,_,_ =>
     show H7.get Hx.A=some (.J 0 _ (ints (List.replicate ((ao d r).cs n) 0)));rw[new7 _ O O,o5.nl _ O,b0,z0,<- hD,<- hcN]
    |2,_,_ =>
     show H7.get (Hx.A+1)=some (.J 0 _ (cK (List.replicate ((ao d r).cs n) false)));rw[new7 _ O O,o5.nl _ O,b1,<- hD,<- hcN];simp[cK]
    |3,_,_ =>
     show H7.get (Hx.A+2)=some (.J 0 _ (ints (List.replicate ((ao d r).cs n*(ao d r).cd n) 0)));rw[new7 _ O O,o5.nl _ O,b2,z0,<- hD,<- hcN,<- hcD,<- hcE]
    |4,_,_ =>
     show H7.get (Hx.A+3)=some (.J 0 _ (ints (List.replicate ((ao d r).cs n) 0)));rw[new7 _ O O,o5.nl _ O,b3,z0,<- hD,<- hcN]
    |5,_,_ =>
     show H7.get (Hx.A+4+1)=some (.J 0 _ (ints (List.replicate ((ao d r).cs n) (-1))));rw[new7 _ O O,b5,<- hD,<- hcN]
   ·have h9:=hB.nc.nr k j O h2 h3;obtain⟨g,e,c,h8,h7⟩:=na k j h2;rw[hIo k j a1,old7 k j g e c O h3 (by rw[h9,h8]) h7,h9]
 have hpt:iX I2 (n+1)=iX I n++[.R (Hx.A+4+1+1) 0 0]:=by
  unfold iX;rw[TP,TT];congr 1
  ·exact Tf fun k hk=>by rw[hIo k 0 (by have:=S7.1 hk;omega)]
  ·simp only[List.map_cons,List.map_nil];rw[hIn];rfl
 have hB7:BldH d r H3.A H1.A (n+1) lv2 I2 H7:=by
  refine⟨g7,O,?_,fun k j h1 h2=>?_,fun id g m hv=>?_,levs7,fun h=>absurd h (Nat.succ_ne_zero n)⟩
  ·rw[hpt];refine oP.nb W8 O fun i g _ _ h3 _=>o7 i ?_;rintro rfl;rw[gs6]at h3;cases h3
  ·by_cases a1:k=n
   ·rw[a1];have:=hInr j;omega
   ·rw[hIo k j a1];exact hB.sep k j O h2
  ·have hid:H6.get id=some (.J g 170 (iX I n++[.R (Hx.A+4+1+1) 0 0])):=by
    rcases oP with ⟨h1,_⟩|⟨i2,g2,_,_,h3,h4⟩
    ·rw[h1]at hv;cases hv
    ·rw[h3]at hv;obtain⟨e1,e2,_⟩:=W9.Q.inj hv;rw[<- e1,<- e2];exact h4
   have hid7:id≠H1.A:=by
    rintro rfl;rw[gs6]at hid;cases hid
   refine⟨hid7,fun k j h1 h2 he=>?_⟩;have h9:=(o7 id hid7).trans hid;rw[he]at h9
   match j,h2 with
   |0,_ =>
    rw[levs7.nw k h1]at h9;cases h9
   |(j+1),h2 =>
    rw[levs7.nr k (j+1) h1 O h2]at h9;obtain⟨g3,e3,c3,h8,h7⟩:=na k (j+1) O;rw[h8]at h9;cases h9;exact h7 rfl
 have wn:=SN ((n:Int)+1) O;have key:H3.A<=H7.A/\(∃(n_1:Nat) (lvh:W9) (I:Nat->Nat->Nat),W9.lit (.int .i64 ((n:Int)+1))=W9.lit (.int .i64 (n_1:Int))/\n_1<=r.length/\H3.A<=H7.A/\(∀(i:Nat),i<H3.A->¬i=H1.A->H7.get i=H3.get i)/\BldH d r H3.A H1.A n_1 lvh I H7)/\r.length-((n:Int)+1).toNat<r.length-(iv (ρ 38)).toNat:=by
  refine⟨O,⟨n+1,lv2,I2,rfl,O,O,fun i h1 h2=>?_,hB7⟩,by rw[h38];simp only[aa,bj];omega⟩;rw[o7 i h2,hp6 i O (hB.lv.ne h1),o5.nl i O,o4.nl i O,hout i h1 h2]
 rcases hB.lv with ⟨hv0,hv1⟩|⟨i3,g3',q1',q2',hv0,hv1⟩
 ·refine⟨by repeat' (first|refine And.intro ?_ ?_|(intro x hx;omega)),by repeat' (first|refine And.intro ?_ ?_|(intro x hx;omega)),by repeat' (first|refine And.intro ?_ ?_|(intro x hx;omega)),?_⟩;rw[hv0]at hA3;simp only[go_sem,hv0,Bm,hA3,ls6,lv21,lv2c];refine⟨fun x hx=>O,?_⟩;refine W.vs ?_;simp only[go_sem,s38,wn];rw[hH7]at key;exact key
 ·rw[jK]at hv0;refine⟨by repeat' (first|refine And.intro ?_ ?_|(intro x hx;omega)),by repeat' (first|refine And.intro ?_ ?_|(intro x hx;omega)),by repeat' (first|refine And.intro ?_ ?_|(intro x hx;omega)),?_⟩;rw[hv0]at hA3;simp only[go_sem,hv0,Bm,hA3,ls6,lv21,lv2c];refine⟨fun x hx=>O,?_⟩;refine W.vs ?_;simp only[go_sem,s38,wn];rw[hH7]at key;exact key
def Qp (l:List Bool)(hl:l.length<2 ^ 40)(ib g:Nat)(H:Xn)(hg:H.get ib=some (.J g 4 (cK l)))(K:Xd->Xn->Prop)(hK:∀i:Int,(0<=i↔l.contains true=true)->K (.ret (aa i)) H):
  ae prog G0 160 [.Q ib g 0 l.length 1,.lit (.bool true)] H K:=by
 have lb:=af hg;have ll:=q9 l;have eb:∀a b:Bool,∀x y,bn prog .eql 4 x y (.lit (.bool a)) (.lit (.bool b))=some (.lit (.bool (a == b))):=fun a b x y=>Go.Proofs.R01.yM Tryz.underlying4;refine ae.st (n:=19) (rs:=[.tmp 4]) func160 ?_;simp only[go_sem,lb];refine W.aP 524080 (by rfl) (fun ρ H'=>H'=H/\∃k:Nat,ρ 8=aa k/\k<=l.length/\∀j,j<k->l[j]?=some false) (fun ρ H=>l.length-(iv (ρ 8)).toNat) ?_ ?_
 ·simp only[go_sem];exact⟨0,rfl,O,fun j hj=>absurd hj (Tb _)⟩
 rintro ρ H' ⟨rfl,k,h8,hk,hno⟩;refine W.vs ?_;by_cases hb:(k:Int)<l.length
 ·obtain⟨b,hkb⟩:=aq (l:=l) (i:=k) O;have gb:(cK l)[k]?=some (.lit (.bool b)):=by rw[vK,hkb];rfl
  have gbn:=aM gb;have w1:=SN ((k:Int)+1) O;cases b with
  |true =>
   simp only[go_sem,h8,hb,lb,gb,eb];exact ar.mk W8 (hK k ⟨fun _=>by rw[WI];exact an hkb,fun _=>O⟩)
  |false =>
   simp only[go_sem,h8,hb,lb,gb,eb,w1];refine⟨⟨k+1,rfl,O,fun j hj=>?_⟩,O⟩;rcases Uw (UC hj) with h|h
   ·exact hno j h
   ·rw[h];exact hkb
 ·simp only[go_sem,h8,hb];refine ar.mk W8 (hK (-1) ⟨fun h=>O,fun h=>?_⟩);rw[WI]at h;obtain⟨j,hj⟩:=SY.1 h;have:=hno j (by have:=aI hj;omega);rw[this]at hj;cases hj
def Qq (l:List Bool)(hl:l.length<2 ^ 40)(ib g:Nat)(H:Xn)(hg:H.get ib=some (.J g 4 (cK l)))(K:Xd->Xn->Prop)(hK:K (.ret (.lit (.bool (l.contains true)))) H):
  ae prog G0 141 [.Q ib g 0 l.length 1,.lit (.bool true)] H K:=by
 refine ae.st (n:=9) (rs:=[.tmp 4]) func141 ?_;simp only[go_sem];refine az.Z (Qp l hl ib g H hg _ fun i hi=>⟨trivial,?_⟩);by_cases h0:0<=i
 ·simp only[go_sem,h0];rw[hi.1 h0]at hK;exact ar.mk W8 hK
 ·simp only[go_sem,h0];have:l.contains true=false:=by
   rw[<- VA];exact fun h=>h0 (hi.2 h)
  rw[this]at hK;exact ar.mk W8 hK
def fh (D:Xg)(T:Xj)(k m:Nat)(bad:List Bool):Nat->List Bool
 |0=>List.replicate m false
 |n+1=>if ((T.oc k).getD n false && !jL (D.cd k) n (T.ex k) (T.be k) (T.ch k) bad)=true then (fh D T k m bad n).set ((T.ab k).getD n 0).toNat true else fh D T k m bad n
def ra (D:Xg)(T:Xj)(k m:Nat)(bad:List Bool)(n:Nat):(fh D T k m bad n).length=m:=by
 induction n with
 |zero=>simp[fh]
 |succ n ih=>unfold fh;split<;>simp[ih]
variable {T:Xj}
def DF {bad:List Bool}(b:Nat)(hb:b<m):∀n,((fh D T k m bad n).getD b false=true↔∃c,c<n/\((T.ab k).getD c 0).toNat=b/\(T.oc k).getD c false=true/\jL (D.cd k) c (T.ex k) (T.be k) (T.ch k) bad=false):=by
 intro n
 induction n with
 |zero=>simp[fh,SV,TH,hb]
 |succ n ih =>
  unfold fh;by_cases h:((T.oc k).getD n false && !jL (D.cd k) n (T.ex k) (T.be k) (T.ch k) bad)=true
  ·rw[SU h];simp only[Tv,UQ]at h;by_cases e:((T.ab k).getD n 0).toNat=b
   ·constructor
    ·intro _;exact⟨n,O,e,h.1,h.2⟩
    ·intro _;rw[SV,e,Te (by rw[ra];exact hb)];rfl
   ·rw[SV,To e,<- SV,ih];constructor
    ·rintro⟨c,h1,h2⟩;exact⟨c,O,h2⟩
    ·rintro⟨c,h1,h2,h3⟩;refine⟨c,?_,h2,h3⟩;rcases Uw (UC h1) with h4|h4
     ·exact h4
     ·rw[h4]at h2;exact absurd h2 e
  ·rw[SQ h,ih];constructor
   ·rintro⟨c,h1,h2⟩;exact⟨c,O,h2⟩
   ·rintro⟨c,h1,h2,h3,h4⟩;refine⟨c,?_,h2,h3,h4⟩;rcases Uw (UC h1) with h5|h5
    ·exact h5
    ·subst h5;exact absurd (by rw[h3,h4];rfl) h
def iK (D:Xg)(k:Nat):Nat:=if 0<k then D.cs (k-1)*D.cd (k-1) else 1
def gX (D:Xg)(T:Xj):Nat->Nat->List Bool
 |0,k=>List.replicate (D.cs k*D.cd k) false
 |n+1,k=>fh D T (k+1) (D.cs k*D.cd k) (gX D T n (k+1)) (D.cs (k+1))
def Qr (D:Xg)(T:Xj)(n k:Nat):(gX D T n k).length=D.cs k*D.cd k:=by
 cases n with
 |zero=>simp[gX]
 |succ n=>exact ra ..
def jM (T:Xj):Ch:=fun k c=>if (T.ch k).getD c 0=-1 then none else some ((T.ch k).getD c 0).toNat
def kr (T:Xj)(tot:Int):Xs where
 np k c:=((T.ab k).getD c 0).toNat
 nF k c:=(T.oc k).getD c false
 E k b:=(T.ex k).getD b 0
 B k c:=(T.be k).getD c 0
 T:=tot
structure Xj.Rng (D:Xg)(T:Xj):Prop where
 ab:∀k c,0<k->k<D.K->c<D.cs k->0<=(T.ab k).getD c 0/\((T.ab k).getD c 0).toNat<D.cs (k-1)*D.cd (k-1)
 ch:∀k c,k<D.K->c<D.cs k->(T.ch k).getD c 0=-1\/0<=(T.ch k).getD c 0
def DG (hR:T.Rng D):∀(n k:Nat),k+1+n=D.K->∀c,c<D.cs k->jL (D.cd k) c (T.ex k) (T.be k) (T.ch k) (gX D T n k)=j9 D (kr T tot) (jM T) (n+1) k c:=by
 intro n
 induction n with
 |zero =>
  intro k hk c hc;rw[U9];rw[qL];unfold jL gV;rw[Vj];have hm:=hR.ch k c O hc;constructor
  ·rintro⟨x,hx,h⟩;simp only[Tv,Tx,decide_eq_true_eq]at h;refine⟨x,S7.1 hx,h.1.1,fun c' _ _ _=>rfl,fun y hy=>?_⟩;unfold jM at hy;split at hy
   ·cases hy
   ·rename_i h9;rcases h.2 with h2|h2
    ·exact absurd h2 h9
    ·cases hy;omega
  ·rintro⟨x,hx,h1,_,h3⟩;refine⟨x,S7.2 hx,?_⟩;simp only[Tv,Tx,decide_eq_true_eq];refine⟨⟨h1,?_⟩,?_⟩
   ·unfold gX;rw[SV,TH];split<;>rfl
   ·by_cases h9:(T.ch k).getD c 0=-1
    ·exact .inl h9
    ·right;have:=h3 _ (SQ h9);omega
 |succ n ih =>
  intro k hk c hc;rw[U9];rw[qL];unfold jL gV;rw[Vj];have hm:=hR.ch k c O hc;have hbd:∀x,x<D.cd k->((gX D T (n+1) k).getD (c*D.cd k+x) false=true↔∃c',c'<D.cs (k+1)/\(kr T tot).np (k+1) c'=c*D.cd k+x/\(kr T tot).nF (k+1) c'=true/\j9 D (kr T tot) (jM T) (n+1) (k+1) c'=false):=fun x hx=>by
   have hlt:c*D.cd k+x<D.cs k*D.cd k:=by
    have h3:(c+1)*D.cd k<=D.cs k*D.cd k:=Tr _ hc;rw[TJ,UV]at h3;omega
   unfold gX;rw[DF _ hlt];constructor
   ·rintro⟨c',h1,h2,h3,h4⟩;exact⟨c',h1,h2,h3,by rw[<- ih (k+1) O c' h1];exact h4⟩
   ·rintro⟨c',h1,h2,h3,h4⟩;exact⟨c',h1,h2,h3,by rw[ih (k+1) O c' h1];exact h4⟩
  constructor
  ·rintro⟨x,hx,h⟩;simp only[Tv,Tx,decide_eq_true_eq,UQ]at h;have hx':=S7.1 hx;refine⟨x,hx',h.1.1,fun c' h1 h2 h3=>?_,fun y hy=>?_⟩
   ·cases hal:j9 D (kr T tot) (jM T) (n+1) (k+1) c' with
    |true=>rfl
    |false =>
     have:=(hbd x hx').2 ⟨c',h1,h2,h3,hal⟩;rw[h.1.2]at this;cases this
   ·unfold jM at hy;split at hy
    ·cases hy
    ·rename_i h9;rcases h.2 with h2|h2
     ·exact absurd h2 h9
     ·cases hy;omega
  ·rintro⟨x,hx,h1,h2,h3⟩;refine⟨x,S7.2 hx,?_⟩;simp only[Tv,Tx,decide_eq_true_eq,UQ];refine⟨⟨h1,?_⟩,?_⟩
   ·rw[<- VA];intro h;obtain⟨c',a1,a2,a3,a4⟩:=(hbd x hx).1 h;rw[h2 c' a1 a2 a3]at a4;cases a4
   ·by_cases h9:(T.ch k).getD c 0=-1
    ·exact .inl h9
    ·right;have:=h3 _ (SQ h9);omega
def jN (D:Xg)(T:Xj):Bool:=if D.K=0 then true else !(fh D T 0 1 (gX D T (D.K-1) 0) (D.cs 0)).contains true
def Qs (hR:T.Rng D)(h0:∀c,c<D.cs 0->((T.ab 0).getD c 0).toNat=0):jN D T=true↔jG D (kr T tot) (jM T):=by
 unfold jN jG;by_cases hK:D.K=0
 ·rw[SU hK];exact⟨fun _ h=>O,fun _=>rfl⟩
 rw[SQ hK];have hmem:(fh D T 0 1 (gX D T (D.K-1) 0) (D.cs 0)).contains true=true↔(fh D T 0 1 (gX D T (D.K-1) 0) (D.cs 0)).getD 0 false=true:=by
  have hl:=ra D T 0 1 (gX D T (D.K-1) 0) (D.cs 0)
  match hsp:fh D T 0 1 (gX D T (D.K-1) 0) (D.cs 0),hl with
  | [a],_=>cases a<;>simp
 rw[UQ,<- VA,hmem,DF 0 O];constructor
 ·intro h _ c hc ho;cases hal:j9 D (kr T tot) (jM T) D.K 0 c with
  |true=>rfl
  |false =>
   refine absurd ⟨c,hc,h0 c hc,ho,?_⟩ h;rw[DG (tot:=tot) hR (D.K-1) 0 O c hc,show D.K-1+1=D.K by omega];exact hal
 ·rintro h ⟨c,h1,_,h3,h4⟩;have:=h O c h1 h3;rw[DG (tot:=tot) hR (D.K-1) 0 O c h1,show D.K-1+1=D.K by omega]at h4;rw[this]at h4;cases h4
def mV (D:Xg)(T:Xj)(j:Nat):List Bool:=fh D T j (iK D j) (gX D T (D.K-1-j) j) (D.cs j)
def Qt (h0:0<j)(hj:j<D.K):mV D T j=gX D T (D.K-1-(j-1)) (j-1):=by
 obtain⟨m,rfl⟩:∃m,j=m+1:=⟨j-1,O⟩
 have e:D.K-1-(m+1-1)=(D.K-1-(m+1))+1:=O
 rw[e];unfold mV iK;rw[SU h0,Uk];rfl
def Qu (D:Xg)(T:Xj)(j:Nat):(mV D T j).length=iK D j:=ra ..
def Qv (H:Xn)(K:Xd->Xn->Prop)(hK:K (.ret (.lit (.bool false))) H):ae prog G0 141 [.lit (.slice none 0 0),.lit (.bool true)] H K:=by
 have h1:ae prog G0 160 [.lit (.slice none 0 0),.lit (.bool true)] H fun r H'=>r=.ret (aa (-1))/\H'=H:=by
  refine ae.st (n:=19) (rs:=[.tmp 4]) func160 ?_;simp only[go_sem];refine W.aP 524080 (by rfl) (fun ρ H'=>H'=H/\ρ 8=aa 0) (fun ρ H=>0) ?_ ?_
  ·simp only[go_sem]
  rintro ρ H' ⟨rfl,h8⟩;refine W.vs ?_;simp only[go_sem,h8];exact ar.mk W8 ⟨rfl,rfl⟩
 refine ae.st (n:=9) (rs:=[.tmp 4]) func141 ?_;simp only[go_sem];refine az.Z (h1.mono fun rr H2 hrr=>?_);obtain⟨rfl,rfl⟩:=hrr;refine⟨trivial,?_⟩;simp only[go_sem];exact ar.mk W8 hK
def Qw (hrl:r.length<=64){s:Nat}(hsz:∀k,k<r.length->1<=(ao d r).cs k/\(ao d r).cs k<=1024/\1<=(ao d r).cd k/\(ao d r).cd k<=4/\(ao d r).cs k*(ao d r).cd k<=4096)(hR:T.Rng (ao d r))(h00:∀c,c<(ao d r).cs 0->((T.ab 0).getD c 0)=0)
  (H:Xn) (hS:Xi d r lo s lvh I T tot H) (K:Xd->Xn->Prop) (hK:K (.ret (.lit (.bool (jN (ao d r) T)))) H):
  ae prog G0 112 [.R s 0 0] H K:=by
 refine ae.Z ⟨_,func112,rfl,rfl⟩ fun hcl=>?_;obtain⟨D,hD⟩:∃D,D=ao d r:=⟨_,rfl⟩
 have hDK:D.K=r.length:=by rw[hD];rfl
 rw[<- hD]at hsz hR h00 hK;have hB0:=hS.tj;refine ae.sw (n:=79) (rs:=[.tmp 2]) func112 ?_;refine W.sq ?_;simp only[go_sem];refine W.sq ?_;simp only[go_sem];obtain⟨H1,hH1⟩:∃H1,H1=ext H [.J 0 110 [.R s 0 0],.J 0 171 [.lit (.slice none 0 0)]]:=⟨_,rfl⟩
 have g0:=dv hH1
 have g1:=gE hH1 1 rfl
 have n1:H1.A=H.A+2:=hH1▸rfl
 have o1:Xb H H1:=hH1▸.ext _ _
 have hform:H1=ext (ext H [.J 0 110 [.R s 0 0]]) [.J 0 171 [.lit (.slice none 0 0)]]:=by rw[hH1,dD];rfl
 try rw[<- hH1]
 try rw[<- hform]
 clear hH1 hform;have l0:=af g0;refine W.en (fun E=>E 1=.R H.A 0 0 /\ E 3=.R (H.A+1) 0 0) (by simp only[go_sem]) fun E ⟨e1,e3⟩=>?_
 refine W.sq ?_;simp only[go_sem,e1,l0];refine az.Z (D2 s H1 _ ⟨trivial,?_⟩);simp only[go_sem];obtain⟨H2,hH2⟩:∃H2,H2=ext H1 [.J 0 110 [.R s 0 0]]:=⟨_,rfl⟩
 have n2:H2.A=H1.A+1:=hH2▸rfl
 have o2:Xb H1 H2:=hH2▸.ext _ _
 have gbx:=dv hH2
 rw[<- hH2];clear hH2;refine W.env fun E2 hE2=>?_;have f1:E2 1=.R H.A 0 0:=by rw[hE2];simp only[go_sem,e1]
 have f3:E2 3=.R (H.A+1) 0 0:=by rw[hE2];simp only[go_sem,e3]
 have f10:E2 10=.Z 137 [] [.R H1.A 0 0]:=by rw[hE2];rfl
 clear hE2 e1 e3;have hS2:Xi d r lo s lvh I T tot H2:=hS.iY hB0 O fun i hi=>(o2.nl i O).trans (o1.nl i hi);have g02:=(o2.nl _ O).trans g0;have g12:=(o2.nl _ O).trans g1;refine W.pK (f:=137) (first:=[]) (cap:=[.R H1.A 0 0]) (by show E2 10=_;exact f10) (D1 d s H1.A r.length hrl)
  (fun k Hy=>H2.A<Hy.A/\(∀i,i<H2.A->i≠H.A+1->Hy.get i=H2.get i)/\(k=0/\Hy.get (H.A+1)=some (.J 0 171 [.lit (.slice none 0 0)])\/0<k/\∃ib,H2.A<ib/\ib<Hy.A/\Hy.get (H.A+1)=some (.J 0 171 [.Q ib 0 0 (iK D (r.length-k)) 1])/\Hy.get ib=some (.J 0 4 (cK (mV D T (r.length-k))))))
  (fun _ _=>False)
  (fun k Hy h=>⟨(h.2.1 _ O O).trans gbx,_,_,(h.2.1 _ (by have:=hB0.1;omega) (by have:=hB0.1;omega)).trans hS2.top,(hS2.iY hB0 O fun i hi=>h.2.1 i O O).len⟩)
  (fun k Hy b h=>⟨h.1,fun i h1 h2=>by rw[ag,SQ O];exact h.2.1 i h1 h2,by
   rcases h.2.2 with ⟨h1,h2⟩|⟨h1,ib,h2,h3,h4,h5⟩
   ·exact .inl ⟨h1,by rw[ag,SQ O];exact h2⟩
   ·exact .inr ⟨h1,ib,h2,h3,by rw[ag,SQ O];exact h4,by rw[ag,SQ O];exact h5⟩⟩)
  (fun _ _ _ h=>h)
  (fun b=>⟨by rw[aX];simp,fun i h1 _=>bQ h1,.inl ⟨rfl,by rw[bQ O];exact g12⟩⟩)
  W6 (fun x hx=>by rw[D0 x hx];rfl) (fun _ _ _=>trivial) (fun _ _ _=>trivial) (fun k y Hy B Bb hy hj hn hBq hBb=>?_) (fun Hy hj hn=>?_) (fun _ hs _=>hs.elim) (fun _ _ hs _=>hs.elim)
 ·obtain⟨hk,rfl⟩:=DZ hy;obtain⟨kk,hkk⟩:∃kk,kk=r.length-1-k:=⟨_,rfl⟩
  have e1:(r.length:Int)-1-(k:Int)=(kk:Int):=O
  have e2:r.length-k=kk+1:=O
  have e3:r.length-(k+1)=kk:=O
  have hkl:kk<r.length:=O
  rw[e1];rw[e2]at hj;rw[e3];refine W.vs ?_;simp only[go_sem,ic,cG,jn,TF,Ur,TV,T1,hBq];obtain⟨H3,hH3⟩:∃H3,H3=Hy.upd H2.A Bb:=⟨_,rfl⟩
  rw[<- hH3];obtain⟨st,pd,n',en,ps',as',bo,hBe⟩:=hBb;have n3:H3.A=Hy.A:=by rw[hH3];rfl
  have o3:∀id,id≠H2.A->H3.get id=Hy.get id:=fun id h=>by rw[hH3,ag,SQ h]
  have jB:H3.get H2.A=some Bb:=by rw[hH3,ag,SU rfl]
  clear hH3;have old3:∀i,i<H2.A->i≠H.A+1->H3.get i=H2.get i:=fun i h1 h2=>(o3 i O).trans (hj.2.1 i h1 h2);have hS3:Xi d r lo s lvh I T tot H3:=hS2.iY hB0 O fun i hi=>old3 i O O;have lp3:=af ((old3 H.A O O).trans g02);have ls3:=af hS3.top;obtain⟨il,gl,hlv,glv,_,_⟩:=hS3.vM hkl;have llv:=af glv;have lk:=af (hS3.nc.nw kk hkl);rw[<- hD]at lk;simp only[gJ]at lk;have hpk:=sX (I:=I) hkl;have hpn:=aM hpk;have hpl:=jK I r.length;have hki:(kk:Int)<r.length:=O
  refine W.en (fun E3=>E3 1=.R H.A 0 0 /\ E3 3=.R (H.A+1) 0 0 /\ E3 4=aa kk) (by simp only[go_sem,cG,f1,f3]) fun E3 ⟨m1,m3,m4⟩=>?_
  refine W.block ?_;refine W.sq ?_;simp only[go_sem,m1,m4,lp3,ls3,hlv,llv,hpk,hki];obtain⟨cs1,cs2,cd1,cd2,csd⟩:=hsz kk hkl;obtain⟨cE,hcE⟩:∃cE,cE=D.cs kk*D.cd kk:=⟨_,rfl⟩
  rw[<- hcE]at csd lk;have hexl:(T.ex kk).length=cE:=by rw[hS3.nc.len.ex kk hkl,<- hD,<- hcE]
  have l3t:H3.X (I kk 3) 0=some (3,ints (T.ex kk)):=af (hS3.nc.nr kk 3 hkl O O);have ll3:(ints (T.ex kk)).length=cE:=by rw[aS];exact hexl
  refine W.en (fun E4=>E4 1=.R H.A 0 0 /\ E4 3=.R (H.A+1) 0 0 /\ E4 4=aa kk /\ E4 5=.R (I kk 0) 0 0) (by simp only[go_sem,m1,m3,m4]) fun E4 ⟨q1,q3,q4,q5⟩=>?_
  have hcE0:(0:Int)<=cE:=O
  have g3sv:H3.get (H.A+1)=Hy.get (H.A+1):=o3 _ O;obtain⟨Φ,hΦ⟩:∃ Φ:St->Prop,∀s',Φ s'↔(s'.ρ 1=.R H.A 0 0/\s'.ρ 3=.R (H.A+1) 0 0/\s'.ρ 4=aa kk/\s'.ρ 5=.R (I kk 0) 0 0/\H3.A<=s'.H.A/\(∀i,i<H3.A->s'.H.get i=H3.get i)/\∃ibd,s'.ρ 6=.Q ibd 0 0 cE 1/\H2.A<ibd/\ibd<s'.H.A/\s'.H.get ibd=some (.J 0 4 (cK (gX D T (D.K-1-kk) kk)))):=⟨_,fun _=>Iff.rfl⟩
  refine W.lO (fun s'=>s'.H=H3/\s'.ρ 1=.R H.A 0 0/\s'.ρ 3=.R (H.A+1) 0 0/\s'.ρ 4=aa kk/\s'.ρ 5=.R (I kk 0) 0 0/\(k=0/\s'.ρ 6=.lit (.slice none 0 0)\/0<k/\∃ib,H2.A<ib/\ib<H3.A/\s'.ρ 6=.Q ib 0 0 (iK D (kk+1)) 1/\H3.get ib=some (.J 0 4 (cK (mV D T (kk+1)))))) ?_ ?_
  ·refine W.vs ?_;rcases hj.2.2 with ⟨hk0,hsv⟩|⟨hk0,ib,i1,i2,i3,i4⟩
   ·have lsv:=af (g3sv.trans hsv);simp only[go_sem,q1,q3,q4,q5,lsv];exact .inl hk0
   ·have lsv:=af (g3sv.trans i3);simp only[go_sem,q1,q3,q4,q5,lsv];exact⟨hk0,ib,i1,O,rfl,(o3 ib O).trans i4⟩
  rintro⟨ρ5,Hq⟩ ⟨hHq,r1,r3,r4,r5,hsp⟩;simp only at hHq r1 r3 r4 r5 hsp;rw[hHq];clear hHq Hq q1 q3 q4 q5;refine W.lO Φ ?_ ?_
  ·refine W.vs ?_;rcases hsp with ⟨hk0,r6⟩|⟨hk0,ib,i1,i2,r6,i4⟩
   ·have enil:∀x y,bn prog .eql 171 x y (.lit (.slice none 0 0)) (.lit (.slice none 0 0))=some (.lit (.bool true)):=fun x y=>by rfl
    simp only[go_sem,r5,r6,lk,l3t,hcE0,enil];refine⟨O,(hΦ _).2 ⟨by simp only[go_sem,r1],by simp only[go_sem,r3],by simp only[go_sem,r4],by simp only[go_sem,r5],Vm _,fun i h=>bQ h,H3.A,by simp only[go_sem],O,Un _,?_⟩⟩;rw[da,show D.K-1-kk=0 by omega];unfold gX;rw[<- hcE];simp[cK]
   ·have hbr:0<iK D (kk+1):=by
     unfold iK;rw[SU O,Uk];exact V1 O (O)
    have lib:=af i4;simp only[go_sem,r6,A1,lib,hbr];intro b hb;subst hb;simp only[go_sem];have hbE:iK D (kk+1)=cE:=(by unfold iK;rw[SU O,Uk,hcE]);have hsb:=Qt (D:=D) (T:=T) (j:=kk+1) O O;rw[Uk]at hsb;exact(hΦ _).2 ⟨by simp only[go_sem,r1],by simp only[go_sem,r3],by simp only[go_sem,r4],by simp only[go_sem,r5],W8,fun i h=>rfl,ib,by simp only[go_sem,r6,hbE],i1,i2,by rw[<- hsb];exact i4⟩
  rintro⟨ρ6,H4⟩ hΦ6;obtain⟨v1,v3,v4,v5,n4,o4,ibd,v6,d1,d2,d3⟩:=(hΦ _).1 hΦ6;simp only at v1 v3 v4 v5 n4 o4 v6 d2 d3;clear hΦ6 r1 r3 r4 r5 hsp;refine W.sq ?_;simp only[go_sem];have hS4:Xi d r lo s lvh I T tot H4:=hS3.iY hB0 n4 fun i hi=>o4 i O;have lp4:=af ((o4 H.A O).trans ((old3 H.A O O).trans g02));have ls4:=af hS4.top;have llv4:=af ((o4 il (by have:=hB0.2.2 _ _ _ hlv;omega)).trans glv);refine W.lO (fun s'=>s'.H=H4/\s'.ρ 3=.R (H.A+1) 0 0/\s'.ρ 4=aa kk/\s'.ρ 5=.R (I kk 0) 0 0/\s'.ρ 6=.Q ibd 0 0 cE 1/\s'.ρ 7=aa (iK D kk)) ?_ ?_
  ·refine W.vs ?_;by_cases hk1:(0:Int)<kk
   ·have hk1':kk-1<r.length:=O;have hpk1:=sX (I:=I) hk1';have hpn1:=aM hpk1;have l14:=af (hS4.nc.nw (kk-1) hk1');rw[<- hD]at l14;simp only[gJ]at l14;have l1e:H4.X (I (kk-1) 3) 0=some (3,ints (T.ex (kk-1))):=af (hS4.nc.nr (kk-1) 3 hk1' O O);have ll1:(ints (T.ex (kk-1))).length=D.cs (kk-1)*D.cd (kk-1):=(by rw[aS,hS4.nc.len.ex (kk-1) hk1',<- hD]);have w5:=SN ((kk:Int)-1) O;have ek:(kk:Int)-1=((kk-1:Nat):Int):=O;rw[ek]at w5;have hk1i:((kk-1:Nat):Int)<r.length:=O;simp only[go_sem,v1,v3,v4,v5,v6,hk1,lp4,ls4,hlv,llv4,ek,w5,hk1i,hpk1,l14,l1e];have:iK D kk=D.cs (kk-1)*D.cd (kk-1):=SU O;rw[this]
   ·simp only[go_sem,v3,v4,v5,v6,hk1];have:iK D kk=1:=SQ O;rw[this];rfl
  rintro⟨ρ7,Hq⟩ ⟨hHq,x3,x4,x5,x6,x7⟩;simp only at hHq x3 x4 x5 x6 x7;rw[hHq];clear hHq Hq v1 v3 v4 v5 v6;obtain⟨bN,hbN⟩:∃bN,bN=iK D kk:=⟨_,rfl⟩
  rw[<- hbN]at x7;have hbN4:1<=bN/\bN<=4096:=by
   rw[hbN];unfold iK;split
   ·have:=hsz (kk-1) O;exact⟨V1 O O,this.2.2.2.2⟩
   ·exact⟨W8,W6⟩
  have hbN0:(0:Int)<=bN:=O
  obtain⟨svc,hsvc⟩:∃svc,H4.get (H.A+1)=some (.J 0 171 [svc]):=by
   rcases hj.2.2 with ⟨_,h2⟩|⟨_,ib,_,_,h4,_⟩
   ·exact⟨_,(o4 _ O).trans (g3sv.trans h2)⟩
   ·exact⟨_,(o4 _ O).trans (g3sv.trans h4)⟩
  have lsvE:∀L,(ext H4 L).X (H.A+1) 0=_:=fun L=>(c9 O).trans (af hsvc);refine W.sq ?_;simp only[go_sem,x3,x7,hbN0,lsvE];refine⟨O,?_⟩;obtain⟨H5,hH5⟩:∃H5,H5=(ext H4 [.J 0 4 (List.replicate bN (.lit (.bool false)))]).upd (H.A+1) (.J 0 171 [.Q H4.A 0 0 bN 1]):=⟨_,rfl⟩
  rw[<- hH5];have n5:H5.A=H4.A+1:=by rw[hH5];rfl
  have o5:∀i,i<H4.A->i≠H.A+1->H5.get i=H4.get i:=fun i h1 h2=>by rw[hH5,ag,SQ h2,bQ h1]
  have b5:H5.get (H.A+1)=some (.J 0 171 [.Q H4.A 0 0 bN 1]):=by rw[hH5,ag,SU rfl]
  have c5:H5.get H4.A=some (.J 0 4 (cK (fh D T kk bN (gX D T (D.K-1-kk) kk) 0))):=by rw[hH5,ag,SQ O,da];simp[fh,cK]
  clear hH5;have hS5:Xi d r lo s lvh I T tot H5:=hS4.iY hB0 O fun i hi=>o5 i O O;have lk5:=af (hS5.nc.nw kk hkl);rw[<- hD]at lk5;simp only[gJ]at lk5;have lbe:H5.X (I kk 4) 0=some (3,ints (T.be kk)):=af (hS5.nc.nr kk 4 hkl O O);have llb:(ints (T.be kk)).length=D.cs kk:=by rw[aS,hS5.nc.len.be kk hkl,<- hD]
  refine W.en (fun E7=>E7 3=.R (H.A+1) 0 0 /\ E7 4=aa kk /\ E7 5=.R (I kk 0) 0 0 /\ E7 6=.Q ibd 0 0 cE 1) (by simp only[go_sem,x3,x4,x5,x6]) fun E7 ⟨y3,y4,y5,y6⟩=>?_
  clear x3 x4 x5 x6 x7;refine W.sq ?_;simp only[go_sem,y5,lk5,lbe];refine W.env fun E8 hE8=>?_;have z3:E8 3=.R (H.A+1) 0 0:=by rw[hE8];simp only[go_sem,y3]
  have z5:E8 5=.R (I kk 0) 0 0:=by rw[hE8];simp only[go_sem,y5]
  have z6:E8 6=.Q ibd 0 0 cE 1:=by rw[hE8];simp only[go_sem,y6]
  have z48:E8 48=aa (D.cs kk):=by rw[hE8];simp only[go_sem]
  have z49:E8 49=aa 0:=by rw[hE8];simp only[go_sem]
  clear hE8 y3 y4 y5 y6;obtain⟨bad,hbad⟩:∃b,b=gX D T (D.K-1-kk) kk:=⟨_,rfl⟩
  rw[<- hbad]at d3 c5;have hbadl:bad.length=cE:=by rw[hbad,Qr,hcE]
  refine W.block ?_;refine W.aP 75557863162964369998080 (by rfl) (fun ρ Hz=>∃c:Nat,ρ 49=aa c/\c<=D.cs kk/\Hz.A=H5.A/\(∀i,i<H5.A->i≠H4.A->Hz.get i=H5.get i)/\Hz.get H4.A=some (.J 0 4 (cK (fh D T kk bN bad c)))) (fun ρ Hz=>D.cs kk-(iv (ρ 49)).toNat) ?_ ?_
  ·simp only[go_sem,z49];exact⟨0,rfl,O,c5⟩
  rintro ρ8 Hz ⟨c,h49,hc,nz,oz,gz⟩;have hSz:Xi d r lo s lvh I T tot Hz:=hS5.iY hB0 O fun i hi=>oz i O O;refine W.en (fun E9=>E9 3=.R (H.A+1) 0 0 /\ E9 5=.R (I kk 0) 0 0 /\ E9 6=.Q ibd 0 0 cE 1 /\ E9 48=aa (D.cs kk) /\ E9 49=aa c) (by simp only[go_sem,z3,z5,z6,z48,h49]) fun E9 ⟨u3,u5,u6,u48,u49⟩=>?_
  have bz:=(oz (H.A+1) O O).trans b5;have dz:=(oz ibd O O).trans ((o5 ibd d2 O).trans d3);by_cases hb:(c:Int)<D.cs kk;rotate_left
  ·refine W.vs ?_;simp only[go_sem,u48,u49,hb,eM];have hcc:c=D.cs kk:=O;refine⟨?_,O,O,fun i h1 h2=>?_,O,H4.A,O,O,by rw[bz,hbN],?_⟩
   ·rw[oz _ O O,o5 _ O O,o4 _ O];exact jB
   ·rw[oz i O O,o5 i O h2,o4 i O];exact old3 i h1 h2
   ·rw[gz,hcc,hbad,hbN];rfl
  refine W.sq ?_;simp only[go_sem,u48,u49,hb];refine W.sq ?_;simp only[go_sem];refine W.seq (W.block ?_);refine W.sq ?_;simp only[go_sem,u49];have lzk:=af (hSz.nc.nw kk hkl);rw[<- hD]at lzk;simp only[gJ]at lzk;have lzo:Hz.X (I kk 2) 0=some (4,cK (T.oc kk)):=af (hSz.nc.nr kk 2 hkl O O);have lzol:(T.oc kk).length=D.cs kk:=by rw[hSz.nc.len.oc kk hkl,<- hD]
  obtain⟨o,ho⟩:=aq (l:=T.oc kk) (i:=c) O;have go:(cK (T.oc kk))[c]?=some (.lit (.bool o)):=by rw[vK,ho];rfl
  have gon:=aM go;have llo:(cK (T.oc kk)).length=D.cs kk:=by rw[q9];exact lzol
  have wc:=SN ((c:Int)+1) O;have hLz:=hSz.nc;rw[<- hD]at hLz;obtain⟨ab,hab⟩:∃b,b=jL (D.cd kk) c (T.ex kk) (T.be kk) (T.ch kk) bad:=⟨_,rfl⟩
  have hspn:fh D T kk bN bad (c+1)=if (o && !ab)=true then (fh D T kk bN bad c).set ((T.ab kk).getD c 0).toNat true else fh D T kk bN bad c:=by
   show (if ((T.oc kk).getD c false && !jL (D.cd kk) c (T.ex kk) (T.be kk) (T.ch kk) bad)=true then _ else _)=_;rw[gW ho,<- hab]
  refine W.lO (fun s'=>s'.H=Hz/\s'.ρ 3=.R (H.A+1) 0 0/\s'.ρ 5=.R (I kk 0) 0 0/\s'.ρ 8=aa c/\s'.ρ 49=aa c/\s'.ρ 65=.lit (.bool (o && !ab))) ?_ ?_
  ·refine W.vs ?_;cases o with
   |false =>
    simp only[go_sem,u3,u5,u49,lzk,lzo,go,hb]
    try rfl
   |true =>
    simp only[go_sem,u5,u6,lzk,lzo,go,hb];rw[hcE];refine az.Z (Ql (D:=D) hkl O O O ibd 0 bad (by rw[hbadl,hcE]) Hz hLz dz _ ⟨?_,?_⟩)
    ·exact⟨st,pd,n',en,ps',as',bo,by rw[oz _ O O,o5 _ O O,o4 _ O,jB,hBe]⟩
    ·rw[<- hab];cases hq:ab
     ·simp only[go_sem];exact⟨u3,u5,u49⟩
     ·simp only[go_sem];exact⟨u3,u5,u49,rfl⟩
  rintro⟨ρ9,Hq⟩ ⟨hHq,p3,p5,p8,p49,p65⟩;simp only at hHq p3 p5 p8 p49 p65;rw[hHq];clear hHq Hq u3 u5 u6 u48 u49;have hlz:Hz.get H2.A=some (.loop st pd n' en ps' as' bo):=by rw[oz _ O O,o5 _ O O,o4 _ O,jB,hBe]
  cases hfl:(o && !ab) with
  |false =>
   rw[hfl]at p65 hspn;rw[SQ W6]at hspn;refine W.cond (t:=false) p65 ?_;refine W.vs ?_;simp only[go_sem];refine W.vs ?_;simp only[go_sem,p49,wc];exact⟨O,⟨st,pd,n',en,ps',as',bo,hlz⟩,⟨c+1,rfl,O,nz,oz,by rw[hspn];exact gz⟩,by rw[h49];simp only[aa,bj];omega⟩
  |true =>
   rw[hfl]at p65 hspn;rw[SU rfl]at hspn;refine W.cond (t:=true) p65 ?_;have lza:Hz.X (I kk 1) 0=some (3,ints (T.ab kk)):=af (hSz.nc.nr kk 1 hkl O O);have lzal:(T.ab kk).length=D.cs kk:=(by rw[hSz.nc.len.ab kk hkl,<- hD]);obtain⟨av,hav⟩:=aq (l:=T.ab kk) (i:=c) O;have hav2:=gW (z:=0) hav;have hrng:0<=av/\av.toNat<bN:=by
    rw[<- hav2,hbN];unfold iK;by_cases hk1:0<kk
    ·rw[SU hk1];exact hR.ab kk c hk1 O (O)
    ·have h0:kk=0:=O;rw[SQ hk1,h0];have:=h00 c (by rw[<- h0];omega);omega
   obtain⟨aN,rfl⟩:=S5 hrng.1;have ga:(ints (T.ab kk))[c]?=some (aa aN):=(by rw[eG,hav];rfl);have gan:=aM ga;have lla:(ints (T.ab kk)).length=D.cs kk:=(by rw[aS];exact lzal);have lbz:=af bz;have lgz:=af gz;have llz:(cK (fh D T kk bN bad c)).length=bN:=(by rw[q9,ra]);have aNi:(aN:Int)<bN:=O;have es:setAt (cK (fh D T kk bN bad c)) aN [.lit (.bool true)]=cK (fh D T kk bN bad (c+1)):=by
    rw[DA (by rw[ra];omega),hspn,hav2];rfl
   refine W.dr 8 [0,0,2,6,14,0,62,126] mixed ?_;simp only[go_sem,p3,p5,p8,lbz,lgz,llz,lzk,lza,ga,hb,aNi,es];refine⟨O,?_⟩;refine W.vs ?_;simp only[go_sem,p49,wc];exact⟨by rw[aF];omega,⟨st,pd,n',en,ps',as',bo,by rw[ag,SQ O];exact hlz⟩,⟨c+1,rfl,O,by rw[aF];exact nz,fun i h1 h2=>by rw[ag,SQ h2];exact oz i h1 h2,by rw[ag,SU rfl]⟩,by rw[h49];simp only[aa,bj];omega⟩
 ·simp only[go_sem];have hov:Xb H Hy:=⟨O,fun i hi=>by rw[hj.2.1 i O O,o2.nl i O,o1.nl i hi]⟩
  rw[vV]at hj;rcases hj.2.2 with ⟨h1,h2⟩|⟨h1,ib,h2,h3,h4,h5⟩
  ·have lsv:=af h2;refine W.vs ?_;simp only[go_sem,f3,lsv];refine az.Z (Qv _ _ ⟨trivial,?_⟩);simp only[go_sem];have:jN D T=true:=(by unfold jN;rw[SU O]);rw[this]at hK;exact ar.bE aH hcl hov (.lit _) hK
  ·rw[Vx]at h4 h5;have lsv:=af h4;have hb0:iK D 0=1:=SQ O;have hl:=Qu D T 0;rw[<- hl]at lsv;refine W.vs ?_;simp only[go_sem,f3,lsv];refine az.Z (Qq (mV D T 0) (by rw[hl,hb0];decide) ib 0 Hy h5 _ ⟨trivial,?_⟩);have hfe:jN D T=!(mV D T 0).contains true:=by
    unfold jN mV;rw[SQ O,hb0];rfl
   rw[hfe]at hK;cases hcb:(mV D T 0).contains true with
   |true =>
    rw[hcb]at hK;simp only[go_sem];exact ar.bE aH hcl hov (.lit _) hK
   |false =>
    rw[hcb]at hK;simp only[go_sem];exact ar.bE aH hcl hov (.lit _) hK
def cU (T:Xj)(k c:Nat)(x:Nat):Xj:={ T with ch:=eE T.ch k ((T.ch k).set c (x:Int)) }
def pI (D:Xg)(T:Xj)(k c:Nat):Nat:=iG (fun x=>jN D (cU T k c x)) (D.cd k-1) 0
def jl (D:Xg)(T:Xj)(k:Nat):Nat->Xj
 |0=>T
 |n+1=>cU (jl D T k n) k n (pI D (jl D T k n) k n)
def rf (T:Xj)(k c x:Nat):(cU T k c x).ch k=(T.ch k).set c (x:Int):=ko ..
def DH (T:Xj)(k c x k' c':Nat)(hc:c<(T.ch k).length):((cU T k c x).ch k').getD c' 0=if k'=k/\c'=c then (x:Int) else (T.ch k').getD c' 0:=by
 unfold cU;simp only;by_cases e:k'=k
 ·subst e;rw[ko,oq _ _ _ _ _ hc];by_cases e2:c=c'
  ·rw[SU e2,SU ⟨rfl,e2.symm⟩]
  ·rw[SQ e2,SQ fun h=>e2 h.2.symm]
 ·rw[jk e,SQ fun h=>e h.1]
def DI (hc:c<(T.ch k).length):jM (cU T k c x)=kd (jM T) k c x:=by
 funext k' c'
 unfold jM;rw[DH _ _ _ _ _ _ hc];by_cases h:k'=k/\c'=c
 ·rw[SU h,h.1,h.2,mQ,SQ O];simp
 ·rw[SQ h,mR h]
def vO (hR:T.Rng D)(hc:c<(T.ch k).length):(cU T k c x).Rng D :=
 ⟨hR.ab,fun k' c' h1 h2=>by
  rw[DH _ _ _ _ _ _ hc];split
  ·right;omega
  ·exact hR.ch k' c' h1 h2⟩
def vQ (hl:T.Len D n)(k c x:Nat):(cU T k c x).Len D n :=
 ⟨hl.ab,hl.oc,hl.ex,hl.be,fun k' h=>by
  unfold cU;simp only;by_cases e:k'=k
  ·rw[e,ko,Tl,<- e];exact hl.ch k' h
  ·rw[jk e];exact hl.ch k' h⟩
def DJ {f g:Nat->Bool}:∀n x,(∀y,x<=y->y<x+n->f y=g y)->iG f n x=iG g n x:=by
 intro n
 induction n with
 |zero=>intro x _;rfl
 |succ n ih =>
  intro x h;unfold iG;rw[h x W8 O,ih (x+1) fun y h1 h2=>h y O O]
def Qx (hR:T.Rng D)(h0:∀c,c<D.cs 0->((T.ab 0).getD c 0).toNat=0)(hc:c<(T.ch k).length):pI D T k c=iH D (kr T tot) (jM T) k c:=by
 unfold pI iH;refine DJ _ _ fun y _ _=>?_;have h1:=Qs (D:=D) (T:=cU T k c y) (tot:=tot) (vO hR hc) h0;rw[DI hc]at h1;have h2:kr (cU T k c y) tot=kr T tot:=rfl;rw[h2]at h1;rw[U9,h1,sJ]
def Qy {f:Nat->Bool}(h1:∀y,y<x->f y=false)(h2:x<=n)(h3:x<n->f x=true):iG f n 0=x:=by
 obtain⟨_,a2,a3,a4⟩:=C5 f n 0;rcases Up (iG f n 0) x with h|h|h
 ·have:=a4 O;rw[h1 _ h]at this;cases this
 ·exact h
 ·have:=h3 O;rw[a3 x (Uh _) h]at this;cases this
def sY (H:Xn)(i c:Nat):Nat:=match H.get i with
 |some (.J _ _ cells)=>match cells[c]? with
  |some (.lit (.int _ z))=>z.toNat
  |_=>0
 |_=>0
def DK (D:Xg)(T:Xj)(k:Nat):∀n,(jl D T k n).ab=T.ab:=by
 intro n
 induction n with
 |zero=>rfl
 |succ n ih=>exact ih
def DL (hl:T.Len D m)(k:Nat):∀n,(jl D T k n).Len D m:=by
 intro n
 induction n with
 |zero=>exact hl
 |succ n ih=>exact vQ ih _ _ _
def DM (hl:T.Len D m)(hR:T.Rng D)(hk:k<m):∀n,n<=D.cs k->(jl D T k n).Rng D:=by
 intro n
 induction n with
 |zero=>intro _;exact hR
 |succ n ih=>intro hn;exact vO (ih O) (by rw[(DL hl k n).ch k hk];omega)
def Qz (hrl:r.length<=64){s:Nat}(hsz:∀k,k<r.length->1<=(ao d r).cs k/\(ao d r).cs k<=1024/\1<=(ao d r).cd k/\(ao d r).cd k<=4/\(ao d r).cs k*(ao d r).cd k<=4096)(hR:T.Rng (ao d r))(h00:∀c,c<(ao d r).cs 0->((T.ab 0).getD c 0)=0)(hk:k<r.length)
  (bx:Nat) (H:Xn) (hbx:H.get bx=some (.J 0 110 [.R s 0 0])) (hbl:bx<H.A) (hbs:bx≠s/\∀k j,k<r.length->j<6->bx≠I k j) (hS:Xi d r lo s lvh I T tot H) (K:Xd->Xn->Prop)
  (hK:∀H',H'.A=H.A->jO r s I H H'->Xi d r lo s lvh I (jl (ao d r) T k ((ao d r).cs k)) tot H'->K (.ret (.Q (I k 5) 0 0 ((ao d r).cs k) 1)) H'):
  ae prog G0 111 [.R (I k 0) 0 0,.R bx 0 0] H K:=by
 obtain⟨D,hD⟩:∃D,D=ao d r:=⟨_,rfl⟩
 have lk:=af (hS.nc.nw k hk);rw[<- hD]at lk;simp only[gJ]at lk;have l5:H.X (I k 5) 0=some (3,ints (T.ch k)):=af (hS.nc.nr k 5 hk O O);have ll5:(ints (T.ch k)).length=D.cs k:=by rw[aS,hS.nc.len.ch k hk,<- hD]
 refine ae.sw (n:=51) (rs:=[.tmp 3]) func111 ?_;refine W.sq ?_;simp only[go_sem];refine W.sq ?_;simp only[go_sem,lk,l5];refine W.en (fun E=>E 0=.R (I k 0) 0 0 /\ E 1=.R bx 0 0 /\ E 9=aa (D.cs k) /\ E 10=aa 0) (by simp only[go_sem]) fun E ⟨e0,e1,e9,e10⟩=>?_
 try refine W.block ?_
 refine W.aP 140737488354320 (by rfl) (fun ρ Hx=>∃c:Nat,ρ 10=aa c/\c<=D.cs k/\Hx.A=H.A/\jO r s I H Hx/\Xi d r lo s lvh I (jl D T k c) tot Hx) (fun ρ Hx=>D.cs k-(iv (ρ 10)).toNat) ?_ ?_
 ·simp only[go_sem,e10];exact⟨0,rfl,O,fun _ _ _=>rfl,hS⟩
 rintro ρ Hx ⟨c,h10,hc,nx,hout,hSx⟩;obtain⟨Tc,hTc⟩:∃Tc,Tc=jl D T k c:=⟨_,rfl⟩
 rw[<- hTc]at hSx;have lxk:=af (hSx.nc.nw k hk);rw[<- hD]at lxk;simp only[gJ]at lxk;have lx5:Hx.X (I k 5) 0=some (3,ints (Tc.ch k)):=af (hSx.nc.nr k 5 hk O O);have lxl:=hSx.nc.len.ch k hk;rw[<- hD]at lxl;have ll:=aS (Tc.ch k);rw[lxl]at ll;refine W.en (fun E1=>E1 0=.R (I k 0) 0 0 /\ E1 1=.R bx 0 0 /\ E1 9=aa (D.cs k) /\ E1 10=aa c) (by simp only[go_sem,e0,e1,e9,h10]) fun E1 ⟨f0,f1,f9,f10⟩=>?_
 by_cases hb:(c:Int)<D.cs k;rotate_left
 ·refine W.vs ?_;simp only[go_sem,f9,f10,hb];have hcc:c=D.cs k:=O
  refine W.vs ?_;simp only[go_sem,f0,lxk];rw[hTc,hcc,hD]at hSx;rw[hD];exact ar.mk O (hK Hx nx hout hSx)
 refine W.sq ?_;simp only[go_sem,f9,f10,hb];refine W.sq ?_;simp only[go_sem];refine W.seq (W.block ?_);refine W.sq ?_;simp only[go_sem,f10];have es:setAt (ints (Tc.ch k)) c [.lit (.int .i64 0)]=ints ((cU Tc k c 0).ch k):=by rw[gU (by rw[lxl];omega),rf];rfl
 refine W.sq ?_;simp only[go_sem,f0,lxk,lx5,ll,hb,es];refine⟨O,?_⟩;obtain⟨H4,hH4⟩:∃H4,H4=Hx.upd (I k 5) (.J 0 3 (ints ((cU Tc k c 0).ch k))):=⟨_,rfl⟩
 rw[<- hH4];have hTl:=hSx.nc.len;have tr:∀x (T2:Xj) (Ha:Xn),(∃y,T2=cU Tc k c y)->Xi d r lo s lvh I T2 tot Ha->Xi d r lo s lvh I (cU Tc k c x) tot (Ha.upd (I k 5) (.J 0 3 (ints ((cU Tc k c x).ch k)))):=fun x T2 Ha h2 hSa=>by
  obtain⟨y,rfl⟩:=h2;have hb5:de (cU Tc k c x) k 5=.J 0 3 (ints ((cU Tc k c x).ch k)):=rfl;rw[<- hb5];refine hSa.upd hk O O (fun k' j' h1 h2 h3 h4=>?_) (vQ hTl _ _ _)
  match j',h2,h3 with
  |1,_,_=>rfl
  |2,_,_=>rfl
  |3,_,_=>rfl
  |4,_,_=>rfl
  |5,_,_ =>
   have hne:k'≠k:=fun e=>h4 ⟨e,rfl⟩;show Xe.J 0 _ (ints (eE Tc.ch k _ k'))=Xe.J 0 _ (ints (eE Tc.ch k _ k'));rw[jk hne,jk hne]
 have hSx':Xi d r lo s lvh I (cU Tc k c 0) tot H4:=by
  have hb5:de (cU Tc k c 0) k 5=.J 0 3 (ints ((cU Tc k c 0).ch k)):=rfl;rw[hH4,<- hb5];refine hSx.upd hk O O (fun k' j' h1 h2 h3 h4=>?_) (vQ hTl _ _ _)
  match j',h2,h3 with
  |1,_,_=>rfl
  |2,_,_=>rfl
  |3,_,_=>rfl
  |4,_,_=>rfl
  |5,_,_ =>
   have hne:k'≠k:=fun e=>h4 ⟨e,rfl⟩;show Xe.J 0 _ (ints (eE Tc.ch k _ k'))=Xe.J 0 _ (ints (Tc.ch k'));rw[jk hne]
 have n4:H4.A=H.A:=by rw[hH4,aF];exact nx
 have o4:jO r s I H H4:=fun i h1 h2=>by rw[hH4,ag,SQ (h2 k 5 hk O)];exact hout i h1 h2
 clear hH4;refine W.en (fun E2=>E2 0=.R (I k 0) 0 0 /\ E2 1=.R bx 0 0 /\ E2 4=aa c /\ E2 10=aa c) (by simp only[go_sem,f0,f1,f10]) fun E2 ⟨m0,m1,m4,m10⟩=>?_
 have hszk:=hsz k hk;rw[<- hD]at hszk;refine W.block ?_;refine W.aP 70368743653376 (by rfl) (fun ρ Hz=>∃x:Nat,x<=D.cd k-1/\Hz.A=H.A/\jO r s I H Hz/\Xi d r lo s lvh I (cU Tc k c x) tot Hz/\∀y,y<x->jN D (cU Tc k c y)=false) (fun ρ Hz=>D.cd k-sY Hz (I k 5) c) ?_ ?_
 ·exact⟨0,O,n4,o4,hSx',fun y hy=>absurd hy (Tb _)⟩
 rintro ρ2 Hz ⟨x,hx,nz,oz,hSz,hno⟩;refine W.en (fun E3=>E3 0=.R (I k 0) 0 0 /\ E3 1=.R bx 0 0 /\ E3 4=aa c /\ E3 10=aa c) (by simp only[go_sem,m0,m1,m4,m10]) fun E3 ⟨u0,u1,u4,u10⟩=>?_
 have lzk:=af (hSz.nc.nw k hk);rw[<- hD]at lzk;simp only[gJ]at lzk;have gz5:Hz.get (I k 5)=some (.J 0 3 (ints ((cU Tc k c x).ch k))):=hSz.nc.nr k 5 hk O O;have lz5:=af gz5;have lzl:(ints ((cU Tc k c x).ch k)).length=D.cs k:=by rw[aS,hSz.nc.len.ch k hk,<- hD]
 have gx:(ints ((cU Tc k c x).ch k))[c]?=some (aa x):=by rw[eG,rf,Te O];rfl
 have gxn:=aM gx;have wcd:=SN ((D.cd k:Int)-1) O;have gbz:=(oz bx hbs.1 hbs.2).trans hbx;have lbz:=af gbz;refine W.seq (W.lO (fun s'=>s'.H=Hz/\s'.ρ 0=.R (I k 0) 0 0/\s'.ρ 4=aa c/\s'.ρ 10=aa c/\s'.ρ 36=.lit (.bool (decide (x<D.cd k-1) && !jN D (cU Tc k c x)))) ?_ ?_)
 ·refine W.dr 12 [0,1,3,7,0,31,63,0,128,384,896,1920] mixed ?_;by_cases hxb:(x:Int)<(D.cd k:Int)-1
  ·simp only[go_sem,u0,u1,u4,lzk,lz5,gx,hb,wcd,hxb,lbz];have hRc:Tc.Rng (ao d r):=(by rw[hTc,hD];exact DM hS.nc.len hR hk c (by rw[<- hD];exact hc));refine az.Z (Qw hrl hsz (vO hRc (by rw[lxl];omega)) (fun c' h=>?_) Hz hSz _ ⟨trivial,?_⟩)
   ·show (Tc.ab 0).getD c' 0=0;rw[hTc,DK];exact h00 c' h
   rw[<- hD];have hd1:decide (x<D.cd k-1)=true:=Ty O;rw[hd1];cases hfb:jN D (cU Tc k c x) with
   |true =>
    simp only[go_sem,u0,u4,u10]
    try rfl
   |false =>
    simp only[go_sem,u0,u4,u10]
    try rfl
  ·simp only[go_sem,u0,u4,u10,lzk,lz5,gx,hb,wcd,hxb];have hd1:decide (x<D.cd k-1)=false:=T4 O;rw[hd1];rfl
 rintro⟨ρ3,Hq⟩ ⟨hHq,v0,v4,v10,v36⟩;simp only at hHq v0 v4 v10 v36;rw[hHq];clear hHq Hq;cases hfl:(decide (x<D.cd k-1) && !jN D (cU Tc k c x)) with
 |false =>
  rw[hfl]at v36;refine W.cond (t:=false) v36 ?_;refine W.vs ?_;simp only[go_sem];have hle:pI D Tc k c=x:=Qy hno hx fun h=>by
   rw[Ty h,Bool.true_and,Bool.not_eq_false']at hfl;exact hfl
  have hnext:jl D T k (c+1)=cU Tc k c x:=by
   show cU (jl D T k c) k c (pI D (jl D T k c) k c)=_;rw[<- hTc,hle]
  have wc:=SN ((c:Int)+1) O;refine W.vs ?_;simp only[go_sem,v10,wc];exact⟨O,⟨c+1,rfl,O,nz,oz,by rw[hnext];exact hSz⟩,by rw[h10];simp only[aa,bj];omega⟩
 |true =>
  rw[hfl]at v36;refine W.cond (t:=true) v36 ?_;refine W.vs ?_;simp only[go_sem];have hfl2:x<D.cd k-1/\jN D (cU Tc k c x)=false:=by simpa using hfl
  have wx:=SN ((x:Int)+1) O;have es2:setAt (ints ((cU Tc k c x).ch k)) c [.lit (.int .i64 ((x:Int)+1))]=ints ((cU Tc k c (x+1)).ch k):=by
   rw[gU (by rw[rf,Tl,lxl];omega),rf,rf,VW];rfl
  refine W.block ?_;refine W.vs ?_;simp only[go_sem,v0,v4,lzk,lz5,lzl,gx,hb,wx,es2];have hS2:=tr (x+1) _ Hz ⟨x,rfl⟩ hSz;have hc5:sY Hz (I k 5) c=x:=by unfold sY;rw[gz5];simp only;rw[gx];simp[aa]
  have hc6:sY (Hz.upd (I k 5) (.J 0 3 (ints ((cU Tc k c (x+1)).ch k)))) (I k 5) c=x+1:=by
   unfold sY;rw[ag,SU rfl];simp only;rw[eG,rf,Te O];simp[aa]
  refine⟨O,by rw[aF];omega,⟨x+1,O,by rw[aF];exact nz,fun i h1 h2=>by rw[ag,SQ (h2 k 5 hk O)];exact oz i h1 h2,hS2,fun y hy=>?_⟩,by rw[hc5,hc6];omega⟩;rcases Uw (UC hy) with h|h
  ·exact hno y h
  ·rw[h];exact hfl2.2
def QA {a b:Nat}(ha:a<n)(hb:b<n)(hr:r.getD a 0<64/\r.getD b 0<64)(H:Xn)(hL:XF D r lo n I T H)(K:Xd->Xn->Prop)(hK:K (.ret (aa ((r.getD a 0:Nat)-(r.getD b 0:Nat):Int))) H):
  ae prog G0 110 [.R (I a 0) 0 0,.R (I b 0) 0 0] H K:=by
 have la:=af (hL.nw a ha);have lb:=af (hL.nw b hb);simp only[gJ]at la lb;have w:=SN (((r.getD a 0:Nat):Int)-((r.getD b 0:Nat):Int)) O;refine ae.sw (n:=14) (rs:=[.tmp 4]) func110 ?_;refine W.sq ?_;simp only[go_sem];refine W.seq ?_;refine W.dr 8 [0,1,3,7,0,16,48,112] mixed ?_;simp only[go_sem,la,lb,w];refine W.vs ?_;simp only[go_sem];exact ar.mk W8 hK
def QB (h0:cs≠[])(hl:cs.length<=64)(hone:cs.all W9.one=true)(H:Xn)(hv:aD lo H 170 v cs)(K:Xd->Xn->Prop)(hK:∀id g H',Xb H H'->H.A<=id->id<H'.A->H'.get id=some (.J g 170 cs)->K (.ret (.Q id g 0 cs.length 1)) H'):
  ae prog G0 108 [v] H K:=by
 rcases hv with ⟨_,h⟩|⟨i,g,h1,h2,rfl,h4⟩
 ·exact absurd h h0
 have hpos:0<cs.length:=WY.2 h0;have lv:=af h4;have lvE:∀L,(ext H L).X i g=_:=fun L=>(c9 h2).trans lv;refine ae.sw (n:=8) (rs:=[.tmp 2]) func108 ?_;refine W.sq ?_;simp only[go_sem];refine W.sq ?_;simp only[go_sem,A1,lv,hpos];intro b hb;subst hb;simp only[go_sem];refine W.vs ?_;simp only[go_sem,lvE,aJ];rw[Vi,SQ O];refine⟨⟨rfl,O,O,hone⟩,?_⟩;simp only[go_sem];refine ar.mk (by rw[aX];exact Wf ..) (hK H.A 1 _ (.ext _ _) W8 (by rw[aX];exact Un _) ?_);rw[da];simp
def pJ (l:List Nat)(i j:Nat):List Nat:=(l.set i (l.getD j 0)).set j (l.getD i 0)
def QC (hi:i<l.length)(hj:j<l.length)(hij:i≠j)(a:Nat):(pJ l i j).getD a 0=if a=j then l.getD i 0 else if a=i then l.getD j 0 else l.getD a 0:=by
 unfold pJ;rw[oq _ _ _ _ _ (by rw[Tl];exact hj),oq _ _ _ _ _ hi];by_cases h1:a=j
 ·rw[SU h1,SU h1.symm]
 ·rw[SQ h1,SQ fun h=>h1 h.symm];by_cases h2:a=i
  ·rw[SU h2,SU h2.symm]
  ·rw[SQ h2,SQ fun h=>h2 h.symm]
def ow (f:Nat->Nat)(l:List Nat)(n:Nat):Prop:=∀a b,a<b->b<n->f (l.getD a 0)<=f (l.getD b 0)
def sZ (f:Nat->Nat)(l:List Nat)(i j:Nat):Prop:=(∀a b,a<b->b<=i->a≠j->b≠j->f (l.getD a 0)<=f (l.getD b 0))/\∀b,j<b->b<=i->f (l.getD j 0)<=f (l.getD b 0)
def QD (h:ow f l i):sZ f l i i:=⟨fun a b h1 h2 h3 h4=>h a b h1 O,fun b h1 h2=>O⟩
def QE (h:sZ f l i j)(hj:j<=i)(hd:j=0\/f (l.getD (j-1) 0)<=f (l.getD j 0)):ow f l (i+1):=by
 intro a b h1 h2;by_cases hb:b=j
 ·subst hb;rcases hd with h0|h0
  ·omega
  ·by_cases ha:a=b-1
   ·rw[ha];exact h0
   ·exact Tw (h.1 a (b-1) O O O O) h0
 ·by_cases ha:a=j
  ·subst ha;exact h.2 b h1 (O)
  ·exact h.1 a b h1 O ha hb
def QG (h:sZ f l i j)(hj:j<=i)(hi:i<l.length)(h0:0<j)(hlt:f (l.getD j 0)<f (l.getD (j-1) 0)):sZ f (pJ l j (j-1)) i (j-1):=by
 have g:=QC (l:=l) (i:=j) (j:=j-1) O O O;constructor
 ·intro a b h1 h2 h3 h4;rw[g a,g b,SQ h3,SQ h4];by_cases ha:a=j
  ·rw[SU ha,SQ O];exact h.1 (j-1) b O h2 O (O)
  ·rw[SQ ha];by_cases hb:b=j
   ·rw[SU hb];exact h.1 a (j-1) O O ha (O)
   ·rw[SQ hb];exact h.1 a b h1 h2 ha hb
 ·intro b h1 h2;rw[g (j-1),SU rfl,g b,SQ O];by_cases hb:b=j
  ·rw[SU hb];exact Vy hlt
  ·rw[SQ hb];exact h.2 b O h2
def fS (I:Nat->Nat->Nat)(l:List Nat):List W9:=l.map fun k=>.R (I k 0) 0 0
def mW (I:Nat->Nat->Nat)(l:List Nat):(fS I l).length=l.length:=by simp[fS]
def ta (h:l[i]?=some k):(fS I l)[i]?=some (.R (I k 0) 0 0):=by simp[fS,h]
def DN (I:Nat->Nat->Nat)(n:Nat):fS I (List.range n)=iX I n:=rfl
def DO (h:i<l.length):setAt (fS I l) i [.R (I k 0) 0 0]=fS I (l.set i k):=by
 rw[iw (by rw[mW];exact h)];unfold fS;rw[Vo]
def QN (hi:i<l.length)(hj:j<l.length):(pJ l i j).Perm l:=by
 unfold pJ;rw[SV,SV,SP hi,SP hj];exact List.set_set_perm hi hj
def oy (h:i<l.length):l[i]?=some (l.getD i 0):=by
 rw[SV,SP h];rfl
def QO {H:Xn}{b:Xe}(h:H.get id=some b):H.upd id b=H:=by
 have e:(fun j=>if j=id then some b else H.get j)=H.get:=by
  funext j
  by_cases hj:j=id
  ·rw[SU hj,hj,h]
  ·rw[SQ hj]
 show Xn.mk (fun j=>if j=id then some b else H.get j) H.A=H;rw[e]
def DQ (H:Xn)(id:Nat)(b c:Xe):(H.upd id b).upd id c=H.upd id c:=by
 unfold Xn.upd;congr 1
 funext j
 by_cases hj:j=id<;>simp[hj]
def QP {g:Nat}(hl:l.length<=64)(h2:2<=l.length)(hm:∀a∈l,a<m)(hr:∀a∈l,r.getD a 0<64)(H:Xn)(hL:XF D r lo m I T H)(hid:H.get id=some (.J g 170 (fS I l)))(hI:∀k j,k<m->j<6->id≠I k j)(K:Xd->Xn->Prop)
  (hK:∀l' H',H'=H.upd id (.J g 170 (fS I l'))->l'.Perm l->ow (fun a=>r.getD a 0) l' l.length->K (.ret (.na [])) H'):
  ae prog G0 150 [.Q id g 0 l.length 1,aa 0,aa l.length,.Z 110 [] []] H K:=by
 obtain⟨f,hf⟩:∃f:Nat->Nat,f=fun a=>r.getD a 0:=⟨_,rfl⟩
 rw[<- hf]at hK;refine ae.sw (n:=53) (rs:=[]) func150 ?_;refine W.sq ?_;simp only[go_sem];refine W.env fun E hE=>?_;have e0:E 0=.Q id g 0 l.length 1:=by rw[hE];simp only[go_sem]
 have e1:E 1=aa 0:=by rw[hE];simp only[go_sem]
 have e2:E 2=aa l.length:=by rw[hE];simp only[go_sem]
 have e3:E 3=.Z 110 [] []:=by rw[hE];simp only[go_sem]
 have e8:E 8=aa 1:=by rw[hE];simp only[go_sem];rfl
 clear hE;refine W.block ?_;refine W.aP 9007199254737664 (by rfl) (fun ρ Hx=>∃(i:Nat) (q:List Nat),ρ 8=aa i/\1<=i/\i<=l.length/\q.Perm l/\ow f q i/\Hx=H.upd id (.J g 170 (fS I q))) (fun ρ Hx=>l.length-(iv (ρ 8)).toNat) ?_ ?_
 ·refine⟨1,l,e8,O,O,.refl _,fun a b h1 h2=>O,(QO hid).symm⟩
 rintro ρ Hx ⟨i,q,h8,hi1,hi,hq,hS,hHx⟩;have ql:=hq.length_eq;refine W.en (fun E1=>E1 0=.Q id g 0 l.length 1 /\ E1 1=aa 0 /\ E1 2=aa l.length /\ E1 3=.Z 110 [] [] /\ E1 8=aa i) (by simp only[go_sem,e0,e1,e2,e3,h8]) fun E1 ⟨f0,f1,f2,f3,f8⟩=>?_
 by_cases hb:(i:Int)<l.length;rotate_left
 ·refine W.vs ?_;simp only[go_sem,f8,f2,hb];have hii:i=l.length:=O
  rw[hii,<- ql]at hS;exact ar.mk (by rw[hHx,aF];exact Nat.le_refl _) (hK q Hx hHx hq (by rw[<- ql];exact hS))
 refine W.sq ?_;simp only[go_sem,f8,f2,hb];refine W.seq (W.block ?_);refine W.sq ?_;simp only[go_sem,f8];refine W.en (fun E2=>E2 0=.Q id g 0 l.length 1 /\ E2 1=aa 0 /\ E2 2=aa l.length /\ E2 3=.Z 110 [] [] /\ E2 8=aa i /\ E2 9=aa i) (by simp only[go_sem,f0,f1,f2,f3,f8]) fun E2 ⟨m0,m1,m2,m3,m8,m9⟩=>?_
 refine W.block ?_;refine W.aP 9007199254479360 (by rfl) (fun ρ Hz=>∃(j:Nat) (p:List Nat),ρ 9=aa j/\j<=i/\p.Perm l/\sZ f p i j/\Hz=H.upd id (.J g 170 (fS I p))) (fun ρ Hz=>(iv (ρ 9)).toNat) ?_ ?_
 ·exact⟨i,q,m9,W8,hq,QD hS,hHx⟩
 rintro ρ2 Hz ⟨j,p,h9,hj,hp,hIn,hHz⟩;have pl:=hp.length_eq;refine W.en (fun E3=>E3 0=.Q id g 0 l.length 1 /\ E3 1=aa 0 /\ E3 2=aa l.length /\ E3 3=.Z 110 [] [] /\ E3 8=aa i /\ E3 9=aa j) (by simp only[go_sem,m0,m1,m2,m3,m8,h9]) fun E3 ⟨u0,u1,u2,u3,u8,u9⟩=>?_
 have gz:Hz.get id=some (.J g 170 (fS I p)):=by rw[hHz,ag,SU rfl]
 have lz:=af gz;have plen:=mW I p;have hLz:XF D r lo m I T Hz:=hL.nb (by rw[hHz,aF];exact Nat.le_refl _) fun k j h1 h2=>by rw[hHz,ag,SQ (hI k j h1 h2).symm]
 refine W.seq (W.lO (fun s'=>s'.H=Hz/\s'.ρ 0=.Q id g 0 l.length 1/\s'.ρ 8=aa i/\s'.ρ 9=aa j/\s'.ρ 34=.lit (.bool (decide (0<j) && decide (f (p.getD j 0)<f (p.getD (j-1) 0))))) ?_ ?_)
 ·refine W.dr 14 [0,0,3,7,15,15,15,111,239,15,15,1039,3599,7695] mixed ?_;by_cases hjb:(j:Int) > 0
  ·have wj:=SN ((j:Int)-1) O;have cj:((j:Int)-1).toNat=j-1:=O;have gj:=ta (I:=I) (oy (l:=p) (i:=j) O);have gj1:=ta (I:=I) (oy (l:=p) (i:=j-1) O);have gjn:=aM gj;have gj1n:=aM gj1;have b1:(j:Int)<l.length:=O;have b2:(j:Int)-1<l.length:=O;have b3:(0:Int)<=(j:Int)-1:=O;simp only[go_sem,u0,u1,u3,u9,lz,hjb,wj,cj,gj,gj1,b1,b2,b3];refine az.Z (QA (hm _ ?_) (hm _ ?_) ⟨hr _ ?_,hr _ ?_⟩ Hz hLz _ ⟨trivial,?_⟩)
   ·exact hp.mem_iff.1 (an (oy O))
   ·exact hp.mem_iff.1 (an (oy O))
   ·exact hp.mem_iff.1 (an (oy O))
   ·exact hp.mem_iff.1 (an (oy O))
   have hd1:decide (0<j)=true:=Ty O;rw[hd1,hf];by_cases hlt:r.getD (p.getD j 0) 0<r.getD (p.getD (j-1) 0) 0
   ·have hlt':((r.getD (p.getD j 0) 0:Nat)-(r.getD (p.getD (j-1) 0) 0:Nat):Int)<0:=O;simp only[go_sem,u0,u8,u9,hlt',hlt]
    try rfl
   ·have hlt':¬((r.getD (p.getD j 0) 0:Nat)-(r.getD (p.getD (j-1) 0) 0:Nat):Int)<0:=O;simp only[go_sem,u0,u8,u9,hlt',hlt]
    try rfl
  ·simp only[go_sem,u0,u1,u8,u9,hjb];have hj0:j=0:=O;subst hj0;rfl
 rintro⟨ρ3,Hq⟩ ⟨hHq,v0,v8,v9,v34⟩;simp only at hHq v0 v8 v9 v34;rw[hHq];clear hHq Hq;cases hfl:(decide (0<j) && decide (f (p.getD j 0)<f (p.getD (j-1) 0))) with
 |false =>
  rw[hfl]at v34;refine W.cond (t:=false) v34 ?_;refine W.vs ?_;simp only[go_sem];have wi:=SN ((i:Int)+1) O;have hd:j=0\/f (p.getD (j-1) 0)<=f (p.getD j 0):=by
   by_cases h0:j=0
   ·exact .inl h0
   ·rw[Ty (by omega:0<j),Bool.true_and,VQ]at hfl;exact .inr (O)
  have hS':=QE hIn hj hd;refine W.vs ?_;simp only[go_sem,v8,wi];exact⟨by rw[hHz,aF];exact Nat.le_refl _,⟨i+1,p,rfl,O,O,hp,hS',hHz⟩,by rw[h8];simp only[aa,bj];omega⟩
 |true =>
  rw[hfl]at v34;refine W.cond (t:=true) v34 ?_;have hfl2:0<j/\f (p.getD j 0)<f (p.getD (j-1) 0):=by simpa using hfl
  have wj:=SN ((j:Int)-1) O;have cj:((j:Int)-1).toNat=j-1:=O
  have gj:=ta (I:=I) (oy (l:=p) (i:=j) O);have gj1:=ta (I:=I) (oy (l:=p) (i:=j-1) O);have gjn:=aM gj;have gj1n:=aM gj1;have b1:(j:Int)<l.length:=O
  have b2:(j:Int)-1<l.length:=O
  have b3:(0:Int)<=(j:Int)-1:=O
  have s1:setAt (fS I p) j [.R (I (p.getD (j-1) 0) 0) 0 0]=fS I (p.set j (p.getD (j-1) 0)):=DO O;have s2:setAt (fS I (p.set j (p.getD (j-1) 0))) (j-1) [.R (I (p.getD j 0) 0) 0 0]=fS I (pJ p j (j-1)):=DO (by rw[Tl];omega);have plen2:=mW I (p.set j (p.getD (j-1) 0));rw[Tl]at plen2;refine W.vs ?_;simp only[go_sem];refine W.seq (W.block ?_);refine W.dr 16 [0,0,0,0,8,0,0,64,224,480,0,0,3072,7168,16355,32739] mixed ?_;simp only[go_sem,v0,v9,lz,plen,pl,wj,cj,gj,gj1,b1,b2,b3,s1,s2,plen2];refine⟨O,O,tT _ _ _ (by rfl) ?_⟩;simp only[go_sem,v9,wj];refine⟨by rw[hHx,hHz];simp only[aF];exact Nat.le_refl _,⟨j-1,pJ p j (j-1),?_,O,(QN O O).trans hp,QG hIn hj O hfl2.1 hfl2.2,?_⟩,by rw[h9];simp only[aa,bj];omega⟩
  ·congr 2;omega
  ·rw[hHz,DQ,DQ]
def QQ {s:ByteArray}{F:W9->Prop}(hs:s.size=256)(hi:i<256)(h:∀L:Nat,L<256->F (.lit (.int .u8 (L:Int)))):bh (oM prog 9 (.lit (.string s)) (.lit (.int .u8 (i:Int)))) F:=by
 have ix:oM prog 9 (.lit (.string s)) (.lit (.int .u8 (i:Int)))=some (.lit (.int .u8 (((s[i]!).toNat:Nat):Int))):=by
  unfold oM;simp only[];have e1:s[i]?=some s[i]!:=by
   rw[getElem!_pos s i O];exact getElem?_pos s i (O)
  have ht:prog.underlying 9=some .string:=Tryz.underlying9;simp[Instr.index,asIntOf,underlying,program,ht,bC,bind,Sem.bind,pure,e1]
 rw[ix,nL];exact h _ (UInt8.toNat_lt _)
def QR (h12:n<=12)(H:Xn)(K:Xd->Xn->Prop)(hK:∀L:Nat,L<256->K (.ret (aa L)) H):ae prog G0 159 [.lit (.int .u64 (n:Int))] H K:=by
 have h1:¬(4294967296:Int)<=(n:Int):=O
 have h2:¬(65536:Int)<=(n:Int):=O
 have h3:¬(256:Int)<=(n:Int):=O
 have ww:IntKind.u8.wrap ((n:Nat):Int)=(n:Int):=by simp[IntKind.wrap,IntKind.bits,IntKind.signed];omega
 refine ae.sw (n:=25) (rs:=[.tmp 2]) func159 ?_;refine W.sq ?_;simp only[go_sem];refine W.sq ?_;simp only[go_sem,h1];refine W.sq ?_;simp only[go_sem,h2];refine W.sq ?_;simp only[go_sem,h3];refine W.vs ?_;simp only[go_sem,ww];refine QQ W7 O fun L hL=>?_;have w:IntKind.i64.wrap (0+(L:Int))=(L:Int):=by rw[VY];exact SN (L:Int) (O)
 have w0:=SN (L:Int) O;simp only[go_sem,w0,w];exact ar.mk W8 (hK L hL)
def DR (h12:n<=12)(H:Xn)(K:Xd->Xn->Prop)(hK:∀L:Nat,L<256->K (.ret (aa L)) H):ae prog G0 139 [.lit (.int .u64 (n:Int))] H K:=by
 refine ae.sw (n:=8) (rs:=[.tmp 2]) func139 ?_;refine W.vs ?_;simp only[go_sem];refine az.Z (QR h12 H _ fun L hL=>⟨trivial,?_⟩);simp only[go_sem];exact ar.mk W8 (hK L hL)
def DS {L:Nat}{Q:Xn->Prop}(h12:n<=12)(H:Xn)(hQ:∀H',Q H'->H.A<=H'.A)(hc:∀K':Xd->Xn->Prop,(∀H',Q H'->K' (.ret (.na [])) H')->ae prog G0 150 [v,aa 0,aa n,.Z 110 [] []] H K')
  (K:Xd->Xn->Prop) (hK:∀H',Q H'->K (.ret (.na [])) H'):
  ae prog G0 138 [v,aa 0,aa n,aa L,.Z 110 [] []] H K:=by
 have wn:IntKind.i64.wrap ((n:Int)-0)=(n:Int):=by rw[WJ];exact SN (n:Int) (O)
 have hb:(n:Int)<=12:=O
 refine ae.sw (n:=148) (rs:=[]) func138 ?_;refine W.sq ?_;simp only[go_sem];refine W.sq ?_;simp only[go_sem];refine W.en (fun E=>E 0=v /\ E 1=aa 0 /\ E 2=aa n /\ E 4=.Z 110 [] []) (by simp only[go_sem]) fun E ⟨e0,e1,e2,e4⟩=>?_
 refine W.block ?_;refine W.aP 356811923176489970264571492362373784095685646 W7 (fun ρ Hx=>ρ 0=v/\ρ 1=aa 0/\ρ 2=aa n/\ρ 4=.Z 110 [] []/\Hx=H) (fun ρ Hx=>0) ?_ ?_
 ·exact⟨e0,e1,e2,e4,rfl⟩
 rintro ρ Hx ⟨h0,h1,h2,h4,hHx⟩;refine W.en (fun E1=>E1 0=v /\ E1 1=aa 0 /\ E1 2=aa n /\ E1 4=.Z 110 [] []) (by simp only[go_sem,h0,e0,h1,h2,h4,e4]) fun E1 ⟨f0,f1,f2,f4⟩=>?_
 rw[hHx];refine W.block ?_;refine W.sq ?_;simp only[go_sem,f1,f2,wn];refine W.sq ?_;simp only[go_sem,hb,f0,f1,f2,f4];refine az.Z (hc _ fun H' hq=>⟨trivial,?_⟩);simp only[go_sem];exact ar.mk (hQ H' hq) (hK H' hq)
def QS {Q:Xn->Prop}(h12:n<=12)(H:Xn)(hQ:∀H',Q H'->H.A<=H'.A)(hv:aD 0 H 170 v cs)(hn:cs.length=n)(hc:∀K':Xd->Xn->Prop,(∀H',Q H'->K' (.ret (.na [])) H')->ae prog G0 150 [v,aa 0,aa n,.Z 110 [] []] H K')
  (K:Xd->Xn->Prop) (hK:∀H',Q H'->K (.ret (.na [])) H'):
  ae prog G0 109 [v,.Z 110 [] []] H K:=by
 have wn:IntKind.u64.wrap ((n:Nat):Int)=(n:Int):=by simp[IntKind.wrap,IntKind.bits,IntKind.signed];omega
 have w2:=SN (n:Int) O;have go:∀v:W9,(v=.lit (.slice none 0 0)/\n=0\/∃id g cs,v=.Q id g 0 n 1/\cs.length=n/\H.X id g=some (170,cs))->(∀K':Xd->Xn->Prop,(∀H',Q H'->K' (.ret (.na [])) H')->ae prog G0 150 [v,aa 0,aa n,.Z 110 [] []] H K')->ae prog G0 109 [v,.Z 110 [] []] H K:=fun v hv hc=>by
  rcases hv with ⟨rfl,rfl⟩|⟨id,g,cs,rfl,hcl2,lv⟩
  ·refine ae.sw (n:=14) (rs:=[]) func109 ?_;refine W.sq ?_;simp only[go_sem];refine W.vs ?_;simp only[go_sem];refine az.Z (DR (n:=0) h12 H _ fun L hL=>⟨trivial,?_⟩);simp only[go_sem];refine az.Z (DS h12 H hQ hc _ fun H' hq=>⟨trivial,?_⟩);simp only[go_sem];exact ar.mk (hQ H' hq) (hK H' hq)
  ·refine ae.sw (n:=14) (rs:=[]) func109 ?_;refine W.sq ?_;simp only[go_sem,lv];refine W.vs ?_;simp only[go_sem,wn];refine az.Z (DR h12 H _ fun L hL=>⟨trivial,?_⟩);simp only[go_sem];refine az.Z (DS h12 H hQ hc _ fun H' hq=>⟨trivial,?_⟩);simp only[go_sem];exact ar.mk (hQ H' hq) (hK H' hq)
 refine go v ?_ hc;rcases hv with ⟨h1,h2⟩|⟨id,g,_,_,h3,h4⟩
 ·rw[h2]at hn;exact .inl ⟨h1,hn.symm⟩
 ·rw[hn]at h3;exact .inr ⟨id,g,cs,h3,hn,af h4⟩
def QT (h1:n<=1)(H:Xn)(K:Xd->Xn->Prop)(hK:K (.ret (.na [])) H):
  ae prog G0 150 [v,aa 0,aa n,.Z 110 [] []] H K:=by
 have hb:¬(1:Int)<(n:Int):=O
 refine ae.sw (n:=53) (rs:=[]) func150 ?_;refine W.sq ?_;simp only[go_sem];refine W.env fun E hE=>?_;have e2:E 2=aa n:=by rw[hE];simp only[go_sem]
 have e8:E 8=aa 1:=by rw[hE];simp only[go_sem];rfl
 clear hE;refine W.block ?_;refine W.aP 9007199254737664 (by rfl) (fun ρ Hx=>ρ 8=aa 1/\Hx=H) (fun ρ Hx=>0) ?_ ?_
 ·exact⟨e8,rfl⟩
 rintro ρ Hx ⟨h8,hHx⟩;refine W.en (fun E1=>E1 2=aa n /\ E1 8=aa 1) (by simp only[go_sem,e2,h8]) fun E1 ⟨f2,f8⟩=>?_
 rw[hHx];refine W.vs ?_;simp only[go_sem,f8,f2,hb];exact ar.mk W8 hK
def QU (hD:D.Ok)(ht:t.Ok D)(hc:mS D ch)(e:∀k c,k<D.K->c<D.cs k->ch' k c=ch k c):jG D t ch'↔jG D t ch:=by
 have hc':mS D ch':=fun k c y h1 h2 h3=>hc k c y h1 h2 (by rw[<- e k c h1 h2];exact h3);rw[sD hD ht hc,sD hD ht hc'];constructor
 ·rintro⟨q,q1,q2,q3⟩;exact⟨q,q1,fun k c y h1 h2 h3=>q2 k c y h1 h2 (by rw[e k c h1 h2];exact h3),q3⟩
 ·rintro⟨q,q1,q2,q3⟩;exact⟨q,q1,fun k c y h1 h2 h3=>q2 k c y h1 h2 (by rw[<- e k c h1 h2];exact h3),q3⟩
def QV (hc:mS D ch)(hx:x<D.cd k):mS D (kd ch k c x):=fun k' c' y h1 h2 h3=>by
 by_cases h:k'=k/\c'=c
 ·obtain⟨rfl,rfl⟩:=h;rw[mQ]at h3;cases h3;exact hx
 ·rw[mR h]at h3;exact hc k' c' y h1 h2 h3
def QW (hD:D.Ok)(ht:t.Ok D)(hc:mS D ch)(e:∀k c,k<D.K->c<D.cs k->ch' k c=ch k c)(k c:Nat):iH D t ch' k c=iH D t ch k c:=by
 unfold iH;refine DJ _ _ fun y _ hy=>?_;rw[U9,sJ,sJ];refine QU hD ht (QV hc O) fun k' c' h1 h2=>?_;by_cases h:k'=k/\c'=c
 ·rw[h.1,h.2,mQ,mQ]
 ·rw[mR h,mR h];exact e k' c' h1 h2
structure XO (D:Xg)(T:Xj)(done:List (Nat × Nat)):Prop where
 eq:∀k c,k<D.K->c<D.cs k->jM T k c=ot D (kZ D) done k c
 tb:kr T (qN D)=kZ D
 ng:T.Rng D
 len:T.Len D D.K
 h0:∀c,c<D.cs 0->(T.ab 0).getD c 0=0
def XO.try (hD:D.Ok)(ht:(kZ D).Ok D){done:List (Nat × Nat)}(h:XO D T done)(hnd:(done++[(k,c)]).Nodup)(hr:∀p∈done++[(k,c)],p.1<D.K/\p.2<D.cs p.1):XO D (cU T k c (pI D T k c)) (done++[(k,c)]):=by
 have hkc:=hr (k,c) W5;have hl:=h.len.ch k hkc.1;have hcl:c<(T.ch k).length:=by rw[hl];exact hkc.2
 have hC:=yY hD ht _ done rfl (UP.1 hnd).1 fun p hp=>hr p (by simp[hp]);have hx:pI D T k c=iH D (kZ D) (ot D (kZ D) done) k c:=by
  rw[Qx h.ng (fun c h1=>by rw[h.h0 c h1];rfl) hcl,h.tb];exact QW hD ht hC.ng h.eq k c
 refine⟨fun k' c' h1 h2=>?_,h.tb,vO h.ng hcl,vQ h.len _ _ _,h.h0⟩;rw[DI hcl,C6,hx];show _=kd _ k c _ k' c';by_cases e:k'=k/\c'=c
 ·rw[e.1,e.2,mQ,mQ]
 ·rw[mR e,mR e];exact h.eq k' c' h1 h2
def XO.QX (hD:D.Ok)(ht:(kZ D).Ok D){done:List (Nat × Nat)}(h:XO D T done):∀n,(done++(List.range n).map fun c=>(k,c)).Nodup->(∀p∈done++(List.range n).map fun c=>(k,c),p.1<D.K/\p.2<D.cs p.1)->XO D (jl D T k n) (done++(List.range n).map fun c=>(k,c)):=by
 intro n
 induction n with
 |zero =>
  intro _ _;show XO D T _;simpa using h
 |succ n ih =>
  intro h1 h2;rw[TP,TT,<- List.append_assoc]at h1 h2 ⊢;exact(ih (UP.1 h1).1 fun p hp=>h2 p (Ve _ hp)).try hD ht h1 h2
def runT (D:Xg)(T:Xj)(ks:List Nat):Xj:=ks.foldl (fun T k=>jl D T k (D.cs k)) T
def zp (D:Xg)(T:Xj)(ks:List Nat)(k:Nat):runT D T (ks++[k])=jl D (runT D T ks) k (D.cs k):=by unfold runT;rw[TZ];rfl
def mY (D:Xg)(ks:List Nat):List (Nat × Nat):=(ks.map fun k=>(List.range (D.cs k)).map fun c=>(k,c)).flatten
def QY (D:Xg)(ks:List Nat)(k:Nat):mY D (ks++[k])=mY D ks++(List.range (D.cs k)).map fun c=>(k,c):=by unfold mY;simp
def XO.run (hD:D.Ok)(ht:(kZ D).Ok D)(h:XO D T []):∀(n:Nat) (ks:List Nat),ks.length=n->(mY D ks).Nodup->(∀p∈mY D ks,p.1<D.K/\p.2<D.cs p.1)->XO D (runT D T ks) (mY D ks):=by
 intro n
 induction n with
 |zero =>
  intro ks hl _ _;obtain rfl:=S3 hl;exact h
 |succ n ih =>
  intro ks hl h1 h2;obtain⟨qs,k,rfl⟩:∃qs a,ks=qs++[a]:=by
   rcases U4 ks with h|⟨qs,a,h⟩
   ·rw[h]at hl;cases hl
   ·exact⟨qs,a,by rw[h,U5]⟩
  rw[List.length_append,TR]at hl;rw[QY]at h1 h2 ⊢;rw[zp];exact(ih qs O (UP.1 h1).1 fun p hp=>h2 p (Ve _ hp)).QX hD ht _ h1 h2
def QZ (D:Xg):∀n,∀a∈cI D 0 n,a=0:=by
 intro n
 induction n with
 |zero=>intro a ha;exact Ub ha
 |succ n ih =>
  intro a ha;unfold cI at ha;rcases TG ha with h|rfl
  ·exact ih a h
  ·rfl
def DT (hD:D.Ok)(hpos:∀k,k<D.K->1<=D.cs k):XO D (dm D (ep D) 0) []:=by
 refine⟨fun k c h1 h2=>?_,?_,⟨fun k c h0 h1 h2=>?_,fun k c h1 h2=>.inl ?_⟩,zm (fun k _=>by simp[ep]) 0,fun c hc=>?_⟩
 ·show (if ((ep D k).getD c 0)=-1 then none else _)=none;rw[SU];unfold ep;rw[SV,TH,SU h2];rfl
 ·unfold kr kZ dm;simp
 ·show 0<=(cI D k D.N).getD c 0/\((cI D k D.N).getD c 0).toNat<_;obtain⟨a,ha⟩:=aq (l:=cI D k D.N) (i:=c) (by rw[oo];exact h2);rw[SV,ha];obtain⟨b1,b2,b3⟩:=yT hD h1 D.N W8 a (an ha);refine⟨b1,?_⟩;show a.toNat<_;have hp:=V1 (hpos (k-1) O) (hD.cd (k-1) O);rcases b3 h0 with h|h<;>omega
 ·show (ep D k).getD c 0=-1;unfold ep;rw[SV,TH,SU h2];rfl
 ·show (cI D 0 D.N).getD c 0=0;obtain⟨a,ha⟩:=aq (l:=cI D 0 D.N) (i:=c) (by rw[oo];exact hc);rw[SV,ha];exact QZ D D.N a (an ha)
def Q1 (hr:Xu d r)(hp:ks.Perm (List.range r.length))(hs:ow (fun a=>r.getD a 0) ks ks.length):ks=(aK d).map r.idxOf:=by
 have hmem:∀k∈ks,k<r.length:=fun k hk=>S7.1 (hp.mem_iff.1 hk);have e1:(List.range r.length).map (fun k=>r.getD k 0)=r:=by
  apply Ts;intro i;rw[List.getElem?_map];rcases Tg i r.length with h|h
  ·obtain⟨v,hv⟩:=aq h;rw[Th h,hv];exact congrArg some (fQ hv)
  ·rw[SX (by simpa using h),SX h];rfl
 have hnd:(aK d).Nodup:=Uy.filter _;have p1:(ks.map fun k=>r.getD k 0).Perm (aK d):=by
  have:=hp.map fun k=>r.getD k 0;rw[e1]at this;exact this.trans ((List.perm_ext_iff_of_nodup hr.nodup hnd).2 fun a=>⟨hr.mem a,fun h=>hr.lZ h⟩)
 have s1:(ks.map fun k=>r.getD k 0).Pairwise (·<=·):=by
  rw[Vu,UK];intro i j hi hj hij;have:=hs i j hij hj;simp only[SV,SP hi,SP hj,Option.getD_some]at this ⊢;exact this
 have s2:(aK d).Pairwise (·<=·):=by
  unfold aK eY;exact(WB.filter _).imp fun h=>Vy h
 have e2:=List.Perm.eq_of_pairwise (fun a b _ _ h1 h2=>Wk h1 h2) s1 s2 p1;rw[<- e2,Us]
 conv=>lhs;rw[<- List.map_id ks]
 refine Tf fun k hk=>?_;have hk:=hmem k hk;show k=r.idxOf (r.getD k 0);rw[SV,SP hk];exact((TY (Tt (TC hk)) hr.nodup).1 (by rw[SP (Tt (TC hk)),T3,SP hk])).symm
def Q2 (hr:Xu d r):mY (ao d r) ((aK d).map r.idxOf)=ke d r:=by
 unfold mY ke;rw[Us];congr 1;refine Tf fun v hv=>?_;have hi:r.idxOf v<r.length:=Tt (hr.lZ hv);have hri:r.getD (r.idxOf v) 0=v:=fQ (by rw[SP hi,T3 hi]);show (List.range (b9 d (r.getD (r.idxOf v) 0))).map _=_;rw[hri]
def zq (hok:Xf d)(hr:Xu d r)(hp:ks.Perm (List.range r.length))(hs:ow (fun a=>r.getD a 0) ks ks.length):
  (ks.map fun k=>(runT (ao d r) (dm (ao d r) (ep (ao d r)) 0) ks).ch k)=dX d r:=by
 have hD:=qM hok hr.mem;have ht:=C3 hD (C4 hok hr) (qO hok hr);have hk:=Q1 hr hp hs;have hpos:mY (ao d r) ks=ke d r:=by rw[hk];exact Q2 hr
 have hS:=(DT hD (qO hok hr)).run hD ht _ ks rfl (by rw[hpos];exact yZ hr) fun p h=>(qR hr).1 (by rw[<- hpos];exact h);have hC:=yY hD ht _ (ke d r) rfl (yZ hr) fun p hp=>(qR hr).1 hp;rw[hpos]at hS;obtain⟨T,hT⟩:∃T,T=runT (ao d r) (dm (ao d r) (ep (ao d r)) 0) ks:=⟨_,rfl⟩
 rw[<- hT]at hS ⊢;clear hT;rw[hk,Us];unfold dX jH;refine Tf fun v hv=>?_;have hi:r.idxOf v<r.length:=Tt (hr.lZ hv);have hri:r.getD (r.idxOf v) 0=v:=fQ (by rw[SP hi,T3 hi]);show T.ch (r.idxOf v)=_;have hcs:(ao d r).cs (r.idxOf v)=b9 d v:=by show b9 d (r.getD (r.idxOf v) 0)=_;rw[hri]
 have hl:=hS.len.ch _ hi;rw[hcs]at hl;apply Ts;intro c;rcases Tg c (b9 d v) with hc|hc
 ·rw[List.getElem?_map,Th hc];obtain⟨a,ha⟩:=aq (l:=T.ch (r.idxOf v)) (i:=c) O;obtain⟨y,hy⟩:=hC.made (r.idxOf v) c ((qR hr).2 ⟨hi,by rw[hcs];exact hc⟩);have h1:=hS.eq (r.idxOf v) c hi (by rw[hcs];exact hc);have h2:=hS.ng.ch (r.idxOf v) c hi (by rw[hcs];exact hc);have hg:(T.ch (r.idxOf v)).getD c 0=a:=by rw[SV,ha];rfl
  rw[hy]at h1;unfold jM at h1;rw[hg]at h1 h2;rw[ha];show some a=some ((lg _ (r.idxOf v) c:Nat):Int);unfold lg;rw[hy];by_cases e:a=-1
  ·rw[SU e]at h1;cases h1
  ·rw[SQ e]at h1;have:=Option.some.inj h1;simp only[Option.getD_some];congr 1;omega
 ·rw[SX O,SX (by simpa using hc)]
def na (d:Xa)(c:Nat->Nat->Int)(v:Nat):List (List Int):=(List.range (b9 d v)).map fun r=>lU d c v r (cO d v)
def Ry (d:Xa)(c:Nat->Nat->Int)(v:Nat):fG d c v (bD d.C)=na d c v:=rfl
def Ee (d:Xa)(hok:Xf d)(hf:Xv d)(h6:d.C.length<=6)(p:List (List Int))(hp:Xo d p)(hpf:pC p)(v0:Nat)(hv0:v0∈aK d)
  (H:Xn) (K:Xd->Xn->Prop) (hK:K (.ret (.na [aO (na d (fixC p) v0),aa 0])) H):ae prog G0 23 [eC d,aO p,aa v0] H K:=by
 refine ae.Z ⟨_,func23,rfl,rfl⟩ fun hcl=>?_;have n8:=hok.n.n1;have hD:=hf.U;obtain⟨v01,v02⟩:=gS.1 hv0;obtain⟨x,hx⟩:=aq v01;have hxc:=hok.n.L x (an hx);obtain⟨nr,nc⟩:=ji hx O;obtain⟨hrn,hxp,hin,ps⟩:=ri hok hx;have hrc:=yA hok v01 v02;have hnr:1<=b9 d v0/\b9 d v0<=1024:=by unfold b9;omega
 refine ae.st (n:=74) (rs:=[.tmp 6,.tmp 7]) func23 ?_;simp only[go_sem,iI,cu];refine az.Z (zd d hf p hpf _ _ ⟨trivial,?_⟩);rw[qD hok hp];have c1:¬(v0:Int)<0:=O
 have c2:¬(v0:Int) >= d.C.length:=O
 have s1:=fun t x y=>mi (P:=prog) (t:=t) (x:=x) (y:=y) (k':=.i64) (s:=v0) hD;have s2:=fun t x y=>nj (P:=prog) (t:=t) (x:=x) (y:=y) (s:=v0) hD;simp only[go_sem,c1,c2,s1,s2,v02];obtain⟨R,hR⟩:∃R,R=ext H [.J 0 38 [.lit (.int .i64 d.Y),.M d.C.length (aE d.C),.lit (.int .u64 (d.U:Int)),.M d.V.length (aZ d.V)],.J 0 33 [aO p],.J 0 3 [.lit (.int .i64 v0)],
  .J 0 130 [.lit (.int .i64 d.Y),.M d.C.length (aE d.C),.lit (.int .u64 (d.U:Int)),.M d.V.length (aZ d.V),.lit (.slice none 0 0),.lit (.slice none 0 0),.lit (.slice none 0 0),.lit (.int .i64 0)],.J 0 110 [.R (H.A+3) 0 0]]:=⟨_,rfl⟩
 have nR:R.A=H.A+5:=hR▸rfl
 have oR:Xb H R:=hR▸.ext _ _
 have g0:R.get H.A=some (kg d):=by rw[hR];exact bL H _ 0 (W5)
 have g1:=gE hR 1 rfl
 have g2:=gE hR 2 rfl
 have g3:=gE hR 3 rfl
 have g4:=gE hR 4 rfl
 rw[<- hR];refine W.en (fun E=>E 3=.R H.A 0 0 /\ E 4=.R (H.A+1) 0 0 /\ E 5=.R (H.A+2) 0 0 /\ E 9=.R (H.A+4) 0 0) (by simp only[go_sem]) fun E ⟨e3,e4,e5,e9⟩=>?_
 have l0:=af g0;have l1:=af g1;have l2:=af g2;have l3:=af g3;have l4:=af g4;unfold cu at l0;refine W.dr 10 [0,0,0,4,12,28,28,61,189,445] mixed ?_;simp only[go_sem,e3,e9,l0,l4];refine⟨.na [ah (df d),ah (c7 d)],[],bp.pure fun H2=>Ec d hok hD H2 _ ⟨rfl,rfl⟩,?_⟩;simp only[go_sem,e3,e9,l3];refine⟨fun x h=>O,?_⟩;obtain⟨R2,hR2⟩:∃R2,R2=(R.upd (H.A+3) (.J 0 130 [.lit (.int .i64 d.Y),.M d.C.length (aE d.C),.lit (.int .u64 (d.U:Int)),.M d.V.length (aZ d.V),.lit (.slice none 0 0),.M (df d).length (ints (df d)),.lit (.slice none 0 0),.lit (.int .i64 0)])).upd (H.A+3)
  (.J 0 130 [.lit (.int .i64 d.Y),.M d.C.length (aE d.C),.lit (.int .u64 (d.U:Int)),.M d.V.length (aZ d.V),.lit (.slice none 0 0),.M (df d).length (ints (df d)),.M (c7 d).length (ints (c7 d)),.lit (.int .i64 0)]):=⟨_,rfl⟩
 rw[<- hR2];have nR2:R2.A=H.A+5:=by rw[hR2];exact nR
 have oR2:Xb H R2:=by rw[hR2];exact(oR.upd O _).upd O _
 have k2:∀id,id≠H.A+3->R2.get id=R.get id:=fun id h=>by rw[hR2,ag,SQ h,ag,SQ h]
 have k3:R2.get (H.A+3)=some (.J 0 130 (wo d)):=by rw[hR2,ag,SU rfl];rfl
 have m0:=af ((k2 _ O).trans g0);have m2:=af ((k2 _ O).trans g2);unfold cu at m0;simp only[go_sem,e5,m0,m2];refine az.Z (vI d.C v0 x hx hin ps _ _ ⟨trivial,?_⟩);rw[<- hrn];simp only[go_sem];obtain⟨n,hn⟩:∃n,n=bM d.C x:=⟨_,rfl⟩
 obtain⟨cN,hcN⟩:∃c,c=cO d v0:=⟨_,rfl⟩
 rw[<- hn]at nr ⊢;rw[nr]at hnr;rw[<- hcN]at nc;refine⟨O,?_⟩;obtain⟨R3,hR3⟩:∃R3,R3=ext R2 [.J 0 46 (List.replicate n (.lit (.slice none 0 0))),.J 0 33 [.Q R2.A 0 0 n 1]]:=⟨_,rfl⟩
 have nR3:R3.A=H.A+7:=by rw[hR3,aX,nR2];rfl
 have oR3:Xb R2 R3:=hR3▸.ext _ _
 have k5:=dv hR3
 have k6:=gE hR3 1 rfl
 rw[<- hR3];refine W.en (fun E1=>E1 3=.R H.A 0 0 /\ E1 4=.R (H.A+1) 0 0 /\ E1 5=.R (H.A+2) 0 0 /\ E1 9=.R (H.A+4) 0 0 /\ E1 10=.R (R2.A+1) 0 0 /\ E1 55=aa n /\ E1 56=aa 0) (by simp only[go_sem,e3,e4,e5,e9]) fun E1 ⟨f3,f4,f5,f9,f10,f55,f56⟩=>?_
 let cs:Nat->List W9:=fun k=>(List.range k).map (fun j=>W9.Q (H.A+7+j) 0 0 cN 1)++List.replicate (n-k) (.lit (.slice none 0 0))
 have csl:∀k,k<=n->(cs k).length=n:=fun k hk=>by show (_++_:List W9).length=n;simp;omega
 have cs_set:∀k,k<n->setAt (cs k) k [.Q (H.A+7+k) 0 0 cN 1]=cs (k+1):=fun k hk=>by
  show setAt (_++List.replicate (n-k) _) k _=_++_;rw[show n-k=(n-(k+1))+1 by omega,Uo,RL W5,TP,TT,List.append_assoc];rfl
 have cs0:cs 0=List.replicate n (.lit (.slice none 0 0)):=by show _++_=_;simp
 refine W.aP 1180519563123373377536 (by rfl) (fun ρ H'=>∃k:Nat,ρ 56=aa k/\k<=n/\H'.A=H.A+7+k/\(∀id,id<H.A+7->id≠R2.A->H'.get id=R3.get id)/\H'.get R2.A=some (.J 0 46 (cs k))/\∀j,j<k->H'.get (H.A+7+j)=some (.J 0 3 (ints (List.replicate cN 0)))) (fun ρ H=>n-(iv (ρ 56)).toNat) ?_ ?_
 ·simp only[go_sem,f56];exact⟨0,rfl,O,O,by rw[cs0];exact k5,fun j hj=>absurd hj (Tb _)⟩
 rintro ρ H' ⟨k,h56,hk,hnx,hold,htop,hrows⟩;refine W.en (fun E2=>E2 3=.R H.A 0 0 /\ E2 4=.R (H.A+1) 0 0 /\ E2 5=.R (H.A+2) 0 0 /\ E2 9=.R (H.A+4) 0 0 /\ E2 10=.R (R2.A+1) 0 0 /\ E2 55=aa n /\ E2 56=aa k) (by simp only[go_sem,f3,f4,f5,f9,f10,f55,h56]) fun E2 ⟨p3,p4,p5,p9,p10,p55,p56⟩=>?_
 have q0:=(hold H.A O O).trans ((oR3.nl _ O).trans ((k2 _ O).trans g0));have q1:=(hold (H.A+1) O O).trans ((oR3.nl _ O).trans ((k2 _ O).trans g1));have q2:=(hold (H.A+2) O O).trans ((oR3.nl _ O).trans ((k2 _ O).trans g2));have q3:=(hold (H.A+3) O O).trans ((oR3.nl _ O).trans k3);have q4:=(hold (H.A+4) O O).trans ((oR3.nl _ O).trans ((k2 _ O).trans g4));have q6:=(hold (R2.A+1) O O).trans k6;refine W.vs ?_;by_cases hb:(k:Int)<n
 ·have ec:=jV hx;rw[<- nc]at ec;have hne:=eV hx;have hvn:(v0:Int)<d.C.length:=O
  have w1:=SN ((k:Int)+1) O;have i0:=af q0;have i2:=af q2;have i6:=af q6;have it:=af htop;unfold cu at i0;have hcb:(cN:Int)*8<=2 ^ 46/\(cN:Int)<=2 ^ 46:=O
  have hrep:List.replicate cN (W9.lit (.int .i64 0))=ints (List.replicate cN 0):=by simp[ints,aa]
  have hset:=cs_set k O;rw[<- hnx]at hset;have hcl:=csl k O;have i0e:∀L,(ext H' L).X H.A 0=_:=fun L=>(c9 O).trans i0;have ite:∀L,(ext H' L).X R2.A 0=_:=fun L=>(c9 O).trans it;simp only[go_sem,p55,p56,hb];refine W.dr 9 [0,0,0,4,0,28,60,124,252] mixed ?_;simp only[go_sem,p3,p5,p10,p56,hb,i0,i2,i6,ite,ec,hne,hvn,hcb,hrep,hset,w1];refine⟨fun x h=>O,O,by rw[aF,aX];omega,⟨k+1,W5,O,by rw[aF,aX,hnx];rfl,fun id h1 h2=>by rw[ag,SQ h2,bQ O];exact hold id h1 h2,by rw[ag,SU rfl],fun j hj=>?_⟩,by rw[h56];simp only[aa,bj];omega⟩;rw[ag,SQ O];by_cases hjk:j=k
  ·subst hjk;rw[<- hnx];exact da
  ·rw[bQ O];exact hrows j (O)
 ·have hkn:k=n:=O
  subst hkn;have i4:=af q4;simp only[go_sem,p3,p4,p5,p9,p10,p55,p56,hb,i4];have csn:cs k=(List.range k).map (fun j=>W9.Q (H.A+7+j) 0 0 cN 1):=by show _++_=_;simp
  obtain⟨ids,hids⟩:∃ids,ids=(List.range k).map (fun j=>H.A+7+j):=⟨_,rfl⟩
  have hidm:∀i∈ids,H.A+7<=i/\i<H'.A:=fun i hi=>by
   rw[hids]at hi;obtain⟨j,hj,rfl⟩:=S4.1 hi;have:=S7.1 hj;omega
  have hzip:List.zipWith (fun i n=>W9.Q i 0 0 n 1) ids (((fG d (fixC p) v0 0).map ints).map List.length)=cs k:=by
   rw[csn,hids,Ed,nr,<- hcN];apply Ts;intro j;rw[WG,List.getElem?_map,List.getElem?_map,List.getElem?_map,List.getElem?_map,TH];by_cases hj:j<k
   ·rw[Th hj,SU hj];simp[aS]
   ·rw[SX (by rw[TU];omega)];rfl
  have hM:Xr H.A H' 46 3 (.Q R2.A 0 0 k 1) ids ((fG d (fixC p) v0 0).map ints):=by
   refine⟨by rw[hids,S8,S8,TU,tu,nr],by rw[hids];exact(Vu (f:=fun j=>H.A+7+j)).2 (List.Pairwise.imp (fun {a b} h e=>h O) Uy),fun i hi=>by have:=hidm i hi;omega,.inr ⟨R2.A,0,O,O,by rw[hzip,csl k W8],by rw[hzip];exact htop⟩,fun j id r h1 h2=>?_⟩;rw[hids,List.getElem?_map]at h1;rw[Ed,nr,<- hcN,List.getElem?_map,TH]at h2;by_cases hj:j<k
   ·rw[Th hj]at h1;rw[SU hj]at h2;cases h1;cases h2;exact hrows j hj
   ·rw[SQ hj]at h2;cases h2
  have hnotin:∀i,i<H.A+7->i ∉ ids:=fun i hi hm=>by have:=hidm i hm;omega
  have hE:ExH d p v0 H.A (H.A+2) (H.A+1) (R2.A+1) (H.A+4) (H.A+3) (.Q R2.A 0 0 k 1) H':=⟨q0,q2,q1,q6,q4,q3⟩
  refine az.Z (Rx d hok hf h6 p hp v0 hv0 H.A (H.A+2) (H.A+1) (R2.A+1) (H.A+4) (H.A+3) H.A (.Q R2.A 0 0 k 1) ids H' hE ⟨O,O,O,O,O,O⟩ ⟨hnotin _ O,hnotin _ O,hnotin _ O,hnotin _ O,hnotin _ O,hnotin _ O⟩ hM _ fun H4 h4n h4o h4M=>⟨trivial,?_⟩);have j6:=af ((h4o (R2.A+1) O (hnotin _ O)).trans q6);simp only[go_sem,p10,j6];rw[Ry]at h4M;refine ar.bE aH hcl ⟨O,fun id hi=>?_⟩ ?_ hK
  ·rw[h4o id O (hnotin _ O),hold id O O,oR3.nl _ O,oR2.nl _ hi]
  ·have:=h4M.fz (S:=fun id=>H.A<=id) (nx:=H.A) (fun i hi=>hi) fun r hr c hc=>by
    obtain⟨l,_,rfl⟩:=S4.1 hr;obtain⟨z,_,rfl⟩:=S4.1 hc;exact .lit _
   rw[Us,S8]at this;refine .na rfl fun i hi _=>match i,hi with
    |0,_=>?_
    |1,_=>.lit _
   have e:(List.map ((fun r=>W9.M r.length r) ∘ ints) (na d (fixC p) v0))=(na d (fixC p) v0).map ah:=Tf fun l _=>by show W9.M (ints l).length (ints l)=_;rw[aS];rfl
   rw[e]at this;exact this
instance (a:List Int)(n:Int):Decidable (cw a n):=by unfold cw;infer_instance
instance (g c:Int)(r:List Int):Decidable (km g c r):=by unfold km;infer_instance
instance (g:Int)(ns:List Xl)(x:Xl):Decidable (gI g ns x):=by unfold gI;infer_instance
instance (ps:List Nat):Decidable (kR ps):=by unfold kR;infer_instance
def zQ (d:Xa)(h1:1<=d.C.length/\d.C.length<=8)(h2:d.U >>> d.C.length=0)(h3:∀x∈d.C,1<=x.L/\x.L<=4)(h4:∀v,v<d.C.length->d.U.testBit v=true->(d.C.getD v ⟨0,[],[]⟩).nn=[]/\cw (d.C.getD v ⟨0,[],[]⟩).F d.C.length)
  (h5:(1<=d.Y/\d.Y<=60)/\∀x∈cz d (fun _ _=>0),(1<=x.L/\x.L<=4)/\cw x.F (cz d (fun _ _=>0)).length) (h6:aA (aj (cz d fun _ _=>0))<=1024) (h7:kR (aR (cz d fun _ _=>0))) (h8:∀x∈cz d (fun _ _=>0),gI d.Y (cz d fun _ _=>0) x)
  (h9:d.V.length<=4/\∀u∈d.V,cw u.vars d.C.length/\(u.w.length:Int)=aA (aB (aj d.C) u.vars)/\∀x∈u.w,-100<=x/\x<=100):Xf d :=
 ⟨⟨h1,h2,h3,fun v x hx hb=>by
  have:=h4 v (aI hx) hb;rw[SV,hx]at this;exact this⟩,⟨h5.1,by rw[iJ];exact h1,h5.2,h6,h7,h8⟩,⟨h9.1,fun u hu=>⟨(h9.2 u hu).1,(h9.2 u hu).2.1,(h9.2 u hu).2.2⟩⟩⟩
def dA:Xa:=⟨4,[⟨2,[],[[1,3]]⟩,⟨2,[0],[]⟩,⟨2,[0,1],[[4,0],[2,2],[0,4],[1,3]]⟩],2,[⟨[1,2],[0,10,-2,8]⟩]⟩
def dE:Xa:=⟨2,[⟨2,[],[]⟩,⟨2,[0],[[2,0],[1,1]]⟩,⟨2,[0,1],[]⟩],5,[⟨[0,1,2],[1,0,9,9,0,3,5,2]⟩]⟩
def dN:Xa:=⟨1,[⟨2,[],[]⟩,⟨2,[],[]⟩],3,[]⟩
def lC:Xf dA:=zQ dA W6 W6 W6 W6 W6 W6 W6 W6 (W6)
def pM:Xf dE:=zQ dE W6 W6 W6 W6 W6 W6 W6 W6 (W6)
def Er:Xf dN:=zQ dN W6 W6 W6 W6 W6 W6 W6 W6 (W6)
def zR:fL dA=some [1]:=W7
def zS:fL dE=some [0,2]:=W7
def Es:fL dN=none:=W7
def tA (d:Xa)(p:List (List Int))(h:p.length=(mI d).length/\∀k,k<(mI d).length->((p.getD k []).length:Int)=((mI d).getD k (0,0)).1/\∀a∈p.getD k [],0<=a/\a<((mI d).getD k (0,0)).2):Xo d p :=
 Ob.2 ⟨h.1,fun k q r h1 h2=>by
  have:=h.2 k (aI h1);rw[SV,SV,h1,h2]at this;exact this⟩
def wH:Xo dA [[0,0]]:=tA _ _ (W6)
def Et:Xo dA [[1,0]]:=tA _ _ (W6)
def Eu:Xo dA [[1,1]]:=tA _ _ (W6)
def Ew:Xo dE [[1],[1,1,1,0]]:=tA _ _ (W6)
def Ex:Xo dE [[1],[0,0,1,0]]:=tA _ _ (W6)
def rm:cJ dA=0:=by unfold cJ;rw[eI lC,zR];rfl
def wI:cJ dE=0:=by unfold cJ;rw[eI pM,zS];rfl
def Sf:cJ dN=4:=by unfold cJ;rw[eI Er,Es];rfl
def Sg:eo 528 (dA.Y ^ dA.C.length)=.agg [aa 33,aa 4]:=W7
def Sh:eo 32 (dE.Y ^ dE.C.length)=.agg [aa 4,aa 1]:=W7
def Si:dX dA [1]=[[1,0]]:=(zq lC (ma zR) (ks:=[0]) W6 (fun a b h1 h2=>by simp at h2;omega)).symm.trans (W7)
def Sj:dX dE [0,2]=[[1],[0,0,1,0]]:=(zq pM (ma zS) (ks:=[0,1]) W6 (fun a b h1 h2=>by
 have:a=0/\b=1:=by simp at h2;omega
 rw[this.1,this.2];decide)).symm.trans (W7)
def zT:fg dA [1]=528:=W7
def Ey:fg dE [0,2]=32:=W7
def Sk:kj dA [[1,0]]=528:=W7
def Sl:kj dA [[1,1]]≠528:=W6
def Sm:kj dE [[1],[1,1,1,0]]=32:=W7
def Sn:na dA (fixC [[0,0]]) 1=[[0,48],[480,264]]:=W7
def So:na dE (fixC [[1],[0,0,1,0]]) 0=[[8,32]]:=W7
end Go.Proofs
namespace Go.Hx
variable {P:Program} {G:Nat->Option (List W9)}
variable {f:FuncId}{args args' l l':List W9}{nx:Nat}{S:Nat->Prop}{K:Xd->Xn->Prop}{H:Xn}
inductive Xw (S:Nat->Prop)(H:Xn)(nx:Nat):List W9->List W9->Prop
 |nil:Xw S H nx [] []
 |cons {a a':W9} {l l':List W9} (h:Fz S H nx a a') (t:Xw S H nx l l'):Xw S H nx (a :: l) (a' :: l')
def Xw.len (h:Xw S H nx l l'):l'.length=l.length:=by
 induction h with
 |nil=>rfl
 |cons _ _ ih=>rw[List.length_cons,List.length_cons,ih]
def Xw.at (h:Xw S H nx l l'):∀i (h:i<l.length) (h':i<l'.length),Fz S H nx l[i] l'[i]:=by
 induction h with
 |nil=>intro i h;exact absurd h (Tb _)
 |cons h _ ih =>
  intro i h1 h2;cases i with
  |zero=>exact h
  |succ i=>exact ih i (by simpa using h1) (by simpa using h2)
theorem Xw.agg {S:Nat->Prop}{H:Xn}{nx:Nat}{l l':List W9}(h:Xw S H nx l l'):Fz S H nx (.agg l) (.agg l'):=.agg h.len h.at
theorem Xw.na {S:Nat->Prop}{H:Xn}{nx:Nat}{l l':List W9}(h:Xw S H nx l l'):Fz S H nx (.na l) (.na l'):=.na h.len h.at
theorem Xw.Q {S:Nat->Prop}{H:Xn}{nx id g l z:Nat}{e:TypeId}{cells c':List W9}(hS:S id)(hg:H.get id=some (.J g e cells))(hl:cells.length=l*z)(h:Xw S H nx cells c'):Fz S H nx (.Q id g 0 l z) (.M l c'):=by
 refine .ny hS hg (by rw[h.len,hl]) fun i hi h2 h'=>?_;have e0:0+i=i:=Nat.zero_add i;simpa only[e0] using h.at i O h'
def az.Sp (n:Nat)(hG:fK G)(hv:Xw (fun id=>n<=id) H H.A args args')(h:ae P G f args' (H.cut n) K):az P G (.Z f [] []) args H K :=
 az.Z (by simpa using ae.lM n hG hv.len (fun i h1 h2=>hv.at i h1 h2) h)
def az.iO {B:Xn}(hG:fK G)(ho:Xb B H)(hv:Xw (fun id=>B.A<=id) H H.A args args')(h:∀H',Xb B H'->ae P G f args' H' K):az P G (.Z f [] []) args H K :=
 az.Sp B.A hG hv (h _ ho.cut)
end Go.Hx
namespace Go.Proofs
open Go.Hx Tryz
def zU {S:Nat->Prop}{H:Xn}{nx:Nat}(l:List Int):Xw S H nx (ints l) (ints l):=by
 induction l with
 |nil=>exact .nil
 |cons a l ih=>exact .cons (.lit _) ih
def Sq (H:Xn)(K:Xd->Xn->Prop)(hK:K (.ret (eC dA)) H):ae prog G0 62 [] H K:=by
 refine ae.Z ⟨_,func62,rfl,rfl⟩ fun hcl=>?_;have e:eC dA=.agg [aa 4,.M 3 [aa 2,.M 0 [],.M 1 [.M 2 [aa 1,aa 3]],aa 2,.M 1 [aa 0],.M 0 [],aa 2,.M 2 [aa 0,aa 1],.M 4 [.M 2 [aa 4,aa 0],.M 2 [aa 2,aa 2],.M 2 [aa 0,aa 4],.M 2 [aa 1,aa 3]]],.lit (.int .u64 2),.M 1 [.M 2 [aa 1,aa 2],.M 4 [aa 0,aa 10,aa (-2),aa 8]]]:=by rfl
 rw[e]at hK;refine ae.sw (n:=19) (rs:=[.cell 0 38]) func62 ?_;refine W.sq ?_;simp only[go_sem];refine W.sq ?_;simp only[go_sem]
 repeat (refine⟨W6,?_⟩)
 refine W.vs ?_;simp only[go_sem];refine ar.bE aH hcl (.ext _ _) (Xw.agg ?_) hK
 repeat (first|exact Xw.nil|refine Xw.cons ?_ ?_|exact Fz.lit _|exact Fz.nil|refine Xw.Q O (bL H _ _ W5) rfl ?_)
def Sr (H:Xn)(K:Xd->Xn->Prop)(hK:K (.ret (eC dE)) H):ae prog G0 63 [] H K:=by
 refine ae.Z ⟨_,func63,rfl,rfl⟩ fun hcl=>?_;have e:eC dE=.agg [aa 2,.M 3 [aa 2,.M 0 [],.M 0 [],aa 2,.M 1 [aa 0],.M 2 [.M 2 [aa 2,aa 0],.M 2 [aa 1,aa 1]],aa 2,.M 2 [aa 0,aa 1],.M 0 []],.lit (.int .u64 5),.M 1 [.M 3 [aa 0,aa 1,aa 2],.M 8 [aa 1,aa 0,aa 9,aa 9,aa 0,aa 3,aa 5,aa 2]]]:=by rfl
 rw[e]at hK;refine ae.sw (n:=15) (rs:=[.cell 0 38]) func63 ?_;refine W.sq ?_;simp only[go_sem];refine W.sq ?_;simp only[go_sem]
 repeat (refine⟨W6,?_⟩)
 refine W.vs ?_;simp only[go_sem];refine ar.bE aH hcl (.ext _ _) (Xw.agg ?_) hK
 repeat (first|exact Xw.nil|refine Xw.cons ?_ ?_|exact Fz.lit _|exact Fz.nil|refine Xw.Q O (bL H _ _ W5) rfl ?_)
end Go.Proofs
