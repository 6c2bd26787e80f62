/- Own work: contracts. -/
import Derived.Test.YteolcdbjdgimhaaGreatConI
import Derived.Test.YteolcdbjdgimhaaGreatConG
import Derived.Test.YteolcdbjdgimhaaGreatConC
set_option linter.all false
set_option maxHeartbeats 8000000
set_option maxRecDepth 100000
namespace Go.Proofs
open Go.Hx Tryz
variable {ch ch':Ch}{tot:Int}{ks l r:List Nat}{cs:List ZK}{c i id j k lo m n x:Nat}{f:Nat->Nat}{I:Nat->Nat->Nat}{t:Z3}{H:ZJ}{Q:ZJ->Prop}{lvh v:ZK}{d:ZM}{D:ZS}
structure BldH (d:ZM)(r:List Nat)(lo s n:Nat)(lvh:ZK)(I:Nat->Nat->Nat)(H:ZJ):Prop where
 top:H.get s=some (.J 0 178 [.lit (.int .i64 d.X),.Q d.C.length (aG d.C),.lit (.int .u64 (d.Y:Int)),.Q d.nn.length (bj d.nn),lvh,ah (dL d),ah (cP d),.lit (.int .i64 0)])
 nE:s<H.A
 lv:aD lo H 179 lvh (jL I n)
 sep:∀k j,k<n->j<6->s≠I k j
 nJ:∀id g m,lvh=.U id g 0 m 1->id≠s/\∀k j,k<n->j<6->id≠I k j
 ng:nna (aw d r) r lo n I (jo (aw d r) (q8 (aw d r)) (fg (aw d r)) 0) H
 nv:n=0->lvh=.lit (.slice none 0 0)
def To (d:ZM)(hf:Z1 d)(h6:d.C.length<=6)(H:ZJ)(K:ZP->ZJ->Prop)
  (hE:∀H',ZN H H'->fu d=4->K (.ret (.nf [.lit (.pointer none),.lit (.int .i64 210)])) H')
  (hE2:∀H',ZN H H'->fu d≠4->fu d≠0->K (.ret (.nf [.lit (.pointer none),aa (fu d)])) H')
  (hK:∀(r:List Nat) (s:Nat) (lvh:ZK) (I:Nat->Nat->Nat) (H':ZJ),mM d=some r->ZR d->ZN H H'->ZW d r H.A s lvh I (dW (aw d r) (fg (aw d r)) 0) (ka (aw d r) 0) H'->(r=[]->lvh=.lit (.slice none 0 0))->K (.ret (.nf [.M s 0 0,.lit (.int .i64 0)])) H'):
  ag prog G0 71 [cM d] H K:=by
 refine ag.sw (n:=96) (rs:=[.tmp 2,.tmp 3]) func71 ?_;refine W.sq ?_;simp only[go_sem,fW,bq];obtain⟨H1,hH1⟩:∃H1,H1=ext H [.J 0 38 [.lit (.int .i64 d.X),.Q d.C.length (aG d.C),.lit (.int .u64 (d.Y:Int)),.Q d.nn.length (bj d.nn)]]:=⟨_,rfl⟩
 have g1:=de hH1
 have n1:H1.A=H.A+1:=hH1▸rfl
 have o1:ZN H H1:=hH1▸.ext _ _
 rw[<- hH1];clear hH1;have l1:=ae g1;refine W.sq ?_;simp only[go_sem,l1];refine au.Z (Nm d hf _ _ ⟨trivial,?_⟩);simp only[go_sem];refine W.en (fun E=>E 1=.M H.A 0 0 /\ E 4=ah (bp (pB d)) /\ E 5=aa (fu d)) (by simp only[go_sem]) fun E ⟨e1,e4,e5⟩=>?_
 by_cases h4:fu d=4
 ·refine W.sq ?_;simp only[go_sem,e5,h4];exact aq.mk o1.A (hE H1 o1 h4)
 refine W.sq ?_;simp only[go_sem,e5,h4];by_cases h0:fu d=0;rotate_left
 ·refine W.sq ?_;simp only[go_sem,e5,h0];exact aq.mk o1.A (hE2 H1 o1 h4 h0)
 have hok:ZR d:=by
  unfold fu at h0;by_cases h:ZR d
  ·exact h
  ·rw[gU h]at h0;simp at h0
 obtain⟨r,hr⟩:∃r,mM d=some r:=by
  unfold fu at h0;rw[ep hok]at h0;simp only[if_true]at h0;split at h0
  ·rename_i hs;exact Wj.1 hs
  ·cases h0
 have hrv:pB d=r:=by unfold pB;rw[VA h0,hr];rfl
 rw[hrv]at e4;have hrl8:r.length<=8:=by
  have h1:=FB _ _ _ _ hr;have h2:(aB d).length<=d.C.length:=ia;have h3:=hok.n.n1;simp at h1;omega
 have hrl:r.length<=64:=O
 have hro:=Ao hr;refine W.sq ?_;simp only[go_sem,e5,h0];refine W.sq ?_;simp only[go_sem,e1,l1];obtain⟨H2,hH2⟩:∃H2,H2=ext H1 [.J 0 178 [.lit (.int .i64 d.X),.Q d.C.length (aG d.C),.lit (.int .u64 (d.Y:Int)),.Q d.nn.length (bj d.nn),.lit (.slice none 0 0),.lit (.slice none 0 0),.lit (.slice none 0 0),.lit (.int .i64 0)],.J 0 134 [.M H1.A 0 0]]:=⟨_,rfl⟩
 have g2:=de hH2
 have g3:=gE hH2 1 rfl
 have n2:H2.A=H1.A+2:=hH2▸rfl
 have o2:ZN H1 H2:=hH2▸.ext _ _
 rw[<- hH2];clear hH2;have l1':=ae ((o2.nb _ O).trans g1);have l2:=ae g2;have l3:=ae g3;refine W.en (fun E2=>E2 1=.M H.A 0 0 /\ E2 4=ah (bp r) /\ E2 6=.M (H1.A+1) 0 0) (by simp only[go_sem,e1,e4]) fun E2 ⟨f1,f4,f6⟩=>?_
 clear e1 e4 e5 l1;refine W.lZ (fun s'=>s'.ρ 4=ah (bp r)/\s'.ρ 6=.M (H1.A+1) 0 0/\s'.H.A=H2.A/\(∀i,i≠H1.A->s'.H.get i=H2.get i)/\s'.H.get H1.A=some (.J 0 178 [.lit (.int .i64 d.X),.Q d.C.length (aG d.C),.lit (.int .u64 (d.Y:Int)),.Q d.nn.length (bj d.nn),.lit (.slice none 0 0),ah (dL d),ah (cP d),.lit (.int .i64 0)])) ?_ ?_
 ·refine W.dr 10 [0,0,0,4,12,28,28,61,189,445] mixed ?_;simp only[go_sem,f1,f6,l1',l3];refine⟨.nf [ah (dL d),ah (cP d)],[],bL.pure fun H9=>AS d hok hf.Y H9 _ ⟨rfl,rfl⟩,?_⟩;simp only[go_sem,f1,f4,f6,l2];refine⟨fun x hx=>O,by rw[aA,aA],fun i h=>?_,?_⟩
  ·rw[af,Vx h,af,Vx h]
  ·rw[af,VA rfl]
 rintro⟨ρ3,H3⟩ ⟨k4,k6,n3,o3,g4⟩;simp only at k4 k6 n3 o3 g4;clear f1 f4 f6 l1' l2 l3;have g5:H3.get (H1.A+1)=_:=(o3 _ O).trans g3;have hnl:(bp r).length=r.length:=by simp[bp]
 refine W.sq ?_;simp only[go_sem,k4,hnl];refine W.en (fun E3=>E3 6=.M (H1.A+1) 0 0 /\ E3 36=.Q r.length (ints (bp r)) /\ E3 37=aa r.length /\ E3 38=aa 0) (by simp only[go_sem,k6]) fun E3 ⟨m6,m36,m37,m38⟩=>?_
 clear k4 k6;refine W.aP 38685626227667858712692480 (by rfl) (fun ρ Hx=>∃(n:Nat) (lvh:ZK) (I:Nat->Nat->Nat),ρ 38=aa n/\n<=r.length/\H3.A<=Hx.A/\(∀i,i<H3.A->i≠H1.A->Hx.get i=H3.get i)/\BldH d r H3.A H1.A n lvh I Hx) (fun ρ Hx=>r.length-(iv (ρ 38)).toNat) ?_ ?_
 ·simp only[go_sem,m38];refine⟨0,.lit (.slice none 0 0),fun _ _=>0,rfl,WO _,⟨g4,O,.nil,fun k j h=>absurd h (VN _),fun id g m h=>(by cases h),?_,fun _=>rfl⟩⟩;exact⟨fun k j k' j' h=>absurd h (VN _),fun k j h=>absurd h (VN _),fun k h=>absurd h (VN _),fun k j h=>absurd h (VN _),⟨fun k h=>absurd h (VN _),fun k h=>absurd h (VN _),fun k h=>absurd h (VN _),fun k h=>absurd h (VN _),fun k h=>absurd h (VN _)⟩⟩
 rintro ρ Hx ⟨n,lvh,I,h38,hn,nx,hout,hB⟩;refine W.en (fun E4=>E4 6=.M (H1.A+1) 0 0 /\ E4 36=.Q r.length (ints (bp r)) /\ E4 37=aa r.length /\ E4 38=aa n) (by simp only[go_sem,m6,m36,m37,h38]) fun E4 ⟨f6,f36,f37,f38⟩=>?_
 have gp:=(hout (H1.A+1) O O).trans g5;have lp:=ae gp;have ls:=ae hB.top;by_cases hb:(n:Int)<r.length;rotate_left
 ·refine W.vs ?_;simp only[go_sem,f37,f38,hb];have hnr:n=r.length:=O
  subst hnr;have hD0:=FC hok hro;obtain⟨hg1,hg2⟩:=Sv hok h6 r;have ht0:fA d r 0=0:=by unfold fA;split<;>rfl
  have hS0:ZW d r H.A H1.A lvh I (jo (aw d r) (q8 (aw d r)) (fg (aw d r)) 0) (fA d r 0) Hx:=by
   rw[ht0];exact⟨hB.top,⟨O,hB.nE⟩,hB.lv.nc O ZI fun _ _ _ _ _ _=>rfl,hB.sep,hB.nJ,⟨hB.ng.inj,fun k j h1 h2=>by have:=hB.ng.nk k j h1 h2;omega,hB.ng.nB,hB.ng.ny,hB.ng.len⟩⟩
  refine W.sq ?_;simp only[go_sem,f6,lp];refine au.Z (Uf hok hro hrl (fun k hk=>by have:=hD0 k hk;omega) (fun k hk=>by have:=hD0 k hk;omega) (fun k b hk n hn=>?_) (fun n hn=>?_) (fun w hw=>?_) Hx hS0 _ fun H4 n4 o4 hS4=>⟨trivial,?_⟩)
  ·have h1:=EX hg1 k n hn;have h2:=xy (bP (aw d r) k n) b;have h3:18662400000000*n<=18662400000000*(aw d r).N:=WR _ hn;omega
  ·have h1:=Su hg1 n hn;have h3:18662400000000*n<=18662400000000*(aw d r).N:=WR _ hn;omega
  ·have:=tn hok h6 (iV hok w);omega
  simp only[go_sem];have gp4:H4.get (H1.A+1)=some (.J 0 134 [.M H1.A 0 0]):=(o4 _ (by have:=nx;omega) O (fun k j h1 h2 e=>by have:=(hB.ng.nk k j h1 h2).1;omega)).trans gp;have lp4:=ae gp4;refine W.sq ?_;simp only[go_sem,f6,lp4];refine au.Z (F1 H1.A H4 _ ⟨trivial,?_⟩);simp only[go_sem];obtain⟨H5,hH5⟩:∃H5,H5=ext H4 [.J 0 134 [.M H1.A 0 0]]:=⟨_,rfl⟩
  have n5:H5.A=H4.A+1:=hH5▸rfl
  have o5:ZN H4 H5:=hH5▸.ext _ _
  have gbx:=de hH5
  rw[<- hH5];clear hH5;have hT5:ZW d r H.A H1.A lvh I (dW (aw d r) (fg (aw d r)) r.length) (ka (aw d r) r.length) H5:=by
   have h1:=(hS4.same (Tl (aw d r) (fg (aw d r))) (AJ (fun k _=>by simp[fg]) _)).jM hS4.uY O fun i hi=>o5.nb i hi;have h2:fA d r (bO d.C)=ka (aw d r) r.length:=by
    unfold fA ka;by_cases h:r.length=0
    ·rw[VA h,VA (.inl h)];unfold sK;rw[VA (show (aw d r).K=0 from h)];rfl
    ·rw[Vx h,Vx (by rintro(h1|h1)<;>exact h h1)]
   rw[<- h2];exact h1
  have hB5:=hT5.uY;refine W.env fun E6 hE6=>?_;have w6:E6 6=.M (H1.A+1) 0 0:=by rw[hE6];simp only[go_sem,f6]
  have w90:E6 90=.Z 138 [] [.M H4.A 0 0]:=by rw[hE6];rfl
  clear hE6;have hni:∀k j,k<r.length->j<6->I k j<H4.A:=fun k j h1 h2=>(hS4.ng.nk k j h1 h2).2;have hns:H1.A<H4.A:=hS4.nE.2;have hpI:∀k j,k<r.length->j<6->H1.A+1≠I k j:=fun k j h1 h2 e=>by have:=(hB.ng.nk k j h1 h2).1;omega
  refine W.jN (f:=138) (first:=[]) (cap:=[.M H4.A 0 0]) (by show E6 90=_;exact w90) (FZ d H1.A H4.A r.length hrl)
   (fun k Hy=>H5.A<Hy.A/\(∀i,i<H5.A->i≠H1.A->(∀k j,k<r.length->j<6->i≠I k j)->Hy.get i=H5.get i)/\ZW d r H.A H1.A lvh I (dW (aw d r) (fg (aw d r)) (r.length-k)) (ka (aw d r) (r.length-k)) Hy)
   (fun _ _=>False)
   (fun k Hy h=>⟨(h.2.1 _ O O fun k j h1 h2 e=>by have:=hni k j h1 h2;omega).trans gbx,_,_,h.2.2.top,h.2.2.len⟩)
   (fun k Hy b h=>⟨h.1,fun i h1 h2 h3=>by rw[af,Vx O];exact h.2.1 i h1 h2 h3,h.2.2.jM hB5 (by rw[aA];exact Nat.le_refl _) fun i hi=>by rw[af,Vx O]⟩)
   (fun _ _ _ h=>h)
   (fun b=>⟨by rw[aM];simp,fun i h1 _ _=>aX h1,hT5.jM hB5 (by rw[aM];omega) fun i hi=>aX hi⟩)
   ZG (fun x hx=>by rw[FY x hx];rfl) (fun _ _ _=>trivial) (fun _ _ _=>trivial) (fun k y Hy B Bb hy hj hn hBq hBb=>?_) (fun Hy hj hn=>?_) (fun _ hs _=>hs.elim) (fun _ _ hs _=>hs.elim)
  ·obtain⟨hk,rfl⟩:=FX hy;obtain⟨kk,hkk⟩:∃kk,kk=r.length-1-k:=⟨_,rfl⟩
   have e1:(r.length:Int)-1-(k:Int)=(kk:Int):=O;have e2:r.length-k=kk+1:=O;have e3:r.length-(k+1)=kk:=O;rw[e1];rw[e2]at hj;rw[e3];refine W.vs ?_;simp only[go_sem,eZ,bb,fO,V6,Ws,V7,Wb,hBq];obtain⟨H6,hH6⟩:∃H6,H6=Hy.upd H5.A Bb:=⟨_,rfl⟩
   rw[<- hH6];obtain⟨st,pd,n',en,ps',as',bo,hBe⟩:=hBb;have n6:H6.A=Hy.A:=(by rw[hH6];rfl);have o6:∀id,id≠H5.A->H6.get id=Hy.get id:=fun id h=>by rw[hH6,af,Vx h]
   have jB:H6.get H5.A=some Bb:=(by rw[hH6,af,VA rfl]);have hS6:=hj.2.2.jM hB5 (H':=H6) O fun i hi=>o6 i O;have lp6:=ae ((o6 (H1.A+1) O).trans ((hj.2.1 _ O O hpI).trans ((o5.nb _ O).trans gp4)));refine W.env fun E7 hE7=>?_;have t6:E7 6=.M (H1.A+1) 0 0:=(by rw[hE7];simp only[go_sem,bb,w6]);have t11:E7 11=aa kk:=(by rw[hE7];simp only[go_sem,bb]);clear hE7;have hkl:kk<r.length:=O;have hd1:=hD0 kk hkl;have hbf:=AK (D:=aw d r) (ch:=fg (aw d r)) (k:=kk) hkl;have hex:0<kk->(dW (aw d r) (fg (aw d r)) (kk+1)).ex (kk-1)=bP (aw d r) (kk-1) (aw d r).N:=fun h=>Vx O;have hBs:cS (BF (aw d r) kk)<=20000000000000000:=by
    have h1:cS (BF (aw d r) kk)<=cS (EF (aw d r) kk):=Wm (Ay _ _ _) (sS _ _);have h2:=EY hg1 (r.length-1-kk) kk (show kk+1+(r.length-1-kk)=r.length by omega);omega
   refine W.vs ?_;simp only[go_sem,t6,t11,lp6];refine au.Z (TL hrl hkl O hd1.2.2.1 O O (fun h0 c hc=>?_) (fun h0 n hn=>?_) (fun h0 n hn=>?_) H6 hS6 _ fun H7 h7n h7o h7S=>⟨⟨st,pd,n',en,ps',as',bo,by rw[h7o _ O (fun k j h1 h2 e=>by have:=hni k j h1 h2;omega),jB,hBe]⟩,?_⟩)
   ·have hDo:=sJ hok hro.mem;have hd2:=hD0 (kk-1) O;have hpos:0<(aw d r).cs (kk-1)*(aw d r).cd (kk-1):=Ys O O;obtain⟨a,ha⟩:=ao (l:=dh (aw d r) kk (aw d r).N) (i:=c) (by rw[pU];exact hc);have h1:=Aq hDo (show kk<(aw d r).K from hkl) (aw d r).N ZI a (an ha);have hab':((dW (aw d r) (fg (aw d r)) (kk+1)).ab kk).getD c 0=a:=iH ha;rw[hab'];rcases h1.2.2 h0 with h2|h2
    ·exact⟨h1.1,h2⟩
    ·rw[h2];exact⟨Int.le_refl _,Int.ofNat_lt.2 hpos⟩
   ·rw[hbf,hex h0];have h1:=Sr hg1 (show kk<(aw d r).K from hkl) h0 n;have h2:=xy (eh (dh (aw d r) kk (aw d r).N) (BF (aw d r) kk) n (bP (aw d r) (kk-1) (aw d r).N)) (((dW (aw d r) (fg (aw d r)) (kk+1)).ab kk).getD n 0).toNat;have h3:=xy (BF (aw d r) kk) n;have h4:(dW (aw d r) (fg (aw d r)) (kk+1)).ab kk=dh (aw d r) kk (aw d r).N:=rfl;rw[h4]at h2 ⊢;omega
   ·rw[hbf];have h1:=Ss (BF (aw d r) kk) (n+1);have h2:=sS (BF (aw d r) kk) (n+1);have h3:ka (aw d r) (kk+1)=0:=(by unfold ka;rw[Vx (by rintro(h|h);{ have:r.length=0:=h;omega };omega)]);rw[h3];omega
   simp only[go_sem,dE];refine⟨by rw[h7o _ O (fun k j h1 h2 e=>by have:=hni k j h1 h2;omega)];exact jB,O,O,fun i h1 h2 h3=>by rw[h7o i h2 h3,o6 i O];exact hj.2.1 i h1 h2 h3,?_⟩;rw[Tn (show kk<(aw d r).K from hkl)]at h7S;exact h7S.same (Tm (show kk<(aw d r).K from hkl)) (AJ (fun k _=>by simp[fg]) _)
  ·simp only[go_sem];have lpy:=ae ((hj.2.1 (H1.A+1) O O hpI).trans ((o5.nb _ O).trans gp4));refine W.vs ?_;simp only[go_sem,w6,lpy];have hov:ZN H Hy:=⟨by have:=o1.A;omega,fun i hi=>by
    have q1:∀k j,k<r.length->j<6->i≠I k j:=fun k j h1 h2 e=>by have:=(hB.ng.nk k j h1 h2).1;omega
    rw[hj.2.1 i O O q1,o5.nb i O,o4 i O O q1,hout i O O,o3 i O,o2.nb i O,o1.nb i hi]⟩
   have hSf:=hj.2.2;rw[xQ,XC]at hSf;exact aq.mk hov.A (hK r H1.A lvh I Hy hr hok hov hSf fun h=>hB.nv (by rw[h];rfl))
 have hn2:n<r.length:=O
 obtain⟨v,hv⟩:=ao hn2;have hvd:r.getD n 0=v:=gT hv;have hm:=hro.mem v (an hv);obtain⟨x,hx⟩:=ao (fQ.1 hm).1;obtain⟨hrn,hxp,hin,ps⟩:=tp hok hx;have hxc:=hok.n.L x (an hx);obtain⟨e1',e2'⟩:=jF hx O;obtain⟨D,hD⟩:∃D,D=aw d r:=⟨_,rfl⟩
 have ecs:D.cs n=bB d.C x:=by rw[hD];show bT d (r.getD n 0)=_;rw[hvd];exact e1'
 have ecd:(D.cd n:Int)=x.L:=by rw[hD];show (cO d (r.getD n 0):Int)=_;rw[hvd];exact e2'
 have gv:(ints (bp r))[n]?=some (aa v):=by rw[fa];simp[bp,hv]
 have gvn:=aO gv;have hvi:(v:Int)<d.C.length:=by have:=(fQ.1 hm).1;omega
 have q0:=iS hx;have qn:=eT hx;refine W.sq ?_;simp only[go_sem,f37,f38,hb];refine W.sq ?_;simp only[go_sem];refine W.seq (W.block ?_);refine W.sq ?_;simp only[go_sem,f36,f38,hb,gv,gvn];refine W.seq ?_;refine W.dr 17 [0,1,3,7,15,0,63,0,128,384,896,1920,0,8064,16256,32640,127] mixed ?_;simp only[go_sem,f6,lp,ls,q0,qn,hvi];refine⟨aa (bB d.C x),[],bL.pure fun H9=>pX d.C v x hx hin ps H9 _ (by rw[hrn];exact⟨rfl,rfl⟩),?_⟩;simp only[go_sem];obtain⟨cN,hcN⟩:∃cN,cN=D.cs n:=⟨_,rfl⟩
 obtain⟨cD,hcD⟩:∃cD,cD=D.cd n:=⟨_,rfl⟩
 refine W.env fun E5 hE5=>?_;have s6:E5 6=.M (H1.A+1) 0 0:=by rw[hE5];simp only[go_sem,f6]
 have s8:E5 8=aa v:=by rw[hE5];simp only[go_sem]
 have s9:E5 9=aa cN:=by rw[hE5,hcN,ecs];simp only[go_sem]
 have s10:E5 10=aa cD:=by rw[hE5,hcD,ecd];simp only[go_sem]
 have s38:E5 38=aa n:=by rw[hE5];simp only[go_sem,f38]
 clear hE5;have hc1:1<=cN:=by rw[hcN,hD];exact sL hok hro n hn2
 have hsz0:=hok.nA.size;rw[lF]at hsz0;have hcb:cN<=1024:=by have:=wW hxp hok.n.L;omega
 have hdb:cD<=4:=O
 have w0:=Vv ((cN:Int)*(cD:Int)) (by rw[<- XN];have:=YF hcb hdb;omega);obtain⟨cE,hcE⟩:∃cE,cE=cN*cD:=⟨_,rfl⟩
 have q1:(cN:Int)*(cD:Int)=(cE:Int):=by rw[hcE];simp
 have hcd2:cE<=4096:=by rw[hcE];exact YF hcb hdb
 rw[q1]at w0;have z1:(0:Int)<=(cN:Int):=O
 have z2:(0:Int)<=(cE:Int):=O
 refine Ev.W.GX 24 [0,0,2,6,14,0,0,0,128,0,512,0,0,6144,14336,0,32768,0,0,393216,1048544,2097120,4194272,8388606] mixed ZH ZH ?_;simp only[go_sem,s6,s8,s9,s10,lp,ls,q1,w0,z1,z2,Nu,Nv,Nw,Nx,Ny,Nz,NA,NB,NC,ND,NF,NG];obtain⟨H4,hH4⟩:∃H4,H4=ext (ext Hx [.J 0 3 (List.replicate cN (.lit (.int .i64 0))),.J 0 4 (List.replicate cN (.lit (.bool false))),.J 0 3 (List.replicate cE (.lit (.int .i64 0))),.J 0 3 (List.replicate cN (.lit (.int .i64 0)))]) [.J 0 3 [.lit (.int .i64 (-1))]]:=⟨_,rfl⟩
 rw[<- hH4];have n4:H4.A=Hx.A+4+1:=by rw[hH4];rfl
 have o4:ZN Hx H4:=by rw[hH4];exact(ZN.ext _ _).trans (.ext _ _)
 have b0:H4.get Hx.A=some (.J 0 3 (List.replicate cN (.lit (.int .i64 0)))):=by rw[hH4,cW];exact bH Hx _ 0 (ZF)
 have b1:H4.get (Hx.A+1)=some (.J 0 4 (List.replicate cN (.lit (.bool false)))):=by rw[hH4,cW];exact bH Hx _ 1 (ZF)
 have b2:H4.get (Hx.A+2)=some (.J 0 3 (List.replicate cE (.lit (.int .i64 0)))):=by rw[hH4,cW];exact bH Hx _ 2 (ZF)
 have b3:H4.get (Hx.A+3)=some (.J 0 3 (List.replicate cN (.lit (.int .i64 0)))):=by rw[hH4,cW];exact bH Hx _ 3 (ZF)
 have b4:H4.get (Hx.A+4)=some (.J 0 3 [.lit (.int .i64 (-1))]):=by rw[hH4,cW];exact bH Hx _ 4 (ZF)
 clear hH4;refine⟨O,by repeat' (first|refine And.intro ?_ ?_|(intro x hx;omega)),O,by repeat' (first|refine And.intro ?_ ?_|(intro x hx;omega)),O,by repeat' (first|refine And.intro ?_ ?_|(intro x hx;omega)),O,by repeat' (first|refine And.intro ?_ ?_|(intro x hx;omega)),by repeat' (first|refine And.intro ?_ ?_|(intro x hx;omega)),?_⟩;refine⟨_,_,1,_,Uj (a:=-1) (m:=cN) ⟨hc1,O⟩ O b4,?_⟩;have hEf:(⟨Ev.dP (Ev.ki H4.A (H4.A+1) (fun _=>true) (ext ⟨fun _=>none,H4.A⟩ [.J 0 3 (ints (List.replicate cN (-1)))]).get) H4.get,Hx.A+4+1+1⟩:ZJ)=ext H4 [.J 0 3 (ints (List.replicate cN (-1)))]:=by rw[<- n4];exact NI
 rw[NH,hEf,n4];simp only[go_sem];obtain⟨H5,hH5⟩:∃H5,H5=ext (ext H4 [.J 0 3 (ints (List.replicate cN (-1)))]) [.J 0 182 [.lit (.int .i64 (v:Nat)),.lit (.int .i64 (cD:Nat)),.U Hx.A 0 0 cN 1,.U (Hx.A+1) 0 0 cN 1,.U (Hx.A+2) 0 0 cE 1,.U (Hx.A+3) 0 0 cN 1,.U (Hx.A+4+1) 0 0 cN 1]]:=⟨_,rfl⟩
 rw[<- hH5];have n5:H5.A=Hx.A+4+1+1+1:=by rw[hH5];show H4.A+1+1=_;omega
 have o5:ZN H4 H5:=by rw[hH5];exact(ZN.ext _ _).trans (.ext _ _)
 have b5:H5.get (Hx.A+4+1)=some (.J 0 3 (ints (List.replicate cN (-1)))):=by rw[hH5,<- n4,cW];exact bH H4 _ 0 (ZF)
 have b6:H5.get (Hx.A+4+1+1)=some (.J 0 182 [.lit (.int .i64 (v:Nat)),.lit (.int .i64 (cD:Nat)),.U Hx.A 0 0 cN 1,.U (Hx.A+1) 0 0 cN 1,.U (Hx.A+2) 0 0 cE 1,.U (Hx.A+3) 0 0 cN 1,.U (Hx.A+4+1) 0 0 cN 1]):=by rw[hH5,show Hx.A+4+1+1=H4.A+1 by omega,cW];exact bH H4 _ 1 (ZF)
 clear hH5;obtain⟨lv2,H6,hA2,oP,n6,hp6⟩:=iR (P:=prog) (H:=H5) (t:=176) (x:=.M (Hx.A+4+1+1) 0 0) (n:=H5.A+1) Tryz.underlying176 Tryz.C5 Tryz.C7 rfl (by rw[Tryz.C6,kG];omega) (hB.lv.nc ZI O fun i g h1 h2 h3 _=>by rw[o5.nb i O,o4.nb i h2]) (by have:=hB.nE;omega) rfl;have hA3:cr prog (ext H5 [.J 0 179 [.M (Hx.A+4+1+1) 0 0]]) (H5.A+1) 176 176 lvh (.U (Hx.A+4+1+1+1) 0 0 1 1)=some (lv2,H6):=by rw[<- n5];exact hA2
 have lv21:=oP.one;have lv2c:=oP.cells;have k6:∀i g e c,i<Hx.A->Hx.get i=some (.J g e c)->e≠179->H6.get i=Hx.get i:=fun i g e c h1 h2 h3=>by
  rw[hp6 i O (hB.lv.NJ h2 h3),o5.nb i O,o4.nb i h1]
 have hsl:=hB.nE;have gs6:=(k6 _ _ _ _ hsl hB.top ZG).trans hB.top;have ls6:=ae gs6;obtain⟨I2,hI2⟩:∃I2:Nat->Nat->Nat,I2=fun k j=>if k=n then (match j with|0=>Hx.A+4+1+1|1=>Hx.A|2=>Hx.A+1|3=>Hx.A+2|4=>Hx.A+3|_=>Hx.A+4+1) else I k j:=⟨_,rfl⟩
 have hIo:∀k j,k≠n->I2 k j=I k j:=fun k j h=>by rw[hI2];simp only;rw[Vx h]
 have hIn:∀j,I2 n j=(match j with|0=>Hx.A+4+1+1|1=>Hx.A|2=>Hx.A+1|3=>Hx.A+2|4=>Hx.A+3|_=>Hx.A+4+1):=fun j=>by rw[hI2];exact VA rfl
 have hInr:∀j,Hx.A<=I2 n j/\I2 n j<Hx.A+7:=fun j=>by rw[hIn];split<;>omega
 clear hI2;have lvL:∀i,Hx.A<=i->∀g m,lvh≠.U i g 0 m 1:=fun i hi g m hv=>by
  rcases hB.lv with ⟨h1,_⟩|⟨i2,g2,_,h2,h3,_⟩
  ·rw[h1]at hv;cases hv
  ·rw[h3]at hv;have:=(ZK.U.inj hv).1;omega
 have new6:∀i,Hx.A<=i->i<H5.A->H6.get i=H5.get i:=fun i h1 h2=>hp6 i h2 (lvL i h1);obtain⟨H7,hH7⟩:∃H7,H7=H6.upd H1.A (.J 0 178 [.lit (.int .i64 d.X),.Q d.C.length (aG d.C),.lit (.int .u64 (d.Y:Int)),.Q d.nn.length (bj d.nn),lv2,ah (dL d),ah (cP d),.lit (.int .i64 0)]):=⟨_,rfl⟩
 have n7:H7.A=H6.A:=by rw[hH7,aA]
 have o7:∀i,i≠H1.A->H7.get i=H6.get i:=fun i h=>by rw[hH7,af,Vx h]
 have g7:H7.get H1.A=some (.J 0 178 [.lit (.int .i64 d.X),.Q d.C.length (aG d.C),.lit (.int .u64 (d.Y:Int)),.Q d.nn.length (bj d.nn),lv2,ah (dL d),ah (cP d),.lit (.int .i64 0)]):=by rw[hH7,af,VA rfl]
 have old7:∀k j g e c,k<n->j<6->Hx.get (I k j)=some (.J g e c)->e≠179->H7.get (I k j)=Hx.get (I k j):=fun k j g e c h1 h2 h3 h4=>by
  rw[o7 _ fun e=>hB.sep k j h1 h2 e.symm];exact k6 _ _ _ _ (hB.ng.nk k j h1 h2).2 h3 h4
 have new7:∀i,Hx.A<=i->i<H5.A->H7.get i=H5.get i:=fun i h1 h2=>by rw[o7 i O];exact new6 i h1 h2
 have jt:∀k j,1<=j->∃g e c,dO (jo (aw d r) (q8 (aw d r)) (fg (aw d r)) 0) k j=.J g e c/\e≠179:=fun k j hj=>by
  match j,hj with
  |1,_=>exact⟨_,_,_,rfl,ZG⟩
  |2,_=>exact⟨_,_,_,rfl,ZG⟩
  |3,_=>exact⟨_,_,_,rfl,ZG⟩
  |4,_=>exact⟨_,_,_,rfl,ZG⟩
  |(j+5),_=>exact⟨_,_,_,rfl,ZG⟩
 have z0:∀m:Nat,ints (List.replicate m 0)=List.replicate m (.lit (.int .i64 0)):=fun m=>by simp[ints,aa]
 have levs7:nna (aw d r) r H3.A (n+1) I2 (jo (aw d r) (q8 (aw d r)) (fg (aw d r)) 0) H7:=by
  refine⟨fun k j k' j' h1 h2 h3 h4 he=>?_,fun k j h1 h2=>?_,fun k h1=>?_,fun k j h1 h2 h3=>?_,FU (fun k _=>by simp[q8]) (fun k _=>by simp[fg]) 0⟩
  ·by_cases a1:k=n
   ·by_cases a2:k'=n
    ·refine⟨O,?_⟩;rw[a1,a2,hIn,hIn]at he
     match j,h3,j',h4 with
     |0,_,0,_=>rfl
     |0,_,1,_=>exact absurd he (by simp only;omega)
     |0,_,2,_=>exact absurd he (by simp only;omega)
     |0,_,3,_=>exact absurd he (by simp only;omega)
     |0,_,4,_=>exact absurd he (by simp only;omega)
     |0,_,5,_=>exact absurd he (by simp only;omega)
     |1,_,0,_=>exact absurd he (by simp only;omega)
     |1,_,1,_=>rfl
     |1,_,2,_=>exact absurd he (by simp only;omega)
     |1,_,3,_=>exact absurd he (by simp only;omega)
     |1,_,4,_=>exact absurd he (by simp only;omega)
     |1,_,5,_=>exact absurd he (by simp only;omega)
     |2,_,0,_=>exact absurd he (by simp only;omega)
     |2,_,1,_=>exact absurd he (by simp only;omega)
     |2,_,2,_=>rfl
     |2,_,3,_=>exact absurd he (by simp only;omega)
     |2,_,4,_=>exact absurd he (by simp only;omega)
     |2,_,5,_=>exact absurd he (by simp only;omega)
     |3,_,0,_=>exact absurd he (by simp only;omega)
     |3,_,1,_=>exact absurd he (by simp only;omega)
     |3,_,2,_=>exact absurd he (by simp only;omega)
     |3,_,3,_=>rfl
     |3,_,4,_=>exact absurd he (by simp only;omega)
     |3,_,5,_=>exact absurd he (by simp only;omega)
     |4,_,0,_=>exact absurd he (by simp only;omega)
     |4,_,1,_=>exact absurd he (by simp only;omega)
     |4,_,2,_=>exact absurd he (by simp only;omega)
     |4,_,3,_=>exact absurd he (by simp only;omega)
     |4,_,4,_=>rfl
     |4,_,5,_=>exact absurd he (by simp only;omega)
     |5,_,0,_=>exact absurd he (by simp only;omega)
     |5,_,1,_=>exact absurd he (by simp only;omega)
     |5,_,2,_=>exact absurd he (by simp only;omega)
     |5,_,3,_=>exact absurd he (by simp only;omega)
     |5,_,4,_=>exact absurd he (by simp only;omega)
     |5,_,5,_=>rfl
    ·rw[a1,hIo k' j' a2]at he;have:=(hB.ng.nk k' j' O h4).2;have:=hInr j;omega
   ·by_cases a2:k'=n
    ·rw[a2,hIo k j a1]at he;have:=(hB.ng.nk k j O h3).2;have:=hInr j';omega
    ·rw[hIo k j a1,hIo k' j' a2]at he;exact hB.ng.inj k j k' j' O O h3 h4 he
  ·by_cases a1:k=n
   ·rw[a1];have:=hInr j;have:=hB.nE;omega
   ·rw[hIo k j a1];have:=hB.ng.nk k j O h2;omega
  ·by_cases a1:k=n
   ·rw[a1,hIn];simp only;rw[new7 _ O O,b6];unfold iq;rw[hvd,<- hD,<- hcN,<- hcD,<- hcE,hIn,hIn,hIn,hIn,hIn];rfl
   ·rw[hIo k 0 a1,old7 k 0 _ _ _ O O (hB.ng.nB k O) ZG,hB.ng.nB k O];unfold iq;rw[hIo k 1 a1,hIo k 2 a1,hIo k 3 a1,hIo k 4 a1,hIo k 5 a1]
  ·by_cases a1:k=n
   ·rw[a1,hIn]
    match j,h2,h3 with
    |1,_,_ =>
     show H7.get Hx.A=some (.J 0 _ (ints (List.replicate ((aw d r).cs n) 0)));rw[new7 _ O O,o5.nb _ O,b0,z0,<- hD,<- hcN]
    |2,_,_ =>
     show H7.get (Hx.A+1)=some (.J 0 _ (dm (List.replicate ((aw d r).cs n) false)));rw[new7 _ O O,o5.nb _ O,b1,<- hD,<- hcN];simp[dm]
    |3,_,_ =>
     show H7.get (Hx.A+2)=some (.J 0 _ (ints (List.replicate ((aw d r).cs n*(aw d r).cd n) 0)));rw[new7 _ O O,o5.nb _ O,b2,z0,<- hD,<- hcN,<- hcD,<- hcE]
    |4,_,_ =>
     show H7.get (Hx.A+3)=some (.J 0 _ (ints (List.replicate ((aw d r).cs n) 0)));rw[new7 _ O O,o5.nb _ O,b3,z0,<- hD,<- hcN]
    |5,_,_ =>
     show H7.get (Hx.A+4+1)=some (.J 0 _ (ints (List.replicate ((aw d r).cs n) (-1))));rw[new7 _ O O,b5,<- hD,<- hcN]
   ·have h9:=hB.ng.ny k j O h2 h3;obtain⟨g,e,c,h8,h7⟩:=jt k j h2;rw[hIo k j a1,old7 k j g e c O h3 (by rw[h9,h8]) h7,h9]
 have hpt:jL I2 (n+1)=jL I n++[.M (Hx.A+4+1+1) 0 0]:=by
  unfold jL;rw[Wy,Wk];congr 1
  ·exact V1 fun k hk=>by rw[hIo k 0 (by have:=VP.1 hk;omega)]
  ·simp only[List.map_cons,List.map_nil];rw[hIn];rfl
 have hB7:BldH d r H3.A H1.A (n+1) lv2 I2 H7:=by
  refine⟨g7,O,?_,fun k j h1 h2=>?_,fun id g m hv=>?_,levs7,fun h=>absurd h (Nat.succ_ne_zero n)⟩
  ·rw[hpt];refine oP.nc ZI O fun i g _ _ h3 _=>o7 i ?_;rintro rfl;rw[gs6]at h3;cases h3
  ·by_cases a1:k=n
   ·rw[a1];have:=hInr j;omega
   ·rw[hIo k j a1];exact hB.sep k j O h2
  ·have hid:H6.get id=some (.J g 179 (jL I n++[.M (Hx.A+4+1+1) 0 0])):=by
    rcases oP with ⟨h1,_⟩|⟨i2,g2,_,_,h3,h4⟩
    ·rw[h1]at hv;cases hv
    ·rw[h3]at hv;obtain⟨e1,e2,_⟩:=ZK.U.inj hv;rw[<- e1,<- e2];exact h4
   have hid7:id≠H1.A:=by
    rintro rfl;rw[gs6]at hid;cases hid
   refine⟨hid7,fun k j h1 h2 he=>?_⟩;have h9:=(o7 id hid7).trans hid;rw[he]at h9
   match j,h2 with
   |0,_ =>
    rw[levs7.nB k h1]at h9;cases h9
   |(j+1),h2 =>
    rw[levs7.ny k (j+1) h1 O h2]at h9;obtain⟨g3,e3,c3,h8,h7⟩:=jt k (j+1) O;rw[h8]at h9;cases h9;exact h7 rfl
 have wn:=Vv ((n:Int)+1) O;have key:H3.A<=H7.A/\(∃(n_1:Nat) (lvh:ZK) (I:Nat->Nat->Nat),ZK.lit (.int .i64 ((n:Int)+1))=ZK.lit (.int .i64 (n_1:Int))/\n_1<=r.length/\H3.A<=H7.A/\(∀(i:Nat),i<H3.A->¬i=H1.A->H7.get i=H3.get i)/\BldH d r H3.A H1.A n_1 lvh I H7)/\r.length-((n:Int)+1).toNat<r.length-(iv (ρ 38)).toNat:=by
  refine⟨O,⟨n+1,lv2,I2,rfl,O,O,fun i h1 h2=>?_,hB7⟩,by rw[h38];simp only[aa,aZ];omega⟩;rw[o7 i h2,hp6 i O (hB.lv.ne h1),o5.nb i O,o4.nb i O,hout i h1 h2]
 rcases hB.lv with ⟨hv0,hv1⟩|⟨i3,g3',q1',q2',hv0,hv1⟩
 ·refine⟨by repeat' (first|refine And.intro ?_ ?_|(intro x hx;omega)),by repeat' (first|refine And.intro ?_ ?_|(intro x hx;omega)),by repeat' (first|refine And.intro ?_ ?_|(intro x hx;omega)),?_⟩;rw[hv0]at hA3;simp only[go_sem,hv0,CM,hA3,ls6,lv21,lv2c];refine⟨fun x hx=>O,?_⟩;refine W.vs ?_;simp only[go_sem,s38,wn];rw[hH7]at key;exact key
 ·rw[kG]at hv0;refine⟨by repeat' (first|refine And.intro ?_ ?_|(intro x hx;omega)),by repeat' (first|refine And.intro ?_ ?_|(intro x hx;omega)),by repeat' (first|refine And.intro ?_ ?_|(intro x hx;omega)),?_⟩;rw[hv0]at hA3;simp only[go_sem,hv0,CM,hA3,ls6,lv21,lv2c];refine⟨fun x hx=>O,?_⟩;refine W.vs ?_;simp only[go_sem,s38,wn];rw[hH7]at key;exact key
def Tp (l:List Bool)(hl:l.length<2 ^ 40)(ib g:Nat)(H:ZJ)(hg:H.get ib=some (.J g 4 (dm l)))(K:ZP->ZJ->Prop)(hK:∀i:Int,(0<=i↔l.contains true=true)->K (.ret (aa i)) H):
  ag prog G0 158 [.U ib g 0 l.length 1,.lit (.bool true)] H K:=by
 have lb:=ae hg;have ll:=ta l;have eb:∀a b:Bool,∀x y,bI prog .eql 4 x y (.lit (.bool a)) (.lit (.bool b))=some (.lit (.bool (a == b))):=fun a b x y=>Go.Proofs.R01.RQ Tryz.underlying4;refine ag.st (n:=19) (rs:=[.tmp 4]) func158 ?_;simp only[go_sem,lb];refine W.aP 524080 (by rfl) (fun ρ H'=>H'=H/\∃k:Nat,ρ 8=aa k/\k<=l.length/\∀j,j<k->l[j]?=some false) (fun ρ H=>l.length-(iv (ρ 8)).toNat) ?_ ?_
 ·simp only[go_sem];exact⟨0,rfl,O,fun j hj=>absurd hj (VN _)⟩
 rintro ρ H' ⟨rfl,k,h8,hk,hno⟩;refine W.vs ?_;by_cases hb:(k:Int)<l.length
 ·obtain⟨b,hkb⟩:=ao (l:=l) (i:=k) O;have gb:(dm l)[k]?=some (.lit (.bool b)):=by rw[xH,hkb];rfl
  have gbn:=aO gb;have w1:=Vv ((k:Int)+1) O;cases b with
  |true =>
   simp only[go_sem,h8,hb,lb,gb,eb];exact aq.mk ZI (hK k ⟨fun _=>by rw[Zk];exact an hkb,fun _=>O⟩)
  |false =>
   simp only[go_sem,h8,hb,lb,gb,eb,w1];refine⟨⟨k+1,rfl,O,fun j hj=>?_⟩,O⟩;rcases Xa (Xi hj) with h|h
   ·exact hno j h
   ·rw[h];exact hkb
 ·simp only[go_sem,h8,hb];refine aq.mk ZI (hK (-1) ⟨fun h=>O,fun h=>?_⟩);rw[Zk]at h;obtain⟨j,hj⟩:=VG.1 h;have:=hno j (by have:=aI hj;omega);rw[this]at hj;cases hj
def Tq (l:List Bool)(hl:l.length<2 ^ 40)(ib g:Nat)(H:ZJ)(hg:H.get ib=some (.J g 4 (dm l)))(K:ZP->ZJ->Prop)(hK:K (.ret (.lit (.bool (l.contains true)))) H):
  ag prog G0 142 [.U ib g 0 l.length 1,.lit (.bool true)] H K:=by
 refine ag.st (n:=9) (rs:=[.tmp 4]) func142 ?_;simp only[go_sem];refine au.Z (Tp l hl ib g H hg _ fun i hi=>⟨trivial,?_⟩);by_cases h0:0<=i
 ·simp only[go_sem,h0];rw[hi.1 h0]at hK;exact aq.mk ZI hK
 ·simp only[go_sem,h0];have:l.contains true=false:=by
   rw[<- X8];exact fun h=>h0 (hi.2 h)
  rw[this]at hK;exact aq.mk ZI hK
def fL (D:ZS)(T:ZV)(k m:Nat)(bad:List Bool):Nat->List Bool
 |0=>List.replicate m false
 |n+1=>if ((T.oc k).getD n false && !kH (D.cd k) n (T.ex k) (T.be k) (T.ch k) bad)=true then (fL D T k m bad n).set ((T.ab k).getD n 0).toNat true else fL D T k m bad n
def te (D:ZS)(T:ZV)(k m:Nat)(bad:List Bool)(n:Nat):(fL D T k m bad n).length=m:=by
 induction n with
 |zero=>simp[fL]
 |succ n ih=>unfold fL;split<;>simp[ih]
variable {T:ZV}
def FD {bad:List Bool}(b:Nat)(hb:b<m):∀n,((fL D T k m bad n).getD b false=true↔∃c,c<n/\((T.ab k).getD c 0).toNat=b/\(T.oc k).getD c false=true/\kH (D.cd k) c (T.ex k) (T.be k) (T.ch k) bad=false):=by
 intro n
 induction n with
 |zero=>simp[fL,VB,Wc,hb]
 |succ n ih =>
  unfold fL;by_cases h:((T.oc k).getD n false && !kH (D.cd k) n (T.ex k) (T.be k) (T.ch k) bad)=true
  ·rw[VA h];simp only[Wh,XA]at h;by_cases e:((T.ab k).getD n 0).toNat=b
   ·constructor
    ·intro _;exact⟨n,O,e,h.1,h.2⟩
    ·intro _;rw[VB,e,VQ (by rw[te];exact hb)];rfl
   ·rw[VB,Wa e,<- VB,ih];constructor
    ·rintro⟨c,h1,h2⟩;exact⟨c,O,h2⟩
    ·rintro⟨c,h1,h2,h3⟩;refine⟨c,?_,h2,h3⟩;rcases Xa (Xi h1) with h4|h4
     ·exact h4
     ·rw[h4]at h2;exact absurd h2 e
  ·rw[Vx h,ih];constructor
   ·rintro⟨c,h1,h2⟩;exact⟨c,O,h2⟩
   ·rintro⟨c,h1,h2,h3,h4⟩;refine⟨c,?_,h2,h3,h4⟩;rcases Xa (Xi h1) with h5|h5
    ·exact h5
    ·subst h5;exact absurd (by rw[h3,h4];rfl) h
def jn (D:ZS)(k:Nat):Nat:=if 0<k then D.cs (k-1)*D.cd (k-1) else 1
def iI (D:ZS)(T:ZV):Nat->Nat->List Bool
 |0,k=>List.replicate (D.cs k*D.cd k) false
 |n+1,k=>fL D T (k+1) (D.cs k*D.cd k) (iI D T n (k+1)) (D.cs (k+1))
def Tr (D:ZS)(T:ZV)(n k:Nat):(iI D T n k).length=D.cs k*D.cd k:=by
 cases n with
 |zero=>simp[iI]
 |succ n=>exact te ..
def kI (T:ZV):Ch:=fun k c=>if (T.ch k).getD c 0=-1 then none else some ((T.ch k).getD c 0).toNat
def lK (T:ZV)(tot:Int):Z3 where
 nw k c:=((T.ab k).getD c 0).toNat
 nK k c:=(T.oc k).getD c false
 E k b:=(T.ex k).getD b 0
 B k c:=(T.be k).getD c 0
 T:=tot
structure ZV.Rng (D:ZS)(T:ZV):Prop where
 ab:∀k c,0<k->k<D.K->c<D.cs k->0<=(T.ab k).getD c 0/\((T.ab k).getD c 0).toNat<D.cs (k-1)*D.cd (k-1)
 ch:∀k c,k<D.K->c<D.cs k->(T.ch k).getD c 0=-1\/0<=(T.ch k).getD c 0
def FE (hR:T.Rng D):∀(n k:Nat),k+1+n=D.K->∀c,c<D.cs k->kH (D.cd k) c (T.ex k) (T.be k) (T.ch k) (iI D T n k)=lh D (lK T tot) (kI T) (n+1) k c:=by
 intro n
 induction n with
 |zero =>
  intro k hk c hc;rw[Xl];rw[sI];unfold kH iF;rw[XT];have hm:=hR.ch k c O hc;constructor
  ·rintro⟨x,hx,h⟩;simp only[Wh,Wr,decide_eq_true_eq]at h;refine⟨x,VP.1 hx,h.1.1,fun c' _ _ _=>rfl,fun y hy=>?_⟩;unfold kI at hy;split at hy
   ·cases hy
   ·rename_i h9;rcases h.2 with h2|h2
    ·exact absurd h2 h9
    ·cases hy;omega
  ·rintro⟨x,hx,h1,_,h3⟩;refine⟨x,VP.2 hx,?_⟩;simp only[Wh,Wr,decide_eq_true_eq];refine⟨⟨h1,?_⟩,?_⟩
   ·unfold iI;rw[VB,Wc];split<;>rfl
   ·by_cases h9:(T.ch k).getD c 0=-1
    ·exact .inl h9
    ·right;have:=h3 _ (Vx h9);omega
 |succ n ih =>
  intro k hk c hc;rw[Xl];rw[sI];unfold kH iF;rw[XT];have hm:=hR.ch k c O hc;have hbd:∀x,x<D.cd k->((iI D T (n+1) k).getD (c*D.cd k+x) false=true↔∃c',c'<D.cs (k+1)/\(lK T tot).nw (k+1) c'=c*D.cd k+x/\(lK T tot).nK (k+1) c'=true/\lh D (lK T tot) (kI T) (n+1) (k+1) c'=false):=fun x hx=>by
   have hlt:c*D.cd k+x<D.cs k*D.cd k:=by
    have h3:(c+1)*D.cd k<=D.cs k*D.cd k:=We _ hc;rw[Wx,XJ]at h3;omega
   unfold iI;rw[FD _ hlt];constructor
   ·rintro⟨c',h1,h2,h3,h4⟩;exact⟨c',h1,h2,h3,by rw[<- ih (k+1) O c' h1];exact h4⟩
   ·rintro⟨c',h1,h2,h3,h4⟩;exact⟨c',h1,h2,h3,by rw[ih (k+1) O c' h1];exact h4⟩
  constructor
  ·rintro⟨x,hx,h⟩;simp only[Wh,Wr,decide_eq_true_eq,XA]at h;have hx':=VP.1 hx;refine⟨x,hx',h.1.1,fun c' h1 h2 h3=>?_,fun y hy=>?_⟩
   ·cases hal:lh D (lK T tot) (kI T) (n+1) (k+1) c' with
    |true=>rfl
    |false =>
     have:=(hbd x hx').2 ⟨c',h1,h2,h3,hal⟩;rw[h.1.2]at this;cases this
   ·unfold kI at hy;split at hy
    ·cases hy
    ·rename_i h9;rcases h.2 with h2|h2
     ·exact absurd h2 h9
     ·cases hy;omega
  ·rintro⟨x,hx,h1,h2,h3⟩;refine⟨x,VP.2 hx,?_⟩;simp only[Wh,Wr,decide_eq_true_eq,XA];refine⟨⟨h1,?_⟩,?_⟩
   ·rw[<- X8];intro h;obtain⟨c',a1,a2,a3,a4⟩:=(hbd x hx).1 h;rw[h2 c' a1 a2 a3]at a4;cases a4
   ·by_cases h9:(T.ch k).getD c 0=-1
    ·exact .inl h9
    ·right;have:=h3 _ (Vx h9);omega
def kJ (D:ZS)(T:ZV):Bool:=if D.K=0 then true else !(fL D T 0 1 (iI D T (D.K-1) 0) (D.cs 0)).contains true
def Ts (hR:T.Rng D)(h0:∀c,c<D.cs 0->((T.ab 0).getD c 0).toNat=0):kJ D T=true↔kB D (lK T tot) (kI T):=by
 unfold kJ kB;by_cases hK:D.K=0
 ·rw[VA hK];exact⟨fun _ h=>O,fun _=>rfl⟩
 rw[Vx hK];have hmem:(fL D T 0 1 (iI D T (D.K-1) 0) (D.cs 0)).contains true=true↔(fL D T 0 1 (iI D T (D.K-1) 0) (D.cs 0)).getD 0 false=true:=by
  have hl:=te D T 0 1 (iI D T (D.K-1) 0) (D.cs 0)
  match hsp:fL D T 0 1 (iI D T (D.K-1) 0) (D.cs 0),hl with
  | [a],_=>cases a<;>simp
 rw[XA,<- X8,hmem,FD 0 O];constructor
 ·intro h _ c hc ho;cases hal:lh D (lK T tot) (kI T) D.K 0 c with
  |true=>rfl
  |false =>
   refine absurd ⟨c,hc,h0 c hc,ho,?_⟩ h;rw[FE (tot:=tot) hR (D.K-1) 0 O c hc,show D.K-1+1=D.K by omega];exact hal
 ·rintro h ⟨c,h1,_,h3,h4⟩;have:=h O c h1 h3;rw[FE (tot:=tot) hR (D.K-1) 0 O c h1,show D.K-1+1=D.K by omega]at h4;rw[this]at h4;cases h4
def oM (D:ZS)(T:ZV)(j:Nat):List Bool:=fL D T j (jn D j) (iI D T (D.K-1-j) j) (D.cs j)
def Tt (h0:0<j)(hj:j<D.K):oM D T j=iI D T (D.K-1-(j-1)) (j-1):=by
 obtain⟨m,rfl⟩:∃m,j=m+1:=⟨j-1,O⟩
 have e:D.K-1-(m+1-1)=(D.K-1-(m+1))+1:=O
 rw[e];unfold oM jn;rw[VA h0,W0];rfl
def Tu (D:ZS)(T:ZV)(j:Nat):(oM D T j).length=jn D j:=te ..
def Tv (H:ZJ)(K:ZP->ZJ->Prop)(hK:K (.ret (.lit (.bool false))) H):ag prog G0 142 [.lit (.slice none 0 0),.lit (.bool true)] H K:=by
 have h1:ag prog G0 158 [.lit (.slice none 0 0),.lit (.bool true)] H fun r H'=>r=.ret (aa (-1))/\H'=H:=by
  refine ag.st (n:=19) (rs:=[.tmp 4]) func158 ?_;simp only[go_sem];refine W.aP 524080 (by rfl) (fun ρ H'=>H'=H/\ρ 8=aa 0) (fun ρ H=>0) ?_ ?_
  ·simp only[go_sem]
  rintro ρ H' ⟨rfl,h8⟩;refine W.vs ?_;simp only[go_sem,h8];exact aq.mk ZI ⟨rfl,rfl⟩
 refine ag.st (n:=9) (rs:=[.tmp 4]) func142 ?_;simp only[go_sem];refine au.Z (h1.mono fun rr H2 hrr=>?_);obtain⟨rfl,rfl⟩:=hrr;refine⟨trivial,?_⟩;simp only[go_sem];exact aq.mk ZI hK
def Tw (hrl:r.length<=64){s:Nat}(hsz:∀k,k<r.length->1<=(aw d r).cs k/\(aw d r).cs k<=1024/\1<=(aw d r).cd k/\(aw d r).cd k<=4/\(aw d r).cs k*(aw d r).cd k<=4096)(hR:T.Rng (aw d r))(h00:∀c,c<(aw d r).cs 0->((T.ab 0).getD c 0)=0)
  (H:ZJ) (hS:ZW d r lo s lvh I T tot H) (K:ZP->ZJ->Prop) (hK:K (.ret (.lit (.bool (kJ (aw d r) T)))) H):
  ag prog G0 119 [.M s 0 0] H K:=by
 refine ag.Z ⟨_,func119,rfl,rfl⟩ fun hcl=>?_;obtain⟨D,hD⟩:∃D,D=aw d r:=⟨_,rfl⟩
 have hDK:D.K=r.length:=by rw[hD];rfl
 rw[<- hD]at hsz hR h00 hK;have hB0:=hS.uY;refine ag.sw (n:=79) (rs:=[.tmp 2]) func119 ?_;refine W.sq ?_;simp only[go_sem];refine W.sq ?_;simp only[go_sem];obtain⟨H1,hH1⟩:∃H1,H1=ext H [.J 0 134 [.M s 0 0],.J 0 180 [.lit (.slice none 0 0)]]:=⟨_,rfl⟩
 have g0:=de hH1
 have g1:=gE hH1 1 rfl
 have n1:H1.A=H.A+2:=hH1▸rfl
 have o1:ZN H H1:=hH1▸.ext _ _
 have hform:H1=ext (ext H [.J 0 134 [.M s 0 0]]) [.J 0 180 [.lit (.slice none 0 0)]]:=by rw[hH1,cW];rfl
 try rw[<- hH1]
 try rw[<- hform]
 clear hH1 hform;have l0:=ae g0;refine W.en (fun E=>E 1=.M H.A 0 0 /\ E 3=.M (H.A+1) 0 0) (by simp only[go_sem]) fun E ⟨e1,e3⟩=>?_
 refine W.sq ?_;simp only[go_sem,e1,l0];refine au.Z (F1 s H1 _ ⟨trivial,?_⟩);simp only[go_sem];obtain⟨H2,hH2⟩:∃H2,H2=ext H1 [.J 0 134 [.M s 0 0]]:=⟨_,rfl⟩
 have n2:H2.A=H1.A+1:=hH2▸rfl
 have o2:ZN H1 H2:=hH2▸.ext _ _
 have gbx:=de hH2
 rw[<- hH2];clear hH2;refine W.env fun E2 hE2=>?_;have f1:E2 1=.M H.A 0 0:=by rw[hE2];simp only[go_sem,e1]
 have f3:E2 3=.M (H.A+1) 0 0:=by rw[hE2];simp only[go_sem,e3]
 have f10:E2 10=.Z 138 [] [.M H1.A 0 0]:=by rw[hE2];rfl
 clear hE2 e1 e3;have hS2:ZW d r lo s lvh I T tot H2:=hS.jM hB0 O fun i hi=>(o2.nb i O).trans (o1.nb i hi);have g02:=(o2.nb _ O).trans g0;have g12:=(o2.nb _ O).trans g1;refine W.jN (f:=138) (first:=[]) (cap:=[.M H1.A 0 0]) (by show E2 10=_;exact f10) (FZ d s H1.A r.length hrl)
  (fun k Hy=>H2.A<Hy.A/\(∀i,i<H2.A->i≠H.A+1->Hy.get i=H2.get i)/\(k=0/\Hy.get (H.A+1)=some (.J 0 180 [.lit (.slice none 0 0)])\/0<k/\∃ib,H2.A<ib/\ib<Hy.A/\Hy.get (H.A+1)=some (.J 0 180 [.U ib 0 0 (jn D (r.length-k)) 1])/\Hy.get ib=some (.J 0 4 (dm (oM D T (r.length-k))))))
  (fun _ _=>False)
  (fun k Hy h=>⟨(h.2.1 _ O O).trans gbx,_,_,(h.2.1 _ (by have:=hB0.1;omega) (by have:=hB0.1;omega)).trans hS2.top,(hS2.jM hB0 O fun i hi=>h.2.1 i O O).len⟩)
  (fun k Hy b h=>⟨h.1,fun i h1 h2=>by rw[af,Vx O];exact h.2.1 i h1 h2,by
   rcases h.2.2 with ⟨h1,h2⟩|⟨h1,ib,h2,h3,h4,h5⟩
   ·exact .inl ⟨h1,by rw[af,Vx O];exact h2⟩
   ·exact .inr ⟨h1,ib,h2,h3,by rw[af,Vx O];exact h4,by rw[af,Vx O];exact h5⟩⟩)
  (fun _ _ _ h=>h)
  (fun b=>⟨by rw[aM];simp,fun i h1 _=>aX h1,.inl ⟨rfl,by rw[aX O];exact g12⟩⟩)
  ZG (fun x hx=>by rw[FY x hx];rfl) (fun _ _ _=>trivial) (fun _ _ _=>trivial) (fun k y Hy B Bb hy hj hn hBq hBb=>?_) (fun Hy hj hn=>?_) (fun _ hs _=>hs.elim) (fun _ _ hs _=>hs.elim)
 ·obtain⟨hk,rfl⟩:=FX hy;obtain⟨kk,hkk⟩:∃kk,kk=r.length-1-k:=⟨_,rfl⟩
  have e1:(r.length:Int)-1-(k:Int)=(kk:Int):=O
  have e2:r.length-k=kk+1:=O
  have e3:r.length-(k+1)=kk:=O
  have hkl:kk<r.length:=O
  rw[e1];rw[e2]at hj;rw[e3];refine W.vs ?_;simp only[go_sem,eZ,bb,fO,V6,Ws,V7,Wb,hBq];obtain⟨H3,hH3⟩:∃H3,H3=Hy.upd H2.A Bb:=⟨_,rfl⟩
  rw[<- hH3];obtain⟨st,pd,n',en,ps',as',bo,hBe⟩:=hBb;have n3:H3.A=Hy.A:=by rw[hH3];rfl
  have o3:∀id,id≠H2.A->H3.get id=Hy.get id:=fun id h=>by rw[hH3,af,Vx h]
  have jB:H3.get H2.A=some Bb:=by rw[hH3,af,VA rfl]
  clear hH3;have old3:∀i,i<H2.A->i≠H.A+1->H3.get i=H2.get i:=fun i h1 h2=>(o3 i O).trans (hj.2.1 i h1 h2);have hS3:ZW d r lo s lvh I T tot H3:=hS2.jM hB0 O fun i hi=>old3 i O O;have lp3:=ae ((old3 H.A O O).trans g02);have ls3:=ae hS3.top;obtain⟨il,gl,hlv,glv,_,_⟩:=hS3.xI hkl;have llv:=ae glv;have lk:=ae (hS3.ng.nB kk hkl);rw[<- hD]at lk;simp only[iq]at lk;have hpk:=uS (I:=I) hkl;have hpn:=aO hpk;have hpl:=kG I r.length;have hki:(kk:Int)<r.length:=O
  refine W.en (fun E3=>E3 1=.M H.A 0 0 /\ E3 3=.M (H.A+1) 0 0 /\ E3 4=aa kk) (by simp only[go_sem,bb,f1,f3]) fun E3 ⟨m1,m3,m4⟩=>?_
  refine W.block ?_;refine W.sq ?_;simp only[go_sem,m1,m4,lp3,ls3,hlv,llv,hpk,hki];obtain⟨cs1,cs2,cd1,cd2,csd⟩:=hsz kk hkl;obtain⟨cE,hcE⟩:∃cE,cE=D.cs kk*D.cd kk:=⟨_,rfl⟩
  rw[<- hcE]at csd lk;have hexl:(T.ex kk).length=cE:=by rw[hS3.ng.len.ex kk hkl,<- hD,<- hcE]
  have l3t:H3.V (I kk 3) 0=some (3,ints (T.ex kk)):=ae (hS3.ng.ny kk 3 hkl O O);have ll3:(ints (T.ex kk)).length=cE:=by rw[aR];exact hexl
  refine W.en (fun E4=>E4 1=.M H.A 0 0 /\ E4 3=.M (H.A+1) 0 0 /\ E4 4=aa kk /\ E4 5=.M (I kk 0) 0 0) (by simp only[go_sem,m1,m3,m4]) fun E4 ⟨q1,q3,q4,q5⟩=>?_
  have hcE0:(0:Int)<=cE:=O
  have g3sv:H3.get (H.A+1)=Hy.get (H.A+1):=o3 _ O;obtain⟨Φ,hΦ⟩:∃ Φ:St->Prop,∀s',Φ s'↔(s'.ρ 1=.M H.A 0 0/\s'.ρ 3=.M (H.A+1) 0 0/\s'.ρ 4=aa kk/\s'.ρ 5=.M (I kk 0) 0 0/\H3.A<=s'.H.A/\(∀i,i<H3.A->s'.H.get i=H3.get i)/\∃ibd,s'.ρ 6=.U ibd 0 0 cE 1/\H2.A<ibd/\ibd<s'.H.A/\s'.H.get ibd=some (.J 0 4 (dm (iI D T (D.K-1-kk) kk)))):=⟨_,fun _=>Iff.rfl⟩
  refine W.lZ (fun s'=>s'.H=H3/\s'.ρ 1=.M H.A 0 0/\s'.ρ 3=.M (H.A+1) 0 0/\s'.ρ 4=aa kk/\s'.ρ 5=.M (I kk 0) 0 0/\(k=0/\s'.ρ 6=.lit (.slice none 0 0)\/0<k/\∃ib,H2.A<ib/\ib<H3.A/\s'.ρ 6=.U ib 0 0 (jn D (kk+1)) 1/\H3.get ib=some (.J 0 4 (dm (oM D T (kk+1)))))) ?_ ?_
  ·refine W.vs ?_;rcases hj.2.2 with ⟨hk0,hsv⟩|⟨hk0,ib,i1,i2,i3,i4⟩
   ·have lsv:=ae (g3sv.trans hsv);simp only[go_sem,q1,q3,q4,q5,lsv];exact .inl hk0
   ·have lsv:=ae (g3sv.trans i3);simp only[go_sem,q1,q3,q4,q5,lsv];exact⟨hk0,ib,i1,O,rfl,(o3 ib O).trans i4⟩
  rintro⟨ρ5,Hq⟩ ⟨hHq,r1,r3,r4,r5,hsp⟩;simp only at hHq r1 r3 r4 r5 hsp;rw[hHq];clear hHq Hq q1 q3 q4 q5;refine W.lZ Φ ?_ ?_
  ·refine W.vs ?_;rcases hsp with ⟨hk0,r6⟩|⟨hk0,ib,i1,i2,r6,i4⟩
   ·have enil:∀x y,bI prog .eql 180 x y (.lit (.slice none 0 0)) (.lit (.slice none 0 0))=some (.lit (.bool true)):=fun x y=>by rfl
    simp only[go_sem,r5,r6,lk,l3t,hcE0,enil];refine⟨O,(hΦ _).2 ⟨by simp only[go_sem,r1],by simp only[go_sem,r3],by simp only[go_sem,r4],by simp only[go_sem,r5],XV _,fun i h=>aX h,H3.A,by simp only[go_sem],O,W3 _,?_⟩⟩;rw[cI,show D.K-1-kk=0 by omega];unfold iI;rw[<- hcE];simp[dm]
   ·have hbr:0<jn D (kk+1):=by
     unfold jn;rw[VA O,W0];exact Ys O (O)
    have lib:=ae i4;simp only[go_sem,r6,Cc,lib,hbr];intro b hb;subst hb;simp only[go_sem];have hbE:jn D (kk+1)=cE:=(by unfold jn;rw[VA O,W0,hcE]);have hsb:=Tt (D:=D) (T:=T) (j:=kk+1) O O;rw[W0]at hsb;exact(hΦ _).2 ⟨by simp only[go_sem,r1],by simp only[go_sem,r3],by simp only[go_sem,r4],by simp only[go_sem,r5],ZI,fun i h=>rfl,ib,by simp only[go_sem,r6,hbE],i1,i2,by rw[<- hsb];exact i4⟩
  rintro⟨ρ6,H4⟩ hΦ6;obtain⟨v1,v3,v4,v5,n4,o4,ibd,v6,d1,d2,d3⟩:=(hΦ _).1 hΦ6;simp only at v1 v3 v4 v5 n4 o4 v6 d2 d3;clear hΦ6 r1 r3 r4 r5 hsp;refine W.sq ?_;simp only[go_sem];have hS4:ZW d r lo s lvh I T tot H4:=hS3.jM hB0 n4 fun i hi=>o4 i O;have lp4:=ae ((o4 H.A O).trans ((old3 H.A O O).trans g02));have ls4:=ae hS4.top;have llv4:=ae ((o4 il (by have:=hB0.2.2 _ _ _ hlv;omega)).trans glv);refine W.lZ (fun s'=>s'.H=H4/\s'.ρ 3=.M (H.A+1) 0 0/\s'.ρ 4=aa kk/\s'.ρ 5=.M (I kk 0) 0 0/\s'.ρ 6=.U ibd 0 0 cE 1/\s'.ρ 7=aa (jn D kk)) ?_ ?_
  ·refine W.vs ?_;by_cases hk1:(0:Int)<kk
   ·have hk1':kk-1<r.length:=O;have hpk1:=uS (I:=I) hk1';have hpn1:=aO hpk1;have l14:=ae (hS4.ng.nB (kk-1) hk1');rw[<- hD]at l14;simp only[iq]at l14;have l1e:H4.V (I (kk-1) 3) 0=some (3,ints (T.ex (kk-1))):=ae (hS4.ng.ny (kk-1) 3 hk1' O O);have ll1:(ints (T.ex (kk-1))).length=D.cs (kk-1)*D.cd (kk-1):=(by rw[aR,hS4.ng.len.ex (kk-1) hk1',<- hD]);have w5:=Vv ((kk:Int)-1) O;have ek:(kk:Int)-1=((kk-1:Nat):Int):=O;rw[ek]at w5;have hk1i:((kk-1:Nat):Int)<r.length:=O;simp only[go_sem,v1,v3,v4,v5,v6,hk1,lp4,ls4,hlv,llv4,ek,w5,hk1i,hpk1,l14,l1e];have:jn D kk=D.cs (kk-1)*D.cd (kk-1):=VA O;rw[this]
   ·simp only[go_sem,v3,v4,v5,v6,hk1];have:jn D kk=1:=Vx O;rw[this];rfl
  rintro⟨ρ7,Hq⟩ ⟨hHq,x3,x4,x5,x6,x7⟩;simp only at hHq x3 x4 x5 x6 x7;rw[hHq];clear hHq Hq v1 v3 v4 v5 v6;obtain⟨bN,hbN⟩:∃bN,bN=jn D kk:=⟨_,rfl⟩
  rw[<- hbN]at x7;have hbN4:1<=bN/\bN<=4096:=by
   rw[hbN];unfold jn;split
   ·have:=hsz (kk-1) O;exact⟨Ys O O,this.2.2.2.2⟩
   ·exact⟨ZI,ZG⟩
  have hbN0:(0:Int)<=bN:=O
  obtain⟨svc,hsvc⟩:∃svc,H4.get (H.A+1)=some (.J 0 180 [svc]):=by
   rcases hj.2.2 with ⟨_,h2⟩|⟨_,ib,_,_,h4,_⟩
   ·exact⟨_,(o4 _ O).trans (g3sv.trans h2)⟩
   ·exact⟨_,(o4 _ O).trans (g3sv.trans h4)⟩
  have lsvE:∀L,(ext H4 L).V (H.A+1) 0=_:=fun L=>(ea O).trans (ae hsvc);refine W.sq ?_;simp only[go_sem,x3,x7,hbN0,lsvE];refine⟨O,?_⟩;obtain⟨H5,hH5⟩:∃H5,H5=(ext H4 [.J 0 4 (List.replicate bN (.lit (.bool false)))]).upd (H.A+1) (.J 0 180 [.U H4.A 0 0 bN 1]):=⟨_,rfl⟩
  rw[<- hH5];have n5:H5.A=H4.A+1:=by rw[hH5];rfl
  have o5:∀i,i<H4.A->i≠H.A+1->H5.get i=H4.get i:=fun i h1 h2=>by rw[hH5,af,Vx h2,aX h1]
  have b5:H5.get (H.A+1)=some (.J 0 180 [.U H4.A 0 0 bN 1]):=by rw[hH5,af,VA rfl]
  have c5:H5.get H4.A=some (.J 0 4 (dm (fL D T kk bN (iI D T (D.K-1-kk) kk) 0))):=by rw[hH5,af,Vx O,cI];simp[fL,dm]
  clear hH5;have hS5:ZW d r lo s lvh I T tot H5:=hS4.jM hB0 O fun i hi=>o5 i O O;have lk5:=ae (hS5.ng.nB kk hkl);rw[<- hD]at lk5;simp only[iq]at lk5;have lbe:H5.V (I kk 4) 0=some (3,ints (T.be kk)):=ae (hS5.ng.ny kk 4 hkl O O);have llb:(ints (T.be kk)).length=D.cs kk:=by rw[aR,hS5.ng.len.be kk hkl,<- hD]
  refine W.en (fun E7=>E7 3=.M (H.A+1) 0 0 /\ E7 4=aa kk /\ E7 5=.M (I kk 0) 0 0 /\ E7 6=.U ibd 0 0 cE 1) (by simp only[go_sem,x3,x4,x5,x6]) fun E7 ⟨y3,y4,y5,y6⟩=>?_
  clear x3 x4 x5 x6 x7;refine W.sq ?_;simp only[go_sem,y5,lk5,lbe];refine W.env fun E8 hE8=>?_;have z3:E8 3=.M (H.A+1) 0 0:=by rw[hE8];simp only[go_sem,y3]
  have z5:E8 5=.M (I kk 0) 0 0:=by rw[hE8];simp only[go_sem,y5]
  have z6:E8 6=.U ibd 0 0 cE 1:=by rw[hE8];simp only[go_sem,y6]
  have z48:E8 48=aa (D.cs kk):=by rw[hE8];simp only[go_sem]
  have z49:E8 49=aa 0:=by rw[hE8];simp only[go_sem]
  clear hE8 y3 y4 y5 y6;obtain⟨bad,hbad⟩:∃b,b=iI D T (D.K-1-kk) kk:=⟨_,rfl⟩
  rw[<- hbad]at d3 c5;have hbadl:bad.length=cE:=by rw[hbad,Tr,hcE]
  refine W.block ?_;refine W.aP 75557863162964369998080 (by rfl) (fun ρ Hz=>∃c:Nat,ρ 49=aa c/\c<=D.cs kk/\Hz.A=H5.A/\(∀i,i<H5.A->i≠H4.A->Hz.get i=H5.get i)/\Hz.get H4.A=some (.J 0 4 (dm (fL D T kk bN bad c)))) (fun ρ Hz=>D.cs kk-(iv (ρ 49)).toNat) ?_ ?_
  ·simp only[go_sem,z49];exact⟨0,rfl,O,c5⟩
  rintro ρ8 Hz ⟨c,h49,hc,nz,oz,gz⟩;have hSz:ZW d r lo s lvh I T tot Hz:=hS5.jM hB0 O fun i hi=>oz i O O;refine W.en (fun E9=>E9 3=.M (H.A+1) 0 0 /\ E9 5=.M (I kk 0) 0 0 /\ E9 6=.U ibd 0 0 cE 1 /\ E9 48=aa (D.cs kk) /\ E9 49=aa c) (by simp only[go_sem,z3,z5,z6,z48,h49]) fun E9 ⟨u3,u5,u6,u48,u49⟩=>?_
  have bz:=(oz (H.A+1) O O).trans b5;have dz:=(oz ibd O O).trans ((o5 ibd d2 O).trans d3);by_cases hb:(c:Int)<D.cs kk;rotate_left
  ·refine W.vs ?_;simp only[go_sem,u48,u49,hb,dE];have hcc:c=D.cs kk:=O;refine⟨?_,O,O,fun i h1 h2=>?_,O,H4.A,O,O,by rw[bz,hbN],?_⟩
   ·rw[oz _ O O,o5 _ O O,o4 _ O];exact jB
   ·rw[oz i O O,o5 i O h2,o4 i O];exact old3 i h1 h2
   ·rw[gz,hcc,hbad,hbN];rfl
  refine W.sq ?_;simp only[go_sem,u48,u49,hb];refine W.sq ?_;simp only[go_sem];refine W.seq (W.block ?_);refine W.sq ?_;simp only[go_sem,u49];have lzk:=ae (hSz.ng.nB kk hkl);rw[<- hD]at lzk;simp only[iq]at lzk;have lzo:Hz.V (I kk 2) 0=some (4,dm (T.oc kk)):=ae (hSz.ng.ny kk 2 hkl O O);have lzol:(T.oc kk).length=D.cs kk:=by rw[hSz.ng.len.oc kk hkl,<- hD]
  obtain⟨o,ho⟩:=ao (l:=T.oc kk) (i:=c) O;have go:(dm (T.oc kk))[c]?=some (.lit (.bool o)):=by rw[xH,ho];rfl
  have gon:=aO go;have llo:(dm (T.oc kk)).length=D.cs kk:=by rw[ta];exact lzol
  have wc:=Vv ((c:Int)+1) O;have hLz:=hSz.ng;rw[<- hD]at hLz;obtain⟨ab,hab⟩:∃b,b=kH (D.cd kk) c (T.ex kk) (T.be kk) (T.ch kk) bad:=⟨_,rfl⟩
  have hspn:fL D T kk bN bad (c+1)=if (o && !ab)=true then (fL D T kk bN bad c).set ((T.ab kk).getD c 0).toNat true else fL D T kk bN bad c:=by
   show (if ((T.oc kk).getD c false && !kH (D.cd kk) c (T.ex kk) (T.be kk) (T.ch kk) bad)=true then _ else _)=_;rw[iH ho,<- hab]
  refine W.lZ (fun s'=>s'.H=Hz/\s'.ρ 3=.M (H.A+1) 0 0/\s'.ρ 5=.M (I kk 0) 0 0/\s'.ρ 8=aa c/\s'.ρ 49=aa c/\s'.ρ 65=.lit (.bool (o && !ab))) ?_ ?_
  ·refine W.vs ?_;cases o with
   |false =>
    simp only[go_sem,u3,u5,u49,lzk,lzo,go,hb]
    try rfl
   |true =>
    simp only[go_sem,u5,u6,lzk,lzo,go,hb];rw[hcE];refine au.Z (Tk (D:=D) hkl O O O ibd 0 bad (by rw[hbadl,hcE]) Hz hLz dz _ ⟨?_,?_⟩)
    ·exact⟨st,pd,n',en,ps',as',bo,by rw[oz _ O O,o5 _ O O,o4 _ O,jB,hBe]⟩
    ·rw[<- hab];cases hq:ab
     ·simp only[go_sem];exact⟨u3,u5,u49⟩
     ·simp only[go_sem];exact⟨u3,u5,u49,rfl⟩
  rintro⟨ρ9,Hq⟩ ⟨hHq,p3,p5,p8,p49,p65⟩;simp only at hHq p3 p5 p8 p49 p65;rw[hHq];clear hHq Hq u3 u5 u6 u48 u49;have hlz:Hz.get H2.A=some (.loop st pd n' en ps' as' bo):=by rw[oz _ O O,o5 _ O O,o4 _ O,jB,hBe]
  cases hfl:(o && !ab) with
  |false =>
   rw[hfl]at p65 hspn;rw[Vx ZG]at hspn;refine W.cond (t:=false) p65 ?_;refine W.vs ?_;simp only[go_sem];refine W.vs ?_;simp only[go_sem,p49,wc];exact⟨O,⟨st,pd,n',en,ps',as',bo,hlz⟩,⟨c+1,rfl,O,nz,oz,by rw[hspn];exact gz⟩,by rw[h49];simp only[aa,aZ];omega⟩
  |true =>
   rw[hfl]at p65 hspn;rw[VA rfl]at hspn;refine W.cond (t:=true) p65 ?_;have lza:Hz.V (I kk 1) 0=some (3,ints (T.ab kk)):=ae (hSz.ng.ny kk 1 hkl O O);have lzal:(T.ab kk).length=D.cs kk:=(by rw[hSz.ng.len.ab kk hkl,<- hD]);obtain⟨av,hav⟩:=ao (l:=T.ab kk) (i:=c) O;have hav2:=iH (z:=0) hav;have hrng:0<=av/\av.toNat<bN:=by
    rw[<- hav2,hbN];unfold jn;by_cases hk1:0<kk
    ·rw[VA hk1];exact hR.ab kk c hk1 O (O)
    ·have h0:kk=0:=O;rw[Vx hk1,h0];have:=h00 c (by rw[<- h0];omega);omega
   obtain⟨aN,rfl⟩:=VE hrng.1;have ga:(ints (T.ab kk))[c]?=some (aa aN):=(by rw[fa,hav];rfl);have gan:=aO ga;have lla:(ints (T.ab kk)).length=D.cs kk:=(by rw[aR];exact lzal);have lbz:=ae bz;have lgz:=ae gz;have llz:(dm (fL D T kk bN bad c)).length=bN:=(by rw[ta,te]);have aNi:(aN:Int)<bN:=O;have es:setAt (dm (fL D T kk bN bad c)) aN [.lit (.bool true)]=dm (fL D T kk bN bad (c+1)):=by
    rw[Fy (by rw[te];omega),hspn,hav2];rfl
   refine W.dr 8 [0,0,2,6,14,0,62,126] mixed ?_;simp only[go_sem,p3,p5,p8,lbz,lgz,llz,lzk,lza,ga,hb,aNi,es];refine⟨O,?_⟩;refine W.vs ?_;simp only[go_sem,p49,wc];exact⟨by rw[aA];omega,⟨st,pd,n',en,ps',as',bo,by rw[af,Vx O];exact hlz⟩,⟨c+1,rfl,O,by rw[aA];exact nz,fun i h1 h2=>by rw[af,Vx h2];exact oz i h1 h2,by rw[af,VA rfl]⟩,by rw[h49];simp only[aa,aZ];omega⟩
 ·simp only[go_sem];have hov:ZN H Hy:=⟨O,fun i hi=>by rw[hj.2.1 i O O,o2.nb i O,o1.nb i hi]⟩
  rw[xQ]at hj;rcases hj.2.2 with ⟨h1,h2⟩|⟨h1,ib,h2,h3,h4,h5⟩
  ·have lsv:=ae h2;refine W.vs ?_;simp only[go_sem,f3,lsv];refine au.Z (Tv _ _ ⟨trivial,?_⟩);simp only[go_sem];have:kJ D T=true:=(by unfold kJ;rw[VA O]);rw[this]at hK;exact aq.bC aJ hcl hov (.lit _) hK
  ·rw[XC]at h4 h5;have lsv:=ae h4;have hb0:jn D 0=1:=Vx O;have hl:=Tu D T 0;rw[<- hl]at lsv;refine W.vs ?_;simp only[go_sem,f3,lsv];refine au.Z (Tq (oM D T 0) (by rw[hl,hb0];decide) ib 0 Hy h5 _ ⟨trivial,?_⟩);have hfe:kJ D T=!(oM D T 0).contains true:=by
    unfold kJ oM;rw[Vx O,hb0];rfl
   rw[hfe]at hK;cases hcb:(oM D T 0).contains true with
   |true =>
    rw[hcb]at hK;simp only[go_sem];exact aq.bC aJ hcl hov (.lit _) hK
   |false =>
    rw[hcb]at hK;simp only[go_sem];exact aq.bC aJ hcl hov (.lit _) hK
def dD (T:ZV)(k c:Nat)(x:Nat):ZV:={ T with ch:=fq T.ch k ((T.ch k).set c (x:Int)) }
def q9 (D:ZS)(T:ZV)(k c:Nat):Nat:=jj (fun x=>kJ D (dD T k c x)) (D.cd k-1) 0
def kd (D:ZS)(T:ZV)(k:Nat):Nat->ZV
 |0=>T
 |n+1=>dD (kd D T k n) k n (q9 D (kd D T k n) k n)
def tf (T:ZV)(k c x:Nat):(dD T k c x).ch k=(T.ch k).set c (x:Int):=lJ ..
def FF (T:ZV)(k c x k' c':Nat)(hc:c<(T.ch k).length):((dD T k c x).ch k').getD c' 0=if k'=k/\c'=c then (x:Int) else (T.ch k').getD c' 0:=by
 unfold dD;simp only;by_cases e:k'=k
 ·subst e;rw[lJ,pV _ _ _ _ _ hc];by_cases e2:c=c'
  ·rw[VA e2,VA ⟨rfl,e2.symm⟩]
  ·rw[Vx e2,Vx fun h=>e2 h.2.symm]
 ·rw[j9 e,Vx fun h=>e h.1]
def FG (hc:c<(T.ch k).length):kI (dD T k c x)=lu (kI T) k c x:=by
 funext k' c'
 unfold kI;rw[FF _ _ _ _ _ _ hc];by_cases h:k'=k/\c'=c
 ·rw[VA h,h.1,h.2,oF,Vx O];simp
 ·rw[Vx h,oG h]
def xJ (hR:T.Rng D)(hc:c<(T.ch k).length):(dD T k c x).Rng D :=
 ⟨hR.ab,fun k' c' h1 h2=>by
  rw[FF _ _ _ _ _ _ hc];split
  ·right;omega
  ·exact hR.ch k' c' h1 h2⟩
def xK (hl:T.Len D n)(k c x:Nat):(dD T k c x).Len D n :=
 ⟨hl.ab,hl.oc,hl.ex,hl.be,fun k' h=>by
  unfold dD;simp only;by_cases e:k'=k
  ·rw[e,lJ,VW,<- e];exact hl.ch k' h
  ·rw[j9 e];exact hl.ch k' h⟩
def FH {f g:Nat->Bool}:∀n x,(∀y,x<=y->y<x+n->f y=g y)->jj f n x=jj g n x:=by
 intro n
 induction n with
 |zero=>intro x _;rfl
 |succ n ih =>
  intro x h;unfold jj;rw[h x ZI O,ih (x+1) fun y h1 h2=>h y O O]
def Tx (hR:T.Rng D)(h0:∀c,c<D.cs 0->((T.ab 0).getD c 0).toNat=0)(hc:c<(T.ch k).length):q9 D T k c=jk D (lK T tot) (kI T) k c:=by
 unfold q9 jk;refine FH _ _ fun y _ _=>?_;have h1:=Ts (D:=D) (T:=dD T k c y) (tot:=tot) (xJ hR hc) h0;rw[FG hc]at h1;have h2:lK (dD T k c y) tot=lK T tot:=rfl;rw[h2]at h1;rw[Xl,h1,uH]
def Ty {f:Nat->Bool}(h1:∀y,y<x->f y=false)(h2:x<=n)(h3:x<n->f x=true):jj f n 0=x:=by
 obtain⟨_,a2,a3,a4⟩:=EO f n 0;rcases Xh (jj f n 0) x with h|h|h
 ·have:=a4 O;rw[h1 _ h]at this;cases this
 ·exact h
 ·have:=h3 O;rw[a3 x (WO _) h]at this;cases this
def uT (H:ZJ)(i c:Nat):Nat:=match H.get i with
 |some (.J _ _ cells)=>match cells[c]? with
  |some (.lit (.int _ z))=>z.toNat
  |_=>0
 |_=>0
def FI (D:ZS)(T:ZV)(k:Nat):∀n,(kd D T k n).ab=T.ab:=by
 intro n
 induction n with
 |zero=>rfl
 |succ n ih=>exact ih
def FJ (hl:T.Len D m)(k:Nat):∀n,(kd D T k n).Len D m:=by
 intro n
 induction n with
 |zero=>exact hl
 |succ n ih=>exact xK ih _ _ _
def FK (hl:T.Len D m)(hR:T.Rng D)(hk:k<m):∀n,n<=D.cs k->(kd D T k n).Rng D:=by
 intro n
 induction n with
 |zero=>intro _;exact hR
 |succ n ih=>intro hn;exact xJ (ih O) (by rw[(FJ hl k n).ch k hk];omega)
def Tz (hrl:r.length<=64){s:Nat}(hsz:∀k,k<r.length->1<=(aw d r).cs k/\(aw d r).cs k<=1024/\1<=(aw d r).cd k/\(aw d r).cd k<=4/\(aw d r).cs k*(aw d r).cd k<=4096)(hR:T.Rng (aw d r))(h00:∀c,c<(aw d r).cs 0->((T.ab 0).getD c 0)=0)(hk:k<r.length)
  (bx:Nat) (H:ZJ) (hbx:H.get bx=some (.J 0 134 [.M s 0 0])) (hbl:bx<H.A) (hbs:bx≠s/\∀k j,k<r.length->j<6->bx≠I k j) (hS:ZW d r lo s lvh I T tot H) (K:ZP->ZJ->Prop)
  (hK:∀H',H'.A=H.A->kK r s I H H'->ZW d r lo s lvh I (kd (aw d r) T k ((aw d r).cs k)) tot H'->K (.ret (.U (I k 5) 0 0 ((aw d r).cs k) 1)) H'):
  ag prog G0 118 [.M (I k 0) 0 0,.M bx 0 0] H K:=by
 obtain⟨D,hD⟩:∃D,D=aw d r:=⟨_,rfl⟩
 have lk:=ae (hS.ng.nB k hk);rw[<- hD]at lk;simp only[iq]at lk;have l5:H.V (I k 5) 0=some (3,ints (T.ch k)):=ae (hS.ng.ny k 5 hk O O);have ll5:(ints (T.ch k)).length=D.cs k:=by rw[aR,hS.ng.len.ch k hk,<- hD]
 refine ag.sw (n:=51) (rs:=[.tmp 3]) func118 ?_;refine W.sq ?_;simp only[go_sem];refine W.sq ?_;simp only[go_sem,lk,l5];refine W.en (fun E=>E 0=.M (I k 0) 0 0 /\ E 1=.M bx 0 0 /\ E 9=aa (D.cs k) /\ E 10=aa 0) (by simp only[go_sem]) fun E ⟨e0,e1,e9,e10⟩=>?_
 try refine W.block ?_
 refine W.aP 140737488354320 (by rfl) (fun ρ Hx=>∃c:Nat,ρ 10=aa c/\c<=D.cs k/\Hx.A=H.A/\kK r s I H Hx/\ZW d r lo s lvh I (kd D T k c) tot Hx) (fun ρ Hx=>D.cs k-(iv (ρ 10)).toNat) ?_ ?_
 ·simp only[go_sem,e10];exact⟨0,rfl,O,fun _ _ _=>rfl,hS⟩
 rintro ρ Hx ⟨c,h10,hc,nx,hout,hSx⟩;obtain⟨Tc,hTc⟩:∃Tc,Tc=kd D T k c:=⟨_,rfl⟩
 rw[<- hTc]at hSx;have lxk:=ae (hSx.ng.nB k hk);rw[<- hD]at lxk;simp only[iq]at lxk;have lx5:Hx.V (I k 5) 0=some (3,ints (Tc.ch k)):=ae (hSx.ng.ny k 5 hk O O);have lxl:=hSx.ng.len.ch k hk;rw[<- hD]at lxl;have ll:=aR (Tc.ch k);rw[lxl]at ll;refine W.en (fun E1=>E1 0=.M (I k 0) 0 0 /\ E1 1=.M bx 0 0 /\ E1 9=aa (D.cs k) /\ E1 10=aa c) (by simp only[go_sem,e0,e1,e9,h10]) fun E1 ⟨f0,f1,f9,f10⟩=>?_
 by_cases hb:(c:Int)<D.cs k;rotate_left
 ·refine W.vs ?_;simp only[go_sem,f9,f10,hb];have hcc:c=D.cs k:=O
  refine W.vs ?_;simp only[go_sem,f0,lxk];rw[hTc,hcc,hD]at hSx;rw[hD];exact aq.mk O (hK Hx nx hout hSx)
 refine W.sq ?_;simp only[go_sem,f9,f10,hb];refine W.sq ?_;simp only[go_sem];refine W.seq (W.block ?_);refine W.sq ?_;simp only[go_sem,f10];have es:setAt (ints (Tc.ch k)) c [.lit (.int .i64 0)]=ints ((dD Tc k c 0).ch k):=by rw[gJ (by rw[lxl];omega),tf];rfl
 refine W.sq ?_;simp only[go_sem,f0,lxk,lx5,ll,hb,es];refine⟨O,?_⟩;obtain⟨H4,hH4⟩:∃H4,H4=Hx.upd (I k 5) (.J 0 3 (ints ((dD Tc k c 0).ch k))):=⟨_,rfl⟩
 rw[<- hH4];have hTl:=hSx.ng.len;have tr:∀x (T2:ZV) (Ha:ZJ),(∃y,T2=dD Tc k c y)->ZW d r lo s lvh I T2 tot Ha->ZW d r lo s lvh I (dD Tc k c x) tot (Ha.upd (I k 5) (.J 0 3 (ints ((dD Tc k c x).ch k)))):=fun x T2 Ha h2 hSa=>by
  obtain⟨y,rfl⟩:=h2;have hb5:dO (dD Tc k c x) k 5=.J 0 3 (ints ((dD Tc k c x).ch k)):=rfl;rw[<- hb5];refine hSa.upd hk O O (fun k' j' h1 h2 h3 h4=>?_) (xK hTl _ _ _)
  match j',h2,h3 with
  |1,_,_=>rfl
  |2,_,_=>rfl
  |3,_,_=>rfl
  |4,_,_=>rfl
  |5,_,_ =>
   have hne:k'≠k:=fun e=>h4 ⟨e,rfl⟩;show ZQ.J 0 _ (ints (fq Tc.ch k _ k'))=ZQ.J 0 _ (ints (fq Tc.ch k _ k'));rw[j9 hne,j9 hne]
 have hSx':ZW d r lo s lvh I (dD Tc k c 0) tot H4:=by
  have hb5:dO (dD Tc k c 0) k 5=.J 0 3 (ints ((dD Tc k c 0).ch k)):=rfl;rw[hH4,<- hb5];refine hSx.upd hk O O (fun k' j' h1 h2 h3 h4=>?_) (xK hTl _ _ _)
  match j',h2,h3 with
  |1,_,_=>rfl
  |2,_,_=>rfl
  |3,_,_=>rfl
  |4,_,_=>rfl
  |5,_,_ =>
   have hne:k'≠k:=fun e=>h4 ⟨e,rfl⟩;show ZQ.J 0 _ (ints (fq Tc.ch k _ k'))=ZQ.J 0 _ (ints (Tc.ch k'));rw[j9 hne]
 have n4:H4.A=H.A:=by rw[hH4,aA];exact nx
 have o4:kK r s I H H4:=fun i h1 h2=>by rw[hH4,af,Vx (h2 k 5 hk O)];exact hout i h1 h2
 clear hH4;refine W.en (fun E2=>E2 0=.M (I k 0) 0 0 /\ E2 1=.M bx 0 0 /\ E2 4=aa c /\ E2 10=aa c) (by simp only[go_sem,f0,f1,f10]) fun E2 ⟨m0,m1,m4,m10⟩=>?_
 have hszk:=hsz k hk;rw[<- hD]at hszk;refine W.block ?_;refine W.aP 70368743653376 (by rfl) (fun ρ Hz=>∃x:Nat,x<=D.cd k-1/\Hz.A=H.A/\kK r s I H Hz/\ZW d r lo s lvh I (dD Tc k c x) tot Hz/\∀y,y<x->kJ D (dD Tc k c y)=false) (fun ρ Hz=>D.cd k-uT Hz (I k 5) c) ?_ ?_
 ·exact⟨0,O,n4,o4,hSx',fun y hy=>absurd hy (VN _)⟩
 rintro ρ2 Hz ⟨x,hx,nz,oz,hSz,hno⟩;refine W.en (fun E3=>E3 0=.M (I k 0) 0 0 /\ E3 1=.M bx 0 0 /\ E3 4=aa c /\ E3 10=aa c) (by simp only[go_sem,m0,m1,m4,m10]) fun E3 ⟨u0,u1,u4,u10⟩=>?_
 have lzk:=ae (hSz.ng.nB k hk);rw[<- hD]at lzk;simp only[iq]at lzk;have gz5:Hz.get (I k 5)=some (.J 0 3 (ints ((dD Tc k c x).ch k))):=hSz.ng.ny k 5 hk O O;have lz5:=ae gz5;have lzl:(ints ((dD Tc k c x).ch k)).length=D.cs k:=by rw[aR,hSz.ng.len.ch k hk,<- hD]
 have gx:(ints ((dD Tc k c x).ch k))[c]?=some (aa x):=by rw[fa,tf,VQ O];rfl
 have gxn:=aO gx;have wcd:=Vv ((D.cd k:Int)-1) O;have gbz:=(oz bx hbs.1 hbs.2).trans hbx;have lbz:=ae gbz;refine W.seq (W.lZ (fun s'=>s'.H=Hz/\s'.ρ 0=.M (I k 0) 0 0/\s'.ρ 4=aa c/\s'.ρ 10=aa c/\s'.ρ 36=.lit (.bool (decide (x<D.cd k-1) && !kJ D (dD Tc k c x)))) ?_ ?_)
 ·refine W.dr 12 [0,1,3,7,0,31,63,0,128,384,896,1920] mixed ?_;by_cases hxb:(x:Int)<(D.cd k:Int)-1
  ·simp only[go_sem,u0,u1,u4,lzk,lz5,gx,hb,wcd,hxb,lbz];have hRc:Tc.Rng (aw d r):=(by rw[hTc,hD];exact FK hS.ng.len hR hk c (by rw[<- hD];exact hc));refine au.Z (Tw hrl hsz (xJ hRc (by rw[lxl];omega)) (fun c' h=>?_) Hz hSz _ ⟨trivial,?_⟩)
   ·show (Tc.ab 0).getD c' 0=0;rw[hTc,FI];exact h00 c' h
   rw[<- hD];have hd1:decide (x<D.cd k-1)=true:=V8 O;rw[hd1];cases hfb:kJ D (dD Tc k c x) with
   |true =>
    simp only[go_sem,u0,u4,u10]
    try rfl
   |false =>
    simp only[go_sem,u0,u4,u10]
    try rfl
  ·simp only[go_sem,u0,u4,u10,lzk,lz5,gx,hb,wcd,hxb];have hd1:decide (x<D.cd k-1)=false:=W2 O;rw[hd1];rfl
 rintro⟨ρ3,Hq⟩ ⟨hHq,v0,v4,v10,v36⟩;simp only at hHq v0 v4 v10 v36;rw[hHq];clear hHq Hq;cases hfl:(decide (x<D.cd k-1) && !kJ D (dD Tc k c x)) with
 |false =>
  rw[hfl]at v36;refine W.cond (t:=false) v36 ?_;refine W.vs ?_;simp only[go_sem];have hle:q9 D Tc k c=x:=Ty hno hx fun h=>by
   rw[V8 h,Bool.true_and,Bool.not_eq_false']at hfl;exact hfl
  have hnext:kd D T k (c+1)=dD Tc k c x:=by
   show dD (kd D T k c) k c (q9 D (kd D T k c) k c)=_;rw[<- hTc,hle]
  have wc:=Vv ((c:Int)+1) O;refine W.vs ?_;simp only[go_sem,v10,wc];exact⟨O,⟨c+1,rfl,O,nz,oz,by rw[hnext];exact hSz⟩,by rw[h10];simp only[aa,aZ];omega⟩
 |true =>
  rw[hfl]at v36;refine W.cond (t:=true) v36 ?_;refine W.vs ?_;simp only[go_sem];have hfl2:x<D.cd k-1/\kJ D (dD Tc k c x)=false:=by simpa using hfl
  have wx:=Vv ((x:Int)+1) O;have es2:setAt (ints ((dD Tc k c x).ch k)) c [.lit (.int .i64 ((x:Int)+1))]=ints ((dD Tc k c (x+1)).ch k):=by
   rw[gJ (by rw[tf,VW,lxl];omega),tf,tf,Ym];rfl
  refine W.block ?_;refine W.vs ?_;simp only[go_sem,v0,v4,lzk,lz5,lzl,gx,hb,wx,es2];have hS2:=tr (x+1) _ Hz ⟨x,rfl⟩ hSz;have hc5:uT Hz (I k 5) c=x:=by unfold uT;rw[gz5];simp only;rw[gx];simp[aa]
  have hc6:uT (Hz.upd (I k 5) (.J 0 3 (ints ((dD Tc k c (x+1)).ch k)))) (I k 5) c=x+1:=by
   unfold uT;rw[af,VA rfl];simp only;rw[fa,tf,VQ O];simp[aa]
  refine⟨O,by rw[aA];omega,⟨x+1,O,by rw[aA];exact nz,fun i h1 h2=>by rw[af,Vx (h2 k 5 hk O)];exact oz i h1 h2,hS2,fun y hy=>?_⟩,by rw[hc5,hc6];omega⟩;rcases Xa (Xi hy) with h|h
  ·exact hno y h
  ·rw[h];exact hfl2.2
def TA {a b:Nat}(ha:a<n)(hb:b<n)(hr:r.getD a 0<64/\r.getD b 0<64)(H:ZJ)(hL:nna D r lo n I T H)(K:ZP->ZJ->Prop)(hK:K (.ret (aa ((r.getD a 0:Nat)-(r.getD b 0:Nat):Int))) H):
  ag prog G0 117 [.M (I a 0) 0 0,.M (I b 0) 0 0] H K:=by
 have la:=ae (hL.nB a ha);have lb:=ae (hL.nB b hb);simp only[iq]at la lb;have w:=Vv (((r.getD a 0:Nat):Int)-((r.getD b 0:Nat):Int)) O;refine ag.sw (n:=14) (rs:=[.tmp 4]) func117 ?_;refine W.sq ?_;simp only[go_sem];refine W.seq ?_;refine W.dr 8 [0,1,3,7,0,16,48,112] mixed ?_;simp only[go_sem,la,lb,w];refine W.vs ?_;simp only[go_sem];exact aq.mk ZI hK
def TB (h0:cs≠[])(hl:cs.length<=64)(hone:cs.all ZK.one=true)(H:ZJ)(hv:aD lo H 179 v cs)(K:ZP->ZJ->Prop)(hK:∀id g H',ZN H H'->H.A<=id->id<H'.A->H'.get id=some (.J g 179 cs)->K (.ret (.U id g 0 cs.length 1)) H'):
  ag prog G0 115 [v] H K:=by
 rcases hv with ⟨_,h⟩|⟨i,g,h1,h2,rfl,h4⟩
 ·exact absurd h h0
 have hpos:0<cs.length:=Zz.2 h0;have lv:=ae h4;have lvE:∀L,(ext H L).V i g=_:=fun L=>(ea h2).trans lv;refine ag.sw (n:=8) (rs:=[.tmp 2]) func115 ?_;refine W.sq ?_;simp only[go_sem];refine W.sq ?_;simp only[go_sem,Cc,lv,hpos];intro b hb;subst hb;simp only[go_sem];refine W.vs ?_;simp only[go_sem,lvE,bf];rw[XG,Vx O];refine⟨⟨rfl,O,O,hone⟩,?_⟩;simp only[go_sem];refine aq.mk (by rw[aM];exact Nat.le_add_right ..) (hK H.A 1 _ (.ext _ _) ZI (by rw[aM];exact W3 _) ?_);rw[cI];simp
def ra (l:List Nat)(i j:Nat):List Nat:=(l.set i (l.getD j 0)).set j (l.getD i 0)
def TC (hi:i<l.length)(hj:j<l.length)(hij:i≠j)(a:Nat):(ra l i j).getD a 0=if a=j then l.getD i 0 else if a=i then l.getD j 0 else l.getD a 0:=by
 unfold ra;rw[pV _ _ _ _ _ (by rw[VW];exact hj),pV _ _ _ _ _ hi];by_cases h1:a=j
 ·rw[VA h1,VA h1.symm]
 ·rw[Vx h1,Vx fun h=>h1 h.symm];by_cases h2:a=i
  ·rw[VA h2,VA h2.symm]
  ·rw[Vx h2,Vx fun h=>h2 h.symm]
def qd (f:Nat->Nat)(l:List Nat)(n:Nat):Prop:=∀a b,a<b->b<n->f (l.getD a 0)<=f (l.getD b 0)
def uU (f:Nat->Nat)(l:List Nat)(i j:Nat):Prop:=(∀a b,a<b->b<=i->a≠j->b≠j->f (l.getD a 0)<=f (l.getD b 0))/\∀b,j<b->b<=i->f (l.getD j 0)<=f (l.getD b 0)
def TD (h:qd f l i):uU f l i i:=⟨fun a b h1 h2 h3 h4=>h a b h1 O,fun b h1 h2=>O⟩
def TE (h:uU f l i j)(hj:j<=i)(hd:j=0\/f (l.getD (j-1) 0)<=f (l.getD j 0)):qd f l (i+1):=by
 intro a b h1 h2;by_cases hb:b=j
 ·subst hb;rcases hd with h0|h0
  ·omega
  ·by_cases ha:a=b-1
   ·rw[ha];exact h0
   ·exact Wm (h.1 a (b-1) O O O O) h0
 ·by_cases ha:a=j
  ·subst ha;exact h.2 b h1 (O)
  ·exact h.1 a b h1 O ha hb
def TF (h:uU f l i j)(hj:j<=i)(hi:i<l.length)(h0:0<j)(hlt:f (l.getD j 0)<f (l.getD (j-1) 0)):uU f (ra l j (j-1)) i (j-1):=by
 have g:=TC (l:=l) (i:=j) (j:=j-1) O O O;constructor
 ·intro a b h1 h2 h3 h4;rw[g a,g b,Vx h3,Vx h4];by_cases ha:a=j
  ·rw[VA ha,Vx O];exact h.1 (j-1) b O h2 O (O)
  ·rw[Vx ha];by_cases hb:b=j
   ·rw[VA hb];exact h.1 a (j-1) O O ha (O)
   ·rw[Vx hb];exact h.1 a b h1 h2 ha hb
 ·intro b h1 h2;rw[g (j-1),VA rfl,g b,Vx O];by_cases hb:b=j
  ·rw[VA hb];exact XW hlt
  ·rw[Vx hb];exact h.2 b O h2
def gV (I:Nat->Nat->Nat)(l:List Nat):List ZK:=l.map fun k=>.M (I k 0) 0 0
def oN (I:Nat->Nat->Nat)(l:List Nat):(gV I l).length=l.length:=by simp[gV]
def uV (h:l[i]?=some k):(gV I l)[i]?=some (.M (I k 0) 0 0):=by simp[gV,h]
def FL (I:Nat->Nat->Nat)(n:Nat):gV I (List.range n)=jL I n:=rfl
def FM (h:i<l.length):setAt (gV I l) i [.M (I k 0) 0 0]=gV I (l.set i k):=by
 rw[iK (by rw[oN];exact h)];unfold gV;rw[XD]
def TM (hi:i<l.length)(hj:j<l.length):(ra l i j).Perm l:=by
 unfold ra;rw[VB,VB,Vz hi,Vz hj];exact List.set_set_perm hi hj
def qf (h:i<l.length):l[i]?=some (l.getD i 0):=by
 rw[VB,Vz h];rfl
def TN {b:ZQ}(h:H.get id=some b):H.upd id b=H:=by
 have e:(fun j=>if j=id then some b else H.get j)=H.get:=by
  funext j
  by_cases hj:j=id
  ·rw[VA hj,hj,h]
  ·rw[Vx hj]
 show ZJ.mk (fun j=>if j=id then some b else H.get j) H.A=H;rw[e]
def FO (H:ZJ)(id:Nat)(b c:ZQ):(H.upd id b).upd id c=H.upd id c:=by
 unfold ZJ.upd;congr 1
 funext j
 by_cases hj:j=id<;>simp[hj]
def TO {g:Nat}(hl:l.length<=64)(h2:2<=l.length)(hm:∀a∈l,a<m)(hr:∀a∈l,r.getD a 0<64)(H:ZJ)(hL:nna D r lo m I T H)(hid:H.get id=some (.J g 179 (gV I l)))(hI:∀k j,k<m->j<6->id≠I k j)(K:ZP->ZJ->Prop)
  (hK:∀l' H',H'=H.upd id (.J g 179 (gV I l'))->l'.Perm l->qd (fun a=>r.getD a 0) l' l.length->K (.ret (.nf [])) H'):
  ag prog G0 148 [.U id g 0 l.length 1,aa 0,aa l.length,.Z 117 [] []] H K:=by
 obtain⟨f,hf⟩:∃f:Nat->Nat,f=fun a=>r.getD a 0:=⟨_,rfl⟩
 rw[<- hf]at hK;refine ag.sw (n:=53) (rs:=[]) func148 ?_;refine W.sq ?_;simp only[go_sem];refine W.env fun E hE=>?_;have e0:E 0=.U id g 0 l.length 1:=by rw[hE];simp only[go_sem]
 have e1:E 1=aa 0:=by rw[hE];simp only[go_sem]
 have e2:E 2=aa l.length:=by rw[hE];simp only[go_sem]
 have e3:E 3=.Z 117 [] []:=by rw[hE];simp only[go_sem]
 have e8:E 8=aa 1:=by rw[hE];simp only[go_sem];rfl
 clear hE;refine W.block ?_;refine W.aP 9007199254737664 (by rfl) (fun ρ Hx=>∃(i:Nat) (q:List Nat),ρ 8=aa i/\1<=i/\i<=l.length/\q.Perm l/\qd f q i/\Hx=H.upd id (.J g 179 (gV I q))) (fun ρ Hx=>l.length-(iv (ρ 8)).toNat) ?_ ?_
 ·refine⟨1,l,e8,O,O,.refl _,fun a b h1 h2=>O,(TN hid).symm⟩
 rintro ρ Hx ⟨i,q,h8,hi1,hi,hq,hS,hHx⟩;have ql:=hq.length_eq;refine W.en (fun E1=>E1 0=.U id g 0 l.length 1 /\ E1 1=aa 0 /\ E1 2=aa l.length /\ E1 3=.Z 117 [] [] /\ E1 8=aa i) (by simp only[go_sem,e0,e1,e2,e3,h8]) fun E1 ⟨f0,f1,f2,f3,f8⟩=>?_
 by_cases hb:(i:Int)<l.length;rotate_left
 ·refine W.vs ?_;simp only[go_sem,f8,f2,hb];have hii:i=l.length:=O
  rw[hii,<- ql]at hS;exact aq.mk (by rw[hHx,aA];exact Nat.le_refl _) (hK q Hx hHx hq (by rw[<- ql];exact hS))
 refine W.sq ?_;simp only[go_sem,f8,f2,hb];refine W.seq (W.block ?_);refine W.sq ?_;simp only[go_sem,f8];refine W.en (fun E2=>E2 0=.U id g 0 l.length 1 /\ E2 1=aa 0 /\ E2 2=aa l.length /\ E2 3=.Z 117 [] [] /\ E2 8=aa i /\ E2 9=aa i) (by simp only[go_sem,f0,f1,f2,f3,f8]) fun E2 ⟨m0,m1,m2,m3,m8,m9⟩=>?_
 refine W.block ?_;refine W.aP 9007199254479360 (by rfl) (fun ρ Hz=>∃(j:Nat) (p:List Nat),ρ 9=aa j/\j<=i/\p.Perm l/\uU f p i j/\Hz=H.upd id (.J g 179 (gV I p))) (fun ρ Hz=>(iv (ρ 9)).toNat) ?_ ?_
 ·exact⟨i,q,m9,ZI,hq,TD hS,hHx⟩
 rintro ρ2 Hz ⟨j,p,h9,hj,hp,hIn,hHz⟩;have pl:=hp.length_eq;refine W.en (fun E3=>E3 0=.U id g 0 l.length 1 /\ E3 1=aa 0 /\ E3 2=aa l.length /\ E3 3=.Z 117 [] [] /\ E3 8=aa i /\ E3 9=aa j) (by simp only[go_sem,m0,m1,m2,m3,m8,h9]) fun E3 ⟨u0,u1,u2,u3,u8,u9⟩=>?_
 have gz:Hz.get id=some (.J g 179 (gV I p)):=by rw[hHz,af,VA rfl]
 have lz:=ae gz;have plen:=oN I p;have hLz:nna D r lo m I T Hz:=hL.nc (by rw[hHz,aA];exact Nat.le_refl _) fun k j h1 h2=>by rw[hHz,af,Vx (hI k j h1 h2).symm]
 refine W.seq (W.lZ (fun s'=>s'.H=Hz/\s'.ρ 0=.U id g 0 l.length 1/\s'.ρ 8=aa i/\s'.ρ 9=aa j/\s'.ρ 34=.lit (.bool (decide (0<j) && decide (f (p.getD j 0)<f (p.getD (j-1) 0))))) ?_ ?_)
 ·refine W.dr 14 [0,0,3,7,15,15,15,111,239,15,15,1039,3599,7695] mixed ?_;by_cases hjb:(j:Int) > 0
  ·have wj:=Vv ((j:Int)-1) O;have cj:((j:Int)-1).toNat=j-1:=O;have gj:=uV (I:=I) (qf (l:=p) (i:=j) O);have gj1:=uV (I:=I) (qf (l:=p) (i:=j-1) O);have gjn:=aO gj;have gj1n:=aO gj1;have b1:(j:Int)<l.length:=O;have b2:(j:Int)-1<l.length:=O;have b3:(0:Int)<=(j:Int)-1:=O;simp only[go_sem,u0,u1,u3,u9,lz,hjb,wj,cj,gj,gj1,b1,b2,b3];refine au.Z (TA (hm _ ?_) (hm _ ?_) ⟨hr _ ?_,hr _ ?_⟩ Hz hLz _ ⟨trivial,?_⟩)
   ·exact hp.mem_iff.1 (an (qf O))
   ·exact hp.mem_iff.1 (an (qf O))
   ·exact hp.mem_iff.1 (an (qf O))
   ·exact hp.mem_iff.1 (an (qf O))
   have hd1:decide (0<j)=true:=V8 O;rw[hd1,hf];by_cases hlt:r.getD (p.getD j 0) 0<r.getD (p.getD (j-1) 0) 0
   ·have hlt':((r.getD (p.getD j 0) 0:Nat)-(r.getD (p.getD (j-1) 0) 0:Nat):Int)<0:=O;simp only[go_sem,u0,u8,u9,hlt',hlt]
    try rfl
   ·have hlt':¬((r.getD (p.getD j 0) 0:Nat)-(r.getD (p.getD (j-1) 0) 0:Nat):Int)<0:=O;simp only[go_sem,u0,u8,u9,hlt',hlt]
    try rfl
  ·simp only[go_sem,u0,u1,u8,u9,hjb];have hj0:j=0:=O;subst hj0;rfl
 rintro⟨ρ3,Hq⟩ ⟨hHq,v0,v8,v9,v34⟩;simp only at hHq v0 v8 v9 v34;rw[hHq];clear hHq Hq;cases hfl:(decide (0<j) && decide (f (p.getD j 0)<f (p.getD (j-1) 0))) with
 |false =>
  rw[hfl]at v34;refine W.cond (t:=false) v34 ?_;refine W.vs ?_;simp only[go_sem];have wi:=Vv ((i:Int)+1) O;have hd:j=0\/f (p.getD (j-1) 0)<=f (p.getD j 0):=by
   by_cases h0:j=0
   ·exact .inl h0
   ·rw[V8 (by omega:0<j),Bool.true_and,Yr]at hfl;exact .inr (O)
  have hS':=TE hIn hj hd;refine W.vs ?_;simp only[go_sem,v8,wi];exact⟨by rw[hHz,aA];exact Nat.le_refl _,⟨i+1,p,rfl,O,O,hp,hS',hHz⟩,by rw[h8];simp only[aa,aZ];omega⟩
 |true =>
  rw[hfl]at v34;refine W.cond (t:=true) v34 ?_;have hfl2:0<j/\f (p.getD j 0)<f (p.getD (j-1) 0):=by simpa using hfl
  have wj:=Vv ((j:Int)-1) O;have cj:((j:Int)-1).toNat=j-1:=O
  have gj:=uV (I:=I) (qf (l:=p) (i:=j) O);have gj1:=uV (I:=I) (qf (l:=p) (i:=j-1) O);have gjn:=aO gj;have gj1n:=aO gj1;have b1:(j:Int)<l.length:=O
  have b2:(j:Int)-1<l.length:=O
  have b3:(0:Int)<=(j:Int)-1:=O
  have s1:setAt (gV I p) j [.M (I (p.getD (j-1) 0) 0) 0 0]=gV I (p.set j (p.getD (j-1) 0)):=FM O;have s2:setAt (gV I (p.set j (p.getD (j-1) 0))) (j-1) [.M (I (p.getD j 0) 0) 0 0]=gV I (ra p j (j-1)):=FM (by rw[VW];omega);have plen2:=oN I (p.set j (p.getD (j-1) 0));rw[VW]at plen2;refine W.vs ?_;simp only[go_sem];refine W.seq (W.block ?_);refine W.dr 16 [0,0,0,0,8,0,0,64,224,480,0,0,3072,7168,16355,32739] mixed ?_;simp only[go_sem,v0,v9,lz,plen,pl,wj,cj,gj,gj1,b1,b2,b3,s1,s2,plen2];refine⟨O,O,vK _ _ _ (by rfl) ?_⟩;simp only[go_sem,v9,wj];refine⟨by rw[hHx,hHz];simp only[aA];exact Nat.le_refl _,⟨j-1,ra p j (j-1),?_,O,(TM O O).trans hp,TF hIn hj O hfl2.1 hfl2.2,?_⟩,by rw[h9];simp only[aa,aZ];omega⟩
  ·congr 2;omega
  ·rw[hHz,FO,FO]
def TP {s:ByteArray}{F:ZK->Prop}(hs:s.size=256)(hi:i<256)(h:∀L:Nat,L<256->F (.lit (.int .u8 (L:Int)))):bG (qm prog 9 (.lit (.string s)) (.lit (.int .u8 (i:Int)))) F:=by
 have ix:qm prog 9 (.lit (.string s)) (.lit (.int .u8 (i:Int)))=some (.lit (.int .u8 (((s[i]!).toNat:Nat):Int))):=by
  unfold qm;simp only[];have e1:s[i]?=some s[i]!:=by
   rw[getElem!_pos s i O];exact getElem?_pos s i (O)
  have ht:prog.underlying 9=some .string:=Tryz.underlying9;simp[Instr.index,asIntOf,underlying,program,ht,bQ,bind,Sem.bind,pure,e1]
 rw[ix,px];exact h _ (UInt8.toNat_lt _)
def TQ (h12:n<=12)(H:ZJ)(K:ZP->ZJ->Prop)(hK:∀L:Nat,L<256->K (.ret (aa L)) H):ag prog G0 157 [.lit (.int .u64 (n:Int))] H K:=by
 have h1:¬(4294967296:Int)<=(n:Int):=O
 have h2:¬(65536:Int)<=(n:Int):=O
 have h3:¬(256:Int)<=(n:Int):=O
 have ww:IntKind.u8.wrap ((n:Nat):Int)=(n:Int):=by simp[IntKind.wrap,IntKind.bits,IntKind.signed];omega
 refine ag.sw (n:=25) (rs:=[.tmp 2]) func157 ?_;refine W.sq ?_;simp only[go_sem];refine W.sq ?_;simp only[go_sem,h1];refine W.sq ?_;simp only[go_sem,h2];refine W.sq ?_;simp only[go_sem,h3];refine W.vs ?_;simp only[go_sem,ww];refine TP ZH O fun L hL=>?_;have w:IntKind.i64.wrap (0+(L:Int))=(L:Int):=by rw[YB];exact Vv (L:Int) (O)
 have w0:=Vv (L:Int) O;simp only[go_sem,w0,w];exact aq.mk ZI (hK L hL)
def FQ (h12:n<=12)(H:ZJ)(K:ZP->ZJ->Prop)(hK:∀L:Nat,L<256->K (.ret (aa L)) H):ag prog G0 140 [.lit (.int .u64 (n:Int))] H K:=by
 refine ag.sw (n:=8) (rs:=[.tmp 2]) func140 ?_;refine W.vs ?_;simp only[go_sem];refine au.Z (TQ h12 H _ fun L hL=>⟨trivial,?_⟩);simp only[go_sem];exact aq.mk ZI (hK L hL)
def FR {L:Nat}(h12:n<=12)(H:ZJ)(hQ:∀H',Q H'->H.A<=H'.A)(hc:∀K':ZP->ZJ->Prop,(∀H',Q H'->K' (.ret (.nf [])) H')->ag prog G0 148 [v,aa 0,aa n,.Z 117 [] []] H K')
  (K:ZP->ZJ->Prop) (hK:∀H',Q H'->K (.ret (.nf [])) H'):
  ag prog G0 139 [v,aa 0,aa n,aa L,.Z 117 [] []] H K:=by
 have wn:IntKind.i64.wrap ((n:Int)-0)=(n:Int):=by rw[Zl];exact Vv (n:Int) (O)
 have hb:(n:Int)<=12:=O
 refine ag.sw (n:=148) (rs:=[]) func139 ?_;refine W.sq ?_;simp only[go_sem];refine W.sq ?_;simp only[go_sem];refine W.en (fun E=>E 0=v /\ E 1=aa 0 /\ E 2=aa n /\ E 4=.Z 117 [] []) (by simp only[go_sem]) fun E ⟨e0,e1,e2,e4⟩=>?_
 refine W.block ?_;refine W.aP 356811923176489970264571492362373784095685646 ZH (fun ρ Hx=>ρ 0=v/\ρ 1=aa 0/\ρ 2=aa n/\ρ 4=.Z 117 [] []/\Hx=H) (fun ρ Hx=>0) ?_ ?_
 ·exact⟨e0,e1,e2,e4,rfl⟩
 rintro ρ Hx ⟨h0,h1,h2,h4,hHx⟩;refine W.en (fun E1=>E1 0=v /\ E1 1=aa 0 /\ E1 2=aa n /\ E1 4=.Z 117 [] []) (by simp only[go_sem,h0,e0,h1,h2,h4,e4]) fun E1 ⟨f0,f1,f2,f4⟩=>?_
 rw[hHx];refine W.block ?_;refine W.sq ?_;simp only[go_sem,f1,f2,wn];refine W.sq ?_;simp only[go_sem,hb,f0,f1,f2,f4];refine au.Z (hc _ fun H' hq=>⟨trivial,?_⟩);simp only[go_sem];exact aq.mk (hQ H' hq) (hK H' hq)
def TR (h12:n<=12)(H:ZJ)(hQ:∀H',Q H'->H.A<=H'.A)(hv:aD 0 H 179 v cs)(hn:cs.length=n)(hc:∀K':ZP->ZJ->Prop,(∀H',Q H'->K' (.ret (.nf [])) H')->ag prog G0 148 [v,aa 0,aa n,.Z 117 [] []] H K')
  (K:ZP->ZJ->Prop) (hK:∀H',Q H'->K (.ret (.nf [])) H'):
  ag prog G0 116 [v,.Z 117 [] []] H K:=by
 have wn:IntKind.u64.wrap ((n:Nat):Int)=(n:Int):=by simp[IntKind.wrap,IntKind.bits,IntKind.signed];omega
 have w2:=Vv (n:Int) O;have go:∀v:ZK,(v=.lit (.slice none 0 0)/\n=0\/∃id g cs,v=.U id g 0 n 1/\cs.length=n/\H.V id g=some (179,cs))->(∀K':ZP->ZJ->Prop,(∀H',Q H'->K' (.ret (.nf [])) H')->ag prog G0 148 [v,aa 0,aa n,.Z 117 [] []] H K')->ag prog G0 116 [v,.Z 117 [] []] H K:=fun v hv hc=>by
  rcases hv with ⟨rfl,rfl⟩|⟨id,g,cs,rfl,hcl2,lv⟩
  ·refine ag.sw (n:=14) (rs:=[]) func116 ?_;refine W.sq ?_;simp only[go_sem];refine W.vs ?_;simp only[go_sem];refine au.Z (FQ (n:=0) h12 H _ fun L hL=>⟨trivial,?_⟩);simp only[go_sem];refine au.Z (FR h12 H hQ hc _ fun H' hq=>⟨trivial,?_⟩);simp only[go_sem];exact aq.mk (hQ H' hq) (hK H' hq)
  ·refine ag.sw (n:=14) (rs:=[]) func116 ?_;refine W.sq ?_;simp only[go_sem,lv];refine W.vs ?_;simp only[go_sem,wn];refine au.Z (FQ h12 H _ fun L hL=>⟨trivial,?_⟩);simp only[go_sem];refine au.Z (FR h12 H hQ hc _ fun H' hq=>⟨trivial,?_⟩);simp only[go_sem];exact aq.mk (hQ H' hq) (hK H' hq)
 refine go v ?_ hc;rcases hv with ⟨h1,h2⟩|⟨id,g,_,_,h3,h4⟩
 ·rw[h2]at hn;exact .inl ⟨h1,hn.symm⟩
 ·rw[hn]at h3;exact .inr ⟨id,g,cs,h3,hn,ae h4⟩
def TS (h1:n<=1)(H:ZJ)(K:ZP->ZJ->Prop)(hK:K (.ret (.nf [])) H):
  ag prog G0 148 [v,aa 0,aa n,.Z 117 [] []] H K:=by
 have hb:¬(1:Int)<(n:Int):=O
 refine ag.sw (n:=53) (rs:=[]) func148 ?_;refine W.sq ?_;simp only[go_sem];refine W.env fun E hE=>?_;have e2:E 2=aa n:=by rw[hE];simp only[go_sem]
 have e8:E 8=aa 1:=by rw[hE];simp only[go_sem];rfl
 clear hE;refine W.block ?_;refine W.aP 9007199254737664 (by rfl) (fun ρ Hx=>ρ 8=aa 1/\Hx=H) (fun ρ Hx=>0) ?_ ?_
 ·exact⟨e8,rfl⟩
 rintro ρ Hx ⟨h8,hHx⟩;refine W.en (fun E1=>E1 2=aa n /\ E1 8=aa 1) (by simp only[go_sem,e2,h8]) fun E1 ⟨f2,f8⟩=>?_
 rw[hHx];refine W.vs ?_;simp only[go_sem,f8,f2,hb];exact aq.mk ZI hK
def TT (hD:D.Ok)(ht:t.Ok D)(hc:oH D ch)(e:∀k c,k<D.K->c<D.cs k->ch' k c=ch k c):kB D t ch'↔kB D t ch:=by
 have hc':oH D ch':=fun k c y h1 h2 h3=>hc k c y h1 h2 (by rw[<- e k c h1 h2];exact h3);rw[uD hD ht hc,uD hD ht hc'];constructor
 ·rintro⟨q,q1,q2,q3⟩;exact⟨q,q1,fun k c y h1 h2 h3=>q2 k c y h1 h2 (by rw[e k c h1 h2];exact h3),q3⟩
 ·rintro⟨q,q1,q2,q3⟩;exact⟨q,q1,fun k c y h1 h2 h3=>q2 k c y h1 h2 (by rw[<- e k c h1 h2];exact h3),q3⟩
def TU (hc:oH D ch)(hx:x<D.cd k):oH D (lu ch k c x):=fun k' c' y h1 h2 h3=>by
 by_cases h:k'=k/\c'=c
 ·obtain⟨rfl,rfl⟩:=h;rw[oF]at h3;cases h3;exact hx
 ·rw[oG h]at h3;exact hc k' c' y h1 h2 h3
def TV (hD:D.Ok)(ht:t.Ok D)(hc:oH D ch)(e:∀k c,k<D.K->c<D.cs k->ch' k c=ch k c)(k c:Nat):jk D t ch' k c=jk D t ch k c:=by
 unfold jk;refine FH _ _ fun y _ hy=>?_;rw[Xl,uH,uH];refine TT hD ht (TU hc O) fun k' c' h1 h2=>?_;by_cases h:k'=k/\c'=c
 ·rw[h.1,h.2,oF,oF]
 ·rw[oG h,oG h];exact e k' c' h1 h2
structure nnj (D:ZS)(T:ZV)(done:List (Nat × Nat)):Prop where
 eq:∀k c,k<D.K->c<D.cs k->kI T k c=pW D (mw D) done k c
 tb:lK T (sK D)=mw D
 nk:T.Rng D
 len:T.Len D D.K
 h0:∀c,c<D.cs 0->(T.ab 0).getD c 0=0
def nnj.try (hD:D.Ok)(ht:(mw D).Ok D){done:List (Nat × Nat)}(h:nnj D T done)(hnd:(done++[(k,c)]).Nodup)(hr:∀p∈done++[(k,c)],p.1<D.K/\p.2<D.cs p.1):nnj D (dD T k c (q9 D T k c)) (done++[(k,c)]):=by
 have hkc:=hr (k,c) ZF;have hl:=h.len.ch k hkc.1;have hcl:c<(T.ch k).length:=by rw[hl];exact hkc.2
 have hC:=Av hD ht _ done rfl (Xy.1 hnd).1 fun p hp=>hr p (by simp[hp]);have hx:q9 D T k c=jk D (mw D) (pW D (mw D) done) k c:=by
  rw[Tx h.nk (fun c h1=>by rw[h.h0 c h1];rfl) hcl,h.tb];exact TV hD ht hC.nk h.eq k c
 refine⟨fun k' c' h1 h2=>?_,h.tb,xJ h.nk hcl,xK h.len _ _ _,h.h0⟩;rw[FG hcl,ER,hx];show _=lu _ k c _ k' c';by_cases e:k'=k/\c'=c
 ·rw[e.1,e.2,oF,oF]
 ·rw[oG e,oG e];exact h.eq k' c' h1 h2
def nnj.TW (hD:D.Ok)(ht:(mw D).Ok D){done:List (Nat × Nat)}(h:nnj D T done):∀n,(done++(List.range n).map fun c=>(k,c)).Nodup->(∀p∈done++(List.range n).map fun c=>(k,c),p.1<D.K/\p.2<D.cs p.1)->nnj D (kd D T k n) (done++(List.range n).map fun c=>(k,c)):=by
 intro n
 induction n with
 |zero =>
  intro _ _;show nnj D T _;simpa using h
 |succ n ih =>
  intro h1 h2;rw[Wy,Wk,<- List.append_assoc]at h1 h2 ⊢;exact(ih (Xy.1 h1).1 fun p hp=>h2 p (X9 _ hp)).try hD ht h1 h2
def runT (D:ZS)(T:ZV)(ks:List Nat):ZV:=ks.foldl (fun T k=>kd D T k (D.cs k)) T
def AM (D:ZS)(T:ZV)(ks:List Nat)(k:Nat):runT D T (ks++[k])=kd D (runT D T ks) k (D.cs k):=by unfold runT;rw[WD];rfl
def oS (D:ZS)(ks:List Nat):List (Nat × Nat):=(ks.map fun k=>(List.range (D.cs k)).map fun c=>(k,c)).flatten
def TX (D:ZS)(ks:List Nat)(k:Nat):oS D (ks++[k])=oS D ks++(List.range (D.cs k)).map fun c=>(k,c):=by unfold oS;simp
def nnj.run (hD:D.Ok)(ht:(mw D).Ok D)(h:nnj D T []):∀(n:Nat) (ks:List Nat),ks.length=n->(oS D ks).Nodup->(∀p∈oS D ks,p.1<D.K/\p.2<D.cs p.1)->nnj D (runT D T ks) (oS D ks):=by
 intro n
 induction n with
 |zero =>
  intro ks hl _ _;obtain rfl:=VF hl;exact h
 |succ n ih =>
  intro ks hl h1 h2;obtain⟨qs,k,rfl⟩:∃qs a,ks=qs++[a]:=by
   rcases XL ks with h|⟨qs,a,h⟩
   ·rw[h]at hl;cases hl
   ·exact⟨qs,a,by rw[h,XM]⟩
  rw[List.length_append,Wl]at hl;rw[TX]at h1 h2 ⊢;rw[AM];exact(ih qs O (Xy.1 h1).1 fun p hp=>h2 p (X9 _ hp)).TW hD ht _ h1 h2
def TY (D:ZS):∀n,∀a∈dh D 0 n,a=0:=by
 intro n
 induction n with
 |zero=>intro a ha;exact Wv ha
 |succ n ih =>
  intro a ha;unfold dh at ha;rcases Wn ha with h|rfl
  ·exact ih a h
  ·rfl
def FS (hD:D.Ok)(hpos:∀k,k<D.K->1<=D.cs k):nnj D (dW D (fg D) 0) []:=by
 refine⟨fun k c h1 h2=>?_,?_,⟨fun k c h0 h1 h2=>?_,fun k c h1 h2=>.inl ?_⟩,AJ (fun k _=>by simp[fg]) 0,fun c hc=>?_⟩
 ·show (if ((fg D k).getD c 0)=-1 then none else _)=none;rw[VA];unfold fg;rw[VB,Wc,VA h2];rfl
 ·unfold lK mw dW;simp
 ·show 0<=(dh D k D.N).getD c 0/\((dh D k D.N).getD c 0).toNat<_;obtain⟨a,ha⟩:=ao (l:=dh D k D.N) (i:=c) (by rw[pU];exact h2);rw[VB,ha];obtain⟨b1,b2,b3⟩:=Aq hD h1 D.N ZI a (an ha);refine⟨b1,?_⟩;show a.toNat<_;have hp:=Ys (hpos (k-1) O) (hD.cd (k-1) O);rcases b3 h0 with h|h<;>omega
 ·show (fg D k).getD c 0=-1;unfold fg;rw[VB,Wc,VA h2];rfl
 ·show (dh D 0 D.N).getD c 0=0;obtain⟨a,ha⟩:=ao (l:=dh D 0 D.N) (i:=c) (by rw[pU];exact hc);rw[VB,ha];exact TY D D.N a (an ha)
def TZ (hr:Z6 d r)(hp:ks.Perm (List.range r.length))(hs:qd (fun a=>r.getD a 0) ks ks.length):ks=(aB d).map r.idxOf:=by
 have hmem:∀k∈ks,k<r.length:=fun k hk=>VP.1 (hp.mem_iff.1 hk);have e1:(List.range r.length).map (fun k=>r.getD k 0)=r:=by
  apply V9;intro i;rw[List.getElem?_map];rcases VV i r.length with h|h
  ·obtain⟨v,hv⟩:=ao h;rw[VT h,hv];exact congrArg some (gT hv)
  ·rw[VD (by simpa using h),VD h];rfl
 have hnd:(aB d).Nodup:=Xp.filter _;have p1:(ks.map fun k=>r.getD k 0).Perm (aB d):=by
  have:=hp.map fun k=>r.getD k 0;rw[e1]at this;exact this.trans ((List.perm_ext_iff_of_nodup hr.nodup hnd).2 fun a=>⟨hr.mem a,fun h=>hr.nj h⟩)
 have s1:(ks.map fun k=>r.getD k 0).Pairwise (·<=·):=by
  rw[X3,Yp];intro i j hi hj hij;have:=hs i j hij hj;simp only[VB,Vz hi,Vz hj,Option.getD_some]at this ⊢;exact this
 have s2:(aB d).Pairwise (·<=·):=by
  unfold aB eH;exact(Zg.filter _).imp fun h=>XW h
 have e2:=List.Perm.eq_of_pairwise (fun a b _ _ h1 h2=>Nat.le_antisymm h1 h2) s1 s2 p1;rw[<- e2,Xg]
 conv=>lhs;rw[<- List.map_id ks]
 refine V1 fun k hk=>?_;have hk:=hmem k hk;show k=r.idxOf (r.getD k 0);rw[VB,Vz hk];exact((WV (Wf (Wo hk)) hr.nodup).1 (by rw[Vz (Wf (Wo hk)),WI,Vz hk])).symm
def T1 (hr:Z6 d r):oS (aw d r) ((aB d).map r.idxOf)=ly d r:=by
 unfold oS ly;rw[Xg];congr 1;refine V1 fun v hv=>?_;have hi:r.idxOf v<r.length:=Wf (hr.nj hv);have hri:r.getD (r.idxOf v) 0=v:=gT (by rw[Vz hi,WI hi]);show (List.range (bT d (r.getD (r.idxOf v) 0))).map _=_;rw[hri]
def T3 (hok:ZR d)(hr:Z6 d r)(hp:ks.Perm (List.range r.length))(hs:qd (fun a=>r.getD a 0) ks ks.length):
  (ks.map fun k=>(runT (aw d r) (dW (aw d r) (fg (aw d r)) 0) ks).ch k)=jl d r:=by
 have hD:=sJ hok hr.mem;have ht:=EM hD (EN hok hr) (sL hok hr);have hk:=TZ hr hp hs;have hpos:oS (aw d r) ks=ly d r:=by rw[hk];exact T1 hr
 have hS:=(FS hD (sL hok hr)).run hD ht _ ks rfl (by rw[hpos];exact Aw hr) fun p h=>(sO hr).1 (by rw[<- hpos];exact h);have hC:=Av hD ht _ (ly d r) rfl (Aw hr) fun p hp=>(sO hr).1 hp;rw[hpos]at hS;obtain⟨T,hT⟩:∃T,T=runT (aw d r) (dW (aw d r) (fg (aw d r)) 0) ks:=⟨_,rfl⟩
 rw[<- hT]at hS ⊢;clear hT;rw[hk,Xg];unfold jl kD;refine V1 fun v hv=>?_;have hi:r.idxOf v<r.length:=Wf (hr.nj hv);have hri:r.getD (r.idxOf v) 0=v:=gT (by rw[Vz hi,WI hi]);show T.ch (r.idxOf v)=_;have hcs:(aw d r).cs (r.idxOf v)=bT d v:=by show bT d (r.getD (r.idxOf v) 0)=_;rw[hri]
 have hl:=hS.len.ch _ hi;rw[hcs]at hl;apply V9;intro c;rcases VV c (bT d v) with hc|hc
 ·rw[List.getElem?_map,VT hc];obtain⟨a,ha⟩:=ao (l:=T.ch (r.idxOf v)) (i:=c) O;obtain⟨y,hy⟩:=hC.made (r.idxOf v) c ((sO hr).2 ⟨hi,by rw[hcs];exact hc⟩);have h1:=hS.eq (r.idxOf v) c hi (by rw[hcs];exact hc);have h2:=hS.nk.ch (r.idxOf v) c hi (by rw[hcs];exact hc);have hg:(T.ch (r.idxOf v)).getD c 0=a:=by rw[VB,ha];rfl
  rw[hy]at h1;unfold kI at h1;rw[hg]at h1 h2;rw[ha];show some a=some ((my _ (r.idxOf v) c:Nat):Int);unfold my;rw[hy];by_cases e:a=-1
  ·rw[VA e]at h1;cases h1
  ·rw[Vx e]at h1;have:=Option.some.inj h1;simp only[Option.getD_some];congr 1;omega
 ·rw[VD O,VD (by simpa using hc)]
def T4 (hl:cs.length<=64)(hone:cs.all ZK.one=true)(H:ZJ)(hv:aD lo H 179 v cs)(hnil:cs=[]->v=.lit (.slice none 0 0))(K:ZP->ZJ->Prop)(hK:∀v' H',ZN H H'->aD H.A H' 179 v' cs->K (.ret v') H'):
  ag prog G0 115 [v] H K:=by
 by_cases h0:cs=[]
 ·rw[hnil h0];have hK0:=hK (.lit (.slice none 0 0)) H (.refl _) (by rw[h0];exact .nil);have nn:∀x y,bI prog .eql 176 x y (.lit (.slice none 0 0)) (.lit (.slice none 0 0))=some (.lit (.bool true)):=fun x y=>by rfl
  refine ag.sw (n:=8) (rs:=[.tmp 2]) func115 ?_;refine W.sq ?_;simp only[go_sem];refine W.sq ?_;simp only[go_sem,nn];exact aq.mk ZI hK0
 ·exact TB h0 hl hone H hv K fun id g H' ho h1 h2 h3=>hK _ H' ho (.inr ⟨id,g,h1,h2,rfl,h3⟩)
def T5 {lo2:Nat}(h12:n<=12)(hr:∀k,k<n->r.getD k 0<64)(H:ZJ)(hL:nna D r lo n I T H)(hv:aD lo2 H 179 v (jL I n))(hI:∀id g m,v=.U id g 0 m 1->∀k j,k<n->j<6->id≠I k j)(K:ZP->ZJ->Prop)
  (hK:∀ks H',ks.Perm (List.range n)->qd (fun a=>r.getD a 0) ks ks.length->H'.A=H.A->(∀i,(∀g m,v≠.U i g 0 m 1)->H'.get i=H.get i)->aD lo2 H' 179 v (gV I ks)->K (.ret (.nf [])) H'):
  ag prog G0 116 [v,.Z 117 [] []] H K:=by
 refine TR (n:=n) (Q:=fun H'=>∃ks:List Nat,ks.Perm (List.range n)/\qd (fun a=>r.getD a 0) ks ks.length/\H'.A=H.A/\(∀i,(∀g m,v≠.U i g 0 m 1)->H'.get i=H.get i)/\aD lo2 H' 179 v (gV I ks)) h12 H (fun H' ⟨_,_,_,h,_⟩=>O) (hv.nc (WO _) ZI fun _ _ _ _ _ _=>rfl) (kG I n) (fun K' hK'=>?_) K fun H' ⟨ks,h1,h2,h3,h4,h5⟩=>hK ks H' h1 h2 h3 h4 h5;rcases VV n 2 with h1|h1
 ·refine TS O H K' (hK' H ⟨List.range n,.refl _,fun a b h2 h3=>?_,rfl,fun _ _=>rfl,?_⟩)
  ·rw[WG]at h3;omega
  ·rw[FL];exact hv
 ·rcases hv with ⟨_,h2⟩|⟨id,g,q1,q2,h3,h4⟩
  ·have:=congrArg List.length h2;rw[kG,List.length_nil]at this;omega
  ·rw[kG]at h3;have hsep:=hI id g n h3;rw[h3];have hl:(List.range n).length=n:=WG;have:=TO (D:=D) (r:=r) (lo:=lo) (m:=n) (I:=I) (T:=T) (id:=id) (g:=g) (l:=List.range n) (by rw[hl];omega) (by rw[hl];omega) (fun a ha=>VP.1 ha) (fun a ha=>hr a (VP.1 ha)) H hL (by rw[FL];exact h4) hsep K' fun l' H' e1 e2 e3=>hK' H' ⟨l',e2,by rw[e2.length_eq];exact e3,by rw[e1,aA],fun i hi=>by rw[e1,af,Vx fun e=>hi g n (by rw[h3,e])],.inr ⟨id,g,q1,by rw[e1,aA];exact q2,by rw[oN,e2.length_eq,hl];exact h3,by rw[e1,af,VA rfl]⟩⟩;rw[hl]at this;exact this
def T6 (hl:T.Len D m)(hR:T.Rng D):∀(n:Nat) (ks:List Nat),ks.length=n->(∀k∈ks,k<m)->(runT D T ks).Len D m/\(runT D T ks).Rng D/\(runT D T ks).ab=T.ab:=by
 intro n
 induction n with
 |zero =>
  intro ks h _;obtain rfl:=VF h;exact⟨hl,hR,rfl⟩
 |succ n ih =>
  intro ks h1 h2;obtain⟨qs,k,rfl⟩:∃qs a,ks=qs++[a]:=by
   rcases XL ks with h|⟨qs,a,h⟩
   ·rw[h]at h1;cases h1
   ·exact⟨qs,a,by rw[h,XM]⟩
  rw[List.length_append,Wl]at h1;obtain⟨a1,a2,a3⟩:=ih qs O fun k hk=>h2 k (by simp[hk]);rw[AM];exact⟨FJ a1 k _,FK a1 a2 (h2 k ZF) _ ZI,(FI _ _ _ _).trans a3⟩
def oT (D:ZS)(I:Nat->Nat->Nat)(ks:List Nat):List ZK:=ks.map fun k=>.U (I k 5) 0 0 (D.cs k) 1
def T7 {lo2 s:Nat}(hS:ZW d r lo s lvh I T tot H)(hp:ks.Perm (List.range r.length))(hl2:lo<=lo2)(hv:aD lo2 H 42 v (oT (aw d r) I ks)):
  Z2 lo H 42 3 v (ks.map fun k=>I k 5) ((ks.map fun k=>T.ch k).map ints):=by
 have hm:∀k∈ks,k<r.length:=fun k hk=>VP.1 (hp.mem_iff.1 hk);refine⟨ZF,?_,fun i hi=>?_,?_,fun j id q h1 h2=>?_⟩
 ·show List.Pairwise _ _;rw[X3];refine(List.Pairwise.and_mem.1 (hp.nodup_iff.2 Xp)).imp fun {a b} ⟨ha,hb,hne⟩ e=>hne (hS.ng.inj a 5 b 5 (hm a ha) (hm b hb) O O e).1
 ·obtain⟨k,hk,rfl⟩:=VI.1 hi;exact hS.ng.nk k 5 (hm k hk) (O)
 ·have e:List.zipWith (fun i n=>ZK.U i 0 0 n 1) (ks.map fun k=>I k 5) (((ks.map fun k=>T.ch k).map ints).map List.length)=oT (aw d r) I ks:=by
   unfold oT;rw[Xg,Xg,List.zipWith_map,List.zipWith_self];refine V1 fun k hk=>?_;show ZK.U (I k 5) 0 0 (ints (T.ch k)).length 1=_;rw[aR,hS.ng.len.ch k (hm k hk)]
  rw[e];exact hv.nc hl2 ZI fun _ _ _ _ _ _=>rfl
 ·rw[List.getElem?_map]at h1;rw[List.getElem?_map,List.getElem?_map]at h2;cases hk:ks[j]? with
  |none=>rw[hk]at h1;cases h1
  |some k =>
   rw[hk]at h1 h2;cases h1;cases h2;exact hS.ng.ny k 5 (hm k (an hk)) O (O)
def choose_spec (hok:ZR d)(hr:Z6 d r)(hrl:r.length<=12)(h64:d.C.length<=64){s:Nat}(H:ZJ)(hS:ZW d r lo s lvh I (dW (aw d r) (fg (aw d r)) 0) tot H)(hnil:r=[]->lvh=.lit (.slice none 0 0))(K:ZP->ZJ->Prop)
  (hK:∀v ids T' H',H.A<=H'.A->(∀i,i<H.A->i≠s->(∀k j,k<r.length->j<6->i≠I k j)->H'.get i=H.get i)->ZW d r lo s lvh I T' tot H'->Z2 lo H' 42 3 v ids ((jl d r).map ints)->K (.ret v) H'):
  ag prog G0 72 [.M s 0 0] H K:=by
 obtain⟨D,hDe⟩:∃D,D=aw d r:=⟨_,rfl⟩
 have hr64:∀k,k<r.length->r.getD k 0<64:=fun k hk=>by
  obtain⟨v,hv⟩:=ao hk;rw[gT hv];have:=(fQ.1 (hr.mem v (an hv))).1;omega
 have hsz:=FC hok hr;have hsl:=hS.nE;refine ag.sw (n:=30) (rs:=[.tmp 2]) func72 ?_;refine W.sq ?_;simp only[go_sem];obtain⟨H1,hH1⟩:∃H1,H1=ext H [.J 0 134 [.M s 0 0]]:=⟨_,rfl⟩
 have g1:=de hH1
 have n1:H1.A=H.A+1:=hH1▸rfl
 have o1:ZN H H1:=hH1▸.ext _ _
 rw[<- hH1];clear hH1;have hS1:=hS.nc (H':=H1) O fun i _ h=>o1.nb i h;have l1:=ae g1;have ls:=ae hS1.top;refine W.sq ?_;simp only[go_sem,l1,ls];have hones:(jL I r.length).all ZK.one=true:=by simp[jL];intro x _;rfl
 refine au.Z (T4 (by rw[kG];omega) hones H1 hS1.lv (fun h=>hnil (List.length_eq_zero_iff.1 (by rw[<- kG I r.length,h];rfl))) _ fun v2 H2 o2 hv2=>⟨trivial,?_⟩);have hS2:=hS1.nc (H':=H2) o2.A fun i _ h=>o2.nb i h;have g2:=(o2.nb _ O).trans g1;simp only[go_sem];refine W.sq ?_;simp only[go_sem];refine au.Z (T5 hrl hr64 H2 hS2.ng hv2 (fun id g m he k j h1 h2 e=>?_) _ fun ks H3 hp hs n3 o3 hv3=>⟨trivial,?_⟩)
 ·have:=(hS1.ng.nk k j h1 h2).2;exact hv2.ne (by rw[e];exact this) g m he
 have kl:=hp.length_eq;rw[WG]at kl;have hkm:∀k∈ks,k<r.length:=fun k hk=>VP.1 (hp.mem_iff.1 hk);have k3:∀i,i<H1.A->H3.get i=H1.get i:=fun i h=>(o3 i (hv2.ne h)).trans (o2.nb i h);have hS3:=hS1.nc (H':=H3) (by have:=o2.A;omega) fun i _ h=>k3 i h;have g3:=(k3 _ O).trans g1;have hlen:nI prog H3 176 v2=some (aa r.length):=by
  rcases hv3 with ⟨h1,h2⟩|⟨id,g,_,_,h1,h2⟩
  ·have:=congrArg List.length h2;rw[oN,List.length_nil]at this;rw[h1,show r.length=0 by omega];rfl
  ·rw[h1];simp only[go_sem];rw[ae h2,oN,kl];rfl
 simp only[go_sem];refine W.sq ?_;simp only[go_sem];refine W.sq ?_;simp only[go_sem];refine W.sq ?_;simp only[go_sem,hlen];refine W.en (fun E=>E 4=.Z 118 [] [.M H.A 0 0] /\ E 5=.lit (.slice none 0 0) /\ E 16=v2 /\ E 17=aa r.length /\ E 18=aa 0) (by simp only[go_sem]) fun E ⟨e4,e5,e16,e17,e18⟩=>?_
 have n3':H1.A<=H3.A:=by rw[n3];exact o2.A
 obtain⟨T0,hT0⟩:∃T0,T0=dW D (fg D) 0:=⟨_,rfl⟩
 have hl0:T0.Len D r.length:=by rw[hT0];exact hDe ▸ hS.ng.len
 have hst:=FS (sJ hok hr.mem) (sL hok hr);have hR0:T0.Rng D:=by rw[hT0,hDe];exact hst.nk
 have h00:∀c,c<D.cs 0->(T0.ab 0).getD c 0=0:=by rw[hT0,hDe];exact hst.h0
 rw[<- hDe,<- hT0]at hS3;have hB3:=hS1.uY;refine W.aP 536608928 (by rfl) (fun ρ Hx=>∃(j:Nat) (p:ZK),ρ 18=aa j/\j<=r.length/\ρ 5=p/\H3.A<=Hx.A/\(∀i,i<H3.A->i≠s->(∀k j,k<r.length->j<6->i≠I k j)->Hx.get i=H3.get i)/\ZW d r lo s lvh I (runT D T0 (ks.take j)) tot Hx/\aD H3.A Hx 42 p (oT D I (ks.take j))) (fun ρ Hx=>r.length-(iv (ρ 18)).toNat) ?_ ?_
 ·exact⟨0,_,e18,WO _,e5,ZI,fun _ _ _ _=>rfl,hS3,.nil⟩
 rintro ρ Hx ⟨j,p,h18,hj,h5,hnx,hout,hSx,hO⟩;refine W.en (fun E1=>E1 4=.Z 118 [] [.M H.A 0 0] /\ E1 5=p /\ E1 16=v2 /\ E1 17=aa r.length /\ E1 18=aa j) (by simp only[go_sem,e4,h5,e16,e17,h18]) fun E1 ⟨f4,f5,f16,f17,f18⟩=>?_
 by_cases hb:(j:Int)<r.length;rotate_left
 ·refine W.vs ?_;simp only[go_sem,f17,f18,hb];refine W.vs ?_;simp only[go_sem,f5];have hjn:j=ks.length:=O
  rw[hjn,XG]at hSx hO;have hrun:=T3 hok hr hp hs;refine aq.mk O (hK p (ks.map fun k=>I k 5) _ Hx O (fun i h1 h2 h3=>(hout i O h2 h3).trans ((k3 i O).trans (o1.nb i h1))) hSx ?_);rw[hDe]at hO;have:=T7 hSx hp O hO;rw[hT0,hDe,hrun]at this;exact this
 obtain⟨k,hk⟩:=ao (l:=ks) (i:=j) O;have hkr:=hkm k (an hk);obtain⟨id2,g2,q1,q2,hv2e,hv2g⟩:∃id g,H1.A<=id/\id<H3.A/\v2=.U id g 0 r.length 1/\H3.get id=some (.J g 179 (gV I ks)):=by
  rcases hv3 with ⟨_,h2⟩|⟨id,g,a1,a2,h1,h2⟩
  ·have:=congrArg List.length h2;rw[oN,List.length_nil]at this;omega
  ·rw[oN,kl]at h1;rw[n3]at a2;exact⟨id,g,a1,O,h1,h2⟩
 rw[hv2e]at f16;have ne2:∀i,H1.A<=i->i≠s/\∀k j,k<r.length->j<6->i≠I k j:=fun i h=>⟨by have:=hB3.1;omega,fun k j h1 h2=>by have:=hB3.2.1 k j h1 h2;omega⟩
 have gx2:=(hout id2 q2 (ne2 id2 q1).1 (ne2 id2 q1).2).trans hv2g;have lx2:=ae gx2;have plen:=oN I ks;rw[kl]at plen;have gk:=uV (I:=I) hk;have gkn:=aO gk;refine W.sq ?_;simp only[go_sem,f17,f18,hb];refine W.sq ?_;simp only[go_sem];refine W.seq (W.block ?_);refine W.sq ?_;simp only[go_sem,f16,f18,lx2,gk,hb];have gbx:Hx.get H.A=some (.J 0 134 [.M s 0 0]):=(hout H.A O (by have:=hB3.1;omega) fun k j h1 h2=>by have:=(hS.ng.nk k j h1 h2).2;omega).trans g3;obtain⟨a1,a2,a3⟩:=T6 hl0 hR0 _ (ks.take j) rfl fun k h=>hkm k (VU h);refine W.vs ?_;simp only[go_sem,f4,f5];rw[hDe]at hSx a2 hT0;refine au.Z (Tz (tot:=tot) O hsz a2 (fun c h=>by rw[<- hDe,a3];exact h00 c (by rw[hDe];exact h)) hkr H.A Hx gbx O ⟨O,fun k j h1 h2=>by have:=(hS.ng.nk k j h1 h2).2;omega⟩ hSx _ fun H4 n4 o4 hS4=>⟨trivial,?_⟩);have hO4:aD H3.A H4 42 p (oT D I (ks.take j)):=hO.nc ZI O fun i g h1 h2 _ _=>o4 i (ne2 i O).1 (ne2 i O).2;obtain⟨p2,H5,hA,hO5,n5,hp5⟩:=iR (P:=prog) (H:=H4) (t:=33) (x:=.U (I k 5) 0 0 (D.cs k) 1) (n:=H4.A+1) Tryz.underlying33 Tryz.nW Tryz.nY rfl (by rw[Tryz.nX];simp[oT];omega) hO4 O rfl;rw[hDe]at hA;have hvc:=hO5.cells;have hvo:=hO5.one;simp only[go_sem,hA];have wj:=Vv ((j:Int)+1) O;refine W.vs ?_;simp only[go_sem,f18,wj];have ht:ks.take (j+1)=ks.take j++[k]:=by rw[YN,hk];rfl
 have hS5:=hS4.jM hB3 n5 fun i hi=>hp5 i O (hO4.ne O);refine⟨O,⟨j+1,p2,rfl,O,rfl,O,fun i h1 h2 h3=>?_,?_,?_⟩,by rw[h18];simp only[aa,aZ];omega⟩
 ·rw[hp5 i O (hO4.ne h1),o4 i h2 h3];exact hout i h1 h2 h3
 ·rw[ht,AM,hDe];exact hS5
 ·have e:oT D I (ks.take (j+1))=oT D I (ks.take j)++[.U (I k 5) 0 0 (D.cs k) 1]:=by rw[ht];simp[oT]
  rw[e];exact hO5
structure nnk (S D a b g:Int):Prop where
 g1:1<=g
 n:a*g=S
 d:b*g=D
 b1:1<=b
 cop:Int.gcd a b=1
def AQ {S D:Int}(hD:1<=D):∃a b g:Int,eM S D=.agg [.lit (.int .i64 a),.lit (.int .i64 b)]/\nnk S D a b g:=by
 obtain⟨G,hG⟩:∃G,G=Int.gcd S D:=⟨_,rfl⟩
 have g0:0<G:=by rw[hG];exact YV _ (O)
 obtain⟨a,ha⟩:(G:Int) ∣ S:=by rw[hG];exact Int.gcd_dvd_left ..
 obtain⟨b,hb⟩:(G:Int) ∣ D:=by rw[hG];exact Int.gcd_dvd_right ..
 have gne:(G:Int)≠0:=O
 have hgc:G=G*Int.gcd a b:=by
  have h:=Int.gcd_mul_left (G:Int) a b;rw[<- ha,<- hb,<- hG,XI]at h;exact h
 have hc:Int.gcd a b=1:=by
  have:G*1=G*Int.gcd a b:=O
  exact(Nat.eq_of_mul_eq_mul_left g0 this).symm
 have hb1:1<=b:=by
  rcases Int.lt_or_le b 1 with h|h
  ·have:(G:Int)*b<=(G:Int)*0:=VY O O;omega
  ·exact h
 refine⟨a,b,G,?_,O,by rw[W5];exact ha.symm,by rw[W5];exact hb.symm,hb1,hc⟩;unfold eM;rw[<- hG];have e1:S.tdiv (G:Int)=a:=by rw[ha];exact Zc a gne
 have e2:D.tdiv (G:Int)=b:=by rw[hb];exact Zc b gne
 rw[e1,e2]
def nnk.bound {S D a b g:Int}(h:nnk S D a b g):a.natAbs<=S.natAbs/\b<=D:=by
 have h1:S.natAbs=a.natAbs*g.natAbs:=by rw[<- h.n,Int.natAbs_mul]
 have h2:D.natAbs=b.natAbs*g.natAbs:=by rw[<- h.d,Int.natAbs_mul]
 have hg:0<g.natAbs:=by have:=h.g1;omega
 have l1:=Zd a.natAbs hg;have l2:=Zd b.natAbs hg;have l3:b.natAbs<=D.natAbs:=O
 have hb:=h.b1;have hD:0<=D:=by rw[<- h.d];exact WT O (by have:=h.g1;omega)
 omega
def Gd {x y m:Int}(hm:1<=m):R01.di (x*m) (y*m)=R01.di x y:=by
 have h1:x*m<y*m↔x<y:=Int.mul_lt_mul_right O;have h2:x*m=y*m↔x=y:=⟨fun h=>Int.eq_of_mul_eq_mul_right O h,fun h=>by rw[h]⟩
 unfold R01.di;simp only[h1,h2]
def nnk.cmp {S1 S2 D a1 b1 g1 a2 b2 g2:Int}(hD:1<=D)(h1:nnk S1 D a1 b1 g1)(h2:nnk S2 D a2 b2 g2):R01.di (a1*b2) (a2*b1)=R01.di S1 S2:=by
 have hg:1<=g1*g2:=by
  have:=Ww h1.g1 h2.g1 O (by have:=h1.g1;omega);omega
 rw[<- Gd hg,<- Gd (x:=S1) (y:=S2) hD];congr 1
 ·rw[<- h1.n,<- h2.d];simp only[X1,W5,Int.mul_left_comm]
 ·rw[<- h2.n,<- h1.d];simp only[X1,W5,Int.mul_left_comm]
def nnk.check {S D a b g:Int}(h:nnk S D a b g)(hS:S.natAbs<=4611686018427387903)(hD:D<=4611686018427387903):R01.nC a b=0:=by
 have hb:=h.bound;have:=h.b1;unfold R01.nC R01.ve;rw[Vx O,Vx (by rw[h.cop];simp)]
def Ge {x:ZM}(hok:ZR x):1<=x.X ^ x.C.length/\x.X ^ x.C.length<=167961600000000:=by
 have hg:=hok.nA.g1;refine⟨Yt O,?_⟩;have h1:=oa (b:=60) O (l:=List.replicate x.C.length x.X) fun c hc=>by rw[Wv hc];omega
 rw[VR]at h1;have h2:=uP x.C.length (by have:=hok.n.n1;omega);have h3:∀k:Nat,aj (List.replicate k x.X)=x.X ^ k:=fun k=>by
  induction k with
  |zero=>rw[YG,iT,YC]
  |succ k ih=>rw[WC,je,ih,W4,W5]
 rw[h3]at h1;omega
def UA {S1 S2 D a1 b1 g1 a2 b2 g2:Int}(e1:eM S1 D=.agg [.lit (.int .i64 a1),.lit (.int .i64 b1)])(h1:nnk S1 D a1 b1 g1)(e2:eM S2 D=.agg [.lit (.int .i64 a2),.lit (.int .i64 b2)])(h2:nnk S2 D a2 b2 g2):(a1 == a2 && b1 == b2)=decide (S1=S2):=by
 by_cases h:S1=S2
 ·subst h;rw[e1]at e2;injection e2 with e2
  injection e2 with p q
  injection q with q _
  injection p with p
  injection q with q
  injection p with _ p
  injection q with _ q
  rw[p,q];simp
 ·rw[W2 h];by_cases ha:a1=a2
  ·by_cases hb:b1=b2
   ·exfalso;subst ha hb;have:b1*g1=b1*g2:=(by rw[h1.d,h2.d]);have:=Int.eq_of_mul_eq_mul_left (by have:=h1.b1;omega) this;exact h (by rw[<- h1.n,<- h2.n,this])
   ·simp[hb]
  ·simp[ha]
end Go.Proofs
