/- Own work: contracts. -/
import Derived.Test.YtjhbjbninamhnaaGreatConH
import Derived.Test.YtjhbjbninamhnaaGreatConC
import Derived.Test.YtjhbjbninamhnaaGreatConG
import Derived.Test.YtjhbjbninamhnaaGreatConE
import Derived.Test.YtjhbjbninamhnaaGreatConF
import Derived.SizedLaws
set_option linter.all false
set_option maxHeartbeats 8000000
set_option maxRecDepth 100000
namespace Go.Proofs
open Go.Hx Tryz
variable {tot:Int}{r:List Nat}{lo:Nat}{I:Nat->Nat->Nat}{lvh v:W9}{d:Xa}{D:Xg}{T:Xj}{H:Xn}
def Q3 {cs:List W9}(hl:cs.length<=64)(hone:cs.all W9.one=true)(H:Xn)(hv:aD lo H 170 v cs)(hnil:cs=[]->v=.lit (.slice none 0 0))(K:Xd->Xn->Prop)(hK:∀v' H',Xb H H'->aD H.A H' 170 v' cs->K (.ret v') H'):
  ae prog G0 108 [v] H K:=by
 by_cases h0:cs=[]
 ·rw[hnil h0];have hK0:=hK (.lit (.slice none 0 0)) H (.refl _) (by rw[h0];exact .nil);have nn:∀x y,bn prog .eql 128 x y (.lit (.slice none 0 0)) (.lit (.slice none 0 0))=some (.lit (.bool true)):=fun x y=>by rfl
  refine ae.sw (n:=8) (rs:=[.tmp 2]) func108 ?_;refine W.sq ?_;simp only[go_sem];refine W.sq ?_;simp only[go_sem,nn];exact ar.mk W8 hK0
 ·exact QB h0 hl hone H hv K fun id g H' ho h1 h2 h3=>hK _ H' ho (.inr ⟨id,g,h1,h2,rfl,h3⟩)
def Q4 {lo2 n:Nat}(h12:n<=12)(hr:∀k,k<n->r.getD k 0<64)(H:Xn)(hL:XF D r lo n I T H)(hv:aD lo2 H 170 v (iX I n))(hI:∀id g m,v=.Q id g 0 m 1->∀k j,k<n->j<6->id≠I k j)(K:Xd->Xn->Prop)
  (hK:∀ks H',ks.Perm (List.range n)->ow (fun a=>r.getD a 0) ks ks.length->H'.A=H.A->(∀i,(∀g m,v≠.Q i g 0 m 1)->H'.get i=H.get i)->aD lo2 H' 170 v (fS I ks)->K (.ret (.na [])) H'):
  ae prog G0 109 [v,.Z 110 [] []] H K:=by
 refine QS (n:=n) (Q:=fun H'=>∃ks:List Nat,ks.Perm (List.range n)/\ow (fun a=>r.getD a 0) ks ks.length/\H'.A=H.A/\(∀i,(∀g m,v≠.Q i g 0 m 1)->H'.get i=H.get i)/\aD lo2 H' 170 v (fS I ks)) h12 H (fun H' ⟨_,_,_,h,_⟩=>O) (hv.nb (Uh _) W8 fun _ _ _ _ _ _=>rfl) (jK I n) (fun K' hK'=>?_) K fun H' ⟨ks,h1,h2,h3,h4,h5⟩=>hK ks H' h1 h2 h3 h4 h5;rcases Tg n 2 with h1|h1
 ·refine QT O H K' (hK' H ⟨List.range n,.refl _,fun a b h2 h3=>?_,rfl,fun _ _=>rfl,?_⟩)
  ·rw[TU]at h3;omega
  ·rw[DN];exact hv
 ·rcases hv with ⟨_,h2⟩|⟨id,g,q1,q2,h3,h4⟩
  ·have:=congrArg List.length h2;rw[jK,List.length_nil]at this;omega
  ·rw[jK]at h3;have hsep:=hI id g n h3;rw[h3];have hl:(List.range n).length=n:=TU;have:=QP (D:=D) (r:=r) (lo:=lo) (m:=n) (I:=I) (T:=T) (id:=id) (g:=g) (l:=List.range n) (by rw[hl];omega) (by rw[hl];omega) (fun a ha=>S7.1 ha) (fun a ha=>hr a (S7.1 ha)) H hL (by rw[DN];exact h4) hsep K' fun l' H' e1 e2 e3=>hK' H' ⟨l',e2,by rw[e2.length_eq];exact e3,by rw[e1,aF],fun i hi=>by rw[e1,ag,SQ fun e=>hi g n (by rw[h3,e])],.inr ⟨id,g,q1,by rw[e1,aF];exact q2,by rw[mW,e2.length_eq,hl];exact h3,by rw[e1,ag,SU rfl]⟩⟩;rw[hl]at this;exact this
def Q5 {m:Nat}(hl:T.Len D m)(hR:T.Rng D):∀(n:Nat) (ks:List Nat),ks.length=n->(∀k∈ks,k<m)->(runT D T ks).Len D m/\(runT D T ks).Rng D/\(runT D T ks).ab=T.ab:=by
 intro n
 induction n with
 |zero =>
  intro ks h _;obtain rfl:=S3 h;exact⟨hl,hR,rfl⟩
 |succ n ih =>
  intro ks h1 h2;obtain⟨qs,k,rfl⟩:∃qs a,ks=qs++[a]:=by
   rcases U4 ks with h|⟨qs,a,h⟩
   ·rw[h]at h1;cases h1
   ·exact⟨qs,a,by rw[h,U5]⟩
  rw[List.length_append,TR]at h1;obtain⟨a1,a2,a3⟩:=ih qs O fun k hk=>h2 k (by simp[hk]);rw[zp];exact⟨DL a1 k _,DM a1 a2 (h2 k W5) _ W8,(DK _ _ _ _).trans a3⟩
def mZ (D:Xg)(I:Nat->Nat->Nat)(ks:List Nat):List W9:=ks.map fun k=>.Q (I k 5) 0 0 (D.cs k) 1
def Q6 {lo2 s:Nat}{ks:List Nat}(hS:Xi d r lo s lvh I T tot H)(hp:ks.Perm (List.range r.length))(hl2:lo<=lo2)(hv:aD lo2 H 46 v (mZ (ao d r) I ks)):
  Xr lo H 46 3 v (ks.map fun k=>I k 5) ((ks.map fun k=>T.ch k).map ints):=by
 have hm:∀k∈ks,k<r.length:=fun k hk=>S7.1 (hp.mem_iff.1 hk);refine⟨W5,?_,fun i hi=>?_,?_,fun j id q h1 h2=>?_⟩
 ·show List.Pairwise _ _;rw[Vu];refine(List.Pairwise.and_mem.1 (hp.nodup_iff.2 Uy)).imp fun {a b} ⟨ha,hb,hne⟩ e=>hne (hS.nc.inj a 5 b 5 (hm a ha) (hm b hb) O O e).1
 ·obtain⟨k,hk,rfl⟩:=S4.1 hi;exact hS.nc.ng k 5 (hm k hk) (O)
 ·have e:List.zipWith (fun i n=>W9.Q i 0 0 n 1) (ks.map fun k=>I k 5) (((ks.map fun k=>T.ch k).map ints).map List.length)=mZ (ao d r) I ks:=by
   unfold mZ;rw[Us,Us,List.zipWith_map,List.zipWith_self];refine Tf fun k hk=>?_;show W9.Q (I k 5) 0 0 (ints (T.ch k)).length 1=_;rw[aS,hS.nc.len.ch k (hm k hk)]
  rw[e];exact hv.nb hl2 W8 fun _ _ _ _ _ _=>rfl
 ·rw[List.getElem?_map]at h1;rw[List.getElem?_map,List.getElem?_map]at h2;cases hk:ks[j]? with
  |none=>rw[hk]at h1;cases h1
  |some k =>
   rw[hk]at h1 h2;cases h1;cases h2;exact hS.nc.nr k 5 (hm k (an hk)) O (O)
def choose_spec (hok:Xf d)(hr:Xu d r)(hrl:r.length<=12)(h64:d.C.length<=64){s:Nat}(H:Xn)(hS:Xi d r lo s lvh I (dm (ao d r) (ep (ao d r)) 0) tot H)(hnil:r=[]->lvh=.lit (.slice none 0 0))(K:Xd->Xn->Prop)
  (hK:∀v ids T' H',H.A<=H'.A->(∀i,i<H.A->i≠s->(∀k j,k<r.length->j<6->i≠I k j)->H'.get i=H.get i)->Xi d r lo s lvh I T' tot H'->Xr lo H' 46 3 v ids ((dX d r).map ints)->K (.ret v) H'):
  ae prog G0 47 [.R s 0 0] H K:=by
 obtain⟨D,hDe⟩:∃D,D=ao d r:=⟨_,rfl⟩
 have hr64:∀k,k<r.length->r.getD k 0<64:=fun k hk=>by
  obtain⟨v,hv⟩:=aq hk;rw[fQ hv];have:=(dS.1 (hr.mem v (an hv))).1;omega
 have hsz:=DD hok hr;have hsl:=hS.nz;refine ae.sw (n:=30) (rs:=[.tmp 2]) func47 ?_;refine W.sq ?_;simp only[go_sem];obtain⟨H1,hH1⟩:∃H1,H1=ext H [.J 0 110 [.R s 0 0]]:=⟨_,rfl⟩
 have g1:=dv hH1
 have n1:H1.A=H.A+1:=hH1▸rfl
 have o1:Xb H H1:=hH1▸.ext _ _
 rw[<- hH1];clear hH1;have hS1:=hS.nb (H':=H1) O fun i _ h=>o1.nl i h;have l1:=af g1;have ls:=af hS1.top;refine W.sq ?_;simp only[go_sem,l1,ls];have hones:(iX I r.length).all W9.one=true:=by simp[iX];intro x _;rfl
 refine az.Z (Q3 (by rw[jK];omega) hones H1 hS1.lv (fun h=>hnil (List.length_eq_zero_iff.1 (by rw[<- jK I r.length,h];rfl))) _ fun v2 H2 o2 hv2=>⟨trivial,?_⟩);have hS2:=hS1.nb (H':=H2) o2.A fun i _ h=>o2.nl i h;have g2:=(o2.nl _ O).trans g1;simp only[go_sem];refine W.sq ?_;simp only[go_sem];refine az.Z (Q4 hrl hr64 H2 hS2.nc hv2 (fun id g m he k j h1 h2 e=>?_) _ fun ks H3 hp hs n3 o3 hv3=>⟨trivial,?_⟩)
 ·have:=(hS1.nc.ng k j h1 h2).2;exact hv2.ne (by rw[e];exact this) g m he
 have kl:=hp.length_eq;rw[TU]at kl;have hkm:∀k∈ks,k<r.length:=fun k hk=>S7.1 (hp.mem_iff.1 hk);have k3:∀i,i<H1.A->H3.get i=H1.get i:=fun i h=>(o3 i (hv2.ne h)).trans (o2.nl i h);have hS3:=hS1.nb (H':=H3) (by have:=o2.A;omega) fun i _ h=>k3 i h;have g3:=(k3 _ O).trans g1;have hlen:mm prog H3 128 v2=some (aa r.length):=by
  rcases hv3 with ⟨h1,h2⟩|⟨id,g,_,_,h1,h2⟩
  ·have:=congrArg List.length h2;rw[mW,List.length_nil]at this;rw[h1,show r.length=0 by omega];rfl
  ·rw[h1];simp only[go_sem];rw[af h2,mW,kl];rfl
 simp only[go_sem];refine W.sq ?_;simp only[go_sem];refine W.sq ?_;simp only[go_sem];refine W.sq ?_;simp only[go_sem,hlen];refine W.en (fun E=>E 4=.Z 111 [] [.R H.A 0 0] /\ E 5=.lit (.slice none 0 0) /\ E 16=v2 /\ E 17=aa r.length /\ E 18=aa 0) (by simp only[go_sem]) fun E ⟨e4,e5,e16,e17,e18⟩=>?_
 have n3':H1.A<=H3.A:=by rw[n3];exact o2.A
 obtain⟨T0,hT0⟩:∃T0,T0=dm D (ep D) 0:=⟨_,rfl⟩
 have hl0:T0.Len D r.length:=by rw[hT0];exact hDe ▸ hS.nc.len
 have hst:=DT (qM hok hr.mem) (qO hok hr);have hR0:T0.Rng D:=by rw[hT0,hDe];exact hst.ng
 have h00:∀c,c<D.cs 0->(T0.ab 0).getD c 0=0:=by rw[hT0,hDe];exact hst.h0
 rw[<- hDe,<- hT0]at hS3;have hB3:=hS1.tj;refine W.aP 536608928 (by rfl) (fun ρ Hx=>∃(j:Nat) (p:W9),ρ 18=aa j/\j<=r.length/\ρ 5=p/\H3.A<=Hx.A/\(∀i,i<H3.A->i≠s->(∀k j,k<r.length->j<6->i≠I k j)->Hx.get i=H3.get i)/\Xi d r lo s lvh I (runT D T0 (ks.take j)) tot Hx/\aD H3.A Hx 46 p (mZ D I (ks.take j))) (fun ρ Hx=>r.length-(iv (ρ 18)).toNat) ?_ ?_
 ·exact⟨0,_,e18,Uh _,e5,W8,fun _ _ _ _=>rfl,hS3,.nil⟩
 rintro ρ Hx ⟨j,p,h18,hj,h5,hnx,hout,hSx,hO⟩;refine W.en (fun E1=>E1 4=.Z 111 [] [.R H.A 0 0] /\ E1 5=p /\ E1 16=v2 /\ E1 17=aa r.length /\ E1 18=aa j) (by simp only[go_sem,e4,h5,e16,e17,h18]) fun E1 ⟨f4,f5,f16,f17,f18⟩=>?_
 by_cases hb:(j:Int)<r.length;rotate_left
 ·refine W.vs ?_;simp only[go_sem,f17,f18,hb];refine W.vs ?_;simp only[go_sem,f5];have hjn:j=ks.length:=O
  rw[hjn,Vi]at hSx hO;have hrun:=zq hok hr hp hs;refine ar.mk O (hK p (ks.map fun k=>I k 5) _ Hx O (fun i h1 h2 h3=>(hout i O h2 h3).trans ((k3 i O).trans (o1.nl i h1))) hSx ?_);rw[hDe]at hO;have:=Q6 hSx hp O hO;rw[hT0,hDe,hrun]at this;exact this
 obtain⟨k,hk⟩:=aq (l:=ks) (i:=j) O;have hkr:=hkm k (an hk);obtain⟨id2,g2,q1,q2,hv2e,hv2g⟩:∃id g,H1.A<=id/\id<H3.A/\v2=.Q id g 0 r.length 1/\H3.get id=some (.J g 170 (fS I ks)):=by
  rcases hv3 with ⟨_,h2⟩|⟨id,g,a1,a2,h1,h2⟩
  ·have:=congrArg List.length h2;rw[mW,List.length_nil]at this;omega
  ·rw[mW,kl]at h1;rw[n3]at a2;exact⟨id,g,a1,O,h1,h2⟩
 rw[hv2e]at f16;have ne2:∀i,H1.A<=i->i≠s/\∀k j,k<r.length->j<6->i≠I k j:=fun i h=>⟨by have:=hB3.1;omega,fun k j h1 h2=>by have:=hB3.2.1 k j h1 h2;omega⟩
 have gx2:=(hout id2 q2 (ne2 id2 q1).1 (ne2 id2 q1).2).trans hv2g;have lx2:=af gx2;have plen:=mW I ks;rw[kl]at plen;have gk:=ta (I:=I) hk;have gkn:=aM gk;refine W.sq ?_;simp only[go_sem,f17,f18,hb];refine W.sq ?_;simp only[go_sem];refine W.seq (W.block ?_);refine W.sq ?_;simp only[go_sem,f16,f18,lx2,gk,hb];have gbx:Hx.get H.A=some (.J 0 110 [.R s 0 0]):=(hout H.A O (by have:=hB3.1;omega) fun k j h1 h2=>by have:=(hS.nc.ng k j h1 h2).2;omega).trans g3;obtain⟨a1,a2,a3⟩:=Q5 hl0 hR0 _ (ks.take j) rfl fun k h=>hkm k (Tj h);refine W.vs ?_;simp only[go_sem,f4,f5];rw[hDe]at hSx a2 hT0;refine az.Z (Qz (tot:=tot) O hsz a2 (fun c h=>by rw[<- hDe,a3];exact h00 c (by rw[hDe];exact h)) hkr H.A Hx gbx O ⟨O,fun k j h1 h2=>by have:=(hS.nc.ng k j h1 h2).2;omega⟩ hSx _ fun H4 n4 o4 hS4=>⟨trivial,?_⟩);have hO4:aD H3.A H4 46 p (mZ D I (ks.take j)):=hO.nb W8 O fun i g h1 h2 _ _=>o4 i (ne2 i O).1 (ne2 i O).2;obtain⟨p2,H5,hA,hO5,n5,hp5⟩:=iT (P:=prog) (H:=H4) (t:=33) (x:=.Q (I k 5) 0 0 (D.cs k) 1) (n:=H4.A+1) Tryz.underlying33 Tryz.uH Tryz.uJ rfl (by rw[Tryz.uI];simp[mZ];omega) hO4 O rfl;rw[hDe]at hA;have hvc:=hO5.cells;have hvo:=hO5.one;simp only[go_sem,hA];have wj:=SN ((j:Int)+1) O;refine W.vs ?_;simp only[go_sem,f18,wj];have ht:ks.take (j+1)=ks.take j++[k]:=by rw[V9,hk];rfl
 have hS5:=hS4.iY hB3 n5 fun i hi=>hp5 i O (hO4.ne O);refine⟨O,⟨j+1,p2,rfl,O,rfl,O,fun i h1 h2 h3=>?_,?_,?_⟩,by rw[h18];simp only[aa,bj];omega⟩
 ·rw[hp5 i O (hO4.ne h1),o4 i h2 h3];exact hout i h1 h2 h3
 ·rw[ht,zp,hDe];exact hS5
 ·have e:mZ D I (ks.take (j+1))=mZ D I (ks.take j)++[.Q (I k 5) 0 0 (D.cs k) 1]:=by rw[ht];simp[mZ]
  rw[e];exact hO5
def rj {S:Nat->Prop}{nx:Nat}(d:Xa):Fz S H nx (eC d) (eC d):=by
 refine .agg rfl fun i hi _=>?_
 match i,hi with
 |0,_=>exact .lit _
 |1,_=>exact q8 _
 |2,_=>exact .lit _
 |3,_=>exact .M rfl fun j h h'=>yy d.V _ (TC h)
end Go.Proofs
namespace Go.Hx
variable {P:Program}
end Go.Hx
namespace Go.Proofs
open Go.Hx Tryz
variable {b:Bool}{p q r:List (List Int)}{k nx v:Nat}{pv:W9}{d:Xa}{H H':Xn}
def D4 (d:Xa)(q:List (List Int)):List (List Int):=(aK d).foldl (pf d) q
def vW (d:Xa)(q:List (List Int)):Nat->List (List Int)
 |0=>q
 |n+1=>D4 d (vW d q n)
structure Imp (d:Xa)(p q:List (List Int))(n:Nat):Prop where
 ok:Xo d q
 same:n=0->q=p
 loc:isLocal d p->n=0
 sum:dU d (fixC p)+n<=dU d (fixC q)
 it:q=vW d p n
 bef:∀j,j<n->¬isLocal d (vW d p j)
def Imp.start (h:Xo d p):Imp d p p 0:=⟨h,fun _=>rfl,fun _=>rfl,W5,rfl,fun j h=>absurd h (Tb _)⟩
structure Rnd (d:Xa)(q:List (List Int))(k:Nat)(b:Bool)(r:List (List Int)):Prop where
 ok:Xo d r
 no:b=false->r=q/\∀j v,j<k->(aK d)[j]?=some v->od d q v
 yes:b=true->¬isLocal d q/\dU d (fixC q)<dU d (fixC r)
 fold:r=((aK d).take k).foldl (pf d) q
def Rnd.start (h:Xo d q):Rnd d q 0 false q:=⟨h,fun _=>⟨rfl,fun j v hj=>absurd hj (Tb _)⟩,fun h=>Bool.noConfusion h,rfl⟩
def D5 (h:r=((aK d).take k).foldl (pf d) q)(hv:(aK d)[k]?=some v):pf d r v=((aK d).take (k+1)).foldl (pf d) q:=by
 rw[aU hv,TZ,<- h];rfl
def Rnd.SL (h:Rnd d q k b r)(hv:(aK d)[k]?=some v)(hb:od d r v):Rnd d q (k+1) b r :=
 ⟨h.ok,fun e=>⟨(h.no e).1,fun j w hj hw=>by
  by_cases hjk:j=k
  ·subst hjk;rw[hv]at hw;cases hw;rw[<- (h.no e).1];exact hb
  ·exact(h.no e).2 j w O hw⟩,h.yes,by rw[<- D5 h.fold hv];unfold pf;rw[SU hb]⟩
def Rnd.step (hok:Xf d)(h:Rnd d q k b r)(hv:(aK d)[k]?=some v)(hb:¬od d r v):Rnd d q (k+1) true (r.set (bd d.U v) (mG d (fixC r) v)):=by
 have hvm:v∈aK d:=an hv;refine⟨NQ hok h.ok hvm,fun e=>(Bool.noConfusion e),fun _=>?_,by rw[<- D5 h.fold hv];unfold pf;rw[SQ hb]⟩;have hg:=NT hok h.ok hvm hb;cases b with
 |false =>
  have e:=(h.no rfl).1;subst e;exact⟨fun hl=>hb (hl v hvm),hg⟩
 |true =>
  obtain⟨h1,h2⟩:=h.yes rfl;exact⟨h1,O⟩
def Rnd.done (h:Rnd d q (aK d).length false r):r=q/\isLocal d q :=
 ⟨(h.no rfl).1,fun v hv=>by
  obtain⟨j,hj⟩:=SY.1 hv;exact(h.no rfl).2 j v (aI hj) hj⟩
def Imp.round {n:Nat}(h:Imp d p q n)(hr:Rnd d q (aK d).length true r):Imp d p r (n+1):=by
 obtain⟨h1,h2⟩:=hr.yes rfl;refine⟨hr.ok,fun e=>O,fun hl=>?_,?_,?_,fun j hj=>?_⟩;rotate_left 2
 ·show r=D4 d (vW d p n);rw[<- h.it,hr.fold,Vi];rfl
 ·by_cases hjn:j=n
  ·subst hjn;rw[<- h.it];exact h1
  ·exact h.bef j (O)
 ·have hn:=h.loc hl;rw[h.same hn]at h1;exact absurd hl h1
 ·have:=h.sum
  push_cast
  omega
def Rl {l:List Int}{id g:Nat}{e:TypeId}(hg:H.get id=some (.J g e (ints l))):Fz (fun _=>True) H nx (.Q id g 0 l.length 1) (ah l):=by
 unfold ah;refine .ny trivial hg (by rw[aS];omega) fun j hj h2 h'=>?_;simp only[Nat.zero_add,ints,S9];exact .lit _
def vX (H:Xn)(pv:W9)(p:List (List Int)):Prop:=pv=aO p\/∃(L g:Nat) (e:TypeId) (nn:List W9),pv=.Q L g 0 p.length 1/\L<H.A/\H.get L=some (.J g e nn)/\nn.length=p.length /\
 ∀(k:Nat) (l:List Int),p[k]?=some l->∃(id g':Nat) (e':TypeId),nn[k]?=some (.Q id g' 0 l.length 1)/\id<H.A/\H.get id=some (.J g' e' (ints l))
def vX.len (h:vX H pv p)(ov:Xb H H'):iC H' pv=some (aa p.length):=by
 rcases h with rfl|⟨L,g,e,nn,rfl,h1,h2,h3,_⟩
 ·rfl
 ·unfold iC;simp[af ((ov.nl L h1).trans h2),aa]
def vX.fz (h:vX H pv p)(ov:Xb H H'):Fz (fun _=>True) H' nx pv (aO p):=by
 rcases h with rfl|⟨L,g,e,nn,rfl,h1,h2,h3,h4⟩
 ·exact pj p
 ·unfold aO;refine .ny trivial ((ov.nl L h1).trans h2) (by rw[S8];omega) fun j hj hj2 hj3=>?_;simp only[Nat.zero_add]at hj2 ⊢;rw[S8]at hj3;obtain⟨id,g',e',q1,q2,q3⟩:=h4 j _ (SP hj3);rw[SP hj2]at q1;rw[Option.some.inj q1,S9];exact Rl ((ov.nl id q2).trans q3)
end Go.Proofs
namespace Go.Proofs.R01
open Go.Hx Tryz
def tp:Int := 4611686018427387903
def mh (n d:Int):Int := if d < 1 \/ d > tp \/ n < -tp \/ n > tp then 5 else if Int.gcd n d ≠ 1 then 5 else 0
def Rm:ay 1 = [1] := by rw[mL W6,ik];rfl
def Rn (n d:Int)(hn:fa n)(hd:fa d)(H:Xn)(K:Xd -> Xn -> Prop)(hK:K (.ret (.lit (.bool (decide (mh n d=0))))) H):ae prog G0 30 [qV n d] H K := by
  refine ae.Z ⟨_,func30,rfl,rfl⟩ fun hcl => ?_;refine ae.st (n := 31) (rs := [.tmp 2]) func30 ?_;have bad:∀L,mh n d=5 -> ar prog G0 H K (.lit (.bool false)) (ext H L) := fun L h => by
    rw[h]at hK;exact ar.drop aH hcl (.lit _) hK
  by_cases h1:d < 1
  · simp only[go_sem,qV,h1,aJ];exact bad _ (by unfold mh;rw[SU (.inl h1)])
  by_cases h2:4611686018427387903 < d
  · simp only[go_sem,qV,h1,h2,aJ];exact bad _ (by unfold mh;rw[SU (.inr (.inl h2))])
  by_cases h4:4611686018427387903 < n
  · simp only[go_sem,qV,h1,h2,h4,aJ];exact bad _ (by unfold mh;rw[SU (.inr (.inr (.inr h4)))])
  by_cases h3:n < -4611686018427387903
  · simp only[go_sem,qV,h1,h2,h3,h4,aJ];exact bad _ (by unfold mh;rw[SU (.inr (.inr (.inl h3)))])
  simp only[go_sem,qV,h1,h2,h3,h4,aJ];refine W.dr 8 [0,1,3,0,8,31,63,0] mixed ?_;simp only[go_sem,qV,aJ];have l1 := j8 hn;have l2 := j8 hd;refine⟨_,[],bp.pure fun H2 => jE n hn H2 _ ⟨rfl,rfl⟩,?_⟩;simp only[go_sem,aJ];refine⟨_,[],bp.pure fun H2 => jE d hd H2 _ ⟨rfl,rfl⟩,?_⟩;simp only[go_sem,aJ];refine⟨_,[],bp.pure fun H2 => CG n.natAbs d.natAbs O O H2 _ ⟨rfl,rfl⟩,?_⟩;simp only[go_sem,aJ];refine⟨by refine⟨?_,?_,?_,?_⟩ <;> (intro x hx;omega),?_⟩;have gl:(ay (n.natAbs.gcd d.natAbs)).length <= 100 := by
    have:n.natAbs.gcd d.natAbs <= d.natAbs := Nat.le_of_dvd O (Nat.gcd_dvd_right _ _);have := vo this;omega
  have ck:mh n d=if Int.gcd n d ≠ 1 then 5 else 0 := by unfold mh;rw[SQ (by unfold tp;omega)]
  have eg:Int.gcd n d=n.natAbs.gcd d.natAbs := rfl;obtain⟨H1,hH1⟩:∃H1,H1=ext H [.J 0 41 [.lit (.int .i64 n),.lit (.int .i64 d)]] := ⟨_,rfl⟩
  have ov1:Xb H H1:=hH1▸.ext _ _
  have e1:H.A + 1=H1.A:=hH1▸rfl
  rw[<- hH1,e1];have hO:aD H1.A (ext H1 [.J 0 3 [.lit (.int .i64 1)]]) 3 (.Q H1.A 0 0 1 1) (ints [1]) := .inr ⟨H1.A,0,W8,by simp[aX],rfl,cV _ _ _⟩;refine az.lM H1.A (args' := [ah (ay (n.natAbs.gcd d.natAbs)),ah (ay 1)]) aH rfl (fun j hj _ => match j,hj with |0,_ => .dC _ |1,_ => by rw[Rm];exact hO.ie fun i hi => hi) (vk _ 1 O _ _ ⟨trivial,?_⟩);have ov2:Xb H ((ext H1 [.J 0 3 [.lit (.int .i64 1)]]).cut H1.A) := ov1.trans (Xb.ext _ _).cut;rw[ck,eg]at hK;by_cases hg:n.natAbs.gcd d.natAbs=1
  · rw[hg]at hK ⊢;have c1:dP ((1:Nat):Int) ((1:Nat):Int)=0 :=W6;rw[c1];simp only[go_sem,aJ];exact ar.bE aH hcl ov2 (.lit _) hK
  · have c1 : ¬ dP ((n.natAbs.gcd d.natAbs : Nat) : Int) ((1 : Nat) : Int) = 0 := by
      unfold dP;split
      · omega
      · split <;> omega
    obtain⟨c,hc⟩:∃c,c=dP ((n.natAbs.gcd d.natAbs:Nat):Int) ((1:Nat):Int) := ⟨_,rfl⟩
    rw[<- hc]at c1 ⊢;simp only[go_sem,c1,aJ];rw[SU hg]at hK;exact ar.bE aH hcl ov2 (.lit _) (by simpa using hK)
end Go.Proofs.R01
namespace Go.Proofs
open Go.Hx Tryz
variable {D S tot:Int}{k n nx:Nat}{α:Type}{e0 e1:TypeId}{lvh:W9}{d x:Xa}{H:Xn}
def D6 {a b:List α}{x:α}(h:a.take k=b.take k)(ha:a[k]?=some x)(hb:b[k]?=some x):a.take (k+1)=b.take (k+1):=by
 rw[aU ha,aU hb,h]
def D7 {a b:List α}(h:a.take k=b.take k)(ha:a.length<=k)(hb:b.length<=k):a=b:=by
 rw[SR ha,SR hb]at h;exact h
def tq (a b:List (List Int))(ha:(a.length:Int)<2 ^ 62)(har:∀r∈a,(r.length:Int)<2 ^ 62)(H:Xn)(K:Xd->Xn->Prop)(hK:K (.ret (.lit (.bool (decide (a=b))))) H):ae prog G0 26 [aO a,aO b] H K:=by
 refine ae.st (n:=53) (rs:=[.tmp 4]) func26 ?_;have no:a≠b->ar prog G0 H K (.lit (.bool false)) H:=fun h=>by
  rw[T4 h]at hK;exact ar.mk W8 hK
 by_cases hl:(a.length:Int)=b.length;rotate_left
 ·simp only[go_sem,aO,hl];exact no fun h=>hl (by rw[h])
 simp only[go_sem,aO,hl];refine W.aP 9007199254737008 (by rfl) (fun ρ Hx=>Hx=H/\∃k:Nat,ρ 5=aa k/\k<=a.length/\a.take k=b.take k) (fun ρ H=>a.length-(iv (ρ 5)).toNat) ?_ ?_
 ·simp only[go_sem];exact⟨0,rfl,O,rfl⟩
 rintro ρ Hx ⟨rfl,k,h5,hk,he⟩;refine W.vs ?_;by_cases hb:(k:Int)<a.length;rotate_left
 ·simp only[go_sem,h5,hl];have hab:a=b:=D7 he O O;rw[Ty hab]at hK;have hb2:¬(k:Int)<b.length:=O
  simp only[go_sem,hb2];exact ar.mk W8 hK
 obtain⟨x,hx⟩:=aq (l:=a) (i:=k) O;obtain⟨y,hy⟩:=aq (l:=b) (i:=k) O;have hx':(a.map ah)[k]?=some (ah x):=by rw[List.getElem?_map,hx];rfl
 have hy':(b.map ah)[k]?=some (ah y):=by rw[List.getElem?_map,hy];rfl
 have hxn:=aM hx;have hyn:=aM hy;have hb2:(k:Int)<b.length:=O
 have hxr:=har x (an hx);have w1:=SN ((k:Int)+1) O;have nxy:x≠y->a≠b:=fun h e=>h (by subst e;rw[hx]at hy;exact Option.some.inj hy);simp only[go_sem,h5,hl,hb2];refine W.dr 10 [0,0,3,7,15,0,0,96,224,480] mixed ?_;by_cases hxy:(x.length:Int)=y.length;rotate_left
 ·simp only[go_sem,h5,hb,hb2,hx',hy',hxn,hyn,hxy];exact no (nxy fun e=>hxy (by rw[e]))
 simp only[go_sem,h5,hb,hb2,hx',hy',hxn,hyn,hxy];refine W.aP 9007198717870160 (by rfl) (fun ρ2 Hz=>Hz=Hx/\∃j:Nat,ρ2 6=aa j/\j<=x.length/\x.take j=y.take j) (fun ρ2 H=>x.length-(iv (ρ2 6)).toNat) ?_ ?_
 ·simp only[go_sem];exact⟨0,rfl,O,rfl⟩
 rintro ρ2 Hz ⟨rfl,j,h6,hj,he2⟩;refine W.vs ?_;by_cases hc:(j:Int)<y.length;rotate_left
 ·simp only[go_sem,h5,h6,hb,hx',hxn,hxy,hc,w1];have hxy2:x=y:=D7 he2 O O;exact⟨⟨k+1,W5,O,D6 he hx (by rw[hxy2];exact hy)⟩,O⟩
 obtain⟨u,hu⟩:=aq (l:=x) (i:=j) O;obtain⟨v,hv⟩:=aq (l:=y) (i:=j) O;have hun:=aM hu;have hvn:=aM hv;have hc2:(j:Int)<x.length:=O
 have w2:=SN ((j:Int)+1) O;simp only[go_sem,h5,h6,hb,hx',hxn,hxy,hc];refine W.dr 14 [0,0,3,7,0,31,63,0,0,384,896,0,3968,8064] mixed ?_;by_cases huv:u=v
 ·subst huv;simp only[go_sem,h5,h6,hb,hb2,hx',hy',hxn,hyn,hxy,hc,hu,hv,hun,hvn,w2];exact⟨⟨j+1,W5,O,D6 he2 hu hv⟩,O⟩
 ·simp only[go_sem,h5,h6,hb,hb2,hx',hy',hxn,hyn,hxy,hc,hu,hv,hun,hvn,huv];exact no (nxy fun e=>huv (by subst e;rw[hu]at hv;exact Option.some.inj hv))
structure XR (S D a b g:Int):Prop where
 g1:1<=g
 n:a*g=S
 d:b*g=D
 b1:1<=b
 cop:Int.gcd a b=1
def tt (hD:1<=D):∃a b g:Int,eo S D=.agg [.lit (.int .i64 a),.lit (.int .i64 b)]/\XR S D a b g:=by
 obtain⟨G,hG⟩:∃G,G=Int.gcd S D:=⟨_,rfl⟩
 have g0:0<G:=by rw[hG];exact VC _ (O)
 obtain⟨a,ha⟩:(G:Int) ∣ S:=by rw[hG];exact Int.gcd_dvd_left ..
 obtain⟨b,hb⟩:(G:Int) ∣ D:=by rw[hG];exact Int.gcd_dvd_right ..
 have gne:(G:Int)≠0:=O
 have hgc:G=G*Int.gcd a b:=by
  have h:=Int.gcd_mul_left (G:Int) a b;rw[<- ha,<- hb,<- hG,Int.natAbs_natCast]at h;exact h
 have hc:Int.gcd a b=1:=by
  have:G*1=G*Int.gcd a b:=O
  exact(Nat.eq_of_mul_eq_mul_left g0 this).symm
 have hb1:1<=b:=by
  rcases WL b 1 with h|h
  ·have:(G:Int)*b<=(G:Int)*0:=Tm O O;omega
  ·exact h
 refine⟨a,b,G,?_,O,by rw[TN];exact ha.symm,by rw[TN];exact hb.symm,hb1,hc⟩;unfold eo;rw[<- hG];have e1:S.tdiv (G:Int)=a:=by rw[ha];exact Wy a gne
 have e2:D.tdiv (G:Int)=b:=by rw[hb];exact Wy b gne
 rw[e1,e2]
def XR.bound {a b g:Int}(h:XR S D a b g):a.natAbs<=S.natAbs/\b<=D:=by
 have h1:S.natAbs=a.natAbs*g.natAbs:=by rw[<- h.n,VP]
 have h2:D.natAbs=b.natAbs*g.natAbs:=by rw[<- h.d,VP]
 have hg:0<g.natAbs:=by have:=h.g1;omega
 have l1:=Wz a.natAbs hg;have l2:=Wz b.natAbs hg;have l3:b.natAbs<=D.natAbs:=O
 have hb:=h.b1;have hD:0<=D:=by rw[<- h.d];exact Um O (by have:=h.g1;omega)
 omega
def XR.check {a b g:Int}(h:XR S D a b g)(hS:S.natAbs<=4611686018427387903)(hD:D<=4611686018427387903):R01.mh a b=0:=by
 have hb:=h.bound;have:=h.b1;unfold R01.mh R01.tp;rw[SQ O,SQ (by rw[h.cop];simp)]
def zu (hok:Xf x):1<=x.Y ^ x.C.length/\x.Y ^ x.C.length<=167961600000000:=by
 have hg:=hok.nu.g1;refine⟨Wo O,?_⟩;have h1:=nU (b:=60) O (l:=List.replicate x.C.length x.Y) fun c hc=>by rw[Ub hc];omega
 rw[Uq]at h1;have h2:=sS x.C.length (by have:=hok.n.n1;omega);have h3:∀k:Nat,aA (List.replicate k x.Y)=x.Y ^ k:=fun k=>by
  induction k with
  |zero=>rw[List.replicate_zero,gQ,Int.pow_zero]
  |succ k ih=>rw[Uo,iD,ih,US,TN]
 rw[h3]at h1;omega
def Ro {S1 S2 a1 b1 g1 a2 b2 g2:Int}(e1:eo S1 D=.agg [.lit (.int .i64 a1),.lit (.int .i64 b1)])(h1:XR S1 D a1 b1 g1)(e2:eo S2 D=.agg [.lit (.int .i64 a2),.lit (.int .i64 b2)])(h2:XR S2 D a2 b2 g2):(a1 == a2 && b1 == b2)=decide (S1=S2):=by
 by_cases h:S1=S2
 ·subst h;rw[e1]at e2;injection e2 with e2
  injection e2 with p q
  injection q with q _
  injection p with p
  injection q with q
  injection p with _ p
  injection q with _ q
  rw[p,q];simp
 ·rw[T4 h];by_cases ha:a1=a2
  ·by_cases hb:b1=b2
   ·exfalso;subst ha hb;have:b1*g1=b1*g2:=(by rw[h1.d,h2.d]);have:=Ww (by have:=h1.b1;omega) this;exact h (by rw[<- h1.n,<- h2.n,this])
   ·simp[hb]
  ·simp[ha]
def Q7 {S:Nat->Prop}{lo:Nat}{v:W9}{ids:List Nat}{p:List (List Int)}(h:Xr lo H e1 e0 v ids (p.map ints))(hS:∀i,lo<=i->S i):Fz S H nx v (aO p):=by
 have:=h.fz (S:=S) (nx:=nx) hS fun r hr c hc=>by
  obtain⟨q,_,rfl⟩:=S4.1 hr;obtain⟨a,_,rfl⟩:=S4.1 hc;exact .lit _
 rw[S8,Us]at this;have e:(p.map ((fun r:List W9=>W9.M r.length r) ∘ ints))=p.map ah:=Tf fun r _=>by
  show W9.M (ints r).length (ints r)=ah r;rw[aS];rfl
 rw[e]at this;exact this
def DU (d:Xa)(lvh:W9)(tot:Int):List W9:=[.lit (.int .i64 d.Y),.M d.C.length (aE d.C),.lit (.int .u64 (d.U:Int)),.M d.V.length (aZ d.V),lvh,ah (df d),ah (c7 d),.lit (.int .i64 tot)]
def DV {s:Nat}(hok:Xf d)(ht:-1000000000000000000<=tot/\tot<=1000000000000000000)(hw:1<=d.Y ^ d.C.length/\d.Y ^ d.C.length<=1000000000000000000)(H:Xn)(hs:H.get s=some (.J 0 130 (DU d lvh tot)))(hl:s<H.A)(K:Xd->Xn->Prop)(hK:K (.ret (eo tot (d.Y ^ d.C.length))) H):
  ae prog G0 48 [.R s 0 0] H K:=by
 refine ae.Z ⟨_,func48,rfl,rfl⟩ fun hcl=>?_;have n8:=hok.n.n1;have hg:=hok.nu.g1;refine ae.sw (n:=20) (rs:=[.cell 2 41]) func48 ?_;refine W.sq ?_;simp only[go_sem];obtain⟨H1,hH1⟩:∃H1,H1=ext H [.J 0 41 [.lit (.int .i64 0),.lit (.int .i64 0)]]:=⟨_,rfl⟩
 have g1:=dv hH1
 have o1:Xb H H1:=hH1▸.ext _ _
 rw[<- hH1];clear hH1;have l1:=af g1;have ls:=af ((o1.nl s hl).trans hs);unfold DU at ls;refine W.seq ?_;refine W.dr 16 [0,1,3,7,0,16,48,112,240,0,512,1536,3584,7680,15872,32752] mixed ?_;simp only[go_sem,ls];refine⟨_,[],bp.pure fun H2=>Dd d.Y d.C.length hg O H2 _ ⟨rfl,rfl⟩,?_⟩;refine az.Z (De tot (d.Y ^ d.C.length) O O H1 _ ⟨trivial,?_⟩);unfold eo at hK ⊢;simp only[go_sem,l1];obtain⟨H2,hH2⟩:∃H2,H2=H1.upd H.A (.J 0 41 [.lit (.int .i64 (tot.tdiv (Int.gcd tot (d.Y ^ d.C.length):Int))),.lit (.int .i64 ((d.Y ^ d.C.length).tdiv (Int.gcd tot (d.Y ^ d.C.length):Int)))]):=⟨_,rfl⟩
 have o2:Xb H H2:=by rw[hH2];exact Xb.upd (id:=H.A) o1 W8 _
 have l2:H2.X H.A 0=_:=af (show H2.get H.A=_ by rw[hH2,ag,SU rfl]);rw[<- hH2];refine W.vs ?_;simp only[go_sem,l2];refine ar.bE aH hcl o2 (.agg rfl fun i hi _=>?_) hK
 match i,hi with
 |0,_=>exact .lit _
 |1,_=>exact .lit _
def Q8 {r:List Nat}{lo s:Nat}{I:Nat->Nat->Nat}{T:Xj}(hok:Xf d)(ht:-1000000000000000000<=tot/\tot<=1000000000000000000)(hw:1<=d.Y ^ d.C.length/\d.Y ^ d.C.length<=1000000000000000000)(H:Xn)(hS:Xi d r lo s lvh I T tot H)(K:Xd->Xn->Prop)(hK:∀H',Xb H H'->K (.ret (eo tot (d.Y ^ d.C.length))) H'):
  ae prog G0 48 [.R s 0 0] H K :=
 DV hok ht hw H hS.top hS.nz.2 K (hK H (.refl _))
def tf (d:Xa)(hf:Xv d)(h6:d.C.length<=6)(H:Xn)(K:Xd->Xn->Prop)
  (hE:cJ d=4->K (.ret (.na [.lit (.slice none 0 0),.agg [aa 0,aa 0],aa 210])) H)
  (hE2:cJ d≠4->cJ d≠0->K (.ret (.na [.lit (.slice none 0 0),.agg [aa 0,aa 0],aa (cJ d)])) H)
  (hK:∀r,fL d=some r->Xf d->Xu d r->K (.ret (.na [aO (dX d r),eo (fg d r) (d.Y ^ d.C.length),aa 0])) H):
  ae prog G0 11 [eC d] H K:=by
 refine ae.Z ⟨_,func11,rfl,rfl⟩ fun hcl=>?_;refine ae.sw (n:=20) (rs:=[.tmp 2,.cell 3 41,.tmp 4]) func11 ?_;refine W.sq ?_;simp only[go_sem,iI,cu];obtain⟨H1,hH1⟩:∃H1,H1=ext H [.J 0 38 [.lit (.int .i64 d.Y),.M d.C.length (aE d.C),.lit (.int .u64 (d.U:Int)),.M d.V.length (aZ d.V)],.J 0 41 [.lit (.int .i64 0),.lit (.int .i64 0)]]:=⟨_,rfl⟩
 have g1:=dv hH1
 have g2:=gE hH1 1 rfl
 have n1:H1.A=H.A+2:=hH1▸rfl
 have o1:Xb H H1:=hH1▸.ext _ _
 rw[<- hH1];clear hH1;have l1:=af g1;refine W.sq ?_;simp only[go_sem,l1];have zero:∀(H2:Xn) (e:Int),Xb H1 H2->K (.ret (.na [.lit (.slice none 0 0),.agg [aa 0,aa 0],aa e])) H->ar prog G0 H K (.na [.lit (.slice none 0 0),.agg [aa 0,aa 0],aa e]) (H2.upd (H.A+1) (.J 0 41 [aa 0,aa 0])):=fun H2 e ho hk=>by
  refine ar.bE aH hcl (Xb.upd (id:=H.A+1) (o1.trans ho) (Vm _) _) (.na rfl fun i hi _=>?_) hk
  match i,hi with
  |0,_=>exact .lit _
  |1,_ =>
   refine .agg rfl fun i hi _=>?_
   match i,hi with
   |0,_=>exact .lit _
   |1,_=>exact .lit _
  |2,_=>exact .lit _
 refine az.Z (DE d hf h6 H1 _ (fun H2 ho he=>⟨trivial,?_⟩) (fun H2 ho he he2=>⟨trivial,?_⟩) fun r s lvh I H2 hr hok ho hS hnil=>⟨trivial,?_⟩)
 ·have g2':=af ((ho.nl _ O).trans g2);simp only[go_sem];refine W.sq ?_;simp only[go_sem,g2'];exact zero H2 210 ho (hE he)
 ·have g2':=af ((ho.nl _ O).trans g2);simp only[go_sem];refine W.sq ?_;simp only[go_sem,he2,g2'];exact zero H2 (cJ d) ho (hE2 he he2)
 simp only[go_sem];refine W.sq ?_;simp only[go_sem];obtain⟨hPo,hT,_⟩:=py hok (ma hr);have hro:=ma hr;have hrl:r.length<=12:=by
  have h1:=DC _ _ _ _ hr;have h2:(aK d).length<=d.C.length:=nZ;simp at h1;omega
 have hb:=yE h6 (dX d r) hok hPo _ W8;have hsum:ig (cz d (fixC (dX d r))) d.V (bD d.C)=fg d r:=by rw[<- hT];exact BZ hok hPo
 rw[hsum]at hb;have htot:eD (ao d r) 0=fg d r:=SU (.inr rfl);rw[htot]at hS;have hK:=hK r hr hok hro;have hsl:=hS.nz;refine W.vs ?_;simp only[go_sem];refine az.Z (choose_spec hok hro hrl O H2 hS hnil _ fun v ids T' H3 n3 o3 hS3 hM=>⟨trivial,?_⟩);simp only[go_sem];refine az.Z (Q8 hok hb (by have:=zu hok;omega) H3 hS3 _ fun H4 o4=>⟨trivial,?_⟩);have k4:∀i,i<H1.A->H4.get i=H1.get i:=fun i h=>by
  rw[o4.nl i (by have:=ho.A;omega),o3 i (by have:=ho.A;omega) O fun k j h1 h2=>by have:=(hS.nc.ng k j h1 h2).1;omega];exact ho.nl i h
 have l4:=af ((k4 _ O).trans g2);unfold eo at hK ⊢;simp only[go_sem,l4];have o5:Xb H H4:=⟨by have:=o4.A;have:=ho.A;omega,fun i h=>(k4 i O).trans (o1.nl i h)⟩
 have hM4:=hM.nb (H':=H4) o4.A fun i _ h=>o4.nl i h;have hM5:∀b,Xr H1.A (H4.upd (H.A+1) b) 46 3 v ids ((dX d r).map ints):=fun b=>hM4.nb (by rw[aF];exact Nat.le_refl _) fun i h _=>by rw[ag,SQ O]
 refine ar.bE (v':=.na [aO (dX d r),_,aa 0]) aH hcl (Xb.upd (id:=H.A+1) o5 (Vm _) _) (.na rfl fun i hi _=>?_) hK
 match i,hi with
 |0,_=>exact Q7 (hM5 _) fun i h=>O
 |1,_ =>
  refine .agg rfl fun i hi _=>?_
  match i,hi with
  |0,_=>exact .lit _
  |1,_=>exact .lit _
 |2,_=>exact .lit _
def zr (d:Xa)(hf:Xv d)(h6:d.C.length<=6)(p:List (List Int))(hp:pC p)(H:Xn)(K:Xd->Xn->Prop)
  (hE:cJ d=4->K (.ret (.na [.lit (.bool false),aa 210])) H)
  (hE2:cJ d≠4->cJ d≠0->K (.ret (.na [.lit (.bool false),aa (cJ d)])) H)
  (hP:cJ d=0->eJ d p≠0->K (.ret (.na [.lit (.bool false),aa (eJ d p)])) H)
  (hK:∀r,fL d=some r->Xf d->Xu d r->Xo d p->K (.ret (.na [.lit (.bool (decide (kj d p=fg d r))),aa 0])) H):
  ae prog G0 15 [eC d,aO p] H K:=by
 refine ae.Z ⟨_,func15,rfl,rfl⟩ fun hcl=>?_;have two:∀(b:Bool) (e:Int),Fz (fun id=>H.A<=id) H H.A (.na [.lit (.bool b),aa e]) (.na [.lit (.bool b),aa e]):=fun b e=>.na rfl fun i hi _=>match i,hi with
  |0,_=>.lit _
  |1,_=>.lit _
 refine ae.sw (n:=30) (rs:=[.tmp 4,.tmp 5]) func15 ?_;refine W.sq ?_;simp only[go_sem,iI,cu];obtain⟨H1,hH1⟩:∃H1,H1=ext H [.J 0 38 [.lit (.int .i64 d.Y),.M d.C.length (aE d.C),.lit (.int .u64 (d.U:Int)),.M d.V.length (aZ d.V)]]:=⟨_,rfl⟩
 have g1:=dv hH1
 have n1:H1.A=H.A+1:=hH1▸rfl
 have o1:Xb H H1:=hH1▸.ext _ _
 rw[<- hH1];clear hH1;have l1:=af g1;have fin:∀(H2:Xn) (b:Bool) (e:Int),Xb H H2->K (.ret (.na [.lit (.bool b),aa e])) H->ar prog G0 H K (.na [.lit (.bool b),aa e]) H2:=fun H2 b e ho hk=>by
  refine ar.bE aH hcl ho (.na rfl fun i hi _=>?_) hk
  match i,hi with
  |0,_=>exact .lit _
  |1,_=>exact .lit _
 refine W.sq ?_;simp only[go_sem,l1];refine az.Z (DE d hf h6 H1 _ (fun H2 ho he=>⟨trivial,?_⟩) (fun H2 ho he he2=>⟨trivial,?_⟩) fun r s lvh I H2 hr hok ho hS hnil=>⟨trivial,?_⟩)
 ·simp only[go_sem];refine W.sq ?_;simp only[go_sem];exact fin H2 false 210 (o1.trans ho) (hE he)
 ·simp only[go_sem];refine W.sq ?_;simp only[go_sem,he2];exact fin H2 false (cJ d) (o1.trans ho) (hE2 he he2)
 have l2:=af ((ho.nl _ O).trans g1);have hro:=ma hr;have re:cJ d=0:=by unfold cJ;rw[eI hok,hr];rfl
 simp only[go_sem];refine W.sq ?_;simp only[go_sem];refine W.sq ?_;simp only[go_sem,l2];refine az.Z (sB d hf p hp (yE h6 p) _ _ ⟨trivial,?_⟩);by_cases hpe:eJ d p=0;rotate_left
 ·have hv:j5 d p=.agg [.lit (.int .i64 0),.lit (.int .i64 0)]:=SQ hpe;rw[hv];simp only[go_sem];refine W.sq ?_;simp only[go_sem,hpe];exact fin _ false (eJ d p) ((o1.trans ho).trans (.ext _ _)) (hP re hpe)
 have hpo:=(ze.1 hpe).2;have gp:=zu hok;obtain⟨D,hD⟩:∃D,D=d.Y ^ d.C.length:=⟨_,rfl⟩
 rw[<- hD]at gp;obtain⟨ua,ub,ug,hu,huF⟩:=tt (S:=kj d p) (D:=D) gp.1;obtain⟨va,vb,vg,hv,hvF⟩:=tt (S:=fg d r) (D:=D) gp.1;rw[hpe,Og hok hpo,<- hD,hu];simp only[go_sem];obtain⟨H3,hH3⟩:∃H3,H3=ext H2 [.J 0 41 [.lit (.int .i64 ua),.lit (.int .i64 ub)]]:=⟨_,rfl⟩
 have g3:=dv hH3
 have o3:Xb H2 H3:=hH3▸.ext _ _
 rw[<- hH3];clear hH3;have l3:=af g3;have hS3:=hS.nb (H':=H3) o3.A fun i _ h=>o3.nl i h;obtain⟨hPo,hT,_⟩:=py hok hro;have hb:=yE h6 (dX d r) hok hPo _ W8;have hsum:ig (cz d (fixC (dX d r))) d.V (bD d.C)=fg d r:=by rw[<- hT];exact BZ hok hPo
 rw[hsum]at hb;have htot:eD (ao d r) 0=fg d r:=SU (.inr rfl);rw[htot]at hS3;have hK:=hK r hr hok hro hpo;rw[<- Ro hu huF hv hvF]at hK;refine W.sq ?_;simp only[go_sem];refine W.seq ?_;refine W.dr 3 [0,0,2] mixed ?_;simp only[go_sem,l3];refine⟨_,[s],bp.mk (fun i hi=>by obtain rfl:=List.mem_singleton.1 hi;exact hS3.nz.2) fun H4 h4 h4n=>DV hok hb (by rw[<- hD];omega) H4 ((h4 s W5).trans hS3.top) (by have:=hS3.nz;omega) _ ⟨rfl,rfl⟩,?_⟩;rw[<- hD,hv];simp only[go_sem,xZ];refine W.vs ?_;simp only[go_sem];exact fin _ _ 0 ((o1.trans ho).trans o3) hK
def Ss (d:Xa)(hok:Xf d)(hf:Xv d)(p:List (List Int))(hp:Xo d p)(hpf:pC p)(v0:Nat)(h0:v0<d.C.length)(hb:d.U.testBit v0=false)
    (H:Xn) (K:Xd->Xn->Prop) (hK:K (.ret (.na [.lit (.slice none 0 0),aa 2])) H):ae prog G0 23 [eC d,aO p,aa v0] H K:=by
  refine ae.Z ⟨_,func23,rfl,rfl⟩ fun hcl=>?_;have n8:=hok.n.n1;have hD:=hf.U;refine ae.st (n:=74) (rs:=[.tmp 6,.tmp 7]) func23 ?_;simp only[go_sem,iI,cu,aJ];refine az.Z (zd d hf p hpf _ _ ⟨trivial,?_⟩);rw[qD hok hp];have c1:¬(v0:Int)<0:=O
  have c2:¬(v0:Int) >= d.C.length:=O
  have s1:=fun t x y=>mi (P:=prog) (t:=t) (x:=x) (y:=y) (k':=.i64) (s:=v0) hD;have s2:=fun t x y=>nj (P:=prog) (t:=t) (x:=x) (y:=y) (s:=v0) hD;simp only[go_sem,c1,c2,s1,s2,hb,aJ];refine ar.drop aH hcl (.na rfl fun i hi _=>?_) hK
  match i,hi with
  |0,_=>exact .lit _
  |1,_=>exact .lit _
def rp (hn:n<=H.A){a:List Int}:Fz (fun id=>n<=id) (ext H [.J 0 e0 (ints a),.J 0 e1 [.Q H.A 0 0 a.length 1]]) nx (.Q (H.A+1) 0 0 1 1) (aO [a]) :=
  Xw.Q O (bL H _ 1 W5) rfl (.cons (Xw.Q hn (cV ..) (by rw[aS,Nat.mul_one]) (zU a)) .nil)
def wJ (hn:n<=H.A){a b:List Int}:Fz (fun id=>n<=id) (ext H [.J 0 e0 (ints a),.J 0 e0 (ints b),.J 0 e1 [.Q H.A 0 0 a.length 1,.Q (H.A+1) 0 0 b.length 1]]) nx (.Q (H.A+2) 0 0 2 1) (aO [a,b]) :=
  Xw.Q O (bL H _ 2 W5) rfl (.cons (Xw.Q hn (cV ..) (by rw[aS,Nat.mul_one]) (zU a)) (.cons (Xw.Q O (bL H _ 1 W5) (by rw[aS,Nat.mul_one]) (zU b)) .nil))
def Su (H:Xn)(K:Xd->Xn->Prop)(hK:K (.ret (.lit (.bool true))) H):ae prog G0 21 [] H K:=by
  refine ae.Z ⟨_,func21,rfl,rfl⟩ fun hcl=>?_;have fA:=sv lC;have fE:=sv pM;have fN:=sv Er;have rA:∀r,fL dA=some r->[1]=r:=fun r h=>Option.some.inj (zR.symm.trans h);have rE:∀r,fL dE=some r->[0,2]=r:=fun r h=>Option.some.inj (zS.symm.trans h);refine ae.sw (n:=173) (rs:=[.tmp 0]) func21 ?_;refine W.sq ?_;simp only[go_sem,aJ];refine W.sq ?_;simp only[go_sem,aJ];refine az.Z (Sq _ _ ⟨trivial,?_⟩);simp only[go_sem,aJ];refine az.Z (Sr _ _ ⟨trivial,?_⟩);simp only[go_sem,iI,cu,aJ];obtain⟨H1,hH1⟩:∃H1,H1=ext H [.J 0 38 [.lit (.int .i64 dA.Y),.M dA.C.length (aE dA.C),.lit (.int .u64 (dA.U:Int)),.M dA.V.length (aZ dA.V)],.J 0 38 [.lit (.int .i64 dE.Y),.M dE.C.length (aE dE.C),.lit (.int .u64 (dE.U:Int)),.M dE.V.length (aZ dE.V)]]:=⟨_,rfl⟩
  have g1:=dv hH1
  have g2:=gE hH1 1 rfl
  have n1:H1.A=H.A+2:=hH1▸rfl
  have o1:Xb H H1:=hH1▸.ext _ _
  rw[<- hH1];clear hH1;have l1:=af g1;refine W.sq ?_;simp only[go_sem,l1,aJ];refine az.Z (tf dA fA W6 H1 _ (fun he=>absurd (rm.symm.trans he) W6) (fun _ he=>absurd rm he) fun r hr _ _=>⟨trivial,?_⟩);rw[<- rA r hr,Si,zT,Sg];simp only[go_sem,aJ];obtain⟨H2,hH2⟩:∃H2,H2=ext H1 [.J 0 41 [.lit (.int .i64 33),.lit (.int .i64 4)]]:=⟨_,rfl⟩
  have q1:=dv hH2
  have n2:H2.A=H1.A+1:=hH2▸rfl
  have o2:Xb H1 H2:=hH2▸.ext _ _
  rw[<- hH2];clear hH2;have l2:=af ((o2.nl _ O).trans g2);refine W.sq ?_;simp only[go_sem,l2,aJ];refine az.Z (tf dE fE W6 H2 _ (fun he=>absurd (wI.symm.trans he) W6) (fun _ he=>absurd wI he) fun r hr _ _=>⟨trivial,?_⟩);rw[<- rE r hr,Sj,Ey,Sh];simp only[go_sem,aJ];obtain⟨H3,hH3⟩:∃H3,H3=ext H2 [.J 0 41 [.lit (.int .i64 4),.lit (.int .i64 1)]]:=⟨_,rfl⟩
  have q2:=dv hH3
  have n3:H3.A=H2.A+1:=hH3▸rfl
  have o3:Xb H1 H3:=by rw[hH3];exact o2.trans (.ext _ _)
  have q1:H3.get H1.A=some (.J 0 41 [.lit (.int .i64 33),.lit (.int .i64 4)]):=by rw[hH3,bQ O];exact q1
  rw[<- hH3];clear hH3;have g1:=(o3.nl _ O).trans g1;have g2:=(o3.nl _ O).trans g2;have l1:=af g1;have l2:=af g2;refine W.sq ?_;simp only[go_sem,l1,aJ]
  repeat (refine⟨W6,?_⟩)
  refine az.iO aH (.ext H3 _) (.cons (rj dA) (.cons (rp (a:=[1,0]) W8) .nil)) fun H4 o4=>zr dA fA W6 [[1,0]] (ph lC Et) _ _ (fun he=>absurd (rm.symm.trans he) W6) (fun _ he=>absurd rm he) (fun _ he=>absurd (qD lC Et) he) fun r hr _ _ _=>⟨trivial,?_⟩
  rw[<- rA r hr,zT,Sk];have l1:=af ((o4.nl _ O).trans g1);simp only[go_sem,aJ];refine W.sq ?_;simp only[go_sem,l1,aJ]
  repeat (refine⟨W6,?_⟩)
  refine az.iO aH (o4.trans (.ext H4 _)) (.cons (rj dA) (.cons (rp (a:=[1,1]) o4.A) .nil)) fun H5 o5=>zr dA fA W6 [[1,1]] (ph lC Eu) _ _ (fun he=>absurd (rm.symm.trans he) W6) (fun _ he=>absurd rm he) (fun _ he=>absurd (qD lC Eu) he) fun r hr _ _ _=>⟨trivial,?_⟩
  rw[<- rA r hr,zT,T4 Sl];have l2:=af ((o5.nl _ O).trans g2);simp only[go_sem,aJ];refine W.sq ?_;simp only[go_sem,l2,aJ]
  repeat (refine⟨W6,?_⟩)
  refine az.iO aH (o5.trans (.ext H5 _)) (.cons (rj dE) (.cons (wJ (a:=[1]) (b:=[1,1,1,0]) o5.A) .nil)) fun H6 o6=>zr dE fE W6 [[1],[1,1,1,0]] (ph pM Ew) _ _ (fun he=>absurd (wI.symm.trans he) W6) (fun _ he=>absurd wI he) (fun _ he=>absurd (qD pM Ew) he) fun r hr _ _ _=>⟨trivial,?_⟩
  rw[<- rE r hr,Ey,Sm];have l1:=af ((o6.nl _ O).trans g1);simp only[go_sem,aJ];refine W.sq ?_;simp only[go_sem,l1,aJ]
  repeat (refine⟨W6,?_⟩)
  refine az.iO aH (o6.trans (.ext H6 _)) (.cons (rj dA) (.cons (rp (a:=[0,0]) o6.A) (.cons (.lit _) .nil))) fun H7 o7=>Ee dA lC fA W6 [[0,0]] wH (ph lC wH) 1 W6 _ _ ⟨trivial,?_⟩;rw[Sn];have l2:=af ((o7.nl _ O).trans g2);simp only[go_sem,aJ];refine W.sq ?_;simp only[go_sem,l2,aJ]
  repeat (refine⟨W6,?_⟩)
  refine az.iO aH (o7.trans (.ext H7 _)) (.cons (rj dE) (.cons (wJ (a:=[1]) (b:=[0,0,1,0]) o7.A) (.cons (.lit _) .nil))) fun H8 o8=>Ee dE pM fE W6 [[1],[0,0,1,0]] Ex (ph pM Ex) 0 W6 _ _ ⟨trivial,?_⟩;rw[So];have l1:=af ((o8.nl _ O).trans g1);simp only[go_sem,aJ];refine W.sq ?_;simp only[go_sem,l1,aJ]
  repeat (refine⟨W6,?_⟩)
  refine az.iO aH (o8.trans (.ext H8 _)) (.cons (rj dA) (.cons (rp (a:=[0,0]) o8.A) (.cons (.lit _) .nil))) fun H9 o9=>Ss dA lC fA [[0,0]] wH (ph lC wH) 0 W6 W6 _ _ ⟨trivial,?_⟩;simp only[go_sem,aJ];refine W.sq ?_;simp only[go_sem,aJ]
  repeat (refine⟨W6,?_⟩)
  refine az.iO aH (o9.trans (.ext H9 _)) (.cons (Xw.agg ?_) .nil) fun HA oA=>tf dN fN W6 HA _ (fun _=>⟨trivial,?_⟩) (fun he=>absurd Sf he) fun r hr _ _=>absurd (Es.symm.trans hr) (W5)
  · repeat (first|exact Xw.nil|refine Xw.cons ?_ ?_|exact Fz.lit _|exact Fz.nil|refine Xw.Q o9.A (cV ..) rfl ?_)
  have lq1:=af ((oA.nl _ O).trans q1);have lq2:=af ((oA.nl _ O).trans q2);have ev:∀(a b:Int) o1 o2,bn prog .eql 41 o1 o2 (.agg [.lit (.int .i64 a),.lit (.int .i64 b)]) (.agg [.lit (.int .i64 a),.lit (.int .i64 b)])=some (.lit (.bool true)):=fun a b o1 o2=>by rw[xZ];simp
  have e1:=ev 33 4;have e2:=ev 4 1;simp only[go_sem,aJ];obtain⟨HB,hHB⟩:∃HB,HB=ext HA [.J 0 41 [.lit (.int .i64 0),.lit (.int .i64 0)]]:=⟨_,rfl⟩
  have oB:Xb H3 HB:=by rw[hHB];exact oA.trans (.ext _ _)
  rw[<- hHB];clear hHB;have lq1:=af ((oB.nl _ O).trans q1);refine W.sq ?_;simp only[go_sem,lq1,e1,aJ]
  repeat (refine⟨W6,?_⟩)
  refine az.iO aH (oB.trans (.ext HB _)) (.cons (pj _) (.cons (rp (a:=[1,0]) oB.A) .nil)) fun HC oC=>tq [[1,0]] [[1,0]] W6 W6 _ _ ⟨trivial,?_⟩;rw[Ty (rfl:([[1,0]]:List (List Int))=[[1,0]])];have lq2:=af ((oC.nl _ O).trans q2);simp only[go_sem,lq2,e2,aJ]
  repeat (refine⟨W6,?_⟩)
  refine az.iO aH (oC.trans (.ext HC _)) (.cons (pj _) (.cons (wJ (a:=[1]) (b:=[0,0,1,0]) oC.A) .nil)) fun HD oD=>tq [[1],[0,0,1,0]] [[1],[0,0,1,0]] W6 W6 _ _ ⟨trivial,?_⟩;rw[Ty (rfl:([[1],[0,0,1,0]]:List (List Int))=[[1],[0,0,1,0]])];simp only[go_sem,aJ];refine W.sq ?_;simp only[go_sem,aJ]
  repeat (refine⟨W6,?_⟩)
  refine az.iO aH (oD.trans (.ext HD _)) (.cons (pj _) (.cons (wJ (a:=[0,48]) (b:=[480,264]) oD.A) .nil)) fun HF oF=>tq [[0,48],[480,264]] [[0,48],[480,264]] W6 W6 _ _ ⟨trivial,?_⟩;rw[Ty (rfl:([[0,48],[480,264]]:List (List Int))=[[0,48],[480,264]])];simp only[go_sem,aJ]
  repeat (refine⟨W6,?_⟩)
  refine az.iO aH (oF.trans (.ext HF _)) (.cons (pj _) (.cons (rp (a:=[8,32]) oF.A) .nil)) fun HG oG=>tq [[8,32]] [[8,32]] W6 W6 _ _ ⟨trivial,?_⟩;rw[Ty (rfl:([[8,32]]:List (List Int))=[[8,32]])];simp only[go_sem,aJ];have oK:Xb H HG:=o1.trans (o3.trans oG)
  first
  |exact ar.bE aH hcl oK (.lit _) hK
  | (refine W.vs ?_
     simp only[go_sem,aJ];exact ar.bE aH hcl oK (.lit _) hK)
def EA {f:FuncId}{K:Xd->Xn->Prop}(d:Xa)(h:ae prog G0 f [eC d] H K):ae prog G0 f [qH d] H K :=
 ae.RN (args':=[eC d]) aH rfl (fun i hi _=>match i,hi with|0,_=>Oc d) h
def Sv (h:DrI true x):∃r,fL x=some r/\cJ x=0:=by
 have hs:=Lp h;obtain⟨r,hr⟩:=Tp.1 hs;exact⟨r,hr,by unfold cJ;rw[eI h.ok,hr];rfl⟩
end Go.Proofs
namespace Go.Proofs.R01
open Go.Hx Tryz
def OO (x y:Nat)(hx:(ay x).length <= 200)(hy:(ay y).length <= 200)(H:Xn)(K:Xd -> Xn -> Prop)(hK:K (.ret (ah (ay (x + y)))) H):ae prog G0 92 [ah (ay x),ah (ay y)] H K := by
  refine ae.Z ⟨_,func92,rfl,rfl⟩ fun hcl => ?_
  have hS:(ay (x + y)).length <= 201 := mM (by
    have h1 := pq hx
    have h2 := pq hy
    rw[T6]
    generalize 10000 ^ 200=P at *
    omega)
  obtain⟨p,hp⟩:∃p,p=ay x := ⟨_,rfl⟩
  obtain⟨q,hq⟩:∃q,q=ay y := ⟨_,rfl⟩
  rw[<- hp]at hx ⊢
  rw[<- hq]at hy ⊢
  refine ae.st (n := 52) (rs := [.tmp 4]) func92 ?_
  simp only[go_sem,aJ]
  refine W.aP 2251799813685216 (by rfl) (fun ρ H' => ∃(i c X Y:Nat) (done:List Int),ρ 7=aa i /\ ρ 6=aa c /\ c <= 1 /\ Xb H H' /\ aD H.A H' 3 (ρ 5) (ints done) /\ done.length=i /\ p.drop i=ay X /\ q.drop i=ay Y /\ ay (x + y)=done ++ ay (c + X + Y)) (fun ρ H => 201-(iv (ρ 7)).toNat) ?_ ?_
  · simp only[go_sem,aJ]
    exact⟨0,0,x,y,[],rfl,rfl,O,.refl _,.nil,rfl,by simpa using hp,by simpa using hq,W5⟩
  rintro ρ H' ⟨i,c,X,Y,done,h7,h6,hc,ov,h5,hl,hX,hY,hd⟩
  refine W.vs ?_
  obtain⟨a1,a2,a3⟩ := om hX
  obtain⟨b1,b2,b3⟩ := om hY
  by_cases hR:c + X + Y=0
  · have n1:¬(i:Int) < p.length := by have := fun h => a1.1 h;omega
    have n2:¬(i:Int) < q.length := by have := fun h => b1.1 h;omega
    have n3:¬(0:Int) < (c:Int) := by omega
    simp only[go_sem,h7,h6,n1,n2,n3,aJ]
    rw[hR,ik,List.append_nil]at hd
    rw[hd]at hK
    exact ar.bE aH hcl ov (h5.ie fun i hi => hi) hK
  · have hdR := mL hR
    have hlen:done.length <= 200 := by rw[hd,hdR,List.length_append,List.length_cons]at hS;omega
    obtain⟨t,ht⟩:∃t,t=c + X % 10000 + Y % 10000 := ⟨_,rfl⟩
    have e1:(c + X + Y) % 10000=t % 10000 := by omega
    have e2:(c + X + Y) / 10000=t / 10000 + X / 10000 + Y / 10000 := by omega
    have tm:((t:Int)).tmod 10000=((t % 10000:Nat):Int) := by rw[TD O];rfl
    have td:((t:Int)).tdiv 10000=((t / 10000:Nat):Int) := by rw[TM O];rfl
    have w1 := SN ((t % 10000:Nat):Int) (O)
    have w2 := SN ((t / 10000:Nat):Int) (O)
    have w3 := SN ((i:Int) + 1) (O)
    obtain⟨v',H2,hA,hO,hn2,hpr⟩ := iT (P := prog) (H := H') (t := 46) (x := aa (t % 10000:Nat)) (n := H'.A + 1) Tryz.underlying46 Tryz.fm Tryz.fq rfl (by rw[Tryz.fM,aS];omega) h5 ov.A rfl
    simp only[aa]at hA
    have ov2:Xb H H2 := lX ov h5 hn2 hpr
    have fin:∃(i' c' X' Y':Nat) (done':List Int),W9.lit (.int .i64 ((i:Int) + 1))=aa i' /\ W9.lit (.int .i64 ((t / 10000:Nat):Int))=aa c' /\ c' <= 1 /\ Xb H H2 /\ aD H.A H2 3 v' (ints done') /\ done'.length=i' /\ p.drop i'=ay X' /\ q.drop i'=ay Y' /\ ay (x + y)=done' ++ ay (c' + X' + Y') := by
      refine⟨i + 1,t / 10000,X / 10000,Y / 10000,done ++ [((t % 10000:Nat):Int)],by simp[aa],rfl,O,ov2,by simpa[ints,aa] using hO,by simp[hl],a3,b3,?_⟩
      rw[hd,hdR,e1,e2];simp
    by_cases hx0:X=0
    · have n1:¬(i:Int) < p.length := by have := fun h => a1.1 h;omega
      by_cases hy0:Y=0
      · have n2:¬(i:Int) < q.length := by have := fun h => b1.1 h;omega
        have n3:(0:Int) < (c:Int) := by omega
        have tc:(c:Int)=(t:Int) := by omega
        rw[tc]at h6 n3
        simp only[go_sem,h7,h6,n1,n2,n3,tm,td,w1,w2,w3,hA]
        exact⟨ov2.A,fin,O⟩
      · have n2:(i:Int) < q.length := by have := b1.2 hy0;omega
        have g2 := b2 hy0
        have qn:¬q = [] := by rintro rfl;simp at n2;omega
        have tc:(c:Int) + ((Y % 10000:Nat):Int)=(t:Int) := by omega
        have w4 := SN (t:Int) (O)
        simp only[go_sem,h7,h6,n1,n2,g2,qn,tc,tm,td,w1,w2,w3,w4,hA]
        exact⟨ov2.A,fin,O⟩
    · have n1:(i:Int) < p.length := by have := a1.2 hx0;omega
      have g1 := a2 hx0
      have pn:¬p = [] := by rintro rfl;simp at n1;omega
      have w5 := SN ((c:Int) + ((X % 10000:Nat):Int)) (O)
      have w4 := SN (t:Int) (O)
      by_cases hy0:Y=0
      · have n2:¬(i:Int) < q.length := by have := fun h => b1.1 h;omega
        have tc:(c:Int) + ((X % 10000:Nat):Int)=(t:Int) := by omega
        simp only[go_sem,h7,h6,n1,n2,g1,pn,tc,tm,td,w1,w2,w3,w4,hA]
        exact⟨ov2.A,fin,O⟩
      · have n2:(i:Int) < q.length := by have := b1.2 hy0;omega
        have g2 := b2 hy0
        have qn:¬q = [] := by rintro rfl;simp at n2;omega
        have tc:(c:Int) + ((X % 10000:Nat):Int) + ((Y % 10000:Nat):Int)=(t:Int) := by omega
        simp only[go_sem,h7,h6,n1,n2,g1,g2,pn,qn,w5,tc,tm,td,w1,w2,w3,w4,hA]
        exact⟨ov2.A,fin,O⟩
def vp {n:Int}(h:n ≠ 0):n.natAbs ≠ 0 := by omega
def OP (a b c d:Int)(ha:fa a)(hb:fa b)(hc:fa c)(hd:fa d)(hb0:b ≠ 0)(hd0:d ≠ 0)(H:Xn)(K:Xd -> Xn -> Prop)(hK:K (.ret (jF (kX a c) (a.natAbs * c.natAbs) (b.natAbs * d.natAbs))) H):
    ae prog G0 31 [qV a b,qV c d] H K := by
  refine ae.Z ⟨_,func31,rfl,rfl⟩ fun hcl => ?_
  have la := j8 ha
  have lb := j8 hb
  have lc := j8 hc
  have ld := j8 hd
  have lac := sC ha hc
  have lbd := sC hb hd
  have nz:b.natAbs * d.natAbs ≠ 0 := Nat.mul_ne_zero (vp hb0) (vp hd0)
  refine ae.st (n := 30) (rs := [.cell 4 41,.tmp 5]) func31 ?_
  simp only[go_sem,qV,aJ]
  refine W.dr 24 [0,1,3,0,8,24,63,0,128,384,0,1024,3968,8064,0,16384,65408,0,131072,524160,1048448,2097151,4194303,4194303] mixed ?_
  simp only[go_sem,OV Tryz.underlying4,aJ]
  refine⟨_,[],bp.pure fun H2 => jE a ha H2 _ ⟨rfl,rfl⟩,?_⟩
  simp only[go_sem,aJ]
  refine⟨_,[],bp.pure fun H2 => jE c hc H2 _ ⟨rfl,rfl⟩,?_⟩
  simp only[go_sem,aJ]
  refine⟨_,[],bp.pure fun H2 => qK a.natAbs c.natAbs O O H2 _ ⟨rfl,rfl⟩,?_⟩
  simp only[go_sem,aJ]
  refine⟨_,[],bp.pure fun H2 => jE b hb H2 _ ⟨rfl,rfl⟩,?_⟩
  simp only[go_sem,aJ]
  refine⟨_,[],bp.pure fun H2 => jE d hd H2 _ ⟨rfl,rfl⟩,?_⟩
  simp only[go_sem,aJ]
  refine⟨_,[],bp.pure fun H2 => qK b.natAbs d.natAbs O O H2 _ ⟨rfl,rfl⟩,?_⟩
  simp only[go_sem,aJ]
  refine⟨_,[],bp.pure fun H2 => CI _ (a.natAbs * c.natAbs) (b.natAbs * d.natAbs) nz O O H2 _ ⟨rfl,rfl⟩,?_⟩
  unfold kX at hK
  obtain⟨x,y,b,e⟩ := CJ (!(decide (a < 0) == decide (c < 0))) (a.natAbs * c.natAbs) (b.natAbs * d.natAbs)
  rw[e]at hK ⊢
  simp only[go_sem,qV,aJ]
  exact ar.drop aH hcl pr hK
def kW (a c:Int)(X Y:Nat):Nat := if (a < 0 ↔ c < 0) then X + Y else if X < Y then Y-X else X-Y
def eD (a c:Int)(X Y:Nat):Bool := if (a < 0 ↔ c < 0) then decide (a < 0) else if X < Y then !decide (a < 0) else decide (a < 0)
def OQ {X:Nat}(h:X < 10000 ^ 10 + 10000 ^ 10):(ay X).length <= 11 := mM (by
  have e:(10000:Nat) ^ 11=10000 * 10000 ^ 10 := by decide
  rw[e]
  omega)
def OS (a b c d:Int)(ha:fa a)(hb:fa b)(hc:fa c)(hd:fa d)(hb0:b ≠ 0)(hd0:d ≠ 0)(H:Xn)(K:Xd -> Xn -> Prop)
    (hK:K (.ret (jF (eD a c (a.natAbs * d.natAbs) (c.natAbs * b.natAbs)) (kW a c (a.natAbs * d.natAbs) (c.natAbs * b.natAbs)) (b.natAbs * d.natAbs))) H):
    ae prog G0 32 [qV a b,qV c d] H K := by
  refine ae.Z ⟨_,func32,rfl,rfl⟩ fun hcl => ?_
  have la := j8 ha
  have lb := j8 hb
  have lc := j8 hc
  have ld := j8 hd
  have l1 := sC ha hd
  have l2 := sC hc hb
  have l3 := sC hb hd
  have nz:b.natAbs * d.natAbs ≠ 0 := Nat.mul_ne_zero (vp hb0) (vp hd0)
  have t1 := fun H2 K h => qK a.natAbs d.natAbs O O H2 K h
  have t2 := fun H2 K h => qK c.natAbs b.natAbs O O H2 K h
  have t3 := fun H2 K h => qK b.natAbs d.natAbs O O H2 K h
  generalize a.natAbs * d.natAbs=X at *
  generalize c.natAbs * b.natAbs=Y at *
  generalize b.natAbs * d.natAbs=D at *
  have lx := pq l1
  have ly := pq l2
  obtain⟨x,y,f,e⟩ := CJ (eD a c X Y) (kW a c X Y) D
  have fin:∀L,ar prog G0 H K (.na [.agg [.lit (.int .i64 x),.lit (.int .i64 y)],.lit (.bool f)]) (ext H L) := fun L => ar.drop aH hcl pr (by rw[e]at hK;exact hK)
  have mk:∀(S:Bool) (T:Nat),S=eD a c X Y -> T=kW a c X Y -> ∀H2 K,K (.ret (.na [.agg [.lit (.int .i64 x),.lit (.int .i64 y)],.lit (.bool f)])) H2 -> ae prog G0 90 [.lit (.bool S),ah (ay T),ah (ay D)] H2 K := fun S T hS hT H2 K h => by
    subst hS hT
    have lT : (ay (kW a c X Y)).length ≤ 11 := OQ (by unfold kW; split; · omega
                                                      · split <;> omega)
    exact CI _ _ D nz O O H2 K (by rw[e];exact h)
  clear hK e
  refine ae.st (n := 71) (rs := [.cell 4 41,.tmp 5]) func32 ?_
  simp only[go_sem,qV,aJ]
  refine W.dr 12 [0,1,3,0,8,31,63,0,128,511,0,1024] mixed ?_
  simp only[go_sem,aJ]
  refine⟨_,[],bp.pure fun H2 => jE a ha H2 _ ⟨rfl,rfl⟩,?_⟩
  simp only[go_sem,aJ]
  refine⟨_,[],bp.pure fun H2 => jE d hd H2 _ ⟨rfl,rfl⟩,?_⟩
  simp only[go_sem,aJ]
  refine⟨_,[],bp.pure fun H2 => t1 H2 _ ⟨rfl,rfl⟩,?_⟩
  simp only[go_sem,aJ]
  refine⟨_,[],bp.pure fun H2 => jE c hc H2 _ ⟨rfl,rfl⟩,?_⟩
  simp only[go_sem,aJ]
  refine az.Z (jE b hb _ _ ⟨trivial,?_⟩)
  simp only[go_sem,aJ]
  refine az.Z (t2 _ _ ⟨trivial,?_⟩)
  simp only[go_sem,aJ]
  refine W.dr 5 [0,1,3,0,8] mixed ?_
  simp only[go_sem,aJ]
  refine⟨_,[],bp.pure fun H2 => jE b hb H2 _ ⟨rfl,rfl⟩,?_⟩
  simp only[go_sem,aJ]
  refine az.Z (jE d hd _ _ ⟨trivial,?_⟩)
  simp only[go_sem,aJ]
  refine az.Z (t3 _ _ ⟨trivial,?_⟩)
  by_cases hs:a < 0 ↔ c < 0
  · have e1:(decide (a < 0) == decide (c < 0))=true := by simp[hs]
    simp only[go_sem,yM Tryz.underlying4,e1,aJ]
    refine W.dr 10 [0,1,3,0,0,24,0,127,255,255] mixed ?_
    simp only[go_sem,aJ]
    refine⟨_,[],bp.pure fun H2 => OO X Y O O H2 _ ⟨rfl,rfl⟩,?_⟩
    simp only[go_sem,aJ]
    refine⟨_,[],bp.pure fun H2 => mk (decide (a < 0)) (X + Y) (by unfold eD;rw[SU hs]) (by unfold kW;rw[SU hs]) H2 _ ⟨rfl,rfl⟩,?_⟩
    simp only[go_sem,aJ]
    exact fin _
  · have e1 : (decide (a < 0) == decide (c < 0)) = false := by
      by_cases q1:a < 0 <;> by_cases q2:c < 0 <;> simp[q1,q2]at hs ⊢
    simp only[go_sem,yM Tryz.underlying4,e1,aJ]
    refine az.Z (vk X Y O _ _ ⟨trivial,?_⟩)
    by_cases hl:X < Y
    · have c1:dP (X:Int) (Y:Int) = -1 := by unfold dP;rw[SU O]
      rw[c1]
      simp only[go_sem,aJ]
      refine W.dr 10 [0,1,3,0,0,24,0,127,255,255] mixed ?_
      simp only[go_sem,aJ]
      refine⟨_,[],bp.pure fun H2 => yJ Y X O O H2 _ ⟨rfl,rfl⟩,?_⟩
      simp only[go_sem,aJ]
      refine⟨_,[],bp.pure fun H2 => mk (decide (c < 0)) (Y-X) (by unfold eD;rw[SQ hs,SU hl];by_cases q1:a < 0 <;> by_cases q2:c < 0 <;> simp[q1,q2]at hs ⊢) (by unfold kW;rw[SQ hs,SU hl]) H2 _ ⟨rfl,rfl⟩,?_⟩
      simp only[go_sem,aJ]
      exact fin _
    · have c1 : 0 ≤ dP (X : Int) (Y : Int) := by
        unfold dP
        rw[SQ O]
        split <;> omega
      obtain⟨z,hz⟩:∃z,z=dP (X:Int) (Y:Int) := ⟨_,rfl⟩
      rw[<- hz]at c1 ⊢
      simp only[go_sem,c1,aJ]
      refine W.dr 10 [0,1,3,0,0,24,0,127,255,255] mixed ?_
      simp only[go_sem,aJ]
      refine⟨_,[],bp.pure fun H2 => yJ X Y O O H2 _ ⟨rfl,rfl⟩,?_⟩
      simp only[go_sem,aJ]
      refine⟨_,[],bp.pure fun H2 => mk (decide (a < 0)) (X-Y) (by unfold eD;rw[SQ hs,SQ hl]) (by unfold kW;rw[SQ hs,SQ hl]) H2 _ ⟨rfl,rfl⟩,?_⟩
      simp only[go_sem,aJ]
      exact fin _
end Go.Proofs.R01
namespace Go.Proofs.R01
open Go.Hx Tryz
variable {g:Int}
def CL (n d:Int)(hg:1<=g):eo (g*n) (g*d)=eo n d:=by
 have e:((Int.gcd (g*n) (g*d):Nat):Int)=g*(Int.gcd n d:Nat):=by
  rw[Int.gcd_mul_left,Vr];congr 1;omega
 have k:∀x:Int,(g*x).tdiv (g*((Int.gcd n d:Nat):Int))=x.tdiv ((Int.gcd n d:Nat):Int):=fun x=>Int.mul_tdiv_mul_of_pos _ _ O;unfold eo;rw[e,k,k]
def CM (neg:Bool)(D:Nat):jF neg 0 D=jF false 0 D:=by
 unfold jF;simp
def OT {S D a b t:Int}(h:XR S D a b g)(ht:1<=t)(hn:-4611686018427387903<=a*t/\a*t<=4611686018427387903)(hb:b<=4611686018427387903):
  jF (kX a t) (a.natAbs*t.natAbs) (b.natAbs*(1:Int).natAbs)=.na [eo (S*t) D,.lit (.bool true)]:=by
 have hs:kX a t=kX (a*t) b:=by
  have h1:(a*t<0)↔(a<0):=by
   rw[TN];refine⟨fun h=>?_,fun h=>Wu O h⟩;rcases WL a 0 with h2|h2
   ·exact h2
   ·have:=Um (show 0<=t by omega) h2;omega
  have:=h.b1;unfold kX;rw[T4 (show ¬t<0 by omega),T4 (show ¬b<0 by omega),decide_eq_decide.2 h1]
 rw[hs,<- VP,show b.natAbs*(1:Int).natAbs=b.natAbs from Nat.mul_one _,CK hn ⟨h.b1,hb⟩,<- CL (a*t) b h.g1];have e1:g*(a*t)=S*t:=by rw[<- h.n,TN a g,UA]
 have e2:g*b=D:=by rw[<- h.d,TN]
 rw[e1,e2]
def OU {S D a b k:Int}(h:XR S D a b g)(hn:-4611686018427387903<=a+k*b/\a+k*b<=4611686018427387903)(hb:b<=4611686018427387903):
  jF (eD a k (a.natAbs*(1:Int).natAbs) (k.natAbs*b.natAbs)) (kW a k (a.natAbs*(1:Int).natAbs) (k.natAbs*b.natAbs)) (b.natAbs*(1:Int).natAbs)=.na [eo (S+k*D) D,.lit (.bool true)]:=by
 have hb1:=h.b1;have hz:(k*b<0)↔(k<0):=by
  rw[TN];refine⟨fun h=>?_,fun h=>Wu O h⟩;rcases WL k 0 with h2|h2
  ·exact h2
  ·have:=Um (show 0<=b by omega) h2;omega
 have e1:g*(a+k*b)=S+k*D:=by rw[<- h.n,<- h.d,U7,TN g a,Int.mul_left_comm,TN g b]
 have e2:g*b=D:=by rw[<- h.d,TN]
 rw[show b.natAbs*(1:Int).natAbs=b.natAbs from Nat.mul_one _,show a.natAbs*(1:Int).natAbs=a.natAbs from Nat.mul_one _,<- VP,<- e1,<- e2,CL _ _ h.g1,<- CK hn ⟨hb1,hb⟩];generalize k*b=z at *
 have hT:kW a k a.natAbs z.natAbs=(a+z).natAbs:=by
  unfold kW;split
  ·omega
  ·split<;>omega
 rw[hT];by_cases h0:a+z=0
 ·rw[h0];exact(CM _ _).trans (CM _ _).symm
 have hS:eD a k a.natAbs z.natAbs=kX (a+z) b:=by
  unfold kX;rw[T4 (show ¬b<0 by omega)];have e:(!(decide (a+z<0) == false))=decide (a+z<0):=by cases decide (a+z<0)<;>rfl
  rw[e];unfold eD;split
  ·exact decide_eq_decide.2 (O)
  ·split
   ·rw[<- decide_not];exact decide_eq_decide.2 (O)
   ·exact decide_eq_decide.2 (O)
 rw[hS]
end Go.Proofs.R01
namespace Go.Proofs
open Go.Hx Tryz
def EC (l:List Int)(a:Int):ints (l++[a])=ints l++[.lit (.int .i64 a)]:=by unfold ints;rw[TT];rfl
def ED (l:List Int)(a:Int):dV (l++[a])=dV l++[.lit (.int .i8 a)]:=by unfold dV;rw[TT];rfl
def zV (l:List Int):(dV l).length=l.length:=by simp[dV]
def SA {S:Nat->Prop}{H:Xn}{nx:Nat}(l:List Int):∀j (h:j<(dV l).length) (h':j<(dV l).length),Fz S H nx (dV l)[j] (dV l)[j]:=fun j h h'=>by
 simp only[dV,S9];exact .lit _
def SB {d:Xa}{u:Xm}{t k:Int}:∀(f need:Nat) (out:List Nat),fY (fU d u t k) f need out=fY d f need out:=by
 intro f
 induction f with
 |zero=>exact fun _ _=>rfl
 |succ f ih =>
  intro need out;have h1:jv (fU d u t k) need=jv d need:=rfl;have h3:(fU d u t k).U=d.U:=rfl;unfold fY;rw[h1,h3];split
  ·rfl
  ·cases jv d need with
   |none=>rfl
   |some v=>exact ih _ _
def EG (n:Nat)(l:List Int):Below 0 (.M n (bP l)):=.M fun i h=>by
 simp only[bP,S9];exact .lit _
def SC (n:Nat)(ps:List XD):Below 0 (.M n (dB ps)):=.M fun i h=>by
 have hm:=TC h;generalize (dB ps)[i]=c at hm;unfold dB at hm;obtain⟨r,hr,hc⟩:=UW.1 hm;obtain⟨x,_,rfl⟩:=S4.1 hr;unfold XD.cells at hc;simp only[List.mem_cons,List.not_mem_nil,or_false]at hc;rcases hc with rfl|rfl|rfl
 ·exact .lit _
 ·exact .lit _
 ·exact EG _ _
def SD {u:XC}{ns:List Xl}(h:∀b∈u.w,-19<=b/\b<=19):∀x∈(eh u ns).w,-19<=x/\x<=19:=fun x hx=>by
 unfold eh at hx;obtain⟨i,_,rfl⟩:=S4.1 hx;split
 ·omega
 ·rename_i hl;have hm:i % u.w.length<u.w.length:=Va _ O;obtain⟨b,hb⟩:=aq hm;have hb2:=h b (an hb);rw[bq hb];have h1:=U6 b 101;have h3:(101:Int).natAbs=101:=rfl;rw[h3,Vh O]at h1;omega
def zW (us:List XC):XC:=us.headD ⟨3,[3,1,4,1,5]⟩
def SE (d:XS)(hd:d.Ok)(n m:Int)(hn:U8 n)(hm:I8 m)(hcap:∀u∈d.us,(u.w.length:Int)<140737488355328)(H:Xn)(K:Xd->Xn->Prop)(hK:∀H',H.A<=H'.A->K (.ret (.lit (.bool true))) H'):
  ae prog G0 6 [.agg d.cells,.lit (.int .u8 n),.lit (.int .i8 m)] H K:=by
 obtain⟨uo,huo⟩:∃uo,uo=zW d.us:=⟨_,rfl⟩
 have huok:uo.Ok:=by
  rw[huo];unfold zW;cases hus:d.us with
  |nil =>
   refine⟨⟨W6,W6⟩,W6,fun b hb=>?_⟩;simp only[List.headD]at hb;simp only[List.mem_cons,List.not_mem_nil,or_false]at hb;rcases hb with rfl|rfl|rfl|rfl|rfl<;>exact⟨W6,W6⟩
  |cons u us=>exact hd.us u (by rw[hus];simp)
 obtain⟨L1,q1,q2,q3,q4,q6⟩:∃L1:Nat,L1<=1/\L1<=d.us.length/\(if 1<(d.us.length:Int) then 1 else (d.us.length:Int))=L1/\(L1≠0->(jC d.us).take (L1*2)=uo.cells)/\(L1=0->uo=⟨3,[3,1,4,1,5]⟩):=by
  cases hus:d.us with
  |nil=>exact⟨0,O,O,W6,fun h=>absurd rfl h,fun _=>by rw[huo,hus];rfl⟩
  |cons u us=>exact⟨1,O,W5,by rw[List.length_cons];split<;>omega,fun _=>by rw[huo,hus];rfl,fun h=>absurd h W6⟩
 have hcu:(uo.w.length:Int)<140737488355328:=by
  rw[huo];unfold zW;cases hus:d.us with
  |nil=>decide
  |cons u us=>exact hcap u (by rw[hus];simp)
 have hul:=hd.ul;have utl:(jC d.us).length=d.us.length*2:=kK (f:=XC.cells) (fun _=>rfl) _;refine ae.sw (n:=172) (rs:=[.tmp 6]) func6 ?_;refine W.sq ?_;simp only[go_sem,XS.cells];refine W.sq ?_;simp only[go_sem];refine az.Z (Su _ _ ⟨trivial,?_⟩);simp only[go_sem];refine W.sq ?_;simp only[go_sem];obtain⟨H1,hH1⟩:∃H1,H1=ext H [.J 0 28 [.lit (.int .u8 d.g),.M d.ps.length (dB d.ps),.M d.ord.length (bP d.ord),.lit (.int .u8 d.U),.lit (.bool true),.M d.us.length (jC d.us)]]:=⟨_,rfl⟩
 have g3:=dv hH1
 have n1:H1.A=H.A+1:=hH1▸rfl
 have o1:Xb H H1:=hH1▸.ext _ _
 rw[<- hH1];clear hH1;have l3:=af g3;refine W.sq ?_;simp only[go_sem,l3,q3,utl];refine⟨O,?_⟩;obtain⟨H2,hH2⟩:∃H2,H2=H1.upd H.A (.J 0 28 [.lit (.int .u8 d.g),.M d.ps.length (dB d.ps),.M d.ord.length (bP d.ord),.lit (.int .u8 d.U),.lit (.bool true),.M L1 ((jC d.us).take (L1*2))]):=⟨_,rfl⟩
 have g32:H2.get H.A=some (.J 0 28 [.lit (.int .u8 d.g),.M d.ps.length (dB d.ps),.M d.ord.length (bP d.ord),.lit (.int .u8 d.U),.lit (.bool true),.M L1 ((jC d.us).take (L1*2))]):=by rw[hH2,ag,SU rfl]
 have n2:H2.A=H.A+1:=by rw[hH2];exact n1
 have k2:∀i,i<H.A->H2.get i=H.get i:=fun i h=>by rw[hH2,ag,SQ O];exact o1.nl i h
 rw[<- hH2];clear hH2;have l32:=af g32;refine W.en (fun E=>E 1=.lit (.int .u8 n) /\ E 2=.lit (.int .i8 m) /\ E 3=.R H.A 0 0) (by simp only[go_sem]) fun E ⟨e1,e2,e3⟩=>?_
 refine W.lO (fun σ=>σ.ρ 1=.lit (.int .u8 n)/\σ.ρ 2=.lit (.int .i8 m)/\σ.ρ 3=.R H.A 0 0/\H.A+1<=σ.H.A/\(∀i,i<H.A->σ.H.get i=H.get i)/\σ.H.get H.A=some (.J 0 28 [.lit (.int .u8 d.g),.M d.ps.length (dB d.ps),.M d.ord.length (bP d.ord),.lit (.int .u8 d.U),.lit (.bool true),.M 1 uo.cells])) ?_ ?_
 ·by_cases hz:(L1:Int)=0;rotate_left
  ·have h1:L1=1:=O;have q5:=q4 O;rw[h1]at q5 g32 l32;refine W.vs ?_;simp only[go_sem,e1,e2,e3,l32];exact⟨O,k2,by rw[g32,q5]⟩
  have h1:L1=0:=O
  have q7:=q6 h1;rw[h1]at g32 l32;refine W.tx (Q':=fun e s2=>e=.normal/\s2.ρ 1=.lit (.int .u8 n)/\s2.ρ 2=.lit (.int .i8 m)/\s2.ρ 3=.R H.A 0 0/\s2.H.A=H.A+3/\(∀i,i<H.A->s2.H.get i=H.get i)/\s2.H.get (H.A+1)=some (.J 0 77 (dV [3,1,4,1,5])) /\
   s2.H.get (H.A+2)=some (.J 0 80 [.lit (.int .u8 3),.Q (H.A+1) 0 0 5 1])/\s2.H.get H.A=some (.J 0 28 [.lit (.int .u8 d.g),.M d.ps.length (dB d.ps),.M d.ord.length (bP d.ord),.lit (.int .u8 d.U),.lit (.bool true),.Q (H.A+2) 0 0 1 2])) ?_ ?_
  ·refine W.vs ?_;simp only[go_sem,e3,l32]
   repeat (refine⟨W6,?_⟩)
   have lay1:∀b,H2.lay (H.A+1) b=some (ext H2 [b]):=fun b=>sg n2.symm;have lay2':∀a b,(ext H2 [a]).lay (H.A+1+1) b=some (ext H2 [a,b]):=fun a b=>by
    have:=xG H2 [a] b;rw[n2]at this;exact this
   have lx:∀L,(ext H2 L).X H.A 0=_:=fun L=>(c9 O).trans l32;simp only[go_sem,n2,e3,lx];refine⟨e1,e2,by rw[aF,aX,n2];rfl,fun i h=>by rw[ag,SQ O,cP _ _ _ O];exact k2 i h,?_,?_,by rw[ag,SU rfl]⟩
   ·rw[ag,SQ O,<- n2];exact cV ..
   ·rw[ag,SQ O,show H.A+2=H2.A+1 by omega];exact bL H2 _ 1 (W5)
  ·rintro e ⟨ρ4,H4⟩ ⟨rfl,w1,w2,w3,w4,w5,w6,w7,w8⟩;refine⟨_,eA.jg aH (n:=H.A+1) (ob:=H.A) (cells':=[.lit (.int .u8 d.g),.M d.ps.length (dB d.ps),.M d.ord.length (bP d.ord),.lit (.int .u8 d.U),.lit (.bool true),.M 1 uo.cells]) w8 rfl (fun hbel i hi h'=>?_),W8,trivial,rfl,w1,w2,w3,by show H.A+1<=H4.A;have:H4.A=H.A+3:=w4;omega,fun i h=>(Bi O O).trans (w5 i h),xY⟩
   match i,hi with
   |0,_=>exact .dead (hbel _ W5)
   |1,_=>exact .dead (hbel _ W5)
   |2,_=>exact .dead (hbel _ W5)
   |3,_=>exact .dead (hbel _ W5)
   |4,_=>exact .dead (hbel _ W5)
   |5,_ =>
    rw[q7];exact Xw.Q ⟨O,O⟩ w7 rfl (.cons (.lit _) (.cons (Xw.Q ⟨O,O⟩ w6 rfl (by repeat (first|exact Xw.nil|refine Xw.cons (Fz.lit _) ?_))) .nil))
 rintro⟨ρ2,H3⟩ ⟨f1,f2,f3,n3,k3,g33⟩;simp only at f1 f2 f3 n3 k3 g33;have l33:=af g33;have ucl:uo.cells=[.lit (.int .u8 uo.vars),.M uo.w.length (dV uo.w)]:=rfl;rw[ucl]at l33 g33;obtain⟨uw1,uw2,uw3⟩:=huok;refine W.sq ?_;simp only[go_sem,f3,l33];obtain⟨H4,hH4⟩:∃H4,H4=ext H3 [.J 0 80 [.lit (.int .u8 uo.vars),.M uo.w.length (dV uo.w)]]:=⟨_,rfl⟩
 have o4:Xb H3 H4:=hH4▸.ext _ _
 have n4:H4.A=H3.A+1:=hH4▸rfl
 have g7:=dv hH4
 have l7:=af g7;rw[<- hH4];clear hH4;have l34:=af ((o4.nl _ O).trans g33);have l7e:∀L,(ext H4 L).X H3.A 0=_:=fun L=>(c9 O).trans l7;have l34e:∀L,(ext H4 L).X H.A 0=_:=fun L=>(c9 O).trans l34;refine W.sq ?_;simp only[go_sem,f3,l7,l34e];obtain⟨H5,hH5⟩:∃H5,H5=(ext H4 [.J 0 80 [.lit (.int .u8 uo.vars),.lit (.slice none 0 0)]]).upd H.A (.J 0 28 [.lit (.int .u8 d.g),.M d.ps.length (dB d.ps),.M d.ord.length (bP d.ord),.lit (.int .u8 d.U),.lit (.bool true),.Q H4.A 0 0 1 2]):=⟨_,rfl⟩
 have n5:H5.A=H4.A+1:=by rw[hH5];rfl
 have g5:H5.get H4.A=some (.J 0 80 [.lit (.int .u8 uo.vars),.lit (.slice none 0 0)]):=by rw[hH5,ag,SQ O];exact cV ..
 have g35:H5.get H.A=some (.J 0 28 [.lit (.int .u8 d.g),.M d.ps.length (dB d.ps),.M d.ord.length (bP d.ord),.lit (.int .u8 d.U),.lit (.bool true),.Q H4.A 0 0 1 2]):=by rw[hH5,ag,SU rfl]
 have k5:∀i,i<H4.A->i≠H.A->H5.get i=H4.get i:=fun i h1 h2=>by rw[hH5,ag,SQ h2];exact cP _ _ _ h1
 rw[<- hH5];clear hH5;have l75:=af ((k5 H3.A O O).trans g7);refine W.en (fun E2=>E2 1=.lit (.int .u8 n) /\ E2 2=.lit (.int .i8 m) /\ E2 3=.R H.A 0 0 /\ E2 7=.R H3.A 0 0) (by simp only[go_sem,f1,f2,f3]) fun E2 ⟨h1',h2',h3',h7'⟩=>?_
 refine W.sq ?_;simp only[go_sem,h7',l75];refine W.env fun E3 hE=>?_;have i1:E3 1=.lit (.int .u8 n):=by rw[hE];simp only[go_sem,h1']
 have i2:E3 2=.lit (.int .i8 m):=by rw[hE];simp only[go_sem,h2']
 have i3:E3 3=.R H.A 0 0:=by rw[hE];simp only[go_sem,h3']
 have i55:E3 55=.M uo.w.length (dV uo.w):=by rw[hE];simp only[go_sem]
 have i56:E3 56=aa uo.w.length:=by rw[hE];simp only[go_sem]
 have i57:E3 57=aa 0:=by rw[hE];simp only[go_sem]
 clear hE;obtain⟨ws,hws⟩:∃ws,ws=uo.w.map fun w=>w.tmod 20:=⟨_,rfl⟩
 refine W.aP 37778787747769085854208 W7 (fun ρ Hx=>∃(k:Nat) (wv:W9),ρ 57=aa k/\k<=uo.w.length/\H5.A<=Hx.A/\(∀i,i<H5.A->i≠H4.A->Hx.get i=H5.get i) /\
  Hx.get H4.A=some (.J 0 80 [.lit (.int .u8 uo.vars),wv])/\aD H5.A Hx 77 wv (dV (ws.take k))) (fun ρ _=>uo.w.length-(iv (ρ 57)).toNat) ?_ ?_
 ·exact⟨0,_,i57,O,W8,fun _ _ _=>rfl,g5,.inl ⟨rfl,rfl⟩⟩
 rintro ρ3 Hx ⟨k,wv,h57,hk,hnx,hold,gx,hO⟩;refine W.en (fun E4=>E4 1=.lit (.int .u8 n) /\ E4 2=.lit (.int .i8 m) /\ E4 3=.R H.A 0 0 /\ E4 55=.M uo.w.length (dV uo.w) /\ E4 56=aa uo.w.length /\ E4 57=aa k) (by simp only[go_sem,i1,i2,i3,i55,i56,h57]) fun E4 ⟨j1,j2,j3,j55,j56,j57⟩=>?_
 have gx3:=(hold H.A O O).trans g35;have lx3:=af gx3;have lx4:=af gx;have i8l:=zV uo.w;by_cases hb:(k:Int)<uo.w.length
 ·obtain⟨w,hw⟩:=aq (l:=uo.w) (i:=k) O;have hw8:=uw3 w (an hw);have gw:=Cv hw;have gwn:=aM gw;have tmr:-20<w.tmod 20/\w.tmod 20<20:=by
   have h:=U6 w 20;have h2:=Va w.natAbs (show (20:Int).natAbs > 0 by decide);have h3:(20:Int).natAbs=20:=rfl;rw[h3]at h h2;omega
  have wt:=IntWalk.i8_in (w.tmod 20) O;have wk:=SN ((k:Int)+1) O;have htk:ws.take (k+1)=ws.take k++[w.tmod 20]:=aU (by rw[hws,List.getElem?_map,hw];rfl);have htl:(dV (ws.take k)).length=k:=by rw[zV,Td,hws,S8];omega
  refine W.sq ?_;simp only[go_sem,j56,j57,hb];refine W.sq ?_;simp only[go_sem];refine W.seq (W.block ?_);refine W.sq ?_;simp only[go_sem,j55,j57,hb,gw,gwn];refine W.dr 11 [0,1,0,4,12,28,60,0,128,384,1020] mixed ?_;rcases hO with ⟨hv,hnil⟩|⟨iu,gu,z1,z2,hv,z4⟩
  ·subst hv;have lye:∀L,(ext Hx L).X H4.A 0=_:=fun L=>(c9 O).trans lx4;have lz3:∀L,(ext Hx L).X H.A 0=_:=fun L=>(c9 O).trans lx3;simp only[go_sem,j3,lx3,lx4,lye,aJ];refine⟨by repeat' (first|refine And.intro ?_ ?_|(intro x hx;omega)),by repeat' (first|refine And.intro ?_ ?_|(intro x hx;omega)),?_⟩;refine W.vs ?_;simp only[go_sem,j57,wk];refine⟨by show H5.A<=Hx.A+2;omega,⟨k+1,_,rfl,O,by show H5.A<=Hx.A+2;omega,fun i h1 h2=>by rw[ag,SQ h2,cP _ _ i O];exact hold i h1 h2,by rw[ag,SU rfl],?_⟩,by rw[h57];simp only[aa,bj];omega⟩;rw[htk,ED,hnil];exact .inr ⟨Hx.A+1,0,O,by show Hx.A+1<Hx.A+2;omega,rfl,by rw[ag,SQ O];exact bL Hx _ 1 W5⟩
  ·subst hv;have lye:∀L,(ext Hx L).X H4.A 0=_:=fun L=>(c9 O).trans lx4;have lz3:∀L,(ext Hx L).X H.A 0=_:=fun L=>(c9 O).trans lx3;have zl:∀L,(ext Hx L).X iu gu=some (77,dV (ws.take k)):=fun L=>(c9 z2).trans (af z4);have lyu:∀L b,((ext Hx L).upd iu b).X H4.A 0=_:=fun L b=>(kx O).trans (lye L);have lzu:∀L b,((ext Hx L).upd iu b).X H.A 0=_:=fun L b=>(kx O).trans (lz3 L);have hby:k+1<=140737488355328:=O;simp only[go_sem,j3,lx3,lx4,zl,lyu,htl,hby,aJ];refine⟨by repeat' (first|refine And.intro ?_ ?_|(intro x hx;omega)),by repeat' (first|refine And.intro ?_ ?_|(intro x hx;omega)),?_⟩;refine W.vs ?_;simp only[go_sem,j57,wk];refine⟨by show H5.A<=Hx.A+1;omega,⟨k+1,_,rfl,O,by show H5.A<=Hx.A+1;omega,fun i h1 h2=>by rw[ag,SQ h2,ag,SQ O,cP _ _ i O];exact hold i h1 h2,by rw[ag,SU rfl],?_⟩,by rw[h57];simp only[aa,bj];omega⟩;rw[htk,ED];exact .inr ⟨iu,gu+1,z1,by show iu<Hx.A+1;omega,by rw[List.length_append,htl];rfl,by rw[ag,SQ O,ag,SU rfl]⟩
 refine W.vs ?_;simp only[go_sem,j56,j57,hb];have wsl:ws.length=uo.w.length:=by rw[hws,S8]
 rw[SR O]at hO;have ws19:∀b∈ws,-19<=b/\b<=19:=fun b hb=>by
  rw[hws]at hb;obtain⟨w,_,rfl⟩:=S4.1 hb;have h:=U6 w 20;have h2:=Va w.natAbs (show (20:Int).natAbs > 0 by decide);have h3:(20:Int).natAbs=20:=rfl;rw[h3]at h h2;omega
 have hd2:XS.Ok ⟨d.g,d.ps,d.ord,d.U,true,[⟨uo.vars,ws⟩]⟩:=⟨hd.g,hd.ps,hd.pl,hd.ol,hd.o8,hd.U,fun u hu=>by
  obtain rfl:=List.mem_singleton.1 hu;exact⟨uw1,by show (ws.length:Int)<2 ^ 63;omega,fun b hb=>by have:=ws19 b hb;unfold I8;omega⟩,by show ((1:Nat):Int)<2 ^ 63;decide⟩
 have hOf:Fz (fun id=>H.A<=id) Hx Hx.A wv (.M ws.length (dV ws)):=by
  have:=hO.fz (S:=fun id=>H.A<=id) (nx:=Hx.A) (cs':=dV ws) (fun i h=>O) rfl fun j hj h'=>SA ws j hj h';rw[zV]at this;exact this
 refine W.sq ?_;simp only[go_sem,j3,lx3];refine az.iO (B:=H) aH ⟨O,fun i hi=>(hold i O O).trans ((k5 i O O).trans ((o4.nl i O).trans (k3 i hi)))⟩ (args':=[.agg (XS.cells ⟨d.g,d.ps,d.ord,d.U,true,[⟨uo.vars,ws⟩]⟩)]) (.cons (Xw.agg (.cons (.lit _) (.cons (.plain (SC _ _)) (.cons (.plain (EG _ _)) (.cons (.lit _) (.cons (.lit _) (.cons (Xw.Q O gx rfl (.cons (.lit _) (.cons hOf .nil))) .nil))))))) .nil) fun H6 o6=>?_;refine N8 ⟨d.g,d.ps,d.ord,d.U,true,[⟨uo.vars,ws⟩]⟩ hd2 H6 _ fun x hx hux=>⟨trivial,?_⟩
 obtain⟨u,hu⟩:∃u,u=eh ⟨uo.vars,ws⟩ x.C:=⟨_,rfl⟩
 have hxu:x.V=[u]:=by rw[hux,hu];rfl
 have hu19:∀w∈u.w,-19<=w/\w<=19:=by rw[hu];exact SD ws19
 have hok:=hx.ok;have hf:=sv hok;have n8:=hok.n.n1;have h6:x.C.length<=6:=by have:=hx.n5;omega
 have gp:=zu hok;obtain⟨r0,hr0,hre⟩:=Sv hx;have ufit:=hf.V.2 u (by rw[hxu];simp);have uc1:aZ x.V=[.M u.vars.length (ints u.vars),.M u.w.length (ints u.w)]:=by rw[hxu];rfl
 have ul1:x.V.length=1:=by rw[hxu];rfl
 have hn0:=hn.1;have hn1:=hn.2;obtain⟨t0,ht0⟩:∃t0,t0=n.tmod 4:=⟨_,rfl⟩
 have t03:0<=t0/\t0<=3:=by rw[ht0,TD hn0];have:=VH n (show (4:Int)≠0 by decide);have:=UZ n (show (0:Int)<4 by decide);omega
 obtain⟨kq,hkq⟩:∃kq,kq=m.tmod 20:=⟨_,rfl⟩
 have kq19:-19<=kq/\kq<=19:=by
  have h:=U6 m 20;have h2:=Va m.natAbs (show (20:Int).natAbs > 0 by decide);have h3:(20:Int).natAbs=20:=rfl;rw[h3]at h h2;omega
 have wa:=V8 t0 O;have wb:=SN t0 O;have wc:=SN (1+t0) O;have wd:=IntWalk.i8_in kq O;have we:=SN kq O;simp only[go_sem,Cu,vf,uc1,ul1];obtain⟨H7,hH7⟩:∃H7,H7=ext H6 [.J 0 38 [.lit (.int .i64 x.Y),.M x.C.length (aW x.C),.lit (.int .u64 (x.U:Int)),.M 1 [.M u.vars.length (ints u.vars),.M u.w.length (ints u.w)]]]:=⟨_,rfl⟩
 have n7:H7.A=H6.A+1:=hH7▸rfl
 have o7:Xb H H7:=by rw[hH7];exact o6.trans (.ext _ _)
 have g10:=dv hH7
 rw[<- hH7];clear hH7;have l10:=af g10;refine W.sq ?_;simp only[go_sem,j1,j2,<- ht0,<- hkq,wb,wc,we];refine W.sq ?_;simp only[go_sem,l10];obtain⟨H8,hH8⟩:∃H8,H8=ext H7 [.J 0 38 [.lit (.int .i64 x.Y),.M x.C.length (aW x.C),.lit (.int .u64 (x.U:Int)),.M 1 [.M u.vars.length (ints u.vars),.M u.w.length (ints u.w)]]]:=⟨_,rfl⟩
 have n8':H8.A=H7.A+1:=by rw[hH8];rfl
 have o8:Xb H7 H8:=hH8▸.ext _ _
 have g13:=dv hH8
 rw[<- hH8];clear hH8;have g108:=(o8.nl _ O).trans g10;have l108:=af g108;have l13:=af g13;have l13e:∀L,(ext H8 L).X H7.A 0=_:=fun L=>(c9 O).trans l13;refine W.en (fun E5=>E5 10=.R H6.A 0 0 /\ E5 11=aa (1+t0) /\ E5 12=aa kq /\ E5 13=.R H7.A 0 0) (by simp only[go_sem]) fun E5 ⟨p10,p11,p12,p13⟩=>?_
 refine W.sq ?_;simp only[go_sem,p10,p13,l108,l13e];obtain⟨H9,hH9⟩:∃H9,H9=(ext H8 [.J 0 82 [.M u.vars.length (ints u.vars),.lit (.slice none 0 0)]]).upd H7.A (.J 0 38 [.lit (.int .i64 x.Y),.M x.C.length (aW x.C),.lit (.int .u64 (x.U:Int)),.Q H8.A 0 0 1 2]):=⟨_,rfl⟩
 have n9:H9.A=H8.A+1:=by rw[hH9];rfl
 have gu9:H9.get H8.A=some (.J 0 82 [.M u.vars.length (ints u.vars),.lit (.slice none 0 0)]):=by rw[hH9,ag,SQ O];exact cV ..
 have g139:H9.get H7.A=some (.J 0 38 [.lit (.int .i64 x.Y),.M x.C.length (aW x.C),.lit (.int .u64 (x.U:Int)),.Q H8.A 0 0 1 2]):=by rw[hH9,ag,SU rfl]
 have k9:∀i,i<H8.A->i≠H7.A->H9.get i=H8.get i:=fun i h1 h2=>by rw[hH9,ag,SQ h2];exact cP _ _ _ h1
 rw[<- hH9];clear hH9;have g109:=(k9 _ O O).trans g108;have l109:=af g109;refine W.sq ?_;simp only[go_sem,p10,l109];refine W.en (fun E6=>E6 10=.R H6.A 0 0 /\ E6 11=aa (1+t0) /\ E6 12=aa kq /\ E6 13=.R H7.A 0 0 /\ E6 97=.M u.w.length (ints u.w) /\ E6 98=aa u.w.length /\ E6 99=aa 0) (by simp only[go_sem,p10,p11,p12,p13]) fun E6 ⟨q10,q11,q12,q13,q97,q98,q99⟩=>?_
 obtain⟨vs,hvs⟩:∃vs,vs=u.w.map fun w=>w*(1+t0)+kq:=⟨_,rfl⟩
 have uwl:=ufit.2;refine W.aP 1329227361959615758789106311928774656 W7 (fun ρ Hx=>∃(k:Nat) (wv:W9),ρ 99=aa k/\k<=u.w.length/\H9.A<=Hx.A/\(∀i,i<H9.A->i≠H8.A->Hx.get i=H9.get i) /\
  Hx.get H8.A=some (.J 0 82 [.M u.vars.length (ints u.vars),wv])/\aD H9.A Hx 3 wv (ints (vs.take k))) (fun ρ _=>u.w.length-(iv (ρ 99)).toNat) ?_ ?_
 ·exact⟨0,_,q99,O,W8,fun _ _ _=>rfl,gu9,.inl ⟨rfl,rfl⟩⟩
 rintro ρ4 Hz ⟨k',wv',h99,hk',hnz,holdz,gz,hOz⟩;refine W.en (fun E7=>E7 10=.R H6.A 0 0 /\ E7 11=aa (1+t0) /\ E7 12=aa kq /\ E7 13=.R H7.A 0 0 /\ E7 97=.M u.w.length (ints u.w) /\ E7 98=aa u.w.length /\ E7 99=aa k') (by simp only[go_sem,q10,q11,q12,q13,q97,q98,h99]) fun E7 ⟨r10,r11,r12,r13,r97,r98,r99⟩=>?_
 have gz13:=(holdz H7.A O O).trans g139;have lz13:=af gz13;have lz8:=af gz;by_cases hbz:(k':Int)<u.w.length
 ·obtain⟨w,hw⟩:=aq (l:=u.w) (i:=k') O;have hwr:=hu19 w (an hw);have hwne:=aM hw;have hmul:-76<=w*(1+t0)/\w*(1+t0)<=76:=by
   rcases(show t0=0\/t0=1\/t0=2\/t0=3 by omega) with e|e|e|e<;>subst e<;>omega
  have wm:=SN (w*(1+t0)) O;have ws':=SN (w*(1+t0)+kq) O;have wk:=SN ((k':Int)+1) O;have htk:vs.take (k'+1)=vs.take k'++[w*(1+t0)+kq]:=aU (by rw[hvs,List.getElem?_map,hw];rfl);have htl:(ints (vs.take k')).length=k':=by rw[aS,Td,hvs,S8];omega
  refine W.sq ?_;simp only[go_sem,r98,r99,hbz];refine W.sq ?_;simp only[go_sem];refine W.seq (W.block ?_);refine W.sq ?_;simp only[go_sem,r97,r99,hbz,hw,hwne];refine W.dr 14 [0,1,0,4,12,28,60,0,0,384,0,1920,3968,8188] mixed ?_;rcases hOz with ⟨hv,hnil⟩|⟨iu,gu,z1,z2,hv,z4⟩
  ·subst hv;have lye:∀L,(ext Hz L).X H8.A 0=_:=fun L=>(c9 O).trans lz8;have lz3:∀L,(ext Hz L).X H7.A 0=_:=fun L=>(c9 O).trans lz13;simp only[go_sem,r11,r12,r13,lz13,lz8,lye,wm,ws',aJ];refine⟨by repeat' (first|refine And.intro ?_ ?_|(intro x hx;omega)),by repeat' (first|refine And.intro ?_ ?_|(intro x hx;omega)),?_⟩;refine W.vs ?_;simp only[go_sem,r99,wk];refine⟨by show H9.A<=Hz.A+2;omega,⟨k'+1,_,rfl,O,by show H9.A<=Hz.A+2;omega,fun i h1 h2=>by rw[ag,SQ h2,cP _ _ i O];exact holdz i h1 h2,by rw[ag,SU rfl],?_⟩,by rw[h99];simp only[aa,bj];omega⟩;rw[htk,EC,hnil];exact .inr ⟨Hz.A+1,0,O,by show Hz.A+1<Hz.A+2;omega,rfl,by rw[ag,SQ O];exact bL Hz _ 1 W5⟩
  ·subst hv;have lye:∀L,(ext Hz L).X H8.A 0=_:=fun L=>(c9 O).trans lz8;have lz3:∀L,(ext Hz L).X H7.A 0=_:=fun L=>(c9 O).trans lz13;have zl:∀L,(ext Hz L).X iu gu=some (3,ints (vs.take k')):=fun L=>(c9 z2).trans (af z4);have lyu:∀L b,((ext Hz L).upd iu b).X H8.A 0=_:=fun L b=>(kx O).trans (lye L);have lzu:∀L b,((ext Hz L).upd iu b).X H7.A 0=_:=fun L b=>(kx O).trans (lz3 L);have hby:(k'+1)*8<=140737488355328:=O;simp only[go_sem,r11,r12,r13,lz13,lz8,zl,lyu,htl,hby,wm,ws',aJ];refine⟨by repeat' (first|refine And.intro ?_ ?_|(intro x hx;omega)),O,by repeat' (first|refine And.intro ?_ ?_|(intro x hx;omega)),?_⟩;refine W.vs ?_;simp only[go_sem,r99,wk];refine⟨by show H9.A<=Hz.A+1;omega,⟨k'+1,_,rfl,O,by show H9.A<=Hz.A+1;omega,fun i h1 h2=>by rw[ag,SQ h2,ag,SQ O,cP _ _ i O];exact holdz i h1 h2,by rw[ag,SU rfl],?_⟩,by rw[h99];simp only[aa,bj];omega⟩;rw[htk,EC];exact .inr ⟨iu,gu+1,z1,by show iu<Hz.A+1;omega,by rw[List.length_append,htl];rfl,by rw[ag,SQ O,ag,SU rfl]⟩
 refine W.vs ?_;simp only[go_sem,r98,r99,hbz];have vsl:vs.length=u.w.length:=by rw[hvs,S8]
 rw[SR O]at hOz;have hOzf:Fz (fun id=>H7.A+1<=id/\id≠H7.A) Hz Hz.A wv' (.M vs.length (ints vs)):=by
  have:=hOz.fz (S:=fun id=>H7.A+1<=id/\id≠H7.A) (nx:=Hz.A) (cs':=ints vs) (fun i h=>⟨O,O⟩) rfl fun j hj h'=>by simp only[ints,S9];exact .lit _
  rw[aS]at this;exact this
 refine W.AH (eA.jg aH (n:=H7.A+1) (ob:=H7.A) (cells':=[.lit (.int .i64 x.Y),.M x.C.length (aW x.C),.lit (.int .u64 (x.U:Int)),.M 1 [.M u.vars.length (ints u.vars),.M vs.length (ints vs)]]) gz13 rfl (fun hbel i hi h'=>?_)) W8 trivial ?_
 ·match i,hi with
  |0,_=>exact .lit _
  |1,_=>exact .dead (hbel _ W5)
  |2,_=>exact .lit _
  |3,_=>exact Xw.Q ⟨O,O⟩ gz rfl (.cons (.dC _) (.cons hOzf .nil))
 obtain⟨Hm,hHm⟩:∃Hm,Hm=Hz.jg (H7.A+1) H7.A (.J 0 38 [.lit (.int .i64 x.Y),.M x.C.length (aW x.C),.lit (.int .u64 (x.U:Int)),.M 1 [.M u.vars.length (ints u.vars),.M vs.length (ints vs)]]):=⟨_,rfl⟩
 have nm:Hm.A=Hz.A:=by rw[hHm];rfl
 have gm13:Hm.get H7.A=some (.J 0 38 [.lit (.int .i64 x.Y),.M x.C.length (aW x.C),.lit (.int .u64 (x.U:Int)),.M 1 [.M u.vars.length (ints u.vars),.M vs.length (ints vs)]]):=by rw[hHm];exact xY
 have gm10:Hm.get H6.A=some (.J 0 38 [.lit (.int .i64 x.Y),.M x.C.length (aW x.C),.lit (.int .u64 (x.U:Int)),.M 1 [.M u.vars.length (ints u.vars),.M u.w.length (ints u.w)]]):=by rw[hHm,Bi O O];exact(holdz _ O O).trans g109
 rw[<- hHm];clear hHm;have lm10:=af gm10;have ht1:(1:Int)<=1+t0:=O
 have hbd:∀w∈u.w,-100<=w*(1+t0)+kq/\w*(1+t0)+kq<=100:=fun w hw=>by
  have hwr:=hu19 w hw;rcases(show t0=0\/t0=1\/t0=2\/t0=3 by omega) with e|e|e|e<;>subst e<;>omega
 have yok:=Sx hok hxu hbd;obtain⟨yro,ysol,ytot⟩:=Sy hok hxu ht1 yok (ma hr0);obtain⟨Y,hY⟩:∃Y,Y=fU x u (1+t0) kq:=⟨_,rfl⟩
 have hrY:fL Y=some r0:=by
  rw[hY];exact(SB (d:=x) _ 0 []).trans hr0
 have hYe:qH Y=.agg [.lit (.int .i64 x.Y),.M x.C.length (aW x.C),.lit (.int .u64 (x.U:Int)),.M 1 [.M u.vars.length (ints u.vars),.M vs.length (ints vs)]]:=by
  rw[hY,hvs];rfl
 have hYg:Y.Y ^ Y.C.length=x.Y ^ x.C.length:=by rw[hY];rfl
 have hYl:Y.C.length=x.C.length:=by rw[hY];rfl
 rw[<- hY]at yok yro ysol ytot;have yf:=sv yok;have yre:cJ Y=0:=by unfold cJ;rw[eI yok,hrY];rfl
 obtain⟨D,hD⟩:∃D,D=x.Y ^ x.C.length:=⟨_,rfl⟩
 have s4:=Se hok (pB (py hok (ma hr0)).1);rw[(py hok (ma hr0)).2.1]at s4;rw[<- hD]at gp s4 ytot hYg;obtain⟨va,vb,vg,hv,hvF⟩:=tt (S:=fg x r0) (D:=D) gp.1;obtain⟨ca,cb,cg,hc,hcF⟩:=tt (S:=fg x r0*(1+t0)) (D:=D) gp.1;obtain⟨wa',wb',wg,hw,hwF⟩:=tt (S:=fg x r0*(1+t0)+kq*D) (D:=D) gp.1;rw[TN]at ytot;have hPo:=(py hok (ma hr0)).1;have hPf:=ph hok hPo;have solveX:=fun (H:Xn) (K:Xd->Xn->Prop) (h:K (.ret (.na [aO (dX x r0),.agg [.lit (.int .i64 va),.lit (.int .i64 vb)],aa 0])) H)=>EA x (tf x hf h6 H K (fun he=>absurd (hre.symm.trans he) W6) (fun _ he=>absurd hre he) fun r hr _ _=>by
  obtain rfl:r0=r:=Option.some.inj (hr0.symm.trans hr);rw[<- hD,hv];exact h)
 rw[Cu]at solveX;unfold vf at solveX;rw[uc1,ul1]at solveX;have solveY:=fun (H:Xn) (K:Xd->Xn->Prop) (h:K (.ret (.na [aO (dX x r0),.agg [.lit (.int .i64 wa'),.lit (.int .i64 wb')],aa 0])) H)=>EA Y (tf Y yf O H K (fun he=>absurd (yre.symm.trans he) W6) (fun _ he=>absurd yre he) fun r hr _ _=>by
  obtain rfl:r0=r:=Option.some.inj (hrY.symm.trans hr);rw[hYg,ytot,hw,ysol];exact h)
 rw[hYe]at solveY;obtain⟨PX,hPX⟩:∃PX,PX=dX x r0:=⟨_,rfl⟩
 rw[<- hPX]at solveX solveY hPf;obtain⟨bd1,bd2⟩:=hvF.bound;obtain⟨bd3,bd4⟩:=hcF.bound;obtain⟨bd5,bd6⟩:=hwF.bound;have vb1:=hvF.b1;have cb1:=hcF.b1;have hn4:(fg x r0*(1+t0)).natAbs<=4*(400*D).natAbs:=by
  rcases(show t0=0\/t0=1\/t0=2\/t0=3 by omega) with e|e|e|e<;>subst e<;>omega
 refine W.sq ?_;simp only[go_sem,r10,lm10];refine az.Z (solveX Hm _ ⟨trivial,?_⟩);simp only[go_sem];obtain⟨HA,hHA⟩:∃HA,HA=ext Hm [.J 0 41 [.lit (.int .i64 va),.lit (.int .i64 vb)]]:=⟨_,rfl⟩
 have oA:Xb Hm HA:=hHA▸.ext _ _
 have nA:HA.A=Hm.A+1:=hHA▸rfl
 have g17:=dv hHA
 rw[<- hHA];clear hHA;have lA13:=af ((oA.nl _ O).trans gm13);refine W.sq ?_;simp only[go_sem,r13,lA13];refine az.Z (solveY HA _ ⟨trivial,?_⟩);simp only[go_sem];obtain⟨HB,hHB⟩:∃HB,HB=ext HA [.J 0 41 [.lit (.int .i64 wa'),.lit (.int .i64 wb')]]:=⟨_,rfl⟩
 have oB:Xb HA HB:=hHB▸.ext _ _
 have nB:HB.A=HA.A+1:=hHB▸rfl
 have g20:=dv hHB
 rw[<- hHB];clear hHB;have g17B:=(oB.nl _ O).trans g17;have l17:=af g17B;refine W.en (fun E8=>E8 11=aa (1+t0) /\ E8 12=aa kq /\ E8 16=aO PX /\ E8 17=.R Hm.A 0 0 /\ E8 18=aa 0 /\ E8 19=aO PX /\ E8 20=.R HA.A 0 0 /\ E8 21=aa 0) (by simp only[go_sem,r11,r12]) fun E8 ⟨s11,s12,s16,s17,s18,s19,s20,s21⟩=>?_
 have hcu':=hvF.check O O;refine W.sq ?_;simp only[go_sem,s17,s18,s21,l17];refine az.Z (R01.Rn va vb (by unfold R01.fa;omega) (by unfold R01.fa;omega) HB _ ⟨trivial,?_⟩);rw[Ty hcu'];simp only[go_sem,s16,s19];refine az.Z (tq PX PX (by have:=hPf.1;omega) (fun r h=>by have:=hPf.2 r h;omega) HB _ ⟨trivial,?_⟩);rw[Ty rfl];simp only[go_sem];have hmul:=R01.OT hvF ht1 (by
  have:(va*(1+t0)).natAbs<=4*(400*D).natAbs:=by
   rcases(show t0=0\/t0=1\/t0=2\/t0=3 by omega) with e|e|e|e<;>subst e<;>omega
  omega) (O)
 rw[hc]at hmul;have kb:(kq*cb).natAbs<=19*D.natAbs:=by
  rw[VP];exact VO O (O)
 have hadd:=R01.OU (k:=kq) hcF O O;rw[hw]at hadd;refine W.sq ?_;simp only[go_sem,s11,s17,l17];refine az.Z (R01.OP va vb (1+t0) 1 (by unfold R01.fa;omega) (by unfold R01.fa;omega) (by unfold R01.fa;omega) (by unfold R01.fa;omega) O O HB _ ⟨trivial,?_⟩);rw[hmul];simp only[go_sem];obtain⟨HC,hHC⟩:∃HC,HC=ext HB [.J 0 41 [.lit (.int .i64 ca),.lit (.int .i64 cb)]]:=⟨_,rfl⟩
 have oC:Xb HB HC:=hHC▸.ext _ _
 have nC:HC.A=HB.A+1:=hHC▸rfl
 have l22:=af (show HC.get HB.A=some (.J 0 41 [.lit (.int .i64 ca),.lit (.int .i64 cb)]) by rw[hHC];exact cV ..);rw[<- hHC];clear hHC;refine W.sq ?_;simp only[go_sem,s12,l22];refine az.Z (R01.OS ca cb kq 1 (by unfold R01.fa;omega) (by unfold R01.fa;omega) (by unfold R01.fa;omega) (by unfold R01.fa;omega) O O HC _ ⟨trivial,?_⟩);rw[hadd];simp only[go_sem];obtain⟨HD,hHD⟩:∃HD,HD=ext HC [.J 0 41 [.lit (.int .i64 wa'),.lit (.int .i64 wb')]]:=⟨_,rfl⟩
 have oD:Xb HC HD:=hHD▸.ext _ _
 have nD:HD.A=HC.A+1:=hHD▸rfl
 have l24:=af (show HD.get HC.A=some (.J 0 41 [.lit (.int .i64 wa'),.lit (.int .i64 wb')]) by rw[hHD];exact cV ..);rw[<- hHD];clear hHD;have l20:=af ((oD.nl _ O).trans ((oC.nl _ O).trans g20));have eqW:∀o1 o2,bn prog .eql 41 o1 o2 (.agg [.lit (.int .i64 wa'),.lit (.int .i64 wb')]) (.agg [.lit (.int .i64 wa'),.lit (.int .i64 wb')])=some (.lit (.bool true)):=fun o1 o2=>by rw[xZ];simp
 refine W.vs ?_;simp only[go_sem,s20,l20,l24,eqW];have o6n:=o6.A;exact ar.mk O (hK _ O)
end Go.Proofs
namespace Go.Proofs.YtjhbjbninamhnaaGreat
open Go.ChangeShapes Go.WideShapes Go.ChangeAt Go.RowKit Go.Hx
section
variable {W:World} {H:Type} {enc:TypeId × Value->H} {spare:Nat->Bool} {held:Bool}
def Sz (t:TypeId)(d:DataW H):Prop:=∀n,n∈d.weights Tryz.prog t->n<=reachBytes
def SF {e:TypeId}:∀ {ds:List (DataW H)} {i:Nat} (h:i<ds.length) {n:Nat},n∈ds[i].weights Tryz.prog e->n∈DataW.weightsAll Tryz.prog e ds:=by
 intro ds
 induction ds with
 |nil=>intro i h;exact absurd h (Tb _)
 |cons d ds ih =>
  intro i h n hn;simp only[DataW.weightsAll,Tk];cases i with
  |zero=>exact .inl hn
  |succ i=>exact .inr (ih (by simpa using h) hn)
theorem Sz.slice {t e:TypeId}{ds rest:List (DataW H)}(hu:Tryz.prog.underlying t=some (.slice e))(h:Sz t (.slice ds rest)):ds.length*Tryz.prog.bytesOf e<=reachBytes/\∀i (hi:i<ds.length),Sz e ds[i]:=by
 have h':∀n,n∈(ds.length+rest.length)*Tryz.prog.bytesOf e :: (DataW.weightsAll Tryz.prog e ds++DataW.weightsAll Tryz.prog e rest)->n<=reachBytes:=fun n hn=>h n (by simp only[DataW.weights,hu];exact hn);refine⟨Tw (Tr _ (Wf _ _)) (h' _ (V6 ..)),fun i hi n hn=>h' n ?_⟩;exact UN _ (Ve _ (SF hi hn))
def SG {t e:TypeId}{k:IntKind}(ht:Tryz.prog.underlying t=some (.slice e))(he:Tryz.prog.underlying e=some (.int k))(hc:Tryz.prog.cellsOf e=1)(hb:Tryz.prog.bytesOf e=1):
  fJ enc Tryz.prog W spare held t fun d zs=>Sz t d->∃l:List Int,zs=[.M l.length (rS k l)]/\l.length<=maxLen/\(∀c,c∈l->(Lit.int k c).wf=true)/\l.length<=reachBytes :=
 (tU ht O (nJ he)).mono fun d zs h hs=>by
  rcases h with ⟨_,rfl⟩|⟨ds,rest,nn,rfl,rfl,hr,_,hl⟩
  ·exact⟨[],rfl,W6,(fun c h=>by cases h),Uh _⟩
  ·have h1:=(hs.slice ht).1;rw[hb,hr.1]at h1;obtain⟨l,rfl,hq⟩:=tW (f:=fun n=>[W9.lit (.int k n)]) (q:=fun n=>(Lit.int k n).wf=true) (fun d zs ⟨n,_,h2,h3⟩=>⟨n,h2,h3⟩) hr;refine⟨l,?_,by simpa using hl,hq,by simpa using h1⟩;rw[S8];congr 2;exact AQ _ l
def tB (x:XC):Prop:=x.Ok/\x.w.length<=reachBytes
def SH:fJ enc Tryz.prog W spare held 80 fun d zs=>Sz 80 d->∃x:XC,zs=x.cells/\tB x:=by
 have hu:=Tryz.underlying80;have c1:=Tryz.sr;have c2:=Tryz.By;have c3:=Tryz.Bx;refine(tV (φ:=fun i d xs=>if i=1 then Sz 78 d->∃l:List Int,xs=[.M l.length (rS .i8 l)]/\l.length<=maxLen/\(∀c,c∈l->(Lit.int .i8 c).wf=true)/\l.length<=reachBytes else ∃n,xs=[.lit (.int .u8 n)]/\(Lit.int .u8 n).wf=true) hu
  (fun cs hcs=>by
   have hc:Tryz.prog.cellsOf 80=2:=W7;rw[hc]at hcs
   match cs,hcs with
   | [a,b],_=>simp[c1,c2])
  (fun i hi=>match i,hi with
   |0,_=>(nJ Tryz.underlying5).mono fun _ _ ⟨n,_,h,w⟩=>⟨n,h,w⟩
   |1,_=>(SG Tryz.underlying78 Tryz.underlying77 c3 W7).mono fun _ _ h=>h)).mono fun d zs ⟨ds,nn,ed,e,hl1,hl2,hall⟩ hs=>?_
 match nn,ds,hl2,hl1,hall,ed with
 | [x,y],[d0,d1],_,_,hall,ed =>
  obtain⟨n0,e0,w0⟩:=hall 0 W5 W5;obtain⟨l,e2,w2,w3,w4⟩:=hall 1 W5 W5 (fun n hn=>hs n (by
   rw[ed];simp only[DataW.weights,hu,WX,List.map_cons,List.map_nil,DataW.weightsEach,Tk];exact .inr (.inl hn)))
  simp only[TE,UF]at e0 e2;subst e0;subst e2;refine⟨⟨n0,l⟩,by rw[e];rfl,?_,w4⟩;exact⟨nO w0,sh w2,fun c hc=>wf_i8 (w3 c hc)⟩
def SI:fJ enc Tryz.prog W spare held 26 fun d zs=>Sz 26 d->∃l:List XC,zs=[.M l.length (l.map XC.cells).flatten]/\l.length<=maxLen/\∀x∈l,tB x:=by
 have c5:=Tryz.yc;refine(tU Tryz.underlying26 (by rw[c5];decide) SH).mono fun d zs h hs=>?_;rcases h with ⟨_,rfl⟩|⟨ds,rest,nn,rfl,rfl,hr,_,hl⟩
 ·exact⟨[],rfl,Uh _,fun c h=>by cases h⟩
 ·have h1:=(hs.slice Tryz.underlying26).2;have hr2:xA (fun _ zs=>∃x:XC,zs=x.cells/\tB x) ds nn:=⟨hr.1,fun i h h'=>hr.2 i h h' (h1 i h')⟩
  obtain⟨l,rfl,hq⟩:=tW (f:=XC.cells) (q:=tB) (fun d zs h=>h) hr2;exact⟨l,by rw[S8],by simpa using hl,hq⟩
def SJ:fJ enc Tryz.prog W spare held 28 fun d zs=>Sz 28 d->∃x:XS,zs=x.cells/\x.Ok/\∀u∈x.us,u.w.length<=reachBytes:=by
 have hu:=Tryz.underlying28;have c1:=Tryz.sr;have c2:=Tryz.Bn;have c3:=Tryz.Bp;have c4:=Tryz.Bq;have c5:=Tryz.yc;refine(tV (φ:=fun i d xs=>if i=0 then ∃(g:Int) (ps:List XD) (ord:List Int),xs=[.lit (.int .u8 g),.M ps.length (dB ps),.M ord.length (bP ord)]/\U8 g/\(∀x∈ps,x.Ok)/\(ps.length:Int)<2 ^ 63/\(ord.length:Int)<2 ^ 63/\∀x∈ord,U8 x
   else if i=1 then ∃n,xs=[.lit (.int .u8 n)]/\(Lit.int .u8 n).wf=true else if i=2 then ∃b,xs=[.lit (.bool b)] else Sz 26 d->∃l:List XC,xs=[.M l.length (l.map XC.cells).flatten]/\l.length<=maxLen/\∀x∈l,tB x) hu
  (fun cs hcs=>by
   have hc:Tryz.prog.cellsOf 28=6:=W7;rw[hc]at hcs
   match cs,hcs with
   | [a,b,c,d,e,f],_=>simp[c1,c2,c3,c4])
  (fun i hi=>match i,hi with
   |0,_=>Le.mono fun _ _ h=>h
   |1,_=>(nJ Tryz.underlying5).mono fun _ _ ⟨n,_,h,w⟩=>⟨n,h,w⟩
   |2,_=>(F7 Tryz.underlying4).mono fun _ _ ⟨n,_,h⟩=>⟨n,h⟩
   |3,_=>SI.mono fun _ _ h=>h)).mono fun d zs ⟨ds,nn,ed,e,hl1,hl2,hall⟩ hs=>?_
 match nn,ds,hl2,hl1,hall,ed with
 | [x,y,z,u],[d0,d1,d2,d3],_,_,hall,ed =>
  obtain⟨g,ps,ord,e0,w0,w0',w0'',w0''',w04⟩:=hall 0 W5 W5;obtain⟨n1,e1,w1⟩:=hall 1 W5 W5;obtain⟨b,e2⟩:=hall 2 W5 W5;obtain⟨us,e3,w3,w3'⟩:=hall 3 W5 W5 (fun n hn=>hs n (by
   rw[ed];simp only[DataW.weights,hu,WX,List.map_cons,List.map_nil,DataW.weightsEach,Tk];exact .inr (.inr (.inr (.inl hn)))))
  simp only[TE,UF]at e0 e1 e2 e3;subst e0;subst e1;subst e2;subst e3;exact⟨⟨g,ps,ord,n1,b,us⟩,by rw[e];rfl,⟨w0,w0',w0'',w0''',w04,nO w1,fun x hx=>(w3' x hx).1,sh w3⟩,fun x hx=>(w3' x hx).2⟩
def SK {r:Reach}{b:Nat}{v:Value}{d:DataW H}{ps:List MemPlace}(hs:∀n,n∈d.weights Tryz.prog 28->n<=reachBytes)(hval:Value.okWide Tryz.prog W r b 28 v)(hd:DataW.Trod enc Tryz.prog W 0 spare held 28 v d ps):
  ∃x:XS,Xc Tryz.prog jR dp W (.agg x.cells) v/\x.Ok/\∀u∈x.us,(u.w.length:Int)<140737488355328:=by
 obtain⟨xs,h1,h2⟩:=Ga SJ (.inl ⟨_,Tryz.underlying28⟩) hval hd;obtain⟨x,rfl,h3,h4⟩:=h2 hs;exact⟨x,h1,h3,fun u hu=>by have:=h4 u hu;have:=reachBytes_lt;omega⟩
end
end Go.Proofs.YtjhbjbninamhnaaGreat
