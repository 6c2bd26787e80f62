/- Own work: contracts. -/
import Derived.Test.YteolcdbjdgimhaaGreatConJ
import Derived.Test.YteolcdbjdgimhaaGreatConI
import Derived.Test.YteolcdbjdgimhaaGreatConF
import Derived.ProofKit
import Derived.Test.YteolcdbjdgimhaaGreatConG
import Derived.Test.YteolcdbjdgimhaaGreatConH
set_option linter.all false
set_option maxHeartbeats 8000000
set_option maxRecDepth 100000
namespace Go.Proofs
open Go.Hx Tryz
variable {tot:Int}{lvh:ZK}{d:ZM}
def T8 {S:Nat->Prop}{lo nx:Nat}{H:ZJ}{e1 e0:TypeId}{v:ZK}{ids:List Nat}{p:List (List Int)}(h:Z2 lo H e1 e0 v ids (p.map ints))(hS:∀i,lo<=i->S i):Fz S H nx v (aE p):=by
 have:=h.fz (S:=S) (nx:=nx) hS fun r hr c hc=>by
  obtain⟨q,_,rfl⟩:=VI.1 hr;obtain⟨a,_,rfl⟩:=VI.1 hc;exact .lit _
 rw[VJ,Xg]at this;have e:(p.map ((fun r:List ZK=>ZK.Q r.length r) ∘ ints))=p.map ah:=V1 fun r _=>by
  show ZK.Q (ints r).length (ints r)=ah r;rw[aR];rfl
 rw[e]at this;exact this
def FT (d:ZM)(lvh:ZK)(tot:Int):List ZK:=[.lit (.int .i64 d.X),.Q d.C.length (aG d.C),.lit (.int .u64 (d.Y:Int)),.Q d.nn.length (bj d.nn),lvh,ah (dL d),ah (cP d),.lit (.int .i64 tot)]
def T9 {s:Nat}(hok:ZR d)(ht:-1000000000000000000<=tot/\tot<=1000000000000000000)(hw:1<=d.X ^ d.C.length/\d.X ^ d.C.length<=1000000000000000000)(H:ZJ)(hs:H.get s=some (.J 0 178 (FT d lvh tot)))(hl:s<H.A)(K:ZP->ZJ->Prop)(hK:K (.ret (eM tot (d.X ^ d.C.length))) H):
  ag prog G0 73 [.M s 0 0] H K:=by
 refine ag.Z ⟨_,func73,rfl,rfl⟩ fun hcl=>?_;have n8:=hok.n.n1;have hg:=hok.nA.g1;refine ag.sw (n:=20) (rs:=[.cell 2 50]) func73 ?_;refine W.sq ?_;simp only[go_sem];obtain⟨H1,hH1⟩:∃H1,H1=ext H [.J 0 50 [.lit (.int .i64 0),.lit (.int .i64 0)]]:=⟨_,rfl⟩
 have g1:=de hH1
 have o1:ZN H H1:=hH1▸.ext _ _
 rw[<- hH1];clear hH1;have l1:=ae g1;have ls:=ae ((o1.nb s hl).trans hs);unfold FT at ls;refine W.seq ?_;refine W.dr 16 [0,1,3,7,0,16,48,112,240,0,512,1536,3584,7680,15872,32752] mixed ?_;simp only[go_sem,ls];refine⟨_,[],bL.pure fun H2=>Az d.X d.C.length hg O H2 _ ⟨rfl,rfl⟩,?_⟩;refine au.Z (AA tot (d.X ^ d.C.length) O O H1 _ ⟨trivial,?_⟩);unfold eM at hK ⊢;simp only[go_sem,l1];obtain⟨H2,hH2⟩:∃H2,H2=H1.upd H.A (.J 0 50 [.lit (.int .i64 (tot.tdiv (Int.gcd tot (d.X ^ d.C.length):Int))),.lit (.int .i64 ((d.X ^ d.C.length).tdiv (Int.gcd tot (d.X ^ d.C.length):Int)))]):=⟨_,rfl⟩
 have o2:ZN H H2:=by rw[hH2];exact ZN.upd (id:=H.A) o1 ZI _
 have l2:H2.V H.A 0=_:=ae (show H2.get H.A=_ by rw[hH2,af,VA rfl]);rw[<- hH2];refine W.vs ?_;simp only[go_sem,l2];refine aq.bC aJ hcl o2 (.agg rfl fun i hi _=>?_) hK
 match i,hi with
 |0,_=>exact .lit _
 |1,_=>exact .lit _
def Ua {r:List Nat}{lo s:Nat}{I:Nat->Nat->Nat}{T:ZV}(hok:ZR d)(ht:-1000000000000000000<=tot/\tot<=1000000000000000000)(hw:1<=d.X ^ d.C.length/\d.X ^ d.C.length<=1000000000000000000)(H:ZJ)(hS:ZW d r lo s lvh I T tot H)(K:ZP->ZJ->Prop)(hK:∀H',ZN H H'->K (.ret (eM tot (d.X ^ d.C.length))) H'):
  ag prog G0 73 [.M s 0 0] H K :=
 T9 hok ht hw H hS.top hS.nE.2 K (hK H (.refl _))
def Ub (d:ZM)(hf:Z1 d)(h6:d.C.length<=6)(H:ZJ)(K:ZP->ZJ->Prop)
  (hE:fu d=4->K (.ret (.nf [.lit (.slice none 0 0),.agg [aa 0,aa 0],aa 210])) H)
  (hE2:fu d≠4->fu d≠0->K (.ret (.nf [.lit (.slice none 0 0),.agg [aa 0,aa 0],aa (fu d)])) H)
  (hK:∀r,mM d=some r->ZR d->Z6 d r->K (.ret (.nf [aE (jl d r),eM (oI d r) (d.X ^ d.C.length),aa 0])) H):
  ag prog G0 29 [cM d] H K:=by
 refine ag.Z ⟨_,func29,rfl,rfl⟩ fun hcl=>?_;refine ag.sw (n:=20) (rs:=[.tmp 2,.cell 3 50,.tmp 4]) func29 ?_;refine W.sq ?_;simp only[go_sem,fW,bq];obtain⟨H1,hH1⟩:∃H1,H1=ext H [.J 0 38 [.lit (.int .i64 d.X),.Q d.C.length (aG d.C),.lit (.int .u64 (d.Y:Int)),.Q d.nn.length (bj d.nn)],.J 0 50 [.lit (.int .i64 0),.lit (.int .i64 0)]]:=⟨_,rfl⟩
 have g1:=de hH1
 have g2:=gE hH1 1 rfl
 have n1:H1.A=H.A+2:=hH1▸rfl
 have o1:ZN H H1:=hH1▸.ext _ _
 rw[<- hH1];clear hH1;have l1:=ae g1;refine W.sq ?_;simp only[go_sem,l1];have zero:∀(H2:ZJ) (e:Int),ZN H1 H2->K (.ret (.nf [.lit (.slice none 0 0),.agg [aa 0,aa 0],aa e])) H->aq prog G0 H K (.nf [.lit (.slice none 0 0),.agg [aa 0,aa 0],aa e]) (H2.upd (H.A+1) (.J 0 50 [aa 0,aa 0])):=fun H2 e ho hk=>by
  refine aq.bC aJ hcl (ZN.upd (id:=H.A+1) (o1.trans ho) (XV _) _) (.nf rfl fun i hi _=>?_) hk
  match i,hi with
  |0,_=>exact .lit _
  |1,_ =>
   refine .agg rfl fun i hi _=>?_
   match i,hi with
   |0,_=>exact .lit _
   |1,_=>exact .lit _
  |2,_=>exact .lit _
 refine au.Z (To d hf h6 H1 _ (fun H2 ho he=>⟨trivial,?_⟩) (fun H2 ho he he2=>⟨trivial,?_⟩) fun r s lvh I H2 hr hok ho hS hnil=>⟨trivial,?_⟩)
 ·have g2':=ae ((ho.nb _ O).trans g2);simp only[go_sem];refine W.sq ?_;simp only[go_sem,g2'];exact zero H2 210 ho (hE he)
 ·have g2':=ae ((ho.nb _ O).trans g2);simp only[go_sem];refine W.sq ?_;simp only[go_sem,he2,g2'];exact zero H2 (fu d) ho (hE2 he he2)
 simp only[go_sem];refine W.sq ?_;simp only[go_sem];obtain⟨hPo,hT,_⟩:=EU hok (Ao hr);have hro:=Ao hr;have hrl:r.length<=12:=by
  have h1:=FB _ _ _ _ hr;have h2:(aB d).length<=d.C.length:=ia;simp at h1;omega
 have hb:=wZ h6 (jl d r) hok hPo _ ZI;have hsum:jh (cR d (fixC (jl d r))) d.nn (bO d.C)=oI d r:=by rw[<- hT];exact pL hok hPo
 rw[hsum]at hb;have htot:ka (aw d r) 0=oI d r:=VA (.inr rfl);rw[htot]at hS;have hK:=hK r hr hok hro;have hsl:=hS.nE;refine W.vs ?_;simp only[go_sem];refine au.Z (choose_spec hok hro hrl O H2 hS hnil _ fun v ids T' H3 n3 o3 hS3 hM=>⟨trivial,?_⟩);simp only[go_sem];refine au.Z (Ua hok hb (by have:=Ge hok;omega) H3 hS3 _ fun H4 o4=>⟨trivial,?_⟩);have k4:∀i,i<H1.A->H4.get i=H1.get i:=fun i h=>by
  rw[o4.nb i (by have:=ho.A;omega),o3 i (by have:=ho.A;omega) O fun k j h1 h2=>by have:=(hS.ng.nk k j h1 h2).1;omega];exact ho.nb i h
 have l4:=ae ((k4 _ O).trans g2);unfold eM at hK ⊢;simp only[go_sem,l4];have o5:ZN H H4:=⟨by have:=o4.A;have:=ho.A;omega,fun i h=>(k4 i O).trans (o1.nb i h)⟩
 have hM4:=hM.nc (H':=H4) o4.A fun i _ h=>o4.nb i h;have hM5:∀b,Z2 H1.A (H4.upd (H.A+1) b) 42 3 v ids ((jl d r).map ints):=fun b=>hM4.nc (by rw[aA];exact Nat.le_refl _) fun i h _=>by rw[af,Vx O]
 refine aq.bC (v':=.nf [aE (jl d r),_,aa 0]) aJ hcl (ZN.upd (id:=H.A+1) o5 (XV _) _) (.nf rfl fun i hi _=>?_) hK
 match i,hi with
 |0,_=>exact T8 (hM5 _) fun i h=>O
 |1,_ =>
  refine .agg rfl fun i hi _=>?_
  match i,hi with
  |0,_=>exact .lit _
  |1,_=>exact .lit _
 |2,_=>exact .lit _
end Go.Proofs
set_option linter.unusedVariables false
namespace Go.Proofs
open Go.Hx Go.RowKit Go.Lib
def Vq (w:World):Calls Tryz.prog 70 #[.slice none 0 0,.int .i64 0] w fun e w'=>e=.returned (.slice none 0 0)/\w'=w:=by
 have h1:¬((0:Int)<0):=O
 have h2:wrap64 ((0:Int)-(0:Int))=0:=by unfold wrap64;omega
 have h4:¬(0:Int) > 0:=O
 go_enter Tryz.func70,Tryz.ntmps70
 go_wp2
 all_goals (go_ret;exact⟨rfl,rfl⟩)
def Vr (H:ZJ)(K:ZP->ZJ->Prop)(hK:K (.ret (.lit (.slice none 0 0))) H):ag Tryz.prog G0 70 [.lit (.slice none 0 0),.lit (.int .i64 0)] H K:=by
 refine⟨⟨_,Tryz.func70,rfl,rfl⟩,fun Γ w cargs R hr=>?_⟩;have hc:cargs=#[.slice none 0 0,.int .i64 0]:=by
  obtain⟨hs,hr⟩:=hr;have h1:=wH (hr 0 ZF (by rw[hs];simp));have h2:=wH (hr 1 ZF (by rw[hs];simp));apply Array.ext
  ·simpa using hs
  ·intro i hi1 hi2;simp only[Yq,List.length_cons,List.length_nil]at hi2
   match i,hi2 with
   |0,_=>exact h1
   |1,_=>exact h2
 rw[hc];refine(callsIn_wide.2 (Vq w)).mono ?_;rintro e w' ⟨rfl,rfl⟩;exact⟨.ret (.lit (.slice none 0 0)),H,Γ,.lit _,hK,R,ZX.refl _ _ _,ZI⟩
def concat_nil (H:ZJ)(K:ZP->ZJ->Prop)(hK:K (.ret (ah [])) H):ag Tryz.prog G0 28 [aE []] H K:=by
 refine ag.Z ⟨_,Tryz.func28,rfl,rfl⟩ fun hcl=>?_;refine ag.st (n:=36) (rs:=[.tmp 2]) Tryz.func28 ?_;simp only[go_sem,aE,List.length_nil,List.map_nil];refine W.aP 8386600 (by rfl) (fun ρ H'=>H=H'/\ρ 11=aa 0/\ρ 3=aa 0) (fun ρ H=>0) ?_ ?_
 ·simp only[go_sem]
 rintro ρ H' ⟨rfl,h11,h3⟩;refine W.vs ?_;simp only[go_sem,h11,h3];refine au.Z (Vr _ _ ⟨trivial,?_⟩);simp only[go_sem];refine W.aP 34225520960 (by rfl) (fun ρ H'=>H=H'/\ρ 27=aa 0/\ρ 6=.lit (.slice none 0 0)) (fun ρ H=>0) ?_ ?_
 ·simp only[go_sem]
 rintro ρ2 H2 ⟨rfl,h27,h6⟩;refine W.vs ?_;simp only[go_sem,h27,h6];exact aq.bC aJ hcl (.refl _) .nil hK
def Vs {x y:List Int}(h:mb y x)(hx:(x.length:Int)<2 ^ 40)(H:ZJ)(K:ZP->ZJ->Prop)(hK:K (.ret (.lit (.int .i64 1))) H):ag Tryz.prog G0 27 [ah x,ah y] H K:=by
 obtain⟨i,a,b,h2,h1,h3,h4⟩:=CF h;have hi:i<x.length:=(VX.1 h1).1;have hi2:i<y.length:=(VX.1 h2).1;have hxn:¬x=[]:=by rintro rfl;simp at hi
 have hyn:¬y=[]:=by rintro rfl;simp at hi2
 refine ag.st (n:=36) (rs:=[.tmp 4]) Tryz.func27 ?_;simp only[go_sem];refine W.aP 2147482096 (by rfl) (fun ρ H'=>H'=H/\∃k:Nat,ρ 11=aa k/\k<=i) (fun ρ H=>x.length-(iv (ρ 11)).toNat) ?_ ?_
 ·simp only[go_sem];exact⟨0,rfl,O⟩
 rintro ρ H' ⟨rfl,k,h11,hk⟩;refine W.vs ?_;have b1:(k:Int)<x.length:=O
 have b2:¬(y.length:Int)<=k:=O
 have b3:(k:Int)<y.length:=O
 have w1:=Vv ((k:Int)+1) O;by_cases hki:k=i
 ·subst hki;simp only[go_sem,h11,b1,b2,b3,h1,h2,hxn,hyn];refine au.Z (zh b a _ _ ⟨trivial,?_⟩);rw[Vx O,VA h3];simp only[go_sem];exact aq.mk ZI hK
 ·have e:=h4 k O;obtain⟨c,hc⟩:∃c,x[k]?=some c:=⟨_,Vz O⟩
  rw[hc]at e;simp only[go_sem,h11,b1,b2,b3,hc,e,hxn,hyn];refine au.Z (zh c c _ _ ⟨trivial,?_⟩);have hcc:¬c<c:=O
  rw[Vx hcc,Vx hcc];simp only[go_sem,w1,h11];exact⟨⟨k+1,ZF,O⟩,O⟩
def Vt (x:List Int)(hx:(x.length:Int)<2 ^ 40)(H:ZJ)(K:ZP->ZJ->Prop)(hK:K (.ret (.lit (.int .i64 0))) H):ag Tryz.prog G0 27 [ah x,ah x] H K:=by
 refine ag.st (n:=36) (rs:=[.tmp 4]) Tryz.func27 ?_;simp only[go_sem];refine W.aP 2147482096 (by rfl) (fun ρ H'=>H'=H/\∃k:Nat,ρ 11=aa k/\k<=x.length) (fun ρ H=>x.length-(iv (ρ 11)).toNat) ?_ ?_
 ·simp only[go_sem];exact⟨0,rfl,O⟩
 rintro ρ H' ⟨rfl,k,h11,hk⟩;refine W.vs ?_;have w1:=Vv ((k:Int)+1) O;by_cases b1:(k:Int)<x.length
 ·have b2:¬(x.length:Int)<=k:=O
  obtain⟨c,hc⟩:=ao (l:=x) (i:=k) O;have hxn:=aO hc;simp only[go_sem,h11,b1,b2,hc,hxn];refine au.Z (zh c c _ _ ⟨trivial,?_⟩);have hcc:¬c<c:=O
  rw[Vx hcc,Vx hcc];simp only[go_sem,w1,h11];exact⟨⟨k+1,ZF,O⟩,O⟩
 ·have b4:¬(x.length:Int)<x.length:=O
  simp only[go_sem,h11,b1,b4];exact aq.mk ZI hK
end Go.Proofs
namespace Go.Proofs
open Go.Hx Tryz
variable {f:FuncId}{p:List (List Int)}{H:ZJ}{d:ZM}{K:ZP->ZJ->Prop}
def uw (d:ZM)(h:ag prog G0 f [cM d] H K):ag prog G0 f [pP d] H K :=
 ag.A4 (args':=[cM d]) aJ rfl (fun i hi _=>match i,hi with|0,_=>zZ d) h
def Qv (d:ZM)(a:Int)(h:ag prog G0 f [cM d,aa a] H K):ag prog G0 f [pP d,aa a] H K :=
 ag.A4 (args':=[cM d,aa a]) aJ rfl (fun i hi _=>match i,hi with|0,_=>zZ d|1,_=>.lit _) h
def wT (d:ZM)(p:List (List Int))(h:ag prog G0 f [cM d,aE p] H K):ag prog G0 f [pP d,aE p] H K :=
 ag.A4 (args':=[cM d,aE p]) aJ rfl (fun i hi _=>match i,hi with|0,_=>zZ d|1,_=>sy p) h
def Qw (h:ZR d):1<=bX d:=dY (pA fun p hp=>(kU h p hp).2.2.1)
def DL (h:ZR d)(hp:bX d<=4096):eQ d=0/\jy d=bX d:=by
 have e:eQ d=0:=by unfold eQ;rw[ep h,VA hp];rfl
 exact⟨e,by unfold jy;rw[VA e]⟩
def Qx (h:ZR d)(hp:¬bX d<=4096):eQ d=6/\jy d=0:=by
 have e:eQ d=6:=by unfold eQ;rw[ep h,Vx hp];rfl
 exact⟨e,by unfold jy;rw[e];rfl⟩
def Qy (h:ZR d)(hp:bX d<=4096){i:Int}(hi:0<=i/\i<bX d):ma d i=0/\qC d i=bA (aL d) i:=by
 have e:ma d i=0:=by unfold ma;rw[VA (DL h hp).1,VA hi]
 exact⟨e,by unfold qC;rw[VA e]⟩
def DM (hok:ZR d)(hp:ZU d p):p.length<=8/\(∀r∈p,1<=r.length/\r.length<=1024)/\(p.flatten.length:Int)<2 ^ 40:=by
 have hR:=pO.1 hp;have h8:p.length<=8:=by rw[hp.len];have:=ia (D:=d.Y) (n:=d.C.length);have:=hok.n.n1.2;unfold aB;omega
 have hr:∀r∈p,1<=r.length/\r.length<=1024:=fun r h=>by
  obtain⟨k,hk⟩:=VG.1 h;obtain⟨a,ha⟩:=ao (l:=aL d) (i:=k) (by have:=aI hk;rw[hR.1]at this;exact this);have h1:=(hR.2 k a r ha hk).1;have h2:=kU hok a (an ha);omega
 refine⟨h8,hr,?_⟩;have key:∀l:List (List Int),(∀r∈l,r.length<=1024)->l.flatten.length<=1024*l.length:=by
  intro l
  induction l with
  |nil=>intro _;simp
  |cons a l ih =>
   intro h;have h1:=ih fun r hr=>h r (by simp[hr]);have h2:=h a ZF;rw[List.flatten_cons,List.length_append,List.length_cons];omega
 have:=key p fun r h=>(hr r h).2;omega
def DN (hok:ZR d)(hp:ZU d p)(H:ZJ)(K:ZP->ZJ->Prop)(hK:K (.ret (ah p.flatten)) H):ag prog G0 28 [aE p] H K:=by
 obtain⟨h1,h2,_⟩:=DM hok hp;cases p with
 |nil=>exact concat_nil H K hK
 |cons r l =>
  refine Nh (r :: l) h1 (fun q h=>(h2 q h).2) ?_ H K hK;have:=(h2 r ZF).1;unfold lens;simp only[List.map_cons,XF];omega
def Qz (w:Bool):rZ w (some (.lit undef))=some false:=rfl
def QA (h:ZR d):fu d=0\/fu d=4:=by
 unfold fu;rw[ep h,VA rfl];split<;>simp
def QB (d:D20)(hd:d.Ok)(bs:List Int)(hbl:(bs.length:Int)<2 ^ 63)(hb8:∀x∈bs,U8 x)(i:Int)(hi:0<=i/\i<=65535)(H:ZJ)(K:ZP->ZJ->Prop)(hK:∀H',H.A<=H'.A->K (.ret (.lit (.bool true))) H'):
  ag prog G0 5 [.agg d.cells,.Q bs.length (cu bs),.lit (.int .u16 i)] H K:=by
 refine ag.sw (n:=182) (rs:=[.tmp 6]) func5 ?_;refine W.sq ?_;simp only[go_sem,D20.cells];obtain⟨H1,hH1⟩:∃H1,H1=ext H [.J 0 28 [.lit (.int .u8 d.g),.Q d.ps.length (gS d.ps),.Q d.ord.length (cu d.ord),.lit (.int .u8 d.Y),.lit (.bool d.rem),.Q d.us.length (oq d.us)]]:=⟨_,rfl⟩
 have g2:=de hH1
 have n1:H1.A=H.A+1:=hH1▸rfl
 rw[<- hH1];clear hH1;have l2:=ae g2;refine W.sq ?_;simp only[go_sem];refine au.Z (Vl _ _ ⟨trivial,?_⟩);simp only[go_sem];refine W.sq ?_;simp only[go_sem,l2];refine au.Z (QW d hd _ _ fun x hx=>⟨trivial,?_⟩);have hok:=hx.ok;have hf:=uz hok;have n8:=hok.n.n1;have h6:x.C.length<=6:=by have:=hx.n5;omega
 simp only[go_sem,Rw,Ag];obtain⟨H2,hH2⟩:∃H2,H2=ext H1 [.J 0 38 [.lit (.int .i64 x.X),.Q x.C.length (bD x.C),.lit (.int .u64 (x.Y:Int)),.Q x.nn.length (bj x.nn)]]:=⟨_,rfl⟩
 have g5:=de hH2
 have n2:H2.A=H1.A+1:=hH2▸rfl
 rw[<- hH2];clear hH2;have l5:=ae g5;refine W.en (fun E=>E 1=.Q bs.length (cu bs) /\ E 2=.lit (.int .u16 i) /\ E 7=.M H1.A 0 0) (by simp only[go_sem]) fun E ⟨e1,e2,e7⟩=>?_
 by_cases hbig:bX x<=4096;rotate_left
 ·obtain⟨c1,c2⟩:=Qx hok hbig;refine W.sq ?_;simp only[go_sem,e7,l5];refine au.Z (uw x (zy x hf h6 _ _ (fun _=>⟨trivial,?_⟩) fun b _ hp=>absurd hp hbig));rw[c1];simp only[go_sem];obtain⟨H3,hH3⟩:∃H3,H3=ext H2 [.J 0 50 [.lit (.int .i64 0),.lit (.int .i64 0)]]:=⟨_,rfl⟩
  have g5:H3.get H1.A=_:=(show H3.get H1.A=H2.get H1.A by rw[hH3,aX O]).trans g5;have n3:H3.A=H2.A+1:=hH3▸rfl
  rw[<- hH3];clear hH3;have l5:=ae g5;refine W.sq ?_;simp only[go_sem,e7,l5];refine au.Z (uw x (wD x hf _ _ ⟨trivial,?_⟩));rw[c1];simp only[go_sem];refine W.sq ?_;simp only[go_sem];exact aq.mk (show H.A<=H3.A by omega) (hK _ O)
 obtain⟨c1,c2⟩:=DL hok hbig;have hpos:=Qw hok;refine W.sq ?_;simp only[go_sem,e7,l5];refine au.Z (uw x (zy x hf h6 _ _ (fun h=>absurd c1 h) fun b _ _ hb=>⟨trivial,?_⟩));have hT:=Qu hok hpos hb;clear hb;have hpo:=wI hok (b:Int);obtain⟨P,hP⟩:∃P,P=bA (aL x) (b:Int):=⟨_,rfl⟩
 have hmx:∀q,ZU x q->bE x q<=bE x P:=hP ▸ hT.max;rw[<- hP]at hpo ⊢;have hpf:=qK hok hpo;have hpe:=ow hok hpo;have hlp:tt x P=true:=by unfold tt;rw[VA hpe];exact V8 (Qt hok hpo hmx)
 have gp:=Ge hok;obtain⟨D,hD⟩:∃D,D=x.X ^ x.C.length:=⟨_,rfl⟩
 rw[<- hD]at gp ⊢;obtain⟨va,vb,vg,hv,hvF⟩:=AQ (S:=bE x P) (D:=D) gp.1;rw[hv];simp only[go_sem];obtain⟨H3,hH3⟩:∃H3,H3=ext H2 [.J 0 50 [.lit (.int .i64 va),.lit (.int .i64 vb)]]:=⟨_,rfl⟩
 have g9:=de hH3
 have o3:ZN H2 H3:=hH3▸.ext _ _
 have g5:=(o3.nb _ O).trans g5;have n3:H3.A=H2.A+1:=hH3▸rfl
 rw[<- hH3];clear hH3;have l5:=ae g5;refine W.sq ?_;simp only[go_sem,e7,l5];refine au.Z (uw x (wD x hf _ _ ⟨trivial,?_⟩));rw[c1,c2];simp only[go_sem];refine W.sq ?_;simp only[go_sem];refine W.sq ?_;simp only[go_sem,e7,l5];refine au.Z (wT x P (xW x hf h6 P hpf _ _ ⟨trivial,?_⟩));rw[hpe,hlp];simp only[go_sem];refine W.sq ?_;simp only[go_sem,e7,l5];refine au.Z (wT x P (xq x hf P hpf (wZ h6 P) _ _ ⟨trivial,?_⟩));rw[hpe,Ab hok hpo,<- hD,hv];simp only[go_sem];obtain⟨H4,hH4⟩:∃H4,H4=ext H3 [.J 0 50 [.lit (.int .i64 va),.lit (.int .i64 vb)]]:=⟨_,rfl⟩
 have g15:=de hH4
 have o4:ZN H3 H4:=hH4▸.ext _ _
 have g5:=(o4.nb _ O).trans g5;have g9:=(o4.nb _ O).trans g9;have n4:H4.A=H3.A+1:=hH4▸rfl
 rw[<- hH4];clear hH4;have l5:=ae g5;refine W.en (fun E1=>E1 1=.Q bs.length (cu bs) /\ E1 2=.lit (.int .u16 i) /\ E1 7=.M H1.A 0 0 /\ E1 8=aE P /\ E1 9=.M H2.A 0 0 /\ E1 11=aa (bX x) /\ E1 13=.lit (.bool true) /\ E1 14=aa 0 /\ E1 15=.M H3.A 0 0 /\ E1 16=aa 0) (by simp only[go_sem,e1,e2,e7]) fun E1 ⟨a1,a2,a7,a8,a9,a11,a13,a14,a15,a16⟩=>?_
 have hco:=Q6 hok bs;obtain⟨q,n,hI,hlq⟩:=Qs hok h6 hco;have hqo:=hI.ok;obtain⟨wa,wb,wg,hw,hwF⟩:=AQ (S:=bE x q) (D:=D) gp.1;refine W.seq ?_;refine W.dr 14 [0,0,0,6,15,31,63,63,63,63,0,1151,3327,7679] mixed ?_;simp only[go_sem,a1,a7,l5];refine⟨aE (wY x bs),[],bL.pure fun Hz=>Q8 x hf hok bs hbl hb8 Hz _ ⟨rfl,rfl⟩,.nf [aE q,.agg [.lit (.int .i64 wa),.lit (.int .i64 wb)],aa n,aa 0],[],bL.pure fun Hz=>wT x _ (Ut x hok h6 _ hco Hz _ fun q' n' hI' hl'=>by
  obtain⟨rfl,rfl⟩:=hI.uniq hlq hI' hl';rw[<- hD,hw];exact⟨rfl,rfl⟩),?_⟩
 simp only[go_sem,a7];obtain⟨H5,hH5⟩:∃H5,H5=ext H4 [.J 0 50 [.lit (.int .i64 wa),.lit (.int .i64 wb)]]:=⟨_,rfl⟩
 have g18:=de hH5
 have o5:ZN H4 H5:=hH5▸.ext _ _
 have g5:=(o5.nb _ O).trans g5;have g9:=(o5.nb _ O).trans g9;have g15:=(o5.nb _ O).trans g15;have n5:H5.A=H4.A+1:=hH5▸rfl
 rw[<- hH5];clear hH5;refine⟨⟨fun y h=>O,fun y h=>O⟩,?_⟩;have l5:=ae g5;have wi:=Vv i O;have hmax:(if bX x > 1 then bX x else 1)=bX x:=by split<;>omega
 have hnz:¬bX x=0:=O
 have htm:i.tmod (bX x)=i % bX x:=Wg hi.1;obtain⟨j,hj⟩:∃j,j=i % bX x:=⟨_,rfl⟩
 have j0:0<=j/\j<bX x:=by rw[hj];exact⟨WS _ hnz,WB _ O⟩
 rw[<- hj]at htm;obtain⟨p1,p2⟩:=Qy hok hbig j0;have hRo:=wI hok j;obtain⟨R,hR⟩:∃R,R=bA (aL x) j:=⟨_,rfl⟩
 rw[<- hR]at hRo p2;have hRf:=qK hok hRo;have hRe:=ow hok hRo;obtain⟨ua,ub,ug,hu,huF⟩:=AQ (S:=bE x R) (D:=D) gp.1;refine W.en (fun E2=>E2 2=.lit (.int .u16 i) /\ E2 7=.M H1.A 0 0 /\ E2 8=aE P /\ E2 9=.M H2.A 0 0 /\ E2 11=aa (bX x) /\ E2 13=.lit (.bool true) /\ E2 14=aa 0 /\ E2 15=.M H3.A 0 0 /\ E2 16=aa 0 /\ E2 18=.M H4.A 0 0 /\ E2 20=aa 0) (by simp only[go_sem,a2,a7,a8,a9,a11,a13,a14,a15,a16]) fun E2 ⟨b2,b7,b8,b9,b11,b13,b14,b15,b16,b18,b20⟩=>?_
 refine W.seq ?_;refine W.dr 11 [0,0,2,0,8,30,63,127,255,255,511] mixed ?_;simp only[go_sem,b2,b7,b11,l5,wi,hmax,hnz,htm];refine⟨.nf [aE R,aa 0],[],bL.pure fun Hz=>Qv x j (Nb x hf j O Hz _ ⟨by rw[p1,p2],rfl⟩),?_⟩;simp only[go_sem];refine W.sq ?_;simp only[go_sem,b7,l5];refine au.Z (wT x R (xq x hf R hRf (wZ h6 R) _ _ ⟨trivial,?_⟩));rw[hRe,Ab hok hRo,<- hD,hu];simp only[go_sem];obtain⟨H6,hH6⟩:∃H6,H6=ext H5 [.J 0 50 [.lit (.int .i64 ua),.lit (.int .i64 ub)]]:=⟨_,rfl⟩
 have g23:=de hH6
 have o6:ZN H5 H6:=hH6▸.ext _ _
 have g5:=(o6.nb _ O).trans g5;have g9:=(o6.nb _ O).trans g9;have g15:=(o6.nb _ O).trans g15;have g18:=(o6.nb _ O).trans g18;have n6:H6.A=H5.A+1:=hH6▸rfl
 rw[<- hH6];clear hH6;have l5:=ae g5;have l9:=ae g9;have l15:=ae g15;have l18:=ae g18;have l23:=ae g23;refine W.en (fun E3=>E3 7=.M H1.A 0 0 /\ E3 8=aE P /\ E3 9=.M H2.A 0 0 /\ E3 13=.lit (.bool true) /\ E3 14=aa 0 /\ E3 15=.M H3.A 0 0 /\ E3 16=aa 0 /\ E3 18=.M H4.A 0 0 /\ E3 20=aa 0 /\ E3 21=aE R /\ E3 22=aa 0 /\ E3 23=.M H5.A 0 0 /\ E3 24=aa 0) (by simp only[go_sem,b7,b8,b9,b13,b14,b15,b16,b18,b20]) fun E3 ⟨c7,c8,c9,c13,c14,c15,c16,c18,c20,c21,c22,c23,c24⟩=>?_
 have nq:∀o1 o2,bI prog .neq 50 o1 o2 (.agg [.lit (.int .i64 va),.lit (.int .i64 vb)]) (.agg [.lit (.int .i64 va),.lit (.int .i64 vb)])=some (.lit (.bool false)):=fun o1 o2=>by rw[M5];simp
 have sP:=vd hok h6 (fixC P);have sQ:=vd hok h6 (fixC q);have sR:=vd hok h6 (fixC R);rw[<- pL hok hpo]at sP;rw[<- pL hok hqo]at sQ;rw[<- pL hok hRo]at sR;have hcv:=hvF.check O O;have hcw:=hwF.check O O;have hcu:=huF.check O O;have hvb:=hvF.bound;have hwb:=hwF.bound;have hub:=huF.bound;have hv1:=hvF.b1;have hw1:=hwF.b1;have hu1:=huF.b1;have m1:=hwF.cmp gp.1 hvF;have m2:=huF.cmp gp.1 hvF;have le1:=hmx q hqo;have le2:=hmx R hRo;have k1:¬R01.di (bE x q) (bE x P) > 0:=by unfold R01.di;(repeat' split)<;>omega
 have k2:¬R01.di (bE x R) (bE x P) > 0:=by unfold R01.di;(repeat' split)<;>omega
 refine W.sq ?_;simp only[go_sem,c9,c13,c14,c15,c16,c20,c22,c24,l9,l15,nq];refine au.Z (R01.AO va vb (by unfold R01.fK;omega) (by unfold R01.fK;omega) _ _ ⟨trivial,?_⟩);rw[V8 hcv];simp only[go_sem,c18,l18];refine au.Z (R01.AO wa wb (by unfold R01.fK;omega) (by unfold R01.fK;omega) _ _ ⟨trivial,?_⟩);rw[V8 hcw];simp only[go_sem,c23,l23];refine au.Z (R01.AO ua ub (by unfold R01.fK;omega) (by unfold R01.fK;omega) _ _ ⟨trivial,?_⟩);rw[V8 hcu];simp only[go_sem,c9,c18,l9,l18];refine au.Z (R01.Ga wa wb va vb (by unfold R01.fK;omega) (by unfold R01.fK;omega) (by unfold R01.fK;omega) (by unfold R01.fK;omega) hw1 hv1 _ _ ⟨trivial,?_⟩);rw[m1];simp only[go_sem,c9,c23,l9,l23,k1];refine au.Z (R01.Ga ua ub va vb (by unfold R01.fK;omega) (by unfold R01.fK;omega) (by unfold R01.fK;omega) (by unfold R01.fK;omega) hu1 hv1 _ _ ⟨trivial,?_⟩);rw[m2];simp only[go_sem,k2];have hbq:=UA hu huF hv hvF;have eq1:∀o1 o2,bI prog .eql 50 o1 o2 (.agg [.lit (.int .i64 ua),.lit (.int .i64 ub)]) (.agg [.lit (.int .i64 va),.lit (.int .i64 vb)])=some (.lit (.bool (decide (bE x R=bE x P)))):=fun o1 o2=>by rw[wC,hbq]
 refine W.lZ (fun s'=>s'.H=H6/\s'.ρ 7=.M H1.A 0 0/\s'.ρ 8=aE P/\s'.ρ 9=.M H2.A 0 0) ?_ ?_
 ·by_cases hEq:bE x R=bE x P
  ·rw[V8 hEq]at eq1;refine W.sq ?_;simp only[go_sem,c9,c21,c23,l9,l23,eq1];refine au.Z (DN hok hRo _ _ ⟨trivial,?_⟩);simp only[go_sem,c8];refine au.Z (DN hok hpo _ _ ⟨trivial,?_⟩);simp only[go_sem];obtain⟨_,_,hR40⟩:=DM hok hRo;have hch:R=P\/mb P.flatten R.flatten:=by
    rcases Int.lt_trichotomy j b with g|g|g
    ·have:=hT.first j j0.1 g;rw[<- hR,<- hP]at this;omega
    ·exact .inl (by rw[hR,hP,g])
    ·refine .inr ?_;rw[hR,hP,uj,uj];exact CK (pA fun p hp=>(kU hok p hp).2.2.1) O g j0.2
   rcases hch with e|hlt
   ·rw[e];rw[e]at hR40;refine au.Z (Vt P.flatten hR40 _ _ ⟨trivial,?_⟩);simp only[go_sem];refine W.cond (t:=false) (by simp only[go_sem]) ?_;refine W.vs ?_;simp only[go_sem,c7,c8,c9]
   ·refine au.Z (Vs hlt hR40 _ _ ⟨trivial,?_⟩);simp only[go_sem];refine W.cond (t:=false) (by simp only[go_sem]) ?_;refine W.vs ?_;simp only[go_sem,c7,c8,c9]
  ·rw[W2 hEq]at eq1;refine W.sq ?_;simp only[go_sem,c9,c23,l9,l23,eq1];refine W.cond (t:=false) (by simp only[go_sem]) ?_;refine W.vs ?_;simp only[go_sem,c7,c8,c9]
 rintro⟨ρ,Hq⟩ ⟨hHq,d7,d8,d9⟩;simp only at hHq d7 d8 d9;rw[hHq];clear hHq;refine W.sq ?_;simp only[go_sem,d7,l5];refine au.Z (uw x (Ub x hf h6 _ _ (fun he=>⟨trivial,?_⟩) (fun h1 h2=>absurd (QA hok) fun h=>h.elim h2 h1) fun r hr _ hro=>⟨trivial,?_⟩))
 ·simp only[go_sem];obtain⟨H7,hH7⟩:∃H7,H7=ext H6 [.J 0 50 [.lit (.int .i64 0),.lit (.int .i64 0)]]:=⟨_,rfl⟩
  have n7:H7.A=H6.A+1:=hH7▸rfl
  rw[<- hH7];refine W.vs ?_;simp only[go_sem,Qz];exact aq.mk (show H.A<=H7.A by omega) (hK _ O)
 obtain⟨hbe,hbS⟩:=Vp hok hro (b:=(b:Int)) ⟨O,hT.lt⟩ (fun j a1 a2=>hT.max _ (wI hok j)) hT.first;rw[<- hP]at hbe hbS;rw[<- hbe,<- hbS,<- hD,hv];simp only[go_sem];obtain⟨H7,hH7⟩:∃H7,H7=ext H6 [.J 0 50 [.lit (.int .i64 va),.lit (.int .i64 vb)]]:=⟨_,rfl⟩
 have g26:=de hH7
 have o7:ZN H6 H7:=hH7▸.ext _ _
 have g9:=(o7.nb _ O).trans g9;have n7:H7.A=H6.A+1:=hH7▸rfl
 rw[<- hH7];clear hH7;have l9:=ae g9;have l26:=ae g26;have eq2:∀o1 o2,bI prog .eql 50 o1 o2 (.agg [.lit (.int .i64 va),.lit (.int .i64 vb)]) (.agg [.lit (.int .i64 va),.lit (.int .i64 vb)])=some (.lit (.bool true)):=fun o1 o2=>by rw[wC];simp
 refine W.vs ?_;simp only[go_sem,d8,d9,l9,l26,eq2];refine au.Z (AP P P (by have:=hpf.1;omega) (fun r h=>by have:=hpf.2 r h;omega) _ _ ⟨trivial,?_⟩);rw[V8 rfl];simp only[go_sem];exact aq.mk O (hK _ O)
end Go.Proofs
