/- Own work: contracts. -/
import Derived.Test.YtebhdkihcdmmjaaGreatConH
import Derived.Test.YtebhdkihcdmmjaaGreatConI
import Derived.Test.YtebhdkihcdmmjaaGreatConF
import Derived.Test.YtebhdkihcdmmjaaGreatConE
import Derived.Test.YtebhdkihcdmmjaaGreatConA
import Derived.Test.YtebhdkihcdmmjaaGreatConG
import Derived.Test.YtebhdkihcdmmjaaGreatConD
import Derived.Test.YtebhdkihcdmmjaaGreatConC
set_option linter.all false
set_option maxHeartbeats 8000000
set_option maxRecDepth 100000
namespace Go.Proofs
open Go.Hx Tryz
variable {r:List Nat}{u:Nat}{d:ZK}
def tq (hok:ZP d)(hro:ZX d r):dB d=0/\gL d=r:=by
 have h:=ti hok hro;have e:dB d=0:=by unfold dB;rw[mw hok,h];rfl
 exact⟨e,by unfold gL;rw[Vf e,h];rfl⟩
def vu (hf:Z6 d):∀x∈d.C,(x.F.length:Int)<2 ^ 62:=fun x hx=>by
 have:=(hf.C.2 x hx).1;omega
def zp {S:Nat->Prop}{H:ZH}{nx:Nat}(a b e:Int):Fz S H nx (.nc [.agg [.lit (.int .i64 a),.lit (.int .i64 b)],.lit (.int .i64 e)]) (.nc [.agg [.lit (.int .i64 a),.lit (.int .i64 b)],.lit (.int .i64 e)]) :=
 .nc rfl fun i hi _=>match i,hi with
  |0,_=>.agg rfl fun i hi _=>match i,hi with
   |0,_=>.lit _
   |1,_=>.lit _
  |1,_=>.lit _
def qX (hok:ZP d)(hro:ZX d r):-(400*d.nl ^ d.C.length)<=eM d r/\eM d r<=400*d.nl ^ d.C.length:=by
 obtain⟨h1,h2,_⟩:=wC hok hro;rw[<- h2];exact U5 hok (wI h1)
def tt (hok:ZP d)(h5:d.C.length<=5):1<=d.nl ^ d.C.length/\d.nl ^ d.C.length<=777600000:=by
 have hg:=hok.nC.g1;have h1:=Y8 (n:=d.nl) (m:=d.C.length) V;have key:∀k:Nat,d.nl ^ k<=60 ^ k:=fun k=>by
  induction k with
  |zero=>simp
  |succ k ih =>
   rw[Xr,Xr];exact W4 ih hg.2 V (by have:=Y8 (n:=60) (m:=k) ZE;omega)
 have h2:=key d.C.length;have h3:(60:Int) ^ d.C.length<=777600000:=by
  rcases(show d.C.length=0\/d.C.length=1\/d.C.length=2\/d.C.length=3\/d.C.length=4\/d.C.length=5 by omega) with e|e|e|e|e|e<;>rw[e]<;>decide
 omega
def Ds (hok:ZP d)(h5:d.C.length<=5)(hro:ZX d r){s S:Nat}(hu:u∈r)(hS:Sub S (bA d u))(H:ZH)(hs:H.get s=some (.J 0 157 (gZ d r u)))(hsl:s<H.A)(K:ZN->ZH->Prop)
  (hK:K (.ret (.nc [dM (eo d r u S) (d.nl ^ d.C.length),aa 0])) H):
  ae prog G0 51 [.O s 0 0,aM S,dM (eM d r) (d.nl ^ d.C.length)] H K:=by
 refine ae.X ⟨_,func51,rfl,rfl⟩ fun hcl=>?_;have hf:=pM hok;have hok':=qS hok hro hu hS;have hro':=qT hok hro hu hS;have hlen:=iC d r u S;obtain⟨he,hv⟩:=tq hok' hro';have hrl:=ti hok' hro';have gd:(bw d r u S).nl ^ (bw d r u S).C.length=d.nl ^ d.C.length:=by rw[hlen];rfl
 have g5:=tt hok h5;have t1:=qX hok hro;have t2:=qX hok' hro';rw[gd]at t2;obtain⟨D,hD⟩:∃D,D=d.nl ^ d.C.length:=⟨_,rfl⟩
 have hw:eo d r u S=eM (bw d r u S) r-eM d r:=rfl;rw[hw]at hK;rw[<- hD]at g5 gd t1 t2 hK ⊢;obtain⟨a,b,ga,ha,hA⟩:=mB (S:=eM (bw d r u S) r) (D:=D) g5.1;obtain⟨c,e,gc,hc,hC⟩:=mB (S:=eM d r) (D:=D) g5.1;obtain⟨x,y,gx,hx,hX⟩:=mB (S:=eM (bw d r u S) r-eM d r) (D:=D) g5.1;obtain⟨s1,s2⟩:=F01.PK hA hC ⟨g5.1,V⟩ ⟨V,V⟩ ⟨V,V⟩;obtain⟨p1,p2⟩:=hA.bound;obtain⟨p3,p4⟩:=hC.bound;have b1:=hA.b1;have e1:=hC.b1;rw[hx]at s1 hK;rw[hc];refine ae.sw (n:=26) (rs:=[.cell 6 58,.tmp 7]) func51 ?_;refine W.sq ?_;simp only[go_sem];obtain⟨H1,hH1⟩:∃H1,H1=ext H [.J 0 58 [.lit (.int .i64 c),.lit (.int .i64 e)],.J 0 58 [.lit (.int .i64 0),.lit (.int .i64 0)]]:=⟨_,rfl⟩
 have o1:ZM H H1:=hH1▸.ext _ _
 have n1:H1.A=H.A+2:=hH1▸rfl
 have g1:=dI hH1
 have g2:=gE hH1 1 rfl
 rw[<- hH1];clear hH1;refine W.sq ?_;simp only[go_sem];refine ao.X (Dp hok hf V hro hu (pA hS) H1 ((o1.nf s hsl).trans hs) V _ ⟨trivial,?_⟩);simp only[go_sem];refine ao.X (yK (bw d r u S) (pM hok') V H1 _ (fun h=>absurd (he.symm.trans h) ZE) (fun _ h=>absurd he h) fun r' hr' _ _=>⟨trivial,?_⟩);obtain rfl:r=r':=Option.some.inj (hrl.symm.trans hr');rw[gd,ha];simp only[go_sem];obtain⟨H2,hH2⟩:∃H2,H2=ext H1 [.J 0 58 [.lit (.int .i64 a),.lit (.int .i64 b)]]:=⟨_,rfl⟩
 have o2:ZM H1 H2:=hH2▸.ext _ _
 have n2:H2.A=H1.A+1:=hH2▸rfl
 have l3:=ah (show H2.get H1.A=some (.J 0 58 [.lit (.int .i64 a),.lit (.int .i64 b)]) by rw[hH2];exact cH ..);have l1:=ah ((o2.nf H.A V).trans g1);have l2:=ah ((o2.nf (H.A+1) V).trans g2);rw[<- hH2];clear hH2;refine W.sq ?_;simp only[go_sem];refine W.vs ?_;simp only[go_sem,l1,l3];refine ao.X (F01.Nm a b c e V V s2 H2 _ ⟨trivial,?_⟩);rw[s1];simp only[go_sem,l2];refine ak.bB (v':=.nc [.agg [.lit (.int .i64 x),.lit (.int .i64 y)],aa 0]) aF hcl (ZM.upd (id:=H.A+1) (o1.trans o2) (Xu _) _) (zp x y 0) hK
def Du (hok:ZP d)(hro:ZX d r)(hu:u∈r)(H:ZH)(K:ZN->ZH->Prop)(hK:K (.ret (.nc [aM (bA d u),aa 0])) H):
  ae prog G0 13 [dh d,aa u] H K:=by
 refine ae.X ⟨_,func13,rfl,rfl⟩ fun hcl=>?_;have hf:=pM hok;obtain⟨he,hv⟩:=tq hok hro;have hul:u<d.C.length:=(bL.1 (hro.mem u hu)).1;refine ae.sw (n:=19) (rs:=[.tmp 4,.tmp 5]) func13 ?_;refine W.sq ?_;simp only[go_sem,ij,c9];obtain⟨H1,hH1⟩:∃H1,H1=ext H [.J 0 38 [.lit (.int .i64 d.nl),.Q d.C.length (aI d.C),.lit (.int .u64 (d.Y:Int)),.Q d.Z.length (bt d.Z)]]:=⟨_,rfl⟩
 have g1:=dI hH1
 have o1:ZM H H1:=hH1▸.ext _ _
 rw[<- hH1];clear hH1;have l1:=ah g1;refine W.sq ?_;simp only[go_sem,l1];refine ao.X (vp d hf u H1 _ (fun h=>absurd (he.symm.trans h) ZE) (fun _ h=>absurd he h) (fun _ h=>absurd (mQ.2 (hv ▸ hu)) h) fun r' u' H2 _ hr' hu' hm hH2=>⟨trivial,?_⟩);obtain rfl:r=r':=hv.symm.trans hr';obtain rfl:u=u':=V
 have o2:ZM H1 H2:=hH2▸.ext _ _
 have gs:H2.get (H1.A+1)=some (.J 0 157 (gZ d r u)):=by rw[hH2];exact bN H1 _ 1 (ZD)
 have n2:H2.A=H1.A+2:=hH2▸rfl
 simp only[go_sem];refine W.sq ?_;simp only[go_sem];refine W.vs ?_;simp only[go_sem];refine ao.X (vo hok (vu hf) hul H2 gs V _ ⟨trivial,?_⟩);simp only[go_sem];refine ak.bB (v':=.nc [aM (bA d u),aa 0]) aF hcl (o1.trans o2) (.nc rfl fun i hi _=>match i,hi with|0,_=>.lit _|1,_=>.lit _) hK
def PL (hok:ZP d)(h6:d.C.length<=6)(hro:ZX d r){S:Nat}(hu:u∈r)(hS:Sub S (bA d u))(H:ZH)(K:ZN->ZH->Prop)(hK:K (.ret (.nc [dh (bw d r u S),aa 0])) H):
  ae prog G0 16 [dh d,aa u,aM S] H K:=by
 refine ae.X ⟨_,func16,rfl,rfl⟩ fun hcl=>?_;have hf:=pM hok;obtain⟨he,hv⟩:=tq hok hro;have hul:u<d.C.length:=(bL.1 (hro.mem u hu)).1;have n8:=hok.n.n1;have hSl:=pA hS;have S64:S<2 ^ 64:=Vl hSl (Vq ZE V);have hz:dV S (bA d u)=0:=VP fun i=>by
  rw[lP S64,V3];cases hb:S.testBit i with
  |false=>rfl
  |true=>rw[hS i hb];rfl
 have s2:=fun t x y=>nK (P:=prog) (t:=t) (x:=x) (y:=y) (a:=S) (b:=bA d u);rw[hz]at s2;refine ae.sw (n:=29) (rs:=[.cell 6 38,.tmp 7]) func16 ?_;refine W.sq ?_;simp only[go_sem,ij,c9];obtain⟨H1,hH1⟩:∃H1,H1=ext H [.J 0 38 [.lit (.int .i64 d.nl),.Q d.C.length (aI d.C),.lit (.int .u64 (d.Y:Int)),.Q d.Z.length (bt d.Z)],.J 0 38 [.lit (.int .i64 0),.lit (.slice none 0 0),.lit (.int .u64 0),.lit (.slice none 0 0)]]:=⟨_,rfl⟩
 have g1:=dI hH1
 have g2:=gE hH1 1 rfl
 have n1:H1.A=H.A+2:=hH1▸rfl
 have o1:ZM H H1:=hH1▸.ext _ _
 rw[<- hH1];clear hH1;have l1:=ah g1;refine W.sq ?_;simp only[go_sem,l1];refine ao.X (vp d hf u H1 _ (fun h=>absurd (he.symm.trans h) ZE) (fun _ h=>absurd he h) (fun _ h=>absurd (mQ.2 (hv ▸ hu)) h) fun r' u' H2 _ hr' hu' hm hH2=>⟨trivial,?_⟩);obtain rfl:r=r':=hv.symm.trans hr';obtain rfl:u=u':=V
 have o2:ZM H1 H2:=hH2▸.ext _ _
 have gs:H2.get (H1.A+1)=some (.J 0 157 (gZ d r u)):=by rw[hH2];exact bN H1 _ 1 (ZD)
 have n2:H2.A=H1.A+2:=hH2▸rfl
 have l2:=ah ((o2.nf (H.A+1) V).trans g2);clear hH2;simp only[go_sem];refine W.sq ?_;simp only[go_sem];refine W.sq ?_;simp only[go_sem];refine ao.X (vo hok (vu hf) hul H2 gs V _ ⟨trivial,?_⟩);unfold aM;simp only[go_sem,s2];refine W.vs ?_;simp only[go_sem];refine ao.X (Dp hok hf h6 hro hu hSl H2 gs V _ ⟨trivial,?_⟩);simp only[go_sem,ij,c9,l2];refine ak.bB (v':=.nc [dh (bw d r u S),aa 0]) aF hcl (ZM.upd (id:=H.A+1) (o1.trans o2) (Xu _) _) (.nc rfl fun i hi _=>match i,hi with|0,_=>Uw _|1,_=>.lit _) hK
end Go.Proofs
namespace Go.Proofs.F01
open Go.Hx Tryz
variable {f:FuncId}{a b c d:Int}
def Nr {P:Program}{t e:TypeId}{x y:Operand}{k:IntKind}{a b:Nat}(ht:P.underlying t=some (.array 2 e))(he:P.underlying e=some (.int k))(hs:P.cellsOf e=1)(hg:P.eqGuardType P.depth t=false):
  aV P .eql t x y (.agg [.lit (.int .u64 (a / 18446744073709551616:Nat)),.lit (.int .u64 (a % 18446744073709551616:Nat))]) (.agg [.lit (.int .u64 (b / 18446744073709551616:Nat)),.lit (.int .u64 (b % 18446744073709551616:Nat))])=some (.lit (.bool (decide (a=b)))):=by
 rw[Ci ht he hs hg];congr 3;have d1:=Xm a 18446744073709551616;have d2:=Xm b 18446744073709551616;by_cases h:a=b
 ·subst h;simp
 ·rw[V1 h];by_cases h1:a / 18446744073709551616=b / 18446744073709551616
  ·have h2:¬a % 18446744073709551616=b % 18446744073709551616:=fun h2=>h (by rw[<- d1,<- d2,h1,h2]);have h3:¬((a % 18446744073709551616:Nat):Int)=((b % 18446744073709551616:Nat):Int):=V;rw[beq_eq_false_iff_ne.mpr h3,Bool.and_false]
  ·have h3:¬((a / 18446744073709551616:Nat):Int)=((b / 18446744073709551616:Nat):Int):=V;rw[beq_eq_false_iff_ne.mpr h3,Bool.false_and]
def jg (a b c d:Int):Int:=if (a<0/\¬c<0) then -1 else if (¬a<0/\c<0) then 1 else if a.natAbs*d.natAbs=c.natAbs*b.natAbs then 0 else if (a.natAbs*d.natAbs<c.natAbs*b.natAbs↔0<=a) then -1 else 1
def Ns (a b c d:Int)(ha:-4611686018427387903<=a/\a<=4611686018427387903)(hb:1<=b/\b<=4611686018427387903)(hc:-4611686018427387903<=c/\c<=4611686018427387903)(hd:1<=d/\d<=4611686018427387903)(H:ZH)(K:ZN->ZH->Prop)
  (hK:K (.ret (.lit (.int .i64 (jg a b c d)))) H):ae prog G0 98 [qV a b,qV c d] H K:=by
 refine ae.X ⟨_,func98,rfl,rfl⟩ fun hcl=>?_;have wb:=VL b V;have wd:=VL d V;have tm:∀(x y:Nat) (hx:x<=4611686018427387903) (hy:y<=4611686018427387903) (z:Int) (hz:z=(y:Int)) (H2:ZH) (K:ZN->ZH->Prop),K (.ret (dk (x*y))) H2->ae prog G0 99 [.lit (.int .u64 (x:Int)),.lit (.int .u64 z)] H2 K:=fun x y hx hy z hz H2 K h=>by rw[hz];exact ve x y hx hy H2 K h
 refine ae.st (n:=44) (rs:=[.tmp 4]) func98 ?_;simp only[go_sem,qV];refine W.dr 16 [0,1,3,0,8,24,63,0,128,511,0,1024,3072,8191,0,0] mixed ?_;simp only[go_sem];refine⟨_,[],bD.pure fun H2=>vd a V H2 _ ⟨rfl,rfl⟩,?_⟩;simp only[go_sem,wb,wd];refine⟨_,[],bD.pure fun H2=>tm a.natAbs d.natAbs V V d V H2 _ ⟨rfl,rfl⟩,?_⟩;simp only[go_sem];refine⟨_,[],bD.pure fun H2=>vd c V H2 _ ⟨rfl,rfl⟩,?_⟩;simp only[go_sem];refine⟨_,[],bD.pure fun H2=>tm c.natAbs b.natAbs V V b V H2 _ ⟨rfl,rfl⟩,?_⟩;have eqw:∀(o1 o2:Operand) (a b:Nat),aV prog .eql 173 o1 o2 (.agg [.lit (.int .u64 (a / 18446744073709551616:Nat)),.lit (.int .u64 (a % 18446744073709551616:Nat))]) (.agg [.lit (.int .u64 (b / 18446744073709551616:Nat)),.lit (.int .u64 (b % 18446744073709551616:Nat))])=some (.lit (.bool (decide (a=b)))):=fun o1 o2 a b=>Nr (a:=a) (b:=b) Tryz.underlying173 Tryz.underlying142 ZF ZF;obtain⟨p,hp⟩:∃p,p=a.natAbs*d.natAbs:=⟨_,rfl⟩
 obtain⟨q,hq⟩:∃q,q=c.natAbs*b.natAbs:=⟨_,rfl⟩
 unfold jg at hK;rw[<- hp,<- hq]at hK ⊢;have n3:H.A+2+1=H.A+3:=rfl;simp only[go_sem,dk];refine⟨by refine⟨?_,?_,?_,?_,?_,?_,?_,?_⟩<;>(intro x hx;omega),by refine⟨?_,?_,?_,?_,?_,?_,?_,?_⟩<;>(intro x hx;omega),?_⟩;rw[ef,ef];simp only[List.cons_append,List.nil_append];by_cases h1:a<0
 ·have z3:¬ 0<=a:=V
  by_cases h2:c<0
  ·rw[Ve V,Ve V]at hK;by_cases hxy:p=q
   ·rw[Vf hxy]at hK;simp only[go_sem,n3,h1,h2,mf Tryz.underlying4,eqw,hxy];exact ak.drop aF hcl (.lit _) hK
   rw[Ve hxy]at hK;simp only[go_sem,n3,h1,h2,mf Tryz.underlying4,eqw,hxy];refine W.dr 6 [0,0,3,0,8,24] mixed ?_;simp only[go_sem,mf Tryz.underlying4];refine⟨_,[],bD.pure fun H2=>yV p q H2 _ ⟨rfl,rfl⟩,?_⟩;by_cases hl:p<q
   ·simp only[go_sem,z3,pt Tryz.underlying4,hl];rw[Ve V]at hK;exact ak.drop aF hcl (.lit _) hK
   ·simp only[go_sem,z3,pt Tryz.underlying4,hl];rw[Vf V]at hK;exact ak.drop aF hcl (.lit _) hK
  ·rw[Vf ⟨h1,h2⟩]at hK;simp only[go_sem,n3,h1,h2,mf Tryz.underlying4];exact ak.drop aF hcl (.lit _) hK
 ·have z3:0<=a:=V
  by_cases h2:c<0
  ·rw[Ve V,Vf ⟨h1,h2⟩]at hK;simp only[go_sem,n3,h1,h2,mf Tryz.underlying4];exact ak.drop aF hcl (.lit _) hK
  ·rw[Ve V,Ve V]at hK;by_cases hxy:p=q
   ·rw[Vf hxy]at hK;simp only[go_sem,n3,h1,h2,mf Tryz.underlying4,eqw,hxy];exact ak.drop aF hcl (.lit _) hK
   rw[Ve hxy]at hK;simp only[go_sem,n3,h1,h2,mf Tryz.underlying4,eqw,hxy];refine W.dr 6 [0,0,3,0,8,24] mixed ?_;simp only[go_sem,mf Tryz.underlying4];refine⟨_,[],bD.pure fun H2=>yV p q H2 _ ⟨rfl,rfl⟩,?_⟩;by_cases hl:p<q
   ·simp only[go_sem,z3,pt Tryz.underlying4,hl];rw[Vf V]at hK;exact ak.drop aF hcl (.lit _) hK
   ·simp only[go_sem,z3,pt Tryz.underlying4,hl];rw[Ve V]at hK;exact ak.drop aF hcl (.lit _) hK
def Nt {r:Int}(hf:ae prog G0 f [qV a b,qV c d] cR (mI (some (.lit (.int .i64 r))))):
  ae prog G0 140 [.ni [.X f [] []] 0,.ni [.lit (.int .i64 a),.lit (.int .i64 b)] 0,.ni [.lit (.int .i64 c),.lit (.int .i64 d)] 0] cR (mI (some (.lit (.int .i64 r)))):=by
 refine ae.X ⟨_,func140,rfl,rfl⟩ fun hcl=>?_;refine ae.st (n:=8) (rs:=[.tmp 3]) func140 ?_;simp only[go_sem];refine ao.X ((ae.sA (args:=[qV a b,qV c d]) aF rfl (fun i hi _=>.plain (match i,hi with|0,_=>vh a b|1,_=>vh c d)) hf).mono ?_);rintro r H' ⟨rfl,rfl⟩;refine⟨trivial,?_⟩;show opsV _ _ _ _ _ _ _;simp only[go_sem];exact ak.mk (WH _) ⟨_,rfl,.lit _⟩
def tf {S:Nat->Prop}{H:ZH}{nx:Nat}(x e:Int):Fz S H nx (.nc [.lit (.int .i64 x),.lit (.int .i64 e)]) (.nc [.lit (.int .i64 x),.lit (.int .i64 e)]) :=
 .nc rfl fun i hi _=>match i,hi with
  |0,_=>.lit _
  |1,_=>.lit _
def Nu {r:Int}(ra:(-9223372036854775808<=a/\a<=9223372036854775807)/\(-9223372036854775808<=b/\b<=9223372036854775807))(rc:(-9223372036854775808<=c/\c<=9223372036854775807)/\(-9223372036854775808<=d/\d<=9223372036854775807))
  (hf:bz a b=0->bz c d=0->ae prog G0 f [qV a b,qV c d] cR (mI (some (.lit (.int .i64 r))))) (H:ZH) (K:ZN->ZH->Prop) (hK:K (.ret (if bz a b=0/\bz c d=0 then .nc [.lit (.int .i64 r),.lit (.int .i64 0)] else .nc [.lit (.int .i64 0),.lit (.int .i64 5)])) H):
  ae prog G0 97 [qV a b,qV c d,.X f [] []] H K:=by
 refine ae.X ⟨_,func97,rfl,rfl⟩ fun hcl=>?_;refine ae.st (n:=22) (rs:=[.tmp 6,.tmp 7]) func97 ?_;simp only[go_sem,qV];refine ao.X (te a b ra.1 ra.2 _ _ ⟨trivial,?_⟩);by_cases h1:bz a b=0;rotate_left
 ·rw[Ve fun h=>h1 h.1]at hK;simp only[go_sem,h1];exact ak.drop aF hcl (tf 0 5) hK
 rw[h1];simp only[go_sem];refine ao.X (te c d rc.1 rc.2 _ _ ⟨trivial,?_⟩);by_cases h2:bz c d=0;rotate_left
 ·rw[Ve fun h=>h2 h.2]at hK;simp only[go_sem,h2];exact ak.drop aF hcl (tf 0 5) hK
 rw[h2];rw[Vf ⟨h1,h2⟩]at hK;simp only[go_sem];obtain⟨H1,hH1⟩:∃H1,H1=ext H [.J 0 58 [.lit (.int .i64 a),.lit (.int .i64 b)],.J 0 58 [.lit (.int .i64 c),.lit (.int .i64 d)],.J 0 68 (ZI.X f [] []).cells]:=⟨_,rfl⟩
 have n1:H1.A=H.A+3:=hH1▸rfl
 have k0:=dI hH1
 have k1:=gE hH1 1 rfl
 have k2:H1.get (H.A+2)=some (.J 0 68 [.X f [] []]):=by rw[hH1];exact bN H _ 2 (ZD)
 rw[<- hH1];refine ao.X ((Qn aF 140 [.O (H.A+2) 0 0,.O H.A 0 0,.O (H.A+1) 0 0] [.ni [.X f [] []] 0,.ni [.lit (.int .i64 a),.lit (.int .i64 b)] 0,.ni [.lit (.int .i64 c),.lit (.int .i64 d)] 0] H1 (some (.lit (.int .i64 r))) rfl (fun H2 hag i h h'=>?_) (fun u hu=>?_) (Nt (hf h1 h2))).mono ?_)
 ·match i,h with
  |0,_=>exact .nN trivial ((hag _ V).trans k2) ZD rfl fun i hi _=>match i,hi with|0,_=>.X rfl rfl (fun i h _=>absurd h (Vs _)) (fun i h _=>absurd h (Vs _))
  |1,_=>exact .nN trivial ((hag _ V).trans k0) ZD rfl fun i hi _=>match i,hi with|0,_=>.lit _|1,_=>.lit _
  |2,_=>exact .nN trivial ((hag _ V).trans k1) ZD rfl fun i hi _=>match i,hi with|0,_=>.lit _|1,_=>.lit _
 ·cases hu;rfl
 ·rintro r H' ⟨rfl,rfl⟩;refine⟨trivial,?_⟩;rw[hH1];simp only[go_sem,sW];exact ak.drop aF hcl (tf _ _) hK
def cG (p q:Int):Int:=if p<q then -1 else if p=q then 0 else 1
def y8 (hb:1<=b)(hd:1<=d):jg a b c d=cG (a*d) (c*b):=by
 unfold jg cG;obtain⟨B,rfl⟩:=Vk (show 0<=b by omega);obtain⟨D,rfl⟩:=Vk (show 0<=d by omega);simp only[Ww];have pos:∀x:Nat,∀E:Nat,((x:Int)*(E:Int))=((x*E:Nat):Int):=fun x E=>(WB x E).symm;have neg:∀x:Nat,∀E:Nat,(-(x:Int)*(E:Int))=-((x*E:Nat):Int):=fun x E=>by rw[Int.neg_mul,WB]
 have pp:∀x E:Nat,0<x->1<=(E:Int)->0<x*E:=fun x E h1 h2=>Y2 h1 V;by_cases h1:a<0
 ·obtain⟨A,hA,hA0⟩:∃A:Nat,a=-(A:Int)/\0<A:=⟨a.natAbs,V,V⟩
  subst hA;have p1:=pp A D hA0 hd;by_cases h2:c<0
  ·obtain⟨C,hC,hC0⟩:∃C:Nat,c=-(C:Int)/\0<C:=⟨c.natAbs,V,V⟩
   subst hC;simp only[XC,Ww,neg];generalize A*D=P at *
   generalize C*B=Q at *
   repeat' split
   all_goals omega
  ·obtain⟨C,hC⟩:=Vk (show 0<=c by omega);subst hC;simp only[XC,Ww,neg,pos];generalize A*D=P at *
   generalize C*B=Q at *
   repeat' split
   all_goals omega
 ·obtain⟨A,hA⟩:=Vk (show 0<=a by omega);subst hA;by_cases h2:c<0
  ·obtain⟨C,hC,hC0⟩:∃C:Nat,c=-(C:Int)/\0<C:=⟨c.natAbs,V,V⟩
   subst hC;have p2:=pp C B hC0 hb;simp only[XC,Ww,neg,pos];generalize A*D=P at *
   generalize C*B=Q at *
   repeat' split
   all_goals omega
  ·obtain⟨C,hC⟩:=Vk (show 0<=c by omega);subst hC;simp only[Ww,pos]
   repeat' split
   all_goals omega
def za (a b c d:Int):ZI:=if bz a b=0/\bz c d=0 then .nc [.lit (.int .i64 (cG (a*d) (c*b))),.lit (.int .i64 0)] else .nc [.lit (.int .i64 0),.lit (.int .i64 5)]
def Nv (a b c d:Int)(ra:(-9223372036854775808<=a/\a<=9223372036854775807)/\(-9223372036854775808<=b/\b<=9223372036854775807))(rc:(-9223372036854775808<=c/\c<=9223372036854775807)/\(-9223372036854775808<=d/\d<=9223372036854775807))
  (H:ZH) (K:ZN->ZH->Prop) (hK:K (.ret (za a b c d)) H):ae prog G0 57 [qV a b,qV c d] H K:=by
 refine ae.X ⟨_,func57,rfl,rfl⟩ fun hcl=>?_;refine ae.st (n:=11) (rs:=[.tmp 4,.tmp 5]) func57 ?_;simp only[go_sem,qV];refine ao.X (Nu (a:=a) (b:=b) (c:=c) (d:=d) (r:=cG (a*d) (c*b)) ra rc (fun h1 h2=>?_) _ _ ⟨trivial,?_⟩)
 ·obtain⟨p1,p2,_⟩:=px h1;obtain⟨p3,p4,_⟩:=px h2;rw[<- y8 p2.1 p4.1];exact(Ns a b c d p1 p2 p3 p4 cR _ rfl).mono fun r H' h=>⟨_,h,.lit _⟩
 ·unfold za at hK;by_cases h:bz a b=0/\bz c d=0
  ·rw[Vf h]at hK ⊢;simp only[go_sem];exact ak.drop aF hcl (tf _ _) hK
  ·rw[Ve h]at hK ⊢;simp only[go_sem];exact ak.drop aF hcl (tf _ _) hK
end Go.Proofs.F01
namespace Go.Proofs
open Go.Hx Tryz
variable {m n:Int}{r:List Nat}{u:Nat}{d:ZK}
def eQ (d:ZK)(r:List Nat)(u:Nat)(n m:Int)(S:Nat):Bool:=decide (n*d.nl ^ d.C.length<=eo d r u S*m)
structure EnH (d:ZK)(r:List Nat)(u:Nat)(n m:Int)(s b8 b11 b9 b5:Nat)(H:ZH):Prop where
 sl:s<H.A
 hs:H.get s=some (.J 0 157 (gZ d r u))
 h8:H.get b8=some (.J 0 101 [.O s 0 0])
 h11:∃c e,dM (eM d r) (d.nl ^ d.C.length)=.agg [aa c,aa e]/\H.get b11=some (.J 0 58 [aa c,aa e])
 h9:H.get b9=some (.J 0 44 [aa 0])
 h5:H.get b5=some (.J 0 58 [aa n,aa m])
def EnH.ng {s b8 b11 b9 b5:Nat}{H H':ZH}(h:EnH d r u n m s b8 b11 b9 b5 H)(hn:H.A<=H'.A)(hk:∀i,i=s\/i=b8\/i=b11\/i=b9\/i=b5->H'.get i=H.get i):EnH d r u n m s b8 b11 b9 b5 H':=by
 obtain⟨c,e,h1,h2⟩:=h.h11;exact⟨by have:=h.sl;omega,(hk _ ZD).trans h.hs,(hk _ ZD).trans h.h8,⟨c,e,h1,(hk _ ZD).trans h2⟩,(hk _ ZD).trans h.h9,(hk _ ZD).trans h.h5⟩
def DA {x y g W D:Int}(h:nnj W D x y g):(0<=F01.cG (x*m) (n*y))↔n*D<=W*m:=by
 have g1:=h.g1;have e1:W*m=(x*m)*g:=by rw[<- h.n];grind
 have e2:n*D=(n*y)*g:=by rw[<- h.d];grind
 rw[e1,e2];generalize x*m=p;generalize n*y=q;have h1:q*g<=p*g↔q<=p:=⟨fun h=>Int.le_of_mul_le_mul_right h V,fun h=>WK h V⟩
 rw[h1];unfold F01.cG;split
 ·omega
 ·split<;>omega
def DB (hok:ZP d)(h5:d.C.length<=5)(hro:ZX d r){S:Nat}(hu:u∈r)(hS:Sub S (bA d u))(hck:F01.bz n m=0){s b8 b11 b9 b5:Nat}(H:ZH)(hE:EnH d r u n m s b8 b11 b9 b5 H)(K:ZN->ZH->Prop)
  (hK:K (.ret (.lit (.bool (eQ d r u n m S)))) H):
  ae prog G0 56 [aM S,.O b8 0 0,.O b11 0 0,.O b9 0 0,.O b5 0 0] H K:=by
 refine ae.X ⟨_,func56,rfl,rfl⟩ fun hcl=>?_;obtain⟨c,e,hce,h11⟩:=hE.h11;have l8:=ah hE.h8;have l11:=ah h11;have l5:=ah hE.h5;have g5:=tt hok h5;have t1:=qX hok hro;have t2:=qX (qS hok hro hu hS) (qT hok hro hu hS);have gd:(bw d r u S).nl ^ (bw d r u S).C.length=d.nl ^ d.C.length:=by rw[iC];rfl
 rw[gd]at t2;obtain⟨x,y,gx,hx,hX⟩:=mB (S:=eo d r u S) (D:=d.nl ^ d.C.length) g5.1;have wb:=Ds hok h5 hro hu hS H hE.hs hE.sl;rw[hx,hce]at wb;have hw:eo d r u S=eM (bw d r u S) r-eM d r:=rfl;obtain⟨p1,p2⟩:=hX.bound;have y1:=hX.b1;have ckx:F01.bz x y=0:=F01.tp V V hX.cop;obtain⟨rn,rm,_⟩:=F01.px hck;have hge:=DA (n:=n) (m:=m) hX;refine ae.sw (n:=35) (rs:=[.tmp 6]) func56 ?_;refine W.sq ?_;simp only[go_sem];refine W.sq ?_;simp only[go_sem,l8,l11];refine ao.X (wb _ ⟨trivial,?_⟩);simp only[go_sem];obtain⟨H2,hH2⟩:∃H2,H2=ext H [.J 0 58 [.lit (.int .i64 x),.lit (.int .i64 y)]]:=⟨_,rfl⟩
 have o2:ZM H H2:=hH2▸.ext _ _
 have l7:=ah (show H2.get H.A=some (.J 0 58 [.lit (.int .i64 x),.lit (.int .i64 y)]) by rw[hH2];exact cH ..);have b5n:=hE.h5;have m5:H2.na b5 0=some (58,[.lit (.int .i64 n),.lit (.int .i64 m)]):=(o2.na (hcl.lt _ _ b5n)).trans l5;rw[<- hH2];clear hH2;refine W.sq ?_;simp only[go_sem];refine W.sq ?_;simp only[go_sem,l7,m5];refine ao.X (F01.Nv x y n m ⟨V,V⟩ ⟨V,V⟩ H2 _ ⟨trivial,?_⟩);unfold F01.za;rw[Vf ⟨ckx,hck⟩];simp only[go_sem];refine W.sq ?_;simp only[go_sem];refine W.vs ?_;by_cases hb:(0:Int)<=F01.cG (x*m) (n*y)
 ·rw[show eQ d r u n m S=true from VB (hge.1 hb)]at hK;simp only[go_sem,hb];exact ak.bB aF hcl o2 (.lit _) hK
 ·rw[show eQ d r u n m S=false from V1 fun h=>hb (hge.2 h)]at hK;simp only[go_sem,hb];exact ak.bB aF hcl o2 (.lit _) hK
end Go.Proofs
namespace Go.Hx
variable {P:Program} {t:TypeId} {x y:Operand}
def PM {a b:Nat}(ha:a<2 ^ 63)(hb:b<2 ^ 63):aV P .and t x y (.lit (.int .i64 (a:Int))) (.lit (.int .i64 (b:Int)))=some (.lit (.int .i64 ((a &&& b:Nat):Int))):=by
 rw[qd];have h1:(BitVec.ofInt 64 (a:Int) &&& BitVec.ofInt 64 (b:Int)).toNat=a &&& b:=by
  rw[BitVec.toNat_and,rX V,rX V]
 have h2:a &&& b<=a:=YE;show some (ZI.lit (.int .i64 (IntKind.i64.wrap ((BitVec.ofInt 64 (a:Int) &&& BitVec.ofInt 64 (b:Int)).toNat:Nat))))=_;rw[h1,Vb _ V]
end Go.Hx
namespace Go.Proofs
open Go.Hx Tryz
variable {M k n p:Nat}{d:ZK}
def cL (s:Nat):Nat:=((List.range 8).filter fun i=>s.testBit i).length
def ji (x:Nat):Nat:=((x >>> 1) &&& 6148914691236517205)+(x &&& 6148914691236517205)
def jR (x:Nat):Nat:=((x >>> 2) &&& 3689348814741910323)+(x &&& 3689348814741910323)
def kX (x:Nat):Nat:=((x >>> 4)+x) &&& 1085102592571150095
def mR (x:Nat):Nat:=x+(x >>> 8)
def pD (x:Nat):Nat:=x+(x >>> 16)
def tu (x:Nat):Nat:=x+(x >>> 32)
def PN:((List.range 256).all fun n=>Nat.ble (ji n) 65535 && Nat.ble (jR (ji n)) 65535 && Nat.ble (kX (jR (ji n))) 65535 && Nat.ble (mR (kX (jR (ji n)))) 65535 && Nat.ble (pD (mR (kX (jR (ji n))))) 65535 && Nat.ble (tu (pD (mR (kX (jR (ji n)))))) 65535 && Nat.beq (tu (pD (mR (kX (jR (ji n))))) &&& 127) (cL n) && Nat.ble (cL n) 8)=true:=ZF
def Dv (h:n<256):ji n<=65535/\jR (ji n)<=65535/\kX (jR (ji n))<=65535/\mR (kX (jR (ji n)))<=65535/\pD (mR (kX (jR (ji n))))<=65535/\tu (pD (mR (kX (jR (ji n)))))<=65535/\tu (pD (mR (kX (jR (ji n))))) &&& 127=cL n/\cL n<=8:=by
 have:=VG.1 PN n (Vp.2 h);simp only[VI,Nat.ble_eq,Nat.beq_eq]at this;obtain⟨⟨⟨⟨⟨⟨⟨a,b⟩,c⟩,d⟩,e⟩,f⟩,g⟩,i⟩:=this;exact⟨a,b,c,d,e,f,g,i⟩
def qY {a b:Nat}(h:a+b<2 ^ 64):IntKind.u64.wrap ((a:Int)+(b:Int))=((a+b:Nat):Int):=by
 rw[<- Int.natCast_add];exact qe h
def PO (s:Nat)(hs:s<256)(H:ZH)(K:ZN->ZH->Prop)(hK:K (.ret (aa (cL s))) H):ae prog G0 73 [aM s] H K:=by
 obtain⟨b1,b2,b3,b4,b5,b6,e7,_⟩:=Dv hs;have step:∀(a k m:Nat),a<65536->m<2 ^ 64->∀t x y,aV prog .and t x y (.lit (.int .u64 ((a >>> k:Nat):Int))) (.lit (.int .u64 (m:Int)))=some (.lit (.int .u64 ((a >>> k &&& m:Nat):Int))):=fun a k m ha hm t x y=>nJ (W5 (Yt a k) V) hm;have le1:∀a k m:Nat,a<65536->a >>> k &&& m<65536:=fun a k m h=>W5 (VO YE (Yt a k)) h;have le2:∀a m:Nat,a<65536->a &&& m<65536:=fun a m h=>W5 YE h;have le3:∀a k:Nat,a<65536->a >>> k<65536:=fun a k h=>W5 (Yt a k) h;unfold aM;refine ae.sw (n:=35) (rs:=[.tmp 2]) func73 ?_;refine W.sq ?_;simp only[go_sem];obtain⟨x1,h1⟩:∃z,z=ji s:=⟨_,rfl⟩
 have p1:∀t x y,aV prog .shr t x y (.lit (.int .u64 (s:Int))) (.lit (.int .u64 1))=some (.lit (.int .u64 ((s >>> 1:Nat):Int))):=fun t x y=>jo (s:=1) V;have p2:∀t x y,aV prog .and t x y (.lit (.int .u64 ((s >>> 1:Nat):Int))) (.lit (.int .u64 6148914691236517205))=_:=step s 1 6148914691236517205 V ZE;have p3:∀t x y,aV prog .and t x y (.lit (.int .u64 (s:Int))) (.lit (.int .u64 6148914691236517205))=some (.lit (.int .u64 ((s &&& 6148914691236517205:Nat):Int))):=fun t x y=>nJ V ZE;have p4:=qY (a:=s >>> 1 &&& 6148914691236517205) (b:=s &&& 6148914691236517205) (by have:=le1 s 1 6148914691236517205 V;have:=le2 s 6148914691236517205 V;omega);rw[show (s >>> 1 &&& 6148914691236517205)+(s &&& 6148914691236517205)=x1 from h1.symm]at p4;refine W.sq ?_;simp only[go_sem,p1,p2,p3,p4];rw[<- h1]at b1 b2 b3 b4 b5 b6 e7;clear h1 p1 p2 p3 p4;refine W.en (fun E=>E 0=.lit (.int .u64 (x1:Int))) (by simp only[go_sem]) fun E q1=>?_
 obtain⟨x2,h2⟩:∃z,z=jR x1:=⟨_,rfl⟩
 have p1:∀t x y,aV prog .shr t x y (.lit (.int .u64 (x1:Int))) (.lit (.int .u64 2))=some (.lit (.int .u64 ((x1 >>> 2:Nat):Int))):=fun t x y=>jo (s:=2) V;have p2:∀t x y,aV prog .and t x y (.lit (.int .u64 ((x1 >>> 2:Nat):Int))) (.lit (.int .u64 3689348814741910323))=_:=step x1 2 3689348814741910323 V ZE;have p3:∀t x y,aV prog .and t x y (.lit (.int .u64 (x1:Int))) (.lit (.int .u64 3689348814741910323))=some (.lit (.int .u64 ((x1 &&& 3689348814741910323:Nat):Int))):=fun t x y=>nJ V ZE;have p4:=qY (a:=x1 >>> 2 &&& 3689348814741910323) (b:=x1 &&& 3689348814741910323) (by have:=le1 x1 2 3689348814741910323 V;have:=le2 x1 3689348814741910323 V;omega);rw[show (x1 >>> 2 &&& 3689348814741910323)+(x1 &&& 3689348814741910323)=x2 from h2.symm]at p4;refine W.sq ?_;simp only[go_sem,q1,p1,p2,p3,p4];rw[<- h2]at b2 b3 b4 b5 b6 e7;clear h2 p1 p2 p3 p4;refine W.en (fun E2=>E2 0=.lit (.int .u64 (x2:Int))) (by simp only[go_sem]) fun E2 q2=>?_
 clear q1 E;obtain⟨x3,h3⟩:∃z,z=kX x2:=⟨_,rfl⟩
 have p1:∀t x y,aV prog .shr t x y (.lit (.int .u64 (x2:Int))) (.lit (.int .u64 4))=some (.lit (.int .u64 ((x2 >>> 4:Nat):Int))):=fun t x y=>jo (s:=4) V;have l3:=le3 x2 4 V;have p4:=qY (a:=x2 >>> 4) (b:=x2) V;have p3:∀t x y,aV prog .and t x y (.lit (.int .u64 ((x2 >>> 4+x2:Nat):Int))) (.lit (.int .u64 1085102592571150095))=some (.lit (.int .u64 ((((x2 >>> 4)+x2) &&& 1085102592571150095:Nat):Int))):=fun t x y=>nJ V ZE;rw[show ((x2 >>> 4)+x2) &&& 1085102592571150095=x3 from h3.symm]at p3;refine W.sq ?_;simp only[go_sem,q2,p1,p4,p3];rw[<- h3]at b3 b4 b5 b6 e7;clear h3 p1 p3 p4 l3;refine W.en (fun E3=>E3 0=.lit (.int .u64 (x3:Int))) (by simp only[go_sem]) fun E3 q3=>?_
 clear q2 E2;obtain⟨x4,h4⟩:∃z,z=mR x3:=⟨_,rfl⟩
 have p1:∀t x y,aV prog .shr t x y (.lit (.int .u64 (x3:Int))) (.lit (.int .u64 8))=some (.lit (.int .u64 ((x3 >>> 8:Nat):Int))):=fun t x y=>jo (s:=8) V;have p4:=qY (a:=x3) (b:=x3 >>> 8) (by have:=le3 x3 8 V;omega);rw[show x3+(x3 >>> 8)=x4 from h4.symm]at p4;refine W.sq ?_;simp only[go_sem,q3,p1,p4];rw[<- h4]at b4 b5 b6 e7;clear h4 p1 p4;refine W.en (fun E4=>E4 0=.lit (.int .u64 (x4:Int))) (by simp only[go_sem]) fun E4 q4=>?_
 clear q3 E3;obtain⟨x5,h5⟩:∃z,z=pD x4:=⟨_,rfl⟩
 have p1:∀t x y,aV prog .shr t x y (.lit (.int .u64 (x4:Int))) (.lit (.int .u64 16))=some (.lit (.int .u64 ((x4 >>> 16:Nat):Int))):=fun t x y=>jo (s:=16) V;have p4:=qY (a:=x4) (b:=x4 >>> 16) (by have:=le3 x4 16 V;omega);rw[show x4+(x4 >>> 16)=x5 from h5.symm]at p4;refine W.sq ?_;simp only[go_sem,q4,p1,p4];rw[<- h5]at b5 b6 e7;clear h5 p1 p4;refine W.en (fun E5=>E5 0=.lit (.int .u64 (x5:Int))) (by simp only[go_sem]) fun E5 q5=>?_
 clear q4 E4;obtain⟨x6,h6⟩:∃z,z=tu x5:=⟨_,rfl⟩
 have p1:∀t x y,aV prog .shr t x y (.lit (.int .u64 (x5:Int))) (.lit (.int .u64 32))=some (.lit (.int .u64 ((x5 >>> 32:Nat):Int))):=fun t x y=>jo (s:=32) V;have p4:=qY (a:=x5) (b:=x5 >>> 32) (by have:=le3 x5 32 V;omega);rw[show x5+(x5 >>> 32)=x6 from h6.symm]at p4;refine W.sq ?_;simp only[go_sem,q5,p1,p4];rw[<- h6]at b6 e7;clear h6 p1 p4;refine W.en (fun E6=>E6 0=.lit (.int .u64 (x6:Int))) (by simp only[go_sem]) fun E6 q6=>?_
 clear q5 E5;have w6:=Vb (x6:Int) V;have p3:∀t x y,aV prog .and t x y (.lit (.int .i64 (x6:Int))) (.lit (.int .i64 127))=some (.lit (.int .i64 ((x6 &&& 127:Nat):Int))):=fun t x y=>PM (b:=127) V ZE;rw[e7]at p3;refine W.vs ?_;simp only[go_sem,q6,w6,p3];exact ak.mk ZG hK
def vv (s:Nat)(hs:s<256)(H:ZH)(K:ZN->ZH->Prop)(hK:K (.ret (aa (cL s))) H):ae prog G0 31 [aM s] H K:=by
 refine ae.st (n:=8) (rs:=[.tmp 2]) func31 ?_;simp only[go_sem];refine ao.X (PO s hs H _ ⟨trivial,?_⟩);simp only[go_sem];exact ak.mk ZG hK
def hZ (M k p:Nat):Bool:=decide (dV p M=0) && decide (cL p=k)
def dK (M k p:Nat):List Nat:=((List.range k).flatMap fun j=>(List.range (M+1)).filter (hZ M j))++(List.range p).filter (hZ M k)
def fE (M:Nat):List Nat:=dK M (cL M+1) 0
def Dw (M k:Nat):dK M k (M+1)=dK M (k+1) 0:=by
 unfold dK;rw[VW (n:=k),YM];simp
def zq (h:hZ M k p=true):dK M k (p+1)=dK M k p++[p]:=by
 unfold dK;rw[VW (n:=p),WZ,<- List.append_assoc];congr 1;simp[h]
def Dx (h:hZ M k p=false):dK M k (p+1)=dK M k p:=by
 unfold dK;rw[VW (n:=p),WZ];simp[h]
def Dy {m:Nat}(h:n<=m):∃t,List.range m=List.range n++t:=⟨(List.range (m-n)).map (n+·),by rw[<- List.range_add];congr 1;omega⟩
def Dz (hk:k<=cL M)(hp:p<=M+1):∃t,fE M=dK M k p++t:=by
 have e1:∃t,dK M (k+1) 0=dK M k p++t:=by
  obtain⟨t,ht⟩:=Dy hp;refine⟨t.filter (hZ M k),?_⟩;rw[<- Dw];unfold dK;rw[ht,WZ,<- List.append_assoc]
 have e2:∃t,fE M=dK M (k+1) 0++t:=by
  obtain⟨t,ht⟩:=Dy (show k+1<=cL M+1 by omega);refine⟨t.flatMap fun j=>(List.range (M+1)).filter (hZ M j),?_⟩;unfold fE dK;rw[ht,YM];simp
 obtain⟨t1,h1⟩:=e1;obtain⟨t2,h2⟩:=e2;exact⟨t1++t2,by rw[h2,h1,List.append_assoc]⟩
def PP (hk:k<=cL M)(hp:p<=M)(h:hZ M k p=true):(fE M)[(dK M k p).length]?=some p:=by
 obtain⟨t,ht⟩:=Dz hk (show p+1<=M+1 by omega);rw[ht,zq h,List.append_assoc,VR ZG,X6];rfl
def PQ {i:Nat}(h:(fE M)[i]?=some p):((fE M).map fun (p:Nat)=>[aM p])[i]?=some [aM p]:=by rw[List.getElem?_map,h];rfl
def PR (M bx:Nat)(hM:M<256):tZ prog G0 101 [] [.O bx 0 0] ((fE M).map fun (p:Nat)=>[aM p]) (fun H=>H.get bx=some (.J 0 34 [aM M])):=by
 intro idy J Stop H K hS hJ0 hY hK hSt;have hc8:=(Dv hM).2.2.2.2.2.2.2;have l1:=ah (hS 0 H hJ0);have w0:=Vb ((cL M:Int)+1) V;unfold aM at l1;show ae _ _ _ ([.nk idy]++[.O bx 0 0]) _ _;refine ae.sw (n:=33) (rs:=[]) func101 ?_;refine W.sq ?_;simp only[go_sem,l1];refine ao.X (vv M hM H _ ⟨trivial,?_⟩);simp only[go_sem,w0];refine W.en (fun E=>E 0=.nk idy /\ E 1=.O bx 0 0 /\ E 7=aa ((cL M:Int)+1) /\ E 8=aa 0) (by simp only[go_sem]) fun E ⟨e0,e1,e7,e8⟩=>?_
 refine W.block ?_;refine W.aT 8589934360 (by rfl) (fun ρ H'=>∃k:Nat,ρ 8=aa k/\k<=cL M+1/\J (dK M k 0).length H'/\H.A<=H'.A) (fun ρ _=>cL M+1-(iv (ρ 8)).toNat) ?_ ?_
 ·exact⟨0,e8,V,hJ0,ZG⟩
 rintro ρ Hx ⟨k,h8,hk,hj,hnx⟩;refine W.en (fun E2=>E2 0=.nk idy /\ E2 1=.O bx 0 0 /\ E2 7=aa ((cL M:Int)+1) /\ E2 8=aa k) (by simp only[go_sem,e0,e1,e7,h8]) fun E2 ⟨f0,f1,f7,f8⟩=>?_
 by_cases hb:(k:Int)<(cL M:Int)+1;rotate_left
 ·refine W.vs ?_;simp only[go_sem,f7,f8,hb];obtain rfl:k=cL M+1:=V
  exact ak.mk V (hK Hx (by rw[Vx];exact hj) hnx)
 refine W.sq ?_;simp only[go_sem,f7,f8,hb];refine W.sq ?_;simp only[go_sem];refine W.seq (W.block ?_);refine W.sq ?_;simp only[go_sem,f8];refine W.sq ?_;simp only[go_sem];refine W.en (fun E3=>E3 0=.nk idy /\ E3 1=.O bx 0 0 /\ E3 3=aa k /\ E3 4=.lit (.int .u64 0) /\ E3 7=aa ((cL M:Int)+1) /\ E3 8=aa k) (by simp only[go_sem,f0,f1,f7,f8]) fun E3 ⟨g0,g1,g3,g4,g7,g8⟩=>?_
 refine W.block ?_;refine W.aT 4294965264 (by rfl) (fun ρ H'=>∃p:Nat,ρ 4=aM p/\p<=M+1/\J (dK M k p).length H'/\Hx.A<=H'.A) (fun ρ _=>M+1-(iv (ρ 4)).toNat) ?_ ?_
 ·exact⟨0,g4,V,hj,ZG⟩
 rintro ρ2 Hy ⟨p,h4,hp,hjy,hny⟩;refine W.env fun E4 hE=>?_;have i0:E4 0=.nk idy:=by rw[hE];simp only[go_sem,g0]
 have i1:E4 1=.O bx 0 0:=by rw[hE];simp only[go_sem,g1]
 have i3:E4 3=aa k:=by rw[hE];simp only[go_sem,g3]
 have i4:E4 4=.lit (.int .u64 (p:Int)):=by rw[hE];simp only[go_sem];exact h4
 have i7:E4 7=aa ((cL M:Int)+1):=by rw[hE];simp only[go_sem,g7]
 have i8:E4 8=aa k:=by rw[hE];simp only[go_sem,g8]
 clear hE;have ly:=ah (hS _ _ hjy);unfold aM at ly;by_cases hpb:(p:Int)<=M;rotate_left
 ·obtain rfl:p=M+1:=V
  refine W.vs ?_;simp only[go_sem,i1,i4,ly,hpb];have wk:=Vb ((k:Int)+1) V;refine W.vs ?_;simp only[go_sem,i8,wk];exact⟨V,⟨k+1,rfl,V,by rw[<- Dw];exact hjy,V⟩,by rw[h8];simp only[aa,bf];omega⟩
 have wp:IntKind.u64.wrap ((p:Int)+1)=((p+1:Nat):Int):=qe (m:=p+1) V;have s2:=fun t x y=>nK (P:=prog) (t:=t) (x:=x) (y:=y) (a:=p) (b:=M);have done:dK M k (p+1)=dK M k p->∀H',J (dK M k p).length H'->Hx.A<=H'.A->∃q:Nat,ZI.lit (.int .u64 ((p+1:Nat):Int))=aM q/\q<=M+1/\J (dK M k q).length H'/\Hx.A<=H'.A:=fun e H' h1 h2=>⟨p+1,rfl,V,by rw[e];exact h1,h2⟩
 have dec:M+1-(((p+1:Nat):Int)).toNat<M+1-(iv (ρ2 4)).toNat:=by rw[h4];simp only[aM,bf];omega
 refine W.sq ?_;simp only[go_sem,i1,i4,ly,hpb];refine W.seq (W.block ?_);by_cases hz:(dV p M:Int)=0;rotate_left
 ·have hno:hZ M k p=false:=by unfold hZ;rw[V1 V];rfl
  refine W.sq ?_;simp only[go_sem,i1,i4,ly,s2,hz];refine W.cond (t:=false) (by simp only[go_sem]) ?_;refine W.vs ?_;simp only[go_sem];refine W.vs ?_;simp only[go_sem,i4,wp];exact⟨V,done (Dx hno) _ hjy hny,dec⟩
 refine W.sq ?_;simp only[go_sem,i1,i4,ly,s2,hz];refine ao.X (vv p V Hy _ ⟨trivial,?_⟩);by_cases hc:(cL p:Int)=k;rotate_left
 ·have hno:hZ M k p=false:=by unfold hZ;rw[V1 (show ¬cL p=k by omega),Bool.and_false]
  simp only[go_sem,i3,hc];refine W.cond (t:=false) (by simp only[go_sem]) ?_;refine W.vs ?_;simp only[go_sem];refine W.vs ?_;simp only[go_sem,i4,wp];exact⟨V,done (Dx hno) _ hjy hny,dec⟩
 have hyes:hZ M k p=true:=by unfold hZ;rw[VB (show dV p M=0 by omega),VB (show cL p=k by omega)];rfl
 have hat:=PQ (PP V V hyes);simp only[go_sem,i0,i3,i4,hc];refine hY _ _ Hy _ hat hjy V (fun H2 hj2 hn2=>⟨trivial,?_⟩) (fun H2 hs2 hn2=>⟨trivial,?_⟩)
 ·simp only[go_sem];refine W.cond (t:=false) (by simp only[go_sem]) ?_;refine W.vs ?_;simp only[go_sem];refine W.vs ?_;simp only[go_sem,i4,wp];have e:(dK M k (p+1)).length=(dK M k p).length+1:=by rw[zq hyes,List.length_append];rfl
  exact⟨V,⟨p+1,rfl,V,by rw[e];exact hj2,V⟩,dec⟩
 ·simp only[go_sem];refine W.cond (t:=true) (by simp only[go_sem]) ?_;refine W.vs ?_;simp only[go_sem];exact ak.mk V (hSt H2 hs2 V)
def PS (M:Nat)(H:ZH)(K:ZN->ZH->Prop)(hK:K (.ret (.X 101 [] [.O H.A 0 0])) (ext H [.J 0 34 [aM M]])):
  ae prog G0 58 [aM M] H K:=by
 unfold aM at hK ⊢;refine ae.st (n:=4) (rs:=[.tmp 2]) func58 ?_;simp only[go_sem];exact ak.mk (by simp[aX]) hK
def DC (hok:ZP d)(u:Nat):bA d u<256:=by
 have n8:=hok.n.n1;have h:=pA (d:=d) (u:=u) (S:=bA d u) fun i h=>h;exact Vl h (by
  have:=Vq (n:=2) ZE (show d.C.length<=8 by omega);omega)
def DD (h:p∈fE M)(hM:M<2 ^ 64):Sub p M:=by
 unfold fE dK at h;rcases VC.1 h with h|h
 ·obtain⟨k,_,h⟩:=List.mem_flatMap.1 h;have hp:=Vp.1 (WO.1 h).1;have h2:=(WO.1 h).2;unfold hZ at h2;rw[VI,WW]at h2;intro i hi;have h3:=congrArg (fun z=>Nat.testBit z i) h2.1;simp only[V3]at h3;rw[lP V,hi]at h3;cases hb:M.testBit i with
  |true=>rfl
  |false=>rw[hb]at h3;cases h3
 ·simp at h
def vw {S:Nat->Prop}{H:ZH}{nx:Nat}(a:Nat)(e:Int):Fz S H nx (.nc [.lit (.int .u64 (a:Int)),.lit (.int .i64 e)]) (.nc [aM a,aa e]) :=
 .nc rfl fun i hi _=>match i,hi with
  |0,_=>.lit _
  |1,_=>.lit _
def DE (hok:ZP d)(h5:d.C.length<=5){r:List Nat}(hro:ZX d r){u:Nat}(hu:u∈r){n m:Int}(hn:-9223372036854775808<=n/\n<=9223372036854775807)(hm:-9223372036854775808<=m/\m<=9223372036854775807)(H:ZH)(K:ZN->ZH->Prop)
  (hF:F01.bz n m≠0->K (.ret (.nc [aM 0,aa (F01.bz n m)])) H)
  (hA:F01.bz n m=0->n<0->K (.ret (.nc [aM 0,aa 2])) H)
  (hN:F01.bz n m=0->0<=n->eQ d r u n m (bA d u)=false->K (.ret (.nc [aM 0,aa 4])) H)
  (hK:∀S,F01.bz n m=0->0<=n->eQ d r u n m (bA d u)=true->S=((fE (bA d u)).find? (eQ d r u n m)).getD 0->K (.ret (.nc [aM S,aa 0])) H):
  ae prog G0 23 [dh d,aa u,.agg [aa n,aa m]] H K:=by
 refine ae.X ⟨_,func23,rfl,rfl⟩ fun hcl=>?_;have hf:=pM hok;obtain⟨he,hv⟩:=tq hok hro;have hul:u<d.C.length:=(bL.1 (hro.mem u hu)).1;have hM:=DC hok u;have g5:=tt hok h5;obtain⟨c,e,gc,hc,hC⟩:=mB (S:=eM d r) (D:=d.nl ^ d.C.length) g5.1;refine ae.sw (n:=62) (rs:=[.tmp 6,.tmp 7]) func23 ?_;refine W.sq ?_;simp only[go_sem,ij,c9];obtain⟨H1,hH1⟩:∃H1,H1=ext H [.J 0 38 [.lit (.int .i64 d.nl),.Q d.C.length (aI d.C),.lit (.int .u64 (d.Y:Int)),.Q d.Z.length (bt d.Z)],.J 0 58 [.lit (.int .i64 n),.lit (.int .i64 m)]]:=⟨_,rfl⟩
 have g3:=dI hH1
 have g5':H1.get (H.A+1)=some (.J 0 58 [.lit (.int .i64 n),.lit (.int .i64 m)]):=by rw[hH1];exact bN H _ 1 (ZD)
 have o1:ZM H H1:=hH1▸.ext _ _
 have n1:H1.A=H.A+2:=hH1▸rfl
 rw[<- hH1];clear hH1;have l3:=ah g3;refine W.scope ?_;refine W.sq ?_;simp only[go_sem,l3];refine ao.X (vp d hf u H1 _ (fun h=>absurd (he.symm.trans h) ZE) (fun _ h=>absurd he h) (fun _ h=>absurd (mQ.2 (hv ▸ hu)) h) fun r' u' H2 _ hr' hu' hm' hH2=>⟨trivial,?_⟩);obtain rfl:r=r':=hv.symm.trans hr';obtain rfl:u=u':=V
 have o2:ZM H1 H2:=by rw[hH2];exact .ext _ _
 have gs:H2.get (H1.A+1)=some (.J 0 157 (gZ d r u)):=by rw[hH2];exact bN H1 _ 1 (ZD)
 have n2:H2.A=H1.A+2:=by rw[hH2];rfl
 clear hH2;simp only[go_sem];obtain⟨H3,hH3⟩:∃H3,H3=ext H2 [.J 0 101 [.O (H1.A+1) 0 0],.J 0 44 [.lit (.int .i64 0)]]:=⟨_,rfl⟩
 have g8:=dI hH3
 have g9:=gE hH3 1 rfl
 have o3:ZM H2 H3:=hH3▸.ext _ _
 have n3:H3.A=H2.A+2:=hH3▸rfl
 rw[<- hH3];clear hH3;have l9:=ah g9;have g33:=(o3.nf _ V).trans ((o2.nf H.A V).trans g3);have g53:=(o3.nf _ V).trans ((o2.nf (H.A+1) V).trans g5');have l33:=ah g33;have l53:=ah g53;have oH3:ZM H H3:=(o1.trans o2).trans o3;refine W.en (fun E=>E 1=aa u /\ E 3=.O H.A 0 0 /\ E 5=.O (H.A+1) 0 0 /\ E 8=.O H2.A 0 0 /\ E 9=.O (H2.A+1) 0 0) (by simp only[go_sem]) fun E ⟨e1,e3,e5,e8,e9⟩=>?_
 refine W.sq ?_;simp only[go_sem,e9,l9];refine W.sq ?_;simp only[go_sem,e5,l53];refine ao.X (F01.te n m hn hm H3 _ ⟨trivial,?_⟩);by_cases hck:F01.bz n m=0;rotate_left
 ·simp only[go_sem,hck];exact ak.bB aF hcl oH3 (vw 0 _) (hF hck)
 rw[hck];simp only[go_sem];by_cases hneg:n<0
 ·refine W.sq ?_;simp only[go_sem,e5,l53,hneg];exact ak.bB aF hcl oH3 (vw 0 _) (hA hck hneg)
 refine W.sq ?_;simp only[go_sem,e5,l53,hneg];refine W.sq ?_;simp only[go_sem,e3,l33];refine ao.X (yK d hf V H3 _ (fun h=>absurd (he.symm.trans h) ZE) (fun _ h=>absurd he h) fun r' hr' _ _=>⟨trivial,?_⟩);obtain rfl:r=r':=Option.some.inj ((ti hok hro).symm.trans hr');rw[hc];have l9e:∀L,(ext H3 L).na (H2.A+1) 0=_:=fun L=>(eF V).trans l9;simp only[go_sem,e9,l9e];obtain⟨H4,hH4⟩:∃H4,H4=(ext H3 [.J 0 58 [.lit (.int .i64 c),.lit (.int .i64 e)]]).upd (H2.A+1) (.J 0 44 [.lit (.int .i64 0)]):=⟨_,rfl⟩
 have n4:H4.A=H3.A+1:=by rw[hH4];rfl
 have k4:∀i,i<H3.A->H4.get i=H3.get i:=fun i h=>by
  rw[hH4,aj];split
  ·rename_i hi;rw[hi];exact g9.symm
  ·exact dc H3 _ i h
 have o4:ZM H3 H4:=⟨V,k4⟩
 have g11:H4.get H3.A=some (.J 0 58 [.lit (.int .i64 c),.lit (.int .i64 e)]):=by rw[hH4,aj,Ve V];exact cH ..
 rw[<- hH4];clear hH4;have l94:=ah ((k4 _ V).trans g9);refine W.sq ?_;simp only[go_sem,e9,l94];refine W.sq ?_;simp only[go_sem];refine W.sq ?_;simp only[go_sem,e5,e8,e9];refine⟨⟨rfl,rfl,ZG⟩,?_⟩;obtain⟨H5,hH5⟩:∃H5,H5=ext H4 [.J 0 34 [.lit (.int .u64 0)],.J 0 122 [.X 56 [] [.O H2.A 0 0,.O H3.A 0 0,.O (H2.A+1) 0 0,.O (H.A+1) 0 0]]]:=⟨_,rfl⟩
 have o5:ZM H4 H5:=hH5▸.ext _ _
 have n5:H5.A=H4.A+2:=hH5▸rfl
 have g12:=dI hH5
 have g13:=gE hH5 1 rfl
 show W _ _ _ _ _ _ ⟨_,ext H4 [.J 0 34 [.lit (.int .u64 0)],.J 0 122 [.X 56 [] [.O H2.A 0 0,.O H3.A 0 0,.O (H2.A+1) 0 0,.O (H.A+1) 0 0]]]⟩;rw[<- hH5];clear hH5;have o345:ZM H3 H5:=o4.trans o5;have gs5:=(o345.nf _ V).trans ((o3.nf _ V).trans gs);have g85:=(o345.nf _ V).trans g8;have g95:=(o345.nf _ V).trans g9;have g55:=(o345.nf _ V).trans g53;have g115:=(o5.nf _ V).trans g11;have hE5:EnH d r u n m (H1.A+1) H2.A H3.A (H2.A+1) (H.A+1) H5:=⟨V,gs5,g85,⟨c,e,hc,g115⟩,g95,g55⟩
 have l85:=ah g85;have l95:=ah g95;have l12:=ah g12;have l13:=ah g13;have oH5:ZM H H5:=oH3.trans o345;refine W.en (fun E2=>E2 8=.O H2.A 0 0 /\ E2 9=.O (H2.A+1) 0 0 /\ E2 12=.O H4.A 0 0 /\ E2 13=.O (H4.A+1) 0 0) (by simp only[go_sem,e8,e9]) fun E2 ⟨f8,f9,f12,f13⟩=>?_
 refine W.sq ?_;simp only[go_sem,f8,l85];refine ao.X (vo hok (vu hf) hul H5 gs5 V _ ⟨trivial,?_⟩);simp only[go_sem];refine W.sq ?_;simp only[go_sem,f13,l13];refine ao.X (DB hok h5 hro hu (fun i h=>h) hck H5 hE5 _ ⟨trivial,?_⟩);cases hb:eQ d r u n m (bA d u) with
 |false =>
  simp only[go_sem,f9,l95];exact ak.bB aF hcl oH5 (vw 0 _) (hN hck V hb)
 |true =>
 simp only[go_sem];refine W.seq (W.label ?_);refine W.seq ?_;refine W.sq ?_;simp only[go_sem];refine ao.X (PS (bA d u) H5 _ ⟨trivial,?_⟩);simp only[go_sem];obtain⟨H6,hH6⟩:∃H6,H6=ext H5 [.J 0 34 [.lit (.int .u64 ((bA d u:Nat):Int))]]:=⟨_,rfl⟩
 have o6:ZM H5 H6:=hH6▸.ext _ _
 have n6:H6.A=H5.A+1:=hH6▸rfl
 have gbx:H6.get H5.A=some (.J 0 34 [aM (bA d u)]):=by rw[hH6];exact cH ..
 rw[<- hH6];clear hH6;refine W.en (fun E3=>E3 9=.O (H2.A+1) 0 0 /\ E3 12=.O H4.A 0 0 /\ E3 13=.O (H4.A+1) 0 0 /\ E3 52=.X 101 [] [.O H5.A 0 0]) (by simp only[go_sem,f9,f12,f13]) fun E3 ⟨i9,i12,i13,i52⟩=>?_
 have tail:∀(Hy:ZH) (S:Nat),H6.A<=Hy.A->(∀i,i<H6.A->i≠H4.A->Hy.get i=H6.get i)->S=((fE (bA d u)).find? (eQ d r u n m)).getD 0->ak prog G0 H K (.nc [.lit (.int .u64 (S:Int)),.lit (.int .i64 0)]) Hy:=fun Hy S h1 h2 h3=>by
  have a1:=o345.A;have a2:=oH3.A;exact ak.bB aF hcl ⟨V,fun i hi=>(h2 i V V).trans ((o6.nf i V).trans (oH5.nf i hi))⟩ (vw S 0) (hK S hck V hb h3)
 have g96:=(o6.nf _ V).trans g95;refine W.block ?_;refine W.rY (f:=101) (first:=[]) (cap:=[.O H5.A 0 0]) (by show E3 52=_;exact i52) (PR (bA d u) H5.A hM)
  (fun k Hy=>H6.A<=Hy.A/\(∀id,id<H6.A->Hy.get id=H6.get id)/\∀j p,j<k->(fE (bA d u))[j]?=some p->eQ d r u n m p=false)
  (fun c Hy=>c=.exit 0/\H6.A<=Hy.A/\(∀id,id<H6.A->id≠H4.A->Hy.get id=H6.get id)/\∃p:Nat,(fE (bA d u)).find? (eQ d r u n m)=some p/\Hy.get H4.A=some (.J 0 34 [.lit (.int .u64 (p:Int))]))
  (fun k Hy h=>by rw[h.2.1 _ V];exact gbx)
  (fun k Hy b h=>⟨h.1,fun id h1=>by rw[aj,Ve V];exact h.2.1 id h1,h.2.2⟩)
  (fun c Hy b h=>⟨h.1,h.2.1,fun id h1 h2=>by rw[aj,Ve V];exact h.2.2.1 id h1 h2,by
   obtain⟨v,hv,hg⟩:=h.2.2.2;exact⟨v,hv,by rw[aj,Ve V];exact hg⟩⟩)
  (fun b=>⟨by rw[aX];omega,fun id h1=>dA h1,fun j v h=>absurd h (Vs _)⟩)
  ZE (fun x hx=>by obtain⟨p,_,rfl⟩:=Vu.1 hx;rfl) (fun _ _ _=>trivial) (fun _ _ _=>trivial) (fun k y Hy B Bb hy hj hn hB hBb=>?_) (fun Hy hj hn=>?_) (fun Hy hs hn=>by cases hs.1) (fun i Hy hs hn=>?_)
 ·obtain⟨p,hp,rfl⟩:∃p,(fE (bA d u))[k]?=some p/\[aM p]=y:=by
   rw[List.getElem?_map]at hy;cases hq:(fE (bA d u))[k]? with
   |none=>rw[hq]at hy;cases hy
   |some p=>rw[hq]at hy;exact⟨p,rfl,Option.some.inj hy⟩
  obtain⟨hyn,hyo,hyno⟩:=hj;have hpS:=DD (Va hp) V;refine W.vs ?_;simp only[go_sem,jM,dw,mC,Wi,XA,WY,W6,hB];obtain⟨H7,hH7⟩:∃H7,H7=Hy.upd H6.A Bb:=⟨_,rfl⟩
  rw[<- hH7];obtain⟨st,pd,n',en,ps',as',bo,hBe⟩:=hBb;have n7:H7.A=Hy.A:=by rw[hH7];rfl
  have o7:∀id,id<H6.A->H7.get id=H6.get id:=fun id h=>by rw[hH7,aj,Ve V];exact hyo id h
  have jB:H7.get H6.A=some Bb:=by rw[hH7,aj,Vf rfl]
  have hE7:EnH d r u n m (H1.A+1) H2.A H3.A (H2.A+1) (H.A+1) H7:=hE5.ng V fun i hi=>by
   have:i<H5.A:=by rcases hi with h|h|h|h|h<;>omega
   exact(o7 i V).trans (o6.nf i this)
  have y13:=ah ((o7 _ V).trans ((o6.nf _ V).trans g13));have y12:=ah ((o7 _ V).trans ((o6.nf _ V).trans g12));refine W.en (fun E4=>E4 12=.O H4.A 0 0 /\ E4 13=.O (H4.A+1) 0 0 /\ E4 15=aM p) (by simp only[go_sem,dw,i12,i13]) fun E4 ⟨m12,m13,m15⟩=>?_
  refine W.vs ?_;simp only[go_sem,m13,m15,y13];refine ao.X (DB hok h5 hro hu hpS hck H7 hE7 _ ⟨⟨st,pd,n',en,ps',as',bo,by rw[jB,hBe]⟩,?_⟩);cases hep:eQ d r u n m p with
  |false =>
   simp only[go_sem,im];exact⟨jB,V,V,o7,fun j w hj hw=>by
    rcases VA j k with h'|h'
    ·exact hyno j w h' hw
    ·obtain rfl:j=k:=V;rw[hp]at hw;cases hw;exact hep⟩
  |true =>
   unfold aM at m15;simp only[go_sem,m12,m15,y12,im];exact⟨by rw[aj,Ve V];exact jB,by rw[aQ];omega,by rw[aQ];omega,fun id h1 h2=>by rw[aj,Ve h2];exact o7 id h1,p,Ck hp hep hyno,by rw[aj,Vf rfl]⟩
 ·obtain⟨hyn,hyo,hyno⟩:=hj;rw[Vx]at hyno;have hnone:(fE (bA d u)).find? (eQ d r u n m)=none:=by
   rw[XG];intro v hv;obtain⟨j,hj⟩:=Vj.1 hv;have:=hyno j v (aP hj) hj;rw[this];decide
  have y9:=ah ((hyo _ V).trans g96);have y12:=ah ((hyo _ V).trans ((o6.nf _ V).trans g12));simp only[go_sem];refine W.sq ?_;simp only[go_sem,i9,y9];refine W.vs ?_;simp only[go_sem,i12,y12];exact tail Hy 0 hyn (fun i h _=>hyo i h) (by rw[hnone];rfl)
 ·obtain⟨hc0,hyn,hyo,p,hp,hg12⟩:=hs;cases hc0;have y9:=ah ((hyo _ V V).trans g96);have y12:=ah hg12;simp only[go_sem];refine W.sq ?_;simp only[go_sem,i9,y9];refine W.vs ?_;simp only[go_sem,i12,y12];exact tail Hy p hyn hyo (by rw[hp];rfl)
end Go.Proofs
namespace Go.Hx
variable {P:Program} {G:Nat->Option (List ZI)}
variable {f:FuncId}{args args' l l':List ZI}{nx:Nat}{S:Nat->Prop}{H:ZH}{K:ZN->ZH->Prop}
inductive FzL (S:Nat->Prop)(H:ZH)(nx:Nat):List ZI->List ZI->Prop
 |nil:FzL S H nx [] []
 |cons {a a':ZI} {l l':List ZI} (h:Fz S H nx a a') (t:FzL S H nx l l'):FzL S H nx (a :: l) (a' :: l')
def FzL.len (h:FzL S H nx l l'):l'.length=l.length:=by
 induction h with
 |nil=>rfl
 |cons _ _ ih=>rw[List.length_cons,List.length_cons,ih]
def FzL.at (h:FzL S H nx l l'):∀i (h:i<l.length) (h':i<l'.length),Fz S H nx l[i] l'[i]:=by
 induction h with
 |nil=>intro i h;exact absurd h (Vs _)
 |cons h _ ih =>
  intro i h1 h2;cases i with
  |zero=>exact h
  |succ i=>exact ih i (by simpa using h1) (by simpa using h2)
theorem FzL.agg {S:Nat->Prop}{H:ZH}{nx:Nat}{l l':List ZI}(h:FzL S H nx l l'):Fz S H nx (.agg l) (.agg l'):=.agg h.len h.at
theorem FzL.nc {S:Nat->Prop}{H:ZH}{nx:Nat}{l l':List ZI}(h:FzL S H nx l l'):Fz S H nx (.nc l) (.nc l'):=.nc h.len h.at
theorem FzL.U {S:Nat->Prop}{H:ZH}{nx id g l z:Nat}{e:TypeId}{cells c':List ZI}(hS:S id)(hg:H.get id=some (.J g e cells))(hl:cells.length=l*z)(h:FzL S H nx cells c'):Fz S H nx (.U id g 0 l z) (.Q l c'):=by
 refine .nz hS hg (by rw[h.len,hl]) fun i hi h2 h'=>?_;have e0:0+i=i:=Nat.zero_add i;simpa only[e0] using h.at i V h'
def ao.U6 (n:Nat)(hG:fB G)(hv:FzL (fun id=>n<=id) H H.A args args')(h:ae P G f args' (H.cut n) K):ao P G (.X f [] []) args H K :=
 ao.X (by simpa using ae.mc n hG hv.len (fun i h1 h2=>hv.at i h1 h2) h)
def ao.xi {B:ZH}(hG:fB G)(ho:ZM B H)(hv:FzL (fun id=>B.A<=id) H H.A args args')(h:∀H',ZM B H'->ae P G f args' H' K):ao P G (.X f [] []) args H K :=
 ao.U6 B.A hG hv (h _ ho.cut)
end Go.Hx
namespace Go.Proofs
open Go.Hx Tryz
variable {f:FuncId}{m n:Int}{r:List Nat}{M S p u:Nat}{H:ZH}{d:ZK}{K:ZN->ZH->Prop}
instance (a:List Int)(n:Int):Decidable (bZ a n):=by unfold bZ;infer_instance
instance (g c:Int)(r:List Int):Decidable (kI g c r):=by unfold kI;infer_instance
instance (g:Int)(ns:List ZJ)(x:ZJ):Decidable (gG g ns x):=by unfold gG;infer_instance
instance (ps:List Nat):Decidable (jS ps):=by unfold jS;infer_instance
def PT (d:ZK)(h1:1<=d.C.length/\d.C.length<=8)(h2:d.Y >>> d.C.length=0)(h3:∀x∈d.C,1<=x.L/\x.L<=4)(h4:∀v,v<d.C.length->d.Y.testBit v=true->(d.C.getD v ⟨0,[],[]⟩).nb=[]/\bZ (d.C.getD v ⟨0,[],[]⟩).F d.C.length)
  (h5:(1<=d.nl/\d.nl<=60)/\∀x∈di d (fun _ _=>0),(1<=x.L/\x.L<=4)/\bZ x.F (di d (fun _ _=>0)).length) (h6:aD (aw (di d fun _ _=>0))<=1024) (h7:jS (aC (di d fun _ _=>0))) (h8:∀x∈di d (fun _ _=>0),gG d.nl (di d fun _ _=>0) x)
  (h9:d.Z.length<=4/\∀u∈d.Z,bZ u.vars d.C.length/\(u.w.length:Int)=aD (aL (aw d.C) u.vars)/\∀x∈u.w,-100<=x/\x<=100):ZP d :=
 ⟨⟨h1,h2,h3,fun v x hx hb=>by
  have:=h4 v (aP hx) hb;rw[Vh,hx]at this;exact this⟩,⟨h5.1,by rw[ik];exact h1,h5.2,h6,h7,h8⟩,⟨h9.1,fun u hu=>⟨(h9.2 u hu).1,(h9.2 u hu).2.1,(h9.2 u hu).2.2⟩⟩⟩
def dU:ZK:=⟨10,[⟨2,[],[[7,3]]⟩,⟨2,[0],[[8,2],[2,8]]⟩,⟨2,[],[]⟩],4,[⟨[0,2],[100,20,0,70]⟩]⟩
def kY:ZP dU:=PT dU ZE ZE ZE ZE ZE ZE ZE ZE (ZE)
def PU:iL dU=some [2]:=ZF
def kZ:ZX dU [2]:=tI PU
def zr:bA dU 2=3:=ZF
def PV:dM (eo dU [2] 2 0) (dU.nl ^ dU.C.length)=.agg [aa 0,aa 1]:=ZF
def PW:dM (eo dU [2] 2 1) (dU.nl ^ dU.C.length)=.agg [aa 21,aa 1]:=ZF
def PX:dM (eo dU [2] 2 2) (dU.nl ^ dU.C.length)=.agg [aa 28,aa 5]:=ZF
def PY:dM (eo dU [2] 2 3) (dU.nl ^ dU.C.length)=.agg [aa 21,aa 1]:=ZF
def DF (h:S |||M=M):Sub S M:=fun i hi=>by rw[<- h,Vw,hi];rfl
def pE (S:Nat)(h:S |||3=3):Sub S (bA dU 2):=by rw[zr];exact DF h
def m2:(2:Nat)∈[2]:=List.mem_singleton.2 rfl
def dX:ZK:=bw dU [2] 2 2
def DG:ZP dX:=qS kY kZ m2 (pE 2 ZE)
def DH:ZX dX [2]:=qT kY kZ m2 (pE 2 ZE)
def PZ:bA dX 2=3:=ZF
def DI (S:Nat)(h:S |||3=3):Sub S (bA dX 2):=by rw[PZ];exact DF h
def P0:dM (eo dX [2] 2 2) (dX.nl ^ dX.C.length)=.agg [aa 0,aa 1]:=ZF
def P8:dM (eo dX [2] 2 1) (dX.nl ^ dX.C.length)=.agg [aa 77,aa 5]:=ZF
def DJ:dX.C.length<=5:=ZE
def DK (H:ZH)(K:ZN->ZH->Prop)(hK:K (.ret (dh dU)) H):ae prog G0 32 [] H K:=by
 refine ae.X ⟨_,func32,rfl,rfl⟩ fun hcl=>?_;have e:dh dU=.agg [aa 10,.Q 3 [aa 2,.Q 0 [],.Q 1 [.Q 2 [aa 7,aa 3]],aa 2,.Q 1 [aa 0],.Q 2 [.Q 2 [aa 8,aa 2],.Q 2 [aa 2,aa 8]],aa 2,.Q 0 [],.Q 0 []],.lit (.int .u64 4),.Q 1 [.Q 2 [aa 0,aa 2],.Q 4 [aa 100,aa 20,aa 0,aa 70]]]:=by rfl
 rw[e]at hK;refine ae.sw (n:=16) (rs:=[.cell 0 38]) func32 ?_;refine W.sq ?_;simp only[go_sem];refine W.sq ?_;simp only[go_sem]
 repeat (refine⟨ZE,?_⟩)
 refine W.vs ?_;simp only[go_sem];refine ak.bB aF hcl (.ext _ _) (FzL.agg ?_) hK
 repeat (first|exact FzL.nil|refine FzL.cons ?_ ?_|exact Fz.lit _|exact Fz.nil|refine FzL.U V (bN H _ _ ZD) rfl ?_)
def vz (hok:ZP d)(h5:d.C.length<=5)(hro:ZX d r)(dec:Int)(S64:S<2 ^ 64)(H:ZH)(K:ZN->ZH->Prop)
  (hN:dec ∉ aH r->K (.ret (.nc [.agg [aa 0,aa 0],aa 2])) H)
  (hA:∀u:Nat,dec=u->u∈r->dV S (bA d u)≠0->K (.ret (.nc [.agg [aa 0,aa 0],aa 2])) H)
  (hK:∀u:Nat,dec=u->u∈r->Sub S (bA d u)->K (.ret (.nc [dM (eo d r u S) (d.nl ^ d.C.length),aa 0])) H):
  ae prog G0 20 [dh d,aa dec,aM S] H K:=by
 refine ae.X ⟨_,func20,rfl,rfl⟩ fun hcl=>?_;have hf:=pM hok;obtain⟨he,hv⟩:=tq hok hro;have g5:=tt hok h5;obtain⟨c,e,gc,hc,hC⟩:=mB (S:=eM d r) (D:=d.nl ^ d.C.length) g5.1;refine ae.sw (n:=42) (rs:=[.cell 6 58,.tmp 7]) func20 ?_;refine W.sq ?_;simp only[go_sem,ij,c9];obtain⟨H1,hH1⟩:∃H1,H1=ext H [.J 0 38 [.lit (.int .i64 d.nl),.Q d.C.length (aI d.C),.lit (.int .u64 (d.Y:Int)),.Q d.Z.length (bt d.Z)],.J 0 58 [.lit (.int .i64 0),.lit (.int .i64 0)]]:=⟨_,rfl⟩
 have g1:=dI hH1
 have g2:=gE hH1 1 rfl
 have n1:H1.A=H.A+2:=hH1▸rfl
 have o1:ZM H H1:=hH1▸.ext _ _
 rw[<- hH1];clear hH1;have l1:=ah g1;have l2:=ah g2;have zero:∀(H2:ZH),ZM H1 H2->K (.ret (.nc [.agg [aa 0,aa 0],aa 2])) H->ak prog G0 H K (.nc [.agg [aa 0,aa 0],aa 2]) (H2.upd (H.A+1) (.J 0 58 [aa 0,aa 0])):=fun H2 ho hk =>
  ak.bB aF hcl (ZM.upd (id:=H.A+1) (o1.trans ho) (Xu _) _) (zp 0 0 2) hk
 refine W.sq ?_;simp only[go_sem,l1];refine ao.X (vp d hf dec H1 _ (fun h=>absurd (he.symm.trans h) ZE) (fun _ h=>absurd he h) (fun _ h=>⟨trivial,?_⟩) fun r' u H2 _ hr' hu' hm hH2=>⟨trivial,?_⟩)
 ·simp only[go_sem];refine W.sq ?_;simp only[go_sem,l2];exact zero H1 (.refl _) (hN (hv ▸ h))
 obtain rfl:r=r':=hv.symm.trans hr';have hul:u<d.C.length:=(bL.1 (hro.mem u hm)).1;have o2:ZM H1 H2:=by rw[hH2];exact .ext _ _
 have gs:H2.get (H1.A+1)=some (.J 0 157 (gZ d r u)):=by rw[hH2];exact bN H1 _ 1 (ZD)
 have n2:H2.A=H1.A+2:=by rw[hH2];rfl
 have l12:=ah ((o2.nf _ V).trans g1);have l22:=ah ((o2.nf _ V).trans g2);clear hH2;have s2:=fun t x y=>nK (P:=prog) (t:=t) (x:=x) (y:=y) (a:=S) (b:=bA d u);simp only[go_sem];refine W.sq ?_;simp only[go_sem];refine W.sq ?_;simp only[go_sem];refine ao.X (vo hok (vu hf) hul H2 gs V _ ⟨trivial,?_⟩);unfold aM;by_cases hz:dV S (bA d u)=0;rotate_left
 ·have hzi:¬((dV S (bA d u):Nat):Int)=0:=V
  simp only[go_sem,s2,hzi,l22];exact zero H2 o2 (hA u hu' hm hz)
 have hS:Sub S (bA d u):=fun i hi=>by
  have h3:=congrArg (fun z=>Nat.testBit z i) hz;simp only[V3]at h3;rw[lP S64,hi]at h3;cases hb:(bA d u).testBit i with
  |true=>rfl
  |false=>rw[hb]at h3;cases h3
 rw[hz]at s2;have hK:=hK u hu' hm hS;obtain⟨x,y,gx,hx,hX⟩:=mB (S:=eo d r u S) (D:=d.nl ^ d.C.length) g5.1;simp only[go_sem,s2];refine W.sq ?_;simp only[go_sem,l12];refine ao.X (yK d hf V H2 _ (fun h=>absurd (he.symm.trans h) ZE) (fun _ h=>absurd he h) fun r' hr' _ _=>⟨trivial,?_⟩);obtain rfl:r=r':=Option.some.inj ((ti hok hro).symm.trans hr');have w1:=fun (H3:ZH) (ho:ZM H2 H3)=>Ds hok h5 hro hm hS H3 ((ho.nf _ V).trans gs) (by have:=ho.A;omega);rw[hc]at w1 ⊢;rw[hx]at w1 hK;simp only[go_sem];obtain⟨H3,hH3⟩:∃H3,H3=ext H2 [.J 0 58 [.lit (.int .i64 c),.lit (.int .i64 e)]]:=⟨_,rfl⟩
 have o3:ZM H2 H3:=hH3▸.ext _ _
 have l3:=ah (show H3.get H2.A=some (.J 0 58 [.lit (.int .i64 c),.lit (.int .i64 e)]) by rw[hH3];exact cH ..);have l23:=ah ((o3.nf _ V).trans ((o2.nf _ V).trans g2));rw[<- hH3];clear hH3;refine W.sq ?_;simp only[go_sem];refine W.vs ?_;simp only[go_sem,l3];refine ao.X (w1 H3 o3 _ ⟨trivial,?_⟩);simp only[go_sem,l23];exact ak.bB aF hcl (ZM.upd (id:=H.A+1) (o1.trans (o2.trans o3)) (Xu _) _) (zp x y 0) hK
def qZ (hok:ZP d)(h5:d.C.length<=5)(hro:ZX d [2])(S64:S<2 ^ 64)(hS:Sub S (bA d 2))(hw:dM (eo d [2] 2 S) (d.nl ^ d.C.length)=.agg [aa n,aa m])(H:ZH)(K:ZN->ZH->Prop)(hK:K (.ret (.lit (.bool true))) H):
  ae prog G0 50 [dh d,aM S,aa n,aa m] H K:=by
 refine ae.X ⟨_,func50,rfl,rfl⟩ fun hcl=>?_;have zS:dV S (bA d 2)=0:=VP fun i=>by
  rw[lP S64,V3];cases hb:S.testBit i with
  |false=>rfl
  |true=>rw[hS i hb];rfl
 have eq:∀o1 o2,aV prog .eql 58 o1 o2 (.agg [.lit (.int .i64 n),.lit (.int .i64 m)]) (.agg [.lit (.int .i64 n),.lit (.int .i64 m)])=some (.lit (.bool true)):=fun o1 o2=>by rw[MM];simp
 refine ae.sw (n:=26) (rs:=[.tmp 8]) func50 ?_;refine W.sq ?_;simp only[go_sem,ij,c9];have l1:(ext H [.J 0 38 [.lit (.int .i64 d.nl),.Q d.C.length (aI d.C),.lit (.int .u64 (d.Y:Int)),.Q d.Z.length (bt d.Z)]]).na H.A 0=some (38,_):=ah (cH ..);refine W.sq ?_;simp only[go_sem,l1];refine ao.X (vz hok h5 hro 2 S64 _ _ (fun h=>absurd (by simp[aH]) h) (fun u hu _ h=>?_) fun u hu _ _=>⟨trivial,?_⟩)
 ·obtain rfl:u=2:=V
  exact absurd zS h
 obtain rfl:u=2:=V
 rw[hw];simp only[go_sem];refine W.vs ?_;simp only[go_sem,eq];exact ak.bB aF hcl (.ext _ _) (.lit _) hK
def tv {want:Nat}{no:Int}(hn:-9223372036854775808<=n/\n<=9223372036854775807)(hm:-9223372036854775808<=m/\m<=9223372036854775807)
  (hF:F01.bz n m≠0->want=0/\no=F01.bz n m) (hA:F01.bz n m=0->n<0->want=0/\no=2) (hN:F01.bz n m=0->0<=n->eQ dU [2] 2 n m (bA dU 2)=false->want=0/\no=4)
  (hG:F01.bz n m=0->0<=n->eQ dU [2] 2 n m (bA dU 2)=true->want=((fE (bA dU 2)).find? (eQ dU [2] 2 n m)).getD 0/\no=0) (H:ZH) (K:ZN->ZH->Prop) (hK:K (.ret (.lit (.bool true))) H):
  ae prog G0 33 [aa n,aa m,aM want,aa no] H K:=by
 refine ae.X ⟨_,func33,rfl,rfl⟩ fun hcl=>?_;have fin:∀(a:Nat) (e:Int),want=a/\no=e->ae prog G0 23 [dh dU,aa 2,.agg [aa n,aa m]] H (fun r H'=>r=.ret (.nc [aM a,aa e])/\H'=H)->ae prog G0 23 [dh dU,aa 2,.agg [aa n,aa m]] H (fun r H'=>r=.ret (.nc [aM want,aa no])/\H'=H):=fun a e h hc=>by rw[h.1,h.2];exact hc
 have main:ae prog G0 23 [dh dU,aa 2,.agg [aa n,aa m]] H (fun r H'=>r=.ret (.nc [aM want,aa no])/\H'=H) :=
  DE kY ZE kZ m2 hn hm H _ (fun h=>by rw[(hF h).1,(hF h).2];exact⟨rfl,rfl⟩) (fun h h2=>by rw[(hA h h2).1,(hA h h2).2];exact⟨rfl,rfl⟩) (fun h h2 h3=>by rw[(hN h h2 h3).1,(hN h h2 h3).2];exact⟨rfl,rfl⟩) fun S h h2 h3 h4=>by rw[(hG h h2 h3).1,(hG h h2 h3).2,h4];exact⟨rfl,rfl⟩
 refine ae.sw (n:=27) (rs:=[.tmp 8]) func33 ?_;refine W.sq ?_;simp only[go_sem];refine W.sq ?_;simp only[go_sem];refine ao.X (DK H _ ⟨trivial,?_⟩);simp only[go_sem];refine ao.X (main.mono ?_);rintro rr H' ⟨rfl,rfl⟩;refine⟨trivial,?_⟩;unfold aM;simp only[go_sem];refine W.vs ?_;simp only[go_sem];exact ak.bB aF hcl (.refl _) (.lit _) hK
def q7:dU.C.length<=5:=ZE
def P9:((fE (bA dU 2)).find? (eQ dU [2] 2 1 1)).getD 0=1:=ZF
def Qa:((fE (bA dU 2)).find? (eQ dU [2] 2 10 1)).getD 0=1:=ZF
def Qb:eQ dU [2] 2 1 1 (bA dU 2)=true:=ZF
def Qc:eQ dU [2] 2 10 1 (bA dU 2)=true:=ZF
def Qd:eQ dU [2] 2 22 1 (bA dU 2)=false:=ZF
def Qe (H:ZH)(K:ZN->ZH->Prop)(hK:K (.ret (.lit (.bool true))) H):ae prog G0 19 [] H K:=by
 refine ae.X ⟨_,func19,rfl,rfl⟩ fun hcl=>?_;refine ae.sw (n:=90) (rs:=[.tmp 0]) func19 ?_;refine W.sq ?_;simp only[go_sem];refine W.sq ?_;simp only[go_sem];refine ao.X (DK H _ ⟨trivial,?_⟩);simp only[go_sem,ij,c9];obtain⟨H1,hH1⟩:∃H1,H1=ext H [.J 0 38 [.lit (.int .i64 dU.nl),.Q dU.C.length (aI dU.C),.lit (.int .u64 (dU.Y:Int)),.Q dU.Z.length (bt dU.Z)]]:=⟨_,rfl⟩
 have g1:=dI hH1
 have n1:H1.A=H.A+1:=hH1▸rfl
 have o1:ZM H H1:=hH1▸.ext _ _
 rw[<- hH1];clear hH1;have l1:=ah g1;refine W.sq ?_;simp only[go_sem,l1];refine ao.X (Du kY kZ m2 H1 _ ⟨trivial,?_⟩);rw[zr];simp only[go_sem];refine W.sq ?_;simp only[go_sem,l1];have hs:=fun (K:ZN->ZH->Prop) (h:K (.ret (.nc [dh dX,aa 0])) H1)=>PL kY ZE kZ m2 (pE 2 ZE) H1 K h;refine ao.X (hs _ ⟨trivial,?_⟩);clear hs;simp only[go_sem,ij,c9];obtain⟨H2,hH2⟩:∃H2,H2=ext H1 [.J 0 38 [.lit (.int .i64 dX.nl),.Q dX.C.length (aI dX.C),.lit (.int .u64 (dX.Y:Int)),.Q dX.Z.length (bt dX.Z)]]:=⟨_,rfl⟩
 have g4:=dI hH2
 have n2:H2.A=H1.A+1:=hH2▸rfl
 have o2:ZM H1 H2:=hH2▸.ext _ _
 rw[<- hH2];clear hH2;have l12:=ah ((o2.nf _ V).trans g1);refine W.sq ?_;simp only[go_sem,l12];refine ao.X (vz kY q7 kZ 0 (S:=0) ZE H2 _ (fun _=>⟨trivial,?_⟩) (fun u h1 h2 _=>absurd h2 (by simp;omega)) fun u h1 h2 _=>absurd h2 (by simp;omega));simp only[go_sem];obtain⟨H3,hH3⟩:∃H3,H3=ext H2 [.J 0 58 [.lit (.int .i64 0),.lit (.int .i64 0)]]:=⟨_,rfl⟩
 have o3:ZM H2 H3:=hH3▸.ext _ _
 have n3:H3.A=H2.A+1:=hH3▸rfl
 rw[<- hH3];clear hH3;have l13:=ah ((o3.nf _ V).trans ((o2.nf _ V).trans g1));refine W.sq ?_;simp only[go_sem,l13];refine ao.X (vz kY q7 kZ 2 (S:=4) ZE H3 _ (fun h=>absurd (by simp[aH]) h) (fun u h1 h2 _=>⟨trivial,?_⟩) fun u h1 h2 h=>by
  obtain rfl:u=2:=V
  have:=h 2 ZE;rw[zr]at this;exact absurd this ZE)
 simp only[go_sem];obtain⟨H4,hH4⟩:∃H4,H4=ext H3 [.J 0 58 [.lit (.int .i64 0),.lit (.int .i64 0)]]:=⟨_,rfl⟩
 have o4:ZM H2 H4:=by rw[hH4];exact o3.trans (.ext _ _)
 rw[<- hH4];clear hH4;have l14:=ah ((o4.nf _ V).trans ((o2.nf _ V).trans g1));have l44:=ah ((o4.nf _ V).trans g4);have oH:ZM H H4:=(o1.trans o2).trans o4;refine W.en (fun E=>E 1=.O H.A 0 0 /\ E 2=.lit (.int .u64 3) /\ E 3=aa 0 /\ E 4=.O H1.A 0 0 /\ E 5=aa 0 /\ E 7=aa 2 /\ E 9=aa 2) (by simp only[go_sem]) fun E ⟨e1,e2,e3,e4,e5,e7,e9⟩=>?_
 refine W.sq ?_;simp only[go_sem,e1,e2,e3,e5,e7,e9,l14];refine ao.X (qZ kY q7 kZ ZE (pE 0 ZE) PV H4 _ ⟨trivial,?_⟩);simp only[go_sem,e1,l14];refine ao.X (qZ kY q7 kZ ZE (pE 2 ZE) PX H4 _ ⟨trivial,?_⟩);simp only[go_sem,e1,l14];refine ao.X (qZ kY q7 kZ ZE (pE 1 ZE) PW H4 _ ⟨trivial,?_⟩);simp only[go_sem,e1,l14];refine ao.X (qZ kY q7 kZ ZE (pE 3 ZE) PY H4 _ ⟨trivial,?_⟩);simp only[go_sem,e4,l44];refine ao.X (qZ DG DJ DH ZE (DI 2 ZE) P0 H4 _ ⟨trivial,?_⟩);simp only[go_sem,e4,l44];refine ao.X (qZ DG DJ DH ZE (DI 1 ZE) P8 H4 _ ⟨trivial,?_⟩);simp only[go_sem];refine W.env fun E2 hE=>?_;have f10:E2 10=.lit (.bool true):=by rw[hE];simp only[go_sem]
 clear hE e1 e2 e3 e4 e5 e7 e9;have c11:F01.bz 1 1=0:=ZE
 have c101:F01.bz 10 1=0:=ZE
 refine W.vs ?_;simp only[go_sem,f10];refine ao.X (tv (n:=1) (m:=1) (want:=1) (no:=0) ZE ZE (fun h=>absurd ZE h) (fun _ h=>absurd h ZE) (fun _ _ h=>absurd (Qb.symm.trans h) ZE) (fun _ _ _=>⟨P9.symm,rfl⟩) H4 _ ⟨trivial,?_⟩);simp only[go_sem];refine ao.X (tv (n:=10) (m:=1) (want:=1) (no:=0) ZE ZE (fun h=>absurd ZE h) (fun _ h=>absurd h ZE) (fun _ _ h=>absurd (Qc.symm.trans h) ZE) (fun _ _ _=>⟨Qa.symm,rfl⟩) H4 _ ⟨trivial,?_⟩);simp only[go_sem];refine ao.X (tv (n:=22) (m:=1) (want:=0) (no:=4) ZE ZE (fun h=>absurd ZE h) (fun _ h=>absurd h ZE) (fun _ _ _=>⟨rfl,rfl⟩) (fun _ _ h=>absurd (Qd.symm.trans h) ZE) H4 _ ⟨trivial,?_⟩);simp only[go_sem];refine ao.X (tv (n:=-1) (m:=1) (want:=0) (no:=2) ZE ZE (fun h=>absurd ZE h) (fun _ _=>⟨rfl,rfl⟩) (fun _ h=>absurd h ZE) (fun _ h=>absurd h ZE) H4 _ ⟨trivial,?_⟩);simp only[go_sem];refine ao.X (tv (n:=2) (m:=4) (want:=0) (no:=5) ZE ZE (fun _=>⟨rfl,ZE⟩) (fun h=>absurd h ZE) (fun h=>absurd h ZE) (fun h=>absurd h ZE) H4 _ ⟨trivial,?_⟩);simp only[go_sem];exact ak.bB aF hcl oH (.lit _) hK
def Qf (d:ZK)(a:Int)(h:ae prog G0 f [dh d,aa a] H K):ae prog G0 f [lE d,aa a] H K :=
 ae.AP (args':=[dh d,aa a]) aF rfl (fun i hi _=>match i,hi with|0,_=>zK d|1,_=>.lit _) h
def Qg (d:ZK)(a:Int)(S:Nat)(h:ae prog G0 f [dh d,aa a,aM S] H K):ae prog G0 f [lE d,aa a,aM S] H K :=
 ae.AP (args':=[dh d,aa a,aM S]) aF rfl (fun i hi _=>match i,hi with|0,_=>zK d|1,_=>.lit _|2,_=>.lit _) h
def Qh {x:ZK}(h:DrI true x):∃r,ZX x r:=by
 obtain⟨r,hr⟩:=VJ.1 (MR h);exact⟨r,tI hr⟩
def Qi (h:ZX d r)(hu:u∈aG d):u∈r:=by
 have h2:=(bL.1 hu).2;rw[<- h.all]at h2;exact lG.1 h2
def Qj (S M:Nat):Sub (S &&& M) M:=fun i hi=>by
 rw[Wa,VI]at hi;exact hi.2
def Qk (hM:M<2 ^ 64):S &&& M<2 ^ 64:=W5 Nat.and_le_right hM
def nnj.nn {S D a b g:Int}(h:nnj S D a b g)(hS:0<=S):0<=a:=by
 rcases Zn a 0 with h1|h1
 ·have:=Int.mul_neg_of_neg_of_pos h1 (show 0<g by have:=h.g1;omega);rw[h.n]at this;omega
 ·exact h1
def DL {x:ZK}(hok:ZP x)(h5:x.C.length<=5)(hro:ZX x r)(hu:u∈r)(S64:S<2 ^ 64)(hS:Sub S (bA x u))(H:ZH)(K:ZN->ZH->Prop)(hK:K (.ret (.nc [dM (eo x r u S) (x.nl ^ x.C.length),aa 0])) H):
  ae prog G0 20 [lE x,aa u,aM S] H K:=by
 have zS:dV S (bA x u)=0:=VP fun i=>by
  rw[lP S64,V3];cases hb:S.testBit i with
  |false=>rfl
  |true=>rw[hS i hb];rfl
 refine Qg x u S (vz hok h5 hro u S64 H K (fun h=>absurd (mQ.2 hu) h) (fun u' h1 _ h=>?_) fun u' h1 _ _=>?_)
 ·obtain rfl:u=u':=V
  exact absurd zS h
 ·obtain rfl:u=u':=V
  exact hK
def sub_le (h:Sub p M):p<=M:=by
 have e:p &&& M=p:=VP fun i=>by
  rw[Wa];cases hb:p.testBit i with
  |false=>rfl
  |true=>rw[h i hb];rfl
 have:=Nat.and_le_right (n:=p) (m:=M);omega
def Qo (h:Sub p M):cL p<=cL M:=by
 unfold cL;rw[<- Y1,<- Y1];exact Zk fun x _ hx=>h x hx
def DS (h64:S<2 ^ 64)(h:Sub S M):dV S M=0:=VP fun i=>by
 rw[lP h64,V3];cases hb:S.testBit i with
 |false=>rfl
 |true=>rw[h i hb];rfl
def Qp {k:Nat}(h:S∈dK M k p):cL S<k\/(cL S=k/\S<p):=by
 unfold dK at h;rcases VC.1 h with h|h
 ·obtain⟨j,hj,h⟩:=List.mem_flatMap.1 h;have h2:=(WO.1 h).2;unfold hZ at h2;rw[VI,WW,WW]at h2;have:=Vp.1 hj;omega
 ·have h1:=Vp.1 (WO.1 h).1;have h2:=(WO.1 h).2;unfold hZ at h2;rw[VI,WW,WW]at h2;exact .inr ⟨h2.2,h1⟩
def DT (hM:M<2 ^ 64)(hp:Sub p M){P:Nat->Bool}(hP:P p=true):∃S,(fE M).find? P=some S/\P S=true/\Sub S M/\(cL S<cL p\/(cL S=cL p/\S<=p)):=by
 have hle:=sub_le hp;have hpart:hZ M (cL p) p=true:=by
  unfold hZ;rw[VB (DS V hp),VB rfl];rfl
 obtain⟨t,ht⟩:=Dz (Qo hp) (show p+1<=M+1 by omega);rw[zq hpart]at ht;have hf:∃S,(fE M).find? P=some S/\S∈dK M (cL p) p++[p]:=by
  have h1:((dK M (cL p) p++[p]).find? P).isSome=true:=by
   rw[List.find?_isSome];exact⟨p,ZD,hP⟩
  obtain⟨S,hS⟩:=VJ.1 h1;exact⟨S,by rw[ht,List.find?_append,hS];rfl,XS hS⟩
 obtain⟨S,h1,h2⟩:=hf;refine⟨S,h1,Y7 h1,DD (XS h1) hM,?_⟩;rcases VC.1 h2 with h|h
 ·rcases Qp h with h|h
  ·exact .inl h
  ·exact .inr ⟨h.1,V⟩
 ·obtain rfl:=List.mem_singleton.1 h;exact .inr ⟨rfl,ZG⟩
def DU {x y g W D:Int}(h:nnj W D x y g):(0<=R01.cG (x*m) (n*y))↔n*D<=W*m:=DA h
def Qq (d:ZK)(a n m:Int)(h:ae prog G0 f [dh d,aa a,.agg [aa n,aa m]] H K):ae prog G0 f [lE d,aa a,.agg [aa n,aa m]] H K :=
 ae.AP (args':=[dh d,aa a,.agg [aa n,aa m]]) aF rfl (fun i hi _=>match i,hi with
  |0,_=>zK d
  |1,_=>.lit _
  |2,_=>.agg rfl fun i hi _=>match i,hi with
   |0,_=>.lit _
   |1,_=>.lit _) h
structure U2 where
 a:Int
 b:Int
def U2.cells (x:U2):List ZI:=[.lit (.int .u8 x.a),.lit (.int .u8 x.b)]
def U2.Ok (x:U2):Prop:=U8 x.a/\U8 x.b
def Qr (d:D20)(hd:d.Ok)(kk:Int)(hkk:U8 kk)(q2:U2)(hq2:q2.Ok)(n:Int)(hn:0<=n/\n<18446744073709551616)(H:ZH)(K:ZN->ZH->Prop)(hK:∀H',H.A<=H'.A->K (.ret (.lit (.bool true))) H'):
  ae prog G0 8 [.agg d.cells,.lit (.int .u8 kk),.agg q2.cells,.lit (.int .u64 n)] H K:=by
 have hd':D20.Ok ⟨d.g,d.ps,d.ord,d.Y,true,d.us⟩:=⟨hd.g,hd.ps,hd.pl,hd.ol,hd.o8,hd.Y,hd.us,hd.ul⟩
 obtain⟨N,rfl⟩:=Vk hn.1;have N64:N<2 ^ 64:=V
 obtain⟨h20,h21⟩:=hq2;refine ae.sw (n:=145) (rs:=[.tmp 8]) func8 ?_;refine W.sq ?_;simp only[go_sem,D20.cells,U2.cells];refine W.sq ?_;simp only[go_sem];refine ao.X (Qe _ _ ⟨trivial,?_⟩);simp only[go_sem];refine W.sq ?_;simp only[go_sem];obtain⟨H1,hH1⟩:∃H1,H1=ext H [.J 0 28 [.lit (.int .u8 d.g),.Q d.ps.length (gD d.ps),.Q d.ord.length (cI d.ord),.lit (.int .u8 d.Y),.lit (.bool true),.Q d.us.length (mZ d.us)],.J 0 63 [.lit (.int .u8 q2.a),.lit (.int .u8 q2.b)]]:=⟨_,rfl⟩
 have g4:=dI hH1
 have g6:=gE hH1 1 rfl
 have n1:H1.A=H.A+2:=hH1▸rfl
 rw[<- hH1];clear hH1;have l4:=ah g4;refine W.sq ?_;simp only[go_sem,l4];refine ao.X (Rn ⟨d.g,d.ps,d.ord,d.Y,true,d.us⟩ hd' _ _ fun x hx=>⟨trivial,?_⟩);have hok:=hx.ok;have hf:=pM hok;have n8:=hok.n.n1;have h5:=hx.n5;have gp:=tt hok h5;obtain⟨r,hro⟩:=Qh hx;simp only[go_sem,RK,zW];obtain⟨H2,hH2⟩:∃H2,H2=ext H1 [.J 0 38 [.lit (.int .i64 x.nl),.Q x.C.length (bh x.C),.lit (.int .u64 (x.Y:Int)),.Q x.Z.length (bt x.Z)]]:=⟨_,rfl⟩
 have g9:=dI hH2
 have o2:ZM H1 H2:=hH2▸.ext _ _
 have n2:H2.A=H1.A+1:=hH2▸rfl
 rw[<- hH2];clear hH2;have l9:=ah g9;have l6:=ah ((o2.nf _ V).trans g6);refine W.sq ?_;simp only[go_sem,l9];refine ao.X (RM x hf.Y V _ _ ⟨trivial,?_⟩);have dl:(aH (aG x)).length=(aG x).length:=by simp[aH]
 have dll:(aG x).length<=x.C.length:=pH;simp only[go_sem,dl];by_cases h0:((aG x).length:Int)=0
 ·refine W.sq ?_;simp only[go_sem,h0];exact ak.mk V (hK _ V)
 obtain⟨kn,rfl⟩:=Vk hkk.1;obtain⟨i,hi⟩:∃i,i=kn % (aG x).length:=⟨_,rfl⟩
 have hil:i<(aG x).length:=by rw[hi];exact XX _ (V)
 obtain⟨u,hu⟩:=ay hil;have hum:=Qi hro (Va hu);have hul:u<x.C.length:=(bL.1 (Va hu)).1;have hui:(aH (aG x))[i]?=some (u:Int):=by unfold aH;rw[List.getElem?_map,hu];rfl
 have hune:=bd hui;have hk8:=hkk.2;have wk:=Vb (kn:Int) V;have tm:((kn:Int)).tmod ((aG x).length:Int)=(i:Int):=by rw[VS V,hi];rfl
 have wi:=Vb (i:Int) V;have hli:(i:Int)<(aG x).length:=V
 refine W.sq ?_;simp only[go_sem,h0];refine W.sq ?_;simp only[go_sem,h0,wk,tm,hli,hui,hune];obtain⟨A,hAe⟩:∃A,A=q2.a.tmod 40:=⟨_,rfl⟩
 obtain⟨B,hBe⟩:∃B,B=q2.b.tmod 8:=⟨_,rfl⟩
 have hA1:0<=A/\A<40:=by rw[hAe,VS h20.1];exact⟨XL _ ZE,W7 _ ZE⟩
 have hB1:0<=B/\B<8:=by rw[hBe,VS h21.1];exact⟨XL _ ZE,W7 _ ZE⟩
 have wA8:=Yx A V;have wB8:=Yx B V;have wA:=Vb A V;have wB:=Vb B V;have wB1:=Vb (1+B) V;obtain⟨an,am,ag,ham,hAm⟩:=mB (S:=A) (D:=1+B) V;obtain⟨ab1,ab2⟩:=hAm.bound;have am1:=hAm.b1;have an0:=hAm.nn hA1.1;have ckA:F01.bz an am=0:=F01.tp V V hAm.cop;refine W.sq ?_;simp only[go_sem,l6,<- hAe,<- hBe,wA,wB,wB1];refine ao.X (R01.Sd A (1+B) V V H2 _ ⟨trivial,?_⟩);rw[ham];simp only[go_sem];obtain⟨H3,hH3⟩:∃H3,H3=ext H2 [.J 0 58 [.lit (.int .i64 an),.lit (.int .i64 am)]]:=⟨_,rfl⟩
 have o3:ZM H2 H3:=hH3▸.ext _ _
 have n3:H3.A=H2.A+1:=hH3▸rfl
 have g12:=dI hH3
 rw[<- hH3];clear hH3;have l12:=ah g12;have g93:=(o3.nf _ V).trans g9;have l93:=ah g93;refine W.en (fun E=>E 3=.lit (.int .u64 (N:Int)) /\ E 9=.O H1.A 0 0 /\ E 11=aa u /\ E 12=.O H2.A 0 0) (by simp only[go_sem]) fun E ⟨e3,e9,e11,e12⟩=>?_
 obtain⟨O,hO⟩:∃O,O=bA x u:=⟨_,rfl⟩
 have O256:=DC hok u;have ho:=fun (H:ZH) (K:ZN->ZH->Prop) h=>Qf x u (Du hok hro hum H K h);rw[<- hO]at O256 ho;have O64:O<2 ^ 64:=V
 refine W.sq ?_;simp only[go_sem,e9,e11,l93];refine ao.X (ho H3 _ ⟨trivial,?_⟩);simp only[go_sem];refine W.en (fun E2=>E2 3=.lit (.int .u64 (N:Int)) /\ E2 9=.O H1.A 0 0 /\ E2 11=aa u /\ E2 12=.O H2.A 0 0 /\ E2 13=.lit (.int .u64 (O:Int)) /\ E2 14=aa 0) (by simp only[go_sem,e3,e9,e11,e12]) fun E2 ⟨f3,f9,f11,f12,f13,f14⟩=>?_
 have hl:∀(H:ZH) (K:ZN->ZH->Prop),(∀(S:Nat) (e:Int),(e=4/\eQ x r u an am O=false)\/(e=0/\eQ x r u an am O=true/\S=((fE O).find? (eQ x r u an am)).getD 0)->K (.ret (.nc [aM S,aa e])) H)->ae prog G0 23 [lE x,aa u,.agg [aa an,aa am]] H K:=fun H K h =>
  Qq x u an am (DE hok h5 hro hum V V H K (fun hc=>absurd ckA hc) (fun _ hc=>absurd hc V) (fun _ _ he=>h 0 4 (.inl ⟨rfl,by rw[hO];exact he⟩)) fun S _ _ he hS=>h S 0 (.inr ⟨rfl,by rw[hO];exact he,by rw[hO];exact hS⟩))
 refine W.sq ?_;simp only[go_sem,f9,f11,f12,l93,l12];refine ao.X (hl H3 _ fun S e hp=>⟨trivial,?_⟩);simp only[go_sem];have sub:∀S,Sub (S &&& O) (bA x u):=fun S=>by rw[hO];exact Qj S _
 have z1:=fun t p q=>nJ (P:=prog) (t:=t) (x:=p) (y:=q) N64 O64;obtain⟨T,hT⟩:∃T,T=N &&& O:=⟨_,rfl⟩
 have hTO:Sub T (bA x u):=by rw[hT];exact sub N
 have T64:T<2 ^ 64:=by rw[hT];exact Qk O64
 rw[<- hT]at z1;have bnd:∀S,Sub S (bA x u)->(eo x r u S).natAbs<=4611686018427387903:=fun S hS=>by
  have t1:=qX hok hro;have t2:=qX (qS hok hro hum hS) (qT hok hro hum hS);have gd:(bw x r u S).nl ^ (bw x r u S).C.length=x.nl ^ x.C.length:=by rw[iC];rfl
  rw[gd]at t2;have hw:eo x r u S=eM (bw x r u S) r-eM x r:=rfl;omega
 have bT:=bnd _ hTO;have vT:=fun H K h=>DL hok h5 hro hum T64 hTO H K h;obtain⟨pa,qa,ga,ha,hA⟩:=mB (S:=eo x r u T) (D:=x.nl ^ x.C.length) gp.1;rw[ha]at vT;have ca:=hA.check bT V;obtain⟨bd1,bd2⟩:=hA.bound;have qa1:=hA.b1;have geT:=DU (n:=an) (m:=am) hA;have enT:eQ x r u an am T=true↔an*x.nl ^ x.C.length<=eo x r u T*am:=WW;refine W.sq ?_;simp only[go_sem,f3,f13,z1];refine W.sq ?_;simp only[go_sem,f9,f11,l93];refine ao.X (vT H3 _ ⟨trivial,?_⟩);simp only[go_sem];obtain⟨H4,hH4⟩:∃H4,H4=ext H3 [.J 0 58 [.lit (.int .i64 pa),.lit (.int .i64 qa)]]:=⟨_,rfl⟩
 have o4:ZM H3 H4:=hH4▸.ext _ _
 have n4:H4.A=H3.A+1:=hH4▸rfl
 have l17:=ah (show H4.get H3.A=some (.J 0 58 [.lit (.int .i64 pa),.lit (.int .i64 qa)]) by rw[hH4];exact cH ..);rw[<- hH4];clear hH4;have g124:=(o4.nf _ V).trans g12;have l124:=ah g124;have g94:=(o4.nf _ V).trans g93;have l94:=ah g94;refine W.en (fun E3=>E3 3=.lit (.int .u64 (T:Int)) /\ E3 9=.O H1.A 0 0 /\ E3 11=aa u /\ E3 12=.O H2.A 0 0 /\ E3 13=.lit (.int .u64 (O:Int)) /\ E3 14=aa 0 /\ E3 15=.lit (.int .u64 (S:Int)) /\ E3 16=aa e /\ E3 17=.O H3.A 0 0 /\ E3 18=aa 0) (by simp only[go_sem,f9,f11,f12,f13,f14]) fun E3 ⟨k3,k9,k11,k12,k13,k14,k15,k16,k17,k18⟩=>?_
 refine W.sq ?_;simp only[go_sem,k14,k17,k18,l17];refine ao.X (R01.Gf pa qa (by unfold R01.eV;omega) (by unfold R01.eV;omega) H4 _ ⟨trivial,?_⟩);rw[VB ca];simp only[go_sem];refine W.sq ?_;simp only[go_sem,k12,k17,l17,l124];refine ao.X (R01.Gg pa qa an am (by unfold R01.eV;omega) (by unfold R01.eV;omega) (by unfold R01.eV;omega) (by unfold R01.eV;omega) qa1 am1 H4 _ ⟨trivial,?_⟩);rw[<- enT]at geT;generalize R01.cG (pa*am) (an*qa)=cc at geT;rcases hp with ⟨rfl,hen⟩|⟨rfl,hen,hS⟩
 ·have hno:¬(0<=cc):=fun h=>by
   have h1:=geT.1 h;have h2:eQ x r u an am O=true:=by
    have h3:an*x.nl ^ x.C.length<=eo x r u T*am:=enT.1 h1;have h4:eo x r u T<=eo x r u O:=Pm hok hro hum (fun i h=>by rw[<- hO];exact h) (by rw[hO];exact hTO);have h5:eo x r u T*am<=eo x r u O*am:=WK h4 V;exact VB (V)
   rw[hen]at h2;cases h2
  simp only[go_sem,hno];refine W.sq ?_;simp only[go_sem,k16];exact ak.mk V (hK _ V)
 have hOO:Sub O O:=fun i h=>h;obtain⟨S0,y1,y2,y3,_⟩:=DT O64 hOO hen;obtain rfl:S=S0:=by rw[hS,y1];rfl
 have hSO:Sub S (bA x u):=by rw[<- hO];exact y3
 have S256:S<256:=by have:=sub_le y3;omega
 have T256:T<256:=by have:=sub_le hTO;rw[<- hO]at this;omega
 have bS:=bnd _ hSO;have vS:=fun H K h=>DL hok h5 hro hum (show S<2 ^ 64 by omega) hSO H K h;obtain⟨ps,qs,gs,hs,hSF⟩:=mB (S:=eo x r u S) (D:=x.nl ^ x.C.length) gp.1;rw[hs]at vS;have cS:=hSF.check bS V;obtain⟨bd3,bd4⟩:=hSF.bound;have qs1:=hSF.b1;have geS:=(DU (n:=an) (m:=am) hSF).2 (of_decide_eq_true y2);have geS2:¬R01.cG (ps*am) (an*qs)<0:=V
 have zS:=DS (show S<2 ^ 64 by omega) y3;have s2:=fun t x y=>nK (P:=prog) (t:=t) (x:=x) (y:=y) (a:=S) (b:=O);rw[zS]at s2;simp only[go_sem];refine W.sq ?_;simp only[go_sem,k16];refine W.sq ?_;simp only[go_sem,k9,k11,k15,l94];refine ao.X (vS H4 _ ⟨trivial,?_⟩);simp only[go_sem];obtain⟨H5,hH5⟩:∃H5,H5=ext H4 [.J 0 58 [.lit (.int .i64 ps),.lit (.int .i64 qs)]]:=⟨_,rfl⟩
 have o5:ZM H4 H5:=hH5▸.ext _ _
 have n5:H5.A=H4.A+1:=hH5▸rfl
 have l20:=ah (show H5.get H4.A=some (.J 0 58 [.lit (.int .i64 ps),.lit (.int .i64 qs)]) by rw[hH5];exact cH ..);rw[<- hH5];clear hH5;have l125:=ah ((o5.nf _ V).trans g124);refine W.en (fun E4=>E4 3=.lit (.int .u64 (T:Int)) /\ E4 12=.O H2.A 0 0 /\ E4 13=.lit (.int .u64 (O:Int)) /\ E4 15=.lit (.int .u64 (S:Int)) /\ E4 19=.lit (.bool (decide (0<=cc))) /\ E4 20=.O H4.A 0 0 /\ E4 21=aa 0) (by simp only[go_sem,k3,k12,k13,k15]) fun E4 ⟨m3,m12,m13,m15,m19,m20,m21⟩=>?_
 refine W.sq ?_;simp only[go_sem,m20,m21,l20];refine ao.X (R01.Gf ps qs (by unfold R01.eV;omega) (by unfold R01.eV;omega) H5 _ ⟨trivial,?_⟩);rw[VB cS];simp only[go_sem,m12,m20,l20,l125];refine ao.X (R01.Gg ps qs an am (by unfold R01.eV;omega) (by unfold R01.eV;omega) (by unfold R01.eV;omega) (by unfold R01.eV;omega) qs1 am1 H5 _ ⟨trivial,?_⟩);generalize R01.cG (ps*am) (an*qs)=cd at geS2;simp only[go_sem,m13,m15,geS2,s2];refine W.sq ?_;simp only[go_sem,m3];refine ao.X (vv T T256 H5 _ ⟨trivial,?_⟩);simp only[go_sem,m15];refine ao.X (vv S S256 H5 _ ⟨trivial,?_⟩);simp only[go_sem];refine W.vs ?_;by_cases hcc:0<=cc;rotate_left
 ·simp only[go_sem,m19,hcc,kL];exact ak.mk V (hK _ V)
 obtain⟨S1,w1,_,_,w4⟩:=DT (p:=T) O64 (by rw[hO];exact hTO) (geT.1 hcc);obtain rfl:S=S1:=Option.some.inj (y1.symm.trans w1);by_cases hgt:(cL S:Int)<cL T
 ·simp only[go_sem,m19,hcc,hgt,kL];exact ak.mk V (hK _ V)
 have heq:(cL T:Int)=cL S:=V
 have hle:(S:Int)<=T:=V
 have hirr:¬(cL S:Int)<cL S:=V
 simp only[go_sem,m3,m15,m19,hcc,hirr,heq,hle];exact ak.mk V (hK _ V)
end Go.Proofs
namespace Go.Proofs.YtebhdkihcdmmjaaGreat
open Go.ChangeShapes Go.WideShapes Go.ChangeAt Go.RowKit Go.Hx
def Ql {n:Int}(h:(Lit.int .u64 n).wf=true):0<=n/\n<18446744073709551616:=by
 have:0<=n/\n<=18446744073709551615:=by simpa[Lit.wf,IntKind.min,IntKind.max,IntKind.signed,IntKind.bits] using h
 omega
end Go.Proofs.YtebhdkihcdmmjaaGreat
namespace Go.Proofs.YtebhdkihcdmmjaaGreat
open Go.ChangeShapes Go.WideShapes Go.ChangeAt Go.RowKit Go.Hx
section
variable {W:World} {H:Type} {enc:TypeId × Value->H} {spare:Nat->Bool} {held:Bool}
def Qs {r:Reach}{b:Nat}{v:Value}{d:DataW H}{ps:List MemPlace}(hval:Value.okWide Tryz.prog W r b 63 v)(hd:DataW.Trod enc Tryz.prog W 0 spare held 63 v d ps):
  ∃x:U2,ZL Tryz.prog jI cR W (.agg x.cells) v/\x.Ok:=by
 obtain⟨xs,h1,l,rfl,hl,hq⟩:=BM (Ia Tryz.underlying63 Tryz.underlying5 Tryz.qP Tryz.CV) (.inr ⟨_,_,Tryz.underlying63⟩) hval hd
 match l,hl,hq,h1 with
 | [a,b],_,hq,h1=>exact⟨⟨a,b⟩,h1,me (hq a ZD),me (hq b ZD)⟩
end
end Go.Proofs.YtebhdkihcdmmjaaGreat
