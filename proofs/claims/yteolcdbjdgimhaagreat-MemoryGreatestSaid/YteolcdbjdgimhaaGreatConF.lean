/- Own work: contracts. -/
import Derived.Test.YteolcdbjdgimhaaGreatConB
import Derived.Test.YteolcdbjdgimhaaGreatConE
import Derived.WalkKit
import Derived.OwnWalk
import Derived.Lib.Walk
import Derived.Lib.SliceRun
import Derived.Lib.AppendZerosOnto
set_option linter.all false
set_option maxHeartbeats 8000000
set_option maxRecDepth 100000
namespace Go.Hx
variable {P:Program}
variable {l m:List ZK}{lo:Nat}{e:TypeId}{H:ZJ}{u v:ZK}
structure nnc (lo:Nat)(H:ZJ)(e:TypeId)(v:ZK)(l:List ZK)(u:ZK)(m:List ZK):Prop where
 a:aD lo H e v l
 b:aD lo H e u m
 ne:∀i g n g' n',v=.U i g 0 n 1->u≠.U i g' 0 n' 1
def nnc.symm (h:nnc lo H e v l u m):nnc lo H e u m v l:=⟨h.b,h.a,fun i g n g' n' h1 h2=>h.ne i g' n' g n h2 h1⟩
theorem nnc.nil :nnc lo H e (.lit (.slice none 0 0)) [] (.lit (.slice none 0 0)) []:=⟨.nil,.nil,fun _ _ _ _ _ h=>(by cases h)⟩
theorem nnc.nc {H':ZJ}(h:nnc lo H e v l u m)(hn:H.A<=H'.A)(hk:∀id,lo<=id->id<H.A->H'.get id=H.get id):nnc lo H' e v l u m :=
 ⟨h.a.nc ZI hn fun id _ h1 h2 _ _=>hk id h1 h2,h.b.nc ZI hn fun id _ h1 h2 _ _=>hk id h1 h2,h.ne⟩
def nnc.app {n:Nat}{t:TypeId}{x:ZK}{z:List ZK}(ht:P.underlying t=some (.slice e))(hz:P.cellsOf e=1)(hzero:cw P e=some z)(hx:x.one=true)
  (hb:(l.length+1)*P.bytesOf e<=2 ^ 46/\l.length+1<=2 ^ 46) (h:nnc lo H e v l u m) (hlo:lo<=H.A) (hn:n=H.A+1):
  ∃v' H',cr P (ext H [.J 0 e [x]]) n t t v (.U H.A 0 0 1 1)=some (v',H')/\nnc lo H' e v' (l++[x]) u m/\H.A<=H'.A/\(∀k,k<lo->H'.get k=H.get k):=by
 have hsrc:dH (ext H [.J 0 e [x]]) 1 (.U H.A 0 0 1 1)=some (1,[x]):=by
  unfold dH;have:=ae (H:=ext H [.J 0 e [x]]) (g:=0) (cI (b:=.J 0 e [x]));simp[this]
 have hne:(ext H [ZQ.J 0 e [x]]).A=H.A+1:=rfl;obtain⟨ha,hbb,hnn⟩:=h;rcases ha with ⟨rfl,rfl⟩|⟨i,g,h1,h2,rfl,h4⟩
 ·have n2:(ext (ext H [.J 0 e [x]]) [.J 0 e [x]]).A=H.A+2:=rfl;have nb:∀k,k<H.A->(ext (ext H [.J 0 e [x]]) [.J 0 e [x]]).get k=H.get k:=fun k hk=>by rw[aX (by rw[hne];omega),aX hk]
  refine⟨.U (H.A+1) 0 0 1 1,ext (ext H [.J 0 e [x]]) [.J 0 e [x]],?_,⟨.inr ⟨H.A+1,0,O,by rw[n2];omega,ZF,?_⟩,hbb.nc ZI (by rw[n2];omega) fun id _ _ hid _ _=>nb id hid,fun i g n g' n' he hu=>?_⟩,by rw[n2];omega,fun k hk=>nb k O⟩
  ·unfold cr;rw[ht];simp only[hzero,hz,Option.bind_some,hsrc];rw[Vx ZG,VA (by simpa using hb),wB (by rw[hn,hne]),hn];rfl
  ·rw[<- hne];exact cI
  ·have:=(ZK.U.inj he).1;rcases hbb with ⟨rfl,_⟩|⟨j,g2,_,a2,rfl,_⟩
   ·cases hu
   ·have:=(ZK.U.inj hu).1;omega
 ·have h4':(ext H [.J 0 e [x]]).get i=some (.J g e l):=by rw[aX h2];exact h4
  refine⟨.U i (g+1) 0 (l.length+1) 1,(ext H [.J 0 e [x]]).upd i (.J (g+1) e (l++[x])),?_,⟨.inr ⟨i,g+1,h1,by rw[aA,hne];omega,ZF,by rw[af,VA rfl]⟩,hbb.nc ZI (by rw[aA,hne];omega) fun id g3 _ hid _ hu=>?_,fun i' g' n' g'' n'' he hu=>hnn i g l.length g'' n'' rfl (by rw[hu,(ZK.U.inj he).1])⟩,by rw[aA,hne];omega,fun k hk=>?_⟩
  ·unfold cr;rw[ht];have hl:=ae h4';simp only[hzero,hz,Option.bind_some,hsrc,hl];rw[VA ⟨trivial,trivial,O,hb.1,hb.2,by simp[hx]⟩];simp
  ·rw[af,Vx,aX hid];rintro rfl;exact hnn id g l.length g3 _ rfl hu
  ·rw[af,Vx O,aX O]
end Go.Hx

namespace Go.Proofs
open Go.Hx
variable {p:Int × Int}{l:List (Int × Int)}{nl vals:List Int}{j k v:Nat}{d:ZM}
def js (d:ZM)(vals:List Int):List Int:=(List.range d.C.length).map (kv d vals)
def xR (d:ZM)(vals:List Int):(js d vals).length=d.C.length:=by simp[js]
def AR (h:v<d.C.length):(js d vals)[v]?=some (kv d vals v):=by
 unfold js;rw[List.getElem?_map,VT h];rfl
structure RowNo (d:ZM)(x:ZL)(vals:List Int)(v i:Nat)(r:List Int)(a w:Int):Prop where
 idx:bW (aV d.C x) (aK vals x.F)=i
 row:x.na[i]?=some r
 val:vals[v]?=some a
 a0:0<=a
 hw:r[a.toNat]?=some w
 wb:0<=w/\w<=60
 eq:kv d vals v=w
 al:a<r.length
def Gf (hok:ZR d){x:ZL}(hx:d.C[v]?=some x)(hb:¬d.Y.testBit v=true)(hf:bZ (ak d.C) vals):∃i r a w,RowNo d x vals v i r a w:=by
 have hx2:=jm (c:=fun _ _=>0) hx;rw[qW hb]at hx2;obtain⟨i,r,a,w,hR⟩:=xE hok.nA hx2 (vals:=vals) (by rw[lF];exact hf);have hi:=hR.idx;rw[uI]at hi;have hg:=hok.nA.g1;have h60:=hR.wb;refine⟨i,r,a,w,hi,hR.row,hR.val,hR.a0,hR.hw,O,?_,hR.al⟩;unfold kv;rw[Vx hb];unfold mX;rw[hx];simp only;unfold pK;rw[hi,Int.toNat_natCast,bM hR.row,bM hR.val,bM hR.hw]
def Gg (hok:ZR d)(hf:bZ (ak d.C) vals)(hv:v<d.C.length):0<=kv d vals v/\kv d vals v<=60:=by
 obtain⟨x,hx⟩:=ao hv;by_cases hb:d.Y.testBit v=true
 ·unfold kv;rw[VA hb];have:=hok.nA.g1;omega
 ·obtain⟨i,r,a,w,hR⟩:=Gf hok hx hb hf;rw[hR.eq];exact hR.wb
def Gh (hok:ZR d)(hf:bZ (ak d.C) vals)(k:Nat):0<=aj ((js d vals).take k)/\aj ((js d vals).take k)<=167961600000000:=by
 have hb:∀w∈js d vals,0<=w/\w<=60:=fun w hw=>by
  obtain⟨v,hv,rfl⟩:=VI.1 hw;exact Gg hok hf (VP.1 hv)
 have h1:=oa (b:=60) O (l:=(js d vals).take k) fun x hx=>hb x (VU hx);have h2:=uP ((js d vals).take k).length (by have:=hok.n.n1;rw[VK,xR];omega);omega
def dL (d:ZM):List Int:=(List.range (bO d.C)).map fun (i:Nat)=>dR d (wv d i)
def cP (d:ZM):List Int:=(List.range (bO d.C)).map fun (i:Nat)=>dC d (wv d i)
def UB (h:k<bO d.C):(dL d)[k]?=some (dR d (wv d k)):=by unfold dL;rw[List.getElem?_map,VT h];rfl
def tk (h:k<bO d.C):(cP d)[k]?=some (dC d (wv d k)):=by unfold cP;rw[List.getElem?_map,VT h];rfl
def Gi (d:ZM):(dL d).length=bO d.C:=by simp[dL]
def xS (d:ZM):(cP d).length=bO d.C:=by simp[cP]
def Gj {ns:List ZL}{us:List ZY}(hu:∀u∈us,Z8 ns u)(h4:us.length<=4)(vals:List Int):-400<=cq ns us vals/\cq ns us vals<=400:=by
 have b:=qY hu h4 vals us.length;rw[Vy ZI]at b;exact b
def AS (d:ZM)(hok:ZR d)(hD:d.Y<2 ^ 64)(H:ZJ)(K:ZP->ZJ->Prop)(hK:K (.ret (.nf [ah (dL d),ah (cP d)])) H):ag Tryz.prog G0 94 [cM d] H K:=by
 refine ag.Z ⟨_,Tryz.func94,rfl,rfl⟩ fun hcl=>?_;obtain⟨ns,hns⟩:∃ns,ns=d.C:=⟨_,rfl⟩
 have n8:=hok.n.n1;have hcd:=hok.n.L;have hcards:∀c∈ak d.C,1<=c/\c<=4:=fun c hc=>by
  obtain⟨x,hx,rfl⟩:=VI.1 hc;exact hcd x hx
 have sm:dV (ak d.C):=nu (by rw[dk];omega) hcards;have hp:=dY fun c hc=>(hcards c hc).1;have hsz:=sm.prod;have hw:((bO d.C:Nat):Int)=aj (ak d.C):=by unfold bO;omega
 have hu4:=hok.nn.1;have hus:=hok.nn.2;refine ag.st (n:=105) (rs:=[.cell 2 42,.cell 3 42]) Tryz.func94 ?_;simp only[go_sem,fW,bq];refine au.Z (sY d.C O _ _ ⟨trivial,?_⟩);simp only[go_sem];refine au.Z (sU (ak d.C) _ _ ⟨trivial,?_⟩);simp only[go_sem];obtain⟨H2,hH2⟩:∃H2,H2=ext (ext H [.J 0 38 (bq d),.J 0 42 [.lit (.slice none 0 0)],.J 0 42 [.lit (.slice none 0 0)],.J 0 42 [ah (ak d.C)]]) [.J 0 42 [ah (ak d.C)]]:=⟨_,rfl⟩
 have n2:H2.A=H.A+5:=by rw[hH2];rfl
 have o2:ZN H H2:=by rw[hH2];exact(ZN.ext _ _).trans (.ext _ _)
 have g0:H2.get H.A=some (.J 0 38 (bq d)):=by rw[hH2,cW];exact bH H _ 0 (ZF)
 have g1:H2.get (H.A+1)=some (.J 0 42 [.lit (.slice none 0 0)]):=by rw[hH2,cW];exact bH H _ 1 (ZF)
 have g2:H2.get (H.A+2)=some (.J 0 42 [.lit (.slice none 0 0)]):=by rw[hH2,cW];exact bH H _ 2 (ZF)
 have g3:H2.get (H.A+3)=some (.J 0 42 [ah (ak d.C)]):=by rw[hH2,cW];exact bH H _ 3 (ZF)
 have g4:H2.get (H.A+4)=some (.J 0 42 [ah (ak d.C)]):=by rw[hH2,cW];exact bH H _ 4 (ZF)
 refine W.env fun E hE=>?_;have e1:E 1=.M H.A 0 0:=by rw[hE];simp only[go_sem]
 have e2:E 2=.M (H.A+1) 0 0:=by rw[hE];simp only[go_sem]
 have e3:E 3=.M (H.A+2) 0 0:=by rw[hE];simp only[go_sem]
 have e4:E 4=.M (H.A+3) 0 0:=by rw[hE];simp only[go_sem]
 have e20:E 20=.Z 131 [] [.M (H.A+4) 0 0]:=by rw[hE];rfl
 clear hE;unfold bq at hH2;show W _ _ _ _ _ _ ⟨E,ext (ext H [.J 0 38 [.lit (.int .i64 d.X),.Q d.C.length (aG d.C),.lit (.int .u64 (d.Y:Int)),.Q d.nn.length (bj d.nn)],.J 0 42 [.lit (.slice none 0 0)],.J 0 42 [.lit (.slice none 0 0)],.J 0 42 [ah (ak d.C)]]) [.J 0 42 [ah (ak d.C)]]⟩;rw[<- hH2];have hit:=sT (ak d.C) (fun c hc=>(hcards c hc).1) sm (H.A+4) (H2.A+1) O;refine W.tu (f:=131) (first:=[]) (cap:=[.M (H.A+4) 0 0]) (by show E 20=_;exact e20) hit
  (fun k Hx=>H2.A<Hx.A/\(∀id,id<H2.A->id≠H.A+1->id≠H.A+2->Hx.get id=H2.get id)/\∃v u,Hx.get (H.A+1)=some (.J 0 42 [v])/\Hx.get (H.A+2)=some (.J 0 42 [u])/\nnc (H2.A+2) Hx 3 v (ints ((dL d).take k)) u (ints ((cP d).take k)))
  (fun _ _=>False)
  (fun k Hx h=>(h.2.1 _ O O O).trans g4)
  (fun k H1 H3 h hw=>⟨by have:=hw.1;omega,fun id h1 h2 h3=>(hw.2 _ O (by have:=h.1;omega)).trans (h.2.1 id h1 h2 h3),by
   obtain⟨v,u,a1,a2,a3⟩:=h.2.2;exact⟨v,u,(hw.2 _ O (by have:=h.1;omega)).trans a1,(hw.2 _ O (by have:=h.1;omega)).trans a2,a3.nc hw.1 fun id h1 h2=>hw.2 id O h2⟩⟩)
  (fun k Hx h=>h.1)
  (fun k H1 b h=>⟨h.1,fun id h1 h2 h3=>by rw[af,Vx O];exact h.2.1 id h1 h2 h3,by
   obtain⟨v,u,a1,a2,a3⟩:=h.2.2;exact⟨v,u,by rw[af,Vx O];exact a1,by rw[af,Vx O];exact a2,a3.nc ZI fun id h1 h2=>by rw[af,Vx O]⟩⟩)
  (fun _ _ _ h=>h) (fun k H1 b h=>by unfold lH at h ⊢;rw[af,Vx O];exact h)
  (fun b=>⟨by rw[aM];simp,fun id h1 h2 h3=>aX h1,_,_,by rw[aX O];exact g1,by rw[aX O];exact g2,.nil⟩) (ZG)
  (fun x hx=>by
   obtain⟨k,hk⟩:=VG.1 hx;obtain⟨_,rfl⟩:=lG hk;rfl) (fun _ _ _=>trivial) (fun _ _ _=>trivial) (fun k y Hx B Bb hy hj hcs hn hB hBb=>?_) (fun Hx hj hn=>?_) (fun _ hs _=>hs.elim) (fun _ _ hs _=>hs.elim)
 ·obtain⟨hk,rfl⟩:=lG hy;refine W.vs ?_;simp only[go_sem,eZ,bb,fO,V6,Ws,V7,Wb,hB];obtain⟨H3,hH3⟩:∃H3,H3=Hx.upd H2.A Bb:=⟨_,rfl⟩
  rw[<- hH3];obtain⟨st,pd,n',en,ps',as',bo,hBe⟩:=hBb;have n3:H3.A=Hx.A:=by rw[hH3];rfl
  have o3:∀id,id≠H2.A->H3.get id=Hx.get id:=fun id h=>by rw[hH3,af,Vx h]
  have jB:H3.get H2.A=some Bb:=by rw[hH3,af,VA rfl]
  obtain⟨pv,pu,a1,a2,a3⟩:=hj.2.2;have k0:=(o3 _ O).trans ((hj.2.1 H.A O O O).trans g0);have k3:=(o3 _ O).trans ((hj.2.1 (H.A+3) O O O).trans g3);have k1:=(o3 _ O).trans a1;have k2:=(o3 _ O).trans a2;have a4:nnc (H2.A+2) H3 3 pv (ints ((dL d).take k)) pu (ints ((cP d).take k)):=a3.nc O fun id h1 h2=>o3 id O;have kN:H3.get (H2.A+1)=some (.J 0 3 (ints (aS (ak d.C) k))):=(o3 _ O).trans hcs;obtain⟨vals,hvals⟩:∃vals,vals=wv d k:=⟨_,rfl⟩
  have hfit:bZ (ak d.C) vals:=by rw[hvals];exact pF (fun c hc=>(hcards c hc).1) _
  have kN2:H3.get (H2.A+1)=some (.J 0 3 (ints vals)):=by rw[hvals];exact kN
  have hvl:vals.length=d.C.length:=by rw[hfit.1,dk]
  unfold bq at k0;refine W.en (fun E1=>E1 1=.M H.A 0 0 /\ E1 2=.M (H.A+1) 0 0 /\ E1 3=.M (H.A+2) 0 0 /\ E1 4=.M (H.A+3) 0 0 /\ E1 6=.U (H2.A+1) 0 0 d.C.length 1) (by simp only[go_sem,bb,e1,e2,e3,e4,dk]) fun E1 ⟨m1,m2,m3,m4,m6⟩=>?_
  have l0:=ae k0;refine W.vs ?_;simp only[go_sem,m1,l0];refine W.aP 576460752236315520 (by rfl) (fun ρ2 H4=>∃v:Nat,ρ2 26=aa v/\v<=d.C.length/\ZN H3 H4/\ρ2 7=aa (aj ((js d vals).take v))) (fun ρ2 H=>d.C.length-(iv (ρ2 26)).toNat) ?_ ?_
  ·simp only[go_sem];exact⟨0,rfl,O,.refl _,by simp[iT]⟩
  rintro ρ2 H4 ⟨v,h26,hv,o4,h7⟩;refine W.en (fun E2=>E2 1=.M H.A 0 0 /\ E2 2=.M (H.A+1) 0 0 /\ E2 3=.M (H.A+2) 0 0 /\ E2 4=.M (H.A+3) 0 0 /\ E2 6=.U (H2.A+1) 0 0 d.C.length 1 /\ E2 7=aa (aj ((js d vals).take v)) /\ E2 24=.Q d.C.length (aG d.C) /\ E2 25=aa d.C.length /\ E2 26=aa v) (by simp only[go_sem,m1,m2,m3,m4,m6,h7,h26]) fun E2 ⟨p1,p2,p3,p4,p6,p7,p24,p25,p26⟩=>?_
  have o4n:=o4.A;have q0:=ae ((o4.nb _ O).trans k0);have gN4:=(o4.nb _ O).trans kN2;refine W.vs ?_;by_cases hb:(v:Int)<d.C.length
  ·obtain⟨x,hx⟩:=ao (l:=d.C) (i:=v) O;have hne:=eT hx;have c0:=qE hx;have c1:v*3+3<=(aG d.C).length:=(by rw[kV];omega);have wt:=Gh hok hfit (v+1);rw[aU (AR (d:=d) (vals:=vals) (v:=v) O),gQ]at wt;have w1:=Vv ((v:Int)+1) O;obtain⟨H5,hH5⟩:∃H5,H5=ext H4 [.J 0 87 [.lit (.int .i64 x.L),.Q x.F.length (ints x.F),aE x.na]]:=⟨_,rfl⟩
   have n5:H5.A=H4.A+1:=(by rw[hH5];rfl);have f0:=ae (show H5.get H.A=some (.J 0 38 [.lit (.int .i64 d.X),.Q d.C.length (aG d.C),.lit (.int .u64 (d.Y:Int)),.Q d.nn.length (bj d.nn)]) by rw[hH5,dM _ _ _ O];exact(o4.nb _ O).trans k0);have f4:=ae (show H5.get H4.A=some (.J 0 87 [.lit (.int .i64 x.L),.Q x.F.length (ints x.F),aE x.na]) by rw[hH5];exact cI);have gN5:H5.get (H2.A+1)=some (.J 0 3 (ints vals)):=(by rw[hH5,dM _ _ _ O];exact gN4);have fN:=ae gN5;have s1:=fun t x y=>nE (P:=Tryz.prog) (t:=t) (x:=x) (y:=y) (k':=.i64) (s:=v) hD;have s2:=fun t x y=>oV (P:=Tryz.prog) (t:=t) (x:=x) (y:=y) (s:=v) hD;cases hbit:d.Y.testBit v
   ·obtain⟨i,r,a,w,hR⟩:=Gf hok hx (by rw[hbit];simp) hfit;obtain⟨a',rfl⟩:=VE hR.a0;rw[hR.eq]at wt;have hxp:cQ x.F d.C.length:=by
     have:=(hok.nA.node _ (an (jm (c:=fun _ _=>0) hx))).2;rw[(jD ..).2,ik]at this;exact this
    have hin:fm x.F d.C.length:=fun q hq=>by have:=hxp.2 q hq;omega
    have hpc:bL Tryz.prog G0 (.Z 98 [] []) [.Q d.C.length (aG d.C),.lit (.int .i64 v),.U (H2.A+1) 0 0 d.C.length 1] H5 (.lit (.int .i64 i)) [H2.A+1]:=by
     have:=sW d.C v x vals hx hin (jK n8.2 hxp hcd) hfit H5 (H2.A+1) d.C.length O gN5 hvl.symm;rw[hR.idx]at this;exact this
    have hri:=hR.row;have hrne:=aO hri;have hrl:(i:Int)<x.na.length:=(by have:=aI hri;omega);have hva:=hR.val;have hra:r[a']?=some w:=(by have:=hR.hw;rw[Int.toNat_natCast]at this;exact this);have hrane:=aO hra;have hal:=hR.al;have w2:=Vv (aj ((js d vals).take v)*w) O;simp only[go_sem,p1,p24,p25,p26,hb,hne,c0,c1];rw[<- hH5];simp only[go_sem,f0,s1,s2,hbit];refine W.dr 16 [0,0,2,0,8,0,0,120,254,510,0,0,3072,7168,16382,32766] Tryz.mixed ?_;simp only[go_sem,p1,p6,p7,f0,f4,aE];refine⟨.lit (.int .i64 i),[H2.A+1],hpc,?_⟩;have hvn:(v:Int)<d.C.length:=hb;simp only[go_sem,p1,p6,p7,p26,fN,hri,hrne,hrl,hra,hrane,hva,hal,hvn,w1,w2];exact⟨O,⟨_,_,_,_,_,_,_,by rw[hH5,dM _ _ _ O,o4.nb _ O,jB,hBe]⟩,⟨v+1,ZF,O,by rw[hH5];exact o4.trans (.ext _ _),by rw[aU (AR (d:=d) (vals:=vals) (v:=v) O),gQ,hR.eq]⟩,by rw[h26];simp only[aa,aZ];omega⟩
   ·have hg:kv d vals v=d.X:=VA hbit;rw[hg]at wt;have w2:=Vv (aj ((js d vals).take v)*d.X) O;simp only[go_sem,p1,p24,p25,p26,hb,hne,c0,c1];rw[<- hH5];simp only[go_sem,p1,p7,p26,f0,s1,s2,hbit,w1,w2];exact⟨O,⟨_,_,_,_,_,_,_,by rw[hH5,dM _ _ _ O,o4.nb _ O,jB,hBe]⟩,⟨v+1,ZF,O,by rw[hH5];exact o4.trans (.ext _ _),by rw[aU (AR (d:=d) (vals:=vals) (v:=v) O),gQ,hg]⟩,by rw[h26];simp only[aa,aZ];omega⟩
  ·rw[Vy (by rw[xR];omega)]at p7;have hgp:aj (js d vals)=dR d vals:=rfl;rw[hgp]at p7;simp only[go_sem,p25,p26,hb,p1,q0];refine W.aP 9903520309671356180765651968 (by rfl) (fun ρ3 H6=>∃j:Nat,ρ3 62=aa j/\j<=d.nn.length/\ZN H4 H6/\ρ3 10=aa (cq d.C (d.nn.take j) vals)) (fun ρ3 H=>d.nn.length-(iv (ρ3 62)).toNat) ?_ ?_
   ·simp only[go_sem];exact⟨0,rfl,O,.refl _,by simp[cq]⟩
   rintro ρ3 H6 ⟨j,h62,hjl,o6,h10⟩;refine W.env fun E3 hE3=>?_;have r2:E3 2=.M (H.A+1) 0 0:=(by rw[hE3];simp only[go_sem,p2]);have r3:E3 3=.M (H.A+2) 0 0:=(by rw[hE3];simp only[go_sem,p3]);have r4:E3 4=.M (H.A+3) 0 0:=(by rw[hE3];simp only[go_sem,p4]);have r6:E3 6=.U (H2.A+1) 0 0 d.C.length 1:=(by rw[hE3];simp only[go_sem,p6]);have r7:E3 7=aa (dR d vals):=(by rw[hE3];simp only[go_sem,p7]);have r10:E3 10=aa (cq d.C (d.nn.take j) vals):=(by rw[hE3];simp only[go_sem,h10]);have r60:E3 60=.Q d.nn.length (bj d.nn):=(by rw[hE3];simp only[go_sem]);have r61:E3 61=aa d.nn.length:=(by rw[hE3];simp only[go_sem]);have r62:E3 62=aa j:=(by rw[hE3];simp only[go_sem,h62]);clear hE3;have o36:=o4.trans o6;have o6n:=o6.A;have gN6:=(o36.nb _ O).trans kN2;have q3:=(o36.nb _ O).trans k3;refine W.vs ?_;by_cases hb2:(j:Int)<d.nn.length
   ·obtain⟨u,hku⟩:=ao (l:=d.nn) (i:=j) O;have huo:=hus u (an hku);have hne:=zD hku;have c0:=zC hku;have c1:j*2+2<=(bj d.nn).length:=(by rw[zB];omega);have v8:=huo.vars.len;obtain⟨H7,hH7⟩:∃H7,H7=ext H6 [.J 0 90 [.Q u.vars.length (ints u.vars),.Q u.w.length (ints u.w)]]:=⟨_,rfl⟩
    have n7:H7.A=H6.A+1:=(by rw[hH7];rfl);have l7:=ae (show H7.get H6.A=some (.J 0 90 [.Q u.vars.length (ints u.vars),.Q u.w.length (ints u.w)]) by rw[hH7];exact cI);have l7N:=ae (show H7.get (H2.A+1)=some (.J 0 3 (ints vals)) by rw[hH7,aX O];exact gN6);have l73:=ae (show H7.get (H.A+3)=some (.J 0 42 [ah (ak d.C)]) by rw[hH7,aX O];exact q3);have smu:=uL n8.2 huo.vars hcd;have hin:fm u.vars d.C.length:=fun q hq=>by have:=huo.vars.2 q hq;omega
    have fp:bZ (aK (ak d.C) u.vars) (aK vals u.vars):=sV (x:=⟨0,u.vars,[]⟩) hin hfit;have pl:(aK (ak d.C) u.vars).length=u.vars.length:=iG _ _;have vl:(aK vals u.vars).length=u.vars.length:=iG _ _;have ft:∀j,bZ ((aK (ak d.C) u.vars).take j) ((aK vals u.vars).take j):=fun j=>⟨by simp[pl,vl],fun i c b h1 h2=>by
     rw[Yn]at h1 h2;split at h1
     ·rename_i hik;rw[VA hik]at h2;exact fp.2 i c b h1 h2
     ·cases h1⟩
    have hr:∀j,0<=fG ((aK (ak d.C) u.vars).take j) ((aK vals u.vars).take j)/\fG ((aK (ak d.C) u.vars).take j) ((aK vals u.vars).take j)<68719476737:=fun j=>by
     rw[sk (ft j).1];have a:=mS (ft j);have b:=(smu.take j).prod;omega
    simp only[go_sem,r60,r61,r62,hb2,hne,c0,c1];rw[<- hH7];refine W.aP 38685035931857774884986880 (by rfl) (fun ρ4 H8=>H8=H7/\∃i:Nat,ρ4 69=aa i/\i<=u.vars.length/\ρ4 13=aa (fG ((aK (ak d.C) u.vars).take i) ((aK vals u.vars).take i))) (fun ρ4 H=>u.vars.length-(iv (ρ4 69)).toNat) ?_ ?_
    ·simp only[go_sem];exact⟨0,rfl,O,rfl⟩
    rintro ρ4 H8 ⟨rfl,i,h69,hi,h13⟩;refine W.vs ?_;by_cases hb3:(i:Int)<u.vars.length
    ·obtain⟨q,hq⟩:=ao (l:=u.vars) (i:=i) O;obtain⟨t,rfl,y,hy⟩:=n9 (l:=d.C) (hin q (an hq)).1 (hin q (an hq)).2;obtain⟨b,hbv⟩:=ao (l:=vals) (i:=t) (by rw[hvl];exact aI hy);have hyb:=hfit.2 t y.L b (dw hy) hbv;have a1:(aK (ak d.C) u.vars)[i]?=some y.L:=(by rw[kF hq,Int.toNat_natCast,bM (dw hy)]);have a2:(aK vals u.vars)[i]?=some b:=(by rw[kF hq,Int.toNat_natCast,bM hbv]);have hne2:=aO hq;have hne3:=aO hbv;have hyc:=dw hy;have hne4:=aO hyc;have ht:(t:Int)<d.C.length:=(by have:=aI hy;omega);have htc:(t:Int)<(ak d.C).length:=(by rw[dk];omega);have ht2:(t:Int)<vals.length:=O;have w1:=Vv ((i:Int)+1) O;have r1:=hr (i+1);rw[sr a1 a2]at r1;have r0:=hr i;have m0:0<=fG ((aK (ak d.C) u.vars).take i) ((aK vals u.vars).take i)*y.L:=WT r0.1 (by have:=hcd y (an hy);omega);have w2:=Vv (fG ((aK (ak d.C) u.vars).take i) ((aK vals u.vars).take i)*y.L) O;have w3:=Vv (fG ((aK (ak d.C) u.vars).take i) ((aK vals u.vars).take i)*y.L+b) O;simp only[go_sem,h69,hb3,hq,hne2];refine W.dr 10 [0,0,0,6,14,31,0,0,192,448] Tryz.mixed ?_;simp only[go_sem,h69,h13,r4,r6,l73,l7N,hne4,ht,htc,hbv,hyc,w1,w2,w3];exact⟨⟨_,_,_,_,_,_,_,by rw[hH7,aX O,o36.nb _ O,jB,hBe]⟩,⟨i+1,ZF,O,by rw[sr a1 a2]⟩,O⟩
    ·rw[Vy O,Vy O,sk (by rw[pl,vl])]at h13;have hx:=mS fp;obtain⟨ix,hix⟩:=VE hx.1;have hsz2:=huo.size;obtain⟨w,hw'⟩:=ao (l:=u.w) (i:=ix) O;have hwne:=aO hw';have hwl:(ix:Int)<u.w.length:=(by have:=aI hw';omega);have eu:oe d.C vals u=w:=(by unfold oe;rw[hix,Int.toNat_natCast,bM hw']);have us1:cq d.C (d.nn.take (j+1)) vals=cq d.C (d.nn.take j) vals+w:=(by rw[aU hku];unfold cq;simp[eu]);have b1:=qY hus hu4 vals j;have b2:=qY hus hu4 vals (j+1);rw[us1]at b2;have w1:=Vv ((j:Int)+1) O;have w2:=Vv (cq d.C (d.nn.take j) vals+w) O;rw[hix]at h13;simp only[go_sem,h69,h13,r10,r62,l7,hb3,hw',hwne,hwl,w1,w2];exact⟨O,⟨_,_,_,_,_,_,_,by rw[hH7,aX O,o36.nb _ O,jB,hBe]⟩,⟨j+1,ZF,O,by rw[hH7];exact o6.trans (.ext _ _),by rw[us1]⟩,by rw[h62];simp only[aa,aZ];omega⟩
   ·rw[Vy O]at r10;have hkw:k<bO d.C:=hk;have bu:=Gj hus hu4 vals;have bg:=Gh hok hfit d.C.length;rw[Vy (by rw[xR];omega),hgp]at bg;have m1:-67184640000000000<=dR d vals*cq d.C d.nn vals/\dR d vals*cq d.C d.nn vals<=67184640000000000:=by
     constructor
     ·have h1:dR d vals*(-400)<=dR d vals*cq d.C d.nn vals:=VY bu.1 bg.1;omega
     ·have h1:dR d vals*cq d.C d.nn vals<=dR d vals*400:=VY bu.2 bg.1;omega
    have w2:=Vv (dR d vals*cq d.C d.nn vals) O;have hl1:((dL d).take k).length=k:=(by rw[VK,Gi];omega);have hl2:((cP d).take k).length=k:=(by rw[VK,xS];omega);have hw40:bO d.C<=2 ^ 40:=O;have a6:nnc (H2.A+2) H6 3 pv (ints ((dL d).take k)) pu (ints ((cP d).take k)):=a4.nc o36.A fun id h1 h2=>o36.nb id h2;obtain⟨pv',H7,hA1,hO1,hn7,hp7⟩:=a6.app (P:=Tryz.prog) (t:=42) (x:=aa (dR d vals)) (n:=H6.A+1) Tryz.underlying42 Tryz.fE Tryz.fF rfl (by rw[Tryz.gG,aR,hl1];omega) O rfl;simp only[aa]at hA1;have l61:=ae ((o36.nb _ O).trans k1);have l61e:∀L,(ext H6 L).V (H.A+1) 0=some (42,[pv]):=fun L=>(ea O).trans l61;have l71:=ae ((hp7 (H.A+1) O).trans ((o36.nb _ O).trans k1));obtain⟨H8,hH8⟩:∃H8,H8=H7.upd (H.A+1) (.J 0 42 [pv']):=⟨_,rfl⟩
    have n8':H8.A=H7.A:=(by rw[hH8];rfl);have o8:∀id,id≠H.A+1->H8.get id=H7.get id:=fun id h=>by rw[hH8,af,Vx h]
    have a8:nnc (H2.A+2) H8 3 pv' (ints ((dL d).take k)++[aa (dR d vals)]) pu (ints ((cP d).take k)):=hO1.nc O fun id h1 h2=>o8 id O;obtain⟨pu',H9,hA2,hO2,hn9,hp9⟩:=a8.symm.app (P:=Tryz.prog) (t:=42) (x:=aa (dR d vals*cq d.C d.nn vals)) (n:=H8.A+1) Tryz.underlying42 Tryz.fE Tryz.fF rfl (by rw[Tryz.gG,aR,hl2];omega) O rfl;simp only[aa]at hA2;have l82:=ae ((o8 (H.A+2) O).trans ((hp7 (H.A+2) O).trans ((o36.nb _ O).trans k2)));have l82e:∀L,(ext H8 L).V (H.A+2) 0=some (42,[pu]):=fun L=>(ea O).trans l82;have l92:=ae ((hp9 (H.A+2) O).trans ((o8 (H.A+2) O).trans ((hp7 (H.A+2) O).trans ((o36.nb _ O).trans k2))));have one1:=hO1.a.one;have cel1:=hO1.a.cells;have one2:=hO2.a.one;have cel2:=hO2.a.cells;have pc1:=a6.a.cells;have pc2:=a6.b.cells;simp only[go_sem,r2,r3,r7,r61,r62,hb2,l61,l71,hA1,one1,cel1];rw[<- hH8];simp only[go_sem,r3,r7,r10,l82,l92,hA2,one2,cel2,w2,dE];have hget:∀id,id<H2.A+2->id≠H.A+1->id≠H.A+2->(H9.upd (H.A+2) (.J 0 42 [pu'])).get id=H3.get id:=fun id h1 h2 h3=>by
     rw[af,Vx h3,hp9 id h1,o8 id h2,hp7 id h1,o36.nb id O]
    have ew:ints ((dL d).take (k+1))=ints ((dL d).take k)++[aa (dR d vals)]:=(by rw[aU (UB hkw),hvals];simp[ints,aa]);have eg:ints ((cP d).take (k+1))=ints ((cP d).take k)++[aa (dR d vals*cq d.C d.nn vals)]:=(by rw[aU (tk hkw),hvals];simp[ints,aa,dC]);refine⟨by rw[hget _ O O O];exact jB,by rw[aA];omega,⟨by rw[aA];omega,fun id h1 h2 h3=>by rw[hget id O h2 h3,o3 _ O];exact hj.2.1 id h1 h2 h3,pv',pu',?_,by rw[af,VA rfl],?_⟩,?_⟩
    ·rw[af,Vx O,hp9 _ O,hH8,af,VA rfl]
    ·rw[ew,eg];exact hO2.symm.nc (by rw[aA];exact Nat.le_refl _) fun id h1 h2=>by rw[af,Vx O]
    ·unfold lH;rw[hget _ O O O];exact kN
 ·obtain⟨v,u,a1,a2,a3⟩:=hj.2.2;rw[qX]at a3;rw[Vy (by rw[Gi];exact Nat.le_refl _),Vy (by rw[xS];exact Nat.le_refl _)]at a3;have l1:=ae a1;have l2:=ae a2;have c1:=a3.a.cells;have c2:=a3.b.cells;have ovx:ZN H Hx:=⟨O,fun id hi=>(hj.2.1 id O O O).trans (o2.nb id hi)⟩
  simp only[go_sem];refine W.dr 3 [0,0,1] Tryz.mixed ?_;have on1:=a3.a.one;have on2:=a3.b.one;have l2u:∀b,(Hx.upd (H.A+1) b).V (H.A+2) 0=some (42,[u]):=fun b=>(cH O).trans l2;have l1u:∀b,((Hx.upd (H.A+1) (.J 0 42 [v])).upd (H.A+2) b).V (H.A+1) 0=some (42,[v]):=fun b=>(cH O).trans lP;have hne12:∀x:Nat,x=H.A+1->¬x=H.A+2:=fun x h=>O
  simp only[go_sem,e2,e3,l1,l2,c1,c2,on1,on2,l2u,l1u];refine⟨hne12,?_⟩;have a5:nnc (H2.A+2) ((Hx.upd (H.A+1) (.J 0 42 [v])).upd (H.A+2) (.J 0 42 [u])) 3 v (ints (dL d)) u (ints (cP d)):=a3.nc (by rw[aA,aA];exact Nat.le_refl _) fun id h1 _=>by rw[af,Vx O,af,Vx O]
  refine aq.bC aJ hcl ((ovx.upd O _).upd O _) ?_ hK;exact .nf rfl fun i hi _=>match i,hi with
   |0,_=>a5.a.hJ fun i hi=>by show H.A<=i;omega
   |1,_=>a5.b.hJ fun i hi=>by show H.A<=i;omega
def mg (nl:List Int)(l:List (Int × Int)):Bool:=l.all fun p=>decide (nl.getD p.1.toNat 0=p.2)
def jd (gs:List Int)(nls:List (List (Int × Int)))(nl:List Int)(k:Nat):Int:=SS k fun w=>if mg nl (nls.getD w [])=true then gs.getD w 0 else 0
def Pr (h:l[j]?=some p):mg nl (l.take (j+1))=(mg nl (l.take j) && decide (nl.getD p.1.toNat 0=p.2)):=by
 unfold mg;rw[aU h];simp
def Ps (h:l[j]?=some p)(hn:¬nl.getD p.1.toNat 0=p.2):mg nl l=false:=by
 unfold mg;refine Bool.eq_false_iff.2 fun h2=>hn ?_;exact of_decide_eq_true (VZ.1 h2 p (an h))
structure ValOk (gs:List Int)(nls:List (List (Int × Int)))(nl:List Int):Prop where
 gl:gs.length=nls.length
 len:nls.length<2 ^ 40
 row:∀l∈nls,l.length<2 ^ 40/\∀p∈l,0<=p.1/\p.1<nl.length
 nll:nl.length<2 ^ 40
 sum:∀k,k<=nls.length->-4611686018427387904<=jd gs nls nl k/\jd gs nls nl k<=4611686018427387904
def jz (l:List (Int × Int)):ZK:=.Q l.length (fJ l)
def Pt (gs:List Int)(nls:List (List (Int × Int)))(nl:List Int)(hv:ValOk gs nls nl)(c ib nid gi gn:Nat)(cv:ZK)(H:ZJ)
  (g0:H.get c=some (.J 0 119 [.U ib gi 0 nls.length 1,ah gs,cv])) (g1:H.get ib=some (.J gi 95 (nls.map jz))) (g2:H.get nid=some (.J gn 3 (ints nl)))
  (K:ZP->ZJ->Prop) (hK:K (.ret (aa (jd gs nls nl nls.length))) H):ag Tryz.prog G0 54 [.M c 0 0,.U nid gn 0 nl.length 1] H K:=by
 refine ag.Z ⟨_,Tryz.func54,rfl,rfl⟩ fun hcl=>?_;have c0:=hcl.lt _ _ g0;have c1:=hcl.lt _ _ g1;have c2:=hcl.lt _ _ g2;have hnl:=hv.nll;have hln:=hv.len;have hgl:=hv.gl;have l0:=ae g0;have l1:=ae g1;have hml:(nls.map jz).length=nls.length:=VJ ..;refine ag.st (n:=46) (rs:=[.tmp 4]) Tryz.func54 ?_;simp only[go_sem,l0,l1];refine W.en (fun E=>E 0=.M c 0 0 /\ E 1=.U nid gn 0 nl.length 1 /\ E 5=aa 0 /\ E 13=.U ib gi 0 nls.length 1 /\ E 14=aa nls.length /\ E 15=aa 0) (by simp only[go_sem]) fun E ⟨e0,e1,e5,e13,e14,e15⟩=>?_
 refine W.aP 35184372056800 (by rfl) (fun ρ Hx=>∃w:Nat,ρ 15=aa w/\w<=nls.length/\ZN H Hx/\ρ 5=aa (jd gs nls nl w)) (fun ρ H=>nls.length-(iv (ρ 15)).toNat) ?_ ?_
 ·exact⟨0,e15,O,.refl _,e5⟩
 rintro ρ Hx ⟨w,h15,hw,ov,h5⟩;refine W.en (fun E2=>E2 0=.M c 0 0 /\ E2 1=.U nid gn 0 nl.length 1 /\ E2 5=aa (jd gs nls nl w) /\ E2 13=.U ib gi 0 nls.length 1 /\ E2 14=aa nls.length /\ E2 15=aa w) (by simp only[go_sem,e0,e1,h5,e13,e14,h15]) fun E2 ⟨p0,p1,p5,p13,p14,p15⟩=>?_
 have x0:=(ov.V (g:=0) c0).trans l0;have x1:=(ov.V (g:=gi) c1).trans l1;have onx:=ov.A;refine W.vs ?_;by_cases hb:(w:Int)<nls.length;rotate_left
 ·simp only[go_sem,p5,p14,p15,hb];have he:w=nls.length:=O
  rw[he];exact aq.bC aJ hcl ov (.lit _) hK
 obtain⟨l,hl⟩:=ao (l:=nls) (i:=w) O;have hlg:(nls.map jz)[w]?=some (jz l):=by rw[List.getElem?_map,hl];rfl
 have hne:=aO hl;obtain⟨hll,hlr⟩:=hv.row l (an hl);obtain⟨gw,hgw⟩:=ao (l:=gs) (i:=w) O;have gwi:(ints gs)[w]?=some (aa gw):=by unfold ints;rw[List.getElem?_map,hgw];rfl
 have w1:=Vv ((w:Int)+1) O;have hs1:=hv.sum w O;have hs2:=hv.sum (w+1) O;have hse:jd gs nls nl (w+1)=jd gs nls nl w+if mg nl l=true then gw else 0:=by
  unfold jd;rw[fH,bM hl,bM hgw]
 rw[hse]at hs2;simp only[go_sem,p13,p14,p15,hb,x1,hlg,jz];refine W.en (fun E3=>E3 0=.M c 0 0 /\ E3 1=.U nid gn 0 nl.length 1 /\ E3 5=aa (jd gs nls nl w) /\ E3 6=aa w /\ E3 13=.U ib gi 0 nls.length 1 /\ E3 14=aa nls.length /\ E3 15=aa w /\ E3 20=.Q l.length (fJ l) /\ E3 21=aa l.length /\ E3 22=aa 0) (by simp only[go_sem,p0,p1,p5,p13,p14,p15]) fun E3 ⟨q0,q1,q5,q6,q13,q14,q15,q20,q21,q22⟩=>?_
 refine W.aP 34355544576 (by rfl) (fun ρ Hy=>∃j:Nat,ρ 22=aa j/\j<=l.length/\ZN Hx Hy/\mg nl (l.take j)=true) (fun ρ H=>l.length-(iv (ρ 22)).toNat) ?_ ?_
 ·exact⟨0,q22,O,.refl _,rfl⟩
 rintro ρ2 Hy ⟨j,h22,hj,oy,hok⟩;refine W.en (fun E4=>E4 0=.M c 0 0 /\ E4 1=.U nid gn 0 nl.length 1 /\ E4 5=aa (jd gs nls nl w) /\ E4 6=aa w /\ E4 13=.U ib gi 0 nls.length 1 /\ E4 14=aa nls.length /\ E4 15=aa w /\ E4 20=.Q l.length (fJ l) /\ E4 21=aa l.length /\ E4 22=aa j) (by simp only[go_sem,q0,q1,q5,q6,q13,q14,q15,q20,q21,h22]) fun E4 ⟨r0,r1,r5,r6,r13,r14,r15,r20,r21,r22⟩=>?_
 have oyn:=oy.A;have oyh:=ov.trans oy;have y0:=(oyh.V (g:=0) c0).trans l0;have y2:=(oyh.V (g:=gn) c2).trans (ae g2);refine W.vs ?_;by_cases hjb:(j:Int)<l.length;rotate_left
 ·have hje:j=l.length:=O
  rw[hje,Vy ZI]at hok;rw[hok,VA rfl]at hs2 hse;have w2:=Vv (jd gs nls nl w+gw) O;have gne:=aO hgw;simp only[go_sem,r0,r5,r6,r15,r21,r22,hjb,y0,gwi,w1,w2];exact⟨⟨O,gne⟩,O,⟨w+1,rfl,O,oyh,by rw[hse]⟩,by rw[h15];simp only[aa,aZ];omega⟩
 obtain⟨p,hp⟩:=ao (l:=l) (i:=j) O;obtain⟨hp0,hp1⟩:=hlr p (an hp);obtain⟨a,ha⟩:=ao (l:=nl) (i:=p.1.toNat) O;have c01:=zX hp;have c11:=DZ hp;have cne:=D0 hp;have w3:=Vv ((j:Int)+1) O;have nai:(ints nl)[p.1.toNat]?=some (aa a):=by unfold ints;rw[List.getElem?_map,ha];rfl
 have hpl:=Q4 l;have cpr:(List.drop (j*2) (fJ l)).take 2=[aa p.1,aa p.2]:=by rw[pE c01,pE c11];rfl
 have hpe:p.1=(p.1.toNat:Int):=O
 simp only[go_sem,r20,r21,r22,hjb,cne];refine⟨O,?_⟩;rw[cpr];refine⟨⟨rfl,rfl,ZI⟩,?_⟩;have ly2:∀b,(ext Hy [b]).V nid gn=some (3,ints nl):=fun b=>ae ((aX O).trans ((oyh.nb _ c2).trans g2));have nne:=aO ha;have hna:nl.getD p.1.toNat 0=a:=bM ha;have oye:∀b,ZN Hx (ext Hy [b]):=fun b=>oy.trans (.ext _ _);by_cases hm:a=p.2
 ·refine W.dr 7 [0,0,2,7,15,0,32] Tryz.mixed ?_;simp only[go_sem,r1,r22,ly2,hp0,hp1,nai,hm,w3];exact⟨O,⟨j+1,rfl,O,oye _,by rw[Pr hp,hok,hna,hm];simp⟩,by rw[h22];simp only[aa,aZ];omega⟩
 ·rw[Ps hp (by rw[hna];exact hm)]at hse;have hse':jd gs nls nl (w+1)=jd gs nls nl w:=by rw[hse];simp
  refine W.dr 7 [0,0,2,7,15,0,32] Tryz.mixed ?_;simp only[go_sem,r1,r5,r15,ly2,hp0,hp1,nai,hm,w1];exact⟨O,⟨w+1,rfl,O,oyh.trans (.ext _ _),by rw[hse']⟩,by rw[h15];simp only[aa,aZ];omega⟩
def Uk {l:List Int}(h:l≠[])(b:Int):iE (l++[b])=max (iE l) b:=by
 cases l with
 |nil=>exact absurd rfl h
 |cons a l =>
  show (l++[b]).foldl max a=_;rw[WD];rfl
def F4 (l:List Int)(h0:l≠[])(hl:(l.length:Int)<2 ^ 62)(H:ZJ)(K:ZP->ZJ->Prop)(hK:K (.ret (aa (iE l))) H):ag Tryz.prog G0 82 [ah l] H K:=by
 have hpos:0<l.length:=Zz.2 h0;obtain⟨a,ha⟩:=ao hpos;have h1:¬((l.length:Int)<1):=O
 have hp1:(0:Int)<l.length:=O
 refine ag.st (n:=25) (rs:=[.tmp 2]) Tryz.func82 ?_;simp only[go_sem,h1,ha,h0,hp1];refine W.aP 16773144 (by rfl) (fun ρ H'=>H'=H/\∃k:Nat,ρ 4=aa (k:Int)/\1<=k/\k<=l.length/\ρ 3=aa (iE (l.take k))) (fun ρ H=>l.length-(iv (ρ 4)).toNat) ?_ ?_
 ·simp only[go_sem];refine⟨1,rfl,ZI,O,?_⟩;rw[aU ha,List.take_zero];rfl
 rintro ρ H' ⟨rfl,k,h4,hk1,hk,h3⟩;refine W.vs ?_;by_cases hb:(k:Int)<l.length
 ·obtain⟨b,hkb⟩:=ao (l:=l) (i:=k) O;have hne:=aO hkb;have w1:=Vv ((k:Int)+1) O;simp only[go_sem,h4,h3,hb,hkb,hne,w1,builtin_max];refine⟨⟨k+1,ZF,O,O,?_⟩,O⟩;rw[aU hkb,Uk (fun e=>by have:=congrArg List.length e;rw[VK,Xk O]at this;rw[List.length_nil]at this;omega)];congr 2;split<;>omega
 ·simp only[go_sem,h4,h3,hb];rw[Vy O];exact aq.mk ZI hK
def Ul {l:List Int}{v:Int}(h:∀j,j<k->∀b,l[j]?=some b->b≠v)(hk:l[k]?=some v):l.idxOf v=k:=by
 induction l generalizing k with
 |nil=>simp at hk
 |cons a l ih =>
  cases k with
  |zero=>simp only[List.getElem?_cons_zero,Option.some.injEq]at hk;subst hk;simp
  |succ k =>
   have ha:=h 0 O a rfl;have hr:=ih (k:=k) (fun j hj b hb=>h (j+1) O b (by simpa using hb)) (by simpa using hk);have hbe:(a == v)=false:=beq_false_of_ne ha;simp[List.idxOf_cons,hbe,hr]
def Um (l:List Int)(v:Int)(hv:v∈l)(hl:(l.length:Int)<2 ^ 62)(H:ZJ)(K:ZP->ZJ->Prop)(hK:K (.ret (aa ((l.idxOf v:Nat):Int))) H):ag Tryz.prog G0 83 [ah l,aa v] H K:=by
 refine ag.st (n:=19) (rs:=[.tmp 4]) Tryz.func83 ?_;simp only[go_sem];refine W.aP 524080 (by rfl) (fun ρ H'=>H'=H/\∃k:Nat,ρ 8=aa k/\k<=l.length/\∀j,j<k->∀b,l[j]?=some b->b≠v) (fun ρ H=>l.length-(iv (ρ 8)).toNat) ?_ ?_
 ·simp only[go_sem];exact⟨0,rfl,O,fun j h=>absurd h (VN _)⟩
 rintro ρ H' ⟨rfl,k,h8,hk,hno⟩;refine W.vs ?_;by_cases hb:(k:Int)<l.length
 ·obtain⟨b,hkb⟩:=ao (l:=l) (i:=k) O;have hne:=aO hkb;have w1:=Vv ((k:Int)+1) O;by_cases he:v=b
  ·subst he;simp only[go_sem,h8,hb,hkb,hne];rw[Ul hno hkb]at hK;exact aq.mk ZI hK
  ·simp only[go_sem,h8,hb,hkb,hne,he,w1];exact⟨⟨k+1,ZF,O,fun j hj b' hb'=>by
    by_cases hjk:j=k
    ·subst hjk;rw[hkb]at hb';cases hb';exact fun h=>he h.symm
    ·exact hno j O b' hb'⟩,O⟩
 ·exfalso;obtain⟨j,hj⟩:=VG.1 hv;exact hno j (by have:=aI hj;omega) v hj rfl
def vf (d:ZM)(hl:(d.C.length:Int)<2 ^ 40)(hD:d.Y<2 ^ 64)(b:Nat):vo Tryz.prog G0 80 [] [.M b 0 0] (mz d) (fun H=>H.get b=some (dU d)):=by
 intro idy J Stop H K hS hJ0 hY hK hSt;have l0:=ae (hS 0 H hJ0);show ag _ _ _ ([.np idy]++[.M b 0 0]) _ _;refine ag.st (n:=25) (rs:=[]) Tryz.func80 ?_;simp only[go_sem,l0,bq];refine W.aP 33554200 (by rfl) (fun ρ H'=>∃v:Nat,ρ 8=aa v/\v<=d.C.length/\ρ 3=aa (aY d.Y v)/\J (aY d.Y v) H'/\H.A<=H'.A) (fun ρ H=>d.C.length-(iv (ρ 8)).toNat) ?_ ?_
 ·simp only[go_sem];exact⟨0,rfl,O,rfl,hJ0⟩
 rintro ρ H' ⟨v,h8,hv,h3,hj,hn⟩;refine W.vs ?_;by_cases hb:(v:Int)<d.C.length
 ·have l1:=ae (hS _ _ hj);have s1:=fun t x y=>nE (P:=Tryz.prog) (t:=t) (x:=x) (y:=y) (k':=.i64) (s:=v) hD;have s2:=fun t x y=>oV (P:=Tryz.prog) (t:=t) (x:=x) (y:=y) (s:=v) hD;have w1:=Vv ((v:Int)+1) O;have hp:aY d.Y v<=v:=by
   have:(eH d.Y v).length<=v:=ia;exact this
  have w2:=Vv ((aY d.Y v:Int)+1) O;cases hbit:d.Y.testBit v
  ·simp only[go_sem,h8,h3,hb,l1,bq,s1,s2,hbit,w1];exact⟨hn,⟨v+1,ZF,O,by rw[mo,hbit];rfl,by rw[mo,hbit];exact hj,hn⟩,O⟩
  ·have hdx:(mz d)[aY d.Y v]?=some [aa (aY d.Y v),aa v]:=EZ (od O hbit);simp only[go_sem,h8,h3,hb,l1,bq,s1,s2,hbit];refine hY _ _ H' _ hdx hj hn (fun H2 hj2 hn2=>⟨trivial,?_⟩) (fun H2 hs2 hn2=>⟨trivial,?_⟩)
   ·simp only[go_sem,h8,h3,w1,w2];exact⟨O,⟨v+1,ZF,O,by rw[mo,hbit];simp,by rw[mo,hbit];exact hj2,O⟩,O⟩
   ·simp only[go_sem];exact aq.mk O (hSt H2 hs2 O)
 ·simp only[go_sem,h8,hb];have ek:v=d.C.length:=O
  subst ek;exact aq.mk O (hK H' (by rw[jZ];exact hj) hn)
def vh (d:ZM)(H:ZJ)(K:ZP->ZJ->Prop)(hK:K (.ret (.Z 80 [] [.M H.A 0 0])) (ext H [dU d])):
  ag Tryz.prog G0 39 [cM d] H K:=by
 refine ag.st (n:=4) (rs:=[.tmp 2]) Tryz.func39 ?_;simp only[go_sem,fW,bq];exact aq.mk (by simp[aM]) hK
def bS (l:List (Int × Int)):List Int:=(l.map fun p=>List.replicate p.1.toNat p.2).flatten
def cX (d:ZM):List Int:=bS (aL d)
def bX (d:ZM):Int:=aj (cX d)
def M6 (n:Nat)(c:Int):aj (List.replicate n c)=c ^ n:=by
 induction n with
 |zero=>rw[YG,iT,YC]
 |succ n ih=>rw[WC,je,ih,W4,W5]
def zf (l:List (Int × Int))(p:Int × Int):bS (l++[p])=bS l++List.replicate p.1.toNat p.2:=by unfold bS;simp
def zg (l r:List (Int × Int)):bS (l++r)=bS l++bS r:=by unfold bS;simp
def pA (h:∀p∈l,1<=p.2):∀c∈bS l,1<=c:=fun c hc=>by
 unfold bS at hc;obtain⟨r,hr,hc⟩:=Xc.1 hc;obtain⟨p,hp,rfl⟩:=VI.1 hr;rw[Wv hc];exact h p hp
def nV (hv:(aB d)[k]?=some v):(aL d)[k]?=some (df d v):=by unfold aL;rw[List.getElem?_map,hv];rfl
def uf (d:ZM):(aL d).length=(aB d).length:=by simp[aL]
def kU (h:ZR d):∀p∈aL d,1<=p.1/\p.1<=1024/\1<=p.2/\p.2<=4:=fun p hp=>by
 unfold aL at hp;obtain⟨v,hv,rfl⟩:=VI.1 hp;obtain⟨v1,v2⟩:=fR.1 hv;exact mZ h v1 v2
def M7 {l r:List Int}(h:∀c∈r,1<=c)(hl:0<=aj l):aj l<=aj (l++r):=by
 rw[sh];have h1:=dY h;have h2:aj l*1<=aj l*aj r:=VY h1 hl;omega
noncomputable def eQ (d:ZM):Int:=if lE (ZR d) then (if bX d<=4096 then 0 else 6) else 200
noncomputable def jy (d:ZM):Int:=if eQ d=0 then bX d else 0
def wD (d:ZM)(hf:Z1 d)(H:ZJ)(K:ZP->ZJ->Prop)(hK:K (.ret (.nf [aa (jy d),aa (eQ d)])) H):ag Tryz.prog G0 22 [cM d] H K:=by
 refine ag.Z ⟨_,Tryz.func22,rfl,rfl⟩ fun hcl=>?_;refine ag.st (n:=35) (rs:=[.cell 2 3,.cell 3 46]) Tryz.func22 ?_;simp only[go_sem,fW,bq];obtain⟨H1,hH1⟩:∃H1,H1=ext H [.J 0 38 (bq d),.J 0 3 [.lit (.int .i64 0)],.J 0 46 [.lit (.int .i64 0)]]:=⟨_,rfl⟩
 have g1:=de hH1
 have g2:=gE hH1 1 rfl
 have g3:=gE hH1 2 rfl
 have l1:=ae g1;have l2:=ae g2;have l3:=ae g3;have n1:H1.A=H.A+3:=hH1▸rfl
 have o1:ZN H H1:=hH1▸.ext _ _
 unfold bq at hH1 l1;rw[<- hH1];refine au.Z (AC d hf _ _ ⟨trivial,?_⟩);by_cases hok:ZR d;rotate_left
 ·rw[gU hok];have ee:eQ d=200:=by unfold eQ;rw[gU hok];rfl
  have ev:jy d=0:=by unfold jy;rw[ee];rfl
  rw[ee,ev]at hK;have l3u:∀b,(H1.upd (H.A+1) b).V (H.A+2) 0=_:=fun b=>(cH O).trans l3;have l2u:∀c b',((H1.upd (H.A+1) (.J 0 3 [c])).upd (H.A+2) b').V (H.A+1) 0=some (3,[c]):=fun c b'=>(cH O).trans lP;simp only[go_sem,l2,l3u,l2u];refine aq.bC aJ hcl ((o1.upd O _).upd O _) ?_ hK;exact .nf rfl fun i hi _=>match i,hi with
   |0,_=>.lit _
   |1,_=>.lit _
 rw[ep hok];have hR:=hok.n;have l1e:∀L,(ext H1 L).V H.A 0=_:=fun L=>(ea O).trans l1;simp only[go_sem,l1e];refine au.Z (qT d _ _ ⟨trivial,?_⟩);simp only[go_sem];obtain⟨H2,hH2⟩:∃H2,H2=ext (ext H1 [.J 0 3 [.lit (.int .i64 1)]]) [dU d]:=⟨_,rfl⟩
 rw[<- hH2];have o2:ZN H1 H2:=by rw[hH2];exact(ZN.ext _ _).trans (.ext _ _)
 have n2:H2.A=H.A+5:=by rw[hH2,aM,aM,n1];rfl
 have hbx:H2.get (H.A+4)=some (dU d):=by rw[hH2,show H.A+4=(ext H1 [.J 0 3 [.lit (.int .i64 1)]]).A by rw[aM,n1];rfl];exact cI
 have g6:H2.get (H.A+3)=some (.J 0 3 [.lit (.int .i64 1)]):=by rw[hH2,dM _ _ _ (by rw[aM,n1];simp),show H.A+3=H1.A by omega];exact cI
 have o02:=o1.trans o2;refine W.env fun E hE=>?_;have e1:E 1=.M H.A 0 0:=by rw[hE];simp only[go_sem]
 have e2:E 2=.M (H.A+1) 0 0:=by rw[hE];simp only[go_sem]
 have e3:E 3=.M (H.A+2) 0 0:=by rw[hE];simp only[go_sem]
 have e5:E 5=.M (H.A+3) 0 0:=by rw[hE,<- n1];simp only[go_sem]
 have eN:(ext H1 [.J 0 3 [.lit (.int .i64 1)]]).A=H.A+4:=by rw[aM,n1];rfl
 have e14:E 14=.Z 104 [] [.M (H.A+4) 0 0]:=by rw[hE,<- eN];rfl
 clear hE;have hrng:=kU hok;have hpos:∀k,∀c∈bS ((aL d).take k),1<=c:=fun k=>pA fun p hp=>(hrng p (VU hp)).2.2.1
 let S:ZJ->Prop:=fun Hx=>H2.A<=Hx.A/\∀id,id<H2.A->id≠H.A+1->id≠H.A+2->id≠H.A+3->Hx.get id=H2.get id
 have ovS:∀ {Hx},S Hx->ZN H Hx:=fun h=>⟨by have:=h.1;omega,fun id hi=>(h.2 id O O O O).trans (o02.nb id hi)⟩
 have cnt1:bX d<=4096->eQ d=0/\jy d=bX d:=fun h=>by
  have ee:eQ d=0:=by unfold eQ;rw[ep hok,VA h];rfl
  exact⟨ee,by unfold jy;rw[VA ee]⟩
 have cnt2:¬bX d<=4096->eQ d=6/\jy d=0:=fun h=>by
  have ee:eQ d=6:=by unfold eQ;rw[ep hok,Vx h];rfl
  exact⟨ee,by unfold jy;rw[ee];rfl⟩
 have hend:∀k,k<=(aL d).length->aj (bS ((aL d).take k))<=bX d:=fun k hk=>by
  unfold bX cX
  conv=>rhs;rw[<- V5 k (aL d),zg]
  exact M7 (pA fun p hp=>(hrng p (WZ hp)).2.2.1) (by have:=dY (hpos k);omega)
 refine W.jN (f:=104) (first:=[]) (cap:=[.M (H.A+4) 0 0]) (by show E 14=_;exact e14) (qS d (by have:=hf.C.1;omega) hf.Y (H.A+4))
  (fun k Hx=>S Hx/\Hx.get (H.A+1)=some (.J 0 3 [.lit (.int .i64 0)])/\Hx.get (H.A+2)=some (.J 0 46 [.lit (.int .i64 0)])/\Hx.get (H.A+3)=some (.J 0 3 [.lit (.int .i64 (aj (bS ((aL d).take k))))])/\aj (bS ((aL d).take k))<=4096)
  (fun c Hx=>c=.ret/\S Hx/\Hx.get (H.A+1)=some (.J 0 3 [.lit (.int .i64 0)])/\Hx.get (H.A+2)=some (.J 0 46 [.lit (.int .i64 6)])/\¬bX d<=4096)
  (fun k Hx h=>by rw[h.1.2 _ O O O O];exact hbx)
  (fun k Hx b h=>⟨⟨h.1.1,fun id h1 h2 h3 h4=>by rw[af,Vx O];exact h.1.2 id h1 h2 h3 h4⟩,by rw[af,Vx O];exact h.2.1,by rw[af,Vx O];exact h.2.2.1,by rw[af,Vx O];exact h.2.2.2.1,h.2.2.2.2⟩)
  (fun c Hx b h=>⟨h.1,⟨h.2.1.1,fun id h1 h2 h3 h4=>by rw[af,Vx O];exact h.2.1.2 id h1 h2 h3 h4⟩,by rw[af,Vx O];exact h.2.2.1,by rw[af,Vx O];exact h.2.2.2.1,h.2.2.2.2⟩)
  (fun b=>⟨⟨by rw[aM];omega,fun id h1 h2 h3 h4=>aX h1⟩,by rw[aX O,o2.nb _ O];exact g2,by rw[aX O,o2.nb _ O];exact g3,by rw[aX O];exact g6,by simp[bS,aj]⟩)
  ZG lD (fun _ _ _=>trivial) (fun _ _ _=>trivial) (fun k y Hx B Bb hy hj hn hB hBb=>?_) (fun Hx hj hn=>?_) (fun Hx hs hn=>?_) (fun i Hx hs hn=>by cases hs.1)
 ·obtain⟨v,hv,rfl⟩:=kE hy;obtain⟨v1,v2,v3⟩:=fw hv;obtain⟨x,hx⟩:=ao (l:=d.C) (i:=v) v1;obtain⟨x1,x2⟩:=hR.dec v x hx v2;have hrk:=nV hv;have hrc:df d v=((bB d.C x:Int),x.L):=by unfold df;rw[hx]
  have hrr:=hrng _ (an hrk);rw[hrc]at hrk hrr;dsimp only at hrr;refine W.vs ?_;simp only[go_sem,eZ,bb,fO,V6,Ws,V7,Wb,hB];obtain⟨H3,hH3⟩:∃H3,H3=Hx.upd H2.A Bb:=⟨_,rfl⟩
  rw[<- hH3];obtain⟨st,pd,n',en,ps',as',bo,hBe⟩:=hBb;have n3:H3.A=Hx.A:=by rw[hH3];rfl
  have o3:∀id,id≠H2.A->H3.get id=Hx.get id:=fun id h=>by rw[hH3,af,Vx h]
  have jB:H3.get H2.A=some Bb:=by rw[hH3,af,VA rfl]
  have hS3:S H3:=⟨by rw[n3];exact hj.1.1,fun id h1 h2 h3 h4=>(o3 id O).trans (hj.1.2 id h1 h2 h3 h4)⟩
  have ps:=jK hR.n1.2 x2 hR.L;have hin:fm x.F d.C.length:=fun q hq=>by have:=x2.2 q hq;omega
  have hrn:((bB d.C x:Nat):Int)=aj (aV d.C x):=by have:=ps.prod;unfold bB;omega
  have hvn:(v:Int)<d.C.length:=O
  have hne:=eT hx;have ec:=iS hx;refine W.en (fun E1=>E1 1=.M H.A 0 0 /\ E1 2=.M (H.A+1) 0 0 /\ E1 3=.M (H.A+2) 0 0 /\ E1 5=.M (H.A+3) 0 0 /\ E1 7=aa v) (by simp only[go_sem,bb,e1,e2,e3,e5]) fun E1 ⟨m1,m2,m3,m5,m7⟩=>?_
  have j1:=ae ((hS3.2 _ O O O O).trans ((o2.nb _ O).trans g1));unfold bq at j1;refine W.vs ?_;simp only[go_sem,m1,m7,j1];refine au.Z (pX d.C v x hx hin ps _ _ ⟨⟨st,pd,n',en,ps',as',bo,by rw[jB,hBe]⟩,?_⟩);rw[<- hrn];simp only[go_sem];obtain⟨a0,ha0⟩:∃a0,a0=aj (bS ((aL d).take k)):=⟨_,rfl⟩
  have hp0:=dY (hpos k);have hstep:∀j:Nat,aj (bS ((aL d).take k)++List.replicate j x.L)=a0*x.L ^ j:=fun j=>by rw[sh,M6,ha0]
  have hfull:aj (bS ((aL d).take (k+1)))=a0*x.L ^ bB d.C x:=by
   rw[aU hrk,zf];exact hstep _
  have hnext:=hend (k+1) (by have:=aI hrk;omega);rw[<- ha0]at hp0;refine W.aP 17177772032 (by rfl) (fun ρ2 H4=>∃j:Nat,ρ2 21=aa j/\j<=bB d.C x/\S H4/\H3.A<=H4.A/\H4.get H2.A=some Bb/\H4.get (H.A+1)=some (.J 0 3 [.lit (.int .i64 0)])/\H4.get (H.A+2)=some (.J 0 46 [.lit (.int .i64 0)])/\H4.get (H.A+3)=some (.J 0 3 [.lit (.int .i64 (a0*x.L ^ j))])/\a0*x.L ^ j<=4096) (fun ρ2 H=>bB d.C x-(iv (ρ2 21)).toNat) ?_ ?_
  ·simp only[go_sem];exact⟨0,rfl,O,hS3,jB,(o3 _ O).trans hj.2.1,(o3 _ O).trans hj.2.2.1,by rw[YC,Yi,ha0];exact(o3 _ O).trans hj.2.2.2.1,by rw[YC,Yi,ha0];exact hj.2.2.2.2⟩
  rintro ρ2 H4 ⟨j,h21,hjr,hS4,h4n,h4B,h41,h42,h43,h44⟩;refine W.vs ?_;have hpj:1<=x.L ^ j:=Yt O;have hmj:1<=a0*x.L ^ j:=by have:=Ww hp0 hpj O O;omega
  by_cases hb2:(j:Int)<bB d.C x
  ·have w1:=Vv ((j:Int)+1) O;obtain⟨t,ht⟩:∃t,t=a0*x.L ^ j:=⟨_,rfl⟩
   rw[<- ht]at h43 h44 hmj;have hts:a0*x.L ^ (j+1)=t*x.L:=(by rw[W4,<- X1,ht]);have tc:t*x.L<=4096*4:=Ww h44 hrr.2.2.2 O O;have tc0:0<=t*x.L:=WT O O;have w2:=Vv (t*x.L) O;have i1:=ae ((hS4.2 _ O O O O).trans ((o2.nb _ O).trans g1));unfold bq at i1;have i2:=ae h41;have i3:=ae h42;have i5:=ae h43;have hlow:a0*x.L ^ (j+1)<=bX d:=by
    refine X5 ?_ hnext;rw[hfull];have hjj:j+1<=bB d.C x:=O;obtain⟨r,hr⟩:∃r,bB d.C x=(j+1)+r:=⟨bB d.C x-(j+1),O⟩
    rw[hr,show a0*x.L ^ (j+1+r)=a0*x.L ^ (j+1)*x.L ^ r by rw[Int.pow_add _ (j+1) r,X1]];have hpr:1<=x.L ^ r:=Yt O;have h0:0<=a0*x.L ^ (j+1):=(by rw[hts];exact tc0);have:=VY hpr h0;rw[Yi]at this;exact this
   by_cases hbig:t*x.L > 4096
   ·have i2u:∀b,(H4.upd (H.A+3) b).V (H.A+1) 0=_:=fun b=>(cH O).trans i2;have i3u:∀b b',((H4.upd (H.A+3) b).upd (H.A+1) b').V (H.A+2) 0=_:=fun b b'=>(cH O).trans ((cH O).trans i3);simp only[go_sem,h21,hb2];refine W.dr 7 [0,0,2,0,14,30,62] Tryz.mixed ?_;simp only[go_sem,m1,m2,m3,m5,m7,i1,i5,hvn,hne,ec,w2,hbig,i2u,i3u,dE];refine⟨by simp only[af];rw[Vx O,Vx O,Vx O];exact h4B,by simp only[aA];omega,⟨by simp only[aA];exact hS4.1,fun id h1 h2 h3 h4=>by simp only[af];rw[Vx h3,Vx h2,Vx h4];exact hS4.2 id h1 h2 h3 h4⟩,by rw[af,Vx O,af,VA rfl],by rw[af,VA rfl],?_⟩;rw[hts]at hlow;omega
   ·simp only[go_sem,h21,hb2];refine W.dr 7 [0,0,2,0,14,30,62] Tryz.mixed ?_;simp only[go_sem,m1,m5,m7,i1,i5,h21,hvn,hne,ec,w1,w2,hbig];exact⟨by rw[aA];exact h4n,⟨st,pd,n',en,ps',as',bo,by rw[af,Vx O,h4B,hBe]⟩,⟨j+1,rfl,O,⟨by rw[aA];exact hS4.1,fun id h1 h2 h3 h4=>by rw[af,Vx h4];exact hS4.2 id h1 h2 h3 h4⟩,by rw[aA];exact h4n,by rw[af,Vx O];exact h4B,by rw[af,Vx O];exact h41,by rw[af,Vx O];exact h42,by rw[af,VA rfl,hts],by rw[hts];omega⟩,O⟩
  ·have hje:j=bB d.C x:=O;simp only[go_sem,h21,hb2,dE];rw[hfull,<- hje];exact⟨h4B,O,hS4,h41,h42,h43,h44⟩
 ·rw[jZ,<- uf,Vy ZI]at hj;obtain⟨hS,j2,j3,j5,hle⟩:=hj;obtain⟨ee,ev⟩:=cnt1 hle;rw[ee,ev]at hK;have i2:=ae j2;have i3:=ae j3;have i5:=ae j5;have i3u:∀b,(Hx.upd (H.A+1) b).V (H.A+2) 0=_:=fun b=>(cH O).trans i3;have i2u:∀c b',((Hx.upd (H.A+1) (.J 0 3 [c])).upd (H.A+2) b').V (H.A+1) 0=some (3,[c]):=fun c b'=>(cH O).trans lP;simp only[go_sem,e2,e3,e5,i2,i5,i3u,i2u];refine aq.bC aJ hcl (((ovS hS).upd O _).upd O _) ?_ hK;exact .nf rfl fun i hi _=>match i,hi with
   |0,_=>.lit _
   |1,_=>.lit _
 ·obtain⟨_,hS,j2,j3,hbig⟩:=hs;obtain⟨ee,ev⟩:=cnt2 hbig;rw[ee,ev]at hK;have i2:=ae j2;have i3:=ae j3;simp only[go_sem,e2,e3,i2,i3];refine aq.bC aJ hcl (ovS hS) ?_ hK;exact .nf rfl fun i hi _=>match i,hi with
   |0,_=>.lit _
   |1,_=>.lit _
end Go.Proofs
namespace Go.Hx
variable {P:Program}
variable {ids:List Nat}{r:List ZK}{lo:Nat}{e0 e1:TypeId}{H:ZJ}{v:ZK}
structure Z2 (lo:Nat)(H:ZJ)(e1 e0:TypeId)(v:ZK)(ids:List Nat)(na:List (List ZK)):Prop where
 len:ids.length=na.length
 nd:ids.Nodup
 nk:∀i∈ids,lo<=i/\i<H.A
 top:aD lo H e1 v (List.zipWith (fun i n=>ZK.U i 0 0 n 1) ids (na.map List.length))
 row:∀(k id:Nat) (r:List ZK),ids[k]?=some id->na[k]?=some r->H.get id=some (.J 0 e0 r)
theorem Z2.nil :Z2 lo H e1 e0 (.lit (.slice none 0 0)) [] [] :=
 ⟨rfl,.nil,fun i h=>(by cases h),.nil,fun k id r h=>(by simp at h)⟩
theorem Z2.nc {H':ZJ}{na:List (List ZK)}(h:Z2 lo H e1 e0 v ids na)(hn:H.A<=H'.A)(hk:∀id,lo<=id->id<H.A->H'.get id=H.get id):Z2 lo H' e1 e0 v ids na :=
 ⟨h.len,h.nd,fun i hi=>⟨(h.nk i hi).1,by have:=(h.nk i hi).2;omega⟩,h.top.nc ZI hn fun id _ h1 h2 _ _=>hk id h1 h2,fun k id r h1 h2=>by
  have:=h.nk id (an h1);rw[hk id this.1 this.2];exact h.row k id r h1 h2⟩
def Z2.app {n:Nat}{na:List (List ZK)}{t:TypeId}{z:List ZK}(ht:P.underlying t=some (.slice e1))(hz:P.cellsOf e1=1)(hzero:cw P e1=some z)(hby:P.bytesOf e1=24)(hne:e1≠e0)
  (hb:na.length<2 ^ 40) (h:Z2 lo H e1 e0 v ids na) (hlo:lo<=H.A) (hn:n=H.A+2):
  ∃v' H',cr P (ext (ext H [.J 0 e0 r]) [.J 0 e1 [.U H.A 0 0 r.length 1]]) n t t v (.U (H.A+1) 0 0 1 1)=some (v',H')/\Z2 lo H' e1 e0 v' (ids++[H.A]) (na++[r])/\H.A<=H'.A/\(∀k,k<H.A->k<lo->H'.get k=H.get k):=by
 obtain⟨Hb,hHb⟩:∃Hb,Hb=ext H [.J 0 e0 r]:=⟨_,rfl⟩
 have nb:Hb.A=H.A+1:=hHb▸rfl
 have ob:ZN H Hb:=hHb▸.ext _ _
 have gb:=de hHb
 have htop:=h.top.over ob;obtain⟨v',H',hA,hO,hL,hp⟩:=iR (P:=P) (H:=Hb) (t:=t) (x:=.U H.A 0 0 r.length 1) (n:=n) ht hz hzero rfl (by rw[hby];simp[h.len];omega) htop O O;rw[nb,hHb]at hA;have nb:∀id g,lo<=id->id<Hb.A->Hb.get id=some (.J g e0 r)->H'.get id=Hb.get id:=fun id g h1 h2 h3=>hp id h2 fun g' m he=>by
  rcases htop with ⟨hv,_⟩|⟨i,g2,_,_,hv,h4⟩
  ·rw[hv]at he;cases he
  ·rw[hv]at he;obtain rfl:i=id:=(ZK.U.inj he).1;rw[h4]at h3;cases h3;exact hne rfl
 have oldr:∀id g q,lo<=id->id<Hb.A->Hb.get id=some (.J g e0 q)->H'.get id=Hb.get id:=fun id g q h1 h2 h3=>hp id h2 fun g' m he=>by
  rcases htop with ⟨hv,_⟩|⟨i,g2,_,_,hv,h4⟩
  ·rw[hv]at he;cases he
  ·rw[hv]at he;obtain rfl:i=id:=(ZK.U.inj he).1;rw[h4]at h3;cases h3;exact hne rfl
 refine⟨v',H',hA,⟨by simp[h.len],Xy.2 ⟨h.nd,ZF,fun a ha b hb=>by
  obtain rfl:=List.mem_singleton.1 hb;have:=(h.nk a ha).2;omega⟩,fun i hi=>?_,?_,fun k id q h1 h2=>?_⟩,O,fun k hk hkl=>?_⟩
 ·rcases V3.1 hi with h1|h1
  ·have:=h.nk i h1;omega
  ·obtain rfl:=List.mem_singleton.1 h1;omega
 ·rw[Wk,List.zipWith_append (by rw[VJ];exact h.len)];exact hO
 ·have hk:=VX.1 h1;obtain⟨hk,_⟩:=hk;rw[List.length_append,Wl]at hk;rcases VV k ids.length with hlt|hge
  ·rw[VH hlt]at h1;rw[VH (by rw[<- h.len];exact hlt)]at h2;have hr:=h.nk id (an h1);have hg:=h.row k id q h1 h2;rw[oldr id 0 q hr.1 O ((ob.nb id hr.2).trans hg),ob.nb id hr.2];exact hg
  ·obtain rfl:k=ids.length:=O;rw[VS ZI,XC]at h1;rw[h.len,VS ZI,XC]at h2;cases h1;cases h2;rw[oldr H.A 0 r hlo O gb];exact gb
 ·rw[hp k O fun g m he=>?_,ob.nb k hk];rcases htop with ⟨hv,_⟩|⟨i,g2,a1,_,hv,h4⟩
  ·rw[hv]at he;cases he
  ·rw[hv]at he;have:=(ZK.U.inj he).1;omega
def Z2.A3 {na:List (List ZK)}(h:Z2 lo H e1 e0 v ids na)(h0:na≠[]):∃id g,lo<=id/\id<H.A/\v=.U id g 0 na.length 1/\H.get id=some (.J g e1 (List.zipWith (fun i n=>ZK.U i 0 0 n 1) ids (na.map List.length)))/\(e1≠e0->id ∉ ids):=by
 have hzl:(List.zipWith (fun i n=>ZK.U i 0 0 n 1) ids (na.map List.length)).length=na.length:=by simp[h.len]
 rcases h.top with ⟨hv,h4⟩|⟨i,g,a,b,hv,h4⟩
 ·rw[h4]at hzl;exact absurd (VF hzl.symm) h0
 ·refine⟨i,g,a,b,by rw[hv,hzl],h4,fun hne hm=>?_⟩;obtain⟨k,hk⟩:=VG.1 hm;have hkl:k<na.length:=by rw[<- h.len];exact(VX.1 hk).1
  have:=h.row k i _ hk (Vz hkl);rw[h4]at this;exact hne (ZQ.J.inj (Option.some.inj this)).2.1
def Z2.store {na:List (List ZK)}(h:Z2 lo H e1 e0 v ids na)(hne:e1≠e0){k id:Nat}{r':List ZK}(hk:ids[k]?=some id)(hr:na[k]?=some r)(hl:r'.length=r.length):Z2 lo (H.upd id (.J 0 e0 r')) e1 e0 v ids (na.set k r'):=by
 have hid:=h.nk id (an hk);have h0:na≠[]:=fun e=>by rw[e]at hr;simp at hr
 refine⟨by rw[VW];exact h.len,h.nd,fun i hi=>by rw[aA];exact h.nk i hi,?_,fun j id' q h1 h2=>?_⟩
 ·have e:(na.set k r').map List.length=na.map List.length:=by
   rw[XD,hl];apply V9;intro i;rw[WU];split
   ·rename_i hi;subst hi;have hkl:=(VX.1 hr).1;rw[VA (by rw[VJ];exact hkl),List.getElem?_map,hr];rfl
   ·rfl
  rw[e];obtain⟨i,g,a,b,_,h4,h5⟩:=h.A3 h0;refine h.top.nc ZI (by rw[aA];exact Nat.le_refl _) fun i2 g2 _ _ h3 _=>?_;rw[af,Vx];rintro rfl;rw[h.row k i2 r hk hr]at h3;cases h3;exact hne rfl
 ·rw[af];by_cases hj:j=k
  ·subst hj;rw[hk]at h1;cases h1;rw[VQ (VX.1 hr).1]at h2;cases h2;rw[VA rfl]
  ·rw[Wa (fun e=>hj e.symm)]at h2;rw[Vx,h.row j id' q h1 h2];rintro rfl;exact hj ((WV (VX.1 h1).1 h.nd).1 (by rw[h1,hk]))
theorem Z2.fz {S:Nat->Prop}{nx:Nat}{na:List (List ZK)}(h:Z2 lo H e1 e0 v ids na)(hS:∀i,lo<=i->S i)(hr:∀r∈na,∀c∈r,Fz S H nx c c):
  Fz S H nx v (.Q na.length (na.map fun r=>.Q r.length r)):=by
 have hz:(List.zipWith (fun i n=>ZK.U i 0 0 n 1) ids (na.map List.length)).length=na.length:=by simp[h.len]
 have:=h.top.fz (S:=S) (nx:=nx) (cs':=na.map fun r=>.Q r.length r) hS (by simp[h.len]) fun i hi hi'=>by
  simp only[VO,List.getElem_zipWith];have hil:i<na.length:=O
  have hii:i<ids.length:=by rw[h.len];exact hil
  refine .nz (hS _ (h.nk _ (Wo hii)).1) (h.row i _ _ (Vz hii) (Vz hil)) ZF fun j hj h2 h'=>?_;have e0:(0:Nat)+j=j:=Nat.zero_add j;have h3:=hr na[i] (Wo hil) _ (Wo h');simpa only[e0] using h3
 rw[VJ]at this;exact this
end Go.Hx
namespace Go.Proofs
open Go.Hx
variable {l:List (Int × Int)}{v:List Int}{c j k n w:Nat}
def bA:List (Int × Int)->Int->List (List Int)
 | [],_=>[]
 |p :: l,i=>((aS (List.replicate p.1.toNat p.2++bS l) i).take p.1.toNat) :: bA l i
def wE (l:List (Int × Int))(i:Int):(bA l i).length=l.length:=by
 induction l with
 |nil=>rfl
 |cons p l ih=>simp[bA,ih]
def qB (p:Int × Int)(l:List (Int × Int)):bS (p :: l)=List.replicate p.1.toNat p.2++bS l:=by unfold bS;simp
def ui (i:Int):∀ {k:Nat} {p:Int × Int},l[k]?=some p->(bA l i)[k]?=some ((aS (bS (l.drop k)) i).take p.1.toNat):=by
 induction l with
 |nil=>intro k p h;simp at h
 |cons q l ih =>
  intro k p h;cases k with
  |zero =>
   simp only[List.getElem?_cons_zero,Option.some.injEq]at h;subst h;rw[List.drop_zero,qB];rfl
  |succ k =>
   simp only[List.getElem?_cons_succ]at h;simp only[bA,List.getElem?_cons_succ,List.drop_succ_cons];exact ih h
def wG {cs:List Int}{c:Int}(h:cs[k]?=some c)(i:Int):(aS cs i)[k]?=some (i / aj (cs.drop (k+1)) % c):=by
 induction cs generalizing k with
 |nil=>simp at h
 |cons d cs ih =>
  cases k with
  |zero =>
   simp only[List.getElem?_cons_zero,Option.some.injEq]at h;subst h;rfl
  |succ k =>
   simp only[List.getElem?_cons_succ]at h;simp only[List.drop_succ_cons];exact ih h
def Cz (h:∀p∈l,1<=p.1/\1<=p.2)(i:Int):wX l (bA l i):=by
 refine⟨wE l i,fun k p r hp hr=>?_⟩;rw[ui i hp]at hr;cases hr;have hpp:=h p (an hp);rw[pE hp,qB];refine⟨by rw[VK,mi,List.length_append,VR];omega,fun a ha=>?_⟩;obtain⟨j,hj⟩:=VG.1 ha;have hjl:=aI hj;rw[VK,mi]at hjl;rw[V4 O]at hj;have hc:(List.replicate p.1.toNat p.2++bS (l.drop (k+1)))[j]?=some p.2:=by rw[VH (by rw[VR];omega),Wc,VA O]
 rw[wG hc]at hj;cases hj;exact⟨WS _ O,WB _ O⟩
structure ZS where
 N:Nat
 K:Nat
 cs:Nat->Nat
 cd:Nat->Nat
 nq:Nat->Nat->Nat
 nG:Nat->Nat->Nat
 nr:Nat->Int
 wt:Nat->Int
def ZS.br (D:ZS)(k w:Nat):Nat:=D.nq k w*D.cd k+D.nG k w
structure ZS.Ok (D:ZS):Prop where
 nq:∀k w,k<D.K->w<D.N->D.nq k w<D.cs k
 nG:∀k w,k<D.K->w<D.N->D.nG k w<D.cd k
 cd:∀k,k<D.K->1<=D.cd k
 wt:∀w,w<D.N->0<=D.wt w/\(D.wt w=0->D.nr w=0)
structure Z3 where
 nw:Nat->Nat->Nat
 nK:Nat->Nat->Bool
 E:Nat->Nat->Int
 B:Nat->Nat->Int
 T:Int
structure Z3.Ok (D:ZS)(t:Z3):Prop where
 nw:∀k w,k+1<D.K->w<D.N->t.nw (k+1) (D.nq (k+1) w)=D.br k w
 nK:∀k c,k<D.K->c<D.cs k->t.nK k c=false->∀w,w<D.N->D.nq k w=c->D.wt w=0
 last:∀k b,k+1=D.K->t.E k b=SS D.N fun w=>if D.br k w=b then D.nr w else 0
 step:∀k b,k+1<D.K->t.E k b=SS (D.cs (k+1)) fun c=>if t.nw (k+1) c=b then t.B (k+1) c else 0
 ge:∀k c x,k<D.K->c<D.cs k->x<D.cd k->t.E k (c*D.cd k+x)<=t.B k c
 at':∀k c,k<D.K->c<D.cs k->∃x,x<D.cd k/\t.E k (c*D.cd k+x)=t.B k c
 tot:t.T=if D.K=0 then SS D.N D.nr else SS (D.cs 0) (t.B 0)
abbrev dN:=Nat->Nat->Nat
def dN.Ok (D:ZS)(p:dN):Prop:=∀k c,k<D.K->c<D.cs k->p k c<D.cd k
def ZS.iX (D:ZS)(p:dN)(k w:Nat):Bool:=(List.range D.K).all fun j=>decide (j<k) ||decide (p j (D.nq j w)=D.nG j w)
variable {D:ZS}{p:dN}
def qP :D.iX p k w=true↔∀j,k<=j->j<D.K->p j (D.nq j w)=D.nG j w:=by
 unfold ZS.iX;rw[VZ];constructor
 ·intro h j h1 h2;have:=h j (VP.2 h2);simp only[Wr,decide_eq_true_eq]at this;rcases this with h3|h3
  ·omega
  ·exact h3
 ·intro h j hj;have hj:=VP.1 hj;simp only[Wr,decide_eq_true_eq];by_cases h1:j<k
  ·exact .inl h1
  ·exact .inr (h j O hj)
def RV (hk:k<D.K):D.iX p k w=true↔p k (D.nq k w)=D.nG k w/\D.iX p (k+1) w=true:=by
 rw[qP,qP];constructor
 ·exact fun h=>⟨h k ZI hk,fun j h1 h2=>h j O h2⟩
 ·rintro⟨h1,h2⟩ j h3 h4;by_cases h:j=k
  ·subst h;exact h1
  ·exact h2 j O h4
def ZS.s (D:ZS)(p:dN)(k b:Nat):Int:=SS D.N fun w=>if D.br k w=b/\D.iX p (k+1) w=true then D.nr w else 0
def ZS.total (D:ZS)(p:dN):Int:=SS D.N fun w=>if D.iX p 0 w=true then D.nr w else 0
def xt (hD:D.Ok){x:Nat}(hk:k<D.K)(hw:w<D.N)(hx:x<D.cd k):D.br k w=c*D.cd k+x↔D.nq k w=c/\D.nG k w=x:=by
 unfold ZS.br;have h1:=hD.nG k w hk hw;generalize D.nq k w=a at *
 generalize D.nG k w=y at *
 generalize D.cd k=m at *
 constructor
 ·intro h;have e1:(a*m+y) / m=a:=by rw[Xf,Nat.mul_add_div O,Xb h1,Nat.add_zero]
  have e2:(c*m+x) / m=c:=by rw[Xf,Nat.mul_add_div O,Xb hx,Nat.add_zero]
  have hac:a=c:=by rw[<- e1,<- e2,h]
  subst hac;exact⟨rfl,O⟩
 ·rintro⟨rfl,rfl⟩;rfl
def Ex (hD:D.Ok)(hp:p.Ok D)(hk:k<D.K)(Q:Nat->Bool)(R:Nat->Bool)(hQ:∀w,w<D.N->R (D.nq k w)=Q w):
  (SS (D.cs k) fun c=>if R c=true then D.s p k (c*D.cd k+p k c) else 0)=SS D.N fun w=>if Q w=true/\D.iX p k w=true then D.nr w else 0:=by
 have e:(SS (D.cs k) fun c=>if R c=true then D.s p k (c*D.cd k+p k c) else 0)=SS (D.cs k) fun c=>SS D.N fun w=>if c=D.nq k w then (if Q w=true/\D.iX p k w=true then D.nr w else 0) else 0:=by
  refine ie fun c hc=>?_;unfold ZS.s;by_cases hR:R c=true
  ·rw[VA hR];refine ie fun w hw=>?_;have hb:=xt hD (c:=c) hk hw (hp k c hk hc);by_cases h1:c=D.nq k w
   ·subst h1;rw[VA rfl];have h2:=hQ w hw;rw[hR]at h2;have:(D.br k w=D.nq k w*D.cd k+p k (D.nq k w)/\D.iX p (k+1) w=true)↔(Q w=true/\D.iX p k w=true):=by
     rw[hb,RV hk,<- h2];constructor
     ·rintro⟨⟨_,h⟩,h'⟩;exact⟨rfl,h.symm,h'⟩
     ·rintro⟨_,h,h'⟩;exact⟨⟨rfl,h.symm⟩,h'⟩
    by_cases h3:Q w=true/\D.iX p k w=true
    ·rw[VA h3,VA (this.2 h3)]
    ·rw[Vx h3,Vx fun h=>h3 (this.1 h)]
   ·rw[Vx h1,Vx fun h=>h1 (hb.1 h.1).1.symm]
  ·rw[Vx hR];refine((ie (g:=fun _=>(0:Int)) fun w hw=>?_).trans (ss _)).symm;by_cases h1:c=D.nq k w
   ·subst h1;rw[VA rfl,Vx fun h=>hR ((hQ w hw).trans h.1)]
   ·rw[Vx h1]
 rw[e,Dz];exact ie fun w hw=>DA (hD.nq k w hk hw) _
variable {t:Z3}
def Ey (hD:D.Ok)(ht:t.Ok D)(hp:p.Ok D)(hk:k+1<D.K)(b:Nat):
  D.s p k b=SS (D.cs (k+1)) fun c=>if t.nw (k+1) c=b then D.s p (k+1) (c*D.cd (k+1)+p (k+1) c) else 0:=by
 have:=Ex hD hp hk (fun w=>decide (D.br k w=b)) (fun c=>decide (t.nw (k+1) c=b)) fun w hw=>by rw[ht.nw k w hk hw]
 simp only[decide_eq_true_eq]at this;rw[this];rfl
def Ez (ht:t.Ok D)(p:dN)(hk:k+1=D.K)(b:Nat):D.s p k b=t.E k b:=by
 rw[ht.last k b hk];unfold ZS.s;refine ie fun w _=>?_;have:D.iX p (k+1) w=true:=qP.2 fun j h1 h2=>O
 simp only[this,and_true]
def RW (hD:D.Ok)(hp:p.Ok D)(hK:0<D.K):D.total p=SS (D.cs 0) fun c=>D.s p 0 (c*D.cd 0+p 0 c):=by
 have:=Ex hD hp hK (fun _=>true) (fun _=>true) fun _ _=>rfl;simp only[if_true,true_and]at this;exact this.symm
def Al (hD:D.Ok)(ht:t.Ok D)(hp:p.Ok D):∀(n k:Nat),k+n+1=D.K->∀b,D.s p k b<=t.E k b:=by
 intro n
 induction n with
 |zero=>exact fun k hk b=>Int.le_of_eq (Ez ht p O b)
 |succ n ih =>
  intro k hk b;rw[Ey hD ht hp O,ht.step k b O];refine zQ fun c hc=>?_;by_cases h:t.nw (k+1) c=b
  ·rw[VA h,VA h];exact X5 (ih (k+1) O _) (ht.ge (k+1) c _ O hc (hp _ _ O hc))
  ·rw[Vx h,Vx h];omega
def EA {f g:Nat->Int}(h:∀i,i<n->f i<=g i):SS n f=SS n g↔∀i,i<n->f i=g i:=by
 constructor
 ·intro e i hi;rcases Int.lt_or_eq_of_le (h i hi) with h1|h1
  ·have:=DB h hi h1;omega
  ·exact h1
 ·exact ie
def oD (D:ZS)(t:Z3)(p:dN)(k c:Nat):Prop:=D.s p k (c*D.cd k+p k c)=t.B k c
def Am (hD:D.Ok)(ht:t.Ok D)(hp:p.Ok D)(hk:k<D.K)(hc:c<D.cs k):
  oD D t p k c↔t.E k (c*D.cd k+p k c)=t.B k c/\(k+1<D.K->∀c',c'<D.cs (k+1)->t.nw (k+1) c'=c*D.cd k+p k c->oD D t p (k+1) c'):=by
 have h1:=Al hD ht hp (D.K-k-1) k O (c*D.cd k+p k c);have h2:=ht.ge k c _ hk hc (hp k c hk hc);have key:k+1<D.K->(D.s p k (c*D.cd k+p k c)=t.E k (c*D.cd k+p k c)↔∀c',c'<D.cs (k+1)->t.nw (k+1) c'=c*D.cd k+p k c->oD D t p (k+1) c'):=fun hk1=>by
  rw[Ey hD ht hp hk1,ht.step k _ hk1,EA fun c' hc'=>?_]
  ·constructor
   ·intro h c' hc' ha;have:=h c' hc';rw[VA ha,VA ha]at this;exact this
   ·intro h c' hc';by_cases ha:t.nw (k+1) c'=c*D.cd k+p k c
    ·rw[VA ha,VA ha];exact h c' hc' ha
    ·rw[Vx ha,Vx ha]
  ·by_cases ha:t.nw (k+1) c'=c*D.cd k+p k c
   ·rw[VA ha,VA ha];exact X5 (Al hD ht hp (D.K-k-2) (k+1) O _) (ht.ge _ _ _ hk1 hc' (hp _ _ hk1 hc'))
   ·rw[Vx ha,Vx ha];omega
 unfold oD;constructor
 ·intro h;exact⟨O,fun hk1=>(key hk1).1 O⟩
 ·rintro⟨h3,h4⟩;by_cases hk1:k+1<D.K
  ·have:=(key hk1).2 (h4 hk1);omega
  ·rw[Ez ht p O];exact h3
def An (hD:D.Ok)(ht:t.Ok D)(hp:p.Ok D):D.total p<=t.T/\(D.total p=t.T↔(0<D.K->∀c,c<D.cs 0->oD D t p 0 c)):=by
 rw[ht.tot];by_cases hK:D.K=0
 ·rw[VA hK];have:D.total p=SS D.N D.nr:=ie fun w _=>by rw[VA (qP.2 fun j _ h=>O)]
  rw[this];exact⟨Int.le_refl _,fun _ h=>O,fun _=>rfl⟩
 ·rw[Vx hK,RW hD hp O];have hle:∀c,c<D.cs 0->D.s p 0 (c*D.cd 0+p 0 c)<=t.B 0 c:=fun c hc=>X5 (Al hD ht hp (D.K-1) 0 O _) (ht.ge _ _ _ O hc (hp _ _ O hc));refine⟨zQ hle,?_⟩;rw[EA hle];exact⟨fun h _=>h,fun h=>h O⟩
def RX (hD:D.Ok)(ht:t.Ok D):∀(n k:Nat),k+n+1=D.K->∀b,(∀w,w<D.N->D.br k w=b->D.nr w=0)->t.E k b=0:=by
 intro n
 induction n with
 |zero =>
  intro k hk b h;rw[ht.last k b O];refine(ie (g:=fun _=>(0:Int)) fun w hw=>?_).trans (ss _);by_cases hb:D.br k w=b
  ·rw[VA hb,h w hw hb]
  ·rw[Vx hb]
 |succ n ih =>
  intro k hk b h;rw[ht.step k b O];refine(ie (g:=fun _=>(0:Int)) fun c hc=>?_).trans (ss _);by_cases ha:t.nw (k+1) c=b
  ·rw[VA ha];obtain⟨x,hx,e⟩:=ht.at' (k+1) c O hc;rw[<- e];refine ih (k+1) O _ fun w hw hb=>h w hw ?_;rw[<- ht.nw k w O hw,((xt hD O hw hx).1 hb).1];exact ha
  ·rw[Vx ha]
abbrev Ch:=Nat->Nat->Option Nat
def lh (D:ZS)(t:Z3)(ch:Ch):Nat->Nat->Nat->Bool
 |0,_,_=>true
 |n+1,k,c=>(List.range (D.cd k)).any fun x=>decide (t.E k (c*D.cd k+x)=t.B k c) &&
   !((List.range (D.cs (k+1))).any fun c'=>decide (t.nw (k+1) c'=c*D.cd k+x) && t.nK (k+1) c' && !lh D t ch n (k+1) c') &&
   (match ch k c with|none=>true|some y=>decide (y=x))
def iF (D:ZS)(t:Z3)(ch:Ch)(n k c x:Nat):Prop:=t.E k (c*D.cd k+x)=t.B k c/\(∀c',c'<D.cs (k+1)->t.nw (k+1) c'=c*D.cd k+x->t.nK (k+1) c'=true->lh D t ch n (k+1) c'=true)/\(∀y,ch k c=some y->y=x)
variable {ch:Ch}
def sI :lh D t ch (n+1) k c=true↔∃x,x<D.cd k/\iF D t ch n k c x:=by
 unfold lh iF;rw[XT];constructor
 ·rintro⟨x,hx,h⟩;simp only[Wh,decide_eq_true_eq,XA,X4,not_and,Bool.not_eq_false,VP]at h;obtain⟨⟨h1,h2⟩,h3⟩:=h;refine⟨x,VP.1 hx,h1,fun c' hc' ha ho=>?_,fun y hy=>?_⟩
  ·exact h2 c' hc' ⟨ha,ho⟩
  ·rw[hy]at h3;simpa using h3
 ·rintro⟨x,hx,h1,h2,h3⟩;refine⟨x,VP.2 hx,?_⟩;simp only[Wh,decide_eq_true_eq,XA,X4];refine⟨⟨h1,fun c' hc'=>?_⟩,?_⟩
  ·rintro⟨⟨ha,ho⟩,hq⟩;rw[h2 c' (VP.1 hc') ha ho]at hq;cases hq
  ·cases hch:ch k c with
   |none=>rfl
   |some y=>simpa using h3 y hch
def oE (D:ZS)(ch:Ch)(p:dN):Prop:=∀k c y,k<D.K->c<D.cs k->ch k c=some y->y=p k c
def RY (hD:D.Ok)(ht:t.Ok D)(hp:p.Ok D)(ha:oE D ch p):∀(n k:Nat),k+n=D.K->∀c,k<D.K->c<D.cs k->oD D t p k c->lh D t ch n k c=true:=by
 intro n
 induction n with
 |zero=>intro k hk c hk2;omega
 |succ n ih =>
  intro k hk c hk2 hc hP;obtain⟨h1,h2⟩:=(Am hD ht hp hk2 hc).1 hP;refine sI.2 ⟨p k c,hp k c hk2 hc,h1,fun c' hc' hab _=>?_,fun y hy=>ha k c y hk2 hc hy⟩;by_cases hk1:k+1<D.K
  ·exact ih (k+1) O c' hk1 hc' (h2 hk1 c' hc' hab)
  ·obtain rfl:n=0:=O;rfl
def kB (D:ZS)(t:Z3)(ch:Ch):Prop:=0<D.K->∀c,c<D.cs 0->t.nK 0 c=true->lh D t ch D.K 0 c=true
noncomputable def mv (D:ZS)(t:Z3)(ch:Ch):dN:=fun k c=>by
 classical exact if h:∃x,x<D.cd k/\iF D t ch (D.K-k-1) k c x then Classical.choose h else (ch k c).getD 0
def xu (h:∃x,x<D.cd k/\iF D t ch (D.K-k-1) k c x):mv D t ch k c<D.cd k/\iF D t ch (D.K-k-1) k c (mv D t ch k c):=by
 unfold mv;rw[dif_pos h];exact Classical.choose_spec h
def EB (hD:D.Ok)(hch:∀k c y,k<D.K->c<D.cs k->ch k c=some y->y<D.cd k):(mv D t ch).Ok D/\oE D ch (mv D t ch):=by
 constructor
 ·intro k c hk hc;by_cases h:∃x,x<D.cd k/\iF D t ch (D.K-k-1) k c x
  ·exact(xu h).1
  ·unfold mv;rw[dif_neg h];cases hq:ch k c with
   |none=>exact hD.cd k hk
   |some y=>exact hch k c y hk hc hq
 ·intro k c y hk hc hy;by_cases h:∃x,x<D.cd k/\iF D t ch (D.K-k-1) k c x
  ·exact(xu h).2.2.2 y hy
  ·unfold mv;rw[dif_neg h,hy];rfl
def RZ (hD:D.Ok)(ht:t.Ok D)(hch:∀k c y,k<D.K->c<D.cs k->ch k c=some y->y<D.cd k):∀(n k:Nat),k+n+1=D.K->∀c,c<D.cs k->(t.nK k c=true->lh D t ch (n+1) k c=true)->oD D t (mv D t ch) k c:=by
 obtain⟨hp,_⟩:=EB (t:=t) hD hch;have zero:∀(n k:Nat),k+n+1=D.K->∀c,c<D.cs k->(∀w,w<D.N->D.nq k w=c->D.nr w=0)->oD D t (mv D t ch) k c:=by
  intro n k hk c hc h;obtain⟨x,hx,e⟩:=ht.at' k c O hc;have e0:t.B k c=0:=by
   rw[<- e];exact RX hD ht n k hk _ fun w hw hb=>h w hw ((xt hD O hw hx).1 hb).1
  unfold oD;rw[e0];unfold ZS.s;refine(ie (g:=fun _=>(0:Int)) fun w hw=>?_).trans (ss _);by_cases hb:D.br k w=c*D.cd k+mv D t ch k c/\D.iX (mv D t ch) (k+1) w=true
  ·rw[VA hb,h w hw ((xt hD O hw (hp k c O hc)).1 hb.1).1]
  ·rw[Vx hb]
 intro n
 induction n with
 |zero =>
  intro k hk c hc h;cases ho:t.nK k c
  ·exact zero 0 k hk c hc fun w hw hcw=>(hD.wt w hw).2 (ht.nK k c O hc ho w hw hcw)
  ·have hg:=sI.1 (h ho);rw[show (0:Nat)=D.K-k-1 by omega]at hg;obtain⟨h1,h2,h3⟩:=xu hg;exact(Am hD ht hp O hc).2 ⟨h2,fun h=>O⟩
 |succ n ih =>
  intro k hk c hc h;cases ho:t.nK k c
  ·exact zero (n+1) k hk c hc fun w hw hcw=>(hD.wt w hw).2 (ht.nK k c O hc ho w hw hcw)
  ·have hg:=sI.1 (h ho);rw[show n+1=D.K-k-1 by omega]at hg;obtain⟨h1,h2,h3,h4⟩:=xu hg;rw[show D.K-k-1=n+1 by omega]at h3;exact(Am hD ht hp O hc).2 ⟨h2,fun hk1 c' hc' hab=>ih (k+1) O c' hc' fun ho'=>h3 c' hc' hab ho'⟩
def uD (hD:D.Ok)(ht:t.Ok D)(hch:∀k c y,k<D.K->c<D.cs k->ch k c=some y->y<D.cd k):kB D t ch↔∃p:dN,p.Ok D/\oE D ch p/\D.total p=t.T:=by
 constructor
 ·intro h;obtain⟨hp,hag⟩:=EB (t:=t) hD hch;refine⟨_,hp,hag,(An hD ht hp).2.2 fun hK c hc=>?_⟩;refine RZ hD ht hch (D.K-1) 0 O c hc fun ho=>?_;have:=h hK c hc ho;rw[show D.K=D.K-1+1 by omega]at this;exact this
 ·rintro⟨p,hp,hag,ht'⟩ hK c hc ho;exact RY hD ht hp hag D.K 0 O c hK hc ((An hD ht hp).2.1 ht' hK c hc)
def R7 (hD:D.Ok)(ht:t.Ok D):kB D t fun _ _=>none:=by
 have key:∀(n k c:Nat),k+n=D.K->k<D.K->c<D.cs k->lh D t (fun _ _=>none) n k c=true:=by
  intro n
  induction n with
  |zero=>intro k c h1 h2;omega
  |succ n ih =>
   intro k c h1 h2 hc;obtain⟨x,hx,e⟩:=ht.at' k c h2 hc;refine sI.2 ⟨x,hx,e,fun c' hc' _ _=>?_,fun y hy=>by cases hy⟩;by_cases hk1:k+1<D.K
   ·exact ih (k+1) c' O hk1 hc'
   ·obtain rfl:n=0:=O;rfl
 exact fun hK c hc _=>key D.K 0 c O hK hc
def CA {l r:List Int}(h:∀c∈l,1<=c)(hr:0<=aj r):aj r<=aj (l++r):=by
 rw[sh];have h1:=dY h;have h2:1*aj r<=aj l*aj r:=W9 h1 hr;omega
noncomputable def ma (d:ZM)(i:Int):Int:=if eQ d=0 then (if 0<=i/\i<bX d then 0 else 2) else eQ d
noncomputable def qC (d:ZM)(i:Int):List (List Int):=if ma d i=0 then bA (aL d) i else []
def iD (n:Nat)(v:List Int)(j:Nat):List Int:=v.take j++List.replicate (n-j) 0
def M8 (n:Nat)(v:List Int):iD n v 0=List.replicate n 0:=by simp[iD]
def M9 (h:v.length=n):iD n v n=v:=by simp[iD,<- h]
def CB (h:v.length=n)(hj:j<=n):(iD n v j).length=n:=by simp[iD];omega
def Na (h:v.length=n){a:Int}(ha:v[j]?=some a):(iD n v j).set j a=iD n v (j+1):=by
 have hj:=aI ha;unfold iD;rw[WA _ _ (by rw[VK];omega),aU ha];have e:n-j=(n-(j+1))+1:=O
 rw[e,WC];simp[VK,Xk (XW hj)]
def CC {i M c:Int}(hM:1<=M)(hc:1<=c):(i % (M*c)) / M=i / M % c/\(i % (M*c)) % M=i % M:=by
 have h:=Dl i M c O O;have h0:=WS i (show M≠0 by omega);have h1:=WB i (show 0<M by omega);rw[h];constructor
 ·rw[Zn _ _ O,XH h0 h1,YB]
 ·rw[Y6,Zu _ (Int.dvd_refl M)]
def Nb (d:ZM)(hf:Z1 d)(i0:Int)(hi0:-9223372036854775808<=i0/\i0<=9223372036854775807)(H:ZJ)(K:ZP->ZJ->Prop)(hK:K (.ret (.nf [aE (qC d i0),aa (ma d i0)])) H):ag Tryz.prog G0 24 [cM d,aa i0] H K:=by
 refine ag.Z ⟨_,Tryz.func24,rfl,rfl⟩ fun hcl=>?_;refine ag.st (n:=75) (rs:=[.tmp 4,.tmp 5]) Tryz.func24 ?_;simp only[go_sem,fW,bq];obtain⟨H1,hH1⟩:∃H1,H1=ext H [.J 0 38 (bq d),.J 0 3 [.lit (.int .i64 i0)]]:=⟨_,rfl⟩
 have g1:=de hH1
 have g2:=gE hH1 1 rfl
 have n1:H1.A=H.A+2:=hH1▸rfl
 have o1:ZN H H1:=hH1▸.ext _ _
 unfold bq at hH1;rw[<- hH1];refine au.Z (wD d hf _ _ ⟨trivial,?_⟩);simp only[go_sem];obtain⟨H2,hH2⟩:∃H2,H2=ext H1 [.J 0 3 [.lit (.int .i64 (jy d))]]:=⟨_,rfl⟩
 have g3:H2.get (H.A+2)=some (.J 0 3 [.lit (.int .i64 (jy d))]):=by rw[hH2,<- n1];exact cI
 have o2:ZN H1 H2:=hH2▸.ext _ _
 have n2:H2.A=H.A+3:=by rw[hH2,aM,n1];rfl
 rw[<- hH2];have nilF:∀ {Hx:ZJ} (e:Int),ma d i0=e->e≠0->ZN H Hx->aq Tryz.prog G0 H K (.nf [.lit (.slice none 0 0),.lit (.int .i64 e)]) Hx:=fun {Hx} e he h0 ov=>by
  have ev:qC d i0=[]:=by unfold qC;rw[he,Vx h0]
  rw[ev,he]at hK;refine aq.bC aJ hcl ov ?_ hK;exact .nf rfl fun i hi _=>match i,hi with
   |0,_=>.nil
   |1,_=>.lit _
 by_cases hc0:eQ d=0;rotate_left
 ·simp only[go_sem,hc0,n1];exact nilF _ (by unfold ma;rw[Vx hc0]) hc0 (o1.trans o2)
 have hcv:jy d=bX d:=by unfold jy;rw[VA hc0]
 have hok:ZR d:=by
  refine V2 fun h=>?_;unfold eQ at hc0;rw[gU h]at hc0;cases hc0
 have hpn:bX d<=4096:=by
  refine V2 fun h=>?_;unfold eQ at hc0;rw[ep hok,VA rfl,Vx h]at hc0;cases hc0
 rw[hcv]at g3;have l2:=ae ((o2.nb _ O).trans g2);have l3:=ae g3;have n1':H1.A=H.A+2:=n1;by_cases hi1:i0<0
 ·simp only[go_sem,hc0,n1,l2,hi1];exact nilF 2 (by unfold ma;rw[VA hc0,Vx O]) ZG (o1.trans o2)
 by_cases hi2:i0 >= bX d
 ·simp only[go_sem,hc0,n1,l2,l3,hi1,hi2];exact nilF 2 (by unfold ma;rw[VA hc0,Vx O]) ZG (o1.trans o2)
 have hpe:ma d i0=0:=by unfold ma;rw[VA hc0,VA O]
 have hpv:qC d i0=bA (aL d) i0:=by unfold qC;rw[VA hpe]
 rw[hpe,hpv]at hK;have m1:=ae ((o2.nb _ O).trans g1);unfold bq at m1;have m1e:∀L,(ext H2 L).V H.A 0=_:=fun L=>(ea O).trans m1;simp only[go_sem,hc0,n1,l2,l3,hi1,hi2,m1e];refine au.Z (qT d _ _ ⟨trivial,?_⟩);simp only[go_sem];obtain⟨R,hR'⟩:∃R,R=ext (ext H2 [.J 0 33 [.lit (.slice none 0 0)]]) [dU d]:=⟨_,rfl⟩
 rw[<- hR'];have nR:R.A=H.A+5:=by rw[hR',aM,aM,n2];rfl
 have oR:ZN H2 R:=by rw[hR'];exact(ZN.ext _ _).trans (.ext _ _)
 have e4n:(ext H2 [.J 0 33 [.lit (.slice none 0 0)]]).A=H.A+4:=by rw[aM,n2];rfl
 have gbx:R.get (H.A+4)=some (dU d):=by rw[hR',<- e4n];exact cI
 have g8:R.get (H.A+3)=some (.J 0 33 [.lit (.slice none 0 0)]):=by rw[hR',dM _ _ _ O,show H.A+3=H2.A by omega];exact cI
 refine W.env fun E hE=>?_;have e2:E 2=.M H.A 0 0:=by rw[hE];simp only[go_sem]
 have e3:E 3=.M (H.A+1) 0 0:=by rw[hE];simp only[go_sem]
 have e6:E 6=.M (H.A+2) 0 0:=by rw[hE,<- n1];simp only[go_sem]
 have e8:E 8=.M (H.A+3) 0 0:=by rw[hE,<- n2];simp only[go_sem]
 have e30:E 30=.Z 104 [] [.M (H.A+4) 0 0]:=by rw[hE,<- e4n];rfl
 clear hE;have hRn:=hok.n;have hrng:=kU hok;obtain⟨L,hL⟩:∃L,L=aL d:=⟨_,rfl⟩
 have hLl:L.length=(aB d).length:=by rw[hL];exact uf d
 have dl8:(aB d).length<=d.C.length:=ia;have hn8:=hRn.n1.2;rw[<- hL]at hrng hK
 let zr:Int × Int->List ZK:=fun p=>ints (List.replicate p.1.toNat 0)
 let S:ZJ->Prop:=fun Hx=>R.A<=Hx.A/\∀id,id<R.A->id≠H.A+3->Hx.get id=R.get id
 refine W.jN (f:=104) (first:=[]) (cap:=[.M (H.A+4) 0 0]) (by show E 30=_;exact e30) (qS d (by have:=hf.C.1;omega) hf.Y (H.A+4))
  (fun k Hx=>S Hx/\R.A+1<=Hx.A/\∃pv ids,Hx.get (H.A+3)=some (.J 0 33 [pv])/\Z2 (R.A+1) Hx 42 3 pv ids ((L.take k).map zr))
  (fun c Hx=>False)
  (fun k Hx h=>by rw[h.1.2 _ O O];exact gbx)
  (fun k Hx b h=>⟨⟨h.1.1,fun id h1 h2=>by rw[af,Vx O];exact h.1.2 id h1 h2⟩,h.2.1,by
   obtain⟨pv,ids,a,b'⟩:=h.2.2;exact⟨pv,ids,by rw[af,Vx O];exact a,b'.nc (by rw[aA];exact Nat.le_refl _) fun id h1 _=>by rw[af,Vx O]⟩⟩)
  (fun c Hx b h=>h)
  (fun b=>⟨⟨by rw[aM];omega,fun id h1 h2=>aX h1⟩,by rw[aM];exact Nat.le_refl _,_,[],by rw[aX O];exact g8,.nil⟩)
  ZG lD (fun _ _ _=>trivial) (fun _ _ _=>trivial) (fun k y Hx B Bb hy hj hn hB hBb=>?_) (fun Hx hj hn=>?_) (fun Hx hs hn=>hs.elim) (fun i Hx hs hn=>hs.elim)
 ·obtain⟨v,hv,rfl⟩:=kE hy;obtain⟨v1,v2,v3⟩:=fw hv;obtain⟨x,hx⟩:=ao (l:=d.C) (i:=v) v1;obtain⟨x1,x2⟩:=hRn.dec v x hx v2;have hrk:L[k]?=some (df d v):=by rw[hL];exact nV hv
  have hrc:df d v=((bB d.C x:Int),x.L):=by unfold df;rw[hx]
  have hrr:=hrng _ (an hrk);rw[hrc]at hrk hrr;dsimp only at hrr;obtain⟨hS,hnx,pv,ids,h8,hM⟩:=hj;refine W.vs ?_;simp only[go_sem,eZ,bb,fO,V6,Ws,V7,Wb,hB];obtain⟨H3,hH3⟩:∃H3,H3=Hx.upd R.A Bb:=⟨_,rfl⟩
  rw[<- hH3];obtain⟨st,pd,n',en,ps',as',bo,hBe⟩:=hBb;have n3:H3.A=Hx.A:=by rw[hH3];rfl
  have o3:∀id,id≠R.A->H3.get id=Hx.get id:=fun id h=>by rw[hH3,af,Vx h]
  have jB:H3.get R.A=some Bb:=by rw[hH3,af,VA rfl]
  have hM3:Z2 (R.A+1) H3 42 3 pv ids ((L.take k).map zr):=hM.nc O fun id h1 _=>o3 id O;have ps:=jK hn8 x2 hRn.L;have hin:fm x.F d.C.length:=fun q hq=>by have:=x2.2 q hq;omega
  have hrn:((bB d.C x:Nat):Int)=aj (aV d.C x):=by have:=ps.prod;unfold bB;omega
  refine W.en (fun E1=>E1 2=.M H.A 0 0 /\ E1 8=.M (H.A+3) 0 0 /\ E1 10=aa v) (by simp only[go_sem,bb,e2,e8]) fun E1 ⟨m2,m8,m10⟩=>?_
  have j1:=ae ((o3 _ O).trans ((hS.2 _ O O).trans ((oR.nb _ O).trans ((o2.nb _ O).trans g1))));unfold bq at j1;have j8:=ae ((o3 _ O).trans h8);obtain⟨rn,hrnn⟩:∃rn,rn=bB d.C x:=⟨_,rfl⟩
  obtain⟨pv',Hj,hA,hO',hnj,hpj⟩:=Z2.app (P:=Tryz.prog) (H:=H3) (n:=H3.A+1+1) (t:=33) (r:=ints (List.replicate rn 0)) Tryz.underlying33 Tryz.nW Tryz.nY Tryz.nX ZG (by simp;omega) hM3 O rfl;rw[aR,VR]at hA;have j8j:Hj.V (H.A+3) 0=_:=ae ((hpj _ O O).trans ((o3 _ O).trans h8));have hrep:List.replicate rn (ZK.lit (.int .i64 0))=ints (List.replicate rn 0):=by simp[ints,aa]
  have tc:=hO'.top.cells;have to:=hO'.top.one;have rn0:(rn:Int) >= 0:=O
  refine W.vs ?_;simp only[go_sem];refine W.dr 7 [0,0,2,0,14,30,62] Tryz.mixed ?_;simp only[go_sem,m2,m8,m10,j1,j8];refine⟨.lit (.int .i64 rn),[],bL.pure fun H2=>pX d.C v x hx hin ps H2 _ ⟨by rw[<- hrn,hrnn];rfl,rfl⟩,?_⟩;simp only[go_sem,m2,m8,m10,rn0,hrep,hA,j8j,tc,to,dE];refine⟨⟨O,O⟩,fun _ h=>O,fun _ h=>O,by rw[af,Vx O,hpj _ O O];exact jB,by rw[aA];omega,⟨by rw[aA];have:=hS.1;omega,fun id h1 h2=>by rw[af,Vx h2,hpj _ O O,o3 _ O];exact hS.2 id h1 h2⟩,by rw[aA];omega,pv',ids++[H3.A],by rw[af,VA rfl],?_⟩;rw[aU hrk,Wk,YL];have hzr:zr ((bB d.C x:Int),x.L)=ints (List.replicate rn 0):=by rw[hrnn];rfl
  rw[hzr];exact hO'.nc (by rw[aA];exact Nat.le_refl _) fun id h1 _=>by rw[af,Vx O]
 ·obtain⟨hS,hnx,pv,ids,h8,hM⟩:=hj;rw[jZ,<- hLl,Vy ZI]at hM;have x1:=ae ((hS.2 _ O O).trans ((oR.nb _ O).trans ((o2.nb _ O).trans g1)));unfold bq at x1;simp only[go_sem,e2,x1];refine au.Z (qT d _ _ ⟨trivial,?_⟩);simp only[go_sem];obtain⟨R2,hR2⟩:∃R2,R2=ext Hx [dU d]:=⟨_,rfl⟩
  rw[<- hR2];have nR2:R2.A=Hx.A+1:=hR2▸rfl
  have oR2:ZN Hx R2:=hR2▸.ext _ _
  have gb2:=de hR2
  refine W.env fun E2 hE2=>?_;have f2:E2 2=.M H.A 0 0:=by rw[hE2];simp only[go_sem,e2]
  have f3:E2 3=.M (H.A+1) 0 0:=by rw[hE2];simp only[go_sem,e3]
  have f6:E2 6=.M (H.A+2) 0 0:=by rw[hE2];simp only[go_sem,e6]
  have f8:E2 8=.M (H.A+3) 0 0:=by rw[hE2];simp only[go_sem,e8]
  have f42:E2 42=.Z 104 [] [.M Hx.A 0 0]:=by rw[hE2];rfl
  clear hE2;have hMr:=hM.nk;have cpos:∀k,∀c∈bS (L.drop k),1<=c:=fun k=>pA fun p hp=>(hrng p (WZ hp)).2.2.1;have hPL:aj (bS L)<=4096:=by rw[hL];exact hpn
  have hPs:∀(k:Nat) (l r:List Int),bS (L.drop k)=l++r->1<=aj r/\aj r<=4096:=fun k l r he=>by
   have hr:=dY (l:=r) fun c hc=>cpos k c (by rw[he];simp[hc]);refine⟨hr,?_⟩;have h1:=CA (l:=l) (r:=r) (fun c hc=>cpos k c (by rw[he];simp[hc])) O;rw[<- he]at h1;have h2:aj (bS (L.drop k))<=aj (bS L):=by
    conv=>rhs;rw[<- V5 k L,zg]
    exact CA (pA fun p hp=>(hrng p (VU hp)).2.2.1) (O)
   omega
  let pr:Nat->Int × Int->List Int:=fun k p=>(aS (bS (L.drop k)) i0).take p.1.toNat
  have prl:∀(k:Nat) (p:Int × Int),L[k]?=some p->(pr k p).length=p.1.toNat:=fun k p hp=>by
   show ((aS (bS (L.drop k)) i0).take p.1.toNat).length=_;rw[VK,mi,pE hp,qB,List.length_append,VR];omega
  let rowA:Nat->Nat->Int × Int->List ZK:=fun k k' p=>if k'<k then ints (pr k' p) else ints (List.replicate p.1.toNat 0)
  refine W.jN (f:=104) (first:=[]) (cap:=[.M Hx.A 0 0]) (by show E2 42=_;exact f42) (qS d (by have:=hf.C.1;omega) hf.Y Hx.A)
   (fun k Hy=>R2.A<=Hy.A/\(∀id,id<R2.A->id ∉ ids->id≠H.A+1->id≠H.A+2->Hy.get id=R2.get id)/\Hy.get (H.A+2)=some (.J 0 3 [.lit (.int .i64 (aj (bS (L.drop k))))])/\Hy.get (H.A+1)=some (.J 0 3 [.lit (.int .i64 (i0 % aj (bS (L.drop k))))])/\∀(k' id:Nat) (p:Int × Int),ids[k']?=some id->L[k']?=some p->Hy.get id=some (.J 0 3 (rowA k k' p)))
   (fun c Hy=>False)
   (fun k Hy h=>by rw[h.2.1 _ O (fun hm=>by have:=hMr _ hm;omega) O O];exact gb2)
   (fun k Hy b h=>⟨h.1,fun id h1 h2 h3 h4=>by rw[af,Vx O];exact h.2.1 id h1 h2 h3 h4,by rw[af,Vx O];exact h.2.2.1,by rw[af,Vx O];exact h.2.2.2.1,fun k' id p h1 h2=>by rw[af,Vx (by have:=hMr _ (an h1);omega)];exact h.2.2.2.2 k' id p h1 h2⟩)
   (fun c Hy b h=>h)
   (fun b=>⟨by rw[aM];omega,fun id h1 h2 h3 h4=>aX h1,?_,?_,fun k' id p h1 h2=>?_⟩)
   ZG lD (fun _ _ _=>trivial) (fun _ _ _=>trivial) (fun k y Hy B Bb hy hj hn hB hBb=>?_) (fun Hy hj hn=>?_) (fun Hy hs hn=>hs.elim) (fun i Hy hs hn=>hs.elim)
  ·rw[aX O,oR2.nb _ O,hS.2 _ O O,oR.nb _ O,List.drop_zero,hL];exact g3
  ·rw[aX O,oR2.nb _ O,hS.2 _ O O,oR.nb _ O,o2.nb _ O,List.drop_zero,hL,Xz O (by show i0<bX d;omega)];exact g2
  ·have:=hMr _ (an h1);rw[aX O,oR2.nb _ O];exact hM.row k' id _ h1 (by rw[List.getElem?_map,h2];rfl)
  ·obtain⟨v,hv,rfl⟩:=kE hy;obtain⟨v1,v2,v3⟩:=fw hv;obtain⟨x,hx⟩:=ao (l:=d.C) (i:=v) v1;have hrk:L[k]?=some (df d v):=(by rw[hL];exact nV hv);have hrc:df d v=((bB d.C x:Int),x.L):=(by unfold df;rw[hx]);have hrr:=hrng _ (an hrk);rw[hrc]at hrk hrr;dsimp only at hrr;obtain⟨hyn,hyo,hy6,hy3,hyr⟩:=hj;refine W.vs ?_;simp only[go_sem,eZ,bb,fO,V6,Ws,V7,Wb,hB];obtain⟨H3,hH3⟩:∃H3,H3=Hy.upd R2.A Bb:=⟨_,rfl⟩
   rw[<- hH3];obtain⟨st,pd,n',en,ps',as',bo,hBe⟩:=hBb;have n3:H3.A=Hy.A:=(by rw[hH3];rfl);have o3:∀id,id≠R2.A->H3.get id=Hy.get id:=fun id h=>by rw[hH3,af,Vx h]
   have jB:H3.get R2.A=some Bb:=(by rw[hH3,af,VA rfl]);obtain⟨rn,hrnn⟩:∃rn,rn=bB d.C x:=⟨_,rfl⟩
   rw[<- hrnn]at hrk hrr;have hid:k<ids.length:=(by rw[hM.len,VJ];exact aI hrk);obtain⟨id,hidg⟩:=ao hid;have hidr:=hMr _ (an hidg);have hL0:L≠[]:=fun h=>by rw[h]at hrk;simp at hrk
   obtain⟨pb,pg,pb1,pb2,hpv,hpb,hpni⟩:=hM.A3 (by simpa using hL0);have hpni:=hpni ZG;rw[VJ]at hpv;have hkL:(k:Int)<L.length:=(by have:=aI hrk;omega);obtain⟨hs,hhs⟩:∃hs,hs=List.zipWith (fun i n=>ZK.U i 0 0 n 1) ids ((L.map zr).map List.length):=⟨_,rfl⟩
   rw[<- hhs]at hpb;have hhk:hs[k]?=some (.U id 0 0 rn 1):=by
    rw[hhs,YA,hidg,List.getElem?_map,List.getElem?_map,hrk];show some (ZK.U id 0 0 (zr ((rn:Int),x.L)).length 1)=_;congr 2;show (ints (List.replicate ((rn:Int)).toNat 0)).length=rn;rw[aR,VR,Int.toNat_natCast]
   have hhn:=aO hhk;have hvn : (v : Int)<d.C.length:=O;have hne:=eT hx;have ec:=iS hx;refine W.env fun E1 hE1=>?_;have m2 : E1 2=.M H.A 0 0:=(by rw [hE1];simp only [go_sem,bb,f2]);have m3 : E1 3=.M (H.A+1) 0 0:=(by rw [hE1];simp only [go_sem,bb,f3]);have m6 : E1 6=.M (H.A+2) 0 0:=(by rw [hE1];simp only [go_sem,bb,f6]);have m8 : E1 8=.M (H.A+3) 0 0:=(by rw [hE1];simp only [go_sem,bb,f8]);have m11 : E1 11=aa k:=(by rw [hE1];simp only [go_sem,bb]);have m12 : E1 12=aa v:=(by rw [hE1];simp only [go_sem,bb]);clear hE1
      -- what stays as it is
   have nb:∀ {Hz:ZJ},(∀id,id<R2.A->id ∉ ids->id≠H.A+1->id≠H.A+2->Hz.get id=R2.get id)->Hz.V H.A 0=some (38,bq d)/\Hz.V (H.A+3) 0=some (33,[pv])/\Hz.get pb=some (.J pg 42 hs):=fun h=>by
    refine⟨ae ?_,ae ?_,?_⟩
    ·rw[h _ O (fun hm=>by have:=hMr _ hm;omega) O O,oR2.nb _ O,hS.2 _ O O,oR.nb _ O,o2.nb _ O];exact g1
    ·rw[h _ O (fun hm=>by have:=hMr _ hm;omega) O O,oR2.nb _ O];exact h8
    ·rw[h _ O hpni O O,oR2.nb _ O];exact hpb
   have hy3o:∀id,id<R2.A->id ∉ ids->id≠H.A+1->id≠H.A+2->H3.get id=R2.get id:=fun id h1 h2 h3 h4=>by rw[o3 _ O];exact hyo id h1 h2 h3 h4
   obtain⟨y1,y8,ypb⟩:=nb hy3o;have ypl:=ae ypb;unfold bq at y1;refine W.vs ?_;obtain⟨c,hc⟩:∃c,c=x.L:=⟨_,rfl⟩
   rw[<- hc]at hrk hrr ec;obtain⟨Rr,hRr⟩:∃Rr,Rr=bS (L.drop (k+1)):=⟨_,rfl⟩
   have hck:bS (L.drop k)=List.replicate rn c++Rr:=(by rw[pE hrk,qB,hRr];rfl);obtain⟨pw,hpw⟩:∃pw,pw=pr k ((rn:Int),c):=⟨_,rfl⟩
   have hpwl:pw.length=rn:=(by rw[hpw,prl k _ hrk];rfl);have hyid:Hy.get id=some (.J 0 3 (ints (iD rn pw 0))):=by
    rw[hyr k id _ hidg hrk,M8];show some (ZQ.J 0 _ (if k<k then _ else ints (List.replicate ((rn:Int)).toNat 0)))=_;rw[Vx O,Int.toNat_natCast]
   have hidne:id≠R2.A/\id≠H.A+1/\id≠H.A+2/\id≠pb:=⟨O,O,O,fun e=>hpni (e ▸ an hidg)⟩
   have yid:=ae ((o3 _ hidne.1).trans hyid);simp only[go_sem,m8,m11,y8,hpv,ypl,hkL,hhk,yid];refine W.aP 18889464805578674020352 (by rfl) (fun ρ2 Hz=>∃j:Nat,ρ2 50=aa j/\j<=rn/\H3.A<=Hz.A/\Hz.get R2.A=some Bb/\(∀id,id<R2.A->id ∉ ids->id≠H.A+1->id≠H.A+2->Hz.get id=R2.get id)/\Hz.get (H.A+2)=some (.J 0 3 [.lit (.int .i64 (aj (List.replicate (rn-j) c++Rr)))]) /\
    Hz.get (H.A+1)=some (.J 0 3 [.lit (.int .i64 (i0 % aj (List.replicate (rn-j) c++Rr)))])/\Hz.get id=some (.J 0 3 (ints (iD rn pw j)))/\∀(k' id':Nat) (p:Int × Int),k'≠k->ids[k']?=some id'->L[k']?=some p->Hz.get id'=some (.J 0 3 (rowA k k' p))) (fun ρ2 H=>rn-(iv (ρ2 50)).toNat) ?_ ?_
   ·simp only[go_sem];exact⟨0,rfl,O,jB,hy3o,by rw[Nat.sub_zero,<- hck];exact(o3 _ O).trans hy6,by rw[Nat.sub_zero,<- hck];exact(o3 _ O).trans hy3,(o3 _ hidne.1).trans hyid,fun k' id' p h0 h1 h2=>by
     rw[o3 _ (by have:=hMr _ (an h1);omega)];exact hyr k' id' p h1 h2⟩
   rintro ρ2 Hz ⟨j,h50,hj,hzn,hzB,hzo,hz6,hz3,hzid,hzr⟩;refine W.env fun E3 hE3=>?_;have p2:E3 2=.M H.A 0 0:=(by rw[hE3];simp only[go_sem,m2]);have p3:E3 3=.M (H.A+1) 0 0:=(by rw[hE3];simp only[go_sem,m3]);have p6:E3 6=.M (H.A+2) 0 0:=(by rw[hE3];simp only[go_sem,m6]);have p8:E3 8=.M (H.A+3) 0 0:=(by rw[hE3];simp only[go_sem,m8]);have p11:E3 11=aa k:=(by rw[hE3];simp only[go_sem,m11]);have p12:E3 12=aa v:=(by rw[hE3];simp only[go_sem,m12]);have p49:E3 49=aa rn:=(by rw[hE3];simp only[go_sem]);have p50:E3 50=aa j:=(by rw[hE3];simp only[go_sem,h50]);clear hE3;refine W.vs ?_;obtain⟨z1,z8,zpb⟩:=nb hzo;have zpl:=ae zpb;unfold bq at z1;have z6:=ae hz6;have z3:=ae hz3;have zid:=ae hzid;by_cases hb2:(j:Int)<rn
   ·have hsplit:List.replicate (rn-j) c++Rr=c :: (List.replicate (rn-(j+1)) c++Rr):=by
     have e:rn-j=(rn-(j+1))+1:=O;rw[e,WC];rfl
    obtain⟨M,hMM⟩:∃M,M=aj (List.replicate (rn-(j+1)) c++Rr):=⟨_,rfl⟩
    have hMb:=hPs k (List.replicate (j+1) c) (List.replicate (rn-(j+1)) c++Rr) (by
     rw[hck,<- List.append_assoc,List.replicate_append_replicate];congr 2;omega)
    have hp1:aj (List.replicate (rn-j) c++Rr)=c*M:=(by rw[hsplit,je,hMM]);rw[<- hMM]at hMb;rw[hp1]at z6 z3;have hcM:0<=c*M/\c*M<=4*4096:=⟨WT O O,Ww hrr.2.2.2 hMb.2 O O⟩
    have cM1:1<=c*M:=(by have:=Ww hrr.2.2.1 hMb.1 O O;omega);obtain⟨ds1,ds2⟩:=CC (i:=i0) hMb.1 hrr.2.2.1;rw[W5 M c]at ds1 ds2;have hm0:=WS i0 (show c*M≠0 by omega);have hm1:=WB i0 (show 0<c*M by omega);have q1:(c*M).tdiv c=M:=(by rw[W5];exact Int.mul_tdiv_cancel _ O);have q2:(i0 % (c*M)).tdiv M=i0 / M % c:=(by rw[WW hm0,ds1]);have q3:(i0 % (c*M)).tmod M=i0 % M:=(by rw[Wg hm0,ds2]);have c0:¬c=0:=O;have M0:¬M=0:=O;have d0:=WS (i0 / M) (show c≠0 by omega);have d1:=WB (i0 / M) (show 0<c by omega);have r0:=WS i0 (show M≠0 by omega);have r1:=WB i0 (show 0<M by omega);have w1:=Vv ((j:Int)+1) O;have w2:=Vv M O;have w3:=Vv (i0 / M % c) O;have w4:=Vv (i0 % M) O;have hpj:pw[j]?=some (i0 / M % c):=by
     rw[hpw];show ((aS (bS (L.drop k)) i0).take ((rn:Int)).toNat)[j]?=_;rw[V4 O,hck,wG (c:=c) (by rw[VH (by simp;omega),Wc,VA O]),List.drop_append_of_le_length (by simp;omega),List.drop_replicate,hMM]
    have hset:=Na hpwl hpj;have hst:setAt (ints (iD rn pw j)) j [.lit (.int .i64 (i0 / M % c))]=ints (iD rn pw (j+1)):=(by rw[gJ (by rw[CB hpwl hj];omega),hset]);have hrl:(iD rn pw j).length=rn:=CB hpwl hj;have hjj:¬ints (iD rn pw j)=[]:=fun h=>by have:=congrArg List.length h;rw[aR,hrl]at this;simp at this;omega
    simp only[go_sem,p50,p49,hb2];refine W.dr 7 [0,0,2,0,14,30,62] Tryz.mixed ?_;simp only[go_sem,p2,p6,p12,z1,z6,hvn,hne,ec,q1,w2,c0];have u8:∀b,(Hz.upd (H.A+2) b).V (H.A+3) 0=_:=fun b=>(cH O).trans z8;have upl:∀b,(Hz.upd (H.A+2) b).V pb pg=_:=fun b=>(cH O).trans zpl;have u3:∀b,(Hz.upd (H.A+2) b).V (H.A+1) 0=_:=fun b=>(cH O).trans z3;have uid:∀b,(Hz.upd (H.A+2) b).V id 0=_:=fun b=>(cH hidne.2.2.1).trans zid;have uu3:∀b b',((Hz.upd (H.A+2) b).upd id b').V (H.A+1) 0=_:=fun b b'=>(cH (fun e=>hidne.2.1 e.symm)).trans (u3 b);have uu6:∀b',((Hz.upd (H.A+2) (.J 0 3 [.lit (.int .i64 M)])).upd id b').V (H.A+2) 0=some (3,[.lit (.int .i64 M)]):=fun b'=>(cH (fun e=>hidne.2.2.1 e.symm)).trans lP;refine W.dr 8 [0,0,3,7,0,0,0,96] Tryz.mixed ?_;simp only[go_sem,p3,p6,p8,p11,u8,upl,u3,uid,uu3,uu6,hpv,hkL,hhk,q2,q3,w1,w3,M0,hst,hb2,aR,hrl,p50];have ge:∀i,(((Hz.upd (H.A+2) (.J 0 3 [.lit (.int .i64 M)])).upd id (.J 0 3 (ints (iD rn pw (j+1))))).upd (H.A+1) (.J 0 3 [.lit (.int .i64 (i0 % M))])).get i=if i=H.A+1 then some (.J 0 3 [.lit (.int .i64 (i0 % M))]) else if i=id then some (.J 0 3 (ints (iD rn pw (j+1)))) else if i=H.A+2 then some (.J 0 3 [.lit (.int .i64 M)]) else Hz.get i:=fun i=>by simp only[af]
    have hBB:(((Hz.upd (H.A+2) (.J 0 3 [.lit (.int .i64 M)])).upd id (.J 0 3 (ints (iD rn pw (j+1))))).upd (H.A+1) (.J 0 3 [.lit (.int .i64 (i0 % M))])).get R2.A=some Bb:=by
     rw[ge,Vx O,Vx (fun e=>hidne.1 e.symm),Vx O];exact hzB
    refine⟨O,by simp only[aA];omega,⟨st,pd,n',en,ps',as',bo,by rw[hBB,hBe]⟩,⟨j+1,rfl,O,by simp only[aA];omega,hBB,fun i h1 h2 h3 h4=>?_,?_,?_,?_,fun k' id' p h0 h1 h2=>?_⟩,by rw[h50];simp only[aa,aZ];omega⟩
    ·rw[ge,Vx h3,Vx (fun e=>h2 (by rw[e];exact an hidg)),Vx h4];exact hzo i h1 h2 h3 h4
    ·rw[ge,Vx O,Vx (fun e=>hidne.2.2.1 e.symm),VA rfl,hMM]
    ·rw[ge,VA rfl,hMM]
    ·rw[ge,Vx hidne.2.1,VA rfl]
    ·have hr':=hMr _ (an h1);have hne':id'≠id:=fun e=>by
      subst e;exact h0 ((WV (VX.1 h1).1 hM.nd).1 (by rw[h1,hidg]))
     rw[ge,Vx O,Vx hne',Vx O];exact hzr k' id' p h0 h1 h2
   ·have hje:j=rn:=O;simp only[go_sem,p49,p50,hb2,dE];rw[hje,XC,YG,List.nil_append,hRr]at hz6 hz3;rw[hje,M9 hpwl]at hzid;refine⟨hzB,O,O,hzo,hz6,hz3,fun k' id' p h1 h2=>?_⟩;by_cases hkk:k'=k
    ·subst hkk;rw[hidg]at h1;rw[hrk]at h2;cases h1;cases h2;rw[hzid,hpw];show _=some (ZQ.J 0 _ (if k'<k'+1 then _ else _));rw[VA O]
    ·rw[hzr k' id' p hkk h1 h2];show some (ZQ.J 0 _ (if k'<k then _ else _))=some (ZQ.J 0 _ (if k'<k+1 then _ else _));by_cases hlt:k'<k
     ·rw[VA hlt,VA O]
     ·rw[Vx hlt,Vx O]
  ·obtain⟨hyn,hyo,hy6,hy3,hyr⟩:=hj;rw[jZ,<- hLl]at hyr;have y8:Hy.V (H.A+3) 0=some (33,[pv]):=ae (by
    rw[hyo _ O (fun hm=>by have:=hMr _ hm;omega) O O,oR2.nb _ O];exact h8)
   have pvc:=hM.top.cells;have pvo:=hM.top.one;simp only[go_sem,f8,y8];have hpoly:(bA L i0).length=L.length:=wE L i0;have hM2:Z2 (R.A+1) Hy 42 3 pv ids ((bA L i0).map ints):=by
    have hlens:((bA L i0).map ints).map List.length=(L.map zr).map List.length:=by
     apply V9;intro k;rw[List.getElem?_map,List.getElem?_map,List.getElem?_map,List.getElem?_map];cases hk:L[k]? with
     |none=>rw[VD (by rw[hpoly];exact Xs.1 hk)];rfl
     |some p =>
      rw[ui i0 hk];simp only[Option.map_some];congr 1;show (ints (pr k p)).length=(ints (List.replicate p.1.toNat 0)).length;rw[aR,aR,prl k p hk,VR]
    refine⟨by rw[hM.len,VJ,VJ,hpoly],hM.nd,fun i hi=>by have:=hMr i hi;omega,?_,fun k' id r h1 h2=>?_⟩
    ·rw[hlens];refine hM.top.nc ZI O fun i g a b c e=>?_;have hni:i ∉ ids:=fun hm=>by
      obtain⟨k',hk'⟩:=VG.1 hm;have hkl:k'<(L.map zr).length:=(by rw[<- hM.len];exact(VX.1 hk').1);have:=hM.row k' i _ hk' (Vz hkl);rw[c]at this;exact absurd (ZQ.J.inj (Option.some.inj this)).2.1 (ZG)
     rw[hyo i O hni O O,oR2.nb _ O]
    ·rw[List.getElem?_map]at h2;obtain⟨q,hq,rfl⟩:=Vw.1 h2;obtain⟨p,hp⟩:=ao (l:=L) (i:=k') (by rw[<- hpoly];exact aI hq);rw[hyr k' id p h1 hp];rw[ui i0 hp]at hq;cases hq;show some (ZQ.J 0 _ (if k'<L.length then _ else _))=_;rw[VA (aI hp)]
   refine aq.bC (v':=.nf [aE (bA L i0),aa 0]) aJ hcl ⟨O,fun id h=>?_⟩ (.nf rfl fun i hi _=>?_) hK
   ·rw[hyo id O (fun hm=>by have:=hMr _ hm;omega) O O,oR2.nb _ O,hS.2 _ O O,oR.nb _ O,o2.nb _ O];exact o1.nb id h
   ·match i,hi with
    |1,_=>exact .lit _
    |0,_ =>
     have:=hM2.fz (S:=fun id=>H.A<=id) (nx:=H.A) (fun i h=>O) fun r hr c hc=>by
      obtain⟨q,_,rfl⟩:=VI.1 hr;unfold ints at hc;obtain⟨z,_,rfl⟩:=VI.1 hc;exact .lit _
     rw[VJ,Xg]at this;have e:(bA L i0).map ((fun r:List ZK=>ZK.Q r.length r) ∘ ints)=(bA L i0).map ah:=V1 fun z _=>by simp[Function.comp,ah,aR]
     rw[e]at this;exact this
end Go.Proofs
set_option linter.unusedVariables false
namespace Go.Proofs
open Go.Hx Go.RowKit Go.Lib
def Tryz.CD:(Tryz.prog.info? 3).map (fun i=>(i.zero,i.size,i.bytes))=some (some (.int .i64 0),1,8):=ZH
set_option maxRecDepth 100000 in
def Nc (n:Nat)(h0:0<n)(hn:n<=1073741824)(w:World):Calls Tryz.prog 70 #[.slice none 0 0,.int .i64 n] w fun e w' =>
  e=.returned (.slice (some ⟨w.heap.size,0,none⟩) 0 (grownCap w n 0 3)) /\
   w'=w.drew.alloc (.cells (#[]++Builtin.zeroCells #[.int .i64 0] n++Builtin.zeroCells #[.int .i64 0] (grownCap w n 0 3-n)) 3):=by
 have h1:¬((n:Int)<0):=O
 have h2:wrap64 ((0:Int)-(0:Int))=0:=by unfold wrap64;omega
 have h3:wrap64 ((n:Int)-0)=(n:Int):=by unfold wrap64;omega
 have h4:(n:Int) > 0:=O
 cases hi:Tryz.prog.info? 3 with
 |none=>have:=Tryz.CD;rw[hi]at this;cases this
 |some i0 =>
 have hi3:=Tryz.CD;rw[hi]at hi3;simp only[Option.map_some,Option.some.injEq,Prod.mk.injEq]at hi3;obtain⟨hz0,hs0,hb0⟩:=hi3;have hold:(Builtin.firstCells i0.size 0 (.slice none 0 0)).run Tryz.prog w.drew=.ok ([]:List Value).toArray w.drew:=run_firstCells_none w.drew i0.size 0 0 0;have hrz:∀ty,(Builtin.append_ #[42,3] ty #[.slice none 0 0,.int .i64 (n:Int)]).run Tryz.prog w =
   .ok (.slice (some ⟨w.heap.size,0,none⟩) n (grownCap w n 0 3)) (w.drew.alloc (.cells (#[]++Builtin.zeroCells #[.int .i64 0] n++Builtin.zeroCells #[.int .i64 0] (grownCap w n 0 3-n)) 3)):=fun ty=>by
  have h:=Lib.run_append_grow_zeros w 42 3 ty 3 i0 (.int .i64 0) .i64 .i64 Tryz.underlying42 Tryz.underlying3 hi hz0 none 0 0 [] hold n h0 O O (O)
   (by rw[hb0];omega) (by rw[hb0];exact growslice_fits O O)
  rw[Nat.zero_add]at h;exact h
 have hGn:n<=grownCap w n 0 3:=grownCap_ge w _ _ _;obtain⟨G,hG⟩:∃G,G=grownCap w n 0 3:=⟨_,rfl⟩
 rw[<- hG]at hrz hGn ⊢;have hG63:G<=9223372036854775807:=by
  have:=grownCap_le_maxLen w n 0 3 (by unfold maxLen;omega);rw[<- hG]at this;unfold maxLen at this;omega
 clear hold hG
 go_enter Tryz.func70,Tryz.ntmps70
 go_wp2_with (at_builtin;refine Lib.wpList_append_run _ rfl _ _ _ _ rfl _ _ rfl rfl _ _ (hrz _) ?_)
 all_goals (go_ret;exact⟨rfl,rfl⟩)
def wH {P:Program}{Γ:aH}{H:ZJ}{w:World}{v cv:Value}(h:ZO P Γ H w (.lit v) cv):cv=v:=by cases h;rfl
def Nd (n:Nat):(Builtin.zeroCells #[Value.int .i64 0] n).size=n:=by
 rw[size_zeroCells];simp
def Nf (n:Nat)(h0:0<n)(hn:n<=1073741824)(H:ZJ)(K:ZP->ZJ->Prop)(hK:K (.ret (.U H.A 0 0 0 1)) (ext H [.J 0 3 []])):ag Tryz.prog G0 70 [.lit (.slice none 0 0),.lit (.int .i64 n)] H K:=by
 refine⟨⟨_,Tryz.func70,rfl,rfl⟩,fun Γ w cargs R hr=>?_⟩;have hc:cargs=#[.slice none 0 0,.int .i64 n]:=by
  obtain⟨hs,hr⟩:=hr;have h1:=wH (hr 0 ZF (by rw[hs];simp));have h2:=wH (hr 1 ZF (by rw[hs];simp));apply Array.ext
  ·simpa using hs
  ·intro i hi1 hi2;simp only[Yq,List.length_cons,List.length_nil]at hi2
   match i,hi2 with
   |0,_=>exact h1
   |1,_=>exact h2
 rw[hc];refine(callsIn_wide.2 (Nc n h0 hn w)).mono ?_;rintro e w' ⟨rfl,rfl⟩;have hG:=grownCap_ge w n 0 3;obtain⟨G,hGe⟩:∃G,G=grownCap w n 0 3:=⟨_,rfl⟩
 rw[<- hGe]at hG ⊢;obtain⟨c,hcc⟩:∃c,c=#[]++Builtin.zeroCells #[Value.int .i64 0] n++Builtin.zeroCells #[Value.int .i64 0] (G-n):=⟨_,rfl⟩
 have hcs:c.size=G:=by rw[hcc];simp[Nd];omega
 rw[<- hcc];have R1:=R.drew (w.drawn+1);obtain⟨E,hn2,R'⟩:=rB (c:=c) R1 (tR H (.J 0 3 [])) ZF (fun i h=>absurd h (VN _));refine⟨.ret (.U H.A 0 0 0 1),ext H [.J 0 3 []],_,?_,hK,R',(tz Γ H w (w.drawn+1)).trans ZI E,hn2⟩;refine .U ⟨by simp[aM],rfl,by rw[dA];simp,fun g e cells hg=>?_⟩;rw[dA]at hg;cases hg;refine⟨ZI,fun _=>?_⟩;rw[aH.fh];exact⟨⟨w.heap.size,0,none⟩,G,rfl,WO _,ZF,.inl ⟨rfl,by rw[hcs];omega⟩⟩
end Go.Proofs
namespace Go.Proofs
open Go.Hx
def CE (a:Int)(H:ZJ)(K:ZP->ZJ->Prop)(hK:K (.ret (.lit (.bool false))) H):ag Tryz.prog G0 109 [.lit (.int .i64 a)] H K:=by
 refine ag.st (n:=6) (rs:=[.tmp 2]) Tryz.func109 ?_;simp only[go_sem];exact aq.mk ZI hK
def zh (a b:Int)(H:ZJ)(K:ZP->ZJ->Prop)(hK:K (.ret (.lit (.int .i64 (if a<b then -1 else if b<a then 1 else 0)))) H):ag Tryz.prog G0 69 [.lit (.int .i64 a),.lit (.int .i64 b)] H K:=by
 refine ag.st (n:=20) (rs:=[.tmp 4]) Tryz.func69 ?_;simp only[go_sem];refine au.Z (CE a _ _ ⟨trivial,?_⟩);simp only[go_sem];refine au.Z (CE b _ _ ⟨trivial,?_⟩);by_cases h1:a<b
 ·rw[VA h1]at hK;simp only[go_sem,h1];exact aq.mk ZI hK
 ·rw[Vx h1]at hK;by_cases h2:b<a
  ·rw[VA h2]at hK;simp only[go_sem,h1,h2];exact aq.mk ZI hK
  ·rw[Vx h2]at hK;simp only[go_sem,h1,h2];exact aq.mk ZI hK
def mb:List Int->List Int->Prop
 |a :: l,b :: m=>a<b\/(a=b/\mb l m)
 |_,_=>False
theorem CF:∀ {x y:List Int},mb x y->∃(i:Nat) (a b:Int),x[i]?=some a/\y[i]?=some b/\a<b/\∀j,j<i->x[j]?=y[j]?
 |a :: l,b :: m,h=>by
  rcases h with h|⟨h,h2⟩
  ·exact⟨0,a,b,rfl,rfl,h,fun j hj=>absurd hj (VN _)⟩
  ·obtain⟨i,c,d,h3,h4,h5,h6⟩:=CF h2;refine⟨i+1,c,d,by simpa using h3,by simpa using h4,h5,fun j hj=>?_⟩;cases j with
   |zero=>simp[h]
   |succ j=>simpa using h6 j (O)
def lens (t:List (List Int)):Nat:=(t.map List.length).sum
def Ng:∀t:List (List Int),t.flatten.length=lens t
 | []=>rfl
 |r :: t=>by simp[lens]
def CG {t:List (List Int)}{k:Nat}{r:List Int}(h:t[k]?=some r):lens (t.take (k+1))=lens (t.take k)+r.length:=by
 unfold lens;rw[aU h];simp
def Nh (t:List (List Int))(ht:t.length<=8)(hr:∀r,r∈t->r.length<=1024)(h0:0<lens t)(H:ZJ)(K:ZP->ZJ->Prop)(hK:K (.ret (ah t.flatten)) H):ag Tryz.prog G0 28 [aE t] H K:=by
 refine ag.Z ⟨_,Tryz.func28,rfl,rfl⟩ fun hcl=>?_;have hle:∀k,lens (t.take k)<=1024*k:=fun k=>by
  induction k with
  |zero=>simp[lens]
  |succ k ih =>
   cases hk:t[k]? with
   |none =>
    have h1:t.length<=k:=(by simpa using hk);rw[Vy O];rw[Vy h1]at ih;omega
   |some r =>
    rw[CG hk];have:=hr r (an hk);omega
 have htl:lens t<=8192:=by have:=hle t.length;rw[XG]at this;omega
 have hne:¬t=[]:=by rintro rfl;simp[lens]at h0
 refine ag.st (n:=36) (rs:=[.tmp 2]) Tryz.func28 ?_;simp only[go_sem,aE];refine W.aP 8386600 (by rfl) (fun ρ H'=>H=H'/\∃k:Nat,ρ 11=aa k/\k<=t.length/\ρ 3=aa (lens (t.take k):Nat)) (fun ρ H=>t.length-(iv (ρ 11)).toNat) ?_ ?_
 ·simp only[go_sem];exact⟨0,rfl,O,rfl⟩
 rintro ρ H' ⟨rfl,k,h11,hk,h3⟩;refine W.vs ?_;by_cases hb:(k:Int)<t.length
 ·obtain⟨r,hrk⟩:∃r,t[k]?=some r:=⟨_,Vz O⟩
  have e:=CG hrk;have l1:=hle k;have l2:=hr r (an hrk);have w1:=Vv ((k:Int)+1) O;have w2:=Vv ((lens (t.take k):Int)+(r.length:Int)) O;have z1:¬(lens (t.take k):Int)+(r.length:Int)<0:=O
  simp only[go_sem,h11,hb,hrk,hne,h3,w1,w2,z1];exact⟨⟨k+1,ZF,O,by rw[e];simp⟩,O⟩
 ·rw[Vy O]at h3;simp only[go_sem,h11,hb,h3];refine au.Z (Nf (lens t) h0 O _ _ ⟨trivial,?_⟩);simp only[go_sem];refine W.aP 34225520960 (by rfl) (fun ρ H'=>ZN H H'/\H.A+1<=H'.A/\∃k:Nat,ρ 27=aa k/\k<=t.length/\aD H.A H' 3 (ρ 6) (ints (t.take k).flatten)) (fun ρ H=>t.length-(iv (ρ 27)).toNat) ?_ ?_
  ·simp only[go_sem];exact⟨ZN.ext _ _,0,rfl,O,.inr ⟨H.A,0,ZI,by simp[aM],rfl,dA _ _ _⟩⟩
  rintro ρ2 H2 ⟨ov,on,j,h27,hj,h6⟩;refine W.vs ?_;by_cases hb2:(j:Int)<t.length
  ·obtain⟨r,hrj⟩:∃r,t[j]?=some r:=⟨_,Vz O⟩
   have w1:=Vv ((j:Int)+1) O;have e:(t.take (j+1)).flatten=(t.take j).flatten++r:=(by rw[aU hrj];simp);have l0:=hle j;have l2:=hr r (an hrj);have l3:=Ng (t.take j);obtain⟨v',H3,hA,hO,hn3,hp⟩:=sd (P:=Tryz.prog) (H:=H2) (t:=42) (n:=H2.A) (src:=ints r) Tryz.underlying42 Tryz.fE Tryz.fF (ko r) (by rw[Tryz.gG,aR,aR,l3];omega) h6 ov.A rfl;rw[aR]at hA;simp only[go_sem,h27,hb2,hrj,hne,hA,w1];have ov3:ZN H H3:=⟨by have:=ov.A;omega,fun id hid=>by
    rw[hp id (by have:=ov.A;omega) fun g n he=>?_,ov.nb id hid];rcases h6 with ⟨h6,_⟩|⟨i2,g2,a1,_,h6,_⟩
    ·rw[h6]at he;cases he
    ·rw[h6]at he;have:=ZK.U.inj he;omega⟩
   refine⟨O,⟨ov3,O,j+1,ZF,O,?_⟩,O⟩;rw[e];simpa[ints] using hO
  ·rw[Vy O]at h6;simp only[go_sem,h27,hb2];exact aq.bC aJ hcl ov (h6.hJ fun i hi=>hi) hK
end Go.Proofs
