/- Own work: contracts. -/
import Derived.Test.YteolcdbjdgimhaaGreatConB
import Derived.Test.YteolcdbjdgimhaaGreatConA
set_option linter.all false
set_option maxHeartbeats 8000000
set_option maxRecDepth 100000
namespace Go.Proofs
open Go.Hx Tryz
variable {g:Int}{nF vals:List Int}{ns:List ZL}{N k v:Nat}{c:Nat->Nat->Int}{x:ZL}{d:ZM}
def Fk:∀ {cs vs:List Int} {k:Nat} {c v:Int},vs.length=cs.length->cs[k]?=some c->vs[k]?=some v->v+1<c->(∀(j:Nat) (a b:Int),k<j->cs[j]?=some a->vs[j]?=some b->b=a-1) ->
  mj cs vs=some (vs.take k++(v+1) :: (cs.drop (k+1)).map fun _=>0):=by
 have none_of:∀ {cs vs:List Int},vs.length=cs.length->(∀(j:Nat) (a b:Int),cs[j]?=some a->vs[j]?=some b->b=a-1)->mj cs vs=none:=by
  intro cs
  induction cs with
  |nil=>intro vs _ _;cases vs<;>rfl
  |cons c cs ih =>
   intro vs hl h;cases vs with
   |nil=>rfl
   |cons v vs =>
    have h1:=ih (vs:=vs) (by simpa using hl) fun j a b ha hb=>h (j+1) a b (by simpa using ha) (by simpa using hb);have h2:=h 0 c v rfl rfl;simp only[mj,h1];rw[Vx O]
 intro cs
 induction cs with
 |nil=>intro vs k c v _ h;simp at h
 |cons x cs ih =>
  intro vs k c v hl hc hv hlt hmax;cases vs with
  |nil=>simp at hv
  |cons y vs =>
   cases k with
   |zero =>
    simp only[List.getElem?_cons_zero,Option.some.injEq]at hc hv;subst hc;subst hv;have h1:=none_of (cs:=cs) (vs:=vs) (by simpa using hl) fun j a b ha hb=>hmax (j+1) a b O (by simpa using ha) (by simpa using hb);simp only[mj,h1];rw[VA hlt];simp
   |succ k =>
    have h1:=ih (vs:=vs) (k:=k) (by simpa using hl) (by simpa using hc) (by simpa using hv) hlt fun j a b hj ha hb=>hmax (j+1) a b O (by simpa using ha) (by simpa using hb);simp only[mj,h1];simp
def Fl:∀ {cs vs:List Int},vs.length=cs.length->(∀(j:Nat) (a b:Int),cs[j]?=some a->vs[j]?=some b->b=a-1)->mj cs vs=none:=by
 intro cs
 induction cs with
 |nil=>intro vs _ _;cases vs<;>rfl
 |cons c cs ih =>
  intro vs hl h;cases vs with
  |nil=>rfl
  |cons v vs =>
   have h1:=ih (vs:=vs) (by simpa using hl) fun j a b ha hb=>h (j+1) a b (by simpa using ha) (by simpa using hb);have h2:=h 0 c v rfl rfl;simp only[mj,h1];rw[Vx O]
def nt (nF:List Int)(N:Nat):List (List ZK):=(List.range (aj nF).toNat).map fun (i:Nat)=>[aa (i:Int),.U N 0 0 nF.length 1]
def lG {x:List ZK}(h:(nt nF N)[k]?=some x):k<(aj nF).toNat/\x=[aa k,.U N 0 0 nF.length 1]:=by
 unfold nt at h;rw[List.getElem?_map]at h;have hk:k<(aj nF).toNat:=by
  rcases VV k (aj nF).toNat with h1|h1
  ·exact h1
  ·rw[VD (by simpa using h1)]at h;simp at h
 rw[VT hk]at h;simp at h;exact⟨hk,h.symm⟩
def SL (h:k<(aj nF).toNat):(nt nF N)[k]?=some [aa k,.U N 0 0 nF.length 1]:=by
 unfold nt;rw[List.getElem?_map,VT h];rfl
def qX (nF:List Int)(N:Nat):(nt nF N).length=(aj nF).toNat:=by simp[nt]
def lH (nF:List Int)(N k:Nat)(H:ZJ):Prop:=H.get N=some (.J 0 3 (ints (aS nF k)))
def sT (nF:List Int)(hc1:∀c∈nF,1<=c)(hs:dV nF)(b N:Nat)(hbN:b<N):
  Gr prog G0 131 [] [.M b 0 0] (nt nF N) N (fun H=>H.get b=some (.J 0 42 [ah nF])) (lH nF N):=by
 intro idy J Stop H K hN hS0 hJw hJ0 hY hK hSt;have l0:=ae (hS0 0 H hJ0);have h12:=hs.1;have hpp:=hs.prod;have hp1:=dY hc1;show ag _ _ _ ([.np idy]++[.M b 0 0]) _ _;refine ag.st (n:=45) (rs:=[]) func131 ?_;simp only[go_sem,l0];refine⟨O,?_⟩;have fitI:∀i:Nat,bZ nF (aS nF i):=fun i=>pF hc1 _;have idxI:∀i:Nat,i<(aj nF).toNat->bW nF (aS nF i)=i:=fun i hi=>um hc1 O O;subst hN;refine W.aP 35184372088368 (by rfl) (fun ρ H'=>∃i:Nat,ρ 4=aa i/\i<(aj nF).toNat/\J i H'/\lH nF H.A i H'/\H.A+1<=H'.A) (fun ρ H=>(aj nF).toNat-(iv (ρ 4)).toNat) ?_ ?_
 ·simp only[go_sem];refine⟨0,rfl,O,hJw 0 H _ hJ0 ⟨by rw[aM];omega,fun id _ h=>dM _ _ _ h⟩,?_⟩;show (ext H _).get H.A=_;rw[dA];have:aS nF ((0:Nat):Int)=List.replicate nF.length 0:=by
   rw[show ((0:Nat):Int)=0 from rfl,zF hc1];exact Yf ..
  rw[this];simp[ints,aa]
 rintro ρ H' ⟨i,h4,hi,hj,hcs,hn⟩;refine W.en (fun E=>E 1=.M b 0 0 /\ E 0=.np idy /\ E 3=.U H.A 0 0 nF.length 1 /\ E 4=aa i) (by simp only[go_sem,h4]) fun E ⟨e1,e0,e3,e4⟩=>?_
 refine W.vs ?_;simp only[go_sem,e0,e3,e4];refine hY i [aa i,.U H.A 0 0 nF.length 1] H' _ (SL hi) hj hcs O (fun H2 hj2 hcs2 hn2=>⟨trivial,?_⟩) (fun H2 hs2 hn2=>⟨trivial,?_⟩);rotate_left
 ·simp only[go_sem];exact aq.mk O (hSt H2 hs2 O)
 have hb2:=hS0 _ _ hj2;have lb:=ae hb2;have w0:=Vv ((nF.length:Int)-1) O;obtain⟨vs,hvs⟩:∃vs,vs=aS nF i:=⟨_,rfl⟩
 have hvl:vs.length=nF.length:=by rw[hvs,mi]
 have hfit:bZ nF vs:=by rw[hvs];exact fitI i
 have hsucc:=Dm hfit;rw[show bW nF vs=i from by rw[hvs];exact idxI i hi]at hsucc;simp only[go_sem,e1,lb,w0];refine W.aP 137438691360 (by rfl) (fun ρ2 H4=>∃m:Nat,ρ2 5=aa ((m:Int)-1)/\m<=nF.length/\x9 H.A H2 H4/\H4.get H.A=some (.J 0 3 (ints (vs.take m++(nF.drop m).map fun _=>0)))/\(∀(j:Nat) (a b:Int),m<=j->nF[j]?=some a->vs[j]?=some b->b=a-1))
  (fun ρ2 H=>(iv (ρ2 5)+1).toNat) ?_ ?_
 ·simp only[go_sem];refine⟨nF.length,rfl,O,⟨ZI,fun _ _ _=>rfl⟩,?_,fun j a b hm ha=>?_⟩
  ·have hg:H2.get H.A=_:=hcs2;rw[<- hvs]at hg;rw[hg,Vy O,Yx O];simp
  ·have:=aI ha;omega
 rintro ρ2 H4 ⟨m,h5,hm,hw,hg,hmax⟩;refine W.en (fun E2=>E2 1=.M b 0 0 /\ E2 3=.U H.A 0 0 nF.length 1 /\ E2 4=aa i /\ E2 5=aa ((m:Int)-1)) (by simp only[go_sem,e1,e3,e4,h5]) fun E2 ⟨f1,f3,f4,f5⟩=>?_
 refine W.vs ?_;have hw1:=hw.1;have lN:=ae hg;have lb4:=ae ((hw.2 b O O).trans hb2);have hj4:J (i+1) H4:=hJw _ _ _ hj2 hw;have clen:(vs.take m++(nF.drop m).map fun _=>(0:Int)).length=nF.length:=by simp;omega
 by_cases hm0:m=0
 ·subst hm0;have f5':E2 5=aa (-1):=f5;have hnone:=Fl hvl fun j a b ha hb=>hmax j a b (WO _) ha hb;rw[hnone]at hsucc;have htot:¬(i:Int)+1<aj nF:=fun h=>by rw[VA h]at hsucc;cases hsucc
  have hti:i+1=(nt nF H.A).length:=by rw[qX];omega
  simp only[go_sem];refine W.dr 12 [0,1,3,7,7,31,63,7,7,391,903,1927] mixed ?_;simp only[go_sem,f5'];exact aq.mk O (hK H4 (by rw[<- hti];exact hj4) O)
 obtain⟨k,rfl⟩:∃k,m=k+1:=⟨m-1,O⟩
 have f5':E2 5=aa k:=by rw[f5];congr 1;omega
 obtain⟨c,hck⟩:=ao (l:=nF) (i:=k) O;obtain⟨v,hvk⟩:=ao (l:=vs) (i:=k) O;have hne:=aO hck;have hr:=hfit.2 k c v hck hvk;have hcs8:=hs.2 c (an hck);have hvk':(vs.take (k+1)++(nF.drop (k+1)).map fun _=>(0:Int))[k]?=some v:=by
  rw[VH (by simp;omega),V4 O];exact hvk
 have hk0:(k:Int) >= 0:=O
 have hkc:(k:Int)<nF.length:=O
 have w1:=Vv (c-1) O;have w2:=Vv ((k:Int)-1) O;have w3:=Vv (v+1) O;have w4:=Vv ((i:Int)+1) O;have hk1:¬(k:Int)<0:=O
 by_cases hv:v=c-1
 ·simp only[go_sem];refine W.dr 12 [0,1,3,7,7,31,63,7,7,391,903,1927] mixed ?_;simp only[go_sem,f1,f3,f5',hk0,hkc,lN,lb4,hvk',hck,hne,w1,w2,hv];refine⟨by rw[<- List.length_append,clen];omega,by rw[aA];omega,⟨k,rfl,O,⟨by rw[aA];exact hw.1,fun id h1 h2=>by rw[af,Vx h1];exact hw.2 id h1 h2⟩,?_,fun j a b hj ha hb=>?_⟩,?_⟩
  ·rw[af,VA rfl,gJ (by rw[clen];omega)];congr 3;rw[aU hvk,List.append_assoc,WA _ _ (by simp;omega),pE hck];simp;rw[show k-min k vs.length=0 by omega];rfl
  ·rcases VV k j with h|h
   ·exact hmax j a b O ha hb
   ·obtain rfl:j=k:=O;rw[hck]at ha;rw[hvk]at hb;cases ha;cases hb;exact hv
  ·rw[h5];simp only[aa,aZ];omega
 ·simp only[go_sem];refine W.dr 12 [0,1,3,7,7,31,63,7,7,391,903,1927] mixed ?_;simp only[go_sem,f1,f3,f4,f5',hk0,hk1,hkc,lN,lb4,hvk',hck,hne,w1,w3,w4,hv];have hat:=Fk hvl hck hvk O fun j a b hj ha hb=>hmax j a b O ha hb;rw[hat]at hsucc;have hlt:(i:Int)+1<aj nF:=by
   refine V2 fun h=>?_;rw[Vx h]at hsucc;cases hsucc
  rw[VA hlt]at hsucc;have hw5:x9 H.A H2 (H4.upd H.A (.J 0 3 (setAt (ints (vs.take (k+1)++(nF.drop (k+1)).map fun _=>(0:Int))) k [.lit (.int .i64 (v+1))]))):=⟨by rw[aA];exact hw.1,fun id h1 h2=>by rw[af,Vx h1];exact hw.2 id h1 h2⟩
  refine⟨by rw[<- List.length_append,clen];omega,by rw[aA];omega,⟨i+1,ZF,O,hJw _ _ _ hj2 hw5,?_,by rw[aA];omega⟩,?_⟩
  ·show (H4.upd H.A _).get H.A=_;rw[af,VA rfl,gJ (by rw[clen];omega)];congr 3;have e:aS nF ((i+1:Nat):Int)=vs.take k++(v+1) :: (nF.drop (k+1)).map fun _=>0:=by
    have:=Option.some.inj hsucc;rw[show ((i+1:Nat):Int)=(i:Int)+1 by omega];exact this.symm
   rw[e,aU hvk,List.append_assoc,WA _ _ (by simp;omega)];simp;rw[show k-min k vs.length=0 by omega];rfl
  ·rw[h4];simp only[aa,aZ];omega
def sU (nF:List Int)(H:ZJ)(K:ZP->ZJ->Prop)(hK:K (.ret (.Z 131 [] [.M H.A 0 0])) (ext H [.J 0 42 [ah nF]])):
  ag prog G0 96 [ah nF] H K:=by
 refine ag.st (n:=4) (rs:=[.tmp 2]) func96 ?_;simp only[go_sem];exact aq.mk (by simp[aM]) hK
def pK (ns:List ZL)(x:ZL)(vals:List Int):List Int:=x.na.getD (bW (aV ns x) (aK vals x.F)).toNat []
def mX (ns:List ZL)(vals:List Int)(v:Nat):Int:=match ns[v]? with
 |some x=>(pK ns x vals).getD (vals.getD v 0).toNat 0
 |none=>1
def ic (ns:List ZL)(vals:List Int):List Int:=(List.range ns.length).map (mX ns vals)
def weight (ns:List ZL)(vals:List Int):Int:=aj (ic ns vals)
def bO (ns:List ZL):Nat:=(aj (ak ns)).toNat
def fU (ns:List ZL):List Int:=(List.range (bO ns)).map fun (i:Nat)=>weight ns (aS (ak ns) (i:Int))
def oe (ns:List ZL)(vals:List Int)(u:ZY):Int:=u.w.getD (bW (aK (ak ns) u.vars) (aK vals u.vars)).toNat 0
def cq (ns:List ZL)(us:List ZY)(vals:List Int):Int:=(us.map (oe ns vals)).sum
def jh (ns:List ZL)(us:List ZY)(k:Nat):Int:=((List.range k).map fun (i:Nat)=>weight ns (aS (ak ns) i)*cq ns us (aS (ak ns) i)).sum
def Dx (ns:List ZL)(us:List ZY)(k:Nat):jh ns us (k+1)=jh ns us k+weight ns (aS (ak ns) k)*cq ns us (aS (ak ns) k):=by
 unfold jh;rw[Wy];simp
def wO (ns:List ZL)(vals:List Int):(ic ns vals).length=ns.length:=by simp[ic]
def Dy (h:v<ns.length):(ic ns vals)[v]?=some (mX ns vals v):=by
 unfold ic;rw[List.getElem?_map,VT h];rfl
def sV (hin:fm x.F ns.length)(hf:bZ (ak ns) vals):bZ (aV ns x) (aK vals x.F):=by
 refine⟨by unfold aV;rw[iG,iG],fun k c v h1 h2=>?_⟩;obtain⟨q,hq⟩:=ao (l:=x.F) (i:=k) (by have:=aI h2;rw[iG]at this;exact this);obtain⟨j,rfl,y,hy⟩:=n9 (l:=ns) (hin q (an hq)).1 (hin q (an hq)).2;obtain⟨b,hb⟩:=ao (l:=vals) (i:=j) (by rw[hf.1,dk];exact aI hy);have e1:(aV ns x)[k]?=some y.L:=by rw[show (aV ns x)[k]?=_ from kF hq,Int.toNat_natCast,bM (dw hy)]
 have e2:(aK vals x.F)[k]?=some b:=by rw[kF hq,Int.toNat_natCast,bM hb]
 rw[h1]at e1;rw[h2]at e2;cases e1;cases e2;exact hf.2 j y.L _ (dw hy) hb
structure RowAtW (g:Int)(ns:List ZL)(x:ZL)(vals:List Int)(v:Nat)(i:Nat)(r:List Int)(a w:Int):Prop where
 idx:bW (aV ns x) (aK vals x.F)=i
 row:x.na[i]?=some r
 val:vals[v]?=some a
 a0:0<=a
 hw:r[a.toNat]?=some w
 wb:0<=w/\w<=g
 eq:mX ns vals v=w
 rv:pK ns x vals=r
 len:(r.length:Int)=x.L
 al:a<r.length
def xE (h:Z5 g ns)(hx:ns[v]?=some x)(hf:bZ (ak ns) vals):∃i r a w,RowAtW g ns x vals v i r a w:=by
 have hxm:=an hx;have hin:fm x.F ns.length:=fun q hq=>by have:=(h.node x hxm).2.2 q hq;omega
 have hr:=mS (sV hin hf);obtain⟨r1,r2⟩:=h.na x hxm;obtain⟨i,hi⟩:=VE hr.1;obtain⟨r,hrr⟩:=ao (l:=x.na) (i:=i) (by rw[<- r1,hi]at hr;omega);obtain⟨s1,s2,s3⟩:=r2 r (an hrr);obtain⟨a,ha⟩:=ao (l:=vals) (i:=v) (by rw[hf.1,dk];exact aI hx);have hb:=hf.2 v x.L a (dw hx) ha;obtain⟨w,hw⟩:=ao (l:=r) (i:=a.toNat) O;have rv:pK ns x vals=r:=by unfold pK;rw[hi,Int.toNat_natCast,bM hrr]
 exact⟨i,r,a,w,hi,hrr,ha,hb.1,hw,s2 w (an hw),by unfold mX;rw[hx];simp only;rw[rv,bM ha,bM hw],rv,s1,O⟩
def uP (k:Nat)(h:k<=8):(60:Int) ^ k<=167961600000000:=by
 have h1:(60:Nat) ^ k<=60 ^ 8:=V0 ZG h;have h2:(60:Nat) ^ 8=167961600000000:=ZG
 rw[h2]at h1;have h3:=Int.ofNat_le.2 h1;rw[Int.natCast_pow]at h3;exact h3
def Fm (h:Z5 g ns)(hf:bZ (ak ns) vals)(k:Nat):0<=aj ((ic ns vals).take k)/\aj ((ic ns vals).take k)<=167961600000000:=by
 have hb:∀w∈ic ns vals,0<=w/\w<=60:=fun w hw=>by
  obtain⟨v,hv,rfl⟩:=VI.1 hw;obtain⟨x,hx⟩:=ao (VP.1 hv);obtain⟨i,r,a,w,hR⟩:=xE h hx hf;rw[hR.eq];have:=hR.wb;have:=h.g1;omega
 have h1:=oa (b:=60) O (l:=(ic ns vals).take k) fun x hx=>hb x (VU hx);have h2:=uP ((ic ns vals).take k).length (by have:=h.n1;rw[VK,wO];omega);omega
def sW (ns:List ZL)(v:Nat)(x:ZL)(vals:List Int)(hx:ns[v]?=some x)(hin:fm x.F ns.length)(hs:dV (aV ns x))(hf:bZ (ak ns) vals)(H:ZJ)(N n:Nat)(hN:N<H.A)
  (hg:H.get N=some (.J 0 3 (ints vals))) (hn:n=vals.length):bL prog G0 (.Z 98 [] []) [.Q ns.length (aG ns),.lit (.int .i64 v),.U N 0 0 n 1] H (.lit (.int .i64 (bW (aV ns x) (aK vals x.F)))) [N]:=by
 subst hn;refine bL.mk (fun i hi=>by obtain rfl:=List.mem_singleton.1 hi;exact hN) fun H2 h2 _=>?_;refine(ag.frame (H:=H2) (args:=[.Q ns.length (aG ns),.lit (.int .i64 v),.U N 0 0 vals.length 1]) (args':=[dX ns,.lit (.int .i64 v),ah vals]) (v':=.lit (.int .i64 (bW (aV ns x) (aK vals x.F)))) aJ rfl (fun i hi _=>?_) (SW ns v x vals hx hin hs hf cZ _ ⟨_,rfl,.lit _⟩))
 match i,hi with
 |0,_=>exact sZ _
 |1,_=>exact .lit _
 |2,_=>exact Fz.pZ ((h2 N ZF).trans hg) (by rw[aR]) fun c hc=>by obtain⟨z,_,rfl⟩:=VI.1 hc;exact⟨_,rfl⟩
def SM (g:Int)(ns:List ZL)(h:Z5 g ns)(H:ZJ)(K:ZP->ZJ->Prop)(hK:K (.ret (ah (fU ns))) H):ag prog G0 106 [dJ g ns] H K:=by
 refine ag.Z ⟨_,func106,rfl,rfl⟩ fun hcl=>?_;have n8:=h.n1;have hcards:∀c∈ak ns,1<=c/\c<=4:=fun c hc=>by
  obtain⟨x,hx,rfl⟩:=VI.1 hc;exact(h.node x hx).1
 have sm:dV (ak ns):=nu (by rw[dk];omega) hcards;have hp:=dY fun c hc=>(hcards c hc).1;have hsz:=h.size;have hw:((bO ns:Nat):Int)=aj (ak ns):=by unfold bO;omega
 refine ag.st (n:=51) (rs:=[.tmp 2]) func106 ?_;simp only[go_sem,dJ,dX];refine au.Z (sY ns O _ _ ⟨trivial,?_⟩);simp only[go_sem];refine au.Z (SV (ak ns) sm _ _ ⟨trivial,?_⟩);rw[<- hw];simp only[go_sem];refine⟨O,?_⟩;refine au.Z (sU (ak ns) _ _ ⟨trivial,?_⟩);simp only[go_sem];obtain⟨H2,hH2⟩:∃H2,H2=ext (ext H [.J 0 81 [.lit (.int .i64 g),.Q ns.length (aG ns)],.J 0 3 (List.replicate 0 (.lit (.int .i64 0))),.J 0 42 [.U (H.A+1) 0 0 0 1]]) [.J 0 42 [ah (ak ns)]]:=⟨_,rfl⟩
 have n2:H2.A=H.A+4:=by rw[hH2];rfl
 have o2:ZN H H2:=by rw[hH2];exact(ZN.ext _ _).trans (.ext _ _)
 have g0:H2.get H.A=some (.J 0 81 [.lit (.int .i64 g),.Q ns.length (aG ns)]):=by rw[hH2,cW];exact bH H _ 0 (ZF)
 have g1:H2.get (H.A+1)=some (.J 0 3 []):=by rw[hH2,cW];exact bH H _ 1 (ZF)
 have g2:H2.get (H.A+2)=some (.J 0 42 [.U (H.A+1) 0 0 0 1]):=by rw[hH2,cW];exact bH H _ 2 (ZF)
 have g3:H2.get (H.A+3)=some (.J 0 42 [ah (ak ns)]):=by rw[hH2,cW];exact bH H _ 3 (ZF)
 refine W.env fun E hE=>?_;have e1:E 1=.M H.A 0 0:=by rw[hE];simp only[go_sem]
 have e4:E 4=.M (H.A+2) 0 0:=by rw[hE];simp only[go_sem]
 have e17:E 17=.Z 131 [] [.M (H.A+3) 0 0]:=by rw[hE];rfl
 clear hE;show W _ _ _ _ _ _ ⟨E,ext (ext H [.J 0 81 [.lit (.int .i64 g),.Q ns.length (aG ns)],.J 0 3 (List.replicate 0 (.lit (.int .i64 0))),.J 0 42 [.U (H.A+1) 0 0 0 1]]) [.J 0 42 [ah (ak ns)]]⟩;rw[<- hH2];have hit:=sT (ak ns) (fun c hc=>(hcards c hc).1) sm (H.A+3) (H2.A+1) O;refine W.tu (f:=131) (first:=[]) (cap:=[.M (H.A+3) 0 0]) (by show E 17=_;exact e17) hit
  (fun k Hx=>H2.A<Hx.A/\(∀id,id<H2.A->id≠H.A+1->id≠H.A+2->Hx.get id=H2.get id)/\∃gn,Hx.get (H.A+2)=some (.J 0 42 [.U (H.A+1) gn 0 k 1])/\Hx.get (H.A+1)=some (.J gn 3 (ints ((fU ns).take k))))
  (fun _ _=>False)
  (fun k Hx h=>(h.2.1 _ O O O).trans g3)
  (fun k H1 H3 h hw=>⟨by have:=hw.1;omega,fun id h1 h2 h3=>(hw.2 _ O (by have:=h.1;omega)).trans (h.2.1 id h1 h2 h3),by
   obtain⟨gn,a1,a2⟩:=h.2.2;exact⟨gn,(hw.2 _ O (by have:=h.1;omega)).trans a1,(hw.2 _ O (by have:=h.1;omega)).trans a2⟩⟩)
  (fun k Hx h=>h.1)
  (fun k H1 b h=>⟨h.1,fun id h1 h2 h3=>by rw[af,Vx O];exact h.2.1 id h1 h2 h3,by
   obtain⟨gn,a1,a2⟩:=h.2.2;exact⟨gn,by rw[af,Vx O];exact a1,by rw[af,Vx O];exact a2⟩⟩)
  (fun _ _ _ h=>h) (fun k H1 b h=>by unfold lH at h ⊢;rw[af,Vx O];exact h)
  (fun b=>⟨by rw[aM];simp,fun id h1 h2 h3=>aX h1,0,by rw[aX O];exact g2,by rw[aX O];exact g1⟩) (ZG)
  (fun x hx=>by
   obtain⟨k,hk⟩:=VG.1 hx;obtain⟨_,rfl⟩:=lG hk;rfl) (fun _ _ _=>trivial) (fun _ _ _=>trivial) (fun k y Hx B Bb hy hj hcs hn hB hBb=>?_) (fun Hx hj hn=>?_) (fun _ hs _=>hs.elim) (fun _ _ hs _=>hs.elim)
 ·obtain⟨hk,rfl⟩:=lG hy;refine W.vs ?_;simp only[go_sem,eZ,bb,fO,V6,Ws,V7,Wb,hB];obtain⟨H3,hH3⟩:∃H3,H3=Hx.upd H2.A Bb:=⟨_,rfl⟩
  rw[<- hH3];obtain⟨st,pd,n',en,ps',as',bo,hBe⟩:=hBb;have n3:H3.A=Hx.A:=by rw[hH3];rfl
  have o3:∀id,id≠H2.A->H3.get id=Hx.get id:=fun id h=>by rw[hH3,af,Vx h]
  have jB:H3.get H2.A=some Bb:=by rw[hH3,af,VA rfl]
  obtain⟨gn,a1,a2⟩:=hj.2.2;have k0:=(o3 _ O).trans ((hj.2.1 H.A O O O).trans g0);have k1:=(o3 _ O).trans a2;have k2:=(o3 _ O).trans a1;have kN:H3.get (H2.A+1)=some (.J 0 3 (ints (aS (ak ns) k))):=(o3 _ O).trans hcs;obtain⟨vals,hvals⟩:∃vals,vals=aS (ak ns) k:=⟨_,rfl⟩
  have hfit:bZ (ak ns) vals:=by rw[hvals];exact pF (fun c hc=>(hcards c hc).1) _
  rw[<- hvals]at kN;have hvl:vals.length=ns.length:=by rw[hfit.1,dk]
  refine W.en (fun E1=>E1 1=.M H.A 0 0 /\ E1 4=.M (H.A+2) 0 0 /\ E1 6=.U (H2.A+1) 0 0 ns.length 1) (by simp only[go_sem,bb,e1,e4,dk]) fun E1 ⟨m1,m4,m6⟩=>?_
  have l0:=ae k0;refine W.vs ?_;simp only[go_sem,m1,l0];refine W.aP 70368735789952 (by rfl) (fun ρ2 H4=>∃v:Nat,ρ2 23=aa v/\v<=ns.length/\ZN H3 H4/\ρ2 7=aa (aj ((ic ns vals).take v))) (fun ρ2 H=>ns.length-(iv (ρ2 23)).toNat) ?_ ?_
  ·simp only[go_sem];exact⟨0,rfl,O,.refl _,by simp[iT]⟩
  rintro ρ2 H4 ⟨v,h23,hv,o4,h7⟩;refine W.en (fun E2=>E2 1=.M H.A 0 0 /\ E2 4=.M (H.A+2) 0 0 /\ E2 6=.U (H2.A+1) 0 0 ns.length 1 /\ E2 7=aa (aj ((ic ns vals).take v)) /\ E2 21=.Q ns.length (aG ns) /\ E2 22=aa ns.length /\ E2 23=aa v) (by simp only[go_sem,m1,m4,m6,h7,h23]) fun E2 ⟨p1,p4,p6,p7,p21,p22,p23⟩=>?_
  have o4n:=o4.A;have q0:=ae ((o4.nb _ O).trans k0);have q1:=ae ((o4.nb _ O).trans k1);have q2:=ae ((o4.nb _ O).trans k2);have gN4:=(o4.nb _ O).trans kN;refine W.vs ?_;by_cases hb:(v:Int)<ns.length
  ·obtain⟨x,hx⟩:=ao (l:=ns) (i:=v) O;have hxm:=an hx;obtain⟨i,r,a,w,hR⟩:=xE h hx hfit;obtain⟨a',rfl⟩:=VE hR.a0;have hin:fm x.F ns.length:=fun q hq=>by have:=(h.node x hxm).2.2 q hq;omega
   have hne:=eT hx;have c0:=qE hx;have c1:v*3+3<=(aG ns).length:=(by rw[kV];omega);obtain⟨H5,hH5⟩:∃H5,H5=ext H4 [.J 0 87 [.lit (.int .i64 x.L),.Q x.F.length (ints x.F),aE x.na]]:=⟨_,rfl⟩
   have hpc:bL prog G0 (.Z 98 [] []) [.Q ns.length (aG ns),.lit (.int .i64 v),.U (H2.A+1) 0 0 ns.length 1] H5 (.lit (.int .i64 i)) [H2.A+1]:=by
    have:=sW ns v x vals hx hin (jK n8.2 (h.node x hxm).2 fun y hy=>(h.node y hy).1) hfit H5 (H2.A+1) ns.length (by rw[hH5,aM];omega) (by rw[hH5,dM _ _ _ O];exact gN4) hvl.symm;rw[hR.idx]at this;exact this
   have f0:=ae (show H5.get H.A=some (.J 0 81 [.lit (.int .i64 g),.Q ns.length (aG ns)]) by rw[hH5,dM _ _ _ O];exact(o4.nb _ O).trans k0);have f4:=ae (show H5.get H4.A=some (.J 0 87 [.lit (.int .i64 x.L),.Q x.F.length (ints x.F),aE x.na]) by rw[hH5];exact cI);have fN:=ae (show H5.get (H2.A+1)=some (.J 0 3 (ints vals)) by rw[hH5,dM _ _ _ O];exact gN4);have hri:=hR.row;have hrne:=aO hri;have hrl:(i:Int)<x.na.length:=(by have:=aI hri;omega);have hva:=hR.val;have hvne:=aO hva;have hra:r[a']?=some w:=(by have:=hR.hw;rw[Int.toNat_natCast]at this;exact this);have hrane:=aO hra;have hal:=hR.al;have wt:=Fm h hfit (v+1);rw[aU (Dy (vals:=vals) (v:=v) O),gQ,hR.eq]at wt;have w1:=Vv ((v:Int)+1) O;have w2:=Vv (aj ((ic ns vals).take v)*w) O;simp only[go_sem,p21,p22,p23,hb,hne,c0,c1];rw[<- hH5];refine W.dr 16 [0,0,2,0,8,0,0,120,254,510,0,0,3072,7168,16382,32766] mixed ?_;simp only[go_sem,p1,p6,p7,f0,f4,aE];refine⟨.lit (.int .i64 i),[H2.A+1],hpc,?_⟩;have hvn:(v:Int)<ns.length:=hb;simp only[go_sem,p1,p6,p7,p23,fN,hri,hrne,hrl,hra,hrane,hva,hal,hvn,w1,w2];have n5:H5.A=H4.A+1:=(by rw[hH5];rfl);exact⟨O,⟨_,_,_,_,_,_,_,by rw[hH5,dM _ _ _ O,o4.nb _ O,jB,hBe]⟩,⟨v+1,ZF,O,by rw[hH5];exact o4.trans (.ext _ _),by rw[aU (Dy (vals:=vals) (v:=v) O),gQ,hR.eq]⟩,by rw[h23];simp only[aa,aZ];omega⟩
  ·rw[Vy (by rw[wO];omega)]at p7;have hwk:(fU ns)[k]?=some (weight ns vals):=by
    unfold fU;rw[List.getElem?_map,VT (show k<bO ns from hk),hvals];rfl
   have hkl:((fU ns).take k).length=k:=by
    have:(fU ns).length=bO ns:=(by simp[fU]);have:k<bO ns:=hk;simp;omega
   have hkw:k<bO ns:=hk;have nn:¬H.A+1=H4.A:=O;have nn2:¬H.A+2=H4.A:=O;have hbd:(k+1)*8<=2 ^ 46/\k+1<=2 ^ 46:=O;have q1e:∀L,(ext H4 L).V (H.A+1) gn=some (3,ints ((fU ns).take k)):=fun L=>(ea O).trans q1;have q2e:∀L b,((ext H4 L).upd (H.A+1) b).V (H.A+2) 0=some (42,[.U (H.A+1) gn 0 k 1]):=fun L b=>(cH O).trans ((ea O).trans q2);simp only[go_sem,p4,p7,p22,p23,hb,q2,q1e,q2e,hkl,hbd,dE,bf];obtain⟨Hf,hHf⟩:∃Hf,Hf=((ext H4 [.J 0 3 [.lit (.int .i64 (aj (ic ns vals)))]]).upd (H.A+1) (.J (gn+1) 3 (ints ((fU ns).take k)++[.lit (.int .i64 (aj (ic ns vals)))]))).upd (H.A+2) (.J 0 42 [.U (H.A+1) (gn+1) 0 (k+1) 1]):=⟨_,rfl⟩
   rw[<- hHf];have hget:∀id,id<H4.A->id≠H.A+1->id≠H.A+2->Hf.get id=H4.get id:=fun id h1 h2 h3=>by rw[hHf,af,Vx h3,af,Vx h2,aX h1]
   have nf:Hf.A=H4.A+1:=(by rw[hHf];rfl);have eint:ints ((fU ns).take (k+1))=ints ((fU ns).take k)++[.lit (.int .i64 (aj (ic ns vals)))]:=(by rw[aU hwk];simp[ints,aa,weight]);refine⟨by rw[hget _ O O O,o4.nb _ O];exact jB,O,⟨O,fun id h1 h2 h3=>by rw[hget _ O h2 h3,o4.nb _ O,o3 _ O];exact hj.2.1 id h1 h2 h3,gn+1,by rw[hHf,af,VA rfl],by rw[hHf,af,Vx O,af,VA rfl,eint]⟩,?_⟩;show Hf.get (H2.A+1)=_;rw[hget _ O O O,gN4,hvals]
 ·rw[qX]at hj;obtain⟨gn,a1,a2⟩:=hj.2.2;have l2:=ae a1;simp only[go_sem,e4,l2];have ovx:ZN H Hx:=⟨O,fun id hi=>(hj.2.1 id O O O).trans (o2.nb id hi)⟩
  have hlen:(fU ns).length=(aj (ak ns)).toNat:=by simp[fU,bO]
  rw[Vy O]at a2;refine aq.bC aJ hcl ovx ?_ hK;show Fz (fun id=>H.A<=id) Hx H.A (.U (H.A+1) gn 0 (aj (ak ns)).toNat 1) (ah (fU ns));exact .ints (S:=fun id=>H.A<=id) (o:=0) (by show H.A<=_;omega) a2 hlen.symm fun i hi=>by simp[fa,hi]
def uQ (g:Int)(ns:List ZL)(us:List ZY):ZK:=.agg [.lit (.int .i64 g),.Q ns.length (aG ns),.Q us.length (bj us)]
def qY {us:List ZY}(hu:∀u∈us,Z8 ns u)(h4:us.length<=4)(vals:List Int)(k:Nat):-400<=cq ns (us.take k) vals/\cq ns (us.take k) vals<=400:=by
 have key:∀l:List ZY,(∀u∈l,Z8 ns u)->-(100*l.length:Int)<=cq ns l vals/\cq ns l vals<=100*l.length:=by
  intro l
  induction l with
  |nil=>intro _;simp[cq]
  |cons u l ih =>
   intro h;have h1:=ih fun u hu=>h u (by simp[hu]);have h2:-100<=oe ns vals u/\oe ns vals u<=100:=by
    unfold oe;rw[VB];cases hg:u.w[(bW (aK (ak ns) u.vars) (aK vals u.vars)).toNat]? with
    |none=>simp
    |some w=>exact(h u ZF).w w (an hg)
   simp only[cq,List.map_cons,XF,List.length_cons]at h1 ⊢
   push_cast
   omega
 have:=key (us.take k) fun u hk=>hu u (VU hk);have h5:(us.take k).length<=4:=by simp;omega
 omega
def SN (g:Int)(ns:List ZL)(us:List ZY)(vals:List Int)(h8:ns.length<=8)(hc:∀y∈ns,1<=y.L/\y.L<=4)(hu:∀u∈us,Z8 ns u)(h4:us.length<=4)(hf:bZ (ak ns) vals)(H:ZJ)(K:ZP->ZJ->Prop)
  (hK:K (.ret (aa (cq ns us vals))) H):ag prog G0 64 [uQ g ns us,ah vals] H K:=by
 refine ag.Z ⟨_,func64,rfl,rfl⟩ fun hcl=>?_;have hfl:vals.length=ns.length:=by rw[hf.1,dk]
 refine ag.st (n:=49) (rs:=[.tmp 4]) func64 ?_;simp only[go_sem,uQ];obtain⟨H1,hH1⟩:∃H1,H1=ext H [.J 0 128 [.lit (.int .i64 g),.Q ns.length (aG ns),.Q us.length (bj us)]]:=⟨_,rfl⟩
 have l1:H1.V H.A 0=some (128,[.lit (.int .i64 g),.Q ns.length (aG ns),.Q us.length (bj us)]):=by rw[hH1];exact ae (dA ..)
 have n1:H1.A=H.A+1:=hH1▸rfl
 have o1:ZN H H1:=hH1▸.ext _ _
 rw[<- hH1];refine W.aP 281474976695712 (by rfl) (fun ρ H'=>∃k:Nat,ρ 14=aa k/\k<=us.length/\ZN H1 H'/\ρ 5=aa (cq ns (us.take k) vals)) (fun ρ H=>us.length-(iv (ρ 14)).toNat) ?_ ?_
 ·simp only[go_sem];exact⟨0,rfl,O,.refl _,by simp[cq]⟩
 rintro ρ H' ⟨k,h14,hk,ov,h5⟩;refine W.en (fun E=>E 1=ah vals /\ E 2=.M H.A 0 0 /\ E 5=aa (cq ns (us.take k) vals) /\ E 12=.Q us.length (bj us) /\ E 13=aa us.length /\ E 14=aa k) (by simp only[go_sem,h5,h14]) fun E ⟨e1,e2,e5,e12,e13,e14⟩=>?_
 refine W.vs ?_;have ovn:=ov.A;by_cases hb:(k:Int)<us.length;rotate_left
 ·simp only[go_sem,e5,e13,e14,hb];rw[Vy O];exact aq.bC aJ hcl (o1.trans ov) (.lit _) hK
 obtain⟨u,hku⟩:=ao (l:=us) (i:=k) O;have hum:=an hku;obtain⟨u1,u2,u3⟩:=hu u hum;have hne:=zD hku;have p0:=zC hku;have p1:k*2+2<=(bj us).length:=by rw[zB];omega
 have v8:=u1.len;obtain⟨H2,hH2⟩:∃H2,H2=ext H' [.J 0 90 [.Q u.vars.length (ints u.vars),.Q u.w.length (ints u.w)]]:=⟨_,rfl⟩
 have m1:=ae (show H2.get H'.A=some (.J 0 90 [.Q u.vars.length (ints u.vars),.Q u.w.length (ints u.w)]) by rw[hH2];exact cI);have m2:H2.V H.A 0=some (128,[.lit (.int .i64 g),.Q ns.length (aG ns),.Q us.length (bj us)]):=by rw[hH2];exact(ea O).trans ((ov.V O).trans l1)
 have n2:H2.A=H'.A+1:=by rw[hH2];rfl
 have sm:=uL h8 u1 hc;have hin:fm u.vars ns.length:=fun q hq=>by have:=u1.2 q hq;omega
 have fp:bZ (aK (ak ns) u.vars) (aK vals u.vars):=sV (x:=⟨0,u.vars,[]⟩) hin hf;have pl:(aK (ak ns) u.vars).length=u.vars.length:=iG _ _;have vl:(aK vals u.vars).length=u.vars.length:=iG _ _;have ft:∀j,bZ ((aK (ak ns) u.vars).take j) ((aK vals u.vars).take j):=fun j=>⟨by simp[pl,vl],fun i c b h1 h2=>by
  rw[Yn]at h1 h2;split at h1
  ·rename_i hik;rw[VA hik]at h2;exact fp.2 i c b h1 h2
  ·cases h1⟩
 have hr:∀j,0<=fG ((aK (ak ns) u.vars).take j) ((aK vals u.vars).take j)/\fG ((aK (ak ns) u.vars).take j) ((aK vals u.vars).take j)<68719476737:=fun j=>by
  rw[sk (ft j).1];have a:=mS (ft j);have b:=(sm.take j).prod;omega
 simp only[go_sem,e12,e13,e14,hb,hne,p0,p1];rw[<- hH2];refine W.aP 1099509531904 (by rfl) (fun ρ2 H3=>H3=H2/\∃j:Nat,ρ2 21=aa j/\j<=u.vars.length/\ρ2 8=aa (fG ((aK (ak ns) u.vars).take j) ((aK vals u.vars).take j))) (fun ρ2 H=>u.vars.length-(iv (ρ2 21)).toNat) ?_ ?_
 ·simp only[go_sem];exact⟨0,rfl,O,rfl⟩
 rintro ρ2 H3 ⟨rfl,j,h21,hj,h8'⟩;refine W.vs ?_;by_cases hb2:(j:Int)<u.vars.length
 ·obtain⟨q,hq⟩:=ao (l:=u.vars) (i:=j) O;obtain⟨i,rfl,y,hy⟩:=n9 (l:=ns) (hin q (an hq)).1 (hin q (an hq)).2;obtain⟨b,hbv⟩:=ao (l:=vals) (i:=i) (by rw[hfl];exact aI hy);have hyb:=hf.2 i y.L b (dw hy) hbv;have a1:(aK (ak ns) u.vars)[j]?=some y.L:=by rw[kF hq,Int.toNat_natCast,bM (dw hy)]
  have a2:(aK vals u.vars)[j]?=some b:=by rw[kF hq,Int.toNat_natCast,bM hbv]
  have hne2:=aO hq;have hne3:=aO hbv;have hne4:=eT hy;have ey:=iS hy;have hi:(i:Int)<ns.length:=by have:=aI hy;omega
  have hi2:(i:Int)<vals.length:=O
  have w1:=Vv ((j:Int)+1) O;have r1:=hr (j+1);rw[sr a1 a2]at r1;have r0:=hr j;have m0:0<=fG ((aK (ak ns) u.vars).take j) ((aK vals u.vars).take j)*y.L:=WT r0.1 O;have w2:=Vv (fG ((aK (ak ns) u.vars).take j) ((aK vals u.vars).take j)*y.L) O;have w3:=Vv (fG ((aK (ak ns) u.vars).take j) ((aK vals u.vars).take j)*y.L+b) O;simp only[go_sem,h21,hb2,hq,hne2];refine W.dr 13 [0,0,2,6,0,30,62,126,255,0,0,1536,3584] mixed ?_;simp only[go_sem,h21,h8',e1,e2,m2,hne3,hne4,hi,hi2,hbv,ey,w1,w2,w3];exact⟨⟨j+1,ZF,O,by rw[sr a1 a2]⟩,O⟩
 ·rw[Vy O,Vy O,sk (by rw[pl,vl])]at h8';have hx:=mS fp;obtain⟨ix,hix⟩:=VE hx.1;obtain⟨w,hw⟩:=ao (l:=u.w) (i:=ix) O;have hwne:=aO hw;have hwl:(ix:Int)<u.w.length:=by have:=aI hw;omega
  have eu:oe ns vals u=w:=by unfold oe;rw[hix,Int.toNat_natCast,bM hw]
  have us1:cq ns (us.take (k+1)) vals=cq ns (us.take k) vals+w:=by rw[aU hku];unfold cq;simp[eu]
  have b1:=qY hu h4 vals k;have b2:=qY hu h4 vals (k+1);rw[us1]at b2;have w1:=Vv ((k:Int)+1) O;have w2:=Vv (cq ns (us.take k) vals+w) O;rw[hix]at h8';simp only[go_sem,h21,h8',e5,e14,m1,hb2,hw,hwne,hwl,w1,w2];exact⟨O,⟨k+1,ZF,O,by rw[hH2];exact ov.trans (.ext _ _),by rw[us1]⟩,by rw[h14];simp only[aa,aZ];omega⟩
def SO (g:Int)(ns:List ZL)(us:List ZY)(vals:List Int)(h8:ns.length<=8)(hc:∀y∈ns,1<=y.L/\y.L<=4)(hu:∀u∈us,Z8 ns u)(h4:us.length<=4)(hf:bZ (ak ns) vals)(H:ZJ)(N n:Nat)(hN:N<H.A)
  (hg:H.get N=some (.J 0 3 (ints vals))) (hn:n=vals.length):bL prog G0 (.Z 64 [] []) [.agg [.lit (.int .i64 g),.Q ns.length (aG ns),.Q us.length (bj us)],.U N 0 0 n 1] H (.lit (.int .i64 (cq ns us vals))) [N]:=by
 subst hn;refine bL.mk (fun i hi=>by obtain rfl:=List.mem_singleton.1 hi;exact hN) fun H2 h2 _=>?_;refine(ag.frame (H:=H2) (args:=[.agg [.lit (.int .i64 g),.Q ns.length (aG ns),.Q us.length (bj us)],.U N 0 0 vals.length 1]) (args':=[uQ g ns us,ah vals]) (v':=.lit (.int .i64 (cq ns us vals))) aJ rfl (fun i hi _=>?_) (SN g ns us vals h8 hc hu h4 hf cZ _ ⟨_,rfl,.lit _⟩))
 match i,hi with
 |0,_ =>
  refine .agg rfl fun i hi _=>?_
  match i,hi with
  |0,_=>exact .lit _
  |1,_=>exact sZ _
  |2,_ =>
   refine .Q rfl fun i hi _=>?_;have:∀c∈bj us,Fz (fun _=>True) H2 0 c c:=by
    intro c hc;unfold bj at hc;obtain⟨r,hr,hc⟩:=Xc.1 hc;obtain⟨x,_,rfl⟩:=VI.1 hr;unfold ZY.cells at hc;simp only[List.mem_cons,List.not_mem_nil,or_false]at hc;rcases hc with rfl|rfl
    ·exact .dK _
    ·exact .dK _
   exact this _ (Wo _)
 |1,_=>exact Fz.pZ ((h2 N ZF).trans hg) (by rw[aR]) fun c hc=>by obtain⟨z,_,rfl⟩:=VI.1 hc;exact⟨_,rfl⟩
def SP (g:Int)(ns:List ZL)(us:List ZY)(vals:List Int)(h8:ns.length<=8)(hc:∀y∈ns,1<=y.L/\y.L<=4)(hu:∀u∈us,Z8 ns u)(h4:us.length<=4)(hf:bZ (ak ns) vals)(w a:Int)(hw:0<=w/\w<=167961600000000)(ha:-1000000000000000000<=a/\a<=1000000000000000000)
  (H:ZJ) (N n sb fb:Nat) (hg:H.get N=some (.J 0 3 (ints vals))) (hn:n=vals.length) (hsb:H.get sb=some (.J 0 3 [.lit (.int .i64 a)])) (hfb:H.get fb=some (.J 0 128 [.lit (.int .i64 g),.Q ns.length (aG ns),.Q us.length (bj us)])) (hN:N<H.A) (hNs:N≠sb) (hfs:fb≠sb)
  (K:ZP->ZJ->Prop) (hK:K (.ret (.nf [])) (H.upd sb (.J 0 3 [.lit (.int .i64 (a+w*cq ns us vals))]))):ag prog G0 63 [.U N 0 0 n 1,.lit (.int .i64 w),.M sb 0 0,.M fb 0 0] H K:=by
 have ls:=ae hsb;have lf:=ae hfb;have hpc:=SO g ns us vals h8 hc hu h4 hf H N n hN hg hn;have b:=qY hu h4 vals us.length;rw[Vy ZI]at b;have m1:-67184640000000000<=w*cq ns us vals/\w*cq ns us vals<=67184640000000000:=by
  constructor
  ·have h1:w*(-400)<=w*cq ns us vals:=VY b.1 hw.1;omega
  ·have h1:w*cq ns us vals<=w*400:=VY b.2 hw.1;omega
 have w1:=Vv (w*cq ns us vals) O;have w2:=Vv (a+w*cq ns us vals) O;refine ag.st (n:=13) (rs:=[]) func63 ?_;simp only[go_sem];refine W.dr 6 [0,0,0,0,12,30] mixed ?_;simp only[go_sem,ls,lf];refine⟨_,[N],hpc,?_⟩;simp only[go_sem,ls,w1,w2];exact aq.mk ZI hK
def SA (h:k<bO ns):(fU ns)[k]?=some (weight ns (aS (ak ns) k)):=by
 unfold fU;rw[List.getElem?_map,VT h];rfl
def SB (ns:List ZL):(fU ns).length=bO ns:=by simp[fU]
def SC (h:Z5 g ns)(hf:bZ (ak ns) vals):0<=weight ns vals/\weight ns vals<=167961600000000:=by
 have:=Fm h hf ns.length;rw[Vy (by rw[wO];omega)]at this;exact this
def SD (g:Int)(ns:List ZL)(us:List ZY)(h:Z5 g ns)(hu:∀u∈us,Z8 ns u)(h4:us.length<=4)(hBd:∀k,k<=bO ns->-1000000000000000000<=jh ns us k/\jh ns us k<=1000000000000000000)
  (H:ZJ) (sb fb:Nat) (hsb:H.get sb=some (.J 0 3 [.lit (.int .i64 0)])) (hfb:H.get fb=some (.J 0 128 [.lit (.int .i64 g),.Q ns.length (aG ns),.Q us.length (bj us)])) (hlt:sb<H.A) (hltf:fb<H.A) (hfs:fb≠sb)
  (K:ZP->ZJ->Prop) (hK:∀H',H.A<=H'.A->(∀id,id<H.A->id≠sb->H'.get id=H.get id)->H'.get sb=some (.J 0 3 [.lit (.int .i64 (jh ns us (bO ns)))])->K (.ret (.nf [])) H'):
  ag prog G0 62 [uQ g ns us,.Z 63 [] [.M sb 0 0,.M fb 0 0]] H K:=by
 have n8:=h.n1;have hcards:∀c∈ak ns,1<=c/\c<=4:=fun c hc=>by
  obtain⟨x,hx,rfl⟩:=VI.1 hc;exact(h.node x hx).1
 have sm:dV (ak ns):=nu (by rw[dk];omega) hcards;have hp:=dY fun c hc=>(hcards c hc).1;refine ag.st (n:=24) (rs:=[]) func62 ?_;simp only[go_sem,uQ];refine au.Z (SM g ns h _ _ ⟨trivial,?_⟩);simp only[go_sem];refine au.Z (sY ns O _ _ ⟨trivial,?_⟩);simp only[go_sem];refine au.Z (sU (ak ns) _ _ ⟨trivial,?_⟩);simp only[go_sem];obtain⟨H2,hH2⟩:∃H2,H2=ext (ext H [.J 0 128 [.lit (.int .i64 g),.Q ns.length (aG ns),.Q us.length (bj us)],.J 0 130 (ZK.Z 63 [] [.M sb 0 0,.M fb 0 0]).cells,.J 0 42 [ah (fU ns)]]) [.J 0 42 [ah (ak ns)]]:=⟨_,rfl⟩
 have n2:H2.A=H.A+4:=by rw[hH2];rfl
 have o2:ZN H H2:=by rw[hH2];exact(ZN.ext _ _).trans (.ext _ _)
 have g1:H2.get (H.A+1)=some (.J 0 130 [.Z 63 [] [.M sb 0 0,.M fb 0 0]]):=by rw[hH2,cW];exact bH H _ 1 (ZF)
 have g2:H2.get (H.A+2)=some (.J 0 42 [ah (fU ns)]):=by rw[hH2,cW];exact bH H _ 2 (ZF)
 have g3:H2.get (H.A+3)=some (.J 0 42 [ah (ak ns)]):=by rw[hH2,cW];exact bH H _ 3 (ZF)
 have gsb:=(o2.nb _ hlt).trans hsb;have gfb:=(o2.nb _ hltf).trans hfb;refine W.env fun E hE=>?_;have e3:E 3=.M (H.A+1) 0 0:=by rw[hE];simp only[go_sem]
 have e4:E 4=.M (H.A+2) 0 0:=by rw[hE];simp only[go_sem]
 have e14:E 14=.Z 131 [] [.M (H.A+3) 0 0]:=by rw[hE];rfl
 clear hE;show W _ _ _ _ _ _ ⟨E,ext (ext H [.J 0 128 [.lit (.int .i64 g),.Q ns.length (aG ns),.Q us.length (bj us)],.J 0 130 (ZK.Z 63 [] [.M sb 0 0,.M fb 0 0]).cells,.J 0 42 [ah (fU ns)]]) [.J 0 42 [ah (ak ns)]]⟩;rw[<- hH2];have hit:=sT (ak ns) (fun c hc=>(hcards c hc).1) sm (H.A+3) (H2.A+1) O;refine W.tu (f:=131) (first:=[]) (cap:=[.M (H.A+3) 0 0]) (by show E 14=_;exact e14) hit
  (fun k Hx=>H2.A<Hx.A/\(∀id,id<H2.A->id≠sb->Hx.get id=H2.get id)/\Hx.get sb=some (.J 0 3 [.lit (.int .i64 (jh ns us k))]))
  (fun _ _=>False)
  (fun k Hx h=>(h.2.1 _ O O).trans g3)
  (fun k H1 H3 h hw=>⟨by have:=hw.1;omega,fun id h1 h2=>(hw.2 _ O (by have:=h.1;omega)).trans (h.2.1 id h1 h2),(hw.2 _ O (by have:=h.1;omega)).trans h.2.2⟩)
  (fun k Hx h=>h.1)
  (fun k H1 b h=>⟨h.1,fun id h1 h2=>by rw[af,Vx O];exact h.2.1 id h1 h2,by rw[af,Vx O];exact h.2.2⟩)
  (fun _ _ _ h=>h) (fun k H1 b h=>by unfold lH at h ⊢;rw[af,Vx O];exact h)
  (fun b=>⟨by rw[aM];simp,fun id h1 h2=>aX h1,by rw[aX O];exact gsb⟩) (ZG)
  (fun x hx=>by
   obtain⟨k,hk⟩:=VG.1 hx;obtain⟨_,rfl⟩:=lG hk;rfl) (fun _ _ _=>trivial) (fun _ _ _=>trivial) (fun k y Hx B Bb hy hj hcs hn hB hBb=>?_) (fun Hx hj hn=>?_) (fun _ hs _=>hs.elim) (fun _ _ hs _=>hs.elim)
 ·obtain⟨hk,rfl⟩:=lG hy;refine W.vs ?_;simp only[go_sem,eZ,bb,fO,V6,Ws,V7,Wb,hB];obtain⟨H3,hH3⟩:∃H3,H3=Hx.upd H2.A Bb:=⟨_,rfl⟩
  rw[<- hH3];obtain⟨st,pd,n',en,ps',as',bo,hBe⟩:=hBb;have n3:H3.A=Hx.A:=by rw[hH3];rfl
  have o3:∀id,id≠H2.A->H3.get id=Hx.get id:=fun id h=>by rw[hH3,af,Vx h]
  have jB:H3.get H2.A=some Bb:=by rw[hH3,af,VA rfl]
  have k1:=(o3 _ O).trans ((hj.2.1 (H.A+1) O O).trans g1);have k2:=(o3 _ O).trans ((hj.2.1 (H.A+2) O O).trans g2);have kf:=(o3 _ O).trans ((hj.2.1 fb O hfs).trans gfb);have ks:=(o3 _ O).trans hj.2.2;have kN:H3.get (H2.A+1)=some (.J 0 3 (ints (aS (ak ns) k))):=(o3 _ O).trans hcs;obtain⟨vals,hvals⟩:∃vals,vals=aS (ak ns) k:=⟨_,rfl⟩
  have hfit:bZ (ak ns) vals:=by rw[hvals];exact pF (fun c hc=>(hcards c hc).1) _
  rw[<- hvals]at kN;have hvl:vals.length=ns.length:=by rw[hfit.1,dk]
  refine W.en (fun E1=>E1 3=.M (H.A+1) 0 0 /\ E1 4=.M (H.A+2) 0 0 /\ E1 5=aa k /\ E1 6=.U (H2.A+1) 0 0 ns.length 1) (by simp only[go_sem,bb,e3,e4,dk]) fun E1 ⟨m3,m4,m5,m6⟩=>?_
  have l1:=ae k1;have l2:=ae k2;have hkw:k<bO ns:=hk;have hwk:=SA hkw;rw[<- hvals]at hwk;have hwne:=aO hwk;have hkl:(k:Int)<(fU ns).length:=by rw[SB];omega
  have hs1:=Dx ns us k;rw[<- hvals]at hs1;refine W.vs ?_;simp only[go_sem];refine W.dr 6 [0,0,0,0,12,28] mixed ?_;simp only[go_sem,m3,m4,m5,m6,l1,l2,hwk,hwne,hkl];refine au.Z (SP g ns us vals O (fun y hy=>(h.node y hy).1) hu h4 hfit (weight ns vals) (jh ns us k) (SC h hfit) (hBd k O) H3 (H2.A+1) ns.length sb fb kN hvl.symm ks kf O O hfs _ ⟨⟨_,_,_,_,_,_,_,by rw[af,Vx O,jB,hBe]⟩,?_⟩);simp only[go_sem];refine⟨by rw[af,Vx O];exact jB,by rw[aA];omega,⟨⟨by rw[aA];omega,fun id h1 h2=>by rw[af,Vx h2,o3 _ O];exact hj.2.1 id h1 h2,by rw[af,VA rfl,hs1]⟩,?_⟩⟩;unfold lH;rw[af,Vx O,kN,hvals]
 ·simp only[go_sem];exact aq.mk O (hK Hx O (fun id h1 h2=>(hj.2.1 id O h2).trans (o2.nb _ h1)) (by have:=hj.2.2;rw[qX]at this;exact this))
def SE (x y:Int)(hx:0<=x)(hy:0<=y):Int.gcd y (x % y)=Int.gcd y x:=by
 obtain⟨a,rfl⟩:=VE hx;obtain⟨b,rfl⟩:=VE hy;rw[<- Int.natCast_emod];show Nat.gcd b (a % b)=Nat.gcd b a;rw[Zi b (a % b),<- Nat.gcd_rec]
def Az (g:Int)(n:Nat)(hg:1<=g/\g<=60)(hn:n<=8)(H:ZJ)(K:ZP->ZJ->Prop)(hK:K (.ret (aa (g ^ n))) H):ag prog G0 57 [aa g,aa n] H K:=by
 refine ag.st (n:=14) (rs:=[.tmp 4]) func57 ?_;simp only[go_sem];refine W.aP 8096 (by rfl) (fun ρ H'=>H'=H/\∃k:Nat,ρ 7=aa k/\k<=n/\ρ 5=aa (g ^ k)) (fun ρ H=>n-(iv (ρ 7)).toNat) ?_ ?_
 ·simp only[go_sem];exact⟨0,rfl,O,by rw[YC]⟩
 rintro ρ H' ⟨rfl,k,h7,hk,h5⟩;refine W.vs ?_;have hpow:∀k:Nat,0<=g ^ k/\g ^ k<=60 ^ k:=fun k=>by
  induction k with
  |zero=>simp
  |succ k ih =>
   rw[W4,W4];exact⟨WT ih.1 O,Ww ih.2 hg.2 O (by have:=Yt (n:=60) (m:=k) ZG;omega)⟩
 by_cases hb:(k:Int)<n
 ·have h1:=hpow (k+1);have h2:=uP (k+1) O;rw[W4]at h1;have w1:=Vv (g ^ k*g) O;have w2:=Vv ((k:Int)+1) O;simp only[go_sem,h7,h5,hb,w1,w2];exact⟨⟨k+1,rfl,O,by rw[W4]⟩,O⟩
 ·have e:k=n:=O
  subst e;simp only[go_sem,h7,h5,hb];exact aq.mk ZI hK
def eM (n d:Int):ZK:=.agg [.lit (.int .i64 (n.tdiv (Int.gcd n d:Int))),.lit (.int .i64 (d.tdiv (Int.gcd n d:Int)))]
def AA (n d:Int)(hn:-4611686018427387904<=n/\n<=4611686018427387904)(hd:1<=d/\d<=4611686018427387904)(H:ZJ)(K:ZP->ZJ->Prop)(hK:K (.ret (eM n d)) H):ag prog G0 56 [aa n,aa d] H K:=by
 refine ag.Z ⟨_,func56,rfl,rfl⟩ fun hcl=>?_;have w1:=Vv (0-n) O;have w2:(if 0-n > n then 0-n else n)=(n.natAbs:Int):=by split<;>omega
 have w3:(if n<0-n then 0-n else n)=(n.natAbs:Int):=w2;refine ag.st (n:=25) (rs:=[.cell 4 50]) func56 ?_;simp only[go_sem,w1,w2];refine W.aP 258144 (by rfl) (fun ρ H'=>H'=ext H [.J 0 50 [.lit (.int .i64 0),.lit (.int .i64 0)]]/\∃x y:Int,ρ 5=aa x/\ρ 6=aa y/\0<=x/\0<=y/\Int.gcd x y=Int.gcd n d) (fun ρ H=>(iv (ρ 6)).toNat) ?_ ?_
 ·simp only[go_sem];exact⟨n.natAbs,d,rfl,rfl,O,O,by simp[Int.gcd]⟩
 rintro ρ H' ⟨rfl,x,y,h5,h6,hx,hy,hg⟩;refine W.en (fun E=>E 0=aa n /\ E 1=aa d /\ E 4=.M H.A 0 0 /\ E 5=aa x /\ E 6=aa y) (by simp only[go_sem,h5,h6]) fun E ⟨e0,e1,e4,e5,e6⟩=>?_
 refine W.vs ?_;by_cases hz:y=0
 ·subst hz;have e:x=(Int.gcd n d:Int):=by rw[<- hg,Int.gcd_zero_right];omega
  have g0:0<Int.gcd n d:=YV _ O;have hxz:¬x=0:=O
  have hgn:(Int.gcd n d:Int)≠0:=O
  simp only[go_sem,e6];refine W.dr 6 [0,0,3,0,0,24] mixed ?_;have b1:-4611686018427387904<=n.tdiv x/\n.tdiv x<=4611686018427387904:=by
   have h2:(n.tdiv x).natAbs<=n.natAbs:=(by rw[Y2];exact YX _ _);omega
  have b2:-4611686018427387904<=d.tdiv x/\d.tdiv x<=4611686018427387904:=by
   have h2:(d.tdiv x).natAbs<=d.natAbs:=(by rw[Y2];exact YX _ _);omega
  have u1:=Vv (n.tdiv x) O;have u2:=Vv (d.tdiv x) O;simp only[go_sem,e0,e1,e4,e5,hxz,u1,u2];refine aq.drop aJ hcl (v':=eM n d) ?_ hK;rw[e];refine .agg rfl fun i hi _=>?_
  match i,hi with
  |0,_=>exact .lit _
  |1,_=>exact .lit _
 ·have m1:x.tmod y=x % y:=Wg hx;have m2:=WS x hz;have m3:=WB x (show 0<y by omega);simp only[go_sem,e6,hz];refine W.dr 5 [0,0,0,6,3] mixed ?_;simp only[go_sem,e5,e6,hz,m1];refine⟨⟨y,x % y,rfl,rfl,hy,m2,?_⟩,by rw[h6];simp only[aa,aZ];omega⟩;rw[<- hg,Int.gcd_comm x y];exact SE x y hx (O)
def Fa {L a:Int}(hg:0<=g)(ha:0<=a/\a<L):lI g L (cz g L a):=by
 refine⟨by rw[AB];omega,fun w hw=>?_,?_⟩
 ·unfold cz at hw;rcases Wn hw with h|h
  ·have:=Wv h;omega
  ·omega
 ·unfold cz;have key:∀(n i:Nat),i<n->((List.replicate n (0:Int)).set i g).sum=g:=by
   intro n
   induction n with
   |zero=>intro i h;omega
   |succ n ih =>
    intro i h;cases i with
    |zero=>simp[WC]
    |succ i=>rw[WC,List.set_cons_succ,XF,ih i O];omega
  exact key _ _ (O)
def lF (d:ZM)(c:Nat->Nat->Int):ak (cR d c)=ak d.C:=Qa
def ik (d:ZM)(c:Nat->Nat->Int):(cR d c).length=d.C.length:=mq _ _ _
def jm (h:d.C[v]?=some x):(cR d c)[v]?=some (fT d c (aB d).length v x):=pJ h
def uI (d:ZM)(c:Nat->Nat->Int)(x:ZL):aV (cR d c) x=aV d.C x:=by unfold aV;rw[lF]
def Fb (d:ZM)(c:Nat->Nat->Int):bF (cR d c)=bF d.C:=by
 apply V9;intro v;unfold bF;rw[List.getElem?_map,List.getElem?_map];rcases VV v d.C.length with h|h
 ·obtain⟨x,hx⟩:=ao h;rw[jm hx,hx];simp only[Option.map_some,(jD d c _ v x).2]
 ·rw[VD (by rw[ik];exact h),VD h]
def qU (hx:d.C[v]?=some x)(hb:d.Y.testBit v=true):(aB d)[aY d.Y v]?=some v:=od (aI hx) hb
def uJ (hx:d.C[v]?=some x)(hb:d.Y.testBit v=true):fT d c (aB d).length v x={ x with na:=x.na++eI d.X d.C c (aY d.Y v) x } :=
 VA ⟨hb,aI (qU hx hb)⟩
def qW (hb:¬d.Y.testBit v=true):fT d c k v x=x:=Vx fun h=>hb h.1
def xz (d:ZM)(c:Nat->Nat->Int):Prop:=∀(k v r:Nat) (x:ZL),(aB d)[k]?=some v->d.C[v]?=some x->r<bB d.C x->0<=c k r/\c k r<x.L
def Fc (h:ZR d)(hc:xz d c):Z5 d.X (cR d c):=by
 have h0:=h.nA;refine⟨h0.g1,by rw[ik];exact h.n.n1,fun y hy=>?_,by have:=h0.size;rw[lF]at this ⊢;exact this,by have:=h0.acyc;rw[Fb]at this ⊢;exact this,fun y hy=>?_⟩
 ·obtain⟨v,x,hx,rfl⟩:=uM hy;have:=h0.node _ (an (jm (c:=fun _ _=>0) hx));rw[(jD ..).1,(jD ..).2,ik]at this ⊢;exact this
 ·obtain⟨v,x,hx,rfl⟩:=uM hy;have h1:=h0.na _ (an (jm (c:=fun _ _=>0) hx));unfold im at h1 ⊢;rw[uI]at h1 ⊢;by_cases hb:d.Y.testBit v=true
  ·rw[uJ hx hb]at h1 ⊢;have x1:=(h.n.dec v x hx hb).1;refine⟨?_,fun r hr=>?_⟩
   ·have:=h1.1;rw[show ({ x with na:=x.na++eI d.X d.C (fun _ _=>0) (aY d.Y v) x }:ZL).na.length=bB d.C x by simp[x1,eI]]at this;rw[show ({ x with na:=x.na++eI d.X d.C c (aY d.Y v) x }:ZL).na.length=bB d.C x by simp[x1,eI]];exact this
   ·rw[show ({ x with na:=x.na++eI d.X d.C c (aY d.Y v) x }:ZL).na=x.na++eI d.X d.C c (aY d.Y v) x from rfl,x1,List.nil_append]at hr;unfold eI at hr;obtain⟨i,hi,rfl⟩:=VI.1 hr;have:=h0.g1;exact Fa O (hc _ _ _ x (qU hx hb) hx (VP.1 hi))
  ·rw[qW hb]at h1 ⊢;exact h1
def Fe {u:ZY}(h:Z8 d.C u):Z8 (cR d c) u:=⟨by rw[ik];exact h.vars,by rw[lF];exact h.size,h.w⟩
def xA {p:List (List Int)}(h:ZU d p):xz d (fixC p):=fun k v r x hv hx hr=>by
 obtain⟨l,a,hl,ha,he,hb⟩:=Fi h hv hx hr;rw[he];exact hb
def bE (d:ZM)(p:List (List Int)):Int:=jh (cR d (fixC p)) d.nn (bO d.C)
noncomputable def pS (d:ZM)(p:List (List Int)):ZK:=if eA d p=0 then eM (bE d p) (d.X ^ d.C.length) else .agg [.lit (.int .i64 0),.lit (.int .i64 0)]
def xB (d:ZM)(c:Nat->Nat->Int):bO (cR d c)=bO d.C:=by unfold bO;rw[lF]
def Ff (d:ZM)(p:List (List Int)):Prop:=ZR d->ZU d p->∀k,k<=bO d.C->-1000000000000000000<=jh (cR d (fixC p)) d.nn k/\jh (cR d (fixC p)) d.nn k<=1000000000000000000
def xq (d:ZM)(hf:Z1 d)(p:List (List Int))(hp:mA p)(hs:Ff d p)(H:ZJ)(K:ZP->ZJ->Prop)(hK:K (.ret (.nf [pS d p,aa (eA d p)])) H):ag prog G0 23 [cM d,aE p] H K:=by
 refine ag.Z ⟨_,func23,rfl,rfl⟩ fun hcl=>?_;refine ag.st (n:=37) (rs:=[.cell 4 50,.tmp 5]) func23 ?_;simp only[go_sem,fW,bq];obtain⟨H1,hH1⟩:∃H1,H1=ext H [.J 0 38 [.lit (.int .i64 d.X),.Q d.C.length (aG d.C),.lit (.int .u64 (d.Y:Int)),.Q d.nn.length (bj d.nn)],.J 0 50 [.lit (.int .i64 0),.lit (.int .i64 0)]]:=⟨_,rfl⟩
 have g1:=de hH1
 have g2:=gE hH1 1 rfl
 have l1:=ae g1;have l2:=ae g2;have n1:H1.A=H.A+2:=hH1▸rfl
 have o1:ZN H H1:=hH1▸.ext _ _
 rw[<- hH1];refine au.Z (SK d hf p hp _ _ ⟨trivial,?_⟩);by_cases hz:eA d p=0;rotate_left
 ·have hcell:(ZK.lit (.int .i64 (eA d p))).cells=[.lit (.int .i64 (eA d p))]:=rfl;have ef:uO d p=uN:=Vx hz;have ev:pS d p=.agg [.lit (.int .i64 0),.lit (.int .i64 0)]:=Vx hz;have l2':=ae (show (ext H1 [.J 0 81 [.lit (.int .i64 0),.Q 0 []]]).get (H.A+1)=some (.J 0 50 [.lit (.int .i64 0),.lit (.int .i64 0)]) by rw[dM _ _ _ O];exact g2);rw[ef];simp only[go_sem,hz,l2',uN];rw[ev]at hK;refine aq.bC (v':=.nf [.agg [.lit (.int .i64 0),.lit (.int .i64 0)],aa (eA d p)]) aJ hcl (ZN.upd (id:=H.A+1) (o1.trans (.ext _ _)) (XV _) _) (.nf rfl fun i hi _=>?_) hK
  match i,hi with
  |0,_ =>
   refine .agg rfl fun i hi _=>?_
   match i,hi with
   |0,_=>exact .lit _
   |1,_=>exact .lit _
  |1,_=>exact .lit _
 obtain⟨hok,hpo⟩:=Fj.1 hz;have ef:uO d p=dJ d.X (cR d (fixC p)):=VA hz;have ev:pS d p=eM (bE d p) (d.X ^ d.C.length):=VA hz;rw[hz,ef,dJ,dX];rw[hz,ev]at hK;have hnet:=Fc hok (xA hpo);have hsum:=hs hok hpo;have hw:=xB d (fixC p);have hfl:=ik d (fixC p);obtain⟨ns,hns⟩:∃ns,ns=cR d (fixC p):=⟨_,rfl⟩
 rw[<- hns]at hnet hsum hw hfl ⊢;obtain⟨H2,hH2⟩:∃H2,H2=ext H1 [.J 0 81 [.lit (.int .i64 d.X),.Q ns.length (aG ns)]]:=⟨_,rfl⟩
 have n2:H2.A=H1.A+1:=hH2▸rfl
 have o2:ZN H1 H2:=hH2▸.ext _ _
 have q1:=ae ((o2.nb _ O).trans g1);have q3:=ae (show H2.get H1.A=some (.J 0 81 [.lit (.int .i64 d.X),.Q ns.length (aG ns)]) by rw[hH2];exact cI);rw[hH2]at q1 q3;simp only[go_sem,q1,q3];obtain⟨H3,hH3⟩:∃H3,H3=ext H1 [.J 0 81 [.lit (.int .i64 d.X),.Q ns.length (aG ns)],.J 0 128 [.lit (.int .i64 d.X),.Q ns.length (aG ns),.Q d.nn.length (bj d.nn)],.J 0 3 [.lit (.int .i64 0)]]:=⟨_,rfl⟩
 have n3:H3.A=H1.A+3:=hH3▸rfl
 have o3:ZN H H3:=by rw[hH3];exact o1.trans (.ext _ _)
 have r1:=gE hH3 1 rfl
 have r2:=gE hH3 2 rfl
 have r0:H3.get (H.A+1)=some (.J 0 50 [.lit (.int .i64 0),.lit (.int .i64 0)]):=by rw[hH3,dM _ _ _ O];exact g2
 rw[<- hH3];refine au.Z (SD d.X ns d.nn hnet (fun u hu=>by rw[hns];exact Fe (hok.nn.2 u hu)) hok.nn.1 (fun k hk=>hsum k O) H3 (H1.A+2) (H1.A+1) r2 r1 O O O _ fun H4 h4 nb hsb=>⟨trivial,?_⟩);have s1:=ae ((nb (H1.A+1) O O).trans r1);have s2:=ae hsb;have s0:=ae ((nb (H.A+1) O O).trans r0);rw[hw]at s2;simp only[go_sem];refine W.dr 9 [0,0,2,6,0,16,48,112,254] mixed ?_;simp only[go_sem,s1,s2];have gp:=hok.nA.g1;have gn:=hok.n.n1;have pw0:1<=d.X ^ ns.length:=Yt O;have pw1:d.X ^ ns.length<=167961600000000:=by
  have key:∀k:Nat,d.X ^ k<=60 ^ k:=fun k=>by
   induction k with
   |zero=>simp
   |succ k ih =>
    rw[W4,W4];exact Ww ih gp.2 O (by have:=Yt (n:=60) (m:=k) ZG;omega)
  have:=key ns.length;have:=uP ns.length O;omega
 have hsw:=hsum (bO d.C) ZI;refine⟨aa (d.X ^ ns.length),[],bL.pure (fun H2=>Az d.X ns.length gp O H2 _ ⟨rfl,rfl⟩),?_⟩;refine au.Z (AA _ _ O O _ _ ⟨trivial,?_⟩);simp only[go_sem,s0,eM];have o4:ZN H H4:=⟨by have:=o3.A;omega,fun id h=>(nb id O O).trans (o3.nb id h)⟩
 refine aq.bC (v':=.nf [eM (bE d p) (d.X ^ d.C.length),aa 0]) aJ hcl (ZN.upd (id:=H.A+1) o4 (XV _) _) (.nf rfl fun i hi _=>?_) hK
 match i,hi with
 |0,_ =>
  unfold bE eM;rw[<- hns,hfl];refine .agg rfl fun i hi _=>?_
  match i,hi with
  |0,_=>exact .lit _
  |1,_=>exact .lit _
 |1,_=>exact .lit _
end Go.Proofs
namespace Go.Proofs.R01
open Go.Hx Tryz
section
variable {P:Program} {t:TypeId} {x y:Operand} {k k':IntKind} {a b:Int}
def pureRun_bind {α β:Type}{s:Sem α}{f:α->Sem β}{a:α}(h:bQ P s=some a):bQ P (s >>= f)=bQ P (f a):=by
 induction s with
 |pure b=>simp only[bQ,Option.some.injEq]at h;subst h;rfl
 |program k ih=>exact ih P h
 |mark m k ih=>exact ih h
 |_=>simp[bQ]at h
def RP {t:TypeId}{a b:Bool}(n:Nat)(ht:P.underlying t=some .bool):bQ P (Op.equalIn (n+1) t (.bool a) (.bool b))=some (a == b):=by
 unfold Op.equalIn;simp[underlying,program,ht,bQ,bind,Sem.bind,pure]
def RQ {t:TypeId}{x y:Operand}{a b:Bool}(ht:P.underlying t=some .bool):bI P .eql t x y (.lit (.bool a)) (.lit (.bool b))=some (.lit (.bool (a == b))):=by
 have h1:(do eqGuard .eql t x y (.bool a) (.bool b);binOp .eql t (.bool a) (.bool b))=(Op.equalIn (9999+1) t (.bool a) (.bool b) >>= fun r=>pure (Value.bool r)):=rfl;show (bQ P _).map _=_;rw[h1,pureRun_bind (RP 9999 ht)];rfl
end
section
variable {P:Program} {G:Nat->Option (List ZK)}
def Ew {n m:Nat}{v:ZK}(h:Below n v)(hm:n<=m):Below m v:=by
 induction h with
 |lit v=>exact .lit v
 |Q h ih=>exact .Q ih
 |ni h ih=>exact .ni ih
 |agg h ih=>exact .agg ih
 |nf h ih=>exact .nf ih
 |Z h1 h2 ih1 ih2=>exact .Z ih1 ih2
 |U h=>exact .U (O)
 |M h=>exact .M (O)
 |np h=>exact .np (O)
def RS {n m:Nat}{b:ZQ}(h:tU n b)(hm:n<=m):tU m b:=by
 cases b with
 |J g e cells=>exact fun i hi=>Ew (h i hi) hm
 |loop st pend n env ps asg body=>exact fun t ht=>Ew (h t ht) hm
 |nt=>trivial
 |mp=>exact h
def RT {H:ZJ}(hc:Clo H){L:List ZQ}(h:∀b,b∈L->tU (H.A+L.length) b):Clo (ext H L):=by
 have key:∀id b,(ext H L).get id=some b->(id<H.A/\H.get id=some b)\/(id<H.A+L.length/\b∈L):=by
  intro id b hb;by_cases h1:id<H.A
  ·rw[dM _ _ _ h1]at hb;exact .inl ⟨h1,hb⟩
  ·by_cases h2:id<H.A+L.length
   ·have:=bH H L (id-H.A) O;rw[show H.A+(id-H.A)=id by omega,hb]at this;exact .inr ⟨h2,an this.symm⟩
   ·have:(ext H L).get id=H.get id:=(by unfold ext;simp only;rw[Vx O]);rw[this]at hb;exact absurd (hc.lt _ _ hb) h1
 refine⟨fun id b hb=>?_,fun id b hb=>?_⟩
 ·rw[aM];rcases key id b hb with ⟨h1,_⟩|⟨h1,_⟩<;>omega
 ·rw[aM];rcases key id b hb with ⟨_,h1⟩|⟨_,h1⟩
  ·exact RS (hc.below _ _ h1) (O)
  ·exact h b h1
theorem RU {n g:Nat}{e:TypeId}{cells:List ZK}(h:∀c,c∈cells->∃v,c=.lit v):tU n (.J g e cells):=fun i hi=>by
 obtain⟨v,hv⟩:=h _ (Wo hi);rw[hv];exact .lit v
end
def qV (n d:Int):ZK:=.agg [.lit (.int .i64 n),.lit (.int .i64 d)]
def di (p q:Int):Int:=if p<q then -1 else if p=q then 0 else 1
end Go.Proofs.R01
namespace Go.Proofs.R01
open Go.Hx Tryz
variable {n:Nat}
def val:List Int -> Nat
  | [] => 0
  |a :: l => a.toNat + 10000 * val l
def aF (n:Nat):List Int := if h:n=0 then [] else ((n % 10000:Nat):Int) :: aF (n / 10000)
termination_by n
decreasing_by omega
def ji:aF 0 = [] := by rw[aF];rfl
def pQ (h:n ≠ 0):aF n=((n % 10000:Nat):Int) :: aF (n / 10000) := by
  conv => lhs;rw[aF]
  rw[dif_neg h]
def lg:∀n:Nat,val (aF n)=n := by
  intro n
  induction n using Nat.strongRecOn with
  |_ n ih =>
    by_cases h:n=0
    · subst h;rw[ji];rfl
    · rw[pQ h,val,ih _ O];omega
def Dg (l:List Int):Prop := ∀c,c ∈ l -> 0 <= c /\ c <= 9999
def na:∀n:Nat,Dg (aF n) := by
  intro n
  induction n using Nat.strongRecOn with
  |_ n ih =>
    by_cases h:n=0
    · subst h;rw[ji];intro c hc;cases hc
    · rw[pQ h];intro c hc;rcases List.mem_cons.1 hc with rfl |hc
      · omega
      · exact ih _ O c hc
theorem sF:∀(l m:List Int),val (l ++ m)=val l + 10000 ^ l.length * val m
  | [],m => by simp[val]
  |a :: l,m => by
    simp only[List.cons_append,val,sF l m,List.length_cons,WQ,XU];rw[show 10000 * (10000 ^ l.length * val m)=10000 ^ l.length * 10000 * val m by ac_rfl];omega
theorem pR:∀ {l:List Int},Dg l -> val l < 10000 ^ l.length
  | [],_ => by simp[val]
  |a :: l,h => by
    have ih := pR (l := l) fun c hc => h c (by simp[hc]);have ha := h a ZF;simp only[val,List.length_cons,WQ];omega
def qN {k:Nat}(h:n < 10000 ^ k):(aF n).length <= k := by
  induction k generalizing n with
  | zero => have : n = 0 := by simpa using h
            subst this;rw[ji];simp
  |succ k ih =>
    by_cases h0:n=0
    · subst h0;rw[ji];simp
    · rw [pQ h0, List.length_cons];have : n / 10000 < 10000 ^ k := by
        rw[WQ]at h;exact Xe (by rw[Xf];exact h)
      have := ih this;omega
theorem Ei:∀ {l:List Int},Dg l -> (∀a,l.getLast? = some a -> a ≠ 0) -> aF (val l)=l
  | [],_,_ => ji
  |a :: l,h,hl => by
    have ha := h a ZF;have hd:Dg l := fun c hc => h c (by simp[hc]);have ih := Ei (l := l) hd fun b hb => hl b (by
      cases l with
      |nil => cases hb
      |cons c l => simpa[List.getLast?_cons_cons] using hb)
    by_cases h0:val (a :: l)=0
    · exfalso;simp only[val]at h0;have a0:a=0 :=O;have v0:val l=0 :=O;rw[v0,ji]at ih;exact hl a (by rw[<- ih];rfl) a0
    · rw[pQ h0];have e1:val (a :: l) % 10000=a.toNat :=(by simp only[val];omega);have e2:val (a :: l) / 10000=val l :=(by simp only[val];omega);rw[e1,e2,ih];congr 1;omega
def RF (k:Nat):val (List.replicate k 0)=0 := by
  induction k with
  |zero => rfl
  |succ k ih => simp[WC,val,ih]
def Ah :aF n = [] ↔ n=0 := by
  constructor
  · intro h;have := lg n;rw[h]at this;exact this.symm
  · rintro rfl;exact ji
def Ej (b:Nat):b ≠ 0 -> 10000 ^ ((aF b).length-1) <= b := by
  induction b using Nat.strongRecOn with
  |_ b ih =>
    intro hb;rw[pQ hb,List.length_cons,W0];by_cases h1:b / 10000=0
    · rw[h1,ji];simp;omega
    · have := ih _ O h1;have hl : (aF (b / 10000)).length ≠ 0 := by
        intro h;exact h1 (Ah.1 (VF h))
      obtain⟨k,hk⟩:∃k,(aF (b / 10000)).length=k + 1 := ⟨_,(Nat.succ_pred_eq_of_ne_zero hl).symm⟩
      rw[hk]at this ⊢;rw[W0]at this;rw[WQ];omega
def sG {a b:Nat}(h:(aF a).length < (aF b).length):a < b := by
  rcases VV a b with h1 |h1
  · exact h1
  · exfalso;have h2 := Ej b (by intro h0;rw[h0,ji]at h;simp at h);have h3 := pR (na a);rw[lg]at h3;have h4:10000 ^ (aF a).length <= 10000 ^ ((aF b).length-1) := V0 ZG O;omega
end Go.Proofs.R01
namespace Go.Proofs.R01
open Go.Hx Tryz
def Ek {α:Type}{l:List α}{i:Nat}{a:α}(h:l[i]? = some a):l.take (i + 1)=l.take i ++ [a] := by
  rw[YN,h];rfl
def oC {H H' H2:ZJ}{v:ZK}{cs:List ZK}{e:TypeId}(ov:ZN H H')(h:aD H.A H' e v cs)(hn:H'.A <= H2.A)(hp:∀k,k < H'.A -> (∀g n,v ≠ .U k g 0 n 1) -> H2.get k=H'.get k):ZN H H2 :=
  ⟨by have := ov.A;omega,fun id hid => by
    rw[hp id (by have := ov.A;omega) fun g n he => ?_,ov.nb id hid]
    rcases h with ⟨h,_⟩ |⟨i2,g2,a1,_,h,_⟩
    · rw[h]at he;cases he
    · rw[h]at he;have := ZK.U.inj he;omega⟩
def qO (n:Int)(hn:-9223372036854775808 <= n /\ n <= 9223372036854775807)(H:ZJ)(K:ZP -> ZJ -> Prop)(hK:K (.ret (ah (aF n.natAbs))) H):ag prog G0 67 [.lit (.int .i64 n)] H K := by
  refine ag.Z ⟨_,func67,rfl,rfl⟩ fun hcl => ?_
  refine ag.st (n := 19) (rs := [.tmp 2]) func67 ?_
  simp only[go_sem,bf]
  refine W.aP 262137 (by rfl) (fun ρ H' => ∃(c:Int) (done:List Int),ρ 0=aa c /\ ZN H H' /\ aD H.A H' 3 (ρ 3) (ints done) /\ aF n.natAbs=done ++ aF c.natAbs /\ c.natAbs <= n.natAbs) (fun ρ H => (iv (ρ 0)).natAbs) ?_ ?_
  · simp only[go_sem,bf]
    exact⟨n,[],rfl,.refl _,.nil,ZF,O⟩
  rintro ρ H' ⟨c,done,h0,ov,h3,hd,hc⟩
  refine W.vs ?_
  by_cases hz:c=0
  · subst hz
    simp only[go_sem,h0,bf]
    rw[show (0:Int).natAbs=0 from rfl,ji,List.append_nil]at hd
    rw[hd]at hK
    exact aq.bC aJ hcl ov (h3.hJ fun i hi => hi) hK
  · have hq:(c.tdiv 10000).natAbs=c.natAbs / 10000 := by rw[Y2];rfl
    have hr:(c.tmod 10000).natAbs=c.natAbs % 10000 := by rw[Y1];rfl
    have w1 := Vv (c.tmod 10000) (O)
    have w2 := Vv (0-c.tmod 10000) (O)
    have w3 := Vv (c.tdiv 10000) (O)
    have hmax:(if 0-c.tmod 10000 > c.tmod 10000 then 0-c.tmod 10000 else c.tmod 10000)=((c.natAbs % 10000:Nat):Int) := by split <;> omega
    have h5 : (aF n.natAbs).length ≤ 5 := qN (by have : (10000 : Nat) ^ 5 = 100000000000000000000 := by decide
                                                 omega)
    have hlen:done.length <= 5 := by rw[hd,List.length_append]at h5;omega
    have hdc := pQ (n := c.natAbs) (O)
    obtain⟨v',H2,hA,hO,hn2,hp⟩ := iR (P := prog) (H := H') (t := 42) (x := aa (c.natAbs % 10000:Nat)) (n := H'.A + 1) Tryz.underlying42 Tryz.fE Tryz.fF rfl (by rw[Tryz.gG,aR];omega) h3 ov.A rfl
    simp only[aa]at hA
    simp only[go_sem,h0,hz,w1,w2,w3,hmax,hA]
    have ov2:ZN H H2 := oC ov h3 hn2 hp
    refine⟨ov2.A,⟨c.tdiv 10000,done ++ [((c.natAbs % 10000:Nat):Int)],rfl,ov2,?_,?_,O⟩,O⟩
    · simpa[ints,aa] using hO
    · rw[hd,hdc,hq];simp
def uA (l:List Int)(hl:Dg l)(hn:(l.length:Int) < 2 ^ 40)(H:ZJ)(K:ZP -> ZJ -> Prop)(hK:K (.ret (ah (aF (val l)))) H):ag prog G0 108 [ah l] H K := by
  refine ag.st (n := 21) (rs := [.tmp 2]) func108 ?_
  simp only[go_sem,bf]
  refine W.aP 1048569 (by rfl) (fun ρ H' => H=H' /\ ∃(m:List Int),ρ 0=ah m /\ Dg m /\ val m=val l /\ m.length <= l.length) (fun ρ H => (match ρ 0 with |.Q n _ => n |_ => 0)) ?_ ?_
  · simp only[go_sem,bf]
    exact⟨l,rfl,hl,rfl,ZI⟩
  rintro ρ H' ⟨rfl,m,h0,hd,hv,hm⟩
  refine W.vs ?_
  unfold ah at h0
  by_cases hz:m.length=0
  · have hm0:m = [] := VF hz
    subst hm0
    have z1:¬(0:Int) < ((0:Nat):Int) := by omega
    simp only[go_sem,h0,A1,List.length_nil,bf]
    rw[<- hv]at hK
    have:aF (val []) = [] := ji
    rw[this]at hK
    exact aq.mk ZI hK
  · obtain⟨a,ha⟩:∃a,m[m.length-1]? = some a := ⟨_,Vz O⟩
    have hmn:¬m = [] := by rintro rfl;simp at hz
    have z1:(0:Int) < (m.length:Int) := by omega
    have w1:IntKind.i64.wrap ((m.length:Int)-1)=((m.length-1:Nat):Int) := by rw[Vv _ O];omega
    have b1:((m.length-1:Nat):Int) < (m.length:Int) := by omega
    have b2:((m.length-1:Nat):Int) <= (m.length:Int) := by omega
    by_cases h0a:a=0
    · subst h0a
      simp only[go_sem,h0,z1,w1,b1,b2,ha,hmn,bf]
      have hs:m.take (m.length-1) ++ [0]=m := by
        have h := Ek ha
        rw[Nat.sub_add_cancel O,XG]at h
        exact h.symm
      refine⟨⟨m.take (m.length-1),?_,fun c hc => hd c (VU hc),?_,by simp;omega⟩,O⟩
      · simp only[VK,AZ];congr 1;omega
      · rw[<- hv]
        conv => rhs;rw[<- hs]
        rw[sF];simp[val]
    · simp only[go_sem,h0,z1,w1,b1,b2,ha,hmn,h0a,bf]
      have hlast:m.getLast? = some a := by rw[List.getLast?_eq_getElem?];exact ha
      have := Ei hd fun b hb => by rw[hlast]at hb;cases hb;exact h0a
      rw[<- hv,this]at hK
      exact aq.mk ZI hK
def El {x y:List Int}(hx:Dg x)(hy:Dg y)(hl:x.length=y.length){k:Nat}{a b:Int}(ha:x[k]? = some a)(hb:y[k]? = some b)(he:∀j,k < j -> x[j]? = y[j]?)(hab:a < b):val x < val y := by
  have sp:∀ {l:List Int} {c:Int},l[k]? = some c -> l=l.take k ++ c :: l.drop (k + 1) := fun {l c} h => by
    have hk := (VX.1 h).1
    have h2 := (VX.1 h).2
    conv => lhs;rw[<- V5 k l]
    rw[Wt hk,h2]
  have e1:x.drop (k + 1)=y.drop (k + 1) := by
    apply V9
    intro i
    rw[WJ,WJ]
    exact he _ (O)
  have hk := (VX.1 ha).1
  have hk2 := (VX.1 hb).1
  rw[sp ha,sp hb,sF,sF,e1]
  have l1:(x.take k).length=k := by simp;omega
  have l2:(y.take k).length=k := by simp;omega
  rw[l1,l2]
  have v1 := pR (l := x.take k) fun c hc => hx c (VU hc)
  have v2:0 <= val (y.take k) := WO _
  rw[l1]at v1
  have pa := hx a (an ha)
  have pb := hy b (an hb)
  simp only[val]
  have h3:10000 ^ k * (a.toNat + 10000 * val (y.drop (k + 1))) + 10000 ^ k <= 10000 ^ k * (b.toNat + 10000 * val (y.drop (k + 1))) := by
    have:a.toNat + 10000 * val (y.drop (k + 1)) + 1 <= b.toNat + 10000 * val (y.drop (k + 1)) := by omega
    calc _=10000 ^ k * (a.toNat + 10000 * val (y.drop (k + 1)) + 1) := (Nat.mul_succ _ _).symm
      _ <= _ := WR _ this
  omega
def uB (x y:Nat)(hx:((aF x).length:Int) < 2 ^ 40)(H:ZJ)(K:ZP -> ZJ -> Prop)(hK:K (.ret (.lit (.int .i64 (di x y)))) H):ag prog G0 65 [ah (aF x),ah (aF y)] H K := by
  obtain⟨p,hp⟩:∃p,p=aF x := ⟨_,rfl⟩
  obtain⟨q,hq⟩:∃q,q=aF y := ⟨_,rfl⟩
  have dx := na x
  have dy := na y
  have vx := lg x
  have vy := lg y
  have lt1:p.length < q.length -> x < y := fun h => sG (by rw[<- hp,<- hq];exact h)
  have lt2:q.length < p.length -> y < x := fun h => sG (by rw[<- hp,<- hq];exact h)
  rw[<- hp]at hx dx vx ⊢
  rw[<- hq]at dy vy ⊢
  refine ag.st (n := 41) (rs := [.tmp 4]) func65 ?_
  by_cases hl:(p.length:Int)=q.length
  rotate_left
  · by_cases hl2:(p.length:Int) < q.length
    · have:di x y = -1 := by unfold di;rw[VA (by have := lt1 O;omega)]
      rw[this]at hK
      simp only[go_sem,hl,hl2,bf]
      exact aq.mk ZI hK
    · have := lt2 (O)
      have:di x y=1 := by unfold di;rw[Vx O,Vx O]
      rw[this]at hK
      simp only[go_sem,hl,hl2,bf]
      exact aq.mk ZI hK
  have hln:p.length=q.length := by omega
  have w0 := Vv ((p.length:Int)-1) (O)
  simp only[go_sem,hl,w0,bf]
  rw[<- hl,w0]
  refine W.aP 2199022731312 (by rfl) (fun ρ H' => H=H' /\ ∃(k:Nat),ρ 5=aa ((k:Int)-1) /\ k <= p.length /\ ∀j,k <= j -> p[j]? = q[j]?) (fun ρ H => (iv (ρ 5) + 1).toNat) ?_ ?_
  · simp only[go_sem,bf]
    exact⟨p.length,ZF,ZI,fun j hj => by rw[VD hj,VD O]⟩
  rintro ρ H' ⟨rfl,k,h5,hk,he⟩
  refine W.vs ?_
  by_cases hz:k=0
  · subst hz
    have z1:¬(0:Int) <= ((0:Nat):Int)-1 := by omega
    have e0:p=q := V9 fun j => he j (WO _)
    have:x=y := by rw[<- vx,<- vy,e0]
    have:di x y=0 := by unfold di;rw[Vx O,VA O]
    rw[this]at hK
    simp only[go_sem,h5,z1,bf]
    exact aq.mk ZI hK
  · obtain⟨j,rfl⟩:∃j,k=j + 1 := ⟨k-1,O⟩
    obtain⟨a,ha⟩:∃a,p[j]? = some a := ⟨_,Vz O⟩
    obtain⟨b,hb⟩:∃b,q[j]? = some b := ⟨_,Vz O⟩
    have hpn:¬p = [] := by rintro rfl;simp at ha
    have hqn:¬q = [] := by rintro rfl;simp at hb
    have ej:((j + 1:Nat):Int)-1=(j:Int) := by omega
    rw[ej]at h5
    have z1:(0:Int) <= (j:Int) := by omega
    have b1:(j:Int) < p.length := by omega
    have b2:(j:Int) < q.length := by omega
    have w2 := Vv ((j:Int)-1) (O)
    simp only[go_sem,h5,z1,bf]
    refine W.dr 8 [0,0,3,7,0,0,48,112] mixed ?_
    by_cases hab:a=b
    · subst hab
      simp only[go_sem,h5,z1,b1,b2,ha,hb,hpn,hqn,w2,bf]
      exact⟨⟨j,rfl,O,fun i hi => by
        rcases VV j i with h |h
        · exact he i (O)
        · obtain rfl:i=j := by omega
          rw[ha,hb]⟩,O⟩
    · simp only[go_sem,h5,z1,b1,b2,ha,hb,hpn,hqn,hab,bf]
      refine W.dr 8 [0,0,3,7,0,0,48,112] mixed ?_
      by_cases hlt:a < b
      · have h1 := El dx dy hln ha hb (fun i hi => he i O) hlt
        rw[vx,vy]at h1
        have:di x y = -1 := by unfold di;rw[VA O]
        rw[this]at hK
        simp only[go_sem,h5,z1,b1,b2,ha,hb,hpn,hqn,hlt,bf]
        exact aq.mk ZI hK
      · have h1 := El dy dx hln.symm hb ha (fun i hi => (he i O).symm) (O)
        rw[vx,vy]at h1
        have:di x y=1 := by unfold di;rw[Vx O,Vx O]
        rw[this]at hK
        simp only[go_sem,h5,z1,b1,b2,ha,hb,hpn,hqn,hlt,bf]
        exact aq.mk ZI hK
end Go.Proofs.R01
namespace Go.Proofs.R01
open Go.Hx Tryz
def sH {l:List Int}{i X:Nat}(h:l.drop i=aF X):(i<l.length↔X≠0)/\(X≠0->l[i]?=some ((X % 10000:Nat):Int))/\l.drop (i+1)=aF (X / 10000):=by
 have hl:l.length-i=(aF X).length:=by rw[<- h,Wi]
 by_cases h0:X=0
 ·subst h0;rw[ji]at h hl;simp only[List.length_nil]at hl;refine⟨⟨fun h=>O,fun h=>absurd rfl h⟩,fun h=>absurd rfl h,?_⟩;rw[ji,Zs.2 O]
 ·rw[pQ h0]at h hl;simp only[List.length_cons]at hl;refine⟨⟨fun _=>h0,fun _=>O⟩,fun _=>?_,?_⟩
  ·have:=congrArg (fun m=>m[0]?) h;simpa[WJ] using this
  ·have:=congrArg List.tail h;simpa[List.tail_drop] using this
def Ai {n:Nat}{k:Nat}(h:(aF n).length<=k):n<10000 ^ k:=by
 have:=pR (na n);rw[lg]at this;exact VM this (V0 ZG h)
def RG (x y:Nat)(hxy:y<=x)(hx:(aF x).length<=200)(H:ZJ)(K:ZP->ZJ->Prop)(hK:K (.ret (ah (aF (x-y)))) H):ag prog G0 136 [ah (aF x),ah (aF y)] H K:=by
 refine ag.Z ⟨_,func136,rfl,rfl⟩ fun hcl=>?_;have vx:=lg x;obtain⟨p,hp⟩:∃p,p=aF x:=⟨_,rfl⟩
 obtain⟨q,hq⟩:∃q,q=aF y:=⟨_,rfl⟩
 rw[<- hp]at hx vx ⊢;rw[<- hq];refine ag.st (n:=41) (rs:=[.tmp 4]) func136 ?_;simp only[go_sem];refine W.aP 549755813856 (by rfl) (fun ρ H'=>∃(i c X Y:Nat) (done:List Int),ρ 7=aa i/\ρ 6=aa c/\c<=1/\i<=p.length/\ZN H H'/\aD H.A H' 3 (ρ 5) (ints done)/\done.length=i/\Dg done/\p.drop i=aF X/\q.drop i=aF Y/\val done+10000 ^ i*X=(x-y)+10000 ^ i*(Y+c)) (fun ρ H=>p.length-(iv (ρ 7)).toNat) ?_ ?_
 ·simp only[go_sem];exact⟨0,0,x,y,[],rfl,rfl,O,O,.refl _,.nil,rfl,(fun c hc=>by cases hc),by simpa using hp,by simpa using hq,by simp[val];omega⟩
 rintro ρ H' ⟨i,c,X,Y,done,h7,h6,hc,hi,ov,h5,hl,hdg,hX,hY,he⟩;refine W.vs ?_;obtain⟨a1,a2,a3⟩:=sH hX;obtain⟨b1,b2,b3⟩:=sH hY;by_cases hb:(i:Int)<p.length;rotate_left
 ·simp only[go_sem,h7,hb];have hX0:X=0:=by
   rcases WM X with h|h
   ·exact h
   ·have:=a1.2 O;omega
  have hv:=pR hdg;rw[hl]at hv;have hYc:Y+c=0:=by
   rcases WM (Y+c) with h|h
   ·exact h
   ·have:10000 ^ i*1<=10000 ^ i*(Y+c):=WR _ h;rw[hX0]at he;omega
  have hvd:val done=x-y:=by rw[hX0,hYc]at he;omega
  refine au.mL H.A (args':=[ah done]) aJ rfl (fun j hj _=>match j,hj with|0,_=>h5.hJ fun i hi=>hi) (uA done hdg O _ _ ⟨trivial,?_⟩);rw[hvd];have ov3:ZN H (H'.cut H.A):=ov.qh ZI;simp only[go_sem];exact aq.bC aJ hcl ov3 (.dK _) hK
 have hx0:X≠0:=a1.1 O;have g1:=a2 hx0;have pn:¬p=[]:=by rintro rfl;simp at hb;omega
 have w3:=Vv ((i:Int)+1) O;obtain⟨d,c',hd,hd2,hc'⟩:∃d c':Nat,(d:Int)=((X % 10000:Nat):Int)-c-((Y % 10000:Nat):Int)+10000*(c':Int)/\d<=9999/\c'<=1:=by
  by_cases h:((X % 10000:Nat):Int)-c-((Y % 10000:Nat):Int)<0
  ·exact⟨(((X % 10000:Nat):Int)-c-((Y % 10000:Nat):Int)+10000).toNat,1,O,O,O⟩
  ·exact⟨(((X % 10000:Nat):Int)-c-((Y % 10000:Nat):Int)).toNat,0,O,O,O⟩
 obtain⟨v',H2,hA,hO,hn2,hpr⟩:=iR (P:=prog) (H:=H') (t:=42) (x:=aa (d:Nat)) (n:=H'.A+1) Tryz.underlying42 Tryz.fE Tryz.fF rfl (by rw[Tryz.gG,aR];omega) h5 ov.A rfl;simp only[aa]at hA;have ov2:ZN H H2:=oC ov h5 hn2 hpr;have fin:∃(i' c'' X' Y':Nat) (done':List Int),ZK.lit (.int .i64 ((i:Int)+1))=aa i'/\ZK.lit (.int .i64 (c':Int))=aa c''/\c''<=1/\i'<=p.length/\ZN H H2/\aD H.A H2 3 v' (ints done')/\done'.length=i'/\Dg done'/\p.drop i'=aF X'/\q.drop i'=aF Y'/\val done'+10000 ^ i'*X'=(x-y)+10000 ^ i'*(Y'+c''):=by
  refine⟨i+1,c',X / 10000,Y / 10000,done++[(d:Int)],by simp[aa],rfl,hc',O,ov2,by simpa[ints,aa] using hO,by simp[hl],fun z hz=>?_,a3,b3,?_⟩
  ·rcases V3.1 hz with hz|hz
   ·exact hdg z hz
   ·obtain rfl:=List.mem_singleton.1 hz;omega
  ·rw[sF,hl,WQ];have e:d+10000*(X / 10000)+(Y+c)=X+10000*(Y / 10000+c'):=O;have e2:=congrArg (10000 ^ i*·) e;simp only[XU,val,Int.toNat_natCast,Nat.mul_zero,Nat.add_zero,Xr]at e2 he ⊢;generalize 10000 ^ i*d=P1 at *
   generalize 10000 ^ i*(10000*(X / 10000))=P2 at *
   generalize 10000 ^ i*Y=P3 at *
   generalize 10000 ^ i*c=P4 at *
   generalize 10000 ^ i*X=P5 at *
   generalize 10000 ^ i*(10000*(Y / 10000))=P6 at *
   generalize 10000 ^ i*(10000*c')=P7 at *
   omega
 have w4:=Vv (((X % 10000:Nat):Int)-(c:Int)) O;have w5:=Vv (((X % 10000:Nat):Int)-(c:Int)-((Y % 10000:Nat):Int)) O;by_cases hy0:Y=0
 ·have n2:¬(i:Int)<q.length:=by have:=fun h=>b1.1 h;omega
  by_cases hneg:((X % 10000:Nat):Int)-(c:Int)<0
  ·obtain rfl:c'=1:=O;have ed:((X % 10000:Nat):Int)-(c:Int)+10000=(d:Int):=O;have w6:=Vv (d:Int) O;simp only[go_sem,h7,h6,hb,n2,g1,pn,w4,hneg,ed,w6,w3,hA];exact⟨ov2.A,fin,O⟩
  ·obtain rfl:c'=0:=O;have ed:((X % 10000:Nat):Int)-(c:Int)=(d:Int):=O;rw[ed]at hneg w4;simp only[go_sem,h7,h6,hb,n2,g1,pn,ed,w4,hneg,w3,hA];exact⟨ov2.A,fin,O⟩
 ·have n2:(i:Int)<q.length:=by have:=b1.2 hy0;omega
  have g2:=b2 hy0;have qn:¬q=[]:=by rintro rfl;simp at n2;omega
  by_cases hneg:((X % 10000:Nat):Int)-(c:Int)-((Y % 10000:Nat):Int)<0
  ·obtain rfl:c'=1:=O;have ed:((X % 10000:Nat):Int)-(c:Int)-((Y % 10000:Nat):Int)+10000=(d:Int):=O;have w6:=Vv (d:Int) O;simp only[go_sem,h7,h6,hb,n2,g1,g2,pn,qn,w4,w5,hneg,ed,w6,w3,hA];exact⟨ov2.A,fin,O⟩
  ·obtain rfl:c'=0:=O;have ed:((X % 10000:Nat):Int)-(c:Int)-((Y % 10000:Nat):Int)=(d:Int):=O;rw[ed]at hneg w5;simp only[go_sem,h7,h6,hb,n2,g1,g2,pn,qn,w4,ed,w5,hneg,w3,hA];exact⟨ov2.A,fin,O⟩
end Go.Proofs.R01
namespace Go.Proofs.R01
open Go.Hx Tryz
variable {l:List Int}
def gJ {k:Nat}(v:Int)(h:k<l.length):setAt (ints l) k [.lit (.int .i64 v)]=ints (l.set k v):=by
 unfold setAt ints;rw[XD,YI,VA (by simpa using h)];simp[aa]
theorem Aj:∀ {l:List Int} {j:Nat} {a:Int} (v:Int),l[j]?=some a->val (l.set j v)+10000 ^ j*a.toNat=val l+10000 ^ j*v.toNat
 |b :: l,0,a,v,h=>by
  simp only[List.getElem?_cons_zero,Option.some.injEq]at h;subst h;simp only[List.set_cons_zero,val,YR,XJ];omega
 |b :: l,j+1,a,v,h=>by
  simp only[List.getElem?_cons_succ]at h;have ih:=Aj (l:=l) v h;simp only[List.set_cons_succ,val,WQ];have e1:10000 ^ j*10000*a.toNat=10000*(10000 ^ j*a.toNat):=by ac_rfl
  have e2:10000 ^ j*10000*v.toNat=10000*(10000 ^ j*v.toNat):=by ac_rfl
  rw[e1,e2];omega
def Em {i:Nat}{a:Int}(h:l[i]?=some a):val (l.take (i+1))=val (l.take i)+10000 ^ i*a.toNat:=by
 have hi:=(VX.1 h).1;rw[Ek h,sF,VK,Xk O];simp[val]
def En (p q:List Int)(hp:Dg p)(hq:∀c,c∈q->0<=c/\c<=10000)(hqv:val q<=10000 ^ q.length)(lp:p.length<=200)(lq:q.length<=200)(H:ZJ)(K:ZP->ZJ->Prop)(hK:K (.ret (ah (aF (val p*val q)))) H):ag prog G0 68 [ah p,ah q] H K:=by
 refine ag.Z ⟨_,func68,rfl,rfl⟩ fun hcl=>?_;have w0:=Vv ((p.length:Int)+(q.length:Int)) O;refine ag.st (n:=65) (rs:=[.tmp 4]) func68 ?_;simp only[go_sem,w0];obtain⟨L,hL⟩:∃L,L=p.length+q.length:=⟨_,rfl⟩
 have eL:((p.length:Int)+(q.length:Int)).toNat=L:=O
 have eL2:(p.length:Int)+(q.length:Int)=(L:Int):=O
 rw[eL,eL2];have eR:List.replicate L (ZK.lit (.int .i64 0))=ints (List.replicate L 0):=by simp[ints,aa]
 rw[eR];refine⟨⟨O,O,O⟩,?_⟩;have dr:Dg (List.replicate L 0):=fun c hc=>by obtain⟨_,rfl⟩:=List.mem_replicate.1 hc;omega
 refine W.aP 9223372036854743488 (by rfl) (fun ρ H'=>∃(i:Nat) (o:List Int),ρ 6=aa i/\i<=p.length/\H'=ext H [.J 0 3 (ints o)]/\Dg o/\o.length=L/\val o=val (p.take i)*val q) (fun ρ H=>p.length-(iv (ρ 6)).toNat) ?_ ?_
 ·simp only[go_sem];exact⟨0,_,rfl,O,rfl,dr,ZF,by simp[RF,val]⟩
 rintro ρ H' ⟨i,o,h6,hi,rfl,ho,hol,hv⟩;refine W.vs ?_;by_cases hb:(i:Int)<p.length;rotate_left
 ·simp only[go_sem,h6,hb];have hO:aD H.A (ext H [.J 0 3 (ints o)]) 3 (.U H.A 0 0 L 1) (ints o):=.inr ⟨H.A,0,ZI,by simp[aM],by rw[aR,hol],dA _ _ _⟩;refine au.mL H.A (args':=[ah o]) aJ rfl (fun j hj _=>match j,hj with|0,_=>hO.hJ fun i hi=>hi) (uA o ho O _ _ ⟨trivial,?_⟩);rw[hv,Vy O];have ov3:ZN H ((ext H [.J 0 3 (ints o)]).cut H.A):=(ZN.ext _ _).qh ZI;simp only[go_sem];exact aq.bC aJ hcl ov3 (.dK _) hK
 obtain⟨a,ha⟩:∃a,p[i]?=some a:=⟨_,Vz O⟩
 have ha9:=hp a (an ha);obtain⟨A,rfl⟩:=VE ha9.1;have pn:¬p=[]:=by rintro rfl;simp at ha
 have vt:=Em ha;rw[Int.toNat_natCast]at vt;have w1:=Vv ((i:Int)+1) O;simp only[go_sem,h6,hb];refine W.aP 9223372036852679040 (by rfl) (fun ρ' H'=>∃(k c:Nat) (o2:List Int),ρ' 8=aa k/\ρ' 7=aa c/\c<=10000/\k<=L/\H'=ext H [.J 0 3 (ints o2)]/\Dg o2/\o2.length=L/\val o2+10000 ^ (i+k)*c=val (p.take i)*val q+10000 ^ i*(A*val (q.take k))) (fun ρ' H=>L-(iv (ρ' 8)).toNat) ?_ ?_
 ·simp only[go_sem];exact⟨0,0,o,rfl,rfl,O,O,rfl,ho,hol,by simp[val,hv]⟩
 rintro ρ' H' ⟨k,c,o2,h8,h7,hc,hk,rfl,ho2,hol2,hv2⟩;refine W.vs ?_;by_cases hend:¬k<q.length/\c=0
 ·obtain⟨hk2,rfl⟩:=hend;have n1:¬(k:Int)<q.length:=O
  have n2:¬(0:Int)<((0:Nat):Int):=O
  simp only[go_sem,h8,h7,n1,h6,w1];refine⟨⟨i+1,o2,ZF,O,rfl,ho2,hol2,?_⟩,O⟩;rw[Vy (l:=q) (i:=k) O]at hv2;rw[vt,Wx];simp only[Nat.mul_zero,Nat.add_zero]at hv2;rw[hv2,Xr]
 have hik:i+k<L:=by
  by_cases hkq:k<q.length
  ·omega
  ·have hc1:1<=c:=O;rw[Vy (l:=q) (i:=k) O]at hv2;have e:val (p.take i)*val q+10000 ^ i*(A*val q)=val (p.take (i+1))*val q:=(by rw[vt,Wx,Xr]);rw[e]at hv2;have b1:val (p.take (i+1))<10000 ^ (i+1):=by
    have:=pR (l:=p.take (i+1)) fun c hc=>hp c (VU hc)
    rwa [VK,Xk O]at this
   have b2:val (p.take (i+1))*val q<10000 ^ (i+1)*10000 ^ q.length:=by
    have p0:0<10000 ^ q.length:=Zv (ZG)
    calc val (p.take (i+1))*val q<=val (p.take (i+1))*10000 ^ q.length:=WR _ hqv
     _<10000 ^ (i+1)*10000 ^ q.length:=Nat.mul_lt_mul_of_pos_right b1 p0
   rw[<- Zw]at b2;have b3:10000 ^ (i+k)*1<=10000 ^ (i+k)*c:=WR _ hc1;have b4:10000 ^ (i+k)<10000 ^ (i+1+q.length):=O;have:=(Nat.pow_lt_pow_iff_right (by decide:1<10000)).1 b4;omega
 obtain⟨b,hbk⟩:∃b,o2[i+k]?=some b:=⟨_,Vz O⟩
 have hb9:=ho2 b (an hbk);obtain⟨B,rfl⟩:=VE hb9.1;have o2n:¬o2=[]:=by rintro rfl;simp at hbk
 have w2:=Vv ((i:Int)+(k:Int)) O;have w3:=Vv ((k:Int)+1) O;have eik:(i:Int)+(k:Int)=((i+k:Nat):Int):=O
 rw[eik]at w2;have bik:((i+k:Nat):Int)<(L:Int):=O
 have w4:=Vv ((c:Int)+(B:Int)) O;by_cases hkq:k<q.length
 ·obtain⟨d,hdk⟩:∃d,q[k]?=some d:=⟨_,Vz O⟩
  have hd9:=hq d (an hdk);obtain⟨D,rfl⟩:=VE hd9.1;have qn:¬q=[]:=by rintro rfl;simp at hdk
  have n1:(k:Int)<q.length:=O
  have mAD:A*D<=9999*10000:=YF O O;have cAD:(A:Int)*(D:Int)=((A*D:Nat):Int):=(XN _ _).symm;obtain⟨t,ht⟩:∃t,t=c+B+A*D:=⟨_,rfl⟩
  have et:(c:Int)+(B:Int)+((A*D:Nat):Int)=(t:Int):=O
  have w5:=Vv ((A*D:Nat):Int) O;have w6:=Vv (t:Int) O;have tm:((t:Int)).tmod 10000=((t % 10000:Nat):Int):=by rw[Wg O];rfl
  have td:((t:Int)).tdiv 10000=((t / 10000:Nat):Int):=by rw[WW O];rfl
  have w7:=Vv ((t % 10000:Nat):Int) O;have w8:=Vv ((t / 10000:Nat):Int) O;have hs:=Aj ((t % 10000:Nat):Int) hbk;rw[Int.toNat_natCast,Int.toNat_natCast]at hs;have vq:=Em hdk;rw[Int.toNat_natCast]at vq;have fin:∃(k' c':Nat) (o3:List Int),ZK.lit (.int .i64 ((k:Int)+1))=aa k'/\ZK.lit (.int .i64 ((t / 10000:Nat):Int))=aa c'/\c'<=10000/\k'<=L/\ext H [.J 0 3 (ints (o2.set (i+k) ((t % 10000:Nat):Int)))]=ext H [.J 0 3 (ints o3)]/\Dg o3/\o3.length=L/\val o3+10000 ^ (i+k')*c'=val (p.take i)*val q+10000 ^ i*(A*val (q.take k')):=by
   refine⟨k+1,t / 10000,_,by simp[aa],rfl,O,O,rfl,fun z hz=>?_,by simp[hol2],?_⟩
   ·rcases Wn hz with h|h
    ·exact ho2 z h
    ·omega
   ·rw[vq,<- W6,WQ];have e1:t=t % 10000+10000*(t / 10000):=O;have e2:=congrArg (10000 ^ (i+k)*·) (show c+B+A*D=t % 10000+10000*(t / 10000) by omega);have e3:10000 ^ i*(A*(val (q.take k)+10000 ^ k*D))=10000 ^ i*(A*val (q.take k))+10000 ^ (i+k)*(A*D):=by
     rw[XU,XU,Zw];congr 1
     ac_rfl
    rw[e3];simp only[XU,Xr]at e2 hv2 hs ⊢;omega
  simp only[go_sem,h8,h7,n1,h6,w2,w4,eik,bik,hbk];refine W.dr 10 [0,0,0,6,14,0,0,96,224,510] mixed ?_;simp only[go_sem,h8,h7,n1,h6,w2,eik,bik,ha,hdk,pn,qn,hb,cAD,w5,et,w6];rw[w3,td,w8,tm,gJ _ O];exact⟨O,fin,O⟩
 ·have n1:¬(k:Int)<q.length:=O
  have n2:(0:Int)<(c:Int):=O
  obtain⟨t,ht⟩:∃t,t=c+B:=⟨_,rfl⟩
  have et:(c:Int)+(B:Int)=(t:Int):=O
  have w6:=Vv (t:Int) O;have tm:((t:Int)).tmod 10000=((t % 10000:Nat):Int):=by rw[Wg O];rfl
  have td:((t:Int)).tdiv 10000=((t / 10000:Nat):Int):=by rw[WW O];rfl
  have w7:=Vv ((t % 10000:Nat):Int) O;have w8:=Vv ((t / 10000:Nat):Int) O;have hs:=Aj ((t % 10000:Nat):Int) hbk;rw[Int.toNat_natCast,Int.toNat_natCast]at hs;have fin:∃(k' c':Nat) (o3:List Int),ZK.lit (.int .i64 ((k:Int)+1))=aa k'/\ZK.lit (.int .i64 ((t / 10000:Nat):Int))=aa c'/\c'<=10000/\k'<=L/\ext H [.J 0 3 (ints (o2.set (i+k) ((t % 10000:Nat):Int)))]=ext H [.J 0 3 (ints o3)]/\Dg o3/\o3.length=L/\val o3+10000 ^ (i+k')*c'=val (p.take i)*val q+10000 ^ i*(A*val (q.take k')):=by
   refine⟨k+1,t / 10000,_,by simp[aa],rfl,O,O,rfl,fun z hz=>?_,by simp[hol2],?_⟩
   ·rcases Wn hz with h|h
    ·exact ho2 z h
    ·omega
   ·rw[Vy (l:=q) (i:=k) O]at hv2;rw[Vy (l:=q) (i:=k+1) O,<- W6,WQ];have e2:=congrArg (10000 ^ (i+k)*·) (show c+B=t % 10000+10000*(t / 10000) by omega);simp only[XU,Xr]at e2 hv2 hs ⊢;omega
  simp only[go_sem,h8,h7,n1,n2,h6,w2,eik,bik,hbk,et,w6,hol2];rw[w3,td,w8,tm,gJ _ O];exact⟨O,fin,O⟩
end Go.Proofs.R01
namespace Go.Proofs.R01
open Go.Hx Tryz
variable {N k n y:Nat}
def Ak (x y:Nat)(hx:(aF x).length<=200)(hy:(aF y).length<=200)(H:ZJ)(K:ZP->ZJ->Prop)(hK:K (.ret (ah (aF (x*y)))) H):ag prog G0 68 [ah (aF x),ah (aF y)] H K :=
 En (aF x) (aF y) (na x) (fun c hc=>by have:=na y c hc;omega) (XW (pR (na y))) hx hy H K (by rw[lg,lg];exact hK)
def RH (x d:Nat)(hd:d<=10000)(hx:(aF x).length<=200)(H:ZJ)(K:ZP->ZJ->Prop)(hK:K (.ret (ah (aF (x*d)))) H):ag prog G0 68 [ah (aF x),ah [(d:Int)]] H K:=by
 have e:val [(d:Int)]=d:=by simp[val]
 refine En (aF x) [(d:Int)] (na x) (fun c hc=>?_) (by rw[e];simpa using hd) hx ZF H K (by rw[lg,e];exact hK);obtain rfl:=List.mem_singleton.1 hc;omega
theorem uC (n:Nat):∀k:Nat,(aF n).drop k=aF (n / 10000 ^ k)
 |0=>ZF
 |k+1=>by
  have h:=(sH (uC n k)).2.2;rw[h,WQ,X2]
def xm (h:k<(aF n).length):(aF n)[k]?=some ((n / 10000 ^ k % 10000:Nat):Int):=(sH (uC n k)).2.1 ((sH (uC n k)).1.1 h)
def Eo (h:¬k<(aF n).length):n / 10000 ^ k=0:=by
 rcases WM (n / 10000 ^ k) with h0|h0
 ·exact h0
 ·exact absurd ((sH (uC n k)).1.2 O) h
def RI {P:Nat}(hP:0<P)(ht:0<y / P):N / y<=N / P / (y / P):=by
 rw[XK ht,XK hP]
 calc N / y*(y / P)*P=N / y*(y / P*P):=Xr ..
  _<=N / y*y:=WR _ (Yd _ _)
  _<=N:=Yd _ _
def RJ {P:Nat}(hP:0<P)(hy:0<y):N / P / (y / P+1)<=N / y:=by
 rw[XK hy];have h1:y<=(y / P+1)*P:=by
  have:=Zx y hP;rw[Xf]at this;omega
 calc N / P / (y / P+1)*y<=N / P / (y / P+1)*((y / P+1)*P):=WR _ h1
  _=N / P / (y / P+1)*(y / P+1)*P:=(Xr ..).symm
  _<=N / P*P:=We _ (Yd _ _)
  _<=N:=Yd _ _
def RK (hN:N<10000*y)(hy:10000 ^ n<=y):N / 10000 ^ (n-1) / (y / 10000 ^ (n-1))<=10000:=by
 have hP:0<10000 ^ (n-1):=Zv ZG;rcases WM n with h0|h0
 ·subst h0;have hy0:0<y:=by simp at hy;omega
  simp only[Nat.zero_sub,YR,Zy];exact XW (Xe (by rw[Xf];exact hN))
 ·have ht:10000<=y / 10000 ^ (n-1):=by
   rw[XK hP];have:10000*10000 ^ (n-1)=10000 ^ n:=(by rw[Xf,<- WQ];congr 1;omega);omega
  generalize 10000 ^ (n-1)=P at *
  refine Xi (Xe ?_);refine Xe ?_;have h1:=Zx y hP;generalize y / P=T at *
  have h2:P*(T+1)*10000<=P*(T*10001):=by
   rw[Xr];exact WR _ (O)
  have h3:y<P*(T+1):=h1;generalize P*(T+1)=Z at *
  generalize hW:P*(T*10001)=W at *
  have h4:N<W:=O
  first|exact h4|(rw[<- hW]at h4;simpa[Xf,Nat.mul_left_comm,Xr] using h4)
def RL {X a Q R:Nat}(hX:X=y*Q+R)(hR:R<y):(a+10000*X) / y=10000*Q+(a+10000*R) / y/\(a+10000*X) % y=(a+10000*R) % y:=by
 have e:a+10000*X=(a+10000*R)+y*(10000*Q):=by
  rw[hX,XU];have:10000*(y*Q)=y*(10000*Q):=by ac_rfl
  omega
 rw[e,Nat.add_mul_div_left _ _ O,Nat.add_mul_mod_self_left];exact⟨Nat.add_comm _ _,rfl⟩
end Go.Proofs.R01
namespace Go.Proofs.R01
open Go.Hx Tryz
variable {a b:Int}
def Ep (h:a<=b):di a b<=0:=by
 unfold di;split
 ·omega
 ·split<;>omega
def Er (h:b<a):¬di a b<=0:=by
 unfold di;split
 ·omega
 ·split<;>omega
def RM (x y:Nat)(hy:y≠0)(hx:(aF x).length<=100)(hyl:(aF y).length<=100)(H:ZJ)(K:ZP->ZJ->Prop)(hK:K (.ret (.nf [ah (aF (x / y)),ah (aF (x % y))])) H):ag prog G0 107 [ah (aF x),ah (aF y)] H K:=by
 refine ag.K4 ⟨_,func107,rfl,rfl⟩ fun hcl hbel=>?_;obtain⟨p,hp⟩:∃p,p=aF x:=⟨_,rfl⟩
 obtain⟨q,hq⟩:∃q,q=aF y:=⟨_,rfl⟩
 have hqn:q.length≠0:=by intro h;exact hy (Ah.1 (by rw[<- hq];exact VF h))
 obtain⟨n,hn⟩:∃n,q.length=n+1:=⟨q.length-1,O⟩
 have ylb:=Ej y hy;have yub:=Ai (n:=y) (k:=n+1) (by rw[<- hq,hn];exact Nat.le_refl _);rw[<- hq,hn,W0]at ylb;have hx1:=hx;have hy1:=hyl;rw[<- hp]at hx;rw[<- hq]at hyl;have w1:=Vv ((q.length:Int)-1) O;have en:(q.length:Int)-1=(n:Int):=O
 rw[en]at w1;rw[<- hp,<- hq]at hbel ⊢;have rep0:∀v:ZK,List.replicate 0 v=[]:=fun _=>rfl;refine ag.st (n:=124) (rs:=[.tmp 4,.tmp 5]) func107 ?_;by_cases hs:(p.length:Int)<=(n:Int)
 ·have hlt:x<y:=sG (by rw[<- hp,<- hq];omega);rw[Xb hlt,X7 hlt,ji,<- hp]at hK;obtain⟨v',H3,hA,hO,hn3,hpr⟩:=sd (P:=prog) (H:=ext H [.J 0 3 []]) (t:=42) (lo:=H.A) (n:=H.A+1) (v:=.U H.A 0 0 0 1) (cs:=[]) (src:=ints p) Tryz.underlying42 Tryz.fE Tryz.fF (ko p) (by rw[Tryz.gG,aR];simp;omega) (.inr ⟨H.A,0,ZI,by simp[aM],rfl,dA _ _ _⟩) (by simp[aM]) (by simp[aM]);rw[aR]at hA;have ov3:ZN H H3:=⟨by simp only[aM]at hn3;omega,fun id hid=>by
   rw[hpr id (by simp only[aM];omega) fun g n he=>by have:=ZK.U.inj he;omega,aX hid]⟩
  simp only[go_sem,en,w1,hs,rep0,hA];refine aq.bC (v':=.nf [ah [],ah p]) aJ hcl ov3 (.nf rfl fun i hi _=>?_) hK
  match i,hi with
  |0,_=>exact .nil
  |1,_=>exact hO.hJ fun i hi=>hi
 ·have w2:=Vv ((p.length:Int)-(n:Int)) O;obtain⟨m,hm⟩:∃m,p.length=n+m/\1<=m:=⟨p.length-n,O,O⟩
  have em:(p.length:Int)-(n:Int)=(m:Int):=O
  rw[em]at w2;have w3:=Vv ((m:Int)-1) O;have esub:p.length-m=n:=O
  have ede:List.take n (List.drop m (ints p))=ints (p.drop m):=by rw[A0];exact Vy (by rw[aR,Wi];omega)
  have mle:(m:Int)<=(p.length:Int):=O
  have dl:(p.drop m).length=n:=by simp;omega
  have eR:List.replicate m (ZK.lit (.int .i64 0))=ints (List.replicate m 0):=by simp[ints,aa]
  obtain⟨v',H3,hA,hO,hn3,hpr⟩:=sd (P:=prog) (H:=ext H [.J 0 3 (ints (List.replicate m 0)),.J 0 3 []]) (t:=42) (lo:=H.A+1) (n:=H.A+2) (v:=.U (H.A+1) 0 0 0 1) (cs:=[]) (src:=ints (p.drop m)) Tryz.underlying42 Tryz.fE Tryz.fF (ko _) (by rw[Tryz.gG,aR];simp;omega) (.inr ⟨H.A+1,0,ZI,by simp[aM],rfl,bH H _ 1 ZF⟩) (by show H.A+1<=H.A+2;omega) rfl;rw[aR,dl]at hA;simp only[aM,List.length_cons,List.length_nil]at hn3 hpr;obtain⟨Hq,hHq⟩:∃Hq,Hq=ext H [.J 0 3 (ints (List.replicate m 0))]:=⟨_,rfl⟩
  have nq:Hq.A=H.A+1:=hHq▸rfl
  have clq:Clo Hq:=by
   rw[hHq];refine RT hcl fun b hb=>?_;obtain rfl:=List.mem_singleton.1 hb;exact RU fun c hc=>by obtain⟨x,_,rfl⟩:=VI.1 hc;exact⟨_,rfl⟩
  have gq:Hq.get H.A=some (.J 0 3 (ints (List.replicate m 0))):=by rw[hHq];exact dA _ _ _
  have ovq:ZN H Hq:=by rw[hHq];exact ZN.ext _ _
  have ov3:ZN Hq H3:=⟨O,fun id hid=>by
   rw[hpr id O fun g n he=>by have:=ZK.U.inj he;omega];by_cases h:id=H.A
   ·subst h;rw[gq,dA]
   ·rw[dM _ _ _ O,ovq.nb _ O]⟩
  have n3:=ov3.A;have hvF:Fz (fun id=>Hq.A<=id) H3 H3.A v' (ah (p.drop m)):=hO.hJ fun i hi=>O
  have hbq:∀v,v∈[ah p,ah q]->Below Hq.A v:=fun v hv=>(hbel v hv).mono O;have h37:Fz (fun id=>Hq.A<=id) H3 H3.A (.Q n (ints (p.drop m))) (.Q n (ints (p.drop m))):=by rw[<- dl];exact .dK _
  have gq3:=(ov3.nb H.A O).trans gq;have lq3:=ae gq3;simp only[go_sem,en,w1,hs,em,w2,rep0,mle,esub,ede,eR,hA,w3,lq3];refine⟨⟨O,O⟩,?_⟩;apply W.MH (H:=Hq) aJ clq ov3
  ·repeat first|exact Fz.MJ hbq O|(apply Fz.MI;· first|exact .lit _|assumption|exact .dK _|exact .M O O|exact .U O O|exact .deadOwn O (by show Hq.A<=_;omega))
  ·trivial
  obtain⟨Hg,hHg⟩:∃Hg,Hg=jV Hq (H3.A-Hq.A):=⟨_,rfl⟩
  rw[<- hHg];have hog:ZN Hq Hg:=by rw[hHg];exact .jV _ _
  have ng:=hog.A;have hgg:=(hog.nb H.A O).trans gq;have pdm:p.drop m=aF (x / 10000 ^ m):=by rw[hp];exact uC x m
  have xlt:x / 10000 ^ m<y:=sG (by rw[<- pdm,dl,<- hq];omega);refine W.env fun E hE=>?_;have e0:E 0=ah p:=by rw[hE];rfl
  have e1:E 1=ah q:=by rw[hE];rfl
  have e6:E 6=aa n:=by rw[hE];rfl
  have e7:E 7=.U H.A 0 0 m 1:=by rw[hE];rfl
  have e8:E 8=ah (p.drop m):=by rw[hE];rfl
  have e9:E 9=aa ((m:Int)-1):=by rw[hE];rfl
  clear hE;refine W.aP 2658455991569831745807609722514243328 (by rfl) (fun ρ H'=>∃(j:Nat) (qs:List Int),ρ 9=aa ((j:Int)-1)/\j<=m/\ZN H H'/\Hg.A<=H'.A/\H'.get H.A=some (.J 0 3 (ints qs))/\qs.length=m/\Dg qs/\val (qs.drop j)=x / 10000 ^ j / y/\ρ 8=ah (aF (x / 10000 ^ j % y))) (fun ρ H=>(iv (ρ 9)+1).toNat) ?_ ?_
  ·simp only[go_sem,e9,e8];refine⟨m,List.replicate m 0,ZF,O,ovq.trans hog,hgg,ZF,fun c hc=>by obtain⟨_,rfl⟩:=List.mem_replicate.1 hc;omega,?_,?_⟩
   ·rw[Xb xlt,Zs.2 ZF];rfl
   ·rw[X7 xlt,<- pdm]
  rintro ρ H' ⟨j,qs,h9,hj,ov,hnx,hg,hql,hqd,hv,h8⟩;refine W.vs ?_;have lq:=ae hg;by_cases hz:j=0
  ·subst hz;have z1:¬(0:Int)<=((0:Nat):Int)-1:=O;simp only[YR,Zy,List.drop_zero]at hv h8;simp only[go_sem,h9,e7];have hO2:aD H.A H' 3 (.U H.A 0 0 m 1) (ints qs):=.inr ⟨H.A,0,ZI,O,by rw[aR,hql],hg⟩;refine au.mL H.A (args':=[ah qs]) aJ rfl (fun j hj _=>match j,hj with|0,_=>hO2.hJ fun i hi=>hi) (uA qs hqd O _ _ ⟨trivial,?_⟩);rw[hv];simp only[go_sem,h8];have ovc:ZN H (H'.cut H.A):=ov.qh ZI;refine aq.bC (v':=.nf [ah (aF (x / y)),ah (aF (x % y))]) aJ hcl ovc (.nf rfl fun i hi _=>?_) hK
   match i,hi with
   |0,_=>exact .dK _
   |1,_=>exact .dK _
  obtain⟨i,rfl⟩:∃i,j=i+1:=⟨j-1,O⟩
  have ei:((i+1:Nat):Int)-1=(i:Int):=O
  rw[ei]at h9;have z1:(0:Int)<=(i:Int):=O
  obtain⟨R,hR⟩:∃R,R=x / 10000 ^ (i+1) % y:=⟨_,rfl⟩
  rw[<- hR]at h8;have hRy:R<y:=by rw[hR];exact Yb _ (O)
  have hil:i<p.length:=O
  obtain⟨a,ha⟩:∃a,a=x / 10000 ^ i % 10000:=⟨_,rfl⟩
  have hpi:p[i]?=some ((a:Nat):Int):=by rw[ha,hp];exact xm (by rw[<- hp];exact hil)
  have pn:¬p=[]:=by rintro rfl;simp at hil
  have bil:(i:Int)<p.length:=O
  obtain⟨N,hN⟩:∃N,N=a+10000*R:=⟨_,rfl⟩
  have yup:y<10000 ^ (n+1):=yub;have rlen:(aF R).length<=n+1:=qN O;have hNy:N<10000*y:=O
  have hN2:N<10000 ^ (n+2):=by
   have:10000 ^ (n+2)=10000*10000 ^ (n+1):=(by rw[WQ,Xf]);omega
  have nlen:(aF N).length<=n+2:=qN hN2;obtain⟨v',H3,hA,hO,hn3,hpr⟩:=sd (P:=prog) (H:=ext H' [.J 0 3 [.lit (.int .i64 (a:Int))]]) (t:=42) (lo:=H'.A) (n:=H'.A+1) (v:=.U H'.A 0 0 1 1) (cs:=ints [(a:Int)]) (src:=ints (aF R)) Tryz.underlying42 Tryz.fE Tryz.fF (ko _) (by rw[Tryz.gG,aR,aR,Wl];omega) (.inr ⟨H'.A,0,ZI,by simp[aM],rfl,dA _ _ _⟩) (by simp[aM]) (by simp[aM]);rw[aR]at hA;have ov3:ZN H' H3:=⟨by simp only[aM]at hn3;omega,fun id hid=>by
   rw[hpr id (by simp only[aM];omega) fun g n he=>by have:=ZK.U.inj he;omega,aX hid]⟩
  have hcd:Dg ((a:Int) :: aF R):=fun c hc=>by
   rcases List.mem_cons.1 hc with rfl|hc
   ·omega
   ·exact na R c hc
  have hcv:val ((a:Int) :: aF R)=N:=by rw[val,lg,hN];simp
  simp only[go_sem,h9,z1,h8,e0,hpi,pn,bil,hA];refine au.mL H'.A (args':=[ah ((a:Int) :: aF R)]) aJ rfl (fun j hj _=>match j,hj with|0,_=>hO.hJ fun i hi=>hi) (uA _ hcd (by rw[List.length_cons];omega) _ _ ⟨trivial,?_⟩);rw[hcv];have ovc:ZN H' (H3.cut H'.A):=ov3.cut;obtain⟨Hc,hHc⟩:∃Hc,Hc=H3.cut H'.A:=⟨_,rfl⟩
  rw[<- hHc]at ovc ⊢;clear hHc;have w4:=Vv ((n:Int)+1) O;simp only[go_sem,e6,w4];have gqc:=(ovc.nb H.A O).trans hg;have nc:=ovc.A;refine W.env fun E2 hE2=>?_;have f0:E2 0=ah p:=by rw[hE2];exact e0
  have f1:E2 1=ah q:=by rw[hE2];exact e1
  have f6:E2 6=aa n:=by rw[hE2];exact e6
  have f7:E2 7=.U H.A 0 0 m 1:=by rw[hE2];exact e7
  have f8:E2 8=ah (aF N):=by rw[hE2];rfl
  have f9:E2 9=aa (i:Int):=by rw[hE2];exact h9
  have f10:E2 10=aa 0:=by rw[hE2];rfl
  have f11:E2 11=aa 0:=by rw[hE2];rfl
  have f12:E2 12=aa ((n:Int)+1):=by rw[hE2];rfl
  clear hE2;have hqy:q=aF y:=hq;have emax:(if (n:Int)-1 > 0 then (n:Int)-1 else 0)=((n-1:Nat):Int):=by split<;>omega
  have w5:=Vv ((n:Int)-1) O;have yk2:y / 10000 ^ (n+2)=0:=Xb (by rw[WQ];omega);have Nk2:N / 10000 ^ (n+2)=0:=Xb hN2;have cube:∀z k:Nat,z<10000 ^ (n+2)->n-1<=k->z / 10000 ^ k<1000000000000:=fun z k hz hk=>by
   refine Xe (VM hz ?_);rw[show (1000000000000:Nat)=10000 ^ 3 by decide,<- Zw];exact V0 ZG (O)
  have hy2:y<10000 ^ (n+2):=by rw[WQ];omega
  refine W.aP 38685626155610539552676864 (by rfl) (fun ρ' H2=>∃k F T:Nat,ρ' 12=aa ((k:Int)-1)/\n-1<=k/\k<=n+2/\H2=Hc/\ρ' 11=aa F/\ρ' 10=aa T/\F=N / 10000 ^ k/\T=y / 10000 ^ k) (fun ρ' H=>(iv (ρ' 12)+1).toNat) ?_ ?_
  ·simp only[go_sem,f12,f11,f10];exact⟨n+2,0,0,by simp;omega,O,O,rfl,rfl,Nk2.symm,yk2.symm⟩
  rintro ρ' H2 ⟨k,F,T,g12,hk1,hk2,rfl,g11,g10,hF,hT⟩;refine W.vs ?_;by_cases hke:k=n-1
  ·have z2:¬((n-1:Nat):Int)<=((n-1:Nat):Int)-1:=O;rw[hke]at g12;simp only[go_sem,g12,f6,w5,emax,z2];rw[hke]at hF hT;have hP:0<10000 ^ (n-1):=Zv ZG;have hT0:0<T:=by
    rw[hT];refine Nat.div_pos ?_ hP;exact Wm (V0 ZG O) ylb
   have cF:=cube N (n-1) hN2 O;have cT:=cube y (n-1) hy2 O;have qhi:N / y<=F / T:=(by rw[hF,hT];exact RI hP (by rw[<- hT];exact hT0));have qlo:F / (T+1)<=N / y:=(by rw[hF,hT];exact RJ hP O);have qcap:F / T<=10000:=(by rw[hF,hT];exact RK hNy ylb);rw[<- hF]at cF;rw[<- hT]at cT;have w6:=Vv ((T:Int)+1) O;obtain⟨lo,hlo⟩:∃lo,lo=F / (T+1):=⟨_,rfl⟩
   obtain⟨hi,hhi⟩:∃hi,hi=F / T:=⟨_,rfl⟩
   have t1:((F:Int)).tdiv ((T:Int)+1)=(lo:Int):=(by rw[WW O,hlo];rfl);have t2:((F:Int)).tdiv (T:Int)=(hi:Int):=(by rw[WW O,hhi];rfl);rw[<- hlo]at qlo;rw[<- hhi]at qhi qcap;have w7:=Vv (lo:Int) O;have w8:=Vv (hi:Int) O;have n1:¬(T:Int)+1=0:=O;have n2:¬(T:Int)=0:=O;refine W.env fun E3 hE3=>?_;have k0:E3 0=ah p:=(by rw[hE3];exact f0);have k1:E3 1=ah q:=(by rw[hE3];exact f1);have k6:E3 6=aa n:=(by rw[hE3];exact f6);have k7:E3 7=.U H.A 0 0 m 1:=(by rw[hE3];exact f7);have k8:E3 8=ah (aF N):=(by rw[hE3];exact f8);have k9:E3 9=aa (i:Int):=(by rw[hE3];exact f9);have k10:E3 10=aa T:=(by rw[hE3];exact g10);have k11:E3 11=aa F:=(by rw[hE3];exact g11);clear hE3;refine W.dr 8 [0,0,2,7,0,0,48,15] mixed ?_;simp only[go_sem,k11,k10,w6,t1,t2,w7,w8,n1,n2];have gq2:H2.get H.A=some (.J 0 3 (ints qs)):=gqc;obtain⟨Q,hQ⟩:∃Q,Q=N / y:=⟨_,rfl⟩
   rw[<- hQ]at qlo qhi;have hyl2:(aF y).length<=100:=hy1;refine W.env fun E4 hE4=>?_;have l1:E4 1=ah q:=(by rw[hE4];exact k1);have l7:E4 7=.U H.A 0 0 m 1:=(by rw[hE4];exact k7);have l8:E4 8=ah (aF N):=(by rw[hE4];exact k8);have l9:E4 9=aa (i:Int):=(by rw[hE4];exact k9);have l13:E4 13=aa (lo:Int):=(by rw[hE4];rfl);have l14:E4 14=aa (hi:Int):=(by rw[hE4];rfl);clear hE4;have Nl:((aF N).length:Int)<2 ^ 40:=O;refine W.aP 1298069262873549765611524485865472 (by rfl) (fun ρ2 H3=>∃L U:Nat,ρ2 13=aa L/\ρ2 14=aa U/\L<=Q/\Q<=U/\U<=10000/\ZN H2 H3) (fun ρ2 H=>(iv (ρ2 14)-iv (ρ2 13)).toNat) ?_ ?_
   ·simp only[go_sem,l13,l14];exact⟨lo,hi,rfl,rfl,qlo,qhi,qcap,.refl _⟩
   rintro ρ2 H4 ⟨L,U,m13,m14,hL,hU,hU2,ov4⟩;refine W.vs ?_;have n4:=ov4.A;by_cases hLU:(L:Int)<(U:Int)
   ·obtain⟨M,hM⟩:∃M,M=(L+U+1) / 2:=⟨_,rfl⟩
    have eLU:(L:Int)+(U:Int)=((L+U:Nat):Int):=O;have eLU1:((L+U:Nat):Int)+1=((L+U+1:Nat):Int):=O;have v1:=Vv ((L+U:Nat):Int) O;have v2:=Vv ((L+U+1:Nat):Int) O;have v3:(((L+U+1:Nat):Int)).tdiv 2=(M:Int):=(by rw[WW O,hM];rfl);have v4:=Vv (M:Int) O;have v5:=Vv ((M:Int)-1) O;simp only[go_sem,m13,m14,hLU,eLU,eLU1,v1,v2,v3,v4,l1];have hO4:aD H4.A (ext H4 [.J 0 3 [.lit (.int .i64 (M:Int))]]) 3 (.U H4.A 0 0 1 1) (ints [(M:Int)]):=.inr ⟨H4.A,0,ZI,by simp[aM],rfl,dA _ _ _⟩;rw[hqy];refine au.mL H4.A (args':=[ah (aF y),ah [(M:Int)]]) aJ rfl (fun j hj _=>match j,hj with|0,_=>.dK _|1,_=>hO4.hJ fun i hi=>hi) (RH y M O O _ _ ⟨trivial,?_⟩);have ylen:(aF (y*M)).length<=n+2:=qN (by
     have h1:y*M<=y*10000:=WR _ O;rw[WQ];omega)
    have ov5:ZN H2 ((ext H4 [.J 0 3 [.lit (.int .i64 (M:Int))]]).cut H4.A):=ov4.trans ((ZN.ext _ _).cut);simp only[go_sem,l8];refine au.Z (uB (y*M) N O _ _ ⟨trivial,?_⟩);by_cases hc:y*M<=N
    ·have hc1:di ((y*M:Nat):Int) (N:Int)<=0:=Ep O;have hMQ:M<=Q:=(by rw[hQ,XK O,Xf];exact hc);simp only[go_sem,hc1];exact⟨ov5.A,⟨M,U,rfl,m14,hMQ,hU,hU2,ov5⟩,by rw[m14];simp only[aa,iv];omega⟩
    ·have hc1:¬di ((y*M:Nat):Int) (N:Int)<=0:=Er O;have hMQ:Q<M:=(by rw[hQ,Nat.div_lt_iff_lt_mul O,Xf];omega);simp only[go_sem,hc1,v5];exact⟨ov5.A,⟨L,M-1,m13,by simp;omega,hL,O,O,ov5⟩,by rw[m13];simp only[aa,iv];omega⟩
   ·have LQ:L=Q:=O;subst LQ;have g4:=(ov4.nb H.A O).trans gq2;have lq4:=ae g4;have him:i<m:=O;have zi:(i:Int)<(m:Int):=O;have Q9:L<10000:=(by rw[hQ];exact Xe O);simp only[go_sem,m13,m14,hLU,l7,l9,zi,lq4];rw[gJ _ O];obtain⟨H5,hH5⟩:∃H5,H5=H4.upd H.A (.J 0 3 (ints (qs.set i (L:Int)))):=⟨_,rfl⟩
    rw[<- hH5];have g5:H5.get H.A=some (.J 0 3 (ints (qs.set i (L:Int)))):=(by rw[hH5,af,VA rfl]);have n5:H5.A=H4.A:=(by rw[hH5];rfl);have ov5:ZN H H5:=⟨by have:=ov.A;omega,fun id hid=>by
     rw[hH5,af,Vx O,ov4.nb _ O,ovc.nb _ O,ov.nb _ hid]⟩
    clear hH5;refine⟨O,?_⟩;have dgL:Dg [(L:Int)]:=fun c hc=>by obtain rfl:=List.mem_singleton.1 hc;omega
    have vL:val [(L:Int)]=L:=(by simp[val]);have hO5:aD H5.A (ext H5 [.J 0 3 [.lit (.int .i64 (L:Int))]]) 3 (.U H5.A 0 0 1 1) (ints [(L:Int)]):=.inr ⟨H5.A,0,ZI,by simp[aM],rfl,dA _ _ _⟩;refine au.mL H5.A (args':=[ah [(L:Int)]]) aJ rfl (fun j hj _=>match j,hj with|0,_=>hO5.hJ fun i hi=>hi) (uA _ dgL ZF _ _ ⟨trivial,?_⟩);rw[vL];have ov6:ZN H5 ((ext H5 [.J 0 3 [.lit (.int .i64 (L:Int))]]).cut H5.A):=(ZN.ext _ _).cut;obtain⟨H6,hH6⟩:∃H6,H6=(ext H5 [.J 0 3 [.lit (.int .i64 (L:Int))]]).cut H5.A:=⟨_,rfl⟩
    rw[<- hH6]at ov6 ⊢;clear hH6;have n6:=ov6.A;have lenL:(aF L).length<=1:=qN O;have hmul:y*L<=N:=(by rw[hQ];exact Nat.mul_div_le N y);simp only[go_sem,l1,l8];rw[hqy];refine au.Z (Ak y L O O _ _ ⟨trivial,?_⟩);simp only[go_sem];refine au.Z (RG N (y*L) hmul O _ _ ⟨trivial,?_⟩);have wi:=Vv ((i:Int)-1) O;simp only[go_sem,l9,wi];have eX:=YY (x / 10000 ^ (i+1)) y;have eS:x / 10000 ^ i=a+10000*(x / 10000 ^ (i+1)):=by
     rw[WQ,<- X2,ha];omega
    have qs2:=RL (X:=x / 10000 ^ (i+1)) (a:=a) (y:=y) (Q:=x / 10000 ^ (i+1) / y) (R:=R) (by rw[hR];exact eX.symm) hRy;rw[<- eS,<- hN]at qs2;have eRN:N-y*L=x / 10000 ^ i % y:=(by rw[qs2.2,hQ];have:=YY N y;omega);rw[eRN];refine⟨O,⟨i,qs.set i (L:Int),rfl,O,ov5.trans ov6,O,(ov6.nb _ O).trans g5,by simp[hql],fun c hc=>?_,?_,rfl⟩,O⟩
    ·rcases Wn hc with h|h
     ·exact hqd c h
     ·omega
    ·rw[Wt (by simp;omega),val,List.getElem_set_self,Int.toNat_natCast,ZD O,hv,qs2.1,hQ];omega
  obtain⟨j,rfl⟩:∃j,k=j+1:=⟨k-1,O⟩
  have ej:((j+1:Nat):Int)-1=(j:Int):=O
  rw[ej]at g12;have z2:((n-1:Nat):Int)<=(j:Int):=O
  have cF:=cube N j hN2 O;have cT:=cube y j hy2 O;rw[WQ,<- X2]at hF hT;have nF:N / 10000 ^ j=0\/j<(aF N).length:=by
   by_cases h:j<(aF N).length
   ·exact .inr h
   ·exact .inl (Eo h)
  have nT:y / 10000 ^ j=0\/j<=n:=by
   by_cases h:j<=n
   ·exact .inr h
   ·exact .inl (Eo (by rw[<- hqy,hn];omega))
  have dF:j<(aF N).length->(aF N)[j]?=some ((N / 10000 ^ j % 10000:Nat):Int):=fun h=>xm h;have dT:j<=n->q[j]?=some ((y / 10000 ^ j % 10000:Nat):Int):=fun h=>by rw[hqy];exact xm (by rw[<- hqy,hn];omega)
  obtain⟨F',hF'⟩:∃F',F'=N / 10000 ^ j:=⟨_,rfl⟩
  obtain⟨T',hT'⟩:∃T',T'=y / 10000 ^ j:=⟨_,rfl⟩
  rw[<- hF']at cF hF nF dF;rw[<- hT']at cT hT nT dT;obtain⟨cf,hcf⟩:∃cf,cf=F' % 10000:=⟨_,rfl⟩
  obtain⟨ct,hct⟩:∃ct,ct=T' % 10000:=⟨_,rfl⟩
  rw[<- hcf]at dF;rw[<- hct]at dT;have w6:=Vv ((F:Int)*10000) O;have w7:=Vv ((F:Int)*10000+(cf:Int)) O;have w8:=Vv ((T:Int)*10000) O;have w9:=Vv ((T:Int)*10000+(ct:Int)) O;have wj:=Vv ((j:Int)-1) O;by_cases hjl:j<(aF N).length
  ·have dF1:=dF hjl;have Nn:¬aF N=[]:=(by intro h;rw[h]at hjl;simp at hjl);have z3:(j:Int)<(aF N).length:=O;by_cases hjn:j<=n
   ·have dT1:=dT hjn;have qn:¬q=[]:=(by intro h;rw[h]at hn;simp at hn);have z4:(j:Int)<=(n:Int):=O;have z5:(j:Int)<q.length:=O;simp only[go_sem,g12,f6,w5,emax,z2,g11,w6,f8,z3,Nn,dF1,w7,z4,z5,f1,dT1,qn,g10,w8,w9,wj];exact⟨⟨j,F',T',rfl,O,O,by simp;omega,by simp;omega,hF',hT'⟩,O⟩
   ·have z4:¬(j:Int)<=(n:Int):=O;simp only[go_sem,g12,f6,w5,emax,z2,g11,w6,f8,z3,Nn,dF1,w7,z4,wj];exact⟨⟨j,F',T',rfl,O,O,by simp;omega,by rw[g10,aa];simp;omega,hF',hT'⟩,O⟩
  ·have z3:¬(j:Int)<(aF N).length:=O;by_cases hjn:j<=n
   ·have dT1:=dT hjn;have qn:¬q=[]:=(by intro h;rw[h]at hn;simp at hn);have z4:(j:Int)<=(n:Int):=O;have z5:(j:Int)<q.length:=O;simp only[go_sem,g12,f6,w5,emax,z2,g11,w6,f8,z3,z4,z5,f1,dT1,qn,g10,w8,w9,wj];exact⟨⟨j,F',T',rfl,O,O,by simp;omega,by simp;omega,hF',hT'⟩,O⟩
   ·have z4:¬(j:Int)<=(n:Int):=O;simp only[go_sem,g12,f6,w5,emax,z2,g11,w6,f8,z3,z4,wj];exact⟨⟨j,F',T',rfl,O,O,by simp;omega,by rw[g10,aa];simp;omega,hF',hT'⟩,O⟩
end Go.Proofs.R01
namespace Go.Proofs.R01
open Go.Hx Tryz
def vn:ZK->Nat
 |.Q _ l=>val (l.map iv)
 |_=>0
def Es (n:Nat):vn (ah (aF n))=n:=by
 have:(ints (aF n)).map iv=aF n:=by simp[ints,aa,iv,Function.comp_def]
 show val ((ints (aF n)).map iv)=n;rw[this,lg]
def RN (x y:Nat)(hx:(aF x).length<=100)(hy:(aF y).length<=100)(H:ZJ)(K:ZP->ZJ->Prop)(hK:K (.ret (ah (aF (Nat.gcd x y)))) H):ag prog G0 66 [ah (aF x),ah (aF y)] H K:=by
 refine ag.Z ⟨_,func66,rfl,rfl⟩ fun hcl=>?_;refine ag.st (n:=19) (rs:=[.tmp 4]) func66 ?_;simp only[go_sem];refine W.aP 262115 (by rfl) (fun ρ H'=>∃X Y:Nat,ρ 0=ah (aF X)/\ρ 1=ah (aF Y)/\(aF X).length<=100/\(aF Y).length<=100/\H'=H/\Nat.gcd X Y=Nat.gcd x y) (fun ρ H=>vn (ρ 1)) ?_ ?_
 ·simp only[go_sem];exact⟨x,y,rfl,rfl,hx,hy,rfl⟩
 rintro ρ H' ⟨X,Y,h0,h1,hX,hY,rfl,hg⟩;refine W.vs ?_;by_cases hz:Y=0
 ·subst hz;have z1:¬(0:Int)<(aF 0).length:=by rw[ji];simp
  rw[Nat.gcd_zero_right]at hg;simp only[go_sem,h0,h1,z1];rw[<- hg]at hK;exact aq.bC aJ hcl (.refl _) (.dK _) hK
 have z1:(0:Int)<(aF Y).length:=by
  have:(aF Y).length≠0:=fun h=>hz (Ah.1 (VF h));omega
 simp only[go_sem,h0,h1,z1];refine au.Z (RM X Y hz hX hY _ _ ⟨trivial,?_⟩);have hlt:X % Y<Y:=Yb _ O;have hl:(aF (X % Y)).length<=100:=by
  rcases VV (aF Y).length (aF (X % Y)).length with h|h
  ·exact absurd (sG h) (O)
  ·omega
 simp only[go_sem,h1];refine⟨⟨Y,X % Y,rfl,rfl,hY,hl,?_⟩,?_⟩
 ·rw[<- hg,Zi Y,<- Nat.gcd_rec,Zi]
 ·have e1:=Es (X % Y);have e2:=Es Y;rw[show ZK.Q (aF (X % Y)).length (ints (aF (X % Y)))=ah (aF (X % Y)) from rfl,show ZK.Q (aF Y).length (ints (aF Y))=ah (aF Y) from rfl,e1,e2];exact hlt
def Et {S:Nat->Prop}{H:ZJ}{nx:Nat}{n:Int}{b:Bool}:Fz S H nx (.nf [.lit (.int .i64 n),.lit (.bool b)]) (.nf [aa n,.lit (.bool b)]):=.nf rfl fun i hi _=>match i,hi with
 |0,_=>.lit _
 |1,_=>.lit _
def pS (n:Nat):ZK:=if n<=4611686018427387903 then .nf [aa n,.lit (.bool true)] else .nf [aa 0,.lit (.bool false)]
def xq (n:Nat)(hn:(aF n).length<=100)(H:ZJ)(K:ZP->ZJ->Prop)(hK:K (.ret (pS n)) H):ag prog G0 143 [ah (aF n)] H K:=by
 refine ag.Z ⟨_,func143,rfl,rfl⟩ fun hcl=>?_;obtain⟨p,hp⟩:∃p,p=aF n:=⟨_,rfl⟩
 refine ag.st (n:=25) (rs:=[.tmp 2,.tmp 3]) func143 ?_;simp only[go_sem];refine au.Z (qO 4611686018427387903 O _ _ ⟨trivial,?_⟩);simp only[go_sem];refine au.Z (uB n 4611686018427387903 O _ _ ⟨trivial,?_⟩);unfold pS at hK;by_cases hb:n<=4611686018427387903;rotate_left
 ·have c1:0<di (n:Int) 4611686018427387903:=by have:=Er (a:=(n:Int)) (b:=4611686018427387903) O;omega
  rw[Vx hb]at hK;simp only[go_sem,c1];exact aq.bC aJ hcl (.refl _) Et hK
 have c1:¬ 0<di (n:Int) 4611686018427387903:=by have:=Ep (a:=(n:Int)) (b:=4611686018427387903) O;omega
 rw[VA hb]at hK;have w1:=Vv (((aF n).length:Int)-1) O;simp only[go_sem,c1,w1];refine W.aP 16769072 (by rfl) (fun ρ H'=>∃k X:Nat,ρ 5=aa ((k:Int)-1)/\ρ 4=aa X/\X=n / 10000 ^ k/\k<=(aF n).length/\H'=H) (fun ρ H=>(iv (ρ 5)+1).toNat) ?_ ?_
 ·simp only[go_sem];refine⟨(aF n).length,0,rfl,rfl,?_,O⟩;exact(Xb (by have:=pR (na n);rwa [lg]at this)).symm
 rintro ρ H' ⟨k,X,h5,h4,hX,hk,rfl⟩;refine W.vs ?_;by_cases hz:k=0
 ·subst hz;have z1:¬(0:Int)<=((0:Nat):Int)-1:=O
  simp only[YR,Zy]at hX;subst hX;simp only[go_sem,h5,h4];exact aq.bC aJ hcl (.refl _) Et hK
 obtain⟨j,rfl⟩:∃j,k=j+1:=⟨k-1,O⟩
 have ej:((j+1:Nat):Int)-1=(j:Int):=O
 rw[ej]at h5;have z1:(0:Int)<=(j:Int):=O
 have hd:=xm (n:=n) (k:=j) O;rw[WQ,<- X2]at hX;have hle:n / 10000 ^ j<=n:=YX _ _;obtain⟨Y,hY⟩:∃Y,Y=n / 10000 ^ j:=⟨_,rfl⟩
 rw[<- hY]at hd hX hle;obtain⟨c,hc⟩:∃c,c=Y % 10000:=⟨_,rfl⟩
 rw[<- hc]at hd;have w2:=Vv (10000*(X:Int)) O;have w3:=Vv (10000*(X:Int)+(c:Int)) O;have w4:=Vv ((j:Int)-1) O;have dn:¬aF n=[]:=by intro h;rw[h]at hd;simp at hd
 have z2:(j:Int)<(aF n).length:=O
 simp only[go_sem,h5,h4,z1,w2,hd,dn,z2,w3,w4];exact⟨⟨j,Y,rfl,by simp;omega,hY,O⟩,O⟩
def RO {a b:Nat}(h:a<=b):(aF a).length<=(aF b).length:=by
 rcases VV (aF b).length (aF a).length with h1|h1
 ·exact absurd (sG h1) (O)
 ·exact h1
end Go.Proofs.R01
namespace Go.Proofs.R01
open Go.Hx Tryz
variable {n:Int}
abbrev fK (n:Int):Prop:=-9223372036854775808<=n/\n<=9223372036854775807
def pT (h:fK n):(aF n.natAbs).length<=5:=qN (by
 have:(10000:Nat) ^ 5=100000000000000000000:=ZG
 have:=h.1;have:=h.2;omega)
def Eu {m:Int}(h:fK n)(h':fK m):(aF (n.natAbs*m.natAbs)).length<=10:=qN (by
 have e:(10000:Nat) ^ 10=10000 ^ 5*10000 ^ 5:=ZG
 rw[e];have:=Ai (pT h);have:=Ai (pT h');exact Nat.mul_lt_mul_of_lt_of_lt ‹_› ‹_›)
end Go.Proofs.R01
namespace Go.Proofs
open Go.Hx Tryz
def cu (l:List Int):List ZK:=l.map fun n=>.lit (.int .u8 n)
def ue {l:List Int}{k:Nat}{a:Int}(h:l[k]?=some a):(cu l)[k]?=some (.lit (.int .u8 a)):=by unfold cu;rw[List.getElem?_map,h];rfl
end Go.Proofs
