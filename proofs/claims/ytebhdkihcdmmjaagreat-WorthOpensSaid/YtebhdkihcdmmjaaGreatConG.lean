/- Own work: contracts. -/
import Derived.Test.YtebhdkihcdmmjaaGreatConF
import Derived.Test.YtebhdkihcdmmjaaGreatConE
import Derived.Test.YtebhdkihcdmmjaaGreatLibC
import Derived.Test.YtebhdkihcdmmjaaGreatConD
import Derived.Test.YtebhdkihcdmmjaaGreatLibB
import Derived.Test.YtebhdkihcdmmjaaGreatConB
set_option linter.all false
set_option maxHeartbeats 8000000
set_option maxRecDepth 100000
namespace Go.Proofs
open Go.Hx Tryz
variable {l:List Int}{out:List Nat}{k known v:Nat}{e:Nat->Prop}{x:nna}{d:nnb}
def IL (hx:d.F[v]?=some x):jE d v=x.J.length:=by unfold jE;rw[hx]
def WX (d:nnb)(cs:List nnn)(hq:nnh e d.F cs){a b:Nat}(ha:a<d.F.length)(hb:b<d.F.length)(H:nnl)(K:nnf->nnl->Prop)(hK:K (.ret (.lit (.bool (decide (jE d a<jE d b))))) H):af prog G0 85 [bH d cs,aa a,aa b] H K:=by
 refine af.nb ⟨_,func85,rfl,rfl⟩ fun hcl=>?_;obtain⟨x,hx⟩:=get_of_lt ha;obtain⟨y,hy⟩:=get_of_lt hb;have hne:=hq.ne hx;have c1:=hq.c1 hx;have c2:=hq.c1 hy;have hai:(a:Int)<d.F.length:=U
 have hbi:(b:Int)<d.F.length:=U
 have he:decide ((x.J.length:Int)<y.J.length)=decide (jE d a<jE d b):=by rw[IL hx,IL hy];exact decide_eq_decide.2 (U)
 refine af.sw (n:=22) (rs:=[.tmp 6]) func85 ?_;refine W.sq ?_;simp only[go_sem,fg,eN];obtain⟨R,hR⟩:∃R,R=ext H [.O 0 38 [.lit (.int .i64 d.nn),.L d.F.length cs,.lit (.int .u64 (d.nl:Int)),.L d.V.length (aH d.V)]]:=⟨_,rfl⟩
 have oR:nnd H R:=hR▸.ext _ _
 have l0:R.na H.C 0=some (38,[.lit (.int .i64 d.nn),.L d.F.length cs,.lit (.int .u64 (d.nl:Int)),.L d.V.length (aH d.V)]):=by rw[hR];exact ag (bY ..)
 rw[<- hR];clear hR;refine W.seq ?_;refine W.dr 14 [0,1,0,7,15,31,63,0,128,0,896,1920,3968,8064] mixed ?_;simp only[go_sem,l0,hne,c1,c2,hai,hbi];refine W.vs ?_;simp only[go_sem];have:=ar.bw (P:=prog) (G:=G0) (K:=K) (v:=.lit (.bool (decide ((x.J.length:Int)<y.J.length)))) aO hcl oR (.lit _) (by rw[he];exact hK);exact this
def IM {u:Nat}(h:l[k]?=some (u:Int)):bc (l.take (k+1))=bc (l.take k) |||2 ^ u:=by
 rw[aQ h];unfold bc;rw[Yn];rfl
def IN {n:Nat}(h:∀p∈l,0<=p/\p<n)(hn:n<=64)(k:Nat):bc (l.take k)<2 ^ 64:=by
 refine ZC _ fun i hi=>?_;rw[fU fun p hp=>(h p (Xz hp)).1];refine XL fun hm=>?_;have:=h _ (Xz hm);omega
def WY {done:Nat}(hv:(ay d)[k]?=some v)(h:iZ d known done v=false):cQ d known done (k+1)=cQ d known done k:=by
 conv=>lhs;unfold cQ
 simp only[hv];rw[W7 (by rw[h];simp)]
def WZ {done:Nat}(hv:(ay d)[k]?=some v)(h:iZ d known done v=true)(hb:cQ d known done k=none):cQ d known done (k+1)=some v:=by
 conv=>lhs;unfold cQ
 simp only[hv];rw[W8 h,hb]
def W0 {done b:Nat}(hv:(ay d)[k]?=some v)(h:iZ d known done v=true)(hb:cQ d known done k=some b):cQ d known done (k+1)=if jE d v<jE d b then some v else some b:=by
 conv=>lhs;unfold cQ
 simp only[hv];rw[W8 h,hb]
def W1 {f done:Nat}(hb:out.length<(ay d).length)(h:cQ d known done (ay d).length=none):fD d (f+1) known done out=none:=by
 unfold fD;rw[W8 hb,h]
def W2 {f done:Nat}(hb:out.length<(ay d).length)(h:cQ d known done (ay d).length=some v):fD d (f+1) known done out=fD d f (known |||(bp d v |||2 ^ v)) (done |||2 ^ v) (out++[v]):=by
 conv=>lhs;unfold fD
 rw[W8 hb,h]
def tG (v:nnn):Nat:=match v with
 |.Z _ _ _ n _=>n
 |_=>0
theorem aB.tG {lo:Nat}{H:nnl}{e:TypeId}{v:nnn}{cs:List nnn}(h:aB lo H e v cs):tG v=cs.length:=by
 rcases h with ⟨rfl,rfl⟩|⟨id,g,_,_,rfl,_⟩<;>rfl
def nJ (o:Option Nat):Int:=match o with
 |none=>-1
 |some v=>v
def Bh (d:nnb)(cs:List nnn)(hq:nnh e d.F cs)(hD:d.nl<2 ^ 64)(hn:nnq d)(H:nnl)(K:nnf->nnl->Prop)
  (hN:dX d=none->K (.ret (.nc [.lit (.slice none 0 0),.lit (.bool false)])) H) (hS:∀r,dX d=some r->K (.ret (.nc [ah (av r),.lit (.bool true)])) H):af prog G0 43 [bH d cs] H K:=by
 refine af.nb ⟨_,func43,rfl,rfl⟩ fun hcl=>?_;rw[<- WW hn]at hN hS;have n8:=hn.n1;have hdn:(ay d).length<=d.F.length:=mb;have hdl:(av (ay d)).length=(ay d).length:=by simp[av]
 refine af.sw (n:=120) (rs:=[.tmp 2,.tmp 3]) func43 ?_;refine W.sq ?_;simp only[go_sem,fg,eN];obtain⟨R,hR⟩:∃R,R=ext H [.O 0 38 [.lit (.int .i64 d.nn),.L d.F.length cs,.lit (.int .u64 (d.nl:Int)),.L d.V.length (aH d.V)]]:=⟨_,rfl⟩
 have oR:nnd H R:=hR▸.ext _ _
 have nR:R.C=H.C+1:=hR▸rfl
 have g0:=de hR
 rw[<- hR];clear hR;have l0:=ag g0;refine W.en (fun E=>E 1=.Y H.C 0 0) (by simp only[go_sem]) fun E e1=>?_
 refine W.sq ?_;simp only[go_sem,e1,l0];refine aC.nb (AL d cs hD U _ _ ⟨trivial,?_⟩);simp only[go_sem];refine W.sq ?_;simp only[go_sem];refine W.sq ?_;simp only[go_sem];refine W.env fun E1 hE1=>?_;have f1:E1 1=.Y H.C 0 0:=by rw[hE1];simp only[go_sem,e1]
 have f4:E1 4=ah (av (ay d)):=by rw[hE1];simp only[go_sem]
 have f5:E1 5=.lit (.slice none 0 0):=by rw[hE1];simp only[go_sem]
 have f6:E1 6=az 0:=by rw[hE1];simp only[go_sem,az]
 have f7:E1 7=az 0:=by rw[hE1];simp only[go_sem,az]
 clear hE1 e1;refine W.seq (W.block ?_);refine W.aM 664613997892457936451903530140123116 (by rfl) (fun ρ Hx=>∃(f known done:Nat) (out:List Nat) (ov:nnn),ρ 5=ov/\ρ 6=az known/\ρ 7=az done/\nnd R Hx/\aB R.C Hx 3 ov (ints (av out))/\RfS d known done out/\out.length+f=(ay d).length/\fD d f known done out=fD d (ay d).length 0 0 []) (fun ρ Hx=>(ay d).length-tG (ρ 5)) ?_ ?_
 ·simp only[go_sem,f5,f6,f7];exact⟨(ay d).length,0,0,[],_,rfl,rfl,rfl,.refl _,.nil,.start d,aaw,rfl⟩
 rintro ρ Hx ⟨f,known,done,out,ov,q5,q6,q7,ox,hO,hR,hf,hgo⟩;refine W.en (fun E2=>E2 1=.Y H.C 0 0 /\ E2 4=ah (av (ay d)) /\ E2 5=ov /\ E2 6=az known /\ E2 7=az done) (by simp only[go_sem,f1,f4,q5,q6,q7]) fun E2 ⟨g1,g4,g5,g6,g7⟩=>?_
 have oxn:=ox.C;have hol:(ints (av out)).length=out.length:=by simp[av,ints]
 have hlen:kE prog Hx 72 ov=some (aa out.length):=by
  rcases hO with ⟨h1,h2⟩|⟨id,g,_,_,h1,h2⟩
  ·rw[h2]at hol;have:out.length=0:=hol.symm;rw[h1,this];rfl
  ·rw[h1];simp only[go_sem];rw[ag h2];simp[av]
 have hon:=aB.tG hO;rw[hol]at hon;have hkl:=hR.lt;have hdlt:done<2 ^ 64:=by rw[<- hR.dec];exact Y4 ZJ hkl
 by_cases hb:(out.length:Int)<(ay d).length;rotate_left
 ·have hb':¬out.length<(ay d).length:=U
  have hres:fD d (ay d).length 0 0 []=some out:=by
   rw[<- hgo];cases f with
   |zero=>unfold fD;rw[W7 hb']
   |succ f=>unfold fD;rw[W7 hb']
  refine W.vs ?_;simp only[go_sem,g4,g5,hlen,hdl,hb];refine W.vs ?_;simp only[go_sem,g5];refine ar.bw (v':=.nc [ah (av out),.lit (.bool true)]) aO hcl (oR.trans ox) (.nc rfl fun i hi _=>?_) (hS out hres)
  match i,hi with
  |0,_=>exact hO.ep fun i h=>by have h:R.C<=i:=h;show H.C<=i;omega
  |1,_=>exact .lit _
 have hb':out.length<(ay d).length:=U
 obtain⟨f',rfl⟩:∃f',f=f'+1:=⟨f-1,U⟩
 have hx0:=ag ((ox.ng H.C U).trans g0);refine W.sq ?_;simp only[go_sem,g4,g5,hlen,hdl,hb];refine W.block ?_;refine W.sq ?_;simp only[go_sem];refine W.dI (fun s'=>s'.H=Hx/\s'.ρ 1=.Y H.C 0 0/\s'.ρ 4=ah (av (ay d))/\s'.ρ 5=ov/\s'.ρ 6=az known/\s'.ρ 7=az done/\s'.ρ 8=aa (nJ (cQ d known done (ay d).length))) ?_ ?_
 ·refine W.sq ?_;simp only[go_sem];refine W.block ?_;refine W.en (fun E3=>E3 1=.Y H.C 0 0 /\ E3 4=ah (av (ay d)) /\ E3 5=ov /\ E3 6=az known /\ E3 7=az done /\ E3 8=aa (-1) /\ E3 9=aa 0) (by simp only[go_sem,g1,g4,g5,g6,g7]) fun E3 ⟨a1,a4,a5,a6,a7,a8,a9⟩=>?_
  refine W.aM 4835703278458516696735488 (by rfl) (fun ρ2 Hy=>Hy=Hx/\∃i:Nat,ρ2 9=aa i/\i<=(ay d).length/\ρ2 8=aa (nJ (cQ d known done i))) (fun ρ2 H=>(ay d).length-(iv (ρ2 9)).toNat) ?_ ?_
  ·simp only[go_sem,a8,a9];exact⟨0,rfl,U,rfl⟩
  rintro ρ2 Hy ⟨rfl,i,q9,hi,q8⟩;refine W.en (fun E4=>E4 1=.Y H.C 0 0 /\ E4 4=ah (av (ay d)) /\ E4 5=ov /\ E4 6=az known /\ E4 7=az done /\ E4 8=aa (nJ (cQ d known done i)) /\ E4 9=aa i) (by simp only[go_sem,a1,a4,a5,a6,a7,q8,q9]) fun E4 ⟨b1,b4,b5,b6,b7,b8,b9⟩=>?_
  by_cases hib:(i:Int)<(ay d).length;rotate_left
  ·obtain rfl:i=(ay d).length:=U;refine W.vs ?_;simp only[go_sem,b1,b4,b5,b6,b7,b8,b9,hdl,hib]
  obtain⟨v,hv⟩:=get_of_lt (l:=ay d) (i:=i) U;have hvm:v∈ay d:=an hv;obtain⟨v1,v2⟩:=cL.1 hvm;obtain⟨x,hx⟩:=get_of_lt v1;have hps:=(hn.dec v x hx v2).2;have hpn:bp d v=bc x.J:=by unfold bp;rw[hx]
  have hdg:(ints (av (ay d)))[i]?=some (aa v):=by rw[gR];unfold av;rw[List.getElem?_map,hv];rfl
  have hdne:=aS hdg;have hne:=hq.ne hx;have hc1:=hq.c1 hx;have hvi:(v:Int)<d.F.length:=U
  have w1:=W6 ((i:Int)+1) U;have hps8:=hps.len;refine W.sq ?_;simp only[go_sem,b4,b9,hdl,hib];refine W.seq (W.block ?_);refine W.sq ?_;simp only[go_sem,b4,b9,hdl,hib,hdg,hdne];refine W.sq ?_;simp only[go_sem];refine W.en (fun E5=>E5 1=.Y H.C 0 0 /\ E5 4=ah (av (ay d)) /\ E5 5=ov /\ E5 6=az known /\ E5 7=az done /\ E5 8=aa (nJ (cQ d known done i)) /\ E5 9=aa i /\ E5 10=aa v /\ E5 11=az 0) (by simp only[go_sem,b1,b4,b5,b6,b7,b8,b9,az]) fun E5 ⟨c1,c4,c5,c6,c7,c8,c9,c10,c11⟩=>?_
  clear b1 b4 b5 b6 b7 b8 b9;refine W.dI (fun s'=>s'.H=Hy/\s'.ρ 1=.Y H.C 0 0/\s'.ρ 4=ah (av (ay d))/\s'.ρ 5=ov/\s'.ρ 6=az known/\s'.ρ 7=az done/\s'.ρ 8=aa (nJ (cQ d known done i))/\s'.ρ 9=aa i/\s'.ρ 10=aa v/\s'.ρ 11=az (bp d v)) ?_ ?_
  ·refine W.sq ?_;simp only[go_sem];refine W.block ?_;refine W.env fun E6 hE6=>?_;have d1:E6 1=.Y H.C 0 0:=(by rw[hE6];simp only[go_sem,c1]);have d4:E6 4=ah (av (ay d)):=(by rw[hE6];simp only[go_sem,c4]);have d5:E6 5=ov:=(by rw[hE6];simp only[go_sem,c5]);have d6:E6 6=az known:=(by rw[hE6];simp only[go_sem,c6]);have d7:E6 7=az done:=(by rw[hE6];simp only[go_sem,c7]);have d8:E6 8=aa (nJ (cQ d known done i)):=(by rw[hE6];simp only[go_sem,c8]);have d9:E6 9=aa i:=(by rw[hE6];simp only[go_sem,c9]);have d10:E6 10=aa v:=(by rw[hE6];simp only[go_sem,c10]);have d11:E6 11=az 0:=(by rw[hE6];simp only[go_sem,c11]);have d12:E6 12=aa 0:=(by rw[hE6];simp only[go_sem]);clear hE6;refine W.aM 18014396362004480 (by rfl) (fun ρ3 Hz=>Hz=Hy/\∃k:Nat,ρ3 12=aa k/\k<=x.J.length/\ρ3 11=az (bc (x.J.take k))) (fun ρ3 H=>x.J.length-(iv (ρ3 12)).toNat) ?_ ?_
   ·simp only[go_sem,d11,d12];exact⟨0,rfl,U,rfl⟩
   rintro ρ3 Hz ⟨rfl,k,q12,hk,q11⟩;refine W.env fun E7 hE7=>?_;have r1:E7 1=.Y H.C 0 0:=(by rw[hE7];simp only[go_sem,d1]);have r4:E7 4=ah (av (ay d)):=(by rw[hE7];simp only[go_sem,d4]);have r5:E7 5=ov:=(by rw[hE7];simp only[go_sem,d5]);have r6:E7 6=az known:=(by rw[hE7];simp only[go_sem,d6]);have r7:E7 7=az done:=(by rw[hE7];simp only[go_sem,d7]);have r8:E7 8=aa (nJ (cQ d known done i)):=(by rw[hE7];simp only[go_sem,d8]);have r9:E7 9=aa i:=(by rw[hE7];simp only[go_sem,d9]);have r10:E7 10=aa v:=(by rw[hE7];simp only[go_sem,d10]);have r11:E7 11=az (bc (x.J.take k)):=(by rw[hE7];simp only[go_sem,q11]);have r12:E7 12=aa k:=(by rw[hE7];simp only[go_sem,q12]);clear hE7;by_cases hkb:(k:Int)<x.J.length;rotate_left
   ·obtain rfl:k=x.J.length:=U;rw[W9 aaz,<- hpn]at r11;refine W.vs ?_;simp only[go_sem,r1,r4,r5,r6,r7,r8,r9,r10,r11,r12,hx0,hne,hc1,hvi,hkb]
   obtain⟨q,hqg⟩:=get_of_lt (l:=x.J) (i:=k) U;have hq0:=hps.2 q (an hqg);obtain⟨u,rfl⟩:=Xn hq0.1;have hqne:=aS hqg;have w2:=W6 ((k:Int)+1) U;have hu64:u<64:=U;have s1:=fun t x y=>fZ (P:=prog) (t:=t) (x:=x) (y:=y) (k':=.i64) (s:=u) hu64;have hsl:bc (x.J.take k)<2 ^ 64:=IN (n:=d.F.length) (fun p hp=>by have:=hps.2 p hp;omega) U k;have s2:=fun t x' y=>fj (P:=prog) (t:=t) (x:=x') (y:=y) (a:=bc (x.J.take k)) (b:=2 ^ u) hsl (XG aax hu64);rw[<- IM hqg]at s2;unfold az at r11;refine W.vs ?_;simp only[go_sem,r1,r10,r11,r12,hx0,hne,hc1,hvi,hkb,hqg,hqne,s1,s2,w2];exact⟨⟨k+1,rfl,U,rfl⟩,by rw[q12];simp only[aa,aI];omega⟩
  rintro⟨ρ4,Hq⟩ ⟨hH,d1,d4,d5,d6,d7,d8,d9,d10,d11⟩;simp only at hH d1 d4 d5 d6 d7 d8 d9 d10 d11;rw[hH];clear hH Hq c1 c4 c5 c6 c7 c8 c9 c10 c11;have hpl:=xj hn hvm;have s1:=fun t x y=>jz (P:=prog) (t:=t) (x:=x) (y:=y) (a:=known) (b:=bp d v);have s2:=fun t x y=>pq (P:=prog) (t:=t) (x:=x) (y:=y) (a:=bp d v) (b:=d.nl) hpl hD;have s3:=fun t x y=>jz (P:=prog) (t:=t) (x:=x) (y:=y) (a:=bp d v &&& d.nl) (b:=done);have hz1:(cN known (bp d v):Int)=0↔cN known (bp d v)=0:=U
  have hz2:(cN (bp d v &&& d.nl) done:Int)=0↔cN (bp d v &&& d.nl) done=0:=U
  unfold az at d6 d7 d11;have fin:∀o:Int,(nJ (cQ d known done (i+1))=o->True):=fun _ _=>trivial;by_cases hcc:iZ d known done v=true;rotate_left
  ·have hsucc:=WY hv (by simpa using hcc);refine W.vs ?_;simp only[go_sem,d7,d10];refine aC.nb (kh done v hdlt _ _ ⟨trivial,?_⟩);cases hz:done.testBit v with
   |true =>
    simp only[go_sem];refine W.vs ?_;simp only[go_sem,d8,d9,w1];exact⟨⟨i+1,rfl,U,by rw[hsucc]⟩,by rw[q9];simp only[aa,aI];omega⟩
   |false =>
    by_cases hk1:(cN known (bp d v):Int)=0
    ·have hk2:¬(cN (bp d v &&& d.nl) done:Int)=0:=fun h=>hcc (by unfold iZ;rw[hz,Xy (hz1.1 hk1),Xy (hz2.1 h)];rfl);simp only[go_sem,d1,d6,d7,d11,hx0,s1,s2,s3,hk1,hk2];refine W.vs ?_;simp only[go_sem,d8,d9,w1];exact⟨⟨i+1,rfl,U,by rw[hsucc]⟩,by rw[q9];simp only[aa,aI];omega⟩
    ·simp only[go_sem,d6,d11,s1,hk1];refine W.vs ?_;simp only[go_sem,d8,d9,w1];exact⟨⟨i+1,rfl,U,by rw[hsucc]⟩,by rw[q9];simp only[aa,aI];omega⟩
  have hcc2:=hcc;unfold iZ at hcc2;rw[Xv,Xv,X0,X0]at hcc2;have hz:done.testBit v=false:=by simpa using hcc2.1.1
  have hk1:=hz1.2 hcc2.1.2;have hk2:=hz2.2 hcc2.2;cases hrf:cQ d known done i with
  |none =>
   have hsucc:=WZ hv hcc hrf;rw[hrf]at d8;have d8':ρ4 8=.lit (.int .i64 (-1)):=d8;have hneg:(-1:Int)<0:=U;refine W.vs ?_;simp only[go_sem,d7,d10];refine aC.nb (kh done v hdlt _ _ ⟨trivial,?_⟩);simp only[go_sem,hz,d1,d6,d7,d8',d10,d11,hx0,s1,s2,s3,hk1,hk2,hneg];refine W.vs ?_;simp only[go_sem,d9,w1];exact⟨⟨i+1,rfl,U,by rw[hsucc];rfl⟩,by rw[q9];simp only[aa,aI];omega⟩
  |some b =>
   have hsucc:=W0 hv hcc hrf;rw[hrf]at d8;have d8':ρ4 8=.lit (.int .i64 (b:Int)):=d8;have hneg:¬(b:Int)<0:=U;have hbm:=(xg hrf).1;refine W.vs ?_;simp only[go_sem,d7,d10];refine aC.nb (kh done v hdlt _ _ ⟨trivial,?_⟩);simp only[go_sem,hz,d1,d6,d7,d8',d10,d11,hx0,s1,s2,s3,hk1,hk2,hneg];refine aC.nb (WX d cs hq v1 (cL.1 hbm).1 _ _ ⟨trivial,?_⟩);by_cases hlt:jE d v<jE d b
   ·rw[W8 hlt]at hsucc;rw[Xy hlt];simp only[go_sem,d10];refine W.vs ?_;simp only[go_sem,d9,w1];exact⟨⟨i+1,rfl,U,by rw[hsucc];rfl⟩,by rw[q9];simp only[aa,aI];omega⟩
   ·rw[W7 hlt]at hsucc;rw[XL hlt];simp only[go_sem];refine W.vs ?_;simp only[go_sem,d8',d9,w1];exact⟨⟨i+1,rfl,U,by rw[hsucc];rfl⟩,by rw[q9];simp only[aa,aI];omega⟩
 rintro⟨ρ1,Hq⟩ ⟨hH,t1,t4,t5,t6,t7,t8⟩;simp only at hH t1 t4 t5 t6 t7 t8;rw[hH];clear hH Hq g1 g4 g5 g6 g7;cases hrf:cQ d known done (ay d).length with
 |none =>
  have hgo':=(W1 hb' hrf).symm.trans hgo;rw[hrf]at t8;have t8':ρ1 8=.lit (.int .i64 (-1)):=t8;have hneg:(-1:Int)<0:=U
  refine W.vs ?_;simp only[go_sem,t8',hneg];refine ar.bw (v':=.nc [.lit (.slice none 0 0),.lit (.bool false)]) aO hcl (oR.trans ox) (.nc rfl fun i hi _=>?_) (hN hgo'.symm)
  match i,hi with
  |0,_=>exact .lit _
  |1,_=>exact .lit _
 |some v =>
  have hgo':=(W2 (f:=f') hb' hrf).symm.trans hgo;rw[hrf]at t8;have t8':ρ1 8=.lit (.int .i64 (v:Int)):=t8;have hneg:¬(v:Int)<0:=U
  obtain⟨hvm,hcc⟩:=xg hrf;have hrok:=(xk hn hvm hR.lt hR.dec).1 hcc;have hR':=hR.C hn hvm hrok;obtain⟨v1,v2⟩:=cL.1 hvm;obtain⟨x,hx⟩:=get_of_lt v1;have hps:=(hn.dec v x hx v2).2;have hpn:bp d v=bc x.J:=by unfold bp;rw[hx]
  have hne:=hq.ne hx;have hc1:=hq.c1 hx;have hvi:(v:Int)<d.F.length:=U
  have hps8:=hps.len;have hpl:=xj hn hvm;refine W.sq ?_;simp only[go_sem,t8',hneg];refine W.dI (fun s'=>s'.H=Hx/\s'.ρ 1=.Y H.C 0 0/\s'.ρ 4=ah (av (ay d))/\s'.ρ 5=ov/\s'.ρ 6=az (known |||bp d v)/\s'.ρ 7=az done/\s'.ρ 8=aa v) ?_ ?_
  ·refine W.sq ?_;simp only[go_sem];refine W.block ?_;refine W.env fun E6 hE6=>?_;have d1:E6 1=.Y H.C 0 0:=(by rw[hE6];simp only[go_sem,t1]);have d4:E6 4=ah (av (ay d)):=(by rw[hE6];simp only[go_sem,t4]);have d5:E6 5=ov:=(by rw[hE6];simp only[go_sem,t5]);have d6:E6 6=az known:=(by rw[hE6];simp only[go_sem,t6]);have d7:E6 7=az done:=(by rw[hE6];simp only[go_sem,t7]);have d8:E6 8=aa v:=(by rw[hE6];simp only[go_sem,t8']);have d13:E6 13=aa 0:=(by rw[hE6];simp only[go_sem]);clear hE6;refine W.aM 162259257486400249557511214997568 (by rfl) (fun ρ3 Hz=>Hz=Hx/\∃k:Nat,ρ3 13=aa k/\k<=x.J.length/\ρ3 6=az (known |||bc (x.J.take k))) (fun ρ3 H=>x.J.length-(iv (ρ3 13)).toNat) ?_ ?_
   ·simp only[go_sem,d6,d13];refine⟨0,rfl,U,?_⟩;have:bc (x.J.take 0)=0:=rfl;rw[this,Nat.or_zero]
   rintro ρ3 Hz ⟨rfl,k,q13,hk,q6⟩;refine W.env fun E7 hE7=>?_;have r1:E7 1=.Y H.C 0 0:=(by rw[hE7];simp only[go_sem,d1]);have r4:E7 4=ah (av (ay d)):=(by rw[hE7];simp only[go_sem,d4]);have r5:E7 5=ov:=(by rw[hE7];simp only[go_sem,d5]);have r6:E7 6=az (known |||bc (x.J.take k)):=(by rw[hE7];simp only[go_sem,q6]);have r7:E7 7=az done:=(by rw[hE7];simp only[go_sem,d7]);have r8:E7 8=aa v:=(by rw[hE7];simp only[go_sem,d8]);have r13:E7 13=aa k:=(by rw[hE7];simp only[go_sem,q13]);clear hE7;by_cases hkb:(k:Int)<x.J.length;rotate_left
   ·obtain rfl:k=x.J.length:=U;rw[W9 aaz,<- hpn]at r6;refine W.vs ?_;simp only[go_sem,r1,r4,r5,r6,r7,r8,r13,hx0,hne,hc1,hvi,hkb]
   obtain⟨q,hqg⟩:=get_of_lt (l:=x.J) (i:=k) U;have hq0:=hps.2 q (an hqg);obtain⟨u,rfl⟩:=Xn hq0.1;have hqne:=aS hqg;have w2:=W6 ((k:Int)+1) U;have hu64:u<64:=U;have s1:=fun t x y=>fZ (P:=prog) (t:=t) (x:=x) (y:=y) (k':=.i64) (s:=u) hu64;have hsl:bc (x.J.take k)<2 ^ 64:=IN (n:=d.F.length) (fun p hp=>by have:=hps.2 p hp;omega) U k;have s2:=fun t x' y=>fj (P:=prog) (t:=t) (x:=x') (y:=y) (a:=known |||bc (x.J.take k)) (b:=2 ^ u) (XV hkl hsl) (XG aax hu64);rw[Nat.or_assoc,<- IM hqg]at s2;unfold az at r6;refine W.vs ?_;simp only[go_sem,r1,r8,r6,r13,hx0,hne,hc1,hvi,hkb,hqg,hqne,s1,s2,w2];exact⟨⟨k+1,rfl,U,rfl⟩,by rw[q13];simp only[aa,aI];omega⟩
  rintro⟨ρ4,Hq⟩ ⟨hH,d1,d4,d5,d6,d7,d8⟩;simp only at hH d1 d4 d5 d6 d7 d8;rw[hH];clear hH Hq t1 t4 t5 t6 t7 t8 t8';have hv64:v<64:=U
  have s1:=fun t x y=>fZ (P:=prog) (t:=t) (x:=x) (y:=y) (k':=.i64) (s:=v) hv64;have hp2:2 ^ v<2 ^ 64:=XG aax hv64;have s2:=fun t x' y=>fj (P:=prog) (t:=t) (x:=x') (y:=y) (a:=known |||bp d v) (b:=2 ^ v) (XV hkl hpl) hp2;have s3:=fun t x' y=>fj (P:=prog) (t:=t) (x:=x') (y:=y) (a:=done) (b:=2 ^ v) hdlt hp2;rw[Nat.or_assoc]at s2;unfold az at d6 d7;obtain⟨v',H3,hA,ov3,hO3,n3,_⟩:=iW (v:Int) ox hO (by simp[av];omega);have h31:=hO3.one;have h3c:=hO3.cells;have hnat:av out++[(v:Int)]=av (out++[v]):=by simp[av]
  rw[hnat]at hO3;have hon3:=aB.tG hO3;have hol3:(ints (av (out++[v]))).length=out.length+1:=by simp[av,ints]
  rw[hol3]at hon3;refine W.vs ?_;simp only[go_sem,d5,d6,d7,d8,s1,s2,s3,hA];exact⟨by have:=ov3.C;omega,⟨f',_,_,out++[v],_,rfl,rfl,rfl,ov3,hO3,hR',by rw[List.length_append,X7];omega,hgo'⟩,by rw[hon3,q5,hon];omega⟩
def Vw (hn:nnq d)(hsz:aL (aE d.F)<=1024):bE d=eZ d fun _ _=>0:=by
 apply XQ;intro v;rcases Xu v d.F.length with hv|hv
 ·obtain⟨x,hx⟩:=get_of_lt hv;rw[oT hx,kq hx];unfold fW;by_cases hb:d.nl.testBit v=true
  ·obtain⟨x1,x2⟩:=hn.dec v x hx hb;have hc:=hn.Q x (an hx);rw[W8 ⟨hb,x1,hc.1,hc.2⟩,wM hx hb];have hle:=wg x2 hn.Q;rw[Fs (fun q hq=>by have:=x2.2 q hq;omega) hn.Q U,x1,List.nil_append];congr 2;unfold ei dk;rw[List.map_const',Ym]
  ·rw[W7 fun h=>hb h.1,o9 hb]
 ·rw[Xf (by rw[gK];exact hv),Xf (by rw[js];exact hv)]
def Bc (d:nnb)(v:Nat)(x:nna):(fW d v x).Q=x.Q/\(fW d v x).J=x.J:=by
 unfold fW;split<;>exact⟨rfl,rfl⟩
def Bd (d:nnb):aE (bE d)=aE d.F:=by
 apply XQ;intro v;unfold aE;rw[List.getElem?_map,List.getElem?_map];rcases Xu v d.F.length with hv|hv
 ·obtain⟨x,hx⟩:=get_of_lt hv;rw[oT hx,hx];simp[(Bc d v x).1]
 ·rw[Xf (by rw[gK];exact hv),Xf hv]
structure RightA (d:nnb):Prop where
 n1:1<=d.F.length/\d.F.length<=8
 nl:d.nl >>> d.F.length=0
 ul:d.V.length<=4
def Be (d:nnb)(k:Nat):Prop:=∀v x,v<k->d.F[v]?=some x->d.nl.testBit v=true->x.X=[]
def lk :nnj d↔RightA d/\Be d d.F.length/\nnw d.nn (bE d)/\∀u∈d.V,nnx d.F u:=by
 constructor
 ·intro h;refine⟨⟨h.n.n1,h.n.nl,h.V.1⟩,fun v x _ hx hb=>(h.n.dec v x hx hb).1,?_,h.V.2⟩;rw[TK h];exact h.nC
 ·rintro⟨ha,hd,hn,hu⟩;have hg:∀x∈d.F,(1<=x.Q/\x.Q<=4)/\bB x.J d.F.length:=fun x hx=>by
   obtain⟨v,hv⟩:=Xg.1 hx;have h1:=hn.node _ (an (oT hv));rw[(Bc d v x).1,(Bc d v x).2,gK]at h1;exact h1
  have hR:nnq d:=⟨ha.n1,ha.nl,fun x hx=>(hg x hx).1,fun v x hx hb=>⟨hd v x (get_lt hx) hx hb,(hg x (an hx)).2⟩⟩
  have hs:=hn.size;rw[Bd]at hs;exact⟨hR,by rw[<- Vw hR hs];exact hn,ha.ul,hu⟩
def Vx (hf:nnm d)(hx:x∈d.F):((fW d v x).J.length:Int)<2 ^ 38/\((fW d v x).X.length:Int)<2 ^ 38/\∀r∈(fW d v x).X,(r.length:Int)<2 ^ 38:=by
 obtain⟨h1,h2,h3⟩:=hf.F.2 x hx;unfold fW;split
 ·rename_i hc;have hr:=ta d.F x.J;refine⟨h1,by simp;omega,fun r hr=>?_⟩;rw[XW hr,tj];omega
 ·exact⟨h1,h2,h3⟩
def Gd (hf:nnm d):pe (bE d):=by
 refine⟨by rw[gK];exact hf.F.1,fun y hy=>?_⟩;obtain⟨v,hv⟩:=Xg.1 hy;have hl:=get_lt hv;rw[gK]at hl;obtain⟨x,hx⟩:=get_of_lt hl;rw[oT hx]at hv;cases hv;exact Vx hf (an hx)
def Ge (ns:List nna)(h8:ns.length <= 8)(hc:∀y ∈ ns,1 <= y.Q /\ y.Q <= 4)(u:nni)(f1:(u.vars.length:Int) < 2 ^ 38)(f2:(u.w.length:Int) < 2 ^ 38)(H:nnl)(K:nnf -> nnl -> Prop)(hK:K (.ret (.lit (.bool (jr (nnx ns u))))) H):
    af prog G0 83 [.agg u.cells,ah (aE ns)] H K := by
  refine af.nb ⟨_,func83,rfl,rfl⟩ fun hcl => ?_;have hcl':(aE ns).length=ns.length := by simp[aE]
  refine af.sw (n := 44) (rs := [.tmp 4]) func83 ?_;refine W.sq ?_;simp only[go_sem,nni.cells,cK];obtain⟨R,hR⟩:∃R,R=ext H [.O 0 87 [.L u.vars.length (ints u.vars),.L u.w.length (ints u.w)]] := ⟨_,rfl⟩
  have oR:nnd H R:=hR▸.ext _ _
  have l0:R.na H.C 0=some (87,[.L u.vars.length (ints u.vars),.L u.w.length (ints u.w)]) := by rw[hR];exact ag (bY ..)
  rw[<- hR];have no:¬nnx ns u -> ar prog G0 H K (.lit (.bool false)) R := fun h => ar.bw aO hcl oR (.lit _) (by rw[fX h]at hK;exact hK);refine W.env fun E hE => ?_;have e1:E 1=ah (aE ns) := by rw[hE];simp only[go_sem,cK]
  have e2:E 2 = .Y H.C 0 0 := by rw[hE];simp only[go_sem,cK]
  clear hE;obtain⟨b,hb⟩:∃b:Bool,(b=true ↔ ¬(bB u.vars ns.length /\ (u.w.length:Int)=aL (bb (aE ns) u.vars))) := by
    classical exact⟨decide _,X0⟩
  refine W.seq (W.dI (fun s' => s'.H=R /\ s'.ρ 2 = .Y H.C 0 0 /\ s'.ρ 22 = .lit (.bool b)) ?_ ?_)
  · refine W.dr 15 [0,1,0,4,15,31,63,127,255,511,127,127,2175,7295,15487] mixed ?_;simp only[go_sem,e1,e2,l0,hcl',cK];refine⟨_,[],cz.pure fun H2 => FR u.vars ns.length U H2 _ ⟨rfl,rfl⟩,?_⟩;by_cases c1:bB u.vars ns.length
    · have sm := wO h8 c1 hc;have wl := W6 (u.w.length:Int) U;simp only[go_sem,e1,e2,c1,l0,cK];refine⟨_,[],cz.pure fun H2 => FU (aE ns) u.vars U U (fun q hq => by have := c1.2 q hq;omega) H2 _ ⟨rfl,rfl⟩,?_⟩;simp only[go_sem,cK];refine⟨_,[],cz.pure fun H2 => AW _ sm H2 _ ⟨rfl,rfl⟩,?_⟩;by_cases c2:(u.w.length:Int)=aL (bb (aE ns) u.vars)
      · have:b=false :=(by rw[<- ZH,hb];exact fun h => h ⟨c1,c2⟩);simp only[go_sem,c2,cK];exact⟨e2,by rw[this]⟩
      · have:b=true := hb.2 fun h => c2 h.2;simp only[go_sem,c2,cK];exact⟨e2,by rw[this]⟩
    · have:b=true := hb.2 fun h => c1 h.1;simp only[go_sem,e1,e2,c1,l0,cK];rw[this]
  rintro⟨ρ3,H3⟩ ⟨hH,m2,m22⟩;simp only at hH m2 m22;rw[hH];clear hH H3;refine W.vs ?_;cases hbb:b;rotate_left
  · simp only[go_sem,m22,hbb,cK];exact no fun h => hb.1 hbb ⟨h.vars,h.size⟩
  have h12:bB u.vars ns.length /\ (u.w.length:Int)=aL (bb (aE ns) u.vars) := by
    apply Xw;intro h;rw[hb.2 h]at hbb;cases hbb
  simp only[go_sem,m22,hbb,cK];refine W.seq ?_;refine W.sq ?_;simp only[go_sem,cK];refine W.block ?_;refine W.env fun E1 hE1 => ?_;have g2:E1 2 = .Y H.C 0 0 := by rw[hE1];simp only[go_sem,m2,cK]
  have g5:E1 5=aa 0 := by rw[hE1];simp only[go_sem,cK]
  clear hE1;refine W.aM 17592177655856 (by rfl) (fun ρ Hx => Hx=R /\ ∃k:Nat,ρ 5=aa k /\ k <= u.w.length /\ ∀x ∈ u.w.take k,-100 <= x /\ x <= 100) (fun ρ H => u.w.length-(iv (ρ 5)).toNat) ?_ ?_
  · simp only[go_sem,g5,cK];exact⟨0,rfl,U,aaw⟩
  rintro ρ Hx ⟨rfl,k,h5,hk,hall⟩;refine W.env fun E2 hE2 => ?_;have a2:E2 2 = .Y H.C 0 0 := by rw[hE2];simp only[go_sem,g2,cK]
  have a5:E2 5=aa k := by rw[hE2];simp only[go_sem,h5,cK]
  clear hE2;refine W.vs ?_;by_cases hbk:(k:Int) < u.w.length;rotate_left
  · simp only[go_sem,a2,a5,l0,hbk,cK];refine W.vs ?_;simp only[go_sem,cK];rw[W9 U]at hall;rw[eO (⟨h12.1,h12.2,hall⟩:nnx ns u)]at hK;exact ar.bw aO hcl oR (.lit _) hK
  obtain⟨x,hx⟩ := get_of_lt (l := u.w) (i := k) U;have hne := aS hx;have w1 := W6 ((k:Int) + 1) U;by_cases c1:x < -100
  · simp only[go_sem,a2,a5,l0,hbk,hx,hne,c1,cK];exact no fun h => by have := h.w x (an hx);omega
  by_cases c2:100 < x
  · simp only[go_sem,a2,a5,l0,hbk,hx,hne,c1,c2,cK];exact no fun h => by have := h.w x (an hx);omega
  simp only[go_sem,a2,a5,l0,hbk,hx,hne,c1,c2,w1,cK];refine⟨⟨k + 1,rfl,U,fun y hy => ?_⟩,by rw[h5];simp only[aa,aI];omega⟩;rw[aQ hx]at hy;rcases Xt.1 hy with h |h
  · exact hall y h
  · obtain rfl := List.mem_singleton.1 h;omega
def xd {u:nni}:nnx (bE d) u↔nnx d.F u:=by
 constructor
 ·rintro⟨a,b,c⟩;rw[gK]at a;rw[Bd]at b;exact⟨a,b,c⟩
 ·rintro⟨a,b,c⟩;exact⟨by rw[gK];exact a,by rw[Bd];exact b,c⟩
def Vy (d:nnb)(cs:List nnn)(hq:nnh (fun v=>d.nl.testBit v=true) d.F cs)(hf:nnm d)(H:nnl)(K:nnf->nnl->Prop)(hK:K (.ret (.lit (.bool (jr (nnj d))))) H):af prog G0 42 [bH d cs] H K:=by
 refine af.nb ⟨_,func42,rfl,rfl⟩ fun hcl=>?_;have hl:=hf.F.1;have hul:=hf.V.1;refine af.sw (n:=73) (rs:=[.tmp 2]) func42 ?_;refine W.sq ?_;simp only[go_sem,fg,eN];obtain⟨R,hR⟩:∃R,R=ext H [.O 0 38 [.lit (.int .i64 d.nn),.L d.F.length cs,.lit (.int .u64 (d.nl:Int)),.L d.V.length (aH d.V)]]:=⟨_,rfl⟩
 have oR:nnd H R:=hR▸.ext _ _
 have nR:R.C=H.C+1:=hR▸rfl
 have l0:R.na H.C 0=some (38,[.lit (.int .i64 d.nn),.L d.F.length cs,.lit (.int .u64 (d.nl:Int)),.L d.V.length (aH d.V)]):=by rw[hR];exact ag (bY ..)
 rw[<- hR];clear hR;have no:¬nnj d->∀H',nnd R H'->ar prog G0 H K (.lit (.bool false)) H':=fun h H' o=>ar.bw aO hcl (oR.trans o) (.lit _) (by rw[fX h]at hK;exact hK);refine W.en (fun E=>E 1=.Y H.C 0 0) (by simp only[go_sem]) fun E e1=>?_
 have s1:=fun t x y=>lh (P:=prog) (t:=t) (x:=x) (y:=y) (k':=.i64) (s:=d.F.length) hf.nl;refine W.seq (W.dI (fun s'=>s'.H=R/\s'.ρ 1=.Y H.C 0 0/\∃b:Bool,s'.ρ 30=.lit (.bool b)/\(b=false↔RightA d)) ?_ ?_)
 ·refine W.vs ?_;by_cases c1:(d.F.length:Int)<1
  ·simp only[go_sem,e1,l0,c1];exact⟨_,rfl,by simp;intro h;have:=h.n1;omega⟩
  by_cases c2:(d.F.length:Int) > 8
  ·simp only[go_sem,e1,l0,c1,c2];exact⟨_,rfl,by simp;intro h;have:=h.n1;omega⟩
  by_cases c3:d.nl >>> d.F.length=0;rotate_left
  ·have c3':¬((d.nl >>> d.F.length:Nat):Int)=0:=U;simp only[go_sem,e1,l0,c1,c2,c3',s1];exact⟨_,rfl,by simp;intro h;exact c3 h.nl⟩
  have c3':((d.nl >>> d.F.length:Nat):Int)=0:=U
  by_cases c4:(d.V.length:Int) > 4
  ·simp only[go_sem,e1,l0,c1,c2,c3',c4,s1];exact⟨_,rfl,by simp;intro h;have:=h.ul;omega⟩
  ·simp only[go_sem,e1,l0,c1,c2,c3',c4,s1];exact⟨_,rfl,by simp;exact⟨U,c3,U⟩⟩
 rintro⟨ρ3,H3⟩ ⟨hH,m1,b,m30,hb⟩;simp only at hH m1 m30;rw[hH];clear hH H3;refine W.vs ?_;cases hbb:b;rotate_left
 ·simp only[go_sem,m30,hbb];exact no (fun h=>by rw[hb.2 (lk.1 h).1]at hbb;cases hbb) _ (.refl _)
 have hA:=hb.1 hbb;have n8:=hA.n1.2;simp only[go_sem,m30,hbb];refine W.en (fun E1=>E1 1=.Y H.C 0 0) (by simp only[go_sem,m1]) fun E1 f1=>?_
 clear m30 hbb hb;refine W.seq ?_;refine W.sq ?_;simp only[go_sem];refine W.block ?_;refine W.env fun E2 hE2=>?_;have g1:E2 1=.Y H.C 0 0:=by rw[hE2];simp only[go_sem,f1]
 have g3:E2 3=aa 0:=by rw[hE2];simp only[go_sem]
 clear hE2;refine W.aM 4503597479886860 (by rfl) (fun ρ Hx=>Hx=R/\∃k:Nat,ρ 3=aa k/\k<=d.F.length/\Be d k) (fun ρ H=>d.F.length-(iv (ρ 3)).toNat) ?_ ?_
 ·simp only[go_sem,g3];exact⟨0,rfl,U,fun v x h=>absurd h (Xo _)⟩
 rintro ρ Hx ⟨rfl,k,h3,hk,hD⟩;refine W.en (fun E2=>E2 1=.Y H.C 0 0 /\ E2 3=aa k) (by simp only[go_sem,g1,h3]) fun E2 ⟨a1,a3⟩=>?_
 refine W.vs ?_;by_cases hbk:(k:Int)<d.F.length
 ·obtain⟨x,hx⟩:=get_of_lt (l:=d.F) (i:=k) U;have hne:=hq.ne hx;obtain⟨rv,q0,q1,q2,hdis,_⟩:=hq.node k x hx;have rvl:∀H,ef H rv=some (.lit (.int .i64 x.X.length)):=fun H=>by
   rcases hdis with h|h<;>rw[h]
   ·rfl
   ·unfold aR;split
    ·rename_i h;rw[h];rfl
    ·rfl
  have w1:=W6 ((k:Int)+1) U;simp only[go_sem,a1,a3,l0,hbk];refine aC.nb (kh d.nl k hf.nl _ _ ⟨trivial,?_⟩);cases hbit:d.nl.testBit k
  ·simp only[go_sem,a3,w1];refine⟨⟨k+1,rfl,U,fun v y hv hy hb=>?_⟩,by rw[h3];simp only[aa,aI];omega⟩;rcases Xu v k with h|h
   ·exact hD v y h hy hb
   ·obtain rfl:v=k:=U;rw[hbit]at hb;cases hb
  ·by_cases hr0:x.X=[]
   ·have hr0':(x.X.length:Int)=0:=(by rw[hr0];rfl);simp only[go_sem,a1,a3,l0,w1,hbk,hne,q2,rvl,hr0'];refine⟨⟨k+1,rfl,U,fun v y hv hy hb=>?_⟩,by rw[h3];simp only[aa,aI];omega⟩;rcases Xu v k with h|h
    ·exact hD v y h hy hb
    ·obtain rfl:v=k:=U;rw[hx]at hy;cases hy;exact hr0
   ·have hr1:(0:Int)<x.X.length:=(by have:=Yd.2 hr0;omega);have hr1':0<x.X.length:=Yd.2 hr0;simp only[go_sem,a1,a3,l0,hbk,hne,q2,rvl,hr1];exact no (fun h=>hr0 ((lk.1 h).2.1 k x U hx hbit)) _ (.refl _)
 have hke:k=d.F.length:=U
 rw[hke]at hD;simp only[go_sem,a1,a3,l0,hbk];refine W.sq ?_;simp only[go_sem,a1,l0];refine aC.nb (TI d cs hq hf _ _ ⟨trivial,?_⟩);simp only[go_sem,bS,di];obtain⟨R2,hR2⟩:∃R2,R2=ext Hx [.O 0 90 [.lit (.int .i64 d.nn),.L (bE d).length (aG (bE d))]]:=⟨_,rfl⟩
 have o2:nnd Hx R2:=hR2▸.ext _ _
 have n2:R2.C=H.C+2:=by rw[hR2,bu];simp;omega
 have l2:R2.na (H.C+1) 0=some (90,[.lit (.int .i64 d.nn),.L (bE d).length (aG (bE d))]):=by rw[hR2,<- nR];exact ag bV
 have k0:R2.na H.C 0=_:=(o2.na U).trans l0;rw[<- hR2];clear hR2;refine W.en (fun E3=>E3 1=.Y H.C 0 0 /\ E3 4=.Y (H.C+1) 0 0) (by simp only[go_sem,a1,nR]) fun E3 ⟨b1,b4⟩=>?_
 refine W.seq (W.seq (nX _ _ _ (by rfl) ?_));simp only[go_sem,b4,l2];refine aC.nb (FY d.nn (bE d) (Gd hf) _ _ ⟨trivial,?_⟩);by_cases hnet:nnw d.nn (bE d);rotate_left
 ·have hnb:=tu hnet;simp only[go_sem,hnb];refine W.vs ?_;simp only[go_sem];exact no (fun h=>hnet (lk.1 h).2.2.1) _ o2
 have hnb:=tt hnet;simp only[go_sem,hnb];refine W.vs ?_;simp only[go_sem];refine W.en (fun E4=>E4 1=.Y H.C 0 0 /\ E4 4=.Y (H.C+1) 0 0) (by simp only[go_sem,b1,b4]) fun E4 ⟨c1,c4⟩=>?_
 have hc4:∀y∈bE d,1<=y.Q/\y.Q<=4:=fun y hy=>(hnet.node y hy).1;have h8:(bE d).length<=8:=hnet.n1.2;refine W.seq ?_;refine W.sq ?_;simp only[go_sem];refine W.block ?_;refine W.env fun E5 hE5=>?_;have d1:E5 1=.Y H.C 0 0:=by rw[hE5];simp only[go_sem,c1]
 have d4:E5 4=.Y (H.C+1) 0 0:=by rw[hE5];simp only[go_sem,c4]
 have d5:E5 5=aa 0:=by rw[hE5];simp only[go_sem]
 clear hE5;refine W.aM 9444588850551214571556 (by rfl) (fun ρ Hy=>Hy=R2/\∃j:Nat,ρ 5=aa j/\j<=d.V.length/\∀u∈d.V.take j,nnx d.F u) (fun ρ H=>d.V.length-(iv (ρ 5)).toNat) ?_ ?_
 ·simp only[go_sem,d5];exact⟨0,rfl,U,aaw⟩
 rintro ρ2 Hy ⟨rfl,j,h5,hj,hall⟩;refine W.en (fun E6=>E6 1=.Y H.C 0 0 /\ E6 4=.Y (H.C+1) 0 0 /\ E6 5=aa j) (by simp only[go_sem,d1,d4,h5]) fun E6 ⟨q1,q4,q5⟩=>?_
 by_cases hbj:(j:Int)<d.V.length;rotate_left
 ·refine W.vs ?_;simp only[go_sem,q1,q5,k0,hbj];refine W.vs ?_;simp only[go_sem];rw[W9 U]at hall;rw[eO (lk.2 ⟨hA,hD,hnet,hall⟩)]at hK;exact ar.bw aO hcl (oR.trans o2) (.lit _) hK
 obtain⟨u,hu⟩:=get_of_lt (l:=d.V) (i:=j) U;obtain⟨f1',f2'⟩:=hf.V.2 u (an hu);have hne:=qR hu;have p0:=vV hu;have p1:j*2+2<=(aH d.V).length:=by rw[kV];omega
 have w1:=W6 ((j:Int)+1) U;refine W.sq ?_;simp only[go_sem,q1,q5,k0,hbj];refine W.seq (W.block (W.seq ?_));refine W.dr 7 [0,1,0,7,15,0,32] mixed ?_;simp only[go_sem,q1,q4,q5,k0,l2,hbj,hne,p0,p1];refine⟨_,[],cz.pure fun H2=>wQ d.nn (bE d) U H2 _ ⟨rfl,rfl⟩,?_⟩;simp only[go_sem];refine aC.nb (Ge (bE d) h8 hc4 u f1' f2' _ _ ⟨trivial,?_⟩);by_cases hu1:nnx (bE d) u
 ·have hub:=eO hu1;simp only[go_sem,hub];refine W.vs ?_;simp only[go_sem];refine W.vs ?_;simp only[go_sem,q5,w1];refine⟨⟨j+1,rfl,U,fun y hy=>?_⟩,by rw[h5];simp only[aa,aI];omega⟩;rw[aQ hu]at hy;rcases Xt.1 hy with h|h
  ·exact hall y h
  ·obtain rfl:=List.mem_singleton.1 h;exact xd.1 hu1
 ·have hub:=fX hu1;simp only[go_sem,hub];refine W.vs ?_;simp only[go_sem];exact no (fun h=>hu1 (xd.2 ((lk.1 h).2.2.2 u (an hu)))) _ o2
end Go.Proofs
namespace Go.Hx
variable {P:Program} {G:Nat->Option (List nnn)}
variable {b:Blk}{hid n ob:Nat}{e:TypeId}
def nnl.nr (H:nnl)(hid:Nat):nnl:=⟨fun j=>if j<H.C/\j≠hid then H.get j else none,H.C⟩
variable {H:nnl}
def FJ {j:Nat}(h:j<H.C)(h2:j≠hid):(H.nr hid).get j=H.get j:=W8 ⟨h,h2⟩
theorem ar.nr {H2:nnl}(hG:dS G)(hc:Clo H)(ng:∀j,j<H.C->j≠hid->H2.get j=H.get j){K:nnf->nnl->Prop}{v v':nnn}(hv:Fz (fun j=>H.C<=j\/j=hid) H2 H.C v v')(hk:K (.ret v') (H.nr hid)):ar P G H K v H2:=by
 refine⟨v',H.nr hid,.freeze hG (S:=fun j=>H.C<=j\/j=hid) ⟨fun j hj=>?_,fun j b hj hb=>?_,fun j hj hn=>?_⟩ hv,aaz,hk⟩
 ·exact W7 fun h=>hj.elim (fun h2=>U) h.2
 ·have h1:j<H.C:=Yu fun h=>hj (.inl h);have h2:j≠hid:=fun h=>hj (.inr h);rw[ng j h1 h2]at hb;have hbb:=hc.below j b hb;refine⟨h1,b,(FJ h1 h2).trans hb,?_⟩;cases b with
  |nj=>trivial
  |mp=>rfl
  |O g e cells=>exact⟨rfl,rfl,rfl,fun i h _=>.dead (hbb i h)⟩
  |loop st pend n env ps asg body=>exact⟨rfl,rfl,rfl,rfl,rfl,rfl,rfl,fun t ht=>.dead (hbb t ht)⟩
 ·show (if j<H.C/\j≠hid then H.get j else none)=none;split
  ·rename_i h;rw[<- ng j h.1 h.2];exact hn
  ·rfl
def nnl.iA (H:nnl)(n hid ob:Nat)(b:Blk):nnl:=⟨fun id=>if n<=id\/id=hid then none else if id=ob then some b else H.get id,H.C⟩
def T7 (h:ob<n)(h2:ob≠hid):(H.iA n hid ob b).get ob=some b:=by simp[nnl.iA,ZX.2 h,h2]
def T8 {id:Nat}(h:id<n)(h1:id≠hid)(h2:id≠ob):(H.iA n hid ob b).get id=H.get id:=by simp[nnl.iA,ZX.2 h,h1,h2]
theorem cF.iA (hG:dS G){s:St}{g:Nat}{cells cells':List nnn}(hob:s.H.get ob=some (.O g e cells))(hlt:ob<n)(hl:cells'.length=cells.length)
  (hcell:∀i (h:i<cells.length) (h':i<cells'.length),Fz (fun id=>n<=id\/id=hid) s.H s.H.C cells[i] cells'[i]):cF P G s ⟨s.ρ,s.H.iA n hid ob (.O g e cells')⟩:=by
 intro n' wb Γ a w hs;have hc:=hs.heap.nb;refine cF.freeze (s:=s) (s':=⟨s.ρ,s.H.iA n hid ob (.O g e cells')⟩) (S:=fun id=>n<=id\/id=hid) hG ⟨fun id hs=>?_,fun id b hs hb=>?_,fun id hs hb=>?_⟩ (fun t=>.dead (hs.env t).qj) n' wb Γ a w hs
 ·simp[nnl.iA,hs]
 ·have hbb:=hc.below id b hb;refine⟨hc.lt id b hb,?_⟩;by_cases h:id=ob
  ·subst h;rw[hob]at hb;cases hb;exact⟨.O g e cells',by simp[nnl.iA,hs],rfl,rfl,hl,hcell⟩
  ·refine⟨b,by simp[nnl.iA,hs,h,hb],?_⟩;cases b with
   |nj=>trivial
   |mp=>rfl
   |O g e cells=>exact⟨rfl,rfl,rfl,fun i h _=>.dead (hbb i h)⟩
   |loop st pend n env ps asg body=>exact⟨rfl,rfl,rfl,rfl,rfl,rfl,rfl,fun t ht=>.dead (hbb t ht)⟩
 ·by_cases h:id=ob
  ·subst h;rw[hob]at hb;cases hb
  ·simp[nnl.iA,hs,h,hb]
def T9 {t:TypeId}{i g len:Nat}{x:nnn}{cs:List nnn}{z:List nnn}(ht:P.underlying t=some (.slice e))(hz:P.cellsOf e=1)(hzero:bC P e=some z)(hx:x.one=true)
  (hb:(len+1)*P.bytesOf e<=2 ^ 47/\len+1<=2 ^ 47) (hi:i<H.C) (hg:H.get i=some (.O g e cs)) (hl:len=cs.length):
  bh P (ext H [.O 0 e [x]]) n t t (.Z i g 0 len 1) (.Z H.C 0 0 1 1)=some (.Z i (g+1) 0 (len+1) 1,(ext H [.O 0 e [x]]).upd i (.O (g+1) e (cs++[x]))):=by
 subst hl;have hsrc:bU (ext H [.O 0 e [x]]) 1 (.Z H.C 0 0 1 1)=some (1,[x]):=by
  unfold bU;have:=ag (H:=ext H [.O 0 e [x]]) (g:=0) (bV (b:=.O 0 e [x]));simp[this]
 have h4':(ext H [.O 0 e [x]]).get i=some (.O g e cs):=by rw[cH hi];exact hg
 unfold bh;rw[ht];have hl:=ag h4';simp only[hzero,hz,Option.bind_some,hsrc,hl];rw[W8 ⟨trivial,trivial,U,hb.1,hb.2,by simp[hx]⟩];simp
end Go.Hx
namespace Go.Proofs
open Go.Hx Tryz
variable {a c g n r:Int}{ns:List nna}{cs:List nnn}{A id m:Nat}{x x' xh:nna}{d:nnb}{H:nnl}
def Ua (d:nnb)(A hid hg:Nat)(xh:nna)(hxh:d.F[A]?=some xh)(hrh:xh.X=[])(hbA:d.nl.testBit A=true)(cs:List nnn)(hcs:cs=aT d.F A (aa xh.Q) (ah xh.J) (.Z hid hg 0 0 1))(hf:nnm d)(H:nnl)(hch:1<=xh.Q/\xh.Q<=4)(hidl:hid<H.C)(hgh:H.get hid=some (.O hg 72 []))(K:nnf->nnl->Prop)(hK:K (.ret (bS d.nn (bE d))) (H.nr hid)):af prog G0 81 [bH d cs] H K:=by
 refine af.nb ⟨_,func81,rfl,rfl⟩ fun hcl=>?_;have hl:=hf.F.1;have hAl:=get_lt hxh;have hneC:¬cs=[]:=by rw[hcs];exact z9 hAl _ _ _
 have hlenC:cs.length=d.F.length*3:=by rw[hcs];exact dV ..
 have cC:∀(v:Nat) (x:nna),d.F[v]?=some x->∃rv,cs[v*3]?=some (aa x.Q)/\cs[v*3+1]?=some (ah x.J)/\cs[v*3+2]?=some rv/\(v≠A->rv=aR x)/\(v=A->rv=.Z hid hg 0 0 1):=fun v x hx=>by
  by_cases hv:v=A
  ·subst hv;rw[hxh]at hx;cases hx;exact⟨_,by rw[hcs];exact oz hAl _ _ _,by rw[hcs];exact qJ hAl _ _ _,by rw[hcs];exact lU hAl _ _ _,fun h=>absurd rfl h,fun _=>rfl⟩
  ·exact⟨_,by rw[hcs,kT U U U];exact iR hx,by rw[hcs,kT U U U];exact jn hx,by rw[hcs,kT U U U];exact ka hx,fun _=>rfl,fun h=>absurd h hv⟩
 have pC:∀(v:Nat) (x:nna),d.F[v]?=some x->∃rv,(cs.drop (v*3)).take 3=[aa x.Q,ah x.J,rv]/\(v≠A->rv=aR x)/\(v=A->rv=.Z hid hg 0 0 1):=fun v x hx=>by
  obtain⟨rv,a,b,c,d,f⟩:=cC v x hx;refine⟨rv,?_,d,f⟩;have h3:=get_lt c;rw[XS U,XS U,XS U];simp only[List.take_succ_cons,List.take_zero];rw[W5 U]at a b c;rw[Option.some.inj a,Option.some.inj b,Option.some.inj c]
 clear hcs;refine af.st (n:=106) (rs:=[.cell 2 90]) func81 ?_;simp only[go_sem,fg,eN];obtain⟨Hb,hHb⟩:∃Hb,Hb=ext H [.O 0 38 [.lit (.int .i64 d.nn),.L d.F.length cs,.lit (.int .u64 (d.nl:Int)),.L d.V.length (aH d.V)],.O 0 90 [.lit (.int .i64 0),.lit (.slice none 0 0)],.O 0 90 [.lit (.int .i64 d.nn),.lit (.slice none 0 0)]]:=⟨_,rfl⟩
 rw[<- hHb];have g0:=de hHb
 have g1:=gE hHb 1 rfl
 have g2:=gE hHb 2 rfl
 have nb:Hb.C=H.C+3:=hHb▸rfl
 have ob:nnd H Hb:=hHb▸.ext _ _
 clear hHb;refine W.aM 40564819207303340847894502557680 (by rfl) (fun ρ Hx=>∃(k:Nat) (nh:nnn) (ks:List nnn),ρ 4=aa k/\k<=d.F.length/\Hb.C<=Hx.C/\(∀id,id<H.C+2->id≠hid->Hx.get id=Hb.get id)/\(k<=A->Hx.get hid=some (.O hg 72 []))/\Hx.get (H.C+2)=some (.O 0 90 [.lit (.int .i64 d.nn),nh])/\bI (H.C+3) Hx 76 3 nh k ks/\nnh (fun _=>False) ((bE d).take k) ks) (fun ρ H=>d.F.length-(iv (ρ 4)).toNat) ?_ ?_
 ·simp only[go_sem];exact⟨0,_,[],rfl,U,fun _=>(ob.ng hid hidl).trans hgh,g2,.nil,.nil⟩
 rintro ρ Hx ⟨k,nh,ks,h4,hk,hnx,hold,hhol,hbn,hO,hQ⟩;refine W.en (fun E=>E 1=.Y H.C 0 0 /\ E 2=.Y (H.C+1) 0 0 /\ E 3=.Y (H.C+2) 0 0 /\ E 4=aa k) (by simp only[go_sem,h4]) fun E ⟨e1,e2,e3,e4⟩=>?_
 refine W.vs ?_;have l0:=ag ((hold H.C U U).trans g0);by_cases hb:(k:Int)<d.F.length
 ·obtain⟨x,hx⟩:=get_of_lt (l:=d.F) (i:=k) U;obtain⟨f1,f2,f3⟩:=hf.F.2 x (an hx);have hne:=hneC;obtain⟨rv,c0,hdE,hdA⟩:=pC k x hx;have c1:k*3+3<=cs.length:=by rw[hlenC];omega
  have w1:=W6 ((k:Int)+1) U;have rvo:rv.one=true:=by
   by_cases h:k=A
   ·rw[hdA h];rfl
   ·rw[hdE h];unfold aR;split<;>rfl
  have rvc:rv.cells=[rv]:=by
   by_cases h:k=A
   ·rw[hdA h];rfl
   ·rw[hdE h];unfold aR;split<;>rfl
  have w1:=W6 ((k:Int)+1) U;have step:∀(Hq:nnl) (rq:nnn) (y:nna),fW d k x=y->y.Q=x.Q->y.J=x.J->(rq=aD y.X\/rq=aR y)->Hx.C<Hq.C->(∀id,id<Hx.C->id≠hid->Hq.get id=Hx.get id)->(k+1<=A->Hq.get hid=some (.O hg 72 [])) ->
    ∃nh2 H3,bh prog (ext Hq [.O 0 76 [.lit (.int .i64 x.Q),.L x.J.length (ints x.J),rq]]) (Hq.C+1) 35 35 nh (.Z Hq.C 0 0 1 3)=some (nh2,H3)/\nh2.cells=[nh2]/\nh2.one=true/\H3.na (H.C+2) 0=some (90,[.lit (.int .i64 d.nn),nh]) /\
     ∀b,b=.O 0 90 [.lit (.int .i64 d.nn),nh2]->Hb.C<=(H3.upd (H.C+2) b).C/\(∀id,id<H.C+2->id≠hid->(H3.upd (H.C+2) b).get id=Hb.get id)/\(k+1<=A->(H3.upd (H.C+2) b).get hid=some (.O hg 72 []))/\(H3.upd (H.C+2) b).get (H.C+2)=some (.O 0 90 [.lit (.int .i64 d.nn),nh2])/\bI (H.C+3) (H3.upd (H.C+2) b) 76 3 nh2 (k+1) (ks++[.lit (.int .i64 x.Q),.L x.J.length (ints x.J),rq])/\nnh (fun _=>False) ((bE d).take (k+1)) (ks++[.lit (.int .i64 x.Q),.L x.J.length (ints x.J),rq]):=by
   intro Hq rq y hy y1 y2 hrq hqn hqo hqh;have hOq:bI (H.C+3) Hq 76 3 nh k ks:=hO.nf U fun id g _ h _=>hqo id h U;have rqo:rq.one=true:=by rcases hrq with h|h<;>rw[h]<;>first|rfl|(unfold aR;split<;>rfl)
   obtain⟨nh2,H3,hA,hO3,hn3,hp3⟩:=mj (P:=prog) (xs:=[.lit (.int .i64 x.Q),.L x.J.length (ints x.J),rq]) Tryz.underlying35 Tryz.oD Tryz.oF (by simp only[List.all_cons,List.all_nil,rqo];rfl) rfl (by rw[Tryz.oE];omega) hOq U rfl;have nf:∀id,id<H.C+3->id≠hid->H3.get id=Hx.get id:=fun id h h'=>(hp3 id U (hOq.ne h)).trans (hqo id U h');refine⟨nh2,H3,hA,hO3.cells,hO3.one,ag ((nf _ U U).trans hbn),fun b hb=>⟨by rw[aw];omega,fun id h h'=>by rw[ae,W7 U,nf id U h'];exact hold id h h',fun h=>by rw[ae,W7 U,hp3 hid U (hOq.ne U)];exact hqh h,by rw[ae,W8 rfl,hb],?_⟩⟩;have e:nnh (fun _=>False) ((bE d).take (k+1)) (ks++[.lit (.int .i64 x.Q),.L x.J.length (ints x.J),rq]):=by
    rw[aQ (oT hx),hy];have:=hQ.snoc (x:=y) (rv:=rq) hrq fun h=>h.elim;rw[y1,y2]at this;exact this
   refine⟨?_,e⟩;exact hO3.nf (by rw[aw];omega) fun id g h1 _ _=>by rw[ae,W7 U]
  obtain⟨Hp,hHp⟩:∃Hp,Hp=ext Hx [.O 0 76 [.lit (.int .i64 x.Q),.L x.J.length (ints x.J),rv]]:=⟨_,rfl⟩
  have np:Hp.C=Hx.C+1:=hHp▸rfl
  have gP:=de hHp
  have pold:∀id,id<Hx.C->Hp.get id=Hx.get id:=fun id h=>by rw[hHp];exact cH h
  have m0:=ag ((pold H.C U).trans ((hold H.C U U).trans g0));have m2:=ag ((pold (H.C+2) U).trans hbn);have mP:=ag gP;simp only[go_sem,e1,e4,l0,hb,hne,c0,c1,rvo];rw[<- hHp];simp only[go_sem,m0,e4];refine aC.nb (kh d.nl k hf.nl _ _ ⟨trivial,?_⟩);have lrv:ef Hp rv=some (.lit (.int .i64 x.X.length)):=by
   by_cases h:k=A
   ·obtain rfl:x=xh:=(by rw[h,hxh]at hx;exact(Option.some.inj hx).symm);rw[hdA h,hrh];have hlv:=ag ((pold hid U).trans (hhol U));unfold ef;simp[hlv]
   ·rw[hdE h];unfold aR;split
    ·rename_i h;rw[h];rfl
    ·rfl
  have no : ¬ (d.nl.testBit k=true∧x.X=[]∧1≤x.Q∧x.Q≤4)→∃ nh2 H3,bh prog (ext Hp [.O 0 76 [.lit (.int .i64 x.Q),.L x.J.length (ints x.J),rv]]) (Hp.C+1) 35 35 nh (.Z Hp.C 0 0 1 3)=some (nh2,H3)∧nh2.cells=[nh2]∧nh2.one=true∧H3.na (H.C+2) 0=some (90,[.lit (.int .i64 d.nn),nh]) ∧
     ∀b,b=.O 0 90 [.lit (.int .i64 d.nn),nh2]->Hb.C<=(H3.upd (H.C+2) b).C/\(∀id,id<H.C+2->id≠hid->(H3.upd (H.C+2) b).get id=Hb.get id)/\(k+1<=A->(H3.upd (H.C+2) b).get hid=some (.O hg 72 []))/\(H3.upd (H.C+2) b).get (H.C+2)=some (.O 0 90 [.lit (.int .i64 d.nn),nh2])/\bI (H.C+3) (H3.upd (H.C+2) b) 76 3 nh2 (k+1) (ks++[.lit (.int .i64 x.Q),.L x.J.length (ints x.J),rv])/\nnh (fun _=>False) ((bE d).take (k+1)) (ks++[.lit (.int .i64 x.Q),.L x.J.length (ints x.J),rv]):=fun h =>
   step Hp rv x (W7 h) rfl rfl (.inr (hdE fun hk=>h (by
    obtain rfl:x=xh:=(by rw[hk,hxh]at hx;exact(Option.some.inj hx).symm);exact⟨by rw[hk];exact hbA,hrh,hch.1,hch.2⟩))) U (fun id h _=>pold id h) fun h=>(pold hid U).trans (hhol U)
  cases hbit:d.nl.testBit k
  ·obtain⟨nh2,H3,hA,nc,no1,ln,st⟩:=no fun h=>by rw[hbit]at h;cases h.1
   simp only[go_sem,e3,e4,m2,mP,hA,nc,no1,ln,w1];exact⟨(st _ rfl).1,⟨k+1,nh2,_,rfl,U,(st _ rfl).1,(st _ rfl).2.1,(st _ rfl).2.2.1,(st _ rfl).2.2.2.1,(st _ rfl).2.2.2.2.1,(st _ rfl).2.2.2.2.2⟩,by rw[h4];simp only[aa,aI];omega⟩
  by_cases hr0:x.X=[]
  rotate_left
  ·obtain⟨nh2,H3,hA,nc,no1,ln,st⟩:=no fun h=>hr0 h.2.1;have hr0':¬(x.X.length:Int)=0:=fun h=>hr0 (Xc U);simp only[go_sem,e3,e4,m2,mP,lrv,hr0',hA,nc,no1,ln,w1];exact⟨(st _ rfl).1,⟨k+1,nh2,_,rfl,U,(st _ rfl).1,(st _ rfl).2.1,(st _ rfl).2.2.1,(st _ rfl).2.2.2.1,(st _ rfl).2.2.2.2.1,(st _ rfl).2.2.2.2.2⟩,by rw[h4];simp only[aa,aI];omega⟩
  have hr0':(x.X.length:Int)=0:=by rw[hr0];rfl
  by_cases hc1:x.Q >= 1;rotate_left
  ·obtain⟨nh2,H3,hA,nc,no1,ln,st⟩:=no fun h=>hc1 h.2.2.1;simp only[go_sem,e3,e4,m2,mP,lrv,hr0',hc1,hA,nc,no1,ln,w1];exact⟨(st _ rfl).1,⟨k+1,nh2,_,rfl,U,(st _ rfl).1,(st _ rfl).2.1,(st _ rfl).2.2.1,(st _ rfl).2.2.2.1,(st _ rfl).2.2.2.2.1,(st _ rfl).2.2.2.2.2⟩,by rw[h4];simp only[aa,aI];omega⟩
  by_cases hc4:x.Q<=4;rotate_left
  ·obtain⟨nh2,H3,hA,nc,no1,ln,st⟩:=no fun h=>hc4 h.2.2.2;simp only[go_sem,e3,e4,m2,mP,lrv,hr0',hc1,hc4,hA,nc,no1,ln,w1];exact⟨(st _ rfl).1,⟨k+1,nh2,_,rfl,U,(st _ rfl).1,(st _ rfl).2.1,(st _ rfl).2.2.1,(st _ rfl).2.2.2.1,(st _ rfl).2.2.2.2.1,(st _ rfl).2.2.2.2.2⟩,by rw[h4];simp only[aa,aI];omega⟩
  clear no;simp only[go_sem,mP,lrv,hr0',hc1,hc4];refine W.aM 2417851639158889605235136 (by rfl) (fun ρ2 Hq=>Hq=Hp/\∃j:Nat,ρ2 7=aa j/\j<=x.J.length/\ρ2 6=aa (eE d.F (x.J.take j))) (fun ρ2 H=>x.J.length-(iv (ρ2 7)).toNat) ?_ ?_
  ·simp only[go_sem];exact⟨0,rfl,U,rfl⟩
  rintro ρ2 Hq ⟨hHq,j,h7,hj,h6⟩;subst hHq;refine W.en (fun E2=>E2 1=.Y H.C 0 0 /\ E2 2=.Y (H.C+1) 0 0 /\ E2 3=.Y (H.C+2) 0 0 /\ E2 4=aa k /\ E2 5=.Y Hx.C 0 0 /\ E2 6=aa (eE d.F (x.J.take j)) /\ E2 7=aa j) (by simp only[go_sem,e1,e2,e3,e4,h6,h7]) fun E2 ⟨f1,f2,f3,f4,f5,f6,f7⟩=>?_
  refine W.vs ?_;by_cases hb2:(j:Int)<x.J.length
  ·obtain⟨q,hq⟩:=get_of_lt (l:=x.J) (i:=j) U;have hqne:=aS hq;have hs:=AG d.F (x.J.take j) q;rw[<- aQ hq]at hs;have hrr:=ta d.F (x.J.take j);have w2:=W6 ((j:Int)+1) U;unfold kY at hs;by_cases q0:q >= 0;rotate_left
   ·rw[W7 (fun h=>q0 h.1)]at hs;simp only[go_sem,f5,f6,f7,mP,hb2,hq,hqne,q0,w2];exact⟨⟨j+1,rfl,U,by rw[hs]⟩,by rw[h7];simp only[aa,aI];omega⟩
   by_cases q1:q<d.F.length;rotate_left
   ·rw[W7 (fun h=>q1 h.2.1)]at hs;simp only[go_sem,f1,f5,f6,f7,mP,m0,hb2,hq,hqne,q0,q1,w2];exact⟨⟨j+1,rfl,U,by rw[hs]⟩,by rw[h7];simp only[aa,aI];omega⟩
   by_cases q2:eE d.F (x.J.take j)<=1024;rotate_left
   ·rw[W7 (fun h=>q2 h.2.2)]at hs;simp only[go_sem,f1,f5,f6,f7,mP,m0,hb2,hq,hqne,q0,q1,q2,w2];exact⟨⟨j+1,rfl,U,by rw[hs]⟩,by rw[h7];simp only[aa,aI];omega⟩
   rw[W8 ⟨q0,q1,q2⟩]at hs;obtain⟨u,rfl⟩:=Xn q0;obtain⟨z,hz⟩:=get_of_lt (l:=d.F) (i:=u) U;obtain⟨_,z0,_⟩:=cC u z hz;have zne:=hneC;rw[Int.toNat_natCast,cP (dK hz)]at hs;have hm4:1<=max 1 (min z.Q 4)/\max 1 (min z.Q 4)<=4:=U;have hmm:(if (if 4<z.Q then 4 else z.Q) > 1 then if 4<z.Q then 4 else z.Q else 1)=max 1 (min z.Q 4):=(by split<;>split<;>omega);generalize max 1 (min z.Q 4)=m at hs hm4 hmm;have hp1:eE d.F (x.J.take j)*m<=1024*4:=Yx q2 hm4.2 U U;have hp0:0<=eE d.F (x.J.take j)*m:=Ze U U;have w3:=W6 (eE d.F (x.J.take j)*m) U;simp only[go_sem,f1,f5,f6,f7,mP,m0,hb2,hq,hqne,q0,q1,q2,w2,zne,z0,hmm,w3];exact⟨⟨j+1,rfl,U,by rw[hs]⟩,by rw[h7];simp only[aa,aI];omega⟩
  ·have hje:j=x.J.length:=U;rw[hje,W9 aaz]at f6;have hRr:=ta d.F x.J;obtain⟨R,hR⟩:=Xn (show 0<=eE d.F x.J by omega);rw[hR]at f6;obtain⟨cn,hcn⟩:=Xn (show 0<=x.Q by omega);have hcn0:(0:Int)<cn:=U;have hcn1:1<=cn:=U;have hcn2:(cn:Int) >= 0:=U;have ury:fW d k x={ x with X:=List.replicate R (aY d.nn x.Q 0) }:=by
    unfold fW;rw[W8 ⟨hbit,hr0,hc1,hc4⟩,hR,Int.toNat_natCast]
   simp only[go_sem,f4,f5,f7,mP,hb2];have hun:(nnn.lit (.int .i64 d.nn) :: List.drop 1 (List.replicate cn (.lit (.int .i64 0))))=ints (aY d.nn x.Q 0):=by
    unfold aY;rw[hcn,Int.toNat_natCast];obtain⟨m,rfl⟩:∃m,cn=m+1:=⟨cn-1,U⟩
    simp[YB,ints,aa]
   have hul:(aY d.nn x.Q 0).length=cn:=(by rw[tj,hcn];rfl);have hidx:hid<Hx.C:=U;obtain⟨hx',Q,hxd,Q0,Qapp,Qupd,Qfz,Qone⟩:∃(hx':Nat) (Q:Nat->nnl->nnn->Prop),(k=A/\hx'=hid\/Hx.C<hx')/\Q 0 Hq rv /\
     (∀i Hy rq,Q i Hy rq->i<4096->Hq.C<=Hy.C->∃rq' Hj,bh prog (ext (ext Hy [.O 0 3 (ints (aY d.nn x.Q 0))]) [.O 0 72 [.Z Hy.C 0 0 cn 1]]) (Hy.C+2) 74 74 rq (.Z (Hy.C+1) 0 0 1 1)=some (rq',Hj)/\Q (i+1) Hj rq'/\Hy.C<=Hj.C/\∀id,id<Hq.C->id≠hx'->Hj.get id=Hy.get id) /\
     (∀i Hy rq bl,Q i Hy rq->Q i (Hy.upd Hx.C bl) rq) /\
     (∀i Hy rq,Q i Hy rq->Fz (fun id=>Hq.C<=id\/id=hx') Hy Hy.C rq (aD (List.replicate i (aY d.nn x.Q 0))))/\(∀i Hy rq,Q i Hy rq->rq.one=true/\rq.cells=[rq]):=by
    by_cases hkA:k=A
    ·refine⟨hid,fun i H v=>∃(ids:List Nat) (g':Nat),v=.Z hid g' 0 i 1/\hid<H.C/\H.get hid=some (.O g' 72 (ids.map fun j=>.Z j 0 0 cn 1))/\ids.length=i/\∀j∈ids,Hq.C<=j/\j<H.C/\H.get j=some (.O 0 3 (ints (aY d.nn x.Q 0))),.inl ⟨hkA,rfl⟩,⟨[],hg,hdA hkA,U,(pold hid hidx).trans (hhol U),rfl,fun j h=>by cases h⟩,?_,?_,?_,?_⟩
     ·rintro i Hy rq ⟨ids,g',rfl,q1,q2,q3,q4⟩ hi hny;have hA:=T9 (P:=prog) (H:=ext Hy [.O 0 3 (ints (aY d.nn x.Q 0))]) (t:=74) (n:=Hy.C+2) (i:=hid) (g:=g') (len:=i) (x:=.Z Hy.C 0 0 cn 1) (cs:=ids.map fun j=>.Z j 0 0 cn 1) Tryz.underlying74 Tryz.mU Tryz.mW rfl (by rw[Tryz.mV];omega) (by rw[bu];simp;omega) ((cH q1).trans q2) (by rw[Xl,q3]);refine⟨_,_,hA,⟨ids++[Hy.C],g'+1,rfl,by rw[aw,bu,bu];simp;omega,by rw[ae,W8 rfl,X2];rfl,by simp[q3],fun j hj=>?_⟩,by rw[aw,bu,bu];simp;omega,fun id h h'=>?_⟩
      ·have e1:(ext Hy [Blk.O 0 3 (ints (aY d.nn x.Q 0))]).C=Hy.C+1:=rfl;rcases Xt.1 hj with h|h
       ·obtain⟨a1,a2,a3⟩:=q4 j h;exact⟨a1,by rw[aw,bu,bu];simp;omega,by rw[ae,W7 U,cH U,cH a2];exact a3⟩
       ·obtain rfl:=List.mem_singleton.1 h;exact⟨hny,by rw[aw,bu,bu];simp;omega,by rw[ae,W7 U,cH U];exact bV⟩
      ·have e1:(ext Hy [Blk.O 0 3 (ints (aY d.nn x.Q 0))]).C=Hy.C+1:=rfl;rw[ae,W7 h',cH U,cH U]
     ·rintro i Hy rq bl ⟨ids,g',rfl,q1,q2,q3,q4⟩;exact⟨ids,g',rfl,by rw[aw];exact q1,by rw[ae,W7 U];exact q2,q3,fun j hj=>⟨(q4 j hj).1,by rw[aw];exact(q4 j hj).2.1,by rw[ae,W7 (by have:=(q4 j hj).1;omega)];exact(q4 j hj).2.2⟩⟩
     ·rintro i Hy rq ⟨ids,g',rfl,q1,q2,q3,q4⟩;unfold aD;rw[XH];refine .nq (.inr rfl) q2 aaw fun j hj h2 h'=>?_;simp only[Nat.zero_add,Xi,List.getElem_replicate]at h2 ⊢;rw[Xl]at h2;obtain⟨a1,a2,a3⟩:=q4 _ (XA h2);have:=Fz.ints (S:=fun id=>Hq.C<=id\/id=hid) (nx:=Hy.C) (o:=0) (x:=(aY d.nn x.Q 0)) (n:=cn) (.inl a1) a3 hul.symm fun i hi=>by rw[Nat.zero_add,gR,W5 hi];rfl
      exact this
     ·rintro i Hy rq ⟨ids,g',rfl,_⟩;exact⟨rfl,rfl⟩
    ·refine⟨Hx.C+1,fun i H v=>eJ Hq.C H 72 3 v (List.replicate i (ints (aY d.nn x.Q 0))),.inr U,?_,?_,?_,?_,?_⟩
     ·rw[hdE hkA];unfold aR;rw[W8 hr0];show eJ Hq.C Hq 72 3 (.lit (.slice none 0 0)) (List.replicate 0 (ints (aY d.nn x.Q 0)));exact eJ.nil
     ·intro i Hy rq hO' hi hny;have hwn:(ext Hy [Blk.O 0 3 (ints (aY d.nn x.Q 0))]).C=Hy.C+1:=rfl;obtain⟨rq',Hj,hA,hO2,hnj,hpj⟩:=eJ.app (P:=prog) (H:=ext Hy [.O 0 3 (ints (aY d.nn x.Q 0))]) (n:=Hy.C+2) (t:=74) (x:=.Z Hy.C 0 0 cn 1) (r:=ints (aY d.nn x.Q 0)) Tryz.underlying74 Tryz.mU Tryz.mW Tryz.mV aax (by rw[XH];omega) (hO'.over (.ext _ _)) U (.inr ⟨Hy.C,0,U,U,by rw[aZ,hul],bV⟩) U;exact⟨rq',Hj,hA,(show eJ Hq.C Hj 72 3 rq' (List.replicate (i+1) (ints (aY d.nn x.Q 0))) from by rw[ZL];exact hO2),U,fun id h _=>(hpj id U h).trans (cH U)⟩
     ·intro i Hy rq bl hO';exact hO'.upd (U)
     ·intro i Hy rq hO';have hv:=hO'.fz (S:=fun id=>Hq.C<=id\/id=Hx.C+1) (nx:=Hy.C) (rows':=List.replicate i (ints (aY d.nn x.Q 0))) (fun _ h=>.inl h) rfl fun j r r' h1 h2=>by
       rw[h1]at h2;cases h2;refine⟨rfl,fun i hi _=>?_⟩;have hr:=XW (an h1);subst hr;have e0:(ints (aY d.nn x.Q 0))[i]?=some (ints (aY d.nn x.Q 0))[i]:=W5 hi;generalize (ints (aY d.nn x.Q 0))[i]=a at e0 ⊢;rw[gR]at e0;obtain⟨b,_,rfl⟩:=W4.1 e0;exact .lit _
      rw[XH,YR]at hv;have hvv:(nnn.L i (List.replicate i (.L (ints (aY d.nn x.Q 0)).length (ints (aY d.nn x.Q 0)))))=aD (List.replicate i (aY d.nn x.Q 0)):=by
       unfold aD ah;rw[XH,YR,aZ]
      rw[hvv]at hv;exact hv
     ·intro i Hy rq ⟨cs',hcs',_⟩;exact⟨hcs'.one,hcs'.cells⟩
   refine W.mi (Q':=fun e s2=>e=.exit 4/\∃rq,s2.ρ 1=.Y H.C 0 0/\s2.ρ 2=.Y (H.C+1) 0 0/\s2.ρ 3=.Y (H.C+2) 0 0/\s2.ρ 4=aa k/\s2.ρ 5=.Y Hx.C 0 0/\Hq.C<=s2.H.C/\(∀id,id<Hx.C->id≠hx'->s2.H.get id=Hx.get id)/\s2.H.get Hx.C=some (.O 0 76 [.lit (.int .i64 x.Q),.L x.J.length (ints x.J),rq])/\Q R s2.H rq) ?_ ?_;rotate_left
   ·rintro e s2 ⟨rfl,rq,a1,a2,a3,a4,a5,hn2,ho2,hP2,hO2⟩;have hv:=Qfz _ _ _ hO2;refine⟨⟨s2.ρ,s2.H.iA Hq.C hx' Hx.C (.O 0 76 [.lit (.int .i64 x.Q),.L x.J.length (ints x.J),aD (List.replicate R (aY d.nn x.Q 0))])⟩,cF.iA aO hP2 U rfl (fun i hi _=>?_),aaz,trivial,?_⟩
    ·match i,hi with
     |0,_=>exact .lit _
     |1,_=>exact .df _
     |2,_=>exact hv
    obtain⟨He,hHe⟩:∃He,He=s2.H.iA Hq.C hx' Hx.C (.O 0 76 [.lit (.int .i64 x.Q),.L x.J.length (ints x.J),aD (List.replicate R (aY d.nn x.Q 0))]):=⟨_,rfl⟩
    rw[<- hHe];have gPe:He.get Hx.C=some (.O 0 76 [.lit (.int .i64 x.Q),.L x.J.length (ints x.J),aD (List.replicate R (aY d.nn x.Q 0))]):=(by rw[hHe];exact T7 U U);have hoe:∀id,id<Hx.C->id≠hx'->He.get id=Hx.get id:=fun id h h'=>by rw[hHe,T8 U h' U];exact ho2 id h h'
    have hne':He.C=s2.H.C:=(by rw[hHe];rfl);clear hHe hv hP2 hO2;have lPe:=ag gPe;have l2e:=ag ((hoe (H.C+2) U U).trans hbn);obtain⟨nh2,H3,hA,nc,no1,ln,st⟩:=step He (aD (List.replicate R (aY d.nn x.Q 0))) _ ury rfl rfl (.inl rfl) U (fun id h h'=>hoe id h U) fun h=>(hoe hid U U).trans (hhol U);simp only[go_sem,a2,a3,a4,a5,lPe,l2e,hA,nc,no1,ln,w1];exact⟨(st _ rfl).1,⟨k+1,nh2,_,rfl,U,(st _ rfl).1,(st _ rfl).2.1,(st _ rfl).2.2.1,(st _ rfl).2.2.2.1,(st _ rfl).2.2.2.2.1,(st _ rfl).2.2.2.2.2⟩,by rw[h4];simp only[aa,aI];omega⟩
   refine W.aM 633822882262475471490002191872 (by rfl) (fun ρ3 Hy=>∃(i:Nat) (rq:nnn),ρ3 9=aa i/\i<=R/\Hq.C<=Hy.C/\(∀id,id<Hx.C->id≠hx'->Hy.get id=Hx.get id)/\Hy.get Hx.C=some (.O 0 76 [.lit (.int .i64 x.Q),.L x.J.length (ints x.J),rq])/\Q i Hy rq) (fun ρ3 H=>R-(iv (ρ3 9)).toNat) ?_ ?_
   ·simp only[go_sem];exact⟨0,_,rfl,U,fun id h _=>pold id h,gP,Q0⟩
   rintro ρ3 Hy ⟨i,rq,h9,hi,hny,hyo,hyP,hOy⟩;refine W.env fun E3 hE3=>?_;have a1:E3 1=.Y H.C 0 0:=(by rw[hE3];simp only[go_sem,f1]);have a2:E3 2=.Y (H.C+1) 0 0:=(by rw[hE3];simp only[go_sem,f2]);have a3:E3 3=.Y (H.C+2) 0 0:=(by rw[hE3];simp only[go_sem,f3]);have a4:E3 4=aa k:=(by rw[hE3];simp only[go_sem,f4]);have a5:E3 5=.Y Hx.C 0 0:=(by rw[hE3];simp only[go_sem,f5]);have a6:E3 6=aa R:=(by rw[hE3];simp only[go_sem,f6]);have a9:E3 9=aa i:=(by rw[hE3];simp only[go_sem,h9]);clear hE3;refine W.vs ?_;by_cases hb3:(i:Int)<R
   ·have w3:=W6 ((i:Int)+1) U;have yP:=ag hyP;have y0:=ag ((hyo H.C U U).trans ((hold H.C U U).trans g0));rw[hcn]at yP;have y0e:∀L,(ext Hy L).na H.C 0=_:=fun L=>(cB U).trans y0;have yPe:∀L,(ext Hy L).na Hx.C 0=_:=fun L=>(cB U).trans yP;obtain⟨Hw,hHw⟩:∃Hw,Hw=ext Hy [.O 0 3 (ints (aY d.nn x.Q 0))]:=⟨_,rfl⟩
    have hwn:Hw.C=Hy.C+1:=(by rw[hHw];rfl);have hwo:nnd Hy Hw:=(by rw[hHw];exact .ext _ _);have hwg:Hw.get Hy.C=some (.O 0 3 (ints (aY d.nn x.Q 0))):=(by rw[hHw];exact bV);have wP:Hw.na Hx.C 0=_:=(hwo.na U).trans yP;obtain⟨rq',Hj,hA,hO',hnj,hpj⟩:=Qapp i Hy rq hOy U hny;have nf:∀id,id<Hq.C->id≠hx'->Hj.get id=Hy.get id:=hpj;have jP:Hj.na Hx.C 0=_:=ag ((nf _ U U).trans hyP);obtain⟨ro,rc⟩:=Qone _ _ _ hO';rw[eT]at hA;simp only[List.cons_append,List.nil_append,YQ,Nat.reduceAdd]at hA;simp only[go_sem,a1,a5,a6,a9,hb3,yP,y0e,yPe,hcn0,hcn2,hun,hA,jP,rc,ro,w3];refine⟨U,by simp;omega,by rw[aw];omega,⟨i+1,rq',rfl,U,by rw[aw];omega,fun id h h'=>by rw[ae,W7 U,nf id U h'];exact hyo id h h',by rw[ae,W8 rfl],Qupd _ _ _ _ hO'⟩,by rw[h9];simp only[aa,aI];omega⟩
   ·simp only[go_sem,a1,a2,a3,a4,a5,a6,a9,hb3];have:i=R:=U;subst this;exact⟨rq,hny,hyo,hyP,hOy⟩
 ·have hke:k=d.F.length:=U
  have l2:=ag hbn;have l1:=ag ((hold (H.C+1) U U).trans g1);have nc:=hO.cells;have no:=hO.one;simp only[go_sem,e1,e2,e3,e4,l0,l1,l2,hb,no];rw[hke]at hO hQ;rw[W9 (by rw[gK];exact Nat.le_refl _)]at hQ;refine ar.nr (v':=bS d.nn (bE d)) aO hcl (hid:=hid) (fun j h h'=>by rw[ae,W7 U,hold j U h'];exact ob.ng j h) (.agg rfl fun i hi _=>?_) hK
  match i,hi with
  |0,_=>exact .lit _
  |1,_ =>
   show Fz _ _ _ nh (di (bE d));unfold di;rw[gK];rcases hO with ⟨h,hz,hc⟩|⟨id,gg,k1,k2,h,k4,k5⟩
   ·have:bE d=[]:=Xc (by rw[gK];exact hz);rw[h,hz,this];exact .nil
   ·rw[h];refine .nq (.inl U) (by rw[ae,W7 U];exact k5) (by rw[fJ,gK]) fun j hj h2 h'=>?_;have e0:(0:Nat)+j=j:=Nat.zero_add j;have h3:j<ks.length:=U;have:=fun Hq=>hQ.qX (S:=fun id=>H.C<=id\/id=hid) (H:=Hq) (nx:=H.C) j h3 h';simpa only[e0] using this _
def Vz (d:nnb)(A hid hg:Nat)(xh:nna)(hxh:d.F[A]?=some xh)(hrh:xh.X=[])(hbA:d.nl.testBit A=true)(cs:List nnn)(hcs:cs=aT d.F A (aa xh.Q) (ah xh.J) (.Z hid hg 0 0 1))(hf:nnm d)(H:nnl)(hch:1<=xh.Q/\xh.Q<=4)(hidl:hid<H.C)(hgh:H.get hid=some (.O hg 72 []))(K:nnf->nnl->Prop)(hK:∀H',K (.ret (.lit (.bool (jr (nnj d))))) H'):af prog G0 42 [bH d cs] H K:=by
 refine af.nb ⟨_,func42,rfl,rfl⟩ fun hcl=>?_;have hl:=hf.F.1;have hul:=hf.V.1;refine af.sw (n:=73) (rs:=[.tmp 2]) func42 ?_;refine W.sq ?_;simp only[go_sem,fg,eN];obtain⟨R,hR⟩:∃R,R=ext H [.O 0 38 [.lit (.int .i64 d.nn),.L d.F.length cs,.lit (.int .u64 (d.nl:Int)),.L d.V.length (aH d.V)]]:=⟨_,rfl⟩
 have oR:nnd H R:=hR▸.ext _ _
 have nR:R.C=H.C+1:=hR▸rfl
 have g00:=de hR
 have l0:R.na H.C 0=some (38,[.lit (.int .i64 d.nn),.L d.F.length cs,.lit (.int .u64 (d.nl:Int)),.L d.V.length (aH d.V)]):=by rw[hR];exact ag (bY ..)
 have hidR:R.get hid=some (.O hg 72 []):=(oR.ng hid hidl).trans hgh;rw[<- hR];clear hR;have no:¬nnj d->∀H',R.C<=H'.C->ar prog G0 H K (.lit (.bool false)) H':=fun h H' o=>ar.mk U (by have:=hK H';rw[fX h]at this;exact this);refine W.en (fun E=>E 1=.Y H.C 0 0) (by simp only[go_sem]) fun E e1=>?_
 have s1:=fun t x y=>lh (P:=prog) (t:=t) (x:=x) (y:=y) (k':=.i64) (s:=d.F.length) hf.nl;refine W.seq (W.dI (fun s'=>s'.H=R/\s'.ρ 1=.Y H.C 0 0/\∃b:Bool,s'.ρ 30=.lit (.bool b)/\(b=false↔RightA d)) ?_ ?_)
 ·refine W.vs ?_;by_cases c1:(d.F.length:Int)<1
  ·simp only[go_sem,e1,l0,c1];exact⟨_,rfl,by simp;intro h;have:=h.n1;omega⟩
  by_cases c2:(d.F.length:Int) > 8
  ·simp only[go_sem,e1,l0,c1,c2];exact⟨_,rfl,by simp;intro h;have:=h.n1;omega⟩
  by_cases c3:d.nl >>> d.F.length=0;rotate_left
  ·have c3':¬((d.nl >>> d.F.length:Nat):Int)=0:=U;simp only[go_sem,e1,l0,c1,c2,c3',s1];exact⟨_,rfl,by simp;intro h;exact c3 h.nl⟩
  have c3':((d.nl >>> d.F.length:Nat):Int)=0:=U
  by_cases c4:(d.V.length:Int) > 4
  ·simp only[go_sem,e1,l0,c1,c2,c3',c4,s1];exact⟨_,rfl,by simp;intro h;have:=h.ul;omega⟩
  ·simp only[go_sem,e1,l0,c1,c2,c3',c4,s1];exact⟨_,rfl,by simp;exact⟨U,c3,U⟩⟩
 rintro⟨ρ3,H3⟩ ⟨hH,m1,b,m30,hb⟩;simp only at hH m1 m30;rw[hH];clear hH H3;refine W.vs ?_;cases hbb:b;rotate_left
 ·simp only[go_sem,m30,hbb];exact no (fun h=>by rw[hb.2 (lk.1 h).1]at hbb;cases hbb) _ (Nat.le_refl _)
 have hA:=hb.1 hbb;have n8:=hA.n1.2;simp only[go_sem,m30,hbb];refine W.en (fun E1=>E1 1=.Y H.C 0 0) (by simp only[go_sem,m1]) fun E1 f1=>?_
 clear m30 hbb hb;refine W.seq ?_;refine W.sq ?_;simp only[go_sem];refine W.block ?_;refine W.env fun E2 hE2=>?_;have g1:E2 1=.Y H.C 0 0:=by rw[hE2];simp only[go_sem,f1]
 have g3:E2 3=aa 0:=by rw[hE2];simp only[go_sem]
 clear hE2;refine W.aM 4503597479886860 (by rfl) (fun ρ Hx=>Hx=R/\∃k:Nat,ρ 3=aa k/\k<=d.F.length/\Be d k) (fun ρ H=>d.F.length-(iv (ρ 3)).toNat) ?_ ?_
 ·simp only[go_sem,g3];exact⟨0,rfl,U,fun v x h=>absurd h (Xo _)⟩
 rintro ρ Hx ⟨rfl,k,h3,hk,hD⟩;refine W.en (fun E2=>E2 1=.Y H.C 0 0 /\ E2 3=aa k) (by simp only[go_sem,g1,h3]) fun E2 ⟨a1,a3⟩=>?_
 refine W.vs ?_;by_cases hbk:(k:Int)<d.F.length
 ·obtain⟨x,hx⟩:=get_of_lt (l:=d.F) (i:=k) U;have hne:¬cs=[]:=by rw[hcs];exact z9 (get_lt hxh) _ _ _
  obtain⟨rv,q2,rvl⟩:∃rv,cs[k*3+2]?=some rv/\ef Hx rv=some (.lit (.int .i64 x.X.length)):=by
   by_cases hv:k=A
   ·obtain rfl:x=xh:=(by rw[hv,hxh]at hx;exact(Option.some.inj hx).symm);refine⟨_,by rw[hcs,hv];exact lU (get_lt hxh) _ _ _,?_⟩;have hlv:=ag hidR;rw[hrh];unfold ef;simp[hlv]
   ·refine⟨_,by rw[hcs,kT U U U];exact ka hx,?_⟩;unfold aR;split
    ·rename_i h;rw[h];rfl
    ·rfl
  have w1:=W6 ((k:Int)+1) U;simp only[go_sem,a1,a3,l0,hbk];refine aC.nb (kh d.nl k hf.nl _ _ ⟨trivial,?_⟩);cases hbit:d.nl.testBit k
  ·simp only[go_sem,a3,w1];refine⟨⟨k+1,rfl,U,fun v y hv hy hb=>?_⟩,by rw[h3];simp only[aa,aI];omega⟩;rcases Xu v k with h|h
   ·exact hD v y h hy hb
   ·obtain rfl:v=k:=U;rw[hbit]at hb;cases hb
  ·by_cases hr0:x.X=[]
   ·have hr0':(x.X.length:Int)=0:=(by rw[hr0];rfl);simp only[go_sem,a1,a3,l0,w1,hbk,hne,q2,rvl,hr0'];refine⟨⟨k+1,rfl,U,fun v y hv hy hb=>?_⟩,by rw[h3];simp only[aa,aI];omega⟩;rcases Xu v k with h|h
    ·exact hD v y h hy hb
    ·obtain rfl:v=k:=U;rw[hx]at hy;cases hy;exact hr0
   ·have hr1:(0:Int)<x.X.length:=(by have:=Yd.2 hr0;omega);have hr1':0<x.X.length:=Yd.2 hr0;simp only[go_sem,a1,a3,l0,hbk,hne,q2,rvl,hr1];exact no (fun h=>hr0 ((lk.1 h).2.1 k x U hx hbit)) _ (Nat.le_refl _)
 have hke:k=d.F.length:=U
 rw[hke]at hD;simp only[go_sem,a1,a3,l0,hbk];refine W.sq ?_;simp only[go_sem,a1,l0];refine aC.nb (Ua d A hid hg xh hxh hrh hbA cs hcs hf Hx hch U hidR _ ⟨trivial,?_⟩);simp only[go_sem,bS,di];obtain⟨R2,hR2⟩:∃R2,R2=ext (Hx.nr hid) [.O 0 90 [.lit (.int .i64 d.nn),.L (bE d).length (aG (bE d))]]:=⟨_,rfl⟩
 have dn:(Hx.nr hid).C=Hx.C:=rfl;have n2:R2.C=H.C+2:=by rw[hR2,bu,dn];simp;omega
 have l2:R2.na (H.C+1) 0=some (90,[.lit (.int .i64 d.nn),.L (bE d).length (aG (bE d))]):=by rw[hR2,<- nR,<- dn];exact ag bV
 have k0:R2.na H.C 0=some (38,[.lit (.int .i64 d.nn),.L d.F.length cs,.lit (.int .u64 (d.nl:Int)),.L d.V.length (aH d.V)]):=by rw[hR2,cB (by rw[dn];omega)];exact ag ((FJ U U).trans g00)
 rw[<- hR2];clear hR2;refine W.en (fun E3=>E3 1=.Y H.C 0 0 /\ E3 4=.Y (H.C+1) 0 0) (by simp only[go_sem,a1,nR,dn]) fun E3 ⟨b1,b4⟩=>?_
 refine W.seq (W.seq (nX _ _ _ (by rfl) ?_));simp only[go_sem,b4,l2];refine aC.nb (FY d.nn (bE d) (Gd hf) _ _ ⟨trivial,?_⟩);by_cases hnet:nnw d.nn (bE d);rotate_left
 ·have hnb:=tu hnet;simp only[go_sem,hnb];refine W.vs ?_;simp only[go_sem];exact no (fun h=>hnet (lk.1 h).2.2.1) _ (U)
 have hnb:=tt hnet;simp only[go_sem,hnb];refine W.vs ?_;simp only[go_sem];refine W.en (fun E4=>E4 1=.Y H.C 0 0 /\ E4 4=.Y (H.C+1) 0 0) (by simp only[go_sem,b1,b4]) fun E4 ⟨c1,c4⟩=>?_
 have hc4:∀y∈bE d,1<=y.Q/\y.Q<=4:=fun y hy=>(hnet.node y hy).1;have h8:(bE d).length<=8:=hnet.n1.2;refine W.seq ?_;refine W.sq ?_;simp only[go_sem];refine W.block ?_;refine W.env fun E5 hE5=>?_;have d1:E5 1=.Y H.C 0 0:=by rw[hE5];simp only[go_sem,c1]
 have d4:E5 4=.Y (H.C+1) 0 0:=by rw[hE5];simp only[go_sem,c4]
 have d5:E5 5=aa 0:=by rw[hE5];simp only[go_sem]
 clear hE5;refine W.aM 9444588850551214571556 (by rfl) (fun ρ Hy=>Hy=R2/\∃j:Nat,ρ 5=aa j/\j<=d.V.length/\∀u∈d.V.take j,nnx d.F u) (fun ρ H=>d.V.length-(iv (ρ 5)).toNat) ?_ ?_
 ·simp only[go_sem,d5];exact⟨0,rfl,U,aaw⟩
 rintro ρ2 Hy ⟨rfl,j,h5,hj,hall⟩;refine W.en (fun E6=>E6 1=.Y H.C 0 0 /\ E6 4=.Y (H.C+1) 0 0 /\ E6 5=aa j) (by simp only[go_sem,d1,d4,h5]) fun E6 ⟨q1,q4,q5⟩=>?_
 by_cases hbj:(j:Int)<d.V.length;rotate_left
 ·refine W.vs ?_;simp only[go_sem,q1,q5,k0,hbj];refine W.vs ?_;simp only[go_sem];rw[W9 U]at hall;exact ar.mk U (by have:=hK Hy;rw[eO (lk.2 ⟨hA,hD,hnet,hall⟩)]at this;exact this)
 obtain⟨u,hu⟩:=get_of_lt (l:=d.V) (i:=j) U;obtain⟨f1',f2'⟩:=hf.V.2 u (an hu);have hne:=qR hu;have p0:=vV hu;have p1:j*2+2<=(aH d.V).length:=by rw[kV];omega
 have w1:=W6 ((j:Int)+1) U;refine W.sq ?_;simp only[go_sem,q1,q5,k0,hbj];refine W.seq (W.block (W.seq ?_));refine W.dr 7 [0,1,0,7,15,0,32] mixed ?_;simp only[go_sem,q1,q4,q5,k0,l2,hbj,hne,p0,p1];refine⟨_,[],cz.pure fun H2=>wQ d.nn (bE d) U H2 _ ⟨rfl,rfl⟩,?_⟩;simp only[go_sem];refine aC.nb (Ge (bE d) h8 hc4 u f1' f2' _ _ ⟨trivial,?_⟩);by_cases hu1:nnx (bE d) u
 ·have hub:=eO hu1;simp only[go_sem,hub];refine W.vs ?_;simp only[go_sem];refine W.vs ?_;simp only[go_sem,q5,w1];refine⟨⟨j+1,rfl,U,fun y hy=>?_⟩,by rw[h5];simp only[aa,aI];omega⟩;rw[aQ hu]at hy;rcases Xt.1 hy with h|h
  ·exact hall y h
  ·obtain rfl:=List.mem_singleton.1 h;exact xd.1 hu1
 ·have hub:=fX hu1;simp only[go_sem,hub];refine W.vs ?_;simp only[go_sem];exact no (fun h=>hu1 (xd.2 ((lk.1 h).2.2.2 u (an hu)))) _ (U)
def Ub {i:Nat}(h0:i≠A*3)(h1:i≠A*3+1)(h2:i≠A*3+2):(aP (ns.set A x'))[i]?=(aP ns)[i]?:=by
 have hp:i=(i / 3)*3+i % 3:=U
 have hA:i / 3≠A:=U
 have hg:(ns.set A x')[i / 3]?=ns[i / 3]?:=Xs fun h=>hA h.symm;cases hn:ns[i / 3]? with
 |none =>
  have h3:ns.length<=i / 3:=by
   rcases Xu (i / 3) ns.length with h|h
   ·rw[W5 h]at hn;cases hn
   ·exact h
  rw[Xf (by rw[fa,Xb];omega),Xf (by rw[fa];omega)]
 |some x =>
  rw[hn]at hg;have c3:i % 3=0\/i % 3=1\/i % 3=2:=U
  rcases c3 with c|c|c
  ·rw[hp,c,Nat.add_zero,iR hg,iR hn]
  ·rw[hp,c,jn hg,jn hn]
  ·rw[hp,c,ka hg,ka hn]
def Uc (h:A<ns.length)(c pv rv:nnn):aT (ns.set A x') A c pv rv=aT ns A c pv rv:=by
 have hs:A<(ns.set A x').length:=by rw[Xb];exact h
 apply XQ;intro i;by_cases h0:i=A*3
 ·rw[h0,oz hs,oz h]
 by_cases h1:i=A*3+1
 ·rw[h1,qJ hs,qJ h]
 by_cases h2:i=A*3+2
 ·rw[h2,lU hs,lU h]
 rw[kT h0 h1 h2,kT h0 h1 h2,Ub h0 h1 h2]
def Ud {w w5 n5:Int}{y:nnb}(hy:(y,cs)=fq w w5 a r n5 n d)(hc:∀x∈d.F,1<=x.Q/\x.Q<=4)(hd:∀v x,d.F[v]?=some x->d.nl.testBit v=true->x.X=[])(hb:∀v,d.nl.testBit v=true->v<d.F.length)
    (hx:y.F[A]?=some xh) (hne:xh.X≠[]) (hA:y.nl.testBit A=true):1<=xh.Q/\xh.Q<=4:=by
 unfold fq at hy;split at hy
 ·cases hy;simp only at hx hA;have hAl:=hb A hA;obtain⟨x,hxd⟩:=get_of_lt hAl;have hr:=hd A x hxd hA;have hcx:=hc x (an hxd);generalize w5 % 12=c at hx;generalize (a % (d.F.length:Int)).toNat=B at hx;unfold dW at hx;have same:d.F[A]?=some xh->1<=xh.Q/\xh.Q<=4:=fun h=>hc xh (an h);cases hB:d.F[B]? with
  |none=>rw[hB]at hx;simp at hx
  |some z =>
   rw[hB]at hx;simp only at hx;split at hx
   ·exact same hx
   split at hx
   ·rw[Xe hAl]at hx;exact same hx
   split at hx
   ·rw[List.getElem?_take]at hx;split at hx
    ·exact same hx
    ·cases hx
   by_cases hAB:A=B
   ·subst hAB;rw[hxd]at hB;cases hB;rw[Xj hAl]at hx;have hxx:=Option.some.inj hx;unfold dB at hxx;split at hxx
    ·rw[<- hxx]at hne;exact absurd hr hne
    split at hxx
    ·rw[<- hxx]at hne;exact absurd hr hne
    split at hxx
    ·rw[<- hxx]at hne;exact absurd hr hne
    split at hxx
    ·rw[<- hxx];exact hcx
    ·rw[hr]at hxx;simp at hxx;rw[<- hxx];exact hcx
   ·rw[Xs fun h=>hAB h.symm]at hx;exact same hx
 ·cases hy;exact hc xh (an hx)
structure HolY (id:Nat)(d:nnb)(cs:List nnn)(A:Nat)(xh:nna):Prop where
 at':d.F[A]?=some xh
 X:xh.X=[]
 dec:d.nl.testBit A=true
 Q:1<=xh.Q/\xh.Q<=4
 cs:cs=aT d.F A (aa xh.Q) (ah xh.J) (.Z id 0 0 0 1)
def g9 (id:Nat)(d:nnb)(cs:List nnn)(H:nnl):Prop :=
 nnm d/\(nnh (fun v=>d.nl.testBit v=true) d.F cs\/(∃A xh,HolY id d cs A xh)/\id<H.C/\H.get id=some (.O 0 72 []))
def td (h:HolY id d cs A xh)(hg:H.get id=some (.O 0 72 [])):
  ∃cs',nnh (fun _=>False) d.F cs'/\cs'.length=cs.length/\∀i (h:i<cs.length) (h':i<cs'.length),Emp H cs[i] cs'[i]:=by
 have hA:=get_lt h.at';refine⟨aT d.F A (aa xh.Q) (ah xh.J) (aD []),?_,by rw[h.cs,dV,dV],fun i h1 h2=>?_⟩
 ·have:=sP (e:=fun _=>False) (x':=xh) (rv:=aD []) hA (.inl (by rw[h.X])) fun h=>h.elim;rw[iV h.at']at this;exact this
 ·have hcs:=h.cs;subst hcs;have e:aT d.F A (aa xh.Q) (ah xh.J) (aD [])=(aT d.F A (aa xh.Q) (ah xh.J) (.Z id 0 0 0 1)).set (A*3+2) (aD []):=(sN _ _ _ _).symm;simp only[e,YH];split
  ·rename_i hi;subst hi;have h3:=W5 h1;rw[lU hA]at h3;rw[<- Option.some.inj h3];exact .Z hg
  ·exact .same _
def te {cs':List nnn}(hl:cs'.length=cs.length)(h:∀i (h:i<cs.length) (h':i<cs'.length),Emp H cs[i] cs'[i]):∀i (_:i<[bH d cs].length) (_:i<[bH d cs'].length),Emp H [bH d cs][i] [bH d cs'][i]:=fun i hi _=>by
 match i,hi with
 |0,_ =>
  refine .agg rfl fun j hj _=>?_
  match j,hj with
  |0,_=>exact .same _
  |1,_=>exact .L hl h
  |2,_=>exact .same _
  |3,_=>exact .same _
def AM {e:Nat->Prop}(hq:nnh e d.F cs){S:Nat->Prop}{nx:Nat}:Fz S H nx (bH d cs) (cM d):=by
 refine .agg rfl fun i hi _=>?_
 match i,hi with
 |0,_=>exact .lit _
 |1,_=>exact .L (by rw[hq.len,fJ]) fun i h h'=>hq.qX i h h'
 |2,_=>exact .lit _
 |3,_=>exact .L rfl fun j h h'=>nk d.V _ (XA h)
def g9.read (h:g9 id d cs H){f:FuncId}{K:nnf->nnl->Prop}(hc:af prog G0 f [cM d] H K):af prog G0 f [bH d cs] H K:=by
 obtain⟨_,h|⟨⟨A,xh,h⟩,_,hg⟩⟩:=h
 ·exact af.pt aO (args':=[cM d]) rfl (fun i hi _=>match i,hi with|0,_=>AM h) hc
 ·obtain⟨cs',h1,h2,h3⟩:=td h hg;exact af.emp (args':=[bH d cs']) rfl (te h2 h3) (af.pt aO (args':=[cM d]) rfl (fun i hi _=>match i,hi with|0,_=>AM h1) hc)
def Ue (h:g9 id d cs H)(hn:nnq d)(K:nnf->nnl->Prop)
  (hN:dX d=none->K (.ret (.nc [.lit (.slice none 0 0),.lit (.bool false)])) H) (hS:∀r,dX d=some r->K (.ret (.nc [ah (av r),.lit (.bool true)])) H):af prog G0 43 [bH d cs] H K:=by
 obtain⟨hf,h|⟨⟨A,xh,h⟩,_,hg⟩⟩:=h
 ·exact Bh d cs h hf.nl hn H K hN hS
 ·obtain⟨cs',h1,h2,h3⟩:=td h hg;exact af.emp (args':=[bH d cs']) rfl (te h2 h3) (Bh d cs' h1 hf.nl hn H K hN hS)
def Uf (h:g9 id d cs H)(K:nnf->nnl->Prop)(hK:K (.ret (.lit (.bool (jr (nnj d))))) H):af prog G0 42 [bH d cs] H K:=by
 obtain⟨hf,h|⟨⟨A,xh,h⟩,hlt,hg⟩⟩:=h
 ·exact Vy d cs h hf H K hK
 ·have hh:=af.hole (P:=prog) (f:=42) (args:=[bH d cs]) (args':=[bH d cs]) (v':=.lit (.bool (jr (nnj d)))) aO hg hlt rfl (fun i hi _=>?_) (Vz d A id 0 xh h.at' h.X h.dec cs h.cs hf (pT H id) h.Q hlt ((xS H id).trans hg) _ fun H'=>⟨_,rfl,.lit _⟩)
  ·exact hh.mono fun r H' ⟨h1,h2⟩=>by subst h1;subst h2;exact hK
  ·match i,hi with
   |0,_ =>
    refine .agg rfl fun j hj _=>?_
    match j,hj with
    |0,_=>exact .lit _
    |1,_ =>
     rw[h.cs];refine .L rfl fun k h1 h2=>oA (.df _) (.Z hlt fun h=>h rfl) k h1 h2
    |2,_=>exact .lit _
    |3,_=>exact .L rfl fun j h h'=>nk d.V _ (XA h)
def Qj {q:List Int}(hq:q≠[]):iM c n g q≠[]/\(iM c n g q).length<=q.length+1:=by
 have hl:0<q.length:=Yd.2 hq;have:0<(iM c n g q).length/\(iM c n g q).length<=q.length+1:=by
  unfold iM;split
  ·rw[Xb];omega
  ·split
   ·simp
   ·split
    ·rw[List.length_cons,XH];omega
    ·rw[P6];omega
 exact⟨Yd.1 this.1,this.2⟩
def Qk (hx:x.J.length<=m/\x.X.length<=m/\∀r∈x.X,r≠[]/\r.length<=m):
  ((dB c r n g x).1.J.length<=m+1/\(dB c r n g x).1.X.length<=m+1/\∀r'∈(dB c r n g x).1.X,r'≠[]/\r'.length<=m+1)/\((dB c r n g x).2=aD (dB c r n g x).1.X\/(dB c r n g x).2=aR (dB c r n g x).1)/\((c=5->x.X≠[]->¬r % (x.X.length:Int)=0)->(dB c r n g x).2=aR (dB c r n g x).1):=by
 obtain⟨h1,h2,h3⟩:=hx;have h3':∀r∈x.X,r≠[]/\r.length<=m+1:=fun r hr=>⟨(h3 r hr).1,by have:=(h3 r hr).2;omega⟩
 unfold dB;split
 ·exact⟨⟨by show x.J.length<=_;omega,by show x.X.length<=_;omega,h3'⟩,.inr rfl,fun _=>rfl⟩
 ·split
  ·exact⟨⟨by simp;omega,by show x.X.length<=_;omega,h3'⟩,.inr rfl,fun _=>rfl⟩
  ·split
   ·exact⟨⟨aaw,by show x.X.length<=_;omega,h3'⟩,.inr rfl,fun _=>rfl⟩
   ·split
    ·refine⟨⟨by show x.J.length<=_;omega,by simp;omega,fun r hr=>?_⟩,.inr rfl,fun _=>rfl⟩;rcases Xt.1 hr with h|h
     ·exact h3' r h
     ·obtain rfl:=List.mem_singleton.1 h;exact⟨aaw,aaw⟩
    ·split
     ·exact⟨⟨by show x.J.length<=_;omega,by show x.X.length<=_;omega,h3'⟩,.inr rfl,fun _=>rfl⟩
     ·rename_i q hq;have hql:=get_lt hq;split
      ·rename_i c5;refine⟨⟨by show x.J.length<=_;omega,by simp;omega,fun r hr=>h3' r (Xz hr)⟩,.inl rfl,fun h=>?_⟩;have hx0:x.X≠[]:=fun h=>by rw[h]at hql;simp at hql
       have h9:=h c5 hx0;have h8:=YN r (show (x.X.length:Int)≠0 by omega);refine(qV (x:={ x with X:=x.X.take (r % (x.X.length:Int)).toNat }) fun h=>?_).symm;have:=congrArg List.length h;simp only[Xm,List.length_nil]at this;omega
      ·have hq2:=h3 q (an hq);have hrb:=Qj (c:=c) (n:=n) (g:=g) hq2.1;have hne:x.X.set (r % (x.X.length:Int)).toNat (iM c n g q)≠[]:=fun h=>by
        have:=congrArg List.length h;rw[Xb]at this;simp at this;rw[this]at hql;simp at hql
       refine⟨⟨by show x.J.length<=_;omega,by show (x.X.set _ _).length<=_;rw[Xb];omega,fun r' hr=>?_⟩,.inl rfl,fun _=>(qV (x:={ x with X:=x.X.set (r % (x.X.length:Int)).toNat (iM c n g q) }) hne).symm⟩;rcases XI hr with h|rfl
       ·exact h3' r' h
       ·exact⟨hrb.1,U⟩
def Ql (hx:ns[A]?=some x)(e:Nat->Prop):nnh e ns (aT ns A (aa x.Q) (ah x.J) (aR x)):=by
 have:=sP (e:=e) (x':=x) (rv:=aR x) (get_lt hx) (.inr rfl) fun _=>rfl;rw[iV hx]at this;exact this
def DH (hs:nnp m ns):nnp (m+1) (dW c A r n g ns).2.1/\nnh (fun v=>c=5->v=A->∀x,ns[v]?=some x->x.X≠[]->¬r % (x.X.length:Int)=0) (dW c A r n g ns).2.1 (dW c A r n g ns).2.2/\(dW c A r n g ns).2.1.length<=ns.length+1:=by
 have hs1:=hs.mono (Yb m);unfold dW;split
 ·exact⟨⟨aaw,fun x hx=>by simp at hx⟩,⟨rfl,fun v x hx=>by simp at hx⟩,aaw⟩
 ·rename_i x hx;have hA:=get_lt hx;have hxm:=hs.node x (an hx);have nq:=Ql hx (fun v=>c=5->v=A->∀x,ns[v]?=some x->x.X≠[]->¬r % (x.X.length:Int)=0);split
  ·exact⟨hs1,nq,Yb _⟩
  ·split
   ·refine⟨⟨by have:=hs.len;simp;omega,fun y hy=>?_⟩,nq.snoc (x:=⟨1,[],[[g]]⟩) (.inr rfl) fun _=>rfl,aaw⟩;rcases Xt.1 hy with hy|hy
    ·exact hs1.node y hy
    ·obtain rfl:=List.mem_singleton.1 hy;exact⟨aaw,aaw,fun r hr=>by simp at hr;subst hr;exact⟨aaw,aaw⟩⟩
   ·split
    ·exact⟨hs1.take _,nq.take _,by simp;omega⟩
    ·obtain⟨b1,b2,b3⟩:=Qk (c:=c) (r:=r) (n:=n) (g:=g) hxm;refine⟨hs1.set b1,sP hA b2 fun he=>b3 fun h5=>he h5 rfl x hx,by rw[Xb];exact Yb _⟩
def Qg {us:List nni}(hu:nnz m us):nnz (m+5) (oB c a n us):=by
 have hu5:∀u∈us,u.vars.length<=m+5/\u.w.length<=m+5:=fun u h=>by have:=hu.nA u h;omega
 have hl:=hu.len;unfold oB;split
 ·exact⟨aaw,fun u h=>by rw[XW h];exact⟨aaw,aaw⟩⟩
 ·rename_i u hu0;have h0:=hu.nA u (an hu0);split
  ·refine⟨by rw[Xb];omega,fun u' h=>?_⟩;rcases XI h with h|rfl
   ·exact hu5 u' h
   ·exact⟨by simp;omega,by show u.w.length<=_;omega⟩
  ·split
   ·refine⟨by rw[Xb];omega,fun u' h=>?_⟩;rcases XI h with h|rfl
    ·exact hu5 u' h
    ·exact⟨by show u.vars.length<=_;omega,by show (u.w.set _ _).length<=_;rw[Xb];omega⟩
   ·refine⟨by simp;omega,fun u' h=>?_⟩;rcases Xt.1 (Xz h) with h|h
    ·exact hu5 u' h
    ·rw[XW h];exact⟨aaw,aaw⟩
def Qh {w w5 n5:Int}(hm:m<2 ^ 29)(hs:nnp m d.F)(hu:nnz m d.V)(hd:d.nl<2 ^ 64)(hdec:w % 8<4->w5 % 12=5->d.nl.testBit (a % (d.F.length:Int)).toNat=true->∀x,d.F[(a % (d.F.length:Int)).toNat]?=some x->x.X≠[]->¬r % (x.X.length:Int)=0):
  nnm (fq w w5 a r n5 n d).1/\nnh (fun v=>(fq w w5 a r n5 n d).1.nl.testBit v=true) (fq w w5 a r n5 n d).1.F (fq w w5 a r n5 n d).2/\(fq w w5 a r n5 n d).1.F.length<=d.F.length+1/\nnp (m+1) (fq w w5 a r n5 n d).1.F/\nnz (m+5) (fq w w5 a r n5 n d).1.V:=by
 have fit:∀(g:Int) (ns:List nna) (D:Nat) (us:List nni),nnp (m+1) ns->nnz (m+5) us->D<2 ^ 64->nnm ⟨g,ns,D,us⟩:=fun g ns D us h1 h2 h3=>by
  refine⟨⟨by have:=h1.len;show (ns.length:Int)<_;omega,fun x hx=>?_⟩,h3,by have:=h2.len;show (us.length:Int)<_;omega,fun u hu=>?_⟩
  ·obtain⟨h1,h2,h3⟩:=h1.node x hx;exact⟨U,U,fun r hr=>by have:=(h3 r hr).2;omega⟩
  ·obtain⟨h1,h2⟩:=h2.nA u hu;exact⟨U,U⟩
 have hu5:nnz (m+5) d.V:=⟨by have:=hu.len;omega,fun u h=>by have:=hu.nA u h;omega⟩
 unfold fq;split
 ·rename_i hw4;obtain⟨b1,b2,b3⟩:=DH (m:=m) (A:=(a % (d.F.length:Int)).toNat) (c:=w5 % 12) (r:=r) (n:=n5) (g:=d.nn) hs;exact⟨fit _ _ _ _ b1 hu5 hd,b2.mono (fun v hv h5 h6 x hx hne=>by subst h6;exact hdec hw4 h5 hv x hx hne),b3,b1,hu5⟩
 ·obtain⟨b1,b2,b3⟩:=DH (m:=m) (A:=0) (c:=0) (r:=0) (n:=d.nn) (g:=d.nn) hs;have hbn:(dW 0 0 0 d.nn d.nn d.F).2.1=d.F:=by
   unfold dW;split
   ·rename_i h;exact(Xc (by have:=YC.1 h;omega)).symm
   ·rfl
  rw[hbn]at b2;have hU:nnz (m+5) (if w % 8=4 then d.V else oB (w % 8) a n d.V):=by
   split
   ·exact hu5
   ·exact Qg hu
  refine⟨fit _ _ _ _ (hs.mono (Yb m)) hU ?_,b2.mono fun v _ h5=>absurd h5 aax,Yb _,hs.mono (Yb m),hU⟩
  ·split
   ·exact ZS hd (U)
   ·exact hd
def Qi (h:nnj d):nnp 1024 d.F/\nnz 1024 d.V/\∀v x,d.F[v]?=some x->d.nl.testBit v=true->x.X=[]:=by
 have n8:=h.n.n1;have hsz:=h.nC.size;rw[ti]at hsz;refine⟨⟨U,fun x hx=>?_⟩,⟨by have:=h.V.1;omega,fun u hu=>?_⟩,fun v x hx hb=>(h.n.dec v x hx hb).1⟩
 ·obtain⟨v,hv⟩:=Xg.1 hx;have hn:=h.nC.node _ (an (kq (c:=fun _ _=>0) hv));have hr:=h.nC.X _ (an (kq (c:=fun _ _=>0) hv));rw[(jm ..).1,(jm ..).2,js]at hn;unfold fK at hr;rw[wL]at hr;have hpl:=tc n8.2 hn.2 h.n.Q;refine⟨U,?_⟩;by_cases hb:d.nl.testBit v=true
  ·rw[(h.n.dec v x hv hb).1];exact⟨aaw,fun r hr=>by cases hr⟩
  ·rw[o9 hb]at hr;have:=wg hn.2 h.n.Q;refine⟨U,fun r hr'=>?_⟩;have:=(hr.2 r hr').1;exact⟨fun e=>by rw[e]at this;simp at this;omega,U⟩
 ·have hu':=h.V.2 u hu;have:=tc n8.2 hu'.vars h.n.Q;have h2:=wg (x:=⟨0,u.vars,[]⟩) hu'.vars h.n.Q;have h3:=hu'.size;have e:aW d.F ⟨0,u.vars,[]⟩=bb (aE d.F) u.vars:=rfl;rw[e]at h2;omega
end Go.Proofs
namespace Go.Hx
variable {P:Program} {G:Nat->Option (List nnn)} {Γ Γ':aA} {H H':nnl} {w w':World}
variable {v:nnn}
inductive Ids (K:Nat->Prop):nnn->Prop
 |lit (v:Value):Ids K (.lit v)
 |L {n:Nat} {c:List nnn} (h:∀i (h:i<c.length),Ids K c[i]):Ids K (.L n c)
 |ni {n:Nat} {c:List nnn} (h:∀i (h:i<c.length),Ids K c[i]):Ids K (.ni c n)
 |agg {c:List nnn} (h:∀i (h:i<c.length),Ids K c[i]):Ids K (.agg c)
 |nc {c:List nnn} (h:∀i (h:i<c.length),Ids K c[i]):Ids K (.nc c)
 |nb {f:FuncId} {a b:List nnn} (h1:∀i (h:i<a.length),Ids K a[i]) (h2:∀i (h:i<b.length),Ids K b[i]):Ids K (.nb f a b)
 |Z {id g o l z:Nat} (h:K id):Ids K (.Z id g o l z)
 |Y {id g o:Nat} (h:K id):Ids K (.Y id g o)
 |nk {id:Nat} (h:K id):Ids K (.nk id)
def Ids.vS {cv:Value}(h:nnc P Γ H w v cv):Ids (fun id=>id<H.C/\H.get id≠some .nj) v:=by
 induction h with
 |lit v=>exact .lit v
 |nu a cap=>exact .L fun i h=>absurd h (Xo _)
 |L hb hlt hlen hcs hcell hrel ih=>exact .L fun i h=>ih i h (U)
 |Z h=>exact .Z ⟨h.1,h.2.2.1⟩
 |Y h=>exact .Y ⟨h.1,h.2.2.1⟩
 |ni hb hlt hcs hcell hrel ih=>exact .ni fun i h=>ih i h (U)
 |agg hcs hrel ih=>exact .agg fun i h=>ih i h (U)
 |nc hcs hrel ih=>exact .nc fun i h=>ih i h (U)
 |nb hfs hcs hf hc ih1 ih2=>exact .nb (fun i h=>ih1 i h U) fun i h=>ih2 i h (U)
 |nk h=>exact .nk ⟨h.1,h.2.2.1⟩
def Ids.sound {K:Nat->Prop}{Γ₁ Γ₂:aA}{H₁ H₂:nnl}(hK:∀id,K id->H₂.get id=H₁.get id/\Γ₂ id=Γ₁ id/\id<H₂.C)(ho:∀b,Γ₂.dD b->Γ₁.dD b)(h:Ids K v):
  ∀ {cv:Value},nnc P Γ₁ H₁ w v cv->nnc P Γ₂ H₂ w v cv:=by
 induction h with
 |lit v=>intro cv h;cases h;exact .lit _
 |L _ ih =>
  intro cv h;cases h with
  |nu a cap=>exact .nu a cap
  |L hb hlt hlen hcs hcell hrel=>exact .L (fun h=>hb (ho _ h)) hlt hlen hcs hcell fun i h1 h2=>ih i h1 (hrel i h1 h2)
 |ni _ ih=>intro cv h;cases h with|ni hb hlt hcs hcell hrel=>exact .ni (fun h=>hb (ho _ h)) hlt hcs hcell fun i h1 h2=>ih i h1 (hrel i h1 h2)
 |agg _ ih=>intro cv h;cases h with|agg hcs hrel=>exact .agg hcs fun i h1 h2=>ih i h1 (hrel i h1 h2)
 |nc _ ih=>intro cv h;cases h with|nc hcs hrel=>exact .nc hcs fun i h1 h2=>ih i h1 (hrel i h1 h2)
 |nb _ _ ih1 ih2=>intro cv h;cases h with|nb hfs hcs hf hc=>exact .nb hfs hcs (fun i h1 h2=>ih1 i h1 (hf i h1 h2)) fun i h1 h2=>ih2 i h1 (hc i h1 h2)
 |Z h =>
  intro cv hv;cases hv with
  |Z hv =>
   obtain⟨a,b,c,d⟩:=hv;obtain⟨e1,e2,e3⟩:=hK _ h;refine .Z ⟨e3,b,by rw[e1];exact c,fun g e cells hg=>?_⟩;rw[e1]at hg;rw[e2];exact d g e cells hg
 |Y h =>
  intro cv hv;cases hv with
  |Y hv =>
   obtain⟨a,b,c,d⟩:=hv;obtain⟨e1,e2,e3⟩:=hK _ h;refine .Y ⟨e3,b,by rw[e1];exact c,fun g e cells hg=>?_⟩;rw[e1]at hg;rw[e2];exact d g e cells hg
 |nk h =>
  intro cv hv;cases hv with
  |nk hv =>
   obtain⟨a,b,c,d,e⟩:=hv;obtain⟨e1,e2,e3⟩:=hK _ h;refine .nk ⟨e3,b,by rw[e1];exact c,fun st pend n env ps asg body hg=>?_,fun es hg=>?_⟩
   ·rw[e1]at hg;rw[e2];exact d st pend n env ps asg body hg
   ·rw[e1]at hg;rw[e2];exact e es hg
def SY {f:FuncId}{args:List nnn}{g n sz:Nat}{e:TypeId}{cells:List nnn}{rs:List Nat}(hrs:∀r,r∈rs->r<H.C)(hcl:∀i (h:i<cells.length),Ids (fun _=>False) cells[i])
  (hcall:∀H2:nnl,(∀r,r∈rs->H2.get r=H.get r)->af P G f args H2 fun r H'=>r=.ret (.Z H2.C g 0 n sz)/\H'=ext H2 [.O g e cells]):
  Ev.jg P G (.nb f [] []) args H (.Z H.C g 0 n sz) (Ev.dG H.C (H.C+1) (fun _=>true) (ext ⟨fun _=>none,H.C⟩ [.O g e cells]).get) 1 ⟨Ev.lI H.C (H.C+1),rs⟩:=by
 have hnew:Ev.dG H.C (H.C+1) (fun _=>true) (ext ⟨fun _=>none,H.C⟩ [.O g e cells]).get H.C=some (.O g e cells):=by
  unfold Ev.dG;rw[W8 ⟨aaz,X6 _⟩,W8 rfl];exact bV (H:=⟨fun _=>none,H.C⟩)
 have hout:∀r,r≠H.C->Ev.dG H.C (H.C+1) (fun _=>true) (ext ⟨fun _=>none,H.C⟩ [.O g e cells]).get r=none:=fun r hr=>by
  unfold Ev.dG;rw[W7 U]
 refine⟨hrs,fun r hr=>?_,fun c hc=>?_,fun H2 hag hres hn2=>aC.nb ⟨?_,fun Γ w cargs R hr=>?_⟩⟩
 ·have:r=H.C:=Xw fun h=>by rw[hout r h]at hr;cases hr
  subst this;exact⟨Ev.xN aaz (X6 _),.inr ⟨aaz,X6 _⟩⟩
 ·obtain rfl:c=0:=U
  rw[show H.C+0=H.C from rfl,hnew];rfl
 ·exact(hcall H2 hag).1
 have hrid:H2.get H.C=some .nj:=hres 0 U;rw[List.nil_append,List.append_nil]at hr;refine((hcall H2 hag).2 Γ w cargs R hr).mono ?_;rintro x w' ⟨r,H',Γ',hend,⟨rfl,rfl⟩,R',E,hn⟩;obtain⟨H3,hH3⟩:∃H3:nnl,H3=⟨Ev.bK (Ev.dG H.C (H.C+1) (fun _=>true) (ext ⟨fun _=>none,H.C⟩ [.O g e cells]).get) H2.get,H2.C⟩:=⟨_,rfl⟩
 have h3n:H3.C=H2.C:=by rw[hH3]
 have h3r:H3.get H.C=some (.O g e cells):=by rw[hH3];show Ev.bK _ _ _=_;unfold Ev.bK;rw[hnew]
 have h3o:∀r,r≠H.C->H3.get r=H2.get r:=fun r h=>by rw[hH3];show Ev.bK _ _ _=_;unfold Ev.bK;rw[hout r h]
 have hxo:∀r,r<H2.C->(ext H2 [.O g e cells]).get r=H2.get r:=fun r h=>cV H2 _ r h;have hxn:(ext H2 [.O g e cells]).get H2.C=some (.O g e cells):=bV;have hxf:∀r,H2.C<r->(ext H2 [.O g e cells]).get r=none:=fun r h=>by
  cases hg:(ext H2 [.O g e cells]).get r with
  |none=>rfl
  |some b=>have:=R'.C r b hg;rw[show (ext H2 [.O g e cells]).C=H2.C+1 from rfl]at this;omega
 have h2f:∀r,H2.C<=r->H2.get r=none:=fun r h=>by
  cases hg:H2.get r with
  |none=>rfl
  |some b=>have:=R.C r b hg;omega
 obtain⟨Γ3,hΓ3⟩:∃ Γ3:aA,Γ3=fun id=>if id=H.C then Γ' H2.C else if id=H2.C then none else Γ' id:=⟨_,rfl⟩
 have g3r:Γ3 H.C=Γ' H2.C:=by rw[hΓ3];exact W8 rfl
 have g3n:Γ3 H2.C=none:=by rw[hΓ3];show (if _ then _ else if _ then _ else _)=_;rw[W7 U,W8 rfl]
 have g3o:∀id,id≠H.C->id≠H2.C->Γ3 id=Γ' id:=fun id h1 h2=>by rw[hΓ3];show (if _ then _ else if _ then _ else _)=_;rw[W7 h1,W7 h2]
 have hΓrid:Γ' H.C=none:=R'.nj _ (by rw[hxo _ U];exact hrid);have back:∀id x,Γ3 id=some x->∃id',Γ' id'=some x/\((id=H.C/\id'=H2.C)\/(id≠H.C/\id≠H2.C/\id'=id)):=fun id x h=>by
  by_cases h1:id=H.C
  ·subst h1;rw[g3r]at h;exact⟨_,h,.inl ⟨rfl,rfl⟩⟩
  ·by_cases h2:id=H2.C
   ·subst h2;rw[g3n]at h;cases h
   ·rw[g3o id h1 h2]at h;exact⟨_,h,.inr ⟨h1,h2,rfl⟩⟩
 have ho:∀b,Γ3.dD b->Γ'.dD b:=fun b ⟨id,base,m,h⟩=>let ⟨id',h',_⟩:=back _ _ h;⟨id',base,m,h'⟩
 have hΓold:∀id,id<H2.C->id≠H.C->∀b,H2.get id=some b->b≠.nj->Γ' id=Γ' id:=fun _ _ _ _ _ _=>rfl;have hKs:∀id,(id<H2.C/\H2.get id≠some .nj)->H3.get id=(ext H2 [.O g e cells]).get id/\Γ3 id=Γ' id/\id<H3.C:=fun id ⟨h1,h2⟩=>by
  have hne:id≠H.C:=fun h=>h2 (h ▸ hrid);exact⟨(h3o id hne).trans (hxo id h1).symm,g3o id hne U,U⟩
 have hEE:Evo Γ H2 w Γ3 H3 w':=by
  refine⟨E.os,E.tape,E.output,E.size,fun b hb hno=>⟨(E.nf b hb hno).1,fun h=>(E.nf b hb hno).2 (ho b h)⟩,fun id h1 h2 x' hx'=>?_,E.nq,E.kind,fun id b x y hb hlt=>?_⟩;rotate_left
  ·obtain⟨id',h',hor⟩:=back _ _ hb;obtain⟨x',y',h''⟩:=E.nL id' b x y h' hlt;rcases hor with ⟨_,rfl⟩|⟨_,_,rfl⟩
   ·obtain⟨z,hz⟩:=R.nB _ _ h'';have:=R.C _ _ hz;omega
   ·exact⟨x',y',h''⟩
  by_cases hid:id=H.C
  ·subst hid;exact⟨.nj,hrid,trivial⟩
  ·rw[h3o id hid]at hx';obtain⟨x,hx,hle⟩:=E.na id h1 (by rw[show (ext H2 [.O g e cells]).C=H2.C+1 from rfl];omega) x' (by rw[hxo id h1];exact hx');refine⟨x,hx,?_⟩;have:=g3o id hid U;cases x<;>cases x'<;>simp only[Blk.le,this]at hle ⊢<;>exact hle
 have cellok:∀(cs:List nnn) (w0:World),(∀i (h:i<cs.length),Ids (fun id=>id<H2.C/\H2.get id≠some .nj) cs[i])->∀i (h:i<cs.length) cv,nnc P Γ' (ext H2 [.O g e cells]) w0 cs[i] cv->nnc P Γ3 H3 w0 cs[i] cv:=fun cs w0 hc i h cv hv=>(hc i h).sound hKs ho hv;have oldIds:∀id g0 e0 c0,H2.get id=some (.O g0 e0 c0)->∀i (h:i<c0.length),Ids (fun id=>id<H2.C/\H2.get id≠some .nj) c0[i]:=fun id g0 e0 c0 hg i hi=>by
  have h1:=R.O id g0 e0 c0 hg;cases hΓ:Γ id with
  |none=>rw[hΓ]at h1;rw[h1]at hi;exact absurd hi (Xo _)
  |some y =>
   obtain⟨b,base,m⟩:=y;rw[hΓ]at h1;obtain⟨c,a1,a2,a3,a4⟩:=h1;obtain⟨cv,_,b2⟩:=a4 i hi;exact .vS b2
 have arrC:∀id id' g0 e0 c0,Γ3 id=Γ' id'->(ext H2 [.O g e cells]).get id'=some (.O g0 e0 c0)->(∀i (h:i<c0.length),Ids (fun id=>id<H2.C/\H2.get id≠some .nj) c0[i])->(match Γ3 id with
   |some (b,base,n)=>∃c,w'.heap[b]?=some (.cells c e0 (0,0))/\c.size=n/\base+c0.length<=n/\∀i (h:i<c0.length),∃cv,c[base+i]?=some cv/\nnc P Γ3 H3 w' c0[i] cv
   |none=>c0=[]):=fun id id' g0 e0 c0 hΓ hg hc=>by
  have h1:=R'.O id' g0 e0 c0 hg;rw[hΓ];cases hΓ':Γ' id' with
  |none=>rw[hΓ']at h1;exact h1
  |some y =>
   obtain⟨b,base,m⟩:=y;rw[hΓ']at h1;obtain⟨c,a1,a2,a3,a4⟩:=h1;exact⟨c,a1,a2,a3,fun i hi=>let ⟨cv,b1,b2⟩:=a4 i hi;⟨cv,b1,cellok c0 w' hc i hi cv b2⟩⟩
 have R3:nng P G Γ3 H3 w':=by
  refine⟨fun id g0 e0 c0 hg=>?_,fun id st pend m env ps asg body hg=>?_,fun id es hg=>?_,fun id hg=>?_,fun id id' b base m base' m' h h'=>?_,fun id y h=>?_,fun id b base m h=>?_,fun id y h=>?_,fun g0 c0 h=>?_,R'.nN⟩
  ·by_cases hid:id=H.C
   ·subst hid;rw[h3r]at hg;cases hg;exact arrC _ H2.C g e cells g3r hxn fun i hi=>by
     have:∀v,Ids (fun _=>False) v->Ids (fun id=>id<H2.C/\H2.get id≠some .nj) v:=fun v hv=>by
      induction hv with
      |lit v=>exact .lit v
      |L _ ih=>exact .L ih
      |ni _ ih=>exact .ni ih
      |agg _ ih=>exact .agg ih
      |nc _ ih=>exact .nc ih
      |nb _ _ i1 i2=>exact .nb i1 i2
      |Z h=>exact h.elim
      |Y h=>exact h.elim
      |nk h=>exact h.elim
     exact this _ (hcl i hi)
   ·rw[h3o id hid]at hg;have hlt:=R.C id _ hg;exact arrC id id g0 e0 c0 (g3o id hid U) (by rw[hxo id hlt];exact hg) (oldIds id g0 e0 c0 hg)
  ·have hid:id≠H.C:=fun h=>by subst h;rw[h3r]at hg;cases hg
   rw[h3o id hid]at hg;have hlt:=R.C id _ hg;obtain⟨b0,r0,p1,p2,p3,p4,p5,p6,p7,p8,p9⟩:=R.loop id st pend m env ps asg body hg;obtain⟨b,r,a1,a2,a3,a4,a5,a6,a7,a8,a9⟩:=R'.loop id st pend m env ps asg body (by rw[hxo id hlt];exact hg);exact⟨b,r,by rw[g3o id hid U];exact a1,a2,a3,a4,a5,a6,a7,a8,fun t ht=>(Ids.vS (p9 t U)).sound hKs ho (a9 t ht)⟩
  ·have hid:id≠H.C:=fun h=>by subst h;rw[h3r]at hg;cases hg
   rw[h3o id hid]at hg;have hlt:=R.C id _ hg;obtain⟨b,a1,a2⟩:=R'.mp id es (by rw[hxo id hlt];exact hg);exact⟨b,by rw[g3o id hid U];exact a1,a2⟩
  ·have hid:id≠H.C:=fun h=>by subst h;rw[h3r]at hg;cases hg
   rw[h3o id hid]at hg;have hlt:=R.C id _ hg;rw[g3o id hid U];exact R'.nj id (by rw[hxo id hlt];exact hg)
  ·obtain⟨i1,q1,c1⟩:=back _ _ h;obtain⟨i2,q2,c2⟩:=back _ _ h';have:=R'.inj _ _ _ _ _ _ _ q1 q2;omega
  ·obtain⟨i1,q1,c1⟩:=back _ _ h;rcases c1 with ⟨rfl,_⟩|⟨h1,h2,rfl⟩
   ·exact⟨_,h3r⟩
   ·obtain⟨y',hy⟩:=R'.nB _ _ q1;have hlt:=R'.C _ _ hy;rw[show (ext H2 [.O g e cells]).C=H2.C+1 from rfl]at hlt;exact⟨y',by rw[h3o _ h1,<- hxo _ U];exact hy⟩
  ·obtain⟨i1,q1,c1⟩:=back _ _ h;exact R'.lt _ _ _ _ q1
  ·by_cases hid:id=H.C
   ·omega
   ·rw[h3o id hid]at h;have:=R.C id _ h;omega
  ·exact(R.nz g0 c0 h).aU hEE (U)
 refine⟨.ret (.Z H.C g 0 n sz),H3,Γ3,?_,⟨rfl,hH3⟩,R3,hEE,U⟩;cases x with
 |returned cv =>
  have hv:nnc P Γ' (ext H2 [.O g e cells]) w' (.Z H2.C g 0 n sz) cv:=hend;show nnc P Γ3 H3 w' (.Z H.C g 0 n sz) cv;cases hv with
  |Z hv =>
   obtain⟨a,b,c,d⟩:=hv;refine .Z ⟨U,b,by rw[h3r];simp,fun g0 e0 c0 hg=>?_⟩;rw[h3r]at hg;cases hg;rw[g3r];exact d g e cells hxn
 |_=>exact hend.elim
end Go.Hx
namespace Go.Hx
variable {P:Program} {G:Nat->Option (List nnn)} {Γ Γ':aA} {H H':nnl} {w w':World}
variable {e:TypeId}
inductive nnN (id g id' g':Nat):nnn->nnn->Prop
 |same {v:nnn} (h:Ids (fun _=>False) v):nnN id g id' g' v v
 |hole:nnN id g id' g' (.Z id g 0 0 1) (.Z id' g' 0 0 1)
 |L {len:Nat} {c c':List nnn} (hl:c'.length=c.length) (h:∀i (h:i<c.length) (h':i<c'.length),nnN id g id' g' c[i] c'[i]):nnN id g id' g' (.L len c) (.L len c')
 |agg {c c':List nnn} (hl:c'.length=c.length) (h:∀i (h:i<c.length) (h':i<c'.length),nnN id g id' g' c[i] c'[i]):nnN id g id' g' (.agg c) (.agg c')
theorem nnN.sound {id g id' g':Nat}{Γ₁ Γ₂:aA}{H₁ H₂:nnl}(h1:H₁.get id=some (.O g e []))(h2:H₂.get id'=some (.O g' e []))(hΓ:Γ₂ id'=Γ₁ id)(hlt:id'<H₂.C)(ho:∀b,Γ₂.dD b->Γ₁.dD b){v v':nnn}(h:nnN id g id' g' v v'):
  ∀ {cv:Value},nnc P Γ₁ H₁ w v cv->nnc P Γ₂ H₂ w v' cv:=by
 induction h with
 |same h=>exact fun hv=>h.sound (fun _ h=>h.elim) ho hv
 |hole =>
  intro cv hv;cases hv with
  |Z hv =>
   obtain⟨_,b,_,d⟩:=hv;have h4:=(d _ _ _ h1).2 rfl;refine .Z ⟨hlt,b,by rw[h2];simp,fun g0 e0 c0 hg=>?_⟩;rw[h2]at hg;cases hg;exact⟨aaz,fun _=>by rw[hΓ];exact h4⟩
 |L hl _ ih =>
  intro cv h;cases h with
  |nu a cap =>
   rename_i c' _;obtain rfl:=Xc (l:=c') (by simpa using hl);exact .nu a cap
  |L hb hlt' hlen hcs hcell hrel=>exact .L (fun h=>hb (ho _ h)) hlt' hlen U hcell fun i a b=>ih i U a (hrel i U b)
 |agg hl _ ih =>
  intro cv h;cases h with
  |agg hcs hrel=>exact .agg U fun i a b=>ih i U a (hrel i U b)
def SZ {f:FuncId}{args:List nnn}{rs:List Nat}(V:Nat->Nat->nnn)(hV:∀id g,nnN id g H.C 0 (V id g) (V H.C 0))(hrs:∀r,r∈rs->r<H.C)
  (hcall:∀H2:nnl,(∀r,r∈rs->H2.get r=H.get r)->af P G f args H2 fun r H'=>∃id g,r=.ret (V id g)/\H2.C<=id/\id<H'.C/\(∀j,j<H2.C->H'.get j=H2.get j)/\H'.get id=some (.O g e [])):
  Ev.jg P G (.nb f [] []) args H (V H.C 0) (Ev.dG H.C (H.C+1) (fun _=>true) (ext ⟨fun _=>none,H.C⟩ [.O 0 e []]).get) 1 ⟨Ev.lI H.C (H.C+1),rs⟩:=by
 have hnew:Ev.dG H.C (H.C+1) (fun _=>true) (ext ⟨fun _=>none,H.C⟩ [.O 0 e []]).get H.C=some (.O 0 e []):=by
  unfold Ev.dG;rw[W8 ⟨aaz,X6 _⟩,W8 rfl];exact bV (H:=⟨fun _=>none,H.C⟩)
 have hout:∀r,r≠H.C->Ev.dG H.C (H.C+1) (fun _=>true) (ext ⟨fun _=>none,H.C⟩ [.O 0 e []]).get r=none:=fun r hr=>by
  unfold Ev.dG;rw[W7 U]
 refine⟨hrs,fun r hr=>?_,fun c hc=>?_,fun H2 hag hres hn2=>aC.nb ⟨?_,fun Γ w cargs R hr=>?_⟩⟩
 ·have:r=H.C:=Xw fun h=>by rw[hout r h]at hr;cases hr
  subst this;exact⟨Ev.xN aaz (X6 _),.inr ⟨aaz,X6 _⟩⟩
 ·obtain rfl:c=0:=U
  rw[show H.C+0=H.C from rfl,hnew];rfl
 ·exact(hcall H2 hag).1
 have hrid:H2.get H.C=some .nj:=hres 0 U;rw[List.nil_append,List.append_nil]at hr;refine((hcall H2 hag).2 Γ w cargs R hr).mono ?_;rintro x w' ⟨r,H',Γ',hend,⟨id,g,rfl,q1,q2,q3,q4⟩,R',E,hn⟩;obtain⟨H3,hH3⟩:∃H3:nnl,H3=⟨Ev.bK (Ev.dG H.C (H.C+1) (fun _=>true) (ext ⟨fun _=>none,H.C⟩ [.O 0 e []]).get) H2.get,H2.C⟩:=⟨_,rfl⟩
 have h3n:H3.C=H2.C:=by rw[hH3]
 have h3r:H3.get H.C=some (.O 0 e []):=by rw[hH3];show Ev.bK _ _ _=_;unfold Ev.bK;rw[hnew]
 have h3o:∀r,r≠H.C->H3.get r=H2.get r:=fun r h=>by rw[hH3];show Ev.bK _ _ _=_;unfold Ev.bK;rw[hout r h]
 obtain⟨Γ3,hΓ3⟩:∃ Γ3:aA,Γ3=fun j=>if j=H.C then Γ' id else if H2.C<=j then none else Γ' j:=⟨_,rfl⟩
 have g3r:Γ3 H.C=Γ' id:=by rw[hΓ3];exact W8 rfl
 have g3n:∀j,j≠H.C->H2.C<=j->Γ3 j=none:=fun j h1 h2=>by rw[hΓ3];show (if _ then _ else if _ then _ else _)=_;rw[W7 h1,W8 h2]
 have g3o:∀j,j≠H.C->j<H2.C->Γ3 j=Γ' j:=fun j h1 h2=>by rw[hΓ3];show (if _ then _ else if _ then _ else _)=_;rw[W7 h1,W7 U]
 have back:∀j x,Γ3 j=some x->∃j',Γ' j'=some x/\((j=H.C/\j'=id)\/(j≠H.C/\j<H2.C/\j'=j)):=fun j x h=>by
  by_cases h1:j=H.C
  ·subst h1;rw[g3r]at h;exact⟨_,h,.inl ⟨rfl,rfl⟩⟩
  ·rcases Xu j H2.C with h2|h2
   ·rw[g3o j h1 h2]at h;exact⟨_,h,.inr ⟨h1,h2,rfl⟩⟩
   ·rw[g3n j h1 h2]at h;cases h
 have ho:∀b,Γ3.dD b->Γ'.dD b:=fun b ⟨j,base,m,h⟩=>let ⟨j',h',_⟩:=back _ _ h;⟨j',base,m,h'⟩
 have hKs:∀j,(j<H2.C/\H2.get j≠some .nj)->H3.get j=H'.get j/\Γ3 j=Γ' j/\j<H3.C:=fun j ⟨h1,h2⟩=>by
  have hne:j≠H.C:=fun h=>h2 (h ▸ hrid);exact⟨(h3o j hne).trans (q3 j h1).symm,g3o j hne h1,U⟩
 have hEE:Evo Γ H2 w Γ3 H3 w':=by
  refine⟨E.os,E.tape,E.output,E.size,fun b hb hno=>⟨(E.nf b hb hno).1,fun h=>(E.nf b hb hno).2 (ho b h)⟩,fun j h1 h2 x' hx'=>?_,E.nq,E.kind,fun j b x y hb hlt=>?_⟩;rotate_left
  ·obtain⟨j',h',hor⟩:=back _ _ hb;obtain⟨x',y',h''⟩:=E.nL j' b x y h' hlt;rcases hor with ⟨_,rfl⟩|⟨_,_,rfl⟩
   ·obtain⟨z,hz⟩:=R.nB _ _ h'';have:=R.C _ _ hz;omega
   ·exact⟨x',y',h''⟩
  by_cases hid:j=H.C
  ·subst hid;exact⟨.nj,hrid,trivial⟩
  ·rw[h3o j hid]at hx';obtain⟨x,hx,hle⟩:=E.na j h1 U x' (by rw[q3 j h1];exact hx');refine⟨x,hx,?_⟩;have:=g3o j hid h1;cases x<;>cases x'<;>simp only[Blk.le,this]at hle ⊢<;>exact hle
 have oldIds:∀j g0 e0 c0,H2.get j=some (.O g0 e0 c0)->∀i (h:i<c0.length),Ids (fun id=>id<H2.C/\H2.get id≠some .nj) c0[i]:=fun j g0 e0 c0 hg i hi=>by
  have h1:=R.O j g0 e0 c0 hg;cases hΓ:Γ j with
  |none=>rw[hΓ]at h1;rw[h1]at hi;exact absurd hi (Xo _)
  |some y =>
   obtain⟨b,base,m⟩:=y;rw[hΓ]at h1;obtain⟨c,a1,a2,a3,a4⟩:=h1;obtain⟨cv,_,b2⟩:=a4 i hi;exact .vS b2
 have R3:nng P G Γ3 H3 w':=by
  refine⟨fun j g0 e0 c0 hg=>?_,fun j st pend m env ps asg body hg=>?_,fun j es hg=>?_,fun j hg=>?_,fun j j2 b base m base' m' h h'=>?_,fun j y h=>?_,fun j b base m h=>?_,fun j y h=>?_,fun g0 c0 h=>?_,R'.nN⟩
  ·by_cases hid:j=H.C
   ·subst hid;rw[h3r]at hg;cases hg;have h1:=R'.O id g e [] q4;rw[g3r];cases hΓ':Γ' id with
    |none=>rfl
    |some y =>
     obtain⟨b,base,m⟩:=y;rw[hΓ']at h1;obtain⟨c,a1,a2,a3,_⟩:=h1;exact⟨c,a1,a2,a3,fun i hi=>absurd hi (Xo _)⟩
   ·rw[h3o j hid]at hg;have hlt:=R.C j _ hg;have h1:=R'.O j g0 e0 c0 (by rw[q3 j hlt];exact hg);rw[g3o j hid hlt];cases hΓ':Γ' j with
    |none=>rw[hΓ']at h1;exact h1
    |some y =>
     obtain⟨b,base,m⟩:=y;rw[hΓ']at h1;obtain⟨c,a1,a2,a3,a4⟩:=h1;exact⟨c,a1,a2,a3,fun i hi=>let ⟨cv,b1,b2⟩:=a4 i hi;⟨cv,b1,(oldIds j g0 e0 c0 hg i hi).sound hKs ho b2⟩⟩
  ·have hid:j≠H.C:=fun h=>by subst h;rw[h3r]at hg;cases hg
   rw[h3o j hid]at hg;have hlt:=R.C j _ hg;obtain⟨b0,r0,p1,p2,p3,p4,p5,p6,p7,p8,p9⟩:=R.loop j st pend m env ps asg body hg;obtain⟨b,r,a1,a2,a3,a4,a5,a6,a7,a8,a9⟩:=R'.loop j st pend m env ps asg body (by rw[q3 j hlt];exact hg);exact⟨b,r,by rw[g3o j hid hlt];exact a1,a2,a3,a4,a5,a6,a7,a8,fun t ht=>(Ids.vS (p9 t U)).sound hKs ho (a9 t ht)⟩
  ·have hid:j≠H.C:=fun h=>by subst h;rw[h3r]at hg;cases hg
   rw[h3o j hid]at hg;have hlt:=R.C j _ hg;obtain⟨b,a1,a2⟩:=R'.mp j es (by rw[q3 j hlt];exact hg);exact⟨b,by rw[g3o j hid hlt];exact a1,a2⟩
  ·have hid:j≠H.C:=fun h=>by subst h;rw[h3r]at hg;cases hg
   rw[h3o j hid]at hg;have hlt:=R.C j _ hg;rw[g3o j hid hlt];exact R'.nj j (by rw[q3 j hlt];exact hg)
  ·obtain⟨i1,k1,c1⟩:=back _ _ h;obtain⟨i2,k2,c2⟩:=back _ _ h';have:=R'.inj _ _ _ _ _ _ _ k1 k2;omega
  ·obtain⟨i1,k1,c1⟩:=back _ _ h;rcases c1 with ⟨rfl,_⟩|⟨h1,h2,rfl⟩
   ·exact⟨_,h3r⟩
   ·obtain⟨y',hy⟩:=R'.nB _ _ k1;exact⟨y',by rw[h3o _ h1,<- q3 _ h2];exact hy⟩
  ·obtain⟨i1,k1,c1⟩:=back _ _ h;exact R'.lt _ _ _ _ k1
  ·by_cases hid:j=H.C
   ·omega
   ·rw[h3o j hid]at h;have:=R.C j _ h;omega
  ·exact(R.nz g0 c0 h).aU hEE (U)
 refine⟨.ret (V H.C 0),H3,Γ3,?_,⟨rfl,hH3⟩,R3,hEE,U⟩;cases x with
 |returned cv=>exact(hV id g).sound q4 h3r g3r U ho hend
 |_=>exact hend.elim
end Go.Hx
namespace Go.Hx
variable {P:Program} {G:Nat->Option (List nnn)} {all:Array Oper} {tail:St->Prop} {b i:Nat} {bs:List Nat} {acc:List (Nat × FP)} {K:FP->St->Prop} {s:St} {d:Option Tmp} {ty:TypeId} {pos:String} {aft:Array Edge} {g:Option (Nat × Bool)}
def DN (bs:List Nat):Ev.cZ P G all tail bs i acc [] s=tail s:=by cases bs<;>rfl
def DO (op:Op)(rest:List Oper):Ev.cZ P G all tail (b :: bs) i acc (⟨d,op,ty,pos,aft,none⟩ :: rest) s =
  Ev.bA P G ⟨d,op,ty,pos,aft,none⟩ (fun f s'=>fP b f acc/\Ev.cZ P G all tail bs (i+1) (dH i f acc) rest s') s:=by
 simp[Ev.cZ,eH,bd]
def DP (fv:Operand)(args:Array Operand)(ats:Array TypeId):Ev.bA P G ⟨d,.call ⟨.value fv,args,ats⟩,ty,pos,aft,g⟩ K s =
  ∃v e k f,Ev.jg P G (ak G s.ρ fv) (args.toList.map (ak G s.ρ)) s.H v e k f/\K f ⟨aF s.ρ d v,⟨Ev.bK e s.H.get,s.H.C+k⟩⟩:=rfl
def QB (x:Operand):Ev.bA P G ⟨d,.move x,ty,pos,aft,g⟩ K s=bA P G ⟨d,.move x,ty,pos,aft,g⟩ K s:=rfl
def DQ (t:TypeId)(x:Operand):Ev.bA P G ⟨d,.load t x,ty,pos,aft,g⟩ K s=bA P G ⟨d,.load t x,ty,pos,aft,g⟩ K s:=rfl
def QC (t:TypeId)(x:Operand)(f:Nat):Ev.bA P G ⟨d,.fieldAddr t x f,ty,pos,aft,g⟩ K s=bA P G ⟨d,.fieldAddr t x f,ty,pos,aft,g⟩ K s:=rfl
def DR (t:TypeId)(p:Array (Nat × Operand)):Ev.bA P G ⟨d,.build t p,ty,pos,aft,g⟩ K s=bA P G ⟨d,.build t p,ty,pos,aft,g⟩ K s:=rfl
def DS (a:Nat):Ev.lI a (a+1)=[a]:=by
 unfold Ev.lI;rw[Zk];simp[Yj]
def DT {H:nnl}{bk:Blk}:(⟨Ev.bK (Ev.dG H.C (H.C+1) (fun _=>true) (ext ⟨fun _=>none,H.C⟩ [bk]).get) H.get,H.C+1⟩:nnl)=ext H [bk]:=by
 unfold ext;simp only[X7];congr 1
 funext j
 unfold Ev.bK Ev.dG;by_cases h:H.C<=j/\j<H.C+1
 ·have:j=H.C:=U
  subst this;simp
 ·simp[h]
def QD (t:TypeId):Ev.bA P G ⟨d,.alloc t,ty,pos,aft,g⟩ K s=bA P G ⟨d,.alloc t,ty,pos,aft,g⟩ K s:=rfl
end Go.Hx
