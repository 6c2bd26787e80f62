/- Own work: contracts. -/
import Derived.Test.YtebhdkihcdmmjaaGreatConB
set_option linter.all false
set_option maxHeartbeats 8000000
set_option maxRecDepth 100000
namespace Go.Proofs
open Go.Hx Tryz
variable {rem:Bool}{a b g:Int}{P l:List Int}{os ps r:List Nat}{cs:List nnn}{i k known n nl nx u v:Nat}{S:Nat->Prop}{e:TypeId}{H:nnl}
def oS (h:∀x∈l,0<=x):0<=l.sum:=by
 induction l with
 |nil=>simp
 |cons a l ih =>
  rw[Y9];have:=h a aaw;have:=ih fun x hx=>h x (by simp[hx]);omega
def Fi (h:l[i]?=some a):(l.set i b).sum=l.sum-a+b:=by
 induction l generalizing i with
 |nil=>simp at h
 |cons x l ih =>
  cases i with
  |zero=>simp at h;subst h;simp only[List.set_cons_zero,Y9];omega
  |succ i =>
   simp only[List.set_cons_succ,Y9];rw[ih (by simpa using h)];omega
def Ts (h:∀x∈l,0<=x/\x<=b):l.sum<=b*l.length:=by
 induction l with
 |nil=>simp
 |cons a l ih =>
  rw[Y9,List.length_cons];have:=(h a aaw).2;have:=ih fun x hx=>h x (by simp[hx]);rw[show b*((l.length+1:Nat):Int)=b*l.length+b by rw[Int.natCast_add,ZR];simp];omega
def wF (n:Nat)(bs:List Int)(from':Int):List Int:=(List.range n).map fun (k:Nat)=>if bs.length=0 then 0 else bs.getD ((from'+(k:Int)) % (bs.length:Int)).toNat 0 % 8
def Fj (n:Nat)(bs:List Int)(from':Int):(wF n bs from').length=n:=by simp[wF]
def Fk (bs:List Int)(from':Int)(h:k<n):(wF n bs from')[k]?=some (if bs.length=0 then 0 else bs.getD ((from'+(k:Int)) % (bs.length:Int)).toNat 0 % 8):=by
 unfold wF;rw[List.getElem?_map,aau h];rfl
def Tt (n:Nat)(bs:List Int)(from':Int):∀x∈wF n bs from',0<=x/\x<=7:=fun x hx=>by
 unfold wF at hx;obtain⟨k,_,rfl⟩:=Xx.1 hx;split<;>omega
def wc (g s:Int)(st:List Int × Nat)(m:Nat):List Int × Nat:=if 0<st.1.getD m 0 then (st.1.set m (g*st.1.getD m 0 / s),m) else st
def iS (g:Int)(c:List Int)(m:Nat):List Int × Nat:=(List.range m).foldl (wc g c.sum) (c,0)
def Fl (g:Int)(c:List Int)(m:Nat):iS g c (m+1)=wc g c.sum (iS g c m) m:=by unfold iS;rw[Yj,Yn];rfl
def nj (g:Int)(n:Nat)(bs:List Int)(from':Int):List Int:=(iS g (wF n bs from') n).1.set (iS g (wF n bs from') n).2 ((iS g (wF n bs from') n).1.getD (iS g (wF n bs from') n).2 0+(g-(iS g (wF n bs from') n).1.sum))
structure RInv (g:Int)(c:List Int)(m:Nat)(d:List Int)(last:Nat):Prop where
 dl:d.length=c.length
 d0:∀x∈d,0<=x
 dd:d.drop m=c.drop m
 dg:(d.take m).sum<=g
 ds:c.sum*(d.take m).sum<=g*(c.take m).sum
 la:last<c.length
def Fm {c:List Int}(hg:1<=g)(hc:∀x∈c,0<=x)(hl:0<c.length):∀m,m<=c.length->RInv g c m (iS g c m).1 (iS g c m).2:=by
 intro m
 induction m with
 |zero=>intro _;exact⟨rfl,hc,rfl,by simp;omega,aaw,hl⟩
 |succ m ih =>
  intro hm;obtain⟨hdl,hd0,hdd,hdg,hds,hla⟩:=ih U;rw[Fl];generalize iS g c m=st at *
  obtain⟨d,last⟩:=st;simp only at hdl hd0 hdd hdg hds hla;obtain⟨x,hcx⟩:=get_of_lt (l:=c) (i:=m) U;have hx0:=hc x (an hcx);have hdx:d[m]?=some x:=by
   have h1:(d.drop m)[0]?=d[m]?:=(by rw[YS];rfl);have h2:(c.drop m)[0]?=c[m]?:=(by rw[YS];rfl);rw[<- h1,hdd,h2,hcx]
  have hdd':d.drop (m+1)=c.drop (m+1):=by
   have:=congrArg (List.drop 1) hdd
   rwa [Y3,Y3]at this
  have hct:(c.take (m+1)).sum=(c.take m).sum+x:=by rw[aQ hcx];simp
  have hcs:(c.take (m+1)).sum+(c.drop (m+1)).sum=c.sum:=by rw[<- aaa,XO]
  have hcd0:=oS (l:=c.drop (m+1)) fun y hy=>hc y (YJ hy);have hc00:=oS (l:=c.take m) fun y hy=>hc y (Xz hy);have hd00:=oS (l:=d.take m) fun y hy=>hd0 y (Xz hy);unfold wc;rw[cP hdx];by_cases hx:0<x
  ·rw[W8 hx];have gx:0<=g*x:=Ze U hx0;have y0:0<=g*x / c.sum:=Int.ediv_nonneg gx U;have y2:c.sum*(g*x / c.sum)<=g*x:=aat U;have dt:((d.set m (g*x / c.sum)).take (m+1)).sum=(d.take m).sum+g*x / c.sum:=by
    rw[aQ (Xj U),Zv aaz];simp
   have hs2:c.sum*((d.take m).sum+g*x / c.sum)<=g*(c.take (m+1)).sum:=by
    rw[ZR,hct,ZR];omega
   have hle:(d.take m).sum+g*x / c.sum<=g:=by
    have h1:g*(c.take (m+1)).sum<=g*c.sum:=YI U U;have h2:c.sum*((d.take m).sum+g*x / c.sum)<=c.sum*g:=(by rw[Z6 c.sum g];omega);exact aag h2 (U)
   refine⟨by simp[hdl],fun y hy=>?_,?_,by dsimp only;rw[dt];exact hle,by dsimp only;rw[dt];exact hs2,by dsimp only;omega⟩
   ·rcases XI hy with h|h
    ·exact hd0 y h
    ·omega
   ·rw[<- hdd',List.drop_set_of_lt U]
  ·rw[W7 hx];have x0:x=0:=U;have dt:(d.take (m+1)).sum=(d.take m).sum:=(by rw[aQ hdx,x0];simp);rw[x0,Z7]at hct;exact⟨hdl,hd0,hdd',by dsimp only;rw[dt];exact hdg,by dsimp only;rw[dt,hct];exact hds,hla⟩
def Tu (hg:1<=g)(hn:1<=n)(bs:List Int)(from':Int):jx g n (nj g n bs from'):=by
 have hw:=Fj n bs from';have I:=Fm (g:=g) (c:=wF n bs from') hg (fun x hx=>(Tt n bs from' x hx).1) U n U;unfold nj;generalize iS g (wF n bs from') n=st at *
 obtain⟨d,last⟩:=st;obtain⟨hdl,hd0,hdd,hdg,hds,hla⟩:=I;dsimp only at hdl hd0 hdd hdg hds hla ⊢;obtain⟨y,hy⟩:=get_of_lt (l:=d) (i:=last) U;have y0:=hd0 y (an hy);rw[cP hy];rw[W9 U]at hdg;have hs:(d.set last (y+(g-d.sum))).sum=g:=by rw[Fi hy];omega
 have h0:∀w∈d.set last (y+(g-d.sum)),0<=w:=fun w hw=>by
  rcases XI hw with h|h
  ·exact hd0 w h
  ·omega
 exact⟨by simp[hdl,hw],fun w hw=>⟨h0 w hw,by have:=A1 h0 w hw;omega⟩,hs⟩
def Tv (g:Int)(n:Nat)(hg:1<=g/\g<=60)(hn:1<=n/\n<=4)(bs:List Int)(hbl:(bs.length:Int)<2 ^ 63)(hb8:∀x∈bs,U8 x)(from':Int)(hf:0<=from'/\from'<=1000000)(H:nnl)(K:nnf->nnl->Prop)(hK:∀v H',nnd H H'->aB H.C H' 3 v (ints (nj g n bs from'))->K (.ret v) H'):
  af prog G0 77 [aa g,aa n,.L bs.length (bQ bs),aa from'] H K:=by
 refine af.nb ⟨_,func77,rfl,rfl⟩ fun hcl=>?_;refine af.st (n:=84) (rs:=[.tmp 8]) func77 ?_;simp only[go_sem];refine⟨U,?_⟩;refine W.aM 35184371960832 (by rfl) (fun ρ H'=>∃(k:Nat) (c:List Int),ρ 11=aa k/\k<=n/\c.length=n/\(∀x∈c,0<=x/\x<=7)/\(∀j x,k<=j->c[j]?=some x->x=0)/\(∀j,j<k->c[j]?=(wF n bs from')[j]?)/\ρ 10=aa c.sum/\nnB H H' H.C c) (fun ρ H=>n-(iv (ρ 11)).toNat) ?_ ?_
 ·simp only[go_sem];refine⟨0,List.replicate n 0,rfl,U,aaw,fun x hx=>?_,fun j x _ hx=>?_,fun j hj=>U,aaw,?_⟩
  ·have:=XW hx;omega
  ·exact XW (an hx)
  ·exact .new [] _
 rintro ρ H' ⟨k,c,h11,hk,hcl',hc7,hc0,hcw,h10,ho⟩;refine W.en (fun E=>E 0=aa g /\ E 1=aa n /\ E 2=.L bs.length (bQ bs) /\ E 3=aa from' /\ E 9=.Z H.C 0 0 n 1 /\ E 10=aa c.sum /\ E 11=aa k) (by simp only[go_sem,h10,h11]) fun E ⟨e0,e1,e2,e3,e9,e10,e11⟩=>?_
 refine W.vs ?_;have lN:=ho.na;have hs0:=oS fun x hx=>(hc7 x hx).1;have hs1:=Ts hc7;by_cases hb:(k:Int)<n
 ·have hck:c[k]?=some 0:=by
   obtain⟨a,ha⟩:=get_of_lt (l:=c) (i:=k) U;rw[ha,hc0 k a aaz ha]
  have hcne:=aS hck;have hk0:(k:Int) >= 0:=U
  have w1:=W6 ((k:Int)+1) U;by_cases hz:(0:Int)<bs.length
  ·have hzn:¬(bs.length:Int)=0:=U;have w2:=W6 (from'+k) U;have m1:(from'+(k:Int)).tmod bs.length=(from'+k) % bs.length:=XF U;have m2:=YN (from'+k) hzn;have m3:=YF (from'+k) hz;obtain⟨q,hq⟩:=Xn m2;have hq0:(q:Int) >= 0:=U;have hql:(q:Int)<bs.length:=U;obtain⟨b,hbg⟩:=get_of_lt (l:=bs) (i:=q) U;have b8:=hb8 b (an hbg);have hbg':=vE hbg;have hbne:=aS hbg';have t1:b.tmod 8=b % 8:=XF b8.1;have w3:IntKind.u8.wrap (b % 8)=b % 8:=ZV _ U;have w4:IntKind.i64.wrap (b % 8)=b % 8:=W6 _ U;have w5:=W6 (c.sum+b % 8) U;have hsg:(setAt (ints c) k [.lit (.int .i64 (b % 8))])[k]?=some (.lit (.int .i64 (b % 8))):=by
    rw[ki U,gR,Xj U];rfl
   simp only[go_sem,hsg,e1,e2,e3,e9,e10,e11,hb,hz,hzn,w1,w2,m1,hq,hq0,hql,hbg',hbne,t1,w4,w5,hk0,lN];refine⟨U,by have:=ho.hi;rw[aw];omega,⟨k+1,c.set k (b % 8),rfl,U,by simp[hcl'],fun x hx=>?_,fun j x hj hx=>?_,fun j hj=>?_,by rw[Fi hck,aao],ho.store U _⟩,by rw[h11];simp only[aa,aI];omega⟩
   ·rcases XI hx with h|h
    ·exact hc7 x h
    ·omega
   ·rw[Xs U]at hx;exact hc0 j x U hx
   ·by_cases hjk:j=k
    ·subst hjk;rw[Xj U,Fk bs from' U,W7 U,hq,Int.toNat_natCast,cP hbg]
    ·rw[Xs U];exact hcw j (U)
  ·have w5:=W6 (c.sum+0) U;rw[Z7]at w5;simp only[go_sem,e1,e2,e9,e10,e11,hb,hz,w1,w5,Z7,hk0,hck,lN];refine⟨by have:=ho.hi;omega,⟨k+1,c,rfl,U,hcl',hc7,fun j x hj hx=>hc0 j x U hx,fun j hj=>by
    by_cases hjk:j=k
    ·subst hjk;rw[hck,Fk bs from' U,W8 U]
    ·exact hcw j U,rfl,ho⟩,by rw[h11];simp only[aa,aI];omega⟩
 ·obtain rfl:k=n:=U
  simp only[go_sem,e1,e11,hb];have hcwF:c=wF k bs from':=by
   apply XQ;intro j;rcases Xu j k with h|h
   ·exact hcw j h
   ·rw[Xf U,Xf (by rw[Fj];exact h)]
  have hRI:=fun m (hm:m<=k)=>Fm (g:=g) (c:=c) hg.1 (fun x hx=>(hc7 x hx).1) U m U;refine W.aM 18889465861109836705792 (by rfl) (fun ρ H2=>∃(m last:Nat) (d:List Int),ρ 14=aa m/\m<=k/\iS g c m=(d,last)/\ρ 12=aa (g-(d.take m).sum)/\ρ 13=aa last/\H'.C<=H2.C/\nnB H H2 H.C d) (fun ρ H=>k-(iv (ρ 14)).toNat) ?_ ?_
  ·simp only[go_sem,e0];exact⟨0,0,c,rfl,U,rfl,aaw,rfl,ho⟩
  rintro ρ2 H2 ⟨m,last,d,h14,hm,hrf,h12,h13,hnn,hod⟩;obtain⟨hdl,hd0,hdd,hdg,hds,hlast⟩:RInv g c m d last:=by have:=hRI m hm;rw[hrf]at this;exact this
  rw[hcl']at hdl hlast;have hrs:=Fl g c m;rw[hrf]at hrs;unfold wc at hrs;dsimp only at hrs;refine W.en (fun E2=>E2 0=aa g /\ E2 1=aa k /\ E2 9=.Z H.C 0 0 k 1 /\ E2 10=aa c.sum /\ E2 12=aa (g-(d.take m).sum) /\ E2 13=aa last /\ E2 14=aa m) (by simp only[go_sem,e0,e1,e9,e10,h12,h13,h14]) fun E2 ⟨f0,f1,f9,f10,f12,f13,f14⟩=>?_
  refine W.vs ?_;have lN2:=hod.na;by_cases hb2:(m:Int)<k
  ·obtain⟨x,hcx⟩:=get_of_lt (l:=c) (i:=m) U;have hx7:=hc7 x (an hcx);have hdx:d[m]?=some x:=by
    have h1:(d.drop m)[0]?=d[m]?:=(by rw[YS];rfl);have h2:(c.drop m)[0]?=c[m]?:=(by rw[YS];rfl);rw[<- h1,hdd,h2,hcx]
   have hdne:=aS hdx;have hm0:(m:Int) >= 0:=U;have w1:=W6 ((m:Int)+1) U;have hdd':d.drop (m+1)=c.drop (m+1):=by
    have:=congrArg (List.drop 1) hdd
    rwa [Y3,Y3]at this
   have hct:(c.take (m+1)).sum=(c.take m).sum+x:=(by rw[aQ hcx];simp);have hcs:(c.take (m+1)).sum+(c.drop (m+1)).sum=c.sum:=(by rw[<- aaa,XO]);have hcd0:=oS (l:=c.drop (m+1)) fun y hy=>(hc7 y (YJ hy)).1;have hc00:=oS (l:=c.take m) fun y hy=>(hc7 y (Xz hy)).1;have hd00:=oS (l:=d.take m) fun y hy=>hd0 y (Xz hy);by_cases hx:0<x
   ·have hsz:¬c.sum=0:=U;have gx:0<=g*x:=Ze U hx7.1;have gx2:g*x<=60*7:=Yx hg.2 hx7.2 hx7.1 U;have w2:=W6 (g*x) U;have t1:(g*x).tdiv c.sum=g*x / c.sum:=Int.tdiv_eq_ediv_of_nonneg gx;have y0:0<=g*x / c.sum:=Int.ediv_nonneg gx hs0;have y1:g*x / c.sum<=g*x:=Int.ediv_le_self _ gx;have y2:c.sum*(g*x / c.sum)<=g*x:=aat U;have w3:=W6 (g*x / c.sum) U;have w4:=W6 (g-(d.take m).sum-g*x / c.sum) U;have hsg:(setAt (ints d) m [.lit (.int .i64 (g*x / c.sum))])[m]?=some (.lit (.int .i64 (g*x / c.sum))):=by
     rw[ki U,gR,Xj U];rfl
    have dt:((d.set m (g*x / c.sum)).take (m+1)).sum=(d.take m).sum+g*x / c.sum:=by
     rw[aQ (Xj U),Zv aaz];simp
    have hs2:c.sum*((d.take m).sum+g*x / c.sum)<=g*(c.take (m+1)).sum:=by
     rw[ZR,hct,ZR];omega
    have hle:(d.take m).sum+g*x / c.sum<=g:=by
     have h1:g*(c.take (m+1)).sum<=g*c.sum:=YI U U;have h2:c.sum*((d.take m).sum+g*x / c.sum)<=c.sum*g:=(by rw[Z6 c.sum g];omega);exact aag h2 (U)
    simp only[go_sem,hsg,f0,f1,f9,f10,f12,f13,f14,hb2,hx,hsz,w1,w2,t1,w3,w4,hm0,hdx,lN2];rw[cP hdx,W8 hx]at hrs;exact⟨U,by rw[aw];exact hnn,⟨m+1,m,d.set m (g*x / c.sum),rfl,U,hrs,by rw[dt];congr 2;omega,rfl,by rw[aw];exact hnn,hod.store U _⟩,by rw[h14];simp only[aa,aI];omega⟩
   ·have x0:x=0:=U;have w4:=W6 (g-(d.take m).sum) U;simp only[go_sem,f1,f9,f12,f13,f14,hb2,x0,w1,w4,hm0,hdx,aao,lN2];have dt:(d.take (m+1)).sum=(d.take m).sum:=(by rw[aQ hdx,x0];simp);rw[x0,Z7]at hct;rw[cP hdx,W7 hx]at hrs;exact⟨hnn,⟨m+1,last,d,rfl,U,hrs,by rw[dt],rfl,hnn,hod⟩,by rw[h14];simp only[aa,aI];omega⟩
  ·obtain rfl:m=k:=U;obtain⟨y,hy⟩:=get_of_lt (l:=d) (i:=last) U;have hyne:=aS hy;have hl0:(last:Int) >= 0:=U;have hlk:(last:Int)<m:=U;have y0:=hd0 y (an hy);rw[W9 U]at hdg hds h12 f12;have hyle:=A1 hd0 y (an hy);have w1:=W6 (y+(g-d.sum)) U;have hle:last+1<=d.length:=U;simp only[go_sem,f1,f9,f12,f13,f14,hb2,hl0,hlk,hy,lN2,w1];refine⟨hle,?_⟩;have hrow:nj g m bs from'=d.set last (y+(g-d.sum)):=by
    unfold nj;rw[<- hcwF,hrf];dsimp only;rw[cP hy]
   rw[hrow]at hK;have ho2:=hod.store (k:=last) U (y+(g-d.sum));refine ar.mk ho2.ov.C (hK _ _ ho2.ov (.inr ⟨_,0,ho2.lo,ho2.hi,?_,ho2.get⟩));rw[aZ,Xb,hdl]
structure DrP where
 Q:Int
 par:Int
 w:List Int
def DrP.cells (x:DrP):List nnn:=[.lit (.int .u8 x.Q),.lit (.int .u8 x.par),.L x.w.length (bQ x.w)]
def fb (l:List DrP):List nnn:=(l.map DrP.cells).flatten
def DrP.Ok (x:DrP):Prop:=U8 x.Q/\U8 x.par/\(x.w.length:Int)<2 ^ 63/\∀b∈x.w,U8 b
def wh (g:Int)(ps:List DrP)(ord:List Int):nnn:=.agg [.lit (.int .u8 g),.L ps.length (fb ps),.L ord.length (bQ ord)]
def Fw {l:List DrP}{x:DrP}(h:l[i]?=some x):((fb l).drop (i*3)).take 3=[.lit (.int .u8 x.Q),.lit (.int .u8 x.par),.L x.w.length (bQ x.w)]:=nf (f:=DrP.cells) (z:=3) (fun _=>rfl) l i x h
def Fx (l:List DrP):(fb l).length=l.length*3:=kU (f:=DrP.cells) (fun _=>rfl) l
def nna.cD (x:nna):List nnn:=if x.X=[] then [aa x.Q,.lit (.slice none 0 0),.lit (.slice none 0 0)] else [aa x.Q,ah x.J,aD x.X]
def bG (l:List nna):List nnn:=(l.map nna.cD).flatten
def kf (x:nna):x.cD.length=3:=by unfold nna.cD;split<;>rfl
def Fy (l:List nna):(bG l).length=l.length*3:=kU (f:=nna.cD) kf l
variable {x:nna}
def FA {l:List nna}(h:l[i]?=some x):(bG l)[i*3]?=some (aa x.Q):=by
 have:=iO (f:=nna.cD) (z:=3) kf l i 0 x h U;rw[Nat.add_zero]at this;rw[show (bG l)[i*3]?=_ from this];unfold nna.cD;split<;>rfl
def TL {l:List nna}(h:∀x∈l,x.X≠[]):bG l=aG l:=by
 unfold bG aG;congr 1;exact Yk fun x hx=>W7 (h x hx)
def wo {α:Type}{f:α->List nnn}{z:Nat}(hz:∀a,(f a).length=z):∀(l:List α) (i:Nat) (a:α),i<l.length->((l.set i a).map f).flatten=((l.map f).flatten).take (i*z)++f a++((l.map f).flatten).drop (i*z+z):=by
 intro l
 induction l with
 |nil=>intro i a h;simp at h
 |cons b l ih =>
  intro i a h;cases i with
  |zero=>simp[hz]
  |succ i =>
   have hb:=hz b;simp only[List.set_cons_succ,List.map_cons,List.flatten_cons];rw[ih i a (by simpa using h),show (i+1)*z=z+i*z by rw[Yz];omega,List.take_append,List.drop_append,hb];rw[W9 (l:=f b) (i:=z+i*z) U,aaj (l:=f b) (i:=z+i*z+z) U,show z+i*z-z=i*z by omega,show z+i*z+z-z=i*z+z by omega];simp
def FB {A B:List nnn}{a b:nnn}(h:∀j (h:j<A.length) (h':j<B.length),Fz S H nx A[j] B[j])(hab:Fz S H nx a b):∀j (h:j<(A.set i a).length) (h':j<(B.set i b).length),Fz S H nx (A.set i a)[j] (B.set i b)[j]:=by
 intro j h1 h2;rw[YH,YH];split
 ·exact hab
 ·exact h j (by simpa using h1) (by simpa using h2)
def wu (l:List (List Int)):Fz S H nx (aD l) (aD l):=.L rfl fun i hi _=>by simp only[Xi];exact .df _
def TM (x:nna):∀c∈x.cD,Fz S H nx c c:=by
 intro c hc;unfold nna.cD at hc;split at hc
 ·simp only[List.mem_cons,List.not_mem_nil,or_false]at hc;rcases hc with rfl|rfl|rfl<;>exact .lit _
 ·simp only[List.mem_cons,List.not_mem_nil,or_false]at hc;rcases hc with rfl|rfl|rfl
  ·exact .lit _
  ·exact .df _
  ·exact wu _
def FC (l:List nna):∀c∈bG l,Fz S H nx c c:=by
 intro c hc;unfold bG at hc;obtain⟨r,hr,hc⟩:=Y2.1 hc;obtain⟨x,_,rfl⟩:=Xx.1 hr;exact TM x c hc
def TN :∀(l:List nna),(∀x∈l,x.X=[]->x.J=[])->∀(i:Nat) (h:i<(bG l).length) (h':i<(aG l).length),Fz S H nx (bG l)[i] (aG l)[i]:=by
 intro l
 induction l with
 |nil=>intro _ i h;simp[bG]at h
 |cons x l ih =>
  intro hx i h h';have e1:bG (x :: l)=x.cD++bG l:=by simp[bG]
  have e2:aG (x :: l)=x.cells++aG l:=by simp[aG]
  have l1:=kf x;have l2:x.cells.length=3:=rfl;have hc:∀(i:Nat) (h:i<x.cD.length) (h':i<x.cells.length),Fz S H nx x.cD[i] x.cells[i]:=by
   intro i h h';by_cases hr:x.X=[]
   ·have hp:=hx x aaw hr;have ez:x.cD=[aa x.Q,.lit (.slice none 0 0),.lit (.slice none 0 0)]:=W8 hr;have ec:x.cells=[aa x.Q,ah [],aD []]:=(by unfold nna.cells;rw[hr,hp]);simp only[ez,ec]
    match i,h' with
    |0,_=>exact .lit _
    |1,_=>exact .nil
    |2,_=>exact .nil
   ·have ez:x.cD=x.cells:=W7 hr;simp only[ez]
    match i,h' with
    |0,_=>exact .lit _
    |1,_=>exact .df _
    |2,_=>exact wu _
  simp only[e1,e2];by_cases hi:i<3
  ·rw[X3 U,X3 U];exact hc i U (U)
  ·rw[Ye U,Ye U];simp only[l1,l2];exact ih (fun y hy=>hx y (by simp[hy])) (i-3) _ _
variable {y:nna}
def TO {l:List nna}(h:l[i]?=some x)(hy:y.Q=x.Q):aG (l.set i y)=((aG l).set (i*3+1) (ah y.J)).set (i*3+2) (aD y.X):=by
 have hl:=get_lt h;have h1:=wo (f:=nna.cells) (z:=3) (fun _=>rfl) l i y hl;have h2:=nf (f:=nna.cells) (z:=3) (fun _=>rfl) l i x h;unfold aG;rw[h1];have h3:(l.map nna.cells).flatten=((l.map nna.cells).flatten).take (i*3)++(x.cells++((l.map nna.cells).flatten).drop (i*3+3)):=by
  rw[<- h2,<- Y3,XO,XO]
 have hlen:(((l.map nna.cells).flatten).take (i*3)).length=i*3:=by
  rw[Xm,kU (f:=nna.cells) (z:=3) (fun _=>rfl)];omega
 conv=>rhs;rw[h3]
 rw[Yi _ _ U,Yi _ _ U,hlen,show i*3+1-i*3=1 by omega,show i*3+2-i*3=2 by omega];unfold nna.cells;simp[hy]
def wx {lo:Nat}{v:nnn}(h:aB lo H e v cs){d:Option TypeDesc}{t:TypeId}(hd:d=some (.slice t)):rZ d H v=some (.lit (.int .i64 cs.length)):=by
 subst hd;rcases h with ⟨rfl,rfl⟩|⟨id,g,_,_,rfl,h4⟩
 ·rfl
 ·rw[qk,Cz,ag h4];rfl
def TP (l p:List Int)(hl:(l.length:Int)<2 ^ 40)(hp:(p.length:Int)<2 ^ 39)(hin:∀q∈p,0<=q/\q<l.length)(H:nnl)(K:nnf->nnl->Prop)(hK:∀v H',nnd H H'->aB H.C H' 3 v (ints (bb l p))->K (.ret v) H'):af prog G0 121 [ah l,ah p] H K:=by
 refine af.nb ⟨_,func121,rfl,rfl⟩ fun hcl=>?_;refine af.st (n:=24) (rs:=[.tmp 4]) func121 ?_;simp only[go_sem];refine W.aM 8388576 (by rfl) (fun ρ H'=>∃k:Nat,ρ 6=aa k/\k<=p.length/\nnd H H'/\aB H.C H' 3 (ρ 5) (ints (bb l (p.take k)))) (fun ρ H=>p.length-(iv (ρ 6)).toNat) ?_ ?_
 ·simp only[go_sem];exact⟨0,rfl,U,.refl _,.nil⟩
 rintro ρ H' ⟨k,h6,hk,ov,h5⟩;refine W.vs ?_;by_cases hb:(k:Int)<p.length
 ·obtain⟨q,hq⟩:=get_of_lt (l:=p) (i:=k) U;obtain⟨j,rfl,a,ha⟩:=oK (hin q (an hq)).1 (hin q (an hq)).2;have hne:=aS hq;have hne2:=aS ha;have hj:=get_lt ha;have hj':(j:Int)<l.length:=U
  obtain⟨v',H2,hA,ov2,hO,hn2,_⟩:=iW a ov h5 (by simp[bb];omega);have w1:=W6 ((k:Int)+1) U;simp only[go_sem,h6,hb,hq,hne,ha,hne2,hj',w1,hA];refine⟨by have:=ov2.C;omega,⟨k+1,aaw,U,ov2,?_⟩,U⟩;rw[FT hq,Int.toNat_natCast,cP ha];exact hO
 ·simp only[go_sem,h6,hb];rw[W9 U]at h5;exact ar.mk ov.C (hK _ _ ov h5)
def TR (g:Int)(ns:List nna)(v:Nat)(x:nna)(hx:ns[v]?=some x)(hl:(ns.length:Int)<2 ^ 39)(hp:(x.J.length:Int)<2 ^ 39)(hin:jt x.J ns.length)(H:nnl)(K:nnf->nnl->Prop)
  (hK:∀v H',nnd H H'->aB H.C H' 3 v (ints (aW ns x))->K (.ret v) H'):af prog G0 76 [bS g ns,aa v] H K:=by
 refine af.nb ⟨_,func76,rfl,rfl⟩ fun hcl=>?_;have hne:=eC hx;have e1:=jW hx;have hv:(v:Int)<ns.length:=by have:=get_lt hx;omega
 refine af.st (n:=14) (rs:=[.tmp 4]) func76 ?_;simp only[go_sem,bS,di];refine W.dr 8 [0,1,0,4,0,28,60,124] mixed ?_;simp only[go_sem];refine⟨ah (aE ns),[],cz.pure fun H2=>wQ g ns hl H2 _ ⟨rfl,rfl⟩,?_⟩;simp only[go_sem,hv,hne,e1];refine aC.nb (TP (aE ns) x.J (by rw[gL];omega) hp (by rw[gL];exact hin) _ _ fun w H3 ov ho=>⟨trivial,?_⟩);simp only[go_sem];have o1:nnd H H3:=(nnd.ext _ _).trans ov;exact ar.mk o1.C (hK _ _ o1 (ho.nf (by simp[bu]) aaz fun _ _ _ _ _ _=>rfl))
variable {ns:List nna}
def FD (hP:nnH ns.length P)(hall:∀v:Nat,v<ns.length->(v:Int)∈P)(hr:∀(j v:Nat) (x:nna),P[j]?=some (v:Int)->ns[v]?=some x->∀q∈x.J,0<=q/\∃k,k<j/\P[k]?=some q):jY (aq ns):=by
 intro v hv;have hl:(aq ns).length=ns.length:=by simp[aq]
 rw[hl]at hv;obtain⟨j,hj⟩:=Xg.1 (hall v hv);have h0:∀p∈P.take j,0<=p:=fun p hp=>(hP.np p (Xz hp)).1;have sub:∀(k u:Nat) (x:nna),k<=j->P[k]?=some (u:Int)->ns[u]?=some x->Sub ((aq ns).getD u 0) (bc (P.take j)):=fun k u x hk hu hx i hi=>by
  rw[cP (lf hx)]at hi;have hp0:∀p∈x.J,0<=p:=fun p hp=>(hr k u x hu hx p hp).1;rw[fU hp0]at hi;obtain⟨_,k',hk',hq⟩:=hr k u x hu hx _ (of_decide_eq_true hi);rw[fU h0];refine Xy ?_;exact Xg.2 ⟨k',by rw[XC U];exact hq⟩
 have hcl:jZ (aq ns) (bc (P.take j)):=fun u hu ht=>by
  rw[hl]at hu;rw[fU h0]at ht;obtain⟨k,hk⟩:=Xg.1 (of_decide_eq_true ht);have hkl:=get_lt hk;rw[Xm]at hkl;rw[XC U]at hk;obtain⟨x,hx⟩:=get_of_lt hu;exact sub k u x U hk hx
 obtain⟨x,hx⟩:=get_of_lt hv;have h1:=ng hcl (aq ns).length (sub j v x aaz hj hx);cases hb:(bT (aq ns) ((aq ns).getD v 0)).testBit v with
 |false=>rfl
 |true =>
  exfalso;have h2:=h1 v hb;rw[fU h0]at h2;obtain⟨k,hk⟩:=Xg.1 (of_decide_eq_true h2);have hkl:=get_lt hk;rw[Xm]at hkl;rw[XC U]at hk;have e:P[k]?=P[j]?:=by rw[hk,hj]
  have:=(YM (get_lt hk) hP.nd).1 e;omega
def mf (H1 H':nnl)(N:Nat)(cs:List nnn):Prop:=H1.C<=H'.C/\(∀id,id<H1.C->id≠N->H'.get id=H1.get id)/\H'.get N=some (.O 0 76 cs)
def TS {l:List nna}(h:l[i]?=some x)(hr:x.X=[])(hy:y.X=[]):bG (l.set i y)=(bG l).set (i*3) (aa y.Q):=by
 have hl:=get_lt h;have h1:=wo (f:=nna.cD) (z:=3) kf l i y hl;have h2:=nf (f:=nna.cD) (z:=3) kf l i x h;have e1:x.cD=[aa x.Q,.lit (.slice none 0 0),.lit (.slice none 0 0)]:=W8 hr;have e2:y.cD=[aa y.Q,.lit (.slice none 0 0),.lit (.slice none 0 0)]:=W8 hy;unfold bG;rw[h1,e2];rw[e1]at h2;have h3:(l.map nna.cD).flatten=((l.map nna.cD).flatten).take (i*3)++([aa x.Q,.lit (.slice none 0 0),.lit (.slice none 0 0)]++((l.map nna.cD).flatten).drop (i*3+3)):=by
  rw[<- h2,<- Y3,XO,XO]
 have hlen:(((l.map nna.cD).flatten).take (i*3)).length=i*3:=by
  rw[Xm,kU (f:=nna.cD) (z:=3) kf];omega
 conv=>rhs;rw[h3]
 rw[Yi _ _ U,hlen];simp
theorem wy (ord:List Int):∀(n v:Nat),v<n->(v:Int)∈fC ord n
 |0,v,h=>U
 |n+1,v,h=>by
  unfold fC;by_cases hv:v=n
  ·subst hv;simp
  ·have:=wy ord n v U;rw[<- XO (mc ord n) (fC ord n)]at this;rcases Xt.1 this with h|h
   ·exact YU _ h
   ·exact YD _ (X5 _ h)
def mg (ps:List DrP)(i:Nat):Int × List Int:=match ps[i]? with
 |some y=>(y.par,y.w)
 |none=>(0,[])
def FE (p:Int)(k:Nat):Int:=IntKind.u8.wrap (((BitVec.ofInt IntKind.u8.bits (p.fdiv (2 ^ (min ((k:Int)).toNat IntKind.u8.bits))) &&& BitVec.ofInt IntKind.u8.bits 1).toNat:Nat):Int)
def oU (par:Int)(P:List Int)(u:Nat)(l:List Int)(k:Nat):List Int:=if P[k]?=some (u:Int)/\FE par k=1/\l.length<3 then l++[(u:Int)] else l
def kg (par:Int)(P:List Int)(i u k:Nat):List Int:=(List.range k).foldl (oU par P u) ((List.range u).foldl (fun l u=>(List.range i).foldl (oU par P u) l) [])
def wz (par:Int)(P:List Int)(i u k:Nat):kg par P i u (k+1)=oU par P u (kg par P i u k) k:=by unfold kg;rw[Yj,Yn];rfl
def TT (par:Int)(P:List Int)(i u:Nat):kg par P i (u+1) 0=kg par P i u i:=by unfold kg;rw[Yj,Yn];rfl
def rf (ps:List DrP)(i:Nat):Int:=match ps[i]? with
 |some y=>2+y.Q % 2
 |none=>2
def iT (ps:List DrP)(n i:Nat)(W:Int):Int:=if IntKind.i64.wrap (W*rf ps i*2 ^ (min ((n:Int)-1-i).toNat IntKind.i64.bits)) > 100 then 2 else rf ps i
def jq (ps:List DrP)(n:Nat):Nat->Int
 |0=>1
 |i+1=>jq ps n i*iT ps n i (jq ps n i)
def rj (g c:Int)(bs:List Int)(R:Nat):List (List Int):=(List.range R).map fun (q:Nat)=>nj g c.toNat bs ((q:Int)*(c+1))
def TU (g c:Int)(bs:List Int)(R:Nat):rj g c bs (R+1)=rj g c bs R++[nj g c.toNat bs ((R:Int)*(c+1))]:=by unfold rj;rw[Yj,X2];rfl
def AH (g:Int)(ps:List DrP)(cs P:List Int)(n j:Nat):nna:=⟨iT ps n j (jq ps n j),kg (mg ps j).1 P j n 0,rj g (iT ps n j (jq ps n j)) (mg ps j).2 (aL (bb cs (kg (mg ps j).1 P j n 0))).toNat⟩
structure DoneN (g:Int)(cs P:List Int)(n j:Nat)(x:nna):Prop where
 pl:bB x.J n
 p3:x.J.length<=3
 rk:∀q∈x.J,∃k,k<j/\P[k]?=some q
 rl:(x.X.length:Int)=aL (bb cs x.J)
 ro:∀r∈x.X,jx g x.Q r
 ne:x.X≠[]
structure LoopN (g:Int)(ps:List DrP)(cs P:List Int)(n i:Nat)(ns:List nna):Prop where
 len:ns.length=n
 ny:aE ns=cs
 todo:∀(j v:Nat) (x:nna),i<=j->P[j]?=some (v:Int)->ns[v]?=some x->x.X=[]/\x.J=[]
 done:∀(j v:Nat) (x:nna),j<i->P[j]?=some (v:Int)->ns[v]?=some x->DoneN g cs P n j x
 eq:∀(j v:Nat) (x:nna),j<i->P[j]?=some (v:Int)->ns[v]?=some x->x=AH g ps cs P n j
 cd:∀(j v:Nat) (x:nna),P[j]?=some (v:Int)->ns[v]?=some x->x.Q=iT ps n j (jq ps n j)
def TV {l:List nna}(h:l[i]?=some x)(hy:y.Q=x.Q)(hr:y.X≠[]):bG (l.set i y)=((bG l).set (i*3+1) (ah y.J)).set (i*3+2) (aD y.X):=by
 have hl:=get_lt h;have h1:=wo (f:=nna.cD) (z:=3) kf l i y hl;have h2:=nf (f:=nna.cD) (z:=3) kf l i x h;unfold bG;rw[h1];have h3:(l.map nna.cD).flatten=((l.map nna.cD).flatten).take (i*3)++(x.cD++((l.map nna.cD).flatten).drop (i*3+3)):=by
  rw[<- h2,<- Y3,XO,XO]
 have hlen:(((l.map nna.cD).flatten).take (i*3)).length=i*3:=by
  rw[Xm,kU (f:=nna.cD) (z:=3) kf];omega
 have ex:∃b c,x.cD=[aa x.Q,b,c]:=by unfold nna.cD;split<;>exact⟨_,_,rfl⟩
 obtain⟨b,c,ex⟩:=ex;have ey:y.cD=[aa y.Q,ah y.J,aD y.X]:=W7 hr
 conv=>rhs;rw[h3]
 rw[Yi _ _ U,Yi _ _ U,hlen,show i*3+1-i*3=1 by omega,show i*3+2-i*3=2 by omega,ex,ey];simp[hy]
structure nnI (P:List Int)(i u k:Nat)(l:List Int):Prop where
 pw:l.Pairwise (·<·)
 np:∀q∈l,0<=q/\(q<u\/(q=u/\∃k',k'<k/\P[k']?=some q))
 p3:l.length<=3
 rk:∀q∈l,∃k',k'<i/\P[k']?=some q
def nnI.skip (h:nnI P i u k l):nnI P i u (k+1) l:=⟨h.pw,fun q hq=>⟨(h.np q hq).1,(h.np q hq).2.imp id fun ⟨a,k',b,c⟩=>⟨a,k',U,c⟩⟩,h.p3,h.rk⟩
def nnI.C (h:nnI P i u k l):nnI P i (u+1) 0 l:=⟨h.pw,fun q hq=>⟨(h.np q hq).1,.inl (by rcases(h.np q hq).2 with h1|h1<;>omega)⟩,h.p3,h.rk⟩
def nnI.add (hP:nnH n P)(h:nnI P i u k l)(hk:k<i)(hu:P[k]?=some (u:Int))(h3:l.length<3):nnI P i u (k+1) (l++[(u:Int)]):=by
 have lt:∀q∈l,q<u:=fun q hq=>by
  rcases(h.np q hq).2 with h1|⟨h1,k',h2,h4⟩
  ·exact h1
  ·exfalso;have e:P[k']?=P[k]?:=(by rw[h4,hu,h1]);have:=(YM (get_lt h4) hP.nd).1 e;omega
 refine⟨YT.2 ⟨h.pw,aaw,fun a ha b hb=>by obtain rfl:=List.mem_singleton.1 hb;exact lt a ha⟩,fun q hq=>?_,by simp;omega,fun q hq=>?_⟩
 ·rcases Xt.1 hq with h1|h1
  ·exact⟨(h.np q h1).1,.inl (lt q h1)⟩
  ·obtain rfl:=List.mem_singleton.1 h1;exact⟨U,.inr ⟨rfl,k,U,hu⟩⟩
 ·rcases Xt.1 hq with h1|h1
  ·exact h.rk q h1
  ·obtain rfl:=List.mem_singleton.1 h1;exact⟨k,hk,hu⟩
def AI (Hz Hx:nnl)(N at':Nat)(C:List nnn)(pv:nnn)(l:List Int):Prop:=mf Hz Hx N (C.set at' pv)/\aB Hz.C Hx 3 pv (ints l)
def TW (g:Int)(ps:List DrP)(ord:List Int)(ns:List nna):Prop:=ns.length=min (max ps.length 1) 5/\(∀(j v:Nat) (x:nna),(fC ord ns.length)[j]?=some (v:Int)->ns[v]?=some x->x=AH g ps (aE ns) (fC ord ns.length) ns.length j)/\∀(j v:Nat) (x:nna),(fC ord ns.length)[j]?=some (v:Int)->ns[v]?=some x->x.Q=iT ps ns.length j (jq ps ns.length j)
def TX (g0:Int)(ps:List DrP)(ord:List Int)(hg0:U8 g0)(hps:∀x∈ps,x.Ok)(hpl:(ps.length:Int)<2 ^ 63)(hol:(ord.length:Int)<2 ^ 63)(ho8:∀x∈ord,U8 x)(H:nnl)(K:nnf->nnl->Prop)
  (hK:∀g ns N H',nnd H H'->H.C<=N->N<H'.C->H'.get N=some (.O 0 76 (aG ns))->nnw g ns->ns.length<=5->(∀x∈ns,x.J.length<=3)->(∀x∈ns,2<=x.Q)->(g=1+g0 % 60/\TW g ps ord ns)->K (.ret (.agg [aa g,.Z N 0 0 ns.length 3])) H'):
  af prog G0 34 [wh g0 ps ord] H K:=by
 refine af.st (n:=187) (rs:=[.cell 2 90]) func34 ?_;obtain⟨n,hn⟩:∃n:Nat,min (max ps.length 1) 5=n:=⟨_,rfl⟩
 have h51:1<=n/\n<=5:=U
 have hmn:(if 5<(if (1:Int) > ps.length then 1 else (ps.length:Int)) then 5 else (if (1:Int) > ps.length then 1 else (ps.length:Int)))=(n:Int):=by split<;>split<;>omega
 have t0:g0.tmod 60=g0 % 60:=XF hg0.1;have w0:IntKind.u8.wrap (g0 % 60)=g0 % 60:=ZV _ U;have w1:IntKind.i64.wrap (g0 % 60)=g0 % 60:=W6 _ U;have w2:=W6 (1+g0 % 60) U;obtain⟨g,hg⟩:∃g,1+g0 % 60=g:=⟨_,rfl⟩
 have hg1:1<=g/\g<=60:=U
 rw[hg]at w2;simp only[go_sem,wh];refine W.dr 9 [0,1,3,7,15,0,32,127,0] mixed ?_;simp only[go_sem,hmn,t0,w1,hg,w2];refine⟨U,⟨⟨U,U⟩,⟨U,U⟩,?_⟩⟩;obtain⟨H1,hH1⟩:∃H1,H1=ext (ext H [.O 0 25 [.lit (.int .u8 g0),.L ps.length (fb ps),.L ord.length (bQ ord)],.O 0 90 [.lit (.int .i64 0),.lit (.slice none 0 0)],.O 0 76 (List.replicate n [nnn.lit (.int .i64 0),.lit (.slice none 0 0),.lit (.slice none 0 0)]).flatten]) [.O 0 90 [.lit (.int .i64 g),.Z (H.C+2) 0 0 n 3]]:=⟨_,rfl⟩
 refine W.en (fun E=>E 1=.Y H.C 0 0 /\ E 2=.Y (H.C+1) 0 0 /\ E 3=aa n /\ E 4=.Y (H.C+3) 0 0) (by simp only[go_sem]) fun E ⟨e1,e2,e3,e4⟩=>?_
 show W _ _ _ _ _ _ ⟨E,ext (ext H [.O 0 25 [.lit (.int .u8 g0),.L ps.length (fb ps),.L ord.length (bQ ord)],.O 0 90 [.lit (.int .i64 0),.lit (.slice none 0 0)],.O 0 76 (List.replicate n [nnn.lit (.int .i64 0),.lit (.slice none 0 0),.lit (.slice none 0 0)]).flatten]) [.O 0 90 [.lit (.int .i64 g),.Z (H.C+2) 0 0 n 3]]⟩;rw[<- hH1];have n1:H1.C=H.C+4:=by rw[hH1];rfl
 have o1:nnd H H1:=by rw[hH1];exact(nnd.ext _ _).trans (.ext _ _)
 have g0':H1.get H.C=some (.O 0 25 [.lit (.int .u8 g0),.L ps.length (fb ps),.L ord.length (bQ ord)]):=by rw[hH1,eT];exact bY ..
 have g1':H1.get (H.C+1)=some (.O 0 90 [.lit (.int .i64 0),.lit (.slice none 0 0)]):=by rw[hH1,eT];exact cO H _ 1 (aaw)
 have g2':H1.get (H.C+2)=some (.O 0 76 (bG (List.replicate n ⟨0,[],[]⟩))):=by
  rw[hH1,eT,show bG (List.replicate n ⟨0,[],[]⟩)=(List.replicate n [nnn.lit (.int .i64 0),.lit (.slice none 0 0),.lit (.slice none 0 0)]).flatten by unfold bG;rw[YR];rfl];exact cO H _ 2 (aaw)
 have g3':H1.get (H.C+3)=some (.O 0 90 [.lit (.int .i64 g),.Z (H.C+2) 0 0 n 3]):=by rw[hH1,eT];exact cO H _ 3 (aaw)
 clear hH1;have l0:=ag g0';have l1:=ag (show (ext H1 [.O 0 5 (List.replicate n (.lit (.int .u8 0)))]).get H.C=some (.O 0 25 [.lit (.int .u8 g0),.L ps.length (fb ps),.L ord.length (bQ ord)]) by rw[cV _ _ _ U];exact g0');refine W.dr 4 [0,1,0,4] mixed ?_;simp only[go_sem,e1,e3,l1];refine⟨⟨U,U⟩,U,U,?_⟩;obtain⟨H2,hH2⟩:∃H2,H2=ext H1 [.O 0 5 (List.replicate n (.lit (.int .u8 0)))]:=⟨_,rfl⟩
 have gb:=de hH2
 rw[<- hH2];refine aC.nb ((af.frame (H:=H2) (args:=[.agg [.Z H1.C 0 0 n 1,.lit (.int .u16 0),.L ord.length (bQ ord)]]) (args':=[.agg [.L n (bQ (List.replicate n 0)),.lit (.int .u16 0),.L ord.length (bQ ord)]]) (v':=ah (fC ord n)) aO rfl (fun i hi _=>?_) (Tr n h51.2 ord hol ho8 cw _ fun v H' _ ho=>⟨_,rfl,ho.pg⟩)).mono fun r H' hr=>?_)
 ·match i,hi with
  |0,_ =>
   refine .agg rfl fun i hi _=>?_
   match i,hi with
   |0,_ =>
    have:bQ (List.replicate n 0)=List.replicate n (.lit (.int .u8 0)):=(by unfold bQ;rw[YR]);rw[this];exact Fz.wV gb aaw fun c hc=>⟨_,XW hc⟩
   |1,_=>exact .lit _
   |2,_=>exact .L rfl fun i hi _=>by simp only[bQ,Xi];exact .lit _
 obtain⟨rfl,rfl⟩:=hr;refine⟨trivial,?_⟩;have hperm:=AE ord n;obtain⟨P,hP⟩:∃P,P=fC ord n:=⟨_,rfl⟩
 rw[<- hP]at hperm ⊢;have n2:H'.C=H1.C+1:=hH2▸rfl
 have F0:mf H1 H' (H.C+2) (bG (List.replicate n ⟨0,[],[]⟩)):=by
  rw[hH2];exact⟨by simp[bu],fun id h _=>cV _ _ _ h,by rw[cV _ _ _ U];exact g2'⟩
 clear hH2 gb;simp only[go_sem,e3];have bs:∀k:Nat,k<=5->(3:Int) ^ k<=243:=fun k hk=>by
  have:(3:Nat) ^ k<=3 ^ 5:=Xq aax hk;have h2:((3 ^ k:Nat):Int)<=((3 ^ 5:Nat):Int):=by exact_mod_cast this
  push_cast at h2
  exact h2
 refine W.aM 151115727451794287100864 (by rfl) (fun ρ Hx=>∃(i:Nat) (ns:List nna) (Wd:Int),ρ 7=aa i/\i<=n/\ns.length=n/\(∀x∈ns,x.X=[]/\x.J=[])/\(∀j v:Nat,j<i->P[j]?=some (v:Int)->∃x,ns[v]?=some x/\2<=x.Q/\x.Q<=3/\x.Q=iT ps n j (jq ps n j))/\ρ 6=aa Wd/\Wd=jq ps n i/\1<=Wd/\Wd<=3 ^ i/\H'.C<=Hx.C/\mf H1 Hx (H.C+2) (bG ns)) (fun ρ H=>n-(iv (ρ 7)).toNat) ?_ ?_
 ·simp only[go_sem];exact⟨0,_,1,rfl,U,aaw,fun x hx=>by obtain rfl:=XW hx;exact⟨rfl,rfl⟩,fun j v hj=>U,rfl,rfl,U,aaw,F0⟩
 rintro ρ Hx ⟨i,ns,Wd,h7,hi,hnl,hnz,hnc,h6,hWe,hW1,hW3,hnx,hF⟩;refine W.en (fun E2=>E2 1=.Y H.C 0 0 /\ E2 2=.Y (H.C+1) 0 0 /\ E2 3=aa n /\ E2 4=.Y (H.C+3) 0 0 /\ E2 5=ah P /\ E2 6=aa Wd /\ E2 7=aa i) (by simp only[go_sem,e1,e2,e3,e4,h6,h7]) fun E2 ⟨f1,f2,f3,f4,f5,f6,f7⟩=>?_
 refine W.vs ?_;have hPl:=hperm.len;have hFn:=hF.1;have m0:=ag ((hF.2.1 H.C U U).trans g0');have m3:=ag ((hF.2.1 (H.C+3) U U).trans g3');have mN:=ag hF.2.2;have m0':∀L,(ext Hx L).na H.C 0=some (25,[.lit (.int .u8 g0),.L ps.length (fb ps),.L ord.length (bQ ord)]):=fun L=>(cB U).trans m0;have m3':∀L,(ext Hx L).na (H.C+3) 0=some (90,[.lit (.int .i64 g),.Z (H.C+2) 0 0 n 3]):=fun L=>(cB U).trans m3;have mN':∀L,(ext Hx L).na (H.C+2) 0=some (76,bG ns):=fun L=>(cB U).trans mN;by_cases hb:(i:Int)<n
 ·obtain⟨pv,hpv⟩:=get_of_lt (l:=P) (i:=i) U;have hpr:=hperm.np pv (an hpv);obtain⟨v,rfl⟩:=Xn hpr.1;obtain⟨x,hx⟩:=get_of_lt (l:=ns) (i:=v) U;have hpne:=aS hpv;have hz0:=FA hx;have hzne:=aS hz0;have hzl:=Fy ns;have hv:(v:Int)<n:=hpr.2;have hv0:(v:Int) >= 0:=hpr.1;have hiP:(i:Int)<P.length:=U
  have w3:=bs i U;have i1:=W6 ((i:Int)+1) U;have i2:=W6 ((n:Int)-1) U;have i3:=W6 ((n:Int)-1-i) U;have i4:=Zd ((n:Int)-1-i) U;have fin:∀(c:Int) (B:Blk),2<=c/\c<=3->c=iT ps n i Wd->v*3+1<=(bG ns).length/\H'.C<=((ext Hx [B]).upd (H.C+2) (.O 0 76 (setAt (bG ns) (v*3) [.lit (.int .i64 c)]))).C /\
    (∃(i_1:Nat) (ns_1:List nna) (Wd_1:Int),nnn.lit (.int .i64 ((i:Int)+1))=.lit (.int .i64 i_1)/\i_1<=n/\ns_1.length=n/\(∀x∈ns_1,x.X=[]/\x.J=[])/\(∀j v:Nat,j<i_1->P[j]?=some (v:Int)->∃x,ns_1[v]?=some x/\2<=x.Q/\x.Q<=3/\x.Q=iT ps n j (jq ps n j)) /\
     nnn.lit (.int .i64 (Wd*c))=.lit (.int .i64 Wd_1)/\Wd_1=jq ps n i_1/\1<=Wd_1/\Wd_1<=3 ^ i_1/\H'.C<=((ext Hx [B]).upd (H.C+2) (.O 0 76 (setAt (bG ns) (v*3) [.lit (.int .i64 c)]))).C/\mf H1 ((ext Hx [B]).upd (H.C+2) (.O 0 76 (setAt (bG ns) (v*3) [.lit (.int .i64 c)]))) (H.C+2) (bG ns_1)) /\
    n-((i:Int)+1).toNat<n-(iv (ρ 7)).toNat:=by
   intro c B c23 hce;have p1:2<=Wd*c/\Wd*c<=3 ^ i*3:=by
    constructor
    ·have:=Yx hW1 c23.1 U U;omega
    ·exact Yx hW3 c23.2 U (U)
   have nn:((ext Hx [B]).upd (H.C+2) (.O 0 76 (setAt (bG ns) (v*3) [.lit (.int .i64 c)]))).C=Hx.C+1:=rfl;refine⟨by rw[hzl];have:=get_lt hx;omega,by rw[nn];omega,⟨i+1,ns.set v ⟨c,[],[]⟩,Wd*c,rfl,U,by simp[hnl],fun z hz=>?_,fun j u hj hu=>?_,rfl,by show Wd*c=jq ps n i*iT ps n i (jq ps n i);rw[<- hWe,<- hce],U,by rw[Int.pow_succ];omega,by rw[nn];omega,?_⟩,by rw[h7];simp only[aa,aI];omega⟩
   ·rcases XI hz with h|h
    ·exact hnz z h
    ·rw[h];exact⟨rfl,rfl⟩
   ·by_cases huv:u=v
    ·subst huv;have hji:j=i:=(YM (get_lt hu) hperm.nd).1 (by rw[hu,hpv]);exact⟨_,Xj (get_lt hx),by dsimp only;omega,by dsimp only;omega,by dsimp only;rw[hji,<- hWe];exact hce⟩
    ·rw[Xs U];refine hnc j u ?_ hu;rcases Xu j i with h|h
     ·exact h
     ·obtain rfl:j=i:=U;rw[hpv]at hu;exact absurd (by have:=Option.some.inj hu;omega) huv
   ·refine⟨by rw[nn];omega,fun id h1 h2=>by rw[ae,W7 h2,cV _ _ _ U];exact hF.2.1 id h1 h2,?_⟩;rw[ae,W8 rfl,TS hx (hnz x (an hx)).1 rfl];congr 2;exact dQ (by rw[hzl];have:=get_lt hx;omega)
  by_cases hp:(i:Int)<ps.length
  ·obtain⟨y,hy⟩:=get_of_lt (l:=ps) (i:=i) U;have hyo:=hps y (an hy);have hc0:=Fw hy;have hc1:i*3+3<=(fb ps).length:=(by rw[Fx];omega);have hcne:¬fb ps=[]:=fun h=>by rw[h]at hc1;simp at hc1
   have c8:=hyo.1;have t1:y.Q.tmod 2=y.Q % 2:=XF c8.1;have i5:=ZV (y.Q % 2) U;have i6:=W6 (y.Q % 2) U;have i7:=W6 (2+y.Q % 2) U;have c23:2<=(2+y.Q % 2)/\(2+y.Q % 2)<=3:=U;have p1:2<=Wd*(2+y.Q % 2)/\Wd*(2+y.Q % 2)<=3 ^ i*3:=by
    constructor
    ·have:=Yx hW1 c23.1 U U;omega
    ·exact Yx hW3 c23.2 U (U)
   have p2:2<=Wd*2/\Wd*2<=3 ^ i*3:=U;have j1:=W6 (Wd*(2+y.Q % 2)) U;have j2:=W6 (Wd*2) U;obtain⟨q,hq⟩:∃q,IntKind.i64.wrap (Wd*(2+y.Q % 2)*2 ^ (min ((n:Int)-1-i).toNat IntKind.i64.bits))=q:=⟨_,rfl⟩
   have cA:iT ps n i Wd=if q > 100 then 2 else 2+y.Q % 2:=by
    have h0:rf ps i=2+y.Q % 2:=(by unfold rf;rw[hy]);unfold iT;rw[h0,hq]
   have hsh:∀t o1 o2,bq prog .shl t o1 o2 (.lit (.int .i64 (Wd*(2+y.Q % 2)))) (.lit (.int .u64 ((n:Int)-1-i)))=some (.lit (.int .i64 q)):=fun t o1 o2=>by rw[A8 U,hq]
   by_cases hq1:q > 100
   ·simp only[go_sem,f1,f3,f6,f7,m0',hb,hp,i2,i3,i4,j1,j2,hsh,hc0,hc1,hcne,t1,i6,i7,hq1];refine W.dr 7 [0,1,0,0,12,28,0] mixed ?_;simp only[go_sem,f4,f5,f6,f7,m3',mN',i1,hpv,hpne,hv,hv0,hiP];exact fin 2 _ U (by rw[cA,W8 hq1])
   ·simp only[go_sem,f1,f3,f6,f7,m0',hb,hp,i2,i3,i4,j1,hsh,hc0,hc1,hcne,t1,i6,i7,hq1];refine W.dr 7 [0,1,0,0,12,28,0] mixed ?_;simp only[go_sem,f4,f5,f6,f7,m3',mN',i1,hpv,hpne,hv,hv0,hiP];exact fin (2+y.Q % 2) _ c23 (by rw[cA,W7 hq1])
  ·have p2:2<=Wd*2/\Wd*2<=3 ^ i*3:=U;have i5:IntKind.i64.wrap (2+IntKind.i64.wrap (Int.tmod 0 2))=2:=aax;have j2:=W6 (Wd*2) U;obtain⟨q,hq⟩:∃q,IntKind.i64.wrap (Wd*2*2 ^ (min ((n:Int)-1-i).toNat IntKind.i64.bits))=q:=⟨_,rfl⟩
   have cA:iT ps n i Wd=2:=by
    have h0:rf ps i=2:=(by unfold rf;rw[Xf U]);unfold iT;rw[h0];split<;>rfl
   have hsh:∀t o1 o2,bq prog .shl t o1 o2 (.lit (.int .i64 (Wd*2))) (.lit (.int .u64 ((n:Int)-1-i)))=some (.lit (.int .i64 q)):=fun t o1 o2=>by rw[A8 U,hq]
   by_cases hq1:q > 100
   ·simp only[go_sem,f1,f3,f6,f7,m0',hb,hp,i2,i3,i4,j2,hsh,i5,hq1];refine W.dr 7 [0,1,0,0,12,28,0] mixed ?_;simp only[go_sem,f4,f5,f6,f7,m3',mN',i1,hpv,hpne,hv,hv0,hiP];exact fin 2 _ U cA.symm
   ·simp only[go_sem,f1,f3,f6,f7,m0',hb,hp,i2,i3,i4,j2,hsh,i5,hq1];refine W.dr 7 [0,1,0,0,12,28,0] mixed ?_;simp only[go_sem,f4,f5,f6,f7,m3',mN',i1,hpv,hpne,hv,hv0,hiP];exact fin 2 _ U cA.symm
 ·obtain rfl:n=i:=U
  clear bs hW1 hW3 h6 f6;simp only[go_sem,f3,f7,hb];obtain⟨cs,hcs⟩:∃cs,cs=aE ns:=⟨_,rfl⟩
  have csl:cs.length=n:=by rw[hcs,gL,hnl]
  have hc23:∀c∈cs,2<=c/\c<=3:=fun c hc=>by
   obtain⟨v,hv⟩:=Xg.1 hc;have hvn:=get_lt hv;have hm:=wy ord n v U;rw[<- hP]at hm;obtain⟨j,hj⟩:=Xg.1 hm;obtain⟨x,hx,h2,h3,_⟩:=hnc j v (by have:=get_lt hj;omega) hj;rw[hcs,dK hx]at hv;cases hv;exact⟨h2,h3⟩
  have L0:LoopN g ps cs P n 0 ns:=⟨hnl,hcs.symm,fun j v x _ _ hx=>hnz x (an hx),fun j v x h=>U,fun j v x h=>U,fun j v x hj hx=>by
   obtain⟨x',hx',_,_,h4⟩:=hnc j v (by have:=get_lt hj;omega) hj;rw[hx']at hx;rw[<- Option.some.inj hx];exact h4⟩
  clear hnc hnz h7;refine W.aM 98079714615416886934934209737619636635871851991103765504 (by rfl) (fun ρ Hy=>∃(i:Nat) (ns:List nna),ρ 10=aa i/\i<=n/\LoopN g ps cs P n i ns/\Hx.C<=Hy.C/\mf H1 Hy (H.C+2) (bG ns)) (fun ρ H=>n-(iv (ρ 10)).toNat) ?_ ?_
  ·simp only[go_sem];exact⟨0,ns,rfl,U,L0,hF⟩
  clear L0 hF m0 m3 mN m0' m3' mN' hFn hnl hcs f7;rintro ρ Hy ⟨i,ns,h10,hi,L,hny,hF⟩;refine W.en (fun E=>E 1=.Y H.C 0 0 /\ E 2=.Y (H.C+1) 0 0 /\ E 3=aa n /\ E 4=.Y (H.C+3) 0 0 /\ E 5=ah P /\ E 10=aa i) (by simp only[go_sem,f1,f2,f3,f4,f5,h10]) fun E ⟨e1,e2,e3,e4,e5,e10⟩=>?_
  refine W.vs ?_;have hFn:=hF.1;have m0:=ag ((hF.2.1 H.C U U).trans g0');have m1:=ag ((hF.2.1 (H.C+1) U U).trans g1');have m3:=ag ((hF.2.1 (H.C+3) U U).trans g3');have m0':∀L,(ext Hy L).na H.C 0=some (25,[.lit (.int .u8 g0),.L ps.length (fb ps),.L ord.length (bQ ord)]):=fun L=>(cB U).trans m0;by_cases hb:(i:Int)<n
  ·obtain⟨pv,hpv⟩:=get_of_lt (l:=P) (i:=i) U;have hpr:=hperm.np pv (an hpv);obtain⟨v,rfl⟩:=Xn hpr.1;have hnl:=L.len;obtain⟨x,hx⟩:=get_of_lt (l:=ns) (i:=v) U;have hpne:=aS hpv;have hiP:(i:Int)<P.length:=U;have hP1:∀k:Nat,k<n->∃u:Nat,P[k]?=some (u:Int)/\u<n:=fun k hk=>by
    obtain⟨q,hq⟩:=get_of_lt (l:=P) (i:=k) U;have:=hperm.np q (an hq);obtain⟨u,rfl⟩:=Xn this.1;exact⟨u,hq,U⟩
   have hpc:∀(B:List nnn),B=(if (i:Int)<ps.length then (fb ps).drop (i*3) |>.take 3 else [.lit (.int .u8 0),.lit (.int .u8 0),.lit (.slice none 0 0)])->∃(pc par:Int) (bs:List Int) (wv:nnn),B=[.lit (.int .u8 pc),.lit (.int .u8 par),wv]/\(par=(mg ps i).1/\bs=(mg ps i).2)/\U8 par/\(∀b∈bs,U8 b)/\(bs.length:Int)<2 ^ 63/\wv.one=true/\wv.cells=[wv]/\∀H0,Fz (fun _=>True) H0 0 wv (.L bs.length (bQ bs)):=by
    rintro B rfl;by_cases hp:(i:Int)<ps.length
    ·obtain⟨y,hy⟩:=get_of_lt (l:=ps) (i:=i) U;have hyo:=hps y (an hy);rw[W8 hp,Fw hy];exact⟨y.Q,y.par,y.w,_,rfl,⟨by unfold mg;rw[hy],by unfold mg;rw[hy]⟩,hyo.2.1,hyo.2.2.2,hyo.2.2.1,rfl,rfl,fun H0=>.L rfl fun i hi _=>by simp only[bQ,Xi];exact .lit _⟩
    ·rw[W7 hp];exact⟨0,0,[],_,rfl,⟨by unfold mg;rw[Xf U],by unfold mg;rw[Xf U]⟩,by unfold U8;omega,aaw,aaw,rfl,rfl,fun H0=>.nil⟩
   by_cases hp:(i:Int)<ps.length
   case' pos =>
    have hc1:i*3+3<=(fb ps).length:=(by rw[Fx];omega);have hcne:¬fb ps=[]:=fun h=>by rw[h]at hc1;simp at hc1
    rw[W8 hp]at hpc;obtain⟨pc,par,bs,wv,hc0,hpw,hpar,hbs,hbl,hwo,hwc,hwf⟩:=hpc _ rfl;simp only[go_sem,e1,e3,e5,e10,m0',hb,hp,hc0,hc1,hcne,hpv,hpne,hiP,hwo,Bool.and_true];obtain⟨Hz,hHz⟩:∃Hz,Hz=ext Hy [.O 0 148 [.lit (.int .u8 pc),.lit (.int .u8 par),wv]]:=⟨_,rfl⟩
    clear hpc hc0 hc1 hcne hp
   case' neg =>
    rw[W7 hp]at hpc;obtain⟨pc,par,bs,wv,hc0,hpw,hpar,hbs,hbl,hwo,hwc,hwf⟩:=hpc _ rfl;simp only[go_sem,e1,e3,e5,e10,m0',hb,hp,hpv,hpne,hiP];rw[hc0];obtain⟨Hz,hHz⟩:∃Hz,Hz=ext Hy [.O 0 148 [.lit (.int .u8 pc),.lit (.int .u8 par),wv]]:=⟨_,rfl⟩
    clear hpc hc0 hp
   all_goals
    rw[<- hHz];refine W.env fun E3 hE3=>?_;have k1:E3 1=.Y H.C 0 0:=(by rw[hE3];simp only[go_sem,e1]);have k2:E3 2=.Y (H.C+1) 0 0:=(by rw[hE3];simp only[go_sem,e2]);have k3:E3 3=aa n:=(by rw[hE3];simp only[go_sem,e3]);have k4:E3 4=.Y (H.C+3) 0 0:=(by rw[hE3];simp only[go_sem,e4]);have k5:E3 5=ah P:=(by rw[hE3];simp only[go_sem,e5]);have k10:E3 10=aa i:=(by rw[hE3];simp only[go_sem,e10]);have k11:E3 11=.Y Hy.C 0 0:=(by rw[hE3];simp only[go_sem]);have k12:E3 12=aa v:=(by rw[hE3];simp only[go_sem]);have k13:E3 13=aa 0:=(by rw[hE3];simp only[go_sem]);clear hE3;have nz:Hz.C=Hy.C+1:=(by rw[hHz];rfl);have z3:Hz.get (H.C+3)=some (.O 0 90 [.lit (.int .i64 g),.Z (H.C+2) 0 0 n 3]):=(by rw[hHz,cV _ _ _ U];exact(hF.2.1 (H.C+3) U U).trans g3');have zP:Hz.get Hy.C=some (.O 0 148 [.lit (.int .u8 pc),.lit (.int .u8 par),wv]):=(by rw[hHz];exact bV);have zN:Hz.get (H.C+2)=some (.O 0 76 (bG ns)):=(by rw[hHz,cV _ _ _ U];exact hF.2.2);have zO:∀id,id<H1.C->id≠H.C+2->Hz.get id=H1.get id:=fun id h1 h2=>by rw[hHz,cV _ _ _ U];exact hF.2.1 id h1 h2
    obtain⟨xr,xp⟩:=L.todo i v x aaz hpv hx;have hzl:=Fy ns;have hvn:=get_lt hx;have hcx:(bG ns)[v*3+1]?=some (.lit (.slice none 0 0)):=by
     have:=iO (f:=nna.cD) (z:=3) kf ns v 1 x hx U;rw[show (bG ns)[v*3+1]?=_ from this];unfold nna.cD;rw[W8 xr];rfl
    clear hHz e1 e2 e3 e4 e5 e10 f1 f2 f3 f4 f5 m0' m0 m1 m3;have vlt:(v:Int)<n:=hpr.2;have v0:(v:Int) >= 0:=hpr.1;have hset:∀pv pv',setAt ((bG ns).set (v*3+1) pv) (v*3+1) [pv']=(bG ns).set (v*3+1) pv':=fun pv pv'=>by rw[dQ (by rw[Xb];omega),Zh]
    have hgetc:∀pv,((bG ns).set (v*3+1) pv)[v*3+1]?=some pv:=fun pv=>Xj U;refine W.mi (Q':=fun e s2=>e=.exit 4/\∃pv l,s2.ρ 1=.Y H.C 0 0/\s2.ρ 2=.Y (H.C+1) 0 0/\s2.ρ 3=aa n/\s2.ρ 4=.Y (H.C+3) 0 0/\s2.ρ 5=ah P/\s2.ρ 10=aa i/\s2.ρ 11=.Y Hy.C 0 0/\s2.ρ 12=aa v/\AI Hz s2.H (H.C+2) (v*3+1) (bG ns) pv l/\nnI P i n 0 l/\l=kg par P i n 0) ?_ ?_
    ·refine W.aM 44601490397061167054908922280959129468035072 (by rfl) (fun ρ Hu=>∃(u:Nat) (pv:nnn) (l:List Int),ρ 13=aa u/\u<=n/\AI Hz Hu (H.C+2) (v*3+1) (bG ns) pv l/\nnI P i u 0 l/\l=kg par P i u 0) (fun ρ H=>n-(iv (ρ 13)).toNat) ?_ ?_
     ·simp only[go_sem,k13];refine⟨0,.lit (.slice none 0 0),[],rfl,U,⟨⟨aaz,fun _ _ _=>rfl,?_⟩,.nil⟩,⟨aaw,aaw,aaw,aaw⟩,rfl⟩;rw[zN,iV hcx]
     rintro ρu Hu ⟨u,pv,l,h13,hu,hS,hL,hPk⟩;refine W.env fun E4 hE4=>?_;have q3:E4 3=aa n:=(by rw[hE4];simp only[go_sem,k3]);have q4:E4 4=.Y (H.C+3) 0 0:=(by rw[hE4];simp only[go_sem,k4]);have q5:E4 5=ah P:=(by rw[hE4];simp only[go_sem,k5]);have q10:E4 10=aa i:=(by rw[hE4];simp only[go_sem,k10]);have q11:E4 11=.Y Hy.C 0 0:=(by rw[hE4];simp only[go_sem,k11]);have q12:E4 12=aa v:=(by rw[hE4];simp only[go_sem,k12]);have q13:E4 13=aa u:=(by rw[hE4];simp only[go_sem,h13]);have q1:E4 1=.Y H.C 0 0:=(by rw[hE4];simp only[go_sem,k1]);have q2:E4 2=.Y (H.C+1) 0 0:=(by rw[hE4];simp only[go_sem,k2]);clear hE4;refine W.vs ?_;by_cases hub:(u:Int)<n
     ·have u1:=W6 ((u:Int)+1) U;simp only[go_sem,q3,q13,hub];refine W.aM 44601490397058710981870980086493729605566464 (by rfl) (fun ρ Hk=>∃(k:Nat) (pv:nnn) (l:List Int),ρ 14=aa k/\k<=i/\Hu.C<=Hk.C/\AI Hz Hk (H.C+2) (v*3+1) (bG ns) pv l/\nnI P i u k l/\l=kg par P i u k) (fun ρ H=>i-(iv (ρ 14)).toNat) ?_ ?_
      ·simp only[go_sem];exact⟨0,pv,l,rfl,U,hS,hL,hPk⟩
      clear hS hL hPk;rintro ρk Hk ⟨k,pv,l,h14,hk,hnk,hS,hL,hPk⟩;refine W.env fun E5 hE5=>?_;have r4:E5 4=.Y (H.C+3) 0 0:=(by rw[hE5];simp only[go_sem,q4]);have r5:E5 5=ah P:=(by rw[hE5];simp only[go_sem,q5]);have r10:E5 10=aa i:=(by rw[hE5];simp only[go_sem,q10]);have r11:E5 11=.Y Hy.C 0 0:=(by rw[hE5];simp only[go_sem,q11]);have r12:E5 12=aa v:=(by rw[hE5];simp only[go_sem,q12]);have r13:E5 13=aa u:=(by rw[hE5];simp only[go_sem,q13]);have r14:E5 14=aa k:=(by rw[hE5];simp only[go_sem,h14]);clear hE5;refine W.vs ?_;by_cases hki:(k:Int)<i
      ·obtain⟨hFz,hOz⟩:=hS;have hFz1:=hFz.1;obtain⟨a,ha,han⟩:=hP1 k U;have hane:=aS ha;have hkP:(k:Int)<P.length:=U;have s1:=W6 ((k:Int)+1) U;have s2:=Zd (k:Int) U;have y3:=ag ((hFz.2.1 (H.C+3) U U).trans z3);have yP:=ag ((hFz.2.1 Hy.C U U).trans zP);have yN:=ag hFz.2.2;have hgc:=hgetc pv;have hcne2:=aS hgc;obtain⟨r2,hr2e⟩:∃r2,r2=FE par k:=⟨_,rfl⟩
       obtain⟨r1,hr1e⟩:∃r1,r1=par.fdiv (2 ^ (min ((k:Int)).toNat IntKind.u8.bits)):=⟨_,rfl⟩
       have hr1:∀t o1 o2,bq prog .shr t o1 o2 (.lit (.int .u8 par)) (.lit (.int .u64 (k:Int)))=some (.lit (.int .u8 r1)):=fun _ _ _=>by rw[hr1e];exact wZ (U)
       have hr2:∀t o1 o2,bq prog .and t o1 o2 (.lit (.int .u8 r1)) (.lit (.int .u8 1))=some (.lit (.int .u8 r2)):=fun _ _ _=>by rw[hr2e,hr1e];exact w7
       have hlen:=wx hOz (d:=some (.slice 3)) rfl;rw[qk,aZ]at hlen;by_cases hau:(a:Int)=u
       ·have hau':a=u:=U;by_cases hr:r2=1
        ·by_cases hl3:(l.length:Int)<3
         ·simp only[go_sem,r4,r5,r10,r11,r12,r13,r14,hki,ha,hane,hkP,s2,y3,yP,yN,hgc,hr1,hr2,hlen,hau,hr,hl3,vlt,v0];obtain⟨pv',Hj,hA,hO',hn',hpr'⟩:=gf (P:=prog) (H:=Hk) (t:=72) (x:=aa u) (n:=Hk.C+1) Tryz.underlying72 Tryz.dY Tryz.eh rfl (by rw[Tryz.eV,aZ];omega) hOz hFz1 rfl;simp only[aa]at hA;have nf:∀id,id<Hz.C->Hj.get id=Hk.get id:=fun id h=>hpr' id U (hOz.ne h);have y3j:=ag ((nf _ U).trans ((hFz.2.1 (H.C+3) U U).trans z3));have yNj:=ag ((nf _ U).trans hFz.2.2);refine W.dr 12 [0,1,0,0,8,0,56,120,248,0,512,2040] mixed ?_;simp only[go_sem,r4,r12,r13,r14,y3,yN,yNj,hgc,vlt,v0,hA,s1];have hdj:mB (if kH pv=true then { nw:=aN pv,rs:=aN pv++[Hk.C] } else { nw:=[Hk.C+1],rs:=[Hk.C] }) { nw:=[],rs:=[H.C+3] }:=by
           rcases hOz with ⟨hO1,_⟩|⟨id,gg,hO1,hO2,hO3,_⟩
           ·rw[hO1];show mB { nw:=[Hk.C+1],rs:=[Hk.C] } _;exact⟨fun a ha=>by (obtain rfl:a=Hk.C+1:=by simpa using ha);simp;omega,fun a ha=>by simp at ha⟩
           ·rw[hO3];show mB { nw:=[id],rs:=[id]++[Hk.C] } _;exact⟨fun a ha=>by (obtain rfl:a=id:=by simpa using ha);simp;omega,fun a ha=>by simp at ha⟩
          have hpc1:=hO'.cells;rw[hpc1];refine⟨⟨U,U,U,U,U,U,U⟩,⟨hdj,hdj⟩,⟨rfl,by simp[hO'.one],by rw[Xb];simp;omega⟩,by rw[aw];omega,⟨k+1,pv',l++[(u:Int)],rfl,U,by rw[aw];omega,⟨⟨by rw[aw];omega,fun id h1 h2=>by rw[ae,W7 h2,nf _ h1];exact hFz.2.1 id h1 h2,?_⟩,?_⟩,hL.add hperm U (by rw[ha,hau]) U,by rw[wz,<- hPk];unfold oU;rw[W8 ⟨by rw[ha,hau],by rw[<- hr2e];exact hr,U⟩]⟩,by rw[h14];simp only[aa,aI];omega⟩
          ·rw[ae,W8 rfl,hset]
          ·have:=hO'.nf (lo':=Hz.C) (H':=Hj.upd (H.C+2) (.O 0 76 (setAt ((bG ns).set (v*3+1) pv) (v*3+1) [pv']))) aaz aaz fun id _ h1 _ _ _=>by rw[ae,W7 U]
           simpa[ints,aa] using this
         ·simp only[go_sem,r4,r5,r10,r11,r12,r13,r14,hki,ha,hane,hkP,s1,s2,y3,yP,yN,hgc,hr1,hr2,hlen,hau,hr,hl3,vlt,v0];exact⟨hnk,⟨k+1,pv,l,rfl,U,hnk,⟨hFz,hOz⟩,hL.skip,by rw[wz,<- hPk];unfold oU;rw[W7 fun h=>hl3 (by have:=h.2.2;omega)]⟩,by rw[h14];simp only[aa,aI];omega⟩
        ·simp only[go_sem,r5,r10,r11,r13,r14,hki,ha,hane,hkP,s1,s2,yP,hr1,hr2,hau,hr];exact⟨hnk,⟨k+1,pv,l,rfl,U,hnk,⟨hFz,hOz⟩,hL.skip,by rw[wz,<- hPk];unfold oU;rw[W7 fun h=>hr (by rw[hr2e];exact h.2.1)]⟩,by rw[h14];simp only[aa,aI];omega⟩
       ·simp only[go_sem,r5,r10,r13,r14,hki,ha,hane,hkP,s1,hau];exact⟨hnk,⟨k+1,pv,l,rfl,U,hnk,⟨hFz,hOz⟩,hL.skip,by rw[wz,<- hPk];unfold oU;rw[W7 fun h=>hau (by have h1:=h.1;rw[ha]at h1;exact Option.some.inj h1)]⟩,by rw[h14];simp only[aa,aI];omega⟩
      ·obtain rfl:k=i:=U;simp only[go_sem,r10,r13,r14,hki,u1];exact⟨by have:=hS.1.1;omega,⟨u+1,pv,l,rfl,U,hS,hL.C,by rw[TT];exact hPk⟩,by rw[h13];simp only[aa,aI];omega⟩
     ·obtain rfl:u=n:=U;simp only[go_sem,q1,q2,q3,q4,q5,q10,q11,q12,q13,hub];exact⟨pv,l,hS,hL,hPk⟩
    ·rintro e s2 ⟨rfl,pv,l,a1,a2,a3,a4,a5,a10,a11,a12,⟨hFz,hOz⟩,hL,hPk⟩;have hFz1:=hFz.1;obtain⟨rk,hrk,hfz⟩:∃rk,Hz.C<=rk/\Fz (fun id=>id=rk) s2.H s2.H.C pv (ah l):=by
      rcases hOz with ⟨hO1,hO2⟩|⟨id,gg,hO1,hO2,hO3,hO4⟩
      ·have:l=[]:=by cases l with
        |nil=>rfl
        |cons b l=>simp[ints]at hO2
       rw[hO1,this];exact⟨s2.H.C,hFz1,.nil⟩
      ·refine⟨id,hO1,?_⟩;rw[hO3,aZ];refine .nq rfl hO4 (by rw[Nat.mul_one,aZ]) fun j hj h2 h'=>?_;simp only[Nat.zero_add,ints,Xi];exact .lit _
     have hne2:H.C+2≠rk:=U;refine⟨⟨s2.ρ,s2.H.eF rk (H.C+2) (.O 0 76 ((bG ns).set (v*3+1) (ah l)))⟩,cF.eF aO hFz.2.2 hne2 aaw (Ba (FC ns) hfz),aaz,trivial,?_⟩;obtain⟨Hm,hHm⟩:∃Hm,Hm=s2.H.eF rk (H.C+2) (.O 0 76 ((bG ns).set (v*3+1) (ah l))):=⟨_,rfl⟩
     rw[<- hHm];have hFm:mf Hz Hm (H.C+2) ((bG ns).set (v*3+1) (ah l)):=by
      rw[hHm];exact⟨hFz1,fun id h1 h2=>(lj U h2).trans (hFz.2.1 id h1 h2),xc hne2⟩
     clear hFz hOz hfz hHm hne2 hrk;simp only[go_sem];refine W.env fun E6 hE6=>?_;have y1:E6 1=.Y H.C 0 0:=(by rw[hE6];simp only[go_sem,a1]);have y2:E6 2=.Y (H.C+1) 0 0:=(by rw[hE6];simp only[go_sem,a2]);have y3:E6 3=aa n:=(by rw[hE6];simp only[go_sem,a3]);have y4:E6 4=.Y (H.C+3) 0 0:=(by rw[hE6];simp only[go_sem,a4]);have y5:E6 5=ah P:=(by rw[hE6];simp only[go_sem,a5]);have y10:E6 10=aa i:=(by rw[hE6];simp only[go_sem,a10]);have y11:E6 11=.Y Hy.C 0 0:=(by rw[hE6];simp only[go_sem,a11]);have y12:E6 12=aa v:=(by rw[hE6];simp only[go_sem,a12]);have y15:E6 15=aa 0:=(by rw[hE6];simp only[go_sem]);clear hE6 a1 a2 a3 a4 a5 a10 a11 a12;have lsm:fh (bb cs l):=tv (by rw[jv];have:=hL.p3;omega) fun c hc=>by
      unfold bb at hc;obtain⟨q,hq,rfl⟩:=Xx.1 hc;have hqr:=hL.np q hq;obtain⟨c,hc⟩:=get_of_lt (l:=cs) (i:=q.toNat) (by rw[csl];rcases hqr.2 with h|⟨_,k',h,_⟩<;>omega);rw[cP hc];have:=hc23 c (an hc);omega
     have lpos:0<aL (bb cs l)/\aL (bb cs l)<=27:=by
      have c3:∀c∈bb cs l,1<=c/\c<=3:=fun c hc=>by
       unfold bb at hc;obtain⟨q,hq,rfl⟩:=Xx.1 hc;have hqr:=hL.np q hq;obtain⟨c,hc⟩:=get_of_lt (l:=cs) (i:=q.toNat) (by rw[csl];rcases hqr.2 with h|⟨_,k',h,_⟩<;>omega);rw[cP hc];have:=hc23 c (an hc);omega
      have h1:=jX fun c hc=>(c3 c hc).1;have h2:=(At (b:=3) U fun c hc=>⟨by have:=(c3 c hc).1;omega,(c3 c hc).2⟩).2;have h3:(3:Int) ^ (bb cs l).length<=3 ^ 3:=by
       have:(3:Nat) ^ (bb cs l).length<=3 ^ 3:=Xq aax (by rw[jv];exact hL.p3)
       exact_mod_cast this
      omega
     obtain⟨R,hR⟩:=Xn (show 0<=aL (bb cs l) by omega);have hxc:2<=x.Q/\x.Q<=3:=hc23 x.Q (by rw[<- L.ny];exact an (dK hx));have hFm1:=hFm.1;have w3:Hm.get (H.C+3)=some (.O 0 90 [.lit (.int .i64 g),.Z (H.C+2) 0 0 n 3]):=(hFm.2.1 _ U U).trans z3;have wP:Hm.get Hy.C=some (.O 0 148 [.lit (.int .u8 pc),.lit (.int .u8 par),wv]):=(hFm.2.1 _ U U).trans zP;obtain⟨C1,hC1⟩:∃C1,C1=(bG ns).set (v*3+1) (ah l):=⟨_,rfl⟩
     have c1l:C1.length=ns.length*3:=(by rw[hC1,Xb,hzl]);have hcx2:C1[v*3+2]?=some (.lit (.slice none 0 0)):=by
      have:=iO (f:=nna.cD) (z:=3) kf ns v 2 x hx U;rw[hC1,Xs U,show (bG ns)[v*3+2]?=_ from this];unfold nna.cD;rw[W8 xr];rfl
     have hcx0:C1[v*3]?=some (aa x.Q):=(by rw[hC1,Xs U];exact FA hx);rw[<- hC1]at hFm;have hset2:∀rv rv',setAt (C1.set (v*3+2) rv) (v*3+2) [rv']=C1.set (v*3+2) rv':=fun rv rv'=>by rw[dQ (by rw[Xb];omega),Zh]
     have hgc2:∀rv,(C1.set (v*3+2) rv)[v*3+2]?=some rv:=fun rv=>Xj U;have hgc0:∀rv,(C1.set (v*3+2) rv)[v*3]?=some (aa x.Q):=fun rv=>by rw[Xs U];exact hcx0
     refine W.mi (Q':=fun e s2=>e=.exit 8/\∃(rv:nnn) (X:List (List Int)),s2.ρ 1=.Y H.C 0 0/\s2.ρ 2=.Y (H.C+1) 0 0/\s2.ρ 3=aa n/\s2.ρ 4=.Y (H.C+3) 0 0/\s2.ρ 5=ah P/\s2.ρ 10=aa i/\X.length=R/\X=rj g x.Q bs R/\(∀r∈X,jx g x.Q r)/\mf Hm s2.H (H.C+2) (C1.set (v*3+2) rv)/\aB Hm.C s2.H 72 rv (X.map ah)) ?_ ?_
     ·refine W.aM 98079714615372285444537148491336716315054007096738611200 (by rfl) (fun ρ Hr=>∃(r:Nat) (rv:nnn) (X:List (List Int)),ρ 15=aa r/\r<=R/\X.length=r/\X=rj g x.Q bs r/\(∀r∈X,jx g x.Q r)/\mf Hm Hr (H.C+2) (C1.set (v*3+2) rv)/\aB Hm.C Hr 72 rv (X.map ah)) (fun ρ H=>R-(iv (ρ 15)).toNat) ?_ ?_
      ·simp only[go_sem,y15];refine⟨0,.lit (.slice none 0 0),[],rfl,U,rfl,rfl,aaw,⟨aaz,fun _ _ _=>rfl,?_⟩,.nil⟩;rw[hFm.2.2,iV hcx2]
      rintro ρr Hr ⟨r,rv,X,h15,hr,hrl,hrD,hrows,hFr,hOr⟩;refine W.env fun E7 hE7=>?_;have b1:E7 1=.Y H.C 0 0:=(by rw[hE7];simp only[go_sem,y1]);have b2:E7 2=.Y (H.C+1) 0 0:=(by rw[hE7];simp only[go_sem,y2]);have b3:E7 3=aa n:=(by rw[hE7];simp only[go_sem,y3]);have b4:E7 4=.Y (H.C+3) 0 0:=(by rw[hE7];simp only[go_sem,y4]);have b5:E7 5=ah P:=(by rw[hE7];simp only[go_sem,y5]);have b10:E7 10=aa i:=(by rw[hE7];simp only[go_sem,y10]);have b11:E7 11=.Y Hy.C 0 0:=(by rw[hE7];simp only[go_sem,y11]);have b12:E7 12=aa v:=(by rw[hE7];simp only[go_sem,y12]);have b15:E7 15=aa r:=(by rw[hE7];simp only[go_sem,h15]);clear hE7;refine W.vs ?_;have hFr1:=hFr.1;have v3:=ag ((hFr.2.1 (H.C+3) U U).trans w3);have vP:=ag ((hFr.2.1 Hy.C U U).trans wP);have vN:=ag hFr.2.2;have hzp:∀z∈ns,z.X=[]->z.J=[]:=fun z hz hz0=>by
       obtain⟨u,hu⟩:=Xg.1 hz;have hm:=wy ord n u (by have:=get_lt hu;omega);rw[<- hP]at hm;obtain⟨j,hj⟩:=Xg.1 hm;rcases Xu j i with h|h
       ·exact absurd hz0 (L.done j u z h hj hu).ne
       ·exact(L.todo j u z h hj hu).2
      have hcard:aE (ns.set v ⟨x.Q,l,X⟩)=cs:=by
       have h1:aE (ns.set v ⟨x.Q,l,X⟩)=(aE ns).set v x.Q:=(by unfold aE;rw[Zo]);rw[h1,iV (dK hx),L.ny]
      have hpar:aW (ns.set v ⟨x.Q,l,X⟩) ⟨x.Q,l,X⟩=bb cs l:=(by unfold aW;rw[hcard]);have fzN:Fz (fun _=>True) Hr 0 (.agg [aa g,.Z (H.C+2) 0 0 n 3]) (bS g (ns.set v ⟨x.Q,l,X⟩)):=by
       refine .agg rfl fun i hi _=>?_
       match i,hi with
       |0,_=>exact .lit _
       |1,_ =>
        show Fz _ _ _ _ (.L (ns.set v ⟨x.Q,l,X⟩).length (aG (ns.set v ⟨x.Q,l,X⟩)));rw[Xb,hnl,TO (y:=⟨x.Q,l,X⟩) hx rfl];refine .nq trivial hFr.2.2 (by rw[Xb,Xb,fJ];omega) fun j hj h2 h'=>?_;simp only[Nat.zero_add];refine FB (A:=C1) (B:=(aG ns).set (v*3+1) (ah l)) ?_ ?_ j _ _
        ·rw[hC1];exact FB (TN ns hzp) (.df _)
        ·have:=hOr.fz (S:=fun _=>True) (nx:=0) (cs':=X.map ah) (fun _ _=>trivial) rfl fun i hi _=>by simp only[Xi];exact .df _
         rw[Xl]at this;exact this
      simp only[go_sem,b4,b12,b15,v3];refine aC.nb ((af.frame (H:=Hr) (args:=[.agg [aa g,.Z (H.C+2) 0 0 n 3],aa v]) (args':=[bS g (ns.set v ⟨x.Q,l,X⟩),aa v]) (v':=ah (bb cs l)) aO rfl (fun i hi _=>?_) (TR g (ns.set v ⟨x.Q,l,X⟩) v ⟨x.Q,l,X⟩ (Xj hvn) (by rw[Xb];omega) (by show (l.length:Int)<_;have:=hL.p3;omega) (fun q hq=>by
        have hqr:=hL.np q hq;rw[Xb];rcases hqr.2 with h|⟨_,k',h,_⟩<;>omega) cw _ fun w Hq _ ho=>⟨_,rfl,by rw[hpar]at ho;exact ho.pg⟩)).mono fun r1 H1' hr1=>?_)
      ·match i,hi with
       |0,_=>exact fzN
       |1,_=>exact .lit _
      obtain⟨rfl,rfl⟩:=hr1;refine⟨trivial,?_⟩;simp only[go_sem];refine aC.nb (AW (bb cs l) lsm _ _ ⟨trivial,?_⟩);rw[hR];by_cases hrR:(r:Int)<R
      ·simp only[go_sem,hrR];obtain⟨xn,hxn⟩:=Xn (show 0<=x.Q by omega);have rc:0<=(r:Int)*(x.Q+1)/\(r:Int)*(x.Q+1)<=27*4:=⟨Ze U U,Yx U U U U⟩
       have c1:=W6 (x.Q+1) U;have c2:=W6 ((r:Int)*(x.Q+1)) U;have c3:=W6 ((r:Int)+1) U;have hg2:=hgc2 rv;have hg0':=hgc0 rv;have hg2n:=aS hg2;obtain⟨row,hrow⟩:∃row,row=nj g xn bs ((r:Int)*(x.Q+1)):=⟨_,rfl⟩
       have hrok:jx g x.Q row:=(by rw[hrow,hxn];exact Tu hg1.1 U _ _);have hpc84:∀Hq,cz prog G0 (.nb 77 [] []) [aa g,aa x.Q,wv,aa ((r:Int)*(x.Q+1))] Hq (ah row) []:=fun Hq=>by
        refine cz.mk (fun i hi=>by cases hi) fun H2 _ _=>?_;refine af.frame (H:=H2) (args:=[aa g,aa x.Q,wv,aa ((r:Int)*(x.Q+1))]) (args':=[aa g,aa xn,.L bs.length (bQ bs),aa ((r:Int)*(x.Q+1))]) (v':=ah row) aO rfl (fun i hi _=>?_) (Tv g xn hg1 U bs hbl hbs _ U cw _ fun w Hw _ ho=>⟨_,rfl,by rw[hrow];exact ho.pg⟩)
        match i,hi with
        |0,_=>exact .lit _
        |1,_=>rw[hxn];exact .lit _
        |2,_=>exact hwf _
        |3,_=>exact .lit _
       obtain⟨rv',Hj,hA,hO',hn',hpr'⟩:=gf (P:=prog) (H:=H1') (t:=74) (x:=ah row) (n:=H1'.C+1) Tryz.underlying74 Tryz.mU Tryz.mW rfl (by rw[Tryz.mV,Xl];omega) hOr hFr1 rfl;have nf:∀id,id<Hm.C->Hj.get id=H1'.get id:=fun id h=>hpr' id U (hOr.ne h);have v3j:=ag ((nf _ U).trans ((hFr.2.1 (H.C+3) U U).trans w3));have vNj:=ag ((nf _ U).trans hFr.2.2);have hA':bh prog (ext H1' [.O 0 72 [.L row.length (ints row)]]) (H1'.C+1) 74 74 rv (.Z H1'.C 0 0 1 1)=some (rv',Hj):=hA;refine W.dr 31 [0,1,0,0,8,0,56,120,248,0,512,0,2048,0,14336,30720,63488,0,131072,0,0,1048576,0,7340032,15728640,32505856,66060288,133693440,268434944,536870400,1073741816] mixed ?_;simp only[go_sem,b4,b11,b12,b15,v3,vP,vN,hg2,hg0',vlt,v0,c1,c2];refine⟨ah row,[],hpc84 _,?_⟩;simp only[go_sem,b4,b11,b12,b15,vNj,vlt,v0,c3,hA'];have hdj:mB (if kH rv=true then { nw:=aN rv,rs:=aN rv++[H1'.C] } else { nw:=[H1'.C+1],rs:=[H1'.C] }) { nw:=[],rs:=[H.C+3] }:=by
        rcases hOr with ⟨hO1,_⟩|⟨id,gg,hO1,hO2,hO3,_⟩
        ·rw[hO1];show mB { nw:=[H1'.C+1],rs:=[H1'.C] } _;exact⟨fun a ha=>by (obtain rfl:a=H1'.C+1:=by simpa using ha);simp;omega,fun a ha=>by simp at ha⟩
        ·rw[hO3];show mB { nw:=[id],rs:=[id]++[H1'.C] } _;exact⟨fun a ha=>by (obtain rfl:a=id:=by simpa using ha);simp;omega,fun a ha=>by simp at ha⟩
       rw[hO'.cells];refine⟨⟨U,U,U,U,U,U,U⟩,⟨hdj,hdj⟩,⟨rfl,by simp[hO'.one],by rw[Xb,c1l];simp;omega⟩,by rw[aw];omega,⟨r+1,rv',X++[row],rfl,U,by simp[hrl],by rw[TU,<- hrD,hrow,show x.Q.toNat=xn by omega],fun q hq=>?_,⟨by rw[aw];omega,fun id h1 h2=>by rw[ae,W7 h2,nf _ h1];exact hFr.2.1 id h1 h2,?_⟩,?_⟩,by rw[h15];simp only[aa,aI];omega⟩
       ·rcases Xt.1 hq with h|h
        ·exact hrows q h
        ·obtain rfl:=List.mem_singleton.1 h;exact hrok
       ·rw[ae,W8 rfl,hset2]
       ·have:=hO'.nf (lo':=Hm.C) (H':=Hj.upd (H.C+2) (.O 0 76 (setAt (C1.set (v*3+2) rv) (v*3+2) [rv']))) aaz aaz fun id _ h1 _ _ _=>by rw[ae,W7 U]
        simpa using this
      ·simp only[go_sem,b1,b2,b3,b4,b5,b10,hrR];exact⟨rv,X,U,by rw[hrD];congr 1;omega,hrows,hFr,hOr⟩
     ·rintro e s3 ⟨rfl,rv,X,a1,a2,a3,a4,a5,a10,hrl,hrD,hrows,hFr,hOr⟩;have hFr1:=hFr.1;obtain⟨rk,hrk,hfz⟩:∃rk,Hm.C<=rk/\Fz (fun id=>id=rk) s3.H s3.H.C rv (aD X):=by
       rcases hOr with ⟨hO1,hO2⟩|⟨id,gg,hO1,hO2,hO3,hO4⟩
       ·have:X=[]:=by cases X with
         |nil=>rfl
         |cons b l=>simp at hO2
        rw[hO1,this];exact⟨s3.H.C,hFr1,.nil⟩
       ·refine⟨id,hO1,?_⟩;rw[hO3,Xl];refine .nq rfl hO4 (by rw[Nat.mul_one,Xl]) fun j hj h2 h'=>?_;simp only[Nat.zero_add,Xi];exact .df _
      have hne2:H.C+2≠rk:=U;have hC1z:∀c∈C1,Fz (fun id=>id=rk) s3.H s3.H.C c c:=fun c hc=>by
       rw[hC1]at hc;rcases XI hc with h|h
       ·exact FC ns c h
       ·rw[h];exact .df _
      refine⟨⟨s3.ρ,s3.H.eF rk (H.C+2) (.O 0 76 (C1.set (v*3+2) (aD X)))⟩,cF.eF aO hFr.2.2 hne2 aaw (Ba hC1z hfz),aaz,trivial,?_⟩;obtain⟨He,hHe⟩:∃He,He=s3.H.eF rk (H.C+2) (.O 0 76 (C1.set (v*3+2) (aD X))):=⟨_,rfl⟩
      rw[<- hHe];have hFe:mf Hm He (H.C+2) (C1.set (v*3+2) (aD X)):=by
       rw[hHe];exact⟨hFr1,fun id h1 h2=>(lj U h2).trans (hFr.2.1 id h1 h2),xc hne2⟩
      clear hFr hOr hfz hHe hne2 hrk;have hFe1:=hFe.1;have i1:=W6 ((i:Int)+1) U;simp only[go_sem,a10,i1];have hiv:∀j u:Nat,P[j]?=some (u:Int)->u=v->j=i:=fun j u h1 h2=>by
       subst h2;exact(YM (get_lt h1) hperm.nd).1 (by rw[h1,hpv])
      have hrne:X≠[]:=fun h=>by rw[h]at hrl;simp at hrl;omega
      have hdone:DoneN g cs P n i ⟨x.Q,l,X⟩:=⟨⟨hL.pw,fun q hq=>⟨(hL.np q hq).1,by rcases(hL.np q hq).2 with h|⟨_,k',h,_⟩<;>omega⟩⟩,hL.p3,hL.rk,by show (X.length:Int)=_;rw[hrl,hR],hrows,hrne⟩
      refine⟨U,⟨i+1,ns.set v ⟨x.Q,l,X⟩,rfl,U,⟨by rw[Xb];exact hnl,?_,fun j u z hj hu hz=>?_,fun j u z hj hu hz=>?_,fun j u z hj hu hz=>?_,fun j u z hu hz=>?_⟩,U,U,fun id h1 h2=>?_,?_⟩,by rw[h10];simp only[aa,aI];omega⟩
      ·have h1:aE (ns.set v ⟨x.Q,l,X⟩)=(aE ns).set v x.Q:=(by unfold aE;rw[Zo]);rw[h1,iV (dK hx),L.ny]
      ·have huv:¬u=v:=fun h=>by have:=hiv j u hu h;omega
       rw[Xs U]at hz;exact L.todo j u z U hu hz
      ·by_cases huv:u=v
       ·obtain rfl:=hiv j u hu huv;rw[huv,Xj hvn]at hz;cases hz;exact hdone
       ·rw[Xs U]at hz;have:j≠i:=fun h=>by
         rw[h,hpv]at hu;exact huv (by have:=Option.some.inj hu;omega)
        exact L.done j u z U hu hz
      ·by_cases huv:u=v
       ·obtain rfl:=hiv j u hu huv;rw[huv,Xj hvn]at hz;rw[<- Option.some.inj hz];unfold AH;rw[<- L.cd j v x hpv hx,<- hpw.1,<- hpw.2,<- hPk,hR,hrD];rfl
       ·rw[Xs U]at hz;have:j≠i:=fun h=>by
         rw[h,hpv]at hu;exact huv (by have:=Option.some.inj hu;omega)
        exact L.eq j u z U hu hz
      ·by_cases huv:u=v
       ·obtain rfl:=hiv j u hu huv;rw[huv,Xj hvn]at hz;rw[<- Option.some.inj hz];exact L.cd j v x hpv hx
       ·rw[Xs U]at hz;exact L.cd j u z hu hz
      ·rw[hFe.2.1 id U h2,hFm.2.1 id U h2];exact zO id h1 h2
      ·rw[hFe.2.2,TV (y:=⟨x.Q,l,X⟩) hx rfl hrne,hC1]
  ·obtain rfl:i=n:=U;simp only[go_sem,e2,e3,e4,e10,hb,m1,m3];have hnl:=L.len;have hall:∀v:Nat,v<ns.length->(v:Int)∈P:=fun v hv=>by rw[hP];exact wy ord i v (U)
   have hdn:∀(v:Nat) (x:nna),ns[v]?=some x->∃j,DoneN g cs P i j x:=fun v x hx=>by
    obtain⟨j,hj⟩:=Xg.1 (hall v (get_lt hx));exact⟨j,L.done j v x (by have:=get_lt hj;have:=hperm.len;omega) hj hx⟩
   have hdm:∀x∈ns,∃j,DoneN g cs P i j x:=fun x hx=>by
    obtain⟨v,hv⟩:=Xg.1 hx;exact hdn v x hv
   have ov:nnd H (Hy.upd (H.C+1) (.O 0 90 [.lit (.int .i64 g),.Z (H.C+2) 0 0 i 3])):=⟨by rw[aw];omega,fun id h=>by rw[ae,W7 U,hF.2.1 id U U];exact o1.ng id h⟩
   have hz:bG ns=aG ns:=TL fun x hx=>(hdm x hx).elim fun j hj=>hj.ne;have hcl8:∀x∈ns,2<=x.Q/\x.Q<=3:=fun x hx=>hc23 x.Q (by rw[<- L.ny];exact Xx.2 ⟨x,hx,rfl⟩);have hnet:nnw g ns:=by
    refine⟨hg1,U,fun x hx=>?_,?_,FD (P:=P) (by rw[hnl];exact hperm) hall fun j v x hj hx q hq=>?_,fun x hx=>?_⟩
    ·obtain⟨j,hj⟩:=hdm x hx;have:=hcl8 x hx;exact⟨U,by rw[hnl];exact hj.pl⟩
    ·have h2:=(At (b:=3) U (l:=aE ns) fun c hc=>by have:=hc23 c (by rw[<- L.ny];exact hc);omega).2;have h3:(3:Int) ^ (aE ns).length<=3 ^ 5:=by
      have:(3:Nat) ^ (aE ns).length<=3 ^ 5:=Xq aax (by rw[gL];omega)
      exact_mod_cast this
     omega
    ·have hd:=L.done j v x (by have:=get_lt hj;have:=hperm.len;omega) hj hx;exact⟨(hd.pl.2 q hq).1,hd.rk q hq⟩
    ·obtain⟨j,hj⟩:=hdm x hx;unfold fK aW;rw[L.ny];exact⟨hj.rl,hj.ro⟩
   rw[<- hnl];rw[<- hnl]at ov;refine ar.mk ov.C (hK g ns (H.C+2) _ ov U (by rw[aw];omega) ?_ hnet U (fun x hx=>?_) (fun x hx=>?_) ⟨hg.symm,by rw[hnl];exact hn.symm,by rw[L.ny,hnl,<- hP];exact fun j v x hj hx=>L.eq j v x (by have:=get_lt hj;have:=hperm.len;omega) hj hx,by rw[hnl,<- hP];exact L.cd⟩)
   ·rw[ae,W7 U,hF.2.2,hz]
   ·obtain⟨j,hj⟩:=hdm x hx;exact hj.p3
   ·have:=hc23 x.Q (by rw[<- L.ny];unfold aE;exact List.mem_map_of_mem hx);omega
def TY (g0:Int)(ps:List DrP)(ord:List Int)(hg0:U8 g0)(hps:∀x∈ps,x.Ok)(hpl:(ps.length:Int)<2 ^ 63)(hol:(ord.length:Int)<2 ^ 63)(ho8:∀x∈ord,U8 x)(H:nnl)(K:nnf->nnl->Prop)
  (hK:∀g ns N H',nnd H H'->H.C<=N->N<H'.C->H'.get N=some (.O 0 76 (aG ns))->nnw g ns->ns.length<=5->(∀x∈ns,x.J.length<=3)->(∀x∈ns,2<=x.Q)->K (.ret (.agg [aa g,.Z N 0 0 ns.length 3])) H'):
  af prog G0 34 [wh g0 ps ord] H K:=TX g0 ps ord hg0 hps hpl hol ho8 H K fun g ns N H' a b c d e f h i _=>hK g ns N H' a b c d e f h i
def TZ (g0:Int)(ps:List DrP)(ord:List Int)(hg0:U8 g0)(hps:∀x∈ps,x.Ok)(hpl:(ps.length:Int)<2 ^ 63)(hol:(ord.length:Int)<2 ^ 63)(ho8:∀x∈ord,U8 x)(H:nnl)(K:nnf->nnl->Prop)
  (hK:∀g ns N H',nnd H H'->H.C<=N->N<H'.C->H'.get N=some (.O 0 76 (aG ns))->nnw g ns->ns.length<=5->(∀x∈ns,x.J.length<=3)->K (.ret (.agg [aa g,.Z N 0 0 ns.length 3])) H'):
  af prog G0 34 [wh g0 ps ord] H K:=TY g0 ps ord hg0 hps hpl hol ho8 H K fun g ns N H' a b c d e f h _=>hK g ns N H' a b c d e f h
def kh (s v:Nat)(hs:s<2 ^ 64)(H:nnl)(K:nnf->nnl->Prop)(hK:K (.ret (.lit (.bool (s.testBit v)))) H):af prog G0 47 [az s,aa v] H K:=by
 refine af.st (n:=10) (rs:=[.tmp 4]) func47 ?_;have s1:=fun t x y=>lh (P:=prog) (t:=t) (x:=x) (y:=y) (k':=.i64) (s:=v) hs;have s2:=fun t x y=>pr (P:=prog) (t:=t) (x:=x) (y:=y) (s:=v) hs;cases hb:s.testBit v
 ·rw[hb]at hK;simp only[go_sem,s1,s2,hb];exact ar.mk aaz hK
 ·rw[hb]at hK;simp only[go_sem,s1,s2,hb];exact ar.mk aaz hK
def ct (s n:Nat):List Int:=((List.range n).filter fun v=>s.testBit v).map fun (v:Nat)=>(v:Int)
def FF (s n:Nat):ct s (n+1)=if s.testBit n=true then ct s n++[(n:Int)] else ct s n:=by
 unfold ct;rw[Yj,Y6,X2];by_cases h:s.testBit n=true
 ·rw[W8 h];simp[h]
 ·rw[W7 h];simp[h]
def kZ {s:Nat}{q:Int}:q∈ct s n↔∃v:Nat,q=v/\v<n/\s.testBit v=true:=by
 unfold ct;simp only[Xx,YX,XJ];exact⟨fun ⟨v,⟨h1,h2⟩,h3⟩=>⟨v,h3.symm,h1,h2⟩,fun ⟨v,h1,h2,h3⟩=>⟨v,⟨h2,h3⟩,h1.symm⟩⟩
def wB (s n:Nat):(ct s n).Pairwise (·<·):=by
 unfold ct;refine List.Pairwise.map _ (R:=(·<·)) (fun a b h=>U) ?_;exact List.Pairwise.filter _ List.pairwise_lt_range
def FG (s n:Nat):(ct s n).length<=n:=by
 unfold ct;rw[Xl];exact XN (Zp _ _) (aaw)
def FH (s:Nat)(hs:s<2 ^ 64)(H:nnl)(K:nnf->nnl->Prop)(hK:K (.ret (ah (ct s 8))) H):af prog G0 37 [az s] H K:=by
 refine af.nb ⟨_,func37,rfl,rfl⟩ fun hcl=>?_;refine af.st (n:=17) (rs:=[.tmp 2]) func37 ?_;simp only[go_sem];refine W.aM 65528 (by rfl) (fun ρ H'=>∃k:Nat,ρ 4=aa k/\k<=8/\nnd H H'/\aB H.C H' 3 (ρ 3) (ints (ct s k))) (fun ρ H=>8-(iv (ρ 4)).toNat) ?_ ?_
 ·simp only[go_sem];exact⟨0,rfl,U,.refl _,.nil⟩
 rintro ρ H' ⟨k,h4,hk,ov,h3⟩;refine W.en (fun E=>E 0=az s /\ E 3=ρ 3 /\ E 4=aa k) (by simp only[go_sem,h4]) fun E ⟨e0,e3,e4⟩=>?_
 refine W.vs ?_;by_cases hb:(k:Int)<8
 ·have w1:=W6 ((k:Int)+1) U;have hbl:=FG s k;have hsu:=FF s k;simp only[go_sem,e0,e4,hb];refine aC.nb (kh s k hs _ _ ⟨trivial,?_⟩);by_cases hbit:s.testBit k=true
  ·obtain⟨v',H2,hA,ov2,hO,hn2,_⟩:=iW (k:Int) ov h3 U;rw[W8 hbit]at hsu;simp only[go_sem,e3,e4,hbit,w1,hA];exact⟨by have:=ov2.C;omega,⟨k+1,rfl,U,ov2,by rw[hsu];exact hO⟩,by rw[h4];simp only[aa,aI];omega⟩
  ·rw[W7 hbit]at hsu;have hbf:s.testBit k=false:=(by simpa using hbit);simp only[go_sem,e3,e4,hbf,w1];exact⟨ov.C,⟨k+1,rfl,U,ov,by rw[hsu];exact h3⟩,by rw[h4];simp only[aa,aI];omega⟩
 ·obtain rfl:k=8:=U
  simp only[go_sem,e3,e4];exact ar.bw aO hcl ov (h3.ep fun i hi=>hi) hK
def AJ:nnn->Nat
 |.Z _ _ _ n _=>n
 |_=>0
def wC {lo:Nat}{v:nnn}(h:aB lo H e v cs):AJ v=cs.length:=by
 rcases h with ⟨rfl,rfl⟩|⟨_,_,_,_,rfl,_⟩<;>rfl
def AK (d:nnb):List nnn:=[.lit (.int .i64 d.nn),.L d.F.length (aP d.F),.lit (.int .u64 (d.nl:Int)),.L d.V.length (aH d.V)]
def wD (d:nnb):nnn:=.agg (AK d)
def eN (d:nnb)(cs:List nnn):List nnn:=[.lit (.int .i64 d.nn),.L d.F.length cs,.lit (.int .u64 (d.nl:Int)),.L d.V.length (aH d.V)]
def bH (d:nnb)(cs:List nnn):nnn:=.agg (eN d cs)
def fg (d:nnb)(cs:List nnn):bH d cs=.agg (eN d cs):=rfl
def T0 (d:nnb):wD d=.agg (AK d):=rfl
def AL (d:nnb)(cs:List nnn)(hd:d.nl<2 ^ 64)(hl:(d.F.length:Int)<2 ^ 39)(H:nnl)(K:nnf->nnl->Prop)(hK:K (.ret (ah (av (ay d)))) H):af prog G0 27 [bH d cs] H K:=by
 refine af.nb ⟨_,func27,rfl,rfl⟩ fun hcl=>?_;refine af.st (n:=21) (rs:=[.tmp 2]) func27 ?_;simp only[go_sem,fg,eN];obtain⟨H1,hH1⟩:∃H1,H1=ext H [.O 0 38 [.lit (.int .i64 d.nn),.L d.F.length cs,.lit (.int .u64 (d.nl:Int)),.L d.V.length (aH d.V)]]:=⟨_,rfl⟩
 have l1:=ag (show H1.get H.C=some (.O 0 38 [.lit (.int .i64 d.nn),.L d.F.length cs,.lit (.int .u64 (d.nl:Int)),.L d.V.length (aH d.V)]) by rw[hH1];exact bY ..);have n1:H1.C=H.C+1:=hH1▸rfl
 have o1:nnd H H1:=hH1▸.ext _ _
 rw[<- hH1];refine W.aM 1048568 (by rfl) (fun ρ H'=>∃k:Nat,ρ 4=aa k/\k<=d.F.length/\nnd H1 H'/\aB H1.C H' 3 (ρ 3) (ints (av (dZ d.nl k)))) (fun ρ H=>d.F.length-(iv (ρ 4)).toNat) ?_ ?_
 ·simp only[go_sem];exact⟨0,rfl,U,.refl _,.nil⟩
 rintro ρ H' ⟨k,h4,hk,ov,h3⟩;refine W.en (fun E=>E 1=.Y H.C 0 0 /\ E 3=ρ 3 /\ E 4=aa k) (by simp only[go_sem,h4]) fun E ⟨e1,e3,e4⟩=>?_
 refine W.vs ?_;have l2:=(ov.na (g:=0) (by omega:H.C<H1.C)).trans l1;by_cases hb:(k:Int)<d.F.length
 ·have w1:=W6 ((k:Int)+1) U;have hbl:(av (dZ d.nl k)).length<=k:=by simp only[av,Xl];exact mb
  have hsu:=vX d.nl k;simp only[go_sem,e1,e4,l2,hb];refine aC.nb (kh d.nl k hd _ _ ⟨trivial,?_⟩);by_cases hbit:d.nl.testBit k=true
  ·obtain⟨v',H2,hA,ov2,hO,hn2,_⟩:=iW (k:Int) ov h3 U;rw[W8 hbit]at hsu;simp only[go_sem,e3,e4,hbit,w1,hA];exact⟨ov2.C,⟨k+1,rfl,U,ov2,by rw[hsu,show av (dZ d.nl k++[k])=av (dZ d.nl k)++[(k:Int)] by simp[av]];exact hO⟩,by rw[h4];simp only[aa,aI];omega⟩
  ·rw[W7 hbit]at hsu;have hbf:d.nl.testBit k=false:=(by simpa using hbit);simp only[go_sem,e3,e4,hbf,w1];exact⟨ov.C,⟨k+1,rfl,U,ov,by rw[hsu];exact h3⟩,by rw[h4];simp only[aa,aI];omega⟩
 ·have hke:k=d.F.length:=U
  rw[hke]at h3;simp only[go_sem,e1,e3,e4,l2,hb];exact ar.bw aO hcl (o1.trans ov) (h3.ep fun i hi=>U) hK
def FI (g:Int)(ns:List nna)(hl:(ns.length:Int)<2 ^ 39)(hp:∀x∈ns,(x.J.length:Int)<2 ^ 39/\∀q∈x.J,0<=q/\q<64)(H:nnl)(K:nnf->nnl->Prop)
  (hK:∀v H',nnd H H'->aB H.C H' 34 v ((aq ns).map az)->K (.ret v) H'):af prog G0 36 [bS g ns] H K:=by
 refine af.nb ⟨_,func36,rfl,rfl⟩ fun hcl=>?_;refine af.st (n:=43) (rs:=[.tmp 2]) func36 ?_;simp only[go_sem,bS,di];obtain⟨H1,hH1⟩:∃H1,H1=ext H [.O 0 90 [.lit (.int .i64 g),.L ns.length (aG ns)]]:=⟨_,rfl⟩
 have l1:H1.na H.C 0=some (90,[.lit (.int .i64 g),.L ns.length (aG ns)]):=by rw[hH1];exact ag (bY ..)
 have n1:H1.C=H.C+1:=hH1▸rfl
 have o1:nnd H H1:=hH1▸.ext _ _
 rw[<- hH1];refine W.aM 4398046511096 (by rfl) (fun ρ H'=>∃k:Nat,ρ 4=aa k/\k<=ns.length/\ρ 1=.Y H.C 0 0/\nnd H1 H'/\aB H1.C H' 34 (ρ 3) (((aq ns).take k).map az)) (fun ρ H=>ns.length-(iv (ρ 4)).toNat) ?_ ?_
 ·simp only[go_sem];exact⟨0,rfl,U,.refl _,.nil⟩
 rintro ρ H' ⟨k,h4,hk,h1,ov,h3⟩;refine W.vs ?_;have l2:=(ov.na (g:=0) (by omega:H.C<H1.C)).trans l1;by_cases hb:(k:Int)<ns.length
 ·obtain⟨x,hx⟩:=get_of_lt (l:=ns) (i:=k) U;have hne:=eC hx;have e1:=jW hx;obtain⟨xl,xr⟩:=hp x (an hx);simp only[go_sem,h4,h1,l2,hb];refine W.aM 274877890656 (by rfl) (fun ρ' H2=>H2=H'/\∃j:Nat,ρ' 6=aa j/\j<=x.J.length/\ρ' 5=az (bc (x.J.take j))) (fun ρ' H=>x.J.length-(iv (ρ' 6)).toNat) ?_ ?_
  ·simp only[go_sem];exact⟨0,rfl,U,rfl⟩
  rintro ρ' H2 ⟨rfl,j,h6,hj,h5⟩;refine W.vs ?_;by_cases hb2:(j:Int)<x.J.length
  ·obtain⟨q,hq⟩:=get_of_lt (l:=x.J) (i:=j) U;obtain⟨q0,q1⟩:=xr q (an hq);obtain⟨u,rfl⟩:=Xn q0;have hne2:=aS hq;have w1:=Zd (u:Int) U;have w2:=W6 ((j:Int)+1) U;have b1:bc (x.J.take j)<2 ^ 64:=kW fun p hp=>by have:=xr p (Xz hp);omega
   have s1:=fun t x y=>fZ (P:=prog) (t:=t) (x:=x) (y:=y) (k':=.u64) (s:=u) U;have s2:=fun t x y=>fj (P:=prog) (t:=t) (x:=x) (y:=y) (b:=2 ^ u) b1 (XG aax U);simp only[go_sem,h4,h1,l2,hb,hne,e1,h6,h5,hb2,hq,hne2,w1,w2,s1,s2];exact⟨⟨j+1,aaw,U,by rw[aQ hq,vW];rfl⟩,U⟩
  ·obtain⟨v',H3,hA,ov2,hO,hn2,_⟩:=FV (bc x.J) ov h3 (by simp[aq];omega);have w1:=W6 ((k:Int)+1) U;rw[W9 U]at h5;simp only[go_sem,h4,h1,l2,hb,hne,e1,h6,h5,hb2,w1,hA];refine⟨by have:=ov2.C;omega,⟨k+1,aaw,U,ov2,?_⟩,U⟩;rw[aQ (lf hx)];exact hO
 ·simp only[go_sem,h4,h1,l2,hb];rw[W9 (by simp[aq];omega)]at h3;exact ar.mk (o1.trans ov).C (hK _ _ (o1.trans ov) (h3.nf U aaz fun _ _ _ _ _ _=>rfl))
def T3 (ps:List Nat)(hl:ps.length<=60)(hp:∀p∈ps,p<2 ^ 64)(r:List Nat)(htp:eM ps=some r)(H:nnl)(K:nnf->nnl->Prop)(hK:∀v H',nnd H H'->aB H.C H' 3 v (ints (av r))->K (.ret v) H'):af prog G0 78 [fY ps] H K:=by
 refine af.nb ⟨_,func78,rfl,rfl⟩ fun hcl=>?_;refine af.st (n:=40) (rs:=[.tmp 2]) func78 ?_;simp only[go_sem];refine W.aM 549755813880 (by rfl) (fun ρ H'=>∃(out:List Nat) (done:Nat),ρ 4=az done/\done<2 ^ 64/\out.length<=ps.length/\nnd H H'/\aB H.C H' 3 (ρ 3) (ints (av out))/\gJ ps (ps.length-out.length) out done=some r) (fun ρ H=>ps.length-AJ (ρ 3)) ?_ ?_
 ·simp only[go_sem];exact⟨[],0,rfl,aax,aaw,.refl _,.nil,htp⟩
 rintro ρ H' ⟨out,done,h4,hd,ho,ov,h3,ht⟩;refine W.en (fun E=>E 0=fY ps /\ E 3=ρ 3 /\ E 4=az done) (by simp only[go_sem,h4]) fun E ⟨e0,e3,e4⟩=>?_
 refine W.vs ?_;have hlen:=wx h3 (d:=some (.slice 3)) rfl;have hol:=wC h3;have nl:(av out).length=out.length:=by simp[av]
 rw[qk,aZ,nl]at hlen;rw[aZ,nl]at hol;by_cases hb:(out.length:Int)<ps.length
 ·simp only[go_sem,e0,e3,hlen,hb];have hk1:ps.length-out.length=(ps.length-(out.length+1))+1:=U
  refine W.aM 549755811896 (by rfl) (fun ρ2 H2=>H2=H'/\∃j:Nat,ρ2 5=aa j/\j<=ps.length/\ρ2 3=ρ 3/\ρ2 4=az done/\∀v,v<j->iQ ps done v=false) (fun ρ2 H=>ps.length-(iv (ρ2 5)).toNat) ?_ ?_
  ·simp only[go_sem,e3,e4];exact⟨0,rfl,U,fun v h=>absurd h (Xo _)⟩
  rintro ρ2 H2 ⟨rfl,j,h5,hj,h3',h4',hno⟩;refine W.en (fun E2=>E2 0=fY ps /\ E2 3=ρ 3 /\ E2 4=az done /\ E2 5=aa j) (by simp only[go_sem,e0,h3',h4',h5]) fun E2 ⟨f0,f3,f4,f5⟩=>?_
  refine W.vs ?_;by_cases hb2:(j:Int)<ps.length
  ·obtain⟨p,hpj⟩:=get_of_lt (l:=ps) (i:=j) U;have hpj':(ps.map az)[j]?=some (az p):=(by rw[List.getElem?_map,hpj];rfl);have hne:=aS hpj';have s3:=fun t x y=>jz (P:=prog) (t:=t) (x:=x) (y:=y) (a:=p) (b:=done);have w1:=W6 ((j:Int)+1) U;have w2:=Zd (j:Int) U;have cont:iQ ps done j=false->∀v,v<j+1->iQ ps done v=false:=fun h v hv=>by
    rcases Xu v j with h'|h'
    ·exact hno v h'
    ·obtain rfl:v=j:=U;exact h
   have fe:iQ ps done j=(!done.testBit j && decide (cN p done=0)):=(by unfold iQ;rw[cP hpj]);simp only[go_sem,f0,f4,f5,hb2];refine aC.nb (AY done j hd U _ _ ⟨trivial,?_⟩);cases hbit:done.testBit j;rotate_left
   ·simp only[go_sem,f3,f4,f5,w1];exact⟨⟨j+1,rfl,U,cont (by rw[fe,hbit];rfl)⟩,by rw[h5];simp only[aa,aI];omega⟩
   by_cases hz:cN p done=0;rotate_left
   ·have hz':¬((cN p done:Nat):Int)=0:=U;simp only[go_sem,f0,f3,f4,f5,hb2,hpj',hne,s3,hz',w1];exact⟨⟨j+1,rfl,U,cont (by rw[fe,hbit];simp[hz])⟩,by rw[h5];simp only[aa,aI];omega⟩
   have hz':((cN p done:Nat):Int)=0:=U;have hnx:j5 ps done=some j:=F3 U hno (by rw[fe,hbit];simp[hz]);obtain⟨v',H3,hA,ov2,hO,hn2,_⟩:=iW (j:Int) ov h3 (by simp[av];omega);have b2:(2:Nat) ^ j<2 ^ 64:=XG aax U;have s4:=fun t x y=>fZ (P:=prog) (t:=t) (x:=x) (y:=y) (k':=.u64) (s:=j) U;have s5:=fun t x y=>fj (P:=prog) (t:=t) (x:=x) (y:=y) hd b2;simp only[go_sem,f0,f3,f4,f5,hb2,hpj',hne,s3,s4,s5,hz',w2,hA];have hO':aB H.C H3 3 v' (ints (av (out++[j]))):=by
    have e:av (out++[j])=av out++[(j:Int)]:=(by simp[av]);rw[e];exact hO
   have hol':=wC hO';have nl':(av (out++[j])).length=out.length+1:=(by simp[av]);rw[aZ,nl']at hol';refine⟨ov2.C,⟨out++[j],done |||2 ^ j,rfl,XV hd b2,by simp;omega,ov2,hO',?_⟩,by rw[hol,hol'];omega⟩;rw[<- ht,hk1]
   conv=>rhs;unfold gJ
   rw[hnx,List.length_append];rfl
  ·have hnn:j5 ps done=none:=F4 fun v hv=>hno v U;rw[hk1]at ht;unfold gJ at ht;rw[hnn]at ht;cases ht
 ·simp only[go_sem,e0,e3,hlen,hb];have e:ps.length-out.length=0:=U
  rw[e]at ht;unfold gJ at ht;cases ht;exact ar.mk ov.C (hK _ _ ov h3)
def T4 {lo:Nat}{v:nnn}{l:List Nat}(h:aB lo H e v (l.map az)):nns H v (fY l):=by
 rcases h with ⟨rfl,h⟩|⟨id,g,h1,h2,rfl,h4⟩
 ·have:l=[]:=by cases l with
   |nil=>rfl
   |cons a l=>simp at h
  subst this;exact .nil
 ·have e:fY l=.L (l.map az).length (l.map az):=by rw[Xl];rfl
  rw[e];refine .Z h4 aaw fun j hj h2 h'=>?_;simp only[Nat.zero_add,Xi];exact .lit _
def T5 (g:Int)(ns:List nna)(hl:ns.length<=8)(hp:∀x∈ns,(x.J.length:Int)<2 ^ 39/\∀q∈x.J,0<=q/\q<(ns.length:Int))(r:List Nat)(htp:eM (aq ns)=some r)(H:nnl)(K:nnf->nnl->Prop)
  (hK:∀v H',nnd H H'->aB H.C H' 3 v (ints (av r))->K (.ret v) H'):af prog G0 35 [bS g ns] H K:=by
 have hsl:(aq ns).length=ns.length:=by simp[aq]
 have hs64:∀p∈aq ns,p<2 ^ 64:=fun p h=>Xd (wT (n:=ns.length) (fun x hx q hq=>(hp x hx).2 q hq) p h) (Xq aax U);refine af.st (n:=6) (rs:=[.tmp 2]) func35 ?_;simp only[go_sem,bS,di];refine aC.nb (FW g ns U (fun x hx=>⟨(hp x hx).1,fun q hq=>by have:=(hp x hx).2 q hq;omega⟩) _ _ ⟨trivial,?_⟩);simp only[go_sem];refine aC.nb (T3 (aq ns) U hs64 r htp _ _ fun v H' ov ho=>⟨trivial,?_⟩);simp only[go_sem];have o1:nnd H H':=(nnd.ext _ _).trans ov;exact ar.mk o1.C (hK _ _ o1 (ho.nf (by simp[bu]) aaz fun _ _ _ _ _ _=>rfl))
structure UtD where
 vars:Int
 w:List Int
def I8 (n:Int):Prop:=-128<=n/\n<128
def oV (l:List Int):List nnn:=l.map fun n=>.lit (.int .i8 n)
def T1 (h:l[k]?=some a):(oV l)[k]?=some (.lit (.int .i8 a)):=by unfold oV;rw[List.getElem?_map,h];rfl
def UtD.cells (x:UtD):List nnn:=[.lit (.int .u8 x.vars),.L x.w.length (oV x.w)]
def UtD.Ok (x:UtD):Prop:=U8 x.vars/\(x.w.length:Int)<2 ^ 63/\∀b∈x.w,I8 b
def wE (p:Int)(k:Nat):Bool:=decide (IntKind.u8.wrap (((BitVec.ofInt IntKind.u8.bits (p.fdiv (2 ^ (min ((k:Int)).toNat IntKind.u8.bits))) &&& BitVec.ofInt IntKind.u8.bits 1).toNat:Nat):Int)=1)
def dC (p:Int):Nat->List Int
 |0=>[]
 |v+1=>if wE p v=true/\(dC p v).length<3 then dC p v++[(v:Int)] else dC p v
theorem wG (p:Int):∀n:Nat,(dC p n).Pairwise (·<·)/\(∀q∈dC p n,0<=q/\q<n)/\(dC p n).length<=3
 |0=>⟨by simp[dC],by simp[dC],by simp[dC]⟩
 |n+1=>by
  obtain⟨h1,h2,h3⟩:=wG p n;unfold dC;split
  ·rename_i h;refine⟨YT.2 ⟨h1,aaw,fun a ha b hb=>by obtain rfl:=List.mem_singleton.1 hb;exact(h2 a ha).2⟩,fun q hq=>?_,by simp;omega⟩;rcases Xt.1 hq with h4|h4
   ·have:=h2 q h4;omega
   ·obtain rfl:=List.mem_singleton.1 h4;omega
  ·exact⟨h1,fun q hq=>by have:=h2 q hq;omega,h3⟩
def eo (p:UtD)(ns:List nna):nni:=⟨dC p.vars ns.length,(List.range (aL (bb (aE ns) (dC p.vars ns.length))).toNat).map fun (i:Nat)=>if p.w.length=0 then 0 else (p.w.getD (i % p.w.length) 0).tmod 101⟩
def T2 (p:UtD)(ns:List nna)(hc:∀x∈ns,1<=x.Q):nnx ns (eo p ns):=by
 obtain⟨h1,h2,h3⟩:=wG p.vars ns.length;refine⟨⟨h1,h2⟩,?_,fun x hx=>?_⟩
 ·have hp:1<=aL (bb (aE ns) (dC p.vars ns.length)):=jX fun c h=>by
   unfold bb at h;obtain⟨q,hq,rfl⟩:=Xx.1 h;have:=h2 q hq;obtain⟨x,hx⟩:=get_of_lt (l:=ns) (i:=q.toNat) U;rw[cP (dK hx)];exact hc x (an hx)
  show ((List.map _ _).length:Int)=aL (bb (aE ns) (dC p.vars ns.length));rw[Xl,Ym];omega
 ·unfold eo at hx;obtain⟨i,_,rfl⟩:=Xx.1 hx;split
  ·omega
  ·have h:=Int.natAbs_tmod (p.w.getD (i % p.w.length) 0) 101;have h2:=ZY (p.w.getD (i % p.w.length) 0).natAbs (show (101:Int).natAbs > 0 by decide);have h3:(101:Int).natAbs=101:=rfl;rw[h3]at h h2;omega
def T6 (p:UtD)(hp:p.Ok)(g:Int)(ns:List nna)(h5:1<=ns.length/\ns.length<=8)(hc:∀x∈ns,1<=x.Q/\x.Q<=4)(H:nnl)(K:nnf->nnl->Prop)
  (hK:∀v1 v2 H',nnd H H'->aB H.C H' 3 v1 (ints (eo p ns).vars)->aB H.C H' 3 v2 (ints (eo p ns).w)->K (.ret (.agg [v1,v2])) H'):af prog G0 38 [.agg p.cells,bS g ns] H K:=by
 refine af.st (n:=70) (rs:=[.cell 4 87]) func38 ?_;simp only[go_sem,bS,di,UtD.cells];obtain⟨H1,hH1⟩:∃H1,H1=ext H [.O 0 98 [.lit (.int .u8 p.vars),.L p.w.length (oV p.w)],.O 0 90 [.lit (.int .i64 g),.L ns.length (aG ns)],.O 0 87 [.lit (.slice none 0 0),.lit (.slice none 0 0)],.O 0 87 [.lit (.slice none 0 0),.lit (.slice none 0 0)]]:=⟨_,rfl⟩
 have g0:=de hH1
 have g1:=gE hH1 1 rfl
 have g2:=gE hH1 2 rfl
 have g3:=gE hH1 3 rfl
 have n1:H1.C=H.C+4:=hH1▸rfl
 have o1:nnd H H1:=hH1▸.ext _ _
 rw[<- hH1];clear hH1;obtain⟨cs,hcs⟩:∃cs,cs=aE ns:=⟨_,rfl⟩
 have smk:∀k,k<=ns.length->fh (bb cs (dC p.vars k)):=fun k hk=>by
  obtain⟨h1,h2,h3⟩:=wG p.vars k;refine tv (by rw[jv];omega) fun c h=>?_;unfold bb at h;obtain⟨q,hq,rfl⟩:=Xx.1 h;have:=h2 q hq;obtain⟨x,hx⟩:=get_of_lt (l:=ns) (i:=q.toNat) U;rw[hcs,cP (dK hx)];exact hc x (an hx)
 refine W.aM 8796093021376 (by rfl) (fun ρ Hx=>∃(k:Nat) (v1:nnn),ρ 7=aa k/\k<=ns.length/\ρ 6=aa (aL (bb cs (dC p.vars k)))/\H1.C<=Hx.C/\(∀id,id<H1.C->id≠H.C+3->Hx.get id=H1.get id)/\Hx.get (H.C+3)=some (.O 0 87 [v1,.lit (.slice none 0 0)])/\aB H1.C Hx 3 v1 (ints (dC p.vars k))) (fun ρ H=>ns.length-(iv (ρ 7)).toNat) ?_ ?_
 ·simp only[go_sem];exact⟨0,_,rfl,U,rfl,g3,.nil⟩
 rintro ρ Hx ⟨k,v1,h7,hk,h6,hnx,hold,hu,hO⟩;refine W.en (fun E=>E 2=.Y H.C 0 0 /\ E 3=.Y (H.C+1) 0 0 /\ E 4=.Y (H.C+2) 0 0 /\ E 5=.Y (H.C+3) 0 0 /\ E 6=aa (aL (bb cs (dC p.vars k))) /\ E 7=aa k) (by simp only[go_sem,h6,h7]) fun E ⟨e2,e3,e4,e5,e6,e7⟩=>?_
 refine W.vs ?_;have l0:=ag ((hold _ U U).trans g0);have l1:=ag ((hold _ U U).trans g1);have l3:=ag hu;by_cases hb:(k:Int)<ns.length
 ·obtain⟨x,hx⟩:=get_of_lt (l:=ns) (i:=k) U;have hne:=eC hx;have c0:=lY hx;have w1:=W6 ((k:Int)+1) U;obtain⟨r1,hr1⟩:∃r1,p.vars.fdiv (2 ^ (min ((k:Int)).toNat IntKind.u8.bits))=r1:=⟨_,rfl⟩
  obtain⟨r2,hr2⟩:∃r2,IntKind.u8.wrap (((BitVec.ofInt IntKind.u8.bits r1 &&& BitVec.ofInt IntKind.u8.bits 1).toNat:Nat):Int)=r2:=⟨_,rfl⟩
  have s1:∀t o1 o2,bq prog .shr t o1 o2 (.lit (.int .u8 p.vars)) (.lit (.int .i64 (k:Int)))=some (.lit (.int .u8 r1)):=fun t o1 o2=>by rw[wZ U,hr1]
  have s2:∀t o1 o2,bq prog .and t o1 o2 (.lit (.int .u8 r1)) (.lit (.int .u8 1))=some (.lit (.int .u8 r2)):=fun t o1 o2=>by rw[w7,hr2]
  have hb8:wE p.vars k=decide (r2=1):=by unfold wE;rw[hr1,hr2]
  have hlen:=wx hO (d:=some (.slice 3)) rfl;rw[qk,aZ]at hlen;obtain⟨u1,u2,u3⟩:=wG p.vars k;have hstep:dC p.vars (k+1)=if wE p.vars k=true/\(dC p.vars k).length<3 then dC p.vars k++[(k:Int)] else dC p.vars k:=rfl
  by_cases hr:r2=1
  ·by_cases h3:((dC p.vars k).length:Int)<3
   ·rw[W8 ⟨by rw[hb8,Xy hr],U⟩]at hstep;obtain⟨v',H3,hA,hO3,hn3,hp3⟩:=gf (P:=prog) (H:=Hx) (t:=72) (x:=aa k) (n:=Hx.C+1) Tryz.underlying72 Tryz.dY Tryz.eh rfl (by rw[Tryz.eV,aZ];omega) hO hnx rfl;simp only[aa]at hA;have nf:∀id,id<H1.C->H3.get id=Hx.get id:=fun id h=>hp3 id U (hO.ne h);have l1j:=ag ((nf _ U).trans ((hold _ U U).trans g1));have l3j:=ag ((nf _ U).trans hu);have hvc:=hO3.cells;have hvo:=hO3.one;have l1u:∀b,(H3.upd (H.C+3) b).na (H.C+1) 0=some (90,[.lit (.int .i64 g),.L ns.length (aG ns)]):=fun b=>(jA U).trans l1j;have hpr:aL (bb cs (dC p.vars (k+1)))=aL (bb cs (dC p.vars k))*x.Q:=by
     rw[hstep];unfold bb;rw[X2,hcs];show aL (_++[(aE ns).getD ((k:Int)).toNat 0])=_;rw[gX,Int.toNat_natCast,cP (dK hx)]
    have hps:=(smk (k+1) U).prod;rw[hpr]at hps;have w2:=W6 (aL (bb cs (dC p.vars k))*x.Q) U;simp only[go_sem,e2,e3,e5,e6,e7,l0,l1,l3,l3j,hb,s1,s2,hr,hlen,h3,w1,w2,hne,c0,hA,hvc,hvo,l1u];refine⟨by rw[aw];omega,⟨k+1,v',rfl,U,by rw[hpr],by rw[aw];omega,fun id h1 h2=>by rw[ae,W7 h2,nf _ h1];exact hold id h1 h2,by rw[ae,W8 rfl],?_⟩,by rw[h7];simp only[aa,aI];omega⟩;rw[hstep];have:=hO3.nf (lo':=H1.C) (H':=H3.upd (H.C+3) (.O 0 87 [v',.lit (.slice none 0 0)])) aaz aaz fun id _ h1 _ _ _=>by rw[ae,W7 U]
    simpa[ints,aa] using this
   ·rw[W7 U]at hstep;simp only[go_sem,e2,e3,e5,e6,e7,l0,l1,l3,hb,s1,s2,hr,hlen,h3,w1];exact⟨hnx,⟨k+1,v1,rfl,U,by rw[hstep],hnx,hold,hu,by rw[hstep];exact hO⟩,by rw[h7];simp only[aa,aI];omega⟩
  ·rw[W7 (by rw[hb8,XL hr];simp)]at hstep;simp only[go_sem,e2,e3,e6,e7,l0,l1,hb,s1,s2,hr,w1];exact⟨hnx,⟨k+1,v1,rfl,U,by rw[hstep],hnx,hold,hu,by rw[hstep];exact hO⟩,by rw[h7];simp only[aa,aI];omega⟩
 ·have hke:k=ns.length:=U
  simp only[go_sem,e3,e7,l1,hb];rw[hke]at hO e6;obtain⟨R,hR⟩:=Xn (smk ns.length U).prod.1;have hR2:=(smk ns.length U).prod.2;rw[hR]at e6 hR2;have hwl:(eo p ns).w=(List.range R).map fun (i:Nat)=>if p.w.length=0 then 0 else (p.w.getD (i % p.w.length) 0).tmod 101:=by
   unfold eo;rw[<- hcs,hR];rfl
  have wget:∀(i:Nat) (x:Int),i<R->(if p.w.length=0 then 0 else (p.w.getD (i % p.w.length) 0).tmod 101)=x->(eo p ns).w[i]?=some x:=fun i x hi hx=>by
   rw[hwl,List.getElem?_map,aau hi,Option.map_some,hx]
  have wlen:(eo p ns).w.length=R:=by rw[hwl];simp
  refine W.aM 590295801562612630272 (by rfl) (fun ρ H2=>∃(i:Nat) (v2:nnn),ρ 8=aa i/\i<=R/\Hx.C<=H2.C/\(∀id,id<Hx.C->id≠H.C+3->H2.get id=Hx.get id)/\H2.get (H.C+3)=some (.O 0 87 [v1,v2])/\aB Hx.C H2 3 v2 (ints ((eo p ns).w.take i))) (fun ρ H=>R-(iv (ρ 8)).toNat) ?_ ?_
  ·simp only[go_sem];exact⟨0,_,rfl,U,hu,.nil⟩
  rintro ρ2 H2 ⟨i,v2,h8,hi,hn2,hold2,hu2,hO2⟩;refine W.en (fun E2=>E2 2=.Y H.C 0 0 /\ E2 4=.Y (H.C+2) 0 0 /\ E2 5=.Y (H.C+3) 0 0 /\ E2 6=aa R /\ E2 8=aa i) (by simp only[go_sem,e2,e4,e5,e6,h8]) fun E2 ⟨f2,f4,f5,f6,f8⟩=>?_
  refine W.vs ?_;have o02:∀id,id<H1.C->id≠H.C+3->H2.get id=H1.get id:=fun id h1 h2=>(hold2 id U h2).trans (hold id h1 h2);have m0:=ag ((o02 _ U U).trans g0);have m3:=ag hu2;by_cases hb2:(i:Int)<R
  ·have w1:=W6 ((i : Int)+1) U;have hlen:=wx hO2 (d:=some (.slice 3)) rfl;rw [qk,aZ] at hlen;have tl : ((eo p ns).w.take i).length=i:=(by rw [Xm,wlen];omega);have app : ∀ x : Int,(eo p ns).w[i]?=some x→∃ v' H3,bh prog (ext H2 [.O 0 3 [.lit (.int .i64 x)]]) (H2.C+1) 72 72 v2 (.Z H2.C 0 0 1 1)=some (v',H3)∧v'.cells=[v']∧v'.one=true∧H3.na (H.C+3) 0=some (87,[v1,v2])∧H2.C≤H3.C ∧
     ∀b,b=.O 0 87 [v1,v']->(∀id,id<Hx.C->id≠H.C+3->(H3.upd (H.C+3) b).get id=Hx.get id)/\(H3.upd (H.C+3) b).get (H.C+3)=some (.O 0 87 [v1,v'])/\aB Hx.C (H3.upd (H.C+3) b) 3 v' (ints ((eo p ns).w.take (i+1))):=fun x hx=>by
    obtain⟨v',H3,hA,hO3,hn3,hp3⟩:=gf (P:=prog) (H:=H2) (t:=72) (x:=aa x) (n:=H2.C+1) Tryz.underlying72 Tryz.dY Tryz.eh rfl (by rw[Tryz.eV,aZ];omega) hO2 hn2 rfl;simp only[aa]at hA;have nf:∀id,id<Hx.C->H3.get id=H2.get id:=fun id h=>hp3 id U (hO2.ne h);refine⟨v',H3,hA,hO3.cells,hO3.one,ag ((nf _ U).trans hu2),hn3,fun b hb=>⟨fun id h1 h2=>by rw[ae,W7 h2,nf _ h1];exact hold2 id h1 h2,by rw[ae,W8 rfl,hb],?_⟩⟩;rw[aQ hx];have:=hO3.nf (lo':=Hx.C) (H':=H3.upd (H.C+3) b) aaz aaz fun id _ h1 _ _ _=>by rw[ae,W7 U]
    simpa[ints,aa] using this
   by_cases hz:(0:Int)<p.w.length
   ·have hzn:¬(p.w.length:Int)=0:=U;have m1:(i:Int).tmod p.w.length=((i % p.w.length:Nat):Int):=(by rw[XF U];rfl);have m2:=ZY i (show p.w.length > 0 by omega);obtain⟨q,hq⟩:∃q,q=i % p.w.length:=⟨_,rfl⟩
    rw[<- hq]at m1 m2;have hq0:(q:Int) >= 0:=U;have hql:(q:Int)<p.w.length:=U;obtain⟨b,hbg⟩:=get_of_lt (l:=p.w) (i:=q) m2;have b8:=hp.2.2 b (an hbg);have hbg':=T1 hbg;have hbne:=aS hbg';unfold I8 at b8;have w4:IntKind.i64.wrap b=b:=W6 _ U;have tb:-9223372036854775808<=b.tmod 101/\b.tmod 101<9223372036854775808:=by
     have h:=Int.natAbs_tmod b 101;have h2:=ZY b.natAbs (show (101:Int).natAbs > 0 by decide);have h3:(101:Int).natAbs=101:=rfl;rw[h3]at h h2;omega
    have w5:IntKind.i64.wrap (b.tmod 101)=b.tmod 101:=W6 _ U;obtain⟨v',H3,hA,hvc,hvo,l3,hn3,fin⟩:=app (b.tmod 101) (wget i _ U (by rw[W7 U,<- hq,cP hbg]));simp only[go_sem,f2,f6,f8,m0,hb2,hz];refine W.dr 7 [0,1,0,0,8,24,60] mixed ?_;simp only[go_sem,f2,f5,f8,m0,m3,hzn,m1,hq0,hql,hbg',hbne,w1,w4,hA,hvc,hvo,l3];refine⟨by rw[aw];omega,⟨i+1,v',rfl,U,by rw[aw];omega,(fin _ rfl).1,(fin _ rfl).2.1,(fin _ rfl).2.2⟩,by rw[h8];simp only[aa,aI];omega⟩
   ·have hzn:p.w.length=0:=U;obtain⟨v',H3,hA,hvc,hvo,l3,hn3,fin⟩:=app 0 (wget i _ U (by rw[W8 hzn]));simp only[go_sem,f2,f5,f6,f8,m0,m3,hb2,hz,w1,hA,hvc,hvo,l3];refine⟨by rw[aw];omega,⟨i+1,v',rfl,U,by rw[aw];omega,(fin _ rfl).1,(fin _ rfl).2.1,(fin _ rfl).2.2⟩,by rw[h8];simp only[aa,aI];omega⟩
  ·have hie:i=R:=U;have m2:=ag ((o02 _ U U).trans g2);have hO1:aB H1.C H2 3 v1 (ints (dC p.vars ns.length)):=hO.nf aaz hn2 fun id _ h1 h3 _ _=>hold2 id h3 U;have v1o:=hO1.one;have v2o:=hO2.one;have v1c:=hO1.cells;have v2c:=hO2.cells;rw[W9 U]at hO2;simp only[go_sem,f4,f5,f6,f8,m2,m3,hb2,v1o,v2o];have k1:=hO1.nf (lo':=H.C) (H':=H2.upd (H.C+2) (.O 0 87 [v1,v2])) U (by rw[aw];omega) fun id _ h1 _ _ _=>by rw[ae,W7 U]
   have k2:=hO2.nf (lo':=H.C) (H':=H2.upd (H.C+2) (.O 0 87 [v1,v2])) U (by rw[aw];omega) fun id _ h1 _ _ _=>by rw[ae,W7 U]
   refine ar.mk (by rw[aw];omega) (hK v1 v2 _ ⟨by rw[aw];omega,fun id h=>?_⟩ k1 k2);rw[ae,W7 U,o02 id U U];exact o1.ng id h
structure TopoR (ps:List Nat)(r:List Nat):Prop where
 len:r.length=ps.length
 nd:r.Nodup
 np:∀v∈r,v<ps.length
 rk:∀(i v:Nat),r[i]?=some v->∀u,(ps.getD v 0).testBit u=true->∃j,j<i/\r[j]?=some u
def Tw (hp:∀p∈ps,p<2 ^ 64):∀(k:Nat) (out:List Nat) (done:Nat) (r:List Nat),gJ ps k out done=some r->(∀i,done.testBit i=true↔i∈out)->out.Nodup->(∀v∈out,v<ps.length)->(∀(i v:Nat),out[i]?=some v->∀u,(ps.getD v 0).testBit u=true->∃j,j<i/\out[j]?=some u) ->
  r.length=out.length+k/\r.Nodup/\(∀v∈r,v<ps.length)/\(∀(i v:Nat),r[i]?=some v->∀u,(ps.getD v 0).testBit u=true->∃j,j<i/\r[j]?=some u):=by
 intro k
 induction k with
 |zero =>
  intro out done r h h1 h2 h3 h4;unfold gJ at h;cases h;exact⟨rfl,h2,h3,h4⟩
 |succ k ih =>
  intro out done r h h1 h2 h3 h4;unfold gJ at h;cases hn:j5 ps done with
  |none=>rw[hn]at h;cases h
  |some v =>
   rw[hn]at h;obtain⟨a,b,c⟩:=Ax hp hn;have hvo:v ∉ out:=fun hm=>by rw[(h1 v).2 hm]at b;cases b
   obtain⟨e1,e2,e3,e4⟩:=ih (out++[v]) (done |||2 ^ v) r h (fun i=>by
    rw[gY,Xt,List.mem_singleton,XU,h1,decide_eq_true_eq];exact or_congr Iff.rfl eq_comm) (ZZ.2 ⟨h2,aaw,fun x hx y hy=>by obtain rfl:=List.mem_singleton.1 hy;rintro rfl;exact hvo hx⟩) (fun x hx=>by
    rcases Xt.1 hx with hx|hx
    ·exact h3 x hx
    ·obtain rfl:=List.mem_singleton.1 hx;exact a) (fun i x hx u hu=>by
    have hl:=get_lt hx;rw[List.length_append,X7]at hl;rcases Xu i out.length with hi|hi
    ·rw[Xe hi]at hx;obtain⟨j,j1,j2⟩:=h4 i x hx u hu;exact⟨j,j1,by rw[Xe U];exact j2⟩
    ·obtain rfl:i=out.length:=U;simp only[Zw,Option.some.injEq]at hx;subst hx;obtain⟨j,hj⟩:=Xg.1 ((h1 u).1 (c u hu));exact⟨j,get_lt hj,by rw[Xe (get_lt hj)];exact hj⟩)
   exact⟨by rw[e1,List.length_append,X7];omega,e2,e3,e4⟩
def Tx (hp:∀p∈ps,p<2 ^ 64)(h:eM ps=some r):TopoR ps r:=by
 obtain⟨e1,e2,e3,e4⟩:=Tw hp ps.length [] 0 r h (fun i=>aaw) aaw aaw aaw;exact⟨by simpa using e1,e2,e3,e4⟩
def Ty:∀(n:Nat) (l:List Nat),l.Nodup->(∀v∈l,v<n)->l.length<=n:=by
 intro n
 induction n with
 |zero=>intro l _ h;cases l with
  |nil=>simp
  |cons a l=>exact absurd (h a aaw) (Xo _)
 |succ n ih =>
  intro l hd h;have h1:=ih (l.erase n) (hd.erase n) fun v hv=>by
   have h2:=(hd.mem_erase_iff).1 hv;have:=h v h2.2;omega
  have h3:=List.length_erase (a:=n) (l:=l);split at h3<;>omega
def kX (r:List Nat)(i v:Nat):Prop:=∃j,j<i/\r[j]?=some v
def kX.up (h:kX r i v)(hk:i<=k):kX r k v:=h.imp fun j hj=>⟨U,hj.2⟩
structure DrD (ns:List nna)(r:List Nat)(rem:Bool)(i known nl:Nat)(os:List Nat)(ms:List nna):Prop where
 Q:aE ms=aE ns
 ng:∀v,nl.testBit v=false->ms[v]?=ns[v]?
 dec:∀v x,ms[v]?=some x->nl.testBit v=true->x.X=[]/\∃s j,x.J=ct s 8/\j<i/\r[j]?=some v/\∀u,s.testBit u=true->kX r j u
 decsb:∀v,nl.testBit v=true->kX r i v
 knownb:∀v,known.testBit v=true->kX r i v
 os3:os.length<=3
 osm:∀v,v∈os↔nl.testBit v=true
 osp:rem=true->os.Pairwise fun u v=>∀x y,ms[u]?=some x->ms[v]?=some y->Sub (bc x.J |||2 ^ u) (bc y.J)
 osk:rem=true->∀u∈os,∀x,ms[u]?=some x->Sub (bc x.J |||2 ^ u) known
variable {ms:List nna}
def DrD.len (h:DrD ns r rem i known nl os ms):ms.length=ns.length:=by
 have:=congrArg List.length h.Q;simpa[aE] using this
def DrD.start (ns:List nna)(r:List Nat)(rem:Bool):DrD ns r rem 0 0 0 [] ns :=
 ⟨rfl,fun _ _=>rfl,fun v x _ h=>by simp at h,fun v h=>by simp at h,fun v h=>by simp at h,aaw,fun v=>aaw,fun _=>.nil,fun _ u hu=>by cases hu⟩
def DrD.skip (h:DrD ns r rem i known nl os ms):DrD ns r rem (i+1) known nl os ms :=
 ⟨h.Q,h.ng,fun v x hx hb=>by
  obtain⟨a,s,j,b,c,d⟩:=h.dec v x hx hb;exact⟨a,s,j,b,U,d⟩,fun v hb=>(h.decsb v hb).up U,fun v hb=>(h.knownb v hb).up U,h.os3,h.osm,h.osp,h.osk⟩
def Fo {s:Nat}(h:s<2 ^ 8):bc (ct s 8)=s:=by
 have h0:∀p∈ct s 8,0<=p:=fun p hp=>by obtain⟨v,rfl,_⟩:=kZ.1 hp;omega
 refine X4 fun i=>?_;rw[fU h0];cases hb:s.testBit i with
 |true=>exact Xy (kZ.2 ⟨i,rfl,ma h hb,hb⟩)
 |false =>
  refine XL fun hm=>?_;obtain⟨v,e,_,hv⟩:=kZ.1 hm;obtain rfl:i=v:=U
  rw[hb]at hv;cases hv
def Fp (hr:∀v∈r,v<n)(h:kX r i v):v<n:=h.elim fun _ hj=>hr v (an hj.2)
def we {s:Nat}(hr:∀v∈r,v<n)(h:∀v,s.testBit v=true->kX r i v):s<2 ^ n:=s9 fun v hv=>Fp hr (h v hv)
def DrD.step (h:DrD ns r rem i known nl os ms)(hr:TopoR (aq ns) r)(h8:ns.length<=8)(ho:os.length<3)(hv:r[i]?=some v)(hx:ns[v]?=some x){s:Nat}(hs:Sub s (bc x.J)):
  nl.testBit v=false/\v<ns.length/\(if rem then s |||known else s)<2 ^ ns.length /\
  DrD ns r rem (i+1) (known |||(if rem then s |||known else s) |||2 ^ v) (nl |||2 ^ v) (os++[v]) (ms.set v ⟨x.Q,ct (if rem then s |||known else s) 8,[]⟩):=by
 obtain⟨s',hs'⟩:∃s',s'=(if rem then s |||known else s):=⟨_,rfl⟩
 rw[<- hs'];have hsl:(aq ns).length=ns.length:=by simp[aq]
 have hrng:=hr.np;rw[hsl]at hrng;have hvn:=hrng v (an hv);have hml:=h.len;have inj:∀j,r[j]?=some v->j=i:=fun j hj=>(YM (get_lt hj) hr.nd).1 (by rw[hj,hv]);have hdv:nl.testBit v=false:=by
  cases hb:nl.testBit v with
  |false=>rfl
  |true =>
   obtain⟨j,j1,j2⟩:=h.decsb v hb;have:=inj j j2;omega
 have sb:∀u,s.testBit u=true->kX r i u:=fun u hu=>hr.rk i v hv u (by rw[cP (lf hx)];exact hs u hu);have sb':∀u,s'.testBit u=true->kX r i u:=fun u hu=>by
  rw[hs']at hu;cases rem with
  |false=>exact sb u hu
  |true =>
   rw[W8 rfl,XB,XU]at hu;exact hu.elim (sb u) (h.knownb u)
 have hlt:=we hrng sb';have hlt8:s'<2 ^ 8:=Xd hlt (Xq aax h8);have selfv:(ms.set v ⟨x.Q,ct s' 8,[]⟩)[v]?=some ⟨x.Q,ct s' 8,[]⟩:=Xj U;have othv:∀u,u≠v->(ms.set v ⟨x.Q,ct s' 8,[]⟩)[u]?=ms[u]?:=fun u hu=>Xs (fun e=>hu e.symm);have osv:v ∉ os:=fun hm=>by rw[(h.osm v).1 hm]at hdv;cases hdv
 refine⟨hdv,hvn,hlt,⟨?_,fun u hu=>?_,fun u y hy hu=>?_,fun u hu=>?_,fun u hu=>?_,by simp;omega,fun u=>?_,fun hrem=>?_,fun hrem u hu y hy=>?_⟩⟩
 ·rw[<- h.Q];unfold aE;rw[Zo];apply XQ;intro k;rw[YZ];split
  ·rename_i e;subst e;have:=h.Q;have h1:(aE ms)[v]?=(aE ns)[v]?:=(by rw[this]);rw[W8 (by rw[Xl];omega)];rw[dK hx]at h1;exact h1.symm
  ·rfl
 ·rw[gY,ZM,YL]at hu;rw[othv u (fun e=>hu.2 e.symm)];exact h.ng u hu.1
 ·by_cases e:u=v
  ·subst e;rw[selfv]at hy;cases hy;exact⟨rfl,s',i,rfl,U,hv,sb'⟩
  ·rw[othv u e]at hy;rw[gY,XU,decide_eq_true_eq]at hu;obtain⟨a,s2,j,b,c,d⟩:=h.dec u y hy (hu.resolve_right fun e'=>e e'.symm);exact⟨a,s2,j,b,U,d⟩
 ·rw[gY,XU,decide_eq_true_eq]at hu;rcases hu with hu|rfl
  ·exact(h.decsb u hu).up (U)
  ·exact⟨i,U,hv⟩
 ·rw[gY,XB,XU,XU,decide_eq_true_eq]at hu;rcases hu with (hu|hu)|rfl
  ·exact(h.knownb u hu).up (U)
  ·exact(sb' u hu).up (U)
  ·exact⟨i,U,hv⟩
 ·rw[gY,Xt,List.mem_singleton,h.osm,XU,decide_eq_true_eq];exact or_congr Iff.rfl eq_comm
 ·refine YT.2 ⟨(h.osp hrem).imp_of_mem fun {a b} ha hb hab p q hp hq=>?_,aaw,fun a ha b hb p q hp hq=>?_⟩
  ·rw[othv a (fun e=>osv (e ▸ ha))]at hp;rw[othv b (fun e=>osv (e ▸ hb))]at hq;exact hab p q hp hq
  ·obtain rfl:=List.mem_singleton.1 hb;rw[othv a (fun e=>osv (e ▸ ha))]at hp;rw[selfv]at hq;cases hq;rw[show bc (⟨x.Q,ct s' 8,[]⟩:nna).J=s' from Fo hlt8,hs',W8 hrem];exact(h.osk hrem a ha p hp).trans (Sub.right _ _)
 ·rcases Xt.1 hu with hu|hu
  ·rw[othv u (fun e=>osv (e ▸ hu))]at hy;exact((h.osk hrem u hu y hy).trans (Sub.left _ _)).trans (Sub.left _ _)
  ·obtain rfl:=List.mem_singleton.1 hu;rw[selfv]at hy;cases hy;rw[show bc (⟨x.Q,ct s' 8,[]⟩:nna).J=s' from Fo hlt8];exact Sub.or ((Sub.right known s').trans (Sub.left _ _)) (Sub.right _ _)
structure DrI (rem:Bool)(d:nnb):Prop where
 ok:nnj d
 n5:d.F.length<=5
 X:∀v x,d.F[v]?=some x->d.nl.testBit v=false->x.X≠[]
 os:∃os:List Nat,os.length<=3/\(∀v,v∈os↔d.nl.testBit v=true)/\(rem=true->os.Pairwise fun u v=>∀x y,d.F[u]?=some x->d.F[v]?=some y->Sub (bc x.J |||2 ^ u) (bc y.J))
def Fq (h:nnw g ns):∀x∈ns,x.X≠[]:=fun x hx he=>by
 have h1:=(h.X x hx).1;have h2:=jX (l:=aW ns x) fun c hc=>(pf (fun q hq=>by have:=(h.node x hx).2.2 q hq;omega) (fun y hy=>(h.node y hy).1) c hc).1;rw[he]at h1;simp at h1;omega
def DrD.fin (h:DrD ns r rem i known nl os ms)(hn:nnw g ns)(hr:TopoR (aq ns) r)(h5:ns.length<=5){us:List nni}(hul:us.length<=4)(hus:∀u∈us,nnx ns u):
  DrI rem ⟨g,ms,nl,us⟩:=by
 have hsl:(aq ns).length=ns.length:=by simp[aq]
 have hrng:=hr.np;rw[hsl]at hrng;have hml:=h.len;have hdl:nl<2 ^ ns.length:=we hrng h.decsb;have getN:∀(v:Nat) (x:nna),ms[v]?=some x->∃y,ns[v]?=some y/\y.Q=x.Q:=fun v x hx=>by
  obtain⟨y,hy⟩:=get_of_lt (l:=ns) (i:=v) (by have:=get_lt hx;omega);refine⟨y,hy,?_⟩;have h1:(aE ms)[v]?=(aE ns)[v]?:=by rw[h.Q]
  rw[dK hx,dK hy]at h1;exact(Option.some.inj h1).symm
 have hcard:∀x∈ms,1<=x.Q/\x.Q<=4:=fun x hx=>by
  obtain⟨v,hv⟩:=Xg.1 hx;obtain⟨y,hy,e⟩:=getN v x hv;rw[<- e];exact(hn.node y (an hy)).1
 have hpl:∀(v:Nat) (x:nna),ms[v]?=some x->bB x.J ms.length:=fun v x hx=>by
  cases hb:nl.testBit v with
  |false =>
   rw[h.ng v hb]at hx;have:=(hn.node x (an hx)).2;rw[hml];exact this
  |true =>
   obtain⟨_,s,j,e,_,_,hs⟩:=h.dec v x hx hb;rw[e];refine⟨wB _ _,fun q hq=>?_⟩;obtain⟨u,rfl,_,hu⟩:=kZ.1 hq;have:=Fp hrng (hs u hu);rw[hml];omega
 have hR:nnq ⟨g,ms,nl,us⟩:=⟨by show 1<=ms.length/\ms.length<=8;rw[hml];exact hn.n1,by show nl >>> ms.length=0;rw[hml,Zc];exact Nat.div_eq_of_lt hdl,hcard,fun v x hx hb=>⟨(h.dec v x hx hb).1,hpl v x hx⟩⟩
 have hperm:nnH ns.length (av r):=⟨by rw[show (av r).length=r.length by simp[av],hr.len,hsl],by
  unfold av;exact List.Pairwise.map _ (R:=(·≠·)) (fun a b h e=>h U) hr.nd,fun q hq=>by
  obtain⟨v,hv,rfl⟩:=Xx.1 hq;have:=hrng v hv;omega⟩
 have natg:∀(j v:Nat),(av r)[j]?=some (v:Int)↔r[j]?=some v:=fun j v=>by
  unfold av;rw[List.getElem?_map,W4];exact⟨fun ⟨a,h1,h2⟩=>by rw[h1];congr 1;omega,fun h1=>⟨v,h1,rfl⟩⟩
 have hacy:jY (aq ms):=by
  refine FD (P:=av r) (by rw[hml];exact hperm) (fun v hv=>?_) fun j v x hj hx q hq=>?_
  ·refine Xw fun hno=>?_;rw[hml]at hv;have hsub:(v :: r).length<=ns.length:=by
    have hnd:(v :: r).Nodup:=YW.2 ⟨fun hm=>hno (Xx.2 ⟨v,hm,rfl⟩),hr.nd⟩;exact Ty ns.length _ hnd fun u hu=>by
     rcases List.mem_cons.1 hu with rfl|hu
     ·exact hv
     ·exact hrng u hu
   rw[List.length_cons,hr.len,hsl]at hsub;omega
  ·have q0:=((hpl v x hx).2 q hq).1;refine⟨q0,?_⟩;have hj':=(natg j v).1 hj;obtain⟨u,rfl⟩:=Xn q0;cases hb:nl.testBit v with
   |false =>
    rw[h.ng v hb]at hx;obtain⟨k,k1,k2⟩:=hr.rk j v hj' u (by
     rw[cP (lf hx),fU fun p hp=>((hn.node x (an hx)).2.2 p hp).1];exact Xy hq)
    exact⟨k,k1,(natg k u).2 k2⟩
   |true =>
    obtain⟨_,s,j',e,_,hj2,hs⟩:=h.dec v x hx hb;rw[e]at hq;obtain⟨u',eu,_,hu⟩:=kZ.1 hq;obtain rfl:u=u':=U;obtain rfl:j'=j:=(YM (get_lt hj2) hr.nd).1 (by rw[hj2,hj']);obtain⟨k,k1,k2⟩:=hs u hu;exact⟨k,k1,(natg k u).2 k2⟩
 have hpc:∀x,aW ms x=aW ns x:=fun x=>by unfold aW;rw[h.Q]
 refine⟨⟨hR,⟨hn.g1,by rw[js];exact hR.n1,fun y hy=>?_,?_,by rw[AU];exact hacy,fun y hy=>?_⟩,hul,fun u hu=>?_⟩,by show ms.length<=5;omega,fun v x hx hb=>?_,os,h.os3,h.osm,h.osp⟩
 ·obtain⟨v,x,hx,rfl⟩:=tn hy;rw[(jm ..).1,(jm ..).2,js];exact⟨hcard x (an hx),hpl v x hx⟩
 ·rw[ti];show aL (aE ms)<=1024;rw[h.Q];exact hn.size
 ·obtain⟨v,x,hx,rfl⟩:=tn hy;have hcx:=hcard x (an hx);have hx':ms[v]?=some x:=hx;unfold fK;rw[wL];by_cases hb:nl.testBit v=true
  ·rw[wM hx hb];have x1:=(hR.dec v x hx hb).1;have hsm:=(nC (x:=x) (ns:=ms) hR.n1.2 (hpl v x hx) hcard).prod;refine⟨?_,fun q hq=>?_⟩
   ·show ((x.X++ei g ms (fun _ _=>0) _ x).length:Int)=aL (aW ms x);rw[x1];simp only[ei,List.nil_append,Xl,Ym,dk];omega
   ·rw[show ({ x with X:=x.X++ei g ms (fun _ _=>0) (cY nl v) x }:nna).X=x.X++ei g ms (fun _ _=>0) (cY nl v) x from rfl,x1,List.nil_append]at hq;unfold ei at hq;obtain⟨i,hi,rfl⟩:=Xx.1 hq;have:=hn.g1;exact FN (by show 0<=g;omega) ⟨Int.le_refl 0,by show (0:Int)<x.Q;omega⟩
  ·rw[o9 hb];have hb':nl.testBit v=false:=(by simpa using hb);rw[h.ng v hb']at hx';have:=hn.X x (an hx');unfold fK at this;show (x.X.length:Int)=aL (aW ms x)/\_;rw[hpc];exact this
 ·have:=hus u hu;exact⟨by show bB u.vars ms.length;rw[hml];exact this.vars,by show _=aL (bb (aE ms) u.vars);rw[h.Q];exact this.size,this.w⟩
 ·have hx':ms[v]?=some x:=hx;rw[h.ng v hb]at hx';exact Fq hn x (an hx')
end Go.Proofs
