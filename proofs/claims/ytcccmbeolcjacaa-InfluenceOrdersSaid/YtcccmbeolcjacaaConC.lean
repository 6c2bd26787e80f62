/- Own work: contracts. -/
import Derived.Test.YtcccmbeolcjacaaConB
set_option linter.all false
set_option maxHeartbeats 8000000
set_option maxRecDepth 100000
namespace Go.Proofs
open Go.Hx Try
variable {rem:Bool}{a b g:Int}{P l:List Int}{os ps r:List Nat}{cs:List S1}{Z i k known lo n nx u v:Nat}{S:Nat->Prop}{H:S2}{e:TypeId}
def lQ (h:∀x∈l,0<=x):0<=l.sum:=by
 induction l with
 |nil=>simp
 |cons a l ih =>
  rw[Ru];have:=h a SX;have:=ih fun x hx=>h x (by simp[hx]);omega
def Bd (h:l[i]?=some a):(l.set i b).sum=l.sum-a+b:=by
 induction l generalizing i with
 |nil=>simp at h
 |cons x l ih =>
  cases i with
  |zero=>simp at h;subst h;simp only[List.set_cons_zero,Ru];omega
  |succ i =>
   simp only[List.set_cons_succ,Ru];rw[ih (by simpa using h)];omega
def M0 (h:∀x∈l,0<=x/\x<=b):l.sum<=b*l.length:=by
 induction l with
 |nil=>simp
 |cons a l ih =>
  rw[Ru,List.length_cons];have:=(h a SX).2;have:=ih fun x hx=>h x (by simp[hx]);rw[show b*((l.length+1:Nat):Int)=b*l.length+b by rw[Int.natCast_add,Sf];simp];omega
def wF (n:Nat)(bs:List Int)(from':Int):List Int:=(List.range n).map fun (k:Nat)=>if bs.length=0 then 0 else bs.getD ((from'+(k:Int)) % (bs.length:Int)).toNat 0 % 8
def Be (n:Nat)(bs:List Int)(from':Int):(wF n bs from').length=n:=by simp[wF]
def Bf (bs:List Int)(from':Int)(h:k<n):(wF n bs from')[k]?=some (if bs.length=0 then 0 else bs.getD ((from'+(k:Int)) % (bs.length:Int)).toNat 0 % 8):=by
 unfold wF;rw[List.getElem?_map,SR h];rfl
def M1 (n:Nat)(bs:List Int)(from':Int):∀x∈wF n bs from',0<=x/\x<=7:=fun x hx=>by
 unfold wF at hx;obtain⟨k,_,rfl⟩:=P3.1 hx;split<;>omega
def ta (g s:Int)(st:List Int × Nat)(m:Nat):List Int × Nat:=if 0<st.1.getD m 0 then (st.1.set m (g*st.1.getD m 0 / s),m) else st
def gJ (g:Int)(c:List Int)(m:Nat):List Int × Nat:=(List.range m).foldl (ta g c.sum) (c,0)
def Bg (g:Int)(c:List Int)(m:Nat):gJ g c (m+1)=ta g c.sum (gJ g c m) m:=by unfold gJ;rw[QV,QL];rfl
def kP (g:Int)(n:Nat)(bs:List Int)(from':Int):List Int:=(gJ g (wF n bs from') n).1.set (gJ g (wF n bs from') n).2 ((gJ g (wF n bs from') n).1.getD (gJ g (wF n bs from') n).2 0+(g-(gJ g (wF n bs from') n).1.sum))
structure RInv (g:Int)(c:List Int)(m:Nat)(d:List Int)(last:Nat):Prop where
 dl:d.length=c.length
 d0:∀x∈d,0<=x
 dd:d.drop m=c.drop m
 dg:(d.take m).sum<=g
 ds:c.sum*(d.take m).sum<=g*(c.take m).sum
 la:last<c.length
def Bh {c:List Int}(hg:1<=g)(hc:∀x∈c,0<=x)(hl:0<c.length):∀m,m<=c.length->RInv g c m (gJ g c m).1 (gJ g c m).2:=by
 intro m
 induction m with
 |zero=>intro _;exact⟨rfl,hc,rfl,by simp;omega,SX,hl⟩
 |succ m ih =>
  intro hm;obtain⟨hdl,hd0,hdd,hdg,hds,hla⟩:=ih U;rw[Bg];generalize gJ g c m=st at *
  obtain⟨d,last⟩:=st;simp only at hdl hd0 hdd hdg hds hla;obtain⟨x,hcx⟩:=aw (l:=c) (i:=m) U;have hx0:=hc x (PA hcx);have hdx:d[m]?=some x:=by
   have h1:(d.drop m)[0]?=d[m]?:=(by rw[Rm];rfl);have h2:(c.drop m)[0]?=c[m]?:=(by rw[Rm];rfl);rw[<- h1,hdd,h2,hcx]
  have hdd':d.drop (m+1)=c.drop (m+1):=by
   have:=congrArg (List.drop 1) hdd
   rwa [Rk,Rk]at this
  have hct:(c.take (m+1)).sum=(c.take m).sum+x:=by rw[aT hcx];simp
  have hcs:(c.take (m+1)).sum+(c.drop (m+1)).sum=c.sum:=by rw[<- Sz,P9]
  have hcd0:=lQ (l:=c.drop (m+1)) fun y hy=>hc y (Q2 hy);have hc00:=lQ (l:=c.take m) fun y hy=>hc y (P0 hy);have hd00:=lQ (l:=d.take m) fun y hy=>hd0 y (P0 hy);unfold ta;rw[cw hdx];by_cases hx:0<x
  ·rw[PG hx];have gx:0<=g*x:=RJ U hx0;have y0:0<=g*x / c.sum:=Int.ediv_nonneg gx U;have y2:c.sum*(g*x / c.sum)<=g*x:=SQ U;have dt:((d.set m (g*x / c.sum)).take (m+1)).sum=(d.take m).sum+g*x / c.sum:=by
    rw[aT (PO U),RP S0];simp
   have hs2:c.sum*((d.take m).sum+g*x / c.sum)<=g*(c.take (m+1)).sum:=by
    rw[Sf,hct,Sf];omega
   have hle:(d.take m).sum+g*x / c.sum<=g:=by
    have h1:g*(c.take (m+1)).sum<=g*c.sum:=QZ U U;have h2:c.sum*((d.take m).sum+g*x / c.sum)<=c.sum*g:=(by rw[Ss c.sum g];omega);exact SD h2 (U)
   refine⟨by simp[hdl],fun y hy=>?_,?_,by dsimp only;rw[dt];exact hle,by dsimp only;rw[dt];exact hs2,by dsimp only;omega⟩
   ·rcases P1 hy with h|h
    ·exact hd0 y h
    ·omega
   ·rw[<- hdd',List.drop_set_of_lt U]
  ·rw[PC hx];have x0:x=0:=U;have dt:(d.take (m+1)).sum=(d.take m).sum:=(by rw[aT hdx,x0];simp);rw[x0,Su]at hct;exact⟨hdl,hd0,hdd',by dsimp only;rw[dt];exact hdg,by dsimp only;rw[dt,hct];exact hds,hla⟩
def M3 (hg:1<=g)(hn:1<=n)(bs:List Int)(from':Int):hX g n (kP g n bs from'):=by
 have hw:=Be n bs from';have I:=Bh (g:=g) (c:=wF n bs from') hg (fun x hx=>(M1 n bs from' x hx).1) U n U;unfold kP;generalize gJ g (wF n bs from') n=st at *
 obtain⟨d,last⟩:=st;obtain⟨hdl,hd0,hdd,hdg,hds,hla⟩:=I;dsimp only at hdl hd0 hdd hdg hds hla ⊢;obtain⟨y,hy⟩:=aw (l:=d) (i:=last) U;have y0:=hd0 y (PA hy);rw[cw hy];rw[PF U]at hdg;have hs:(d.set last (y+(g-d.sum))).sum=g:=by rw[Bd hy];omega
 have h0:∀w∈d.set last (y+(g-d.sum)),0<=w:=fun w hw=>by
  rcases P1 hw with h|h
  ·exact hd0 w h
  ·omega
 exact⟨by simp[hdl,hw],fun w hw=>⟨h0 w hw,by have:=xi h0 w hw;omega⟩,hs⟩
def M4 (g:Int)(n:Nat)(hg:1<=g/\g<=60)(hn:1<=n/\n<=4)(bs:List Int)(hbl:(bs.length:Int)<2 ^ 63)(hb8:∀x∈bs,U8 x)(from':Int)(hf:0<=from'/\from'<=1000000)(H:S2)(K:S8->S2->Prop)(hK:∀v H',S6 H H'->au H.C H' 3 v (ints (kP g n bs from'))->K (.ret v) H'):
  ae prog G0 84 [aa g,aa n,.M bs.length (bJ bs),aa from'] H K:=by
 refine ae.nl ⟨_,func84,rfl,rfl⟩ fun hcl=>?_;refine ae.st (n:=84) (rs:=[.tmp 8]) func84 ?_;simp only[go_sem];refine⟨U,?_⟩;refine W.aS 35184371960832 (by rfl) (fun ρ H'=>∃(k:Nat) (c:List Int),ρ 11=aa k/\k<=n/\c.length=n/\(∀x∈c,0<=x/\x<=7)/\(∀j x,k<=j->c[j]?=some x->x=0)/\(∀j,j<k->c[j]?=(wF n bs from')[j]?)/\ρ 10=aa c.sum/\Tw H H' H.C c) (fun ρ H=>n-(iv (ρ 11)).toNat) ?_ ?_
 ·simp only[go_sem];refine⟨0,List.replicate n 0,rfl,U,SX,fun x hx=>?_,fun j x _ hx=>?_,fun j hj=>U,SX,?_⟩
  ·have:=Qf hx;omega
  ·exact Qf (PA hx)
  ·exact .new [] _
 rintro ρ H' ⟨k,c,h11,hk,hcl',hc7,hc0,hcw,h10,ho⟩;refine W.en (fun E=>E 0=aa g /\ E 1=aa n /\ E 2=.M bs.length (bJ bs) /\ E 3=aa from' /\ E 9=.V H.C 0 0 n 1 /\ E 10=aa c.sum /\ E 11=aa k) (by simp only[go_sem,h10,h11]) fun E ⟨e0,e1,e2,e3,e9,e10,e11⟩=>?_
 refine W.vs ?_;have lN:=ho.nn;have hs0:=lQ fun x hx=>(hc7 x hx).1;have hs1:=M0 hc7;by_cases hb:(k:Int)<n
 ·have hck:c[k]?=some 0:=by
   obtain⟨a,ha⟩:=aw (l:=c) (i:=k) U;rw[ha,hc0 k a S0 ha]
  have hcne:=bg hck;have hk0:(k:Int) >= 0:=U
  have w1:=PD ((k:Int)+1) U;by_cases hz:(0:Int)<bs.length
  ·have hzn:¬(bs.length:Int)=0:=U;have w2:=PD (from'+k) U;have m1:(from'+(k:Int)).tmod bs.length=(from'+k) % bs.length:=P8 U;have m2:=Rr (from'+k) hzn;have m3:=Ro (from'+k) hz;obtain⟨q,hq⟩:=PP m2;have hq0:(q:Int) >= 0:=U;have hql:(q:Int)<bs.length:=U;obtain⟨b,hbg⟩:=aw (l:=bs) (i:=q) U;have b8:=hb8 b (PA hbg);have hbg':=sK hbg;have hbne:=bg hbg';have t1:b.tmod 8=b % 8:=P8 b8.1;have w3:IntKind.u8.wrap (b % 8)=b % 8:=SG _ U;have w4:IntKind.i64.wrap (b % 8)=b % 8:=PD _ U;have w5:=PD (c.sum+b % 8) U;have hsg:(setAt (ints c) k [.lit (.int .i64 (b % 8))])[k]?=some (.lit (.int .i64 (b % 8))):=by
    rw[jl U,fS,PO U];rfl
   simp only[go_sem,hsg,e1,e2,e3,e9,e10,e11,hb,hz,hzn,w1,w2,m1,hq,hq0,hql,hbg',hbne,t1,w4,w5,hk0,lN];refine⟨U,by have:=ho.hi;rw[ar];omega,⟨k+1,c.set k (b % 8),rfl,U,by simp[hcl'],fun x hx=>?_,fun j x hj hx=>?_,fun j hj=>?_,by rw[Bd hck,Int.sub_zero],ho.store U _⟩,by rw[h11];simp only[aa,aM];omega⟩
   ·rcases P1 hx with h|h
    ·exact hc7 x h
    ·omega
   ·rw[PY U]at hx;exact hc0 j x U hx
   ·by_cases hjk:j=k
    ·subst hjk;rw[PO U,Bf bs from' U,PC U,hq,Int.toNat_natCast,cw hbg]
    ·rw[PY U];exact hcw j (U)
  ·have w5:=PD (c.sum+0) U;rw[Su]at w5;simp only[go_sem,e1,e2,e9,e10,e11,hb,hz,w1,w5,Su,hk0,hck,lN];refine⟨by have:=ho.hi;omega,⟨k+1,c,rfl,U,hcl',hc7,fun j x hj hx=>hc0 j x U hx,fun j hj=>by
    by_cases hjk:j=k
    ·subst hjk;rw[hck,Bf bs from' U,PG U]
    ·exact hcw j U,rfl,ho⟩,by rw[h11];simp only[aa,aM];omega⟩
 ·obtain rfl:k=n:=U
  simp only[go_sem,e1,e11,hb];have hcwF:c=wF k bs from':=by
   apply Qn;intro j;rcases PZ j k with h|h
   ·exact hcw j h
   ·rw[PN U,PN (by rw[Be];exact h)]
  have hRI:=fun m (hm:m<=k)=>Bh (g:=g) (c:=c) hg.1 (fun x hx=>(hc7 x hx).1) U m U;refine W.aS 18889465861109836705792 (by rfl) (fun ρ H2=>∃(m last:Nat) (d:List Int),ρ 14=aa m/\m<=k/\gJ g c m=(d,last)/\ρ 12=aa (g-(d.take m).sum)/\ρ 13=aa last/\H'.C<=H2.C/\Tw H H2 H.C d) (fun ρ H=>k-(iv (ρ 14)).toNat) ?_ ?_
  ·simp only[go_sem,e0];exact⟨0,0,c,rfl,U,rfl,SX,rfl,ho⟩
  rintro ρ2 H2 ⟨m,last,d,h14,hm,hrf,h12,h13,hnn,hod⟩;obtain⟨hdl,hd0,hdd,hdg,hds,hlast⟩:RInv g c m d last:=by have:=hRI m hm;rw[hrf]at this;exact this
  rw[hcl']at hdl hlast;have hrs:=Bg g c m;rw[hrf]at hrs;unfold ta at hrs;dsimp only at hrs;refine W.en (fun E2=>E2 0=aa g /\ E2 1=aa k /\ E2 9=.V H.C 0 0 k 1 /\ E2 10=aa c.sum /\ E2 12=aa (g-(d.take m).sum) /\ E2 13=aa last /\ E2 14=aa m) (by simp only[go_sem,e0,e1,e9,e10,h12,h13,h14]) fun E2 ⟨f0,f1,f9,f10,f12,f13,f14⟩=>?_
  refine W.vs ?_;have lN2:=hod.nn;by_cases hb2:(m:Int)<k
  ·obtain⟨x,hcx⟩:=aw (l:=c) (i:=m) U;have hx7:=hc7 x (PA hcx);have hdx:d[m]?=some x:=by
    have h1:(d.drop m)[0]?=d[m]?:=(by rw[Rm];rfl);have h2:(c.drop m)[0]?=c[m]?:=(by rw[Rm];rfl);rw[<- h1,hdd,h2,hcx]
   have hdne:=bg hdx;have hm0:(m:Int) >= 0:=U;have w1:=PD ((m:Int)+1) U;have hdd':d.drop (m+1)=c.drop (m+1):=by
    have:=congrArg (List.drop 1) hdd
    rwa [Rk,Rk]at this
   have hct:(c.take (m+1)).sum=(c.take m).sum+x:=(by rw[aT hcx];simp);have hcs:(c.take (m+1)).sum+(c.drop (m+1)).sum=c.sum:=(by rw[<- Sz,P9]);have hcd0:=lQ (l:=c.drop (m+1)) fun y hy=>(hc7 y (Q2 hy)).1;have hc00:=lQ (l:=c.take m) fun y hy=>(hc7 y (P0 hy)).1;have hd00:=lQ (l:=d.take m) fun y hy=>hd0 y (P0 hy);by_cases hx:0<x
   ·have hsz:¬c.sum=0:=U;have gx:0<=g*x:=RJ U hx7.1;have gx2:g*x<=60*7:=QM hg.2 hx7.2 hx7.1 U;have w2:=PD (g*x) U;have t1:(g*x).tdiv c.sum=g*x / c.sum:=Int.tdiv_eq_ediv_of_nonneg gx;have y0:0<=g*x / c.sum:=Int.ediv_nonneg gx hs0;have y1:g*x / c.sum<=g*x:=Int.ediv_le_self _ gx;have y2:c.sum*(g*x / c.sum)<=g*x:=SQ U;have w3:=PD (g*x / c.sum) U;have w4:=PD (g-(d.take m).sum-g*x / c.sum) U;have hsg:(setAt (ints d) m [.lit (.int .i64 (g*x / c.sum))])[m]?=some (.lit (.int .i64 (g*x / c.sum))):=by
     rw[jl U,fS,PO U];rfl
    have dt:((d.set m (g*x / c.sum)).take (m+1)).sum=(d.take m).sum+g*x / c.sum:=by
     rw[aT (PO U),RP S0];simp
    have hs2:c.sum*((d.take m).sum+g*x / c.sum)<=g*(c.take (m+1)).sum:=by
     rw[Sf,hct,Sf];omega
    have hle:(d.take m).sum+g*x / c.sum<=g:=by
     have h1:g*(c.take (m+1)).sum<=g*c.sum:=QZ U U;have h2:c.sum*((d.take m).sum+g*x / c.sum)<=c.sum*g:=(by rw[Ss c.sum g];omega);exact SD h2 (U)
    simp only[go_sem,hsg,f0,f1,f9,f10,f12,f13,f14,hb2,hx,hsz,w1,w2,t1,w3,w4,hm0,hdx,lN2];rw[cw hdx,PG hx]at hrs;exact⟨U,by rw[ar];exact hnn,⟨m+1,m,d.set m (g*x / c.sum),rfl,U,hrs,by rw[dt];congr 2;omega,rfl,by rw[ar];exact hnn,hod.store U _⟩,by rw[h14];simp only[aa,aM];omega⟩
   ·have x0:x=0:=U;have w4:=PD (g-(d.take m).sum) U;simp only[go_sem,f1,f9,f12,f13,f14,hb2,x0,w1,w4,hm0,hdx,Int.sub_zero,lN2];have dt:(d.take (m+1)).sum=(d.take m).sum:=(by rw[aT hdx,x0];simp);rw[x0,Su]at hct;rw[cw hdx,PC hx]at hrs;exact⟨hnn,⟨m+1,last,d,rfl,U,hrs,by rw[dt],rfl,hnn,hod⟩,by rw[h14];simp only[aa,aM];omega⟩
  ·obtain rfl:m=k:=U;obtain⟨y,hy⟩:=aw (l:=d) (i:=last) U;have hyne:=bg hy;have hl0:(last:Int) >= 0:=U;have hlk:(last:Int)<m:=U;have y0:=hd0 y (PA hy);rw[PF U]at hdg hds h12 f12;have hyle:=xi hd0 y (PA hy);have w1:=PD (y+(g-d.sum)) U;have hle:last+1<=d.length:=U;simp only[go_sem,f1,f9,f12,f13,f14,hb2,hl0,hlk,hy,lN2,w1];refine⟨hle,?_⟩;have hrow:kP g m bs from'=d.set last (y+(g-d.sum)):=by
    unfold kP;rw[<- hcwF,hrf];dsimp only;rw[cw hy]
   rw[hrow]at hK;have ho2:=hod.store (k:=last) U (y+(g-d.sum));refine av.mk ho2.ov.C (hK _ _ ho2.ov (.inr ⟨_,0,ho2.lo,ho2.hi,?_,ho2.get⟩));rw[aY,PI,hdl]
structure Ts where
 J:Int
 par:Int
 w:List Int
def Ts.cells (x:Ts):List S1:=[.lit (.int .u8 x.J),.lit (.int .u8 x.par),.M x.w.length (bJ x.w)]
def ea (l:List Ts):List S1:=(l.map Ts.cells).flatten
def Ts.Ok (x:Ts):Prop:=U8 x.J/\U8 x.par/\(x.w.length:Int)<2 ^ 63/\∀b∈x.w,U8 b
def tf (g:Int)(ps:List Ts)(ord:List Int):S1:=.agg [.lit (.int .u8 g),.M ps.length (ea ps),.M ord.length (bJ ord)]
def Bo {l:List Ts}{x:Ts}(h:l[i]?=some x):((ea l).drop (i*3)).take 3=[.lit (.int .u8 x.J),.lit (.int .u8 x.par),.M x.w.length (bJ x.w)]:=kI (f:=Ts.cells) (z:=3) (fun _=>rfl) l i x h
def Bp (l:List Ts):(ea l).length=l.length*3:=jh (f:=Ts.cells) (fun _=>rfl) l
def S3.bT (x:S3):List S1:=if x.O=[] then [aa x.J,.lit (.slice none 0 0),.lit (.slice none 0 0)] else [aa x.J,af x.F,az x.O]
def bw (l:List S3):List S1:=(l.map S3.bT).flatten
def iM (x:S3):x.bT.length=3:=by unfold S3.bT;split<;>rfl
def Bq (l:List S3):(bw l).length=l.length*3:=jh (f:=S3.bT) iM l
variable {x:S3}
def Br {l:List S3}(h:l[i]?=some x):(bw l)[i*3]?=some (aa x.J):=by
 have:=gF (f:=S3.bT) (z:=3) iM l i 0 x h U;rw[Nat.add_zero]at this;rw[show (bw l)[i*3]?=_ from this];unfold S3.bT;split<;>rfl
def Nm {l:List S3}(h:∀x∈l,x.O≠[]):bw l=aL l:=by
 unfold bw aL;congr 1;exact Q5 fun x hx=>PC (h x hx)
def tg {α:Type}{f:α->List S1}{z:Nat}(hz:∀a,(f a).length=z):∀(l:List α) (i:Nat) (a:α),i<l.length->((l.set i a).map f).flatten=((l.map f).flatten).take (i*z)++f a++((l.map f).flatten).drop (i*z+z):=by
 intro l
 induction l with
 |nil=>intro i a h;simp at h
 |cons b l ih =>
  intro i a h;cases i with
  |zero=>simp[hz]
  |succ i =>
   have hb:=hz b;simp only[List.set_cons_succ,List.map_cons,List.flatten_cons];rw[ih i a (by simpa using h),show (i+1)*z=z+i*z by rw[QO];omega,List.take_append,List.drop_append,hb];rw[PF (l:=f b) (i:=z+i*z) U,List.drop_of_length_le (l:=f b) (i:=z+i*z+z) U,show z+i*z-z=i*z by omega,show z+i*z+z-z=i*z+z by omega];simp
def Bs {A B:List S1}{a b:S1}(h:∀j (h:j<A.length) (h':j<B.length),Fz S H nx A[j] B[j])(hab:Fz S H nx a b):∀j (h:j<(A.set i a).length) (h':j<(B.set i b).length),Fz S H nx (A.set i a)[j] (B.set i b)[j]:=by
 intro j h1 h2;rw[QY,QY];split
 ·exact hab
 ·exact h j (by simpa using h1) (by simpa using h2)
def Bt (l:List (List Int)):Fz S H nx (az l) (az l):=.M rfl fun i hi _=>by simp only[PK];exact .cO _
def Nn (x:S3):∀c∈x.bT,Fz S H nx c c:=by
 intro c hc;unfold S3.bT at hc;split at hc
 ·simp only[List.mem_cons,List.not_mem_nil,or_false]at hc;rcases hc with rfl|rfl|rfl<;>exact .lit _
 ·simp only[List.mem_cons,List.not_mem_nil,or_false]at hc;rcases hc with rfl|rfl|rfl
  ·exact .lit _
  ·exact .cO _
  ·exact Bt _
def Bu (l:List S3):∀c∈bw l,Fz S H nx c c:=by
 intro c hc;unfold bw at hc;obtain⟨r,hr,hc⟩:=RA.1 hc;obtain⟨x,_,rfl⟩:=P3.1 hr;exact Nn x c hc
def No :∀(l:List S3),(∀x∈l,x.O=[]->x.F=[])->∀(i:Nat) (h:i<(bw l).length) (h':i<(aL l).length),Fz S H nx (bw l)[i] (aL l)[i]:=by
 intro l
 induction l with
 |nil=>intro _ i h;simp[bw]at h
 |cons x l ih =>
  intro hx i h h';have e1:bw (x :: l)=x.bT++bw l:=by simp[bw]
  have e2:aL (x :: l)=x.cells++aL l:=by simp[aL]
  have l1:=iM x;have l2:x.cells.length=3:=rfl;have hc:∀(i:Nat) (h:i<x.bT.length) (h':i<x.cells.length),Fz S H nx x.bT[i] x.cells[i]:=by
   intro i h h';by_cases hr:x.O=[]
   ·have hp:=hx x SX hr;have ez:x.bT=[aa x.J,.lit (.slice none 0 0),.lit (.slice none 0 0)]:=PG hr;have ec:x.cells=[aa x.J,af [],az []]:=(by unfold S3.cells;rw[hr,hp]);simp only[ez,ec]
    match i,h' with
    |0,_=>exact .lit _
    |1,_=>exact .nil
    |2,_=>exact .nil
   ·have ez:x.bT=x.cells:=PC hr;simp only[ez]
    match i,h' with
    |0,_=>exact .lit _
    |1,_=>exact .cO _
    |2,_=>exact Bt _
  simp only[e1,e2];by_cases hi:i<3
  ·rw[Qu U,Qu U];exact hc i U (U)
  ·rw[Qx U,Qx U];simp only[l1,l2];exact ih (fun y hy=>hx y (by simp[hy])) (i-3) _ _
variable {y:S3}
def Np {l:List S3}(h:l[i]?=some x)(hy:y.J=x.J):aL (l.set i y)=((aL l).set (i*3+1) (af y.F)).set (i*3+2) (az y.O):=by
 have hl:=aI h;have h1:=tg (f:=S3.cells) (z:=3) (fun _=>rfl) l i y hl;have h2:=kI (f:=S3.cells) (z:=3) (fun _=>rfl) l i x h;unfold aL;rw[h1];have h3:(l.map S3.cells).flatten=((l.map S3.cells).flatten).take (i*3)++(x.cells++((l.map S3.cells).flatten).drop (i*3+3)):=by
  rw[<- h2,<- Rk,P9,P9]
 have hlen:(((l.map S3.cells).flatten).take (i*3)).length=i*3:=by
  rw[PQ,jh (f:=S3.cells) (z:=3) (fun _=>rfl)];omega
 conv=>rhs;rw[h3]
 rw[QC _ _ U,QC _ _ U,hlen,show i*3+1-i*3=1 by omega,show i*3+2-i*3=2 by omega];unfold S3.cells;simp[hy]
def ti {v:S1}(h:au lo H e v cs){d:Option TypeDesc}{t:TypeId}(hd:d=some (.slice t)):oK d H v=some (.lit (.int .i64 cs.length)):=by
 subst hd;rcases h with ⟨rfl,rfl⟩|⟨id,g,_,_,rfl,h4⟩
 ·rfl
 ·rw[mL,zf,ag h4];rfl
def Nq (l p:List Int)(hl:(l.length:Int)<2 ^ 40)(hp:(p.length:Int)<2 ^ 39)(hin:∀q∈p,0<=q/\q<l.length)(H:S2)(K:S8->S2->Prop)(hK:∀v H',S6 H H'->au H.C H' 3 v (ints (bd l p))->K (.ret v) H'):ae prog G0 90 [af l,af p] H K:=by
 refine ae.nl ⟨_,func90,rfl,rfl⟩ fun hcl=>?_;refine ae.st (n:=24) (rs:=[.tmp 4]) func90 ?_;simp only[go_sem];refine W.aS 8388576 (by rfl) (fun ρ H'=>∃k:Nat,ρ 6=aa k/\k<=p.length/\S6 H H'/\au H.C H' 3 (ρ 5) (ints (bd l (p.take k)))) (fun ρ H=>p.length-(iv (ρ 6)).toNat) ?_ ?_
 ·simp only[go_sem];exact⟨0,rfl,U,.refl _,.nil⟩
 rintro ρ H' ⟨k,h6,hk,ov,h5⟩;refine W.vs ?_;by_cases hb:(k:Int)<p.length
 ·obtain⟨q,hq⟩:=aw (l:=p) (i:=k) U;obtain⟨j,rfl,a,ha⟩:=nE (hin q (PA hq)).1 (hin q (PA hq)).2;have hne:=bg hq;have hne2:=bg ha;have hj:=aI ha;have hj':(j:Int)<l.length:=U
  obtain⟨v',H2,hA,ov2,hO,hn2,_⟩:=gO a ov h5 (by simp[bd];omega);have w1:=PD ((k:Int)+1) U;simp only[go_sem,h6,hb,hq,hne,ha,hne2,hj',w1,hA];refine⟨by have:=ov2.C;omega,⟨k+1,SX,U,ov2,?_⟩,U⟩;rw[BL hq,Int.toNat_natCast,cw ha];exact hO
 ·simp only[go_sem,h6,hb];rw[PF U]at h5;exact av.mk ov.C (hK _ _ ov h5)
def Nr (g:Int)(ns:List S3)(v:Nat)(x:S3)(hx:ns[v]?=some x)(hl:(ns.length:Int)<2 ^ 39)(hp:(x.F.length:Int)<2 ^ 39)(hin:kT x.F ns.length)(H:S2)(K:S8->S2->Prop)
  (hK:∀v H',S6 H H'->au H.C H' 3 v (ints (bc ns x))->K (.ret v) H'):ae prog G0 77 [bS g ns,aa v] H K:=by
 refine ae.nl ⟨_,func77,rfl,rfl⟩ fun hcl=>?_;have hne:=eo hx;have e1:=iI hx;have hv:(v:Int)<ns.length:=by have:=aI hx;omega
 refine ae.st (n:=14) (rs:=[.tmp 4]) func77 ?_;simp only[go_sem,bS,cG];refine W.dr 8 [0,1,0,4,0,28,60,124] mixed ?_;simp only[go_sem];refine⟨af (ay ns),[],cD.pure fun H2=>tC g ns hl H2 _ ⟨rfl,rfl⟩,?_⟩;simp only[go_sem,hv,hne,e1];refine aH.nl (Nq (ay ns) x.F (by rw[fL];omega) hp (by rw[fL];exact hin) _ _ fun w H3 ov ho=>⟨trivial,?_⟩);simp only[go_sem];have o1:S6 H H3:=(S6.ext _ _).trans ov;exact av.mk o1.C (hK _ _ o1 (ho.na (by simp[bB]) S0 fun _ _ _ _ _ _=>rfl))
variable {ns:List S3}
def Bv (hP:TB ns.length P)(hall:∀v:Nat,v<ns.length->(v:Int)∈P)(hr:∀(j v:Nat) (x:S3),P[j]?=some (v:Int)->ns[v]?=some x->∀q∈x.F,0<=q/\∃k,k<j/\P[k]?=some q):jM (aX ns):=by
 intro v hv;have hl:(aX ns).length=ns.length:=by simp[aX]
 rw[hl]at hv;obtain⟨j,hj⟩:=PU.1 (hall v hv);have h0:∀p∈P.take j,0<=p:=fun p hp=>(hP.no p (P0 hp)).1;have sub:∀(k u:Nat) (x:S3),k<=j->P[k]?=some (u:Int)->ns[u]?=some x->Sub ((aX ns).getD u 0) (bj (P.take j)):=fun k u x hk hu hx i hi=>by
  rw[cw (jW hx)]at hi;have hp0:∀p∈x.F,0<=p:=fun p hp=>(hr k u x hu hx p hp).1;rw[ji hp0]at hi;obtain⟨_,k',hk',hq⟩:=hr k u x hu hx _ (of_decide_eq_true hi);rw[ji h0];refine QD ?_;exact PU.2 ⟨k',by rw[Qp U];exact hq⟩
 have hcl:kM (aX ns) (bj (P.take j)):=fun u hu ht=>by
  rw[hl]at hu;rw[ji h0]at ht;obtain⟨k,hk⟩:=PU.1 (of_decide_eq_true ht);have hkl:=aI hk;rw[PQ]at hkl;rw[Qp U]at hk;obtain⟨x,hx⟩:=aw hu;exact sub k u x U hk hx
 obtain⟨x,hx⟩:=aw hv;have h1:=sX hcl (aX ns).length (sub j v x S0 hj hx);cases hb:(fw (aX ns) ((aX ns).getD v 0)).testBit v with
 |false=>rfl
 |true =>
  exfalso;have h2:=h1 v hb;rw[ji h0]at h2;obtain⟨k,hk⟩:=PU.1 (of_decide_eq_true h2);have hkl:=aI hk;rw[PQ]at hkl;rw[Qp U]at hk;have e:P[k]?=P[j]?:=by rw[hk,hj]
  have:=(Q3 (aI hk) hP.nd).1 e;omega
def jQ (H1 H':S2)(N:Nat)(cs:List S1):Prop:=H1.C<=H'.C/\(∀id,id<H1.C->id≠N->H'.get id=H1.get id)/\H'.get N=some (.L 0 83 cs)
def Ns {l:List S3}(h:l[i]?=some x)(hr:x.O=[])(hy:y.O=[]):bw (l.set i y)=(bw l).set (i*3) (aa y.J):=by
 have hl:=aI h;have h1:=tg (f:=S3.bT) (z:=3) iM l i y hl;have h2:=kI (f:=S3.bT) (z:=3) iM l i x h;have e1:x.bT=[aa x.J,.lit (.slice none 0 0),.lit (.slice none 0 0)]:=PG hr;have e2:y.bT=[aa y.J,.lit (.slice none 0 0),.lit (.slice none 0 0)]:=PG hy;unfold bw;rw[h1,e2];rw[e1]at h2;have h3:(l.map S3.bT).flatten=((l.map S3.bT).flatten).take (i*3)++([aa x.J,.lit (.slice none 0 0),.lit (.slice none 0 0)]++((l.map S3.bT).flatten).drop (i*3+3)):=by
  rw[<- h2,<- Rk,P9,P9]
 have hlen:(((l.map S3.bT).flatten).take (i*3)).length=i*3:=by
  rw[PQ,jh (f:=S3.bT) (z:=3) iM];omega
 conv=>rhs;rw[h3]
 rw[QC _ _ U,hlen];simp
theorem tj (ord:List Int):∀(n v:Nat),v<n->(v:Int)∈ew ord n
 |0,v,h=>U
 |n+1,v,h=>by
  unfold ew;by_cases hv:v=n
  ·subst hv;simp
  ·have:=tj ord n v U;rw[<- P9 (jN ord n) (ew ord n)]at this;rcases PT.1 this with h|h
   ·exact Rd _ h
   ·exact QW _ (Qs _ h)
def jR (ps:List Ts)(i:Nat):Int × List Int:=match ps[i]? with
 |some y=>(y.par,y.w)
 |none=>(0,[])
def Bw (p:Int)(k:Nat):Int:=IntKind.u8.wrap (((BitVec.ofInt IntKind.u8.bits (p.fdiv (2 ^ (min ((k:Int)).toNat IntKind.u8.bits))) &&& BitVec.ofInt IntKind.u8.bits 1).toNat:Nat):Int)
def lT (par:Int)(P:List Int)(u:Nat)(l:List Int)(k:Nat):List Int:=if P[k]?=some (u:Int)/\Bw par k=1/\l.length<3 then l++[(u:Int)] else l
def iO (par:Int)(P:List Int)(i u k:Nat):List Int:=(List.range k).foldl (lT par P u) ((List.range u).foldl (fun l u=>(List.range i).foldl (lT par P u) l) [])
def tn (par:Int)(P:List Int)(i u k:Nat):iO par P i u (k+1)=lT par P u (iO par P i u k) k:=by unfold iO;rw[QV,QL];rfl
def Nt (par:Int)(P:List Int)(i u:Nat):iO par P i (u+1) 0=iO par P i u i:=by unfold iO;rw[QV,QL];rfl
def nI (ps:List Ts)(i:Nat):Int:=match ps[i]? with
 |some y=>2+y.J % 2
 |none=>2
def gK (ps:List Ts)(n i:Nat)(W:Int):Int:=if IntKind.i64.wrap (W*nI ps i*2 ^ (min ((n:Int)-1-i).toNat IntKind.i64.bits)) > 100 then 2 else nI ps i
def hT (ps:List Ts)(n:Nat):Nat->Int
 |0=>1
 |i+1=>hT ps n i*gK ps n i (hT ps n i)
def nJ (g c:Int)(bs:List Int)(R:Nat):List (List Int):=(List.range R).map fun (q:Nat)=>kP g c.toNat bs ((q:Int)*(c+1))
def Nu (g c:Int)(bs:List Int)(R:Nat):nJ g c bs (R+1)=nJ g c bs R++[kP g c.toNat bs ((R:Int)*(c+1))]:=by unfold nJ;rw[QV,QQ];rfl
def wT (g:Int)(ps:List Ts)(cs P:List Int)(n j:Nat):S3:=⟨gK ps n j (hT ps n j),iO (jR ps j).1 P j n 0,nJ g (gK ps n j (hT ps n j)) (jR ps j).2 (aK (bd cs (iO (jR ps j).1 P j n 0))).toNat⟩
structure DoneN (g:Int)(cs P:List Int)(n j:Nat)(x:S3):Prop where
 pl:bG x.F n
 p3:x.F.length<=3
 rk:∀q∈x.F,∃k,k<j/\P[k]?=some q
 rl:(x.O.length:Int)=aK (bd cs x.F)
 ro:∀r∈x.O,hX g x.J r
 ne:x.O≠[]
structure LoopN (g:Int)(ps:List Ts)(cs P:List Int)(n i:Nat)(ns:List S3):Prop where
 len:ns.length=n
 nw:ay ns=cs
 todo:∀(j v:Nat) (x:S3),i<=j->P[j]?=some (v:Int)->ns[v]?=some x->x.O=[]/\x.F=[]
 done:∀(j v:Nat) (x:S3),j<i->P[j]?=some (v:Int)->ns[v]?=some x->DoneN g cs P n j x
 eq:∀(j v:Nat) (x:S3),j<i->P[j]?=some (v:Int)->ns[v]?=some x->x=wT g ps cs P n j
 cd:∀(j v:Nat) (x:S3),P[j]?=some (v:Int)->ns[v]?=some x->x.J=gK ps n j (hT ps n j)
def Nv {l:List S3}(h:l[i]?=some x)(hy:y.J=x.J)(hr:y.O≠[]):bw (l.set i y)=((bw l).set (i*3+1) (af y.F)).set (i*3+2) (az y.O):=by
 have hl:=aI h;have h1:=tg (f:=S3.bT) (z:=3) iM l i y hl;have h2:=kI (f:=S3.bT) (z:=3) iM l i x h;unfold bw;rw[h1];have h3:(l.map S3.bT).flatten=((l.map S3.bT).flatten).take (i*3)++(x.bT++((l.map S3.bT).flatten).drop (i*3+3)):=by
  rw[<- h2,<- Rk,P9,P9]
 have hlen:(((l.map S3.bT).flatten).take (i*3)).length=i*3:=by
  rw[PQ,jh (f:=S3.bT) (z:=3) iM];omega
 have ex:∃b c,x.bT=[aa x.J,b,c]:=by unfold S3.bT;split<;>exact⟨_,_,rfl⟩
 obtain⟨b,c,ex⟩:=ex;have ey:y.bT=[aa y.J,af y.F,az y.O]:=PC hr
 conv=>rhs;rw[h3]
 rw[QC _ _ U,QC _ _ U,hlen,show i*3+1-i*3=1 by omega,show i*3+2-i*3=2 by omega,ex,ey];simp[hy]
structure TD (P:List Int)(i u k:Nat)(l:List Int):Prop where
 pw:l.Pairwise (·<·)
 no:∀q∈l,0<=q/\(q<u\/(q=u/\∃k',k'<k/\P[k']?=some q))
 p3:l.length<=3
 rk:∀q∈l,∃k',k'<i/\P[k']?=some q
def TD.skip (h:TD P i u k l):TD P i u (k+1) l:=⟨h.pw,fun q hq=>⟨(h.no q hq).1,(h.no q hq).2.imp id fun ⟨a,k',b,c⟩=>⟨a,k',U,c⟩⟩,h.p3,h.rk⟩
def TD.C (h:TD P i u k l):TD P i (u+1) 0 l:=⟨h.pw,fun q hq=>⟨(h.no q hq).1,.inl (by rcases(h.no q hq).2 with h1|h1<;>omega)⟩,h.p3,h.rk⟩
def TD.add (hP:TB n P)(h:TD P i u k l)(hk:k<i)(hu:P[k]?=some (u:Int))(h3:l.length<3):TD P i u (k+1) (l++[(u:Int)]):=by
 have lt:∀q∈l,q<u:=fun q hq=>by
  rcases(h.no q hq).2 with h1|⟨h1,k',h2,h4⟩
  ·exact h1
  ·exfalso;have e:P[k']?=P[k]?:=(by rw[h4,hu,h1]);have:=(Q3 (aI h4) hP.nd).1 e;omega
 refine⟨Rc.2 ⟨h.pw,SX,fun a ha b hb=>by obtain rfl:=List.mem_singleton.1 hb;exact lt a ha⟩,fun q hq=>?_,by simp;omega,fun q hq=>?_⟩
 ·rcases PT.1 hq with h1|h1
  ·exact⟨(h.no q h1).1,.inl (lt q h1)⟩
  ·obtain rfl:=List.mem_singleton.1 h1;exact⟨U,.inr ⟨rfl,k,U,hu⟩⟩
 ·rcases PT.1 hq with h1|h1
  ·exact h.rk q h1
  ·obtain rfl:=List.mem_singleton.1 h1;exact⟨k,hk,hu⟩
def wU (Hz Hx:S2)(N at':Nat)(C:List S1)(pv:S1)(l:List Int):Prop:=jQ Hz Hx N (C.set at' pv)/\au Hz.C Hx 3 pv (ints l)
def Nw (g:Int)(ps:List Ts)(ord:List Int)(ns:List S3):Prop:=ns.length=min (max ps.length 1) 5/\(∀(j v:Nat) (x:S3),(ew ord ns.length)[j]?=some (v:Int)->ns[v]?=some x->x=wT g ps (ay ns) (ew ord ns.length) ns.length j)/\∀(j v:Nat) (x:S3),(ew ord ns.length)[j]?=some (v:Int)->ns[v]?=some x->x.J=gK ps ns.length j (hT ps ns.length j)
def Nx (g0:Int)(ps:List Ts)(ord:List Int)(hg0:U8 g0)(hps:∀x∈ps,x.Ok)(hpl:(ps.length:Int)<2 ^ 63)(hol:(ord.length:Int)<2 ^ 63)(ho8:∀x∈ord,U8 x)(H:S2)(K:S8->S2->Prop)
  (hK:∀g ns N H',S6 H H'->H.C<=N->N<H'.C->H'.get N=some (.L 0 83 (aL ns))->To g ns->ns.length<=5->(∀x∈ns,x.F.length<=3)->(∀x∈ns,2<=x.J)->(g=1+g0 % 60/\Nw g ps ord ns)->K (.ret (.agg [aa g,.V N 0 0 ns.length 3])) H'):
  ae prog G0 40 [tf g0 ps ord] H K:=by
 refine ae.st (n:=187) (rs:=[.cell 2 64]) func40 ?_;obtain⟨n,hn⟩:∃n:Nat,min (max ps.length 1) 5=n:=⟨_,rfl⟩
 have h51:1<=n/\n<=5:=U
 have hmn:(if 5<(if (1:Int) > ps.length then 1 else (ps.length:Int)) then 5 else (if (1:Int) > ps.length then 1 else (ps.length:Int)))=(n:Int):=by split<;>split<;>omega
 have t0:g0.tmod 60=g0 % 60:=P8 hg0.1;have w0:IntKind.u8.wrap (g0 % 60)=g0 % 60:=SG _ U;have w1:IntKind.i64.wrap (g0 % 60)=g0 % 60:=PD _ U;have w2:=PD (1+g0 % 60) U;obtain⟨g,hg⟩:∃g,1+g0 % 60=g:=⟨_,rfl⟩
 have hg1:1<=g/\g<=60:=U
 rw[hg]at w2;simp only[go_sem,tf];refine W.dr 9 [0,1,3,7,15,0,32,127,0] mixed ?_;simp only[go_sem,hmn,t0,w1,hg,w2];refine⟨U,⟨⟨U,U⟩,⟨U,U⟩,?_⟩⟩;obtain⟨H1,hH1⟩:∃H1,H1=ext (ext H [.L 0 25 [.lit (.int .u8 g0),.M ps.length (ea ps),.M ord.length (bJ ord)],.L 0 64 [.lit (.int .i64 0),.lit (.slice none 0 0)],.L 0 83 (List.replicate n [S1.lit (.int .i64 0),.lit (.slice none 0 0),.lit (.slice none 0 0)]).flatten]) [.L 0 64 [.lit (.int .i64 g),.V (H.C+2) 0 0 n 3]]:=⟨_,rfl⟩
 refine W.en (fun E=>E 1=.Y H.C 0 0 /\ E 2=.Y (H.C+1) 0 0 /\ E 3=aa n /\ E 4=.Y (H.C+3) 0 0) (by simp only[go_sem]) fun E ⟨e1,e2,e3,e4⟩=>?_
 show W _ _ _ _ _ _ ⟨E,ext (ext H [.L 0 25 [.lit (.int .u8 g0),.M ps.length (ea ps),.M ord.length (bJ ord)],.L 0 64 [.lit (.int .i64 0),.lit (.slice none 0 0)],.L 0 83 (List.replicate n [S1.lit (.int .i64 0),.lit (.slice none 0 0),.lit (.slice none 0 0)]).flatten]) [.L 0 64 [.lit (.int .i64 g),.V (H.C+2) 0 0 n 3]]⟩;rw[<- hH1];have n1:H1.C=H.C+4:=by rw[hH1];rfl
 have o1:S6 H H1:=by rw[hH1];exact(S6.ext _ _).trans (.ext _ _)
 have g0':H1.get H.C=some (.L 0 25 [.lit (.int .u8 g0),.M ps.length (ea ps),.M ord.length (bJ ord)]):=by rw[hH1,jG];exact cS ..
 have g1':H1.get (H.C+1)=some (.L 0 64 [.lit (.int .i64 0),.lit (.slice none 0 0)]):=by rw[hH1,jG];exact dT H _ 1 (SX)
 have g2':H1.get (H.C+2)=some (.L 0 83 (bw (List.replicate n ⟨0,[],[]⟩))):=by
  rw[hH1,jG,show bw (List.replicate n ⟨0,[],[]⟩)=(List.replicate n [S1.lit (.int .i64 0),.lit (.slice none 0 0),.lit (.slice none 0 0)]).flatten by unfold bw;rw[Rl];rfl];exact dT H _ 2 (SX)
 have g3':H1.get (H.C+3)=some (.L 0 64 [.lit (.int .i64 g),.V (H.C+2) 0 0 n 3]):=by rw[hH1,jG];exact dT H _ 3 (SX)
 clear hH1;have l0:=ag g0';have l1:=ag (show (ext H1 [.L 0 5 (List.replicate n (.lit (.int .u8 0)))]).get H.C=some (.L 0 25 [.lit (.int .u8 g0),.M ps.length (ea ps),.M ord.length (bJ ord)]) by rw[eG _ _ _ U];exact g0');refine W.dr 4 [0,1,0,4] mixed ?_;simp only[go_sem,e1,e3,l1];refine⟨⟨U,U⟩,U,U,?_⟩;obtain⟨H2,hH2⟩:∃H2,H2=ext H1 [.L 0 5 (List.replicate n (.lit (.int .u8 0)))]:=⟨_,rfl⟩
 have gb:=eS hH2
 rw[<- hH2];refine aH.nl ((ae.frame (H:=H2) (args:=[.agg [.V H1.C 0 0 n 1,.lit (.int .u16 0),.M ord.length (bJ ord)]]) (args':=[.agg [.M n (bJ (List.replicate n 0)),.lit (.int .u16 0),.M ord.length (bJ ord)]]) (v':=af (ew ord n)) aZ rfl (fun i hi _=>?_) (MZ n h51.2 ord hol ho8 bZ _ fun v H' _ ho=>⟨_,rfl,ho.lZ⟩)).mono fun r H' hr=>?_)
 ·match i,hi with
  |0,_ =>
   refine .agg rfl fun i hi _=>?_
   match i,hi with
   |0,_ =>
    have:bJ (List.replicate n 0)=List.replicate n (.lit (.int .u8 0)):=(by unfold bJ;rw[Rl]);rw[this];exact Fz.tG gb SX fun c hc=>⟨_,Qf hc⟩
   |1,_=>exact .lit _
   |2,_=>exact .M rfl fun i hi _=>by simp only[bJ,PK];exact .lit _
 obtain⟨rfl,rfl⟩:=hr;refine⟨trivial,?_⟩;have hperm:=wO ord n;obtain⟨P,hP⟩:∃P,P=ew ord n:=⟨_,rfl⟩
 rw[<- hP]at hperm ⊢;have n2:H'.C=H1.C+1:=hH2▸rfl
 have F0:jQ H1 H' (H.C+2) (bw (List.replicate n ⟨0,[],[]⟩)):=by
  rw[hH2];exact⟨by simp[bB],fun id h _=>eG _ _ _ h,by rw[eG _ _ _ U];exact g2'⟩
 clear hH2 gb;simp only[go_sem,e3];have bs:∀k:Nat,k<=5->(3:Int) ^ k<=243:=fun k hk=>by
  have:(3:Nat) ^ k<=3 ^ 5:=P7 SY hk;have h2:((3 ^ k:Nat):Int)<=((3 ^ 5:Nat):Int):=by exact_mod_cast this
  push_cast at h2
  exact h2
 refine W.aS 151115727451794287100864 (by rfl) (fun ρ Hx=>∃(i:Nat) (ns:List S3) (Wd:Int),ρ 7=aa i/\i<=n/\ns.length=n/\(∀x∈ns,x.O=[]/\x.F=[])/\(∀j v:Nat,j<i->P[j]?=some (v:Int)->∃x,ns[v]?=some x/\2<=x.J/\x.J<=3/\x.J=gK ps n j (hT ps n j))/\ρ 6=aa Wd/\Wd=hT ps n i/\1<=Wd/\Wd<=3 ^ i/\H'.C<=Hx.C/\jQ H1 Hx (H.C+2) (bw ns)) (fun ρ H=>n-(iv (ρ 7)).toNat) ?_ ?_
 ·simp only[go_sem];exact⟨0,_,1,rfl,U,SX,fun x hx=>by obtain rfl:=Qf hx;exact⟨rfl,rfl⟩,fun j v hj=>U,rfl,rfl,U,SX,F0⟩
 rintro ρ Hx ⟨i,ns,Wd,h7,hi,hnl,hnz,hnc,h6,hWe,hW1,hW3,hnx,hF⟩;refine W.en (fun E2=>E2 1=.Y H.C 0 0 /\ E2 2=.Y (H.C+1) 0 0 /\ E2 3=aa n /\ E2 4=.Y (H.C+3) 0 0 /\ E2 5=af P /\ E2 6=aa Wd /\ E2 7=aa i) (by simp only[go_sem,e1,e2,e3,e4,h6,h7]) fun E2 ⟨f1,f2,f3,f4,f5,f6,f7⟩=>?_
 refine W.vs ?_;have hPl:=hperm.len;have hFn:=hF.1;have m0:=ag ((hF.2.1 H.C U U).trans g0');have m3:=ag ((hF.2.1 (H.C+3) U U).trans g3');have mN:=ag hF.2.2;have m0':∀L,(ext Hx L).nn H.C 0=some (25,[.lit (.int .u8 g0),.M ps.length (ea ps),.M ord.length (bJ ord)]):=fun L=>(dU U).trans m0;have m3':∀L,(ext Hx L).nn (H.C+3) 0=some (64,[.lit (.int .i64 g),.V (H.C+2) 0 0 n 3]):=fun L=>(dU U).trans m3;have mN':∀L,(ext Hx L).nn (H.C+2) 0=some (83,bw ns):=fun L=>(dU U).trans mN;by_cases hb:(i:Int)<n
 ·obtain⟨pv,hpv⟩:=aw (l:=P) (i:=i) U;have hpr:=hperm.no pv (PA hpv);obtain⟨v,rfl⟩:=PP hpr.1;obtain⟨x,hx⟩:=aw (l:=ns) (i:=v) U;have hpne:=bg hpv;have hz0:=Br hx;have hzne:=bg hz0;have hzl:=Bq ns;have hv:(v:Int)<n:=hpr.2;have hv0:(v:Int) >= 0:=hpr.1;have hiP:(i:Int)<P.length:=U
  have w3:=bs i U;have i1:=PD ((i:Int)+1) U;have i2:=PD ((n:Int)-1) U;have i3:=PD ((n:Int)-1-i) U;have i4:=Ry ((n:Int)-1-i) U;have fin:∀(c:Int) (B:S7),2<=c/\c<=3->c=gK ps n i Wd->v*3+1<=(bw ns).length/\H'.C<=((ext Hx [B]).upd (H.C+2) (.L 0 83 (setAt (bw ns) (v*3) [.lit (.int .i64 c)]))).C /\
    (∃(i_1:Nat) (ns_1:List S3) (Wd_1:Int),S1.lit (.int .i64 ((i:Int)+1))=.lit (.int .i64 i_1)/\i_1<=n/\ns_1.length=n/\(∀x∈ns_1,x.O=[]/\x.F=[])/\(∀j v:Nat,j<i_1->P[j]?=some (v:Int)->∃x,ns_1[v]?=some x/\2<=x.J/\x.J<=3/\x.J=gK ps n j (hT ps n j)) /\
     S1.lit (.int .i64 (Wd*c))=.lit (.int .i64 Wd_1)/\Wd_1=hT ps n i_1/\1<=Wd_1/\Wd_1<=3 ^ i_1/\H'.C<=((ext Hx [B]).upd (H.C+2) (.L 0 83 (setAt (bw ns) (v*3) [.lit (.int .i64 c)]))).C/\jQ H1 ((ext Hx [B]).upd (H.C+2) (.L 0 83 (setAt (bw ns) (v*3) [.lit (.int .i64 c)]))) (H.C+2) (bw ns_1)) /\
    n-((i:Int)+1).toNat<n-(iv (ρ 7)).toNat:=by
   intro c B c23 hce;have p1:2<=Wd*c/\Wd*c<=3 ^ i*3:=by
    constructor
    ·have:=QM hW1 c23.1 U U;omega
    ·exact QM hW3 c23.2 U (U)
   have nn:((ext Hx [B]).upd (H.C+2) (.L 0 83 (setAt (bw ns) (v*3) [.lit (.int .i64 c)]))).C=Hx.C+1:=rfl;refine⟨by rw[hzl];have:=aI hx;omega,by rw[nn];omega,⟨i+1,ns.set v ⟨c,[],[]⟩,Wd*c,rfl,U,by simp[hnl],fun z hz=>?_,fun j u hj hu=>?_,rfl,by show Wd*c=hT ps n i*gK ps n i (hT ps n i);rw[<- hWe,<- hce],U,by rw[Int.pow_succ];omega,by rw[nn];omega,?_⟩,by rw[h7];simp only[aa,aM];omega⟩
   ·rcases P1 hz with h|h
    ·exact hnz z h
    ·rw[h];exact⟨rfl,rfl⟩
   ·by_cases huv:u=v
    ·subst huv;have hji:j=i:=(Q3 (aI hu) hperm.nd).1 (by rw[hu,hpv]);exact⟨_,PO (aI hx),by dsimp only;omega,by dsimp only;omega,by dsimp only;rw[hji,<- hWe];exact hce⟩
    ·rw[PY U];refine hnc j u ?_ hu;rcases PZ j i with h|h
     ·exact h
     ·obtain rfl:j=i:=U;rw[hpv]at hu;exact absurd (by have:=Option.some.inj hu;omega) huv
   ·refine⟨by rw[nn];omega,fun id h1 h2=>by rw[ab,PC h2,eG _ _ _ U];exact hF.2.1 id h1 h2,?_⟩;rw[ab,PG rfl,Ns hx (hnz x (PA hx)).1 rfl];congr 2;exact dq (by rw[hzl];have:=aI hx;omega)
  by_cases hp:(i:Int)<ps.length
  ·obtain⟨y,hy⟩:=aw (l:=ps) (i:=i) U;have hyo:=hps y (PA hy);have hc0:=Bo hy;have hc1:i*3+3<=(ea ps).length:=(by rw[Bp];omega);have hcne:¬ea ps=[]:=fun h=>by rw[h]at hc1;simp at hc1
   have c8:=hyo.1;have t1:y.J.tmod 2=y.J % 2:=P8 c8.1;have i5:=SG (y.J % 2) U;have i6:=PD (y.J % 2) U;have i7:=PD (2+y.J % 2) U;have c23:2<=(2+y.J % 2)/\(2+y.J % 2)<=3:=U;have p1:2<=Wd*(2+y.J % 2)/\Wd*(2+y.J % 2)<=3 ^ i*3:=by
    constructor
    ·have:=QM hW1 c23.1 U U;omega
    ·exact QM hW3 c23.2 U (U)
   have p2:2<=Wd*2/\Wd*2<=3 ^ i*3:=U;have j1:=PD (Wd*(2+y.J % 2)) U;have j2:=PD (Wd*2) U;obtain⟨q,hq⟩:∃q,IntKind.i64.wrap (Wd*(2+y.J % 2)*2 ^ (min ((n:Int)-1-i).toNat IntKind.i64.bits))=q:=⟨_,rfl⟩
   have cA:gK ps n i Wd=if q > 100 then 2 else 2+y.J % 2:=by
    have h0:nI ps i=2+y.J % 2:=(by unfold nI;rw[hy]);unfold gK;rw[h0,hq]
   have hsh:∀t o1 o2,bh prog .shl t o1 o2 (.lit (.int .i64 (Wd*(2+y.J % 2)))) (.lit (.int .u64 ((n:Int)-1-i)))=some (.lit (.int .i64 q)):=fun t o1 o2=>by rw[xm U,hq]
   by_cases hq1:q > 100
   ·simp only[go_sem,f1,f3,f6,f7,m0',hb,hp,i2,i3,i4,j1,j2,hsh,hc0,hc1,hcne,t1,i6,i7,hq1];refine W.dr 7 [0,1,0,0,12,28,0] mixed ?_;simp only[go_sem,f4,f5,f6,f7,m3',mN',i1,hpv,hpne,hv,hv0,hiP];exact fin 2 _ U (by rw[cA,PG hq1])
   ·simp only[go_sem,f1,f3,f6,f7,m0',hb,hp,i2,i3,i4,j1,hsh,hc0,hc1,hcne,t1,i6,i7,hq1];refine W.dr 7 [0,1,0,0,12,28,0] mixed ?_;simp only[go_sem,f4,f5,f6,f7,m3',mN',i1,hpv,hpne,hv,hv0,hiP];exact fin (2+y.J % 2) _ c23 (by rw[cA,PC hq1])
  ·have p2:2<=Wd*2/\Wd*2<=3 ^ i*3:=U;have i5:IntKind.i64.wrap (2+IntKind.i64.wrap (Int.tmod 0 2))=2:=SY;have j2:=PD (Wd*2) U;obtain⟨q,hq⟩:∃q,IntKind.i64.wrap (Wd*2*2 ^ (min ((n:Int)-1-i).toNat IntKind.i64.bits))=q:=⟨_,rfl⟩
   have cA:gK ps n i Wd=2:=by
    have h0:nI ps i=2:=(by unfold nI;rw[PN U]);unfold gK;rw[h0];split<;>rfl
   have hsh:∀t o1 o2,bh prog .shl t o1 o2 (.lit (.int .i64 (Wd*2))) (.lit (.int .u64 ((n:Int)-1-i)))=some (.lit (.int .i64 q)):=fun t o1 o2=>by rw[xm U,hq]
   by_cases hq1:q > 100
   ·simp only[go_sem,f1,f3,f6,f7,m0',hb,hp,i2,i3,i4,j2,hsh,i5,hq1];refine W.dr 7 [0,1,0,0,12,28,0] mixed ?_;simp only[go_sem,f4,f5,f6,f7,m3',mN',i1,hpv,hpne,hv,hv0,hiP];exact fin 2 _ U cA.symm
   ·simp only[go_sem,f1,f3,f6,f7,m0',hb,hp,i2,i3,i4,j2,hsh,i5,hq1];refine W.dr 7 [0,1,0,0,12,28,0] mixed ?_;simp only[go_sem,f4,f5,f6,f7,m3',mN',i1,hpv,hpne,hv,hv0,hiP];exact fin 2 _ U cA.symm
 ·obtain rfl:n=i:=U
  clear bs hW1 hW3 h6 f6;simp only[go_sem,f3,f7,hb];obtain⟨cs,hcs⟩:∃cs,cs=ay ns:=⟨_,rfl⟩
  have csl:cs.length=n:=by rw[hcs,fL,hnl]
  have hc23:∀c∈cs,2<=c/\c<=3:=fun c hc=>by
   obtain⟨v,hv⟩:=PU.1 hc;have hvn:=aI hv;have hm:=tj ord n v U;rw[<- hP]at hm;obtain⟨j,hj⟩:=PU.1 hm;obtain⟨x,hx,h2,h3,_⟩:=hnc j v (by have:=aI hj;omega) hj;rw[hcs,dp hx]at hv;cases hv;exact⟨h2,h3⟩
  have L0:LoopN g ps cs P n 0 ns:=⟨hnl,hcs.symm,fun j v x _ _ hx=>hnz x (PA hx),fun j v x h=>U,fun j v x h=>U,fun j v x hj hx=>by
   obtain⟨x',hx',_,_,h4⟩:=hnc j v (by have:=aI hj;omega) hj;rw[hx']at hx;rw[<- Option.some.inj hx];exact h4⟩
  clear hnc hnz h7;refine W.aS 98079714615416886934934209737619636635871851991103765504 (by rfl) (fun ρ Hy=>∃(i:Nat) (ns:List S3),ρ 10=aa i/\i<=n/\LoopN g ps cs P n i ns/\Hx.C<=Hy.C/\jQ H1 Hy (H.C+2) (bw ns)) (fun ρ H=>n-(iv (ρ 10)).toNat) ?_ ?_
  ·simp only[go_sem];exact⟨0,ns,rfl,U,L0,hF⟩
  clear L0 hF m0 m3 mN m0' m3' mN' hFn hnl hcs f7;rintro ρ Hy ⟨i,ns,h10,hi,L,hny,hF⟩;refine W.en (fun E=>E 1=.Y H.C 0 0 /\ E 2=.Y (H.C+1) 0 0 /\ E 3=aa n /\ E 4=.Y (H.C+3) 0 0 /\ E 5=af P /\ E 10=aa i) (by simp only[go_sem,f1,f2,f3,f4,f5,h10]) fun E ⟨e1,e2,e3,e4,e5,e10⟩=>?_
  refine W.vs ?_;have hFn:=hF.1;have m0:=ag ((hF.2.1 H.C U U).trans g0');have m1:=ag ((hF.2.1 (H.C+1) U U).trans g1');have m3:=ag ((hF.2.1 (H.C+3) U U).trans g3');have m0':∀L,(ext Hy L).nn H.C 0=some (25,[.lit (.int .u8 g0),.M ps.length (ea ps),.M ord.length (bJ ord)]):=fun L=>(dU U).trans m0;by_cases hb:(i:Int)<n
  ·obtain⟨pv,hpv⟩:=aw (l:=P) (i:=i) U;have hpr:=hperm.no pv (PA hpv);obtain⟨v,rfl⟩:=PP hpr.1;have hnl:=L.len;obtain⟨x,hx⟩:=aw (l:=ns) (i:=v) U;have hpne:=bg hpv;have hiP:(i:Int)<P.length:=U;have hP1:∀k:Nat,k<n->∃u:Nat,P[k]?=some (u:Int)/\u<n:=fun k hk=>by
    obtain⟨q,hq⟩:=aw (l:=P) (i:=k) U;have:=hperm.no q (PA hq);obtain⟨u,rfl⟩:=PP this.1;exact⟨u,hq,U⟩
   have hpc:∀(B:List S1),B=(if (i:Int)<ps.length then (ea ps).drop (i*3) |>.take 3 else [.lit (.int .u8 0),.lit (.int .u8 0),.lit (.slice none 0 0)])->∃(pc par:Int) (bs:List Int) (wv:S1),B=[.lit (.int .u8 pc),.lit (.int .u8 par),wv]/\(par=(jR ps i).1/\bs=(jR ps i).2)/\U8 par/\(∀b∈bs,U8 b)/\(bs.length:Int)<2 ^ 63/\wv.one=true/\wv.cells=[wv]/\∀H0,Fz (fun _=>True) H0 0 wv (.M bs.length (bJ bs)):=by
    rintro B rfl;by_cases hp:(i:Int)<ps.length
    ·obtain⟨y,hy⟩:=aw (l:=ps) (i:=i) U;have hyo:=hps y (PA hy);rw[PG hp,Bo hy];exact⟨y.J,y.par,y.w,_,rfl,⟨by unfold jR;rw[hy],by unfold jR;rw[hy]⟩,hyo.2.1,hyo.2.2.2,hyo.2.2.1,rfl,rfl,fun H0=>.M rfl fun i hi _=>by simp only[bJ,PK];exact .lit _⟩
    ·rw[PC hp];exact⟨0,0,[],_,rfl,⟨by unfold jR;rw[PN U],by unfold jR;rw[PN U]⟩,by unfold U8;omega,SX,SX,rfl,rfl,fun H0=>.nil⟩
   by_cases hp:(i:Int)<ps.length
   case' pos =>
    have hc1:i*3+3<=(ea ps).length:=(by rw[Bp];omega);have hcne:¬ea ps=[]:=fun h=>by rw[h]at hc1;simp at hc1
    rw[PG hp]at hpc;obtain⟨pc,par,bs,wv,hc0,hpw,hpar,hbs,hbl,hwo,hwc,hwf⟩:=hpc _ rfl;simp only[go_sem,e1,e3,e5,e10,m0',hb,hp,hc0,hc1,hcne,hpv,hpne,hiP,hwo,Bool.and_true];obtain⟨Hz,hHz⟩:∃Hz,Hz=ext Hy [.L 0 142 [.lit (.int .u8 pc),.lit (.int .u8 par),wv]]:=⟨_,rfl⟩
    clear hpc hc0 hc1 hcne hp
   case' neg =>
    rw[PC hp]at hpc;obtain⟨pc,par,bs,wv,hc0,hpw,hpar,hbs,hbl,hwo,hwc,hwf⟩:=hpc _ rfl;simp only[go_sem,e1,e3,e5,e10,m0',hb,hp,hpv,hpne,hiP];rw[hc0];obtain⟨Hz,hHz⟩:∃Hz,Hz=ext Hy [.L 0 142 [.lit (.int .u8 pc),.lit (.int .u8 par),wv]]:=⟨_,rfl⟩
    clear hpc hc0 hp
   all_goals
    rw[<- hHz];refine W.env fun E3 hE3=>?_;have k1:E3 1=.Y H.C 0 0:=(by rw[hE3];simp only[go_sem,e1]);have k2:E3 2=.Y (H.C+1) 0 0:=(by rw[hE3];simp only[go_sem,e2]);have k3:E3 3=aa n:=(by rw[hE3];simp only[go_sem,e3]);have k4:E3 4=.Y (H.C+3) 0 0:=(by rw[hE3];simp only[go_sem,e4]);have k5:E3 5=af P:=(by rw[hE3];simp only[go_sem,e5]);have k10:E3 10=aa i:=(by rw[hE3];simp only[go_sem,e10]);have k11:E3 11=.Y Hy.C 0 0:=(by rw[hE3];simp only[go_sem]);have k12:E3 12=aa v:=(by rw[hE3];simp only[go_sem]);have k13:E3 13=aa 0:=(by rw[hE3];simp only[go_sem]);clear hE3;have nz:Hz.C=Hy.C+1:=(by rw[hHz];rfl);have z3:Hz.get (H.C+3)=some (.L 0 64 [.lit (.int .i64 g),.V (H.C+2) 0 0 n 3]):=(by rw[hHz,eG _ _ _ U];exact(hF.2.1 (H.C+3) U U).trans g3');have zP:Hz.get Hy.C=some (.L 0 142 [.lit (.int .u8 pc),.lit (.int .u8 par),wv]):=(by rw[hHz];exact cf);have zN:Hz.get (H.C+2)=some (.L 0 83 (bw ns)):=(by rw[hHz,eG _ _ _ U];exact hF.2.2);have zO:∀id,id<H1.C->id≠H.C+2->Hz.get id=H1.get id:=fun id h1 h2=>by rw[hHz,eG _ _ _ U];exact hF.2.1 id h1 h2
    obtain⟨xr,xp⟩:=L.todo i v x S0 hpv hx;have hzl:=Bq ns;have hvn:=aI hx;have hcx:(bw ns)[v*3+1]?=some (.lit (.slice none 0 0)):=by
     have:=gF (f:=S3.bT) (z:=3) iM ns v 1 x hx U;rw[show (bw ns)[v*3+1]?=_ from this];unfold S3.bT;rw[PG xr];rfl
    clear hHz e1 e2 e3 e4 e5 e10 f1 f2 f3 f4 f5 m0' m0 m1 m3;have vlt:(v:Int)<n:=hpr.2;have v0:(v:Int) >= 0:=hpr.1;have hset:∀pv pv',setAt ((bw ns).set (v*3+1) pv) (v*3+1) [pv']=(bw ns).set (v*3+1) pv':=fun pv pv'=>by rw[dq (by rw[PI];omega),RD]
    have hgetc:∀pv,((bw ns).set (v*3+1) pv)[v*3+1]?=some pv:=fun pv=>PO U;refine W.jX (Q':=fun e s2=>e=.exit 4/\∃pv l,s2.ρ 1=.Y H.C 0 0/\s2.ρ 2=.Y (H.C+1) 0 0/\s2.ρ 3=aa n/\s2.ρ 4=.Y (H.C+3) 0 0/\s2.ρ 5=af P/\s2.ρ 10=aa i/\s2.ρ 11=.Y Hy.C 0 0/\s2.ρ 12=aa v/\wU Hz s2.H (H.C+2) (v*3+1) (bw ns) pv l/\TD P i n 0 l/\l=iO par P i n 0) ?_ ?_
    ·refine W.aS 44601490397061167054908922280959129468035072 (by rfl) (fun ρ Hu=>∃(u:Nat) (pv:S1) (l:List Int),ρ 13=aa u/\u<=n/\wU Hz Hu (H.C+2) (v*3+1) (bw ns) pv l/\TD P i u 0 l/\l=iO par P i u 0) (fun ρ H=>n-(iv (ρ 13)).toNat) ?_ ?_
     ·simp only[go_sem,k13];refine⟨0,.lit (.slice none 0 0),[],rfl,U,⟨⟨S0,fun _ _ _=>rfl,?_⟩,.nil⟩,⟨SX,SX,SX,SX⟩,rfl⟩;rw[zN,gM hcx]
     rintro ρu Hu ⟨u,pv,l,h13,hu,hS,hL,hPk⟩;refine W.env fun E4 hE4=>?_;have q3:E4 3=aa n:=(by rw[hE4];simp only[go_sem,k3]);have q4:E4 4=.Y (H.C+3) 0 0:=(by rw[hE4];simp only[go_sem,k4]);have q5:E4 5=af P:=(by rw[hE4];simp only[go_sem,k5]);have q10:E4 10=aa i:=(by rw[hE4];simp only[go_sem,k10]);have q11:E4 11=.Y Hy.C 0 0:=(by rw[hE4];simp only[go_sem,k11]);have q12:E4 12=aa v:=(by rw[hE4];simp only[go_sem,k12]);have q13:E4 13=aa u:=(by rw[hE4];simp only[go_sem,h13]);have q1:E4 1=.Y H.C 0 0:=(by rw[hE4];simp only[go_sem,k1]);have q2:E4 2=.Y (H.C+1) 0 0:=(by rw[hE4];simp only[go_sem,k2]);clear hE4;refine W.vs ?_;by_cases hub:(u:Int)<n
     ·have u1:=PD ((u:Int)+1) U;simp only[go_sem,q3,q13,hub];refine W.aS 44601490397058710981870980086493729605566464 (by rfl) (fun ρ Hk=>∃(k:Nat) (pv:S1) (l:List Int),ρ 14=aa k/\k<=i/\Hu.C<=Hk.C/\wU Hz Hk (H.C+2) (v*3+1) (bw ns) pv l/\TD P i u k l/\l=iO par P i u k) (fun ρ H=>i-(iv (ρ 14)).toNat) ?_ ?_
      ·simp only[go_sem];exact⟨0,pv,l,rfl,U,hS,hL,hPk⟩
      clear hS hL hPk;rintro ρk Hk ⟨k,pv,l,h14,hk,hnk,hS,hL,hPk⟩;refine W.env fun E5 hE5=>?_;have r4:E5 4=.Y (H.C+3) 0 0:=(by rw[hE5];simp only[go_sem,q4]);have r5:E5 5=af P:=(by rw[hE5];simp only[go_sem,q5]);have r10:E5 10=aa i:=(by rw[hE5];simp only[go_sem,q10]);have r11:E5 11=.Y Hy.C 0 0:=(by rw[hE5];simp only[go_sem,q11]);have r12:E5 12=aa v:=(by rw[hE5];simp only[go_sem,q12]);have r13:E5 13=aa u:=(by rw[hE5];simp only[go_sem,q13]);have r14:E5 14=aa k:=(by rw[hE5];simp only[go_sem,h14]);clear hE5;refine W.vs ?_;by_cases hki:(k:Int)<i
      ·obtain⟨hFz,hOz⟩:=hS;have hFz1:=hFz.1;obtain⟨a,ha,han⟩:=hP1 k U;have hane:=bg ha;have hkP:(k:Int)<P.length:=U;have s1:=PD ((k:Int)+1) U;have s2:=Ry (k:Int) U;have y3:=ag ((hFz.2.1 (H.C+3) U U).trans z3);have yP:=ag ((hFz.2.1 Hy.C U U).trans zP);have yN:=ag hFz.2.2;have hgc:=hgetc pv;have hcne2:=bg hgc;obtain⟨r2,hr2e⟩:∃r2,r2=Bw par k:=⟨_,rfl⟩
       obtain⟨r1,hr1e⟩:∃r1,r1=par.fdiv (2 ^ (min ((k:Int)).toNat IntKind.u8.bits)):=⟨_,rfl⟩
       have hr1:∀t o1 o2,bh prog .shr t o1 o2 (.lit (.int .u8 par)) (.lit (.int .u64 (k:Int)))=some (.lit (.int .u8 r1)):=fun _ _ _=>by rw[hr1e];exact tH (U)
       have hr2:∀t o1 o2,bh prog .and t o1 o2 (.lit (.int .u8 r1)) (.lit (.int .u8 1))=some (.lit (.int .u8 r2)):=fun _ _ _=>by rw[hr2e,hr1e];exact tI
       have hlen:=ti hOz (d:=some (.slice 3)) rfl;rw[mL,aY]at hlen;by_cases hau:(a:Int)=u
       ·have hau':a=u:=U;by_cases hr:r2=1
        ·by_cases hl3:(l.length:Int)<3
         ·simp only[go_sem,r4,r5,r10,r11,r12,r13,r14,hki,ha,hane,hkP,s2,y3,yP,yN,hgc,hr1,hr2,hlen,hau,hr,hl3,vlt,v0];obtain⟨pv',Hj,hA,hO',hn',hpr'⟩:=fT (P:=prog) (H:=Hk) (t:=59) (x:=aa u) (n:=Hk.C+1) Try.underlying59 Try.dx Try.dL rfl (by rw[Try.ei,aY];omega) hOz hFz1 rfl;simp only[aa]at hA;have na:∀id,id<Hz.C->Hj.get id=Hk.get id:=fun id h=>hpr' id U (hOz.ne h);have y3j:=ag ((na _ U).trans ((hFz.2.1 (H.C+3) U U).trans z3));have yNj:=ag ((na _ U).trans hFz.2.2);refine W.dr 12 [0,1,0,0,8,0,56,120,248,0,512,2040] mixed ?_;simp only[go_sem,r4,r12,r13,r14,y3,yN,yNj,hgc,vlt,v0,hA,s1];have hdj:kh (if iW pv=true then { nk:=aE pv,rs:=aE pv++[Hk.C] } else { nk:=[Hk.C+1],rs:=[Hk.C] }) { nk:=[],rs:=[H.C+3] }:=by
           rcases hOz with ⟨hO1,_⟩|⟨id,gg,hO1,hO2,hO3,_⟩
           ·rw[hO1];show kh { nk:=[Hk.C+1],rs:=[Hk.C] } _;exact⟨fun a ha=>by (obtain rfl:a=Hk.C+1:=by simpa using ha);simp;omega,fun a ha=>by simp at ha⟩
           ·rw[hO3];show kh { nk:=[id],rs:=[id]++[Hk.C] } _;exact⟨fun a ha=>by (obtain rfl:a=id:=by simpa using ha);simp;omega,fun a ha=>by simp at ha⟩
          have hpc1:=hO'.cells;rw[hpc1];refine⟨⟨U,U,U,U,U,U,U⟩,⟨hdj,hdj⟩,⟨rfl,by simp[hO'.one],by rw[PI];simp;omega⟩,by rw[ar];omega,⟨k+1,pv',l++[(u:Int)],rfl,U,by rw[ar];omega,⟨⟨by rw[ar];omega,fun id h1 h2=>by rw[ab,PC h2,na _ h1];exact hFz.2.1 id h1 h2,?_⟩,?_⟩,hL.add hperm U (by rw[ha,hau]) U,by rw[tn,<- hPk];unfold lT;rw[PG ⟨by rw[ha,hau],by rw[<- hr2e];exact hr,U⟩]⟩,by rw[h14];simp only[aa,aM];omega⟩
          ·rw[ab,PG rfl,hset]
          ·have:=hO'.na (lo':=Hz.C) (H':=Hj.upd (H.C+2) (.L 0 83 (setAt ((bw ns).set (v*3+1) pv) (v*3+1) [pv']))) S0 S0 fun id _ h1 _ _ _=>by rw[ab,PC U]
           simpa[ints,aa] using this
         ·simp only[go_sem,r4,r5,r10,r11,r12,r13,r14,hki,ha,hane,hkP,s1,s2,y3,yP,yN,hgc,hr1,hr2,hlen,hau,hr,hl3,vlt,v0];exact⟨hnk,⟨k+1,pv,l,rfl,U,hnk,⟨hFz,hOz⟩,hL.skip,by rw[tn,<- hPk];unfold lT;rw[PC fun h=>hl3 (by have:=h.2.2;omega)]⟩,by rw[h14];simp only[aa,aM];omega⟩
        ·simp only[go_sem,r5,r10,r11,r13,r14,hki,ha,hane,hkP,s1,s2,yP,hr1,hr2,hau,hr];exact⟨hnk,⟨k+1,pv,l,rfl,U,hnk,⟨hFz,hOz⟩,hL.skip,by rw[tn,<- hPk];unfold lT;rw[PC fun h=>hr (by rw[hr2e];exact h.2.1)]⟩,by rw[h14];simp only[aa,aM];omega⟩
       ·simp only[go_sem,r5,r10,r13,r14,hki,ha,hane,hkP,s1,hau];exact⟨hnk,⟨k+1,pv,l,rfl,U,hnk,⟨hFz,hOz⟩,hL.skip,by rw[tn,<- hPk];unfold lT;rw[PC fun h=>hau (by have h1:=h.1;rw[ha]at h1;exact Option.some.inj h1)]⟩,by rw[h14];simp only[aa,aM];omega⟩
      ·obtain rfl:k=i:=U;simp only[go_sem,r10,r13,r14,hki,u1];exact⟨by have:=hS.1.1;omega,⟨u+1,pv,l,rfl,U,hS,hL.C,by rw[Nt];exact hPk⟩,by rw[h13];simp only[aa,aM];omega⟩
     ·obtain rfl:u=n:=U;simp only[go_sem,q1,q2,q3,q4,q5,q10,q11,q12,q13,hub];exact⟨pv,l,hS,hL,hPk⟩
    ·rintro e s2 ⟨rfl,pv,l,a1,a2,a3,a4,a5,a10,a11,a12,⟨hFz,hOz⟩,hL,hPk⟩;have hFz1:=hFz.1;obtain⟨rk,hrk,hfz⟩:∃rk,Hz.C<=rk/\Fz (fun id=>id=rk) s2.H s2.H.C pv (af l):=by
      rcases hOz with ⟨hO1,hO2⟩|⟨id,gg,hO1,hO2,hO3,hO4⟩
      ·have:l=[]:=by cases l with
        |nil=>rfl
        |cons b l=>simp[ints]at hO2
       rw[hO1,this];exact⟨s2.H.C,hFz1,.nil⟩
      ·refine⟨id,hO1,?_⟩;rw[hO3,aY];refine .np rfl hO4 (by rw[Nat.mul_one,aY]) fun j hj h2 h'=>?_;simp only[Nat.zero_add,ints,PK];exact .lit _
     have hne2:H.C+2≠rk:=U;refine⟨⟨s2.ρ,s2.H.dC rk (H.C+2) (.L 0 83 ((bw ns).set (v*3+1) (af l)))⟩,bY.dC aZ hFz.2.2 hne2 SX (xu (Bu ns) hfz),S0,trivial,?_⟩;obtain⟨Hm,hHm⟩:∃Hm,Hm=s2.H.dC rk (H.C+2) (.L 0 83 ((bw ns).set (v*3+1) (af l))):=⟨_,rfl⟩
     rw[<- hHm];have hFm:jQ Hz Hm (H.C+2) ((bw ns).set (v*3+1) (af l)):=by
      rw[hHm];exact⟨hFz1,fun id h1 h2=>(jn U h2).trans (hFz.2.1 id h1 h2),tK hne2⟩
     clear hFz hOz hfz hHm hne2 hrk;simp only[go_sem];refine W.env fun E6 hE6=>?_;have y1:E6 1=.Y H.C 0 0:=(by rw[hE6];simp only[go_sem,a1]);have y2:E6 2=.Y (H.C+1) 0 0:=(by rw[hE6];simp only[go_sem,a2]);have y3:E6 3=aa n:=(by rw[hE6];simp only[go_sem,a3]);have y4:E6 4=.Y (H.C+3) 0 0:=(by rw[hE6];simp only[go_sem,a4]);have y5:E6 5=af P:=(by rw[hE6];simp only[go_sem,a5]);have y10:E6 10=aa i:=(by rw[hE6];simp only[go_sem,a10]);have y11:E6 11=.Y Hy.C 0 0:=(by rw[hE6];simp only[go_sem,a11]);have y12:E6 12=aa v:=(by rw[hE6];simp only[go_sem,a12]);have y15:E6 15=aa 0:=(by rw[hE6];simp only[go_sem]);clear hE6 a1 a2 a3 a4 a5 a10 a11 a12;have lsm:eC (bd cs l):=pV (by rw[jV];have:=hL.p3;omega) fun c hc=>by
      unfold bd at hc;obtain⟨q,hq,rfl⟩:=P3.1 hc;have hqr:=hL.no q hq;obtain⟨c,hc⟩:=aw (l:=cs) (i:=q.toNat) (by rw[csl];rcases hqr.2 with h|⟨_,k',h,_⟩<;>omega);rw[cw hc];have:=hc23 c (PA hc);omega
     have lpos:0<aK (bd cs l)/\aK (bd cs l)<=27:=by
      have c3:∀c∈bd cs l,1<=c/\c<=3:=fun c hc=>by
       unfold bd at hc;obtain⟨q,hq,rfl⟩:=P3.1 hc;have hqr:=hL.no q hq;obtain⟨c,hc⟩:=aw (l:=cs) (i:=q.toNat) (by rw[csl];rcases hqr.2 with h|⟨_,k',h,_⟩<;>omega);rw[cw hc];have:=hc23 c (PA hc);omega
      have h1:=lL fun c hc=>(c3 c hc).1;have h2:=(wG (b:=3) U fun c hc=>⟨by have:=(c3 c hc).1;omega,(c3 c hc).2⟩).2;have h3:(3:Int) ^ (bd cs l).length<=3 ^ 3:=by
       have:(3:Nat) ^ (bd cs l).length<=3 ^ 3:=P7 SY (by rw[jV];exact hL.p3)
       exact_mod_cast this
      omega
     obtain⟨R,hR⟩:=PP (show 0<=aK (bd cs l) by omega);have hxc:2<=x.J/\x.J<=3:=hc23 x.J (by rw[<- L.nw];exact PA (dp hx));have hFm1:=hFm.1;have w3:Hm.get (H.C+3)=some (.L 0 64 [.lit (.int .i64 g),.V (H.C+2) 0 0 n 3]):=(hFm.2.1 _ U U).trans z3;have wP:Hm.get Hy.C=some (.L 0 142 [.lit (.int .u8 pc),.lit (.int .u8 par),wv]):=(hFm.2.1 _ U U).trans zP;obtain⟨C1,hC1⟩:∃C1,C1=(bw ns).set (v*3+1) (af l):=⟨_,rfl⟩
     have c1l:C1.length=ns.length*3:=(by rw[hC1,PI,hzl]);have hcx2:C1[v*3+2]?=some (.lit (.slice none 0 0)):=by
      have:=gF (f:=S3.bT) (z:=3) iM ns v 2 x hx U;rw[hC1,PY U,show (bw ns)[v*3+2]?=_ from this];unfold S3.bT;rw[PG xr];rfl
     have hcx0:C1[v*3]?=some (aa x.J):=(by rw[hC1,PY U];exact Br hx);rw[<- hC1]at hFm;have hset2:∀rv rv',setAt (C1.set (v*3+2) rv) (v*3+2) [rv']=C1.set (v*3+2) rv':=fun rv rv'=>by rw[dq (by rw[PI];omega),RD]
     have hgc2:∀rv,(C1.set (v*3+2) rv)[v*3+2]?=some rv:=fun rv=>PO U;have hgc0:∀rv,(C1.set (v*3+2) rv)[v*3]?=some (aa x.J):=fun rv=>by rw[PY U];exact hcx0
     refine W.jX (Q':=fun e s2=>e=.exit 8/\∃(rv:S1) (O:List (List Int)),s2.ρ 1=.Y H.C 0 0/\s2.ρ 2=.Y (H.C+1) 0 0/\s2.ρ 3=aa n/\s2.ρ 4=.Y (H.C+3) 0 0/\s2.ρ 5=af P/\s2.ρ 10=aa i/\O.length=R/\O=nJ g x.J bs R/\(∀r∈O,hX g x.J r)/\jQ Hm s2.H (H.C+2) (C1.set (v*3+2) rv)/\au Hm.C s2.H 59 rv (O.map af)) ?_ ?_
     ·refine W.aS 98079714615372285444537148491336716315054007096738611200 (by rfl) (fun ρ Hr=>∃(r:Nat) (rv:S1) (O:List (List Int)),ρ 15=aa r/\r<=R/\O.length=r/\O=nJ g x.J bs r/\(∀r∈O,hX g x.J r)/\jQ Hm Hr (H.C+2) (C1.set (v*3+2) rv)/\au Hm.C Hr 59 rv (O.map af)) (fun ρ H=>R-(iv (ρ 15)).toNat) ?_ ?_
      ·simp only[go_sem,y15];refine⟨0,.lit (.slice none 0 0),[],rfl,U,rfl,rfl,SX,⟨S0,fun _ _ _=>rfl,?_⟩,.nil⟩;rw[hFm.2.2,gM hcx2]
      rintro ρr Hr ⟨r,rv,O,h15,hr,hrl,hrD,hrows,hFr,hOr⟩;refine W.env fun E7 hE7=>?_;have b1:E7 1=.Y H.C 0 0:=(by rw[hE7];simp only[go_sem,y1]);have b2:E7 2=.Y (H.C+1) 0 0:=(by rw[hE7];simp only[go_sem,y2]);have b3:E7 3=aa n:=(by rw[hE7];simp only[go_sem,y3]);have b4:E7 4=.Y (H.C+3) 0 0:=(by rw[hE7];simp only[go_sem,y4]);have b5:E7 5=af P:=(by rw[hE7];simp only[go_sem,y5]);have b10:E7 10=aa i:=(by rw[hE7];simp only[go_sem,y10]);have b11:E7 11=.Y Hy.C 0 0:=(by rw[hE7];simp only[go_sem,y11]);have b12:E7 12=aa v:=(by rw[hE7];simp only[go_sem,y12]);have b15:E7 15=aa r:=(by rw[hE7];simp only[go_sem,h15]);clear hE7;refine W.vs ?_;have hFr1:=hFr.1;have v3:=ag ((hFr.2.1 (H.C+3) U U).trans w3);have vP:=ag ((hFr.2.1 Hy.C U U).trans wP);have vN:=ag hFr.2.2;have hzp:∀z∈ns,z.O=[]->z.F=[]:=fun z hz hz0=>by
       obtain⟨u,hu⟩:=PU.1 hz;have hm:=tj ord n u (by have:=aI hu;omega);rw[<- hP]at hm;obtain⟨j,hj⟩:=PU.1 hm;rcases PZ j i with h|h
       ·exact absurd hz0 (L.done j u z h hj hu).ne
       ·exact(L.todo j u z h hj hu).2
      have hcard:ay (ns.set v ⟨x.J,l,O⟩)=cs:=by
       have h1:ay (ns.set v ⟨x.J,l,O⟩)=(ay ns).set v x.J:=(by unfold ay;rw[Sb]);rw[h1,gM (dp hx),L.nw]
      have hpar:bc (ns.set v ⟨x.J,l,O⟩) ⟨x.J,l,O⟩=bd cs l:=(by unfold bc;rw[hcard]);have fzN:Fz (fun _=>True) Hr 0 (.agg [aa g,.V (H.C+2) 0 0 n 3]) (bS g (ns.set v ⟨x.J,l,O⟩)):=by
       refine .agg rfl fun i hi _=>?_
       match i,hi with
       |0,_=>exact .lit _
       |1,_ =>
        show Fz _ _ _ _ (.M (ns.set v ⟨x.J,l,O⟩).length (aL (ns.set v ⟨x.J,l,O⟩)));rw[PI,hnl,Np (y:=⟨x.J,l,O⟩) hx rfl];refine .np trivial hFr.2.2 (by rw[PI,PI,gG];omega) fun j hj h2 h'=>?_;simp only[Nat.zero_add];refine Bs (A:=C1) (B:=(aL ns).set (v*3+1) (af l)) ?_ ?_ j _ _
        ·rw[hC1];exact Bs (No ns hzp) (.cO _)
        ·have:=hOr.fz (S:=fun _=>True) (nx:=0) (cs':=O.map af) (fun _ _=>trivial) rfl fun i hi _=>by simp only[PK];exact .cO _
         rw[PR]at this;exact this
      simp only[go_sem,b4,b12,b15,v3];refine aH.nl ((ae.frame (H:=Hr) (args:=[.agg [aa g,.V (H.C+2) 0 0 n 3],aa v]) (args':=[bS g (ns.set v ⟨x.J,l,O⟩),aa v]) (v':=af (bd cs l)) aZ rfl (fun i hi _=>?_) (Nr g (ns.set v ⟨x.J,l,O⟩) v ⟨x.J,l,O⟩ (PO hvn) (by rw[PI];omega) (by show (l.length:Int)<_;have:=hL.p3;omega) (fun q hq=>by
        have hqr:=hL.no q hq;rw[PI];rcases hqr.2 with h|⟨_,k',h,_⟩<;>omega) bZ _ fun w Hq _ ho=>⟨_,rfl,by rw[hpar]at ho;exact ho.lZ⟩)).mono fun r1 H1' hr1=>?_)
      ·match i,hi with
       |0,_=>exact fzN
       |1,_=>exact .lit _
      obtain⟨rfl,rfl⟩:=hr1;refine⟨trivial,?_⟩;simp only[go_sem];refine aH.nl (xb (bd cs l) lsm _ _ ⟨trivial,?_⟩);rw[hR];by_cases hrR:(r:Int)<R
      ·simp only[go_sem,hrR];obtain⟨xn,hxn⟩:=PP (show 0<=x.J by omega);have rc:0<=(r:Int)*(x.J+1)/\(r:Int)*(x.J+1)<=27*4:=⟨RJ U U,QM U U U U⟩
       have c1:=PD (x.J+1) U;have c2:=PD ((r:Int)*(x.J+1)) U;have c3:=PD ((r:Int)+1) U;have hg2:=hgc2 rv;have hg0':=hgc0 rv;have hg2n:=bg hg2;obtain⟨row,hrow⟩:∃row,row=kP g xn bs ((r:Int)*(x.J+1)):=⟨_,rfl⟩
       have hrok:hX g x.J row:=(by rw[hrow,hxn];exact M3 hg1.1 U _ _);have hpc84:∀Hq,cD prog G0 (.nl 84 [] []) [aa g,aa x.J,wv,aa ((r:Int)*(x.J+1))] Hq (af row) []:=fun Hq=>by
        refine cD.mk (fun i hi=>by cases hi) fun H2 _ _=>?_;refine ae.frame (H:=H2) (args:=[aa g,aa x.J,wv,aa ((r:Int)*(x.J+1))]) (args':=[aa g,aa xn,.M bs.length (bJ bs),aa ((r:Int)*(x.J+1))]) (v':=af row) aZ rfl (fun i hi _=>?_) (M4 g xn hg1 U bs hbl hbs _ U bZ _ fun w Hw _ ho=>⟨_,rfl,by rw[hrow];exact ho.lZ⟩)
        match i,hi with
        |0,_=>exact .lit _
        |1,_=>rw[hxn];exact .lit _
        |2,_=>exact hwf _
        |3,_=>exact .lit _
       obtain⟨rv',Hj,hA,hO',hn',hpr'⟩:=fT (P:=prog) (H:=H1') (t:=48) (x:=af row) (n:=H1'.C+1) Try.underlying48 Try.kF Try.kH rfl (by rw[Try.kG,PR];omega) hOr hFr1 rfl;have na:∀id,id<Hm.C->Hj.get id=H1'.get id:=fun id h=>hpr' id U (hOr.ne h);have v3j:=ag ((na _ U).trans ((hFr.2.1 (H.C+3) U U).trans w3));have vNj:=ag ((na _ U).trans hFr.2.2);have hA':bf prog (ext H1' [.L 0 59 [.M row.length (ints row)]]) (H1'.C+1) 48 48 rv (.V H1'.C 0 0 1 1)=some (rv',Hj):=hA;refine W.dr 31 [0,1,0,0,8,0,56,120,248,0,512,0,2048,0,14336,30720,63488,0,131072,0,0,1048576,0,7340032,15728640,32505856,66060288,133693440,268434944,536870400,1073741816] mixed ?_;simp only[go_sem,b4,b11,b12,b15,v3,vP,vN,hg2,hg0',vlt,v0,c1,c2];refine⟨af row,[],hpc84 _,?_⟩;simp only[go_sem,b4,b11,b12,b15,vNj,vlt,v0,c3,hA'];have hdj:kh (if iW rv=true then { nk:=aE rv,rs:=aE rv++[H1'.C] } else { nk:=[H1'.C+1],rs:=[H1'.C] }) { nk:=[],rs:=[H.C+3] }:=by
        rcases hOr with ⟨hO1,_⟩|⟨id,gg,hO1,hO2,hO3,_⟩
        ·rw[hO1];show kh { nk:=[H1'.C+1],rs:=[H1'.C] } _;exact⟨fun a ha=>by (obtain rfl:a=H1'.C+1:=by simpa using ha);simp;omega,fun a ha=>by simp at ha⟩
        ·rw[hO3];show kh { nk:=[id],rs:=[id]++[H1'.C] } _;exact⟨fun a ha=>by (obtain rfl:a=id:=by simpa using ha);simp;omega,fun a ha=>by simp at ha⟩
       rw[hO'.cells];refine⟨⟨U,U,U,U,U,U,U⟩,⟨hdj,hdj⟩,⟨rfl,by simp[hO'.one],by rw[PI,c1l];simp;omega⟩,by rw[ar];omega,⟨r+1,rv',O++[row],rfl,U,by simp[hrl],by rw[Nu,<- hrD,hrow,show x.J.toNat=xn by omega],fun q hq=>?_,⟨by rw[ar];omega,fun id h1 h2=>by rw[ab,PC h2,na _ h1];exact hFr.2.1 id h1 h2,?_⟩,?_⟩,by rw[h15];simp only[aa,aM];omega⟩
       ·rcases PT.1 hq with h|h
        ·exact hrows q h
        ·obtain rfl:=List.mem_singleton.1 h;exact hrok
       ·rw[ab,PG rfl,hset2]
       ·have:=hO'.na (lo':=Hm.C) (H':=Hj.upd (H.C+2) (.L 0 83 (setAt (C1.set (v*3+2) rv) (v*3+2) [rv']))) S0 S0 fun id _ h1 _ _ _=>by rw[ab,PC U]
        simpa using this
      ·simp only[go_sem,b1,b2,b3,b4,b5,b10,hrR];exact⟨rv,O,U,by rw[hrD];congr 1;omega,hrows,hFr,hOr⟩
     ·rintro e s3 ⟨rfl,rv,O,a1,a2,a3,a4,a5,a10,hrl,hrD,hrows,hFr,hOr⟩;have hFr1:=hFr.1;obtain⟨rk,hrk,hfz⟩:∃rk,Hm.C<=rk/\Fz (fun id=>id=rk) s3.H s3.H.C rv (az O):=by
       rcases hOr with ⟨hO1,hO2⟩|⟨id,gg,hO1,hO2,hO3,hO4⟩
       ·have:O=[]:=by cases O with
         |nil=>rfl
         |cons b l=>simp at hO2
        rw[hO1,this];exact⟨s3.H.C,hFr1,.nil⟩
       ·refine⟨id,hO1,?_⟩;rw[hO3,PR];refine .np rfl hO4 (by rw[Nat.mul_one,PR]) fun j hj h2 h'=>?_;simp only[Nat.zero_add,PK];exact .cO _
      have hne2:H.C+2≠rk:=U;have hC1z:∀c∈C1,Fz (fun id=>id=rk) s3.H s3.H.C c c:=fun c hc=>by
       rw[hC1]at hc;rcases P1 hc with h|h
       ·exact Bu ns c h
       ·rw[h];exact .cO _
      refine⟨⟨s3.ρ,s3.H.dC rk (H.C+2) (.L 0 83 (C1.set (v*3+2) (az O)))⟩,bY.dC aZ hFr.2.2 hne2 SX (xu hC1z hfz),S0,trivial,?_⟩;obtain⟨He,hHe⟩:∃He,He=s3.H.dC rk (H.C+2) (.L 0 83 (C1.set (v*3+2) (az O))):=⟨_,rfl⟩
      rw[<- hHe];have hFe:jQ Hm He (H.C+2) (C1.set (v*3+2) (az O)):=by
       rw[hHe];exact⟨hFr1,fun id h1 h2=>(jn U h2).trans (hFr.2.1 id h1 h2),tK hne2⟩
      clear hFr hOr hfz hHe hne2 hrk;have hFe1:=hFe.1;have i1:=PD ((i:Int)+1) U;simp only[go_sem,a10,i1];have hiv:∀j u:Nat,P[j]?=some (u:Int)->u=v->j=i:=fun j u h1 h2=>by
       subst h2;exact(Q3 (aI h1) hperm.nd).1 (by rw[h1,hpv])
      have hrne:O≠[]:=fun h=>by rw[h]at hrl;simp at hrl;omega
      have hdone:DoneN g cs P n i ⟨x.J,l,O⟩:=⟨⟨hL.pw,fun q hq=>⟨(hL.no q hq).1,by rcases(hL.no q hq).2 with h|⟨_,k',h,_⟩<;>omega⟩⟩,hL.p3,hL.rk,by show (O.length:Int)=_;rw[hrl,hR],hrows,hrne⟩
      refine⟨U,⟨i+1,ns.set v ⟨x.J,l,O⟩,rfl,U,⟨by rw[PI];exact hnl,?_,fun j u z hj hu hz=>?_,fun j u z hj hu hz=>?_,fun j u z hj hu hz=>?_,fun j u z hu hz=>?_⟩,U,U,fun id h1 h2=>?_,?_⟩,by rw[h10];simp only[aa,aM];omega⟩
      ·have h1:ay (ns.set v ⟨x.J,l,O⟩)=(ay ns).set v x.J:=(by unfold ay;rw[Sb]);rw[h1,gM (dp hx),L.nw]
      ·have huv:¬u=v:=fun h=>by have:=hiv j u hu h;omega
       rw[PY U]at hz;exact L.todo j u z U hu hz
      ·by_cases huv:u=v
       ·obtain rfl:=hiv j u hu huv;rw[huv,PO hvn]at hz;cases hz;exact hdone
       ·rw[PY U]at hz;have:j≠i:=fun h=>by
         rw[h,hpv]at hu;exact huv (by have:=Option.some.inj hu;omega)
        exact L.done j u z U hu hz
      ·by_cases huv:u=v
       ·obtain rfl:=hiv j u hu huv;rw[huv,PO hvn]at hz;rw[<- Option.some.inj hz];unfold wT;rw[<- L.cd j v x hpv hx,<- hpw.1,<- hpw.2,<- hPk,hR,hrD];rfl
       ·rw[PY U]at hz;have:j≠i:=fun h=>by
         rw[h,hpv]at hu;exact huv (by have:=Option.some.inj hu;omega)
        exact L.eq j u z U hu hz
      ·by_cases huv:u=v
       ·obtain rfl:=hiv j u hu huv;rw[huv,PO hvn]at hz;rw[<- Option.some.inj hz];exact L.cd j v x hpv hx
       ·rw[PY U]at hz;exact L.cd j u z hu hz
      ·rw[hFe.2.1 id U h2,hFm.2.1 id U h2];exact zO id h1 h2
      ·rw[hFe.2.2,Nv (y:=⟨x.J,l,O⟩) hx rfl hrne,hC1]
  ·obtain rfl:i=n:=U;simp only[go_sem,e2,e3,e4,e10,hb,m1,m3];have hnl:=L.len;have hall:∀v:Nat,v<ns.length->(v:Int)∈P:=fun v hv=>by rw[hP];exact tj ord i v (U)
   have hdn:∀(v:Nat) (x:S3),ns[v]?=some x->∃j,DoneN g cs P i j x:=fun v x hx=>by
    obtain⟨j,hj⟩:=PU.1 (hall v (aI hx));exact⟨j,L.done j v x (by have:=aI hj;have:=hperm.len;omega) hj hx⟩
   have hdm:∀x∈ns,∃j,DoneN g cs P i j x:=fun x hx=>by
    obtain⟨v,hv⟩:=PU.1 hx;exact hdn v x hv
   have ov:S6 H (Hy.upd (H.C+1) (.L 0 64 [.lit (.int .i64 g),.V (H.C+2) 0 0 i 3])):=⟨by rw[ar];omega,fun id h=>by rw[ab,PC U,hF.2.1 id U U];exact o1.nf id h⟩
   have hz:bw ns=aL ns:=Nm fun x hx=>(hdm x hx).elim fun j hj=>hj.ne;have hcl8:∀x∈ns,2<=x.J/\x.J<=3:=fun x hx=>hc23 x.J (by rw[<- L.nw];exact P3.2 ⟨x,hx,rfl⟩);have hnet:To g ns:=by
    refine⟨hg1,U,fun x hx=>?_,?_,Bv (P:=P) (by rw[hnl];exact hperm) hall fun j v x hj hx q hq=>?_,fun x hx=>?_⟩
    ·obtain⟨j,hj⟩:=hdm x hx;have:=hcl8 x hx;exact⟨U,by rw[hnl];exact hj.pl⟩
    ·have h2:=(wG (b:=3) U (l:=ay ns) fun c hc=>by have:=hc23 c (by rw[<- L.nw];exact hc);omega).2;have h3:(3:Int) ^ (ay ns).length<=3 ^ 5:=by
      have:(3:Nat) ^ (ay ns).length<=3 ^ 5:=P7 SY (by rw[fL];omega)
      exact_mod_cast this
     omega
    ·have hd:=L.done j v x (by have:=aI hj;have:=hperm.len;omega) hj hx;exact⟨(hd.pl.2 q hq).1,hd.rk q hq⟩
    ·obtain⟨j,hj⟩:=hdm x hx;unfold fa bc;rw[L.nw];exact⟨hj.rl,hj.ro⟩
   rw[<- hnl];rw[<- hnl]at ov;refine av.mk ov.C (hK g ns (H.C+2) _ ov U (by rw[ar];omega) ?_ hnet U (fun x hx=>?_) (fun x hx=>?_) ⟨hg.symm,by rw[hnl];exact hn.symm,by rw[L.nw,hnl,<- hP];exact fun j v x hj hx=>L.eq j v x (by have:=aI hj;have:=hperm.len;omega) hj hx,by rw[hnl,<- hP];exact L.cd⟩)
   ·rw[ab,PC U,hF.2.2,hz]
   ·obtain⟨j,hj⟩:=hdm x hx;exact hj.p3
   ·have:=hc23 x.J (by rw[<- L.nw];unfold ay;exact List.mem_map_of_mem hx);omega
def Ny (g0:Int)(ps:List Ts)(ord:List Int)(hg0:U8 g0)(hps:∀x∈ps,x.Ok)(hpl:(ps.length:Int)<2 ^ 63)(hol:(ord.length:Int)<2 ^ 63)(ho8:∀x∈ord,U8 x)(H:S2)(K:S8->S2->Prop)
  (hK:∀g ns N H',S6 H H'->H.C<=N->N<H'.C->H'.get N=some (.L 0 83 (aL ns))->To g ns->ns.length<=5->(∀x∈ns,x.F.length<=3)->(∀x∈ns,2<=x.J)->K (.ret (.agg [aa g,.V N 0 0 ns.length 3])) H'):
  ae prog G0 40 [tf g0 ps ord] H K:=Nx g0 ps ord hg0 hps hpl hol ho8 H K fun g ns N H' a b c d e f h i _=>hK g ns N H' a b c d e f h i
def Nz (g0:Int)(ps:List Ts)(ord:List Int)(hg0:U8 g0)(hps:∀x∈ps,x.Ok)(hpl:(ps.length:Int)<2 ^ 63)(hol:(ord.length:Int)<2 ^ 63)(ho8:∀x∈ord,U8 x)(H:S2)(K:S8->S2->Prop)
  (hK:∀g ns N H',S6 H H'->H.C<=N->N<H'.C->H'.get N=some (.L 0 83 (aL ns))->To g ns->ns.length<=5->(∀x∈ns,x.F.length<=3)->K (.ret (.agg [aa g,.V N 0 0 ns.length 3])) H'):
  ae prog G0 40 [tf g0 ps ord] H K:=Ny g0 ps ord hg0 hps hpl hol ho8 H K fun g ns N H' a b c d e f h _=>hK g ns N H' a b c d e f h
def jS (s v:Nat)(hs:s<2 ^ 64)(H:S2)(K:S8->S2->Prop)(hK:K (.ret (.lit (.bool (s.testBit v)))) H):ae prog G0 53 [aG s,aa v] H K:=by
 refine ae.st (n:=10) (rs:=[.tmp 4]) func53 ?_;have s1:=fun t x y=>kW (P:=prog) (t:=t) (x:=x) (y:=y) (k':=.i64) (s:=v) hs;have s2:=fun t x y=>qc (P:=prog) (t:=t) (x:=x) (y:=y) (s:=v) hs;cases hb:s.testBit v
 ·rw[hb]at hK;simp only[go_sem,s1,s2,hb];exact av.mk S0 hK
 ·rw[hb]at hK;simp only[go_sem,s1,s2,hb];exact av.mk S0 hK
def dm (s n:Nat):List Int:=((List.range n).filter fun v=>s.testBit v).map fun (v:Nat)=>(v:Int)
def NA (s n:Nat):dm s (n+1)=if s.testBit n=true then dm s n++[(n:Int)] else dm s n:=by
 unfold dm;rw[QV,List.filter_append,QQ];by_cases h:s.testBit n=true
 ·rw[PG h];simp[h]
 ·rw[PC h];simp[h]
def nK {s:Nat}{q:Int}:q∈dm s n↔∃v:Nat,q=v/\v<n/\s.testBit v=true:=by
 unfold dm;simp only[P3,List.mem_filter,Qq];exact⟨fun ⟨v,⟨h1,h2⟩,h3⟩=>⟨v,h3.symm,h1,h2⟩,fun ⟨v,h1,h2,h3⟩=>⟨v,⟨h2,h3⟩,h1.symm⟩⟩
def NB (s n:Nat):(dm s n).Pairwise (·<·):=by
 unfold dm;refine List.Pairwise.map _ (R:=(·<·)) (fun a b h=>U) ?_;exact List.Pairwise.filter _ List.pairwise_lt_range
def Bx (s n:Nat):(dm s n).length<=n:=by
 unfold dm;rw[PR];exact Qm (SK _ _) (SX)
def By (s:Nat)(hs:s<2 ^ 64)(H:S2)(K:S8->S2->Prop)(hK:K (.ret (af (dm s 8))) H):ae prog G0 43 [aG s] H K:=by
 refine ae.nl ⟨_,func43,rfl,rfl⟩ fun hcl=>?_;refine ae.st (n:=17) (rs:=[.tmp 2]) func43 ?_;simp only[go_sem];refine W.aS 65528 (by rfl) (fun ρ H'=>∃k:Nat,ρ 4=aa k/\k<=8/\S6 H H'/\au H.C H' 3 (ρ 3) (ints (dm s k))) (fun ρ H=>8-(iv (ρ 4)).toNat) ?_ ?_
 ·simp only[go_sem];exact⟨0,rfl,U,.refl _,.nil⟩
 rintro ρ H' ⟨k,h4,hk,ov,h3⟩;refine W.en (fun E=>E 0=aG s /\ E 3=ρ 3 /\ E 4=aa k) (by simp only[go_sem,h4]) fun E ⟨e0,e3,e4⟩=>?_
 refine W.vs ?_;by_cases hb:(k:Int)<8
 ·have w1:=PD ((k:Int)+1) U;have hbl:=Bx s k;have hsu:=NA s k;simp only[go_sem,e0,e4,hb];refine aH.nl (jS s k hs _ _ ⟨trivial,?_⟩);by_cases hbit:s.testBit k=true
  ·obtain⟨v',H2,hA,ov2,hO,hn2,_⟩:=gO (k:Int) ov h3 U;rw[PG hbit]at hsu;simp only[go_sem,e3,e4,hbit,w1,hA];exact⟨by have:=ov2.C;omega,⟨k+1,rfl,U,ov2,by rw[hsu];exact hO⟩,by rw[h4];simp only[aa,aM];omega⟩
  ·rw[PC hbit]at hsu;have hbf:s.testBit k=false:=(by simpa using hbit);simp only[go_sem,e3,e4,hbf,w1];exact⟨ov.C,⟨k+1,rfl,U,ov,by rw[hsu];exact h3⟩,by rw[h4];simp only[aa,aM];omega⟩
 ·obtain rfl:k=8:=U
  simp only[go_sem,e3,e4];exact av.bQ aZ hcl ov (h3.dI fun i hi=>hi) hK
def wV:S1->Nat
 |.V _ _ _ n _=>n
 |_=>0
def tp {v:S1}(h:au lo H e v cs):wV v=cs.length:=by
 rcases h with ⟨rfl,rfl⟩|⟨_,_,_,_,rfl,_⟩<;>rfl
def wW (d:S5):List S1:=[.lit (.int .i64 d.X),.M d.I.length (aJ d.I),.lit (.int .u64 (d.Z:Int)),.M d.Q.length (aP d.Q)]
def tq (d:S5):S1:=.agg (wW d)
def fY (d:S5)(cs:List S1):List S1:=[.lit (.int .i64 d.X),.M d.I.length cs,.lit (.int .u64 (d.Z:Int)),.M d.Q.length (aP d.Q)]
def ct (d:S5)(cs:List S1):S1:=.agg (fY d cs)
def gL (d:S5)(cs:List S1):ct d cs=.agg (fY d cs):=rfl
def NC (d:S5):tq d=.agg (wW d):=rfl
def ND (d:S5)(cs:List S1)(hd:d.Z<2 ^ 64)(hl:(d.I.length:Int)<2 ^ 39)(H:S2)(K:S8->S2->Prop)(hK:K (.ret (af (aF (aC d)))) H):ae prog G0 68 [ct d cs] H K:=by
 refine ae.nl ⟨_,func68,rfl,rfl⟩ fun hcl=>?_;refine ae.st (n:=21) (rs:=[.tmp 2]) func68 ?_;simp only[go_sem,gL,fY];obtain⟨H1,hH1⟩:∃H1,H1=ext H [.L 0 39 [.lit (.int .i64 d.X),.M d.I.length cs,.lit (.int .u64 (d.Z:Int)),.M d.Q.length (aP d.Q)]]:=⟨_,rfl⟩
 have l1:=ag (show H1.get H.C=some (.L 0 39 [.lit (.int .i64 d.X),.M d.I.length cs,.lit (.int .u64 (d.Z:Int)),.M d.Q.length (aP d.Q)]) by rw[hH1];exact cS ..);have n1:H1.C=H.C+1:=hH1▸rfl
 have o1:S6 H H1:=hH1▸.ext _ _
 rw[<- hH1];refine W.aS 1048568 (by rfl) (fun ρ H'=>∃k:Nat,ρ 4=aa k/\k<=d.I.length/\S6 H1 H'/\au H1.C H' 3 (ρ 3) (ints (aF (dk d.Z k)))) (fun ρ H=>d.I.length-(iv (ρ 4)).toNat) ?_ ?_
 ·simp only[go_sem];exact⟨0,rfl,U,.refl _,.nil⟩
 rintro ρ H' ⟨k,h4,hk,ov,h3⟩;refine W.en (fun E=>E 1=.Y H.C 0 0 /\ E 3=ρ 3 /\ E 4=aa k) (by simp only[go_sem,h4]) fun E ⟨e1,e3,e4⟩=>?_
 refine W.vs ?_;have l2:=(ov.nn (g:=0) (by omega:H.C<H1.C)).trans l1;by_cases hb:(k:Int)<d.I.length
 ·have w1:=PD ((k:Int)+1) U;have hbl:(aF (dk d.Z k)).length<=k:=by simp only[aF,PR];exact pK
  have hsu:=sY d.Z k;simp only[go_sem,e1,e4,l2,hb];refine aH.nl (jS d.Z k hd _ _ ⟨trivial,?_⟩);by_cases hbit:d.Z.testBit k=true
  ·obtain⟨v',H2,hA,ov2,hO,hn2,_⟩:=gO (k:Int) ov h3 U;rw[PG hbit]at hsu;simp only[go_sem,e3,e4,hbit,w1,hA];exact⟨ov2.C,⟨k+1,rfl,U,ov2,by rw[hsu,show aF (dk d.Z k++[k])=aF (dk d.Z k)++[(k:Int)] by simp[aF]];exact hO⟩,by rw[h4];simp only[aa,aM];omega⟩
  ·rw[PC hbit]at hsu;have hbf:d.Z.testBit k=false:=(by simpa using hbit);simp only[go_sem,e3,e4,hbf,w1];exact⟨ov.C,⟨k+1,rfl,U,ov,by rw[hsu];exact h3⟩,by rw[h4];simp only[aa,aM];omega⟩
 ·have hke:k=d.I.length:=U
  rw[hke]at h3;simp only[go_sem,e1,e3,e4,l2,hb];exact av.bQ aZ hcl (o1.trans ov) (h3.dI fun i hi=>U) hK
def NH (g:Int)(ns:List S3)(hl:(ns.length:Int)<2 ^ 39)(hp:∀x∈ns,(x.F.length:Int)<2 ^ 39/\∀q∈x.F,0<=q/\q<64)(H:S2)(K:S8->S2->Prop)
  (hK:∀v H',S6 H H'->au H.C H' 36 v ((aX ns).map aG)->K (.ret v) H'):ae prog G0 42 [bS g ns] H K:=by
 refine ae.nl ⟨_,func42,rfl,rfl⟩ fun hcl=>?_;refine ae.st (n:=43) (rs:=[.tmp 2]) func42 ?_;simp only[go_sem,bS,cG];obtain⟨H1,hH1⟩:∃H1,H1=ext H [.L 0 64 [.lit (.int .i64 g),.M ns.length (aL ns)]]:=⟨_,rfl⟩
 have l1:H1.nn H.C 0=some (64,[.lit (.int .i64 g),.M ns.length (aL ns)]):=by rw[hH1];exact ag (cS ..)
 have n1:H1.C=H.C+1:=hH1▸rfl
 have o1:S6 H H1:=hH1▸.ext _ _
 rw[<- hH1];refine W.aS 4398046511096 (by rfl) (fun ρ H'=>∃k:Nat,ρ 4=aa k/\k<=ns.length/\ρ 1=.Y H.C 0 0/\S6 H1 H'/\au H1.C H' 36 (ρ 3) (((aX ns).take k).map aG)) (fun ρ H=>ns.length-(iv (ρ 4)).toNat) ?_ ?_
 ·simp only[go_sem];exact⟨0,rfl,U,.refl _,.nil⟩
 rintro ρ H' ⟨k,h4,hk,h1,ov,h3⟩;refine W.vs ?_;have l2:=(ov.nn (g:=0) (by omega:H.C<H1.C)).trans l1;by_cases hb:(k:Int)<ns.length
 ·obtain⟨x,hx⟩:=aw (l:=ns) (i:=k) U;have hne:=eo hx;have e1:=iI hx;obtain⟨xl,xr⟩:=hp x (PA hx);simp only[go_sem,h4,h1,l2,hb];refine W.aS 274877890656 (by rfl) (fun ρ' H2=>H2=H'/\∃j:Nat,ρ' 6=aa j/\j<=x.F.length/\ρ' 5=aG (bj (x.F.take j))) (fun ρ' H=>x.F.length-(iv (ρ' 6)).toNat) ?_ ?_
  ·simp only[go_sem];exact⟨0,rfl,U,rfl⟩
  rintro ρ' H2 ⟨rfl,j,h6,hj,h5⟩;refine W.vs ?_;by_cases hb2:(j:Int)<x.F.length
  ·obtain⟨q,hq⟩:=aw (l:=x.F) (i:=j) U;obtain⟨q0,q1⟩:=xr q (PA hq);obtain⟨u,rfl⟩:=PP q0;have hne2:=bg hq;have w1:=Ry (u:Int) U;have w2:=PD ((j:Int)+1) U;have b1:bj (x.F.take j)<2 ^ 64:=kK fun p hp=>by have:=xr p (P0 hp);omega
   have s1:=fun t x y=>hZ (P:=prog) (t:=t) (x:=x) (y:=y) (k':=.u64) (s:=u) U;have s2:=fun t x y=>fb (P:=prog) (t:=t) (x:=x) (y:=y) (b:=2 ^ u) b1 (Qk SY U);simp only[go_sem,h4,h1,l2,hb,hne,e1,h6,h5,hb2,hq,hne2,w1,w2,s1,s2];exact⟨⟨j+1,SX,U,by rw[aT hq,sV];rfl⟩,U⟩
  ·obtain⟨v',H3,hA,ov2,hO,hn2,_⟩:=BN (bj x.F) ov h3 (by simp[aX];omega);have w1:=PD ((k:Int)+1) U;rw[PF U]at h5;simp only[go_sem,h4,h1,l2,hb,hne,e1,h6,h5,hb2,w1,hA];refine⟨by have:=ov2.C;omega,⟨k+1,SX,U,ov2,?_⟩,U⟩;rw[aT (jW hx)];exact hO
 ·simp only[go_sem,h4,h1,l2,hb];rw[PF (by simp[aX];omega)]at h3;exact av.mk (o1.trans ov).C (hK _ _ (o1.trans ov) (h3.na U S0 fun _ _ _ _ _ _=>rfl))
def NI (ps:List Nat)(hl:ps.length<=60)(hp:∀p∈ps,p<2 ^ 64)(r:List Nat)(htp:dM ps=some r)(H:S2)(K:S8->S2->Prop)(hK:∀v H',S6 H H'->au H.C H' 3 v (ints (aF r))->K (.ret v) H'):ae prog G0 85 [eZ ps] H K:=by
 refine ae.nl ⟨_,func85,rfl,rfl⟩ fun hcl=>?_;refine ae.st (n:=40) (rs:=[.tmp 2]) func85 ?_;simp only[go_sem];refine W.aS 549755813880 (by rfl) (fun ρ H'=>∃(out:List Nat) (done:Nat),ρ 4=aG done/\done<2 ^ 64/\out.length<=ps.length/\S6 H H'/\au H.C H' 3 (ρ 3) (ints (aF out))/\fy ps (ps.length-out.length) out done=some r) (fun ρ H=>ps.length-wV (ρ 3)) ?_ ?_
 ·simp only[go_sem];exact⟨[],0,rfl,SY,SX,.refl _,.nil,htp⟩
 rintro ρ H' ⟨out,done,h4,hd,ho,ov,h3,ht⟩;refine W.en (fun E=>E 0=eZ ps /\ E 3=ρ 3 /\ E 4=aG done) (by simp only[go_sem,h4]) fun E ⟨e0,e3,e4⟩=>?_
 refine W.vs ?_;have hlen:=ti h3 (d:=some (.slice 3)) rfl;have hol:=tp h3;have nl:(aF out).length=out.length:=by simp[aF]
 rw[mL,aY,nl]at hlen;rw[aY,nl]at hol;by_cases hb:(out.length:Int)<ps.length
 ·simp only[go_sem,e0,e3,hlen,hb];have hk1:ps.length-out.length=(ps.length-(out.length+1))+1:=U
  refine W.aS 549755811896 (by rfl) (fun ρ2 H2=>H2=H'/\∃j:Nat,ρ2 5=aa j/\j<=ps.length/\ρ2 3=ρ 3/\ρ2 4=aG done/\∀v,v<j->gH ps done v=false) (fun ρ2 H=>ps.length-(iv (ρ2 5)).toNat) ?_ ?_
  ·simp only[go_sem,e3,e4];exact⟨0,rfl,U,fun v h=>absurd h (PS _)⟩
  rintro ρ2 H2 ⟨rfl,j,h5,hj,h3',h4',hno⟩;refine W.en (fun E2=>E2 0=eZ ps /\ E2 3=ρ 3 /\ E2 4=aG done /\ E2 5=aa j) (by simp only[go_sem,e0,h3',h4',h5]) fun E2 ⟨f0,f3,f4,f5⟩=>?_
  refine W.vs ?_;by_cases hb2:(j:Int)<ps.length
  ·obtain⟨p,hpj⟩:=aw (l:=ps) (i:=j) U;have hpj':(ps.map aG)[j]?=some (aG p):=(by rw[List.getElem?_map,hpj];rfl);have hne:=bg hpj';have s3:=fun t x y=>pZ (P:=prog) (t:=t) (x:=x) (y:=y) (a:=p) (b:=done);have w1:=PD ((j:Int)+1) U;have w2:=Ry (j:Int) U;have cont:gH ps done j=false->∀v,v<j+1->gH ps done v=false:=fun h v hv=>by
    rcases PZ v j with h'|h'
    ·exact hno v h'
    ·obtain rfl:v=j:=U;exact h
   have fe:gH ps done j=(!done.testBit j && decide (dv p done=0)):=(by unfold gH;rw[cw hpj]);simp only[go_sem,f0,f4,f5,hb2];refine aH.nl (xe done j hd U _ _ ⟨trivial,?_⟩);cases hbit:done.testBit j;rotate_left
   ·simp only[go_sem,f3,f4,f5,w1];exact⟨⟨j+1,rfl,U,cont (by rw[fe,hbit];rfl)⟩,by rw[h5];simp only[aa,aM];omega⟩
   by_cases hz:dv p done=0;rotate_left
   ·have hz':¬((dv p done:Nat):Int)=0:=U;simp only[go_sem,f0,f3,f4,f5,hb2,hpj',hne,s3,hz',w1];exact⟨⟨j+1,rfl,U,cont (by rw[fe,hbit];simp[hz])⟩,by rw[h5];simp only[aa,aM];omega⟩
   have hz':((dv p done:Nat):Int)=0:=U;have hnx:iJ ps done=some j:=BV U hno (by rw[fe,hbit];simp[hz]);obtain⟨v',H3,hA,ov2,hO,hn2,_⟩:=gO (j:Int) ov h3 (by simp[aF];omega);have b2:(2:Nat) ^ j<2 ^ 64:=Qk SY U;have s4:=fun t x y=>hZ (P:=prog) (t:=t) (x:=x) (y:=y) (k':=.u64) (s:=j) U;have s5:=fun t x y=>fb (P:=prog) (t:=t) (x:=x) (y:=y) hd b2;simp only[go_sem,f0,f3,f4,f5,hb2,hpj',hne,s3,s4,s5,hz',w2,hA];have hO':au H.C H3 3 v' (ints (aF (out++[j]))):=by
    have e:aF (out++[j])=aF out++[(j:Int)]:=(by simp[aF]);rw[e];exact hO
   have hol':=tp hO';have nl':(aF (out++[j])).length=out.length+1:=(by simp[aF]);rw[aY,nl']at hol';refine⟨ov2.C,⟨out++[j],done |||2 ^ j,rfl,Qw hd b2,by simp;omega,ov2,hO',?_⟩,by rw[hol,hol'];omega⟩;rw[<- ht,hk1]
   conv=>rhs;unfold fy
   rw[hnx,List.length_append];rfl
  ·have hnn:iJ ps done=none:=BW fun v hv=>hno v U;rw[hk1]at ht;unfold fy at ht;rw[hnn]at ht;cases ht
 ·simp only[go_sem,e0,e3,hlen,hb];have e:ps.length-out.length=0:=U
  rw[e]at ht;unfold fy at ht;cases ht;exact av.mk ov.C (hK _ _ ov h3)
def NJ {v:S1}{l:List Nat}(h:au lo H e v (l.map aG)):Tf H v (eZ l):=by
 rcases h with ⟨rfl,h⟩|⟨id,g,h1,h2,rfl,h4⟩
 ·have:l=[]:=by cases l with
   |nil=>rfl
   |cons a l=>simp at h
  subst this;exact .nil
 ·have e:eZ l=.M (l.map aG).length (l.map aG):=by rw[PR];rfl
  rw[e];refine .V h4 SX fun j hj h2 h'=>?_;simp only[Nat.zero_add,PK];exact .lit _
def NK (g:Int)(ns:List S3)(hl:ns.length<=8)(hp:∀x∈ns,(x.F.length:Int)<2 ^ 39/\∀q∈x.F,0<=q/\q<(ns.length:Int))(r:List Nat)(htp:dM (aX ns)=some r)(H:S2)(K:S8->S2->Prop)
  (hK:∀v H',S6 H H'->au H.C H' 3 v (ints (aF r))->K (.ret v) H'):ae prog G0 41 [bS g ns] H K:=by
 have hsl:(aX ns).length=ns.length:=by simp[aX]
 have hs64:∀p∈aX ns,p<2 ^ 64:=fun p h=>PL (tE (n:=ns.length) (fun x hx q hq=>(hp x hx).2 q hq) p h) (P7 SY U);refine ae.st (n:=6) (rs:=[.tmp 2]) func41 ?_;simp only[go_sem,bS,cG];refine aH.nl (BO g ns U (fun x hx=>⟨(hp x hx).1,fun q hq=>by have:=(hp x hx).2 q hq;omega⟩) _ _ ⟨trivial,?_⟩);simp only[go_sem];refine aH.nl (NI (aX ns) U hs64 r htp _ _ fun v H' ov ho=>⟨trivial,?_⟩);simp only[go_sem];have o1:S6 H H':=(S6.ext _ _).trans ov;exact av.mk o1.C (hK _ _ o1 (ho.na (by simp[bB]) S0 fun _ _ _ _ _ _=>rfl))
structure Ty where
 vars:Int
 w:List Int
def I8 (n:Int):Prop:=-128<=n/\n<128
def lU (l:List Int):List S1:=l.map fun n=>.lit (.int .i8 n)
def NF (h:l[k]?=some a):(lU l)[k]?=some (.lit (.int .i8 a)):=by unfold lU;rw[List.getElem?_map,h];rfl
def Ty.cells (x:Ty):List S1:=[.lit (.int .u8 x.vars),.M x.w.length (lU x.w)]
def Ty.Ok (x:Ty):Prop:=U8 x.vars/\(x.w.length:Int)<2 ^ 63/\∀b∈x.w,I8 b
def tt (p:Int)(k:Nat):Bool:=decide (IntKind.u8.wrap (((BitVec.ofInt IntKind.u8.bits (p.fdiv (2 ^ (min ((k:Int)).toNat IntKind.u8.bits))) &&& BitVec.ofInt IntKind.u8.bits 1).toNat:Nat):Int)=1)
def cR (p:Int):Nat->List Int
 |0=>[]
 |v+1=>if tt p v=true/\(cR p v).length<3 then cR p v++[(v:Int)] else cR p v
theorem tu (p:Int):∀n:Nat,(cR p n).Pairwise (·<·)/\(∀q∈cR p n,0<=q/\q<n)/\(cR p n).length<=3
 |0=>⟨by simp[cR],by simp[cR],by simp[cR]⟩
 |n+1=>by
  obtain⟨h1,h2,h3⟩:=tu p n;unfold cR;split
  ·rename_i h;refine⟨Rc.2 ⟨h1,SX,fun a ha b hb=>by obtain rfl:=List.mem_singleton.1 hb;exact(h2 a ha).2⟩,fun q hq=>?_,by simp;omega⟩;rcases PT.1 hq with h4|h4
   ·have:=h2 q h4;omega
   ·obtain rfl:=List.mem_singleton.1 h4;omega
  ·exact⟨h1,fun q hq=>by have:=h2 q hq;omega,h3⟩
def dy (p:Ty)(ns:List S3):Tl:=⟨cR p.vars ns.length,(List.range (aK (bd (ay ns) (cR p.vars ns.length))).toNat).map fun (i:Nat)=>if p.w.length=0 then 0 else (p.w.getD (i % p.w.length) 0).tmod 101⟩
def NG (p:Ty)(ns:List S3)(hc:∀x∈ns,1<=x.J):Tp ns (dy p ns):=by
 obtain⟨h1,h2,h3⟩:=tu p.vars ns.length;refine⟨⟨h1,h2⟩,?_,fun x hx=>?_⟩
 ·have hp:1<=aK (bd (ay ns) (cR p.vars ns.length)):=lL fun c h=>by
   unfold bd at h;obtain⟨q,hq,rfl⟩:=P3.1 h;have:=h2 q hq;obtain⟨x,hx⟩:=aw (l:=ns) (i:=q.toNat) U;rw[cw (dp hx)];exact hc x (PA hx)
  show ((List.map _ _).length:Int)=aK (bd (ay ns) (cR p.vars ns.length));rw[PR,Rf];omega
 ·unfold dy at hx;obtain⟨i,_,rfl⟩:=P3.1 hx;split
  ·omega
  ·have h:=Int.natAbs_tmod (p.w.getD (i % p.w.length) 0) 101;have h2:=Sl (p.w.getD (i % p.w.length) 0).natAbs (show (101:Int).natAbs > 0 by decide);have h3:(101:Int).natAbs=101:=rfl;rw[h3]at h h2;omega
def NL (p:Ty)(hp:p.Ok)(g:Int)(ns:List S3)(h5:1<=ns.length/\ns.length<=8)(hc:∀x∈ns,1<=x.J/\x.J<=4)(H:S2)(K:S8->S2->Prop)
  (hK:∀v1 v2 H',S6 H H'->au H.C H' 3 v1 (ints (dy p ns).vars)->au H.C H' 3 v2 (ints (dy p ns).w)->K (.ret (.agg [v1,v2])) H'):ae prog G0 44 [.agg p.cells,bS g ns] H K:=by
 refine ae.st (n:=70) (rs:=[.cell 4 85]) func44 ?_;simp only[go_sem,bS,cG,Ty.cells];obtain⟨H1,hH1⟩:∃H1,H1=ext H [.L 0 103 [.lit (.int .u8 p.vars),.M p.w.length (lU p.w)],.L 0 64 [.lit (.int .i64 g),.M ns.length (aL ns)],.L 0 85 [.lit (.slice none 0 0),.lit (.slice none 0 0)],.L 0 85 [.lit (.slice none 0 0),.lit (.slice none 0 0)]]:=⟨_,rfl⟩
 have g0:=eS hH1
 have g1:=gE hH1 1 rfl
 have g2:=gE hH1 2 rfl
 have g3:=gE hH1 3 rfl
 have n1:H1.C=H.C+4:=hH1▸rfl
 have o1:S6 H H1:=hH1▸.ext _ _
 rw[<- hH1];clear hH1;obtain⟨cs,hcs⟩:∃cs,cs=ay ns:=⟨_,rfl⟩
 have smk:∀k,k<=ns.length->eC (bd cs (cR p.vars k)):=fun k hk=>by
  obtain⟨h1,h2,h3⟩:=tu p.vars k;refine pV (by rw[jV];omega) fun c h=>?_;unfold bd at h;obtain⟨q,hq,rfl⟩:=P3.1 h;have:=h2 q hq;obtain⟨x,hx⟩:=aw (l:=ns) (i:=q.toNat) U;rw[hcs,cw (dp hx)];exact hc x (PA hx)
 refine W.aS 8796093021376 (by rfl) (fun ρ Hx=>∃(k:Nat) (v1:S1),ρ 7=aa k/\k<=ns.length/\ρ 6=aa (aK (bd cs (cR p.vars k)))/\H1.C<=Hx.C/\(∀id,id<H1.C->id≠H.C+3->Hx.get id=H1.get id)/\Hx.get (H.C+3)=some (.L 0 85 [v1,.lit (.slice none 0 0)])/\au H1.C Hx 3 v1 (ints (cR p.vars k))) (fun ρ H=>ns.length-(iv (ρ 7)).toNat) ?_ ?_
 ·simp only[go_sem];exact⟨0,_,rfl,U,rfl,g3,.nil⟩
 rintro ρ Hx ⟨k,v1,h7,hk,h6,hnx,hold,hu,hO⟩;refine W.en (fun E=>E 2=.Y H.C 0 0 /\ E 3=.Y (H.C+1) 0 0 /\ E 4=.Y (H.C+2) 0 0 /\ E 5=.Y (H.C+3) 0 0 /\ E 6=aa (aK (bd cs (cR p.vars k))) /\ E 7=aa k) (by simp only[go_sem,h6,h7]) fun E ⟨e2,e3,e4,e5,e6,e7⟩=>?_
 refine W.vs ?_;have l0:=ag ((hold _ U U).trans g0);have l1:=ag ((hold _ U U).trans g1);have l3:=ag hu;by_cases hb:(k:Int)<ns.length
 ·obtain⟨x,hx⟩:=aw (l:=ns) (i:=k) U;have hne:=eo hx;have c0:=jK hx;have w1:=PD ((k:Int)+1) U;obtain⟨r1,hr1⟩:∃r1,p.vars.fdiv (2 ^ (min ((k:Int)).toNat IntKind.u8.bits))=r1:=⟨_,rfl⟩
  obtain⟨r2,hr2⟩:∃r2,IntKind.u8.wrap (((BitVec.ofInt IntKind.u8.bits r1 &&& BitVec.ofInt IntKind.u8.bits 1).toNat:Nat):Int)=r2:=⟨_,rfl⟩
  have s1:∀t o1 o2,bh prog .shr t o1 o2 (.lit (.int .u8 p.vars)) (.lit (.int .i64 (k:Int)))=some (.lit (.int .u8 r1)):=fun t o1 o2=>by rw[tH U,hr1]
  have s2:∀t o1 o2,bh prog .and t o1 o2 (.lit (.int .u8 r1)) (.lit (.int .u8 1))=some (.lit (.int .u8 r2)):=fun t o1 o2=>by rw[tI,hr2]
  have hb8:tt p.vars k=decide (r2=1):=by unfold tt;rw[hr1,hr2]
  have hlen:=ti hO (d:=some (.slice 3)) rfl;rw[mL,aY]at hlen;obtain⟨u1,u2,u3⟩:=tu p.vars k;have hstep:cR p.vars (k+1)=if tt p.vars k=true/\(cR p.vars k).length<3 then cR p.vars k++[(k:Int)] else cR p.vars k:=rfl
  by_cases hr:r2=1
  ·by_cases h3:((cR p.vars k).length:Int)<3
   ·rw[PG ⟨by rw[hb8,QD hr],U⟩]at hstep;obtain⟨v',H3,hA,hO3,hn3,hp3⟩:=fT (P:=prog) (H:=Hx) (t:=59) (x:=aa k) (n:=Hx.C+1) Try.underlying59 Try.dx Try.dL rfl (by rw[Try.ei,aY];omega) hO hnx rfl;simp only[aa]at hA;have na:∀id,id<H1.C->H3.get id=Hx.get id:=fun id h=>hp3 id U (hO.ne h);have l1j:=ag ((na _ U).trans ((hold _ U U).trans g1));have l3j:=ag ((na _ U).trans hu);have hvc:=hO3.cells;have hvo:=hO3.one;have l1u:∀b,(H3.upd (H.C+3) b).nn (H.C+1) 0=some (64,[.lit (.int .i64 g),.M ns.length (aL ns)]):=fun b=>(qd U).trans l1j;have hpr:aK (bd cs (cR p.vars (k+1)))=aK (bd cs (cR p.vars k))*x.J:=by
     rw[hstep];unfold bd;rw[QQ,hcs];show aK (_++[(ay ns).getD ((k:Int)).toNat 0])=_;rw[fI,Int.toNat_natCast,cw (dp hx)]
    have hps:=(smk (k+1) U).prod;rw[hpr]at hps;have w2:=PD (aK (bd cs (cR p.vars k))*x.J) U;simp only[go_sem,e2,e3,e5,e6,e7,l0,l1,l3,l3j,hb,s1,s2,hr,hlen,h3,w1,w2,hne,c0,hA,hvc,hvo,l1u];refine⟨by rw[ar];omega,⟨k+1,v',rfl,U,by rw[hpr],by rw[ar];omega,fun id h1 h2=>by rw[ab,PC h2,na _ h1];exact hold id h1 h2,by rw[ab,PG rfl],?_⟩,by rw[h7];simp only[aa,aM];omega⟩;rw[hstep];have:=hO3.na (lo':=H1.C) (H':=H3.upd (H.C+3) (.L 0 85 [v',.lit (.slice none 0 0)])) S0 S0 fun id _ h1 _ _ _=>by rw[ab,PC U]
    simpa[ints,aa] using this
   ·rw[PC U]at hstep;simp only[go_sem,e2,e3,e5,e6,e7,l0,l1,l3,hb,s1,s2,hr,hlen,h3,w1];exact⟨hnx,⟨k+1,v1,rfl,U,by rw[hstep],hnx,hold,hu,by rw[hstep];exact hO⟩,by rw[h7];simp only[aa,aM];omega⟩
  ·rw[PC (by rw[hb8,QH hr];simp)]at hstep;simp only[go_sem,e2,e3,e6,e7,l0,l1,hb,s1,s2,hr,w1];exact⟨hnx,⟨k+1,v1,rfl,U,by rw[hstep],hnx,hold,hu,by rw[hstep];exact hO⟩,by rw[h7];simp only[aa,aM];omega⟩
 ·have hke:k=ns.length:=U
  simp only[go_sem,e3,e7,l1,hb];rw[hke]at hO e6;obtain⟨R,hR⟩:=PP (smk ns.length U).prod.1;have hR2:=(smk ns.length U).prod.2;rw[hR]at e6 hR2;have hwl:(dy p ns).w=(List.range R).map fun (i:Nat)=>if p.w.length=0 then 0 else (p.w.getD (i % p.w.length) 0).tmod 101:=by
   unfold dy;rw[<- hcs,hR];rfl
  have wget:∀(i:Nat) (x:Int),i<R->(if p.w.length=0 then 0 else (p.w.getD (i % p.w.length) 0).tmod 101)=x->(dy p ns).w[i]?=some x:=fun i x hi hx=>by
   rw[hwl,List.getElem?_map,SR hi,Option.map_some,hx]
  have wlen:(dy p ns).w.length=R:=by rw[hwl];simp
  refine W.aS 590295801562612630272 (by rfl) (fun ρ H2=>∃(i:Nat) (v2:S1),ρ 8=aa i/\i<=R/\Hx.C<=H2.C/\(∀id,id<Hx.C->id≠H.C+3->H2.get id=Hx.get id)/\H2.get (H.C+3)=some (.L 0 85 [v1,v2])/\au Hx.C H2 3 v2 (ints ((dy p ns).w.take i))) (fun ρ H=>R-(iv (ρ 8)).toNat) ?_ ?_
  ·simp only[go_sem];exact⟨0,_,rfl,U,hu,.nil⟩
  rintro ρ2 H2 ⟨i,v2,h8,hi,hn2,hold2,hu2,hO2⟩;refine W.en (fun E2=>E2 2=.Y H.C 0 0 /\ E2 4=.Y (H.C+2) 0 0 /\ E2 5=.Y (H.C+3) 0 0 /\ E2 6=aa R /\ E2 8=aa i) (by simp only[go_sem,e2,e4,e5,e6,h8]) fun E2 ⟨f2,f4,f5,f6,f8⟩=>?_
  refine W.vs ?_;have o02:∀id,id<H1.C->id≠H.C+3->H2.get id=H1.get id:=fun id h1 h2=>(hold2 id U h2).trans (hold id h1 h2);have m0:=ag ((o02 _ U U).trans g0);have m3:=ag hu2;by_cases hb2:(i:Int)<R
  ·have w1:=PD ((i : Int)+1) U;have hlen:=ti hO2 (d:=some (.slice 3)) rfl;rw [mL,aY] at hlen;have tl : ((dy p ns).w.take i).length=i:=(by rw [PQ,wlen];omega);have app : ∀ x : Int,(dy p ns).w[i]?=some x→∃ v' H3,bf prog (ext H2 [.L 0 3 [.lit (.int .i64 x)]]) (H2.C+1) 59 59 v2 (.V H2.C 0 0 1 1)=some (v',H3)∧v'.cells=[v']∧v'.one=true∧H3.nn (H.C+3) 0=some (85,[v1,v2])∧H2.C≤H3.C ∧
     ∀b,b=.L 0 85 [v1,v']->(∀id,id<Hx.C->id≠H.C+3->(H3.upd (H.C+3) b).get id=Hx.get id)/\(H3.upd (H.C+3) b).get (H.C+3)=some (.L 0 85 [v1,v'])/\au Hx.C (H3.upd (H.C+3) b) 3 v' (ints ((dy p ns).w.take (i+1))):=fun x hx=>by
    obtain⟨v',H3,hA,hO3,hn3,hp3⟩:=fT (P:=prog) (H:=H2) (t:=59) (x:=aa x) (n:=H2.C+1) Try.underlying59 Try.dx Try.dL rfl (by rw[Try.ei,aY];omega) hO2 hn2 rfl;simp only[aa]at hA;have na:∀id,id<Hx.C->H3.get id=H2.get id:=fun id h=>hp3 id U (hO2.ne h);refine⟨v',H3,hA,hO3.cells,hO3.one,ag ((na _ U).trans hu2),hn3,fun b hb=>⟨fun id h1 h2=>by rw[ab,PC h2,na _ h1];exact hold2 id h1 h2,by rw[ab,PG rfl,hb],?_⟩⟩;rw[aT hx];have:=hO3.na (lo':=Hx.C) (H':=H3.upd (H.C+3) b) S0 S0 fun id _ h1 _ _ _=>by rw[ab,PC U]
    simpa[ints,aa] using this
   by_cases hz:(0:Int)<p.w.length
   ·have hzn:¬(p.w.length:Int)=0:=U;have m1:(i:Int).tmod p.w.length=((i % p.w.length:Nat):Int):=(by rw[P8 U];rfl);have m2:=Sl i (show p.w.length > 0 by omega);obtain⟨q,hq⟩:∃q,q=i % p.w.length:=⟨_,rfl⟩
    rw[<- hq]at m1 m2;have hq0:(q:Int) >= 0:=U;have hql:(q:Int)<p.w.length:=U;obtain⟨b,hbg⟩:=aw (l:=p.w) (i:=q) m2;have b8:=hp.2.2 b (PA hbg);have hbg':=NF hbg;have hbne:=bg hbg';unfold I8 at b8;have w4:IntKind.i64.wrap b=b:=PD _ U;have tb:-9223372036854775808<=b.tmod 101/\b.tmod 101<9223372036854775808:=by
     have h:=Int.natAbs_tmod b 101;have h2:=Sl b.natAbs (show (101:Int).natAbs > 0 by decide);have h3:(101:Int).natAbs=101:=rfl;rw[h3]at h h2;omega
    have w5:IntKind.i64.wrap (b.tmod 101)=b.tmod 101:=PD _ U;obtain⟨v',H3,hA,hvc,hvo,l3,hn3,fin⟩:=app (b.tmod 101) (wget i _ U (by rw[PC U,<- hq,cw hbg]));simp only[go_sem,f2,f6,f8,m0,hb2,hz];refine W.dr 7 [0,1,0,0,8,24,60] mixed ?_;simp only[go_sem,f2,f5,f8,m0,m3,hzn,m1,hq0,hql,hbg',hbne,w1,w4,hA,hvc,hvo,l3];refine⟨by rw[ar];omega,⟨i+1,v',rfl,U,by rw[ar];omega,(fin _ rfl).1,(fin _ rfl).2.1,(fin _ rfl).2.2⟩,by rw[h8];simp only[aa,aM];omega⟩
   ·have hzn:p.w.length=0:=U;obtain⟨v',H3,hA,hvc,hvo,l3,hn3,fin⟩:=app 0 (wget i _ U (by rw[PG hzn]));simp only[go_sem,f2,f5,f6,f8,m0,m3,hb2,hz,w1,hA,hvc,hvo,l3];refine⟨by rw[ar];omega,⟨i+1,v',rfl,U,by rw[ar];omega,(fin _ rfl).1,(fin _ rfl).2.1,(fin _ rfl).2.2⟩,by rw[h8];simp only[aa,aM];omega⟩
  ·have hie:i=R:=U;have m2:=ag ((o02 _ U U).trans g2);have hO1:au H1.C H2 3 v1 (ints (cR p.vars ns.length)):=hO.na S0 hn2 fun id _ h1 h3 _ _=>hold2 id h3 U;have v1o:=hO1.one;have v2o:=hO2.one;have v1c:=hO1.cells;have v2c:=hO2.cells;rw[PF U]at hO2;simp only[go_sem,f4,f5,f6,f8,m2,m3,hb2,v1o,v2o];have k1:=hO1.na (lo':=H.C) (H':=H2.upd (H.C+2) (.L 0 85 [v1,v2])) U (by rw[ar];omega) fun id _ h1 _ _ _=>by rw[ab,PC U]
   have k2:=hO2.na (lo':=H.C) (H':=H2.upd (H.C+2) (.L 0 85 [v1,v2])) U (by rw[ar];omega) fun id _ h1 _ _ _=>by rw[ab,PC U]
   refine av.mk (by rw[ar];omega) (hK v1 v2 _ ⟨by rw[ar];omega,fun id h=>?_⟩ k1 k2);rw[ab,PC U,o02 id U U];exact o1.nf id h
structure TopoR (ps:List Nat)(r:List Nat):Prop where
 len:r.length=ps.length
 nd:r.Nodup
 no:∀v∈r,v<ps.length
 rk:∀(i v:Nat),r[i]?=some v->∀u,(ps.getD v 0).testBit u=true->∃j,j<i/\r[j]?=some u
def M5 (hp:∀p∈ps,p<2 ^ 64):∀(k:Nat) (out:List Nat) (done:Nat) (r:List Nat),fy ps k out done=some r->(∀i,done.testBit i=true↔i∈out)->out.Nodup->(∀v∈out,v<ps.length)->(∀(i v:Nat),out[i]?=some v->∀u,(ps.getD v 0).testBit u=true->∃j,j<i/\out[j]?=some u) ->
  r.length=out.length+k/\r.Nodup/\(∀v∈r,v<ps.length)/\(∀(i v:Nat),r[i]?=some v->∀u,(ps.getD v 0).testBit u=true->∃j,j<i/\r[j]?=some u):=by
 intro k
 induction k with
 |zero =>
  intro out done r h h1 h2 h3 h4;unfold fy at h;cases h;exact⟨rfl,h2,h3,h4⟩
 |succ k ih =>
  intro out done r h h1 h2 h3 h4;unfold fy at h;cases hn:iJ ps done with
  |none=>rw[hn]at h;cases h
  |some v =>
   rw[hn]at h;obtain⟨a,b,c⟩:=wK hp hn;have hvo:v ∉ out:=fun hm=>by rw[(h1 v).2 hm]at b;cases b
   obtain⟨e1,e2,e3,e4⟩:=ih (out++[v]) (done |||2 ^ v) r h (fun i=>by
    rw[fJ,PT,List.mem_singleton,QI,h1,decide_eq_true_eq];exact or_congr Iff.rfl eq_comm) (Sn.2 ⟨h2,SX,fun x hx y hy=>by obtain rfl:=List.mem_singleton.1 hy;rintro rfl;exact hvo hx⟩) (fun x hx=>by
    rcases PT.1 hx with hx|hx
    ·exact h3 x hx
    ·obtain rfl:=List.mem_singleton.1 hx;exact a) (fun i x hx u hu=>by
    have hl:=aI hx;rw[List.length_append,QK]at hl;rcases PZ i out.length with hi|hi
    ·rw[PJ hi]at hx;obtain⟨j,j1,j2⟩:=h4 i x hx u hu;exact⟨j,j1,by rw[PJ U];exact j2⟩
    ·obtain rfl:i=out.length:=U;simp only[SA,Option.some.injEq]at hx;subst hx;obtain⟨j,hj⟩:=PU.1 ((h1 u).1 (c u hu));exact⟨j,aI hj,by rw[PJ (aI hj)];exact hj⟩)
   exact⟨by rw[e1,List.length_append,QK];omega,e2,e3,e4⟩
def M6 (hp:∀p∈ps,p<2 ^ 64)(h:dM ps=some r):TopoR ps r:=by
 obtain⟨e1,e2,e3,e4⟩:=M5 hp ps.length [] 0 r h (fun i=>SX) SX SX SX;exact⟨by simpa using e1,e2,e3,e4⟩
def M7:∀(n:Nat) (l:List Nat),l.Nodup->(∀v∈l,v<n)->l.length<=n:=by
 intro n
 induction n with
 |zero=>intro l _ h;cases l with
  |nil=>simp
  |cons a l=>exact absurd (h a SX) (PS _)
 |succ n ih =>
  intro l hd h;have h1:=ih (l.erase n) (hd.erase n) fun v hv=>by
   have h2:=(hd.mem_erase_iff).1 hv;have:=h v h2.2;omega
  have h3:=List.length_erase (a:=n) (l:=l);split at h3<;>omega
def jj (r:List Nat)(i v:Nat):Prop:=∃j,j<i/\r[j]?=some v
def jj.up (h:jj r i v)(hk:i<=k):jj r k v:=h.imp fun j hj=>⟨U,hj.2⟩
structure TH (ns:List S3)(r:List Nat)(rem:Bool)(i known Z:Nat)(os:List Nat)(ms:List S3):Prop where
 J:ay ms=ay ns
 nf:∀v,Z.testBit v=false->ms[v]?=ns[v]?
 dec:∀v x,ms[v]?=some x->Z.testBit v=true->x.O=[]/\∃s j,x.F=dm s 8/\j<i/\r[j]?=some v/\∀u,s.testBit u=true->jj r j u
 decsb:∀v,Z.testBit v=true->jj r i v
 knownb:∀v,known.testBit v=true->jj r i v
 os3:os.length<=3
 osm:∀v,v∈os↔Z.testBit v=true
 osp:rem=true->os.Pairwise fun u v=>∀x y,ms[u]?=some x->ms[v]?=some y->Sub (bj x.F |||2 ^ u) (bj y.F)
 osk:rem=true->∀u∈os,∀x,ms[u]?=some x->Sub (bj x.F |||2 ^ u) known
variable {ms:List S3}
def TH.len (h:TH ns r rem i known Z os ms):ms.length=ns.length:=by
 have:=congrArg List.length h.J;simpa[ay] using this
def TH.start (ns:List S3)(r:List Nat)(rem:Bool):TH ns r rem 0 0 0 [] ns :=
 ⟨rfl,fun _ _=>rfl,fun v x _ h=>by simp at h,fun v h=>by simp at h,fun v h=>by simp at h,SX,fun v=>SX,fun _=>.nil,fun _ u hu=>by cases hu⟩
def TH.skip (h:TH ns r rem i known Z os ms):TH ns r rem (i+1) known Z os ms :=
 ⟨h.J,h.nf,fun v x hx hb=>by
  obtain⟨a,s,j,b,c,d⟩:=h.dec v x hx hb;exact⟨a,s,j,b,U,d⟩,fun v hb=>(h.decsb v hb).up U,fun v hb=>(h.knownb v hb).up U,h.os3,h.osm,h.osp,h.osk⟩
def Bi {s:Nat}(h:s<2 ^ 8):bj (dm s 8)=s:=by
 have h0:∀p∈dm s 8,0<=p:=fun p hp=>by obtain⟨v,rfl,_⟩:=nK.1 hp;omega
 refine Q1 fun i=>?_;rw[ji h0];cases hb:s.testBit i with
 |true=>exact QD (nK.2 ⟨i,rfl,kL h hb,hb⟩)
 |false =>
  refine QH fun hm=>?_;obtain⟨v,e,_,hv⟩:=nK.1 hm;obtain rfl:i=v:=U
  rw[hb]at hv;cases hv
def Bj (hr:∀v∈r,v<n)(h:jj r i v):v<n:=h.elim fun _ hj=>hr v (PA hj.2)
def tc {s:Nat}(hr:∀v∈r,v<n)(h:∀v,s.testBit v=true->jj r i v):s<2 ^ n:=wH fun v hv=>Bj hr (h v hv)
def TH.step (h:TH ns r rem i known Z os ms)(hr:TopoR (aX ns) r)(h8:ns.length<=8)(ho:os.length<3)(hv:r[i]?=some v)(hx:ns[v]?=some x){s:Nat}(hs:Sub s (bj x.F)):
  Z.testBit v=false/\v<ns.length/\(if rem then s |||known else s)<2 ^ ns.length /\
  TH ns r rem (i+1) (known |||(if rem then s |||known else s) |||2 ^ v) (Z |||2 ^ v) (os++[v]) (ms.set v ⟨x.J,dm (if rem then s |||known else s) 8,[]⟩):=by
 obtain⟨s',hs'⟩:∃s',s'=(if rem then s |||known else s):=⟨_,rfl⟩
 rw[<- hs'];have hsl:(aX ns).length=ns.length:=by simp[aX]
 have hrng:=hr.no;rw[hsl]at hrng;have hvn:=hrng v (PA hv);have hml:=h.len;have inj:∀j,r[j]?=some v->j=i:=fun j hj=>(Q3 (aI hj) hr.nd).1 (by rw[hj,hv]);have hdv:Z.testBit v=false:=by
  cases hb:Z.testBit v with
  |false=>rfl
  |true =>
   obtain⟨j,j1,j2⟩:=h.decsb v hb;have:=inj j j2;omega
 have sb:∀u,s.testBit u=true->jj r i u:=fun u hu=>hr.rk i v hv u (by rw[cw (jW hx)];exact hs u hu);have sb':∀u,s'.testBit u=true->jj r i u:=fun u hu=>by
  rw[hs']at hu;cases rem with
  |false=>exact sb u hu
  |true =>
   rw[PG rfl,Qg,QI]at hu;exact hu.elim (sb u) (h.knownb u)
 have hlt:=tc hrng sb';have hlt8:s'<2 ^ 8:=PL hlt (P7 SY h8);have selfv:(ms.set v ⟨x.J,dm s' 8,[]⟩)[v]?=some ⟨x.J,dm s' 8,[]⟩:=PO U;have othv:∀u,u≠v->(ms.set v ⟨x.J,dm s' 8,[]⟩)[u]?=ms[u]?:=fun u hu=>PY (fun e=>hu e.symm);have osv:v ∉ os:=fun hm=>by rw[(h.osm v).1 hm]at hdv;cases hdv
 refine⟨hdv,hvn,hlt,⟨?_,fun u hu=>?_,fun u y hy hu=>?_,fun u hu=>?_,fun u hu=>?_,by simp;omega,fun u=>?_,fun hrem=>?_,fun hrem u hu y hy=>?_⟩⟩
 ·rw[<- h.J];unfold ay;rw[Sb];apply Qn;intro k;rw[Rw];split
  ·rename_i e;subst e;have:=h.J;have h1:(ay ms)[v]?=(ay ns)[v]?:=(by rw[this]);rw[PG (by rw[PR];omega)];rw[dp hx]at h1;exact h1.symm
  ·rfl
 ·rw[fJ,Bool.or_eq_false_iff,Ri]at hu;rw[othv u (fun e=>hu.2 e.symm)];exact h.nf u hu.1
 ·by_cases e:u=v
  ·subst e;rw[selfv]at hy;cases hy;exact⟨rfl,s',i,rfl,U,hv,sb'⟩
  ·rw[othv u e]at hy;rw[fJ,QI,decide_eq_true_eq]at hu;obtain⟨a,s2,j,b,c,d⟩:=h.dec u y hy (hu.resolve_right fun e'=>e e'.symm);exact⟨a,s2,j,b,U,d⟩
 ·rw[fJ,QI,decide_eq_true_eq]at hu;rcases hu with hu|rfl
  ·exact(h.decsb u hu).up (U)
  ·exact⟨i,U,hv⟩
 ·rw[fJ,Qg,QI,QI,decide_eq_true_eq]at hu;rcases hu with (hu|hu)|rfl
  ·exact(h.knownb u hu).up (U)
  ·exact(sb' u hu).up (U)
  ·exact⟨i,U,hv⟩
 ·rw[fJ,PT,List.mem_singleton,h.osm,QI,decide_eq_true_eq];exact or_congr Iff.rfl eq_comm
 ·refine Rc.2 ⟨(h.osp hrem).imp_of_mem fun {a b} ha hb hab p q hp hq=>?_,SX,fun a ha b hb p q hp hq=>?_⟩
  ·rw[othv a (fun e=>osv (e ▸ ha))]at hp;rw[othv b (fun e=>osv (e ▸ hb))]at hq;exact hab p q hp hq
  ·obtain rfl:=List.mem_singleton.1 hb;rw[othv a (fun e=>osv (e ▸ ha))]at hp;rw[selfv]at hq;cases hq;rw[show bj (⟨x.J,dm s' 8,[]⟩:S3).F=s' from Bi hlt8,hs',PG hrem];exact(h.osk hrem a ha p hp).trans (Sub.right _ _)
 ·rcases PT.1 hu with hu|hu
  ·rw[othv u (fun e=>osv (e ▸ hu))]at hy;exact((h.osk hrem u hu y hy).trans (Sub.left _ _)).trans (Sub.left _ _)
  ·obtain rfl:=List.mem_singleton.1 hu;rw[selfv]at hy;cases hy;rw[show bj (⟨x.J,dm s' 8,[]⟩:S3).F=s' from Bi hlt8];exact Sub.or ((Sub.right known s').trans (Sub.left _ _)) (Sub.right _ _)
structure DrI (rem:Bool)(d:S5):Prop where
 ok:Tj d
 n5:d.I.length<=5
 O:∀v x,d.I[v]?=some x->d.Z.testBit v=false->x.O≠[]
 os:∃os:List Nat,os.length<=3/\(∀v,v∈os↔d.Z.testBit v=true)/\(rem=true->os.Pairwise fun u v=>∀x y,d.I[u]?=some x->d.I[v]?=some y->Sub (bj x.F |||2 ^ u) (bj y.F))
def Bk (h:To g ns):∀x∈ns,x.O≠[]:=fun x hx he=>by
 have h1:=(h.O x hx).1;have h2:=lL (l:=bc ns x) fun c hc=>(nO (fun q hq=>by have:=(h.node x hx).2.2 q hq;omega) (fun y hy=>(h.node y hy).1) c hc).1;rw[he]at h1;simp at h1;omega
def TH.fin (h:TH ns r rem i known Z os ms)(hn:To g ns)(hr:TopoR (aX ns) r)(h5:ns.length<=5){us:List Tl}(hul:us.length<=4)(hus:∀u∈us,Tp ns u):
  DrI rem ⟨g,ms,Z,us⟩:=by
 have hsl:(aX ns).length=ns.length:=by simp[aX]
 have hrng:=hr.no;rw[hsl]at hrng;have hml:=h.len;have hdl:Z<2 ^ ns.length:=tc hrng h.decsb;have getN:∀(v:Nat) (x:S3),ms[v]?=some x->∃y,ns[v]?=some y/\y.J=x.J:=fun v x hx=>by
  obtain⟨y,hy⟩:=aw (l:=ns) (i:=v) (by have:=aI hx;omega);refine⟨y,hy,?_⟩;have h1:(ay ms)[v]?=(ay ns)[v]?:=by rw[h.J]
  rw[dp hx,dp hy]at h1;exact(Option.some.inj h1).symm
 have hcard:∀x∈ms,1<=x.J/\x.J<=4:=fun x hx=>by
  obtain⟨v,hv⟩:=PU.1 hx;obtain⟨y,hy,e⟩:=getN v x hv;rw[<- e];exact(hn.node y (PA hy)).1
 have hpl:∀(v:Nat) (x:S3),ms[v]?=some x->bG x.F ms.length:=fun v x hx=>by
  cases hb:Z.testBit v with
  |false =>
   rw[h.nf v hb]at hx;have:=(hn.node x (PA hx)).2;rw[hml];exact this
  |true =>
   obtain⟨_,s,j,e,_,_,hs⟩:=h.dec v x hx hb;rw[e];refine⟨NB _ _,fun q hq=>?_⟩;obtain⟨u,rfl,_,hu⟩:=nK.1 hq;have:=Bj hrng (hs u hu);rw[hml];omega
 have hR:Te ⟨g,ms,Z,us⟩:=⟨by show 1<=ms.length/\ms.length<=8;rw[hml];exact hn.n1,by show Z >>> ms.length=0;rw[hml,RV];exact Nat.div_eq_of_lt hdl,hcard,fun v x hx hb=>⟨(h.dec v x hx hb).1,hpl v x hx⟩⟩
 have hperm:TB ns.length (aF r):=⟨by rw[show (aF r).length=r.length by simp[aF],hr.len,hsl],by
  unfold aF;exact List.Pairwise.map _ (R:=(·≠·)) (fun a b h e=>h U) hr.nd,fun q hq=>by
  obtain⟨v,hv,rfl⟩:=P3.1 hq;have:=hrng v hv;omega⟩
 have natg:∀(j v:Nat),(aF r)[j]?=some (v:Int)↔r[j]?=some v:=fun j v=>by
  unfold aF;rw[List.getElem?_map,an];exact⟨fun ⟨a,h1,h2⟩=>by rw[h1];congr 1;omega,fun h1=>⟨v,h1,rfl⟩⟩
 have hacy:jM (aX ms):=by
  refine Bv (P:=aF r) (by rw[hml];exact hperm) (fun v hv=>?_) fun j v x hj hx q hq=>?_
  ·refine Qa fun hno=>?_;rw[hml]at hv;have hsub:(v :: r).length<=ns.length:=by
    have hnd:(v :: r).Nodup:=Rq.2 ⟨fun hm=>hno (P3.2 ⟨v,hm,rfl⟩),hr.nd⟩;exact M7 ns.length _ hnd fun u hu=>by
     rcases List.mem_cons.1 hu with rfl|hu
     ·exact hv
     ·exact hrng u hu
   rw[List.length_cons,hr.len,hsl]at hsub;omega
  ·have q0:=((hpl v x hx).2 q hq).1;refine⟨q0,?_⟩;have hj':=(natg j v).1 hj;obtain⟨u,rfl⟩:=PP q0;cases hb:Z.testBit v with
   |false =>
    rw[h.nf v hb]at hx;obtain⟨k,k1,k2⟩:=hr.rk j v hj' u (by
     rw[cw (jW hx),ji fun p hp=>((hn.node x (PA hx)).2.2 p hp).1];exact QD hq)
    exact⟨k,k1,(natg k u).2 k2⟩
   |true =>
    obtain⟨_,s,j',e,_,hj2,hs⟩:=h.dec v x hx hb;rw[e]at hq;obtain⟨u',eu,_,hu⟩:=nK.1 hq;obtain rfl:u=u':=U;obtain rfl:j'=j:=(Q3 (aI hj2) hr.nd).1 (by rw[hj2,hj']);obtain⟨k,k1,k2⟩:=hs u hu;exact⟨k,k1,(natg k u).2 k2⟩
 have hpc:∀x,bc ms x=bc ns x:=fun x=>by unfold bc;rw[h.J]
 refine⟨⟨hR,⟨hn.g1,by rw[lW];exact hR.n1,fun y hy=>?_,?_,by rw[Ob];exact hacy,fun y hy=>?_⟩,hul,fun u hu=>?_⟩,by show ms.length<=5;omega,fun v x hx hb=>?_,os,h.os3,h.osm,h.osp⟩
 ·obtain⟨v,x,hx,rfl⟩:=xa hy;rw[(lO ..).1,(lO ..).2,lW];exact⟨hcard x (PA hx),hpl v x hx⟩
 ·rw[tz];show aK (ay ms)<=1024;rw[h.J];exact hn.size
 ·obtain⟨v,x,hx,rfl⟩:=xa hy;have hcx:=hcard x (PA hx);have hx':ms[v]?=some x:=hx;unfold fa;rw[w6];by_cases hb:Z.testBit v=true
  ·rw[w7 hx hb];have x1:=(hR.dec v x hx hb).1;have hsm:=(lY (x:=x) (ns:=ms) hR.n1.2 (hpl v x hx) hcard).prod;refine⟨?_,fun q hq=>?_⟩
   ·show ((x.O++eL g ms (fun _ _=>0) _ x).length:Int)=aK (bc ms x);rw[x1];simp only[eL,List.nil_append,PR,Rf,cZ];omega
   ·rw[show ({ x with O:=x.O++eL g ms (fun _ _=>0) (cM Z v) x }:S3).O=x.O++eL g ms (fun _ _=>0) (cM Z v) x from rfl,x1,List.nil_append]at hq;unfold eL at hq;obtain⟨i,hi,rfl⟩:=P3.1 hq;have:=hn.g1;exact Oa (by show 0<=g;omega) ⟨Int.le_refl 0,by show (0:Int)<x.J;omega⟩
  ·rw[pP hb];have hb':Z.testBit v=false:=(by simpa using hb);rw[h.nf v hb']at hx';have:=hn.O x (PA hx');unfold fa at this;show (x.O.length:Int)=aK (bc ms x)/\_;rw[hpc];exact this
 ·have:=hus u hu;exact⟨by show bG u.vars ms.length;rw[hml];exact this.vars,by show _=aK (bd (ay ms) u.vars);rw[h.J];exact this.size,this.w⟩
 ·have hx':ms[v]?=some x:=hx;rw[h.nf v hb]at hx';exact Bk hn x (PA hx')
end Go.Proofs
