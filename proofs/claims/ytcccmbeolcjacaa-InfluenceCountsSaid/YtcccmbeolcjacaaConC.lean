/- Own work: contracts. -/
import Derived.Test.YtcccmbeolcjacaaConB
set_option linter.all false
set_option maxHeartbeats 8000000
set_option maxRecDepth 100000
namespace Go.Proofs
open Go.Hx Try
variable {rem:Bool}{a b g:Int}{P l:List Int}{os ps r:List Nat}{cs:List Ty}{i k known lo n nn nx u v:Nat}{S:Nat->Prop}{e:TypeId}{H:Tz}
def lZ (h:∀x∈l,0<=x):0<=l.sum:=by
 induction l with
 |nil=>simp
 |cons a l ih =>
  rw[RT];have:=h a Tu;have:=ih fun x hx=>h x (by simp[hx]);omega
def Bq (h:l[i]?=some a):(l.set i b).sum=l.sum-a+b:=by
 induction l generalizing i with
 |nil=>simp at h
 |cons x l ih =>
  cases i with
  |zero=>simp at h;subst h;simp only[List.set_cons_zero,RT];omega
  |succ i =>
   simp only[List.set_cons_succ,RT];rw[ih (by simpa using h)];omega
def Nw (h:∀x∈l,0<=x/\x<=b):l.sum<=b*l.length:=by
 induction l with
 |nil=>simp
 |cons a l ih =>
  rw[RT,List.length_cons];have:=(h a Tu).2;have:=ih fun x hx=>h x (by simp[hx]);rw[show b*((l.length+1:Nat):Int)=b*l.length+b by rw[Int.natCast_add,Sw];simp];omega
def wF (n:Nat)(bs:List Int)(from':Int):List Int:=(List.range n).map fun (k:Nat)=>if bs.length=0 then 0 else bs.getD ((from'+(k:Int)) % (bs.length:Int)).toNat 0 % 8
def Br (n:Nat)(bs:List Int)(from':Int):(wF n bs from').length=n:=by simp[wF]
def Bs (bs:List Int)(from':Int)(h:k<n):(wF n bs from')[k]?=some (if bs.length=0 then 0 else bs.getD ((from'+(k:Int)) % (bs.length:Int)).toNat 0 % 8):=by
 unfold wF;rw[List.getElem?_map,Tp h];rfl
def Nx (n:Nat)(bs:List Int)(from':Int):∀x∈wF n bs from',0<=x/\x<=7:=fun x hx=>by
 unfold wF at hx;obtain⟨k,_,rfl⟩:=Qm.1 hx;split<;>omega
def tn (g s:Int)(st:List Int × Nat)(m:Nat):List Int × Nat:=if 0<st.1.getD m 0 then (st.1.set m (g*st.1.getD m 0 / s),m) else st
def gS (g:Int)(c:List Int)(m:Nat):List Int × Nat:=(List.range m).foldl (tn g c.sum) (c,0)
def Bt (g:Int)(c:List Int)(m:Nat):gS g c (m+1)=tn g c.sum (gS g c m) m:=by unfold gS;rw[Rg,Rf];rfl
def k9 (g:Int)(n:Nat)(bs:List Int)(from':Int):List Int:=(gS g (wF n bs from') n).1.set (gS g (wF n bs from') n).2 ((gS g (wF n bs from') n).1.getD (gS g (wF n bs from') n).2 0+(g-(gS g (wF n bs from') n).1.sum))
structure RInv (g:Int)(c:List Int)(m:Nat)(d:List Int)(last:Nat):Prop where
 dl:d.length=c.length
 d0:∀x∈d,0<=x
 dd:d.drop m=c.drop m
 dg:(d.take m).sum<=g
 ds:c.sum*(d.take m).sum<=g*(c.take m).sum
 la:last<c.length
def Bu {c:List Int}(hg:1<=g)(hc:∀x∈c,0<=x)(hl:0<c.length):∀m,m<=c.length->RInv g c m (gS g c m).1 (gS g c m).2:=by
 intro m
 induction m with
 |zero=>intro _;exact⟨rfl,hc,rfl,by simp;omega,Tu,hl⟩
 |succ m ih =>
  intro hm;obtain⟨hdl,hd0,hdd,hdg,hds,hla⟩:=ih U;rw[Bt];generalize gS g c m=st at *
  obtain⟨d,last⟩:=st;simp only at hdl hd0 hdd hdg hds hla;obtain⟨x,hcx⟩:=az (l:=c) (i:=m) U;have hx0:=hc x (an hcx);have hdx:d[m]?=some x:=by
   have h1:(d.drop m)[0]?=d[m]?:=(by rw[RL];rfl);have h2:(c.drop m)[0]?=c[m]?:=(by rw[RL];rfl);rw[<- h1,hdd,h2,hcx]
  have hdd':d.drop (m+1)=c.drop (m+1):=by
   have:=congrArg (List.drop 1) hdd
   rwa [RI,RI]at this
  have hct:(c.take (m+1)).sum=(c.take m).sum+x:=by rw[aO hcx];simp
  have hcs:(c.take (m+1)).sum+(c.drop (m+1)).sum=c.sum:=by rw[<- S4,Qq]
  have hcd0:=lZ (l:=c.drop (m+1)) fun y hy=>hc y (QV hy);have hc00:=lZ (l:=c.take m) fun y hy=>hc y (Qk hy);have hd00:=lZ (l:=d.take m) fun y hy=>hd0 y (Qk hy);unfold tn;rw[cB hdx];by_cases hx:0<x
  ·rw[PZ hx];have gx:0<=g*x:=Ry U hx0;have y0:0<=g*x / c.sum:=SE gx U;have y2:c.sum*(g*x / c.sum)<=g*x:=Tn U;have dt:((d.set m (g*x / c.sum)).take (m+1)).sum=(d.take m).sum+g*x / c.sum:=by
    rw[aO (Qa U),Sl Tx];simp
   have hs2:c.sum*((d.take m).sum+g*x / c.sum)<=g*(c.take (m+1)).sum:=by
    rw[Sw,hct,Sw];omega
   have hle:(d.take m).sum+g*x / c.sum<=g:=by
    have h1:g*(c.take (m+1)).sum<=g*c.sum:=Qx U U;have h2:c.sum*((d.take m).sum+g*x / c.sum)<=c.sum*g:=(by rw[Sa c.sum g];omega);exact S9 h2 (U)
   refine⟨by simp[hdl],fun y hy=>?_,?_,by dsimp only;rw[dt];exact hle,by dsimp only;rw[dt];exact hs2,by dsimp only;omega⟩
   ·rcases Qr hy with h|h
    ·exact hd0 y h
    ·omega
   ·rw[<- hdd',List.drop_set_of_lt U]
  ·rw[PX hx];have x0:x=0:=U;have dt:(d.take (m+1)).sum=(d.take m).sum:=(by rw[aO hdx,x0];simp);rw[x0,SY]at hct;exact⟨hdl,hd0,hdd',by dsimp only;rw[dt];exact hdg,by dsimp only;rw[dt,hct];exact hds,hla⟩
def Ny (hg:1<=g)(hn:1<=n)(bs:List Int)(from':Int):ik g n (k9 g n bs from'):=by
 have hw:=Br n bs from';have I:=Bu (g:=g) (c:=wF n bs from') hg (fun x hx=>(Nx n bs from' x hx).1) U n U;unfold k9;generalize gS g (wF n bs from') n=st at *
 obtain⟨d,last⟩:=st;obtain⟨hdl,hd0,hdd,hdg,hds,hla⟩:=I;dsimp only at hdl hd0 hdd hdg hds hla ⊢;obtain⟨y,hy⟩:=az (l:=d) (i:=last) U;have y0:=hd0 y (an hy);rw[cB hy];rw[PY U]at hdg;have hs:(d.set last (y+(g-d.sum))).sum=g:=by rw[Bq hy];omega
 have h0:∀w∈d.set last (y+(g-d.sum)),0<=w:=fun w hw=>by
  rcases Qr hw with h|h
  ·exact hd0 w h
  ·omega
 exact⟨by simp[hdl,hw],fun w hw=>⟨h0 w hw,by have:=xm h0 w hw;omega⟩,hs⟩
def Nz (g:Int)(n:Nat)(hg:1<=g/\g<=60)(hn:1<=n/\n<=4)(bs:List Int)(hbl:(bs.length:Int)<2 ^ 63)(hb8:∀x∈bs,U8 x)(from':Int)(hf:0<=from'/\from'<=1000000)(H:Tz)(K:TF->Tz->Prop)(hK:∀v H',TC H H'->ay H.C H' 3 v (ints (k9 g n bs from'))->K (.ret v) H'):
  af prog G0 84 [aa g,aa n,.M bs.length (bM bs),aa from'] H K:=by
 refine af.nl ⟨_,func84,rfl,rfl⟩ fun hcl=>?_;refine af.st (n:=84) (rs:=[.tmp 8]) func84 ?_;simp only[go_sem];refine⟨U,?_⟩;refine W.aM 35184371960832 (by rfl) (fun ρ H'=>∃(k:Nat) (c:List Int),ρ 11=aa k/\k<=n/\c.length=n/\(∀x∈c,0<=x/\x<=7)/\(∀j x,k<=j->c[j]?=some x->x=0)/\(∀j,j<k->c[j]?=(wF n bs from')[j]?)/\ρ 10=aa c.sum/\T4 H H' H.C c) (fun ρ H=>n-(iv (ρ 11)).toNat) ?_ ?_
 ·simp only[go_sem];refine⟨0,List.replicate n 0,rfl,U,Tu,fun x hx=>?_,fun j x _ hx=>?_,fun j hj=>U,Tu,?_⟩
  ·have:=Qv hx;omega
  ·exact Qv (an hx)
  ·exact .new [] _
 rintro ρ H' ⟨k,c,h11,hk,hcl',hc7,hc0,hcw,h10,ho⟩;refine W.en (fun E=>E 0=aa g /\ E 1=aa n /\ E 2=.M bs.length (bM bs) /\ E 3=aa from' /\ E 9=.V H.C 0 0 n 1 /\ E 10=aa c.sum /\ E 11=aa k) (by simp only[go_sem,h10,h11]) fun E ⟨e0,e1,e2,e3,e9,e10,e11⟩=>?_
 refine W.vs ?_;have lN:=ho.Z;have hs0:=lZ fun x hx=>(hc7 x hx).1;have hs1:=Nw hc7;by_cases hb:(k:Int)<n
 ·have hck:c[k]?=some 0:=by
   obtain⟨a,ha⟩:=az (l:=c) (i:=k) U;rw[ha,hc0 k a Tx ha]
  have hcne:=bb hck;have hk0:(k:Int) >= 0:=U
  have w1:=PW ((k:Int)+1) U;by_cases hz:(0:Int)<bs.length
  ·have hzn:¬(bs.length:Int)=0:=U;have w2:=PW (from'+k) U;have m1:(from'+(k:Int)).tmod bs.length=(from'+k) % bs.length:=Qp U;have m2:=QY (from'+k) hzn;have m3:=QS (from'+k) hz;obtain⟨q,hq⟩:=Qb m2;have hq0:(q:Int) >= 0:=U;have hql:(q:Int)<bs.length:=U;obtain⟨b,hbg⟩:=az (l:=bs) (i:=q) U;have b8:=hb8 b (an hbg);have hbg':=sS hbg;have hbne:=bb hbg';have t1:b.tmod 8=b % 8:=Qp b8.1;have w3:IntKind.u8.wrap (b % 8)=b % 8:=Tc _ U;have w4:IntKind.i64.wrap (b % 8)=b % 8:=PW _ U;have w5:=PW (c.sum+b % 8) U;have hsg:(setAt (ints c) k [.lit (.int .i64 (b % 8))])[k]?=some (.lit (.int .i64 (b % 8))):=by
    rw[ij U,gF,Qa U];rfl
   simp only[go_sem,hsg,e1,e2,e3,e9,e10,e11,hb,hz,hzn,w1,w2,m1,hq,hq0,hql,hbg',hbne,t1,w4,w5,hk0,lN];refine⟨U,by have:=ho.hi;rw[aq];omega,⟨k+1,c.set k (b % 8),rfl,U,by simp[hcl'],fun x hx=>?_,fun j x hj hx=>?_,fun j hj=>?_,by rw[Bq hck,Int.sub_zero],ho.store U _⟩,by rw[h11];simp only[aa,aK];omega⟩
   ·rcases Qr hx with h|h
    ·exact hc7 x h
    ·omega
   ·rw[Qh U]at hx;exact hc0 j x U hx
   ·by_cases hjk:j=k
    ·subst hjk;rw[Qa U,Bs bs from' U,PX U,hq,Int.toNat_natCast,cB hbg]
    ·rw[Qh U];exact hcw j (U)
  ·have w5:=PW (c.sum+0) U;rw[SY]at w5;simp only[go_sem,e1,e2,e9,e10,e11,hb,hz,w1,w5,SY,hk0,hck,lN];refine⟨by have:=ho.hi;omega,⟨k+1,c,rfl,U,hcl',hc7,fun j x hj hx=>hc0 j x U hx,fun j hj=>by
    by_cases hjk:j=k
    ·subst hjk;rw[hck,Bs bs from' U,PZ U]
    ·exact hcw j U,rfl,ho⟩,by rw[h11];simp only[aa,aK];omega⟩
 ·obtain rfl:k=n:=U
  simp only[go_sem,e1,e11,hb];have hcwF:c=wF k bs from':=by
   apply QC;intro j;rcases Ql j k with h|h
   ·exact hcw j h
   ·rw[P7 U,P7 (by rw[Br];exact h)]
  have hRI:=fun m (hm:m<=k)=>Bu (g:=g) (c:=c) hg.1 (fun x hx=>(hc7 x hx).1) U m U;refine W.aM 18889465861109836705792 (by rfl) (fun ρ H2=>∃(m last:Nat) (d:List Int),ρ 14=aa m/\m<=k/\gS g c m=(d,last)/\ρ 12=aa (g-(d.take m).sum)/\ρ 13=aa last/\H'.C<=H2.C/\T4 H H2 H.C d) (fun ρ H=>k-(iv (ρ 14)).toNat) ?_ ?_
  ·simp only[go_sem,e0];exact⟨0,0,c,rfl,U,rfl,Tu,rfl,ho⟩
  rintro ρ2 H2 ⟨m,last,d,h14,hm,hrf,h12,h13,hnn,hod⟩;obtain⟨hdl,hd0,hdd,hdg,hds,hlast⟩:RInv g c m d last:=by have:=hRI m hm;rw[hrf]at this;exact this
  rw[hcl']at hdl hlast;have hrs:=Bt g c m;rw[hrf]at hrs;unfold tn at hrs;dsimp only at hrs;refine W.en (fun E2=>E2 0=aa g /\ E2 1=aa k /\ E2 9=.V H.C 0 0 k 1 /\ E2 10=aa c.sum /\ E2 12=aa (g-(d.take m).sum) /\ E2 13=aa last /\ E2 14=aa m) (by simp only[go_sem,e0,e1,e9,e10,h12,h13,h14]) fun E2 ⟨f0,f1,f9,f10,f12,f13,f14⟩=>?_
  refine W.vs ?_;have lN2:=hod.Z;by_cases hb2:(m:Int)<k
  ·obtain⟨x,hcx⟩:=az (l:=c) (i:=m) U;have hx7:=hc7 x (an hcx);have hdx:d[m]?=some x:=by
    have h1:(d.drop m)[0]?=d[m]?:=(by rw[RL];rfl);have h2:(c.drop m)[0]?=c[m]?:=(by rw[RL];rfl);rw[<- h1,hdd,h2,hcx]
   have hdne:=bb hdx;have hm0:(m:Int) >= 0:=U;have w1:=PW ((m:Int)+1) U;have hdd':d.drop (m+1)=c.drop (m+1):=by
    have:=congrArg (List.drop 1) hdd
    rwa [RI,RI]at this
   have hct:(c.take (m+1)).sum=(c.take m).sum+x:=(by rw[aO hcx];simp);have hcs:(c.take (m+1)).sum+(c.drop (m+1)).sum=c.sum:=(by rw[<- S4,Qq]);have hcd0:=lZ (l:=c.drop (m+1)) fun y hy=>(hc7 y (QV hy)).1;have hc00:=lZ (l:=c.take m) fun y hy=>(hc7 y (Qk hy)).1;have hd00:=lZ (l:=d.take m) fun y hy=>hd0 y (Qk hy);by_cases hx:0<x
   ·have hsz:¬c.sum=0:=U;have gx:0<=g*x:=Ry U hx7.1;have gx2:g*x<=60*7:=QI hg.2 hx7.2 hx7.1 U;have w2:=PW (g*x) U;have t1:(g*x).tdiv c.sum=g*x / c.sum:=Sn gx;have y0:0<=g*x / c.sum:=SE gx hs0;have y1:g*x / c.sum<=g*x:=S1 _ gx;have y2:c.sum*(g*x / c.sum)<=g*x:=Tn U;have w3:=PW (g*x / c.sum) U;have w4:=PW (g-(d.take m).sum-g*x / c.sum) U;have hsg:(setAt (ints d) m [.lit (.int .i64 (g*x / c.sum))])[m]?=some (.lit (.int .i64 (g*x / c.sum))):=by
     rw[ij U,gF,Qa U];rfl
    have dt:((d.set m (g*x / c.sum)).take (m+1)).sum=(d.take m).sum+g*x / c.sum:=by
     rw[aO (Qa U),Sl Tx];simp
    have hs2:c.sum*((d.take m).sum+g*x / c.sum)<=g*(c.take (m+1)).sum:=by
     rw[Sw,hct,Sw];omega
    have hle:(d.take m).sum+g*x / c.sum<=g:=by
     have h1:g*(c.take (m+1)).sum<=g*c.sum:=Qx U U;have h2:c.sum*((d.take m).sum+g*x / c.sum)<=c.sum*g:=(by rw[Sa c.sum g];omega);exact S9 h2 (U)
    simp only[go_sem,hsg,f0,f1,f9,f10,f12,f13,f14,hb2,hx,hsz,w1,w2,t1,w3,w4,hm0,hdx,lN2];rw[cB hdx,PZ hx]at hrs;exact⟨U,by rw[aq];exact hnn,⟨m+1,m,d.set m (g*x / c.sum),rfl,U,hrs,by rw[dt];congr 2;omega,rfl,by rw[aq];exact hnn,hod.store U _⟩,by rw[h14];simp only[aa,aK];omega⟩
   ·have x0:x=0:=U;have w4:=PW (g-(d.take m).sum) U;simp only[go_sem,f1,f9,f12,f13,f14,hb2,x0,w1,w4,hm0,hdx,Int.sub_zero,lN2];have dt:(d.take (m+1)).sum=(d.take m).sum:=(by rw[aO hdx,x0];simp);rw[x0,SY]at hct;rw[cB hdx,PX hx]at hrs;exact⟨hnn,⟨m+1,last,d,rfl,U,hrs,by rw[dt],rfl,hnn,hod⟩,by rw[h14];simp only[aa,aK];omega⟩
  ·obtain rfl:m=k:=U;obtain⟨y,hy⟩:=az (l:=d) (i:=last) U;have hyne:=bb hy;have hl0:(last:Int) >= 0:=U;have hlk:(last:Int)<m:=U;have y0:=hd0 y (an hy);rw[PY U]at hdg hds h12 f12;have hyle:=xm hd0 y (an hy);have w1:=PW (y+(g-d.sum)) U;have hle:last+1<=d.length:=U;simp only[go_sem,f1,f9,f12,f13,f14,hb2,hl0,hlk,hy,lN2,w1];refine⟨hle,?_⟩;have hrow:k9 g m bs from'=d.set last (y+(g-d.sum)):=by
    unfold k9;rw[<- hcwF,hrf];dsimp only;rw[cB hy]
   rw[hrow]at hK;have ho2:=hod.store (k:=last) U (y+(g-d.sum));refine aw.mk ho2.ov.C (hK _ _ ho2.ov (.inr ⟨_,0,ho2.lo,ho2.hi,?_,ho2.get⟩));rw[aR,P2,hdl]
structure T0 where
 J:Int
 par:Int
 w:List Int
def T0.cells (x:T0):List Ty:=[.lit (.int .u8 x.J),.lit (.int .u8 x.par),.M x.w.length (bM x.w)]
def eh (l:List T0):List Ty:=(l.map T0.cells).flatten
def T0.Ok (x:T0):Prop:=U8 x.J/\U8 x.par/\(x.w.length:Int)<2 ^ 63/\∀b∈x.w,U8 b
def tt (g:Int)(ps:List T0)(ord:List Int):Ty:=.agg [.lit (.int .u8 g),.M ps.length (eh ps),.M ord.length (bM ord)]
def BE {l:List T0}{x:T0}(h:l[i]?=some x):((eh l).drop (i*3)).take 3=[.lit (.int .u8 x.J),.lit (.int .u8 x.par),.M x.w.length (bM x.w)]:=kU (f:=T0.cells) (z:=3) (fun _=>rfl) l i x h
def BF (l:List T0):(eh l).length=l.length*3:=jj (f:=T0.cells) (fun _=>rfl) l
def TA.bY (x:TA):List Ty:=if x.O=[] then [aa x.J,.lit (.slice none 0 0),.lit (.slice none 0 0)] else [aa x.J,ag x.F,av x.O]
def bw (l:List TA):List Ty:=(l.map TA.bY).flatten
def iP (x:TA):x.bY.length=3:=by unfold TA.bY;split<;>rfl
def BG (l:List TA):(bw l).length=l.length*3:=jj (f:=TA.bY) iP l
variable {x:TA}
def BH {l:List TA}(h:l[i]?=some x):(bw l)[i*3]?=some (aa x.J):=by
 have:=fN (f:=TA.bY) (z:=3) iP l i 0 x h U;rw[Nat.add_zero]at this;rw[show (bw l)[i*3]?=_ from this];unfold TA.bY;split<;>rfl
def NS {l:List TA}(h:∀x∈l,x.O≠[]):bw l=aI l:=by
 unfold bw aI;congr 1;exact Rd fun x hx=>PX (h x hx)
def tu {α:Type}{f:α->List Ty}{z:Nat}(hz:∀a,(f a).length=z):∀(l:List α) (i:Nat) (a:α),i<l.length->((l.set i a).map f).flatten=((l.map f).flatten).take (i*z)++f a++((l.map f).flatten).drop (i*z+z):=by
 intro l
 induction l with
 |nil=>intro i a h;simp at h
 |cons b l ih =>
  intro i a h;cases i with
  |zero=>simp[hz]
  |succ i =>
   have hb:=hz b;simp only[List.set_cons_succ,List.map_cons,List.flatten_cons];rw[ih i a (by simpa using h),show (i+1)*z=z+i*z by rw[Q7];omega,List.take_append,List.drop_append,hb];rw[PY (l:=f b) (i:=z+i*z) U,SA (l:=f b) (i:=z+i*z+z) U,show z+i*z-z=i*z by omega,show z+i*z+z-z=i*z+z by omega];simp
def BI {A B:List Ty}{a b:Ty}(h:∀j (h:j<A.length) (h':j<B.length),Fz S H nx A[j] B[j])(hab:Fz S H nx a b):∀j (h:j<(A.set i a).length) (h':j<(B.set i b).length),Fz S H nx (A.set i a)[j] (B.set i b)[j]:=by
 intro j h1 h2;rw[Rk,Rk];split
 ·exact hab
 ·exact h j (by simpa using h1) (by simpa using h2)
def tv (l:List (List Int)):Fz S H nx (av l) (av l):=.M rfl fun i hi _=>by simp only[P4];exact .cK _
def NT (x:TA):∀c∈x.bY,Fz S H nx c c:=by
 intro c hc;unfold TA.bY at hc;split at hc
 ·simp only[List.mem_cons,List.not_mem_nil,or_false]at hc;rcases hc with rfl|rfl|rfl<;>exact .lit _
 ·simp only[List.mem_cons,List.not_mem_nil,or_false]at hc;rcases hc with rfl|rfl|rfl
  ·exact .lit _
  ·exact .cK _
  ·exact tv _
def BJ (l:List TA):∀c∈bw l,Fz S H nx c c:=by
 intro c hc;unfold bw at hc;obtain⟨r,hr,hc⟩:=Rj.1 hc;obtain⟨x,_,rfl⟩:=Qm.1 hr;exact NT x c hc
def NU :∀(l:List TA),(∀x∈l,x.O=[]->x.F=[])->∀(i:Nat) (h:i<(bw l).length) (h':i<(aI l).length),Fz S H nx (bw l)[i] (aI l)[i]:=by
 intro l
 induction l with
 |nil=>intro _ i h;simp[bw]at h
 |cons x l ih =>
  intro hx i h h';have e1:bw (x :: l)=x.bY++bw l:=by simp[bw]
  have e2:aI (x :: l)=x.cells++aI l:=by simp[aI]
  have l1:=iP x;have l2:x.cells.length=3:=rfl;have hc:∀(i:Nat) (h:i<x.bY.length) (h':i<x.cells.length),Fz S H nx x.bY[i] x.cells[i]:=by
   intro i h h';by_cases hr:x.O=[]
   ·have hp:=hx x Tu hr;have ez:x.bY=[aa x.J,.lit (.slice none 0 0),.lit (.slice none 0 0)]:=PZ hr;have ec:x.cells=[aa x.J,ag [],av []]:=(by unfold TA.cells;rw[hr,hp]);simp only[ez,ec]
    match i,h' with
    |0,_=>exact .lit _
    |1,_=>exact .nil
    |2,_=>exact .nil
   ·have ez:x.bY=x.cells:=PX hr;simp only[ez]
    match i,h' with
    |0,_=>exact .lit _
    |1,_=>exact .cK _
    |2,_=>exact tv _
  simp only[e1,e2];by_cases hi:i<3
  ·rw[QR U,QR U];exact hc i U (U)
  ·rw[QU U,QU U];simp only[l1,l2];exact ih (fun y hy=>hx y (by simp[hy])) (i-3) _ _
variable {y:TA}
def NV {l:List TA}(h:l[i]?=some x)(hy:y.J=x.J):aI (l.set i y)=((aI l).set (i*3+1) (ag y.F)).set (i*3+2) (av y.O):=by
 have hl:=aG h;have h1:=tu (f:=TA.cells) (z:=3) (fun _=>rfl) l i y hl;have h2:=kU (f:=TA.cells) (z:=3) (fun _=>rfl) l i x h;unfold aI;rw[h1];have h3:(l.map TA.cells).flatten=((l.map TA.cells).flatten).take (i*3)++(x.cells++((l.map TA.cells).flatten).drop (i*3+3)):=by
  rw[<- h2,<- RI,Qq,Qq]
 have hlen:(((l.map TA.cells).flatten).take (i*3)).length=i*3:=by
  rw[P9,jj (f:=TA.cells) (z:=3) (fun _=>rfl)];omega
 conv=>rhs;rw[h3]
 rw[QL _ _ U,QL _ _ U,hlen,show i*3+1-i*3=1 by omega,show i*3+2-i*3=2 by omega];unfold TA.cells;simp[hy]
def tw {v:Ty}(h:ay lo H e v cs){d:Option TypeDesc}{t:TypeId}(hd:d=some (.slice t)):o9 d H v=some (.lit (.int .i64 cs.length)):=by
 subst hd;rcases h with ⟨rfl,rfl⟩|⟨id,g,_,_,rfl,h4⟩
 ·rfl
 ·rw[mV,zl,ae h4];rfl
def NW (l p:List Int)(hl:(l.length:Int)<2 ^ 40)(hp:(p.length:Int)<2 ^ 39)(hin:∀q∈p,0<=q/\q<l.length)(H:Tz)(K:TF->Tz->Prop)(hK:∀v H',TC H H'->ay H.C H' 3 v (ints (bc l p))->K (.ret v) H'):af prog G0 90 [ag l,ag p] H K:=by
 refine af.nl ⟨_,func90,rfl,rfl⟩ fun hcl=>?_;refine af.st (n:=24) (rs:=[.tmp 4]) func90 ?_;simp only[go_sem];refine W.aM 8388576 (by rfl) (fun ρ H'=>∃k:Nat,ρ 6=aa k/\k<=p.length/\TC H H'/\ay H.C H' 3 (ρ 5) (ints (bc l (p.take k)))) (fun ρ H=>p.length-(iv (ρ 6)).toNat) ?_ ?_
 ·simp only[go_sem];exact⟨0,rfl,U,.refl _,.nil⟩
 rintro ρ H' ⟨k,h6,hk,ov,h5⟩;refine W.vs ?_;by_cases hb:(k:Int)<p.length
 ·obtain⟨q,hq⟩:=az (l:=p) (i:=k) U;obtain⟨j,rfl,a,ha⟩:=nP (hin q (an hq)).1 (hin q (an hq)).2;have hne:=bb hq;have hne2:=bb ha;have hj:=aG ha;have hj':(j:Int)<l.length:=U
  obtain⟨v',H2,hA,ov2,hO,hn2,_⟩:=il a ov h5 (by simp[bc];omega);have w1:=PW ((k:Int)+1) U;simp only[go_sem,h6,hb,hq,hne,ha,hne2,hj',w1,hA];refine⟨by have:=ov2.C;omega,⟨k+1,Tu,U,ov2,?_⟩,U⟩;rw[B4 hq,Int.toNat_natCast,cB ha];exact hO
 ·simp only[go_sem,h6,hb];rw[PY U]at h5;exact aw.mk ov.C (hK _ _ ov h5)
def NX (g:Int)(ns:List TA)(v:Nat)(x:TA)(hx:ns[v]?=some x)(hl:(ns.length:Int)<2 ^ 39)(hp:(x.F.length:Int)<2 ^ 39)(hin:jq x.F ns.length)(H:Tz)(K:TF->Tz->Prop)
  (hK:∀v H',TC H H'->ay H.C H' 3 v (ints (aY ns x))->K (.ret v) H'):af prog G0 77 [bR g ns,aa v] H K:=by
 refine af.nl ⟨_,func77,rfl,rfl⟩ fun hcl=>?_;have hne:=dN hx;have e1:=jT hx;have hv:(v:Int)<ns.length:=by have:=aG hx;omega
 refine af.st (n:=14) (rs:=[.tmp 4]) func77 ?_;simp only[go_sem,bR,cz];refine W.dr 8 [0,1,0,4,0,28,60,124] mixed ?_;simp only[go_sem];refine⟨ag (aA ns),[],cF.pure fun H2=>tG g ns hl H2 _ ⟨rfl,rfl⟩,?_⟩;simp only[go_sem,hv,hne,e1];refine aE.nl (NW (aA ns) x.F (by rw[fS];omega) hp (by rw[fS];exact hin) _ _ fun w H3 ov ho=>⟨trivial,?_⟩);simp only[go_sem];have o1:TC H H3:=(TC.ext _ _).trans ov;exact aw.mk o1.C (hK _ _ o1 (ho.na (by simp[bh]) Tx fun _ _ _ _ _ _=>rfl))
variable {ns:List TA}
def BK (hP:T9 ns.length P)(hall:∀v:Nat,v<ns.length->(v:Int)∈P)(hr:∀(j v:Nat) (x:TA),P[j]?=some (v:Int)->ns[v]?=some x->∀q∈x.F,0<=q/\∃k,k<j/\P[k]?=some q):jX (aX ns):=by
 intro v hv;have hl:(aX ns).length=ns.length:=by simp[aX]
 rw[hl]at hv;obtain⟨j,hj⟩:=Qd.1 (hall v hv);have h0:∀p∈P.take j,0<=p:=fun p hp=>(hP.no p (Qk hp)).1;have sub:∀(k u:Nat) (x:TA),k<=j->P[k]?=some (u:Int)->ns[u]?=some x->Sub ((aX ns).getD u 0) (bV (P.take j)):=fun k u x hk hu hx i hi=>by
  rw[cB (kh hx)]at hi;have hp0:∀p∈x.F,0<=p:=fun p hp=>(hr k u x hu hx p hp).1;rw[jW hp0]at hi;obtain⟨_,k',hk',hq⟩:=hr k u x hu hx _ (of_decide_eq_true hi);rw[jW h0];refine Rx ?_;exact Qd.2 ⟨k',by rw[Qz U];exact hq⟩
 have hcl:kX (aX ns) (bV (P.take j)):=fun u hu ht=>by
  rw[hl]at hu;rw[jW h0]at ht;obtain⟨k,hk⟩:=Qd.1 (of_decide_eq_true ht);have hkl:=aG hk;rw[P9]at hkl;rw[Qz U]at hk;obtain⟨x,hx⟩:=az hu;exact sub k u x U hk hx
 obtain⟨x,hx⟩:=az hv;have h1:=s9 hcl (aX ns).length (sub j v x Tx hj hx);cases hb:(fC (aX ns) ((aX ns).getD v 0)).testBit v with
 |false=>rfl
 |true =>
  exfalso;have h2:=h1 v hb;rw[jW h0]at h2;obtain⟨k,hk⟩:=Qd.1 (of_decide_eq_true h2);have hkl:=aG hk;rw[P9]at hkl;rw[Qz U]at hk;have e:P[k]?=P[j]?:=by rw[hk,hj]
  have:=(Re (aG hk) hP.nd).1 e;omega
def j6 (H1 H':Tz)(N:Nat)(cs:List Ty):Prop:=H1.C<=H'.C/\(∀id,id<H1.C->id≠N->H'.get id=H1.get id)/\H'.get N=some (.L 0 83 cs)
def NY {l:List TA}(h:l[i]?=some x)(hr:x.O=[])(hy:y.O=[]):bw (l.set i y)=(bw l).set (i*3) (aa y.J):=by
 have hl:=aG h;have h1:=tu (f:=TA.bY) (z:=3) iP l i y hl;have h2:=kU (f:=TA.bY) (z:=3) iP l i x h;have e1:x.bY=[aa x.J,.lit (.slice none 0 0),.lit (.slice none 0 0)]:=PZ hr;have e2:y.bY=[aa y.J,.lit (.slice none 0 0),.lit (.slice none 0 0)]:=PZ hy;unfold bw;rw[h1,e2];rw[e1]at h2;have h3:(l.map TA.bY).flatten=((l.map TA.bY).flatten).take (i*3)++([aa x.J,.lit (.slice none 0 0),.lit (.slice none 0 0)]++((l.map TA.bY).flatten).drop (i*3+3)):=by
  rw[<- h2,<- RI,Qq,Qq]
 have hlen:(((l.map TA.bY).flatten).take (i*3)).length=i*3:=by
  rw[P9,jj (f:=TA.bY) (z:=3) iP];omega
 conv=>rhs;rw[h3]
 rw[QL _ _ U,hlen];simp
theorem tx (ord:List Int):∀(n v:Nat),v<n->(v:Int)∈eG ord n
 |0,v,h=>U
 |n+1,v,h=>by
  unfold eG;by_cases hv:v=n
  ·subst hv;simp
  ·have:=tx ord n v U;rw[<- Qq (jY ord n) (eG ord n)]at this;rcases Qe.1 this with h|h
   ·exact RA _ h
   ·exact Rh _ (QP _ h)
def j7 (ps:List T0)(i:Nat):Int × List Int:=match ps[i]? with
 |some y=>(y.par,y.w)
 |none=>(0,[])
def BL (p:Int)(k:Nat):Int:=IntKind.u8.wrap (((BitVec.ofInt IntKind.u8.bits (p.fdiv (2 ^ (min ((k:Int)).toNat IntKind.u8.bits))) &&& BitVec.ofInt IntKind.u8.bits 1).toNat:Nat):Int)
def l9 (par:Int)(P:List Int)(u:Nat)(l:List Int)(k:Nat):List Int:=if P[k]?=some (u:Int)/\BL par k=1/\l.length<3 then l++[(u:Int)] else l
def iQ (par:Int)(P:List Int)(i u k:Nat):List Int:=(List.range k).foldl (l9 par P u) ((List.range u).foldl (fun l u=>(List.range i).foldl (l9 par P u) l) [])
def tz (par:Int)(P:List Int)(i u k:Nat):iQ par P i u (k+1)=l9 par P u (iQ par P i u k) k:=by unfold iQ;rw[Rg,Rf];rfl
def NZ (par:Int)(P:List Int)(i u:Nat):iQ par P i (u+1) 0=iQ par P i u i:=by unfold iQ;rw[Rg,Rf];rfl
def nT (ps:List T0)(i:Nat):Int:=match ps[i]? with
 |some y=>2+y.J % 2
 |none=>2
def gT (ps:List T0)(n i:Nat)(W:Int):Int:=if IntKind.i64.wrap (W*nT ps i*2 ^ (min ((n:Int)-1-i).toNat IntKind.i64.bits)) > 100 then 2 else nT ps i
def ig (ps:List T0)(n:Nat):Nat->Int
 |0=>1
 |i+1=>ig ps n i*gT ps n i (ig ps n i)
def nU (g c:Int)(bs:List Int)(R:Nat):List (List Int):=(List.range R).map fun (q:Nat)=>k9 g c.toNat bs ((q:Int)*(c+1))
def N0 (g c:Int)(bs:List Int)(R:Nat):nU g c bs (R+1)=nU g c bs R++[k9 g c.toNat bs ((R:Int)*(c+1))]:=by unfold nU;rw[Rg,Q2];rfl
def wZ (g:Int)(ps:List T0)(cs P:List Int)(n j:Nat):TA:=⟨gT ps n j (ig ps n j),iQ (j7 ps j).1 P j n 0,nU g (gT ps n j (ig ps n j)) (j7 ps j).2 (au (bc cs (iQ (j7 ps j).1 P j n 0))).toNat⟩
structure DoneN (g:Int)(cs P:List Int)(n j:Nat)(x:TA):Prop where
 pl:bI x.F n
 p3:x.F.length<=3
 rk:∀q∈x.F,∃k,k<j/\P[k]?=some q
 rl:(x.O.length:Int)=au (bc cs x.F)
 ro:∀r∈x.O,ik g x.J r
 ne:x.O≠[]
structure LoopN (g:Int)(ps:List T0)(cs P:List Int)(n i:Nat)(ns:List TA):Prop where
 len:ns.length=n
 nu:aA ns=cs
 todo:∀(j v:Nat) (x:TA),i<=j->P[j]?=some (v:Int)->ns[v]?=some x->x.O=[]/\x.F=[]
 done:∀(j v:Nat) (x:TA),j<i->P[j]?=some (v:Int)->ns[v]?=some x->DoneN g cs P n j x
 eq:∀(j v:Nat) (x:TA),j<i->P[j]?=some (v:Int)->ns[v]?=some x->x=wZ g ps cs P n j
 cd:∀(j v:Nat) (x:TA),P[j]?=some (v:Int)->ns[v]?=some x->x.J=gT ps n j (ig ps n j)
def N1 {l:List TA}(h:l[i]?=some x)(hy:y.J=x.J)(hr:y.O≠[]):bw (l.set i y)=((bw l).set (i*3+1) (ag y.F)).set (i*3+2) (av y.O):=by
 have hl:=aG h;have h1:=tu (f:=TA.bY) (z:=3) iP l i y hl;have h2:=kU (f:=TA.bY) (z:=3) iP l i x h;unfold bw;rw[h1];have h3:(l.map TA.bY).flatten=((l.map TA.bY).flatten).take (i*3)++(x.bY++((l.map TA.bY).flatten).drop (i*3+3)):=by
  rw[<- h2,<- RI,Qq,Qq]
 have hlen:(((l.map TA.bY).flatten).take (i*3)).length=i*3:=by
  rw[P9,jj (f:=TA.bY) (z:=3) iP];omega
 have ex:∃b c,x.bY=[aa x.J,b,c]:=by unfold TA.bY;split<;>exact⟨_,_,rfl⟩
 obtain⟨b,c,ex⟩:=ex;have ey:y.bY=[aa y.J,ag y.F,av y.O]:=PX hr
 conv=>rhs;rw[h3]
 rw[QL _ _ U,QL _ _ U,hlen,show i*3+1-i*3=1 by omega,show i*3+2-i*3=2 by omega,ex,ey];simp[hy]
structure Un (P:List Int)(i u k:Nat)(l:List Int):Prop where
 pw:l.Pairwise (·<·)
 no:∀q∈l,0<=q/\(q<u\/(q=u/\∃k',k'<k/\P[k']?=some q))
 p3:l.length<=3
 rk:∀q∈l,∃k',k'<i/\P[k']?=some q
def Un.skip (h:Un P i u k l):Un P i u (k+1) l:=⟨h.pw,fun q hq=>⟨(h.no q hq).1,(h.no q hq).2.imp id fun ⟨a,k',b,c⟩=>⟨a,k',U,c⟩⟩,h.p3,h.rk⟩
def Un.C (h:Un P i u k l):Un P i (u+1) 0 l:=⟨h.pw,fun q hq=>⟨(h.no q hq).1,.inl (by rcases(h.no q hq).2 with h1|h1<;>omega)⟩,h.p3,h.rk⟩
def Un.add (hP:T9 n P)(h:Un P i u k l)(hk:k<i)(hu:P[k]?=some (u:Int))(h3:l.length<3):Un P i u (k+1) (l++[(u:Int)]):=by
 have lt:∀q∈l,q<u:=fun q hq=>by
  rcases(h.no q hq).2 with h1|⟨h1,k',h2,h4⟩
  ·exact h1
  ·exfalso;have e:P[k']?=P[k]?:=(by rw[h4,hu,h1]);have:=(Re (aG h4) hP.nd).1 e;omega
 refine⟨Rz.2 ⟨h.pw,Tu,fun a ha b hb=>by obtain rfl:=List.mem_singleton.1 hb;exact lt a ha⟩,fun q hq=>?_,by simp;omega,fun q hq=>?_⟩
 ·rcases Qe.1 hq with h1|h1
  ·exact⟨(h.no q h1).1,.inl (lt q h1)⟩
  ·obtain rfl:=List.mem_singleton.1 h1;exact⟨U,.inr ⟨rfl,k,U,hu⟩⟩
 ·rcases Qe.1 hq with h1|h1
  ·exact h.rk q h1
  ·obtain rfl:=List.mem_singleton.1 h1;exact⟨k,hk,hu⟩
def w6 (Hz Hx:Tz)(N at':Nat)(C:List Ty)(pv:Ty)(l:List Int):Prop:=j6 Hz Hx N (C.set at' pv)/\ay Hz.C Hx 3 pv (ints l)
def N2 (g:Int)(ps:List T0)(ord:List Int)(ns:List TA):Prop:=ns.length=min (max ps.length 1) 5/\(∀(j v:Nat) (x:TA),(eG ord ns.length)[j]?=some (v:Int)->ns[v]?=some x->x=wZ g ps (aA ns) (eG ord ns.length) ns.length j)/\∀(j v:Nat) (x:TA),(eG ord ns.length)[j]?=some (v:Int)->ns[v]?=some x->x.J=gT ps ns.length j (ig ps ns.length j)
def N3 (g0:Int)(ps:List T0)(ord:List Int)(hg0:U8 g0)(hps:∀x∈ps,x.Ok)(hpl:(ps.length:Int)<2 ^ 63)(hol:(ord.length:Int)<2 ^ 63)(ho8:∀x∈ord,U8 x)(H:Tz)(K:TF->Tz->Prop)
  (hK:∀g ns N H',TC H H'->H.C<=N->N<H'.C->H'.get N=some (.L 0 83 (aI ns))->TX g ns->ns.length<=5->(∀x∈ns,x.F.length<=3)->(∀x∈ns,2<=x.J)->(g=1+g0 % 60/\N2 g ps ord ns)->K (.ret (.agg [aa g,.V N 0 0 ns.length 3])) H'):
  af prog G0 40 [tt g0 ps ord] H K:=by
 refine af.st (n:=187) (rs:=[.cell 2 64]) func40 ?_;obtain⟨n,hn⟩:∃n:Nat,min (max ps.length 1) 5=n:=⟨_,rfl⟩
 have h51:1<=n/\n<=5:=U
 have hmn:(if 5<(if (1:Int) > ps.length then 1 else (ps.length:Int)) then 5 else (if (1:Int) > ps.length then 1 else (ps.length:Int)))=(n:Int):=by split<;>split<;>omega
 have t0:g0.tmod 60=g0 % 60:=Qp hg0.1;have w0:IntKind.u8.wrap (g0 % 60)=g0 % 60:=Tc _ U;have w1:IntKind.i64.wrap (g0 % 60)=g0 % 60:=PW _ U;have w2:=PW (1+g0 % 60) U;obtain⟨g,hg⟩:∃g,1+g0 % 60=g:=⟨_,rfl⟩
 have hg1:1<=g/\g<=60:=U
 rw[hg]at w2;simp only[go_sem,tt];refine W.dr 9 [0,1,3,7,15,0,32,127,0] mixed ?_;simp only[go_sem,hmn,t0,w1,hg,w2];refine⟨U,⟨⟨U,U⟩,⟨U,U⟩,?_⟩⟩;obtain⟨H1,hH1⟩:∃H1,H1=ext (ext H [.L 0 25 [.lit (.int .u8 g0),.M ps.length (eh ps),.M ord.length (bM ord)],.L 0 64 [.lit (.int .i64 0),.lit (.slice none 0 0)],.L 0 83 (List.replicate n [Ty.lit (.int .i64 0),.lit (.slice none 0 0),.lit (.slice none 0 0)]).flatten]) [.L 0 64 [.lit (.int .i64 g),.V (H.C+2) 0 0 n 3]]:=⟨_,rfl⟩
 refine W.en (fun E=>E 1=.Y H.C 0 0 /\ E 2=.Y (H.C+1) 0 0 /\ E 3=aa n /\ E 4=.Y (H.C+3) 0 0) (by simp only[go_sem]) fun E ⟨e1,e2,e3,e4⟩=>?_
 show W _ _ _ _ _ _ ⟨E,ext (ext H [.L 0 25 [.lit (.int .u8 g0),.M ps.length (eh ps),.M ord.length (bM ord)],.L 0 64 [.lit (.int .i64 0),.lit (.slice none 0 0)],.L 0 83 (List.replicate n [Ty.lit (.int .i64 0),.lit (.slice none 0 0),.lit (.slice none 0 0)]).flatten]) [.L 0 64 [.lit (.int .i64 g),.V (H.C+2) 0 0 n 3]]⟩;rw[<- hH1];have n1:H1.C=H.C+4:=by rw[hH1];rfl
 have o1:TC H H1:=by rw[hH1];exact(TC.ext _ _).trans (.ext _ _)
 have g0':H1.get H.C=some (.L 0 25 [.lit (.int .u8 g0),.M ps.length (eh ps),.M ord.length (bM ord)]):=by rw[hH1,jL];exact cW ..
 have g1':H1.get (H.C+1)=some (.L 0 64 [.lit (.int .i64 0),.lit (.slice none 0 0)]):=by rw[hH1,jL];exact dV H _ 1 (Tu)
 have g2':H1.get (H.C+2)=some (.L 0 83 (bw (List.replicate n ⟨0,[],[]⟩))):=by
  rw[hH1,jL,show bw (List.replicate n ⟨0,[],[]⟩)=(List.replicate n [Ty.lit (.int .i64 0),.lit (.slice none 0 0),.lit (.slice none 0 0)]).flatten by unfold bw;rw[RK];rfl];exact dV H _ 2 (Tu)
 have g3':H1.get (H.C+3)=some (.L 0 64 [.lit (.int .i64 g),.V (H.C+2) 0 0 n 3]):=by rw[hH1,jL];exact dV H _ 3 (Tu)
 clear hH1;have l0:=ae g0';have l1:=ae (show (ext H1 [.L 0 5 (List.replicate n (.lit (.int .u8 0)))]).get H.C=some (.L 0 25 [.lit (.int .u8 g0),.M ps.length (eh ps),.M ord.length (bM ord)]) by rw[eC _ _ _ U];exact g0');refine W.dr 4 [0,1,0,4] mixed ?_;simp only[go_sem,e1,e3,l1];refine⟨⟨U,U⟩,U,U,?_⟩;obtain⟨H2,hH2⟩:∃H2,H2=ext H1 [.L 0 5 (List.replicate n (.lit (.int .u8 0)))]:=⟨_,rfl⟩
 have gb:=dA hH2
 rw[<- hH2];refine aE.nl ((af.frame (H:=H2) (args:=[.agg [.V H1.C 0 0 n 1,.lit (.int .u16 0),.M ord.length (bM ord)]]) (args':=[.agg [.M n (bM (List.replicate n 0)),.lit (.int .u16 0),.M ord.length (bM ord)]]) (v':=ag (eG ord n)) aT rfl (fun i hi _=>?_) (Nv n h51.2 ord hol ho8 cj _ fun v H' _ ho=>⟨_,rfl,ho.mf⟩)).mono fun r H' hr=>?_)
 ·match i,hi with
  |0,_ =>
   refine .agg rfl fun i hi _=>?_
   match i,hi with
   |0,_ =>
    have:bM (List.replicate n 0)=List.replicate n (.lit (.int .u8 0)):=(by unfold bM;rw[RK]);rw[this];exact Fz.tK gb Tu fun c hc=>⟨_,Qv hc⟩
   |1,_=>exact .lit _
   |2,_=>exact .M rfl fun i hi _=>by simp only[bM,P4];exact .lit _
 obtain⟨rfl,rfl⟩:=hr;refine⟨trivial,?_⟩;have hperm:=wU ord n;obtain⟨P,hP⟩:∃P,P=eG ord n:=⟨_,rfl⟩
 rw[<- hP]at hperm ⊢;have n2:H'.C=H1.C+1:=hH2▸rfl
 have F0:j6 H1 H' (H.C+2) (bw (List.replicate n ⟨0,[],[]⟩)):=by
  rw[hH2];exact⟨by simp[bh],fun id h _=>eC _ _ _ h,by rw[eC _ _ _ U];exact g2'⟩
 clear hH2 gb;simp only[go_sem,e3];have bs:∀k:Nat,k<=5->(3:Int) ^ k<=243:=fun k hk=>by
  have:(3:Nat) ^ k<=3 ^ 5:=Qu Tv hk;have h2:((3 ^ k:Nat):Int)<=((3 ^ 5:Nat):Int):=by exact_mod_cast this
  push_cast at h2
  exact h2
 refine W.aM 151115727451794287100864 (by rfl) (fun ρ Hx=>∃(i:Nat) (ns:List TA) (Wd:Int),ρ 7=aa i/\i<=n/\ns.length=n/\(∀x∈ns,x.O=[]/\x.F=[])/\(∀j v:Nat,j<i->P[j]?=some (v:Int)->∃x,ns[v]?=some x/\2<=x.J/\x.J<=3/\x.J=gT ps n j (ig ps n j))/\ρ 6=aa Wd/\Wd=ig ps n i/\1<=Wd/\Wd<=3 ^ i/\H'.C<=Hx.C/\j6 H1 Hx (H.C+2) (bw ns)) (fun ρ H=>n-(iv (ρ 7)).toNat) ?_ ?_
 ·simp only[go_sem];exact⟨0,_,1,rfl,U,Tu,fun x hx=>by obtain rfl:=Qv hx;exact⟨rfl,rfl⟩,fun j v hj=>U,rfl,rfl,U,Tu,F0⟩
 rintro ρ Hx ⟨i,ns,Wd,h7,hi,hnl,hnz,hnc,h6,hWe,hW1,hW3,hnx,hF⟩;refine W.en (fun E2=>E2 1=.Y H.C 0 0 /\ E2 2=.Y (H.C+1) 0 0 /\ E2 3=aa n /\ E2 4=.Y (H.C+3) 0 0 /\ E2 5=ag P /\ E2 6=aa Wd /\ E2 7=aa i) (by simp only[go_sem,e1,e2,e3,e4,h6,h7]) fun E2 ⟨f1,f2,f3,f4,f5,f6,f7⟩=>?_
 refine W.vs ?_;have hPl:=hperm.len;have hFn:=hF.1;have m0:=ae ((hF.2.1 H.C U U).trans g0');have m3:=ae ((hF.2.1 (H.C+3) U U).trans g3');have mN:=ae hF.2.2;have m0':∀L,(ext Hx L).Z H.C 0=some (25,[.lit (.int .u8 g0),.M ps.length (eh ps),.M ord.length (bM ord)]):=fun L=>(dB U).trans m0;have m3':∀L,(ext Hx L).Z (H.C+3) 0=some (64,[.lit (.int .i64 g),.V (H.C+2) 0 0 n 3]):=fun L=>(dB U).trans m3;have mN':∀L,(ext Hx L).Z (H.C+2) 0=some (83,bw ns):=fun L=>(dB U).trans mN;by_cases hb:(i:Int)<n
 ·obtain⟨pv,hpv⟩:=az (l:=P) (i:=i) U;have hpr:=hperm.no pv (an hpv);obtain⟨v,rfl⟩:=Qb hpr.1;obtain⟨x,hx⟩:=az (l:=ns) (i:=v) U;have hpne:=bb hpv;have hz0:=BH hx;have hzne:=bb hz0;have hzl:=BG ns;have hv:(v:Int)<n:=hpr.2;have hv0:(v:Int) >= 0:=hpr.1;have hiP:(i:Int)<P.length:=U
  have w3:=bs i U;have i1:=PW ((i:Int)+1) U;have i2:=PW ((n:Int)-1) U;have i3:=PW ((n:Int)-1-i) U;have i4:=RY ((n:Int)-1-i) U;have fin:∀(c:Int) (B:TE),2<=c/\c<=3->c=gT ps n i Wd->v*3+1<=(bw ns).length/\H'.C<=((ext Hx [B]).upd (H.C+2) (.L 0 83 (setAt (bw ns) (v*3) [.lit (.int .i64 c)]))).C /\
    (∃(i_1:Nat) (ns_1:List TA) (Wd_1:Int),Ty.lit (.int .i64 ((i:Int)+1))=.lit (.int .i64 i_1)/\i_1<=n/\ns_1.length=n/\(∀x∈ns_1,x.O=[]/\x.F=[])/\(∀j v:Nat,j<i_1->P[j]?=some (v:Int)->∃x,ns_1[v]?=some x/\2<=x.J/\x.J<=3/\x.J=gT ps n j (ig ps n j)) /\
     Ty.lit (.int .i64 (Wd*c))=.lit (.int .i64 Wd_1)/\Wd_1=ig ps n i_1/\1<=Wd_1/\Wd_1<=3 ^ i_1/\H'.C<=((ext Hx [B]).upd (H.C+2) (.L 0 83 (setAt (bw ns) (v*3) [.lit (.int .i64 c)]))).C/\j6 H1 ((ext Hx [B]).upd (H.C+2) (.L 0 83 (setAt (bw ns) (v*3) [.lit (.int .i64 c)]))) (H.C+2) (bw ns_1)) /\
    n-((i:Int)+1).toNat<n-(iv (ρ 7)).toNat:=by
   intro c B c23 hce;have p1:2<=Wd*c/\Wd*c<=3 ^ i*3:=by
    constructor
    ·have:=QI hW1 c23.1 U U;omega
    ·exact QI hW3 c23.2 U (U)
   have nn:((ext Hx [B]).upd (H.C+2) (.L 0 83 (setAt (bw ns) (v*3) [.lit (.int .i64 c)]))).C=Hx.C+1:=rfl;refine⟨by rw[hzl];have:=aG hx;omega,by rw[nn];omega,⟨i+1,ns.set v ⟨c,[],[]⟩,Wd*c,rfl,U,by simp[hnl],fun z hz=>?_,fun j u hj hu=>?_,rfl,by show Wd*c=ig ps n i*gT ps n i (ig ps n i);rw[<- hWe,<- hce],U,by rw[Sp];omega,by rw[nn];omega,?_⟩,by rw[h7];simp only[aa,aK];omega⟩
   ·rcases Qr hz with h|h
    ·exact hnz z h
    ·rw[h];exact⟨rfl,rfl⟩
   ·by_cases huv:u=v
    ·subst huv;have hji:j=i:=(Re (aG hu) hperm.nd).1 (by rw[hu,hpv]);exact⟨_,Qa (aG hx),by dsimp only;omega,by dsimp only;omega,by dsimp only;rw[hji,<- hWe];exact hce⟩
    ·rw[Qh U];refine hnc j u ?_ hu;rcases Ql j i with h|h
     ·exact h
     ·obtain rfl:j=i:=U;rw[hpv]at hu;exact absurd (by have:=Option.some.inj hu;omega) huv
   ·refine⟨by rw[nn];omega,fun id h1 h2=>by rw[ab,PX h2,eC _ _ _ U];exact hF.2.1 id h1 h2,?_⟩;rw[ab,PZ rfl,NY hx (hnz x (an hx)).1 rfl];congr 2;exact dm (by rw[hzl];have:=aG hx;omega)
  by_cases hp:(i:Int)<ps.length
  ·obtain⟨y,hy⟩:=az (l:=ps) (i:=i) U;have hyo:=hps y (an hy);have hc0:=BE hy;have hc1:i*3+3<=(eh ps).length:=(by rw[BF];omega);have hcne:¬eh ps=[]:=fun h=>by rw[h]at hc1;simp at hc1
   have c8:=hyo.1;have t1:y.J.tmod 2=y.J % 2:=Qp c8.1;have i5:=Tc (y.J % 2) U;have i6:=PW (y.J % 2) U;have i7:=PW (2+y.J % 2) U;have c23:2<=(2+y.J % 2)/\(2+y.J % 2)<=3:=U;have p1:2<=Wd*(2+y.J % 2)/\Wd*(2+y.J % 2)<=3 ^ i*3:=by
    constructor
    ·have:=QI hW1 c23.1 U U;omega
    ·exact QI hW3 c23.2 U (U)
   have p2:2<=Wd*2/\Wd*2<=3 ^ i*3:=U;have j1:=PW (Wd*(2+y.J % 2)) U;have j2:=PW (Wd*2) U;obtain⟨q,hq⟩:∃q,IntKind.i64.wrap (Wd*(2+y.J % 2)*2 ^ (min ((n:Int)-1-i).toNat IntKind.i64.bits))=q:=⟨_,rfl⟩
   have cA:gT ps n i Wd=if q > 100 then 2 else 2+y.J % 2:=by
    have h0:nT ps i=2+y.J % 2:=(by unfold nT;rw[hy]);unfold gT;rw[h0,hq]
   have hsh:∀t o1 o2,bg prog .shl t o1 o2 (.lit (.int .i64 (Wd*(2+y.J % 2)))) (.lit (.int .u64 ((n:Int)-1-i)))=some (.lit (.int .i64 q)):=fun t o1 o2=>by rw[xu U,hq]
   by_cases hq1:q > 100
   ·simp only[go_sem,f1,f3,f6,f7,m0',hb,hp,i2,i3,i4,j1,j2,hsh,hc0,hc1,hcne,t1,i6,i7,hq1];refine W.dr 7 [0,1,0,0,12,28,0] mixed ?_;simp only[go_sem,f4,f5,f6,f7,m3',mN',i1,hpv,hpne,hv,hv0,hiP];exact fin 2 _ U (by rw[cA,PZ hq1])
   ·simp only[go_sem,f1,f3,f6,f7,m0',hb,hp,i2,i3,i4,j1,hsh,hc0,hc1,hcne,t1,i6,i7,hq1];refine W.dr 7 [0,1,0,0,12,28,0] mixed ?_;simp only[go_sem,f4,f5,f6,f7,m3',mN',i1,hpv,hpne,hv,hv0,hiP];exact fin (2+y.J % 2) _ c23 (by rw[cA,PX hq1])
  ·have p2:2<=Wd*2/\Wd*2<=3 ^ i*3:=U;have i5:IntKind.i64.wrap (2+IntKind.i64.wrap (Int.tmod 0 2))=2:=Tv;have j2:=PW (Wd*2) U;obtain⟨q,hq⟩:∃q,IntKind.i64.wrap (Wd*2*2 ^ (min ((n:Int)-1-i).toNat IntKind.i64.bits))=q:=⟨_,rfl⟩
   have cA:gT ps n i Wd=2:=by
    have h0:nT ps i=2:=(by unfold nT;rw[P7 U]);unfold gT;rw[h0];split<;>rfl
   have hsh:∀t o1 o2,bg prog .shl t o1 o2 (.lit (.int .i64 (Wd*2))) (.lit (.int .u64 ((n:Int)-1-i)))=some (.lit (.int .i64 q)):=fun t o1 o2=>by rw[xu U,hq]
   by_cases hq1:q > 100
   ·simp only[go_sem,f1,f3,f6,f7,m0',hb,hp,i2,i3,i4,j2,hsh,i5,hq1];refine W.dr 7 [0,1,0,0,12,28,0] mixed ?_;simp only[go_sem,f4,f5,f6,f7,m3',mN',i1,hpv,hpne,hv,hv0,hiP];exact fin 2 _ U cA.symm
   ·simp only[go_sem,f1,f3,f6,f7,m0',hb,hp,i2,i3,i4,j2,hsh,i5,hq1];refine W.dr 7 [0,1,0,0,12,28,0] mixed ?_;simp only[go_sem,f4,f5,f6,f7,m3',mN',i1,hpv,hpne,hv,hv0,hiP];exact fin 2 _ U cA.symm
 ·obtain rfl:n=i:=U
  clear bs hW1 hW3 h6 f6;simp only[go_sem,f3,f7,hb];obtain⟨cs,hcs⟩:∃cs,cs=aA ns:=⟨_,rfl⟩
  have csl:cs.length=n:=by rw[hcs,fS,hnl]
  have hc23:∀c∈cs,2<=c/\c<=3:=fun c hc=>by
   obtain⟨v,hv⟩:=Qd.1 hc;have hvn:=aG hv;have hm:=tx ord n v U;rw[<- hP]at hm;obtain⟨j,hj⟩:=Qd.1 hm;obtain⟨x,hx,h2,h3,_⟩:=hnc j v (by have:=aG hj;omega) hj;rw[hcs,dk hx]at hv;cases hv;exact⟨h2,h3⟩
  have L0:LoopN g ps cs P n 0 ns:=⟨hnl,hcs.symm,fun j v x _ _ hx=>hnz x (an hx),fun j v x h=>U,fun j v x h=>U,fun j v x hj hx=>by
   obtain⟨x',hx',_,_,h4⟩:=hnc j v (by have:=aG hj;omega) hj;rw[hx']at hx;rw[<- Option.some.inj hx];exact h4⟩
  clear hnc hnz h7;refine W.aM 98079714615416886934934209737619636635871851991103765504 (by rfl) (fun ρ Hy=>∃(i:Nat) (ns:List TA),ρ 10=aa i/\i<=n/\LoopN g ps cs P n i ns/\Hx.C<=Hy.C/\j6 H1 Hy (H.C+2) (bw ns)) (fun ρ H=>n-(iv (ρ 10)).toNat) ?_ ?_
  ·simp only[go_sem];exact⟨0,ns,rfl,U,L0,hF⟩
  clear L0 hF m0 m3 mN m0' m3' mN' hFn hnl hcs f7;rintro ρ Hy ⟨i,ns,h10,hi,L,hny,hF⟩;refine W.en (fun E=>E 1=.Y H.C 0 0 /\ E 2=.Y (H.C+1) 0 0 /\ E 3=aa n /\ E 4=.Y (H.C+3) 0 0 /\ E 5=ag P /\ E 10=aa i) (by simp only[go_sem,f1,f2,f3,f4,f5,h10]) fun E ⟨e1,e2,e3,e4,e5,e10⟩=>?_
  refine W.vs ?_;have hFn:=hF.1;have m0:=ae ((hF.2.1 H.C U U).trans g0');have m1:=ae ((hF.2.1 (H.C+1) U U).trans g1');have m3:=ae ((hF.2.1 (H.C+3) U U).trans g3');have m0':∀L,(ext Hy L).Z H.C 0=some (25,[.lit (.int .u8 g0),.M ps.length (eh ps),.M ord.length (bM ord)]):=fun L=>(dB U).trans m0;by_cases hb:(i:Int)<n
  ·obtain⟨pv,hpv⟩:=az (l:=P) (i:=i) U;have hpr:=hperm.no pv (an hpv);obtain⟨v,rfl⟩:=Qb hpr.1;have hnl:=L.len;obtain⟨x,hx⟩:=az (l:=ns) (i:=v) U;have hpne:=bb hpv;have hiP:(i:Int)<P.length:=U;have hP1:∀k:Nat,k<n->∃u:Nat,P[k]?=some (u:Int)/\u<n:=fun k hk=>by
    obtain⟨q,hq⟩:=az (l:=P) (i:=k) U;have:=hperm.no q (an hq);obtain⟨u,rfl⟩:=Qb this.1;exact⟨u,hq,U⟩
   have hpc:∀(B:List Ty),B=(if (i:Int)<ps.length then (eh ps).drop (i*3) |>.take 3 else [.lit (.int .u8 0),.lit (.int .u8 0),.lit (.slice none 0 0)])->∃(pc par:Int) (bs:List Int) (wv:Ty),B=[.lit (.int .u8 pc),.lit (.int .u8 par),wv]/\(par=(j7 ps i).1/\bs=(j7 ps i).2)/\U8 par/\(∀b∈bs,U8 b)/\(bs.length:Int)<2 ^ 63/\wv.one=true/\wv.cells=[wv]/\∀H0,Fz (fun _=>True) H0 0 wv (.M bs.length (bM bs)):=by
    rintro B rfl;by_cases hp:(i:Int)<ps.length
    ·obtain⟨y,hy⟩:=az (l:=ps) (i:=i) U;have hyo:=hps y (an hy);rw[PZ hp,BE hy];exact⟨y.J,y.par,y.w,_,rfl,⟨by unfold j7;rw[hy],by unfold j7;rw[hy]⟩,hyo.2.1,hyo.2.2.2,hyo.2.2.1,rfl,rfl,fun H0=>.M rfl fun i hi _=>by simp only[bM,P4];exact .lit _⟩
    ·rw[PX hp];exact⟨0,0,[],_,rfl,⟨by unfold j7;rw[P7 U],by unfold j7;rw[P7 U]⟩,by unfold U8;omega,Tu,Tu,rfl,rfl,fun H0=>.nil⟩
   by_cases hp:(i:Int)<ps.length
   case' pos =>
    have hc1:i*3+3<=(eh ps).length:=(by rw[BF];omega);have hcne:¬eh ps=[]:=fun h=>by rw[h]at hc1;simp at hc1
    rw[PZ hp]at hpc;obtain⟨pc,par,bs,wv,hc0,hpw,hpar,hbs,hbl,hwo,hwc,hwf⟩:=hpc _ rfl;simp only[go_sem,e1,e3,e5,e10,m0',hb,hp,hc0,hc1,hcne,hpv,hpne,hiP,hwo,Bool.and_true];obtain⟨Hz,hHz⟩:∃Hz,Hz=ext Hy [.L 0 142 [.lit (.int .u8 pc),.lit (.int .u8 par),wv]]:=⟨_,rfl⟩
    clear hpc hc0 hc1 hcne hp
   case' neg =>
    rw[PX hp]at hpc;obtain⟨pc,par,bs,wv,hc0,hpw,hpar,hbs,hbl,hwo,hwc,hwf⟩:=hpc _ rfl;simp only[go_sem,e1,e3,e5,e10,m0',hb,hp,hpv,hpne,hiP];rw[hc0];obtain⟨Hz,hHz⟩:∃Hz,Hz=ext Hy [.L 0 142 [.lit (.int .u8 pc),.lit (.int .u8 par),wv]]:=⟨_,rfl⟩
    clear hpc hc0 hp
   all_goals
    rw[<- hHz];refine W.env fun E3 hE3=>?_;have k1:E3 1=.Y H.C 0 0:=(by rw[hE3];simp only[go_sem,e1]);have k2:E3 2=.Y (H.C+1) 0 0:=(by rw[hE3];simp only[go_sem,e2]);have k3:E3 3=aa n:=(by rw[hE3];simp only[go_sem,e3]);have k4:E3 4=.Y (H.C+3) 0 0:=(by rw[hE3];simp only[go_sem,e4]);have k5:E3 5=ag P:=(by rw[hE3];simp only[go_sem,e5]);have k10:E3 10=aa i:=(by rw[hE3];simp only[go_sem,e10]);have k11:E3 11=.Y Hy.C 0 0:=(by rw[hE3];simp only[go_sem]);have k12:E3 12=aa v:=(by rw[hE3];simp only[go_sem]);have k13:E3 13=aa 0:=(by rw[hE3];simp only[go_sem]);clear hE3;have nz:Hz.C=Hy.C+1:=(by rw[hHz];rfl);have z3:Hz.get (H.C+3)=some (.L 0 64 [.lit (.int .i64 g),.V (H.C+2) 0 0 n 3]):=(by rw[hHz,eC _ _ _ U];exact(hF.2.1 (H.C+3) U U).trans g3');have zP:Hz.get Hy.C=some (.L 0 142 [.lit (.int .u8 pc),.lit (.int .u8 par),wv]):=(by rw[hHz];exact bX);have zN:Hz.get (H.C+2)=some (.L 0 83 (bw ns)):=(by rw[hHz,eC _ _ _ U];exact hF.2.2);have zO:∀id,id<H1.C->id≠H.C+2->Hz.get id=H1.get id:=fun id h1 h2=>by rw[hHz,eC _ _ _ U];exact hF.2.1 id h1 h2
    obtain⟨xr,xp⟩:=L.todo i v x Tx hpv hx;have hzl:=BG ns;have hvn:=aG hx;have hcx:(bw ns)[v*3+1]?=some (.lit (.slice none 0 0)):=by
     have:=fN (f:=TA.bY) (z:=3) iP ns v 1 x hx U;rw[show (bw ns)[v*3+1]?=_ from this];unfold TA.bY;rw[PZ xr];rfl
    clear hHz e1 e2 e3 e4 e5 e10 f1 f2 f3 f4 f5 m0' m0 m1 m3;have vlt:(v:Int)<n:=hpr.2;have v0:(v:Int) >= 0:=hpr.1;have hset:∀pv pv',setAt ((bw ns).set (v*3+1) pv) (v*3+1) [pv']=(bw ns).set (v*3+1) pv':=fun pv pv'=>by rw[dm (by rw[P2];omega),R9]
    have hgetc:∀pv,((bw ns).set (v*3+1) pv)[v*3+1]?=some pv:=fun pv=>Qa U;refine W.kj (Q':=fun e s2=>e=.exit 4/\∃pv l,s2.ρ 1=.Y H.C 0 0/\s2.ρ 2=.Y (H.C+1) 0 0/\s2.ρ 3=aa n/\s2.ρ 4=.Y (H.C+3) 0 0/\s2.ρ 5=ag P/\s2.ρ 10=aa i/\s2.ρ 11=.Y Hy.C 0 0/\s2.ρ 12=aa v/\w6 Hz s2.H (H.C+2) (v*3+1) (bw ns) pv l/\Un P i n 0 l/\l=iQ par P i n 0) ?_ ?_
    ·refine W.aM 44601490397061167054908922280959129468035072 (by rfl) (fun ρ Hu=>∃(u:Nat) (pv:Ty) (l:List Int),ρ 13=aa u/\u<=n/\w6 Hz Hu (H.C+2) (v*3+1) (bw ns) pv l/\Un P i u 0 l/\l=iQ par P i u 0) (fun ρ H=>n-(iv (ρ 13)).toNat) ?_ ?_
     ·simp only[go_sem,k13];refine⟨0,.lit (.slice none 0 0),[],rfl,U,⟨⟨Tx,fun _ _ _=>rfl,?_⟩,.nil⟩,⟨Tu,Tu,Tu,Tu⟩,rfl⟩;rw[zN,gU hcx]
     rintro ρu Hu ⟨u,pv,l,h13,hu,hS,hL,hPk⟩;refine W.env fun E4 hE4=>?_;have q3:E4 3=aa n:=(by rw[hE4];simp only[go_sem,k3]);have q4:E4 4=.Y (H.C+3) 0 0:=(by rw[hE4];simp only[go_sem,k4]);have q5:E4 5=ag P:=(by rw[hE4];simp only[go_sem,k5]);have q10:E4 10=aa i:=(by rw[hE4];simp only[go_sem,k10]);have q11:E4 11=.Y Hy.C 0 0:=(by rw[hE4];simp only[go_sem,k11]);have q12:E4 12=aa v:=(by rw[hE4];simp only[go_sem,k12]);have q13:E4 13=aa u:=(by rw[hE4];simp only[go_sem,h13]);have q1:E4 1=.Y H.C 0 0:=(by rw[hE4];simp only[go_sem,k1]);have q2:E4 2=.Y (H.C+1) 0 0:=(by rw[hE4];simp only[go_sem,k2]);clear hE4;refine W.vs ?_;by_cases hub:(u:Int)<n
     ·have u1:=PW ((u:Int)+1) U;simp only[go_sem,q3,q13,hub];refine W.aM 44601490397058710981870980086493729605566464 (by rfl) (fun ρ Hk=>∃(k:Nat) (pv:Ty) (l:List Int),ρ 14=aa k/\k<=i/\Hu.C<=Hk.C/\w6 Hz Hk (H.C+2) (v*3+1) (bw ns) pv l/\Un P i u k l/\l=iQ par P i u k) (fun ρ H=>i-(iv (ρ 14)).toNat) ?_ ?_
      ·simp only[go_sem];exact⟨0,pv,l,rfl,U,hS,hL,hPk⟩
      clear hS hL hPk;rintro ρk Hk ⟨k,pv,l,h14,hk,hnk,hS,hL,hPk⟩;refine W.env fun E5 hE5=>?_;have r4:E5 4=.Y (H.C+3) 0 0:=(by rw[hE5];simp only[go_sem,q4]);have r5:E5 5=ag P:=(by rw[hE5];simp only[go_sem,q5]);have r10:E5 10=aa i:=(by rw[hE5];simp only[go_sem,q10]);have r11:E5 11=.Y Hy.C 0 0:=(by rw[hE5];simp only[go_sem,q11]);have r12:E5 12=aa v:=(by rw[hE5];simp only[go_sem,q12]);have r13:E5 13=aa u:=(by rw[hE5];simp only[go_sem,q13]);have r14:E5 14=aa k:=(by rw[hE5];simp only[go_sem,h14]);clear hE5;refine W.vs ?_;by_cases hki:(k:Int)<i
      ·obtain⟨hFz,hOz⟩:=hS;have hFz1:=hFz.1;obtain⟨a,ha,han⟩:=hP1 k U;have hane:=bb ha;have hkP:(k:Int)<P.length:=U;have s1:=PW ((k:Int)+1) U;have s2:=RY (k:Int) U;have y3:=ae ((hFz.2.1 (H.C+3) U U).trans z3);have yP:=ae ((hFz.2.1 Hy.C U U).trans zP);have yN:=ae hFz.2.2;have hgc:=hgetc pv;have hcne2:=bb hgc;obtain⟨r2,hr2e⟩:∃r2,r2=BL par k:=⟨_,rfl⟩
       obtain⟨r1,hr1e⟩:∃r1,r1=par.fdiv (2 ^ (min ((k:Int)).toNat IntKind.u8.bits)):=⟨_,rfl⟩
       have hr1:∀t o1 o2,bg prog .shr t o1 o2 (.lit (.int .u8 par)) (.lit (.int .u64 (k:Int)))=some (.lit (.int .u8 r1)):=fun _ _ _=>by rw[hr1e];exact tL (U)
       have hr2:∀t o1 o2,bg prog .and t o1 o2 (.lit (.int .u8 r1)) (.lit (.int .u8 1))=some (.lit (.int .u8 r2)):=fun _ _ _=>by rw[hr2e,hr1e];exact tM
       have hlen:=tw hOz (d:=some (.slice 3)) rfl;rw[mV,aR]at hlen;by_cases hau:(a:Int)=u
       ·have hau':a=u:=U;by_cases hr:r2=1
        ·by_cases hl3:(l.length:Int)<3
         ·simp only[go_sem,r4,r5,r10,r11,r12,r13,r14,hki,ha,hane,hkP,s2,y3,yP,yN,hgc,hr1,hr2,hlen,hau,hr,hl3,vlt,v0];obtain⟨pv',Hj,hA,hO',hn',hpr'⟩:=gG (P:=prog) (H:=Hk) (t:=59) (x:=aa u) (n:=Hk.C+1) Try.underlying59 Try.dC Try.eb rfl (by rw[Try.eR,aR];omega) hOz hFz1 rfl;simp only[aa]at hA;have na:∀id,id<Hz.C->Hj.get id=Hk.get id:=fun id h=>hpr' id U (hOz.ne h);have y3j:=ae ((na _ U).trans ((hFz.2.1 (H.C+3) U U).trans z3));have yNj:=ae ((na _ U).trans hFz.2.2);refine W.dr 12 [0,1,0,0,8,0,56,120,248,0,512,2040] mixed ?_;simp only[go_sem,r4,r12,r13,r14,y3,yN,yNj,hgc,vlt,v0,hA,s1];have hdj:kD (if iY pv=true then { nk:=aF pv,rs:=aF pv++[Hk.C] } else { nk:=[Hk.C+1],rs:=[Hk.C] }) { nk:=[],rs:=[H.C+3] }:=by
           rcases hOz with ⟨hO1,_⟩|⟨id,gg,hO1,hO2,hO3,_⟩
           ·rw[hO1];show kD { nk:=[Hk.C+1],rs:=[Hk.C] } _;exact⟨fun a ha=>by (obtain rfl:a=Hk.C+1:=by simpa using ha);simp;omega,fun a ha=>by simp at ha⟩
           ·rw[hO3];show kD { nk:=[id],rs:=[id]++[Hk.C] } _;exact⟨fun a ha=>by (obtain rfl:a=id:=by simpa using ha);simp;omega,fun a ha=>by simp at ha⟩
          have hpc1:=hO'.cells;rw[hpc1];refine⟨⟨U,U,U,U,U,U,U⟩,⟨hdj,hdj⟩,⟨rfl,by simp[hO'.one],by rw[P2];simp;omega⟩,by rw[aq];omega,⟨k+1,pv',l++[(u:Int)],rfl,U,by rw[aq];omega,⟨⟨by rw[aq];omega,fun id h1 h2=>by rw[ab,PX h2,na _ h1];exact hFz.2.1 id h1 h2,?_⟩,?_⟩,hL.add hperm U (by rw[ha,hau]) U,by rw[tz,<- hPk];unfold l9;rw[PZ ⟨by rw[ha,hau],by rw[<- hr2e];exact hr,U⟩]⟩,by rw[h14];simp only[aa,aK];omega⟩
          ·rw[ab,PZ rfl,hset]
          ·have:=hO'.na (lo':=Hz.C) (H':=Hj.upd (H.C+2) (.L 0 83 (setAt ((bw ns).set (v*3+1) pv) (v*3+1) [pv']))) Tx Tx fun id _ h1 _ _ _=>by rw[ab,PX U]
           simpa[ints,aa] using this
         ·simp only[go_sem,r4,r5,r10,r11,r12,r13,r14,hki,ha,hane,hkP,s1,s2,y3,yP,yN,hgc,hr1,hr2,hlen,hau,hr,hl3,vlt,v0];exact⟨hnk,⟨k+1,pv,l,rfl,U,hnk,⟨hFz,hOz⟩,hL.skip,by rw[tz,<- hPk];unfold l9;rw[PX fun h=>hl3 (by have:=h.2.2;omega)]⟩,by rw[h14];simp only[aa,aK];omega⟩
        ·simp only[go_sem,r5,r10,r11,r13,r14,hki,ha,hane,hkP,s1,s2,yP,hr1,hr2,hau,hr];exact⟨hnk,⟨k+1,pv,l,rfl,U,hnk,⟨hFz,hOz⟩,hL.skip,by rw[tz,<- hPk];unfold l9;rw[PX fun h=>hr (by rw[hr2e];exact h.2.1)]⟩,by rw[h14];simp only[aa,aK];omega⟩
       ·simp only[go_sem,r5,r10,r13,r14,hki,ha,hane,hkP,s1,hau];exact⟨hnk,⟨k+1,pv,l,rfl,U,hnk,⟨hFz,hOz⟩,hL.skip,by rw[tz,<- hPk];unfold l9;rw[PX fun h=>hau (by have h1:=h.1;rw[ha]at h1;exact Option.some.inj h1)]⟩,by rw[h14];simp only[aa,aK];omega⟩
      ·obtain rfl:k=i:=U;simp only[go_sem,r10,r13,r14,hki,u1];exact⟨by have:=hS.1.1;omega,⟨u+1,pv,l,rfl,U,hS,hL.C,by rw[NZ];exact hPk⟩,by rw[h13];simp only[aa,aK];omega⟩
     ·obtain rfl:u=n:=U;simp only[go_sem,q1,q2,q3,q4,q5,q10,q11,q12,q13,hub];exact⟨pv,l,hS,hL,hPk⟩
    ·rintro e s2 ⟨rfl,pv,l,a1,a2,a3,a4,a5,a10,a11,a12,⟨hFz,hOz⟩,hL,hPk⟩;have hFz1:=hFz.1;obtain⟨rk,hrk,hfz⟩:∃rk,Hz.C<=rk/\Fz (fun id=>id=rk) s2.H s2.H.C pv (ag l):=by
      rcases hOz with ⟨hO1,hO2⟩|⟨id,gg,hO1,hO2,hO3,hO4⟩
      ·have:l=[]:=by cases l with
        |nil=>rfl
        |cons b l=>simp[ints]at hO2
       rw[hO1,this];exact⟨s2.H.C,hFz1,.nil⟩
      ·refine⟨id,hO1,?_⟩;rw[hO3,aR];refine .np rfl hO4 (by rw[Nat.mul_one,aR]) fun j hj h2 h'=>?_;simp only[Nat.zero_add,ints,P4];exact .lit _
     have hne2:H.C+2≠rk:=U;refine⟨⟨s2.ρ,s2.H.dF rk (H.C+2) (.L 0 83 ((bw ns).set (v*3+1) (ag l)))⟩,cq.dF aT hFz.2.2 hne2 Tu (xz (BJ ns) hfz),Tx,trivial,?_⟩;obtain⟨Hm,hHm⟩:∃Hm,Hm=s2.H.dF rk (H.C+2) (.L 0 83 ((bw ns).set (v*3+1) (ag l))):=⟨_,rfl⟩
     rw[<- hHm];have hFm:j6 Hz Hm (H.C+2) ((bw ns).set (v*3+1) (ag l)):=by
      rw[hHm];exact⟨hFz1,fun id h1 h2=>(jt U h2).trans (hFz.2.1 id h1 h2),tQ hne2⟩
     clear hFz hOz hfz hHm hne2 hrk;simp only[go_sem];refine W.env fun E6 hE6=>?_;have y1:E6 1=.Y H.C 0 0:=(by rw[hE6];simp only[go_sem,a1]);have y2:E6 2=.Y (H.C+1) 0 0:=(by rw[hE6];simp only[go_sem,a2]);have y3:E6 3=aa n:=(by rw[hE6];simp only[go_sem,a3]);have y4:E6 4=.Y (H.C+3) 0 0:=(by rw[hE6];simp only[go_sem,a4]);have y5:E6 5=ag P:=(by rw[hE6];simp only[go_sem,a5]);have y10:E6 10=aa i:=(by rw[hE6];simp only[go_sem,a10]);have y11:E6 11=.Y Hy.C 0 0:=(by rw[hE6];simp only[go_sem,a11]);have y12:E6 12=aa v:=(by rw[hE6];simp only[go_sem,a12]);have y15:E6 15=aa 0:=(by rw[hE6];simp only[go_sem]);clear hE6 a1 a2 a3 a4 a5 a10 a11 a12;have lsm:eH (bc cs l):=qv (by rw[kg];have:=hL.p3;omega) fun c hc=>by
      unfold bc at hc;obtain⟨q,hq,rfl⟩:=Qm.1 hc;have hqr:=hL.no q hq;obtain⟨c,hc⟩:=az (l:=cs) (i:=q.toNat) (by rw[csl];rcases hqr.2 with h|⟨_,k',h,_⟩<;>omega);rw[cB hc];have:=hc23 c (an hc);omega
     have lpos:0<au (bc cs l)/\au (bc cs l)<=27:=by
      have c3:∀c∈bc cs l,1<=c/\c<=3:=fun c hc=>by
       unfold bc at hc;obtain⟨q,hq,rfl⟩:=Qm.1 hc;have hqr:=hL.no q hq;obtain⟨c,hc⟩:=az (l:=cs) (i:=q.toNat) (by rw[csl];rcases hqr.2 with h|⟨_,k',h,_⟩<;>omega);rw[cB hc];have:=hc23 c (an hc);omega
      have h1:=fB fun c hc=>(c3 c hc).1;have h2:=(wK (b:=3) U fun c hc=>⟨by have:=(c3 c hc).1;omega,(c3 c hc).2⟩).2;have h3:(3:Int) ^ (bc cs l).length<=3 ^ 3:=by
       have:(3:Nat) ^ (bc cs l).length<=3 ^ 3:=Qu Tv (by rw[kg];exact hL.p3)
       exact_mod_cast this
      omega
     obtain⟨R,hR⟩:=Qb (show 0<=au (bc cs l) by omega);have hxc:2<=x.J/\x.J<=3:=hc23 x.J (by rw[<- L.nu];exact an (dk hx));have hFm1:=hFm.1;have w3:Hm.get (H.C+3)=some (.L 0 64 [.lit (.int .i64 g),.V (H.C+2) 0 0 n 3]):=(hFm.2.1 _ U U).trans z3;have wP:Hm.get Hy.C=some (.L 0 142 [.lit (.int .u8 pc),.lit (.int .u8 par),wv]):=(hFm.2.1 _ U U).trans zP;obtain⟨C1,hC1⟩:∃C1,C1=(bw ns).set (v*3+1) (ag l):=⟨_,rfl⟩
     have c1l:C1.length=ns.length*3:=(by rw[hC1,P2,hzl]);have hcx2:C1[v*3+2]?=some (.lit (.slice none 0 0)):=by
      have:=fN (f:=TA.bY) (z:=3) iP ns v 2 x hx U;rw[hC1,Qh U,show (bw ns)[v*3+2]?=_ from this];unfold TA.bY;rw[PZ xr];rfl
     have hcx0:C1[v*3]?=some (aa x.J):=(by rw[hC1,Qh U];exact BH hx);rw[<- hC1]at hFm;have hset2:∀rv rv',setAt (C1.set (v*3+2) rv) (v*3+2) [rv']=C1.set (v*3+2) rv':=fun rv rv'=>by rw[dm (by rw[P2];omega),R9]
     have hgc2:∀rv,(C1.set (v*3+2) rv)[v*3+2]?=some rv:=fun rv=>Qa U;have hgc0:∀rv,(C1.set (v*3+2) rv)[v*3]?=some (aa x.J):=fun rv=>by rw[Qh U];exact hcx0
     refine W.kj (Q':=fun e s2=>e=.exit 8/\∃(rv:Ty) (O:List (List Int)),s2.ρ 1=.Y H.C 0 0/\s2.ρ 2=.Y (H.C+1) 0 0/\s2.ρ 3=aa n/\s2.ρ 4=.Y (H.C+3) 0 0/\s2.ρ 5=ag P/\s2.ρ 10=aa i/\O.length=R/\O=nU g x.J bs R/\(∀r∈O,ik g x.J r)/\j6 Hm s2.H (H.C+2) (C1.set (v*3+2) rv)/\ay Hm.C s2.H 59 rv (O.map ag)) ?_ ?_
     ·refine W.aM 98079714615372285444537148491336716315054007096738611200 (by rfl) (fun ρ Hr=>∃(r:Nat) (rv:Ty) (O:List (List Int)),ρ 15=aa r/\r<=R/\O.length=r/\O=nU g x.J bs r/\(∀r∈O,ik g x.J r)/\j6 Hm Hr (H.C+2) (C1.set (v*3+2) rv)/\ay Hm.C Hr 59 rv (O.map ag)) (fun ρ H=>R-(iv (ρ 15)).toNat) ?_ ?_
      ·simp only[go_sem,y15];refine⟨0,.lit (.slice none 0 0),[],rfl,U,rfl,rfl,Tu,⟨Tx,fun _ _ _=>rfl,?_⟩,.nil⟩;rw[hFm.2.2,gU hcx2]
      rintro ρr Hr ⟨r,rv,O,h15,hr,hrl,hrD,hrows,hFr,hOr⟩;refine W.env fun E7 hE7=>?_;have b1:E7 1=.Y H.C 0 0:=(by rw[hE7];simp only[go_sem,y1]);have b2:E7 2=.Y (H.C+1) 0 0:=(by rw[hE7];simp only[go_sem,y2]);have b3:E7 3=aa n:=(by rw[hE7];simp only[go_sem,y3]);have b4:E7 4=.Y (H.C+3) 0 0:=(by rw[hE7];simp only[go_sem,y4]);have b5:E7 5=ag P:=(by rw[hE7];simp only[go_sem,y5]);have b10:E7 10=aa i:=(by rw[hE7];simp only[go_sem,y10]);have b11:E7 11=.Y Hy.C 0 0:=(by rw[hE7];simp only[go_sem,y11]);have b12:E7 12=aa v:=(by rw[hE7];simp only[go_sem,y12]);have b15:E7 15=aa r:=(by rw[hE7];simp only[go_sem,h15]);clear hE7;refine W.vs ?_;have hFr1:=hFr.1;have v3:=ae ((hFr.2.1 (H.C+3) U U).trans w3);have vP:=ae ((hFr.2.1 Hy.C U U).trans wP);have vN:=ae hFr.2.2;have hzp:∀z∈ns,z.O=[]->z.F=[]:=fun z hz hz0=>by
       obtain⟨u,hu⟩:=Qd.1 hz;have hm:=tx ord n u (by have:=aG hu;omega);rw[<- hP]at hm;obtain⟨j,hj⟩:=Qd.1 hm;rcases Ql j i with h|h
       ·exact absurd hz0 (L.done j u z h hj hu).ne
       ·exact(L.todo j u z h hj hu).2
      have hcard:aA (ns.set v ⟨x.J,l,O⟩)=cs:=by
       have h1:aA (ns.set v ⟨x.J,l,O⟩)=(aA ns).set v x.J:=(by unfold aA;rw[SC]);rw[h1,gU (dk hx),L.nu]
      have hpar:aY (ns.set v ⟨x.J,l,O⟩) ⟨x.J,l,O⟩=bc cs l:=(by unfold aY;rw[hcard]);have fzN:Fz (fun _=>True) Hr 0 (.agg [aa g,.V (H.C+2) 0 0 n 3]) (bR g (ns.set v ⟨x.J,l,O⟩)):=by
       refine .agg rfl fun i hi _=>?_
       match i,hi with
       |0,_=>exact .lit _
       |1,_ =>
        show Fz _ _ _ _ (.M (ns.set v ⟨x.J,l,O⟩).length (aI (ns.set v ⟨x.J,l,O⟩)));rw[P2,hnl,NV (y:=⟨x.J,l,O⟩) hx rfl];refine .np trivial hFr.2.2 (by rw[P2,P2,gM];omega) fun j hj h2 h'=>?_;simp only[Nat.zero_add];refine BI (A:=C1) (B:=(aI ns).set (v*3+1) (ag l)) ?_ ?_ j _ _
        ·rw[hC1];exact BI (NU ns hzp) (.cK _)
        ·have:=hOr.fz (S:=fun _=>True) (nx:=0) (cs':=O.map ag) (fun _ _=>trivial) rfl fun i hi _=>by simp only[P4];exact .cK _
         rw[P8]at this;exact this
      simp only[go_sem,b4,b12,b15,v3];refine aE.nl ((af.frame (H:=Hr) (args:=[.agg [aa g,.V (H.C+2) 0 0 n 3],aa v]) (args':=[bR g (ns.set v ⟨x.J,l,O⟩),aa v]) (v':=ag (bc cs l)) aT rfl (fun i hi _=>?_) (NX g (ns.set v ⟨x.J,l,O⟩) v ⟨x.J,l,O⟩ (Qa hvn) (by rw[P2];omega) (by show (l.length:Int)<_;have:=hL.p3;omega) (fun q hq=>by
        have hqr:=hL.no q hq;rw[P2];rcases hqr.2 with h|⟨_,k',h,_⟩<;>omega) cj _ fun w Hq _ ho=>⟨_,rfl,by rw[hpar]at ho;exact ho.mf⟩)).mono fun r1 H1' hr1=>?_)
      ·match i,hi with
       |0,_=>exact fzN
       |1,_=>exact .lit _
      obtain⟨rfl,rfl⟩:=hr1;refine⟨trivial,?_⟩;simp only[go_sem];refine aE.nl (xe (bc cs l) lsm _ _ ⟨trivial,?_⟩);rw[hR];by_cases hrR:(r:Int)<R
      ·simp only[go_sem,hrR];obtain⟨xn,hxn⟩:=Qb (show 0<=x.J by omega);have rc:0<=(r:Int)*(x.J+1)/\(r:Int)*(x.J+1)<=27*4:=⟨Ry U U,QI U U U U⟩
       have c1:=PW (x.J+1) U;have c2:=PW ((r:Int)*(x.J+1)) U;have c3:=PW ((r:Int)+1) U;have hg2:=hgc2 rv;have hg0':=hgc0 rv;have hg2n:=bb hg2;obtain⟨row,hrow⟩:∃row,row=k9 g xn bs ((r:Int)*(x.J+1)):=⟨_,rfl⟩
       have hrok:ik g x.J row:=(by rw[hrow,hxn];exact Ny hg1.1 U _ _);have hpc84:∀Hq,cF prog G0 (.nl 84 [] []) [aa g,aa x.J,wv,aa ((r:Int)*(x.J+1))] Hq (ag row) []:=fun Hq=>by
        refine cF.mk (fun i hi=>by cases hi) fun H2 _ _=>?_;refine af.frame (H:=H2) (args:=[aa g,aa x.J,wv,aa ((r:Int)*(x.J+1))]) (args':=[aa g,aa xn,.M bs.length (bM bs),aa ((r:Int)*(x.J+1))]) (v':=ag row) aT rfl (fun i hi _=>?_) (Nz g xn hg1 U bs hbl hbs _ U cj _ fun w Hw _ ho=>⟨_,rfl,by rw[hrow];exact ho.mf⟩)
        match i,hi with
        |0,_=>exact .lit _
        |1,_=>rw[hxn];exact .lit _
        |2,_=>exact hwf _
        |3,_=>exact .lit _
       obtain⟨rv',Hj,hA,hO',hn',hpr'⟩:=gG (P:=prog) (H:=H1') (t:=48) (x:=ag row) (n:=H1'.C+1) Try.underlying48 Try.jQ Try.jS rfl (by rw[Try.jR,P8];omega) hOr hFr1 rfl;have na:∀id,id<Hm.C->Hj.get id=H1'.get id:=fun id h=>hpr' id U (hOr.ne h);have v3j:=ae ((na _ U).trans ((hFr.2.1 (H.C+3) U U).trans w3));have vNj:=ae ((na _ U).trans hFr.2.2);have hA':bd prog (ext H1' [.L 0 59 [.M row.length (ints row)]]) (H1'.C+1) 48 48 rv (.V H1'.C 0 0 1 1)=some (rv',Hj):=hA;refine W.dr 31 [0,1,0,0,8,0,56,120,248,0,512,0,2048,0,14336,30720,63488,0,131072,0,0,1048576,0,7340032,15728640,32505856,66060288,133693440,268434944,536870400,1073741816] mixed ?_;simp only[go_sem,b4,b11,b12,b15,v3,vP,vN,hg2,hg0',vlt,v0,c1,c2];refine⟨ag row,[],hpc84 _,?_⟩;simp only[go_sem,b4,b11,b12,b15,vNj,vlt,v0,c3,hA'];have hdj:kD (if iY rv=true then { nk:=aF rv,rs:=aF rv++[H1'.C] } else { nk:=[H1'.C+1],rs:=[H1'.C] }) { nk:=[],rs:=[H.C+3] }:=by
        rcases hOr with ⟨hO1,_⟩|⟨id,gg,hO1,hO2,hO3,_⟩
        ·rw[hO1];show kD { nk:=[H1'.C+1],rs:=[H1'.C] } _;exact⟨fun a ha=>by (obtain rfl:a=H1'.C+1:=by simpa using ha);simp;omega,fun a ha=>by simp at ha⟩
        ·rw[hO3];show kD { nk:=[id],rs:=[id]++[H1'.C] } _;exact⟨fun a ha=>by (obtain rfl:a=id:=by simpa using ha);simp;omega,fun a ha=>by simp at ha⟩
       rw[hO'.cells];refine⟨⟨U,U,U,U,U,U,U⟩,⟨hdj,hdj⟩,⟨rfl,by simp[hO'.one],by rw[P2,c1l];simp;omega⟩,by rw[aq];omega,⟨r+1,rv',O++[row],rfl,U,by simp[hrl],by rw[N0,<- hrD,hrow,show x.J.toNat=xn by omega],fun q hq=>?_,⟨by rw[aq];omega,fun id h1 h2=>by rw[ab,PX h2,na _ h1];exact hFr.2.1 id h1 h2,?_⟩,?_⟩,by rw[h15];simp only[aa,aK];omega⟩
       ·rcases Qe.1 hq with h|h
        ·exact hrows q h
        ·obtain rfl:=List.mem_singleton.1 h;exact hrok
       ·rw[ab,PZ rfl,hset2]
       ·have:=hO'.na (lo':=Hm.C) (H':=Hj.upd (H.C+2) (.L 0 83 (setAt (C1.set (v*3+2) rv) (v*3+2) [rv']))) Tx Tx fun id _ h1 _ _ _=>by rw[ab,PX U]
        simpa using this
      ·simp only[go_sem,b1,b2,b3,b4,b5,b10,hrR];exact⟨rv,O,U,by rw[hrD];congr 1;omega,hrows,hFr,hOr⟩
     ·rintro e s3 ⟨rfl,rv,O,a1,a2,a3,a4,a5,a10,hrl,hrD,hrows,hFr,hOr⟩;have hFr1:=hFr.1;obtain⟨rk,hrk,hfz⟩:∃rk,Hm.C<=rk/\Fz (fun id=>id=rk) s3.H s3.H.C rv (av O):=by
       rcases hOr with ⟨hO1,hO2⟩|⟨id,gg,hO1,hO2,hO3,hO4⟩
       ·have:O=[]:=by cases O with
         |nil=>rfl
         |cons b l=>simp at hO2
        rw[hO1,this];exact⟨s3.H.C,hFr1,.nil⟩
       ·refine⟨id,hO1,?_⟩;rw[hO3,P8];refine .np rfl hO4 (by rw[Nat.mul_one,P8]) fun j hj h2 h'=>?_;simp only[Nat.zero_add,P4];exact .cK _
      have hne2:H.C+2≠rk:=U;have hC1z:∀c∈C1,Fz (fun id=>id=rk) s3.H s3.H.C c c:=fun c hc=>by
       rw[hC1]at hc;rcases Qr hc with h|h
       ·exact BJ ns c h
       ·rw[h];exact .cK _
      refine⟨⟨s3.ρ,s3.H.dF rk (H.C+2) (.L 0 83 (C1.set (v*3+2) (av O)))⟩,cq.dF aT hFr.2.2 hne2 Tu (xz hC1z hfz),Tx,trivial,?_⟩;obtain⟨He,hHe⟩:∃He,He=s3.H.dF rk (H.C+2) (.L 0 83 (C1.set (v*3+2) (av O))):=⟨_,rfl⟩
      rw[<- hHe];have hFe:j6 Hm He (H.C+2) (C1.set (v*3+2) (av O)):=by
       rw[hHe];exact⟨hFr1,fun id h1 h2=>(jt U h2).trans (hFr.2.1 id h1 h2),tQ hne2⟩
      clear hFr hOr hfz hHe hne2 hrk;have hFe1:=hFe.1;have i1:=PW ((i:Int)+1) U;simp only[go_sem,a10,i1];have hiv:∀j u:Nat,P[j]?=some (u:Int)->u=v->j=i:=fun j u h1 h2=>by
       subst h2;exact(Re (aG h1) hperm.nd).1 (by rw[h1,hpv])
      have hrne:O≠[]:=fun h=>by rw[h]at hrl;simp at hrl;omega
      have hdone:DoneN g cs P n i ⟨x.J,l,O⟩:=⟨⟨hL.pw,fun q hq=>⟨(hL.no q hq).1,by rcases(hL.no q hq).2 with h|⟨_,k',h,_⟩<;>omega⟩⟩,hL.p3,hL.rk,by show (O.length:Int)=_;rw[hrl,hR],hrows,hrne⟩
      refine⟨U,⟨i+1,ns.set v ⟨x.J,l,O⟩,rfl,U,⟨by rw[P2];exact hnl,?_,fun j u z hj hu hz=>?_,fun j u z hj hu hz=>?_,fun j u z hj hu hz=>?_,fun j u z hu hz=>?_⟩,U,U,fun id h1 h2=>?_,?_⟩,by rw[h10];simp only[aa,aK];omega⟩
      ·have h1:aA (ns.set v ⟨x.J,l,O⟩)=(aA ns).set v x.J:=(by unfold aA;rw[SC]);rw[h1,gU (dk hx),L.nu]
      ·have huv:¬u=v:=fun h=>by have:=hiv j u hu h;omega
       rw[Qh U]at hz;exact L.todo j u z U hu hz
      ·by_cases huv:u=v
       ·obtain rfl:=hiv j u hu huv;rw[huv,Qa hvn]at hz;cases hz;exact hdone
       ·rw[Qh U]at hz;have:j≠i:=fun h=>by
         rw[h,hpv]at hu;exact huv (by have:=Option.some.inj hu;omega)
        exact L.done j u z U hu hz
      ·by_cases huv:u=v
       ·obtain rfl:=hiv j u hu huv;rw[huv,Qa hvn]at hz;rw[<- Option.some.inj hz];unfold wZ;rw[<- L.cd j v x hpv hx,<- hpw.1,<- hpw.2,<- hPk,hR,hrD];rfl
       ·rw[Qh U]at hz;have:j≠i:=fun h=>by
         rw[h,hpv]at hu;exact huv (by have:=Option.some.inj hu;omega)
        exact L.eq j u z U hu hz
      ·by_cases huv:u=v
       ·obtain rfl:=hiv j u hu huv;rw[huv,Qa hvn]at hz;rw[<- Option.some.inj hz];exact L.cd j v x hpv hx
       ·rw[Qh U]at hz;exact L.cd j u z hu hz
      ·rw[hFe.2.1 id U h2,hFm.2.1 id U h2];exact zO id h1 h2
      ·rw[hFe.2.2,N1 (y:=⟨x.J,l,O⟩) hx rfl hrne,hC1]
  ·obtain rfl:i=n:=U;simp only[go_sem,e2,e3,e4,e10,hb,m1,m3];have hnl:=L.len;have hall:∀v:Nat,v<ns.length->(v:Int)∈P:=fun v hv=>by rw[hP];exact tx ord i v (U)
   have hdn:∀(v:Nat) (x:TA),ns[v]?=some x->∃j,DoneN g cs P i j x:=fun v x hx=>by
    obtain⟨j,hj⟩:=Qd.1 (hall v (aG hx));exact⟨j,L.done j v x (by have:=aG hj;have:=hperm.len;omega) hj hx⟩
   have hdm:∀x∈ns,∃j,DoneN g cs P i j x:=fun x hx=>by
    obtain⟨v,hv⟩:=Qd.1 hx;exact hdn v x hv
   have ov:TC H (Hy.upd (H.C+1) (.L 0 64 [.lit (.int .i64 g),.V (H.C+2) 0 0 i 3])):=⟨by rw[aq];omega,fun id h=>by rw[ab,PX U,hF.2.1 id U U];exact o1.nb id h⟩
   have hz:bw ns=aI ns:=NS fun x hx=>(hdm x hx).elim fun j hj=>hj.ne;have hcl8:∀x∈ns,2<=x.J/\x.J<=3:=fun x hx=>hc23 x.J (by rw[<- L.nu];exact Qm.2 ⟨x,hx,rfl⟩);have hnet:TX g ns:=by
    refine⟨hg1,U,fun x hx=>?_,?_,BK (P:=P) (by rw[hnl];exact hperm) hall fun j v x hj hx q hq=>?_,fun x hx=>?_⟩
    ·obtain⟨j,hj⟩:=hdm x hx;have:=hcl8 x hx;exact⟨U,by rw[hnl];exact hj.pl⟩
    ·have h2:=(wK (b:=3) U (l:=aA ns) fun c hc=>by have:=hc23 c (by rw[<- L.nu];exact hc);omega).2;have h3:(3:Int) ^ (aA ns).length<=3 ^ 5:=by
      have:(3:Nat) ^ (aA ns).length<=3 ^ 5:=Qu Tv (by rw[fS];omega)
      exact_mod_cast this
     omega
    ·have hd:=L.done j v x (by have:=aG hj;have:=hperm.len;omega) hj hx;exact⟨(hd.pl.2 q hq).1,hd.rk q hq⟩
    ·obtain⟨j,hj⟩:=hdm x hx;unfold fk aY;rw[L.nu];exact⟨hj.rl,hj.ro⟩
   rw[<- hnl];rw[<- hnl]at ov;refine aw.mk ov.C (hK g ns (H.C+2) _ ov U (by rw[aq];omega) ?_ hnet U (fun x hx=>?_) (fun x hx=>?_) ⟨hg.symm,by rw[hnl];exact hn.symm,by rw[L.nu,hnl,<- hP];exact fun j v x hj hx=>L.eq j v x (by have:=aG hj;have:=hperm.len;omega) hj hx,by rw[hnl,<- hP];exact L.cd⟩)
   ·rw[ab,PX U,hF.2.2,hz]
   ·obtain⟨j,hj⟩:=hdm x hx;exact hj.p3
   ·have:=hc23 x.J (by rw[<- L.nu];unfold aA;exact List.mem_map_of_mem hx);omega
def N4 (g0:Int)(ps:List T0)(ord:List Int)(hg0:U8 g0)(hps:∀x∈ps,x.Ok)(hpl:(ps.length:Int)<2 ^ 63)(hol:(ord.length:Int)<2 ^ 63)(ho8:∀x∈ord,U8 x)(H:Tz)(K:TF->Tz->Prop)
  (hK:∀g ns N H',TC H H'->H.C<=N->N<H'.C->H'.get N=some (.L 0 83 (aI ns))->TX g ns->ns.length<=5->(∀x∈ns,x.F.length<=3)->(∀x∈ns,2<=x.J)->K (.ret (.agg [aa g,.V N 0 0 ns.length 3])) H'):
  af prog G0 40 [tt g0 ps ord] H K:=N3 g0 ps ord hg0 hps hpl hol ho8 H K fun g ns N H' a b c d e f h i _=>hK g ns N H' a b c d e f h i
def N5 (g0:Int)(ps:List T0)(ord:List Int)(hg0:U8 g0)(hps:∀x∈ps,x.Ok)(hpl:(ps.length:Int)<2 ^ 63)(hol:(ord.length:Int)<2 ^ 63)(ho8:∀x∈ord,U8 x)(H:Tz)(K:TF->Tz->Prop)
  (hK:∀g ns N H',TC H H'->H.C<=N->N<H'.C->H'.get N=some (.L 0 83 (aI ns))->TX g ns->ns.length<=5->(∀x∈ns,x.F.length<=3)->K (.ret (.agg [aa g,.V N 0 0 ns.length 3])) H'):
  af prog G0 40 [tt g0 ps ord] H K:=N4 g0 ps ord hg0 hps hpl hol ho8 H K fun g ns N H' a b c d e f h _=>hK g ns N H' a b c d e f h
def nV (s v:Nat)(hs:s<2 ^ 64)(H:Tz)(K:TF->Tz->Prop)(hK:K (.ret (.lit (.bool (s.testBit v)))) H):af prog G0 53 [bj s,aa v] H K:=by
 refine af.st (n:=10) (rs:=[.tmp 4]) func53 ?_;have s1:=fun t x y=>mg (P:=prog) (t:=t) (x:=x) (y:=y) (k':=.i64) (s:=v) hs;have s2:=fun t x y=>tO (P:=prog) (t:=t) (x:=x) (y:=y) (s:=v) hs;cases hb:s.testBit v
 ·rw[hb]at hK;simp only[go_sem,s1,s2,hb];exact aw.mk Tx hK
 ·rw[hb]at hK;simp only[go_sem,s1,s2,hb];exact aw.mk Tx hK
def di (s n:Nat):List Int:=((List.range n).filter fun v=>s.testBit v).map fun (v:Nat)=>(v:Int)
def N6 (s n:Nat):di s (n+1)=if s.testBit n=true then di s n++[(n:Int)] else di s n:=by
 unfold di;rw[Rg,List.filter_append,Q2];by_cases h:s.testBit n=true
 ·rw[PZ h];simp[h]
 ·rw[PX h];simp[h]
def nW {s:Nat}{q:Int}:q∈di s n↔∃v:Nat,q=v/\v<n/\s.testBit v=true:=by
 unfold di;simp only[Qm,List.mem_filter,QN];exact⟨fun ⟨v,⟨h1,h2⟩,h3⟩=>⟨v,h3.symm,h1,h2⟩,fun ⟨v,h1,h2,h3⟩=>⟨v,⟨h2,h3⟩,h1.symm⟩⟩
def N7 (s n:Nat):(di s n).Pairwise (·<·):=by
 unfold di;refine List.Pairwise.map _ (R:=(·<·)) (fun a b h=>U) ?_;exact List.Pairwise.filter _ List.pairwise_lt_range
def BM (s n:Nat):(di s n).length<=n:=by
 unfold di;rw[P8];exact QH (Th _ _) (Tu)
def BN (s:Nat)(hs:s<2 ^ 64)(H:Tz)(K:TF->Tz->Prop)(hK:K (.ret (ag (di s 8))) H):af prog G0 43 [bj s] H K:=by
 refine af.nl ⟨_,func43,rfl,rfl⟩ fun hcl=>?_;refine af.st (n:=17) (rs:=[.tmp 2]) func43 ?_;simp only[go_sem];refine W.aM 65528 (by rfl) (fun ρ H'=>∃k:Nat,ρ 4=aa k/\k<=8/\TC H H'/\ay H.C H' 3 (ρ 3) (ints (di s k))) (fun ρ H=>8-(iv (ρ 4)).toNat) ?_ ?_
 ·simp only[go_sem];exact⟨0,rfl,U,.refl _,.nil⟩
 rintro ρ H' ⟨k,h4,hk,ov,h3⟩;refine W.en (fun E=>E 0=bj s /\ E 3=ρ 3 /\ E 4=aa k) (by simp only[go_sem,h4]) fun E ⟨e0,e3,e4⟩=>?_
 refine W.vs ?_;by_cases hb:(k:Int)<8
 ·have w1:=PW ((k:Int)+1) U;have hbl:=BM s k;have hsu:=N6 s k;simp only[go_sem,e0,e4,hb];refine aE.nl (nV s k hs _ _ ⟨trivial,?_⟩);by_cases hbit:s.testBit k=true
  ·obtain⟨v',H2,hA,ov2,hO,hn2,_⟩:=il (k:Int) ov h3 U;rw[PZ hbit]at hsu;simp only[go_sem,e3,e4,hbit,w1,hA];exact⟨by have:=ov2.C;omega,⟨k+1,rfl,U,ov2,by rw[hsu];exact hO⟩,by rw[h4];simp only[aa,aK];omega⟩
  ·rw[PX hbit]at hsu;have hbf:s.testBit k=false:=(by simpa using hbit);simp only[go_sem,e3,e4,hbf,w1];exact⟨ov.C,⟨k+1,rfl,U,ov,by rw[hsu];exact h3⟩,by rw[h4];simp only[aa,aK];omega⟩
 ·obtain rfl:k=8:=U
  simp only[go_sem,e3,e4];exact aw.bJ aT hcl ov (h3.dW fun i hi=>hi) hK
def BO:Ty->Nat
 |.V _ _ _ n _=>n
 |_=>0
def BP {v:Ty}(h:ay lo H e v cs):BO v=cs.length:=by
 rcases h with ⟨rfl,rfl⟩|⟨_,_,_,_,rfl,_⟩<;>rfl
def w7 (d:TD):List Ty:=[.lit (.int .i64 d.X),.M d.I.length (aH d.I),.lit (.int .u64 (d.nn:Int)),.M d.Q.length (aL d.Q)]
def tA (d:TD):Ty:=.agg (w7 d)
def fF (d:TD)(cs:List Ty):List Ty:=[.lit (.int .i64 d.X),.M d.I.length cs,.lit (.int .u64 (d.nn:Int)),.M d.Q.length (aL d.Q)]
def bO (d:TD)(cs:List Ty):Ty:=.agg (fF d cs)
def fQ (d:TD)(cs:List Ty):bO d cs=.agg (fF d cs):=rfl
def N8 (d:TD):tA d=.agg (w7 d):=rfl
def BQ (d:TD)(cs:List Ty)(hd:d.nn<2 ^ 64)(hl:(d.I.length:Int)<2 ^ 39)(H:Tz)(K:TF->Tz->Prop)(hK:K (.ret (ag (bf (aV d)))) H):af prog G0 68 [bO d cs] H K:=by
 refine af.nl ⟨_,func68,rfl,rfl⟩ fun hcl=>?_;refine af.st (n:=21) (rs:=[.tmp 2]) func68 ?_;simp only[go_sem,fQ,fF];obtain⟨H1,hH1⟩:∃H1,H1=ext H [.L 0 39 [.lit (.int .i64 d.X),.M d.I.length cs,.lit (.int .u64 (d.nn:Int)),.M d.Q.length (aL d.Q)]]:=⟨_,rfl⟩
 have l1:=ae (show H1.get H.C=some (.L 0 39 [.lit (.int .i64 d.X),.M d.I.length cs,.lit (.int .u64 (d.nn:Int)),.M d.Q.length (aL d.Q)]) by rw[hH1];exact cW ..);have n1:H1.C=H.C+1:=hH1▸rfl
 have o1:TC H H1:=hH1▸.ext _ _
 rw[<- hH1];refine W.aM 1048568 (by rfl) (fun ρ H'=>∃k:Nat,ρ 4=aa k/\k<=d.I.length/\TC H1 H'/\ay H1.C H' 3 (ρ 3) (ints (bf (dx d.nn k)))) (fun ρ H=>d.I.length-(iv (ρ 4)).toNat) ?_ ?_
 ·simp only[go_sem];exact⟨0,rfl,U,.refl _,.nil⟩
 rintro ρ H' ⟨k,h4,hk,ov,h3⟩;refine W.en (fun E=>E 1=.Y H.C 0 0 /\ E 3=ρ 3 /\ E 4=aa k) (by simp only[go_sem,h4]) fun E ⟨e1,e3,e4⟩=>?_
 refine W.vs ?_;have l2:=(ov.Z (g:=0) (by omega:H.C<H1.C)).trans l1;by_cases hb:(k:Int)<d.I.length
 ·have w1:=PW ((k:Int)+1) U;have hbl:(bf (dx d.nn k)).length<=k:=by simp only[bf,P8];exact kY
  have hsu:=ta d.nn k;simp only[go_sem,e1,e4,l2,hb];refine aE.nl (nV d.nn k hd _ _ ⟨trivial,?_⟩);by_cases hbit:d.nn.testBit k=true
  ·obtain⟨v',H2,hA,ov2,hO,hn2,_⟩:=il (k:Int) ov h3 U;rw[PZ hbit]at hsu;simp only[go_sem,e3,e4,hbit,w1,hA];exact⟨ov2.C,⟨k+1,rfl,U,ov2,by rw[hsu,show bf (dx d.nn k++[k])=bf (dx d.nn k)++[(k:Int)] by simp[bf]];exact hO⟩,by rw[h4];simp only[aa,aK];omega⟩
  ·rw[PX hbit]at hsu;have hbf:d.nn.testBit k=false:=(by simpa using hbit);simp only[go_sem,e3,e4,hbf,w1];exact⟨ov.C,⟨k+1,rfl,U,ov,by rw[hsu];exact h3⟩,by rw[h4];simp only[aa,aK];omega⟩
 ·have hke:k=d.I.length:=U
  rw[hke]at h3;simp only[go_sem,e1,e3,e4,l2,hb];exact aw.bJ aT hcl (o1.trans ov) (h3.dW fun i hi=>U) hK
def Ob (g:Int)(ns:List TA)(hl:(ns.length:Int)<2 ^ 39)(hp:∀x∈ns,(x.F.length:Int)<2 ^ 39/\∀q∈x.F,0<=q/\q<64)(H:Tz)(K:TF->Tz->Prop)
  (hK:∀v H',TC H H'->ay H.C H' 36 v ((aX ns).map bj)->K (.ret v) H'):af prog G0 42 [bR g ns] H K:=by
 refine af.nl ⟨_,func42,rfl,rfl⟩ fun hcl=>?_;refine af.st (n:=43) (rs:=[.tmp 2]) func42 ?_;simp only[go_sem,bR,cz];obtain⟨H1,hH1⟩:∃H1,H1=ext H [.L 0 64 [.lit (.int .i64 g),.M ns.length (aI ns)]]:=⟨_,rfl⟩
 have l1:H1.Z H.C 0=some (64,[.lit (.int .i64 g),.M ns.length (aI ns)]):=by rw[hH1];exact ae (cW ..)
 have n1:H1.C=H.C+1:=hH1▸rfl
 have o1:TC H H1:=hH1▸.ext _ _
 rw[<- hH1];refine W.aM 4398046511096 (by rfl) (fun ρ H'=>∃k:Nat,ρ 4=aa k/\k<=ns.length/\ρ 1=.Y H.C 0 0/\TC H1 H'/\ay H1.C H' 36 (ρ 3) (((aX ns).take k).map bj)) (fun ρ H=>ns.length-(iv (ρ 4)).toNat) ?_ ?_
 ·simp only[go_sem];exact⟨0,rfl,U,.refl _,.nil⟩
 rintro ρ H' ⟨k,h4,hk,h1,ov,h3⟩;refine W.vs ?_;have l2:=(ov.Z (g:=0) (by omega:H.C<H1.C)).trans l1;by_cases hb:(k:Int)<ns.length
 ·obtain⟨x,hx⟩:=az (l:=ns) (i:=k) U;have hne:=dN hx;have e1:=jT hx;obtain⟨xl,xr⟩:=hp x (an hx);simp only[go_sem,h4,h1,l2,hb];refine W.aM 274877890656 (by rfl) (fun ρ' H2=>H2=H'/\∃j:Nat,ρ' 6=aa j/\j<=x.F.length/\ρ' 5=bj (bV (x.F.take j))) (fun ρ' H=>x.F.length-(iv (ρ' 6)).toNat) ?_ ?_
  ·simp only[go_sem];exact⟨0,rfl,U,rfl⟩
  rintro ρ' H2 ⟨rfl,j,h6,hj,h5⟩;refine W.vs ?_;by_cases hb2:(j:Int)<x.F.length
  ·obtain⟨q,hq⟩:=az (l:=x.F) (i:=j) U;obtain⟨q0,q1⟩:=xr q (an hq);obtain⟨u,rfl⟩:=Qb q0;have hne2:=bb hq;have w1:=RY (u:Int) U;have w2:=PW ((j:Int)+1) U;have b1:bV (x.F.take j)<2 ^ 64:=pW fun p hp=>by have:=xr p (Qk hp);omega
   have s1:=fun t x y=>mh (P:=prog) (t:=t) (x:=x) (y:=y) (k':=.u64) (s:=u) U;have s2:=fun t x y=>js (P:=prog) (t:=t) (x:=x) (y:=y) (b:=2 ^ u) b1 (Ra Tv U);simp only[go_sem,h4,h1,l2,hb,hne,e1,h6,h5,hb2,hq,hne2,w1,w2,s1,s2];exact⟨⟨j+1,Tu,U,by rw[aO hq,wL];rfl⟩,U⟩
  ·obtain⟨v',H3,hA,ov2,hO,hn2,_⟩:=B6 (bV x.F) ov h3 (by simp[aX];omega);have w1:=PW ((k:Int)+1) U;rw[PY U]at h5;simp only[go_sem,h4,h1,l2,hb,hne,e1,h6,h5,hb2,w1,hA];refine⟨by have:=ov2.C;omega,⟨k+1,Tu,U,ov2,?_⟩,U⟩;rw[aO (kh hx)];exact hO
 ·simp only[go_sem,h4,h1,l2,hb];rw[PY (by simp[aX];omega)]at h3;exact aw.mk (o1.trans ov).C (hK _ _ (o1.trans ov) (h3.na U Tx fun _ _ _ _ _ _=>rfl))
def Oc (ps:List Nat)(hl:ps.length<=60)(hp:∀p∈ps,p<2 ^ 64)(r:List Nat)(htp:dO ps=some r)(H:Tz)(K:TF->Tz->Prop)(hK:∀v H',TC H H'->ay H.C H' 3 v (ints (bf r))->K (.ret v) H'):af prog G0 85 [fj ps] H K:=by
 refine af.nl ⟨_,func85,rfl,rfl⟩ fun hcl=>?_;refine af.st (n:=40) (rs:=[.tmp 2]) func85 ?_;simp only[go_sem];refine W.aM 549755813880 (by rfl) (fun ρ H'=>∃(out:List Nat) (done:Nat),ρ 4=bj done/\done<2 ^ 64/\out.length<=ps.length/\TC H H'/\ay H.C H' 3 (ρ 3) (ints (bf out))/\fD ps (ps.length-out.length) out done=some r) (fun ρ H=>ps.length-BO (ρ 3)) ?_ ?_
 ·simp only[go_sem];exact⟨[],0,rfl,Tv,Tu,.refl _,.nil,htp⟩
 rintro ρ H' ⟨out,done,h4,hd,ho,ov,h3,ht⟩;refine W.en (fun E=>E 0=fj ps /\ E 3=ρ 3 /\ E 4=bj done) (by simp only[go_sem,h4]) fun E ⟨e0,e3,e4⟩=>?_
 refine W.vs ?_;have hlen:=tw h3 (d:=some (.slice 3)) rfl;have hol:=BP h3;have nl:(bf out).length=out.length:=by simp[bf]
 rw[mV,aR,nl]at hlen;rw[aR,nl]at hol;by_cases hb:(out.length:Int)<ps.length
 ·simp only[go_sem,e0,e3,hlen,hb];have hk1:ps.length-out.length=(ps.length-(out.length+1))+1:=U
  refine W.aM 549755811896 (by rfl) (fun ρ2 H2=>H2=H'/\∃j:Nat,ρ2 5=aa j/\j<=ps.length/\ρ2 3=ρ 3/\ρ2 4=bj done/\∀v,v<j->gQ ps done v=false) (fun ρ2 H=>ps.length-(iv (ρ2 5)).toNat) ?_ ?_
  ·simp only[go_sem,e3,e4];exact⟨0,rfl,U,fun v h=>absurd h (Qf _)⟩
  rintro ρ2 H2 ⟨rfl,j,h5,hj,h3',h4',hno⟩;refine W.en (fun E2=>E2 0=fj ps /\ E2 3=ρ 3 /\ E2 4=bj done /\ E2 5=aa j) (by simp only[go_sem,e0,h3',h4',h5]) fun E2 ⟨f0,f3,f4,f5⟩=>?_
  refine W.vs ?_;by_cases hb2:(j:Int)<ps.length
  ·obtain⟨p,hpj⟩:=az (l:=ps) (i:=j) U;have hpj':(ps.map bj)[j]?=some (bj p):=(by rw[List.getElem?_map,hpj];rfl);have hne:=bb hpj';have s3:=fun t x y=>xx (P:=prog) (t:=t) (x:=x) (y:=y) (a:=p) (b:=done);have w1:=PW ((j:Int)+1) U;have w2:=RY (j:Int) U;have cont:gQ ps done j=false->∀v,v<j+1->gQ ps done v=false:=fun h v hv=>by
    rcases Ql v j with h'|h'
    ·exact hno v h'
    ·obtain rfl:v=j:=U;exact h
   have fe:gQ ps done j=(!done.testBit j && decide (fH p done=0)):=(by unfold gQ;rw[cB hpj]);simp only[go_sem,f0,f4,f5,hb2];refine aE.nl (xi done j hd U _ _ ⟨trivial,?_⟩);cases hbit:done.testBit j;rotate_left
   ·simp only[go_sem,f3,f4,f5,w1];exact⟨⟨j+1,rfl,U,cont (by rw[fe,hbit];rfl)⟩,by rw[h5];simp only[aa,aK];omega⟩
   by_cases hz:fH p done=0;rotate_left
   ·have hz':¬((fH p done:Nat):Int)=0:=U;simp only[go_sem,f0,f3,f4,f5,hb2,hpj',hne,s3,hz',w1];exact⟨⟨j+1,rfl,U,cont (by rw[fe,hbit];simp[hz])⟩,by rw[h5];simp only[aa,aK];omega⟩
   have hz':((fH p done:Nat):Int)=0:=U;have hnx:iL ps done=some j:=Cd U hno (by rw[fe,hbit];simp[hz]);obtain⟨v',H3,hA,ov2,hO,hn2,_⟩:=il (j:Int) ov h3 (by simp[bf];omega);have b2:(2:Nat) ^ j<2 ^ 64:=Ra Tv U;have s4:=fun t x y=>mh (P:=prog) (t:=t) (x:=x) (y:=y) (k':=.u64) (s:=j) U;have s5:=fun t x y=>js (P:=prog) (t:=t) (x:=x) (y:=y) hd b2;simp only[go_sem,f0,f3,f4,f5,hb2,hpj',hne,s3,s4,s5,hz',w2,hA];have hO':ay H.C H3 3 v' (ints (bf (out++[j]))):=by
    have e:bf (out++[j])=bf out++[(j:Int)]:=(by simp[bf]);rw[e];exact hO
   have hol':=BP hO';have nl':(bf (out++[j])).length=out.length+1:=(by simp[bf]);rw[aR,nl']at hol';refine⟨ov2.C,⟨out++[j],done |||2 ^ j,rfl,RC hd b2,by simp;omega,ov2,hO',?_⟩,by rw[hol,hol'];omega⟩;rw[<- ht,hk1]
   conv=>rhs;unfold fD
   rw[hnx,List.length_append];rfl
  ·have hnn:iL ps done=none:=Ce fun v hv=>hno v U;rw[hk1]at ht;unfold fD at ht;rw[hnn]at ht;cases ht
 ·simp only[go_sem,e0,e3,hlen,hb];have e:ps.length-out.length=0:=U
  rw[e]at ht;unfold fD at ht;cases ht;exact aw.mk ov.C (hK _ _ ov h3)
def Od {v:Ty}{l:List Nat}(h:ay lo H e v (l.map bj)):TP H v (fj l):=by
 rcases h with ⟨rfl,h⟩|⟨id,g,h1,h2,rfl,h4⟩
 ·have:l=[]:=by cases l with
   |nil=>rfl
   |cons a l=>simp at h
  subst this;exact .nil
 ·have e:fj l=.M (l.map bj).length (l.map bj):=by rw[P8];rfl
  rw[e];refine .V h4 Tu fun j hj h2 h'=>?_;simp only[Nat.zero_add,P4];exact .lit _
def Oe (g:Int)(ns:List TA)(hl:ns.length<=8)(hp:∀x∈ns,(x.F.length:Int)<2 ^ 39/\∀q∈x.F,0<=q/\q<(ns.length:Int))(r:List Nat)(htp:dO (aX ns)=some r)(H:Tz)(K:TF->Tz->Prop)
  (hK:∀v H',TC H H'->ay H.C H' 3 v (ints (bf r))->K (.ret v) H'):af prog G0 41 [bR g ns] H K:=by
 have hsl:(aX ns).length=ns.length:=by simp[aX]
 have hs64:∀p∈aX ns,p<2 ^ 64:=fun p h=>P5 (tI (n:=ns.length) (fun x hx q hq=>(hp x hx).2 q hq) p h) (Qu Tv U);refine af.st (n:=6) (rs:=[.tmp 2]) func41 ?_;simp only[go_sem,bR,cz];refine aE.nl (B7 g ns U (fun x hx=>⟨(hp x hx).1,fun q hq=>by have:=(hp x hx).2 q hq;omega⟩) _ _ ⟨trivial,?_⟩);simp only[go_sem];refine aE.nl (Oc (aX ns) U hs64 r htp _ _ fun v H' ov ho=>⟨trivial,?_⟩);simp only[go_sem];have o1:TC H H':=(TC.ext _ _).trans ov;exact aw.mk o1.C (hK _ _ o1 (ho.na (by simp[bh]) Tx fun _ _ _ _ _ _=>rfl))
structure T6 where
 vars:Int
 w:List Int
def I8 (n:Int):Prop:=-128<=n/\n<128
def ma (l:List Int):List Ty:=l.map fun n=>.lit (.int .i8 n)
def N9 (h:l[k]?=some a):(ma l)[k]?=some (.lit (.int .i8 a)):=by unfold ma;rw[List.getElem?_map,h];rfl
def T6.cells (x:T6):List Ty:=[.lit (.int .u8 x.vars),.M x.w.length (ma x.w)]
def T6.Ok (x:T6):Prop:=U8 x.vars/\(x.w.length:Int)<2 ^ 63/\∀b∈x.w,I8 b
def tB (p:Int)(k:Nat):Bool:=decide (IntKind.u8.wrap (((BitVec.ofInt IntKind.u8.bits (p.fdiv (2 ^ (min ((k:Int)).toNat IntKind.u8.bits))) &&& BitVec.ofInt IntKind.u8.bits 1).toNat:Nat):Int)=1)
def cS (p:Int):Nat->List Int
 |0=>[]
 |v+1=>if tB p v=true/\(cS p v).length<3 then cS p v++[(v:Int)] else cS p v
theorem tC (p:Int):∀n:Nat,(cS p n).Pairwise (·<·)/\(∀q∈cS p n,0<=q/\q<n)/\(cS p n).length<=3
 |0=>⟨by simp[cS],by simp[cS],by simp[cS]⟩
 |n+1=>by
  obtain⟨h1,h2,h3⟩:=tC p n;unfold cS;split
  ·rename_i h;refine⟨Rz.2 ⟨h1,Tu,fun a ha b hb=>by obtain rfl:=List.mem_singleton.1 hb;exact(h2 a ha).2⟩,fun q hq=>?_,by simp;omega⟩;rcases Qe.1 hq with h4|h4
   ·have:=h2 q h4;omega
   ·obtain rfl:=List.mem_singleton.1 h4;omega
  ·exact⟨h1,fun q hq=>by have:=h2 q hq;omega,h3⟩
def dz (p:T6)(ns:List TA):TI:=⟨cS p.vars ns.length,(List.range (au (bc (aA ns) (cS p.vars ns.length))).toNat).map fun (i:Nat)=>if p.w.length=0 then 0 else (p.w.getD (i % p.w.length) 0).tmod 101⟩
def Oa (p:T6)(ns:List TA)(hc:∀x∈ns,1<=x.J):TY ns (dz p ns):=by
 obtain⟨h1,h2,h3⟩:=tC p.vars ns.length;refine⟨⟨h1,h2⟩,?_,fun x hx=>?_⟩
 ·have hp:1<=au (bc (aA ns) (cS p.vars ns.length)):=fB fun c h=>by
   unfold bc at h;obtain⟨q,hq,rfl⟩:=Qm.1 h;have:=h2 q hq;obtain⟨x,hx⟩:=az (l:=ns) (i:=q.toNat) U;rw[cB (dk hx)];exact hc x (an hx)
  show ((List.map _ _).length:Int)=au (bc (aA ns) (cS p.vars ns.length));rw[P8,RD];omega
 ·unfold dz at hx;obtain⟨i,_,rfl⟩:=Qm.1 hx;split
  ·omega
  ·have h:=Int.natAbs_tmod (p.w.getD (i % p.w.length) 0) 101;have h2:=SN (p.w.getD (i % p.w.length) 0).natAbs (show (101:Int).natAbs > 0 by decide);have h3:(101:Int).natAbs=101:=rfl;rw[h3]at h h2;omega
def Of (p:T6)(hp:p.Ok)(g:Int)(ns:List TA)(h5:1<=ns.length/\ns.length<=8)(hc:∀x∈ns,1<=x.J/\x.J<=4)(H:Tz)(K:TF->Tz->Prop)
  (hK:∀v1 v2 H',TC H H'->ay H.C H' 3 v1 (ints (dz p ns).vars)->ay H.C H' 3 v2 (ints (dz p ns).w)->K (.ret (.agg [v1,v2])) H'):af prog G0 44 [.agg p.cells,bR g ns] H K:=by
 refine af.st (n:=70) (rs:=[.cell 4 85]) func44 ?_;simp only[go_sem,bR,cz,T6.cells];obtain⟨H1,hH1⟩:∃H1,H1=ext H [.L 0 103 [.lit (.int .u8 p.vars),.M p.w.length (ma p.w)],.L 0 64 [.lit (.int .i64 g),.M ns.length (aI ns)],.L 0 85 [.lit (.slice none 0 0),.lit (.slice none 0 0)],.L 0 85 [.lit (.slice none 0 0),.lit (.slice none 0 0)]]:=⟨_,rfl⟩
 have g0:=dA hH1
 have g1:=gE hH1 1 rfl
 have g2:=gE hH1 2 rfl
 have g3:=gE hH1 3 rfl
 have n1:H1.C=H.C+4:=hH1▸rfl
 have o1:TC H H1:=hH1▸.ext _ _
 rw[<- hH1];clear hH1;obtain⟨cs,hcs⟩:∃cs,cs=aA ns:=⟨_,rfl⟩
 have smk:∀k,k<=ns.length->eH (bc cs (cS p.vars k)):=fun k hk=>by
  obtain⟨h1,h2,h3⟩:=tC p.vars k;refine qv (by rw[kg];omega) fun c h=>?_;unfold bc at h;obtain⟨q,hq,rfl⟩:=Qm.1 h;have:=h2 q hq;obtain⟨x,hx⟩:=az (l:=ns) (i:=q.toNat) U;rw[hcs,cB (dk hx)];exact hc x (an hx)
 refine W.aM 8796093021376 (by rfl) (fun ρ Hx=>∃(k:Nat) (v1:Ty),ρ 7=aa k/\k<=ns.length/\ρ 6=aa (au (bc cs (cS p.vars k)))/\H1.C<=Hx.C/\(∀id,id<H1.C->id≠H.C+3->Hx.get id=H1.get id)/\Hx.get (H.C+3)=some (.L 0 85 [v1,.lit (.slice none 0 0)])/\ay H1.C Hx 3 v1 (ints (cS p.vars k))) (fun ρ H=>ns.length-(iv (ρ 7)).toNat) ?_ ?_
 ·simp only[go_sem];exact⟨0,_,rfl,U,rfl,g3,.nil⟩
 rintro ρ Hx ⟨k,v1,h7,hk,h6,hnx,hold,hu,hO⟩;refine W.en (fun E=>E 2=.Y H.C 0 0 /\ E 3=.Y (H.C+1) 0 0 /\ E 4=.Y (H.C+2) 0 0 /\ E 5=.Y (H.C+3) 0 0 /\ E 6=aa (au (bc cs (cS p.vars k))) /\ E 7=aa k) (by simp only[go_sem,h6,h7]) fun E ⟨e2,e3,e4,e5,e6,e7⟩=>?_
 refine W.vs ?_;have l0:=ae ((hold _ U U).trans g0);have l1:=ae ((hold _ U U).trans g1);have l3:=ae hu;by_cases hb:(k:Int)<ns.length
 ·obtain⟨x,hx⟩:=az (l:=ns) (i:=k) U;have hne:=dN hx;have c0:=gO hx;have w1:=PW ((k:Int)+1) U;obtain⟨r1,hr1⟩:∃r1,p.vars.fdiv (2 ^ (min ((k:Int)).toNat IntKind.u8.bits))=r1:=⟨_,rfl⟩
  obtain⟨r2,hr2⟩:∃r2,IntKind.u8.wrap (((BitVec.ofInt IntKind.u8.bits r1 &&& BitVec.ofInt IntKind.u8.bits 1).toNat:Nat):Int)=r2:=⟨_,rfl⟩
  have s1:∀t o1 o2,bg prog .shr t o1 o2 (.lit (.int .u8 p.vars)) (.lit (.int .i64 (k:Int)))=some (.lit (.int .u8 r1)):=fun t o1 o2=>by rw[tL U,hr1]
  have s2:∀t o1 o2,bg prog .and t o1 o2 (.lit (.int .u8 r1)) (.lit (.int .u8 1))=some (.lit (.int .u8 r2)):=fun t o1 o2=>by rw[tM,hr2]
  have hb8:tB p.vars k=decide (r2=1):=by unfold tB;rw[hr1,hr2]
  have hlen:=tw hO (d:=some (.slice 3)) rfl;rw[mV,aR]at hlen;obtain⟨u1,u2,u3⟩:=tC p.vars k;have hstep:cS p.vars (k+1)=if tB p.vars k=true/\(cS p.vars k).length<3 then cS p.vars k++[(k:Int)] else cS p.vars k:=rfl
  by_cases hr:r2=1
  ·by_cases h3:((cS p.vars k).length:Int)<3
   ·rw[PZ ⟨by rw[hb8,Rx hr],U⟩]at hstep;obtain⟨v',H3,hA,hO3,hn3,hp3⟩:=gG (P:=prog) (H:=Hx) (t:=59) (x:=aa k) (n:=Hx.C+1) Try.underlying59 Try.dC Try.eb rfl (by rw[Try.eR,aR];omega) hO hnx rfl;simp only[aa]at hA;have na:∀id,id<H1.C->H3.get id=Hx.get id:=fun id h=>hp3 id U (hO.ne h);have l1j:=ae ((na _ U).trans ((hold _ U U).trans g1));have l3j:=ae ((na _ U).trans hu);have hvc:=hO3.cells;have hvo:=hO3.one;have l1u:∀b,(H3.upd (H.C+3) b).Z (H.C+1) 0=some (64,[.lit (.int .i64 g),.M ns.length (aI ns)]):=fun b=>(eS U).trans l1j;have hpr:au (bc cs (cS p.vars (k+1)))=au (bc cs (cS p.vars k))*x.J:=by
     rw[hstep];unfold bc;rw[Q2,hcs];show au (_++[(aA ns).getD ((k:Int)).toNat 0])=_;rw[fO,Int.toNat_natCast,cB (dk hx)]
    have hps:=(smk (k+1) U).prod;rw[hpr]at hps;have w2:=PW (au (bc cs (cS p.vars k))*x.J) U;simp only[go_sem,e2,e3,e5,e6,e7,l0,l1,l3,l3j,hb,s1,s2,hr,hlen,h3,w1,w2,hne,c0,hA,hvc,hvo,l1u];refine⟨by rw[aq];omega,⟨k+1,v',rfl,U,by rw[hpr],by rw[aq];omega,fun id h1 h2=>by rw[ab,PX h2,na _ h1];exact hold id h1 h2,by rw[ab,PZ rfl],?_⟩,by rw[h7];simp only[aa,aK];omega⟩;rw[hstep];have:=hO3.na (lo':=H1.C) (H':=H3.upd (H.C+3) (.L 0 85 [v',.lit (.slice none 0 0)])) Tx Tx fun id _ h1 _ _ _=>by rw[ab,PX U]
    simpa[ints,aa] using this
   ·rw[PX U]at hstep;simp only[go_sem,e2,e3,e5,e6,e7,l0,l1,l3,hb,s1,s2,hr,hlen,h3,w1];exact⟨hnx,⟨k+1,v1,rfl,U,by rw[hstep],hnx,hold,hu,by rw[hstep];exact hO⟩,by rw[h7];simp only[aa,aK];omega⟩
  ·rw[PX (by rw[hb8,RM hr];simp)]at hstep;simp only[go_sem,e2,e3,e6,e7,l0,l1,hb,s1,s2,hr,w1];exact⟨hnx,⟨k+1,v1,rfl,U,by rw[hstep],hnx,hold,hu,by rw[hstep];exact hO⟩,by rw[h7];simp only[aa,aK];omega⟩
 ·have hke:k=ns.length:=U
  simp only[go_sem,e3,e7,l1,hb];rw[hke]at hO e6;obtain⟨R,hR⟩:=Qb (smk ns.length U).prod.1;have hR2:=(smk ns.length U).prod.2;rw[hR]at e6 hR2;have hwl:(dz p ns).w=(List.range R).map fun (i:Nat)=>if p.w.length=0 then 0 else (p.w.getD (i % p.w.length) 0).tmod 101:=by
   unfold dz;rw[<- hcs,hR];rfl
  have wget:∀(i:Nat) (x:Int),i<R->(if p.w.length=0 then 0 else (p.w.getD (i % p.w.length) 0).tmod 101)=x->(dz p ns).w[i]?=some x:=fun i x hi hx=>by
   rw[hwl,List.getElem?_map,Tp hi,Option.map_some,hx]
  have wlen:(dz p ns).w.length=R:=by rw[hwl];simp
  refine W.aM 590295801562612630272 (by rfl) (fun ρ H2=>∃(i:Nat) (v2:Ty),ρ 8=aa i/\i<=R/\Hx.C<=H2.C/\(∀id,id<Hx.C->id≠H.C+3->H2.get id=Hx.get id)/\H2.get (H.C+3)=some (.L 0 85 [v1,v2])/\ay Hx.C H2 3 v2 (ints ((dz p ns).w.take i))) (fun ρ H=>R-(iv (ρ 8)).toNat) ?_ ?_
  ·simp only[go_sem];exact⟨0,_,rfl,U,hu,.nil⟩
  rintro ρ2 H2 ⟨i,v2,h8,hi,hn2,hold2,hu2,hO2⟩;refine W.en (fun E2=>E2 2=.Y H.C 0 0 /\ E2 4=.Y (H.C+2) 0 0 /\ E2 5=.Y (H.C+3) 0 0 /\ E2 6=aa R /\ E2 8=aa i) (by simp only[go_sem,e2,e4,e5,e6,h8]) fun E2 ⟨f2,f4,f5,f6,f8⟩=>?_
  refine W.vs ?_;have o02:∀id,id<H1.C->id≠H.C+3->H2.get id=H1.get id:=fun id h1 h2=>(hold2 id U h2).trans (hold id h1 h2);have m0:=ae ((o02 _ U U).trans g0);have m3:=ae hu2;by_cases hb2:(i:Int)<R
  ·have w1:=PW ((i : Int)+1) U;have hlen:=tw hO2 (d:=some (.slice 3)) rfl;rw [mV,aR] at hlen;have tl : ((dz p ns).w.take i).length=i:=(by rw [P9,wlen];omega);have app : ∀ x : Int,(dz p ns).w[i]?=some x→∃ v' H3,bd prog (ext H2 [.L 0 3 [.lit (.int .i64 x)]]) (H2.C+1) 59 59 v2 (.V H2.C 0 0 1 1)=some (v',H3)∧v'.cells=[v']∧v'.one=true∧H3.Z (H.C+3) 0=some (85,[v1,v2])∧H2.C≤H3.C ∧
     ∀b,b=.L 0 85 [v1,v']->(∀id,id<Hx.C->id≠H.C+3->(H3.upd (H.C+3) b).get id=Hx.get id)/\(H3.upd (H.C+3) b).get (H.C+3)=some (.L 0 85 [v1,v'])/\ay Hx.C (H3.upd (H.C+3) b) 3 v' (ints ((dz p ns).w.take (i+1))):=fun x hx=>by
    obtain⟨v',H3,hA,hO3,hn3,hp3⟩:=gG (P:=prog) (H:=H2) (t:=59) (x:=aa x) (n:=H2.C+1) Try.underlying59 Try.dC Try.eb rfl (by rw[Try.eR,aR];omega) hO2 hn2 rfl;simp only[aa]at hA;have na:∀id,id<Hx.C->H3.get id=H2.get id:=fun id h=>hp3 id U (hO2.ne h);refine⟨v',H3,hA,hO3.cells,hO3.one,ae ((na _ U).trans hu2),hn3,fun b hb=>⟨fun id h1 h2=>by rw[ab,PX h2,na _ h1];exact hold2 id h1 h2,by rw[ab,PZ rfl,hb],?_⟩⟩;rw[aO hx];have:=hO3.na (lo':=Hx.C) (H':=H3.upd (H.C+3) b) Tx Tx fun id _ h1 _ _ _=>by rw[ab,PX U]
    simpa[ints,aa] using this
   by_cases hz:(0:Int)<p.w.length
   ·have hzn:¬(p.w.length:Int)=0:=U;have m1:(i:Int).tmod p.w.length=((i % p.w.length:Nat):Int):=(by rw[Qp U];rfl);have m2:=SN i (show p.w.length > 0 by omega);obtain⟨q,hq⟩:∃q,q=i % p.w.length:=⟨_,rfl⟩
    rw[<- hq]at m1 m2;have hq0:(q:Int) >= 0:=U;have hql:(q:Int)<p.w.length:=U;obtain⟨b,hbg⟩:=az (l:=p.w) (i:=q) m2;have b8:=hp.2.2 b (an hbg);have hbg':=N9 hbg;have hbne:=bb hbg';unfold I8 at b8;have w4:IntKind.i64.wrap b=b:=PW _ U;have tb:-9223372036854775808<=b.tmod 101/\b.tmod 101<9223372036854775808:=by
     have h:=Int.natAbs_tmod b 101;have h2:=SN b.natAbs (show (101:Int).natAbs > 0 by decide);have h3:(101:Int).natAbs=101:=rfl;rw[h3]at h h2;omega
    have w5:IntKind.i64.wrap (b.tmod 101)=b.tmod 101:=PW _ U;obtain⟨v',H3,hA,hvc,hvo,l3,hn3,fin⟩:=app (b.tmod 101) (wget i _ U (by rw[PX U,<- hq,cB hbg]));simp only[go_sem,f2,f6,f8,m0,hb2,hz];refine W.dr 7 [0,1,0,0,8,24,60] mixed ?_;simp only[go_sem,f2,f5,f8,m0,m3,hzn,m1,hq0,hql,hbg',hbne,w1,w4,hA,hvc,hvo,l3];refine⟨by rw[aq];omega,⟨i+1,v',rfl,U,by rw[aq];omega,(fin _ rfl).1,(fin _ rfl).2.1,(fin _ rfl).2.2⟩,by rw[h8];simp only[aa,aK];omega⟩
   ·have hzn:p.w.length=0:=U;obtain⟨v',H3,hA,hvc,hvo,l3,hn3,fin⟩:=app 0 (wget i _ U (by rw[PZ hzn]));simp only[go_sem,f2,f5,f6,f8,m0,m3,hb2,hz,w1,hA,hvc,hvo,l3];refine⟨by rw[aq];omega,⟨i+1,v',rfl,U,by rw[aq];omega,(fin _ rfl).1,(fin _ rfl).2.1,(fin _ rfl).2.2⟩,by rw[h8];simp only[aa,aK];omega⟩
  ·have hie:i=R:=U;have m2:=ae ((o02 _ U U).trans g2);have hO1:ay H1.C H2 3 v1 (ints (cS p.vars ns.length)):=hO.na Tx hn2 fun id _ h1 h3 _ _=>hold2 id h3 U;have v1o:=hO1.one;have v2o:=hO2.one;have v1c:=hO1.cells;have v2c:=hO2.cells;rw[PY U]at hO2;simp only[go_sem,f4,f5,f6,f8,m2,m3,hb2,v1o,v2o];have k1:=hO1.na (lo':=H.C) (H':=H2.upd (H.C+2) (.L 0 85 [v1,v2])) U (by rw[aq];omega) fun id _ h1 _ _ _=>by rw[ab,PX U]
   have k2:=hO2.na (lo':=H.C) (H':=H2.upd (H.C+2) (.L 0 85 [v1,v2])) U (by rw[aq];omega) fun id _ h1 _ _ _=>by rw[ab,PX U]
   refine aw.mk (by rw[aq];omega) (hK v1 v2 _ ⟨by rw[aq];omega,fun id h=>?_⟩ k1 k2);rw[ab,PX U,o02 id U U];exact o1.nb id h
structure TopoR (ps:List Nat)(r:List Nat):Prop where
 len:r.length=ps.length
 nd:r.Nodup
 no:∀v∈r,v<ps.length
 rk:∀(i v:Nat),r[i]?=some v->∀u,(ps.getD v 0).testBit u=true->∃j,j<i/\r[j]?=some u
def NA (hp:∀p∈ps,p<2 ^ 64):∀(k:Nat) (out:List Nat) (done:Nat) (r:List Nat),fD ps k out done=some r->(∀i,done.testBit i=true↔i∈out)->out.Nodup->(∀v∈out,v<ps.length)->(∀(i v:Nat),out[i]?=some v->∀u,(ps.getD v 0).testBit u=true->∃j,j<i/\out[j]?=some u) ->
  r.length=out.length+k/\r.Nodup/\(∀v∈r,v<ps.length)/\(∀(i v:Nat),r[i]?=some v->∀u,(ps.getD v 0).testBit u=true->∃j,j<i/\r[j]?=some u):=by
 intro k
 induction k with
 |zero =>
  intro out done r h h1 h2 h3 h4;unfold fD at h;cases h;exact⟨rfl,h2,h3,h4⟩
 |succ k ih =>
  intro out done r h h1 h2 h3 h4;unfold fD at h;cases hn:iL ps done with
  |none=>rw[hn]at h;cases h
  |some v =>
   rw[hn]at h;obtain⟨a,b,c⟩:=wQ hp hn;have hvo:v ∉ out:=fun hm=>by rw[(h1 v).2 hm]at b;cases b
   obtain⟨e1,e2,e3,e4⟩:=ih (out++[v]) (done |||2 ^ v) r h (fun i=>by
    rw[fP,Qe,List.mem_singleton,Q4,h1,decide_eq_true_eq];exact or_congr Iff.rfl eq_comm) (List.nodup_append.2 ⟨h2,Tu,fun x hx y hy=>by obtain rfl:=List.mem_singleton.1 hy;rintro rfl;exact hvo hx⟩) (fun x hx=>by
    rcases Qe.1 hx with hx|hx
    ·exact h3 x hx
    ·obtain rfl:=List.mem_singleton.1 hx;exact a) (fun i x hx u hu=>by
    have hl:=aG hx;rw[List.length_append,RP]at hl;rcases Ql i out.length with hi|hi
    ·rw[P3 hi]at hx;obtain⟨j,j1,j2⟩:=h4 i x hx u hu;exact⟨j,j1,by rw[P3 U];exact j2⟩
    ·obtain rfl:i=out.length:=U;simp only[S5,Option.some.injEq]at hx;subst hx;obtain⟨j,hj⟩:=Qd.1 ((h1 u).1 (c u hu));exact⟨j,aG hj,by rw[P3 (aG hj)];exact hj⟩)
   exact⟨by rw[e1,List.length_append,RP];omega,e2,e3,e4⟩
def NB (hp:∀p∈ps,p<2 ^ 64)(h:dO ps=some r):TopoR ps r:=by
 obtain⟨e1,e2,e3,e4⟩:=NA hp ps.length [] 0 r h (fun i=>Tu) Tu Tu Tu;exact⟨by simpa using e1,e2,e3,e4⟩
def NC:∀(n:Nat) (l:List Nat),l.Nodup->(∀v∈l,v<n)->l.length<=n:=by
 intro n
 induction n with
 |zero=>intro l _ h;cases l with
  |nil=>simp
  |cons a l=>exact absurd (h a Tu) (Qf _)
 |succ n ih =>
  intro l hd h;have h1:=ih (l.erase n) (hd.erase n) fun v hv=>by
   have h2:=(hd.mem_erase_iff).1 hv;have:=h v h2.2;omega
  have h3:=List.length_erase (a:=n) (l:=l);split at h3<;>omega
def jl (r:List Nat)(i v:Nat):Prop:=∃j,j<i/\r[j]?=some v
def jl.up (h:jl r i v)(hk:i<=k):jl r k v:=h.imp fun j hj=>⟨U,hj.2⟩
structure Ud (ns:List TA)(r:List Nat)(rem:Bool)(i known nn:Nat)(os:List Nat)(ms:List TA):Prop where
 J:aA ms=aA ns
 nb:∀v,nn.testBit v=false->ms[v]?=ns[v]?
 dec:∀v x,ms[v]?=some x->nn.testBit v=true->x.O=[]/\∃s j,x.F=di s 8/\j<i/\r[j]?=some v/\∀u,s.testBit u=true->jl r j u
 decsb:∀v,nn.testBit v=true->jl r i v
 knownb:∀v,known.testBit v=true->jl r i v
 os3:os.length<=3
 osm:∀v,v∈os↔nn.testBit v=true
 osp:rem=true->os.Pairwise fun u v=>∀x y,ms[u]?=some x->ms[v]?=some y->Sub (bV x.F |||2 ^ u) (bV y.F)
 osk:rem=true->∀u∈os,∀x,ms[u]?=some x->Sub (bV x.F |||2 ^ u) known
variable {ms:List TA}
def Ud.len (h:Ud ns r rem i known nn os ms):ms.length=ns.length:=by
 have:=congrArg List.length h.J;simpa[aA] using this
def Ud.start (ns:List TA)(r:List Nat)(rem:Bool):Ud ns r rem 0 0 0 [] ns :=
 ⟨rfl,fun _ _=>rfl,fun v x _ h=>by simp at h,fun v h=>by simp at h,fun v h=>by simp at h,Tu,fun v=>Tu,fun _=>.nil,fun _ u hu=>by cases hu⟩
def Ud.skip (h:Ud ns r rem i known nn os ms):Ud ns r rem (i+1) known nn os ms :=
 ⟨h.J,h.nb,fun v x hx hb=>by
  obtain⟨a,s,j,b,c,d⟩:=h.dec v x hx hb;exact⟨a,s,j,b,U,d⟩,fun v hb=>(h.decsb v hb).up U,fun v hb=>(h.knownb v hb).up U,h.os3,h.osm,h.osp,h.osk⟩
def Bv {s:Nat}(h:s<2 ^ 8):bV (di s 8)=s:=by
 have h0:∀p∈di s 8,0<=p:=fun p hp=>by obtain⟨v,rfl,_⟩:=nW.1 hp;omega
 refine Rl fun i=>?_;rw[jW h0];cases hb:s.testBit i with
 |true=>exact Rx (nW.2 ⟨i,rfl,kW h hb,hb⟩)
 |false =>
  refine RM fun hm=>?_;obtain⟨v,e,_,hv⟩:=nW.1 hm;obtain rfl:i=v:=U
  rw[hb]at hv;cases hv
def Bw (hr:∀v∈r,v<n)(h:jl r i v):v<n:=h.elim fun _ hj=>hr v (an hj.2)
def tp {s:Nat}(hr:∀v∈r,v<n)(h:∀v,s.testBit v=true->jl r i v):s<2 ^ n:=wM fun v hv=>Bw hr (h v hv)
def Ud.step (h:Ud ns r rem i known nn os ms)(hr:TopoR (aX ns) r)(h8:ns.length<=8)(ho:os.length<3)(hv:r[i]?=some v)(hx:ns[v]?=some x){s:Nat}(hs:Sub s (bV x.F)):
  nn.testBit v=false/\v<ns.length/\(if rem then s |||known else s)<2 ^ ns.length /\
  Ud ns r rem (i+1) (known |||(if rem then s |||known else s) |||2 ^ v) (nn |||2 ^ v) (os++[v]) (ms.set v ⟨x.J,di (if rem then s |||known else s) 8,[]⟩):=by
 obtain⟨s',hs'⟩:∃s',s'=(if rem then s |||known else s):=⟨_,rfl⟩
 rw[<- hs'];have hsl:(aX ns).length=ns.length:=by simp[aX]
 have hrng:=hr.no;rw[hsl]at hrng;have hvn:=hrng v (an hv);have hml:=h.len;have inj:∀j,r[j]?=some v->j=i:=fun j hj=>(Re (aG hj) hr.nd).1 (by rw[hj,hv]);have hdv:nn.testBit v=false:=by
  cases hb:nn.testBit v with
  |false=>rfl
  |true =>
   obtain⟨j,j1,j2⟩:=h.decsb v hb;have:=inj j j2;omega
 have sb:∀u,s.testBit u=true->jl r i u:=fun u hu=>hr.rk i v hv u (by rw[cB (kh hx)];exact hs u hu);have sb':∀u,s'.testBit u=true->jl r i u:=fun u hu=>by
  rw[hs']at hu;cases rem with
  |false=>exact sb u hu
  |true =>
   rw[PZ rfl,Rm,Q4]at hu;exact hu.elim (sb u) (h.knownb u)
 have hlt:=tp hrng sb';have hlt8:s'<2 ^ 8:=P5 hlt (Qu Tv h8);have selfv:(ms.set v ⟨x.J,di s' 8,[]⟩)[v]?=some ⟨x.J,di s' 8,[]⟩:=Qa U;have othv:∀u,u≠v->(ms.set v ⟨x.J,di s' 8,[]⟩)[u]?=ms[u]?:=fun u hu=>Qh (fun e=>hu e.symm);have osv:v ∉ os:=fun hm=>by rw[(h.osm v).1 hm]at hdv;cases hdv
 refine⟨hdv,hvn,hlt,⟨?_,fun u hu=>?_,fun u y hy hu=>?_,fun u hu=>?_,fun u hu=>?_,by simp;omega,fun u=>?_,fun hrem=>?_,fun hrem u hu y hy=>?_⟩⟩
 ·rw[<- h.J];unfold aA;rw[SC];apply QC;intro k;rw[RV];split
  ·rename_i e;subst e;have:=h.J;have h1:(aA ms)[v]?=(aA ns)[v]?:=(by rw[this]);rw[PZ (by rw[P8];omega)];rw[dk hx]at h1;exact h1.symm
  ·rfl
 ·rw[fP,Bool.or_eq_false_iff,RG]at hu;rw[othv u (fun e=>hu.2 e.symm)];exact h.nb u hu.1
 ·by_cases e:u=v
  ·subst e;rw[selfv]at hy;cases hy;exact⟨rfl,s',i,rfl,U,hv,sb'⟩
  ·rw[othv u e]at hy;rw[fP,Q4,decide_eq_true_eq]at hu;obtain⟨a,s2,j,b,c,d⟩:=h.dec u y hy (hu.resolve_right fun e'=>e e'.symm);exact⟨a,s2,j,b,U,d⟩
 ·rw[fP,Q4,decide_eq_true_eq]at hu;rcases hu with hu|rfl
  ·exact(h.decsb u hu).up (U)
  ·exact⟨i,U,hv⟩
 ·rw[fP,Rm,Q4,Q4,decide_eq_true_eq]at hu;rcases hu with (hu|hu)|rfl
  ·exact(h.knownb u hu).up (U)
  ·exact(sb' u hu).up (U)
  ·exact⟨i,U,hv⟩
 ·rw[fP,Qe,List.mem_singleton,h.osm,Q4,decide_eq_true_eq];exact or_congr Iff.rfl eq_comm
 ·refine Rz.2 ⟨(h.osp hrem).imp_of_mem fun {a b} ha hb hab p q hp hq=>?_,Tu,fun a ha b hb p q hp hq=>?_⟩
  ·rw[othv a (fun e=>osv (e ▸ ha))]at hp;rw[othv b (fun e=>osv (e ▸ hb))]at hq;exact hab p q hp hq
  ·obtain rfl:=List.mem_singleton.1 hb;rw[othv a (fun e=>osv (e ▸ ha))]at hp;rw[selfv]at hq;cases hq;rw[show bV (⟨x.J,di s' 8,[]⟩:TA).F=s' from Bv hlt8,hs',PZ hrem];exact(h.osk hrem a ha p hp).trans (Sub.right _ _)
 ·rcases Qe.1 hu with hu|hu
  ·rw[othv u (fun e=>osv (e ▸ hu))]at hy;exact((h.osk hrem u hu y hy).trans (Sub.left _ _)).trans (Sub.left _ _)
  ·obtain rfl:=List.mem_singleton.1 hu;rw[selfv]at hy;cases hy;rw[show bV (⟨x.J,di s' 8,[]⟩:TA).F=s' from Bv hlt8];exact Sub.or ((Sub.right known s').trans (Sub.left _ _)) (Sub.right _ _)
structure DrI (rem:Bool)(d:TD):Prop where
 ok:TR d
 n5:d.I.length<=5
 O:∀v x,d.I[v]?=some x->d.nn.testBit v=false->x.O≠[]
 os:∃os:List Nat,os.length<=3/\(∀v,v∈os↔d.nn.testBit v=true)/\(rem=true->os.Pairwise fun u v=>∀x y,d.I[u]?=some x->d.I[v]?=some y->Sub (bV x.F |||2 ^ u) (bV y.F))
def Bx (h:TX g ns):∀x∈ns,x.O≠[]:=fun x hx he=>by
 have h1:=(h.O x hx).1;have h2:=fB (l:=aY ns x) fun c hc=>(me (fun q hq=>by have:=(h.node x hx).2.2 q hq;omega) (fun y hy=>(h.node y hy).1) c hc).1;rw[he]at h1;simp at h1;omega
def Ud.fin (h:Ud ns r rem i known nn os ms)(hn:TX g ns)(hr:TopoR (aX ns) r)(h5:ns.length<=5){us:List TI}(hul:us.length<=4)(hus:∀u∈us,TY ns u):
  DrI rem ⟨g,ms,nn,us⟩:=by
 have hsl:(aX ns).length=ns.length:=by simp[aX]
 have hrng:=hr.no;rw[hsl]at hrng;have hml:=h.len;have hdl:nn<2 ^ ns.length:=tp hrng h.decsb;have getN:∀(v:Nat) (x:TA),ms[v]?=some x->∃y,ns[v]?=some y/\y.J=x.J:=fun v x hx=>by
  obtain⟨y,hy⟩:=az (l:=ns) (i:=v) (by have:=aG hx;omega);refine⟨y,hy,?_⟩;have h1:(aA ms)[v]?=(aA ns)[v]?:=by rw[h.J]
  rw[dk hx,dk hy]at h1;exact(Option.some.inj h1).symm
 have hcard:∀x∈ms,1<=x.J/\x.J<=4:=fun x hx=>by
  obtain⟨v,hv⟩:=Qd.1 hx;obtain⟨y,hy,e⟩:=getN v x hv;rw[<- e];exact(hn.node y (an hy)).1
 have hpl:∀(v:Nat) (x:TA),ms[v]?=some x->bI x.F ms.length:=fun v x hx=>by
  cases hb:nn.testBit v with
  |false =>
   rw[h.nb v hb]at hx;have:=(hn.node x (an hx)).2;rw[hml];exact this
  |true =>
   obtain⟨_,s,j,e,_,_,hs⟩:=h.dec v x hx hb;rw[e];refine⟨N7 _ _,fun q hq=>?_⟩;obtain⟨u,rfl,_,hu⟩:=nW.1 hq;have:=Bw hrng (hs u hu);rw[hml];omega
 have hR:TT ⟨g,ms,nn,us⟩:=⟨by show 1<=ms.length/\ms.length<=8;rw[hml];exact hn.n1,by show nn >>> ms.length=0;rw[hml,Sq];exact Nat.div_eq_of_lt hdl,hcard,fun v x hx hb=>⟨(h.dec v x hx hb).1,hpl v x hx⟩⟩
 have hperm:T9 ns.length (bf r):=⟨by rw[show (bf r).length=r.length by simp[bf],hr.len,hsl],by
  unfold bf;exact List.Pairwise.map _ (R:=(·≠·)) (fun a b h e=>h U) hr.nd,fun q hq=>by
  obtain⟨v,hv,rfl⟩:=Qm.1 hq;have:=hrng v hv;omega⟩
 have natg:∀(j v:Nat),(bf r)[j]?=some (v:Int)↔r[j]?=some v:=fun j v=>by
  unfold bf;rw[List.getElem?_map,PU];exact⟨fun ⟨a,h1,h2⟩=>by rw[h1];congr 1;omega,fun h1=>⟨v,h1,rfl⟩⟩
 have hacy:jX (aX ms):=by
  refine BK (P:=bf r) (by rw[hml];exact hperm) (fun v hv=>?_) fun j v x hj hx q hq=>?_
  ·refine QA fun hno=>?_;rw[hml]at hv;have hsub:(v :: r).length<=ns.length:=by
    have hnd:(v :: r).Nodup:=Sm.2 ⟨fun hm=>hno (Qm.2 ⟨v,hm,rfl⟩),hr.nd⟩;exact NC ns.length _ hnd fun u hu=>by
     rcases List.mem_cons.1 hu with rfl|hu
     ·exact hv
     ·exact hrng u hu
   rw[List.length_cons,hr.len,hsl]at hsub;omega
  ·have q0:=((hpl v x hx).2 q hq).1;refine⟨q0,?_⟩;have hj':=(natg j v).1 hj;obtain⟨u,rfl⟩:=Qb q0;cases hb:nn.testBit v with
   |false =>
    rw[h.nb v hb]at hx;obtain⟨k,k1,k2⟩:=hr.rk j v hj' u (by
     rw[cB (kh hx),jW fun p hp=>((hn.node x (an hx)).2.2 p hp).1];exact Rx hq)
    exact⟨k,k1,(natg k u).2 k2⟩
   |true =>
    obtain⟨_,s,j',e,_,hj2,hs⟩:=h.dec v x hx hb;rw[e]at hq;obtain⟨u',eu,_,hu⟩:=nW.1 hq;obtain rfl:u=u':=U;obtain rfl:j'=j:=(Re (aG hj2) hr.nd).1 (by rw[hj2,hj']);obtain⟨k,k1,k2⟩:=hs u hu;exact⟨k,k1,(natg k u).2 k2⟩
 have hpc:∀x,aY ms x=aY ns x:=fun x=>by unfold aY;rw[h.J]
 refine⟨⟨hR,⟨hn.g1,by rw[ke];exact hR.n1,fun y hy=>?_,?_,by rw[OG];exact hacy,fun y hy=>?_⟩,hul,fun u hu=>?_⟩,by show ms.length<=5;omega,fun v x hx hb=>?_,os,h.os3,h.osm,h.osp⟩
 ·obtain⟨v,x,hx,rfl⟩:=xd hy;rw[(lY ..).1,(lY ..).2,ke];exact⟨hcard x (an hx),hpl v x hx⟩
 ·rw[qj];show au (aA ms)<=1024;rw[h.J];exact hn.size
 ·obtain⟨v,x,hx,rfl⟩:=xd hy;have hcx:=hcard x (an hx);have hx':ms[v]?=some x:=hx;unfold fk;rw[xc];by_cases hb:nn.testBit v=true
  ·rw[qk hx hb];have x1:=(hR.dec v x hx hb).1;have hsm:=(ki (x:=x) (ns:=ms) hR.n1.2 (hpl v x hx) hcard).prod;refine⟨?_,fun q hq=>?_⟩
   ·show ((x.O++ef g ms (fun _ _=>0) _ x).length:Int)=au (aY ms x);rw[x1];simp only[ef,List.nil_append,P8,RD,bB];omega
   ·rw[show ({ x with O:=x.O++ef g ms (fun _ _=>0) (cN nn v) x }:TA).O=x.O++ef g ms (fun _ _=>0) (cN nn v) x from rfl,x1,List.nil_append]at hq;unfold ef at hq;obtain⟨i,hi,rfl⟩:=Qm.1 hq;have:=hn.g1;exact OF (by show 0<=g;omega) ⟨Int.le_refl 0,by show (0:Int)<x.J;omega⟩
  ·rw[qm hb];have hb':nn.testBit v=false:=(by simpa using hb);rw[h.nb v hb']at hx';have:=hn.O x (an hx');unfold fk at this;show (x.O.length:Int)=au (aY ms x)/\_;rw[hpc];exact this
 ·have:=hus u hu;exact⟨by show bI u.vars ms.length;rw[hml];exact this.vars,by show _=au (bc (aA ms) u.vars);rw[h.J];exact this.size,this.w⟩
 ·have hx':ms[v]?=some x:=hx;rw[h.nb v hb]at hx';exact Bx hn x (an hx')
end Go.Proofs
