/- Own work: contracts. -/
import Derived.Test.YtakancljiekbhaaConE
import Derived.Test.YtakancljiekbhaaConC
import Derived.Test.YtakancljiekbhaaConB
set_option linter.all false
set_option maxRecDepth 100000
namespace Go.Proofs
open Go.Hx
theorem nC {l:List Int}(h:∀ x∈l,0<=x):0<=l.sum:=by
 induction l with
 | nil=>simp
 | cons a l ih =>
  rw[List.sum_cons];have:=h a (by simp);have:=ih fun x hx=>h x (by simp [hx]);omega
theorem Do {l:List Int}{i:Nat}{a b:Int}(h:l[i]?=some a):(l.set i b).sum=l.sum - a+b:=by
 induction l generalizing i with
 | nil=>simp at h
 | cons x l ih =>
  cases i with
  | zero=>simp at h;subst h;simp only[List.set_cons_zero,List.sum_cons];omega
  | succ i =>
   simp only[List.set_cons_succ,List.sum_cons];rw[ih (by simpa using h)];omega
theorem Qa {l:List Int}{b:Int}(h:∀ x∈l,0<=x/\x<=b):l.sum<=b*l.length:=by
 induction l with
 | nil=>simp
 | cons a l ih =>
  rw[List.sum_cons,List.length_cons];have:=(h a (by simp)).2;have:=ih fun x hx=>h x (by simp [hx]);rw[show b*((l.length+1:Nat):Int)=b*l.length+b by rw[Int.natCast_add,Int.mul_add];simp];omega
def wF (n:Nat)(bs:List Int)(from':Int):List Int:=(List.range n).map fun (k:Nat)=>if bs.length=0 then 0 else bs.getD ((from'+(k:Int)) % (bs.length:Int)).toNat 0 % 8
theorem Dp (n:Nat)(bs:List Int)(from':Int):(wF n bs from').length=n:=by simp [wF]
theorem Dq {n:Nat}(bs:List Int)(from':Int){k:Nat}(h:k<n):(wF n bs from')[k]?=some (if bs.length=0 then 0 else bs.getD ((from'+(k:Int)) % (bs.length:Int)).toNat 0 % 8):=by
 unfold wF;rw[List.getElem?_map,List.getElem?_range h];rfl
theorem Qb (n:Nat)(bs:List Int)(from':Int):∀ x∈wF n bs from',0<=x/\x<=7:=fun x hx=>by
 unfold wF at hx;obtain⟨k,_,rfl⟩:=List.mem_map.1 hx;split<;>omega
def uP (g s:Int)(st:List Int × Nat)(m:Nat):List Int × Nat:=if 0<st.1.getD m 0 then (st.1.set m (g*st.1.getD m 0 / s),m) else st
def iH (g:Int)(c:List Int)(m:Nat):List Int × Nat:=(List.range m).foldl (uP g c.sum) (c,0)
theorem Dr (g:Int)(c:List Int)(m:Nat):iH g c (m+1)=uP g c.sum (iH g c m) m:=by unfold iH;rw[List.range_succ,List.foldl_append];rfl
def pM (g:Int)(n:Nat)(bs:List Int)(from':Int):List Int:=(iH g (wF n bs from') n).1.set (iH g (wF n bs from') n).2 ((iH g (wF n bs from') n).1.getD (iH g (wF n bs from') n).2 0+(g - (iH g (wF n bs from') n).1.sum))
structure RInv (g:Int)(c:List Int)(m:Nat)(d:List Int)(last:Nat):Prop where
 dl:d.length=c.length
 d0:∀ x∈d,0<=x
 dd:d.drop m=c.drop m
 dg:(d.take m).sum<=g
 ds:c.sum*(d.take m).sum<=g*(c.take m).sum
 la:last<c.length
theorem Ds {g:Int}{c:List Int}(hg:1<=g)(hc:∀ x∈c,0<=x)(hl:0<c.length):∀ m,m<=c.length->RInv g c m (iH g c m).1 (iH g c m).2:=by
 intro m
 induction m with
 | zero=>intro _;exact⟨rfl,hc,rfl,by simp;omega,by simp,hl⟩
 | succ m ih =>
  intro hm;obtain⟨hdl,hd0,hdd,hdg,hds,hla⟩:=ih (by omega);rw[Dr];generalize iH g c m=st at *
  obtain⟨d,last⟩:=st;simp only at hdl hd0 hdd hdg hds hla;obtain⟨x,hcx⟩:=get_of_lt (l:=c) (i:=m) (by omega);have hx0:=hc x (List.mem_of_getElem? hcx);have hdx:d[m]?=some x:=by
   have h1:(d.drop m)[0]?=d[m]?:=(by rw[List.getElem?_drop];rfl);have h2:(c.drop m)[0]?=c[m]?:=(by rw[List.getElem?_drop];rfl);rw[<- h1,hdd,h2,hcx]
  have hdd':d.drop (m+1)=c.drop (m+1):=by
   have:=congrArg (List.drop 1) hdd
   rwa [List.drop_drop,List.drop_drop]at this
  have hct:(c.take (m+1)).sum=(c.take m).sum+x:=by rw[aL hcx];simp
  have hcs:(c.take (m+1)).sum+(c.drop (m+1)).sum=c.sum:=by rw[<- List.sum_append,List.take_append_drop]
  have hcd0:=nC (l:=c.drop (m+1)) fun y hy=>hc y (List.mem_of_mem_drop hy);have hc00:=nC (l:=c.take m) fun y hy=>hc y (List.mem_of_mem_take hy);have hd00:=nC (l:=d.take m) fun y hy=>hd0 y (List.mem_of_mem_take hy);unfold uP;rw[bG hdx];by_cases hx:0<x
  ·rw[if_pos hx];have gx:0<=g*x:=Int.mul_nonneg (by omega) hx0;have y0:0<=g*x / c.sum:=Int.ediv_nonneg gx (by omega);have y2:c.sum*(g*x / c.sum)<=g*x:=Int.mul_ediv_self_le (by omega);have dt:((d.set m (g*x / c.sum)).take (m+1)).sum=(d.take m).sum+g*x / c.sum:=by
    rw[aL (List.getElem?_set_self (by omega)),List.take_set_of_le (Nat.le_refl _)];simp
   have hs2:c.sum*((d.take m).sum+g*x / c.sum)<=g*(c.take (m+1)).sum:=by
    rw[Int.mul_add,hct,Int.mul_add];omega
   have hle:(d.take m).sum+g*x / c.sum<=g:=by
    have h1:g*(c.take (m+1)).sum<=g*c.sum:=Int.mul_le_mul_of_nonneg_left (by omega) (by omega);have h2:c.sum*((d.take m).sum+g*x / c.sum)<=c.sum*g:=(by rw[Int.mul_comm c.sum g];omega);exact Int.le_of_mul_le_mul_left h2 (by omega)
   refine⟨by simp [hdl],fun y hy=>?_,?_,by dsimp only;rw[dt];exact hle,by dsimp only;rw[dt];exact hs2,by dsimp only;omega⟩
   ·rcases List.mem_or_eq_of_mem_set hy with h|h
    ·exact hd0 y h
    ·omega
   ·rw[<- hdd',List.drop_set_of_lt (by omega)]
  ·rw[if_neg hx];have x0:x=0:=(by omega);have dt:(d.take (m+1)).sum=(d.take m).sum:=(by rw[aL hdx,x0];simp);rw[x0,Int.add_zero]at hct;exact⟨hdl,hd0,hdd',by dsimp only;rw[dt];exact hdg,by dsimp only;rw[dt,hct];exact hds,hla⟩
theorem Qc {g:Int}{n:Nat}(hg:1<=g)(hn:1<=n)(bs:List Int)(from':Int):jK g n (pM g n bs from'):=by
 have hw:=Dp n bs from';have I:=Ds (g:=g) (c:=wF n bs from') hg (fun x hx=>(Qb n bs from' x hx).1) (by omega) n (by omega);unfold pM;generalize iH g (wF n bs from') n=st at *
 obtain⟨d,last⟩:=st;obtain⟨hdl,hd0,hdd,hdg,hds,hla⟩:=I;dsimp only at hdl hd0 hdd hdg hds hla ⊢;obtain⟨y,hy⟩:=get_of_lt (l:=d) (i:=last) (by omega);have y0:=hd0 y (List.mem_of_getElem? hy);rw[bG hy];rw[List.take_of_length_le (by omega)]at hdg;have hs:(d.set last (y+(g - d.sum))).sum=g:=by rw[Do hy];omega
 have h0:∀ w∈d.set last (y+(g - d.sum)),0<=w:=fun w hw=>by
  rcases List.mem_or_eq_of_mem_set hw with h|h
  ·exact hd0 w h
  ·omega
 exact⟨by simp [hdl,hw],fun w hw=>⟨h0 w hw,by have:=nI h0 w hw;omega⟩,hs⟩
set_option maxHeartbeats 2000000 in
theorem Qd (g:Int)(n:Nat)(hg:1<=g/\g<=60)(hn:1<=n/\n<=4)(bs:List Int)(hbl:(bs.length:Int)<2 ^ 63)(hb8:∀ x∈bs,U8 x)(from':Int)(hf:0<=from'/\from'<=1000000)(H:AHeap)(K:ARes->AHeap->Prop)(hK:∀ v H',Over H H'->aD H.next H' 3 v (ints (pM g n bs from'))->K (.ret v) H'):
  af Try.prog G0 38 [aa g,aa n,.vec bs.length (aY bs),aa from'] H K:=by
 refine af.clo ⟨_,Try.func38,rfl,rfl⟩ fun hcl=>?_;refine af.bf (n:=84) (rs:=[.tmp 8]) Try.func38 rfl rfl rfl (by decide) (by kernel_rfl) (by simp) ?_;simp only[go_sem];refine⟨by omega,?_⟩;refine W.aG 35184371960832 (by rfl) (fun ρ H'=>∃ (k:Nat) (c:List Int),ρ 11=aa k/\k<=n/\c.length=n/\(∀ x∈c,0<=x/\x<=7)/\(∀ j x,k<=j->c[j]?=some x->x=0)/\(∀ j,j<k->c[j]?=(wF n bs from')[j]?)/\ρ 10=aa c.sum/\OwnI H H' H.next c) (fun ρ H=>n - (iv (ρ 11)).toNat) ?_ ?_
 ·simp only[go_sem];refine⟨0,List.replicate n 0,rfl,by omega,by simp,fun x hx=>?_,fun j x _ hx=>?_,fun j hj=>by omega,by simp,?_⟩
  ·have:=List.eq_of_mem_replicate hx;omega
  ·exact List.eq_of_mem_replicate (List.mem_of_getElem? hx)
  ·exact .new [] _
 rintro ρ H' ⟨k,c,h11,hk,hcl',hc7,hc0,hcw,h10,ho⟩;refine W.env fun E hE=>?_;have e0:E 0=aa g:=by rw[hE];simp only[go_sem]
 have e1:E 1=aa n:=by rw[hE];simp only[go_sem]
 have e2:E 2=.vec bs.length (aY bs):=by rw[hE];simp only[go_sem]
 have e3:E 3=aa from':=by rw[hE];simp only[go_sem]
 have e9:E 9=.own H.next 0 0 n 1:=by rw[hE];simp only[go_sem]
 have e10:E 10=aa c.sum:=by rw[hE];simp only[go_sem,h10]
 have e11:E 11=aa k:=by rw[hE];simp only[go_sem,h11]
 clear hE;refine ab _ _ _ (by rfl) ?_;have lN:=ho.live;have hs0:=nC fun x hx=>(hc7 x hx).1;have hs1:=Qa hc7;by_cases hb:(k:Int)<n
 ·have hck:c[k]?=some 0:=by
   obtain⟨a,ha⟩:=get_of_lt (l:=c) (i:=k) (by omega);rw[ha,hc0 k a (Nat.le_refl _) ha]
  have hcne:=aJ hck;have hk0:(k:Int) >= 0:=by omega
  have w1:=IntWalk.i64_in ((k:Int)+1) (by omega);by_cases hz:(0:Int)<bs.length
  ·have hzn:¬ (bs.length:Int)=0:=(by omega);have w2:=IntWalk.i64_in (from'+k) (by omega);have m1:(from'+(k:Int)).tmod bs.length=(from'+k) % bs.length:=Int.tmod_eq_emod_of_nonneg (by omega);have m2:=Int.emod_nonneg (from'+k) hzn;have m3:=Int.emod_lt_of_pos (from'+k) hz;obtain⟨q,hq⟩:=Int.eq_ofNat_of_zero_le m2;have hq0:(q:Int) >= 0:=(by omega);have hql:(q:Int)<bs.length:=(by omega);obtain⟨b,hbg⟩:=get_of_lt (l:=bs) (i:=q) (by omega);have b8:=hb8 b (List.mem_of_getElem? hbg);have hbg':=ru hbg;have hbne:=aJ hbg';have t1:b.tmod 8=b % 8:=Int.tmod_eq_emod_of_nonneg b8.1;have w3:IntKind.u8.wrap (b % 8)=b % 8:=IntWalk.u8_in _ (by omega);have w4:IntKind.i64.wrap (b % 8)=b % 8:=IntWalk.i64_in _ (by omega);have w5:=IntWalk.i64_in (c.sum+b % 8) (by omega);have hsg:(setAt (ints c) k [.lit (.int .i64 (b % 8))])[k]?=some (.lit (.int .i64 (b % 8))):=by
    rw[dM (by omega),fg,List.getElem?_set_self (by omega)];rfl
   simp only[go_sem,hsg,e1,e2,e3,e9,e10,e11,hb,hz,hzn,w1,w2,m1,hq,hq0,hql,hbg',hbne,t1,w4,w5,hk0,lN];refine⟨by omega,by have:=ho.hi;rw[az];omega,⟨k+1,c.set k (b % 8),rfl,by omega,by simp [hcl'],fun x hx=>?_,fun j x hj hx=>?_,fun j hj=>?_,by rw[Do hck,Int.sub_zero],ho.store (by omega) _⟩,by rw[h11];simp only[aa,aK];omega⟩
   ·rcases List.mem_or_eq_of_mem_set hx with h|h
    ·exact hc7 x h
    ·omega
   ·rw[List.getElem?_set_ne (by omega)]at hx;exact hc0 j x (by omega) hx
   ·by_cases hjk:j=k
    ·subst hjk;rw[List.getElem?_set_self (by omega),Dq bs from' (by omega),if_neg (by omega),hq,Int.toNat_natCast,bG hbg]
    ·rw[List.getElem?_set_ne (by omega)];exact hcw j (by omega)
  ·have w5:=IntWalk.i64_in (c.sum+0) (by omega);rw[Int.add_zero]at w5;simp only[go_sem,e1,e2,e9,e10,e11,hb,hz,w1,w5,Int.add_zero,hk0,hck,lN];refine⟨by have:=ho.hi;omega,⟨k+1,c,rfl,by omega,hcl',hc7,fun j x hj hx=>hc0 j x (by omega) hx,fun j hj=>by
    by_cases hjk:j=k
    ·subst hjk;rw[hck,Dq bs from' (by omega),if_pos (by omega)]
    ·exact hcw j (by omega),rfl,ho⟩,by rw[h11];simp only[aa,aK];omega⟩
 ·obtain rfl:k=n:=by omega
  simp only[go_sem,e1,e11,hb];have hcwF:c=wF k bs from':=by
   apply List.ext_getElem?;intro j;rcases Nat.lt_or_ge j k with h|h
   ·exact hcw j h
   ·rw[List.getElem?_eq_none (by omega),List.getElem?_eq_none (by rw[Dp];exact h)]
  have hRI:=fun m (hm:m<=k)=>Ds (g:=g) (c:=c) hg.1 (fun x hx=>(hc7 x hx).1) (by omega) m (by omega);refine W.aG 18889465861109836705792 (by rfl) (fun ρ H2=>∃ (m last:Nat) (d:List Int),ρ 14=aa m/\m<=k/\iH g c m=(d,last)/\ρ 12=aa (g - (d.take m).sum)/\ρ 13=aa last/\H'.next<=H2.next/\OwnI H H2 H.next d) (fun ρ H=>k - (iv (ρ 14)).toNat) ?_ ?_
  ·simp only[go_sem,e0];exact⟨0,0,c,rfl,by omega,rfl,by simp,rfl,ho⟩
  rintro ρ2 H2 ⟨m,last,d,h14,hm,hrf,h12,h13,hnn,hod⟩;obtain⟨hdl,hd0,hdd,hdg,hds,hlast⟩:RInv g c m d last:=by have:=hRI m hm;rw[hrf]at this;exact this
  rw[hcl']at hdl hlast;have hrs:=Dr g c m;rw[hrf]at hrs;unfold uP at hrs;dsimp only at hrs;refine W.env fun E2 hE2=>?_;have f0:E2 0=aa g:=by rw[hE2];simp only[go_sem,e0]
  have f1:E2 1=aa k:=by rw[hE2];simp only[go_sem,e1]
  have f9:E2 9=.own H.next 0 0 k 1:=by rw[hE2];simp only[go_sem,e9]
  have f10:E2 10=aa c.sum:=by rw[hE2];simp only[go_sem,e10]
  have f12:E2 12=aa (g - (d.take m).sum):=by rw[hE2];simp only[go_sem,h12]
  have f13:E2 13=aa last:=by rw[hE2];simp only[go_sem,h13]
  have f14:E2 14=aa m:=by rw[hE2];simp only[go_sem,h14]
  clear hE2;refine ab _ _ _ (by rfl) ?_;have lN2:=hod.live;by_cases hb2:(m:Int)<k
  ·obtain⟨x,hcx⟩:=get_of_lt (l:=c) (i:=m) (by omega);have hx7:=hc7 x (List.mem_of_getElem? hcx);have hdx:d[m]?=some x:=by
    have h1:(d.drop m)[0]?=d[m]?:=(by rw[List.getElem?_drop];rfl);have h2:(c.drop m)[0]?=c[m]?:=(by rw[List.getElem?_drop];rfl);rw[<- h1,hdd,h2,hcx]
   have hdne:=aJ hdx;have hm0:(m:Int) >= 0:=(by omega);have w1:=IntWalk.i64_in ((m:Int)+1) (by omega);have hdd':d.drop (m+1)=c.drop (m+1):=by
    have:=congrArg (List.drop 1) hdd
    rwa [List.drop_drop,List.drop_drop]at this
   have hct:(c.take (m+1)).sum=(c.take m).sum+x:=(by rw[aL hcx];simp);have hcs:(c.take (m+1)).sum+(c.drop (m+1)).sum=c.sum:=(by rw[<- List.sum_append,List.take_append_drop]);have hcd0:=nC (l:=c.drop (m+1)) fun y hy=>(hc7 y (List.mem_of_mem_drop hy)).1;have hc00:=nC (l:=c.take m) fun y hy=>(hc7 y (List.mem_of_mem_take hy)).1;have hd00:=nC (l:=d.take m) fun y hy=>hd0 y (List.mem_of_mem_take hy);by_cases hx:0<x
   ·have hsz:¬ c.sum=0:=(by omega);have gx:0<=g*x:=Int.mul_nonneg (by omega) hx7.1;have gx2:g*x<=60*7:=Int.mul_le_mul hg.2 hx7.2 hx7.1 (by omega);have w2:=IntWalk.i64_in (g*x) (by omega);have t1:(g*x).tdiv c.sum=g*x / c.sum:=Int.tdiv_eq_ediv_of_nonneg gx;have y0:0<=g*x / c.sum:=Int.ediv_nonneg gx hs0;have y1:g*x / c.sum<=g*x:=Int.ediv_le_self _ gx;have y2:c.sum*(g*x / c.sum)<=g*x:=Int.mul_ediv_self_le (by omega);have w3:=IntWalk.i64_in (g*x / c.sum) (by omega);have w4:=IntWalk.i64_in (g - (d.take m).sum - g*x / c.sum) (by omega);have hsg:(setAt (ints d) m [.lit (.int .i64 (g*x / c.sum))])[m]?=some (.lit (.int .i64 (g*x / c.sum))):=by
     rw[dM (by omega),fg,List.getElem?_set_self (by omega)];rfl
    have dt:((d.set m (g*x / c.sum)).take (m+1)).sum=(d.take m).sum+g*x / c.sum:=by
     rw[aL (List.getElem?_set_self (by omega)),List.take_set_of_le (Nat.le_refl _)];simp
    have hs2:c.sum*((d.take m).sum+g*x / c.sum)<=g*(c.take (m+1)).sum:=by
     rw[Int.mul_add,hct,Int.mul_add];omega
    have hle:(d.take m).sum+g*x / c.sum<=g:=by
     have h1:g*(c.take (m+1)).sum<=g*c.sum:=Int.mul_le_mul_of_nonneg_left (by omega) (by omega);have h2:c.sum*((d.take m).sum+g*x / c.sum)<=c.sum*g:=(by rw[Int.mul_comm c.sum g];omega);exact Int.le_of_mul_le_mul_left h2 (by omega)
    simp only[go_sem,hsg,f0,f1,f9,f10,f12,f13,f14,hb2,hx,hsz,w1,w2,t1,w3,w4,hm0,hdx,lN2];rw[bG hdx,if_pos hx]at hrs;exact⟨by omega,by rw[az];exact hnn,⟨m+1,m,d.set m (g*x / c.sum),rfl,by omega,hrs,by rw[dt];congr 2;omega,rfl,by rw[az];exact hnn,hod.store (by omega) _⟩,by rw[h14];simp only[aa,aK];omega⟩
   ·have x0:x=0:=(by omega);have w4:=IntWalk.i64_in (g - (d.take m).sum) (by omega);simp only[go_sem,f1,f9,f12,f13,f14,hb2,x0,w1,w4,hm0,hdx,Int.sub_zero,lN2];have dt:(d.take (m+1)).sum=(d.take m).sum:=(by rw[aL hdx,x0];simp);rw[x0,Int.add_zero]at hct;rw[bG hdx,if_neg hx]at hrs;exact⟨hnn,⟨m+1,last,d,rfl,by omega,hrs,by rw[dt],rfl,hnn,hod⟩,by rw[h14];simp only[aa,aK];omega⟩
  ·obtain rfl:m=k:=(by omega);obtain⟨y,hy⟩:=get_of_lt (l:=d) (i:=last) (by omega);have hyne:=aJ hy;have hl0:(last:Int) >= 0:=(by omega);have hlk:(last:Int)<m:=(by omega);have y0:=hd0 y (List.mem_of_getElem? hy);rw[List.take_of_length_le (by omega)]at hdg hds h12 f12;have hyle:=nI hd0 y (List.mem_of_getElem? hy);have w1:=IntWalk.i64_in (y+(g - d.sum)) (by omega);have hle:last+1<=d.length:=(by omega);simp only[go_sem,f1,f9,f12,f13,f14,hb2,hl0,hlk,hy,lN2,w1];refine⟨hle,?_⟩;have hrow:pM g m bs from'=d.set last (y+(g - d.sum)):=by
    unfold pM;rw[<- hcwF,hrf];dsimp only;rw[bG hy]
   rw[hrow]at hK;have ho2:=hod.store (k:=last) (by omega) (y+(g - d.sum));refine av.mk ho2.ov.next (hK _ _ ho2.ov (.inr ⟨_,0,ho2.lo,ho2.hi,?_,ho2.get⟩));rw[aM,List.length_set,hdl]
structure DrP where
 card:Int
 par:Int
 w:List Int
def DrP.cells (x:DrP):List AVal:=[.lit (.int .u8 x.card),.lit (.int .u8 x.par),.vec x.w.length (aY x.w)]
def eP (l:List DrP):List AVal:=(l.map DrP.cells).flatten
def DrP.Ok (x:DrP):Prop:=U8 x.card/\U8 x.par/\(x.w.length:Int)<2 ^ 63/\∀ b∈x.w,U8 b
def Du (g:Int)(ps:List DrP)(ord:List Int):AVal:=.agg [.lit (.int .u8 g),.vec ps.length (eP ps),.vec ord.length (aY ord)]
theorem Dv {l:List DrP}{i:Nat}{x:DrP}(h:l[i]?=some x):((eP l).drop (i*3)).take 3=[.lit (.int .u8 x.card),.lit (.int .u8 x.par),.vec x.w.length (aY x.w)]:=pI (f:=DrP.cells) (z:=3) (fun _=>rfl) l i x h
theorem Dw (l:List DrP):(eP l).length=l.length*3:=mh (f:=DrP.cells) (fun _=>rfl) l
def NodeP.cq (x:NodeP):List AVal:=if x.rows=[] then [aa x.card,.lit (.slice none 0 0),.lit (.slice none 0 0)] else [aa x.card,ae x.parents,aA x.rows]
def bF (l:List NodeP):List AVal:=(l.map NodeP.cq).flatten
theorem jH (x:NodeP):x.cq.length=3:=by unfold NodeP.cq;split<;>rfl
theorem Dx (l:List NodeP):(bF l).length=l.length*3:=mh (f:=NodeP.cq) jH l
theorem Dy {l:List NodeP}{i:Nat}{x:NodeP}(h:l[i]?=some x):(bF l)[i*3]?=some (aa x.card):=by
 have:=ki (f:=NodeP.cq) (z:=3) jH l i 0 x h (by omega);rw[Nat.add_zero]at this;rw[show (bF l)[i*3]?=_ from this];unfold NodeP.cq;split<;>rfl
theorem Qe {l:List NodeP}(h:∀ x∈l,x.rows≠[]):bF l=au l:=by
 unfold bF au;congr 1;exact List.map_congr_left fun x hx=>if_neg (h x hx)
theorem yK {α:Type}{f:α->List AVal}{z:Nat}(hz:∀ a,(f a).length=z):∀ (l:List α) (i:Nat) (a:α),i<l.length->((l.set i a).map f).flatten=((l.map f).flatten).take (i*z)++f a++((l.map f).flatten).drop (i*z+z):=by
 intro l
 induction l with
 | nil=>intro i a h;simp at h
 | cons b l ih =>
  intro i a h;cases i with
  | zero=>simp [hz]
  | succ i =>
   have hb:=hz b;simp only[List.set_cons_succ,List.map_cons,List.flatten_cons];rw[ih i a (by simpa using h),show (i+1)*z=z+i*z by rw[Nat.add_mul];omega,List.take_append,List.drop_append,hb];rw[List.take_of_length_le (l:=f b) (i:=z+i*z) (by omega),List.drop_of_length_le (l:=f b) (i:=z+i*z+z) (by omega),show z+i*z - z=i*z by omega,show z+i*z+z - z=i*z+z by omega];simp
theorem Dz {S:Nat->Prop}{H:AHeap}{nx:Nat}{A B:List AVal}{i:Nat}{a b:AVal}(h:∀ j (h:j<A.length) (h':j<B.length),Fz S H nx A[j] B[j])(hab:Fz S H nx a b):∀ j (h:j<(A.set i a).length) (h':j<(B.set i b).length),Fz S H nx (A.set i a)[j] (B.set i b)[j]:=by
 intro j h1 h2;rw[List.getElem_set,List.getElem_set];split
 ·exact hab
 ·exact h j (by simpa using h1) (by simpa using h2)
theorem pN {S:Nat->Prop}{H:AHeap}{nx:Nat}(l:List (List Int)):Fz S H nx (aA l) (aA l):=.vec rfl fun i hi _=>by simp only[List.getElem_map];exact .dk _
theorem Qf {S:Nat->Prop}{H:AHeap}{nx:Nat}(x:NodeP):∀ c∈x.cq,Fz S H nx c c:=by
 intro c hc;unfold NodeP.cq at hc;split at hc
 ·simp only[List.mem_cons,List.not_mem_nil,or_false]at hc;rcases hc with rfl|rfl|rfl<;>exact .lit _
 ·simp only[List.mem_cons,List.not_mem_nil,or_false]at hc;rcases hc with rfl|rfl|rfl
  ·exact .lit _
  ·exact .dk _
  ·exact pN _
theorem DA {S:Nat->Prop}{H:AHeap}{nx:Nat}(l:List NodeP):∀ c∈bF l,Fz S H nx c c:=by
 intro c hc;unfold bF at hc;obtain⟨r,hr,hc⟩:=List.mem_flatten.1 hc;obtain⟨x,_,rfl⟩:=List.mem_map.1 hr;exact Qf x c hc
theorem Qg {S:Nat->Prop}{H:AHeap}{nx:Nat}:∀ (l:List NodeP),(∀ x∈l,x.rows=[]->x.parents=[])->∀ (i:Nat) (h:i<(bF l).length) (h':i<(au l).length),Fz S H nx (bF l)[i] (au l)[i]:=by
 intro l
 induction l with
 | nil=>intro _ i h;simp [bF]at h
 | cons x l ih =>
  intro hx i h h';have e1:bF (x :: l)=x.cq++bF l:=by simp [bF]
  have e2:au (x :: l)=x.cells++au l:=by simp [au]
  have l1:=jH x;have l2:x.cells.length=3:=rfl;have hc:∀ (i:Nat) (h:i<x.cq.length) (h':i<x.cells.length),Fz S H nx x.cq[i] x.cells[i]:=by
   intro i h h';by_cases hr:x.rows=[]
   ·have hp:=hx x (by simp) hr;have ez:x.cq=[aa x.card,.lit (.slice none 0 0),.lit (.slice none 0 0)]:=if_pos hr;have ec:x.cells=[aa x.card,ae [],aA []]:=(by unfold NodeP.cells;rw[hr,hp]);simp only[ez,ec]
    match i,h' with
    | 0,_=>exact .lit _
    | 1,_=>exact .nil
    | 2,_=>exact .nil
   ·have ez:x.cq=x.cells:=if_neg hr;simp only[ez]
    match i,h' with
    | 0,_=>exact .lit _
    | 1,_=>exact .dk _
    | 2,_=>exact pN _
  simp only[e1,e2];by_cases hi:i<3
  ·rw[List.getElem_append_left (by omega),List.getElem_append_left (by omega)];exact hc i (by omega) (by omega)
  ·rw[List.getElem_append_right (by omega),List.getElem_append_right (by omega)];simp only[l1,l2];exact ih (fun y hy=>hx y (by simp [hy])) (i - 3) _ _
theorem Qh {l:List NodeP}{i:Nat}{x y:NodeP}(h:l[i]?=some x)(hy:y.card=x.card):au (l.set i y)=((au l).set (i*3+1) (ae y.parents)).set (i*3+2) (aA y.rows):=by
 have hl:=get_lt h;have h1:=yK (f:=NodeP.cells) (z:=3) (fun _=>rfl) l i y hl;have h2:=pI (f:=NodeP.cells) (z:=3) (fun _=>rfl) l i x h;unfold au;rw[h1];have h3:(l.map NodeP.cells).flatten=((l.map NodeP.cells).flatten).take (i*3)++(x.cells++((l.map NodeP.cells).flatten).drop (i*3+3)):=by
  rw[<- h2,<- List.drop_drop,List.take_append_drop,List.take_append_drop]
 have hlen:(((l.map NodeP.cells).flatten).take (i*3)).length=i*3:=by
  rw[List.length_take,mh (f:=NodeP.cells) (z:=3) (fun _=>rfl)];omega
 conv=>rhs;rw[h3]
 rw[List.set_append_right _ _ (by omega),List.set_append_right _ _ (by omega),hlen,show i*3+1 - i*3=1 by omega,show i*3+2 - i*3=2 by omega];unfold NodeP.cells;simp [hy]
theorem yL {lo:Nat}{H:AHeap}{e:TypeId}{v:AVal}{cs:List AVal}(h:aD lo H e v cs){d:Option TypeDesc}{t:TypeId}(hd:d=some (.slice t)):mK d H v=some (.lit (.int .i64 cs.length)):=by
 subst hd;rcases h with ⟨rfl,rfl⟩|⟨id,g,_,_,rfl,h4⟩
 ·rfl
 ·rw[wo,AU,ah h4];rfl
theorem Qi (l p:List Int)(hl:(l.length:Int)<2 ^ 40)(hp:(p.length:Int)<2 ^ 39)(hin:∀ q∈p,0<=q/\q<l.length)(H:AHeap)(K:ARes->AHeap->Prop)(hK:∀ v H',Over H H'->aD H.next H' 3 v (ints (aT l p))->K (.ret v) H'):af Try.prog G0 67 [ae l,ae p] H K:=by
 refine af.clo ⟨_,Try.func67,rfl,rfl⟩ fun hcl=>?_;refine af.bf (n:=24) (rs:=[.tmp 4]) Try.func67 rfl rfl rfl (by decide) (by kernel_rfl) (by simp) ?_;simp only[go_sem];refine W.aG 8388576 (by rfl) (fun ρ H'=>∃ k:Nat,ρ 6=aa k/\k<=p.length/\Over H H'/\aD H.next H' 3 (ρ 5) (ints (aT l (p.take k)))) (fun ρ H=>p.length - (iv (ρ 6)).toNat) ?_ ?_
 ·simp only[go_sem];exact⟨0,rfl,by omega,.refl _,.nil⟩
 rintro ρ H' ⟨k,h6,hk,ov,h5⟩;refine ab _ _ _ (by rfl) ?_;by_cases hb:(k:Int)<p.length
 ·obtain⟨q,hq⟩:=get_of_lt (l:=p) (i:=k) (by omega);obtain⟨j,rfl,a,ha⟩:=nr (hin q (List.mem_of_getElem? hq)).1 (hin q (List.mem_of_getElem? hq)).2;have hne:=aJ hq;have hne2:=aJ ha;have hj:=get_lt ha;have hj':(j:Int)<l.length:=by omega
  obtain⟨v',H2,hA,ov2,hO,hn2,_⟩:=kX a ov h5 (by simp [aT];omega);have w1:=IntWalk.i64_in ((k:Int)+1) (by omega);simp only[go_sem,h6,hb,hq,hne,ha,hne2,hj',w1,hA];refine⟨by have:=ov2.next;omega,⟨k+1,by simp,by omega,ov2,?_⟩,by omega⟩;rw[DR hq,Int.toNat_natCast,bG ha];exact hO
 ·simp only[go_sem,h6,hb];rw[List.take_of_length_le (by omega)]at h5;exact av.mk ov.next (hK _ _ ov h5)
theorem Qj (g:Int)(ns:List NodeP)(v:Nat)(x:NodeP)(hx:ns[v]?=some x)(hl:(ns.length:Int)<2 ^ 39)(hp:(x.parents.length:Int)<2 ^ 39)(hin:gA x.parents ns.length)(H:AHeap)(K:ARes->AHeap->Prop)
  (hK:∀ v H',Over H H'->aD H.next H' 3 v (ints (aS ns x))->K (.ret v) H'):af Try.prog G0 37 [aQ g ns,aa v] H K:=by
 refine af.clo ⟨_,Try.func37,rfl,rfl⟩ fun hcl=>?_;have hne:=dQ hx;have e1:=kS hx;have hv:(v:Int)<ns.length:=by have:=get_lt hx;omega
 refine af.bf (n:=14) (rs:=[.tmp 4]) Try.func37 rfl rfl rfl (by decide) (by kernel_rfl) (by simp) ?_;simp only[go_sem,aQ,bW];refine W.draw 8 [0,1,0,4,0,28,60,124] Try.mixed (by kernel_rfl) (by kernel_rfl) ?_;simp only[go_sem];refine⟨ae (ar ns),[],dA.pure fun H2=>pQ g ns hl H2 _ ⟨rfl,rfl⟩,?_⟩;simp only[go_sem,hv,hne,e1];refine aB.clo (Qi (ar ns) x.parents (by rw[bP];omega) hp (by rw[bP];exact hin) _ _ fun w H3 ov ho=>⟨trivial,?_⟩);simp only[go_sem];have o1:Over H H3:=(Over.ext _ _).trans ov;exact av.mk o1.next (hK _ _ o1 (ho.keep (by simp [bJ]) (Nat.le_refl _) fun _ _ _ _ _ _=>rfl))
theorem Qk {ns:List NodeP}{P:List Int}(hP:IsPerm ns.length P)(hall:∀ v:Nat,v<ns.length->(v:Int)∈P)(hr:∀ (j v:Nat) (x:NodeP),P[j]?=some (v:Int)->ns[v]?=some x->∀ q∈x.parents,0<=q/\∃ k,k<j/\P[k]?=some q):mj (bB ns):=by
 intro v hv;have hl:(bB ns).length=ns.length:=by simp [bB]
 rw[hl]at hv;obtain⟨j,hj⟩:=List.mem_iff_getElem?.1 (hall v hv);have h0:∀ p∈P.take j,0<=p:=fun p hp=>(hP.rng p (List.mem_of_mem_take hp)).1;have sub:∀ (k u:Nat) (x:NodeP),k<=j->P[k]?=some (u:Int)->ns[u]?=some x->Sub ((bB ns).getD u 0) (dR (P.take j)):=fun k u x hk hu hx i hi=>by
  rw[bG (nG hx)]at hi;have hp0:∀ p∈x.parents,0<=p:=fun p hp=>(hr k u x hu hx p hp).1;rw[mi hp0]at hi;obtain⟨_,k',hk',hq⟩:=hr k u x hu hx _ (of_decide_eq_true hi);rw[mi h0];refine decide_eq_true ?_;exact List.mem_iff_getElem?.2 ⟨k',by rw[List.getElem?_take_of_lt (by omega)];exact hq⟩
 have hcl:mm (bB ns) (dR (P.take j)):=fun u hu ht=>by
  rw[hl]at hu;rw[mi h0]at ht;obtain⟨k,hk⟩:=List.mem_iff_getElem?.1 (of_decide_eq_true ht);have hkl:=get_lt hk;rw[List.length_take]at hkl;rw[List.getElem?_take_of_lt (by omega)]at hk;obtain⟨x,hx⟩:=get_of_lt hu;exact sub k u x (by omega) hk hx
 obtain⟨x,hx⟩:=get_of_lt hv;have h1:=uM hcl (bB ns).length (sub j v x (Nat.le_refl _) hj hx);cases hb:(fJ (bB ns) ((bB ns).getD v 0)).testBit v with
 | false=>rfl
 | true =>
  exfalso;have h2:=h1 v hb;rw[mi h0]at h2;obtain⟨k,hk⟩:=List.mem_iff_getElem?.1 (of_decide_eq_true h2);have hkl:=get_lt hk;rw[List.length_take]at hkl;rw[List.getElem?_take_of_lt (by omega)]at hk;have e:P[k]?=P[j]?:=by rw[hk,hj]
  have:=(List.getElem?_inj (get_lt hk) hP.nd).1 e;omega
theorem pF {lo:Nat}{H:AHeap}{e1 e0:TypeId}{v:AVal}{rows:List (List AVal)}(h:dS lo H e1 e0 v rows):v.one=true/\v.cells=[v]:=let ⟨_,a,_⟩:=h;⟨a.one,a.cells⟩
theorem kg {lo:Nat}{H:AHeap}{e1 e0:TypeId}{v:AVal}{rows:List (List AVal)}(h:dS lo H e1 e0 v rows){k:Nat}{b:Blk}(hk:k<lo):dS lo (H.upd k b) e1 e0 v rows :=
 let ⟨cs,a,b',c,e⟩:=h
 have u:∀ {u:AVal} {e:TypeId} {l:List AVal},aD lo H e u l->aD lo (H.upd k b) e u l:=fun h=>h.keep (Nat.le_refl _) (by rw[az];exact Nat.le_refl _) fun i _ h1 _ _ _=>by rw[ag,if_neg (by omega)]
 ⟨cs,u a,b',fun j r q h1 h2=>u (c j r q h1 h2),e⟩
abbrev fG (a b:AVal):Blk:=.arr 0 42 [a,b]
def uq (p:Int)(k:Nat):Bool:=decide (IntKind.u8.wrap (((BitVec.ofInt IntKind.u8.bits (p.fdiv (2 ^ (min ((k:Int)).toNat IntKind.u8.bits))) &&& BitVec.ofInt IntKind.u8.bits 1).toNat:Nat):Int)=1)
def j9 (ms:List Int)(i v:Nat):Bool:=match ms[i]? with
 | some m=>uq m v
 | none=>false
def gQ (ms:List Int)(i k:Nat)(vals:List Int):List Int:=(List.range vals.length).map fun v=>if v<k/\j9 ms i v=true then -1 else vals.getD v 0
theorem mY (ms:List Int)(i k:Nat)(vals:List Int):(gQ ms i k vals).length=vals.length:=by simp [gQ]
theorem M4 (ms:List Int)(i:Nat)(vals:List Int):gQ ms i 0 vals=vals:=by
 refine List.ext_getElem? fun j=>?_;unfold gQ;rw[List.getElem?_map];rcases Nat.lt_or_ge j vals.length with h|h
 ·obtain⟨x,hx⟩:=get_of_lt h;rw[List.getElem?_range h,hx];show some (if j<0/\_ then _ else vals.getD j 0)=_;rw[if_neg (by omega),bG hx]
 ·rw[List.getElem?_eq_none (by simpa using h),List.getElem?_eq_none h];rfl
theorem yg {ms:List Int}{i k:Nat}{vals:List Int}{v:Nat}{x:Int}(h:vals[v]?=some x):(gQ ms i k vals)[v]?=some (if v<k/\j9 ms i v=true then -1 else x):=by
 unfold gQ;rw[List.getElem?_map,List.getElem?_range (get_lt h)];show some (if v<k/\j9 ms i v=true then -1 else vals.getD v 0)=_;rw[bG h]
theorem M5 {ms:List Int}{i k:Nat}{vals:List Int}(hk:k<vals.length):gQ ms i (k+1) vals=if j9 ms i k=true then (gQ ms i k vals).set k (-1) else gQ ms i k vals:=by
 refine List.ext_getElem? fun j=>?_;rcases Nat.lt_or_ge j vals.length with h|h
 ·obtain⟨x,hx⟩:=get_of_lt h;rw[yg hx];by_cases hm:j9 ms i k=true
  ·rw[if_pos hm,List.getElem?_set];by_cases hj:k=j
   ·subst hj;rw[if_pos rfl,if_pos (⟨by omega,hm⟩:k<k+1/\j9 ms i k=true),if_pos (by rw[mY];exact h)]
   ·rw[if_neg hj,yg hx];by_cases hjk:j<k
    ·simp [hjk,show j<k+1 by omega]
    ·simp [hjk,show ¬ j<k+1 by omega]
  ·rw[if_neg hm,yg hx];by_cases hj:j=k
   ·subst hj;simp [hm]
   ·by_cases hjk:j<k
    ·simp [hjk,show j<k+1 by omega]
    ·simp [hjk,show ¬ j<k+1 by omega]
 ·rw[List.getElem?_eq_none (by rw[mY];exact h)];split
  ·rw[List.getElem?_eq_none (by rw[List.length_set,mY];exact h)]
  ·rw[List.getElem?_eq_none (by rw[mY];exact h)]
def fU (l:List Int):List AVal:=l.map fun n=>.lit (.int .u16 n)
theorem M6 {l:List Int}{k:Nat}{a:Int}(h:l[k]?=some a):(fU l)[k]?=some (.lit (.int .u16 a)):=by unfold fU;rw[List.getElem?_map,h];rfl
theorem M7 (l:List Int):(fU l).length=l.length:=by simp [fU]
def pB (ns:List NodeP)(ws ms:List Int)(i:Nat):List Int:=gQ ms i ns.length (cF (ar ns) (ws.getD i 0 % aw (ar ns)))
def iy (ns:List NodeP)(ws ms:List Int):List (List Int):=(List.range (min 12 ws.length)).map (pB ns ws ms)
def pC (ns:List NodeP)(ws ms:List Int)(k:Nat):List (List Int):=(List.range k).map (pB ns ws ms)
set_option maxHeartbeats 4000000 in
theorem M8 (g:Int)(ns:List NodeP)(h8:1<=ns.length/\ns.length<=8)(hc:∀ y∈ns,1<=y.card/\y.card<=4)(hsz:aw (ar ns)<=1024)(ws ms:List Int)(hws:∀ x∈ws,0<=x/\x<65536)(hms:∀ x∈ms,0<=x/\x<256)
  (hwl:(ws.length:Int)<2 ^ 63) (hml:(ms.length:Int)<2 ^ 63) (H:AHeap) (K:ARes->AHeap->Prop) (hK:K (.ret (cj (ar ns) (iy ns ws ms))) H):
  af Try.prog G0 27 [aQ g ns,.vec ws.length (fU ws),.vec ms.length (aY ms)] H K:=by
 refine af.clo ⟨_,Try.func27,rfl,rfl⟩ fun hcl=>?_;have hp:=jc (l:=ar ns) fun c hcm=>by obtain⟨y,hy,rfl⟩:=List.mem_map.1 hcm;exact(hc y hy).1
 have wll:=M7 ws;have mll:=NJ ms;refine af.bf (n:=64) (rs:=[.cell 6 42]) Try.func27 rfl rfl rfl (by decide) (by kernel_rfl) (by simp) ?_;simp only[go_sem,aQ,bW];refine aB.clo (pQ g ns (by omega) _ _ ⟨trivial,?_⟩);simp only[go_sem];obtain⟨cs,hcs⟩:∃ cs,cs=ar ns:=⟨_,rfl⟩
 rw[<- hcs];obtain⟨H1,hH1⟩:∃ H1,H1=ext H [.arr 0 35 [aa g,.vec ns.length (au ns)],.arr 0 42 [.lit (.slice none 0 0),.lit (.slice none 0 0)],.arr 0 42 [.vec cs.length (ints cs),.lit (.slice none 0 0)]]:=⟨_,rfl⟩
 have n1:H1.next=H.next+3:=by rw[hH1];rfl
 have o1:Over H H1:=by rw[hH1];exact .ext _ _
 have g0:H1.get H.next=some (.arr 0 35 [aa g,.vec ns.length (au ns)]):=by rw[hH1];exact cJ ..
 have g1:H1.get (H.next+1)=some (.arr 0 42 [.lit (.slice none 0 0),.lit (.slice none 0 0)]):=by rw[hH1];exact bg H _ 1 (by simp)
 have g2:H1.get (H.next+2)=some (fG (ae cs) (.lit (.slice none 0 0))):=by rw[hH1];exact bg H _ 2 (by simp)
 refine W.env fun E hE=>?_;have e1:E 1=.vec ws.length (fU ws):=by rw[hE];simp only[go_sem]
 have e2:E 2=.vec ms.length (aY ms):=by rw[hE];simp only[go_sem]
 have e3:E 3=.ptr H.next 0 0:=by rw[hE];simp only[go_sem]
 have e6:E 6=.ptr (H.next+1) 0 0:=by rw[hE];simp only[go_sem]
 have e7:E 7=.ptr (H.next+2) 0 0:=by rw[hE];simp only[go_sem]
 have e8:E 8=aa 0:=by rw[hE];simp only[go_sem]
 clear hE;show W _ _ _ _ _ _ ⟨E,ext H [.arr 0 35 [aa g,.vec ns.length (au ns)],.arr 0 42 [.lit (.slice none 0 0),.lit (.slice none 0 0)],.arr 0 42 [.vec cs.length (ints cs),.lit (.slice none 0 0)]]⟩;rw[<- hH1];refine W.aG 9223372036854761216 (by rfl) (fun ρ Hi=>∃ (i:Nat) (xv:AVal),ρ 8=aa i/\i<=min 12 ws.length/\H1.next<=Hi.next/\(∀ id,id<H.next+2->Hi.get id=H1.get id)/\Hi.get (H.next+2)=some (fG (ae cs) xv)/\dS (H.next+3) Hi 39 3 xv ((pC ns ws ms i).map ints)) (fun ρ Hi=>12 - (iv (ρ 8)).toNat) ?_ ?_
 ·exact⟨0,_,e8,by omega,Nat.le_refl _,fun _ _=>rfl,g2,.nil⟩
 rintro ρ Hi ⟨i,xv,h8i,hi,hni,holdi,hbi,hD⟩;refine W.env fun E1 hE1=>?_;have a1:E1 1=.vec ws.length (fU ws):=by rw[hE1];simp only[go_sem,e1]
 have a2:E1 2=.vec ms.length (aY ms):=by rw[hE1];simp only[go_sem,e2]
 have a3:E1 3=.ptr H.next 0 0:=by rw[hE1];simp only[go_sem,e3]
 have a6:E1 6=.ptr (H.next+1) 0 0:=by rw[hE1];simp only[go_sem,e6]
 have a7:E1 7=.ptr (H.next+2) 0 0:=by rw[hE1];simp only[go_sem,e7]
 have a8:E1 8=aa i:=by rw[hE1];simp only[go_sem,h8i]
 clear hE1;have l0:=ah ((holdi _ (by omega)).trans g0);have l1:=ah ((holdi _ (by omega)).trans g1);have l2:=ah hbi;obtain⟨xone,xcells⟩:=pF hD;have fin:i=min 12 ws.length->av Try.prog G0 H K (.agg [ae cs,xv]) (Hi.upd (H.next+1) (fG (ae cs) xv)):=fun hm=>by
  have hcl2:iy ns ws ms=pC ns ws ms i:=by rw[hm];rfl
  rw[hcl2,<- hcs]at hK;exact av.bA aP hcl ⟨by rw[az];omega,fun id h=>by rw[ag,if_neg (by omega),holdi id (by omega)];exact o1.old id h⟩ (uB (.dk _) (rI (kg hD (by omega)).rH fun i h=>by omega)) hK
 by_cases c1:(i:Int)<ws.length;rotate_left
 ·refine ab _ _ _ (by rfl) ?_;simp only[go_sem,a1,a6,a7,a8,l1,l2,c1,xone];exact fin (by omega)
 by_cases c2:(i:Int)<12;rotate_left
 ·refine ab _ _ _ (by rfl) ?_;simp only[go_sem,a1,a6,a7,a8,l1,l2,c1,c2,xone];exact fin (by omega)
 obtain⟨wd,hwd⟩:=get_of_lt (l:=ws) (i:=i) (by omega);have hwr:=hws wd (List.mem_of_getElem? hwd);have hwg:=M6 hwd;have hwn:=aJ hwg;have wu:=IntWalk.i64_in wd (by omega);have wm:wd.tmod (aw cs)=wd % aw cs:=by rw[hcs];exact Int.tmod_eq_emod_of_nonneg hwr.1
 have wmr:=Int.emod_lt_of_pos wd (show 0<aw cs by rw[hcs];omega);have wmn:=Int.emod_nonneg wd (show aw cs≠0 by rw[hcs];omega);have wmw:=IntWalk.i64_in (wd % aw cs) (by rw[hcs]at wmr wmn ⊢;omega);have hpz:¬ aw cs=0:=by rw[hcs];omega
 refine ab _ _ _ (by rfl) ?_;simp only[go_sem,a1,a8,c1,c2];refine W.draw 9 [0,0,0,6,14,30,0,64,254] Try.mixed (by kernel_rfl) (by kernel_rfl) ?_;simp only[go_sem,a1,a3,a8,l0,c1,hwg,hwn,wu];refine⟨aa (aw cs),[],dA.pure (fun H2=>yV g ns h8.2 hc H2 _ ⟨by rw[hcs],rfl⟩),?_⟩;simp only[go_sem,hpz,wm];refine aB.clo (M3 g ns h8.2 hc (wd % aw cs) (by rw[hcs]at wmr wmn ⊢;omega) _ _ fun cv Hk ov hO=>⟨trivial,?_⟩);rw[<- hcs]at hO;obtain⟨vals,hvals⟩:∃ vals,vals=cF cs (wd % aw cs):=⟨_,rfl⟩
 have hvl:vals.length=ns.length:=by rw[hvals,kT,hcs,bP]
 rw[<- hvals]at hO;rcases hO with ⟨_,e⟩|⟨ic,gc,ic1,ic2,rfl,hgc⟩
 ·have:=congrArg List.length e;rw[aM,hvl,List.length_nil]at this;omega
 rw[aM,hvl];have ovn:=ov.next;simp only[go_sem];refine W.env fun E2 hE2=>?_;have b1:E2 1=.vec ws.length (fU ws):=by rw[hE2];simp only[go_sem,a1]
 have b2:E2 2=.vec ms.length (aY ms):=by rw[hE2];simp only[go_sem,a2]
 have b3:E2 3=.ptr H.next 0 0:=by rw[hE2];simp only[go_sem,a3]
 have b6:E2 6=.ptr (H.next+1) 0 0:=by rw[hE2];simp only[go_sem,a6]
 have b7:E2 7=.ptr (H.next+2) 0 0:=by rw[hE2];simp only[go_sem,a7]
 have b8:E2 8=aa i:=by rw[hE2];simp only[go_sem,a8]
 have b9:E2 9=.own ic gc 0 ns.length 1:=by rw[hE2];simp only[go_sem]
 have b10:E2 10=aa 0:=by rw[hE2];simp only[go_sem]
 clear hE2;refine W.aG 144115170895987712 (by rfl) (fun ρ Hj=>∃ v:Nat,ρ 10=aa v/\v<=ns.length/\Hj.next=Hk.next/\(∀ id,id≠ic->Hj.get id=Hk.get id)/\Hj.get ic=some (.arr gc 3 (ints (gQ ms i v vals)))) (fun ρ Hj=>ns.length - (iv (ρ 10)).toNat) ?_ ?_
 ·exact⟨0,b10,by omega,rfl,fun _ _=>rfl,by rw[M4];exact hgc⟩
 rintro ρ3 Hj ⟨v,h10,hv,nj,oj,gj⟩;refine W.env fun E3 hE3=>?_;have d1:E3 1=.vec ws.length (fU ws):=by rw[hE3];simp only[go_sem,b1]
 have d2:E3 2=.vec ms.length (aY ms):=by rw[hE3];simp only[go_sem,b2]
 have d3:E3 3=.ptr H.next 0 0:=by rw[hE3];simp only[go_sem,b3]
 have d6:E3 6=.ptr (H.next+1) 0 0:=by rw[hE3];simp only[go_sem,b6]
 have d7:E3 7=.ptr (H.next+2) 0 0:=by rw[hE3];simp only[go_sem,b7]
 have d8:E3 8=aa i:=by rw[hE3];simp only[go_sem,b8]
 have d9:E3 9=.own ic gc 0 ns.length 1:=by rw[hE3];simp only[go_sem,b9]
 have d10:E3 10=aa v:=by rw[hE3];simp only[go_sem,h10]
 clear hE3;have ljc:=ah gj;have mrl:=mY ms i v vals;by_cases c3:(v:Int)<ns.length;rotate_left
 ·have ev:v=ns.length:=by omega
  subst ev;have w1:=IntWalk.i64_in ((i:Int)+1) (by omega);have hcase:pB ns ws ms i=gQ ms i ns.length vals:=by unfold pB;rw[bG hwd,<- hcs,<- hvals]
  have ovj:Over Hi Hj:=⟨by omega,fun id h=>(oj id (by omega)).trans (ov.old id h)⟩
  have hOj:aD Hi.next Hj 3 (.own ic gc 0 ns.length 1) (ints (gQ ms i ns.length vals)):=.inr ⟨ic,gc,ic1,by omega,by rw[aM,mrl,hvl],gj⟩;obtain⟨xv2,H5,hA,hD5,hn5,hp5⟩:=dS.app (P:=Try.prog) (n:=Hj.next+1) (t:=40) Try.underlying40 Try.l8 Try.ma Try.l9 (by decide) (by simp [pC];omega) hD ovj (by omega) hOj rfl;have k2:Hj.live (H.next+2) 0=some (42,[ae cs,xv]):=(ovj.live (g:=0) (by omega:H.next+2<Hi.next)).trans l2;have k2e:∀ L,(ext Hj L).live (H.next+2) 0=some (42,[ae cs,xv]):=fun L=>(dB (by omega)).trans k2;have k5:H5.live (H.next+2) 0=some (42,[ae cs,xv]):=ah ((hp5 _ (by omega) (by omega)).trans ((ovj.old _ (by omega)).trans hbi));obtain⟨xone2,xcells2⟩:=pF hD5;refine ab _ _ _ (by rfl) ?_;simp only[go_sem,d7,d8,d9,d10,ljc,c3,k2,hA,k5,xone2,xcells2,w1];refine⟨by rw[az];omega,⟨i+1,xv2,rfl,by omega,by rw[az];omega,fun id h=>by rw[ag,if_neg (by omega),hp5 id (by omega) (by omega),ovj.old id (by omega)];exact holdi id h,by rw[ag,if_pos rfl],?_⟩,by rw[h8i];simp only[aa,aK];omega⟩;have eK:(pC ns ws ms (i+1)).map ints=(pC ns ws ms i).map ints++[ints (gQ ms i ns.length vals)]:=by
   unfold pC;rw[List.range_succ,List.map_append,List.map_append,<- hcase];rfl
  rw[eK];exact kg hD5 (by omega)
 have w2:=IntWalk.i64_in ((v:Int)+1) (by omega);have msc:=M5 (ms:=ms) (i:=i) (k:=v) (vals:=vals) (by omega);by_cases c4:(i:Int)<ms.length;rotate_left
 ·have hq:j9 ms i v=false:=by unfold j9;rw[List.getElem?_eq_none (by omega)]
  rw[hq,if_neg (by decide)]at msc;refine ab _ _ _ (by rfl) ?_;simp only[go_sem,d2,d8,d9,d10,ljc,c3,c4,w2];exact⟨by omega,⟨v+1,rfl,by omega,nj,oj,by rw[msc];exact gj⟩,by rw[h10];simp only[aa,aK];omega⟩
 obtain⟨m,hm⟩:=get_of_lt (l:=ms) (i:=i) (by omega);have hmg:=ru hm;have hmn:=aJ hmg;have hq:j9 ms i v=uq m v:=by unfold j9;rw[hm]
 obtain⟨r1,hr1⟩:∃ r1,m.fdiv (2 ^ (min ((v:Int)).toNat IntKind.u8.bits))=r1:=⟨_,rfl⟩
 obtain⟨r2,hr2⟩:∃ r2,IntKind.u8.wrap (((BitVec.ofInt IntKind.u8.bits r1 &&& BitVec.ofInt IntKind.u8.bits 1).toNat:Nat):Int)=r2:=⟨_,rfl⟩
 have s1:∀ t o1 o2,aX Try.prog .shr t o1 o2 (.lit (.int .u8 m)) (.lit (.int .i64 (v:Int)))=some (.lit (.int .u8 r1)):=fun t o1 o2=>by rw[rU (by omega),hr1]
 have s2:∀ t o1 o2,aX Try.prog .and t o1 o2 (.lit (.int .u8 r1)) (.lit (.int .u8 1))=some (.lit (.int .u8 r2)):=fun t o1 o2=>by rw[vb,hr2]
 have hb8:uq m v=decide (r2=1):=by unfold uq;rw[hr1,hr2]
 rw[hq,hb8]at msc;by_cases hr:r2=1
 ·rw[decide_eq_true hr,if_pos rfl]at msc;refine ab _ _ _ (by rfl) ?_;simp only[go_sem,d2,d8,d9,d10,ljc,mrl,hvl,c3,c4,hmg,hmn,s1,s2,hr,w2];refine⟨by omega,by rw[az];omega,⟨v+1,rfl,by omega,by rw[az];exact nj,fun id h=>by rw[ag,if_neg h];exact oj id h,?_⟩,by rw[h10];simp only[aa,aK];omega⟩;rw[ag,if_pos rfl,dM (by omega),msc]
 ·rw[decide_eq_false hr,if_neg (by decide)]at msc;refine ab _ _ _ (by rfl) ?_;simp only[go_sem,d2,d8,d9,d10,ljc,c3,c4,hmg,hmn,s1,s2,hr,w2];exact⟨by omega,⟨v+1,rfl,by omega,nj,oj,by rw[msc];exact gj⟩,by rw[h10];simp only[aa,aK];omega⟩
def eJ (w a n:Int)(cs:List Int)(xs:List (List Int)):List Int × List (List Int) :=
 if w % 6=0 then (cs.set (a % (cs.length:Int)).toNat n,xs)
 else if w % 6=1/\0<xs.length then
  (cs,xs.set (a / 4 % (xs.length:Int)).toNat ((xs.getD (a / 4 % (xs.length:Int)).toNat []).set (a % ((xs.getD (a / 4 % (xs.length:Int)).toNat []).length:Int)).toNat n))
 else if w % 6=2/\0<xs.length then (cs,xs.set (a % (xs.length:Int)).toNat ((xs.getD (a % (xs.length:Int)).toNat []).drop 1))
 else if w % 6=3 then (cs,xs++List.replicate (41 - xs.length) (List.replicate cs.length 0))
 else if w % 6=4 then ([4,4,4,4,4,4],[])
 else ([],xs)
def pG (w a n:Int):List AVal:=[.lit (.int .u8 w),.lit (.int .u8 a),.lit (.int .i64 n)]
abbrev yv (w a n:Int):Blk:=.arr 0 30 [.lit (.int .u8 w),.lit (.int .u8 a),.lit (.int .i64 n)]
theorem NX {S:Nat->Prop}{lo nx idt gt idr gr k:Nat}{Hi Hz:AHeap}{ocs:List AVal}{xs:List (List Int)}{r:List Int}(hS:∀ i,lo<=i->S i)(oL:ocs.length=(xs.map ints).length)(oC:∀ (j:Nat) (q:List AVal) (c:AVal),(xs.map ints)[j]?=some q->ocs[j]?=some c->aD lo Hi 3 c q)
  (hit:lo<=idt) (hgt:Hz.get idt=some (.arr gt 39 (ocs.set k (.own idr gr 1 (r.length - 1) 1)))) (hn:idt<Hz.next) (hir:lo<=idr) (hgr:Hz.get idr=some (.arr gr 3 (ints r))) (hkeep:∀ id g c,lo<=id->Hi.get id=some (.arr g 3 c)->Hz.get id=Hi.get id) (hnx:Hi.next<=Hz.next):
  Fz S Hz nx (.own idt gt 0 xs.length 1) (aA (xs.set k (r.drop 1))):=by
 rw[List.length_map]at oL;have hG:aD lo Hz 39 (.own idt gt 0 xs.length 1) (ocs.set k (.own idr gr 1 (r.length - 1) 1)):=.inr ⟨idt,gt,hit,hn,by rw[List.length_set,oL],hgt⟩;have:=hG.fz (S:=S) (nx:=nx) (cs':=(xs.set k (r.drop 1)).map ae) hS (by simp [oL]) fun i h h'=>by
  simp only[List.getElem_map,List.getElem_set];split
  ·have hl:(ae (r.drop 1))=.vec (r.length - 1) (ints (r.drop 1)):=(by unfold ae;rw[List.length_drop]);rw[hl];refine .frz (hS _ hir) hgr (by rw[aM,List.length_drop];omega) fun j a b c=>?_;simp only[ints,List.getElem_map,List.getElem_drop];exact .lit _
  ·rw[List.length_set]at h;refine aD.gJ (lo:=lo) (e:=3) ?_ hS;have h1:ocs[i]?=some ocs[i]:=List.getElem?_eq_getElem h;have h2:(xs.map ints)[i]?=some (ints (xs[i]'(by omega))):=(by rw[List.getElem?_map,List.getElem?_eq_getElem (by omega)];rfl);exact(oC i _ _ h2 h1).keep (Nat.le_refl _) hnx fun id g a _ b _=>hkeep id g _ a b
 rw[List.length_map,List.length_set]at this;unfold aA;rw[List.length_set];exact this
set_option maxHeartbeats 4000000 in
theorem NY (w a n:Int)(hw:U8 w)(ha:U8 a)(cs:List Int)(xs:List (List Int))(hc:1<=cs.length/\cs.length<=64)(hx:xs.length<=41)(hr:ng cs.length xs)(H:AHeap)(K:ARes->AHeap->Prop)(hK:K (.ret (cj (eJ w a n cs xs).1 (eJ w a n cs xs).2)) H):
  af Try.prog G0 39 [.agg (pG w a n),cj cs xs] H K:=by
 refine af.clo ⟨_,Try.func39,rfl,rfl⟩ fun hcl=>?_;unfold U8 at hw ha;refine af.cS (n:=138) (rs:=[.cell 4 42]) Try.func39 rfl rfl rfl (by decide) (by simp) ?_;refine W.seq (ab _ _ _ (by rfl) ?_);simp only[go_sem,pG,cj,aA];obtain⟨H1,hH1⟩:∃ H1,H1=ext H [yv w a n,fG (ae cs) (.vec xs.length (xs.map ae)),fG (.lit (.slice none 0 0)) (.lit (.slice none 0 0))]:=⟨_,rfl⟩
 have b0:H1.get H.next=some (yv w a n):=by rw[hH1];exact cJ ..
 have b1:H1.get (H.next+1)=some (fG (ae cs) (.vec xs.length (xs.map ae))):=by rw[hH1];exact bg H _ 1 (by simp)
 have b2:H1.get (H.next+2)=some (fG (.lit (.slice none 0 0)) (.lit (.slice none 0 0))):=by rw[hH1];exact bg H _ 2 (by simp)
 have n1:H1.next=H.next+3:=by rw[hH1];rfl
 have o1:Over H H1:=by rw[hH1];exact .ext _ _
 refine W.env fun E hE=>?_;have e2:E 2=.ptr H.next 0 0:=by rw[hE];simp only[go_sem]
 have e3:E 3=.ptr (H.next+1) 0 0:=by rw[hE];simp only[go_sem]
 have e4:E 4=.ptr (H.next+2) 0 0:=by rw[hE];simp only[go_sem]
 clear hE;show W _ _ _ _ _ _ ⟨E,ext H [yv w a n,fG (ae cs) (.vec xs.length (xs.map ae)),fG (.lit (.slice none 0 0)) (.lit (.slice none 0 0))]⟩;rw[<- hH1];clear hH1;have l1:=ah b1;have l1e:∀ L,(ext H1 L).live (H.next+1) 0=_:=fun L=>(dB (by omega)).trans l1;obtain⟨cv,Hq,hA1,hcO,hqn,hqp⟩:=qH (P:=Try.prog) (H:=ext H1 [.arr 0 3 []]) (t:=39) (n:=H1.next+1) (lo:=H1.next) (src:=ints cs) Try.underlying39 Try.dW Try.ew (oK _) (by rw[Try.eU,aM,List.length_nil];omega) (aD.new (H:=H1) (cs:=[])) (by rw[bJ];simp) rfl;rw[List.nil_append]at hcO;rw[aM]at hA1;simp only[List.length_nil]at hA1;have cone:=hcO.one;have ccells:=hcO.cells;have rz:List.replicate 0 (AVal.lit (.int .i64 0))=[]:=rfl;refine W.seq (ab _ _ _ (by rfl) ?_);simp only[go_sem,e3,l1e,hA1,cone,ccells,rz];have hxn:(ext H1 [.arr 0 3 []]).next=H1.next+1:=rfl;have oq:Over H1 Hq:=⟨by omega,fun id h=>by rw[hqp id (by omega) (fun g m e=>by have:=(AVal.own.inj e).1;omega),cb _ _ _ h]⟩
 obtain⟨Hs,hHs⟩:∃ Hs,Hs=ext Hq [fG cv (.lit (.slice none 0 0))]:=⟨_,rfl⟩
 have ns:Hs.next=Hq.next+1:=by rw[hHs];rfl
 have os:Over Hq Hs:=by rw[hHs];exact .ext _ _
 have b5:Hs.get Hq.next=some (fG cv (.lit (.slice none 0 0))):=by rw[hHs];exact cA
 have oall:=(o1.trans oq).trans os;have c0:=(os.old _ (by omega)).trans ((oq.old _ (by omega)).trans b0);have c1:=(os.old _ (by omega)).trans ((oq.old _ (by omega)).trans b1);have c2:=(os.old _ (by omega)).trans ((oq.old _ (by omega)).trans b2);have csO:=hcO.over os;rw[<- hHs];refine W.env fun E hE=>?_;have f2:E 2=.ptr H.next 0 0:=by rw[hE];simp only[go_sem,e2]
 have f3:E 3=.ptr (H.next+1) 0 0:=by rw[hE];simp only[go_sem,e3]
 have f4:E 4=.ptr (H.next+2) 0 0:=by rw[hE];simp only[go_sem,e4]
 have f5:E 5=.ptr Hq.next 0 0:=by rw[hE];simp only[go_sem]
 clear hE hHs;obtain⟨idc,gc,ic1,ic2,hcv,hgc⟩:∃ id g,H1.next<=id/\id<Hq.next/\cv=.own id g 0 cs.length 1/\Hs.get id=some (.arr g 3 (ints cs)):=by
  rcases hcO with ⟨_,e⟩|⟨id,g,h1,h2,h3,h4⟩
  ·have:=congrArg List.length e;rw[aM,List.length_nil]at this;omega
  ·rw[aM]at h3;exact⟨id,g,h1,h2,h3,(os.old _ h2).trans h4⟩
 clear csO hcO cone ccells hqp hA1;refine W.de (fun s'=>s'.ρ 2=.ptr H.next 0 0/\s'.ρ 3=.ptr (H.next+1) 0 0/\s'.ρ 4=.ptr (H.next+2) 0 0/\s'.ρ 5=.ptr Hq.next 0 0/\Hs.next<=s'.H.next/\(∀ id,id<Hq.next->s'.H.get id=Hs.get id)/\∃ xv,s'.H.get Hq.next=some (fG cv xv)/\dS Hs.next s'.H 39 3 xv (xs.map ints)) ?_ ?_
 ·refine W.seq (ab _ _ _ (by rfl) ?_);simp only[go_sem];refine W.block ?_;refine W.aG 8589918272 (by rfl) (fun ρ Hi=>∃ (i:Nat) (xv:AVal),ρ 6=aa i/\i<=xs.length/\Hs.next<=Hi.next/\(∀ id,id<Hq.next->Hi.get id=Hs.get id)/\Hi.get Hq.next=some (fG cv xv)/\dS Hs.next Hi 39 3 xv ((xs.take i).map ints)) (fun ρ H=>xs.length - (iv (ρ 6)).toNat) ?_ ?_
  ·simp only[go_sem];exact⟨0,_,rfl,by omega,b5,.nil⟩
  rintro ρ Hi ⟨i,xv,h6,hi,hni,holdi,hbi,hD⟩;refine ab _ _ _ (by rfl) ?_;have l1:=ah ((holdi _ (by omega)).trans c1);have l5:=ah hbi;by_cases g1:(i:Int)<xs.length;rotate_left
  ·simp only[go_sem,f2,f3,f4,f5,h6,l1,g1];rw[List.take_of_length_le (by omega)]at hD;exact⟨hni,holdi,xv,hbi,hD⟩
  obtain⟨r,hrr⟩:=get_of_lt (l:=xs) (i:=i) (by omega);have rl:=hr r (List.mem_of_getElem? hrr);have hr':=lY hrr;have hrn:=aJ hr';have l1e:∀ L,(ext Hi L).live (H.next+1) 0=_:=fun L=>(dB (by omega)).trans l1;have l5e:∀ L,(ext Hi L).live Hq.next 0=_:=fun L=>(dB (by omega)).trans l5;obtain⟨rv,Hx,hA1,rO,hxn',hxp⟩:=qH (P:=Try.prog) (H:=ext Hi [.arr 0 3 []]) (t:=39) (n:=Hi.next+1) (lo:=Hi.next) (src:=ints r) Try.underlying39 Try.dW Try.ew (oK _) (by rw[Try.eU,aM,List.length_nil];omega) (aD.new (H:=Hi) (cs:=[])) (by rw[bJ];simp) rfl;rw[List.nil_append]at rO;rw[aM]at hA1;simp only[List.length_nil]at hA1;have hen:(ext Hi [.arr 0 3 []]).next=Hi.next+1:=rfl;have ox:Over Hi Hx:=⟨by omega,fun id h=>by rw[hxp id (by omega) (fun g m e=>by have:=(AVal.own.inj e).1;omega),cb _ _ _ h]⟩
  have rone:=rO.one;have rcells:=rO.cells;obtain⟨xv2,H5,hA2,hD5,hn5,hp⟩:=dS.app (P:=Try.prog) (n:=Hx.next+1) (t:=40) Try.underlying40 Try.l8 Try.ma Try.l9 (by decide) (by rw[List.length_map,List.length_take];omega) hD ox hni rO rfl;have k5:H5.live Hq.next 0=_:=ah ((hp _ (by omega) (by omega)).trans ((ox.old _ (by omega)).trans hbi));obtain⟨xone,xcells⟩:=pF hD5;have w1:=IntWalk.i64_in ((i:Int)+1) (by omega);simp only[go_sem,f3,h6,l1,g1];refine W.draw 10 [0,1,0,0,8,0,56,120,252,508] Try.mixed (by kernel_rfl) (by kernel_rfl) ?_;simp only[go_sem,f3,f5,h6,l5,l1e,g1,hr',hrn,hA1,rcells,hA2,k5,xone,xcells,rz,w1];refine⟨⟨fun _ h=>by omega,fun _ h=>by omega⟩,fun _ h=>by omega,fun _ h=>by omega,⟨fun _ h=>by omega,fun _ h=>by omega⟩,⟨fun _ h=>by omega,fun _ h=>by omega⟩,by rw[az];omega,⟨i+1,xv2,rfl,by omega,by rw[az];omega,fun id h=>by rw[ag,if_neg (by omega),hp id (by omega) (by omega),ox.old id (by omega)];exact holdi id h,by rw[ag,if_pos rfl],?_⟩,by omega⟩;rw[aL hrr,List.map_append];exact kg hD5 (by omega)
 rintro⟨ρ1,Hi⟩ ⟨p2,p3,p4,p5,hni,hold,xv,hb5,hD⟩;simp only at p2 p3 p4 p5 hni hold hb5 hD;have k0:=ah ((hold _ (by omega)).trans c0);have k2:=ah ((hold _ (by omega)).trans c2);have k5:=ah hb5;have gci:=(hold _ ic2).trans hgc;have kc:=ah gci;obtain⟨xone,xcells⟩:=pF hD;have oi:Over H Hi:=⟨by have:=oall.next;omega,fun id h=>(hold id (by omega)).trans (oall.old id h)⟩
 have wm:w.tmod 6=w % 6:=Int.tmod_eq_emod_of_nonneg hw.1;have wu:IntKind.u8.wrap (w % 6)=w % 6:=IntWalk.u8_in _ (by omega);have ai:=IntWalk.i64_in a (by omega);have fin:∀ (Hz:AHeap) (cv' xv':AVal) (cs':List Int) (xs':List (List Int)),H.next<=Hz.next->(∀ id,id<H.next->Hz.get id=H.get id)->Fz (fun id=>H.next<=id) Hz H.next cv' (ae cs')->Fz (fun id=>H.next<=id) Hz H.next xv' (aA xs')->(cs',xs')=eJ w a n cs xs->av Try.prog G0 H K (.agg [cv',xv']) Hz:=fun Hz cv' xv' cs' xs' h1 h2 h3 h4 h5=>by
  rw[<- h5]at hK;exact av.bA aP hcl ⟨h1,h2⟩ (uB h3 h4) hK
 rw[hcv]at k5 hb5;have own:∀ (Hz:AHeap) (cs':List Int),idc<Hz.next->cs'.length=cs.length->Hz.get idc=some (.arr gc 3 (ints cs'))->Fz (fun id=>H.next<=id) Hz H.next (.own idc gc 0 cs.length 1) (ae cs'):=fun Hz cs' h1 h2 h3=>by
  rw[<- h2];exact aD.gJ (lo:=H.next) (.inr ⟨idc,gc,by omega,h1,by rw[aM],h3⟩) fun i h=>h
 have kl:(0:Int)<cs.length:=by omega
 have cz:¬ (cs.length:Int)=0:=by omega
 have hlen:mK (some (TypeDesc.slice 39)) Hi xv=some (.lit (.int .i64 xs.length)):=by
  obtain⟨ocs,oG,oL,_,_⟩:=hD;have:=yL oG (d:=some (.slice 39)) rfl;rw[oL,List.length_map]at this;exact this
 have u2:∀ b,(Hi.upd Hq.next b).live (H.next+2) 0=_:=fun b=>(g9 (by omega)).trans k2;have onext:=oi.next;have nilC:eJ w a n cs xs=([],xs)->av Try.prog G0 H K (.agg [.lit (.slice none 0 0),xv]) ((Hi.upd Hq.next (fG (.lit (.slice none 0 0)) xv)).upd (H.next+2) (fG (.lit (.slice none 0 0)) xv)):=fun hb =>
  fin _ _ _ [] xs (by rw[az,az];omega) (fun id h=>by rw[ag,if_neg (by omega),ag,if_neg (by omega)];exact oi.old id h) .nil (rI (kg (kg hD (by omega)) (by omega)).rH fun i hi=>by omega) hb.symm
 refine ab _ _ _ (by rfl) ?_;have hw6:w % 6=0\/w % 6=1\/w % 6=2\/w % 6=3\/w % 6=4\/w % 6=5:=by omega
 rcases hw6 with d|d|d|d|d|d
 ·have jr:=Int.emod_lt_of_pos a kl;have jn:=Int.emod_nonneg a cz;obtain⟨j,hj⟩:=Int.eq_ofNat_of_zero_le jn;have jt:a.tmod (cs.length:Int)=j:=by rw[Int.tmod_eq_emod_of_nonneg ha.1];exact hj
  have jl:(j:Int)<cs.length:=by omega
  have u5:∀ b,(Hi.upd idc b).live Hq.next 0=_:=fun b=>(g9 (by omega)).trans k5;have u2:∀ b,(Hi.upd idc b).live (H.next+2) 0=_:=fun b=>(g9 (by omega)).trans k2;simp only[go_sem,p2,k0,wm,d];refine W.draw 11 [0,1,0,4,12,0,32,96,252,0,512] Try.mixed (by kernel_rfl) (by kernel_rfl) ?_;simp only[go_sem,p2,p4,p5,k0,k5,ai,jt,cz,jl,kc,u5,u2,xone];refine⟨by omega,fin _ _ _ (cs.set j n) xs (by rw[az,az];have:=oi.next;omega) (fun id h=>by rw[ag,if_neg (by omega),ag,if_neg (by omega)];exact oi.old id h) (own _ _ (by rw[az,az];omega) (by simp) (by rw[ag,if_neg (by omega),ag,if_pos rfl,dM (by omega)])) (rI (kg (kg hD (by omega)) (by omega)).rH fun i hi=>by omega) ?_⟩;unfold eJ;rw[if_pos d,hj];rfl
 ·by_cases hxl:(xs.length:Int) > 0;rotate_left
  ·simp only[go_sem,p2,p4,p5,k0,k5,wm,d,hlen,hxl,xone,u2];refine nilC ?_;have:¬ 0<xs.length:=(by omega);unfold eJ;rw[d,if_neg (by decide),if_neg (fun h=>this h.2),if_neg (fun h=>this h.2),if_neg (by decide),if_neg (by decide)]
  have kr:=Int.emod_lt_of_pos (a / 4) (show (0:Int)<xs.length by omega);have kn:=Int.emod_nonneg (a / 4) (show (xs.length:Int)≠0 by omega);obtain⟨k,hk⟩:=Int.eq_ofNat_of_zero_le kn;obtain⟨r,hrr⟩:=get_of_lt (l:=xs) (i:=k) (by omega);have rl:=hr r (List.mem_of_getElem? hrr);have jr:=Int.emod_lt_of_pos a (show (0:Int)<r.length by omega);have jn:=Int.emod_nonneg a (show (r.length:Int)≠0 by omega);obtain⟨j,hj⟩:=Int.eq_ofNat_of_zero_le jn;obtain⟨idt,gt,idr,gr,cells,hxv,hgt,hcl2,it1,it2,hck,hgr,ir1,ir2,hset⟩:=dS.row hD (by decide) (k:=k) (r:=ints r) (by rw[List.getElem?_map,hrr];rfl) (by intro e;have:=congrArg List.length e;rw[aM,List.length_nil]at this;omega);rw[List.length_map]at hxv hcl2;rw[aM]at hck;have lt:=ah hgt;have lr:=ah hgr;have cne:=aJ hck;have q4:a.tdiv 4=a / 4:=Int.tdiv_eq_ediv_of_nonneg ha.1;have v1:IntKind.u8.wrap (a / 4)=a / 4:=IntWalk.u8_in _ (by omega);have v2:=IntWalk.i64_in (a / 4) (by omega);have v3:(a / 4).tmod (xs.length:Int)=k:=by rw[Int.tmod_eq_emod_of_nonneg (by omega)];exact hk
  have v6:a.tmod (r.length:Int)=j:=by rw[Int.tmod_eq_emod_of_nonneg (by omega)];exact hj
  have x0:¬ (xs.length:Int)=0:=by omega
  have r0:¬ (r.length:Int)=0:=by omega
  have kl':(k:Int)<xs.length:=by omega
  have jl:(j:Int)<r.length:=by omega
  have hset':=hset (ints (r.set j n)) (by rw[aM,aM,List.length_set]);rw[hxv]at k5 hlen xone xcells hset';have u5:∀ b,(Hi.upd idr b).live Hq.next 0=_:=fun b=>(g9 (by omega)).trans k5;have u2':∀ b,(Hi.upd idr b).live (H.next+2) 0=_:=fun b=>(g9 (by omega)).trans k2;simp only[go_sem,p2,p5,k0,k5,wm,d,hlen,hxl];refine W.draw 10 [0,1,0,4,12,28,0,64,192,508] Try.mixed (by kernel_rfl) (by kernel_rfl) ?_;simp only[go_sem,p2,p5,k0,k5,q4,v1,v2,v3,x0,kl',lt,hck];refine W.draw 9 [0,0,2,6,0,16,62,0,128] Try.mixed (by kernel_rfl) (by kernel_rfl) ?_;simp only[go_sem,p2,p4,p5,k0,ai,v6,r0,jl,lr,u5,u2',xone];rw[dM (by omega)];have e:(xs.map ints).set k (ints (r.set j n))=(xs.set k (r.set j n)).map ints:=by rw[List.map_set]
  rw[e]at hset';refine⟨by omega,fin _ _ _ cs (xs.set k (r.set j n)) (by rw[az,az];omega) (fun id h=>by rw[ag,if_neg (by omega),ag,if_neg (by omega)];exact oi.old id h) (own _ _ (by rw[az,az];omega) rfl (by rw[ag,if_neg (by omega),ag,if_neg (by omega)];exact gci)) (rI (kg hset' (by omega)).rH fun i hi=>by omega) ?_⟩;unfold eJ;rw[if_neg (by omega),if_pos ⟨d,by omega⟩];simp only[hk,Int.ofNat_eq_natCast,Int.toNat_natCast,bG hrr,hj]
 ·by_cases hxl:(xs.length:Int) > 0;rotate_left
  ·simp only[go_sem,p2,p4,p5,k0,k5,wm,d,hlen,hxl,xone,u2];refine nilC ?_;have:¬ 0<xs.length:=(by omega);unfold eJ;rw[d,if_neg (by decide),if_neg (fun h=>this h.2),if_neg (fun h=>this h.2),if_neg (by decide),if_neg (by decide)]
  have kr:=Int.emod_lt_of_pos a (show (0:Int)<xs.length by omega);have kn:=Int.emod_nonneg a (show (xs.length:Int)≠0 by omega);obtain⟨k,hk⟩:=Int.eq_ofNat_of_zero_le kn;obtain⟨r,hrr⟩:=get_of_lt (l:=xs) (i:=k) (by omega);have rl:=hr r (List.mem_of_getElem? hrr);obtain⟨ocs,oG,oL,oC,oD⟩:=hD;have hri:(xs.map ints)[k]?=some (ints r):=by rw[List.getElem?_map,hrr];rfl
  obtain⟨ck,hck⟩:=get_of_lt (l:=ocs) (i:=k) (by rw[oL,List.length_map];omega);have okR:=oC k _ ck hri hck;rcases oG with ⟨_,e⟩|⟨idt,gt,it1,it2,hxv,hgt⟩
  ·rw[e]at hck;cases hck
  rcases okR with ⟨_,e⟩|⟨idr,gr,ir1,ir2,hcr,hgr⟩
  ·have:=congrArg List.length e;rw[aM,List.length_nil]at this;omega
  rw[oL,List.length_map]at hxv;rw[aM]at hcr;rw[hcr]at hck;have lt:=ah hgt;have cne:=aJ hck;have v3:a.tmod (xs.length:Int)=k:=by rw[Int.tmod_eq_emod_of_nonneg (by omega)];exact hk
  have v4:=IntWalk.i64_in (k:Int) (by omega);have x0:¬ (xs.length:Int)=0:=by omega
  have kl':(k:Int)<xs.length:=by omega
  have r1:(1:Int)<=r.length:=by omega
  rw[hxv]at k5 hlen xone xcells;have u5:∀ b,(Hi.upd idt b).live Hq.next 0=_:=fun b=>(g9 (by omega)).trans k5;have u2':∀ b,(Hi.upd idt b).live (H.next+2) 0=_:=fun b=>(g9 (by omega)).trans k2;simp only[go_sem,p2,p5,k0,k5,wm,d,hlen,hxl,ai,v3,x0];refine W.draw 9 [0,1,0,0,8,0,56,120,248] Try.mixed (by kernel_rfl) (by kernel_rfl) ?_;have lr:=ah hgr;simp only[go_sem,p4,p5,k5,kl',lt,lr,hck,r1,u5,u2',xone];have hlt:Hi.next<=((Hi.upd idt (.arr gt 39 (setAt ocs k [.own idr gr 1 (r.length - 1) 1]))).upd (H.next+2) (fG (.own idc gc 0 cs.length 1) (.own idt gt 0 xs.length 1))).next:=by rw[az,az];exact Nat.le_refl _
  refine⟨by rw[oL,List.length_map];omega,fin _ _ _ cs (xs.set k (r.drop 1)) (Nat.le_trans onext hlt) (fun id h=>by rw[ag,if_neg (by omega),ag,if_neg (by omega)];exact oi.old id h) (own _ _ (Nat.lt_of_lt_of_le (show idc<Hi.next by omega) hlt) rfl (by rw[ag,if_neg (by omega),ag,if_neg (by omega)];exact gci)) ?_ ?_⟩
  ·have hne2:idr≠idt:=fun e=>by rw[e,hgt]at hgr;cases hgr
   refine NX (lo:=Hs.next) (Hi:=Hi) (fun i h=>by omega) oL oC it1 (by rw[ag,if_neg (by omega),ag,if_pos rfl,iK (by rw[oL,List.length_map];omega)]) (Nat.lt_of_lt_of_le it2 hlt) ir1 (by rw[ag,if_neg (by omega),ag,if_neg hne2];exact hgr) (fun id g c h1 h2=>?_) hlt;rw[ag,if_neg (by omega),ag,if_neg];rintro rfl;rw[hgt]at h2;cases h2
  ·unfold eJ;rw[if_neg (by omega),if_neg (fun h=>by omega),if_pos ⟨d,by omega⟩];simp only[hk,Int.ofNat_eq_natCast,Int.toNat_natCast,bG hrr]
 ·simp only[go_sem,p2,k0,wm,d];refine W.aG 1360963314184280739369385453844537802752 (by rfl) (fun ρ Hj=>∃ (m:Nat) (xv':AVal),m+xs.length<=41/\Hi.next<=Hj.next/\(∀ id,id<Hq.next->Hj.get id=Hi.get id)/\Hj.get Hq.next=some (fG (.own idc gc 0 cs.length 1) xv')/\dS Hs.next Hj 39 3 xv' ((xs++List.replicate m (List.replicate cs.length 0)).map ints)) (fun _ Hj=>match Hj.get Hq.next with|some (.arr _ _ [_,.own _ _ _ l _])=>41 - l|_=>42) ?_ ?_
  ·simp only[go_sem];exact⟨0,xv,by omega,hb5,by simpa using hD⟩
  rintro ρ Hj ⟨m,xv',hm,hnj,holdj,hbj,hDj⟩;refine ab _ _ _ (by rfl) ?_;have j2:=ah ((holdj _ (by omega)).trans ((hold _ (by omega)).trans c2));have j5:=ah hbj;obtain⟨yone,ycells⟩:=pF hDj;have hlenj:mK (some (TypeDesc.slice 39)) Hj xv'=some (.lit (.int .i64 ((xs.length+m:Nat):Int))):=by
   obtain⟨ocs,oG,oL,_,_⟩:=hDj;have:=yL oG (d:=some (.slice 39)) rfl;rw[oL,List.length_map,List.length_append,List.length_replicate]at this;exact this
  by_cases g1:((xs.length+m:Nat):Int)<41;rotate_left
  ·simp only[go_sem,p4,p5,j2,j5,hlenj,g1,yone];obtain rfl:m=41 - xs.length:=(by omega);refine fin _ _ _ cs (xs++List.replicate (41 - xs.length) (List.replicate cs.length 0)) (by rw[az];omega) (fun id h=>by rw[ag,if_neg (by omega),holdj id (by omega)];exact oi.old id h) (own _ _ (by rw[az];omega) rfl (by rw[ag,if_neg (by omega)];exact(holdj _ ic2).trans gci)) (rI (kg hDj (by omega)).rH fun i hi=>by omega) ?_;unfold eJ;rw[d,if_neg (by decide),if_neg (fun h=>absurd h.1 (by decide)),if_neg (fun h=>absurd h.1 (by decide)),if_pos rfl]
  have zr:List.replicate cs.length (AVal.lit (.int .i64 0))=ints (List.replicate cs.length 0):=by simp [ints,aa]
  have zO:aD Hj.next (ext Hj [.arr 0 3 (ints (List.replicate cs.length 0))]) 3 (.own Hj.next 0 0 cs.length 1) (ints (List.replicate cs.length 0)):=by
   have:=aD.new (H:=Hj) (e:=3) (cs:=ints (List.replicate cs.length 0));rw[aM,List.length_replicate]at this;exact this
  have zn:(ext Hj [.arr 0 3 (ints (List.replicate cs.length 0))]).next=Hj.next+1:=rfl;obtain⟨xv2,H5,hA2,hD5,hn5,hp⟩:=dS.app (P:=Try.prog) (n:=Hj.next+1+1) (t:=40) Try.underlying40 Try.l8 Try.ma Try.l9 (by decide) (by rw[List.length_map,List.length_append,List.length_replicate];omega) hDj (.ext _ _) (by omega) zO (by rw[zn]);rw[zn]at hA2 hn5 hp;have k5':H5.live Hq.next 0=_:=ah ((hp _ (by omega) (by omega)).trans ((cb _ _ _ (by omega)).trans hbj));obtain⟨xone2,xcells2⟩:=pF hD5;have kcj:=ah ((holdj _ ic2).trans gci);simp only[go_sem,p5,j5,hlenj,g1];refine W.draw 7 [0,1,0,4,12,28,60] Try.mixed (by kernel_rfl) (by kernel_rfl) ?_;simp only[go_sem,p5,j5,kcj,zr,hA2,k5',xone2,xcells2];refine⟨⟨by omega,by omega⟩,⟨fun _ h=>by omega,fun _ h=>by omega⟩,⟨fun _ h=>by omega,fun _ h=>by omega⟩,by rw[az];omega,⟨m+1,xv2,by omega,by rw[az];omega,fun id h=>by rw[ag,if_neg (by omega),hp id (by omega) (by omega),cb _ _ _ (by omega)];exact holdj id h,by rw[ag,if_pos rfl],?_⟩,?_⟩
  ·rw[show List.replicate (m+1) (List.replicate cs.length (0:Int))=List.replicate m (List.replicate cs.length 0)++[List.replicate cs.length 0] from List.replicate_succ',<- List.append_assoc,List.map_append];exact kg hD5 (by omega)
  ·rw[ag,if_pos rfl,hbj];have e2:∃ i2 g2,xv2=.own i2 g2 0 (xs.length+m+1) 1:=by
    obtain⟨ocs,oG,oL,_,_⟩:=hD5;rw[List.length_append,List.length_map,List.length_append,List.length_replicate,List.length_singleton]at oL;rcases oG with ⟨_,e⟩|⟨i2,g2,_,_,h,_⟩
    ·rw[e]at oL;simp at oL
    ·rw[oL]at h;exact⟨i2,g2,h⟩
   obtain⟨i2,g2,rfl⟩:=e2;have e1:xv'=.lit (.slice none 0 0)\/∃ i1 g1,xv'=.own i1 g1 0 (xs.length+m) 1:=by
    obtain⟨ocs,oG,oL,_,_⟩:=hDj;rw[List.length_map,List.length_append,List.length_replicate]at oL;rcases oG with ⟨h,_⟩|⟨i1,g1,_,_,h,_⟩
    ·exact .inl h
    ·rw[oL]at h;exact .inr ⟨i1,g1,h⟩
   rcases e1 with rfl|⟨i1,g1',rfl⟩
   ·show 41 - (xs.length+m+1)<42;omega
   ·show 41 - (xs.length+m+1)<41 - (xs.length+m);omega
 ·simp only[go_sem,p2,p5,k0,wm,d];refine⟨by decide,by decide,by decide,by decide,by decide,by decide,?_⟩;have u5:∀ L,(ext Hi L).live Hq.next 0=_:=fun L=>(dB (by omega)).trans k5;have u2:∀ L b,((ext Hi L).upd Hq.next b).live (H.next+2) 0=_:=fun L b=>(g9 (by omega)).trans ((dB (by omega)).trans k2);simp only[go_sem,p4,p5,u5,u2];refine fin _ _ _ [4,4,4,4,4,4] [] (by rw[az,az,bJ];omega) (fun id h=>by rw[ag,if_neg (by omega),ag,if_neg (by omega),cb _ _ _ (by omega)];exact oi.old id h) (aD.gJ (lo:=H.next) (l:=[4,4,4,4,4,4]) (.inr ⟨Hi.next,0,by omega,by rw[az,az,bJ];simp,rfl,by rw[ag,if_neg (by omega),ag,if_neg (by omega)];exact cA⟩) fun i h=>h) .nil ?_;unfold eJ;rw[d,if_neg (by decide),if_neg (fun h=>absurd h.1 (by decide)),if_neg (fun h=>absurd h.1 (by decide)),if_neg (by decide),if_pos rfl]
 ·simp only[go_sem,p2,p4,p5,k0,k5,wm,d,xone,u2];refine nilC ?_;unfold eJ;rw[d,if_neg (by decide),if_neg (fun h=>absurd h.1 (by decide)),if_neg (fun h=>absurd h.1 (by decide)),if_neg (by decide),if_neg (by decide)]
end Go.Proofs
namespace Go.Hx
variable {P:Program}
structure OwnM (lo:Nat)(H:AHeap)(e1 e0:TypeId)(v:AVal)(ids:List Nat)(rows:List (List AVal)):Prop where
 len:ids.length=rows.length
 nd:ids.Nodup
 rng:∀ i∈ids,lo<=i/\i<H.next
 top:aD lo H e1 v (List.zipWith (fun i n=>AVal.own i 0 0 n 1) ids (rows.map List.length))
 row:∀ (k id:Nat) (r:List AVal),ids[k]?=some id->rows[k]?=some r->H.get id=some (.arr 0 e0 r)
theorem OwnM.nil {lo:Nat}{H:AHeap}{e1 e0:TypeId}:OwnM lo H e1 e0 (.lit (.slice none 0 0)) [] [] :=
 ⟨rfl,.nil,fun i h=>(by cases h),.nil,fun k id r h=>(by simp at h)⟩
theorem OwnM.keep {lo:Nat}{H H':AHeap}{e1 e0:TypeId}{v:AVal}{ids:List Nat}{rows:List (List AVal)}(h:OwnM lo H e1 e0 v ids rows)(hn:H.next<=H'.next)(hk:∀ id,lo<=id->id<H.next->H'.get id=H.get id):OwnM lo H' e1 e0 v ids rows :=
 ⟨h.len,h.nd,fun i hi=>⟨(h.rng i hi).1,by have:=(h.rng i hi).2;omega⟩,h.top.keep (Nat.le_refl _) hn fun id _ h1 h2 _ _=>hk id h1 h2,fun k id r h1 h2=>by
  have:=h.rng id (List.mem_of_getElem? h1);rw[hk id this.1 this.2];exact h.row k id r h1 h2⟩
theorem OwnM.app {lo n:Nat}{H:AHeap}{e1 e0:TypeId}{v:AVal}{ids:List Nat}{rows:List (List AVal)}{r:List AVal}{t:TypeId}{z:List AVal}(ht:P.underlying t=some (.slice e1))(hz:P.cellsOf e1=1)(hzero:bR P e1=some z)(hby:P.bytesOf e1=24)(hne:e1≠e0)
  (hb:rows.length<2 ^ 40) (h:OwnM lo H e1 e0 v ids rows) (hlo:lo<=H.next) (hn:n=H.next+2):
  ∃ v' H',bC P (ext (ext H [.arr 0 e0 r]) [.arr 0 e1 [.own H.next 0 0 r.length 1]]) n t t v (.own (H.next+1) 0 0 1 1)=some (v',H')/\OwnM lo H' e1 e0 v' (ids++[H.next]) (rows++[r])/\H.next<=H'.next/\(∀ k,k<H.next->k<lo->H'.get k=H.get k):=by
 obtain⟨Hb,hHb⟩:∃ Hb,Hb=ext H [.arr 0 e0 r]:=⟨_,rfl⟩
 have nb:Hb.next=H.next+1:=by rw[hHb];rfl
 have ob:Over H Hb:=by rw[hHb];exact .ext _ _
 have gb:Hb.get H.next=some (.arr 0 e0 r):=by rw[hHb];exact cA
 have htop:=h.top.over ob;obtain⟨v',H',hA,hO,hL,hp⟩:=jv (P:=P) (H:=Hb) (t:=t) (x:=.own H.next 0 0 r.length 1) (n:=n) ht hz hzero rfl (by rw[hby];simp [h.len];omega) htop (by omega) (by omega);rw[nb,hHb]at hA;have old:∀ id g,lo<=id->id<Hb.next->Hb.get id=some (.arr g e0 r)->H'.get id=Hb.get id:=fun id g h1 h2 h3=>hp id h2 fun g' m he=>by
  rcases htop with ⟨hv,_⟩|⟨i,g2,_,_,hv,h4⟩
  ·rw[hv]at he;cases he
  ·rw[hv]at he;obtain rfl:i=id:=(AVal.own.inj he).1;rw[h4]at h3;cases h3;exact hne rfl
 have oldr:∀ id g q,lo<=id->id<Hb.next->Hb.get id=some (.arr g e0 q)->H'.get id=Hb.get id:=fun id g q h1 h2 h3=>hp id h2 fun g' m he=>by
  rcases htop with ⟨hv,_⟩|⟨i,g2,_,_,hv,h4⟩
  ·rw[hv]at he;cases he
  ·rw[hv]at he;obtain rfl:i=id:=(AVal.own.inj he).1;rw[h4]at h3;cases h3;exact hne rfl
 refine⟨v',H',hA,⟨by simp [h.len],List.nodup_append.2 ⟨h.nd,by simp,fun a ha b hb=>by
  obtain rfl:=List.mem_singleton.1 hb;have:=(h.rng a ha).2;omega⟩,fun i hi=>?_,?_,fun k id q h1 h2=>?_⟩,by omega,fun k hk hkl=>?_⟩
 ·rcases List.mem_append.1 hi with h1|h1
  ·have:=h.rng i h1;omega
  ·obtain rfl:=List.mem_singleton.1 h1;omega
 ·rw[List.map_append,List.zipWith_append (by rw[List.length_map];exact h.len)];exact hO
 ·have hk:=List.getElem?_eq_some_iff.1 h1;obtain⟨hk,_⟩:=hk;rw[List.length_append,List.length_singleton]at hk;rcases Nat.lt_or_ge k ids.length with hlt|hge
  ·rw[List.getElem?_append_left hlt]at h1;rw[List.getElem?_append_left (by rw[<- h.len];exact hlt)]at h2;have hr:=h.rng id (List.mem_of_getElem? h1);have hg:=h.row k id q h1 h2;rw[oldr id 0 q hr.1 (by omega) ((ob.old id hr.2).trans hg),ob.old id hr.2];exact hg
  ·obtain rfl:k=ids.length:=(by omega);rw[List.getElem?_append_right (Nat.le_refl _),Nat.sub_self]at h1;rw[h.len,List.getElem?_append_right (Nat.le_refl _),Nat.sub_self]at h2;cases h1;cases h2;rw[oldr H.next 0 r hlo (by omega) gb];exact gb
 ·rw[hp k (by omega) fun g m he=>?_,ob.old k hk];rcases htop with ⟨hv,_⟩|⟨i,g2,a1,_,hv,h4⟩
  ·rw[hv]at he;cases he
  ·rw[hv]at he;have:=(AVal.own.inj he).1;omega
theorem OwnM.Ea {lo:Nat}{H:AHeap}{e1 e0:TypeId}{v:AVal}{ids:List Nat}{rows:List (List AVal)}(h:OwnM lo H e1 e0 v ids rows)(h0:rows≠[]):∃ id g,lo<=id/\id<H.next/\v=.own id g 0 rows.length 1/\H.get id=some (.arr g e1 (List.zipWith (fun i n=>AVal.own i 0 0 n 1) ids (rows.map List.length)))/\(e1≠e0->id ∉ ids):=by
 have hzl:(List.zipWith (fun i n=>AVal.own i 0 0 n 1) ids (rows.map List.length)).length=rows.length:=by simp [h.len]
 rcases h.top with ⟨hv,h4⟩|⟨i,g,a,b,hv,h4⟩
 ·rw[h4]at hzl;exact absurd (List.eq_nil_of_length_eq_zero hzl.symm) h0
 ·refine⟨i,g,a,b,by rw[hv,hzl],h4,fun hne hm=>?_⟩;obtain⟨k,hk⟩:=List.mem_iff_getElem?.1 hm;have hkl:k<rows.length:=by rw[<- h.len];exact(List.getElem?_eq_some_iff.1 hk).1
  have:=h.row k i _ hk (List.getElem?_eq_getElem hkl);rw[h4]at this;exact hne (Blk.arr.inj (Option.some.inj this)).2.1
theorem OwnM.store {lo:Nat}{H:AHeap}{e1 e0:TypeId}{v:AVal}{ids:List Nat}{rows:List (List AVal)}(h:OwnM lo H e1 e0 v ids rows)(hne:e1≠e0){k id:Nat}{r r':List AVal}(hk:ids[k]?=some id)(hr:rows[k]?=some r)(hl:r'.length=r.length):OwnM lo (H.upd id (.arr 0 e0 r')) e1 e0 v ids (rows.set k r'):=by
 have hid:=h.rng id (List.mem_of_getElem? hk);have h0:rows≠[]:=fun e=>by rw[e]at hr;simp at hr
 refine⟨by rw[List.length_set];exact h.len,h.nd,fun i hi=>by rw[az];exact h.rng i hi,?_,fun j id' q h1 h2=>?_⟩
 ·have e:(rows.set k r').map List.length=rows.map List.length:=by
   rw[List.map_set,hl];apply List.ext_getElem?;intro i;rw[List.getElem?_set];split
   ·rename_i hi;subst hi;have hkl:=(List.getElem?_eq_some_iff.1 hr).1;rw[if_pos (by rw[List.length_map];exact hkl),List.getElem?_map,hr];rfl
   ·rfl
  rw[e];obtain⟨i,g,a,b,_,h4,h5⟩:=h.Ea h0;refine h.top.keep (Nat.le_refl _) (by rw[az];exact Nat.le_refl _) fun i2 g2 _ _ h3 _=>?_;rw[ag,if_neg];rintro rfl;rw[h.row k i2 r hk hr]at h3;cases h3;exact hne rfl
 ·rw[ag];by_cases hj:j=k
  ·subst hj;rw[hk]at h1;cases h1;rw[List.getElem?_set_self (List.getElem?_eq_some_iff.1 hr).1]at h2;cases h2;rw[if_pos rfl]
  ·rw[List.getElem?_set_ne (fun e=>hj e.symm)]at h2;rw[if_neg,h.row j id' q h1 h2];rintro rfl;exact hj ((List.getElem?_inj (List.getElem?_eq_some_iff.1 h1).1 h.nd).1 (by rw[h1,hk]))
theorem OwnM.fz {S:Nat->Prop}{lo nx:Nat}{H:AHeap}{e1 e0:TypeId}{v:AVal}{ids:List Nat}{rows:List (List AVal)}(h:OwnM lo H e1 e0 v ids rows)(hS:∀ i,lo<=i->S i)(hr:∀ r∈rows,∀ c∈r,Fz S H nx c c):
  Fz S H nx v (.vec rows.length (rows.map fun r=>.vec r.length r)):=by
 have hz:(List.zipWith (fun i n=>AVal.own i 0 0 n 1) ids (rows.map List.length)).length=rows.length:=by simp [h.len]
 have:=h.top.fz (S:=S) (nx:=nx) (cs':=rows.map fun r=>.vec r.length r) hS (by simp [h.len]) fun i hi hi'=>by
  simp only[List.getElem_map,List.getElem_zipWith];have hil:i<rows.length:=by omega
  have hii:i<ids.length:=by rw[h.len];exact hil
  refine .frz (hS _ (h.rng _ (List.getElem_mem hii)).1) (h.row i _ _ (List.getElem?_eq_getElem hii) (List.getElem?_eq_getElem hil)) (by simp) fun j hj h2 h'=>?_;have e0:(0:Nat)+j=j:=Nat.zero_add j;have h3:=hr rows[i] (List.getElem_mem hil) _ (List.getElem_mem h');simpa only[e0] using h3
 rw[List.length_map]at this;exact this
end Go.Hx
namespace Go.Hx
variable {P:Program} {G:Nat->Option (List AVal)}
def AHeap.gR (H:AHeap)(n ob:Nat)(b:Blk):AHeap:=⟨fun id=>if id=ob then some b else if n<=id then none else H.get id,H.next⟩
theorem Cn {H:AHeap}{n ob:Nat}{b:Blk}:(H.gR n ob b).get ob=some b:=by simp [AHeap.gR]
theorem Co {H:AHeap}{n ob id:Nat}{b:Blk}(h:id<n)(h2:id≠ob):(H.gR n ob b).get id=H.get id:=by simp [AHeap.gR,Nat.not_le.2 h,h2]
theorem Nm {H:AHeap}(hc:Clo H){n ob g:Nat}{e:TypeId}{cells cells':List AVal}(hob:H.get ob=some (.arr g e cells))(hl:cells'.length=cells.length)
  (hcell:∀ i (h:i<cells.length) (h':i<cells'.length),Fz (fun id=>n<=id/\id≠ob) H H.next cells[i] cells'[i]):FzH (fun id=>n<=id/\id≠ob) H (H.gR n ob (.arr g e cells')) where
 gone id hs:=by simp [AHeap.gR,hs.1,hs.2]
 kept id b hs hb:=by
  have hbb:=hc.below id b hb;refine⟨hc.lt id b hb,?_⟩;by_cases h:id=ob
  ·subst h;rw[hob]at hb;cases hb;exact⟨.arr g e cells',Cn,rfl,rfl,hl,hcell⟩
  ·have hn:¬ n<=id:=fun hn=>hs ⟨hn,h⟩;refine⟨b,by simp [AHeap.gR,h,hn,hb],?_⟩;cases b with
   | rsv=>trivial
   | mp=>rfl
   | arr g e cells=>exact⟨rfl,rfl,rfl,fun i h _=>.dead (hbb i h)⟩
   | loop st pend n env ps asg body=>exact⟨rfl,rfl,rfl,rfl,rfl,rfl,rfl,fun t ht=>.dead (hbb t ht)⟩
 none id hs hb:=by
  by_cases h:id=ob
  ·subst h;rw[hob]at hb;cases hb
  ·have hn:¬ n<=id:=fun hn=>hs ⟨hn,h⟩;simp [AHeap.gR,h,hn,hb]
theorem dG.gR (hG:fP G){s:St}{n ob g:Nat}{e:TypeId}{cells cells':List AVal}(hob:s.H.get ob=some (.arr g e cells))(hl:cells'.length=cells.length)
  (hcell:(∀ c∈cells,Below s.H.next c)->∀ i (h:i<cells.length) (h':i<cells'.length),Fz (fun id=>n<=id/\id≠ob) s.H s.H.next cells[i] cells'[i]):dG P G s ⟨s.ρ,s.H.gR n ob (.arr g e cells')⟩:=by
 intro n' wb Γ a w hs;exact dG.freeze (s:=s) (s':=⟨s.ρ,s.H.gR n ob (.arr g e cells')⟩) hG (Nm hs.heap.clo hob hl (hcell fun c hc=>by
  obtain⟨i,hi,rfl⟩:=List.mem_iff_getElem.1 hc;exact hs.heap.clo.below ob _ hob i hi)) (fun t=>.dead (hs.env t).qz) n' wb Γ a w hs
theorem Nn {H:AHeap}{t e:TypeId}{n:Nat}{src:List AVal}{z:List AVal}(ht:P.underlying t=some (.slice e))(hz:P.cellsOf e=1)(hzero:bR P e=some z)(h0:0<src.length)
  (hb:src.length*P.bytesOf e<=2 ^ 46/\src.length<=2 ^ 46) (hn:n=H.next):bC P H n t t (.lit (.slice none 0 0)) (.vec src.length src)=some (.own n 0 0 src.length 1,ext H [.arr 0 e src]):=by
 have hsrc:cD H 1 (.vec src.length src)=some (src.length,src):=by
  unfold cD;simp
 unfold bC;rw[ht];simp only[hzero,hz,Option.bind_some];rw[hsrc];simp only[Option.bind_some];rw[if_neg (by omega),if_pos hb,qG hn];rfl
theorem OwnM.Cp {lo n:Nat}{H:AHeap}{e1 e0:TypeId}{v:AVal}{ids:List Nat}{rows:List (List AVal)}{r:List AVal}{t:TypeId}{z:List AVal}(h:OwnM lo H e1 e0 v ids rows)(ht:P.underlying t=some (.slice e1))(hz:P.cellsOf e1=1)(hzero:bR P e1=some z)(hby:P.bytesOf e1=24)(hne:e1≠e0)
  (hb:rows.length<2 ^ 40) (hlo:lo<=H.next) (hn:n=H.next+2):
  ∃ v' H',bC P (ext (ext H [.arr 0 e0 r]) [.arr 0 e1 [.own H.next 0 0 r.length 1]]) n t t v (.own (H.next+1) 0 0 1 1)=some (v',H')/\OwnM lo H' e1 e0 v' (ids++[H.next]) (rows++[r])/\H.next<=H'.next/\(∀ k,k<H.next->(∀ g n,v≠.own k g 0 n 1)->H'.get k=H.get k):=by
 obtain⟨v',H',hA,hO,hn',_⟩:=h.app (P:=P) (r:=r) ht hz hzero hby hne hb hlo hn;have nb:(ext H [.arr 0 e0 r]).next=H.next+1:=rfl;obtain⟨v2,H2,hA2,_,_,hp⟩:=jv (P:=P) (H:=ext H [.arr 0 e0 r]) (t:=t) (x:=.own H.next 0 0 r.length 1) (n:=n) ht hz hzero rfl (by rw[hby];simp [h.len];omega) (h.top.over (.ext _ _)) (by rw[nb];omega) (by rw[nb];omega);rw[nb]at hA2;have e:(v2,H2)=(v',H'):=Option.some.inj (hA2.symm.trans hA);cases e;exact⟨_,_,hA,hO,hn',fun k hk hne=>(hp k (by rw[nb];omega) hne).trans (cb _ _ _ hk)⟩
theorem OwnM.ne {lo:Nat}{H:AHeap}{e1 e0:TypeId}{v:AVal}{ids:List Nat}{rows:List (List AVal)}(h:OwnM lo H e1 e0 v ids rows){k g':Nat}{e:TypeId}{c:List AVal}(hk:H.get k=some (.arr g' e c))(he:e≠e1):∀ g n,v≠.own k g 0 n 1:=fun g n hv=>by
 rcases h.top with ⟨h1,_⟩|⟨i,g2,_,_,h1,h2⟩
 ·rw[h1]at hv;cases hv
 ·rw[h1]at hv;obtain rfl:=(AVal.own.inj hv).1;rw[hk]at h2;cases h2;exact he rfl
theorem W.ux {n:Nat}{rd:Option Nat}{Q:AX->St->Prop}{s:St}{x y:Code}(Φ:St->Prop)(h:W P G n rd x (fun ax s'=>ax=.normal/\Φ s') s)(h2:∀ s',Φ s'->W P G n rd y Q s'):W P G n rd (.seq x y) Q s :=
 W.seq (h.mono fun ax s' ⟨e,hp⟩=>by subst e;exact h2 s' hp)
theorem dG.same {s:St}:dG P G s s:=by
 intro n wb Γ a w hs;exact⟨Γ,hs,.refl _ _ _,fun _ _ h _=>h⟩
end Go.Hx
namespace Go.Proofs
open Go.Hx
structure NodO (lo:Nat)(H:AHeap)(pv rv:AVal)(ids:List Nat)(x:NodeP):Prop where
 par:aD lo H 3 pv (ints x.parents)
 rows:OwnM lo H 39 3 rv ids (x.rows.map ints)
 dj:∀ id g n,pv=.own id g 0 n 1->id ∉ ids
 nil:x.rows=[]->rv=.lit (.slice none 0 0)
theorem NodO.keep {lo:Nat}{H H':AHeap}{pv rv:AVal}{ids:List Nat}{x:NodeP}(h:NodO lo H pv rv ids x)(hn:H.next<=H'.next)(hk:∀ id,lo<=id->id<H.next->H'.get id=H.get id):NodO lo H' pv rv ids x :=
 ⟨h.par.keep (Nat.le_refl _) hn fun id _ h1 h2 _ _=>hk id h1 h2,h.rows.keep hn hk,h.dj,h.nil⟩
theorem NodO.over {lo:Nat}{H H':AHeap}{pv rv:AVal}{ids:List Nat}{x:NodeP}(h:NodO lo H pv rv ids x)(o:Over H H'):NodO lo H' pv rv ids x:=h.keep o.next fun id _ h2=>o.old id h2
theorem NodO.keepE {lo:Nat}{H H':AHeap}{pv rv:AVal}{ids:List Nat}{x:NodeP}(h:NodO lo H pv rv ids x)(hn:H.next<=H'.next)(hk:∀ id g e c,lo<=id->id<H.next->H.get id=some (.arr g e c)->e≠69->H'.get id=H.get id):NodO lo H' pv rv ids x :=
 ⟨h.par.keep (Nat.le_refl _) hn fun id g h1 h2 h3 _=>hk id g _ _ h1 h2 h3 (by decide),⟨h.rows.len,h.rows.nd,fun i hi=>⟨(h.rows.rng i hi).1,by have:=(h.rows.rng i hi).2;omega⟩,h.rows.top.keep (Nat.le_refl _) hn fun id g h1 h2 h3 _=>hk id g _ _ h1 h2 h3 (by decide),fun k id r h1 h2=>by
  have h3:=h.rows.rng id (List.mem_of_getElem? h1);have h4:=h.rows.row k id r h1 h2;rw[hk id _ _ _ h3.1 h3.2 h4 (by decide)];exact h4⟩,h.dj,h.nil⟩
theorem uy {lo:Nat}{H:AHeap}{e1 e0:TypeId}{v:AVal}{ids:List Nat}{rows:List (List AVal)}(h:OwnM lo H e1 e0 v ids rows):v.one=true/\v.cells=[v]:=⟨h.top.one,h.top.cells⟩
theorem Cq {S:Nat->Prop}{lo nx:Nat}{H:AHeap}{e:TypeId}{v:AVal}{cs cs':List AVal}(h:aD lo H e v cs)(hS:∀ i g,lo<=i->i<H.next->H.get i=some (.arr g e cs)->S i)(hl:cs'.length=cs.length)
  (hc:∀ i (h:i<cs.length) (h':i<cs'.length),Fz S H nx cs[i] cs'[i]):Fz S H nx v (.vec cs'.length cs'):=by
 rcases h with ⟨rfl,rfl⟩|⟨id,g,h1,h2,rfl,h4⟩
 ·obtain rfl:=List.eq_nil_of_length_eq_zero hl;exact .nil
 ·rw[hl];refine .frz (hS id g h1 h2 h4) h4 (by omega) fun j hj h2 h'=>?_;simp only[Nat.zero_add]at h2 ⊢;exact hc j h2 h'
def rm (S:Nat->Prop)(lo:Nat)(H:AHeap):Prop:=∀ i g e c,lo<=i->i<H.next->H.get i=some (.arr g e c)->e≠69->S i
theorem NodO.rp {S:Nat->Prop}{lo nx:Nat}{H:AHeap}{pv rv:AVal}{ids:List Nat}{x:NodeP}(h:NodO lo H pv rv ids x)(hS:rm S lo H):Fz S H nx pv (ae x.parents):=by
 have:=Cq (S:=S) (nx:=nx) (cs':=ints x.parents) h.par (fun i g h1 h2 h3=>hS i g _ _ h1 h2 h3 (by decide)) rfl fun i hi _=>by simp only[ints,List.getElem_map];exact .lit _
 rw[aM]at this;exact this
theorem NodO.No {S:Nat->Prop}{lo nx:Nat}{H:AHeap}{pv rv:AVal}{ids:List Nat}{x:NodeP}(h:NodO lo H pv rv ids x)(hS:rm S lo H):Fz S H nx rv (aA x.rows):=by
 have hl:=h.rows.len;rw[List.length_map]at hl;have:=Cq (S:=S) (nx:=nx) (cs':=x.rows.map ae) h.rows.top (fun i g h1 h2 h3=>hS i g _ _ h1 h2 h3 (by decide)) (by simp [hl]) fun i hi hi'=>by
  have hil:i<x.rows.length:=by simpa using hi'
  have hii:i<ids.length:=by omega
  simp only[List.getElem_map,List.getElem_zipWith,aM];have hid:=h.rows.rng _ (List.getElem_mem hii);have hrow:=h.rows.row i _ _ (List.getElem?_eq_getElem hii) (show (x.rows.map ints)[i]?=some (ints x.rows[i]) by rw[List.getElem?_map,List.getElem?_eq_getElem hil];rfl);refine .frz (hS _ _ _ _ hid.1 hid.2 hrow (by decide)) hrow (by simp [aM]) fun j hj h2 h'=>?_;simp only[ints,List.getElem_map];have e0:0+j=j:=Nat.zero_add j;simp only[e0];exact .lit _
 rw[List.length_map]at this;exact this
theorem NodO.nf {S:Nat->Prop}{lo nx:Nat}{H:AHeap}{pv rv:AVal}{ids:List Nat}{x:NodeP}(h:NodO lo H pv rv ids x)(hS:rm S lo H):Fz S H nx rv (bt x):=by
 unfold bt;split
 ·rename_i e;rw[h.nil e];exact .lit _
 ·exact h.No hS
theorem NodO.low {lo lo':Nat}{H:AHeap}{pv rv:AVal}{ids:List Nat}{x:NodeP}(h:NodO lo H pv rv ids x)(hl:lo'<=lo):NodO lo' H pv rv ids x :=
 ⟨h.par.keep hl (Nat.le_refl _) fun _ _ _ _ _ _=>rfl,⟨h.rows.len,h.rows.nd,fun i hi=>⟨by have:=(h.rows.rng i hi).1;omega,(h.rows.rng i hi).2⟩,h.rows.top.keep hl (Nat.le_refl _) fun _ _ _ _ _ _=>rfl,h.rows.row⟩,h.dj,h.nil⟩
end Go.Proofs
namespace Go.Hx
theorem OwnM.elem {lo:Nat}{H:AHeap}{e1 e0:TypeId}{v:AVal}{ids:List Nat}{rows:List (List AVal)}(h:OwnM lo H e1 e0 v ids rows){i:Nat}(hi:i∈ids):∃ r,H.get i=some (.arr 0 e0 r):=by
 obtain⟨k,hk⟩:=List.mem_iff_getElem?.1 hi;have hl:=(List.getElem?_eq_some_iff.1 hk).1;rw[h.len]at hl;exact⟨_,h.row k i _ hk (List.getElem?_eq_getElem hl)⟩
theorem OwnM.yl {lo:Nat}{H H':AHeap}{e1 e0:TypeId}{v:AVal}{ids:List Nat}{rows:List (List AVal)}(h:OwnM lo H e1 e0 v ids rows)(hn:H.next<=H'.next)
  (hk:∀ i g e c,lo<=i->i<H.next->H.get i=some (.arr g e c)->(e=e1\/i∈ids)->H'.get i=H.get i):OwnM lo H' e1 e0 v ids rows :=
 ⟨h.len,h.nd,fun i hi=>⟨(h.rng i hi).1,by have:=(h.rng i hi).2;omega⟩,h.top.keep (Nat.le_refl _) hn fun i g h1 h2 h3 _=>hk i g _ _ h1 h2 h3 (.inl rfl),fun k i r h1 h2=>by
  have h3:=h.rng i (List.mem_of_getElem? h1);have h4:=h.row k i r h1 h2;rw[hk i _ _ _ h3.1 h3.2 h4 (.inr (List.mem_of_getElem? h1))];exact h4⟩
end Go.Hx
namespace Go.Proofs
open Go.Hx
structure SmallN (m:Nat)(ns:List NodeP):Prop where
 len:ns.length<=m
 node:∀ x∈ns,x.parents.length<=m/\x.rows.length<=m/\∀ r∈x.rows,r≠[]/\r.length<=m
theorem SmallN.mono {m m':Nat}{ns:List NodeP}(h:SmallN m ns)(hm:m<=m'):SmallN m' ns :=
 ⟨Nat.le_trans h.len hm,fun x hx=>by
  obtain⟨a,b,c⟩:=h.node x hx;exact⟨by omega,by omega,fun r hr=>⟨(c r hr).1,by have:=(c r hr).2;omega⟩⟩⟩
theorem SmallN.set {m:Nat}{ns:List NodeP}{A:Nat}{y:NodeP}(h:SmallN m ns)(hy:y.parents.length<=m/\y.rows.length<=m/\∀ r∈y.rows,r≠[]/\r.length<=m):SmallN m (ns.set A y) :=
 ⟨by rw[List.length_set];exact h.len,fun x hx=>by
  rcases List.mem_or_eq_of_mem_set hx with h1|rfl
  ·exact h.node x h1
  ·exact hy⟩
def bq (ns:List NodeP)(A:Nat)(c pv rv:AVal):List AVal:=(((gv ns).set (A*3) c).set (A*3+1) pv).set (A*3+2) rv
theorem iZ (ns:List NodeP)(A:Nat)(c pv rv:AVal):(bq ns A c pv rv).length=ns.length*3:=by unfold bq;simp [nA]
theorem ym {ns:List NodeP}{A:Nat}(h:A<ns.length)(c pv rv:AVal):(bq ns A c pv rv)[A*3]?=some c:=by
 unfold bq;rw[List.getElem?_set_ne (by omega),List.getElem?_set_ne (by omega),List.getElem?_set_self (by rw[nA];omega)]
theorem Cs {ns:List NodeP}{A:Nat}(h:A<ns.length)(c pv rv:AVal):(bq ns A c pv rv)[A*3+1]?=some pv:=by
 unfold bq;rw[List.getElem?_set_ne (by omega),List.getElem?_set_self (by rw[List.length_set,nA];omega)]
theorem Ct {ns:List NodeP}{A:Nat}(h:A<ns.length)(c pv rv:AVal):(bq ns A c pv rv)[A*3+2]?=some rv:=by
 unfold bq;rw[List.getElem?_set_self (by rw[List.length_set,List.length_set,nA];omega)]
theorem yp {ns:List NodeP}{A i:Nat}(h0:i≠A*3)(h1:i≠A*3+1)(h2:i≠A*3+2)(c pv rv:AVal):(bq ns A c pv rv)[i]?=(gv ns)[i]?:=by
 unfold bq;rw[List.getElem?_set_ne (by omega),List.getElem?_set_ne (by omega),List.getElem?_set_ne (by omega)]
theorem Nt {ns:List NodeP}{A:Nat}(c c' pv rv:AVal):(bq ns A c pv rv).set (A*3) c'=bq ns A c' pv rv:=by
 unfold bq;rw[List.set_comm _ _ (by omega),List.set_comm (i:=A*3+1) _ _ (by omega),List.set_set]
theorem Cu {ns:List NodeP}{A:Nat}(c pv pv' rv:AVal):(bq ns A c pv rv).set (A*3+1) pv'=bq ns A c pv' rv:=by
 unfold bq;rw[List.set_comm _ _ (by omega),List.set_set]
theorem Cv {ns:List NodeP}{A:Nat}(c pv rv rv':AVal):(bq ns A c pv rv).set (A*3+2) rv'=bq ns A c pv rv':=by
 unfold bq;rw[List.set_set]
theorem Nu {ns:List NodeP}{A:Nat}(h:A<ns.length)(c pv rv:AVal):¬ bq ns A c pv rv=[]:=fun e=>by
 have:=ym h c pv rv;rw[e]at this;simp at this
theorem Nv {ns:List NodeP}{A:Nat}{x:NodeP}(h:ns[A]?=some x)(pv rv:AVal):((gv ns).set (A*3+1) pv).set (A*3+2) rv=bq ns A (aa x.card) pv rv:=by
 unfold bq;rw[mr (Dj h)]
theorem uA {e:Nat->Prop}{ns:List NodeP}{A:Nat}{x':NodeP}{rv:AVal}(hA:A<ns.length)(hr:rv=aA x'.rows\/rv=bt x')(he:e A->rv=bt x'):NodesQ e (ns.set A x') (bq ns A (aa x'.card) (ae x'.parents) rv):=by
 refine⟨by rw[iZ,List.length_set],fun v x hx=>?_⟩;by_cases h:v=A
 ·subst h;rw[List.getElem?_set_self hA]at hx;cases hx;exact⟨rv,ym hA _ _ _,Cs hA _ _ _,Ct hA _ _ _,hr,he⟩
 ·rw[List.getElem?_set_ne (by omega)]at hx;refine⟨bt x,?_,?_,?_,.inr rfl,fun _=>rfl⟩
  ·rw[yp (by omega) (by omega) (by omega)];exact Dj hx
  ·rw[yp (by omega) (by omega) (by omega)];exact PZ hx
  ·rw[yp (by omega) (by omega) (by omega)];exact P0 hx
theorem Cw {S:Nat->Prop}{lo nx z n:Nat}{H:AHeap}{e:TypeId}{v:AVal}{cs cs':List AVal}(h:dy lo H e z v n cs)(hS:∀ i,lo<=i->S i)(hl:cs'.length=cs.length)
  (hc:∀ i (h:i<cs.length) (h':i<cs'.length),Fz S H nx cs[i] cs'[i]):Fz S H nx v (.vec n cs'):=by
 rcases h with ⟨rfl,rfl,rfl⟩|⟨id,g,h1,_,rfl,h3,h4⟩
 ·obtain rfl:=List.eq_nil_of_length_eq_zero hl;exact .nil
 ·refine .frz (hS id h1) h4 (by omega) fun j hj h2 h'=>?_;simp only[Nat.zero_add]at h2 ⊢;exact hc j h2 h'
theorem yq {S:Nat->Prop}{H:AHeap}{nx A:Nat}{ns:List NodeP}{c:Int}{pv rv pv' rv':AVal}(hp:Fz S H nx pv pv')(hr:Fz S H nx rv rv'):∀ i (h:i<(bq ns A (aa c) pv rv).length) (h':i<(bq ns A (aa c) pv' rv').length),Fz S H nx (bq ns A (aa c) pv rv)[i] (bq ns A (aa c) pv' rv')[i]:=by
 unfold bq;intro i h h';simp only[List.getElem_set];by_cases h2:A*3+2=i
 ·rw[if_pos h2,if_pos h2];exact hr
 ·rw[if_neg h2,if_neg h2];by_cases h1:A*3+1=i
  ·rw[if_pos h1,if_pos h1];exact hp
  ·rw[if_neg h1,if_neg h1];by_cases h0:A*3=i
   ·rw[if_pos h0];exact .lit _
   ·rw[if_neg h0];exact P3 ns _ (List.getElem_mem _)
theorem Nw {S:Nat->Prop}{lo nx:Nat}{H H':AHeap}{v:AVal}{ids:List Nat}{rows:List (List Int)}{R idt gt:Nat}{w:AVal}{r':List Int}{cells:List AVal}(h:OwnM lo H 39 3 v ids (rows.map ints))(hS:∀ i,lo<=i->S i)(hR:R<rows.length)(ht:lo<=idt)
  (hcell:cells.length=rows.length) (hsame:∀ (j id:Nat) (r:List Int),j≠R->ids[j]?=some id->rows[j]?=some r->cells[j]?=some (.own id 0 0 r.length 1)/\H'.get id=H.get id) (hw:cells[R]?=some w) (hg:H'.get idt=some (.arr gt 39 cells)) (hfw:Fz S H' nx w (ae r')):
  Fz S H' nx (.own idt gt 0 rows.length 1) (aA (rows.set R r')):=by
 have hl:=h.len;rw[List.length_map]at hl;have:Fz S H' nx (.own idt gt 0 rows.length 1) (.vec rows.length ((rows.set R r').map ae)):=by
  refine .frz (hS idt ht) hg (by simp) fun j hj h2 h'=>?_;simp only[Nat.zero_add]at h2 ⊢;have hjr:j<rows.length:=by omega
  have e1:=List.getElem?_eq_getElem h2;generalize cells[j]=u at e1 ⊢;rw[List.getElem_map,List.getElem_set];split
  ·rename_i e;subst e;rw[hw]at e1;cases e1;exact hfw
  ·rename_i e;have hij:j<ids.length:=(by omega);obtain⟨c1,c2⟩:=hsame j _ _ (fun h=>e h.symm) (List.getElem?_eq_getElem hij) (List.getElem?_eq_getElem hjr);rw[c1]at e1;cases e1;have hid:=h.rng _ (List.getElem_mem hij);have hrow:=h.row j _ _ (List.getElem?_eq_getElem hij) (show (rows.map ints)[j]?=some (ints rows[j]) by rw[List.getElem?_map,List.getElem?_eq_getElem hjr];rfl);rw[<- c2]at hrow;refine .frz (hS _ hid.1) hrow (by simp [aM]) fun i hi h3 h4=>?_;have e0:0+i=i:=Nat.zero_add i;simp only[e0,ints,List.getElem_map];exact .lit _
 have e:aA (rows.set R r')=.vec rows.length ((rows.set R r').map ae):=by unfold aA;rw[List.length_set]
 rw[e];exact this
structure RowAt (lo:Nat)(H:AHeap)(rv:AVal)(ids:List Nat)(rows:List (List Int))(R:Nat)(q:List Int)(idt gt:Nat)(cells:List AVal)(idr:Nat):Prop where
 rv:rv=.own idt gt 0 rows.length 1
 top:H.get idt=some (.arr gt 39 cells)
 tlo:lo<=idt/\idt<H.next
 len:cells.length=rows.length
 at':cells[R]?=some (.own idr 0 0 q.length 1)
 row:H.get idr=some (.arr 0 3 (ints q))
 rlo:lo<=idr/\idr<H.next
 ne:idt≠idr
 id:ids[R]?=some idr
 q:rows[R]?=some q
 cell:∀ (j i:Nat) (r:List Int),ids[j]?=some i->rows[j]?=some r->cells[j]?=some (.own i 0 0 r.length 1)
 nm:idt ∉ ids
theorem OwnM.rowAt {lo:Nat}{H:AHeap}{rv:AVal}{ids:List Nat}{rows:List (List Int)}(h:OwnM lo H 39 3 rv ids (rows.map ints)){R:Nat}{q:List Int}(hq:rows[R]?=some q):∃ idt gt cells idr,RowAt lo H rv ids rows R q idt gt cells idr:=by
 have hR:=get_lt hq;have hl:=h.len;rw[List.length_map]at hl;have h0:rows.map ints≠[]:=by intro e;have:=congrArg List.length e;simp at this;rw[this]at hR;simp at hR
 obtain⟨idt,gt,a,b,c,d,f⟩:=h.Ea h0;obtain⟨idr,hidr⟩:=get_of_lt (show R<ids.length by omega);have hrow:=h.row R idr (ints q) hidr (by rw[List.getElem?_map,hq];rfl);have hcell:∀ (j i:Nat) (r:List Int),ids[j]?=some i->rows[j]?=some r->(List.zipWith (fun i n=>AVal.own i 0 0 n 1) ids ((rows.map ints).map List.length))[j]?=some (.own i 0 0 r.length 1):=fun j i r h1 h2=>by
  rw[List.getElem?_zipWith,h1,List.getElem?_map,List.getElem?_map,h2];simp [aM]
 refine⟨idt,gt,_,idr,by rw[c,List.length_map],d,⟨a,b⟩,by simp [hl],hcell R idr q hidr hq,hrow,h.rng _ (List.mem_of_getElem? hidr),?_,hidr,hq,hcell,f (by decide)⟩;rintro rfl;exact f (by decide) (List.mem_of_getElem? hidr)
theorem RowAt.Nx {S:Nat->Prop}{lo nx:Nat}{H H':AHeap}{rv:AVal}{ids:List Nat}{rows:List (List Int)}{R:Nat}{q:List Int}{idt gt:Nat}{cells:List AVal}{idr:Nat}(h:RowAt lo H rv ids rows R q idt gt cells idr)(hM:OwnM lo H' 39 3 rv ids (rows.map ints))(hS:∀ i,lo<=i->S i)(ht:H'.get idt=some (.arr gt 39 cells)):
  Fz S H' nx (.own idt gt 0 R 1) (aA (rows.take R)):=by
 have hR:=get_lt h.q;have hl:=hM.len;rw[List.length_map]at hl;have:Fz S H' nx (.own idt gt 0 R 1) (.vec R ((rows.take R).map ae)):=by
  refine .frz (hS idt h.tlo.1) ht (by simp;omega) fun j hj h2 h'=>?_;simp only[Nat.zero_add]at h2 ⊢;have hjr:j<rows.length:=by omega
  have hij:j<ids.length:=by omega
  have e1:=List.getElem?_eq_getElem h2;generalize cells[j]=u at e1 ⊢;rw[h.cell j _ _ (List.getElem?_eq_getElem hij) (List.getElem?_eq_getElem hjr)]at e1;cases e1;rw[List.getElem_map,List.getElem_take];have hid:=hM.rng _ (List.getElem_mem hij);have hrow:=hM.row j _ _ (List.getElem?_eq_getElem hij) (show (rows.map ints)[j]?=some (ints rows[j]) by rw[List.getElem?_map,List.getElem?_eq_getElem hjr];rfl);refine .frz (hS _ hid.1) hrow (by simp [aM]) fun i hi h3 h4=>?_;have e0:0+i=i:=Nat.zero_add i;simp only[e0,ints,List.getElem_map];exact .lit _
 have e:aA (rows.take R)=.vec R ((rows.take R).map ae):=by unfold aA;rw[List.length_take,Nat.min_eq_left (by omega)]
 rw[e];exact this
theorem RowAt.Ny {S:Nat->Prop}{lo nx:Nat}{H H':AHeap}{rv:AVal}{ids:List Nat}{rows:List (List Int)}{R:Nat}{q:List Int}{idt gt:Nat}{cells:List AVal}{idr:Nat}(h:RowAt lo H rv ids rows R q idt gt cells idr)(hM:OwnM lo H 39 3 rv ids (rows.map ints))(hS:∀ i,lo<=i->S i){w:AVal}{q':List Int}
  (ht:H'.get idt=some (.arr gt 39 (cells.set R w))) (hk:∀ i∈ids,i≠idr->H'.get i=H.get i) (hw:Fz S H' nx w (ae q')):Fz S H' nx rv (aA (rows.set R q')):=by
 have hR:=get_lt h.q;rw[h.rv];refine Nw (gt:=gt) hM hS hR h.tlo.1 (by rw[List.length_set];exact h.len) (fun j i r hj h1 h2=>⟨by rw[List.getElem?_set_ne (fun e=>hj e.symm)];exact h.cell j i r h1 h2,hk i (List.mem_of_getElem? h1) ?_⟩) (by rw[List.getElem?_set_self (by rw[h.len];exact hR)]) ht hw;rintro rfl;exact hj ((List.getElem?_inj (get_lt h1) hM.nd).1 (by rw[h1,h.id]))
theorem NodesQ.take {e:Nat->Prop}{ns:List NodeP}{cs:List AVal}(h:NodesQ e ns cs)(k:Nat):NodesQ e (ns.take k) (cs.take (k*3)):=by
 refine⟨by rw[List.length_take,List.length_take,h.len];omega,fun v x hx=>?_⟩;have hv:=get_lt hx;rw[List.length_take]at hv;rw[List.getElem?_take_of_lt (by omega)]at hx;obtain⟨rv,a,b,c,d⟩:=h.node v x hx;exact⟨rv,by rw[List.getElem?_take_of_lt (by omega)];exact a,by rw[List.getElem?_take_of_lt (by omega)];exact b,by rw[List.getElem?_take_of_lt (by omega)];exact c,d⟩
theorem SmallN.take {m:Nat}{ns:List NodeP}(h:SmallN m ns)(k:Nat):SmallN m (ns.take k):=⟨by rw[List.length_take];have:=h.len;omega,fun x hx=>h.node x (List.mem_of_mem_take hx)⟩
def i9:Nat->Int->Int->List Int->List Int
 | 0,_,_,l=>l
 | f+1,i,k,l=>if i<k then i9 f (i+1) (k - 1) ((l.set i.toNat (l.getD k.toNat 0)).set k.toNat (l.getD i.toNat 0)) else l
def iz (c n g:Int)(q:List Int):List Int:=if c=6 then q.set 0 n else if c=7 then q++[0] else if c=8 then g :: List.replicate (q.length - 1) 0 else i9 (q.length+1) 0 ((q.length:Int) - 1) q
def dD (c r n g:Int)(x:NodeP):NodeP × AVal :=
 if c=1 then ({ x with card:=n },bt x) else if c=2 then ({ x with parents:=x.parents++[n] },bt x) else if c=3 then ({ x with parents:=[] },bt x)
 else if c=4 then ({ x with rows:=x.rows++[[n]] },bt { x with rows:=x.rows++[[n]] })
 else match x.rows[(r % (x.rows.length:Int)).toNat]? with
  | none=>(x,bt x)
  | some q=>if c=5 then ({ x with rows:=x.rows.take (r % (x.rows.length:Int)).toNat },aA (x.rows.take (r % (x.rows.length:Int)).toNat))
   else ({ x with rows:=x.rows.set (r % (x.rows.length:Int)).toNat (iz c n g q) },aA (x.rows.set (r % (x.rows.length:Int)).toNat (iz c n g q)))
def iC (c:Int)(A:Nat)(r n g:Int)(ns:List NodeP):Int × List NodeP × List AVal:=match ns[A]? with
 | none=>(g,[],[])
 | some x=>if c=0 then (n,ns,bq ns A (aa x.card) (ae x.parents) (bt x))
  else if c=10 then (g,ns++[⟨1,[],[[g]]⟩],bq ns A (aa x.card) (ae x.parents) (bt x)++[aa 1,ae [],bt ⟨1,[],[[g]]⟩])
  else if c=11 then (g,ns.take (ns.length - 1),(bq ns A (aa x.card) (ae x.parents) (bt x)).take ((ns.length - 1)*3))
  else (g,ns.set A (dD c r n g x).1,bq ns A (aa (dD c r n g x).1.card) (ae (dD c r n g x).1.parents) (dD c r n g x).2)
theorem rq {c r n g:Int}{x:NodeP}(hc:4<c)(hx:x.rows=[]):dD c r n g x=(x,bt x):=by
 unfold dD;rw[if_neg (by omega),if_neg (by omega),if_neg (by omega),if_neg (by omega),hx];rfl
theorem Nz {r n g:Int}{x:NodeP}{R:Nat}{q:List Int}(hq:x.rows[R]?=some q)(hR:R=(r % (x.rows.length:Int)).toNat):dD 5 r n g x=({ x with rows:=x.rows.take R },aA (x.rows.take R)):=by
 subst hR;unfold dD;rw[if_neg (by omega),if_neg (by omega),if_neg (by omega),if_neg (by omega),hq];rfl
theorem NA {c r n g:Int}{x:NodeP}{R:Nat}{q:List Int}(hc:5<c)(hq:x.rows[R]?=some q)(hR:R=(r % (x.rows.length:Int)).toNat):dD c r n g x=({ x with rows:=x.rows.set R (iz c n g q) },aA (x.rows.set R (iz c n g q))):=by
 subst hR;unfold dD;rw[if_neg (by omega),if_neg (by omega),if_neg (by omega),if_neg (by omega),hq];simp only;rw[if_neg (by omega)]
theorem NB:∀ (f:Nat) (i k:Int) (l:List Int),(i9 f i k l).length=l.length:=by
 intro f
 induction f with
 | zero=>intro i k l;rfl
 | succ f ih=>intro i k l;unfold i9;split<;>simp [ih]
theorem NC {f:Nat}{i k:Int}{l:List Int}(h:¬ i<k):i9 f i k l=l:=by
 cases f with
 | zero=>rfl
 | succ f=>unfold i9;rw[if_neg h]
theorem ND {f iN kN:Nat}{l:List Int}{qa qb:Int}(h:(iN:Int)<kN)(ha:l[iN]?=some qa)(hb:l[kN]?=some qb):i9 f ((iN:Int)+1) ((kN:Int) - 1) ((l.set iN qb).set kN qa)=i9 (f+1) iN kN l:=by
 conv=>rhs;unfold i9
 rw[if_pos h];simp [List.getD,ha,hb]
end Go.Proofs
