/- Own work: contracts. -/
import Derived.Test.YtjhbjbninamhnaaGreatConC
import Derived.Test.YtjhbjbninamhnaaGreatConB
import Derived.Test.YtjhbjbninamhnaaGreatConA
import Derived.Test.YtjhbjbninamhnaaGreatLibB
set_option linter.all false
set_option maxRecDepth 100000
namespace Go.Proofs
open Go.Hx
theorem Qg {H:AHeap}{i g o n:Nat}{e:TypeId}{cells:List AVal}{l:List Int}(hg:H.get i=some (.arr g e cells))(hn:n=l.length)(h0:l≠[])(hl:(l.length:Int)<2 ^ 62)(hx:∀ j (h:j<l.length),cells[o+j]?=some (aa l[j])):
  ae Tryz.prog G0 28 [.own i g o n 1] H fun r H'=>r=.ret (aa (gZ l))/\H'=H :=
 ae.frame (args':=[ah l]) aI rfl (fun j hj _=>match j,hj with|0,_=>Fz.ints trivial hg hn hx) (Ra l h0 hl dw _ ⟨_,rfl,.lit _⟩)
def fh (a:List Int)(l:List Int):Nat->List Int
 | 0=>l
 | n+1=>(fh a l n).set n (a.getD n 0)
theorem mR (a l:List Int)(n:Nat):(fh a l n).length=l.length:=by
 induction n with
 | zero=>rfl
 | succ n ih=>unfold fh;rw[List.length_set,ih]
theorem DB {a l:List Int}(n i:Nat)(hi:i<l.length):(fh a l n).getD i 0=if i<n then a.getD i 0 else l.getD i 0:=by
 induction n with
 | zero=>rfl
 | succ n ih =>
  unfold fh;by_cases hn:n<l.length
  ·rw[nY _ _ _ _ _ (by rw[mR];exact hn),ih];by_cases h:n=i
   ·subst h;rw[if_pos rfl,if_pos (by omega)]
   ·rw[if_neg h];by_cases h2:i<n
    ·rw[if_pos h2,if_pos (by omega)]
    ·rw[if_neg h2,if_neg (by omega)]
  ·rw[List.set_eq_of_length_le (by rw[mR];omega),ih,if_pos (by omega),if_pos (by omega)]
theorem Qh {a l:List Int}(h:a.length=l.length):fh a l l.length=a:=by
 apply List.ext_getElem?;intro i;by_cases hi:i<l.length
 ·have h1:=DB (a:=a) l.length i hi;rw[if_pos hi]at h1;obtain⟨x,hx⟩:=get_of_lt (l:=fh a l l.length) (i:=i) (by rw[mR];exact hi);obtain⟨y,hy⟩:=get_of_lt (l:=a) (i:=i) (by omega);rw[gM hx,gM hy]at h1;rw[hx,hy,h1]
 ·rw[List.getElem?_eq_none (by rw[mR];omega),List.getElem?_eq_none (by omega)]
def cA (D:DPr)(T:TabS)(k:Nat):List Int:=jX (D.cs k) (D.cd k) (T.ex k)
def ia (D:DPr)(T:TabS)(k n:Nat):TabS:={ T with be:=ep T.be k (fh (cA D T k) (T.be k) n),ex:=if 0<k then ep T.ex (k - 1) (dI (T.ab k) (cA D T k) n (T.ex (k - 1))) else T.ex }
def sZ (D:DPr)(T:TabS)(k:Nat):TabS:={ T with be:=ep T.be k (cA D T k),ex:=if 0<k then ep T.ex (k - 1) (dI (T.ab k) (cA D T k) (D.cs k) (T.ex (k - 1))) else T.ex }
def fZ (D:DPr)(T:TabS)(k n:Nat)(tot:Int):Int:=if 0<k then tot else tot+SS n fun c=>(cA D T k).getD c 0
def jK (r:List Nat)(s:Nat)(I:Nat->Nat->Nat)(H H':AHeap):Prop:=∀ i,i≠s->(∀ k j,k<r.length->j<6->i≠I k j)->H'.get i=H.get i
theorem Qi {D:DPr}{T:TabS}{k n:Nat}(hl:T.Len D n)(hk:k<n):ia D T k (D.cs k)=sZ D T k:=by
 unfold ia sZ;have:fh (cA D T k) (T.be k) (D.cs k)=cA D T k:=by
  rw[<- hl.be k hk];exact Qh (by unfold cA;rw[CL];exact(hl.be k hk).symm)
 rw[this]
theorem y9 {D:DPr}{T:TabS}{k m n:Nat}(hl:T.Len D n):(ia D T k m).Len D n:=by
 refine⟨hl.ab,hl.oc,fun k' hk=>?_,fun k' hk=>?_,hl.ch⟩
 ·unfold ia;simp only;split
  ·by_cases e:k'=k - 1
   ·rw[e,ka,sA];rw[<- e];exact hl.ex k' hk
   ·rw[jm e];exact hl.ex k' hk
  ·exact hl.ex k' hk
 ·unfold ia;simp only;by_cases e:k'=k
  ·rw[e,ka,mR];rw[<- e];exact hl.be k' hk
  ·rw[jm e];exact hl.be k' hk
def od (D:DPr)(T:TabS)(k n:Nat):TabS:={ ia D T k n with be:=ep T.be k (fh (cA D T k) (T.be k) (n+1)) }
theorem Qj {D:DPr}{T:TabS}{k m n:Nat}(hl:T.Len D n):(od D T k m).Len D n:=by
 have h1:=y9 (k:=k) (m:=m) hl;exact⟨h1.ab,h1.oc,h1.ex,(y9 (k:=k) (m:=m+1) hl).be,h1.ch⟩
theorem Qk (D:DPr)(T:TabS)(k:Nat):ia D T k 0=T:=by
 have h1:ep T.be k (T.be k)=T.be:=by funext k';unfold ep;split;{ rename_i e;rw[e] };rfl
 have h2:∀ f:Nat->List Int,ep f (k - 1) (f (k - 1))=f:=fun f=>by funext k';unfold ep;split;{ rename_i e;rw[e] };rfl
 unfold ia;simp only[fh];rw[h1];have h3:(if 0<k then ep T.ex (k - 1) (dI (T.ab k) (cA D T k) 0 (T.ex (k - 1))) else T.ex)=T.ex:=by
  split
  ·exact h2 T.ex
  ·rfl
 rw[h3]
set_option maxHeartbeats 4000000 in
theorem Ql {d:InfP}{r:List Nat}{lo s:Nat}{lvh:AVal}{I:Nat->Nat->Nat}{T:TabS}{tot:Int}{k:Nat}(hrl:r.length<=64)(hk:k<r.length)(hsz:(aq d r).cs k*(aq d r).cd k<2 ^ 40)(hcd:1<=(aq d r).cd k)(hcd2:(aq d r).cd k<2 ^ 40)(hcs2:(aq d r).cs k<2 ^ 40)
  (hab:0<k->∀ c,c<(aq d r).cs k->0<=(T.ab k).getD c 0/\(T.ab k).getD c 0<((aq d r).cs (k - 1)*(aq d r).cd (k - 1):Nat))
  (hb1:0<k->∀ n,n<(aq d r).cs k->-9223372036854775808<=(dI (T.ab k) (cA (aq d r) T k) n (T.ex (k - 1))).getD ((T.ab k).getD n 0).toNat 0+(cA (aq d r) T k).getD n 0/\(dI (T.ab k) (cA (aq d r) T k) n (T.ex (k - 1))).getD ((T.ab k).getD n 0).toNat 0+(cA (aq d r) T k).getD n 0<=9223372036854775807)
  (hb2:k=0->∀ n,n<(aq d r).cs k->-9223372036854775808<=tot+(SS (n+1) fun c=>(cA (aq d r) T k).getD c 0)/\tot+(SS (n+1) fun c=>(cA (aq d r) T k).getD c 0)<=9223372036854775807)
  (H:AHeap) (hS:SolvH d r lo s lvh I T tot H) (K:ARes->AHeap->Prop)
  (hK:∀ H',H'.next=H.next->jK r s I H H'->SolvH d r lo s lvh I (sZ (aq d r) T k) (fZ (aq d r) T k ((aq d r).cs k) tot) H'->K (.ret (.tup [])) H'):
  ae Tryz.prog G0 107 [.ptr s 0 0,aa k] H K:=by
 obtain⟨D,hD⟩:∃ D,D=aq d r:=⟨_,rfl⟩
 rw[<- hD]at hsz hcd hcd2 hcs2 hab hb1 hb2 hK;obtain⟨il,gl,hlv,glv,_,_⟩:=hS.vu hk;have lso:=ag hS.top;have llv:=ag glv;have l0:=ag (hS.levs.lev k hk);rw[<- hD]at l0;have l4:=ag (hS.levs.tab k 4 hk (by omega) (by omega));simp only[dk,fY]at l0 l4;have hpk:=sV (I:=I) hk;have hpn:=aL hpk;have hpl:=jG I r.length;have hki:(k:Int)<r.length:=by omega
 have hbe4:=hS.levs.len.be k hk;rw[<- hD]at hbe4;refine ae.d4 (n:=92) (rs:=[]) Tryz.func107 rfl rfl rfl (by decide) (by simp) ?_;refine W.seq (af _ _ _ (by rfl) ?_);simp only[go_sem,lso,hlv,llv,hpk,hki];refine W.seq (af _ _ _ (by rfl) ?_);simp only[go_sem,l0,l4];refine W.env fun E hE=>?_;have e0:E 0=.ptr s 0 0:=by rw[hE];simp only[go_sem]
 have e1:E 1=aa k:=by rw[hE];simp only[go_sem]
 have e4:E 4=.ptr (I k 0) 0 0:=by rw[hE];simp only[go_sem]
 have e17:E 17=aa (D.cs k):=by rw[hE];simp only[go_sem]
 have e18:E 18=aa 0:=by rw[hE];simp only[go_sem]
 clear hE;refine W.block ?_;refine W.aK 4951760157141521099596234784 (by rfl) (fun ρ Hx=>∃ c:Nat,ρ 18=aa c/\c<=D.cs k/\Hx.next=H.next/\jK r s I H Hx/\SolvH d r lo s lvh I (ia D T k c) (fZ D T k c tot) Hx) (fun ρ Hx=>D.cs k - (iv (ρ 18)).toNat) ?_ ?_
 ·simp only[go_sem,e18];refine⟨0,rfl,by omega,fun _ _ _=>rfl,?_⟩;have:fZ D T k 0 tot=tot:=by unfold fZ;split<;>simp [mv]
  rw[Qk,this];exact hS
 rintro ρ Hx ⟨c,h18,hc,nx,hout,hSx⟩;refine W.env fun E1 hE1=>?_;have f0:E1 0=.ptr s 0 0:=by rw[hE1];simp only[go_sem,e0]
 have f1:E1 1=aa k:=by rw[hE1];simp only[go_sem,e1]
 have f4:E1 4=.ptr (I k 0) 0 0:=by rw[hE1];simp only[go_sem,e4]
 have f17:E1 17=aa (D.cs k):=by rw[hE1];simp only[go_sem,e17]
 have f18:E1 18=aa c:=by rw[hE1];simp only[go_sem,h18]
 clear hE1;by_cases hb:(c:Int)<D.cs k;rotate_left
 ·refine af _ _ _ (by rfl) ?_;simp only[go_sem,f17,f18,hb];have hcc:c=D.cs k:=by omega
  have hle:=hS.levs.len;rw[<- hD]at hle;rw[hcc,Qi hle hk]at hSx;exact ar.mk (by omega) (hK Hx nx hout hSx)
 refine W.seq (af _ _ _ (by rfl) ?_);simp only[go_sem,f17,f18,hb];refine W.seq (af _ _ _ (by rfl) ?_);simp only[go_sem];refine W.seq (W.block ?_);refine W.seq (af _ _ _ (by rfl) ?_);simp only[go_sem,f18]
  -- the greatest of the case's branches
 have lx0:=ag (hSx.levs.lev k hk);rw[<- hD]at lx0;have g3:=hSx.levs.tab k 3 hk (by omega) (by omega);have g4:=hSx.levs.tab k 4 hk (by omega) (by omega);have lx3:=ag g3;have lx4:=ag g4;have hle:=hSx.levs.len;rw[<- hD]at hle;have hex:(ia D T k c).ex k=T.ex k:=by
  unfold ia;simp only;split
  ·rw[jm (by omega)]
  ·rfl
 have hbe:(ia D T k c).be k=fh (cA D T k) (T.be k) c:=ka ..;simp only[dk,fY,hex,hbe]at lx0 lx3 lx4 g3;have hexl:=hle.ex k hk;rw[hex]at hexl;have hbr:(c+1)*D.cd k<=D.cs k*D.cd k:=Nat.mul_le_mul_right _ (by omega);have hbr2:c*D.cd k+D.cd k=(c+1)*D.cd k:=by rw[Nat.add_mul,Nat.one_mul]
 obtain⟨part,hpart⟩:∃ p,p=iS (D.cd k) c (T.ex k):=⟨_,rfl⟩
 have hprl:part.length=D.cd k:=by rw[hpart];unfold iS;rw[List.length_take,List.length_drop];omega
 have hpr0:part≠[]:=fun h=>by rw[h]at hprl;simp at hprl;omega
 have hprg:∀ j (h:j<part.length),(ints (T.ex k))[c*D.cd k+j]?=some (aa part[j]):=fun j hj=>by
  have h1:(iS (D.cd k) c (T.ex k))[j]?=some part[j]:=by rw[<- hpart];exact List.getElem?_eq_getElem hj
  unfold iS at h1;rw[List.getElem?_take_of_lt (by rw[hprl]at hj;exact hj),List.getElem?_drop]at h1;rw[d9,h1];rfl
 have hmx:(cA D T k).getD c 0=gZ part:=by rw[hpart];exact yF (by omega)
 have i3:=(hSx.levs.rng k 3 hk (by omega)).2;have ll3:(ints (T.ex k)).length=D.cs k*D.cd k:=by rw[aR];exact hexl
 have ll4:(ints (fh (cA D T k) (T.be k) c)).length=D.cs k:=by rw[aR,mR];exact hbe4
 have w1:=IntWalk.i64_in ((c:Int)*(D.cd k:Int)) (by rw[<- Int.natCast_mul];omega);have w2:=IntWalk.i64_in ((c:Int)+1) (by omega);have w3:=IntWalk.i64_in (((c:Int)+1)*(D.cd k:Int)) (by rw[show (c:Int)+1=((c+1:Nat):Int) by omega,<- Int.natCast_mul];omega);have q1:(c:Int)*(D.cd k:Int)=((c*D.cd k:Nat):Int):=by simp
 have q2:((c:Int)+1)*(D.cd k:Int)=(((c+1)*D.cd k:Nat):Int):=by simp
 rw[q1]at w1;rw[q2]at w3;refine W.seq ?_;refine W.draw 24 [0,1,3,7,0,0,32,96,224,0,0,1024,3072,7168,15872,0,32768,0,131072,393216,917504,2064384,4194272,8388576] Tryz.mixed (by kernel_rfl) (by kernel_rfl) ?_;simp only[go_sem,f4,lx0,q1,w1,w2,q2,w3,lx3,lx4,ll4,hb];have e1':setAt (ints (fh (cA D T k) (T.be k) c)) c [.lit (.int .i64 (gZ part))]=ints (fh (cA D T k) (T.be k) (c+1)):=by
  rw[fV (by rw[mR];omega)];show _=ints ((fh (cA D T k) (T.be k) c).set c ((cA D T k).getD c 0));rw[hmx]
 refine⟨by omega,by omega,aa (gZ part),[I k 3],bX.mk (fun x hx=>by rw[List.mem_singleton.1 hx];exact i3) (fun H2 h2 _=>Qg (h2 _ (by simp) |>.trans g3) (by rw[hprl];omega) hpr0 (by omega) hprg),⟨rfl,rfl,by show c+1<=_;omega⟩,?_⟩;simp only[go_sem,e1'];obtain⟨H4,hH4⟩:∃ H4,H4=Hx.upd (I k 4) (.arr 0 3 (ints (fh (cA D T k) (T.be k) (c+1)))):=⟨_,rfl⟩
 rw[<- hH4];have hTm:SolvH d r lo s lvh I (od D T k c) (fZ D T k c tot) H4:=by
  rw[hH4];have hb4:dk (od D T k c) k 4=.arr 0 3 (ints (fh (cA D T k) (T.be k) (c+1))):=by show Blk.arr 0 _ (ints (ep T.be k _ k))=_;rw[ka]
  rw[<- hb4];refine hSx.upd hk (by omega) (by omega) (fun k' j' h1 h2 h3 h4=>?_) ?_
  ·match j',h2,h3 with
   | 1,_,_=>rfl
   | 2,_,_=>rfl
   | 3,_,_=>rfl
   | 4,_,_ =>
    have:k'≠k:=fun e=>h4 ⟨e,rfl⟩;show Blk.arr 0 _ (ints (ep T.be k _ k'))=Blk.arr 0 _ (ints (ep T.be k _ k'));rw[jm this,jm this]
   | 5,_,_=>rfl
  ·rw[<- hD];have:=hS.levs.len;rw[<- hD]at this;exact Qj this
 have n4:H4.next=H.next:=by rw[hH4,aG];exact nx
 have o4:jK r s I H H4:=fun i h1 h2=>by rw[hH4,aj,if_neg (h2 k 4 hk (by omega))];exact hout i h1 h2
 clear hH4;have ls4:=ag hTm.top;have l04:=ag (hTm.levs.lev k hk);rw[<- hD]at l04;have l44:=ag (hTm.levs.tab k 4 hk (by omega) (by omega));have hbe':(od D T k c).be k=fh (cA D T k) (T.be k) (c+1):=ka ..;simp only[dk,fY,hbe']at l04 l44;obtain⟨bc,hbc⟩:∃ bc,bc=(cA D T k).getD c 0:=⟨_,rfl⟩
 have gbc:(ints (fh (cA D T k) (T.be k) (c+1)))[c]?=some (aa bc):=by
  have h1:=DB (a:=cA D T k) (l:=T.be k) (c+1) c (by omega);rw[if_pos (by omega)]at h1;obtain⟨x,hx⟩:=get_of_lt (l:=fh (cA D T k) (T.be k) (c+1)) (i:=c) (by rw[mR];omega);rw[gM hx]at h1;rw[d9,hx,hbc,<- h1];rfl
 have nbc:=aL gbc;have ll5:(ints (fh (cA D T k) (T.be k) (c+1))).length=D.cs k:=by rw[aR,mR];exact hbe4
 refine W.env fun E2 hE2=>?_;have m0:E2 0=.ptr s 0 0:=by rw[hE2];simp only[go_sem,f0]
 have m1:E2 1=aa k:=by rw[hE2];simp only[go_sem,f1]
 have m4:E2 4=.ptr (I k 0) 0 0:=by rw[hE2];simp only[go_sem,f4]
 have m5:E2 5=aa c:=by rw[hE2];simp only[go_sem]
 have m18:E2 18=aa c:=by rw[hE2];simp only[go_sem,f18]
 clear hE2;have wc:=IntWalk.i64_in ((c:Int)+1) (by omega);by_cases hk0:0<k
 ·have hk0i:(0:Int)<k:=by omega
  refine W.seq (af _ _ _ (by rfl) ?_);simp only[go_sem,m1,hk0i];refine W.cond (t:=true) rfl ?_;have hk1:k - 1<r.length:=by omega
  have hpk1:=sV (I:=I) hk1;have l14:=ag (hTm.levs.lev (k - 1) hk1);rw[<- hD]at l14;have l1e:=ag (hTm.levs.tab (k - 1) 3 hk1 (by omega) (by omega));have l1a:=ag (hTm.levs.tab k 1 hk (by omega) (by omega));have hexm:(od D T k c).ex (k - 1)=dI (T.ab k) (cA D T k) c (T.ex (k - 1)):=by
   show (if 0<k then ep T.ex (k - 1) _ else T.ex) (k - 1)=_;rw[if_pos hk0,ka]
  have habm:(od D T k c).ab k=T.ab k:=rfl;simp only[dk,fY,hexm,habm]at l14 l1e l1a;obtain⟨il4,gl4,hlv4,glv4,_,_⟩:=hTm.vu hk;rw[hlv4]at ls4;have llv4:=ag glv4;have w5:=IntWalk.i64_in ((k:Int) - 1) (by omega);have ek:(k:Int) - 1=((k - 1:Nat):Int):=by omega
  rw[ek]at w5;have hk1i:((k - 1:Nat):Int)<r.length:=by omega
  have hpn4:=aL hpk1;have habl:=hS.levs.len.ab k hk;rw[<- hD]at habl;obtain⟨av,hav⟩:=get_of_lt (l:=T.ab k) (i:=c) (by omega);have hab1:=hab hk0 c (by omega);rw[gM hav]at hab1;obtain⟨aN,haN⟩:=Int.eq_ofNat_of_zero_le hab1.1;subst haN;have gav:(ints (T.ab k))[c]?=some (aa aN):=by rw[d9,hav];rfl
  have nav:=aL gav;have lla:(ints (T.ab k)).length=D.cs k:=by rw[aR];exact habl
  have hexl1:=hS.levs.len.ex (k - 1) hk1;rw[<- hD]at hexl1;have aNl:aN<(dI (T.ab k) (cA D T k) c (T.ex (k - 1))).length:=by rw[sA,hexl1];omega
  obtain⟨xv,hxv⟩:=get_of_lt aNl;have gxv:(ints (dI (T.ab k) (cA D T k) c (T.ex (k - 1))))[aN]?=some (aa xv):=by rw[d9,hxv];rfl
  have nxv:=aL gxv;have llx:(ints (dI (T.ab k) (cA D T k) c (T.ex (k - 1)))).length=D.cs (k - 1)*D.cd (k - 1):=by rw[aR,sA];exact hexl1
  have hb1':=hb1 hk0 c (by omega);have etn:((T.ab k).getD c 0).toNat=aN:=by rw[gM hav];omega
  rw[etn,gM hxv,<- hbc]at hb1';have w6:=IntWalk.i64_in (xv+bc) (by omega);have aNi:(aN:Int)<(D.cs (k - 1)*D.cd (k - 1):Nat):=by omega
  have e6:setAt (ints (dI (T.ab k) (cA D T k) c (T.ex (k - 1)))) aN [.lit (.int .i64 (xv+bc))]=ints (dI (T.ab k) (cA D T k) (c+1) (T.ex (k - 1))):=by
   rw[fV aNl,uU,etn,gM hxv,hbc]
  refine W.draw 27 [0,1,3,7,0,16,63,127,255,511,1023,0,2048,6144,14336,0,63488,129024,262143,524287,0,1048576,3145728,7340032,0,32505856,66060288] Tryz.mixed (by kernel_rfl) (by kernel_rfl) ?_;simp only[go_sem,m0,m1,m4,m5,ls4,ek,w5,hk1i,llv4,hpk1,l14,l04,l44,l1a,l1e,gav,gxv,llx,gbc,hb,w6,aNi,e6];refine⟨by omega,?_⟩;refine af _ _ _ (by rfl) ?_;simp only[go_sem,m18,wc];obtain⟨H5,hH5⟩:∃ H5,H5=H4.upd (I (k - 1) 3) (.arr 0 3 (ints (dI (T.ab k) (cA D T k) (c+1) (T.ex (k - 1))))):=⟨_,rfl⟩
  rw[<- hH5];have n5:H5.next=H.next:=by rw[hH5,aG];exact n4
  refine⟨by omega,⟨c+1,rfl,by omega,n5,fun i h1 h2=>by rw[hH5,aj,if_neg (h2 (k - 1) 3 hk1 (by omega))];exact o4 i h1 h2,?_⟩,by rw[h18];simp only[aa,aU];omega⟩;have et:fZ D T k (c+1) tot=fZ D T k c tot:=by unfold fZ;rw[if_pos hk0,if_pos hk0]
  have hb3:dk (ia D T k (c+1)) (k - 1) 3=.arr 0 3 (ints (dI (T.ab k) (cA D T k) (c+1) (T.ex (k - 1)))):=by
   show Blk.arr 0 _ (ints ((if 0<k then ep T.ex (k - 1) _ else T.ex) (k - 1)))=_;rw[if_pos hk0,ka]
  rw[et,hH5,<- hb3];refine hTm.upd hk1 (by omega) (by omega) (fun k' j' h1 h2 h3 h4=>?_) ?_
  ·match j',h2,h3 with
   | 1,_,_=>rfl
   | 2,_,_=>rfl
   | 3,_,_ =>
    have:k'≠k - 1:=fun e=>h4 ⟨e,rfl⟩;show Blk.arr 0 _ (ints ((if 0<k then ep T.ex (k - 1) _ else T.ex) k'))=Blk.arr 0 _ (ints ((if 0<k then ep T.ex (k - 1) _ else T.ex) k'));rw[if_pos hk0,if_pos hk0,jm this,jm this]
   | 4,_,_=>rfl
   | 5,_,_=>rfl
  ·rw[<- hD];have:=hS.levs.len;rw[<- hD]at this;exact y9 this
 ·have hk0i:¬ (0:Int)<k:=by omega
  have hk00:k=0:=by omega
  refine W.seq (af _ _ _ (by rfl) ?_);simp only[go_sem,m1,hk0i];refine W.cond (t:=false) rfl ?_;have hb2':=hb2 hk00 c (by omega);have etc:fZ D T k (c+1) tot=fZ D T k c tot+bc:=by
   unfold fZ;rw[if_neg hk0,if_neg hk0,eZ,hbc];omega
  have hb3':fZ D T k (c+1) tot=tot+(SS (c+1) fun c=>(cA D T k).getD c 0):=by unfold fZ;rw[if_neg hk0]
  rw[<- hb3',etc]at hb2';have w6:=IntWalk.i64_in (fZ D T k c tot+bc) (by omega);refine W.draw 11 [0,1,3,7,0,16,48,112,0,496,1008] Tryz.mixed (by kernel_rfl) (by kernel_rfl) ?_;simp only[go_sem,m0,m4,m5,ls4,l04,l44,gbc,hb,w6];refine af _ _ _ (by rfl) ?_;simp only[go_sem,m18,wc];obtain⟨H5,hH5⟩:∃ H5,H5=H4.upd s (.arr 0 130 [.lit (.int .i64 d.grain),.vec d.nodes.length (aB d.nodes),.lit (.int .u64 (d.decs:Int)),.vec d.utils.length (aS d.utils),lvh,ah (dm d),ah (de d),.lit (.int .i64 (fZ D T k c tot+bc))]):=⟨_,rfl⟩
  have hbl:H5.next=H.next:=by rw[hH5,aG];exact n4
  have hTT:od D T k c=ia D T k (c+1):=by
   unfold od ia;rw[if_neg hk0,if_neg hk0]
  have hS5:SolvH d r lo s lvh I (ia D T k (c+1)) (fZ D T k (c+1) tot) H5:=by
   rw[hH5,<- hTT,etc];exact hTm.Dm
  have hO5:jK r s I H H5:=fun i h1 h2=>by rw[hH5,aj,if_neg h1];exact o4 i h1 h2
  have key:H.next<=H5.next/\(∃ c_1:Nat,AVal.lit (.int .i64 ((c:Int)+1))=AVal.lit (.int .i64 (c_1:Int))/\c_1<=D.cs k/\H5.next=H.next/\jK r s I H H5/\SolvH d r lo s lvh I (ia D T k c_1) (fZ D T k c_1 tot) H5)/\D.cs k - ((c:Int)+1).toNat<D.cs k - (iv (ρ 18)).toNat :=
   ⟨by omega,⟨c+1,rfl,by omega,hbl,hO5,hS5⟩,by rw[h18];simp only[aa,aU];omega⟩
  rw[hH5]at key;exact key
def gQ (d:InfP)(c:Nat->Nat->Int)(v0 r:Nat)(x:Int)(k:Nat):Int :=
 SS k fun w=>if iO d c v0 (wv d w)=true/\cR d.nodes v0 (wv d w)=r/\(wv d w).getD v0 0=x then cW d (wv d w) else 0
def ke (d:InfP)(c:Nat->Nat->Int)(v0 r k:Nat):List Int:=(List.range (cP d v0)).map fun (x:Nat)=>gQ d c v0 r (x:Int) k
def fB (d:InfP)(c:Nat->Nat->Int)(v0 k:Nat):List (List Int):=(List.range (cr d v0)).map fun r=>ke d c v0 r k
theorem vM (d:InfP)(c:Nat->Nat->Int)(v0 r k:Nat):(ke d c v0 r k).length=cP d v0:=by simp [ke]
theorem ti (d:InfP)(c:Nat->Nat->Int)(v0 k:Nat):(fB d c v0 k).length=cr d v0:=by simp [fB]
theorem zg {d:InfP}{c:Nat->Nat->Int}{v0 k r:Nat}(h:r<cr d v0):(fB d c v0 k)[r]?=some (ke d c v0 r k):=by unfold fB;rw[List.getElem?_map,List.getElem?_range h];rfl
theorem zh {d:InfP}{c:Nat->Nat->Int}{v0 k r x:Nat}(h:x<cP d v0):(ke d c v0 r k)[x]?=some (gQ d c v0 r (x:Int) k):=by unfold ke;rw[List.getElem?_map,List.getElem?_range h];rfl
theorem Rm (d:InfP)(c:Nat->Nat->Int)(v0 r:Nat):ke d c v0 r 0=List.replicate (cP d v0) 0:=by
 unfold ke gQ;simp only[mv];rw[List.map_const',List.length_range]
theorem D1 (d:InfP)(c:Nat->Nat->Int)(v0:Nat):fB d c v0 0=List.replicate (cr d v0) (List.replicate (cP d v0) 0):=by
 unfold fB;simp only[Rm];rw[List.map_const',List.length_range]
theorem Rn {d:InfP}{c:Nat->Nat->Int}{v0 k:Nat}(h:iO d c v0 (wv d k)=false):fB d c v0 (k+1)=fB d c v0 k:=by
 unfold fB ke gQ;simp only[eZ,h];simp
theorem Ro {d:InfP}{c:Nat->Nat->Int}{v0 k r x:Nat}(h:iO d c v0 (wv d k)=true)(hr:cR d.nodes v0 (wv d k)=r)(hx:(wv d k).getD v0 0=(x:Int))(hrn:r<cr d v0)(hxn:x<cP d v0):
  fB d c v0 (k+1)=(fB d c v0 k).set r ((ke d c v0 r k).set x (gQ d c v0 r (x:Int) k+cW d (wv d k))):=by
 apply List.ext_getElem?;intro i;rw[List.getElem?_set,ti];by_cases hi:i<cr d v0
 ·rw[zg hi,zg hi];by_cases hri:r=i
  ·subst hri;rw[if_pos rfl,if_pos hi];congr 1;apply List.ext_getElem?;intro j;rw[List.getElem?_set,vM];by_cases hj:j<cP d v0
   ·rw[zh hj,zh hj];by_cases hxj:x=j
    ·subst hxj;rw[if_pos rfl,if_pos hj];unfold gQ;rw[eZ,if_pos ⟨h,hr,hx⟩]
    ·rw[if_neg hxj];unfold gQ;rw[eZ,if_neg fun e=>hxj (by have:=e.2.2;rw[hx]at this;exact Int.ofNat.inj this)];simp
   ·rw[List.getElem?_eq_none (by rw[vM];omega),List.getElem?_eq_none (by rw[vM];omega),if_neg (by omega)]
    try (split<;>rfl)
  ·rw[if_neg hri];congr 1;unfold ke;refine List.map_congr_left fun j _=>?_;unfold gQ;rw[eZ,if_neg fun e=>hri (by rw[<- hr];exact e.2.1)];simp
 ·rw[List.getElem?_eq_none (by rw[ti];omega),List.getElem?_eq_none (by rw[ti];omega),if_neg (by omega)]
  try (split<;>rfl)
theorem tj {d:InfP}(hok:InfOk d)(h6:d.nodes.length<=6){vals:List Int}(hf:bV (ak d.nodes) vals):-18662400000000<=cW d vals/\cW d vals<=18662400000000:=by
 have hb:∀ w∈iE d vals,0<=w/\w<=60:=fun w hw=>by
  obtain⟨v,hv,rfl⟩:=List.mem_map.1 hw;exact DW hok hf (List.mem_range.1 hv)
 have h1:=nI (b:=60) (by omega) hb;have h2:=Cc (iE d vals).length (by rw[vJ];omega);have h3:0<=dq d vals/\dq d vals<=46656000000:=⟨h1.1,Int.le_trans h1.2 h2⟩
 have h4:=DZ hok.utils.2 hok.utils.1 vals;unfold cW;generalize dq d vals=w at *
 generalize bM d.nodes d.utils vals=u at *
 constructor
 ·have h1:w*(-400)<=w*u:=Int.mul_le_mul_of_nonneg_left h4.1 h3.1;omega
 ·have h1:w*u<=w*400:=Int.mul_le_mul_of_nonneg_left h4.2 h3.1;omega
theorem Rp {d:InfP}(hok:InfOk d)(h6:d.nodes.length<=6)(c:Nat->Nat->Int)(v0 r:Nat)(x:Int)(k:Nat):-(18662400000000*k:Int)<=gQ d c v0 r x k/\gQ d c v0 r x k<=18662400000000*k:=by
 induction k with
 | zero=>simp [gQ,mv]
 | succ k ih =>
  have e:gQ d c v0 r x (k+1)=gQ d c v0 r x k+(if iO d c v0 (wv d k)=true/\cR d.nodes v0 (wv d k)=r/\(wv d k).getD v0 0=x then cW d (wv d k) else 0):=by unfold gQ;rw[eZ]
  rw[e];have:=tj hok h6 (jh hok k)
  push_cast
  split<;>omega
theorem D2 {d:InfP}(hok:InfOk d):bH d.nodes<=1024:=by
 have:=(yn hok.net).1
 rwa [vf]at this
def vO (d:InfP):List AVal:=[.lit (.int .i64 d.grain),.vec d.nodes.length (aB d.nodes),.lit (.int .u64 (d.decs:Int)),.vec d.utils.length (aS d.utils),.lit (.slice none 0 0),ah (dm d),ah (de d),.lit (.int .i64 0)]
structure ExH (d:InfP)(p:List (List Int))(v0 db eb pb rb sb so:Nat)(rv:AVal)(H:AHeap):Prop where
 hd:H.get db=some (j5 d)
 he:H.get eb=some (.arr 0 3 [.lit (.int .i64 v0)])
 hp:H.get pb=some (.arr 0 33 [aA p])
 hr:H.get rb=some (.arr 0 33 [rv])
 hs:H.get sb=some (.arr 0 110 [.ptr so 0 0])
 hso:H.get so=some (.arr 0 130 (vO d))
theorem ExH.keep {d:InfP}{p:List (List Int)}{v0 db eb pb rb sb so:Nat}{rv:AVal}{H H':AHeap}(h:ExH d p v0 db eb pb rb sb so rv H)(hk:∀ id,id=db\/id=eb\/id=pb\/id=rb\/id=sb\/id=so->H'.get id=H.get id):ExH d p v0 db eb pb rb sb so rv H' :=
 ⟨(hk _ (by simp)).trans h.hd,(hk _ (by simp)).trans h.he,(hk _ (by simp)).trans h.hp,(hk _ (by simp)).trans h.hr,(hk _ (by simp)).trans h.hs,(hk _ (by simp)).trans h.hso⟩
theorem qW {d:InfP}(hok:InfOk d){v:Nat}{x:NodeP}(hx:d.nodes[v]?=some x):(bF d.nodes x:Int)=az (aQ d.nodes x)/\cH x.parents d.nodes.length/\fO x.parents d.nodes.length/\dS (aQ d.nodes x):=by
 have hxp:cH x.parents d.nodes.length:=by
  have:=(hok.net.node _ (List.mem_of_getElem? (jl (c:=fun _ _=>0) hx))).2;rw[(jy ..).2,hZ]at this;exact this
 have ps:=lU hok.n.n1.2 hxp hok.n.card;exact⟨by have:=ps.prod;unfold bF;omega,hxp,fun q hq=>by have:=hxp.2 q hq;omega,ps⟩
set_option maxHeartbeats 4000000 in
theorem Rq (d:InfP)(hok:InfOk d)(hf:InfFit d)(h6:d.nodes.length<=6)(p:List (List Int))(hp:PolOk d p)(v0:Nat)(hv0:v0∈aE d)(k:Nat)(hk:k<bH d.nodes)(db eb pb rb sb so N n lo:Nat)(rv:AVal)(ids:List Nat)
  (H:AHeap) (hE:ExH d p v0 db eb pb rb sb so rv H) (hM:OwnM lo H 46 3 rv ids ((fB d (fixC p) v0 k).map ints)) (hg:H.get N=some (.arr 0 3 (ints (wv d k)))) (hN:N<H.next) (hn:n=d.nodes.length)
  (K:ARes->AHeap->Prop) (hK:∀ H',H'.next=H.next->(∀ id,id ∉ ids->H'.get id=H.get id)->OwnM lo H' 46 3 rv ids ((fB d (fixC p) v0 (k+1)).map ints)->K (.ret (.tup [])) H'):
  ae Tryz.prog G0 68 [aa k,.own N 0 0 n 1,.ptr db 0 0,.ptr eb 0 0,.ptr pb 0 0,.ptr rb 0 0,.ptr sb 0 0] H K:=by
 subst hn;obtain⟨vals,hvals⟩:∃ vals,vals=wv d k:=⟨_,rfl⟩
 rw[<- hvals]at hg;have hfit:bV (ak d.nodes) vals:=by rw[hvals];exact jh hok k
 have hvl:vals.length=d.nodes.length:=by rw[hfit.1,dc]
 have n8:=hok.n.n1.2;have hD:=hf.decs;obtain⟨v01,v02⟩:=fK.1 hv0;have ld:=ag hE.hd;have le:=ag hE.he;have lp:=ag hE.hp;have lr:=ag hE.hr;have ls:=ag hE.hs;have lso:=ag hE.hso;have lN:=ag hg;unfold cw at ld;unfold vO at lso;have hpl:p.length<=d.nodes.length:=by rw[hp.len];exact jg
 refine ae.aP (n:=70) (rs:=[]) Tryz.func68 rfl rfl rfl (by decide) (by kernel_rfl) (by simp) ?_;simp only[go_sem,ld];refine W.aK 140737488340480 (by rfl) (fun ρ H'=>H'=H/\∃ v:Nat,ρ 14=aa v/\v<=d.nodes.length/\ρ 9=aa (bA d.decs v)/\∀ u,u<v->d.decs.testBit u=true->u=v0\/jU d (fixC p) vals u=true) (fun ρ H=>d.nodes.length - (iv (ρ 14)).toNat) ?_ ?_
 ·simp only[go_sem];exact⟨0,rfl,by omega,rfl,fun u hu=>absurd hu (Nat.not_lt_zero _)⟩
 rintro ρ H' ⟨rfl,v,h14,hv,h9,hag⟩;refine af _ _ _ (by rfl) ?_;by_cases hb:(v:Int)<d.nodes.length
 ·obtain⟨x,hx⟩:=get_of_lt (l:=d.nodes) (i:=v) (by omega);have s1:=fun t x y=>lY (P:=Tryz.prog) (t:=t) (x:=x) (y:=y) (k':=.i64) (s:=v) hD;have s2:=fun t x y=>mW (P:=Tryz.prog) (t:=t) (x:=x) (y:=y) (s:=v) hD;have w1:=IntWalk.i64_in ((v:Int)+1) (by omega);have hpv:bA d.decs v<=v:=by
   have:(dX d.decs v).length<=v:=jg;exact this
  have w2:=IntWalk.i64_in ((bA d.decs v:Int)+1) (by omega);cases hbit:d.decs.testBit v
  ·simp only[go_sem,h14,hb,ld,s1,s2,hbit,w1];exact⟨⟨v+1,by simp,by omega,by rw[oT,hbit];exact h9,fun u hu hub=>by
    by_cases huv:u=v
    ·subst huv;rw[hbit]at hub;cases hub
    ·exact hag u (by omega) hub⟩,by omega⟩
  by_cases hvv:v=v0
  ·subst hvv;simp only[go_sem,h14,hb,ld,s1,s2,hbit];refine W.draw 19 [0,0,3,7,15,15,63,127,15,271,15,15,3855,8191,16383,15,15,98319,229391] Tryz.mixed (by kernel_rfl) (by kernel_rfl) ?_;simp only[go_sem,h14,h9,le,w1,w2];exact⟨⟨v+1,by simp,by omega,by rw[oT,hbit];simp,fun u hu hub=>by
    by_cases huv:u=v
    ·exact .inl huv
    ·exact hag u (by omega) hub⟩,by omega⟩
  have hvv2:¬ (v:Int)=v0:=by omega
  obtain⟨hrn,hxp,hin,ps⟩:=qW hok hx;obtain⟨r1,r2⟩:=mw hok hx hfit;have hvm:v∈aE d:=fK.2 ⟨by omega,hbit⟩;have hplt:=yf hp hvm;obtain⟨l,hl⟩:=get_of_lt hplt;obtain⟨ll,lr'⟩:=hp.row _ v x l (qN hx hbit) hx hl;obtain⟨a,ha⟩:=get_of_lt (l:=l) (i:=cR d.nodes v vals) (by omega);obtain⟨b,hbv⟩:=get_of_lt (l:=vals) (i:=v) (by omega);have hca:fixC p (bA d.decs v) (cR d.nodes v vals)=a:=by unfold fixC;rw[bI hl,bI ha]
  have hpc:bX Tryz.prog G0 (.clo 69 [] []) [.vec d.nodes.length (aB d.nodes),.lit (.int .i64 v),.own N 0 0 d.nodes.length 1] H' (.lit (.int .i64 (cR d.nodes v vals))) [N]:=by
   have:=sR d.nodes v x vals hx hin ps hfit H' N d.nodes.length hN hg hvl.symm;rw[<- r1]at this;exact this
  have gl:(p.map fun r=>AVal.vec r.length (ints r))[bA d.decs v]?=some (.vec l.length (ints l)):=by rw[List.getElem?_map,hl];rfl
  have gne:=aL hl;have hpi:(bA d.decs v:Int)<p.length:=by omega
  have hlne:=aL ha;have hli:(cR d.nodes v vals:Int)<l.length:=by have:=get_lt ha;omega
  have hvne:=aL hbv;have hvi:(v:Int)<vals.length:=by omega
  have hagN:jU d (fixC p) vals v=decide (a=b):=by unfold jU;rw[hca,bI hbv]
  simp only[go_sem,h14,hb,ld,s1,s2,hbit];refine W.draw 19 [0,0,3,7,15,15,63,127,15,271,15,15,3855,8191,16383,15,15,98319,229391] Tryz.mixed (by kernel_rfl) (by kernel_rfl) ?_;simp only[go_sem,h9,ld,le,lp,hvv2,aA,hl,gne,hpi];refine⟨.lit (.int .i64 (cR d.nodes v vals)),[N],hpc,?_⟩;have hvn:(v:Int)<d.nodes.length:=hb;by_cases hab:a=b
  ·subst hab;simp only[go_sem,h14,h9,lN,ha,hlne,hli,hbv,hvn,w1,w2];exact⟨⟨v+1,by simp,by omega,by rw[oT,hbit];simp,fun u hu hub=>by
    by_cases huv:u=v
    ·subst huv;exact .inr (by rw[hagN];simp)
    ·exact hag u (by omega) hub⟩,by omega⟩
  ·simp only[go_sem,lN,ha,hlne,hli,hbv,hvn,hab];have hno:iO d (fixC p) v0 (wv d k)=false:=by
    rw[<- hvals];unfold iO;rw[List.all_eq_false];exact⟨v,hvm,by rw[hagN];simp [hvv,hab]⟩
   exact ar.mk (Nat.le_refl _) (hK H' rfl (fun _ _=>rfl) (by rw[Rn hno];exact hM))
 ·have hyes:iO d (fixC p) v0 (wv d k)=true:=by
   rw[<- hvals];unfold iO;rw[List.all_eq_true];intro u hu;obtain⟨u1,u2⟩:=fK.1 hu;rcases hag u (by omega) u2 with h|h
   ·simp [h]
   ·simp [h]
  obtain⟨x,hx⟩:=get_of_lt v01;have hxc:=hok.n.card x (List.mem_of_getElem? hx);obtain⟨nr,nc⟩:=iP hx (by omega);obtain⟨hrn,hxp,hin,ps⟩:=qW hok hx;obtain⟨r1,r2⟩:=mw hok hx hfit;obtain⟨b,hbv⟩:=get_of_lt (l:=vals) (i:=v0) (by omega);have hbr:=hfit.2 v0 x.card b (cU hx) hbv;obtain⟨xb,rfl⟩:=Int.eq_ofNat_of_zero_le hbr.1;obtain⟨r,hr⟩:∃ r,r=cR d.nodes v0 vals:=⟨_,rfl⟩
  rw[<- hr]at r1 r2;have hrn2:r<cr d v0:=by omega
  have hxn:xb<cP d v0:=by omega
  have hpc:bX Tryz.prog G0 (.clo 69 [] []) [.vec d.nodes.length (aB d.nodes),.lit (.int .i64 v0),.own N 0 0 d.nodes.length 1] H' (.lit (.int .i64 r)) [N]:=by
   have:=sR d.nodes v0 x vals hx hin ps hfit H' N d.nodes.length hN hg hvl.symm;rw[<- r1]at this;exact this
  obtain⟨tab,htab⟩:∃ t,t=fB d (fixC p) v0 k:=⟨_,rfl⟩
  obtain⟨row,hrow⟩:∃ t,t=ke d (fixC p) v0 r k:=⟨_,rfl⟩
  have htl:tab.length=cr d v0:=by rw[htab];exact ti ..
  have hrl:row.length=cP d v0:=by rw[hrow];exact vM ..
  have htr:tab[r]?=some row:=by rw[htab,hrow];exact zg hrn2
  have hrx:row[xb]?=some (gQ d (fixC p) v0 r (xb:Int) k):=by rw[hrow];exact zh hxn
  rw[<- htab]at hM;have ht0:tab≠[]:=fun h=>by rw[h]at htr;simp at htr
  obtain⟨tb,tg,tb1,tb2,hrv,hgt,htn⟩:=hM.D9 (by simpa using ht0);have htn:=htn (by decide);rw[List.length_map]at hrv;obtain⟨id,hid⟩:=get_of_lt (l:=ids) (i:=r) (by rw[hM.len,List.length_map];omega);have hmr:(tab.map ints)[r]?=some (ints row):=by rw[List.getElem?_map,htr];rfl
  have hgid:=hM.row r id _ hid hmr;obtain⟨hs,hhs⟩:∃ hs,hs=List.zipWith (fun i n=>AVal.own i 0 0 n 1) ids ((tab.map ints).map List.length):=⟨_,rfl⟩
  rw[<- hhs]at hgt;have hhk:hs[r]?=some (.own id 0 0 (cP d v0) 1):=by
   rw[hhs,List.getElem?_zipWith,hid,List.getElem?_map,hmr];show some (AVal.own id 0 0 (ints row).length 1)=_;rw[aR,hrl]
  have hhn:=aL hhk;have lt:=ag hgt;have lid:=ag hgid;have bk:=Rp hok h6 (fixC p) v0 r (xb:Int) k;have bg:=tj hok h6 hfit;have bw:=D2 hok;have w1:=IntWalk.i64_in (gQ d (fixC p) v0 r (xb:Int) k+cW d vals) (by omega);have hgk:(de d)[k]?=some (cW d vals):=by rw[hvals];exact vK hk
  have hgn:=aL hgk;have hkl:(k:Int)<(de d).length:=by rw[zf];omega
  have hrt:(r:Int)<tab.length:=by omega
  have hxr:(xb:Int)<cP d v0:=by omega
  have hrxn:=aL hrx;have hvne:=aL hbv;have hvi:(v0:Int)<vals.length:=by omega
  have hvn:(v0:Int)<d.nodes.length:=by omega
  have hset:setAt (ints row) xb [.lit (.int .i64 (gQ d (fixC p) v0 r (xb:Int) k+cW d vals))]=ints (row.set xb (gQ d (fixC p) v0 r (xb:Int) k+cW d vals)):=fV (by omega);simp only[go_sem,h14,hb];refine W.env fun E hE=>?_;have e0:E 0=aa k:=by rw[hE];simp only[go_sem]
  have e1:E 1=.own N 0 0 d.nodes.length 1:=by rw[hE];simp only[go_sem]
  have e2:E 2=.ptr db 0 0:=by rw[hE];simp only[go_sem]
  have e3:E 3=.ptr eb 0 0:=by rw[hE];simp only[go_sem]
  have e5:E 5=.ptr rb 0 0:=by rw[hE];simp only[go_sem]
  have e6:E 6=.ptr sb 0 0:=by rw[hE];simp only[go_sem]
  clear hE;refine af _ _ _ (by rfl) ?_;simp only[go_sem];refine W.draw 21 [0,0,2,0,0,30,63,127,0,0,768,1792,4095,8191,0,16384,49152,114688,0,507904,1032192] Tryz.mixed (by kernel_rfl) (by kernel_rfl) ?_;simp only[go_sem,e1,e2,e3,e5,ld,le,lr];refine⟨.lit (.int .i64 r),[N],hpc,?_⟩;rw[hrv]at lr;simp only[go_sem,e0,e1,e2,e3,e5,e6,le,ls,lso,lN,hrv,lt,hrt,hhk,lid,hbv,hvn,hrx,hxr,hgk,hgn,hkl,w1,hset];have hy:=Ro (r:=r) (x:=xb) hyes (by rw[<- hvals,hr]) (by rw[<- hvals];exact bI hbv) hrn2 hxn;rw[<- hvals,<- htab,<- hrow]at hy;refine⟨by omega,ar.mk (by rw[aG];exact Nat.le_refl _) (hK _ rfl (fun i hi=>by rw[aj,if_neg];rintro rfl;exact hi (List.mem_of_getElem? hid)) ?_)⟩;rw[hy,List.map_set];exact hM.store (by decide) hid hmr (by rw[aR,aR,List.length_set])
def eP (w a k:Nat):Nat:=if k<a then w+1 else w
def jq (D:DPr)(be ch:Nat->List Int)(w a b c:Nat):TabS:=⟨fun k=>cJ D k (eP w a k),fun k=>dR D k (eP w b k),fun k=>bD D k (eP w c k),be,ch⟩
def iC (D:DPr)(be ch:Nat->List Int)(w:Nat):TabS:=⟨fun k=>cJ D k w,fun k=>dR D k w,fun k=>bD D k w,be,ch⟩
theorem ta {w a k:Nat}(h:k<a):eP w a k=w+1:=if_pos h
theorem vB {w a k:Nat}(h:a<=k):eP w a k=w:=if_neg (by omega)
theorem vC {w a k:Nat}(h:k≠a):eP w (a+1) k=eP w a k:=by unfold eP;split<;>split<;>omega
def vD (n:Nat)(T T':TabS):Prop:=∀ k j,k<n->dk T k j=dk T' k j
theorem SolvH.same {d:InfP}{r:List Nat}{lo s:Nat}{lvh:AVal}{I:Nat->Nat->Nat}{T T':TabS}{tot:Int}{H:AHeap}(h:SolvH d r lo s lvh I T tot H)(ht:vD r.length T T')(hl:T'.Len (aq d r) r.length):SolvH d r lo s lvh I T' tot H :=
 ⟨h.top,h.slo,h.lv,h.sep,h.sepl,⟨h.levs.inj,h.levs.rng,h.levs.lev,fun k j h1 h2 h3=>by rw[<- ht k j h1];exact h.levs.tab k j h1 h2 h3,hl⟩⟩
theorem vE {D:DPr}{be ch:Nat->List Int}{n:Nat}(hb:∀ k,k<n->(be k).length=D.cs k)(hc:∀ k,k<n->(ch k).length=D.cs k)(w a b c:Nat):(jq D be ch w a b c).Len D n :=
 ⟨fun k _=>nX D k _,fun k _=>pg D k _,fun k _=>lP D k _,hb,hc⟩
theorem DI {D:DPr}{be ch:Nat->List Int}{n:Nat}(hb:∀ k,k<n->(be k).length=D.cs k)(hc:∀ k,k<n->(ch k).length=D.cs k)(w:Nat):(iC D be ch w).Len D n :=
 ⟨fun k _=>nX D k _,fun k _=>pg D k _,fun k _=>lP D k _,hb,hc⟩
theorem QJ {D:DPr}{be ch:Nat->List Int}(w n:Nat):vD n (jq D be ch w n n n) (iC D be ch (w+1)):=fun k j hk=>by
 have e:eP w n k=w+1:=ta hk;unfold dk jq iC;simp only[e]
def eD (d:InfP)(r:List Nat)(w:Nat):Int:=if r.length=0 then SS w (aq d r).gain else 0
set_option maxHeartbeats 4000000 in
theorem QK {d:InfP}(hok:InfOk d){r:List Nat}(hr:OrdR d r)(hrl:r.length<=64){lo s:Nat}{lvh:AVal}{I:Nat->Nat->Nat}{be ch:Nat->List Int}{w:Nat}(hw:w<bH d.nodes)
  (hsz:∀ k,k<r.length->(aq d r).cs k*(aq d r).cd k<2 ^ 40) (hcs:∀ k,k<r.length->(aq d r).cs k<2 ^ 40)
  (hbd:∀ (k b:Nat),k+1=r.length->∀ n,n<=bH d.nodes->-4000000000000000000<=(bD (aq d r) k n).getD b 0/\(bD (aq d r) k n).getD b 0<=4000000000000000000) (hbt:∀ n,n<=bH d.nodes->-4000000000000000000<=SS n (aq d r).gain/\SS n (aq d r).gain<=4000000000000000000)
  (hbg:-4000000000000000000<=cW d (wv d w)/\cW d (wv d w)<=4000000000000000000)
  (N:Nat) (H:AHeap) (hS:SolvH d r lo s lvh I (iC (aq d r) be ch w) (eD d r w) H) (hN:N<H.next) (hNs:N≠s/\∀ k j,k<r.length->j<6->N≠I k j) (hNg:H.get N=some (.arr 0 3 (ints (wv d w)))) (n:Nat) (hn:n=d.nodes.length)
  (K:ARes->AHeap->Prop) (hK:∀ H',H'.next=H.next->jK r s I H H'->SolvH d r lo s lvh I (iC (aq d r) be ch (w+1)) (eD d r (w+1)) H'->K (.ret (.tup [])) H'):
  ae Tryz.prog G0 105 [.ptr s 0 0,aa w,.own N 0 0 n 1] H K:=by
 subst hn;obtain⟨D,hD⟩:∃ D,D=aq d r:=⟨_,rfl⟩
 obtain⟨vals,hvals⟩:∃ vals,vals=wv d w:=⟨_,rfl⟩
 rw[<- hvals]at hNg hbg;have hfit:bV (ak d.nodes) vals:=by rw[hvals];exact jh hok w
 have hvl:vals.length=d.nodes.length:=by rw[hfit.1,dc]
 have n8:=hok.n.n1.2;have hDo:=qF hok hr.mem;rw[<- hD]at hsz hcs hbd hbt hS hK hDo;have hlb:=hS.levs.len.be;have hlc:=hS.levs.len.ch;rw[<- hD]at hlb hlc;have hpl:=jG I r.length;have lso:=ag hS.top;have hll:iJ H lvh=some (aa r.length):=by
  rcases hS.lv with ⟨h1,h2⟩|⟨id,g,_,_,h1,h2⟩
  ·have:r.length=0:=(by rw[<- hpl,h2];rfl);rw[h1,this];rfl
  ·rw[h1];unfold iJ;simp [ag h2,hpl,aa]
 refine ae.d4 (n:=120) (rs:=[]) Tryz.func105 rfl rfl rfl (by decide) (by simp) ?_;refine W.seq (af _ _ _ (by rfl) ?_);simp only[go_sem];refine W.seq (af _ _ _ (by rfl) ?_);simp only[go_sem,lso,hll];refine W.env fun E hE=>?_;have e0:E 0=.ptr s 0 0:=by rw[hE];simp only[go_sem]
 have e1:E 1=aa w:=by rw[hE];simp only[go_sem]
 have e2:E 2=.own N 0 0 d.nodes.length 1:=by rw[hE];simp only[go_sem]
 have e6:E 6=aa 0:=by rw[hE];simp only[go_sem]
 have e13:E 13=lvh:=by rw[hE];simp only[go_sem]
 have e14:E 14=aa r.length:=by rw[hE];simp only[go_sem]
 have e15:E 15=aa 0:=by rw[hE];simp only[go_sem]
 clear hE;refine W.aK 1267650600228229401496703173568 (by rfl) (fun ρ Hx=>∃ k:Nat,ρ 15=aa k/\k<=r.length/\ρ 6=aa (jk D k w)/\Hx.next=H.next/\jK r s I H Hx/\SolvH d r lo s lvh I (jq D be ch w k k k) (eD d r w) Hx) (fun ρ Hx=>r.length - (iv (ρ 15)).toNat) ?_ ?_
 ·simp only[go_sem,e15,e6];exact⟨0,rfl,by omega,rfl,fun _ _ _=>rfl,hS⟩
 rintro ρ Hx ⟨k,h15,hk,h6,nx,hout,hSx⟩;refine W.env fun E1 hE1=>?_;have f0:E1 0=.ptr s 0 0:=by rw[hE1];simp only[go_sem,e0]
 have f1:E1 1=aa w:=by rw[hE1];simp only[go_sem,e1]
 have f2:E1 2=.own N 0 0 d.nodes.length 1:=by rw[hE1];simp only[go_sem,e2]
 have f6:E1 6=aa (jk D k w):=by rw[hE1];simp only[go_sem,h6]
 have f13:E1 13=lvh:=by rw[hE1];simp only[go_sem,e13]
 have f14:E1 14=aa r.length:=by rw[hE1];simp only[go_sem,e14]
 have f15:E1 15=aa k:=by rw[hE1];simp only[go_sem,h15]
 clear hE1;by_cases hb:(k:Int)<r.length;rotate_left
 ·refine af _ _ _ (by rfl) ?_;simp only[go_sem,f14,f15,hb];have hkr:k=r.length:=by omega
  rw[hkr]at hSx;have hS2:SolvH d r lo s lvh I (iC D be ch (w+1)) (eD d r w) Hx:=hSx.same (QJ w r.length) (by rw[<- hD];exact DI hlb hlc _);have ls2:=ag hS2.top;have hll2:iJ Hx lvh=some (aa r.length):=by
   rcases hS2.lv with ⟨h1,h2⟩|⟨id,g,_,_,h1,h2⟩
   ·have:r.length=0:=(by rw[<- hpl,h2];rfl);rw[h1,this];rfl
   ·rw[h1];unfold iJ;simp [ag h2,hpl,aa]
  have ggl:(de d)[w]?=some (cW d (wv d w)):=vK hw;have gg:(ints (de d))[w]?=some (aa (cW d (wv d w))):=by rw[d9,ggl];rfl
  have ggn:=aL gg;have ggi:(w:Int)<(de d).length:=by have:=get_lt ggl;omega
  by_cases hr0:(r.length:Int)=0
  ·have hr00:r.length=0:=(by omega);refine W.seq (af _ _ _ (by rfl) ?_);simp only[go_sem,f0,ls2,hll2,hr0];refine W.cond (t:=true) rfl ?_;have et:eD d r (w+1)=eD d r w+cW d (wv d w):=by
    unfold eD;rw[if_pos hr00,if_pos hr00,eZ];rfl
   have hbt':=hbt (w+1) (by omega);have et2:eD d r (w+1)=SS (w+1) D.gain:=(by unfold eD;rw[if_pos hr00,hD]);rw[<- et2,et]at hbt';have w6:=IntWalk.i64_in (eD d r w+cW d (wv d w)) (by omega);refine W.draw 11 [0,1,3,7,0,16,48,112,0,496,1008] Tryz.mixed (by kernel_rfl) (by kernel_rfl) ?_;simp only[go_sem,f0,f1,ls2,gg,ggn,ggi,w6];refine ar.mk (by rw[aG];omega) (hK _ (by rw[aG];exact nx) (fun i h1 h2=>by rw[aj,if_neg h1];exact hout i h1 h2) ?_);rw[et];exact hS2.Dm
  ·have hr00:¬ r.length=0:=(by omega);refine W.seq (af _ _ _ (by rfl) ?_);simp only[go_sem,f0,ls2,hll2,hr0];refine W.cond (t:=false) rfl ?_;have et:eD d r (w+1)=eD d r w:=(by unfold eD;rw[if_neg hr00,if_neg hr00]);refine af _ _ _ (by rfl) ?_;simp only[go_sem];refine ar.mk (by omega) (hK Hx nx hout ?_);rw[et];exact hS2
 have hk2:k<r.length:=by omega
 refine W.seq (af _ _ _ (by rfl) ?_);simp only[go_sem,f14,f15,hb];refine W.seq (af _ _ _ (by rfl) ?_);simp only[go_sem];refine W.seq (W.block ?_);obtain⟨il,gl,hlv,glv,_,_⟩:=hSx.vu hk2;have llv:=ag glv;have hpk:=sV (I:=I) hk2;have hpn:=aL hpk;refine W.seq (af _ _ _ (by rfl) ?_);simp only[go_sem,f13,f15,hlv,llv,hpk,hb];obtain⟨v,hv⟩:=get_of_lt hk2;have hvd:r.getD k 0=v:=fL hv;have hm:=hr.mem v (List.mem_of_getElem? hv);obtain⟨x,hx⟩:=get_of_lt (dV.1 hm).1;obtain⟨hrn,hxp,hin,ps⟩:=qW hok hx;obtain⟨r1,r2⟩:=mw hok hx hfit;have hxc:=hok.n.card x (List.mem_of_getElem? hx);obtain⟨e1',e2'⟩:=iP hx (by omega);have ecs:D.cs k=bF d.nodes x:=by rw[hD];show cr d (r.getD k 0)=_;rw[hvd];exact e1'
 have ecd:(D.cd k:Int)=x.card:=by rw[hD];show (cP d (r.getD k 0):Int)=_;rw[hvd];exact e2'
 obtain⟨c,hc⟩:∃ c,c=D.cas k w:=⟨_,rfl⟩
 have hcr:c=cR d.nodes v vals:=by rw[hc,hD,hvals];show cR d.nodes (r.getD k 0) (wv d w)=_;rw[hvd]
 obtain⟨y,hy⟩:∃ y,y=D.cho k w:=⟨_,rfl⟩
 have hcl:c<D.cs k:=by rw[hc];exact hDo.cas k w (by rw[hD];exact hk2) (by rw[hD];exact hw)
 have hyl:y<D.cd k:=by rw[hy];exact hDo.cho k w (by rw[hD];exact hk2) (by rw[hD];exact hw)
 obtain⟨yv,hyv⟩:=get_of_lt (l:=vals) (i:=v) (by rw[hvl];exact(dV.1 hm).1);have hyf:=hfit.2 v _ yv (cU hx) hyv;have hyy:yv=(y:Int):=by
  have:y=(vals.getD v 0).toNat:=by rw[hy,hD,hvals];show ((wv d w).getD (r.getD k 0) 0).toNat=_;rw[hvd]
  rw[gM hyv]at this;omega
 have hgN:Hx.get N=some (.arr 0 3 (ints vals)):=(hout N hNs.1 hNs.2).trans hNg;have hpc:bX Tryz.prog G0 (.clo 69 [] []) [.vec d.nodes.length (aB d.nodes),.lit (.int .i64 v),.own N 0 0 d.nodes.length 1] Hx (.lit (.int .i64 (c:Int))) [N]:=by
  have:=sR d.nodes v x vals hx hin ps hfit Hx N d.nodes.length (by omega) hgN hvl.symm;rw[hcr,r1];exact this
 have lx:=ag hSx.top;have l0:=ag (hSx.levs.lev k hk2);rw[<- hD]at l0;simp only[fY,hvd]at l0;refine W.seq ?_;refine W.draw 10 [0,1,3,7,15,0,32,96,224,0] Tryz.mixed (by kernel_rfl) (by kernel_rfl) ?_;simp only[go_sem,f0,f2,lx,l0];refine ay.mono (hpc.2 Hx (fun _ _=>rfl) (Nat.le_refl _)) fun rr H3 hrr=>?_;obtain⟨rfl,rfl⟩:=hrr;refine⟨trivial,?_⟩;simp only[go_sem]
  -- above
 have hle1:=(nX D k w)
 have gab:=hSx.levs.tab k 1 hk2 (by omega) (by omega);have lab:=ag gab;have tab1:(jq D be ch w k k k).ab k=cJ D k w:=by show cJ D k (eP w k k)=_;rw[vB (Nat.le_refl _)]
 simp only[dk,tab1]at lab;have lla:(ints (cJ D k w)).length=D.cs k:=by rw[aR];exact hle1
 have hci:(c:Int)<D.cs k:=by omega
 have e1s:setAt (ints (cJ D k w)) c [.lit (.int .i64 (jk D k w:Nat))]=ints (cJ D k (w+1)):=by
  rw[fV (by omega)];show _=ints ((cJ D k w).set (D.cas k w) (jk D k w));rw[hc]
 refine W.env fun E2 hE2=>?_;have m0:E2 0=.ptr s 0 0:=by rw[hE2];simp only[go_sem,f0]
 have m1:E2 1=aa w:=by rw[hE2];simp only[go_sem,f1]
 have m2:E2 2=.own N 0 0 d.nodes.length 1:=by rw[hE2];simp only[go_sem,f2]
 have m6:E2 6=aa (jk D k w):=by rw[hE2];simp only[go_sem,f6]
 have m7:E2 7=aa k:=by rw[hE2];simp only[go_sem]
 have m8:E2 8=.ptr (I k 0) 0 0:=by rw[hE2];simp only[go_sem]
 have m9:E2 9=aa c:=by rw[hE2];simp only[go_sem]
 have m15:E2 15=aa k:=by rw[hE2];simp only[go_sem,f15]
 clear hE2;refine W.seq (af _ _ _ (by rfl) ?_);simp only[go_sem,m8,m9,m6,l0,lab,lla,hci,e1s];refine⟨by omega,?_⟩;obtain⟨H4,hH4⟩:∃ H4,H4=H3.upd (I k 1) (.arr 0 3 (ints (cJ D k (w+1)))):=⟨_,rfl⟩
 rw[<- hH4];have hS4:SolvH d r lo s lvh I (jq D be ch w (k+1) k k) (eD d r w) H4:=by
  have hb:dk (jq D be ch w (k+1) k k) k 1=.arr 0 3 (ints (cJ D k (w+1))):=by show Blk.arr 0 _ (ints (cJ D k (eP w (k+1) k)))=_;rw[ta (Nat.lt_succ_self k)]
  rw[hH4,<- hb];refine hSx.upd hk2 (by omega) (by omega) (fun k' j' h1 h2 h3 h4=>?_) (by rw[<- hD];exact vE hlb hlc _ _ _ _)
  match j',h2,h3 with
  | 1,_,_ =>
   show Blk.arr 0 _ (ints (cJ D k' (eP w (k+1) k')))=Blk.arr 0 _ (ints (cJ D k' (eP w k k')));rw[vC fun e=>h4 ⟨e,rfl⟩]
  | 2,_,_=>rfl
  | 3,_,_=>rfl
  | 4,_,_=>rfl
  | 5,_,_=>rfl
 have n4:H4.next=H.next:=by rw[hH4,aG];exact nx
 have o4:jK r s I H H4:=fun i h1 h2=>by rw[hH4,aj,if_neg (h2 k 1 hk2 (by omega))];exact hout i h1 h2
 clear hH4 lab lx l0
  -- occurs
 have lx:=ag hS4.top;have l0:=ag (hS4.levs.lev k hk2);rw[<- hD]at l0;have loc:=ag (hS4.levs.tab k 2 hk2 (by omega) (by omega));have toc:(jq D be ch w (k+1) k k).oc k=dR D k w:=by show dR D k (eP w k k)=_;rw[vB (Nat.le_refl _)]
 simp only[fY,hvd]at l0;simp only[dk,toc]at loc;have llo:(cL (dR D k w)).length=D.cs k:=by rw[qS];exact pg D k w
 obtain⟨o,ho⟩:=get_of_lt (l:=dR D k w) (i:=c) (by rw[pg];omega);have go:(cL (dR D k w))[c]?=some (.lit (.bool o)):=by rw[vr,ho];rfl
 have gon:=aL go;have gwl:(dm d)[w]?=some (dq d (wv d w)):=by unfold dm;rw[List.getElem?_map,List.getElem?_range hw];rfl
 have gw:(ints (dm d))[w]?=some (aa (dq d (wv d w))):=by rw[d9,gwl];rfl
 have gwn:=aL gw;have gwi:(w:Int)<(dm d).length:=by have:=get_lt gwl;omega
 have hwt:D.wt w=dq d (wv d w):=by rw[hD];rfl
 have eos:∀ b:Bool,b=(o || decide (0<dq d (wv d w)))->setAt (cL (dR D k w)) c [.lit (.bool b)]=cL (dR D k (w+1)):=fun b hb2=>by
  rw[Dl (by rw[pg];omega)];show _=cL ((dR D k w).set (D.cas k w) ((dR D k w).getD (D.cas k w) false || decide (0<D.wt w)));rw[<- hc,gM ho,hwt,hb2]
 obtain⟨H5,hH5⟩:∃ H5,H5=H4.upd (I k 2) (.arr 0 4 (cL (dR D k (w+1)))):=⟨_,rfl⟩
 refine W.jR (fun s'=>s'.H=H5/\s'.ρ 0=.ptr s 0 0/\s'.ρ 1=aa w/\s'.ρ 2=.own N 0 0 d.nodes.length 1/\s'.ρ 7=aa k/\s'.ρ 8=.ptr (I k 0) 0 0/\s'.ρ 9=aa c/\s'.ρ 15=aa k) ?_ ?_
 ·refine W.draw 22 [0,1,3,7,0,0,32,96,224,0,992,2016,4064,8160,16352,32736,65504,8160,262112,524256,1048544,2097120] Tryz.mixed (by kernel_rfl) (by kernel_rfl) ?_;cases o with
  | true =>
   have eos':=eos true (by simp);simp only[go_sem,m0,m1,m2,m7,m8,m9,m15,l0,loc,llo,go,hci,eos'];exact⟨by omega,hH5.symm⟩
  | false =>
   by_cases hp:0<dq d (wv d w)
   ·have eos':=eos true (by simp [hp]);simp only[go_sem,m0,m1,m2,m7,m8,m9,m15,lx,l0,loc,llo,go,hci,gw,gwn,gwi,hp,eos'];exact⟨by omega,hH5.symm⟩
   ·have eos':=eos false (by simp [hp]);simp only[go_sem,m0,m1,m2,m7,m8,m9,m15,lx,l0,loc,llo,go,hci,gw,gwn,gwi,hp,eos'];exact⟨by omega,hH5.symm⟩
 rintro⟨ρ6,Hq⟩ ⟨hq,p0,p1,p2,p7,p8,p9,p15⟩;simp only at hq p0 p1 p2 p7 p8 p9 p15;subst hq;have hS5:SolvH d r lo s lvh I (jq D be ch w (k+1) (k+1) k) (eD d r w) Hq:=by
  have hb:dk (jq D be ch w (k+1) (k+1) k) k 2=.arr 0 4 (cL (dR D k (w+1))):=by show Blk.arr 0 _ (cL (dR D k (eP w (k+1) k)))=_;rw[ta (Nat.lt_succ_self k)]
  rw[hH5,<- hb];refine hS4.upd hk2 (by omega) (by omega) (fun k' j' h1 h2 h3 h4=>?_) (by rw[<- hD];exact vE hlb hlc _ _ _ _)
  match j',h2,h3 with
  | 1,_,_=>rfl
  | 2,_,_ =>
   show Blk.arr 0 _ (cL (dR D k' (eP w (k+1) k')))=Blk.arr 0 _ (cL (dR D k' (eP w k k')));rw[vC fun e=>h4 ⟨e,rfl⟩]
  | 3,_,_=>rfl
  | 4,_,_=>rfl
  | 5,_,_=>rfl
 have n5:Hq.next=H.next:=by rw[hH5,aG];exact n4
 have o5:jK r s I H Hq:=fun i h1 h2=>by rw[hH5,aj,if_neg (h2 k 2 hk2 (by omega))];exact o4 i h1 h2
 clear hH5 loc lx l0;have lx:=ag hS5.top;have l0:=ag (hS5.levs.lev k hk2);rw[<- hD]at l0;simp only[fY,hvd]at l0;have lN:=ag ((o5 N hNs.1 hNs.2).trans hNg);have gy:(ints vals)[v]?=some (aa y):=by rw[d9,hyv,hyy];rfl
 have gyn:=aL gy;have lln:(ints vals).length=d.nodes.length:=by rw[aR];exact hvl
 have hvi:(v:Int)<d.nodes.length:=by have:=(dV.1 hm).1;omega
 have hbr:c*D.cd k+y<D.cs k*D.cd k:=by
  have h3:(c+1)*D.cd k<=D.cs k*D.cd k:=Nat.mul_le_mul_right _ hcl;rw[Nat.add_mul,Nat.one_mul]at h3;omega
 have hsz':=hsz k hk2;obtain⟨b,hbe⟩:∃ b:Nat,b=c*D.cd k+y:=⟨_,rfl⟩
 have hbD:D.br k w=b:=by rw[hbe,hc,hy];rfl
 have eb1:(c:Int)*(D.cd k:Int)=((c*D.cd k:Nat):Int):=by simp
 have eb2:((c*D.cd k:Nat):Int)+(y:Int)=(b:Int):=by rw[hbe];omega
 rw[<- hbe]at hbr;have w1:=IntWalk.i64_in ((c*D.cd k:Nat):Int) (by omega);have w2:=IntWalk.i64_in (b:Int) (by omega);refine W.seq ?_;refine W.draw 13 [0,0,2,6,14,31,0,0,128,384,896,1984,4032] Tryz.mixed (by kernel_rfl) (by kernel_rfl) ?_;simp only[go_sem,p2,p8,p9,l0,lN,gy,hvi,eb1,w1,eb2,w2];refine W.env fun E3 hE3=>?_;have s0:E3 0=.ptr s 0 0:=by rw[hE3];simp only[go_sem,p0]
 have s1:E3 1=aa w:=by rw[hE3];simp only[go_sem,p1]
 have s6:E3 6=aa b:=by rw[hE3];simp only[go_sem]
 have s7:E3 7=aa k:=by rw[hE3];simp only[go_sem,p7]
 have s8:E3 8=.ptr (I k 0) 0 0:=by rw[hE3];simp only[go_sem,p8]
 have s15:E3 15=aa k:=by rw[hE3];simp only[go_sem,p15]
 clear hE3;have hll5:iJ Hq lvh=some (aa r.length):=by
  rcases hS5.lv with ⟨h1,h2⟩|⟨id,g,_,_,h1,h2⟩
  ·have:r.length=0:=(by rw[<- hpl,h2];rfl);rw[h1,this];rfl
  ·rw[h1];unfold iJ;simp [ag h2,hpl,aa]
 have wl:=IntWalk.i64_in ((r.length:Int) - 1) (by omega);have wk:=IntWalk.i64_in ((k:Int)+1) (by omega);have hbrI:jk D (k+1) w=b:=by unfold jk;rw[if_neg (by omega),Nat.add_sub_cancel];exact hbD
 by_cases hlast:(k:Int)=(r.length:Int) - 1
 ·have hKl:k+1=D.K:=by rw[hD];show k+1=r.length;omega
  have hdec:(decide ((k:Int)=(r.length:Int) - 1))=true:=decide_eq_true hlast;refine W.seq (af _ _ _ (by rfl) ?_);simp only[go_sem,s0,s7,lx,hll5,wl,hdec];refine W.cond (t:=true) rfl ?_;have lex:=ag (hS5.levs.tab k 3 hk2 (by omega) (by omega));have tex:(jq D be ch w (k+1) (k+1) k).ex k=bD D k w:=by show bD D k (eP w k k)=_;rw[vB (Nat.le_refl _)]
  simp only[dk,tex]at lex;have lle:(ints (bD D k w)).length=D.cs k*D.cd k:=by rw[aR];exact lP D k w
  obtain⟨ev,hev⟩:=get_of_lt (l:=bD D k w) (i:=b) (by rw[lP];exact hbr);have gev:(ints (bD D k w))[b]?=some (aa ev):=by rw[d9,hev];rfl
  have gevn:=aL gev;have ggl:(de d)[w]?=some (cW d vals):=by rw[hvals];exact vK hw
  have gg:(ints (de d))[w]?=some (aa (cW d vals)):=by rw[d9,ggl];rfl
  have ggn:=aL gg;have ggi:(w:Int)<(de d).length:=by have:=get_lt ggl;omega
  have hbi:(b:Int)<(D.cs k*D.cd k:Nat):=by omega
  have hgw:D.gain w=cW d vals:=by rw[hD,hvals];rfl
  have hKr:k+1=r.length:=by rw[hD]at hKl;exact hKl
  have esucc:bD D k (w+1)=(bD D k w).set b (ev+cW d vals):=by
   show (if k+1=D.K then (bD D k w).set (D.br k w) ((bD D k w).getD (D.br k w) 0+D.gain w) else bD D k w)=_;rw[if_pos hKl,hbD,gM hev,hgw]
  have hbd':=hbd k b hKr w (by omega);rw[gM hev]at hbd';have w6:=IntWalk.i64_in (ev+cW d vals) (by omega);have ees:setAt (ints (bD D k w)) b [.lit (.int .i64 (ev+cW d vals))]=ints (bD D k (w+1)):=by rw[fV (by rw[lP];exact hbr),esucc]
  refine W.draw 14 [0,1,3,7,0,31,63,0,128,384,896,0,3968,8064] Tryz.mixed (by kernel_rfl) (by kernel_rfl) ?_;simp only[go_sem,s0,s1,s6,s8,lx,l0,lex,lle,gev,gg,ggn,ggi,hbi,w6,ees];refine⟨by omega,?_⟩;refine af _ _ _ (by rfl) ?_;simp only[go_sem,s15,s6,wk];rw[<- hlv];obtain⟨H6,hH6⟩:∃ H6,H6=Hq.upd (I k 3) (.arr 0 3 (ints (bD D k (w+1)))):=⟨_,rfl⟩
  rw[<- hH6];have n6:H6.next=H.next:=by rw[hH6,aG];exact n5
  refine⟨by omega,⟨k+1,rfl,by omega,by rw[hbrI],n6,fun i h1 h2=>by rw[hH6,aj,if_neg (h2 k 3 hk2 (by omega))];exact o5 i h1 h2,?_⟩,by rw[h15];simp only[aa,aU];omega⟩;have hb:dk (jq D be ch w (k+1) (k+1) (k+1)) k 3=.arr 0 3 (ints (bD D k (w+1))):=by show Blk.arr 0 _ (ints (bD D k (eP w (k+1) k)))=_;rw[ta (Nat.lt_succ_self k)]
  rw[hH6,<- hb];refine hS5.upd hk2 (by omega) (by omega) (fun k' j' h1 h2 h3 h4=>?_) (by rw[<- hD];exact vE hlb hlc _ _ _ _)
  match j',h2,h3 with
  | 1,_,_=>rfl
  | 2,_,_=>rfl
  | 3,_,_ =>
   show Blk.arr 0 _ (ints (bD D k' (eP w (k+1) k')))=Blk.arr 0 _ (ints (bD D k' (eP w k k')));rw[vC fun e=>h4 ⟨e,rfl⟩]
  | 4,_,_=>rfl
  | 5,_,_=>rfl
 ·have hKl:k+1≠D.K:=by rw[hD];show k+1≠r.length;omega
  refine W.seq (af _ _ _ (by rfl) ?_);simp only[go_sem,s0,s7,lx,hll5,wl,hlast];refine W.cond (t:=false) rfl ?_;refine af _ _ _ (by rfl) ?_;simp only[go_sem];refine af _ _ _ (by rfl) ?_;simp only[go_sem,s15,s6,wk];rw[<- hlv];refine⟨by omega,⟨k+1,rfl,by omega,by rw[hbrI],n5,o5,hS5.same (fun k' j' h1=>?_) (by rw[<- hD];exact vE hlb hlc _ _ _ _)⟩,by rw[h15];simp only[aa,aU];omega⟩;by_cases e:k'=k
  ·subst e;have e0:bD D k' (eP w k' k')=bD D k' (eP w (k'+1) k'):=by
    rw[vB (Nat.le_refl _),ta (Nat.lt_succ_self k')];show _=(if k'+1=D.K then _ else bD D k' w)
    rw[if_neg hKl]
   unfold dk jq;simp only[e0]
  ·unfold dk jq;simp only[vC e]
end Go.Proofs
namespace Go.Hx
variable {P:Program}
theorem OwnM.vQ {lo n0:Nat}{H H':AHeap}{e1 e0:TypeId}{v:AVal}{ids:List Nat}{rows:List (List AVal)}(h:OwnM lo H e1 e0 v ids rows)(hb:∀ i∈ids,i<n0)(ht:∀ i g n,v=.own i g 0 n 1->i<n0)(hn:H.next<=H'.next)(hk:∀ id,id<n0->H'.get id=H.get id):OwnM lo H' e1 e0 v ids rows :=
 ⟨h.len,h.nd,fun i hi=>⟨(h.rng i hi).1,by have:=(h.rng i hi).2;omega⟩,h.top.keep (Nat.le_refl _) hn fun id g _ _ _ hv=>hk id (ht id g _ hv),fun k id r h1 h2=>by
  rw[hk id (hb id (List.mem_of_getElem? h1))];exact h.row k id r h1 h2⟩
theorem OwnM.Rr {lo:Nat}{H:AHeap}{e1 e0:TypeId}{v:AVal}{ids:List Nat}{rows:List (List AVal)}(h:OwnM lo H e1 e0 v ids rows):∀ i g n,v=.own i g 0 n 1->i<H.next:=fun i g n hv=>by
 rcases h.top with ⟨h1,_⟩|⟨j,g2,_,h2,h3,_⟩
 ·rw[h1]at hv;cases hv
 ·rw[h3]at hv;rw[<- (AVal.own.inj hv).1];exact h2
end Go.Hx
namespace Go.Proofs
open Go.Hx
set_option maxHeartbeats 2000000 in
theorem Rs (d:InfP)(hok:InfOk d)(hf:InfFit d)(h6:d.nodes.length<=6)(p:List (List Int))(hp:PolOk d p)(v0:Nat)(hv0:v0∈aE d)(db eb pb rb sb so lo:Nat)(rv:AVal)(ids:List Nat)
  (H:AHeap) (hE:ExH d p v0 db eb pb rb sb so rv H) (hlt:db<H.next/\eb<H.next/\pb<H.next/\rb<H.next/\sb<H.next/\so<H.next) (hni:db ∉ ids/\eb ∉ ids/\pb ∉ ids/\rb ∉ ids/\sb ∉ ids/\so ∉ ids)
  (hM:OwnM lo H 46 3 rv ids ((fB d (fixC p) v0 0).map ints))
  (K:ARes->AHeap->Prop) (hK:∀ H',H.next<=H'.next->(∀ id,id<H.next->id ∉ ids->H'.get id=H.get id)->OwnM lo H' 46 3 rv ids ((fB d (fixC p) v0 (bH d.nodes)).map ints)->K (.ret (.tup [])) H'):
  ae Tryz.prog G0 67 [.ptr so 0 0,.clo 68 [] [.ptr db 0 0,.ptr eb 0 0,.ptr pb 0 0,.ptr rb 0 0,.ptr sb 0 0]] H K:=by
 have n8:=hok.n.n1;have hcards:∀ c∈ak d.nodes,1<=c/\c<=4:=fun c hc=>by
  obtain⟨x,hx,rfl⟩:=List.mem_map.1 hc;exact hok.n.card x hx
 have sm:dS (ak d.nodes):=mL (by rw[dc];omega) hcards;obtain⟨hdl,hel,hpl,hrl,hsl,hsol⟩:=hlt;obtain⟨hdi,hei,hpi,hri,hsi,hsoi⟩:=hni;have hidl:∀ i∈ids,i<H.next:=fun i hi=>(hM.rng i hi).2;have htl:=hM.Rr;have lso:=ag hE.hso;unfold vO at lso;have lsoe:∀ L,(ext H L).live so 0=_:=fun L=>(eT hsol).trans lso;refine ae.aP (n:=19) (rs:=[]) Tryz.func67 rfl rfl rfl (by decide) (by kernel_rfl) (by simp) ?_;simp only[go_sem,lsoe];refine ay.clo (sT d.nodes (by omega) _ _ ⟨trivial,?_⟩);simp only[go_sem];refine ay.clo (sN (ak d.nodes) _ _ ⟨trivial,?_⟩);simp only[go_sem];obtain⟨H2,hH2⟩:∃ H2,H2=ext (ext H [.arr 0 136 (AVal.clo 68 [] [.ptr db 0 0,.ptr eb 0 0,.ptr pb 0 0,.ptr rb 0 0,.ptr sb 0 0]).cells]) [.arr 0 46 [ah (ak d.nodes)]]:=⟨_,rfl⟩
 have n2:H2.next=H.next+2:=by rw[hH2];rfl
 have o2:Over H H2:=by rw[hH2];exact(Over.ext _ _).trans (.ext _ _)
 have g0:H2.get H.next=some (.arr 0 136 [.clo 68 [] [.ptr db 0 0,.ptr eb 0 0,.ptr pb 0 0,.ptr rb 0 0,.ptr sb 0 0]]):=by rw[hH2,dH];exact aZ H _ 0 (by simp)
 have g1:H2.get (H.next+1)=some (.arr 0 46 [ah (ak d.nodes)]):=by rw[hH2,dH];exact aZ H _ 1 (by simp)
 refine W.env fun E hE'=>?_;have e3:E 3=.ptr H.next 0 0:=by rw[hE'];simp only[go_sem]
 have e12:E 12=.clo 143 [] [.ptr (H.next+1) 0 0]:=by rw[hE'];rfl
 clear hE';show W _ _ _ _ _ _ ⟨E,ext (ext H [.arr 0 136 (AVal.clo 68 [] [.ptr db 0 0,.ptr eb 0 0,.ptr pb 0 0,.ptr rb 0 0,.ptr sb 0 0]).cells]) [.arr 0 46 [ah (ak d.nodes)]]⟩;rw[<- hH2];have hit:=sM (ak d.nodes) (fun c hc=>(hcards c hc).1) sm (H.next+1) (H2.next+1) (by omega);have hni2:∀ i,H.next<=i->i ∉ ids:=fun i hi hm=>by have:=hidl i hm;omega
 refine W.tq (f:=143) (first:=[]) (cap:=[.ptr (H.next+1) 0 0]) (by show E 12=_;exact e12) hit
  (fun k Hx=>H2.next<Hx.next/\(∀ id,id<H2.next->id ∉ ids->Hx.get id=H2.get id)/\OwnM lo Hx 46 3 rv ids ((fB d (fixC p) v0 k).map ints))
  (fun _ _=>False)
  (fun k Hx h=>(h.2.1 _ (by omega) (hni2 _ (by omega))).trans g1)
  (fun k H1 H3 h hw=>⟨by have:=hw.1;omega,fun id h1 h2=>(hw.2 _ (by omega) (by have:=h.1;omega)).trans (h.2.1 id h1 h2),h.2.2.vQ hidl htl hw.1 fun id hi=>hw.2 id (by omega) (by have:=h.1;omega)⟩)
  (fun k Hx h=>h.1)
  (fun k H1 b h=>⟨h.1,fun id h1 h2=>by rw[aj,if_neg (by omega)];exact h.2.1 id h1 h2,h.2.2.vQ hidl htl (by rw[aG];exact Nat.le_refl _) fun id hi=>by rw[aj,if_neg (by omega)]⟩)
  (fun _ _ _ h=>h) (fun k H1 b h=>by unfold kQ at h ⊢;rw[aj,if_neg (by omega)];exact h)
  (fun b=>⟨by rw[aY];simp,fun id h1 h2=>bE h1,hM.vQ hidl htl (by rw[aY];omega) fun id hi=>by rw[bE (by omega),o2.old _ hi]⟩) (by decide)
  (fun x hx=>by
   obtain⟨k,hk⟩:=List.mem_iff_getElem?.1 hx;obtain⟨_,rfl⟩:=lS hk;rfl) (fun _ _ _=>trivial) (fun _ _ _=>trivial) (fun k y Hx B Bb hy hj hcs hn hB hBb=>?_) (fun Hx hj hn=>?_) (fun _ hs _=>hs.elim) (fun _ _ hs _=>hs.elim)
 ·obtain⟨hk,rfl⟩:=lS hy;refine af _ _ _ (by rfl) ?_;simp only[go_sem,gX,bh,jr,List.foldl_cons,List.foldl_nil,List.zip_cons_cons,List.zip_nil_right,hB];obtain⟨H3,hH3⟩:∃ H3,H3=Hx.upd H2.next Bb:=⟨_,rfl⟩
  rw[<- hH3];obtain⟨st,pd,n',en,ps',as',bo,hBe⟩:=hBb;have n3:H3.next=Hx.next:=by rw[hH3];rfl
  have o3:∀ id,id≠H2.next->H3.get id=Hx.get id:=fun id h=>by rw[hH3,aj,if_neg h]
  have jB:H3.get H2.next=some Bb:=by rw[hH3,aj,if_pos rfl]
  have k0:=ag ((o3 _ (by omega)).trans ((hj.2.1 H.next (by omega) (hni2 _ (by omega))).trans g0));have kN:H3.get (H2.next+1)=some (.arr 0 3 (ints (bQ (ak d.nodes) k))):=(o3 _ (by omega)).trans hcs;have kold:∀ id,id<H.next->id ∉ ids->H3.get id=H.get id:=fun id h1 h2=>by rw[o3 _ (by omega),hj.2.1 _ (by omega) h2,o2.old _ h1]
  have hE3:ExH d p v0 db eb pb rb sb so rv H3:=hE.keep fun id hi=>by
   rcases hi with rfl|rfl|rfl|rfl|rfl|rfl
   ·exact kold _ hdl hdi
   ·exact kold _ hel hei
   ·exact kold _ hpl hpi
   ·exact kold _ hrl hri
   ·exact kold _ hsl hsi
   ·exact kold _ hsol hsoi
  have hM3:OwnM lo H3 46 3 rv ids ((fB d (fixC p) v0 k).map ints):=hj.2.2.vQ hidl htl (by omega) fun id hi=>o3 id (by omega);refine W.env fun E1 hE1=>?_;have m3:E1 3=.ptr H.next 0 0:=by rw[hE1];simp only[go_sem,bh,e3]
  have m4:E1 4=aa k:=by rw[hE1];simp only[go_sem,bh]
  have m5:E1 5=.own (H2.next+1) 0 0 d.nodes.length 1:=by rw[hE1];simp only[go_sem,bh,dc]
  clear hE1;refine af _ _ _ (by rfl) ?_;simp only[go_sem,m3,m4,m5,k0];refine ay.clo (Rq d hok hf h6 p hp v0 hv0 k hk db eb pb rb sb so (H2.next+1) d.nodes.length lo rv ids H3 hE3 hM3 kN (by omega) rfl _ fun H4 h4n h4o h4M=>⟨⟨_,_,_,_,_,_,_,by rw[h4o _ (hni2 _ (by omega)),jB,hBe]⟩,?_⟩);simp only[go_sem,eE];refine⟨by rw[h4o _ (hni2 _ (by omega))];exact jB,by omega,⟨by omega,fun id h1 h2=>by rw[h4o _ h2,o3 _ (by omega)];exact hj.2.1 id h1 h2,h4M⟩,?_⟩;unfold kQ;rw[h4o _ (hni2 _ (by omega))];exact kN
 ·simp only[go_sem];have hl:(lQ (ak d.nodes) (H2.next+1)).length=bH d.nodes:=qO ..;rw[hl]at hj;exact ar.mk (by omega) (hK Hx (by omega) (fun id h1 h2=>(hj.2.1 id (by omega) h2).trans (o2.old _ h1)) hj.2.2)
def DJ (r:List Nat)(s:Nat)(lvh:AVal)(I:Nat->Nat->Nat)(n0:Nat):Prop:=s<n0/\(∀ k j,k<r.length->j<6->I k j<n0)/\∀ id g n,lvh=.own id g 0 n 1->id<n0
theorem SolvH.tc {d:InfP}{r:List Nat}{lo s:Nat}{lvh:AVal}{I:Nat->Nat->Nat}{T:TabS}{tot:Int}{H:AHeap}(h:SolvH d r lo s lvh I T tot H):DJ r s lvh I H.next :=
 ⟨h.slo.2,fun k j h1 h2=>(h.levs.rng k j h1 h2).2,fun id g n hv=>by
  rcases h.lv with ⟨h1,_⟩|⟨id',g',_,h2,h3,_⟩
  ·rw[h1]at hv;cases hv
  ·rw[h3]at hv;rw[<- (AVal.own.inj hv).1];exact h2⟩
theorem SolvH.iW {d:InfP}{r:List Nat}{lo s n0:Nat}{lvh:AVal}{I:Nat->Nat->Nat}{T:TabS}{tot:Int}{H H':AHeap}(h:SolvH d r lo s lvh I T tot H)(hb:DJ r s lvh I n0)(hn:H.next<=H'.next)(hk:∀ i,i<n0->H'.get i=H.get i):SolvH d r lo s lvh I T tot H' :=
 ⟨by rw[hk s hb.1];exact h.top,by have:=h.slo;omega,h.lv.keep (Nat.le_refl _) hn fun i g _ _ _ hv=>hk i (hb.2.2 _ _ _ hv),h.sep,h.sepl,h.levs.keep hn fun k j h1 h2=>hk _ (hb.2.1 k j h1 h2)⟩
theorem SolvH.len {d:InfP}{r:List Nat}{lo s:Nat}{lvh:AVal}{I:Nat->Nat->Nat}{T:TabS}{tot:Int}{H:AHeap}(h:SolvH d r lo s lvh I T tot H):iJ H lvh=some (aa r.length):=by
 have hpl:=jG I r.length;rcases h.lv with ⟨h1,h2⟩|⟨id,g,_,_,h1,h2⟩
 ·have:r.length=0:=by rw[<- hpl,h2];rfl
  rw[h1,this];rfl
 ·rw[h1];unfold iJ;simp [ag h2,hpl,aa]
def oh (n:Nat):List (List AVal):=(List.range n).map fun (i:Nat)=>[aa ((n:Int) - 1 - (i:Int))]
theorem vF (n:Nat):(oh n).length=n:=by simp [oh]
theorem DK {n i:Nat}(h:i<n):(oh n)[i]?=some [aa ((n:Int) - 1 - i)]:=by unfold oh;rw[List.getElem?_map,List.getElem?_range h];rfl
theorem DL {n i:Nat}{y:List AVal}(h:(oh n)[i]?=some y):i<n/\y=[aa ((n:Int) - 1 - i)]:=by
 have hl:=get_lt h;rw[vF]at hl;rw[DK hl]at h;exact⟨hl,(Option.some.inj h).symm⟩
theorem DM {n:Nat}:∀ x∈oh n,x.length=1:=fun x hx=>by
 unfold oh at hx;obtain⟨i,_,rfl⟩:=List.mem_map.1 hx;rfl
def QL (d:InfP)(s bx n:Nat)(H:AHeap):Prop:=H.get bx=some (.arr 0 110 [.ptr s 0 0])/\∃ lvh tot,H.get s=some (.arr 0 130 [.lit (.int .i64 d.grain),.vec d.nodes.length (aB d.nodes),.lit (.int .u64 (d.decs:Int)),.vec d.utils.length (aS d.utils),lvh,ah (dm d),ah (de d),.lit (.int .i64 tot)])/\iJ H lvh=some (aa n)
theorem DN (d:InfP)(s bx n:Nat)(hn:n<=64):vU Tryz.prog G0 137 [] [.ptr bx 0 0] (oh n) (QL d s bx n):=by
 intro idy J Stop H K hS hJ0 hY hK hSt;obtain⟨h1,lvh,tot,h2,h3⟩:=hS 0 H hJ0;have l1:=ag h1;have l2:=ag h2;have w0:=IntWalk.i64_in ((n:Int) - 1) (by omega);show ae _ _ _ ([.yld idy]++[.ptr bx 0 0]) _ _;refine ae.aP (n:=18) (rs:=[]) Tryz.func137 rfl rfl rfl (by decide) (by kernel_rfl) (by simp) ?_;simp only[go_sem,l1,l2,h3,w0];refine W.aK 261128 (by rfl) (fun ρ H'=>∃ i:Nat,ρ 3=aa ((n:Int) - 1 - i)/\i<=n/\J i H'/\H.next<=H'.next) (fun ρ H=>(iv (ρ 3)+1).toNat) ?_ ?_
 ·simp only[go_sem];exact⟨0,by simp,by omega,hJ0⟩
 rintro ρ H' ⟨i,h3,hi,hj,hnx⟩;refine af _ _ _ (by rfl) ?_;by_cases hb:(0:Int)<=(n:Int) - 1 - i
 ·have hin:i<n:=by omega
  have w1:=IntWalk.i64_in ((n:Int) - 1 - i - 1) (by omega);simp only[go_sem,h3,hb];refine hY _ _ H' _ (DK hin) hj hnx (fun H2 hj2 hn2=>⟨trivial,?_⟩) (fun H2 hs2 hn2=>⟨trivial,?_⟩)
  ·simp only[go_sem,h3,w1];exact⟨by omega,⟨i+1,by congr 2;omega,by omega,hj2,by omega⟩,by omega⟩
  ·simp only[go_sem];exact ar.mk (by omega) (hSt H2 hs2 (by omega))
 ·simp only[go_sem,h3,hb];have ei:i=n:=by omega
  exact ar.mk (by omega) (hK H' (by rw[vF,<- ei];exact hj) hnx)
theorem DO (s:Nat)(H:AHeap)(K:ARes->AHeap->Prop)(hK:K (.ret (.clo 137 [] [.ptr H.next 0 0])) (ext H [.arr 0 110 [.ptr s 0 0]])):
  ae Tryz.prog G0 106 [.ptr s 0 0] H K:=by
 refine ae.aP (n:=4) (rs:=[.tmp 2]) Tryz.func106 rfl rfl rfl (by decide) (by kernel_rfl) (by simp) ?_;simp only[go_sem];exact ar.mk (by simp [aY]) hK
set_option maxHeartbeats 2000000 in
theorem QM {d:InfP}(hok:InfOk d){r:List Nat}(hr:OrdR d r)(hrl:r.length<=64){lo s:Nat}{lvh:AVal}{I:Nat->Nat->Nat}{be ch:Nat->List Int}
  (hsz:∀ k,k<r.length->(aq d r).cs k*(aq d r).cd k<2 ^ 40) (hcs:∀ k,k<r.length->(aq d r).cs k<2 ^ 40)
  (hbd:∀ (k b:Nat),k+1=r.length->∀ n,n<=bH d.nodes->-4000000000000000000<=(bD (aq d r) k n).getD b 0/\(bD (aq d r) k n).getD b 0<=4000000000000000000) (hbt:∀ n,n<=bH d.nodes->-4000000000000000000<=SS n (aq d r).gain/\SS n (aq d r).gain<=4000000000000000000)
  (hbg:∀ w,w<bH d.nodes->-4000000000000000000<=cW d (wv d w)/\cW d (wv d w)<=4000000000000000000)
  (H:AHeap) (hS:SolvH d r lo s lvh I (iC (aq d r) be ch 0) (eD d r 0) H)
  (K:ARes->AHeap->Prop) (hK:∀ H',H.next<=H'.next->(∀ i,i<H.next->i≠s->(∀ k j,k<r.length->j<6->i≠I k j)->H'.get i=H.get i)->SolvH d r lo s lvh I (iC (aq d r) be ch (bH d.nodes)) (eD d r (bH d.nodes)) H'->K (.ret (.tup [])) H'):
  ae Tryz.prog G0 67 [.ptr s 0 0,.clo 105 [.ptr s 0 0] []] H K:=by
 have n8:=hok.n.n1;have hcards:∀ c∈ak d.nodes,1<=c/\c<=4:=fun c hc=>by
  obtain⟨x,hx,rfl⟩:=List.mem_map.1 hc;exact hok.n.card x hx
 have sm:dS (ak d.nodes):=mL (by rw[dc];omega) hcards;have hB0:=hS.tc;have hsol:=hS.slo.2;have lso:=ag hS.top;have lsoe:∀ L,(ext H L).live s 0=_:=fun L=>(eT hsol).trans lso;refine ae.aP (n:=19) (rs:=[]) Tryz.func67 rfl rfl rfl (by decide) (by kernel_rfl) (by simp) ?_;simp only[go_sem,lsoe];refine ay.clo (sT d.nodes (by omega) _ _ ⟨trivial,?_⟩);simp only[go_sem];refine ay.clo (sN (ak d.nodes) _ _ ⟨trivial,?_⟩);simp only[go_sem];obtain⟨H2,hH2⟩:∃ H2,H2=ext (ext H [.arr 0 136 (AVal.clo 105 [.ptr s 0 0] []).cells]) [.arr 0 46 [ah (ak d.nodes)]]:=⟨_,rfl⟩
 have n2:H2.next=H.next+2:=by rw[hH2];rfl
 have o2:Over H H2:=by rw[hH2];exact(Over.ext _ _).trans (.ext _ _)
 have g0:H2.get H.next=some (.arr 0 136 [.clo 105 [.ptr s 0 0] []]):=by rw[hH2,dH];exact aZ H _ 0 (by simp)
 have g1:H2.get (H.next+1)=some (.arr 0 46 [ah (ak d.nodes)]):=by rw[hH2,dH];exact aZ H _ 1 (by simp)
 refine W.env fun E hE'=>?_;have e3:E 3=.ptr H.next 0 0:=by rw[hE'];simp only[go_sem]
 have e12:E 12=.clo 143 [] [.ptr (H.next+1) 0 0]:=by rw[hE'];rfl
 clear hE';show W _ _ _ _ _ _ ⟨E,ext (ext H [.arr 0 136 (AVal.clo 105 [.ptr s 0 0] []).cells]) [.arr 0 46 [ah (ak d.nodes)]]⟩;rw[<- hH2];have hit:=sM (ak d.nodes) (fun c hc=>(hcards c hc).1) sm (H.next+1) (H2.next+1) (by omega);have hsn:∀ i,H.next<=i->i≠s/\∀ k j,k<r.length->j<6->i≠I k j:=fun i hi=>⟨by have:=hB0.1;omega,fun k j h1 h2=>by have:=hB0.2.1 k j h1 h2;omega⟩
 refine W.tq (f:=143) (first:=[]) (cap:=[.ptr (H.next+1) 0 0]) (by show E 12=_;exact e12) hit
  (fun k Hx=>H2.next<Hx.next/\(∀ id,id<H2.next->id≠s->(∀ k j,k<r.length->j<6->id≠I k j)->Hx.get id=H2.get id)/\SolvH d r lo s lvh I (iC (aq d r) be ch k) (eD d r k) Hx)
  (fun _ _=>False)
  (fun k Hx h=>(h.2.1 _ (by omega) (hsn _ (by omega)).1 (hsn _ (by omega)).2).trans g1)
  (fun k H1 H3 h hw=>⟨by have:=hw.1;omega,fun id h1 h2 h3=>(hw.2 _ (by omega) (by have:=h.1;omega)).trans (h.2.1 id h1 h2 h3),h.2.2.iW hB0 hw.1 fun id hi=>hw.2 id (by omega) (by have:=h.1;omega)⟩)
  (fun k Hx h=>h.1)
  (fun k H1 b h=>⟨h.1,fun id h1 h2 h3=>by rw[aj,if_neg (by omega)];exact h.2.1 id h1 h2 h3,h.2.2.iW hB0 (by rw[aG];exact Nat.le_refl _) fun id hi=>by rw[aj,if_neg (by omega)]⟩)
  (fun _ _ _ h=>h) (fun k H1 b h=>by unfold kQ at h ⊢;rw[aj,if_neg (by omega)];exact h)
  (fun b=>⟨by rw[aY];simp,fun id h1 h2 h3=>bE h1,hS.iW hB0 (by rw[aY];omega) fun id hi=>by rw[bE (by omega),o2.old _ hi]⟩) (by decide)
  (fun x hx=>by
   obtain⟨k,hk⟩:=List.mem_iff_getElem?.1 hx;obtain⟨_,rfl⟩:=lS hk;rfl) (fun _ _ _=>trivial) (fun _ _ _=>trivial) (fun k y Hx B Bb hy hj hcs' hn hB hBb=>?_) (fun Hx hj hn=>?_) (fun _ hs _=>hs.elim) (fun _ _ hs _=>hs.elim)
 ·obtain⟨hk,rfl⟩:=lS hy;refine af _ _ _ (by rfl) ?_;simp only[go_sem,gX,bh,jr,List.foldl_cons,List.foldl_nil,List.zip_cons_cons,List.zip_nil_right,hB];obtain⟨H3,hH3⟩:∃ H3,H3=Hx.upd H2.next Bb:=⟨_,rfl⟩
  rw[<- hH3];obtain⟨st,pd,n',en,ps',as',bo,hBe⟩:=hBb;have n3:H3.next=Hx.next:=by rw[hH3];rfl
  have o3:∀ id,id≠H2.next->H3.get id=Hx.get id:=fun id h=>by rw[hH3,aj,if_neg h]
  have jB:H3.get H2.next=some Bb:=by rw[hH3,aj,if_pos rfl]
  have k0:=ag ((o3 _ (by omega)).trans ((hj.2.1 H.next (by omega) (hsn _ (by omega)).1 (hsn _ (by omega)).2).trans g0));have kN:H3.get (H2.next+1)=some (.arr 0 3 (ints (bQ (ak d.nodes) k))):=(o3 _ (by omega)).trans hcs';have hS3:SolvH d r lo s lvh I (iC (aq d r) be ch k) (eD d r k) H3:=hj.2.2.iW hB0 (by omega) fun id hi=>o3 id (by omega);refine W.env fun E1 hE1=>?_;have m3:E1 3=.ptr H.next 0 0:=by rw[hE1];simp only[go_sem,bh,e3]
  have m4:E1 4=aa k:=by rw[hE1];simp only[go_sem,bh]
  have m5:E1 5=.own (H2.next+1) 0 0 d.nodes.length 1:=by rw[hE1];simp only[go_sem,bh,dc]
  clear hE1;refine af _ _ _ (by rfl) ?_;simp only[go_sem,m3,m4,m5,k0];refine ay.clo (QK hok hr hrl hk hsz hcs hbd hbt (hbg k hk) (H2.next+1) H3 hS3 (by omega) (hsn _ (by omega)) kN d.nodes.length rfl _ fun H4 h4n h4o h4S=>⟨⟨_,_,_,_,_,_,_,by rw[h4o _ (hsn _ (by omega)).1 (hsn _ (by omega)).2,jB,hBe]⟩,?_⟩);simp only[go_sem,eE];refine⟨by rw[h4o _ (hsn _ (by omega)).1 (hsn _ (by omega)).2];exact jB,by omega,⟨by omega,fun id h1 h2 h3=>by rw[h4o _ h2 h3,o3 _ (by omega)];exact hj.2.1 id h1 h2 h3,h4S⟩,?_⟩;unfold kQ;rw[h4o _ (hsn _ (by omega)).1 (hsn _ (by omega)).2];exact kN
 ·simp only[go_sem];have hl:(lQ (ak d.nodes) (H2.next+1)).length=bH d.nodes:=qO ..;rw[hl]at hj;exact ar.mk (by omega) (hK Hx (by omega) (fun id h1 h2 h3=>(hj.2.1 id (by omega) h2 h3).trans (o2.old _ h1)) hj.2.2)
end Go.Proofs
namespace Go.Hx
variable {P:Program} {t:TypeId} {x y:Operand} {k':IntKind} {a:Int}
theorem zc (h:0<=a/\a<4294967296):bp P .and t x y (.lit (.int .u64 a)) (.lit (.int .u64 4294967295))=some (.lit (.int .u64 a)):=by
 obtain⟨n,rfl⟩:=Int.eq_ofNat_of_zero_le h.1;rw[tp];have e1:(BitVec.ofInt 64 (n:Int)).toNat=n:=by rw[BitVec.ofInt_natCast,BitVec.toNat_ofNat,Nat.mod_eq_of_lt (by omega)]
 have e:(BitVec.ofInt (IntKind.bits .u64) (n:Int) &&& BitVec.ofInt (IntKind.bits .u64) 4294967295).toNat=n:=by
  show (BitVec.ofInt 64 (n:Int) &&& BitVec.ofInt 64 ((4294967295:Nat):Int)).toNat=n;rw[BitVec.toNat_and,e1,show (BitVec.ofInt 64 ((4294967295:Nat):Int)).toNat=2 ^ 32 - 1 by rfl,Nat.and_two_pow_sub_one_eq_mod];omega
 rw[e,IntWalk.u64_in _ (by omega)]
theorem te (h:0<=a/\a<4294967296):bp P .shr t x y (.lit (.int .u64 a)) (.lit (.int k' 32))=some (.lit (.int .u64 0)):=by
 rw[tn (by decide)];have e:a.fdiv (2 ^ (min (32:Int).toNat (IntKind.bits .u64)))=a / 4294967296:=Int.fdiv_eq_ediv_of_nonneg a (by decide);rw[e,Int.ediv_eq_zero_of_lt h.1 h.2]
end Go.Hx
namespace Go.Proofs
open Go.Hx
theorem QN (y:Nat)(hy:y<4294967296)(H:AHeap)(K:ARes->AHeap->Prop)(hK:K (.ret (.tup [.lit (.int .u64 0),.lit (.int .u64 y)])) H):ae Tryz.prog G0 149 [.lit (.int .u64 1),.lit (.int .u64 y)] H K:=by
 have ky:(0:Int)<=(y:Int)/\(y:Int)<4294967296:=by omega
 have k1:(0:Int)<=(1:Int)/\(1:Int)<4294967296:=by omega
 have k0:(0:Int)<=(0:Int)/\(0:Int)<4294967296:=by omega
 have v:=IntWalk.u64_in (y:Int) (by omega);have z1:IntKind.u64.wrap 0=0:=rfl;refine ae.d4 (n:=51) (rs:=[.tmp 4,.tmp 5]) Tryz.func149 rfl rfl rfl (by decide) (by simp) ?_;refine W.seq (af _ _ _ (by rfl) ?_);simp only[go_sem];refine W.env fun E0 hE0=>?_;have a0_0:E0 0=.lit (.int .u64 1):=by rw[hE0];rfl
 have a0_1:E0 1=.lit (.int .u64 y):=by rw[hE0];rfl
 clear hE0;refine W.seq (af _ _ _ (by rfl) ?_);simp only[go_sem,a0_0,zc,k1];refine W.env fun E1 hE1=>?_;have a1_0:E1 0=.lit (.int .u64 1):=by rw[hE1];exact a0_0
 have a1_1:E1 1=.lit (.int .u64 y):=by rw[hE1];exact a0_1
 have a1_6:E1 6=.lit (.int .u64 1):=by rw[hE1];rfl
 clear hE1;refine W.seq (af _ _ _ (by rfl) ?_);simp only[go_sem,a1_0,te,k1];refine W.env fun E2 hE2=>?_;have a2_0:E2 0=.lit (.int .u64 1):=by rw[hE2];exact a1_0
 have a2_1:E2 1=.lit (.int .u64 y):=by rw[hE2];exact a1_1
 have a2_6:E2 6=.lit (.int .u64 1):=by rw[hE2];exact a1_6
 have a2_7:E2 7=.lit (.int .u64 0):=by rw[hE2];rfl
 clear hE2;refine W.seq (af _ _ _ (by rfl) ?_);simp only[go_sem,a2_1,zc,ky];refine W.env fun E3 hE3=>?_;have a3_0:E3 0=.lit (.int .u64 1):=by rw[hE3];exact a2_0
 have a3_1:E3 1=.lit (.int .u64 y):=by rw[hE3];exact a2_1
 have a3_6:E3 6=.lit (.int .u64 1):=by rw[hE3];exact a2_6
 have a3_7:E3 7=.lit (.int .u64 0):=by rw[hE3];exact a2_7
 have a3_8:E3 8=.lit (.int .u64 y):=by rw[hE3];rfl
 clear hE3;refine W.seq (af _ _ _ (by rfl) ?_);simp only[go_sem,a3_1,te,ky];refine W.env fun E4 hE4=>?_;have a4_0:E4 0=.lit (.int .u64 1):=by rw[hE4];exact a3_0
 have a4_1:E4 1=.lit (.int .u64 y):=by rw[hE4];exact a3_1
 have a4_6:E4 6=.lit (.int .u64 1):=by rw[hE4];exact a3_6
 have a4_7:E4 7=.lit (.int .u64 0):=by rw[hE4];exact a3_7
 have a4_8:E4 8=.lit (.int .u64 y):=by rw[hE4];exact a3_8
 have a4_9:E4 9=.lit (.int .u64 0):=by rw[hE4];rfl
 clear hE4;refine W.seq (af _ _ _ (by rfl) ?_);simp only[go_sem,a4_6,a4_8,v,Int.one_mul];refine W.env fun E5 hE5=>?_;have a5_0:E5 0=.lit (.int .u64 1):=by rw[hE5];exact a4_0
 have a5_1:E5 1=.lit (.int .u64 y):=by rw[hE5];exact a4_1
 have a5_6:E5 6=.lit (.int .u64 1):=by rw[hE5];exact a4_6
 have a5_7:E5 7=.lit (.int .u64 0):=by rw[hE5];exact a4_7
 have a5_8:E5 8=.lit (.int .u64 y):=by rw[hE5];exact a4_8
 have a5_9:E5 9=.lit (.int .u64 0):=by rw[hE5];exact a4_9
 have a5_10:E5 10=.lit (.int .u64 y):=by rw[hE5];rfl
 clear hE5;refine W.seq (af _ _ _ (by rfl) ?_);simp only[go_sem,a5_7,a5_8,a5_10,te,ky,z1,Int.zero_mul,Int.add_zero];refine W.env fun E6 hE6=>?_;have a6_0:E6 0=.lit (.int .u64 1):=by rw[hE6];exact a5_0
 have a6_1:E6 1=.lit (.int .u64 y):=by rw[hE6];exact a5_1
 have a6_6:E6 6=.lit (.int .u64 1):=by rw[hE6];exact a5_6
 have a6_7:E6 7=.lit (.int .u64 0):=by rw[hE6];exact a5_7
 have a6_8:E6 8=.lit (.int .u64 y):=by rw[hE6];exact a5_8
 have a6_9:E6 9=.lit (.int .u64 0):=by rw[hE6];exact a5_9
 have a6_10:E6 10=.lit (.int .u64 y):=by rw[hE6];exact a5_10
 have a6_11:E6 11=.lit (.int .u64 0):=by rw[hE6];rfl
 clear hE6;refine W.seq (af _ _ _ (by rfl) ?_);simp only[go_sem,a6_11,zc,k0];refine W.env fun E7 hE7=>?_;have a7_0:E7 0=.lit (.int .u64 1):=by rw[hE7];exact a6_0
 have a7_1:E7 1=.lit (.int .u64 y):=by rw[hE7];exact a6_1
 have a7_6:E7 6=.lit (.int .u64 1):=by rw[hE7];exact a6_6
 have a7_7:E7 7=.lit (.int .u64 0):=by rw[hE7];exact a6_7
 have a7_8:E7 8=.lit (.int .u64 y):=by rw[hE7];exact a6_8
 have a7_9:E7 9=.lit (.int .u64 0):=by rw[hE7];exact a6_9
 have a7_10:E7 10=.lit (.int .u64 y):=by rw[hE7];exact a6_10
 have a7_11:E7 11=.lit (.int .u64 0):=by rw[hE7];exact a6_11
 have a7_12:E7 12=.lit (.int .u64 0):=by rw[hE7];rfl
 clear hE7;refine W.seq (af _ _ _ (by rfl) ?_);simp only[go_sem,a7_11,te,k0];refine W.env fun E8 hE8=>?_;have a8_0:E8 0=.lit (.int .u64 1):=by rw[hE8];exact a7_0
 have a8_1:E8 1=.lit (.int .u64 y):=by rw[hE8];exact a7_1
 have a8_6:E8 6=.lit (.int .u64 1):=by rw[hE8];exact a7_6
 have a8_7:E8 7=.lit (.int .u64 0):=by rw[hE8];exact a7_7
 have a8_8:E8 8=.lit (.int .u64 y):=by rw[hE8];exact a7_8
 have a8_9:E8 9=.lit (.int .u64 0):=by rw[hE8];exact a7_9
 have a8_10:E8 10=.lit (.int .u64 y):=by rw[hE8];exact a7_10
 have a8_11:E8 11=.lit (.int .u64 0):=by rw[hE8];exact a7_11
 have a8_12:E8 12=.lit (.int .u64 0):=by rw[hE8];exact a7_12
 have a8_13:E8 13=.lit (.int .u64 0):=by rw[hE8];rfl
 clear hE8;refine W.seq (af _ _ _ (by rfl) ?_);simp only[go_sem,a8_6,a8_9,a8_12,z1,Int.mul_zero,Int.add_zero];refine W.env fun E9 hE9=>?_;have a9_0:E9 0=.lit (.int .u64 1):=by rw[hE9];exact a8_0
 have a9_1:E9 1=.lit (.int .u64 y):=by rw[hE9];exact a8_1
 have a9_6:E9 6=.lit (.int .u64 1):=by rw[hE9];exact a8_6
 have a9_7:E9 7=.lit (.int .u64 0):=by rw[hE9];exact a8_7
 have a9_8:E9 8=.lit (.int .u64 y):=by rw[hE9];exact a8_8
 have a9_9:E9 9=.lit (.int .u64 0):=by rw[hE9];exact a8_9
 have a9_10:E9 10=.lit (.int .u64 y):=by rw[hE9];exact a8_10
 have a9_11:E9 11=.lit (.int .u64 0):=by rw[hE9];exact a8_11
 have a9_12:E9 12=.lit (.int .u64 0):=by rw[hE9];rfl
 have a9_13:E9 13=.lit (.int .u64 0):=by rw[hE9];exact a8_13
 clear hE9;refine W.seq (af _ _ _ (by rfl) ?_);simp only[go_sem,a9_7,a9_9,a9_12,a9_13,te,k0,z1,Int.mul_zero,Int.add_zero];refine W.env fun E10 hE10=>?_;have a10_0:E10 0=.lit (.int .u64 1):=by rw[hE10];exact a9_0
 have a10_1:E10 1=.lit (.int .u64 y):=by rw[hE10];exact a9_1
 have a10_6:E10 6=.lit (.int .u64 1):=by rw[hE10];exact a9_6
 have a10_7:E10 7=.lit (.int .u64 0):=by rw[hE10];exact a9_7
 have a10_8:E10 8=.lit (.int .u64 y):=by rw[hE10];exact a9_8
 have a10_9:E10 9=.lit (.int .u64 0):=by rw[hE10];exact a9_9
 have a10_10:E10 10=.lit (.int .u64 y):=by rw[hE10];exact a9_10
 have a10_11:E10 11=.lit (.int .u64 0):=by rw[hE10];exact a9_11
 have a10_12:E10 12=.lit (.int .u64 0):=by rw[hE10];exact a9_12
 have a10_13:E10 13=.lit (.int .u64 0):=by rw[hE10];exact a9_13
 have a10_4:E10 4=.lit (.int .u64 0):=by rw[hE10];rfl
 clear hE10;refine af _ _ _ (by rfl) ?_;simp only[go_sem,a10_0,a10_1,a10_4,v,Int.one_mul];exact ar.mk (Nat.le_refl _) hK
theorem QO (y:Nat)(hy:y<4294967296)(H:AHeap)(K:ARes->AHeap->Prop)(hK:K (.ret (.tup [.lit (.int .u64 0),.lit (.int .u64 y)])) H):ae Tryz.prog G0 136 [.lit (.int .u64 1),.lit (.int .u64 y)] H K:=by
 have v:=IntWalk.u64_in (y:Int) (by omega);have z1:IntKind.u64.wrap 0=0:=rfl;have z2:IntKind.u64.wrap 1=1:=rfl;refine ae.aP (n:=30) (rs:=[.tmp 4,.tmp 5]) Tryz.func136 rfl rfl rfl (by decide) (by kernel_rfl) (by simp) ?_;simp only[go_sem];refine ay.clo (QN y hy _ _ ⟨trivial,?_⟩);simp only[go_sem];exact ar.mk (Nat.le_refl _) hK
def iD (a:Int)(m n:Nat):List Int:=List.replicate n a++List.replicate (m - n) 0
theorem DP {a:Int}{m n:Nat}(h:n<=m):(iD a m n).length=m:=by unfold iD;simp;omega
theorem QP {a:Int}{m n:Nat}(h:n<=m):setAt (ints (iD a m n)) n (((ints (iD a m n)).take n).take (min n (m - n)))=ints (iD a m (n+min n (m - n))):=by
 unfold iD ints setAt;simp only[List.map_append,List.map_replicate,List.length_append,List.length_replicate,List.length_take];apply List.ext_getElem
 ·simp;omega
 ·intro i h1 h2;simp [List.getElem_append,List.getElem_take];split
  ·rfl
  ·rw[if_neg (by omega)]
set_option maxHeartbeats 2000000 in
theorem QQ (a:Int)(m:Nat)(hm:1<=m/\m<2 ^ 30)(H:AHeap)(K:ARes->AHeap->Prop)(hK:K (.ret (.own H.next 0 0 m 1)) (ext H [.arr 0 3 (ints (List.replicate m a))])):
  ae Tryz.prog G0 104 [ah [a],aa m] H K:=by
 have v:=IntWalk.u64_in (m:Int) (by omega);have z2:IntKind.u64.wrap 1=1:=rfl;have v2:=IntWalk.i64_in (m:Int) (by omega);have h0:¬ (m:Int)<0:=by omega
 have h9:¬ (9223372036854775807:Int)<(m:Int):=by omega
 refine ae.d4 (n:=48) (rs:=[.tmp 4]) Tryz.func104 rfl rfl rfl (by decide) (by simp) ?_;refine W.seq (af _ _ _ (by rfl) ?_);simp only[go_sem];refine W.seq (af _ _ _ (by rfl) ?_);simp only[go_sem,h0];refine W.seq (af _ _ _ (by rfl) ?_);simp only[go_sem,v,z2];refine ay.clo (QO m (by omega) _ _ ⟨trivial,?_⟩);simp only[go_sem];refine W.seq (af _ _ _ (by rfl) ?_);simp only[go_sem,h9];have hm0:(0:Int)<=m:=by omega
 refine W.seq (af _ _ _ (by rfl) ?_);simp only[go_sem,v2,hm0];refine⟨by omega,?_⟩;obtain⟨H1,hH1⟩:∃ H1,H1=ext H [.arr 0 3 (List.replicate m (.lit (.int .i64 0)))]:=⟨_,rfl⟩
 have e0:List.replicate m (AVal.lit (.int .i64 0))=ints (iD a m 0):=by simp [iD,ints,aa]
 have g1:H1.get H.next=some (.arr 0 3 (ints (iD a m 0))):=by rw[hH1,<- e0];exact bL
 have n1:H1.next=H.next+1:=by rw[hH1];rfl
 have ex1:∀ (b:Blk) (i:Nat),i≠H.next->(ext H [b]).get i=H.get i:=fun b i h=>by
  unfold ext;simp only[List.length_singleton];rw[if_neg (by omega)]
 have o1:∀ i,i≠H.next->H1.get i=H.get i:=fun i h=>by rw[hH1];exact ex1 _ i h
 rw[<- hH1];clear hH1;have l1:=ag g1;have ll1:(ints (iD a m 0)).length=m:=by rw[aR,DP (by omega)]
 have ec:List.take 1 (ints [a])++List.drop (List.take 1 (ints [a])).length (ints (iD a m 0))=ints (iD a m 1):=by
  obtain⟨q,hq⟩:∃ q,m=q+1:=⟨m - 1,by omega⟩
  rw[hq];simp [iD,ints,List.replicate_succ]
 have em:min 1 m=1:=Nat.min_eq_left hm.1;refine W.seq (af _ _ _ (by rfl) ?_);simp only[go_sem,l1,ll1,em];refine⟨rfl,?_⟩;refine W.env fun E hE=>?_;have e7:E 7=.own H.next 0 0 m 1:=by rw[hE];simp only[go_sem]
 have e8:E 8=aa 1:=by rw[hE];simp only[go_sem]
 clear hE;refine W.seq (W.block ?_);refine W.aK 140720308486400 (by rfl) (fun ρ Hx=>∃ n:Nat,ρ 8=aa n/\1<=n/\n<=m/\Hx.next=H.next+1/\(∀ i,i≠H.next->Hx.get i=H.get i)/\Hx.get H.next=some (.arr 0 3 (ints (iD a m n)))) (fun ρ Hx=>m - (iv (ρ 8)).toNat) ?_ ?_
 ·simp only[go_sem,e8,ec];exact⟨1,rfl,Nat.le_refl _,hm.1,by rw[aG];exact n1,fun i h=>by rw[aj,if_neg h];exact o1 i h,by rw[aj,if_pos rfl]⟩
 rintro ρ Hx ⟨n,h8,hn1,hn,nx,xo,xg⟩;refine W.env fun E1 hE1=>?_;have f7:E1 7=.own H.next 0 0 m 1:=by rw[hE1];simp only[go_sem,e7]
 have f8:E1 8=aa n:=by rw[hE1];simp only[go_sem,h8]
 clear hE1;have lx:=ag xg;have llx:(ints (iD a m n)).length=m:=by rw[aR,DP hn]
 by_cases hb:(n:Int)<m;rotate_left
 ·refine af _ _ _ (by rfl) ?_;simp only[go_sem,f7,f8,lx,hb];have hnm:n=m:=by omega
  refine af _ _ _ (by rfl) ?_;simp only[go_sem,f7];have hx:Hx=ext H [.arr 0 3 (ints (List.replicate m a))]:=by
   have hg:∀ i,Hx.get i=(ext H [.arr 0 3 (ints (List.replicate m a))]).get i:=fun i=>by
    by_cases h:i=H.next
    ·rw[h,xg,hnm,bL];simp [iD]
    ·rw[xo i h,ex1 _ i h]
   cases Hx;simp only at nx hg;unfold ext;congr 1
   ·funext i
    exact hg i
  rw[hx];exact ar.mk (by rw[aY];exact Nat.le_add_right ..) hK
 have em2:n+min n (m - n)<=m:=by omega
 have w1:=IntWalk.i64_in ((n:Int)+(min n (m - n):Nat)) (by omega);have ecp:=QP (a:=a) hn;refine W.seq (af _ _ _ (by rfl) ?_);simp only[go_sem,f7,f8,lx,hb];refine W.block ?_;refine W.draw 8 [0,0,0,6,0,0,48,126] Tryz.mixed (by kernel_rfl) (by kernel_rfl) ?_;simp only[go_sem,f7,f8,lx,llx,w1,ecp];refine⟨by omega,by omega,⟨by omega,by rw[List.all_eq_true];intro x hx;exact List.all_eq_true.1 (kA _) x (List.mem_of_mem_take hx)⟩,by rw[aG,aG];omega,⟨n+min n (m - n),by simp,by omega,em2,by rw[aG];exact nx,fun i h=>by rw[aj,if_neg h];exact xo i h,by rw[aj,if_pos rfl]⟩,by rw[h8];simp only[aa,aU];omega⟩
end Go.Proofs
namespace Go.Hx
variable {P:Program} {G:Nat->Option (List AVal)} {all:Array Oper} {tail:St->Prop} {b i:Nat} {bs:List Nat} {acc:List (Nat × FP)} {K:FP->St->Prop} {s:St} {d:Option Tmp} {ty:TypeId} {pos:String} {aft:Array Edge} {g:Option (Nat × Bool)}
theorem QR (bs:List Nat):Ev.dU P G all tail bs i acc [] s=tail s:=by cases bs<;>rfl
theorem QS (op:Op)(rest:List Oper):Ev.dU P G all tail (b :: bs) i acc (⟨d,op,ty,pos,aft,none⟩ :: rest) s =
  Ev.bG P G ⟨d,op,ty,pos,aft,none⟩ (fun f s'=>jc b f acc/\Ev.dU P G all tail bs (i+1) (ig i f acc) rest s') s:=by
 simp [Ev.dU,gi,bq]
theorem QT (fv:Operand)(args:Array Operand)(ats:Array TypeId):Ev.bG P G ⟨d,.call ⟨.value fv,args,ats⟩,ty,pos,aft,g⟩ K s =
  ∃ v e k f,Ev.kX P G (aw G s.ρ fv) (args.toList.map (aw G s.ρ)) s.H v e k f/\K f ⟨aO s.ρ d v,⟨Ev.df e s.H.get,s.H.next+k⟩⟩:=rfl
theorem QU (x:Operand):Ev.bG P G ⟨d,.move x,ty,pos,aft,g⟩ K s=bG P G ⟨d,.move x,ty,pos,aft,g⟩ K s:=rfl
theorem QV (t:TypeId)(x:Operand):Ev.bG P G ⟨d,.load t x,ty,pos,aft,g⟩ K s=bG P G ⟨d,.load t x,ty,pos,aft,g⟩ K s:=rfl
theorem QW (x:Operand):Ev.bG P G ⟨d,.nilCheck x,ty,pos,aft,g⟩ K s=bG P G ⟨d,.nilCheck x,ty,pos,aft,g⟩ K s:=rfl
theorem QX (t:TypeId)(x:Operand)(f:Nat):Ev.bG P G ⟨d,.fieldAddr t x f,ty,pos,aft,g⟩ K s=bG P G ⟨d,.fieldAddr t x f,ty,pos,aft,g⟩ K s:=rfl
theorem QY (t:TypeId)(x y:Operand):Ev.bG P G ⟨d,.makeSlice t x y,ty,pos,aft,g⟩ K s=bG P G ⟨d,.makeSlice t x y,ty,pos,aft,g⟩ K s:=rfl
theorem QZ (t:TypeId)(l:Nat)(p:Array (Nat × Operand)):Ev.bG P G ⟨d,.buildSlice t l p,ty,pos,aft,g⟩ K s=bG P G ⟨d,.buildSlice t l p,ty,pos,aft,g⟩ K s:=rfl
theorem Q1 (t:TypeId)(p:Array (Nat × Operand)):Ev.bG P G ⟨d,.build t p,ty,pos,aft,g⟩ K s=bG P G ⟨d,.build t p,ty,pos,aft,g⟩ K s:=rfl
theorem Q2 (t:TypeId)(x:Operand):Ev.bG P G ⟨d,.box t x,ty,pos,aft,g⟩ K s=bG P G ⟨d,.box t x,ty,pos,aft,g⟩ K s:=rfl
theorem Q3 (op:BinOp)(t:TypeId)(x y:Operand)(u:TypeId):Ev.bG P G ⟨d,.binOp op t x y u,ty,pos,aft,g⟩ K s=bG P G ⟨d,.binOp op t x y u,ty,pos,aft,g⟩ K s:=rfl
theorem DQ (f:Builtin)(args:Array Operand)(ats:Array TypeId):Ev.bG P G ⟨d,.call ⟨.builtin f,args,ats⟩,ty,pos,aft,g⟩ K s=bG P G ⟨d,.call ⟨.builtin f,args,ats⟩,ty,pos,aft,g⟩ K s:=rfl
theorem Q4 (a:Nat):Ev.pS a (a+1)=[a]:=by
 unfold Ev.pS;rw[Nat.add_sub_cancel_left];simp [List.range_succ]
theorem Q5 {H:AHeap}{bk:Blk}:(⟨Ev.df (Ev.ju H.next (H.next+1) (fun _=>true) (ext ⟨fun _=>none,H.next⟩ [bk]).get) H.get,H.next+1⟩:AHeap)=ext H [bk]:=by
 unfold ext;simp only[List.length_singleton];congr 1
 funext j
 unfold Ev.df Ev.ju;by_cases h:H.next<=j/\j<H.next+1
 ·have:j=H.next:=by omega
  subst this;simp
 ·simp [h]
theorem aD.Q6 {lo k g':Nat}{H:AHeap}{e e':TypeId}{v:AVal}{cs c:List AVal}(h:aD lo H e v cs)(hk:H.get k=some (.arr g' e' c))(hne:e'≠e):∀ g n,v≠.own k g 0 n 1:=fun g n hv=>by
 rcases h with ⟨h1,_⟩|⟨i,g2,_,_,h3,h4⟩
 ·rw[h1]at hv;cases hv
 ·rw[h3]at hv;obtain rfl:=(AVal.own.inj hv).1;rw[h4]at hk;cases hk;exact hne rfl
end Go.Hx
namespace Go.Proofs
open Go.Hx
theorem Q7 {H:AHeap}{ib m:Nat}{a:Int}(hm:1<=m/\m<2 ^ 30)(hi:ib<H.next)(hg:H.get ib=some (.arr 0 3 [aa a])):
  Ev.kX Tryz.prog G0 (.clo 104 [] []) [.own ib 0 0 1 1,aa m] H (.own H.next 0 0 m 1) (Ev.ju H.next (H.next+1) (fun _=>true) (ext ⟨fun _=>none,H.next⟩ [.arr 0 3 (ints (List.replicate m a))]).get) 1 ⟨Ev.pS H.next (H.next+1),[ib]⟩:=by
 have e:H.next+1 - H.next=1:=by omega
 have hnx:(ext (⟨fun _=>none,H.next⟩:AHeap) [.arr 0 3 (ints (List.replicate m a))]).next=H.next+1:=rfl;have:=Ev.kX.mk (P:=Tryz.prog) (G:=G0) (H:=H) (f:=104) (first:=[]) (cap:=[]) (args:=[.own ib 0 0 1 1,aa m]) (args':=[ah [a],aa m]) (v:=.own H.next 0 0 m 1) ⟨fun _=>none,H.next⟩ (ext ⟨fun _=>none,H.next⟩ [.arr 0 3 (ints (List.replicate m a))]) (fun _=>False) (fun _=>true) [ib] aI
  (fun r hr=>by rw[List.mem_singleton.1 hr];exact hi) rfl (by rw[hnx];exact Nat.le_succ _) (fun _ h=>h.elim) (fun _ _=>rfl) rfl
  (fun H2 hag i h h'=>match i,h with
   | 0,_=>Fz.ints (fun h=>h) ((hag ib (by simp)).trans hg) rfl (fun j hj=>by
     have:j=0:=(by simp at hj;omega);subst this;rfl)
   | 1,_=>.lit _)
  (QQ a m hm ⟨fun _=>none,H.next⟩ _ ⟨rfl,rfl⟩) ?_ ?_
 ·rw[hnx,e]at this;exact this
 ·exact .own (.inr ⟨Nat.le_refl _,by rw[hnx];exact Nat.lt_succ_self _,rfl⟩)
 ·intro id h1 h2 _;have:id=H.next:=by rw[hnx]at h2;omega
  subst this;exact⟨0,_,_,bL (H:=⟨fun _=>none,H.next⟩),fun i hi=>by simp only[ints,List.getElem_map];exact .lit _⟩
def cz (l:List Int):Nat:=(l.map Int.natAbs).sum
theorem sB (a b:List Int):cz (a++b)=cz a+cz b:=by simp [cz]
theorem ph (x:Int)(l:List Int):cz (x :: l)=x.natAbs+cz l:=by simp [cz]
theorem yM (n:Nat):cz (List.replicate n 0)=0:=by simp [cz]
theorem CU (l:List Int)(i:Nat)(a:Int):cz (l.set i a)<=cz l+(a - l.getD i 0).natAbs:=by
 induction l generalizing i with
 | nil=>simp [cz]
 | cons x l ih =>
  cases i with
  | zero=>simp only[List.set_cons_zero,ph,List.getD_cons_zero];omega
  | succ i =>
   have:=ih i;simp only[List.set_cons_succ,ph,List.getD_cons_succ];omega
theorem uW (l:List Int)(i:Nat):(l.getD i 0).natAbs<=cz l:=by
 induction l generalizing i with
 | nil=>simp [cz]
 | cons x l ih =>
  cases i with
  | zero=>simp only[ph,List.getD_cons_zero];omega
  | succ i=>have:=ih i;simp only[ph,List.getD_cons_succ];omega
theorem OV {l:List Int}{a:Int}(h:a∈l):a.natAbs<=cz l:=by
 obtain⟨i,hi⟩:=List.mem_iff_getElem?.1 h;have:=uW l i;rw[List.getD_eq_getElem?_getD,hi]at this;exact this
theorem OW (l:List Int):(gZ l).natAbs<=cz l:=by
 by_cases h:l=[]
 ·subst h;simp [gZ]
 ·exact OV (yd h)
theorem OX (l:List Int)(n:Nat):cz (l.take n)+cz (l.drop n)=cz l:=by rw[<- sB,List.take_append_drop]
theorem OY (cs cd:Nat)(ex:List Int):jX (cs+1) cd ex=jX cs cd ex++[gZ (iS cd cs ex)]:=by unfold jX;rw[List.range_succ,List.map_append];rfl
theorem yO (cs cd:Nat)(ex:List Int):cz (jX cs cd ex)<=cz (ex.take (cs*cd)):=by
 induction cs with
 | zero=>simp [jX,cz]
 | succ cs ih =>
  rw[OY,sB,ph];have h1:=OW (iS cd cs ex);have h2:ex.take ((cs+1)*cd)=ex.take (cs*cd)++iS cd cs ex:=by
   unfold iS;rw[Nat.add_mul,Nat.one_mul,List.take_add]
  have h3:cz []=0:=rfl;rw[h2,sB,h3];omega
theorem qM (l:List Int)(n:Nat):cz (l.take n)<=cz l:=by have:=OX l n;omega
theorem CV (ab be ex:List Int)(n:Nat):cz (dI ab be n ex)<=cz ex+cz (be.take n):=by
 induction n with
 | zero=>simp [dI]
 | succ n ih =>
  rw[uU];have h1:=CU (dI ab be n ex) (ab.getD n 0).toNat ((dI ab be n ex).getD (ab.getD n 0).toNat 0+be.getD n 0);have h2:cz (be.take n)+(be.getD n 0).natAbs<=cz (be.take (n+1)):=by
   by_cases h:n<be.length
   ·obtain⟨x,hx⟩:=get_of_lt h;rw[aT hx,sB,ph,List.getD_eq_getElem?_getD,hx];show cz (be.take n)+x.natAbs<=_;omega
   ·rw[List.take_of_length_le (by omega),List.take_of_length_le (by omega),List.getD_eq_getElem?_getD,List.getElem?_eq_none (by omega)];simp
  omega
theorem CW {D:DPr}{g:Nat}(hg:∀ w,w<D.N->(D.gain w).natAbs<=g)(k:Nat):∀ n,n<=D.N->cz (bD D k n)<=g*n:=by
 intro n
 induction n with
 | zero=>intro _;unfold bD;rw[yM];exact Nat.zero_le _
 | succ n ih =>
  intro hn;have h1:=ih (by omega);have h2:=hg n (by omega);rw[Nat.mul_add,Nat.mul_one];unfold bD;split
  ·have:=CU (bD D k n) (D.br k n) ((bD D k n).getD (D.br k n) 0+D.gain n);omega
  ·omega
theorem CX {D:DPr}{g:Nat}(hg:∀ w,w<D.N->(D.gain w).natAbs<=g):∀ (m k:Nat),k+1+m=D.K->cz (EF D k)<=g*D.N:=by
 intro m
 induction m with
 | zero =>
  intro k hk;rw[yH (by omega)];exact CW hg k _ (Nat.le_refl _)
 | succ m ih =>
  intro k hk;rw[yI (by omega)];have h1:=ih (k+1) (by omega);have h2:=CV (cJ D (k+1) D.N) (BF D (k+1)) (bD D k D.N) (D.cs (k+1));have h3:=qM (BF D (k+1)) (D.cs (k+1));have h4:cz (BF D (k+1))<=cz (EF D (k+1)):=Nat.le_trans (yO _ _ _) (qM _ _);rw[sy (by omega),yM]at h2;rw[sy (by omega)];omega
theorem OZ {D:DPr}{g:Nat}(hg:∀ w,w<D.N->(D.gain w).natAbs<=g){k:Nat}(hk:k<D.K)(hk0:0<k)(n:Nat):cz (dI (cJ D k D.N) (BF D k) n (bD D (k - 1) D.N))<=g*D.N:=by
 have h1:=CX hg (D.K - 1 - k) k (by omega);have h2:=CV (cJ D k D.N) (BF D k) (bD D (k - 1) D.N) n;have h3:=qM (BF D k) n;have h4:cz (BF D k)<=cz (EF D k):=Nat.le_trans (yO _ _ _) (qM _ _);rw[sy (by omega),yM]at h2;rw[sy (by omega)];omega
theorem O0 (l:List Int):∀ n,(SS n fun c=>l.getD c 0).natAbs<=cz (l.take n):=by
 intro n
 induction n with
 | zero=>rw[mv];simp
 | succ n ih =>
  rw[eZ];by_cases h:n<l.length
  ·obtain⟨x,hx⟩:=get_of_lt h;rw[aT hx,sB,ph,List.getD_eq_getElem?_getD,hx];show _<=cz (l.take n)+(x.natAbs+cz [])
   simp only[Option.getD_some];omega
  ·rw[List.take_of_length_le (by omega)]at ih;rw[List.take_of_length_le (by omega),List.getD_eq_getElem?_getD,List.getElem?_eq_none (by omega)];simp only[Option.getD_none,Int.add_zero];exact ih
theorem O1 {D:DPr}{g:Nat}(hg:∀ w,w<D.N->(D.gain w).natAbs<=g):∀ n,n<=D.N->(SS n D.gain).natAbs<=g*n:=by
 intro n
 induction n with
 | zero=>intro _;rw[mv];simp
 | succ n ih =>
  intro hn;have:=ih (by omega);have:=hg n (by omega);rw[eZ,Nat.mul_add,Nat.mul_one];omega
theorem O2 {d:InfP}(hok:InfOk d)(h6:d.nodes.length<=6)(r:List Nat):(∀ w,w<(aq d r).N->((aq d r).gain w).natAbs<=18662400000000)/\18662400000000*(aq d r).N<=20000000000000000:=by
 have h1:=(yn hok.net).1;rw[vf]at h1;refine⟨fun w _=>?_,by show 18662400000000*bH d.nodes<=_;omega⟩;have:=tj hok h6 (jh hok w);show (cW d (wv d w)).natAbs<=_;omega
def dv (D:DPr)(ch:Nat->List Int)(j:Nat):TabS:=⟨fun k=>cJ D k D.N,fun k=>dR D k D.N,fun k=>if j<=k+1 then EF D k else bD D k D.N,fun k=>if j<=k then BF D k else List.replicate (D.cs k) 0,ch⟩
def px (D:DPr):Nat->List Int:=fun k=>List.replicate (D.cs k) 0
def ea (D:DPr):Nat->List Int:=fun k=>List.replicate (D.cs k) (-1)
def iV (D:DPr)(j:Nat):Int:=if D.K=0\/j=0 then qH D else 0
theorem yZ {D:DPr}{ch:Nat->List Int}(hc:∀ k,k<D.K->(ch k).length=D.cs k)(j:Nat):(dv D ch j).Len D D.K:=by
 refine⟨fun k _=>nX D k _,fun k _=>pg D k _,fun k _=>?_,fun k _=>?_,hc⟩
 ·unfold dv;simp only;split
  ·exact yG D k
  ·exact lP D k _
 ·unfold dv;simp only;split
  ·exact CL ..
  ·simp
theorem PP (D:DPr)(ch:Nat->List Int):vD D.K (iC D (px D) ch D.N) (dv D ch D.K):=fun k j hk=>by
 have e1:(if D.K<=k then BF D k else List.replicate (D.cs k) 0)=List.replicate (D.cs k) 0:=if_neg (by omega);have e2:(if D.K<=k+1 then EF D k else bD D k D.N)=bD D k D.N:=by
  split
  ·exact yH (by omega)
  ·rfl
 unfold dk iC dv px;simp only[e1,e2]
theorem y8 {D:DPr}{ch:Nat->List Int}{k:Nat}(hk:k<D.K):cA D (dv D ch (k+1)) k=BF D k:=by
 unfold cA BF;have:(dv D ch (k+1)).ex k=EF D k:=if_pos (Nat.le_refl _);rw[this]
theorem PQ {D:DPr}{ch:Nat->List Int}{k:Nat}(hk:k<D.K):vD D.K (sZ D (dv D ch (k+1)) k) (dv D ch k):=fun k' j hk'=>by
 have hA:=y8 (ch:=ch) hk;have e1:ep (dv D ch (k+1)).be k (cA D (dv D ch (k+1)) k) k'=if k<=k' then BF D k' else List.replicate (D.cs k') 0:=by
  by_cases e:k'=k
  ·rw[e,ka,hA,if_pos (Nat.le_refl _)]
  ·rw[jm e];show (if k+1<=k' then BF D k' else List.replicate (D.cs k') 0)=_;by_cases h:k<=k'
   ·rw[if_pos h,if_pos (by omega)]
   ·rw[if_neg h,if_neg (by omega)]
 have e2:(if 0<k then ep (dv D ch (k+1)).ex (k - 1) (dI ((dv D ch (k+1)).ab k) (cA D (dv D ch (k+1)) k) (D.cs k) ((dv D ch (k+1)).ex (k - 1))) else (dv D ch (k+1)).ex) k'=if k<=k'+1 then EF D k' else bD D k' D.N:=by
  by_cases h0:0<k
  ·rw[if_pos h0,hA];by_cases e:k'=k - 1
   ·rw[e,ka,if_pos (by omega)];have h1:(dv D ch (k+1)).ex (k - 1)=bD D (k - 1) D.N:=if_neg (by omega);have h2:=yI (D:=D) (k:=k - 1) (by omega);rw[Nat.sub_add_cancel h0]at h2;rw[h1,h2];rfl
   ·rw[jm e];show (if k+1<=k'+1 then EF D k' else bD D k' D.N)=_;by_cases h:k<=k'+1
    ·rw[if_pos h,if_pos (by omega)]
    ·rw[if_neg h,if_neg (by omega)]
  ·rw[if_neg h0];show (if k+1<=k'+1 then EF D k' else bD D k' D.N)=_;rw[if_pos (by omega),if_pos (by omega)]
 unfold dk sZ dv at *
 simp only at e1 e2;simp only[e1,e2]
theorem PR {D:DPr}{ch:Nat->List Int}{k:Nat}(hk:k<D.K):fZ D (dv D ch (k+1)) k (D.cs k) (iV D (k+1))=iV D k:=by
 have hA:=y8 (ch:=ch) hk;have h0:iV D (k+1)=0:=by unfold iV;rw[if_neg (by omega)]
 unfold fZ;rw[h0,hA];by_cases h:0<k
 ·rw[if_pos h];unfold iV;rw[if_neg (by omega)]
 ·have:k=0:=by omega
  subst this;rw[if_neg h];unfold iV qH;rw[if_pos (by omega),if_neg (by omega)];simp
theorem Dn {d:InfP}:∀ (f need:Nat) (out r:List Nat),ik d f need out=some r->r.length<=out.length+f:=by
 intro f
 induction f with
 | zero =>
  intro need out r h;unfold ik at h;split at h
  ·cases h;omega
  ·cases h
 | succ f ih =>
  intro need out r h;unfold ik at h;split at h
  ·cases h;omega
  ·split at h
   ·cases h
   ·have:=ih _ _ r h;rw[List.length_append,List.length_singleton]at this;omega
theorem Do {d:InfP}(hok:InfOk d){r:List Nat}(hr:OrdR d r):∀ k,k<r.length->1<=(aq d r).cs k/\(aq d r).cs k<=1024/\1<=(aq d r).cd k/\(aq d r).cd k<=4/\(aq d r).cs k*(aq d r).cd k<=4096:=fun k hk=>by
 obtain⟨v,hv⟩:=get_of_lt hk;have hvd:r.getD k 0=v:=fL hv;have hm:=hr.mem v (List.mem_of_getElem? hv);obtain⟨x,hx⟩:=get_of_lt (dV.1 hm).1;obtain⟨hrn,hxp,_,_⟩:=qW hok hx;have hxc:=hok.n.card x (List.mem_of_getElem? hx);obtain⟨e1',e2'⟩:=iP hx (by omega);have ecs:(aq d r).cs k=bF d.nodes x:=by show cr d (r.getD k 0)=_;rw[hvd];exact e1'
 have ecd:((aq d r).cd k:Int)=x.card:=by show (cP d (r.getD k 0):Int)=_;rw[hvd];exact e2'
 have hsz0:=hok.net.size;rw[j8]at hsz0;have:=uH hxp hok.n.card;have h1:=qI hok hr k hk;have a1:(aq d r).cs k<=1024:=by omega
 have a2:(aq d r).cd k<=4:=by omega
 exact⟨h1,a1,by omega,a2,Nat.mul_le_mul a1 a2⟩
structure BldH (d:InfP)(r:List Nat)(lo s n:Nat)(lvh:AVal)(I:Nat->Nat->Nat)(H:AHeap):Prop where
 top:H.get s=some (.arr 0 130 [.lit (.int .i64 d.grain),.vec d.nodes.length (aB d.nodes),.lit (.int .u64 (d.decs:Int)),.vec d.utils.length (aS d.utils),lvh,ah (dm d),ah (de d),.lit (.int .i64 0)])
 slo:s<H.next
 lv:aD lo H 170 lvh (iU I n)
 sep:∀ k j,k<n->j<6->s≠I k j
 sepl:∀ id g m,lvh=.own id g 0 m 1->id≠s/\∀ k j,k<n->j<6->id≠I k j
 levs:LevH (aq d r) r lo n I (iC (aq d r) (px (aq d r)) (ea (aq d r)) 0) H
 nv:n=0->lvh=.lit (.slice none 0 0)
set_option maxHeartbeats 4000000 in
theorem Dp (d:InfP)(hf:InfFit d)(h6:d.nodes.length<=6)(H:AHeap)(K:ARes->AHeap->Prop)
  (hE:∀ H',Over H H'->cQ d=4->K (.ret (.tup [.lit (.pointer none),.lit (.int .i64 210)])) H')
  (hE2:∀ H',Over H H'->cQ d≠4->cQ d≠0->K (.ret (.tup [.lit (.pointer none),aa (cQ d)])) H')
  (hK:∀ (r:List Nat) (s:Nat) (lvh:AVal) (I:Nat->Nat->Nat) (H':AHeap),fT d=some r->InfOk d->Over H H'->SolvH d r H.next s lvh I (dv (aq d r) (ea (aq d r)) 0) (iV (aq d r) 0) H'->(r=[]->lvh=.lit (.slice none 0 0))->K (.ret (.tup [.ptr s 0 0,.lit (.int .i64 0)])) H'):
  ae Tryz.prog G0 46 [dW d] H K:=by
 refine ae.d4 (n:=96) (rs:=[.tmp 2,.tmp 3]) Tryz.func46 rfl rfl rfl (by decide) (by simp) ?_;refine W.seq (af _ _ _ (by rfl) ?_);simp only[go_sem,iA,cw];obtain⟨H1,hH1⟩:∃ H1,H1=ext H [.arr 0 38 [.lit (.int .i64 d.grain),.vec d.nodes.length (aB d.nodes),.lit (.int .u64 (d.decs:Int)),.vec d.utils.length (aS d.utils)]]:=⟨_,rfl⟩
 have g1:H1.get H.next=some (.arr 0 38 [.lit (.int .i64 d.grain),.vec d.nodes.length (aB d.nodes),.lit (.int .u64 (d.decs:Int)),.vec d.utils.length (aS d.utils)]):=by rw[hH1];exact bL
 have n1:H1.next=H.next+1:=by rw[hH1];rfl
 have o1:Over H H1:=by rw[hH1];exact .ext _ _
 rw[<- hH1];clear hH1;have l1:=ag g1;refine W.seq (af _ _ _ (by rfl) ?_);simp only[go_sem,l1];refine ay.clo (La d hf _ _ ⟨trivial,?_⟩);simp only[go_sem];refine W.env fun E hE1=>?_;have e1:E 1=.ptr H.next 0 0:=by rw[hE1];simp only[go_sem]
 have e4:E 4=ah (aX (nG d)):=by rw[hE1];simp only[go_sem]
 have e5:E 5=aa (cQ d):=by rw[hE1];simp only[go_sem]
 clear hE1;by_cases h4:cQ d=4
 ·refine W.seq (af _ _ _ (by rfl) ?_);simp only[go_sem,e5,h4];exact ar.mk o1.next (hE H1 o1 h4)
 refine W.seq (af _ _ _ (by rfl) ?_);simp only[go_sem,e5,h4];by_cases h0:cQ d=0;rotate_left
 ·refine W.seq (af _ _ _ (by rfl) ?_);simp only[go_sem,e5,h0];exact ar.mk o1.next (hE2 H1 o1 h4 h0)
 have hok:InfOk d:=by
  unfold cQ at h0;by_cases h:InfOk d
  ·exact h
  ·rw[jE h]at h0;simp at h0
 obtain⟨r,hr⟩:∃ r,fT d=some r:=by
  unfold cQ at h0;rw[eM hok]at h0;simp only[if_true]at h0;split at h0
  ·rename_i hs;exact Option.isSome_iff_exists.1 hs
  ·cases h0
 have hrv:nG d=r:=by unfold nG;rw[if_pos h0,hr];rfl
 rw[hrv]at e4;have hrl8:r.length<=8:=by
  have h1:=Dn _ _ _ _ hr;have h2:(aE d).length<=d.nodes.length:=jg;have h3:=hok.n.n1;simp at h1;omega
 have hrl:r.length<=64:=by omega
 have hro:=qG hr;refine W.seq (af _ _ _ (by rfl) ?_);simp only[go_sem,e5,h0];refine W.seq (af _ _ _ (by rfl) ?_);simp only[go_sem,e1,l1];obtain⟨H2,hH2⟩:∃ H2,H2=ext H1 [.arr 0 130 [.lit (.int .i64 d.grain),.vec d.nodes.length (aB d.nodes),.lit (.int .u64 (d.decs:Int)),.vec d.utils.length (aS d.utils),.lit (.slice none 0 0),.lit (.slice none 0 0),.lit (.slice none 0 0),.lit (.int .i64 0)],.arr 0 110 [.ptr H1.next 0 0]]:=⟨_,rfl⟩
 have g2:H2.get H1.next=some (.arr 0 130 [.lit (.int .i64 d.grain),.vec d.nodes.length (aB d.nodes),.lit (.int .u64 (d.decs:Int)),.vec d.utils.length (aS d.utils),.lit (.slice none 0 0),.lit (.slice none 0 0),.lit (.slice none 0 0),.lit (.int .i64 0)]):=by rw[hH2];exact bR ..
 have g3:H2.get (H1.next+1)=some (.arr 0 110 [.ptr H1.next 0 0]):=by rw[hH2];exact aZ H1 _ 1 (by simp)
 have n2:H2.next=H1.next+2:=by rw[hH2];rfl
 have o2:Over H1 H2:=by rw[hH2];exact .ext _ _
 rw[<- hH2];clear hH2;have l1':=ag ((o2.old _ (by omega)).trans g1);have l2:=ag g2;have l3:=ag g3;refine W.env fun E2 hE2'=>?_;have f1:E2 1=.ptr H.next 0 0:=by rw[hE2'];simp only[go_sem,e1]
 have f4:E2 4=ah (aX r):=by rw[hE2'];simp only[go_sem,e4]
 have f6:E2 6=.ptr (H1.next+1) 0 0:=by rw[hE2'];simp only[go_sem]
 clear hE2' e1 e4 e5 l1;refine W.jR (fun s'=>s'.ρ 4=ah (aX r)/\s'.ρ 6=.ptr (H1.next+1) 0 0/\s'.H.next=H2.next/\(∀ i,i≠H1.next->s'.H.get i=H2.get i)/\s'.H.get H1.next=some (.arr 0 130 [.lit (.int .i64 d.grain),.vec d.nodes.length (aB d.nodes),.lit (.int .u64 (d.decs:Int)),.vec d.utils.length (aS d.utils),.lit (.slice none 0 0),ah (dm d),ah (de d),.lit (.int .i64 0)])) ?_ ?_
 ·refine W.draw 10 [0,0,0,4,12,28,28,61,189,445] Tryz.mixed (by kernel_rfl) (by kernel_rfl) ?_;simp only[go_sem,f1,f6,l1',l3];refine⟨.tup [ah (dm d),ah (de d)],[],bX.pure fun H9=>D0 d hok hf.decs H9 _ ⟨rfl,rfl⟩,?_⟩;simp only[go_sem,f1,f4,f6,l2];refine⟨fun x hx=>by omega,by rw[aG,aG],fun i h=>?_,?_⟩
  ·rw[aj,if_neg h,aj,if_neg h]
  ·rw[aj,if_pos rfl]
 rintro⟨ρ3,H3⟩ ⟨k4,k6,n3,o3,g4⟩;simp only at k4 k6 n3 o3 g4;clear f1 f4 f6 l1' l2 l3;have g5:H3.get (H1.next+1)=_:=(o3 _ (by omega)).trans g3;have hnl:(aX r).length=r.length:=by simp [aX]
 refine W.seq (af _ _ _ (by rfl) ?_);simp only[go_sem,k4,hnl];refine W.env fun E3 hE3=>?_;have m6:E3 6=.ptr (H1.next+1) 0 0:=by rw[hE3];simp only[go_sem,k6]
 have m36:E3 36=.vec r.length (ints (aX r)):=by rw[hE3];simp only[go_sem]
 have m37:E3 37=aa r.length:=by rw[hE3];simp only[go_sem]
 have m38:E3 38=aa 0:=by rw[hE3];simp only[go_sem]
 clear hE3 k4 k6;refine W.aK 38685626227667858712692480 (by rfl) (fun ρ Hx=>∃ (n:Nat) (lvh:AVal) (I:Nat->Nat->Nat),ρ 38=aa n/\n<=r.length/\H3.next<=Hx.next/\(∀ i,i<H3.next->i≠H1.next->Hx.get i=H3.get i)/\BldH d r H3.next H1.next n lvh I Hx) (fun ρ Hx=>r.length - (iv (ρ 38)).toNat) ?_ ?_
 ·simp only[go_sem,m38];refine⟨0,.lit (.slice none 0 0),fun _ _=>0,rfl,Nat.zero_le _,⟨g4,by omega,.nil,fun k j h=>absurd h (Nat.not_lt_zero _),fun id g m h=>(by cases h),?_,fun _=>rfl⟩⟩;exact⟨fun k j k' j' h=>absurd h (Nat.not_lt_zero _),fun k j h=>absurd h (Nat.not_lt_zero _),fun k h=>absurd h (Nat.not_lt_zero _),fun k j h=>absurd h (Nat.not_lt_zero _),⟨fun k h=>absurd h (Nat.not_lt_zero _),fun k h=>absurd h (Nat.not_lt_zero _),fun k h=>absurd h (Nat.not_lt_zero _),fun k h=>absurd h (Nat.not_lt_zero _),fun k h=>absurd h (Nat.not_lt_zero _)⟩⟩
 rintro ρ Hx ⟨n,lvh,I,h38,hn,nx,hout,hB⟩;refine W.env fun E4 hE4=>?_;have f6:E4 6=.ptr (H1.next+1) 0 0:=by rw[hE4];simp only[go_sem,m6]
 have f36:E4 36=.vec r.length (ints (aX r)):=by rw[hE4];simp only[go_sem,m36]
 have f37:E4 37=aa r.length:=by rw[hE4];simp only[go_sem,m37]
 have f38:E4 38=aa n:=by rw[hE4];simp only[go_sem,h38]
 clear hE4;have gp:=(hout (H1.next+1) (by omega) (by omega)).trans g5;have lp:=ag gp;have ls:=ag hB.top;by_cases hb:(n:Int)<r.length;rotate_left
 ·refine af _ _ _ (by rfl) ?_;simp only[go_sem,f37,f38,hb];have hnr:n=r.length:=by omega
  subst hnr;have hD0:=Do hok hro;obtain⟨hg1,hg2⟩:=O2 hok h6 r;have ht0:eD d r 0=0:=by unfold eD;split<;>rfl
  have hS0:SolvH d r H.next H1.next lvh I (iC (aq d r) (px (aq d r)) (ea (aq d r)) 0) (eD d r 0) Hx:=by
   rw[ht0];exact⟨hB.top,⟨by omega,hB.slo⟩,hB.lv.keep (by omega) (Nat.le_refl _) fun _ _ _ _ _ _=>rfl,hB.sep,hB.sepl,⟨hB.levs.inj,fun k j h1 h2=>by have:=hB.levs.rng k j h1 h2;omega,hB.levs.lev,hB.levs.tab,hB.levs.len⟩⟩
  refine W.seq (af _ _ _ (by rfl) ?_);simp only[go_sem,f6,lp];refine ay.clo (QM hok hro hrl (fun k hk=>by have:=hD0 k hk;omega) (fun k hk=>by have:=hD0 k hk;omega) (fun k b hk n hn=>?_) (fun n hn=>?_) (fun w hw=>?_) Hx hS0 _ fun H4 n4 o4 hS4=>⟨trivial,?_⟩)
  ·have h1:=CW hg1 k n hn;have h2:=uW (bD (aq d r) k n) b;have h3:18662400000000*n<=18662400000000*(aq d r).N:=Nat.mul_le_mul_left _ hn;omega
  ·have h1:=O1 hg1 n hn;have h3:18662400000000*n<=18662400000000*(aq d r).N:=Nat.mul_le_mul_left _ hn;omega
  ·have:=tj hok h6 (jh hok w);omega
  simp only[go_sem];have gp4:H4.get (H1.next+1)=some (.arr 0 110 [.ptr H1.next 0 0]):=(o4 _ (by have:=nx;omega) (by omega) (fun k j h1 h2 e=>by have:=(hB.levs.rng k j h1 h2).1;omega)).trans gp;have lp4:=ag gp4;refine W.seq (af _ _ _ (by rfl) ?_);simp only[go_sem,f6,lp4];refine ay.clo (DO H1.next H4 _ ⟨trivial,?_⟩);simp only[go_sem];obtain⟨H5,hH5⟩:∃ H5,H5=ext H4 [.arr 0 110 [.ptr H1.next 0 0]]:=⟨_,rfl⟩
  have n5:H5.next=H4.next+1:=by rw[hH5];rfl
  have o5:Over H4 H5:=by rw[hH5];exact .ext _ _
  have gbx:H5.get H4.next=some (.arr 0 110 [.ptr H1.next 0 0]):=by rw[hH5];exact bL
  rw[<- hH5];clear hH5;have hT5:SolvH d r H.next H1.next lvh I (dv (aq d r) (ea (aq d r)) r.length) (iV (aq d r) r.length) H5:=by
   have h1:=(hS4.same (PP (aq d r) (ea (aq d r))) (yZ (fun k _=>by simp [ea]) _)).iW hS4.tc (by omega) fun i hi=>o5.old i hi;have h2:eD d r (bH d.nodes)=iV (aq d r) r.length:=by
    unfold eD iV;by_cases h:r.length=0
    ·rw[if_pos h,if_pos (.inl h)];unfold qH;rw[if_pos (show (aq d r).K=0 from h)];rfl
    ·rw[if_neg h,if_neg (by rintro(h1|h1)<;>exact h h1)]
   rw[<- h2];exact h1
  have hB5:=hT5.tc;refine W.env fun E6 hE6=>?_;have w6:E6 6=.ptr (H1.next+1) 0 0:=by rw[hE6];simp only[go_sem,f6]
  have w90:E6 90=.clo 137 [] [.ptr H4.next 0 0]:=by rw[hE6];rfl
  clear hE6;have hni:∀ k j,k<r.length->j<6->I k j<H4.next:=fun k j h1 h2=>(hS4.levs.rng k j h1 h2).2;have hns:H1.next<H4.next:=hS4.slo.2;have hpI:∀ k j,k<r.length->j<6->H1.next+1≠I k j:=fun k j h1 h2 e=>by have:=(hB.levs.rng k j h1 h2).1;omega
  refine W.pA (f:=137) (first:=[]) (cap:=[.ptr H4.next 0 0]) (by show E6 90=_;exact w90) (DN d H1.next H4.next r.length hrl)
   (fun k Hy=>H5.next<Hy.next/\(∀ i,i<H5.next->i≠H1.next->(∀ k j,k<r.length->j<6->i≠I k j)->Hy.get i=H5.get i)/\SolvH d r H.next H1.next lvh I (dv (aq d r) (ea (aq d r)) (r.length - k)) (iV (aq d r) (r.length - k)) Hy)
   (fun _ _=>False)
   (fun k Hy h=>⟨(h.2.1 _ (by omega) (by omega) fun k j h1 h2 e=>by have:=hni k j h1 h2;omega).trans gbx,_,_,h.2.2.top,h.2.2.len⟩)
   (fun k Hy b h=>⟨h.1,fun i h1 h2 h3=>by rw[aj,if_neg (by omega)];exact h.2.1 i h1 h2 h3,h.2.2.iW hB5 (by rw[aG];exact Nat.le_refl _) fun i hi=>by rw[aj,if_neg (by omega)]⟩)
   (fun _ _ _ h=>h)
   (fun b=>⟨by rw[aY];simp,fun i h1 _ _=>bE h1,hT5.iW hB5 (by rw[aY];omega) fun i hi=>bE hi⟩)
   (by decide) (fun x hx=>by rw[DM x hx];rfl) (fun _ _ _=>trivial) (fun _ _ _=>trivial) (fun k y Hy B Bb hy hj hn hBq hBb=>?_) (fun Hy hj hn=>?_) (fun _ hs _=>hs.elim) (fun _ _ hs _=>hs.elim)
  ·obtain⟨hk,rfl⟩:=DL hy;obtain⟨kk,hkk⟩:∃ kk,kk=r.length - 1 - k:=⟨_,rfl⟩
   have e1:(r.length:Int) - 1 - (k:Int)=(kk:Int):=(by omega);have e2:r.length - k=kk+1:=(by omega);have e3:r.length - (k+1)=kk:=(by omega);rw[e1];rw[e2]at hj;rw[e3];refine af _ _ _ (by rfl) ?_;simp only[go_sem,gX,bh,jr,List.foldl_cons,List.foldl_nil,List.zip_cons_cons,List.zip_nil_right,hBq];obtain⟨H6,hH6⟩:∃ H6,H6=Hy.upd H5.next Bb:=⟨_,rfl⟩
   rw[<- hH6];obtain⟨st,pd,n',en,ps',as',bo,hBe⟩:=hBb;have n6:H6.next=Hy.next:=(by rw[hH6];rfl);have o6:∀ id,id≠H5.next->H6.get id=Hy.get id:=fun id h=>by rw[hH6,aj,if_neg h]
   have jB:H6.get H5.next=some Bb:=(by rw[hH6,aj,if_pos rfl]);have hS6:=hj.2.2.iW hB5 (H':=H6) (by omega) fun i hi=>o6 i (by omega);have lp6:=ag ((o6 (H1.next+1) (by omega)).trans ((hj.2.1 _ (by omega) (by omega) hpI).trans ((o5.old _ (by omega)).trans gp4)));refine W.env fun E7 hE7=>?_;have t6:E7 6=.ptr (H1.next+1) 0 0:=(by rw[hE7];simp only[go_sem,bh,w6]);have t11:E7 11=aa kk:=(by rw[hE7];simp only[go_sem,bh]);clear hE7;have hkl:kk<r.length:=(by omega);have hd1:=hD0 kk hkl;have hbf:=y8 (D:=aq d r) (ch:=ea (aq d r)) (k:=kk) hkl;have hex:0<kk->(dv (aq d r) (ea (aq d r)) (kk+1)).ex (kk - 1)=bD (aq d r) (kk - 1) (aq d r).N:=fun h=>if_neg (by omega);have hBs:cz (BF (aq d r) kk)<=20000000000000000:=by
    have h1:cz (BF (aq d r) kk)<=cz (EF (aq d r) kk):=Nat.le_trans (yO _ _ _) (qM _ _);have h2:=CX hg1 (r.length - 1 - kk) kk (show kk+1+(r.length - 1 - kk)=r.length by omega);omega
   refine af _ _ _ (by rfl) ?_;simp only[go_sem,t6,t11,lp6];refine ay.clo (Ql hrl hkl (by omega) hd1.2.2.1 (by omega) (by omega) (fun h0 c hc=>?_) (fun h0 n hn=>?_) (fun h0 n hn=>?_) H6 hS6 _ fun H7 h7n h7o h7S=>⟨⟨st,pd,n',en,ps',as',bo,by rw[h7o _ (by omega) (fun k j h1 h2 e=>by have:=hni k j h1 h2;omega),jB,hBe]⟩,?_⟩)
   ·have hDo:=qF hok hro.mem;have hd2:=hD0 (kk - 1) (by omega);have hpos:0<(aq d r).cs (kk - 1)*(aq d r).cd (kk - 1):=Nat.mul_pos (by omega) (by omega);obtain⟨a,ha⟩:=get_of_lt (l:=cJ (aq d r) kk (aq d r).N) (i:=c) (by rw[nX];exact hc);have h1:=yE hDo (show kk<(aq d r).K from hkl) (aq d r).N (Nat.le_refl _) a (List.mem_of_getElem? ha);have hab':((dv (aq d r) (ea (aq d r)) (kk+1)).ab kk).getD c 0=a:=gM ha;rw[hab'];rcases h1.2.2 h0 with h2|h2
    ·exact⟨h1.1,h2⟩
    ·rw[h2];exact⟨Int.le_refl _,Int.ofNat_lt.2 hpos⟩
   ·rw[hbf,hex h0];have h1:=OZ hg1 (show kk<(aq d r).K from hkl) h0 n;have h2:=uW (dI (cJ (aq d r) kk (aq d r).N) (BF (aq d r) kk) n (bD (aq d r) (kk - 1) (aq d r).N)) (((dv (aq d r) (ea (aq d r)) (kk+1)).ab kk).getD n 0).toNat;have h3:=uW (BF (aq d r) kk) n;have h4:(dv (aq d r) (ea (aq d r)) (kk+1)).ab kk=cJ (aq d r) kk (aq d r).N:=rfl;rw[h4]at h2 ⊢;omega
   ·rw[hbf];have h1:=O0 (BF (aq d r) kk) (n+1);have h2:=qM (BF (aq d r) kk) (n+1);have h3:iV (aq d r) (kk+1)=0:=(by unfold iV;rw[if_neg (by rintro(h|h);{ have:r.length=0:=h;omega };omega)]);rw[h3];omega
   simp only[go_sem,eE];refine⟨by rw[h7o _ (by omega) (fun k j h1 h2 e=>by have:=hni k j h1 h2;omega)];exact jB,by omega,by omega,fun i h1 h2 h3=>by rw[h7o i h2 h3,o6 i (by omega)];exact hj.2.1 i h1 h2 h3,?_⟩;rw[PR (show kk<(aq d r).K from hkl)]at h7S;exact h7S.same (PQ (show kk<(aq d r).K from hkl)) (yZ (fun k _=>by simp [ea]) _)
  ·simp only[go_sem];have lpy:=ag ((hj.2.1 (H1.next+1) (by omega) (by omega) hpI).trans ((o5.old _ (by omega)).trans gp4));refine af _ _ _ (by rfl) ?_;simp only[go_sem,w6,lpy];have hov:Over H Hy:=⟨by have:=o1.next;omega,fun i hi=>by
    have q1:∀ k j,k<r.length->j<6->i≠I k j:=fun k j h1 h2 e=>by have:=(hB.levs.rng k j h1 h2).1;omega
    rw[hj.2.1 i (by omega) (by omega) q1,o5.old i (by omega),o4 i (by omega) (by omega) q1,hout i (by omega) (by omega),o3 i (by omega),o2.old i (by omega),o1.old i hi]⟩
   have hSf:=hj.2.2;rw[vF,Nat.sub_self]at hSf;exact ar.mk hov.next (hK r H1.next lvh I Hy hr hok hov hSf fun h=>hB.nv (by rw[h];rfl))
 have hn2:n<r.length:=by omega
 obtain⟨v,hv⟩:=get_of_lt hn2;have hvd:r.getD n 0=v:=fL hv;have hm:=hro.mem v (List.mem_of_getElem? hv);obtain⟨x,hx⟩:=get_of_lt (dV.1 hm).1;obtain⟨hrn,hxp,hin,ps⟩:=qW hok hx;have hxc:=hok.n.card x (List.mem_of_getElem? hx);obtain⟨e1',e2'⟩:=iP hx (by omega);obtain⟨D,hD⟩:∃ D,D=aq d r:=⟨_,rfl⟩
 have ecs:D.cs n=bF d.nodes x:=by rw[hD];show cr d (r.getD n 0)=_;rw[hvd];exact e1'
 have ecd:(D.cd n:Int)=x.card:=by rw[hD];show (cP d (r.getD n 0):Int)=_;rw[hvd];exact e2'
 have gv:(ints (aX r))[n]?=some (aa v):=by rw[d9];simp [aX,hv]
 have gvn:=aL gv;have hvi:(v:Int)<d.nodes.length:=by have:=(dV.1 hm).1;omega
 have q0:=jf hx;have qn:=eA hx;refine W.seq (af _ _ _ (by rfl) ?_);simp only[go_sem,f37,f38,hb];refine W.seq (af _ _ _ (by rfl) ?_);simp only[go_sem];refine W.seq (W.block ?_);refine W.seq (af _ _ _ (by rfl) ?_);simp only[go_sem,f36,f38,hb,gv,gvn];refine W.seq ?_;refine W.draw 17 [0,1,3,7,15,0,63,0,128,384,896,1920,0,8064,16256,32640,127] Tryz.mixed (by kernel_rfl) (by kernel_rfl) ?_;simp only[go_sem,f6,lp,ls,q0,qn,hvi];refine⟨aa (bF d.nodes x),[],bX.pure fun H9=>vm d.nodes v x hx hin ps H9 _ (by rw[hrn];exact⟨rfl,rfl⟩),?_⟩;simp only[go_sem];obtain⟨cN,hcN⟩:∃ cN,cN=D.cs n:=⟨_,rfl⟩
 obtain⟨cD,hcD⟩:∃ cD,cD=D.cd n:=⟨_,rfl⟩
 refine W.env fun E5 hE5=>?_;have s6:E5 6=.ptr (H1.next+1) 0 0:=by rw[hE5];simp only[go_sem,f6]
 have s8:E5 8=aa v:=by rw[hE5];simp only[go_sem]
 have s9:E5 9=aa cN:=by rw[hE5,hcN,ecs];simp only[go_sem]
 have s10:E5 10=aa cD:=by rw[hE5,hcD,ecd];simp only[go_sem]
 have s38:E5 38=aa n:=by rw[hE5];simp only[go_sem,f38]
 clear hE5;have hc1:1<=cN:=by rw[hcN,hD];exact qI hok hro n hn2
 have hsz0:=hok.net.size;rw[j8]at hsz0;have hcb:cN<=1024:=by have:=uH hxp hok.n.card;omega
 have hdb:cD<=4:=by omega
 have w0:=IntWalk.i64_in ((cN:Int)*(cD:Int)) (by rw[<- Int.natCast_mul];have:=Nat.mul_le_mul hcb hdb;omega);obtain⟨cE,hcE⟩:∃ cE,cE=cN*cD:=⟨_,rfl⟩
 have q1:(cN:Int)*(cD:Int)=(cE:Int):=by rw[hcE];simp
 have hcd2:cE<=4096:=by rw[hcE];exact Nat.mul_le_mul hcb hdb
 rw[q1]at w0;have z1:(0:Int)<=(cN:Int):=by omega
 have z2:(0:Int)<=(cE:Int):=by omega
 refine Ev.W.EK 24 [0,0,2,6,14,0,0,0,128,0,512,0,0,6144,14336,0,32768,0,0,393216,1048544,2097120,4194272,8388606] Tryz.mixed (by kernel_rfl) (by kernel_rfl) ?_;simp only[go_sem,s6,s8,s9,s10,lp,ls,q1,w0,z1,z2,QR,QS,QT,QU,QV,QW,QX,QY,QZ,Q1,Q2,Q3];obtain⟨H4,hH4⟩:∃ H4,H4=ext (ext Hx [.arr 0 3 (List.replicate cN (.lit (.int .i64 0))),.arr 0 4 (List.replicate cN (.lit (.bool false))),.arr 0 3 (List.replicate cE (.lit (.int .i64 0))),.arr 0 3 (List.replicate cN (.lit (.int .i64 0)))]) [.arr 0 3 [.lit (.int .i64 (-1))]]:=⟨_,rfl⟩
 rw[<- hH4];have n4:H4.next=Hx.next+4+1:=by rw[hH4];rfl
 have o4:Over Hx H4:=by rw[hH4];exact(Over.ext _ _).trans (.ext _ _)
 have b0:H4.get Hx.next=some (.arr 0 3 (List.replicate cN (.lit (.int .i64 0)))):=by rw[hH4,dH];exact aZ Hx _ 0 (by simp)
 have b1:H4.get (Hx.next+1)=some (.arr 0 4 (List.replicate cN (.lit (.bool false)))):=by rw[hH4,dH];exact aZ Hx _ 1 (by simp)
 have b2:H4.get (Hx.next+2)=some (.arr 0 3 (List.replicate cE (.lit (.int .i64 0)))):=by rw[hH4,dH];exact aZ Hx _ 2 (by simp)
 have b3:H4.get (Hx.next+3)=some (.arr 0 3 (List.replicate cN (.lit (.int .i64 0)))):=by rw[hH4,dH];exact aZ Hx _ 3 (by simp)
 have b4:H4.get (Hx.next+4)=some (.arr 0 3 [.lit (.int .i64 (-1))]):=by rw[hH4,dH];exact aZ Hx _ 4 (by simp)
 clear hH4;refine⟨by omega,by repeat' (first|refine And.intro ?_ ?_|(intro x hx;omega)),by omega,by repeat' (first|refine And.intro ?_ ?_|(intro x hx;omega)),by omega,by repeat' (first|refine And.intro ?_ ?_|(intro x hx;omega)),by omega,by repeat' (first|refine And.intro ?_ ?_|(intro x hx;omega)),by repeat' (first|refine And.intro ?_ ?_|(intro x hx;omega)),?_⟩;refine⟨_,_,1,_,Q7 (a:=-1) (m:=cN) ⟨hc1,by omega⟩ (by omega) b4,?_⟩;have hEf:(⟨Ev.df (Ev.ju H4.next (H4.next+1) (fun _=>true) (ext ⟨fun _=>none,H4.next⟩ [.arr 0 3 (ints (List.replicate cN (-1)))]).get) H4.get,Hx.next+4+1+1⟩:AHeap)=ext H4 [.arr 0 3 (ints (List.replicate cN (-1)))]:=by rw[<- n4];exact Q5
 rw[Q4,hEf,n4];simp only[go_sem];obtain⟨H5,hH5⟩:∃ H5,H5=ext (ext H4 [.arr 0 3 (ints (List.replicate cN (-1)))]) [.arr 0 173 [.lit (.int .i64 (v:Nat)),.lit (.int .i64 (cD:Nat)),.own Hx.next 0 0 cN 1,.own (Hx.next+1) 0 0 cN 1,.own (Hx.next+2) 0 0 cE 1,.own (Hx.next+3) 0 0 cN 1,.own (Hx.next+4+1) 0 0 cN 1]]:=⟨_,rfl⟩
 rw[<- hH5];have n5:H5.next=Hx.next+4+1+1+1:=by rw[hH5];show H4.next+1+1=_;omega
 have o5:Over H4 H5:=by rw[hH5];exact(Over.ext _ _).trans (.ext _ _)
 have b5:H5.get (Hx.next+4+1)=some (.arr 0 3 (ints (List.replicate cN (-1)))):=by rw[hH5,<- n4,dH];exact aZ H4 _ 0 (by simp)
 have b6:H5.get (Hx.next+4+1+1)=some (.arr 0 173 [.lit (.int .i64 (v:Nat)),.lit (.int .i64 (cD:Nat)),.own Hx.next 0 0 cN 1,.own (Hx.next+1) 0 0 cN 1,.own (Hx.next+2) 0 0 cE 1,.own (Hx.next+3) 0 0 cN 1,.own (Hx.next+4+1) 0 0 cN 1]):=by rw[hH5,show Hx.next+4+1+1=H4.next+1 by omega,dH];exact aZ H4 _ 1 (by simp)
 clear hH5;obtain⟨lv2,H6,hA2,oP,n6,hp6⟩:=iK (P:=Tryz.prog) (H:=H5) (t:=128) (x:=.ptr (Hx.next+4+1+1) 0 0) (n:=H5.next+1) Tryz.underlying128 Tryz.Bp Tryz.Br rfl (by rw[Tryz.Bq,jG];omega) (hB.lv.keep (Nat.le_refl _) (by omega) fun i g h1 h2 h3 _=>by rw[o5.old i (by omega),o4.old i h2]) (by have:=hB.slo;omega) rfl;have hA3:bO Tryz.prog (ext H5 [.arr 0 170 [.ptr (Hx.next+4+1+1) 0 0]]) (H5.next+1) 128 128 lvh (.own (Hx.next+4+1+1+1) 0 0 1 1)=some (lv2,H6):=by rw[<- n5];exact hA2
 have lv21:=oP.one;have lv2c:=oP.cells;have k6:∀ i g e c,i<Hx.next->Hx.get i=some (.arr g e c)->e≠170->H6.get i=Hx.get i:=fun i g e c h1 h2 h3=>by
  rw[hp6 i (by omega) (hB.lv.Q6 h2 h3),o5.old i (by omega),o4.old i h1]
 have hsl:=hB.slo;have gs6:=(k6 _ _ _ _ hsl hB.top (by decide)).trans hB.top;have ls6:=ag gs6;obtain⟨I2,hI2⟩:∃ I2:Nat->Nat->Nat,I2=fun k j=>if k=n then (match j with|0=>Hx.next+4+1+1|1=>Hx.next|2=>Hx.next+1|3=>Hx.next+2|4=>Hx.next+3|_=>Hx.next+4+1) else I k j:=⟨_,rfl⟩
 have hIo:∀ k j,k≠n->I2 k j=I k j:=fun k j h=>by rw[hI2];simp only;rw[if_neg h]
 have hIn:∀ j,I2 n j=(match j with|0=>Hx.next+4+1+1|1=>Hx.next|2=>Hx.next+1|3=>Hx.next+2|4=>Hx.next+3|_=>Hx.next+4+1):=fun j=>by rw[hI2];exact if_pos rfl
 have hInr:∀ j,Hx.next<=I2 n j/\I2 n j<Hx.next+7:=fun j=>by rw[hIn];split<;>omega
 clear hI2;have lvL:∀ i,Hx.next<=i->∀ g m,lvh≠.own i g 0 m 1:=fun i hi g m hv=>by
  rcases hB.lv with ⟨h1,_⟩|⟨i2,g2,_,h2,h3,_⟩
  ·rw[h1]at hv;cases hv
  ·rw[h3]at hv;have:=(AVal.own.inj hv).1;omega
 have new6:∀ i,Hx.next<=i->i<H5.next->H6.get i=H5.get i:=fun i h1 h2=>hp6 i h2 (lvL i h1);obtain⟨H7,hH7⟩:∃ H7,H7=H6.upd H1.next (.arr 0 130 [.lit (.int .i64 d.grain),.vec d.nodes.length (aB d.nodes),.lit (.int .u64 (d.decs:Int)),.vec d.utils.length (aS d.utils),lv2,ah (dm d),ah (de d),.lit (.int .i64 0)]):=⟨_,rfl⟩
 have n7:H7.next=H6.next:=by rw[hH7,aG]
 have o7:∀ i,i≠H1.next->H7.get i=H6.get i:=fun i h=>by rw[hH7,aj,if_neg h]
 have g7:H7.get H1.next=some (.arr 0 130 [.lit (.int .i64 d.grain),.vec d.nodes.length (aB d.nodes),.lit (.int .u64 (d.decs:Int)),.vec d.utils.length (aS d.utils),lv2,ah (dm d),ah (de d),.lit (.int .i64 0)]):=by rw[hH7,aj,if_pos rfl]
 have old7:∀ k j g e c,k<n->j<6->Hx.get (I k j)=some (.arr g e c)->e≠170->H7.get (I k j)=Hx.get (I k j):=fun k j g e c h1 h2 h3 h4=>by
  rw[o7 _ fun e=>hB.sep k j h1 h2 e.symm];exact k6 _ _ _ _ (hB.levs.rng k j h1 h2).2 h3 h4
 have new7:∀ i,Hx.next<=i->i<H5.next->H7.get i=H5.get i:=fun i h1 h2=>by rw[o7 i (by omega)];exact new6 i h1 h2
 have mU:∀ k j,1<=j->∃ g e c,dk (iC (aq d r) (px (aq d r)) (ea (aq d r)) 0) k j=.arr g e c/\e≠170:=fun k j hj=>by
  match j,hj with
  | 1,_=>exact⟨_,_,_,rfl,by decide⟩
  | 2,_=>exact⟨_,_,_,rfl,by decide⟩
  | 3,_=>exact⟨_,_,_,rfl,by decide⟩
  | 4,_=>exact⟨_,_,_,rfl,by decide⟩
  | (j+5),_=>exact⟨_,_,_,rfl,by decide⟩
 have z0:∀ m:Nat,ints (List.replicate m 0)=List.replicate m (.lit (.int .i64 0)):=fun m=>by simp [ints,aa]
 have levs7:LevH (aq d r) r H3.next (n+1) I2 (iC (aq d r) (px (aq d r)) (ea (aq d r)) 0) H7:=by
  refine⟨fun k j k' j' h1 h2 h3 h4 he=>?_,fun k j h1 h2=>?_,fun k h1=>?_,fun k j h1 h2 h3=>?_,DI (fun k _=>by simp [px]) (fun k _=>by simp [ea]) 0⟩
  ·by_cases a1:k=n
   ·by_cases a2:k'=n
    ·refine⟨by omega,?_⟩;rw[a1,a2,hIn,hIn]at he
     match j,h3,j',h4 with
     | 0,_,0,_=>rfl
     | 0,_,1,_=>exact absurd he (by simp only;omega)
     | 0,_,2,_=>exact absurd he (by simp only;omega)
     | 0,_,3,_=>exact absurd he (by simp only;omega)
     | 0,_,4,_=>exact absurd he (by simp only;omega)
     | 0,_,5,_=>exact absurd he (by simp only;omega)
     | 1,_,0,_=>exact absurd he (by simp only;omega)
     | 1,_,1,_=>rfl
     | 1,_,2,_=>exact absurd he (by simp only;omega)
     | 1,_,3,_=>exact absurd he (by simp only;omega)
     | 1,_,4,_=>exact absurd he (by simp only;omega)
     | 1,_,5,_=>exact absurd he (by simp only;omega)
     | 2,_,0,_=>exact absurd he (by simp only;omega)
     | 2,_,1,_=>exact absurd he (by simp only;omega)
     | 2,_,2,_=>rfl
     | 2,_,3,_=>exact absurd he (by simp only;omega)
     | 2,_,4,_=>exact absurd he (by simp only;omega)
     | 2,_,5,_=>exact absurd he (by simp only;omega)
     | 3,_,0,_=>exact absurd he (by simp only;omega)
     | 3,_,1,_=>exact absurd he (by simp only;omega)
     | 3,_,2,_=>exact absurd he (by simp only;omega)
     | 3,_,3,_=>rfl
     | 3,_,4,_=>exact absurd he (by simp only;omega)
     | 3,_,5,_=>exact absurd he (by simp only;omega)
     | 4,_,0,_=>exact absurd he (by simp only;omega)
     | 4,_,1,_=>exact absurd he (by simp only;omega)
     | 4,_,2,_=>exact absurd he (by simp only;omega)
     | 4,_,3,_=>exact absurd he (by simp only;omega)
     | 4,_,4,_=>rfl
     | 4,_,5,_=>exact absurd he (by simp only;omega)
     | 5,_,0,_=>exact absurd he (by simp only;omega)
     | 5,_,1,_=>exact absurd he (by simp only;omega)
     | 5,_,2,_=>exact absurd he (by simp only;omega)
     | 5,_,3,_=>exact absurd he (by simp only;omega)
     | 5,_,4,_=>exact absurd he (by simp only;omega)
     | 5,_,5,_=>rfl
    ·rw[a1,hIo k' j' a2]at he;have:=(hB.levs.rng k' j' (by omega) h4).2;have:=hInr j;omega
   ·by_cases a2:k'=n
    ·rw[a2,hIo k j a1]at he;have:=(hB.levs.rng k j (by omega) h3).2;have:=hInr j';omega
    ·rw[hIo k j a1,hIo k' j' a2]at he;exact hB.levs.inj k j k' j' (by omega) (by omega) h3 h4 he
  ·by_cases a1:k=n
   ·rw[a1];have:=hInr j;have:=hB.slo;omega
   ·rw[hIo k j a1];have:=hB.levs.rng k j (by omega) h2;omega
  ·by_cases a1:k=n
   ·rw[a1,hIn];simp only;rw[new7 _ (by omega) (by omega),b6];unfold fY;rw[hvd,<- hD,<- hcN,<- hcD,<- hcE,hIn,hIn,hIn,hIn,hIn];rfl
   ·rw[hIo k 0 a1,old7 k 0 _ _ _ (by omega) (by omega) (hB.levs.lev k (by omega)) (by decide),hB.levs.lev k (by omega)];unfold fY;rw[hIo k 1 a1,hIo k 2 a1,hIo k 3 a1,hIo k 4 a1,hIo k 5 a1]
  ·by_cases a1:k=n
   ·rw[a1,hIn]
    match j,h2,h3 with
    | 1,_,_ =>
     show H7.get Hx.next=some (.arr 0 _ (ints (List.replicate ((aq d r).cs n) 0)));rw[new7 _ (by omega) (by omega),o5.old _ (by omega),b0,z0,<- hD,<- hcN]
    | 2,_,_ =>
     show H7.get (Hx.next+1)=some (.arr 0 _ (cL (List.replicate ((aq d r).cs n) false)));rw[new7 _ (by omega) (by omega),o5.old _ (by omega),b1,<- hD,<- hcN];simp [cL]
    | 3,_,_ =>
     show H7.get (Hx.next+2)=some (.arr 0 _ (ints (List.replicate ((aq d r).cs n*(aq d r).cd n) 0)));rw[new7 _ (by omega) (by omega),o5.old _ (by omega),b2,z0,<- hD,<- hcN,<- hcD,<- hcE]
    | 4,_,_ =>
     show H7.get (Hx.next+3)=some (.arr 0 _ (ints (List.replicate ((aq d r).cs n) 0)));rw[new7 _ (by omega) (by omega),o5.old _ (by omega),b3,z0,<- hD,<- hcN]
    | 5,_,_ =>
     show H7.get (Hx.next+4+1)=some (.arr 0 _ (ints (List.replicate ((aq d r).cs n) (-1))));rw[new7 _ (by omega) (by omega),b5,<- hD,<- hcN]
   ·have h9:=hB.levs.tab k j (by omega) h2 h3;obtain⟨g,e,c,h8,h7⟩:=mU k j h2;rw[hIo k j a1,old7 k j g e c (by omega) h3 (by rw[h9,h8]) h7,h9]
 have hpt:iU I2 (n+1)=iU I n++[.ptr (Hx.next+4+1+1) 0 0]:=by
  unfold iU;rw[List.range_succ,List.map_append];congr 1
  ·exact List.map_congr_left fun k hk=>by rw[hIo k 0 (by have:=List.mem_range.1 hk;omega)]
  ·simp only[List.map_cons,List.map_nil];rw[hIn];rfl
 have hB7:BldH d r H3.next H1.next (n+1) lv2 I2 H7:=by
  refine⟨g7,by omega,?_,fun k j h1 h2=>?_,fun id g m hv=>?_,levs7,fun h=>absurd h (Nat.succ_ne_zero n)⟩
  ·rw[hpt];refine oP.keep (Nat.le_refl _) (by omega) fun i g _ _ h3 _=>o7 i ?_;rintro rfl;rw[gs6]at h3;cases h3
  ·by_cases a1:k=n
   ·rw[a1];have:=hInr j;omega
   ·rw[hIo k j a1];exact hB.sep k j (by omega) h2
  ·have hid:H6.get id=some (.arr g 170 (iU I n++[.ptr (Hx.next+4+1+1) 0 0])):=by
    rcases oP with ⟨h1,_⟩|⟨i2,g2,_,_,h3,h4⟩
    ·rw[h1]at hv;cases hv
    ·rw[h3]at hv;obtain⟨e1,e2,_⟩:=AVal.own.inj hv;rw[<- e1,<- e2];exact h4
   have hid7:id≠H1.next:=by
    rintro rfl;rw[gs6]at hid;cases hid
   refine⟨hid7,fun k j h1 h2 he=>?_⟩;have h9:=(o7 id hid7).trans hid;rw[he]at h9
   match j,h2 with
   | 0,_ =>
    rw[levs7.lev k h1]at h9;cases h9
   | (j+1),h2 =>
    rw[levs7.tab k (j+1) h1 (by omega) h2]at h9;obtain⟨g3,e3,c3,h8,h7⟩:=mU k (j+1) (by omega);rw[h8]at h9;cases h9;exact h7 rfl
 have wn:=IntWalk.i64_in ((n:Int)+1) (by omega);have key:H3.next<=H7.next/\(∃ (n_1:Nat) (lvh:AVal) (I:Nat->Nat->Nat),AVal.lit (.int .i64 ((n:Int)+1))=AVal.lit (.int .i64 (n_1:Int))/\n_1<=r.length/\H3.next<=H7.next/\(∀ (i:Nat),i<H3.next->¬i=H1.next->H7.get i=H3.get i)/\BldH d r H3.next H1.next n_1 lvh I H7)/\r.length - ((n:Int)+1).toNat<r.length - (iv (ρ 38)).toNat:=by
  refine⟨by omega,⟨n+1,lv2,I2,rfl,by omega,by omega,fun i h1 h2=>?_,hB7⟩,by rw[h38];simp only[aa,aU];omega⟩;rw[o7 i h2,hp6 i (by omega) (hB.lv.ne h1),o5.old i (by omega),o4.old i (by omega),hout i h1 h2]
 rcases hB.lv with ⟨hv0,hv1⟩|⟨i3,g3',q1',q2',hv0,hv1⟩
 ·refine⟨by repeat' (first|refine And.intro ?_ ?_|(intro x hx;omega)),by repeat' (first|refine And.intro ?_ ?_|(intro x hx;omega)),by repeat' (first|refine And.intro ?_ ?_|(intro x hx;omega)),?_⟩;rw[hv0]at hA3;simp only[go_sem,hv0,DQ,hA3,ls6,lv21,lv2c];refine⟨fun x hx=>by omega,?_⟩;refine af _ _ _ (by rfl) ?_;simp only[go_sem,s38,wn];rw[hH7]at key;exact key
 ·rw[jG]at hv0;refine⟨by repeat' (first|refine And.intro ?_ ?_|(intro x hx;omega)),by repeat' (first|refine And.intro ?_ ?_|(intro x hx;omega)),by repeat' (first|refine And.intro ?_ ?_|(intro x hx;omega)),?_⟩;rw[hv0]at hA3;simp only[go_sem,hv0,DQ,hA3,ls6,lv21,lv2c];refine⟨fun x hx=>by omega,?_⟩;refine af _ _ _ (by rfl) ?_;simp only[go_sem,s38,wn];rw[hH7]at key;exact key
theorem PS (l:List Bool)(hl:l.length<2 ^ 40)(ib g:Nat)(H:AHeap)(hg:H.get ib=some (.arr g 4 (cL l)))(K:ARes->AHeap->Prop)(hK:∀ i:Int,(0<=i↔l.contains true=true)->K (.ret (aa i)) H):
  ae Tryz.prog G0 160 [.own ib g 0 l.length 1,.lit (.bool true)] H K:=by
 have lb:=ag hg;have ll:=qS l;have eb:∀ a b:Bool,∀ x y,bp Tryz.prog .eql 4 x y (.lit (.bool a)) (.lit (.bool b))=some (.lit (.bool (a == b))):=fun a b x y=>Go.Proofs.R01.Ov Tryz.underlying4;refine ae.aP (n:=19) (rs:=[.tmp 4]) Tryz.func160 rfl rfl rfl (by decide) (by kernel_rfl) (by simp) ?_;simp only[go_sem,lb];refine W.aK 524080 (by rfl) (fun ρ H'=>H'=H/\∃ k:Nat,ρ 8=aa k/\k<=l.length/\∀ j,j<k->l[j]?=some false) (fun ρ H=>l.length - (iv (ρ 8)).toNat) ?_ ?_
 ·simp only[go_sem];exact⟨0,rfl,by omega,fun j hj=>absurd hj (Nat.not_lt_zero _)⟩
 rintro ρ H' ⟨rfl,k,h8,hk,hno⟩;refine af _ _ _ (by rfl) ?_;by_cases hb:(k:Int)<l.length
 ·obtain⟨b,hkb⟩:=get_of_lt (l:=l) (i:=k) (by omega);have gb:(cL l)[k]?=some (.lit (.bool b)):=by rw[vr,hkb];rfl
  have gbn:=aL gb;have w1:=IntWalk.i64_in ((k:Int)+1) (by omega);cases b with
  | true =>
   simp only[go_sem,h8,hb,lb,gb,eb];exact ar.mk (Nat.le_refl _) (hK k ⟨fun _=>by rw[List.contains_iff_mem];exact List.mem_of_getElem? hkb,fun _=>by omega⟩)
  | false =>
   simp only[go_sem,h8,hb,lb,gb,eb,w1];refine⟨⟨k+1,rfl,by omega,fun j hj=>?_⟩,by omega⟩;rcases Nat.lt_or_eq_of_le (Nat.le_of_lt_succ hj) with h|h
   ·exact hno j h
   ·rw[h];exact hkb
 ·simp only[go_sem,h8,hb];refine ar.mk (Nat.le_refl _) (hK (-1) ⟨fun h=>by omega,fun h=>?_⟩);rw[List.contains_iff_mem]at h;obtain⟨j,hj⟩:=List.mem_iff_getElem?.1 h;have:=hno j (by have:=get_lt hj;omega);rw[this]at hj;cases hj
theorem PT (l:List Bool)(hl:l.length<2 ^ 40)(ib g:Nat)(H:AHeap)(hg:H.get ib=some (.arr g 4 (cL l)))(K:ARes->AHeap->Prop)(hK:K (.ret (.lit (.bool (l.contains true)))) H):
  ae Tryz.prog G0 141 [.own ib g 0 l.length 1,.lit (.bool true)] H K:=by
 refine ae.aP (n:=9) (rs:=[.tmp 4]) Tryz.func141 rfl rfl rfl (by decide) (by kernel_rfl) (by simp) ?_;simp only[go_sem];refine ay.clo (PS l hl ib g H hg _ fun i hi=>⟨trivial,?_⟩);by_cases h0:0<=i
 ·simp only[go_sem,h0];rw[hi.1 h0]at hK;exact ar.mk (Nat.le_refl _) hK
 ·simp only[go_sem,h0];have:l.contains true=false:=by
   rw[<- Bool.not_eq_true];exact fun h=>h0 (hi.2 h)
  rw[this]at hK;exact ar.mk (Nat.le_refl _) hK
def eO (D:DPr)(T:TabS)(k m:Nat)(bad:List Bool):Nat->List Bool
 | 0=>List.replicate m false
 | n+1=>if ((T.oc k).getD n false && !jH (D.cd k) n (T.ex k) (T.be k) (T.ch k) bad)=true then (eO D T k m bad n).set ((T.ab k).getD n 0).toNat true else eO D T k m bad n
theorem qT (D:DPr)(T:TabS)(k m:Nat)(bad:List Bool)(n:Nat):(eO D T k m bad n).length=m:=by
 induction n with
 | zero=>simp [eO]
 | succ n ih=>unfold eO;split<;>simp [ih]
theorem Dq {D:DPr}{T:TabS}{k m:Nat}{bad:List Bool}(b:Nat)(hb:b<m):∀ n,((eO D T k m bad n).getD b false=true↔∃ c,c<n/\((T.ab k).getD c 0).toNat=b/\(T.oc k).getD c false=true/\jH (D.cd k) c (T.ex k) (T.be k) (T.ch k) bad=false):=by
 intro n
 induction n with
 | zero=>simp [eO,List.getD_eq_getElem?_getD,List.getElem?_replicate,hb]
 | succ n ih =>
  unfold eO;by_cases h:((T.oc k).getD n false && !jH (D.cd k) n (T.ex k) (T.be k) (T.ch k) bad)=true
  ·rw[if_pos h];simp only[Bool.and_eq_true,Bool.not_eq_true']at h;by_cases e:((T.ab k).getD n 0).toNat=b
   ·constructor
    ·intro _;exact⟨n,by omega,e,h.1,h.2⟩
    ·intro _;rw[List.getD_eq_getElem?_getD,e,List.getElem?_set_self (by rw[qT];exact hb)];rfl
   ·rw[List.getD_eq_getElem?_getD,List.getElem?_set_ne e,<- List.getD_eq_getElem?_getD,ih];constructor
    ·rintro⟨c,h1,h2⟩;exact⟨c,by omega,h2⟩
    ·rintro⟨c,h1,h2,h3⟩;refine⟨c,?_,h2,h3⟩;rcases Nat.lt_or_eq_of_le (Nat.le_of_lt_succ h1) with h4|h4
     ·exact h4
     ·rw[h4]at h2;exact absurd h2 e
  ·rw[if_neg h,ih];constructor
   ·rintro⟨c,h1,h2⟩;exact⟨c,by omega,h2⟩
   ·rintro⟨c,h1,h2,h3,h4⟩;refine⟨c,?_,h2,h3,h4⟩;rcases Nat.lt_or_eq_of_le (Nat.le_of_lt_succ h1) with h5|h5
    ·exact h5
    ·subst h5;exact absurd (by rw[h3,h4];rfl) h
def iB (D:DPr)(k:Nat):Nat:=if 0<k then D.cs (k - 1)*D.cd (k - 1) else 1
def gO (D:DPr)(T:TabS):Nat->Nat->List Bool
 | 0,k=>List.replicate (D.cs k*D.cd k) false
 | n+1,k=>eO D T (k+1) (D.cs k*D.cd k) (gO D T n (k+1)) (D.cs (k+1))
theorem PU (D:DPr)(T:TabS)(n k:Nat):(gO D T n k).length=D.cs k*D.cd k:=by
 cases n with
 | zero=>simp [gO]
 | succ n=>exact qT ..
def jI (T:TabS):Ch:=fun k c=>if (T.ch k).getD c 0=-1 then none else some ((T.ch k).getD c 0).toNat
def kd (T:TabS)(tot:Int):DTab where
 above k c:=((T.ab k).getD c 0).toNat
 occ k c:=(T.oc k).getD c false
 E k b:=(T.ex k).getD b 0
 B k c:=(T.be k).getD c 0
 T:=tot
structure TabS.Rng (D:DPr)(T:TabS):Prop where
 ab:∀ k c,0<k->k<D.K->c<D.cs k->0<=(T.ab k).getD c 0/\((T.ab k).getD c 0).toNat<D.cs (k - 1)*D.cd (k - 1)
 ch:∀ k c,k<D.K->c<D.cs k->(T.ch k).getD c 0=-1\/0<=(T.ch k).getD c 0
theorem Dr {D:DPr}{T:TabS}{tot:Int}(hR:T.Rng D):∀ (n k:Nat),k+1+n=D.K->∀ c,c<D.cs k->jH (D.cd k) c (T.ex k) (T.be k) (T.ch k) (gO D T n k)=jW D (kd T tot) (jI T) (n+1) k c:=by
 intro n
 induction n with
 | zero =>
  intro k hk c hc;rw[Bool.eq_iff_iff];rw[qE];unfold jH gI;rw[List.any_eq_true];have hm:=hR.ch k c (by omega) hc;constructor
  ·rintro⟨x,hx,h⟩;simp only[Bool.and_eq_true,Bool.or_eq_true,decide_eq_true_eq]at h;refine⟨x,List.mem_range.1 hx,h.1.1,fun c' _ _ _=>rfl,fun y hy=>?_⟩;unfold jI at hy;split at hy
   ·cases hy
   ·rename_i h9;rcases h.2 with h2|h2
    ·exact absurd h2 h9
    ·cases hy;omega
  ·rintro⟨x,hx,h1,_,h3⟩;refine⟨x,List.mem_range.2 hx,?_⟩;simp only[Bool.and_eq_true,Bool.or_eq_true,decide_eq_true_eq];refine⟨⟨h1,?_⟩,?_⟩
   ·unfold gO;rw[List.getD_eq_getElem?_getD,List.getElem?_replicate];split<;>rfl
   ·by_cases h9:(T.ch k).getD c 0=-1
    ·exact .inl h9
    ·right;have:=h3 _ (if_neg h9);omega
 | succ n ih =>
  intro k hk c hc;rw[Bool.eq_iff_iff];rw[qE];unfold jH gI;rw[List.any_eq_true];have hm:=hR.ch k c (by omega) hc;have hbd:∀ x,x<D.cd k->((gO D T (n+1) k).getD (c*D.cd k+x) false=true↔∃ c',c'<D.cs (k+1)/\(kd T tot).above (k+1) c'=c*D.cd k+x/\(kd T tot).occ (k+1) c'=true/\jW D (kd T tot) (jI T) (n+1) (k+1) c'=false):=fun x hx=>by
   have hlt:c*D.cd k+x<D.cs k*D.cd k:=by
    have h3:(c+1)*D.cd k<=D.cs k*D.cd k:=Nat.mul_le_mul_right _ hc;rw[Nat.add_mul,Nat.one_mul]at h3;omega
   unfold gO;rw[Dq _ hlt];constructor
   ·rintro⟨c',h1,h2,h3,h4⟩;exact⟨c',h1,h2,h3,by rw[<- ih (k+1) (by omega) c' h1];exact h4⟩
   ·rintro⟨c',h1,h2,h3,h4⟩;exact⟨c',h1,h2,h3,by rw[ih (k+1) (by omega) c' h1];exact h4⟩
  constructor
  ·rintro⟨x,hx,h⟩;simp only[Bool.and_eq_true,Bool.or_eq_true,decide_eq_true_eq,Bool.not_eq_true']at h;have hx':=List.mem_range.1 hx;refine⟨x,hx',h.1.1,fun c' h1 h2 h3=>?_,fun y hy=>?_⟩
   ·cases hal:jW D (kd T tot) (jI T) (n+1) (k+1) c' with
    | true=>rfl
    | false =>
     have:=(hbd x hx').2 ⟨c',h1,h2,h3,hal⟩;rw[h.1.2]at this;cases this
   ·unfold jI at hy;split at hy
    ·cases hy
    ·rename_i h9;rcases h.2 with h2|h2
     ·exact absurd h2 h9
     ·cases hy;omega
  ·rintro⟨x,hx,h1,h2,h3⟩;refine⟨x,List.mem_range.2 hx,?_⟩;simp only[Bool.and_eq_true,Bool.or_eq_true,decide_eq_true_eq,Bool.not_eq_true'];refine⟨⟨h1,?_⟩,?_⟩
   ·rw[<- Bool.not_eq_true];intro h;obtain⟨c',a1,a2,a3,a4⟩:=(hbd x hx).1 h;rw[h2 c' a1 a2 a3]at a4;cases a4
   ·by_cases h9:(T.ch k).getD c 0=-1
    ·exact .inl h9
    ·right;have:=h3 _ (if_neg h9);omega
def jJ (D:DPr)(T:TabS):Bool:=if D.K=0 then true else !(eO D T 0 1 (gO D T (D.K - 1) 0) (D.cs 0)).contains true
theorem PV {D:DPr}{T:TabS}{tot:Int}(hR:T.Rng D)(h0:∀ c,c<D.cs 0->((T.ab 0).getD c 0).toNat=0):jJ D T=true↔jC D (kd T tot) (jI T):=by
 unfold jJ jC;by_cases hK:D.K=0
 ·rw[if_pos hK];exact⟨fun _ h=>by omega,fun _=>rfl⟩
 rw[if_neg hK];have hmem:(eO D T 0 1 (gO D T (D.K - 1) 0) (D.cs 0)).contains true=true↔(eO D T 0 1 (gO D T (D.K - 1) 0) (D.cs 0)).getD 0 false=true:=by
  have hl:=qT D T 0 1 (gO D T (D.K - 1) 0) (D.cs 0)
  match hsp:eO D T 0 1 (gO D T (D.K - 1) 0) (D.cs 0),hl with
  | [a],_=>cases a<;>simp
 rw[Bool.not_eq_true',<- Bool.not_eq_true,hmem,Dq 0 (by omega)];constructor
 ·intro h _ c hc ho;cases hal:jW D (kd T tot) (jI T) D.K 0 c with
  | true=>rfl
  | false =>
   refine absurd ⟨c,hc,h0 c hc,ho,?_⟩ h;rw[Dr (tot:=tot) hR (D.K - 1) 0 (by omega) c hc,show D.K - 1+1=D.K by omega];exact hal
 ·rintro h ⟨c,h1,_,h3,h4⟩;have:=h (by omega) c h1 h3;rw[Dr (tot:=tot) hR (D.K - 1) 0 (by omega) c h1,show D.K - 1+1=D.K by omega]at h4;rw[this]at h4;cases h4
def mO (D:DPr)(T:TabS)(j:Nat):List Bool:=eO D T j (iB D j) (gO D T (D.K - 1 - j) j) (D.cs j)
theorem PW {D:DPr}{T:TabS}{j:Nat}(h0:0<j)(hj:j<D.K):mO D T j=gO D T (D.K - 1 - (j - 1)) (j - 1):=by
 obtain⟨m,rfl⟩:∃ m,j=m+1:=⟨j - 1,by omega⟩
 have e:D.K - 1 - (m+1 - 1)=(D.K - 1 - (m+1))+1:=by omega
 rw[e];unfold mO iB;rw[if_pos h0,Nat.add_sub_cancel];rfl
theorem PX (D:DPr)(T:TabS)(j:Nat):(mO D T j).length=iB D j:=qT ..
theorem PY (H:AHeap)(K:ARes->AHeap->Prop)(hK:K (.ret (.lit (.bool false))) H):ae Tryz.prog G0 141 [.lit (.slice none 0 0),.lit (.bool true)] H K:=by
 have h1:ae Tryz.prog G0 160 [.lit (.slice none 0 0),.lit (.bool true)] H fun r H'=>r=.ret (aa (-1))/\H'=H:=by
  refine ae.aP (n:=19) (rs:=[.tmp 4]) Tryz.func160 rfl rfl rfl (by decide) (by kernel_rfl) (by simp) ?_;simp only[go_sem];refine W.aK 524080 (by rfl) (fun ρ H'=>H'=H/\ρ 8=aa 0) (fun ρ H=>0) ?_ ?_
  ·simp only[go_sem]
  rintro ρ H' ⟨rfl,h8⟩;refine af _ _ _ (by rfl) ?_;simp only[go_sem,h8];exact ar.mk (Nat.le_refl _) ⟨rfl,rfl⟩
 refine ae.aP (n:=9) (rs:=[.tmp 4]) Tryz.func141 rfl rfl rfl (by decide) (by kernel_rfl) (by simp) ?_;simp only[go_sem];refine ay.clo (h1.mono fun rr H2 hrr=>?_);obtain⟨rfl,rfl⟩:=hrr;refine⟨trivial,?_⟩;simp only[go_sem];exact ar.mk (Nat.le_refl _) hK
set_option maxHeartbeats 4000000 in
theorem PZ {d:InfP}{r:List Nat}(hrl:r.length<=64){lo s:Nat}{lvh:AVal}{I:Nat->Nat->Nat}{T:TabS}{tot:Int}(hsz:∀ k,k<r.length->1<=(aq d r).cs k/\(aq d r).cs k<=1024/\1<=(aq d r).cd k/\(aq d r).cd k<=4/\(aq d r).cs k*(aq d r).cd k<=4096)(hR:T.Rng (aq d r))(h00:∀ c,c<(aq d r).cs 0->((T.ab 0).getD c 0)=0)
  (H:AHeap) (hS:SolvH d r lo s lvh I T tot H) (K:ARes->AHeap->Prop) (hK:K (.ret (.lit (.bool (jJ (aq d r) T)))) H):
  ae Tryz.prog G0 112 [.ptr s 0 0] H K:=by
 refine ae.clo ⟨_,Tryz.func112,rfl,rfl⟩ fun hcl=>?_;obtain⟨D,hD⟩:∃ D,D=aq d r:=⟨_,rfl⟩
 have hDK:D.K=r.length:=by rw[hD];rfl
 rw[<- hD]at hsz hR h00 hK;have hB0:=hS.tc;refine ae.d4 (n:=79) (rs:=[.tmp 2]) Tryz.func112 rfl rfl rfl (by decide) (by simp) ?_;refine W.seq (af _ _ _ (by rfl) ?_);simp only[go_sem];refine W.seq (af _ _ _ (by rfl) ?_);simp only[go_sem];obtain⟨H1,hH1⟩:∃ H1,H1=ext H [.arr 0 110 [.ptr s 0 0],.arr 0 171 [.lit (.slice none 0 0)]]:=⟨_,rfl⟩
 have g0:H1.get H.next=some (.arr 0 110 [.ptr s 0 0]):=by rw[hH1];exact bR ..
 have g1:H1.get (H.next+1)=some (.arr 0 171 [.lit (.slice none 0 0)]):=by rw[hH1];exact aZ H _ 1 (by simp)
 have n1:H1.next=H.next+2:=by rw[hH1];rfl
 have o1:Over H H1:=by rw[hH1];exact .ext _ _
 have hform:H1=ext (ext H [.arr 0 110 [.ptr s 0 0]]) [.arr 0 171 [.lit (.slice none 0 0)]]:=by rw[hH1,dH];rfl
 try rw[<- hH1]
 try rw[<- hform]
 clear hH1 hform;have l0:=ag g0;refine W.env fun E hE=>?_;have e1:E 1=.ptr H.next 0 0:=by rw[hE];simp only[go_sem]
 have e3:E 3=.ptr (H.next+1) 0 0:=by rw[hE];simp only[go_sem]
 clear hE;refine W.seq (af _ _ _ (by rfl) ?_);simp only[go_sem,e1,l0];refine ay.clo (DO s H1 _ ⟨trivial,?_⟩);simp only[go_sem];obtain⟨H2,hH2⟩:∃ H2,H2=ext H1 [.arr 0 110 [.ptr s 0 0]]:=⟨_,rfl⟩
 have n2:H2.next=H1.next+1:=by rw[hH2];rfl
 have o2:Over H1 H2:=by rw[hH2];exact .ext _ _
 have gbx:H2.get H1.next=some (.arr 0 110 [.ptr s 0 0]):=by rw[hH2];exact bL
 rw[<- hH2];clear hH2;refine W.env fun E2 hE2=>?_;have f1:E2 1=.ptr H.next 0 0:=by rw[hE2];simp only[go_sem,e1]
 have f3:E2 3=.ptr (H.next+1) 0 0:=by rw[hE2];simp only[go_sem,e3]
 have f10:E2 10=.clo 137 [] [.ptr H1.next 0 0]:=by rw[hE2];rfl
 clear hE2 e1 e3;have hS2:SolvH d r lo s lvh I T tot H2:=hS.iW hB0 (by omega) fun i hi=>(o2.old i (by omega)).trans (o1.old i hi);have g02:=(o2.old _ (by omega)).trans g0;have g12:=(o2.old _ (by omega)).trans g1;refine W.pA (f:=137) (first:=[]) (cap:=[.ptr H1.next 0 0]) (by show E2 10=_;exact f10) (DN d s H1.next r.length hrl)
  (fun k Hy=>H2.next<Hy.next/\(∀ i,i<H2.next->i≠H.next+1->Hy.get i=H2.get i)/\(k=0/\Hy.get (H.next+1)=some (.arr 0 171 [.lit (.slice none 0 0)])\/0<k/\∃ ib,H2.next<ib/\ib<Hy.next/\Hy.get (H.next+1)=some (.arr 0 171 [.own ib 0 0 (iB D (r.length - k)) 1])/\Hy.get ib=some (.arr 0 4 (cL (mO D T (r.length - k))))))
  (fun _ _=>False)
  (fun k Hy h=>⟨(h.2.1 _ (by omega) (by omega)).trans gbx,_,_,(h.2.1 _ (by have:=hB0.1;omega) (by have:=hB0.1;omega)).trans hS2.top,(hS2.iW hB0 (by omega) fun i hi=>h.2.1 i (by omega) (by omega)).len⟩)
  (fun k Hy b h=>⟨h.1,fun i h1 h2=>by rw[aj,if_neg (by omega)];exact h.2.1 i h1 h2,by
   rcases h.2.2 with ⟨h1,h2⟩|⟨h1,ib,h2,h3,h4,h5⟩
   ·exact .inl ⟨h1,by rw[aj,if_neg (by omega)];exact h2⟩
   ·exact .inr ⟨h1,ib,h2,h3,by rw[aj,if_neg (by omega)];exact h4,by rw[aj,if_neg (by omega)];exact h5⟩⟩)
  (fun _ _ _ h=>h)
  (fun b=>⟨by rw[aY];simp,fun i h1 _=>bE h1,.inl ⟨rfl,by rw[bE (by omega)];exact g12⟩⟩)
  (by decide) (fun x hx=>by rw[DM x hx];rfl) (fun _ _ _=>trivial) (fun _ _ _=>trivial) (fun k y Hy B Bb hy hj hn hBq hBb=>?_) (fun Hy hj hn=>?_) (fun _ hs _=>hs.elim) (fun _ _ hs _=>hs.elim)
 ·obtain⟨hk,rfl⟩:=DL hy;obtain⟨kk,hkk⟩:∃ kk,kk=r.length - 1 - k:=⟨_,rfl⟩
  have e1:(r.length:Int) - 1 - (k:Int)=(kk:Int):=by omega
  have e2:r.length - k=kk+1:=by omega
  have e3:r.length - (k+1)=kk:=by omega
  have hkl:kk<r.length:=by omega
  rw[e1];rw[e2]at hj;rw[e3];refine af _ _ _ (by rfl) ?_;simp only[go_sem,gX,bh,jr,List.foldl_cons,List.foldl_nil,List.zip_cons_cons,List.zip_nil_right,hBq];obtain⟨H3,hH3⟩:∃ H3,H3=Hy.upd H2.next Bb:=⟨_,rfl⟩
  rw[<- hH3];obtain⟨st,pd,n',en,ps',as',bo,hBe⟩:=hBb;have n3:H3.next=Hy.next:=by rw[hH3];rfl
  have o3:∀ id,id≠H2.next->H3.get id=Hy.get id:=fun id h=>by rw[hH3,aj,if_neg h]
  have jB:H3.get H2.next=some Bb:=by rw[hH3,aj,if_pos rfl]
  clear hH3;have old3:∀ i,i<H2.next->i≠H.next+1->H3.get i=H2.get i:=fun i h1 h2=>(o3 i (by omega)).trans (hj.2.1 i h1 h2);have hS3:SolvH d r lo s lvh I T tot H3:=hS2.iW hB0 (by omega) fun i hi=>old3 i (by omega) (by omega);have lp3:=ag ((old3 H.next (by omega) (by omega)).trans g02);have ls3:=ag hS3.top;obtain⟨il,gl,hlv,glv,_,_⟩:=hS3.vu hkl;have llv:=ag glv;have lk:=ag (hS3.levs.lev kk hkl);rw[<- hD]at lk;simp only[fY]at lk;have hpk:=sV (I:=I) hkl;have hpn:=aL hpk;have hpl:=jG I r.length;have hki:(kk:Int)<r.length:=by omega
  refine W.env fun E3 hE3=>?_;have m1:E3 1=.ptr H.next 0 0:=by rw[hE3];simp only[go_sem,bh,f1]
  have m3:E3 3=.ptr (H.next+1) 0 0:=by rw[hE3];simp only[go_sem,bh,f3]
  have m4:E3 4=aa kk:=by rw[hE3];simp only[go_sem,bh]
  clear hE3;refine W.block ?_;refine W.seq (af _ _ _ (by rfl) ?_);simp only[go_sem,m1,m4,lp3,ls3,hlv,llv,hpk,hki];obtain⟨cs1,cs2,cd1,cd2,csd⟩:=hsz kk hkl;obtain⟨cE,hcE⟩:∃ cE,cE=D.cs kk*D.cd kk:=⟨_,rfl⟩
  rw[<- hcE]at csd lk;have hexl:(T.ex kk).length=cE:=by rw[hS3.levs.len.ex kk hkl,<- hD,<- hcE]
  have l3t:H3.live (I kk 3) 0=some (3,ints (T.ex kk)):=ag (hS3.levs.tab kk 3 hkl (by omega) (by omega));have ll3:(ints (T.ex kk)).length=cE:=by rw[aR];exact hexl
  refine W.env fun E4 hE4=>?_;have q1:E4 1=.ptr H.next 0 0:=by rw[hE4];simp only[go_sem,m1]
  have q3:E4 3=.ptr (H.next+1) 0 0:=by rw[hE4];simp only[go_sem,m3]
  have q4:E4 4=aa kk:=by rw[hE4];simp only[go_sem,m4]
  have q5:E4 5=.ptr (I kk 0) 0 0:=by rw[hE4];simp only[go_sem]
  clear hE4;have hcE0:(0:Int)<=cE:=by omega
  have g3sv:H3.get (H.next+1)=Hy.get (H.next+1):=o3 _ (by omega);obtain⟨Φ,hΦ⟩:∃ Φ:St->Prop,∀ s',Φ s'↔(s'.ρ 1=.ptr H.next 0 0/\s'.ρ 3=.ptr (H.next+1) 0 0/\s'.ρ 4=aa kk/\s'.ρ 5=.ptr (I kk 0) 0 0/\H3.next<=s'.H.next/\(∀ i,i<H3.next->s'.H.get i=H3.get i)/\∃ ibd,s'.ρ 6=.own ibd 0 0 cE 1/\H2.next<ibd/\ibd<s'.H.next/\s'.H.get ibd=some (.arr 0 4 (cL (gO D T (D.K - 1 - kk) kk)))):=⟨_,fun _=>Iff.rfl⟩
  refine W.jR (fun s'=>s'.H=H3/\s'.ρ 1=.ptr H.next 0 0/\s'.ρ 3=.ptr (H.next+1) 0 0/\s'.ρ 4=aa kk/\s'.ρ 5=.ptr (I kk 0) 0 0/\(k=0/\s'.ρ 6=.lit (.slice none 0 0)\/0<k/\∃ ib,H2.next<ib/\ib<H3.next/\s'.ρ 6=.own ib 0 0 (iB D (kk+1)) 1/\H3.get ib=some (.arr 0 4 (cL (mO D T (kk+1)))))) ?_ ?_
  ·refine af _ _ _ (by rfl) ?_;rcases hj.2.2 with ⟨hk0,hsv⟩|⟨hk0,ib,i1,i2,i3,i4⟩
   ·have lsv:=ag (g3sv.trans hsv);simp only[go_sem,q1,q3,q4,q5,lsv];exact .inl hk0
   ·have lsv:=ag (g3sv.trans i3);simp only[go_sem,q1,q3,q4,q5,lsv];exact⟨hk0,ib,i1,by omega,rfl,(o3 ib (by omega)).trans i4⟩
  rintro⟨ρ5,Hq⟩ ⟨hHq,r1,r3,r4,r5,hsp⟩;simp only at hHq r1 r3 r4 r5 hsp;rw[hHq];clear hHq Hq q1 q3 q4 q5;refine W.jR Φ ?_ ?_
  ·refine af _ _ _ (by rfl) ?_;rcases hsp with ⟨hk0,r6⟩|⟨hk0,ib,i1,i2,r6,i4⟩
   ·have enil:∀ x y,bp Tryz.prog .eql 171 x y (.lit (.slice none 0 0)) (.lit (.slice none 0 0))=some (.lit (.bool true)):=fun x y=>by rfl
    simp only[go_sem,r5,r6,lk,l3t,hcE0,enil];refine⟨by omega,(hΦ _).2 ⟨by simp only[go_sem,r1],by simp only[go_sem,r3],by simp only[go_sem,r4],by simp only[go_sem,r5],Nat.le_succ _,fun i h=>bE h,H3.next,by simp only[go_sem],by omega,Nat.lt_succ_self _,?_⟩⟩;rw[bL,show D.K - 1 - kk=0 by omega];unfold gO;rw[<- hcE];simp [cL]
   ·have hbr:0<iB D (kk+1):=by
     unfold iB;rw[if_pos (by omega),Nat.add_sub_cancel];exact Nat.mul_pos (by omega) (by omega)
    have lib:=ag i4;simp only[go_sem,r6,AA,lib,hbr];intro b hb;subst hb;simp only[go_sem];have hbE:iB D (kk+1)=cE:=(by unfold iB;rw[if_pos (by omega),Nat.add_sub_cancel,hcE]);have hsb:=PW (D:=D) (T:=T) (j:=kk+1) (by omega) (by omega);rw[Nat.add_sub_cancel]at hsb;exact(hΦ _).2 ⟨by simp only[go_sem,r1],by simp only[go_sem,r3],by simp only[go_sem,r4],by simp only[go_sem,r5],Nat.le_refl _,fun i h=>rfl,ib,by simp only[go_sem,r6,hbE],i1,i2,by rw[<- hsb];exact i4⟩
  rintro⟨ρ6,H4⟩ hΦ6;obtain⟨v1,v3,v4,v5,n4,o4,ibd,v6,d1,d2,d3⟩:=(hΦ _).1 hΦ6;simp only at v1 v3 v4 v5 n4 o4 v6 d2 d3;clear hΦ6 r1 r3 r4 r5 hsp;refine W.seq (af _ _ _ (by rfl) ?_);simp only[go_sem];have hS4:SolvH d r lo s lvh I T tot H4:=hS3.iW hB0 n4 fun i hi=>o4 i (by omega);have lp4:=ag ((o4 H.next (by omega)).trans ((old3 H.next (by omega) (by omega)).trans g02));have ls4:=ag hS4.top;have llv4:=ag ((o4 il (by have:=hB0.2.2 _ _ _ hlv;omega)).trans glv);refine W.jR (fun s'=>s'.H=H4/\s'.ρ 3=.ptr (H.next+1) 0 0/\s'.ρ 4=aa kk/\s'.ρ 5=.ptr (I kk 0) 0 0/\s'.ρ 6=.own ibd 0 0 cE 1/\s'.ρ 7=aa (iB D kk)) ?_ ?_
  ·refine af _ _ _ (by rfl) ?_;by_cases hk1:(0:Int)<kk
   ·have hk1':kk - 1<r.length:=(by omega);have hpk1:=sV (I:=I) hk1';have hpn1:=aL hpk1;have l14:=ag (hS4.levs.lev (kk - 1) hk1');rw[<- hD]at l14;simp only[fY]at l14;have l1e:H4.live (I (kk - 1) 3) 0=some (3,ints (T.ex (kk - 1))):=ag (hS4.levs.tab (kk - 1) 3 hk1' (by omega) (by omega));have ll1:(ints (T.ex (kk - 1))).length=D.cs (kk - 1)*D.cd (kk - 1):=(by rw[aR,hS4.levs.len.ex (kk - 1) hk1',<- hD]);have w5:=IntWalk.i64_in ((kk:Int) - 1) (by omega);have ek:(kk:Int) - 1=((kk - 1:Nat):Int):=(by omega);rw[ek]at w5;have hk1i:((kk - 1:Nat):Int)<r.length:=(by omega);simp only[go_sem,v1,v3,v4,v5,v6,hk1,lp4,ls4,hlv,llv4,ek,w5,hk1i,hpk1,l14,l1e];have:iB D kk=D.cs (kk - 1)*D.cd (kk - 1):=if_pos (by omega);rw[this]
   ·simp only[go_sem,v3,v4,v5,v6,hk1];have:iB D kk=1:=if_neg (by omega);rw[this];rfl
  rintro⟨ρ7,Hq⟩ ⟨hHq,x3,x4,x5,x6,x7⟩;simp only at hHq x3 x4 x5 x6 x7;rw[hHq];clear hHq Hq v1 v3 v4 v5 v6;obtain⟨bN,hbN⟩:∃ bN,bN=iB D kk:=⟨_,rfl⟩
  rw[<- hbN]at x7;have hbN4:1<=bN/\bN<=4096:=by
   rw[hbN];unfold iB;split
   ·have:=hsz (kk - 1) (by omega);exact⟨Nat.mul_pos (by omega) (by omega),this.2.2.2.2⟩
   ·exact⟨Nat.le_refl _,by decide⟩
  have hbN0:(0:Int)<=bN:=by omega
  obtain⟨svc,hsvc⟩:∃ svc,H4.get (H.next+1)=some (.arr 0 171 [svc]):=by
   rcases hj.2.2 with ⟨_,h2⟩|⟨_,ib,_,_,h4,_⟩
   ·exact⟨_,(o4 _ (by omega)).trans (g3sv.trans h2)⟩
   ·exact⟨_,(o4 _ (by omega)).trans (g3sv.trans h4)⟩
  have lsvE:∀ L,(ext H4 L).live (H.next+1) 0=_:=fun L=>(eT (by omega)).trans (ag hsvc);refine W.seq (af _ _ _ (by rfl) ?_);simp only[go_sem,x3,x7,hbN0,lsvE];refine⟨by omega,?_⟩;obtain⟨H5,hH5⟩:∃ H5,H5=(ext H4 [.arr 0 4 (List.replicate bN (.lit (.bool false)))]).upd (H.next+1) (.arr 0 171 [.own H4.next 0 0 bN 1]):=⟨_,rfl⟩
  rw[<- hH5];have n5:H5.next=H4.next+1:=by rw[hH5];rfl
  have o5:∀ i,i<H4.next->i≠H.next+1->H5.get i=H4.get i:=fun i h1 h2=>by rw[hH5,aj,if_neg h2,bE h1]
  have b5:H5.get (H.next+1)=some (.arr 0 171 [.own H4.next 0 0 bN 1]):=by rw[hH5,aj,if_pos rfl]
  have c5:H5.get H4.next=some (.arr 0 4 (cL (eO D T kk bN (gO D T (D.K - 1 - kk) kk) 0))):=by rw[hH5,aj,if_neg (by omega),bL];simp [eO,cL]
  clear hH5;have hS5:SolvH d r lo s lvh I T tot H5:=hS4.iW hB0 (by omega) fun i hi=>o5 i (by omega) (by omega);have lk5:=ag (hS5.levs.lev kk hkl);rw[<- hD]at lk5;simp only[fY]at lk5;have lbe:H5.live (I kk 4) 0=some (3,ints (T.be kk)):=ag (hS5.levs.tab kk 4 hkl (by omega) (by omega));have llb:(ints (T.be kk)).length=D.cs kk:=by rw[aR,hS5.levs.len.be kk hkl,<- hD]
  refine W.env fun E7 hE7=>?_;have y3:E7 3=.ptr (H.next+1) 0 0:=by rw[hE7];simp only[go_sem,x3]
  have y4:E7 4=aa kk:=by rw[hE7];simp only[go_sem,x4]
  have y5:E7 5=.ptr (I kk 0) 0 0:=by rw[hE7];simp only[go_sem,x5]
  have y6:E7 6=.own ibd 0 0 cE 1:=by rw[hE7];simp only[go_sem,x6]
  clear hE7 x3 x4 x5 x6 x7;refine W.seq (af _ _ _ (by rfl) ?_);simp only[go_sem,y5,lk5,lbe];refine W.env fun E8 hE8=>?_;have z3:E8 3=.ptr (H.next+1) 0 0:=by rw[hE8];simp only[go_sem,y3]
  have z5:E8 5=.ptr (I kk 0) 0 0:=by rw[hE8];simp only[go_sem,y5]
  have z6:E8 6=.own ibd 0 0 cE 1:=by rw[hE8];simp only[go_sem,y6]
  have z48:E8 48=aa (D.cs kk):=by rw[hE8];simp only[go_sem]
  have z49:E8 49=aa 0:=by rw[hE8];simp only[go_sem]
  clear hE8 y3 y4 y5 y6;obtain⟨bad,hbad⟩:∃ b,b=gO D T (D.K - 1 - kk) kk:=⟨_,rfl⟩
  rw[<- hbad]at d3 c5;have hbadl:bad.length=cE:=by rw[hbad,PU,hcE]
  refine W.block ?_;refine W.aK 75557863162964369998080 (by rfl) (fun ρ Hz=>∃ c:Nat,ρ 49=aa c/\c<=D.cs kk/\Hz.next=H5.next/\(∀ i,i<H5.next->i≠H4.next->Hz.get i=H5.get i)/\Hz.get H4.next=some (.arr 0 4 (cL (eO D T kk bN bad c)))) (fun ρ Hz=>D.cs kk - (iv (ρ 49)).toNat) ?_ ?_
  ·simp only[go_sem,z49];exact⟨0,rfl,by omega,c5⟩
  rintro ρ8 Hz ⟨c,h49,hc,nz,oz,gz⟩;have hSz:SolvH d r lo s lvh I T tot Hz:=hS5.iW hB0 (by omega) fun i hi=>oz i (by omega) (by omega);refine W.env fun E9 hE9=>?_;have u3:E9 3=.ptr (H.next+1) 0 0:=by rw[hE9];simp only[go_sem,z3]
  have u5:E9 5=.ptr (I kk 0) 0 0:=by rw[hE9];simp only[go_sem,z5]
  have u6:E9 6=.own ibd 0 0 cE 1:=by rw[hE9];simp only[go_sem,z6]
  have u48:E9 48=aa (D.cs kk):=by rw[hE9];simp only[go_sem,z48]
  have u49:E9 49=aa c:=by rw[hE9];simp only[go_sem,h49]
  clear hE9;have bz:=(oz (H.next+1) (by omega) (by omega)).trans b5;have dz:=(oz ibd (by omega) (by omega)).trans ((o5 ibd d2 (by omega)).trans d3);by_cases hb:(c:Int)<D.cs kk;rotate_left
  ·refine af _ _ _ (by rfl) ?_;simp only[go_sem,u48,u49,hb,eE];have hcc:c=D.cs kk:=(by omega);refine⟨?_,by omega,by omega,fun i h1 h2=>?_,by omega,H4.next,by omega,by omega,by rw[bz,hbN],?_⟩
   ·rw[oz _ (by omega) (by omega),o5 _ (by omega) (by omega),o4 _ (by omega)];exact jB
   ·rw[oz i (by omega) (by omega),o5 i (by omega) h2,o4 i (by omega)];exact old3 i h1 h2
   ·rw[gz,hcc,hbad,hbN];rfl
  refine W.seq (af _ _ _ (by rfl) ?_);simp only[go_sem,u48,u49,hb];refine W.seq (af _ _ _ (by rfl) ?_);simp only[go_sem];refine W.seq (W.block ?_);refine W.seq (af _ _ _ (by rfl) ?_);simp only[go_sem,u49];have lzk:=ag (hSz.levs.lev kk hkl);rw[<- hD]at lzk;simp only[fY]at lzk;have lzo:Hz.live (I kk 2) 0=some (4,cL (T.oc kk)):=ag (hSz.levs.tab kk 2 hkl (by omega) (by omega));have lzol:(T.oc kk).length=D.cs kk:=by rw[hSz.levs.len.oc kk hkl,<- hD]
  obtain⟨o,ho⟩:=get_of_lt (l:=T.oc kk) (i:=c) (by omega);have go:(cL (T.oc kk))[c]?=some (.lit (.bool o)):=by rw[vr,ho];rfl
  have gon:=aL go;have llo:(cL (T.oc kk)).length=D.cs kk:=by rw[qS];exact lzol
  have wc:=IntWalk.i64_in ((c:Int)+1) (by omega);have hLz:=hSz.levs;rw[<- hD]at hLz;obtain⟨ab,hab⟩:∃ b,b=jH (D.cd kk) c (T.ex kk) (T.be kk) (T.ch kk) bad:=⟨_,rfl⟩
  have hspn:eO D T kk bN bad (c+1)=if (o && !ab)=true then (eO D T kk bN bad c).set ((T.ab kk).getD c 0).toNat true else eO D T kk bN bad c:=by
   show (if ((T.oc kk).getD c false && !jH (D.cd kk) c (T.ex kk) (T.be kk) (T.ch kk) bad)=true then _ else _)=_;rw[gM ho,<- hab]
  refine W.jR (fun s'=>s'.H=Hz/\s'.ρ 3=.ptr (H.next+1) 0 0/\s'.ρ 5=.ptr (I kk 0) 0 0/\s'.ρ 8=aa c/\s'.ρ 49=aa c/\s'.ρ 65=.lit (.bool (o && !ab))) ?_ ?_
  ·refine af _ _ _ (by rfl) ?_;cases o with
   | false =>
    simp only[go_sem,u3,u5,u49,lzk,lzo,go,hb]
    try rfl
   | true =>
    simp only[go_sem,u5,u6,lzk,lzo,go,hb];rw[hcE];refine ay.clo (PO (D:=D) hkl (by omega) (by omega) (by omega) ibd 0 bad (by rw[hbadl,hcE]) Hz hLz dz _ ⟨?_,?_⟩)
    ·exact⟨st,pd,n',en,ps',as',bo,by rw[oz _ (by omega) (by omega),o5 _ (by omega) (by omega),o4 _ (by omega),jB,hBe]⟩
    ·rw[<- hab];cases hq:ab
     ·simp only[go_sem];exact⟨u3,u5,u49⟩
     ·simp only[go_sem];exact⟨u3,u5,u49,rfl⟩
  rintro⟨ρ9,Hq⟩ ⟨hHq,p3,p5,p8,p49,p65⟩;simp only at hHq p3 p5 p8 p49 p65;rw[hHq];clear hHq Hq u3 u5 u6 u48 u49;have hlz:Hz.get H2.next=some (.loop st pd n' en ps' as' bo):=by rw[oz _ (by omega) (by omega),o5 _ (by omega) (by omega),o4 _ (by omega),jB,hBe]
  cases hfl:(o && !ab) with
  | false =>
   rw[hfl]at p65 hspn;rw[if_neg (by decide)]at hspn;refine W.cond (t:=false) p65 ?_;refine af _ _ _ (by rfl) ?_;simp only[go_sem];refine af _ _ _ (by rfl) ?_;simp only[go_sem,p49,wc];exact⟨by omega,⟨st,pd,n',en,ps',as',bo,hlz⟩,⟨c+1,rfl,by omega,nz,oz,by rw[hspn];exact gz⟩,by rw[h49];simp only[aa,aU];omega⟩
  | true =>
   rw[hfl]at p65 hspn;rw[if_pos rfl]at hspn;refine W.cond (t:=true) p65 ?_;have lza:Hz.live (I kk 1) 0=some (3,ints (T.ab kk)):=ag (hSz.levs.tab kk 1 hkl (by omega) (by omega));have lzal:(T.ab kk).length=D.cs kk:=(by rw[hSz.levs.len.ab kk hkl,<- hD]);obtain⟨av,hav⟩:=get_of_lt (l:=T.ab kk) (i:=c) (by omega);have hav2:=gM (z:=0) hav;have hrng:0<=av/\av.toNat<bN:=by
    rw[<- hav2,hbN];unfold iB;by_cases hk1:0<kk
    ·rw[if_pos hk1];exact hR.ab kk c hk1 (by omega) (by omega)
    ·have h0:kk=0:=(by omega);rw[if_neg hk1,h0];have:=h00 c (by rw[<- h0];omega);omega
   obtain⟨aN,rfl⟩:=Int.eq_ofNat_of_zero_le hrng.1;have ga:(ints (T.ab kk))[c]?=some (aa aN):=(by rw[d9,hav];rfl);have gan:=aL ga;have lla:(ints (T.ab kk)).length=D.cs kk:=(by rw[aR];exact lzal);have lbz:=ag bz;have lgz:=ag gz;have llz:(cL (eO D T kk bN bad c)).length=bN:=(by rw[qS,qT]);have aNi:(aN:Int)<bN:=(by omega);have es:setAt (cL (eO D T kk bN bad c)) aN [.lit (.bool true)]=cL (eO D T kk bN bad (c+1)):=by
    rw[Dl (by rw[qT];omega),hspn,hav2];rfl
   refine W.draw 8 [0,0,2,6,14,0,62,126] Tryz.mixed (by kernel_rfl) (by kernel_rfl) ?_;simp only[go_sem,p3,p5,p8,lbz,lgz,llz,lzk,lza,ga,hb,aNi,es];refine⟨by omega,?_⟩;refine af _ _ _ (by rfl) ?_;simp only[go_sem,p49,wc];exact⟨by rw[aG];omega,⟨st,pd,n',en,ps',as',bo,by rw[aj,if_neg (by omega)];exact hlz⟩,⟨c+1,rfl,by omega,by rw[aG];exact nz,fun i h1 h2=>by rw[aj,if_neg h2];exact oz i h1 h2,by rw[aj,if_pos rfl]⟩,by rw[h49];simp only[aa,aU];omega⟩
 ·simp only[go_sem];have hov:Over H Hy:=⟨by omega,fun i hi=>by rw[hj.2.1 i (by omega) (by omega),o2.old i (by omega),o1.old i hi]⟩
  rw[vF]at hj;rcases hj.2.2 with ⟨h1,h2⟩|⟨h1,ib,h2,h3,h4,h5⟩
  ·have lsv:=ag h2;refine af _ _ _ (by rfl) ?_;simp only[go_sem,f3,lsv];refine ay.clo (PY _ _ ⟨trivial,?_⟩);simp only[go_sem];have:jJ D T=true:=(by unfold jJ;rw[if_pos (by omega)]);rw[this]at hK;exact ar.bB aI hcl hov (.lit _) hK
  ·rw[Nat.sub_self]at h4 h5;have lsv:=ag h4;have hb0:iB D 0=1:=if_neg (by omega);have hl:=PX D T 0;rw[<- hl]at lsv;refine af _ _ _ (by rfl) ?_;simp only[go_sem,f3,lsv];refine ay.clo (PT (mO D T 0) (by rw[hl,hb0];decide) ib 0 Hy h5 _ ⟨trivial,?_⟩);have hfe:jJ D T=!(mO D T 0).contains true:=by
    unfold jJ mO;rw[if_neg (by omega),hb0];rfl
   rw[hfe]at hK;cases hcb:(mO D T 0).contains true with
   | true =>
    rw[hcb]at hK;simp only[go_sem];exact ar.bB aI hcl hov (.lit _) hK
   | false =>
    rw[hcb]at hK;simp only[go_sem];exact ar.bB aI hcl hov (.lit _) hK
def cX (T:TabS)(k c:Nat)(x:Nat):TabS:={ T with ch:=ep T.ch k ((T.ch k).set c (x:Int)) }
def py (D:DPr)(T:TabS)(k c:Nat):Nat:=iy (fun x=>jJ D (cX T k c x)) (D.cd k - 1) 0
def jo (D:DPr)(T:TabS)(k:Nat):Nat->TabS
 | 0=>T
 | n+1=>cX (jo D T k n) k n (py D (jo D T k n) k n)
theorem qU (T:TabS)(k c x:Nat):(cX T k c x).ch k=(T.ch k).set c (x:Int):=ka ..
theorem Ds (T:TabS)(k c x k' c':Nat)(hc:c<(T.ch k).length):((cX T k c x).ch k').getD c' 0=if k'=k/\c'=c then (x:Int) else (T.ch k').getD c' 0:=by
 unfold cX;simp only;by_cases e:k'=k
 ·subst e;rw[ka,nY _ _ _ _ _ hc];by_cases e2:c=c'
  ·rw[if_pos e2,if_pos ⟨rfl,e2.symm⟩]
  ·rw[if_neg e2,if_neg fun h=>e2 h.2.symm]
 ·rw[jm e,if_neg fun h=>e h.1]
theorem Du {T:TabS}{k c x:Nat}(hc:c<(T.ch k).length):jI (cX T k c x)=jY (jI T) k c x:=by
 funext k' c'
 unfold jI;rw[Ds _ _ _ _ _ _ hc];by_cases h:k'=k/\c'=c
 ·rw[if_pos h,h.1,h.2,mH,if_neg (by omega)];simp
 ·rw[if_neg h,mI h]
theorem vv {D:DPr}{T:TabS}(hR:T.Rng D){k c x:Nat}(hc:c<(T.ch k).length):(cX T k c x).Rng D :=
 ⟨hR.ab,fun k' c' h1 h2=>by
  rw[Ds _ _ _ _ _ _ hc];split
  ·right;omega
  ·exact hR.ch k' c' h1 h2⟩
theorem vw {D:DPr}{T:TabS}{n:Nat}(hl:T.Len D n)(k c x:Nat):(cX T k c x).Len D n :=
 ⟨hl.ab,hl.oc,hl.ex,hl.be,fun k' h=>by
  unfold cX;simp only;by_cases e:k'=k
  ·rw[e,ka,List.length_set,<- e];exact hl.ch k' h
  ·rw[jm e];exact hl.ch k' h⟩
theorem Dv {f g:Nat->Bool}:∀ n x,(∀ y,x<=y->y<x+n->f y=g y)->iy f n x=iy g n x:=by
 intro n
 induction n with
 | zero=>intro x _;rfl
 | succ n ih =>
  intro x h;unfold iy;rw[h x (Nat.le_refl _) (by omega),ih (x+1) fun y h1 h2=>h y (by omega) (by omega)]
theorem P0 {D:DPr}{T:TabS}{tot:Int}(hR:T.Rng D)(h0:∀ c,c<D.cs 0->((T.ab 0).getD c 0).toNat=0){k c:Nat}(hc:c<(T.ch k).length):py D T k c=iz D (kd T tot) (jI T) k c:=by
 unfold py iz;refine Dv _ _ fun y _ _=>?_;have h1:=PV (D:=D) (T:=cX T k c y) (tot:=tot) (vv hR hc) h0;rw[Du hc]at h1;have h2:kd (cX T k c y) tot=kd T tot:=rfl;rw[h2]at h1;rw[Bool.eq_iff_iff,h1,sE]
theorem P8 {f:Nat->Bool}{n x:Nat}(h1:∀ y,y<x->f y=false)(h2:x<=n)(h3:x<n->f x=true):iy f n 0=x:=by
 obtain⟨_,a2,a3,a4⟩:=CQ f n 0;rcases Nat.lt_trichotomy (iy f n 0) x with h|h|h
 ·have:=a4 (by omega);rw[h1 _ h]at this;cases this
 ·exact h
 ·have:=h3 (by omega);rw[a3 x (Nat.zero_le _) h]at this;cases this
def sW (H:AHeap)(i c:Nat):Nat:=match H.get i with
 | some (.arr _ _ cells)=>match cells[c]? with
  | some (.lit (.int _ z))=>z.toNat
  | _=>0
 | _=>0
theorem Dw (D:DPr)(T:TabS)(k:Nat):∀ n,(jo D T k n).ab=T.ab:=by
 intro n
 induction n with
 | zero=>rfl
 | succ n ih=>exact ih
theorem Dx {D:DPr}{T:TabS}{m:Nat}(hl:T.Len D m)(k:Nat):∀ n,(jo D T k n).Len D m:=by
 intro n
 induction n with
 | zero=>exact hl
 | succ n ih=>exact vw ih _ _ _
theorem Dy {D:DPr}{T:TabS}{m:Nat}(hl:T.Len D m)(hR:T.Rng D){k:Nat}(hk:k<m):∀ n,n<=D.cs k->(jo D T k n).Rng D:=by
 intro n
 induction n with
 | zero=>intro _;exact hR
 | succ n ih=>intro hn;exact vv (ih (by omega)) (by rw[(Dx hl k n).ch k hk];omega)
set_option maxHeartbeats 4000000 in
theorem P9 {d:InfP}{r:List Nat}(hrl:r.length<=64){lo s:Nat}{lvh:AVal}{I:Nat->Nat->Nat}{T:TabS}{tot:Int}(hsz:∀ k,k<r.length->1<=(aq d r).cs k/\(aq d r).cs k<=1024/\1<=(aq d r).cd k/\(aq d r).cd k<=4/\(aq d r).cs k*(aq d r).cd k<=4096)(hR:T.Rng (aq d r))(h00:∀ c,c<(aq d r).cs 0->((T.ab 0).getD c 0)=0){k:Nat}(hk:k<r.length)
  (bx:Nat) (H:AHeap) (hbx:H.get bx=some (.arr 0 110 [.ptr s 0 0])) (hbl:bx<H.next) (hbs:bx≠s/\∀ k j,k<r.length->j<6->bx≠I k j) (hS:SolvH d r lo s lvh I T tot H) (K:ARes->AHeap->Prop)
  (hK:∀ H',H'.next=H.next->jK r s I H H'->SolvH d r lo s lvh I (jo (aq d r) T k ((aq d r).cs k)) tot H'->K (.ret (.own (I k 5) 0 0 ((aq d r).cs k) 1)) H'):
  ae Tryz.prog G0 111 [.ptr (I k 0) 0 0,.ptr bx 0 0] H K:=by
 obtain⟨D,hD⟩:∃ D,D=aq d r:=⟨_,rfl⟩
 have lk:=ag (hS.levs.lev k hk);rw[<- hD]at lk;simp only[fY]at lk;have l5:H.live (I k 5) 0=some (3,ints (T.ch k)):=ag (hS.levs.tab k 5 hk (by omega) (by omega));have ll5:(ints (T.ch k)).length=D.cs k:=by rw[aR,hS.levs.len.ch k hk,<- hD]
 refine ae.d4 (n:=51) (rs:=[.tmp 3]) Tryz.func111 rfl rfl rfl (by decide) (by simp) ?_;refine W.seq (af _ _ _ (by rfl) ?_);simp only[go_sem];refine W.seq (af _ _ _ (by rfl) ?_);simp only[go_sem,lk,l5];refine W.env fun E hE=>?_;have e0:E 0=.ptr (I k 0) 0 0:=by rw[hE];simp only[go_sem]
 have e1:E 1=.ptr bx 0 0:=by rw[hE];simp only[go_sem]
 have e9:E 9=aa (D.cs k):=by rw[hE];simp only[go_sem]
 have e10:E 10=aa 0:=by rw[hE];simp only[go_sem]
 clear hE
 try refine W.block ?_
 refine W.aK 140737488354320 (by rfl) (fun ρ Hx=>∃ c:Nat,ρ 10=aa c/\c<=D.cs k/\Hx.next=H.next/\jK r s I H Hx/\SolvH d r lo s lvh I (jo D T k c) tot Hx) (fun ρ Hx=>D.cs k - (iv (ρ 10)).toNat) ?_ ?_
 ·simp only[go_sem,e10];exact⟨0,rfl,by omega,fun _ _ _=>rfl,hS⟩
 rintro ρ Hx ⟨c,h10,hc,nx,hout,hSx⟩;obtain⟨Tc,hTc⟩:∃ Tc,Tc=jo D T k c:=⟨_,rfl⟩
 rw[<- hTc]at hSx;have lxk:=ag (hSx.levs.lev k hk);rw[<- hD]at lxk;simp only[fY]at lxk;have lx5:Hx.live (I k 5) 0=some (3,ints (Tc.ch k)):=ag (hSx.levs.tab k 5 hk (by omega) (by omega));have lxl:=hSx.levs.len.ch k hk;rw[<- hD]at lxl;have ll:=aR (Tc.ch k);rw[lxl]at ll;refine W.env fun E1 hE1=>?_;have f0:E1 0=.ptr (I k 0) 0 0:=by rw[hE1];simp only[go_sem,e0]
 have f1:E1 1=.ptr bx 0 0:=by rw[hE1];simp only[go_sem,e1]
 have f9:E1 9=aa (D.cs k):=by rw[hE1];simp only[go_sem,e9]
 have f10:E1 10=aa c:=by rw[hE1];simp only[go_sem,h10]
 clear hE1;by_cases hb:(c:Int)<D.cs k;rotate_left
 ·refine af _ _ _ (by rfl) ?_;simp only[go_sem,f9,f10,hb];have hcc:c=D.cs k:=by omega
  refine af _ _ _ (by rfl) ?_;simp only[go_sem,f0,lxk];rw[hTc,hcc,hD]at hSx;rw[hD];exact ar.mk (by omega) (hK Hx nx hout hSx)
 refine W.seq (af _ _ _ (by rfl) ?_);simp only[go_sem,f9,f10,hb];refine W.seq (af _ _ _ (by rfl) ?_);simp only[go_sem];refine W.seq (W.block ?_);refine W.seq (af _ _ _ (by rfl) ?_);simp only[go_sem,f10];have es:setAt (ints (Tc.ch k)) c [.lit (.int .i64 0)]=ints ((cX Tc k c 0).ch k):=by rw[fV (by rw[lxl];omega),qU];rfl
 refine W.seq (af _ _ _ (by rfl) ?_);simp only[go_sem,f0,lxk,lx5,ll,hb,es];refine⟨by omega,?_⟩;obtain⟨H4,hH4⟩:∃ H4,H4=Hx.upd (I k 5) (.arr 0 3 (ints ((cX Tc k c 0).ch k))):=⟨_,rfl⟩
 rw[<- hH4];have hTl:=hSx.levs.len;have tr:∀ x (T2:TabS) (Ha:AHeap),(∃ y,T2=cX Tc k c y)->SolvH d r lo s lvh I T2 tot Ha->SolvH d r lo s lvh I (cX Tc k c x) tot (Ha.upd (I k 5) (.arr 0 3 (ints ((cX Tc k c x).ch k)))):=fun x T2 Ha h2 hSa=>by
  obtain⟨y,rfl⟩:=h2;have hb5:dk (cX Tc k c x) k 5=.arr 0 3 (ints ((cX Tc k c x).ch k)):=rfl;rw[<- hb5];refine hSa.upd hk (by omega) (by omega) (fun k' j' h1 h2 h3 h4=>?_) (vw hTl _ _ _)
  match j',h2,h3 with
  | 1,_,_=>rfl
  | 2,_,_=>rfl
  | 3,_,_=>rfl
  | 4,_,_=>rfl
  | 5,_,_ =>
   have hne:k'≠k:=fun e=>h4 ⟨e,rfl⟩;show Blk.arr 0 _ (ints (ep Tc.ch k _ k'))=Blk.arr 0 _ (ints (ep Tc.ch k _ k'));rw[jm hne,jm hne]
 have hSx':SolvH d r lo s lvh I (cX Tc k c 0) tot H4:=by
  have hb5:dk (cX Tc k c 0) k 5=.arr 0 3 (ints ((cX Tc k c 0).ch k)):=rfl;rw[hH4,<- hb5];refine hSx.upd hk (by omega) (by omega) (fun k' j' h1 h2 h3 h4=>?_) (vw hTl _ _ _)
  match j',h2,h3 with
  | 1,_,_=>rfl
  | 2,_,_=>rfl
  | 3,_,_=>rfl
  | 4,_,_=>rfl
  | 5,_,_ =>
   have hne:k'≠k:=fun e=>h4 ⟨e,rfl⟩;show Blk.arr 0 _ (ints (ep Tc.ch k _ k'))=Blk.arr 0 _ (ints (Tc.ch k'));rw[jm hne]
 have n4:H4.next=H.next:=by rw[hH4,aG];exact nx
 have o4:jK r s I H H4:=fun i h1 h2=>by rw[hH4,aj,if_neg (h2 k 5 hk (by omega))];exact hout i h1 h2
 clear hH4;refine W.env fun E2 hE2=>?_;have m0:E2 0=.ptr (I k 0) 0 0:=by rw[hE2];simp only[go_sem,f0]
 have m1:E2 1=.ptr bx 0 0:=by rw[hE2];simp only[go_sem,f1]
 have m4:E2 4=aa c:=by rw[hE2];simp only[go_sem]
 have m10:E2 10=aa c:=by rw[hE2];simp only[go_sem,f10]
 clear hE2;have hszk:=hsz k hk;rw[<- hD]at hszk;refine W.block ?_;refine W.aK 70368743653376 (by rfl) (fun ρ Hz=>∃ x:Nat,x<=D.cd k - 1/\Hz.next=H.next/\jK r s I H Hz/\SolvH d r lo s lvh I (cX Tc k c x) tot Hz/\∀ y,y<x->jJ D (cX Tc k c y)=false) (fun ρ Hz=>D.cd k - sW Hz (I k 5) c) ?_ ?_
 ·exact⟨0,by omega,n4,o4,hSx',fun y hy=>absurd hy (Nat.not_lt_zero _)⟩
 rintro ρ2 Hz ⟨x,hx,nz,oz,hSz,hno⟩;refine W.env fun E3 hE3=>?_;have u0:E3 0=.ptr (I k 0) 0 0:=by rw[hE3];simp only[go_sem,m0]
 have u1:E3 1=.ptr bx 0 0:=by rw[hE3];simp only[go_sem,m1]
 have u4:E3 4=aa c:=by rw[hE3];simp only[go_sem,m4]
 have u10:E3 10=aa c:=by rw[hE3];simp only[go_sem,m10]
 clear hE3;have lzk:=ag (hSz.levs.lev k hk);rw[<- hD]at lzk;simp only[fY]at lzk;have gz5:Hz.get (I k 5)=some (.arr 0 3 (ints ((cX Tc k c x).ch k))):=hSz.levs.tab k 5 hk (by omega) (by omega);have lz5:=ag gz5;have lzl:(ints ((cX Tc k c x).ch k)).length=D.cs k:=by rw[aR,hSz.levs.len.ch k hk,<- hD]
 have gx:(ints ((cX Tc k c x).ch k))[c]?=some (aa x):=by rw[d9,qU,List.getElem?_set_self (by omega)];rfl
 have gxn:=aL gx;have wcd:=IntWalk.i64_in ((D.cd k:Int) - 1) (by omega);have gbz:=(oz bx hbs.1 hbs.2).trans hbx;have lbz:=ag gbz;refine W.seq (W.jR (fun s'=>s'.H=Hz/\s'.ρ 0=.ptr (I k 0) 0 0/\s'.ρ 4=aa c/\s'.ρ 10=aa c/\s'.ρ 36=.lit (.bool (decide (x<D.cd k - 1) && !jJ D (cX Tc k c x)))) ?_ ?_)
 ·refine W.draw 12 [0,1,3,7,0,31,63,0,128,384,896,1920] Tryz.mixed (by kernel_rfl) (by kernel_rfl) ?_;by_cases hxb:(x:Int)<(D.cd k:Int) - 1
  ·simp only[go_sem,u0,u1,u4,lzk,lz5,gx,hb,wcd,hxb,lbz];have hRc:Tc.Rng (aq d r):=(by rw[hTc,hD];exact Dy hS.levs.len hR hk c (by rw[<- hD];exact hc));refine ay.clo (PZ hrl hsz (vv hRc (by rw[lxl];omega)) (fun c' h=>?_) Hz hSz _ ⟨trivial,?_⟩)
   ·show (Tc.ab 0).getD c' 0=0;rw[hTc,Dw];exact h00 c' h
   rw[<- hD];have hd1:decide (x<D.cd k - 1)=true:=decide_eq_true (by omega);rw[hd1];cases hfb:jJ D (cX Tc k c x) with
   | true =>
    simp only[go_sem,u0,u4,u10]
    try rfl
   | false =>
    simp only[go_sem,u0,u4,u10]
    try rfl
  ·simp only[go_sem,u0,u4,u10,lzk,lz5,gx,hb,wcd,hxb];have hd1:decide (x<D.cd k - 1)=false:=decide_eq_false (by omega);rw[hd1];rfl
 rintro⟨ρ3,Hq⟩ ⟨hHq,v0,v4,v10,v36⟩;simp only at hHq v0 v4 v10 v36;rw[hHq];clear hHq Hq;cases hfl:(decide (x<D.cd k - 1) && !jJ D (cX Tc k c x)) with
 | false =>
  rw[hfl]at v36;refine W.cond (t:=false) v36 ?_;refine af _ _ _ (by rfl) ?_;simp only[go_sem];have hle:py D Tc k c=x:=P8 hno hx fun h=>by
   rw[decide_eq_true h,Bool.true_and,Bool.not_eq_false']at hfl;exact hfl
  have hnext:jo D T k (c+1)=cX Tc k c x:=by
   show cX (jo D T k c) k c (py D (jo D T k c) k c)=_;rw[<- hTc,hle]
  have wc:=IntWalk.i64_in ((c:Int)+1) (by omega);refine af _ _ _ (by rfl) ?_;simp only[go_sem,v10,wc];exact⟨by omega,⟨c+1,rfl,by omega,nz,oz,by rw[hnext];exact hSz⟩,by rw[h10];simp only[aa,aU];omega⟩
 | true =>
  rw[hfl]at v36;refine W.cond (t:=true) v36 ?_;refine af _ _ _ (by rfl) ?_;simp only[go_sem];have hfl2:x<D.cd k - 1/\jJ D (cX Tc k c x)=false:=by simpa using hfl
  have wx:=IntWalk.i64_in ((x:Int)+1) (by omega);have es2:setAt (ints ((cX Tc k c x).ch k)) c [.lit (.int .i64 ((x:Int)+1))]=ints ((cX Tc k c (x+1)).ch k):=by
   rw[fV (by rw[qU,List.length_set,lxl];omega),qU,qU,List.set_set];rfl
  refine W.block ?_;refine af _ _ _ (by rfl) ?_;simp only[go_sem,v0,v4,lzk,lz5,lzl,gx,hb,wx,es2];have hS2:=tr (x+1) _ Hz ⟨x,rfl⟩ hSz;have hc5:sW Hz (I k 5) c=x:=by unfold sW;rw[gz5];simp only;rw[gx];simp [aa]
  have hc6:sW (Hz.upd (I k 5) (.arr 0 3 (ints ((cX Tc k c (x+1)).ch k)))) (I k 5) c=x+1:=by
   unfold sW;rw[aj,if_pos rfl];simp only;rw[d9,qU,List.getElem?_set_self (by omega)];simp [aa]
  refine⟨by omega,by rw[aG];omega,⟨x+1,by omega,by rw[aG];exact nz,fun i h1 h2=>by rw[aj,if_neg (h2 k 5 hk (by omega))];exact oz i h1 h2,hS2,fun y hy=>?_⟩,by rw[hc5,hc6];omega⟩;rcases Nat.lt_or_eq_of_le (Nat.le_of_lt_succ hy) with h|h
  ·exact hno y h
  ·rw[h];exact hfl2.2
theorem Qa {D:DPr}{r:List Nat}{lo n:Nat}{I:Nat->Nat->Nat}{T:TabS}{a b:Nat}(ha:a<n)(hb:b<n)(hr:r.getD a 0<64/\r.getD b 0<64)(H:AHeap)(hL:LevH D r lo n I T H)(K:ARes->AHeap->Prop)(hK:K (.ret (aa ((r.getD a 0:Nat) - (r.getD b 0:Nat):Int))) H):
  ae Tryz.prog G0 110 [.ptr (I a 0) 0 0,.ptr (I b 0) 0 0] H K:=by
 have la:=ag (hL.lev a ha);have lb:=ag (hL.lev b hb);simp only[fY]at la lb;have w:=IntWalk.i64_in (((r.getD a 0:Nat):Int) - ((r.getD b 0:Nat):Int)) (by omega);refine ae.d4 (n:=14) (rs:=[.tmp 4]) Tryz.func110 rfl rfl rfl (by decide) (by simp) ?_;refine W.seq (af _ _ _ (by rfl) ?_);simp only[go_sem];refine W.seq ?_;refine W.draw 8 [0,1,3,7,0,16,48,112] Tryz.mixed (by kernel_rfl) (by kernel_rfl) ?_;simp only[go_sem,la,lb,w];refine af _ _ _ (by rfl) ?_;simp only[go_sem];exact ar.mk (Nat.le_refl _) hK
theorem Qb {lo:Nat}{v:AVal}{cs:List AVal}(h0:cs≠[])(hl:cs.length<=64)(hone:cs.all AVal.one=true)(H:AHeap)(hv:aD lo H 170 v cs)(K:ARes->AHeap->Prop)(hK:∀ id g H',Over H H'->H.next<=id->id<H'.next->H'.get id=some (.arr g 170 cs)->K (.ret (.own id g 0 cs.length 1)) H'):
  ae Tryz.prog G0 108 [v] H K:=by
 rcases hv with ⟨_,h⟩|⟨i,g,h1,h2,rfl,h4⟩
 ·exact absurd h h0
 have hpos:0<cs.length:=List.length_pos_iff.2 h0;have lv:=ag h4;have lvE:∀ L,(ext H L).live i g=_:=fun L=>(eT h2).trans lv;refine ae.d4 (n:=8) (rs:=[.tmp 2]) Tryz.func108 rfl rfl rfl (by decide) (by simp) ?_;refine W.seq (af _ _ _ (by rfl) ?_);simp only[go_sem];refine W.seq (af _ _ _ (by rfl) ?_);simp only[go_sem,AA,lv,hpos];intro b hb;subst hb;simp only[go_sem];refine af _ _ _ (by rfl) ?_;simp only[go_sem,lvE,aW];rw[List.take_length,if_neg (by omega)];refine⟨⟨rfl,by omega,by omega,hone⟩,?_⟩;simp only[go_sem];refine ar.mk (by rw[aY];exact Nat.le_add_right ..) (hK H.next 1 _ (.ext _ _) (Nat.le_refl _) (by rw[aY];exact Nat.lt_succ_self _) ?_);rw[bL];simp
def pz (l:List Nat)(i j:Nat):List Nat:=(l.set i (l.getD j 0)).set j (l.getD i 0)
theorem Qc {l:List Nat}{i j:Nat}(hi:i<l.length)(hj:j<l.length)(hij:i≠j)(a:Nat):(pz l i j).getD a 0=if a=j then l.getD i 0 else if a=i then l.getD j 0 else l.getD a 0:=by
 unfold pz;rw[nY _ _ _ _ _ (by rw[List.length_set];exact hj),nY _ _ _ _ _ hi];by_cases h1:a=j
 ·rw[if_pos h1,if_pos h1.symm]
 ·rw[if_neg h1,if_neg fun h=>h1 h.symm];by_cases h2:a=i
  ·rw[if_pos h2,if_pos h2.symm]
  ·rw[if_neg h2,if_neg fun h=>h2 h.symm]
def oa (f:Nat->Nat)(l:List Nat)(n:Nat):Prop:=∀ a b,a<b->b<n->f (l.getD a 0)<=f (l.getD b 0)
def sX (f:Nat->Nat)(l:List Nat)(i j:Nat):Prop:=(∀ a b,a<b->b<=i->a≠j->b≠j->f (l.getD a 0)<=f (l.getD b 0))/\∀ b,j<b->b<=i->f (l.getD j 0)<=f (l.getD b 0)
theorem Qd {f:Nat->Nat}{l:List Nat}{i:Nat}(h:oa f l i):sX f l i i:=⟨fun a b h1 h2 h3 h4=>h a b h1 (by omega),fun b h1 h2=>by omega⟩
theorem Qe {f:Nat->Nat}{l:List Nat}{i j:Nat}(h:sX f l i j)(hj:j<=i)(hd:j=0\/f (l.getD (j - 1) 0)<=f (l.getD j 0)):oa f l (i+1):=by
 intro a b h1 h2;by_cases hb:b=j
 ·subst hb;rcases hd with h0|h0
  ·omega
  ·by_cases ha:a=b - 1
   ·rw[ha];exact h0
   ·exact Nat.le_trans (h.1 a (b - 1) (by omega) (by omega) (by omega) (by omega)) h0
 ·by_cases ha:a=j
  ·subst ha;exact h.2 b h1 (by omega)
  ·exact h.1 a b h1 (by omega) ha hb
theorem Qf {f:Nat->Nat}{l:List Nat}{i j:Nat}(h:sX f l i j)(hj:j<=i)(hi:i<l.length)(h0:0<j)(hlt:f (l.getD j 0)<f (l.getD (j - 1) 0)):sX f (pz l j (j - 1)) i (j - 1):=by
 have g:=Qc (l:=l) (i:=j) (j:=j - 1) (by omega) (by omega) (by omega);constructor
 ·intro a b h1 h2 h3 h4;rw[g a,g b,if_neg h3,if_neg h4];by_cases ha:a=j
  ·rw[if_pos ha,if_neg (by omega)];exact h.1 (j - 1) b (by omega) h2 (by omega) (by omega)
  ·rw[if_neg ha];by_cases hb:b=j
   ·rw[if_pos hb];exact h.1 a (j - 1) (by omega) (by omega) ha (by omega)
   ·rw[if_neg hb];exact h.1 a b h1 h2 ha hb
 ·intro b h1 h2;rw[g (j - 1),if_pos rfl,g b,if_neg (by omega)];by_cases hb:b=j
  ·rw[if_pos hb];exact Nat.le_of_lt hlt
  ·rw[if_neg hb];exact h.2 b (by omega) h2
def fP (I:Nat->Nat->Nat)(l:List Nat):List AVal:=l.map fun k=>.ptr (I k 0) 0 0
theorem mQ (I:Nat->Nat->Nat)(l:List Nat):(fP I l).length=l.length:=by simp [fP]
theorem sY {I:Nat->Nat->Nat}{l:List Nat}{i k:Nat}(h:l[i]?=some k):(fP I l)[i]?=some (.ptr (I k 0) 0 0):=by simp [fP,h]
theorem Dz (I:Nat->Nat->Nat)(n:Nat):fP I (List.range n)=iU I n:=rfl
theorem DA {I:Nat->Nat->Nat}{l:List Nat}{i k:Nat}(h:i<l.length):setAt (fP I l) i [.ptr (I k 0) 0 0]=fP I (l.set i k):=by
 rw[ic (by rw[mQ];exact h)];unfold fP;rw[List.map_set]
theorem Qm {l:List Nat}{i j:Nat}(hi:i<l.length)(hj:j<l.length):(pz l i j).Perm l:=by
 unfold pz;rw[List.getD_eq_getElem?_getD,List.getD_eq_getElem?_getD,List.getElem?_eq_getElem hi,List.getElem?_eq_getElem hj];exact List.set_set_perm hi hj
theorem oe {l:List Nat}{i:Nat}(h:i<l.length):l[i]?=some (l.getD i 0):=by
 rw[List.getD_eq_getElem?_getD,List.getElem?_eq_getElem h];rfl
theorem Qn {H:AHeap}{id:Nat}{b:Blk}(h:H.get id=some b):H.upd id b=H:=by
 have e:(fun j=>if j=id then some b else H.get j)=H.get:=by
  funext j
  by_cases hj:j=id
  ·rw[if_pos hj,hj,h]
  ·rw[if_neg hj]
 show AHeap.mk (fun j=>if j=id then some b else H.get j) H.next=H;rw[e]
theorem DC (H:AHeap)(id:Nat)(b c:Blk):(H.upd id b).upd id c=H.upd id c:=by
 unfold AHeap.upd;congr 1
 funext j
 by_cases hj:j=id<;>simp [hj]
set_option maxHeartbeats 4000000 in
theorem Qo {D:DPr}{r:List Nat}{lo m:Nat}{I:Nat->Nat->Nat}{T:TabS}{id g:Nat}{l:List Nat}(hl:l.length<=64)(h2:2<=l.length)(hm:∀ a∈l,a<m)(hr:∀ a∈l,r.getD a 0<64)(H:AHeap)(hL:LevH D r lo m I T H)(hid:H.get id=some (.arr g 170 (fP I l)))(hI:∀ k j,k<m->j<6->id≠I k j)(K:ARes->AHeap->Prop)
  (hK:∀ l' H',H'=H.upd id (.arr g 170 (fP I l'))->l'.Perm l->oa (fun a=>r.getD a 0) l' l.length->K (.ret (.tup [])) H'):
  ae Tryz.prog G0 150 [.own id g 0 l.length 1,aa 0,aa l.length,.clo 110 [] []] H K:=by
 obtain⟨f,hf⟩:∃ f:Nat->Nat,f=fun a=>r.getD a 0:=⟨_,rfl⟩
 rw[<- hf]at hK;refine ae.d4 (n:=53) (rs:=[]) Tryz.func150 rfl rfl rfl (by decide) (by simp) ?_;refine W.seq (af _ _ _ (by rfl) ?_);simp only[go_sem];refine W.env fun E hE=>?_;have e0:E 0=.own id g 0 l.length 1:=by rw[hE];simp only[go_sem]
 have e1:E 1=aa 0:=by rw[hE];simp only[go_sem]
 have e2:E 2=aa l.length:=by rw[hE];simp only[go_sem]
 have e3:E 3=.clo 110 [] []:=by rw[hE];simp only[go_sem]
 have e8:E 8=aa 1:=by rw[hE];simp only[go_sem];rfl
 clear hE;refine W.block ?_;refine W.aK 9007199254737664 (by rfl) (fun ρ Hx=>∃ (i:Nat) (q:List Nat),ρ 8=aa i/\1<=i/\i<=l.length/\q.Perm l/\oa f q i/\Hx=H.upd id (.arr g 170 (fP I q))) (fun ρ Hx=>l.length - (iv (ρ 8)).toNat) ?_ ?_
 ·refine⟨1,l,e8,by omega,by omega,.refl _,fun a b h1 h2=>by omega,(Qn hid).symm⟩
 rintro ρ Hx ⟨i,q,h8,hi1,hi,hq,hS,hHx⟩;have ql:=hq.length_eq;refine W.env fun E1 hE1=>?_;have f0:E1 0=.own id g 0 l.length 1:=by rw[hE1];simp only[go_sem,e0]
 have f1:E1 1=aa 0:=by rw[hE1];simp only[go_sem,e1]
 have f2:E1 2=aa l.length:=by rw[hE1];simp only[go_sem,e2]
 have f3:E1 3=.clo 110 [] []:=by rw[hE1];simp only[go_sem,e3]
 have f8:E1 8=aa i:=by rw[hE1];simp only[go_sem,h8]
 clear hE1;by_cases hb:(i:Int)<l.length;rotate_left
 ·refine af _ _ _ (by rfl) ?_;simp only[go_sem,f8,f2,hb];have hii:i=l.length:=by omega
  rw[hii,<- ql]at hS;exact ar.mk (by rw[hHx,aG];exact Nat.le_refl _) (hK q Hx hHx hq (by rw[<- ql];exact hS))
 refine W.seq (af _ _ _ (by rfl) ?_);simp only[go_sem,f8,f2,hb];refine W.seq (W.block ?_);refine W.seq (af _ _ _ (by rfl) ?_);simp only[go_sem,f8];refine W.env fun E2 hE2=>?_;have m0:E2 0=.own id g 0 l.length 1:=by rw[hE2];simp only[go_sem,f0]
 have m1:E2 1=aa 0:=by rw[hE2];simp only[go_sem,f1]
 have m2:E2 2=aa l.length:=by rw[hE2];simp only[go_sem,f2]
 have m3:E2 3=.clo 110 [] []:=by rw[hE2];simp only[go_sem,f3]
 have m8:E2 8=aa i:=by rw[hE2];simp only[go_sem,f8]
 have m9:E2 9=aa i:=by rw[hE2];simp only[go_sem]
 clear hE2;refine W.block ?_;refine W.aK 9007199254479360 (by rfl) (fun ρ Hz=>∃ (j:Nat) (p:List Nat),ρ 9=aa j/\j<=i/\p.Perm l/\sX f p i j/\Hz=H.upd id (.arr g 170 (fP I p))) (fun ρ Hz=>(iv (ρ 9)).toNat) ?_ ?_
 ·exact⟨i,q,m9,Nat.le_refl _,hq,Qd hS,hHx⟩
 rintro ρ2 Hz ⟨j,p,h9,hj,hp,hIn,hHz⟩;have pl:=hp.length_eq;refine W.env fun E3 hE3=>?_;have u0:E3 0=.own id g 0 l.length 1:=by rw[hE3];simp only[go_sem,m0]
 have u1:E3 1=aa 0:=by rw[hE3];simp only[go_sem,m1]
 have u2:E3 2=aa l.length:=by rw[hE3];simp only[go_sem,m2]
 have u3:E3 3=.clo 110 [] []:=by rw[hE3];simp only[go_sem,m3]
 have u8:E3 8=aa i:=by rw[hE3];simp only[go_sem,m8]
 have u9:E3 9=aa j:=by rw[hE3];simp only[go_sem,h9]
 clear hE3;have gz:Hz.get id=some (.arr g 170 (fP I p)):=by rw[hHz,aj,if_pos rfl]
 have lz:=ag gz;have plen:=mQ I p;have hLz:LevH D r lo m I T Hz:=hL.keep (by rw[hHz,aG];exact Nat.le_refl _) fun k j h1 h2=>by rw[hHz,aj,if_neg (hI k j h1 h2).symm]
 refine W.seq (W.jR (fun s'=>s'.H=Hz/\s'.ρ 0=.own id g 0 l.length 1/\s'.ρ 8=aa i/\s'.ρ 9=aa j/\s'.ρ 34=.lit (.bool (decide (0<j) && decide (f (p.getD j 0)<f (p.getD (j - 1) 0))))) ?_ ?_)
 ·refine W.draw 14 [0,0,3,7,15,15,15,111,239,15,15,1039,3599,7695] Tryz.mixed (by kernel_rfl) (by kernel_rfl) ?_;by_cases hjb:(j:Int) > 0
  ·have wj:=IntWalk.i64_in ((j:Int) - 1) (by omega);have cj:((j:Int) - 1).toNat=j - 1:=(by omega);have gj:=sY (I:=I) (oe (l:=p) (i:=j) (by omega));have gj1:=sY (I:=I) (oe (l:=p) (i:=j - 1) (by omega));have gjn:=aL gj;have gj1n:=aL gj1;have b1:(j:Int)<l.length:=(by omega);have b2:(j:Int) - 1<l.length:=(by omega);have b3:(0:Int)<=(j:Int) - 1:=(by omega);simp only[go_sem,u0,u1,u3,u9,lz,hjb,wj,cj,gj,gj1,b1,b2,b3];refine ay.clo (Qa (hm _ ?_) (hm _ ?_) ⟨hr _ ?_,hr _ ?_⟩ Hz hLz _ ⟨trivial,?_⟩)
   ·exact hp.mem_iff.1 (List.mem_of_getElem? (oe (by omega)))
   ·exact hp.mem_iff.1 (List.mem_of_getElem? (oe (by omega)))
   ·exact hp.mem_iff.1 (List.mem_of_getElem? (oe (by omega)))
   ·exact hp.mem_iff.1 (List.mem_of_getElem? (oe (by omega)))
   have hd1:decide (0<j)=true:=decide_eq_true (by omega);rw[hd1,hf];by_cases hlt:r.getD (p.getD j 0) 0<r.getD (p.getD (j - 1) 0) 0
   ·have hlt':((r.getD (p.getD j 0) 0:Nat) - (r.getD (p.getD (j - 1) 0) 0:Nat):Int)<0:=(by omega);simp only[go_sem,u0,u8,u9,hlt',hlt]
    try rfl
   ·have hlt':¬ ((r.getD (p.getD j 0) 0:Nat) - (r.getD (p.getD (j - 1) 0) 0:Nat):Int)<0:=(by omega);simp only[go_sem,u0,u8,u9,hlt',hlt]
    try rfl
  ·simp only[go_sem,u0,u1,u8,u9,hjb];have hj0:j=0:=(by omega);subst hj0;rfl
 rintro⟨ρ3,Hq⟩ ⟨hHq,v0,v8,v9,v34⟩;simp only at hHq v0 v8 v9 v34;rw[hHq];clear hHq Hq;cases hfl:(decide (0<j) && decide (f (p.getD j 0)<f (p.getD (j - 1) 0))) with
 | false =>
  rw[hfl]at v34;refine W.cond (t:=false) v34 ?_;refine af _ _ _ (by rfl) ?_;simp only[go_sem];have wi:=IntWalk.i64_in ((i:Int)+1) (by omega);have hd:j=0\/f (p.getD (j - 1) 0)<=f (p.getD j 0):=by
   by_cases h0:j=0
   ·exact .inl h0
   ·rw[decide_eq_true (by omega:0<j),Bool.true_and,decide_eq_false_iff_not]at hfl;exact .inr (by omega)
  have hS':=Qe hIn hj hd;refine af _ _ _ (by rfl) ?_;simp only[go_sem,v8,wi];exact⟨by rw[hHz,aG];exact Nat.le_refl _,⟨i+1,p,rfl,by omega,by omega,hp,hS',hHz⟩,by rw[h8];simp only[aa,aU];omega⟩
 | true =>
  rw[hfl]at v34;refine W.cond (t:=true) v34 ?_;have hfl2:0<j/\f (p.getD j 0)<f (p.getD (j - 1) 0):=by simpa using hfl
  have wj:=IntWalk.i64_in ((j:Int) - 1) (by omega);have cj:((j:Int) - 1).toNat=j - 1:=by omega
  have gj:=sY (I:=I) (oe (l:=p) (i:=j) (by omega));have gj1:=sY (I:=I) (oe (l:=p) (i:=j - 1) (by omega));have gjn:=aL gj;have gj1n:=aL gj1;have b1:(j:Int)<l.length:=by omega
  have b2:(j:Int) - 1<l.length:=by omega
  have b3:(0:Int)<=(j:Int) - 1:=by omega
  have s1:setAt (fP I p) j [.ptr (I (p.getD (j - 1) 0) 0) 0 0]=fP I (p.set j (p.getD (j - 1) 0)):=DA (by omega);have s2:setAt (fP I (p.set j (p.getD (j - 1) 0))) (j - 1) [.ptr (I (p.getD j 0) 0) 0 0]=fP I (pz p j (j - 1)):=DA (by rw[List.length_set];omega);have plen2:=mQ I (p.set j (p.getD (j - 1) 0));rw[List.length_set]at plen2;refine af _ _ _ (by rfl) ?_;simp only[go_sem];refine W.seq (W.block ?_);refine W.draw 16 [0,0,0,0,8,0,0,64,224,480,0,0,3072,7168,16355,32739] Tryz.mixed (by kernel_rfl) (by kernel_rfl) ?_;simp only[go_sem,v0,v9,lz,plen,pl,wj,cj,gj,gj1,b1,b2,b3,s1,s2,plen2];refine⟨by omega,by omega,af _ _ _ (by rfl) ?_⟩;simp only[go_sem,v9,wj];refine⟨by rw[hHx,hHz];simp only[aG];exact Nat.le_refl _,⟨j - 1,pz p j (j - 1),?_,by omega,(Qm (by omega) (by omega)).trans hp,Qf hIn hj (by omega) hfl2.1 hfl2.2,?_⟩,by rw[h9];simp only[aa,aU];omega⟩
  ·congr 2;omega
  ·rw[hHz,DC,DC]
theorem Qp {s:ByteArray}{i:Nat}{F:AVal->Prop}(hs:s.size=256)(hi:i<256)(h:∀ L:Nat,L<256->F (.lit (.int .u8 (L:Int)))):bq (ou Tryz.prog 9 (.lit (.string s)) (.lit (.int .u8 (i:Int)))) F:=by
 have ix:ou Tryz.prog 9 (.lit (.string s)) (.lit (.int .u8 (i:Int)))=some (.lit (.int .u8 (((s[i]!).toNat:Nat):Int))):=by
  unfold ou;simp only[];have e1:s[i]?=some s[i]!:=by
   rw[getElem!_pos s i (by omega)];exact getElem?_pos s i (by omega)
  have ht:Tryz.prog.underlying 9=some .string:=Tryz.underlying9;simp [Instr.index,asIntOf,underlying,program,ht,bC,bind,Sem.bind,pure,e1]
 rw[ix,nA];exact h _ (UInt8.toNat_lt _)
theorem Qq {n:Nat}(h12:n<=12)(H:AHeap)(K:ARes->AHeap->Prop)(hK:∀ L:Nat,L<256->K (.ret (aa L)) H):ae Tryz.prog G0 159 [.lit (.int .u64 (n:Int))] H K:=by
 have h1:¬ (4294967296:Int)<=(n:Int):=by omega
 have h2:¬ (65536:Int)<=(n:Int):=by omega
 have h3:¬ (256:Int)<=(n:Int):=by omega
 have ww:IntKind.u8.wrap ((n:Nat):Int)=(n:Int):=by simp [IntKind.wrap,IntKind.bits,IntKind.signed];omega
 refine ae.d4 (n:=25) (rs:=[.tmp 2]) Tryz.func159 rfl rfl rfl (by decide) (by simp) ?_;refine W.seq (af _ _ _ (by rfl) ?_);simp only[go_sem];refine W.seq (af _ _ _ (by rfl) ?_);simp only[go_sem,h1];refine W.seq (af _ _ _ (by rfl) ?_);simp only[go_sem,h2];refine W.seq (af _ _ _ (by rfl) ?_);simp only[go_sem,h3];refine af _ _ _ (by rfl) ?_;simp only[go_sem,ww];refine Qp (by kernel_rfl) (by omega) fun L hL=>?_;have w:IntKind.i64.wrap (0+(L:Int))=(L:Int):=by rw[Int.zero_add];exact IntWalk.i64_in (L:Int) (by omega)
 have w0:=IntWalk.i64_in (L:Int) (by omega);simp only[go_sem,w0,w];exact ar.mk (Nat.le_refl _) (hK L hL)
theorem DD {n:Nat}(h12:n<=12)(H:AHeap)(K:ARes->AHeap->Prop)(hK:∀ L:Nat,L<256->K (.ret (aa L)) H):ae Tryz.prog G0 139 [.lit (.int .u64 (n:Int))] H K:=by
 refine ae.d4 (n:=8) (rs:=[.tmp 2]) Tryz.func139 rfl rfl rfl (by decide) (by simp) ?_;refine af _ _ _ (by rfl) ?_;simp only[go_sem];refine ay.clo (Qq h12 H _ fun L hL=>⟨trivial,?_⟩);simp only[go_sem];exact ar.mk (Nat.le_refl _) (hK L hL)
theorem DE {v:AVal}{n L:Nat}{Q:AHeap->Prop}(h12:n<=12)(H:AHeap)(hQ:∀ H',Q H'->H.next<=H'.next)(hc:∀ K':ARes->AHeap->Prop,(∀ H',Q H'->K' (.ret (.tup [])) H')->ae Tryz.prog G0 150 [v,aa 0,aa n,.clo 110 [] []] H K')
  (K:ARes->AHeap->Prop) (hK:∀ H',Q H'->K (.ret (.tup [])) H'):
  ae Tryz.prog G0 138 [v,aa 0,aa n,aa L,.clo 110 [] []] H K:=by
 have wn:IntKind.i64.wrap ((n:Int) - 0)=(n:Int):=by rw[Int.sub_zero];exact IntWalk.i64_in (n:Int) (by omega)
 have hb:(n:Int)<=12:=by omega
 refine ae.d4 (n:=148) (rs:=[]) Tryz.func138 rfl rfl rfl (by decide) (by simp) ?_;refine W.seq (af _ _ _ (by rfl) ?_);simp only[go_sem];refine W.seq (af _ _ _ (by rfl) ?_);simp only[go_sem];refine W.env fun E hE=>?_;have e0:E 0=v:=by rw[hE];simp only[go_sem]
 have e1:E 1=aa 0:=by rw[hE];simp only[go_sem]
 have e2:E 2=aa n:=by rw[hE];simp only[go_sem]
 have e4:E 4=.clo 110 [] []:=by rw[hE];simp only[go_sem]
 clear hE;refine W.block ?_;refine W.aK 356811923176489970264571492362373784095685646 (by kernel_rfl) (fun ρ Hx=>ρ 0=v/\ρ 1=aa 0/\ρ 2=aa n/\ρ 4=.clo 110 [] []/\Hx=H) (fun ρ Hx=>0) ?_ ?_
 ·exact⟨e0,e1,e2,e4,rfl⟩
 rintro ρ Hx ⟨h0,h1,h2,h4,hHx⟩;refine W.env fun E1 hE1=>?_;have f0:E1 0=v:=by rw[hE1];simp only[go_sem,h0,e0]
 have f1:E1 1=aa 0:=by rw[hE1];simp only[go_sem,h1]
 have f2:E1 2=aa n:=by rw[hE1];simp only[go_sem,h2]
 have f4:E1 4=.clo 110 [] []:=by rw[hE1];simp only[go_sem,h4,e4]
 clear hE1;rw[hHx];refine W.block ?_;refine W.seq (af _ _ _ (by rfl) ?_);simp only[go_sem,f1,f2,wn];refine W.seq (af _ _ _ (by rfl) ?_);simp only[go_sem,hb,f0,f1,f2,f4];refine ay.clo (hc _ fun H' hq=>⟨trivial,?_⟩);simp only[go_sem];exact ar.mk (hQ H' hq) (hK H' hq)
theorem Qr {v:AVal}{cs:List AVal}{n:Nat}{Q:AHeap->Prop}(h12:n<=12)(H:AHeap)(hQ:∀ H',Q H'->H.next<=H'.next)(hv:aD 0 H 170 v cs)(hn:cs.length=n)(hc:∀ K':ARes->AHeap->Prop,(∀ H',Q H'->K' (.ret (.tup [])) H')->ae Tryz.prog G0 150 [v,aa 0,aa n,.clo 110 [] []] H K')
  (K:ARes->AHeap->Prop) (hK:∀ H',Q H'->K (.ret (.tup [])) H'):
  ae Tryz.prog G0 109 [v,.clo 110 [] []] H K:=by
 have wn:IntKind.u64.wrap ((n:Nat):Int)=(n:Int):=by simp [IntKind.wrap,IntKind.bits,IntKind.signed];omega
 have w2:=IntWalk.i64_in (n:Int) (by omega);have go:∀ v:AVal,(v=.lit (.slice none 0 0)/\n=0\/∃ id g cs,v=.own id g 0 n 1/\cs.length=n/\H.live id g=some (170,cs))->(∀ K':ARes->AHeap->Prop,(∀ H',Q H'->K' (.ret (.tup [])) H')->ae Tryz.prog G0 150 [v,aa 0,aa n,.clo 110 [] []] H K')->ae Tryz.prog G0 109 [v,.clo 110 [] []] H K:=fun v hv hc=>by
  rcases hv with ⟨rfl,rfl⟩|⟨id,g,cs,rfl,hcl2,lv⟩
  ·refine ae.d4 (n:=14) (rs:=[]) Tryz.func109 rfl rfl rfl (by decide) (by simp) ?_;refine W.seq (af _ _ _ (by rfl) ?_);simp only[go_sem];refine af _ _ _ (by rfl) ?_;simp only[go_sem];refine ay.clo (DD (n:=0) h12 H _ fun L hL=>⟨trivial,?_⟩);simp only[go_sem];refine ay.clo (DE h12 H hQ hc _ fun H' hq=>⟨trivial,?_⟩);simp only[go_sem];exact ar.mk (hQ H' hq) (hK H' hq)
  ·refine ae.d4 (n:=14) (rs:=[]) Tryz.func109 rfl rfl rfl (by decide) (by simp) ?_;refine W.seq (af _ _ _ (by rfl) ?_);simp only[go_sem,lv];refine af _ _ _ (by rfl) ?_;simp only[go_sem,wn];refine ay.clo (DD h12 H _ fun L hL=>⟨trivial,?_⟩);simp only[go_sem];refine ay.clo (DE h12 H hQ hc _ fun H' hq=>⟨trivial,?_⟩);simp only[go_sem];exact ar.mk (hQ H' hq) (hK H' hq)
 refine go v ?_ hc;rcases hv with ⟨h1,h2⟩|⟨id,g,_,_,h3,h4⟩
 ·rw[h2]at hn;exact .inl ⟨h1,hn.symm⟩
 ·rw[hn]at h3;exact .inr ⟨id,g,cs,h3,hn,ag h4⟩
theorem Qs {v:AVal}{n:Nat}(h1:n<=1)(H:AHeap)(K:ARes->AHeap->Prop)(hK:K (.ret (.tup [])) H):
  ae Tryz.prog G0 150 [v,aa 0,aa n,.clo 110 [] []] H K:=by
 have hb:¬ (1:Int)<(n:Int):=by omega
 refine ae.d4 (n:=53) (rs:=[]) Tryz.func150 rfl rfl rfl (by decide) (by simp) ?_;refine W.seq (af _ _ _ (by rfl) ?_);simp only[go_sem];refine W.env fun E hE=>?_;have e2:E 2=aa n:=by rw[hE];simp only[go_sem]
 have e8:E 8=aa 1:=by rw[hE];simp only[go_sem];rfl
 clear hE;refine W.block ?_;refine W.aK 9007199254737664 (by rfl) (fun ρ Hx=>ρ 8=aa 1/\Hx=H) (fun ρ Hx=>0) ?_ ?_
 ·exact⟨e8,rfl⟩
 rintro ρ Hx ⟨h8,hHx⟩;refine W.env fun E1 hE1=>?_;have f2:E1 2=aa n:=by rw[hE1];simp only[go_sem,e2]
 have f8:E1 8=aa 1:=by rw[hE1];simp only[go_sem,h8]
 clear hE1;rw[hHx];refine af _ _ _ (by rfl) ?_;simp only[go_sem,f8,f2,hb];exact ar.mk (Nat.le_refl _) hK
theorem Qt {D:DPr}(hD:D.Ok){t:DTab}(ht:t.Ok D){ch ch':Ch}(hc:mJ D ch)(e:∀ k c,k<D.K->c<D.cs k->ch' k c=ch k c):jC D t ch'↔jC D t ch:=by
 have hc':mJ D ch':=fun k c y h1 h2 h3=>hc k c y h1 h2 (by rw[<- e k c h1 h2];exact h3);rw[sw hD ht hc,sw hD ht hc'];constructor
 ·rintro⟨q,q1,q2,q3⟩;exact⟨q,q1,fun k c y h1 h2 h3=>q2 k c y h1 h2 (by rw[e k c h1 h2];exact h3),q3⟩
 ·rintro⟨q,q1,q2,q3⟩;exact⟨q,q1,fun k c y h1 h2 h3=>q2 k c y h1 h2 (by rw[<- e k c h1 h2];exact h3),q3⟩
theorem Qu {D:DPr}{ch:Ch}(hc:mJ D ch){k c x:Nat}(hx:x<D.cd k):mJ D (jY ch k c x):=fun k' c' y h1 h2 h3=>by
 by_cases h:k'=k/\c'=c
 ·obtain⟨rfl,rfl⟩:=h;rw[mH]at h3;cases h3;exact hx
 ·rw[mI h]at h3;exact hc k' c' y h1 h2 h3
theorem Qv {D:DPr}(hD:D.Ok){t:DTab}(ht:t.Ok D){ch ch':Ch}(hc:mJ D ch)(e:∀ k c,k<D.K->c<D.cs k->ch' k c=ch k c)(k c:Nat):iz D t ch' k c=iz D t ch k c:=by
 unfold iz;refine Dv _ _ fun y _ hy=>?_;rw[Bool.eq_iff_iff,sE,sE];refine Qt hD ht (Qu hc (by omega)) fun k' c' h1 h2=>?_;by_cases h:k'=k/\c'=c
 ·rw[h.1,h.2,mH,mH]
 ·rw[mI h,mI h];exact e k' c' h1 h2
structure StgC (D:DPr)(T:TabS)(done:List (Nat × Nat)):Prop where
 eq:∀ k c,k<D.K->c<D.cs k->jI T k c=nZ D (kM D) done k c
 tb:kd T (qH D)=kM D
 rng:T.Rng D
 len:T.Len D D.K
 h0:∀ c,c<D.cs 0->(T.ab 0).getD c 0=0
theorem StgC.try {D:DPr}(hD:D.Ok)(ht:(kM D).Ok D){T:TabS}{done:List (Nat × Nat)}(h:StgC D T done){k c:Nat}(hnd:(done++[(k,c)]).Nodup)(hr:∀ p∈done++[(k,c)],p.1<D.K/\p.2<D.cs p.1):StgC D (cX T k c (py D T k c)) (done++[(k,c)]):=by
 have hkc:=hr (k,c) (by simp);have hl:=h.len.ch k hkc.1;have hcl:c<(T.ch k).length:=by rw[hl];exact hkc.2
 have hC:=yJ hD ht _ done rfl (List.nodup_append.1 hnd).1 fun p hp=>hr p (by simp [hp]);have hx:py D T k c=iz D (kM D) (nZ D (kM D) done) k c:=by
  rw[P0 h.rng (fun c h1=>by rw[h.h0 c h1];rfl) hcl,h.tb];exact Qv hD ht hC.rng h.eq k c
 refine⟨fun k' c' h1 h2=>?_,h.tb,vv h.rng hcl,vw h.len _ _ _,h.h0⟩;rw[Du hcl,CR,hx];show _=jY _ k c _ k' c';by_cases e:k'=k/\c'=c
 ·rw[e.1,e.2,mH,mH]
 ·rw[mI e,mI e];exact h.eq k' c' h1 h2
theorem StgC.Qw {D:DPr}(hD:D.Ok)(ht:(kM D).Ok D){T:TabS}{done:List (Nat × Nat)}(h:StgC D T done){k:Nat}:∀ n,(done++(List.range n).map fun c=>(k,c)).Nodup->(∀ p∈done++(List.range n).map fun c=>(k,c),p.1<D.K/\p.2<D.cs p.1)->StgC D (jo D T k n) (done++(List.range n).map fun c=>(k,c)):=by
 intro n
 induction n with
 | zero =>
  intro _ _;show StgC D T _;simpa using h
 | succ n ih =>
  intro h1 h2;rw[List.range_succ,List.map_append,<- List.append_assoc]at h1 h2 ⊢;exact(ih (List.nodup_append.1 h1).1 fun p hp=>h2 p (List.mem_append_left _ hp)).try hD ht h1 h2
def runT (D:DPr)(T:TabS)(ks:List Nat):TabS:=ks.foldl (fun T k=>jo D T k (D.cs k)) T
theorem za (D:DPr)(T:TabS)(ks:List Nat)(k:Nat):runT D T (ks++[k])=jo D (runT D T ks) k (D.cs k):=by unfold runT;rw[List.foldl_append];rfl
def mS (D:DPr)(ks:List Nat):List (Nat × Nat):=(ks.map fun k=>(List.range (D.cs k)).map fun c=>(k,c)).flatten
theorem Qx (D:DPr)(ks:List Nat)(k:Nat):mS D (ks++[k])=mS D ks++(List.range (D.cs k)).map fun c=>(k,c):=by unfold mS;simp
theorem StgC.run {D:DPr}(hD:D.Ok)(ht:(kM D).Ok D){T:TabS}(h:StgC D T []):∀ (n:Nat) (ks:List Nat),ks.length=n->(mS D ks).Nodup->(∀ p∈mS D ks,p.1<D.K/\p.2<D.cs p.1)->StgC D (runT D T ks) (mS D ks):=by
 intro n
 induction n with
 | zero =>
  intro ks hl _ _;obtain rfl:=List.eq_nil_of_length_eq_zero hl;exact h
 | succ n ih =>
  intro ks hl h1 h2;obtain⟨qs,k,rfl⟩:∃ qs a,ks=qs++[a]:=by
   rcases List.eq_nil_or_concat ks with h|⟨qs,a,h⟩
   ·rw[h]at hl;cases hl
   ·exact⟨qs,a,by rw[h,List.concat_eq_append]⟩
  rw[List.length_append,List.length_singleton]at hl;rw[Qx]at h1 h2 ⊢;rw[za];exact(ih qs (by omega) (List.nodup_append.1 h1).1 fun p hp=>h2 p (List.mem_append_left _ hp)).Qw hD ht _ h1 h2
theorem Qy (D:DPr):∀ n,∀ a∈cJ D 0 n,a=0:=by
 intro n
 induction n with
 | zero=>intro a ha;exact List.eq_of_mem_replicate ha
 | succ n ih =>
  intro a ha;unfold cJ at ha;rcases List.mem_or_eq_of_mem_set ha with h|rfl
  ·exact ih a h
  ·rfl
theorem DF {D:DPr}(hD:D.Ok)(hpos:∀ k,k<D.K->1<=D.cs k):StgC D (dv D (ea D) 0) []:=by
 refine⟨fun k c h1 h2=>?_,?_,⟨fun k c h0 h1 h2=>?_,fun k c h1 h2=>.inl ?_⟩,yZ (fun k _=>by simp [ea]) 0,fun c hc=>?_⟩
 ·show (if ((ea D k).getD c 0)=-1 then none else _)=none;rw[if_pos];unfold ea;rw[List.getD_eq_getElem?_getD,List.getElem?_replicate,if_pos h2];rfl
 ·unfold kd kM dv;simp
 ·show 0<=(cJ D k D.N).getD c 0/\((cJ D k D.N).getD c 0).toNat<_;obtain⟨a,ha⟩:=get_of_lt (l:=cJ D k D.N) (i:=c) (by rw[nX];exact h2);rw[List.getD_eq_getElem?_getD,ha];obtain⟨b1,b2,b3⟩:=yE hD h1 D.N (Nat.le_refl _) a (List.mem_of_getElem? ha);refine⟨b1,?_⟩;show a.toNat<_;have hp:=Nat.mul_pos (hpos (k - 1) (by omega)) (hD.cd (k - 1) (by omega));rcases b3 h0 with h|h<;>omega
 ·show (ea D k).getD c 0=-1;unfold ea;rw[List.getD_eq_getElem?_getD,List.getElem?_replicate,if_pos h2];rfl
 ·show (cJ D 0 D.N).getD c 0=0;obtain⟨a,ha⟩:=get_of_lt (l:=cJ D 0 D.N) (i:=c) (by rw[nX];exact hc);rw[List.getD_eq_getElem?_getD,ha];exact Qy D D.N a (List.mem_of_getElem? ha)
theorem Qz {d:InfP}{r:List Nat}(hr:OrdR d r){ks:List Nat}(hp:ks.Perm (List.range r.length))(hs:oa (fun a=>r.getD a 0) ks ks.length):ks=(aE d).map r.idxOf:=by
 have hmem:∀ k∈ks,k<r.length:=fun k hk=>List.mem_range.1 (hp.mem_iff.1 hk);have e1:(List.range r.length).map (fun k=>r.getD k 0)=r:=by
  apply List.ext_getElem?;intro i;rw[List.getElem?_map];rcases Nat.lt_or_ge i r.length with h|h
  ·obtain⟨v,hv⟩:=get_of_lt h;rw[List.getElem?_range h,hv];exact congrArg some (fL hv)
  ·rw[List.getElem?_eq_none (by simpa using h),List.getElem?_eq_none h];rfl
 have hnd:(aE d).Nodup:=List.nodup_range.filter _;have p1:(ks.map fun k=>r.getD k 0).Perm (aE d):=by
  have:=hp.map fun k=>r.getD k 0;rw[e1]at this;exact this.trans ((List.perm_ext_iff_of_nodup hr.nodup hnd).2 fun a=>⟨hr.mem a,fun h=>hr.lO h⟩)
 have s1:(ks.map fun k=>r.getD k 0).Pairwise (·<=·):=by
  rw[List.pairwise_map,List.pairwise_iff_getElem];intro i j hi hj hij;have:=hs i j hij hj;simp only[List.getD_eq_getElem?_getD,List.getElem?_eq_getElem hi,List.getElem?_eq_getElem hj,Option.getD_some]at this ⊢;exact this
 have s2:(aE d).Pairwise (·<=·):=by
  unfold aE dX;exact(List.pairwise_lt_range.filter _).imp fun h=>Nat.le_of_lt h
 have e2:=List.Perm.eq_of_pairwise (fun a b _ _ h1 h2=>Nat.le_antisymm h1 h2) s1 s2 p1;rw[<- e2,List.map_map]
 conv=>lhs;rw[<- List.map_id ks]
 refine List.map_congr_left fun k hk=>?_;have hk:=hmem k hk;show k=r.idxOf (r.getD k 0);rw[List.getD_eq_getElem?_getD,List.getElem?_eq_getElem hk];exact((List.getElem?_inj (List.idxOf_lt_length_of_mem (List.getElem_mem hk)) hr.nodup).1 (by rw[List.getElem?_eq_getElem (List.idxOf_lt_length_of_mem (List.getElem_mem hk)),List.getElem_idxOf,List.getElem?_eq_getElem hk])).symm
theorem QA {d:InfP}{r:List Nat}(hr:OrdR d r):mS (aq d r) ((aE d).map r.idxOf)=jZ d r:=by
 unfold mS jZ;rw[List.map_map];congr 1;refine List.map_congr_left fun v hv=>?_;have hi:r.idxOf v<r.length:=List.idxOf_lt_length_of_mem (hr.lO hv);have hri:r.getD (r.idxOf v) 0=v:=fL (by rw[List.getElem?_eq_getElem hi,List.getElem_idxOf hi]);show (List.range (cr d (r.getD (r.idxOf v) 0))).map _=_;rw[hri]
theorem zb {d:InfP}(hok:InfOk d){r:List Nat}(hr:OrdR d r){ks:List Nat}(hp:ks.Perm (List.range r.length))(hs:oa (fun a=>r.getD a 0) ks ks.length):
  (ks.map fun k=>(runT (aq d r) (dv (aq d r) (ea (aq d r)) 0) ks).ch k)=fM d r:=by
 have hD:=qF hok hr.mem;have ht:=CO hD (CP hok hr) (qI hok hr);have hk:=Qz hr hp hs;have hpos:mS (aq d r) ks=jZ d r:=by rw[hk];exact QA hr
 have hS:=(DF hD (qI hok hr)).run hD ht _ ks rfl (by rw[hpos];exact yK hr) fun p h=>(qL hr).1 (by rw[<- hpos];exact h);have hC:=yJ hD ht _ (jZ d r) rfl (yK hr) fun p hp=>(qL hr).1 hp;rw[hpos]at hS;obtain⟨T,hT⟩:∃ T,T=runT (aq d r) (dv (aq d r) (ea (aq d r)) 0) ks:=⟨_,rfl⟩
 rw[<- hT]at hS ⊢;clear hT;rw[hk,List.map_map];unfold fM jD;refine List.map_congr_left fun v hv=>?_;have hi:r.idxOf v<r.length:=List.idxOf_lt_length_of_mem (hr.lO hv);have hri:r.getD (r.idxOf v) 0=v:=fL (by rw[List.getElem?_eq_getElem hi,List.getElem_idxOf hi]);show T.ch (r.idxOf v)=_;have hcs:(aq d r).cs (r.idxOf v)=cr d v:=by show cr d (r.getD (r.idxOf v) 0)=_;rw[hri]
 have hl:=hS.len.ch _ hi;rw[hcs]at hl;apply List.ext_getElem?;intro c;rcases Nat.lt_or_ge c (cr d v) with hc|hc
 ·rw[List.getElem?_map,List.getElem?_range hc];obtain⟨a,ha⟩:=get_of_lt (l:=T.ch (r.idxOf v)) (i:=c) (by omega);obtain⟨y,hy⟩:=hC.made (r.idxOf v) c ((qL hr).2 ⟨hi,by rw[hcs];exact hc⟩);have h1:=hS.eq (r.idxOf v) c hi (by rw[hcs];exact hc);have h2:=hS.rng.ch (r.idxOf v) c hi (by rw[hcs];exact hc);have hg:(T.ch (r.idxOf v)).getD c 0=a:=by rw[List.getD_eq_getElem?_getD,ha];rfl
  rw[hy]at h1;unfold jI at h1;rw[hg]at h1 h2;rw[ha];show some a=some ((kO _ (r.idxOf v) c:Nat):Int);unfold kO;rw[hy];by_cases e:a=-1
  ·rw[if_pos e]at h1;cases h1
  ·rw[if_neg e]at h1;have:=Option.some.inj h1;simp only[Option.getD_some];congr 1;omega
 ·rw[List.getElem?_eq_none (by omega),List.getElem?_eq_none (by simpa using hc)]
def mU (d:InfP)(c:Nat->Nat->Int)(v:Nat):List (List Int):=(List.range (cr d v)).map fun r=>lI d c v r (cP d v)
theorem Rt (d:InfP)(c:Nat->Nat->Int)(v:Nat):fB d c v (bH d.nodes)=mU d c v:=rfl
set_option maxHeartbeats 4000000 in
theorem D3 (d:InfP)(hok:InfOk d)(hf:InfFit d)(h6:d.nodes.length<=6)(p:List (List Int))(hp:PolOk d p)(hpf:po p)(v0:Nat)(hv0:v0∈aE d)
  (H:AHeap) (K:ARes->AHeap->Prop) (hK:K (.ret (.tup [aA (mU d (fixC p) v0),aa 0])) H):ae Tryz.prog G0 23 [dW d,aA p,aa v0] H K:=by
 refine ae.clo ⟨_,Tryz.func23,rfl,rfl⟩ fun hcl=>?_;have n8:=hok.n.n1;have hD:=hf.decs;obtain⟨v01,v02⟩:=fK.1 hv0;obtain⟨x,hx⟩:=get_of_lt v01;have hxc:=hok.n.card x (List.mem_of_getElem? hx);obtain⟨nr,nc⟩:=iP hx (by omega);obtain⟨hrn,hxp,hin,ps⟩:=qW hok hx;have hrc:=qz hok v01 v02;have hnr:1<=cr d v0/\cr d v0<=1024:=by unfold cr;omega
 refine ae.aP (n:=74) (rs:=[.tmp 6,.tmp 7]) Tryz.func23 rfl rfl rfl (by decide) (by kernel_rfl) (by simp) ?_;simp only[go_sem,iA,cw];refine ay.clo (yS d hf p hpf _ _ ⟨trivial,?_⟩);rw[nP hok hp];have c1:¬ (v0:Int)<0:=by omega
 have c2:¬ (v0:Int) >= d.nodes.length:=by omega
 have s1:=fun t x y=>lY (P:=Tryz.prog) (t:=t) (x:=x) (y:=y) (k':=.i64) (s:=v0) hD;have s2:=fun t x y=>mW (P:=Tryz.prog) (t:=t) (x:=x) (y:=y) (s:=v0) hD;simp only[go_sem,c1,c2,s1,s2,v02];obtain⟨R,hR⟩:∃ R,R=ext H [.arr 0 38 [.lit (.int .i64 d.grain),.vec d.nodes.length (aB d.nodes),.lit (.int .u64 (d.decs:Int)),.vec d.utils.length (aS d.utils)],.arr 0 33 [aA p],.arr 0 3 [.lit (.int .i64 v0)],
  .arr 0 130 [.lit (.int .i64 d.grain),.vec d.nodes.length (aB d.nodes),.lit (.int .u64 (d.decs:Int)),.vec d.utils.length (aS d.utils),.lit (.slice none 0 0),.lit (.slice none 0 0),.lit (.slice none 0 0),.lit (.int .i64 0)],.arr 0 110 [.ptr (H.next+3) 0 0]]:=⟨_,rfl⟩
 have nR:R.next=H.next+5:=by rw[hR];rfl
 have oR:Over H R:=by rw[hR];exact .ext _ _
 have g0:R.get H.next=some (j5 d):=by rw[hR];exact aZ H _ 0 (by simp)
 have g1:R.get (H.next+1)=some (.arr 0 33 [aA p]):=by rw[hR];exact aZ H _ 1 (by simp)
 have g2:R.get (H.next+2)=some (.arr 0 3 [.lit (.int .i64 v0)]):=by rw[hR];exact aZ H _ 2 (by simp)
 have g3:R.get (H.next+3)=some (.arr 0 130 [.lit (.int .i64 d.grain),.vec d.nodes.length (aB d.nodes),.lit (.int .u64 (d.decs:Int)),.vec d.utils.length (aS d.utils),.lit (.slice none 0 0),.lit (.slice none 0 0),.lit (.slice none 0 0),.lit (.int .i64 0)]):=by rw[hR];exact aZ H _ 3 (by simp)
 have g4:R.get (H.next+4)=some (.arr 0 110 [.ptr (H.next+3) 0 0]):=by rw[hR];exact aZ H _ 4 (by simp)
 rw[<- hR];refine W.env fun E hE=>?_;have e3:E 3=.ptr H.next 0 0:=by rw[hE];simp only[go_sem]
 have e4:E 4=.ptr (H.next+1) 0 0:=by rw[hE];simp only[go_sem]
 have e5:E 5=.ptr (H.next+2) 0 0:=by rw[hE];simp only[go_sem]
 have e9:E 9=.ptr (H.next+4) 0 0:=by rw[hE];simp only[go_sem]
 clear hE;have l0:=ag g0;have l1:=ag g1;have l2:=ag g2;have l3:=ag g3;have l4:=ag g4;unfold cw at l0;refine W.draw 10 [0,0,0,4,12,28,28,61,189,445] Tryz.mixed (by kernel_rfl) (by kernel_rfl) ?_;simp only[go_sem,e3,e9,l0,l4];refine⟨.tup [ah (dm d),ah (de d)],[],bX.pure fun H2=>D0 d hok hD H2 _ ⟨rfl,rfl⟩,?_⟩;simp only[go_sem,e3,e9,l3];refine⟨fun x h=>by omega,?_⟩;obtain⟨R2,hR2⟩:∃ R2,R2=(R.upd (H.next+3) (.arr 0 130 [.lit (.int .i64 d.grain),.vec d.nodes.length (aB d.nodes),.lit (.int .u64 (d.decs:Int)),.vec d.utils.length (aS d.utils),.lit (.slice none 0 0),.vec (dm d).length (ints (dm d)),.lit (.slice none 0 0),.lit (.int .i64 0)])).upd (H.next+3)
  (.arr 0 130 [.lit (.int .i64 d.grain),.vec d.nodes.length (aB d.nodes),.lit (.int .u64 (d.decs:Int)),.vec d.utils.length (aS d.utils),.lit (.slice none 0 0),.vec (dm d).length (ints (dm d)),.vec (de d).length (ints (de d)),.lit (.int .i64 0)]):=⟨_,rfl⟩
 rw[<- hR2];have nR2:R2.next=H.next+5:=by rw[hR2];exact nR
 have oR2:Over H R2:=by rw[hR2];exact(oR.upd (by omega) _).upd (by omega) _
 have k2:∀ id,id≠H.next+3->R2.get id=R.get id:=fun id h=>by rw[hR2,aj,if_neg h,aj,if_neg h]
 have k3:R2.get (H.next+3)=some (.arr 0 130 (vO d)):=by rw[hR2,aj,if_pos rfl];rfl
 have m0:=ag ((k2 _ (by omega)).trans g0);have m2:=ag ((k2 _ (by omega)).trans g2);unfold cw at m0;simp only[go_sem,e5,m0,m2];refine ay.clo (vm d.nodes v0 x hx hin ps _ _ ⟨trivial,?_⟩);rw[<- hrn];simp only[go_sem];obtain⟨n,hn⟩:∃ n,n=bF d.nodes x:=⟨_,rfl⟩
 obtain⟨cN,hcN⟩:∃ c,c=cP d v0:=⟨_,rfl⟩
 rw[<- hn]at nr ⊢;rw[nr]at hnr;rw[<- hcN]at nc;refine⟨by omega,?_⟩;obtain⟨R3,hR3⟩:∃ R3,R3=ext R2 [.arr 0 46 (List.replicate n (.lit (.slice none 0 0))),.arr 0 33 [.own R2.next 0 0 n 1]]:=⟨_,rfl⟩
 have nR3:R3.next=H.next+7:=by rw[hR3,aY,nR2];rfl
 have oR3:Over R2 R3:=by rw[hR3];exact .ext _ _
 have k5:R3.get R2.next=some (.arr 0 46 (List.replicate n (.lit (.slice none 0 0)))):=by rw[hR3];exact aZ R2 _ 0 (by simp)
 have k6:R3.get (R2.next+1)=some (.arr 0 33 [.own R2.next 0 0 n 1]):=by rw[hR3];exact aZ R2 _ 1 (by simp)
 rw[<- hR3];refine W.env fun E1 hE1=>?_;have f3:E1 3=.ptr H.next 0 0:=by rw[hE1];simp only[go_sem,e3]
 have f4:E1 4=.ptr (H.next+1) 0 0:=by rw[hE1];simp only[go_sem,e4]
 have f5:E1 5=.ptr (H.next+2) 0 0:=by rw[hE1];simp only[go_sem,e5]
 have f9:E1 9=.ptr (H.next+4) 0 0:=by rw[hE1];simp only[go_sem,e9]
 have f10:E1 10=.ptr (R2.next+1) 0 0:=by rw[hE1];simp only[go_sem]
 have f55:E1 55=aa n:=by rw[hE1];simp only[go_sem]
 have f56:E1 56=aa 0:=by rw[hE1];simp only[go_sem]
 clear hE1
 let cs:Nat->List AVal:=fun k=>(List.range k).map (fun j=>AVal.own (H.next+7+j) 0 0 cN 1)++List.replicate (n - k) (.lit (.slice none 0 0))
 have csl:∀ k,k<=n->(cs k).length=n:=fun k hk=>by show (_++_:List AVal).length=n;simp;omega
 have cs_set:∀ k,k<n->setAt (cs k) k [.own (H.next+7+k) 0 0 cN 1]=cs (k+1):=fun k hk=>by
  show setAt (_++List.replicate (n - k) _) k _=_++_;rw[show n - k=(n - (k+1))+1 by omega,List.replicate_succ,RG (by simp),List.range_succ,List.map_append,List.append_assoc];rfl
 have cs0:cs 0=List.replicate n (.lit (.slice none 0 0)):=by show _++_=_;simp
 refine W.aK 1180519563123373377536 (by rfl) (fun ρ H'=>∃ k:Nat,ρ 56=aa k/\k<=n/\H'.next=H.next+7+k/\(∀ id,id<H.next+7->id≠R2.next->H'.get id=R3.get id)/\H'.get R2.next=some (.arr 0 46 (cs k))/\∀ j,j<k->H'.get (H.next+7+j)=some (.arr 0 3 (ints (List.replicate cN 0)))) (fun ρ H=>n - (iv (ρ 56)).toNat) ?_ ?_
 ·simp only[go_sem,f56];exact⟨0,rfl,by omega,by omega,by rw[cs0];exact k5,fun j hj=>absurd hj (Nat.not_lt_zero _)⟩
 rintro ρ H' ⟨k,h56,hk,hnx,hold,htop,hrows⟩;refine W.env fun E2 hE2=>?_;have p3:E2 3=.ptr H.next 0 0:=by rw[hE2];simp only[go_sem,f3]
 have p4:E2 4=.ptr (H.next+1) 0 0:=by rw[hE2];simp only[go_sem,f4]
 have p5:E2 5=.ptr (H.next+2) 0 0:=by rw[hE2];simp only[go_sem,f5]
 have p9:E2 9=.ptr (H.next+4) 0 0:=by rw[hE2];simp only[go_sem,f9]
 have p10:E2 10=.ptr (R2.next+1) 0 0:=by rw[hE2];simp only[go_sem,f10]
 have p55:E2 55=aa n:=by rw[hE2];simp only[go_sem,f55]
 have p56:E2 56=aa k:=by rw[hE2];simp only[go_sem,h56]
 clear hE2;have q0:=(hold H.next (by omega) (by omega)).trans ((oR3.old _ (by omega)).trans ((k2 _ (by omega)).trans g0));have q1:=(hold (H.next+1) (by omega) (by omega)).trans ((oR3.old _ (by omega)).trans ((k2 _ (by omega)).trans g1));have q2:=(hold (H.next+2) (by omega) (by omega)).trans ((oR3.old _ (by omega)).trans ((k2 _ (by omega)).trans g2));have q3:=(hold (H.next+3) (by omega) (by omega)).trans ((oR3.old _ (by omega)).trans k3);have q4:=(hold (H.next+4) (by omega) (by omega)).trans ((oR3.old _ (by omega)).trans ((k2 _ (by omega)).trans g4));have q6:=(hold (R2.next+1) (by omega) (by omega)).trans k6;refine af _ _ _ (by rfl) ?_;by_cases hb:(k:Int)<n
 ·have ec:=jf hx;rw[<- nc]at ec;have hne:=eA hx;have hvn:(v0:Int)<d.nodes.length:=by omega
  have w1:=IntWalk.i64_in ((k:Int)+1) (by omega);have i0:=ag q0;have i2:=ag q2;have i6:=ag q6;have it:=ag htop;unfold cw at i0;have hcb:(cN:Int)*8<=2 ^ 46/\(cN:Int)<=2 ^ 46:=by omega
  have hrep:List.replicate cN (AVal.lit (.int .i64 0))=ints (List.replicate cN 0):=by simp [ints,aa]
  have hset:=cs_set k (by omega);rw[<- hnx]at hset;have hcl:=csl k (by omega);have i0e:∀ L,(ext H' L).live H.next 0=_:=fun L=>(eT (by omega)).trans i0;have ite:∀ L,(ext H' L).live R2.next 0=_:=fun L=>(eT (by omega)).trans it;simp only[go_sem,p55,p56,hb];refine W.draw 9 [0,0,0,4,0,28,60,124,252] Tryz.mixed (by kernel_rfl) (by kernel_rfl) ?_;simp only[go_sem,p3,p5,p10,p56,hb,i0,i2,i6,ite,ec,hne,hvn,hcb,hrep,hset,w1];refine⟨fun x h=>by omega,by omega,by rw[aG,aY];omega,⟨k+1,by simp,by omega,by rw[aG,aY,hnx];rfl,fun id h1 h2=>by rw[aj,if_neg h2,bE (by omega)];exact hold id h1 h2,by rw[aj,if_pos rfl],fun j hj=>?_⟩,by rw[h56];simp only[aa,aU];omega⟩;rw[aj,if_neg (by omega)];by_cases hjk:j=k
  ·subst hjk;rw[<- hnx];exact bL
  ·rw[bE (by omega)];exact hrows j (by omega)
 ·have hkn:k=n:=by omega
  subst hkn;have i4:=ag q4;simp only[go_sem,p3,p4,p5,p9,p10,p55,p56,hb,i4];have csn:cs k=(List.range k).map (fun j=>AVal.own (H.next+7+j) 0 0 cN 1):=by show _++_=_;simp
  obtain⟨ids,hids⟩:∃ ids,ids=(List.range k).map (fun j=>H.next+7+j):=⟨_,rfl⟩
  have hidm:∀ i∈ids,H.next+7<=i/\i<H'.next:=fun i hi=>by
   rw[hids]at hi;obtain⟨j,hj,rfl⟩:=List.mem_map.1 hi;have:=List.mem_range.1 hj;omega
  have hzip:List.zipWith (fun i n=>AVal.own i 0 0 n 1) ids (((fB d (fixC p) v0 0).map ints).map List.length)=cs k:=by
   rw[csn,hids,D1,nr,<- hcN];apply List.ext_getElem?;intro j;rw[List.getElem?_zipWith,List.getElem?_map,List.getElem?_map,List.getElem?_map,List.getElem?_map,List.getElem?_replicate];by_cases hj:j<k
   ·rw[List.getElem?_range hj,if_pos hj];simp [aR]
   ·rw[List.getElem?_eq_none (by rw[List.length_range];omega)];rfl
  have hM:OwnM H.next H' 46 3 (.own R2.next 0 0 k 1) ids ((fB d (fixC p) v0 0).map ints):=by
   refine⟨by rw[hids,List.length_map,List.length_map,List.length_range,ti,nr],by rw[hids];exact(List.pairwise_map (f:=fun j=>H.next+7+j)).2 (List.Pairwise.imp (fun {a b} h e=>h (by omega)) List.nodup_range),fun i hi=>by have:=hidm i hi;omega,.inr ⟨R2.next,0,by omega,by omega,by rw[hzip,csl k (Nat.le_refl _)],by rw[hzip];exact htop⟩,fun j id r h1 h2=>?_⟩;rw[hids,List.getElem?_map]at h1;rw[D1,nr,<- hcN,List.getElem?_map,List.getElem?_replicate]at h2;by_cases hj:j<k
   ·rw[List.getElem?_range hj]at h1;rw[if_pos hj]at h2;cases h1;cases h2;exact hrows j hj
   ·rw[if_neg hj]at h2;cases h2
  have hnotin:∀ i,i<H.next+7->i ∉ ids:=fun i hi hm=>by have:=hidm i hm;omega
  have hE:ExH d p v0 H.next (H.next+2) (H.next+1) (R2.next+1) (H.next+4) (H.next+3) (.own R2.next 0 0 k 1) H':=⟨q0,q2,q1,q6,q4,q3⟩
  refine ay.clo (Rs d hok hf h6 p hp v0 hv0 H.next (H.next+2) (H.next+1) (R2.next+1) (H.next+4) (H.next+3) H.next (.own R2.next 0 0 k 1) ids H' hE ⟨by omega,by omega,by omega,by omega,by omega,by omega⟩ ⟨hnotin _ (by omega),hnotin _ (by omega),hnotin _ (by omega),hnotin _ (by omega),hnotin _ (by omega),hnotin _ (by omega)⟩ hM _ fun H4 h4n h4o h4M=>⟨trivial,?_⟩);have j6:=ag ((h4o (R2.next+1) (by omega) (hnotin _ (by omega))).trans q6);simp only[go_sem,p10,j6];rw[Rt]at h4M;refine ar.bB aI hcl ⟨by omega,fun id hi=>?_⟩ ?_ hK
  ·rw[h4o id (by omega) (hnotin _ (by omega)),hold id (by omega) (by omega),oR3.old _ (by omega),oR2.old _ hi]
  ·have:=h4M.fz (S:=fun id=>H.next<=id) (nx:=H.next) (fun i hi=>hi) fun r hr c hc=>by
    obtain⟨l,_,rfl⟩:=List.mem_map.1 hr;obtain⟨z,_,rfl⟩:=List.mem_map.1 hc;exact .lit _
   rw[List.map_map,List.length_map]at this;refine .tup rfl fun i hi _=>match i,hi with
    | 0,_=>?_
    | 1,_=>.lit _
   have e:(List.map ((fun r=>AVal.vec r.length r) ∘ ints) (mU d (fixC p) v0))=(mU d (fixC p) v0).map ah:=List.map_congr_left fun l _=>by show AVal.vec (ints l).length (ints l)=_;rw[aR];rfl
   rw[e]at this;exact this
instance (a:List Int)(n:Int):Decidable (cH a n):=by unfold cH;infer_instance
instance (g c:Int)(r:List Int):Decidable (j9 g c r):=by unfold j9;infer_instance
instance (g:Int)(ns:List NodeP)(x:NodeP):Decidable (fX g ns x):=by unfold fX;infer_instance
instance (ps:List Nat):Decidable (kF ps):=by unfold kF;infer_instance
theorem zq (d:InfP)(h1:1<=d.nodes.length/\d.nodes.length<=8)(h2:d.decs >>> d.nodes.length=0)(h3:∀ x∈d.nodes,1<=x.card/\x.card<=4)(h4:∀ v,v<d.nodes.length->d.decs.testBit v=true->(d.nodes.getD v ⟨0,[],[]⟩).rows=[]/\cH (d.nodes.getD v ⟨0,[],[]⟩).parents d.nodes.length)
  (h5:(1<=d.grain/\d.grain<=60)/\∀ x∈bY d (fun _ _=>0),(1<=x.card/\x.card<=4)/\cH x.parents (bY d (fun _ _=>0)).length) (h6:az (ak (bY d fun _ _=>0))<=1024) (h7:kF (bd (bY d fun _ _=>0))) (h8:∀ x∈bY d (fun _ _=>0),fX d.grain (bY d fun _ _=>0) x)
  (h9:d.utils.length<=4/\∀ u∈d.utils,cH u.vars d.nodes.length/\(u.w.length:Int)=az (aH (ak d.nodes) u.vars)/\∀ x∈u.w,-100<=x/\x<=100):InfOk d :=
 ⟨⟨h1,h2,h3,fun v x hx hb=>by
  have:=h4 v (get_lt hx) hb;rw[List.getD_eq_getElem?_getD,hx]at this;exact this⟩,⟨h5.1,by rw[hZ];exact h1,h5.2,h6,h7,h8⟩,⟨h9.1,fun u hu=>⟨(h9.2 u hu).1,(h9.2 u hu).2.1,(h9.2 u hu).2.2⟩⟩⟩
def dA:InfP:=⟨4,[⟨2,[],[[1,3]]⟩,⟨2,[0],[]⟩,⟨2,[0,1],[[4,0],[2,2],[0,4],[1,3]]⟩],2,[⟨[1,2],[0,10,-2,8]⟩]⟩
def dE:InfP:=⟨2,[⟨2,[],[]⟩,⟨2,[0],[[2,0],[1,1]]⟩,⟨2,[0,1],[]⟩],5,[⟨[0,1,2],[1,0,9,9,0,3,5,2]⟩]⟩
def dN:InfP:=⟨1,[⟨2,[],[]⟩,⟨2,[],[]⟩],3,[]⟩
theorem kR:InfOk dA:=zq dA (by decide) (by decide) (by decide) (by decide) (by decide) (by decide) (by decide) (by decide) (by decide)
theorem pB:InfOk dE:=zq dE (by decide) (by decide) (by decide) (by decide) (by decide) (by decide) (by decide) (by decide) (by decide)
theorem Ea:InfOk dN:=zq dN (by decide) (by decide) (by decide) (by decide) (by decide) (by decide) (by decide) (by decide) (by decide)
theorem zr:fT dA=some [1]:=by kernel_rfl
theorem zt:fT dE=some [0,2]:=by kernel_rfl
theorem Eb:fT dN=none:=by kernel_rfl
theorem tt (d:InfP)(p:List (List Int))(h:p.length=(dh d).length/\∀ k,k<(dh d).length->((p.getD k []).length:Int)=((dh d).getD k (0,0)).1/\∀ a∈p.getD k [],0<=a/\a<((dh d).getD k (0,0)).2):PolOk d p :=
 yk.2 ⟨h.1,fun k q r h1 h2=>by
  have:=h.2 k (get_lt h1);rw[List.getD_eq_getElem?_getD,List.getD_eq_getElem?_getD,h1,h2]at this;exact this⟩
theorem vY:PolOk dA [[0,0]]:=tt _ _ (by decide)
theorem Ec:PolOk dA [[1,0]]:=tt _ _ (by decide)
theorem Ed:PolOk dA [[1,1]]:=tt _ _ (by decide)
theorem Ee:PolOk dE [[1],[1,1,1,0]]:=tt _ _ (by decide)
theorem Ef:PolOk dE [[1],[0,0,1,0]]:=tt _ _ (by decide)
theorem qZ:cQ dA=0:=by unfold cQ;rw[eM kR,zr];rfl
theorem vZ:cQ dE=0:=by unfold cQ;rw[eM pB,zt];rfl
theorem RH:cQ dN=4:=by unfold cQ;rw[eM Ea,Eb];rfl
theorem RI:fW 528 (dA.grain ^ dA.nodes.length)=.agg [aa 33,aa 4]:=by kernel_rfl
theorem RJ:fW 32 (dE.grain ^ dE.nodes.length)=.agg [aa 4,aa 1]:=by kernel_rfl
theorem RK:fM dA [1]=[[1,0]]:=(zb kR (qG zr) (ks:=[0]) (by decide) (fun a b h1 h2=>by simp at h2;omega)).symm.trans (by kernel_rfl)
theorem RL:fM dE [0,2]=[[1],[0,0,1,0]]:=(zb pB (qG zt) (ks:=[0,1]) (by decide) (fun a b h1 h2=>by
 have:a=0/\b=1:=by simp at h2;omega
 rw[this.1,this.2];decide)).symm.trans (by kernel_rfl)
theorem zu:gJ dA [1]=528:=by kernel_rfl
theorem Eg:gJ dE [0,2]=32:=by kernel_rfl
theorem RM:gK dA [[1,0]]=528:=by kernel_rfl
theorem RN:gK dA [[1,1]]≠528:=by decide
theorem RO:gK dE [[1],[1,1,1,0]]=32:=by kernel_rfl
theorem RP:mU dA (fixC [[0,0]]) 1=[[0,48],[480,264]]:=by kernel_rfl
theorem RQ:mU dE (fixC [[1],[0,0,1,0]]) 0=[[8,32]]:=by kernel_rfl
end Go.Proofs
namespace Go.Hx
variable {P:Program} {G:Nat->Option (List AVal)}
inductive FzL (S:Nat->Prop)(H:AHeap)(nx:Nat):List AVal->List AVal->Prop
 | nil:FzL S H nx [] []
 | cons {a a':AVal} {l l':List AVal} (h:Fz S H nx a a') (t:FzL S H nx l l'):FzL S H nx (a :: l) (a' :: l')
theorem FzL.len {S:Nat->Prop}{H:AHeap}{nx:Nat}{l l':List AVal}(h:FzL S H nx l l'):l'.length=l.length:=by
 induction h with
 | nil=>rfl
 | cons _ _ ih=>rw[List.length_cons,List.length_cons,ih]
theorem FzL.at {S:Nat->Prop}{H:AHeap}{nx:Nat}{l l':List AVal}(h:FzL S H nx l l'):∀ i (h:i<l.length) (h':i<l'.length),Fz S H nx l[i] l'[i]:=by
 induction h with
 | nil=>intro i h;exact absurd h (Nat.not_lt_zero _)
 | cons h _ ih =>
  intro i h1 h2;cases i with
  | zero=>exact h
  | succ i=>exact ih i (by simpa using h1) (by simpa using h2)
theorem FzL.agg {S:Nat->Prop}{H:AHeap}{nx:Nat}{l l':List AVal}(h:FzL S H nx l l'):Fz S H nx (.agg l) (.agg l'):=.agg h.len h.at
theorem FzL.tup {S:Nat->Prop}{H:AHeap}{nx:Nat}{l l':List AVal}(h:FzL S H nx l l'):Fz S H nx (.tup l) (.tup l'):=.tup h.len h.at
theorem FzL.own {S:Nat->Prop}{H:AHeap}{nx id g l z:Nat}{e:TypeId}{cells c':List AVal}(hS:S id)(hg:H.get id=some (.arr g e cells))(hl:cells.length=l*z)(h:FzL S H nx cells c'):Fz S H nx (.own id g 0 l z) (.vec l c'):=by
 refine .frz hS hg (by rw[h.len,hl]) fun i hi h2 h'=>?_;have e0:0+i=i:=Nat.zero_add i;simpa only[e0] using h.at i (by omega) h'
theorem ay.RS {H:AHeap}{f:FuncId}{args args':List AVal}{K:ARes->AHeap->Prop}(n:Nat)(hG:fu G)(hv:FzL (fun id=>n<=id) H H.next args args')(h:ae P G f args' (H.cut n) K):ay P G (.clo f [] []) args H K :=
 ay.clo (by simpa using ae.lu n hG hv.len (fun i h1 h2=>hv.at i h1 h2) h)
theorem ay.iX {B H:AHeap}{f:FuncId}{args args':List AVal}{K:ARes->AHeap->Prop}(hG:fu G)(ho:Over B H)(hv:FzL (fun id=>B.next<=id) H H.next args args')(h:∀ H',Over B H'->ae P G f args' H' K):ay P G (.clo f [] []) args H K :=
 ay.RS B.next hG hv (h _ ho.cut)
end Go.Hx
namespace Go.Proofs
open Go.Hx
theorem zw {S:Nat->Prop}{H:AHeap}{nx:Nat}(l:List Int):FzL S H nx (ints l) (ints l):=by
 induction l with
 | nil=>exact .nil
 | cons a l ih=>exact .cons (.lit _) ih
theorem RT (H:AHeap)(K:ARes->AHeap->Prop)(hK:K (.ret (dW dA)) H):ae Tryz.prog G0 62 [] H K:=by
 refine ae.clo ⟨_,Tryz.func62,rfl,rfl⟩ fun hcl=>?_;have e:dW dA=.agg [aa 4,.vec 3 [aa 2,.vec 0 [],.vec 1 [.vec 2 [aa 1,aa 3]],aa 2,.vec 1 [aa 0],.vec 0 [],aa 2,.vec 2 [aa 0,aa 1],.vec 4 [.vec 2 [aa 4,aa 0],.vec 2 [aa 2,aa 2],.vec 2 [aa 0,aa 4],.vec 2 [aa 1,aa 3]]],.lit (.int .u64 2),.vec 1 [.vec 2 [aa 1,aa 2],.vec 4 [aa 0,aa 10,aa (-2),aa 8]]]:=by rfl
 rw[e]at hK;refine ae.d4 (n:=19) (rs:=[.cell 0 38]) Tryz.func62 rfl rfl rfl (by decide) (by simp) ?_;refine W.seq (af _ _ _ (by rfl) ?_);simp only[go_sem];refine W.seq (af _ _ _ (by rfl) ?_);simp only[go_sem]
 repeat (refine⟨by decide,?_⟩)
 refine af _ _ _ (by rfl) ?_;simp only[go_sem];refine ar.bB aI hcl (.ext _ _) (FzL.agg ?_) hK
 repeat (first|exact FzL.nil|refine FzL.cons ?_ ?_|exact Fz.lit _|exact Fz.nil|refine FzL.own (by omega) (aZ H _ _ (by simp)) rfl ?_)
theorem RU (H:AHeap)(K:ARes->AHeap->Prop)(hK:K (.ret (dW dE)) H):ae Tryz.prog G0 63 [] H K:=by
 refine ae.clo ⟨_,Tryz.func63,rfl,rfl⟩ fun hcl=>?_;have e:dW dE=.agg [aa 2,.vec 3 [aa 2,.vec 0 [],.vec 0 [],aa 2,.vec 1 [aa 0],.vec 2 [.vec 2 [aa 2,aa 0],.vec 2 [aa 1,aa 1]],aa 2,.vec 2 [aa 0,aa 1],.vec 0 []],.lit (.int .u64 5),.vec 1 [.vec 3 [aa 0,aa 1,aa 2],.vec 8 [aa 1,aa 0,aa 9,aa 9,aa 0,aa 3,aa 5,aa 2]]]:=by rfl
 rw[e]at hK;refine ae.d4 (n:=15) (rs:=[.cell 0 38]) Tryz.func63 rfl rfl rfl (by decide) (by simp) ?_;refine W.seq (af _ _ _ (by rfl) ?_);simp only[go_sem];refine W.seq (af _ _ _ (by rfl) ?_);simp only[go_sem]
 repeat (refine⟨by decide,?_⟩)
 refine af _ _ _ (by rfl) ?_;simp only[go_sem];refine ar.bB aI hcl (.ext _ _) (FzL.agg ?_) hK
 repeat (first|exact FzL.nil|refine FzL.cons ?_ ?_|exact Fz.lit _|exact Fz.nil|refine FzL.own (by omega) (aZ H _ _ (by simp)) rfl ?_)
theorem QB {lo:Nat}{v:AVal}{cs:List AVal}(hl:cs.length<=64)(hone:cs.all AVal.one=true)(H:AHeap)(hv:aD lo H 170 v cs)(hnil:cs=[]->v=.lit (.slice none 0 0))(K:ARes->AHeap->Prop)(hK:∀ v' H',Over H H'->aD H.next H' 170 v' cs->K (.ret v') H'):
  ae Tryz.prog G0 108 [v] H K:=by
 by_cases h0:cs=[]
 ·rw[hnil h0];have hK0:=hK (.lit (.slice none 0 0)) H (.refl _) (by rw[h0];exact .nil);have nn:∀ x y,bp Tryz.prog .eql 128 x y (.lit (.slice none 0 0)) (.lit (.slice none 0 0))=some (.lit (.bool true)):=fun x y=>by rfl
  refine ae.d4 (n:=8) (rs:=[.tmp 2]) Tryz.func108 rfl rfl rfl (by decide) (by simp) ?_;refine W.seq (af _ _ _ (by rfl) ?_);simp only[go_sem];refine W.seq (af _ _ _ (by rfl) ?_);simp only[go_sem,nn];exact ar.mk (Nat.le_refl _) hK0
 ·exact Qb h0 hl hone H hv K fun id g H' ho h1 h2 h3=>hK _ H' ho (.inr ⟨id,g,h1,h2,rfl,h3⟩)
theorem QC {D:DPr}{r:List Nat}{lo lo2 n:Nat}{I:Nat->Nat->Nat}{T:TabS}{v:AVal}(h12:n<=12)(hr:∀ k,k<n->r.getD k 0<64)(H:AHeap)(hL:LevH D r lo n I T H)(hv:aD lo2 H 170 v (iU I n))(hI:∀ id g m,v=.own id g 0 m 1->∀ k j,k<n->j<6->id≠I k j)(K:ARes->AHeap->Prop)
  (hK:∀ ks H',ks.Perm (List.range n)->oa (fun a=>r.getD a 0) ks ks.length->H'.next=H.next->(∀ i,(∀ g m,v≠.own i g 0 m 1)->H'.get i=H.get i)->aD lo2 H' 170 v (fP I ks)->K (.ret (.tup [])) H'):
  ae Tryz.prog G0 109 [v,.clo 110 [] []] H K:=by
 refine Qr (n:=n) (Q:=fun H'=>∃ ks:List Nat,ks.Perm (List.range n)/\oa (fun a=>r.getD a 0) ks ks.length/\H'.next=H.next/\(∀ i,(∀ g m,v≠.own i g 0 m 1)->H'.get i=H.get i)/\aD lo2 H' 170 v (fP I ks)) h12 H (fun H' ⟨_,_,_,h,_⟩=>by omega) (hv.keep (Nat.zero_le _) (Nat.le_refl _) fun _ _ _ _ _ _=>rfl) (jG I n) (fun K' hK'=>?_) K fun H' ⟨ks,h1,h2,h3,h4,h5⟩=>hK ks H' h1 h2 h3 h4 h5;rcases Nat.lt_or_ge n 2 with h1|h1
 ·refine Qs (by omega) H K' (hK' H ⟨List.range n,.refl _,fun a b h2 h3=>?_,rfl,fun _ _=>rfl,?_⟩)
  ·rw[List.length_range]at h3;omega
  ·rw[Dz];exact hv
 ·rcases hv with ⟨_,h2⟩|⟨id,g,q1,q2,h3,h4⟩
  ·have:=congrArg List.length h2;rw[jG,List.length_nil]at this;omega
  ·rw[jG]at h3;have hsep:=hI id g n h3;rw[h3];have hl:(List.range n).length=n:=List.length_range;have:=Qo (D:=D) (r:=r) (lo:=lo) (m:=n) (I:=I) (T:=T) (id:=id) (g:=g) (l:=List.range n) (by rw[hl];omega) (by rw[hl];omega) (fun a ha=>List.mem_range.1 ha) (fun a ha=>hr a (List.mem_range.1 ha)) H hL (by rw[Dz];exact h4) hsep K' fun l' H' e1 e2 e3=>hK' H' ⟨l',e2,by rw[e2.length_eq];exact e3,by rw[e1,aG],fun i hi=>by rw[e1,aj,if_neg fun e=>hi g n (by rw[h3,e])],.inr ⟨id,g,q1,by rw[e1,aG];exact q2,by rw[mQ,e2.length_eq,hl];exact h3,by rw[e1,aj,if_pos rfl]⟩⟩;rw[hl]at this;exact this
theorem QD {D:DPr}{T:TabS}{m:Nat}(hl:T.Len D m)(hR:T.Rng D):∀ (n:Nat) (ks:List Nat),ks.length=n->(∀ k∈ks,k<m)->(runT D T ks).Len D m/\(runT D T ks).Rng D/\(runT D T ks).ab=T.ab:=by
 intro n
 induction n with
 | zero =>
  intro ks h _;obtain rfl:=List.eq_nil_of_length_eq_zero h;exact⟨hl,hR,rfl⟩
 | succ n ih =>
  intro ks h1 h2;obtain⟨qs,k,rfl⟩:∃ qs a,ks=qs++[a]:=by
   rcases List.eq_nil_or_concat ks with h|⟨qs,a,h⟩
   ·rw[h]at h1;cases h1
   ·exact⟨qs,a,by rw[h,List.concat_eq_append]⟩
  rw[List.length_append,List.length_singleton]at h1;obtain⟨a1,a2,a3⟩:=ih qs (by omega) fun k hk=>h2 k (by simp [hk]);rw[za];exact⟨Dx a1 k _,Dy a1 a2 (h2 k (by simp)) _ (Nat.le_refl _),(Dw _ _ _ _).trans a3⟩
def mT (D:DPr)(I:Nat->Nat->Nat)(ks:List Nat):List AVal:=ks.map fun k=>.own (I k 5) 0 0 (D.cs k) 1
theorem QE {d:InfP}{r:List Nat}{lo lo2 s:Nat}{lvh v:AVal}{I:Nat->Nat->Nat}{T:TabS}{tot:Int}{H:AHeap}{ks:List Nat}(hS:SolvH d r lo s lvh I T tot H)(hp:ks.Perm (List.range r.length))(hl2:lo<=lo2)(hv:aD lo2 H 46 v (mT (aq d r) I ks)):
  OwnM lo H 46 3 v (ks.map fun k=>I k 5) ((ks.map fun k=>T.ch k).map ints):=by
 have hm:∀ k∈ks,k<r.length:=fun k hk=>List.mem_range.1 (hp.mem_iff.1 hk);refine⟨by simp,?_,fun i hi=>?_,?_,fun j id q h1 h2=>?_⟩
 ·show List.Pairwise _ _;rw[List.pairwise_map];refine(List.Pairwise.and_mem.1 (hp.nodup_iff.2 List.nodup_range)).imp fun {a b} ⟨ha,hb,hne⟩ e=>hne (hS.levs.inj a 5 b 5 (hm a ha) (hm b hb) (by omega) (by omega) e).1
 ·obtain⟨k,hk,rfl⟩:=List.mem_map.1 hi;exact hS.levs.rng k 5 (hm k hk) (by omega)
 ·have e:List.zipWith (fun i n=>AVal.own i 0 0 n 1) (ks.map fun k=>I k 5) (((ks.map fun k=>T.ch k).map ints).map List.length)=mT (aq d r) I ks:=by
   unfold mT;rw[List.map_map,List.map_map,List.zipWith_map,List.zipWith_self];refine List.map_congr_left fun k hk=>?_;show AVal.own (I k 5) 0 0 (ints (T.ch k)).length 1=_;rw[aR,hS.levs.len.ch k (hm k hk)]
  rw[e];exact hv.keep hl2 (Nat.le_refl _) fun _ _ _ _ _ _=>rfl
 ·rw[List.getElem?_map]at h1;rw[List.getElem?_map,List.getElem?_map]at h2;cases hk:ks[j]? with
  | none=>rw[hk]at h1;cases h1
  | some k =>
   rw[hk]at h1 h2;cases h1;cases h2;exact hS.levs.tab k 5 (hm k (List.mem_of_getElem? hk)) (by omega) (by omega)
set_option maxHeartbeats 4000000 in
theorem choose_spec {d:InfP}{r:List Nat}(hok:InfOk d)(hr:OrdR d r)(hrl:r.length<=12)(h64:d.nodes.length<=64){lo s:Nat}{lvh:AVal}{I:Nat->Nat->Nat}{tot:Int}(H:AHeap)(hS:SolvH d r lo s lvh I (dv (aq d r) (ea (aq d r)) 0) tot H)(hnil:r=[]->lvh=.lit (.slice none 0 0))(K:ARes->AHeap->Prop)
  (hK:∀ v ids T' H',H.next<=H'.next->(∀ i,i<H.next->i≠s->(∀ k j,k<r.length->j<6->i≠I k j)->H'.get i=H.get i)->SolvH d r lo s lvh I T' tot H'->OwnM lo H' 46 3 v ids ((fM d r).map ints)->K (.ret v) H'):
  ae Tryz.prog G0 47 [.ptr s 0 0] H K:=by
 obtain⟨D,hDe⟩:∃ D,D=aq d r:=⟨_,rfl⟩
 have hr64:∀ k,k<r.length->r.getD k 0<64:=fun k hk=>by
  obtain⟨v,hv⟩:=get_of_lt hk;rw[fL hv];have:=(dV.1 (hr.mem v (List.mem_of_getElem? hv))).1;omega
 have hsz:=Do hok hr;have hsl:=hS.slo;refine ae.d4 (n:=30) (rs:=[.tmp 2]) Tryz.func47 rfl rfl rfl (by decide) (by simp) ?_;refine W.seq (af _ _ _ (by rfl) ?_);simp only[go_sem];obtain⟨H1,hH1⟩:∃ H1,H1=ext H [.arr 0 110 [.ptr s 0 0]]:=⟨_,rfl⟩
 have g1:H1.get H.next=some (.arr 0 110 [.ptr s 0 0]):=by rw[hH1];exact bL
 have n1:H1.next=H.next+1:=by rw[hH1];rfl
 have o1:Over H H1:=by rw[hH1];exact .ext _ _
 rw[<- hH1];clear hH1;have hS1:=hS.keep (H':=H1) (by omega) fun i _ h=>o1.old i h;have l1:=ag g1;have ls:=ag hS1.top;refine W.seq (af _ _ _ (by rfl) ?_);simp only[go_sem,l1,ls];have hones:(iU I r.length).all AVal.one=true:=by simp [iU];intro x _;rfl
 refine ay.clo (QB (by rw[jG];omega) hones H1 hS1.lv (fun h=>hnil (List.length_eq_zero_iff.1 (by rw[<- jG I r.length,h];rfl))) _ fun v2 H2 o2 hv2=>⟨trivial,?_⟩);have hS2:=hS1.keep (H':=H2) o2.next fun i _ h=>o2.old i h;have g2:=(o2.old _ (by omega)).trans g1;simp only[go_sem];refine W.seq (af _ _ _ (by rfl) ?_);simp only[go_sem];refine ay.clo (QC hrl hr64 H2 hS2.levs hv2 (fun id g m he k j h1 h2 e=>?_) _ fun ks H3 hp hs n3 o3 hv3=>⟨trivial,?_⟩)
 ·have:=(hS1.levs.rng k j h1 h2).2;exact hv2.ne (by rw[e];exact this) g m he
 have kl:=hp.length_eq;rw[List.length_range]at kl;have hkm:∀ k∈ks,k<r.length:=fun k hk=>List.mem_range.1 (hp.mem_iff.1 hk);have k3:∀ i,i<H1.next->H3.get i=H1.get i:=fun i h=>(o3 i (hv2.ne h)).trans (o2.old i h);have hS3:=hS1.keep (H':=H3) (by have:=o2.next;omega) fun i _ h=>k3 i h;have g3:=(k3 _ (by omega)).trans g1;have hlen:ko Tryz.prog H3 128 v2=some (aa r.length):=by
  rcases hv3 with ⟨h1,h2⟩|⟨id,g,_,_,h1,h2⟩
  ·have:=congrArg List.length h2;rw[mQ,List.length_nil]at this;rw[h1,show r.length=0 by omega];rfl
  ·rw[h1];simp only[go_sem];rw[ag h2,mQ,kl];rfl
 simp only[go_sem];refine W.seq (af _ _ _ (by rfl) ?_);simp only[go_sem];refine W.seq (af _ _ _ (by rfl) ?_);simp only[go_sem];refine W.seq (af _ _ _ (by rfl) ?_);simp only[go_sem,hlen];refine W.env fun E hE=>?_;have e4:E 4=.clo 111 [] [.ptr H.next 0 0]:=by rw[hE];simp only[go_sem]
 have e5:E 5=.lit (.slice none 0 0):=by rw[hE];simp only[go_sem]
 have e16:E 16=v2:=by rw[hE];simp only[go_sem]
 have e17:E 17=aa r.length:=by rw[hE];simp only[go_sem]
 have e18:E 18=aa 0:=by rw[hE];simp only[go_sem]
 clear hE;have n3':H1.next<=H3.next:=by rw[n3];exact o2.next
 obtain⟨T0,hT0⟩:∃ T0,T0=dv D (ea D) 0:=⟨_,rfl⟩
 have hl0:T0.Len D r.length:=by rw[hT0];exact hDe ▸ hS.levs.len
 have hst:=DF (qF hok hr.mem) (qI hok hr);have hR0:T0.Rng D:=by rw[hT0,hDe];exact hst.rng
 have h00:∀ c,c<D.cs 0->(T0.ab 0).getD c 0=0:=by rw[hT0,hDe];exact hst.h0
 rw[<- hDe,<- hT0]at hS3;have hB3:=hS1.tc;refine W.aK 536608928 (by rfl) (fun ρ Hx=>∃ (j:Nat) (p:AVal),ρ 18=aa j/\j<=r.length/\ρ 5=p/\H3.next<=Hx.next/\(∀ i,i<H3.next->i≠s->(∀ k j,k<r.length->j<6->i≠I k j)->Hx.get i=H3.get i)/\SolvH d r lo s lvh I (runT D T0 (ks.take j)) tot Hx/\aD H3.next Hx 46 p (mT D I (ks.take j))) (fun ρ Hx=>r.length - (iv (ρ 18)).toNat) ?_ ?_
 ·exact⟨0,_,e18,Nat.zero_le _,e5,Nat.le_refl _,fun _ _ _ _=>rfl,hS3,.nil⟩
 rintro ρ Hx ⟨j,p,h18,hj,h5,hnx,hout,hSx,hO⟩;refine W.env fun E1 hE1=>?_;have f4:E1 4=.clo 111 [] [.ptr H.next 0 0]:=by rw[hE1];simp only[go_sem,e4]
 have f5:E1 5=p:=by rw[hE1];simp only[go_sem,h5]
 have f16:E1 16=v2:=by rw[hE1];simp only[go_sem,e16]
 have f17:E1 17=aa r.length:=by rw[hE1];simp only[go_sem,e17]
 have f18:E1 18=aa j:=by rw[hE1];simp only[go_sem,h18]
 clear hE1;by_cases hb:(j:Int)<r.length;rotate_left
 ·refine af _ _ _ (by rfl) ?_;simp only[go_sem,f17,f18,hb];refine af _ _ _ (by rfl) ?_;simp only[go_sem,f5];have hjn:j=ks.length:=by omega
  rw[hjn,List.take_length]at hSx hO;have hrun:=zb hok hr hp hs;refine ar.mk (by omega) (hK p (ks.map fun k=>I k 5) _ Hx (by omega) (fun i h1 h2 h3=>(hout i (by omega) h2 h3).trans ((k3 i (by omega)).trans (o1.old i h1))) hSx ?_);rw[hDe]at hO;have:=QE hSx hp (by omega) hO;rw[hT0,hDe,hrun]at this;exact this
 obtain⟨k,hk⟩:=get_of_lt (l:=ks) (i:=j) (by omega);have hkr:=hkm k (List.mem_of_getElem? hk);obtain⟨id2,g2,q1,q2,hv2e,hv2g⟩:∃ id g,H1.next<=id/\id<H3.next/\v2=.own id g 0 r.length 1/\H3.get id=some (.arr g 170 (fP I ks)):=by
  rcases hv3 with ⟨_,h2⟩|⟨id,g,a1,a2,h1,h2⟩
  ·have:=congrArg List.length h2;rw[mQ,List.length_nil]at this;omega
  ·rw[mQ,kl]at h1;rw[n3]at a2;exact⟨id,g,a1,by omega,h1,h2⟩
 rw[hv2e]at f16;have ne2:∀ i,H1.next<=i->i≠s/\∀ k j,k<r.length->j<6->i≠I k j:=fun i h=>⟨by have:=hB3.1;omega,fun k j h1 h2=>by have:=hB3.2.1 k j h1 h2;omega⟩
 have gx2:=(hout id2 q2 (ne2 id2 q1).1 (ne2 id2 q1).2).trans hv2g;have lx2:=ag gx2;have plen:=mQ I ks;rw[kl]at plen;have gk:=sY (I:=I) hk;have gkn:=aL gk;refine W.seq (af _ _ _ (by rfl) ?_);simp only[go_sem,f17,f18,hb];refine W.seq (af _ _ _ (by rfl) ?_);simp only[go_sem];refine W.seq (W.block ?_);refine W.seq (af _ _ _ (by rfl) ?_);simp only[go_sem,f16,f18,lx2,gk,hb];have gbx:Hx.get H.next=some (.arr 0 110 [.ptr s 0 0]):=(hout H.next (by omega) (by have:=hB3.1;omega) fun k j h1 h2=>by have:=(hS.levs.rng k j h1 h2).2;omega).trans g3;obtain⟨a1,a2,a3⟩:=QD hl0 hR0 _ (ks.take j) rfl fun k h=>hkm k (List.mem_of_mem_take h);refine af _ _ _ (by rfl) ?_;simp only[go_sem,f4,f5];rw[hDe]at hSx a2 hT0;refine ay.clo (P9 (tot:=tot) (by omega) hsz a2 (fun c h=>by rw[<- hDe,a3];exact h00 c (by rw[hDe];exact h)) hkr H.next Hx gbx (by omega) ⟨by omega,fun k j h1 h2=>by have:=(hS.levs.rng k j h1 h2).2;omega⟩ hSx _ fun H4 n4 o4 hS4=>⟨trivial,?_⟩);have hO4:aD H3.next H4 46 p (mT D I (ks.take j)):=hO.keep (Nat.le_refl _) (by omega) fun i g h1 h2 _ _=>o4 i (ne2 i (by omega)).1 (ne2 i (by omega)).2;obtain⟨p2,H5,hA,hO5,n5,hp5⟩:=iK (P:=Tryz.prog) (H:=H4) (t:=33) (x:=.own (I k 5) 0 0 (D.cs k) 1) (n:=H4.next+1) Tryz.underlying33 Tryz.qk Tryz.qo rfl (by rw[Tryz.qm];simp [mT];omega) hO4 (by omega) rfl;rw[hDe]at hA;have hvc:=hO5.cells;have hvo:=hO5.one;simp only[go_sem,hA];have wj:=IntWalk.i64_in ((j:Int)+1) (by omega);refine af _ _ _ (by rfl) ?_;simp only[go_sem,f18,wj];have ht:ks.take (j+1)=ks.take j++[k]:=by rw[List.take_add_one,hk];rfl
 have hS5:=hS4.iW hB3 n5 fun i hi=>hp5 i (by omega) (hO4.ne (by omega));refine⟨by omega,⟨j+1,p2,rfl,by omega,rfl,by omega,fun i h1 h2 h3=>?_,?_,?_⟩,by rw[h18];simp only[aa,aU];omega⟩
 ·rw[hp5 i (by omega) (hO4.ne h1),o4 i h2 h3];exact hout i h1 h2 h3
 ·rw[ht,za,hDe];exact hS5
 ·have e:mT D I (ks.take (j+1))=mT D I (ks.take j)++[.own (I k 5) 0 0 (D.cs k) 1]:=by rw[ht];simp [mT]
  rw[e];exact hO5
theorem qX {S:Nat->Prop}{H:AHeap}{nx:Nat}(d:InfP):Fz S H nx (dW d) (dW d):=by
 refine .agg rfl fun i hi _=>?_
 match i,hi with
 | 0,_=>exact .lit _
 | 1,_=>exact qR _
 | 2,_=>exact .lit _
 | 3,_=>exact .vec rfl fun j h h'=>yi d.utils _ (List.getElem_mem h)
end Go.Proofs
namespace Go.Hx
variable {P:Program}
end Go.Hx
namespace Go.Proofs
open Go.Hx
theorem Rb {n:Nat}{f:Nat->Int}{B:Int}(h:∀ i,i<n->-B<=f i/\f i<=B):-(B*n)<=SS n f/\SS n f<=B*n:=by
 induction n with
 | zero=>simp [mv]
 | succ n ih =>
  rw[eZ];have h1:=ih fun i hi=>h i (by omega);have h2:=h n (by omega)
  push_cast
  rw[Int.mul_add,Int.mul_one];omega
theorem Rc {d:InfP}(hok:InfOk d)(h6:d.nodes.length<=6)(c:Nat->Nat->Int):-20000000000000000<=fy d c/\fy d c<=20000000000000000:=by
 have hw:=D2 hok;have:=Rb (n:=bH d.nodes) (B:=18662400000000) (f:=fun w=>if iN d c (wv d w)=true then cW d (wv d w) else 0) fun i _=>by
  have:=tj hok h6 (jh hok i);split<;>omega
 unfold fy;omega
structure Imp (d:InfP)(p q:List (List Int))(n:Nat):Prop where
 ok:PolOk d q
 same:n=0->q=p
 loc:isLocal d p->n=0
 sum:fy d (fixC p)+n<=fy d (fixC q)
theorem Imp.start {d:InfP}{p:List (List Int)}(h:PolOk d p):Imp d p p 0:=⟨h,fun _=>rfl,fun _=>rfl,by simp⟩
structure Rnd (d:InfP)(q:List (List Int))(k:Nat)(b:Bool)(r:List (List Int)):Prop where
 ok:PolOk d r
 no:b=false->r=q/\∀ j v,j<k->(aE d)[j]?=some v->oW d q v
 yes:b=true->¬ isLocal d q/\fy d (fixC q)<fy d (fixC r)
theorem Rnd.start {d:InfP}{q:List (List Int)}(h:PolOk d q):Rnd d q 0 false q:=⟨h,fun _=>⟨rfl,fun j v hj=>absurd hj (Nat.not_lt_zero _)⟩,fun h=>Bool.noConfusion h⟩
theorem Rnd.Sh {d:InfP}{q r:List (List Int)}{k v:Nat}{b:Bool}(h:Rnd d q k b r)(hv:(aE d)[k]?=some v)(hb:oW d r v):Rnd d q (k+1) b r :=
 ⟨h.ok,fun e=>⟨(h.no e).1,fun j w hj hw=>by
  by_cases hjk:j=k
  ·subst hjk;rw[hv]at hw;cases hw;rw[<- (h.no e).1];exact hb
  ·exact(h.no e).2 j w (by omega) hw⟩,h.yes⟩
theorem Rnd.step {d:InfP}(hok:InfOk d){q r:List (List Int)}{k v:Nat}{b:Bool}(h:Rnd d q k b r)(hv:(aE d)[k]?=some v)(hb:¬ oW d r v):Rnd d q (k+1) true (r.set (bA d.decs v) (nO d (fixC r) v)):=by
 have hvm:v∈aE d:=List.mem_of_getElem? hv;refine⟨No hok h.ok hvm,fun e=>(Bool.noConfusion e),fun _=>?_⟩;have hg:=Nr hok h.ok hvm hb;cases b with
 | false =>
  have e:=(h.no rfl).1;subst e;exact⟨fun hl=>hb (hl v hvm),hg⟩
 | true =>
  obtain⟨h1,h2⟩:=h.yes rfl;exact⟨h1,by omega⟩
theorem Rnd.done {d:InfP}{q r:List (List Int)}(h:Rnd d q (aE d).length false r):r=q/\isLocal d q :=
 ⟨(h.no rfl).1,fun v hv=>by
  obtain⟨j,hj⟩:=List.mem_iff_getElem?.1 hv;exact(h.no rfl).2 j v (get_lt hj) hj⟩
theorem Imp.round {d:InfP}{p q r:List (List Int)}{n k:Nat}(h:Imp d p q n)(hr:Rnd d q k true r):Imp d p r (n+1):=by
 obtain⟨h1,h2⟩:=hr.yes rfl;refine⟨hr.ok,fun e=>by omega,fun hl=>?_,?_⟩
 ·have hn:=h.loc hl;rw[h.same hn]at h1;exact absurd hl h1
 ·have:=h.sum
  push_cast
  omega
end Go.Proofs
namespace Go.Proofs.R01
open Go.Hx
def tf:Int := 4611686018427387903
def lW (n d:Int):Int := if d < 1 \/ d > tf \/ n < -tf \/ n > tf then 5 else if Int.gcd n d ≠ 1 then 5 else 0
def lX (a b c d:Int):Int := if (a < 0 /\ ¬ c < 0) then -1 else if (¬ a < 0 /\ c < 0) then 1 else if a.natAbs * d.natAbs = c.natAbs * b.natAbs then 0 else if (a.natAbs * d.natAbs < c.natAbs * b.natAbs ↔ 0 <= a) then -1 else 1
theorem Rd {a b c d:Int}(hb:1 <= b)(hd:1 <= d):lX a b c d = cK (a * d) (c * b) := by
  unfold lX cK;obtain⟨B, rfl⟩ := Int.eq_ofNat_of_zero_le (show 0 <= b by omega);obtain⟨D, rfl⟩ := Int.eq_ofNat_of_zero_le (show 0 <= d by omega);simp only[Int.natAbs_natCast];have pos:∀ x:Nat, ∀ E:Nat, ((x:Int) * (E:Int)) = ((x * E:Nat):Int) := fun x E => (Int.natCast_mul x E).symm;have neg:∀ x:Nat, ∀ E:Nat, (-(x:Int) * (E:Int)) = -((x * E:Nat):Int) := fun x E => by rw[Int.neg_mul, Int.natCast_mul]
  have pp:∀ x E:Nat, 0 < x -> 1 <= (E:Int) -> 0 < x * E := fun x E h1 h2 => Nat.mul_pos h1 (by omega);by_cases h1:a < 0
  · obtain⟨A, hA, hA0⟩:∃ A:Nat, a = -(A:Int) /\ 0 < A := ⟨a.natAbs, by omega, by omega⟩
    subst hA;have p1 := pp A D hA0 hd;by_cases h2:c < 0
    · obtain⟨C, hC, hC0⟩:∃ C:Nat, c = -(C:Int) /\ 0 < C := ⟨c.natAbs, by omega, by omega⟩
      subst hC;simp only[Int.natAbs_neg, Int.natAbs_natCast, neg];generalize A * D = P at *
      generalize C * B = Q at *
      repeat' split
      all_goals omega
    · obtain⟨C, hC⟩ := Int.eq_ofNat_of_zero_le (show 0 <= c by omega);subst hC;simp only[Int.natAbs_neg, Int.natAbs_natCast, neg, pos];generalize A * D = P at *
      generalize C * B = Q at *
      repeat' split
      all_goals omega
  · obtain⟨A, hA⟩ := Int.eq_ofNat_of_zero_le (show 0 <= a by omega);subst hA;by_cases h2:c < 0
    · obtain⟨C, hC, hC0⟩:∃ C:Nat, c = -(C:Int) /\ 0 < C := ⟨c.natAbs, by omega, by omega⟩
      subst hC;have p2 := pp C B hC0 hb;simp only[Int.natAbs_neg, Int.natAbs_natCast, neg, pos];generalize A * D = P at *
      generalize C * B = Q at *
      repeat' split
      all_goals omega
    · obtain⟨C, hC⟩ := Int.eq_ofNat_of_zero_le (show 0 <= c by omega);subst hC;simp only[Int.natAbs_natCast, pos]
      repeat' split
      all_goals omega
theorem Re:aC 1 = [1] := by rw[nU (by decide), iw]; rfl
theorem DR (n d:Int)(hn:g8 n)(hd:g8 d)(H:AHeap)(K:ARes -> AHeap -> Prop)(hK:K (.ret (.lit (.bool (decide (lW n d = 0))))) H):ae Tryz.prog G0 30 [qV n d] H K := by
  refine ae.clo ⟨_, Tryz.func30, rfl, rfl⟩ fun hcl => ?_;refine ae.aP (n := 31) (rs := [.tmp 2]) Tryz.func30 rfl rfl rfl (by decide) (by kernel_rfl) (by simp) ?_;have bad:∀ L, lW n d = 5 -> ar Tryz.prog G0 H K (.lit (.bool false)) (ext H L) := fun L h => by
    rw[h]at hK;exact ar.drop aI hcl (.lit _) hK
  by_cases h1:d < 1
  · simp only[go_sem, qV, h1, aW];exact bad _ (by unfold lW; rw[if_pos (.inl h1)])
  by_cases h2:4611686018427387903 < d
  · simp only[go_sem, qV, h1, h2, aW];exact bad _ (by unfold lW; rw[if_pos (.inr (.inl h2))])
  by_cases h4:4611686018427387903 < n
  · simp only[go_sem, qV, h1, h2, h4, aW];exact bad _ (by unfold lW; rw[if_pos (.inr (.inr (.inr h4)))])
  by_cases h3:n < -4611686018427387903
  · simp only[go_sem, qV, h1, h2, h3, h4, aW];exact bad _ (by unfold lW; rw[if_pos (.inr (.inr (.inl h3)))])
  simp only[go_sem, qV, h1, h2, h3, h4, aW];refine W.draw 8 [0, 1, 3, 0, 8, 31, 63, 0] Tryz.mixed (by kernel_rfl) (by kernel_rfl) ?_;simp only[go_sem, qV, aW];have l1 := nW hn;have l2 := nW hd;refine⟨_, [], bX.pure fun H2 => pe n hn H2 _ ⟨rfl, rfl⟩, ?_⟩;simp only[go_sem, aW];refine⟨_, [], bX.pure fun H2 => pe d hd H2 _ ⟨rfl, rfl⟩, ?_⟩;simp only[go_sem, aW];refine⟨_, [], bX.pure fun H2 => Ot n.natAbs d.natAbs (by omega) (by omega) H2 _ ⟨rfl, rfl⟩, ?_⟩;simp only[go_sem, aW];refine⟨by refine⟨?_, ?_, ?_, ?_⟩ <;> (intro x hx; omega), ?_⟩;have gl:(aC (n.natAbs.gcd d.natAbs)).length <= 100 := by
    have:n.natAbs.gcd d.natAbs <= d.natAbs := Nat.le_of_dvd (by omega) (Nat.gcd_dvd_right _ _);have := Ou this;omega
  have ck:lW n d = if Int.gcd n d ≠ 1 then 5 else 0 := by unfold lW; rw[if_neg (by unfold tf; omega)]
  have eg:Int.gcd n d = n.natAbs.gcd d.natAbs := rfl;obtain⟨H1, hH1⟩:∃ H1, H1 = ext H [.arr 0 41 [.lit (.int .i64 n), .lit (.int .i64 d)]] := ⟨_, rfl⟩
  have ov1:Over H H1 := by rw[hH1]; exact .ext _ _
  have e1:H.next + 1 = H1.next := by rw[hH1]; rfl
  rw[<- hH1, e1];have hO:aD H1.next (ext H1 [.arr 0 3 [.lit (.int .i64 1)]]) 3 (.own H1.next 0 0 1 1) (ints [1]) := .inr ⟨H1.next, 0, Nat.le_refl _, by simp [aY], rfl, bR _ _ _⟩;refine ay.lu H1.next (args' := [ah (aC (n.natAbs.gcd d.natAbs)), ah (aC 1)]) aI rfl (fun j hj _ => match j, hj with | 0, _ => .dG _ | 1, _ => by rw[Re]; exact hO.gE fun i hi => hi) (su _ 1 (by omega) _ _ ⟨trivial, ?_⟩);have ov2:Over H ((ext H1 [.arr 0 3 [.lit (.int .i64 1)]]).cut H1.next) := ov1.trans (Over.ext _ _).cut;rw[ck, eg]at hK;by_cases hg:n.natAbs.gcd d.natAbs = 1
  · rw[hg]at hK ⊢;have c1:cK ((1:Nat):Int) ((1:Nat):Int) = 0 :=(by decide);rw[c1];simp only[go_sem, aW];exact ar.bB aI hcl ov2 (.lit _) hK
  · have c1 : ¬ cK ((n.natAbs.gcd d.natAbs : Nat) : Int) ((1 : Nat) : Int) = 0 := by
      unfold cK;split
      · omega
      · split <;> omega
    obtain⟨c, hc⟩:∃ c, c = cK ((n.natAbs.gcd d.natAbs:Nat):Int) ((1:Nat):Int) := ⟨_, rfl⟩
    rw[<- hc]at c1 ⊢;simp only[go_sem, c1, aW];rw[if_pos hg]at hK;exact ar.bB aI hcl ov2 (.lit _) (by simpa using hK)
theorem Rf {a b c d:Int}(h1:a < 0)(h2:c < 0):lX a b c d = cK ((c.natAbs * b.natAbs:Nat):Int) ((a.natAbs * d.natAbs:Nat):Int) := by
  unfold lX cK;generalize a.natAbs * d.natAbs = P;generalize c.natAbs * b.natAbs = Q
  repeat' split
  all_goals omega
theorem Rg {a b c d:Int}(h1:¬ a < 0)(h2:¬ c < 0):lX a b c d = cK ((a.natAbs * d.natAbs:Nat):Int) ((c.natAbs * b.natAbs:Nat):Int) := by
  unfold lX cK;generalize a.natAbs * d.natAbs = P;generalize c.natAbs * b.natAbs = Q
  repeat' split
  all_goals omega
theorem Rh {a b c d:Int}(h1:a < 0)(h2:¬ c < 0):lX a b c d = -1 := by unfold lX; rw[if_pos ⟨h1, h2⟩]
theorem Ri {a b c d:Int}(h1:¬ a < 0)(h2:c < 0):lX a b c d = 1 := by unfold lX; rw[if_neg (by omega), if_pos ⟨h1, h2⟩]
set_option maxHeartbeats 1000000 in
theorem Rj (a b c d : Int) (ha : g8 a) (hb : g8 b) (hc : g8 c) (hd : g8 d) (hb0 : 1 ≤ b) (hd0 : 1 ≤ d) (H : AHeap) (K : ARes → AHeap → Prop) (hK : K (.ret (.lit (.int .i64 (cK (a * d) (c * b))))) H) :
    ae Tryz.prog G0 38 [qV a b, qV c d] H K := by
  refine ae.clo ⟨_, Tryz.func38, rfl, rfl⟩ fun hcl => ?_;have la := nW ha;have lb := nW hb;have lc := nW hc;have ld := nW hd;have l1 := Cz ha hd;have l2 := Cz hc hb;rw[<- Rd hb0 hd0]at hK;refine ae.aP (n := 44) (rs := [.tmp 4]) Tryz.func38 rfl rfl rfl (by decide) (by kernel_rfl) (by simp) ?_;simp only[go_sem, qV, aW];refine W.draw 12 [0, 1, 3, 0, 8, 31, 63, 0, 128, 511, 0, 1024] Tryz.mixed (by kernel_rfl) (by kernel_rfl) ?_;simp only[go_sem, aW];refine⟨_, [], bX.pure fun H2 => pe a ha H2 _ ⟨rfl, rfl⟩, ?_⟩;simp only[go_sem, aW];refine⟨_, [], bX.pure fun H2 => pe d hd H2 _ ⟨rfl, rfl⟩, ?_⟩;simp only[go_sem, aW];refine⟨_, [], bX.pure fun H2 => yz a.natAbs d.natAbs (by omega) (by omega) H2 _ ⟨rfl, rfl⟩, ?_⟩;simp only[go_sem, aW];refine⟨_, [], bX.pure fun H2 => pe c hc H2 _ ⟨rfl, rfl⟩, ?_⟩;simp only[go_sem, aW];refine ay.clo (pe b hb _ _ ⟨trivial, ?_⟩);simp only[go_sem, aW];refine ay.clo (yz c.natAbs b.natAbs (by omega) (by omega) _ _ ⟨trivial, ?_⟩);by_cases h1:a < 0
  · by_cases h2:c < 0
    · rw[Rf h1 h2]at hK;simp only[go_sem, h1, h2, aW];refine ay.clo (su _ _ (by omega) _ _ ⟨trivial, ?_⟩);simp only[go_sem, aW];exact ar.drop aI hcl (.lit _) hK
    · rw[Rh h1 h2]at hK;simp only[go_sem, h1, h2, aW];exact ar.drop aI hcl (.lit _) hK
  · by_cases h2:c < 0
    · rw[Ri h1 h2]at hK;simp only[go_sem, h1, h2, aW];exact ar.drop aI hcl (.lit _) hK
    · rw[Rg h1 h2]at hK;simp only[go_sem, h1, h2, aW];refine ay.clo (su _ _ (by omega) _ _ ⟨trivial, ?_⟩);simp only[go_sem, aW];exact ar.drop aI hcl (.lit _) hK
end Go.Proofs.R01
