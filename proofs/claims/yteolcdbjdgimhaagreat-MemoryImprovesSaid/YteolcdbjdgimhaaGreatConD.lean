/- Own work: contracts. -/
import Derived.Test.YteolcdbjdgimhaaGreatConC
import Derived.Test.YteolcdbjdgimhaaGreatConA
set_option linter.all false
set_option maxHeartbeats 8000000
set_option maxRecDepth 100000
namespace Go.Proofs.R01
open Go.Hx Tryz
theorem C8 {a b:Int}(h:a<=b):gH a b<=0:=by
 unfold gH;split
 ·omega
 ·split<;>omega
theorem C9 {a b:Int}(h:b<a):¬gH a b<=0:=by
 unfold gH;split
 ·omega
 ·split<;>omega
theorem yy (x y:Nat)(hy:y≠0)(hx:(aD x).length<=100)(hyl:(aD y).length<=100)(H:AHeap)(K:ARes->AHeap->Prop)(hK:K (.ret (.tup [af (aD (x / y)),af (aD (x % y))])) H):ag prog G0 107 [af (aD x),af (aD y)] H K:=by
 refine ag.Jo ⟨_,func107,rfl,rfl⟩ fun hcl hbel=>?_;obtain⟨p,hp⟩:∃p,p=aD x:=⟨_,rfl⟩
 obtain⟨q,hq⟩:∃q,q=aD y:=⟨_,rfl⟩
 have hqn:q.length≠0:=by intro h;exact hy (yv.1 (by rw[<- hq];exact SP h))
 obtain⟨n,hn⟩:∃n,q.length=n+1:=⟨q.length-1,by omega⟩
 have ylb:=C0 y hy;have yub:=PM (n:=y) (k:=n+1) (by rw[<- hq,hn];exact Nat.le_refl _);rw[<- hq,hn,U9]at ylb;have hx1:=hx;have hy1:=hyl;rw[<- hp]at hx;rw[<- hq]at hyl;have w1:=SF ((q.length:Int)-1) (by omega);have en:(q.length:Int)-1=(n:Int):=by omega
 rw[en]at w1;rw[<- hp,<- hq]at hbel ⊢;have rep0:∀v:AVal,List.replicate 0 v=[]:=fun _=>rfl;refine ag.st (n:=124) (rs:=[.tmp 4,.tmp 5]) func107 ?_;by_cases hs:(p.length:Int)<=(n:Int)
 ·have hlt:x<y:=qz (by rw[<- hp,<- hq];omega);rw[UH hlt,UY hlt,jh,<- hp]at hK;obtain⟨v',H3,hA,hO,hn3,hpr⟩:=lK (P:=prog) (H:=ext H [.arr 0 3 []]) (t:=42) (lo:=H.next) (n:=H.next+1) (v:=.own H.next 0 0 0 1) (cs:=[]) (src:=ints p) Tryz.underlying42 Tryz.dz Tryz.dH (gQ p) (by rw[Tryz.dL,aH];simp;omega) (.inr ⟨H.next,0,Nat.le_refl _,by simp[aS],rfl,cq _ _ _⟩) (by simp[aS]) (by simp[aS]);rw[aH]at hA;have ov3:Over H H3:=⟨by simp only[aS]at hn3;omega,fun id hid=>by
   rw[hpr id (by simp only[aS];omega) fun g n he=>by have:=AVal.own.inj he;omega,bb hid]⟩
  simp only[go_sem,en,w1,hs,rep0,hA];refine ar.aV (v':=.tup [af [],af p]) aE hcl ov3 (.tup rfl fun i hi _=>?_) hK
  match i,hi with
  |0,_=>exact .nil
  |1,_=>exact hO.dG fun i hi=>hi
 ·have w2:=SF ((p.length:Int)-(n:Int)) (by omega);obtain⟨m,hm⟩:∃m,p.length=n+m/\1<=m:=⟨p.length-n,by omega,by omega⟩
  have em:(p.length:Int)-(n:Int)=(m:Int):=by omega
  rw[em]at w2;have w3:=SF ((m:Int)-1) (by omega);have esub:p.length-m=n:=by omega
  have ede:List.take n (List.drop m (ints p))=ints (p.drop m):=by rw[zh];exact SH (by rw[aH,Tu];omega)
  have mle:(m:Int)<=(p.length:Int):=by omega
  have dl:(p.drop m).length=n:=by simp;omega
  have eR:List.replicate m (AVal.lit (.int .i64 0))=ints (List.replicate m 0):=by simp[ints,aa]
  obtain⟨v',H3,hA,hO,hn3,hpr⟩:=lK (P:=prog) (H:=ext H [.arr 0 3 (ints (List.replicate m 0)),.arr 0 3 []]) (t:=42) (lo:=H.next+1) (n:=H.next+2) (v:=.own (H.next+1) 0 0 0 1) (cs:=[]) (src:=ints (p.drop m)) Tryz.underlying42 Tryz.dz Tryz.dH (gQ _) (by rw[Tryz.dL,aH];simp;omega) (.inr ⟨H.next+1,0,Nat.le_refl _,by simp[aS],rfl,bD H _ 1 (by simp)⟩) (by show H.next+1<=H.next+2;omega) rfl;rw[aH,dl]at hA;simp only[aS,List.length_cons,List.length_nil]at hn3 hpr;obtain⟨Hq,hHq⟩:∃Hq,Hq=ext H [.arr 0 3 (ints (List.replicate m 0))]:=⟨_,rfl⟩
  have nq:Hq.next=H.next+1:=hHq▸rfl
  have clq:Clo Hq:=by
   rw[hHq];refine Qa hcl fun b hb=>?_;obtain rfl:=List.mem_singleton.1 hb;exact Qb fun c hc=>by obtain⟨x,_,rfl⟩:=SY.1 hc;exact⟨_,rfl⟩
  have gq:Hq.get H.next=some (.arr 0 3 (ints (List.replicate m 0))):=by rw[hHq];exact cq _ _ _
  have ovq:Over H Hq:=by rw[hHq];exact Over.ext _ _
  have ov3:Over Hq H3:=⟨by omega,fun id hid=>by
   rw[hpr id (by omega) fun g n he=>by have:=AVal.own.inj he;omega];by_cases h:id=H.next
   ·subst h;rw[gq,cq]
   ·rw[dv _ _ _ (by omega),ovq.old _ (by omega)]⟩
  have n3:=ov3.next;have hvF:Fz (fun id=>Hq.next<=id) H3 H3.next v' (af (p.drop m)):=hO.dG fun i hi=>by omega
  have hbq:∀v,v∈[af p,af q]->Below Hq.next v:=fun v hv=>(hbel v hv).mono (by omega);have h37:Fz (fun id=>Hq.next<=id) H3 H3.next (.vec n (ints (p.drop m))) (.vec n (ints (p.drop m))):=by rw[<- dl];exact .cI _
  have gq3:=(ov3.old H.next (by omega)).trans gq;have lq3:=ah gq3;simp only[go_sem,en,w1,hs,em,w2,rep0,mle,esub,ede,eR,hA,w3,lq3];refine⟨⟨by omega,by omega⟩,?_⟩;apply W.KV (H:=Hq) aE clq ov3
  ·repeat first|exact Fz.KX hbq (by omega)|(apply Fz.KW;· first|exact .lit _|assumption|exact .cI _|exact .ptr (by omega) (by omega)|exact .own (by omega) (by omega)|exact .deadOwn (by omega) (by show Hq.next<=_;omega))
  ·trivial
  obtain⟨Hg,hHg⟩:∃Hg,Hg=js Hq (H3.next-Hq.next):=⟨_,rfl⟩
  rw[<- hHg];have hog:Over Hq Hg:=by rw[hHg];exact .js _ _
  have ng:=hog.next;have hgg:=(hog.old H.next (by omega)).trans gq;have pdm:p.drop m=aD (x / 10000 ^ m):=by rw[hp];exact sK x m
  have xlt:x / 10000 ^ m<y:=qz (by rw[<- pdm,dl,<- hq];omega);refine W.env fun E hE=>?_;have e0:E 0=af p:=by rw[hE];rfl
  have e1:E 1=af q:=by rw[hE];rfl
  have e6:E 6=aa n:=by rw[hE];rfl
  have e7:E 7=.own H.next 0 0 m 1:=by rw[hE];rfl
  have e8:E 8=af (p.drop m):=by rw[hE];rfl
  have e9:E 9=aa ((m:Int)-1):=by rw[hE];rfl
  clear hE;refine W.aG 2658455991569831745807609722514243328 (by rfl) (fun ρ H'=>∃(j:Nat) (qs:List Int),ρ 9=aa ((j:Int)-1)/\j<=m/\Over H H'/\Hg.next<=H'.next/\H'.get H.next=some (.arr 0 3 (ints qs))/\qs.length=m/\Dg qs/\val (qs.drop j)=x / 10000 ^ j / y/\ρ 8=af (aD (x / 10000 ^ j % y))) (fun ρ H=>(iv (ρ 9)+1).toNat) ?_ ?_
  ·simp only[go_sem,e9,e8];refine⟨m,List.replicate m 0,by simp,by omega,ovq.trans hog,hgg,by simp,fun c hc=>by obtain⟨_,rfl⟩:=List.mem_replicate.1 hc;omega,?_,?_⟩
   ·rw[UH xlt,Wb.2 (by simp)];rfl
   ·rw[UY xlt,<- pdm]
  rintro ρ H' ⟨j,qs,h9,hj,ov,hnx,hg,hql,hqd,hv,h8⟩;refine W.vs ?_;have lq:=ah hg;by_cases hz:j=0
  ·subst hz;have z1:¬(0:Int)<=((0:Nat):Int)-1:=(by omega);simp only[VB,Wi,List.drop_zero]at hv h8;simp only[go_sem,h9,e7];have hO2:ay H.next H' 3 (.own H.next 0 0 m 1) (ints qs):=.inr ⟨H.next,0,Nat.le_refl _,by omega,by rw[aH,hql],hg⟩;refine aw.mv H.next (args':=[af qs]) aE rfl (fun j hj _=>match j,hj with|0,_=>hO2.dG fun i hi=>hi) (sJ qs hqd (by omega) _ _ ⟨trivial,?_⟩);rw[hv];simp only[go_sem,h8];have ovc:Over H (H'.cut H.next):=ov.mQ (Nat.le_refl _);refine ar.aV (v':=.tup [af (aD (x / y)),af (aD (x % y))]) aE hcl ovc (.tup rfl fun i hi _=>?_) hK
   match i,hi with
   |0,_=>exact .cI _
   |1,_=>exact .cI _
  obtain⟨i,rfl⟩:∃i,j=i+1:=⟨j-1,by omega⟩
  have ei:((i+1:Nat):Int)-1=(i:Int):=by omega
  rw[ei]at h9;have z1:(0:Int)<=(i:Int):=by omega
  obtain⟨R,hR⟩:∃R,R=x / 10000 ^ (i+1) % y:=⟨_,rfl⟩
  rw[<- hR]at h8;have hRy:R<y:=by rw[hR];exact U0 _ (by omega)
  have hil:i<p.length:=by omega
  obtain⟨a,ha⟩:∃a,a=x / 10000 ^ i % 10000:=⟨_,rfl⟩
  have hpi:p[i]?=some ((a:Nat):Int):=by rw[ha,hp];exact vk (by rw[<- hp];exact hil)
  have pn:¬p=[]:=by rintro rfl;simp at hil
  have bil:(i:Int)<p.length:=by omega
  obtain⟨N,hN⟩:∃N,N=a+10000*R:=⟨_,rfl⟩
  have yup:y<10000 ^ (n+1):=yub;have rlen:(aD R).length<=n+1:=qy (by omega);have hNy:N<10000*y:=by omega
  have hN2:N<10000 ^ (n+2):=by
   have:10000 ^ (n+2)=10000*10000 ^ (n+1):=(by rw[TX,UC]);omega
  have nlen:(aD N).length<=n+2:=qy hN2;obtain⟨v',H3,hA,hO,hn3,hpr⟩:=lK (P:=prog) (H:=ext H' [.arr 0 3 [.lit (.int .i64 (a:Int))]]) (t:=42) (lo:=H'.next) (n:=H'.next+1) (v:=.own H'.next 0 0 1 1) (cs:=ints [(a:Int)]) (src:=ints (aD R)) Tryz.underlying42 Tryz.dz Tryz.dH (gQ _) (by rw[Tryz.dL,aH,aH,T0];omega) (.inr ⟨H'.next,0,Nat.le_refl _,by simp[aS],rfl,cq _ _ _⟩) (by simp[aS]) (by simp[aS]);rw[aH]at hA;have ov3:Over H' H3:=⟨by simp only[aS]at hn3;omega,fun id hid=>by
   rw[hpr id (by simp only[aS];omega) fun g n he=>by have:=AVal.own.inj he;omega,bb hid]⟩
  have hcd:Dg ((a:Int) :: aD R):=fun c hc=>by
   rcases List.mem_cons.1 hc with rfl|hc
   ·omega
   ·exact lU R c hc
  have hcv:val ((a:Int) :: aD R)=N:=by rw[val,kd,hN];simp
  simp only[go_sem,h9,z1,h8,e0,hpi,pn,bil,hA];refine aw.mv H'.next (args':=[af ((a:Int) :: aD R)]) aE rfl (fun j hj _=>match j,hj with|0,_=>hO.dG fun i hi=>hi) (sJ _ hcd (by rw[List.length_cons];omega) _ _ ⟨trivial,?_⟩);rw[hcv];have ovc:Over H' (H3.cut H'.next):=ov3.cut;obtain⟨Hc,hHc⟩:∃Hc,Hc=H3.cut H'.next:=⟨_,rfl⟩
  rw[<- hHc]at ovc ⊢;clear hHc;have w4:=SF ((n:Int)+1) (by omega);simp only[go_sem,e6,w4];have gqc:=(ovc.old H.next (by omega)).trans hg;have nc:=ovc.next;refine W.env fun E2 hE2=>?_;have f0:E2 0=af p:=by rw[hE2];exact e0
  have f1:E2 1=af q:=by rw[hE2];exact e1
  have f6:E2 6=aa n:=by rw[hE2];exact e6
  have f7:E2 7=.own H.next 0 0 m 1:=by rw[hE2];exact e7
  have f8:E2 8=af (aD N):=by rw[hE2];rfl
  have f9:E2 9=aa (i:Int):=by rw[hE2];exact h9
  have f10:E2 10=aa 0:=by rw[hE2];rfl
  have f11:E2 11=aa 0:=by rw[hE2];rfl
  have f12:E2 12=aa ((n:Int)+1):=by rw[hE2];rfl
  clear hE2;have hqy:q=aD y:=hq;have emax:(if (n:Int)-1 > 0 then (n:Int)-1 else 0)=((n-1:Nat):Int):=by split<;>omega
  have w5:=SF ((n:Int)-1) (by omega);have yk2:y / 10000 ^ (n+2)=0:=UH (by rw[TX];omega);have Nk2:N / 10000 ^ (n+2)=0:=UH hN2;have cube:∀z k:Nat,z<10000 ^ (n+2)->n-1<=k->z / 10000 ^ k<1000000000000:=fun z k hz hk=>by
   refine Uj (S1 hz ?_);rw[show (1000000000000:Nat)=10000 ^ 3 by decide,<- Wg];exact Te (by decide) (by omega)
  have hy2:y<10000 ^ (n+2):=by rw[TX];omega
  refine W.aG 38685626155610539552676864 (by rfl) (fun ρ' H2=>∃k F T:Nat,ρ' 12=aa ((k:Int)-1)/\n-1<=k/\k<=n+2/\H2=Hc/\ρ' 11=aa F/\ρ' 10=aa T/\F=N / 10000 ^ k/\T=y / 10000 ^ k) (fun ρ' H=>(iv (ρ' 12)+1).toNat) ?_ ?_
  ·simp only[go_sem,f12,f11,f10];exact⟨n+2,0,0,by simp;omega,by omega,by omega,rfl,rfl,Nk2.symm,yk2.symm⟩
  rintro ρ' H2 ⟨k,F,T,g12,hk1,hk2,rfl,g11,g10,hF,hT⟩;refine W.vs ?_;by_cases hke:k=n-1
  ·have z2:¬((n-1:Nat):Int)<=((n-1:Nat):Int)-1:=(by omega);rw[hke]at g12;simp only[go_sem,g12,f6,w5,emax,z2];rw[hke]at hF hT;have hP:0<10000 ^ (n-1):=Wf (by decide);have hT0:0<T:=by
    rw[hT];refine Nat.div_pos ?_ hP;exact Tt (Te (by decide) (by omega)) ylb
   have cF:=cube N (n-1) hN2 (by omega);have cT:=cube y (n-1) hy2 (by omega);have qhi:N / y<=F / T:=(by rw[hF,hT];exact PQ hP (by rw[<- hT];exact hT0));have qlo:F / (T+1)<=N / y:=(by rw[hF,hT];exact PR hP (by omega));have qcap:F / T<=10000:=(by rw[hF,hT];exact PS hNy ylb);rw[<- hF]at cF;rw[<- hT]at cT;have w6:=SF ((T:Int)+1) (by omega);obtain⟨lo,hlo⟩:∃lo,lo=F / (T+1):=⟨_,rfl⟩
   obtain⟨hi,hhi⟩:∃hi,hi=F / T:=⟨_,rfl⟩
   have t1:((F:Int)).tdiv ((T:Int)+1)=(lo:Int):=(by rw[Tw (by omega),hlo];rfl);have t2:((F:Int)).tdiv (T:Int)=(hi:Int):=(by rw[Tw (by omega),hhi];rfl);rw[<- hlo]at qlo;rw[<- hhi]at qhi qcap;have w7:=SF (lo:Int) (by omega);have w8:=SF (hi:Int) (by omega);have n1:¬(T:Int)+1=0:=(by omega);have n2:¬(T:Int)=0:=(by omega);refine W.env fun E3 hE3=>?_;have k0:E3 0=af p:=(by rw[hE3];exact f0);have k1:E3 1=af q:=(by rw[hE3];exact f1);have k6:E3 6=aa n:=(by rw[hE3];exact f6);have k7:E3 7=.own H.next 0 0 m 1:=(by rw[hE3];exact f7);have k8:E3 8=af (aD N):=(by rw[hE3];exact f8);have k9:E3 9=aa (i:Int):=(by rw[hE3];exact f9);have k10:E3 10=aa T:=(by rw[hE3];exact g10);have k11:E3 11=aa F:=(by rw[hE3];exact g11);clear hE3;refine W.dr 8 [0,0,2,7,0,0,48,15] mixed ?_;simp only[go_sem,k11,k10,w6,t1,t2,w7,w8,n1,n2];have gq2:H2.get H.next=some (.arr 0 3 (ints qs)):=gqc;obtain⟨Q,hQ⟩:∃Q,Q=N / y:=⟨_,rfl⟩
   rw[<- hQ]at qlo qhi;have hyl2:(aD y).length<=100:=hy1;refine W.env fun E4 hE4=>?_;have l1:E4 1=af q:=(by rw[hE4];exact k1);have l7:E4 7=.own H.next 0 0 m 1:=(by rw[hE4];exact k7);have l8:E4 8=af (aD N):=(by rw[hE4];exact k8);have l9:E4 9=aa (i:Int):=(by rw[hE4];exact k9);have l13:E4 13=aa (lo:Int):=(by rw[hE4];rfl);have l14:E4 14=aa (hi:Int):=(by rw[hE4];rfl);clear hE4;have Nl:((aD N).length:Int)<2 ^ 40:=(by omega);refine W.aG 1298069262873549765611524485865472 (by rfl) (fun ρ2 H3=>∃L U:Nat,ρ2 13=aa L/\ρ2 14=aa U/\L<=Q/\Q<=U/\U<=10000/\Over H2 H3) (fun ρ2 H=>(iv (ρ2 14)-iv (ρ2 13)).toNat) ?_ ?_
   ·simp only[go_sem,l13,l14];exact⟨lo,hi,rfl,rfl,qlo,qhi,qcap,.refl _⟩
   rintro ρ2 H4 ⟨L,U,m13,m14,hL,hU,hU2,ov4⟩;refine W.vs ?_;have n4:=ov4.next;by_cases hLU:(L:Int)<(U:Int)
   ·obtain⟨M,hM⟩:∃M,M=(L+U+1) / 2:=⟨_,rfl⟩
    have eLU:(L:Int)+(U:Int)=((L+U:Nat):Int):=(by omega);have eLU1:((L+U:Nat):Int)+1=((L+U+1:Nat):Int):=(by omega);have v1:=SF ((L+U:Nat):Int) (by omega);have v2:=SF ((L+U+1:Nat):Int) (by omega);have v3:(((L+U+1:Nat):Int)).tdiv 2=(M:Int):=(by rw[Tw (by omega),hM];rfl);have v4:=SF (M:Int) (by omega);have v5:=SF ((M:Int)-1) (by omega);simp only[go_sem,m13,m14,hLU,eLU,eLU1,v1,v2,v3,v4,l1];have hO4:ay H4.next (ext H4 [.arr 0 3 [.lit (.int .i64 (M:Int))]]) 3 (.own H4.next 0 0 1 1) (ints [(M:Int)]):=.inr ⟨H4.next,0,Nat.le_refl _,by simp[aS],rfl,cq _ _ _⟩;rw[hqy];refine aw.mv H4.next (args':=[af (aD y),af [(M:Int)]]) aE rfl (fun j hj _=>match j,hj with|0,_=>.cI _|1,_=>hO4.dG fun i hi=>hi) (PP y M (by omega) (by omega) _ _ ⟨trivial,?_⟩);have ylen:(aD (y*M)).length<=n+2:=qy (by
     have h1:y*M<=y*10000:=Ub _ (by omega);rw[TX];omega)
    have ov5:Over H2 ((ext H4 [.arr 0 3 [.lit (.int .i64 (M:Int))]]).cut H4.next):=ov4.trans ((Over.ext _ _).cut);simp only[go_sem,l8];refine aw.clo (C4 (y*M) N (by omega) _ _ ⟨trivial,?_⟩);by_cases hc:y*M<=N
    ·have hc1:gH ((y*M:Nat):Int) (N:Int)<=0:=C8 (by omega);have hMQ:M<=Q:=(by rw[hQ,UI (by omega),UC];exact hc);simp only[go_sem,hc1];exact⟨ov5.next,⟨M,U,rfl,m14,hMQ,hU,hU2,ov5⟩,by rw[m14];simp only[aa,iv];omega⟩
    ·have hc1:¬gH ((y*M:Nat):Int) (N:Int)<=0:=C9 (by omega);have hMQ:Q<M:=(by rw[hQ,Nat.div_lt_iff_lt_mul (by omega),UC];omega);simp only[go_sem,hc1,v5];exact⟨ov5.next,⟨L,M-1,m13,by simp;omega,hL,by omega,by omega,ov5⟩,by rw[m13];simp only[aa,iv];omega⟩
   ·have LQ:L=Q:=(by omega);subst LQ;have g4:=(ov4.old H.next (by omega)).trans gq2;have lq4:=ah g4;have him:i<m:=(by omega);have zi:(i:Int)<(m:Int):=(by omega);have Q9:L<10000:=(by rw[hQ];exact Uj (by omega));simp only[go_sem,m13,m14,hLU,l7,l9,zi,lq4];rw[fD _ (by omega)];obtain⟨H5,hH5⟩:∃H5,H5=H4.upd H.next (.arr 0 3 (ints (qs.set i (L:Int)))):=⟨_,rfl⟩
    rw[<- hH5];have g5:H5.get H.next=some (.arr 0 3 (ints (qs.set i (L:Int)))):=(by rw[hH5,ae,SK rfl]);have n5:H5.next=H4.next:=(by rw[hH5];rfl);have ov5:Over H H5:=⟨by have:=ov.next;omega,fun id hid=>by
     rw[hH5,ae,SI (by omega),ov4.old _ (by omega),ovc.old _ (by omega),ov.old _ hid]⟩
    clear hH5;refine⟨by omega,?_⟩;have dgL:Dg [(L:Int)]:=fun c hc=>by obtain rfl:=List.mem_singleton.1 hc;omega
    have vL:val [(L:Int)]=L:=(by simp[val]);have hO5:ay H5.next (ext H5 [.arr 0 3 [.lit (.int .i64 (L:Int))]]) 3 (.own H5.next 0 0 1 1) (ints [(L:Int)]):=.inr ⟨H5.next,0,Nat.le_refl _,by simp[aS],rfl,cq _ _ _⟩;refine aw.mv H5.next (args':=[af [(L:Int)]]) aE rfl (fun j hj _=>match j,hj with|0,_=>hO5.dG fun i hi=>hi) (sJ _ dgL (by simp) _ _ ⟨trivial,?_⟩);rw[vL];have ov6:Over H5 ((ext H5 [.arr 0 3 [.lit (.int .i64 (L:Int))]]).cut H5.next):=(Over.ext _ _).cut;obtain⟨H6,hH6⟩:∃H6,H6=(ext H5 [.arr 0 3 [.lit (.int .i64 (L:Int))]]).cut H5.next:=⟨_,rfl⟩
    rw[<- hH6]at ov6 ⊢;clear hH6;have n6:=ov6.next;have lenL:(aD L).length<=1:=qy (by omega);have hmul:y*L<=N:=(by rw[hQ];exact Nat.mul_div_le N y);simp only[go_sem,l1,l8];rw[hqy];refine aw.clo (PO y L (by omega) (by omega) _ _ ⟨trivial,?_⟩);simp only[go_sem];refine aw.clo (PN N (y*L) hmul (by omega) _ _ ⟨trivial,?_⟩);have wi:=SF ((i:Int)-1) (by omega);simp only[go_sem,l9,wi];have eX:=VM (x / 10000 ^ (i+1)) y;have eS:x / 10000 ^ i=a+10000*(x / 10000 ^ (i+1)):=by
     rw[TX,<- US,ha];omega
    have qs2:=PT (X:=x / 10000 ^ (i+1)) (a:=a) (y:=y) (Q:=x / 10000 ^ (i+1) / y) (R:=R) (by rw[hR];exact eX.symm) hRy;rw[<- eS,<- hN]at qs2;have eRN:N-y*L=x / 10000 ^ i % y:=(by rw[qs2.2,hQ];have:=VM N y;omega);rw[eRN];refine⟨by omega,⟨i,qs.set i (L:Int),rfl,by omega,ov5.trans ov6,by omega,(ov6.old _ (by omega)).trans g5,by simp[hql],fun c hc=>?_,?_,rfl⟩,by omega⟩
    ·rcases Tg hc with h|h
     ·exact hqd c h
     ·omega
    ·rw[TB (by simp;omega),val,List.getElem_set_self,Int.toNat_natCast,Wk (by omega),hv,qs2.1,hQ];omega
  obtain⟨j,rfl⟩:∃j,k=j+1:=⟨k-1,by omega⟩
  have ej:((j+1:Nat):Int)-1=(j:Int):=by omega
  rw[ej]at g12;have z2:((n-1:Nat):Int)<=(j:Int):=by omega
  have cF:=cube N j hN2 (by omega);have cT:=cube y j hy2 (by omega);rw[TX,<- US]at hF hT;have nF:N / 10000 ^ j=0\/j<(aD N).length:=by
   by_cases h:j<(aD N).length
   ·exact .inr h
   ·exact .inl (C7 h)
  have nT:y / 10000 ^ j=0\/j<=n:=by
   by_cases h:j<=n
   ·exact .inr h
   ·exact .inl (C7 (by rw[<- hqy,hn];omega))
  have dF:j<(aD N).length->(aD N)[j]?=some ((N / 10000 ^ j % 10000:Nat):Int):=fun h=>vk h;have dT:j<=n->q[j]?=some ((y / 10000 ^ j % 10000:Nat):Int):=fun h=>by rw[hqy];exact vk (by rw[<- hqy,hn];omega)
  obtain⟨F',hF'⟩:∃F',F'=N / 10000 ^ j:=⟨_,rfl⟩
  obtain⟨T',hT'⟩:∃T',T'=y / 10000 ^ j:=⟨_,rfl⟩
  rw[<- hF']at cF hF nF dF;rw[<- hT']at cT hT nT dT;obtain⟨cf,hcf⟩:∃cf,cf=F' % 10000:=⟨_,rfl⟩
  obtain⟨ct,hct⟩:∃ct,ct=T' % 10000:=⟨_,rfl⟩
  rw[<- hcf]at dF;rw[<- hct]at dT;have w6:=SF ((F:Int)*10000) (by omega);have w7:=SF ((F:Int)*10000+(cf:Int)) (by omega);have w8:=SF ((T:Int)*10000) (by omega);have w9:=SF ((T:Int)*10000+(ct:Int)) (by omega);have wj:=SF ((j:Int)-1) (by omega);by_cases hjl:j<(aD N).length
  ·have dF1:=dF hjl;have Nn:¬aD N=[]:=(by intro h;rw[h]at hjl;simp at hjl);have z3:(j:Int)<(aD N).length:=(by omega);by_cases hjn:j<=n
   ·have dT1:=dT hjn;have qn:¬q=[]:=(by intro h;rw[h]at hn;simp at hn);have z4:(j:Int)<=(n:Int):=(by omega);have z5:(j:Int)<q.length:=(by omega);simp only[go_sem,g12,f6,w5,emax,z2,g11,w6,f8,z3,Nn,dF1,w7,z4,z5,f1,dT1,qn,g10,w8,w9,wj];exact⟨⟨j,F',T',rfl,by omega,by omega,by simp;omega,by simp;omega,hF',hT'⟩,by omega⟩
   ·have z4:¬(j:Int)<=(n:Int):=(by omega);simp only[go_sem,g12,f6,w5,emax,z2,g11,w6,f8,z3,Nn,dF1,w7,z4,wj];exact⟨⟨j,F',T',rfl,by omega,by omega,by simp;omega,by rw[g10,aa];simp;omega,hF',hT'⟩,by omega⟩
  ·have z3:¬(j:Int)<(aD N).length:=(by omega);by_cases hjn:j<=n
   ·have dT1:=dT hjn;have qn:¬q=[]:=(by intro h;rw[h]at hn;simp at hn);have z4:(j:Int)<=(n:Int):=(by omega);have z5:(j:Int)<q.length:=(by omega);simp only[go_sem,g12,f6,w5,emax,z2,g11,w6,f8,z3,z4,z5,f1,dT1,qn,g10,w8,w9,wj];exact⟨⟨j,F',T',rfl,by omega,by omega,by simp;omega,by simp;omega,hF',hT'⟩,by omega⟩
   ·have z4:¬(j:Int)<=(n:Int):=(by omega);simp only[go_sem,g12,f6,w5,emax,z2,g11,w6,f8,z3,z4,wj];exact⟨⟨j,F',T',rfl,by omega,by omega,by simp;omega,by rw[g10,aa];simp;omega,hF',hT'⟩,by omega⟩
end Go.Proofs.R01
namespace Go.Proofs.R01
open Go.Hx Tryz
def vn:AVal->Nat
 |.vec _ l=>val (l.map iv)
 |_=>0
theorem Da (n:Nat):vn (af (aD n))=n:=by
 have:(ints (aD n)).map iv=aD n:=by simp[ints,aa,iv,Function.comp_def]
 show val ((ints (aD n)).map iv)=n;rw[this,kd]
theorem PU (x y:Nat)(hx:(aD x).length<=100)(hy:(aD y).length<=100)(H:AHeap)(K:ARes->AHeap->Prop)(hK:K (.ret (af (aD (Nat.gcd x y)))) H):ag prog G0 66 [af (aD x),af (aD y)] H K:=by
 refine ag.clo ⟨_,func66,rfl,rfl⟩ fun hcl=>?_;refine ag.st (n:=19) (rs:=[.tmp 4]) func66 ?_;simp only[go_sem];refine W.aG 262115 (by rfl) (fun ρ H'=>∃X Y:Nat,ρ 0=af (aD X)/\ρ 1=af (aD Y)/\(aD X).length<=100/\(aD Y).length<=100/\H'=H/\Nat.gcd X Y=Nat.gcd x y) (fun ρ H=>vn (ρ 1)) ?_ ?_
 ·simp only[go_sem];exact⟨x,y,rfl,rfl,hx,hy,rfl⟩
 rintro ρ H' ⟨X,Y,h0,h1,hX,hY,rfl,hg⟩;refine W.vs ?_;by_cases hz:Y=0
 ·subst hz;have z1:¬(0:Int)<(aD 0).length:=by rw[jh];simp
  rw[Nat.gcd_zero_right]at hg;simp only[go_sem,h0,h1,z1];rw[<- hg]at hK;exact ar.aV aE hcl (.refl _) (.cI _) hK
 have z1:(0:Int)<(aD Y).length:=by
  have:(aD Y).length≠0:=fun h=>hz (yv.1 (SP h));omega
 simp only[go_sem,h0,h1,z1];refine aw.clo (yy X Y hz hX hY _ _ ⟨trivial,?_⟩);have hlt:X % Y<Y:=U0 _ (by omega);have hl:(aD (X % Y)).length<=100:=by
  rcases S9 (aD Y).length (aD (X % Y)).length with h|h
  ·exact absurd (qz h) (by omega)
  ·omega
 simp only[go_sem,h1];refine⟨⟨Y,X % Y,rfl,rfl,hY,hl,?_⟩,?_⟩
 ·rw[<- hg,V2 Y,<- Nat.gcd_rec,V2]
 ·have e1:=Da (X % Y);have e2:=Da Y;rw[show AVal.vec (aD (X % Y)).length (ints (aD (X % Y)))=af (aD (X % Y)) from rfl,show AVal.vec (aD Y).length (ints (aD Y))=af (aD Y) from rfl,e1,e2];exact hlt
theorem Db {S:Nat->Prop}{H:AHeap}{nx:Nat}{n:Int}{b:Bool}:Fz S H nx (.tup [.lit (.int .i64 n),.lit (.bool b)]) (.tup [aa n,.lit (.bool b)]):=.tup rfl fun i hi _=>match i,hi with
 |0,_=>.lit _
 |1,_=>.lit _
def ke (n:Nat):AVal:=if n<=4611686018427387903 then .tup [aa n,.lit (.bool true)] else .tup [aa 0,.lit (.bool false)]
theorem sL (n:Nat)(hn:(aD n).length<=100)(H:AHeap)(K:ARes->AHeap->Prop)(hK:K (.ret (ke n)) H):ag prog G0 143 [af (aD n)] H K:=by
 refine ag.clo ⟨_,func143,rfl,rfl⟩ fun hcl=>?_;obtain⟨p,hp⟩:∃p,p=aD n:=⟨_,rfl⟩
 refine ag.st (n:=25) (rs:=[.tmp 2,.tmp 3]) func143 ?_;simp only[go_sem];refine aw.clo (yw 4611686018427387903 (by omega) _ _ ⟨trivial,?_⟩);simp only[go_sem];refine aw.clo (C4 n 4611686018427387903 (by omega) _ _ ⟨trivial,?_⟩);unfold ke at hK;by_cases hb:n<=4611686018427387903;rotate_left
 ·have c1:0<gH (n:Int) 4611686018427387903:=by have:=C9 (a:=(n:Int)) (b:=4611686018427387903) (by omega);omega
  rw[SI hb]at hK;simp only[go_sem,c1];exact ar.aV aE hcl (.refl _) Db hK
 have c1:¬ 0<gH (n:Int) 4611686018427387903:=by have:=C8 (a:=(n:Int)) (b:=4611686018427387903) (by omega);omega
 rw[SK hb]at hK;have w1:=SF (((aD n).length:Int)-1) (by omega);simp only[go_sem,c1,w1];refine W.aG 16769072 (by rfl) (fun ρ H'=>∃k X:Nat,ρ 5=aa ((k:Int)-1)/\ρ 4=aa X/\X=n / 10000 ^ k/\k<=(aD n).length/\H'=H) (fun ρ H=>(iv (ρ 5)+1).toNat) ?_ ?_
 ·simp only[go_sem];refine⟨(aD n).length,0,rfl,rfl,?_,by omega⟩;exact(UH (by have:=nX (lU n);rwa [kd]at this)).symm
 rintro ρ H' ⟨k,X,h5,h4,hX,hk,rfl⟩;refine W.vs ?_;by_cases hz:k=0
 ·subst hz;have z1:¬(0:Int)<=((0:Nat):Int)-1:=by omega
  simp only[VB,Wi]at hX;subst hX;simp only[go_sem,h5,h4];exact ar.aV aE hcl (.refl _) Db hK
 obtain⟨j,rfl⟩:∃j,k=j+1:=⟨k-1,by omega⟩
 have ej:((j+1:Nat):Int)-1=(j:Int):=by omega
 rw[ej]at h5;have z1:(0:Int)<=(j:Int):=by omega
 have hd:=vk (n:=n) (k:=j) (by omega);rw[TX,<- US]at hX;have hle:n / 10000 ^ j<=n:=UJ _ _;obtain⟨Y,hY⟩:∃Y,Y=n / 10000 ^ j:=⟨_,rfl⟩
 rw[<- hY]at hd hX hle;obtain⟨c,hc⟩:∃c,c=Y % 10000:=⟨_,rfl⟩
 rw[<- hc]at hd;have w2:=SF (10000*(X:Int)) (by omega);have w3:=SF (10000*(X:Int)+(c:Int)) (by omega);have w4:=SF ((j:Int)-1) (by omega);have dn:¬aD n=[]:=by intro h;rw[h]at hd;simp at hd
 have z2:(j:Int)<(aD n).length:=by omega
 simp only[go_sem,h5,h4,z1,w2,hd,dn,z2,w3,w4];exact⟨⟨j,Y,rfl,by simp;omega,hY,by omega⟩,by omega⟩
def ph (neg:Bool)(N D:Nat):AVal :=
 if N / Nat.gcd N D<=4611686018427387903/\D / Nat.gcd N D<=4611686018427387903 then .tup [qV (if neg=true then -((N / Nat.gcd N D:Nat):Int) else ((N / Nat.gcd N D:Nat):Int)) ((D / Nat.gcd N D:Nat):Int),.lit (.bool true)] else .tup [qV 0 0,.lit (.bool false)]
theorem qB {S:Nat->Prop}{H:AHeap}{nx:Nat}{x y:Int}{b:Bool}:Fz S H nx (.tup [.agg [.lit (.int .i64 x),.lit (.int .i64 y)],.lit (.bool b)]) (.tup [qV x y,.lit (.bool b)]):=.tup rfl fun i hi _=>match i,hi with
 |0,_=>Qc _ _
 |1,_=>.lit _
theorem yz {a b:Nat}(h:a<=b):(aD a).length<=(aD b).length:=by
 rcases S9 (aD b).length (aD a).length with h1|h1
 ·exact absurd (qz h1) (by omega)
 ·exact h1
theorem PV (neg:Bool)(N D:Nat)(hD:D≠0)(hN:(aD N).length<=100)(hDl:(aD D).length<=100)(H:AHeap)(K:ARes->AHeap->Prop)(hK:K (.ret (ph neg N D)) H):ag prog G0 127 [.lit (.bool neg),af (aD N),af (aD D)] H K:=by
 refine ag.clo ⟨_,func127,rfl,rfl⟩ fun hcl=>?_;have g0:0<Nat.gcd N D:=Nat.gcd_pos_of_pos_right _ (by omega);have gl:(aD (Nat.gcd N D)).length<=100:=Tt (yz (Nat.le_of_dvd (by omega) (Nat.gcd_dvd_right N D))) hDl;have gc:∀H K,K (ARes.ret (af (aD (Nat.gcd N D)))) H->ag prog G0 66 [af (aD N),af (aD D)] H K:=fun H K h=>PU N D hN hDl H K h;unfold ph at hK;generalize Nat.gcd N D=g at *
 have l1:(aD (N / g)).length<=100:=Tt (yz (UJ _ _)) hN;have l2:(aD (D / g)).length<=100:=Tt (yz (UJ _ _)) hDl;have d1:∀H K,K (ARes.ret (.tup [af (aD (N / g)),af (aD (N % g))])) H->ag prog G0 107 [af (aD N),af (aD g)] H K:=fun H K h=>yy N g (by omega) hN gl H K h;have d2:∀H K,K (ARes.ret (.tup [af (aD (D / g)),af (aD (D % g))])) H->ag prog G0 107 [af (aD D),af (aD g)] H K:=fun H K h=>yy D g (by omega) hDl gl H K h;generalize N / g=p at *
 generalize D / g=q at *
 generalize N % g=r1 at *
 generalize D % g=r2 at *
 refine ag.st (n:=51) (rs:=[.cell 6 50,.tmp 7]) func127 ?_;simp only[go_sem];refine aw.clo (gc _ _ ⟨trivial,?_⟩);simp only[go_sem];refine aw.clo (d1 _ _ ⟨trivial,?_⟩);simp only[go_sem];refine aw.clo (d2 _ _ ⟨trivial,?_⟩);simp only[go_sem];refine aw.clo (sL p l1 _ _ ⟨trivial,?_⟩);unfold ke;by_cases hp:p<=4611686018427387903
 ·have wp:=SF (0-(p:Int)) (by omega);rw[SK hp];simp only[go_sem];refine aw.clo (sL q l2 _ _ ⟨trivial,?_⟩);unfold ke;by_cases hq:q<=4611686018427387903
  ·rw[SK ⟨hp,hq⟩]at hK;rw[SK hq];cases neg with
   |false =>
    simp only[go_sem];exact ar.drop aE hcl qB (by simpa using hK)
   |true =>
    simp only[go_sem];exact ar.drop aE hcl qB (by rw[wp,Int.zero_sub];simpa using hK)
  ·rw[SI (fun h=>hq h.2)]at hK;rw[SI hq];simp only[go_sem];exact ar.drop aE hcl qB hK
 ·rw[SI (fun h=>hp h.1)]at hK;rw[SI hp];simp only[go_sem];refine aw.clo (sL q l2 _ _ ⟨trivial,?_⟩);unfold ke;by_cases hq:q<=4611686018427387903
  ·rw[SK hq];simp only[go_sem];exact ar.drop aE hcl qB hK
  ·rw[SI hq];simp only[go_sem];exact ar.drop aE hcl qB hK
end Go.Proofs.R01
namespace Go.Proofs.R01
open Go.Hx Tryz
abbrev sM (n:Int):Prop:=-9223372036854775808<=n/\n<=9223372036854775807
theorem Dc {n:Int}(h:sM n):(aD n.natAbs).length<=5:=qy (by
 have:(10000:Nat) ^ 5=100000000000000000000:=by decide
 have:=h.1;have:=h.2;omega)
theorem PW (neg:Bool)(N D:Nat):∃x y b,ph neg N D=.tup [qV x y,.lit (.bool b)]:=by
 unfold ph;split
 ·exact⟨_,_,_,rfl⟩
 ·exact⟨_,_,_,rfl⟩
theorem PX (n d:Int)(hn:sM n)(hd:sM d)(hd0:d≠0)(H:AHeap)(K:ARes->AHeap->Prop)(hK:K (.ret (ph (sN n d) n.natAbs d.natAbs)) H):ag prog G0 88 [.lit (.int .i64 n),.lit (.int .i64 d)] H K:=by
 refine ag.clo ⟨_,func88,rfl,rfl⟩ fun hcl=>?_;refine ag.st (n:=18) (rs:=[.cell 4 50,.tmp 5]) func88 ?_;simp only[go_sem,P8 Tryz.underlying4];refine aw.clo (yw n hn _ _ ⟨trivial,?_⟩);simp only[go_sem];refine aw.clo (yw d hd _ _ ⟨trivial,?_⟩);simp only[go_sem];have l1:=Dc hn;have l2:=Dc hd;refine aw.clo (PV _ _ _ (by omega) (by omega) (by omega) _ _ ⟨trivial,?_⟩);unfold sN at hK;obtain⟨x,y,b,e⟩:=PW (!(decide (n<0) == decide (d<0))) n.natAbs d.natAbs;rw[e]at hK ⊢;simp only[go_sem,qV];exact ar.drop aE hcl qB hK
theorem PY {n d:Int}(hn:-4611686018427387903<=n/\n<=4611686018427387903)(hd:1<=d/\d<=4611686018427387903):ph (sN n d) n.natAbs d.natAbs=.tup [dV n d,.lit (.bool true)]:=by
 have g0:0<Int.gcd n d:=VJ _ (by omega);have hg:Nat.gcd n.natAbs d.natAbs=Int.gcd n d:=rfl;have hs:sN n d=decide (n<0):=by
  unfold sN;rw[TD (show ¬d<0 by omega)];cases decide (n<0)<;>rfl
 have l1:n.natAbs / Int.gcd n d<=n.natAbs:=UJ _ _;have l2:d.natAbs / Int.gcd n d<=d.natAbs:=UJ _ _;unfold ph dV qV;rw[hg,SK ⟨by omega,by omega⟩,hs];have e2:d.tdiv (Int.gcd n d:Int)=((d.natAbs / Int.gcd n d:Nat):Int):=by
  rw[Tw (by omega),VG];congr 1;omega
 have e1:n.tdiv (Int.gcd n d:Int)=if decide (n<0)=true then -((n.natAbs / Int.gcd n d:Nat):Int) else ((n.natAbs / Int.gcd n d:Nat):Int):=by
  by_cases h:n<0
  ·rw[Tm h,SK rfl];have:n=-(n.natAbs:Int):=by omega
   conv=>lhs;rw[this]
   rw[Int.neg_tdiv,Tw (by omega),VG];congr 3
   all_goals (try rw[<- this])
  ·rw[TD h,SI (by decide)];rw[Tw (by omega),VG];congr 1;omega
 rw[e1,e2]
theorem PZ (n d:Int)(hn:-4611686018427387903<=n/\n<=4611686018427387903)(hd:1<=d/\d<=4611686018427387903)(H:AHeap)(K:ARes->AHeap->Prop)(hK:K (.ret (dV n d)) H):ag prog G0 47 [.lit (.int .i64 n),.lit (.int .i64 d)] H K:=by
 refine ag.clo ⟨_,func47,rfl,rfl⟩ fun hcl=>?_;refine ag.st (n:=14) (rs:=[.cell 4 50]) func47 ?_;simp only[go_sem];refine aw.clo (PX n d (by unfold sM;omega) (by unfold sM;omega) (by omega) _ _ ⟨trivial,?_⟩);rw[PY hn hd];simp only[go_sem,dV];refine ar.drop aE hcl (v':=dV n d) ?_ hK;exact .agg rfl fun i hi _=>match i,hi with
  |0,_=>.lit _
  |1,_=>.lit _
end Go.Proofs.R01
namespace Go.Proofs
open Go.Hx Tryz
def bZ (l:List Int):List AVal:=l.map fun n=>.lit (.int .u8 n)
theorem rZ {l:List Int}{k:Nat}{a:Int}(h:l[k]?=some a):(bZ l)[k]?=some (.lit (.int .u8 a)):=by unfold bZ;rw[List.getElem?_map,h];rfl
end Go.Proofs
namespace Go.Hx
variable {P:Program} {H H':AHeap}
theorem qm {t e:TypeId}{lo n m:Nat}{v x:AVal}{cs src:List AVal}{z:List AVal}(ht:P.underlying t=some (.slice e))(hz:P.cellsOf e=1)(hzero:bR P e=some z)(hsrc:cV H 1 x=some (m,src))(hm:src.length=m)(hx:src.all AVal.one=true)
  (hb:(cs.length+m)*P.bytesOf e<=2 ^ 46/\cs.length+m<=2 ^ 46) (ho:ay lo H e v cs) (hlo:lo<=H.next) (hn:n=H.next):
  ∃v' H',bM P H n t t v x=some (v',H')/\ay lo H' e v' (cs++src)/\H.next<=H'.next/\(∀k,k<H.next->(∀g n,v≠.own k g 0 n 1)->H'.get k=H.get k):=by
 subst hm;obtain⟨v',H',hA,h2⟩:=lK (H:=H) (n:=n) ht hz hzero hx hb ho hlo hn;refine⟨v',H',?_,h2⟩;rw[<- hA];have e2:cV H 1 (.vec src.length src)=some (src.length,src):=by unfold cV;simp
 unfold bM;rw[ht];simp only[hz,hsrc,e2]
end Go.Hx
namespace Go.Proofs
open Go.Hx Tryz
def U8 (n:Int):Prop:=0<=n/\n<256
theorem O0 (n:Nat)(hn:n<=5)(ord:List Int)(H:AHeap)(K:ARes->AHeap->Prop)(hK:K (.ret (af (List.replicate n 1))) H):
  ag prog G0 120 [.agg [.vec n (bZ (List.replicate n 0)),(.lit (.int .u16 0)),.vec ord.length (bZ ord)]] H K:=by
 refine ag.clo ⟨_,func120,rfl,rfl⟩ fun hcl=>?_;refine ag.st (n:=28) (rs:=[.tmp 2]) func120 ?_;simp only[go_sem];obtain⟨H1,hH1⟩:∃H1,H1=ext H [.arr 0 140 [.vec n (bZ (List.replicate n 0)),.lit (.int .u16 0),.vec ord.length (bZ ord)]]:=⟨_,rfl⟩
 have l1:=ah (show H1.get H.next=some (.arr 0 140 [.vec n (bZ (List.replicate n 0)),.lit (.int .u16 0),.vec ord.length (bZ ord)]) by rw[hH1];exact cq ..);have n1:H1.next=H.next+1:=hH1▸rfl
 have o1:Over H H1:=hH1▸.ext _ _
 rw[<- hH1];refine W.aG 134217720 (by rfl) (fun ρ H'=>∃k:Nat,ρ 4=aa k/\k<=n/\Over H1 H'/\ay H1.next H' 3 (ρ 3) (ints (List.replicate k 1))) (fun ρ H=>n-(iv (ρ 4)).toNat) ?_ ?_
 ·simp only[go_sem];exact⟨0,rfl,by omega,.refl _,.nil⟩
 rintro ρ H' ⟨k,h4,hk,ov,h3⟩;refine W.en (fun E=>E 1=.ptr H.next 0 0 /\ E 3=ρ 3 /\ E 4=aa k) (by simp only[go_sem,h4]) fun E ⟨e1,e3,e4⟩=>?_
 refine W.vs ?_;have l2:=(ov.live (g:=0) (by omega:H.next<H1.next)).trans l1;by_cases hb:(k:Int)<n
 ·have h5:(k:Int)<5:=by omega
  have hg:(bZ (List.replicate n 0))[k]?=some (.lit (.int .u8 0)):=rZ (by rw[TH,SK (by omega)]);have hne:=aJ hg;obtain⟨v',H2,hA,ov2,hO,hn2,_⟩:=jk 1 ov h3 (by simp;omega);have w1:=SF ((k:Int)+1) (by omega);have hk0:(k:Int) >= 0:=by omega
  have w5:IntKind.i64.wrap (1+IntKind.i64.wrap (Int.tmod 0 4))=1:=by decide
  simp only[go_sem,e1,e3,e4,l2,hb,h5,hk0,hg,hne,w1,w5,hA];refine⟨by have:=ov2.next;omega,⟨k+1,rfl,by omega,ov2,?_⟩,by rw[h4];simp only[aa,aM];omega⟩;rw[UZ];exact hO
 ·simp only[go_sem,e1,e3,e4,l2,hb];obtain rfl:k=n:=by omega
  exact ar.aV aE hcl (o1.trans ov) (h3.dG fun i hi=>by omega) hK
structure IsPerm (n:Nat)(p:List Int):Prop where
 len:p.length=n
 nd:p.Nodup
 rng:∀x∈p,0<=x/\x<n
theorem O1 {n:Nat}{p:List Int}(h:IsPerm n p)(at':Nat)(ha:at'<=n):IsPerm (n+1) (p.take at'++(n:Int) :: p.drop at'):=by
 have hperm:(p.take at'++(n:Int) :: p.drop at').Perm ((n:Int) :: p):=by
  have:=List.perm_middle (a:=(n:Int)) (l₁:=p.take at') (l₂:=p.drop at')
  rwa [Tl]at this
 refine⟨by rw[hperm.length_eq];simp[h.len],(hperm.nodup_iff).2 (Vm.2 ⟨fun hm=>?_,h.nd⟩),fun x hx=>?_⟩
 ·have:=h.rng _ hm;omega
 ·rcases List.mem_cons.1 (hperm.mem_iff.1 hx) with rfl|h2
  ·omega
  ·have:=h.rng x h2;omega
def mE (ord:List Int)(k:Nat):Nat:=if k<ord.length then (ord.getD k 0 % ((k:Int)+1)).toNat else 0
def gF (ord:List Int):Nat->List Int
 |0=>[]
 |k+1=>(gF ord k).take (mE ord k)++(k:Int) :: (gF ord k).drop (mE ord k)
theorem O2 (ord:List Int)(k:Nat):mE ord k<=k:=by
 unfold mE;split
 ·have:=TO (ord.getD k 0) (show 0<(k:Int)+1 by omega);omega
 ·omega
theorem ye (ord:List Int):∀n:Nat,IsPerm n (gF ord n)
 |0=>⟨rfl,by simp[gF],by simp[gF]⟩
 |n+1=>O1 (ye ord n) _ (O2 ord n)
theorem O3 (n:Nat)(hn:n<=5)(ord:List Int)(hol:(ord.length:Int)<2 ^ 63)(ho8:∀x∈ord,U8 x)(H:AHeap)(K:ARes->AHeap->Prop)(hK:∀v H',Over H H'->ay H.next H' 3 v (ints (gF ord n))->K (.ret v) H'):
  ag prog G0 74 [.agg [.vec n (bZ (List.replicate n 0)),.lit (.int .u16 0),.vec ord.length (bZ ord)]] H K:=by
 refine ag.clo ⟨_,func74,rfl,rfl⟩ fun hcl=>?_;refine ag.st (n:=42) (rs:=[.tmp 2]) func74 ?_;simp only[go_sem];obtain⟨H1,hH1⟩:∃H1,H1=ext H [.arr 0 140 [.vec n (bZ (List.replicate n 0)),.lit (.int .u16 0),.vec ord.length (bZ ord)]]:=⟨_,rfl⟩
 have l1:=ah (show H1.get H.next=some (.arr 0 140 [.vec n (bZ (List.replicate n 0)),.lit (.int .u16 0),.vec ord.length (bZ ord)]) by rw[hH1];exact cq ..);have n1:H1.next=H.next+1:=hH1▸rfl
 have o1:Over H H1:=hH1▸.ext _ _
 rw[<- hH1];refine W.aG 2199023255544 (by rfl) (fun ρ H'=>∃(k:Nat) (p:List Int),ρ 4=aa k/\k<=n/\p=gF ord k/\Over H1 H'/\ay H1.next H' 3 (ρ 3) (ints p)) (fun ρ H=>n-(iv (ρ 4)).toNat) ?_ ?_
 ·simp only[go_sem];exact⟨0,[],rfl,by omega,rfl,.refl _,.nil⟩
 rintro ρ H' ⟨k,p,h4,hk,hpe,ov,h3⟩;have hp:IsPerm k p:=by rw[hpe];exact ye ord k
 refine W.en (fun E=>E 1=.ptr H.next 0 0 /\ E 3=ρ 3 /\ E 4=aa k) (by simp only[go_sem,h4]) fun E ⟨e1,e3,e4⟩=>?_
 refine W.vs ?_;have l2:=(ov.live (g:=0) (by omega:H.next<H1.next)).trans l1;simp only[go_sem,e1,l2];refine aw.clo (O0 n hn ord _ _ ⟨trivial,?_⟩);by_cases hb:(k:Int)<n;rotate_left
 ·simp only[go_sem,S6,e3,e4,hb];obtain rfl:k=n:=by omega
  exact ar.mk (o1.trans ov).next (hK _ _ (o1.trans ov) (by rw[<- hpe];exact h3.keep (by omega) (Nat.le_refl _) fun _ _ _ _ _ _=>rfl))
  -- the place
 rcases h3 with ⟨h3n,hpn⟩|⟨oi,og,hoi1,hoi2,h3o,hog⟩
 ·have p0:p=[]:=by cases p with
   |nil=>rfl
   |cons a l=>simp[ints]at hpn
  have pl:=hp.len;rw[p0]at pl;obtain rfl:k=0:=by simpa using pl.symm
  rw[h3n]at e3;have e4':E 4=aa 0:=e4;have hb':(0:Int)<n:=hb;by_cases ho:(0:Int)<ord.length
  ·obtain⟨b,hbg⟩:=get_of_lt (l:=ord) (i:=0) (by omega);have b8:=ho8 b (SE hbg);have hbg':=rZ hbg;have hbne:=aJ hbg';have w2:IntKind.i64.wrap b=b:=SF b (by have:=b8.1;have:=b8.2;omega);have w1:IntKind.i64.wrap 1=1:=(by decide);have m1:b.tmod 1=0:=(by simp);obtain⟨v2,Hb,hA2,ovB,hO2,hn2,hp2⟩:=jk (H:=H') (H':=H') (l:=[]) (v:=.lit (.slice none 0 0)) (0:Int) (.refl _) ay.nil (by simp);obtain⟨v3,Hc,hA3,hO3,hn3,hp3⟩:=qm (P:=prog) (H:=Hb) (t:=42) (n:=Hb.next) (m:=0) (v:=v2) (x:=.lit (.slice none 0 0)) (src:=[]) Tryz.underlying42 Tryz.dz Tryz.dH rfl rfl rfl (by rw[Tryz.dL];exact⟨by decide,by decide⟩) hO2 ovB.next rfl;have ovC:Over H' Hc:=lV ovB hO2 hn3 hp3;have hA1:bM prog H' H'.next 42 42 (.lit (.slice none 0 0)) (.lit (.slice none 0 0))=some (.lit (.slice none 0 0),H'):=by
    unfold bM;rw[Tryz.underlying42];simp only[Tryz.dH,Tryz.dz,Option.bind_some,xq,if_true]
   have hO3':ay H1.next Hc 3 v3 (ints [0]):=by
    rw[List.append_nil]at hO3;exact hO3.keep ov.next (Nat.le_refl _) fun _ _ _ _ _ _=>rfl
   simp only[go_sem,S6,e1,e3,e4',l2,hb',ho,hbg',hbne,w1,w2,m1,hA1,hA2,hA3];refine⟨by have:=ovC.next;have:=ov.next;omega,⟨1,[0],rfl,by omega,by simp[gF],ov.trans ovC,hO3'⟩,by rw[h4];simp only[aa,aM];omega⟩
  ·have w1:IntKind.i64.wrap 1=1:=(by decide);obtain⟨v2,Hb,hA2,ovB,hO2,hn2,hp2⟩:=jk (H:=H') (H':=H') (l:=[]) (v:=.lit (.slice none 0 0)) (0:Int) (.refl _) ay.nil (by simp);obtain⟨v3,Hc,hA3,hO3,hn3,hp3⟩:=qm (P:=prog) (H:=Hb) (t:=42) (n:=Hb.next) (m:=0) (v:=v2) (x:=.lit (.slice none 0 0)) (src:=[]) Tryz.underlying42 Tryz.dz Tryz.dH rfl rfl rfl (by rw[Tryz.dL];exact⟨by decide,by decide⟩) hO2 ovB.next rfl;have ovC:Over H' Hc:=lV ovB hO2 hn3 hp3;have hA1:bM prog H' H'.next 42 42 (.lit (.slice none 0 0)) (.lit (.slice none 0 0))=some (.lit (.slice none 0 0),H'):=by
    unfold bM;rw[Tryz.underlying42];simp only[Tryz.dH,Tryz.dz,Option.bind_some,xq,if_true]
   have hO3':ay H1.next Hc 3 v3 (ints [0]):=by
    rw[List.append_nil]at hO3;exact hO3.keep ov.next (Nat.le_refl _) fun _ _ _ _ _ _=>rfl
   simp only[go_sem,S6,e1,e3,e4',l2,hb',ho,w1,hA1,hA2,hA3];refine⟨by have:=ovC.next;have:=ov.next;omega,⟨1,[0],rfl,by omega,by simp[gF],ov.trans ovC,hO3'⟩,by rw[h4];simp only[aa,aM];omega⟩
 rw[h3o]at e3;have lo:=ah hog;by_cases ho:(k:Int)<ord.length
 ·obtain⟨b,hbg⟩:=get_of_lt (l:=ord) (i:=k) (by omega);have b8:=ho8 b (SE hbg);have hbg':=rZ hbg;have hbne:=aJ hbg';have w0:=SF ((k:Int)+1) (by omega);have w1:=w0;have w2:IntKind.i64.wrap b=b:=SF b (by have:=b8.1;have:=b8.2;omega);have m1:b.tmod ((k:Int)+1)=b % ((k:Int)+1):=Ta b8.1;have m2:=TP b (show (k:Int)+1≠0 by omega);have m3:=TO b (show 0<(k:Int)+1 by omega);have hz:¬(k:Int)+1=0:=by omega
  obtain⟨a,hat⟩:=SR m2;have ha:a<=k:=by omega
  have hac:(0:Int)<=(a:Int):=by omega
  have hap:(a:Int)<=(p.length:Int):=by rw[hp.len];omega
  have hak:(0:Int)<=(a:Int)/\(a:Int)<=(p.length:Int):=⟨hac,hap⟩
  have pl:p.length=k:=hp.len;obtain⟨v1,Ha,hA1,hO1,hn1,hp1⟩:=qm (P:=prog) (H:=H') (t:=42) (n:=H'.next) (m:=a) (v:=.lit (.slice none 0 0)) (x:=.own oi og 0 a 1) (src:=(ints p).take a) Tryz.underlying42 Tryz.dz Tryz.dH
   (by rw[rO,SK rfl,lo];simp) (by simp[aH]<;>omega) (Td.2 fun c hc=>by
    obtain⟨z,_,rfl⟩:=SY.1 (S8 hc);rfl) (by rw[Tryz.dL];simp<;>omega) ay.nil (Nat.le_refl _) rfl
  have ovA:Over H' Ha:=⟨hn1,fun id hi=>hp1 id hi fun g n h=>by cases h⟩
  rw[List.nil_append,zg]at hO1;obtain⟨v2,Hb,hA2,ovB,hO2,hn2,hp2⟩:=jk (k:Int) ovA hO1 (by simp<;>omega);have hcl2:(ints (p.take a++[(k:Int)])).length<=k+1:=by rw[aH,List.length_append,SN];simp<;>omega
  have hlb:Hb.live oi og=some (3,ints p):=(ovB.live hoi2).trans lo;obtain⟨v3,Hc,hA3,hO3,hn3,hp3⟩:=qm (P:=prog) (H:=Hb) (t:=42) (n:=Hb.next) (m:=p.length-a) (v:=v2) (x:=.own oi og a (p.length-a) 1) (src:=(ints p).drop a) Tryz.underlying42 Tryz.dz Tryz.dH
   (by rw[rO,SK rfl,hlb];simp[SH,aH]) (by simp[aH]) (Td.2 fun c hc=>by
    obtain⟨z,_,rfl⟩:=SY.1 (T3 hc);rfl) (by rw[Tryz.dL];omega) hO2 ovB.next rfl
  have ovC:Over H' Hc:=lV ovB hO2 hn3 hp3;have hla:Ha.live oi og=some (3,ints p):=(ovA.live hoi2).trans lo;rw[zh]at hO3;have hO3':ay H1.next Hc 3 v3 (ints (p.take a++(k:Int) :: p.drop a)):=by
   have:ints (p.take a++[(k:Int)])++ints (p.drop a)=ints (p.take a++(k:Int) :: p.drop a):=(by simp[ints]);rw[this]at hO3;exact hO3.keep ov.next (Nat.le_refl _) fun _ _ _ _ _ _=>rfl
  simp only[go_sem,S6,e1,e3,e4,l2,hb,ho,hbg',hbne,w0,w2,m1,hz,hat,hac,hap,Int.toNat_natCast,lo,hlb,hA1,hA2,hA3];refine⟨by have:=ovC.next;omega,⟨k+1,_,rfl,by omega,by rw[gF,<- hpe,show mE ord k=a by unfold mE;rw[SK (by omega),bp hbg,hat];rfl],ov.trans ovC,hO3'⟩,by rw[h4];simp only[aa,aM];omega⟩
 ·have w0:=SF ((k:Int)+1) (by omega);have pl:p.length=k:=hp.len;obtain⟨v1,Ha,hA1,hO1,hn1,hp1⟩:=qm (P:=prog) (H:=H') (t:=42) (n:=H'.next) (m:=0) (v:=.lit (.slice none 0 0)) (x:=.own oi og 0 0 1) (src:=(ints p).take 0) Tryz.underlying42 Tryz.dz Tryz.dH
   (by rw[rO,SK rfl,lo];simp) (by simp[aH]<;>omega) (Td.2 fun c hc=>by
    obtain⟨z,_,rfl⟩:=SY.1 (S8 hc);rfl) (by rw[Tryz.dL];simp<;>omega) ay.nil (Nat.le_refl _) rfl
  have ovA:Over H' Ha:=⟨hn1,fun id hi=>hp1 id hi fun g n h=>by cases h⟩
  rw[List.nil_append,zg]at hO1;obtain⟨v2,Hb,hA2,ovB,hO2,hn2,hp2⟩:=jk (k:Int) ovA hO1 (by simp<;>omega);have hcl2:(ints (p.take 0++[(k:Int)])).length<=k+1:=by rw[aH,List.length_append,SN];simp<;>omega
  have hlb:Hb.live oi og=some (3,ints p):=(ovB.live hoi2).trans lo;obtain⟨v3,Hc,hA3,hO3,hn3,hp3⟩:=qm (P:=prog) (H:=Hb) (t:=42) (n:=Hb.next) (m:=p.length) (v:=v2) (x:=.own oi og 0 (p.length) 1) (src:=(ints p).drop 0) Tryz.underlying42 Tryz.dz Tryz.dH
   (by rw[rO,SK rfl,hlb];simp[SH,aH]) (by simp[aH]) (Td.2 fun c hc=>by
    obtain⟨z,_,rfl⟩:=SY.1 (T3 hc);rfl) (by rw[Tryz.dL];omega) hO2 ovB.next rfl
  have ovC:Over H' Hc:=lV ovB hO2 hn3 hp3;have hla:Ha.live oi og=some (3,ints p):=(ovA.live hoi2).trans lo;rw[zh]at hO3;have hO3':ay H1.next Hc 3 v3 (ints (p.take 0++(k:Int) :: p.drop 0)):=by
   have:ints (p.take 0++[(k:Int)])++ints (p.drop 0)=ints (p.take 0++(k:Int) :: p.drop 0):=(by simp[ints]);rw[this]at hO3;exact hO3.keep ov.next (Nat.le_refl _) fun _ _ _ _ _ _=>rfl
  simp only[go_sem,S6,e1,e3,e4,l2,hb,ho,w0,lo,hlb,hA1,hA2,hA3];refine⟨by have:=ovC.next;omega,⟨k+1,_,rfl,by omega,by rw[gF,<- hpe,show mE ord k=0 by unfold mE;rw[SI (by omega)]],ov.trans ovC,hO3'⟩,by rw[h4];simp only[aa,aM];omega⟩
theorem o9 {l:List Int}(h:∀x∈l,0<=x):0<=l.sum:=by
 induction l with
 |nil=>simp
 |cons a l ih =>
  rw[Uv];have:=h a (by simp);have:=ih fun x hx=>h x (by simp[hx]);omega
theorem Ct {l:List Int}{i:Nat}{a b:Int}(h:l[i]?=some a):(l.set i b).sum=l.sum-a+b:=by
 induction l generalizing i with
 |nil=>simp at h
 |cons x l ih =>
  cases i with
  |zero=>simp at h;subst h;simp only[List.set_cons_zero,Uv];omega
  |succ i =>
   simp only[List.set_cons_succ,Uv];rw[ih (by simpa using h)];omega
theorem O4 {l:List Int}{b:Int}(h:∀x∈l,0<=x/\x<=b):l.sum<=b*l.length:=by
 induction l with
 |nil=>simp
 |cons a l ih =>
  rw[Uv,List.length_cons];have:=(h a (by simp)).2;have:=ih fun x hx=>h x (by simp[hx]);rw[show b*((l.length+1:Nat):Int)=b*l.length+b by rw[Int.natCast_add,U6];simp];omega
def wF (n:Nat)(bs:List Int)(from':Int):List Int:=(List.range n).map fun (k:Nat)=>if bs.length=0 then 0 else bs.getD ((from'+(k:Int)) % (bs.length:Int)).toNat 0 % 8
theorem Cu (n:Nat)(bs:List Int)(from':Int):(wF n bs from').length=n:=by simp[wF]
theorem Cv {n:Nat}(bs:List Int)(from':Int){k:Nat}(h:k<n):(wF n bs from')[k]?=some (if bs.length=0 then 0 else bs.getD ((from'+(k:Int)) % (bs.length:Int)).toNat 0 % 8):=by
 unfold wF;rw[List.getElem?_map,Tc h];rfl
theorem O5 (n:Nat)(bs:List Int)(from':Int):∀x∈wF n bs from',0<=x/\x<=7:=fun x hx=>by
 unfold wF at hx;obtain⟨k,_,rfl⟩:=SY.1 hx;split<;>omega
def uS (g s:Int)(st:List Int × Nat)(m:Nat):List Int × Nat:=if 0<st.1.getD m 0 then (st.1.set m (g*st.1.getD m 0 / s),m) else st
def jL (g:Int)(c:List Int)(m:Nat):List Int × Nat:=(List.range m).foldl (uS g c.sum) (c,0)
theorem Cw (g:Int)(c:List Int)(m:Nat):jL g c (m+1)=uS g c.sum (jL g c m) m:=by unfold jL;rw[TZ,TT];rfl
def nV (g:Int)(n:Nat)(bs:List Int)(from':Int):List Int:=(jL g (wF n bs from') n).1.set (jL g (wF n bs from') n).2 ((jL g (wF n bs from') n).1.getD (jL g (wF n bs from') n).2 0+(g-(jL g (wF n bs from') n).1.sum))
structure RInv (g:Int)(c:List Int)(m:Nat)(d:List Int)(last:Nat):Prop where
 dl:d.length=c.length
 d0:∀x∈d,0<=x
 dd:d.drop m=c.drop m
 dg:(d.take m).sum<=g
 ds:c.sum*(d.take m).sum<=g*(c.take m).sum
 la:last<c.length
theorem Cx {g:Int}{c:List Int}(hg:1<=g)(hc:∀x∈c,0<=x)(hl:0<c.length):∀m,m<=c.length->RInv g c m (jL g c m).1 (jL g c m).2:=by
 intro m
 induction m with
 |zero=>intro _;exact⟨rfl,hc,rfl,by simp;omega,by simp,hl⟩
 |succ m ih =>
  intro hm;obtain⟨hdl,hd0,hdd,hdg,hds,hla⟩:=ih (by omega);rw[Cw];generalize jL g c m=st at *
  obtain⟨d,last⟩:=st;simp only at hdl hd0 hdd hdg hds hla;obtain⟨x,hcx⟩:=get_of_lt (l:=c) (i:=m) (by omega);have hx0:=hc x (SE hcx);have hdx:d[m]?=some x:=by
   have h1:(d.drop m)[0]?=d[m]?:=(by rw[TN];rfl);have h2:(c.drop m)[0]?=c[m]?:=(by rw[TN];rfl);rw[<- h1,hdd,h2,hcx]
  have hdd':d.drop (m+1)=c.drop (m+1):=by
   have:=congrArg (List.drop 1) hdd
   rwa [Uw,Uw]at this
  have hct:(c.take (m+1)).sum=(c.take m).sum+x:=by rw[aL hcx];simp
  have hcs:(c.take (m+1)).sum+(c.drop (m+1)).sum=c.sum:=by rw[<- Vl,Tl]
  have hcd0:=o9 (l:=c.drop (m+1)) fun y hy=>hc y (T3 hy);have hc00:=o9 (l:=c.take m) fun y hy=>hc y (S8 hy);have hd00:=o9 (l:=d.take m) fun y hy=>hd0 y (S8 hy);unfold uS;rw[bp hdx];by_cases hx:0<x
  ·rw[SK hx];have gx:0<=g*x:=T8 (by omega) hx0;have y0:0<=g*x / c.sum:=Vq gx (by omega);have y2:c.sum*(g*x / c.sum)<=g*x:=Wc (by omega);have dt:((d.set m (g*x / c.sum)).take (m+1)).sum=(d.take m).sum+g*x / c.sum:=by
    rw[aL (SX (by omega)),U3 (Nat.le_refl _)];simp
   have hs2:c.sum*((d.take m).sum+g*x / c.sum)<=g*(c.take (m+1)).sum:=by
    rw[U6,hct,U6];omega
   have hle:(d.take m).sum+g*x / c.sum<=g:=by
    have h1:g*(c.take (m+1)).sum<=g*c.sum:=Tb (by omega) (by omega);have h2:c.sum*((d.take m).sum+g*x / c.sum)<=c.sum*g:=(by rw[Uf c.sum g];omega);exact VT h2 (by omega)
   refine⟨by simp[hdl],fun y hy=>?_,?_,by dsimp only;rw[dt];exact hle,by dsimp only;rw[dt];exact hs2,by dsimp only;omega⟩
   ·rcases Tg hy with h|h
    ·exact hd0 y h
    ·omega
   ·rw[<- hdd',Wk (by omega)]
  ·rw[SI hx];have x0:x=0:=(by omega);have dt:(d.take (m+1)).sum=(d.take m).sum:=(by rw[aL hdx,x0];simp);rw[x0,Ug]at hct;exact⟨hdl,hd0,hdd',by dsimp only;rw[dt];exact hdg,by dsimp only;rw[dt,hct];exact hds,hla⟩
theorem O6 {g:Int}{n:Nat}(hg:1<=g)(hn:1<=n)(bs:List Int)(from':Int):jz g n (nV g n bs from'):=by
 have hw:=Cu n bs from';have I:=Cx (g:=g) (c:=wF n bs from') hg (fun x hx=>(O5 n bs from' x hx).1) (by omega) n (by omega);unfold nV;generalize jL g (wF n bs from') n=st at *
 obtain⟨d,last⟩:=st;obtain⟨hdl,hd0,hdd,hdg,hds,hla⟩:=I;dsimp only at hdl hd0 hdd hdg hds hla ⊢;obtain⟨y,hy⟩:=get_of_lt (l:=d) (i:=last) (by omega);have y0:=hd0 y (SE hy);rw[bp hy];rw[SH (by omega)]at hdg;have hs:(d.set last (y+(g-d.sum))).sum=g:=by rw[Ct hy];omega
 have h0:∀w∈d.set last (y+(g-d.sum)),0<=w:=fun w hw=>by
  rcases Tg hw with h|h
  ·exact hd0 w h
  ·omega
 exact⟨by simp[hdl,hw],fun w hw=>⟨h0 w hw,by have:=yL h0 w hw;omega⟩,hs⟩
theorem O7 (g:Int)(n:Nat)(hg:1<=g/\g<=60)(hn:1<=n/\n<=4)(bs:List Int)(hbl:(bs.length:Int)<2 ^ 63)(hb8:∀x∈bs,U8 x)(from':Int)(hf:0<=from'/\from'<=1000000)(H:AHeap)(K:ARes->AHeap->Prop)(hK:∀v H',Over H H'->ay H.next H' 3 v (ints (nV g n bs from'))->K (.ret v) H'):
  ag prog G0 77 [aa g,aa n,.vec bs.length (bZ bs),aa from'] H K:=by
 refine ag.clo ⟨_,func77,rfl,rfl⟩ fun hcl=>?_;refine ag.st (n:=84) (rs:=[.tmp 8]) func77 ?_;simp only[go_sem];refine⟨by omega,?_⟩;refine W.aG 35184371960832 (by rfl) (fun ρ H'=>∃(k:Nat) (c:List Int),ρ 11=aa k/\k<=n/\c.length=n/\(∀x∈c,0<=x/\x<=7)/\(∀j x,k<=j->c[j]?=some x->x=0)/\(∀j,j<k->c[j]?=(wF n bs from')[j]?)/\ρ 10=aa c.sum/\OwnI H H' H.next c) (fun ρ H=>n-(iv (ρ 11)).toNat) ?_ ?_
 ·simp only[go_sem];refine⟨0,List.replicate n 0,rfl,by omega,by simp,fun x hx=>?_,fun j x _ hx=>?_,fun j hj=>by omega,by simp,?_⟩
  ·have:=Tr hx;omega
  ·exact Tr (SE hx)
  ·exact .new [] _
 rintro ρ H' ⟨k,c,h11,hk,hcl',hc7,hc0,hcw,h10,ho⟩;refine W.en (fun E=>E 0=aa g /\ E 1=aa n /\ E 2=.vec bs.length (bZ bs) /\ E 3=aa from' /\ E 9=.own H.next 0 0 n 1 /\ E 10=aa c.sum /\ E 11=aa k) (by simp only[go_sem,h10,h11]) fun E ⟨e0,e1,e2,e3,e9,e10,e11⟩=>?_
 refine W.vs ?_;have lN:=ho.live;have hs0:=o9 fun x hx=>(hc7 x hx).1;have hs1:=O4 hc7;by_cases hb:(k:Int)<n
 ·have hck:c[k]?=some 0:=by
   obtain⟨a,ha⟩:=get_of_lt (l:=c) (i:=k) (by omega);rw[ha,hc0 k a (Nat.le_refl _) ha]
  have hcne:=aJ hck;have hk0:(k:Int) >= 0:=by omega
  have w1:=SF ((k:Int)+1) (by omega);by_cases hz:(0:Int)<bs.length
  ·have hzn:¬(bs.length:Int)=0:=(by omega);have w2:=SF (from'+k) (by omega);have m1:(from'+(k:Int)).tmod bs.length=(from'+k) % bs.length:=Ta (by omega);have m2:=TP (from'+k) hzn;have m3:=TO (from'+k) hz;obtain⟨q,hq⟩:=SR m2;have hq0:(q:Int) >= 0:=(by omega);have hql:(q:Int)<bs.length:=(by omega);obtain⟨b,hbg⟩:=get_of_lt (l:=bs) (i:=q) (by omega);have b8:=hb8 b (SE hbg);have hbg':=rZ hbg;have hbne:=aJ hbg';have t1:b.tmod 8=b % 8:=Ta b8.1;have w3:IntKind.u8.wrap (b % 8)=b % 8:=VX _ (by omega);have w4:IntKind.i64.wrap (b % 8)=b % 8:=SF _ (by omega);have w5:=SF (c.sum+b % 8) (by omega);have hsg:(setAt (ints c) k [.lit (.int .i64 (b % 8))])[k]?=some (.lit (.int .i64 (b % 8))):=by
    rw[fD (by omega),ij,SX (by omega)];rfl
   simp only[go_sem,hsg,e1,e2,e3,e9,e10,e11,hb,hz,hzn,w1,w2,m1,hq,hq0,hql,hbg',hbne,t1,w4,w5,hk0,lN];refine⟨by omega,by have:=ho.hi;rw[au];omega,⟨k+1,c.set k (b % 8),rfl,by omega,by simp[hcl'],fun x hx=>?_,fun j x hj hx=>?_,fun j hj=>?_,by rw[Ct hck,Int.sub_zero],ho.store (by omega) _⟩,by rw[h11];simp only[aa,aM];omega⟩
   ·rcases Tg hx with h|h
    ·exact hc7 x h
    ·omega
   ·rw[S3 (by omega)]at hx;exact hc0 j x (by omega) hx
   ·by_cases hjk:j=k
    ·subst hjk;rw[SX (by omega),Cv bs from' (by omega),SI (by omega),hq,Int.toNat_natCast,bp hbg]
    ·rw[S3 (by omega)];exact hcw j (by omega)
  ·have w5:=SF (c.sum+0) (by omega);rw[Ug]at w5;simp only[go_sem,e1,e2,e9,e10,e11,hb,hz,w1,w5,Ug,hk0,hck,lN];refine⟨by have:=ho.hi;omega,⟨k+1,c,rfl,by omega,hcl',hc7,fun j x hj hx=>hc0 j x (by omega) hx,fun j hj=>by
    by_cases hjk:j=k
    ·subst hjk;rw[hck,Cv bs from' (by omega),SK (by omega)]
    ·exact hcw j (by omega),rfl,ho⟩,by rw[h11];simp only[aa,aM];omega⟩
 ·obtain rfl:k=n:=by omega
  simp only[go_sem,e1,e11,hb];have hcwF:c=wF k bs from':=by
   apply Ti;intro j;rcases S9 j k with h|h
   ·exact hcw j h
   ·rw[SQ (by omega),SQ (by rw[Cu];exact h)]
  have hRI:=fun m (hm:m<=k)=>Cx (g:=g) (c:=c) hg.1 (fun x hx=>(hc7 x hx).1) (by omega) m (by omega);refine W.aG 18889465861109836705792 (by rfl) (fun ρ H2=>∃(m last:Nat) (d:List Int),ρ 14=aa m/\m<=k/\jL g c m=(d,last)/\ρ 12=aa (g-(d.take m).sum)/\ρ 13=aa last/\H'.next<=H2.next/\OwnI H H2 H.next d) (fun ρ H=>k-(iv (ρ 14)).toNat) ?_ ?_
  ·simp only[go_sem,e0];exact⟨0,0,c,rfl,by omega,rfl,by simp,rfl,ho⟩
  rintro ρ2 H2 ⟨m,last,d,h14,hm,hrf,h12,h13,hnn,hod⟩;obtain⟨hdl,hd0,hdd,hdg,hds,hlast⟩:RInv g c m d last:=by have:=hRI m hm;rw[hrf]at this;exact this
  rw[hcl']at hdl hlast;have hrs:=Cw g c m;rw[hrf]at hrs;unfold uS at hrs;dsimp only at hrs;refine W.en (fun E2=>E2 0=aa g /\ E2 1=aa k /\ E2 9=.own H.next 0 0 k 1 /\ E2 10=aa c.sum /\ E2 12=aa (g-(d.take m).sum) /\ E2 13=aa last /\ E2 14=aa m) (by simp only[go_sem,e0,e1,e9,e10,h12,h13,h14]) fun E2 ⟨f0,f1,f9,f10,f12,f13,f14⟩=>?_
  refine W.vs ?_;have lN2:=hod.live;by_cases hb2:(m:Int)<k
  ·obtain⟨x,hcx⟩:=get_of_lt (l:=c) (i:=m) (by omega);have hx7:=hc7 x (SE hcx);have hdx:d[m]?=some x:=by
    have h1:(d.drop m)[0]?=d[m]?:=(by rw[TN];rfl);have h2:(c.drop m)[0]?=c[m]?:=(by rw[TN];rfl);rw[<- h1,hdd,h2,hcx]
   have hdne:=aJ hdx;have hm0:(m:Int) >= 0:=(by omega);have w1:=SF ((m:Int)+1) (by omega);have hdd':d.drop (m+1)=c.drop (m+1):=by
    have:=congrArg (List.drop 1) hdd
    rwa [Uw,Uw]at this
   have hct:(c.take (m+1)).sum=(c.take m).sum+x:=(by rw[aL hcx];simp);have hcs:(c.take (m+1)).sum+(c.drop (m+1)).sum=c.sum:=(by rw[<- Vl,Tl]);have hcd0:=o9 (l:=c.drop (m+1)) fun y hy=>(hc7 y (T3 hy)).1;have hc00:=o9 (l:=c.take m) fun y hy=>(hc7 y (S8 hy)).1;have hd00:=o9 (l:=d.take m) fun y hy=>hd0 y (S8 hy);by_cases hx:0<x
   ·have hsz:¬c.sum=0:=(by omega);have gx:0<=g*x:=T8 (by omega) hx7.1;have gx2:g*x<=60*7:=TJ hg.2 hx7.2 hx7.1 (by omega);have w2:=SF (g*x) (by omega);have t1:(g*x).tdiv c.sum=g*x / c.sum:=Tw gx;have y0:0<=g*x / c.sum:=Vq gx hs0;have y1:g*x / c.sum<=g*x:=VH _ gx;have y2:c.sum*(g*x / c.sum)<=g*x:=Wc (by omega);have w3:=SF (g*x / c.sum) (by omega);have w4:=SF (g-(d.take m).sum-g*x / c.sum) (by omega);have hsg:(setAt (ints d) m [.lit (.int .i64 (g*x / c.sum))])[m]?=some (.lit (.int .i64 (g*x / c.sum))):=by
     rw[fD (by omega),ij,SX (by omega)];rfl
    have dt:((d.set m (g*x / c.sum)).take (m+1)).sum=(d.take m).sum+g*x / c.sum:=by
     rw[aL (SX (by omega)),U3 (Nat.le_refl _)];simp
    have hs2:c.sum*((d.take m).sum+g*x / c.sum)<=g*(c.take (m+1)).sum:=by
     rw[U6,hct,U6];omega
    have hle:(d.take m).sum+g*x / c.sum<=g:=by
     have h1:g*(c.take (m+1)).sum<=g*c.sum:=Tb (by omega) (by omega);have h2:c.sum*((d.take m).sum+g*x / c.sum)<=c.sum*g:=(by rw[Uf c.sum g];omega);exact VT h2 (by omega)
    simp only[go_sem,hsg,f0,f1,f9,f10,f12,f13,f14,hb2,hx,hsz,w1,w2,t1,w3,w4,hm0,hdx,lN2];rw[bp hdx,SK hx]at hrs;exact⟨by omega,by rw[au];exact hnn,⟨m+1,m,d.set m (g*x / c.sum),rfl,by omega,hrs,by rw[dt];congr 2;omega,rfl,by rw[au];exact hnn,hod.store (by omega) _⟩,by rw[h14];simp only[aa,aM];omega⟩
   ·have x0:x=0:=(by omega);have w4:=SF (g-(d.take m).sum) (by omega);simp only[go_sem,f1,f9,f12,f13,f14,hb2,x0,w1,w4,hm0,hdx,Int.sub_zero,lN2];have dt:(d.take (m+1)).sum=(d.take m).sum:=(by rw[aL hdx,x0];simp);rw[x0,Ug]at hct;rw[bp hdx,SI hx]at hrs;exact⟨hnn,⟨m+1,last,d,rfl,by omega,hrs,by rw[dt],rfl,hnn,hod⟩,by rw[h14];simp only[aa,aM];omega⟩
  ·obtain rfl:m=k:=(by omega);obtain⟨y,hy⟩:=get_of_lt (l:=d) (i:=last) (by omega);have hyne:=aJ hy;have hl0:(last:Int) >= 0:=(by omega);have hlk:(last:Int)<m:=(by omega);have y0:=hd0 y (SE hy);rw[SH (by omega)]at hdg hds h12 f12;have hyle:=yL hd0 y (SE hy);have w1:=SF (y+(g-d.sum)) (by omega);have hle:last+1<=d.length:=(by omega);simp only[go_sem,f1,f9,f12,f13,f14,hb2,hl0,hlk,hy,lN2,w1];refine⟨hle,?_⟩;have hrow:nV g m bs from'=d.set last (y+(g-d.sum)):=by
    unfold nV;rw[<- hcwF,hrf];dsimp only;rw[bp hy]
   rw[hrow]at hK;have ho2:=hod.store (k:=last) (by omega) (y+(g-d.sum));refine ar.mk ho2.ov.next (hK _ _ ho2.ov (.inr ⟨_,0,ho2.lo,ho2.hi,?_,ho2.get⟩));rw[aH,SO,hdl]
structure DrP where
 card:Int
 par:Int
 w:List Int
def DrP.cells (x:DrP):List AVal:=[.lit (.int .u8 x.card),.lit (.int .u8 x.par),.vec x.w.length (bZ x.w)]
def fZ (l:List DrP):List AVal:=(l.map DrP.cells).flatten
def DrP.Ok (x:DrP):Prop:=U8 x.card/\U8 x.par/\(x.w.length:Int)<2 ^ 63/\∀b∈x.w,U8 b
def uY (g:Int)(ps:List DrP)(ord:List Int):AVal:=.agg [.lit (.int .u8 g),.vec ps.length (fZ ps),.vec ord.length (bZ ord)]
theorem CM {l:List DrP}{i:Nat}{x:DrP}(h:l[i]?=some x):((fZ l).drop (i*3)).take 3=[.lit (.int .u8 x.card),.lit (.int .u8 x.par),.vec x.w.length (bZ x.w)]:=nK (f:=DrP.cells) (z:=3) (fun _=>rfl) l i x h
theorem CN (l:List DrP):(fZ l).length=l.length*3:=kJ (f:=DrP.cells) (fun _=>rfl) l
def NodeP.cX (x:NodeP):List AVal:=if x.rows=[] then [aa x.card,.lit (.slice none 0 0),.lit (.slice none 0 0)] else [aa x.card,af x.parents,aj x.rows]
def cj (l:List NodeP):List AVal:=(l.map NodeP.cX).flatten
theorem kV (x:NodeP):x.cX.length=3:=by unfold NodeP.cX;split<;>rfl
theorem CO (l:List NodeP):(cj l).length=l.length*3:=kJ (f:=NodeP.cX) kV l
theorem CP {l:List NodeP}{i:Nat}{x:NodeP}(h:l[i]?=some x):(cj l)[i*3]?=some (aa x.card):=by
 have:=je (f:=NodeP.cX) (z:=3) kV l i 0 x h (by omega);rw[Nat.add_zero]at this;rw[show (cj l)[i*3]?=_ from this];unfold NodeP.cX;split<;>rfl
theorem Po {l:List NodeP}(h:∀x∈l,x.rows≠[]):cj l=aF l:=by
 unfold cj aF;congr 1;exact Th fun x hx=>SI (h x hx)
theorem uZ {α:Type}{f:α->List AVal}{z:Nat}(hz:∀a,(f a).length=z):∀(l:List α) (i:Nat) (a:α),i<l.length->((l.set i a).map f).flatten=((l.map f).flatten).take (i*z)++f a++((l.map f).flatten).drop (i*z+z):=by
 intro l
 induction l with
 |nil=>intro i a h;simp at h
 |cons b l ih =>
  intro i a h;cases i with
  |zero=>simp[hz]
  |succ i =>
   have hb:=hz b;simp only[List.set_cons_succ,List.map_cons,List.flatten_cons];rw[ih i a (by simpa using h),show (i+1)*z=z+i*z by rw[T2];omega,List.take_append,List.drop_append,hb];rw[SH (l:=f b) (i:=z+i*z) (by omega),Vj (l:=f b) (i:=z+i*z+z) (by omega),show z+i*z-z=i*z by omega,show z+i*z+z-z=i*z+z by omega];simp
theorem CQ {S:Nat->Prop}{H:AHeap}{nx:Nat}{A B:List AVal}{i:Nat}{a b:AVal}(h:∀j (h:j<A.length) (h':j<B.length),Fz S H nx A[j] B[j])(hab:Fz S H nx a b):∀j (h:j<(A.set i a).length) (h':j<(B.set i b).length),Fz S H nx (A.set i a)[j] (B.set i b)[j]:=by
 intro j h1 h2;rw[Ur,Ur];split
 ·exact hab
 ·exact h j (by simpa using h1) (by simpa using h2)
theorem qq {S:Nat->Prop}{H:AHeap}{nx:Nat}(l:List (List Int)):Fz S H nx (aj l) (aj l):=.vec rfl fun i hi _=>by simp only[SV];exact .cI _
theorem Pp {S:Nat->Prop}{H:AHeap}{nx:Nat}(x:NodeP):∀c∈x.cX,Fz S H nx c c:=by
 intro c hc;unfold NodeP.cX at hc;split at hc
 ·simp only[List.mem_cons,List.not_mem_nil,or_false]at hc;rcases hc with rfl|rfl|rfl<;>exact .lit _
 ·simp only[List.mem_cons,List.not_mem_nil,or_false]at hc;rcases hc with rfl|rfl|rfl
  ·exact .lit _
  ·exact .cI _
  ·exact qq _
theorem CR {S:Nat->Prop}{H:AHeap}{nx:Nat}(l:List NodeP):∀c∈cj l,Fz S H nx c c:=by
 intro c hc;unfold cj at hc;obtain⟨r,hr,hc⟩:=Uh.1 hc;obtain⟨x,_,rfl⟩:=SY.1 hr;exact Pp x c hc
theorem Pq {S:Nat->Prop}{H:AHeap}{nx:Nat}:∀(l:List NodeP),(∀x∈l,x.rows=[]->x.parents=[])->∀(i:Nat) (h:i<(cj l).length) (h':i<(aF l).length),Fz S H nx (cj l)[i] (aF l)[i]:=by
 intro l
 induction l with
 |nil=>intro _ i h;simp[cj]at h
 |cons x l ih =>
  intro hx i h h';have e1:cj (x :: l)=x.cX++cj l:=by simp[cj]
  have e2:aF (x :: l)=x.cells++aF l:=by simp[aF]
  have l1:=kV x;have l2:x.cells.length=3:=rfl;have hc:∀(i:Nat) (h:i<x.cX.length) (h':i<x.cells.length),Fz S H nx x.cX[i] x.cells[i]:=by
   intro i h h';by_cases hr:x.rows=[]
   ·have hp:=hx x (by simp) hr;have ez:x.cX=[aa x.card,.lit (.slice none 0 0),.lit (.slice none 0 0)]:=SK hr;have ec:x.cells=[aa x.card,af [],aj []]:=(by unfold NodeP.cells;rw[hr,hp]);simp only[ez,ec]
    match i,h' with
    |0,_=>exact .lit _
    |1,_=>exact .nil
    |2,_=>exact .nil
   ·have ez:x.cX=x.cells:=SI hr;simp only[ez]
    match i,h' with
    |0,_=>exact .lit _
    |1,_=>exact .cI _
    |2,_=>exact qq _
  simp only[e1,e2];by_cases hi:i<3
  ·rw[TL (by omega),TL (by omega)];exact hc i (by omega) (by omega)
  ·rw[TR (by omega),TR (by omega)];simp only[l1,l2];exact ih (fun y hy=>hx y (by simp[hy])) (i-3) _ _
theorem Pr {l:List NodeP}{i:Nat}{x y:NodeP}(h:l[i]?=some x)(hy:y.card=x.card):aF (l.set i y)=((aF l).set (i*3+1) (af y.parents)).set (i*3+2) (aj y.rows):=by
 have hl:=get_lt h;have h1:=uZ (f:=NodeP.cells) (z:=3) (fun _=>rfl) l i y hl;have h2:=nK (f:=NodeP.cells) (z:=3) (fun _=>rfl) l i x h;unfold aF;rw[h1];have h3:(l.map NodeP.cells).flatten=((l.map NodeP.cells).flatten).take (i*3)++(x.cells++((l.map NodeP.cells).flatten).drop (i*3+3)):=by
  rw[<- h2,<- Uw,Tl,Tl]
 have hlen:(((l.map NodeP.cells).flatten).take (i*3)).length=i*3:=by
  rw[SN,kJ (f:=NodeP.cells) (z:=3) (fun _=>rfl)];omega
 conv=>rhs;rw[h3]
 rw[To _ _ (by omega),To _ _ (by omega),hlen,show i*3+1-i*3=1 by omega,show i*3+2-i*3=2 by omega];unfold NodeP.cells;simp[hy]
theorem va {lo:Nat}{H:AHeap}{e:TypeId}{v:AVal}{cs:List AVal}(h:ay lo H e v cs){d:Option TypeDesc}{t:TypeId}(hd:d=some (.slice t)):rJ d H v=some (.lit (.int .i64 cs.length)):=by
 subst hd;rcases h with ⟨rfl,rfl⟩|⟨id,g,_,_,rfl,h4⟩
 ·rfl
 ·rw[pY,Ba,ah h4];rfl
theorem Ps (l p:List Int)(hl:(l.length:Int)<2 ^ 40)(hp:(p.length:Int)<2 ^ 39)(hin:∀q∈p,0<=q/\q<l.length)(H:AHeap)(K:ARes->AHeap->Prop)(hK:∀v H',Over H H'->ay H.next H' 3 v (ints (aI l p))->K (.ret v) H'):ag prog G0 86 [af l,af p] H K:=by
 refine ag.clo ⟨_,func86,rfl,rfl⟩ fun hcl=>?_;refine ag.st (n:=24) (rs:=[.tmp 4]) func86 ?_;simp only[go_sem];refine W.aG 8388576 (by rfl) (fun ρ H'=>∃k:Nat,ρ 6=aa k/\k<=p.length/\Over H H'/\ay H.next H' 3 (ρ 5) (ints (aI l (p.take k)))) (fun ρ H=>p.length-(iv (ρ 6)).toNat) ?_ ?_
 ·simp only[go_sem];exact⟨0,rfl,by omega,.refl _,.nil⟩
 rintro ρ H' ⟨k,h6,hk,ov,h5⟩;refine W.vs ?_;by_cases hb:(k:Int)<p.length
 ·obtain⟨q,hq⟩:=get_of_lt (l:=p) (i:=k) (by omega);obtain⟨j,rfl,a,ha⟩:=lO (hin q (SE hq)).1 (hin q (SE hq)).2;have hne:=aJ hq;have hne2:=aJ ha;have hj:=get_lt ha;have hj':(j:Int)<l.length:=by omega
  obtain⟨v',H2,hA,ov2,hO,hn2,_⟩:=jk a ov h5 (by simp[aI];omega);have w1:=SF ((k:Int)+1) (by omega);simp only[go_sem,h6,hb,hq,hne,ha,hne2,hj',w1,hA];refine⟨by have:=ov2.next;omega,⟨k+1,by simp,by omega,ov2,?_⟩,by omega⟩;rw[Dz hq,Int.toNat_natCast,bp ha];exact hO
 ·simp only[go_sem,h6,hb];rw[SH (by omega)]at h5;exact ar.mk ov.next (hK _ _ ov h5)
theorem Pt (g:Int)(ns:List NodeP)(v:Nat)(x:NodeP)(hx:ns[v]?=some x)(hl:(ns.length:Int)<2 ^ 39)(hp:(x.parents.length:Int)<2 ^ 39)(hin:eF x.parents ns.length)(H:AHeap)(K:ARes->AHeap->Prop)
  (hK:∀v H',Over H H'->ay H.next H' 3 v (ints (aP ns x))->K (.ret v) H'):ag prog G0 76 [bL g ns,aa v] H K:=by
 refine ag.clo ⟨_,func76,rfl,rfl⟩ fun hcl=>?_;have hne:=dJ hx;have e1:=jY hx;have hv:(v:Int)<ns.length:=by have:=get_lt hx;omega
 refine ag.st (n:=14) (rs:=[.tmp 4]) func76 ?_;simp only[go_sem,bL,cE];refine W.dr 8 [0,1,0,4,0,28,60,124] mixed ?_;simp only[go_sem];refine⟨af (ak ns),[],bf.pure fun H2=>pt g ns hl H2 _ ⟨rfl,rfl⟩,?_⟩;simp only[go_sem,hv,hne,e1];refine aw.clo (Ps (ak ns) x.parents (by rw[cC];omega) hp (by rw[cC];exact hin) _ _ fun w H3 ov ho=>⟨trivial,?_⟩);simp only[go_sem];have o1:Over H H3:=(Over.ext _ _).trans ov;exact ar.mk o1.next (hK _ _ o1 (ho.keep (by simp[aS]) (Nat.le_refl _) fun _ _ _ _ _ _=>rfl))
theorem CS {ns:List NodeP}{P:List Int}(hP:IsPerm ns.length P)(hall:∀v:Nat,v<ns.length->(v:Int)∈P)(hr:∀(j v:Nat) (x:NodeP),P[j]?=some (v:Int)->ns[v]?=some x->∀q∈x.parents,0<=q/\∃k,k<j/\P[k]?=some q):j7 (bj ns):=by
 intro v hv;have hl:(bj ns).length=ns.length:=by simp[bj]
 rw[hl]at hv;obtain⟨j,hj⟩:=SW.1 (hall v hv);have h0:∀p∈P.take j,0<=p:=fun p hp=>(hP.rng p (S8 hp)).1;have sub:∀(k u:Nat) (x:NodeP),k<=j->P[k]?=some (u:Int)->ns[u]?=some x->Sub ((bj ns).getD u 0) (cS (P.take j)):=fun k u x hk hu hx i hi=>by
  rw[bp (mO hx)]at hi;have hp0:∀p∈x.parents,0<=p:=fun p hp=>(hr k u x hu hx p hp).1;rw[nM hp0]at hi;obtain⟨_,k',hk',hq⟩:=hr k u x hu hx _ (of_decide_eq_true hi);rw[nM h0];refine Tm ?_;exact SW.2 ⟨k',by rw[Tf (by omega)];exact hq⟩
 have hcl:nO (bj ns) (cS (P.take j)):=fun u hu ht=>by
  rw[hl]at hu;rw[nM h0]at ht;obtain⟨k,hk⟩:=SW.1 (of_decide_eq_true ht);have hkl:=get_lt hk;rw[SN]at hkl;rw[Tf (by omega)]at hk;obtain⟨x,hx⟩:=get_of_lt hu;exact sub k u x (by omega) hk hx
 obtain⟨x,hx⟩:=get_of_lt hv;have h1:=uH hcl (bj ns).length (sub j v x (Nat.le_refl _) hj hx);cases hb:(iK (bj ns) ((bj ns).getD v 0)).testBit v with
 |false=>rfl
 |true =>
  exfalso;have h2:=h1 v hb;rw[nM h0]at h2;obtain⟨k,hk⟩:=SW.1 (of_decide_eq_true h2);have hkl:=get_lt hk;rw[SN]at hkl;rw[Tf (by omega)]at hk;have e:P[k]?=P[j]?:=by rw[hk,hj]
  have:=(Uo (get_lt hk) hP.nd).1 e;omega
end Go.Proofs
