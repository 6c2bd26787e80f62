/- Own work: contracts. -/
import Derived.Test.YtjhbjbninamhnaaGreatConD
import Derived.Test.YtjhbjbninamhnaaGreatConC
set_option linter.all false
set_option maxRecDepth 100000
namespace Go.Proofs
open Go.Hx
theorem D3 {f:FuncId}{H:AHeap}{K:ARes->AHeap->Prop}(d:InfP)(h:ae Tryz.prog G0 f [dD d] H K):ae Tryz.prog G0 f [oZ d] H K :=
 ae.x9 (args':=[dD d]) aJ rfl (fun i hi _=>match i,hi with|0,_=>ya d) h
theorem RD {f:FuncId}{H:AHeap}{K:ARes->AHeap->Prop}(d:InfP)(a:Int)(h:ae Tryz.prog G0 f [dD d,aa a] H K):ae Tryz.prog G0 f [oZ d,aa a] H K :=
 ae.x9 (args':=[dD d,aa a]) aJ rfl (fun i hi _=>match i,hi with|0,_=>ya d|1,_=>.lit _) h
theorem RE {f:FuncId}{H:AHeap}{K:ARes->AHeap->Prop}(d:InfP)(p:List (List Int))(h:ae Tryz.prog G0 f [dD d,aK p] H K):ae Tryz.prog G0 f [oZ d,aK p] H K :=
 ae.x9 (args':=[dD d,aK p]) aJ rfl (fun i hi _=>match i,hi with|0,_=>ya d|1,_=>oY p) h
theorem RF {d:InfP}(h:InfOk d):1<=eo d:=d9 (qj fun p hp=>(qk h p hp).2.2.1)
theorem D4 {d:InfP}(h:InfOk d)(hp:eo d<=4096):eZ d=0/\iy d=eo d:=by
 have e:eZ d=0:=by unfold eZ;rw[dM h,if_pos hp];rfl
 exact⟨e,by unfold iy;rw[if_pos e]⟩
theorem RG {d:InfP}(h:InfOk d)(hp:¬ eo d<=4096):eZ d=6/\iy d=0:=by
 have e:eZ d=6:=by unfold eZ;rw[dM h,if_neg hp];rfl
 exact⟨e,by unfold iy;rw[e];rfl⟩
theorem RH {d:InfP}(h:InfOk d)(hp:eo d<=4096){i:Int}(hi:0<=i/\i<eo d):kv d i=0/\oO d i=di (bZ d) i:=by
 have e:kv d i=0:=by unfold kv;rw[if_pos (D4 h hp).1,if_pos hi]
 exact⟨e,by unfold oO;rw[if_pos e]⟩
theorem RI {x:InfP}(h:DrI true x):∃ r,fZ x=some r/\cU x=0:=by
 have hs:=K2 h;obtain⟨r,hr⟩:=Option.isSome_iff_exists.1 hs;exact⟨r,hr,by unfold cU;rw[dM h.ok,hr];rfl⟩
set_option maxHeartbeats 8000000 in
theorem RJ (d:D20)(hd:d.Ok)(H:AHeap)(K:ARes->AHeap->Prop)(hK:∀ H',H.next<=H'.next->K (.ret (.lit (.bool true))) H'):
  ae Tryz.prog G0 8 [.agg d.cells] H K:=by
 have hd':D20.Ok ⟨d.g,d.ps,d.ord,d.decs,true,d.us⟩:=⟨hd.g,hd.ps,hd.pl,hd.ol,hd.o8,hd.decs,hd.us,hd.ul⟩
 refine ae.d7 (n:=90) (rs:=[.tmp 2]) Tryz.func8 rfl rfl rfl (by decide) (by simp) ?_;refine W.seq (ag _ _ _ (by rfl) ?_);simp only[go_sem,D20.cells];refine W.seq (ag _ _ _ (by rfl) ?_);simp only[go_sem];refine aA.clo (RC _ _ ⟨trivial,?_⟩);simp only[go_sem];refine W.seq (ag _ _ _ (by rfl) ?_);simp only[go_sem];obtain⟨H1,hH1⟩:∃ H1,H1=ext H [.arr 0 28 [.lit (.int .u8 d.g),.vec d.ps.length (fj d.ps),.vec d.ord.length (cG d.ord),.lit (.int .u8 d.decs),.lit (.bool true),.vec d.us.length (kH d.us)]]:=⟨_,rfl⟩
 have g2:H1.get H.next=some (.arr 0 28 [.lit (.int .u8 d.g),.vec d.ps.length (fj d.ps),.vec d.ord.length (cG d.ord),.lit (.int .u8 d.decs),.lit (.bool true),.vec d.us.length (kH d.us)]):=by rw[hH1];exact cq ..
 have n1:H1.next=H.next+1:=by rw[hH1];rfl
 rw[<- hH1];clear hH1;have l2:=af g2;refine W.seq (ag _ _ _ (by rfl) ?_);simp only[go_sem,l2];refine aA.clo (Nr ⟨d.g,d.ps,d.ord,d.decs,true,d.us⟩ hd' _ _ fun x hx=>⟨trivial,?_⟩);have hok:=hx.ok;have hf:=uE hok;have n8:=hok.n.n1;have h6:x.nodes.length<=6:=by have:=hx.n5;omega
 obtain⟨r0,hr0,hre⟩:=RI hx;simp only[go_sem,NK,yg];obtain⟨H2,hH2⟩:∃ H2,H2=ext H1 [.arr 0 38 [.lit (.int .i64 x.grain),.vec x.nodes.length (bh x.nodes),.lit (.int .u64 (x.decs:Int)),.vec x.utils.length (aV x.utils)]]:=⟨_,rfl⟩
 have g5:H2.get H1.next=some (.arr 0 38 [.lit (.int .i64 x.grain),.vec x.nodes.length (bh x.nodes),.lit (.int .u64 (x.decs:Int)),.vec x.utils.length (aV x.utils)]):=by rw[hH2];exact bJ
 have n2:H2.next=H1.next+1:=by rw[hH2];rfl
 rw[<- hH2];clear hH2;have l5:=af g5;refine W.seq (ag _ _ _ (by rfl) ?_);simp only[go_sem,l5];refine aA.clo (D3 x (AR x hf _ _ ⟨trivial,?_⟩));simp only[go_sem];refine W.env fun E hE=>?_;have e3:E 3=.ptr H1.next 0 0:=by rw[hE];simp only[go_sem]
 have e4:E 4=aa (iy x):=by rw[hE];simp only[go_sem]
 have e5:E 5=aa (eZ x):=by rw[hE];simp only[go_sem]
 clear hE;by_cases hbig:eo x<=4096;rotate_left
 ·obtain⟨c1,c2⟩:=RG hok hbig;rw[c1]at e5;refine W.seq (ag _ _ _ (by rfl) ?_);simp only[go_sem,e5];exact au.mk (by omega) (hK _ (by omega))
 obtain⟨c1,c2⟩:=D4 hok hbig;rw[c1]at e5;rw[c2]at e4;have hpos:=RF hok;have hsur:=fun b=>Ry hok (nU hr0) (b:=b);have hpk:=fun i=>RH hok hbig (i:=i);obtain⟨N,hN⟩:∃ N,N=eo x:=⟨_,rfl⟩
 rw[<- hN]at e4 hpos hbig hsur hpk;by_cases h300:N > 300
 ·refine W.seq (ag _ _ _ (by rfl) ?_);simp only[go_sem,e4,e5,h300];exact au.mk (by omega) (hK _ (by omega))
 refine W.seq (ag _ _ _ (by rfl) ?_);simp only[go_sem,e4,e5,h300];refine W.seq (ag _ _ _ (by rfl) ?_);simp only[go_sem,e3,l5];have gp:=yU hok;obtain⟨D,hD⟩:∃ D,D=x.grain ^ x.nodes.length:=⟨_,rfl⟩
 refine aA.clo (D3 x (vj x hf h6 _ _ (fun he=>absurd (hre.symm.trans he) (by decide)) (fun _ he=>absurd hre he) fun r hr _ hro=>⟨trivial,?_⟩));obtain rfl:r0=r:=Option.some.inj (hr0.symm.trans hr);rw[<- hD]at gp ⊢;obtain⟨va,vb,vg,hv,hvF⟩:=vu (S:=iH x r0) (D:=D) gp.1;rw[hv];simp only[go_sem];obtain⟨H3,hH3⟩:∃ H3,H3=ext H2 [.arr 0 41 [.lit (.int .i64 va),.lit (.int .i64 vb)]]:=⟨_,rfl⟩
 have g7:H3.get H2.next=some (.arr 0 41 [.lit (.int .i64 va),.lit (.int .i64 vb)]):=by rw[hH3];exact bJ
 have g5:=(show H3.get H1.next=H2.get H1.next by rw[hH3,bC (by omega)]).trans g5;have n3:H3.next=H2.next+1:=by rw[hH3];rfl
 rw[<- hH3];clear hH3;refine W.env fun E1 hE1=>?_;have a3:E1 3=.ptr H1.next 0 0:=by rw[hE1];simp only[go_sem,e3]
 have a4:E1 4=aa N:=by rw[hE1];simp only[go_sem,e4]
 have a5:E1 5=aa 0:=by rw[hE1];simp only[go_sem,e5]
 have a6:E1 6=aK (eA x r0):=by rw[hE1];simp only[go_sem]
 have a7:E1 7=.ptr H2.next 0 0:=by rw[hE1];simp only[go_sem]
 have a8:E1 8=aa 0:=by rw[hE1];simp only[go_sem]
 clear hE1;refine W.seq (ag _ _ _ (by rfl) ?_);simp only[go_sem,a5,a8];refine W.seq (ag _ _ _ (by rfl) ?_);simp only[go_sem];refine W.seq (ag _ _ _ (by rfl) ?_);simp only[go_sem];obtain⟨H4,hH4⟩:∃ H4,H4=ext H3 [.arr 0 41 [.lit (.int .i64 0),.lit (.int .i64 0)]]:=⟨_,rfl⟩
 have g10:H4.get H3.next=some (.arr 0 41 [.lit (.int .i64 0),.lit (.int .i64 0)]):=by rw[hH4];exact bJ
 have g5:=(show H4.get H1.next=H3.get H1.next by rw[hH4,bC (by omega)]).trans g5;have g7:=(show H4.get H2.next=H3.get H2.next by rw[hH4,bC (by omega)]).trans g7;have n4:H4.next=H3.next+1:=by rw[hH4];rfl
 rw[<- hH4];clear hH4;refine W.seq (ag _ _ _ (by rfl) ?_);simp only[go_sem,a4];refine W.env fun E2 hE2=>?_;have b3:E2 3=.ptr H1.next 0 0:=by rw[hE2];simp only[go_sem,a3]
 have b6:E2 6=aK (eA x r0):=by rw[hE2];simp only[go_sem,a6]
 have b7:E2 7=.ptr H2.next 0 0:=by rw[hE2];simp only[go_sem,a7]
 have b9:E2 9=.lit (.slice none 0 0):=by rw[hE2];simp only[go_sem]
 have b10:E2 10=.ptr H3.next 0 0:=by rw[hE2];simp only[go_sem]
 have b44:E2 44=aa N:=by rw[hE2];simp only[go_sem]
 have b45:E2 45=aa 0:=by rw[hE2];simp only[go_sem]
 clear hE2;obtain⟨S,hS⟩:∃ S:Int->Int,∀ j,fG x (di (bZ x) j)=S j:=⟨_,fun _=>rfl⟩
 have sS:∀ j,-20000000000000000<=S j/\S j<=20000000000000000:=fun j=>by
  rw[<- hS,uw hok (rV hok j)];exact QM hok h6 _
 simp only[hS]at hsur;refine W.aQ 4835703278423332326799876 (by kernel_rfl) (fun ρ Hx=>∃ i:Nat,ρ 45=aa i/\(i:Int)<=N/\H4.next<=Hx.next/\(∀ j,j<H4.next->j≠H3.next->Hx.get j=H4.get j)/\∃ m0 m1,Hx.get H3.next=some (.arr 0 41 [.lit (.int .i64 m0),.lit (.int .i64 m1)]) /\
  (i=0\/∃ b g:Int,0<=b/\b<i/\ρ 9=aK (di (bZ x) b)/\RatF (S b) D m0 m1 g/\fF (S b) D=.agg [.lit (.int .i64 m0),.lit (.int .i64 m1)]/\(∀ j:Int,0<=j->j<i->S j<=S b)/\∀ j:Int,0<=j->j<b->S j<S b)) (fun ρ Hx=>N.toNat - (iv (ρ 45)).toNat) ?_ ?_
 ·exact⟨0,b45,by omega,Nat.le_refl _,fun _ _ _=>rfl,0,0,g10,.inl rfl⟩
 rintro ρ Hx ⟨i,h45,hi,hnx,hout,m0,m1,hgm,hinv⟩;refine W.env fun E3 hE3=>?_;have f3:E3 3=.ptr H1.next 0 0:=by rw[hE3];simp only[go_sem,b3]
 have f6:E3 6=aK (eA x r0):=by rw[hE3];simp only[go_sem,b6]
 have f7:E3 7=.ptr H2.next 0 0:=by rw[hE3];simp only[go_sem,b7]
 have f9:E3 9=ρ 9:=by rw[hE3];simp only[go_sem]
 have f10:E3 10=.ptr H3.next 0 0:=by rw[hE3];simp only[go_sem,b10]
 have f44:E3 44=aa N:=by rw[hE3];simp only[go_sem,b44]
 have f45:E3 45=aa i:=by rw[hE3];simp only[go_sem,h45]
 clear hE3;have l5:=af ((hout _ (by omega) (by omega)).trans g5);have l7:=af ((hout _ (by omega) (by omega)).trans g7);have lm:=af hgm;by_cases hb:(i:Int)<N;rotate_left
 ·rcases hinv with h0|⟨b,g,b0,b1,h9,hF,hq,hmx,hfi⟩
  ·omega
  have hiN:(i:Int)=N:=by omega
  rw[hiN]at b1 hmx;obtain⟨hbe,hbS⟩:=hsur b ⟨b0,b1⟩ hmx hfi;rw[hbS,hv]at hq;injection hq with hq
  injection hq with q1 q2
  injection q2 with q2 _
  injection q1 with q1
  injection q2 with q2
  injection q1 with _ q1
  injection q2 with _ q2
  rw[hbe]at h9;rw[h9]at f9;rw[<- q1,<- q2]at lm;refine ag _ _ _ (by rfl) ?_;simp only[go_sem,f44,f45,hb];refine W.seq (ag _ _ _ (by rfl) ?_);have eqv:∀ o1 o2,bE Tryz.prog .eql 41 o1 o2 (.agg [.lit (.int .i64 va),.lit (.int .i64 vb)]) (.agg [.lit (.int .i64 va),.lit (.int .i64 vb)])=some (.lit (.bool true)):=fun o1 o2=>by rw[xw];simp
  simp only[go_sem,f6,f7,f9,f10,l7,lm,eqv];have hPo:=(uR hok (nU hr0)).1;have hPf:=nM hok hPo;refine aA.clo (sU (eA x r0) (eA x r0) (by have:=hPf.1;omega) (fun r h=>by have:=hPf.2 r h;omega) _ _ ⟨trivial,?_⟩);rw[decide_eq_true rfl];simp only[go_sem];refine ag _ _ _ (by rfl) ?_;simp only[go_sem];exact au.mk (by omega) (hK _ (by omega))
 obtain⟨p1,p2⟩:=hpk i ⟨by omega,hb⟩;have hpi:=rV hok (i:Int);have hpf:=nM hok hpi;have hpe:=oX hok hpi;refine W.seq (ag _ _ _ (by rfl) ?_);simp only[go_sem,f44,f45,hb];refine W.seq (ag _ _ _ (by rfl) ?_);simp only[go_sem];refine W.seq (W.block ?_);refine W.seq (ag _ _ _ (by rfl) ?_);simp only[go_sem,f45];refine W.seq (ag _ _ _ (by rfl) ?_);simp only[go_sem,f3,l5];refine aA.clo (RD x i (KR x hf i (by omega) _ _ ⟨trivial,?_⟩));rw[p1,p2];simp only[go_sem];refine W.seq (ag _ _ _ (by rfl) ?_);simp only[go_sem,f3,l5];refine aA.clo (RE x _ (yl x hf _ hpf (uF h6 _) _ _ ⟨trivial,?_⟩));obtain⟨ua,ub,ug,hu,huF⟩:=vu (S:=S i) (D:=D) gp.1;rw[hpe,BZ hok hpi,<- hD,hS,hu];simp only[go_sem];obtain⟨H6,hH6⟩:∃ H6,H6=ext Hx [.arr 0 41 [.lit (.int .i64 ua),.lit (.int .i64 ub)]]:=⟨_,rfl⟩
 have g14:H6.get Hx.next=some (.arr 0 41 [.lit (.int .i64 ua),.lit (.int .i64 ub)]):=by rw[hH6];exact bJ
 have o6:Over Hx H6:=by rw[hH6];exact .ext _ _
 have n6:H6.next=Hx.next+1:=by rw[hH6];rfl
 rw[<- hH6];clear hH6;have l14:=af g14;have gm6:=(o6.old _ (by omega)).trans hgm;have lm6:=af gm6;have sI:=sS i;have hcu:=huF.check (by omega) (by omega);have hub:=huF.bound;have hu1:=huF.b1;refine W.env fun E4 hE4=>?_;have k9:E4 9=ρ 9:=by rw[hE4];simp only[go_sem,f9]
 have k10:E4 10=.ptr H3.next 0 0:=by rw[hE4];simp only[go_sem,f10]
 have k11:E4 11=aa i:=by rw[hE4];simp only[go_sem]
 have k12:E4 12=aK (di (bZ x) i):=by rw[hE4];simp only[go_sem]
 have k13:E4 13=aa 0:=by rw[hE4];simp only[go_sem]
 have k14:E4 14=.ptr Hx.next 0 0:=by rw[hE4];simp only[go_sem]
 have k15:E4 15=aa 0:=by rw[hE4];simp only[go_sem]
 have k45:E4 45=aa i:=by rw[hE4];simp only[go_sem,f45]
 clear hE4;refine W.seq (ag _ _ _ (by rfl) ?_);simp only[go_sem,k13,k14,k15,l14];refine aA.clo (R01.QP ua ub (by unfold R01.iU;omega) (by unfold R01.iU;omega) _ _ ⟨trivial,?_⟩);rw[decide_eq_true hcu];simp only[go_sem];have wi:=IntWalk.i64_in ((i:Int)+1) (by omega);have keep:∀ j,j<H4.next->j≠H3.next->H6.get j=H4.get j:=fun j h1 h2=>(o6.old j (by omega)).trans (hout j h1 h2);have msr:N.toNat - ((i:Int)+1).toNat<N.toNat - (iv (ρ 45)).toNat:=by rw[h45];simp only[aa,bF];omega
 have take:(∀ j:Int,0<=j->j<i->S j<S i)->H4.next<=(H6.upd H3.next (.arr 0 41 [.lit (.int .i64 ua),.lit (.int .i64 ub)])).next/\(∀ j,j<H4.next->¬ j=H3.next->(H6.upd H3.next (.arr 0 41 [.lit (.int .i64 ua),.lit (.int .i64 ub)])).get j=H4.get j)/\(H6.upd H3.next (.arr 0 41 [.lit (.int .i64 ua),.lit (.int .i64 ub)])).get H3.next=some (.arr 0 41 [.lit (.int .i64 ua),.lit (.int .i64 ub)])/\∀ j:Int,0<=j->j<((i+1:Nat):Int)->S j<=S i:=fun h =>
  ⟨by rw[aD];omega,fun j h1 h2=>by rw[ah,if_neg h2];exact keep j h1 h2,by rw[ah,if_pos rfl],fun j h1 h2=>by
   by_cases e:j=i
   ·rw[e];exact Int.le_refl _
   ·exact Int.le_of_lt (h j h1 (by omega))⟩
 rcases Nat.eq_zero_or_pos i with h0|h0
 ·have hi0:(i:Int)=0:=by omega
  refine W.seq (ag _ _ _ (by rfl) ?_);simp only[go_sem,k11,hi0];refine W.cond (t:=true) (by simp only[go_sem]) ?_;refine W.draw 3 [0,0,1] Tryz.mixed (by kernel_rfl) (by kernel_rfl) ?_;simp only[go_sem,k10,k12,k14,l14,lm6];have hl:∀ j:Int,0<=j->j<i->S j<S i:=fun j h1 h2=>by omega
  obtain⟨t1,t2,t3,t4⟩:=take hl;refine ag _ _ _ (by rfl) ?_;simp only[go_sem,k45,wi];exact⟨t1,⟨i+1,rfl,by omega,t1,t2,ua,ub,t3,.inr ⟨i,ug,by omega,by omega,rfl,huF,hu,t4,hl⟩⟩,msr⟩
 ·obtain⟨b,g,b0,b1,h9,hF,hq,hmx,hfi⟩:∃ b g:Int,0<=b/\b<i/\ρ 9=aK (di (bZ x) b)/\RatF (S b) D m0 m1 g/\fF (S b) D=.agg [.lit (.int .i64 m0),.lit (.int .i64 m1)]/\(∀ j:Int,0<=j->j<i->S j<=S b)/\∀ j:Int,0<=j->j<b->S j<S b:=by
   rcases hinv with h|h
   ·omega
   ·exact h
  have hi0:¬ (i:Int)=0:=by omega
  have hcmp:=huF.cmp gp.1 hF;have hmb:=hF.bound;have hm1:=hF.b1;have sB:=sS b;refine W.seq (ag _ _ _ (by rfl) ?_);simp only[go_sem,k11,k14,k10,hi0,l14,lm6];refine aA.clo (R01.QU ua ub m0 m1 (by unfold R01.iU;omega) (by unfold R01.iU;omega) (by unfold R01.iU;omega) (by unfold R01.iU;omega) hu1 hm1 _ _ ⟨trivial,?_⟩);rw[hcmp];by_cases hgt:S b<S i
  ·have hc:R01.cO (S i) (S b)=1:=(by unfold R01.cO;rw[if_neg (by omega),if_neg (by omega)]);rw[hc];simp only[go_sem];refine W.cond (t:=true) (by simp only[go_sem]) ?_;refine W.draw 3 [0,0,1] Tryz.mixed (by kernel_rfl) (by kernel_rfl) ?_;simp only[go_sem,k10,k12,k14,l14,lm6];have hl:∀ j:Int,0<=j->j<i->S j<S i:=fun j h1 h2=>by have:=hmx j h1 h2;omega
   obtain⟨t1,t2,t3,t4⟩:=take hl;refine ag _ _ _ (by rfl) ?_;simp only[go_sem,k45,wi];exact⟨t1,⟨i+1,rfl,by omega,t1,t2,ua,ub,t3,.inr ⟨i,ug,by omega,by omega,rfl,huF,hu,t4,hl⟩⟩,msr⟩
  ·have hc:¬ R01.cO (S i) (S b) > 0:=(by unfold R01.cO;(repeat' split)<;>omega);simp only[go_sem];refine W.cond (t:=false) (by simp only[go_sem,hc]) ?_;refine ag _ _ _ (by rfl) ?_;simp only[go_sem];refine ag _ _ _ (by rfl) ?_;simp only[go_sem,k45,wi,k9,h9];exact⟨by omega,⟨i+1,rfl,by omega,by omega,keep,m0,m1,gm6,.inr ⟨b,g,b0,by omega,rfl,hF,hq,fun j h1 h2=>by
    by_cases e:j=i
    ·rw[e];omega
    ·exact hmx j h1 (by omega),hfi⟩⟩,msr⟩
end Go.Proofs
