/- Own work: contracts. -/
import Derived.Test.YtakancljiekbhaaConF
import Derived.Test.YtakancljiekbhaaConC
import Derived.Test.YtakancljiekbhaaLibB
import Derived.Test.YtakancljiekbhaaLibC
import Derived.Test.YtakancljiekbhaaConB
set_option linter.all false
set_option maxRecDepth 100000
namespace Go.Proofs
open Go.Hx
def cK (ns:List NodeP)(wh:Nat)(xs:List (List Int)):Nat:=xs.foldl (fun a r=>a*(dc ns r).toNat*wh) 1
theorem tc (ns:List NodeP)(wh:Nat)(xs:List (List Int))(r:List Int):cK ns wh (xs++[r])=cK ns wh xs*(dc ns r).toNat*wh:=by unfold cK;rw[QP];rfl
theorem nY {B v k:Nat}(hB:2<=B)(h:v<B ^ k):(aJ B v).length<=k:=by
 refine P5 fun hh=>?_;have hn:aJ B v≠[]:=fun e=>by rw[e]at hh;simp at hh
 have h1:=wB hB (dQ hB v) hn;rw[dq hB]at h1;have h2:B ^ k<=B ^ ((aJ B v).length - 1):=PJ (by omega) (by omega);omega
theorem te {g:Int}{ns:List NodeP}(h:NetOk g ns){r:List Int}(hr:r.length=ns.length):0<=dc ns r:=by
 have:=AA h hr (dp (ar ns) r).length;rw[QH]at this;exact this.1
theorem AR {g:Int}{ns:List NodeP}(h:NetOk g ns)(h6:ns.length<=6){wh:Nat}(hw:wh<=46656000000)(xs:List (List Int))(hr:∀ r∈xs,r.length=ns.length):cK ns wh xs<(2 ^ 74) ^ xs.length+1:=by
 have key:∀ k,k<=xs.length->cK ns wh (xs.take k)<=(2 ^ 74) ^ k:=by
  intro k
  induction k with
  | zero=>intro _;exact Nat.le_refl 1
  | succ k ih =>
   intro hk;obtain⟨r,hrk⟩:=get_of_lt (l:=xs) (i:=k) (by omega);have hrl:=hr r (Pq hrk);have h1:=wq h h6 hrl;have h0:=te h hrl;rw[aO hrk,tc,QJ,Q8];refine Rf (ih (by omega)) ?_;refine PY (Rf (show (dc ns r).toNat<=46656000000 by omega) hw) (by decide)
 have:=key xs.length (Nat.le_refl _);rw[QH]at this;omega
theorem LI {B:Nat}(hB:2<=B){l:List Nat}(h:∀ d∈l,d<B)(hn:l≠[])(hv:B ^ (l.length - 1)<=aH B l):s6 l:=by
 intro d hd h0;subst h0;obtain⟨q,rfl⟩:=List.getLast?_eq_some_iff.1 hd;rw[pX,Si,Nat.add_zero]at hv;have h2:=nX (B:=B) (l:=q) fun d hd=>h d (by simp [hd]);have h3:(q++[0]).length - 1=q.length:=by simp
 rw[h3]at hv;omega
theorem tl {B:Nat}(hB:2<=B):aJ B 0=[]:=(nW hB (NormD.nil B)).symm
theorem LJ {B:Nat}{l:List Nat}{c:Nat}(h:∀ d∈l,d<B)(hc:c<B)(h0:c≠0):NormD B (l++[c]):=⟨fun d hd=>by
 rcases PK.1 hd with hd|hd
 ·exact h d hd
 ·rw[List.mem_singleton.1 hd];exact hc,fun d hd=>by
 rw[SU]at hd;simp at hd;omega⟩
set_option maxHeartbeats 4000000 in
theorem tn {lo b:Nat}{l:List Nat}{sl:AVal}{w:Nat}(hw:w<18446744073709551616)(hl:NormD 18446744073709551616 l)(hll:l.length<2 ^ 36)(H:AHeap)(hb:b<H.next)(hlo:lo<=H.next)(gB:H.get b=some (.arr 0 100 [sl]))(hO:aA lo H 104 sl (l.map aV))(hz:l=[]->sl=.lit (.slice none 0 0))
  (K:ARes->AHeap->Prop) (hK:∀ H' sl',H.next<=H'.next->(∀ id,id<H.next->id≠b->(∀ g n,sl≠.own id g 0 n 1)->H'.get id=H.get id)->H'.get b=some (.arr 0 100 [sl'])->aA lo H' 104 sl' ((aJ 18446744073709551616 (aH 18446744073709551616 l*w)).map aV)->(aJ 18446744073709551616 (aH 18446744073709551616 l*w)=[]->sl'=.lit (.slice none 0 0))->K (.ret (.tup [])) H'):
  ab Try.prog G0 52 [.ptr b 0 0,.lit (.int .u64 w)] H K:=by
 have hB:2<=18446744073709551616:=by decide
 have lB:=aj gB;have so:=hO.one;have sc:=hO.cells;have gk:∀ id,id≠b->∀ bk,(H.upd b bk).get id=H.get id:=fun id h2 bk=>by rw[ag,Pt h2]
 refine ab.fS (n:=56) (rs:=[]) Try.func52 rfl rfl rfl (by decide) (by simp) ?_;by_cases w0:w=0
 ·subst w0;refine W.sq ?_;simp only[go_sem,lB];refine av.mk (by rw[aC];exact Nat.le_refl _) (hK _ _ (by rw[aC];exact Nat.le_refl _) (fun id _ h2 _=>gk id h2 _) (by rw[ag,Pv rfl]) ?_ fun _=>rfl);rw[Si,tl hB];exact .nil
 have w0':¬ (w:Int)=0:=by omega
 refine W.sq ?_;simp only[go_sem,w0'];refine W.sq ?_;simp only[go_sem];rcases hO with ⟨rfl,hnil⟩|⟨id,g,i1,i2,rfl,gI⟩
 ·have hl0:l=[]:=List.map_eq_nil_iff.1 hnil;subst hl0;refine W.sq ?_;simp only[go_sem,lB];refine W.en (fun E=>E 0=.ptr b 0 0 /\ E 4=.lit (.int .u64 0) /\ E 18=aa 0 /\ E 19=aa 0) (by simp only[go_sem]) fun E ⟨e0,e4,e18,e19⟩=>?_
  refine W.aN 70368743655408 (by kernel_rfl) (fun ρ Hx=>Hx=H/\ρ 19=aa 0/\ρ 4=.lit (.int .u64 0)) (fun _ _=>0) ?_ ?_
  ·exact⟨rfl,e19,e4⟩
  rintro ρ Hx ⟨hHx,h19,h4⟩;rw[hHx];refine W.vs ?_;simp only[go_sem,e18,h19];refine W.vs ?_;simp only[go_sem,h4];refine av.mk (Nat.le_refl _) (hK _ _ (Nat.le_refl _) (fun _ _ _ _=>rfl) gB ?_ fun _=>rfl);rw[show aH 18446744073709551616 []=0 by rfl,QW,tl hB];exact .nil
 have lne:l≠[]:=fun e=>by have:=hz e;cases this
 have Vne:aJ 18446744073709551616 (aH 18446744073709551616 l*w)≠[]:=fun e=>by
  have h1:=dq hB (aH 18446744073709551616 l*w);rw[e]at h1;have h2:=wz hB hl lne;have h3:0<aH 18446744073709551616 l*w:=SC h2 (by omega);have h4:aH 18446744073709551616 []=0:=rfl;omega
 have ib:b≠id:=fun e=>by rw[e,gI]at gB;cases gB
 rw[Px]at lB so sc gB;obtain⟨n,hn⟩:∃ n,n=l.length:=⟨_,rfl⟩
 rw[<- hn]at lB so sc gB hll;have lI:=aj gI;have hlm:(l.map aV).length=n:=by rw[Px,hn]
 refine W.sq ?_;simp only[go_sem,lB,lI];refine W.en (fun E=>E 0=.ptr b 0 0 /\ E 1=.lit (.int .u64 w) /\ E 4=.lit (.int .u64 0) /\ E 17=.own id g 0 n 1 /\ E 18=aa n /\ E 19=aa 0) (by simp only[go_sem]) fun E ⟨e0,e1,e4,e17,e18,e19⟩=>?_
 refine W.aN 70368743655408 (by kernel_rfl) (fun ρ Hx=>∃ (i c:Nat) (out:List Nat),ρ 19=aa i/\i<=n/\ρ 4=.lit (.int .u64 c)/\c<18446744073709551616/\out.length=i/\(∀ d∈out,d<18446744073709551616)/\aH 18446744073709551616 out+18446744073709551616 ^ i*c=aH 18446744073709551616 (l.take i)*w/\Hx.next=H.next/\(∀ k,k≠id->Hx.get k=H.get k)/\Hx.get id=some (.arr g 104 ((out++l.drop i).map aV))) (fun ρ Hx=>n - (iv (ρ 19)).toNat) ?_ ?_
 ·exact⟨0,0,[],e19,by omega,e4,by decide,rfl,fun d h=>(by cases h),by simp [aH],rfl,fun _ _=>rfl,gI⟩
 rintro ρ Hx ⟨i,c,out,h19,hi,h4,hc,hol,hod,hval,hnx,hold,gx⟩;refine W.en (fun F=>F 0=.ptr b 0 0 /\ F 1=.lit (.int .u64 w) /\ F 4=.lit (.int .u64 c) /\ F 17=.own id g 0 n 1 /\ F 18=aa n /\ F 19=aa i) (by simp only[go_sem,e0,e1,h4,e17,e18,h19]) fun F ⟨f0,f1,f4,f17,f18,f19⟩=>?_
 have lx:=aj gx;have lb:=aj ((hold b ib).trans gB);by_cases hbn:(i:Int)<n
 ·obtain⟨d,hd⟩:=get_of_lt (l:=l) (i:=i) (by omega);have hdB:=hl.lt d (Pq hd);have hdr:l.drop i=d :: l.drop (i+1):=ie hd;have hgd:(out++l.drop i)[i]?=some d:=by rw[PI (by omega),hol,Q7,hdr];rfl
  have hgd2:((out++l.drop i).map aV)[i]?=some (.lit (.int .u64 (d:Int))):=by rw[List.getElem?_map,hgd];rfl
  have hgn:=aL hgd2;have hlen:(out++l.drop i).length=n:=by rw[List.length_append,P0];omega
  obtain⟨hi',hhi⟩:∃ q,q=d*w / 18446744073709551616:=⟨_,rfl⟩
  obtain⟨lo',hlo'⟩:∃ q,q=d*w % 18446744073709551616:=⟨_,rfl⟩
  have hm:d*w<=18446744073709551615*18446744073709551615:=Rf (by omega) (by omega);have hst:=AP (B:=18446744073709551616) hd hol hval;obtain⟨dw,hdw⟩:∃ q,q=d*w:=⟨_,rfl⟩
  rw[<- hdw]at hhi hlo' hm hst;have lo2:lo'<18446744073709551616:=by rw[hlo'];exact R7 _ (by decide)
  have sE:(dw+c) % 18446744073709551616=(lo'+c) % 18446744073709551616:=by omega
  have cE:(dw+c) / 18446744073709551616=hi'+(lo'+c) / 18446744073709551616:=by omega
  rw[sE,cE]at hst;have cB:hi'+(lo'+c) / 18446744073709551616<18446744073709551616:=by omega
  have sB:(lo'+c) % 18446744073709551616<18446744073709551616:=R7 _ (by decide);obtain⟨sm,hsm⟩:∃ q,q=(lo'+c) % 18446744073709551616:=⟨_,rfl⟩
  obtain⟨mo,hmo⟩:∃ q,q=(lo'+c) / 18446744073709551616:=⟨_,rfl⟩
  rw[<- hsm,<- hmo]at hst;rw[<- hsm]at sB;rw[<- hmo]at cB;have w1:=Ps ((i:Int)+1) (by omega);have w2:=P8 ((hi':Int)+mo) (by omega);refine W.sq ?_;simp only[go_sem,f18,f19,hbn];refine W.sq ?_;simp only[go_sem];refine W.seq (W.block ?_);refine W.sq ?_;simp only[go_sem,f17,f19,lx,hgd2,hbn];refine W.sq ?_;simp only[go_sem,f1];refine az.clo (LH d w hdB hw _ _ ⟨trivial,?_⟩);rw[<- hdw,<- hhi,<- hlo'];simp only[go_sem];refine W.sq ?_;simp only[go_sem,f4];refine CC (r:=.tup [.lit (.int .u64 (sm:Int)),.lit (.int .u64 (mo:Int))]) (by rw[hsm,hmo];rfl) ⟨trivial,?_⟩;simp only[go_sem];refine W.vs ?_;simp only[go_sem,f0,lb,lx,hbn,w2];refine⟨by rw[Px,hlen];omega,?_⟩;refine W.vs ?_;simp only[go_sem,f19,w1];refine⟨by rw[aC];omega,⟨i+1,hi'+mo,out++[sm],rfl,by omega,by rw[Int.natCast_add],cB,by simp [hol],fun e he=>?_,hst,by rw[aC];exact hnx,fun k hk=>by rw[ag,Pt hk];exact hold k hk,?_⟩,by rw[h19];simp only[aa,aW];omega⟩
  ·rcases PK.1 he with he|he
   ·exact hod e he
   ·rw[List.mem_singleton.1 he];exact sB
  ·rw[ag,Pv rfl,Cr (by omega),Qg _ _ (by omega),hol,Q7,hdr,List.set_cons_zero,List.append_assoc];rfl
 have ei:i=n:=by omega
 subst ei;rw[hn,QH,<- hn]at hval;rw[Sf (by omega),List.append_nil]at gx;have hOx:aA lo Hx 104 (.own id g 0 i 1) (out.map aV):=.inr ⟨id,g,i1,by omega,by rw[Px,hol],gx⟩;have hk':∀ k,(∀ g' n',AVal.own id g 0 (l.map aV).length 1≠.own k g' 0 n' 1)->k≠id:=fun k h e=>h g (l.map aV).length (by rw[e]);have bx:=(hold b ib).trans gB;refine W.vs ?_;simp only[go_sem,f18,f19,hbn];by_cases c0:c=0
 ·subst c0;refine W.vs ?_;simp only[go_sem,f4];refine av.mk (by omega) (hK _ _ (by omega) (fun k _ _ h3=>hold k (hk' k h3)) bx ?_ fun h=>absurd h Vne);rw[Si,Nat.add_zero]at hval;have e:out=aJ 18446744073709551616 (aH 18446744073709551616 l*w):=by
   rw[<- hval];by_cases h0:out=[]
   ·subst h0;exact(tl hB).symm
   ·refine nW hB ⟨hod,LI hB hod h0 ?_⟩;rw[hval];have h1:=wB hB hl fun e=>by rw[e]at hn;rw[hn]at hol;exact h0 (PG hol)
    have h2:aH 18446744073709551616 l*1<=aH 18446744073709551616 l*w:=RP _ (by omega);rw[hol,hn];omega
  rw[<- e];exact hOx
 ·have c0':¬ (c:Int)=0:=by omega
  obtain⟨v',H2,hA,hO2,hn2,hp⟩:=jc (P:=Try.prog) (H:=Hx) (t:=100) (x:=.lit (.int .u64 (c:Int))) (n:=Hx.next+1) Try.underlying100 Try.wS Try.wU rfl (by rw[Try.wT,Px];omega) hOx (by omega) rfl;have lbE:∀ L,(ext Hx L).live b 0=_:=fun L=>(dF (by omega)).trans (aj bx);have b2:=(hp b (by omega) (fun g n e=>ib (AVal.own.inj e).1.symm)).trans bx;have lb2:=aj b2;have vo:=hO2.one;have vc:=hO2.cells;refine W.vs ?_;simp only[go_sem,f0,f4,c0',aj bx,hA,lb2,vo,vc];have e:out.map aV++[AVal.lit (.int .u64 (c:Int))]=(aJ 18446744073709551616 (aH 18446744073709551616 l*w)).map aV:=by
   have h1:=nW hB (LJ hod hc c0);rw[pX,hol,hval]at h1;rw[<- h1,Qj];rfl
  rw[e]at hO2;refine av.mk (by rw[aC];omega) (hK _ v' (by rw[aC];omega) (fun k h1 h2 h3=>by rw[ag,Pt h2,hp k (by omega) fun _ _ e=>hk' k h3 (AVal.own.inj e).1.symm];exact hold k (hk' k h3)) (by rw[ag,Pv rfl]) (hO2.keep (Nat.le_refl _) (by rw[aC];omega) fun k _ h1 _ hk _=>by rw[ag,Pt (fun e=>by rw[e,b2]at hk;cases hk)]) fun h=>absurd h Vne)
theorem A3 {g:Int}{ns:List NodeP}(h:NetOk g ns)(h6:ns.length<=6){wh:Nat}(hw:wh<=46656000000){xs:List (List Int)}(h40:xs.length<=64)(hr:∀ r∈xs,r.length=ns.length){k m:Nat}(hk:k<=xs.length)(hm:m<=2 ^ 74):(aJ 18446744073709551616 (cK ns wh (xs.take k)*m)).length<2 ^ 36:=by
 have h1:=AR h h6 hw (xs.take k) fun r hr'=>hr r (PW hr');rw[PC]at h1;have h2:(2 ^ 74) ^ (min k xs.length)<=(2 ^ 74) ^ 64:=PJ (by decide) (by omega);have h3:cK ns wh (xs.take k)*m<=(2 ^ 74) ^ 64*2 ^ 74:=Rf (by omega) hm;have h4:=nY (B:=18446744073709551616) (k:=76) (by decide) (QX h3 (by decide));exact QX h4 (by decide)
set_option maxHeartbeats 4000000 in
theorem wI (g:Int)(ns:List NodeP)(hok:NetOk g ns)(gm:Int)(ms:List NodeP)(hm1:1<=gm/\gm<=60)(hm8:ms.length<=6)(cs:List Int)(xs:List (List Int))(h6:ns.length<=6)(h40:xs.length<=64)(hrow:∀ r∈xs,r.length=ns.length)(H:AHeap)(K:ARes->AHeap->Prop)
  (hK:∀ sl Hx,Over H Hx->aA H.next Hx 104 sl ((aJ 18446744073709551616 (cK ns (gm.toNat ^ ms.length) xs)).map aV)->(aJ 18446744073709551616 (cK ns (gm.toNat ^ ms.length) xs)=[]->sl=.lit (.slice none 0 0))->K (.ret sl) Hx):
  ab Try.prog G0 50 [aG g ns,aG gm ms,bt cs xs] H K:=by
 refine ab.fS (n:=38) (rs:=[.tmp 6]) Try.func50 rfl rfl rfl (by decide) (by simp) ?_;refine W.sq ?_;simp only[go_sem,aG,cf,bt,ay];refine W.sq ?_;simp only[go_sem];refine W.sq ?_;simp only[go_sem];obtain⟨H1,hH1⟩:∃ H1,H1=ext H ([.arr 0 35 [aa g,.vec ns.length (aq ns)],.arr 0 35 [aa gm,.vec ms.length (aq ms)],.arr 0 42 [.vec cs.length (ints cs),.vec xs.length (xs.map ae)],.arr 0 104 [.lit (.int .u64 1)],.arr 0 100 [.own (H.next+3) 0 0 1 1]]):=⟨_,rfl⟩
 have n1:H1.next=H.next+5:=by rw[hH1];rfl
 have o1:Over H H1:=by rw[hH1];exact .ext _ _
 obtain⟨wh,hwh⟩:∃ q,q=gm.toNat ^ ms.length:=⟨_,rfl⟩
 have hwb:wh<=46656000000:=by
  have a1:gm.toNat ^ ms.length<=60 ^ ms.length:=Ra (by omega) _;have a2:(60:Nat) ^ ms.length<=60 ^ 6:=PJ (by decide) hm8;have a3:(60:Nat) ^ 6=46656000000:=by decide
  omega
 rw[<- hwh]at hK;have b0:H1.get H.next=some (.arr 0 35 [aa g,.vec ns.length (aq ns)]):=by rw[hH1];exact cD ..
 have b1:H1.get (H.next+1)=some (.arr 0 35 [aa gm,.vec ms.length (aq ms)]):=by rw[hH1];exact aY H _ 1 (by simp)
 have b2:H1.get (H.next+2)=some (.arr 0 42 [.vec cs.length (ints cs),.vec xs.length (xs.map ae)]):=by rw[hH1];exact aY H _ 2 (by simp)
 have b3:H1.get (H.next+3)=some (.arr 0 104 (([1]:List Nat).map aV)):=by rw[hH1];exact aY H _ 3 (by simp)
 have b4:H1.get (H.next+4)=some (.arr 0 100 [.own (H.next+3) 0 0 1 1]):=by rw[hH1];exact aY H _ 4 (by simp)
 refine W.en (fun E=>E 3=.ptr H.next 0 0 /\ E 4=.ptr (H.next+1) 0 0 /\ E 5=.ptr (H.next+2) 0 0 /\ E 7=.ptr (H.next+4) 0 0 /\ E 8=.clo 52 [.ptr (H.next+4) 0 0] []) (by simp only[go_sem]) fun E ⟨e3,e4,e5,e7,e8⟩=>?_
 show W _ _ _ _ _ _ ⟨E,ext H ([.arr 0 35 [aa g,.vec ns.length (aq ns)],.arr 0 35 [aa gm,.vec ms.length (aq ms)],.arr 0 42 [.vec cs.length (ints cs),.vec xs.length (xs.map ae)],.arr 0 104 [.lit (.int .u64 1)],.arr 0 100 [.own (H.next+3) 0 0 1 1]])⟩;rw[<- hH1];clear hH1;have l0:=aj b0;have l2:=aj b2;refine W.sq ?_;simp only[go_sem,e3,e5,l0,l2];refine az.clo (AB g ns hok cs xs (by omega) hrow _ _ ⟨trivial,?_⟩);obtain⟨M,hM⟩:∃ M,M=xs.map (dc ns):=⟨_,rfl⟩
 have Ml:M.length=xs.length:=by rw[hM,Px]
 rw[<- hM];have il:=aS M;rw[Ml]at il;simp only[go_sem,Ml];refine W.env fun E1 hE1=>?_;have f4:E1 4=.ptr (H.next+1) 0 0:=by rw[hE1];simp only[go_sem,e4]
 have f7:E1 7=.ptr (H.next+4) 0 0:=by rw[hE1];simp only[go_sem,e7]
 have f8:E1 8=.clo 52 [.ptr (H.next+4) 0 0] []:=by rw[hE1];simp only[go_sem,e8]
 have f15:E1 15=.vec xs.length (ints M):=by rw[hE1,<- Ml];simp only[go_sem]
 have f16:E1 16=aa xs.length:=by rw[hE1,<- Ml];simp only[go_sem]
 have f17:E1 17=aa 0:=by rw[hE1];simp only[go_sem]
 clear hE1;have one:aJ 18446744073709551616 (cK ns wh (xs.take 0))=[1]:=by
  have e:aH 18446744073709551616 [1]=1:=rfl;have:=nW (B:=18446744073709551616) (by decide) (l:=[1]) ⟨fun d hd=>by rw[List.mem_singleton.1 hd];decide,fun d hd=>by cases hd;decide⟩;rw[e]at this;exact this.symm
 refine W.aN 137438823424 (by kernel_rfl) (fun ρ Hx=>∃ (k:Nat) (sl:AVal),ρ 17=aa k/\k<=xs.length/\H1.next<=Hx.next/\(∀ id,id<H.next+3->Hx.get id=H1.get id)/\Hx.get (H.next+4)=some (.arr 0 100 [sl])/\aA (H.next+3) Hx 104 sl ((aJ 18446744073709551616 (cK ns wh (xs.take k))).map aV)/\(aJ 18446744073709551616 (cK ns wh (xs.take k))=[]->sl=.lit (.slice none 0 0))) (fun ρ Hx=>xs.length - (iv (ρ 17)).toNat) ?_ ?_
 ·exact⟨0,_,f17,by omega,Nat.le_refl _,fun _ _=>rfl,b4,by rw[one];exact .inr ⟨H.next+3,0,by omega,(by show H.next+3<H1.next;omega),rfl,b3⟩,fun e=>by rw[one]at e;cases e⟩
 rintro ρ Hx ⟨k,sl,h17,hk,hnx,hold,gx,hO,hz⟩;refine W.en (fun E2=>E2 4=.ptr (H.next+1) 0 0 /\ E2 7=.ptr (H.next+4) 0 0 /\ E2 8=.clo 52 [.ptr (H.next+4) 0 0] [] /\ E2 15=.vec xs.length (ints M) /\ E2 16=aa xs.length /\ E2 17=aa k) (by simp only[go_sem,f4,f7,f8,f15,f16,h17]) fun E2 ⟨a4,a7,a8,a15,a16,a17⟩=>?_
 by_cases hb:(k:Int)<xs.length;rotate_left
 ·have so:=hO.one;have sc:=hO.cells;refine W.vs ?_;simp only[go_sem,a16,a17,hb];refine W.vs ?_;simp only[go_sem,a7,aj gx];obtain rfl:k=xs.length:=by omega
  rw[QH]at hO hz;exact av.mk (by omega) (hK sl Hx ⟨by omega,fun id h=>(hold id (by omega)).trans (o1.old id h)⟩ (hO.keep (by omega) (Nat.le_refl _) fun _ _ _ _ _ _=>rfl) hz)
 obtain⟨r,hrk⟩:=get_of_lt (l:=xs) (i:=k) (by omega);have hrl:=hrow r (Pq hrk);have mb:=wq hok h6 hrl;have mp:=te hok hrl;obtain⟨m,hm⟩:∃ m:Nat,dc ns r=m:=⟨(dc ns r).toNat,by omega⟩
 have hMk:M[k]?=some (m:Int):=by rw[hM,List.getElem?_map,hrk,<- hm];rfl
 have hMn:=aL hMk;have u1:=P8 (m:Int) (by omega);obtain⟨gn,hgn⟩:∃ q:Nat,gm=q:=⟨gm.toNat,by omega⟩
 have u2:=P8 (gn:Int) (by omega);have w1:=Ps ((k:Int)+1) (by omega);have key:=fun (j:Nat)=>A3 hok h6 hwb h40 hrow (k:=k) (m:=j) hk;refine W.sq ?_;simp only[go_sem,a16,a17,hb];refine W.sq ?_;simp only[go_sem];refine W.seq (W.block ?_);refine W.sq ?_;simp only[go_sem,a15,a17,hMk,hMn,hb];refine W.sq ?_;simp only[go_sem,a8,u1];refine az.clo (tn (lo:=H.next+3) (b:=H.next+4) (by omega) (dQ (by decide) _) (by have:=key 1 (by decide);rwa [Nat.mul_one]at this) Hx (by omega) (by omega) gx hO hz _ fun H2 sl2 hn2 old2 g2 hO2 hz2=>⟨trivial,?_⟩);rw[dq (by decide)]at hO2 hz2;obtain⟨V,hV⟩:∃ V,V=cK ns wh (xs.take k):=⟨_,rfl⟩
 rw[<- hV]at hO2 hz2 key;have hold2:∀ id,id<H.next+3->H2.get id=H1.get id:=fun id h=>(old2 id (by omega) (by omega) (aA.tv hO h)).trans (hold id h);have c1:=aj ((hold2 _ (by omega)).trans b1);simp only[go_sem];refine W.sq ?_;simp only[go_sem,a4,c1];refine W.en (fun E3=>E3 4=.ptr (H.next+1) 0 0 /\ E3 8=.clo 52 [.ptr (H.next+4) 0 0] [] /\ E3 17=aa k /\ E3 27=aa ms.length /\ E3 28=aa 0) (by simp only[go_sem,a4,a8,a17]) fun E3 ⟨d4,d8,d17,d27,d28⟩=>?_
 refine W.block ?_;refine W.aN 68451041280 (by kernel_rfl) (fun ρ Hy=>∃ (j:Nat) (sl:AVal),ρ 28=aa j/\j<=ms.length/\H2.next<=Hy.next/\(∀ id,id<H.next+3->Hy.get id=H1.get id)/\Hy.get (H.next+4)=some (.arr 0 100 [sl])/\aA (H.next+3) Hy 104 sl ((aJ 18446744073709551616 (V*(m*gn ^ j))).map aV)/\(aJ 18446744073709551616 (V*(m*gn ^ j))=[]->sl=.lit (.slice none 0 0))) (fun ρ Hy=>ms.length - (iv (ρ 28)).toNat) ?_ ?_
 ·exact⟨0,_,d28,by omega,Nat.le_refl _,hold2,g2,by rw[Nat.pow_zero,Nat.mul_one];exact hO2,by rw[Nat.pow_zero,Nat.mul_one];exact hz2⟩
 rintro ρ2 Hy ⟨j,sly,h28,hj,hny,holdy,gy,hOy,hzy⟩;refine W.en (fun E4=>E4 4=.ptr (H.next+1) 0 0 /\ E4 8=.clo 52 [.ptr (H.next+4) 0 0] [] /\ E4 17=aa k /\ E4 27=aa ms.length /\ E4 28=aa j) (by simp only[go_sem,d4,d8,d17,d27,h28]) fun E4 ⟨k4,k8,k17,k27,k28⟩=>?_
 have ly:=aj ((holdy _ (by omega)).trans b1);by_cases hb2:(j:Int)<ms.length
 ·have w2:=Ps ((j:Int)+1) (by omega);have gj:gn ^ j<=60 ^ 6:=PY (Ra (by omega) _) (PJ (by decide) (by omega));have bj:m*gn ^ j<=46656000000*60 ^ 6:=Rf (by omega) gj;refine W.sq ?_;simp only[go_sem,k27,k28,hb2];refine W.sq ?_;simp only[go_sem];refine W.seq (W.block ?_);refine W.vs ?_;simp only[go_sem,k4,k8,ly,hgn,u2];refine az.clo (tn (lo:=H.next+3) (b:=H.next+4) (w:=gn) (by omega) (dQ (by decide) _) (key _ (PY bj (by decide))) Hy (by omega) (by omega) gy hOy hzy _ fun H3 sl3 hn3 old3 g3 hO3 hz3=>⟨trivial,?_⟩);rw[dq (by decide),QJ,QJ,<- Q8]at hO3 hz3;refine W.vs ?_;simp only[go_sem,k28,w2];exact⟨by omega,⟨j+1,sl3,rfl,by omega,by omega,fun id h=>(old3 id (by omega) (by omega) (aA.tv hOy h)).trans (holdy id h),g3,hO3,hz3⟩,by rw[h28];simp only[aa,aW];omega⟩
 have ej:j=ms.length:=by omega
 subst ej;have ew:gn ^ ms.length=wh:=by rw[hwh,hgn];rfl
 refine W.vs ?_;simp only[go_sem,k27,k28,hb2];refine W.vs ?_;simp only[go_sem,k17,w1];refine⟨by omega,⟨k+1,sly,rfl,by omega,by omega,holdy,gy,?_⟩,by rw[h17];simp only[aa,aW];omega⟩;rw[aO hrk,tc,hm,Int.toNat_natCast,<- hV,QJ,<- ew];exact⟨hOy,hzy⟩
theorem tp (g:Int)(ns:List NodeP)(hok:NetOk g ns)(gm:Int)(ms:List NodeP)(hm1:1<=gm/\gm<=60)(hm8:ms.length<=6)(cs:List Int)(xs:List (List Int))(h6:ns.length<=6)(h40:xs.length<=64)(hrow:∀ r∈xs,r.length=ns.length)(H:AHeap)(K:ARes->AHeap->Prop)
  (hK:K (.ret (cu (aJ 18446744073709551616 (cK ns (gm.toNat ^ ms.length) xs)))) H):
  ab Try.prog G0 50 [aG g ns,aG gm ms,bt cs xs] H K :=
 ab.clo ⟨_,Try.func50,rfl,rfl⟩ fun hcl=>ab.fin (wI g ns hok gm ms hm1 hm8 cs xs h6 h40 hrow H _ fun sl Hx ho hO _=>⟨_,rfl,av.bq aK hcl ho (hO.xm fun i h=>h) hK⟩)
theorem A4 {g:Int}{ns:List NodeP}(h:NetOk g ns)(h6:ns.length<=6){wh:Nat}(hw:wh<=46656000000){xs:List (List Int)}(h40:xs.length<=40)(hr:∀ r∈xs,r.length=ns.length){k m:Nat}(hk:k<=xs.length)(hm:m<=2 ^ 74):(aJ 10000 (cK ns wh (xs.take k)*m)).length<2 ^ 20:=by
 have h1:=AR h h6 hw (xs.take k) fun r hr'=>hr r (PW hr');rw[PC]at h1;have h2:(2 ^ 74) ^ (min k xs.length)<=(2 ^ 74) ^ 40:=PJ (by decide) (by omega);have h3:cK ns wh (xs.take k)*m<=(2 ^ 74) ^ 40*2 ^ 74:=Rf (by omega) hm;have h4:=nY (B:=10000) (k:=240) (by decide) (QX h3 (by decide));exact QX h4 (by decide)
set_option maxHeartbeats 4000000 in
theorem tq (g:Int)(ns:List NodeP)(hok:NetOk g ns)(gm:Int)(ms:List NodeP)(hm1:1<=gm/\gm<=60)(hm8:ms.length<=6)(cs:List Int)(xs:List (List Int))(h6:ns.length<=6)(h40:xs.length<=40)(hrow:∀ r∈xs,r.length=ns.length)(H:AHeap)(K:ARes->AHeap->Prop)
  (hK:K (.ret (ae (br (aJ 10000 (cK ns (gm.toNat ^ ms.length) xs))))) H):
  ab Try.prog G0 56 [aG g ns,aG gm ms,bt cs xs] H K:=by
 refine ab.clo ⟨_,Try.func56,rfl,rfl⟩ fun hcl=>?_;have hB:2<=10000:=by decide
 obtain⟨wh,hwh⟩:∃ q,q=gm.toNat ^ ms.length:=⟨_,rfl⟩
 have hwb:wh<=46656000000:=by
  have a1:gm.toNat ^ ms.length<=60 ^ ms.length:=Ra (by omega) _;have a2:(60:Nat) ^ ms.length<=60 ^ 6:=PJ (by decide) hm8;have a3:(60:Nat) ^ 6=46656000000:=by decide
  omega
 rw[<- hwh]at hK;have hwI:gm ^ ms.length=(wh:Int):=by
  obtain⟨q,rfl⟩:∃ q:Nat,gm=q:=⟨gm.toNat,by omega⟩
  rw[hwh,<- Sm];rfl
 refine ab.fS (n:=30) (rs:=[.tmp 6]) Try.func56 rfl rfl rfl (by decide) (by simp) ?_;refine W.sq ?_;simp only[go_sem,aG,cf,bt,ay];refine W.sq ?_;simp only[go_sem];obtain⟨H1,hH1⟩:∃ H1,H1=ext H [.arr 0 35 [aa g,.vec ns.length (aq ns)],.arr 0 35 [aa gm,.vec ms.length (aq ms)],.arr 0 42 [.vec cs.length (ints cs),.vec xs.length (xs.map ae)],.arr 0 3 [.lit (.int .i64 1)]]:=⟨_,rfl⟩
 have n1:H1.next=H.next+4:=by rw[hH1];rfl
 have o1:Over H H1:=by rw[hH1];exact .ext _ _
 have b0:H1.get H.next=some (.arr 0 35 [aa g,.vec ns.length (aq ns)]):=by rw[hH1];exact cD ..
 have b1:H1.get (H.next+1)=some (.arr 0 35 [aa gm,.vec ms.length (aq ms)]):=by rw[hH1];exact aY H _ 1 (by simp)
 have b2:H1.get (H.next+2)=some (.arr 0 42 [.vec cs.length (ints cs),.vec xs.length (xs.map ae)]):=by rw[hH1];exact aY H _ 2 (by simp)
 have b3:H1.get (H.next+3)=some (.arr 0 3 (ints [1])):=by rw[hH1];exact aY H _ 3 (by simp)
 have l0:=aj b0;have l1:=aj b1;have l2:=aj b2;refine W.en (fun E=>E 3=.ptr H.next 0 0 /\ E 4=.ptr (H.next+1) 0 0 /\ E 5=.ptr (H.next+2) 0 0 /\ E 7=.own (H.next+3) 0 0 1 1) (by simp only[go_sem]) fun E ⟨e3,e4,e5,e7⟩=>?_
 show W _ _ _ _ _ _ ⟨E,ext H [.arr 0 35 [aa g,.vec ns.length (aq ns)],.arr 0 35 [aa gm,.vec ms.length (aq ms)],.arr 0 42 [.vec cs.length (ints cs),.vec xs.length (xs.map ae)],.arr 0 3 [.lit (.int .i64 1)]]⟩;rw[<- hH1];clear hH1;refine W.uw (dh.Om aK (s:=⟨E,H1⟩) (n:=H.next+3) (t0:=7) (v':=ae [1]) (by
  show Fz _ _ _ (E 7) _;rw[e7];exact Fz.ints (by omega) b3 rfl fun j hj=>by rw[Nat.zero_add,fU];simp only[Pr hj,Option.map_some])) (Nat.le_refl _) trivial ?_
 obtain⟨E0,hE0⟩:∃ E0:Nat->AVal,E0=fun t=>if t=7 then ae [1] else E t:=⟨_,rfl⟩
 have f3:E0 3=.ptr H.next 0 0:=by rw[hE0];exact e3
 have f4:E0 4=.ptr (H.next+1) 0 0:=by rw[hE0];exact e4
 have f5:E0 5=.ptr (H.next+2) 0 0:=by rw[hE0];exact e5
 have f7:E0 7=ae [1]:=by rw[hE0];exact Pv rfl
 obtain⟨H2,hH2⟩:∃ H2,H2=H1.cut (H.next+3):=⟨_,rfl⟩
 have n2:H2.next=H1.next:=by rw[hH2];rfl
 have k2:∀ id,id<H.next+3->H2.get id=H1.get id:=fun id h=>by rw[hH2];exact rD h
 show W _ _ _ _ _ _ ⟨fun t=>if t=7 then ae [1] else E t,H1.cut (H.next+3)⟩;rw[<- hE0,<- hH2];clear hE0 hH2;have l0:=aj ((k2 _ (by omega)).trans b0);have l1:=aj ((k2 _ (by omega)).trans b1);have l2:=aj ((k2 _ (by omega)).trans b2);have one:aJ 10000 (cK ns wh (xs.take 0))=[1]:=by
  have e:aH 10000 [1]=1:=rfl;have:=nW (B:=10000) (by decide) (l:=[1]) ⟨fun d hd=>by rw[List.mem_singleton.1 hd];decide,fun d hd=>by cases hd;decide⟩;rw[e]at this;exact this.symm
 refine W.sq ?_;simp only[go_sem];refine W.en (fun E1=>E1 3=.ptr H.next 0 0 /\ E1 4=.ptr (H.next+1) 0 0 /\ E1 5=.ptr (H.next+2) 0 0 /\ E1 7=ae [1] /\ E1 8=aa 0) (by simp only[go_sem,f3,f4,f5,f7]) fun E1 ⟨a3,a4,a5,a7,a8⟩=>?_
 refine W.aN 536870272 (by kernel_rfl) (fun ρ Hx=>Hx=H2/\∃ k:Nat,ρ 8=aa k/\k<=xs.length/\ρ 7=ae (br (aJ 10000 (cK ns wh (xs.take k))))) (fun ρ Hx=>xs.length - (iv (ρ 8)).toNat) ?_ ?_
 ·exact⟨rfl,0,a8,by omega,by show E1 7=_;rw[one];exact a7⟩
 rintro ρ Hx ⟨hHx,k,h8,hk,h7⟩;rw[hHx];clear hHx;obtain⟨D,hD⟩:∃ D,D=aJ 10000 (cK ns wh (xs.take k)):=⟨_,rfl⟩
 rw[<- hD]at h7;refine W.en (fun E2=>E2 3=.ptr H.next 0 0 /\ E2 4=.ptr (H.next+1) 0 0 /\ E2 5=.ptr (H.next+2) 0 0 /\ E2 7=ae (br D) /\ E2 8=aa k) (by simp only[go_sem,a3,a4,a5,h7,h8]) fun E2 ⟨c3,c4,c5,c7,c8⟩=>?_
 by_cases hb:(k:Int)<xs.length;rotate_left
 ·refine W.vs ?_;simp only[go_sem,c5,c8,l2,hb];refine W.vs ?_;simp only[go_sem,c7];obtain rfl:k=xs.length:=by omega
  rw[QH]at hD;rw[<- hD]at hK;exact av.bq aK hcl ⟨by omega,fun id h=>(k2 id (by omega)).trans (o1.old id h)⟩ (.dm _) hK
 obtain⟨r,hrk⟩:=get_of_lt (l:=xs) (i:=k) (by omega);have hrl:=hrow r (Pq hrk);have hr':=lZ hrk;have hrn:=aL hr';have mb:=wq hok h6 hrl;have mp:=te hok hrl;obtain⟨m,hm⟩:∃ m:Nat,dc ns r=m:=⟨(dc ns r).toNat,by omega⟩
 have w1:=Ps ((k:Int)+1) (by omega);have key:=fun (j:Nat)=>A4 hok h6 hwb h40 hrow (k:=k) (m:=j) hk;have kD:=key 1 (by decide);rw[Nat.mul_one,<- hD]at kD;have Dn:NormD 10000 D:=by rw[hD];exact dQ (by decide) _
 have Dv:aH 10000 D=cK ns wh (xs.take k):=by rw[hD,dq (by decide)]
 have kD2:=key m (by omega);have fin:cK ns wh (xs.take (k+1))=cK ns wh (xs.take k)*m*wh:=by rw[aO hrk,tc,hm,Int.toNat_natCast]
 refine W.sq ?_;simp only[go_sem,c5,c8,l2,hb];refine W.seq (W.block ?_);refine W.draw 10 [0,0,0,4,0,28,60,126,255,0] Try.mixed (by kernel_rfl) (by kernel_rfl) ?_;simp only[go_sem,c3,c4,c5,c7,c8,l0,l1,l2,hb,hr',hrn];refine⟨aa m,[],cI.pure (fun Hz=>AG g ns hok r hrl Hz _ ⟨by rw[hm],rfl⟩),?_⟩;simp only[go_sem];refine⟨ae (br (aJ 10000 (cK ns wh (xs.take k)*m))),[],cI.pure (fun Hz=>tb (l:=D) (n:=m) Dn.lt (by omega) (by omega) Hz _ ⟨by rw[Dv],rfl⟩),?_⟩;simp only[go_sem];refine az.clo (Lh gm ms (by omega) (by omega) _ _ ⟨trivial,?_⟩);rw[hwI];simp only[go_sem];refine az.clo (tb (l:=aJ 10000 (cK ns wh (xs.take k)*m)) (n:=wh) (dQ (by decide) _).lt (by omega) (by omega) _ _ ⟨trivial,?_⟩);rw[dq (by decide),<- fin];simp only[go_sem];refine W.vs ?_;simp only[go_sem,c8,w1];exact⟨⟨k+1,rfl,by omega,rfl⟩,by rw[h8];simp only[aa,aW];omega⟩
def cW (ns:List NodeP)(gm:Int)(ms:List NodeP)(xs:List (List Int)):Nat:=cK ns (gm.toNat ^ ms.length) xs
noncomputable def iL (g:Int)(ns:List NodeP)(gm:Int)(ms:List NodeP)(cs:List Int)(xs:List (List Int)):Int:=jm [(g,ns),(gm,ms)] cs xs
theorem wJ {g:Int}{ns:List NodeP}{gm:Int}{ms:List NodeP}{cs:List Int}{xs:List (List Int)}(h:iL g ns gm ms cs xs=0):eW g ns cs xs=0/\eW gm ms cs xs=0:=by
 unfold iL jm at h;simp only[List.mem_cons,List.not_mem_nil,or_false,forall_eq_or_imp,forall_eq]at h;split at h
 ·rename_i h1;split at h
  ·rename_i h2;split at h
   ·rename_i h3;unfold eW;rw[Pv h1.1,Pv h2,Pv h3.1,Pv h1.2,Pv h2,Pv h3.2];exact⟨rfl,rfl⟩
   ·cases h
  ·cases h
 ·cases h
theorem LK {g:Int}{ns:List NodeP}{gm:Int}{ms:List NodeP}{cs:List Int}{xs:List (List Int)}(h:NetOk g ns):iL g ns gm ms cs xs=if eW gm ms cs xs=0 then eW g ns cs xs else eW gm ms cs xs:=by
 have hn:=xq h;unfold iL jm eW;simp only[List.mem_cons,List.not_mem_nil,or_false,forall_eq_or_imp,forall_eq,hn,true_and,Pv];by_cases h1:fy gm ms=true<;>by_cases h2:gL cs xs=true<;>by_cases h3:ar ms=cs<;>by_cases h4:ar ns=cs<;>simp [h1,h2,h3,h4]
noncomputable def nZ (g:Int)(ns:List NodeP)(gm:Int)(ms:List NodeP)(cs:List Int)(xs:List (List Int)):AVal :=
 if iL g ns gm ms cs xs=0 then .tup [aa (eU (cW ns gm ms xs) (cW ms g ns xs)),aa 0] else .tup [aa 0,aa (iL g ns gm ms cs xs)]
theorem kI {g:Int}{ns:List NodeP}(h:NetOk g ns)(h6:ns.length<=6){gm:Int}{ms:List NodeP}(hm1:1<=gm/\gm<=60)(hm8:ms.length<=6){xs:List (List Int)}(h40:xs.length<=40)(hr:∀ r∈xs,r.length=ns.length):(aJ 18446744073709551616 (cW ns gm ms xs)).length<2 ^ 36/\(aJ 10000 (cW ns gm ms xs)).length<2 ^ 20:=by
 have hwb:gm.toNat ^ ms.length<=46656000000:=by
  have a1:gm.toNat ^ ms.length<=60 ^ ms.length:=Ra (by omega) _;have a2:(60:Nat) ^ ms.length<=60 ^ 6:=PJ (by decide) hm8;have a3:(60:Nat) ^ 6=46656000000:=by decide
  omega
 have h1:=A3 h h6 hwb (xs:=xs) (by omega) hr (k:=xs.length) (m:=1) (Nat.le_refl _) (by decide);have h2:=A4 h h6 hwb (xs:=xs) h40 hr (k:=xs.length) (m:=1) (Nat.le_refl _) (by decide);rw[QH,Nat.mul_one]at h1 h2;exact⟨h1,h2⟩
set_option maxHeartbeats 2000000 in
theorem LL (g:Int)(ns:List NodeP)(gm:Int)(ms:List NodeP)(cs:List Int)(xs:List (List Int))(hn:fM ns)(hm:fM ms)(hf:js cs xs)(H:AHeap)(K:ARes->AHeap->Prop)(hK:K (.ret (nZ g ns gm ms cs xs)) H):
  ab Try.prog G0 22 [aG g ns,aG gm ms,bt cs xs] H K:=by
 refine ab.clo ⟨_,Try.func22,rfl,rfl⟩ fun hcl=>?_;have fin:∀ (a b:Int) (Hx:AHeap),Over H Hx->K (.ret (.tup [aa a,aa b])) H->av Try.prog G0 H K (.tup [aa a,aa b]) Hx:=fun a b Hx ho hk=>av.bq aK hcl ho (.tup rfl fun i hi _=>match i,hi with
  | 0,_=>.lit _
  | 1,_=>.lit _) hk
 have r2:(List.replicate 2 [AVal.lit (.int .i64 0),AVal.lit (.slice none 0 0)]).flatten=[.lit (.int .i64 0),.lit (.slice none 0 0),.lit (.int .i64 0),.lit (.slice none 0 0)]:=rfl;refine ab.aZ (n:=26) (rs:=[.tmp 6,.tmp 7]) Try.func22 rfl rfl rfl (by decide) (by kernel_rfl) (by simp) ?_;simp only[go_sem,aG,cf,bt,ay,r2,List.drop_succ_cons,List.drop_zero];obtain⟨H1,hH1⟩:∃ H1,H1=ext H [.arr 0 35 [aa g,.vec ns.length (aq ns)],.arr 0 35 [aa gm,.vec ms.length (aq ms)],.arr 0 42 [.vec cs.length (ints cs),.vec xs.length (xs.map ae)],.arr 0 35 [aa g,.vec ns.length (aq ns),aa gm,.vec ms.length (aq ms)]]:=⟨_,rfl⟩
 have n1:H1.next=H.next+4:=by rw[hH1];rfl
 have o1:Over H H1:=by rw[hH1];exact .ext _ _
 have g0:H1.get H.next=some (.arr 0 35 [aa g,.vec ns.length (aq ns)]):=by rw[hH1];exact cD ..
 have g1:H1.get (H.next+1)=some (.arr 0 35 [aa gm,.vec ms.length (aq ms)]):=by rw[hH1];exact aY H _ 1 (by simp)
 have g2:H1.get (H.next+2)=some (.arr 0 42 [.vec cs.length (ints cs),.vec xs.length (xs.map ae)]):=by rw[hH1];exact aY H _ 2 (by simp)
 have g3:H1.get (H.next+3)=some (.arr 0 35 (dG [(g,ns),(gm,ms)])):=by rw[hH1];exact aY H _ 3 (by simp)
 show az _ _ _ _ (ext H [.arr 0 35 [aa g,.vec ns.length (aq ns)],.arr 0 35 [aa gm,.vec ms.length (aq ms)],.arr 0 42 [.vec cs.length (ints cs),.vec xs.length (xs.map ae)],.arr 0 35 [aa g,.vec ns.length (aq ns),aa gm,.vec ms.length (aq ms)]]) _;rw[<- hH1];have l0:=aj g0;have l1:=aj g1;have l2:=aj g2;refine az.clo ((AI [(g,ns),(gm,ms)] cs xs (fun p hp=>by
  simp only[List.mem_cons,List.not_mem_nil,or_false]at hp;rcases hp with rfl|rfl
  ·exact hn
  ·exact hm) hf (by simp) H1 g3).mono ?_)
 rintro rres Hq ⟨hrq,hHq⟩;rw[hHq,hrq];refine⟨trivial,?_⟩;unfold nZ at hK;obtain⟨e,he⟩:∃ e,e=iL g ns gm ms cs xs:=⟨_,rfl⟩
 rw[show jm [(g,ns),(gm,ms)] cs xs=e from he.symm];rw[<- he]at hK;by_cases h0:e=0;rotate_left
 ·rw[Pt h0]at hK;simp only[go_sem,h0];exact fin 0 e H1 o1 hK
 rw[Pv h0]at hK;rw[h0]at he ⊢;obtain⟨e1,e2⟩:=wJ he.symm;obtain⟨nok,_,_⟩:=lU e1;obtain⟨n6,h40,nrow⟩:=nT e1;obtain⟨mok,_,_⟩:=lU e2;obtain⟨m6,_,mrow⟩:=nT e2;have ln:=(kI nok n6 mok.g1 m6 h40 nrow).1;have lm:=(kI mok m6 nok.g1 n6 h40 mrow).1;simp only[go_sem];refine W.draw 7 [0,0,0,7,0,0,0] Try.mixed (by kernel_rfl) (by kernel_rfl) ?_;simp only[go_sem,l0,l1,l2];refine⟨cu (aJ 18446744073709551616 (cW ns gm ms xs)),[],cI.pure (fun Hz=>tp g ns nok gm ms mok.g1 m6 cs xs n6 (by omega) nrow Hz _ ⟨rfl,rfl⟩),?_⟩;simp only[go_sem];refine az.clo (tp gm ms mok g ns nok.g1 n6 cs xs m6 (by omega) mrow _ _ ⟨trivial,?_⟩);simp only[go_sem];refine az.clo (AQ (B:=18446744073709551616) (by decide) (dQ (by decide) (cW ns gm ms xs)) (dQ (by decide) (cW ms g ns xs)) (by omega) (by omega) _ _ ⟨trivial,?_⟩);rw[dq (by decide),dq (by decide)];simp only[go_sem];exact fin _ 0 H1 o1 hK
set_option maxHeartbeats 2000000 in
theorem A5 (g:Int)(ns:List NodeP)(gm:Int)(ms:List NodeP)(cs:List Int)(xs:List (List Int))(nok:NetOk g ns)(mok:NetOk gm ms)(n6:ns.length<=6)(m6:ms.length<=6)(h40:xs.length<=40)(nrow:∀ r∈xs,r.length=ns.length)(mrow:∀ r∈xs,r.length=ms.length)(H:AHeap)(K:ARes->AHeap->Prop)(hK:K (.ret (aa (eU (cW ns gm ms xs) (cW ms g ns xs)))) H):
  ab Try.prog G0 24 [aG g ns,aG gm ms,bt cs xs] H K:=by
 refine ab.clo ⟨_,Try.func24,rfl,rfl⟩ fun hcl=>?_;have ln:=(kI nok n6 mok.g1 m6 h40 nrow).2;have lm:=(kI mok m6 nok.g1 n6 h40 mrow).2;refine ab.aZ (n:=16) (rs:=[.tmp 6]) Try.func24 rfl rfl rfl (by decide) (by kernel_rfl) (by simp) ?_;simp only[go_sem,aG,cf,bt,ay];obtain⟨H1,hH1⟩:∃ H1,H1=ext H [.arr 0 35 [aa g,.vec ns.length (aq ns)],.arr 0 35 [aa gm,.vec ms.length (aq ms)],.arr 0 42 [.vec cs.length (ints cs),.vec xs.length (xs.map ae)]]:=⟨_,rfl⟩
 have o1:Over H H1:=by rw[hH1];exact .ext _ _
 have l0:H1.live H.next 0=_:=aj (show H1.get H.next=some (.arr 0 35 [aa g,.vec ns.length (aq ns)]) by rw[hH1];exact cD ..);have l1:H1.live (H.next+1) 0=_:=aj (show H1.get (H.next+1)=some (.arr 0 35 [aa gm,.vec ms.length (aq ms)]) by rw[hH1];exact aY H _ 1 (by simp));have l2:H1.live (H.next+2) 0=_:=aj (show H1.get (H.next+2)=some (.arr 0 42 [.vec cs.length (ints cs),.vec xs.length (xs.map ae)]) by rw[hH1];exact aY H _ 2 (by simp));show W _ _ _ _ _ _ ⟨_,ext H [.arr 0 35 [aa g,.vec ns.length (aq ns)],.arr 0 35 [aa gm,.vec ms.length (aq ms)],.arr 0 42 [.vec cs.length (ints cs),.vec xs.length (xs.map ae)]]⟩;rw[<- hH1];refine W.draw 7 [0,0,0,7,0,0,0] Try.mixed (by kernel_rfl) (by kernel_rfl) ?_;simp only[go_sem,l0,l1,l2];refine⟨ae (br (aJ 10000 (cW ns gm ms xs))),[],cI.pure (fun Hz=>tq g ns nok gm ms mok.g1 m6 cs xs n6 h40 nrow Hz _ ⟨rfl,rfl⟩),?_⟩;simp only[go_sem];refine az.clo (tq gm ms mok g ns nok.g1 n6 cs xs m6 h40 mrow _ _ ⟨trivial,?_⟩);simp only[go_sem];refine az.clo (AO (B:=10000) (by decide) (dQ (by decide) (cW ns gm ms xs)) (dQ (by decide) (cW ms g ns xs)) (by omega) (by omega) _ _ ⟨trivial,?_⟩);rw[dq (by decide),dq (by decide)];simp only[go_sem];exact av.bq aK hcl o1 (.lit _) hK
def n7 (own x:Nat):Nat:=min 1000000 (x / own)
theorem A6 {own x i:Nat}(h0:0<own)(h1:own*i<=x)(hi:i<=1000000)(h2:i=1000000\/x<own*(i+1)):i=n7 own x:=by
 have a1:i<=x / own:=(Nat.le_div_iff_mul_le h0).2 (by rw[Q9];exact h1);unfold n7;rcases h2 with h2|h2
 ·omega
 ·have a2:x / own<i+1:=(Nat.div_lt_iff_lt_mul h0).2 (by rw[Q9];exact h2);omega
theorem A7 {g:Int}{ns:List NodeP}(h:NetOk g ns){gm:Int}(hm:1<=gm)(ms:List NodeP){xs:List (List Int)}(hr:∀ r∈xs,r.length=ns.length)(hp:(0:Int) ∉ xs.map (dc ns)):0<cW ns gm ms xs:=by
 have hw:0<gm.toNat ^ ms.length:=Nat.pow_pos (by omega);unfold cW;generalize gm.toNat ^ ms.length=wh at hw ⊢;have key:∀ k,k<=xs.length->0<cK ns wh (xs.take k):=by
  intro k
  induction k with
  | zero=>intro _;exact Nat.one_pos
  | succ k ih =>
   intro hk;obtain⟨r,hrk⟩:=get_of_lt (l:=xs) (i:=k) (by omega);have h1:=te h (hr r (Pq hrk));have h2:dc ns r≠0:=fun e=>hp (PQ.2 ⟨r,Pq hrk,e⟩);rw[aO hrk,tc];exact SC (SC (ih (by omega)) (by omega)) hw
 have:=key xs.length (Nat.le_refl _)
 rwa [QH]at this
theorem wK {x y:Nat}:eU x y<=0↔x<=y:=by
 unfold eU;split
 ·omega
 ·split<;>omega
set_option maxHeartbeats 4000000 in
theorem LM (g:Int)(ns:List NodeP)(gm:Int)(ms:List NodeP)(cs:List Int)(xs:List (List Int))(nok:NetOk g ns)(mok:NetOk gm ms)(n6:ns.length<=6)(m6:ms.length<=6)(h40:xs.length<=40)(nrow:∀ r∈xs,r.length=ns.length)(mrow:∀ r∈xs,r.length=ms.length)(hp:0<cW ns gm ms xs)(H:AHeap)(K:ARes->AHeap->Prop)(hK:K (.ret (aa (n7 (cW ns gm ms xs) (cW ms g ns xs*1000)))) H):
  ab Try.prog G0 25 [aG g ns,aG gm ms,bt cs xs] H K:=by
 refine ab.clo ⟨_,Try.func25,rfl,rfl⟩ fun hcl=>?_;have ln:=(kI nok n6 mok.g1 m6 h40 nrow).2;have lm:=(kI mok m6 nok.g1 n6 h40 mrow).2;refine ab.fS (n:=39) (rs:=[.tmp 6]) Try.func25 rfl rfl rfl (by decide) (by simp) ?_;refine W.sq ?_;simp only[go_sem,aG,cf,bt,ay];obtain⟨H1,hH1⟩:∃ H1,H1=ext H [.arr 0 35 [aa g,.vec ns.length (aq ns)],.arr 0 35 [aa gm,.vec ms.length (aq ms)],.arr 0 42 [.vec cs.length (ints cs),.vec xs.length (xs.map ae)]]:=⟨_,rfl⟩
 have o1:Over H H1:=by rw[hH1];exact .ext _ _
 have l0:H1.live H.next 0=_:=aj (show H1.get H.next=some (.arr 0 35 [aa g,.vec ns.length (aq ns)]) by rw[hH1];exact cD ..);have l1:H1.live (H.next+1) 0=_:=aj (show H1.get (H.next+1)=some (.arr 0 35 [aa gm,.vec ms.length (aq ms)]) by rw[hH1];exact aY H _ 1 (by simp));have l2:H1.live (H.next+2) 0=_:=aj (show H1.get (H.next+2)=some (.arr 0 42 [.vec cs.length (ints cs),.vec xs.length (xs.map ae)]) by rw[hH1];exact aY H _ 2 (by simp));show W _ _ _ _ _ _ ⟨_,ext H [.arr 0 35 [aa g,.vec ns.length (aq ns)],.arr 0 35 [aa gm,.vec ms.length (aq ms)],.arr 0 42 [.vec cs.length (ints cs),.vec xs.length (xs.map ae)]]⟩;rw[<- hH1];obtain⟨own,hown⟩:∃ q,q=cW ns gm ms xs:=⟨_,rfl⟩
 obtain⟨oth,hoth⟩:∃ q,q=cW ms g ns xs:=⟨_,rfl⟩
 rw[<- hown]at hK ln hp;rw[<- hoth]at hK lm;obtain⟨X,hX⟩:∃ q,q=oth*1000:=⟨_,rfl⟩
 rw[<- hX]at hK;refine W.seq ?_;refine W.draw 7 [0,0,0,7,0,0,0] Try.mixed (by kernel_rfl) (by kernel_rfl) ?_;simp only[go_sem,l0,l1,l2];refine⟨ae (br (aJ 10000 own)),[],cI.pure (fun Hz=>tq g ns nok gm ms mok.g1 m6 cs xs n6 h40 nrow Hz _ ⟨by rw[hown];rfl,rfl⟩),?_⟩;simp only[go_sem];refine az.clo (tq gm ms mok g ns nok.g1 n6 cs xs m6 h40 mrow _ _ ⟨trivial,?_⟩);rw[show cK ms (g.toNat ^ ns.length) xs=oth from hoth.symm];simp only[go_sem];refine az.clo (tb (l:=aJ 10000 oth) (n:=1000) (dQ (by decide) _).lt (by decide) (by omega) _ _ ⟨trivial,?_⟩);rw[dq (by decide),<- hX];simp only[go_sem];refine W.en (fun E=>E 7=ae (br (aJ 10000 own)) /\ E 8=ae (br (aJ 10000 X))) (by simp only[go_sem]) fun E ⟨e7,e8⟩=>?_
 have lX:(aJ 10000 X).length<2 ^ 40:=by
  have h1:=nX (B:=10000) (l:=aJ 10000 oth) (dQ (by decide) _).lt;rw[dq (by decide)]at h1;have h2:X<10000 ^ ((aJ 10000 oth).length+1):=by rw[hX,Q8];exact Rr h1 (by decide) (by decide)
  have:=nY (B:=10000) (by decide) h2;omega
 have lM:∀ m,m<=1000000->(aJ 10000 (own*m)).length<2 ^ 40:=fun m hm=>by
  have h1:=nX (B:=10000) (l:=aJ 10000 own) (dQ (by decide) _).lt;rw[dq (by decide)]at h1;have h2:own*m<10000 ^ ((aJ 10000 own).length+2):=by
   rw[Nat.pow_add];exact Rr h1 (by omega) (by decide)
  have:=nY (B:=10000) (by decide) h2;omega
 refine W.sq ?_;simp only[go_sem];refine W.en (fun E1=>E1 7=ae (br (aJ 10000 own)) /\ E1 8=ae (br (aJ 10000 X)) /\ E1 9=aa 0 /\ E1 10=aa 1000000) (by simp only[go_sem,e7,e8]) fun E1 ⟨f7,f8,f9,f10⟩=>?_
 refine W.seq (W.block ?_);refine W.aN 274875813376 (by kernel_rfl) (fun ρ Hx=>Hx=H1/\∃ lo hi:Nat,ρ 9=aa lo/\ρ 10=aa hi/\lo<=hi/\hi<=1000000/\own*lo<=X/\(hi=1000000\/X<own*(hi+1))) (fun ρ Hx=>(iv (ρ 10)).toNat - (iv (ρ 9)).toNat) ?_ ?_
 ·exact⟨rfl,0,1000000,f9,f10,by omega,by omega,by simp,.inl rfl⟩
 rintro ρ Hx ⟨hHx,lo,hi,h9,h10,hlh,hhi,hlo,hup⟩;rw[hHx];clear hHx;refine W.en (fun E2=>E2 7=ae (br (aJ 10000 own)) /\ E2 8=ae (br (aJ 10000 X)) /\ E2 9=aa lo /\ E2 10=aa hi) (by simp only[go_sem,f7,f8,h9,h10]) fun E2 ⟨a7,a8,a9,a10⟩=>?_
 by_cases hb:(lo:Int)<hi;rotate_left
 ·refine W.vs ?_;simp only[go_sem,a9,a10,hb];refine W.vs ?_;simp only[go_sem,a9];have e:lo=hi:=by omega
  rw[<- e]at hup;rw[<- A6 hp hlo (by omega) hup]at hK;exact av.bq aK hcl o1 (.lit _) hK
 obtain⟨mid,hmid⟩:∃ q,q=(lo+hi+1) / 2:=⟨_,rfl⟩
 have w1:=Ps ((lo:Int)+hi) (by omega);have w2:=Ps ((lo:Int)+hi+1) (by omega);have td:((lo:Int)+hi+1).tdiv 2=mid:=by rw[Qu (by omega),hmid];omega
 have w3:=Ps (mid:Int) (by omega);have w4:=Ps ((mid:Int) - 1) (by omega);refine W.vs ?_;simp only[go_sem,a7,a9,a10,hb,w1,w2,td,w3];refine az.clo (tb (l:=aJ 10000 own) (n:=mid) (dQ (by decide) _).lt (by omega) (by omega) _ _ ⟨trivial,?_⟩);rw[dq (by decide)];simp only[go_sem,a8];refine az.clo (AO (B:=10000) (by decide) (dQ (by decide) (own*mid)) (dQ (by decide) X) (lM mid (by omega)) lX _ _ ⟨trivial,?_⟩);rw[dq (by decide),dq (by decide)];by_cases hc:own*mid<=X
 ·have hc':=wK.2 hc;simp only[go_sem,hc'];exact⟨⟨mid,hi,rfl,a10,by omega,hhi,hc,hup⟩,by rw[h9,h10,a10];simp only[aa,aW];omega⟩
 ·have hc':¬ eU (own*mid) X<=0:=fun h=>hc (wK.1 h);simp only[go_sem,hc',w4];exact⟨⟨lo,mid - 1,a9,by congr 2;omega,by omega,by omega,hlo,.inr (by rw[show mid - 1+1=mid by omega];omega)⟩,by rw[h9,h10,a9];simp only[aa,aW];omega⟩
end Go.Proofs
namespace Go.Hx
variable {P:Program} {G:Nat->Option (List AVal)} {Γ Γ':aw} {H H':AHeap} {w w':World}
inductive Ids (K:Nat->Prop):AVal->Prop
 | lit (v:Value):Ids K (.lit v)
 | vec {n:Nat} {c:List AVal} (h:∀ i (h:i<c.length),Ids K c[i]):Ids K (.vec n c)
 | vptr {n:Nat} {c:List AVal} (h:∀ i (h:i<c.length),Ids K c[i]):Ids K (.vptr c n)
 | agg {c:List AVal} (h:∀ i (h:i<c.length),Ids K c[i]):Ids K (.agg c)
 | tup {c:List AVal} (h:∀ i (h:i<c.length),Ids K c[i]):Ids K (.tup c)
 | clo {f:FuncId} {a b:List AVal} (h1:∀ i (h:i<a.length),Ids K a[i]) (h2:∀ i (h:i<b.length),Ids K b[i]):Ids K (.clo f a b)
 | own {id g o l z:Nat} (h:K id):Ids K (.own id g o l z)
 | ptr {id g o:Nat} (h:K id):Ids K (.ptr id g o)
 | yld {id:Nat} (h:K id):Ids K (.yld id)
theorem Ids.Bv {v:AVal}{cv:Value}(h:RelV P Γ H w v cv):Ids (fun id=>id<H.next/\H.get id≠some .rsv) v:=by
 induction h with
 | lit v=>exact .lit v
 | vec0 a cap=>exact .vec fun i h=>absurd h (PL _)
 | vec hb hlt hlen hcs hcell hrel ih=>exact .vec fun i h=>ih i h (by omega)
 | own h=>exact .own ⟨h.1,h.2.2.1⟩
 | ptr h=>exact .ptr ⟨h.1,h.2.2.1⟩
 | vptr hb hlt hcs hcell hrel ih=>exact .vptr fun i h=>ih i h (by omega)
 | agg hcs hrel ih=>exact .agg fun i h=>ih i h (by omega)
 | tup hcs hrel ih=>exact .tup fun i h=>ih i h (by omega)
 | clo hfs hcs hf hc ih1 ih2=>exact .clo (fun i h=>ih1 i h (by omega)) fun i h=>ih2 i h (by omega)
 | yld h=>exact .yld ⟨h.1,h.2.2.1⟩
theorem Ids.sound {K:Nat->Prop}{Γ₁ Γ₂:aw}{H₁ H₂:AHeap}(hK:∀ id,K id->H₂.get id=H₁.get id/\Γ₂ id=Γ₁ id/\id<H₂.next)(ho:∀ b,Γ₂.dz b->Γ₁.dz b){v:AVal}(h:Ids K v):
  ∀ {cv:Value},RelV P Γ₁ H₁ w v cv->RelV P Γ₂ H₂ w v cv:=by
 induction h with
 | lit v=>intro cv h;cases h;exact .lit _
 | vec _ ih =>
  intro cv h;cases h with
  | vec0 a cap=>exact .vec0 a cap
  | vec hb hlt hlen hcs hcell hrel=>exact .vec (fun h=>hb (ho _ h)) hlt hlen hcs hcell fun i h1 h2=>ih i h1 (hrel i h1 h2)
 | vptr _ ih=>intro cv h;cases h with|vptr hb hlt hcs hcell hrel=>exact .vptr (fun h=>hb (ho _ h)) hlt hcs hcell fun i h1 h2=>ih i h1 (hrel i h1 h2)
 | agg _ ih=>intro cv h;cases h with|agg hcs hrel=>exact .agg hcs fun i h1 h2=>ih i h1 (hrel i h1 h2)
 | tup _ ih=>intro cv h;cases h with|tup hcs hrel=>exact .tup hcs fun i h1 h2=>ih i h1 (hrel i h1 h2)
 | clo _ _ ih1 ih2=>intro cv h;cases h with|clo hfs hcs hf hc=>exact .clo hfs hcs (fun i h1 h2=>ih1 i h1 (hf i h1 h2)) fun i h1 h2=>ih2 i h1 (hc i h1 h2)
 | own h =>
  intro cv hv;cases hv with
  | own hv =>
   obtain⟨a,b,c,d⟩:=hv;obtain⟨e1,e2,e3⟩:=hK _ h;refine .own ⟨e3,b,by rw[e1];exact c,fun g e cells hg=>?_⟩;rw[e1]at hg;rw[e2];exact d g e cells hg
 | ptr h =>
  intro cv hv;cases hv with
  | ptr hv =>
   obtain⟨a,b,c,d⟩:=hv;obtain⟨e1,e2,e3⟩:=hK _ h;refine .ptr ⟨e3,b,by rw[e1];exact c,fun g e cells hg=>?_⟩;rw[e1]at hg;rw[e2];exact d g e cells hg
 | yld h =>
  intro cv hv;cases hv with
  | yld hv =>
   obtain⟨a,b,c,d,e⟩:=hv;obtain⟨e1,e2,e3⟩:=hK _ h;refine .yld ⟨e3,b,by rw[e1];exact c,fun st pend n env ps asg body hg=>?_,fun es hg=>?_⟩
   ·rw[e1]at hg;rw[e2];exact d st pend n env ps asg body hg
   ·rw[e1]at hg;rw[e2];exact e es hg
theorem NF {f:FuncId}{args:List AVal}{g n sz:Nat}{e:TypeId}{cells:List AVal}{rs:List Nat}(hrs:∀ r,r∈rs->r<H.next)(hcl:∀ i (h:i<cells.length),Ids (fun _=>False) cells[i])
  (hcall:∀ H2:AHeap,(∀ r,r∈rs->H2.get r=H.get r)->ab P G f args H2 fun r H'=>r=.ret (.own H2.next g 0 n sz)/\H'=ext H2 [.arr g e cells]):
  Ev.gW P G (.clo f [] []) args H (.own H.next g 0 n sz) (Ev.dV H.next (H.next+1) (fun _=>true) (ext ⟨fun _=>none,H.next⟩ [.arr g e cells]).get) 1 ⟨Ev.j9 H.next (H.next+1),rs⟩:=by
 have hnew:Ev.dV H.next (H.next+1) (fun _=>true) (ext ⟨fun _=>none,H.next⟩ [.arr g e cells]).get H.next=some (.arr g e cells):=by
  unfold Ev.dV;rw[Pv ⟨Nat.le_refl _,QU _⟩,Pv rfl];exact cJ (H:=⟨fun _=>none,H.next⟩)
 have hout:∀ r,r≠H.next->Ev.dV H.next (H.next+1) (fun _=>true) (ext ⟨fun _=>none,H.next⟩ [.arr g e cells]).get r=none:=fun r hr=>by
  unfold Ev.dV;rw[Pt (by omega)]
 refine⟨hrs,fun r hr=>?_,fun c hc=>?_,fun H2 hag hres hn2=>az.clo ⟨?_,fun Γ w cargs R hr=>?_⟩⟩
 ·have:r=H.next:=P5 fun h=>by rw[hout r h]at hr;cases hr
  subst this;exact⟨Ev.xO (Nat.le_refl _) (QU _),.inr ⟨Nat.le_refl _,QU _⟩⟩
 ·obtain rfl:c=0:=by omega
  rw[show H.next+0=H.next from rfl,hnew];rfl
 ·exact(hcall H2 hag).1
 have hrid:H2.get H.next=some .rsv:=hres 0 (by omega);rw[List.nil_append,List.append_nil]at hr;refine((hcall H2 hag).2 Γ w cargs R hr).mono ?_;rintro x w' ⟨r,H',Γ',hend,⟨rfl,rfl⟩,R',E,hn⟩;obtain⟨H3,hH3⟩:∃ H3:AHeap,H3=⟨Ev.bP (Ev.dV H.next (H.next+1) (fun _=>true) (ext ⟨fun _=>none,H.next⟩ [.arr g e cells]).get) H2.get,H2.next⟩:=⟨_,rfl⟩
 have h3n:H3.next=H2.next:=by rw[hH3]
 have h3r:H3.get H.next=some (.arr g e cells):=by rw[hH3];show Ev.bP _ _ _=_;unfold Ev.bP;rw[hnew]
 have h3o:∀ r,r≠H.next->H3.get r=H2.get r:=fun r h=>by rw[hH3];show Ev.bP _ _ _=_;unfold Ev.bP;rw[hout r h]
 have hxo:∀ r,r<H2.next->(ext H2 [.arr g e cells]).get r=H2.get r:=fun r h=>bY H2 _ r h;have hxn:(ext H2 [.arr g e cells]).get H2.next=some (.arr g e cells):=cJ;have hxf:∀ r,H2.next<r->(ext H2 [.arr g e cells]).get r=none:=fun r h=>by
  cases hg:(ext H2 [.arr g e cells]).get r with
  | none=>rfl
  | some b=>have:=R'.next r b hg;rw[show (ext H2 [.arr g e cells]).next=H2.next+1 from rfl]at this;omega
 have h2f:∀ r,H2.next<=r->H2.get r=none:=fun r h=>by
  cases hg:H2.get r with
  | none=>rfl
  | some b=>have:=R.next r b hg;omega
 obtain⟨Γ3,hΓ3⟩:∃ Γ3:aw,Γ3=fun id=>if id=H.next then Γ' H2.next else if id=H2.next then none else Γ' id:=⟨_,rfl⟩
 have g3r:Γ3 H.next=Γ' H2.next:=by rw[hΓ3];exact Pv rfl
 have g3n:Γ3 H2.next=none:=by rw[hΓ3];show (if _ then _ else if _ then _ else _)=_;rw[Pt (by omega),Pv rfl]
 have g3o:∀ id,id≠H.next->id≠H2.next->Γ3 id=Γ' id:=fun id h1 h2=>by rw[hΓ3];show (if _ then _ else if _ then _ else _)=_;rw[Pt h1,Pt h2]
 have hΓrid:Γ' H.next=none:=R'.rsv _ (by rw[hxo _ (by omega)];exact hrid);have back:∀ id x,Γ3 id=some x->∃ id',Γ' id'=some x/\((id=H.next/\id'=H2.next)\/(id≠H.next/\id≠H2.next/\id'=id)):=fun id x h=>by
  by_cases h1:id=H.next
  ·subst h1;rw[g3r]at h;exact⟨_,h,.inl ⟨rfl,rfl⟩⟩
  ·by_cases h2:id=H2.next
   ·subst h2;rw[g3n]at h;cases h
   ·rw[g3o id h1 h2]at h;exact⟨_,h,.inr ⟨h1,h2,rfl⟩⟩
 have ho:∀ b,Γ3.dz b->Γ'.dz b:=fun b ⟨id,base,m,h⟩=>let ⟨id',h',_⟩:=back _ _ h;⟨id',base,m,h'⟩
 have hΓold:∀ id,id<H2.next->id≠H.next->∀ b,H2.get id=some b->b≠.rsv->Γ' id=Γ' id:=fun _ _ _ _ _ _=>rfl;have hKs:∀ id,(id<H2.next/\H2.get id≠some .rsv)->H3.get id=(ext H2 [.arr g e cells]).get id/\Γ3 id=Γ' id/\id<H3.next:=fun id ⟨h1,h2⟩=>by
  have hne:id≠H.next:=fun h=>h2 (h ▸ hrid);exact⟨(h3o id hne).trans (hxo id h1).symm,g3o id hne (by omega),by omega⟩
 have hEE:Evo Γ H2 w Γ3 H3 w':=by
  refine⟨E.os,E.tape,E.output,E.size,fun b hb hno=>⟨(E.keep b hb hno).1,fun h=>(E.keep b hb hno).2 (ho b h)⟩,fun id h1 h2 x' hx'=>?_,E.frz⟩;by_cases hid:id=H.next
  ·subst hid;exact⟨.rsv,hrid,trivial⟩
  ·rw[h3o id hid]at hx';obtain⟨x,hx,hle⟩:=E.live id h1 (by rw[show (ext H2 [.arr g e cells]).next=H2.next+1 from rfl];omega) x' (by rw[hxo id h1];exact hx');refine⟨x,hx,?_⟩;have:=g3o id hid (by omega);cases x<;>cases x'<;>simp only[Blk.le,this]at hle ⊢<;>exact hle
 have cellok:∀ (cs:List AVal) (w0:World),(∀ i (h:i<cs.length),Ids (fun id=>id<H2.next/\H2.get id≠some .rsv) cs[i])->∀ i (h:i<cs.length) cv,RelV P Γ' (ext H2 [.arr g e cells]) w0 cs[i] cv->RelV P Γ3 H3 w0 cs[i] cv:=fun cs w0 hc i h cv hv=>(hc i h).sound hKs ho hv;have oldIds:∀ id g0 e0 c0,H2.get id=some (.arr g0 e0 c0)->∀ i (h:i<c0.length),Ids (fun id=>id<H2.next/\H2.get id≠some .rsv) c0[i]:=fun id g0 e0 c0 hg i hi=>by
  have h1:=R.arr id g0 e0 c0 hg;cases hΓ:Γ id with
  | none=>rw[hΓ]at h1;rw[h1]at hi;exact absurd hi (PL _)
  | some y =>
   obtain⟨b,base,m⟩:=y;rw[hΓ]at h1;obtain⟨c,a1,a2,a3,a4⟩:=h1;obtain⟨cv,_,b2⟩:=a4 i hi;exact .Bv b2
 have arrC:∀ id id' g0 e0 c0,Γ3 id=Γ' id'->(ext H2 [.arr g e cells]).get id'=some (.arr g0 e0 c0)->(∀ i (h:i<c0.length),Ids (fun id=>id<H2.next/\H2.get id≠some .rsv) c0[i])->(match Γ3 id with
   | some (b,base,n)=>∃ c,w'.heap[b]?=some (.cells c e0 (0,0))/\c.size=n/\base+c0.length<=n/\∀ i (h:i<c0.length),∃ cv,c[base+i]?=some cv/\RelV P Γ3 H3 w' c0[i] cv
   | none=>c0=[]):=fun id id' g0 e0 c0 hΓ hg hc=>by
  have h1:=R'.arr id' g0 e0 c0 hg;rw[hΓ];cases hΓ':Γ' id' with
  | none=>rw[hΓ']at h1;exact h1
  | some y =>
   obtain⟨b,base,m⟩:=y;rw[hΓ']at h1;obtain⟨c,a1,a2,a3,a4⟩:=h1;exact⟨c,a1,a2,a3,fun i hi=>let ⟨cv,b1,b2⟩:=a4 i hi;⟨cv,b1,cellok c0 w' hc i hi cv b2⟩⟩
 have R3:RelH P G Γ3 H3 w':=by
  refine⟨fun id g0 e0 c0 hg=>?_,fun id st pend m env ps asg body hg=>?_,fun id es hg=>?_,fun id hg=>?_,fun id id' b base m base' m' h h'=>?_,fun id y h=>?_,fun id b base m h=>?_,fun id y h=>?_,fun g0 c0 h=>?_,R'.gsz⟩
  ·by_cases hid:id=H.next
   ·subst hid;rw[h3r]at hg;cases hg;exact arrC _ H2.next g e cells g3r hxn fun i hi=>by
     have:∀ v,Ids (fun _=>False) v->Ids (fun id=>id<H2.next/\H2.get id≠some .rsv) v:=fun v hv=>by
      induction hv with
      | lit v=>exact .lit v
      | vec _ ih=>exact .vec ih
      | vptr _ ih=>exact .vptr ih
      | agg _ ih=>exact .agg ih
      | tup _ ih=>exact .tup ih
      | clo _ _ i1 i2=>exact .clo i1 i2
      | own h=>exact h.elim
      | ptr h=>exact h.elim
      | yld h=>exact h.elim
     exact this _ (hcl i hi)
   ·rw[h3o id hid]at hg;have hlt:=R.next id _ hg;exact arrC id id g0 e0 c0 (g3o id hid (by omega)) (by rw[hxo id hlt];exact hg) (oldIds id g0 e0 c0 hg)
  ·have hid:id≠H.next:=fun h=>by subst h;rw[h3r]at hg;cases hg
   rw[h3o id hid]at hg;have hlt:=R.next id _ hg;obtain⟨b0,r0,p1,p2,p3,p4,p5,p6,p7,p8,p9⟩:=R.loop id st pend m env ps asg body hg;obtain⟨b,r,a1,a2,a3,a4,a5,a6,a7,a8,a9⟩:=R'.loop id st pend m env ps asg body (by rw[hxo id hlt];exact hg);exact⟨b,r,by rw[g3o id hid (by omega)];exact a1,a2,a3,a4,a5,a6,a7,a8,fun t ht=>(Ids.Bv (p9 t (by omega))).sound hKs ho (a9 t ht)⟩
  ·have hid:id≠H.next:=fun h=>by subst h;rw[h3r]at hg;cases hg
   rw[h3o id hid]at hg;have hlt:=R.next id _ hg;obtain⟨b,a1,a2⟩:=R'.mp id es (by rw[hxo id hlt];exact hg);exact⟨b,by rw[g3o id hid (by omega)];exact a1,a2⟩
  ·have hid:id≠H.next:=fun h=>by subst h;rw[h3r]at hg;cases hg
   rw[h3o id hid]at hg;have hlt:=R.next id _ hg;rw[g3o id hid (by omega)];exact R'.rsv id (by rw[hxo id hlt];exact hg)
  ·obtain⟨i1,q1,c1⟩:=back _ _ h;obtain⟨i2,q2,c2⟩:=back _ _ h';have:=R'.inj _ _ _ _ _ _ _ q1 q2;omega
  ·obtain⟨i1,q1,c1⟩:=back _ _ h;rcases c1 with ⟨rfl,_⟩|⟨h1,h2,rfl⟩
   ·exact⟨_,h3r⟩
   ·obtain⟨y',hy⟩:=R'.dom _ _ q1;have hlt:=R'.next _ _ hy;rw[show (ext H2 [.arr g e cells]).next=H2.next+1 from rfl]at hlt;exact⟨y',by rw[h3o _ h1,<- hxo _ (by omega)];exact hy⟩
  ·obtain⟨i1,q1,c1⟩:=back _ _ h;exact R'.lt _ _ _ _ q1
  ·by_cases hid:id=H.next
   ·omega
   ·rw[h3o id hid]at h;have:=R.next id _ h;omega
  ·exact(R.glob g0 c0 h).aQ hEE (by omega)
 refine⟨.ret (.own H.next g 0 n sz),H3,Γ3,?_,⟨rfl,hH3⟩,R3,hEE,by omega⟩;cases x with
 | returned cv =>
  have hv:RelV P Γ' (ext H2 [.arr g e cells]) w' (.own H2.next g 0 n sz) cv:=hend;show RelV P Γ3 H3 w' (.own H.next g 0 n sz) cv;cases hv with
  | own hv =>
   obtain⟨a,b,c,d⟩:=hv;refine .own ⟨by omega,b,by rw[h3r];simp,fun g0 e0 c0 hg=>?_⟩;rw[h3r]at hg;cases hg;rw[g3r];exact d g e cells hxn
 | _=>exact hend.elim
end Go.Hx
namespace Go.Hx
variable {P:Program} {G:Nat->Option (List AVal)} {Γ Γ':aw} {H H':AHeap} {w w':World}
theorem Ids.mono {K K':Nat->Prop}(h:∀ id,K id->K' id){v:AVal}(hv:Ids K v):Ids K' v:=by
 induction hv with
 | lit v=>exact .lit v
 | vec _ ih=>exact .vec ih
 | vptr _ ih=>exact .vptr ih
 | agg _ ih=>exact .agg ih
 | tup _ ih=>exact .tup ih
 | clo _ _ i1 i2=>exact .clo i1 i2
 | own h'=>exact .own (h _ h')
 | ptr h'=>exact .ptr (h _ h')
 | yld h'=>exact .yld (h _ h')
theorem Ids.L2 {n:Nat}{v:AVal}(hv:Below n v):Ids (fun id=>id<n) v:=by
 induction hv with
 | lit v=>exact .lit v
 | vec _ ih=>exact .vec ih
 | vptr _ ih=>exact .vptr ih
 | agg _ ih=>exact .agg ih
 | tup _ ih=>exact .tup ih
 | clo _ _ i1 i2=>exact .clo i1 i2
 | own h'=>exact .own h'
 | ptr h'=>exact .ptr h'
 | yld h'=>exact .yld h'
theorem ab.L3 {f:FuncId}{args:List AVal}{e:TypeId}{cells:List AVal}(hcl:Clo H)(hcells:∀ i (h:i<cells.length),Ids (fun _=>False) cells[i])
  (h:ab P G f args H fun r H2=>∃ id g,r=.ret (.own id g 0 cells.length 1)/\H.next<=id/\Over H H2/\H2.get id=some (.arr g e cells)):
  ab P G f args H fun r H'=>r=.ret (.own H.next 0 0 cells.length 1)/\H'=ext H [.arr 0 e cells]:=by
 refine⟨h.1,fun Γ w cargs R hr=>(h.2 Γ w cargs R hr).mono ?_⟩;rintro x w' ⟨r,H2,Γ',hend,⟨rid,g,rfl,hid,ho,hg⟩,R',E,hn⟩;obtain⟨H3,hH3⟩:∃ H3,H3=ext H [.arr 0 e cells]:=⟨_,rfl⟩
 have h3n:H3.next=H.next+1:=by rw[hH3];rfl
 have h3r:H3.get H.next=some (.arr 0 e cells):=by rw[hH3];exact cJ
 have h3o:∀ id,id<H.next->H3.get id=H.get id:=fun id h=>by rw[hH3];exact eF h
 have h3f:∀ id,H.next<id->H3.get id=none:=fun id h=>by
  cases hx:H3.get id with
  | none=>rfl
  | some b =>
   have h1:(ext H [.arr 0 e cells]).get id=H.get id:=by
    show (if H.next<=id/\id<H.next+[Blk.arr 0 e cells].length then _ else H.get id)=_;rw[Pt (by simp;omega)]
   rw[hH3,h1]at hx;have:=hcl.lt id b hx;omega
 obtain⟨Γ3,hΓ3⟩:∃ Γ3:aw,Γ3=fun id=>if id<H.next then Γ' id else if id=H.next then Γ' rid else none:=⟨_,rfl⟩
 have g3o:∀ id,id<H.next->Γ3 id=Γ' id:=fun id h=>by rw[hΓ3];exact Pv h
 have g3r:Γ3 H.next=Γ' rid:=by rw[hΓ3];show (if _ then _ else if _ then _ else _)=_;rw[Pt (RB _),Pv rfl]
 have g3f:∀ id,H.next<id->Γ3 id=none:=fun id h=>by rw[hΓ3];show (if _ then _ else if _ then _ else _)=_;rw[Pt (by omega),Pt (by omega)]
 have back:∀ id x,Γ3 id=some x->∃ id',Γ' id'=some x/\((id<H.next/\id'=id)\/(id=H.next/\id'=rid)):=fun id x h=>by
  by_cases h1:id<H.next
  ·rw[g3o id h1]at h;exact⟨id,h,.inl ⟨h1,rfl⟩⟩
  ·by_cases h2:id=H.next
   ·subst h2;rw[g3r]at h;exact⟨rid,h,.inr ⟨rfl,rfl⟩⟩
   ·rw[g3f id (by omega)]at h;cases h
 have hob:∀ b,Γ3.dz b->Γ'.dz b:=fun b ⟨id,base,m,h⟩=>let ⟨id',h',_⟩:=back _ _ h;⟨id',base,m,h'⟩
 have hKs:∀ id,id<H.next->H3.get id=H2.get id/\Γ3 id=Γ' id/\id<H3.next:=fun id h=>⟨(h3o id h).trans (ho.old id h).symm,g3o id h,by omega⟩
 have plain:∀ v,Ids (fun _=>False) v->∀ w0 cv,RelV P Γ' H2 w0 v cv->RelV P Γ3 H3 w0 v cv:=fun v hv w0 cv hr=>(hv.mono fun _ h=>h.elim).sound hKs hob hr;have old:∀ v,Below H.next v->∀ w0 cv,RelV P Γ' H2 w0 v cv->RelV P Γ3 H3 w0 v cv:=fun v hv w0 cv hr=>(Ids.L2 hv).sound hKs hob hr;have E3:Evo Γ H w Γ3 H3 w':=by
  refine⟨E.os,E.tape,E.output,E.size,fun b hb hno=>⟨(E.keep b hb hno).1,fun h=>(E.keep b hb hno).2 (hob b h)⟩,fun id h1 _ x' hx'=>?_,E.frz⟩;obtain⟨y,hy,hle⟩:=E.live id h1 (by omega) x' (by rw[<- (hKs id h1).1];exact hx');refine⟨y,hy,?_⟩;have:=g3o id h1;cases y<;>cases x'<;>simp only[Blk.le,this]at hle ⊢<;>exact hle
 have arrC:∀ id id' g0 e0 c0,Γ3 id=Γ' id'->H2.get id'=some (.arr g0 e0 c0)->(∀ i (h:i<c0.length) cv,RelV P Γ' H2 w' c0[i] cv->RelV P Γ3 H3 w' c0[i] cv)->(match Γ3 id with
   | some (b,base,n)=>∃ c,w'.heap[b]?=some (.cells c e0 (0,0))/\c.size=n/\base+c0.length<=n/\∀ i (h:i<c0.length),∃ cv,c[base+i]?=some cv/\RelV P Γ3 H3 w' c0[i] cv
   | none=>c0=[]):=fun id id' g0 e0 c0 hΓ hg' hc=>by
  have h1:=R'.arr id' g0 e0 c0 hg';rw[hΓ];cases hΓ':Γ' id' with
  | none=>rw[hΓ']at h1;exact h1
  | some y =>
   obtain⟨b,base,m⟩:=y;rw[hΓ']at h1;obtain⟨c,a1,a2,a3,a4⟩:=h1;exact⟨c,a1,a2,a3,fun i hi=>let ⟨cv,b1,b2⟩:=a4 i hi;⟨cv,b1,hc i hi cv b2⟩⟩
 have lt3:∀ id y,H3.get id=some y->id<H.next\/id=H.next:=fun id y h=>by
  rcases QN id H.next with h1|h1|h1
  ·exact .inl h1
  ·exact .inr h1
  ·rw[h3f id h1]at h;cases h
 have R3:RelH P G Γ3 H3 w':=by
  refine⟨fun id g0 e0 c0 hx=>?_,fun id st pend m env ps asg body hx=>?_,fun id es hx=>?_,fun id hx=>?_,fun id id' b base m base' m' h h'=>?_,fun id y h=>?_,fun id b base m h=>?_,fun id y h=>?_,fun g0 c0 h=>?_,R'.gsz⟩
  ·rcases lt3 id _ hx with h1|rfl
   ·rw[h3o id h1]at hx;refine arrC id id g0 e0 c0 (g3o id h1) ((ho.old id h1).trans hx) fun i hi cv hv=>old _ (hcl.below id _ hx i hi) w' cv hv
   ·rw[h3r]at hx;cases hx;exact arrC _ rid g e cells g3r hg fun i hi cv hv=>plain _ (hcells i hi) w' cv hv
  ·rcases lt3 id _ hx with h1|rfl
   ·rw[h3o id h1]at hx;obtain⟨b,r,a1,a2,a3,a4,a5,a6,a7,a8,a9⟩:=R'.loop id st pend m env ps asg body ((ho.old id h1).trans hx);exact⟨b,r,by rw[g3o id h1];exact a1,a2,a3,a4,a5,a6,a7,a8,fun t ht=>old _ (hcl.below id _ hx t (by rw[<- a8];exact ht)) w' _ (a9 t ht)⟩
   ·rw[h3r]at hx;cases hx
  ·rcases lt3 id _ hx with h1|rfl
   ·rw[h3o id h1]at hx;obtain⟨b,a1,a2⟩:=R'.mp id es ((ho.old id h1).trans hx);exact⟨b,by rw[g3o id h1];exact a1,a2⟩
   ·rw[h3r]at hx;cases hx
  ·rcases lt3 id _ hx with h1|rfl
   ·rw[h3o id h1]at hx;rw[g3o id h1];exact R'.rsv id ((ho.old id h1).trans hx)
   ·rw[h3r]at hx;cases hx
  ·obtain⟨i1,q1,c1⟩:=back _ _ h;obtain⟨i2,q2,c2⟩:=back _ _ h';have:=R'.inj _ _ _ _ _ _ _ q1 q2;omega
  ·obtain⟨i1,q1,c1⟩:=back _ _ h;rcases c1 with ⟨h1,rfl⟩|⟨rfl,rfl⟩
   ·obtain⟨y',hy⟩:=R'.dom _ _ q1;exact⟨y',((hKs _ h1).1).trans hy⟩
   ·exact⟨_,h3r⟩
  ·obtain⟨i1,q1,c1⟩:=back _ _ h;exact R'.lt _ _ _ _ q1
  ·rcases lt3 id _ h with h1|rfl<;>omega
  ·exact(R.glob g0 c0 h).aQ E3 (by omega)
 refine⟨.ret (.own H.next 0 0 cells.length 1),H3,Γ3,?_,⟨rfl,hH3⟩,R3,E3,by omega⟩;cases x with
 | returned cv =>
  have hv:RelV P Γ' H2 w' (.own rid g 0 cells.length 1) cv:=hend;show RelV P Γ3 H3 w' (.own H.next 0 0 cells.length 1) cv;cases hv with
  | own hv =>
   obtain⟨a,b,c,d⟩:=hv;refine .own ⟨by omega,b,by rw[h3r];simp,fun g0 e0 c0 hx=>?_⟩;rw[h3r]at hx;cases hx;rw[g3r];exact⟨Nat.le_refl _,fun _=>(d g e cells hg).2 rfl⟩
 | _=>exact hend.elim
end Go.Hx
namespace Go.Hx
variable {P:Program} {G:Nat->Option (List AVal)} {all:Array Oper} {tail:St->Prop} {b i:Nat} {bs:List Nat} {acc:List (Nat × FP)} {K:FP->St->Prop} {s:St} {d:Option Tmp} {ty:TypeId} {pos:String} {aft:Array Edge} {g:Option (Nat × Bool)}
theorem Mp (bs:List Nat):Ev.cP P G all tail bs i acc [] s=tail s:=by cases bs<;>rfl
theorem Mq (op:Op)(rest:List Oper):Ev.cP P G all tail (b :: bs) i acc (⟨d,op,ty,pos,aft,none⟩ :: rest) s =
  Ev.bI P G ⟨d,op,ty,pos,aft,none⟩ (fun f s'=>eQ b f acc/\Ev.cP P G all tail bs (i+1) (db i f acc) rest s') s:=by
 simp [Ev.cP,dM,aT]
theorem Mr (fv:Operand)(args:Array Operand)(ats:Array TypeId):Ev.bI P G ⟨d,.call ⟨.value fv,args,ats⟩,ty,pos,aft,g⟩ K s =
  ∃ v e k f,Ev.gW P G (ah G s.ρ fv) (args.toList.map (ah G s.ρ)) s.H v e k f/\K f ⟨aE s.ρ d v,⟨Ev.bP e s.H.get,s.H.next+k⟩⟩:=rfl
theorem Ms (t:TypeId)(x:Operand):Ev.bI P G ⟨d,.load t x,ty,pos,aft,g⟩ K s=bI P G ⟨d,.load t x,ty,pos,aft,g⟩ K s:=rfl
theorem Mt (a:Nat):Ev.j9 a (a+1)=[a]:=by
 unfold Ev.j9;rw[Rb];simp [Qx]
theorem Mu {H:AHeap}{bk:Blk}:(⟨Ev.bP (Ev.dV H.next (H.next+1) (fun _=>true) (ext ⟨fun _=>none,H.next⟩ [bk]).get) H.get,H.next+1⟩:AHeap)=ext H [bk]:=by
 unfold ext;simp only[QY];congr 1
 funext j
 unfold Ev.bP Ev.dV;by_cases h:H.next<=j/\j<H.next+1
 ·have:j=H.next:=by omega
  subst this;simp
 ·simp [h]
theorem aA.Mv {lo k g':Nat}{H:AHeap}{e e':TypeId}{v:AVal}{cs c:List AVal}(h:aA lo H e v cs)(hk:H.get k=some (.arr g' e' c))(hne:e'≠e):∀ g n,v≠.own k g 0 n 1:=fun g n hv=>by
 rcases h with ⟨h1,_⟩|⟨i,g2,_,_,h3,h4⟩
 ·rw[h1]at hv;cases hv
 ·rw[h3]at hv;obtain rfl:=(AVal.own.inj hv).1;rw[h4]at hk;cases hk;exact hne rfl
theorem Mw (t:TypeId):Ev.bI P G ⟨d,.alloc t,ty,pos,aft,g⟩ K s=bI P G ⟨d,.alloc t,ty,pos,aft,g⟩ K s:=rfl
end Go.Hx
namespace Go.Hx
theorem LN {P:Program}{t:TypeId}{x y:Operand}{k':IntKind}{a:Int}(h:0<=a):aX P .shr t x y (.lit (.int .u64 a)) (.lit (.int k' 1))=some (.lit (.int .u64 (a / 2))):=by
 rw[qB (by decide)];have e:a.fdiv (2 ^ (min (1:Int).toNat (IntKind.bits .u64)))=a / 2:=RT a (by decide);rw[e]
end Go.Hx
namespace Go.Proofs
open Go.Hx
set_option maxHeartbeats 4000000 in
theorem LO {own X b9 b10:Nat}(hp:0<own)(lo1:(aJ 18446744073709551616 own).length<2 ^ 36)(lX:(aJ 18446744073709551616 X).length<2 ^ 37)(q:Nat)(hq:q<1000000)(H:AHeap)(g9:H.get b9=some (.arr 0 100 [cu (aJ 18446744073709551616 own)]))(g10:H.get b10=some (.arr 0 100 [cu (aJ 18446744073709551616 X)]))(hb9:b9<H.next)(hb10:b10<H.next)
  (K:ARes->AHeap->Prop) (hK:K (.ret (.lit (.bool (decide (X<own*(q+1)))))) H):ab Try.prog G0 54 [aa q,.ptr b9 0 0,.ptr b10 0 0] H K:=by
 refine ab.clo ⟨_,Try.func54,rfl,rfl⟩ fun hcl=>?_;have hB:2<=18446744073709551616:=by decide
 have l9:=aj g9;obtain⟨D,hD⟩:∃ D,D=aJ 18446744073709551616 own:=⟨_,rfl⟩
 rw[<- hD]at l9 g9 lo1;have Dn:NormD 18446744073709551616 D:=by rw[hD];exact dQ hB _
 have Dv:aH 18446744073709551616 D=own:=by rw[hD,dq hB]
 have Dne:D≠[]:=fun e=>by rw[e]at Dv;have:aH 18446744073709551616 []=0:=rfl;omega
 have l9E:∀ L,(ext H L).live b9 0=_:=fun L=>(dF hb9).trans l9;have rz:List.replicate 0 (AVal.lit (.int .u64 0))=[]:=rfl;have Dl:(D.map aV).length=D.length:=Px ..;obtain⟨sl,H2,hA,hO,hn2,hp2⟩:=pE (P:=Try.prog) (H:=ext H [.arr 0 104 []]) (t:=100) (e:=104) (lo:=H.next) (v:=.own H.next 0 0 0 1) (cs:=[]) (src:=D.map aV) (n:=H.next+1) Try.underlying100 Try.wS Try.wU (by rw[List.all_map,PX];intro y _;rfl) (by rw[Try.wT,Dl];simp;omega) (aA.new (H:=H) (cs:=[])) (by rw[bb];simp) (by rw[bb];simp);rw[Dl]at hA;rw[bb]at hn2;simp only[List.length_cons,List.length_nil,List.nil_append]at hn2 hO;have so:=hO.one;have sc:=hO.cells;refine ab.fS (n:=17) (rs:=[.tmp 4]) Try.func54 rfl rfl rfl (by decide) (by simp) ?_;refine W.sq ?_;simp only[go_sem];refine W.sq ?_;simp only[go_sem,l9E,rz,hA,so,sc];obtain⟨H3,hH3⟩:∃ H3,H3=ext H2 [.arr 0 100 [sl]]:=⟨_,rfl⟩
 have n3:H3.next=H2.next+1:=by rw[hH3];rfl
 have g5:H3.get H2.next=some (.arr 0 100 [sl]):=by rw[hH3];exact cJ
 have o3:∀ id,id<H.next->H3.get id=H.get id:=fun id h=>by
  rw[hH3,eF (by omega),hp2 id (by rw[bb];simp;omega) fun g' n' e=>by cases e;omega];exact eF h
 have hO3:aA H.next H3 104 sl (D.map aV):=by rw[hH3];exact hO.over (.ext _ _)
 refine W.en (fun E=>E 0=aa q /\ E 2=.ptr b10 0 0 /\ E 5=.ptr H2.next 0 0) (by simp only[go_sem]) fun E ⟨e0,e2,e5⟩=>?_
 rw[<- hH3];clear hH3;have u1:=P8 (q:Int) (by omega);have u2:=P8 ((q:Int)+1) (by omega);refine W.sq ?_;simp only[go_sem,e0,e5,u1,u2];refine az.clo (tn (lo:=H.next) (b:=H2.next) (w:=q+1) (by omega) Dn (by omega) H3 (by omega) (by omega) g5 hO3 (fun e=>absurd e Dne) _ fun H4 sl4 hn4 old4 g4 hO4 _=>⟨trivial,?_⟩);rw[Dv]at hO4;have o4:∀ id,id<H.next->H4.get id=H.get id:=fun id h=>(old4 id (by omega) (by omega) (aA.tv hO3 h)).trans (o3 id h);have l5:=aj g4;have l10:=aj ((o4 b10 hb10).trans g10);have lM:(aJ 18446744073709551616 (own*(q+1))).length<2 ^ 40:=by
  have h1:=nX Dn.lt;rw[Dv]at h1;have h2:own*(q+1)<18446744073709551616 ^ (D.length+1):=by rw[Q8];exact Rr h1 (by omega) (by decide)
  have:=nY hB h2;omega
 simp only[go_sem];refine W.vs ?_;simp only[go_sem,e5,e2,l5,l10];have ov4:Over H H4:=⟨by omega,o4⟩
 refine az.uS H.next (args':=[cu (aJ 18446744073709551616 (own*(q+1))),cu (aJ 18446744073709551616 X)]) aK rfl (fun j hj _=>match j,hj with
  | 0,_=>hO4.xm fun i hi=>hi
  | 1,_=>.vec rfl fun i hi _=>by simp only[PB];exact .lit _) (AQ hB (dQ hB _) (dQ hB _) lM (by omega) _ _ ⟨trivial,?_⟩)
 rw[dq hB,dq hB];have ov5:Over H (H4.cut H.next):=ov4.cut;by_cases hc:X<own*(q+1)
 ·rw[pW hc];rw[QL hc]at hK;simp only[go_sem];exact av.bq aK hcl ov5 (.lit _) hK
 ·have h1:¬ eU (own*(q+1)) X > 0:=by have:=wK.2 (show own*(q+1)<=X by omega);omega
  rw[Q1 hc]at hK;simp only[go_sem,h1];exact av.bq aK hcl ov5 (.lit _) hK
set_option maxHeartbeats 2000000 in
theorem LP {own X b9 b10:Nat}(hp:0<own)(lo1:(aJ 18446744073709551616 own).length<2 ^ 36)(lX:(aJ 18446744073709551616 X).length<2 ^ 37)(H:AHeap)(g9:H.get b9=some (.arr 0 100 [cu (aJ 18446744073709551616 own)]))(g10:H.get b10=some (.arr 0 100 [cu (aJ 18446744073709551616 X)]))(hb9:b9<H.next)(hb10:b10<H.next)
  (K:ARes->AHeap->Prop) (hK:K (.ret (aa (n7 own X))) H):ab Try.prog G0 53 [aa 1000000,.clo 54 [] [.ptr b9 0 0,.ptr b10 0 0]] H K:=by
 refine ab.fS (n:=26) (rs:=[.tmp 4]) Try.func53 rfl rfl rfl (by decide) (by simp) ?_;refine W.sq ?_;simp only[go_sem];refine W.sq ?_;simp only[go_sem];refine W.en (fun E=>E 1=.clo 54 [] [.ptr b9 0 0,.ptr b10 0 0] /\ E 5=aa 0 /\ E 6=aa 1000000) (by simp only[go_sem]) fun E ⟨e1,e5,e6⟩=>?_
 refine W.seq (W.block ?_);refine W.aN 33554144 (by kernel_rfl) (fun ρ Hx=>Hx=H/\∃ i j:Nat,ρ 5=aa i/\ρ 6=aa j/\i<=j/\j<=1000000/\own*i<=X/\(j=1000000\/X<own*(j+1))) (fun ρ Hx=>(iv (ρ 6)).toNat - (iv (ρ 5)).toNat) ?_ ?_
 ·exact⟨rfl,0,1000000,e5,e6,by omega,by omega,by simp,.inl rfl⟩
 rintro ρ Hx ⟨hHx,i,j,h5,h6,hij,hj,hi,hup⟩;rw[hHx];clear hHx;refine W.en (fun E1=>E1 1=.clo 54 [] [.ptr b9 0 0,.ptr b10 0 0] /\ E1 5=aa i /\ E1 6=aa j) (by simp only[go_sem,e1,h5,h6]) fun E1 ⟨f1,f5,f6⟩=>?_
 by_cases hb:(i:Int)<j;rotate_left
 ·refine W.vs ?_;simp only[go_sem,f5,f6,hb];refine W.vs ?_;simp only[go_sem,f5];have e:i=j:=by omega
  rw[<- e]at hup;rw[<- A6 hp hi (by omega) hup]at hK;exact av.mk (Nat.le_refl _) hK
 obtain⟨m,hm⟩:∃ q,q=(i+j) / 2:=⟨_,rfl⟩
 have w1:=Ps ((i:Int)+j) (by omega);have w2:=P8 ((i:Int)+j) (by omega);have hs:∀ (t:TypeId) (x y:Operand) (k':IntKind),aX Try.prog .shr t x y (.lit (.int .u64 ((i:Int)+j))) (.lit (.int k' 1))=some (.lit (.int .u64 (m:Int))):=fun t x y k'=>by rw[LN (by omega),hm];congr 3
 have w3:=Ps (m:Int) (by omega);have w4:=Ps ((m:Int)+1) (by omega);refine W.vs ?_;simp only[go_sem,f1,f5,f6,hb,w1,w2,hs,w3];refine az.clo (LO hp lo1 lX m (by omega) H g9 g10 hb9 hb10 _ ⟨trivial,?_⟩);by_cases hc:X<own*(m+1)
 ·rw[QL hc];simp only[go_sem];exact⟨⟨i,m,f5,rfl,by omega,by omega,hi,.inr hc⟩,by rw[h5,h6,f5];simp only[aa,aW];omega⟩
 ·rw[Q1 hc];simp only[go_sem,w4];exact⟨⟨m+1,j,rfl,f6,by omega,hj,by omega,hup⟩,by rw[h5,h6,f6];simp only[aa,aW];omega⟩
noncomputable def kJ (g:Int)(ns:List NodeP)(gm:Int)(ms:List NodeP)(cs:List Int)(xs:List (List Int)):AVal :=
 if iL g ns gm ms cs xs=0 then (if lT ns xs=true then .tup [aa (n7 (cW ns gm ms xs) (cW ms g ns xs*1000)),aa 0] else .tup [aa 0,aa 7]) else .tup [aa 0,aa (iL g ns gm ms cs xs)]
theorem LQ (g:Int)(ns:List NodeP)(hok:NetOk g ns)(gm:Int)(ms:List NodeP)(hm1:1<=gm/\gm<=60)(hm8:ms.length<=6)(cs:List Int)(xs:List (List Int))(h6:ns.length<=6)(h40:xs.length<=64)(hrow:∀ r∈xs,r.length=ns.length)(h0:cW ns gm ms xs=0)(H:AHeap)(K:ARes->AHeap->Prop)
  (hK:K (.ret (.lit (.slice none 0 0))) H):
  ab Try.prog G0 50 [aG g ns,aG gm ms,bt cs xs] H K :=
 ab.clo ⟨_,Try.func50,rfl,rfl⟩ fun hcl=>ab.fin (wI g ns hok gm ms hm1 hm8 cs xs h6 h40 hrow H _ fun sl Hx ho _ hz=>⟨sl,rfl,by
  rw[hz (by rw[show cK ns (gm.toNat ^ ms.length) xs=0 from h0];exact tl (by decide))];exact av.bq aK hcl ho (.lit _) hK⟩)
theorem LR {H:AHeap}(g:Int)(ns:List NodeP)(hok:NetOk g ns)(gm:Int)(ms:List NodeP)(hm1:1<=gm/\gm<=60)(hm8:ms.length<=6)(cs:List Int)(xs:List (List Int))(h6:ns.length<=6)(h40:xs.length<=64)(hrow:∀ r∈xs,r.length=ns.length){l:List Nat}(hl:l=aJ 18446744073709551616 (cW ns gm ms xs))(hne:l≠[]):
  Ev.gW Try.prog G0 (.clo 50 [] []) [.agg [.lit (.int .i64 g),.vec ns.length (aq ns)],.agg [.lit (.int .i64 gm),.vec ms.length (aq ms)],.agg [.vec cs.length (ints cs),.vec xs.length (xs.map ae)]] H (.own H.next 0 0 l.length 1) (Ev.dV H.next (H.next+1) (fun _=>true) (ext ⟨fun _=>none,H.next⟩ [.arr 0 104 (l.map aV)]).get) 1 ⟨Ev.j9 H.next (H.next+1),[]⟩:=by
 have pl:∀ i (h:i<(l.map aV).length),Ids (fun _=>False) (l.map aV)[i]:=fun i hi=>by simp only[PB];exact .lit _
 refine NF (fun r h=>by cases h) pl fun H2 _=>?_;refine ab.clo ⟨_,Try.func50,rfl,rfl⟩ fun hcl=>?_;have:=ab.L3 (P:=Try.prog) (G:=G0) (f:=50) (args:=[aG g ns,aG gm ms,bt cs xs]) (e:=104) hcl pl (wI g ns hok gm ms hm1 hm8 cs xs h6 h40 hrow H2 _ fun sl Hx ho hO _=>by
  rw[show aJ 18446744073709551616 (cK ns (gm.toNat ^ ms.length) xs)=l from hl.symm]at hO;rcases hO with ⟨_,h⟩|⟨id,g',i1,_,rfl,hg⟩
  ·exact absurd (List.map_eq_nil_iff.1 h) hne
  ·exact⟨id,g',rfl,i1,ho,hg⟩)
 rw[Px]at this;exact this
theorem LS {P:Program}{G:Nat->Option (List AVal)}{f:FuncId}{args:List AVal}{H:AHeap}{v:AVal}(h:∀ H2,ab P G f args H2 fun r H3=>r=.ret v/\H3=H2):Ev.gW P G (.clo f [] []) args H v (fun _=>none) 0 ⟨[],[]⟩ :=
 ⟨fun r hr=>(by cases hr),fun r (hr:false=true)=>absurd hr (by decide),fun c hc=>absurd hc (PL _),fun H2 _ _ _=>az.clo (by rw[List.nil_append,List.append_nil];exact h H2)⟩
theorem LU {g:Nat->Option Blk}:Ev.bP (fun _=>none) g=g:=rfl
set_option maxHeartbeats 8000000 in
theorem A8 (g:Int)(ns:List NodeP)(gm:Int)(ms:List NodeP)(cs:List Int)(xs:List (List Int))(hn:fM ns)(hm:fM ms)(hf:js cs xs)(H:AHeap)(K:ARes->AHeap->Prop)(hK:K (.ret (kJ g ns gm ms cs xs)) H):
  ab Try.prog G0 23 [aG g ns,aG gm ms,bt cs xs] H K:=by
 refine ab.clo ⟨_,Try.func23,rfl,rfl⟩ fun hcl=>?_;have fin:∀ (a b:Int) (Hx:AHeap),Over H Hx->K (.ret (.tup [aa a,aa b])) H->av Try.prog G0 H K (.tup [aa a,aa b]) Hx:=fun a b Hx ho hk=>av.bq aK hcl ho (.tup rfl fun i hi _=>match i,hi with
  | 0,_=>.lit _
  | 1,_=>.lit _) hk
 have r2:(List.replicate 2 [AVal.lit (.int .i64 0),AVal.lit (.slice none 0 0)]).flatten=[.lit (.int .i64 0),.lit (.slice none 0 0),.lit (.int .i64 0),.lit (.slice none 0 0)]:=rfl;refine ab.fS (n:=34) (rs:=[.tmp 6,.tmp 7]) Try.func23 rfl rfl rfl (by decide) (by simp) ?_;refine W.sq ?_;simp only[go_sem,aG,cf,bt,ay];refine W.sq ?_;simp only[go_sem,r2,List.drop_succ_cons,List.drop_zero];obtain⟨H1,hH1⟩:∃ H1,H1=ext H [.arr 0 35 [aa g,.vec ns.length (aq ns)],.arr 0 35 [aa gm,.vec ms.length (aq ms)],.arr 0 42 [.vec cs.length (ints cs),.vec xs.length (xs.map ae)],.arr 0 35 [aa g,.vec ns.length (aq ns),aa gm,.vec ms.length (aq ms)]]:=⟨_,rfl⟩
 have n1:H1.next=H.next+4:=by rw[hH1];rfl
 have o1:Over H H1:=by rw[hH1];exact .ext _ _
 have g0:H1.get H.next=some (.arr 0 35 [aa g,.vec ns.length (aq ns)]):=by rw[hH1];exact cD ..
 have g1:H1.get (H.next+1)=some (.arr 0 35 [aa gm,.vec ms.length (aq ms)]):=by rw[hH1];exact aY H _ 1 (by simp)
 have g2:H1.get (H.next+2)=some (.arr 0 42 [.vec cs.length (ints cs),.vec xs.length (xs.map ae)]):=by rw[hH1];exact aY H _ 2 (by simp)
 have g3:H1.get (H.next+3)=some (.arr 0 35 (dG [(g,ns),(gm,ms)])):=by rw[hH1];exact aY H _ 3 (by simp)
 show az _ _ _ _ (ext H [.arr 0 35 [aa g,.vec ns.length (aq ns)],.arr 0 35 [aa gm,.vec ms.length (aq ms)],.arr 0 42 [.vec cs.length (ints cs),.vec xs.length (xs.map ae)],.arr 0 35 [aa g,.vec ns.length (aq ns),aa gm,.vec ms.length (aq ms)]]) _;rw[<- hH1];clear hH1;have l0:=aj g0;have l1:=aj g1;have l2:=aj g2;refine az.clo ((AI [(g,ns),(gm,ms)] cs xs (fun p hp=>by
  simp only[List.mem_cons,List.not_mem_nil,or_false]at hp;rcases hp with rfl|rfl
  ·exact hn
  ·exact hm) hf (by simp) H1 g3).mono ?_)
 rintro rres Hq ⟨hrq,hHq⟩;rw[hHq,hrq];refine⟨trivial,?_⟩;unfold kJ at hK;obtain⟨e,he⟩:∃ e,e=iL g ns gm ms cs xs:=⟨_,rfl⟩
 rw[show jm [(g,ns),(gm,ms)] cs xs=e from he.symm];rw[<- he]at hK;by_cases h0:e=0;rotate_left
 ·rw[Pt h0]at hK;simp only[go_sem,h0];exact fin 0 e H1 o1 hK
 rw[Pv h0]at hK;rw[h0]at he ⊢;obtain⟨e1,e2⟩:=wJ he.symm;obtain⟨nok,_,_⟩:=lU e1;obtain⟨n6,h40,nrow⟩:=nT e1;obtain⟨mok,_,_⟩:=lU e2;obtain⟨m6,_,mrow⟩:=nT e2;have ln:=(kI nok n6 mok.g1 m6 h40 nrow).1;have lm:=(kI mok m6 nok.g1 n6 h40 mrow).1;simp only[go_sem];refine W.sq ?_;simp only[go_sem,l0,l2];refine az.clo (AB g ns nok cs xs (by omega) nrow _ _ ⟨trivial,?_⟩);simp only[go_sem];refine az.clo (KV (xs.map (dc ns)) (by rw[Px];omega) _ _ ⟨trivial,?_⟩);unfold lT at hK;by_cases hz:(0:Int)∈xs.map (dc ns)
 ·rw[Q1 (fun hh=>hh hz),Pt (by decide)]at hK;simp only[go_sem,hz];exact fin 0 7 H1 o1 hK
 rw[QL hz,Pv rfl]at hK;have hpos:=A7 nok (gm:=gm) mok.g1.1 ms nrow hz;obtain⟨own,hown⟩:∃ q,q=cW ns gm ms xs:=⟨_,rfl⟩
 obtain⟨oth,hoth⟩:∃ q,q=cW ms g ns xs:=⟨_,rfl⟩
 rw[<- hown]at hK ln hpos;rw[<- hoth]at hK lm;obtain⟨D,hD⟩:∃ D,D=aJ 18446744073709551616 own:=⟨_,rfl⟩
 have Dne:D≠[]:=fun e=>by
  have h1:=dq (B:=18446744073709551616) (by decide) own;rw[<- hD,e]at h1;have:aH 18446744073709551616 []=0:=rfl;omega
 simp only[go_sem,hz];refine W.en (fun F=>F 3=.ptr H.next 0 0 /\ F 4=.ptr (H.next+1) 0 0 /\ F 5=.ptr (H.next+2) 0 0) (by simp only[go_sem]) fun F ⟨f3,f4,f5⟩=>?_
 have f10:(0:Nat)=0:=rfl;have lD:D.length<2 ^ 36:=by rw[hD];exact ln
 have lfz:∀ (l:List Nat) (S:Nat->Prop) (Hq:AHeap) (nx:Nat),Fz S Hq nx (cu l) (cu l):=fun l S Hq nx=>.vec rfl fun i hi _=>by simp only[PB];exact .lit _
 refine W.Bd (fun s'=>∃ (b9 b10:Nat) (sl:AVal),s'.ρ 9=.ptr b9 0 0/\s'.ρ 10=.ptr b10 0 0/\Over H1 s'.H/\(H1.next<=b9/\b9<s'.H.next)/\(H1.next<=b10/\b10<s'.H.next)/\b9≠b10/\s'.H.get b9=some (.arr 0 100 [cu D])/\s'.H.get b10=some (.arr 0 100 [sl])/\aA H1.next s'.H 104 sl ((aJ 18446744073709551616 oth).map aV)/\(aJ 18446744073709551616 oth=[]->sl=.lit (.slice none 0 0))) ?_ ?_
 ·by_cases ho:aJ 18446744073709551616 oth=[]
  ·have ho0:oth=0:=by
    have h1:=dq (B:=18446744073709551616) (by decide) oth;rw[ho]at h1;exact h1.symm
   refine W.draw 10 [0,0,0,7,0,0,0,127,0,0] Try.mixed (by kernel_rfl) (by kernel_rfl) ?_;simp only[go_sem,f3,f4,f5,l0,l1,l2];refine⟨cu D,[],cI.pure (fun Hz=>tp g ns nok gm ms mok.g1 m6 cs xs n6 (by omega) nrow Hz _ ⟨by rw[hD,hown];rfl,rfl⟩),?_⟩;simp only[go_sem];refine⟨.lit (.slice none 0 0),[],cI.pure (fun Hz=>LQ gm ms mok g ns nok.g1 n6 cs xs m6 (by omega) mrow (by rw[<- hoth];exact ho0) Hz _ ⟨rfl,rfl⟩),?_⟩;have z0:(ext (ext H1 [.arr 0 100 [.lit (.slice none 0 0)]]) [.arr 0 100 [.lit (.slice none 0 0)]]).live H1.next 0=some (100,[.lit (.slice none 0 0)]):=(by rw[i9];exact aj (aY H1 _ 0 (by simp)));have z1:∀ b,((ext (ext H1 [.arr 0 100 [.lit (.slice none 0 0)]]) [.arr 0 100 [.lit (.slice none 0 0)]]).upd H1.next b).live (H1.next+1) 0=some (100,[.lit (.slice none 0 0)]):=fun b=>by rw[iq (by omega),i9];exact aj (aY H1 _ 1 (by simp))
   simp only[go_sem,z0,z1];refine⟨by repeat' (first|refine And.intro ?_ ?_|(intro x hx;omega)),by repeat' (first|refine And.intro ?_ ?_|(intro x hx;omega)),?_⟩;refine⟨H1.next,H1.next+1,.lit (.slice none 0 0),rfl,rfl,((((Over.refl H1).trans (.ext _ _)).trans (.ext _ _)).upd (by omega) _).upd (by omega) _,⟨by omega,by rw[aC,aC,bb,bb];simp;omega⟩,⟨by omega,by rw[aC,aC,bb,bb];simp⟩,by omega,by rw[ag,Pt (by omega),ag,Pv rfl],by rw[ag,Pv rfl],?_,fun _=>rfl⟩;rw[ho];exact .nil
  ·obtain⟨Q,hQ⟩:∃ Q,Q=aJ 18446744073709551616 oth:=⟨_,rfl⟩
   rw[<- hQ]at ho lm ⊢;refine Ev.W.xN 10 [0,0,0,7,0,0,0,127,0,0] Try.mixed (by kernel_rfl) (by kernel_rfl) ?_;simp only[go_sem,f3,f4,f5,l0,l1,l2,Mp,Mq,Mr,Ms,Mw];refine⟨cu D,_,_,_,LS fun Hz=>tp g ns nok gm ms mok.g1 m6 cs xs n6 (by omega) nrow Hz _ ⟨by rw[hD,hown];rfl,rfl⟩,?_⟩;simp only[go_sem,f3,f4,f5,l0,l1,l2,LU];refine⟨_,_,_,_,LR gm ms mok g ns nok.g1 n6 cs xs m6 (by omega) mrow (l:=Q) (by rw[hQ,hoth]) ho,?_⟩;obtain⟨R,hR⟩:∃ R,R=ext H1 [.arr 0 104 (Q.map aV)]:=⟨_,rfl⟩
   have nR:R.next=H1.next+1:=(by rw[hR];rfl);have oR:Over H1 R:=(by rw[hR];exact .ext _ _);have gR:R.get H1.next=some (.arr 0 104 (Q.map aV)):=(by rw[hR];exact cJ);have z0:(ext (ext R [.arr 0 100 [.lit (.slice none 0 0)]]) [.arr 0 100 [.lit (.slice none 0 0)]]).live R.next 0=some (100,[.lit (.slice none 0 0)]):=(by rw[i9];exact aj (aY R _ 0 (by simp)));have z1:∀ b,((ext (ext R [.arr 0 100 [.lit (.slice none 0 0)]]) [.arr 0 100 [.lit (.slice none 0 0)]]).upd R.next b).live (R.next+1) 0=some (100,[.lit (.slice none 0 0)]):=fun b=>by rw[iq (by omega),i9];exact aj (aY R _ 1 (by simp))
   rw[nR]at z0 z1;simp only[go_sem,Mu,Mt,<- hR,z0,z1];refine⟨by repeat' (first|refine And.intro ?_ ?_|(intro x hx;omega)),by repeat' (first|refine And.intro ?_ ?_|(intro x hx;omega)),?_⟩;refine⟨H1.next+1,H1.next+1+1,.own H1.next 0 0 Q.length 1,rfl,rfl,(((oR.trans (.ext _ _)).trans (.ext _ _)).upd (by omega) _).upd (by omega) _,⟨by omega,by rw[aC,aC,bb,bb];simp;omega⟩,⟨by omega,by rw[aC,aC,bb,bb];simp;omega⟩,by omega,by rw[ag,Pt (by omega),ag,Pv rfl],by rw[ag,Pv rfl],.inr ⟨H1.next,0,Nat.le_refl _,by rw[aC,aC,bb,bb];simp;omega,by rw[Px],?_⟩,fun e=>absurd e ho⟩;rw[ag,Pt (by omega),ag,Pt (by omega),eF (by rw[bb];simp;omega),eF (by omega)];exact gR
 ·rintro⟨F2,H3⟩ ⟨b9,b10,sl,q9,q10,ov,hb9,hb10,hne,g9,g10,hO,hz2⟩;simp only at q9 q10 ov hb9 hb10 g9 g10 hO;have h31:=ov.next;refine W.sq ?_;simp only[go_sem,q10];refine az.clo (tn (lo:=H1.next) (b:=b10) (w:=1000) (by decide) (dQ (by decide) oth) lm H3 (by omega) (by omega) g10 hO hz2 _ fun H4 sl4 hn4 old4 g4 hO4 _=>⟨trivial,?_⟩);rw[dq (by decide)]at hO4;obtain⟨X,hX⟩:∃ q,q=oth*1000:=⟨_,rfl⟩
  rw[<- hX]at hO4 hK;have lX:(aJ 18446744073709551616 X).length<2 ^ 37:=by
   have h1:=nX (B:=18446744073709551616) (l:=aJ 18446744073709551616 oth) (dQ (by decide) _).lt;rw[dq (by decide)]at h1;have h2:X<18446744073709551616 ^ ((aJ 18446744073709551616 oth).length+1):=(by rw[hX,Q8];exact Rr h1 (by decide) (by decide));have:=nY (B:=18446744073709551616) (by decide) h2;omega
  have g94:H4.get b9=some (.arr 0 100 [cu D]):=(old4 b9 (by omega) hne (aA.Mv hO g9 (by decide))).trans g9;have ov4:Over H1 H4:=⟨by omega,fun id h=>(old4 id (by omega) (by omega) (aA.tv hO h)).trans (ov.old id h)⟩
  simp only[go_sem];obtain⟨rk,h1,h2,h3,hfz⟩:∃ rk,H.next<=rk/\rk≠b9/\b10≠rk/\Fz (fun id=>id=rk) H4 H4.next sl4 (cu (aJ 18446744073709551616 X)):=by
   rcases hO4 with ⟨rfl,hnil⟩|⟨id,g',i1,i2,rfl,hg⟩
   ·exact⟨H.next,Nat.le_refl _,by omega,by omega,by rw[List.map_eq_nil_iff.1 hnil];exact .nil⟩
   ·refine⟨id,by omega,(fun e=>by rw[e,g94]at hg;cases hg),(fun e=>by rw[<- e,g4]at hg;cases hg),?_⟩;have:=Fz.frz (S:=fun i=>i=id) (nx:=H4.next) (o:=0) (l:=((aJ 18446744073709551616 X).map aV).length) (z:=1) (c':=(aJ 18446744073709551616 X).map aV) rfl hg (Nat.mul_one _).symm fun j h1 h2 h3=>by simp only[Nat.zero_add,PB];exact .lit _
    rw[Px]at this ⊢;exact this
  refine W.en (fun F3=>F3 9=.ptr b9 0 0 /\ F3 10=.ptr b10 0 0) (by simp only[go_sem,q9,q10]) fun F3 ⟨p9,p10⟩=>?_
  refine W.uw (dh.dD aK (s:=⟨F3,H4⟩) (rk:=rk) (ob:=b10) (cells':=[cu (aJ 18446744073709551616 X)]) g4 h3 rfl (fun i hi _=>match i,hi with
   | 0,_=>hfz)) (Nat.le_refl _) trivial ?_
  obtain⟨H5,hH5⟩:∃ H5,H5=H4.dD rk b10 (.arr 0 100 [cu (aJ 18446744073709551616 X)]):=⟨_,rfl⟩
  have n5:H5.next=H4.next:=by rw[hH5];rfl
  have g95:H5.get b9=some (.arr 0 100 [cu (aJ 18446744073709551616 own)]):=by rw[hH5,qC h2.symm hne,<- hD];exact g94
  have g105:H5.get b10=some (.arr 0 100 [cu (aJ 18446744073709551616 X)]):=by rw[hH5];exact tQ h3
  have ov5:Over H H5:=⟨by omega,fun id h=>by rw[hH5,qC (by omega) (by omega)];exact(ov4.old id (by omega)).trans (o1.old id h)⟩
  show W _ _ _ _ _ _ ⟨F3,H4.dD rk b10 (.arr 0 100 [cu (aJ 18446744073709551616 X)])⟩;rw[<- hH5];clear hH5;refine W.vs ?_;simp only[go_sem,p9,p10];refine az.clo (LP hpos ln lX H5 g95 g105 (by omega) (by omega) _ ⟨trivial,?_⟩);simp only[go_sem];exact fin _ 0 H5 ov5 hK
theorem LY {g:Int}{ns:List NodeP}(hok:NetOk g ns)(hp3:∀ x∈ns,x.parents.length<=3):fM ns:=(AK hok hp3).fit (by omega)
theorem LZ (g0:Int)(ps:List DrP)(ord:List Int)(hg0:U8 g0)(hps:∀ x∈ps,x.Ok)(hpl:(ps.length:Int)<2 ^ 63)(hol:(ord.length:Int)<2 ^ 63)(ho8:∀ x∈ord,U8 x)(ns:List NodeP)(hd:oB (1+g0 % 60) ps ord ns)(H:AHeap)(K:ARes->AHeap->Prop)(hK:K (.ret (aG (1+g0 % 60) ns)) H):
  ab Try.prog G0 9 [mv g0 ps ord] H K :=
 ab.clo ⟨_,Try.func9,rfl,rfl⟩ fun hcl=>ab.fin (B8 g0 ps ord hg0 hps hpl hol ho8 H _ fun g ms N H2 o2 hN1 hN2 hN hok hn5 hp3 hc2 hD=>⟨_,rfl,av.bq (v':=aG (1+g0 % 60) ns) aK hcl o2 (.agg rfl fun i hi _=>match i,hi with
  | 0,_=>by rw[hD.1];exact .lit _
  | 1,_=>by
   obtain⟨hg,hDN⟩:=hD;subst hg;rw[<- hDN.unique hd];exact .frz (cells:=aq ms) hN1 hN (hU ms) fun j h1 h2 h3=>by simp only[Nat.zero_add];exact AJ ms _ (Qe _)) hK⟩)
set_option maxHeartbeats 8000000 in
theorem L1 (g0:Int)(ps:List DrP)(ord:List Int)(hg0:U8 g0)(hps:∀ x∈ps,x.Ok)(hpl:(ps.length:Int)<2 ^ 63)(hol:(ord.length:Int)<2 ^ 63)(ho8:∀ x∈ord,U8 x)
  (cw ca cr cn:Int) (hcw:U8 cw) (hca:U8 ca) (hcr:U8 cr) (ws ms:List Int) (hws:∀ x∈ws,0<=x/\x<65536) (hms:∀ x∈ms,0<=x/\x<256) (hwl:(ws.length:Int)<2 ^ 63) (hml:(ms.length:Int)<2 ^ 63)
  (bw ba bn:Int) (hbw:U8 bw) (hba:U8 ba) (h0:Int) (qs:List DrP) (ord2:List Int) (hh0:U8 h0) (hqs:∀ x∈qs,x.Ok) (hql:(qs.length:Int)<2 ^ 63) (hol2:(ord2.length:Int)<2 ^ 63) (hp8:∀ x∈ord2,U8 x) (H:AHeap) (K:ARes->AHeap->Prop) (hK:∀ H',H.next<=H'.next->K (.ret (.lit (.bool true))) H'):
  ab Try.prog G0 5 [.agg (pV g0 ps ord cw ca cr cn ws ms bw ba bn),mv h0 qs ord2] H K:=by
 refine ab.fS (n:=108) (rs:=[.tmp 4]) Try.func5 rfl rfl rfl (by decide) (by simp) ?_;refine W.sq ?_;simp only[go_sem,pV,mv];obtain⟨H1,hH1⟩:∃ H1,H1=ext H [.arr 0 32 (pV g0 ps ord cw ca cr cn ws ms bw ba bn),.arr 0 25 [.lit (.int .u8 h0),.vec qs.length (dx qs),.vec ord2.length (aU ord2)]]:=⟨_,rfl⟩
 have b0:H1.get H.next=some (.arr 0 32 [.lit (.int .u8 g0),.vec ps.length (dx ps),.vec ord.length (aU ord),.lit (.int .u8 cw),.lit (.int .u8 ca),.lit (.int .u8 cr),.lit (.int .i64 cn),.vec ws.length (fo ws),.vec ms.length (aU ms),.lit (.int .u8 bw),.lit (.int .u8 ba),.lit (.int .i64 bn)]):=by rw[hH1];exact cD ..
 have b1:H1.get (H.next+1)=some (.arr 0 25 [.lit (.int .u8 h0),.vec qs.length (dx qs),.vec ord2.length (aU ord2)]):=by rw[hH1];exact aY H _ 1 (by simp)
 have n1:H1.next=H.next+2:=by rw[hH1];rfl
 have o1:Over H H1:=by rw[hH1];exact .ext _ _
 refine W.en (fun E=>E 2=.ptr H.next 0 0 /\ E 3=.ptr (H.next+1) 0 0) (by simp only[go_sem]) fun E ⟨e2,e3⟩=>?_
 show W _ _ _ _ _ _ ⟨E,ext H [.arr 0 32 (pV g0 ps ord cw ca cr cn ws ms bw ba bn),.arr 0 25 [.lit (.int .u8 h0),.vec qs.length (dx qs),.vec ord2.length (aU ord2)]]⟩;rw[<- hH1];clear hH1;have l0:=aj b0;refine W.sq ?_;simp only[go_sem,e2,l0];refine az.clo (Ol g0 ps ord hg0 hps hpl hol ho8 _ _ fun g ns N H2 o2 hN1 hN2 hN hok hn5 hp3=>⟨trivial,?_⟩);simp only[go_sem];have o2n:=o2.next;have hob:(ext H2 [.arr 0 35 [.lit (.int .i64 g),.own N 0 0 ns.length 3]]).get H2.next=some (.arr 0 35 [.lit (.int .i64 g),.own N 0 0 ns.length 3]):=cJ;refine W.uw (dh.dD aK (rk:=N) (ob:=H2.next) (cells':=[.lit (.int .i64 g),.vec ns.length (aq ns)]) hob (by omega) rfl (fun i hi _=>?_)) (Nat.le_refl _) trivial ?_
 ·match i,hi with
  | 0,_=>exact .lit _
  | 1,_=>exact .frz (cells:=aq ns) rfl (by show (ext H2 _).get N=_;rw[bY _ _ _ hN2];exact hN) (hU ns) fun j h1 h2 h3=>by simp only[Nat.zero_add];exact AJ ns _ (Qe _)
 obtain⟨H3,hH3⟩:∃ H3,H3=(ext H2 [.arr 0 35 [.lit (.int .i64 g),.own N 0 0 ns.length 3]]).dD N H2.next (.arr 0 35 [.lit (.int .i64 g),.vec ns.length (aq ns)]):=⟨_,rfl⟩
 have n3:H3.next=H2.next+1:=by rw[hH3];rfl
 have g3:∀ id,id<H.next+2->H3.get id=H1.get id:=fun id h=>by
  rw[hH3,qC (by omega) (by omega),bY _ _ _ (by omega)];exact o2.old id (by omega)
 have gn:H3.get H2.next=some (.arr 0 35 [.lit (.int .i64 g),.vec ns.length (aq ns)]):=by rw[hH3];exact tQ (by omega)
 refine W.en (fun E1=>E1 2=.ptr H.next 0 0 /\ E1 3=.ptr (H.next+1) 0 0 /\ E1 5=.ptr H2.next 0 0) (by simp only[go_sem,e2,e3]) fun E1 ⟨f2,f3,f5⟩=>?_
 clear e2 e3;rw[<- hH3];clear hH3 hob;have ln:=aj gn;have ls:=aj ((g3 _ (by omega)).trans b0);have nn8:=hok.n1.2;have nn1:=hok.n1.1;have sm:=AK hok hp3;obtain⟨B,hB⟩:∃ B,B=gK (cw % 12) (ca % (ns.length:Int)).toNat cr cn g ns:=⟨_,rfl⟩
 obtain⟨bS,bQ,bL⟩:=LD (A:=(ca % (ns.length:Int)).toNat) (c:=cw % 12) (r:=cr) (n:=cn) (g:=g) sm;rw[<- hB]at bS bQ bL;have lo:=aj ((g3 _ (by omega)).trans b1);obtain⟨os,oD,ook,on5,op3,oc2⟩:=LX h0 hh0 qs hqs ord2;obtain⟨go,hgo⟩:∃ q,q=1+h0 % 60:=⟨_,rfl⟩
 refine W.seq (W.seq ?_);refine W.draw 9 [0,0,2,0,14,0,62,127,0] Try.mixed (by kernel_rfl) (by kernel_rfl) ?_;simp only[go_sem,f2,f3,f5,ls,ln,lo];refine⟨.agg [aa B.1,.vec B.2.1.length B.2.2],[],cI.pure (fun Hz=>Lo cw ca cr cn (by unfold U8 at hcw;omega) (by unfold U8 at hca;omega) (by unfold U8 at hcr;omega) g ns 600 (by omega) sm Hz _ fun g2 ns2 c2 h2 _ _ _=>⟨by rw[hB,<- h2],rfl⟩),?_⟩;simp only[go_sem];refine⟨.agg [aa go,.vec os.length (aq os)],[],cI.pure (fun Hz=>LZ h0 qs ord2 hh0 hqs hql hol2 hp8 os oD Hz _ ⟨by rw[hgo];rfl,rfl⟩),?_⟩;simp only[go_sem];refine W.block ?_;rw[<- hgo]at ook;obtain⟨L4,hL4⟩:∃ L4,L4=[AVal.lit (.int .i64 g),.vec ns.length (aq ns),.lit (.int .i64 B.1),.vec B.2.1.length B.2.2,.lit (.int .i64 go),.vec os.length (aq os)]:=⟨_,rfl⟩
 refine W.env fun E3 hE3=>?_;have m2:E3 2=.ptr H.next 0 0:=by rw[hE3];simp only[go_sem,f2]
 have m5:E3 5=.ptr H2.next 0 0:=by rw[hE3];simp only[go_sem,f5]
 have m24:E3 25=.agg L4:=by rw[hE3,hL4];simp only[go_sem]
 have m25:E3 26=aa 0:=by rw[hE3];simp only[go_sem]
 clear hE3;refine W.aN 162259276829213363391577943211664 (by kernel_rfl) (fun ρ Hx=>Over H3 Hx/\∃ k:Nat,ρ 26=aa k/\k<=3) (fun ρ H=>3 - (iv (ρ 26)).toNat) ?_ ?_
 ·exact⟨.refl _,0,m25,by omega⟩
 rintro ρ2 Hx ⟨ov,k,h25,hk⟩;have ovn:=ov.next;refine W.en (fun E=>E 2=.ptr H.next 0 0 /\ E 5=.ptr H2.next 0 0 /\ E 25=.agg L4 /\ E 26=aa k) (by simp only[go_sem,m2,m5,m24,h25]) fun E ⟨q2,q5,q24,q25⟩=>?_
 by_cases hb:(k:Int)<3;rotate_left
 ·refine W.vs ?_;simp only[go_sem,q25,hb];refine W.vs ?_;simp only[go_sem];refine az.clo (Po _ _ ⟨trivial,?_⟩);simp only[go_sem];exact av.mk (by have:=o1.next;omega) (hK _ (by have:=o1.next;omega))
 obtain⟨gk,nk,ck,hpart,fitN,eN,hQ⟩:∃ (gk:Int) (nk:List NodeP) (ck:List AVal),(L4.drop (k*2)).take 2=[.lit (.int .i64 gk),.vec nk.length ck]/\fM nk/\∃ e:Nat->Prop,NodesQ e nk ck:=by
  have hk2:k=0\/k=1\/k=2:=by omega
  rcases hk2 with rfl|rfl|rfl
  ·exact⟨g,ns,aq ns,by rw[hL4];rfl,sm.fit (by omega),fun _=>False,⟨hU ns,fun v x hx=>⟨_,jS hx,kM hx,qj hx,.inl rfl,fun h=>h.elim⟩⟩⟩
  ·exact⟨B.1,B.2.1,B.2.2,by rw[hL4];rfl,bS.fit (by omega),_,bQ⟩
  ·exact⟨go,os,aq os,by rw[hL4];rfl,LY ook op3,fun _=>False,⟨hU os,fun v x hx=>⟨_,jS hx,kM hx,qj hx,.inl rfl,fun h=>h.elim⟩⟩⟩
 have l4:L4.length=6:=by rw[hL4];rfl
 have kb:k*2+2<=6:=by omega
 have lnE:∀ L,(ext Hx L).live H2.next 0=some (35,[.lit (.int .i64 g),.vec ns.length (aq ns)]):=fun L=>(dF (by omega)).trans (aj ((ov.old _ (by omega)).trans gn));have lsE:∀ L,(ext Hx L).live H.next 0=some (32,[.lit (.int .u8 g0),.vec ps.length (dx ps),.vec ord.length (aU ord),.lit (.int .u8 cw),.lit (.int .u8 ca),.lit (.int .u8 cr),.lit (.int .i64 cn),.vec ws.length (fo ws),.vec ms.length (aU ms),.lit (.int .u8 bw),.lit (.int .u8 ba),.lit (.int .i64 bn)]):=fun L=>(dF (by omega)).trans (aj ((ov.old _ (by omega)).trans ((g3 _ (by omega)).trans b0)));refine W.vs ?_;simp only[go_sem,q2,q5,q24,q25,hb,hpart,l4,kb,lnE,lsE];obtain⟨H6,hH6⟩:∃ H6,H6=ext Hx [.arr 0 35 [.lit (.int .i64 gk),.vec nk.length ck]]:=⟨_,rfl⟩
 have n6:H6.next=Hx.next+1:=by rw[hH6];rfl
 have o6:Over Hx H6:=by rw[hH6];exact .ext _ _
 have gm:H6.get Hx.next=some (.arr 0 35 [.lit (.int .i64 gk),.vec nk.length ck]):=by rw[hH6];exact cJ
 have hc4:∀ y∈ns,1<=y.card/\y.card<=4:=fun y hy=>(hok.node y hy).1;refine az.clo (Lb [.lit (.int .u8 g0),.vec ps.length (dx ps),.vec ord.length (aU ord)] [.lit (.int .u8 cw),.lit (.int .u8 ca),.lit (.int .u8 cr),.lit (.int .i64 cn)] rfl rfl (fun c hc=>by
  simp only[List.cons_append,List.nil_append,List.mem_cons,List.not_mem_nil,or_false]at hc;rcases hc with rfl|rfl|rfl|rfl|rfl|rfl|rfl<;>rfl) g ns hok.n1 hc4 hok.size ws ms hws hms hwl hml bw ba bn hbw hba _ _ ⟨trivial,?_⟩)
 rw[<- hH6];obtain⟨D3,hD3⟩:∃ D3,D3=wy ns ws ms bw ba bn:=⟨_,rfl⟩
 obtain⟨L6,hL6⟩:∃ L6,L6=sZ D3:=⟨_,rfl⟩
 rw[<- hD3,<- hL6];have csl:(ar ns).length=ns.length:=bR ns;have cxl:(gH ns ws ms).length<=12:=by unfold gH;rw[Px,QO];omega
 have crw:l8 (ar ns).length (gH ns ws ms):=fun r hr=>by
  unfold gH at hr;obtain⟨j,_,rfl⟩:=PQ.1 hr;unfold nU;rw[lV,kP]
 have dfit:=Mo (w:=bw) (a:=ba) (n:=bn) (cs:=ar ns) (xs:=gH ns ws ms) (by omega) (by omega) crw;have l6:L6.length=6:=by rw[hL6,hD3];rfl
 simp only[go_sem];refine W.en (fun E2=>E2 2=.ptr H.next 0 0 /\ E2 5=.ptr H2.next 0 0 /\ E2 7=.ptr Hx.next 0 0 /\ E2 25=.agg L4 /\ E2 26=aa k /\ E2 31=.agg L6 /\ E2 32=aa 0) (by simp only[go_sem,q2,q5,q24,q25]) fun E2 ⟨s2,s5,s7,s24,s25,s30,s31⟩=>?_
 have w1:=Ps ((k:Int)+1) (by omega);refine W.aN 81129638414606681695784710209040 (by kernel_rfl) (fun ρ Hy=>Over H6 Hy/\∃ j:Nat,ρ 32=aa j/\j<=3) (fun ρ H=>3 - (iv (ρ 32)).toNat) ?_ ?_
 ·exact⟨.refl _,0,s31,by omega⟩
 rintro ρ4 Hy ⟨ovy,j,h31,hj⟩;have ovyn:=ovy.next;refine W.en (fun E4=>E4 5=.ptr H2.next 0 0 /\ E4 7=.ptr Hx.next 0 0 /\ E4 26=aa k /\ E4 31=.agg L6 /\ E4 32=aa j) (by simp only[go_sem,s5,s7,s25,s30,h31]) fun E4 ⟨t5,t7,t25,t30,t31⟩=>?_
 by_cases hb2:(j:Int)<3;rotate_left
 ·refine W.vs ?_;simp only[go_sem,t25,t31,hb2,w1];exact⟨by omega,⟨ov.trans (o6.trans ovy),k+1,rfl,by omega⟩,by rw[h25];simp only[aa,aW];omega⟩
 obtain⟨yc,yx,hpart2,fitD⟩:∃ (yc:List Int) (yx:List (List Int)),(L6.drop (j*2)).take 2=[ae yc,ay yx]/\js yc yx:=by
  have hj3:j=0\/j=1\/j=2:=by omega
  rcases hj3 with rfl|rfl|rfl
  ·exact⟨ar ns,gH ns ws ms,by rw[hL6,hD3];rfl,kK (by omega) (by omega) fun r hr=>by rw[crw r hr];omega⟩
  ·exact⟨_,_,by rw[hL6,hD3];rfl,dfit⟩
  ·exact⟨[2,2],[[0,-1]],by rw[hL6,hD3];rfl,kK (by simp) (by simp) fun r hr=>by rw[List.mem_singleton.1 hr];simp⟩
 have jb:j*2+2<=6:=by omega
 have gmE:∀ L,(ext Hy L).live Hx.next 0=some (35,[.lit (.int .i64 gk),.vec nk.length ck]):=fun L=>(dF (by omega)).trans (aj ((ovy.old _ (by omega)).trans gm));have gnE:∀ L,(ext Hy L).live H2.next 0=some (35,[.lit (.int .i64 g),.vec ns.length (aq ns)]):=fun L=>(dF (by omega)).trans (aj ((ovy.old _ (by omega)).trans ((o6.old _ (by omega)).trans ((ov.old _ (by omega)).trans gn))));have zd:(ext Hy [.arr 0 42 [.vec yc.length (ints yc),.vec yx.length (yx.map ae)]]).live Hy.next 0=some (42,[.vec yc.length (ints yc),.vec yx.length (yx.map ae)]):=aj cJ;have fitNs:fM ns:=sm.fit (by omega);have w2:=Ps ((j:Int)+1) (by omega);have fz3:∀ (Hq:AHeap) (i:Nat) (h:i<[AVal.agg [.lit (.int .i64 g),.vec ns.length (aq ns)],AVal.agg [.lit (.int .i64 gk),.vec nk.length ck],.agg [.vec yc.length (ints yc),.vec yx.length (yx.map ae)]].length) (h':i<[aG g ns,aG gk nk,bt yc yx].length),Fz (fun _=>False) Hq Hq.next [AVal.agg [.lit (.int .i64 g),.vec ns.length (aq ns)],AVal.agg [.lit (.int .i64 gk),.vec nk.length ck],.agg [.vec yc.length (ints yc),.vec yx.length (yx.map ae)]][i] [aG g ns,aG gk nk,bt yc yx][i]:=fun Hq i h h' =>
  match i,h with
  | 0,_=>.agg rfl fun i hi _=>match i,hi with
   | 0,_=>.lit _
   | 1,_=>qA _
  | 1,_=>Bi hQ gk
  | 2,_=>tt (.dm _) (qp yx)
 have fz2:∀ (Hq:AHeap) (i:Nat) (h:i<[AVal.agg [.lit (.int .i64 gk),.vec nk.length ck],.agg [.vec yc.length (ints yc),.vec yx.length (yx.map ae)]].length) (h':i<[aG gk nk,bt yc yx].length),Fz (fun _=>False) Hq Hq.next [AVal.agg [.lit (.int .i64 gk),.vec nk.length ck],.agg [.vec yc.length (ints yc),.vec yx.length (yx.map ae)]][i] [aG gk nk,bt yc yx][i]:=fun Hq i h h' =>
  match i,h with
  | 0,_=>Bi hQ gk
  | 1,_=>tt (.dm _) (qp yx)
 obtain⟨e,he⟩:∃ e,e=iL g ns gk nk yc yx:=⟨_,rfl⟩
 obtain⟨em,hem⟩:∃ e,e=eW gk nk yc yx:=⟨_,rfl⟩
 obtain⟨en,hen⟩:∃ e,e=eW g ns yc yx:=⟨_,rfl⟩
 have hbe:=LK (gm:=gk) (ms:=nk) (cs:=yc) (xs:=yx) hok;rw[<- he,<- hem,<- hen]at hbe;have done:∀ L,H6.next<=(ext Hy L).next/\Over H6 (ext Hy L):=fun L=>⟨by rw[bb];omega,ovy.trans (.ext _ _)⟩
 refine W.vs ?_;simp only[go_sem,t5,t7,t30,t31,hb2,hpart2,l6,jb,ae,ay,gnE,gmE,zd];refine az.clo (ab.jY (args':=[aG g ns,aG gk nk,bt yc yx]) aK rfl (fz3 _) (LL g ns gk nk yc yx fitNs fitN fitD _ _ ⟨trivial,?_⟩));by_cases h0:e=0;rotate_left
 ·have c1:nZ g ns gk nk yc yx=.tup [aa 0,aa e]:=by unfold nZ;rw[<- he,Pt h0]
  have c2:kJ g ns gk nk yc yx=.tup [aa 0,aa e]:=by unfold kJ;rw[<- he,Pt h0]
  rw[c1];simp only[go_sem,t5,t7,gnE,gmE,zd];refine az.clo (ab.jY (args':=[aG g ns,aG gk nk,bt yc yx]) aK rfl (fz3 _) (A8 g ns gk nk yc yx fitNs fitN fitD _ _ ⟨trivial,?_⟩));rw[c2];simp only[go_sem,t7,gmE,zd];refine az.clo (ab.jY (args':=[aG gk nk,bt yc yx]) aK rfl (fz2 _) (od gk nk yc yx fitN fitD _ _ ⟨trivial,?_⟩));rw[<- hem];by_cases hm0:em=0
  ·rw[Pv hm0]at hbe;simp only[go_sem,t5,gnE,zd,hm0];refine az.clo (od g ns yc yx fitNs fitD _ _ ⟨trivial,?_⟩);rw[<- hen,<- hbe];simp only[go_sem,h0,t31,w2];exact⟨by omega,⟨(done _).2,j+1,rfl,by omega⟩,by rw[h31];simp only[aa,aW];omega⟩
  ·rw[Pt hm0]at hbe;simp only[go_sem,<- hbe,h0,t31,w2];exact⟨by omega,⟨(done _).2,j+1,rfl,by omega⟩,by rw[h31];simp only[aa,aW];omega⟩
 rw[h0]at he;obtain⟨e1,e2⟩:=wJ he.symm;obtain⟨_,_,_⟩:=lU e1;obtain⟨n6,h40,nrow⟩:=nT e1;obtain⟨mok,_,_⟩:=lU e2;obtain⟨m6,_,mrow⟩:=nT e2;obtain⟨a,ha⟩:∃ q,q=cW ns gk nk yx:=⟨_,rfl⟩
 obtain⟨b,hb'⟩:∃ q,q=cW nk g ns yx:=⟨_,rfl⟩
 obtain⟨c,hc⟩:∃ q,q=eU a b:=⟨_,rfl⟩
 have c1:nZ g ns gk nk yc yx=.tup [aa c,aa 0]:=by unfold nZ;rw[<- he,Pv rfl,<- ha,<- hb',<- hc]
 rw[c1];simp only[go_sem,t5,t7,gnE,gmE,zd];refine az.clo (ab.jY (args':=[aG g ns,aG gk nk,bt yc yx]) aK rfl (fz3 _) (A8 g ns gk nk yc yx fitNs fitN fitD _ _ ⟨trivial,?_⟩));rw[e2]at hem;rw[e1]at hen;cases hP:lT ns yx
 ·have c2:kJ g ns gk nk yc yx=.tup [aa 0,aa 7]:=by unfold kJ;rw[<- he,Pv rfl,hP];rfl
  rw[c2];simp only[go_sem,t7,gmE,zd];refine az.clo (ab.jY (args':=[aG gk nk,bt yc yx]) aK rfl (fz2 _) (od gk nk yc yx fitN fitD _ _ ⟨trivial,?_⟩));rw[e2];simp only[go_sem,t5,gnE,zd];refine az.clo (od g ns yc yx fitNs fitD _ _ ⟨trivial,?_⟩);rw[e1];simp only[go_sem,t5,t7,gnE,gmE,zd];refine az.clo (ab.jY (args':=[aG g ns,aG gk nk,bt yc yx]) aK rfl (fz3 _) (A5 g ns gk nk yc yx hok mok n6 m6 h40 nrow mrow _ _ ⟨trivial,?_⟩));rw[<- ha,<- hb',<- hc];simp only[go_sem,t5,gnE,zd];refine az.clo (AH g ns hok yc yx (by omega) nrow _ _ ⟨trivial,?_⟩);rw[hP];simp only[go_sem,t31,w2];exact⟨by omega,⟨(done _).2,j+1,rfl,by omega⟩,by rw[h31];simp only[aa,aW];omega⟩
 obtain⟨kk,hkk⟩:∃ q,q=n7 a (b*1000):=⟨_,rfl⟩
 have c2:kJ g ns gk nk yc yx=.tup [aa kk,aa 0]:=by unfold kJ;rw[<- he,Pv rfl,Pv hP,<- ha,<- hb',<- hkk]
 have hpos:0<cW ns gk nk yx:=A7 hok mok.g1.1 nk nrow (by unfold lT at hP;exact of_decide_eq_true hP);rw[c2];simp only[go_sem,t7,gmE,zd];refine az.clo (ab.jY (args':=[aG gk nk,bt yc yx]) aK rfl (fz2 _) (od gk nk yc yx fitN fitD _ _ ⟨trivial,?_⟩));rw[e2];simp only[go_sem,t5,gnE,zd];refine az.clo (od g ns yc yx fitNs fitD _ _ ⟨trivial,?_⟩);rw[e1];simp only[go_sem,t5,t7,gnE,gmE,zd];refine az.clo (ab.jY (args':=[aG g ns,aG gk nk,bt yc yx]) aK rfl (fz3 _) (A5 g ns gk nk yc yx hok mok n6 m6 h40 nrow mrow _ _ ⟨trivial,?_⟩));rw[<- ha,<- hb',<- hc];simp only[go_sem,t5,gnE,zd];refine az.clo (AH g ns hok yc yx (by omega) nrow _ _ ⟨trivial,?_⟩);rw[hP];simp only[go_sem,t5,t7,gnE,gmE,zd];refine az.clo (ab.jY (args':=[aG g ns,aG gk nk,bt yc yx]) aK rfl (fz3 _) (LM g ns gk nk yc yx hok mok n6 m6 h40 nrow mrow hpos _ _ ⟨trivial,?_⟩));rw[<- ha,<- hb',<- hkk];simp only[go_sem,t31,w2];exact⟨by omega,⟨(done _).2,j+1,rfl,by omega⟩,by rw[h31];simp only[aa,aW];omega⟩
end Go.Proofs
