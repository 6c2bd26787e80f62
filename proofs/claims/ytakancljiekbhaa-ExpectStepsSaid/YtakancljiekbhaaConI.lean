/- Own work: contracts. -/
import Derived.Test.YtakancljiekbhaaConH
import Derived.Test.YtakancljiekbhaaConB
import Derived.Test.YtakancljiekbhaaConE
import Derived.Test.YtakancljiekbhaaConA
set_option linter.all false
set_option maxRecDepth 100000
namespace Go.Proofs
open Go.Hx
set_option maxHeartbeats 8000000 in
theorem Nj (g:Int)(ns:List NodeP)(hok:NetOk g ns)(h6:ns.length<=6)(cs:List Int)(xs:List (List Int))(h40:xs.length<=64)(hrow:∀ r∈xs,r.length=ns.length)(least:Int)(hfair:pD g ns least)(H:AHeap)(K:ARes->AHeap->Prop)(hK:K (.ret (aQ g (kL g least ns xs))) H):
  af Try.prog G0 20 [aQ g ns,cj cs xs,aa least] H K:=by
 refine af.clo ⟨_,Try.func20,rfl,rfl⟩ fun hcl=>?_;have hn8:=hok.n1.2;obtain⟨N,hN⟩:∃ N,N=kL g least ns xs:=⟨_,rfl⟩
 have Nl:N.length=ns.length:=by rw[hN,yi]
 rw[<- hN]at hK;refine af.cS (n:=77) (rs:=[.cell 6 35]) Try.func20 rfl rfl rfl (by decide) (by simp) ?_;refine W.seq (ab _ _ _ (by rfl) ?_);simp only[go_sem,aQ,bW,cj,aA];refine W.seq (ab _ _ _ (by rfl) ?_);simp only[go_sem];refine W.seq (ab _ _ _ (by rfl) ?_);simp only[go_sem];obtain⟨H1,hH1⟩:∃ H1,H1=ext H [.arr 0 35 [aa g,.vec ns.length (au ns)],.arr 0 42 [.vec cs.length (ints cs),.vec xs.length (xs.map ae)],.arr 0 35 [.lit (.int .i64 0),.lit (.slice none 0 0)],.arr 0 35 [.lit (.int .i64 g),.lit (.slice none 0 0)]]:=⟨_,rfl⟩
 have n1:H1.next=H.next+4:=by rw[hH1];rfl
 have o1:Over H H1:=by rw[hH1];exact .ext _ _
 have g0:H1.get H.next=some (.arr 0 35 [aa g,.vec ns.length (au ns)]):=by rw[hH1];exact cJ ..
 have g1:H1.get (H.next+1)=some (.arr 0 42 [.vec cs.length (ints cs),.vec xs.length (xs.map ae)]):=by rw[hH1];exact bg H _ 1 (by simp)
 have g2:H1.get (H.next+2)=some (.arr 0 35 [.lit (.int .i64 0),.lit (.slice none 0 0)]):=by rw[hH1];exact bg H _ 2 (by simp)
 have g3:H1.get (H.next+3)=some (.arr 0 35 [.lit (.int .i64 g),.lit (.slice none 0 0)]):=by rw[hH1];exact bg H _ 3 (by simp)
 refine W.env fun E hE=>?_;have e2:E 2=aa least:=by rw[hE];simp only[go_sem]
 have e3:E 3=.ptr H.next 0 0:=by rw[hE];simp only[go_sem]
 have e4:E 4=.ptr (H.next+1) 0 0:=by rw[hE];simp only[go_sem]
 have e6:E 6=.ptr (H.next+2) 0 0:=by rw[hE];simp only[go_sem]
 have e7:E 7=.ptr (H.next+3) 0 0:=by rw[hE];simp only[go_sem]
 have e8:E 8=aa 0:=by rw[hE];simp only[go_sem]
 clear hE;show W _ _ _ _ _ _ ⟨E,ext H [.arr 0 35 [aa g,.vec ns.length (au ns)],.arr 0 42 [.vec cs.length (ints cs),.vec xs.length (xs.map ae)],.arr 0 35 [.lit (.int .i64 0),.lit (.slice none 0 0)],.arr 0 35 [.lit (.int .i64 g),.lit (.slice none 0 0)]]⟩;rw[<- hH1];clear hH1;refine W.aG 75557863725914323390208 (by kernel_rfl) (fun ρ Hx=>∃ (v:Nat) (nh:AVal),ρ 8=aa v/\v<=ns.length/\H1.next<=Hx.next/\(∀ id,id<H.next+3->Hx.get id=H1.get id)/\Hx.get (H.next+3)=some (.arr 0 35 [.lit (.int .i64 g),nh])/\dy (H.next+4) Hx 69 3 nh v (au (N.take v))) (fun ρ Hx=>ns.length - (iv (ρ 8)).toNat) ?_ ?_
 ·exact⟨0,_,e8,by omega,Nat.le_refl _,fun _ _=>rfl,g3,.nil⟩
 rintro ρ Hx ⟨v,nh,h8,hv,hnx,hold,gN,hO⟩;refine W.env fun E1 hE1=>?_;have f2:E1 2=aa least:=by rw[hE1];simp only[go_sem,e2]
 have f3:E1 3=.ptr H.next 0 0:=by rw[hE1];simp only[go_sem,e3]
 have f4:E1 4=.ptr (H.next+1) 0 0:=by rw[hE1];simp only[go_sem,e4]
 have f6:E1 6=.ptr (H.next+2) 0 0:=by rw[hE1];simp only[go_sem,e6]
 have f7:E1 7=.ptr (H.next+3) 0 0:=by rw[hE1];simp only[go_sem,e7]
 have f8:E1 8=aa v:=by rw[hE1];simp only[go_sem,h8]
 clear hE1;have nho:=hO.one;have nhc:=hO.cells;have lN:=ah gN;have y0:=(hold H.next (by omega)).trans g0;have y1:=(hold (H.next+1) (by omega)).trans g1;have y2:=(hold (H.next+2) (by omega)).trans g2;have l0:=ah y0;have l1:=ah y1;have l2:=ah y2;have vl:(N.take v).length=v:=by rw[List.length_take];omega
 by_cases hb:(v:Int)<ns.length;rotate_left
 ·refine ab _ _ _ (by rfl) ?_;simp only[go_sem,f3,f8,l0,hb];refine ab _ _ _ (by rfl) ?_;simp only[go_sem,f6,f7,lN,l2,nho];obtain rfl:v=ns.length:=by omega
  rw[List.take_of_length_le (by omega)]at hO;refine av.bA aP hcl ⟨by rw[az];omega,fun id h=>?_⟩ (v':=aQ g N) (.agg rfl fun i hi _=>?_) hK
  ·rw[ag,if_neg (by omega),hold id (by omega)];exact o1.old id h
  ·match i,hi with
   | 0,_=>exact .lit _
   | 1,_ =>
    rw[<- Nl]at hO;exact dy.fzN (lo:=H.next+4) (hO.keep (by rw[az];exact Nat.le_refl _) fun id g h1 h2 h3=>by rw[ag,if_neg (by omega)]) fun i h=>by show H.next<=i;omega
 obtain⟨x,hx⟩:=get_of_lt (l:=ns) (i:=v) (by omega);have hxm:=List.mem_of_getElem? hx;have hc:=(hok.node x hxm).1;have h0:=iF hx;have h1:=kS hx;have h2:=ni hx;have pne:=dQ hx;refine W.seq (ab _ _ _ (by rfl) ?_);simp only[go_sem,f3,f8,l0,hb];refine W.seq (W.block ?_);refine W.seq ?_;refine W.draw 14 [0,1,0,7,15,31,0,64,0,448,960,1984,4095,0] Try.mixed (by kernel_rfl) (by kernel_rfl) ?_;simp only[go_sem,f3,f8,l0,hb,h0,h1,pne];refine⟨⟨fun _ h=>by omega,fun _ h=>by omega,fun _ h=>by omega,fun _ h=>by omega⟩,?_⟩;obtain⟨H2,hH2⟩:∃ H2,H2=ext Hx [.arr 0 69 [.lit (.int .i64 x.card),.vec x.parents.length (ints x.parents),.lit (.slice none 0 0)]]:=⟨_,rfl⟩
 have n2:H2.next=Hx.next+1:=by rw[hH2];rfl
 have o2:Over Hx H2:=by rw[hH2];exact .ext _ _
 have gX:H2.get Hx.next=some (.arr 0 69 [.lit (.int .i64 x.card),.vec x.parents.length (ints x.parents),.lit (.slice none 0 0)]):=by rw[hH2];exact cA
 refine W.env fun E2 hE2=>?_;have a2:E2 2=aa least:=by rw[hE2];simp only[go_sem,f2]
 have a3:E2 3=.ptr H.next 0 0:=by rw[hE2];simp only[go_sem,f3]
 have a4:E2 4=.ptr (H.next+1) 0 0:=by rw[hE2];simp only[go_sem,f4]
 have a7:E2 7=.ptr (H.next+3) 0 0:=by rw[hE2];simp only[go_sem,f7]
 have a8:E2 8=aa v:=by rw[hE2];simp only[go_sem,f8]
 have a9:E2 9=.ptr Hx.next 0 0:=by rw[hE2];simp only[go_sem]
 clear hE2;show W _ _ _ _ _ _ ⟨E2,ext Hx [.arr 0 69 [.lit (.int .i64 x.card),.vec x.parents.length (ints x.parents),.lit (.slice none 0 0)]]⟩;rw[<- hH2];clear hH2;have m0:=ah ((o2.old _ (by omega)).trans y0);have m1:=ah ((o2.old _ (by omega)).trans y1);refine W.seq (ab _ _ _ (by rfl) ?_);simp only[go_sem,a3,a4,a8,m0,m1];refine aB.clo (MX g ns hok h6 cs xs h40 hrow v x hx _ _ ⟨trivial,?_⟩);simp only[go_sem];obtain⟨L,hL⟩:∃ L,L=cP ns x v xs:=⟨_,rfl⟩
 obtain⟨R,hR⟩:∃ R,R=x.rows.length:=⟨_,rfl⟩
 obtain⟨y,hy⟩:∃ y,y=kK g least L x:=⟨_,rfl⟩
 have hNv:N[v]?=some y:=by rw[hN,hy,hL];exact Ck hx
 have hLl:=uw hok h6 hx xs hrow;rw[<- hL]at hLl ⊢;have hrl:y.rows.length=R:=by rw[hy,hR];show ((List.range _).map _).length=_;simp
 obtain⟨c,hcc⟩:∃ c:Nat,x.card=c:=⟨x.card.toNat,by omega⟩
 have hc':=hc;rw[hcc]at hc' gX;have hct:x.card.toNat=c:=by omega
 have hRb:=(py hok hx).2;have mR:((R:Int))*c<=1024:=by rw[hR,<- hcc];exact hRb
 have mR1:(R:Int)*1<=R*c:=Int.mul_le_mul_of_nonneg_left (by omega) (by omega);rw[hct,<- hR]at hLl;have hLi:(L.length:Int)=R*c:=by rw[hLl,Int.natCast_mul]
 refine W.env fun E3 hE3=>?_;have b2:E3 2=aa least:=by rw[hE3];simp only[go_sem,a2]
 have b3:E3 3=.ptr H.next 0 0:=by rw[hE3];simp only[go_sem,a3]
 have b7:E3 7=.ptr (H.next+3) 0 0:=by rw[hE3];simp only[go_sem,a7]
 have b8:E3 8=aa v:=by rw[hE3];simp only[go_sem,a8]
 have b9:E3 9=.ptr Hx.next 0 0:=by rw[hE3];simp only[go_sem,a9]
 have b10:E3 10=.vec L.length (ints L):=by rw[hE3];simp only[go_sem]
 clear hE3;refine W.seq (W.rW (Q':=fun e s2=>e=.normal/\s2.ρ 7=.ptr (H.next+3) 0 0/\s2.ρ 8=aa v/\s2.ρ 9=.ptr Hx.next 0 0/\H2.next<=s2.H.next/\(∀ id,id<H2.next->id≠Hx.next->s2.H.get id=H2.get id)/\∃ (rv:AVal),s2.H.get Hx.next=some (.arr 0 69 [aa c,ae x.parents,rv])/\aD H2.next s2.H 39 rv (y.rows.map ae)) ?_ ?_)
 ·refine W.seq (ab _ _ _ (by rfl) ?_);simp only[go_sem];refine W.env fun E4 hE4=>?_;have d2:E4 2=aa least:=by rw[hE4];simp only[go_sem,b2]
  have d3:E4 3=.ptr H.next 0 0:=by rw[hE4];simp only[go_sem,b3]
  have d7:E4 7=.ptr (H.next+3) 0 0:=by rw[hE4];simp only[go_sem,b7]
  have d8:E4 8=aa v:=by rw[hE4];simp only[go_sem,b8]
  have d9:E4 9=.ptr Hx.next 0 0:=by rw[hE4];simp only[go_sem,b9]
  have d10:E4 10=.vec L.length (ints L):=by rw[hE4];simp only[go_sem,b10]
  have d11:E4 11=aa 0:=by rw[hE4];simp only[go_sem]
  clear hE4;refine W.block ?_;refine W.aG 1180591620167655491584 (by kernel_rfl) (fun ρ2 Hy=>∃ (j:Nat) (rv:AVal),ρ2 11=aa j/\j<=R/\H2.next<=Hy.next/\(∀ id,id<H2.next->id≠Hx.next->Hy.get id=H2.get id)/\Hy.get Hx.next=some (.arr 0 69 [aa c,ae x.parents,rv])/\aD H2.next Hy 39 rv ((y.rows.take j).map ae)) (fun ρ2 Hy=>R - (iv (ρ2 11)).toNat) ?_ ?_
  ·exact⟨0,_,d11,by omega,Nat.le_refl _,fun _ _ _=>rfl,gX,.nil⟩
  rintro ρ2 Hy ⟨j,rv,h11,hj,hny,holdy,gy,hOy⟩;refine W.env fun E5 hE5=>?_;have k2:E5 2=aa least:=by rw[hE5];simp only[go_sem,d2]
  have k3:E5 3=.ptr H.next 0 0:=by rw[hE5];simp only[go_sem,d3]
  have k7:E5 7=.ptr (H.next+3) 0 0:=by rw[hE5];simp only[go_sem,d7]
  have k8:E5 8=aa v:=by rw[hE5];simp only[go_sem,d8]
  have k9:E5 9=.ptr Hx.next 0 0:=by rw[hE5];simp only[go_sem,d9]
  have k10:E5 10=.vec L.length (ints L):=by rw[hE5];simp only[go_sem,d10]
  have k11:E5 11=aa j:=by rw[hE5];simp only[go_sem,h11]
  clear hE5;have ly0:=ah ((holdy _ (by omega) (by omega)).trans ((o2.old _ (by omega)).trans y0));have ly:=ah gy;have tk:(y.rows.take j).length=j:=by rw[List.length_take];omega
  by_cases hb2:(j:Int)<R;rotate_left
  ·refine ab _ _ _ (by rfl) ?_;simp only[go_sem,k3,k8,k11,ly0,hb,h2,pne,aA,<- hR,hb2];have ej:j=R:=(by omega);rw[ej,List.take_of_length_le (by omega)]at hOy;exact⟨k7,k9,hny,holdy,rv,gy,hOy⟩
  have m0':0<=(j:Int)*c:=Int.mul_nonneg (by omega) (by omega);have m1':((j:Int)+1)*c<=R*c:=Int.mul_le_mul_of_nonneg_right (by omega) (by omega);have m2':((j:Int)+1)*c=j*c+c:=by rw[Int.add_mul,Int.one_mul]
  have v1:=IntWalk.i64_in ((j:Int)*c) (by omega);have v2:=IntWalk.i64_in ((j:Int)+1) (by omega);have v3:=IntWalk.i64_in (((j:Int)+1)*c) (by omega);have rok:=yj hok h6 hfair hx (xs:=xs) h40 hrow (j:=j) (by omega);rw[<- hL,hct]at rok;obtain⟨q,hq⟩:∃ q,q=kR least (cW g least (fF L c j)) (fF L c j):=⟨_,rfl⟩
  have hqr:y.rows[j]?=some q:=by rw[hy,hq];show ((List.range _).map _)[j]?=_;rw[List.getElem?_map,List.getElem?_range (by omega),<- hct];rfl
  have sl:=Cm hLl (show j<R by omega);have rl:=uv hLl (show j<R by omega);have tn2:((j:Int)*c).toNat=j*c:=by rw[<- Int.natCast_mul,Int.toNat_natCast]
  have tn1:(((j:Int)+1)*c).toNat=j*c+c:=by rw[m2',<- Int.natCast_mul,<- Int.natCast_add,Int.toNat_natCast]
  have tn3:j*c+c - j*c=c:=by omega
  have rvo:=hOy.one;have rvc:=hOy.cells;obtain⟨rv',He,hAe,hOe,hne,hpe⟩:=DO (ae q) rfl hOy hny (by rw[List.length_map];omega);simp only[ae]at hAe;have rvo2:=hOe.one;have rvc2:=hOe.cells;have lXe:=ah ((hpe Hx.next (by omega) (aD.rB hOy (by omega))).trans gy);have lXx:∀ L,(ext Hy L).live Hx.next 0=_:=fun L=>(dB (by omega)).trans ly;refine W.seq (ab _ _ _ (by rfl) ?_);simp only[go_sem,k3,k8,k11,ly0,hb,h2,pne,aA,<- hR,hb2];refine W.seq (W.block ?_);refine W.draw 18 [0,1,0,0,0,16,56,0,128,0,512,1920,4092,0,8192,0,65532,131068] Try.mixed (by kernel_rfl) (by kernel_rfl) ?_;simp only[go_sem,k2,k3,k9,k10,k11,ly,ly0,v1,v2,v3,tn1,tn2,tn3,sl];refine⟨by omega,by omega,ae q,[],dA.pure (fun H2=>?_),?_⟩
  ·rw[show AVal.vec c (ints (fF L c j))=ae (fF L c j) by unfold ae;rw[rl]];exact C6 rok H2 _ ⟨by rw[hq],rfl⟩
  simp only[go_sem,k9,lXe,rvo2,rvc2,hAe];refine⟨⟨fun _ h=>by omega,fun _ h=>by omega⟩,?_⟩;refine ab _ _ _ (by rfl) ?_;simp only[go_sem,k11,v2];rw[show (y.rows.take j).map ae++[ae q]=(y.rows.take (j+1)).map ae by rw[aL hqr,List.map_append];rfl]at hOe;exact⟨by rw[az];omega,⟨j+1,rv',rfl,by omega,by rw[az];omega,fun id h1 h2=>by rw[ag,if_neg h2,hpe id (by omega) (aD.rB hOy h1)];exact holdy id h1 h2,by rw[ag,if_pos rfl],hOe.keep (Nat.le_refl _) (by rw[az];omega) fun id _ h1 h2 _ _=>by rw[ag,if_neg (by omega)]⟩,by rw[h11];simp only[aa,aK];omega⟩
 ·rintro e ⟨ρ2,Hb⟩ ⟨rfl,q7,q8,q9,qn,qold,rv,qX,qO⟩;simp only at q7 q8 q9 qn qold qX qO;refine⟨⟨ρ2,Hb.fo H2.next Hx.next (.arr 0 69 [aa c,ae x.parents,aA y.rows])⟩,dG.fo aP qX (by omega) rfl (fun i hi _=>?_),Nat.le_refl _,trivial,?_⟩
  ·match i,hi with
   | 0,_=>exact .lit _
   | 1,_=>exact .dk _
   | 2,_=>exact aD.CC qO fun i h=>h
  obtain⟨Hm,hHm⟩:∃ Hm,Hm=Hb.fo H2.next Hx.next (.arr 0 69 [aa c,ae x.parents,aA y.rows]):=⟨_,rfl⟩
  have nm:Hm.next=Hb.next:=by rw[hHm];rfl
  have gm:Hm.get Hx.next=some (.arr 0 69 [aa c,ae x.parents,aA y.rows]):=by rw[hHm];exact Dm (by omega)
  have om:∀ id,id<Hx.next->Hm.get id=Hx.get id:=fun id h=>by rw[hHm,Dn (by omega) (by omega),qold id (by omega) (by omega)];exact o2.old id h
  rw[<- hHm];clear hHm;show W Try.prog G0 77 none _ _ ⟨ρ2,Hm⟩;have hOm:dy (H.next+4) Hm 69 3 nh v (au (N.take v)):=hO.keep (by omega) fun id g h1 h2 h3=>om id h2;obtain⟨nh',Hf,hA,hOf,hnf,hpf⟩:=zi (P:=Try.prog) (H:=Hm) (t:=33) (z:=3) (xs:=[aa c,ae x.parents,aA y.rows]) (m:=Hm.next+1) Try.underlying33 Try.uD Try.uF rfl rfl (by rw[Try.uE];omega) hOm (by omega) rfl;simp only[aa,ae,aA]at hA;have lm:=ah gm;have lNm:=ah ((om (H.next+3) (by omega)).trans gN);have lNf:=ah ((hpf (H.next+3) (by omega) (hOm.ne (by omega))).trans ((om (H.next+3) (by omega)).trans gN));have nfo:=hOf.one;have nfc:=hOf.cells;have w1:=IntWalk.i64_in ((v:Int)+1) (by omega);refine ab _ _ _ (by rfl) ?_;simp only[go_sem,q7,q9,lNm,lm,aA,hA,lNf,nfo,nfc];refine ab _ _ _ (by rfl) ?_;simp only[go_sem,q8,w1];refine⟨by rw[az];omega,⟨v+1,nh',rfl,by omega,by rw[az];omega,fun id h=>by rw[ag,if_neg (by omega),hpf id (by omega) (hOm.ne (by omega)),om id (by omega)];exact hold id h,by rw[ag,if_pos rfl],?_⟩,by rw[h8];simp only[aa,aK];omega⟩;have e1:au (N.take (v+1))=au (N.take v)++[aa c,ae x.parents,aA y.rows]:=by
   rw[aL hNv];unfold au;rw[List.map_append,List.flatten_append];congr 1;rw[hy];show [aa x.card,ae x.parents,aA _]++[]=_;rw[hcc];rfl
  rw[e1];exact hOf.keep (by rw[az];exact Nat.le_refl _) fun id g h1 h2 h3=>by rw[ag,if_neg (by omega)]
set_option maxHeartbeats 2000000 in
theorem D1 (g:Int)(ns:List NodeP)(hf:iJ ns)(H:AHeap)(K:ARes->AHeap->Prop)(hK:K (.ret (.lit (.bool true))) H):af Try.prog G0 21 [aQ g ns,aQ g ns] H K:=by
 refine af.clo ⟨_,Try.func21,rfl,rfl⟩ fun hcl=>?_;have hl:=hf.1;refine af.cS (n:=81) (rs:=[.tmp 4]) Try.func21 rfl rfl rfl (by decide) (by simp) ?_;refine W.seq (ab _ _ _ (by rfl) ?_);simp only[go_sem,aQ,bW];obtain⟨R,hR⟩:∃ R,R=ext H [.arr 0 35 [.lit (.int .i64 g),.vec ns.length (au ns)],.arr 0 35 [.lit (.int .i64 g),.vec ns.length (au ns)]]:=⟨_,rfl⟩
 have oR:Over H R:=by rw[hR];exact .ext _ _
 have nR:R.next=H.next+2:=by rw[hR];rfl
 have l0:R.live H.next 0=some (35,[.lit (.int .i64 g),.vec ns.length (au ns)]):=by rw[hR];exact ah (cJ ..)
 have l1:R.live (H.next+1) 0=some (35,[.lit (.int .i64 g),.vec ns.length (au ns)]):=by rw[hR];exact ah (bg H _ 1 (by simp))
 rw[<- hR];clear hR;refine W.env fun E hE=>?_;have e2:E 2=.ptr H.next 0 0:=by rw[hE];simp only[go_sem]
 have e3:E 3=.ptr (H.next+1) 0 0:=by rw[hE];simp only[go_sem]
 clear hE;refine W.seq (ab _ _ _ (by rfl) ?_);simp only[go_sem,e2,e3,l0,l1];refine W.seq ?_;refine W.seq (ab _ _ _ (by rfl) ?_);simp only[go_sem];refine W.block ?_;refine W.env fun E1 hE1=>?_;have f2:E1 2=.ptr H.next 0 0:=by rw[hE1];simp only[go_sem,e2]
 have f3:E1 3=.ptr (H.next+1) 0 0:=by rw[hE1];simp only[go_sem,e3]
 have f5:E1 5=aa 0:=by rw[hE1];simp only[go_sem]
 clear hE1;refine W.aG 2417851639229258341024240 (by rfl) (fun ρ Hx=>∃ k:Nat,ρ 5=aa k/\k<=ns.length/\Over R Hx) (fun ρ H=>ns.length - (iv (ρ 5)).toNat) ?_ ?_
 ·simp only[go_sem,f5];exact⟨0,rfl,by omega,.refl _⟩
 rintro ρ Hx ⟨k,h5,hk,ov⟩;refine W.env fun E2 hE2=>?_;have a2:E2 2=.ptr H.next 0 0:=by rw[hE2];simp only[go_sem,f2]
 have a3:E2 3=.ptr (H.next+1) 0 0:=by rw[hE2];simp only[go_sem,f3]
 have a5:E2 5=aa k:=by rw[hE2];simp only[go_sem,h5]
 clear hE2;have x0:=(ov.live (g:=0) (by omega:H.next<R.next)).trans l0;have x1:=(ov.live (g:=0) (by omega:H.next+1<R.next)).trans l1;by_cases hb:(k:Int)<ns.length;rotate_left
 ·refine ab _ _ _ (by rfl) ?_;simp only[go_sem,a2,a5,x0,hb];refine ab _ _ _ (by rfl) ?_;simp only[go_sem];exact av.bA aP hcl (oR.trans ov) (.lit _) hK
 obtain⟨x,hx⟩:=get_of_lt (l:=ns) (i:=k) (by omega);obtain⟨g1,g2,g3⟩:=hf.2 x (List.mem_of_getElem? hx);have p0:=kj hx;have pne:=dQ hx;have p1:k*3+3<=(au ns).length:=by rw[fk];omega
 have w1:=IntWalk.i64_in ((k:Int)+1) (by omega);refine W.seq (ab _ _ _ (by rfl) ?_);simp only[go_sem,a2,a5,x0,hb];refine W.seq (W.block (W.seq ?_));obtain⟨zb,hzb⟩:∃ zb:Blk,zb=.arr 0 69 [.lit (.int .i64 0),.lit (.slice none 0 0),.lit (.slice none 0 0)]:=⟨_,rfl⟩
 have z0:(ext (ext Hx [.arr 0 69 [.lit (.int .i64 0),.lit (.slice none 0 0),.lit (.slice none 0 0)]]) [.arr 0 69 [.lit (.int .i64 0),.lit (.slice none 0 0),.lit (.slice none 0 0)]]).live Hx.next 0=some (69,[.lit (.int .i64 0),.lit (.slice none 0 0),.lit (.slice none 0 0)]):=by rw[jT];exact ah (bg Hx _ 0 (by simp))
 have z1:∀ b,((ext (ext Hx [.arr 0 69 [.lit (.int .i64 0),.lit (.slice none 0 0),.lit (.slice none 0 0)]]) [.arr 0 69 [.lit (.int .i64 0),.lit (.slice none 0 0),.lit (.slice none 0 0)]]).upd Hx.next b).live (Hx.next+1) 0=some (69,[.lit (.int .i64 0),.lit (.slice none 0 0),.lit (.slice none 0 0)]):=fun b=>by rw[g9 (by omega),jT];exact ah (bg Hx _ 1 (by simp))
 have hnx:=ov.next;refine W.draw 13 [0,1,0,7,15,0,32,0,224,480,0,0,3103] Try.mixed (by kernel_rfl) (by kernel_rfl) ?_;simp only[go_sem,a2,a3,a5,x0,x1,hb,p0,p1,pne,aA,z0,z1];refine⟨by repeat' (first|refine And.intro ?_ ?_|(intro x hx;omega)),by repeat' (first|refine And.intro ?_ ?_|(intro x hx;omega)),?_⟩;refine⟨by repeat' (first|refine And.intro ?_ ?_|(intro x hx;omega)),?_⟩;obtain⟨H2,hH2⟩:∃ H2,H2=((ext (ext Hx [.arr 0 69 [.lit (.int .i64 0),.lit (.slice none 0 0),.lit (.slice none 0 0)]]) [.arr 0 69 [.lit (.int .i64 0),.lit (.slice none 0 0),.lit (.slice none 0 0)]]).upd Hx.next (.arr 0 69 [.lit (.int .i64 x.card),.vec x.parents.length (ints x.parents),.vec x.rows.length (x.rows.map ae)])).upd (Hx.next+1) (.arr 0 69 [.lit (.int .i64 x.card),.vec x.parents.length (ints x.parents),.vec x.rows.length (x.rows.map ae)]):=⟨_,rfl⟩
 have o2:Over Hx H2:=⟨by rw[hH2,az,az,jT,bJ];omega,fun i h=>by rw[hH2,ag,if_neg (by omega),ag,if_neg (by omega),jT];exact cb _ _ _ h⟩
 have q0:H2.live Hx.next 0=some (69,[.lit (.int .i64 x.card),.vec x.parents.length (ints x.parents),.vec x.rows.length (x.rows.map ae)]):=by rw[hH2,g9 (by omega)];exact zf
 have q1:H2.live (Hx.next+1) 0=some (69,[.lit (.int .i64 x.card),.vec x.parents.length (ints x.parents),.vec x.rows.length (x.rows.map ae)]):=by rw[hH2];exact zf
 refine W.env fun E3 hE3=>?_;have b2:E3 2=.ptr H.next 0 0:=by rw[hE3];simp only[go_sem,a2]
 have b3:E3 3=.ptr (H.next+1) 0 0:=by rw[hE3];simp only[go_sem,a3]
 have b5:E3 5=aa k:=by rw[hE3];simp only[go_sem,a5]
 have b6:E3 6=.ptr Hx.next 0 0:=by rw[hE3];simp only[go_sem]
 have b7:E3 7=.ptr (Hx.next+1) 0 0:=by rw[hE3];simp only[go_sem]
 clear hE3;rw[<- hH2];clear hH2;refine W.seq ?_;refine W.seq (ab _ _ _ (by rfl) ?_);simp only[go_sem,b6,b7,q0,q1];refine aB.clo (DQ x.parents x.parents (by omega) _ _ ⟨trivial,?_⟩);simp only[go_sem,b6,b7,q0,q1];refine ab _ _ _ (by rfl) ?_;simp only[go_sem];refine W.seq (ab _ _ _ (by rfl) ?_);simp only[go_sem];refine W.block ?_;refine W.env fun E4 hE4=>?_;have c2:E4 2=.ptr H.next 0 0:=by rw[hE4];simp only[go_sem,b2]
 have c3:E4 3=.ptr (H.next+1) 0 0:=by rw[hE4];simp only[go_sem,b3]
 have c5:E4 5=aa k:=by rw[hE4];simp only[go_sem,b5]
 have c6:E4 6=.ptr Hx.next 0 0:=by rw[hE4];simp only[go_sem,b6]
 have c7:E4 7=.ptr (Hx.next+1) 0 0:=by rw[hE4];simp only[go_sem,b7]
 have c8:E4 8=aa 0:=by rw[hE4];simp only[go_sem]
 clear hE4;refine W.aG 2417847027543239922024720 (by rfl) (fun ρ2 Hy=>Hy=H2/\∃ j:Nat,ρ2 8=aa j/\j<=x.rows.length) (fun ρ2 H=>x.rows.length - (iv (ρ2 8)).toNat) ?_ ?_
 ·simp only[go_sem,c8];exact⟨0,rfl,by omega⟩
 rintro ρ2 Hy ⟨rfl,j,h8,hj⟩;refine W.env fun E5 hE5=>?_;have d5:E5 5=aa k:=by rw[hE5];simp only[go_sem,c5]
 have d6:E5 6=.ptr Hx.next 0 0:=by rw[hE5];simp only[go_sem,c6]
 have d7:E5 7=.ptr (Hx.next+1) 0 0:=by rw[hE5];simp only[go_sem,c7]
 have d8:E5 8=aa j:=by rw[hE5];simp only[go_sem,h8]
 clear hE5;by_cases hc:(j:Int)<x.rows.length;rotate_left
 ·refine ab _ _ _ (by rfl) ?_;simp only[go_sem,d6,d8,q0,hc];refine ab _ _ _ (by rfl) ?_;simp only[go_sem,d5,w1];exact⟨Nat.le_trans ov.next o2.next,⟨k+1,rfl,by omega,ov.trans o2⟩,by rw[h5];simp only[aa,aK];omega⟩
 obtain⟨l,hl⟩:=get_of_lt (l:=x.rows) (i:=j) (by omega);have hll:=g3 l (List.mem_of_getElem? hl);have hlg:(x.rows.map ae)[j]?=some (ae l):=by rw[List.getElem?_map,hl];rfl
 have hln:=aJ hl;have w2:=IntWalk.i64_in ((j:Int)+1) (by omega);refine W.seq (ab _ _ _ (by rfl) ?_);simp only[go_sem,d6,d8,q0,hc];refine W.seq (W.block (W.seq ?_));refine W.draw 10 [0,1,0,7,15,0,32,0,224,480] Try.mixed (by kernel_rfl) (by kernel_rfl) ?_;simp only[go_sem,d6,d7,d8,q0,q1,hc,hlg,hln];refine aB.clo (DQ l l (by omega) _ _ ⟨trivial,?_⟩);simp only[go_sem];refine ab _ _ _ (by rfl) ?_;simp only[go_sem];refine ab _ _ _ (by rfl) ?_;simp only[go_sem,d8,w2];exact⟨⟨j+1,rfl,by omega⟩,by rw[h8];simp only[aa,aK];omega⟩
set_option maxHeartbeats 8000000 in
theorem Nk (g0:Int)(ps:List DrP)(ord:List Int)(hg0:U8 g0)(hps:∀ x∈ps,x.Ok)(hpl:(ps.length:Int)<2 ^ 63)(hol:(ord.length:Int)<2 ^ 63)(ho8:∀ x∈ord,U8 x)
  (cw ca cr cn:Int) (hcw:U8 cw) (hca:U8 ca) (hcr:U8 cr) (ws ms:List Int) (hws:∀ x∈ws,0<=x/\x<65536) (hms:∀ x∈ms,0<=x/\x<256) (hwl:(ws.length:Int)<2 ^ 63) (hml:(ms.length:Int)<2 ^ 63)
  (bw ba bn:Int) (hbw:U8 bw) (hba:U8 ba) (least kk:Int) (hkk:U8 kk) (H:AHeap) (K:ARes->AHeap->Prop) (hK:∀ H',H.next<=H'.next->K (.ret (.lit (.bool true))) H'):
  af Try.prog G0 4 [.agg (rj g0 ps ord cw ca cr cn ws ms bw ba bn),aa least,.lit (.int .u8 kk)] H K:=by
 refine af.cS (n:=84) (rs:=[.tmp 6]) Try.func4 rfl rfl rfl (by decide) (by simp) ?_;refine W.seq (ab _ _ _ (by rfl) ?_);simp only[go_sem,rj];obtain⟨H1,hH1⟩:∃ H1,H1=ext H [.arr 0 32 (rj g0 ps ord cw ca cr cn ws ms bw ba bn)]:=⟨_,rfl⟩
 have b0:H1.get H.next=some (.arr 0 32 [.lit (.int .u8 g0),.vec ps.length (eP ps),.vec ord.length (aY ord),.lit (.int .u8 cw),.lit (.int .u8 ca),.lit (.int .u8 cr),.lit (.int .i64 cn),.vec ws.length (fU ws),.vec ms.length (aY ms),.lit (.int .u8 bw),.lit (.int .u8 ba),.lit (.int .i64 bn)]):=by rw[hH1];exact cJ ..
 have n1:H1.next=H.next+1:=by rw[hH1];rfl
 have o1:Over H H1:=by rw[hH1];exact .ext _ _
 refine W.env fun E hE=>?_;have e1:E 1=aa least:=by rw[hE];simp only[go_sem]
 have e1k:E 2=.lit (.int .u8 kk):=by rw[hE];simp only[go_sem]
 have e2:E 3=.ptr H.next 0 0:=by rw[hE];simp only[go_sem]
 clear hE;show W _ _ _ _ _ _ ⟨E,ext H [.arr 0 32 (rj g0 ps ord cw ca cr cn ws ms bw ba bn)]⟩;rw[<- hH1];clear hH1;have l0:=ah b0;refine W.seq (ab _ _ _ (by rfl) ?_);simp only[go_sem,e2,l0];refine aB.clo (Qn g0 ps ord hg0 hps hpl hol ho8 _ _ fun g ns N H2 o2 hN1 hN2 hN hok hn5 hp3=>⟨trivial,?_⟩);simp only[go_sem];have o2n:=o2.next;have hob:(ext H2 [.arr 0 35 [.lit (.int .i64 g),.own N 0 0 ns.length 3]]).get H2.next=some (.arr 0 35 [.lit (.int .i64 g),.own N 0 0 ns.length 3]):=cA;refine W.Fm (dG.eQ aP (rk:=N) (ob:=H2.next) (cells':=[.lit (.int .i64 g),.vec ns.length (au ns)]) hob (by omega) rfl (fun i hi _=>?_)) (Nat.le_refl _) trivial ?_
 ·match i,hi with
  | 0,_=>exact .lit _
  | 1,_=>exact .frz (cells:=au ns) rfl (by show (ext H2 _).get N=_;rw[cb _ _ _ hN2];exact hN) (fk ns) fun j h1 h2 h3=>by simp only[Nat.zero_add];exact Na ns _ (List.getElem_mem _)
 obtain⟨H3,hH3⟩:∃ H3,H3=(ext H2 [.arr 0 35 [.lit (.int .i64 g),.own N 0 0 ns.length 3]]).eQ N H2.next (.arr 0 35 [.lit (.int .i64 g),.vec ns.length (au ns)]):=⟨_,rfl⟩
 have n3:H3.next=H2.next+1:=by rw[hH3];rfl
 have g3:∀ id,id<H.next+1->H3.get id=H1.get id:=fun id h=>by
  rw[hH3,zh (by omega) (by omega),cb _ _ _ (by omega)];exact o2.old id (by omega)
 have gn:H3.get H2.next=some (.arr 0 35 [.lit (.int .i64 g),.vec ns.length (au ns)]):=by rw[hH3];exact zg (by omega)
 refine W.env fun E1 hE1=>?_;have f1:E1 1=aa least:=by rw[hE1];simp only[go_sem,e1]
 have f1k:E1 2=.lit (.int .u8 kk):=by rw[hE1];simp only[go_sem,e1k]
 have f2:E1 3=.ptr H.next 0 0:=by rw[hE1];simp only[go_sem,e2]
 have f5:E1 7=.ptr H2.next 0 0:=by rw[hE1];simp only[go_sem]
 clear hE1 e1 e2;rw[<- hH3];clear hH3 hob;have ln:=ah gn;have ls:=ah ((g3 _ (by omega)).trans b0);have nn8:=hok.n1.2;have nn1:=hok.n1.1;have sm:=Nb hok hp3;obtain⟨B,hB⟩:∃ B,B=iC (cw % 12) (ca % (ns.length:Int)).toNat cr cn g ns:=⟨_,rfl⟩
 obtain⟨bS,bQ,bL⟩:=NI (A:=(ca % (ns.length:Int)).toNat) (c:=cw % 12) (r:=cr) (n:=cn) (g:=g) sm;rw[<- hB]at bS bQ bL;refine W.seq (W.seq ?_);refine W.draw 7 [0,0,2,0,14,31,0] Try.mixed (by kernel_rfl) (by kernel_rfl) ?_;simp only[go_sem,f2,f5,ls,ln];refine⟨.agg [aa B.1,.vec B.2.1.length B.2.2],[],dA.pure (fun Hz=>Ns cw ca cr cn (by unfold U8 at hcw;omega) (by unfold U8 at hca;omega) (by unfold U8 at hcr;omega) g ns 600 (by omega) sm Hz _ fun g2 ns2 c2 h2 _ _ _=>⟨by rw[hB,<- h2],rfl⟩),?_⟩;simp only[go_sem];refine W.block ?_;obtain⟨L4,hL4⟩:∃ L4,L4=[AVal.lit (.int .i64 g),.vec ns.length (au ns),.lit (.int .i64 B.1),.vec B.2.1.length B.2.2]:=⟨_,rfl⟩
 refine W.env fun E3 hE3=>?_;have m1:E3 1=aa least:=by rw[hE3];simp only[go_sem,f1]
 have m1k:E3 2=.lit (.int .u8 kk):=by rw[hE3];simp only[go_sem,f1k]
 have m2:E3 3=.ptr H.next 0 0:=by rw[hE3];simp only[go_sem,f2]
 have m5:E3 7=.ptr H2.next 0 0:=by rw[hE3];simp only[go_sem,f5]
 have m24:E3 26=.agg L4:=by rw[hE3,hL4];simp only[go_sem]
 have m25:E3 27=aa 0:=by rw[hE3];simp only[go_sem]
 clear hE3;refine W.aG 9671406556917033263688256 (by kernel_rfl) (fun ρ Hx=>Over H3 Hx/\∃ k:Nat,ρ 27=aa k/\k<=2) (fun ρ H=>2 - (iv (ρ 27)).toNat) ?_ ?_
 ·exact⟨.refl _,0,m25,by omega⟩
 rintro ρ2 Hx ⟨ov,k,h25,hk⟩;have ovn:=ov.next;refine W.env fun E hE=>?_;have q1:E 1=aa least:=by rw[hE];simp only[go_sem,m1]
 have q1k:E 2=.lit (.int .u8 kk):=by rw[hE];simp only[go_sem,m1k]
 have q2:E 3=.ptr H.next 0 0:=by rw[hE];simp only[go_sem,m2]
 have q5:E 7=.ptr H2.next 0 0:=by rw[hE];simp only[go_sem,m5]
 have q24:E 26=.agg L4:=by rw[hE];simp only[go_sem,m24]
 have q25:E 27=aa k:=by rw[hE];simp only[go_sem,h25]
 clear hE;by_cases hb:(k:Int)<2;rotate_left
 ·refine ab _ _ _ (by rfl) ?_;simp only[go_sem,q25,hb];refine ab _ _ _ (by rfl) ?_;simp only[go_sem];refine aB.clo (RB _ _ ⟨trivial,?_⟩);simp only[go_sem];exact av.mk (by have:=o1.next;omega) (hK _ (by have:=o1.next;omega))
 obtain⟨gk,nk,ck,hpart,fitN,eN,hQ⟩:∃ (gk:Int) (nk:List NodeP) (ck:List AVal),(L4.drop (k*2)).take 2=[.lit (.int .i64 gk),.vec nk.length ck]/\iJ nk/\∃ e:Nat->Prop,NodesQ e nk ck:=by
  have hk2:k=0\/k=1:=by omega
  rcases hk2 with rfl|rfl
  ·exact⟨g,ns,au ns,by rw[hL4];rfl,sm.fit (by omega),fun _=>False,⟨fk ns,fun v x hx=>⟨_,iF hx,kS hx,ni hx,.inl rfl,fun h=>h.elim⟩⟩⟩
  ·exact⟨B.1,B.2.1,B.2.2,by rw[hL4];rfl,bS.fit (by omega),_,bQ⟩
 have l4:L4.length=4:=by rw[hL4];rfl
 have kb:k*2+2<=4:=by omega
 have lnE:∀ L,(ext Hx L).live H2.next 0=some (35,[.lit (.int .i64 g),.vec ns.length (au ns)]):=fun L=>(dB (by omega)).trans (ah ((ov.old _ (by omega)).trans gn));have lsE:∀ L,(ext Hx L).live H.next 0=some (32,[.lit (.int .u8 g0),.vec ps.length (eP ps),.vec ord.length (aY ord),.lit (.int .u8 cw),.lit (.int .u8 ca),.lit (.int .u8 cr),.lit (.int .i64 cn),.vec ws.length (fU ws),.vec ms.length (aY ms),.lit (.int .u8 bw),.lit (.int .u8 ba),.lit (.int .i64 bn)]):=fun L=>(dB (by omega)).trans (ah ((ov.old _ (by omega)).trans ((g3 _ (by omega)).trans b0)));refine ab _ _ _ (by rfl) ?_;simp only[go_sem,q2,q5,q24,q25,hb,hpart,l4,kb,lnE,lsE];obtain⟨H6,hH6⟩:∃ H6,H6=ext Hx [.arr 0 35 [.lit (.int .i64 gk),.vec nk.length ck]]:=⟨_,rfl⟩
 have n6:H6.next=Hx.next+1:=by rw[hH6];rfl
 have o6:Over Hx H6:=by rw[hH6];exact .ext _ _
 have gm:H6.get Hx.next=some (.arr 0 35 [.lit (.int .i64 gk),.vec nk.length ck]):=by rw[hH6];exact cA
 have hc4:∀ y∈ns,1<=y.card/\y.card<=4:=fun y hy=>(hok.node y hy).1;refine aB.clo (M9 [.lit (.int .u8 g0),.vec ps.length (eP ps),.vec ord.length (aY ord)] [.lit (.int .u8 cw),.lit (.int .u8 ca),.lit (.int .u8 cr),.lit (.int .i64 cn)] rfl rfl (fun c hc=>by
  simp only[List.cons_append,List.nil_append,List.mem_cons,List.not_mem_nil,or_false]at hc;rcases hc with rfl|rfl|rfl|rfl|rfl|rfl|rfl<;>rfl) g ns hok.n1 hc4 hok.size ws ms hws hms hwl hml bw ba bn hbw hba _ _ ⟨trivial,?_⟩)
 rw[<- hH6];obtain⟨D3,hD3⟩:∃ D3,D3=yh ns ws ms bw ba bn:=⟨_,rfl⟩
 obtain⟨L6,hL6⟩:∃ L6,L6=ur D3:=⟨_,rfl⟩
 rw[<- hD3,<- hL6];have csl:(ar ns).length=ns.length:=bP ns;have cxl:(iy ns ws ms).length<=12:=by unfold iy;rw[List.length_map,List.length_range];omega
 have crw:ng (ar ns).length (iy ns ws ms):=fun r hr=>by
  unfold iy at hr;obtain⟨j,_,rfl⟩:=List.mem_map.1 hr;unfold pB;rw[mY,kT]
 have dfit:=N0 (w:=bw) (a:=ba) (n:=bn) (cs:=ar ns) (xs:=iy ns ws ms) (by omega) (by omega) crw;have l6:L6.length=6:=by rw[hL6,hD3];rfl
 simp only[go_sem];refine W.env fun E2 hE2=>?_;have s1:E2 1=aa least:=by rw[hE2];simp only[go_sem,q1]
 have s1k:E2 2=.lit (.int .u8 kk):=by rw[hE2];simp only[go_sem,q1k]
 have s2:E2 3=.ptr H.next 0 0:=by rw[hE2];simp only[go_sem,q2]
 have s5:E2 7=.ptr H2.next 0 0:=by rw[hE2];simp only[go_sem,q5]
 have s7:E2 9=.ptr Hx.next 0 0:=by rw[hE2];simp only[go_sem]
 have s24:E2 26=.agg L4:=by rw[hE2];simp only[go_sem,q24]
 have s25:E2 27=aa k:=by rw[hE2];simp only[go_sem,q25]
 have s30:E2 32=.agg L6:=by rw[hE2];simp only[go_sem]
 have s31:E2 33=aa 0:=by rw[hE2];simp only[go_sem]
 clear hE2;have w1:=IntWalk.i64_in ((k:Int)+1) (by omega);refine W.aG 4835703278458508109146176 (by kernel_rfl) (fun ρ Hy=>Over H6 Hy/\∃ j:Nat,ρ 33=aa j/\j<=3) (fun ρ H=>3 - (iv (ρ 33)).toNat) ?_ ?_
 ·exact⟨.refl _,0,s31,by omega⟩
 rintro ρ4 Hy ⟨ovy,j,h31,hj⟩;have ovyn:=ovy.next;refine W.env fun E4 hE4=>?_;have t1:E4 1=aa least:=by rw[hE4];simp only[go_sem,s1]
 have t1k:E4 2=.lit (.int .u8 kk):=by rw[hE4];simp only[go_sem,s1k]
 have t7:E4 9=.ptr Hx.next 0 0:=by rw[hE4];simp only[go_sem,s7]
 have t25:E4 27=aa k:=by rw[hE4];simp only[go_sem,s25]
 have t30:E4 32=.agg L6:=by rw[hE4];simp only[go_sem,s30]
 have t31:E4 33=aa j:=by rw[hE4];simp only[go_sem,h31]
 clear hE4;by_cases hb2:(j:Int)<3;rotate_left
 ·refine ab _ _ _ (by rfl) ?_;simp only[go_sem,t25,t31,hb2,w1];exact⟨by omega,⟨ov.trans (o6.trans ovy),k+1,rfl,by omega⟩,by rw[h25];simp only[aa,aK];omega⟩
 obtain⟨yc,yx,hpart2,fitD⟩:∃ (yc:List Int) (yx:List (List Int)),(L6.drop (j*2)).take 2=[ae yc,aA yx]/\kO yc yx:=by
  have hj3:j=0\/j=1\/j=2:=by omega
  rcases hj3 with rfl|rfl|rfl
  ·exact⟨ar ns,iy ns ws ms,by rw[hL6,hD3];rfl,lZ (by omega) (by omega) fun r hr=>by rw[crw r hr];omega⟩
  ·exact⟨_,_,by rw[hL6,hD3];rfl,dfit⟩
  ·exact⟨[2,2],[[0,-1]],by rw[hL6,hD3];rfl,lZ (by simp) (by simp) fun r hr=>by rw[List.mem_singleton.1 hr];simp⟩
 have jb:j*2+2<=6:=by omega
 have gmE:∀ L,(ext Hy L).live Hx.next 0=some (35,[.lit (.int .i64 gk),.vec nk.length ck]):=fun L=>(dB (by omega)).trans (ah ((ovy.old _ (by omega)).trans gm));have km:kk.tmod 3=kk % 3:=Int.tmod_eq_emod_of_nonneg (by unfold U8 at hkk;omega);have kw:=IntWalk.i64_in (kk % 3) (by omega);refine ab _ _ _ (by rfl) ?_;simp only[go_sem,t1,t1k,t30,t31,hb2,hpart2,l6,jb,ae,aA,km];obtain⟨H7,hH7⟩:∃ H7,H7=ext Hy [.arr 0 42 [.vec yc.length (ints yc),.vec yx.length (yx.map ae)]]:=⟨_,rfl⟩
 have n7:H7.next=Hy.next+1:=by rw[hH7];rfl
 have o7:Over Hy H7:=by rw[hH7];exact .ext _ _
 have gd:H7.get Hy.next=some (.arr 0 42 [.vec yc.length (ints yc),.vec yx.length (yx.map ae)]):=by rw[hH7];exact cA
 have gm7:H7.get Hx.next=some (.arr 0 35 [.lit (.int .i64 gk),.vec nk.length ck]):=(o7.old _ (by omega)).trans ((ovy.old _ (by omega)).trans gm);refine W.env fun E5 hE5=>?_;have u7:E5 9=.ptr Hx.next 0 0:=by rw[hE5];simp only[go_sem,t7]
 have u9:E5 11=.ptr Hy.next 0 0:=by rw[hE5];simp only[go_sem]
 have u25:E5 27=aa k:=by rw[hE5];simp only[go_sem,t25]
 have u31:E5 33=aa j:=by rw[hE5];simp only[go_sem,t31]
 have u45:E5 41=aa 0:=by rw[hE5];simp only[go_sem]
 obtain⟨uu,u44⟩:∃ uu:Int,E5 40=.agg [aa least,aa uu]:=⟨_,by rw[hE5];rfl⟩
 clear hE5;show W _ _ _ _ _ _ ⟨E5,ext Hy [.arr 0 42 [.vec yc.length (ints yc),.vec yx.length (yx.map ae)]]⟩;rw[<- hH7];have w2:=IntWalk.i64_in ((j:Int)+1) (by omega);refine W.aG 2417851639227059326410816 (by kernel_rfl) (fun ρ Hz=>Over H7 Hz/\∃ i:Nat,ρ 41=aa i/\i<=2) (fun ρ H=>2 - (iv (ρ 41)).toNat) ?_ ?_
 ·exact⟨.refl _,0,u45,by omega⟩
 rintro ρ6 Hz ⟨ovz,i,h45,hi⟩;have ovzn:=ovz.next;refine W.env fun E6 hE6=>?_;have z7:E6 9=.ptr Hx.next 0 0:=by rw[hE6];simp only[go_sem,u7]
 have z9:E6 11=.ptr Hy.next 0 0:=by rw[hE6];simp only[go_sem,u9]
 have z25:E6 27=aa k:=by rw[hE6];simp only[go_sem,u25]
 have z31:E6 33=aa j:=by rw[hE6];simp only[go_sem,u31]
 have z44:E6 40=.agg [aa least,aa uu]:=by rw[hE6];simp only[go_sem,u44]
 have z45:E6 41=aa i:=by rw[hE6];simp only[go_sem,h45]
 clear hE6;by_cases hb3:(i:Int)<2;rotate_left
 ·refine ab _ _ _ (by rfl) ?_;simp only[go_sem,z31,z45,hb3,w2];exact⟨by omega,⟨ovy.trans (o7.trans ovz),j+1,rfl,by omega⟩,by rw[h31];simp only[aa,aK];omega⟩
 obtain⟨w,hw⟩:∃ w:Int,[AVal.lit (.int .i64 least),.lit (.int .i64 uu)][i]?=some (.lit (.int .i64 w)):=by
  have hi2:i=0\/i=1:=by omega
  rcases hi2 with rfl|rfl
  ·exact⟨least,rfl⟩
  ·exact⟨uu,rfl⟩
 have w3:=IntWalk.i64_in ((i:Int)+1) (by omega);have ib:i*1+1<=2:=by omega
 have lm:=ah ((ovz.old _ (by omega)).trans gm7);have ld:=ah ((ovz.old _ (by omega)).trans gd);have fz2:∀ (Hq:AHeap) (i:Nat) (h:i<[AVal.agg [.lit (.int .i64 gk),.vec nk.length ck],.agg [.vec yc.length (ints yc),.vec yx.length (yx.map ae)]].length) (h':i<[aQ gk nk,cj yc yx].length),Fz (fun _=>False) Hq Hq.next [AVal.agg [.lit (.int .i64 gk),.vec nk.length ck],.agg [.vec yc.length (ints yc),.vec yx.length (yx.map ae)]][i] [aQ gk nk,cj yc yx][i]:=fun Hq i h h' =>
  match i,h with
  | 0,_=>yw hQ gk
  | 1,_=>uB (.dk _) (pN yx)
 have fz3:∀ (Hq:AHeap) (i:Nat) (h:i<[AVal.agg [.lit (.int .i64 gk),.vec nk.length ck],.agg [.vec yc.length (ints yc),.vec yx.length (yx.map ae)],aa w].length) (h':i<[aQ gk nk,cj yc yx,aa w].length),Fz (fun _=>False) Hq Hq.next [AVal.agg [.lit (.int .i64 gk),.vec nk.length ck],.agg [.vec yc.length (ints yc),.vec yx.length (yx.map ae)],aa w][i] [aQ gk nk,cj yc yx,aa w][i]:=fun Hq i h h' =>
  match i,h with
  | 0,_=>yw hQ gk
  | 1,_=>uB (.dk _) (pN yx)
  | 2,_=>.lit _
 refine ab _ _ _ (by rfl) ?_;simp only[go_sem,z7,z9,z44,z45,hb3,hw,lm,ld];refine aB.clo (af.pT (args':=[aQ gk nk,cj yc yx,aa w]) aP rfl (fz3 _) (Ni gk nk yc yx fitN fitD w _ _ ⟨trivial,?_⟩));obtain⟨y1,hy1⟩:∃ y,y=(mZ gk nk yc yx w).1:=⟨_,rfl⟩
 obtain⟨y2,hy2⟩:∃ y,y=(mZ gk nk yc yx w).2:=⟨_,rfl⟩
 obtain⟨err,hErr⟩:∃ e,e=kM gk nk yc yx w:=⟨_,rfl⟩
 rw[<- hy1,<- hy2,<- hErr];unfold mZ at hy1 hy2;rw[<- hErr]at hy1 hy2;unfold kM at hErr;have zl:∀ L,(ext Hz L).live Hx.next 0=_:=fun L=>(dB (by omega)).trans lm;have zd:∀ L,(ext Hz L).live Hy.next 0=_:=fun L=>(dB (by omega)).trans ld;have x0:(ext Hz [.arr 0 35 [.lit (.int .i64 y1),.vec y2.length (au y2)],.arr 0 35 [.lit (.int .i64 0),.lit (.slice none 0 0)]]).live Hz.next 0=some (35,[.lit (.int .i64 y1),.vec y2.length (au y2)]):=ah (cJ ..);have x1:(ext Hz [.arr 0 35 [.lit (.int .i64 y1),.vec y2.length (au y2)],.arr 0 35 [.lit (.int .i64 0),.lit (.slice none 0 0)]]).live (Hz.next+1) 0=some (35,[.lit (.int .i64 0),.lit (.slice none 0 0)]):=ah (bg Hz _ 1 (by simp));have x0u:∀ b,((ext Hz [.arr 0 35 [.lit (.int .i64 y1),.vec y2.length (au y2)],.arr 0 35 [.lit (.int .i64 0),.lit (.slice none 0 0)]]).upd (Hz.next+1) b).live Hz.next 0=some (35,[.lit (.int .i64 y1),.vec y2.length (au y2)]):=fun b=>(g9 (by omega)).trans x0;have oz:∀ L,Over H7 (ext Hz L):=fun L=>ovz.trans (.ext _ _);have same:y1=0->y2=[]->∀ (Hq:AHeap) (K':ARes->AHeap->Prop),K' (.ret (.lit (.bool true))) Hq->af Try.prog G0 21 [.agg [.lit (.int .i64 y1),.vec y2.length (au y2)],.agg [.lit (.int .i64 0),.lit (.slice none 0 0)]] Hq K':=fun a b Hq K' h=>by
  refine af.pT (args':=[aQ y1 y2,aQ y1 y2]) aP rfl (fun i hi _=>?_) (D1 y1 y2 (by rw[b];exact⟨by simp,fun x hx=>by cases hx⟩) Hq K' h)
  match i,hi with
  | 0,_=>exact .agg rfl fun i hi _=>match i,hi with
   | 0,_=>.lit _
   | 1,_=>rT _
  | 1,_ =>
   rw[a,b];exact .agg rfl fun i hi _=>match i,hi with
   | 0,_=>.lit _
   | 1,_=>.nil
 simp only[go_sem,aQ,bW,z7,z9,zl,zd];refine aB.clo (af.pT (args':=[aQ gk nk,cj yc yx]) aP rfl (fz2 _) (NZ gk nk yc yx fitN fitD _ _ ⟨trivial,?_⟩));obtain⟨le,hle⟩:∃ e,e=gS gk nk yc yx:=⟨_,rfl⟩
 rw[<- hle]at hErr ⊢;by_cases h0:le=0;rotate_left
 ·rw[if_pos h0]at hErr;have ne:¬ err=0:=by rw[hErr];exact h0
  rw[if_neg ne]at hy1 hy2;simp only[go_sem,h0,hErr,x0,x1];refine aB.clo (same hy1 hy2 _ _ ⟨trivial,?_⟩);simp only[go_sem,z45,w3];exact⟨by omega,⟨oz _,i+1,rfl,by omega⟩,by rw[h45];simp only[aa,aK];omega⟩
 rw[if_neg (fun hh=>hh h0)]at hErr;rw[h0]at hle ⊢;obtain⟨kok,kdk,kca⟩:=yf hle.symm;obtain⟨h6,h40,hrow⟩:=Ci hle.symm;have fz1:∀ (Hq:AHeap) (i:Nat) (h:i<[AVal.agg [.lit (.int .i64 gk),.vec nk.length ck],aa w].length) (h':i<[aQ gk nk,aa w].length),Fz (fun _=>False) Hq Hq.next [AVal.agg [.lit (.int .i64 gk),.vec nk.length ck],aa w][i] [aQ gk nk,aa w][i]:=fun Hq i h h' =>
  match i,h with
  | 0,_=>yw hQ gk
  | 1,_=>.lit _
 simp only[go_sem,z7,zl];refine aB.clo (af.pT (args':=[aQ gk nk,aa w]) aP rfl (fz1 _) (Nc gk nk kok w _ _ ⟨trivial,?_⟩));cases hF:lU gk nk w
 ·rw[hF,if_neg (by decide)]at hErr;rw[if_neg (by rw[hErr];decide)]at hy1 hy2;simp only[go_sem,hErr,x0,x1];refine aB.clo (same hy1 hy2 _ _ ⟨trivial,?_⟩);simp only[go_sem,z45,w3];exact⟨by omega,⟨oz _,i+1,rfl,by omega⟩,by rw[h45];simp only[aa,aK];omega⟩
 have fair:=(yk kok).1 hF;rw[hF,if_pos rfl]at hErr;simp only[go_sem,z7,z9,zl,zd];refine aB.clo (af.pT (args':=[aQ gk nk,cj yc yx]) aP rfl (fz2 _) (MV gk nk kok yc yx (by omega) hrow _ _ ⟨trivial,?_⟩));cases hP:mX nk yx
 ·rw[hP,if_neg (by decide)]at hErr;rw[if_neg (by rw[hErr];decide)]at hy1 hy2;simp only[go_sem,hErr,x0,x1];refine aB.clo (same hy1 hy2 _ _ ⟨trivial,?_⟩);simp only[go_sem,z45,w3];exact⟨by omega,⟨oz _,i+1,rfl,by omega⟩,by rw[h45];simp only[aa,aK];omega⟩
 rw[hP,if_pos rfl]at hErr;rw[if_pos hErr]at hy1 hy2;simp only[go_sem,z7,z9,zl,zd];refine aB.clo (af.pT (args':=[aQ gk nk,cj yc yx,aa w]) aP rfl (fz3 _) (Nj gk nk kok h6 yc yx (by omega) hrow w fair _ _ ⟨trivial,?_⟩));simp only at hy1 hy2;rw[<- hy2,<- hy1];have kf:=Ng kok h6 fair (by omega) hrow fitN;rw[<- hy2]at kf;simp only[go_sem,aQ,bW,hErr,x1];refine aB.clo (D1 y1 y2 kf _ _ ⟨trivial,?_⟩);simp only[go_sem,z45,w3];exact⟨by omega,⟨oz _,i+1,rfl,by omega⟩,by rw[h45];simp only[aa,aK];omega⟩
end Go.Proofs
