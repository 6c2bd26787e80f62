/- Own work: contracts. -/
import Derived.Test.YtakancljiekbhaaConD
import Derived.Test.YtakancljiekbhaaConB
import Derived.Test.YtakancljiekbhaaConA
import Derived.Test.YtakancljiekbhaaConC
set_option linter.all false
set_option maxRecDepth 100000
namespace Go.Proofs
open Go.Hx
set_option maxHeartbeats 4000000 in
theorem Ni (g:Int)(ns:List NodeP)(h:NetOk g ns)(h6:ns.length<=6)(cs:List Int)(xs:List (List Int))(hx40:xs.length<=64)(hrow:∀ r∈xs,r.length=ns.length)(v:Nat)(x:NodeP)(hx:ns[v]?=some x)
  (H:AHeap) (K:ARes->AHeap->Prop) (hK:K (.ret (.tup [af (cY ns x v xs),aa 0])) H):
  ae Try.prog G0 43 [aO g ns,cO cs xs,aa v] H K:=by
 refine ae.clo ⟨_,Try.func43,rfl,rfl⟩ fun hcl=>?_;have n8:=h.n1;have hxm:=List.mem_of_getElem? hx;have hxc:=(h.node x hxm).1;have hrc:=xY h hx;have hvn:(v:Int)<ns.length:=by have:=get_lt hx;omega
 have hne:=fa hx;have hpt:=kf hx;have hbd:v*3+3<=(ar ns).length:=by rw[fD];omega
 have wL:=IntWalk.i64_in ((x.rows.length:Int)*x.card) (by omega);obtain⟨L,hL⟩:∃ L:Nat,(x.rows.length:Int)*x.card=L:=⟨((x.rows.length:Int)*x.card).toNat,by omega⟩
 have hLn:x.rows.length*x.card.toNat=L:=by
  have:((x.rows.length*x.card.toNat:Nat):Int)=x.rows.length*x.card:=by rw[Int.natCast_mul,Int.toNat_of_nonneg (by omega)]
  omega
 rw[hL]at wL hrc;refine ae.bM (n:=111) (rs:=[.tmp 6,.tmp 7]) Try.func43 rfl rfl rfl (by decide) (by kernel_rfl) (by simp) ?_;simp only[go_sem,aO,cM,cO,aE,hvn,hne,hpt,hbd,hL,wL];refine⟨by omega,?_⟩;obtain⟨H1,hH1⟩:∃ H1,H1=ext H [.arr 0 35 [aa g,.vec ns.length (ar ns)],.arr 0 42 [.vec cs.length (ints cs),.vec xs.length (xs.map af)],.arr 0 3 [aa v],.arr 0 69 [aa x.card,.vec x.parents.length (ints x.parents),.vec x.rows.length (x.rows.map af)],.arr 0 3 (List.replicate L (aa 0))]:=⟨_,rfl⟩
 have n1:H1.next=H.next+5:=by rw[hH1];rfl
 have o1:Over H H1:=by rw[hH1];exact .ext _ _
 have g0:H1.get H.next=some (.arr 0 35 [aa g,.vec ns.length (ar ns)]):=by rw[hH1];exact bg H _ 0 (by simp)
 have g2:H1.get (H.next+2)=some (.arr 0 3 [aa v]):=by rw[hH1];exact bg H _ 2 (by simp)
 have g3:H1.get (H.next+3)=some (.arr 0 69 [aa x.card,.vec x.parents.length (ints x.parents),.vec x.rows.length (x.rows.map af)]):=by rw[hH1];exact bg H _ 3 (by simp)
 have hz:List.replicate L (aa 0)=ints (List.replicate L 0):=by simp [ints,aa]
 have g4:H1.get (H.next+4)=some (.arr 0 3 (ints (cY ns x v (xs.take 0)))):=by
  rw[hH1,bg H _ 4 (by simp)];show some (Blk.arr 0 _ (List.replicate L (aa 0)))=some (.arr 0 _ (ints (List.replicate (x.rows.length*x.card.toNat) 0)));rw[hz,hLn]
 refine W.env fun E hE=>?_;have e3:E 3=.ptr H.next 0 0:=by rw[hE];simp only[go_sem]
 have e5:E 5=.ptr (H.next+2) 0 0:=by rw[hE];simp only[go_sem]
 have e8:E 8=.ptr (H.next+3) 0 0:=by rw[hE];simp only[go_sem]
 have e9:E 9=.own (H.next+4) 0 0 L 1:=by rw[hE];simp only[go_sem]
 have e35:E 35=.vec xs.length (xs.map af):=by rw[hE];simp only[go_sem]
 have e36:E 36=aa xs.length:=by rw[hE];simp only[go_sem]
 have e37:E 37=aa 0:=by rw[hE];simp only[go_sem]
 clear hE;show W _ _ _ _ _ _ ⟨E,ext H [.arr 0 35 [aa g,.vec ns.length (ar ns)],.arr 0 42 [.vec cs.length (ints cs),.vec xs.length (xs.map af)],.arr 0 3 [aa v],.arr 0 69 [aa x.card,.vec x.parents.length (ints x.parents),.vec x.rows.length (x.rows.map af)],.arr 0 3 (List.replicate L (aa 0))]⟩;rw[<- hH1];refine W.aI 1298074137262454452077694442805440 (by kernel_rfl) (fun ρ H'=>∃ i:Nat,ρ 37=aa i/\i<=xs.length/\H1.next<=H'.next/\(∀ id,id<H1.next->id≠H.next+4->H'.get id=H1.get id)/\H'.get (H.next+4)=some (.arr 0 3 (ints (cY ns x v (xs.take i))))) (fun ρ H=>xs.length - (iv (ρ 37)).toNat) ?_ ?_
 ·exact⟨0,e37,by omega,Nat.le_refl _,fun _ _ _=>rfl,g4⟩
 rintro ρ H' ⟨i,h37,hi,hn,hk,hg4⟩;have hxt:∀ r∈xs.take i,r.length=ns.length:=fun r hr=>hrow r (List.mem_of_mem_take hr);obtain⟨el,er⟩:=x5 h h6 hx (xs.take i) hxt;obtain⟨X,hX⟩:∃ X,X=cY ns x v (xs.take i):=⟨_,rfl⟩
 rw[<- hX]at el er hg4;rw[hL]at el;have hXl:X.length=L:=by omega
 refine W.env fun F hF=>?_;have f3:F 3=.ptr H.next 0 0:=by rw[hF];simp only[go_sem,e3]
 have f5:F 5=.ptr (H.next+2) 0 0:=by rw[hF];simp only[go_sem,e5]
 have f8:F 8=.ptr (H.next+3) 0 0:=by rw[hF];simp only[go_sem,e8]
 have f9:F 9=.own (H.next+4) 0 0 L 1:=by rw[hF];simp only[go_sem,e9]
 have f35:F 35=.vec xs.length (xs.map af):=by rw[hF];simp only[go_sem,e35]
 have f36:F 36=aa xs.length:=by rw[hF];simp only[go_sem,e36]
 have f37:F 37=aa i:=by rw[hF];simp only[go_sem,h37]
 clear hF;by_cases hb:(i:Int)<xs.length;rotate_left
 ·have ei:i=xs.length:=by omega
  refine ab _ _ _ (by rfl) ?_;simp only[go_sem,f9,f36,f37,hb];rw[ei,List.take_length]at hX;rw[<- hX]at hK;have ovx:Over H H':=⟨by omega,fun id hi=>(hk id (by omega) (by omega)).trans (o1.old id hi)⟩
  exact av.bY (v':=.tup [af X,aa 0]) aV hcl ovx (.tup rfl fun i hi _=>match i,hi with
   | 0,_=>Fz.ints (by omega) hg4 hXl.symm fun j hj=>by rw[Nat.zero_add,gF];simp only[List.getElem?_eq_getElem hj,Option.map_some]
   | 1,_=>.lit _) hK
 obtain⟨r,hr⟩:=get_of_lt (l:=xs) (i:=i) (by omega);have hr':=uv hr;have hrn:=aN hr';have hrl:=hrow r (List.mem_of_getElem? hr);have lE:∀ L,(ext H' L).live H.next 0=some (35,[aa g,.vec ns.length (ar ns)]):=fun L=>ak ((dF _ _ _ (by omega)).trans ((hk H.next (by omega) (by omega)).trans g0));have l4:H'.live (H.next+4) 0=some (3,ints X):=ak hg4;have hbL:(L:Int)*8<=2 ^ 46/\(L:Int)<=2 ^ 46:=by omega
 refine ab _ _ _ (by rfl) ?_;simp only[go_sem,f3,f9,f35,f36,f37,hb,hr',hrn,lE,l4,hbL];obtain⟨Ha,hHa⟩:∃ Ha,Ha=ext H' [.arr 0 3 (List.replicate L (aa 0)),.arr 0 39 [.own H'.next 0 0 L 1]]:=⟨_,rfl⟩
 obtain⟨Hb,hHb⟩:∃ Hb,Hb=ext Ha [.arr 0 127 [aa g,.vec ns.length (ar ns),.vec r.length (ints r)]]:=⟨_,rfl⟩
 have na:Ha.next=H'.next+2:=by rw[hHa];rfl
 have nb:Hb.next=H'.next+3:=by rw[hHb];show Ha.next+1=_;rw[na]
 have ka:Ha.get H'.next=some (.arr 0 3 (ints (fQ ns x v []))):=by
  rw[hHa,dp];show some (Blk.arr 0 _ (List.replicate L (aa 0)))=some (.arr 0 _ (ints (List.replicate (x.rows.length*x.card.toNat) 0)));rw[hz,hLn]
 have ka1:Ha.get (H'.next+1)=some (.arr 0 39 [.own H'.next 0 0 L 1]):=by rw[hHa];exact bg H' _ 1 (by simp)
 have kb:Hb.get (H'.next+2)=some (.arr 0 127 [aa g,.vec ns.length (ar ns),.vec r.length (ints r)]):=by rw[hHb,<- na];exact cu
 have oab:∀ id,id<H'.next+2->Hb.get id=Ha.get id:=fun id hh=>by rw[hHb];exact dz (by omega)
 have oa:∀ id,id<H'.next->Hb.get id=H'.get id:=fun id hh=>by rw[oab id (by omega),hHa];exact dF _ _ _ hh
 refine aw.clo (B9 g ns r _ _ ⟨trivial,?_⟩);simp only[go_sem];refine W.env fun E1 hE1=>?_;have k3:E1 3=.ptr H.next 0 0:=by rw[hE1];simp only[go_sem,f3]
 have k5:E1 5=.ptr (H.next+2) 0 0:=by rw[hE1];simp only[go_sem,f5]
 have k8:E1 8=.ptr (H.next+3) 0 0:=by rw[hE1];simp only[go_sem,f8]
 have k9:E1 9=.own (H.next+4) 0 0 L 1:=by rw[hE1];simp only[go_sem,f9]
 have k12:E1 12=.ptr (H'.next+1) 0 0:=by rw[hE1];simp only[go_sem]
 have k35:E1 35=.vec xs.length (xs.map af):=by rw[hE1];simp only[go_sem,f35]
 have k36:E1 36=aa xs.length:=by rw[hE1];simp only[go_sem,f36]
 have k37:E1 37=aa i:=by rw[hE1];simp only[go_sem,f37]
 have k47:E1 47=.clo 88 [] [.ptr (H'.next+2) 0 0]:=by rw[hE1];rfl
 clear hE1;show W _ _ _ _ _ _ ⟨E1,ext (ext H' [.arr 0 3 (List.replicate L (aa 0)),.arr 0 39 [.own H'.next 0 0 L 1]]) [.arr 0 127 [aa g,.vec ns.length (ar ns),.vec r.length (ints r)]]⟩;rw[<- hHa,<- hHb];have w1:=IntWalk.i64_in ((i:Int)+1) (by omega);obtain⟨D,hD⟩:∃ D,D=df (au ns) r:=⟨_,rfl⟩
 have hDf:∀ w∈D,cR (au ns) w:=fun w hw=>qW (jW h) (by rw[hrl,cG]) (by rw[<- hD];exact hw);have hDl:(iT ns r (Hb.next+1)).length=D.length:=by unfold iT;rw[List.length_map,hD]
 have mt:=xV h hrl;rw[<- hD]at mt;refine W.B4 (f:=88) (first:=[]) (cap:=[.ptr (H'.next+2) 0 0]) (by show E1 47=_;exact k47) (B8 g ns h r hrl (H'.next+2) (Hb.next+1) (by omega))
  (fun k Hx=>Hb.next<Hx.next/\(∀ id,id<Hb.next->id≠H'.next->Hx.get id=Hb.get id)/\Hx.get H'.next=some (.arr 0 3 (ints (fQ ns x v (D.take k)))))
  (fun k Hx hj=>(hj.2.1 _ (by omega) (by omega)).trans kb)
  (fun k H1 H3 hj hw=>⟨by have:=hw.1;omega,fun id h1 h2=>(hw.2 _ (by omega) (by have:=hj.1;omega)).trans (hj.2.1 id h1 h2),(hw.2 _ (by omega) (by have:=hj.1;omega)).trans hj.2.2⟩)
  (fun k Hx hj=>hj.1)
  (fun k H1 b hj=>⟨hj.1,fun id h1 h2=>by rw[ag,if_neg (by omega)];exact hj.2.1 id h1 h2,by rw[ag,if_neg (by omega)];exact hj.2.2⟩)
  (fun b=>⟨by rw[bI];simp,fun id h1 h2=>dz h1,by rw[dz (by omega),oab _ (by omega)];exact ka⟩) (by decide)
  (fun x hx=>by
   unfold iT at hx;obtain⟨w,_,rfl⟩:=List.mem_map.1 hx;rfl) (fun _ _ _=>trivial) (fun k y Hx B Bb hy hj hs hn2 hB hBb=>?_) (fun Hx hj hn2=>?_)
 ·obtain⟨hh1,hh2,hh3⟩:=hj;obtain⟨w,hw,hwN⟩:=hs;rw[<- hD]at hw;have hwf:=hDf w (List.mem_of_getElem? hw);have hy':y=[.own (Hb.next+1+1) 0 0 ns.length 1,aa (weight ns w)]:=by
   unfold iT at hy;rw[<- hD,List.getElem?_map,hw]at hy;exact(Option.some.inj hy).symm
  subst hy';refine ab _ _ _ (by rfl) ?_;simp only[go_sem,kB,db,rH,List.foldl_cons,List.foldl_nil,List.zip_cons_cons,List.zip_nil_right,hB];obtain⟨H3,hH3⟩:∃ H3,H3=Hx.upd Hb.next Bb:=⟨_,rfl⟩
  rw[<- hH3];obtain⟨st,pd,n',en,ps',as',bo,hBe⟩:=hBb;have n3:H3.next=Hx.next:=by rw[hH3];rfl
  have o3:∀ id,id≠Hb.next->H3.get id=Hx.get id:=fun id hh=>by rw[hH3,ag,if_neg hh]
  have jB:H3.get Hb.next=some Bb:=by rw[hH3,ag,if_pos rfl]
  refine W.env fun E2 hE2=>?_;have m3:E2 3=.ptr H.next 0 0:=by rw[hE2];simp only[go_sem,db,k3]
  have m5:E2 5=.ptr (H.next+2) 0 0:=by rw[hE2];simp only[go_sem,db,k5]
  have m8:E2 8=.ptr (H.next+3) 0 0:=by rw[hE2];simp only[go_sem,db,k8]
  have m12:E2 12=.ptr (H'.next+1) 0 0:=by rw[hE2];simp only[go_sem,db,k12]
  have m13:E2 13=.own (Hb.next+2) 0 0 ns.length 1:=by rw[hE2];simp only[go_sem,db]
  have m14:E2 14=aa (weight ns w):=by rw[hE2];simp only[go_sem,db]
  clear hE2;have hsm:=fun id (h1:id<H1.next) (h2:id≠H.next+4)=>(o3 id (by omega)).trans ((hh2 id (by omega) (by omega)).trans ((oa id (by omega)).trans (hk id h1 h2)));have l0:=ak ((hsm H.next (by omega) (by omega)).trans g0);have l2:=ak ((hsm (H.next+2) (by omega) (by omega)).trans g2);have l3:=ak ((hsm (H.next+3) (by omega) (by omega)).trans g3);have l12:=ak ((o3 (H'.next+1) (by omega)).trans ((hh2 _ (by omega) (by omega)).trans ((oab _ (by omega)).trans ka1)));have lP:=ak ((o3 H'.next (by omega)).trans hh3);have lW:=ak ((o3 (Hb.next+2) (by omega)).trans hwN);refine ab _ _ _ (by rfl) ?_;simp only[go_sem,m8,l3];refine W.env fun E3 hE3=>?_;have p3:E3 3=.ptr H.next 0 0:=by rw[hE3];simp only[go_sem,m3]
  have p5:E3 5=.ptr (H.next+2) 0 0:=by rw[hE3];simp only[go_sem,m5]
  have p8:E3 8=.ptr (H.next+3) 0 0:=by rw[hE3];simp only[go_sem,m8]
  have p12:E3 12=.ptr (H'.next+1) 0 0:=by rw[hE3];simp only[go_sem,m12]
  have p13:E3 13=.own (Hb.next+2) 0 0 ns.length 1:=by rw[hE3];simp only[go_sem,m13]
  have p14:E3 14=aa (weight ns w):=by rw[hE3];simp only[go_sem,m14]
  have p15:E3 15=aa 0:=by rw[hE3];simp only[go_sem]
  have p51:E3 51=af x.parents:=by rw[hE3];simp only[go_sem]
  have p52:E3 52=aa x.parents.length:=by rw[hE3];simp only[go_sem]
  have p53:E3 53=aa 0:=by rw[hE3];simp only[go_sem]
  clear hE3;have hin:iG x.parents ns.length:=fun q hq=>by have:=(h.node x hxm).2.2 q hq;omega
  have hfp:=uO hin hwf;have pl:(aX ns x).length=x.parents.length:=ja _ _;have vl:(aY w x.parents).length=x.parents.length:=ja _ _;have hsc:=uR n8.2 (h.node x hxm).2 fun y hy=>(h.node y hy).1;have hr0:=B5 hfp hsc;have l12n:=hsc.1;have hwl:w.length=ns.length:=by rw[hwf.1,cG]
  refine W.aI 2361174234235568029696 (by kernel_rfl) (fun ρ H4=>H4=H3/\∃ j:Nat,ρ 53=aa j/\j<=x.parents.length/\ρ 15=aa (fE ((aX ns x).take j) ((aY w x.parents).take j))) (fun ρ H=>x.parents.length - (iv (ρ 53)).toNat) ?_ ?_
  ·exact⟨rfl,0,p53,by omega,p15⟩
  rintro ρ4 H4 ⟨e4,j,h53,hj,h15⟩;rw[e4];refine W.env fun E4 hE4=>?_;have q3:E4 3=.ptr H.next 0 0:=by rw[hE4];simp only[go_sem,p3]
  have q5:E4 5=.ptr (H.next+2) 0 0:=by rw[hE4];simp only[go_sem,p5]
  have q8:E4 8=.ptr (H.next+3) 0 0:=by rw[hE4];simp only[go_sem,p8]
  have q12:E4 12=.ptr (H'.next+1) 0 0:=by rw[hE4];simp only[go_sem,p12]
  have q13:E4 13=.own (Hb.next+2) 0 0 ns.length 1:=by rw[hE4];simp only[go_sem,p13]
  have q14:E4 14=aa (weight ns w):=by rw[hE4];simp only[go_sem,p14]
  have q15:E4 15=aa (fE ((aX ns x).take j) ((aY w x.parents).take j)):=by rw[hE4];simp only[go_sem,h15]
  have q51:E4 51=af x.parents:=by rw[hE4];simp only[go_sem,p51]
  have q52:E4 52=aa x.parents.length:=by rw[hE4];simp only[go_sem,p52]
  have q53:E4 53=aa j:=by rw[hE4];simp only[go_sem,h53]
  clear hE4;by_cases hb2:(j:Int)<x.parents.length
  ·obtain⟨q,hq⟩:=get_of_lt (l:=x.parents) (i:=j) (by omega);obtain⟨u,y,b,rfl,hy,hbv,a1,a2,a3⟩:=B6 hin hwf hq;have hqn:=aN hq;have hyn:=fa hy;have hy0:=ng hy;have hun:(u:Int)<ns.length:=(by have:=get_lt hy;omega);have w2:=IntWalk.i64_in ((j:Int)+1) (by omega);have r1:=hr0 (j+1);rw[uD a1 a2]at r1;have r0:=hr0 j;have m0:0<=fE ((aX ns x).take j) ((aY w x.parents).take j)*y.card:=Int.mul_nonneg r0.1 (by omega);have w3:=IntWalk.i64_in (fE ((aX ns x).take j) ((aY w x.parents).take j)*y.card) (by omega);have w4:=IntWalk.i64_in (fE ((aX ns x).take j) ((aY w x.parents).take j)*y.card+b) (by omega);refine ab _ _ _ (by rfl) ?_;simp only[go_sem,q51,q52,q53,hb2,hq,hqn];refine W.draw 12 [0,0,2,0,14,30,62,127,0,0,768,1792] Try.mixed (by kernel_rfl) (by kernel_rfl) ?_;simp only[go_sem,l0,lW,q3,q13,q15,q53,hyn,hy0,hun,hbv,w2,w3,w4];exact⟨⟨_,_,_,_,_,_,_,by rw[jB,hBe]⟩,⟨j+1,rfl,by omega,by rw[uD a1 a2]⟩,by rw[h53];simp only[aa,aM];omega⟩
  have ej:j=x.parents.length:=by omega
  rw[ej,List.take_of_length_le (by rw[pl];exact Nat.le_refl _),List.take_of_length_le (by rw[vl];exact Nat.le_refl _),uC hfp.1]at q15;obtain⟨a,ha⟩:=get_of_lt (l:=w) (i:=v) (by omega);have hac:=hwf.2 v x.card a (cS hx) ha;have hpr:=Ce h hx hwf;have hpe:lV ns x v w=fb (aX ns x) (aY w x.parents)*x.card+a:=by unfold lV;rw[bJ ha]
  obtain⟨z,hz2⟩:∃ z:Nat,lV ns x v w=z:=⟨(lV ns x v w).toNat,by omega⟩
  rw[hL,hz2]at hpr;rw[hz2]at hpe;obtain⟨pa,pb,pc⟩:=t7 h hx (D.take k) fun w' h'=>hDf w' (List.mem_of_mem_take h');obtain⟨Pl,hPl⟩:∃ Pl,Pl=fQ ns x v (D.take k):=⟨_,rfl⟩
  have hPs:fQ ns x v (D.take (k+1))=Pl.set z (Pl.getD z 0+weight ns w):=by
   rw[aL hw,Nf,<- hPl];unfold kI lU;rw[hz2,Int.toNat_natCast]
  rw[<- hPl]at pa pb pc lP;rw[hL]at pa;obtain⟨e0,he0⟩:=get_of_lt (l:=Pl) (i:=z) (by omega);rw[bJ he0]at hPs;have he1:=pb e0 (List.mem_of_getElem? he0);have he2:=pJ pb e0 (List.mem_of_getElem? he0);have mt1:=mt (k+1);have hes:((D.take (k+1)).map (weight ns)).sum=((D.take k).map (weight ns)).sum+weight ns w:=by rw[aL hw];simp
  rw[hes]at mt1;have hwr:=Ca h hwf;have hir:=hr0 x.parents.length;rw[List.take_of_length_le (by rw[pl];exact Nat.le_refl _),List.take_of_length_le (by rw[vl];exact Nat.le_refl _),uC hfp.1]at hir;have m0:0<=fb (aX ns x) (aY w x.parents)*x.card:=Int.mul_nonneg hir.1 (by omega);have w2:=IntWalk.i64_in (fb (aX ns x) (aY w x.parents)*x.card) (by omega);have w3:=IntWalk.i64_in (z:Int) (by omega);have w4:=IntWalk.i64_in (e0+weight ns w) (by omega);have hzL:(z:Int)<L:=by omega
  have hvw:(v:Int)<w.length:=by omega
  have hpl2:Pl.length=L:=by omega
  have hz0:¬ (z:Int)<0:=by omega
  refine ab _ _ _ (by rfl) ?_;simp only[go_sem,q52,q53,hb2];refine W.draw 13 [0,0,0,4,14,0,0,96,224,510,1023,2047,0] Try.mixed (by kernel_rfl) (by kernel_rfl) ?_;simp only[go_sem,l2,l3,l12,lP,lW,q5,q8,q12,q13,q14,q15,ha,hvn,<- hpe,he0,hpl2,hzL,w2,w3,w4,mv];refine⟨by omega,?_⟩;obtain⟨H5,hH5⟩:∃ H5,H5=H3.upd H'.next (.arr 0 3 (setAt (ints Pl) z [.lit (.int .i64 (e0+weight ns w))])):=⟨_,rfl⟩
  rw[<- hH5];have n5:H5.next=Hx.next:=by rw[hH5];exact n3
  have k5:∀ id,id≠H'.next->id≠Hb.next->H5.get id=Hx.get id:=fun id h1 h2=>by rw[hH5,ag,if_neg h1,o3 id h2]
  have e5:H5.get H'.next=some (.arr 0 3 (ints (fQ ns x v (D.take (k+1))))):=by
   rw[hH5,ag,if_pos rfl,eS (by omega),hPs]
  exact⟨by rw[hH5,ag,if_neg (by omega)];exact jB,by omega,⟨by omega,fun id h1 h2=>(k5 id h2 (by omega)).trans (hh2 id h1 h2),e5⟩,fun id h1 h2=>k5 id (by omega) (by omega)⟩
 ·rw[hDl,List.take_of_length_le (Nat.le_refl _)]at hj;obtain⟨hh1,hh2,hh3⟩:=hj;have hro:=Cg h h6 hx hrl;obtain⟨_,rl,_,rr⟩:=Ch hro;obtain⟨pa,_,_⟩:=t7 h hx D hDf;have hpR:kJ ns x v r=fQ ns x v D:=by rw[hD];rfl
  rw[hpR]at hro rl rr;rw[hL]at pa;have hXs:cY ns x v (xs.take (i+1))=eo X (iq (fQ ns x v D)):=by rw[aL hr,Cf,<- hX,hpR]
  obtain⟨R,hR⟩:∃ R,R=iq (fQ ns x v D):=⟨_,rfl⟩
  have l12:=ak ((hh2 (H'.next+1) (by omega) (by omega)).trans ((oab _ (by omega)).trans ka1));simp only[go_sem,k12,l12];refine aw.clo ((Nj hro Hx (Fz.ints (S:=fun _=>True) trivial hh3 (by omega) fun j hj=>by rw[Nat.zero_add,gF];simp only[List.getElem?_eq_getElem hj,Option.map_some])).mono ?_);rintro rres Hq ⟨hrq,hHq⟩;rw[hHq];subst hrq;refine⟨trivial,?_⟩;rw[<- hR]at rl rr hXs ⊢;have hRl:R.length=L:=by omega
  simp only[go_sem];refine W.env fun E2 hE2=>?_;have m3:E2 3=.ptr H.next 0 0:=by rw[hE2];simp only[go_sem,k3]
  have m5:E2 5=.ptr (H.next+2) 0 0:=by rw[hE2];simp only[go_sem,k5]
  have m8:E2 8=.ptr (H.next+3) 0 0:=by rw[hE2];simp only[go_sem,k8]
  have m9:E2 9=.own (H.next+4) 0 0 L 1:=by rw[hE2];simp only[go_sem,k9]
  have m35:E2 35=.vec xs.length (xs.map af):=by rw[hE2];simp only[go_sem,k35]
  have m36:E2 36=aa xs.length:=by rw[hE2];simp only[go_sem,k36]
  have m37:E2 37=aa i:=by rw[hE2];simp only[go_sem,k37]
  have m94:E2 94=af R:=by rw[hE2];simp only[go_sem]
  have m95:E2 95=aa R.length:=by rw[hE2];simp only[go_sem]
  have m96:E2 96=aa 0:=by rw[hE2];simp only[go_sem]
  clear hE2;have gX:Hx.get (H.next+4)=some (.arr 0 3 (ints X)):=(hh2 _ (by omega) (by omega)).trans ((oa _ (by omega)).trans hg4);have hkx:∀ id,id<H1.next->id≠H.next+4->Hx.get id=H1.get id:=fun id h1 h2=>(hh2 id (by omega) (by omega)).trans ((oa id (by omega)).trans (hk id h1 h2));refine W.aI 648957879154339189228718500347904 (by kernel_rfl) (fun ρ H4=>∃ j:Nat,ρ 96=aa j/\j<=L/\Hx.next<=H4.next/\(∀ id,id<H1.next->id≠H.next+4->H4.get id=H1.get id)/\H4.get (H.next+4)=some (.arr 0 3 (ints (eo (X.take j) (R.take j)++X.drop j)))) (fun ρ H=>L - (iv (ρ 96)).toNat) ?_ ?_
  ·exact⟨0,m96,by omega,Nat.le_refl _,hkx,by rw[gX];rfl⟩
  rintro ρ4 H4 ⟨j,h96,hj,n4,hk4,hg4'⟩;refine W.env fun E3 hE3=>?_;have p9:E3 9=.own (H.next+4) 0 0 L 1:=by rw[hE3];simp only[go_sem,m9]
  have p37:E3 37=aa i:=by rw[hE3];simp only[go_sem,m37]
  have p94:E3 94=af R:=by rw[hE3];simp only[go_sem,m94]
  have p95:E3 95=aa R.length:=by rw[hE3];simp only[go_sem,m95]
  have p96:E3 96=aa j:=by rw[hE3];simp only[go_sem,h96]
  clear hE3;by_cases hb3:(j:Int)<R.length;rotate_left
  ·have ej:j=L:=(by omega);refine ab _ _ _ (by rfl) ?_;simp only[go_sem,p37,p95,p96,hb3,w1];refine⟨by omega,⟨i+1,rfl,by omega,by omega,hk4,?_⟩,by rw[h37];simp only[aa,aM];omega⟩;rw[hg4',ej,List.take_of_length_le (by omega),List.take_of_length_le (by omega),List.drop_of_length_le (by omega),List.append_nil,hXs]
  obtain⟨a,ha⟩:=get_of_lt (l:=X) (i:=j) (by omega);obtain⟨b,hbj⟩:=get_of_lt (l:=R) (i:=j) (by omega);have hbn:=aN hbj;have ha2:=er a (List.mem_of_getElem? ha);have hb2:=rr b (List.mem_of_getElem? hbj);have hil:(xs.take i).length<=64:=by rw[List.length_take];omega
  have w2:=IntWalk.i64_in (a+b) (by omega);have w3:=IntWalk.i64_in ((j:Int)+1) (by omega);have avl:(eo (X.take j) (R.take j)).length=j:=by rw[Ci (by simp;omega)];simp;omega
  have hln:(eo (X.take j) (R.take j)++X.drop j).length=L:=by rw[List.length_append,avl,List.length_drop];omega
  have hgj:(eo (X.take j) (R.take j)++X.drop j)[j]?=some a:=by
   rw[List.getElem?_append_right (by omega),avl,Nat.sub_self,px ha];rfl
  have lX:=ak hg4';have hjL:(j:Int)<L:=by omega
  refine ab _ _ _ (by rfl) ?_;simp only[go_sem,p9,p94,p95,p96,hb3,hbj,hbn,lX,hln,hgj,hjL,w2,w3];refine⟨by omega,by rw[aA];omega,⟨j+1,rfl,by omega,by rw[aA];omega,fun id h1 h2=>by rw[ag,if_neg h2];exact hk4 id h1 h2,?_⟩,by rw[h96];simp only[aa,aM];omega⟩;rw[ag,if_pos rfl,eS (by omega)];congr 3;rw[List.set_append_right _ _ (by omega),avl,Nat.sub_self,px ha,aL ha,aL hbj];show _++(a+b) :: _=_;unfold eo;rw[List.zipWith_append (by simp;omega),List.append_assoc];rfl
def iV (ns:List NodeP)(xs:List (List Int)):Bool:=decide ((0:Int) ∉ xs.map (dG ns))
theorem yy {S:Nat->Prop}{H:AHeap}{nx:Nat}{cv xv:AVal}{cs:List Int}{xs:List (List Int)}(h1:Fz S H nx cv (af cs))(h2:Fz S H nx xv (aE xs)):Fz S H nx (.agg [cv,xv]) (cO cs xs):=by
 refine .agg rfl fun i hi _=>?_
 match i,hi with
 | 0,_=>exact h1
 | 1,_=>exact h2
theorem aB.OL {S:Nat->Prop}{lo nx:Nat}{H:AHeap}{e:TypeId}{v:AVal}{q:List (List Int)}(h:aB lo H e v (q.map af))(hS:∀ i,lo<=i->S i):Fz S H nx v (aE q):=by
 have:=h.fz (S:=S) (nx:=nx) (cs':=q.map af) hS rfl fun i hi _=>by simp only[List.getElem_map];exact .dJ _
 rw[List.length_map]at this;exact this
noncomputable def dU (g:Int)(ns:List NodeP)(cs:List Int)(xs:List (List Int)):Int:=if fJ g ns=true then (if iu cs xs=true then (if au ns=cs then 0 else 261) else 250) else 50
theorem Nk (g:Int)(ns:List NodeP)(cs:List Int)(xs:List (List Int)):iU [(g,ns)] cs xs=dU g ns cs xs:=by
 unfold iU dU;simp
theorem x6 (l:List (Int × List NodeP))(cs:List Int)(xs:List (List Int))(hn:∀ p∈l,fj p.2)(hf:kL cs xs)(hl4:l.length<=4)(H:AHeap){id:Nat}(hg:H.get id=some (.arr 0 35 (dP l))):
  ae Try.prog G0 40 [.agg [.vec cs.length (ints cs),.vec xs.length (xs.map af)],.own id 0 0 l.length 2] H fun r H'=>r=.ret (aa (iU l cs xs))/\H'=H:=by
 refine ae.frame (H:=H) (args:=[.agg [.vec cs.length (ints cs),.vec xs.length (xs.map af)],.own id 0 0 l.length 2]) (args':=[cO cs xs,.vec l.length (dP l)]) (v':=aa (iU l cs xs)) aV rfl (fun i hi _=>match i,hi with
  | 0,_=>?_
  | 1,_=>?_) (M7 l cs xs hn hf hl4 cJ _ ⟨_,rfl,.lit _⟩)
 ·exact .agg rfl fun i hi _=>match i,hi with
   | 0,_=>.dJ _
   | 1,_=>.aE _
 ·refine .frz trivial hg (by rw[tZ]) fun i hi h2 h'=>?_;have hm:∀ c∈dP l,Fz (fun _=>True) H 0 c c:=fun c hc=>by
   unfold dP at hc;obtain⟨q,hq,hcq⟩:=List.mem_flatten.1 hc;obtain⟨p,_,rfl⟩:=List.mem_map.1 hq;rcases List.mem_cons.1 hcq with rfl|hcq
   ·exact .lit _
   ·rw[List.mem_singleton.1 hcq];exact pK _
  have e:(dP l)[0+i]=(dP l)[i]:=by congr 1;omega
  rw[e];exact hm _ (List.getElem_mem _)
theorem mW {g:Int}{ns:List NodeP}{cs:List Int}{xs:List (List Int)}(h:dU g ns cs xs=0):NetOk g ns/\DataOk cs xs/\au ns=cs:=by
 unfold dU at h;split at h
 ·rename_i h1;split at h
  ·rename_i h2;split at h
   ·rename_i h3;exact⟨zg.1 h1,yx.1 h2,h3⟩
   ·cases h
  ·cases h
 ·cases h
theorem mX {g:Int}{ns:List NodeP}{cs:List Int}{xs:List (List Int)}(h:dU g ns cs xs=0):ns.length<=6/\xs.length<=40/\∀ r∈xs,r.length=ns.length:=by
 obtain⟨h1,h2,h3⟩:=mW h;have e:ns.length=cs.length:=by rw[<- h3,cG]
 refine⟨by have:=h2.c1;omega,h2.x1,fun r hr=>by rw[(h2.row r hr).1,e]⟩
end Go.Proofs
namespace Go.Proofs.R01
open Go.Hx
section
variable {P:Program} {t:TypeId} {x y:Operand} {k k':IntKind} {a b:Int}
theorem QZ {α β:Type}{s:Sem α}{f:α->Sem β}{a:α}(h:bW P s=some a):bW P (s >>= f)=bW P (f a):=by
 induction s with
 | pure b=>simp only[bW,Option.some.injEq]at h;subst h;rfl
 | program k ih=>exact ih P h
 | mark m k ih=>exact ih h
 | _=>simp [bW]at h
theorem Q0 {t:TypeId}{a b:Bool}(n:Nat)(ht:P.underlying t=some .bool):bW P (Op.equalIn (n+1) t (.bool a) (.bool b))=some (a == b):=by
 unfold Op.equalIn;simp [underlying,program,ht,bW,bind,Sem.bind,pure]
theorem Q1 {t:TypeId}{x y:Operand}{a b:Bool}(ht:P.underlying t=some .bool):aQ P .eql t x y (.lit (.bool a)) (.lit (.bool b))=some (.lit (.bool (a == b))):=by
 have h1:(do eqGuard .eql t x y (.bool a) (.bool b);binOp .eql t (.bool a) (.bool b))=(Op.equalIn (9999+1) t (.bool a) (.bool b) >>= fun r=>pure (Value.bool r)):=rfl;show (bW P _).map _=_;rw[h1,QZ (Q0 9999 ht)];rfl
end
section
variable {P:Program} {G:Nat->Option (List AVal)}
end
end Go.Proofs.R01
namespace Go.Proofs.R01
open Go.Hx
def val:List Int -> Nat
  | [] => 0
  | a :: l => a.toNat + 10000 * val l
end Go.Proofs.R01
namespace Go.Proofs.R01
open Go.Hx
theorem nt {H H' H2:AHeap}{v:AVal}{cs:List AVal}{e:TypeId}(ov:Over H H')(h:aB H.next H' e v cs)(hn:H'.next<=H2.next)(hp:∀ k,k<H'.next->(∀ g n,v≠.own k g 0 n 1)->H2.get k=H'.get k):Over H H2 :=
 ⟨by have:=ov.next;omega,fun id hid=>by
  rw[hp id (by have:=ov.next;omega) fun g n he=>?_,ov.old id hid];rcases h with ⟨h,_⟩|⟨i2,g2,a1,_,h,_⟩
  ·rw[h]at he;cases he
  ·rw[h]at he;have:=AVal.own.inj he;omega⟩
end Go.Proofs.R01
namespace Go.Proofs.R01
open Go.Hx
end Go.Proofs.R01
namespace Go.Proofs.R01
open Go.Hx
theorem eS {l:List Int}{k:Nat}(v:Int)(h:k<l.length):setAt (ints l) k [.lit (.int .i64 v)]=ints (l.set k v):=by
 unfold setAt ints;rw[List.map_set,List.set_eq_take_append_cons_drop,if_pos (by simpa using h)];simp [aa]
end Go.Proofs.R01
namespace Go.Proofs.R01
open Go.Hx
end Go.Proofs.R01
namespace Go.Proofs.R01
open Go.Hx
end Go.Proofs.R01
namespace Go.Proofs.R01
open Go.Hx
end Go.Proofs.R01
namespace Go.Proofs.R01
open Go.Hx
end Go.Proofs.R01
namespace Go.Proofs
open Go.Hx
def bA (l:List Int):List AVal:=l.map fun n=>.lit (.int .u8 n)
theorem rm {l:List Int}{k:Nat}{a:Int}(h:l[k]?=some a):(bA l)[k]?=some (.lit (.int .u8 a)):=by unfold bA;rw[List.getElem?_map,h];rfl
theorem Oy (l:List Int):(bA l).length=l.length:=by simp [bA]
end Go.Proofs
namespace Go.Hx
variable {P:Program} {H H':AHeap}
theorem pB {t e:TypeId}{lo n m:Nat}{v x:AVal}{cs src:List AVal}{z:List AVal}(ht:P.underlying t=some (.slice e))(hz:P.cellsOf e=1)(hzero:bU P e=some z)(hsrc:cH H 1 x=some (m,src))(hm:src.length=m)(hx:src.all AVal.one=true)
  (hb:(cs.length+m)*P.bytesOf e<=2 ^ 46/\cs.length+m<=2 ^ 46) (ho:aB lo H e v cs) (hlo:lo<=H.next) (hn:n=H.next):
  ∃ v' H',bG P H n t t v x=some (v',H')/\aB lo H' e v' (cs++src)/\H.next<=H'.next/\(∀ k,k<H.next->(∀ g n,v≠.own k g 0 n 1)->H'.get k=H.get k):=by
 subst hm;obtain⟨v',H',hA,h2⟩:=sQ (H:=H) (n:=n) ht hz hzero hx hb ho hlo hn;refine⟨v',H',?_,h2⟩;rw[<- hA];have e2:cH H 1 (.vec src.length src)=some (src.length,src):=by unfold cH;simp
 unfold bG;rw[ht];simp only[hz,hsrc,e2]
end Go.Hx
namespace Go.Proofs
open Go.Hx
def U8 (n:Int):Prop:=0<=n/\n<256
theorem QG (n:Nat)(hn:n<=5)(ord:List Int)(H:AHeap)(K:ARes->AHeap->Prop)(hK:K (.ret (af (List.replicate n 1))) H):
  ae Try.prog G0 66 [.agg [.vec n (bA (List.replicate n 0)),(.lit (.int .u16 0)),.vec ord.length (bA ord)]] H K:=by
 refine ae.clo ⟨_,Try.func66,rfl,rfl⟩ fun hcl=>?_;refine ae.bM (n:=28) (rs:=[.tmp 2]) Try.func66 rfl rfl rfl (by decide) (by kernel_rfl) (by simp) ?_;simp only[go_sem];obtain⟨H1,hH1⟩:∃ H1,H1=ext H [.arr 0 83 [.vec n (bA (List.replicate n 0)),.lit (.int .u16 0),.vec ord.length (bA ord)]]:=⟨_,rfl⟩
 have l1:=ak (show H1.get H.next=some (.arr 0 83 [.vec n (bA (List.replicate n 0)),.lit (.int .u16 0),.vec ord.length (bA ord)]) by rw[hH1];exact dp ..);have n1:H1.next=H.next+1:=by rw[hH1];rfl
 have o1:Over H H1:=by rw[hH1];exact .ext _ _
 rw[<- hH1];refine W.aI 134217720 (by rfl) (fun ρ H'=>∃ k:Nat,ρ 4=aa k/\k<=n/\Over H1 H'/\aB H1.next H' 3 (ρ 3) (ints (List.replicate k 1))) (fun ρ H=>n - (iv (ρ 4)).toNat) ?_ ?_
 ·simp only[go_sem];exact⟨0,rfl,by omega,.refl _,.nil⟩
 rintro ρ H' ⟨k,h4,hk,ov,h3⟩;refine W.env fun E hE=>?_;have e1:E 1=.ptr H.next 0 0:=by rw[hE];simp only[go_sem]
 have e3:E 3=ρ 3:=by rw[hE];simp only[go_sem]
 have e4:E 4=aa k:=by rw[hE];simp only[go_sem,h4]
 clear hE;refine ab _ _ _ (by rfl) ?_;have l2:=(ov.live (g:=0) (by omega:H.next<H1.next)).trans l1;by_cases hb:(k:Int)<n
 ·have h5:(k:Int)<5:=by omega
  have hg:(bA (List.replicate n 0))[k]?=some (.lit (.int .u8 0)):=rm (by rw[List.getElem?_replicate,if_pos (by omega)]);have hne:=aN hg;obtain⟨v',H2,hA,ov2,hO,hn2,_⟩:=kT 1 ov h3 (by simp;omega);have w1:=IntWalk.i64_in ((k:Int)+1) (by omega);have hk0:(k:Int) >= 0:=by omega
  have w5:IntKind.i64.wrap (1+IntKind.i64.wrap (Int.tmod 0 4))=1:=by decide
  simp only[go_sem,e1,e3,e4,l2,hb,h5,hk0,hg,hne,w1,w5,hA];refine⟨by have:=ov2.next;omega,⟨k+1,rfl,by omega,ov2,?_⟩,by rw[h4];simp only[aa,aM];omega⟩;rw[List.replicate_succ'];exact hO
 ·simp only[go_sem,e1,e3,e4,l2,hb];obtain rfl:k=n:=by omega
  exact av.bY aV hcl (o1.trans ov) (h3.kF fun i hi=>by omega) hK
structure IsPerm (n:Nat)(p:List Int):Prop where
 len:p.length=n
 nd:p.Nodup
 rng:∀ x∈p,0<=x/\x<n
theorem QH {n:Nat}{p:List Int}(h:IsPerm n p)(at':Nat)(ha:at'<=n):IsPerm (n+1) (p.take at'++(n:Int) :: p.drop at'):=by
 have hperm:(p.take at'++(n:Int) :: p.drop at').Perm ((n:Int) :: p):=by
  have:=List.perm_middle (a:=(n:Int)) (l₁:=p.take at') (l₂:=p.drop at')
  rwa [List.take_append_drop]at this
 refine⟨by rw[hperm.length_eq];simp [h.len],(hperm.nodup_iff).2 (List.nodup_cons.2 ⟨fun hm=>?_,h.nd⟩),fun x hx=>?_⟩
 ·have:=h.rng _ hm;omega
 ·rcases List.mem_cons.1 (hperm.mem_iff.1 hx) with rfl|h2
  ·omega
  ·have:=h.rng x h2;omega
def kR (ord:List Int)(k:Nat):Nat:=if k<ord.length then (ord.getD k 0 % ((k:Int)+1)).toNat else 0
def fT (ord:List Int):Nat->List Int
 | 0=>[]
 | k+1=>(fT ord k).take (kR ord k)++(k:Int) :: (fT ord k).drop (kR ord k)
theorem QI (ord:List Int)(k:Nat):kR ord k<=k:=by
 unfold kR;split
 ·have:=Int.emod_lt_of_pos (ord.getD k 0) (show 0<(k:Int)+1 by omega);omega
 ·omega
theorem yV (ord:List Int):∀ n:Nat,IsPerm n (fT ord n)
 | 0=>⟨rfl,by simp [fT],by simp [fT]⟩
 | n+1=>QH (yV ord n) _ (QI ord n)
set_option maxHeartbeats 1000000 in
theorem QJ (n:Nat)(hn:n<=5)(ord:List Int)(hol:(ord.length:Int)<2 ^ 63)(ho8:∀ x∈ord,U8 x)(H:AHeap)(K:ARes->AHeap->Prop)(hK:∀ v H',Over H H'->aB H.next H' 3 v (ints (fT ord n))->K (.ret v) H'):
  ae Try.prog G0 35 [.agg [.vec n (bA (List.replicate n 0)),.lit (.int .u16 0),.vec ord.length (bA ord)]] H K:=by
 refine ae.clo ⟨_,Try.func35,rfl,rfl⟩ fun hcl=>?_;refine ae.bM (n:=42) (rs:=[.tmp 2]) Try.func35 rfl rfl rfl (by decide) (by kernel_rfl) (by simp) ?_;simp only[go_sem];obtain⟨H1,hH1⟩:∃ H1,H1=ext H [.arr 0 83 [.vec n (bA (List.replicate n 0)),.lit (.int .u16 0),.vec ord.length (bA ord)]]:=⟨_,rfl⟩
 have l1:=ak (show H1.get H.next=some (.arr 0 83 [.vec n (bA (List.replicate n 0)),.lit (.int .u16 0),.vec ord.length (bA ord)]) by rw[hH1];exact dp ..);have n1:H1.next=H.next+1:=by rw[hH1];rfl
 have o1:Over H H1:=by rw[hH1];exact .ext _ _
 rw[<- hH1];refine W.aI 2199023255544 (by rfl) (fun ρ H'=>∃ (k:Nat) (p:List Int),ρ 4=aa k/\k<=n/\p=fT ord k/\Over H1 H'/\aB H1.next H' 3 (ρ 3) (ints p)) (fun ρ H=>n - (iv (ρ 4)).toNat) ?_ ?_
 ·simp only[go_sem];exact⟨0,[],rfl,by omega,rfl,.refl _,.nil⟩
 rintro ρ H' ⟨k,p,h4,hk,hpe,ov,h3⟩;have hp:IsPerm k p:=by rw[hpe];exact yV ord k
 refine W.env fun E hE=>?_;have e1:E 1=.ptr H.next 0 0:=by rw[hE];simp only[go_sem]
 have e3:E 3=ρ 3:=by rw[hE];simp only[go_sem]
 have e4:E 4=aa k:=by rw[hE];simp only[go_sem,h4]
 clear hE;refine ab _ _ _ (by rfl) ?_;have l2:=(ov.live (g:=0) (by omega:H.next<H1.next)).trans l1;simp only[go_sem,e1,l2];refine aw.clo (QG n hn ord _ _ ⟨trivial,?_⟩);by_cases hb:(k:Int)<n;rotate_left
 ·simp only[go_sem,List.length_replicate,e3,e4,hb];obtain rfl:k=n:=by omega
  exact av.mk (o1.trans ov).next (hK _ _ (o1.trans ov) (by rw[<- hpe];exact h3.keep (by omega) (Nat.le_refl _) fun _ _ _ _ _ _=>rfl))
  -- the place
 rcases h3 with ⟨h3n,hpn⟩|⟨oi,og,hoi1,hoi2,h3o,hog⟩
 ·have p0:p=[]:=by cases p with
   | nil=>rfl
   | cons a l=>simp [ints]at hpn
  have pl:=hp.len;rw[p0]at pl;obtain rfl:k=0:=by simpa using pl.symm
  rw[h3n]at e3;have e4':E 4=aa 0:=e4;have hb':(0:Int)<n:=hb;by_cases ho:(0:Int)<ord.length
  ·obtain⟨b,hbg⟩:=get_of_lt (l:=ord) (i:=0) (by omega);have b8:=ho8 b (List.mem_of_getElem? hbg);have hbg':=rm hbg;have hbne:=aN hbg';have w2:IntKind.i64.wrap b=b:=IntWalk.i64_in b (by have:=b8.1;have:=b8.2;omega);have w1:IntKind.i64.wrap 1=1:=(by decide);have m1:b.tmod 1=0:=(by simp);obtain⟨v2,Hb,hA2,ovB,hO2,hn2,hp2⟩:=kT (H:=H') (H':=H') (l:=[]) (v:=.lit (.slice none 0 0)) (0:Int) (.refl _) aB.nil (by simp);obtain⟨v3,Hc,hA3,hO3,hn3,hp3⟩:=pB (P:=Try.prog) (H:=Hb) (t:=39) (n:=Hb.next) (m:=0) (v:=v2) (x:=.lit (.slice none 0 0)) (src:=[]) Try.underlying39 Try.eZ Try.fS rfl rfl rfl (by rw[Try.gS];exact⟨by decide,by decide⟩) hO2 ovB.next rfl;have ovC:Over H' Hc:=nt ovB hO2 hn3 hp3;have hA1:bG Try.prog H' H'.next 39 39 (.lit (.slice none 0 0)) (.lit (.slice none 0 0))=some (.lit (.slice none 0 0),H'):=by
    unfold bG;rw[Try.underlying39];simp only[Try.fS,Try.eZ,Option.bind_some,vZ,if_true]
   have hO3':aB H1.next Hc 3 v3 (ints [0]):=by
    rw[List.append_nil]at hO3;exact hO3.keep ov.next (Nat.le_refl _) fun _ _ _ _ _ _=>rfl
   simp only[go_sem,List.length_replicate,e1,e3,e4',l2,hb',ho,hbg',hbne,w1,w2,m1,hA1,hA2,hA3];refine⟨by have:=ovC.next;have:=ov.next;omega,⟨1,[0],rfl,by omega,by simp [fT],ov.trans ovC,hO3'⟩,by rw[h4];simp only[aa,aM];omega⟩
  ·have w1:IntKind.i64.wrap 1=1:=(by decide);obtain⟨v2,Hb,hA2,ovB,hO2,hn2,hp2⟩:=kT (H:=H') (H':=H') (l:=[]) (v:=.lit (.slice none 0 0)) (0:Int) (.refl _) aB.nil (by simp);obtain⟨v3,Hc,hA3,hO3,hn3,hp3⟩:=pB (P:=Try.prog) (H:=Hb) (t:=39) (n:=Hb.next) (m:=0) (v:=v2) (x:=.lit (.slice none 0 0)) (src:=[]) Try.underlying39 Try.eZ Try.fS rfl rfl rfl (by rw[Try.gS];exact⟨by decide,by decide⟩) hO2 ovB.next rfl;have ovC:Over H' Hc:=nt ovB hO2 hn3 hp3;have hA1:bG Try.prog H' H'.next 39 39 (.lit (.slice none 0 0)) (.lit (.slice none 0 0))=some (.lit (.slice none 0 0),H'):=by
    unfold bG;rw[Try.underlying39];simp only[Try.fS,Try.eZ,Option.bind_some,vZ,if_true]
   have hO3':aB H1.next Hc 3 v3 (ints [0]):=by
    rw[List.append_nil]at hO3;exact hO3.keep ov.next (Nat.le_refl _) fun _ _ _ _ _ _=>rfl
   simp only[go_sem,List.length_replicate,e1,e3,e4',l2,hb',ho,w1,hA1,hA2,hA3];refine⟨by have:=ovC.next;have:=ov.next;omega,⟨1,[0],rfl,by omega,by simp [fT],ov.trans ovC,hO3'⟩,by rw[h4];simp only[aa,aM];omega⟩
 rw[h3o]at e3;have lo:=ak hog;by_cases ho:(k:Int)<ord.length
 ·obtain⟨b,hbg⟩:=get_of_lt (l:=ord) (i:=k) (by omega);have b8:=ho8 b (List.mem_of_getElem? hbg);have hbg':=rm hbg;have hbne:=aN hbg';have w0:=IntWalk.i64_in ((k:Int)+1) (by omega);have w1:=w0;have w2:IntKind.i64.wrap b=b:=IntWalk.i64_in b (by have:=b8.1;have:=b8.2;omega);have m1:b.tmod ((k:Int)+1)=b % ((k:Int)+1):=Int.tmod_eq_emod_of_nonneg b8.1;have m2:=Int.emod_nonneg b (show (k:Int)+1≠0 by omega);have m3:=Int.emod_lt_of_pos b (show 0<(k:Int)+1 by omega);have hz:¬ (k:Int)+1=0:=by omega
  obtain⟨a,hat⟩:=Int.eq_ofNat_of_zero_le m2;have ha:a<=k:=by omega
  have hac:(0:Int)<=(a:Int):=by omega
  have hap:(a:Int)<=(p.length:Int):=by rw[hp.len];omega
  have hak:(0:Int)<=(a:Int)/\(a:Int)<=(p.length:Int):=⟨hac,hap⟩
  have pl:p.length=k:=hp.len;obtain⟨v1,Ha,hA1,hO1,hn1,hp1⟩:=pB (P:=Try.prog) (H:=H') (t:=39) (n:=H'.next) (m:=a) (v:=.lit (.slice none 0 0)) (x:=.own oi og 0 a 1) (src:=(ints p).take a) Try.underlying39 Try.eZ Try.fS
   (by rw[qA,if_pos rfl,lo];simp) (by simp [aZ]<;>omega) (List.all_eq_true.2 fun c hc=>by
    obtain⟨z,_,rfl⟩:=List.mem_map.1 (List.mem_of_mem_take hc);rfl) (by rw[Try.gS];simp<;>omega) aB.nil (Nat.le_refl _) rfl
  have ovA:Over H' Ha:=⟨hn1,fun id hi=>hp1 id hi fun g n h=>by cases h⟩
  rw[List.nil_append,Ex]at hO1;obtain⟨v2,Hb,hA2,ovB,hO2,hn2,hp2⟩:=kT (k:Int) ovA hO1 (by simp<;>omega);have hcl2:(ints (p.take a++[(k:Int)])).length<=k+1:=by rw[aZ,List.length_append,List.length_take];simp<;>omega
  have hlb:Hb.live oi og=some (3,ints p):=(ovB.live hoi2).trans lo;obtain⟨v3,Hc,hA3,hO3,hn3,hp3⟩:=pB (P:=Try.prog) (H:=Hb) (t:=39) (n:=Hb.next) (m:=p.length - a) (v:=v2) (x:=.own oi og a (p.length - a) 1) (src:=(ints p).drop a) Try.underlying39 Try.eZ Try.fS
   (by rw[qA,if_pos rfl,hlb];simp [List.take_of_length_le,aZ]) (by simp [aZ]) (List.all_eq_true.2 fun c hc=>by
    obtain⟨z,_,rfl⟩:=List.mem_map.1 (List.mem_of_mem_drop hc);rfl) (by rw[Try.gS];omega) hO2 ovB.next rfl
  have ovC:Over H' Hc:=nt ovB hO2 hn3 hp3;have hla:Ha.live oi og=some (3,ints p):=(ovA.live hoi2).trans lo;rw[Ey]at hO3;have hO3':aB H1.next Hc 3 v3 (ints (p.take a++(k:Int) :: p.drop a)):=by
   have:ints (p.take a++[(k:Int)])++ints (p.drop a)=ints (p.take a++(k:Int) :: p.drop a):=(by simp [ints]);rw[this]at hO3;exact hO3.keep ov.next (Nat.le_refl _) fun _ _ _ _ _ _=>rfl
  simp only[go_sem,List.length_replicate,e1,e3,e4,l2,hb,ho,hbg',hbne,w0,w2,m1,hz,hat,hac,hap,Int.toNat_natCast,lo,hlb,hA1,hA2,hA3];refine⟨by have:=ovC.next;omega,⟨k+1,_,rfl,by omega,by rw[fT,<- hpe,show kR ord k=a by unfold kR;rw[if_pos (by omega),bJ hbg,hat];rfl],ov.trans ovC,hO3'⟩,by rw[h4];simp only[aa,aM];omega⟩
 ·have w0:=IntWalk.i64_in ((k:Int)+1) (by omega);have pl:p.length=k:=hp.len;obtain⟨v1,Ha,hA1,hO1,hn1,hp1⟩:=pB (P:=Try.prog) (H:=H') (t:=39) (n:=H'.next) (m:=0) (v:=.lit (.slice none 0 0)) (x:=.own oi og 0 0 1) (src:=(ints p).take 0) Try.underlying39 Try.eZ Try.fS
   (by rw[qA,if_pos rfl,lo];simp) (by simp [aZ]<;>omega) (List.all_eq_true.2 fun c hc=>by
    obtain⟨z,_,rfl⟩:=List.mem_map.1 (List.mem_of_mem_take hc);rfl) (by rw[Try.gS];simp<;>omega) aB.nil (Nat.le_refl _) rfl
  have ovA:Over H' Ha:=⟨hn1,fun id hi=>hp1 id hi fun g n h=>by cases h⟩
  rw[List.nil_append,Ex]at hO1;obtain⟨v2,Hb,hA2,ovB,hO2,hn2,hp2⟩:=kT (k:Int) ovA hO1 (by simp<;>omega);have hcl2:(ints (p.take 0++[(k:Int)])).length<=k+1:=by rw[aZ,List.length_append,List.length_take];simp<;>omega
  have hlb:Hb.live oi og=some (3,ints p):=(ovB.live hoi2).trans lo;obtain⟨v3,Hc,hA3,hO3,hn3,hp3⟩:=pB (P:=Try.prog) (H:=Hb) (t:=39) (n:=Hb.next) (m:=p.length) (v:=v2) (x:=.own oi og 0 (p.length) 1) (src:=(ints p).drop 0) Try.underlying39 Try.eZ Try.fS
   (by rw[qA,if_pos rfl,hlb];simp [List.take_of_length_le,aZ]) (by simp [aZ]) (List.all_eq_true.2 fun c hc=>by
    obtain⟨z,_,rfl⟩:=List.mem_map.1 (List.mem_of_mem_drop hc);rfl) (by rw[Try.gS];omega) hO2 ovB.next rfl
  have ovC:Over H' Hc:=nt ovB hO2 hn3 hp3;have hla:Ha.live oi og=some (3,ints p):=(ovA.live hoi2).trans lo;rw[Ey]at hO3;have hO3':aB H1.next Hc 3 v3 (ints (p.take 0++(k:Int) :: p.drop 0)):=by
   have:ints (p.take 0++[(k:Int)])++ints (p.drop 0)=ints (p.take 0++(k:Int) :: p.drop 0):=(by simp [ints]);rw[this]at hO3;exact hO3.keep ov.next (Nat.le_refl _) fun _ _ _ _ _ _=>rfl
  simp only[go_sem,List.length_replicate,e1,e3,e4,l2,hb,ho,w0,lo,hlb,hA1,hA2,hA3];refine⟨by have:=ovC.next;omega,⟨k+1,_,rfl,by omega,by rw[fT,<- hpe,show kR ord k=0 by unfold kR;rw[if_neg (by omega)]],ov.trans ovC,hO3'⟩,by rw[h4];simp only[aa,aM];omega⟩
structure D25 where
 cards:List Int
 cases:List (List Int)
 follow:Int
 miss:List Int
def OM (l:List (List Int)):List AVal:=(l.map bA).flatten
def D25.cells (d:D25):List AVal:=[.vec d.cards.length (bA d.cards),.vec d.cases.length (OM d.cases),.lit (.int .u8 d.follow),.vec d.miss.length (bA d.miss)]
structure D25.Ok (d:D25):Prop where
 cl:(d.cards.length:Int)<2 ^ 63
 c8:∀ x∈d.cards,U8 x
 xl:(d.cases.length:Int)<2 ^ 63
 x8:∀ r∈d.cases,r.length=5/\∀ x∈r,U8 x
 f8:U8 d.follow
 ml:(d.miss.length:Int)<2 ^ 63
 m8:∀ x∈d.miss,U8 x
def yz (n:Nat)(xs:List (List Int)):Prop:=∀ r∈xs,r.length=n
theorem yz.set {n:Nat}{xs:List (List Int)}(h:yz n xs){i:Nat}{r:List Int}(hr:r.length=n):yz n (xs.set i r):=fun q hq=>by
 rcases List.mem_or_eq_of_mem_set hq with h'|rfl
 ·exact h q h'
 ·exact hr
end Go.Proofs
namespace Go.Hx
variable {P:Program} {G:Nat->Option (List AVal)}
def AHeap.gh (H:AHeap)(n ob:Nat)(b:Blk):AHeap:=⟨fun id=>if n<=id then none else if id=ob then some b else H.get id,H.next⟩
theorem QC {H:AHeap}{n ob:Nat}{b:Blk}(h:ob<n):(H.gh n ob b).get ob=some b:=by simp [AHeap.gh,Nat.not_le.2 h]
theorem QD {H:AHeap}{n ob id:Nat}{b:Blk}(h:id<n)(h2:id≠ob):(H.gh n ob b).get id=H.get id:=by simp [AHeap.gh,Nat.not_le.2 h,h2]
theorem QE {H:AHeap}(hc:Clo H){n ob g:Nat}{e:TypeId}{cells cells':List AVal}(hob:H.get ob=some (.arr g e cells))(hlt:ob<n)(hl:cells'.length=cells.length)
  (hcell:∀ i (h:i<cells.length) (h':i<cells'.length),Fz (fun id=>n<=id) H H.next cells[i] cells'[i]):FzH (fun id=>n<=id) H (H.gh n ob (.arr g e cells')) where
 gone id hs:=by simp [AHeap.gh,hs]
 kept id b hs hb:=by
  have hbb:=hc.below id b hb;refine⟨hc.lt id b hb,?_⟩;by_cases h:id=ob
  ·subst h;rw[hob]at hb;cases hb;exact⟨.arr g e cells',by simp [AHeap.gh,hs],rfl,rfl,hl,hcell⟩
  ·refine⟨b,by simp [AHeap.gh,hs,h,hb],?_⟩;cases b with
   | rsv=>trivial
   | mp=>rfl
   | arr g e cells=>exact⟨rfl,rfl,rfl,fun i h _=>.dead (hbb i h)⟩
   | loop st pend n env ps asg body=>exact⟨rfl,rfl,rfl,rfl,rfl,rfl,rfl,fun t ht=>.dead (hbb t ht)⟩
 none id hs hb:=by
  by_cases h:id=ob
  ·subst h;rw[hob]at hb;cases hb
  ·simp [AHeap.gh,hs,h,hb]
theorem dv.gh (hG:eW G){s:St}{n ob g:Nat}{e:TypeId}{cells cells':List AVal}(hob:s.H.get ob=some (.arr g e cells))(hlt:ob<n)(hl:cells'.length=cells.length)
  (hcell:∀ i (h:i<cells.length) (h':i<cells'.length),Fz (fun id=>n<=id) s.H s.H.next cells[i] cells'[i]):dv P G s ⟨s.ρ,s.H.gh n ob (.arr g e cells')⟩:=by
 intro n' wb Γ a w hs;exact dv.freeze (s:=s) (s':=⟨s.ρ,s.H.gh n ob (.arr g e cells')⟩) hG (QE hs.heap.clo hob hlt hl hcell) (fun t=>.dead (hs.env t).qu) n' wb Γ a w hs
theorem iR.upd {lo:Nat}{H:AHeap}{e1 e0:TypeId}{v:AVal}{rows:List (List AVal)}(h:iR lo H e1 e0 v rows){k:Nat}{b:Blk}(hk:k<lo):iR lo (H.upd k b) e1 e0 v rows:=by
 obtain⟨cs,c1,c2,c3⟩:=h;refine⟨cs,c1.keep (Nat.le_refl _) (by rw[aA];exact Nat.le_refl _) fun id _ h1 _ _ _=>by rw[ag,if_neg (by omega)],c2,fun j r c hr hc=>(c3 j r c hr hc).keep (Nat.le_refl _) (by rw[aA];exact Nat.le_refl _) fun id _ h1 _ _ _=>by rw[ag,if_neg (by omega)]⟩
end Go.Hx
namespace Go.Proofs
open Go.Hx
theorem nr {l:List Int}(h:∀ x∈l,0<=x):0<=l.sum:=by
 induction l with
 | nil=>simp
 | cons a l ih =>
  rw[List.sum_cons];have:=h a (by simp);have:=ih fun x hx=>h x (by simp [hx]);omega
theorem DQ {l:List Int}{i:Nat}{a b:Int}(h:l[i]?=some a):(l.set i b).sum=l.sum - a+b:=by
 induction l generalizing i with
 | nil=>simp at h
 | cons x l ih =>
  cases i with
  | zero=>simp at h;subst h;simp only[List.set_cons_zero,List.sum_cons];omega
  | succ i =>
   simp only[List.set_cons_succ,List.sum_cons];rw[ih (by simpa using h)];omega
theorem QK {l:List Int}{b:Int}(h:∀ x∈l,0<=x/\x<=b):l.sum<=b*l.length:=by
 induction l with
 | nil=>simp
 | cons a l ih =>
  rw[List.sum_cons,List.length_cons];have:=(h a (by simp)).2;have:=ih fun x hx=>h x (by simp [hx]);rw[show b*((l.length+1:Nat):Int)=b*l.length+b by rw[Int.natCast_add,Int.mul_add];simp];omega
def wF (n:Nat)(bs:List Int)(from':Int):List Int:=(List.range n).map fun (k:Nat)=>if bs.length=0 then 0 else bs.getD ((from'+(k:Int)) % (bs.length:Int)).toNat 0 % 8
theorem DR (n:Nat)(bs:List Int)(from':Int):(wF n bs from').length=n:=by simp [wF]
theorem DS {n:Nat}(bs:List Int)(from':Int){k:Nat}(h:k<n):(wF n bs from')[k]?=some (if bs.length=0 then 0 else bs.getD ((from'+(k:Int)) % (bs.length:Int)).toNat 0 % 8):=by
 unfold wF;rw[List.getElem?_map,List.getElem?_range h];rfl
theorem QL (n:Nat)(bs:List Int)(from':Int):∀ x∈wF n bs from',0<=x/\x<=7:=fun x hx=>by
 unfold wF at hx;obtain⟨k,_,rfl⟩:=List.mem_map.1 hx;split<;>omega
def uH (g s:Int)(st:List Int × Nat)(m:Nat):List Int × Nat:=if 0<st.1.getD m 0 then (st.1.set m (g*st.1.getD m 0 / s),m) else st
def iD (g:Int)(c:List Int)(m:Nat):List Int × Nat:=(List.range m).foldl (uH g c.sum) (c,0)
theorem DT (g:Int)(c:List Int)(m:Nat):iD g c (m+1)=uH g c.sum (iD g c m) m:=by unfold iD;rw[List.range_succ,List.foldl_append];rfl
def pD (g:Int)(n:Nat)(bs:List Int)(from':Int):List Int:=(iD g (wF n bs from') n).1.set (iD g (wF n bs from') n).2 ((iD g (wF n bs from') n).1.getD (iD g (wF n bs from') n).2 0+(g - (iD g (wF n bs from') n).1.sum))
structure RInv (g:Int)(c:List Int)(m:Nat)(d:List Int)(last:Nat):Prop where
 dl:d.length=c.length
 d0:∀ x∈d,0<=x
 dd:d.drop m=c.drop m
 dg:(d.take m).sum<=g
 ds:c.sum*(d.take m).sum<=g*(c.take m).sum
 la:last<c.length
theorem DU {g:Int}{c:List Int}(hg:1<=g)(hc:∀ x∈c,0<=x)(hl:0<c.length):∀ m,m<=c.length->RInv g c m (iD g c m).1 (iD g c m).2:=by
 intro m
 induction m with
 | zero=>intro _;exact⟨rfl,hc,rfl,by simp;omega,by simp,hl⟩
 | succ m ih =>
  intro hm;obtain⟨hdl,hd0,hdd,hdg,hds,hla⟩:=ih (by omega);rw[DT];generalize iD g c m=st at *
  obtain⟨d,last⟩:=st;simp only at hdl hd0 hdd hdg hds hla;obtain⟨x,hcx⟩:=get_of_lt (l:=c) (i:=m) (by omega);have hx0:=hc x (List.mem_of_getElem? hcx);have hdx:d[m]?=some x:=by
   have h1:(d.drop m)[0]?=d[m]?:=(by rw[List.getElem?_drop];rfl);have h2:(c.drop m)[0]?=c[m]?:=(by rw[List.getElem?_drop];rfl);rw[<- h1,hdd,h2,hcx]
  have hdd':d.drop (m+1)=c.drop (m+1):=by
   have:=congrArg (List.drop 1) hdd
   rwa [List.drop_drop,List.drop_drop]at this
  have hct:(c.take (m+1)).sum=(c.take m).sum+x:=by rw[aL hcx];simp
  have hcs:(c.take (m+1)).sum+(c.drop (m+1)).sum=c.sum:=by rw[<- List.sum_append,List.take_append_drop]
  have hcd0:=nr (l:=c.drop (m+1)) fun y hy=>hc y (List.mem_of_mem_drop hy);have hc00:=nr (l:=c.take m) fun y hy=>hc y (List.mem_of_mem_take hy);have hd00:=nr (l:=d.take m) fun y hy=>hd0 y (List.mem_of_mem_take hy);unfold uH;rw[bJ hdx];by_cases hx:0<x
  ·rw[if_pos hx];have gx:0<=g*x:=Int.mul_nonneg (by omega) hx0;have y0:0<=g*x / c.sum:=Int.ediv_nonneg gx (by omega);have y2:c.sum*(g*x / c.sum)<=g*x:=Int.mul_ediv_self_le (by omega);have dt:((d.set m (g*x / c.sum)).take (m+1)).sum=(d.take m).sum+g*x / c.sum:=by
    rw[aL (List.getElem?_set_self (by omega)),List.take_set_of_le (Nat.le_refl _)];simp
   have hs2:c.sum*((d.take m).sum+g*x / c.sum)<=g*(c.take (m+1)).sum:=by
    rw[Int.mul_add,hct,Int.mul_add];omega
   have hle:(d.take m).sum+g*x / c.sum<=g:=by
    have h1:g*(c.take (m+1)).sum<=g*c.sum:=Int.mul_le_mul_of_nonneg_left (by omega) (by omega);have h2:c.sum*((d.take m).sum+g*x / c.sum)<=c.sum*g:=(by rw[Int.mul_comm c.sum g];omega);exact Int.le_of_mul_le_mul_left h2 (by omega)
   refine⟨by simp [hdl],fun y hy=>?_,?_,by dsimp only;rw[dt];exact hle,by dsimp only;rw[dt];exact hs2,by dsimp only;omega⟩
   ·rcases List.mem_or_eq_of_mem_set hy with h|h
    ·exact hd0 y h
    ·omega
   ·rw[<- hdd',List.drop_set_of_lt (by omega)]
  ·rw[if_neg hx];have x0:x=0:=(by omega);have dt:(d.take (m+1)).sum=(d.take m).sum:=(by rw[aL hdx,x0];simp);rw[x0,Int.add_zero]at hct;exact⟨hdl,hd0,hdd',by dsimp only;rw[dt];exact hdg,by dsimp only;rw[dt,hct];exact hds,hla⟩
theorem QM {g:Int}{n:Nat}(hg:1<=g)(hn:1<=n)(bs:List Int)(from':Int):jE g n (pD g n bs from'):=by
 have hw:=DR n bs from';have I:=DU (g:=g) (c:=wF n bs from') hg (fun x hx=>(QL n bs from' x hx).1) (by omega) n (by omega);unfold pD;generalize iD g (wF n bs from') n=st at *
 obtain⟨d,last⟩:=st;obtain⟨hdl,hd0,hdd,hdg,hds,hla⟩:=I;dsimp only at hdl hd0 hdd hdg hds hla ⊢;obtain⟨y,hy⟩:=get_of_lt (l:=d) (i:=last) (by omega);have y0:=hd0 y (List.mem_of_getElem? hy);rw[bJ hy];rw[List.take_of_length_le (by omega)]at hdg;have hs:(d.set last (y+(g - d.sum))).sum=g:=by rw[DQ hy];omega
 have h0:∀ w∈d.set last (y+(g - d.sum)),0<=w:=fun w hw=>by
  rcases List.mem_or_eq_of_mem_set hw with h|h
  ·exact hd0 w h
  ·omega
 exact⟨by simp [hdl,hw],fun w hw=>⟨h0 w hw,by have:=pJ h0 w hw;omega⟩,hs⟩
set_option maxHeartbeats 2000000 in
theorem QN (g:Int)(n:Nat)(hg:1<=g/\g<=60)(hn:1<=n/\n<=4)(bs:List Int)(hbl:(bs.length:Int)<2 ^ 63)(hb8:∀ x∈bs,U8 x)(from':Int)(hf:0<=from'/\from'<=1000000)(H:AHeap)(K:ARes->AHeap->Prop)(hK:∀ v H',Over H H'->aB H.next H' 3 v (ints (pD g n bs from'))->K (.ret v) H'):
  ae Try.prog G0 38 [aa g,aa n,.vec bs.length (bA bs),aa from'] H K:=by
 refine ae.clo ⟨_,Try.func38,rfl,rfl⟩ fun hcl=>?_;refine ae.bM (n:=84) (rs:=[.tmp 8]) Try.func38 rfl rfl rfl (by decide) (by kernel_rfl) (by simp) ?_;simp only[go_sem];refine⟨by omega,?_⟩;refine W.aI 35184371960832 (by rfl) (fun ρ H'=>∃ (k:Nat) (c:List Int),ρ 11=aa k/\k<=n/\c.length=n/\(∀ x∈c,0<=x/\x<=7)/\(∀ j x,k<=j->c[j]?=some x->x=0)/\(∀ j,j<k->c[j]?=(wF n bs from')[j]?)/\ρ 10=aa c.sum/\OwnI H H' H.next c) (fun ρ H=>n - (iv (ρ 11)).toNat) ?_ ?_
 ·simp only[go_sem];refine⟨0,List.replicate n 0,rfl,by omega,by simp,fun x hx=>?_,fun j x _ hx=>?_,fun j hj=>by omega,by simp,?_⟩
  ·have:=List.eq_of_mem_replicate hx;omega
  ·exact List.eq_of_mem_replicate (List.mem_of_getElem? hx)
  ·exact .new [] _
 rintro ρ H' ⟨k,c,h11,hk,hcl',hc7,hc0,hcw,h10,ho⟩;refine W.env fun E hE=>?_;have e0:E 0=aa g:=by rw[hE];simp only[go_sem]
 have e1:E 1=aa n:=by rw[hE];simp only[go_sem]
 have e2:E 2=.vec bs.length (bA bs):=by rw[hE];simp only[go_sem]
 have e3:E 3=aa from':=by rw[hE];simp only[go_sem]
 have e9:E 9=.own H.next 0 0 n 1:=by rw[hE];simp only[go_sem]
 have e10:E 10=aa c.sum:=by rw[hE];simp only[go_sem,h10]
 have e11:E 11=aa k:=by rw[hE];simp only[go_sem,h11]
 clear hE;refine ab _ _ _ (by rfl) ?_;have lN:=ho.live;have hs0:=nr fun x hx=>(hc7 x hx).1;have hs1:=QK hc7;by_cases hb:(k:Int)<n
 ·have hck:c[k]?=some 0:=by
   obtain⟨a,ha⟩:=get_of_lt (l:=c) (i:=k) (by omega);rw[ha,hc0 k a (Nat.le_refl _) ha]
  have hcne:=aN hck;have hk0:(k:Int) >= 0:=by omega
  have w1:=IntWalk.i64_in ((k:Int)+1) (by omega);by_cases hz:(0:Int)<bs.length
  ·have hzn:¬ (bs.length:Int)=0:=(by omega);have w2:=IntWalk.i64_in (from'+k) (by omega);have m1:(from'+(k:Int)).tmod bs.length=(from'+k) % bs.length:=Int.tmod_eq_emod_of_nonneg (by omega);have m2:=Int.emod_nonneg (from'+k) hzn;have m3:=Int.emod_lt_of_pos (from'+k) hz;obtain⟨q,hq⟩:=Int.eq_ofNat_of_zero_le m2;have hq0:(q:Int) >= 0:=(by omega);have hql:(q:Int)<bs.length:=(by omega);obtain⟨b,hbg⟩:=get_of_lt (l:=bs) (i:=q) (by omega);have b8:=hb8 b (List.mem_of_getElem? hbg);have hbg':=rm hbg;have hbne:=aN hbg';have t1:b.tmod 8=b % 8:=Int.tmod_eq_emod_of_nonneg b8.1;have w3:IntKind.u8.wrap (b % 8)=b % 8:=IntWalk.u8_in _ (by omega);have w4:IntKind.i64.wrap (b % 8)=b % 8:=IntWalk.i64_in _ (by omega);have w5:=IntWalk.i64_in (c.sum+b % 8) (by omega);have hsg:(setAt (ints c) k [.lit (.int .i64 (b % 8))])[k]?=some (.lit (.int .i64 (b % 8))):=by
    rw[eS (by omega),gF,List.getElem?_set_self (by omega)];rfl
   simp only[go_sem,hsg,e1,e2,e3,e9,e10,e11,hb,hz,hzn,w1,w2,m1,hq,hq0,hql,hbg',hbne,t1,w4,w5,hk0,lN];refine⟨by omega,by have:=ho.hi;rw[aA];omega,⟨k+1,c.set k (b % 8),rfl,by omega,by simp [hcl'],fun x hx=>?_,fun j x hj hx=>?_,fun j hj=>?_,by rw[DQ hck,Int.sub_zero],ho.store (by omega) _⟩,by rw[h11];simp only[aa,aM];omega⟩
   ·rcases List.mem_or_eq_of_mem_set hx with h|h
    ·exact hc7 x h
    ·omega
   ·rw[List.getElem?_set_ne (by omega)]at hx;exact hc0 j x (by omega) hx
   ·by_cases hjk:j=k
    ·subst hjk;rw[List.getElem?_set_self (by omega),DS bs from' (by omega),if_neg (by omega),hq,Int.toNat_natCast,bJ hbg]
    ·rw[List.getElem?_set_ne (by omega)];exact hcw j (by omega)
  ·have w5:=IntWalk.i64_in (c.sum+0) (by omega);rw[Int.add_zero]at w5;simp only[go_sem,e1,e2,e9,e10,e11,hb,hz,w1,w5,Int.add_zero,hk0,hck,lN];refine⟨by have:=ho.hi;omega,⟨k+1,c,rfl,by omega,hcl',hc7,fun j x hj hx=>hc0 j x (by omega) hx,fun j hj=>by
    by_cases hjk:j=k
    ·subst hjk;rw[hck,DS bs from' (by omega),if_pos (by omega)]
    ·exact hcw j (by omega),rfl,ho⟩,by rw[h11];simp only[aa,aM];omega⟩
 ·obtain rfl:k=n:=by omega
  simp only[go_sem,e1,e11,hb];have hcwF:c=wF k bs from':=by
   apply List.ext_getElem?;intro j;rcases Nat.lt_or_ge j k with h|h
   ·exact hcw j h
   ·rw[List.getElem?_eq_none (by omega),List.getElem?_eq_none (by rw[DR];exact h)]
  have hRI:=fun m (hm:m<=k)=>DU (g:=g) (c:=c) hg.1 (fun x hx=>(hc7 x hx).1) (by omega) m (by omega);refine W.aI 18889465861109836705792 (by rfl) (fun ρ H2=>∃ (m last:Nat) (d:List Int),ρ 14=aa m/\m<=k/\iD g c m=(d,last)/\ρ 12=aa (g - (d.take m).sum)/\ρ 13=aa last/\H'.next<=H2.next/\OwnI H H2 H.next d) (fun ρ H=>k - (iv (ρ 14)).toNat) ?_ ?_
  ·simp only[go_sem,e0];exact⟨0,0,c,rfl,by omega,rfl,by simp,rfl,ho⟩
  rintro ρ2 H2 ⟨m,last,d,h14,hm,hrf,h12,h13,hnn,hod⟩;obtain⟨hdl,hd0,hdd,hdg,hds,hlast⟩:RInv g c m d last:=by have:=hRI m hm;rw[hrf]at this;exact this
  rw[hcl']at hdl hlast;have hrs:=DT g c m;rw[hrf]at hrs;unfold uH at hrs;dsimp only at hrs;refine W.env fun E2 hE2=>?_;have f0:E2 0=aa g:=by rw[hE2];simp only[go_sem,e0]
  have f1:E2 1=aa k:=by rw[hE2];simp only[go_sem,e1]
  have f9:E2 9=.own H.next 0 0 k 1:=by rw[hE2];simp only[go_sem,e9]
  have f10:E2 10=aa c.sum:=by rw[hE2];simp only[go_sem,e10]
  have f12:E2 12=aa (g - (d.take m).sum):=by rw[hE2];simp only[go_sem,h12]
  have f13:E2 13=aa last:=by rw[hE2];simp only[go_sem,h13]
  have f14:E2 14=aa m:=by rw[hE2];simp only[go_sem,h14]
  clear hE2;refine ab _ _ _ (by rfl) ?_;have lN2:=hod.live;by_cases hb2:(m:Int)<k
  ·obtain⟨x,hcx⟩:=get_of_lt (l:=c) (i:=m) (by omega);have hx7:=hc7 x (List.mem_of_getElem? hcx);have hdx:d[m]?=some x:=by
    have h1:(d.drop m)[0]?=d[m]?:=(by rw[List.getElem?_drop];rfl);have h2:(c.drop m)[0]?=c[m]?:=(by rw[List.getElem?_drop];rfl);rw[<- h1,hdd,h2,hcx]
   have hdne:=aN hdx;have hm0:(m:Int) >= 0:=(by omega);have w1:=IntWalk.i64_in ((m:Int)+1) (by omega);have hdd':d.drop (m+1)=c.drop (m+1):=by
    have:=congrArg (List.drop 1) hdd
    rwa [List.drop_drop,List.drop_drop]at this
   have hct:(c.take (m+1)).sum=(c.take m).sum+x:=(by rw[aL hcx];simp);have hcs:(c.take (m+1)).sum+(c.drop (m+1)).sum=c.sum:=(by rw[<- List.sum_append,List.take_append_drop]);have hcd0:=nr (l:=c.drop (m+1)) fun y hy=>(hc7 y (List.mem_of_mem_drop hy)).1;have hc00:=nr (l:=c.take m) fun y hy=>(hc7 y (List.mem_of_mem_take hy)).1;have hd00:=nr (l:=d.take m) fun y hy=>hd0 y (List.mem_of_mem_take hy);by_cases hx:0<x
   ·have hsz:¬ c.sum=0:=(by omega);have gx:0<=g*x:=Int.mul_nonneg (by omega) hx7.1;have gx2:g*x<=60*7:=Int.mul_le_mul hg.2 hx7.2 hx7.1 (by omega);have w2:=IntWalk.i64_in (g*x) (by omega);have t1:(g*x).tdiv c.sum=g*x / c.sum:=Int.tdiv_eq_ediv_of_nonneg gx;have y0:0<=g*x / c.sum:=Int.ediv_nonneg gx hs0;have y1:g*x / c.sum<=g*x:=Int.ediv_le_self _ gx;have y2:c.sum*(g*x / c.sum)<=g*x:=Int.mul_ediv_self_le (by omega);have w3:=IntWalk.i64_in (g*x / c.sum) (by omega);have w4:=IntWalk.i64_in (g - (d.take m).sum - g*x / c.sum) (by omega);have hsg:(setAt (ints d) m [.lit (.int .i64 (g*x / c.sum))])[m]?=some (.lit (.int .i64 (g*x / c.sum))):=by
     rw[eS (by omega),gF,List.getElem?_set_self (by omega)];rfl
    have dt:((d.set m (g*x / c.sum)).take (m+1)).sum=(d.take m).sum+g*x / c.sum:=by
     rw[aL (List.getElem?_set_self (by omega)),List.take_set_of_le (Nat.le_refl _)];simp
    have hs2:c.sum*((d.take m).sum+g*x / c.sum)<=g*(c.take (m+1)).sum:=by
     rw[Int.mul_add,hct,Int.mul_add];omega
    have hle:(d.take m).sum+g*x / c.sum<=g:=by
     have h1:g*(c.take (m+1)).sum<=g*c.sum:=Int.mul_le_mul_of_nonneg_left (by omega) (by omega);have h2:c.sum*((d.take m).sum+g*x / c.sum)<=c.sum*g:=(by rw[Int.mul_comm c.sum g];omega);exact Int.le_of_mul_le_mul_left h2 (by omega)
    simp only[go_sem,hsg,f0,f1,f9,f10,f12,f13,f14,hb2,hx,hsz,w1,w2,t1,w3,w4,hm0,hdx,lN2];rw[bJ hdx,if_pos hx]at hrs;exact⟨by omega,by rw[aA];exact hnn,⟨m+1,m,d.set m (g*x / c.sum),rfl,by omega,hrs,by rw[dt];congr 2;omega,rfl,by rw[aA];exact hnn,hod.store (by omega) _⟩,by rw[h14];simp only[aa,aM];omega⟩
   ·have x0:x=0:=(by omega);have w4:=IntWalk.i64_in (g - (d.take m).sum) (by omega);simp only[go_sem,f1,f9,f12,f13,f14,hb2,x0,w1,w4,hm0,hdx,Int.sub_zero,lN2];have dt:(d.take (m+1)).sum=(d.take m).sum:=(by rw[aL hdx,x0];simp);rw[x0,Int.add_zero]at hct;rw[bJ hdx,if_neg hx]at hrs;exact⟨hnn,⟨m+1,last,d,rfl,by omega,hrs,by rw[dt],rfl,hnn,hod⟩,by rw[h14];simp only[aa,aM];omega⟩
  ·obtain rfl:m=k:=(by omega);obtain⟨y,hy⟩:=get_of_lt (l:=d) (i:=last) (by omega);have hyne:=aN hy;have hl0:(last:Int) >= 0:=(by omega);have hlk:(last:Int)<m:=(by omega);have y0:=hd0 y (List.mem_of_getElem? hy);rw[List.take_of_length_le (by omega)]at hdg hds h12 f12;have hyle:=pJ hd0 y (List.mem_of_getElem? hy);have w1:=IntWalk.i64_in (y+(g - d.sum)) (by omega);have hle:last+1<=d.length:=(by omega);simp only[go_sem,f1,f9,f12,f13,f14,hb2,hl0,hlk,hy,lN2,w1];refine⟨hle,?_⟩;have hrow:pD g m bs from'=d.set last (y+(g - d.sum)):=by
    unfold pD;rw[<- hcwF,hrf];dsimp only;rw[bJ hy]
   rw[hrow]at hK;have ho2:=hod.store (k:=last) (by omega) (y+(g - d.sum));refine av.mk ho2.ov.next (hK _ _ ho2.ov (.inr ⟨_,0,ho2.lo,ho2.hi,?_,ho2.get⟩));rw[aZ,List.length_set,hdl]
structure DrP where
 card:Int
 par:Int
 w:List Int
def DrP.cells (x:DrP):List AVal:=[.lit (.int .u8 x.card),.lit (.int .u8 x.par),.vec x.w.length (bA x.w)]
def fg (l:List DrP):List AVal:=(l.map DrP.cells).flatten
def DrP.Ok (x:DrP):Prop:=U8 x.card/\U8 x.par/\(x.w.length:Int)<2 ^ 63/\∀ b∈x.w,U8 b
def DV (g:Int)(ps:List DrP)(ord:List Int):AVal:=.agg [.lit (.int .u8 g),.vec ps.length (fg ps),.vec ord.length (bA ord)]
theorem DW {l:List DrP}{i:Nat}{x:DrP}(h:l[i]?=some x):((fg l).drop (i*3)).take 3=[.lit (.int .u8 x.card),.lit (.int .u8 x.par),.vec x.w.length (bA x.w)]:=pr (f:=DrP.cells) (z:=3) (fun _=>rfl) l i x h
theorem DX (l:List DrP):(fg l).length=l.length*3:=mh (f:=DrP.cells) (fun _=>rfl) l
def NodeP.cq (x:NodeP):List AVal:=if x.rows=[] then [aa x.card,.lit (.slice none 0 0),.lit (.slice none 0 0)] else [aa x.card,af x.parents,aE x.rows]
def bF (l:List NodeP):List AVal:=(l.map NodeP.cq).flatten
theorem jA (x:NodeP):x.cq.length=3:=by unfold NodeP.cq;split<;>rfl
theorem DY (l:List NodeP):(bF l).length=l.length*3:=mh (f:=NodeP.cq) jA l
theorem DZ {l:List NodeP}{i:Nat}{x:NodeP}(h:l[i]?=some x):(bF l)[i*3]?=some (aa x.card):=by
 have:=ke (f:=NodeP.cq) (z:=3) jA l i 0 x h (by omega);rw[Nat.add_zero]at this;rw[show (bF l)[i*3]?=_ from this];unfold NodeP.cq;split<;>rfl
theorem QO {l:List NodeP}(h:∀ x∈l,x.rows≠[]):bF l=ar l:=by
 unfold bF ar;congr 1;exact List.map_congr_left fun x hx=>if_neg (h x hx)
theorem yW {α:Type}{f:α->List AVal}{z:Nat}(hz:∀ a,(f a).length=z):∀ (l:List α) (i:Nat) (a:α),i<l.length->((l.set i a).map f).flatten=((l.map f).flatten).take (i*z)++f a++((l.map f).flatten).drop (i*z+z):=by
 intro l
 induction l with
 | nil=>intro i a h;simp at h
 | cons b l ih =>
  intro i a h;cases i with
  | zero=>simp [hz]
  | succ i =>
   have hb:=hz b;simp only[List.set_cons_succ,List.map_cons,List.flatten_cons];rw[ih i a (by simpa using h),show (i+1)*z=z+i*z by rw[Nat.add_mul];omega,List.take_append,List.drop_append,hb];rw[List.take_of_length_le (l:=f b) (i:=z+i*z) (by omega),List.drop_of_length_le (l:=f b) (i:=z+i*z+z) (by omega),show z+i*z - z=i*z by omega,show z+i*z+z - z=i*z+z by omega];simp
theorem D0 {S:Nat->Prop}{H:AHeap}{nx:Nat}{A B:List AVal}{i:Nat}{a b:AVal}(h:∀ j (h:j<A.length) (h':j<B.length),Fz S H nx A[j] B[j])(hab:Fz S H nx a b):∀ j (h:j<(A.set i a).length) (h':j<(B.set i b).length),Fz S H nx (A.set i a)[j] (B.set i b)[j]:=by
 intro j h1 h2;rw[List.getElem_set,List.getElem_set];split
 ·exact hab
 ·exact h j (by simpa using h1) (by simpa using h2)
theorem pE {S:Nat->Prop}{H:AHeap}{nx:Nat}(l:List (List Int)):Fz S H nx (aE l) (aE l):=.vec rfl fun i hi _=>by simp only[List.getElem_map];exact .dJ _
theorem QP {S:Nat->Prop}{H:AHeap}{nx:Nat}(x:NodeP):∀ c∈x.cq,Fz S H nx c c:=by
 intro c hc;unfold NodeP.cq at hc;split at hc
 ·simp only[List.mem_cons,List.not_mem_nil,or_false]at hc;rcases hc with rfl|rfl|rfl<;>exact .lit _
 ·simp only[List.mem_cons,List.not_mem_nil,or_false]at hc;rcases hc with rfl|rfl|rfl
  ·exact .lit _
  ·exact .dJ _
  ·exact pE _
theorem D1 {S:Nat->Prop}{H:AHeap}{nx:Nat}(l:List NodeP):∀ c∈bF l,Fz S H nx c c:=by
 intro c hc;unfold bF at hc;obtain⟨r,hr,hc⟩:=List.mem_flatten.1 hc;obtain⟨x,_,rfl⟩:=List.mem_map.1 hr;exact QP x c hc
theorem QQ {S:Nat->Prop}{H:AHeap}{nx:Nat}:∀ (l:List NodeP),(∀ x∈l,x.rows=[]->x.parents=[])->∀ (i:Nat) (h:i<(bF l).length) (h':i<(ar l).length),Fz S H nx (bF l)[i] (ar l)[i]:=by
 intro l
 induction l with
 | nil=>intro _ i h;simp [bF]at h
 | cons x l ih =>
  intro hx i h h';have e1:bF (x :: l)=x.cq++bF l:=by simp [bF]
  have e2:ar (x :: l)=x.cells++ar l:=by simp [ar]
  have l1:=jA x;have l2:x.cells.length=3:=rfl;have hc:∀ (i:Nat) (h:i<x.cq.length) (h':i<x.cells.length),Fz S H nx x.cq[i] x.cells[i]:=by
   intro i h h';by_cases hr:x.rows=[]
   ·have hp:=hx x (by simp) hr;have ez:x.cq=[aa x.card,.lit (.slice none 0 0),.lit (.slice none 0 0)]:=if_pos hr;have ec:x.cells=[aa x.card,af [],aE []]:=(by unfold NodeP.cells;rw[hr,hp]);simp only[ez,ec]
    match i,h' with
    | 0,_=>exact .lit _
    | 1,_=>exact .nil
    | 2,_=>exact .nil
   ·have ez:x.cq=x.cells:=if_neg hr;simp only[ez]
    match i,h' with
    | 0,_=>exact .lit _
    | 1,_=>exact .dJ _
    | 2,_=>exact pE _
  simp only[e1,e2];by_cases hi:i<3
  ·rw[List.getElem_append_left (by omega),List.getElem_append_left (by omega)];exact hc i (by omega) (by omega)
  ·rw[List.getElem_append_right (by omega),List.getElem_append_right (by omega)];simp only[l1,l2];exact ih (fun y hy=>hx y (by simp [hy])) (i - 3) _ _
theorem QR {l:List NodeP}{i:Nat}{x y:NodeP}(h:l[i]?=some x)(hy:y.card=x.card):ar (l.set i y)=((ar l).set (i*3+1) (af y.parents)).set (i*3+2) (aE y.rows):=by
 have hl:=get_lt h;have h1:=yW (f:=NodeP.cells) (z:=3) (fun _=>rfl) l i y hl;have h2:=pr (f:=NodeP.cells) (z:=3) (fun _=>rfl) l i x h;unfold ar;rw[h1];have h3:(l.map NodeP.cells).flatten=((l.map NodeP.cells).flatten).take (i*3)++(x.cells++((l.map NodeP.cells).flatten).drop (i*3+3)):=by
  rw[<- h2,<- List.drop_drop,List.take_append_drop,List.take_append_drop]
 have hlen:(((l.map NodeP.cells).flatten).take (i*3)).length=i*3:=by
  rw[List.length_take,mh (f:=NodeP.cells) (z:=3) (fun _=>rfl)];omega
 conv=>rhs;rw[h3]
 rw[List.set_append_right _ _ (by omega),List.set_append_right _ _ (by omega),hlen,show i*3+1 - i*3=1 by omega,show i*3+2 - i*3=2 by omega];unfold NodeP.cells;simp [hy]
theorem QS {lo:Nat}{H:AHeap}{e:TypeId}{v:AVal}{cs:List AVal}(h:aB lo H e v cs){d:Option TypeDesc}{t:TypeId}(hd:d=some (.slice t)):qx d H v=some (.lit (.int .i64 cs.length)):=by
 subst hd;rcases h with ⟨rfl,rfl⟩|⟨id,g,_,_,rfl,h4⟩
 ·rfl
 ·rw[vW,AV,ak h4];rfl
theorem QT (l p:List Int)(hl:(l.length:Int)<2 ^ 40)(hp:(p.length:Int)<2 ^ 39)(hin:∀ q∈p,0<=q/\q<l.length)(H:AHeap)(K:ARes->AHeap->Prop)(hK:∀ v H',Over H H'->aB H.next H' 3 v (ints (aY l p))->K (.ret v) H'):ae Try.prog G0 67 [af l,af p] H K:=by
 refine ae.clo ⟨_,Try.func67,rfl,rfl⟩ fun hcl=>?_;refine ae.bM (n:=24) (rs:=[.tmp 4]) Try.func67 rfl rfl rfl (by decide) (by kernel_rfl) (by simp) ?_;simp only[go_sem];refine W.aI 8388576 (by rfl) (fun ρ H'=>∃ k:Nat,ρ 6=aa k/\k<=p.length/\Over H H'/\aB H.next H' 3 (ρ 5) (ints (aY l (p.take k)))) (fun ρ H=>p.length - (iv (ρ 6)).toNat) ?_ ?_
 ·simp only[go_sem];exact⟨0,rfl,by omega,.refl _,.nil⟩
 rintro ρ H' ⟨k,h6,hk,ov,h5⟩;refine ab _ _ _ (by rfl) ?_;by_cases hb:(k:Int)<p.length
 ·obtain⟨q,hq⟩:=get_of_lt (l:=p) (i:=k) (by omega);obtain⟨j,rfl,a,ha⟩:=ni (hin q (List.mem_of_getElem? hq)).1 (hin q (List.mem_of_getElem? hq)).2;have hne:=aN hq;have hne2:=aN ha;have hj:=get_lt ha;have hj':(j:Int)<l.length:=by omega
  obtain⟨v',H2,hA,ov2,hO,hn2,_⟩:=kT a ov h5 (by simp [aY];omega);have w1:=IntWalk.i64_in ((k:Int)+1) (by omega);simp only[go_sem,h6,hb,hq,hne,ha,hne2,hj',w1,hA];refine⟨by have:=ov2.next;omega,⟨k+1,by simp,by omega,ov2,?_⟩,by omega⟩;rw[Ei hq,Int.toNat_natCast,bJ ha];exact hO
 ·simp only[go_sem,h6,hb];rw[List.take_of_length_le (by omega)]at h5;exact av.mk ov.next (hK _ _ ov h5)
theorem QU (g:Int)(ns:List NodeP)(v:Nat)(x:NodeP)(hx:ns[v]?=some x)(hl:(ns.length:Int)<2 ^ 39)(hp:(x.parents.length:Int)<2 ^ 39)(hin:iG x.parents ns.length)(H:AHeap)(K:ARes->AHeap->Prop)
  (hK:∀ v H',Over H H'->aB H.next H' 3 v (ints (aX ns x))->K (.ret v) H'):ae Try.prog G0 37 [aO g ns,aa v] H K:=by
 refine ae.clo ⟨_,Try.func37,rfl,rfl⟩ fun hcl=>?_;have hne:=fa hx;have e1:=ry hx;have hv:(v:Int)<ns.length:=by have:=get_lt hx;omega
 refine ae.bM (n:=14) (rs:=[.tmp 4]) Try.func37 rfl rfl rfl (by decide) (by kernel_rfl) (by simp) ?_;simp only[go_sem,aO,cM];refine W.draw 8 [0,1,0,4,0,28,60,124] Try.mixed (by kernel_rfl) (by kernel_rfl) ?_;simp only[go_sem];refine⟨af (au ns),[],dx.pure fun H2=>nC g ns hl H2 _ ⟨rfl,rfl⟩,?_⟩;simp only[go_sem,hv,hne,e1];refine aw.clo (QT (au ns) x.parents (by rw[cG];omega) hp (by rw[cG];exact hin) _ _ fun w H3 ov ho=>⟨trivial,?_⟩);simp only[go_sem];have o1:Over H H3:=(Over.ext _ _).trans ov;exact av.mk o1.next (hK _ _ o1 (ho.keep (by simp [bI]) (Nat.le_refl _) fun _ _ _ _ _ _=>rfl))
theorem QV {ns:List NodeP}{P:List Int}(hP:IsPerm ns.length P)(hall:∀ v:Nat,v<ns.length->(v:Int)∈P)(hr:∀ (j v:Nat) (x:NodeP),P[j]?=some (v:Int)->ns[v]?=some x->∀ q∈x.parents,0<=q/\∃ k,k<j/\P[k]?=some q):mj (bB ns):=by
 intro v hv;have hl:(bB ns).length=ns.length:=by simp [bB]
 rw[hl]at hv;obtain⟨j,hj⟩:=List.mem_iff_getElem?.1 (hall v hv);have h0:∀ p∈P.take j,0<=p:=fun p hp=>(hP.rng p (List.mem_of_mem_take hp)).1;have sub:∀ (k u:Nat) (x:NodeP),k<=j->P[k]?=some (u:Int)->ns[u]?=some x->Sub ((bB ns).getD u 0) (dL (P.take j)):=fun k u x hk hu hx i hi=>by
  rw[bJ (nD hx)]at hi;have hp0:∀ p∈x.parents,0<=p:=fun p hp=>(hr k u x hu hx p hp).1;rw[mi hp0]at hi;obtain⟨_,k',hk',hq⟩:=hr k u x hu hx _ (of_decide_eq_true hi);rw[mi h0];refine decide_eq_true ?_;exact List.mem_iff_getElem?.2 ⟨k',by rw[List.getElem?_take_of_lt (by omega)];exact hq⟩
 have hcl:mn (bB ns) (dL (P.take j)):=fun u hu ht=>by
  rw[hl]at hu;rw[mi h0]at ht;obtain⟨k,hk⟩:=List.mem_iff_getElem?.1 (of_decide_eq_true ht);have hkl:=get_lt hk;rw[List.length_take]at hkl;rw[List.getElem?_take_of_lt (by omega)]at hk;obtain⟨x,hx⟩:=get_of_lt hu;exact sub k u x (by omega) hk hx
 obtain⟨x,hx⟩:=get_of_lt hv;have h1:=uE hcl (bB ns).length (sub j v x (Nat.le_refl _) hj hx);cases hb:(fF (bB ns) ((bB ns).getD v 0)).testBit v with
 | false=>rfl
 | true =>
  exfalso;have h2:=h1 v hb;rw[mi h0]at h2;obtain⟨k,hk⟩:=List.mem_iff_getElem?.1 (of_decide_eq_true h2);have hkl:=get_lt hk;rw[List.length_take]at hkl;rw[List.getElem?_take_of_lt (by omega)]at hk;have e:P[k]?=P[j]?:=by rw[hk,hj]
  have:=(List.getElem?_inj (get_lt hk) hP.nd).1 e;omega
theorem CR {lo:Nat}{H:AHeap}{e1 e0:TypeId}{v:AVal}{rows:List (List AVal)}(h:fh lo H e1 e0 v rows):v.one=true/\v.cells=[v]:=let ⟨_,a,_⟩:=h;⟨a.one,a.cells⟩
theorem CS {lo:Nat}{H:AHeap}{e1 e0:TypeId}{v:AVal}{rows:List (List AVal)}(h:fh lo H e1 e0 v rows){k:Nat}{b:Blk}(hk:k<lo):fh lo (H.upd k b) e1 e0 v rows :=
 let ⟨cs,a,b',c,e⟩:=h
 have u:∀ {u:AVal} {e:TypeId} {l:List AVal},aB lo H e u l->aB lo (H.upd k b) e u l:=fun h=>h.keep (Nat.le_refl _) (by rw[aA];exact Nat.le_refl _) fun i _ h1 _ _ _=>by rw[ag,if_neg (by omega)]
 ⟨cs,u a,b',fun j r q h1 h2=>u (c j r q h1 h2),e⟩
abbrev yA (a b:AVal):Blk:=.arr 0 42 [a,b]
def t9 (p:Int)(k:Nat):Bool:=decide (IntKind.u8.wrap (((BitVec.ofInt IntKind.u8.bits (p.fdiv (2 ^ (min ((k:Int)).toNat IntKind.u8.bits))) &&& BitVec.ofInt IntKind.u8.bits 1).toNat:Nat):Int)=1)
def jX (ms:List Int)(i v:Nat):Bool:=match ms[i]? with
 | some m=>t9 m v
 | none=>false
def gL (ms:List Int)(i k:Nat)(vals:List Int):List Int:=(List.range vals.length).map fun v=>if v<k/\jX ms i v=true then -1 else vals.getD v 0
theorem oX (ms:List Int)(i k:Nat)(vals:List Int):(gL ms i k vals).length=vals.length:=by simp [gL]
theorem No (ms:List Int)(i:Nat)(vals:List Int):gL ms i 0 vals=vals:=by
 refine List.ext_getElem? fun j=>?_;unfold gL;rw[List.getElem?_map];rcases Nat.lt_or_ge j vals.length with h|h
 ·obtain⟨x,hx⟩:=get_of_lt h;rw[List.getElem?_range h,hx];show some (if j<0/\_ then _ else vals.getD j 0)=_;rw[if_neg (by omega),bJ hx]
 ·rw[List.getElem?_eq_none (by simpa using h),List.getElem?_eq_none h];rfl
theorem ua {ms:List Int}{i k:Nat}{vals:List Int}{v:Nat}{x:Int}(h:vals[v]?=some x):(gL ms i k vals)[v]?=some (if v<k/\jX ms i v=true then -1 else x):=by
 unfold gL;rw[List.getElem?_map,List.getElem?_range (get_lt h)];show some (if v<k/\jX ms i v=true then -1 else vals.getD v 0)=_;rw[bJ h]
theorem Np {ms:List Int}{i k:Nat}{vals:List Int}(hk:k<vals.length):gL ms i (k+1) vals=if jX ms i k=true then (gL ms i k vals).set k (-1) else gL ms i k vals:=by
 refine List.ext_getElem? fun j=>?_;rcases Nat.lt_or_ge j vals.length with h|h
 ·obtain⟨x,hx⟩:=get_of_lt h;rw[ua hx];by_cases hm:jX ms i k=true
  ·rw[if_pos hm,List.getElem?_set];by_cases hj:k=j
   ·subst hj;rw[if_pos rfl,if_pos (⟨by omega,hm⟩:k<k+1/\jX ms i k=true),if_pos (by rw[oX];exact h)]
   ·rw[if_neg hj,ua hx];by_cases hjk:j<k
    ·simp [hjk,show j<k+1 by omega]
    ·simp [hjk,show ¬ j<k+1 by omega]
  ·rw[if_neg hm,ua hx];by_cases hj:j=k
   ·subst hj;simp [hm]
   ·by_cases hjk:j<k
    ·simp [hjk,show j<k+1 by omega]
    ·simp [hjk,show ¬ j<k+1 by omega]
 ·rw[List.getElem?_eq_none (by rw[oX];exact h)];split
  ·rw[List.getElem?_eq_none (by rw[List.length_set,oX];exact h)]
  ·rw[List.getElem?_eq_none (by rw[oX];exact h)]
def jv (l:List Int):List AVal:=l.map fun n=>.lit (.int .u16 n)
theorem Nq {l:List Int}{k:Nat}{a:Int}(h:l[k]?=some a):(jv l)[k]?=some (.lit (.int .u16 a)):=by unfold jv;rw[List.getElem?_map,h];rfl
theorem Nr (l:List Int):(jv l).length=l.length:=by simp [jv]
def qX (ns:List NodeP)(ws ms:List Int)(i:Nat):List Int:=gL ms i ns.length (dW (au ns) (ws.getD i 0 % aC (au ns)))
def lY (ns:List NodeP)(ws ms:List Int):List (List Int):=(List.range (min 12 ws.length)).map (qX ns ws ms)
def oY (ns:List NodeP)(ws ms:List Int)(k:Nat):List (List Int):=(List.range k).map (qX ns ws ms)
set_option maxHeartbeats 4000000 in
theorem Ns (g:Int)(ns:List NodeP)(h8:1<=ns.length/\ns.length<=8)(hc:∀ y∈ns,1<=y.card/\y.card<=4)(hsz:aC (au ns)<=1024)(ws ms:List Int)(hws:∀ x∈ws,0<=x/\x<65536)(hms:∀ x∈ms,0<=x/\x<256)
  (hwl:(ws.length:Int)<2 ^ 63) (hml:(ms.length:Int)<2 ^ 63) (H:AHeap) (K:ARes->AHeap->Prop) (hK:K (.ret (cO (au ns) (lY ns ws ms))) H):
  ae Try.prog G0 27 [aO g ns,.vec ws.length (jv ws),.vec ms.length (bA ms)] H K:=by
 refine ae.clo ⟨_,Try.func27,rfl,rfl⟩ fun hcl=>?_;have hp:=kP (l:=au ns) fun c hcm=>by obtain⟨y,hy,rfl⟩:=List.mem_map.1 hcm;exact(hc y hy).1
 have wll:=Nr ws;have mll:=Oy ms;refine ae.bM (n:=64) (rs:=[.cell 6 42]) Try.func27 rfl rfl rfl (by decide) (by kernel_rfl) (by simp) ?_;simp only[go_sem,aO,cM];refine aw.clo (nC g ns (by omega) _ _ ⟨trivial,?_⟩);simp only[go_sem];obtain⟨cs,hcs⟩:∃ cs,cs=au ns:=⟨_,rfl⟩
 rw[<- hcs];obtain⟨H1,hH1⟩:∃ H1,H1=ext H [.arr 0 35 [aa g,.vec ns.length (ar ns)],.arr 0 42 [.lit (.slice none 0 0),.lit (.slice none 0 0)],.arr 0 42 [.vec cs.length (ints cs),.lit (.slice none 0 0)]]:=⟨_,rfl⟩
 have n1:H1.next=H.next+3:=by rw[hH1];rfl
 have o1:Over H H1:=by rw[hH1];exact .ext _ _
 have g0:H1.get H.next=some (.arr 0 35 [aa g,.vec ns.length (ar ns)]):=by rw[hH1];exact dp ..
 have g1:H1.get (H.next+1)=some (.arr 0 42 [.lit (.slice none 0 0),.lit (.slice none 0 0)]):=by rw[hH1];exact bg H _ 1 (by simp)
 have g2:H1.get (H.next+2)=some (yA (af cs) (.lit (.slice none 0 0))):=by rw[hH1];exact bg H _ 2 (by simp)
 refine W.env fun E hE=>?_;have e1:E 1=.vec ws.length (jv ws):=by rw[hE];simp only[go_sem]
 have e2:E 2=.vec ms.length (bA ms):=by rw[hE];simp only[go_sem]
 have e3:E 3=.ptr H.next 0 0:=by rw[hE];simp only[go_sem]
 have e6:E 6=.ptr (H.next+1) 0 0:=by rw[hE];simp only[go_sem]
 have e7:E 7=.ptr (H.next+2) 0 0:=by rw[hE];simp only[go_sem]
 have e8:E 8=aa 0:=by rw[hE];simp only[go_sem]
 clear hE;show W _ _ _ _ _ _ ⟨E,ext H [.arr 0 35 [aa g,.vec ns.length (ar ns)],.arr 0 42 [.lit (.slice none 0 0),.lit (.slice none 0 0)],.arr 0 42 [.vec cs.length (ints cs),.lit (.slice none 0 0)]]⟩;rw[<- hH1];refine W.aI 9223372036854761216 (by rfl) (fun ρ Hi=>∃ (i:Nat) (xv:AVal),ρ 8=aa i/\i<=min 12 ws.length/\H1.next<=Hi.next/\(∀ id,id<H.next+2->Hi.get id=H1.get id)/\Hi.get (H.next+2)=some (yA (af cs) xv)/\fh (H.next+3) Hi 39 3 xv ((oY ns ws ms i).map ints)) (fun ρ Hi=>12 - (iv (ρ 8)).toNat) ?_ ?_
 ·exact⟨0,_,e8,by omega,Nat.le_refl _,fun _ _=>rfl,g2,.nil⟩
 rintro ρ Hi ⟨i,xv,h8i,hi,hni,holdi,hbi,hD⟩;refine W.env fun E1 hE1=>?_;have a1:E1 1=.vec ws.length (jv ws):=by rw[hE1];simp only[go_sem,e1]
 have a2:E1 2=.vec ms.length (bA ms):=by rw[hE1];simp only[go_sem,e2]
 have a3:E1 3=.ptr H.next 0 0:=by rw[hE1];simp only[go_sem,e3]
 have a6:E1 6=.ptr (H.next+1) 0 0:=by rw[hE1];simp only[go_sem,e6]
 have a7:E1 7=.ptr (H.next+2) 0 0:=by rw[hE1];simp only[go_sem,e7]
 have a8:E1 8=aa i:=by rw[hE1];simp only[go_sem,h8i]
 clear hE1;have l0:=ak ((holdi _ (by omega)).trans g0);have l1:=ak ((holdi _ (by omega)).trans g1);have l2:=ak hbi;obtain⟨xone,xcells⟩:=CR hD;have fin:i=min 12 ws.length->av Try.prog G0 H K (.agg [af cs,xv]) (Hi.upd (H.next+1) (yA (af cs) xv)):=fun hm=>by
  have hcl2:lY ns ws ms=oY ns ws ms i:=by rw[hm];rfl
  rw[hcl2,<- hcs]at hK;exact av.bY aV hcl ⟨by rw[aA];omega,fun id h=>by rw[ag,if_neg (by omega),holdi id (by omega)];exact o1.old id h⟩ (yy (.dJ _) (Q3 (CS hD (by omega)).Q2 fun i h=>by omega)) hK
 by_cases c1:(i:Int)<ws.length;rotate_left
 ·refine ab _ _ _ (by rfl) ?_;simp only[go_sem,a1,a6,a7,a8,l1,l2,c1,xone];exact fin (by omega)
 by_cases c2:(i:Int)<12;rotate_left
 ·refine ab _ _ _ (by rfl) ?_;simp only[go_sem,a1,a6,a7,a8,l1,l2,c1,c2,xone];exact fin (by omega)
 obtain⟨wd,hwd⟩:=get_of_lt (l:=ws) (i:=i) (by omega);have hwr:=hws wd (List.mem_of_getElem? hwd);have hwg:=Nq hwd;have hwn:=aN hwg;have wu:=IntWalk.i64_in wd (by omega);have wm:wd.tmod (aC cs)=wd % aC cs:=by rw[hcs];exact Int.tmod_eq_emod_of_nonneg hwr.1
 have wmr:=Int.emod_lt_of_pos wd (show 0<aC cs by rw[hcs];omega);have wmn:=Int.emod_nonneg wd (show aC cs≠0 by rw[hcs];omega);have wmw:=IntWalk.i64_in (wd % aC cs) (by rw[hcs]at wmr wmn ⊢;omega);have hpz:¬ aC cs=0:=by rw[hcs];omega
 refine ab _ _ _ (by rfl) ?_;simp only[go_sem,a1,a8,c1,c2];refine W.draw 9 [0,0,0,6,14,30,0,64,254] Try.mixed (by kernel_rfl) (by kernel_rfl) ?_;simp only[go_sem,a1,a3,a8,l0,c1,hwg,hwn,wu];refine⟨aa (aC cs),[],dx.pure (fun H2=>Rt g ns h8.2 hc H2 _ ⟨by rw[hcs],rfl⟩),?_⟩;simp only[go_sem,hpz,wm];refine aw.clo (Nn g ns h8.2 hc (wd % aC cs) (by rw[hcs]at wmr wmn ⊢;omega) _ _ fun cv Hk ov hO=>⟨trivial,?_⟩);rw[<- hcs]at hO;obtain⟨vals,hvals⟩:∃ vals,vals=dW cs (wd % aC cs):=⟨_,rfl⟩
 have hvl:vals.length=ns.length:=by rw[hvals,pt,hcs,cG]
 rw[<- hvals]at hO;rcases hO with ⟨_,e⟩|⟨ic,gc,ic1,ic2,rfl,hgc⟩
 ·have:=congrArg List.length e;rw[aZ,hvl,List.length_nil]at this;omega
 rw[aZ,hvl];have ovn:=ov.next;simp only[go_sem];refine W.env fun E2 hE2=>?_;have b1:E2 1=.vec ws.length (jv ws):=by rw[hE2];simp only[go_sem,a1]
 have b2:E2 2=.vec ms.length (bA ms):=by rw[hE2];simp only[go_sem,a2]
 have b3:E2 3=.ptr H.next 0 0:=by rw[hE2];simp only[go_sem,a3]
 have b6:E2 6=.ptr (H.next+1) 0 0:=by rw[hE2];simp only[go_sem,a6]
 have b7:E2 7=.ptr (H.next+2) 0 0:=by rw[hE2];simp only[go_sem,a7]
 have b8:E2 8=aa i:=by rw[hE2];simp only[go_sem,a8]
 have b9:E2 9=.own ic gc 0 ns.length 1:=by rw[hE2];simp only[go_sem]
 have b10:E2 10=aa 0:=by rw[hE2];simp only[go_sem]
 clear hE2;refine W.aI 144115170895987712 (by rfl) (fun ρ Hj=>∃ v:Nat,ρ 10=aa v/\v<=ns.length/\Hj.next=Hk.next/\(∀ id,id≠ic->Hj.get id=Hk.get id)/\Hj.get ic=some (.arr gc 3 (ints (gL ms i v vals)))) (fun ρ Hj=>ns.length - (iv (ρ 10)).toNat) ?_ ?_
 ·exact⟨0,b10,by omega,rfl,fun _ _=>rfl,by rw[No];exact hgc⟩
 rintro ρ3 Hj ⟨v,h10,hv,nj,oj,gj⟩;refine W.env fun E3 hE3=>?_;have d1:E3 1=.vec ws.length (jv ws):=by rw[hE3];simp only[go_sem,b1]
 have d2:E3 2=.vec ms.length (bA ms):=by rw[hE3];simp only[go_sem,b2]
 have d3:E3 3=.ptr H.next 0 0:=by rw[hE3];simp only[go_sem,b3]
 have d6:E3 6=.ptr (H.next+1) 0 0:=by rw[hE3];simp only[go_sem,b6]
 have d7:E3 7=.ptr (H.next+2) 0 0:=by rw[hE3];simp only[go_sem,b7]
 have d8:E3 8=aa i:=by rw[hE3];simp only[go_sem,b8]
 have d9:E3 9=.own ic gc 0 ns.length 1:=by rw[hE3];simp only[go_sem,b9]
 have d10:E3 10=aa v:=by rw[hE3];simp only[go_sem,h10]
 clear hE3;have ljc:=ak gj;have mrl:=oX ms i v vals;by_cases c3:(v:Int)<ns.length;rotate_left
 ·have ev:v=ns.length:=by omega
  subst ev;have w1:=IntWalk.i64_in ((i:Int)+1) (by omega);have hcase:qX ns ws ms i=gL ms i ns.length vals:=by unfold qX;rw[bJ hwd,<- hcs,<- hvals]
  have ovj:Over Hi Hj:=⟨by omega,fun id h=>(oj id (by omega)).trans (ov.old id h)⟩
  have hOj:aB Hi.next Hj 3 (.own ic gc 0 ns.length 1) (ints (gL ms i ns.length vals)):=.inr ⟨ic,gc,ic1,by omega,by rw[aZ,mrl,hvl],gj⟩;obtain⟨xv2,H5,hA,hD5,hn5,hp5⟩:=fh.app (P:=Try.prog) (n:=Hj.next+1) (t:=40) Try.underlying40 Try.pg Try.pj Try.ph (by decide) (by simp [oY];omega) hD ovj (by omega) hOj rfl;have k2:Hj.live (H.next+2) 0=some (42,[af cs,xv]):=(ovj.live (g:=0) (by omega:H.next+2<Hi.next)).trans l2;have k2e:∀ L,(ext Hj L).live (H.next+2) 0=some (42,[af cs,xv]):=fun L=>(eP (by omega)).trans k2;have k5:H5.live (H.next+2) 0=some (42,[af cs,xv]):=ak ((hp5 _ (by omega) (by omega)).trans ((ovj.old _ (by omega)).trans hbi));obtain⟨xone2,xcells2⟩:=CR hD5;refine ab _ _ _ (by rfl) ?_;simp only[go_sem,d7,d8,d9,d10,ljc,c3,k2,hA,k5,xone2,xcells2,w1];refine⟨by rw[aA];omega,⟨i+1,xv2,rfl,by omega,by rw[aA];omega,fun id h=>by rw[ag,if_neg (by omega),hp5 id (by omega) (by omega),ovj.old id (by omega)];exact holdi id h,by rw[ag,if_pos rfl],?_⟩,by rw[h8i];simp only[aa,aM];omega⟩;have eK:(oY ns ws ms (i+1)).map ints=(oY ns ws ms i).map ints++[ints (gL ms i ns.length vals)]:=by
   unfold oY;rw[List.range_succ,List.map_append,List.map_append,<- hcase];rfl
  rw[eK];exact CS hD5 (by omega)
 have w2:=IntWalk.i64_in ((v:Int)+1) (by omega);have msc:=Np (ms:=ms) (i:=i) (k:=v) (vals:=vals) (by omega);by_cases c4:(i:Int)<ms.length;rotate_left
 ·have hq:jX ms i v=false:=by unfold jX;rw[List.getElem?_eq_none (by omega)]
  rw[hq,if_neg (by decide)]at msc;refine ab _ _ _ (by rfl) ?_;simp only[go_sem,d2,d8,d9,d10,ljc,c3,c4,w2];exact⟨by omega,⟨v+1,rfl,by omega,nj,oj,by rw[msc];exact gj⟩,by rw[h10];simp only[aa,aM];omega⟩
 obtain⟨m,hm⟩:=get_of_lt (l:=ms) (i:=i) (by omega);have hmg:=rm hm;have hmn:=aN hmg;have hq:jX ms i v=t9 m v:=by unfold jX;rw[hm]
 obtain⟨r1,hr1⟩:∃ r1,m.fdiv (2 ^ (min ((v:Int)).toNat IntKind.u8.bits))=r1:=⟨_,rfl⟩
 obtain⟨r2,hr2⟩:∃ r2,IntKind.u8.wrap (((BitVec.ofInt IntKind.u8.bits r1 &&& BitVec.ofInt IntKind.u8.bits 1).toNat:Nat):Int)=r2:=⟨_,rfl⟩
 have s1:∀ t o1 o2,aQ Try.prog .shr t o1 o2 (.lit (.int .u8 m)) (.lit (.int .i64 (v:Int)))=some (.lit (.int .u8 r1)):=fun t o1 o2=>by rw[nE (by omega),hr1]
 have s2:∀ t o1 o2,aQ Try.prog .and t o1 o2 (.lit (.int .u8 r1)) (.lit (.int .u8 1))=some (.lit (.int .u8 r2)):=fun t o1 o2=>by rw[rG,hr2]
 have hb8:t9 m v=decide (r2=1):=by unfold t9;rw[hr1,hr2]
 rw[hq,hb8]at msc;by_cases hr:r2=1
 ·rw[decide_eq_true hr,if_pos rfl]at msc;refine ab _ _ _ (by rfl) ?_;simp only[go_sem,d2,d8,d9,d10,ljc,mrl,hvl,c3,c4,hmg,hmn,s1,s2,hr,w2];refine⟨by omega,by rw[aA];omega,⟨v+1,rfl,by omega,by rw[aA];exact nj,fun id h=>by rw[ag,if_neg h];exact oj id h,?_⟩,by rw[h10];simp only[aa,aM];omega⟩;rw[ag,if_pos rfl,eS (by omega),msc]
 ·rw[decide_eq_false hr,if_neg (by decide)]at msc;refine ab _ _ _ (by rfl) ?_;simp only[go_sem,d2,d8,d9,d10,ljc,c3,c4,hmg,hmn,s1,s2,hr,w2];exact⟨by omega,⟨v+1,rfl,by omega,nj,oj,by rw[msc];exact gj⟩,by rw[h10];simp only[aa,aM];omega⟩
def CT (w a n:Int):List AVal:=[.lit (.int .u8 w),.lit (.int .u8 a),.lit (.int .i64 n)]
end Go.Proofs
namespace Go.Hx
variable {P:Program}
structure OwnM (lo:Nat)(H:AHeap)(e1 e0:TypeId)(v:AVal)(ids:List Nat)(rows:List (List AVal)):Prop where
 len:ids.length=rows.length
 nd:ids.Nodup
 rng:∀ i∈ids,lo<=i/\i<H.next
 top:aB lo H e1 v (List.zipWith (fun i n=>AVal.own i 0 0 n 1) ids (rows.map List.length))
 row:∀ (k id:Nat) (r:List AVal),ids[k]?=some id->rows[k]?=some r->H.get id=some (.arr 0 e0 r)
theorem OwnM.nil {lo:Nat}{H:AHeap}{e1 e0:TypeId}:OwnM lo H e1 e0 (.lit (.slice none 0 0)) [] [] :=
 ⟨rfl,.nil,fun i h=>(by cases h),.nil,fun k id r h=>(by simp at h)⟩
theorem OwnM.keep {lo:Nat}{H H':AHeap}{e1 e0:TypeId}{v:AVal}{ids:List Nat}{rows:List (List AVal)}(h:OwnM lo H e1 e0 v ids rows)(hn:H.next<=H'.next)(hk:∀ id,lo<=id->id<H.next->H'.get id=H.get id):OwnM lo H' e1 e0 v ids rows :=
 ⟨h.len,h.nd,fun i hi=>⟨(h.rng i hi).1,by have:=(h.rng i hi).2;omega⟩,h.top.keep (Nat.le_refl _) hn fun id _ h1 h2 _ _=>hk id h1 h2,fun k id r h1 h2=>by
  have:=h.rng id (List.mem_of_getElem? h1);rw[hk id this.1 this.2];exact h.row k id r h1 h2⟩
theorem OwnM.app {lo n:Nat}{H:AHeap}{e1 e0:TypeId}{v:AVal}{ids:List Nat}{rows:List (List AVal)}{r:List AVal}{t:TypeId}{z:List AVal}(ht:P.underlying t=some (.slice e1))(hz:P.cellsOf e1=1)(hzero:bU P e1=some z)(hby:P.bytesOf e1=24)(hne:e1≠e0)
  (hb:rows.length<2 ^ 40) (h:OwnM lo H e1 e0 v ids rows) (hlo:lo<=H.next) (hn:n=H.next+2):
  ∃ v' H',bG P (ext (ext H [.arr 0 e0 r]) [.arr 0 e1 [.own H.next 0 0 r.length 1]]) n t t v (.own (H.next+1) 0 0 1 1)=some (v',H')/\OwnM lo H' e1 e0 v' (ids++[H.next]) (rows++[r])/\H.next<=H'.next/\(∀ k,k<H.next->k<lo->H'.get k=H.get k):=by
 obtain⟨Hb,hHb⟩:∃ Hb,Hb=ext H [.arr 0 e0 r]:=⟨_,rfl⟩
 have nb:Hb.next=H.next+1:=by rw[hHb];rfl
 have ob:Over H Hb:=by rw[hHb];exact .ext _ _
 have gb:Hb.get H.next=some (.arr 0 e0 r):=by rw[hHb];exact cu
 have htop:=h.top.over ob;obtain⟨v',H',hA,hO,hL,hp⟩:=jm (P:=P) (H:=Hb) (t:=t) (x:=.own H.next 0 0 r.length 1) (n:=n) ht hz hzero rfl (by rw[hby];simp [h.len];omega) htop (by omega) (by omega);rw[nb,hHb]at hA;have old:∀ id g,lo<=id->id<Hb.next->Hb.get id=some (.arr g e0 r)->H'.get id=Hb.get id:=fun id g h1 h2 h3=>hp id h2 fun g' m he=>by
  rcases htop with ⟨hv,_⟩|⟨i,g2,_,_,hv,h4⟩
  ·rw[hv]at he;cases he
  ·rw[hv]at he;obtain rfl:i=id:=(AVal.own.inj he).1;rw[h4]at h3;cases h3;exact hne rfl
 have oldr:∀ id g q,lo<=id->id<Hb.next->Hb.get id=some (.arr g e0 q)->H'.get id=Hb.get id:=fun id g q h1 h2 h3=>hp id h2 fun g' m he=>by
  rcases htop with ⟨hv,_⟩|⟨i,g2,_,_,hv,h4⟩
  ·rw[hv]at he;cases he
  ·rw[hv]at he;obtain rfl:i=id:=(AVal.own.inj he).1;rw[h4]at h3;cases h3;exact hne rfl
 refine⟨v',H',hA,⟨by simp [h.len],List.nodup_append.2 ⟨h.nd,by simp,fun a ha b hb=>by
  obtain rfl:=List.mem_singleton.1 hb;have:=(h.rng a ha).2;omega⟩,fun i hi=>?_,?_,fun k id q h1 h2=>?_⟩,by omega,fun k hk hkl=>?_⟩
 ·rcases List.mem_append.1 hi with h1|h1
  ·have:=h.rng i h1;omega
  ·obtain rfl:=List.mem_singleton.1 h1;omega
 ·rw[List.map_append,List.zipWith_append (by rw[List.length_map];exact h.len)];exact hO
 ·have hk:=List.getElem?_eq_some_iff.1 h1;obtain⟨hk,_⟩:=hk;rw[List.length_append,List.length_singleton]at hk;rcases Nat.lt_or_ge k ids.length with hlt|hge
  ·rw[List.getElem?_append_left hlt]at h1;rw[List.getElem?_append_left (by rw[<- h.len];exact hlt)]at h2;have hr:=h.rng id (List.mem_of_getElem? h1);have hg:=h.row k id q h1 h2;rw[oldr id 0 q hr.1 (by omega) ((ob.old id hr.2).trans hg),ob.old id hr.2];exact hg
  ·obtain rfl:k=ids.length:=(by omega);rw[List.getElem?_append_right (Nat.le_refl _),Nat.sub_self]at h1;rw[h.len,List.getElem?_append_right (Nat.le_refl _),Nat.sub_self]at h2;cases h1;cases h2;rw[oldr H.next 0 r hlo (by omega) gb];exact gb
 ·rw[hp k (by omega) fun g m he=>?_,ob.old k hk];rcases htop with ⟨hv,_⟩|⟨i,g2,a1,_,hv,h4⟩
  ·rw[hv]at he;cases he
  ·rw[hv]at he;have:=(AVal.own.inj he).1;omega
theorem OwnM.EC {lo:Nat}{H:AHeap}{e1 e0:TypeId}{v:AVal}{ids:List Nat}{rows:List (List AVal)}(h:OwnM lo H e1 e0 v ids rows)(h0:rows≠[]):∃ id g,lo<=id/\id<H.next/\v=.own id g 0 rows.length 1/\H.get id=some (.arr g e1 (List.zipWith (fun i n=>AVal.own i 0 0 n 1) ids (rows.map List.length)))/\(e1≠e0->id ∉ ids):=by
 have hzl:(List.zipWith (fun i n=>AVal.own i 0 0 n 1) ids (rows.map List.length)).length=rows.length:=by simp [h.len]
 rcases h.top with ⟨hv,h4⟩|⟨i,g,a,b,hv,h4⟩
 ·rw[h4]at hzl;exact absurd (List.eq_nil_of_length_eq_zero hzl.symm) h0
 ·refine⟨i,g,a,b,by rw[hv,hzl],h4,fun hne hm=>?_⟩;obtain⟨k,hk⟩:=List.mem_iff_getElem?.1 hm;have hkl:k<rows.length:=by rw[<- h.len];exact(List.getElem?_eq_some_iff.1 hk).1
  have:=h.row k i _ hk (List.getElem?_eq_getElem hkl);rw[h4]at this;exact hne (Blk.arr.inj (Option.some.inj this)).2.1
theorem OwnM.store {lo:Nat}{H:AHeap}{e1 e0:TypeId}{v:AVal}{ids:List Nat}{rows:List (List AVal)}(h:OwnM lo H e1 e0 v ids rows)(hne:e1≠e0){k id:Nat}{r r':List AVal}(hk:ids[k]?=some id)(hr:rows[k]?=some r)(hl:r'.length=r.length):OwnM lo (H.upd id (.arr 0 e0 r')) e1 e0 v ids (rows.set k r'):=by
 have hid:=h.rng id (List.mem_of_getElem? hk);have h0:rows≠[]:=fun e=>by rw[e]at hr;simp at hr
 refine⟨by rw[List.length_set];exact h.len,h.nd,fun i hi=>by rw[aA];exact h.rng i hi,?_,fun j id' q h1 h2=>?_⟩
 ·have e:(rows.set k r').map List.length=rows.map List.length:=by
   rw[List.map_set,hl];apply List.ext_getElem?;intro i;rw[List.getElem?_set];split
   ·rename_i hi;subst hi;have hkl:=(List.getElem?_eq_some_iff.1 hr).1;rw[if_pos (by rw[List.length_map];exact hkl),List.getElem?_map,hr];rfl
   ·rfl
  rw[e];obtain⟨i,g,a,b,_,h4,h5⟩:=h.EC h0;refine h.top.keep (Nat.le_refl _) (by rw[aA];exact Nat.le_refl _) fun i2 g2 _ _ h3 _=>?_;rw[ag,if_neg];rintro rfl;rw[h.row k i2 r hk hr]at h3;cases h3;exact hne rfl
 ·rw[ag];by_cases hj:j=k
  ·subst hj;rw[hk]at h1;cases h1;rw[List.getElem?_set_self (List.getElem?_eq_some_iff.1 hr).1]at h2;cases h2;rw[if_pos rfl]
  ·rw[List.getElem?_set_ne (fun e=>hj e.symm)]at h2;rw[if_neg,h.row j id' q h1 h2];rintro rfl;exact hj ((List.getElem?_inj (List.getElem?_eq_some_iff.1 h1).1 h.nd).1 (by rw[h1,hk]))
theorem OwnM.fz {S:Nat->Prop}{lo nx:Nat}{H:AHeap}{e1 e0:TypeId}{v:AVal}{ids:List Nat}{rows:List (List AVal)}(h:OwnM lo H e1 e0 v ids rows)(hS:∀ i,lo<=i->S i)(hr:∀ r∈rows,∀ c∈r,Fz S H nx c c):
  Fz S H nx v (.vec rows.length (rows.map fun r=>.vec r.length r)):=by
 have hz:(List.zipWith (fun i n=>AVal.own i 0 0 n 1) ids (rows.map List.length)).length=rows.length:=by simp [h.len]
 have:=h.top.fz (S:=S) (nx:=nx) (cs':=rows.map fun r=>.vec r.length r) hS (by simp [h.len]) fun i hi hi'=>by
  simp only[List.getElem_map,List.getElem_zipWith];have hil:i<rows.length:=by omega
  have hii:i<ids.length:=by rw[h.len];exact hil
  refine .frz (hS _ (h.rng _ (List.getElem_mem hii)).1) (h.row i _ _ (List.getElem?_eq_getElem hii) (List.getElem?_eq_getElem hil)) (by simp) fun j hj h2 h'=>?_;have e0:(0:Nat)+j=j:=Nat.zero_add j;have h3:=hr rows[i] (List.getElem_mem hil) _ (List.getElem_mem h');simpa only[e0] using h3
 rw[List.length_map]at this;exact this
end Go.Hx
namespace Go.Hx
variable {P:Program} {G:Nat->Option (List AVal)}
def AHeap.gQ (H:AHeap)(n ob:Nat)(b:Blk):AHeap:=⟨fun id=>if id=ob then some b else if n<=id then none else H.get id,H.next⟩
theorem Cw {H:AHeap}{n ob:Nat}{b:Blk}:(H.gQ n ob b).get ob=some b:=by simp [AHeap.gQ]
theorem Cx {H:AHeap}{n ob id:Nat}{b:Blk}(h:id<n)(h2:id≠ob):(H.gQ n ob b).get id=H.get id:=by simp [AHeap.gQ,Nat.not_le.2 h,h2]
theorem NG {H:AHeap}(hc:Clo H){n ob g:Nat}{e:TypeId}{cells cells':List AVal}(hob:H.get ob=some (.arr g e cells))(hl:cells'.length=cells.length)
  (hcell:∀ i (h:i<cells.length) (h':i<cells'.length),Fz (fun id=>n<=id/\id≠ob) H H.next cells[i] cells'[i]):FzH (fun id=>n<=id/\id≠ob) H (H.gQ n ob (.arr g e cells')) where
 gone id hs:=by simp [AHeap.gQ,hs.1,hs.2]
 kept id b hs hb:=by
  have hbb:=hc.below id b hb;refine⟨hc.lt id b hb,?_⟩;by_cases h:id=ob
  ·subst h;rw[hob]at hb;cases hb;exact⟨.arr g e cells',Cw,rfl,rfl,hl,hcell⟩
  ·have hn:¬ n<=id:=fun hn=>hs ⟨hn,h⟩;refine⟨b,by simp [AHeap.gQ,h,hn,hb],?_⟩;cases b with
   | rsv=>trivial
   | mp=>rfl
   | arr g e cells=>exact⟨rfl,rfl,rfl,fun i h _=>.dead (hbb i h)⟩
   | loop st pend n env ps asg body=>exact⟨rfl,rfl,rfl,rfl,rfl,rfl,rfl,fun t ht=>.dead (hbb t ht)⟩
 none id hs hb:=by
  by_cases h:id=ob
  ·subst h;rw[hob]at hb;cases hb
  ·have hn:¬ n<=id:=fun hn=>hs ⟨hn,h⟩;simp [AHeap.gQ,h,hn,hb]
theorem dv.gQ (hG:eW G){s:St}{n ob g:Nat}{e:TypeId}{cells cells':List AVal}(hob:s.H.get ob=some (.arr g e cells))(hl:cells'.length=cells.length)
  (hcell:(∀ c∈cells,Below s.H.next c)->∀ i (h:i<cells.length) (h':i<cells'.length),Fz (fun id=>n<=id/\id≠ob) s.H s.H.next cells[i] cells'[i]):dv P G s ⟨s.ρ,s.H.gQ n ob (.arr g e cells')⟩:=by
 intro n' wb Γ a w hs;exact dv.freeze (s:=s) (s':=⟨s.ρ,s.H.gQ n ob (.arr g e cells')⟩) hG (NG hs.heap.clo hob hl (hcell fun c hc=>by
  obtain⟨i,hi,rfl⟩:=List.mem_iff_getElem.1 hc;exact hs.heap.clo.below ob _ hob i hi)) (fun t=>.dead (hs.env t).qu) n' wb Γ a w hs
theorem NH {H:AHeap}{t e:TypeId}{n:Nat}{src:List AVal}{z:List AVal}(ht:P.underlying t=some (.slice e))(hz:P.cellsOf e=1)(hzero:bU P e=some z)(h0:0<src.length)
  (hb:src.length*P.bytesOf e<=2 ^ 46/\src.length<=2 ^ 46) (hn:n=H.next):bG P H n t t (.lit (.slice none 0 0)) (.vec src.length src)=some (.own n 0 0 src.length 1,ext H [.arr 0 e src]):=by
 have hsrc:cH H 1 (.vec src.length src)=some (src.length,src):=by
  unfold cH;simp
 unfold bG;rw[ht];simp only[hzero,hz,Option.bind_some];rw[hsrc];simp only[Option.bind_some];rw[if_neg (by omega),if_pos hb,sP hn];rfl
theorem OwnM.Cy {lo n:Nat}{H:AHeap}{e1 e0:TypeId}{v:AVal}{ids:List Nat}{rows:List (List AVal)}{r:List AVal}{t:TypeId}{z:List AVal}(h:OwnM lo H e1 e0 v ids rows)(ht:P.underlying t=some (.slice e1))(hz:P.cellsOf e1=1)(hzero:bU P e1=some z)(hby:P.bytesOf e1=24)(hne:e1≠e0)
  (hb:rows.length<2 ^ 40) (hlo:lo<=H.next) (hn:n=H.next+2):
  ∃ v' H',bG P (ext (ext H [.arr 0 e0 r]) [.arr 0 e1 [.own H.next 0 0 r.length 1]]) n t t v (.own (H.next+1) 0 0 1 1)=some (v',H')/\OwnM lo H' e1 e0 v' (ids++[H.next]) (rows++[r])/\H.next<=H'.next/\(∀ k,k<H.next->(∀ g n,v≠.own k g 0 n 1)->H'.get k=H.get k):=by
 obtain⟨v',H',hA,hO,hn',_⟩:=h.app (P:=P) (r:=r) ht hz hzero hby hne hb hlo hn;have nb:(ext H [.arr 0 e0 r]).next=H.next+1:=rfl;obtain⟨v2,H2,hA2,_,_,hp⟩:=jm (P:=P) (H:=ext H [.arr 0 e0 r]) (t:=t) (x:=.own H.next 0 0 r.length 1) (n:=n) ht hz hzero rfl (by rw[hby];simp [h.len];omega) (h.top.over (.ext _ _)) (by rw[nb];omega) (by rw[nb];omega);rw[nb]at hA2;have e:(v2,H2)=(v',H'):=Option.some.inj (hA2.symm.trans hA);cases e;exact⟨_,_,hA,hO,hn',fun k hk hne=>(hp k (by rw[nb];omega) hne).trans (dF _ _ _ hk)⟩
theorem OwnM.ne {lo:Nat}{H:AHeap}{e1 e0:TypeId}{v:AVal}{ids:List Nat}{rows:List (List AVal)}(h:OwnM lo H e1 e0 v ids rows){k g':Nat}{e:TypeId}{c:List AVal}(hk:H.get k=some (.arr g' e c))(he:e≠e1):∀ g n,v≠.own k g 0 n 1:=fun g n hv=>by
 rcases h.top with ⟨h1,_⟩|⟨i,g2,_,_,h1,h2⟩
 ·rw[h1]at hv;cases hv
 ·rw[h1]at hv;obtain rfl:=(AVal.own.inj hv).1;rw[hk]at h2;cases h2;exact he rfl
theorem W.ug {n:Nat}{rd:Option Nat}{Q:AX->St->Prop}{s:St}{x y:Code}(Φ:St->Prop)(h:W P G n rd x (fun ax s'=>ax=.normal/\Φ s') s)(h2:∀ s',Φ s'->W P G n rd y Q s'):W P G n rd (.seq x y) Q s :=
 W.seq (h.mono fun ax s' ⟨e,hp⟩=>by subst e;exact h2 s' hp)
theorem dv.same {s:St}:dv P G s s:=by
 intro n wb Γ a w hs;exact⟨Γ,hs,.refl _ _ _,fun _ _ h _=>h⟩
end Go.Hx
namespace Go.Proofs
open Go.Hx
structure NodO (lo:Nat)(H:AHeap)(pv rv:AVal)(ids:List Nat)(x:NodeP):Prop where
 par:aB lo H 3 pv (ints x.parents)
 rows:OwnM lo H 39 3 rv ids (x.rows.map ints)
 dj:∀ id g n,pv=.own id g 0 n 1->id ∉ ids
 nil:x.rows=[]->rv=.lit (.slice none 0 0)
theorem NodO.keep {lo:Nat}{H H':AHeap}{pv rv:AVal}{ids:List Nat}{x:NodeP}(h:NodO lo H pv rv ids x)(hn:H.next<=H'.next)(hk:∀ id,lo<=id->id<H.next->H'.get id=H.get id):NodO lo H' pv rv ids x :=
 ⟨h.par.keep (Nat.le_refl _) hn fun id _ h1 h2 _ _=>hk id h1 h2,h.rows.keep hn hk,h.dj,h.nil⟩
theorem NodO.over {lo:Nat}{H H':AHeap}{pv rv:AVal}{ids:List Nat}{x:NodeP}(h:NodO lo H pv rv ids x)(o:Over H H'):NodO lo H' pv rv ids x:=h.keep o.next fun id _ h2=>o.old id h2
theorem NodO.keepE {lo:Nat}{H H':AHeap}{pv rv:AVal}{ids:List Nat}{x:NodeP}(h:NodO lo H pv rv ids x)(hn:H.next<=H'.next)(hk:∀ id g e c,lo<=id->id<H.next->H.get id=some (.arr g e c)->e≠69->H'.get id=H.get id):NodO lo H' pv rv ids x :=
 ⟨h.par.keep (Nat.le_refl _) hn fun id g h1 h2 h3 _=>hk id g _ _ h1 h2 h3 (by decide),⟨h.rows.len,h.rows.nd,fun i hi=>⟨(h.rows.rng i hi).1,by have:=(h.rows.rng i hi).2;omega⟩,h.rows.top.keep (Nat.le_refl _) hn fun id g h1 h2 h3 _=>hk id g _ _ h1 h2 h3 (by decide),fun k id r h1 h2=>by
  have h3:=h.rows.rng id (List.mem_of_getElem? h1);have h4:=h.rows.row k id r h1 h2;rw[hk id _ _ _ h3.1 h3.2 h4 (by decide)];exact h4⟩,h.dj,h.nil⟩
theorem uh {lo:Nat}{H:AHeap}{e1 e0:TypeId}{v:AVal}{ids:List Nat}{rows:List (List AVal)}(h:OwnM lo H e1 e0 v ids rows):v.one=true/\v.cells=[v]:=⟨h.top.one,h.top.cells⟩
theorem Cz {S:Nat->Prop}{lo nx:Nat}{H:AHeap}{e:TypeId}{v:AVal}{cs cs':List AVal}(h:aB lo H e v cs)(hS:∀ i g,lo<=i->i<H.next->H.get i=some (.arr g e cs)->S i)(hl:cs'.length=cs.length)
  (hc:∀ i (h:i<cs.length) (h':i<cs'.length),Fz S H nx cs[i] cs'[i]):Fz S H nx v (.vec cs'.length cs'):=by
 rcases h with ⟨rfl,rfl⟩|⟨id,g,h1,h2,rfl,h4⟩
 ·obtain rfl:=List.eq_nil_of_length_eq_zero hl;exact .nil
 ·rw[hl];refine .frz (hS id g h1 h2 h4) h4 (by omega) fun j hj h2 h'=>?_;simp only[Nat.zero_add]at h2 ⊢;exact hc j h2 h'
def ra (S:Nat->Prop)(lo:Nat)(H:AHeap):Prop:=∀ i g e c,lo<=i->i<H.next->H.get i=some (.arr g e c)->e≠69->S i
theorem NodO.re {S:Nat->Prop}{lo nx:Nat}{H:AHeap}{pv rv:AVal}{ids:List Nat}{x:NodeP}(h:NodO lo H pv rv ids x)(hS:ra S lo H):Fz S H nx pv (af x.parents):=by
 have:=Cz (S:=S) (nx:=nx) (cs':=ints x.parents) h.par (fun i g h1 h2 h3=>hS i g _ _ h1 h2 h3 (by decide)) rfl fun i hi _=>by simp only[ints,List.getElem_map];exact .lit _
 rw[aZ]at this;exact this
theorem NodO.NI {S:Nat->Prop}{lo nx:Nat}{H:AHeap}{pv rv:AVal}{ids:List Nat}{x:NodeP}(h:NodO lo H pv rv ids x)(hS:ra S lo H):Fz S H nx rv (aE x.rows):=by
 have hl:=h.rows.len;rw[List.length_map]at hl;have:=Cz (S:=S) (nx:=nx) (cs':=x.rows.map af) h.rows.top (fun i g h1 h2 h3=>hS i g _ _ h1 h2 h3 (by decide)) (by simp [hl]) fun i hi hi'=>by
  have hil:i<x.rows.length:=by simpa using hi'
  have hii:i<ids.length:=by omega
  simp only[List.getElem_map,List.getElem_zipWith,aZ];have hid:=h.rows.rng _ (List.getElem_mem hii);have hrow:=h.rows.row i _ _ (List.getElem?_eq_getElem hii) (show (x.rows.map ints)[i]?=some (ints x.rows[i]) by rw[List.getElem?_map,List.getElem?_eq_getElem hil];rfl);refine .frz (hS _ _ _ _ hid.1 hid.2 hrow (by decide)) hrow (by simp [aZ]) fun j hj h2 h'=>?_;simp only[ints,List.getElem_map];have e0:0+j=j:=Nat.zero_add j;simp only[e0];exact .lit _
 rw[List.length_map]at this;exact this
theorem NodO.mY {S:Nat->Prop}{lo nx:Nat}{H:AHeap}{pv rv:AVal}{ids:List Nat}{x:NodeP}(h:NodO lo H pv rv ids x)(hS:ra S lo H):Fz S H nx rv (bE x):=by
 unfold bE;split
 ·rename_i e;rw[h.nil e];exact .lit _
 ·exact h.NI hS
theorem NodO.low {lo lo':Nat}{H:AHeap}{pv rv:AVal}{ids:List Nat}{x:NodeP}(h:NodO lo H pv rv ids x)(hl:lo'<=lo):NodO lo' H pv rv ids x :=
 ⟨h.par.keep hl (Nat.le_refl _) fun _ _ _ _ _ _=>rfl,⟨h.rows.len,h.rows.nd,fun i hi=>⟨by have:=(h.rows.rng i hi).1;omega,(h.rows.rng i hi).2⟩,h.rows.top.keep hl (Nat.le_refl _) fun _ _ _ _ _ _=>rfl,h.rows.row⟩,h.dj,h.nil⟩
end Go.Proofs
