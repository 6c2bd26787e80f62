/- Own work: contracts. -/
import Derived.Test.YtjhbjbninamhnaaGreatConB
import Derived.Test.YtjhbjbninamhnaaGreatConA
set_option linter.all false
set_option maxHeartbeats 8000000
set_option maxRecDepth 100000
namespace Go.Proofs
open Go.Hx Tryz
variable {g:Int}{vals:List Int}{ns:List Xl}{k v:Nat}{c:Nat->Nat->Int}{d:Xa}{x:Xl}
def pD (hin:fR x.F ns.length)(hf:bI (aj ns) vals):bI (aV ns x) (aB vals x.F):=by
 refine⟨by unfold aV;rw[iq,iq],fun k c v h1 h2=>?_⟩;obtain⟨q,hq⟩:=aq (l:=x.F) (i:=k) (by have:=aI h2;rw[iq]at this;exact this);obtain⟨j,rfl,y,hy⟩:=lP (l:=ns) (hin q (an hq)).1 (hin q (an hq)).2;obtain⟨b,hb⟩:=aq (l:=vals) (i:=j) (by rw[hf.1,cZ];exact aI hy);have e1:(aV ns x)[k]?=some y.L:=by rw[show (aV ns x)[k]?=_ from jJ hq,Int.toNat_natCast,bq (cC hy)]
 have e2:(aB vals x.F)[k]?=some b:=by rw[jJ hq,Int.toNat_natCast,bq hb]
 rw[h1]at e1;rw[h2]at e2;cases e1;cases e2;exact hf.2 j y.L _ (cC hy) hb
structure RowAtW (g:Int)(ns:List Xl)(x:Xl)(vals:List Int)(v:Nat)(i:Nat)(r:List Int)(a w:Int):Prop where
 idx:bG (aV ns x) (aB vals x.F)=i
 row:x.nn[i]?=some r
 val:vals[v]?=some a
 a0:0<=a
 hw:r[a.toNat]?=some w
 wb:0<=w/\w<=g
 eq:fP ns vals v=w
 rv:jy ns x vals=r
 len:(r.length:Int)=x.L
 al:a<r.length
def vF (h:Xq g ns)(hx:ns[v]?=some x)(hf:bI (aj ns) vals):∃i r a w,RowAtW g ns x vals v i r a w:=by
 have hxm:=an hx;have hin:fR x.F ns.length:=fun q hq=>by have:=(h.node x hxm).2.2 q hq;omega
 have hr:=kM (pD hin hf);obtain⟨r1,r2⟩:=h.nn x hxm;obtain⟨i,hi⟩:=S5 hr.1;obtain⟨r,hrr⟩:=aq (l:=x.nn) (i:=i) (by rw[<- r1,hi]at hr;omega);obtain⟨s1,s2,s3⟩:=r2 r (an hrr);obtain⟨a,ha⟩:=aq (l:=vals) (i:=v) (by rw[hf.1,cZ];exact aI hx);have hb:=hf.2 v x.L a (cC hx) ha;obtain⟨w,hw⟩:=aq (l:=r) (i:=a.toNat) O;have rv:jy ns x vals=r:=by unfold jy;rw[hi,Int.toNat_natCast,bq hrr]
 exact⟨i,r,a,w,hi,hrr,ha,hb.1,hw,s2 w (an hw),by unfold fP;rw[hx];simp only;rw[rv,bq ha,bq hw],rv,s1,O⟩
def sS (k:Nat)(h:k<=8):(60:Int) ^ k<=167961600000000:=by
 have h1:(60:Nat) ^ k<=60 ^ 8:=Ti W6 h;have h2:(60:Nat) ^ 8=167961600000000:=W6
 rw[h2]at h1;have h3:=Int.ofNat_le.2 h1;rw[Int.natCast_pow]at h3;exact h3
def Do (h:Xq g ns)(hf:bI (aj ns) vals)(k:Nat):0<=aA ((gD ns vals).take k)/\aA ((gD ns vals).take k)<=167961600000000:=by
 have hb:∀w∈gD ns vals,0<=w/\w<=60:=fun w hw=>by
  obtain⟨v,hv,rfl⟩:=S4.1 hw;obtain⟨x,hx⟩:=aq (S7.1 hv);obtain⟨i,r,a,w,hR⟩:=vF h hx hf;rw[hR.eq];have:=hR.wb;have:=h.g1;omega
 have h1:=nU (b:=60) O (l:=(gD ns vals).take k) fun x hx=>hb x (Tj hx);have h2:=sS ((gD ns vals).take k).length (by have:=h.n1;rw[Td,uS];omega);omega
def sT (ns:List Xl)(v:Nat)(x:Xl)(vals:List Int)(hx:ns[v]?=some x)(hin:fR x.F ns.length)(hs:dR (aV ns x))(hf:bI (aj ns) vals)(H:Xn)(N n:Nat)(hN:N<H.A)
  (hg:H.get N=some (.J 0 3 (ints vals))) (hn:n=vals.length):bp prog G0 (.Z 69 [] []) [.M ns.length (aE ns),.lit (.int .i64 v),.Q N 0 0 n 1] H (.lit (.int .i64 (bG (aV ns x) (aB vals x.F)))) [N]:=by
 subst hn;refine bp.mk (fun i hi=>by obtain rfl:=List.mem_singleton.1 hi;exact hN) fun H2 h2 _=>?_;refine(ae.frame (H:=H2) (args:=[.M ns.length (aE ns),.lit (.int .i64 v),.Q N 0 0 vals.length 1]) (args':=[dL ns,.lit (.int .i64 v),ah vals]) (v':=.lit (.int .i64 (bG (aV ns x) (aB vals x.F)))) aH rfl (fun i hi _=>?_) (PT ns v x vals hx hin hs hf dp _ ⟨_,rfl,.lit _⟩))
 match i,hi with
 |0,_=>exact q8 _
 |1,_=>exact .lit _
 |2,_=>exact Fz.qZ ((h2 N W5).trans hg) (by rw[aS]) fun c hc=>by obtain⟨z,_,rfl⟩:=S4.1 hc;exact⟨_,rfl⟩
def PL (g:Int)(ns:List Xl)(h:Xq g ns)(H:Xn)(K:Xd->Xn->Prop)(hK:K (.ret (ah (fy ns))) H):ae prog G0 122 [dk g ns] H K:=by
 refine ae.Z ⟨_,func122,rfl,rfl⟩ fun hcl=>?_;have n8:=h.n1;have hcards:∀c∈aj ns,1<=c/\c<=4:=fun c hc=>by
  obtain⟨x,hx,rfl⟩:=S4.1 hc;exact(h.node x hx).1
 have sm:dR (aj ns):=mU (by rw[cZ];omega) hcards;have hp:=fu fun c hc=>(hcards c hc).1;have hsz:=h.size;have hw:((bD ns:Nat):Int)=aA (aj ns):=by unfold bD;omega
 refine ae.st (n:=51) (rs:=[.tmp 2]) func122 ?_;simp only[go_sem,dk,dL];refine az.Z (sV ns O _ _ ⟨trivial,?_⟩);simp only[go_sem];refine az.Z (PS (aj ns) sm _ _ ⟨trivial,?_⟩);rw[<- hw];simp only[go_sem];refine⟨O,?_⟩;refine az.Z (sR (aj ns) _ _ ⟨trivial,?_⟩);simp only[go_sem];obtain⟨H2,hH2⟩:∃H2,H2=ext (ext H [.J 0 103 [.lit (.int .i64 g),.M ns.length (aE ns)],.J 0 3 (List.replicate 0 (.lit (.int .i64 0))),.J 0 46 [.Q (H.A+1) 0 0 0 1]]) [.J 0 46 [ah (aj ns)]]:=⟨_,rfl⟩
 have n2:H2.A=H.A+4:=by rw[hH2];rfl
 have o2:Xb H H2:=by rw[hH2];exact(Xb.ext _ _).trans (.ext _ _)
 have g0:H2.get H.A=some (.J 0 103 [.lit (.int .i64 g),.M ns.length (aE ns)]):=by rw[hH2,dD];exact bL H _ 0 (W5)
 have g1:H2.get (H.A+1)=some (.J 0 3 []):=by rw[hH2,dD];exact bL H _ 1 (W5)
 have g2:H2.get (H.A+2)=some (.J 0 46 [.Q (H.A+1) 0 0 0 1]):=by rw[hH2,dD];exact bL H _ 2 (W5)
 have g3:H2.get (H.A+3)=some (.J 0 46 [ah (aj ns)]):=by rw[hH2,dD];exact bL H _ 3 (W5)
 refine W.env fun E hE=>?_;have e1:E 1=.R H.A 0 0:=by rw[hE];simp only[go_sem]
 have e4:E 4=.R (H.A+2) 0 0:=by rw[hE];simp only[go_sem]
 have e17:E 17=.Z 143 [] [.R (H.A+3) 0 0]:=by rw[hE];rfl
 clear hE;show W _ _ _ _ _ _ ⟨E,ext (ext H [.J 0 103 [.lit (.int .i64 g),.M ns.length (aE ns)],.J 0 3 (List.replicate 0 (.lit (.int .i64 0))),.J 0 46 [.Q (H.A+1) 0 0 0 1]]) [.J 0 46 [ah (aj ns)]]⟩;rw[<- hH2];have hit:=sQ (aj ns) (fun c hc=>(hcards c hc).1) sm (H.A+3) (H2.A+1) O;refine W.tz (f:=143) (first:=[]) (cap:=[.R (H.A+3) 0 0]) (by show E 17=_;exact e17) hit
  (fun k Hx=>H2.A<Hx.A/\(∀id,id<H2.A->id≠H.A+1->id≠H.A+2->Hx.get id=H2.get id)/\∃gn,Hx.get (H.A+2)=some (.J 0 46 [.Q (H.A+1) gn 0 k 1])/\Hx.get (H.A+1)=some (.J gn 3 (ints ((fy ns).take k))))
  (fun _ _=>False)
  (fun k Hx h=>(h.2.1 _ O O O).trans g3)
  (fun k H1 H3 h hw=>⟨by have:=hw.1;omega,fun id h1 h2 h3=>(hw.2 _ O (by have:=h.1;omega)).trans (h.2.1 id h1 h2 h3),by
   obtain⟨gn,a1,a2⟩:=h.2.2;exact⟨gn,(hw.2 _ O (by have:=h.1;omega)).trans a1,(hw.2 _ O (by have:=h.1;omega)).trans a2⟩⟩)
  (fun k Hx h=>h.1)
  (fun k H1 b h=>⟨h.1,fun id h1 h2 h3=>by rw[ag,SQ O];exact h.2.1 id h1 h2 h3,by
   obtain⟨gn,a1,a2⟩:=h.2.2;exact⟨gn,by rw[ag,SQ O];exact a1,by rw[ag,SQ O];exact a2⟩⟩)
  (fun _ _ _ h=>h) (fun k H1 b h=>by unfold lj at h ⊢;rw[ag,SQ O];exact h)
  (fun b=>⟨by rw[aX];simp,fun id h1 h2 h3=>bQ h1,0,by rw[bQ O];exact g2,by rw[bQ O];exact g1⟩) (W6)
  (fun x hx=>by
   obtain⟨k,hk⟩:=SY.1 hx;obtain⟨_,rfl⟩:=me hk;rfl) (fun _ _ _=>trivial) (fun _ _ _=>trivial) (fun k y Hx B Bb hy hj hcs hn hB hBb=>?_) (fun Hx hj hn=>?_) (fun _ hs _=>hs.elim) (fun _ _ hs _=>hs.elim)
 ·obtain⟨hk,rfl⟩:=me hy;refine W.vs ?_;simp only[go_sem,ic,cG,jn,TF,Ur,TV,T1,hB];obtain⟨H3,hH3⟩:∃H3,H3=Hx.upd H2.A Bb:=⟨_,rfl⟩
  rw[<- hH3];obtain⟨st,pd,n',en,ps',as',bo,hBe⟩:=hBb;have n3:H3.A=Hx.A:=by rw[hH3];rfl
  have o3:∀id,id≠H2.A->H3.get id=Hx.get id:=fun id h=>by rw[hH3,ag,SQ h]
  have jB:H3.get H2.A=some Bb:=by rw[hH3,ag,SU rfl]
  obtain⟨gn,a1,a2⟩:=hj.2.2;have k0:=(o3 _ O).trans ((hj.2.1 H.A O O O).trans g0);have k1:=(o3 _ O).trans a2;have k2:=(o3 _ O).trans a1;have kN:H3.get (H2.A+1)=some (.J 0 3 (ints (bH (aj ns) k))):=(o3 _ O).trans hcs;obtain⟨vals,hvals⟩:∃vals,vals=bH (aj ns) k:=⟨_,rfl⟩
  have hfit:bI (aj ns) vals:=by rw[hvals];exact oZ (fun c hc=>(hcards c hc).1) _
  rw[<- hvals]at kN;have hvl:vals.length=ns.length:=by rw[hfit.1,cZ]
  refine W.en (fun E1=>E1 1=.R H.A 0 0 /\ E1 4=.R (H.A+2) 0 0 /\ E1 6=.Q (H2.A+1) 0 0 ns.length 1) (by simp only[go_sem,cG,e1,e4,cZ]) fun E1 ⟨m1,m4,m6⟩=>?_
  have l0:=af k0;refine W.vs ?_;simp only[go_sem,m1,l0];refine W.aP 70368735789952 (by rfl) (fun ρ2 H4=>∃v:Nat,ρ2 23=aa v/\v<=ns.length/\Xb H3 H4/\ρ2 7=aa (aA ((gD ns vals).take v))) (fun ρ2 H=>ns.length-(iv (ρ2 23)).toNat) ?_ ?_
  ·simp only[go_sem];exact⟨0,rfl,O,.refl _,by simp[gQ]⟩
  rintro ρ2 H4 ⟨v,h23,hv,o4,h7⟩;refine W.en (fun E2=>E2 1=.R H.A 0 0 /\ E2 4=.R (H.A+2) 0 0 /\ E2 6=.Q (H2.A+1) 0 0 ns.length 1 /\ E2 7=aa (aA ((gD ns vals).take v)) /\ E2 21=.M ns.length (aE ns) /\ E2 22=aa ns.length /\ E2 23=aa v) (by simp only[go_sem,m1,m4,m6,h7,h23]) fun E2 ⟨p1,p4,p6,p7,p21,p22,p23⟩=>?_
  have o4n:=o4.A;have q0:=af ((o4.nl _ O).trans k0);have q1:=af ((o4.nl _ O).trans k1);have q2:=af ((o4.nl _ O).trans k2);have gN4:=(o4.nl _ O).trans kN;refine W.vs ?_;by_cases hb:(v:Int)<ns.length
  ·obtain⟨x,hx⟩:=aq (l:=ns) (i:=v) O;have hxm:=an hx;obtain⟨i,r,a,w,hR⟩:=vF h hx hfit;obtain⟨a',rfl⟩:=S5 hR.a0;have hin:fR x.F ns.length:=fun q hq=>by have:=(h.node x hxm).2.2 q hq;omega
   have hne:=eV hx;have c0:=oY hx;have c1:v*3+3<=(aE ns).length:=(by rw[kL];omega);obtain⟨H5,hH5⟩:∃H5,H5=ext H4 [.J 0 73 [.lit (.int .i64 x.L),.M x.F.length (ints x.F),aO x.nn]]:=⟨_,rfl⟩
   have hpc:bp prog G0 (.Z 69 [] []) [.M ns.length (aE ns),.lit (.int .i64 v),.Q (H2.A+1) 0 0 ns.length 1] H5 (.lit (.int .i64 i)) [H2.A+1]:=by
    have:=sT ns v x vals hx hin (mf n8.2 (h.node x hxm).2 fun y hy=>(h.node y hy).1) hfit H5 (H2.A+1) ns.length (by rw[hH5,aX];omega) (by rw[hH5,cP _ _ _ O];exact gN4) hvl.symm;rw[hR.idx]at this;exact this
   have f0:=af (show H5.get H.A=some (.J 0 103 [.lit (.int .i64 g),.M ns.length (aE ns)]) by rw[hH5,cP _ _ _ O];exact(o4.nl _ O).trans k0);have f4:=af (show H5.get H4.A=some (.J 0 73 [.lit (.int .i64 x.L),.M x.F.length (ints x.F),aO x.nn]) by rw[hH5];exact da);have fN:=af (show H5.get (H2.A+1)=some (.J 0 3 (ints vals)) by rw[hH5,cP _ _ _ O];exact gN4);have hri:=hR.row;have hrne:=aM hri;have hrl:(i:Int)<x.nn.length:=(by have:=aI hri;omega);have hva:=hR.val;have hvne:=aM hva;have hra:r[a']?=some w:=(by have:=hR.hw;rw[Int.toNat_natCast]at this;exact this);have hrane:=aM hra;have hal:=hR.al;have wt:=Do h hfit (v+1);rw[aU (BR (vals:=vals) (v:=v) O),fZ,hR.eq]at wt;have w1:=SN ((v:Int)+1) O;have w2:=SN (aA ((gD ns vals).take v)*w) O;simp only[go_sem,p21,p22,p23,hb,hne,c0,c1];rw[<- hH5];refine W.dr 16 [0,0,2,0,8,0,0,120,254,510,0,0,3072,7168,16382,32766] mixed ?_;simp only[go_sem,p1,p6,p7,f0,f4,aO];refine⟨.lit (.int .i64 i),[H2.A+1],hpc,?_⟩;have hvn:(v:Int)<ns.length:=hb;simp only[go_sem,p1,p6,p7,p23,fN,hri,hrne,hrl,hra,hrane,hva,hal,hvn,w1,w2];have n5:H5.A=H4.A+1:=(by rw[hH5];rfl);exact⟨O,⟨_,_,_,_,_,_,_,by rw[hH5,cP _ _ _ O,o4.nl _ O,jB,hBe]⟩,⟨v+1,W5,O,by rw[hH5];exact o4.trans (.ext _ _),by rw[aU (BR (vals:=vals) (v:=v) O),fZ,hR.eq]⟩,by rw[h23];simp only[aa,bj];omega⟩
  ·rw[SR (by rw[uS];omega)]at p7;have hwk:(fy ns)[k]?=some (weight ns vals):=by
    unfold fy;rw[List.getElem?_map,Th (show k<bD ns from hk),hvals];rfl
   have hkl:((fy ns).take k).length=k:=by
    have:(fy ns).length=bD ns:=(by simp[fy]);have:k<bD ns:=hk;simp;omega
   have hkw:k<bD ns:=hk;have nn:¬H.A+1=H4.A:=O;have nn2:¬H.A+2=H4.A:=O;have hbd:(k+1)*8<=2 ^ 47/\k+1<=2 ^ 47:=O;have q1e:∀L,(ext H4 L).X (H.A+1) gn=some (3,ints ((fy ns).take k)):=fun L=>(c9 O).trans q1;have q2e:∀L b,((ext H4 L).upd (H.A+1) b).X (H.A+2) 0=some (46,[.Q (H.A+1) gn 0 k 1]):=fun L b=>(kx O).trans ((c9 O).trans q2);simp only[go_sem,p4,p7,p22,p23,hb,q2,q1e,q2e,hkl,hbd,eM,aJ];obtain⟨Hf,hHf⟩:∃Hf,Hf=((ext H4 [.J 0 3 [.lit (.int .i64 (aA (gD ns vals)))]]).upd (H.A+1) (.J (gn+1) 3 (ints ((fy ns).take k)++[.lit (.int .i64 (aA (gD ns vals)))]))).upd (H.A+2) (.J 0 46 [.Q (H.A+1) (gn+1) 0 (k+1) 1]):=⟨_,rfl⟩
   rw[<- hHf];have hget:∀id,id<H4.A->id≠H.A+1->id≠H.A+2->Hf.get id=H4.get id:=fun id h1 h2 h3=>by rw[hHf,ag,SQ h3,ag,SQ h2,bQ h1]
   have nf:Hf.A=H4.A+1:=(by rw[hHf];rfl);have eint:ints ((fy ns).take (k+1))=ints ((fy ns).take k)++[.lit (.int .i64 (aA (gD ns vals)))]:=(by rw[aU hwk];simp[ints,aa,weight]);refine⟨by rw[hget _ O O O,o4.nl _ O];exact jB,O,⟨O,fun id h1 h2 h3=>by rw[hget _ O h2 h3,o4.nl _ O,o3 _ O];exact hj.2.1 id h1 h2 h3,gn+1,by rw[hHf,ag,SU rfl],by rw[hHf,ag,SQ O,ag,SU rfl,eint]⟩,?_⟩;show Hf.get (H2.A+1)=_;rw[hget _ O O O,gN4,hvals]
 ·rw[qW]at hj;obtain⟨gn,a1,a2⟩:=hj.2.2;have l2:=af a1;simp only[go_sem,e4,l2];have ovx:Xb H Hx:=⟨O,fun id hi=>(hj.2.1 id O O O).trans (o2.nl id hi)⟩
  have hlen:(fy ns).length=(aA (aj ns)).toNat:=by simp[fy,bD]
  rw[SR O]at a2;refine ar.bE aH hcl ovx ?_ hK;show Fz (fun id=>H.A<=id) Hx H.A (.Q (H.A+1) gn 0 (aA (aj ns)).toNat 1) (ah (fy ns));exact .ints (S:=fun id=>H.A<=id) (o:=0) (by show H.A<=_;omega) a2 hlen.symm fun i hi=>by simp[eG,hi]
def sU (g:Int)(ns:List Xl)(us:List Xm):W9:=.agg [.lit (.int .i64 g),.M ns.length (aE ns),.M us.length (aZ us)]
def pE {us:List Xm}(hu:∀u∈us,Xy ns u)(h4:us.length<=4)(vals:List Int)(k:Nat):-400<=bB ns (us.take k) vals/\bB ns (us.take k) vals<=400:=by
 have key:∀l:List Xm,(∀u∈l,Xy ns u)->-(100*l.length:Int)<=bB ns l vals/\bB ns l vals<=100*l.length:=by
  intro l
  induction l with
  |nil=>intro _;simp[bB]
  |cons u l ih =>
   intro h;have h1:=ih fun u hu=>h u (by simp[hu]);have h2:-100<=lS ns vals u/\lS ns vals u<=100:=by
    unfold lS;rw[SV];cases hg:u.w[(bG (aB (aj ns) u.vars) (aB vals u.vars)).toNat]? with
    |none=>simp
    |some w=>exact(h u W5).w w (an hg)
   simp only[bB,List.map_cons,T8,List.length_cons]at h1 ⊢
   push_cast
   omega
 have:=key (us.take k) fun u hk=>hu u (Tj hk);have h5:(us.take k).length<=4:=by simp;omega
 omega
def PM (g:Int)(ns:List Xl)(us:List Xm)(vals:List Int)(h8:ns.length<=8)(hc:∀y∈ns,1<=y.L/\y.L<=4)(hu:∀u∈us,Xy ns u)(h4:us.length<=4)(hf:bI (aj ns) vals)(H:Xn)(K:Xd->Xn->Prop)
  (hK:K (.ret (aa (bB ns us vals))) H):ae prog G0 83 [sU g ns us,ah vals] H K:=by
 refine ae.Z ⟨_,func83,rfl,rfl⟩ fun hcl=>?_;have hfl:vals.length=ns.length:=by rw[hf.1,cZ]
 refine ae.st (n:=49) (rs:=[.tmp 4]) func83 ?_;simp only[go_sem,sU];obtain⟨H1,hH1⟩:∃H1,H1=ext H [.J 0 147 [.lit (.int .i64 g),.M ns.length (aE ns),.M us.length (aZ us)]]:=⟨_,rfl⟩
 have l1:H1.X H.A 0=some (147,[.lit (.int .i64 g),.M ns.length (aE ns),.M us.length (aZ us)]):=by rw[hH1];exact af (cV ..)
 have n1:H1.A=H.A+1:=hH1▸rfl
 have o1:Xb H H1:=hH1▸.ext _ _
 rw[<- hH1];refine W.aP 281474976695712 (by rfl) (fun ρ H'=>∃k:Nat,ρ 14=aa k/\k<=us.length/\Xb H1 H'/\ρ 5=aa (bB ns (us.take k) vals)) (fun ρ H=>us.length-(iv (ρ 14)).toNat) ?_ ?_
 ·simp only[go_sem];exact⟨0,rfl,O,.refl _,by simp[bB]⟩
 rintro ρ H' ⟨k,h14,hk,ov,h5⟩;refine W.en (fun E=>E 1=ah vals /\ E 2=.R H.A 0 0 /\ E 5=aa (bB ns (us.take k) vals) /\ E 12=.M us.length (aZ us) /\ E 13=aa us.length /\ E 14=aa k) (by simp only[go_sem,h5,h14]) fun E ⟨e1,e2,e5,e12,e13,e14⟩=>?_
 refine W.vs ?_;have ovn:=ov.A;by_cases hb:(k:Int)<us.length;rotate_left
 ·simp only[go_sem,e5,e13,e14,hb];rw[SR O];exact ar.bE aH hcl (o1.trans ov) (.lit _) hK
 obtain⟨u,hku⟩:=aq (l:=us) (i:=k) O;have hum:=an hku;obtain⟨u1,u2,u3⟩:=hu u hum;have hne:=yg hku;have p0:=ye hku;have p1:k*2+2<=(aZ us).length:=by rw[yd];omega
 have v8:=u1.len;obtain⟨H2,hH2⟩:∃H2,H2=ext H' [.J 0 82 [.M u.vars.length (ints u.vars),.M u.w.length (ints u.w)]]:=⟨_,rfl⟩
 have m1:=af (show H2.get H'.A=some (.J 0 82 [.M u.vars.length (ints u.vars),.M u.w.length (ints u.w)]) by rw[hH2];exact da);have m2:H2.X H.A 0=some (147,[.lit (.int .i64 g),.M ns.length (aE ns),.M us.length (aZ us)]):=by rw[hH2];exact(c9 O).trans ((ov.X O).trans l1)
 have n2:H2.A=H'.A+1:=by rw[hH2];rfl
 have sm:=sM h8 u1 hc;have hin:fR u.vars ns.length:=fun q hq=>by have:=u1.2 q hq;omega
 have fp:bI (aB (aj ns) u.vars) (aB vals u.vars):=pD (x:=⟨0,u.vars,[]⟩) hin hf;have pl:(aB (aj ns) u.vars).length=u.vars.length:=iq _ _;have vl:(aB vals u.vars).length=u.vars.length:=iq _ _;have ft:∀j,bI ((aB (aj ns) u.vars).take j) ((aB vals u.vars).take j):=fun j=>⟨by simp[pl,vl],fun i c b h1 h2=>by
  rw[VJ]at h1 h2;split at h1
  ·rename_i hik;rw[SU hik]at h2;exact fp.2 i c b h1 h2
  ·cases h1⟩
 have hr:∀j,0<=eW ((aB (aj ns) u.vars).take j) ((aB vals u.vars).take j)/\eW ((aB (aj ns) u.vars).take j) ((aB vals u.vars).take j)<68719476737:=fun j=>by
  rw[qw (ft j).1];have a:=kM (ft j);have b:=(sm.take j).prod;omega
 simp only[go_sem,e12,e13,e14,hb,hne,p0,p1];rw[<- hH2];refine W.aP 1099509531904 (by rfl) (fun ρ2 H3=>H3=H2/\∃j:Nat,ρ2 21=aa j/\j<=u.vars.length/\ρ2 8=aa (eW ((aB (aj ns) u.vars).take j) ((aB vals u.vars).take j))) (fun ρ2 H=>u.vars.length-(iv (ρ2 21)).toNat) ?_ ?_
 ·simp only[go_sem];exact⟨0,rfl,O,rfl⟩
 rintro ρ2 H3 ⟨rfl,j,h21,hj,h8'⟩;refine W.vs ?_;by_cases hb2:(j:Int)<u.vars.length
 ·obtain⟨q,hq⟩:=aq (l:=u.vars) (i:=j) O;obtain⟨i,rfl,y,hy⟩:=lP (l:=ns) (hin q (an hq)).1 (hin q (an hq)).2;obtain⟨b,hbv⟩:=aq (l:=vals) (i:=i) (by rw[hfl];exact aI hy);have hyb:=hf.2 i y.L b (cC hy) hbv;have a1:(aB (aj ns) u.vars)[j]?=some y.L:=by rw[jJ hq,Int.toNat_natCast,bq (cC hy)]
  have a2:(aB vals u.vars)[j]?=some b:=by rw[jJ hq,Int.toNat_natCast,bq hbv]
  have hne2:=aM hq;have hne3:=aM hbv;have hne4:=eV hy;have ey:=jV hy;have hi:(i:Int)<ns.length:=by have:=aI hy;omega
  have hi2:(i:Int)<vals.length:=O
  have w1:=SN ((j:Int)+1) O;have r1:=hr (j+1);rw[qx a1 a2]at r1;have r0:=hr j;have m0:0<=eW ((aB (aj ns) u.vars).take j) ((aB vals u.vars).take j)*y.L:=Um r0.1 O;have w2:=SN (eW ((aB (aj ns) u.vars).take j) ((aB vals u.vars).take j)*y.L) O;have w3:=SN (eW ((aB (aj ns) u.vars).take j) ((aB vals u.vars).take j)*y.L+b) O;simp only[go_sem,h21,hb2,hq,hne2];refine W.dr 13 [0,0,2,6,0,30,62,126,255,0,0,1536,3584] mixed ?_;simp only[go_sem,h21,h8',e1,e2,m2,hne3,hne4,hi,hi2,hbv,ey,w1,w2,w3];exact⟨⟨j+1,W5,O,by rw[qx a1 a2]⟩,O⟩
 ·rw[SR O,SR O,qw (by rw[pl,vl])]at h8';have hx:=kM fp;obtain⟨ix,hix⟩:=S5 hx.1;obtain⟨w,hw⟩:=aq (l:=u.w) (i:=ix) O;have hwne:=aM hw;have hwl:(ix:Int)<u.w.length:=by have:=aI hw;omega
  have eu:lS ns vals u=w:=by unfold lS;rw[hix,Int.toNat_natCast,bq hw]
  have us1:bB ns (us.take (k+1)) vals=bB ns (us.take k) vals+w:=by rw[aU hku];unfold bB;simp[eu]
  have b1:=pE hu h4 vals k;have b2:=pE hu h4 vals (k+1);rw[us1]at b2;have w1:=SN ((k:Int)+1) O;have w2:=SN (bB ns (us.take k) vals+w) O;rw[hix]at h8';simp only[go_sem,h21,h8',e5,e14,m1,hb2,hw,hwne,hwl,w1,w2];exact⟨O,⟨k+1,W5,O,by rw[hH2];exact ov.trans (.ext _ _),by rw[us1]⟩,by rw[h14];simp only[aa,bj];omega⟩
def PN (g:Int)(ns:List Xl)(us:List Xm)(vals:List Int)(h8:ns.length<=8)(hc:∀y∈ns,1<=y.L/\y.L<=4)(hu:∀u∈us,Xy ns u)(h4:us.length<=4)(hf:bI (aj ns) vals)(H:Xn)(N n:Nat)(hN:N<H.A)
  (hg:H.get N=some (.J 0 3 (ints vals))) (hn:n=vals.length):bp prog G0 (.Z 83 [] []) [.agg [.lit (.int .i64 g),.M ns.length (aE ns),.M us.length (aZ us)],.Q N 0 0 n 1] H (.lit (.int .i64 (bB ns us vals))) [N]:=by
 subst hn;refine bp.mk (fun i hi=>by obtain rfl:=List.mem_singleton.1 hi;exact hN) fun H2 h2 _=>?_;refine(ae.frame (H:=H2) (args:=[.agg [.lit (.int .i64 g),.M ns.length (aE ns),.M us.length (aZ us)],.Q N 0 0 vals.length 1]) (args':=[sU g ns us,ah vals]) (v':=.lit (.int .i64 (bB ns us vals))) aH rfl (fun i hi _=>?_) (PM g ns us vals h8 hc hu h4 hf dp _ ⟨_,rfl,.lit _⟩))
 match i,hi with
 |0,_ =>
  refine .agg rfl fun i hi _=>?_
  match i,hi with
  |0,_=>exact .lit _
  |1,_=>exact q8 _
  |2,_ =>
   refine .M rfl fun i hi _=>?_;have:∀c∈aZ us,Fz (fun _=>True) H2 0 c c:=by
    intro c hc;unfold aZ at hc;obtain⟨r,hr,hc⟩:=UW.1 hc;obtain⟨x,_,rfl⟩:=S4.1 hr;unfold Xm.cells at hc;simp only[List.mem_cons,List.not_mem_nil,or_false]at hc;rcases hc with rfl|rfl
    ·exact .dC _
    ·exact .dC _
   exact this _ (TC _)
 |1,_=>exact Fz.qZ ((h2 N W5).trans hg) (by rw[aS]) fun c hc=>by obtain⟨z,_,rfl⟩:=S4.1 hc;exact⟨_,rfl⟩
def PO (g:Int)(ns:List Xl)(us:List Xm)(vals:List Int)(h8:ns.length<=8)(hc:∀y∈ns,1<=y.L/\y.L<=4)(hu:∀u∈us,Xy ns u)(h4:us.length<=4)(hf:bI (aj ns) vals)(w a:Int)(hw:0<=w/\w<=167961600000000)(ha:-1000000000000000000<=a/\a<=1000000000000000000)
  (H:Xn) (N n sb fb:Nat) (hg:H.get N=some (.J 0 3 (ints vals))) (hn:n=vals.length) (hsb:H.get sb=some (.J 0 3 [.lit (.int .i64 a)])) (hfb:H.get fb=some (.J 0 147 [.lit (.int .i64 g),.M ns.length (aE ns),.M us.length (aZ us)])) (hN:N<H.A) (hNs:N≠sb) (hfs:fb≠sb)
  (K:Xd->Xn->Prop) (hK:K (.ret (.na [])) (H.upd sb (.J 0 3 [.lit (.int .i64 (a+w*bB ns us vals))]))):ae prog G0 82 [.Q N 0 0 n 1,.lit (.int .i64 w),.R sb 0 0,.R fb 0 0] H K:=by
 have ls:=af hsb;have lf:=af hfb;have hpc:=PN g ns us vals h8 hc hu h4 hf H N n hN hg hn;have b:=pE hu h4 vals us.length;rw[SR W8]at b;have m1:-67184640000000000<=w*bB ns us vals/\w*bB ns us vals<=67184640000000000:=by
  constructor
  ·have h1:w*(-400)<=w*bB ns us vals:=Tm b.1 hw.1;omega
  ·have h1:w*bB ns us vals<=w*400:=Tm b.2 hw.1;omega
 have w1:=SN (w*bB ns us vals) O;have w2:=SN (a+w*bB ns us vals) O;refine ae.st (n:=13) (rs:=[]) func82 ?_;simp only[go_sem];refine W.dr 6 [0,0,0,0,12,30] mixed ?_;simp only[go_sem,ls,lf];refine⟨_,[N],hpc,?_⟩;simp only[go_sem,ls,w1,w2];exact ar.mk W8 hK
def Px (h:k<bD ns):(fy ns)[k]?=some (weight ns (bH (aj ns) k)):=by
 unfold fy;rw[List.getElem?_map,Th h];rfl
def Py (ns:List Xl):(fy ns).length=bD ns:=by simp[fy]
def Pz (h:Xq g ns)(hf:bI (aj ns) vals):0<=weight ns vals/\weight ns vals<=167961600000000:=by
 have:=Do h hf ns.length;rw[SR (by rw[uS];omega)]at this;exact this
def PA (g:Int)(ns:List Xl)(us:List Xm)(h:Xq g ns)(hu:∀u∈us,Xy ns u)(h4:us.length<=4)(hBd:∀k,k<=bD ns->-1000000000000000000<=ig ns us k/\ig ns us k<=1000000000000000000)
  (H:Xn) (sb fb:Nat) (hsb:H.get sb=some (.J 0 3 [.lit (.int .i64 0)])) (hfb:H.get fb=some (.J 0 147 [.lit (.int .i64 g),.M ns.length (aE ns),.M us.length (aZ us)])) (hlt:sb<H.A) (hltf:fb<H.A) (hfs:fb≠sb)
  (K:Xd->Xn->Prop) (hK:∀H',H.A<=H'.A->(∀id,id<H.A->id≠sb->H'.get id=H.get id)->H'.get sb=some (.J 0 3 [.lit (.int .i64 (ig ns us (bD ns)))])->K (.ret (.na [])) H'):
  ae prog G0 81 [sU g ns us,.Z 82 [] [.R sb 0 0,.R fb 0 0]] H K:=by
 have n8:=h.n1;have hcards:∀c∈aj ns,1<=c/\c<=4:=fun c hc=>by
  obtain⟨x,hx,rfl⟩:=S4.1 hc;exact(h.node x hx).1
 have sm:dR (aj ns):=mU (by rw[cZ];omega) hcards;have hp:=fu fun c hc=>(hcards c hc).1;refine ae.st (n:=24) (rs:=[]) func81 ?_;simp only[go_sem,sU];refine az.Z (PL g ns h _ _ ⟨trivial,?_⟩);simp only[go_sem];refine az.Z (sV ns O _ _ ⟨trivial,?_⟩);simp only[go_sem];refine az.Z (sR (aj ns) _ _ ⟨trivial,?_⟩);simp only[go_sem];obtain⟨H2,hH2⟩:∃H2,H2=ext (ext H [.J 0 147 [.lit (.int .i64 g),.M ns.length (aE ns),.M us.length (aZ us)],.J 0 149 (W9.Z 82 [] [.R sb 0 0,.R fb 0 0]).cells,.J 0 46 [ah (fy ns)]]) [.J 0 46 [ah (aj ns)]]:=⟨_,rfl⟩
 have n2:H2.A=H.A+4:=by rw[hH2];rfl
 have o2:Xb H H2:=by rw[hH2];exact(Xb.ext _ _).trans (.ext _ _)
 have g1:H2.get (H.A+1)=some (.J 0 149 [.Z 82 [] [.R sb 0 0,.R fb 0 0]]):=by rw[hH2,dD];exact bL H _ 1 (W5)
 have g2:H2.get (H.A+2)=some (.J 0 46 [ah (fy ns)]):=by rw[hH2,dD];exact bL H _ 2 (W5)
 have g3:H2.get (H.A+3)=some (.J 0 46 [ah (aj ns)]):=by rw[hH2,dD];exact bL H _ 3 (W5)
 have gsb:=(o2.nl _ hlt).trans hsb;have gfb:=(o2.nl _ hltf).trans hfb;refine W.env fun E hE=>?_;have e3:E 3=.R (H.A+1) 0 0:=by rw[hE];simp only[go_sem]
 have e4:E 4=.R (H.A+2) 0 0:=by rw[hE];simp only[go_sem]
 have e14:E 14=.Z 143 [] [.R (H.A+3) 0 0]:=by rw[hE];rfl
 clear hE;show W _ _ _ _ _ _ ⟨E,ext (ext H [.J 0 147 [.lit (.int .i64 g),.M ns.length (aE ns),.M us.length (aZ us)],.J 0 149 (W9.Z 82 [] [.R sb 0 0,.R fb 0 0]).cells,.J 0 46 [ah (fy ns)]]) [.J 0 46 [ah (aj ns)]]⟩;rw[<- hH2];have hit:=sQ (aj ns) (fun c hc=>(hcards c hc).1) sm (H.A+3) (H2.A+1) O;refine W.tz (f:=143) (first:=[]) (cap:=[.R (H.A+3) 0 0]) (by show E 14=_;exact e14) hit
  (fun k Hx=>H2.A<Hx.A/\(∀id,id<H2.A->id≠sb->Hx.get id=H2.get id)/\Hx.get sb=some (.J 0 3 [.lit (.int .i64 (ig ns us k))]))
  (fun _ _=>False)
  (fun k Hx h=>(h.2.1 _ O O).trans g3)
  (fun k H1 H3 h hw=>⟨by have:=hw.1;omega,fun id h1 h2=>(hw.2 _ O (by have:=h.1;omega)).trans (h.2.1 id h1 h2),(hw.2 _ O (by have:=h.1;omega)).trans h.2.2⟩)
  (fun k Hx h=>h.1)
  (fun k H1 b h=>⟨h.1,fun id h1 h2=>by rw[ag,SQ O];exact h.2.1 id h1 h2,by rw[ag,SQ O];exact h.2.2⟩)
  (fun _ _ _ h=>h) (fun k H1 b h=>by unfold lj at h ⊢;rw[ag,SQ O];exact h)
  (fun b=>⟨by rw[aX];simp,fun id h1 h2=>bQ h1,by rw[bQ O];exact gsb⟩) (W6)
  (fun x hx=>by
   obtain⟨k,hk⟩:=SY.1 hx;obtain⟨_,rfl⟩:=me hk;rfl) (fun _ _ _=>trivial) (fun _ _ _=>trivial) (fun k y Hx B Bb hy hj hcs hn hB hBb=>?_) (fun Hx hj hn=>?_) (fun _ hs _=>hs.elim) (fun _ _ hs _=>hs.elim)
 ·obtain⟨hk,rfl⟩:=me hy;refine W.vs ?_;simp only[go_sem,ic,cG,jn,TF,Ur,TV,T1,hB];obtain⟨H3,hH3⟩:∃H3,H3=Hx.upd H2.A Bb:=⟨_,rfl⟩
  rw[<- hH3];obtain⟨st,pd,n',en,ps',as',bo,hBe⟩:=hBb;have n3:H3.A=Hx.A:=by rw[hH3];rfl
  have o3:∀id,id≠H2.A->H3.get id=Hx.get id:=fun id h=>by rw[hH3,ag,SQ h]
  have jB:H3.get H2.A=some Bb:=by rw[hH3,ag,SU rfl]
  have k1:=(o3 _ O).trans ((hj.2.1 (H.A+1) O O).trans g1);have k2:=(o3 _ O).trans ((hj.2.1 (H.A+2) O O).trans g2);have kf:=(o3 _ O).trans ((hj.2.1 fb O hfs).trans gfb);have ks:=(o3 _ O).trans hj.2.2;have kN:H3.get (H2.A+1)=some (.J 0 3 (ints (bH (aj ns) k))):=(o3 _ O).trans hcs;obtain⟨vals,hvals⟩:∃vals,vals=bH (aj ns) k:=⟨_,rfl⟩
  have hfit:bI (aj ns) vals:=by rw[hvals];exact oZ (fun c hc=>(hcards c hc).1) _
  rw[<- hvals]at kN;have hvl:vals.length=ns.length:=by rw[hfit.1,cZ]
  refine W.en (fun E1=>E1 3=.R (H.A+1) 0 0 /\ E1 4=.R (H.A+2) 0 0 /\ E1 5=aa k /\ E1 6=.Q (H2.A+1) 0 0 ns.length 1) (by simp only[go_sem,cG,e3,e4,cZ]) fun E1 ⟨m3,m4,m5,m6⟩=>?_
  have l1:=af k1;have l2:=af k2;have hkw:k<bD ns:=hk;have hwk:=Px hkw;rw[<- hvals]at hwk;have hwne:=aM hwk;have hkl:(k:Int)<(fy ns).length:=by rw[Py];omega
  have hs1:=BQ ns us k;rw[<- hvals]at hs1;refine W.vs ?_;simp only[go_sem];refine W.dr 6 [0,0,0,0,12,28] mixed ?_;simp only[go_sem,m3,m4,m5,m6,l1,l2,hwk,hwne,hkl];refine az.Z (PO g ns us vals O (fun y hy=>(h.node y hy).1) hu h4 hfit (weight ns vals) (ig ns us k) (Pz h hfit) (hBd k O) H3 (H2.A+1) ns.length sb fb kN hvl.symm ks kf O O hfs _ ⟨⟨_,_,_,_,_,_,_,by rw[ag,SQ O,jB,hBe]⟩,?_⟩);simp only[go_sem];refine⟨by rw[ag,SQ O];exact jB,by rw[aF];omega,⟨⟨by rw[aF];omega,fun id h1 h2=>by rw[ag,SQ h2,o3 _ O];exact hj.2.1 id h1 h2,by rw[ag,SU rfl,hs1]⟩,?_⟩⟩;unfold lj;rw[ag,SQ O,kN,hvals]
 ·simp only[go_sem];exact ar.mk O (hK Hx O (fun id h1 h2=>(hj.2.1 id O h2).trans (o2.nl _ h1)) (by have:=hj.2.2;rw[qW]at this;exact this))
def PB (x y:Int)(hx:0<=x)(hy:0<=y):Int.gcd y (x % y)=Int.gcd y x:=by
 obtain⟨a,rfl⟩:=S5 hx;obtain⟨b,rfl⟩:=S5 hy;rw[<- Int.natCast_emod];show Nat.gcd b (a % b)=Nat.gcd b a;rw[WD b (a % b),<- Nat.gcd_rec]
def Dd (g:Int)(n:Nat)(hg:1<=g/\g<=60)(hn:n<=8)(H:Xn)(K:Xd->Xn->Prop)(hK:K (.ret (aa (g ^ n))) H):ae prog G0 85 [aa g,aa n] H K:=by
 refine ae.st (n:=14) (rs:=[.tmp 4]) func85 ?_;simp only[go_sem];refine W.aP 8096 (by rfl) (fun ρ H'=>H'=H/\∃k:Nat,ρ 7=aa k/\k<=n/\ρ 5=aa (g ^ k)) (fun ρ H=>n-(iv (ρ 7)).toNat) ?_ ?_
 ·simp only[go_sem];exact⟨0,rfl,O,by rw[Int.pow_zero]⟩
 rintro ρ H' ⟨rfl,k,h7,hk,h5⟩;refine W.vs ?_;have hpow:∀k:Nat,0<=g ^ k/\g ^ k<=60 ^ k:=fun k=>by
  induction k with
  |zero=>simp
  |succ k ih =>
   rw[US,US];exact⟨Um ih.1 O,Uu ih.2 hg.2 O (by have:=Wo (n:=60) (m:=k) W6;omega)⟩
 by_cases hb:(k:Int)<n
 ·have h1:=hpow (k+1);have h2:=sS (k+1) O;rw[US]at h1;have w1:=SN (g ^ k*g) O;have w2:=SN ((k:Int)+1) O;simp only[go_sem,h7,h5,hb,w1,w2];exact⟨⟨k+1,rfl,O,by rw[US]⟩,O⟩
 ·have e:k=n:=O
  subst e;simp only[go_sem,h7,h5,hb];exact ar.mk W8 hK
def eo (n d:Int):W9:=.agg [.lit (.int .i64 (n.tdiv (Int.gcd n d:Int))),.lit (.int .i64 (d.tdiv (Int.gcd n d:Int)))]
def De (n d:Int)(hn:-4611686018427387904<=n/\n<=4611686018427387904)(hd:1<=d/\d<=4611686018427387904)(H:Xn)(K:Xd->Xn->Prop)(hK:K (.ret (eo n d)) H):ae prog G0 84 [aa n,aa d] H K:=by
 refine ae.Z ⟨_,func84,rfl,rfl⟩ fun hcl=>?_;have w1:=SN (0-n) O;have w2:(if 0-n > n then 0-n else n)=(n.natAbs:Int):=by split<;>omega
 have w3:(if n<0-n then 0-n else n)=(n.natAbs:Int):=w2;refine ae.st (n:=25) (rs:=[.cell 4 41]) func84 ?_;simp only[go_sem,w1,w2];refine W.aP 258144 (by rfl) (fun ρ H'=>H'=ext H [.J 0 41 [.lit (.int .i64 0),.lit (.int .i64 0)]]/\∃x y:Int,ρ 5=aa x/\ρ 6=aa y/\0<=x/\0<=y/\Int.gcd x y=Int.gcd n d) (fun ρ H=>(iv (ρ 6)).toNat) ?_ ?_
 ·simp only[go_sem];exact⟨n.natAbs,d,rfl,rfl,O,O,by simp[Int.gcd]⟩
 rintro ρ H' ⟨rfl,x,y,h5,h6,hx,hy,hg⟩;refine W.en (fun E=>E 0=aa n /\ E 1=aa d /\ E 4=.R H.A 0 0 /\ E 5=aa x /\ E 6=aa y) (by simp only[go_sem,h5,h6]) fun E ⟨e0,e1,e4,e5,e6⟩=>?_
 refine W.vs ?_;by_cases hz:y=0
 ·subst hz;have e:x=(Int.gcd n d:Int):=by rw[<- hg,Int.gcd_zero_right];omega
  have g0:0<Int.gcd n d:=VC _ O;have hxz:¬x=0:=O
  have hgn:(Int.gcd n d:Int)≠0:=O
  simp only[go_sem,e6];refine W.dr 6 [0,0,3,0,0,24] mixed ?_;have b1:-4611686018427387904<=n.tdiv x/\n.tdiv x<=4611686018427387904:=by
   have h2:(n.tdiv x).natAbs<=n.natAbs:=(by rw[Wq];exact U2 _ _);omega
  have b2:-4611686018427387904<=d.tdiv x/\d.tdiv x<=4611686018427387904:=by
   have h2:(d.tdiv x).natAbs<=d.natAbs:=(by rw[Wq];exact U2 _ _);omega
  have u1:=SN (n.tdiv x) O;have u2:=SN (d.tdiv x) O;simp only[go_sem,e0,e1,e4,e5,hxz,u1,u2];refine ar.drop aH hcl (v':=eo n d) ?_ hK;rw[e];refine .agg rfl fun i hi _=>?_
  match i,hi with
  |0,_=>exact .lit _
  |1,_=>exact .lit _
 ·have m1:x.tmod y=x % y:=TD hx;have m2:=VH x hz;have m3:=UZ x (show 0<y by omega);simp only[go_sem,e6,hz];refine W.dr 5 [0,0,0,6,3] mixed ?_;simp only[go_sem,e5,e6,hz,m1];refine⟨⟨y,x % y,rfl,rfl,hy,m2,?_⟩,by rw[h6];simp only[aa,bj];omega⟩;rw[<- hg,Int.gcd_comm x y];exact PB x y hx (O)
def Df {L a:Int}(hg:0<=g)(ha:0<=a/\a<L):km g L (dM g L a):=by
 refine⟨by rw[Dl];omega,fun w hw=>?_,?_⟩
 ·unfold dM at hw;rcases TG hw with h|h
  ·have:=Ub h;omega
  ·omega
 ·unfold dM;have key:∀(n i:Nat),i<n->((List.replicate n (0:Int)).set i g).sum=g:=by
   intro n
   induction n with
   |zero=>intro i h;omega
   |succ n ih =>
    intro i h;cases i with
    |zero=>simp[Uo]
    |succ i=>rw[Uo,List.set_cons_succ,T8,ih i O];omega
  exact key _ _ (O)
def kh (d:Xa)(c:Nat->Nat->Int):aj (cz d c)=aj d.C:=NC
def iJ (d:Xa)(c:Nat->Nat->Int):(cz d c).length=d.C.length:=kS _ _ _
def ki (h:d.C[v]?=some x):(cz d c)[v]?=some (gC d c (aK d).length v x):=oa h
def sK (d:Xa)(c:Nat->Nat->Int)(x:Xl):aV (cz d c) x=aV d.C x:=by unfold aV;rw[kh]
def za (d:Xa)(c:Nat->Nat->Int):aR (cz d c)=aR d.C:=by
 apply Ts;intro v;unfold aR;rw[List.getElem?_map,List.getElem?_map];rcases Tg v d.C.length with h|h
 ·obtain⟨x,hx⟩:=aq h;rw[ki hx,hx];simp only[Option.map_some,(jx d c _ v x).2]
 ·rw[SX (by rw[iJ];exact h),SX h]
def qT (hx:d.C[v]?=some x)(hb:d.U.testBit v=true):(aK d)[bd d.U v]?=some v:=nX (aI hx) hb
def zb (hx:d.C[v]?=some x)(hb:d.U.testBit v=true):gC d c (aK d).length v x={ x with nn:=x.nn++ee d.Y d.C c (bd d.U v) x } :=
 SU ⟨hb,aI (qT hx hb)⟩
def qU (hb:¬d.U.testBit v=true):gC d c k v x=x:=SQ fun h=>hb h.1
def pA (d:Xa)(c:Nat->Nat->Int):Prop:=∀(k v r:Nat) (x:Xl),(aK d)[k]?=some v->d.C[v]?=some x->r<bM d.C x->0<=c k r/\c k r<x.L
def zc (h:Xf d)(hc:pA d c):Xq d.Y (cz d c):=by
 have h0:=h.nu;refine⟨h0.g1,by rw[iJ];exact h.n.n1,fun y hy=>?_,by have:=h0.size;rw[kh]at this ⊢;exact this,by have:=h0.nH;rw[za]at this ⊢;exact this,fun y hy=>?_⟩
 ·obtain⟨v,x,hx,rfl⟩:=sN hy;have:=h0.node _ (an (ki (c:=fun _ _=>0) hx));rw[(jx ..).1,(jx ..).2,iJ]at this ⊢;exact this
 ·obtain⟨v,x,hx,rfl⟩:=sN hy;have h1:=h0.nn _ (an (ki (c:=fun _ _=>0) hx));unfold gI at h1 ⊢;rw[sK]at h1 ⊢;by_cases hb:d.U.testBit v=true
  ·rw[zb hx hb]at h1 ⊢;have x1:=(h.n.dec v x hx hb).1;refine⟨?_,fun r hr=>?_⟩
   ·have:=h1.1;rw[show ({ x with nn:=x.nn++ee d.Y d.C (fun _ _=>0) (bd d.U v) x }:Xl).nn.length=bM d.C x by simp[x1,ee]]at this;rw[show ({ x with nn:=x.nn++ee d.Y d.C c (bd d.U v) x }:Xl).nn.length=bM d.C x by simp[x1,ee]];exact this
   ·rw[show ({ x with nn:=x.nn++ee d.Y d.C c (bd d.U v) x }:Xl).nn=x.nn++ee d.Y d.C c (bd d.U v) x from rfl,x1,List.nil_append]at hr;unfold ee at hr;obtain⟨i,hi,rfl⟩:=S4.1 hr;have:=h0.g1;exact Df O (hc _ _ _ x (qT hx hb) hx (S7.1 hi))
  ·rw[qU hb]at h1 ⊢;exact h1
def Dh {u:Xm}(h:Xy d.C u):Xy (cz d c) u:=⟨by rw[iJ];exact h.vars,by rw[kh];exact h.size,h.w⟩
def pB {p:List (List Int)}(h:Xo d p):pA d (fixC p):=fun k v r x hv hx hr=>by
 obtain⟨l,a,hl,ha,he,hb⟩:=Dn h hv hx hr;rw[he];exact hb
def kj (d:Xa)(p:List (List Int)):Int:=ig (cz d (fixC p)) d.V (bD d.C)
noncomputable def j5 (d:Xa)(p:List (List Int)):W9:=if eJ d p=0 then eo (kj d p) (d.Y ^ d.C.length) else .agg [.lit (.int .i64 0),.lit (.int .i64 0)]
def vD (d:Xa)(c:Nat->Nat->Int):bD (cz d c)=bD d.C:=by unfold bD;rw[kh]
def Di (d:Xa)(p:List (List Int)):Prop:=Xf d->Xo d p->∀k,k<=bD d.C->-1000000000000000000<=ig (cz d (fixC p)) d.V k/\ig (cz d (fixC p)) d.V k<=1000000000000000000
def sB (d:Xa)(hf:Xv d)(p:List (List Int))(hp:pC p)(hs:Di d p)(H:Xn)(K:Xd->Xn->Prop)(hK:K (.ret (.na [j5 d p,aa (eJ d p)])) H):ae prog G0 27 [eC d,aO p] H K:=by
 refine ae.Z ⟨_,func27,rfl,rfl⟩ fun hcl=>?_;refine ae.st (n:=37) (rs:=[.cell 4 41,.tmp 5]) func27 ?_;simp only[go_sem,iI,cu];obtain⟨H1,hH1⟩:∃H1,H1=ext H [.J 0 38 [.lit (.int .i64 d.Y),.M d.C.length (aE d.C),.lit (.int .u64 (d.U:Int)),.M d.V.length (aZ d.V)],.J 0 41 [.lit (.int .i64 0),.lit (.int .i64 0)]]:=⟨_,rfl⟩
 have g1:=dv hH1
 have g2:=gE hH1 1 rfl
 have l1:=af g1;have l2:=af g2;have n1:H1.A=H.A+2:=hH1▸rfl
 have o1:Xb H H1:=hH1▸.ext _ _
 rw[<- hH1];refine az.Z (PH d hf p hp _ _ ⟨trivial,?_⟩);by_cases hz:eJ d p=0;rotate_left
 ·have hcell:(W9.lit (.int .i64 (eJ d p))).cells=[.lit (.int .i64 (eJ d p))]:=rfl;have ef:sP d p=sO:=SQ hz;have ev:j5 d p=.agg [.lit (.int .i64 0),.lit (.int .i64 0)]:=SQ hz;have l2':=af (show (ext H1 [.J 0 103 [.lit (.int .i64 0),.M 0 []]]).get (H.A+1)=some (.J 0 41 [.lit (.int .i64 0),.lit (.int .i64 0)]) by rw[cP _ _ _ O];exact g2);rw[ef];simp only[go_sem,hz,l2',sO];rw[ev]at hK;refine ar.bE (v':=.na [.agg [.lit (.int .i64 0),.lit (.int .i64 0)],aa (eJ d p)]) aH hcl (Xb.upd (id:=H.A+1) (o1.trans (.ext _ _)) (Vm _) _) (.na rfl fun i hi _=>?_) hK
  match i,hi with
  |0,_ =>
   refine .agg rfl fun i hi _=>?_
   match i,hi with
   |0,_=>exact .lit _
   |1,_=>exact .lit _
  |1,_=>exact .lit _
 obtain⟨hok,hpo⟩:=ze.1 hz;have ef:sP d p=dk d.Y (cz d (fixC p)):=SU hz;have ev:j5 d p=eo (kj d p) (d.Y ^ d.C.length):=SU hz;rw[hz,ef,dk,dL];rw[hz,ev]at hK;have hnet:=zc hok (pB hpo);have hsum:=hs hok hpo;have hw:=vD d (fixC p);have hfl:=iJ d (fixC p);obtain⟨ns,hns⟩:∃ns,ns=cz d (fixC p):=⟨_,rfl⟩
 rw[<- hns]at hnet hsum hw hfl ⊢;obtain⟨H2,hH2⟩:∃H2,H2=ext H1 [.J 0 103 [.lit (.int .i64 d.Y),.M ns.length (aE ns)]]:=⟨_,rfl⟩
 have n2:H2.A=H1.A+1:=hH2▸rfl
 have o2:Xb H1 H2:=hH2▸.ext _ _
 have q1:=af ((o2.nl _ O).trans g1);have q3:=af (show H2.get H1.A=some (.J 0 103 [.lit (.int .i64 d.Y),.M ns.length (aE ns)]) by rw[hH2];exact da);rw[hH2]at q1 q3;simp only[go_sem,q1,q3];obtain⟨H3,hH3⟩:∃H3,H3=ext H1 [.J 0 103 [.lit (.int .i64 d.Y),.M ns.length (aE ns)],.J 0 147 [.lit (.int .i64 d.Y),.M ns.length (aE ns),.M d.V.length (aZ d.V)],.J 0 3 [.lit (.int .i64 0)]]:=⟨_,rfl⟩
 have n3:H3.A=H1.A+3:=hH3▸rfl
 have o3:Xb H H3:=by rw[hH3];exact o1.trans (.ext _ _)
 have r1:=gE hH3 1 rfl
 have r2:=gE hH3 2 rfl
 have r0:H3.get (H.A+1)=some (.J 0 41 [.lit (.int .i64 0),.lit (.int .i64 0)]):=by rw[hH3,cP _ _ _ O];exact g2
 rw[<- hH3];refine az.Z (PA d.Y ns d.V hnet (fun u hu=>by rw[hns];exact Dh (hok.V.2 u hu)) hok.V.1 (fun k hk=>hsum k O) H3 (H1.A+2) (H1.A+1) r2 r1 O O O _ fun H4 h4 nl hsb=>⟨trivial,?_⟩);have s1:=af ((nl (H1.A+1) O O).trans r1);have s2:=af hsb;have s0:=af ((nl (H.A+1) O O).trans r0);rw[hw]at s2;simp only[go_sem];refine W.dr 9 [0,0,2,6,0,16,48,112,254] mixed ?_;simp only[go_sem,s1,s2];have gp:=hok.nu.g1;have gn:=hok.n.n1;have pw0:1<=d.Y ^ ns.length:=Wo O;have pw1:d.Y ^ ns.length<=167961600000000:=by
  have key:∀k:Nat,d.Y ^ k<=60 ^ k:=fun k=>by
   induction k with
   |zero=>simp
   |succ k ih =>
    rw[US,US];exact Uu ih gp.2 O (by have:=Wo (n:=60) (m:=k) W6;omega)
  have:=key ns.length;have:=sS ns.length O;omega
 have hsw:=hsum (bD d.C) W8;refine⟨aa (d.Y ^ ns.length),[],bp.pure (fun H2=>Dd d.Y ns.length gp O H2 _ ⟨rfl,rfl⟩),?_⟩;refine az.Z (De _ _ O O _ _ ⟨trivial,?_⟩);simp only[go_sem,s0,eo];have o4:Xb H H4:=⟨by have:=o3.A;omega,fun id h=>(nl id O O).trans (o3.nl id h)⟩
 refine ar.bE (v':=.na [eo (kj d p) (d.Y ^ d.C.length),aa 0]) aH hcl (Xb.upd (id:=H.A+1) o4 (Vm _) _) (.na rfl fun i hi _=>?_) hK
 match i,hi with
 |0,_ =>
  unfold kj eo;rw[<- hns,hfl];refine .agg rfl fun i hi _=>?_
  match i,hi with
  |0,_=>exact .lit _
  |1,_=>exact .lit _
 |1,_=>exact .lit _
end Go.Proofs
namespace Go.Proofs.R01
open Go.Hx Tryz
section
variable {P:Program} {t:TypeId} {x y:Operand} {k k':IntKind} {a b:Int}
def pureRun_bind {α β:Type}{s:Sem α}{f:α->Sem β}{a:α}(h:bC P s=some a):bC P (s >>= f)=bC P (f a):=by
 induction s with
 |pure b=>simp only[bC,Option.some.injEq]at h;subst h;rfl
 |program k ih=>exact ih P h
 |mark m k ih=>exact ih h
 |_=>simp[bC]at h
def CN {t:TypeId}{a b:Bool}(n:Nat)(ht:P.underlying t=some .bool):bC P (Op.equalIn (n+1) t (.bool a) (.bool b))=some (a == b):=by
 unfold Op.equalIn;simp[underlying,program,ht,bC,bind,Sem.bind,pure]
def yM {t:TypeId}{x y:Operand}{a b:Bool}(ht:P.underlying t=some .bool):bn P .eql t x y (.lit (.bool a)) (.lit (.bool b))=some (.lit (.bool (a == b))):=by
 have h1:(do eqGuard .eql t x y (.bool a) (.bool b);binOp .eql t (.bool a) (.bool b))=(Op.equalIn (9999+1) t (.bool a) (.bool b) >>= fun r=>pure (Value.bool r)):=rfl;show (bC P _).map _=_;rw[h1,pureRun_bind (CN 9999 ht)];rfl
def OV {t:TypeId}{x y:Operand}{a b:Bool}(ht:P.underlying t=some .bool):bn P .neq t x y (.lit (.bool a)) (.lit (.bool b))=some (.lit (.bool (!(a == b)))):=by
 have h1:(do eqGuard .neq t x y (.bool a) (.bool b);binOp .neq t (.bool a) (.bool b))=(Op.equalIn (9999+1) t (.bool a) (.bool b) >>= fun r=>pure (Value.bool (!r))):=rfl;show (bC P _).map _=_;rw[h1,pureRun_bind (CN 9999 ht)];rfl
end
section
variable {P:Program} {G:Nat->Option (List W9)}
def CO {n m:Nat}{v:W9}(h:Below n v)(hm:n<=m):Below m v:=by
 induction h with
 |lit v=>exact .lit v
 |M h ih=>exact .M ih
 |nf h ih=>exact .nf ih
 |agg h ih=>exact .agg ih
 |na h ih=>exact .na ih
 |Z h1 h2 ih1 ih2=>exact .Z ih1 ih2
 |Q h=>exact .Q (O)
 |R h=>exact .R (O)
 |ni h=>exact .ni (O)
def OW {n m:Nat}{b:Xe}(h:rY n b)(hm:n<=m):rY m b:=by
 cases b with
 |J g e cells=>exact fun i hi=>CO (h i hi) hm
 |loop st pend n env ps asg body=>exact fun t ht=>CO (h t ht) hm
 |nm=>trivial
 |mp=>exact h
def OX {H:Xn}(hc:XN H){L:List Xe}(h:∀b,b∈L->rY (H.A+L.length) b):XN (ext H L):=by
 have key:∀id b,(ext H L).get id=some b->(id<H.A/\H.get id=some b)\/(id<H.A+L.length/\b∈L):=by
  intro id b hb;by_cases h1:id<H.A
  ·rw[cP _ _ _ h1]at hb;exact .inl ⟨h1,hb⟩
  ·by_cases h2:id<H.A+L.length
   ·have:=bL H L (id-H.A) O;rw[show H.A+(id-H.A)=id by omega,hb]at this;exact .inr ⟨h2,an this.symm⟩
   ·have:(ext H L).get id=H.get id:=(by unfold ext;simp only;rw[SQ O]);rw[this]at hb;exact absurd (hc.lt _ _ hb) h1
 refine⟨fun id b hb=>?_,fun id b hb=>?_⟩
 ·rw[aX];rcases key id b hb with ⟨h1,_⟩|⟨h1,_⟩<;>omega
 ·rw[aX];rcases key id b hb with ⟨_,h1⟩|⟨_,h1⟩
  ·exact OW (hc.below _ _ h1) (O)
  ·exact h b h1
def OY {n g:Nat}{e:TypeId}{cells:List W9}(h:∀c,c∈cells->∃v,c=.lit v):rY n (.J g e cells):=fun i hi=>by
 obtain⟨v,hv⟩:=h _ (TC hi);rw[hv];exact .lit v
end
def qV (n d:Int):W9:=.agg [.lit (.int .i64 n),.lit (.int .i64 d)]
def kX (a c:Int):Bool:=!(decide (a<0) == decide (c<0))
def dP (p q:Int):Int:=if p<q then -1 else if p=q then 0 else 1
theorem OZ {S:Nat->Prop}{H:Xn}{nx:Nat}(n d:Int):Fz S H nx (.agg [.lit (.int .i64 n),.lit (.int .i64 d)]) (qV n d) :=
 .agg rfl fun i hi _=>match i,hi with
  |0,_=>.lit _
  |1,_=>.lit _
end Go.Proofs.R01
namespace Go.Proofs.R01
open Go.Hx Tryz
variable {n:Nat}
def val:List Int -> Nat
  | [] => 0
  |a :: l => a.toNat + 10000 * val l
def ay (n:Nat):List Int := if h:n=0 then [] else ((n % 10000:Nat):Int) :: ay (n / 10000)
termination_by n
decreasing_by omega
def ik:ay 0 = [] := by rw[ay];rfl
def mL (h:n ≠ 0):ay n=((n % 10000:Nat):Int) :: ay (n / 10000) := by
  conv => lhs;rw[ay]
  rw[dif_neg h]
def jZ:∀n:Nat,val (ay n)=n := by
  intro n
  induction n using Nat.strongRecOn with
  |_ n ih =>
    by_cases h:n=0
    · subst h;rw[ik];rfl
    · rw[mL h,val,ih _ O];omega
def Dg (l:List Int):Prop := ∀c,c ∈ l -> 0 <= c /\ c <= 9999
def lW:∀n:Nat,Dg (ay n) := by
  intro n
  induction n using Nat.strongRecOn with
  |_ n ih =>
    by_cases h:n=0
    · subst h;rw[ik];intro c hc;cases hc
    · rw[mL h];intro c hc;rcases List.mem_cons.1 hc with rfl |hc
      · omega
      · exact ih _ O c hc
theorem qI:∀(l m:List Int),val (l ++ m)=val l + 10000 ^ l.length * val m
  | [],m => by simp[val]
  |a :: l,m => by
    simp only[List.cons_append,val,qI l m,List.length_cons,T6,Vl];rw[show 10000 * (10000 ^ l.length * val m)=10000 ^ l.length * 10000 * val m by ac_rfl];omega
theorem oh:∀ {l:List Int},Dg l -> val l < 10000 ^ l.length
  | [],_ => by simp[val]
  |a :: l,h => by
    have ih := oh (l := l) fun c hc => h c (by simp[hc]);have ha := h a W5;simp only[val,List.length_cons,T6];omega
def mM {k:Nat}(h:n < 10000 ^ k):(ay n).length <= k := by
  induction k generalizing n with
  | zero => have : n = 0 := by simpa using h
            subst this;rw[ik];simp
  |succ k ih =>
    by_cases h0:n=0
    · subst h0;rw[ik];simp
    · rw [mL h0, List.length_cons];have : n / 10000 < 10000 ^ k := by
        rw[T6]at h;exact Uz (by rw[UB];exact h)
      have := ih this;omega
theorem Cw:∀ {l:List Int},Dg l -> (∀a,l.getLast? = some a -> a ≠ 0) -> ay (val l)=l
  | [],_,_ => ik
  |a :: l,h,hl => by
    have ha := h a W5;have hd:Dg l := fun c hc => h c (by simp[hc]);have ih := Cw (l := l) hd fun b hb => hl b (by
      cases l with
      |nil => cases hb
      |cons c l => simpa[List.getLast?_cons_cons] using hb)
    by_cases h0:val (a :: l)=0
    · exfalso;simp only[val]at h0;have a0:a=0 :=O;have v0:val l=0 :=O;rw[v0,ik]at ih;exact hl a (by rw[<- ih];rfl) a0
    · rw[mL h0];have e1:val (a :: l) % 10000=a.toNat :=(by simp only[val];omega);have e2:val (a :: l) / 10000=val l :=(by simp only[val];omega);rw[e1,e2,ih];congr 1;omega
def OI (k:Nat):val (List.replicate k 0)=0 := by
  induction k with
  |zero => rfl
  |succ k ih => simp[Uo,val,ih]
def yI :ay n = [] ↔ n=0 := by
  constructor
  · intro h;have := jZ n;rw[h]at this;exact this.symm
  · rintro rfl;exact ik
def Cx (b:Nat):b ≠ 0 -> 10000 ^ ((ay b).length-1) <= b := by
  induction b using Nat.strongRecOn with
  |_ b ih =>
    intro hb;rw[mL hb,List.length_cons,Uk];by_cases h1:b / 10000=0
    · rw[h1,ik];simp;omega
    · have := ih _ O h1;have hl : (ay (b / 10000)).length ≠ 0 := by
        intro h;exact h1 (yI.1 (S3 h))
      obtain⟨k,hk⟩:∃k,(ay (b / 10000)).length=k + 1 := ⟨_,(Nat.succ_pred_eq_of_ne_zero hl).symm⟩
      rw[hk]at this ⊢;rw[Uk]at this;rw[T6];omega
def qJ {a b:Nat}(h:(ay a).length < (ay b).length):a < b := by
  rcases Tg a b with h1 |h1
  · exact h1
  · exfalso;have h2 := Cx b (by intro h0;rw[h0,ik]at h;simp at h);have h3 := oh (lW a);rw[jZ]at h3;have h4:10000 ^ (ay a).length <= 10000 ^ ((ay b).length-1) := Ti W6 O;omega
end Go.Proofs.R01
namespace Go.Proofs.R01
open Go.Hx Tryz
def Cy {α:Type}{l:List α}{i:Nat}{a:α}(h:l[i]? = some a):l.take (i + 1)=l.take i ++ [a] := by
  rw[V9,h];rfl
def lX {H H' H2:Xn}{v:W9}{cs:List W9}{e:TypeId}(ov:Xb H H')(h:aD H.A H' e v cs)(hn:H'.A <= H2.A)(hp:∀k,k < H'.A -> (∀g n,v ≠ .Q k g 0 n 1) -> H2.get k=H'.get k):Xb H H2 :=
  ⟨by have := ov.A;omega,fun id hid => by
    rw[hp id (by have := ov.A;omega) fun g n he => ?_,ov.nl id hid]
    rcases h with ⟨h,_⟩ |⟨i2,g2,a1,_,h,_⟩
    · rw[h]at he;cases he
    · rw[h]at he;have := W9.Q.inj he;omega⟩
def jE (n:Int)(hn:-9223372036854775808 <= n /\ n <= 9223372036854775807)(H:Xn)(K:Xd -> Xn -> Prop)(hK:K (.ret (ah (ay n.natAbs))) H):ae prog G0 89 [.lit (.int .i64 n)] H K := by
  refine ae.Z ⟨_,func89,rfl,rfl⟩ fun hcl => ?_
  refine ae.st (n := 19) (rs := [.tmp 2]) func89 ?_
  simp only[go_sem,aJ]
  refine W.aP 262137 (by rfl) (fun ρ H' => ∃(c:Int) (done:List Int),ρ 0=aa c /\ Xb H H' /\ aD H.A H' 3 (ρ 3) (ints done) /\ ay n.natAbs=done ++ ay c.natAbs /\ c.natAbs <= n.natAbs) (fun ρ H => (iv (ρ 0)).natAbs) ?_ ?_
  · simp only[go_sem,aJ]
    exact⟨n,[],rfl,.refl _,.nil,W5,O⟩
  rintro ρ H' ⟨c,done,h0,ov,h3,hd,hc⟩
  refine W.vs ?_
  by_cases hz:c=0
  · subst hz
    simp only[go_sem,h0,aJ]
    rw[show (0:Int).natAbs=0 from rfl,ik,List.append_nil]at hd
    rw[hd]at hK
    exact ar.bE aH hcl ov (h3.ie fun i hi => hi) hK
  · have hq:(c.tdiv 10000).natAbs=c.natAbs / 10000 := by rw[Wq];rfl
    have hr:(c.tmod 10000).natAbs=c.natAbs % 10000 := by rw[U6];rfl
    have w1 := SN (c.tmod 10000) (O)
    have w2 := SN (0-c.tmod 10000) (O)
    have w3 := SN (c.tdiv 10000) (O)
    have hmax:(if 0-c.tmod 10000 > c.tmod 10000 then 0-c.tmod 10000 else c.tmod 10000)=((c.natAbs % 10000:Nat):Int) := by split <;> omega
    have h5 : (ay n.natAbs).length ≤ 5 := mM (by have : (10000 : Nat) ^ 5 = 100000000000000000000 := by decide
                                                 omega)
    have hlen:done.length <= 5 := by rw[hd,List.length_append]at h5;omega
    have hdc := mL (n := c.natAbs) (O)
    obtain⟨v',H2,hA,hO,hn2,hp⟩ := iT (P := prog) (H := H') (t := 46) (x := aa (c.natAbs % 10000:Nat)) (n := H'.A + 1) Tryz.underlying46 Tryz.fm Tryz.fq rfl (by rw[Tryz.fM,aS];omega) h3 ov.A rfl
    simp only[aa]at hA
    simp only[go_sem,h0,hz,w1,w2,w3,hmax,hA]
    have ov2:Xb H H2 := lX ov h3 hn2 hp
    refine⟨ov2.A,⟨c.tdiv 10000,done ++ [((c.natAbs % 10000:Nat):Int)],rfl,ov2,?_,?_,O⟩,O⟩
    · simpa[ints,aa] using hO
    · rw[hd,hdc,hq];simp
def sy (l:List Int)(hl:Dg l)(hn:(l.length:Int) < 2 ^ 40)(H:Xn)(K:Xd -> Xn -> Prop)(hK:K (.ret (ah (ay (val l)))) H):ae prog G0 125 [ah l] H K := by
  refine ae.st (n := 21) (rs := [.tmp 2]) func125 ?_
  simp only[go_sem,aJ]
  refine W.aP 1048569 (by rfl) (fun ρ H' => H=H' /\ ∃(m:List Int),ρ 0=ah m /\ Dg m /\ val m=val l /\ m.length <= l.length) (fun ρ H => (match ρ 0 with |.M n _ => n |_ => 0)) ?_ ?_
  · simp only[go_sem,aJ]
    exact⟨l,rfl,hl,rfl,W8⟩
  rintro ρ H' ⟨rfl,m,h0,hd,hv,hm⟩
  refine W.vs ?_
  unfold ah at h0
  by_cases hz:m.length=0
  · have hm0:m = [] := S3 hz
    subst hm0
    have z1:¬(0:Int) < ((0:Nat):Int) := by omega
    simp only[go_sem,h0,zG,List.length_nil,aJ]
    rw[<- hv]at hK
    have:ay (val []) = [] := ik
    rw[this]at hK
    exact ar.mk W8 hK
  · obtain⟨a,ha⟩:∃a,m[m.length-1]? = some a := ⟨_,SP O⟩
    have hmn:¬m = [] := by rintro rfl;simp at hz
    have z1:(0:Int) < (m.length:Int) := by omega
    have w1:IntKind.i64.wrap ((m.length:Int)-1)=((m.length-1:Nat):Int) := by rw[SN _ O];omega
    have b1:((m.length-1:Nat):Int) < (m.length:Int) := by omega
    have b2:((m.length-1:Nat):Int) <= (m.length:Int) := by omega
    by_cases h0a:a=0
    · subst h0a
      simp only[go_sem,h0,z1,w1,b1,b2,ha,hmn,aJ]
      have hs:m.take (m.length-1) ++ [0]=m := by
        have h := Cy ha
        rw[Nat.sub_add_cancel O,Vi]at h
        exact h.symm
      refine⟨⟨m.take (m.length-1),?_,fun c hc => hd c (Tj hc),?_,by simp;omega⟩,O⟩
      · simp only[Td,zE];congr 1;omega
      · rw[<- hv]
        conv => rhs;rw[<- hs]
        rw[qI];simp[val]
    · simp only[go_sem,h0,z1,w1,b1,b2,ha,hmn,h0a,aJ]
      have hlast:m.getLast? = some a := by rw[List.getLast?_eq_getElem?];exact ha
      have := Cw hd fun b hb => by rw[hlast]at hb;cases hb;exact h0a
      rw[<- hv,this]at hK
      exact ar.mk W8 hK
def Cz {x y:List Int}(hx:Dg x)(hy:Dg y)(hl:x.length=y.length){k:Nat}{a b:Int}(ha:x[k]? = some a)(hb:y[k]? = some b)(he:∀j,k < j -> x[j]? = y[j]?)(hab:a < b):val x < val y := by
  have sp:∀ {l:List Int} {c:Int},l[k]? = some c -> l=l.take k ++ c :: l.drop (k + 1) := fun {l c} h => by
    have hk := (Tq.1 h).1
    have h2 := (Tq.1 h).2
    conv => lhs;rw[<- TA k l]
    rw[TI hk,h2]
  have e1:x.drop (k + 1)=y.drop (k + 1) := by
    apply Ts
    intro i
    rw[T9,T9]
    exact he _ (O)
  have hk := (Tq.1 ha).1
  have hk2 := (Tq.1 hb).1
  rw[sp ha,sp hb,qI,qI,e1]
  have l1:(x.take k).length=k := by simp;omega
  have l2:(y.take k).length=k := by simp;omega
  rw[l1,l2]
  have v1 := oh (l := x.take k) fun c hc => hx c (Tj hc)
  have v2:0 <= val (y.take k) := Uh _
  rw[l1]at v1
  have pa := hx a (an ha)
  have pb := hy b (an hb)
  simp only[val]
  have h3:10000 ^ k * (a.toNat + 10000 * val (y.drop (k + 1))) + 10000 ^ k <= 10000 ^ k * (b.toNat + 10000 * val (y.drop (k + 1))) := by
    have:a.toNat + 10000 * val (y.drop (k + 1)) + 1 <= b.toNat + 10000 * val (y.drop (k + 1)) := by omega
    calc _=10000 ^ k * (a.toNat + 10000 * val (y.drop (k + 1)) + 1) := (Nat.mul_succ _ _).symm
      _ <= _ := Ud _ this
  omega
def vk (x y:Nat)(hx:((ay x).length:Int) < 2 ^ 40)(H:Xn)(K:Xd -> Xn -> Prop)(hK:K (.ret (.lit (.int .i64 (dP x y)))) H):ae prog G0 87 [ah (ay x),ah (ay y)] H K := by
  obtain⟨p,hp⟩:∃p,p=ay x := ⟨_,rfl⟩
  obtain⟨q,hq⟩:∃q,q=ay y := ⟨_,rfl⟩
  have dx := lW x
  have dy := lW y
  have vx := jZ x
  have vy := jZ y
  have lt1:p.length < q.length -> x < y := fun h => qJ (by rw[<- hp,<- hq];exact h)
  have lt2:q.length < p.length -> y < x := fun h => qJ (by rw[<- hp,<- hq];exact h)
  rw[<- hp]at hx dx vx ⊢
  rw[<- hq]at dy vy ⊢
  refine ae.st (n := 41) (rs := [.tmp 4]) func87 ?_
  by_cases hl:(p.length:Int)=q.length
  rotate_left
  · by_cases hl2:(p.length:Int) < q.length
    · have:dP x y = -1 := by unfold dP;rw[SU (by have := lt1 O;omega)]
      rw[this]at hK
      simp only[go_sem,hl,hl2,aJ]
      exact ar.mk W8 hK
    · have := lt2 (O)
      have:dP x y=1 := by unfold dP;rw[SQ O,SQ O]
      rw[this]at hK
      simp only[go_sem,hl,hl2,aJ]
      exact ar.mk W8 hK
  have hln:p.length=q.length := by omega
  have w0 := SN ((p.length:Int)-1) (O)
  simp only[go_sem,hl,w0,aJ]
  rw[<- hl,w0]
  refine W.aP 2199022731312 (by rfl) (fun ρ H' => H=H' /\ ∃(k:Nat),ρ 5=aa ((k:Int)-1) /\ k <= p.length /\ ∀j,k <= j -> p[j]? = q[j]?) (fun ρ H => (iv (ρ 5) + 1).toNat) ?_ ?_
  · simp only[go_sem,aJ]
    exact⟨p.length,W5,W8,fun j hj => by rw[SX hj,SX O]⟩
  rintro ρ H' ⟨rfl,k,h5,hk,he⟩
  refine W.vs ?_
  by_cases hz:k=0
  · subst hz
    have z1:¬(0:Int) <= ((0:Nat):Int)-1 := by omega
    have e0:p=q := Ts fun j => he j (Uh _)
    have:x=y := by rw[<- vx,<- vy,e0]
    have:dP x y=0 := by unfold dP;rw[SQ O,SU O]
    rw[this]at hK
    simp only[go_sem,h5,z1,aJ]
    exact ar.mk W8 hK
  · obtain⟨j,rfl⟩:∃j,k=j + 1 := ⟨k-1,O⟩
    obtain⟨a,ha⟩:∃a,p[j]? = some a := ⟨_,SP O⟩
    obtain⟨b,hb⟩:∃b,q[j]? = some b := ⟨_,SP O⟩
    have hpn:¬p = [] := by rintro rfl;simp at ha
    have hqn:¬q = [] := by rintro rfl;simp at hb
    have ej:((j + 1:Nat):Int)-1=(j:Int) := by omega
    rw[ej]at h5
    have z1:(0:Int) <= (j:Int) := by omega
    have b1:(j:Int) < p.length := by omega
    have b2:(j:Int) < q.length := by omega
    have w2 := SN ((j:Int)-1) (O)
    simp only[go_sem,h5,z1,aJ]
    refine W.dr 8 [0,0,3,7,0,0,48,112] mixed ?_
    by_cases hab:a=b
    · subst hab
      simp only[go_sem,h5,z1,b1,b2,ha,hb,hpn,hqn,w2,aJ]
      exact⟨⟨j,rfl,O,fun i hi => by
        rcases Tg j i with h |h
        · exact he i (O)
        · obtain rfl:i=j := by omega
          rw[ha,hb]⟩,O⟩
    · simp only[go_sem,h5,z1,b1,b2,ha,hb,hpn,hqn,hab,aJ]
      refine W.dr 8 [0,0,3,7,0,0,48,112] mixed ?_
      by_cases hlt:a < b
      · have h1 := Cz dx dy hln ha hb (fun i hi => he i O) hlt
        rw[vx,vy]at h1
        have:dP x y = -1 := by unfold dP;rw[SU O]
        rw[this]at hK
        simp only[go_sem,h5,z1,b1,b2,ha,hb,hpn,hqn,hlt,aJ]
        exact ar.mk W8 hK
      · have h1 := Cz dy dx hln.symm hb ha (fun i hi => (he i O).symm) (O)
        rw[vx,vy]at h1
        have:dP x y=1 := by unfold dP;rw[SQ O,SQ O]
        rw[this]at hK
        simp only[go_sem,h5,z1,b1,b2,ha,hb,hpn,hqn,hlt,aJ]
        exact ar.mk W8 hK
end Go.Proofs.R01
namespace Go.Proofs.R01
open Go.Hx Tryz
def om {l:List Int}{i X:Nat}(h:l.drop i=ay X):(i<l.length↔X≠0)/\(X≠0->l[i]?=some ((X % 10000:Nat):Int))/\l.drop (i+1)=ay (X / 10000):=by
 have hl:l.length-i=(ay X).length:=by rw[<- h,TB]
 by_cases h0:X=0
 ·subst h0;rw[ik]at h hl;simp only[List.length_nil]at hl;refine⟨⟨fun h=>O,fun h=>absurd rfl h⟩,fun h=>absurd rfl h,?_⟩;rw[ik,WO.2 O]
 ·rw[mL h0]at h hl;simp only[List.length_cons]at hl;refine⟨⟨fun _=>h0,fun _=>O⟩,fun _=>?_,?_⟩
  ·have:=congrArg (fun m=>m[0]?) h;simpa[T9] using this
  ·have:=congrArg List.tail h;simpa[List.tail_drop] using this
def pq {n:Nat}{k:Nat}(h:(ay n).length<=k):n<10000 ^ k:=by
 have:=oh (lW n);rw[jZ]at this;exact SZ this (Ti W6 h)
def yJ (x y:Nat)(hxy:y<=x)(hx:(ay x).length<=200)(H:Xn)(K:Xd->Xn->Prop)(hK:K (.ret (ah (ay (x-y)))) H):ae prog G0 93 [ah (ay x),ah (ay y)] H K:=by
 refine ae.Z ⟨_,func93,rfl,rfl⟩ fun hcl=>?_;have vx:=jZ x;obtain⟨p,hp⟩:∃p,p=ay x:=⟨_,rfl⟩
 obtain⟨q,hq⟩:∃q,q=ay y:=⟨_,rfl⟩
 rw[<- hp]at hx vx ⊢;rw[<- hq];refine ae.st (n:=41) (rs:=[.tmp 4]) func93 ?_;simp only[go_sem];refine W.aP 549755813856 (by rfl) (fun ρ H'=>∃(i c X Y:Nat) (done:List Int),ρ 7=aa i/\ρ 6=aa c/\c<=1/\i<=p.length/\Xb H H'/\aD H.A H' 3 (ρ 5) (ints done)/\done.length=i/\Dg done/\p.drop i=ay X/\q.drop i=ay Y/\val done+10000 ^ i*X=(x-y)+10000 ^ i*(Y+c)) (fun ρ H=>p.length-(iv (ρ 7)).toNat) ?_ ?_
 ·simp only[go_sem];exact⟨0,0,x,y,[],rfl,rfl,O,O,.refl _,.nil,rfl,(fun c hc=>by cases hc),by simpa using hp,by simpa using hq,by simp[val];omega⟩
 rintro ρ H' ⟨i,c,X,Y,done,h7,h6,hc,hi,ov,h5,hl,hdg,hX,hY,he⟩;refine W.vs ?_;obtain⟨a1,a2,a3⟩:=om hX;obtain⟨b1,b2,b3⟩:=om hY;by_cases hb:(i:Int)<p.length;rotate_left
 ·simp only[go_sem,h7,hb];have hX0:X=0:=by
   rcases T7 X with h|h
   ·exact h
   ·have:=a1.2 O;omega
  have hv:=oh hdg;rw[hl]at hv;have hYc:Y+c=0:=by
   rcases T7 (Y+c) with h|h
   ·exact h
   ·have:10000 ^ i*1<=10000 ^ i*(Y+c):=Ud _ h;rw[hX0]at he;omega
  have hvd:val done=x-y:=by rw[hX0,hYc]at he;omega
  refine az.lM H.A (args':=[ah done]) aH rfl (fun j hj _=>match j,hj with|0,_=>h5.ie fun i hi=>hi) (sy done hdg O _ _ ⟨trivial,?_⟩);rw[hvd];have ov3:Xb H (H'.cut H.A):=ov.iO W8;simp only[go_sem];exact ar.bE aH hcl ov3 (.dC _) hK
 have hx0:X≠0:=a1.1 O;have g1:=a2 hx0;have pn:¬p=[]:=by rintro rfl;simp at hb;omega
 have w3:=SN ((i:Int)+1) O;obtain⟨d,c',hd,hd2,hc'⟩:∃d c':Nat,(d:Int)=((X % 10000:Nat):Int)-c-((Y % 10000:Nat):Int)+10000*(c':Int)/\d<=9999/\c'<=1:=by
  by_cases h:((X % 10000:Nat):Int)-c-((Y % 10000:Nat):Int)<0
  ·exact⟨(((X % 10000:Nat):Int)-c-((Y % 10000:Nat):Int)+10000).toNat,1,O,O,O⟩
  ·exact⟨(((X % 10000:Nat):Int)-c-((Y % 10000:Nat):Int)).toNat,0,O,O,O⟩
 obtain⟨v',H2,hA,hO,hn2,hpr⟩:=iT (P:=prog) (H:=H') (t:=46) (x:=aa (d:Nat)) (n:=H'.A+1) Tryz.underlying46 Tryz.fm Tryz.fq rfl (by rw[Tryz.fM,aS];omega) h5 ov.A rfl;simp only[aa]at hA;have ov2:Xb H H2:=lX ov h5 hn2 hpr;have fin:∃(i' c'' X' Y':Nat) (done':List Int),W9.lit (.int .i64 ((i:Int)+1))=aa i'/\W9.lit (.int .i64 (c':Int))=aa c''/\c''<=1/\i'<=p.length/\Xb H H2/\aD H.A H2 3 v' (ints done')/\done'.length=i'/\Dg done'/\p.drop i'=ay X'/\q.drop i'=ay Y'/\val done'+10000 ^ i'*X'=(x-y)+10000 ^ i'*(Y'+c''):=by
  refine⟨i+1,c',X / 10000,Y / 10000,done++[(d:Int)],by simp[aa],rfl,hc',O,ov2,by simpa[ints,aa] using hO,by simp[hl],fun z hz=>?_,a3,b3,?_⟩
  ·rcases Tk.1 hz with hz|hz
   ·exact hdg z hz
   ·obtain rfl:=List.mem_singleton.1 hz;omega
  ·rw[qI,hl,T6];have e:d+10000*(X / 10000)+(Y+c)=X+10000*(Y / 10000+c'):=O;have e2:=congrArg (10000 ^ i*·) e;simp only[Vl,val,Int.toNat_natCast,Nat.mul_zero,Nat.add_zero,UI]at e2 he ⊢;generalize 10000 ^ i*d=P1 at *
   generalize 10000 ^ i*(10000*(X / 10000))=P2 at *
   generalize 10000 ^ i*Y=P3 at *
   generalize 10000 ^ i*c=P4 at *
   generalize 10000 ^ i*X=P5 at *
   generalize 10000 ^ i*(10000*(Y / 10000))=P6 at *
   generalize 10000 ^ i*(10000*c')=P7 at *
   omega
 have w4:=SN (((X % 10000:Nat):Int)-(c:Int)) O;have w5:=SN (((X % 10000:Nat):Int)-(c:Int)-((Y % 10000:Nat):Int)) O;by_cases hy0:Y=0
 ·have n2:¬(i:Int)<q.length:=by have:=fun h=>b1.1 h;omega
  by_cases hneg:((X % 10000:Nat):Int)-(c:Int)<0
  ·obtain rfl:c'=1:=O;have ed:((X % 10000:Nat):Int)-(c:Int)+10000=(d:Int):=O;have w6:=SN (d:Int) O;simp only[go_sem,h7,h6,hb,n2,g1,pn,w4,hneg,ed,w6,w3,hA];exact⟨ov2.A,fin,O⟩
  ·obtain rfl:c'=0:=O;have ed:((X % 10000:Nat):Int)-(c:Int)=(d:Int):=O;rw[ed]at hneg w4;simp only[go_sem,h7,h6,hb,n2,g1,pn,ed,w4,hneg,w3,hA];exact⟨ov2.A,fin,O⟩
 ·have n2:(i:Int)<q.length:=by have:=b1.2 hy0;omega
  have g2:=b2 hy0;have qn:¬q=[]:=by rintro rfl;simp at n2;omega
  by_cases hneg:((X % 10000:Nat):Int)-(c:Int)-((Y % 10000:Nat):Int)<0
  ·obtain rfl:c'=1:=O;have ed:((X % 10000:Nat):Int)-(c:Int)-((Y % 10000:Nat):Int)+10000=(d:Int):=O;have w6:=SN (d:Int) O;simp only[go_sem,h7,h6,hb,n2,g1,g2,pn,qn,w4,w5,hneg,ed,w6,w3,hA];exact⟨ov2.A,fin,O⟩
  ·obtain rfl:c'=0:=O;have ed:((X % 10000:Nat):Int)-(c:Int)-((Y % 10000:Nat):Int)=(d:Int):=O;rw[ed]at hneg w5;simp only[go_sem,h7,h6,hb,n2,g1,g2,pn,qn,w4,ed,w5,hneg,w3,hA];exact⟨ov2.A,fin,O⟩
end Go.Proofs.R01
namespace Go.Proofs.R01
open Go.Hx Tryz
variable {l:List Int}
def gU {k:Nat}(v:Int)(h:k<l.length):setAt (ints l) k [.lit (.int .i64 v)]=ints (l.set k v):=by
 unfold setAt ints;rw[Vo,V4,SU (by simpa using h)];simp[aa]
theorem yK:∀ {l:List Int} {j:Nat} {a:Int} (v:Int),l[j]?=some a->val (l.set j v)+10000 ^ j*a.toNat=val l+10000 ^ j*v.toNat
 |b :: l,0,a,v,h=>by
  simp only[List.getElem?_cons_zero,Option.some.injEq]at h;subst h;simp only[List.set_cons_zero,val,Wc,UV];omega
 |b :: l,j+1,a,v,h=>by
  simp only[List.getElem?_cons_succ]at h;have ih:=yK (l:=l) v h;simp only[List.set_cons_succ,val,T6];have e1:10000 ^ j*10000*a.toNat=10000*(10000 ^ j*a.toNat):=by ac_rfl
  have e2:10000 ^ j*10000*v.toNat=10000*(10000 ^ j*v.toNat):=by ac_rfl
  rw[e1,e2];omega
def CA {i:Nat}{a:Int}(h:l[i]?=some a):val (l.take (i+1))=val (l.take i)+10000 ^ i*a.toNat:=by
 have hi:=(Tq.1 h).1;rw[Cy h,qI,Td,U0 O];simp[val]
def CB (p q:List Int)(hp:Dg p)(hq:∀c,c∈q->0<=c/\c<=10000)(hqv:val q<=10000 ^ q.length)(lp:p.length<=200)(lq:q.length<=200)(H:Xn)(K:Xd->Xn->Prop)(hK:K (.ret (ah (ay (val p*val q)))) H):ae prog G0 91 [ah p,ah q] H K:=by
 refine ae.Z ⟨_,func91,rfl,rfl⟩ fun hcl=>?_;have w0:=SN ((p.length:Int)+(q.length:Int)) O;refine ae.st (n:=65) (rs:=[.tmp 4]) func91 ?_;simp only[go_sem,w0];obtain⟨L,hL⟩:∃L,L=p.length+q.length:=⟨_,rfl⟩
 have eL:((p.length:Int)+(q.length:Int)).toNat=L:=O
 have eL2:(p.length:Int)+(q.length:Int)=(L:Int):=O
 rw[eL,eL2];have eR:List.replicate L (W9.lit (.int .i64 0))=ints (List.replicate L 0):=by simp[ints,aa]
 rw[eR];refine⟨⟨O,O,O⟩,?_⟩;have dr:Dg (List.replicate L 0):=fun c hc=>by obtain⟨_,rfl⟩:=List.mem_replicate.1 hc;omega
 refine W.aP 9223372036854743488 (by rfl) (fun ρ H'=>∃(i:Nat) (o:List Int),ρ 6=aa i/\i<=p.length/\H'=ext H [.J 0 3 (ints o)]/\Dg o/\o.length=L/\val o=val (p.take i)*val q) (fun ρ H=>p.length-(iv (ρ 6)).toNat) ?_ ?_
 ·simp only[go_sem];exact⟨0,_,rfl,O,rfl,dr,W5,by simp[OI,val]⟩
 rintro ρ H' ⟨i,o,h6,hi,rfl,ho,hol,hv⟩;refine W.vs ?_;by_cases hb:(i:Int)<p.length;rotate_left
 ·simp only[go_sem,h6,hb];have hO:aD H.A (ext H [.J 0 3 (ints o)]) 3 (.Q H.A 0 0 L 1) (ints o):=.inr ⟨H.A,0,W8,by simp[aX],by rw[aS,hol],cV _ _ _⟩;refine az.lM H.A (args':=[ah o]) aH rfl (fun j hj _=>match j,hj with|0,_=>hO.ie fun i hi=>hi) (sy o ho O _ _ ⟨trivial,?_⟩);rw[hv,SR O];have ov3:Xb H ((ext H [.J 0 3 (ints o)]).cut H.A):=(Xb.ext _ _).iO W8;simp only[go_sem];exact ar.bE aH hcl ov3 (.dC _) hK
 obtain⟨a,ha⟩:∃a,p[i]?=some a:=⟨_,SP O⟩
 have ha9:=hp a (an ha);obtain⟨A,rfl⟩:=S5 ha9.1;have pn:¬p=[]:=by rintro rfl;simp at ha
 have vt:=CA ha;rw[Int.toNat_natCast]at vt;have w1:=SN ((i:Int)+1) O;simp only[go_sem,h6,hb];refine W.aP 9223372036852679040 (by rfl) (fun ρ' H'=>∃(k c:Nat) (o2:List Int),ρ' 8=aa k/\ρ' 7=aa c/\c<=10000/\k<=L/\H'=ext H [.J 0 3 (ints o2)]/\Dg o2/\o2.length=L/\val o2+10000 ^ (i+k)*c=val (p.take i)*val q+10000 ^ i*(A*val (q.take k))) (fun ρ' H=>L-(iv (ρ' 8)).toNat) ?_ ?_
 ·simp only[go_sem];exact⟨0,0,o,rfl,rfl,O,O,rfl,ho,hol,by simp[val,hv]⟩
 rintro ρ' H' ⟨k,c,o2,h8,h7,hc,hk,rfl,ho2,hol2,hv2⟩;refine W.vs ?_;by_cases hend:¬k<q.length/\c=0
 ·obtain⟨hk2,rfl⟩:=hend;have n1:¬(k:Int)<q.length:=O
  have n2:¬(0:Int)<((0:Nat):Int):=O
  simp only[go_sem,h8,h7,n1,h6,w1];refine⟨⟨i+1,o2,W5,O,rfl,ho2,hol2,?_⟩,O⟩;rw[SR (l:=q) (i:=k) O]at hv2;rw[vt,TJ];simp only[Nat.mul_zero,Nat.add_zero]at hv2;rw[hv2,UI]
 have hik:i+k<L:=by
  by_cases hkq:k<q.length
  ·omega
  ·have hc1:1<=c:=O;rw[SR (l:=q) (i:=k) O]at hv2;have e:val (p.take i)*val q+10000 ^ i*(A*val q)=val (p.take (i+1))*val q:=(by rw[vt,TJ,UI]);rw[e]at hv2;have b1:val (p.take (i+1))<10000 ^ (i+1):=by
    have:=oh (l:=p.take (i+1)) fun c hc=>hp c (Tj hc)
    rwa [Td,U0 O]at this
   have b2:val (p.take (i+1))*val q<10000 ^ (i+1)*10000 ^ q.length:=by
    have p0:0<10000 ^ q.length:=WT (W6)
    calc val (p.take (i+1))*val q<=val (p.take (i+1))*10000 ^ q.length:=Ud _ hqv
     _<10000 ^ (i+1)*10000 ^ q.length:=Nat.mul_lt_mul_of_pos_right b1 p0
   rw[<- WU]at b2;have b3:10000 ^ (i+k)*1<=10000 ^ (i+k)*c:=Ud _ hc1;have b4:10000 ^ (i+k)<10000 ^ (i+1+q.length):=O;have:=(Nat.pow_lt_pow_iff_right (by decide:1<10000)).1 b4;omega
 obtain⟨b,hbk⟩:∃b,o2[i+k]?=some b:=⟨_,SP O⟩
 have hb9:=ho2 b (an hbk);obtain⟨B,rfl⟩:=S5 hb9.1;have o2n:¬o2=[]:=by rintro rfl;simp at hbk
 have w2:=SN ((i:Int)+(k:Int)) O;have w3:=SN ((k:Int)+1) O;have eik:(i:Int)+(k:Int)=((i+k:Nat):Int):=O
 rw[eik]at w2;have bik:((i+k:Nat):Int)<(L:Int):=O
 have w4:=SN ((c:Int)+(B:Int)) O;by_cases hkq:k<q.length
 ·obtain⟨d,hdk⟩:∃d,q[k]?=some d:=⟨_,SP O⟩
  have hd9:=hq d (an hdk);obtain⟨D,rfl⟩:=S5 hd9.1;have qn:¬q=[]:=by rintro rfl;simp at hdk
  have n1:(k:Int)<q.length:=O
  have mAD:A*D<=9999*10000:=VO O O;have cAD:(A:Int)*(D:Int)=((A*D:Nat):Int):=(Vr _ _).symm;obtain⟨t,ht⟩:∃t,t=c+B+A*D:=⟨_,rfl⟩
  have et:(c:Int)+(B:Int)+((A*D:Nat):Int)=(t:Int):=O
  have w5:=SN ((A*D:Nat):Int) O;have w6:=SN (t:Int) O;have tm:((t:Int)).tmod 10000=((t % 10000:Nat):Int):=by rw[TD O];rfl
  have td:((t:Int)).tdiv 10000=((t / 10000:Nat):Int):=by rw[TM O];rfl
  have w7:=SN ((t % 10000:Nat):Int) O;have w8:=SN ((t / 10000:Nat):Int) O;have hs:=yK ((t % 10000:Nat):Int) hbk;rw[Int.toNat_natCast,Int.toNat_natCast]at hs;have vq:=CA hdk;rw[Int.toNat_natCast]at vq;have fin:∃(k' c':Nat) (o3:List Int),W9.lit (.int .i64 ((k:Int)+1))=aa k'/\W9.lit (.int .i64 ((t / 10000:Nat):Int))=aa c'/\c'<=10000/\k'<=L/\ext H [.J 0 3 (ints (o2.set (i+k) ((t % 10000:Nat):Int)))]=ext H [.J 0 3 (ints o3)]/\Dg o3/\o3.length=L/\val o3+10000 ^ (i+k')*c'=val (p.take i)*val q+10000 ^ i*(A*val (q.take k')):=by
   refine⟨k+1,t / 10000,_,by simp[aa],rfl,O,O,rfl,fun z hz=>?_,by simp[hol2],?_⟩
   ·rcases TG hz with h|h
    ·exact ho2 z h
    ·omega
   ·rw[vq,<- UJ,T6];have e1:t=t % 10000+10000*(t / 10000):=O;have e2:=congrArg (10000 ^ (i+k)*·) (show c+B+A*D=t % 10000+10000*(t / 10000) by omega);have e3:10000 ^ i*(A*(val (q.take k)+10000 ^ k*D))=10000 ^ i*(A*val (q.take k))+10000 ^ (i+k)*(A*D):=by
     rw[Vl,Vl,WU];congr 1
     ac_rfl
    rw[e3];simp only[Vl,UI]at e2 hv2 hs ⊢;omega
  simp only[go_sem,h8,h7,n1,h6,w2,w4,eik,bik,hbk];refine W.dr 10 [0,0,0,6,14,0,0,96,224,510] mixed ?_;simp only[go_sem,h8,h7,n1,h6,w2,eik,bik,ha,hdk,pn,qn,hb,cAD,w5,et,w6];rw[w3,td,w8,tm,gU _ O];exact⟨O,fin,O⟩
 ·have n1:¬(k:Int)<q.length:=O
  have n2:(0:Int)<(c:Int):=O
  obtain⟨t,ht⟩:∃t,t=c+B:=⟨_,rfl⟩
  have et:(c:Int)+(B:Int)=(t:Int):=O
  have w6:=SN (t:Int) O;have tm:((t:Int)).tmod 10000=((t % 10000:Nat):Int):=by rw[TD O];rfl
  have td:((t:Int)).tdiv 10000=((t / 10000:Nat):Int):=by rw[TM O];rfl
  have w7:=SN ((t % 10000:Nat):Int) O;have w8:=SN ((t / 10000:Nat):Int) O;have hs:=yK ((t % 10000:Nat):Int) hbk;rw[Int.toNat_natCast,Int.toNat_natCast]at hs;have fin:∃(k' c':Nat) (o3:List Int),W9.lit (.int .i64 ((k:Int)+1))=aa k'/\W9.lit (.int .i64 ((t / 10000:Nat):Int))=aa c'/\c'<=10000/\k'<=L/\ext H [.J 0 3 (ints (o2.set (i+k) ((t % 10000:Nat):Int)))]=ext H [.J 0 3 (ints o3)]/\Dg o3/\o3.length=L/\val o3+10000 ^ (i+k')*c'=val (p.take i)*val q+10000 ^ i*(A*val (q.take k')):=by
   refine⟨k+1,t / 10000,_,by simp[aa],rfl,O,O,rfl,fun z hz=>?_,by simp[hol2],?_⟩
   ·rcases TG hz with h|h
    ·exact ho2 z h
    ·omega
   ·rw[SR (l:=q) (i:=k) O]at hv2;rw[SR (l:=q) (i:=k+1) O,<- UJ,T6];have e2:=congrArg (10000 ^ (i+k)*·) (show c+B=t % 10000+10000*(t / 10000) by omega);simp only[Vl,UI]at e2 hv2 hs ⊢;omega
  simp only[go_sem,h8,h7,n1,n2,h6,w2,eik,bik,hbk,et,w6,hol2];rw[w3,td,w8,tm,gU _ O];exact⟨O,fin,O⟩
end Go.Proofs.R01
namespace Go.Proofs.R01
open Go.Hx Tryz
variable {N k n y:Nat}
def qK (x y:Nat)(hx:(ay x).length<=200)(hy:(ay y).length<=200)(H:Xn)(K:Xd->Xn->Prop)(hK:K (.ret (ah (ay (x*y)))) H):ae prog G0 91 [ah (ay x),ah (ay y)] H K :=
 CB (ay x) (ay y) (lW x) (fun c hc=>by have:=lW y c hc;omega) (Vy (oh (lW y))) hx hy H K (by rw[jZ,jZ];exact hK)
def OJ (x d:Nat)(hd:d<=10000)(hx:(ay x).length<=200)(H:Xn)(K:Xd->Xn->Prop)(hK:K (.ret (ah (ay (x*d)))) H):ae prog G0 91 [ah (ay x),ah [(d:Int)]] H K:=by
 have e:val [(d:Int)]=d:=by simp[val]
 refine CB (ay x) [(d:Int)] (lW x) (fun c hc=>?_) (by rw[e];simpa using hd) hx W5 H K (by rw[jZ,e];exact hK);obtain rfl:=List.mem_singleton.1 hc;omega
theorem sA (n:Nat):∀k:Nat,(ay n).drop k=ay (n / 10000 ^ k)
 |0=>W5
 |k+1=>by
  have h:=(om (sA n k)).2.2;rw[h,T6,Vs]
def vm (h:k<(ay n).length):(ay n)[k]?=some ((n / 10000 ^ k % 10000:Nat):Int):=(om (sA n k)).2.1 ((om (sA n k)).1.1 h)
def CC (h:¬k<(ay n).length):n / 10000 ^ k=0:=by
 rcases T7 (n / 10000 ^ k) with h0|h0
 ·exact h0
 ·exact absurd ((om (sA n k)).1.2 O) h
def OK {P:Nat}(hP:0<P)(ht:0<y / P):N / y<=N / P / (y / P):=by
 rw[U1 ht,U1 hP]
 calc N / y*(y / P)*P=N / y*(y / P*P):=UI ..
  _<=N / y*y:=Ud _ (VD _ _)
  _<=N:=VD _ _
def OL {P:Nat}(hP:0<P)(hy:0<y):N / P / (y / P+1)<=N / y:=by
 rw[U1 hy];have h1:y<=(y / P+1)*P:=by
  have:=WV y hP;rw[UB]at this;omega
 calc N / P / (y / P+1)*y<=N / P / (y / P+1)*((y / P+1)*P):=Ud _ h1
  _=N / P / (y / P+1)*(y / P+1)*P:=(UI ..).symm
  _<=N / P*P:=Tr _ (VD _ _)
  _<=N:=VD _ _
def OM (hN:N<10000*y)(hy:10000 ^ n<=y):N / 10000 ^ (n-1) / (y / 10000 ^ (n-1))<=10000:=by
 have hP:0<10000 ^ (n-1):=WT W6;rcases T7 n with h0|h0
 ·subst h0;have hy0:0<y:=by simp at hy;omega
  simp only[Nat.zero_sub,Wc,WW];exact Vy (Uz (by rw[UB];exact hN))
 ·have ht:10000<=y / 10000 ^ (n-1):=by
   rw[U1 hP];have:10000*10000 ^ (n-1)=10000 ^ n:=(by rw[UB,<- T6];congr 1;omega);omega
  generalize 10000 ^ (n-1)=P at *
  refine UC (Uz ?_);refine Uz ?_;have h1:=WV y hP;generalize y / P=T at *
  have h2:P*(T+1)*10000<=P*(T*10001):=by
   rw[UI];exact Ud _ (O)
  have h3:y<P*(T+1):=h1;generalize P*(T+1)=Z at *
  generalize hW:P*(T*10001)=W at *
  have h4:N<W:=O
  first|exact h4|(rw[<- hW]at h4;simpa[UB,Nat.mul_left_comm,UI] using h4)
def ON {X a Q R:Nat}(hX:X=y*Q+R)(hR:R<y):(a+10000*X) / y=10000*Q+(a+10000*R) / y/\(a+10000*X) % y=(a+10000*R) % y:=by
 have e:a+10000*X=(a+10000*R)+y*(10000*Q):=by
  rw[hX,Vl];have:10000*(y*Q)=y*(10000*Q):=by ac_rfl
  omega
 rw[e,Nat.add_mul_div_left _ _ O,Nat.add_mul_mod_self_left];exact⟨Nat.add_comm _ _,rfl⟩
end Go.Proofs.R01
namespace Go.Proofs.R01
open Go.Hx Tryz
variable {a b:Int}
def CD (h:a<=b):dP a b<=0:=by
 unfold dP;split
 ·omega
 ·split<;>omega
def CE (h:b<a):¬dP a b<=0:=by
 unfold dP;split
 ·omega
 ·split<;>omega
def yL (x y:Nat)(hy:y≠0)(hx:(ay x).length<=100)(hyl:(ay y).length<=100)(H:Xn)(K:Xd->Xn->Prop)(hK:K (.ret (.na [ah (ay (x / y)),ah (ay (x % y))])) H):ae prog G0 123 [ah (ay x),ah (ay y)] H K:=by
 refine ae.Ju ⟨_,func123,rfl,rfl⟩ fun hcl hbel=>?_;obtain⟨p,hp⟩:∃p,p=ay x:=⟨_,rfl⟩
 obtain⟨q,hq⟩:∃q,q=ay y:=⟨_,rfl⟩
 have hqn:q.length≠0:=by intro h;exact hy (yI.1 (by rw[<- hq];exact S3 h))
 obtain⟨n,hn⟩:∃n,q.length=n+1:=⟨q.length-1,O⟩
 have ylb:=Cx y hy;have yub:=pq (n:=y) (k:=n+1) (by rw[<- hq,hn];exact Nat.le_refl _);rw[<- hq,hn,Uk]at ylb;have hx1:=hx;have hy1:=hyl;rw[<- hp]at hx;rw[<- hq]at hyl;have w1:=SN ((q.length:Int)-1) O;have en:(q.length:Int)-1=(n:Int):=O
 rw[en]at w1;rw[<- hp,<- hq]at hbel ⊢;have rep0:∀v:W9,List.replicate 0 v=[]:=fun _=>rfl;refine ae.st (n:=124) (rs:=[.tmp 4,.tmp 5]) func123 ?_;by_cases hs:(p.length:Int)<=(n:Int)
 ·have hlt:x<y:=qJ (by rw[<- hp,<- hq];omega);rw[Ux hlt,Vh hlt,ik,<- hp]at hK;obtain⟨v',H3,hA,hO,hn3,hpr⟩:=uE (P:=prog) (H:=ext H [.J 0 3 []]) (t:=46) (lo:=H.A) (n:=H.A+1) (v:=.Q H.A 0 0 0 1) (cs:=[]) (src:=ints p) Tryz.underlying46 Tryz.fm Tryz.fq (lK p) (by rw[Tryz.fM,aS];simp;omega) (.inr ⟨H.A,0,W8,by simp[aX],rfl,cV _ _ _⟩) (by simp[aX]) (by simp[aX]);rw[aS]at hA;have ov3:Xb H H3:=⟨by simp only[aX]at hn3;omega,fun id hid=>by
   rw[hpr id (by simp only[aX];omega) fun g n he=>by have:=W9.Q.inj he;omega,bQ hid]⟩
  simp only[go_sem,en,w1,hs,rep0,hA];refine ar.bE (v':=.na [ah [],ah p]) aH hcl ov3 (.na rfl fun i hi _=>?_) hK
  match i,hi with
  |0,_=>exact .nil
  |1,_=>exact hO.ie fun i hi=>hi
 ·have w2:=SN ((p.length:Int)-(n:Int)) O;obtain⟨m,hm⟩:∃m,p.length=n+m/\1<=m:=⟨p.length-n,O,O⟩
  have em:(p.length:Int)-(n:Int)=(m:Int):=O
  rw[em]at w2;have w3:=SN ((m:Int)-1) O;have esub:p.length-m=n:=O
  have ede:List.take n (List.drop m (ints p))=ints (p.drop m):=by rw[zF];exact SR (by rw[aS,TB];omega)
  have mle:(m:Int)<=(p.length:Int):=O
  have dl:(p.drop m).length=n:=by simp;omega
  have eR:List.replicate m (W9.lit (.int .i64 0))=ints (List.replicate m 0):=by simp[ints,aa]
  obtain⟨v',H3,hA,hO,hn3,hpr⟩:=uE (P:=prog) (H:=ext H [.J 0 3 (ints (List.replicate m 0)),.J 0 3 []]) (t:=46) (lo:=H.A+1) (n:=H.A+2) (v:=.Q (H.A+1) 0 0 0 1) (cs:=[]) (src:=ints (p.drop m)) Tryz.underlying46 Tryz.fm Tryz.fq (lK _) (by rw[Tryz.fM,aS];simp;omega) (.inr ⟨H.A+1,0,W8,by simp[aX],rfl,bL H _ 1 W5⟩) (by show H.A+1<=H.A+2;omega) rfl;rw[aS,dl]at hA;simp only[aX,List.length_cons,List.length_nil]at hn3 hpr;obtain⟨Hq,hHq⟩:∃Hq,Hq=ext H [.J 0 3 (ints (List.replicate m 0))]:=⟨_,rfl⟩
  have nq:Hq.A=H.A+1:=hHq▸rfl
  have clq:XN Hq:=by
   rw[hHq];refine OX hcl fun b hb=>?_;obtain rfl:=List.mem_singleton.1 hb;exact OY fun c hc=>by obtain⟨x,_,rfl⟩:=S4.1 hc;exact⟨_,rfl⟩
  have gq:Hq.get H.A=some (.J 0 3 (ints (List.replicate m 0))):=by rw[hHq];exact cV _ _ _
  have ovq:Xb H Hq:=by rw[hHq];exact Xb.ext _ _
  have ov3:Xb Hq H3:=⟨O,fun id hid=>by
   rw[hpr id O fun g n he=>by have:=W9.Q.inj he;omega];by_cases h:id=H.A
   ·subst h;rw[gq,cV]
   ·rw[cP _ _ _ O,ovq.nl _ O]⟩
  have n3:=ov3.A;have hvF:Fz (fun id=>Hq.A<=id) H3 H3.A v' (ah (p.drop m)):=hO.ie fun i hi=>O
  have hbq:∀v,v∈[ah p,ah q]->Below Hq.A v:=fun v hv=>(hbel v hv).mono O;have h37:Fz (fun id=>Hq.A<=id) H3 H3.A (.M n (ints (p.drop m))) (.M n (ints (p.drop m))):=by rw[<- dl];exact .dC _
  have gq3:=(ov3.nl H.A O).trans gq;have lq3:=af gq3;simp only[go_sem,en,w1,hs,em,w2,rep0,mle,esub,ede,eR,hA,w3,lq3];refine⟨⟨O,O⟩,?_⟩;apply W.KZ (H:=Hq) aH clq ov3
  ·repeat first|exact Fz.K2 hbq O|(apply Fz.K0;· first|exact .lit _|assumption|exact .dC _|exact .R O O|exact .Q O O|exact .deadOwn O (by show Hq.A<=_;omega))
  ·trivial
  obtain⟨Hg,hHg⟩:∃Hg,Hg=jf Hq (H3.A-Hq.A):=⟨_,rfl⟩
  rw[<- hHg];have hog:Xb Hq Hg:=by rw[hHg];exact .jf _ _
  have ng:=hog.A;have hgg:=(hog.nl H.A O).trans gq;have pdm:p.drop m=ay (x / 10000 ^ m):=by rw[hp];exact sA x m
  have xlt:x / 10000 ^ m<y:=qJ (by rw[<- pdm,dl,<- hq];omega);refine W.env fun E hE=>?_;have e0:E 0=ah p:=by rw[hE];rfl
  have e1:E 1=ah q:=by rw[hE];rfl
  have e6:E 6=aa n:=by rw[hE];rfl
  have e7:E 7=.Q H.A 0 0 m 1:=by rw[hE];rfl
  have e8:E 8=ah (p.drop m):=by rw[hE];rfl
  have e9:E 9=aa ((m:Int)-1):=by rw[hE];rfl
  clear hE;refine W.aP 2658455991569831745807609722514243328 (by rfl) (fun ρ H'=>∃(j:Nat) (qs:List Int),ρ 9=aa ((j:Int)-1)/\j<=m/\Xb H H'/\Hg.A<=H'.A/\H'.get H.A=some (.J 0 3 (ints qs))/\qs.length=m/\Dg qs/\val (qs.drop j)=x / 10000 ^ j / y/\ρ 8=ah (ay (x / 10000 ^ j % y))) (fun ρ H=>(iv (ρ 9)+1).toNat) ?_ ?_
  ·simp only[go_sem,e9,e8];refine⟨m,List.replicate m 0,W5,O,ovq.trans hog,hgg,W5,fun c hc=>by obtain⟨_,rfl⟩:=List.mem_replicate.1 hc;omega,?_,?_⟩
   ·rw[Ux xlt,WO.2 W5];rfl
   ·rw[Vh xlt,<- pdm]
  rintro ρ H' ⟨j,qs,h9,hj,ov,hnx,hg,hql,hqd,hv,h8⟩;refine W.vs ?_;have lq:=af hg;by_cases hz:j=0
  ·subst hz;have z1:¬(0:Int)<=((0:Nat):Int)-1:=O;simp only[Wc,WW,List.drop_zero]at hv h8;simp only[go_sem,h9,e7];have hO2:aD H.A H' 3 (.Q H.A 0 0 m 1) (ints qs):=.inr ⟨H.A,0,W8,O,by rw[aS,hql],hg⟩;refine az.lM H.A (args':=[ah qs]) aH rfl (fun j hj _=>match j,hj with|0,_=>hO2.ie fun i hi=>hi) (sy qs hqd O _ _ ⟨trivial,?_⟩);rw[hv];simp only[go_sem,h8];have ovc:Xb H (H'.cut H.A):=ov.iO W8;refine ar.bE (v':=.na [ah (ay (x / y)),ah (ay (x % y))]) aH hcl ovc (.na rfl fun i hi _=>?_) hK
   match i,hi with
   |0,_=>exact .dC _
   |1,_=>exact .dC _
  obtain⟨i,rfl⟩:∃i,j=i+1:=⟨j-1,O⟩
  have ei:((i+1:Nat):Int)-1=(i:Int):=O
  rw[ei]at h9;have z1:(0:Int)<=(i:Int):=O
  obtain⟨R,hR⟩:∃R,R=x / 10000 ^ (i+1) % y:=⟨_,rfl⟩
  rw[<- hR]at h8;have hRy:R<y:=by rw[hR];exact Va _ (O)
  have hil:i<p.length:=O
  obtain⟨a,ha⟩:∃a,a=x / 10000 ^ i % 10000:=⟨_,rfl⟩
  have hpi:p[i]?=some ((a:Nat):Int):=by rw[ha,hp];exact vm (by rw[<- hp];exact hil)
  have pn:¬p=[]:=by rintro rfl;simp at hil
  have bil:(i:Int)<p.length:=O
  obtain⟨N,hN⟩:∃N,N=a+10000*R:=⟨_,rfl⟩
  have yup:y<10000 ^ (n+1):=yub;have rlen:(ay R).length<=n+1:=mM O;have hNy:N<10000*y:=O
  have hN2:N<10000 ^ (n+2):=by
   have:10000 ^ (n+2)=10000*10000 ^ (n+1):=(by rw[T6,UB]);omega
  have nlen:(ay N).length<=n+2:=mM hN2;obtain⟨v',H3,hA,hO,hn3,hpr⟩:=uE (P:=prog) (H:=ext H' [.J 0 3 [.lit (.int .i64 (a:Int))]]) (t:=46) (lo:=H'.A) (n:=H'.A+1) (v:=.Q H'.A 0 0 1 1) (cs:=ints [(a:Int)]) (src:=ints (ay R)) Tryz.underlying46 Tryz.fm Tryz.fq (lK _) (by rw[Tryz.fM,aS,aS,TR];omega) (.inr ⟨H'.A,0,W8,by simp[aX],rfl,cV _ _ _⟩) (by simp[aX]) (by simp[aX]);rw[aS]at hA;have ov3:Xb H' H3:=⟨by simp only[aX]at hn3;omega,fun id hid=>by
   rw[hpr id (by simp only[aX];omega) fun g n he=>by have:=W9.Q.inj he;omega,bQ hid]⟩
  have hcd:Dg ((a:Int) :: ay R):=fun c hc=>by
   rcases List.mem_cons.1 hc with rfl|hc
   ·omega
   ·exact lW R c hc
  have hcv:val ((a:Int) :: ay R)=N:=by rw[val,jZ,hN];simp
  simp only[go_sem,h9,z1,h8,e0,hpi,pn,bil,hA];refine az.lM H'.A (args':=[ah ((a:Int) :: ay R)]) aH rfl (fun j hj _=>match j,hj with|0,_=>hO.ie fun i hi=>hi) (sy _ hcd (by rw[List.length_cons];omega) _ _ ⟨trivial,?_⟩);rw[hcv];have ovc:Xb H' (H3.cut H'.A):=ov3.cut;obtain⟨Hc,hHc⟩:∃Hc,Hc=H3.cut H'.A:=⟨_,rfl⟩
  rw[<- hHc]at ovc ⊢;clear hHc;have w4:=SN ((n:Int)+1) O;simp only[go_sem,e6,w4];have gqc:=(ovc.nl H.A O).trans hg;have nc:=ovc.A;refine W.env fun E2 hE2=>?_;have f0:E2 0=ah p:=by rw[hE2];exact e0
  have f1:E2 1=ah q:=by rw[hE2];exact e1
  have f6:E2 6=aa n:=by rw[hE2];exact e6
  have f7:E2 7=.Q H.A 0 0 m 1:=by rw[hE2];exact e7
  have f8:E2 8=ah (ay N):=by rw[hE2];rfl
  have f9:E2 9=aa (i:Int):=by rw[hE2];exact h9
  have f10:E2 10=aa 0:=by rw[hE2];rfl
  have f11:E2 11=aa 0:=by rw[hE2];rfl
  have f12:E2 12=aa ((n:Int)+1):=by rw[hE2];rfl
  clear hE2;have hqy:q=ay y:=hq;have emax:(if (n:Int)-1 > 0 then (n:Int)-1 else 0)=((n-1:Nat):Int):=by split<;>omega
  have w5:=SN ((n:Int)-1) O;have yk2:y / 10000 ^ (n+2)=0:=Ux (by rw[T6];omega);have Nk2:N / 10000 ^ (n+2)=0:=Ux hN2;have cube:∀z k:Nat,z<10000 ^ (n+2)->n-1<=k->z / 10000 ^ k<1000000000000:=fun z k hz hk=>by
   refine Uz (SZ hz ?_);rw[show (1000000000000:Nat)=10000 ^ 3 by decide,<- WU];exact Ti W6 (O)
  have hy2:y<10000 ^ (n+2):=by rw[T6];omega
  refine W.aP 38685626155610539552676864 (by rfl) (fun ρ' H2=>∃k F T:Nat,ρ' 12=aa ((k:Int)-1)/\n-1<=k/\k<=n+2/\H2=Hc/\ρ' 11=aa F/\ρ' 10=aa T/\F=N / 10000 ^ k/\T=y / 10000 ^ k) (fun ρ' H=>(iv (ρ' 12)+1).toNat) ?_ ?_
  ·simp only[go_sem,f12,f11,f10];exact⟨n+2,0,0,by simp;omega,O,O,rfl,rfl,Nk2.symm,yk2.symm⟩
  rintro ρ' H2 ⟨k,F,T,g12,hk1,hk2,rfl,g11,g10,hF,hT⟩;refine W.vs ?_;by_cases hke:k=n-1
  ·have z2:¬((n-1:Nat):Int)<=((n-1:Nat):Int)-1:=O;rw[hke]at g12;simp only[go_sem,g12,f6,w5,emax,z2];rw[hke]at hF hT;have hP:0<10000 ^ (n-1):=WT W6;have hT0:0<T:=by
    rw[hT];refine Nat.div_pos ?_ hP;exact Tw (Ti W6 O) ylb
   have cF:=cube N (n-1) hN2 O;have cT:=cube y (n-1) hy2 O;have qhi:N / y<=F / T:=(by rw[hF,hT];exact OK hP (by rw[<- hT];exact hT0));have qlo:F / (T+1)<=N / y:=(by rw[hF,hT];exact OL hP O);have qcap:F / T<=10000:=(by rw[hF,hT];exact OM hNy ylb);rw[<- hF]at cF;rw[<- hT]at cT;have w6:=SN ((T:Int)+1) O;obtain⟨lo,hlo⟩:∃lo,lo=F / (T+1):=⟨_,rfl⟩
   obtain⟨hi,hhi⟩:∃hi,hi=F / T:=⟨_,rfl⟩
   have t1:((F:Int)).tdiv ((T:Int)+1)=(lo:Int):=(by rw[TM O,hlo];rfl);have t2:((F:Int)).tdiv (T:Int)=(hi:Int):=(by rw[TM O,hhi];rfl);rw[<- hlo]at qlo;rw[<- hhi]at qhi qcap;have w7:=SN (lo:Int) O;have w8:=SN (hi:Int) O;have n1:¬(T:Int)+1=0:=O;have n2:¬(T:Int)=0:=O;refine W.env fun E3 hE3=>?_;have k0:E3 0=ah p:=(by rw[hE3];exact f0);have k1:E3 1=ah q:=(by rw[hE3];exact f1);have k6:E3 6=aa n:=(by rw[hE3];exact f6);have k7:E3 7=.Q H.A 0 0 m 1:=(by rw[hE3];exact f7);have k8:E3 8=ah (ay N):=(by rw[hE3];exact f8);have k9:E3 9=aa (i:Int):=(by rw[hE3];exact f9);have k10:E3 10=aa T:=(by rw[hE3];exact g10);have k11:E3 11=aa F:=(by rw[hE3];exact g11);clear hE3;refine W.dr 8 [0,0,2,7,0,0,48,15] mixed ?_;simp only[go_sem,k11,k10,w6,t1,t2,w7,w8,n1,n2];have gq2:H2.get H.A=some (.J 0 3 (ints qs)):=gqc;obtain⟨Q,hQ⟩:∃Q,Q=N / y:=⟨_,rfl⟩
   rw[<- hQ]at qlo qhi;have hyl2:(ay y).length<=100:=hy1;refine W.env fun E4 hE4=>?_;have l1:E4 1=ah q:=(by rw[hE4];exact k1);have l7:E4 7=.Q H.A 0 0 m 1:=(by rw[hE4];exact k7);have l8:E4 8=ah (ay N):=(by rw[hE4];exact k8);have l9:E4 9=aa (i:Int):=(by rw[hE4];exact k9);have l13:E4 13=aa (lo:Int):=(by rw[hE4];rfl);have l14:E4 14=aa (hi:Int):=(by rw[hE4];rfl);clear hE4;have Nl:((ay N).length:Int)<2 ^ 40:=O;refine W.aP 1298069262873549765611524485865472 (by rfl) (fun ρ2 H3=>∃L U:Nat,ρ2 13=aa L/\ρ2 14=aa U/\L<=Q/\Q<=U/\U<=10000/\Xb H2 H3) (fun ρ2 H=>(iv (ρ2 14)-iv (ρ2 13)).toNat) ?_ ?_
   ·simp only[go_sem,l13,l14];exact⟨lo,hi,rfl,rfl,qlo,qhi,qcap,.refl _⟩
   rintro ρ2 H4 ⟨L,U,m13,m14,hL,hU,hU2,ov4⟩;refine W.vs ?_;have n4:=ov4.A;by_cases hLU:(L:Int)<(U:Int)
   ·obtain⟨M,hM⟩:∃M,M=(L+U+1) / 2:=⟨_,rfl⟩
    have eLU:(L:Int)+(U:Int)=((L+U:Nat):Int):=O;have eLU1:((L+U:Nat):Int)+1=((L+U+1:Nat):Int):=O;have v1:=SN ((L+U:Nat):Int) O;have v2:=SN ((L+U+1:Nat):Int) O;have v3:(((L+U+1:Nat):Int)).tdiv 2=(M:Int):=(by rw[TM O,hM];rfl);have v4:=SN (M:Int) O;have v5:=SN ((M:Int)-1) O;simp only[go_sem,m13,m14,hLU,eLU,eLU1,v1,v2,v3,v4,l1];have hO4:aD H4.A (ext H4 [.J 0 3 [.lit (.int .i64 (M:Int))]]) 3 (.Q H4.A 0 0 1 1) (ints [(M:Int)]):=.inr ⟨H4.A,0,W8,by simp[aX],rfl,cV _ _ _⟩;rw[hqy];refine az.lM H4.A (args':=[ah (ay y),ah [(M:Int)]]) aH rfl (fun j hj _=>match j,hj with|0,_=>.dC _|1,_=>hO4.ie fun i hi=>hi) (OJ y M O O _ _ ⟨trivial,?_⟩);have ylen:(ay (y*M)).length<=n+2:=mM (by
     have h1:y*M<=y*10000:=Ud _ O;rw[T6];omega)
    have ov5:Xb H2 ((ext H4 [.J 0 3 [.lit (.int .i64 (M:Int))]]).cut H4.A):=ov4.trans ((Xb.ext _ _).cut);simp only[go_sem,l8];refine az.Z (vk (y*M) N O _ _ ⟨trivial,?_⟩);by_cases hc:y*M<=N
    ·have hc1:dP ((y*M:Nat):Int) (N:Int)<=0:=CD O;have hMQ:M<=Q:=(by rw[hQ,U1 O,UB];exact hc);simp only[go_sem,hc1];exact⟨ov5.A,⟨M,U,rfl,m14,hMQ,hU,hU2,ov5⟩,by rw[m14];simp only[aa,iv];omega⟩
    ·have hc1:¬dP ((y*M:Nat):Int) (N:Int)<=0:=CE O;have hMQ:Q<M:=(by rw[hQ,Nat.div_lt_iff_lt_mul O,UB];omega);simp only[go_sem,hc1,v5];exact⟨ov5.A,⟨L,M-1,m13,by simp;omega,hL,O,O,ov5⟩,by rw[m13];simp only[aa,iv];omega⟩
   ·have LQ:L=Q:=O;subst LQ;have g4:=(ov4.nl H.A O).trans gq2;have lq4:=af g4;have him:i<m:=O;have zi:(i:Int)<(m:Int):=O;have Q9:L<10000:=(by rw[hQ];exact Uz O);simp only[go_sem,m13,m14,hLU,l7,l9,zi,lq4];rw[gU _ O];obtain⟨H5,hH5⟩:∃H5,H5=H4.upd H.A (.J 0 3 (ints (qs.set i (L:Int)))):=⟨_,rfl⟩
    rw[<- hH5];have g5:H5.get H.A=some (.J 0 3 (ints (qs.set i (L:Int)))):=(by rw[hH5,ag,SU rfl]);have n5:H5.A=H4.A:=(by rw[hH5];rfl);have ov5:Xb H H5:=⟨by have:=ov.A;omega,fun id hid=>by
     rw[hH5,ag,SQ O,ov4.nl _ O,ovc.nl _ O,ov.nl _ hid]⟩
    clear hH5;refine⟨O,?_⟩;have dgL:Dg [(L:Int)]:=fun c hc=>by obtain rfl:=List.mem_singleton.1 hc;omega
    have vL:val [(L:Int)]=L:=(by simp[val]);have hO5:aD H5.A (ext H5 [.J 0 3 [.lit (.int .i64 (L:Int))]]) 3 (.Q H5.A 0 0 1 1) (ints [(L:Int)]):=.inr ⟨H5.A,0,W8,by simp[aX],rfl,cV _ _ _⟩;refine az.lM H5.A (args':=[ah [(L:Int)]]) aH rfl (fun j hj _=>match j,hj with|0,_=>hO5.ie fun i hi=>hi) (sy _ dgL W5 _ _ ⟨trivial,?_⟩);rw[vL];have ov6:Xb H5 ((ext H5 [.J 0 3 [.lit (.int .i64 (L:Int))]]).cut H5.A):=(Xb.ext _ _).cut;obtain⟨H6,hH6⟩:∃H6,H6=(ext H5 [.J 0 3 [.lit (.int .i64 (L:Int))]]).cut H5.A:=⟨_,rfl⟩
    rw[<- hH6]at ov6 ⊢;clear hH6;have n6:=ov6.A;have lenL:(ay L).length<=1:=mM O;have hmul:y*L<=N:=(by rw[hQ];exact Nat.mul_div_le N y);simp only[go_sem,l1,l8];rw[hqy];refine az.Z (qK y L O O _ _ ⟨trivial,?_⟩);simp only[go_sem];refine az.Z (yJ N (y*L) hmul O _ _ ⟨trivial,?_⟩);have wi:=SN ((i:Int)-1) O;simp only[go_sem,l9,wi];have eX:=Wl (x / 10000 ^ (i+1)) y;have eS:x / 10000 ^ i=a+10000*(x / 10000 ^ (i+1)):=by
     rw[T6,<- Vs,ha];omega
    have qs2:=ON (X:=x / 10000 ^ (i+1)) (a:=a) (y:=y) (Q:=x / 10000 ^ (i+1) / y) (R:=R) (by rw[hR];exact eX.symm) hRy;rw[<- eS,<- hN]at qs2;have eRN:N-y*L=x / 10000 ^ i % y:=(by rw[qs2.2,hQ];have:=Wl N y;omega);rw[eRN];refine⟨O,⟨i,qs.set i (L:Int),rfl,O,ov5.trans ov6,O,(ov6.nl _ O).trans g5,by simp[hql],fun c hc=>?_,?_,rfl⟩,O⟩
    ·rcases TG hc with h|h
     ·exact hqd c h
     ·omega
    ·rw[TI (by simp;omega),val,List.getElem_set_self,Int.toNat_natCast,W2 O,hv,qs2.1,hQ];omega
  obtain⟨j,rfl⟩:∃j,k=j+1:=⟨k-1,O⟩
  have ej:((j+1:Nat):Int)-1=(j:Int):=O
  rw[ej]at g12;have z2:((n-1:Nat):Int)<=(j:Int):=O
  have cF:=cube N j hN2 O;have cT:=cube y j hy2 O;rw[T6,<- Vs]at hF hT;have nF:N / 10000 ^ j=0\/j<(ay N).length:=by
   by_cases h:j<(ay N).length
   ·exact .inr h
   ·exact .inl (CC h)
  have nT:y / 10000 ^ j=0\/j<=n:=by
   by_cases h:j<=n
   ·exact .inr h
   ·exact .inl (CC (by rw[<- hqy,hn];omega))
  have dF:j<(ay N).length->(ay N)[j]?=some ((N / 10000 ^ j % 10000:Nat):Int):=fun h=>vm h;have dT:j<=n->q[j]?=some ((y / 10000 ^ j % 10000:Nat):Int):=fun h=>by rw[hqy];exact vm (by rw[<- hqy,hn];omega)
  obtain⟨F',hF'⟩:∃F',F'=N / 10000 ^ j:=⟨_,rfl⟩
  obtain⟨T',hT'⟩:∃T',T'=y / 10000 ^ j:=⟨_,rfl⟩
  rw[<- hF']at cF hF nF dF;rw[<- hT']at cT hT nT dT;obtain⟨cf,hcf⟩:∃cf,cf=F' % 10000:=⟨_,rfl⟩
  obtain⟨ct,hct⟩:∃ct,ct=T' % 10000:=⟨_,rfl⟩
  rw[<- hcf]at dF;rw[<- hct]at dT;have w6:=SN ((F:Int)*10000) O;have w7:=SN ((F:Int)*10000+(cf:Int)) O;have w8:=SN ((T:Int)*10000) O;have w9:=SN ((T:Int)*10000+(ct:Int)) O;have wj:=SN ((j:Int)-1) O;by_cases hjl:j<(ay N).length
  ·have dF1:=dF hjl;have Nn:¬ay N=[]:=(by intro h;rw[h]at hjl;simp at hjl);have z3:(j:Int)<(ay N).length:=O;by_cases hjn:j<=n
   ·have dT1:=dT hjn;have qn:¬q=[]:=(by intro h;rw[h]at hn;simp at hn);have z4:(j:Int)<=(n:Int):=O;have z5:(j:Int)<q.length:=O;simp only[go_sem,g12,f6,w5,emax,z2,g11,w6,f8,z3,Nn,dF1,w7,z4,z5,f1,dT1,qn,g10,w8,w9,wj];exact⟨⟨j,F',T',rfl,O,O,by simp;omega,by simp;omega,hF',hT'⟩,O⟩
   ·have z4:¬(j:Int)<=(n:Int):=O;simp only[go_sem,g12,f6,w5,emax,z2,g11,w6,f8,z3,Nn,dF1,w7,z4,wj];exact⟨⟨j,F',T',rfl,O,O,by simp;omega,by rw[g10,aa];simp;omega,hF',hT'⟩,O⟩
  ·have z3:¬(j:Int)<(ay N).length:=O;by_cases hjn:j<=n
   ·have dT1:=dT hjn;have qn:¬q=[]:=(by intro h;rw[h]at hn;simp at hn);have z4:(j:Int)<=(n:Int):=O;have z5:(j:Int)<q.length:=O;simp only[go_sem,g12,f6,w5,emax,z2,g11,w6,f8,z3,z4,z5,f1,dT1,qn,g10,w8,w9,wj];exact⟨⟨j,F',T',rfl,O,O,by simp;omega,by simp;omega,hF',hT'⟩,O⟩
   ·have z4:¬(j:Int)<=(n:Int):=O;simp only[go_sem,g12,f6,w5,emax,z2,g11,w6,f8,z3,z4,wj];exact⟨⟨j,F',T',rfl,O,O,by simp;omega,by rw[g10,aa];simp;omega,hF',hT'⟩,O⟩
end Go.Proofs.R01
namespace Go.Proofs.R01
open Go.Hx Tryz
variable {b:Bool}{nx:Nat}{S:Nat->Prop}{H:Xn}
def vn:W9->Nat
 |.M _ l=>val (l.map iv)
 |_=>0
def CF (n:Nat):vn (ah (ay n))=n:=by
 have:(ints (ay n)).map iv=ay n:=by simp[ints,aa,iv,Function.comp_def]
 show val ((ints (ay n)).map iv)=n;rw[this,jZ]
def CG (x y:Nat)(hx:(ay x).length<=100)(hy:(ay y).length<=100)(H:Xn)(K:Xd->Xn->Prop)(hK:K (.ret (ah (ay (Nat.gcd x y)))) H):ae prog G0 88 [ah (ay x),ah (ay y)] H K:=by
 refine ae.Z ⟨_,func88,rfl,rfl⟩ fun hcl=>?_;refine ae.st (n:=19) (rs:=[.tmp 4]) func88 ?_;simp only[go_sem];refine W.aP 262115 (by rfl) (fun ρ H'=>∃X Y:Nat,ρ 0=ah (ay X)/\ρ 1=ah (ay Y)/\(ay X).length<=100/\(ay Y).length<=100/\H'=H/\Nat.gcd X Y=Nat.gcd x y) (fun ρ H=>vn (ρ 1)) ?_ ?_
 ·simp only[go_sem];exact⟨x,y,rfl,rfl,hx,hy,rfl⟩
 rintro ρ H' ⟨X,Y,h0,h1,hX,hY,rfl,hg⟩;refine W.vs ?_;by_cases hz:Y=0
 ·subst hz;have z1:¬(0:Int)<(ay 0).length:=by rw[ik];simp
  rw[Nat.gcd_zero_right]at hg;simp only[go_sem,h0,h1,z1];rw[<- hg]at hK;exact ar.bE aH hcl (.refl _) (.dC _) hK
 have z1:(0:Int)<(ay Y).length:=by
  have:(ay Y).length≠0:=fun h=>hz (yI.1 (S3 h));omega
 simp only[go_sem,h0,h1,z1];refine az.Z (yL X Y hz hX hY _ _ ⟨trivial,?_⟩);have hlt:X % Y<Y:=Va _ O;have hl:(ay (X % Y)).length<=100:=by
  rcases Tg (ay Y).length (ay (X % Y)).length with h|h
  ·exact absurd (qJ h) (O)
  ·omega
 simp only[go_sem,h1];refine⟨⟨Y,X % Y,rfl,rfl,hY,hl,?_⟩,?_⟩
 ·rw[<- hg,WD Y,<- Nat.gcd_rec,WD]
 ·have e1:=CF (X % Y);have e2:=CF Y;rw[show W9.M (ay (X % Y)).length (ints (ay (X % Y)))=ah (ay (X % Y)) from rfl,show W9.M (ay Y).length (ints (ay Y))=ah (ay Y) from rfl,e1,e2];exact hlt
def CH {n:Int}:Fz S H nx (.na [.lit (.int .i64 n),.lit (.bool b)]) (.na [aa n,.lit (.bool b)]):=.na rfl fun i hi _=>match i,hi with
 |0,_=>.lit _
 |1,_=>.lit _
def j5 (n:Nat):W9:=if n<=4611686018427387903 then .na [aa n,.lit (.bool true)] else .na [aa 0,.lit (.bool false)]
def sB (n:Nat)(hn:(ay n).length<=100)(H:Xn)(K:Xd->Xn->Prop)(hK:K (.ret (j5 n)) H):ae prog G0 124 [ah (ay n)] H K:=by
 refine ae.Z ⟨_,func124,rfl,rfl⟩ fun hcl=>?_;obtain⟨p,hp⟩:∃p,p=ay n:=⟨_,rfl⟩
 refine ae.st (n:=25) (rs:=[.tmp 2,.tmp 3]) func124 ?_;simp only[go_sem];refine az.Z (jE 4611686018427387903 O _ _ ⟨trivial,?_⟩);simp only[go_sem];refine az.Z (vk n 4611686018427387903 O _ _ ⟨trivial,?_⟩);unfold j5 at hK;by_cases hb:n<=4611686018427387903;rotate_left
 ·have c1:0<dP (n:Int) 4611686018427387903:=by have:=CE (a:=(n:Int)) (b:=4611686018427387903) O;omega
  rw[SQ hb]at hK;simp only[go_sem,c1];exact ar.bE aH hcl (.refl _) CH hK
 have c1:¬ 0<dP (n:Int) 4611686018427387903:=by have:=CD (a:=(n:Int)) (b:=4611686018427387903) O;omega
 rw[SU hb]at hK;have w1:=SN (((ay n).length:Int)-1) O;simp only[go_sem,c1,w1];refine W.aP 16769072 (by rfl) (fun ρ H'=>∃k X:Nat,ρ 5=aa ((k:Int)-1)/\ρ 4=aa X/\X=n / 10000 ^ k/\k<=(ay n).length/\H'=H) (fun ρ H=>(iv (ρ 5)+1).toNat) ?_ ?_
 ·simp only[go_sem];refine⟨(ay n).length,0,rfl,rfl,?_,O⟩;exact(Ux (by have:=oh (lW n);rwa [jZ]at this)).symm
 rintro ρ H' ⟨k,X,h5,h4,hX,hk,rfl⟩;refine W.vs ?_;by_cases hz:k=0
 ·subst hz;have z1:¬(0:Int)<=((0:Nat):Int)-1:=O
  simp only[Wc,WW]at hX;subst hX;simp only[go_sem,h5,h4];exact ar.bE aH hcl (.refl _) CH hK
 obtain⟨j,rfl⟩:∃j,k=j+1:=⟨k-1,O⟩
 have ej:((j+1:Nat):Int)-1=(j:Int):=O
 rw[ej]at h5;have z1:(0:Int)<=(j:Int):=O
 have hd:=vm (n:=n) (k:=j) O;rw[T6,<- Vs]at hX;have hle:n / 10000 ^ j<=n:=U2 _ _;obtain⟨Y,hY⟩:∃Y,Y=n / 10000 ^ j:=⟨_,rfl⟩
 rw[<- hY]at hd hX hle;obtain⟨c,hc⟩:∃c,c=Y % 10000:=⟨_,rfl⟩
 rw[<- hc]at hd;have w2:=SN (10000*(X:Int)) O;have w3:=SN (10000*(X:Int)+(c:Int)) O;have w4:=SN ((j:Int)-1) O;have dn:¬ay n=[]:=by intro h;rw[h]at hd;simp at hd
 have z2:(j:Int)<(ay n).length:=O
 simp only[go_sem,h5,h4,z1,w2,hd,dn,z2,w3,w4];exact⟨⟨j,Y,rfl,by simp;omega,hY,O⟩,O⟩
def jF (neg:Bool)(N D:Nat):W9 :=
 if N / Nat.gcd N D<=4611686018427387903/\D / Nat.gcd N D<=4611686018427387903 then .na [qV (if neg=true then -((N / Nat.gcd N D:Nat):Int) else ((N / Nat.gcd N D:Nat):Int)) ((D / Nat.gcd N D:Nat):Int),.lit (.bool true)] else .na [qV 0 0,.lit (.bool false)]
def pr {x y:Int}:Fz S H nx (.na [.agg [.lit (.int .i64 x),.lit (.int .i64 y)],.lit (.bool b)]) (.na [qV x y,.lit (.bool b)]):=.na rfl fun i hi _=>match i,hi with
 |0,_=>OZ _ _
 |1,_=>.lit _
def vo {a b:Nat}(h:a<=b):(ay a).length<=(ay b).length:=by
 rcases Tg (ay b).length (ay a).length with h1|h1
 ·exact absurd (qJ h1) (O)
 ·exact h1
def CI (neg:Bool)(N D:Nat)(hD:D≠0)(hN:(ay N).length<=100)(hDl:(ay D).length<=100)(H:Xn)(K:Xd->Xn->Prop)(hK:K (.ret (jF neg N D)) H):ae prog G0 90 [.lit (.bool neg),ah (ay N),ah (ay D)] H K:=by
 refine ae.Z ⟨_,func90,rfl,rfl⟩ fun hcl=>?_;have g0:0<Nat.gcd N D:=Nat.gcd_pos_of_pos_right _ O;have gl:(ay (Nat.gcd N D)).length<=100:=Tw (vo (Nat.le_of_dvd O (Nat.gcd_dvd_right N D))) hDl;have gc:∀H K,K (Xd.ret (ah (ay (Nat.gcd N D)))) H->ae prog G0 88 [ah (ay N),ah (ay D)] H K:=fun H K h=>CG N D hN hDl H K h;unfold jF at hK;generalize Nat.gcd N D=g at *
 have l1:(ay (N / g)).length<=100:=Tw (vo (U2 _ _)) hN;have l2:(ay (D / g)).length<=100:=Tw (vo (U2 _ _)) hDl;have d1:∀H K,K (Xd.ret (.na [ah (ay (N / g)),ah (ay (N % g))])) H->ae prog G0 123 [ah (ay N),ah (ay g)] H K:=fun H K h=>yL N g O hN gl H K h;have d2:∀H K,K (Xd.ret (.na [ah (ay (D / g)),ah (ay (D % g))])) H->ae prog G0 123 [ah (ay D),ah (ay g)] H K:=fun H K h=>yL D g O hDl gl H K h;generalize N / g=p at *
 generalize D / g=q at *
 generalize N % g=r1 at *
 generalize D % g=r2 at *
 refine ae.st (n:=51) (rs:=[.cell 6 41,.tmp 7]) func90 ?_;simp only[go_sem];refine az.Z (gc _ _ ⟨trivial,?_⟩);simp only[go_sem];refine az.Z (d1 _ _ ⟨trivial,?_⟩);simp only[go_sem];refine az.Z (d2 _ _ ⟨trivial,?_⟩);simp only[go_sem];refine az.Z (sB p l1 _ _ ⟨trivial,?_⟩);unfold j5;by_cases hp:p<=4611686018427387903
 ·have wp:=SN (0-(p:Int)) O;rw[SU hp];simp only[go_sem];refine az.Z (sB q l2 _ _ ⟨trivial,?_⟩);unfold j5;by_cases hq:q<=4611686018427387903
  ·rw[SU ⟨hp,hq⟩]at hK;rw[SU hq];cases neg with
   |false =>
    simp only[go_sem];exact ar.drop aH hcl pr (by simpa using hK)
   |true =>
    simp only[go_sem];exact ar.drop aH hcl pr (by rw[wp,Int.zero_sub];simpa using hK)
  ·rw[SQ (fun h=>hq h.2)]at hK;rw[SQ hq];simp only[go_sem];exact ar.drop aH hcl pr hK
 ·rw[SQ (fun h=>hp h.1)]at hK;rw[SQ hp];simp only[go_sem];refine az.Z (sB q l2 _ _ ⟨trivial,?_⟩);unfold j5;by_cases hq:q<=4611686018427387903
  ·rw[SU hq];simp only[go_sem];exact ar.drop aH hcl pr hK
  ·rw[SQ hq];simp only[go_sem];exact ar.drop aH hcl pr hK
end Go.Proofs.R01
namespace Go.Proofs.R01
open Go.Hx Tryz
variable {n:Int}
abbrev fa (n:Int):Prop:=-9223372036854775808<=n/\n<=9223372036854775807
def j8 (h:fa n):(ay n.natAbs).length<=5:=mM (by
 have:(10000:Nat) ^ 5=100000000000000000000:=W6
 have:=h.1;have:=h.2;omega)
def sC {m:Int}(h:fa n)(h':fa m):(ay (n.natAbs*m.natAbs)).length<=10:=mM (by
 have e:(10000:Nat) ^ 10=10000 ^ 5*10000 ^ 5:=W6
 rw[e];have:=pq (j8 h);have:=pq (j8 h');exact Nat.mul_lt_mul_of_lt_of_lt ‹_› ‹_›)
def CJ (neg:Bool)(N D:Nat):∃x y b,jF neg N D=.na [qV x y,.lit (.bool b)]:=by
 unfold jF;split
 ·exact⟨_,_,_,rfl⟩
 ·exact⟨_,_,_,rfl⟩
def CK {d:Int}(hn:-4611686018427387903<=n/\n<=4611686018427387903)(hd:1<=d/\d<=4611686018427387903):jF (kX n d) n.natAbs d.natAbs=.na [eo n d,.lit (.bool true)]:=by
 have g0:0<Int.gcd n d:=VC _ O;have hg:Nat.gcd n.natAbs d.natAbs=Int.gcd n d:=rfl;have hs:kX n d=decide (n<0):=by
  unfold kX;rw[T4 (show ¬d<0 by omega)];cases decide (n<0)<;>rfl
 have l1:n.natAbs / Int.gcd n d<=n.natAbs:=U2 _ _;have l2:d.natAbs / Int.gcd n d<=d.natAbs:=U2 _ _;unfold jF eo qV;rw[hg,SU ⟨O,O⟩,hs];have e2:d.tdiv (Int.gcd n d:Int)=((d.natAbs / Int.gcd n d:Nat):Int):=by
  rw[TM O,Wh];congr 1;omega
 have e1:n.tdiv (Int.gcd n d:Int)=if decide (n<0)=true then -((n.natAbs / Int.gcd n d:Nat):Int) else ((n.natAbs / Int.gcd n d:Nat):Int):=by
  by_cases h:n<0
  ·rw[Ty h,SU rfl];have:n=-(n.natAbs:Int):=O
   conv=>lhs;rw[this]
   rw[Int.neg_tdiv,TM O,Wh];congr 3
   all_goals (try rw[<- this])
  ·rw[T4 h,SQ W6];rw[TM O,Wh];congr 1;omega
 rw[e1,e2]
end Go.Proofs.R01
namespace Go.Proofs
open Go.Hx Tryz
def bP (l:List Int):List W9:=l.map fun n=>.lit (.int .u8 n)
def uF {l:List Int}{k:Nat}{a:Int}(h:l[k]?=some a):(bP l)[k]?=some (.lit (.int .u8 a)):=by unfold bP;rw[List.getElem?_map,h];rfl
end Go.Proofs
