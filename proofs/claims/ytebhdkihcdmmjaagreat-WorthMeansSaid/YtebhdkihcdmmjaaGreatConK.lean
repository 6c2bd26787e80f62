/- Own work: contracts. -/
import Derived.Test.YtebhdkihcdmmjaaGreatConJ
import Derived.Test.YtebhdkihcdmmjaaGreatConE
set_option linter.all false
set_option maxHeartbeats 8000000
set_option maxRecDepth 100000
namespace Go.Proofs
open Go.Hx Tryz
def Qy (d:D20)(hd:d.Ok)(kk:Int)(hkk:U8 kk)(n:Int)(hn:0<=n/\n<18446744073709551616)(H:ZK)(K:ZQ->ZK->Prop)(hK:∀H',H.A<=H'.A->K (.ret (.lit (.bool true))) H'):
  ae prog G0 7 [.agg d.cells,.lit (.int .u8 kk),.lit (.int .u64 n)] H K:=by
 have hd':D20.Ok ⟨d.g,d.ps,d.ord,d.nl,true,d.us⟩:=⟨hd.g,hd.ps,hd.pl,hd.ol,hd.o8,hd.nl,hd.us,hd.ul⟩
 obtain⟨N,rfl⟩:=Vm hn.1;have N64:N<2 ^ 64:=V
 refine ae.sw (n:=236) (rs:=[.tmp 6]) func7 ?_;refine W.sq ?_;simp only[go_sem,D20.cells];refine W.sq ?_;simp only[go_sem];refine ak.X (Qr _ _ ⟨trivial,?_⟩);simp only[go_sem];refine W.sq ?_;simp only[go_sem];obtain⟨H1,hH1⟩:∃H1,H1=ext H [.J 0 28 [.lit (.int .u8 d.g),.Q d.ps.length (gi d.ps),.Q d.ord.length (cG d.ord),.lit (.int .u8 d.nl),.lit (.bool true),.Q d.us.length (nj d.us)]]:=⟨_,rfl⟩
 have g3:=dh hH1
 have n1:H1.A=H.A+1:=hH1▸rfl
 rw[<- hH1];clear hH1;have l3:=ag g3;refine W.sq ?_;simp only[go_sem,l3];refine ak.X (Rt ⟨d.g,d.ps,d.ord,d.nl,true,d.us⟩ hd' _ _ fun x hx=>⟨trivial,?_⟩);have hok:=hx.ok;have hf:=oK hok;have n8:=hok.n.n1;have h5:=hx.n5;have gp:=tH hok h5;obtain⟨r,hro⟩:=Qs hx;obtain⟨re,rv⟩:=pP hok hro;simp only[go_sem,RQ,Ai];obtain⟨H2,hH2⟩:∃H2,H2=ext H1 [.J 0 38 [.lit (.int .i64 x.Z),.Q x.C.length (bh x.C),.lit (.int .u64 (x.nl:Int)),.Q x.Y.length (bA x.Y)]]:=⟨_,rfl⟩
 have g7:=dh hH2
 have n2:H2.A=H1.A+1:=hH2▸rfl
 rw[<- hH2];clear hH2;have l7:=ag g7;have rl:(aE r).length=r.length:=by simp[aE]
 have hdl:(aJ x).length<=x.C.length:=rF;have hrl:r.length<=x.C.length:=by
  have h3:=xj _ _ _ _ (ou hok hro);simp at h3;omega
 refine W.sq ?_;simp only[go_sem,l7];refine ak.X (DY x (vm x hf H2 _ ⟨trivial,?_⟩));rw[re,rv];simp only[go_sem];refine W.sq ?_;simp only[go_sem];by_cases h0:(r.length:Int)=0
 ·refine W.sq ?_;simp only[go_sem,rl,h0];exact aj.mk V (hK _ V)
 obtain⟨kn,rfl⟩:=Vm hkk.1;obtain⟨i,hi⟩:∃i,i=kn % r.length:=⟨_,rfl⟩
 have hil:i<r.length:=by rw[hi];exact XU _ (V)
 obtain⟨u,hu⟩:=ay hil;have hum:=an hu;have hui:(aE r)[i]?=some (u:Int):=by unfold aE;rw[List.getElem?_map,hu];rfl
 have hune:=aZ hui;have hk8:=hkk.2;have wk:=Vd (kn:Int) V;have tm:((kn:Int)).tmod (r.length:Int)=(i:Int):=by rw[VV V,hi];rfl
 have wi:=Vd (i:Int) V;have hli:(i:Int)<r.length:=V
 refine W.sq ?_;simp only[go_sem,rl,h0];refine W.sq ?_;simp only[go_sem,h0,wk,tm];refine W.en (fun E=>E 2=.lit (.int .u64 (N:Int)) /\ E 7=.O H1.A 0 0 /\ E 8=.Q r.length (ints (aE r)) /\ E 10=aa i) (by simp only[go_sem]) fun E ⟨e2,e7,e8,e10⟩=>?_
 obtain⟨O,hO⟩:∃O,O=bz x u:=⟨_,rfl⟩
 have O256:=zF hok u;have sub:∀S,Sub (S &&& O) (bz x u):=fun S=>by rw[hO];exact D1 S _
 have ho:=fun (H:ZK) (K:ZQ->ZK->Prop) h=>DZ x u (zE hok hro hum H K h);rw[<- hO]at O256 ho;have O64:O<2 ^ 64:=V
 obtain⟨T,hT⟩:∃T,T=N &&& O:=⟨_,rfl⟩
 have hTO:Sub T (bz x u):=by rw[hT];exact sub N
 have T64:T<2 ^ 64:=by rw[hT];exact D2 O64
 have z1:=fun t p q=>mB (P:=prog) (t:=t) (x:=p) (y:=q) N64 O64;rw[<- hT]at z1;refine W.seq ?_;refine W.dr 10 [0,0,0,6,14,31,63,127,127,255] mixed ?_;simp only[go_sem,e7,e8,e10,l7,hli,hui,hune];refine⟨.nc [.lit (.int .u64 (O:Int)),.lit (.int .i64 0)],[],aY.pure fun H2=>ho H2 _ ⟨rfl,rfl⟩,?_⟩;simp only[go_sem];refine W.en (fun E2=>E2 2=.lit (.int .u64 (N:Int)) /\ E2 7=.O H1.A 0 0 /\ E2 8=.Q r.length (ints (aE r)) /\ E2 10=aa i /\ E2 11=.lit (.int .u64 (O:Int)) /\ E2 12=aa 0) (by simp only[go_sem,e2,e7,e8,e10]) fun E2 ⟨f2,f7,f8,f10,f11,f12⟩=>?_
 obtain⟨Y,hY⟩:∃Y,Y=bw x r u T:=⟨_,rfl⟩
 have yok:ZS Y:=by rw[hY];exact pL hok hro hum hTO
 have yro:Z0 Y r:=by rw[hY];exact pM hok hro hum hTO
 have ylen:Y.C.length=x.C.length:=by rw[hY];exact hJ ..
 have yg:Y.Z ^ Y.C.length=x.Z ^ x.C.length:=by rw[ylen,hY];rfl
 have yf:=oK yok;obtain⟨ye,yv⟩:=pP yok yro;have hw:dO x r u T=dC Y r-dC x r:=by rw[hY];rfl
 have t1:=oA hok hro;have t2:=oA yok yro;rw[yg]at t2;have hs:=fun (H:ZK) (K:ZQ->ZK->Prop) h=>D0 x u T (DK hok V hro hum hTO H K h);rw[<- hY]at hs;refine W.seq ?_;refine W.dr 14 [0,0,0,6,14,0,0,96,255,511,1023,1023,0,6143] mixed ?_;simp only[go_sem,f2,f7,f8,f10,f11,l7,hli,hui,hune,z1];refine⟨.nc [da Y,.lit (.int .i64 0)],[],aY.pure fun H2=>hs H2 _ ⟨rfl,rfl⟩,?_⟩;simp only[go_sem,gR,cR,f2,f7,f8,f10,f11];refine⟨fun x hx=>V,?_⟩;obtain⟨H3,hH3⟩:∃H3,H3=ext H2 [.J 0 38 [.lit (.int .i64 Y.Z),.Q Y.C.length (aG Y.C),.lit (.int .u64 (Y.nl:Int)),.Q Y.Y.length (bA Y.Y)]]:=⟨_,rfl⟩
 have g13:=dh hH3
 have o3:ZP H2 H3:=hH3▸.ext _ _
 have n3:H3.A=H2.A+1:=hH3▸rfl
 rw[<- hH3];clear hH3;have g73:=(o3.nf _ V).trans g7;have l73:=ag g73;have vT:=fun H K h=>zH hok h5 hro hum T64 hTO H K h;obtain⟨pw,qw,gw,hpw,hW⟩:=kM (S:=dO x r u T) (D:=x.Z ^ x.C.length) gp.1;rw[hpw]at vT;refine W.en (fun E3=>E3 2=.lit (.int .u64 (N:Int)) /\ E3 7=.O H1.A 0 0 /\ E3 8=.Q r.length (ints (aE r)) /\ E3 10=aa i /\ E3 11=.lit (.int .u64 (O:Int)) /\ E3 12=aa 0 /\ E3 13=.O H2.A 0 0 /\ E3 14=aa 0) (by simp only[go_sem,f2,f7,f8,f10,f11,f12]) fun E3 ⟨k2,k7,k8,k10,k11,k12,k13,k14⟩=>?_
 refine W.seq ?_;refine W.dr 14 [0,0,0,6,14,0,0,96,255,511,1023,1023,0,6143] mixed ?_;simp only[go_sem,k2,k7,k8,k10,k11,l73,hli,hui,hune,z1];refine⟨.nc [.agg [.lit (.int .i64 pw),.lit (.int .i64 qw)],.lit (.int .i64 0)],[],aY.pure fun H2=>vT H2 _ ⟨rfl,rfl⟩,?_⟩;simp only[go_sem,k2,k7,k8,k10,k11];refine⟨fun x hx=>V,?_⟩;obtain⟨H4,hH4⟩:∃H4,H4=ext H3 [.J 0 58 [.lit (.int .i64 pw),.lit (.int .i64 qw)]]:=⟨_,rfl⟩
 have o4:ZP H3 H4:=hH4▸.ext _ _
 have n4:H4.A=H3.A+1:=hH4▸rfl
 have g15:=dh hH4
 rw[<- hH4];clear hH4;have g74:=(o4.nf _ V).trans g73;have g134:=(o4.nf _ V).trans g13;have l74:=ag g74;have l134:=ag g134;refine W.sq ?_;simp only[go_sem,k13,l134];refine ak.X (vm Y yf H4 _ ⟨trivial,?_⟩);rw[ye,yv];simp only[go_sem];obtain⟨pb,qb,gb,hpb,hB⟩:=kM (S:=dC x r) (D:=x.Z ^ x.C.length) gp.1;obtain⟨py,qy,gy,hpy,hYF⟩:=kM (S:=dC Y r) (D:=x.Z ^ x.C.length) gp.1;refine W.sq ?_;simp only[go_sem,k7,l74];refine ak.X (DY x (tu x hf V H4 _ (fun h=>absurd (re.symm.trans h) ZH) (fun _ h=>absurd re h) fun r' hr' _ _=>⟨trivial,?_⟩));obtain rfl:r=r':=Option.some.inj ((ou hok hro).symm.trans hr');rw[hpb];simp only[go_sem];obtain⟨H5,hH5⟩:∃H5,H5=ext H4 [.J 0 58 [.lit (.int .i64 pb),.lit (.int .i64 qb)]]:=⟨_,rfl⟩
 have o5:ZP H4 H5:=hH5▸.ext _ _
 have n5:H5.A=H4.A+1:=hH5▸rfl
 have g19:=dh hH5
 rw[<- hH5];clear hH5;have l135:=ag ((o5.nf _ V).trans g134);refine W.sq ?_;simp only[go_sem,k13,l135];refine ak.X (tu Y yf V H5 _ (fun h=>absurd (ye.symm.trans h) ZH) (fun _ h=>absurd ye h) fun r' hr' _ _=>⟨trivial,?_⟩);obtain rfl:r=r':=Option.some.inj ((ou yok yro).symm.trans hr');rw[yg,hpy];simp only[go_sem];obtain⟨H6,hH6⟩:∃H6,H6=ext H5 [.J 0 58 [.lit (.int .i64 py),.lit (.int .i64 qy)]]:=⟨_,rfl⟩
 have o6:ZP H5 H6:=hH6▸.ext _ _
 have n6:H6.A=H5.A+1:=hH6▸rfl
 have g21:=dh hH6
 rw[<- hH6];clear hH6;have g196:=(o6.nf _ V).trans g19;have g156:=(o6.nf _ V).trans ((o5.nf _ V).trans g15);have g76:=(o6.nf _ V).trans ((o5.nf _ V).trans g74);have l19:=ag g196;have l15:=ag g156;have l21:=ag g21;refine W.en (fun E4=>E4 2=.lit (.int .u64 (N:Int)) /\ E4 7=.O H1.A 0 0 /\ E4 8=.Q r.length (ints (aE r)) /\ E4 10=aa i /\ E4 11=.lit (.int .u64 (O:Int)) /\ E4 12=aa 0 /\ E4 14=aa 0 /\ E4 15=.O H3.A 0 0 /\ E4 16=aa 0 /\ E4 17=.Q r.length (ints (aE r)) /\ E4 18=aa 0 /\ E4 19=.O H4.A 0 0 /\ E4 20=aa 0 /\ E4 21=.O H5.A 0 0 /\ E4 22=aa 0) (by simp only[go_sem,k2,k7,k8,k10,k11,k12,k14,rl]) fun E4 ⟨m2,m7,m8,m10,m11,m12,m14,m15,m16,m17,m18,m19,m20,m21,m22⟩=>?_
 have cw:=hW.check V V;have cb:=hB.check V V;obtain⟨bd1,bd2⟩:=hW.bound;obtain⟨bd3,bd4⟩:=hB.bound;obtain⟨bd5,bd6⟩:=hYF.bound;have qw1:=hW.b1;have qb1:=hB.b1;refine W.sq ?_;simp only[go_sem,m8,m12,m14,m16,m17,m18,m19,m20,m22,l19];refine ak.X (R01.xA pb qb (by unfold R01.dR;omega) (by unfold R01.dR;omega) H6 _ ⟨trivial,?_⟩);rw[VD cb];simp only[go_sem,m15,l15];refine ak.X (R01.xA pw qw (by unfold R01.dR;omega) (by unfold R01.dR;omega) H6 _ ⟨trivial,?_⟩);rw[VD cw];simp only[go_sem];refine W.sq ?_;simp only[go_sem,m8];refine W.env fun E5 hE=>?_;have p2:E5 2=.lit (.int .u64 (N:Int)):=by rw[hE];simp only[go_sem,m2]
 have p7:E5 7=.O H1.A 0 0:=by rw[hE];simp only[go_sem,m7]
 have p8:E5 8=.Q r.length (ints (aE r)):=by rw[hE];simp only[go_sem,m8]
 have p10:E5 10=aa i:=by rw[hE];simp only[go_sem,m10]
 have p11:E5 11=.lit (.int .u64 (O:Int)):=by rw[hE];simp only[go_sem,m11]
 have p15:E5 15=.O H3.A 0 0:=by rw[hE];simp only[go_sem,m15]
 have p17:E5 17=.Q r.length (ints (aE r)):=by rw[hE];simp only[go_sem,m17]
 have p19:E5 19=.O H4.A 0 0:=by rw[hE];simp only[go_sem,m19]
 have p21:E5 21=.O H5.A 0 0:=by rw[hE];simp only[go_sem,m21]
 have p141:E5 141=.Q r.length (ints (aE r)):=by rw[hE];simp only[go_sem]
 have p142:E5 142=aa r.length:=by rw[hE];simp only[go_sem]
 have p143:E5 143=aa 0:=by rw[hE];simp only[go_sem]
 clear hE;refine W.aS 45660775793991450882294383163247520183520067648 ZI (fun ρ Hx=>Hx=H6/\∃j:Nat,ρ 143=aa j/\j<=r.length) (fun ρ _=>r.length-(iv (ρ 143)).toNat) ?_ ?_
 ·exact⟨rfl,0,p143,V⟩
 rintro ρ Hx ⟨hHx,j,h143,hj⟩;rw[hHx];refine W.en (fun E6=>E6 2=.lit (.int .u64 (N:Int)) /\ E6 7=.O H1.A 0 0 /\ E6 8=.Q r.length (ints (aE r)) /\ E6 10=aa i /\ E6 11=.lit (.int .u64 (O:Int)) /\ E6 15=.O H3.A 0 0 /\ E6 17=.Q r.length (ints (aE r)) /\ E6 19=.O H4.A 0 0 /\ E6 21=.O H5.A 0 0 /\ E6 141=.Q r.length (ints (aE r)) /\ E6 142=aa r.length /\ E6 143=aa j) (by simp only[go_sem,p2,p7,p8,p10,p11,p15,p17,p19,p21,p141,p142,h143]) fun E6 ⟨q2,q7,q8,q10,q11,q15,q17,q19,q21,q141,q142,q143⟩=>?_
 by_cases hb:(j:Int)<r.length
 ·obtain⟨v,hv⟩:=ay (l:=r) (i:=j) V;have hvi:(aE r)[j]?=some (v:Int):=by unfold aE;rw[List.getElem?_map,hv];rfl
  have hvne:=aZ hvi;have w1:=Vd ((j:Int)+1) V;refine W.vs ?_;simp only[go_sem,q17,q141,q142,q143,hb,hvi,hvne,w1];exact⟨⟨j+1,rfl,V⟩,by rw[h143];simp only[aa,bf];omega⟩
 refine W.vs ?_;simp only[go_sem,q142,q143,hb];have hadd:=Qw hB hW ⟨gp.1,V⟩ ⟨V,V⟩ ⟨V,V⟩;rw[show dC x r+dO x r u T=dC Y r by omega,hpy]at hadd;refine W.sq ?_;simp only[go_sem,q15,q19,l15,l19];refine ak.X (R01.Sg pb qb pw qw (by unfold R01.dR;omega) (by unfold R01.dR;omega) (by unfold R01.dR;omega) (by unfold R01.dR;omega) V V H6 _ ⟨trivial,?_⟩);rw[hadd];simp only[go_sem];obtain⟨H7,hH7⟩:∃H7,H7=ext H6 [.J 0 58 [.lit (.int .i64 py),.lit (.int .i64 qy)]]:=⟨_,rfl⟩
 have o7:ZP H6 H7:=hH7▸.ext _ _
 have n7:H7.A=H6.A+1:=hH7▸rfl
 have l25:=ag (show H7.get H6.A=some (.J 0 58 [.lit (.int .i64 py),.lit (.int .i64 qy)]) by rw[hH7];exact cL ..);rw[<- hH7];clear hH7;have l217:=ag ((o7.nf _ V).trans g21);have g77:=(o7.nf _ V).trans g76;have nq:∀o1 o2,aU prog .neq 58 o1 o2 (.agg [.lit (.int .i64 py),.lit (.int .i64 qy)]) (.agg [.lit (.int .i64 py),.lit (.int .i64 qy)])=some (.lit (.bool false)):=fun o1 o2=>by rw[MW];simp
 simp only[go_sem,q21,l217,nq];refine W.sq ?_;simp only[go_sem,q10];refine W.en (fun E7=>E7 2=.lit (.int .u64 (N:Int)) /\ E7 7=.O H1.A 0 0 /\ E7 8=.Q r.length (ints (aE r)) /\ E7 10=aa i /\ E7 11=.lit (.int .u64 (O:Int)) /\ E7 168=aa i /\ E7 169=aa 0) (by simp only[go_sem,q2,q7,q8,q10,q11]) fun E7 ⟨s2,s7,s8,s10,s11,s168,s169⟩=>?_
 refine W.aS 110427941548649020598207804958118984945097456920375447976536567164436544 ZI (fun ρ Hx=>ZP H7 Hx/\∃a:Nat,ρ 169=aa a/\a<=i) (fun ρ _=>i-(iv (ρ 169)).toNat) ?_ ?_
 ·exact⟨.refl _,0,s169,V⟩
 rintro ρ2 Hx2 ⟨ox,a,h169,ha⟩;refine W.en (fun E8=>E8 2=.lit (.int .u64 (N:Int)) /\ E8 7=.O H1.A 0 0 /\ E8 8=.Q r.length (ints (aE r)) /\ E8 10=aa i /\ E8 11=.lit (.int .u64 (O:Int)) /\ E8 168=aa i /\ E8 169=aa a) (by simp only[go_sem,s2,s7,s8,s10,s11,s168,h169]) fun E8 ⟨t2',t7,t8,t10,t11,t168,t169⟩=>?_
 have oxn:=ox.A;by_cases hb2:(a:Int)<i;rotate_left
 ·refine W.vs ?_;simp only[go_sem,t168,t169,hb2];refine W.vs ?_;simp only[go_sem];exact aj.mk V (hK _ V)
 obtain⟨v,hv⟩:=ay (l:=r) (i:=a) V;have hvm:=an hv;have hvi:(aE r)[a]?=some (v:Int):=by unfold aE;rw[List.getElem?_map,hv];rfl
 have hvne:=aZ hvi;have hai:(a:Int)<r.length:=V
 have wa:=Vd ((a:Int)+1) V;have hnd:=Qx hro;have hidx:r.idxOf v<=r.idxOf u:=by rw[zI hnd hv,zI hnd hu];omega
 obtain⟨O2,hO2⟩:∃O2,O2=bz x v:=⟨_,rfl⟩
 have O2_256:=zF hok v;have ho2:=fun (H:ZK) (K:ZQ->ZK->Prop) h=>DZ x v (zE hok hro hvm H K h);rw[<- hO2]at O2_256 ho2;have O264:O2<2 ^ 64:=V
 obtain⟨T2,hT2⟩:∃T2,T2=T &&& O2:=⟨_,rfl⟩
 have hTv:Sub T2 (bz x v):=by rw[hT2,hO2];exact D1 T _
 have hTu:Sub T2 (bz x u):=fun j hj=>hTO j (by
  rw[hT2,Wc,VL]at hj;exact hj.1)
 have T264:T2<2 ^ 64:=by rw[hT2];exact D2 O264
 have z2:=fun t p q=>mB (P:=prog) (t:=t) (x:=p) (y:=q) T64 O264;rw[<- hT2]at z2;have early:=Px hok hro hum hvm hidx hTu hTv;have bnd:∀u' S,u'∈r->Sub S (bz x u')->(dO x r u' S).natAbs<=4611686018427387903:=fun u' S hu' hS=>by
  have t1:=oA hok hro;have t2:=oA (pL hok hro hu' hS) (pM hok hro hu' hS);have gd:(bw x r u' S).Z ^ (bw x r u' S).C.length=x.Z ^ x.C.length:=by rw[hJ];rfl
  rw[gd]at t2;have hw:dO x r u' S=dC (bw x r u' S) r-dC x r:=rfl;omega
 have bv:=bnd v T2 hvm hTv;have bu:=bnd u T2 hum hTu;have vv:=fun H K h=>zH hok h5 hro hvm T264 hTv H K h;have vu:=fun H K h=>zH hok h5 hro hum T264 hTu H K h;obtain⟨p1,q1,g1,hp1,hF1⟩:=kM (S:=dO x r v T2) (D:=x.Z ^ x.C.length) gp.1;obtain⟨p2,q2,g2,hp2,hF2⟩:=kM (S:=dO x r u T2) (D:=x.Z ^ x.C.length) gp.1;rw[hp1]at vv;rw[hp2]at vu;have lx7:=ag ((ox.nf _ V).trans g77);refine W.sq ?_;simp only[go_sem,t168,t169,hb2];refine W.sq ?_;simp only[go_sem];refine W.seq (W.block ?_);refine W.sq ?_;simp only[go_sem,t169];refine W.en (fun E9=>E9 2=.lit (.int .u64 (N:Int)) /\ E9 7=.O H1.A 0 0 /\ E9 8=.Q r.length (ints (aE r)) /\ E9 10=aa i /\ E9 11=.lit (.int .u64 (O:Int)) /\ E9 27=aa a /\ E9 169=aa a) (by simp only[go_sem,t2',t7,t8,t10,t11,t169]) fun E9 ⟨c2,c7,c8,c10,c11,c27,c169⟩=>?_
 refine W.seq ?_;refine W.dr 10 [0,0,0,6,14,31,63,127,127,255] mixed ?_;simp only[go_sem,c7,c8,c27,lx7,hai,hvi,hvne];refine⟨.nc [.lit (.int .u64 (O2:Int)),.lit (.int .i64 0)],[],aY.pure fun H2=>ho2 H2 _ ⟨rfl,rfl⟩,?_⟩;simp only[go_sem];refine W.env fun E10 hE=>?_;have d2:E10 2=.lit (.int .u64 (N:Int)):=by rw[hE];simp only[go_sem,c2]
 have d7:E10 7=.O H1.A 0 0:=by rw[hE];simp only[go_sem,c7]
 have d8:E10 8=.Q r.length (ints (aE r)):=by rw[hE];simp only[go_sem,c8]
 have d10:E10 10=aa i:=by rw[hE];simp only[go_sem,c10]
 have d11:E10 11=.lit (.int .u64 (O:Int)):=by rw[hE];simp only[go_sem,c11]
 have d27:E10 27=aa a:=by rw[hE];simp only[go_sem,c27]
 have d28:E10 28=.lit (.int .u64 (O2:Int)):=by rw[hE];simp only[go_sem]
 have d29:E10 29=aa 0:=by rw[hE];simp only[go_sem]
 have d169:E10 169=aa a:=by rw[hE];simp only[go_sem,c169]
 clear hE;refine W.seq ?_;refine W.dr 16 [0,0,0,6,14,0,0,96,0,480,1023,2047,4095,4095,0,24575] mixed ?_;simp only[go_sem,d2,d7,d8,d11,d27,d28,lx7,hai,hvi,hvne,z1,z2];refine⟨.nc [.agg [.lit (.int .i64 p1),.lit (.int .i64 q1)],.lit (.int .i64 0)],[],aY.pure fun H2=>vv H2 _ ⟨rfl,rfl⟩,?_⟩;simp only[go_sem,d2,d7,d8,d11,d27,d28];refine⟨fun x hx=>V,?_⟩;obtain⟨H8,hH8⟩:∃H8,H8=ext Hx2 [.J 0 58 [.lit (.int .i64 p1),.lit (.int .i64 q1)]]:=⟨_,rfl⟩
 have o8:ZP Hx2 H8:=hH8▸.ext _ _
 have n8':H8.A=Hx2.A+1:=by rw[hH8];rfl
 have g30:=dh hH8
 rw[<- hH8];clear hH8;have l78:=ag ((o8.nf _ V).trans ((ox.nf _ V).trans g77));refine W.en (fun E11=>E11 2=.lit (.int .u64 (N:Int)) /\ E11 7=.O H1.A 0 0 /\ E11 8=.Q r.length (ints (aE r)) /\ E11 10=aa i /\ E11 11=.lit (.int .u64 (O:Int)) /\ E11 28=.lit (.int .u64 (O2:Int)) /\ E11 29=aa 0 /\ E11 30=.O Hx2.A 0 0 /\ E11 31=aa 0 /\ E11 169=aa a) (by simp only[go_sem,d2,d7,d8,d10,d11,d28,d29,d169]) fun E11 ⟨y2,y7,y8,y10,y11,y28,y29,y30,y31,y169⟩=>?_
 refine W.seq ?_;refine W.dr 16 [0,0,0,6,14,0,0,96,0,480,1023,2047,4095,4095,0,24575] mixed ?_;simp only[go_sem,y2,y7,y8,y10,y11,y28,l78,hli,hui,hune,z1,z2];refine⟨.nc [.agg [.lit (.int .i64 p2),.lit (.int .i64 q2)],.lit (.int .i64 0)],[],aY.pure fun H2=>vu H2 _ ⟨rfl,rfl⟩,?_⟩;simp only[go_sem,y2,y7,y8,y10,y11,y28];refine⟨fun x hx=>V,?_⟩;obtain⟨H9,hH9⟩:∃H9,H9=ext H8 [.J 0 58 [.lit (.int .i64 p2),.lit (.int .i64 q2)]]:=⟨_,rfl⟩
 have o9:ZP H8 H9:=hH9▸.ext _ _
 have n9:H9.A=H8.A+1:=hH9▸rfl
 have l32:=ag (show H9.get H8.A=some (.J 0 58 [.lit (.int .i64 p2),.lit (.int .i64 q2)]) by rw[hH9];exact cL ..);rw[<- hH9];clear hH9;have l30:=ag ((o9.nf _ V).trans g30);have ck1:=hF1.check bv V;have ck2:=hF2.check bu V;obtain⟨w1,w2⟩:=hF1.bound;obtain⟨w3,w4⟩:=hF2.bound;have q11':=hF1.b1;have q21':=hF2.b1;have cmp:=hF1.cmp gp.1 hF2;have cle:¬R01.bK (dO x r v T2) (dO x r u T2)<0:=by unfold R01.bK;split;omega;split<;>omega
 refine W.en (fun E12=>E12 29=aa 0 /\ E12 30=.O Hx2.A 0 0 /\ E12 31=aa 0 /\ E12 32=.O H8.A 0 0 /\ E12 33=aa 0 /\ E12 169=aa a) (by simp only[go_sem,y29,y30,y31,y169]) fun E12 ⟨r29,r30,r31,r32,r33,r169⟩=>?_
 refine W.vs ?_;simp only[go_sem,r29,r30,r31,r33,l30];refine ak.X (R01.xA p1 q1 (by unfold R01.dR;omega) (by unfold R01.dR;omega) H9 _ ⟨trivial,?_⟩);rw[VD ck1];simp only[go_sem,r32,l32];refine ak.X (R01.xA p2 q2 (by unfold R01.dR;omega) (by unfold R01.dR;omega) H9 _ ⟨trivial,?_⟩);rw[VD ck2];simp only[go_sem,r30,r32,l30,l32];refine ak.X (R01.Uv p1 q1 p2 q2 (by unfold R01.dR;omega) (by unfold R01.dR;omega) (by unfold R01.dR;omega) (by unfold R01.dR;omega) q11' q21' H9 _ ⟨trivial,?_⟩);rw[cmp];generalize R01.bK (dO x r v T2) (dO x r u T2)=cc at cle;simp only[go_sem,cle];refine W.vs ?_;simp only[go_sem,r169,wa];exact⟨V,⟨(ox.trans o8).trans o9,a+1,rfl,V⟩,by rw[h169];simp only[aa,bf];omega⟩
end Go.Proofs
namespace Go.Proofs.YtebhdkihcdmmjaaGreat
open Go.ChangeShapes Go.WideShapes Go.ChangeAt Go.RowKit Go.Hx
def Qt {n:Int}(h:(Lit.int .u64 n).wf=true):0<=n/\n<18446744073709551616:=by
 have:0<=n/\n<=18446744073709551615:=by simpa[Lit.wf,IntKind.min,IntKind.max,IntKind.signed,IntKind.bits] using h
 omega
end Go.Proofs.YtebhdkihcdmmjaaGreat
