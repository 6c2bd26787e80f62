/- Own work: contracts. -/
import Derived.Test.YtjhbjbninamhnaaGreatConG
import Derived.Test.YtjhbjbninamhnaaGreatConF
import Derived.Test.YtjhbjbninamhnaaGreatConC
import Derived.Test.YtjhbjbninamhnaaGreatConB
set_option linter.all false
set_option maxRecDepth 100000
namespace Go.Hx
variable {P:Program}
theorem OwnM.vD {lo n0:Nat}{H H':AHeap}{e1 e0:TypeId}{v:AVal}{ids:List Nat}{rows:List (List AVal)}(h:OwnM lo H e1 e0 v ids rows)(hb:∀ i∈ids,i<n0)(ht:∀ i g n,v=.own i g 0 n 1->i<n0)(hn:H.next<=H'.next)(hk:∀ id,id<n0->H'.get id=H.get id):OwnM lo H' e1 e0 v ids rows :=
 ⟨h.len,h.nd,fun i hi=>⟨(h.rng i hi).1,by have:=(h.rng i hi).2;omega⟩,h.top.keep (Nat.le_refl _) hn fun id g _ _ _ hv=>hk id (ht id g _ hv),fun k id r h1 h2=>by
  rw[hk id (hb id (SK h1))];exact h.row k id r h1 h2⟩
theorem OwnM.Rh {lo:Nat}{H:AHeap}{e1 e0:TypeId}{v:AVal}{ids:List Nat}{rows:List (List AVal)}(h:OwnM lo H e1 e0 v ids rows):∀ i g n,v=.own i g 0 n 1->i<H.next:=fun i g n hv=>by
 rcases h.top with ⟨h1,_⟩|⟨j,g2,_,h2,h3,_⟩
 ·rw[h1]at hv;cases hv
 ·rw[h3]at hv;rw[<- (AVal.own.inj hv).1];exact h2
end Go.Hx
namespace Go.Proofs
open Go.Hx
set_option maxHeartbeats 2000000 in
theorem Ri (d:InfP)(hok:InfOk d)(hf:InfFit d)(h6:d.nodes.length<=6)(p:List (List Int))(hp:PolOk d p)(v0:Nat)(hv0:v0∈az d)(db eb pb rb sb so lo:Nat)(rv:AVal)(ids:List Nat)
  (H:AHeap) (hE:ExH d p v0 db eb pb rb sb so rv H) (hlt:db<H.next/\eb<H.next/\pb<H.next/\rb<H.next/\sb<H.next/\so<H.next) (hni:db ∉ ids/\eb ∉ ids/\pb ∉ ids/\rb ∉ ids/\sb ∉ ids/\so ∉ ids)
  (hM:OwnM lo H 46 3 rv ids ((eG d (fixC p) v0 0).map ints))
  (K:ARes->AHeap->Prop) (hK:∀ H',H.next<=H'.next->(∀ id,id<H.next->id ∉ ids->H'.get id=H.get id)->OwnM lo H' 46 3 rv ids ((eG d (fixC p) v0 (cK d.nodes)).map ints)->K (.ret (.tup [])) H'):
  ae Tryz.prog G0 67 [.ptr so 0 0,.clo 68 [] [.ptr db 0 0,.ptr eb 0 0,.ptr pb 0 0,.ptr rb 0 0,.ptr sb 0 0]] H K:=by
 have n8:=hok.n.n1;have hcards:∀ c∈ao d.nodes,1<=c/\c<=4:=fun c hc=>by
  obtain⟨x,hx,rfl⟩:=S9.1 hc;exact hok.n.card x hx
 have sm:cU (ao d.nodes):=lS (by rw[cM];omega) hcards;obtain⟨hdl,hel,hpl,hrl,hsl,hsol⟩:=hlt;obtain⟨hdi,hei,hpi,hri,hsi,hsoi⟩:=hni;have hidl:∀ i∈ids,i<H.next:=fun i hi=>(hM.rng i hi).2;have htl:=hM.Rh;have lso:=ag hE.hso;unfold vB at lso;have lsoe:∀ L,(ext H L).live so 0=_:=fun L=>(dv hsol).trans lso;refine ae.aZ (n:=19) (rs:=[]) Tryz.func67 rfl rfl rfl (by decide) (by kernel_rfl) (by simp) ?_;simp only[go_sem,lsoe];refine aB.clo (D1 d.nodes (by omega) _ _ ⟨trivial,?_⟩);simp only[go_sem];refine aB.clo (DV (ao d.nodes) _ _ ⟨trivial,?_⟩);simp only[go_sem];obtain⟨H2,hH2⟩:∃ H2,H2=ext (ext H [.arr 0 136 (AVal.clo 68 [] [.ptr db 0 0,.ptr eb 0 0,.ptr pb 0 0,.ptr rb 0 0,.ptr sb 0 0]).cells]) [.arr 0 46 [af (ao d.nodes)]]:=⟨_,rfl⟩
 have n2:H2.next=H.next+2:=by rw[hH2];rfl
 have o2:Over H H2:=by rw[hH2];exact(Over.ext _ _).trans (.ext _ _)
 have g0:H2.get H.next=some (.arr 0 136 [.clo 68 [] [.ptr db 0 0,.ptr eb 0 0,.ptr pb 0 0,.ptr rb 0 0,.ptr sb 0 0]]):=by rw[hH2,gK];exact bB H _ 0 (by simp)
 have g1:H2.get (H.next+1)=some (.arr 0 46 [af (ao d.nodes)]):=by rw[hH2,gK];exact bB H _ 1 (by simp)
 refine W.env fun E hE'=>?_;have e3:E 3=.ptr H.next 0 0:=by rw[hE'];simp only[go_sem]
 have e12:E 12=.clo 143 [] [.ptr (H.next+1) 0 0]:=by rw[hE'];rfl
 clear hE';show W _ _ _ _ _ _ ⟨E,ext (ext H [.arr 0 136 (AVal.clo 68 [] [.ptr db 0 0,.ptr eb 0 0,.ptr pb 0 0,.ptr rb 0 0,.ptr sb 0 0]).cells]) [.arr 0 46 [af (ao d.nodes)]]⟩;rw[<- hH2];have hit:=DU (ao d.nodes) (fun c hc=>(hcards c hc).1) sm (H.next+1) (H2.next+1) (by omega);have hni2:∀ i,H.next<=i->i ∉ ids:=fun i hi hm=>by have:=hidl i hm;omega
 refine W.EA (f:=143) (first:=[]) (cap:=[.ptr (H.next+1) 0 0]) (by show E 12=_;exact e12) hit
  (fun k Hx=>H2.next<Hx.next/\(∀ id,id<H2.next->id ∉ ids->Hx.get id=H2.get id)/\OwnM lo Hx 46 3 rv ids ((eG d (fixC p) v0 k).map ints))
  (fun _ _=>False)
  (fun k Hx h=>(h.2.1 _ (by omega) (hni2 _ (by omega))).trans g1)
  (fun k H1 H3 h hw=>⟨by have:=hw.1;omega,fun id h1 h2=>(hw.2 _ (by omega) (by have:=h.1;omega)).trans (h.2.1 id h1 h2),h.2.2.vD hidl htl hw.1 fun id hi=>hw.2 id (by omega) (by have:=h.1;omega)⟩)
  (fun k Hx h=>h.1)
  (fun k H1 b h=>⟨h.1,fun id h1 h2=>by rw[ab,SO (by omega)];exact h.2.1 id h1 h2,h.2.2.vD hidl htl (by rw[aw];exact Nat.le_refl _) fun id hi=>by rw[ab,SO (by omega)]⟩)
  (fun _ _ _ h=>h) (fun k H1 b h=>by unfold pQ at h ⊢;rw[ab,SO (by omega)];exact h)
  (fun b=>⟨by rw[bI];simp,fun id h1 h2=>cz h1,hM.vD hidl htl (by rw[bI];omega) fun id hi=>by rw[cz (by omega),o2.old _ hi]⟩) (by decide)
  (fun x hx=>by
   obtain⟨k,hk⟩:=S8.1 hx;obtain⟨_,rfl⟩:=vp hk;rfl) (fun _ _ _=>trivial) (fun _ _ _=>trivial) (fun k y Hx B Bb hy hj hcs hn hB hBb=>?_) (fun Hx hj hn=>?_) (fun _ hs _=>hs.elim) (fun _ _ hs _=>hs.elim)
 ·obtain⟨hk,rfl⟩:=vp hy;refine W.vs ?_;simp only[go_sem,iZ,cW,mR,TX,UX,Uf,UG,hB];obtain⟨H3,hH3⟩:∃ H3,H3=Hx.upd H2.next Bb:=⟨_,rfl⟩
  rw[<- hH3];obtain⟨st,pd,n',en,ps',as',bo,hBe⟩:=hBb;have n3:H3.next=Hx.next:=by rw[hH3];rfl
  have o3:∀ id,id≠H2.next->H3.get id=Hx.get id:=fun id h=>by rw[hH3,ab,SO h]
  have jB:H3.get H2.next=some Bb:=by rw[hH3,ab,SQ rfl]
  have k0:=ag ((o3 _ (by omega)).trans ((hj.2.1 H.next (by omega) (hni2 _ (by omega))).trans g0));have kN:H3.get (H2.next+1)=some (.arr 0 3 (ints (bC (ao d.nodes) k))):=(o3 _ (by omega)).trans hcs;have kold:∀ id,id<H.next->id ∉ ids->H3.get id=H.get id:=fun id h1 h2=>by rw[o3 _ (by omega),hj.2.1 _ (by omega) h2,o2.old _ h1]
  have hE3:ExH d p v0 db eb pb rb sb so rv H3:=hE.keep fun id hi=>by
   rcases hi with rfl|rfl|rfl|rfl|rfl|rfl
   ·exact kold _ hdl hdi
   ·exact kold _ hel hei
   ·exact kold _ hpl hpi
   ·exact kold _ hrl hri
   ·exact kold _ hsl hsi
   ·exact kold _ hsol hsoi
  have hM3:OwnM lo H3 46 3 rv ids ((eG d (fixC p) v0 k).map ints):=hj.2.2.vD hidl htl (by omega) fun id hi=>o3 id (by omega);refine W.en (fun E1=>E1 3=.ptr H.next 0 0 /\ E1 4=aa k /\ E1 5=.own (H2.next+1) 0 0 d.nodes.length 1) (by simp only[go_sem,cW,e3,cM]) fun E1 ⟨m3,m4,m5⟩=>?_
  refine W.vs ?_;simp only[go_sem,m3,m4,m5,k0];refine aB.clo (Rg d hok hf h6 p hp v0 hv0 k hk db eb pb rb sb so (H2.next+1) d.nodes.length lo rv ids H3 hE3 hM3 kN (by omega) rfl _ fun H4 h4n h4o h4M=>⟨⟨_,_,_,_,_,_,_,by rw[h4o _ (hni2 _ (by omega)),jB,hBe]⟩,?_⟩);simp only[go_sem,gG];refine⟨by rw[h4o _ (hni2 _ (by omega))];exact jB,by omega,⟨by omega,fun id h1 h2=>by rw[h4o _ h2,o3 _ (by omega)];exact hj.2.1 id h1 h2,h4M⟩,?_⟩;unfold pQ;rw[h4o _ (hni2 _ (by omega))];exact kN
 ·simp only[go_sem];have hl:(lM (ao d.nodes) (H2.next+1)).length=cK d.nodes:=ze ..;rw[hl]at hj;exact ay.mk (by omega) (hK Hx (by omega) (fun id h1 h2=>(hj.2.1 id (by omega) h2).trans (o2.old _ h1)) hj.2.2)
def gW (d:InfP)(c:Nat->Nat->Int)(v:Nat):List (List Int):=(List.range (cH d v)).map fun r=>jR d c v r (bV d v)
theorem Rj (d:InfP)(c:Nat->Nat->Int)(v:Nat):eG d c v (cK d.nodes)=gW d c v:=rfl
set_option maxHeartbeats 4000000 in
theorem Rk (d:InfP)(hok:InfOk d)(hf:InfFit d)(h6:d.nodes.length<=6)(p:List (List Int))(hp:PolOk d p)(hpf:mK p)(v0:Nat)(hv0:v0∈az d)
  (H:AHeap) (K:ARes->AHeap->Prop) (hK:K (.ret (.tup [ah (gW d (fixC p) v0),aa 0])) H):ae Tryz.prog G0 23 [jd d,ah p,aa v0] H K:=by
 refine ae.clo ⟨_,Tryz.func23,rfl,rfl⟩ fun hcl=>?_;have n8:=hok.n.n1;have hD:=hf.decs;obtain⟨v01,v02⟩:=dD.1 hv0;obtain⟨x,hx⟩:=get_of_lt v01;have hxc:=hok.n.card x (SK hx);obtain⟨nr,nc⟩:=lG hx (by omega);obtain⟨hrn,hxp,hin,ps⟩:=vC hok hx;have hrc:=nO hok v01 v02;have hnr:1<=cH d v0/\cH d v0<=1024:=by unfold cH;omega
 refine ae.aZ (n:=74) (rs:=[.tmp 6,.tmp 7]) Tryz.func23 rfl rfl rfl (by decide) (by kernel_rfl) (by simp) ?_;simp only[go_sem,kJ,cT];refine aB.clo (zc d hf p hpf _ _ ⟨trivial,?_⟩);rw[P4 hok hp];have c1:¬ (v0:Int)<0:=by omega
 have c2:¬ (v0:Int) >= d.nodes.length:=by omega
 have s1:=fun t x y=>kP (P:=Tryz.prog) (t:=t) (x:=x) (y:=y) (k':=.i64) (s:=v0) hD;have s2:=fun t x y=>mQ (P:=Tryz.prog) (t:=t) (x:=x) (y:=y) (s:=v0) hD;simp only[go_sem,c1,c2,s1,s2,v02];obtain⟨R,hR⟩:∃ R,R=ext H [.arr 0 38 [.lit (.int .i64 d.grain),.vec d.nodes.length (aG d.nodes),.lit (.int .u64 (d.decs:Int)),.vec d.utils.length (aR d.utils)],.arr 0 33 [ah p],.arr 0 3 [.lit (.int .i64 v0)],
  .arr 0 130 [.lit (.int .i64 d.grain),.vec d.nodes.length (aG d.nodes),.lit (.int .u64 (d.decs:Int)),.vec d.utils.length (aR d.utils),.lit (.slice none 0 0),.lit (.slice none 0 0),.lit (.slice none 0 0),.lit (.int .i64 0)],.arr 0 110 [.ptr (H.next+3) 0 0]]:=⟨_,rfl⟩
 have nR:R.next=H.next+5:=by rw[hR];rfl
 have oR:Over H R:=by rw[hR];exact .ext _ _
 have g0:R.get H.next=some (kK d):=by rw[hR];exact bB H _ 0 (by simp)
 have g1:R.get (H.next+1)=some (.arr 0 33 [ah p]):=by rw[hR];exact bB H _ 1 (by simp)
 have g2:R.get (H.next+2)=some (.arr 0 3 [.lit (.int .i64 v0)]):=by rw[hR];exact bB H _ 2 (by simp)
 have g3:R.get (H.next+3)=some (.arr 0 130 [.lit (.int .i64 d.grain),.vec d.nodes.length (aG d.nodes),.lit (.int .u64 (d.decs:Int)),.vec d.utils.length (aR d.utils),.lit (.slice none 0 0),.lit (.slice none 0 0),.lit (.slice none 0 0),.lit (.int .i64 0)]):=by rw[hR];exact bB H _ 3 (by simp)
 have g4:R.get (H.next+4)=some (.arr 0 110 [.ptr (H.next+3) 0 0]):=by rw[hR];exact bB H _ 4 (by simp)
 rw[<- hR];refine W.en (fun E=>E 3=.ptr H.next 0 0 /\ E 4=.ptr (H.next+1) 0 0 /\ E 5=.ptr (H.next+2) 0 0 /\ E 9=.ptr (H.next+4) 0 0) (by simp only[go_sem]) fun E ⟨e3,e4,e5,e9⟩=>?_
 have l0:=ag g0;have l1:=ag g1;have l2:=ag g2;have l3:=ag g3;have l4:=ag g4;unfold cT at l0;refine W.draw 10 [0,0,0,4,12,28,28,61,189,445] Tryz.mixed (by kernel_rfl) (by kernel_rfl) ?_;simp only[go_sem,e3,e9,l0,l4];refine⟨.tup [af (fb d),af (fg d)],[],bO.pure fun H2=>Rc d hok hD H2 _ ⟨rfl,rfl⟩,?_⟩;simp only[go_sem,e3,e9,l3];refine⟨fun x h=>by omega,?_⟩;obtain⟨R2,hR2⟩:∃ R2,R2=(R.upd (H.next+3) (.arr 0 130 [.lit (.int .i64 d.grain),.vec d.nodes.length (aG d.nodes),.lit (.int .u64 (d.decs:Int)),.vec d.utils.length (aR d.utils),.lit (.slice none 0 0),.vec (fb d).length (ints (fb d)),.lit (.slice none 0 0),.lit (.int .i64 0)])).upd (H.next+3)
  (.arr 0 130 [.lit (.int .i64 d.grain),.vec d.nodes.length (aG d.nodes),.lit (.int .u64 (d.decs:Int)),.vec d.utils.length (aR d.utils),.lit (.slice none 0 0),.vec (fb d).length (ints (fb d)),.vec (fg d).length (ints (fg d)),.lit (.int .i64 0)]):=⟨_,rfl⟩
 rw[<- hR2];have nR2:R2.next=H.next+5:=by rw[hR2];exact nR
 have oR2:Over H R2:=by rw[hR2];exact(oR.upd (by omega) _).upd (by omega) _
 have k2:∀ id,id≠H.next+3->R2.get id=R.get id:=fun id h=>by rw[hR2,ab,SO h,ab,SO h]
 have k3:R2.get (H.next+3)=some (.arr 0 130 (vB d)):=by rw[hR2,ab,SQ rfl];rfl
 have m0:=ag ((k2 _ (by omega)).trans g0);have m2:=ag ((k2 _ (by omega)).trans g2);unfold cT at m0;simp only[go_sem,e5,m0,m2];refine aB.clo (zi d.nodes v0 x hx hin ps _ _ ⟨trivial,?_⟩);rw[<- hrn];simp only[go_sem];obtain⟨n,hn⟩:∃ n,n=bH d.nodes x:=⟨_,rfl⟩
 obtain⟨cN,hcN⟩:∃ c,c=bV d v0:=⟨_,rfl⟩
 rw[<- hn]at nr ⊢;rw[nr]at hnr;rw[<- hcN]at nc;refine⟨by omega,?_⟩;obtain⟨R3,hR3⟩:∃ R3,R3=ext R2 [.arr 0 46 (List.replicate n (.lit (.slice none 0 0))),.arr 0 33 [.own R2.next 0 0 n 1]]:=⟨_,rfl⟩
 have nR3:R3.next=H.next+7:=by rw[hR3,bI,nR2];rfl
 have oR3:Over R2 R3:=by rw[hR3];exact .ext _ _
 have k5:R3.get R2.next=some (.arr 0 46 (List.replicate n (.lit (.slice none 0 0)))):=by rw[hR3];exact bB R2 _ 0 (by simp)
 have k6:R3.get (R2.next+1)=some (.arr 0 33 [.own R2.next 0 0 n 1]):=by rw[hR3];exact bB R2 _ 1 (by simp)
 rw[<- hR3];refine W.en (fun E1=>E1 3=.ptr H.next 0 0 /\ E1 4=.ptr (H.next+1) 0 0 /\ E1 5=.ptr (H.next+2) 0 0 /\ E1 9=.ptr (H.next+4) 0 0 /\ E1 10=.ptr (R2.next+1) 0 0 /\ E1 55=aa n /\ E1 56=aa 0) (by simp only[go_sem,e3,e4,e5,e9]) fun E1 ⟨f3,f4,f5,f9,f10,f55,f56⟩=>?_
 let cs:Nat->List AVal:=fun k=>(List.range k).map (fun j=>AVal.own (H.next+7+j) 0 0 cN 1)++List.replicate (n - k) (.lit (.slice none 0 0))
 have csl:∀ k,k<=n->(cs k).length=n:=fun k hk=>by show (_++_:List AVal).length=n;simp;omega
 have cs_set:∀ k,k<n->setAt (cs k) k [.own (H.next+7+k) 0 0 cN 1]=cs (k+1):=fun k hk=>by
  show setAt (_++List.replicate (n - k) _) k _=_++_;rw[show n - k=(n - (k+1))+1 by omega,TZ,Ey (by simp),T4,TI,List.append_assoc];rfl
 have cs0:cs 0=List.replicate n (.lit (.slice none 0 0)):=by show _++_=_;simp
 refine W.aL 1180519563123373377536 (by rfl) (fun ρ H'=>∃ k:Nat,ρ 56=aa k/\k<=n/\H'.next=H.next+7+k/\(∀ id,id<H.next+7->id≠R2.next->H'.get id=R3.get id)/\H'.get R2.next=some (.arr 0 46 (cs k))/\∀ j,j<k->H'.get (H.next+7+j)=some (.arr 0 3 (ints (List.replicate cN 0)))) (fun ρ H=>n - (iv (ρ 56)).toNat) ?_ ?_
 ·simp only[go_sem,f56];exact⟨0,rfl,by omega,by omega,by rw[cs0];exact k5,fun j hj=>absurd hj (S7 _)⟩
 rintro ρ H' ⟨k,h56,hk,hnx,hold,htop,hrows⟩;refine W.en (fun E2=>E2 3=.ptr H.next 0 0 /\ E2 4=.ptr (H.next+1) 0 0 /\ E2 5=.ptr (H.next+2) 0 0 /\ E2 9=.ptr (H.next+4) 0 0 /\ E2 10=.ptr (R2.next+1) 0 0 /\ E2 55=aa n /\ E2 56=aa k) (by simp only[go_sem,f3,f4,f5,f9,f10,f55,h56]) fun E2 ⟨p3,p4,p5,p9,p10,p55,p56⟩=>?_
 have q0:=(hold H.next (by omega) (by omega)).trans ((oR3.old _ (by omega)).trans ((k2 _ (by omega)).trans g0));have q1:=(hold (H.next+1) (by omega) (by omega)).trans ((oR3.old _ (by omega)).trans ((k2 _ (by omega)).trans g1));have q2:=(hold (H.next+2) (by omega) (by omega)).trans ((oR3.old _ (by omega)).trans ((k2 _ (by omega)).trans g2));have q3:=(hold (H.next+3) (by omega) (by omega)).trans ((oR3.old _ (by omega)).trans k3);have q4:=(hold (H.next+4) (by omega) (by omega)).trans ((oR3.old _ (by omega)).trans ((k2 _ (by omega)).trans g4));have q6:=(hold (R2.next+1) (by omega) (by omega)).trans k6;refine W.vs ?_;by_cases hb:(k:Int)<n
 ·have ec:=iJ hx;rw[<- nc]at ec;have hne:=dC hx;have hvn:(v0:Int)<d.nodes.length:=by omega
  have w1:=SM ((k:Int)+1) (by omega);have i0:=ag q0;have i2:=ag q2;have i6:=ag q6;have it:=ag htop;unfold cT at i0;have hcb:(cN:Int)*8<=2 ^ 46/\(cN:Int)<=2 ^ 46:=by omega
  have hrep:List.replicate cN (AVal.lit (.int .i64 0))=ints (List.replicate cN 0):=by simp [ints,aa]
  have hset:=cs_set k (by omega);rw[<- hnx]at hset;have hcl:=csl k (by omega);have i0e:∀ L,(ext H' L).live H.next 0=_:=fun L=>(dv (by omega)).trans i0;have ite:∀ L,(ext H' L).live R2.next 0=_:=fun L=>(dv (by omega)).trans it;simp only[go_sem,p55,p56,hb];refine W.draw 9 [0,0,0,4,0,28,60,124,252] Tryz.mixed (by kernel_rfl) (by kernel_rfl) ?_;simp only[go_sem,p3,p5,p10,p56,hb,i0,i2,i6,ite,ec,hne,hvn,hcb,hrep,hset,w1];refine⟨fun x h=>by omega,by omega,by rw[aw,bI];omega,⟨k+1,by simp,by omega,by rw[aw,bI,hnx];rfl,fun id h1 h2=>by rw[ab,SO h2,cz (by omega)];exact hold id h1 h2,by rw[ab,SQ rfl],fun j hj=>?_⟩,by rw[h56];simp only[aa,aQ];omega⟩;rw[ab,SO (by omega)];by_cases hjk:j=k
  ·subst hjk;rw[<- hnx];exact bT
  ·rw[cz (by omega)];exact hrows j (by omega)
 ·have hkn:k=n:=by omega
  subst hkn;have i4:=ag q4;simp only[go_sem,p3,p4,p5,p9,p10,p55,p56,hb,i4];have csn:cs k=(List.range k).map (fun j=>AVal.own (H.next+7+j) 0 0 cN 1):=by show _++_=_;simp
  obtain⟨ids,hids⟩:∃ ids,ids=(List.range k).map (fun j=>H.next+7+j):=⟨_,rfl⟩
  have hidm:∀ i∈ids,H.next+7<=i/\i<H'.next:=fun i hi=>by
   rw[hids]at hi;obtain⟨j,hj,rfl⟩:=S9.1 hi;have:=To.1 hj;omega
  have hzip:List.zipWith (fun i n=>AVal.own i 0 0 n 1) ids (((eG d (fixC p) v0 0).map ints).map List.length)=cs k:=by
   rw[csn,hids,El,nr,<- hcN];apply Tk;intro j;rw[Vk,List.getElem?_map,List.getElem?_map,List.getElem?_map,List.getElem?_map,TR];by_cases hj:j<k
   ·rw[Tn hj,SQ hj];simp [aP]
   ·rw[SV (by rw[TJ];omega)];rfl
  have hM:OwnM H.next H' 46 3 (.own R2.next 0 0 k 1) ids ((eG d (fixC p) v0 0).map ints):=by
   refine⟨by rw[hids,SZ,SZ,TJ,sf,nr],by rw[hids];exact(List.pairwise_map (f:=fun j=>H.next+7+j)).2 (List.Pairwise.imp (fun {a b} h e=>h (by omega)) Vd),fun i hi=>by have:=hidm i hi;omega,.inr ⟨R2.next,0,by omega,by omega,by rw[hzip,csl k (Nat.le_refl _)],by rw[hzip];exact htop⟩,fun j id r h1 h2=>?_⟩;rw[hids,List.getElem?_map]at h1;rw[El,nr,<- hcN,List.getElem?_map,TR]at h2;by_cases hj:j<k
   ·rw[Tn hj]at h1;rw[SQ hj]at h2;cases h1;cases h2;exact hrows j hj
   ·rw[SO hj]at h2;cases h2
  have hnotin:∀ i,i<H.next+7->i ∉ ids:=fun i hi hm=>by have:=hidm i hm;omega
  have hE:ExH d p v0 H.next (H.next+2) (H.next+1) (R2.next+1) (H.next+4) (H.next+3) (.own R2.next 0 0 k 1) H':=⟨q0,q2,q1,q6,q4,q3⟩
  refine aB.clo (Ri d hok hf h6 p hp v0 hv0 H.next (H.next+2) (H.next+1) (R2.next+1) (H.next+4) (H.next+3) H.next (.own R2.next 0 0 k 1) ids H' hE ⟨by omega,by omega,by omega,by omega,by omega,by omega⟩ ⟨hnotin _ (by omega),hnotin _ (by omega),hnotin _ (by omega),hnotin _ (by omega),hnotin _ (by omega),hnotin _ (by omega)⟩ hM _ fun H4 h4n h4o h4M=>⟨trivial,?_⟩);have j6:=ag ((h4o (R2.next+1) (by omega) (hnotin _ (by omega))).trans q6);simp only[go_sem,p10,j6];rw[Rj]at h4M;refine ay.bx aS hcl ⟨by omega,fun id hi=>?_⟩ ?_ hK
  ·rw[h4o id (by omega) (hnotin _ (by omega)),hold id (by omega) (by omega),oR3.old _ (by omega),oR2.old _ hi]
  ·have:=h4M.fz (S:=fun id=>H.next<=id) (nx:=H.next) (fun i hi=>hi) fun r hr c hc=>by
    obtain⟨l,_,rfl⟩:=S9.1 hr;obtain⟨z,_,rfl⟩:=S9.1 hc;exact .lit _
   rw[U6,SZ]at this;refine .tup rfl fun i hi _=>match i,hi with
    | 0,_=>?_
    | 1,_=>.lit _
   have e:(List.map ((fun r=>AVal.vec r.length r) ∘ ints) (gW d (fixC p) v0))=(gW d (fixC p) v0).map af:=Ti fun l _=>by show AVal.vec (ints l).length (ints l)=_;rw[aP];rfl
   rw[e]at this;exact this
def fh (d:InfP)(c:Nat->Nat->Int)(v0 X k r y:Nat):Int:=if y<X then gC d c v0 r (y:Int) else if y=X then ed d c v0 r (y:Int) k else 0
def fB (d:InfP)(c:Nat->Nat->Int)(v0 X k r:Nat):List Int:=(List.range (bV d v0)).map (fh d c v0 X k r)
def fP (d:InfP)(c:Nat->Nat->Int)(v0 X k:Nat):List (List Int):=(List.range (cH d v0)).map (fB d c v0 X k)
theorem pX (d:InfP)(c:Nat->Nat->Int)(v0 X k r:Nat):(fB d c v0 X k r).length=bV d v0:=by simp [fB]
theorem ss (d:InfP)(c:Nat->Nat->Int)(v0 X k:Nat):(fP d c v0 X k).length=cH d v0:=by simp [fP]
theorem zU {d:InfP}{c:Nat->Nat->Int}{v0 X k r:Nat}(h:r<cH d v0):(fP d c v0 X k)[r]?=some (fB d c v0 X k r):=by unfold fP;rw[List.getElem?_map,Tn h];rfl
theorem zV {d:InfP}{c:Nat->Nat->Int}{v0 X k r y:Nat}(h:y<bV d v0):(fB d c v0 X k r)[y]?=some (fh d c v0 X k r y):=by unfold fB;rw[List.getElem?_map,Tn h];rfl
theorem Sp (d:InfP)(c:Nat->Nat->Int)(v0:Nat):fP d c v0 0 0=List.replicate (cH d v0) (List.replicate (bV d v0) 0):=by
 have e:∀ r y,fh d c v0 0 0 r y=0:=fun r y=>by
  unfold fh ed;rw[SO (S7 _),uS];split<;>rfl
 unfold fP fB;have e1:∀ r,(List.range (bV d v0)).map (fh d c v0 0 0 r)=List.replicate (bV d v0) 0:=fun r=>by
  rw[Ti (g:=fun _=>(0:Int)) fun y _=>e r y,UK,TJ]
 rw[Ti (g:=fun _=>List.replicate (bV d v0) (0:Int)) fun r _=>e1 r,UK,TJ]
theorem Sq (d:InfP)(c:Nat->Nat->Int)(v0 X:Nat):fP d c v0 X (cK d.nodes)=fP d c v0 (X+1) 0:=by
 unfold fP fB;refine Ti fun r _=>Ti fun y _=>?_;unfold fh;by_cases h:y<X
 ·rw[SQ h,SQ (by omega)]
 ·rw[SO h];by_cases h2:y=X
  ·subst h2;rw[SQ rfl,SQ (by omega)];exact Em ..
  ·rw[SO h2,SO (by omega)];by_cases h3:y=X+1
   ·rw[SQ h3];rfl
   ·rw[SO h3]
theorem Sr (d:InfP)(c:Nat->Nat->Int)(v0:Nat):fP d c v0 (bV d v0) 0=gW d c v0:=by
 unfold fP fB gW jR;refine Ti fun r _=>Ti fun y hy=>?_;unfold fh;rw[SQ (To.1 hy)]
def gX (d:InfP)(p:List (List Int))(v0 X:Nat):List (List Int):=p.set (aX d.decs v0) (List.replicate (cH d v0) (X:Int))
theorem Fu {d:InfP}(hok:InfOk d){p:List (List Int)}(hp:PolOk d p){v0 X:Nat}(hv:v0∈az d)(hX:X<bV d v0):PolOk d (gX d p v0 X):=by
 obtain⟨v1,v2⟩:=dD.1 hv;obtain⟨x,hx⟩:=get_of_lt v1;have hc:=hok.n.card x (SK hx);obtain⟨n1,n2⟩:=lG hx (by omega);refine Dc hp hx v2 (by rw[Tl,n1]) fun a ha=>?_;have:=Tz ha;omega
theorem Ss {d:InfP}(hok:InfOk d){p:List (List Int)}(hp:PolOk d p){v0 X:Nat}(hv:v0∈az d){vals:List Int}(hf:bL (ao d.nodes) vals):
  jQ d (fixC (gX d p v0 X)) vals=true↔eE d (fixC p) v0 vals=true/\vals.getD v0 0=(X:Int):=by
 obtain⟨v1,v2⟩:=dD.1 hv;obtain⟨x,hx⟩:=get_of_lt v1;have hc:=hok.n.card x (SK hx);obtain⟨n1,_⟩:=lG hx (by omega);have hr:=(pI hok hx hf).2;have hpl:=rT hp hv;have e1:fixC (gX d p v0 X) (aX d.decs v0) (cX d.nodes v0 vals)=(X:Int):=by
  unfold gX;rw[uW hpl,SQ rfl,Td,TR,SQ (by omega)];rfl
 have e2:eE d (fixC (gX d p v0 X)) v0 vals=eE d (fixC p) v0 vals:=by
  unfold eE;have hk:∀ v∈az d,(decide (v=v0) || iL d (fixC (gX d p v0 X)) vals v)=(decide (v=v0) || iL d (fixC p) vals v):=fun v hvm=>by
   by_cases hvv:v=v0
   ·simp [hvv]
   ·unfold iL gX;rw[uW hpl,SO fun e=>hvv (Db hvm hv e)]
  rw[Uk,Tf,Tf];exact⟨fun h1 v hv=>by rw[<- hk v hv];exact h1 v hv,fun h1 v hv=>by rw[hk v hv];exact h1 v hv⟩
 rw[yK hv,e2,e1];exact⟨fun ⟨a,b⟩=>⟨a,b.symm⟩,fun ⟨a,b⟩=>⟨a,b.symm⟩⟩
theorem Su {d:InfP}(hok:InfOk d){p:List (List Int)}(hp:PolOk d p){v0 X k r:Nat}(hv:v0∈az d)(hX:X<bV d v0)(hr:cX d.nodes v0 (wv d k)=r)(hrn:r<cH d v0):
  fP d (fixC p) v0 X (k+1)=(fP d (fixC p) v0 X k).set r ((fB d (fixC p) v0 X k r).set X (fh d (fixC p) v0 X k r X+bU d.nodes d.utils (wv d k)*weight (bP d (fixC (gX d p v0 X))) (wv d k))):=by
 have hf:=uT hok k;have hg:bU d.nodes d.utils (wv d k)*weight (bP d (fixC (gX d p v0 X))) (wv d k)=if eE d (fixC p) v0 (wv d k)=true/\cX d.nodes v0 (wv d k)=r/\(wv d k).getD v0 0=(X:Int) then eZ d (wv d k) else 0:=by
  rw[Pv hok (zb (Fu hok hp hv hX)) hf];have:=Ss hok hp (X:=X) hv hf;by_cases h:jQ d (fixC (gX d p v0 X)) (wv d k)=true
  ·obtain⟨a,b⟩:=this.1 h;rw[SQ h,SQ ⟨a,hr,b⟩,Ur];rfl
  ·rw[SO h,SO fun ⟨a,_,b⟩=>h (this.2 ⟨a,b⟩),Int.mul_zero]
 rw[hg];have hst:∀ i y,fh d (fixC p) v0 X (k+1) i y=fh d (fixC p) v0 X k i y+if y=X/\i=r then (if eE d (fixC p) v0 (wv d k)=true/\cX d.nodes v0 (wv d k)=r/\(wv d k).getD v0 0=(X:Int) then eZ d (wv d k) else 0) else 0:=fun i y=>by
  unfold fh;by_cases h:y<X
  ·rw[SQ h,SQ h,SO (by omega),UA]
  ·rw[SO h,SO h];by_cases h2:y=X
   ·subst h2;rw[SQ rfl,SQ rfl];unfold ed;rw[gz];by_cases h3:i=r
    ·subst h3;rw[SQ (show y=y/\i=i from ⟨rfl,rfl⟩)]
    ·rw[SO fun e=>h3 (by rw[<- hr];exact e.2.1.symm),SO fun e=>h3 e.2]
   ·rw[SO h2,SO h2,SO fun e=>h2 e.1,UA]
 apply Tk;intro i;rw[TL,ss];by_cases hi:i<cH d v0
 ·rw[zU hi,zU hi];by_cases hri:r=i
  ·subst hri;rw[SQ rfl,SQ hi];congr 1;apply Tk;intro j;rw[TL,pX];by_cases hj:j<bV d v0
   ·rw[zV hj,zV hj,hst];by_cases hxj:X=j
    ·subst hxj;rw[SQ rfl,SQ hj,SQ ⟨rfl,rfl⟩]
    ·rw[SO hxj,SO fun e=>hxj e.1.symm,UA]
   ·rw[SV (by rw[pX];omega),SV (by rw[pX];omega),SO (by omega)]
    try (split<;>rfl)
  ·rw[SO hri];congr 1;unfold fB;refine Ti fun j _=>?_;rw[hst,SO fun e=>hri e.2.symm,UA]
 ·rw[SV (by rw[ss];omega),SV (by rw[ss];omega),SO (by omega)]
  try (split<;>rfl)
theorem Sv {d:InfP}(hok:InfOk d)(h6:d.nodes.length<=6)(c:Nat->Nat->Int)(v0 X k r y:Nat)(hk:k<=cK d.nodes):-20000000000000000<=fh d c v0 X k r y/\fh d c v0 X k r y<=20000000000000000:=by
 have hw:=Eo hok;have h1:=zz hok h6 c v0 r (y:Int) k;have h2:=zz hok h6 c v0 r (y:Int) (cK d.nodes);rw[Em]at h2;unfold fh;split
 ·omega
 ·split<;>omega
theorem RC {d:InfP}(hn:RightN d)(hsz:au (ao d.nodes)<=1024):cR d=bP d fun _ _=>0:=by
 apply Tk;intro v;rcases Te v d.nodes.length with hv|hv
 ·obtain⟨x,hx⟩:=get_of_lt hv;rw[pK hx,eF hx];unfold iq;by_cases hb:d.decs.testBit v=true
  ·obtain⟨x1,x2⟩:=hn.dec v x hx hb;have hc:=hn.card x (SK hx);rw[SQ ⟨hb,x1,hc.1,hc.2⟩,jW hx hb];have hle:=rU x2 hn.card;rw[Dq (fun q hq=>by have:=x2.2 q hq;omega) hn.card (by omega),x1,List.nil_append];congr 2;unfold cG bH;rw[UK,TJ]
  ·rw[SO fun h=>hb h.1,jj hb]
 ·rw[SV (by rw[jh];exact hv),SV (by rw[dE];exact hv)]
theorem zH (d:InfP)(v:Nat)(x:NodeP):(iq d v x).card=x.card/\(iq d v x).parents=x.parents:=by
 unfold iq;split<;>exact⟨rfl,rfl⟩
theorem zI (d:InfP):ao (cR d)=ao d.nodes:=by
 apply Tk;intro v;unfold ao;rw[List.getElem?_map,List.getElem?_map];rcases Te v d.nodes.length with hv|hv
 ·obtain⟨x,hx⟩:=get_of_lt hv;rw[pK hx,hx];simp [(zH d v x).1]
 ·rw[SV (by rw[jh];exact hv),SV hv]
structure RightA (d:InfP):Prop where
 n1:1<=d.nodes.length/\d.nodes.length<=8
 decs:d.decs >>> d.nodes.length=0
 ul:d.utils.length<=4
def EB (d:InfP)(k:Nat):Prop:=∀ v x,v<k->d.nodes[v]?=some x->d.decs.testBit v=true->x.rows=[]
theorem sh {d:InfP}:InfOk d↔RightA d/\EB d d.nodes.length/\NetOk d.grain (cR d)/\∀ u∈d.utils,UtilOk d.nodes u:=by
 constructor
 ·intro h;refine⟨⟨h.n.n1,h.n.decs,h.utils.1⟩,fun v x _ hx hb=>(h.n.dec v x hx hb).1,?_,h.utils.2⟩;rw[yU h];exact h.net
 ·rintro⟨ha,hd,hn,hu⟩;have hg:∀ x∈d.nodes,(1<=x.card/\x.card<=4)/\bK x.parents d.nodes.length:=fun x hx=>by
   obtain⟨v,hv⟩:=S8.1 hx;have h1:=hn.node _ (SK (pK hv));rw[(zH d v x).1,(zH d v x).2,jh]at h1;exact h1
  have hR:RightN d:=⟨ha.n1,ha.decs,fun x hx=>(hg x hx).1,fun v x hx hb=>⟨hd v x (get_lt hx) hx hb,(hg x (SK hx)).2⟩⟩
  have hs:=hn.size;rw[zI]at hs;exact⟨hR,by rw[<- RC hR hs];exact hn,ha.ul,hu⟩
theorem RD {d:InfP}(hf:InfFit d){v:Nat}{x:NodeP}(hx:x∈d.nodes):((iq d v x).parents.length:Int)<2 ^ 38/\((iq d v x).rows.length:Int)<2 ^ 38/\∀ r∈(iq d v x).rows,(r.length:Int)<2 ^ 38:=by
 obtain⟨h1,h2,h3⟩:=hf.nodes.2 x hx;unfold iq;split
 ·rename_i hc;have hr:=yT d.nodes x.parents;refine⟨h1,by simp;omega,fun r hr=>?_⟩;rw[Tz hr,rV];omega
 ·exact⟨h1,h2,h3⟩
theorem RE {d:InfP}(hf:InfFit d):pU (cR d):=by
 refine⟨by rw[jh];exact hf.nodes.1,fun y hy=>?_⟩;obtain⟨v,hv⟩:=S8.1 hy;have hl:=get_lt hv;rw[jh]at hl;obtain⟨x,hx⟩:=get_of_lt hl;rw[pK hx]at hv;cases hv;exact RD hf (SK hx)
set_option maxHeartbeats 2000000 in
theorem RF (ns : List NodeP) (h8 : ns.length ≤ 8) (hc : ∀ y ∈ ns, 1 ≤ y.card ∧ y.card ≤ 4) (u : UtilP) (f1 : (u.vars.length : Int) < 2 ^ 38) (f2 : (u.w.length : Int) < 2 ^ 38) (H : AHeap) (K : ARes → AHeap → Prop) (hK : K (.ret (.lit (.bool (kL (UtilOk ns u))))) H) :
    ae Tryz.prog G0 55 [.agg u.cells, af (ao ns)] H K := by
  refine ae.clo ⟨_, Tryz.func55, rfl, rfl⟩ fun hcl => ?_;have hcl':(ao ns).length = ns.length := by simp [ao]
  refine ae.jD (n := 44) (rs := [.tmp 4]) Tryz.func55 rfl rfl rfl (by decide) (by simp) ?_;refine W.sq ?_;simp only[go_sem, UtilP.cells, di];obtain⟨R, hR⟩:∃ R, R = ext H [.arr 0 82 [.vec u.vars.length (ints u.vars), .vec u.w.length (ints u.w)]] := ⟨_, rfl⟩
  have oR:Over H R := by rw[hR]; exact .ext _ _
  have l0:R.live H.next 0 = some (82, [.vec u.vars.length (ints u.vars), .vec u.w.length (ints u.w)]) := by rw[hR]; exact ag (bQ ..)
  rw[<- hR];have no:¬ UtilOk ns u -> ay Tryz.prog G0 H K (.lit (.bool false)) R := fun h => ay.bx aS hcl oR (.lit _) (by rw[eQ h]at hK; exact hK);refine W.env fun E hE => ?_;have e1:E 1 = af (ao ns) := by rw[hE]; simp only[go_sem, di]
  have e2:E 2 = .ptr H.next 0 0 := by rw[hE]; simp only[go_sem, di]
  clear hE;obtain⟨b, hb⟩:∃ b:Bool, (b = true ↔ ¬ (bK u.vars ns.length /\ (u.w.length:Int) = au (aF (ao ns) u.vars))) := by
    classical exact⟨decide _, Un⟩
  refine W.seq (W.gh (fun s' => s'.H = R /\ s'.ρ 2 = .ptr H.next 0 0 /\ s'.ρ 22 = .lit (.bool b)) ?_ ?_)
  · refine W.draw 15 [0, 1, 0, 4, 15, 31, 63, 127, 255, 511, 127, 127, 2175, 7295, 15487] Tryz.mixed (by kernel_rfl) (by kernel_rfl) ?_;simp only[go_sem, e1, e2, l0, hcl', di];refine⟨_, [], bO.pure fun H2 => DY u.vars ns.length (by omega) H2 _ ⟨rfl, rfl⟩, ?_⟩;by_cases c1:bK u.vars ns.length
    · have sm := pO h8 c1 hc;have wl := SM (u.w.length:Int) (by omega);simp only[go_sem, e1, e2, c1, l0, di];refine⟨_, [], bO.pure fun H2 => pS (ao ns) u.vars (by omega) (by omega) (fun q hq => by have := c1.2 q hq; omega) H2 _ ⟨rfl, rfl⟩, ?_⟩;simp only[go_sem, di];refine⟨_, [], bO.pure fun H2 => vq _ sm H2 _ ⟨rfl, rfl⟩, ?_⟩;by_cases c2:(u.w.length:Int) = au (aF (ao ns) u.vars)
      · have:b = false :=(by rw[<- Ve, hb]; exact fun h => h ⟨c1, c2⟩);simp only[go_sem, c2, di];exact⟨e2, by rw[this]⟩
      · have:b = true := hb.2 fun h => c2 h.2;simp only[go_sem, c2, di];exact⟨e2, by rw[this]⟩
    · have:b = true := hb.2 fun h => c1 h.1;simp only[go_sem, e1, e2, c1, l0, di];rw[this]
  rintro⟨ρ3, H3⟩ ⟨hH, m2, m22⟩;simp only at hH m2 m22;rw[hH];clear hH H3;refine W.vs ?_;cases hbb:b;rotate_left
  · simp only[go_sem, m22, hbb, di];exact no fun h => hb.1 hbb ⟨h.vars, h.size⟩
  have h12:bK u.vars ns.length /\ (u.w.length:Int) = au (aF (ao ns) u.vars) := by
    apply TG;intro h;rw[hb.2 h]at hbb;cases hbb
  simp only[go_sem, m22, hbb, di];refine W.seq ?_;refine W.sq ?_;simp only[go_sem, di];refine W.block ?_;refine W.env fun E1 hE1 => ?_;have g2:E1 2 = .ptr H.next 0 0 := by rw[hE1]; simp only[go_sem, m2, di]
  have g5:E1 5 = aa 0 := by rw[hE1]; simp only[go_sem, di]
  clear hE1;refine W.aL 17592177655856 (by rfl) (fun ρ Hx => Hx = R /\ ∃ k:Nat, ρ 5 = aa k /\ k <= u.w.length /\ ∀ x ∈ u.w.take k, -100 <= x /\ x <= 100) (fun ρ H => u.w.length - (iv (ρ 5)).toNat) ?_ ?_
  · simp only[go_sem, g5, di];exact⟨0, rfl, by omega, by simp⟩
  rintro ρ Hx ⟨rfl, k, h5, hk, hall⟩;refine W.env fun E2 hE2 => ?_;have a2:E2 2 = .ptr H.next 0 0 := by rw[hE2]; simp only[go_sem, g2, di]
  have a5:E2 5 = aa k := by rw[hE2]; simp only[go_sem, h5, di]
  clear hE2;refine W.vs ?_;by_cases hbk:(k:Int) < u.w.length;rotate_left
  · simp only[go_sem, a2, a5, l0, hbk, di];refine W.vs ?_;simp only[go_sem, di];rw[SP (by omega)]at hall;rw[ea (⟨h12.1, h12.2, hall⟩:UtilOk ns u)]at hK;exact ay.bx aS hcl oR (.lit _) hK
  obtain⟨x, hx⟩ := get_of_lt (l := u.w) (i := k) (by omega);have hne := aK hx;have w1 := SM ((k:Int) + 1) (by omega);by_cases c1:x < -100
  · simp only[go_sem, a2, a5, l0, hbk, hx, hne, c1, di];exact no fun h => by have := h.w x (SK hx); omega
  by_cases c2:100 < x
  · simp only[go_sem, a2, a5, l0, hbk, hx, hne, c1, c2, di];exact no fun h => by have := h.w x (SK hx); omega
  simp only[go_sem, a2, a5, l0, hbk, hx, hne, c1, c2, w1, di];refine⟨⟨k + 1, rfl, by omega, fun y hy => ?_⟩, by rw[h5]; simp only[aa, aQ]; omega⟩;rw[aO hx]at hy;rcases Ta.1 hy with h | h
  · exact hall y h
  · obtain rfl := List.mem_singleton.1 h;omega
theorem EC {d:InfP}{u:UtilP}:UtilOk (cR d) u↔UtilOk d.nodes u:=by
 constructor
 ·rintro⟨a,b,c⟩;rw[jh]at a;rw[zI]at b;exact⟨a,b,c⟩
 ·rintro⟨a,b,c⟩;exact⟨by rw[jh];exact a,by rw[zI];exact b,c⟩
set_option maxHeartbeats 4000000 in
theorem ED (d:InfP)(cs:List AVal)(hq:NodesQ (fun v=>d.decs.testBit v=true) d.nodes cs)(hf:InfFit d)(H:AHeap)(K:ARes->AHeap->Prop)(hK:K (.ret (.lit (.bool (kL (InfOk d))))) H):ae Tryz.prog G0 16 [dL d cs] H K:=by
 refine ae.clo ⟨_,Tryz.func16,rfl,rfl⟩ fun hcl=>?_;have hl:=hf.nodes.1;have hul:=hf.utils.1;refine ae.jD (n:=73) (rs:=[.tmp 2]) Tryz.func16 rfl rfl rfl (by decide) (by simp) ?_;refine W.sq ?_;simp only[go_sem,iP,gV];obtain⟨R,hR⟩:∃ R,R=ext H [.arr 0 38 [.lit (.int .i64 d.grain),.vec d.nodes.length cs,.lit (.int .u64 (d.decs:Int)),.vec d.utils.length (aR d.utils)]]:=⟨_,rfl⟩
 have oR:Over H R:=by rw[hR];exact .ext _ _
 have nR:R.next=H.next+1:=by rw[hR];rfl
 have l0:R.live H.next 0=some (38,[.lit (.int .i64 d.grain),.vec d.nodes.length cs,.lit (.int .u64 (d.decs:Int)),.vec d.utils.length (aR d.utils)]):=by rw[hR];exact ag (bQ ..)
 rw[<- hR];clear hR;have no:¬ InfOk d->∀ H',Over R H'->ay Tryz.prog G0 H K (.lit (.bool false)) H':=fun h H' o=>ay.bx aS hcl (oR.trans o) (.lit _) (by rw[eQ h]at hK;exact hK);refine W.en (fun E=>E 1=.ptr H.next 0 0) (by simp only[go_sem]) fun E e1=>?_
 have s1:=fun t x y=>kP (P:=Tryz.prog) (t:=t) (x:=x) (y:=y) (k':=.i64) (s:=d.nodes.length) hf.decs;refine W.seq (W.gh (fun s'=>s'.H=R/\s'.ρ 1=.ptr H.next 0 0/\∃ b:Bool,s'.ρ 30=.lit (.bool b)/\(b=false↔RightA d)) ?_ ?_)
 ·refine W.vs ?_;by_cases c1:(d.nodes.length:Int)<1
  ·simp only[go_sem,e1,l0,c1];exact⟨_,rfl,by simp;intro h;have:=h.n1;omega⟩
  by_cases c2:(d.nodes.length:Int) > 8
  ·simp only[go_sem,e1,l0,c1,c2];exact⟨_,rfl,by simp;intro h;have:=h.n1;omega⟩
  by_cases c3:d.decs >>> d.nodes.length=0;rotate_left
  ·have c3':¬ ((d.decs >>> d.nodes.length:Nat):Int)=0:=(by omega);simp only[go_sem,e1,l0,c1,c2,c3',s1];exact⟨_,rfl,by simp;intro h;exact c3 h.decs⟩
  have c3':((d.decs >>> d.nodes.length:Nat):Int)=0:=by omega
  by_cases c4:(d.utils.length:Int) > 4
  ·simp only[go_sem,e1,l0,c1,c2,c3',c4,s1];exact⟨_,rfl,by simp;intro h;have:=h.ul;omega⟩
  ·simp only[go_sem,e1,l0,c1,c2,c3',c4,s1];exact⟨_,rfl,by simp;exact⟨by omega,c3,by omega⟩⟩
 rintro⟨ρ3,H3⟩ ⟨hH,m1,b,m30,hb⟩;simp only at hH m1 m30;rw[hH];clear hH H3;refine W.vs ?_;cases hbb:b;rotate_left
 ·simp only[go_sem,m30,hbb];exact no (fun h=>by rw[hb.2 (sh.1 h).1]at hbb;cases hbb) _ (.refl _)
 have hA:=hb.1 hbb;have n8:=hA.n1.2;simp only[go_sem,m30,hbb];refine W.en (fun E1=>E1 1=.ptr H.next 0 0) (by simp only[go_sem,m1]) fun E1 f1=>?_
 clear m30 hbb hb;refine W.seq ?_;refine W.sq ?_;simp only[go_sem];refine W.block ?_;refine W.env fun E2 hE2=>?_;have g1:E2 1=.ptr H.next 0 0:=by rw[hE2];simp only[go_sem,f1]
 have g3:E2 3=aa 0:=by rw[hE2];simp only[go_sem]
 clear hE2;refine W.aL 4503597479886860 (by rfl) (fun ρ Hx=>Hx=R/\∃ k:Nat,ρ 3=aa k/\k<=d.nodes.length/\EB d k) (fun ρ H=>d.nodes.length - (iv (ρ 3)).toNat) ?_ ?_
 ·simp only[go_sem,g3];exact⟨0,rfl,by omega,fun v x h=>absurd h (S7 _)⟩
 rintro ρ Hx ⟨rfl,k,h3,hk,hD⟩;refine W.en (fun E2=>E2 1=.ptr H.next 0 0 /\ E2 3=aa k) (by simp only[go_sem,g1,h3]) fun E2 ⟨a1,a3⟩=>?_
 refine W.vs ?_;by_cases hbk:(k:Int)<d.nodes.length
 ·obtain⟨x,hx⟩:=get_of_lt (l:=d.nodes) (i:=k) (by omega);have hne:=hq.ne hx;obtain⟨rv,q0,q1,q2,hdis,_⟩:=hq.node k x hx;have rvl:∀ H,fH H rv=some (.lit (.int .i64 x.rows.length)):=fun H=>by
   rcases hdis with h|h<;>rw[h]
   ·rfl
   ·unfold ba;split
    ·rename_i h;rw[h];rfl
    ·rfl
  have w1:=SM ((k:Int)+1) (by omega);simp only[go_sem,a1,a3,l0,hbk];refine aB.clo (ve d.decs k hf.decs _ _ ⟨trivial,?_⟩);cases hbit:d.decs.testBit k
  ·simp only[go_sem,a3,w1];refine⟨⟨k+1,rfl,by omega,fun v y hv hy hb=>?_⟩,by rw[h3];simp only[aa,aQ];omega⟩;rcases Te v k with h|h
   ·exact hD v y h hy hb
   ·obtain rfl:v=k:=(by omega);rw[hbit]at hb;cases hb
  ·by_cases hr0:x.rows=[]
   ·have hr0':(x.rows.length:Int)=0:=(by rw[hr0];rfl);simp only[go_sem,a1,a3,l0,w1,hbk,hne,q2,rvl,hr0'];refine⟨⟨k+1,rfl,by omega,fun v y hv hy hb=>?_⟩,by rw[h3];simp only[aa,aQ];omega⟩;rcases Te v k with h|h
    ·exact hD v y h hy hb
    ·obtain rfl:v=k:=(by omega);rw[hx]at hy;cases hy;exact hr0
   ·have hr1:(0:Int)<x.rows.length:=(by have:=T0.2 hr0;omega);have hr1':0<x.rows.length:=T0.2 hr0;simp only[go_sem,a1,a3,l0,hbk,hne,q2,rvl,hr1];exact no (fun h=>hr0 ((sh.1 h).2.1 k x (by omega) hx hbit)) _ (.refl _)
 have hke:k=d.nodes.length:=by omega
 rw[hke]at hD;simp only[go_sem,a1,a3,l0,hbk];refine W.sq ?_;simp only[go_sem,a1,l0];refine aB.clo (Ds d cs hq hf _ _ ⟨trivial,?_⟩);simp only[go_sem,bJ,cj];obtain⟨R2,hR2⟩:∃ R2,R2=ext Hx [.arr 0 103 [.lit (.int .i64 d.grain),.vec (cR d).length (aG (cR d))]]:=⟨_,rfl⟩
 have o2:Over Hx R2:=by rw[hR2];exact .ext _ _
 have n2:R2.next=H.next+2:=by rw[hR2,bI];simp;omega
 have l2:R2.live (H.next+1) 0=some (103,[.lit (.int .i64 d.grain),.vec (cR d).length (aG (cR d))]):=by rw[hR2,<- nR];exact ag bT
 have k0:R2.live H.next 0=_:=(o2.live (by omega)).trans l0;rw[<- hR2];clear hR2;refine W.en (fun E3=>E3 1=.ptr H.next 0 0 /\ E3 4=.ptr (H.next+1) 0 0) (by simp only[go_sem,a1,nR]) fun E3 ⟨b1,b4⟩=>?_
 refine W.seq (W.seq (sN _ _ _ (by rfl) ?_));simp only[go_sem,b4,l2];refine aB.clo (QU d.grain (cR d) (RE hf) _ _ ⟨trivial,?_⟩);by_cases hnet:NetOk d.grain (cR d);rotate_left
 ·have hnb:=vu hnet;simp only[go_sem,hnb];refine W.vs ?_;simp only[go_sem];exact no (fun h=>hnet (sh.1 h).2.2.1) _ o2
 have hnb:=vt hnet;simp only[go_sem,hnb];refine W.vs ?_;simp only[go_sem];refine W.en (fun E4=>E4 1=.ptr H.next 0 0 /\ E4 4=.ptr (H.next+1) 0 0) (by simp only[go_sem,b1,b4]) fun E4 ⟨c1,c4⟩=>?_
 have hc4:∀ y∈cR d,1<=y.card/\y.card<=4:=fun y hy=>(hnet.node y hy).1;have h8:(cR d).length<=8:=hnet.n1.2;refine W.seq ?_;refine W.sq ?_;simp only[go_sem];refine W.block ?_;refine W.env fun E5 hE5=>?_;have d1:E5 1=.ptr H.next 0 0:=by rw[hE5];simp only[go_sem,c1]
 have d4:E5 4=.ptr (H.next+1) 0 0:=by rw[hE5];simp only[go_sem,c4]
 have d5:E5 5=aa 0:=by rw[hE5];simp only[go_sem]
 clear hE5;refine W.aL 9444588850551214571556 (by rfl) (fun ρ Hy=>Hy=R2/\∃ j:Nat,ρ 5=aa j/\j<=d.utils.length/\∀ u∈d.utils.take j,UtilOk d.nodes u) (fun ρ H=>d.utils.length - (iv (ρ 5)).toNat) ?_ ?_
 ·simp only[go_sem,d5];exact⟨0,rfl,by omega,by simp⟩
 rintro ρ2 Hy ⟨rfl,j,h5,hj,hall⟩;refine W.en (fun E6=>E6 1=.ptr H.next 0 0 /\ E6 4=.ptr (H.next+1) 0 0 /\ E6 5=aa j) (by simp only[go_sem,d1,d4,h5]) fun E6 ⟨q1,q4,q5⟩=>?_
 by_cases hbj:(j:Int)<d.utils.length;rotate_left
 ·refine W.vs ?_;simp only[go_sem,q1,q5,k0,hbj];refine W.vs ?_;simp only[go_sem];rw[SP (by omega)]at hall;rw[ea (sh.2 ⟨hA,hD,hnet,hall⟩)]at hK;exact ay.bx aS hcl (oR.trans o2) (.lit _) hK
 obtain⟨u,hu⟩:=get_of_lt (l:=d.utils) (i:=j) (by omega);obtain⟨f1',f2'⟩:=hf.utils.2 u (SK hu);have hne:=rL hu;have p0:=uJ hu;have p1:j*2+2<=(aR d.utils).length:=by rw[kD];omega
 have w1:=SM ((j:Int)+1) (by omega);refine W.sq ?_;simp only[go_sem,q1,q5,k0,hbj];refine W.seq (W.block (W.seq ?_));refine W.draw 7 [0,1,0,7,15,0,32] Tryz.mixed (by kernel_rfl) (by kernel_rfl) ?_;simp only[go_sem,q1,q4,q5,k0,l2,hbj,hne,p0,p1];refine⟨_,[],bO.pure fun H2=>pT d.grain (cR d) (by omega) H2 _ ⟨rfl,rfl⟩,?_⟩;simp only[go_sem];refine aB.clo (RF (cR d) h8 hc4 u f1' f2' _ _ ⟨trivial,?_⟩);by_cases hu1:UtilOk (cR d) u
 ·have hub:=ea hu1;simp only[go_sem,hub];refine W.vs ?_;simp only[go_sem];refine W.vs ?_;simp only[go_sem,q5,w1];refine⟨⟨j+1,rfl,by omega,fun y hy=>?_⟩,by rw[h5];simp only[aa,aQ];omega⟩;rw[aO hu]at hy;rcases Ta.1 hy with h|h
  ·exact hall y h
  ·obtain rfl:=List.mem_singleton.1 h;exact EC.1 hu1
 ·have hub:=eQ hu1;simp only[go_sem,hub];refine W.vs ?_;simp only[go_sem];exact no (fun h=>hu1 (EC.2 ((sh.1 h).2.2.2 u (SK hu)))) _ o2
theorem NI (d:InfP):(dJ d).length=(az d).length:=by simp [dJ]
theorem NJ {d:InfP}(h:InfOk d):∀ p∈dJ d,1<=p.1/\p.1<=1024/\1<=p.2/\p.2<=4:=fun p hp=>by
 unfold dJ at hp;obtain⟨v,hv,rfl⟩:=S9.1 hp;obtain⟨v1,v2⟩:=dD.1 hv;exact nO h v1 v2
set_option maxHeartbeats 2000000 in
theorem RG (d:InfP)(cs0:List AVal)(ns:List NodeP)(hnl:d.nodes.length=ns.length)(vals:List Int)(h8:ns.length<=8)(hc:∀ y∈ns,1<=y.card/\y.card<=4)(hu:∀ u∈d.utils,UtilOk ns u)(h4:d.utils.length<=4)(hf:bL (ao ns) vals)(H:AHeap)(K:ARes->AHeap->Prop)
  (hK:K (.ret (aa (bU ns d.utils vals))) H):ae Tryz.prog G0 78 [dL d cs0,af (ao ns),af vals] H K:=by
 refine ae.clo ⟨_,Tryz.func78,rfl,rfl⟩ fun hcl=>?_;have hfl:vals.length=ns.length:=by rw[hf.1,cM]
 have hcl':(ao ns).length=ns.length:=by simp [ao]
 refine ae.aZ (n:=38) (rs:=[.tmp 6]) Tryz.func78 rfl rfl rfl (by decide) (by kernel_rfl) (by simp) ?_;simp only[go_sem,iP,gV];obtain⟨R,hR⟩:∃ R,R=ext H [.arr 0 38 [.lit (.int .i64 d.grain),.vec d.nodes.length cs0,.lit (.int .u64 (d.decs:Int)),.vec d.utils.length (aR d.utils)]]:=⟨_,rfl⟩
 have oR:Over H R:=by rw[hR];exact .ext _ _
 have l0:R.live H.next 0=some (38,[.lit (.int .i64 d.grain),.vec d.nodes.length cs0,.lit (.int .u64 (d.decs:Int)),.vec d.utils.length (aR d.utils)]):=by rw[hR];exact ag (bQ ..)
 have nR:R.next=H.next+1:=by rw[hR];rfl
 rw[<- hR];clear hR;refine W.aL 137438953344 (by rfl) (fun ρ Hx=>∃ k:Nat,ρ 8=aa k/\k<=d.utils.length/\Over R Hx/\ρ 7=aa (bU ns (d.utils.take k) vals)) (fun ρ H=>d.utils.length - (iv (ρ 8)).toNat) ?_ ?_
 ·simp only[go_sem];exact⟨0,rfl,by omega,.refl _,by simp [bU]⟩
 rintro ρ Hx ⟨k,h8',hk,ov,h7⟩;refine W.en (fun E=>E 1=af (ao ns) /\ E 2=af vals /\ E 3=.ptr H.next 0 0 /\ E 7=aa (bU ns (d.utils.take k) vals) /\ E 8=aa k) (by simp only[go_sem,h7,h8']) fun E ⟨e1,e2,e3,e7,e8⟩=>?_
 have lx:=(ov.live (g:=0) (by omega:H.next<R.next)).trans l0;by_cases hb:(k:Int)<d.utils.length;rotate_left
 ·refine W.vs ?_;simp only[go_sem,e3,e7,e8,lx,hb];rw[SP (by omega)];exact ay.bx aS hcl (oR.trans ov) (.lit _) hK
 obtain⟨u,hku⟩:=get_of_lt (l:=d.utils) (i:=k) (by omega);have hum:=SK hku;obtain⟨u1,u2,u3⟩:=hu u hum;have hne:=rL hku;have p0:=uJ hku;have p1:k*2+2<=(aR d.utils).length:=by rw[kD];omega
 have v8:=u1.len;have sm:=pO h8 u1 hc;have hin:eR u.vars ns.length:=fun q hq=>by have:=u1.2 q hq;omega
 have fp:bL (aF (ao ns) u.vars) (aF vals u.vars):=pR (x:=⟨0,u.vars,[]⟩) hin hf;have hir:=kE fp;obtain⟨iN,hiN⟩:=S2 hir.1;have hil:iN<u.w.length:=by omega
 obtain⟨a,ha⟩:=get_of_lt hil;have har:=u3 a (SK ha);have hwne:=aK ha;have hili:(iN:Int)<u.w.length:=by omega
 obtain⟨H2,hH2⟩:∃ H2,H2=ext Hx [.arr 0 82 [.vec u.vars.length (ints u.vars),.vec u.w.length (ints u.w)]]:=⟨_,rfl⟩
 have m1:=ag (show H2.get Hx.next=some (.arr 0 82 [.vec u.vars.length (ints u.vars),.vec u.w.length (ints u.w)]) by rw[hH2];exact bT);have o2:Over Hx H2:=by rw[hH2];exact .ext _ _
 have hub:=rY hu h4 vals k;have hsum:bU ns (d.utils.take (k+1)) vals=bU ns (d.utils.take k) vals+a:=by
  rw[aO hku];unfold bU;rw[TI,Vi];simp only[List.map_cons,List.map_nil,Uq,List.sum_nil,UA];congr 1;unfold mF;rw[hiN,Int.toNat_natCast,Td,ha];rfl
 have ws:=SM (bU ns (d.utils.take k) vals+a) (by omega);have w1:=SM ((k:Int)+1) (by omega);refine W.sq ?_;simp only[go_sem,e3,e8,lx,hb];refine W.seq (W.block ?_);refine W.sq ?_;simp only[go_sem,e3,e8,lx,hb,hne,p0,p1];rw[<- hH2];refine W.draw 14 [0,0,2,0,0,16,56,0,0,256,1016,2040,4094,8190] Tryz.mixed (by kernel_rfl) (by kernel_rfl) ?_;simp only[go_sem,e1,e2,e7,m1];refine⟨_,[],bO.pure fun H3=>pS (ao ns) u.vars (by omega) (by omega) (fun q hq=>by have:=u1.2 q hq;omega) H3 _ ⟨rfl,rfl⟩,?_⟩;simp only[go_sem];refine⟨_,[],bO.pure fun H3=>pS vals u.vars (by omega) (by omega) (fun q hq=>by have:=u1.2 q hq;omega) H3 _ ⟨rfl,rfl⟩,?_⟩;simp only[go_sem];refine⟨_,[],bO.pure fun H3=>zg _ _ sm fp H3 _ ⟨rfl,rfl⟩,?_⟩;simp only[go_sem,e1,e2,e7,hiN,hili,ha,hwne,ws];refine W.vs ?_;simp only[go_sem,e8,w1];exact⟨TA ov.next o2.next,⟨k+1,rfl,by omega,ov.trans o2,by rw[hsum]⟩,by rw[h8'];simp only[aa,aQ];omega⟩
set_option maxHeartbeats 4000000 in
theorem EF (d:InfP)(cs:List AVal)(hq:NodesQ (fun v=>d.decs.testBit v=true) d.nodes cs)(hf:InfFit d)(hok:InfOk d)(p:List (List Int))(hp:mK p)(H:AHeap)(K:ARes->AHeap->Prop)(hK:K (.ret (.lit (.bool (kL (PolOk d p))))) H):ae Tryz.prog G0 18 [dL d cs,ah p] H K:=by
 refine ae.clo ⟨_,Tryz.func18,rfl,rfl⟩ fun hcl=>?_;refine ae.aZ (n:=64) (rs:=[.tmp 4]) Tryz.func18 rfl rfl rfl (by decide) (by kernel_rfl) (by simp) ?_;simp only[go_sem,iP,gV];refine aB.clo (Dw d cs hq hf hok _ _ ⟨trivial,?_⟩);obtain⟨L,hL⟩:∃ L,L=dJ d:=⟨_,rfl⟩
 have hrng:=NJ hok;rw[<- hL]at hrng;have hLl:L.length=(az d).length:=by rw[hL];exact NI d
 have dl8:(az d).length<=d.nodes.length:=jf;have hn8:=hok.n.n1.2;have hp1:=hp.1;rw[Dx,<- hL]at hK;rw[<- hL];obtain⟨R,hR⟩:∃ R,R=ext H [.arr 0 38 [.lit (.int .i64 d.grain),.vec d.nodes.length cs,.lit (.int .u64 (d.decs:Int)),.vec d.utils.length (aR d.utils)]]:=⟨_,rfl⟩
 have oR:Over H R:=by rw[hR];exact .ext _ _
 rw[<- hR];have no:¬ uZ L p->ay Tryz.prog G0 H K (.lit (.bool false)) R:=fun h=>ay.bx aS hcl oR (.lit _) (by rw[eQ h]at hK;exact hK);by_cases hpl:(p.length:Int)=L.length;rotate_left
 ·simp only[go_sem,ah,hpl];exact no fun h=>hpl (by rw[h.1])
 simp only[go_sem,ah,hpl];refine W.en (fun E=>E 1=ah p /\ E 5=.vec L.length (fL L) /\ E 6=aa 0) (by simp only[go_sem,ah]) fun E ⟨e1,e5,e6⟩=>?_
 refine W.aL 18446744073709519056 (by rfl) (fun ρ Hx=>Hx=R/\∃ k:Nat,ρ 6=aa k/\k<=L.length/\∀ (j:Nat) (q:Int × Int) (r:List Int),j<k->L[j]?=some q->p[j]?=some r->(r.length:Int)=q.1/\∀ a∈r,0<=a/\a<q.2) (fun ρ H=>L.length - (iv (ρ 6)).toNat) ?_ ?_
 ·simp only[go_sem,e6];exact⟨0,rfl,by omega,fun j _ _ h=>absurd h (S7 _)⟩
 rintro ρ Hx ⟨rfl,k,h6,hk,hall⟩;refine W.en (fun E2=>E2 1=ah p /\ E2 5=.vec L.length (fL L) /\ E2 6=aa k) (by simp only[go_sem,e1,e5,h6]) fun E2 ⟨f1,f5,f6⟩=>?_
 refine W.vs ?_;by_cases hb:(k:Int)<L.length;rotate_left
 ·simp only[go_sem,f5,f6,hb];have hrf:uZ L p:=⟨by omega,fun j q r h1 h2=>hall j q r (by have:=get_lt h1;omega) h1 h2⟩
  rw[ea hrf]at hK;exact ay.bx aS hcl oR (.lit _) hK
 obtain⟨⟨q1,q2⟩,hrk⟩:=get_of_lt (l:=L) (i:=k) (by omega);obtain⟨l,hl⟩:=get_of_lt (l:=p) (i:=k) (by omega);have p0:=yV hrk;have p1:=Du hrk;have pne:=Dv hrk;have hlg:(p.map af)[k]?=some (af l):=by rw[List.getElem?_map,hl];rfl
 have hln:=aK hl;have hbp:(k:Int)<p.length:=by omega
 have w1:=SM ((k:Int)+1) (by omega);have hl38:=hp.2 l (SK hl);simp only[go_sem,f5,f6,hb];refine W.draw 10 [0,0,3,7,15,0,0,96,224,480] Tryz.mixed (by kernel_rfl) (by kernel_rfl) ?_;by_cases hll:(l.length:Int)=q1;rotate_left
 ·simp only[go_sem,f1,f5,f6,hb,hbp,ah,hlg,hln,p0,pne,hll];exact no fun h=>hll (h.2 k _ l hrk hl).1
 simp only[go_sem,f1,f5,f6,hb,hbp,ah,hlg,hln,p0,pne,hll];refine W.en (fun E3=>E3 1=ah p /\ E3 5=.vec L.length (fL L) /\ E3 6=aa k /\ E3 7=aa 0) (by simp only[go_sem,f1,f5,f6]) fun E3 ⟨r1,r5,r6,r7⟩=>?_
 refine W.aL 18446744069414584464 (by rfl) (fun ρ2 Hz=>Hz=Hx/\∃ j:Nat,ρ2 7=aa j/\j<=l.length/\∀ a∈l.take j,0<=a/\a<q2) (fun ρ2 H=>l.length - (iv (ρ2 7)).toNat) ?_ ?_
 ·simp only[go_sem,r7];exact⟨0,rfl,by omega,by simp⟩
 rintro ρ2 Hz ⟨rfl,j,h7,hj,hin⟩;refine W.en (fun E4=>E4 1=ah p /\ E4 5=.vec L.length (fL L) /\ E4 6=aa k /\ E4 7=aa j) (by simp only[go_sem,r1,r5,r6,h7]) fun E4 ⟨s1,s5,s6,s7⟩=>?_
 refine W.vs ?_;by_cases hc:(j:Int)<l.length
 ·obtain⟨a,ha⟩:=get_of_lt (l:=l) (i:=j) (by omega);have han:=aK ha;have w2:=SM ((j:Int)+1) (by omega);simp only[go_sem,s1,s6,s7,ah,hlg,hln,hbp,hc];refine W.draw 21 [0,0,3,7,0,31,63,127,255,511,511,2047,4095,511,16383,32767,511,511,197119,459263,983551] Tryz.mixed (by kernel_rfl) (by kernel_rfl) ?_;by_cases c1:a<0
  ·simp only[go_sem,s1,s6,s7,ah,hlg,hln,hbp,hc,ha,han,c1];exact no fun h=>by have:=(h.2 k _ l hrk hl).2 a (SK ha);omega
  by_cases c2:a >= q2
  ·simp only[go_sem,s1,s5,s6,s7,ah,hlg,hln,hbp,hb,hc,ha,han,p1,pne,c1,c2];exact no fun h=>by have:=(h.2 k _ l hrk hl).2 a (SK ha);omega
  simp only[go_sem,s1,s5,s6,s7,ah,hlg,hln,hbp,hb,hc,ha,han,p1,pne,c1,c2,w2];refine⟨⟨j+1,by simp,by omega,fun y hy=>?_⟩,by first|omega|(rw[h7];simp only[aa,aQ];omega)⟩;rw[aO ha]at hy;rcases Ta.1 hy with h|h
  ·exact hin y h
  ·obtain rfl:=List.mem_singleton.1 h;omega
 ·simp only[go_sem,s1,s6,s7,ah,hlg,hln,hbp,hc,w1];rw[SP (by omega)]at hin;refine⟨⟨k+1,by simp,by omega,fun i q r h1 h2 h3=>?_⟩,by first|omega|(rw[h6];simp only[aa,aQ];omega)⟩;rcases Te i k with h|h
  ·exact hall i q r h h2 h3
  ·obtain rfl:i=k:=(by omega);rw[hrk]at h2;rw[hl]at h3;cases h2;cases h3;exact⟨hll,hin⟩
def kR (p:List (List Int))(k:Nat)(i r:Nat):Int:=if i<k then fixC p i r else 0
theorem RH (p:List (List Int)):kR p 0=fun _ _=>0:=by funext i r;unfold kR;rw[SO (S7 _)]
theorem RI {d:InfP}{p:List (List Int)}{k:Nat}(hk:(az d).length<=k):bP d (kR p k)=bP d (fixC p):=by
 apply Tk;intro v;rcases Te v d.nodes.length with hv|hv
 ·obtain⟨x,hx⟩:=get_of_lt hv;rw[eF hx,eF hx];by_cases hb:d.decs.testBit v=true
  ·rw[jW hx hb,jW hx hb];have hpl:=get_lt (kF hv hb);congr 2;unfold cG;congr 1;refine Ti fun r _=>?_;unfold kR;rw[SQ (by have h2:(dm d.decs d.nodes.length).length=(az d).length:=rfl;omega)]
  ·rw[jj hb,jj hb]
 ·rw[SV (by rw[dE];exact hv),SV (by rw[dE];exact hv)]
theorem RJ {d:InfP}(hok:InfOk d){p:List (List Int)}{k v:Nat}{x:NodeP}(hv:(az d)[k]?=some v)(hx:d.nodes[v]?=some x):bP d (kR p (k+1))=(bP d (kR p k)).set v { x with rows:=cG d.grain d.nodes (fixC p) k x }:=by
 obtain⟨v1,v2,v3⟩:=kG hv;apply Tk;intro w;rcases Te w d.nodes.length with hw|hw
 ·obtain⟨y,hy⟩:=get_of_lt hw;rw[eF hy];by_cases hwv:w=v
  ·subst hwv;rw[hx]at hy;cases hy;rw[S1 (by rw[dE];exact hw),jW hx v2,(hok.n.dec w x hx v2).1,List.nil_append,v3];congr 2;unfold cG;refine Ti fun r _=>?_;unfold kR;rw[SQ (by omega)]
  ·rw[Tb (fun h=>hwv h.symm),eF hy];by_cases hb:d.decs.testBit w=true
   ·rw[jW hy hb,jW hy hb];have hpw:aX d.decs w≠k:=fun h=>hwv (by
     have:=kF hw hb;rw[h,show (dm d.decs d.nodes.length)[k]?=some v from hv]at this;exact(Option.some.inj this).symm)
    congr 2;unfold cG;congr 1;refine Ti fun r _=>?_;unfold kR;by_cases hlt:aX d.decs w<k
    ·rw[SQ hlt,SQ (by omega)]
    ·rw[SO hlt,SO (by omega)]
   ·rw[jj hb,jj hb]
 ·rw[SV (by rw[dE];exact hw),SV (by rw[SU,dE];exact hw)]
theorem NodesQ.set {e:Nat->Prop}{ns:List NodeP}{cs:List AVal}(h:NodesQ e ns cs){v:Nat}{y:NodeP}{rv:AVal}(hv:v<ns.length)(hr:rv=ah y.rows\/rv=ba y)(he:e v->rv=ba y):NodesQ e (ns.set v y) (setAt cs (v*3) [aa y.card,af y.parents,rv]):=by
 have hl:=h.len;have hlen:(setAt cs (v*3) [aa y.card,af y.parents,rv]).length=cs.length:=by unfold setAt;simp;omega
 refine⟨by rw[hlen,SU];exact hl,fun w x hx=>?_⟩;have get:∀ i,(setAt cs (v*3) [aa y.card,af y.parents,rv])[i]?=if i<v*3 then cs[i]? else if i<v*3+3 then [aa y.card,af y.parents,rv][i - v*3]? else cs[i]?:=fun i=>by
  unfold setAt;by_cases h1:i<v*3
  ·rw[SQ h1,List.append_assoc,SW (by rw[SX];omega),Ts h1]
  ·rw[SO h1,List.append_assoc,S5 (by rw[SX];omega),SX,Uw (by omega)];by_cases h2:i<v*3+3
   ·rw[SQ h2,SW (by simp;omega)]
   ·rw[SO h2,S5 (by simp;omega),T6];simp only[List.length_cons,List.length_nil];congr 1;omega
 by_cases hw:w=v
 ·subst hw;rw[S1 hv]at hx;cases hx;refine⟨rv,?_,?_,?_,hr,he⟩
  ·rw[get,SO (by omega),SQ (by omega),Uo];rfl
  ·rw[get,SO (by omega),SQ (by omega),show w*3+1 - w*3=1 by omega];rfl
  ·rw[get,SO (by omega),SQ (by omega),show w*3+2 - w*3=2 by omega];rfl
 ·rw[Tb (fun h=>hw h.symm)]at hx;obtain⟨r,a,b,c,d⟩:=h.node w x hx;have:w<v\/v<w:=by omega
  refine⟨r,?_,?_,?_,d⟩
  ·rw[get];split<;>first|exact a|(rw[SO (by omega)];exact a)
  ·rw[get];split<;>first|exact b|(rw[SO (by omega)];exact b)
  ·rw[get];split<;>first|exact c|(rw[SO (by omega)];exact c)
theorem RK {g card:Int}{cn aN:Nat}(hc:card=cn)(ha:aN<cn):setAt (List.replicate cn (AVal.lit (.int .i64 0))) aN [.lit (.int .i64 g)]=ints (bj g card aN):=by
 have e:List.replicate cn (AVal.lit (.int .i64 0))=ints (List.replicate cn 0):=by simp [ints,aa]
 rw[e,gD (by rw[Tl];exact ha)];unfold bj;rw[hc,Int.toNat_natCast,Int.toNat_natCast]
set_option maxHeartbeats 4000000 in
theorem RL (d:InfP)(cs:List AVal)(hq:NodesQ (fun v=>d.decs.testBit v=true) d.nodes cs)(hf:InfFit d)(hok:InfOk d)(p:List (List Int))(hp:PolOk d p)(H:AHeap)(K:ARes->AHeap->Prop)
  (hF:Clo H->∀ id gg ks H',Over H H'->H.next<=id->id<H'.next->H'.get id=some (.arr gg 73 ks)->NodesQ (fun _=>False) (bP d (fixC p)) ks->ay Tryz.prog G0 H K (.agg [.lit (.int .i64 d.grain),.own id gg 0 d.nodes.length 3]) H'):
  ae Tryz.prog G0 72 [dL d cs,ah p] H K:=by
 refine ae.clo ⟨_,Tryz.func72,rfl,rfl⟩ fun hcl=>?_;have hn8:=hok.n.n1;have dl8:(az d).length<=d.nodes.length:=jf;have hpf:=yW hok hp;refine ae.jD (n:=68) (rs:=[.cell 4 103]) Tryz.func72 rfl rfl rfl (by decide) (by simp) ?_;refine W.sq ?_;simp only[go_sem,iP,gV];obtain⟨Hb,hHb⟩:∃ Hb,Hb=ext H [.arr 0 38 [.lit (.int .i64 d.grain),.vec d.nodes.length cs,.lit (.int .u64 (d.decs:Int)),.vec d.utils.length (aR d.utils)],.arr 0 103 [.lit (.int .i64 0),.lit (.slice none 0 0)]]:=⟨_,rfl⟩
 have b0:Hb.get H.next=some (.arr 0 38 [.lit (.int .i64 d.grain),.vec d.nodes.length cs,.lit (.int .u64 (d.decs:Int)),.vec d.utils.length (aR d.utils)]):=by rw[hHb];exact bQ ..
 have b1:Hb.get (H.next+1)=some (.arr 0 103 [.lit (.int .i64 0),.lit (.slice none 0 0)]):=by rw[hHb];exact bB H _ 1 (by simp)
 have nb:Hb.next=H.next+2:=by rw[hHb];rfl
 have ob:Over H Hb:=by rw[hHb];exact .ext _ _
 rw[<- hHb];clear hHb;have l0:=ag b0;refine W.en (fun E=>E 1=ah p /\ E 2=.ptr H.next 0 0 /\ E 4=.ptr (H.next+1) 0 0) (by simp only[go_sem]) fun E ⟨e1,e2,e4⟩=>?_
 refine W.sq ?_;simp only[go_sem,e2,l0];refine aB.clo (PW d cs hq hf _ _ fun nh ks Hf of hO hQ=>⟨trivial,?_⟩);rcases hO with ⟨_,z2,_⟩|⟨id,gg,z1,z2,z3,z4,z5⟩
 ·omega
 subst z3;simp only[go_sem];obtain⟨Hd,hHd⟩:∃ Hd,Hd=ext Hf [.arr 0 103 [.lit (.int .i64 d.grain),.own id gg 0 d.nodes.length 3]]:=⟨_,rfl⟩
 have od:Over Hf Hd:=by rw[hHd];exact .ext _ _
 have nd:Hd.next=Hf.next+1:=by rw[hHd];rfl
 have dN:Hd.get Hf.next=some (.arr 0 103 [.lit (.int .i64 d.grain),.own id gg 0 d.nodes.length 3]):=by rw[hHd];exact bT
 rw[<- hHd];clear hHd;have nf:=of.next;have d0:Hd.get H.next=_:=(od.old _ (by omega)).trans ((of.old _ (by omega)).trans b0);have d1:Hd.get (H.next+1)=_:=(od.old _ (by omega)).trans ((of.old _ (by omega)).trans b1);have did:Hd.get id=_:=(od.old _ (by omega)).trans z5;have dold:∀ i,i<H.next->Hd.get i=H.get i:=fun i h=>(od.old i (by omega)).trans ((of.old i (by omega)).trans (ob.old i h));have k0:=ag d0;refine W.en (fun E1=>E1 1=ah p /\ E1 2=.ptr H.next 0 0 /\ E1 4=.ptr (H.next+1) 0 0 /\ E1 5=.ptr Hf.next 0 0) (by simp only[go_sem,e1,e2,e4]) fun E1 ⟨f1,f2,f4,f5⟩=>?_
 refine W.sq ?_;simp only[go_sem,f2,k0];refine aB.clo (vg d cs hf.decs (by omega) _ _ ⟨trivial,?_⟩);simp only[go_sem];refine W.env fun E2 hE2=>?_;have g1:E2 1=ah p:=by rw[hE2];simp only[go_sem,f1]
 have g2:E2 2=.ptr H.next 0 0:=by rw[hE2];simp only[go_sem,f2]
 have g4:E2 4=.ptr (H.next+1) 0 0:=by rw[hE2];simp only[go_sem,f4]
 have g5:E2 5=.ptr Hf.next 0 0:=by rw[hE2];simp only[go_sem,f5]
 have g6:E2 6=af (aM (az d)):=by rw[hE2];simp only[go_sem]
 clear hE2;refine W.seq ?_;refine W.sq ?_;simp only[go_sem];refine W.block ?_;refine W.en (fun E3=>E3 1=ah p /\ E3 2=.ptr H.next 0 0 /\ E3 4=.ptr (H.next+1) 0 0 /\ E3 5=.ptr Hf.next 0 0 /\ E3 6=af (aM (az d)) /\ E3 7=aa 0) (by simp only[go_sem,g1,g2,g4,g5,g6]) fun E3 ⟨h1,h2,h4,h5,h6,h7⟩=>?_
 refine W.aL 147573952589676382080 (by rfl) (fun ρ Hx=>∃ (k:Nat) (ks:List AVal),ρ 7=aa k/\k<=(az d).length/\Hd.next<=Hx.next/\(∀ i,i<Hd.next->i≠id->Hx.get i=Hd.get i)/\Hx.get id=some (.arr gg 73 ks)/\NodesQ (fun _=>False) (bP d (kR p k)) ks) (fun ρ H=>(az d).length - (iv (ρ 7)).toNat) ?_ ?_
 ·simp only[go_sem,h7];exact⟨0,ks,rfl,by omega,did,by rw[RH,<- yU hok];exact hQ⟩
 rintro ρ Hx ⟨k,kx,q7,hk,nx,hold,xid,xQ⟩;refine W.en (fun E4=>E4 1=ah p /\ E4 2=.ptr H.next 0 0 /\ E4 4=.ptr (H.next+1) 0 0 /\ E4 5=.ptr Hf.next 0 0 /\ E4 6=af (aM (az d)) /\ E4 7=aa k) (by simp only[go_sem,h1,h2,h4,h5,h6,q7]) fun E4 ⟨a1,a2,a4,a5,a6,a7⟩=>?_
 have hkx:=xQ.len;rw[dE]at hkx;have x0:=ag ((hold H.next (by omega) (by omega)).trans d0);have x1:=ag ((hold (H.next+1) (by omega) (by omega)).trans d1);have xN:=ag ((hold Hf.next (by omega) (by omega)).trans dN);have xl:=ag xid;have hdl:(aM (az d)).length=(az d).length:=by simp [aM]
 by_cases hb:(k:Int)<(az d).length;rotate_left
 ·refine W.vs ?_;simp only[go_sem,a6,a7,hb,hdl];refine W.vs ?_;simp only[go_sem,a4,a5,xN,x1];rw[RI (by omega)]at xQ;exact hF hcl id gg kx _ ⟨by rw[aw];omega,fun i h=>by rw[ab,SO (by omega),hold i (by omega) (by omega)];exact dold i h⟩ (by omega) (by rw[aw];omega) (by rw[ab,SO (by omega)];exact xid) xQ
 obtain⟨v,hv⟩:=get_of_lt (l:=az d) (i:=k) (by omega);obtain⟨v1,v2,v3⟩:=kG hv;obtain⟨x,hx⟩:=get_of_lt (l:=d.nodes) (i:=v) v1;obtain⟨l,hl⟩:=get_of_lt (l:=p) (i:=k) (by rw[hp.len];omega);obtain⟨ll,lr⟩:=hp.row k v x l hv hx hl;refine W.sq ?_;simp only[go_sem,a6,a7,hb,hdl];have hdk:(ints (aM (az d)))[k]?=some (aa v):=by rw[gJ];unfold aM;rw[List.getElem?_map,hv];rfl
 have hdne:=aK hdk;obtain⟨y,hy⟩:=get_of_lt (l:=bP d (kR p k)) (i:=v) (by rw[dE];exact v1);have hyx:y.card=x.card/\y.parents=x.parents:=by
  rw[eF hx]at hy;cases hy;exact gp ..
 obtain⟨yr,y3,_,ydis,_⟩:=xQ.part hy;have yro:yr.one=true:=by rcases ydis with h|h<;>rw[h]<;>first|rfl|(unfold ba;split<;>rfl)
 have yrc:yr.cells=[yr]:=by rcases ydis with h|h<;>rw[h]<;>first|rfl|(unfold ba;split<;>rfl)
 rw[hyx.1,hyx.2]at y3;have yne:=xQ.ne hy;have hvb:(v:Int)<d.nodes.length:=by omega
 have hv3:v*3+3<=kx.length:=by omega
 refine W.seq (W.block (W.seq ?_));refine W.draw 9 [0,1,0,0,12,28,63,127,0] Tryz.mixed (by kernel_rfl) (by kernel_rfl) ?_;simp only[go_sem,a5,a6,a7,xN,xl,hb,hdl,hdk,hdne,hvb,y3,hv3];refine⟨by repeat' (first|refine And.intro ?_ ?_|(intro x hx;omega)),by rw[yro];rfl,?_⟩;obtain⟨Hp,hHp⟩:∃ Hp,Hp=ext Hx [.arr 0 73 [.lit (.int .i64 x.card),.vec x.parents.length (ints x.parents),yr]]:=⟨_,rfl⟩
 have np:Hp.next=Hx.next+1:=by rw[hHp];rfl
 have op:Over Hx Hp:=by rw[hHp];exact .ext _ _
 have pP:Hp.live Hx.next 0=some (73,[.lit (.int .i64 x.card),.vec x.parents.length (ints x.parents),yr]):=by rw[hHp];exact ag bT
 refine W.en (fun E5=>E5 1=ah p /\ E5 2=.ptr H.next 0 0 /\ E5 4=.ptr (H.next+1) 0 0 /\ E5 5=.ptr Hf.next 0 0 /\ E5 6=af (aM (az d)) /\ E5 7=aa k /\ E5 8=.ptr Hx.next 0 0) (by simp only[go_sem,a1,a2,a4,a5,a6,a7]) fun E5 ⟨c1,c2,c4,c5,c6,c7,c8⟩=>?_
 rw[<- hHp];clear hHp;refine W.sq ?_;simp only[go_sem,c8,pP];obtain⟨Hq,hHq⟩:∃ Hq,Hq=Hp.upd Hx.next (.arr 0 73 [.lit (.int .i64 x.card),.vec x.parents.length (ints x.parents),.lit (.slice none 0 0)]):=⟨_,rfl⟩
 have nq:Hq.next=Hx.next+1:=by rw[hHq,aw];exact np
 have qo:∀ i,i<Hx.next->Hq.get i=Hx.get i:=fun i h=>by rw[hHq,ab,SO (by omega)];exact op.old i h
 have qP:Hq.get Hx.next=some (.arr 0 73 [.lit (.int .i64 x.card),.vec x.parents.length (ints x.parents),.lit (.slice none 0 0)]):=by rw[hHq,ab,SQ rfl]
 rw[<- hHq];clear hHq;have hcx:=hok.n.card x (SK hx);obtain⟨cn,hcn⟩:=S2 (show 0<=x.card by omega);have hlg:(p.map af)[k]?=some (af l):=by rw[List.getElem?_map,hl];rfl
 have hpne:=aK hl;have hpk:(k:Int)<p.length:=by have:=get_lt hl;omega
 have hl38:=hpf.2 l (SK hl);obtain⟨rws,hrws⟩:∃ rws:List (List AVal),rws=l.map fun a=>ints (bj d.grain x.card a):=⟨_,rfl⟩
 refine W.seq ?_;refine W.lT (Q':=fun e s2=>e=.normal/\∃ rq,s2.ρ 1=ah p/\s2.ρ 2=.ptr H.next 0 0/\s2.ρ 4=.ptr (H.next+1) 0 0/\s2.ρ 5=.ptr Hf.next 0 0/\s2.ρ 6=af (aM (az d))/\s2.ρ 7=aa k/\s2.ρ 8=.ptr Hx.next 0 0/\Hq.next<=s2.H.next/\(∀ i,i<Hx.next->s2.H.get i=Hx.get i)/\s2.H.get Hx.next=some (.arr 0 73 [.lit (.int .i64 x.card),.vec x.parents.length (ints x.parents),rq])/\dP Hq.next s2.H 46 3 rq rws) ?_ ?_;rotate_left
 ·rintro e s2 ⟨rfl,rq,r1,r2,r4,r5,r6,r7,r8,hn2,ho2,hP2,hO2⟩;obtain⟨x',hx'⟩:∃ x':NodeP,x'={ x with rows:=cG d.grain d.nodes (fixC p) k x }:=⟨_,rfl⟩
  have hrx:rws=x'.rows.map ints:=by
   rw[hrws,hx'];show _=(cG d.grain d.nodes (fixC p) k x).map ints;unfold cG;rw[U6,<- ll];apply Tk;intro i;rcases Te i l.length with h|h
   ·obtain⟨b,hb'⟩:=get_of_lt h;rw[List.getElem?_map,List.getElem?_map,hb',Tn h];have:fixC p k i=b:=(by unfold fixC;simp [Td,hl,hb']);simp [this]
   ·rw[SV (by simpa using h),SV (by simpa using h)]
  have hv':=hO2.fz (S:=fun i=>Hq.next<=i) (nx:=s2.H.next) (rows':=rws) (fun _ h=>h) rfl fun j r r' h1 h2=>by
   rw[h1]at h2;cases h2;refine⟨rfl,fun i hi _=>?_⟩;have hrm:=SK h1;rw[hrws]at hrm;obtain⟨b,_,rfl⟩:=S9.1 hrm;simp only[ints,S4];exact .lit _
  have hvv:(AVal.vec rws.length (rws.map fun r=>.vec r.length r))=ah x'.rows:=by
   rw[hrx];unfold ah af;rw[SZ,U6];congr 1;refine Ti fun r _=>?_;show AVal.vec (ints r).length (ints r)=_;rw[aP]
  rw[hvv]at hv';refine⟨⟨s2.ρ,s2.H.fy Hq.next Hx.next (.arr 0 73 [.lit (.int .i64 x.card),.vec x.parents.length (ints x.parents),ah x'.rows])⟩,cV.fy aS hP2 (by omega) rfl (fun i hi _=>?_),Nat.le_refl _,trivial,?_⟩
  ·match i,hi with
   | 0,_=>exact .lit _
   | 1,_=>exact .dq _
   | 2,_=>exact hv'
  obtain⟨He,hHe⟩:∃ He,He=s2.H.fy Hq.next Hx.next (.arr 0 73 [.lit (.int .i64 x.card),.vec x.parents.length (ints x.parents),ah x'.rows]):=⟨_,rfl⟩
  rw[<- hHe];have gPe:He.get Hx.next=some (.arr 0 73 [.lit (.int .i64 x.card),.vec x.parents.length (ints x.parents),ah x'.rows]):=by rw[hHe];exact Df (by omega)
  have hoe:∀ i,i<Hx.next->He.get i=Hx.get i:=fun i h=>by rw[hHe,Dg (by omega) (by omega)];exact ho2 i h
  have hne':He.next=s2.H.next:=by rw[hHe];rfl
  clear hHe hv' hP2 hO2;have lPe:=ag gPe;have lNe:=ag ((hoe Hf.next (by omega)).trans ((hold Hf.next (by omega) (by omega)).trans dN));have lxe:=ag ((hoe id (by omega)).trans xid);simp only[go_sem];refine W.draw 7 [0,1,0,0,12,28,0] Tryz.mixed (by kernel_rfl) (by kernel_rfl) ?_;simp only[go_sem,r5,r6,r7,r8,lPe,lNe,lxe,hdl,hdk,hdne,hb,hvb,hv3];have w1:=SM ((k:Int)+1) (by omega);refine W.vs ?_;simp only[go_sem,r7,w1];refine⟨by rw[aw];omega,⟨k+1,_,rfl,by omega,by rw[aw];omega,fun i h1 h2=>by rw[ab,SO h2,hoe i (by omega)];exact hold i h1 h2,by rw[ab,SQ rfl],?_⟩,by rw[q7];simp only[aa,aQ];omega⟩;rw[RJ hok hv hx,<- hx'];have e1:x'.card=x.card:=by rw[hx']
  have e2:x'.parents=x.parents:=by rw[hx']
  have:=xQ.set (v:=v) (y:=x') (rv:=ah x'.rows) (by rw[dE];exact v1) (.inl rfl) fun h=>h.elim;rw[e1,e2]at this;exact this
 refine W.sq ?_;simp only[go_sem];refine W.block ?_;refine W.en (fun E6=>E6 1=ah p /\ E6 2=.ptr H.next 0 0 /\ E6 4=.ptr (H.next+1) 0 0 /\ E6 5=.ptr Hf.next 0 0 /\ E6 6=af (aM (az d)) /\ E6 7=aa k /\ E6 8=.ptr Hx.next 0 0 /\ E6 9=aa 0) (by simp only[go_sem,c1,c2,c4,c5,c6,c7,c8]) fun E6 ⟨d1',d2',d4',d5',d6',d7',d8',d9'⟩=>?_
 refine W.aL 576460751229683200 (by rfl) (fun ρ3 Hy=>∃ (j:Nat) (rq:AVal),ρ3 9=aa j/\j<=l.length/\Hq.next<=Hy.next/\(∀ i,i<Hx.next->Hy.get i=Hx.get i)/\Hy.get Hx.next=some (.arr 0 73 [.lit (.int .i64 x.card),.vec x.parents.length (ints x.parents),rq])/\dP Hq.next Hy 46 3 rq (rws.take j)) (fun ρ3 H=>l.length - (iv (ρ3 9)).toNat) ?_ ?_
 ·simp only[go_sem,d9'];exact⟨0,_,rfl,by omega,qo,qP,.nil⟩
 rintro ρ3 Hy ⟨j,rq,t9,hj,hny,hyo,hyP,hOy⟩;refine W.en (fun E7=>E7 1=ah p /\ E7 2=.ptr H.next 0 0 /\ E7 4=.ptr (H.next+1) 0 0 /\ E7 5=.ptr Hf.next 0 0 /\ E7 6=af (aM (az d)) /\ E7 7=aa k /\ E7 8=.ptr Hx.next 0 0 /\ E7 9=aa j) (by simp only[go_sem,d1',d2',d4',d5',d6',d7',d8',t9]) fun E7 ⟨v1',v2',v4',v5',v6',v7',v8',v9'⟩=>?_
 by_cases hc:(j:Int)<l.length;rotate_left
 ·refine W.vs ?_;simp only[go_sem,v1',v2',v4',v5',v6',v7',v8',v9',ah,hlg,hpne,hpk,hc];rw[SP (by rw[hrws,SZ];omega)]at hOy;exact⟨rq,hny,hyo,hyP,hOy⟩
 obtain⟨a,ha⟩:=get_of_lt (l:=l) (i:=j) (by omega);have har:=lr a (SK ha);obtain⟨aN,haN⟩:=S2 har.1;have hlne:=aK ha;have yP:=ag hyP;rw[hcn]at yP;have y0:=ag ((hyo H.next (by omega)).trans ((hold H.next (by omega) (by omega)).trans d0));have y0e:∀ L,(ext Hy L).live H.next 0=_:=fun L=>(dv (by omega)).trans y0;have yPe:∀ L,(ext Hy L).live Hx.next 0=_:=fun L=>(dv (by omega)).trans yP;have hcn0:(0:Int)<cn:=by omega
 have hcn2:(cn:Int) >= 0:=by omega
 refine W.sq ?_;simp only[go_sem,v1',v7',v9',ah,hlg,hpne,hpk,hc];refine W.seq (W.block ?_);refine W.sq ?_;simp only[go_sem,v8',yP,hcn2];refine⟨by omega,?_⟩;have haN':aN<cn:=by omega
 have hun:=RK (g:=d.grain) hcn haN';have hul:(bj d.grain x.card aN).length=cn:=by rw[rV,hcn];rfl
 have zl:(List.replicate cn (AVal.lit (.int .i64 0))).length=cn:=Tl;have zne:¬ List.replicate cn (AVal.lit (.int .i64 0))=[]:=fun h=>by rw[h]at zl;simp at zl;omega
 have hab:(aN:Int)<cn:=by omega
 obtain⟨Hu,hHu⟩:∃ Hu,Hu=ext Hy [.arr 0 3 (List.replicate cn (.lit (.int .i64 0)))]:=⟨_,rfl⟩
 have nu:Hu.next=Hy.next+1:=by rw[hHu];rfl
 have uo:∀ i,i<Hy.next->Hu.get i=Hy.get i:=fun i h=>by rw[hHu];exact dH _ _ _ h
 have uP:=ag ((uo Hx.next (by omega)).trans hyP);have u0:=ag ((uo H.next (by omega)).trans ((hyo H.next (by omega)).trans ((hold H.next (by omega) (by omega)).trans d0)));have uR:Hu.live Hy.next 0=some (3,List.replicate cn (.lit (.int .i64 0))):=by rw[hHu];exact ag bT
 rw[<- hHu];refine W.seq ?_;refine W.draw 10 [0,0,0,6,14,0,62,126,0,256] Tryz.mixed (by kernel_rfl) (by kernel_rfl) ?_;simp only[go_sem,v1',v2',v7',v9',u0,uR,ah,hlg,hpne,hpk,ha,haN,hlne,hc,zl,hab,hun];refine⟨by omega,?_⟩;obtain⟨Hw,hHw⟩:∃ Hw,Hw=Hu.upd Hy.next (.arr 0 3 (ints (bj d.grain x.card aN))):=⟨_,rfl⟩
 have hwn:Hw.next=Hy.next+1:=by rw[hHw,aw];exact nu
 have hwo:Over Hy Hw:=⟨by omega,fun i h=>by rw[hHw,ab,SO (by omega)];exact uo i h⟩
 have hwg:Hw.get Hy.next=some (.arr 0 3 (ints (bj d.grain x.card aN))):=by rw[hHw,ab,SQ rfl]
 have wP:=ag ((hwo.old Hx.next (by omega)).trans hyP);obtain⟨rq',Hj,hA,hO',hnj,hpj⟩:=dP.app (P:=Tryz.prog) (H:=Hw) (n:=Hw.next+1) (t:=33) (x:=.own Hy.next 0 0 cn 1) (r:=ints (bj d.grain x.card aN)) Tryz.underlying33 Tryz.jL Tryz.kB Tryz.kA (by decide) (by rw[SX];omega) (hOy.over hwo) (by omega) (.inr ⟨Hy.next,0,by omega,by omega,by rw[aP,hul],hwg⟩) rfl;have keep:∀ id,id<Hq.next->Hj.get id=Hy.get id:=fun id h=>(hpj id (by omega) h).trans (hwo.old id (by omega));have jP:=ag ((keep _ (by omega)).trans hyP);have hO'2:=hO';obtain⟨cs',hcs'⟩:=hO'2;have rc:=hcs'.1.cells;have ro:=hcs'.1.one;rw[<- hHw];have w3:=SM ((j:Int)+1) (by omega);refine W.vs ?_;simp only[go_sem,v8',wP,hA,jP,rc,ro];refine W.vs ?_;simp only[go_sem,v9',w3];refine⟨by rw[aw];omega,⟨j+1,rq',rfl,by omega,by rw[aw];omega,fun id h=>by rw[ab,SO (by omega),keep id (by omega)];exact hyo id h,by rw[ab,SQ rfl],?_⟩,by rw[t9];simp only[aa,aQ];omega⟩;have hr1:rws[j]?=some (ints (bj d.grain x.card aN)):=by rw[hrws,List.getElem?_map,ha,haN];rfl
 rw[aO hr1];exact hO'.upd (by omega)
theorem RM (d:InfP)(cs:List AVal)(hq:NodesQ (fun v=>d.decs.testBit v=true) d.nodes cs)(hf:InfFit d)(hok:InfOk d)(p:List (List Int))(hp:PolOk d p)(H:AHeap)(K:ARes->AHeap->Prop)(hK:K (.ret (bJ d.grain (bP d (fixC p)))) H):
  ae Tryz.prog G0 72 [dL d cs,ah p] H K:=by
 refine RL d cs hq hf hok p hp H K fun hcl id gg ks H' ov h1 _ h3 hQ=>?_;have hnl:=dE d (fixC p);have hkx:=hQ.len;refine ay.bx (v':=bJ d.grain (bP d (fixC p))) aS hcl ov (.agg rfl fun i hi _=>?_) hK
 match i,hi with
 | 0,_=>exact .lit _
 | 1,_ =>
  show Fz _ _ _ (.own id gg 0 d.nodes.length 3) (cj (bP d (fixC p)));unfold cj;rw[hnl];refine .frz h1 h3 (by rw[gT,hnl]) fun j hj h2 h'=>?_;have e0:(0:Nat)+j=j:=Nat.zero_add j;have:=fun Hq=>hQ.uQ (S:=fun i=>H.next<=i) (H:=Hq) (nx:=H.next) j (by omega) h';simpa only[e0] using this _
end Go.Proofs
namespace Go.Hx
open Go.Proofs (get_lt get_of_lt)
variable {P:Program} {H:AHeap} {G:Nat->Option (List AVal)}
def dM (lo:Nat)(H:AHeap)(e1 e0:TypeId)(v:AVal)(rows:List (List AVal)):Prop :=
 ∃ cs:List AVal,aA lo H e1 v cs/\cs.length=rows.length/\(∀ (j:Nat) (r:List AVal) (c:AVal),rows[j]?=some r->cs[j]?=some c->aA lo H e0 c r)/\∀ (i j a g g' n n':Nat),cs[i]?=some (.own a g 0 n 1)->cs[j]?=some (.own a g' 0 n' 1)->i=j
theorem dM.nil {lo:Nat}{e1 e0:TypeId}:dM lo H e1 e0 (.lit (.slice none 0 0)) []:=⟨[],.nil,rfl,fun j r c h=>by simp at h,fun i j a g g' n n' h=>by simp at h⟩
theorem dM.DM {lo:Nat}{e1 e0:TypeId}{v:AVal}{rows:List (List AVal)}(h:dM lo H e1 e0 v rows):dP lo H e1 e0 v rows :=
 let ⟨cs,a,b,c,_⟩:=h;⟨cs,a,b,c⟩
theorem dM.lo {lo lo':Nat}{e1 e0:TypeId}{v:AVal}{rows:List (List AVal)}(h:dM lo H e1 e0 v rows)(hl:lo'<=lo):dM lo' H e1 e0 v rows :=
 let ⟨cs,a,b,c,d⟩:=h;⟨cs,a.keep hl (Nat.le_refl _) fun _ _ _ _ _ _=>rfl,b,fun j r q h1 h2=>(c j r q h1 h2).keep hl (Nat.le_refl _) fun _ _ _ _ _ _=>rfl,d⟩
theorem dM.app {Hx:AHeap}{lo n:Nat}{e1 e0:TypeId}{v x:AVal}{rows:List (List AVal)}{r:List AVal}{t:TypeId}{z:List AVal}(ht:P.underlying t=some (.slice e1))(hz:P.cellsOf e1=1)(hzero:bE P e1=some z)(hby:P.bytesOf e1=24)(hne:e1≠e0)
  (hb:rows.length<2 ^ 40) (h:dM lo Hx e1 e0 v rows) (ho:Over Hx H) (hlo:lo<=Hx.next) (hx:aA Hx.next H e0 x r) (hn:n=H.next+1):
  ∃ v' H',bf P (ext H [.arr 0 e1 [x]]) n t t v (.own H.next 0 0 1 1)=some (v',H')/\dM lo H' e1 e0 v' (rows++[r])/\H.next<=H'.next/\(∀ k,k<H.next->k<lo->H'.get k=H.get k):=by
 obtain⟨cs,h1,h2,h3,h4⟩:=h;have hon:=ho.next;have h1':=h1.over ho;obtain⟨v',H',hA,hO,hL,hp⟩:=gL (P:=P) (t:=t) ht hz hzero hx.one (by rw[hby,h2];omega) h1' (by omega) hn;have key:∀ lo' u l,aA lo' H e0 u l->aA lo' H' e0 u l:=fun lo' u l hu=>h1'.qO hu hne hL hp;have split:∀ (j:Nat) (c:AVal),(cs++[x])[j]?=some c->(j<cs.length/\cs[j]?=some c)\/(j=cs.length/\c=x):=fun j c hc=>by
  rcases Te j cs.length with hj|hj
  ·rw[SW hj]at hc;exact .inl ⟨hj,hc⟩
  ·have:=get_lt hc;rw[List.length_append,UL]at this;have hj:j=cs.length:=(by omega);subst hj;rw[S5 (Nat.le_refl _),Uo]at hc;exact .inr ⟨rfl,(Option.some.inj hc).symm⟩
 have old:∀ (j a g m:Nat),cs[j]?=some (.own a g 0 m 1)->a<Hx.next:=fun j a g m hc=>by
  obtain⟨r',hr'⟩:∃ r',rows[j]?=some r':=⟨_,SN (by rw[<- h2];exact get_lt hc)⟩
  rcases h3 j r' _ hr' hc with ⟨e,_⟩|⟨i,g',_,b,e,_⟩
  ·cases e
  ·rw[(AVal.own.inj e).1];exact b
 have new:∀ a g m,x=.own a g 0 m 1->Hx.next<=a:=fun a g m he=>by
  rcases hx with ⟨e,_⟩|⟨i,g',b,_,e,_⟩
  ·rw[e]at he;cases he
  ·rw[e]at he;rw[<- (AVal.own.inj he).1];exact b
 refine⟨v',H',hA,⟨cs++[x],hO,by simp [h2],fun j r' c hr hc=>?_,fun i j a g g' m m' hi hj=>?_⟩,hL,fun k hk hkl=>hp k hk (h1.ne hkl)⟩
 ·rcases split j c hc with ⟨a,b⟩|⟨a,b⟩
  ·rw[SW (by omega)]at hr;exact key _ _ _ ((h3 j r' c hr b).over ho)
  ·rw[a,h2,S5 (Nat.le_refl _),Uo]at hr;cases hr;rw[b];exact key _ _ _ (hx.keep hlo (Nat.le_refl _) fun _ _ _ _ _ _=>rfl)
 ·rcases split i _ hi with ⟨a1,b1⟩|⟨a1,b1⟩<;>rcases split j _ hj with ⟨a2,b2⟩|⟨a2,b2⟩
  ·exact h4 i j a g g' m m' b1 b2
  ·have:=old i a g m b1;have:=new a g' m' b2.symm;omega
  ·have:=old j a g' m' b2;have:=new a g m b1.symm;omega
  ·omega
theorem dM.row {lo:Nat}{e1 e0:TypeId}{v:AVal}{rows:List (List AVal)}(h:dM lo H e1 e0 v rows)(hne:e1≠e0){k:Nat}{r:List AVal}(hr:rows[k]?=some r)(h0:r≠[]):
  ∃ idt gt idr gr cells,v=.own idt gt 0 rows.length 1/\H.get idt=some (.arr gt e1 cells)/\cells.length=rows.length/\lo<=idt/\idt<H.next/\cells[k]?=some (.own idr gr 0 r.length 1)/\H.get idr=some (.arr gr e0 r)/\lo<=idr/\idr<H.next /\
   ∀ r':List AVal,r'.length=r.length->dM lo (H.upd idr (.arr gr e0 r')) e1 e0 v (rows.set k r'):=by
 obtain⟨cs,h1,h2,h3,h4⟩:=h;have hk:=get_lt hr;obtain⟨c,hc⟩:=get_of_lt (l:=cs) (i:=k) (by omega);rcases h3 k r c hr hc with ⟨_,e⟩|⟨idr,gr,a1,a2,e,a4⟩
 ·exact absurd e h0
 rcases h1 with ⟨_,e'⟩|⟨idt,gt,b1,b2,e',b4⟩
 ·rw[e']at h2;simp at h2;omega
 subst e;have hit:idt≠idr:=fun e=>by rw[e,a4]at b4;cases b4;exact hne rfl
 refine⟨idt,gt,idr,gr,cs,by rw[e',h2],b4,h2,b1,b2,hc,a4,a1,a2,fun r' hl=>⟨cs,.inr ⟨idt,gt,b1,by rw[aw];exact b2,e',by rw[ab,SO hit];exact b4⟩,by rw[SU];exact h2,fun j q c' hj hc'=>?_,h4⟩⟩;by_cases e:j=k
 ·subst e;rw[S1 hk]at hj;rw[hc]at hc';cases hj;cases hc';exact .inr ⟨idr,gr,a1,by rw[aw];exact a2,by rw[hl],by rw[ab,SQ rfl]⟩
 ·rw[Tb (fun h=>e h.symm)]at hj;refine(h3 j q c' hj hc').keep (Nat.le_refl _) (by rw[aw];exact Nat.le_refl _) fun i g _ _ _ hv=>?_;rw[ab,SO];rintro rfl;rw[hv]at hc';exact e (h4 j k i g gr _ _ hc' hc)
end Go.Hx
namespace Go.Proofs
open Go.Hx
theorem DN {S:Nat->Prop}{lo nx:Nat}{H:AHeap}{e1 e0:TypeId}{v:AVal}{ps:List (List Int)}(h:dP lo H e1 e0 v (ps.map ints))(hS:∀ i,lo<=i->S i):Fz S H nx v (ah ps):=by
 have:=h.fz (S:=S) (nx:=nx) (rows':=ps.map ints) hS rfl fun j r r' h1 h2=>by
  rw[h1]at h2;cases h2;refine⟨rfl,fun i hi _=>?_⟩;rw[List.getElem?_map]at h1;obtain⟨z,_,rfl⟩:=SL.1 h1;have e0:(ints z)[i]?=some (ints z)[i]:=SN hi;generalize (ints z)[i]=a at e0 ⊢;rw[gJ]at e0;obtain⟨b,_,rfl⟩:=SL.1 e0;exact .lit _
 rw[SZ,U6]at this;have e:(ps.map ((fun r:List AVal=>AVal.vec r.length r) ∘ ints))=ps.map af:=Ti fun z _=>by simp [Function.comp,af,aP]
 rw[e]at this;exact this
def jn (d:InfP)(v:Int):Int:=if v∈aM (az d) then ((aM (az d)).idxOf v:Nat) else -1
theorem Sw {d:InfP}{v:Nat}(hv:v∈az d):jn d (v:Int)=(aX d.decs v:Nat):=by
 obtain⟨v1,v2⟩:=dD.1 hv;have hm:(v:Int)∈aM (az d):=S9.2 ⟨v,hv,rfl⟩;unfold jn;rw[SQ hm,Ea (k:=aX d.decs v)]
 ·intro j hj b hb;unfold aM at hb;rw[List.getElem?_map]at hb;obtain⟨w,hw,rfl⟩:=SL.1 hb;intro e;have e':w=v:=by omega
  subst e';have:=(kG hw).2.2;omega
 ·unfold aM;rw[List.getElem?_map];have:=kF v1 v2;rw[show (az d)[aX d.decs v]?=some v from this];rfl
theorem Fv {d:InfP}{v:Int}:0<=jn d v↔∃ u:Nat,v=u/\u∈az d:=by
 unfold jn;constructor
 ·intro h;by_cases hm:v∈aM (az d)
  ·obtain⟨u,hu,rfl⟩:=S9.1 hm;exact⟨u,rfl,hu⟩
  ·rw[SO hm]at h;omega
 ·rintro⟨u,rfl,hu⟩;rw[SQ (show (u:Int)∈aM (az d) from S9.2 ⟨u,hu,rfl⟩)];omega
set_option maxHeartbeats 1000000 in
theorem Fw (d:InfP)(cs:List AVal)(hd:d.decs<2 ^ 64)(hl:(d.nodes.length:Int)<2 ^ 39)(v:Int)(H:AHeap)(K:ARes->AHeap->Prop)(hK:K (.ret (aa (jn d v))) H):ae Tryz.prog G0 70 [dL d cs,aa v] H K:=by
 refine ae.clo ⟨_,Tryz.func70,rfl,rfl⟩ fun hcl=>?_;refine ae.jD (n:=22) (rs:=[.tmp 4]) Tryz.func70 rfl rfl rfl (by decide) (by simp) ?_;refine W.sq ?_;simp only[go_sem,iP,gV];obtain⟨H1,hH1⟩:∃ H1,H1=ext H [.arr 0 38 [.lit (.int .i64 d.grain),.vec d.nodes.length cs,.lit (.int .u64 (d.decs:Int)),.vec d.utils.length (aR d.utils)]]:=⟨_,rfl⟩
 have l1:=ag (show H1.get H.next=some (.arr 0 38 [.lit (.int .i64 d.grain),.vec d.nodes.length cs,.lit (.int .u64 (d.decs:Int)),.vec d.utils.length (aR d.utils)]) by rw[hH1];exact bQ ..);have o1:Over H H1:=by rw[hH1];exact .ext _ _
 rw[<- hH1];clear hH1;refine W.en (fun E=>E 1=aa v /\ E 2=.ptr H.next 0 0) (by simp only[go_sem]) fun E ⟨e1,e2⟩=>?_
 refine W.sq ?_;simp only[go_sem,e2,l1];refine aB.clo (vg d cs hd hl _ _ ⟨trivial,?_⟩);simp only[go_sem];refine W.env fun E1 hE1=>?_;have f1:E1 1=aa v:=by rw[hE1];simp only[go_sem,e1]
 have f5:E1 5=af (aM (az d)):=by rw[hE1];simp only[go_sem]
 clear hE1 e1 e2;have hdl:(aM (az d)).length=(az d).length:=by simp [aM]
 have hdn:(az d).length<=d.nodes.length:=jf;refine W.seq ?_;refine W.sq ?_;simp only[go_sem];refine W.block ?_;refine W.aL 4193872 (by rfl) (fun ρ Hx=>Hx=H1/\∃ k:Nat,ρ 6=aa k/\k<=(aM (az d)).length/\∀ j,j<k->∀ b,(aM (az d))[j]?=some b->b≠v) (fun ρ H=>(aM (az d)).length - (iv (ρ 6)).toNat) ?_ ?_
 ·simp only[go_sem];exact⟨0,rfl,by omega,fun j h=>absurd h (S7 _)⟩
 rintro ρ Hx ⟨rfl,k,h6,hk,hne⟩;refine W.en (fun E2=>E2 1=aa v /\ E2 5=af (aM (az d)) /\ E2 6=aa k) (by simp only[go_sem,f1,f5,h6]) fun E2 ⟨g1,g5,g6⟩=>?_
 by_cases hb:(k:Int)<(aM (az d)).length;rotate_left
 ·have hno:jn d v=-1:=by
   unfold jn;rw[SO];intro hm;obtain⟨j,hj⟩:=S8.1 hm;exact hne j (by have:=get_lt hj;omega) _ hj rfl
  rw[hno]at hK;refine W.vs ?_;simp only[go_sem,g5,g6,hb];refine W.vs ?_;simp only[go_sem];exact ay.bx aS hcl o1 (.lit _) hK
 obtain⟨a,ha⟩:=get_of_lt (l:=aM (az d)) (i:=k) (by omega);have hane:=aK ha;have w1:=SM ((k:Int)+1) (by omega);refine W.vs ?_;by_cases hav:a=v
 ·subst hav;have hyes:jn d a=(k:Int):=by
   unfold jn;rw[SQ (SK ha),Ea hne ha]
  rw[hyes]at hK;simp only[go_sem,g1,g5,g6,hb,ha,hane];exact ay.bx aS hcl o1 (.lit _) hK
 ·simp only[go_sem,g1,g5,g6,hb,ha,hane,hav,w1];refine⟨⟨k+1,rfl,by omega,fun j hj b hjb=>?_⟩,by rw[h6];simp only[aa,aQ];omega⟩;by_cases hjk:j=k
  ·subst hjk;rw[ha]at hjb;cases hjb;exact hav
  ·exact hne j (by omega) b hjb
theorem Fx (d:InfP)(cs:List AVal)(hd:d.decs<2 ^ 64)(hl:(d.nodes.length:Int)<2 ^ 39)(v:Int)(H:AHeap)(K:ARes->AHeap->Prop)(hK:K (.ret (.lit (.bool (decide (0<=jn d v))))) H):ae Tryz.prog G0 24 [dL d cs,aa v] H K:=by
 refine ae.clo ⟨_,Tryz.func24,rfl,rfl⟩ fun hcl=>?_;refine ae.jD (n:=9) (rs:=[.tmp 4]) Tryz.func24 rfl rfl rfl (by decide) (by simp) ?_;refine W.sq ?_;simp only[go_sem,iP,gV];obtain⟨H1,hH1⟩:∃ H1,H1=ext H [.arr 0 38 [.lit (.int .i64 d.grain),.vec d.nodes.length cs,.lit (.int .u64 (d.decs:Int)),.vec d.utils.length (aR d.utils)]]:=⟨_,rfl⟩
 have l1:=ag (show H1.get H.next=some (.arr 0 38 [.lit (.int .i64 d.grain),.vec d.nodes.length cs,.lit (.int .u64 (d.decs:Int)),.vec d.utils.length (aR d.utils)]) by rw[hH1];exact bQ ..);have o1:Over H H1:=by rw[hH1];exact .ext _ _
 rw[<- hH1];refine W.vs ?_;simp only[go_sem,l1];refine aB.clo (Fw d cs hd hl v _ _ ⟨trivial,?_⟩);simp only[go_sem];exact ay.bx aS hcl o1 (.lit _) hK
set_option maxHeartbeats 2000000 in
theorem Sx (p:List (List Int))(hp:mK p)(H:AHeap)(K:ARes->AHeap->Prop)(hK:∀ v H',Over H H'->dM H.next H' 46 3 v (p.map ints)->K (.ret v) H'):ae Tryz.prog G0 71 [ah p] H K:=by
 refine ae.clo ⟨_,Tryz.func71,rfl,rfl⟩ fun hcl=>?_;refine ae.aZ (n:=21) (rs:=[.tmp 2]) Tryz.func71 rfl rfl rfl (by decide) (by kernel_rfl) (by simp) ?_;simp only[go_sem,ah];refine W.aL 1048568 (by rfl) (fun ρ Hx=>∃ k:Nat,ρ 4=aa k/\k<=p.length/\Over H Hx/\dM H.next Hx 46 3 (ρ 3) ((p.take k).map ints)) (fun ρ H=>p.length - (iv (ρ 4)).toNat) ?_ ?_
 ·simp only[go_sem];exact⟨0,rfl,by omega,.refl _,.nil⟩
 rintro ρ Hx ⟨k,h4,hk,ov,hO⟩;obtain⟨v,h3⟩:∃ v,ρ 3=v:=⟨_,rfl⟩
 rw[h3]at hO;refine W.en (fun E=>E 0=ah p /\ E 3=v /\ E 4=aa k) (by simp only[go_sem,ah,h3,h4]) fun E ⟨e0,e3,e4⟩=>?_
 have hp1:=hp.1;by_cases hb:(k:Int)<p.length;rotate_left
 ·refine W.vs ?_;simp only[go_sem,e0,e3,e4,ah,hb];rw[SP (by omega)]at hO;exact ay.mk ov.next (hK v Hx ov hO)
 obtain⟨l,hl⟩:=get_of_lt (l:=p) (i:=k) (by omega);have hlr:=hp.2 l (SK hl);have hg:(p.map af)[k]?=some (af l):=by rw[List.getElem?_map,hl];rfl
 have hpne:=aK hl;have w1:=SM ((k:Int)+1) (by omega);obtain⟨Ha,hHa⟩:∃ Ha,Ha=ext Hx [.arr 0 3 (List.replicate 0 (.lit (.int .i64 0)))]:=⟨_,rfl⟩
 have na:Ha.next=Hx.next+1:=by rw[hHa];rfl
 have oa:Over Hx Ha:=by rw[hHa];exact .ext _ _
 have ga:Ha.get Hx.next=some (.arr 0 3 []):=by rw[hHa];exact bT
 have p0:aA Hx.next Ha 3 (.own Hx.next 0 0 0 1) []:=.inr ⟨Hx.next,0,Nat.le_refl _,by omega,rfl,ga⟩;obtain⟨pk,H2,hA1,oP,n2,hp2⟩:=qR (P:=Tryz.prog) (H:=Ha) (t:=46) (n:=Ha.next) (lo:=Hx.next) (src:=ints l) Tryz.underlying46 Tryz.dx Tryz.dQ (iY _) (by rw[Tryz.eC,aP,List.length_nil];omega) p0 (by omega) rfl;rw[List.nil_append]at oP;rw[aP]at hA1;have o2:Over Hx H2:=⟨by omega,fun i hi=>by rw[hp2 i (by omega) (fun g n he=>by have:=(AVal.own.inj he).1;omega)];exact oa.old i hi⟩
 obtain⟨v',H3,hA3,hO3,n3,hp3⟩:=dM.app (P:=Tryz.prog) (n:=H2.next+1) (t:=33) Tryz.underlying33 Tryz.jL Tryz.kB Tryz.kA (by decide) (by rw[SZ,SX];omega) hO o2 ov.next oP rfl;have pk1:=oP.one;have pkc:=oP.cells;have hO3c:v'.one=true/\v'.cells=[v']:=by obtain⟨cs,h,_⟩:=hO3;exact⟨h.one,h.cells⟩
 have v1:=hO3c.1;have v2:=hO3c.2;refine W.vs ?_;simp only[go_sem,e0,e3,e4,ah,hb,hg,hpne,<- hHa,hA1,hA3,pkc,w1];refine⟨by have:=ov.next;omega,⟨k+1,rfl,by omega,⟨by have:=ov.next;omega,fun i hi=>by rw[hp3 i (by have:=ov.next;omega) hi,o2.old i (by have:=ov.next;omega)];exact ov.old i hi⟩,?_⟩,by rw[h4];simp only[aa,aQ];omega⟩;rw[aO hl,TI];exact hO3
end Go.Proofs
namespace Go.Hx
variable {P:Program} {G:Nat->Option (List AVal)}
inductive FzL (S:Nat->Prop)(H:AHeap)(nx:Nat):List AVal->List AVal->Prop
 | nil:FzL S H nx [] []
 | cons {a a':AVal} {l l':List AVal} (h:Fz S H nx a a') (t:FzL S H nx l l'):FzL S H nx (a :: l) (a' :: l')
theorem FzL.len {S:Nat->Prop}{H:AHeap}{nx:Nat}{l l':List AVal}(h:FzL S H nx l l'):l'.length=l.length:=by
 induction h with
 | nil=>rfl
 | cons _ _ ih=>rw[List.length_cons,List.length_cons,ih]
theorem FzL.at {S:Nat->Prop}{H:AHeap}{nx:Nat}{l l':List AVal}(h:FzL S H nx l l'):∀ i (h:i<l.length) (h':i<l'.length),Fz S H nx l[i] l'[i]:=by
 induction h with
 | nil=>intro i h;exact absurd h (S7 _)
 | cons h _ ih =>
  intro i h1 h2;cases i with
  | zero=>exact h
  | succ i=>exact ih i (by simpa using h1) (by simpa using h2)
theorem FzL.agg {S:Nat->Prop}{H:AHeap}{nx:Nat}{l l':List AVal}(h:FzL S H nx l l'):Fz S H nx (.agg l) (.agg l'):=.agg h.len h.at
theorem FzL.tup {S:Nat->Prop}{H:AHeap}{nx:Nat}{l l':List AVal}(h:FzL S H nx l l'):Fz S H nx (.tup l) (.tup l'):=.tup h.len h.at
theorem FzL.own {S:Nat->Prop}{H:AHeap}{nx id g l z:Nat}{e:TypeId}{cells c':List AVal}(hS:S id)(hg:H.get id=some (.arr g e cells))(hl:cells.length=l*z)(h:FzL S H nx cells c'):Fz S H nx (.own id g 0 l z) (.vec l c'):=by
 refine .frz hS hg (by rw[h.len,hl]) fun i hi h2 h'=>?_;have e0:0+i=i:=Nat.zero_add i;simpa only[e0] using h.at i (by omega) h'
theorem aB.Sn {H:AHeap}{f:FuncId}{args args':List AVal}{K:ARes->AHeap->Prop}(n:Nat)(hG:eL G)(hv:FzL (fun id=>n<=id) H H.next args args')(h:ae P G f args' (H.cut n) K):aB P G (.clo f [] []) args H K :=
 aB.clo (by simpa using ae.Lj n hG hv.len (fun i h1 h2=>hv.at i h1 h2) h)
theorem aB.So {B H:AHeap}{f:FuncId}{args args':List AVal}{K:ARes->AHeap->Prop}(hG:eL G)(ho:Over B H)(hv:FzL (fun id=>B.next<=id) H H.next args args')(h:∀ H',Over B H'->ae P G f args' H' K):aB P G (.clo f [] []) args H K :=
 aB.Sn B.next hG hv (h _ ho.cut)
end Go.Hx
namespace Go.Proofs
open Go.Hx
end Go.Proofs
namespace Go.Hx
theorem dM.over {H H':AHeap}{lo:Nat}{e1 e0:TypeId}{v:AVal}{rows:List (List AVal)}(h:dM lo H e1 e0 v rows)(ho:Over H H'):dM lo H' e1 e0 v rows :=
 let ⟨cs,a,b,c,d⟩:=h;⟨cs,a.over ho,b,fun j r q h1 h2=>(c j r q h1 h2).over ho,d⟩
end Go.Hx
namespace Go.Proofs
open Go.Hx
theorem Sy {S:Nat->Prop}{H:AHeap}{nx:Nat}{d:InfP}{cs:List AVal}{e:Nat->Prop}(hq:NodesQ e d.nodes cs):Fz S H nx (dL d cs) (dL d cs) :=
 .agg rfl fun j hj _=>match j,hj with
  | 0,_=>.lit _
  | 1,_=>.vec rfl fun i h _=>hq.Cv i h
  | 2,_=>.lit _
  | 3,_=>.vec rfl fun _ h _=>yS _ _ (Tt h)
theorem Sz {α:Type}{l:List α}{i:Nat}{a:α}(h:l[i]?=some a):l.set i a=l:=by
 apply Tk;intro j;rw[TL];by_cases e:i=j
 ·subst e;rw[SQ rfl,h];split
  ·rfl
  ·rename_i hn;exact absurd (get_lt h) hn
 ·rw[SO e]
def fC (l:List Int)(X:Int)(j:Nat):List Int:=List.replicate j X++l.drop j
theorem Fy {l:List Int}{X:Int}{j:Nat}(h:j<=l.length):(fC l X j).length=l.length:=by unfold fC;simp;omega
theorem SA {l:List Int}{X:Int}{j:Nat}(h:j<l.length):(fC l X j).set j X=fC l X (j+1):=by
 obtain⟨a,ha⟩:=get_of_lt h;unfold fC;rw[Tv _ _ (by simp),Tl,Uo,lz ha,List.set_cons_zero,UZ,List.append_assoc];rfl
theorem SB {l:List Int}{X:Int}:fC l X l.length=List.replicate l.length X:=by unfold fC;simp
set_option maxHeartbeats 8000000 in
theorem SC (d:InfP)(cs:List AVal)(hq:NodesQ (fun v=>d.decs.testBit v=true) d.nodes cs)(hf:InfFit d)(hok:InfOk d)(h6:d.nodes.length<=6)(p:List (List Int))(hp:PolOk d p)(v0:Nat)(hv0:v0∈az d)
  (H:AHeap) (K:ARes->AHeap->Prop) (hK:K (.ret (ah (gW d (fixC p) v0))) H):ae Tryz.prog G0 25 [dL d cs,ah p,aa v0] H K:=by
 refine ae.clo ⟨_,Tryz.func25,rfl,rfl⟩ fun hcl=>?_;have n8:=hok.n.n1;have hpf:=yW hok hp;obtain⟨v01,v02⟩:=dD.1 hv0;obtain⟨x,hx⟩:=get_of_lt v01;have hxc:=hok.n.card x (SK hx);obtain⟨nr,nc⟩:=lG hx (by omega);obtain⟨hrn,hxp,hin,ps⟩:=vC hok hx;have hrc:=nO hok v01 v02;have hnr:1<=cH d v0/\cH d v0<=1024:=by unfold cH;omega
 have hplt:=rT hp hv0;obtain⟨l0,hl0⟩:=get_of_lt hplt;obtain⟨ll,_⟩:=hp.row _ v0 x l0 (nS hx v02) hx hl0;obtain⟨n,hn⟩:∃ n,n=cH d v0:=⟨_,rfl⟩
 obtain⟨cN,hcN⟩:∃ c,c=bV d v0:=⟨_,rfl⟩
 rw[<- nr,<- hn]at ll;rw[<- hcN]at nc;rw[<- hn]at hnr;refine ae.jD (n:=114) (rs:=[.tmp 6]) Tryz.func25 rfl rfl rfl (by decide) (by simp) ?_;refine W.sq ?_;simp only[go_sem,iP,gV];obtain⟨R,hR⟩:∃ R,R=ext H [.arr 0 38 [.lit (.int .i64 d.grain),.vec d.nodes.length cs,.lit (.int .u64 (d.decs:Int)),.vec d.utils.length (aR d.utils)]]:=⟨_,rfl⟩
 have oR:Over H R:=by rw[hR];exact .ext _ _
 have nR:R.next=H.next+1:=by rw[hR];rfl
 have g0:R.get H.next=some (.arr 0 38 [.lit (.int .i64 d.grain),.vec d.nodes.length cs,.lit (.int .u64 (d.decs:Int)),.vec d.utils.length (aR d.utils)]):=by rw[hR];exact bQ ..
 rw[<- hR];clear hR;have l0':=ag g0;refine W.en (fun E=>E 1=ah p /\ E 2=aa v0 /\ E 3=.ptr H.next 0 0) (by simp only[go_sem]) fun E ⟨e1,e2,e3⟩=>?_
 refine W.sq ?_;simp only[go_sem,e2,e3,l0'];refine aB.clo (Fw d cs hf.decs (by omega) v0 _ _ ⟨trivial,?_⟩);rw[Sw hv0];simp only[go_sem];refine W.env fun E1 hE1=>?_;have f1:E1 1=ah p:=by rw[hE1];simp only[go_sem,e1]
 have f2:E1 2=aa v0:=by rw[hE1];simp only[go_sem,e2]
 have f3:E1 3=.ptr H.next 0 0:=by rw[hE1];simp only[go_sem,e3]
 have f7:E1 7=.lit (.int .i64 (aX d.decs v0:Int)):=by rw[hE1];simp only[go_sem]
 clear hE1 e1 e2 e3;obtain⟨P,hP⟩:∃ P,P=aX d.decs v0:=⟨_,rfl⟩
 rw[<- hP]at hplt hl0 f7;have hlg:(p.map af)[P]?=some (af l0):=by rw[List.getElem?_map,hl0];rfl
 have hpne:=aK hl0;have hPi:(P:Int)<p.length:=by omega
 have hc0:=hq.c0 hx;have hqne:=hq.ne hx;have hvi:(v0:Int)<d.nodes.length:=by omega
 refine W.seq ?_;refine W.draw 12 [0,0,3,7,15,0,32,0,224,480,992,31] Tryz.mixed (by kernel_rfl) (by kernel_rfl) ?_;simp only[go_sem,f1,f2,f3,f7,l0',ah,hlg,hpne,hPi,hc0,hqne,hvi];refine W.en (fun E2=>E2 1=ah p /\ E2 2=aa v0 /\ E2 3=.ptr H.next 0 0 /\ E2 7=.lit (.int .i64 (P:Int)) /\ E2 8=aa n /\ E2 9=aa cN) (by simp only[go_sem,f1,f2,f3,f7,ll,nc]) fun E2 ⟨g1,g2,g3,g7,g8,g9⟩=>?_
 clear f1 f2 f3 f7;refine W.sq ?_;simp only[go_sem,g8];refine⟨by omega,?_⟩;obtain⟨R2,hR2⟩:∃ R2,R2=ext R [.arr 0 46 (List.replicate n (.lit (.slice none 0 0)))]:=⟨_,rfl⟩
 have n2:R2.next=R.next+1:=by rw[hR2];rfl
 have o2:Over R R2:=by rw[hR2];exact .ext _ _
 have k5:R2.get R.next=some (.arr 0 46 (List.replicate n (.lit (.slice none 0 0)))):=by rw[hR2];exact bT
 rw[<- hR2];clear hR2;refine W.en (fun E3=>E3 1=ah p /\ E3 2=aa v0 /\ E3 3=.ptr H.next 0 0 /\ E3 7=.lit (.int .i64 (P:Int)) /\ E3 8=aa n /\ E3 9=aa cN /\ E3 10=.own R.next 0 0 n 1) (by simp only[go_sem,g1,g2,g3,g7,g8,g9]) fun E3 ⟨h1,h2,h3,h7,h8,h9,h10⟩=>?_
 clear g1 g2 g3 g7 g8 g9
 let cs':Nat->List AVal:=fun k=>(List.range k).map (fun j=>AVal.own (R.next+1+j) 0 0 cN 1)++List.replicate (n - k) (.lit (.slice none 0 0))
 have csl:∀ k,k<=n->(cs' k).length=n:=fun k hk=>by show (_++_:List AVal).length=n;simp;omega
 have cs_set:∀ k,k<n->setAt (cs' k) k [.own (R.next+1+k) 0 0 cN 1]=cs' (k+1):=fun k hk=>by
  show setAt (_++List.replicate (n - k) _) k _=_++_;rw[show n - k=(n - (k+1))+1 by omega,TZ,Ey (by simp),T4,TI,List.append_assoc];rfl
 have cs0:cs' 0=List.replicate n (.lit (.slice none 0 0)):=by show _++_=_;simp
 refine W.gh (fun s'=>s'.ρ 1=ah p/\s'.ρ 2=aa v0/\s'.ρ 3=.ptr H.next 0 0/\s'.ρ 7=.lit (.int .i64 (P:Int))/\s'.ρ 8=aa n/\s'.ρ 9=aa cN/\s'.ρ 10=.own R.next 0 0 n 1/\Over R s'.H/\dM R.next s'.H 46 3 (.own R.next 0 0 n 1) ((fP d (fixC p) v0 0 0).map ints)) ?_ ?_
 ·refine W.sq ?_;simp only[go_sem];refine W.block ?_;refine W.en (fun E2=>E2 1=ah p /\ E2 2=aa v0 /\ E2 3=.ptr H.next 0 0 /\ E2 7=.lit (.int .i64 (P:Int)) /\ E2 8=aa n /\ E2 9=aa cN /\ E2 10=.own R.next 0 0 n 1 /\ E2 11=aa 0) (by simp only[go_sem,h1,h2,h3,h7,h8,h9,h10]) fun E2 ⟨p1,p2,p3,p7,p8,p9,p10,p11⟩=>?_
  refine W.aL 70300024702976 (by rfl) (fun ρ H'=>∃ k:Nat,ρ 11=aa k/\k<=n/\H'.next=R.next+1+k/\(∀ id,id<R.next->H'.get id=R.get id)/\H'.get R.next=some (.arr 0 46 (cs' k))/\∀ j,j<k->H'.get (R.next+1+j)=some (.arr 0 3 (ints (List.replicate cN 0)))) (fun ρ H=>n - (iv (ρ 11)).toNat) ?_ ?_
  ·simp only[go_sem,p11];exact⟨0,rfl,by omega,by omega,fun id h=>o2.old id h,by rw[cs0];exact k5,fun j hj=>absurd hj (S7 _)⟩
  rintro ρ H' ⟨k,q11,hk,hnx,hold,htop,hrows⟩;refine W.en (fun E4=>E4 1=ah p /\ E4 2=aa v0 /\ E4 3=.ptr H.next 0 0 /\ E4 7=.lit (.int .i64 (P:Int)) /\ E4 8=aa n /\ E4 9=aa cN /\ E4 10=.own R.next 0 0 n 1 /\ E4 11=aa k) (by simp only[go_sem,p1,p2,p3,p7,p8,p9,p10,q11]) fun E4 ⟨a1,a2,a3,a7,a8,a9,a10,a11⟩=>?_
  by_cases hb:(k:Int)<n
  ·have w1:=SM ((k:Int)+1) (by omega);have it:=ag htop;have hcb:(cN:Int)*8<=2 ^ 46/\(cN:Int)<=2 ^ 46:=(by omega);have hrep:List.replicate cN (AVal.lit (.int .i64 0))=ints (List.replicate cN 0):=(by simp [ints,aa]);have hset:=cs_set k (by omega);rw[<- hnx]at hset;have hcl':=csl k (by omega);have ite:∀ L,(ext H' L).live R.next 0=_:=fun L=>(dv (by omega)).trans it;refine W.vs ?_;simp only[go_sem,a8,a9,a10,a11,hb,hcb,hrep,ite,hset,w1];refine⟨by rw[hcl'];omega,by rw[aw,bI];omega,⟨k+1,by simp,by omega,by rw[aw,bI,hnx];rfl,fun id h1=>by rw[ab,SO (by omega),cz (by omega)];exact hold id h1,by rw[ab,SQ rfl],fun j hj=>?_⟩,by rw[q11];simp only[aa,aQ];omega⟩;rw[ab,SO (by omega)];by_cases hjk:j=k
   ·subst hjk;rw[<- hnx];exact bT
   ·rw[cz (by omega)];exact hrows j (by omega)
  ·obtain rfl:k=n:=(by omega);refine W.vs ?_;simp only[go_sem,a1,a2,a3,a7,a8,a9,a10,a11,hb];have csn:cs' k=(List.range k).map (fun j=>AVal.own (R.next+1+j) 0 0 cN 1):=(by show _++_=_;simp);have csg:∀ j c,(cs' k)[j]?=some c->j<k/\c=.own (R.next+1+j) 0 0 cN 1:=fun j c hc=>by
    have hj:=get_lt hc;rw[csl k (Nat.le_refl _)]at hj;rw[csn,List.getElem?_map,Tn hj]at hc;cases hc;exact⟨hj,rfl⟩
   refine⟨⟨by omega,hold⟩,cs' k,.inr ⟨R.next,0,Nat.le_refl _,by omega,by rw[csl k (Nat.le_refl _)],htop⟩,by rw[csl k (Nat.le_refl _),SZ,ss,hn],fun j r c hr hc=>?_,fun i j a g g' n n' hi hj=>?_⟩
   ·obtain⟨hjk,rfl⟩:=csg j c hc;rw[Sp,<- hn,<- hcN,List.getElem?_map,TR,SQ hjk]at hr;cases hr;exact .inr ⟨R.next+1+j,0,by omega,by omega,by rw[aP,Tl],hrows j hjk⟩
   ·have e1:=AVal.own.inj (csg i _ hi).2;have e2:=AVal.own.inj (csg j _ hj).2;omega
 rintro⟨ρ,Hs⟩ ⟨q1,q2,q3,q7,q8,q9,q10,oS,hT⟩;simp only at q1 q2 q3 q7 q8 q9 q10 oS hT;refine W.seq ?_;refine W.sq ?_;simp only[go_sem];refine W.block ?_;refine W.en (fun E2=>E2 1=ah p /\ E2 2=aa v0 /\ E2 3=.ptr H.next 0 0 /\ E2 7=.lit (.int .i64 (P:Int)) /\ E2 8=aa n /\ E2 9=aa cN /\ E2 10=.own R.next 0 0 n 1 /\ E2 12=aa 0) (by simp only[go_sem,q1,q2,q3,q7,q8,q9,q10]) fun E2 ⟨p1,p2,p3,p7,p8,p9,p10,p12⟩=>?_
 clear q1 q2 q3 q7 q8 q9 q10;refine W.aL 10384593717069655256990623915307008 (by rfl) (fun ρ Hx=>∃ X:Nat,ρ 12=aa X/\X<=cN/\Hs.next<=Hx.next/\Over R Hx/\dM R.next Hx 46 3 (.own R.next 0 0 n 1) ((fP d (fixC p) v0 X 0).map ints)) (fun ρ H=>cN - (iv (ρ 12)).toNat) ?_ ?_
 ·simp only[go_sem,p12];exact⟨0,rfl,by omega,oS,hT⟩
 rintro ρ2 Hx ⟨X,q12,hX,nsx,oX,hT⟩;refine W.en (fun E4=>E4 1=ah p /\ E4 2=aa v0 /\ E4 3=.ptr H.next 0 0 /\ E4 7=.lit (.int .i64 (P:Int)) /\ E4 8=aa n /\ E4 9=aa cN /\ E4 10=.own R.next 0 0 n 1 /\ E4 12=aa X) (by simp only[go_sem,p1,p2,p3,p7,p8,p9,p10,q12]) fun E4 ⟨a1,a2,a3,a7,a8,a9,a10,a12⟩=>?_
 by_cases hb:(X:Int)<cN;rotate_left
 ·obtain rfl:X=cN:=by omega
  refine W.vs ?_;simp only[go_sem,a9,a12,hb];refine W.vs ?_;simp only[go_sem,a10];rw[hcN,Sr]at hT;refine ay.bx aS hcl (oR.trans oX) ?_ hK;exact DN hT.DM fun i hi=>by omega
 refine W.sq ?_;simp only[go_sem,a9,a12,hb];have xn:=oX.next;refine W.sq ?_;simp only[go_sem,a1];refine aB.clo (Sx p hpf _ _ fun qv H2 oq hQ=>⟨trivial,?_⟩);have qn:=oq.next;simp only[go_sem];refine W.en (fun E5=>E5 1=ah p /\ E5 2=aa v0 /\ E5 3=.ptr H.next 0 0 /\ E5 7=.lit (.int .i64 (P:Int)) /\ E5 8=aa n /\ E5 9=aa cN /\ E5 10=.own R.next 0 0 n 1 /\ E5 12=aa X /\ E5 13=qv /\ E5 14=aa 0) (by simp only[go_sem,a1,a2,a3,a7,a8,a9,a10,a12]) fun E5 ⟨b1,b2,b3,b7,b8,b9,b10,b12,b13,b14⟩=>?_
 clear a1 a2 a3 a7 a8 a9 a10 a12;have hp0:p=p.set P (fC l0 X 0):=by
  have:fC l0 X 0=l0:=by unfold fC;simp
  rw[this];exact(Sz hl0).symm
 refine W.aL 36884480948164378624 (by rfl) (fun ρ Hy=>∃ j:Nat,ρ 14=aa j/\j<=n/\H2.next<=Hy.next/\Over Hx Hy/\dM Hx.next Hy 46 3 qv ((p.set P (fC l0 X j)).map ints)) (fun ρ H=>n - (iv (ρ 14)).toNat) ?_ ?_
 ·simp only[go_sem,b14];exact⟨0,rfl,by omega,oq,by rw[<- hp0];exact hQ⟩
 rintro ρ3 Hy ⟨j,q14,hj,ny2,oy,hQy⟩;refine W.en (fun E6=>E6 1=ah p /\ E6 2=aa v0 /\ E6 3=.ptr H.next 0 0 /\ E6 7=.lit (.int .i64 (P:Int)) /\ E6 8=aa n /\ E6 9=aa cN /\ E6 10=.own R.next 0 0 n 1 /\ E6 12=aa X /\ E6 13=qv /\ E6 14=aa j) (by simp only[go_sem,b1,b2,b3,b7,b8,b9,b10,b12,b13,q14]) fun E6 ⟨c1,c2,c3,c7,c8,c9,c10,c12,c13,c14⟩=>?_
 have xn:=oX.next;have yn:=oy.next;by_cases hc:(j:Int)<n
 ·have w1:=SM ((j:Int)+1) (by omega);have hrl:(fC l0 X j).length=n:=by rw[Fy (by omega),ll]
  obtain⟨idt,gt,idr,gr,cells,z1,z2,z3,z4,z5,z6,z7,z8,z9,z10⟩:=hQy.row (by decide) (k:=P) (r:=ints (fC l0 X j)) (by rw[List.getElem?_map,S1 hplt];rfl) (fun h=>by have:=congrArg List.length h;rw[aP,hrl,List.length_nil]at this;omega);rw[SZ,SU]at z1 z3;rw[aP,hrl]at z6;have z6n:=aK z6;have jt:=ag z2;have jr:=ag z7;rw[z1]at c13;have hset:setAt (ints (fC l0 X j)) j [.lit (.int .i64 X)]=ints (fC l0 X (j+1)):=by
   rw[<- SA (by omega)];exact gD (by omega)
  have hil:(ints (fC l0 X j)).length=n:=by rw[aP,hrl]
  refine W.vs ?_;simp only[go_sem,c7,c8,c12,c13,c14,hc,jt,jr,z6,hPi,hset,hil,w1];refine⟨by omega,by rw[aw];omega,⟨j+1,rfl,by omega,by rw[aw];omega,oy.upd (by omega) _,?_⟩,by rw[q14];simp only[aa,aQ];omega⟩;have:=z10 (ints (fC l0 X (j+1))) (by rw[aP,aP,hrl,Fy (by omega),ll]);rw[<- UU,UJ]at this;exact this
 obtain rfl:j=n:=by omega
 have hpX:p.set P (fC l0 X j)=gX d p v0 X:=by
  unfold gX;rw[<- hP,<- hn];have:=SB (l:=l0) (X:=(X:Int));rw[ll]at this;rw[this]
 rw[hpX]at hQy;have hXc:X<bV d v0:=by omega
 have hpo:=Fu hok hp hv0 hXc;have y0:=ag ((oy.old H.next (by omega)).trans ((oX.old H.next (by omega)).trans g0));refine W.vs ?_;simp only[go_sem,c3,c8,c13,c14,hc,y0];obtain⟨ns,hns⟩:∃ ns,ns=bP d (fixC (gX d p v0 X)):=⟨_,rfl⟩
 have hn':NetOk d.grain ns:=by rw[hns];exact QA hok (zb hpo)
 have hnl:d.nodes.length=ns.length:=by rw[hns,dE]
 have hcs:ao ns=ao d.nodes:=by rw[hns,jV]
 have hwn:cK ns=cK d.nodes:=by rw[hns,DQ]
 have h8':ns.length<=8:=hn'.n1.2;have hc4:∀ y∈ns,1<=y.card/\y.card<=4:=fun y hy=>(hn'.node y hy).1;have hc1:∀ c∈ao ns,1<=c:=fun c hc=>by
  obtain⟨x,hx,rfl⟩:=S9.1 hc;exact(hn'.node x hx).1.1
 have hu:∀ u∈d.utils,UtilOk ns u:=by rw[hns];exact fun u hu=>QB (hok.utils.2 u hu)
 have hu4:=hok.utils.1;obtain⟨hw1,hw2⟩:=Dz hn';refine aB.So (args':=[dL d cs,ah (gX d p v0 X)]) aS oy (.cons (Sy hq) (.cons (DN hQy.DM fun i hi=>hi) .nil)) fun Ha oa=>?_;refine RM d cs hq hf hok _ hpo Ha _ ⟨trivial,?_⟩;rw[<- hns];have an:=oa.next;simp only[go_sem,bJ,cj];obtain⟨Hb,hHb⟩:∃ Hb,Hb=ext Ha [.arr 0 103 [.lit (.int .i64 d.grain),.vec ns.length (aG ns)]]:=⟨_,rfl⟩
 have ob:Over Ha Hb:=by rw[hHb];exact .ext _ _
 have nb:Hb.next=Ha.next+1:=by rw[hHb];rfl
 have gb:Hb.get Ha.next=some (.arr 0 103 [.lit (.int .i64 d.grain),.vec ns.length (aG ns)]):=by rw[hHb];exact bT
 have lb:=ag gb;rw[<- hHb];refine aB.clo (pT d.grain ns (by omega) _ _ ⟨trivial,?_⟩);simp only[go_sem];refine W.en (fun E7=>E7 1=ah p /\ E7 2=aa v0 /\ E7 3=.ptr H.next 0 0 /\ E7 7=.lit (.int .i64 (P:Int)) /\ E7 8=aa j /\ E7 9=aa cN /\ E7 10=.own R.next 0 0 j 1 /\ E7 12=aa X /\ E7 15=.ptr Ha.next 0 0 /\ E7 16=af (ao ns) /\ E7 17=aa 0) (by simp only[go_sem,c1,c2,c3,c7,c8,c9,c10,c12]) fun E7 ⟨d1,d2,d3,d7,d8,d9,d10,d12,d15,d16,d17⟩=>?_
 clear c1 c2 c3 c7 c8 c9 c10 c12 c13;have hTb:dM R.next Hb 46 3 (.own R.next 0 0 j 1) ((fP d (fixC p) v0 X 0).map ints):=(hT.over oa).over ob;refine W.aL 10384593717068474665440275248054272 (by rfl) (fun ρ Hw=>∃ k:Nat,ρ 17=aa k/\k<=cK ns/\Over R Hw/\Hw.next=Hb.next/\Hw.get Ha.next=Hb.get Ha.next/\dM R.next Hw 46 3 (.own R.next 0 0 j 1) ((fP d (fixC p) v0 X k).map ints)) (fun ρ H=>cK ns - (iv (ρ 17)).toNat) ?_ ?_
 ·simp only[go_sem,d17];exact⟨0,rfl,by omega,(oX.trans oa).trans ob,hTb⟩
 rintro ρ4 Hw ⟨k,q17,hk,ow,nw,gw,hTw⟩;refine W.en (fun E8=>E8 1=ah p /\ E8 2=aa v0 /\ E8 3=.ptr H.next 0 0 /\ E8 7=.lit (.int .i64 (P:Int)) /\ E8 8=aa j /\ E8 9=aa cN /\ E8 10=.own R.next 0 0 j 1 /\ E8 12=aa X /\ E8 15=.ptr Ha.next 0 0 /\ E8 16=af (ao ns) /\ E8 17=aa k) (by simp only[go_sem,d1,d2,d3,d7,d8,d9,d10,d12,d15,d16,q17]) fun E8 ⟨a1,a2,a3,a7,a8,a9,a10,a12,a15,a16,a17⟩=>?_
 clear d1 d2 d3 d7 d8 d9 d10 d12 d15 d16 d17;have hwi:au (ao ns)=(cK ns:Int):=hw2.symm;have m0:=ag ((ow.old H.next (by omega)).trans g0);have mN:=ag (gw.trans gb);have wN:=ow.next;by_cases hkw:(k:Int)<cK ns;rotate_left
 ·obtain rfl:k=cK ns:=by omega
  refine W.vs ?_;simp only[go_sem,a15,a17,mN];refine aB.clo (DS d.grain ns h8' hc4 _ _ ⟨trivial,?_⟩);have w1:=SM ((X:Int)+1) (by omega);simp only[go_sem,hwi,hkw];refine W.vs ?_;simp only[go_sem,a12,w1];refine⟨by omega,⟨X+1,rfl,by omega,by omega,ow,?_⟩,by rw[q12];simp only[aa,aQ];omega⟩;rw[<- Sq,<- hwn];exact hTw
 have hkw':k<cK d.nodes:=by omega
 obtain⟨vals,hvals⟩:∃ vals,vals=bC (ao ns) k:=⟨_,rfl⟩
 have hvw:vals=wv d k:=by rw[hvals,hcs];rfl
 have hfv:bL (ao ns) vals:=by rw[hvals];exact rO hc1 _
 have hfd:bL (ao d.nodes) vals:=by rw[<- hcs];exact hfv
 have hvl:vals.length=ns.length:=by rw[hfv.1,cM]
 obtain⟨y,hy⟩:∃ y,y=dR d (fixC (gX d p v0 X)) (az d).length v0 x:=⟨_,rfl⟩
 have hyg:ns[v0]?=some y:=by rw[hns,hy];exact eF hx
 have hyp:y.parents=x.parents:=by rw[hy];exact(gp ..).2
 have hpc:aH ns y=aH d.nodes x:=by rw[hns,nQ];unfold aH;rw[hyp]
 have hin':eR y.parents ns.length:=by rw[hyp,<- hnl];exact hin
 have hyl:(y.parents.length:Int)<2 ^ 39:=by
  have:=hxp.len;rw[hyp];omega
 have hne:=dC hyg;have ec1:=je hyg;have hvn:(v0:Int)<ns.length:=by omega
 have sm:cU (aH ns y):=by rw[hpc];exact ps
 have hfp:bL (aH ns y) (aF vals y.parents):=by rw[hpc,hyp];exact pR hin hfd
 obtain⟨r1,r2⟩:=pI hok hx hfd;obtain⟨rI,hrI⟩:∃ rI,rI=cX d.nodes v0 vals:=⟨_,rfl⟩
 rw[<- hrI]at r1 r2;have hidx:bp (aH ns y) (aF vals y.parents)=(rI:Int):=by rw[hpc,hyp];exact r1.symm
 refine W.vs ?_;simp only[go_sem,a15,a17,mN];refine aB.clo (DS d.grain ns h8' hc4 _ _ ⟨trivial,?_⟩);simp only[go_sem,a15,a17,hwi,hkw,mN];refine aB.clo (DR d.grain ns h8' hc4 k (by omega) _ _ ⟨trivial,?_⟩);rw[<- hvals];simp only[go_sem];refine W.en (fun E9=>E9 2=aa v0 /\ E9 3=.ptr H.next 0 0 /\ E9 10=.own R.next 0 0 j 1 /\ E9 12=aa X /\ E9 15=.ptr Ha.next 0 0 /\ E9 16=af (ao ns) /\ E9 17=aa k /\ E9 18=af vals) (by simp only[go_sem,a2,a3,a10,a12,a15,a16,a17]) fun E9 ⟨b2,b3,b10,b12,b15,b16,b17,b18⟩=>?_
 clear a1 a2 a3 a7 a8 a9 a10 a12 a15 a16 a17;refine W.draw 10 [0,0,3,0,0,16,0,112,240,496] Tryz.mixed (by kernel_rfl) (by kernel_rfl) ?_;simp only[go_sem,b2,b15,b18,mN,hvn,hne,ec1];refine⟨_,[],bO.pure fun H3=>zh d.grain ns v0 y hyg (by omega) hyl hin' H3 _ ⟨rfl,rfl⟩,?_⟩;simp only[go_sem];refine aB.clo (pS vals y.parents (by omega) hyl (fun q hq=>by rw[hvl];exact hin' q hq) _ _ ⟨trivial,?_⟩);simp only[go_sem];refine aB.clo (zg _ _ sm hfp _ _ ⟨trivial,?_⟩);simp only[go_sem,hidx];refine W.env fun E10 hE10=>?_;have c3:E10 3=.ptr H.next 0 0:=by rw[hE10];simp only[go_sem,b3]
 have c10:E10 10=.own R.next 0 0 j 1:=by rw[hE10];simp only[go_sem,b10]
 have c12:E10 12=aa X:=by rw[hE10];simp only[go_sem,b12]
 have c15:E10 15=.ptr Ha.next 0 0:=by rw[hE10];simp only[go_sem,b15]
 have c16:E10 16=af (ao ns):=by rw[hE10];simp only[go_sem,b16]
 have c17:E10 17=aa k:=by rw[hE10];simp only[go_sem,b17]
 have c18:E10 18=af vals:=by rw[hE10];simp only[go_sem,b18]
 have c19:E10 19=aa rI:=by rw[hE10];simp only[go_sem]
 clear hE10 b2 b3 b10 b12 b15 b16 b17 b18;have hrj:rI<cH d v0:=by rw[nr];exact r2
 obtain⟨idt,gt,idr,gr,cells,z1,z2,z3,z4,z5,z6,z7,z8,z9,z10⟩:=hTw.row (by decide) (k:=rI) (r:=ints (fB d (fixC p) v0 X k rI)) (by rw[List.getElem?_map,zU hrj];rfl) (fun h=>by have:=congrArg List.length h;rw[aP,pX,List.length_nil]at this;omega);have z1':=(AVal.own.inj z1).1;have z2':=(AVal.own.inj z1).2.1;rw[<- z1',<- z2']at z2;rw[aP,pX,<- hcN]at z6;rw[SZ,ss,<- hn]at z3;have z6n:=aK z6;have jt:=ag z2;have jr:=ag z7;have hrjI:(rI:Int)<j:=by omega
 have hxg:=zV (d:=d) (c:=fixC p) (v0:=v0) (X:=X) (k:=k) (r:=rI) (y:=X) hXc;have hxg':(ints (fB d (fixC p) v0 X k rI))[X]?=some (aa (fh d (fixC p) v0 X k rI X)):=by rw[gJ,hxg];rfl
 have hxne:=aK hxg';have hrl:(fB d (fixC p) v0 X k rI).length=cN:=by rw[pX,hcN]
 have hril:(ints (fB d (fixC p) v0 X k rI)).length=cN:=by rw[aP,hrl]
 obtain⟨t,ht⟩:∃ t,t=bU ns d.utils vals*weight ns vals:=⟨_,rfl⟩
 have tb:=P6 hn' (by omega) hu hu4 hfv d.utils.length;rw[SP (Nat.le_refl _),Ur,<- ht]at tb;have xb:=Sv hok h6 (fixC p) v0 X k rI X (by omega);have wt:=SM t (by omega);have ws:=SM (fh d (fixC p) v0 X k rI X+t) (by omega);have w1:=SM ((k:Int)+1) (by omega);have hstep:=Su hok hp (X:=X) (k:=k) (r:=rI) hv0 hXc (by rw[<- hvw,hrI]) hrj;rw[<- hvw,<- hns]at hstep;have hut:bU d.nodes d.utils vals=bU ns d.utils vals:=by rw[hns];exact(Pu d _ d.utils vals).symm
 rw[hut,<- ht]at hstep;have hset:setAt (ints (fB d (fixC p) v0 X k rI)) X [.lit (.int .i64 (fh d (fixC p) v0 X k rI X+t))]=ints ((fB d (fixC p) v0 X k rI).set X (fh d (fixC p) v0 X k rI X+t)):=gD (by omega);have hXb:(X:Int)<cN:=hb;have idN:idr≠Ha.next:=fun e=>by
  have:=gw.trans gb;rw[<- e,z7]at this;cases this
 refine W.draw 21 [0,0,3,7,0,0,0,96,224,0,992,2016,0,0,0,28672,0,0,258048,520192,1048544] Tryz.mixed (by kernel_rfl) (by kernel_rfl) ?_;simp only[go_sem,c3,c10,c12,c15,c16,c17,c18,c19,jt,jr,m0,mN,z6,hrjI,hxg',hXb];refine⟨_,[],bO.pure fun H3=>RG d cs ns hnl vals h8' hc4 hu hu4 hfv H3 _ ⟨rfl,rfl⟩,?_⟩;simp only[go_sem];refine⟨_,[],bO.pure fun H3=>QE d.grain ns hn' k (by omega) H3 _ ⟨rfl,rfl⟩,?_⟩;rw[<- hvals];simp only[go_sem,c3,c10,c12,c15,c16,c17,c18,c19,jr,hXb,hril,<- ht,wt,ws,hset,w1];refine⟨by omega,by rw[aw];omega,⟨k+1,rfl,by omega,ow.upd (by omega) _,by rw[aw];exact nw,by rw[ab,SO (fun e=>idN e.symm)];exact gw,?_⟩,by rw[q17];simp only[aa,aQ];omega⟩;have:=z10 (ints ((fB d (fixC p) v0 X k rI).set X (fh d (fixC p) v0 X k rI X+t))) (by rw[aP,aP,SU]);rw[<- UU,<- hstep]at this;exact this
theorem Rl (d:InfP)(c:Nat->Nat->Int)(v:Nat):(gW d c v).length=cH d v:=by simp [gW]
theorem Ep {d:InfP}{p:List (List Int)}(h:dF d p=0):InfOk d/\PolOk d p:=by
 unfold dF at h;by_cases h1:InfOk d
 ·rw[ea h1]at h;by_cases h2:PolOk d p
  ·exact⟨h1,h2⟩
  ·rw[eQ h2]at h;cases h
 ·rw[eQ h1]at h;cases h
end Go.Proofs
namespace Go.Hx
variable {P:Program}
end Go.Hx
namespace Go.Proofs
open Go.Hx
def Eb (d:InfP)(q:List (List Int)):List (List Int):=(az d).foldl (nL d) q
def vy (d:InfP)(q:List (List Int)):Nat->List (List Int)
 | 0=>q
 | n+1=>Eb d (vy d q n)
structure Imp (d:InfP)(p q:List (List Int))(n:Nat):Prop where
 ok:PolOk d q
 same:n=0->q=p
 loc:isLocal d p->n=0
 sum:kH d (fixC p)+n<=kH d (fixC q)
 it:q=vy d p n
 bef:∀ j,j<n->¬ isLocal d (vy d p j)
theorem Imp.start {d:InfP}{p:List (List Int)}(h:PolOk d p):Imp d p p 0:=⟨h,fun _=>rfl,fun _=>rfl,by simp,rfl,fun j h=>absurd h (S7 _)⟩
structure Rnd (d:InfP)(q:List (List Int))(k:Nat)(b:Bool)(r:List (List Int)):Prop where
 ok:PolOk d r
 no:b=false->r=q/\∀ j v,j<k->(az d)[j]?=some v->mG d q v
 yes:b=true->¬ isLocal d q/\kH d (fixC q)<kH d (fixC r)
 fold:r=((az d).take k).foldl (nL d) q
theorem Rnd.start {d:InfP}{q:List (List Int)}(h:PolOk d q):Rnd d q 0 false q:=⟨h,fun _=>⟨rfl,fun j v hj=>absurd hj (S7 _)⟩,fun h=>Bool.noConfusion h,rfl⟩
theorem Ec {d:InfP}{q r:List (List Int)}{k v:Nat}(h:r=((az d).take k).foldl (nL d) q)(hv:(az d)[k]?=some v):nL d r v=((az d).take (k+1)).foldl (nL d) q:=by
 rw[aO hv,Ua,<- h];rfl
theorem Rnd.SI {d:InfP}{q r:List (List Int)}{k v:Nat}{b:Bool}(h:Rnd d q k b r)(hv:(az d)[k]?=some v)(hb:mG d r v):Rnd d q (k+1) b r :=
 ⟨h.ok,fun e=>⟨(h.no e).1,fun j w hj hw=>by
  by_cases hjk:j=k
  ·subst hjk;rw[hv]at hw;cases hw;rw[<- (h.no e).1];exact hb
  ·exact(h.no e).2 j w (by omega) hw⟩,h.yes,by rw[<- Ec h.fold hv];unfold nL;rw[SQ hb]⟩
theorem Rnd.step {d:InfP}(hok:InfOk d){q r:List (List Int)}{k v:Nat}{b:Bool}(h:Rnd d q k b r)(hv:(az d)[k]?=some v)(hb:¬ mG d r v):Rnd d q (k+1) true (r.set (aX d.decs v) (lF d (fixC r) v)):=by
 have hvm:v∈az d:=SK hv;refine⟨Pz hok h.ok hvm,fun e=>(Bool.noConfusion e),fun _=>?_,by rw[<- Ec h.fold hv];unfold nL;rw[SO hb]⟩;have hg:=PC hok h.ok hvm hb;cases b with
 | false =>
  have e:=(h.no rfl).1;subst e;exact⟨fun hl=>hb (hl v hvm),hg⟩
 | true =>
  obtain⟨h1,h2⟩:=h.yes rfl;exact⟨h1,by omega⟩
theorem Rnd.done {d:InfP}{q r:List (List Int)}(h:Rnd d q (az d).length false r):r=q/\isLocal d q :=
 ⟨(h.no rfl).1,fun v hv=>by
  obtain⟨j,hj⟩:=S8.1 hv;exact(h.no rfl).2 j v (get_lt hj) hj⟩
theorem Imp.round {d:InfP}{p q r:List (List Int)}{n:Nat}(h:Imp d p q n)(hr:Rnd d q (az d).length true r):Imp d p r (n+1):=by
 obtain⟨h1,h2⟩:=hr.yes rfl;refine⟨hr.ok,fun e=>by omega,fun hl=>?_,?_,?_,fun j hj=>?_⟩;rotate_left 2
 ·show r=Eb d (vy d p n);rw[<- h.it,hr.fold,TP];rfl
 ·by_cases hjn:j=n
  ·subst hjn;rw[<- h.it];exact h1
  ·exact h.bef j (by omega)
 ·have hn:=h.loc hl;rw[h.same hn]at h1;exact absurd hl h1
 ·have:=h.sum
  push_cast
  omega
end Go.Proofs
namespace Go.Proofs.R01
open Go.Hx
end Go.Proofs.R01
