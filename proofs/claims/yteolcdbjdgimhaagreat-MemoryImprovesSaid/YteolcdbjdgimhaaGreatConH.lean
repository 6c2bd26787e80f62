/- Own work: contracts. -/
import Derived.Test.YteolcdbjdgimhaaGreatConB
import Derived.Test.YteolcdbjdgimhaaGreatConG
import Derived.Test.YteolcdbjdgimhaaGreatConF
import Derived.Test.YteolcdbjdgimhaaGreatConD
set_option linter.all false
set_option maxHeartbeats 8000000
set_option maxRecDepth 100000
namespace Go.Hx
variable {P:Program}
structure Own2 (lo:Nat)(H:AHeap)(e:TypeId)(v:AVal)(l:List AVal)(u:AVal)(m:List AVal):Prop where
 a:ay lo H e v l
 b:ay lo H e u m
 ne:∀i g n g' n',v=.own i g 0 n 1->u≠.own i g' 0 n' 1
theorem Own2.symm {lo:Nat}{H:AHeap}{e:TypeId}{v u:AVal}{l m:List AVal}(h:Own2 lo H e v l u m):Own2 lo H e u m v l:=⟨h.b,h.a,fun i g n g' n' h1 h2=>h.ne i g' n' g n h2 h1⟩
theorem Own2.nil {lo:Nat}{H:AHeap}{e:TypeId}:Own2 lo H e (.lit (.slice none 0 0)) [] (.lit (.slice none 0 0)) []:=⟨.nil,.nil,fun _ _ _ _ _ h=>(by cases h)⟩
theorem Own2.keep {lo:Nat}{H H':AHeap}{e:TypeId}{v u:AVal}{l m:List AVal}(h:Own2 lo H e v l u m)(hn:H.next<=H'.next)(hk:∀id,lo<=id->id<H.next->H'.get id=H.get id):Own2 lo H' e v l u m :=
 ⟨h.a.keep (Nat.le_refl _) hn fun id _ h1 h2 _ _=>hk id h1 h2,h.b.keep (Nat.le_refl _) hn fun id _ h1 h2 _ _=>hk id h1 h2,h.ne⟩
theorem Own2.app {lo n:Nat}{H:AHeap}{e t:TypeId}{v u x:AVal}{l m z:List AVal}(ht:P.underlying t=some (.slice e))(hz:P.cellsOf e=1)(hzero:bR P e=some z)(hx:x.one=true)
  (hb:(l.length+1)*P.bytesOf e<=2 ^ 46/\l.length+1<=2 ^ 46) (h:Own2 lo H e v l u m) (hlo:lo<=H.next) (hn:n=H.next+1):
  ∃v' H',bM P (ext H [.arr 0 e [x]]) n t t v (.own H.next 0 0 1 1)=some (v',H')/\Own2 lo H' e v' (l++[x]) u m/\H.next<=H'.next/\(∀k,k<lo->H'.get k=H.get k):=by
 have hsrc:cV (ext H [.arr 0 e [x]]) 1 (.own H.next 0 0 1 1)=some (1,[x]):=by
  unfold cV;have:=ah (H:=ext H [.arr 0 e [x]]) (g:=0) (bX (b:=.arr 0 e [x]));simp[this]
 have hne:(ext H [Blk.arr 0 e [x]]).next=H.next+1:=rfl;obtain⟨ha,hbb,hnn⟩:=h;rcases ha with ⟨rfl,rfl⟩|⟨i,g,h1,h2,rfl,h4⟩
 ·have n2:(ext (ext H [.arr 0 e [x]]) [.arr 0 e [x]]).next=H.next+2:=rfl;have old:∀k,k<H.next->(ext (ext H [.arr 0 e [x]]) [.arr 0 e [x]]).get k=H.get k:=fun k hk=>by rw[bb (by rw[hne];omega),bb hk]
  refine⟨.own (H.next+1) 0 0 1 1,ext (ext H [.arr 0 e [x]]) [.arr 0 e [x]],?_,⟨.inr ⟨H.next+1,0,by omega,by rw[n2];omega,by simp,?_⟩,hbb.keep (Nat.le_refl _) (by rw[n2];omega) fun id _ _ hid _ _=>old id hid,fun i g n g' n' he hu=>?_⟩,by rw[n2];omega,fun k hk=>old k (by omega)⟩
  ·unfold bM;rw[ht];simp only[hzero,hz,Option.bind_some,hsrc];rw[SI (by decide),SK (by simpa using hb),rR (by rw[hn,hne]),hn];rfl
  ·rw[<- hne];exact bX
  ·have:=(AVal.own.inj he).1;rcases hbb with ⟨rfl,_⟩|⟨j,g2,_,a2,rfl,_⟩
   ·cases hu
   ·have:=(AVal.own.inj hu).1;omega
 ·have h4':(ext H [.arr 0 e [x]]).get i=some (.arr g e l):=by rw[bb h2];exact h4
  refine⟨.own i (g+1) 0 (l.length+1) 1,(ext H [.arr 0 e [x]]).upd i (.arr (g+1) e (l++[x])),?_,⟨.inr ⟨i,g+1,h1,by rw[au,hne];omega,by simp,by rw[ae,SK rfl]⟩,hbb.keep (Nat.le_refl _) (by rw[au,hne];omega) fun id g3 _ hid _ hu=>?_,fun i' g' n' g'' n'' he hu=>hnn i g l.length g'' n'' rfl (by rw[hu,(AVal.own.inj he).1])⟩,by rw[au,hne];omega,fun k hk=>?_⟩
  ·unfold bM;rw[ht];have hl:=ah h4';simp only[hzero,hz,Option.bind_some,hsrc,hl];rw[SK ⟨trivial,trivial,by omega,hb.1,hb.2,by simp[hx]⟩];simp
  ·rw[ae,SI,bb hid];rintro rfl;exact hnn id g l.length g3 _ rfl hu
  ·rw[ae,SI (by omega),bb (by omega)]
end Go.Hx

namespace Go.Proofs
open Go.Hx Tryz
def iS (d:InfP)(vals:List Int):List Int:=(List.range d.nodes.length).map (j8 d vals)
theorem vG (d:InfP)(vals:List Int):(iS d vals).length=d.nodes.length:=by simp[iS]
theorem yW {d:InfP}{vals:List Int}{v:Nat}(h:v<d.nodes.length):(iS d vals)[v]?=some (j8 d vals v):=by
 unfold iS;rw[List.getElem?_map,Tc h];rfl
structure RowNo (d:InfP)(x:NodeP)(vals:List Int)(v i:Nat)(r:List Int)(a w:Int):Prop where
 idx:bJ (aP d.nodes x) (aI vals x.parents)=i
 row:x.rows[i]?=some r
 val:vals[v]?=some a
 a0:0<=a
 hw:r[a.toNat]?=some w
 wb:0<=w/\w<=60
 eq:j8 d vals v=w
 al:a<r.length
theorem DS {d:InfP}(hok:InfOk d){v:Nat}{x:NodeP}(hx:d.nodes[v]?=some x)(hb:¬d.decs.testBit v=true){vals:List Int}(hf:bH (ak d.nodes) vals):∃i r a w,RowNo d x vals v i r a w:=by
 have hx2:=eW (c:=fun _ _=>0) hx;rw[kh hb]at hx2;obtain⟨i,r,a,w,hR⟩:=qE hok.net hx2 (vals:=vals) (by rw[kg];exact hf);have hi:=hR.idx;rw[pj]at hi;have hg:=hok.net.g1;have h60:=hR.wb;refine⟨i,r,a,w,hi,hR.row,hR.val,hR.a0,hR.hw,by omega,?_,hR.al⟩;unfold j8;rw[SI hb];unfold mA;rw[hx];simp only;unfold nS;rw[hi,Int.toNat_natCast,bp hR.row,bp hR.val,bp hR.hw]
theorem DT {d:InfP}(hok:InfOk d){vals:List Int}(hf:bH (ak d.nodes) vals){v:Nat}(hv:v<d.nodes.length):0<=j8 d vals v/\j8 d vals v<=60:=by
 obtain⟨x,hx⟩:=get_of_lt hv;by_cases hb:d.decs.testBit v=true
 ·unfold j8;rw[SK hb];have:=hok.net.g1;omega
 ·obtain⟨i,r,a,w,hR⟩:=DS hok hx hb hf;rw[hR.eq];exact hR.wb
theorem DU {d:InfP}(hok:InfOk d){vals:List Int}(hf:bH (ak d.nodes) vals)(k:Nat):0<=ao ((iS d vals).take k)/\ao ((iS d vals).take k)<=167961600000000:=by
 have hb:∀w∈iS d vals,0<=w/\w<=60:=fun w hw=>by
  obtain⟨v,hv,rfl⟩:=SY.1 hw;exact DT hok hf (Tn.1 hv)
 have h1:=nL (b:=60) (by omega) (l:=(iS d vals).take k) fun x hx=>hb x (S8 hx);have h2:=vz ((iS d vals).take k).length (by have:=hok.n.n1;rw[SN,vG];omega);omega
def fP (d:InfP):List Int:=(List.range (bh d.nodes)).map fun (i:Nat)=>eT d (wv d i)
def dI (d:InfP):List Int:=(List.range (bh d.nodes)).map fun (i:Nat)=>fL d (wv d i)
theorem Rj {d:InfP}{k:Nat}(h:k<bh d.nodes):(fP d)[k]?=some (eT d (wv d k)):=by unfold fP;rw[List.getElem?_map,Tc h];rfl
theorem vI {d:InfP}{k:Nat}(h:k<bh d.nodes):(dI d)[k]?=some (fL d (wv d k)):=by unfold dI;rw[List.getElem?_map,Tc h];rfl
theorem DV (d:InfP):(fP d).length=bh d.nodes:=by simp[fP]
theorem vJ (d:InfP):(dI d).length=bh d.nodes:=by simp[dI]
theorem DW {ns:List NodeP}{us:List UtilP}(hu:∀u∈us,UtilOk ns u)(h4:us.length<=4)(vals:List Int):-400<=bt ns us vals/\bt ns us vals<=400:=by
 have b:=mM hu h4 vals us.length;rw[SH (Nat.le_refl _)]at b;exact b
theorem DX (d:InfP)(hok:InfOk d)(hD:d.decs<2 ^ 64)(H:AHeap)(K:ARes->AHeap->Prop)(hK:K (.ret (.tup [af (fP d),af (dI d)])) H):ag prog G0 94 [cW d] H K:=by
 refine ag.clo ⟨_,func94,rfl,rfl⟩ fun hcl=>?_;obtain⟨ns,hns⟩:∃ns,ns=d.nodes:=⟨_,rfl⟩
 have n8:=hok.n.n1;have hcd:=hok.n.card;have hcards:∀c∈ak d.nodes,1<=c/\c<=4:=fun c hc=>by
  obtain⟨x,hx,rfl⟩:=SY.1 hc;exact hcd x hx
 have sm:cY (ak d.nodes):=ki (by rw[cC];omega) hcards;have hp:=eD fun c hc=>(hcards c hc).1;have hsz:=sm.prod;have hw:((bh d.nodes:Nat):Int)=ao (ak d.nodes):=by unfold bh;omega
 have hu4:=hok.utils.1;have hus:=hok.utils.2;refine ag.st (n:=105) (rs:=[.cell 2 42,.cell 3 42]) func94 ?_;simp only[go_sem,gI,bK];refine aw.clo (ta d.nodes (by omega) _ _ ⟨trivial,?_⟩);simp only[go_sem];refine aw.clo (sW (ak d.nodes) _ _ ⟨trivial,?_⟩);simp only[go_sem];obtain⟨H2,hH2⟩:∃H2,H2=ext (ext H [.arr 0 38 (bK d),.arr 0 42 [.lit (.slice none 0 0)],.arr 0 42 [.lit (.slice none 0 0)],.arr 0 42 [af (ak d.nodes)]]) [.arr 0 42 [af (ak d.nodes)]]:=⟨_,rfl⟩
 have n2:H2.next=H.next+5:=by rw[hH2];rfl
 have o2:Over H H2:=by rw[hH2];exact(Over.ext _ _).trans (.ext _ _)
 have g0:H2.get H.next=some (.arr 0 38 (bK d)):=by rw[hH2,dp];exact bD H _ 0 (by simp)
 have g1:H2.get (H.next+1)=some (.arr 0 42 [.lit (.slice none 0 0)]):=by rw[hH2,dp];exact bD H _ 1 (by simp)
 have g2:H2.get (H.next+2)=some (.arr 0 42 [.lit (.slice none 0 0)]):=by rw[hH2,dp];exact bD H _ 2 (by simp)
 have g3:H2.get (H.next+3)=some (.arr 0 42 [af (ak d.nodes)]):=by rw[hH2,dp];exact bD H _ 3 (by simp)
 have g4:H2.get (H.next+4)=some (.arr 0 42 [af (ak d.nodes)]):=by rw[hH2,dp];exact bD H _ 4 (by simp)
 refine W.env fun E hE=>?_;have e1:E 1=.ptr H.next 0 0:=by rw[hE];simp only[go_sem]
 have e2:E 2=.ptr (H.next+1) 0 0:=by rw[hE];simp only[go_sem]
 have e3:E 3=.ptr (H.next+2) 0 0:=by rw[hE];simp only[go_sem]
 have e4:E 4=.ptr (H.next+3) 0 0:=by rw[hE];simp only[go_sem]
 have e20:E 20=.clo 131 [] [.ptr (H.next+4) 0 0]:=by rw[hE];rfl
 clear hE;unfold bK at hH2;show W _ _ _ _ _ _ ⟨E,ext (ext H [.arr 0 38 [.lit (.int .i64 d.grain),.vec d.nodes.length (aF d.nodes),.lit (.int .u64 (d.decs:Int)),.vec d.utils.length (aO d.utils)],.arr 0 42 [.lit (.slice none 0 0)],.arr 0 42 [.lit (.slice none 0 0)],.arr 0 42 [af (ak d.nodes)]]) [.arr 0 42 [af (ak d.nodes)]]⟩;rw[<- hH2];have hit:=sV (ak d.nodes) (fun c hc=>(hcards c hc).1) sm (H.next+4) (H2.next+1) (by omega);refine W.tv (f:=131) (first:=[]) (cap:=[.ptr (H.next+4) 0 0]) (by show E 20=_;exact e20) hit
  (fun k Hx=>H2.next<Hx.next/\(∀id,id<H2.next->id≠H.next+1->id≠H.next+2->Hx.get id=H2.get id)/\∃v u,Hx.get (H.next+1)=some (.arr 0 42 [v])/\Hx.get (H.next+2)=some (.arr 0 42 [u])/\Own2 (H2.next+2) Hx 3 v (ints ((fP d).take k)) u (ints ((dI d).take k)))
  (fun _ _=>False)
  (fun k Hx h=>(h.2.1 _ (by omega) (by omega) (by omega)).trans g4)
  (fun k H1 H3 h hw=>⟨by have:=hw.1;omega,fun id h1 h2 h3=>(hw.2 _ (by omega) (by have:=h.1;omega)).trans (h.2.1 id h1 h2 h3),by
   obtain⟨v,u,a1,a2,a3⟩:=h.2.2;exact⟨v,u,(hw.2 _ (by omega) (by have:=h.1;omega)).trans a1,(hw.2 _ (by omega) (by have:=h.1;omega)).trans a2,a3.keep hw.1 fun id h1 h2=>hw.2 id (by omega) h2⟩⟩)
  (fun k Hx h=>h.1)
  (fun k H1 b h=>⟨h.1,fun id h1 h2 h3=>by rw[ae,SI (by omega)];exact h.2.1 id h1 h2 h3,by
   obtain⟨v,u,a1,a2,a3⟩:=h.2.2;exact⟨v,u,by rw[ae,SI (by omega)];exact a1,by rw[ae,SI (by omega)];exact a2,a3.keep (Nat.le_refl _) fun id h1 h2=>by rw[ae,SI (by omega)]⟩⟩)
  (fun _ _ _ h=>h) (fun k H1 b h=>by unfold lY at h ⊢;rw[ae,SI (by omega)];exact h)
  (fun b=>⟨by rw[aS];simp,fun id h1 h2 h3=>bb h1,_,_,by rw[bb (by omega)];exact g1,by rw[bb (by omega)];exact g2,.nil⟩) (by decide)
  (fun x hx=>by
   obtain⟨k,hk⟩:=SW.1 hx;obtain⟨_,rfl⟩:=lX hk;rfl) (fun _ _ _=>trivial) (fun _ _ _=>trivial) (fun k y Hx B Bb hy hj hcs hn hB hBb=>?_) (fun Hx hj hn=>?_) (fun _ hs _=>hs.elim) (fun _ _ hs _=>hs.elim)
 ·obtain⟨hk,rfl⟩:=lX hy;refine W.vs ?_;simp only[go_sem,fV,bA,ir,Ts,TS,Tx,Tz,hB];obtain⟨H3,hH3⟩:∃H3,H3=Hx.upd H2.next Bb:=⟨_,rfl⟩
  rw[<- hH3];obtain⟨st,pd,n',en,ps',as',bo,hBe⟩:=hBb;have n3:H3.next=Hx.next:=by rw[hH3];rfl
  have o3:∀id,id≠H2.next->H3.get id=Hx.get id:=fun id h=>by rw[hH3,ae,SI h]
  have jB:H3.get H2.next=some Bb:=by rw[hH3,ae,SK rfl]
  obtain⟨pv,pu,a1,a2,a3⟩:=hj.2.2;have k0:=(o3 _ (by omega)).trans ((hj.2.1 H.next (by omega) (by omega) (by omega)).trans g0);have k3:=(o3 _ (by omega)).trans ((hj.2.1 (H.next+3) (by omega) (by omega) (by omega)).trans g3);have k1:=(o3 _ (by omega)).trans a1;have k2:=(o3 _ (by omega)).trans a2;have a4:Own2 (H2.next+2) H3 3 pv (ints ((fP d).take k)) pu (ints ((dI d).take k)):=a3.keep (by omega) fun id h1 h2=>o3 id (by omega);have kN:H3.get (H2.next+1)=some (.arr 0 3 (ints (aR (ak d.nodes) k))):=(o3 _ (by omega)).trans hcs;obtain⟨vals,hvals⟩:∃vals,vals=wv d k:=⟨_,rfl⟩
  have hfit:bH (ak d.nodes) vals:=by rw[hvals];exact kM (fun c hc=>(hcards c hc).1) _
  have kN2:H3.get (H2.next+1)=some (.arr 0 3 (ints vals)):=by rw[hvals];exact kN
  have hvl:vals.length=d.nodes.length:=by rw[hfit.1,cC]
  unfold bK at k0;refine W.en (fun E1=>E1 1=.ptr H.next 0 0 /\ E1 2=.ptr (H.next+1) 0 0 /\ E1 3=.ptr (H.next+2) 0 0 /\ E1 4=.ptr (H.next+3) 0 0 /\ E1 6=.own (H2.next+1) 0 0 d.nodes.length 1) (by simp only[go_sem,bA,e1,e2,e3,e4,cC]) fun E1 ⟨m1,m2,m3,m4,m6⟩=>?_
  have l0:=ah k0;refine W.vs ?_;simp only[go_sem,m1,l0];refine W.aG 576460752236315520 (by rfl) (fun ρ2 H4=>∃v:Nat,ρ2 26=aa v/\v<=d.nodes.length/\Over H3 H4/\ρ2 7=aa (ao ((iS d vals).take v))) (fun ρ2 H=>d.nodes.length-(iv (ρ2 26)).toNat) ?_ ?_
  ·simp only[go_sem];exact⟨0,rfl,by omega,.refl _,by simp[gm]⟩
  rintro ρ2 H4 ⟨v,h26,hv,o4,h7⟩;refine W.en (fun E2=>E2 1=.ptr H.next 0 0 /\ E2 2=.ptr (H.next+1) 0 0 /\ E2 3=.ptr (H.next+2) 0 0 /\ E2 4=.ptr (H.next+3) 0 0 /\ E2 6=.own (H2.next+1) 0 0 d.nodes.length 1 /\ E2 7=aa (ao ((iS d vals).take v)) /\ E2 24=.vec d.nodes.length (aF d.nodes) /\ E2 25=aa d.nodes.length /\ E2 26=aa v) (by simp only[go_sem,m1,m2,m3,m4,m6,h7,h26]) fun E2 ⟨p1,p2,p3,p4,p6,p7,p24,p25,p26⟩=>?_
  have o4n:=o4.next;have q0:=ah ((o4.old _ (by omega)).trans k0);have gN4:=(o4.old _ (by omega)).trans kN2;refine W.vs ?_;by_cases hb:(v:Int)<d.nodes.length
  ·obtain⟨x,hx⟩:=get_of_lt (l:=d.nodes) (i:=v) (by omega);have hne:=dJ hx;have c0:=my hx;have c1:v*3+3<=(aF d.nodes).length:=(by rw[iI];omega);have wt:=DU hok hfit (v+1);rw[aL (yW (d:=d) (vals:=vals) (v:=v) (by omega)),eQ]at wt;have w1:=SF ((v:Int)+1) (by omega);obtain⟨H5,hH5⟩:∃H5,H5=ext H4 [.arr 0 87 [.lit (.int .i64 x.card),.vec x.parents.length (ints x.parents),aj x.rows]]:=⟨_,rfl⟩
   have n5:H5.next=H4.next+1:=(by rw[hH5];rfl);have f0:=ah (show H5.get H.next=some (.arr 0 38 [.lit (.int .i64 d.grain),.vec d.nodes.length (aF d.nodes),.lit (.int .u64 (d.decs:Int)),.vec d.utils.length (aO d.utils)]) by rw[hH5,dv _ _ _ (by omega)];exact(o4.old _ (by omega)).trans k0);have f4:=ah (show H5.get H4.next=some (.arr 0 87 [.lit (.int .i64 x.card),.vec x.parents.length (ints x.parents),aj x.rows]) by rw[hH5];exact bX);have gN5:H5.get (H2.next+1)=some (.arr 0 3 (ints vals)):=(by rw[hH5,dv _ _ _ (by omega)];exact gN4);have fN:=ah gN5;have s1:=fun t x y=>mb (P:=prog) (t:=t) (x:=x) (y:=y) (k':=.i64) (s:=v) hD;have s2:=fun t x y=>oB (P:=prog) (t:=t) (x:=x) (y:=y) (s:=v) hD;cases hbit:d.decs.testBit v
   ·obtain⟨i,r,a,w,hR⟩:=DS hok hx (by rw[hbit];simp) hfit;obtain⟨a',rfl⟩:=SR hR.a0;rw[hR.eq]at wt;have hxp:bO x.parents d.nodes.length:=by
     have:=(hok.net.node _ (SE (eW (c:=fun _ _=>0) hx))).2;rw[(gD ..).2,dB]at this;exact this
    have hin:eF x.parents d.nodes.length:=fun q hq=>by have:=hxp.2 q hq;omega
    have hpc:bf prog G0 (.clo 98 [] []) [.vec d.nodes.length (aF d.nodes),.lit (.int .i64 v),.own (H2.next+1) 0 0 d.nodes.length 1] H5 (.lit (.int .i64 i)) [H2.next+1]:=by
     have:=sX d.nodes v x vals hx hin (iQ n8.2 hxp hcd) hfit H5 (H2.next+1) d.nodes.length (by omega) gN5 hvl.symm;rw[hR.idx]at this;exact this
    have hri:=hR.row;have hrne:=aJ hri;have hrl:(i:Int)<x.rows.length:=(by have:=get_lt hri;omega);have hva:=hR.val;have hra:r[a']?=some w:=(by have:=hR.hw;rw[Int.toNat_natCast]at this;exact this);have hrane:=aJ hra;have hal:=hR.al;have w2:=SF (ao ((iS d vals).take v)*w) (by omega);simp only[go_sem,p1,p24,p25,p26,hb,hne,c0,c1];rw[<- hH5];simp only[go_sem,f0,s1,s2,hbit];refine W.dr 16 [0,0,2,0,8,0,0,120,254,510,0,0,3072,7168,16382,32766] mixed ?_;simp only[go_sem,p1,p6,p7,f0,f4,aj];refine⟨.lit (.int .i64 i),[H2.next+1],hpc,?_⟩;have hvn:(v:Int)<d.nodes.length:=hb;simp only[go_sem,p1,p6,p7,p26,fN,hri,hrne,hrl,hra,hrane,hva,hal,hvn,w1,w2];exact⟨by omega,⟨_,_,_,_,_,_,_,by rw[hH5,dv _ _ _ (by omega),o4.old _ (by omega),jB,hBe]⟩,⟨v+1,by simp,by omega,by rw[hH5];exact o4.trans (.ext _ _),by rw[aL (yW (d:=d) (vals:=vals) (v:=v) (by omega)),eQ,hR.eq]⟩,by rw[h26];simp only[aa,aM];omega⟩
   ·have hg:j8 d vals v=d.grain:=SK hbit;rw[hg]at wt;have w2:=SF (ao ((iS d vals).take v)*d.grain) (by omega);simp only[go_sem,p1,p24,p25,p26,hb,hne,c0,c1];rw[<- hH5];simp only[go_sem,p1,p7,p26,f0,s1,s2,hbit,w1,w2];exact⟨by omega,⟨_,_,_,_,_,_,_,by rw[hH5,dv _ _ _ (by omega),o4.old _ (by omega),jB,hBe]⟩,⟨v+1,by simp,by omega,by rw[hH5];exact o4.trans (.ext _ _),by rw[aL (yW (d:=d) (vals:=vals) (v:=v) (by omega)),eQ,hg]⟩,by rw[h26];simp only[aa,aM];omega⟩
  ·rw[SH (by rw[vG];omega)]at p7;have hgp:ao (iS d vals)=eT d vals:=rfl;rw[hgp]at p7;simp only[go_sem,p25,p26,hb,p1,q0];refine W.aG 9903520309671356180765651968 (by rfl) (fun ρ3 H6=>∃j:Nat,ρ3 62=aa j/\j<=d.utils.length/\Over H4 H6/\ρ3 10=aa (bt d.nodes (d.utils.take j) vals)) (fun ρ3 H=>d.utils.length-(iv (ρ3 62)).toNat) ?_ ?_
   ·simp only[go_sem];exact⟨0,rfl,by omega,.refl _,by simp[bt]⟩
   rintro ρ3 H6 ⟨j,h62,hjl,o6,h10⟩;refine W.env fun E3 hE3=>?_;have r2:E3 2=.ptr (H.next+1) 0 0:=(by rw[hE3];simp only[go_sem,p2]);have r3:E3 3=.ptr (H.next+2) 0 0:=(by rw[hE3];simp only[go_sem,p3]);have r4:E3 4=.ptr (H.next+3) 0 0:=(by rw[hE3];simp only[go_sem,p4]);have r6:E3 6=.own (H2.next+1) 0 0 d.nodes.length 1:=(by rw[hE3];simp only[go_sem,p6]);have r7:E3 7=aa (eT d vals):=(by rw[hE3];simp only[go_sem,p7]);have r10:E3 10=aa (bt d.nodes (d.utils.take j) vals):=(by rw[hE3];simp only[go_sem,h10]);have r60:E3 60=.vec d.utils.length (aO d.utils):=(by rw[hE3];simp only[go_sem]);have r61:E3 61=aa d.utils.length:=(by rw[hE3];simp only[go_sem]);have r62:E3 62=aa j:=(by rw[hE3];simp only[go_sem,h62]);clear hE3;have o36:=o4.trans o6;have o6n:=o6.next;have gN6:=(o36.old _ (by omega)).trans kN2;have q3:=(o36.old _ (by omega)).trans k3;refine W.vs ?_;by_cases hb2:(j:Int)<d.utils.length
   ·obtain⟨u,hku⟩:=get_of_lt (l:=d.utils) (i:=j) (by omega);have huo:=hus u (SE hku);have hne:=qg hku;have c0:=sr hku;have c1:j*2+2<=(aO d.utils).length:=(by rw[kK];omega);have v8:=huo.vars.len;obtain⟨H7,hH7⟩:∃H7,H7=ext H6 [.arr 0 90 [.vec u.vars.length (ints u.vars),.vec u.w.length (ints u.w)]]:=⟨_,rfl⟩
    have n7:H7.next=H6.next+1:=(by rw[hH7];rfl);have l7:=ah (show H7.get H6.next=some (.arr 0 90 [.vec u.vars.length (ints u.vars),.vec u.w.length (ints u.w)]) by rw[hH7];exact bX);have l7N:=ah (show H7.get (H2.next+1)=some (.arr 0 3 (ints vals)) by rw[hH7,bb (by omega)];exact gN6);have l73:=ah (show H7.get (H.next+3)=some (.arr 0 42 [af (ak d.nodes)]) by rw[hH7,bb (by omega)];exact q3);have smu:=pq n8.2 huo.vars hcd;have hin:eF u.vars d.nodes.length:=fun q hq=>by have:=huo.vars.2 q hq;omega
    have fp:bH (aI (ak d.nodes) u.vars) (aI vals u.vars):=pr (x:=⟨0,u.vars,[]⟩) hin hfit;have pl:(aI (ak d.nodes) u.vars).length=u.vars.length:=gJ _ _;have vl:(aI vals u.vars).length=u.vars.length:=gJ _ _;have ft:∀j,bH ((aI (ak d.nodes) u.vars).take j) ((aI vals u.vars).take j):=fun j=>⟨by simp[pl,vl],fun i c b h1 h2=>by
     rw[Va]at h1 h2;split at h1
     ·rename_i hik;rw[SK hik]at h2;exact fp.2 i c b h1 h2
     ·cases h1⟩
    have hr:∀j,0<=eZ ((aI (ak d.nodes) u.vars).take j) ((aI vals u.vars).take j)/\eZ ((aI (ak d.nodes) u.vars).take j) ((aI vals u.vars).take j)<68719476737:=fun j=>by
     rw[qh (ft j).1];have a:=jZ (ft j);have b:=(smu.take j).prod;omega
    simp only[go_sem,r60,r61,r62,hb2,hne,c0,c1];rw[<- hH7];refine W.aG 38685035931857774884986880 (by rfl) (fun ρ4 H8=>H8=H7/\∃i:Nat,ρ4 69=aa i/\i<=u.vars.length/\ρ4 13=aa (eZ ((aI (ak d.nodes) u.vars).take i) ((aI vals u.vars).take i))) (fun ρ4 H=>u.vars.length-(iv (ρ4 69)).toNat) ?_ ?_
    ·simp only[go_sem];exact⟨0,rfl,by omega,rfl⟩
    rintro ρ4 H8 ⟨rfl,i,h69,hi,h13⟩;refine W.vs ?_;by_cases hb3:(i:Int)<u.vars.length
    ·obtain⟨q,hq⟩:=get_of_lt (l:=u.vars) (i:=i) (by omega);obtain⟨t,rfl,y,hy⟩:=lO (l:=d.nodes) (hin q (SE hq)).1 (hin q (SE hq)).2;obtain⟨b,hbv⟩:=get_of_lt (l:=vals) (i:=t) (by rw[hvl];exact get_lt hy);have hyb:=hfit.2 t y.card b (dm hy) hbv;have a1:(aI (ak d.nodes) u.vars)[i]?=some y.card:=(by rw[lj hq,Int.toNat_natCast,bp (dm hy)]);have a2:(aI vals u.vars)[i]?=some b:=(by rw[lj hq,Int.toNat_natCast,bp hbv]);have hne2:=aJ hq;have hne3:=aJ hbv;have hyc:=dm hy;have hne4:=aJ hyc;have ht:(t:Int)<d.nodes.length:=(by have:=get_lt hy;omega);have htc:(t:Int)<(ak d.nodes).length:=(by rw[cC];omega);have ht2:(t:Int)<vals.length:=(by omega);have w1:=SF ((i:Int)+1) (by omega);have r1:=hr (i+1);rw[qi a1 a2]at r1;have r0:=hr i;have m0:0<=eZ ((aI (ak d.nodes) u.vars).take i) ((aI vals u.vars).take i)*y.card:=T8 r0.1 (by have:=hcd y (SE hy);omega);have w2:=SF (eZ ((aI (ak d.nodes) u.vars).take i) ((aI vals u.vars).take i)*y.card) (by omega);have w3:=SF (eZ ((aI (ak d.nodes) u.vars).take i) ((aI vals u.vars).take i)*y.card+b) (by omega);simp only[go_sem,h69,hb3,hq,hne2];refine W.dr 10 [0,0,0,6,14,31,0,0,192,448] mixed ?_;simp only[go_sem,h69,h13,r4,r6,l73,l7N,hne4,ht,htc,hbv,hyc,w1,w2,w3];exact⟨⟨_,_,_,_,_,_,_,by rw[hH7,bb (by omega),o36.old _ (by omega),jB,hBe]⟩,⟨i+1,by simp,by omega,by rw[qi a1 a2]⟩,by omega⟩
    ·rw[SH (by omega),SH (by omega),qh (by rw[pl,vl])]at h13;have hx:=jZ fp;obtain⟨ix,hix⟩:=SR hx.1;have hsz2:=huo.size;obtain⟨w,hw'⟩:=get_of_lt (l:=u.w) (i:=ix) (by omega);have hwne:=aJ hw';have hwl:(ix:Int)<u.w.length:=(by have:=get_lt hw';omega);have eu:lQ d.nodes vals u=w:=(by unfold lQ;rw[hix,Int.toNat_natCast,bp hw']);have us1:bt d.nodes (d.utils.take (j+1)) vals=bt d.nodes (d.utils.take j) vals+w:=(by rw[aL hku];unfold bt;simp[eu]);have b1:=mM hus hu4 vals j;have b2:=mM hus hu4 vals (j+1);rw[us1]at b2;have w1:=SF ((j:Int)+1) (by omega);have w2:=SF (bt d.nodes (d.utils.take j) vals+w) (by omega);rw[hix]at h13;simp only[go_sem,h69,h13,r10,r62,l7,hb3,hw',hwne,hwl,w1,w2];exact⟨by omega,⟨_,_,_,_,_,_,_,by rw[hH7,bb (by omega),o36.old _ (by omega),jB,hBe]⟩,⟨j+1,by simp,by omega,by rw[hH7];exact o6.trans (.ext _ _),by rw[us1]⟩,by rw[h62];simp only[aa,aM];omega⟩
   ·rw[SH (by omega)]at r10;have hkw:k<bh d.nodes:=hk;have bu:=DW hus hu4 vals;have bg:=DU hok hfit d.nodes.length;rw[SH (by rw[vG];omega),hgp]at bg;have m1:-67184640000000000<=eT d vals*bt d.nodes d.utils vals/\eT d vals*bt d.nodes d.utils vals<=67184640000000000:=by
     constructor
     ·have h1:eT d vals*(-400)<=eT d vals*bt d.nodes d.utils vals:=Tb bu.1 bg.1;omega
     ·have h1:eT d vals*bt d.nodes d.utils vals<=eT d vals*400:=Tb bu.2 bg.1;omega
    have w2:=SF (eT d vals*bt d.nodes d.utils vals) (by omega);have hl1:((fP d).take k).length=k:=(by rw[SN,DV];omega);have hl2:((dI d).take k).length=k:=(by rw[SN,vJ];omega);have hw40:bh d.nodes<=2 ^ 40:=(by omega);have a6:Own2 (H2.next+2) H6 3 pv (ints ((fP d).take k)) pu (ints ((dI d).take k)):=a4.keep o36.next fun id h1 h2=>o36.old id h2;obtain⟨pv',H7,hA1,hO1,hn7,hp7⟩:=a6.app (P:=prog) (t:=42) (x:=aa (eT d vals)) (n:=H6.next+1) Tryz.underlying42 Tryz.dz Tryz.dH rfl (by rw[Tryz.dL,aH,hl1];omega) (by omega) rfl;simp only[aa]at hA1;have l61:=ah ((o36.old _ (by omega)).trans k1);have l61e:∀L,(ext H6 L).live (H.next+1) 0=some (42,[pv]):=fun L=>(dh (by omega)).trans l61;have l71:=ah ((hp7 (H.next+1) (by omega)).trans ((o36.old _ (by omega)).trans k1));obtain⟨H8,hH8⟩:∃H8,H8=H7.upd (H.next+1) (.arr 0 42 [pv']):=⟨_,rfl⟩
    have n8':H8.next=H7.next:=(by rw[hH8];rfl);have o8:∀id,id≠H.next+1->H8.get id=H7.get id:=fun id h=>by rw[hH8,ae,SI h]
    have a8:Own2 (H2.next+2) H8 3 pv' (ints ((fP d).take k)++[aa (eT d vals)]) pu (ints ((dI d).take k)):=hO1.keep (by omega) fun id h1 h2=>o8 id (by omega);obtain⟨pu',H9,hA2,hO2,hn9,hp9⟩:=a8.symm.app (P:=prog) (t:=42) (x:=aa (eT d vals*bt d.nodes d.utils vals)) (n:=H8.next+1) Tryz.underlying42 Tryz.dz Tryz.dH rfl (by rw[Tryz.dL,aH,hl2];omega) (by omega) rfl;simp only[aa]at hA2;have l82:=ah ((o8 (H.next+2) (by omega)).trans ((hp7 (H.next+2) (by omega)).trans ((o36.old _ (by omega)).trans k2)));have l82e:∀L,(ext H8 L).live (H.next+2) 0=some (42,[pu]):=fun L=>(dh (by omega)).trans l82;have l92:=ah ((hp9 (H.next+2) (by omega)).trans ((o8 (H.next+2) (by omega)).trans ((hp7 (H.next+2) (by omega)).trans ((o36.old _ (by omega)).trans k2))));have one1:=hO1.a.one;have cel1:=hO1.a.cells;have one2:=hO2.a.one;have cel2:=hO2.a.cells;have pc1:=a6.a.cells;have pc2:=a6.b.cells;simp only[go_sem,r2,r3,r7,r61,r62,hb2,l61,l71,hA1,one1,cel1];rw[<- hH8];simp only[go_sem,r3,r7,r10,l82,l92,hA2,one2,cel2,w2,ep];have hget:∀id,id<H2.next+2->id≠H.next+1->id≠H.next+2->(H9.upd (H.next+2) (.arr 0 42 [pu'])).get id=H3.get id:=fun id h1 h2 h3=>by
     rw[ae,SI h3,hp9 id h1,o8 id h2,hp7 id h1,o36.old id (by omega)]
    have ew:ints ((fP d).take (k+1))=ints ((fP d).take k)++[aa (eT d vals)]:=(by rw[aL (Rj hkw),hvals];simp[ints,aa]);have eg:ints ((dI d).take (k+1))=ints ((dI d).take k)++[aa (eT d vals*bt d.nodes d.utils vals)]:=(by rw[aL (vI hkw),hvals];simp[ints,aa,fL]);refine⟨by rw[hget _ (by omega) (by omega) (by omega)];exact jB,by rw[au];omega,⟨by rw[au];omega,fun id h1 h2 h3=>by rw[hget id (by omega) h2 h3,o3 _ (by omega)];exact hj.2.1 id h1 h2 h3,pv',pu',?_,by rw[ae,SK rfl],?_⟩,?_⟩
    ·rw[ae,SI (by omega),hp9 _ (by omega),hH8,ae,SK rfl]
    ·rw[ew,eg];exact hO2.symm.keep (by rw[au];exact Nat.le_refl _) fun id h1 h2=>by rw[ae,SI (by omega)]
    ·unfold lY;rw[hget _ (by omega) (by omega) (by omega)];exact kN
 ·obtain⟨v,u,a1,a2,a3⟩:=hj.2.2;rw[qD]at a3;rw[SH (by rw[DV];exact Nat.le_refl _),SH (by rw[vJ];exact Nat.le_refl _)]at a3;have l1:=ah a1;have l2:=ah a2;have c1:=a3.a.cells;have c2:=a3.b.cells;have ovx:Over H Hx:=⟨by omega,fun id hi=>(hj.2.1 id (by omega) (by omega) (by omega)).trans (o2.old id hi)⟩
  simp only[go_sem];refine W.dr 3 [0,0,1] mixed ?_;have on1:=a3.a.one;have on2:=a3.b.one;have l2u:∀b,(Hx.upd (H.next+1) b).live (H.next+2) 0=some (42,[u]):=fun b=>(bQ (by omega)).trans l2;have l1u:∀b,((Hx.upd (H.next+1) (.arr 0 42 [v])).upd (H.next+2) b).live (H.next+1) 0=some (42,[v]):=fun b=>(bQ (by omega)).trans jj;have hne12:∀x:Nat,x=H.next+1->¬x=H.next+2:=fun x h=>by omega
  simp only[go_sem,e2,e3,l1,l2,c1,c2,on1,on2,l2u,l1u];refine⟨hne12,?_⟩;have a5:Own2 (H2.next+2) ((Hx.upd (H.next+1) (.arr 0 42 [v])).upd (H.next+2) (.arr 0 42 [u])) 3 v (ints (fP d)) u (ints (dI d)):=a3.keep (by rw[au,au];exact Nat.le_refl _) fun id h1 _=>by rw[ae,SI (by omega),ae,SI (by omega)]
  refine ar.aV aE hcl ((ovx.upd (by omega) _).upd (by omega) _) ?_ hK;exact .tup rfl fun i hi _=>match i,hi with
   |0,_=>a5.a.dG fun i hi=>by show H.next<=i;omega
   |1,_=>a5.b.dG fun i hi=>by show H.next<=i;omega
theorem DJ {l:List Int}(h:l≠[])(b:Int):fB (l++[b])=max (fB l) b:=by
 cases l with
 |nil=>exact absurd rfl h
 |cons a l =>
  show (l++[b]).foldl max a=_;rw[TT];rfl
theorem Q8 (l:List Int)(h0:l≠[])(hl:(l.length:Int)<2 ^ 62)(H:AHeap)(K:ARes->AHeap->Prop)(hK:K (.ret (aa (fB l))) H):ag prog G0 82 [af l] H K:=by
 have hpos:0<l.length:=T1.2 h0;obtain⟨a,ha⟩:=get_of_lt hpos;have h1:¬((l.length:Int)<1):=by omega
 have hp1:(0:Int)<l.length:=by omega
 refine ag.st (n:=25) (rs:=[.tmp 2]) func82 ?_;simp only[go_sem,h1,ha,h0,hp1];refine W.aG 16773144 (by rfl) (fun ρ H'=>H'=H/\∃k:Nat,ρ 4=aa (k:Int)/\1<=k/\k<=l.length/\ρ 3=aa (fB (l.take k))) (fun ρ H=>l.length-(iv (ρ 4)).toNat) ?_ ?_
 ·simp only[go_sem];refine⟨1,rfl,Nat.le_refl _,by omega,?_⟩;rw[aL ha,List.take_zero];rfl
 rintro ρ H' ⟨rfl,k,h4,hk1,hk,h3⟩;refine W.vs ?_;by_cases hb:(k:Int)<l.length
 ·obtain⟨b,hkb⟩:=get_of_lt (l:=l) (i:=k) (by omega);have hne:=aJ hkb;have w1:=SF ((k:Int)+1) (by omega);simp only[go_sem,h4,h3,hb,hkb,hne,w1,builtin_max];refine⟨⟨k+1,by simp,by omega,by omega,?_⟩,by omega⟩;rw[aL hkb,DJ (fun e=>by have:=congrArg List.length e;rw[SN,TY (by omega)]at this;rw[List.length_nil]at this;omega)];congr 2;split<;>omega
 ·simp only[go_sem,h4,h3,hb];rw[SH (by omega)];exact ar.mk (Nat.le_refl _) hK
theorem yT {l:List Int}{v:Int}{k:Nat}(h:∀j,j<k->∀b,l[j]?=some b->b≠v)(hk:l[k]?=some v):l.idxOf v=k:=by
 induction l generalizing k with
 |nil=>simp at hk
 |cons a l ih =>
  cases k with
  |zero=>simp only[List.getElem?_cons_zero,Option.some.injEq]at hk;subst hk;simp
  |succ k =>
   have ha:=h 0 (by omega) a rfl;have hr:=ih (k:=k) (fun j hj b hb=>h (j+1) (by omega) b (by simpa using hb)) (by simpa using hk);have hbe:(a == v)=false:=beq_false_of_ne ha;simp[List.idxOf_cons,hbe,hr]
theorem Rb (l:List Int)(v:Int)(hv:v∈l)(hl:(l.length:Int)<2 ^ 62)(H:AHeap)(K:ARes->AHeap->Prop)(hK:K (.ret (aa ((l.idxOf v:Nat):Int))) H):ag prog G0 83 [af l,aa v] H K:=by
 refine ag.st (n:=19) (rs:=[.tmp 4]) func83 ?_;simp only[go_sem];refine W.aG 524080 (by rfl) (fun ρ H'=>H'=H/\∃k:Nat,ρ 8=aa k/\k<=l.length/\∀j,j<k->∀b,l[j]?=some b->b≠v) (fun ρ H=>l.length-(iv (ρ 8)).toNat) ?_ ?_
 ·simp only[go_sem];exact⟨0,rfl,by omega,fun j h=>absurd h (S4 _)⟩
 rintro ρ H' ⟨rfl,k,h8,hk,hno⟩;refine W.vs ?_;by_cases hb:(k:Int)<l.length
 ·obtain⟨b,hkb⟩:=get_of_lt (l:=l) (i:=k) (by omega);have hne:=aJ hkb;have w1:=SF ((k:Int)+1) (by omega);by_cases he:v=b
  ·subst he;simp only[go_sem,h8,hb,hkb,hne];rw[yT hno hkb]at hK;exact ar.mk (Nat.le_refl _) hK
  ·simp only[go_sem,h8,hb,hkb,hne,he,w1];exact⟨⟨k+1,by simp,by omega,fun j hj b' hb'=>by
    by_cases hjk:j=k
    ·subst hjk;rw[hkb]at hb';cases hb';exact fun h=>he h.symm
    ·exact hno j (by omega) b' hb'⟩,by omega⟩
 ·exfalso;obtain⟨j,hj⟩:=SW.1 hv;exact hno j (by have:=get_lt hj;omega) v hj rfl
theorem tj (d:InfP)(hl:(d.nodes.length:Int)<2 ^ 40)(hD:d.decs<2 ^ 64)(b:Nat):vT prog G0 80 [] [.ptr b 0 0] (kX d) (fun H=>H.get b=some (eh d)):=by
 intro idy J Stop H K hS hJ0 hY hK hSt;have l0:=ah (hS 0 H hJ0);show ag _ _ _ ([.yld idy]++[.ptr b 0 0]) _ _;refine ag.st (n:=25) (rs:=[]) func80 ?_;simp only[go_sem,l0,bK];refine W.aG 33554200 (by rfl) (fun ρ H'=>∃v:Nat,ρ 8=aa v/\v<=d.nodes.length/\ρ 3=aa (aU d.decs v)/\J (aU d.decs v) H'/\H.next<=H'.next) (fun ρ H=>d.nodes.length-(iv (ρ 8)).toNat) ?_ ?_
 ·simp only[go_sem];exact⟨0,rfl,by omega,rfl,hJ0⟩
 rintro ρ H' ⟨v,h8,hv,h3,hj,hn⟩;refine W.vs ?_;by_cases hb:(v:Int)<d.nodes.length
 ·have l1:=ah (hS _ _ hj);have s1:=fun t x y=>mb (P:=prog) (t:=t) (x:=x) (y:=y) (k':=.i64) (s:=v) hD;have s2:=fun t x y=>oB (P:=prog) (t:=t) (x:=x) (y:=y) (s:=v) hD;have w1:=SF ((v:Int)+1) (by omega);have hp:aU d.decs v<=v:=by
   have:(dO d.decs v).length<=v:=fY;exact this
  have w2:=SF ((aU d.decs v:Int)+1) (by omega);cases hbit:d.decs.testBit v
  ·simp only[go_sem,h8,h3,hb,l1,bK,s1,s2,hbit,w1];exact⟨hn,⟨v+1,by simp,by omega,by rw[kR,hbit];rfl,by rw[kR,hbit];exact hj,hn⟩,by omega⟩
  ·have hdx:(kX d)[aU d.decs v]?=some [aa (aU d.decs v),aa v]:=Dj (kQ (by omega) hbit);simp only[go_sem,h8,h3,hb,l1,bK,s1,s2,hbit];refine hY _ _ H' _ hdx hj hn (fun H2 hj2 hn2=>⟨trivial,?_⟩) (fun H2 hs2 hn2=>⟨trivial,?_⟩)
   ·simp only[go_sem,h8,h3,w1,w2];exact⟨by omega,⟨v+1,by simp,by omega,by rw[kR,hbit];simp,by rw[kR,hbit];exact hj2,by omega⟩,by omega⟩
   ·simp only[go_sem];exact ar.mk (by omega) (hSt H2 hs2 (by omega))
 ·simp only[go_sem,h8,hb];have ek:v=d.nodes.length:=by omega
  subst ek;exact ar.mk (by omega) (hK H' (by rw[kY];exact hj) hn)
theorem tn (d:InfP)(H:AHeap)(K:ARes->AHeap->Prop)(hK:K (.ret (.clo 80 [] [.ptr H.next 0 0])) (ext H [eh d])):
  ag prog G0 39 [cW d] H K:=by
 refine ag.st (n:=4) (rs:=[.tmp 2]) func39 ?_;simp only[go_sem,gI,bK];exact ar.mk (by simp[aS]) hK
def fE (d:InfP)(c:Nat->Nat->Int)(v0 r:Nat)(x:Int)(k:Nat):Int :=
 SS k fun w=>if fM d c v0 (wv d w)=true/\dk d.nodes v0 (wv d w)=r/\(wv d w).getD v0 0=x then fL d (wv d w) else 0
def kp (d:InfP)(c:Nat->Nat->Int)(v0 r k:Nat):List Int:=(List.range (bV d v0)).map fun (x:Nat)=>fE d c v0 r (x:Int) k
def fQ (d:InfP)(c:Nat->Nat->Int)(v0 k:Nat):List (List Int):=(List.range (bT d v0)).map fun r=>kp d c v0 r k
theorem vK (d:InfP)(c:Nat->Nat->Int)(v0 r k:Nat):(kp d c v0 r k).length=bV d v0:=by simp[kp]
theorem tp (d:InfP)(c:Nat->Nat->Int)(v0 k:Nat):(fQ d c v0 k).length=bT d v0:=by simp[fQ]
theorem yX {d:InfP}{c:Nat->Nat->Int}{v0 k r:Nat}(h:r<bT d v0):(fQ d c v0 k)[r]?=some (kp d c v0 r k):=by unfold fQ;rw[List.getElem?_map,Tc h];rfl
theorem yY {d:InfP}{c:Nat->Nat->Int}{v0 k r x:Nat}(h:x<bV d v0):(kp d c v0 r k)[x]?=some (fE d c v0 r (x:Int) k):=by unfold kp;rw[List.getElem?_map,Tc h];rfl
theorem Rk (d:InfP)(c:Nat->Nat->Int)(v0 r:Nat):kp d c v0 r 0=List.replicate (bV d v0) 0:=by
 unfold kp fE;simp only[sD];rw[UA,TK]
theorem DY (d:InfP)(c:Nat->Nat->Int)(v0:Nat):fQ d c v0 0=List.replicate (bT d v0) (List.replicate (bV d v0) 0):=by
 unfold fQ;simp only[Rk];rw[UA,TK]
theorem DZ (d:InfP)(c:Nat->Nat->Int)(v0 r:Nat)(x:Int):fE d c v0 r x (bh d.nodes)=eJ d c v0 r x:=rfl
theorem Rl {d:InfP}{c:Nat->Nat->Int}{v0 k:Nat}(h:fM d c v0 (wv d k)=false):fQ d c v0 (k+1)=fQ d c v0 k:=by
 unfold fQ kp fE;simp only[gS,h];simp
theorem Rm {d:InfP}{c:Nat->Nat->Int}{v0 k r x:Nat}(h:fM d c v0 (wv d k)=true)(hr:dk d.nodes v0 (wv d k)=r)(hx:(wv d k).getD v0 0=(x:Int))(hrn:r<bT d v0)(hxn:x<bV d v0):
  fQ d c v0 (k+1)=(fQ d c v0 k).set r ((kp d c v0 r k).set x (fE d c v0 r (x:Int) k+fL d (wv d k))):=by
 apply Ti;intro i;rw[TM,tp];by_cases hi:i<bT d v0
 ·rw[yX hi,yX hi];by_cases hri:r=i
  ·subst hri;rw[SK rfl,SK hi];congr 1;apply Ti;intro j;rw[TM,vK];by_cases hj:j<bV d v0
   ·rw[yY hj,yY hj];by_cases hxj:x=j
    ·subst hxj;rw[SK rfl,SK hj];unfold fE;rw[gS,SK ⟨h,hr,hx⟩]
    ·rw[SI hxj];unfold fE;rw[gS,SI fun e=>hxj (by have:=e.2.2;rw[hx]at this;exact Int.ofNat.inj this)];simp
   ·rw[SQ (by rw[vK];omega),SQ (by rw[vK];omega),SI (by omega)]
    try (split<;>rfl)
  ·rw[SI hri];congr 1;unfold kp;refine Th fun j _=>?_;unfold fE;rw[gS,SI fun e=>hri (by rw[<- hr];exact e.2.1)];simp
 ·rw[SQ (by rw[tp];omega),SQ (by rw[tp];omega),SI (by omega)]
  try (split<;>rfl)
theorem vM {d:InfP}(hok:InfOk d)(h6:d.nodes.length<=6){vals:List Int}(hf:bH (ak d.nodes) vals):-18662400000000<=fL d vals/\fL d vals<=18662400000000:=by
 have hb:∀w∈iS d vals,0<=w/\w<=60:=fun w hw=>by
  obtain⟨v,hv,rfl⟩:=SY.1 hw;exact DT hok hf (Tn.1 hv)
 have h1:=nL (b:=60) (by omega) hb;have h2:=CI (iS d vals).length (by rw[vG];omega);have h3:0<=eT d vals/\eT d vals<=46656000000:=⟨h1.1,VE h1.2 h2⟩
 have h4:=DW hok.utils.2 hok.utils.1 vals;unfold fL;generalize eT d vals=w at *
 generalize bt d.nodes d.utils vals=u at *
 constructor
 ·have h1:w*(-400)<=w*u:=Tb h4.1 h3.1;omega
 ·have h1:w*u<=w*400:=Tb h4.2 h3.1;omega
theorem yZ {d:InfP}(hok:InfOk d)(h6:d.nodes.length<=6)(c:Nat->Nat->Int)(v0 r:Nat)(x:Int)(k:Nat):-(18662400000000*k:Int)<=fE d c v0 r x k/\fE d c v0 r x k<=18662400000000*k:=by
 induction k with
 |zero=>simp[fE,sD]
 |succ k ih =>
  have e:fE d c v0 r x (k+1)=fE d c v0 r x k+(if fM d c v0 (wv d k)=true/\dk d.nodes v0 (wv d k)=r/\(wv d k).getD v0 0=x then fL d (wv d k) else 0):=by unfold fE;rw[gS]
  rw[e];have:=vM hok h6 (mC hok k)
  push_cast
  split<;>omega
theorem za {d:InfP}(hok:InfOk d):bh d.nodes<=1024:=by
 have:=(uX hok.net).1
 rwa [sP]at this
def vO (d:InfP):List AVal:=[.lit (.int .i64 d.grain),.vec d.nodes.length (aF d.nodes),.lit (.int .u64 (d.decs:Int)),.vec d.utils.length (aO d.utils),.lit (.slice none 0 0),af (fP d),af (dI d),.lit (.int .i64 0)]
structure ExH (d:InfP)(p:List (List Int))(v0 db eb pb rb sb so:Nat)(rv:AVal)(H:AHeap):Prop where
 hd:H.get db=some (eh d)
 he:H.get eb=some (.arr 0 3 [.lit (.int .i64 v0)])
 hp:H.get pb=some (.arr 0 33 [aj p])
 hr:H.get rb=some (.arr 0 33 [rv])
 hs:H.get sb=some (.arr 0 134 [.ptr so 0 0])
 hso:H.get so=some (.arr 0 178 (vO d))
theorem ExH.keep {d:InfP}{p:List (List Int)}{v0 db eb pb rb sb so:Nat}{rv:AVal}{H H':AHeap}(h:ExH d p v0 db eb pb rb sb so rv H)(hk:∀id,id=db\/id=eb\/id=pb\/id=rb\/id=sb\/id=so->H'.get id=H.get id):ExH d p v0 db eb pb rb sb so rv H' :=
 ⟨(hk _ (by simp)).trans h.hd,(hk _ (by simp)).trans h.he,(hk _ (by simp)).trans h.hp,(hk _ (by simp)).trans h.hr,(hk _ (by simp)).trans h.hs,(hk _ (by simp)).trans h.hso⟩
theorem vQ {d:InfP}(hok:InfOk d){v:Nat}{x:NodeP}(hx:d.nodes[v]?=some x):(bB d.nodes x:Int)=ao (aP d.nodes x)/\bO x.parents d.nodes.length/\eF x.parents d.nodes.length/\cY (aP d.nodes x):=by
 have hxp:bO x.parents d.nodes.length:=by
  have:=(hok.net.node _ (SE (eW (c:=fun _ _=>0) hx))).2;rw[(gD ..).2,dB]at this;exact this
 have ps:=iQ hok.n.n1.2 hxp hok.n.card;exact⟨by have:=ps.prod;unfold bB;omega,hxp,fun q hq=>by have:=hxp.2 q hq;omega,ps⟩
theorem Ro (d:InfP)(hok:InfOk d)(hf:InfFit d)(h6:d.nodes.length<=6)(p:List (List Int))(hp:PolOk d p)(v0:Nat)(hv0:v0∈az d)(k:Nat)(hk:k<bh d.nodes)(db eb pb rb sb so N n lo:Nat)(rv:AVal)(ids:List Nat)
  (H:AHeap) (hE:ExH d p v0 db eb pb rb sb so rv H) (hM:OwnM lo H 42 3 rv ids ((fQ d (fixC p) v0 k).map ints)) (hg:H.get N=some (.arr 0 3 (ints (wv d k)))) (hN:N<H.next) (hn:n=d.nodes.length)
  (K:ARes->AHeap->Prop) (hK:∀H',H'.next=H.next->(∀id,id ∉ ids->H'.get id=H.get id)->OwnM lo H' 42 3 rv ids ((fQ d (fixC p) v0 (k+1)).map ints)->K (.ret (.tup [])) H'):
  ag prog G0 122 [aa k,.own N 0 0 n 1,.ptr db 0 0,.ptr eb 0 0,.ptr pb 0 0,.ptr rb 0 0,.ptr sb 0 0] H K:=by
 subst hn;obtain⟨vals,hvals⟩:∃vals,vals=wv d k:=⟨_,rfl⟩
 rw[<- hvals]at hg;have hfit:bH (ak d.nodes) vals:=by rw[hvals];exact mC hok k
 have hvl:vals.length=d.nodes.length:=by rw[hfit.1,cC]
 have n8:=hok.n.n1.2;have hD:=hf.decs;obtain⟨v01,v02⟩:=eI.1 hv0;have ld:=ah hE.hd;have le:=ah hE.he;have lp:=ah hE.hp;have lr:=ah hE.hr;have ls:=ah hE.hs;have lso:=ah hE.hso;have lN:=ah hg;unfold bK at ld;unfold vO at lso;have hpl:p.length<=d.nodes.length:=by rw[hp.len];exact fY
 refine ag.st (n:=70) (rs:=[]) func122 ?_;simp only[go_sem,ld];refine W.aG 140737488340480 (by rfl) (fun ρ H'=>H'=H/\∃v:Nat,ρ 14=aa v/\v<=d.nodes.length/\ρ 9=aa (aU d.decs v)/\∀u,u<v->d.decs.testBit u=true->u=v0\/jJ d (fixC p) vals u=true) (fun ρ H=>d.nodes.length-(iv (ρ 14)).toNat) ?_ ?_
 ·simp only[go_sem];exact⟨0,rfl,by omega,rfl,fun u hu=>absurd hu (S4 _)⟩
 rintro ρ H' ⟨rfl,v,h14,hv,h9,hag⟩;refine W.vs ?_;by_cases hb:(v:Int)<d.nodes.length
 ·obtain⟨x,hx⟩:=get_of_lt (l:=d.nodes) (i:=v) (by omega);have s1:=fun t x y=>mb (P:=prog) (t:=t) (x:=x) (y:=y) (k':=.i64) (s:=v) hD;have s2:=fun t x y=>oB (P:=prog) (t:=t) (x:=x) (y:=y) (s:=v) hD;have w1:=SF ((v:Int)+1) (by omega);have hpv:aU d.decs v<=v:=by
   have:(dO d.decs v).length<=v:=fY;exact this
  have w2:=SF ((aU d.decs v:Int)+1) (by omega);cases hbit:d.decs.testBit v
  ·simp only[go_sem,h14,hb,ld,s1,s2,hbit,w1];exact⟨⟨v+1,by simp,by omega,by rw[kR,hbit];exact h9,fun u hu hub=>by
    by_cases huv:u=v
    ·subst huv;rw[hbit]at hub;cases hub
    ·exact hag u (by omega) hub⟩,by omega⟩
  by_cases hvv:v=v0
  ·subst hvv;simp only[go_sem,h14,hb,ld,s1,s2,hbit];refine W.dr 19 [0,0,3,7,15,15,63,127,15,271,15,15,3855,8191,16383,15,15,98319,229391] mixed ?_;simp only[go_sem,h14,h9,le,w1,w2];exact⟨⟨v+1,by simp,by omega,by rw[kR,hbit];simp,fun u hu hub=>by
    by_cases huv:u=v
    ·exact .inl huv
    ·exact hag u (by omega) hub⟩,by omega⟩
  have hvv2:¬(v:Int)=v0:=by omega
  obtain⟨hrn,hxp,hin,ps⟩:=vQ hok hx;obtain⟨r1,r2⟩:=mB hok hx hfit;have hvm:v∈az d:=eI.2 ⟨by omega,hbit⟩;have hplt:=nU hp hvm;obtain⟨l,hl⟩:=get_of_lt hplt;obtain⟨ll,lr'⟩:=hp.row _ v x l (n9 hx hbit) hx hl;obtain⟨a,ha⟩:=get_of_lt (l:=l) (i:=dk d.nodes v vals) (by omega);obtain⟨b,hbv⟩:=get_of_lt (l:=vals) (i:=v) (by omega);have hca:fixC p (aU d.decs v) (dk d.nodes v vals)=a:=by unfold fixC;rw[bp hl,bp ha]
  have hpc:bf prog G0 (.clo 98 [] []) [.vec d.nodes.length (aF d.nodes),.lit (.int .i64 v),.own N 0 0 d.nodes.length 1] H' (.lit (.int .i64 (dk d.nodes v vals))) [N]:=by
   have:=sX d.nodes v x vals hx hin ps hfit H' N d.nodes.length hN hg hvl.symm;rw[<- r1]at this;exact this
  have gl:(p.map fun r=>AVal.vec r.length (ints r))[aU d.decs v]?=some (.vec l.length (ints l)):=by rw[List.getElem?_map,hl];rfl
  have gne:=aJ hl;have hpi:(aU d.decs v:Int)<p.length:=by omega
  have hlne:=aJ ha;have hli:(dk d.nodes v vals:Int)<l.length:=by have:=get_lt ha;omega
  have hvne:=aJ hbv;have hvi:(v:Int)<vals.length:=by omega
  have hagN:jJ d (fixC p) vals v=decide (a=b):=by unfold jJ;rw[hca,bp hbv]
  simp only[go_sem,h14,hb,ld,s1,s2,hbit];refine W.dr 19 [0,0,3,7,15,15,63,127,15,271,15,15,3855,8191,16383,15,15,98319,229391] mixed ?_;simp only[go_sem,h9,ld,le,lp,hvv2,aj,hl,gne,hpi];refine⟨.lit (.int .i64 (dk d.nodes v vals)),[N],hpc,?_⟩;have hvn:(v:Int)<d.nodes.length:=hb;by_cases hab:a=b
  ·subst hab;simp only[go_sem,h14,h9,lN,ha,hlne,hli,hbv,hvn,w1,w2];exact⟨⟨v+1,by simp,by omega,by rw[kR,hbit];simp,fun u hu hub=>by
    by_cases huv:u=v
    ·subst huv;exact .inr (by rw[hagN];simp)
    ·exact hag u (by omega) hub⟩,by omega⟩
  ·simp only[go_sem,lN,ha,hlne,hli,hbv,hvn,hab];have hno:fM d (fixC p) v0 (wv d k)=false:=by
    rw[<- hvals];unfold fM;rw[List.all_eq_false];exact⟨v,hvm,by rw[hagN];simp[hvv,hab]⟩
   exact ar.mk (Nat.le_refl _) (hK H' rfl (fun _ _=>rfl) (by rw[Rl hno];exact hM))
 ·have hyes:fM d (fixC p) v0 (wv d k)=true:=by
   rw[<- hvals];unfold fM;rw[Td];intro u hu;obtain⟨u1,u2⟩:=eI.1 hu;rcases hag u (by omega) u2 with h|h
   ·simp[h]
   ·simp[h]
  obtain⟨x,hx⟩:=get_of_lt v01;have hxc:=hok.n.card x (SE hx);obtain⟨nr,nc⟩:=kT hx (by omega);obtain⟨hrn,hxp,hin,ps⟩:=vQ hok hx;obtain⟨r1,r2⟩:=mB hok hx hfit;obtain⟨b,hbv⟩:=get_of_lt (l:=vals) (i:=v0) (by omega);have hbr:=hfit.2 v0 x.card b (dm hx) hbv;obtain⟨xb,rfl⟩:=SR hbr.1;obtain⟨r,hr⟩:∃r,r=dk d.nodes v0 vals:=⟨_,rfl⟩
  rw[<- hr]at r1 r2;have hrn2:r<bT d v0:=by omega
  have hxn:xb<bV d v0:=by omega
  have hpc:bf prog G0 (.clo 98 [] []) [.vec d.nodes.length (aF d.nodes),.lit (.int .i64 v0),.own N 0 0 d.nodes.length 1] H' (.lit (.int .i64 r)) [N]:=by
   have:=sX d.nodes v0 x vals hx hin ps hfit H' N d.nodes.length hN hg hvl.symm;rw[<- r1]at this;exact this
  obtain⟨tab,htab⟩:∃t,t=fQ d (fixC p) v0 k:=⟨_,rfl⟩
  obtain⟨row,hrow⟩:∃t,t=kp d (fixC p) v0 r k:=⟨_,rfl⟩
  have htl:tab.length=bT d v0:=by rw[htab];exact tp ..
  have hrl:row.length=bV d v0:=by rw[hrow];exact vK ..
  have htr:tab[r]?=some row:=by rw[htab,hrow];exact yX hrn2
  have hrx:row[xb]?=some (fE d (fixC p) v0 r (xb:Int) k):=by rw[hrow];exact yY hxn
  rw[<- htab]at hM;have ht0:tab≠[]:=fun h=>by rw[h]at htr;simp at htr
  obtain⟨tb,tg,tb1,tb2,hrv,hgt,htn⟩:=hM.zm (by simpa using ht0);have htn:=htn (by decide);rw[SM]at hrv;obtain⟨id,hid⟩:=get_of_lt (l:=ids) (i:=r) (by rw[hM.len,SM];omega);have hmr:(tab.map ints)[r]?=some (ints row):=by rw[List.getElem?_map,htr];rfl
  have hgid:=hM.row r id _ hid hmr;obtain⟨hs,hhs⟩:∃hs,hs=List.zipWith (fun i n=>AVal.own i 0 0 n 1) ids ((tab.map ints).map List.length):=⟨_,rfl⟩
  rw[<- hhs]at hgt;have hhk:hs[r]?=some (.own id 0 0 (bV d v0) 1):=by
   rw[hhs,Vo,hid,List.getElem?_map,hmr];show some (AVal.own id 0 0 (ints row).length 1)=_;rw[aH,hrl]
  have hhn:=aJ hhk;have lt:=ah hgt;have lid:=ah hgid;have bk:=yZ hok h6 (fixC p) v0 r (xb:Int) k;have bg:=vM hok h6 hfit;have bw:=za hok;have w1:=SF (fE d (fixC p) v0 r (xb:Int) k+fL d vals) (by omega);have hgk:(dI d)[k]?=some (fL d vals):=by rw[hvals];exact vI hk
  have hgn:=aJ hgk;have hkl:(k:Int)<(dI d).length:=by rw[vJ];omega
  have hrt:(r:Int)<tab.length:=by omega
  have hxr:(xb:Int)<bV d v0:=by omega
  have hrxn:=aJ hrx;have hvne:=aJ hbv;have hvi:(v0:Int)<vals.length:=by omega
  have hvn:(v0:Int)<d.nodes.length:=by omega
  have hset:setAt (ints row) xb [.lit (.int .i64 (fE d (fixC p) v0 r (xb:Int) k+fL d vals))]=ints (row.set xb (fE d (fixC p) v0 r (xb:Int) k+fL d vals)):=fD (by omega);simp only[go_sem,h14,hb];refine W.en (fun E=>E 0=aa k /\ E 1=.own N 0 0 d.nodes.length 1 /\ E 2=.ptr db 0 0 /\ E 3=.ptr eb 0 0 /\ E 5=.ptr rb 0 0 /\ E 6=.ptr sb 0 0) (by simp only[go_sem]) fun E ⟨e0,e1,e2,e3,e5,e6⟩=>?_
  refine W.vs ?_;simp only[go_sem];refine W.dr 21 [0,0,2,0,0,30,63,127,0,0,768,1792,4095,8191,0,16384,49152,114688,0,507904,1032192] mixed ?_;simp only[go_sem,e1,e2,e3,e5,ld,le,lr];refine⟨.lit (.int .i64 r),[N],hpc,?_⟩;rw[hrv]at lr;simp only[go_sem,e0,e1,e2,e3,e5,e6,le,ls,lso,lN,hrv,lt,hrt,hhk,lid,hbv,hvn,hrx,hxr,hgk,hgn,hkl,w1,hset];have hy:=Rm (r:=r) (x:=xb) hyes (by rw[<- hvals,hr]) (by rw[<- hvals];exact bp hbv) hrn2 hxn;rw[<- hvals,<- htab,<- hrow]at hy;refine⟨by omega,ar.mk (by rw[au];exact Nat.le_refl _) (hK _ rfl (fun i hi=>by rw[ae,SI];rintro rfl;exact hi (SE hid)) ?_)⟩;rw[hy,Um];exact hM.store (by decide) hid hmr (by rw[aH,aH,SO])
end Go.Proofs
namespace Go.Hx
variable {P:Program}
theorem OwnM.vR {lo n0:Nat}{H H':AHeap}{e1 e0:TypeId}{v:AVal}{ids:List Nat}{rows:List (List AVal)}(h:OwnM lo H e1 e0 v ids rows)(hb:∀i∈ids,i<n0)(ht:∀i g n,v=.own i g 0 n 1->i<n0)(hn:H.next<=H'.next)(hk:∀id,id<n0->H'.get id=H.get id):OwnM lo H' e1 e0 v ids rows :=
 ⟨h.len,h.nd,fun i hi=>⟨(h.rng i hi).1,by have:=(h.rng i hi).2;omega⟩,h.top.keep (Nat.le_refl _) hn fun id g _ _ _ hv=>hk id (ht id g _ hv),fun k id r h1 h2=>by
  rw[hk id (hb id (SE h1))];exact h.row k id r h1 h2⟩
theorem OwnM.Rp {lo:Nat}{H:AHeap}{e1 e0:TypeId}{v:AVal}{ids:List Nat}{rows:List (List AVal)}(h:OwnM lo H e1 e0 v ids rows):∀i g n,v=.own i g 0 n 1->i<H.next:=fun i g n hv=>by
 rcases h.top with ⟨h1,_⟩|⟨j,g2,_,h2,h3,_⟩
 ·rw[h1]at hv;cases hv
 ·rw[h3]at hv;rw[<- (AVal.own.inj hv).1];exact h2
end Go.Hx
namespace Go.Proofs
open Go.Hx Tryz
theorem Rq (d:InfP)(hok:InfOk d)(hf:InfFit d)(h6:d.nodes.length<=6)(p:List (List Int))(hp:PolOk d p)(v0:Nat)(hv0:v0∈az d)(db eb pb rb sb so lo:Nat)(rv:AVal)(ids:List Nat)
  (H:AHeap) (hE:ExH d p v0 db eb pb rb sb so rv H) (hlt:db<H.next/\eb<H.next/\pb<H.next/\rb<H.next/\sb<H.next/\so<H.next) (hni:db ∉ ids/\eb ∉ ids/\pb ∉ ids/\rb ∉ ids/\sb ∉ ids/\so ∉ ids)
  (hM:OwnM lo H 42 3 rv ids ((fQ d (fixC p) v0 0).map ints))
  (K:ARes->AHeap->Prop) (hK:∀H',H.next<=H'.next->(∀id,id<H.next->id ∉ ids->H'.get id=H.get id)->OwnM lo H' 42 3 rv ids ((fQ d (fixC p) v0 (bh d.nodes)).map ints)->K (.ret (.tup [])) H'):
  ag prog G0 111 [.ptr so 0 0,.clo 122 [] [.ptr db 0 0,.ptr eb 0 0,.ptr pb 0 0,.ptr rb 0 0,.ptr sb 0 0]] H K:=by
 have n8:=hok.n.n1;have hcards:∀c∈ak d.nodes,1<=c/\c<=4:=fun c hc=>by
  obtain⟨x,hx,rfl⟩:=SY.1 hc;exact hok.n.card x hx
 have sm:cY (ak d.nodes):=ki (by rw[cC];omega) hcards;obtain⟨hdl,hel,hpl,hrl,hsl,hsol⟩:=hlt;obtain⟨hdi,hei,hpi,hri,hsi,hsoi⟩:=hni;have hidl:∀i∈ids,i<H.next:=fun i hi=>(hM.rng i hi).2;have htl:=hM.Rp;have lso:=ah hE.hso;unfold vO at lso;have lsoe:∀L,(ext H L).live so 0=_:=fun L=>(dh hsol).trans lso;refine ag.st (n:=19) (rs:=[]) func111 ?_;simp only[go_sem,lsoe];refine aw.clo (ta d.nodes (by omega) _ _ ⟨trivial,?_⟩);simp only[go_sem];refine aw.clo (sW (ak d.nodes) _ _ ⟨trivial,?_⟩);simp only[go_sem];obtain⟨H2,hH2⟩:∃H2,H2=ext (ext H [.arr 0 184 (AVal.clo 122 [] [.ptr db 0 0,.ptr eb 0 0,.ptr pb 0 0,.ptr rb 0 0,.ptr sb 0 0]).cells]) [.arr 0 42 [af (ak d.nodes)]]:=⟨_,rfl⟩
 have n2:H2.next=H.next+2:=by rw[hH2];rfl
 have o2:Over H H2:=by rw[hH2];exact(Over.ext _ _).trans (.ext _ _)
 have g0:H2.get H.next=some (.arr 0 184 [.clo 122 [] [.ptr db 0 0,.ptr eb 0 0,.ptr pb 0 0,.ptr rb 0 0,.ptr sb 0 0]]):=by rw[hH2,dp];exact bD H _ 0 (by simp)
 have g1:H2.get (H.next+1)=some (.arr 0 42 [af (ak d.nodes)]):=by rw[hH2,dp];exact bD H _ 1 (by simp)
 refine W.env fun E hE'=>?_;have e3:E 3=.ptr H.next 0 0:=by rw[hE'];simp only[go_sem]
 have e12:E 12=.clo 131 [] [.ptr (H.next+1) 0 0]:=by rw[hE'];rfl
 clear hE';show W _ _ _ _ _ _ ⟨E,ext (ext H [.arr 0 184 (AVal.clo 122 [] [.ptr db 0 0,.ptr eb 0 0,.ptr pb 0 0,.ptr rb 0 0,.ptr sb 0 0]).cells]) [.arr 0 42 [af (ak d.nodes)]]⟩;rw[<- hH2];have hit:=sV (ak d.nodes) (fun c hc=>(hcards c hc).1) sm (H.next+1) (H2.next+1) (by omega);have hni2:∀i,H.next<=i->i ∉ ids:=fun i hi hm=>by have:=hidl i hm;omega
 refine W.tv (f:=131) (first:=[]) (cap:=[.ptr (H.next+1) 0 0]) (by show E 12=_;exact e12) hit
  (fun k Hx=>H2.next<Hx.next/\(∀id,id<H2.next->id ∉ ids->Hx.get id=H2.get id)/\OwnM lo Hx 42 3 rv ids ((fQ d (fixC p) v0 k).map ints))
  (fun _ _=>False)
  (fun k Hx h=>(h.2.1 _ (by omega) (hni2 _ (by omega))).trans g1)
  (fun k H1 H3 h hw=>⟨by have:=hw.1;omega,fun id h1 h2=>(hw.2 _ (by omega) (by have:=h.1;omega)).trans (h.2.1 id h1 h2),h.2.2.vR hidl htl hw.1 fun id hi=>hw.2 id (by omega) (by have:=h.1;omega)⟩)
  (fun k Hx h=>h.1)
  (fun k H1 b h=>⟨h.1,fun id h1 h2=>by rw[ae,SI (by omega)];exact h.2.1 id h1 h2,h.2.2.vR hidl htl (by rw[au];exact Nat.le_refl _) fun id hi=>by rw[ae,SI (by omega)]⟩)
  (fun _ _ _ h=>h) (fun k H1 b h=>by unfold lY at h ⊢;rw[ae,SI (by omega)];exact h)
  (fun b=>⟨by rw[aS];simp,fun id h1 h2=>bb h1,hM.vR hidl htl (by rw[aS];omega) fun id hi=>by rw[bb (by omega),o2.old _ hi]⟩) (by decide)
  (fun x hx=>by
   obtain⟨k,hk⟩:=SW.1 hx;obtain⟨_,rfl⟩:=lX hk;rfl) (fun _ _ _=>trivial) (fun _ _ _=>trivial) (fun k y Hx B Bb hy hj hcs hn hB hBb=>?_) (fun Hx hj hn=>?_) (fun _ hs _=>hs.elim) (fun _ _ hs _=>hs.elim)
 ·obtain⟨hk,rfl⟩:=lX hy;refine W.vs ?_;simp only[go_sem,fV,bA,ir,Ts,TS,Tx,Tz,hB];obtain⟨H3,hH3⟩:∃H3,H3=Hx.upd H2.next Bb:=⟨_,rfl⟩
  rw[<- hH3];obtain⟨st,pd,n',en,ps',as',bo,hBe⟩:=hBb;have n3:H3.next=Hx.next:=by rw[hH3];rfl
  have o3:∀id,id≠H2.next->H3.get id=Hx.get id:=fun id h=>by rw[hH3,ae,SI h]
  have jB:H3.get H2.next=some Bb:=by rw[hH3,ae,SK rfl]
  have k0:=ah ((o3 _ (by omega)).trans ((hj.2.1 H.next (by omega) (hni2 _ (by omega))).trans g0));have kN:H3.get (H2.next+1)=some (.arr 0 3 (ints (aR (ak d.nodes) k))):=(o3 _ (by omega)).trans hcs;have kold:∀id,id<H.next->id ∉ ids->H3.get id=H.get id:=fun id h1 h2=>by rw[o3 _ (by omega),hj.2.1 _ (by omega) h2,o2.old _ h1]
  have hE3:ExH d p v0 db eb pb rb sb so rv H3:=hE.keep fun id hi=>by
   rcases hi with rfl|rfl|rfl|rfl|rfl|rfl
   ·exact kold _ hdl hdi
   ·exact kold _ hel hei
   ·exact kold _ hpl hpi
   ·exact kold _ hrl hri
   ·exact kold _ hsl hsi
   ·exact kold _ hsol hsoi
  have hM3:OwnM lo H3 42 3 rv ids ((fQ d (fixC p) v0 k).map ints):=hj.2.2.vR hidl htl (by omega) fun id hi=>o3 id (by omega);refine W.en (fun E1=>E1 3=.ptr H.next 0 0 /\ E1 4=aa k /\ E1 5=.own (H2.next+1) 0 0 d.nodes.length 1) (by simp only[go_sem,bA,e3,cC]) fun E1 ⟨m3,m4,m5⟩=>?_
  refine W.vs ?_;simp only[go_sem,m3,m4,m5,k0];refine aw.clo (Ro d hok hf h6 p hp v0 hv0 k hk db eb pb rb sb so (H2.next+1) d.nodes.length lo rv ids H3 hE3 hM3 kN (by omega) rfl _ fun H4 h4n h4o h4M=>⟨⟨_,_,_,_,_,_,_,by rw[h4o _ (hni2 _ (by omega)),jB,hBe]⟩,?_⟩);simp only[go_sem,ep];refine⟨by rw[h4o _ (hni2 _ (by omega))];exact jB,by omega,⟨by omega,fun id h1 h2=>by rw[h4o _ h2,o3 _ (by omega)];exact hj.2.1 id h1 h2,h4M⟩,?_⟩;unfold lY;rw[h4o _ (hni2 _ (by omega))];exact kN
 ·simp only[go_sem];have hl:(mL (ak d.nodes) (H2.next+1)).length=bh d.nodes:=qD ..;rw[hl]at hj;exact ar.mk (by omega) (hK Hx (by omega) (fun id h1 h2=>(hj.2.1 id (by omega) h2).trans (o2.old _ h1)) hj.2.2)
def eK (d:InfP)(c:Nat->Nat->Int)(v:Nat):List (List Int):=(List.range (bT d v)).map fun r=>il d c v r (bV d v)
theorem Rr (d:InfP)(c:Nat->Nat->Int)(v:Nat):fQ d c v (bh d.nodes)=eK d c v:=rfl
theorem Rs (d:InfP)(hok:InfOk d)(hf:InfFit d)(h6:d.nodes.length<=6)(p:List (List Int))(hp:PolOk d p)(hpf:ji p)(v0:Nat)(hv0:v0∈az d)
  (H:AHeap) (K:ARes->AHeap->Prop) (hK:K (.ret (.tup [aj (eK d (fixC p) v0),aa 0])) H):ag prog G0 81 [cW d,aj p,aa v0] H K:=by
 refine ag.clo ⟨_,func81,rfl,rfl⟩ fun hcl=>?_;have n8:=hok.n.n1;have hD:=hf.decs;obtain⟨v01,v02⟩:=eI.1 hv0;obtain⟨x,hx⟩:=get_of_lt v01;have hxc:=hok.n.card x (SE hx);obtain⟨nr,nc⟩:=kT hx (by omega);obtain⟨hrn,hxp,hin,ps⟩:=vQ hok hx;have hrc:=kU hok v01 v02;have hnr:1<=bT d v0/\bT d v0<=1024:=by unfold bT;omega
 refine ag.st (n:=74) (rs:=[.tmp 6,.tmp 7]) func81 ?_;simp only[go_sem,gI,bK];refine aw.clo (sS d hf p hpf _ _ ⟨trivial,?_⟩);rw[nW hok hp];have c1:¬(v0:Int)<0:=by omega
 have c2:¬(v0:Int) >= d.nodes.length:=by omega
 have s1:=fun t x y=>mb (P:=prog) (t:=t) (x:=x) (y:=y) (k':=.i64) (s:=v0) hD;have s2:=fun t x y=>oB (P:=prog) (t:=t) (x:=x) (y:=y) (s:=v0) hD;simp only[go_sem,c1,c2,s1,s2,v02];obtain⟨R,hR⟩:∃R,R=ext H [.arr 0 38 [.lit (.int .i64 d.grain),.vec d.nodes.length (aF d.nodes),.lit (.int .u64 (d.decs:Int)),.vec d.utils.length (aO d.utils)],.arr 0 33 [aj p],.arr 0 3 [.lit (.int .i64 v0)],
  .arr 0 178 [.lit (.int .i64 d.grain),.vec d.nodes.length (aF d.nodes),.lit (.int .u64 (d.decs:Int)),.vec d.utils.length (aO d.utils),.lit (.slice none 0 0),.lit (.slice none 0 0),.lit (.slice none 0 0),.lit (.int .i64 0)],.arr 0 134 [.ptr (H.next+3) 0 0]]:=⟨_,rfl⟩
 have nR:R.next=H.next+5:=hR▸rfl
 have oR:Over H R:=hR▸.ext _ _
 have g0:R.get H.next=some (eh d):=by rw[hR];exact bD H _ 0 (by simp)
 have g1:=gE hR 1 rfl
 have g2:=gE hR 2 rfl
 have g3:=gE hR 3 rfl
 have g4:=gE hR 4 rfl
 rw[<- hR];refine W.en (fun E=>E 3=.ptr H.next 0 0 /\ E 4=.ptr (H.next+1) 0 0 /\ E 5=.ptr (H.next+2) 0 0 /\ E 9=.ptr (H.next+4) 0 0) (by simp only[go_sem]) fun E ⟨e3,e4,e5,e9⟩=>?_
 have l0:=ah g0;have l1:=ah g1;have l2:=ah g2;have l3:=ah g3;have l4:=ah g4;unfold bK at l0;refine W.dr 10 [0,0,0,4,12,28,28,61,189,445] mixed ?_;simp only[go_sem,e3,e9,l0,l4];refine⟨.tup [af (fP d),af (dI d)],[],bf.pure fun H2=>DX d hok hD H2 _ ⟨rfl,rfl⟩,?_⟩;simp only[go_sem,e3,e9,l3];refine⟨fun x h=>by omega,?_⟩;obtain⟨R2,hR2⟩:∃R2,R2=(R.upd (H.next+3) (.arr 0 178 [.lit (.int .i64 d.grain),.vec d.nodes.length (aF d.nodes),.lit (.int .u64 (d.decs:Int)),.vec d.utils.length (aO d.utils),.lit (.slice none 0 0),.vec (fP d).length (ints (fP d)),.lit (.slice none 0 0),.lit (.int .i64 0)])).upd (H.next+3)
  (.arr 0 178 [.lit (.int .i64 d.grain),.vec d.nodes.length (aF d.nodes),.lit (.int .u64 (d.decs:Int)),.vec d.utils.length (aO d.utils),.lit (.slice none 0 0),.vec (fP d).length (ints (fP d)),.vec (dI d).length (ints (dI d)),.lit (.int .i64 0)]):=⟨_,rfl⟩
 rw[<- hR2];have nR2:R2.next=H.next+5:=by rw[hR2];exact nR
 have oR2:Over H R2:=by rw[hR2];exact(oR.upd (by omega) _).upd (by omega) _
 have k2:∀id,id≠H.next+3->R2.get id=R.get id:=fun id h=>by rw[hR2,ae,SI h,ae,SI h]
 have k3:R2.get (H.next+3)=some (.arr 0 178 (vO d)):=by rw[hR2,ae,SK rfl];rfl
 have m0:=ah ((k2 _ (by omega)).trans g0);have m2:=ah ((k2 _ (by omega)).trans g2);unfold bK at m0;simp only[go_sem,e5,m0,m2];refine aw.clo (qH d.nodes v0 x hx hin ps _ _ ⟨trivial,?_⟩);rw[<- hrn];simp only[go_sem];obtain⟨n,hn⟩:∃n,n=bB d.nodes x:=⟨_,rfl⟩
 obtain⟨cN,hcN⟩:∃c,c=bV d v0:=⟨_,rfl⟩
 rw[<- hn]at nr ⊢;rw[nr]at hnr;rw[<- hcN]at nc;refine⟨by omega,?_⟩;obtain⟨R3,hR3⟩:∃R3,R3=ext R2 [.arr 0 42 (List.replicate n (.lit (.slice none 0 0))),.arr 0 33 [.own R2.next 0 0 n 1]]:=⟨_,rfl⟩
 have nR3:R3.next=H.next+7:=by rw[hR3,aS,nR2];rfl
 have oR3:Over R2 R3:=hR3▸.ext _ _
 have k5:=df hR3
 have k6:=gE hR3 1 rfl
 rw[<- hR3];refine W.en (fun E1=>E1 3=.ptr H.next 0 0 /\ E1 4=.ptr (H.next+1) 0 0 /\ E1 5=.ptr (H.next+2) 0 0 /\ E1 9=.ptr (H.next+4) 0 0 /\ E1 10=.ptr (R2.next+1) 0 0 /\ E1 55=aa n /\ E1 56=aa 0) (by simp only[go_sem,e3,e4,e5,e9]) fun E1 ⟨f3,f4,f5,f9,f10,f55,f56⟩=>?_
 let cs:Nat->List AVal:=fun k=>(List.range k).map (fun j=>AVal.own (H.next+7+j) 0 0 cN 1)++List.replicate (n-k) (.lit (.slice none 0 0))
 have csl:∀k,k<=n->(cs k).length=n:=fun k hk=>by show (_++_:List AVal).length=n;simp;omega
 have cs_set:∀k,k<n->setAt (cs k) k [.own (H.next+7+k) 0 0 cN 1]=cs (k+1):=fun k hk=>by
  show setAt (_++List.replicate (n-k) _) k _=_++_;rw[show n-k=(n-(k+1))+1 by omega,TI,D7 (by simp),TZ,Tq,List.append_assoc];rfl
 have cs0:cs 0=List.replicate n (.lit (.slice none 0 0)):=by show _++_=_;simp
 refine W.aG 1180519563123373377536 (by rfl) (fun ρ H'=>∃k:Nat,ρ 56=aa k/\k<=n/\H'.next=H.next+7+k/\(∀id,id<H.next+7->id≠R2.next->H'.get id=R3.get id)/\H'.get R2.next=some (.arr 0 42 (cs k))/\∀j,j<k->H'.get (H.next+7+j)=some (.arr 0 3 (ints (List.replicate cN 0)))) (fun ρ H=>n-(iv (ρ 56)).toNat) ?_ ?_
 ·simp only[go_sem,f56];exact⟨0,rfl,by omega,by omega,by rw[cs0];exact k5,fun j hj=>absurd hj (S4 _)⟩
 rintro ρ H' ⟨k,h56,hk,hnx,hold,htop,hrows⟩;refine W.en (fun E2=>E2 3=.ptr H.next 0 0 /\ E2 4=.ptr (H.next+1) 0 0 /\ E2 5=.ptr (H.next+2) 0 0 /\ E2 9=.ptr (H.next+4) 0 0 /\ E2 10=.ptr (R2.next+1) 0 0 /\ E2 55=aa n /\ E2 56=aa k) (by simp only[go_sem,f3,f4,f5,f9,f10,f55,h56]) fun E2 ⟨p3,p4,p5,p9,p10,p55,p56⟩=>?_
 have q0:=(hold H.next (by omega) (by omega)).trans ((oR3.old _ (by omega)).trans ((k2 _ (by omega)).trans g0));have q1:=(hold (H.next+1) (by omega) (by omega)).trans ((oR3.old _ (by omega)).trans ((k2 _ (by omega)).trans g1));have q2:=(hold (H.next+2) (by omega) (by omega)).trans ((oR3.old _ (by omega)).trans ((k2 _ (by omega)).trans g2));have q3:=(hold (H.next+3) (by omega) (by omega)).trans ((oR3.old _ (by omega)).trans k3);have q4:=(hold (H.next+4) (by omega) (by omega)).trans ((oR3.old _ (by omega)).trans ((k2 _ (by omega)).trans g4));have q6:=(hold (R2.next+1) (by omega) (by omega)).trans k6;refine W.vs ?_;by_cases hb:(k:Int)<n
 ·have ec:=iJ hx;rw[<- nc]at ec;have hne:=dJ hx;have hvn:(v0:Int)<d.nodes.length:=by omega
  have w1:=SF ((k:Int)+1) (by omega);have i0:=ah q0;have i2:=ah q2;have i6:=ah q6;have it:=ah htop;unfold bK at i0;have hcb:(cN:Int)*8<=2 ^ 46/\(cN:Int)<=2 ^ 46:=by omega
  have hrep:List.replicate cN (AVal.lit (.int .i64 0))=ints (List.replicate cN 0):=by simp[ints,aa]
  have hset:=cs_set k (by omega);rw[<- hnx]at hset;have hcl:=csl k (by omega);have i0e:∀L,(ext H' L).live H.next 0=_:=fun L=>(dh (by omega)).trans i0;have ite:∀L,(ext H' L).live R2.next 0=_:=fun L=>(dh (by omega)).trans it;simp only[go_sem,p55,p56,hb];refine W.dr 9 [0,0,0,4,0,28,60,124,252] mixed ?_;simp only[go_sem,p3,p5,p10,p56,hb,i0,i2,i6,ite,ec,hne,hvn,hcb,hrep,hset,w1];refine⟨fun x h=>by omega,by omega,by rw[au,aS];omega,⟨k+1,by simp,by omega,by rw[au,aS,hnx];rfl,fun id h1 h2=>by rw[ae,SI h2,bb (by omega)];exact hold id h1 h2,by rw[ae,SK rfl],fun j hj=>?_⟩,by rw[h56];simp only[aa,aM];omega⟩;rw[ae,SI (by omega)];by_cases hjk:j=k
  ·subst hjk;rw[<- hnx];exact bX
  ·rw[bb (by omega)];exact hrows j (by omega)
 ·have hkn:k=n:=by omega
  subst hkn;have i4:=ah q4;simp only[go_sem,p3,p4,p5,p9,p10,p55,p56,hb,i4];have csn:cs k=(List.range k).map (fun j=>AVal.own (H.next+7+j) 0 0 cN 1):=by show _++_=_;simp
  obtain⟨ids,hids⟩:∃ids,ids=(List.range k).map (fun j=>H.next+7+j):=⟨_,rfl⟩
  have hidm:∀i∈ids,H.next+7<=i/\i<H'.next:=fun i hi=>by
   rw[hids]at hi;obtain⟨j,hj,rfl⟩:=SY.1 hi;have:=Tn.1 hj;omega
  have hzip:List.zipWith (fun i n=>AVal.own i 0 0 n 1) ids (((fQ d (fixC p) v0 0).map ints).map List.length)=cs k:=by
   rw[csn,hids,DY,nr,<- hcN];apply Ti;intro j;rw[Vo,List.getElem?_map,List.getElem?_map,List.getElem?_map,List.getElem?_map,TH];by_cases hj:j<k
   ·rw[Tc hj,SK hj];simp[aH]
   ·rw[SQ (by rw[TK];omega)];rfl
  have hM:OwnM H.next H' 42 3 (.own R2.next 0 0 k 1) ids ((fQ d (fixC p) v0 0).map ints):=by
   refine⟨by rw[hids,SM,SM,TK,tp,nr],by rw[hids];exact(List.pairwise_map (f:=fun j=>H.next+7+j)).2 (List.Pairwise.imp (fun {a b} h e=>h (by omega)) Vh),fun i hi=>by have:=hidm i hi;omega,.inr ⟨R2.next,0,by omega,by omega,by rw[hzip,csl k (Nat.le_refl _)],by rw[hzip];exact htop⟩,fun j id r h1 h2=>?_⟩;rw[hids,List.getElem?_map]at h1;rw[DY,nr,<- hcN,List.getElem?_map,TH]at h2;by_cases hj:j<k
   ·rw[Tc hj]at h1;rw[SK hj]at h2;cases h1;cases h2;exact hrows j hj
   ·rw[SI hj]at h2;cases h2
  have hnotin:∀i,i<H.next+7->i ∉ ids:=fun i hi hm=>by have:=hidm i hm;omega
  have hE:ExH d p v0 H.next (H.next+2) (H.next+1) (R2.next+1) (H.next+4) (H.next+3) (.own R2.next 0 0 k 1) H':=⟨q0,q2,q1,q6,q4,q3⟩
  refine aw.clo (Rq d hok hf h6 p hp v0 hv0 H.next (H.next+2) (H.next+1) (R2.next+1) (H.next+4) (H.next+3) H.next (.own R2.next 0 0 k 1) ids H' hE ⟨by omega,by omega,by omega,by omega,by omega,by omega⟩ ⟨hnotin _ (by omega),hnotin _ (by omega),hnotin _ (by omega),hnotin _ (by omega),hnotin _ (by omega),hnotin _ (by omega)⟩ hM _ fun H4 h4n h4o h4M=>⟨trivial,?_⟩);have j6:=ah ((h4o (R2.next+1) (by omega) (hnotin _ (by omega))).trans q6);simp only[go_sem,p10,j6];rw[Rr]at h4M;refine ar.aV aE hcl ⟨by omega,fun id hi=>?_⟩ ?_ hK
  ·rw[h4o id (by omega) (hnotin _ (by omega)),hold id (by omega) (by omega),oR3.old _ (by omega),oR2.old _ hi]
  ·have:=h4M.fz (S:=fun id=>H.next<=id) (nx:=H.next) (fun i hi=>hi) fun r hr c hc=>by
    obtain⟨l,_,rfl⟩:=SY.1 hr;obtain⟨z,_,rfl⟩:=SY.1 hc;exact .lit _
   rw[UW,SM]at this;refine .tup rfl fun i hi _=>match i,hi with
    |0,_=>?_
    |1,_=>.lit _
   have e:(List.map ((fun r=>AVal.vec r.length r) ∘ ints) (eK d (fixC p) v0))=(eK d (fixC p) v0).map af:=Th fun l _=>by show AVal.vec (ints l).length (ints l)=_;rw[aH];rfl
   rw[e]at this;exact this
def gK (d:InfP)(c:Nat->Nat->Int)(v0 X k r y:Nat):Int:=if y<X then eJ d c v0 r (y:Int) else if y=X then fE d c v0 r (y:Int) k else 0
def gV (d:InfP)(c:Nat->Nat->Int)(v0 X k r:Nat):List Int:=(List.range (bV d v0)).map (gK d c v0 X k r)
def iy (d:InfP)(c:Nat->Nat->Int)(v0 X k:Nat):List (List Int):=(List.range (bT d v0)).map (gV d c v0 X k)
theorem qQ (d:InfP)(c:Nat->Nat->Int)(v0 X k r:Nat):(gV d c v0 X k r).length=bV d v0:=by simp[gV]
theorem tz (d:InfP)(c:Nat->Nat->Int)(v0 X k:Nat):(iy d c v0 X k).length=bT d v0:=by simp[iy]
theorem zD {d:InfP}{c:Nat->Nat->Int}{v0 X k r:Nat}(h:r<bT d v0):(iy d c v0 X k)[r]?=some (gV d c v0 X k r):=by unfold iy;rw[List.getElem?_map,Tc h];rfl
theorem zE {d:InfP}{c:Nat->Nat->Int}{v0 X k r y:Nat}(h:y<bV d v0):(gV d c v0 X k r)[y]?=some (gK d c v0 X k r y):=by unfold gV;rw[List.getElem?_map,Tc h];rfl
theorem So (d:InfP)(c:Nat->Nat->Int)(v0:Nat):iy d c v0 0 0=List.replicate (bT d v0) (List.replicate (bV d v0) 0):=by
 have e:∀r y,gK d c v0 0 0 r y=0:=fun r y=>by
  unfold gK fE;rw[SI (S4 _),sD];split<;>rfl
 unfold iy gV;have e1:∀r,(List.range (bV d v0)).map (gK d c v0 0 0 r)=List.replicate (bV d v0) 0:=fun r=>by
  rw[Th (g:=fun _=>(0:Int)) fun y _=>e r y,UA,TK]
 rw[Th (g:=fun _=>List.replicate (bV d v0) (0:Int)) fun r _=>e1 r,UA,TK]
theorem Sp (d:InfP)(c:Nat->Nat->Int)(v0 X:Nat):iy d c v0 X (bh d.nodes)=iy d c v0 (X+1) 0:=by
 unfold iy gV;refine Th fun r _=>Th fun y _=>?_;unfold gK;by_cases h:y<X
 ·rw[SK h,SK (by omega)]
 ·rw[SI h];by_cases h2:y=X
  ·subst h2;rw[SK rfl,SK (by omega)];exact DZ ..
  ·rw[SI h2,SI (by omega)];by_cases h3:y=X+1
   ·rw[SK h3];rfl
   ·rw[SI h3]
theorem Sq (d:InfP)(c:Nat->Nat->Int)(v0:Nat):iy d c v0 (bV d v0) 0=eK d c v0:=by
 unfold iy gV eK il;refine Th fun r _=>Th fun y hy=>?_;unfold gK;rw[SK (Tn.1 hy)]
def jl (d:InfP)(p:List (List Int))(v0 X:Nat):List (List Int):=p.set (aU d.decs v0) (List.replicate (bT d v0) (X:Int))
theorem En {d:InfP}(hok:InfOk d){p:List (List Int)}(hp:PolOk d p){v0 X:Nat}(hv:v0∈az d)(hX:X<bV d v0):PolOk d (jl d p v0 X):=by
 obtain⟨v1,v2⟩:=eI.1 hv;obtain⟨x,hx⟩:=get_of_lt v1;have hc:=hok.n.card x (SE hx);obtain⟨n1,n2⟩:=kT hx (by omega);refine Co hp hx v2 (by rw[S6,n1]) fun a ha=>?_;have:=Tr ha;omega
theorem Sr {d:InfP}(hok:InfOk d){p:List (List Int)}(hp:PolOk d p){v0 X:Nat}(hv:v0∈az d){vals:List Int}(hf:bH (ak d.nodes) vals):
  iO d (fixC (jl d p v0 X)) vals=true↔fM d (fixC p) v0 vals=true/\vals.getD v0 0=(X:Int):=by
 obtain⟨v1,v2⟩:=eI.1 hv;obtain⟨x,hx⟩:=get_of_lt v1;have hc:=hok.n.card x (SE hx);obtain⟨n1,_⟩:=kT hx (by omega);have hr:=(mB hok hx hf).2;have hpl:=nU hp hv;have e1:fixC (jl d p v0 X) (aU d.decs v0) (dk d.nodes v0 vals)=(X:Int):=by
  unfold jl;rw[uQ hpl,SK rfl,S2,TH,SK (by omega)];rfl
 have e2:fM d (fixC (jl d p v0 X)) v0 vals=fM d (fixC p) v0 vals:=by
  unfold fM;have hk:∀v∈az d,(decide (v=v0) ||jJ d (fixC (jl d p v0 X)) vals v)=(decide (v=v0) ||jJ d (fixC p) vals v):=fun v hvm=>by
   by_cases hvv:v=v0
   ·simp[hvv]
   ·unfold jJ jl;rw[uQ hpl,SI fun e=>hvv (Cn hvm hv e)]
  rw[UR,Td,Td];exact⟨fun h1 v hv=>by rw[<- hk v hv];exact h1 v hv,fun h1 v hv=>by rw[hk v hv];exact h1 v hv⟩
 rw[yc hv,e2,e1];exact⟨fun ⟨a,b⟩=>⟨a,b.symm⟩,fun ⟨a,b⟩=>⟨a,b.symm⟩⟩
theorem Ss {d:InfP}(hok:InfOk d){p:List (List Int)}(hp:PolOk d p){v0 X k r:Nat}(hv:v0∈az d)(hX:X<bV d v0)(hr:dk d.nodes v0 (wv d k)=r)(hrn:r<bT d v0):
  iy d (fixC p) v0 X (k+1)=(iy d (fixC p) v0 X k).set r ((gV d (fixC p) v0 X k r).set X (gK d (fixC p) v0 X k r X+bt d.nodes d.utils (wv d k)*weight (bG d (fixC (jl d p v0 X))) (wv d k))):=by
 have hf:=mC hok k;have hg:bt d.nodes d.utils (wv d k)*weight (bG d (fixC (jl d p v0 X))) (wv d k)=if fM d (fixC p) v0 (wv d k)=true/\dk d.nodes v0 (wv d k)=r/\(wv d k).getD v0 0=(X:Int) then fL d (wv d k) else 0:=by
  rw[Ck hok (po (En hok hp hv hX)) hf];have:=Sr hok hp (X:=X) hv hf;by_cases h:iO d (fixC (jl d p v0 X)) (wv d k)=true
  ·obtain⟨a,b⟩:=this.1 h;rw[SK h,SK ⟨a,hr,b⟩,Uf];rfl
  ·rw[SI h,SI fun ⟨a,_,b⟩=>h (this.2 ⟨a,b⟩),VD]
 rw[hg];have hst:∀i y,gK d (fixC p) v0 X (k+1) i y=gK d (fixC p) v0 X k i y+if y=X/\i=r then (if fM d (fixC p) v0 (wv d k)=true/\dk d.nodes v0 (wv d k)=r/\(wv d k).getD v0 0=(X:Int) then fL d (wv d k) else 0) else 0:=fun i y=>by
  unfold gK;by_cases h:y<X
  ·rw[SK h,SK h,SI (by omega),Ug]
  ·rw[SI h,SI h];by_cases h2:y=X
   ·subst h2;rw[SK rfl,SK rfl];unfold fE;rw[gS];by_cases h3:i=r
    ·subst h3;rw[SK (show y=y/\i=i from ⟨rfl,rfl⟩)]
    ·rw[SI fun e=>h3 (by rw[<- hr];exact e.2.1.symm),SI fun e=>h3 e.2]
   ·rw[SI h2,SI h2,SI fun e=>h2 e.1,Ug]
 apply Ti;intro i;rw[TM,tz];by_cases hi:i<bT d v0
 ·rw[zD hi,zD hi];by_cases hri:r=i
  ·subst hri;rw[SK rfl,SK hi];congr 1;apply Ti;intro j;rw[TM,qQ];by_cases hj:j<bV d v0
   ·rw[zE hj,zE hj,hst];by_cases hxj:X=j
    ·subst hxj;rw[SK rfl,SK hj,SK ⟨rfl,rfl⟩]
    ·rw[SI hxj,SI fun e=>hxj e.1.symm,Ug]
   ·rw[SQ (by rw[qQ];omega),SQ (by rw[qQ];omega),SI (by omega)]
    try (split<;>rfl)
  ·rw[SI hri];congr 1;unfold gV;refine Th fun j _=>?_;rw[hst,SI fun e=>hri e.2.symm,Ug]
 ·rw[SQ (by rw[tz];omega),SQ (by rw[tz];omega),SI (by omega)]
  try (split<;>rfl)
theorem Su {d:InfP}(hok:InfOk d)(h6:d.nodes.length<=6)(c:Nat->Nat->Int)(v0 X k r y:Nat)(hk:k<=bh d.nodes):-20000000000000000<=gK d c v0 X k r y/\gK d c v0 X k r y<=20000000000000000:=by
 have hw:=za hok;have h1:=yZ hok h6 c v0 r (y:Int) k;have h2:=yZ hok h6 c v0 r (y:Int) (bh d.nodes);rw[DZ]at h2;unfold gK;split
 ·omega
 ·split<;>omega
theorem RK {d:InfP}(hn:RightN d)(hsz:ao (ak d.nodes)<=1024):dC d=bG d fun _ _=>0:=by
 apply Ti;intro v;rcases S9 v d.nodes.length with hv|hv
 ·obtain⟨x,hx⟩:=get_of_lt hv;rw[qp hx,eW hx];unfold jy;by_cases hb:d.decs.testBit v=true
  ·obtain⟨x1,x2⟩:=hn.dec v x hx hb;have hc:=hn.card x (SE hx);rw[SK ⟨hb,x1,hc.1,hc.2⟩,lg hx hb];have hle:=sE x2 hn.card;rw[CC (fun q hq=>by have:=x2.2 q hq;omega) hn.card (by omega),x1,List.nil_append];congr 2;unfold di bB;rw[UA,TK]
  ·rw[SI fun h=>hb h.1,kh hb]
 ·rw[SQ (by rw[j9];exact hv),SQ (by rw[dB];exact hv)]
theorem zn (d:InfP)(v:Nat)(x:NodeP):(jy d v x).card=x.card/\(jy d v x).parents=x.parents:=by
 unfold jy;split<;>exact⟨rfl,rfl⟩
theorem zp (d:InfP):ak (dC d)=ak d.nodes:=by
 apply Ti;intro v;unfold ak;rw[List.getElem?_map,List.getElem?_map];rcases S9 v d.nodes.length with hv|hv
 ·obtain⟨x,hx⟩:=get_of_lt hv;rw[qp hx,hx];simp[(zn d v x).1]
 ·rw[SQ (by rw[j9];exact hv),SQ hv]
structure RightA (d:InfP):Prop where
 n1:1<=d.nodes.length/\d.nodes.length<=8
 decs:d.decs >>> d.nodes.length=0
 ul:d.utils.length<=4
def D9 (d:InfP)(k:Nat):Prop:=∀v x,v<k->d.nodes[v]?=some x->d.decs.testBit v=true->x.rows=[]
theorem tw {d:InfP}:InfOk d↔RightA d/\D9 d d.nodes.length/\NetOk d.grain (dC d)/\∀u∈d.utils,UtilOk d.nodes u:=by
 constructor
 ·intro h;refine⟨⟨h.n.n1,h.n.decs,h.utils.1⟩,fun v x _ hx hb=>(h.n.dec v x hx hb).1,?_,h.utils.2⟩;rw[yi h];exact h.net
 ·rintro⟨ha,hd,hn,hu⟩;have hg:∀x∈d.nodes,(1<=x.card/\x.card<=4)/\bO x.parents d.nodes.length:=fun x hx=>by
   obtain⟨v,hv⟩:=SW.1 hx;have h1:=hn.node _ (SE (qp hv));rw[(zn d v x).1,(zn d v x).2,j9]at h1;exact h1
  have hR:RightN d:=⟨ha.n1,ha.decs,fun x hx=>(hg x hx).1,fun v x hx hb=>⟨hd v x (get_lt hx) hx hb,(hg x (SE hx)).2⟩⟩
  have hs:=hn.size;rw[zp]at hs;exact⟨hR,by rw[<- RK hR hs];exact hn,ha.ul,hu⟩
theorem RL {d:InfP}(hf:InfFit d){v:Nat}{x:NodeP}(hx:x∈d.nodes):((jy d v x).parents.length:Int)<2 ^ 38/\((jy d v x).rows.length:Int)<2 ^ 38/\∀r∈(jy d v x).rows,(r.length:Int)<2 ^ 38:=by
 obtain⟨h1,h2,h3⟩:=hf.nodes.2 x hx;unfold jy;split
 ·rename_i hc;have hr:=yh d.nodes x.parents;refine⟨h1,by simp;omega,fun r hr=>?_⟩;rw[Tr hr,sQ];omega
 ·exact⟨h1,h2,h3⟩
theorem RM {d:InfP}(hf:InfFit d):qI (dC d):=by
 refine⟨by rw[j9];exact hf.nodes.1,fun y hy=>?_⟩;obtain⟨v,hv⟩:=SW.1 hy;have hl:=get_lt hv;rw[j9]at hl;obtain⟨x,hx⟩:=get_of_lt hl;rw[qp hx]at hv;cases hv;exact RL hf (SE hx)
theorem RN (ns:List NodeP)(h8:ns.length <= 8)(hc:∀y ∈ ns,1 <= y.card /\ y.card <= 4)(u:UtilP)(f1:(u.vars.length:Int) < 2 ^ 38)(f2:(u.w.length:Int) < 2 ^ 38)(H:AHeap)(K:ARes -> AHeap -> Prop)(hK:K (.ret (.lit (.bool (kZ (UtilOk ns u))))) H):
    ag prog G0 44 [.agg u.cells,af (ak ns)] H K := by
  refine ag.clo ⟨_,func44,rfl,rfl⟩ fun hcl => ?_;have hcl':(ak ns).length=ns.length := by simp[ak]
  refine ag.sw (n := 44) (rs := [.tmp 4]) func44 ?_;refine W.sq ?_;simp only[go_sem,UtilP.cells,bd];obtain⟨R,hR⟩:∃R,R=ext H [.arr 0 90 [.vec u.vars.length (ints u.vars),.vec u.w.length (ints u.w)]] := ⟨_,rfl⟩
  have oR:Over H R:=hR▸.ext _ _
  have l0:R.live H.next 0=some (90,[.vec u.vars.length (ints u.vars),.vec u.w.length (ints u.w)]) := by rw[hR];exact ah (cq ..)
  rw[<- hR];have no:¬UtilOk ns u -> ar prog G0 H K (.lit (.bool false)) R := fun h => ar.aV aE hcl oR (.lit _) (by rw[eV h]at hK;exact hK);refine W.env fun E hE => ?_;have e1:E 1=af (ak ns) := by rw[hE];simp only[go_sem,bd]
  have e2:E 2 = .ptr H.next 0 0 := by rw[hE];simp only[go_sem,bd]
  clear hE;obtain⟨b,hb⟩:∃b:Bool,(b=true ↔ ¬(bO u.vars ns.length /\ (u.w.length:Int)=ao (aI (ak ns) u.vars))) := by
    classical exact⟨decide _,decide_eq_true_iff⟩
  refine W.seq (W.ik (fun s' => s'.H=R /\ s'.ρ 2 = .ptr H.next 0 0 /\ s'.ρ 22 = .lit (.bool b)) ?_ ?_)
  · refine W.dr 15 [0,1,0,4,15,31,63,127,255,511,127,127,2175,7295,15487] mixed ?_;simp only[go_sem,e1,e2,l0,hcl',bd];refine⟨_,[],bf.pure fun H2 => Dx u.vars ns.length (by omega) H2 _ ⟨rfl,rfl⟩,?_⟩;by_cases c1:bO u.vars ns.length
    · have sm := pq h8 c1 hc;have wl := SF (u.w.length:Int) (by omega);simp only[go_sem,e1,e2,c1,l0,bd];refine⟨_,[],bf.pure fun H2 => qG (ak ns) u.vars (by omega) (by omega) (fun q hq => by have := c1.2 q hq;omega) H2 _ ⟨rfl,rfl⟩,?_⟩;simp only[go_sem,bd];refine⟨_,[],bf.pure fun H2 => vA _ sm H2 _ ⟨rfl,rfl⟩,?_⟩;by_cases c2:(u.w.length:Int)=ao (aI (ak ns) u.vars)
      · have:b=false :=(by rw[<- UO,hb];exact fun h => h ⟨c1,c2⟩);simp only[go_sem,c2,bd];exact⟨e2,by rw[this]⟩
      · have:b=true := hb.2 fun h => c2 h.2;simp only[go_sem,c2,bd];exact⟨e2,by rw[this]⟩
    · have:b=true := hb.2 fun h => c1 h.1;simp only[go_sem,e1,e2,c1,l0,bd];rw[this]
  rintro⟨ρ3,H3⟩ ⟨hH,m2,m22⟩;simp only at hH m2 m22;rw[hH];clear hH H3;refine W.vs ?_;cases hbb:b;rotate_left
  · simp only[go_sem,m22,hbb,bd];exact no fun h => hb.1 hbb ⟨h.vars,h.size⟩
  have h12:bO u.vars ns.length /\ (u.w.length:Int)=ao (aI (ak ns) u.vars) := by
    apply Ty;intro h;rw[hb.2 h]at hbb;cases hbb
  simp only[go_sem,m22,hbb,bd];refine W.seq ?_;refine W.sq ?_;simp only[go_sem,bd];refine W.block ?_;refine W.env fun E1 hE1 => ?_;have g2:E1 2 = .ptr H.next 0 0 := by rw[hE1];simp only[go_sem,m2,bd]
  have g5:E1 5=aa 0 := by rw[hE1];simp only[go_sem,bd]
  clear hE1;refine W.aG 17592177655856 (by rfl) (fun ρ Hx => Hx=R /\ ∃k:Nat,ρ 5=aa k /\ k <= u.w.length /\ ∀x ∈ u.w.take k,-100 <= x /\ x <= 100) (fun ρ H => u.w.length-(iv (ρ 5)).toNat) ?_ ?_
  · simp only[go_sem,g5,bd];exact⟨0,rfl,by omega,by simp⟩
  rintro ρ Hx ⟨rfl,k,h5,hk,hall⟩;refine W.env fun E2 hE2 => ?_;have a2:E2 2 = .ptr H.next 0 0 := by rw[hE2];simp only[go_sem,g2,bd]
  have a5:E2 5=aa k := by rw[hE2];simp only[go_sem,h5,bd]
  clear hE2;refine W.vs ?_;by_cases hbk:(k:Int) < u.w.length;rotate_left
  · simp only[go_sem,a2,a5,l0,hbk,bd];refine W.vs ?_;simp only[go_sem,bd];rw[SH (by omega)]at hall;rw[dU (⟨h12.1,h12.2,hall⟩:UtilOk ns u)]at hK;exact ar.aV aE hcl oR (.lit _) hK
  obtain⟨x,hx⟩ := get_of_lt (l := u.w) (i := k) (by omega);have hne := aJ hx;have w1 := SF ((k:Int) + 1) (by omega);by_cases c1:x < -100
  · simp only[go_sem,a2,a5,l0,hbk,hx,hne,c1,bd];exact no fun h => by have := h.w x (SE hx);omega
  by_cases c2:100 < x
  · simp only[go_sem,a2,a5,l0,hbk,hx,hne,c1,c2,bd];exact no fun h => by have := h.w x (SE hx);omega
  simp only[go_sem,a2,a5,l0,hbk,hx,hne,c1,c2,w1,bd];refine⟨⟨k + 1,rfl,by omega,fun y hy => ?_⟩,by rw[h5];simp only[aa,aM];omega⟩;rw[aL hx]at hy;rcases S5.1 hy with h |h
  · exact hall y h
  · obtain rfl := List.mem_singleton.1 h;omega
theorem Ea {d:InfP}{u:UtilP}:UtilOk (dC d) u↔UtilOk d.nodes u:=by
 constructor
 ·rintro⟨a,b,c⟩;rw[j9]at a;rw[zp]at b;exact⟨a,b,c⟩
 ·rintro⟨a,b,c⟩;exact⟨by rw[j9];exact a,by rw[zp];exact b,c⟩
theorem Eb (d:InfP)(cs:List AVal)(hq:NodesQ (fun v=>d.decs.testBit v=true) d.nodes cs)(hf:InfFit d)(H:AHeap)(K:ARes->AHeap->Prop)(hK:K (.ret (.lit (.bool (kZ (InfOk d))))) H):ag prog G0 12 [dw d cs] H K:=by
 refine ag.clo ⟨_,func12,rfl,rfl⟩ fun hcl=>?_;have hl:=hf.nodes.1;have hul:=hf.utils.1;refine ag.sw (n:=73) (rs:=[.tmp 2]) func12 ?_;refine W.sq ?_;simp only[go_sem,im,gG];obtain⟨R,hR⟩:∃R,R=ext H [.arr 0 38 [.lit (.int .i64 d.grain),.vec d.nodes.length cs,.lit (.int .u64 (d.decs:Int)),.vec d.utils.length (aO d.utils)]]:=⟨_,rfl⟩
 have oR:Over H R:=hR▸.ext _ _
 have nR:R.next=H.next+1:=hR▸rfl
 have l0:R.live H.next 0=some (38,[.lit (.int .i64 d.grain),.vec d.nodes.length cs,.lit (.int .u64 (d.decs:Int)),.vec d.utils.length (aO d.utils)]):=by rw[hR];exact ah (cq ..)
 rw[<- hR];clear hR;have no:¬InfOk d->∀H',Over R H'->ar prog G0 H K (.lit (.bool false)) H':=fun h H' o=>ar.aV aE hcl (oR.trans o) (.lit _) (by rw[eV h]at hK;exact hK);refine W.en (fun E=>E 1=.ptr H.next 0 0) (by simp only[go_sem]) fun E e1=>?_
 have s1:=fun t x y=>mb (P:=prog) (t:=t) (x:=x) (y:=y) (k':=.i64) (s:=d.nodes.length) hf.decs;refine W.seq (W.ik (fun s'=>s'.H=R/\s'.ρ 1=.ptr H.next 0 0/\∃b:Bool,s'.ρ 30=.lit (.bool b)/\(b=false↔RightA d)) ?_ ?_)
 ·refine W.vs ?_;by_cases c1:(d.nodes.length:Int)<1
  ·simp only[go_sem,e1,l0,c1];exact⟨_,rfl,by simp;intro h;have:=h.n1;omega⟩
  by_cases c2:(d.nodes.length:Int) > 8
  ·simp only[go_sem,e1,l0,c1,c2];exact⟨_,rfl,by simp;intro h;have:=h.n1;omega⟩
  by_cases c3:d.decs >>> d.nodes.length=0;rotate_left
  ·have c3':¬((d.decs >>> d.nodes.length:Nat):Int)=0:=(by omega);simp only[go_sem,e1,l0,c1,c2,c3',s1];exact⟨_,rfl,by simp;intro h;exact c3 h.decs⟩
  have c3':((d.decs >>> d.nodes.length:Nat):Int)=0:=by omega
  by_cases c4:(d.utils.length:Int) > 4
  ·simp only[go_sem,e1,l0,c1,c2,c3',c4,s1];exact⟨_,rfl,by simp;intro h;have:=h.ul;omega⟩
  ·simp only[go_sem,e1,l0,c1,c2,c3',c4,s1];exact⟨_,rfl,by simp;exact⟨by omega,c3,by omega⟩⟩
 rintro⟨ρ3,H3⟩ ⟨hH,m1,b,m30,hb⟩;simp only at hH m1 m30;rw[hH];clear hH H3;refine W.vs ?_;cases hbb:b;rotate_left
 ·simp only[go_sem,m30,hbb];exact no (fun h=>by rw[hb.2 (tw.1 h).1]at hbb;cases hbb) _ (.refl _)
 have hA:=hb.1 hbb;have n8:=hA.n1.2;simp only[go_sem,m30,hbb];refine W.en (fun E1=>E1 1=.ptr H.next 0 0) (by simp only[go_sem,m1]) fun E1 f1=>?_
 clear m30 hbb hb;refine W.seq ?_;refine W.sq ?_;simp only[go_sem];refine W.block ?_;refine W.env fun E2 hE2=>?_;have g1:E2 1=.ptr H.next 0 0:=by rw[hE2];simp only[go_sem,f1]
 have g3:E2 3=aa 0:=by rw[hE2];simp only[go_sem]
 clear hE2;refine W.aG 4503597479886860 (by rfl) (fun ρ Hx=>Hx=R/\∃k:Nat,ρ 3=aa k/\k<=d.nodes.length/\D9 d k) (fun ρ H=>d.nodes.length-(iv (ρ 3)).toNat) ?_ ?_
 ·simp only[go_sem,g3];exact⟨0,rfl,by omega,fun v x h=>absurd h (S4 _)⟩
 rintro ρ Hx ⟨rfl,k,h3,hk,hD⟩;refine W.en (fun E2=>E2 1=.ptr H.next 0 0 /\ E2 3=aa k) (by simp only[go_sem,g1,h3]) fun E2 ⟨a1,a3⟩=>?_
 refine W.vs ?_;by_cases hbk:(k:Int)<d.nodes.length
 ·obtain⟨x,hx⟩:=get_of_lt (l:=d.nodes) (i:=k) (by omega);have hne:=hq.ne hx;obtain⟨rv,q0,q1,q2,hdis,_⟩:=hq.node k x hx;have rvl:∀H,dY H rv=some (.lit (.int .i64 x.rows.length)):=fun H=>by
   rcases hdis with h|h<;>rw[h]
   ·rfl
   ·unfold bq;split
    ·rename_i h;rw[h];rfl
    ·rfl
  have w1:=SF ((k:Int)+1) (by omega);simp only[go_sem,a1,a3,l0,hbk];refine aw.clo (ve d.decs k hf.decs _ _ ⟨trivial,?_⟩);cases hbit:d.decs.testBit k
  ·simp only[go_sem,a3,w1];refine⟨⟨k+1,rfl,by omega,fun v y hv hy hb=>?_⟩,by rw[h3];simp only[aa,aM];omega⟩;rcases S9 v k with h|h
   ·exact hD v y h hy hb
   ·obtain rfl:v=k:=(by omega);rw[hbit]at hb;cases hb
  ·by_cases hr0:x.rows=[]
   ·have hr0':(x.rows.length:Int)=0:=(by rw[hr0];rfl);simp only[go_sem,a1,a3,l0,w1,hbk,hne,q2,rvl,hr0'];refine⟨⟨k+1,rfl,by omega,fun v y hv hy hb=>?_⟩,by rw[h3];simp only[aa,aM];omega⟩;rcases S9 v k with h|h
    ·exact hD v y h hy hb
    ·obtain rfl:v=k:=(by omega);rw[hx]at hy;cases hy;exact hr0
   ·have hr1:(0:Int)<x.rows.length:=(by have:=T1.2 hr0;omega);have hr1':0<x.rows.length:=T1.2 hr0;simp only[go_sem,a1,a3,l0,hbk,hne,q2,rvl,hr1];exact no (fun h=>hr0 ((tw.1 h).2.1 k x (by omega) hx hbit)) _ (.refl _)
 have hke:k=d.nodes.length:=by omega
 rw[hke]at hD;simp only[go_sem,a1,a3,l0,hbk];refine W.sq ?_;simp only[go_sem,a1,l0];refine aw.clo (CE d cs hq hf _ _ ⟨trivial,?_⟩);simp only[go_sem,bL,cE];obtain⟨R2,hR2⟩:∃R2,R2=ext Hx [.arr 0 81 [.lit (.int .i64 d.grain),.vec (dC d).length (aF (dC d))]]:=⟨_,rfl⟩
 have o2:Over Hx R2:=hR2▸.ext _ _
 have n2:R2.next=H.next+2:=by rw[hR2,aS];simp;omega
 have l2:R2.live (H.next+1) 0=some (81,[.lit (.int .i64 d.grain),.vec (dC d).length (aF (dC d))]):=by rw[hR2,<- nR];exact ah bX
 have k0:R2.live H.next 0=_:=(o2.live (by omega)).trans l0;rw[<- hR2];clear hR2;refine W.en (fun E3=>E3 1=.ptr H.next 0 0 /\ E3 4=.ptr (H.next+1) 0 0) (by simp only[go_sem,a1,nR]) fun E3 ⟨b1,b4⟩=>?_
 refine W.seq (W.seq (tS _ _ _ (by rfl) ?_));simp only[go_sem,b4,l2];refine aw.clo (QJ d.grain (dC d) (RM hf) _ _ ⟨trivial,?_⟩);by_cases hnet:NetOk d.grain (dC d);rotate_left
 ·have hnb:=vD hnet;simp only[go_sem,hnb];refine W.vs ?_;simp only[go_sem];exact no (fun h=>hnet (tw.1 h).2.2.1) _ o2
 have hnb:=vC hnet;simp only[go_sem,hnb];refine W.vs ?_;simp only[go_sem];refine W.en (fun E4=>E4 1=.ptr H.next 0 0 /\ E4 4=.ptr (H.next+1) 0 0) (by simp only[go_sem,b1,b4]) fun E4 ⟨c1,c4⟩=>?_
 have hc4:∀y∈dC d,1<=y.card/\y.card<=4:=fun y hy=>(hnet.node y hy).1;have h8:(dC d).length<=8:=hnet.n1.2;refine W.seq ?_;refine W.sq ?_;simp only[go_sem];refine W.block ?_;refine W.env fun E5 hE5=>?_;have d1:E5 1=.ptr H.next 0 0:=by rw[hE5];simp only[go_sem,c1]
 have d4:E5 4=.ptr (H.next+1) 0 0:=by rw[hE5];simp only[go_sem,c4]
 have d5:E5 5=aa 0:=by rw[hE5];simp only[go_sem]
 clear hE5;refine W.aG 9444588850551214571556 (by rfl) (fun ρ Hy=>Hy=R2/\∃j:Nat,ρ 5=aa j/\j<=d.utils.length/\∀u∈d.utils.take j,UtilOk d.nodes u) (fun ρ H=>d.utils.length-(iv (ρ 5)).toNat) ?_ ?_
 ·simp only[go_sem,d5];exact⟨0,rfl,by omega,by simp⟩
 rintro ρ2 Hy ⟨rfl,j,h5,hj,hall⟩;refine W.en (fun E6=>E6 1=.ptr H.next 0 0 /\ E6 4=.ptr (H.next+1) 0 0 /\ E6 5=aa j) (by simp only[go_sem,d1,d4,h5]) fun E6 ⟨q1,q4,q5⟩=>?_
 by_cases hbj:(j:Int)<d.utils.length;rotate_left
 ·refine W.vs ?_;simp only[go_sem,q1,q5,k0,hbj];refine W.vs ?_;simp only[go_sem];rw[SH (by omega)]at hall;rw[dU (tw.2 ⟨hA,hD,hnet,hall⟩)]at hK;exact ar.aV aE hcl (oR.trans o2) (.lit _) hK
 obtain⟨u,hu⟩:=get_of_lt (l:=d.utils) (i:=j) (by omega);obtain⟨f1',f2'⟩:=hf.utils.2 u (SE hu);have hne:=qg hu;have p0:=sr hu;have p1:j*2+2<=(aO d.utils).length:=by rw[kK];omega
 have w1:=SF ((j:Int)+1) (by omega);refine W.sq ?_;simp only[go_sem,q1,q5,k0,hbj];refine W.seq (W.block (W.seq ?_));refine W.dr 7 [0,1,0,7,15,0,32] mixed ?_;simp only[go_sem,q1,q4,q5,k0,l2,hbj,hne,p0,p1];refine⟨_,[],bf.pure fun H2=>pt d.grain (dC d) (by omega) H2 _ ⟨rfl,rfl⟩,?_⟩;simp only[go_sem];refine aw.clo (RN (dC d) h8 hc4 u f1' f2' _ _ ⟨trivial,?_⟩);by_cases hu1:UtilOk (dC d) u
 ·have hub:=dU hu1;simp only[go_sem,hub];refine W.vs ?_;simp only[go_sem];refine W.vs ?_;simp only[go_sem,q5,w1];refine⟨⟨j+1,rfl,by omega,fun y hy=>?_⟩,by rw[h5];simp only[aa,aM];omega⟩;rw[aL hu]at hy;rcases S5.1 hy with h|h
  ·exact hall y h
  ·obtain rfl:=List.mem_singleton.1 h;exact Ea.1 hu1
 ·have hub:=eV hu1;simp only[go_sem,hub];refine W.vs ?_;simp only[go_sem];exact no (fun h=>hu1 (Ea.2 ((tw.1 h).2.2.2 u (SE hu)))) _ o2
def cM (l:List (Int × Int)):List Int:=(l.map fun p=>List.replicate p.1.toNat p.2).flatten
def cO (d:InfP):List Int:=cM (aT d)
def eH (d:InfP):Int:=ao (cO d)
theorem LP (n:Nat)(c:Int):ao (List.replicate n c)=c ^ n:=by
 induction n with
 |zero=>rw[List.replicate_zero,gm,VC]
 |succ n ih=>rw[TI,jf,ih,T4,Uf]
theorem xC (l:List (Int × Int))(p:Int × Int):cM (l++[p])=cM l++List.replicate p.1.toNat p.2:=by unfold cM;simp
theorem Bv (l r:List (Int × Int)):cM (l++r)=cM l++cM r:=by unfold cM;simp
theorem xD {l:List (Int × Int)}(h:∀p∈l,1<=p.2):∀c∈cM l,1<=c:=fun c hc=>by
 unfold cM at hc;obtain⟨r,hr,hc⟩:=Uh.1 hc;obtain⟨p,hp,rfl⟩:=SY.1 hr;rw[Tr hc];exact h p hp
theorem nE {d:InfP}{k v:Nat}(hv:(az d)[k]?=some v):(aT d)[k]?=some (dq d v):=by unfold aT;rw[List.getElem?_map,hv];rfl
theorem sd (d:InfP):(aT d).length=(az d).length:=by simp[aT]
theorem oQ {d:InfP}(h:InfOk d):∀p∈aT d,1<=p.1/\p.1<=1024/\1<=p.2/\p.2<=4:=fun p hp=>by
 unfold aT at hp;obtain⟨v,hv,rfl⟩:=SY.1 hp;obtain⟨v1,v2⟩:=eI.1 hv;exact kU h v1 v2
theorem LR {l r:List Int}(h:∀c∈r,1<=c)(hl:0<=ao l):ao l<=ao (l++r):=by
 rw[su];have h1:=eD h;have h2:ao l*1<=ao l*ao r:=Tb h1 hl;omega
noncomputable def iG (d:InfP):Int:=if kZ (InfOk d) then (if eH d<=4096 then 0 else 6) else 200
noncomputable def oT (d:InfP):Int:=if iG d=0 then eH d else 0
theorem LS (d:InfP)(hf:InfFit d)(H:AHeap)(K:ARes->AHeap->Prop)(hK:K (.ret (.tup [aa (oT d),aa (iG d)])) H):ag prog G0 22 [cW d] H K:=by
 refine ag.clo ⟨_,func22,rfl,rfl⟩ fun hcl=>?_;refine ag.st (n:=35) (rs:=[.cell 2 3,.cell 3 46]) func22 ?_;simp only[go_sem,gI,bK];obtain⟨H1,hH1⟩:∃H1,H1=ext H [.arr 0 38 (bK d),.arr 0 3 [.lit (.int .i64 0)],.arr 0 46 [.lit (.int .i64 0)]]:=⟨_,rfl⟩
 have g1:=df hH1
 have g2:=gE hH1 1 rfl
 have g3:=gE hH1 2 rfl
 have l1:=ah g1;have l2:=ah g2;have l3:=ah g3;have n1:H1.next=H.next+3:=hH1▸rfl
 have o1:Over H H1:=hH1▸.ext _ _
 unfold bK at hH1 l1;rw[<- hH1];refine aw.clo (Ds d hf _ _ ⟨trivial,?_⟩);by_cases hok:InfOk d;rotate_left
 ·rw[eV hok];have ee:iG d=200:=by unfold iG;rw[eV hok];rfl
  have ev:oT d=0:=by unfold oT;rw[ee];rfl
  rw[ee,ev]at hK;have l3u:∀b,(H1.upd (H.next+1) b).live (H.next+2) 0=_:=fun b=>(bQ (by omega)).trans l3;have l2u:∀c b',((H1.upd (H.next+1) (.arr 0 3 [c])).upd (H.next+2) b').live (H.next+1) 0=some (3,[c]):=fun c b'=>(bQ (by omega)).trans jj;simp only[go_sem,l2,l3u,l2u];refine ar.aV aE hcl ((o1.upd (by omega) _).upd (by omega) _) ?_ hK;exact .tup rfl fun i hi _=>match i,hi with
   |0,_=>.lit _
   |1,_=>.lit _
 rw[dU hok];have hR:=hok.n;have l1e:∀L,(ext H1 L).live H.next 0=_:=fun L=>(dh (by omega)).trans l1;simp only[go_sem,l1e];refine aw.clo (vo d _ _ ⟨trivial,?_⟩);simp only[go_sem];obtain⟨H2,hH2⟩:∃H2,H2=ext (ext H1 [.arr 0 3 [.lit (.int .i64 1)]]) [eh d]:=⟨_,rfl⟩
 rw[<- hH2];have o2:Over H1 H2:=by rw[hH2];exact(Over.ext _ _).trans (.ext _ _)
 have n2:H2.next=H.next+5:=by rw[hH2,aS,aS,n1];rfl
 have hbx:H2.get (H.next+4)=some (eh d):=by rw[hH2,show H.next+4=(ext H1 [.arr 0 3 [.lit (.int .i64 1)]]).next by rw[aS,n1];rfl];exact bX
 have g6:H2.get (H.next+3)=some (.arr 0 3 [.lit (.int .i64 1)]):=by rw[hH2,dv _ _ _ (by rw[aS,n1];simp),show H.next+3=H1.next by omega];exact bX
 have o02:=o1.trans o2;refine W.env fun E hE=>?_;have e1:E 1=.ptr H.next 0 0:=by rw[hE];simp only[go_sem]
 have e2:E 2=.ptr (H.next+1) 0 0:=by rw[hE];simp only[go_sem]
 have e3:E 3=.ptr (H.next+2) 0 0:=by rw[hE];simp only[go_sem]
 have e5:E 5=.ptr (H.next+3) 0 0:=by rw[hE,<- n1];simp only[go_sem]
 have eN:(ext H1 [.arr 0 3 [.lit (.int .i64 1)]]).next=H.next+4:=by rw[aS,n1];rfl
 have e14:E 14=.clo 104 [] [.ptr (H.next+4) 0 0]:=by rw[hE,<- eN];rfl
 clear hE;have hrng:=oQ hok;have hpos:∀k,∀c∈cM ((aT d).take k),1<=c:=fun k=>xD fun p hp=>(hrng p (S8 hp)).2.2.1
 let S:AHeap->Prop:=fun Hx=>H2.next<=Hx.next/\∀id,id<H2.next->id≠H.next+1->id≠H.next+2->id≠H.next+3->Hx.get id=H2.get id
 have ovS:∀ {Hx},S Hx->Over H Hx:=fun h=>⟨by have:=h.1;omega,fun id hi=>(h.2 id (by omega) (by omega) (by omega) (by omega)).trans (o02.old id hi)⟩
 have cnt1:eH d<=4096->iG d=0/\oT d=eH d:=fun h=>by
  have ee:iG d=0:=by unfold iG;rw[dU hok,SK h];rfl
  exact⟨ee,by unfold oT;rw[SK ee]⟩
 have cnt2:¬eH d<=4096->iG d=6/\oT d=0:=fun h=>by
  have ee:iG d=6:=by unfold iG;rw[dU hok,SI h];rfl
  exact⟨ee,by unfold oT;rw[ee];rfl⟩
 have hend:∀k,k<=(aT d).length->ao (cM ((aT d).take k))<=eH d:=fun k hk=>by
  unfold eH cO
  conv=>rhs;rw[<- Tl k (aT d),Bv]
  exact LR (xD fun p hp=>(hrng p (T3 hp)).2.2.1) (by have:=eD (hpos k);omega)
 refine W.mc (f:=104) (first:=[]) (cap:=[.ptr (H.next+4) 0 0]) (by show E 14=_;exact e14) (vm d (by have:=hf.nodes.1;omega) hf.decs (H.next+4))
  (fun k Hx=>S Hx/\Hx.get (H.next+1)=some (.arr 0 3 [.lit (.int .i64 0)])/\Hx.get (H.next+2)=some (.arr 0 46 [.lit (.int .i64 0)])/\Hx.get (H.next+3)=some (.arr 0 3 [.lit (.int .i64 (ao (cM ((aT d).take k))))])/\ao (cM ((aT d).take k))<=4096)
  (fun c Hx=>c=.ret/\S Hx/\Hx.get (H.next+1)=some (.arr 0 3 [.lit (.int .i64 0)])/\Hx.get (H.next+2)=some (.arr 0 46 [.lit (.int .i64 6)])/\¬eH d<=4096)
  (fun k Hx h=>by rw[h.1.2 _ (by omega) (by omega) (by omega) (by omega)];exact hbx)
  (fun k Hx b h=>⟨⟨h.1.1,fun id h1 h2 h3 h4=>by rw[ae,SI (by omega)];exact h.1.2 id h1 h2 h3 h4⟩,by rw[ae,SI (by omega)];exact h.2.1,by rw[ae,SI (by omega)];exact h.2.2.1,by rw[ae,SI (by omega)];exact h.2.2.2.1,h.2.2.2.2⟩)
  (fun c Hx b h=>⟨h.1,⟨h.2.1.1,fun id h1 h2 h3 h4=>by rw[ae,SI (by omega)];exact h.2.1.2 id h1 h2 h3 h4⟩,by rw[ae,SI (by omega)];exact h.2.2.1,by rw[ae,SI (by omega)];exact h.2.2.2.1,h.2.2.2.2⟩)
  (fun b=>⟨⟨by rw[aS];omega,fun id h1 h2 h3 h4=>bb h1⟩,by rw[bb (by omega),o2.old _ (by omega)];exact g2,by rw[bb (by omega),o2.old _ (by omega)];exact g3,by rw[bb (by omega)];exact g6,by simp[cM,ao]⟩)
  (by decide) mK (fun _ _ _=>trivial) (fun _ _ _=>trivial) (fun k y Hx B Bb hy hj hn hB hBb=>?_) (fun Hx hj hn=>?_) (fun Hx hs hn=>?_) (fun i Hx hs hn=>by cases hs.1)
 ·obtain⟨v,hv,rfl⟩:=lW hy;obtain⟨v1,v2,v3⟩:=eE hv;obtain⟨x,hx⟩:=get_of_lt (l:=d.nodes) (i:=v) v1;obtain⟨x1,x2⟩:=hR.dec v x hx v2;have hrk:=nE hv;have hrc:dq d v=((bB d.nodes x:Int),x.card):=by unfold dq;rw[hx]
  have hrr:=hrng _ (SE hrk);rw[hrc]at hrk hrr;dsimp only at hrr;refine W.vs ?_;simp only[go_sem,fV,bA,ir,Ts,TS,Tx,Tz,hB];obtain⟨H3,hH3⟩:∃H3,H3=Hx.upd H2.next Bb:=⟨_,rfl⟩
  rw[<- hH3];obtain⟨st,pd,n',en,ps',as',bo,hBe⟩:=hBb;have n3:H3.next=Hx.next:=by rw[hH3];rfl
  have o3:∀id,id≠H2.next->H3.get id=Hx.get id:=fun id h=>by rw[hH3,ae,SI h]
  have jB:H3.get H2.next=some Bb:=by rw[hH3,ae,SK rfl]
  have hS3:S H3:=⟨by rw[n3];exact hj.1.1,fun id h1 h2 h3 h4=>(o3 id (by omega)).trans (hj.1.2 id h1 h2 h3 h4)⟩
  have ps:=iQ hR.n1.2 x2 hR.card;have hin:eF x.parents d.nodes.length:=fun q hq=>by have:=x2.2 q hq;omega
  have hrn:((bB d.nodes x:Nat):Int)=ao (aP d.nodes x):=by have:=ps.prod;unfold bB;omega
  have hvn:(v:Int)<d.nodes.length:=by omega
  have hne:=dJ hx;have ec:=iJ hx;refine W.en (fun E1=>E1 1=.ptr H.next 0 0 /\ E1 2=.ptr (H.next+1) 0 0 /\ E1 3=.ptr (H.next+2) 0 0 /\ E1 5=.ptr (H.next+3) 0 0 /\ E1 7=aa v) (by simp only[go_sem,bA,e1,e2,e3,e5]) fun E1 ⟨m1,m2,m3,m5,m7⟩=>?_
  have j1:=ah ((hS3.2 _ (by omega) (by omega) (by omega) (by omega)).trans ((o2.old _ (by omega)).trans g1));unfold bK at j1;refine W.vs ?_;simp only[go_sem,m1,m7,j1];refine aw.clo (qH d.nodes v x hx hin ps _ _ ⟨⟨st,pd,n',en,ps',as',bo,by rw[jB,hBe]⟩,?_⟩);rw[<- hrn];simp only[go_sem];obtain⟨a0,ha0⟩:∃a0,a0=ao (cM ((aT d).take k)):=⟨_,rfl⟩
  have hp0:=eD (hpos k);have hstep:∀j:Nat,ao (cM ((aT d).take k)++List.replicate j x.card)=a0*x.card ^ j:=fun j=>by rw[su,LP,ha0]
  have hfull:ao (cM ((aT d).take (k+1)))=a0*x.card ^ bB d.nodes x:=by
   rw[aL hrk,xC];exact hstep _
  have hnext:=hend (k+1) (by have:=get_lt hrk;omega);rw[<- ha0]at hp0;refine W.aG 17177772032 (by rfl) (fun ρ2 H4=>∃j:Nat,ρ2 21=aa j/\j<=bB d.nodes x/\S H4/\H3.next<=H4.next/\H4.get H2.next=some Bb/\H4.get (H.next+1)=some (.arr 0 3 [.lit (.int .i64 0)])/\H4.get (H.next+2)=some (.arr 0 46 [.lit (.int .i64 0)])/\H4.get (H.next+3)=some (.arr 0 3 [.lit (.int .i64 (a0*x.card ^ j))])/\a0*x.card ^ j<=4096) (fun ρ2 H=>bB d.nodes x-(iv (ρ2 21)).toNat) ?_ ?_
  ·simp only[go_sem];exact⟨0,rfl,by omega,hS3,jB,(o3 _ (by omega)).trans hj.2.1,(o3 _ (by omega)).trans hj.2.2.1,by rw[VC,U5,ha0];exact(o3 _ (by omega)).trans hj.2.2.2.1,by rw[VC,U5,ha0];exact hj.2.2.2.2⟩
  rintro ρ2 H4 ⟨j,h21,hjr,hS4,h4n,h4B,h41,h42,h43,h44⟩;refine W.vs ?_;have hpj:1<=x.card ^ j:=Vt (by omega);have hmj:1<=a0*x.card ^ j:=by have:=TJ hp0 hpj (by omega) (by omega);omega
  by_cases hb2:(j:Int)<bB d.nodes x
  ·have w1:=SF ((j:Int)+1) (by omega);obtain⟨t,ht⟩:∃t,t=a0*x.card ^ j:=⟨_,rfl⟩
   rw[<- ht]at h43 h44 hmj;have hts:a0*x.card ^ (j+1)=t*x.card:=(by rw[T4,<- Vf,ht]);have tc:t*x.card<=4096*4:=TJ h44 hrr.2.2.2 (by omega) (by omega);have tc0:0<=t*x.card:=T8 (by omega) (by omega);have w2:=SF (t*x.card) (by omega);have i1:=ah ((hS4.2 _ (by omega) (by omega) (by omega) (by omega)).trans ((o2.old _ (by omega)).trans g1));unfold bK at i1;have i2:=ah h41;have i3:=ah h42;have i5:=ah h43;have hlow:a0*x.card ^ (j+1)<=eH d:=by
    refine VE ?_ hnext;rw[hfull];have hjj:j+1<=bB d.nodes x:=(by omega);obtain⟨r,hr⟩:∃r,bB d.nodes x=(j+1)+r:=⟨bB d.nodes x-(j+1),by omega⟩
    rw[hr,show a0*x.card ^ (j+1+r)=a0*x.card ^ (j+1)*x.card ^ r by rw[Int.pow_add _ (j+1) r,Vf]];have hpr:1<=x.card ^ r:=Vt (by omega);have h0:0<=a0*x.card ^ (j+1):=(by rw[hts];exact tc0);have:=Tb hpr h0;rw[U5]at this;exact this
   by_cases hbig:t*x.card > 4096
   ·have i2u:∀b,(H4.upd (H.next+3) b).live (H.next+1) 0=_:=fun b=>(bQ (by omega)).trans i2;have i3u:∀b b',((H4.upd (H.next+3) b).upd (H.next+1) b').live (H.next+2) 0=_:=fun b b'=>(bQ (by omega)).trans ((bQ (by omega)).trans i3);simp only[go_sem,h21,hb2];refine W.dr 7 [0,0,2,0,14,30,62] mixed ?_;simp only[go_sem,m1,m2,m3,m5,m7,i1,i5,hvn,hne,ec,w2,hbig,i2u,i3u,ep];refine⟨by simp only[ae];rw[SI (by omega),SI (by omega),SI (by omega)];exact h4B,by simp only[au];omega,⟨by simp only[au];exact hS4.1,fun id h1 h2 h3 h4=>by simp only[ae];rw[SI h3,SI h2,SI h4];exact hS4.2 id h1 h2 h3 h4⟩,by rw[ae,SI (by omega),ae,SK rfl],by rw[ae,SK rfl],?_⟩;rw[hts]at hlow;omega
   ·simp only[go_sem,h21,hb2];refine W.dr 7 [0,0,2,0,14,30,62] mixed ?_;simp only[go_sem,m1,m5,m7,i1,i5,h21,hvn,hne,ec,w1,w2,hbig];exact⟨by rw[au];exact h4n,⟨st,pd,n',en,ps',as',bo,by rw[ae,SI (by omega),h4B,hBe]⟩,⟨j+1,rfl,by omega,⟨by rw[au];exact hS4.1,fun id h1 h2 h3 h4=>by rw[ae,SI h4];exact hS4.2 id h1 h2 h3 h4⟩,by rw[au];exact h4n,by rw[ae,SI (by omega)];exact h4B,by rw[ae,SI (by omega)];exact h41,by rw[ae,SI (by omega)];exact h42,by rw[ae,SK rfl,hts],by rw[hts];omega⟩,by omega⟩
  ·have hje:j=bB d.nodes x:=(by omega);simp only[go_sem,h21,hb2,ep];rw[hfull,<- hje];exact⟨h4B,by omega,hS4,h41,h42,h43,h44⟩
 ·rw[kY,<- sd,SH (Nat.le_refl _)]at hj;obtain⟨hS,j2,j3,j5,hle⟩:=hj;obtain⟨ee,ev⟩:=cnt1 hle;rw[ee,ev]at hK;have i2:=ah j2;have i3:=ah j3;have i5:=ah j5;have i3u:∀b,(Hx.upd (H.next+1) b).live (H.next+2) 0=_:=fun b=>(bQ (by omega)).trans i3;have i2u:∀c b',((Hx.upd (H.next+1) (.arr 0 3 [c])).upd (H.next+2) b').live (H.next+1) 0=some (3,[c]):=fun c b'=>(bQ (by omega)).trans jj;simp only[go_sem,e2,e3,e5,i2,i5,i3u,i2u];refine ar.aV aE hcl (((ovS hS).upd (by omega) _).upd (by omega) _) ?_ hK;exact .tup rfl fun i hi _=>match i,hi with
   |0,_=>.lit _
   |1,_=>.lit _
 ·obtain⟨_,hS,j2,j3,hbig⟩:=hs;obtain⟨ee,ev⟩:=cnt2 hbig;rw[ee,ev]at hK;have i2:=ah j2;have i3:=ah j3;simp only[go_sem,e2,e3,i2,i3];refine ar.aV aE hcl (ovS hS) ?_ hK;exact .tup rfl fun i hi _=>match i,hi with
   |0,_=>.lit _
   |1,_=>.lit _
theorem Ec (d:InfP)(cs0:List AVal)(ns:List NodeP)(hnl:d.nodes.length=ns.length)(vals:List Int)(h8:ns.length<=8)(hc:∀y∈ns,1<=y.card/\y.card<=4)(hu:∀u∈d.utils,UtilOk ns u)(h4:d.utils.length<=4)(hf:bH (ak ns) vals)(H:AHeap)(K:ARes->AHeap->Prop)
  (hK:K (.ret (aa (bt ns d.utils vals))) H):ag prog G0 91 [dw d cs0,af (ak ns),af vals] H K:=by
 refine ag.clo ⟨_,func91,rfl,rfl⟩ fun hcl=>?_;have hfl:vals.length=ns.length:=by rw[hf.1,cC]
 have hcl':(ak ns).length=ns.length:=by simp[ak]
 refine ag.st (n:=38) (rs:=[.tmp 6]) func91 ?_;simp only[go_sem,im,gG];obtain⟨R,hR⟩:∃R,R=ext H [.arr 0 38 [.lit (.int .i64 d.grain),.vec d.nodes.length cs0,.lit (.int .u64 (d.decs:Int)),.vec d.utils.length (aO d.utils)]]:=⟨_,rfl⟩
 have oR:Over H R:=hR▸.ext _ _
 have l0:R.live H.next 0=some (38,[.lit (.int .i64 d.grain),.vec d.nodes.length cs0,.lit (.int .u64 (d.decs:Int)),.vec d.utils.length (aO d.utils)]):=by rw[hR];exact ah (cq ..)
 have nR:R.next=H.next+1:=hR▸rfl
 rw[<- hR];clear hR;refine W.aG 137438953344 (by rfl) (fun ρ Hx=>∃k:Nat,ρ 8=aa k/\k<=d.utils.length/\Over R Hx/\ρ 7=aa (bt ns (d.utils.take k) vals)) (fun ρ H=>d.utils.length-(iv (ρ 8)).toNat) ?_ ?_
 ·simp only[go_sem];exact⟨0,rfl,by omega,.refl _,by simp[bt]⟩
 rintro ρ Hx ⟨k,h8',hk,ov,h7⟩;refine W.en (fun E=>E 1=af (ak ns) /\ E 2=af vals /\ E 3=.ptr H.next 0 0 /\ E 7=aa (bt ns (d.utils.take k) vals) /\ E 8=aa k) (by simp only[go_sem,h7,h8']) fun E ⟨e1,e2,e3,e7,e8⟩=>?_
 have lx:=(ov.live (g:=0) (by omega:H.next<R.next)).trans l0;by_cases hb:(k:Int)<d.utils.length;rotate_left
 ·refine W.vs ?_;simp only[go_sem,e3,e7,e8,lx,hb];rw[SH (by omega)];exact ar.aV aE hcl (oR.trans ov) (.lit _) hK
 obtain⟨u,hku⟩:=get_of_lt (l:=d.utils) (i:=k) (by omega);have hum:=SE hku;obtain⟨u1,u2,u3⟩:=hu u hum;have hne:=qg hku;have p0:=sr hku;have p1:k*2+2<=(aO d.utils).length:=by rw[kK];omega
 have v8:=u1.len;have sm:=pq h8 u1 hc;have hin:eF u.vars ns.length:=fun q hq=>by have:=u1.2 q hq;omega
 have fp:bH (aI (ak ns) u.vars) (aI vals u.vars):=pr (x:=⟨0,u.vars,[]⟩) hin hf;have hir:=jZ fp;obtain⟨iN,hiN⟩:=SR hir.1;have hil:iN<u.w.length:=by omega
 obtain⟨a,ha⟩:=get_of_lt hil;have har:=u3 a (SE ha);have hwne:=aJ ha;have hili:(iN:Int)<u.w.length:=by omega
 obtain⟨H2,hH2⟩:∃H2,H2=ext Hx [.arr 0 90 [.vec u.vars.length (ints u.vars),.vec u.w.length (ints u.w)]]:=⟨_,rfl⟩
 have m1:=ah (show H2.get Hx.next=some (.arr 0 90 [.vec u.vars.length (ints u.vars),.vec u.w.length (ints u.w)]) by rw[hH2];exact bX);have o2:Over Hx H2:=hH2▸.ext _ _
 have hub:=mM hu h4 vals k;have hsum:bt ns (d.utils.take (k+1)) vals=bt ns (d.utils.take k) vals+a:=by
  rw[aL hku];unfold bt;rw[Tq,Vl];simp only[List.map_cons,List.map_nil,Uv,List.sum_nil,Ug];congr 1;unfold lQ;rw[hiN,Int.toNat_natCast,S2,ha];rfl
 have ws:=SF (bt ns (d.utils.take k) vals+a) (by omega);have w1:=SF ((k:Int)+1) (by omega);refine W.sq ?_;simp only[go_sem,e3,e8,lx,hb];refine W.seq (W.block ?_);refine W.sq ?_;simp only[go_sem,e3,e8,lx,hb,hne,p0,p1];rw[<- hH2];refine W.dr 14 [0,0,2,0,0,16,56,0,0,256,1016,2040,4094,8190] mixed ?_;simp only[go_sem,e1,e2,e7,m1];refine⟨_,[],bf.pure fun H3=>qG (ak ns) u.vars (by omega) (by omega) (fun q hq=>by have:=u1.2 q hq;omega) H3 _ ⟨rfl,rfl⟩,?_⟩;simp only[go_sem];refine⟨_,[],bf.pure fun H3=>qG vals u.vars (by omega) (by omega) (fun q hq=>by have:=u1.2 q hq;omega) H3 _ ⟨rfl,rfl⟩,?_⟩;simp only[go_sem];refine⟨_,[],bf.pure fun H3=>yF _ _ sm fp H3 _ ⟨rfl,rfl⟩,?_⟩;simp only[go_sem,e1,e2,e7,hiN,hili,ha,hwne,ws];refine W.vs ?_;simp only[go_sem,e8,w1];exact⟨Tt ov.next o2.next,⟨k+1,rfl,by omega,ov.trans o2,by rw[hsum]⟩,by rw[h8'];simp only[aa,aM];omega⟩
theorem zq {g:Int}(hg:1<=g/\g<=60)(k:Nat)(hk:k<=8):1<=g ^ k/\g ^ k<=167961600000000:=by
 have h0:0<=g:=by omega
 have h1:∀k:Nat,1<=g ^ k:=fun k=>by
  induction k with
  |zero=>simp
  |succ k ih=>rw[T4];have:=TJ ih hg.1 (by omega) (by omega);omega
 have h2:∀k:Nat,g ^ k<=60 ^ k:=fun k=>by
  induction k with
  |zero=>simp
  |succ k ih=>rw[T4,T4];exact TJ ih hg.2 (by omega) (by have:=h1 k;have:(0:Int)<=60 ^ k:=Int.pow_nonneg (by omega);omega)
 have h3:(60:Int) ^ k<=60 ^ 8:=by
  have a1:∀j:Nat,(1:Int)<=60 ^ j:=fun j=>by
   induction j with
   |zero=>simp
   |succ j ih=>rw[T4];omega
  have a2:(0:Int)<=60 ^ k:=Int.pow_nonneg (by omega);have e:(60:Int) ^ 8=60 ^ k*60 ^ (8-k):=by rw[<- Int.pow_add];congr 1;omega
  rw[e];have:=Tb (a1 (8-k)) a2;omega
 exact⟨h1 k,by have:=h2 k;omega⟩
theorem RO (d:InfP)(cs0:List AVal)(hg:1<=d.grain/\d.grain<=60)(h8:d.nodes.length<=8)(H:AHeap)(K:ARes->AHeap->Prop)(hK:K (.ret (aa (d.grain ^ d.nodes.length))) H):ag prog G0 49 [dw d cs0] H K:=by
 refine ag.clo ⟨_,func49,rfl,rfl⟩ fun hcl=>?_;refine ag.st (n:=17) (rs:=[.tmp 2]) func49 ?_;simp only[go_sem,im,gG];obtain⟨R,hR⟩:∃R,R=ext H [.arr 0 38 [.lit (.int .i64 d.grain),.vec d.nodes.length cs0,.lit (.int .u64 (d.decs:Int)),.vec d.utils.length (aO d.utils)]]:=⟨_,rfl⟩
 have oR:Over H R:=hR▸.ext _ _
 have l0:R.live H.next 0=some (38,[.lit (.int .i64 d.grain),.vec d.nodes.length cs0,.lit (.int .u64 (d.decs:Int)),.vec d.utils.length (aO d.utils)]):=by rw[hR];exact ah (cq ..)
 rw[<- hR];clear hR;refine W.aG 65528 (by rfl) (fun ρ Hx=>Hx=R/\∃k:Nat,ρ 4=aa k/\k<=d.nodes.length/\ρ 3=aa (d.grain ^ k)) (fun ρ H=>d.nodes.length-(iv (ρ 4)).toNat) ?_ ?_
 ·simp only[go_sem];exact⟨0,rfl,by omega,by simp⟩
 rintro ρ Hx ⟨rfl,k,h4,hk,h3⟩;refine W.en (fun E=>E 1=.ptr H.next 0 0 /\ E 3=aa (d.grain ^ k) /\ E 4=aa k) (by simp only[go_sem,h3,h4]) fun E ⟨e1,e3,e4⟩=>?_
 refine W.vs ?_;by_cases hb:(k:Int)<d.nodes.length
 ·have w1:=SF ((k:Int)+1) (by omega);have hp:=zq hg (k+1) (by omega);rw[T4]at hp;have w2:=SF (d.grain ^ k*d.grain) (by omega);simp only[go_sem,e1,e3,e4,l0,hb,w1,w2];exact⟨⟨k+1,rfl,by omega,by rw[T4]⟩,by rw[h4];simp only[aa,aM];omega⟩
 ·obtain rfl:k=d.nodes.length:=by omega
  simp only[go_sem,e1,e3,e4,l0,hb];exact ar.aV aE hcl oR (.lit _) hK
theorem Ed (d:InfP)(cs:List AVal)(hq:NodesQ (fun v=>d.decs.testBit v=true) d.nodes cs)(hf:InfFit d)(hok:InfOk d)(p:List (List Int))(hp:ji p)(H:AHeap)(K:ARes->AHeap->Prop)(hK:K (.ret (.lit (.bool (kZ (PolOk d p))))) H):ag prog G0 13 [dw d cs,aj p] H K:=by
 refine ag.clo ⟨_,func13,rfl,rfl⟩ fun hcl=>?_;refine ag.st (n:=64) (rs:=[.tmp 4]) func13 ?_;simp only[go_sem,im,gG];refine aw.clo (CH d cs hq hf hok _ _ ⟨trivial,?_⟩);obtain⟨L,hL⟩:∃L,L=aT d:=⟨_,rfl⟩
 have hrng:=oQ hok;rw[<- hL]at hrng;have hLl:L.length=(az d).length:=by rw[hL];exact sd d
 have dl8:(az d).length<=d.nodes.length:=fY;have hn8:=hok.n.n1.2;have hp1:=hp.1;rw[sG,<- hL]at hK;rw[<- hL];obtain⟨R,hR⟩:∃R,R=ext H [.arr 0 38 [.lit (.int .i64 d.grain),.vec d.nodes.length cs,.lit (.int .u64 (d.decs:Int)),.vec d.utils.length (aO d.utils)]]:=⟨_,rfl⟩
 have oR:Over H R:=hR▸.ext _ _
 rw[<- hR];have no:¬sF L p->ar prog G0 H K (.lit (.bool false)) R:=fun h=>ar.aV aE hcl oR (.lit _) (by rw[eV h]at hK;exact hK);by_cases hpl:(p.length:Int)=L.length;rotate_left
 ·simp only[go_sem,aj,hpl];exact no fun h=>hpl (by rw[h.1])
 simp only[go_sem,aj,hpl];refine W.en (fun E=>E 1=aj p /\ E 5=.vec L.length (dQ L) /\ E 6=aa 0) (by simp only[go_sem,aj]) fun E ⟨e1,e5,e6⟩=>?_
 refine W.aG 18446744073709519056 (by rfl) (fun ρ Hx=>Hx=R/\∃k:Nat,ρ 6=aa k/\k<=L.length/\∀(j:Nat) (q:Int × Int) (r:List Int),j<k->L[j]?=some q->p[j]?=some r->(r.length:Int)=q.1/\∀a∈r,0<=a/\a<q.2) (fun ρ H=>L.length-(iv (ρ 6)).toNat) ?_ ?_
 ·simp only[go_sem,e6];exact⟨0,rfl,by omega,fun j _ _ h=>absurd h (S4 _)⟩
 rintro ρ Hx ⟨rfl,k,h6,hk,hall⟩;refine W.en (fun E2=>E2 1=aj p /\ E2 5=.vec L.length (dQ L) /\ E2 6=aa k) (by simp only[go_sem,e1,e5,h6]) fun E2 ⟨f1,f5,f6⟩=>?_
 refine W.vs ?_;by_cases hb:(k:Int)<L.length;rotate_left
 ·simp only[go_sem,f5,f6,hb];have hrf:sF L p:=⟨by omega,fun j q r h1 h2=>hall j q r (by have:=get_lt h1;omega) h1 h2⟩
  rw[dU hrf]at hK;exact ar.aV aE hcl oR (.lit _) hK
 obtain⟨⟨q1,q2⟩,hrk⟩:=get_of_lt (l:=L) (i:=k) (by omega);obtain⟨l,hl⟩:=get_of_lt (l:=p) (i:=k) (by omega);have p0:=uV hrk;have p1:=yj hrk;have pne:=yk hrk;have hlg:(p.map af)[k]?=some (af l):=by rw[List.getElem?_map,hl];rfl
 have hln:=aJ hl;have hbp:(k:Int)<p.length:=by omega
 have w1:=SF ((k:Int)+1) (by omega);have hl38:=hp.2 l (SE hl);simp only[go_sem,f5,f6,hb];refine W.dr 10 [0,0,3,7,15,0,0,96,224,480] mixed ?_;by_cases hll:(l.length:Int)=q1;rotate_left
 ·simp only[go_sem,f1,f5,f6,hb,hbp,aj,hlg,hln,p0,pne,hll];exact no fun h=>hll (h.2 k _ l hrk hl).1
 simp only[go_sem,f1,f5,f6,hb,hbp,aj,hlg,hln,p0,pne,hll];refine W.en (fun E3=>E3 1=aj p /\ E3 5=.vec L.length (dQ L) /\ E3 6=aa k /\ E3 7=aa 0) (by simp only[go_sem,f1,f5,f6]) fun E3 ⟨r1,r5,r6,r7⟩=>?_
 refine W.aG 18446744069414584464 (by rfl) (fun ρ2 Hz=>Hz=Hx/\∃j:Nat,ρ2 7=aa j/\j<=l.length/\∀a∈l.take j,0<=a/\a<q2) (fun ρ2 H=>l.length-(iv (ρ2 7)).toNat) ?_ ?_
 ·simp only[go_sem,r7];exact⟨0,rfl,by omega,by simp⟩
 rintro ρ2 Hz ⟨rfl,j,h7,hj,hin⟩;refine W.en (fun E4=>E4 1=aj p /\ E4 5=.vec L.length (dQ L) /\ E4 6=aa k /\ E4 7=aa j) (by simp only[go_sem,r1,r5,r6,h7]) fun E4 ⟨s1,s5,s6,s7⟩=>?_
 refine W.vs ?_;by_cases hc:(j:Int)<l.length
 ·obtain⟨a,ha⟩:=get_of_lt (l:=l) (i:=j) (by omega);have han:=aJ ha;have w2:=SF ((j:Int)+1) (by omega);simp only[go_sem,s1,s6,s7,aj,hlg,hln,hbp,hc];refine W.dr 21 [0,0,3,7,0,31,63,127,255,511,511,2047,4095,511,16383,32767,511,511,197119,459263,983551] mixed ?_;by_cases c1:a<0
  ·simp only[go_sem,s1,s6,s7,aj,hlg,hln,hbp,hc,ha,han,c1];exact no fun h=>by have:=(h.2 k _ l hrk hl).2 a (SE ha);omega
  by_cases c2:a >= q2
  ·simp only[go_sem,s1,s5,s6,s7,aj,hlg,hln,hbp,hb,hc,ha,han,p1,pne,c1,c2];exact no fun h=>by have:=(h.2 k _ l hrk hl).2 a (SE ha);omega
  simp only[go_sem,s1,s5,s6,s7,aj,hlg,hln,hbp,hb,hc,ha,han,p1,pne,c1,c2,w2];refine⟨⟨j+1,by simp,by omega,fun y hy=>?_⟩,by first|omega|(rw[h7];simp only[aa,aM];omega)⟩;rw[aL ha]at hy;rcases S5.1 hy with h|h
  ·exact hin y h
  ·obtain rfl:=List.mem_singleton.1 h;omega
 ·simp only[go_sem,s1,s6,s7,aj,hlg,hln,hbp,hc,w1];rw[SH (by omega)]at hin;refine⟨⟨k+1,by simp,by omega,fun i q r h1 h2 h3=>?_⟩,by first|omega|(rw[h6];simp only[aa,aM];omega)⟩;rcases S9 i k with h|h
  ·exact hall i q r h h2 h3
  ·obtain rfl:i=k:=(by omega);rw[hrk]at h2;rw[hl]at h3;cases h2;cases h3;exact⟨hll,hin⟩
end Go.Proofs
