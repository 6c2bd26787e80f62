/- Own work: contracts. -/
import Derived.Test.YteolcdbjdgimhaaGreatConJ
import Derived.Test.YteolcdbjdgimhaaGreatConH
import Derived.Test.YteolcdbjdgimhaaGreatConB
import Derived.Test.YteolcdbjdgimhaaGreatConF
import Derived.Test.YteolcdbjdgimhaaGreatConI
import Derived.Test.YteolcdbjdgimhaaGreatConG
import Derived.Test.YteolcdbjdgimhaaGreatConC
import Derived.Test.YteolcdbjdgimhaaGreatConA
set_option linter.all false
set_option maxHeartbeats 8000000
set_option maxRecDepth 100000
namespace Go.Hx
section
variable {P:Program} {G:Nat->Option (List AVal)} {rd:Option Nat} {Q:AX->St->Prop} {d:Option Tmp} {ty:TypeId} {pos:String} {aft:Array Edge} {g:Option (Nat × Bool)} {K:St->Prop} {s:St} {t:TypeId} {H:AHeap}
theorem NZ:aZ P G rd Q ⟨d,.makeMap t none,ty,pos,aft,g⟩ K s=bz (s.H.lay s.H.next (.mp [])) fun H'=>K ⟨aX s.ρ d (.yld s.H.next),H'⟩:=by
 simp only[aZ,av,gO]
theorem N0 (x i:Operand):aZ P G rd Q ⟨d,.lookup t x i false,ty,pos,aft,g⟩ K s=bz (mi P s.H t (aB G s.ρ x) (aB G s.ρ i) false) fun v=>K ⟨aX s.ρ d v,s.H⟩:=by
 simp only[aZ,av,gO]
theorem N1 (m k x:Operand):aZ P G rd Q ⟨d,.mapUpdate t m k x,ty,pos,aft,g⟩ K s=bz (jA P s.H t (aB G s.ρ m) (aB G s.ρ k) (aB G s.ρ x)) fun vH=>K ⟨aX s.ρ d vH.1,vH.2⟩:=rfl
theorem N2 {K:FP->St->Prop}(x i:Operand):dE P G ⟨d,.lookup t x i false,ty,pos,aft,g⟩ K s=aZ P G none QF ⟨d,.lookup t x i false,ty,pos,aft,g⟩ (K ⟨[],eG (aB G s.ρ x)⟩) s:=(rfl)
theorem N3 {id j:Nat}{k v:Int}{es:List (Int × Int)}(ht:mV P t=true)(h:H.get id=some (.mp es))(hf:gf k 0 es=some (j,v)):mi P H t (.yld id) (.lit (.int .i64 k)) false=some (.lit (.int .i64 v)):=by
 unfold mi;rw[SK ht];simp[h,hf,qY]
theorem N4 {id:Nat}{k v:Int}{es:List (Int × Int)}(ht:mV P t=true)(h:H.get id=some (.mp es)):jA P H t (.yld id) (.lit (.int .i64 k)) (.lit (.int .i64 v))=some (.lit undef,H.upd id (.mp (pH es k v))):=by
 unfold jA;rw[SK ht];simp[h]
theorem BP (k e:TypeId)(n:Nat)(cells:List AVal)(off:Nat):lI (some (.map k e)) n cells off=cells[off]?:=rfl
theorem N5 (id:Nat):(AVal.yld id).cells=[.yld id]:=rfl
theorem N6 (id:Nat):(AVal.yld id).one=true:=rfl
theorem BQ (id:Nat):eG (.yld id)=[id]:=rfl
end
theorem N7 {k:Int}:∀ {es:List (Int × Int)} {i:Nat},(∀p∈es,p.1≠k)->gf k i es=none:=by
 intro es
 induction es with
 |nil=>intro i _;rfl
 |cons p es ih =>
  intro i h;obtain⟨a,b⟩:=p;have h1:=h (a,b) (List.mem_cons_self ..);unfold gf;rw[SI fun e=>h1 e.symm];exact ih fun q hq=>h q (UN _ hq)
theorem N8 {k v:Int}:∀ {es:List (Int × Int)} {i j:Nat},es[j]?=some (k,v)->(∀j' a b,j'<j->es[j']?=some (a,b)->a≠k)->gf k i es=some (i+j,v):=by
 intro es
 induction es with
 |nil=>intro i j h;simp at h
 |cons p es ih =>
  intro i j h hn;obtain⟨a,b⟩:=p;unfold gf;cases j with
  |zero=>simp only[List.getElem?_cons_zero,Option.some.injEq,Prod.mk.injEq]at h;rw[SK h.1.symm,h.2];rfl
  |succ j =>
   rw[SI fun e=>hn 0 a b (Nat.zero_lt_succ _) rfl e.symm];rw[ih (i:=i+1) (j:=j) (by simpa using h) fun j' a b hj hb=>hn (j'+1) a b (by omega) (by simpa using hb)];congr 2;omega
end Go.Hx
namespace Go.Proofs
open Go.Hx Tryz
def cD (d:InfP)(k:Nat):Nat:=(cM ((aT d).take k)).length
theorem BR {d:InfP}{k v:Nat}(h:(az d)[k]?=some v):cD d (k+1)=cD d k+(dq d v).1.toNat:=by
 unfold cD;rw[aL (nE h),xC,List.length_append,S6]
theorem xR {d:InfP}(hok:InfOk d):∀k,k<=(az d).length->cD d k<=1024*k:=by
 intro k
 induction k with
 |zero=>intro _;exact Nat.le_refl _
 |succ k ih =>
  intro hk;obtain⟨v,hv⟩:=get_of_lt (l:=az d) (i:=k) (by omega);have:=oQ hok _ (SE (nE hv));have:=ih (by omega);rw[BR hv];omega
def lM (d:InfP)(k:Nat):List (Int × Int):=(List.range k).map fun j=>(((az d).getD j 0:Nat),(cD d j:Int))
theorem BS {d:InfP}{k j v:Nat}(hj:j<k)(h:(az d)[j]?=some v):(lM d k)[j]?=some ((v:Int),(cD d j:Int)):=by
 unfold lM;rw[List.getElem?_map,Tc hj];simp[S2,h]
theorem N9 {d:InfP}{k v:Nat}(h:(az d)[k]?=some v):pH (lM d k) v (cD d k)=lM d (k+1):=by
 unfold pH;rw[N7 fun p hp=>?_]
 ·unfold lM;rw[TZ,Tq];simp[S2,h]
 ·obtain⟨j,hj,rfl⟩:=SY.1 hp;have hj:=Tn.1 hj;obtain⟨u,hu⟩:=get_of_lt (l:=az d) (i:=j) (by have:=get_lt h;omega);have h1:=(eE h).2.2;have h2:=(eE hu).2.2;simp only[S2,hu,Option.getD_some,ne_eq,Int.ofNat_inj];intro e;rw[e]at h2;omega
theorem Oa {d:InfP}{k v:Nat}(h:(az d)[k]?=some v):gf v 0 (lM d (az d).length)=some (k,(cD d k:Int)):=by
 have h1:=(eE h).2.2;have:=N8 (i:=0) (BS (get_lt h) h) fun j' a b hj hb e=>by
  obtain⟨u,hu⟩:=get_of_lt (l:=az d) (i:=j') (by have:=get_lt h;omega);rw[BS (by have:=get_lt h;omega) hu]at hb;have h2:=(eE hu).2.2;cases hb;have:u=v:=by omega
  rw[this]at h2;omega
 rwa [Nat.zero_add]at this
def fI (d:InfP)(vals:List Int):List (Int × Int):=(az d).map fun v=>(((cD d (aU d.decs v)+dk d.nodes v vals:Nat):Int),vals.getD v 0)
def jd (d:InfP):List (List (Int × Int)):=(List.range (bh d.nodes)).map fun (w:Nat)=>fI d (wv d w)
theorem Ob {d:InfP}{vals:List Int}{k v:Nat}(h:(az d)[k]?=some v):(fI d vals)[k]?=some (((cD d k+dk d.nodes v vals:Nat):Int),vals.getD v 0):=by
 unfold fI;rw[List.getElem?_map,h];simp[(eE h).2.2.symm]
theorem BU {d:InfP}{w:Nat}(h:w<bh d.nodes):(jd d)[w]?=some (fI d (wv d w)):=by unfold jd;rw[List.getElem?_map,Tc h];rfl
theorem xS (d:InfP)(vals:List Int):(fI d vals).length=(az d).length:=by simp[fI]
theorem nJ (d:InfP):(jd d).length=bh d.nodes:=by simp[jd]
theorem Oc (d:InfP)(hok:InfOk d)(H:AHeap)(K:ARes->AHeap->Prop)
  (hK:∀H' C nv cv,Over H H'->H.next<=C->C<H'.next->H'.get C=some (.arr 0 119 [nv,af (dI d),cv])->ay H.next H' 95 nv ((jd d).map jc)->ay H.next H' 3 cv (ints (cO d))->K (.ret (.ptr C 0 0)) H'):
  ag prog G0 52 [cW d] H K:=by
 refine ag.clo ⟨_,func52,rfl,rfl⟩ fun hcl=>?_;have hf:=sH hok;have n8:=hok.n.n1;refine ag.st (n:=92) (rs:=[.tmp 2]) func52 ?_;simp only[go_sem,gI,bK];refine W.dr 6 [0,0,2,6,14,14] mixed ?_;simp only[go_sem];refine⟨.tup [af (fP d),af (dI d)],[],bf.pure fun H2=>DX d hok hf.decs H2 _ ⟨rfl,rfl⟩,?_⟩;simp only[go_sem,NZ,N5,N6];refine aw.clo (tn d _ _ ⟨trivial,?_⟩);simp only[go_sem];obtain⟨R,hR⟩:∃R,R=ext (ext H [.arr 0 38 [.lit (.int .i64 d.grain),.vec d.nodes.length (aF d.nodes),.lit (.int .u64 (d.decs:Int)),.vec d.utils.length (aO d.utils)],.arr 0 119 [.lit (.slice none 0 0),af (dI d),.lit (.slice none 0 0)],.arr 0 115 [.ptr (H.next+1) 0 0],.mp [],.arr 0 164 [.yld (H.next+3)]]) [eh d]:=⟨_,rfl⟩
 have nR:R.next=H.next+6:=by rw[hR];rfl
 have oR:Over H R:=by rw[hR];exact(Over.ext _ _).trans (.ext _ _)
 have g0:R.get H.next=some (eh d):=by rw[hR,dp];exact bD H _ 0 (by simp)
 have g1:R.get (H.next+1)=some (.arr 0 119 [.lit (.slice none 0 0),af (dI d),.lit (.slice none 0 0)]):=by rw[hR,dp];exact bD H _ 1 (by simp)
 have g2:R.get (H.next+2)=some (.arr 0 115 [.ptr (H.next+1) 0 0]):=by rw[hR,dp];exact bD H _ 2 (by simp)
 have g3:R.get (H.next+3)=some (.mp []):=by rw[hR,dp];exact bD H _ 3 (by simp)
 have g4:R.get (H.next+4)=some (.arr 0 164 [.yld (H.next+3)]):=by rw[hR,dp];exact bD H _ 4 (by simp)
 have g5:R.get (H.next+5)=some (eh d):=by rw[hR,dp];exact bD H _ 5 (by simp)
 unfold af at hR;rw[<- hR];refine W.env fun E hE=>?_;have e1:E 1=.ptr H.next 0 0:=by rw[hE];simp only[go_sem]
 have e3:E 3=.ptr (H.next+2) 0 0:=by rw[hE];simp only[go_sem]
 have e4:E 4=.ptr (H.next+4) 0 0:=by rw[hE];simp only[go_sem]
 have e24:E 24=.clo 80 [] [.ptr (H.next+5) 0 0]:=by rw[hE];rfl
 clear hE hR;have hm164:mV prog 164=true:=by kernel_rfl
 have hdn:(az d).length<=d.nodes.length:=fY;have hrl:=sd d;have hst:∀k,k<=(az d).length->cD d k<=8192:=fun k hk=>by
  have:=xR hok k hk;omega
 refine W.mc (f:=80) (first:=[]) (cap:=[.ptr (H.next+5) 0 0]) (by show E 24=_;exact e24) (tj d (by have:=hf.nodes.1;omega) hf.decs (H.next+5))
  (fun k Hx=>R.next<=Hx.next/\(∀id,id<R.next->id≠H.next+1->id≠H.next+3->Hx.get id=R.get id)/\Hx.get (H.next+3)=some (.mp (lM d k))/\∃cv,Hx.get (H.next+1)=some (.arr 0 119 [.lit (.slice none 0 0),af (dI d),cv])/\ay (R.next+1) Hx 3 cv (ints (cM ((aT d).take k))))
  (fun _ _=>False)
  (fun k Hx h=>by rw[h.2.1 _ (by omega) (by omega) (by omega)];exact g5)
  (fun k Hx b h=>⟨h.1,fun id h1 h2 h3=>by rw[ae,SI (by omega)];exact h.2.1 id h1 h2 h3,by rw[ae,SI (by omega)];exact h.2.2.1,by
   obtain⟨cv,a1,a2⟩:=h.2.2.2;exact⟨cv,by rw[ae,SI (by omega)];exact a1,a2.keep (Nat.le_refl _) (Nat.le_refl _) fun id g h1 h2 _ _=>by rw[ae,SI (by omega)]⟩⟩)
  (fun _ _ _ h=>h)
  (fun b=>⟨by rw[aS];omega,fun id h1 _ _=>bb h1,by rw[bb (by omega)];exact g3,_,by rw[bb (by omega)];exact g1,.nil⟩)
  (by decide) mK (fun _ _ _=>trivial) (fun _ _ _=>trivial) (fun k y Hx B Bb hy hj hn hB hBb=>?_) (fun Hx hj hn=>?_) (fun _ hs _=>hs.elim) (fun _ _ hs _=>hs.elim)
 ·obtain⟨v,hv,rfl⟩:=lW hy;have hvm:v∈az d:=SE hv;obtain⟨v1,v2,v3⟩:=eE hv;refine W.vs ?_;simp only[go_sem,fV,bA,ir,Ts,TS,Tx,Tz,hB];obtain⟨H3,hH3⟩:∃H3,H3=Hx.upd R.next Bb:=⟨_,rfl⟩
  rw[<- hH3];obtain⟨st,pd,n',en,ps',as',bo,hBe⟩:=hBb;have n3:H3.next=Hx.next:=by rw[hH3];rfl
  have o3:∀id,id≠R.next->H3.get id=Hx.get id:=fun id h=>by rw[hH3,ae,SI h]
  have jB:H3.get R.next=some Bb:=by rw[hH3,ae,SK rfl]
  obtain⟨cv,a1,a2⟩:=hj.2.2.2;have kold:∀id,id<R.next->id≠H.next+1->id≠H.next+3->H3.get id=R.get id:=fun id h h1 h2=>(o3 _ (by omega)).trans (hj.2.1 _ h h1 h2);have k0:=(kold _ (by omega) (by omega) (by omega)).trans g0;have l2:=ah ((kold _ (by omega) (by omega) (by omega)).trans g2);have l4:=ah ((kold _ (by omega) (by omega) (by omega)).trans g4);have k1:=(o3 (H.next+1) (by omega)).trans a1;have k3:=(o3 (H.next+3) (by omega)).trans hj.2.2.1;have l1:=ah k1;have a3:ay (R.next+1) H3 3 cv (ints (cM ((aT d).take k))):=a2.keep (Nat.le_refl _) (by omega) fun id g h1 h2 _ _=>o3 id (by omega);have hcl1:dY H3 cv=some (aa (cD d k)):=by
   rcases a3 with ⟨h1,h2⟩|⟨i,g',_,_,h1,h2⟩
   ·have:cD d k=0:=(by have:=congrArg List.length h2;rw[aH]at this;exact this);rw[h1,this];rfl
   ·rw[h1];unfold dY;simp[ah h2,aa,cD,aH]
  unfold bK at k0;have l0:=ah k0;refine W.en (fun E1=>E1 1=.ptr H.next 0 0 /\ E1 3=.ptr (H.next+2) 0 0 /\ E1 4=.ptr (H.next+4) 0 0 /\ E1 6=aa v) (by simp only[go_sem,bA,e1,e3,e4]) fun E1 ⟨m1,m3,m4,m6⟩=>?_
  refine W.vs ?_;simp only[go_sem];refine W.dr 7 [0,0,0,4,12,28,60] mixed ?_;have hU:jA prog H3 164 (.yld (H.next+3)) (.lit (.int .i64 v)) (.lit (.int .i64 (cD d k)))=some (.lit undef,H3.upd (H.next+3) (.mp (lM d (k+1)))):=by
   rw[N4 hm164 k3,N9 hv]
  simp only[go_sem,m3,m4,m6,l1,l2,l4,hcl1,N1,BP,hU];obtain⟨H4,hH4⟩:∃H4,H4=H3.upd (H.next+3) (.mp (lM d (k+1))):=⟨_,rfl⟩
  have n4:H4.next=Hx.next:=by rw[hH4,au];exact n3
  have o4:∀id,id≠H.next+3->H4.get id=H3.get id:=fun id h=>by rw[hH4,ae,SI h]
  have k43:H4.get (H.next+3)=some (.mp (lM d (k+1))):=by rw[hH4,ae,SK rfl]
  rw[<- hH4];obtain⟨x,hx⟩:=get_of_lt v1;obtain⟨m,hm⟩:∃m,m=(dq d v).1.toNat:=⟨_,rfl⟩
  have hrng:=kU hok v1 v2;have hne:=dJ hx;have f0:=iJ hx;have hvl:(v:Int)<d.nodes.length:=by omega
  have hxp:bO x.parents d.nodes.length:=by
   have:=(hok.net.node _ (SE (eW (c:=fun _ _=>0) hx))).2;rw[(gD ..).2,dB]at this;exact this
  have hin:eF x.parents d.nodes.length:=fun q hq=>by have:=hxp.2 q hq;omega
  have hmp:ao (aP d.nodes x)=(m:Int)/\1<=m/\m<=1024:=by
   unfold dq at hm hrng;rw[hx]at hm hrng;simp only at hm hrng;unfold bB at hm hrng;omega
  have hrc:dq d v=((m:Int),x.card):=by
   unfold dq at hm ⊢;rw[hx]at hm ⊢;simp only at hm ⊢;rw[hm];rfl
  have hb0:ay (R.next+1) H4 3 cv (ints (cM ((aT d).take k))):=a3.keep (Nat.le_refl _) (by omega) fun id g h1 h2 _ _=>o4 id (by omega);have hcs:=hst k (by have:=get_lt hv;omega);have hs:cY (aP d.nodes x):=iQ n8.2 hxp hok.n.card;obtain⟨cv2,H6,hA,hO,hn6,hp6⟩:=lK (P:=prog) (H:=ext H4 [.arr 0 3 [aa x.card]]) (t:=42) (src:=ints (List.replicate m x.card)) (n:=H4.next+1) Tryz.underlying42 Tryz.dz Tryz.dH (by unfold ints;rw[List.all_map];exact Td.2 fun _ _=>rfl) (by rw[Tryz.dL,aH,aH,S6];unfold cD at hcs;omega) (hb0.over (.ext _ _)) (by rw[aS];omega) rfl;rw[aH,S6]at hA;have hrep:bf prog G0 (.clo 95 [] []) [.own H4.next 0 0 1 1,.lit (.int .i64 m)] (ext H4 [.arr 0 3 [.lit (.int .i64 x.card)]]) (.vec m (ints (List.replicate m x.card))) [H4.next] :=
   bf.mk (fun i hi=>by obtain rfl:=List.mem_singleton.1 hi;rw[aS];simp) fun H2 h2 _=>ag.frame aE (args':=[af [x.card],aa m]) rfl (fun i hi _=>match i,hi with
    |0,_=>Fz.ou (cs:=[aa x.card]) ((h2 _ (by simp)).trans bX) rfl (fun c hc=>⟨.int .i64 x.card,List.mem_singleton.1 hc⟩)
    |1,_=>.lit _) (Q7 x.card m (by omega) cz _ ⟨_,rfl,by
     have:=(ay.new (H:=cz) (e:=3) (cs:=ints (List.replicate m x.card))).kj;rw[aH,S6]at this;unfold af at this;rw[S6]at this;exact this⟩)
  simp only[aa]at hA;have l1':=ah ((o4 (H.next+1) (by omega)).trans k1);have l2':=ah ((o4 (H.next+2) (by omega)).trans ((kold _ (by omega) (by omega) (by omega)).trans g2));have l0':=ah ((o4 H.next (by omega)).trans k0);unfold bK at l0';have c1:=hb0.cells;have c2:=hO.cells;have t1:=hb0.one;have t2:=hO.one;refine W.dr 18 [0,0,2,6,14,0,32,0,224,480,992,2016,0,4096,0,28672,65504,131070] mixed ?_;have q0:∀b,(ext H4 [b]).live H.next 0=_:=fun b=>(dh (by omega)).trans l0';have q1:∀b,(ext H4 [b]).live (H.next+1) 0=_:=fun b=>(dh (by omega)).trans l1';have z0:∀x:Nat,x=H4.next->¬x=H.next:=fun x h=>by omega
  have z1:∀x:Nat,x=H4.next->¬x=H.next+1:=fun x h=>by omega
  have z2:∀x:Nat,x=H4.next->¬x=H.next+2:=fun x h=>by omega
  simp only[go_sem,m1,m3,m6,l0',l1',l2',q0,hne,f0,hvl];refine⟨⟨z1,z1,z1,z2,z2⟩,z0,z0,.lit (.int .i64 m),[],bf.pure fun H2=>qH d.nodes v x hx hin hs H2 _ ⟨by rw[hmp.1];rfl,rfl⟩,?_⟩;simp only[go_sem];refine⟨.vec m (ints (List.replicate m x.card)),[H4.next],hrep,?_⟩;have p6:∀id,id<R.next+1->H6.get id=H4.get id:=fun id h=>(hp6 id (by rw[aS];omega) (hb0.ne (by omega))).trans (bb (by omega));have l16:H6.live (H.next+1) 0=_:=ah ((p6 (H.next+1) (by omega)).trans ((o4 (H.next+1) (by omega)).trans k1));have hdj:mu (if kA cv=true then { eff:=aQ cv,rs:=aQ cv } else { eff:=[H4.next+1],rs:=[] }) { eff:=[],rs:=[H.next+2] }:=by
   rcases hb0 with ⟨h,_⟩|⟨i,g,h1,_,h,_⟩
   ·rw[h];simp only[go_sem];omega
   ·rw[h];simp only[go_sem];omega
  simp only[go_sem,m1,m3,m6,hA,l16,c2,t2,ep,hdj];rw[aS]at hn6;simp only[T0]at hn6;refine⟨by rw[ae,SI (by omega),p6 _ (by omega),o4 _ (by omega)];exact jB,by rw[au];omega,by rw[au];omega,fun id h h1 h2=>by rw[ae,SI h1,p6 _ (by omega),o4 _ h2];exact kold id h h1 h2,by rw[ae,SI (by omega),p6 _ (by omega)];exact k43,cv2,by rw[ae,SK rfl],?_⟩;have e:ints (cM ((aT d).take (k+1)))=ints (cM ((aT d).take k))++ints (List.replicate m x.card):=by
   rw[aL (nE hv),xC,hrc,Int.toNat_natCast];unfold ints;rw[Tq]
  rw[e];exact hO.keep (Nat.le_refl _) (by rw[au];exact Nat.le_refl _) fun id g h1 _ _ _=>by rw[ae,SI (by omega)]
 ·rw[kY]at hj;obtain⟨cv,a1,a2⟩:=hj.2.2.2;have hxn:=hj.1;have hall:(aT d).take (az d).length=aT d:=SH (by omega);rw[hall]at a2;have l0:=ah ((hj.2.1 H.next (by omega) (by omega) (by omega)).trans g0);unfold bK at l0;have hcards:∀c∈ak d.nodes,1<=c/\c<=4:=fun c hc=>by
   obtain⟨x,hx,rfl⟩:=SY.1 hc;exact hok.n.card x hx
  have sm:cY (ak d.nodes):=ki (by rw[cC];omega) hcards;have hsz:=sm.prod;have hpp:=eD fun c hc=>(hcards c hc).1;have hw:((bh d.nodes:Nat):Int)=ao (ak d.nodes):=by unfold bh;omega
  simp only[go_sem,e1,l0];refine aw.clo (ta d.nodes (by omega) _ _ ⟨trivial,?_⟩);simp only[go_sem];refine aw.clo (sW (ak d.nodes) _ _ ⟨trivial,?_⟩);simp only[go_sem];obtain⟨Ra,hRa⟩:∃Ra,Ra=ext Hx [.arr 0 42 [af (ak d.nodes)]]:=⟨_,rfl⟩
  have nRa:Ra.next=Hx.next+1:=hRa▸rfl
  have ra0:∀id,id<Hx.next->Ra.get id=Hx.get id:=fun id h=>by rw[hRa];exact bb h
  have ra1:=df hRa
  unfold af at hRa;rw[<- hRa];refine W.env fun E1 hE1=>?_;have m1:E1 1=.ptr H.next 0 0:=by rw[hE1];simp only[go_sem,e1]
  have m3:E1 3=.ptr (H.next+2) 0 0:=by rw[hE1];simp only[go_sem,e3]
  have m4:E1 4=.ptr (H.next+4) 0 0:=by rw[hE1];simp only[go_sem,e4]
  have m57:E1 57=.clo 131 [] [.ptr Hx.next 0 0]:=by rw[hE1];rfl
  clear hE1;have aold:∀id,id<R.next->id≠H.next+1->id≠H.next+3->Ra.get id=R.get id:=fun id h h1 h2=>(ra0 id (by omega)).trans (hj.2.1 id h h1 h2);have ra3:=(ra0 (H.next+3) (by omega)).trans hj.2.2.1;have aC:=(ra0 (H.next+1) (by omega)).trans a1;refine W.tv (f:=131) (first:=[]) (cap:=[.ptr Hx.next 0 0]) (by show E1 57=_;exact m57) (sV (ak d.nodes) (fun c hc=>(hcards c hc).1) sm Hx.next (Ra.next+1) (by omega))
   (fun k Hz=>Ra.next<Hz.next/\(∀id,id<Ra.next->id≠H.next+1->Hz.get id=Ra.get id)/\∃nv,Hz.get (H.next+1)=some (.arr 0 119 [nv,af (dI d),cv])/\ay (Ra.next+2) Hz 95 nv (((jd d).take k).map jc))
   (fun _ _=>False)
   (fun k Hz h=>(h.2.1 _ (by omega) (by omega)).trans ra1)
   (fun k H1 H3 h hw=>⟨by have:=hw.1;omega,fun id h1 h2=>(hw.2 _ (by omega) (by have:=h.1;omega)).trans (h.2.1 id h1 h2),by
    obtain⟨nv,b1,b2⟩:=h.2.2;exact⟨nv,(hw.2 _ (by omega) (by have:=h.1;omega)).trans b1,b2.keep (Nat.le_refl _) hw.1 fun id g h1 h2 _ _=>hw.2 id (by omega) h2⟩⟩)
   (fun k Hz h=>h.1)
   (fun k H1 b h=>⟨h.1,fun id h1 h2=>by rw[ae,SI (by omega)];exact h.2.1 id h1 h2,by
    obtain⟨nv,b1,b2⟩:=h.2.2;exact⟨nv,by rw[ae,SI (by omega)];exact b1,b2.keep (Nat.le_refl _) (Nat.le_refl _) fun id g h1 h2 _ _=>by rw[ae,SI (by omega)]⟩⟩)
   (fun _ _ _ h=>h) (fun k H1 b h=>by unfold lY at h ⊢;rw[ae,SI (by omega)];exact h)
   (fun b=>⟨by rw[aS];simp,fun id h1 h2=>bb h1,_,by rw[bb (by omega)];exact aC,.nil⟩) (by decide)
   (fun x hx=>by
    obtain⟨k,hk⟩:=SW.1 hx;obtain⟨_,rfl⟩:=lX hk;rfl) (fun _ _ _=>trivial) (fun _ _ _=>trivial) (fun k y Hz B Bb hy hjz hcs hnz hB hBb=>?_) (fun Hz hjz hnz=>?_) (fun _ hs _=>hs.elim) (fun _ _ hs _=>hs.elim)
  ·obtain⟨hk,rfl⟩:=lX hy;have hB2:∀b,(ext Hz [b]).get Ra.next=some B:=fun b=>(bb (by have:=hjz.1;omega)).trans hB;refine W.vs ?_;simp only[go_sem,fV,bA,ir,Ts,TS,Tx,Tz,hB2];obtain⟨st,pd,n',en,ps',as',bo,hBe⟩:=hBb;obtain⟨nv,b1,b2⟩:=hjz.2.2;have hzn:=hjz.1;obtain⟨vals,hvals⟩:∃vals,vals=wv d k:=⟨_,rfl⟩
   have hfit:bH (ak d.nodes) vals:=(by rw[hvals];exact kM (fun c hc=>(hcards c hc).1) _);have hcv:Hz.get (Ra.next+1)=some (.arr 0 3 (ints vals)):=(by rw[hvals];exact hcs);have hvl:vals.length=d.nodes.length:=(by rw[hfit.1,cC]);obtain⟨H3,hH3⟩:∃H3,H3=(ext Hz [.arr 0 42 [.own (Ra.next+1) 0 0 (ak d.nodes).length 1]]).upd Ra.next Bb:=⟨_,rfl⟩
   rw[<- hH3];have n3:H3.next=Hz.next+1:=(by rw[hH3];rfl);have o3:∀id,id<Hz.next->id≠Ra.next->H3.get id=Hz.get id:=fun id h h2=>by rw[hH3,ae,SI h2,bb h]
   have jB:H3.get Ra.next=some Bb:=(by rw[hH3,ae,SK rfl]);have k8:H3.get Hz.next=some (.arr 0 42 [.own (Ra.next+1) 0 0 (ak d.nodes).length 1]):=(by rw[hH3,ae,SI (by omega),bX]);clear hH3;have zold:∀id,id<R.next->id≠H.next+1->id≠H.next+3->H3.get id=R.get id:=fun id h h1 h2=>(o3 id (by omega) (by omega)).trans ((hjz.2.1 id (by omega) h1).trans (aold id h h1 h2));have k3:=(o3 (H.next+3) (by omega) (by omega)).trans ((hjz.2.1 (H.next+3) (by omega) (by omega)).trans ra3);have kC:=(o3 (H.next+1) (by omega) (by omega)).trans b1;have kN:=(o3 (Ra.next+1) (by omega) (by omega)).trans hcv;have l0:=ah ((zold H.next (by omega) (by omega) (by omega)).trans g0);unfold bK at l0;refine W.env fun E2 hE2=>?_;have p1:E2 1=.ptr H.next 0 0:=(by rw[hE2];simp only[go_sem,bA,m1]);have p3:E2 3=.ptr (H.next+2) 0 0:=(by rw[hE2];simp only[go_sem,bA,m3]);have p4:E2 4=.ptr (H.next+4) 0 0:=(by rw[hE2];simp only[go_sem,bA,m4]);have p8:E2 8=.ptr Hz.next 0 0:=(by rw[hE2];simp only[go_sem,bA]);clear hE2;have q0:∀b,(ext H3 [b]).live H.next 0=_:=fun b=>(dh (by omega)).trans l0;refine W.vs ?_;simp only[go_sem,p1,q0];refine aw.clo (tn d _ _ ⟨?_,?_⟩)
   ·exact⟨st,pd,n',en,ps',as',bo,by rw[bb (by rw[aS];simp;omega),bb (by omega),jB,hBe]⟩
   simp only[go_sem];obtain⟨R2,hR2⟩:∃R2,R2=ext (ext H3 [.arr 0 95 [.lit (.slice none 0 0)]]) [eh d]:=⟨_,rfl⟩
   have nR2:R2.next=Hz.next+3:=(by rw[hR2,aS,aS,n3];rfl);have r2old:∀id,id<H3.next->R2.get id=H3.get id:=fun id h=>by rw[hR2,bb (by rw[aS];omega),bb h]
   have r29:R2.get (Hz.next+1)=some (.arr 0 95 [.lit (.slice none 0 0)]):=(by rw[hR2,bb (by rw[aS];simp;omega),<- n3,bX]);have r2b:R2.get (Hz.next+2)=some (eh d):=by
    have:(ext H3 [.arr 0 95 [.lit (.slice none 0 0)]]).next=Hz.next+2:=(by rw[aS,n3];rfl);rw[hR2,<- this,bX]
   rw[<- hR2];refine W.env fun E3 hE3=>?_;have s1:E3 1=.ptr H.next 0 0:=(by rw[hE3];simp only[go_sem,p1]);have s3:E3 3=.ptr (H.next+2) 0 0:=(by rw[hE3];simp only[go_sem,p3]);have s4:E3 4=.ptr (H.next+4) 0 0:=(by rw[hE3];simp only[go_sem,p4]);have s8:E3 8=.ptr Hz.next 0 0:=(by rw[hE3];simp only[go_sem,p8]);have s9:E3 9=.ptr (Hz.next+1) 0 0:=(by rw[hE3];simp only[go_sem,n3]);have s61:E3 61=.clo 80 [] [.ptr (Hz.next+2) 0 0]:=(by rw[hE3];simp only[go_sem,n3]);clear hE3 hR2;have jB2:R2.get Ra.next=some Bb:=(r2old _ (by omega)).trans jB;refine W.mc (f:=80) (first:=[]) (cap:=[.ptr (Hz.next+2) 0 0]) (by show E3 61=_;exact s61) (tj d (by have:=hf.nodes.1;omega) hf.decs (Hz.next+2))
    (fun j Hw=>R2.next<=Hw.next/\(∀id,id<R2.next->id≠Hz.next+1->Hw.get id=R2.get id)/\∃rv,Hw.get (Hz.next+1)=some (.arr 0 95 [rv])/\cG (R2.next+1) Hw 97 2 rv j (dQ ((fI d vals).take j)))
    (fun _ _=>False)
    (fun j Hw h=>by rw[h.2.1 _ (by omega) (by omega)];exact r2b)
    (fun j Hw b h=>⟨h.1,fun id h1 h2=>by rw[ae,SI (by omega)];exact h.2.1 id h1 h2,by
     obtain⟨rv,c1,c2⟩:=h.2.2;exact⟨rv,by rw[ae,SI (by omega)];exact c1,c2.keep (Nat.le_refl _) fun id g h1 h2 _=>by rw[ae,SI (by omega)]⟩⟩)
    (fun _ _ _ h=>h)
    (fun b=>⟨by rw[aS];omega,fun id h1 _=>bb h1,_,by rw[bb (by omega)];exact r29,.nil⟩)
    (by decide) mK (fun j Hw h=>⟨st,pd,n',en,ps',as',bo,by rw[h.2.1 _ (by omega) (by omega),jB2,hBe]⟩) (fun _ _ h=>h.elim) (fun j y2 Hw B2 Bb2 hy2 hjw hnw hB2' hBb2=>?_) (fun Hw hjw hnw=>?_) (fun _ hs _=>hs.elim) (fun _ _ hs _=>hs.elim)
   ·obtain⟨v,hv,rfl⟩:=lW hy2;have hvm:v∈az d:=SE hv;obtain⟨v1,v2,v3⟩:=eE hv;refine W.vs ?_;simp only[go_sem,fV,bA,ir,Ts,TS,Tx,Tz,hB2'];obtain⟨st2,pd2,n2',en2,ps2',as2',bo2,hBe2⟩:=hBb2;obtain⟨rv,c1,c2⟩:=hjw.2.2;have hwn:=hjw.1;obtain⟨H5,hH5⟩:∃H5,H5=Hw.upd R2.next Bb2:=⟨_,rfl⟩
    rw[<- hH5];have n5:H5.next=Hw.next:=(by rw[hH5];rfl);have o5:∀id,id≠R2.next->H5.get id=Hw.get id:=fun id h=>by rw[hH5,ae,SI h]
    have jB5:H5.get R2.next=some Bb2:=(by rw[hH5,ae,SK rfl]);clear hH5;have w3:∀id,id<H3.next->H5.get id=H3.get id:=fun id h=>(o5 id (by omega)).trans ((hjw.2.1 id (by omega) (by omega)).trans (r2old id h));have l9:=ah ((o5 (Hz.next+1) (by omega)).trans c1);have l0':=(jT (w3 H.next (by omega)) 0).trans l0;have l4:=ah ((w3 (H.next+4) (by omega)).trans ((zold _ (by omega) (by omega) (by omega)).trans g4));have l8:=ah ((w3 Hz.next (by omega)).trans k8);have k35:=(w3 (H.next+3) (by omega)).trans k3;have kN5:=(w3 (Ra.next+1) (by omega)).trans kN;have lN:=ah kN5;have hO5:cG (R2.next+1) H5 97 2 rv j (dQ ((fI d vals).take j)):=c2.keep (by omega) fun id g h1 h2 _=>o5 id (by omega);refine W.env fun E4 hE4=>?_;have u1:E4 1=.ptr H.next 0 0:=(by rw[hE4];simp only[go_sem,bA,s1]);have u3:E4 3=.ptr (H.next+2) 0 0:=(by rw[hE4];simp only[go_sem,bA,s3]);have u4:E4 4=.ptr (H.next+4) 0 0:=(by rw[hE4];simp only[go_sem,bA,s4]);have u8:E4 8=.ptr Hz.next 0 0:=(by rw[hE4];simp only[go_sem,bA,s8]);have u9:E4 9=.ptr (Hz.next+1) 0 0:=(by rw[hE4];simp only[go_sem,bA,s9]);have u11:E4 11=aa v:=(by rw[hE4];simp only[go_sem,bA]);clear hE4;obtain⟨x,hx⟩:=get_of_lt v1;have hrng:=kU hok v1 v2;have hxp:bO x.parents d.nodes.length:=by
     have:=(hok.net.node _ (SE (eW (c:=fun _ _=>0) hx))).2;rw[(gD ..).2,dB]at this;exact this
    have hin:eF x.parents d.nodes.length:=fun q hq=>by have:=hxp.2 q hq;omega
    have hs:cY (aP d.nodes x):=iQ n8.2 hxp hok.n.card;obtain⟨r1,r2⟩:=mB hok hx hfit;have hrl2:bB d.nodes x<=1024:=by
     unfold dq at hrng;rw[hx]at hrng;simp only at hrng;omega
    obtain⟨ri,hri⟩:∃ri,ri=dk d.nodes v vals:=⟨_,rfl⟩
    rw[<- hri]at r1 r2;obtain⟨a,ha⟩:=get_of_lt (l:=vals) (i:=v) (by omega);have hva:(ints vals)[v]?=some (aa a):=(by unfold ints;rw[List.getElem?_map,ha];rfl);have hvne:=aJ ha;have hstj:=hst j (by have:=get_lt hv;omega);have w1:=SF ((cD d j:Int)+ri) (by omega);have hL:=N3 hm164 k35 (Oa hv);have hcl:=cC d.nodes;have hvc:(v:Int)<d.nodes.length:=(by omega);have hpc:bf prog G0 (.clo 98 [] []) [.vec d.nodes.length (aF d.nodes),.lit (.int .i64 v),.own (Ra.next+1) 0 0 d.nodes.length 1] H5 (.lit (.int .i64 ri)) [Ra.next+1]:=by
     have:=sX d.nodes v x vals hx hin hs hfit H5 (Ra.next+1) d.nodes.length (by omega) kN5 hvl.symm;rw[<- r1]at this;exact this
    have c21:=hO5.cells;have c22:=hO5.one;obtain⟨rv2,H6,hA,hO6,hn6,hp6⟩:=mR (P:=prog) (t:=95) (m:=H5.next+1) (xs:=[aa ((cD d j:Int)+ri),aa a]) Tryz.underlying95 Tryz.xK Tryz.xM rfl rfl (by rw[Tryz.xL];have:=get_lt hv;omega) hO5 (by omega) rfl;simp only[aa]at hA;have d21:=hO6.cells;have d22:=hO6.one;have p6:∀id,id<R2.next+1->H6.get id=H5.get id:=fun id h=>hp6 id (by omega) (hO5.ne (by omega));have l96:H6.live (Hz.next+1) 0=_:=ah ((p6 (Hz.next+1) (by omega)).trans ((o5 (Hz.next+1) (by omega)).trans c1));have e5:∀b,(ext H5 [b]).live (Hz.next+1) 0=_:=fun b=>(dh (by omega)).trans l9;refine W.vs ?_;simp only[go_sem];refine W.dr 16 [0,0,0,6,0,16,0,0,240,510,0,0,3072,7168,16382,32766] mixed ?_;simp only[go_sem,u1,u4,u8,u9,u11,l0',l4,l8,l9,N2,N0,BQ,BP,hL,hcl];refine⟨.lit (.int .i64 ri),[Ra.next+1],hpc,?_⟩;simp only[go_sem,u1,u4,u8,u9,u11,l8,lN,hva,hvc,w1,hA,l96,d21,d22,BQ,ep,hcl];refine⟨fun x h=>by omega,by rw[ae,SI (by omega),p6 _ (by omega)];exact jB5,by rw[au];omega,by rw[au];omega,fun id h h1=>by rw[ae,SI h1,p6 _ (by omega),o5 _ (by omega)];exact hjw.2.1 id h h1,rv2,by rw[ae,SK rfl],?_⟩;have e:dQ ((fI d vals).take (j+1))=dQ ((fI d vals).take j)++[aa ((cD d j:Int)+ri),aa a]:=by
     rw[aL (Ob hv),CF,bp ha,<- hri,Int.natCast_add]
    rw[e];exact hO6.keep (by rw[au];exact Nat.le_refl _) fun id g h1 _ _=>by rw[ae,SI (by omega)]
   ·rw[kY]at hjw;obtain⟨rv,c1,c2⟩:=hjw.2.2;have hwn:=hjw.1;have hall3:(fI d vals).take (az d).length=fI d vals:=SH (by rw[xS];omega);rw[hall3,<- xS d vals]at c2;simp only[go_sem];refine W.wC (cJ.gR (s:=⟨E3,Hw⟩) aE (n:=Hz.next) (ob:=Hz.next+1) (cells':=[jc (fI d vals)]) c1 rfl fun _ i h h'=>?_) (Nat.le_refl _) ⟨st,pd,n',en,ps',as',bo,by rw[rS (by omega) (by omega),hjw.2.1 _ (by omega) (by omega),jB2,hBe]⟩ ?_
    ·obtain rfl:i=0:=(by simp at h;omega);show Fz _ Hw Hw.next rv (jc (fI d vals));unfold jc;rcases c2 with ⟨h1,hz,hc⟩|⟨id,gg,q1,q2,h1,q4,q5⟩
     ·rw[h1,hz,hc];exact .nil
     ·rw[h1];refine .frz ⟨by omega,by omega⟩ q5 q4 fun j hj h2 h3=>?_;have e0:(0:Nat)+j=j:=Nat.zero_add j;have h4:j<(dQ (fI d vals)).length:=(by omega);have:=fun Hq=>CG (S:=fun id=>Hz.next<=id/\id≠Hz.next+1) (H:=Hq) (nx:=Hw.next) (fI d vals) _ (Tk h4);simpa only[e0] using this _
    obtain⟨Hm,hHm⟩:∃Hm,Hm=Hw.gR Hz.next (Hz.next+1) (.arr 0 95 [jc (fI d vals)]):=⟨_,rfl⟩
    rw[<- hHm];have nm:Hm.next=Hw.next:=(by rw[hHm];rfl);have om:∀id,id<Hz.next->Hm.get id=H3.get id:=fun id h=>by rw[hHm,rS h (by omega),hjw.2.1 _ (by omega) (by omega),r2old _ (by omega)]
    have km:Hm.get (Hz.next+1)=some (.arr 0 95 [jc (fI d vals)]):=(by rw[hHm,uu]);clear hHm;have y9:=ah km;have yC:=ah ((om (H.next+1) (by omega)).trans kC);have y2:=ah ((om (H.next+2) (by omega)).trans ((zold _ (by omega) (by omega) (by omega)).trans g2));have hOn:ay (Ra.next+2) Hm 95 nv (((jd d).take k).map jc):=b2.keep (Nat.le_refl _) (by omega) fun id g h1 h2 _ _=>(om id h2).trans (o3 id h2 (by omega));have hkw:k<bh d.nodes:=(by omega);obtain⟨nv2,H6,hA,hO6,hn6,hp6⟩:=fW (P:=prog) (t:=117) (x:=jc (fI d vals)) (n:=Hm.next+1) Tryz.underlying117 Tryz.BH Tryz.BJ rfl (by rw[Tryz.BI,SM,SN,nJ];omega) hOn (by omega) rfl;have d11:=hOn.cells;have d12:=hOn.one;have d21:=hO6.cells;have d22:=hO6.one;have p6:∀id,id<Ra.next+2->H6.get id=Hm.get id:=fun id h=>hp6 id (by omega) (hOn.ne (by omega));have yC6:H6.live (H.next+1) 0=_:=ah ((p6 (H.next+1) (by omega)).trans ((om (H.next+1) (by omega)).trans kC));have yCe:∀b,(ext Hm [b]).live (H.next+1) 0=_:=fun b=>(dh (by omega)).trans yC;unfold jc at y9 hA;refine W.dr 8 [0,0,2,6,14,0,32,126] mixed ?_;simp only[go_sem,s3,s9,y2,y9,yC,yC6,hA,d21,d22,ep];have z1:∀x:Nat,x=Hm.next->¬x=H.next+1:=fun x h=>by omega
    have z2:∀x:Nat,x=Hm.next->¬x=H.next+2:=fun x h=>by omega
    have kNm:=(om (Ra.next+1) (by omega)).trans kN;refine⟨⟨z1,z1,z1,z2,z2⟩,?_,by rw[ae,SI (by omega),p6 _ (by omega),om _ (by omega)];exact jB,by rw[au];omega,⟨by rw[au];omega,fun id h h1=>by rw[ae,SI h1,p6 _ (by omega),om _ (by omega),o3 _ (by omega) (by omega)];exact hjz.2.1 id h h1,nv2,by rw[ae,SK rfl],?_⟩,?_⟩
    ·rcases hOn with ⟨h,_⟩|⟨i,g,h1,_,h,_⟩
     ·rw[h];simp only[go_sem];omega
     ·rw[h];simp only[go_sem];omega
    ·rw[aL (BU hkw),Tq,<- hvals];exact hO6.keep (Nat.le_refl _) (by rw[au];exact Nat.le_refl _) fun id g h1 _ _ _=>by rw[ae,SI (by omega)]
    ·show (H6.upd _ _).get _=_;rw[ae,SI (by omega),p6 _ (by omega),kNm,hvals];rfl
  ·rw[qD]at hjz;obtain⟨nv,b1,b2⟩:=hjz.2.2;have hall2:(jd d).take (ao (ak d.nodes)).toNat=jd d:=SH (by rw[nJ];omega);rw[hall2]at b2;have ov:Over H Hz:=⟨by omega,fun id h=>(hjz.2.1 id (by omega) (by omega)).trans ((aold id (by omega) (by omega) (by omega)).trans (oR.old id h))⟩
   have l2:=ah ((hjz.2.1 (H.next+2) (by omega) (by omega)).trans ((aold (H.next+2) (by omega) (by omega) (by omega)).trans g2));have a3:ay H.next Hz 3 cv (ints (cO d)):=a2.keep (by omega) (by omega) fun id g h1 h2 _ _=>(hjz.2.1 id (by omega) (by omega)).trans (ra0 id h2);simp only[go_sem,m3,l2];exact ar.mk ov.next (hK Hz (H.next+1) nv cv ov (by omega) (by omega) b1 (b2.keep (by omega) (Nat.le_refl _) fun _ _ _ _ _ _=>rfl) a3)
theorem Oh {d:InfP}{k v:Nat}(hv:(az d)[k]?=some v):cM ((aT d).drop k)=List.replicate (dq d v).1.toNat (dq d v).2++cM ((aT d).drop (k+1)):=by
 rw[jw (nE hv),xF]
theorem xT (d:InfP)(k:Nat):cO d=cM ((aT d).take k)++cM ((aT d).drop k):=by
 rw[<- Bv,Tl];rfl
theorem BW {d:InfP}{k v r:Nat}(hv:(az d)[k]?=some v)(hr:r<(dq d v).1.toNat):(cM ((aT d).drop k))[r]?=some (dq d v).2:=by
 rw[Oh hv,SU (by rw[S6];exact hr),TH,SK hr]
theorem xU {d:InfP}{k v r:Nat}(hv:(az d)[k]?=some v)(hr:r<(dq d v).1.toNat):(cO d)[cD d k+r]?=some (dq d v).2:=by
 rw[xT d k];unfold cD;rw[SZ (by omega),UP];exact BW hv hr
theorem BX (d:InfP):(cO d).length=cD d (az d).length:=by
 unfold cD cO;rw[SH (by rw[sd];exact Nat.le_refl _)]
theorem Oi {d:InfP}{k v r:Nat}(hv:(az d)[k]?=some v)(hr:r<(dq d v).1.toNat)(i:Int):(aR (cO d) i).getD (cD d k+r) 0=fixC (cB (aT d) i) k r:=by
 have h1:=xH (xU hv hr) i;have h2:=xH (BW hv hr) i;have e:(cO d).drop (cD d k+r+1)=(cM ((aT d).drop k)).drop (r+1):=by
  conv=>lhs;rw[xT d k]
  rw[Uk];unfold cD;rw[List.drop_append];simp
 rw[bp h1,e];unfold fixC;rw[bp (xG i (nE hv)),S2,Tf hr,h2];rfl
theorem Oj {d:InfP}(hok:InfOk d)(i:Int):PolOk d (cB (aT d) i):=sG.2 (LU (fun p hp=>by have:=oQ hok p hp;omega) i)
theorem Ol {d:InfP}(hok:InfOk d){vals:List Int}(hf:bH (ak d.nodes) vals)(i:Int):kI (aR (cO d) i) (fI d vals)=iO d (fixC (cB (aT d) i)) vals:=by
 have key:∀v∈az d,((aR (cO d) i).getD (cD d (aU d.decs v)+dk d.nodes v vals) 0)=fixC (cB (aT d) i) (aU d.decs v) (dk d.nodes v vals):=fun v hv=>by
  obtain⟨k,hk⟩:=SW.1 hv;obtain⟨v1,v2,v3⟩:=eE hk;obtain⟨x,hx⟩:=get_of_lt v1;have r2:=(mB hok hx hf).2;rw[<- v3]at hk;refine Oi hk ?_ i;unfold dq;rw[hx];exact r2
 rw[UR];unfold kI iO fI;rw[Td,Td];constructor
 ·intro h v hv;have:=of_decide_eq_true (h _ (SY.2 ⟨v,hv,rfl⟩));simp only[Int.toNat_natCast]at this;rw[key v hv]at this;exact Tm this
 ·intro h p hp;obtain⟨v,hv,rfl⟩:=SY.1 hp;have:=of_decide_eq_true (h v hv);refine Tm ?_;simp only[Int.toNat_natCast];rw[key v hv];exact this
theorem BY {d:InfP}(hok:InfOk d)(i:Int):iH (dI d) (jd d) (aR (cO d) i) (jd d).length=bW d (cB (aT d) i):=by
 rw[OQ hok (Oj hok i),nJ];unfold iH iP;refine oV fun w hw=>?_;rw[bp (BU hw),bp (vI hw),Ol hok (mC hok w)]
theorem BZ {d:InfP}(hok:InfOk d):bh d.nodes<=65536:=by
 have h:=hok.n.n1.2;have hc:∀c∈ak d.nodes,0<=c/\c<=4:=fun c hc=>by
  obtain⟨x,hx,rfl⟩:=SY.1 hc;have:=hok.n.card x hx;omega
 have h1:=nL (b:=4) (by omega) hc;rw[cC]at h1;have h2:(4:Int) ^ d.nodes.length<=4 ^ 8:=by
  have:(4:Nat) ^ d.nodes.length<=4 ^ 8:=Te (by omega) h
  exact_mod_cast this
 have h3:(4:Int) ^ 8=65536:=rfl;unfold bh;omega
theorem B0 {d:InfP}(hok:InfOk d)(h6:d.nodes.length<=6)(i:Int):ValOk (dI d) (jd d) (aR (cO d) i) where
 gl:=by rw[vJ,nJ]
 len:=by rw[nJ];have:=BZ hok;omega
 row l hl:=by
  obtain⟨w,hw,rfl⟩:=SY.1 hl;have hdn:(az d).length<=d.nodes.length:=fY;refine⟨by rw[xS];omega,fun p hp=>?_⟩;obtain⟨v,hv,rfl⟩:=SY.1 hp;obtain⟨k,hk⟩:=SW.1 hv;obtain⟨v1,v2,v3⟩:=eE hk;obtain⟨x,hx⟩:=get_of_lt v1;have r2:=(mB hok hx (mC hok w)).2;rw[<- v3]at hk;have h:=get_lt (xU (r:=dk d.nodes v (wv d w)) hk (by unfold dq;rw[hx];exact r2));rw[kL];refine⟨Int.natCast_nonneg _,?_⟩;simp only;omega
 nll:=by
  have:=xR hok (az d).length (Nat.le_refl _);have hdn:(az d).length<=d.nodes.length:=fY;rw[kL,BX];omega
 sum k hk:=by
  have h:=DL (n:=k) (f:=fun w=>if kI (aR (cO d) i) ((jd d).getD w [])=true then (dI d).getD w 0 else 0) (B:=18662400000000) fun w hw=>by
   rw[nJ]at hk;rw[bp (vI (d:=d) (k:=w) (by omega))];have:=vM hok h6 (mC hok w);split<;>omega
  have hw:=BZ hok;rw[nJ]at hk;unfold iH;omega
theorem NY (cards:List Int)(hc1:∀c∈cards,1<=c/\c<=4)(hcl0:cards.length<2 ^ 40)(i:Nat)(hi:(i:Int)<ao cards)(bn bc c nid:Nat)(nv gv cv:AVal)(H:AHeap)
  (g0:H.get bn=some (.arr 0 42 [.own nid 0 0 cards.length 1])) (g1:H.get bc=some (.arr 0 115 [.ptr c 0 0])) (g2:H.get c=some (.arr 0 119 [nv,gv,cv]))
  (g3:H.get nid=some (.arr 0 3 (ints (aR cards i)))) (hcv:ay 0 H 3 cv (ints cards)) (d1:∀g n,cv≠.own nid g 0 n 1) (K:ARes->AHeap->Prop)
  (hT:(i:Int)+1<ao cards->∀H',H'.next=H.next->(∀id,id≠nid->H'.get id=H.get id)->H'.get nid=some (.arr 0 3 (ints (aR cards (i+1:Nat))))->K (.ret (.lit (.bool true))) H')
  (hF:¬(i:Int)+1<ao cards->∀H',H'.next=H.next->(∀id,id≠nid->H'.get id=H.get id)->K (.ret (.lit (.bool false))) H'):
  ag prog G0 53 [.ptr bn 0 0,.ptr bc 0 0] H K:=by
 refine ag.clo ⟨_,func53,rfl,rfl⟩ fun hcl=>?_;have n0:bn≠nid:=fun h=>by rw[h,g3]at g0;cases g0
 have n1:bc≠nid:=fun h=>by rw[h,g3]at g1;cases g1
 have n2:c≠nid:=fun h=>by rw[h,g3]at g2;cases g2
 have l0:=ah g0;have hone:=hcv.one;have hcells:=hcv.cells;obtain⟨vs,hvs⟩:∃vs,vs=aR cards i:=⟨_,rfl⟩
 rw[<- hvs]at g3;have hvl:vs.length=cards.length:=by rw[hvs,kL]
 have hfit:bH cards vs:=by rw[hvs];exact kM (fun c hc=>(hc1 c hc).1) _
 have hsucc:=B4 hfit;rw[show bJ cards vs=i from by rw[hvs];exact sv (fun c hc=>(hc1 c hc).1) (by omega) (by omega)]at hsucc;have w0:=SF ((cards.length:Int)-1) (by omega);refine ag.st (n:=32) (rs:=[.tmp 2]) func53 ?_;have l3:=ah g3;simp only[go_sem,l0,l3,w0];refine W.en (fun E=>E 0=.ptr bn 0 0 /\ E 1=.ptr bc 0 0 /\ E 3=aa ((cards.length:Int)-1)) (by simp only[go_sem]) fun E ⟨e0,e1,e3⟩=>?_
 refine W.aG 4294967180 (by rfl) (fun ρ2 H4=>∃m:Nat,ρ2 3=aa ((m:Int)-1)/\m<=cards.length/\H4.next=H.next/\(∀id,id≠nid->H4.get id=H.get id)/\H4.get nid=some (.arr 0 3 (ints (vs.take m++(cards.drop m).map fun _=>0)))/\(∀(j:Nat) (a b:Int),m<=j->cards[j]?=some a->vs[j]?=some b->b=a-1))
  (fun ρ2 H=>(iv (ρ2 3)+1).toNat) ?_ ?_
 ·refine⟨cards.length,e3,by omega,rfl,fun _ _=>rfl,?_,fun j a b hm ha=>?_⟩
  ·rw[g3,SH (by omega),Vj (by omega)];simp
  ·have:=get_lt ha;omega
 rintro ρ2 H4 ⟨m,h3,hm,hn4,hw,hg,hmax⟩;refine W.en (fun E2=>E2 0=.ptr bn 0 0 /\ E2 1=.ptr bc 0 0 /\ E2 3=aa ((m:Int)-1)) (by simp only[go_sem,e0,e1,h3]) fun E2 ⟨f0,f1,f3⟩=>?_
 refine W.vs ?_;by_cases hm0:m=0
 ·subst hm0;have f3':E2 3=aa (-1):=f3;have hnone:=Dw hvl fun j a b ha hb=>hmax j a b (UF _) ha hb;rw[hnone]at hsucc;have htot:¬(i:Int)+1<ao cards:=fun h=>by rw[SK h]at hsucc;cases hsucc
  simp only[go_sem,f3'];exact ar.mk (by omega) (hF htot H4 hn4 hw)
 obtain⟨k,rfl⟩:∃k,m=k+1:=⟨m-1,by omega⟩
 have f3':E2 3=aa k:=by rw[f3];congr 1;omega
 obtain⟨cc,hck⟩:=get_of_lt (l:=cards) (i:=k) (by omega);obtain⟨v,hvk⟩:=get_of_lt (l:=vs) (i:=k) (by omega);have hne:=aJ hck;have hr:=hfit.2 k cc v hck hvk;have hcs8:=hc1 cc (SE hck);obtain⟨cs4,hcs4⟩:∃cs4,cs4=vs.take (k+1)++(cards.drop (k+1)).map fun _=>(0:Int):=⟨_,rfl⟩
 rw[<- hcs4]at hg;have clen:cs4.length=cards.length:=by rw[hcs4];simp;omega
 have hvk':cs4[k]?=some v:=by
  rw[hcs4,SU (by simp;omega),Tf (by omega)];exact hvk
 have hne4:=aJ hvk';have hvi:(ints cs4)[k]?=some (aa v):=by unfold ints;rw[List.getElem?_map,hvk'];rfl
 have hci:(ints cards)[k]?=some (aa cc):=by unfold ints;rw[List.getElem?_map,hck];rfl
 have hk0:(k:Int) >= 0:=by omega
 have hkc:(k:Int)<cards.length:=by omega
 have w1:=SF (v+1) (by omega);have w2:=SF ((k:Int)-1) (by omega);rcases hcv with ⟨_,hx⟩|⟨icd,gcd,j1,j2,j3,j4⟩
 ·have:=congrArg List.length hx;rw[aH,List.length_nil]at this;omega
 rw[aH]at j3;have hjn:icd≠nid:=fun h=>d1 gcd cards.length (by rw[j3,h]);have e4:∀x,setAt (ints cs4) k [.lit (.int .i64 x)]=ints (cs4.set k x):=fun x=>fD (by omega);have m0:=ah ((hw bn n0).trans g0);have m3:=ah hg;have u0:∀b,(H4.upd nid b).live bn 0=_:=fun b=>(bQ n0).trans m0;have u1:∀b,(H4.upd nid b).live bc 0=_:=fun b=>(bQ n1).trans (ah ((hw bc n1).trans g1));have u2:∀b,(H4.upd nid b).live c 0=_:=fun b=>(bQ n2).trans (ah ((hw c n2).trans g2));have u4:∀b,(H4.upd nid b).live icd gcd=_:=fun b=>(bQ hjn).trans (ah ((hw icd hjn).trans j4));have sl:∀x,(cs4.set k x).length=cards.length:=fun x=>by rw[SO];exact clen
 have sg:∀x,(ints (cs4.set k x))[k]?=some (aa x):=fun x=>by unfold ints;rw[List.getElem?_map,SX (by omega)];rfl
 have sne:∀x,¬ints (cs4.set k x)=[]:=fun x h=>by have:=congrArg List.length h;rw[aH,sl,List.length_nil]at this;omega
 simp only[go_sem,f0,f3',hk0,m0,m3,hkc,hvi,w1,e4,clen];refine⟨by omega,?_⟩;have u3:∀b,(H4.upd nid (.arr 0 3 b)).live nid 0=some (3,b):=fun b=>jj;have e5:setAt (ints (cs4.set k (v+1))) k [.lit (.int .i64 0)]=ints (cs4.set k 0):=by rw[fD (by rw[sl];omega),UD]
 have uo:∀b b' id,id≠nid->((H4.upd nid b).upd nid b').get id=H.get id:=fun b b' id h=>by rw[ae,SI h,ae,SI h];exact hw id h
 refine W.dr 11 [0,0,3,7,0,16,48,112,0,496,1008] mixed ?_;by_cases hv:v+1<cc
 ·simp only[go_sem,f0,f1,f3',u0,u1,u2,u3,u4,j3,hk0,hkc,sg,hci,hv];have hat:=Dv hvl hck hvk (by omega) fun j a b hj ha hb=>hmax j a b (by omega) ha hb;rw[hat]at hsucc;have hlt:(i:Int)+1<ao cards:=by
   refine Ty fun h=>?_;rw[SI h]at hsucc;cases hsucc
  rw[SK hlt]at hsucc;refine ar.mk (by rw[au];omega) (hT hlt _ (by rw[au];exact hn4) (fun id h=>by rw[ae,SI h];exact hw id h) ?_);rw[ae,SK rfl];congr 3;have e:aR cards ((i+1:Nat):Int)=vs.take k++(v+1) :: (cards.drop (k+1)).map fun _=>0:=by
   have:=Option.some.inj hsucc;rw[show ((i+1:Nat):Int)=(i:Int)+1 by omega];exact this.symm
  rw[e,hcs4,aL hvk,List.append_assoc,To _ _ (by simp;omega)];simp;rw[show k-min k vs.length=0 by omega];rfl
 ·simp only[go_sem,f0,f1,f3',u0,u1,u2,u3,u4,j3,hk0,hkc,sl,sg,hci,hv,e5,w2];refine⟨by omega,by rw[au,au];omega,⟨k,rfl,by omega,by rw[au,au];exact hn4,fun id h=>uo _ _ id h,?_,fun j a b hj ha hb=>?_⟩,by rw[h3];simp only[aa,aM];omega⟩
  ·rw[ae,SK rfl];congr 3;rw[hcs4,aL hvk,List.append_assoc,To _ _ (by simp;omega),jw hck];simp;rw[show k-min k vs.length=0 by omega];rfl
  ·rcases S9 k j with h|h
   ·exact hmax j a b (by omega) ha hb
   ·obtain rfl:j=k:=(by omega);rw[hck]at ha;rw[hvk]at hb;cases ha;cases hb;omega
structure BestAt (d:InfP)(i b:Nat):Prop where
 le:b<=i
 max:∀j:Nat,j<=i->bW d (cB (aT d) j)<=bW d (cB (aT d) b)
 first:∀j:Nat,j<b->bW d (cB (aT d) j)<bW d (cB (aT d) b)
theorem BestAt.zero (d:InfP):BestAt d 0 0:=⟨Nat.le_refl _,fun j hj=>(by rw[Nat.le_zero.1 hj];exact Int.le_refl _),fun j hj=>absurd hj (S4 _)⟩
theorem BestAt.keep {d:InfP}{i b:Nat}(h:BestAt d i b)(hle:bW d (cB (aT d) (i+1:Nat))<=bW d (cB (aT d) b)):BestAt d (i+1) b :=
 ⟨by have:=h.le;omega,fun j hj=>by
  by_cases e:j=i+1
  ·subst e;exact hle
  ·exact h.max j (by omega),h.first⟩
theorem BestAt.new {d:InfP}{i b:Nat}(h:BestAt d i b)(hlt:bW d (cB (aT d) b)<bW d (cB (aT d) (i+1:Nat))):BestAt d (i+1) (i+1) :=
 ⟨Nat.le_refl _,fun j hj=>by
  by_cases e:j=i+1
  ·subst e;exact Int.le_refl _
  ·have:=h.max j (by omega);omega,fun j hj=>by have:=h.max j (by omega);omega⟩
theorem Od {l:List Int}(hl:(l.length:Int)<2 ^ 40){H:AHeap}{id n g:Nat}{e:TypeId}(hid:id<H.next)(hg:H.get id=some (.arr g e (ints l)))(hn:n=l.length):
  ∀H2:AHeap,H2.get id=H.get id->ag prog G0 36 [.own id g 0 n 1] H2 fun r H'=>r=.ret (af l)/\H'=H2:=fun H2 h2=>by
 refine ag.frame aE (args':=[af l]) rfl (fun i hi _=>match i,hi with
  |0,_=>?_) ?_
 ·have:=Fz.ou (n:=n) (nx:=0) (h2.trans hg) (by rw[aH];exact hn) fun c hc=>by
   unfold ints at hc;obtain⟨x,_,rfl⟩:=SY.1 hc;exact⟨_,rfl⟩
  subst hn;exact this
 ·by_cases h0:l.length=0
  ·obtain rfl:=SP h0;exact qF [] hl cz _ ⟨_,rfl,.vec0⟩
  ·exact Ef l hl (by omega) cz _ fun v H' _ ho=>⟨_,rfl,ho.kj⟩
theorem Oe (r:List Int)(i:Int):∀a:List Int,(aR (a++r) i).drop a.length=aR r i:=by
 intro a
 induction a with
 |nil=>rfl
 |cons c a ih=>exact ih
theorem Of (d:InfP)(k:Nat)(i:Int):(aR (cO d) i).drop (cD d k)=aR (cM ((aT d).drop k)) i:=by
 have:=Oe (cM ((aT d).drop k)) i (cM ((aT d).take k));rw[<- xT]at this;exact this
def sk (cs:List Int)(b:Option Blk):Nat:=match b with
 |some (.arr _ _ cells)=>(bJ cs (cells.map iv)).toNat
 |_=>0
theorem BV {cs:List Int}(h:∀c∈cs,1<=c){i:Nat}(hi:(i:Int)<ao cs)(g:Nat)(e:TypeId):sk cs (some (.arr g e (ints (aR cs i))))=i:=by
 unfold sk;have e2:(ints (aR cs i)).map iv=aR cs i:=by
  unfold ints;rw[UW]
  conv=>rhs;rw[<- List.map_id (aR cs i)]
  exact Th fun x _=>rfl
 simp only;rw[e2,sv h (by omega) hi];omega
theorem Og (d:InfP)(hf:InfFit d)(h6:d.nodes.length<=6)(H:AHeap)(K:ARes->AHeap->Prop)
  (hN:iG d≠0->K (.ret (.tup [.lit (.slice none 0 0),.agg [.lit (.int .i64 0),.lit (.int .i64 0)],aa (iG d)])) H)
  (hK:∀b:Nat,InfOk d->eH d<=4096->BestAt d ((eH d).toNat-1) b->K (.ret (.tup [aj (cB (aT d) b),dV (bW d (cB (aT d) b)) (d.grain ^ d.nodes.length),aa 0])) H):
  ag prog G0 19 [cW d] H K:=by
 refine ag.clo ⟨_,func19,rfl,rfl⟩ fun hcl=>?_;refine ag.sw (n:=77) (rs:=[.cell 2 33,.cell 3 50,.tmp 4]) func19 ?_;refine W.sq ?_;simp only[go_sem,gI,bK];obtain⟨R,hR⟩:∃R,R=ext H [.arr 0 38 [.lit (.int .i64 d.grain),.vec d.nodes.length (aF d.nodes),.lit (.int .u64 (d.decs:Int)),.vec d.utils.length (aO d.utils)],.arr 0 33 [.lit (.slice none 0 0)],.arr 0 50 [.lit (.int .i64 0),.lit (.int .i64 0)]]:=⟨_,rfl⟩
 have nR:R.next=H.next+3:=hR▸rfl
 have oR:Over H R:=hR▸.ext _ _
 have g0:R.get H.next=some (eh d):=by rw[hR];exact bD H _ 0 (by simp)
 have g1:=gE hR 1 rfl
 have g2:=gE hR 2 rfl
 have l0:=ah g0;have l1:=ah g1;have l2:=ah g2;unfold bK at l0;rw[<- hR];clear hR;refine W.en (fun E=>E 1=.ptr H.next 0 0 /\ E 2=.ptr (H.next+1) 0 0 /\ E 3=.ptr (H.next+2) 0 0 /\ E 4=aa 0) (by simp only[go_sem]) fun E ⟨e1,e2,e3,e4⟩=>?_
 refine W.sq ?_;simp only[go_sem,e1,l0];refine aw.clo (LS d hf _ _ ⟨trivial,?_⟩);simp only[go_sem];by_cases hc:iG d=0;rotate_left
 ·have u1:∀b,(R.upd (H.next+1) b).live (H.next+2) 0=_:=fun b=>(bQ (by omega)).trans l2;have u2:∀c b',((R.upd (H.next+1) (.arr 0 33 [c])).upd (H.next+2) b').live (H.next+1) 0=some (33,[c]):=fun c b'=>(bQ (by omega)).trans jj;simp only[go_sem,hc,e2,e3,l1,u1,u2];refine ar.aV aE hcl ((oR.upd (by omega) _).upd (by omega) _) ?_ (hN hc);exact .tup rfl fun i hi _=>match i,hi with
   |0,_=>.lit _
   |1,_=>.agg rfl fun j hj _=>match j,hj with
    |0,_=>.lit _
    |1,_=>.lit _
   |2,_=>.lit _
 have hok:InfOk d:=Ty fun h=>by unfold iG at hc;rw[eV h]at hc;cases hc
 have hp4:eH d<=4096:=Ty fun h=>by unfold iG at hc;rw[dU hok,SI h]at hc;cases hc
 have hp1:1<=eH d:=eD (xD fun p hp=>(oQ hok p hp).2.2.1);have n8:=hok.n.n1;have hdn:(az d).length<=d.nodes.length:=fY;have hrl:=sd d;have hcl2:=BX d;have hst:=xR hok (az d).length (Nat.le_refl _);have hchr:∀c∈cO d,1<=c/\c<=4:=fun c hc=>by
  unfold cO cM at hc;obtain⟨l,hl,hcl⟩:=Uh.1 hc;obtain⟨p,hp,rfl⟩:=SY.1 hl;rw[Tr hcl];exact(oQ hok p hp).2.2
 simp only[go_sem,hc];refine W.sq ?_;simp only[go_sem,e1,l0];refine aw.clo (Oc d hok _ _ fun Ha C nv cv oA hC hClt gC hnv hcv=>⟨trivial,?_⟩);simp only[go_sem];obtain⟨Hb,hHb⟩:∃Hb,Hb=ext Ha [.arr 0 115 [.ptr C 0 0]]:=⟨_,rfl⟩
 have nA:=oA.next;have nb:Hb.next=Ha.next+1:=hHb▸rfl
 have ba:∀id,id<Ha.next->Hb.get id=Ha.get id:=fun id h=>by rw[hHb];exact bb h
 have b7:=df hHb
 rw[<- hHb];clear hHb;have gCb:=(ba C hClt).trans gC;have lC:=ah gCb;have l7:=ah b7;refine W.en (fun E1=>E1 1=.ptr H.next 0 0 /\ E1 2=.ptr (H.next+1) 0 0 /\ E1 3=.ptr (H.next+2) 0 0 /\ E1 7=.ptr Ha.next 0 0) (by simp only[go_sem,e1,e2,e3]) fun E1 ⟨f1,f2,f3,f7⟩=>?_
 have hlen:dY Hb cv=some (aa (cO d).length):=by
  rcases hcv with ⟨h1,h2⟩|⟨i,g',_,q2,h1,h2⟩
  ·have:(cO d).length=0:=(by have:=congrArg List.length h2;rw[aH]at this;exact this);rw[h1,this];rfl
  ·rw[h1];unfold dY;simp[ah ((ba i q2).trans h2),aa,aH]
 refine W.sq ?_;simp only[go_sem,f7,l7,lC,hlen];obtain⟨n,hn⟩:∃n,n=(cO d).length:=⟨_,rfl⟩
 rw[<- hn];refine⟨by omega,?_⟩;obtain⟨Hc,hHc⟩:∃Hc,Hc=ext Hb [.arr 0 3 (List.replicate n (.lit (.int .i64 0))),.arr 0 42 [.own Hb.next 0 0 n 1]]:=⟨_,rfl⟩
 have nc:Hc.next=Ha.next+3:=by rw[hHc,aS,nb];rfl
 have cb:∀id,id<Hb.next->Hc.get id=Hb.get id:=fun id h=>by rw[hHc];exact dv _ _ _ h
 have cN0:=df hHc
 have c8:=gE hHc 1 rfl
 rw[<- hHc];clear hHc;have hz:aR (cO d) (0:Nat)=List.replicate n 0:=by
  rw[show ((0:Nat):Int)=0 from rfl,xX fun c hc=>(hchr c hc).1,hn];exact UA ..
 have cN:Hc.get Hb.next=some (.arr 0 3 (ints (aR (cO d) (0:Nat)))):=by
  rw[cN0,hz];simp[ints,aa]
 clear cN0;rcases hnv with ⟨_,hx⟩|⟨ib,gi,i1,i2,i3,i4⟩
 ·have:=congrArg List.length hx;rw[SM,nJ,List.length_nil]at this;have hpp:=eD (l:=ak d.nodes) fun c hc=>by
   obtain⟨x,hx,rfl⟩:=SY.1 hc;exact(hok.n.card x hx).1
  unfold bh at this;omega
 rw[SM]at i3;have hCI:Hc.get C=_:=(cb C (by omega)).trans gCb;have hIB:Hc.get ib=_:=(cb ib (by omega)).trans ((ba ib i2).trans i4);rw[i3]at hCI;have hvl:∀i:Nat,(aR (cO d) i).length=n:=fun i=>by rw[kL,hn]
 have hval:∀(i:Nat) (H2:AHeap),H2.get C=Hc.get C->H2.get ib=Hc.get ib->H2.get Hb.next=some (.arr 0 3 (ints (aR (cO d) i)))->ag prog G0 54 [.ptr C 0 0,.own Hb.next 0 0 n 1] H2 fun r H'=>r=.ret (aa (bW d (cB (aT d) i)))/\H'=H2:=fun i H2 h1 h2 h3=>by
  have:=NX (dI d) (jd d) (aR (cO d) i) (B0 hok h6 i) C ib Hb.next gi 0 cv H2 (h1.trans hCI) (h2.trans hIB) h3 (fun r H'=>r=.ret (aa (bW d (cB (aT d) i)))/\H'=H2) ⟨by rw[BY hok],rfl⟩;rw[hvl]at this;exact this
 have hclo:∀(i:Nat) (H2:AHeap),H2.next=H2.next->H2.get Hb.next=some (.arr 0 3 (ints (aR (cO d) i)))->ag prog G0 36 [.own Hb.next 0 0 n 1] H2 fun r H'=>r=.ret (af (aR (cO d) i))/\H'=H2:=fun i H2 _ h3=>by
  have hlt:Hb.next<(⟨H2.get,Hb.next+1⟩:AHeap).next:=by simp
  exact Od (l:=aR (cO d) i) (by rw[hvl];omega) (H:=⟨H2.get,Hb.next+1⟩) hlt h3 (hvl i).symm H2 rfl
 have m7:=ah ((cb Ha.next (by omega)).trans b7);have m8:=ah c8;refine W.sq ?_;simp only[go_sem];refine W.seq ?_;refine W.dr 6 [0,1,0,0,15,0] mixed ?_;simp only[go_sem,f7,m7,m8];refine⟨af (aR (cO d) (0:Nat)),[Hb.next],bf.mk (fun i hi=>by obtain rfl:=List.mem_singleton.1 hi;omega) fun H2 h2 _=>hclo 0 H2 rfl ((h2 _ (by simp)).trans cN),?_⟩;simp only[go_sem];refine⟨aa (bW d (cB (aT d) (0:Nat))),[C,ib,Hb.next],bf.mk (fun i hi=>?_) fun H2 h2 _=>hval 0 H2 (h2 _ (by simp)) (h2 _ (by simp)) ((h2 _ (by simp)).trans cN),?_⟩
 ·simp at hi;omega
 simp only[go_sem];refine⟨⟨fun x h=>by omega,fun x h=>by omega,fun x h=>by omega,fun x h=>by omega,fun x h=>by omega⟩,?_⟩;obtain⟨Hd,hHd⟩:∃Hd,Hd=ext Hc [.arr 0 42 [af (aR (cO d) (0:Nat))]]:=⟨_,rfl⟩
 have nd:Hd.next=Ha.next+4:=by rw[hHd,aS,nc];rfl
 have dc:∀id,id<Hc.next->Hd.get id=Hc.get id:=fun id h=>by rw[hHd];exact bb h
 have d10:=df hHd
 unfold af at hHd;simp only[Int.natCast_zero]at hHd;rw[<- hHd];clear hHd;refine W.en (fun E2=>E2 1=.ptr H.next 0 0 /\ E2 2=.ptr (H.next+1) 0 0 /\ E2 3=.ptr (H.next+2) 0 0 /\ E2 7=.ptr Ha.next 0 0 /\ E2 8=.ptr (Hb.next+1) 0 0 /\ E2 9=.clo 53 [] [.ptr (Hb.next+1) 0 0,.ptr Ha.next 0 0] /\ E2 10=.ptr Hc.next 0 0 /\ E2 11=aa (bW d (cB (aT d) (0:Nat)))) (by simp only[go_sem,f1,f2,f3,f7]) fun E2 ⟨h1,h2,h3,h7,h8,h9,h10,h11⟩=>?_
 refine W.ik (fun s'=>∃b:Nat,BestAt d ((eH d).toNat-1) b/\s'.ρ 1=.ptr H.next 0 0/\s'.ρ 2=.ptr (H.next+1) 0 0/\s'.ρ 3=.ptr (H.next+2) 0 0/\s'.ρ 10=.ptr Hc.next 0 0/\s'.ρ 11=aa (bW d (cB (aT d) b))/\s'.H.next=Hd.next/\(∀id,id≠Hb.next->id≠Hc.next->s'.H.get id=Hd.get id)/\s'.H.get Hc.next=some (.arr 0 42 [af (aR (cO d) b)])) ?_ ?_
 ·refine W.block ?_;refine W.aG 1125350151034880 (by rfl) (fun ρ Hx=>∃i b:Nat,(i:Int)<eH d/\BestAt d i b/\ρ 11=aa (bW d (cB (aT d) b))/\Hx.next=Hd.next/\(∀id,id≠Hb.next->id≠Hc.next->Hx.get id=Hd.get id)/\Hx.get Hb.next=some (.arr 0 3 (ints (aR (cO d) i)))/\Hx.get Hc.next=some (.arr 0 42 [af (aR (cO d) b)]))
   (fun ρ Hx=>(eH d).toNat-sk (cO d) (Hx.get Hb.next)) ?_ ?_
  ·exact⟨0,0,by omega,.zero d,h11,rfl,fun _ _ _=>rfl,(dc _ (by omega)).trans cN,d10⟩
  rintro ρ Hx ⟨i,b,hi,hB,k11,xn,xo,xN,x10⟩;refine W.en (fun E3=>E3 1=.ptr H.next 0 0 /\ E3 2=.ptr (H.next+1) 0 0 /\ E3 3=.ptr (H.next+2) 0 0 /\ E3 7=.ptr Ha.next 0 0 /\ E3 8=.ptr (Hb.next+1) 0 0 /\ E3 9=.clo 53 [] [.ptr (Hb.next+1) 0 0,.ptr Ha.next 0 0] /\ E3 10=.ptr Hc.next 0 0 /\ E3 11=aa (bW d (cB (aT d) b))) (by simp only[go_sem,h1,h2,h3,h7,h8,h9,h10,k11]) fun E3 ⟨p1,p2,p3,p7,p8,p9,p10,p11⟩=>?_
  have y8:=(xo (Hb.next+1) (by omega) (by omega)).trans ((dc _ (by omega)).trans c8);have y7:=(xo Ha.next (by omega) (by omega)).trans ((dc _ (by omega)).trans ((cb _ (by omega)).trans b7));have yC:=(xo C (by omega) (by omega)).trans ((dc _ (by omega)).trans hCI);have yI:=(xo ib (by omega) (by omega)).trans ((dc _ (by omega)).trans hIB);have ycv:ay 0 Hx 3 cv (ints (cO d)):=hcv.keep (UF _) (by omega) fun id g q1 q2 _ _=>(xo id (by omega) (by omega)).trans ((dc _ (by omega)).trans ((cb _ (by omega)).trans (ba id q2)));have hxm:sk (cO d) (Hx.get Hb.next)=i:=by rw[xN];exact BV (fun c hc=>(hchr c hc).1) hi _ _
  refine W.vs ?_;simp only[go_sem,p9];have hcvn:∀g m,cv≠.own Hb.next g 0 m 1:=fun g m h=>by
   rcases hcv with ⟨q,_⟩|⟨id,g2,_,q2,q,_⟩
   ·rw[q]at h;cases h
   ·rw[q]at h;have:=(AVal.own.inj h).1;omega
  rw[hn]at y8;refine aw.clo (NY (cO d) hchr (by omega) i hi (Hb.next+1) Ha.next C Hb.next _ _ cv Hx y8 y7 yC xN ycv hcvn _ (fun ht H1 n1 o1 z1=>⟨trivial,?_⟩) (fun hft H1 n1 o1=>⟨trivial,?_⟩));rotate_left
  ·simp only[go_sem];have hib:(eH d).toNat-1=i:=(by unfold eH at hi ⊢;omega);refine⟨b,by rw[hib];exact hB,p1,p2,p3,p10,p11,by omega,fun id q1 q2=>(o1 id q1).trans (xo id q1 q2),(o1 _ (by omega)).trans x10⟩
  have z8:=ah ((o1 (Hb.next+1) (by omega)).trans y8);have z7:=ah ((o1 Ha.next (by omega)).trans y7);rw[<- hn]at z8;simp only[go_sem,p7,p8,z7,z8];refine aw.clo ((hval (i+1) H1 ((o1 C (by omega)).trans ((xo C (by omega) (by omega)).trans (dc _ (by omega)))) ((o1 ib (by omega)).trans ((xo ib (by omega) (by omega)).trans (dc _ (by omega)))) z1).mono fun r H2 hr=>?_);obtain⟨rfl,rfl⟩:=hr;refine⟨trivial,?_⟩;have z10:=(o1 Hc.next (by omega)).trans x10;have lz10:=ah z10;have hm2:sk (cO d) (H2.get Hb.next)=i+1:=by rw[z1];exact BV (fun c hc=>(hchr c hc).1) (by unfold eH at hi;omega) _ _
  by_cases hgt:bW d (cB (aT d) (i+1:Nat)) > bW d (cB (aT d) b)
  ·simp only[go_sem,p8,p11,hgt,z8];refine aw.clo ((hclo (i+1) H2 rfl z1).mono fun r H3 hr=>?_);obtain⟨rfl,rfl⟩:=hr;refine⟨trivial,?_⟩;simp only[go_sem,p10,lz10];refine⟨by rw[au];omega,⟨i+1,i+1,by unfold eH;omega,hB.new (by omega),rfl,by rw[au];omega,fun id q1 q2=>by rw[ae,SI q2];exact(o1 id q1).trans (xo id q1 q2),by rw[ae,SI (by omega)];exact z1,by rw[ae,SK rfl]⟩,by rw[ae,SI (by omega),hm2,hxm];unfold eH at hi ⊢;omega⟩
  ·simp only[go_sem,p11,hgt];exact⟨by omega,⟨i+1,b,by unfold eH;omega,hB.keep (by omega),rfl,by omega,fun id q1 q2=>(o1 id q1).trans (xo id q1 q2),z1,z10⟩,by rw[hm2,hxm];unfold eH at hi ⊢;omega⟩
 rintro⟨ρ5,He⟩ ⟨b,hB,k1,k2,k3,k10,k11,en,eo,e10⟩;simp only at k1 k2 k3 k10 k11 en eo e10;clear h1 h2 h3 h7 h8 h9 h10 h11;have eold:∀id,id<R.next->He.get id=R.get id:=fun id h=>(eo id (by omega) (by omega)).trans ((dc id (by omega)).trans ((cb id (by omega)).trans ((ba id (by omega)).trans (oA.old id h))));have l0e:=ah ((eold H.next (by omega)).trans g0);unfold bK at l0e;refine W.seq ?_;refine W.sq ?_;simp only[go_sem,k1,l0e];refine aw.clo (tn d _ _ ⟨trivial,?_⟩);simp only[go_sem];obtain⟨Rf,hRf⟩:∃Rf,Rf=ext He [eh d]:=⟨_,rfl⟩
 have nRf:Rf.next=He.next+1:=hRf▸rfl
 have rfo:∀id,id<He.next->Rf.get id=He.get id:=fun id h=>by rw[hRf];exact bb h
 have rfb:=df hRf
 rw[<- hRf];clear hRf;refine W.env fun E4 hE4=>?_;have u1:E4 1=.ptr H.next 0 0:=by rw[hE4];simp only[go_sem,k1]
 have u2:E4 2=.ptr (H.next+1) 0 0:=by rw[hE4];simp only[go_sem,k2]
 have u3:E4 3=.ptr (H.next+2) 0 0:=by rw[hE4];simp only[go_sem,k3]
 have u10:E4 10=.ptr Hc.next 0 0:=by rw[hE4];simp only[go_sem,k10]
 have u11:E4 11=aa (bW d (cB (aT d) b)):=by rw[hE4];simp only[go_sem,k11]
 have u51:E4 51=.clo 80 [] [.ptr He.next 0 0]:=by rw[hE4];rfl
 clear hE4 k1 k2 k3 k10 k11;obtain⟨vs,hvs⟩:∃vs,vs=aR (cO d) b:=⟨_,rfl⟩
 have hvsl:vs.length=n:=by rw[hvs];exact hvl b
 rw[<- hvs]at e10;refine W.block ?_;refine W.mc (f:=80) (first:=[]) (cap:=[.ptr He.next 0 0]) (by show E4 51=_;exact u51) (tj d (by have:=hf.nodes.1;omega) hf.decs He.next)
  (fun k Hx=>Rf.next<=Hx.next/\(∀id,id<Rf.next->id≠H.next+1->id≠Hc.next->Hx.get id=Rf.get id)/\Hx.get Hc.next=some (.arr 0 42 [af (vs.drop (cD d k))])/\∃pv,Hx.get (H.next+1)=some (.arr 0 33 [pv])/\ay (Rf.next+1) Hx 42 pv (((cB (aT d) b).take k).map af))
  (fun _ _=>False)
  (fun k Hx h=>by rw[h.2.1 _ (by omega) (by omega) (by omega)];exact rfb)
  (fun k Hx b h=>⟨h.1,fun id h1 h2 h3=>by rw[ae,SI (by omega)];exact h.2.1 id h1 h2 h3,by rw[ae,SI (by omega)];exact h.2.2.1,by
   obtain⟨pv,a1,a2⟩:=h.2.2.2;exact⟨pv,by rw[ae,SI (by omega)];exact a1,a2.keep (Nat.le_refl _) (Nat.le_refl _) fun id g h1 h2 _ _=>by rw[ae,SI (by omega)]⟩⟩)
  (fun _ _ _ h=>h)
  (fun b=>⟨by rw[aS];omega,fun id h1 _ _=>bb h1,by rw[bb (by omega),rfo _ (by omega)];exact e10,_,by rw[bb (by omega),rfo _ (by omega),eold _ (by omega)];exact g1,.nil⟩)
  (by decide) mK (fun _ _ _=>trivial) (fun _ _ _=>trivial) (fun k y Hx B Bb hy hj hnx hB2 hBb=>?_) (fun Hx hj hnx=>?_) (fun _ hs _=>hs.elim) (fun _ _ hs _=>hs.elim)
 ·obtain⟨v,hv,rfl⟩:=lW hy;obtain⟨v1,v2,v3⟩:=eE hv;refine W.vs ?_;simp only[go_sem,fV,bA,ir,Ts,TS,Tx,Tz,hB2];obtain⟨H3,hH3⟩:∃H3,H3=Hx.upd Rf.next Bb:=⟨_,rfl⟩
  rw[<- hH3];obtain⟨st,pd,n',en',ps',as',bo,hBe⟩:=hBb;have n3:H3.next=Hx.next:=by rw[hH3];rfl
  have o3:∀id,id≠Rf.next->H3.get id=Hx.get id:=fun id h=>by rw[hH3,ae,SI h]
  have jB:H3.get Rf.next=some Bb:=by rw[hH3,ae,SK rfl]
  clear hH3;obtain⟨pv,a1,a2⟩:=hj.2.2.2;have hjn:=hj.1;have kold:∀id,id<R.next->id≠H.next+1->H3.get id=R.get id:=fun id h h1=>(o3 _ (by omega)).trans ((hj.2.1 _ (by omega) h1 (by omega)).trans ((rfo id (by omega)).trans (eold id h)));have q0:=ah ((kold H.next (by omega) (by omega)).trans g0);unfold bK at q0;have q2:=ah ((o3 (H.next+1) (by omega)).trans a1);have q10:=ah ((o3 Hc.next (by omega)).trans hj.2.2.1);have a3:ay (Rf.next+1) H3 42 pv (((cB (aT d) b).take k).map af):=a2.keep (Nat.le_refl _) (by omega) fun id g h1 h2 _ _=>o3 id (by omega);obtain⟨x,hx⟩:=get_of_lt v1;obtain⟨m,hm⟩:∃m,m=(dq d v).1.toNat:=⟨_,rfl⟩
  have hrng:=kU hok v1 v2;have hxp:bO x.parents d.nodes.length:=by
   have:=(hok.net.node _ (SE (eW (c:=fun _ _=>0) hx))).2;rw[(gD ..).2,dB]at this;exact this
  have hin:eF x.parents d.nodes.length:=fun q hq=>by have:=hxp.2 q hq;omega
  have hs:cY (aP d.nodes x):=iQ n8.2 hxp hok.n.card;have hmp:ao (aP d.nodes x)=(m:Int)/\1<=m/\m<=1024:=by
   unfold dq at hm hrng;rw[hx]at hm hrng;simp only at hm hrng;unfold bB at hm hrng;omega
  have hss:=BR hv;rw[<- hm]at hss;have hkd:=get_lt hv;have hbd:cD d k+m<=n:=by
   have h:=get_lt (xU (r:=m-1) hv (by omega));omega
  obtain⟨s,hs2⟩:∃s,s=cD d k:=⟨_,rfl⟩
  rw[<- hs2]at q10 hss hbd;have hdl:(vs.drop s).length=n-s:=by rw[Tu,hvsl]
  obtain⟨row,hrow⟩:∃row,row=(vs.drop s).take m:=⟨_,rfl⟩
  have hrl2:row.length=m:=by rw[hrow,SN,hdl];omega
  have hpol:(cB (aT d) b)[k]?=some row:=by
   rw[xG b (nE hv),<- hm,hrow,hvs,hs2,Of]
  obtain⟨pv2,H6,hA,hO,hn6,hp6⟩:=fW (P:=prog) (H:=H3) (t:=33) (x:=af row) (n:=H3.next+1) Tryz.underlying33 Tryz.jv Tryz.jH rfl (by rw[Tryz.jG,SM,SN,xE];omega) a3 (by omega) rfl;have p6:∀id,id<Rf.next+1->H6.get id=H3.get id:=fun id h=>hp6 id (by omega) (a3.ne (by omega));have q26:=ah ((p6 (H.next+1) (by omega)).trans ((o3 (H.next+1) (by omega)).trans a1));have q16:=ah ((p6 Hc.next (by omega)).trans ((o3 Hc.next (by omega)).trans hj.2.2.1));rw[<- hs2]at q16;have t1:=a3.cells;have t2:=a3.one;have t3:=hO.cells;have t4:=hO.one;refine W.en (fun E5=>E5 1=.ptr H.next 0 0 /\ E5 2=.ptr (H.next+1) 0 0 /\ E5 10=.ptr Hc.next 0 0 /\ E5 14=aa v) (by simp only[go_sem,bA,u1,u2,u10]) fun E5 ⟨w1,w2,w10,w14⟩=>?_
  refine W.vs ?_;simp only[go_sem,w1,w14,q0];refine aw.clo (qH d.nodes v x hx hin hs _ _ ⟨⟨st,pd,n',en',ps',as',bo,by rw[jB,hBe]⟩,?_⟩);rw[hmp.1];simp only[go_sem];refine W.dr 6 [0,0,0,6,14,30] mixed ?_;simp only[go_sem,w2,w10,q2,q10,hdl];have hir:List.take m (ints (List.drop s vs))=ints row:=by rw[hrow];unfold ints;rw[List.map_take]
  have hid:List.drop m (ints (List.drop s vs))=ints (vs.drop (s+m)):=by unfold ints;rw[<- List.map_drop,Uw]
  rw[hir];refine⟨by omega,af row,[],bf.pure fun H2=>(by
   have:=qF row (by omega) H2 (fun r H'=>r=.ret (af row)/\H'=H2) ⟨rfl,rfl⟩;unfold af at this ⊢;rw[hrl2]at this ⊢;exact this),?_⟩
  unfold af at hA;have q16u:∀c,(H6.upd (H.next+1) c).live Hc.next 0=_:=fun c=>(bQ (by omega)).trans q16;simp only[go_sem,w2,w10,q16u,q26,hA,hdl,t3,t4,ep,hid];have e16:AVal.vec (n-s-m) (List.take (n-s-m) (ints (List.drop (s+m) vs)))=af (vs.drop (cD d (k+1))):=by
   have hl:(vs.drop (s+m)).length=n-s-m:=(by rw[Tu,hvsl];omega);rw[hss];unfold af;rw[hl,SH (by rw[aH,hl];exact Nat.le_refl _)]
  rw[e16];refine⟨fun x h=>by omega,by omega,by rw[ae,SI (by omega),ae,SI (by omega),p6 _ (by omega)];exact jB,by rw[au,au];omega,by rw[au,au];omega,fun id h1 h2 h3=>by rw[ae,SI h3,ae,SI h2,p6 _ (by omega),o3 _ (by omega)];exact hj.2.1 id h1 h2 h3,by rw[ae,SK rfl];rfl,pv2,by rw[ae,SI (by omega),ae,SK rfl],?_⟩;rw[aL hpol,Tq];exact hO.keep (Nat.le_refl _) (by rw[au,au];exact Nat.le_refl _) fun id g h1 _ _ _=>by rw[ae,SI (by omega),ae,SI (by omega)]
 ·rw[kY]at hj;obtain⟨pv,a1,a2⟩:=hj.2.2.2;have hxn:=hj.1;have hall:(cB (aT d) b).take (az d).length=cB (aT d) b:=SH (by rw[xE,hrl];exact Nat.le_refl _);rw[hall]at a2;have kold:∀id,id<R.next->id≠H.next+1->Hx.get id=R.get id:=fun id h h1=>(hj.2.1 _ (by omega) h1 (by omega)).trans ((rfo id (by omega)).trans (eold id h));have q0:=ah ((kold H.next (by omega) (by omega)).trans g0);unfold bK at q0;have q1:=ah a1;have q2:=ah ((kold (H.next+2) (by omega) (by omega)).trans g2);have t1:=a2.cells;have t2:=a2.one;have hpw:=zq hok.net.g1 d.nodes.length n8.2;have hvk:=(B0 hok h6 b).sum (jd d).length (Nat.le_refl _);rw[BY hok]at hvk;have q1u:∀c,((Hx.upd (H.next+1) c)).live (H.next+2) 0=_:=fun c=>(bQ (by omega)).trans q2;have q2u:∀c b',((Hx.upd (H.next+1) (.arr 0 33 [c])).upd (H.next+2) b').live (H.next+1) 0=some (33,[c]):=fun c b'=>(bQ (by omega)).trans jj;simp only[go_sem];refine W.seq ?_;refine W.dr 9 [0,0,0,4,0,16,48,124,254] mixed ?_;simp only[go_sem,u1,u2,u3,u11,q0,q1];refine⟨aa (d.grain ^ d.nodes.length),[],bf.pure fun H2=>Dk d.grain d.nodes.length hok.net.g1 n8.2 H2 _ ⟨rfl,rfl⟩,?_⟩;simp only[go_sem];obtain⟨r1,r2,hrr⟩:∃r1 r2,dV (bW d (cB (aT d) b)) (d.grain ^ d.nodes.length)=.agg [.lit (.int .i64 r1),.lit (.int .i64 r2)]:=⟨_,_,rfl⟩
  refine⟨dV (bW d (cB (aT d) b)) (d.grain ^ d.nodes.length),[],bf.pure fun H2=>Dl _ _ hvk (by omega) H2 _ ⟨rfl,rfl⟩,?_⟩;rw[hrr];simp only[go_sem,q1u,t1,t2];refine W.vs ?_;simp only[go_sem,u2,u3,q2u];have hKb:=hK b hok hp4 hB;rw[hrr]at hKb;have ovx:Over H Hx:=⟨by omega,fun id h=>(kold id (by omega) (by omega)).trans (oR.old id h)⟩
  have a2':ay (Rf.next+1) ((Hx.upd (H.next+1) (.arr 0 33 [pv])).upd (H.next+2) (.arr 0 50 [.lit (.int .i64 r1),.lit (.int .i64 r2)])) 42 pv ((cB (aT d) b).map af) :=
   a2.keep (Nat.le_refl _) (by rw[au,au];exact Nat.le_refl _) fun id g h1 _ _ _=>by rw[ae,SI (by omega),ae,SI (by omega)]
  have hfz:Fz (fun id=>H.next<=id) ((Hx.upd (H.next+1) (.arr 0 33 [pv])).upd (H.next+2) (.arr 0 50 [.lit (.int .i64 r1),.lit (.int .i64 r2)])) H.next pv (aj (cB (aT d) b)):=by
   have:=a2'.fz (S:=fun id=>H.next<=id) (nx:=H.next) (cs':=(cB (aT d) b).map af) (fun i h=>by omega) rfl fun i hi hi'=>by rw[SV];exact .cI _
   rw[SM]at this;exact this
  refine ar.aV aE hcl ((ovx.upd (by omega) _).upd (by omega) _) ?_ hKb;exact .tup rfl fun i hi _=>match i,hi with
   |0,_=>hfz
   |1,_=>.agg rfl fun j hj _=>match j,hj with
    |0,_=>.lit _
    |1,_=>.lit _
   |2,_=>.lit _
instance (a:List Int)(n:Int):Decidable (bO a n):=by unfold bO;infer_instance
instance (g c:Int)(r:List Int):Decidable (jz g c r):=by unfold jz;infer_instance
instance (g:Int)(ns:List NodeP)(x:NodeP):Decidable (fO g ns x):=by unfold fO;infer_instance
instance (ps:List Nat):Decidable (j7 ps):=by unfold j7;infer_instance
theorem R9 (d:InfP)(h1:1<=d.nodes.length/\d.nodes.length<=8)(h2:d.decs >>> d.nodes.length=0)(h3:∀x∈d.nodes,1<=x.card/\x.card<=4)(h4:∀v,v<d.nodes.length->d.decs.testBit v=true->(d.nodes.getD v ⟨0,[],[]⟩).rows=[]/\bO (d.nodes.getD v ⟨0,[],[]⟩).parents d.nodes.length)
  (h5:(1<=d.grain/\d.grain<=60)/\∀x∈bG d (fun _ _=>0),(1<=x.card/\x.card<=4)/\bO x.parents (bG d (fun _ _=>0)).length) (h6:ao (ak (bG d fun _ _=>0))<=1024) (h7:j7 (bj (bG d fun _ _=>0))) (h8:∀x∈bG d (fun _ _=>0),fO d.grain (bG d fun _ _=>0) x)
  (h9:d.utils.length<=4/\∀u∈d.utils,bO u.vars d.nodes.length/\(u.w.length:Int)=ao (aI (ak d.nodes) u.vars)/\∀x∈u.w,-100<=x/\x<=100):InfOk d :=
 ⟨⟨h1,h2,h3,fun v x hx hb=>by
  have:=h4 v (get_lt hx) hb;rw[S2,hx]at this;exact this⟩,⟨h5.1,by rw[dB];exact h1,h5.2,h6,h7,h8⟩,⟨h9.1,fun u hu=>⟨(h9.2 u hu).1,(h9.2 u hu).2.1,(h9.2 u hu).2.2⟩⟩⟩
def dS:InfP:=⟨2,[⟨2,[],[[1,1]]⟩,⟨2,[0],[]⟩,⟨2,[1],[]⟩],6,[⟨[0,2],[10,0,0,10]⟩]⟩
theorem mg:InfOk dS:=R9 dS (by decide) (by decide) (by decide) (by decide) (by decide) (by decide) (by decide) (by decide) (by decide)
theorem zw (a b c e:Int)(h:(0<=a/\a<2)/\(0<=b/\b<2)/\(0<=c/\c<2)/\(0<=e/\e<2)):PolOk dS [[a,b],[c,e]]:=by
 have hr:aT dS=[(2,2),(2,2)]:=by kernel_rfl
 refine sG.2 ⟨by rw[hr];rfl,fun k q r h1 h2=>?_⟩;rw[hr]at h1
 match k,h1,h2 with
 |0,h1,h2 =>
  cases h1;cases h2;refine⟨rfl,fun x hx=>?_⟩;simp at hx;omega
 |1,h1,h2 =>
  cases h1;cases h2;refine⟨rfl,fun x hx=>?_⟩;simp at hx;omega
theorem Sa:cK dS [[0,0]]=201:=by
 have hr:aT dS=[(2,2),(2,2)]:=by kernel_rfl
 have hn:¬PolOk dS [[0,0]]:=fun h=>by
  have:=(sG.1 h).1;rw[hr]at this;simp at this
 unfold cK;rw[dU mg,eV hn];rfl
theorem zx:isLocal dS [[0,0],[0,0]]:=of_decide_eq_true (by kernel_rfl)
theorem Eh:¬isLocal dS [[0,1],[0,0]]:=of_decide_eq_false (by kernel_rfl)
theorem Sb:isLocal dS [[0,1],[0,1]]:=of_decide_eq_true (by kernel_rfl)
theorem Sc:¬isLocal dS [[1,1],[1,0]]:=of_decide_eq_false (by kernel_rfl)
theorem Sd:isLocal dS [[1,0],[1,0]]:=of_decide_eq_true (by kernel_rfl)
theorem Se:qK dS [[0,1],[0,0]]=[[0,1],[0,1]]:=by kernel_rfl
theorem Sf:qK dS [[1,1],[1,0]]=[[1,0],[1,0]]:=by kernel_rfl
theorem zy:bW dS [[0,1],[0,1]]=80:=by kernel_rfl
theorem Sg:bW dS [[0,0],[0,0]]=40:=by kernel_rfl
theorem Sh:bW dS [[1,0],[1,0]]=80:=by kernel_rfl
theorem zz:dV 80 (dS.grain ^ dS.nodes.length)=.agg [aa 10,aa 1]:=by kernel_rfl
theorem Si:dV 40 (dS.grain ^ dS.nodes.length)=.agg [aa 5,aa 1]:=by kernel_rfl
theorem Ei:eH dS=16:=by kernel_rfl
theorem Ej:cB (aT dS) (5:Nat)=[[0,1],[0,1]]:=by kernel_rfl
theorem Sj:∀b:Nat,b<16->b=5\/(b<5/\bW dS (cB (aT dS) (b:Int))<80)\/(5<b/\bW dS (cB (aT dS) (b:Int))<=80):=of_decide_eq_true (by kernel_rfl)
theorem Sk {b:Nat}(h:BestAt dS ((eH dS).toNat-1) b):b=5:=by
 rw[Ei]at h;have hle:=h.le;have h5:bW dS (cB (aT dS) (5:Nat))=80:=by rw[Ej];exact zy
 rcases Sj b (by simp at hle;omega) with e|⟨e1,e2⟩|⟨e1,e2⟩
 ·exact e
 ·have:=h.max 5 (by decide);rw[h5]at this;omega
 ·have:=h.first 5 e1;rw[h5]at this;omega
theorem Ek {d:InfP}{p q q1:List (List Int)}{n:Nat}(h:Imp d p q n)(hl:isLocal d q)(h0:¬isLocal d p)(h1:qK d p=q1)(hl1:isLocal d q1):q=q1/\n=1:=by
 have e:n=1:=by
  refine Ty fun hn=>?_;rcases S9 n 1 with hlt|hge
  ·have:n=0:=(by omega);subst this;exact h0 (h.same rfl ▸ hl)
  ·exact h.bef 1 (by omega) (by show isLocal d (qK d (qL d p 0));rw[show qL d p 0=p from rfl,h1];exact hl1)
 subst e;exact⟨by rw[h.it];exact h1,rfl⟩
theorem El (H:AHeap)(K:ARes->AHeap->Prop)(hK:K (.ret (cW dS)) H):ag prog G0 50 [] H K:=by
  refine ag.clo ⟨_,func50,rfl,rfl⟩ fun hcl=>?_;have e:cW dS=.agg [aa 2,.vec 3 [aa 2,.vec 0 [],.vec 1 [.vec 2 [aa 1,aa 1]],aa 2,.vec 1 [aa 0],.vec 0 [],aa 2,.vec 1 [aa 1],.vec 0 []],.lit (.int .u64 6),.vec 1 [.vec 2 [aa 0,aa 2],.vec 4 [aa 10,aa 0,aa 0,aa 10]]]:=rfl;rw[e]at hK;refine ag.sw (n:=14) (rs:=[.cell 0 38]) func50 ?_;refine W.sq ?_;simp only[go_sem,bd];refine W.sq ?_;simp only[go_sem,bd]
  repeat (refine⟨by decide,?_⟩)
  refine W.vs ?_;simp only[go_sem,bd];refine ar.aV aE hcl (.ext _ _) (FzL.agg ?_) hK
  repeat (first|exact FzL.nil|refine FzL.cons ?_ ?_|exact Fz.lit _|exact Fz.nil|refine FzL.own (by omega) (bD H _ _ (by simp)) rfl ?_)
theorem zA (a1 a2 b1 b2 c1 c2 e1 e2 n m:Int)(mm:Nat)(hmm:m=mm)(hp:PolOk dS [[a1,a2],[b1,b2]])(hres:∀q k,Imp dS [[a1,a2],[b1,b2]] q k->isLocal dS q->q=[[c1,c2],[e1,e2]]/\k=mm)
    (hq:dV (bW dS [[c1,c2],[e1,e2]]) (dS.grain ^ dS.nodes.length)=.agg [aa n,aa 1]) (H:AHeap) (K:ARes->AHeap->Prop) (hK:K (.ret (.lit (.bool true))) H):
    ag prog G0 51 [.agg [aa a1,aa a2],.agg [aa b1,aa b2],.agg [aa c1,aa c2],.agg [aa e1,aa e2],aa n,aa m] H K:=by
  refine ag.clo ⟨_,func51,rfl,rfl⟩ fun hcl=>?_;refine ag.sw (n:=47) (rs:=[.tmp 12]) func51 ?_;refine W.sq ?_;simp only[go_sem,bd];obtain⟨R,hR⟩:∃R,R=ext H [.arr 0 97 [aa a1,aa a2],.arr 0 97 [aa b1,aa b2],.arr 0 97 [aa c1,aa c2],.arr 0 97 [aa e1,aa e2]]:=⟨_,rfl⟩
  have nR:R.next=H.next+4:=hR▸rfl
  have oR:Over H R:=hR▸.ext _ _
  have g0:R.get H.next=some (.arr 0 97 (ints [a1,a2])):=by rw[hR];exact cq ..
  have g1:R.get (H.next+1)=some (.arr 0 97 (ints [b1,b2])):=by rw[hR];exact bD H _ 1 (by simp)
  have g2:R.get (H.next+2)=some (.arr 0 97 (ints [c1,c2])):=by rw[hR];exact bD H _ 2 (by simp)
  have g3:R.get (H.next+3)=some (.arr 0 97 (ints [e1,e2])):=by rw[hR];exact bD H _ 3 (by simp)
  simp only[aa]at hR;rw[<- hR];clear hR;have l0:=ah g0;have l1:=ah g1;have l2:=ah g2;have l3:=ah g3;refine W.en (fun E=>E 4=aa n /\ E 5=aa m /\ E 6=.ptr H.next 0 0 /\ E 7=.ptr (H.next+1) 0 0 /\ E 8=.ptr (H.next+2) 0 0 /\ E 9=.ptr (H.next+3) 0 0) (by simp only[go_sem,bd]) fun E ⟨f4,f5,f6,f7,f8,f9⟩=>?_
  have er:List.drop 1 (List.drop 1 (List.replicate 2 (AVal.lit (.slice none 0 0))))=[]:=rfl;have two:∀(X:AHeap) (L i j:Nat) (x1 x2 y1 y2:Int),L<X.next->i<X.next->j<X.next->X.get L=some (.arr 0 42 [.own i 0 0 2 1,.own j 0 0 2 1])->X.get i=some (.arr 0 97 (ints [x1,x2]))->X.get j=some (.arr 0 97 (ints [y1,y2]))->px X (.own L 0 0 2 1) [[x1,x2],[y1,y2]]:=fun X L i j x1 x2 y1 y2 hL hi hj h0 h1 h2 =>
    .inr ⟨L,0,_,[.own i 0 0 2 1,.own j 0 0 2 1],rfl,hL,h0,rfl,fun k l hk=>match k,hk with
      |0,hk=>by cases hk;exact⟨i,0,_,rfl,hi,h1⟩
      |1,hk=>by cases hk;exact⟨j,0,_,rfl,hj,h2⟩⟩
  have x0:∀b,(ext R [b]).get H.next=R.get H.next:=fun b=>bb (by omega);have x1:∀b,(ext R [b]).get (H.next+1)=R.get (H.next+1):=fun b=>bb (by omega);refine W.seq ?_;refine W.dr 14 [0,0,0,6,15,31,63,63,63,63,0,1151,3327,7679] mixed ?_;simp only[go_sem,f4,f5,f6,f7,f8,f9,l0,l1,er,bd];refine⟨cW dS,[],bf.pure fun H2=>El H2 _ ⟨rfl,rfl⟩,?_⟩;simp only[go_sem,f6,f7,er,bd];refine⟨by decide,by decide,.tup [aj [[c1,c2],[e1,e2]],.agg [aa n,aa 1],aa mm,aa 0],[H.next,H.next+1,R.next],bf.mk (fun i hi=>by rw[aS];simp at hi ⊢;omega) fun H2 h2 hn2=>?_,?_⟩
  · rw[aS]at hn2;simp only[T0]at hn2;refine DP dS mg (by decide) [[a1,a2],[b1,b2]] hp H2 (.own R.next 0 0 2 1) (two H2 R.next H.next (H.next+1) a1 a2 b1 b2 (by omega) (by omega) (by omega) ((h2 _ (by simp)).trans bX) ((h2 _ (by simp)).trans ((x0 _).trans g0)) ((h2 _ (by simp)).trans ((x1 _).trans g1))) _ fun q k hI hl=>?_;obtain⟨rfl,rfl⟩:=hres q k hI hl;rw[hq];exact⟨rfl,rfl⟩
  simp only[go_sem,f6,f7,er,bd];refine⟨⟨fun x h=>by omega,fun x h=>by omega,fun x h=>by omega⟩,?_⟩;obtain⟨R2,hR2⟩:∃R2,R2=ext (ext R [.arr 0 42 [.own H.next 0 0 2 1,.own (H.next+1) 0 0 2 1]]) [.arr 0 50 [.lit (.int .i64 n),.lit (.int .i64 1)]]:=⟨_,rfl⟩
  have nR2:R2.next=R.next+2:=by rw[hR2];rfl
  have r2o:∀id,id<R.next->R2.get id=R.get id:=fun id h=>by rw[hR2,bb (by rw[aS];omega),bb h]
  have q1:R2.get (R.next+1)=some (.arr 0 50 [.lit (.int .i64 n),.lit (.int .i64 1)]):=by
    have e:(ext R [.arr 0 42 [.own H.next 0 0 2 1,.own (H.next+1) 0 0 2 1]]).next=R.next+1:=(by rw[aS];rfl);rw[hR2,<- e];exact bX
  rw[<- hR2];clear hR2;refine W.en (fun E2=>E2 4=aa n /\ E2 5=aa mm /\ E2 8=.ptr (H.next+2) 0 0 /\ E2 9=.ptr (H.next+3) 0 0 /\ E2 13=aj [[c1,c2],[e1,e2]] /\ E2 14=.ptr (R.next+1) 0 0 /\ E2 15=aa mm /\ E2 16=aa 0) (by simp only[go_sem,f4,bd,f5,hmm,f8,f9]) fun E2 ⟨k4,k5,k8,k9,k13,k14,k15,k16⟩=>?_
  have y2:=ah ((r2o (H.next+2) (by omega)).trans g2);have y3:=ah ((r2o (H.next+3) (by omega)).trans g3);have yq:=ah q1;have eqQ:∀o1 o2,bx prog .eql 50 o1 o2 (.agg [.lit (.int .i64 n),.lit (.int .i64 1)]) (.agg [.lit (.int .i64 n),.lit (.int .i64 1)])=some (.lit (.bool true)):=fun o1 o2=>by rw[Bu];simp
  refine W.seq ?_;refine W.dr 18 [0,1,3,7,7,23,63,127,255,511,511,2047,4095,8191,16383,16383,16383,114687] mixed ?_;simp only[go_sem,k4,k5,k8,k9,k13,k14,k15,k16,y2,y3,yq,eqQ,er,bd];have ovR:Over H R2:=oR.trans ⟨by omega,r2o⟩;obtain⟨R3,hR3⟩:∃R3,R3=ext R2 [.arr 0 42 [.own (H.next+2) 0 0 2 1,.own (H.next+3) 0 0 2 1]]:=⟨_,rfl⟩
  have nR3:R3.next=R2.next+1:=hR3▸rfl
  have r3o:∀id,id<R2.next->R3.get id=R2.get id:=fun id h=>by rw[hR3,bb h]
  have z0:=df hR3
  rw[<- hR3];clear hR3;have z2:=(r3o (H.next+2) (by omega)).trans ((r2o (H.next+2) (by omega)).trans g2);have z3:=(r3o (H.next+3) (by omega)).trans ((r2o (H.next+3) (by omega)).trans g3);refine⟨by decide,by decide,?_⟩;refine aw.clo ((ag.frame (H:=R3) (args:=[aj [[c1,c2],[e1,e2]],.own R2.next 0 0 2 1]) (args':=[aj [[c1,c2],[e1,e2]],aj [[c1,c2],[e1,e2]]]) (v':=.lit (.bool (decide ([[c1,c2],[e1,e2]]=[[c1,c2],[e1,e2]])))) aE rfl (fun i hi _=>match i,hi with
    |0,_=>qq _
    |1,_=>(two R3 R2.next (H.next+2) (H.next+3) c1 c2 e1 e2 (by omega) (by omega) (by omega) z0 z2 z3).fz (.refl _)) (yV [[c1,c2],[e1,e2]] [[c1,c2],[e1,e2]] (by simp) (fun r hr=>by simp at hr;rcases hr with rfl|rfl<;>simp) cz _ ⟨_,rfl,.lit _⟩)).mono fun r H' hr=>?_)
  obtain⟨rfl,rfl⟩:=hr;rw[Tm rfl];refine⟨trivial,?_⟩;simp only[go_sem,bd];refine W.vs ?_;simp only[go_sem,bd];exact ar.aV aE hcl (ovR.trans ⟨by omega,r3o⟩) (.lit _) hK
theorem Sl {H:AHeap}{n nx:Nat}(hn:n<=H.next){a:List Int}{e1 e0:TypeId}:Fz (fun id=>n<=id) (ext H [.arr 0 e0 (ints a),.arr 0 e1 [.own H.next 0 0 a.length 1]]) nx (.own (H.next+1) 0 0 1 1) (aj [a]) :=
  FzL.own (by omega) (bD H _ 1 (by simp)) rfl (.cons (FzL.own hn (cq ..) (by rw[aH,Nat.mul_one]) (zC a)) .nil)
theorem zB {H:AHeap}{n nx:Nat}(hn:n<=H.next){a b:List Int}{e1 e0:TypeId}:Fz (fun id=>n<=id) (ext H [.arr 0 e0 (ints a),.arr 0 e0 (ints b),.arr 0 e1 [.own H.next 0 0 a.length 1,.own (H.next+1) 0 0 b.length 1]]) nx (.own (H.next+2) 0 0 2 1) (aj [a,b]) :=
  FzL.own (by omega) (bD H _ 2 (by simp)) rfl (.cons (FzL.own hn (cq ..) (by rw[aH,Nat.mul_one]) (zC a)) (.cons (FzL.own (by omega) (bD H _ 1 (by simp)) (by rw[aH,Nat.mul_one]) (zC b)) .nil))
theorem Em {d:InfP}(hok:InfOk d){p:List (List Int)}(hp:PolOk d p):qN d p=decide (isLocal d p):=SK (nW hok hp)
theorem Sm (H:AHeap)(K:ARes->AHeap->Prop)(hK:K (.ret (.lit (.bool true))) H):ag prog G0 18 [] H K:=by
  refine ag.clo ⟨_,func18,rfl,rfl⟩ fun hcl=>?_;have fS:=sH mg;refine ag.sw (n:=97) (rs:=[.tmp 0]) func18 ?_;refine W.sq ?_;simp only[go_sem,bd];refine W.sq ?_;simp only[go_sem,bd];refine aw.clo (El _ _ ⟨trivial,?_⟩);simp only[go_sem,gI,bK,bd];obtain⟨H1,hH1⟩:∃H1,H1=ext H [.arr 0 38 [.lit (.int .i64 dS.grain),.vec dS.nodes.length (aF dS.nodes),.lit (.int .u64 (dS.decs:Int)),.vec dS.utils.length (aO dS.utils)]]:=⟨_,rfl⟩
  have g1:=df hH1
  have n1:H1.next=H.next+1:=hH1▸rfl
  have o1:Over H H1:=hH1▸.ext _ _
  rw[<- hH1];clear hH1;have l1:=ah g1;have p00:PolOk dS [[0,0],[0,0]]:=zw 0 0 0 0 (by decide);have p10:PolOk dS [[0,1],[0,0]]:=zw 0 1 0 0 (by decide);have p30:PolOk dS [[1,1],[1,0]]:=zw 1 1 1 0 (by decide);have fit1:ji [[0,0]]:=⟨by simp,fun r hr=>by simp at hr;subst hr;simp⟩
  refine W.sq ?_;simp only[go_sem,l1,bd]
  repeat (refine⟨by decide,?_⟩)
  refine aw.mQ aE (.ext H1 _) (.cons (qM dS) (.cons (zB (a:=[0,0]) (b:=[0,0]) (Nat.le_refl _)) .nil)) fun H4 o4=>vS dS fS (by decide) [[0,0],[0,0]] (lT mg p00) _ _ ⟨trivial,?_⟩;rw[Em mg p00,Tm zx,nW mg p00];have l1:=ah ((o4.old _ (by omega)).trans g1);simp only[go_sem,bd];refine W.sq ?_;simp only[go_sem,l1,bd]
  repeat (refine⟨by decide,?_⟩)
  refine aw.mQ aE (o4.trans (.ext H4 _)) (.cons (qM dS) (.cons (zB (a:=[0,1]) (b:=[0,0]) o4.next) .nil)) fun H5 o5=>vS dS fS (by decide) [[0,1],[0,0]] (lT mg p10) _ _ ⟨trivial,?_⟩;rw[Em mg p10,TD Eh,nW mg p10];have l1:=ah ((o5.old _ (by omega)).trans g1);simp only[go_sem,bd];refine W.sq ?_;simp only[go_sem,l1,bd];refine aw.clo (Og dS fS (by decide) _ _ (fun h=>absurd (by unfold iG;rw[dU mg,Ei];rfl) h) fun b _ _ hB=>⟨trivial,?_⟩);obtain rfl:=Sk hB;rw[Ej,zy,zz];simp only[go_sem,bd];obtain⟨H6,hH6⟩:∃H6,H6=ext H5 [.arr 0 50 [.lit (.int .i64 10),.lit (.int .i64 1)]]:=⟨_,rfl⟩
  have q1:=df hH6
  have n6:H6.next=H5.next+1:=hH6▸rfl
  have o6:Over H1 H6:=by rw[hH6];exact o5.trans (.ext _ _)
  rw[<- hH6];clear hH6;have l1:=ah ((o6.old _ (by omega)).trans g1);refine W.sq ?_;simp only[go_sem,l1,bd]
  repeat (refine⟨by decide,?_⟩)
  refine aw.mQ aE (.ext H6 _) (.cons (qM dS) (.cons (Sl (a:=[0,0]) (Nat.le_refl _)) .nil)) fun H7 o7=>vS dS fS (by decide) [[0,0]] fit1 _ _ ⟨trivial,?_⟩;rw[Sa];have lq:=ah ((o7.old _ (by omega)).trans q1);have eqQ:∀o1 o2,bx prog .eql 50 o1 o2 (.agg [.lit (.int .i64 10),.lit (.int .i64 1)]) (.agg [.lit (.int .i64 10),.lit (.int .i64 1)])=some (.lit (.bool true)):=fun o1 o2=>by rw[Bu];rfl
  simp only[go_sem,bd];refine W.sq ?_;simp only[go_sem,lq,eqQ,bd]
  repeat (refine⟨by decide,?_⟩)
  refine aw.mQ aE (o7.trans (.ext H7 _)) (.cons (qq _) (.cons (zB (a:=[0,1]) (b:=[0,1]) o7.next) .nil)) fun H8 o8=>yV [[0,1],[0,1]] [[0,1],[0,1]] (by decide) (by decide) _ _ ⟨trivial,?_⟩;rw[Tm (rfl:([[0,1],[0,1]]:List (List Int))=[[0,1],[0,1]])];simp only[go_sem,bd];refine W.sq ?_;simp only[go_sem,bd];refine aw.clo (zA 0 1 0 0 0 1 0 1 10 1 1 rfl p10 (fun q k hI hl=>Ek hI hl Eh Se Sb) (by rw[zy];exact zz) _ _ ⟨trivial,?_⟩);simp only[go_sem,bd];refine aw.clo (zA 0 0 0 0 0 0 0 0 5 0 0 rfl p00 (fun q k hI hl=>⟨hI.same (hI.loc zx),hI.loc zx⟩) (by rw[Sg];exact Si) _ _ ⟨trivial,?_⟩);simp only[go_sem,bd];refine aw.clo (zA 1 1 1 0 1 0 1 0 10 1 1 rfl p30 (fun q k hI hl=>Ek hI hl Sc Sf Sd) (by rw[Sh];exact zz) _ _ ⟨trivial,?_⟩);simp only[go_sem,bd];have oK:Over H H8:=o1.trans (o6.trans o8)
  first
  |exact ar.aV aE hcl oK (.lit _) hK
  | (refine W.vs ?_
     simp only[go_sem,bd];exact ar.aV aE hcl oK (.lit _) hK)
end Go.Proofs
namespace Go.Hx
variable {P:Program} {G:Nat->Option (List AVal)}
def AHeap.nI (H:AHeap)(n:Nat):AHeap:=⟨fun id=>if n<=id then none else H.get id,H.next⟩
theorem NP {H:AHeap}{n id:Nat}(h:id<n):(H.nI n).get id=H.get id:=by simp[AHeap.nI,VV.2 h]
theorem cJ.NQ (hG:fm G){s:St}{n t0:Nat}{v':AVal}(h:Fz (fun id=>n<=id) s.H s.H.next (s.ρ t0) v'):cJ P G s ⟨fun t=>if t=t0 then v' else s.ρ t,s.H.nI n⟩:=by
 intro n' wb Γ a w hs;have hc:=hs.heap.clo;refine cJ.freeze (s:=s) (s':=⟨fun t=>if t=t0 then v' else s.ρ t,s.H.nI n⟩) (S:=fun id=>n<=id) hG ⟨fun id hs=>by simp[AHeap.nI,hs],fun id b hs hb=>⟨hc.lt id b hb,b,by simp[AHeap.nI,hs,hb],?_⟩,fun id hs hb=>by simp[AHeap.nI,hs,hb]⟩ (fun t=>?_) n' wb Γ a w hs
 ·have hbb:=hc.below id b hb;cases b with
  |rsv=>trivial
  |mp=>rfl
  |arr g e cells=>exact⟨rfl,rfl,rfl,fun i h _=>.dead (hbb i h)⟩
  |loop st pend n env ps asg body=>exact⟨rfl,rfl,rfl,rfl,rfl,rfl,rfl,fun t ht=>.dead (hbb t ht)⟩
 ·by_cases e:t=t0
  ·subst e;simp only[if_true];exact h
  ·simp only[SI e];exact .dead (hs.env t).nt
end Go.Hx
namespace Go.Proofs
open Go.Hx Tryz
theorem BO {f:FuncId}{H:AHeap}{K:ARes->AHeap->Prop}(d:InfP)(cs:List AVal){e:Nat->Prop}(hq:NodesQ e d.nodes cs)(p:List (List Int))(h:ag prog G0 f [cW d,aj p] H K):ag prog G0 f [dw d cs,aj p] H K :=
 ag.zu (args':=[cW d,aj p]) aE rfl (fun i hi _=>match i,hi with
  |0,_=>.agg rfl fun j hj _=>match j,hj with
   |0,_=>.lit _
   |1,_=>.vec (by rw[hq.len,iI]) fun i h h'=>hq.uK i h h'
   |2,_=>.lit _
   |3,_=>.vec rfl fun i h _=>uU _ _ (Tk h)
  |1,_=>qq p) h
structure Small4 (p:List (List Int)):Prop where
 len:p.length<=8
 row:∀r∈p,r.length<=1024
theorem Small4.fit {p:List (List Int)}(h:Small4 p):ji p:=⟨by have:=h.len;omega,fun r hr=>by have:=h.row r hr;omega⟩
theorem NR {d:InfP}(hok:InfOk d){q:List (List Int)}(hq:PolOk d q):∀k,k<=(az d).length->∃b r,Rnd d q k b r:=by
 intro k
 induction k with
 |zero=>exact fun _=>⟨false,q,.start hq⟩
 |succ k ih =>
  intro hk;obtain⟨b,r,hR⟩:=ih (by omega);obtain⟨v,hv⟩:=get_of_lt (l:=az d) (i:=k) (by omega);by_cases hb:dZ d r v
  ·exact⟨b,r,hR.yU hv hb⟩
  ·exact⟨true,_,hR.step hok hv hb⟩
theorem NS {d:InfP}(hok:InfOk d)(h6:d.nodes.length<=6){p:List (List Int)}(hp:PolOk d p):∃q n,Imp d p q n/\isLocal d q:=by
 have key:∀m,(∃q n,Imp d p q n/\isLocal d q)\/∃q,Imp d p q m:=by
  intro m
  induction m with
  |zero=>exact .inr ⟨p,.start hp⟩
  |succ m ih =>
   rcases ih with h|⟨q,hI⟩
   ·exact .inl h
   ·by_cases hl:isLocal d q
    ·exact .inl ⟨q,m,hI,hl⟩
    ·obtain⟨b,r,hR⟩:=NR hok hI.ok _ (Nat.le_refl _);cases b with
     |true=>exact .inr ⟨r,hI.round hR⟩
     |false=>exact absurd hR.done.2 hl
 rcases key 50000000000000000 with h|⟨q,hI⟩
 ·exact h
 ·have:=hI.bound hok h6;omega
theorem NT (d:InfP)(hf:InfFit d)(h6:d.nodes.length<=6)(p:List (List Int))(hpf:ji p)(H:AHeap)(K:ARes->AHeap->Prop)
  (hE:cK d p≠0->K (.ret (.tup [.lit (.slice none 0 0),.agg [.lit (.int .i64 0),.lit (.int .i64 0)],aa 0,aa (cK d p)])) H)
  (hK:InfOk d->PolOk d p->∀q n,Imp d p q n->isLocal d q->K (.ret (.tup [aj q,dV (bW d q) (d.grain ^ d.nodes.length),aa n,aa 0])) H):
  ag prog G0 11 [cW d,aj p] H K:=by
 by_cases he:cK d p=0
 ·obtain⟨hok,hp⟩:=zc he;exact Ri d hok h6 p hp H K (hK hok hp)
 refine ag.clo ⟨_,func11,rfl,rfl⟩ fun hcl=>?_;refine ag.st (n:=76) (rs:=[.cell 4 33,.cell 5 50,.cell 6 3,.cell 7 46]) func11 ?_;simp only[go_sem,gI,bK];refine aw.clo (sS d hf p hpf _ _ ⟨trivial,?_⟩);obtain⟨R,hR⟩:∃R,R=ext H [.arr 0 38 [.lit (.int .i64 d.grain),.vec d.nodes.length (aF d.nodes),.lit (.int .u64 (d.decs:Int)),.vec d.utils.length (aO d.utils)],.arr 0 33 [.lit (.slice none 0 0)],.arr 0 50 [.lit (.int .i64 0),.lit (.int .i64 0)],.arr 0 3 [.lit (.int .i64 0)],.arr 0 46 [.lit (.int .i64 0)]]:=⟨_,rfl⟩
 have nR:R.next=H.next+5:=hR▸rfl
 have oR:Over H R:=hR▸.ext _ _
 have g1:=gE hR 1 rfl
 have g2:=gE hR 2 rfl
 have g3:=gE hR 3 rfl
 have g4:=gE hR 4 rfl
 rw[<- hR];clear hR;have l1:=ah g1;have l2:=ah g2;have l3:=ah g3;have l4:=ah g4;have y2u:∀b,(R.upd (H.next+1) b).live (H.next+2) 0=_:=fun b=>(bQ (by omega)).trans l2;have y3u:∀b b',((R.upd (H.next+1) b).upd (H.next+2) b').live (H.next+3) 0=_:=fun b b'=>(bQ (by omega)).trans ((bQ (by omega)).trans l3);have y4u:∀b b' b'',(((R.upd (H.next+1) b).upd (H.next+2) b').upd (H.next+3) b'').live (H.next+4) 0=_:=fun b b' b''=>(bQ (by omega)).trans ((bQ (by omega)).trans ((bQ (by omega)).trans l4));have f1:∀c b b' b'',((((R.upd (H.next+1) (.arr 0 33 [c])).upd (H.next+2) b).upd (H.next+3) b').upd (H.next+4) b'').live (H.next+1) 0=some (33,[c]):=fun c b b' b''=>(bQ (by omega)).trans ((bQ (by omega)).trans ((bQ (by omega)).trans jj));have f2:∀b c b' b'',((((R.upd (H.next+1) b).upd (H.next+2) (.arr 0 50 c)).upd (H.next+3) b').upd (H.next+4) b'').live (H.next+2) 0=some (50,c):=fun b c b' b''=>(bQ (by omega)).trans ((bQ (by omega)).trans jj);have f3:∀b b' c b'',((((R.upd (H.next+1) b).upd (H.next+2) b').upd (H.next+3) (.arr 0 3 c)).upd (H.next+4) b'').live (H.next+3) 0=some (3,c):=fun b b' c b''=>(bQ (by omega)).trans jj;simp only[go_sem,he,l1,y2u,y3u,y4u,f1,f2,f3];refine ar.aV aE hcl ((((oR.upd (by omega) _).upd (by omega) _).upd (by omega) _).upd (by omega) _) (.tup rfl fun i hi _=>?_) (hE he)
 match i,hi with
 |0,_=>exact .lit _
 |1,_=>exact .agg rfl fun i hi _=>match i,hi with|0,_=>.lit _|1,_=>.lit _
 |2,_=>exact .lit _
 |3,_=>exact .lit _
theorem NU (d:D20)(hd:d.Ok)(w w5 a r n5 n0:Int)(hw:0<=w/\w<=255)(hw5:0<=w5/\w5<=255)(ha:0<=a/\a<=255)(hr:0<=r/\r<=255)(bs:List Int)(hbl:(bs.length:Int)<2 ^ 63)(hb8:∀x∈bs,U8 x)(at' n:Int)(hat:0<=at'/\at'<=255)
  (raw:List (List Int)) (hraw:(raw.length:Int)<2 ^ 63) (hrr:∀r∈raw,(r.length:Int)<2 ^ 63) (H:AHeap) (K:ARes->AHeap->Prop) (hK:∀H',H.next<=H'.next->K (.ret (.lit (.bool true))) H'):
  ag prog G0 3 [.agg d.cells,.agg (rX w (kH w5 a r n5) n0),.vec bs.length (bZ bs),.lit (.int .u8 at'),.lit (.int .i64 n),aj raw] H K:=by
 refine ag.sw (n:=154) (rs:=[.tmp 12]) func3 ?_;refine W.sq ?_;simp only[go_sem,D20.cells,rX,kH];obtain⟨H1,hH1⟩:∃H1,H1=ext H [.arr 0 28 [.lit (.int .u8 d.g),.vec d.ps.length (fZ d.ps),.vec d.ord.length (bZ d.ord),.lit (.int .u8 d.decs),.lit (.bool d.rem),.vec d.us.length (mF d.us)],.arr 0 32 [.lit (.int .u8 w),.lit (.int .u8 w5),.lit (.int .u8 a),.lit (.int .u8 r),.lit (.int .i64 n5),.lit (.int .i64 n0)]]:=⟨_,rfl⟩
 have g0:=df hH1
 have g1:=gE hH1 1 rfl
 have n1:H1.next=H.next+2:=hH1▸rfl
 rw[<- hH1];clear hH1;have l0:=ah g0;have l1:=ah g1;refine W.en (fun E=>E 2=.vec bs.length (bZ bs) /\ E 3=.lit (.int .u8 at') /\ E 4=.lit (.int .i64 n) /\ E 5=aj raw /\ E 6=.ptr H.next 0 0 /\ E 7=.ptr (H.next+1) 0 0) (by simp only[go_sem]) fun E ⟨e2,e3,e4,e5,e6,e7⟩=>?_
 refine W.sq ?_;simp only[go_sem,e6,l0];refine aw.clo (Pg d hd _ _ fun x hx=>⟨trivial,?_⟩);have hok:=hx.ok;have hf:=sH hok;have n8:=hok.n.n1;have h6:x.nodes.length<=6:=by have:=hx.n5;omega
 simp only[go_sem,CY,vf];obtain⟨H2,hH2⟩:∃H2,H2=ext H1 [.arr 0 38 [.lit (.int .i64 x.grain),.vec x.nodes.length (aY x.nodes),.lit (.int .u64 (x.decs:Int)),.vec x.utils.length (aO x.utils)]]:=⟨_,rfl⟩
 have k2:H2.get (H.next+2)=some (.arr 0 38 [.lit (.int .i64 x.grain),.vec x.nodes.length (aY x.nodes),.lit (.int .u64 (x.decs:Int)),.vec x.utils.length (aO x.utils)]):=by rw[hH2,<- n1];exact bX
 have k1:H2.get (H.next+1)=_:=(by rw[hH2];exact bb (by omega):H2.get (H.next+1)=H1.get (H.next+1)).trans g1;have n2:H2.next=H.next+3:=by rw[hH2,aS];simp;omega
 rw[<- hH2];clear hH2 g0 l0 l1 g1;have l2:=ah k2;refine W.sq ?_;simp only[go_sem,e2,n1,l2];refine aw.clo (Pm x hf hok bs hbl hb8 _ _ fun p hp=>⟨trivial,?_⟩);have hpf:=lT hok hp;have hpe:=nW hok hp;simp only[go_sem];refine W.en (fun E1=>E1 3=.lit (.int .u8 at') /\ E1 4=.lit (.int .i64 n) /\ E1 5=aj raw /\ E1 7=.ptr (H.next+1) 0 0 /\ E1 13=.ptr (H.next+2) 0 0 /\ E1 14=aj p) (by simp only[go_sem,e3,e4,e5,e7]) fun E1 ⟨f3,f4,f5,f7,f13,f14⟩=>?_
 clear e2 e3 e4 e5 e6 e7
  -- the policy with one number replaced
 have hp8:p.length<=8:=by rw[hp.len];have:(az x).length<=x.nodes.length:=fY;omega
 have hprow:∀r∈p,0<r.length/\r.length<=1024:=fun r hr=>by
  obtain⟨k,hk⟩:=SW.1 hr;have h1:=get_lt hk;rw[hp.len]at h1;obtain⟨v,hv⟩:=get_of_lt h1;obtain⟨v1,v2,v3⟩:=eE hv;obtain⟨y,hy⟩:=get_of_lt (l:=x.nodes) (i:=v) v1;have h2:=(hp.row k v y r hv hy hk).1;have h3:=oQ hok _ (SE (nE hv));unfold dq at h3;rw[hy]at h3;simp only at h3;omega
 obtain⟨A,hA⟩:∃A:Nat,A=(at' % ((cr p).length:Int)).toNat:=⟨_,rfl⟩
 have hfl:=zt p;have hrl:∀r∈p,(r.length:Int)<2 ^ 63:=fun r hr=>by have:=(hprow r hr).2;omega
 refine W.sq ?_;simp only[go_sem,f14];refine aw.clo (R7 p (by omega) hrl A (fun r _ h=>(hprow r (SE h)).1) _ _ fun bv wv H3 o3 hO hW=>⟨trivial,?_⟩);have n3:=o3.next;have bv1:=hO.one;have bvc:=hO.cells;simp only[go_sem];refine W.en (fun E3=>E3 3=.lit (.int .u8 at') /\ E3 4=.lit (.int .i64 n) /\ E3 5=aj raw /\ E3 7=.ptr (H.next+1) 0 0 /\ E3 13=.ptr (H.next+2) 0 0 /\ E3 14=aj p /\ E3 15=bv) (by simp only[go_sem,f3,f4,f5,f7,f13,f14]) fun E3 ⟨g3,g4,g5,g7,g13,g14,g15⟩=>?_
 clear f3 f4 f5 f7 f13 f14;refine W.seq ?_;refine W.me (Q':=fun e s2=>e=.normal/\∃q,Small4 q/\Fz (fun id=>H2.next<=id) s2.H s2.H.next (s2.ρ 15) (aj q)/\s2.ρ 5=aj raw/\s2.ρ 7=.ptr (H.next+1) 0 0/\s2.ρ 13=.ptr (H.next+2) 0 0/\s2.ρ 14=aj p/\H2.next<=s2.H.next/\∀i,i<H2.next->s2.H.get i=H2.get i) ?_ ?_;rotate_left
 ·rintro e s2 ⟨rfl,q,hq,hfz,b5,b7,b13,b14,b1,b2⟩;refine⟨_,cJ.NQ aE hfz,Nat.le_refl _,trivial,?_⟩;obtain⟨Hr,hHr⟩:∃Hr,Hr=s2.H.nI H2.next:=⟨_,rfl⟩
  have nr:H2.next<=Hr.next:=by rw[hHr];exact b1
  have ro:∀i,i<H2.next->Hr.get i=H2.get i:=fun i h=>by rw[hHr,NP h];exact b2 i h
  refine W.env fun E2 hE2=>?_;have c5:E2 5=aj raw:=by rw[hE2];simpa using b5
  have c7:E2 7=.ptr (H.next+1) 0 0:=by rw[hE2];simpa using b7
  have c13:E2 13=.ptr (H.next+2) 0 0:=by rw[hE2];simpa using b13
  have c14:E2 14=aj p:=by rw[hE2];simpa using b14
  have c15:E2 15=aj q:=by rw[hE2];simp
  clear hE2 hfz b5 b7 b13 b14;rw[<- hHr];clear hHr;have m1:=ah ((ro (H.next+1) (by omega)).trans k1);have m2:=ah ((ro (H.next+2) (by omega)).trans k2);obtain⟨hsx,hub,hdx⟩:=Lw hok;obtain⟨y0,cs0,hB⟩:∃y0 cs0,(y0,cs0)=iZ w w5 a r n5 n0 x:=⟨_,_,rfl⟩
  obtain⟨yf,yq,yl⟩:=Lv (w:=w) (w5:=w5) (a:=a) (r:=r) (n5:=n5) (n:=n0) (m:=1024) (by omega) hsx hub hf.decs hdx;rw[<- hB]at yf yq yl;simp only at yf yq yl;refine W.seq (W.seq ?_);refine W.dr 6 [0,0,0,6,15,0] mixed ?_;simp only[go_sem,c7,c13,m1,m2];refine⟨dw y0 cs0,[],bf.pure fun H9=>Lt w w5 a r n5 n0 hw hw5 ha hr x (aY x.nodes) (ya (fun _=>True) x.nodes) 1024 (by omega) hsx hub hf.decs hdx H9 _ fun y cs hy _ _ _=>by rw[<- hB]at hy;cases hy;exact⟨rfl,rfl⟩,?_⟩;simp only[go_sem,im,gG];have hsr:Small4 (cr raw):=⟨by have:=(tx raw).1;omega,fun r hr=>by have:=(tx raw).2 r hr;omega⟩
  have hsp:Small4 p:=⟨hp8,fun r hr=>(hprow r hr).2⟩
  refine W.en (fun E4=>E4 5=aj raw /\ E4 14=aj p /\ E4 15=aj q /\ E4 75=.agg [.lit (.int .i64 x.grain),.vec x.nodes.length (aY x.nodes),.lit (.int .u64 (x.decs:Int)),.vec x.utils.length (aO x.utils),.lit (.int .i64 y0.grain),.vec y0.nodes.length cs0,.lit (.int .u64 (y0.decs:Int)),.vec y0.utils.length (aO y0.utils)] /\ E4 76=aa 0) (by simp only[go_sem,c5,c14,c15]) fun E4 ⟨h5,h14,h15,h72,h73⟩=>?_
  clear c5 c7 c13 c14 c15;refine W.block ?_;refine W.aG 11417981541647679048466212197732235181032738816 (by rfl) (fun ρ Hx=>∃k:Nat,ρ 76=aa k/\k<=2/\Hr.next<=Hx.next) (fun ρ Hx=>2-(iv (ρ 76)).toNat) ?_ ?_
  ·simp only[go_sem,h73];exact⟨0,rfl,by omega⟩
  rintro ρ5 Hx ⟨k,hk,hk2,nx⟩;refine W.env fun E5 hE5=>?_;have i5:E5 5=aj raw:=by rw[hE5];simp only[go_sem,h5]
  have i14:E5 14=aj p:=by rw[hE5];simp only[go_sem,h14]
  have i15:E5 15=aj q:=by rw[hE5];simp only[go_sem,h15]
  have i72:=(show E5 75=E4 75 by rw[hE5];simp only[go_sem]).trans h72;have i73:E5 76=aa k:=by rw[hE5];simp only[go_sem,hk]
  clear hE5;by_cases hkb:(k:Int)<2;rotate_left
  ·refine W.vs ?_;simp only[go_sem,i73,hkb];refine W.vs ?_;simp only[go_sem];refine aw.clo (Sm _ _ ⟨trivial,?_⟩);simp only[go_sem];exact ar.mk (by omega) (hK _ (by omega))
  refine W.sq ?_;simp only[go_sem,i73,hkb];refine W.sq ?_;simp only[go_sem];refine W.seq (W.block ?_);refine W.ik (fun s'=>s'.ρ 5=aj raw/\s'.ρ 14=aj p/\s'.ρ 15=aj q/\s'.ρ 75=E5 75/\s'.ρ 76=aa k/\s'.ρ 18=.ptr Hx.next 0 0/\s'.H.next=Hx.next+1/\∃(y:InfP) (cs:List AVal),InfFit y/\NodesQ (fun v=>y.decs.testBit v=true) y.nodes cs/\y.nodes.length<=6/\s'.H.get Hx.next=some (.arr 0 38 [.lit (.int .i64 y.grain),.vec y.nodes.length cs,.lit (.int .u64 (y.decs:Int)),.vec y.utils.length (aO y.utils)])) ?_ ?_
  ·have hk01:k=0\/k=1:=(by omega);refine W.vs ?_;rcases hk01 with rfl|rfl
   ·simp only[go_sem,i5,i14,i15,i72,i73];exact⟨x,aY x.nodes,hf,ya _ _,h6,bX⟩
   ·simp only[go_sem,i5,i14,i15,i72,i73];exact⟨y0,cs0,yf,yq,by have:=hx.n5;omega,bX⟩
  rintro⟨ρ6,Ha⟩ ⟨j5,j14,j15,j72,j73,j18,na,y,cs,hyf,hyq,hy6,ga⟩;simp only at j5 j14 j15 j72 j73 j18 na ga;clear i5 i14 i15 i72 i73 h72;refine W.sq ?_;simp only[go_sem,j5,j14,j15];refine aw.clo (RZ raw hraw hrr _ _ ⟨trivial,?_⟩);simp only[go_sem];refine W.en (fun E6=>E6 18=.ptr Hx.next 0 0 /\ E6 76=aa k /\ E6 83=.agg [aj p,aj q,aj (cr raw)] /\ E6 84=aa 0) (by simp only[go_sem,j18,j73]) fun E6 ⟨a18,a73,a80,a81⟩=>?_
  refine W.block ?_;refine W.aG 5708990770823839524213801064684146483029610496 (by rfl) (fun ρ Hy=>∃m:Nat,ρ 84=aa m/\m<=3/\Ha.next<=Hy.next/\Hy.get Hx.next=Ha.get Hx.next) (fun ρ Hx=>3-(iv (ρ 84)).toNat) ?_ ?_
  ·simp only[go_sem,a81];exact⟨0,rfl,by omega⟩
  rintro ρ7 Hy ⟨m,hm,hm3,ny,gy⟩;rw[ga]at gy;refine W.env fun E7 hE7=>?_;have b18:E7 18=.ptr Hx.next 0 0:=by rw[hE7];simp only[go_sem,a18]
  have b73:E7 76=aa k:=by rw[hE7];simp only[go_sem,a73]
  have b80:=(show E7 83=E6 83 by rw[hE7];simp only[go_sem]).trans a80;have b81:E7 84=aa m:=by rw[hE7];simp only[go_sem,hm]
  clear hE7;by_cases hmb:(m:Int)<3;rotate_left
  ·refine W.vs ?_;simp only[go_sem,b81,hmb];have wk:=SF ((k:Int)+1) (by omega);refine W.vs ?_;simp only[go_sem,b73,wk];exact⟨by omega,⟨k+1,rfl,by omega,by omega⟩,by rw[hk];simp only[aa,aM];omega⟩
  refine W.sq ?_;simp only[go_sem,b81,hmb];refine W.sq ?_;simp only[go_sem];refine W.seq (W.block ?_);refine W.ik (fun s'=>s'.H=Hy/\s'.ρ 18=.ptr Hx.next 0 0/\s'.ρ 76=aa k/\s'.ρ 83=E7 83/\s'.ρ 84=aa m/\∃pp,Small4 pp/\s'.ρ 20=aj pp) ?_ ?_
  ·have hm012:m=0\/m=1\/m=2:=(by omega);refine W.vs ?_;rcases hm012 with rfl|rfl|rfl
   ·simp only[go_sem,b18,b73,b80,b81];exact⟨p,hsp,rfl⟩
   ·simp only[go_sem,b18,b73,b80,b81];exact⟨q,hq,rfl⟩
   ·simp only[go_sem,b18,b73,b80,b81];exact⟨cr raw,hsr,rfl⟩
  rintro⟨ρ8,Hq⟩ ⟨hH,d18,d73,d80,d81,pp,hpp,d20⟩;simp only at hH d18 d73 d80 d81 d20;rw[hH];clear hH Hq b18 b73 b80 b81;have hppf:=hpp.fit;have ly:=ah gy;obtain⟨aq,rq,q1,q2,rn,er,lc,hnil,hlen,hcase⟩:∃(aq:List (List Int)) (rq:AVal) (q1 q2 rn er:Int) (lc:Bool),oC rq aq/\((aq.length:Int)<2 ^ 62/\∀r∈aq,(r.length:Int)<2 ^ 62) /\
    ((cK y pp≠0/\rq=.lit (.slice none 0 0)/\aq=[]/\q1=0/\q2=0/\rn=0/\er=cK y pp/\lc=false) \/
     (InfOk y/\PolOk y pp/\rq=aj aq/\(∃n:Nat,rn=n/\Imp y pp aq n)/\isLocal y aq/\dV (bW y aq) (y.grain ^ y.nodes.length)=.agg [.lit (.int .i64 q1),.lit (.int .i64 q2)]/\er=0/\lc=decide (isLocal y pp))):=by
   by_cases he:cK y pp=0
   ·obtain⟨o1,o2⟩:=zc he;obtain⟨q,n,hI,hl⟩:=NS o1 hy6 o2;obtain⟨q1,q2,hqq⟩:∃q1 q2,dV (bW y q) (y.grain ^ y.nodes.length)=.agg [.lit (.int .i64 q1),.lit (.int .i64 q2)]:=⟨_,_,rfl⟩
    have hf:=lT o1 hI.ok;exact⟨q,aj q,q1,q2,n,0,decide (isLocal y pp),.inl rfl,⟨by have:=hf.1;omega,fun r hr=>by have:=hf.2 r hr;omega⟩,.inr ⟨o1,o2,rfl,⟨n,rfl,hI⟩,hl,hqq,rfl,rfl⟩⟩
   ·exact⟨[],.lit (.slice none 0 0),0,0,0,cK y pp,false,.inr ⟨rfl,rfl⟩,⟨by simp,fun r h=>by simp at h⟩,.inl ⟨he,rfl,rfl,rfl,rfl,rfl,rfl,rfl⟩⟩
  have hloc:qN y pp=lc/\cK y pp=er:=by
   unfold qN;rcases hcase with ⟨a,_,_,_,_,_,c,e⟩|⟨o1,o2,_,_,_,_,c,e⟩
   ·rw[SI a,c,e];exact⟨rfl,rfl⟩
   ·have he:=qC.2 ⟨o1,o2⟩;rw[SK he,e,he,c];exact⟨rfl,rfl⟩
  have himp:∀(K:ARes->AHeap->Prop) (H:AHeap),K (.ret (.tup [rq,.agg [.lit (.int .i64 q1),.lit (.int .i64 q2)],aa rn,aa er])) H->ag prog G0 11 [dw y cs,aj pp] H K:=fun K H hK=>by
   refine BO y cs hyq pp (NT y hyf hy6 pp hppf H K (fun h=>?_) fun h1 h2 q n h3 h4=>?_)
   ·rcases hcase with ⟨_,a,_,b,c,e,f,_⟩|⟨a,b,_⟩
    ·rw[<- a,<- f];rw[b,c,e]at hK;exact hK
    ·exact absurd (qC.2 ⟨a,b⟩) h
   ·rcases hcase with ⟨a,_⟩|⟨_,_,a,⟨m,b,c⟩,e,f,g,_⟩
    ·exact absurd (qC.2 ⟨h1,h2⟩) a
    ·obtain⟨e1,e2⟩:=h3.uniq h4 c e;rw[e1,e2,f,<- a,show aa (m:Int)=aa rn by rw[b],show (0:Int)=er from g.symm];exact hK
  refine W.sq ?_;simp only[go_sem,d18,d20,ly];refine aw.clo (BO y cs hyq pp (vS y hyf hy6 pp hppf _ _ ⟨trivial,?_⟩));rw[hloc.1,hloc.2];simp only[go_sem];refine W.env fun E8 hE8=>?_;have k18:E8 18=.ptr Hx.next 0 0:=by rw[hE8];simp only[go_sem,d18]
  have k20:E8 20=aj pp:=by rw[hE8];simp only[go_sem,d20]
  have k21:E8 21=.lit (.bool lc):=by rw[hE8];simp only[go_sem]
  have k22:E8 22=aa er:=by rw[hE8];simp only[go_sem]
  have k76:E8 76=aa k:=by rw[hE8];simp only[go_sem,d73]
  have k83:=(show E8 83=ρ8 83 by rw[hE8];simp only[go_sem]).trans d80;have k84:E8 84=aa m:=by rw[hE8];simp only[go_sem,d81]
  clear hE8 d18 d20 d73 d80 d81;refine W.sq ?_;simp only[go_sem,k18,k20,ly];refine aw.clo (himp _ _ ⟨trivial,?_⟩);have rq1:=hnil.one.1;have rqc:=hnil.one.2;simp only[go_sem];refine W.sq ?_;simp only[go_sem];refine W.sq ?_;simp only[go_sem];refine W.sq ?_;simp only[go_sem];obtain⟨Hd,hHd⟩:∃Hd,Hd=ext Hy [.arr 0 50 [.lit (.int .i64 q1),.lit (.int .i64 q2)],.arr 0 50 [.lit (.int .i64 0),.lit (.int .i64 0)]]:=⟨_,rfl⟩
  have gd2:=df hHd
  have gd3:=gE hHd 1 rfl
  have od:Over Hy Hd:=hHd▸.ext _ _
  have nd:Hd.next=Hy.next+2:=by rw[hHd,aS];simp
  have gd0:=(od.old _ (by omega)).trans gy;rw[<- hHd];clear hHd;have ld0:=ah gd0;have ld3:=ah gd3;refine W.en (fun E9=>E9 18=.ptr Hx.next 0 0 /\ E9 20=aj pp /\ E9 21=.lit (.bool lc) /\ E9 22=aa er /\ E9 23=rq /\ E9 24=.ptr Hy.next 0 0 /\ E9 25=aa rn /\ E9 26=aa er /\ E9 27=.lit (.slice none 0 0) /\ E9 28=.ptr (Hy.next+1) 0 0 /\ E9 29=.lit (.bool false) /\ E9 30=aa 0 /\ E9 31=aa 0 /\ E9 76=aa k /\ E9 84=aa m) (by simp only[go_sem,k18,k20,k21,k22,k76,k84]) fun E9 ⟨o18,o20,o21,o22,o23,o24,o25,o26,o27,o28,o29,o30,o31,o76,o84⟩=>?_
  clear k18 k20 k21 k22 k76 k83 k84;refine W.ik (fun s'=>s'.ρ 21=.lit (.bool lc)/\s'.ρ 22=aa er/\s'.ρ 23=rq/\s'.ρ 24=.ptr Hy.next 0 0/\s'.ρ 25=aa rn/\s'.ρ 26=aa er/\(∃wv,oC wv aq/\s'.ρ 27=wv)/\s'.ρ 28=.ptr (Hy.next+1) 0 0/\s'.ρ 29=.lit (.bool lc)/\s'.ρ 30=aa rn/\s'.ρ 31=aa er/\s'.ρ 76=aa k/\s'.ρ 84=aa m/\s'.H.next=Hd.next/\(∀i,i<Hy.next+1->s'.H.get i=Hd.get i)/\s'.H.get (Hy.next+1)=some (.arr 0 50 [.lit (.int .i64 q1),.lit (.int .i64 q2)])) ?_ ?_
  ·refine W.block ?_;by_cases hok1:InfOk y;rotate_left
   ·have he:cK y pp=200:=(by unfold cK;rw[eV hok1];rfl);rcases hcase with ⟨_,_,z1,z2,z3,z4,z5,z6⟩|⟨a,_⟩
    rotate_left
    ·exact absurd a hok1
    have z5':er=200:=(by rw[z5,he]);refine W.sq ?_;simp only[go_sem,o18,ld0];refine aw.clo (Eb y cs hyq hyf _ _ ⟨trivial,?_⟩);rw[eV hok1];simp only[go_sem];refine W.cond (t:=true) rfl ?_;refine W.vs ?_;simp only[go_sem,o21,o22,o23,o24,o25,o26,o27,o28,o29,o30,o76,o84,z4,z5',z6];exact⟨⟨_,.inr ⟨rfl,z1⟩,rfl⟩,by rw[z2,z3];exact gd3⟩
   refine W.sq ?_;simp only[go_sem,o18,ld0];refine aw.clo (Eb y cs hyq hyf _ _ ⟨trivial,?_⟩);rw[dU hok1];simp only[go_sem];refine W.cond (t:=false) rfl ?_;by_cases hok2:PolOk y pp;rotate_left
   ·have he:cK y pp=201:=(by unfold cK;rw[dU hok1,eV hok2];rfl);rcases hcase with ⟨_,_,z1,z2,z3,z4,z5,z6⟩|⟨_,a,_⟩
    rotate_left
    ·exact absurd a hok2
    have z5':er=201:=(by rw[z5,he]);refine W.sq ?_;simp only[go_sem,o18,o20,ld0];refine aw.clo (Ed y cs hyq hyf hok1 pp hppf _ _ ⟨trivial,?_⟩);rw[eV hok2];simp only[go_sem];refine W.cond (t:=true) rfl ?_;refine W.vs ?_;simp only[go_sem,o21,o22,o23,o24,o25,o26,o27,o28,o29,o30,o76,o84,z4,z5',z6];exact⟨⟨_,.inr ⟨rfl,z1⟩,rfl⟩,by rw[z2,z3];exact gd3⟩
   rcases hcase with ⟨a,_⟩|⟨_,_,_,⟨nn,z1,hI⟩,hl,hqq,z5,z6⟩
   ·exact absurd (qC.2 ⟨hok1,hok2⟩) a
   refine W.sq ?_;simp only[go_sem,o18,o20,ld0];refine aw.clo (Ed y cs hyq hyf hok1 pp hppf _ _ ⟨trivial,?_⟩);rw[dU hok2];simp only[go_sem];refine W.cond (t:=false) rfl ?_;refine W.vs ?_;simp only[go_sem,o18,o20,ld0];refine aw.clo (BN y cs hyq hyf hok1 hy6 pp hok2 _ _ ⟨trivial,?_⟩);rw[<- z6];simp only[go_sem,o18,o20,ld0];refine aw.clo (NO y cs hyq hyf hok1 hy6 pp hok2 _ _ fun q n h3 h4=>⟨trivial,?_⟩);obtain⟨e1,e2⟩:=h3.uniq h4 hI hl;rw[e1,e2,show aa (nn:Int)=aa rn by rw[z1]];simp only[go_sem,o18,ld0];refine aw.clo (RV y cs hyq hyf hok1 hy6 aq hI.ok _ _ ⟨trivial,?_⟩);rw[yp hok1 hI.ok,hqq];simp only[go_sem,o21,o22,o23,o24,o25,o26,o28,o31,o76,o84,ld3];exact⟨⟨_,.inl rfl,rfl⟩,by rw[z5],by rw[au],fun i hi=>by rw[ae,SI (by omega)],by rw[ae,SK rfl]⟩
  rintro⟨ρ9,Hf⟩ ⟨p21,p22,p23,p24,p25,p26,⟨wq,hwq,p27⟩,p28,p29,p30,p31,p76,p84,nf,of,gf3⟩;simp only at p21 p22 p23 p24 p25 p26 p27 p28 p29 p30 p31 p76 p84 nf of gf3;clear o18 o20 o21 o22 o23 o24 o25 o26 o27 o28 o29 o30 o31 o76 o84;have lf2:=ah ((of Hy.next (by omega)).trans gd2);have lf3:=ah gf3;have nq:∀o1 o2,bx prog .neq 50 o1 o2 (.agg [.lit (.int .i64 q1),.lit (.int .i64 q2)]) (.agg [.lit (.int .i64 q1),.lit (.int .i64 q2)])=some (.lit (.bool false)):=fun o1 o2=>by rw[LO];simp
  have wm:=SF ((m:Int)+1) (by omega);refine W.vs ?_;have nb:∀o1 o2,bx prog .neq 4 o1 o2 (.lit (.bool lc)) (.lit (.bool lc))=some (.lit (.bool false)):=fun o1 o2=>by cases lc<;>rfl
  simp only[go_sem,p21,p22,p23,p24,p25,p26,p27,p28,p29,p30,p31,lf2,lf3,nq,nb];refine aw.clo (SC hnil hwq hlen.1 hlen.2 _ _ ⟨trivial,?_⟩);rw[Tm rfl];simp only[go_sem];refine W.vs ?_;simp only[go_sem,p84,wm];exact⟨by omega,⟨m+1,rfl,by omega,by omega,by rw[of _ (by omega),gd0,ga]⟩,by rw[hm];simp only[aa,aM];omega⟩
 have hsm:Small4 (cr p):=⟨by rw[hfl];omega,fun r hr=>by have:=(tx p).2 r hr;omega⟩
 have hcln:(gU p A (cr p).length wv).length=(cr p).length:=by unfold gU;rw[SO,TC,SM]
 have hbl0:dY H3 bv=some (aa (cr p).length):=by
  rcases hO with ⟨h1,h2⟩|⟨i,g',_,_,h1,h2⟩
  ·have:(cr p).length=0:=(by rw[<- hcln,h2];rfl);rw[h1,this];rfl
  ·rw[h1];unfold dY;simp[ah h2,hcln,aa]
 by_cases hl0:(cr p).length=0
 ·have hli:((cr p).length:Int)=0:=by omega
  refine W.sq ?_;simp only[go_sem,g15,hbl0,hl0];refine W.vs ?_;simp only[go_sem];refine⟨cr p,hsm,?_,g5,g7,g13,g14,n3,o3.old⟩;have e0:cr p=[]:=SP hl0;have:=rT (S:=fun i=>H2.next<=i) (nx:=H3.next) (cs':=[]) hO (fun i _ h _ _=>h) (by rw[hcln,e0];rfl) fun i hi _=>absurd hi (by rw[hcln];omega);rw[e0,g15];exact this
 have hl1:0<(cr p).length:=by omega
 have hl1i:(0:Int)<(cr p).length:=by omega
 have hl1n:¬((cr p).length:Int)=0:=by omega
 have hAe:Int.tmod at' (cr p).length=A:=by rw[Ta hat.1];have:=TP at' hl1n;omega
 have hAl:A<(cr p).length:=by have:=TO at' hl1i;have:=TP at' hl1n;omega
 have hAi:(A:Int)<(cr p).length:=by omega
 obtain⟨q0,hq0⟩:=get_of_lt hAl;have hq0l:0<q0.length/\q0.length<=70:=by
  refine⟨?_,(tx p).2 q0 (SE hq0)⟩;unfold cr at hq0;rw[List.getElem?_map]at hq0;obtain⟨l,hl,rfl⟩:=SG.1 hq0;have h1:=get_lt hl;rw[SN]at h1;rw[Tf (by omega)]at hl;have:=hprow l (SE hl);rw[SN];omega
 have hWr:=hW q0 hq0;rcases hO with ⟨_,h2⟩|⟨ib,gb,i1,i2,i3,i4⟩
 ·rw[h2]at hcln;simp at hcln;omega
 rcases hWr with ⟨_,h2⟩|⟨iw,gw,j1,j2,j3,j4⟩
 ·have:=congrArg List.length h2;rw[aH,List.length_nil]at this;omega
 rw[hcln]at i3;rw[aH]at j3;obtain⟨cb,hcb⟩:∃cb,cb=gU p A (cr p).length wv:=⟨_,rfl⟩
 rw[<- hcb]at i4 hcln;have lb:=ah i4;have lw:=ah j4;have cA:cb[A]?=some (.own iw gw 0 q0.length 1):=by rw[hcb];unfold gU;rw[SX (by rw[TC,SM];exact hAl),j3]
 have cne:=aJ cA;have wat:=SF at' (by omega);have wA:=SF (A:Int) (by omega);have hq0i:(0:Int)<q0.length:=by omega
 have hq0n:¬(q0.length:Int)=0:=by omega
 have hd4:Int.tdiv at' 4=at' / 4:=Tw hat.1;have wd8:IntKind.u8.wrap (at' / 4)=at' / 4:=by have h1:IntKind.u8.wrap (at' / 4)=(at' / 4) % 256:=rfl;omega
 have wd:=SF (at' / 4) (by omega);obtain⟨J,hJ⟩:∃J:Nat,J=((at' / 4) % (q0.length:Int)).toNat:=⟨_,rfl⟩
 have hJe:Int.tmod (at' / 4) q0.length=J:=by rw[Ta (by omega)];have:=TP (at' / 4) hq0n;omega
 have hJl:J<q0.length:=by have:=TO (at' / 4) hq0i;have:=TP (at' / 4) hq0n;omega
 have hJi:(J:Int)<q0.length:=by omega
 have wJ:=SF (J:Int) (by omega);have qne:¬ints q0=[]:=fun h=>by have:=congrArg List.length h;rw[aH,List.length_nil]at this;omega
 have e1:setAt (ints q0) J [.lit (.int .i64 n)]=ints (q0.set J n):=fD hJl;refine W.sq ?_;simp only[go_sem,g3,g15,i3,lb,cA,hl1i,hl1n,hAe,hAi,wat,lw,hq0i];refine W.cond (t:=true) rfl ?_;refine W.vs ?_;simp only[go_sem,g3,g4,g15,i3,lb,cA,hl1n,hAe,hAi,wat,lw,hq0n,hd4,wd8,wd,hJe,hJi,e1];refine⟨by omega,(cr p).set A (q0.set J n),⟨by rw[SO,hfl];omega,fun r hr=>?_⟩,?_,g5,g7,g13,g14,by rw[au];exact n3,fun i h=>by rw[ae,SI (by omega)];exact o3.old i h⟩
 ·rcases Tg hr with h|rfl
  ·have:=(tx p).2 r h;omega
  ·rw[SO];omega
 ·have hne:ib≠iw:=fun h=>by
   rw[h,j4]at i4;cases i4
  have e:aj ((cr p).set A (q0.set J n))=.vec (cr p).length (((cr p).set A (q0.set J n)).map af):=by unfold aj;rw[SO]
  rw[e];refine .frz (show H2.next<=ib from i1) (by rw[ae,SI hne];exact i4) (by simp) fun j hj h2 h'=>?_;simp only[Nat.zero_add]at h2 ⊢;have e1:=SJ h2;generalize cb[j]=u at e1 ⊢;rw[SV,Ur];split
  ·rename_i e;subst e;rw[cA]at e1;cases e1;unfold af;rw[SO];refine .frz (show H2.next<=iw from j1) (by rw[ae,SK rfl]) (by rw[aH,SO,Nat.mul_one]) fun i hi h3 h4=>?_;simp only[Nat.zero_add,ints,SV];exact .lit _
  ·rename_i e;rw[hcb]at e1;unfold gU at e1;rw[S3 e,TC,List.getElem?_map,SJ (by rw[SM,SO]at h';exact h')]at e1;cases e1;exact .cI _
end Go.Proofs
